/-
  The model's cursor: the first error sticks.
-/
import Derived.Test.Qxb6500316aNuA
set_option linter.unusedSimpArgs false
set_option linter.unusedVariables false
set_option maxRecDepth 100000
set_option linter.unusedSectionVars false
namespace Go.Proofs.Qxb6500316a
open Go Go.Vc

/-- The cursor, no error yet. -/
structure RdL (w : World) (rb : Nat) (s : ByteArray) (p e : Nat) : Prop where
  c0 : w.cell? ⟨rb, 0, none⟩ = some (.string s)
  c1 : w.cell? ⟨rb, 1, none⟩ = some (.int .i64 p)
  c2 : w.cell? ⟨rb, 2, none⟩ = some (.int .i64 e)
  c3 : w.cell? ⟨rb, 3, none⟩ = some (.int .i64 0)
  c4 : ∃ a : Int, w.cell? ⟨rb, 4, none⟩ = some (.int .i64 a)
  f : ∀ j, w.frozen? ⟨rb, j, none⟩ = false
/-- The cursor behind an error. -/
structure RdX (w : World) (rb : Nat) (s : ByteArray) (n x : Int) : Prop where
  c0 : w.cell? ⟨rb, 0, none⟩ = some (.string s)
  c1 : ∃ p : Int, w.cell? ⟨rb, 1, none⟩ = some (.int .i64 p)
  c2 : ∃ e : Int, w.cell? ⟨rb, 2, none⟩ = some (.int .i64 e)
  c3 : w.cell? ⟨rb, 3, none⟩ = some (.int .i64 n)
  c4 : w.cell? ⟨rb, 4, none⟩ = some (.int .i64 x)
  n0 : n ≠ 0
  f : ∀ j, w.frozen? ⟨rb, j, none⟩ = false
section
variable {w w' : World} {rb p e : Nat} {s : ByteArray} {n x : Int}
theorem RdL.lt (h : RdL w rb s p e) : rb < w.heap.size := cell_lt h.c0
theorem RdX.lt (h : RdX w rb s n x) : rb < w.heap.size := cell_lt h.c0
theorem RdL.drew (h : RdL w rb s p e) : RdL w.drew rb s p e := ⟨h.c0, h.c1, h.c2, h.c3, h.c4, h.f⟩
theorem RdX.drew (h : RdX w rb s n x) : RdX w.drew rb s n x := ⟨h.c0, h.c1, h.c2, h.c3, h.c4, h.n0, h.f⟩
theorem RdL.same (h : RdL w rb s p e) {S : List Nat} {B : Nat} (hs : Same S B w w') (hb : rb < B) (hS : rb ∉ S) : RdL w' rb s p e :=
  ⟨by rw [hs.cell hb hS]; exact h.c0, by rw [hs.cell hb hS]; exact h.c1, by rw [hs.cell hb hS]; exact h.c2, by rw [hs.cell hb hS]; exact h.c3, by rw [hs.cell hb hS]; exact h.c4, fun j => by rw [hs.frozen hb hS]; exact h.f j⟩
theorem RdX.same (h : RdX w rb s n x) {S : List Nat} {B : Nat} (hs : Same S B w w') (hb : rb < B) (hS : rb ∉ S) : RdX w' rb s n x :=
  ⟨by rw [hs.cell hb hS]; exact h.c0, by rw [hs.cell hb hS]; exact h.c1, by rw [hs.cell hb hS]; exact h.c2, by rw [hs.cell hb hS]; exact h.c3, by rw [hs.cell hb hS]; exact h.c4, h.n0, fun j => by rw [hs.frozen hb hS]; exact h.f j⟩
theorem RdL.set1 (h : RdL w rb s p e) (q : Nat) : RdL (w.setCell ⟨rb, 1, none⟩ (.int .i64 (q : Int))) rb s q e :=
  ⟨by rw [cell_set _ _ _ _ _ h.c0]; rfl, by rw [cell_set _ _ _ _ _ h.c1]; rfl, by rw [cell_set _ _ _ _ _ h.c2]; rfl, by rw [cell_set _ _ _ _ _ h.c3]; rfl, by obtain ⟨a, h4⟩ := h.c4; exact ⟨a, by rw [cell_set _ _ _ _ _ h4]; rfl⟩, fun j => by simpa using h.f j⟩
theorem RdL.set2 (h : RdL w rb s p e) (q : Nat) : RdL (w.setCell ⟨rb, 2, none⟩ (.int .i64 (q : Int))) rb s p q :=
  ⟨by rw [cell_set _ _ _ _ _ h.c0]; rfl, by rw [cell_set _ _ _ _ _ h.c1]; rfl, by rw [cell_set _ _ _ _ _ h.c2]; rfl, by rw [cell_set _ _ _ _ _ h.c3]; rfl, by obtain ⟨a, h4⟩ := h.c4; exact ⟨a, by rw [cell_set _ _ _ _ _ h4]; rfl⟩, fun j => by simpa using h.f j⟩
theorem RdX.set2 (h : RdX w rb s n x) (q : Int) : RdX (w.setCell ⟨rb, 2, none⟩ (.int .i64 q)) rb s n x := by
  obtain ⟨p, h1⟩ := h.c1; obtain ⟨e, h2⟩ := h.c2
  exact ⟨by rw [cell_set _ _ _ _ _ h.c0]; rfl, ⟨p, by rw [cell_set _ _ _ _ _ h1]; rfl⟩, ⟨q, by rw [cell_set _ _ _ _ _ h2]; rfl⟩, by rw [cell_set _ _ _ _ _ h.c3]; rfl, by rw [cell_set _ _ _ _ _ h.c4]; rfl, h.n0, fun j => by simpa using h.f j⟩
theorem RdL.fail (h : RdL w rb s p e) (hn : n ≠ 0) : RdX ((w.setCell ⟨rb, 3, none⟩ (.int .i64 n)).setCell ⟨rb, 4, none⟩ (.int .i64 x)) rb s n x := by
  obtain ⟨a, h4⟩ := h.c4
  have k0 : (w.setCell ⟨rb, 3, none⟩ (.int .i64 n)).cell? ⟨rb, 0, none⟩ = some (.string s) := by rw [cell_set _ _ _ _ _ h.c0]; rfl
  have k1 : (w.setCell ⟨rb, 3, none⟩ (.int .i64 n)).cell? ⟨rb, 1, none⟩ = some (.int .i64 p) := by rw [cell_set _ _ _ _ _ h.c1]; rfl
  have k2 : (w.setCell ⟨rb, 3, none⟩ (.int .i64 n)).cell? ⟨rb, 2, none⟩ = some (.int .i64 e) := by rw [cell_set _ _ _ _ _ h.c2]; rfl
  have k3 : (w.setCell ⟨rb, 3, none⟩ (.int .i64 n)).cell? ⟨rb, 3, none⟩ = some (.int .i64 n) := by rw [cell_set _ _ _ _ _ h.c3]; rfl
  have k4 : (w.setCell ⟨rb, 3, none⟩ (.int .i64 n)).cell? ⟨rb, 4, none⟩ = some (.int .i64 a) := by rw [cell_set _ _ _ _ _ h4]; rfl
  exact ⟨by rw [cell_set _ _ _ _ _ k0]; rfl, ⟨p, by rw [cell_set _ _ _ _ _ k1]; rfl⟩, ⟨e, by rw [cell_set _ _ _ _ _ k2]; rfl⟩, by rw [cell_set _ _ _ _ _ k3]; rfl, by rw [cell_set _ _ _ _ _ k4]; rfl, hn, fun j => by simpa using h.f j⟩
end

/-- The cursor as a reading has left it. -/
def StR {α : Type} (w : World) (rb : Nat) (s : ByteArray) (e lo : Nat) : Res α → Prop
  | .ok _ q => lo ≤ q ∧ q ≤ e ∧ RdL w rb s q e
  | .err n x => RdX w rb s n x
section
variable {α β γ : Type} {w w' : World} {rb e lo : Nat} {s : ByteArray}
theorem StR.lt {r : Res α} (h : StR w rb s e lo r) : rb < w.heap.size := by
  cases r using Res.cs with
  | ok a q => exact h.2.2.lt
  | err n x => exact RdX.lt h
theorem StR.drew {r : Res α} (h : StR w rb s e lo r) : StR w.drew rb s e lo r := by
  cases r using Res.cs with
  | ok a q => exact ⟨h.1, h.2.1, h.2.2.drew⟩
  | err n x => exact RdX.drew h
theorem StR.same {r : Res α} (h : StR w rb s e lo r) {S : List Nat} {B : Nat} (hs : Same S B w w') (hb : rb < B) (hS : rb ∉ S) : StR w' rb s e lo r := by
  cases r using Res.cs with
  | ok a q => exact ⟨h.1, h.2.1, h.2.2.same hs hb hS⟩
  | err n x => exact RdX.same h hs hb hS
theorem StR.c1 {r : Res α} (h : StR w rb s e lo r) : ∃ p : Int, w.cell? ⟨rb, 1, none⟩ = some (.int .i64 p) ∧ ∀ a q, r = .ok a q → p = (q : Int) := by
  cases r using Res.cs with
  | ok a q => exact ⟨_, h.2.2.c1, by intro a q hh; (first | (injection hh with z__; injection z__ with h1 h2) | injection hh with h1 h2); rw [h2]⟩
  | err n x => obtain ⟨p, h1⟩ := RdX.c1 h; exact ⟨p, h1, by intro a q hh; cases hh⟩
theorem StR.c3 {r : Res α} (h : StR w rb s e lo r) : ∃ x : Int, w.cell? ⟨rb, 3, none⟩ = some (.int .i64 x) ∧ (∀ a q, r = .ok a q → x = 0) ∧ (∀ n a, r = .err n a → x = n ∧ x ≠ 0) := by
  cases r using Res.cs with
  | ok a q => exact ⟨_, h.2.2.c3, fun _ _ _ => rfl, by intro n a hh; cases hh⟩
  | err n x => exact ⟨_, RdX.c3 h, (by intro a q hh; cases hh), (by intro n a hh; (first | (injection hh with z__; injection z__ with h1 h2) | injection hh with h1 h2); exact ⟨h1, by have := RdX.n0 h; exact this⟩)⟩
theorem StR.re {r : Res α} {r' : Res β} (h : StR w rb s e lo r) (ho : ∀ a q, r = .ok a q → ∃ b, r' = .ok b q) (he : ∀ n x, r = .err n x → r' = .err n x) : StR w rb s e lo r' := by
  cases r using Res.cs with
  | ok a q => obtain ⟨b, hb⟩ := ho a q rfl; rw [hb]; exact h
  | err n x => rw [he n x rfl]; exact h
end

theorem Res.bind_ok' {α β : Type} (a : α) (q : Nat) (f : α → Nat → Res β) : (Res.ok a q).bind f = f a q := rfl
theorem Res.bind_err' {α β : Type} (n x : Int) (f : α → Nat → Res β) : (Res.err n x : Res α).bind f = .err n x := rfl
theorem Res.bind_bind {α β γ : Type} (r : Res α) (f : α → Nat → Res β) (g : β → Nat → Res γ) : (r.bind f).bind g = r.bind fun a q => (f a q).bind g := by cases r <;> rfl

def numR : Res Int → Int
  | .ok a _ => a
  | .err _ _ => 0
def natR : Res Nat → Nat
  | .ok a _ => a
  | .err _ _ => 0
def strR : Res ByteArray → ByteArray
  | .ok a _ => a
  | .err _ _ => eB

/-- The call goes on from where the cursor stands. -/
def MRuns {α β : Type} (id : FuncId) (args : Array Value) (w : World) (rb : Nat) (s : ByteArray) (e lo : Nat) (r0 : Res α) (f : α → Nat → Res β) (V : Res β → Value → Prop) : Prop :=
  Runs Try.prog id args w fun v w' => V (r0.bind f) v ∧ StR w' rb s e lo (r0.bind f) ∧ Same [rb] w.heap.size w w'

theorem MRuns.into {α β : Type} {id : FuncId} {args : Array Value} {w : World} {rb : Nat} {s : ByteArray} {e lo : Nat} {r0 : Res α} {f : α → Nat → Res β} {V : Res β → Value → Prop} (h : MRuns id args w rb s e lo r0 f V)
    {R Q : Value → World → Prop} (hr : ∀ v w', V (r0.bind f) v → StR w' rb s e lo (r0.bind f) → Same [rb] w.heap.size w w' → R v w') : RunsQ Try.prog id args w R Q :=
  RunsQ.mono h (by rintro v w' ⟨h1, h2, h3⟩; exact hr v w' h1 h2 h3) (by rintro v w' ⟨⟩)

section
variable {α : Type} {w : World} {rb e lo : Nat} {s : ByteArray} {r0 : Res α}

/-! ### fail -/
theorem fail_spec {β : Type} (h : StR w rb s e lo r0) (n x : Int) (hn : n ≠ 0) : MRuns binm_rd_fail.id #[rp rb, .int .i64 n, .int .i64 x] w rb s e lo r0 (fun _ _ => (.err n x : Res β)) (fun _ v => v = .tuple #[]) := by
  refine binm_rd_fail.enter _ _ _ _ _ _ ?_
  unfold binm_rd_fail.V
  simp only [nilV_some, Nat.zero_add]
  cases r0 using Res.cs with
  | ok a q =>
    have h := h.2.2
    refine ⟨_, h.c3, cond_true' rfl ⟨⟨⟨_, h.c3⟩, h.f 3⟩, letW_intro fun w7 hw7 => ?_⟩⟩
    obtain ⟨a4, h4⟩ := h.c4
    have k4 : w7.cell? ⟨rb, 4, none⟩ = some (.int .i64 a4) := by rw [hw7, cell_set _ _ _ _ _ h4]; rfl
    refine ⟨⟨⟨_, k4⟩, by rw [hw7]; simpa using h.f 4⟩, letW_intro fun w9 hw9 => ?_⟩
    refine ⟨by trivial, ?_, ?_⟩
    · rw [hw9, hw7]; exact h.fail hn
    · rw [hw9, hw7]; exact ((Same.refl _ _ _).setCell (.inr (by simp)) _).setCell (.inr (by simp)) _
  | err n' x' =>
    have h : RdX w rb s n' x' := h
    refine ⟨_, h.c3, cond_false' (by simpa using h.n0) ⟨by trivial, h, Same.refl _ _ _⟩⟩

/-! ### byte -/
theorem byte_spec (h : StR w rb s e lo r0) (he : e ≤ s.size) (hs : s.size ≤ 1024) : MRuns binm_rd_byte.id #[rp rb] w rb s e lo r0 (fun _ p => nextP s e p) (fun r v => v = .int .i64 (numR r)) := by
  refine binm_rd_byte.enter _ _ _ _ ?_
  unfold binm_rd_byte.V
  simp only [nilV_some, Nat.zero_add, true_and]
  cases r0 using Res.cs with
  | ok a q =>
    obtain ⟨h1, h2, h⟩ := h
    have hd := h.drew
    refine ⟨_, h.c3, cond_false' rfl ?_⟩
    refine ⟨_, hd.c1, _, hd.c2, ?_⟩
    rw [Res.bind_ok']
    by_cases hq : q < e
    · refine cond_false' (decide_eq_false (by omega)) ⟨_, hd.c1, ⟨⟨_, hd.c1⟩, hd.f 1⟩, letW_intro fun w15 hw15 => ?_⟩
      have e1 : IntKind.wrap .i64 ((q : Int) + 1) = ((q + 1 : Nat) : Int) := by rw [wrap_i64 (by omega) (by omega)]; omega
      rw [e1] at hw15
      have k : RdL w15 rb s (q + 1) e := by rw [hw15]; exact hd.set1 (q + 1)
      have kd := k.drew
      have e2 : IntKind.wrap .i64 (((q + 1 : Nat) : Int) - 1) = (q : Int) := by rw [wrap_i64 (by omega) (by omega)]; omega
      refine ⟨_, kd.c0, _, kd.c1, ?_⟩
      rw [e2]
      refine ⟨⟨by omega, by omega⟩, ?_⟩
      rw [nextP_in hq]
      refine ⟨?_, ⟨by omega, by omega, kd⟩, ?_⟩
      · have := nb_lt s q
        rw [Int.toNat_natCast, byteAt_nb, wrap_i64 (by omega) (by omega)]
        rfl
      · rw [hw15]; exact ((Same.refl _ _ _).drew.setCell (.inr (by simp)) _).drew
    · refine cond_true' (decide_eq_true (by omega)) ⟨_, hd.c1, ?_⟩
      have H : StR w.drew rb s e lo (.ok a q : Res α) := ⟨h1, h2, hd⟩
      refine (fail_spec (β := Int) H 3 (q : Int) (by decide)).into fun v w' hv hst hS => ⟨hv, ?_⟩
      rw [nextP_out hq]
      have : q = e := by omega
      subst this
      exact ⟨rfl, hst, ((Same.refl _ _ _).drew).trans hS⟩
  | err n x =>
    have h : RdX w rb s n x := h
    refine ⟨_, h.c3, cond_true' (by simpa using h.n0) ⟨rfl, h, Same.refl _ _ _⟩⟩
end
end Go.Proofs.Qxb6500316a
