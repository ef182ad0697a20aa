/-
  The reader: one byte, a number, a count, a window.
-/
import Derived.Test.Qxb6500316aGen
set_option linter.unusedSimpArgs false
set_option linter.unusedVariables false
set_option maxRecDepth 100000
namespace Go.Proofs.Qxb6500316a
open Go Go.Vc

def faultV (c a : Int) : Value := .iface T_bin_fault (.agg #[.int .i64 c, .int .i64 a])

/-- The reader in block rb: the text, the place, the window's end, the scratch's block. -/
structure RdAt (w : World) (rb : Nat) (s : ByteArray) (p e b : Nat) : Prop where
  c0 : w.cell? ⟨rb, 0, none⟩ = some (.string s)
  c1 : w.cell? ⟨rb, 1, none⟩ = some (.int .i64 p)
  c2 : w.cell? ⟨rb, 2, none⟩ = some (.int .i64 e)
  c3 : w.cell? ⟨rb, 3, none⟩ = some (.pointer (some ⟨b, 0, none⟩))
  f : ∀ j, w.frozen? ⟨rb, j, none⟩ = false

theorem RdAt.lt {w : World} {rb : Nat} {s : ByteArray} {p e b : Nat} (h : RdAt w rb s p e b) : rb < w.heap.size := cell_lt h.c0
theorem RdAt.drew {w : World} {rb : Nat} {s : ByteArray} {p e b : Nat} (h : RdAt w rb s p e b) : RdAt w.drew rb s p e b := ⟨h.c0, h.c1, h.c2, h.c3, h.f⟩
theorem RdAt.same {w w' : World} {rb : Nat} {s : ByteArray} {p e b : Nat} (h : RdAt w rb s p e b) {S : List Nat} {B : Nat} (hs : Same S B w w') (hb : rb < B) (hS : rb ∉ S) : RdAt w' rb s p e b :=
  ⟨by rw [hs.cell hb hS]; exact h.c0, by rw [hs.cell hb hS]; exact h.c1, by rw [hs.cell hb hS]; exact h.c2, by rw [hs.cell hb hS]; exact h.c3, fun j => by rw [hs.frozen hb hS]; exact h.f j⟩
theorem RdAt.can1 {w : World} {rb : Nat} {s : ByteArray} {p e b : Nat} (h : RdAt w rb s p e b) : can w ⟨rb, 1, none⟩ := ⟨⟨_, h.c1⟩, h.f 1⟩
theorem RdAt.can2 {w : World} {rb : Nat} {s : ByteArray} {p e b : Nat} (h : RdAt w rb s p e b) : can w ⟨rb, 2, none⟩ := ⟨⟨_, h.c2⟩, h.f 2⟩
theorem RdAt.set1 {w : World} {rb : Nat} {s : ByteArray} {p e b : Nat} (h : RdAt w rb s p e b) (q : Nat) : RdAt (w.setCell ⟨rb, 1, none⟩ (.int .i64 (q : Int))) rb s q e b :=
  ⟨by rw [cell_set _ _ _ _ _ h.c0]; rfl, by rw [cell_set _ _ _ _ _ h.c1]; rfl, by rw [cell_set _ _ _ _ _ h.c2]; rfl, by rw [cell_set _ _ _ _ _ h.c3]; rfl, fun j => by simpa using h.f j⟩
theorem RdAt.set2 {w : World} {rb : Nat} {s : ByteArray} {p e b : Nat} (h : RdAt w rb s p e b) (q : Nat) : RdAt (w.setCell ⟨rb, 2, none⟩ (.int .i64 (q : Int))) rb s p q b :=
  ⟨by rw [cell_set _ _ _ _ _ h.c0]; rfl, by rw [cell_set _ _ _ _ _ h.c1]; rfl, by rw [cell_set _ _ _ _ _ h.c2]; rfl, by rw [cell_set _ _ _ _ _ h.c3]; rfl, fun j => by simpa using h.f j⟩
theorem same_set {w : World} {rb : Nat} (i : Nat) (v : Value) : Same [rb] w.heap.size w (w.setCell ⟨rb, i, none⟩ v) := (Same.refl _ _ _).setCell (.inr (by simp)) v

/-- What a reading comes to: a value and the place behind it, or an error and its place. -/
abbrev Res (α : Type) := Sum (α × Nat) (Int × Int)
@[match_pattern] abbrev Res.ok {α : Type} (a : α) (q : Nat) : Res α := Sum.inl (a, q)
@[match_pattern] abbrev Res.err {α : Type} (c at_ : Int) : Res α := Sum.inr (c, at_)
theorem Res.cs {α : Type} {motive : Res α → Prop} (ok : ∀ (a : α) (q : Nat), motive (.ok a q)) (err : ∀ c at_ : Int, motive (.err c at_)) (r : Res α) : motive r :=
  match r with
  | .inl (a, q) => ok a q
  | .inr (c, at_) => err c at_
theorem Res.ok.injEq {α : Type} (a b : α) (q r : Nat) : (Res.ok a q = Res.ok b r) = (a = b ∧ q = r) := by simp only [Res.ok, Sum.inl.injEq, Prod.mk.injEq]
theorem Res.err.injEq {α : Type} (a b q r : Int) : ((Res.err a q : Res α) = Res.err b r) = (a = b ∧ q = r) := by simp only [Res.err, Sum.inr.injEq, Prod.mk.injEq]

/-- The call reads what the plain function says. -/
def Reads {α : Type} (id : FuncId) (args : Array Value) (w : World) (rb : Nat) (s : ByteArray) (p e b : Nat) (S : List Nat) (r : Res α) (val : α → Value) : Prop :=
  RunsQ Try.prog id args w (fun v w' => ∃ a q, r = .ok a q ∧ v = val a ∧ p ≤ q ∧ q ≤ e ∧ RdAt w' rb s q e b ∧ Same (rb :: S) w.heap.size w w')
    (fun v w' => ∃ c a, r = .err c a ∧ v = faultV c a ∧ Same (rb :: S) w.heap.size w w')

theorem Reads.into {α : Type} {id : FuncId} {args : Array Value} {w : World} {rb : Nat} {s : ByteArray} {p e b : Nat} {S : List Nat} {r : Res α} {val : α → Value} (h : Reads id args w rb s p e b S r val)
    {R Q : Value → World → Prop} (hr : ∀ a q w', r = .ok a q → p ≤ q → q ≤ e → RdAt w' rb s q e b → Same (rb :: S) w.heap.size w w' → R (val a) w')
    (hq : ∀ c a w', r = .err c a → Same (rb :: S) w.heap.size w w' → Q (faultV c a) w') : RunsQ Try.prog id args w R Q :=
  RunsQ.mono h (by rintro v w' ⟨a, q, h1, rfl, h2, h3, h4, h5⟩; exact hr a q w' h1 h2 h3 h4 h5) (by rintro v w' ⟨c, a, h1, rfl, h2⟩; exact hq c a w' h1 h2)

/-- A text that may be read. -/
structure Txt (s : ByteArray) (p e : Nat) : Prop where
  pe : p ≤ e
  es : e ≤ s.size
  sz : s.size ≤ 1024

abbrev rp (rb : Nat) : Value := .pointer (some ⟨rb, 0, none⟩)

/-! ### next -/
def nextP (s : ByteArray) (e p : Nat) : Res Int := if p < e then .ok (byteAt s p) (p + 1) else .err 3 e

theorem next_spec {w : World} {rb : Nat} {s : ByteArray} {p e b : Nat} (h : RdAt w rb s p e b) (t : Txt s p e) : Reads bin_reader_next.id #[rp rb] w rb s p e b [] (nextP s e p) (Value.int .u8) := by
  have t1 := t.pe; have t2 := t.es; have t3 := t.sz
  refine bin_reader_next.enter _ _ _ _ ?_
  unfold bin_reader_next.V
  simp only [nilV_some, true_and, Nat.zero_add]
  have hd := h.drew
  refine ⟨_, hd.c1, _, hd.c2, ?_⟩
  unfold nextP
  by_cases hp : p < e
  · refine cond_false' (decide_eq_false (by omega)) ?_
    refine bin_reader_next.step1 _ _ _ _ ?_
    unfold bin_reader_next.V1
    simp only [nilV_some, true_and, Nat.zero_add]
    have hdd := hd.drew
    refine ⟨_, hdd.c0, _, hdd.c1, by omega, _, hdd.c1, hdd.can1, letW_intro fun w8 hw8 => ?_⟩
    have e1 : IntKind.wrap .i64 ((p : Int) + 1) = ((p + 1 : Nat) : Int) := by rw [wrap_i64 (by omega) (by omega)]; omega
    rw [e1] at hw8
    rw [if_pos hp]
    refine ⟨_, p + 1, rfl, rfl, by omega, by omega, ?_, ?_⟩
    · rw [hw8]; exact hdd.set1 (p + 1)
    · rw [hw8]; exact (Same.refl _ _ _).drew.drew.setCell (.inr (by simp)) _
  · refine cond_true' (decide_eq_true (by omega)) ?_
    refine ⟨_, hd.c2, ?_⟩
    rw [if_neg hp]
    exact ⟨_, _, rfl, rfl, (Same.refl _ _ _).drew⟩

end Go.Proofs.Qxb6500316a
