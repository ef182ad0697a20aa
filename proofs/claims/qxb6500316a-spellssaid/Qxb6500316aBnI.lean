/-
  The sections' readers: globals, codes.
-/
import Derived.Test.Qxb6500316aBnH
set_option linter.unusedSimpArgs false
set_option linter.unusedVariables false
set_option maxRecDepth 100000
namespace Go.Proofs.Qxb6500316a
open Go Go.Vc

structure Glob where
  ty : Int
  mu : Bool
  init : Ins

/-- A row of globals. -/
structure GlobRow (w : World) (gb n : Nat) (g : Nat → Glob) : Prop where
  c0 : ∀ j, j < n → w.cell? ⟨gb, j * 5, none⟩ = some (.int .u8 (g j).ty)
  c1 : ∀ j, j < n → w.cell? ⟨gb, j * 5 + 1, none⟩ = some (.bool (g j).mu)
  c2 : ∀ j, j < n → w.cell? ⟨gb, j * 5 + 2, none⟩ = some (.int .u8 (g j).init.op)
  c3 : ∀ j, j < n → w.cell? ⟨gb, j * 5 + 3, none⟩ = some (.int .u32 (g j).init.x)
  c4 : ∀ j, j < n → w.cell? ⟨gb, j * 5 + 4, none⟩ = some (.int .u64 (g j).init.y)
  f : ∀ j, w.frozen? ⟨gb, j, none⟩ = false
theorem GlobRow.same {w w' : World} {gb n : Nat} {g : Nat → Glob} (h : GlobRow w gb n g) {S : List Nat} {B : Nat} (hs : Same S B w w') (hb : gb < B) (hS : gb ∉ S) : GlobRow w' gb n g :=
  ⟨fun j hj => by rw [hs.cell hb hS]; exact h.c0 j hj, fun j hj => by rw [hs.cell hb hS]; exact h.c1 j hj, fun j hj => by rw [hs.cell hb hS]; exact h.c2 j hj, fun j hj => by rw [hs.cell hb hS]; exact h.c3 j hj, fun j hj => by rw [hs.cell hb hS]; exact h.c4 j hj, fun j => by rw [hs.frozen hb hS]; exact h.f j⟩
theorem GlobRow.ty {w : World} {gb n : Nat} {g : Nat → Glob} (h : GlobRow w gb n g) (k : Nat) (t : Int) : GlobRow (w.setCell ⟨gb, k * 5, none⟩ (.int .u8 t)) gb n (upd g k { g k with ty := t }) := by
  refine ⟨fun j hj => ?_, fun j hj => ?_, fun j hj => ?_, fun j hj => ?_, fun j hj => ?_, fun j => by simpa using h.f j⟩ <;> (rw [cell_setCell]; unfold upd)
  · by_cases hjk : j = k
    · rw [if_pos ⟨rfl, by omega⟩, if_pos hjk, h.c0 j hj]; rfl
    · rw [if_neg (by omega), if_neg hjk]; exact h.c0 j hj
  · rw [if_neg (by omega)]; by_cases hjk : j = k
    · subst hjk; rw [if_pos rfl]; exact h.c1 j hj
    · rw [if_neg hjk]; exact h.c1 j hj
  · rw [if_neg (by omega)]; by_cases hjk : j = k
    · subst hjk; rw [if_pos rfl]; exact h.c2 j hj
    · rw [if_neg hjk]; exact h.c2 j hj
  · rw [if_neg (by omega)]; by_cases hjk : j = k
    · subst hjk; rw [if_pos rfl]; exact h.c3 j hj
    · rw [if_neg hjk]; exact h.c3 j hj
  · rw [if_neg (by omega)]; by_cases hjk : j = k
    · subst hjk; rw [if_pos rfl]; exact h.c4 j hj
    · rw [if_neg hjk]; exact h.c4 j hj
theorem GlobRow.mu {w : World} {gb n : Nat} {g : Nat → Glob} (h : GlobRow w gb n g) (k : Nat) (t : Bool) : GlobRow (w.setCell ⟨gb, k * 5 + 1, none⟩ (.bool t)) gb n (upd g k { g k with mu := t }) := by
  refine ⟨fun j hj => ?_, fun j hj => ?_, fun j hj => ?_, fun j hj => ?_, fun j hj => ?_, fun j => by simpa using h.f j⟩ <;> (rw [cell_setCell]; unfold upd)
  · rw [if_neg (by omega)]; by_cases hjk : j = k
    · subst hjk; rw [if_pos rfl]; exact h.c0 j hj
    · rw [if_neg hjk]; exact h.c0 j hj
  · by_cases hjk : j = k
    · rw [if_pos ⟨rfl, by omega⟩, if_pos hjk, h.c1 j hj]; rfl
    · rw [if_neg (by omega), if_neg hjk]; exact h.c1 j hj
  · rw [if_neg (by omega)]; by_cases hjk : j = k
    · subst hjk; rw [if_pos rfl]; exact h.c2 j hj
    · rw [if_neg hjk]; exact h.c2 j hj
  · rw [if_neg (by omega)]; by_cases hjk : j = k
    · subst hjk; rw [if_pos rfl]; exact h.c3 j hj
    · rw [if_neg hjk]; exact h.c3 j hj
  · rw [if_neg (by omega)]; by_cases hjk : j = k
    · subst hjk; rw [if_pos rfl]; exact h.c4 j hj
    · rw [if_neg hjk]; exact h.c4 j hj
theorem GlobRow.can {w : World} {gb n : Nat} {g : Nat → Glob} (h : GlobRow w gb n g) (k : Nat) (hk : k < n * 5) : can w ⟨gb, k, none⟩ := by
  refine ⟨?_, h.f k⟩
  have e : k = k / 5 * 5 + k % 5 := by omega
  have hr : k % 5 = 0 ∨ k % 5 = 1 ∨ k % 5 = 2 ∨ k % 5 = 3 ∨ k % 5 = 4 := by omega
  rcases hr with g | g | g | g | g <;> (rw [g] at e; rw [e])
  · exact ⟨_, h.c0 (k / 5) (by omega)⟩
  · exact ⟨_, h.c1 (k / 5) (by omega)⟩
  · exact ⟨_, h.c2 (k / 5) (by omega)⟩
  · exact ⟨_, h.c3 (k / 5) (by omega)⟩
  · exact ⟨_, h.c4 (k / 5) (by omega)⟩
theorem GlobRow.putInit {w : World} {gb n : Nat} {g : Nat → Glob} (h : GlobRow w gb n g) (k : Nat) (hk : k < n) (i : Ins) {K : World → Prop} (hK : ∀ w', GlobRow w' gb n (upd g k { g k with init := i }) → (∀ B, Same [gb] B w w') → K w') :
    putCells w ⟨gb, k * 5 + 2, none⟩ [.int .u8 i.op, .int .u32 i.x, .int .u64 i.y] K := by
  refine putCells_intro gb _ (k * 5 + 2) w K (fun j hj => h.can _ (by simp at hj; omega)) (fun w' hF => hK w' ?_ hF.same)
  refine ⟨fun j hj => ?_, fun j hj => ?_, fun j hj => ?_, fun j hj => ?_, fun j hj => ?_, fun j => by rw [hF.frozen]; exact h.f j⟩ <;> (rw [hF.cell]; unfold upd)
  · rw [if_neg (by simp; omega)]; by_cases hjk : j = k
    · subst hjk; rw [if_pos rfl]; exact h.c0 j hj
    · rw [if_neg hjk]; exact h.c0 j hj
  · rw [if_neg (by simp; omega)]; by_cases hjk : j = k
    · subst hjk; rw [if_pos rfl]; exact h.c1 j hj
    · rw [if_neg hjk]; exact h.c1 j hj
  · by_cases hjk : j = k
    · subst hjk; rw [if_pos ⟨rfl, by omega, by simp⟩, if_pos rfl, Nat.sub_self]; rfl
    · rw [if_neg (by simp; omega), if_neg hjk]; exact h.c2 j hj
  · by_cases hjk : j = k
    · subst hjk; rw [if_pos ⟨rfl, by omega, by simp⟩, if_pos rfl, show j * 5 + 3 - (j * 5 + 2) = 1 by omega]; rfl
    · rw [if_neg (by simp; omega), if_neg hjk]; exact h.c3 j hj
  · by_cases hjk : j = k
    · subst hjk; rw [if_pos ⟨rfl, by omega, by simp⟩, if_pos rfl, show j * 5 + 4 - (j * 5 + 2) = 2 by omega]; rfl
    · rw [if_neg (by simp; omega), if_neg hjk]; exact h.c4 j hj

def globsL (s : ByteArray) (e : Nat) : Nat → Nat → (Nat → Glob) → Nat → Res (Nat → Glob)
  | 0, _, g, p => .ok g p
  | k + 1, i, g, p => (valtypeP s e p).bind fun t q => (flagP s e 1 q).bind fun f q2 => (constP s e q2).bind fun x q3 => globsL s e k (i + 1) (upd g i ⟨t, f == 1, x⟩) q3
theorem globsL_succ (s : ByteArray) (e k i : Nat) (g : Nat → Glob) (p : Nat) : globsL s e (k + 1) i g p = (valtypeP s e p).bind fun t q => (flagP s e 1 q).bind fun f q2 => (constP s e q2).bind fun x q3 => globsL s e k (i + 1) (upd g i ⟨t, f == 1, x⟩) q3 := rfl
def glob0 : Nat → Glob := fun _ => ⟨0, false, ⟨0, 0, 0⟩⟩
def globsP (s : ByteArray) (e p : Nat) : Res (Nat × (Nat → Glob)) := (countP s e 4 p).bind fun n q => (globsL s e n 0 glob0 q).bind fun f q2 => .ok (n, f) q2

def globsX (base : Nat) (m : Nat → Value) (c : Sc) (a : Nat × (Nat → Glob)) (w' : World) (c' : Sc) (m' : Nat → Value) : Prop :=
  c' = c ∧ ((a.1 = 0 ∧ m' = m) ∨ (a.1 ≠ 0 ∧ ∃ gb, base ≤ gb ∧ m' = upd m 7 (.slice (some ⟨gb, 0, none⟩) a.1 a.1) ∧ GlobRow w' gb a.1 a.2))

section
variable {w : World} {rb : Nat} {s : ByteArray} {p e b bi bt mb : Nat} {c : Sc} {m : Nat → Value}

theorem globs_loop {w0 : World} {n q0 p0 gb : Nat} (r : Res (Nat × (Nat → Glob))) (hn : n ≤ 4) (hn0 : n ≠ 0) (htb : w0.heap.size ≤ gb) (hr0 : r = (globsL s e n 0 glob0 q0).bind fun t q2 => .ok (n, t) q2)
    (l0 : rb < w0.heap.size) (l1 : b < w0.heap.size) (l2 : bi < w0.heap.size) (l3 : bt < w0.heap.size) (l4 : mb < w0.heap.size) :
    ∀ (k i : Nat) (f : Nat → Glob) (p : Nat) (w : World), i + k = n → SCtx w rb s p e b bi bt mb c m → GlobRow w gb n f → gb < w.heap.size → p0 ≤ p → Same [rb, b, bi, mb] w0.heap.size w0 w → globsL s e n 0 glob0 q0 = globsL s e k i f p →
      bin_reader_globals.L1 (some ⟨rb, 0, none⟩) (some ⟨mb, 0, none⟩) n (some ⟨gb, 0, none⟩) n n i (fun v w' => ∃ (a : Nat × (Nat → Glob)) (q : Nat) (c' : Sc) (m' : Nat → Value), r = .ok a q ∧ v = .tuple #[] ∧ p0 ≤ q ∧ q ≤ e ∧ SCtx w' rb s q e b bi bt mb c' m' ∧ globsX w0.heap.size m c a w' c' m' ∧ Same [rb, b, bi, mb] w0.heap.size w0 w')
        (fun v w' => ∃ n a, r = .err n a ∧ v = faultV n a ∧ (∃ c', BinAt w' b bi bt c') ∧ Same [rb, b, bi, mb] w0.heap.size w0 w') w := by
  intro k
  induction k with
  | zero =>
    intro i f p w hi x hT hl hp hS hu
    refine bin_reader_globals.step1 _ _ _ _ _ _ _ _ _ _ ?_
    unfold bin_reader_globals.V1
    refine cond_false' (decide_eq_false (by omega)) ?_
    simp only [nilV_some, Nat.zero_add]
    refine ⟨x.md.can 7 (by decide), letW_intro fun w1 hw1 => ⟨(n, f), p, c, _, ?_, by trivial, hp, x.tx.pe, ?_, ⟨rfl, .inr ⟨hn0, gb, htb, rfl, ?_⟩⟩, ?_⟩⟩
    · rw [hr0, hu]; rfl
    · rw [hw1]; exact x.setm 7 (by decide) _
    · rw [hw1]; exact hT.same (same_set 7 _) hl (by simp; omega)
    · rw [hw1]; exact hS.setCell (.inr (by simp)) _
  | succ k ih =>
    intro i f p w hi x hT hl hp hS hu
    rw [globsL_succ s e k] at hu
    have tr : ∀ {w1 : World}, Same [rb, gb] w.heap.size w w1 → Same [rb, b, bi, mb] w0.heap.size w0 w1 := fun h => hS.trans (h.mono hS.size (by intro k hk hlt; simp at hk ⊢; omega))
    have s2 : ∀ {w1 w2 : World}, Same [rb] w1.heap.size w1 w2 → Same [rb, gb] w1.heap.size w1 w2 := fun h => h.mono (Nat.le_refl _) (by intro k hk _; simp at hk ⊢; omega)
    refine bin_reader_globals.step1 _ _ _ _ _ _ _ _ _ _ ?_
    unfold bin_reader_globals.V1
    refine cond_true' (decide_eq_true (by omega)) ?_
    refine (valtype_spec x.rd x.tx).into (fun t q w1 ht h1 h2 hR hS1 => ⟨_, rfl, by omega, ?_⟩) (fun n a w1 ht hS1 => ⟨n, a, by rw [hr0, hu, ht]; rfl, rfl, x.keep hS1, tr (s2 hS1)⟩)
    have x1 := x.step hR hS1 h2
    have hT1 := hT.same hS1 hl (by simp; omega)
    have sz1 := hS1.size
    rw [nilV_some, Int.toNat_natCast, add_mk, Nat.zero_add]
    refine ⟨hT1.can _ (by omega), letW_intro fun w2 hw2 => ?_⟩
    have hT2 : GlobRow w2 gb n (upd f i { f i with ty := t }) := by rw [hw2]; exact hT1.ty i t
    have S12 : Same [gb] w1.heap.size w1 w2 := by rw [hw2]; exact same_set _ _
    have x2 : SCtx w2 rb s q e b bi bt mb c m := x1.other S12 (by simp; omega) (by simp; omega) (by simp; omega) (by simp; omega) (by simp; omega)
    have T2 : Same [rb, gb] w.heap.size w w2 := (s2 hS1).trans (S12.mono sz1 (by intro k hk _; simp at hk ⊢; omega))
    clear hw2
    have hl2 : gb < w2.heap.size := by have := T2.size; omega
    refine (flag_spec x2.rd x2.tx 1).into (fun fl q2 w3 hf g1 g2 gR gS => ⟨_, rfl, by omega, ?_⟩) (fun n a w3 hf gS => ⟨n, a, by rw [hr0, hu, ht]; simp only [Res.bind]; rw [hf], rfl, x2.keep gS, tr (T2.trans ((s2 gS).mono T2.size (by intro k hk _; exact hk)))⟩)
    have x3 := x2.step gR gS g2
    have hT3 := hT2.same gS hl2 (by simp; omega)
    have T3 : Same [rb, gb] w.heap.size w w3 := T2.trans ((s2 gS).mono T2.size (by intro k hk _; exact hk))
    simp only [nilV_some, add_mk, Nat.zero_add]
    refine ⟨hT3.can _ (by omega), letW_intro fun w4 hw4 => ?_⟩
    have hT4 := hT3.mu i (fl == 1)
    rw [← hw4] at hT4
    have S34 : Same [gb] w3.heap.size w3 w4 := by rw [hw4]; exact same_set _ _
    have x4 : SCtx w4 rb s q2 e b bi bt mb c m := x3.other S34 (by simp; omega) (by simp; omega) (by simp; omega) (by simp; omega) (by simp; omega)
    have T4 : Same [rb, gb] w.heap.size w w4 := T3.trans (S34.mono T3.size (by intro k hk _; simp at hk ⊢; omega))
    clear hw4
    have hl4 : gb < w4.heap.size := by have := T4.size; omega
    refine (const_spec x4.rd x4.tx).into (fun ins q3 w5 hc k1 k2 kR kS => ⟨_, _, _, rfl, by omega, ?_⟩) (fun n a w5 hc kS => ⟨n, a, by rw [hr0, hu, ht]; simp only [Res.bind]; rw [hf]; simp only; rw [hc], rfl, x4.keep kS, tr (T4.trans ((s2 kS).mono T4.size (by intro k hk _; exact hk)))⟩)
    have x5 := x4.step kR kS k2
    have hT5 := hT4.same kS hl4 (by simp; omega)
    have T5 : Same [rb, gb] w.heap.size w w5 := T4.trans ((s2 kS).mono T4.size (by intro k hk _; exact hk))
    refine hT5.putInit i (by omega) ins (fun w6 hT6 hS6 => ?_)
    have e2 : IntKind.wrap .i64 ((i : Int) + 1) = ((i + 1 : Nat) : Int) := by rw [wrap_i64 (by omega) (by omega)]; omega
    rw [e2]
    have T6 : Same [rb, gb] w.heap.size w w6 := T5.trans ((hS6 _).mono (Nat.le_refl _) (by intro k hk _; simp at hk ⊢; omega))
    have x6 : SCtx w6 rb s q3 e b bi bt mb c m := x5.other (hS6 _) (by simp; omega) (by simp; omega) (by simp; omega) (by simp; omega) (by simp; omega)
    refine ih (i + 1) (upd f i ⟨t, fl == 1, ins⟩) q3 w6 (by omega) x6 ?_ (by have := T6.size; omega) (by omega) (tr T6) (by rw [hu, ht]; simp only [Res.bind]; rw [hf]; simp only; rw [hc])
    have e3 : upd (upd (upd f i { f i with ty := t }) i { upd f i { f i with ty := t } i with mu := fl == 1 }) i { upd (upd f i { f i with ty := t }) i { upd f i { f i with ty := t } i with mu := fl == 1 } i with init := ins } = upd f i ⟨t, fl == 1, ins⟩ := by
      funext j; unfold upd; by_cases hj : j = i <;> simp [hj]
    rw [e3] at hT6
    exact hT6

theorem globs_spec (x : SCtx w rb s p e b bi bt mb c m) : SecRuns bin_reader_globals.id w rb s p e b bi bt mb (globsP s e p) (globsX w.heap.size m c) := by
  refine bin_reader_globals.enter _ _ _ _ _ ?_
  unfold bin_reader_globals.V
  refine (count_spec x.rd x.tx 4).into (fun n q w1 hn h1 h2 hR hS => ⟨_, rfl, ?_⟩) (fun n a w1 hn hS => ⟨n, a, by unfold globsP; rw [hn]; rfl, rfl, x.keep hS, s4 hS⟩)
  have hle := countP_le hn
  have x1 := x.step hR hS h2
  have hP : globsP s e p = (globsL s e n 0 glob0 q).bind fun f q2 => .ok (n, f) q2 := by unfold globsP; rw [hn]; rfl
  by_cases hn0 : n = 0
  · subst hn0
    exact cond_true' rfl ⟨(0, glob0), q, c, m, by rw [hP]; rfl, rfl, h1, h2, x1, ⟨rfl, .inl ⟨rfl, rfl⟩⟩, s4 hS⟩
  · refine cond_false' (by rw [beq_eq_false_iff_ne]; omega) ?_
    obtain ⟨w2, hm, hc, hf, hS2, hl⟩ := make_rows T_sl_api_Global.el w1 n (by omega) (by decide)
    refine ⟨_, _, _, w2, hm, ?_⟩
    have x2 : SCtx w2 rb s q e b bi bt mb c m := x1.other hS2 (by simp) (by simp) (by simp) (by simp) (by simp)
    have hT : GlobRow w2 w1.heap.size n glob0 := by
      refine ⟨fun j hj => ?_, fun j hj => ?_, fun j hj => ?_, fun j hj => ?_, fun j hj => ?_, hf⟩
      · rw [hc _ (by omega), show j * 5 % 5 = 0 by omega]; rfl
      · rw [hc _ (by omega), show (j * 5 + 1) % 5 = 1 by omega]; rfl
      · rw [hc _ (by omega), show (j * 5 + 2) % 5 = 2 by omega]; rfl
      · rw [hc _ (by omega), show (j * 5 + 3) % 5 = 3 by omega]; rfl
      · rw [hc _ (by omega), show (j * 5 + 4) % 5 = 4 by omega]; rfl
    have sz := hS.size
    exact globs_loop (c := c) (m := m) (w0 := w) (p0 := p) (globsP s e p) (by omega) hn0 sz hP x.rd.lt x.bn.ltb x.bn.lti x.bn.ltt x.md.lt n 0 _ q w2 (by omega) x2 hT hl h1 ((s4 hS).trans (hS2.mono sz (by simp))) rfl
end

end Go.Proofs.Qxb6500316a
