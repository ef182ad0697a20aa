/-
  The element segments.
-/
import Derived.Test.Qxb6500316aDcI
set_option linter.unusedSimpArgs false
set_option linter.unusedVariables false
set_option maxRecDepth 100000
set_option linter.unusedSectionVars false
namespace Go.Proofs.Qxb6500316a
open Go Go.Vc
variable [OutOf]

structure ElV where
  off : Ins
  n : Nat
  fns : Nat → Int
structure ElR where
  off : Ins
  sl : Value
abbrev elE : ElR → List Value := fun x => [.int .u8 x.off.op, .int .u32 x.off.x, .int .u64 x.off.y, x.sl]
abbrev u32E : Int → List Value := fun x => [.int .u32 x]

def ElRow (w : World) (lo tb n : Nat) (f : Nat → ElV) : Prop := ∃ fr : Nat → ElR, RowF elE 4 w tb n fr ∧ ∀ j, j < n → (fr j).off = (f j).off ∧ SlF u32E 1 w lo (fr j).sl (f j).n (f j).fns ∧ ∀ bb l c, (fr j).sl = .slice (some ⟨bb, 0, none⟩) l c → bb ≠ tb
theorem ElRow.same {w w' : World} {lo tb n : Nat} {f : Nat → ElV} (h : ElRow w lo tb n f) {S : List Nat} (hs : Same S w.heap.size w w') (hb : tb < w.heap.size) (hS : ∀ k, k ∈ S → k ≤ lo) (ht : lo < tb) : ElRow w' lo tb n f := by
  obtain ⟨fr, h1, h2⟩ := h
  exact ⟨fr, h1.same hs hb (fun g => by have := hS tb g; omega), fun j hj => ⟨(h2 j hj).1, (h2 j hj).2.1.same hs hS, (h2 j hj).2.2⟩⟩

def el0 : Nat → ElV := fun _ => ⟨⟨0, 0, 0⟩, 0, fun _ => 0⟩
def elemsL (s : ByteArray) (e : Nat) : Nat → Nat → (Nat → ElV) → Nat → Res (Nat → ElV)
  | 0, _, f, p => .ok f p
  | k + 1, i, f, p => (fixedP s e 0 p).bind fun _ q => (constP s e q).bind fun x q2 => (countP s e 6 q2).bind fun n q3 => (funcsL s e n 0 (fun _ => 0) q3).bind fun g q4 => elemsL s e k (i + 1) (upd f i ⟨x, n, g⟩) q4
theorem elemsL_succ (s : ByteArray) (e k i : Nat) (f : Nat → ElV) (p : Nat) : elemsL s e (k + 1) i f p = (fixedP s e 0 p).bind fun _ q => (constP s e q).bind fun x q2 => (countP s e 6 q2).bind fun n q3 => (funcsL s e n 0 (fun _ => 0) q3).bind fun g q4 => elemsL s e k (i + 1) (upd f i ⟨x, n, g⟩) q4 := rfl
def elemsP (s : ByteArray) (e p : Nat) : Res (Nat × (Nat → ElV)) := (countP s e 3 p).bind fun n q => (elemsL s e n 0 el0 q).bind fun f q2 => .ok (n, f) q2

def elX (lo : Nat) (m : Nat → Value) (c : Sc) (base : Nat) (a : Nat × (Nat → ElV)) (w' : World) (c' : Sc) (m' : Nat → Value) : Prop :=
  c' = c ∧ ((a.1 = 0 ∧ m' = m) ∨ (a.1 ≠ 0 ∧ ∃ tb, m' = upd m 10 (.slice (some ⟨tb, 0, none⟩) a.1 a.1) ∧ ElRow w' lo tb a.1 a.2 ∧ base ≤ tb ∧ tb < w'.heap.size))

section
variable {w : World} {rb : Nat} {s : ByteArray} {p e b bi bt mb : Nat} {c : Sc} {m : Nat → Value}

abbrev ElOk (w0 : World) (rb : Nat) (s : ByteArray) (p0 e b bi bt mb lo : Nat) (c : Sc) (m : Nat → Value) (r : Res (Nat × (Nat → ElV))) : Value → World → Prop := fun v w' => ∃ (a : Nat × (Nat → ElV)) (q : Nat) (c' : Sc) (m' : Nat → Value), r = .ok a q ∧ v = .tuple #[] ∧ p0 ≤ q ∧ q ≤ e ∧ SCtx w' rb s q e b bi bt mb c' m' ∧ elX lo m c w0.heap.size a w' c' m' ∧ Same [rb, b, bi, bt, mb] w0.heap.size w0 w'
abbrev ElErr (w0 : World) (rb b bi bt mb : Nat) (r : Res (Nat × (Nat → ElV))) : Value → World → Prop := fun v w' => ∃ n a, r = .err n a ∧ v = faultV n a ∧ (∃ c', BinAt w' b bi bt c') ∧ Same [rb, b, bi, bt, mb] w0.heap.size w0 w'

/-- The functions of one segment. -/
theorem fns_loop {w0 wS : World} {n p0 tb i kn q0 fb lo : Nat} (R : Value → World → Prop) (r : Res (Nat × (Nat → ElV))) (htb : w0.heap.size ≤ tb) (hfb : w0.heap.size ≤ fb) (hne : fb ≠ tb) (hkn : kn ≤ 6) (hi : i < n) (fr : Nat → ElR)
    (l0 : rb < w0.heap.size) (l1 : b < w0.heap.size) (l2 : bi < w0.heap.size) (l3 : bt < w0.heap.size) (l4 : mb < w0.heap.size) (hn8 : n ≤ 100)
    (herr : ∀ n a, funcsL s e kn 0 (fun _ => 0) q0 = .err n a → r = .err n a)
    (hR : ∀ g q w', funcsL s e kn 0 (fun _ => 0) q0 = .ok g q → q0 ≤ q → SCtx w' rb s q e b bi bt mb c m → RowF elE 4 w' tb n (upd fr i ⟨(fr i).off, .slice (some ⟨fb, 0, none⟩) kn kn⟩) → tb < w'.heap.size → RowF u32E 1 w' fb kn g → fb < w'.heap.size → Same [rb, fb, tb] wS.heap.size wS w' → Same [rb, b, bi, bt, mb] w0.heap.size w0 w' →
      bin_reader_elems.L2 (some ⟨rb, 0, none⟩) (some ⟨mb, 0, none⟩) n (some ⟨tb, 0, none⟩) n n i R (ElErr w0 rb b bi bt mb r) w') :
    ∀ (k j : Nat) (g : Nat → Int) (p : Nat) (w : World), j + k = kn → SCtx w rb s p e b bi bt mb c m → RowF elE 4 w tb n fr → tb < w.heap.size → RowF u32E 1 w fb kn g → fb < w.heap.size → q0 ≤ p → Same [rb, fb, tb] wS.heap.size wS w → Same [rb, b, bi, bt, mb] w0.heap.size w0 w → funcsL s e kn 0 (fun _ => 0) q0 = funcsL s e k j g p →
      bin_reader_elems.L3 (some ⟨rb, 0, none⟩) (some ⟨mb, 0, none⟩) n (some ⟨tb, 0, none⟩) n n i kn (some ⟨fb, 0, none⟩) kn kn j R (ElErr w0 rb b bi bt mb r) w := by
  intro k
  induction k with
  | zero =>
    intro j g p w hj x hT hl hG hg hp Z T hu
    refine bin_reader_elems.step3 _ _ _ _ _ _ _ _ _ _ _ _ _ _ _ ?_
    unfold bin_reader_elems.V3
    refine cond_false' (decide_eq_false (by omega)) ⟨by omega, ?_⟩
    simp only [nilV_some, Int.toNat_natCast, add_mk, Nat.zero_add]
    refine ⟨hT.can (fun _ => rfl) i 3 hi (by decide), letW_intro fun w1 hw1 => ?_⟩
    have hT1 := hT.set1 (fun _ => rfl) i 3 (by decide) (.slice (some ⟨fb, 0, none⟩) kn kn) ⟨(fr i).off, .slice (some ⟨fb, 0, none⟩) kn kn⟩ rfl
    rw [← hw1] at hT1
    have SS : Same [tb] w.heap.size w w1 := by rw [hw1]; exact same_set _ _
    exact hR g p w1 hu hp (x.other SS (by simp; omega) (by simp; omega) (by simp; omega) (by simp; omega) (by simp; omega)) hT1 (by have := SS.size; omega) (hG.same SS hg (by simp; omega)) (by have := SS.size; omega) (Z.trans (SS.mono Z.size (by intro k hk _; simp at hk ⊢; omega))) (T.trans (SS.mono T.size (by intro k hk hlt; simp at hk; omega)))
  | succ k ih =>
    intro j g p w hj x hT hl hG hg hp Z T hu
    rw [funcsL_succ] at hu
    refine bin_reader_elems.step3 _ _ _ _ _ _ _ _ _ _ _ _ _ _ _ ?_
    unfold bin_reader_elems.V3
    refine cond_true' (decide_eq_true (by omega)) ?_
    refine (u32_spec x.rd x.tx).into (fun v q u hv ga gb gR gS => ⟨_, rfl, by omega, ?_⟩) (fun n a u hv gS => ⟨n, a, herr n a (by rw [hu, hv]; rfl), rfl, x.keep gS, T.trans ((s4 gS).mono T.size (fun k hk _ => hk))⟩)
    have x1 := x.step gR gS gb
    have T1 := T.trans ((s4 (b := b) (bi := bi) (bt := bt) (mb := mb) gS).mono T.size (fun k hk _ => hk))
    have hT1 := hT.same gS hl (by simp; omega)
    have hl1 : tb < u.heap.size := by have := gS.size; omega
    have hG1 := hG.same gS hg (by simp; omega)
    have hg1 : fb < u.heap.size := by have := gS.size; omega
    simp only [nilV_some, Int.toNat_natCast, add_mk, Nat.zero_add]
    have hcan := hG1.can (fun _ => rfl) j 0 (by omega) (by decide)
    rw [Nat.add_zero] at hcan
    refine ⟨hcan, letW_intro fun w2 hw2 => ?_⟩
    have hG2 := hG1.set1 (fun _ => rfl) j 0 (by decide) (.int .u32 v) v rfl
    rw [Nat.add_zero, ← hw2] at hG2
    have SS : Same [fb] u.heap.size u w2 := by rw [hw2]; exact same_set _ _
    have e2 : IntKind.wrap .i64 ((j : Int) + 1) = ((j + 1 : Nat) : Int) := by rw [wrap_i64 (by omega) (by omega)]; omega
    rw [e2]
    exact ih (j + 1) _ q w2 (by omega) (x1.other SS (by simp; omega) (by simp; omega) (by simp; omega) (by simp; omega) (by simp; omega)) (hT1.same SS hl1 (by simp; omega)) (by have := SS.size; omega) hG2 (by have := SS.size; omega) (by omega) ((Z.trans (gS.mono Z.size (by intro k hk _; simp at hk ⊢; omega))).trans (SS.mono (by have := Z.size; have := gS.size; omega) (by intro k hk _; simp at hk ⊢; omega))) (T1.trans (SS.mono T1.size (by intro k hk hlt; simp at hk; omega))) (by rw [hu, hv]; rfl)

theorem elems_loop {w0 : World} {n q0 p0 tb lo : Nat} (r : Res (Nat × (Nat → ElV))) (hn : n ≤ 3) (hn0 : n ≠ 0) (htb : w0.heap.size ≤ tb) (hlo : lo < w0.heap.size) (hr0 : r = (elemsL s e n 0 el0 q0).bind fun t q2 => .ok (n, t) q2)
    (l0 : rb < w0.heap.size) (l1 : b < w0.heap.size) (l2 : bi < w0.heap.size) (l3 : bt < w0.heap.size) (l4 : mb < w0.heap.size) (k0 : rb ≤ lo) (k1 : b ≤ lo) (k2 : bi ≤ lo) (k3 : bt ≤ lo) (k4 : mb ≤ lo) :
    ∀ (k i : Nat) (f : Nat → ElV) (p : Nat) (w : World), i + k = n → SCtx w rb s p e b bi bt mb c m → ElRow w lo tb n f → (∀ j, i ≤ j → (f j).n = 0) → tb < w.heap.size → p0 ≤ p → Same [rb, b, bi, bt, mb] w0.heap.size w0 w → elemsL s e n 0 el0 q0 = elemsL s e k i f p →
      bin_reader_elems.L1 (some ⟨rb, 0, none⟩) (some ⟨mb, 0, none⟩) n (some ⟨tb, 0, none⟩) n n i (ElOk w0 rb s p0 e b bi bt mb lo c m r) (ElErr w0 rb b bi bt mb r) w := by
  intro k
  induction k with
  | zero =>
    intro i f p w hi x hT hz hl hp hS hu
    refine bin_reader_elems.step1 _ _ _ _ _ _ _ _ _ _ ?_
    unfold bin_reader_elems.V1
    refine cond_false' (decide_eq_false (by omega)) ?_
    simp only [nilV_some, Nat.zero_add]
    refine ⟨x.md.can 10 (by decide), letW_intro fun w1 hw1 => ⟨(n, f), p, c, _, ?_, by trivial, hp, x.tx.pe, ?_, ⟨rfl, .inr ⟨hn0, tb, rfl, ?_, htb, ?_⟩⟩, ?_⟩⟩
    · rw [hr0, hu]; rfl
    · rw [hw1]; exact x.setm 10 (by decide) _
    · rw [hw1]; exact hT.same (same_set 10 _) hl (by intro k hk; simp at hk; omega) (by omega)
    · rw [hw1]; simpa [World.setCell] using hl
    · rw [hw1]; exact hS.setCell (.inr (by simp)) _
  | succ k ih =>
    intro i f p w hi x0 hE0 hz0 hl0 hp T0 hu
    rw [elemsL_succ s e k] at hu
    have L2 : ∀ f' p' w', SCtx w' rb s p' e b bi bt mb c m → ElRow w' lo tb n f' → (∀ j, i + 1 ≤ j → (f' j).n = 0) → tb < w'.heap.size → p0 ≤ p' → Same [rb, b, bi, bt, mb] w0.heap.size w0 w' → elemsL s e n 0 el0 q0 = elemsL s e k (i + 1) f' p' →
        bin_reader_elems.L2 (some ⟨rb, 0, none⟩) (some ⟨mb, 0, none⟩) n (some ⟨tb, 0, none⟩) n n i (ElOk w0 rb s p0 e b bi bt mb lo c m r) (ElErr w0 rb b bi bt mb r) w' := by
      intro f' p' w' x' h' hz' hl' hp' T' hu'
      refine bin_reader_elems.step2 _ _ _ _ _ _ _ _ _ _ ?_
      unfold bin_reader_elems.V2
      have e2 : IntKind.wrap .i64 ((i : Int) + 1) = ((i + 1 : Nat) : Int) := by rw [wrap_i64 (by omega) (by omega)]; omega
      rw [e2]
      exact ih (i + 1) f' p' w' (by omega) x' h' hz' hl' hp' T' hu'
    refine bin_reader_elems.step1 _ _ _ _ _ _ _ _ _ _ ?_
    unfold bin_reader_elems.V1
    refine cond_true' (decide_eq_true (by omega)) ?_
    have kS : ∀ {w1 w2 : World}, Same [rb] w1.heap.size w1 w2 → ∀ j, j ∈ [rb] → j ≤ lo := fun _ j hj => by simp at hj; omega
    refine (fixed_spec x0.rd x0.tx 0).into (fun v0 q1 u0 hv0 ga0 gb0 gR0 gS0 => ⟨rfl, ?_⟩) (fun n a u hv gS => ⟨n, a, by rw [hr0, hu, hv]; rfl, rfl, x0.keep gS, T0.trans ((s4 gS).mono T0.size (fun k hk _ => hk))⟩)
    have x1 := x0.step gR0 gS0 gb0
    have T1 := T0.trans ((s4 (b := b) (bi := bi) (bt := bt) (mb := mb) gS0).mono T0.size (fun k hk _ => hk))
    have hE1 := hE0.same gS0 hl0 (kS gS0) (by omega)
    have hl1 : tb < u0.heap.size := by have := gS0.size; omega
    refine (const_spec x1.rd x1.tx).into (fun v1 q2 u1 hv1 ga1 gb1 gR1 gS1 => ⟨_, _, _, rfl, by omega, ?_⟩) (fun n a u hv gS => ⟨n, a, by rw [hr0, hu, hv0]; simp only [Res.bind]; rw [hv], rfl, x1.keep gS, T1.trans ((s4 gS).mono T1.size (fun k hk _ => hk))⟩)
    have x2 := x1.step gR1 gS1 gb1
    have T2 := T1.trans ((s4 (b := b) (bi := bi) (bt := bt) (mb := mb) gS1).mono T1.size (fun k hk _ => hk))
    have hE2 := hE1.same gS1 hl1 (kS gS1) (by omega)
    have hl2 : tb < u1.heap.size := by have := gS1.size; omega
    simp only [nilV_some, Int.toNat_natCast, add_mk, Nat.zero_add]
    obtain ⟨fr, hT2, hF2⟩ := hE2
    have eq0 : i * 4 = i * 4 + 0 := rfl
    rw [eq0]
    refine hT2.put3 (fun _ => rfl) i 0 (by omega) (by decide) _ _ _ ⟨v1, (fr i).sl⟩ rfl (fun u2 hT3 hSS => ?_)
    have SS : Same [tb] u1.heap.size u1 u2 := hSS _
    have x3 : SCtx u2 rb s q2 e b bi bt mb c m := x2.other SS (by simp; omega) (by simp; omega) (by simp; omega) (by simp; omega) (by simp; omega)
    have T3 : Same [rb, b, bi, bt, mb] w0.heap.size w0 u2 := T2.trans (SS.mono T2.size (by intro k hk hlt; simp at hk; omega))
    have hl3 : tb < u2.heap.size := by have := SS.size; omega
    have hF3 : ∀ j, j < n → (fr j).off = (f j).off ∧ SlF u32E 1 u2 lo (fr j).sl (f j).n (f j).fns ∧ ∀ bb l c, (fr j).sl = .slice (some ⟨bb, 0, none⟩) l c → bb ≠ tb := fun j hj => by
      refine ⟨(hF2 j hj).1, ?_, (hF2 j hj).2.2⟩
      rcases (hF2 j hj).2.1 with h | ⟨h0, bb, h1, h2, h3, h4⟩
      · exact .inl h
      · exact .inr ⟨h0, bb, h1, h2.same SS h4 (by simp; exact (hF2 j hj).2.2 _ _ _ h1), h3, by have := SS.size; omega⟩
    have nil_i : (fr i).sl = .slice none 0 0 := by
      rcases (hF3 i (by omega)).2.1 with h | ⟨h0, _⟩
      · exact h.2
      · exact absurd (hz0 i (Nat.le_refl _)) h0
    refine (count_spec x3.rd x3.tx 6).into (fun v2 q3 u3 hv2 ga2 gb2 gR2 gS2 => ⟨_, rfl, ?_⟩) (fun n a u hv gS => ⟨n, a, by rw [hr0, hu, hv0]; simp only [Res.bind]; rw [hv1]; simp only; rw [hv], rfl, x3.keep gS, T3.trans ((s4 gS).mono T3.size (fun k hk _ => hk))⟩)
    have hle := countP_le hv2
    have x4 := x3.step gR2 gS2 gb2
    have T4 := T3.trans ((s4 (b := b) (bi := bi) (bt := bt) (mb := mb) gS2).mono T3.size (fun k hk _ => hk))
    have hT4 := hT3.same gS2 hl3 (by simp; omega)
    have hl4 : tb < u3.heap.size := by have := gS2.size; omega
    have hF4 : ∀ j, j < n → (fr j).off = (f j).off ∧ SlF u32E 1 u3 lo (fr j).sl (f j).n (f j).fns ∧ ∀ bb l c, (fr j).sl = .slice (some ⟨bb, 0, none⟩) l c → bb ≠ tb := fun j hj => ⟨(hF3 j hj).1, (hF3 j hj).2.1.same gS2 (kS gS2), (hF3 j hj).2.2⟩
    have hu2 : elemsL s e n 0 el0 q0 = (funcsL s e v2 0 (fun _ => 0) q3).bind fun g q4 => elemsL s e k (i + 1) (upd f i ⟨v1, v2, g⟩) q4 := by rw [hu, hv0]; simp only [Res.bind]; rw [hv1]; simp only; rw [hv2]
    clear hF2 hF3 hT2 hT3
    by_cases hn2 : v2 = 0
    · subst hn2
      refine cond_true' rfl ?_
      refine L2 (upd f i ⟨v1, 0, fun _ => 0⟩) q3 u3 x4 ⟨_, hT4, fun j hj => ?_⟩ (fun j hj => ?_) hl4 (by omega) T4 hu2
      · unfold upd
        by_cases hji : j = i
        · rw [if_pos hji, if_pos hji]
          refine ⟨rfl, .inl ⟨rfl, nil_i⟩, fun bb l c h => ?_⟩
          rw [nil_i] at h; cases h
        · rw [if_neg hji, if_neg hji]; exact hF4 j hj
      · unfold upd
        rw [if_neg (by omega)]; exact hz0 j (by omega)
    · refine cond_false' (by rw [beq_eq_false_iff_ne]; omega) ?_
      obtain ⟨u4, hm, hc, hf, hS4, hl5⟩ := make_rows T_sl_uint32.el u3 v2 (by omega) (by decide)
      refine ⟨_, _, _, u4, hm, ?_⟩
      have x5 : SCtx u4 rb s q3 e b bi bt mb c m := x4.other hS4 (by simp) (by simp) (by simp) (by simp) (by simp)
      have T5 : Same [rb, b, bi, bt, mb] w0.heap.size w0 u4 := T4.trans (hS4.mono T4.size (by simp))
      have hG : RowF u32E 1 u4 u3.heap.size v2 (fun _ => 0) := rows_made (z := .int .u32 0) (0 : Int) (fun k v hv => by
        match k, hv with
        | 0, hv => exact ⟨by decide, by (first | (injection hv with z__; injection z__) | injection hv)⟩) hc hf
      have t4 := T4.size
      refine fns_loop (c := c) (m := m) (w0 := w0) (wS := u4) (p0 := p0) (n := n) (tb := tb) (i := i) (kn := v2) (q0 := q3) (fb := u3.heap.size) (lo := lo) (ElOk w0 rb s p0 e b bi bt mb lo c m r) r htb (by omega) (by omega) (by omega) (by omega) _ l0 l1 l2 l3 l4 (by omega) (fun n a h => by rw [hr0, hu2, h]; rfl) (fun g q w' hg hq x' hT' hl' hG' hlg' Z' T' => ?_) v2 0 _ q3 u4 (by omega) x5 (hT4.same hS4 hl4 (by simp)) (by have := hS4.size; omega) hG hl5 (Nat.le_refl _) (Same.refl _ _ _) T5 rfl
      rw [upd_upd, upd_at] at hT'
      refine L2 (upd f i ⟨v1, v2, g⟩) q w' x' ⟨_, hT', fun j hj => ?_⟩ (fun j hj => ?_) hl' (by omega) T' (by rw [hu2, hg]; rfl)
      · unfold upd
        by_cases hji : j = i
        · rw [if_pos hji, if_pos hji]
          refine ⟨rfl, .inr ⟨hn2, u3.heap.size, rfl, hG', by omega, hlg'⟩, fun bb l c h => ?_⟩
          injection h with h1 h2 h3
          injection h1 with h4
          (first | (injection h4 with z__; injection z__ with h5 h6) | injection h4 with h5 h6)
          omega
        · rw [if_neg hji, if_neg hji]
          refine ⟨(hF4 j hj).1, ?_, (hF4 j hj).2.2⟩
          rcases (hF4 j hj).2.1 with h | ⟨h0, bb, h1, h2, h3, h4⟩
          · exact .inl h
          · have hb := (hF4 j hj).2.2 _ _ _ h1
            have s4' := hS4.size
            refine .inr ⟨h0, bb, h1, (h2.same hS4 h4 (by simp)).same Z' (by omega) (by simp; omega), h3, by have := Z'.size; omega⟩
      · unfold upd
        rw [if_neg (by omega)]; exact hz0 j (by omega)

theorem elems_spec {lo : Nat} (x : SCtx w rb s p e b bi bt mb c m) (hlo : lo < w.heap.size) (k0 : rb ≤ lo) (k1 : b ≤ lo) (k2 : bi ≤ lo) (k3 : bt ≤ lo) (k4 : mb ≤ lo) : SecRuns bin_reader_elems.id w rb s p e b bi bt mb (elemsP s e p) (elX lo m c w.heap.size) := by
  refine bin_reader_elems.enter _ _ _ _ _ ?_
  unfold bin_reader_elems.V
  refine (count_spec x.rd x.tx 3).into (fun n q w1 hn h1 h2 hR hS => ⟨_, rfl, ?_⟩) (fun n a w1 hn hS => ⟨n, a, by unfold elemsP; rw [hn]; rfl, rfl, x.keep hS, s4 hS⟩)
  have hle := countP_le hn
  have x1 := x.step hR hS h2
  have hP : elemsP s e p = (elemsL s e n 0 el0 q).bind fun f q2 => .ok (n, f) q2 := by unfold elemsP; rw [hn]; rfl
  by_cases hn0 : n = 0
  · subst hn0
    exact cond_true' rfl ⟨(0, el0), q, c, m, by rw [hP]; rfl, rfl, h1, h2, x1, ⟨rfl, .inl ⟨rfl, rfl⟩⟩, s4 hS⟩
  · refine cond_false' (by rw [beq_eq_false_iff_ne]; omega) ?_
    obtain ⟨w2, hm, hc, hf, hS2, hl⟩ := make_rows T_sl_api_Elem.el w1 n (by omega) (by decide)
    refine ⟨_, _, _, w2, hm, ?_⟩
    have x2 : SCtx w2 rb s q e b bi bt mb c m := x1.other hS2 (by simp) (by simp) (by simp) (by simp) (by simp)
    have hT : RowF elE 4 w2 w1.heap.size n (fun _ => ⟨⟨0, 0, 0⟩, .slice none 0 0⟩) := rows_made (z := .agg #[.int .u8 0, .int .u32 0, .int .u64 0, .slice none 0 0]) (⟨⟨0, 0, 0⟩, .slice none 0 0⟩ : ElR) (fun k v hv => by
      match k, hv with
      | 0, hv => exact ⟨by decide, by (first | (injection hv with z__; injection z__) | injection hv)⟩
      | 1, hv => exact ⟨by decide, by (first | (injection hv with z__; injection z__) | injection hv)⟩
      | 2, hv => exact ⟨by decide, by (first | (injection hv with z__; injection z__) | injection hv)⟩
      | 3, hv => exact ⟨by decide, by (first | (injection hv with z__; injection z__) | injection hv)⟩) hc hf
    have sz := hS.size
    exact elems_loop (c := c) (m := m) (w0 := w) (p0 := p) (lo := lo) (elemsP s e p) (by omega) hn0 sz hlo hP x.rd.lt x.bn.ltb x.bn.lti x.bn.ltt x.md.lt k0 k1 k2 k3 k4 n 0 _ q w2 (by omega) x2 ⟨_, hT, fun j hj => ⟨rfl, .inl ⟨rfl, rfl⟩, fun bb l c h => by cases h⟩⟩ (fun _ _ => rfl) hl h1 ((s4 hS).trans (hS2.mono sz (by simp))) rfl

end

end Go.Proofs.Qxb6500316a
