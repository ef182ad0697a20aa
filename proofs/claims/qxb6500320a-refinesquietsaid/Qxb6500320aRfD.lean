/-
  The model's comparisons.
-/
import Derived.Test.Qxb6500320aRfC
set_option linter.unusedSimpArgs false
set_option linter.unusedVariables false
set_option linter.unusedSectionVars false
set_option maxRecDepth 100000
namespace Go.Proofs.Qxb6500320a
open Go Go.Vc

theorem flag_same (c : Bool) : numm_flag.F c = num_flag.F c := rfl

section
variable {fi : Int} {p bi : Nat} {f : Ieee.Format}
theorem Fm.bi_inf (F : Fm fi p bi f) : f.binade ≤ f.infRung := by
  rw [F.infR]
  have : 1 * f.binade ≤ (2 * bi + 1) * f.binade := Nat.mul_le_mul_right _ (by omega)
  omega
/-- The key of a word with one zero. -/
def zkey (f : Ieee.Format) (v : Nat) : Int := if rung f v = 0 then (f.signWeight : Int) else if sgb f v then (f.signWeight : Int) - 1 - rung f v else (f.signWeight : Int) + rung f v

theorem Fm.key0 (F : Fm fi p bi f) : numm_key.F fi ((0 : Nat) : Int) = (f.signWeight : Int) := by
  have hpos : 0 < f.signWeight := Nat.two_pow_pos _
  rw [F.keyF 0 (by omega)]
  unfold sgb rung
  rw [Nat.zero_div, Nat.zero_mod]
  simp
theorem Fm.fltCmpP (F : Fm fi p bi f) (k : Int) (a b : Int) : numm_fltCmp.Pre k fi a b := by
  have P2 : ∀ x y : Int, numm_fltCmp.Pre2 k fi x y := fun x y => ⟨F.keyP x, F.keyP y, trivial⟩
  have P1 : ∀ x y : Int, numm_fltCmp.Pre1 k fi x y := fun x y => ⟨F.isZeroP y, cond_intro (fun _ => P2 _ _) (fun _ => P2 _ _)⟩
  exact ⟨F.isNaNP a, cond_intro (fun _ => trivial) fun _ => ⟨F.isNaNP b, cond_intro (fun _ => trivial) fun _ => ⟨F.isZeroP a, cond_intro (fun _ => P1 _ _) (fun _ => P1 _ _)⟩⟩⟩

/-- What the comparison answers, by the order. -/
def cmpB (k : Int) (o : Option Ordering) : Bool :=
  cond (k == 0) (o == some .eq) (cond (k == 1) (o != some .eq) (cond (k == 2) (o == some .lt) (cond (k == 3) (o == some .gt) (cond (k == 4) (o == some .lt || o == some .eq) (o == some .gt || o == some .eq)))))

theorem cmp_ints (k x y : Int) : (cond (k == (0 : Int)) (numm_flag.F (x == y)) (cond (k == (1 : Int)) (numm_flag.F (x != y)) (cond (k == (2 : Int)) (numm_flag.F (decide (x < y))) (cond (k == (3 : Int)) (numm_flag.F (decide (y < x))) (cond (k == (4 : Int)) (numm_flag.F (decide (x ≤ y))) (numm_flag.F (decide (y ≤ x)))))))) = numm_flag.F (cmpB k (some (compare x y))) := by
  have h : ∀ o : Ordering, compare x y = o → (x == y) = (o == .eq) ∧ decide (x < y) = (o == .lt) ∧ decide (y < x) = (o == .gt) ∧ decide (x ≤ y) = (o != .gt) ∧ decide (y ≤ x) = (o != .lt) := by
    intro o ho
    rcases Int.lt_trichotomy x y with h | h | h
    · rw [Int.compare_eq_lt.2 h] at ho
      subst ho
      refine ⟨by rw [beq_eq_false_iff_ne.2 (by omega)]; rfl, by rw [decide_eq_true h]; rfl, by rw [decide_eq_false (by omega)]; rfl, by rw [decide_eq_true (by omega)]; rfl, by rw [decide_eq_false (by omega)]; rfl⟩
    · rw [Int.compare_eq_eq.2 h] at ho
      subst ho
      refine ⟨by rw [beq_iff_eq.2 h]; rfl, by rw [decide_eq_false (by omega)]; rfl, by rw [decide_eq_false (by omega)]; rfl, by rw [decide_eq_true (by omega)]; rfl, by rw [decide_eq_true (by omega)]; rfl⟩
    · rw [Int.compare_eq_gt.2 h] at ho
      subst ho
      refine ⟨by rw [beq_eq_false_iff_ne.2 (by omega)]; rfl, by rw [decide_eq_false (by omega)]; rfl, by rw [decide_eq_true h]; rfl, by rw [decide_eq_false (by omega)]; rfl, by rw [decide_eq_true (by omega)]; rfl⟩
  obtain ⟨h1, h2, h3, h4, h5⟩ := h _ rfl
  have hb : (x != y) = !(x == y) := rfl
  rw [hb, h1, h2, h3, h4, h5]
  unfold cmpB
  generalize compare x y = o
  cases (k == 0)
  · cases (k == 1)
    · cases (k == 2)
      · cases (k == 3)
        · cases (k == 4) <;> cases o <;> rfl
        · cases o <;> rfl
      · cases o <;> rfl
    · cases o <;> rfl
  · cases o <;> rfl

theorem cmp_none (k : Int) : cmpB k none = (k == 1) := by
  unfold cmpB
  by_cases h : k = 1
  · subst h; rfl
  · have e : (k == 1) = false := beq_eq_false_iff_ne.2 h
    rw [e]
    cases (k == 0)
    · cases (k == 2)
      · cases (k == 3)
        · cases (k == 4) <;> rfl
        · rfl
      · rfl
    · rfl

theorem Fm.fltCmpF (F : Fm fi p bi f) (k : Int) (a b : Nat) (ha : a < 2 * f.signWeight) (hb : b < 2 * f.signWeight) : numm_fltCmp.F k fi a b = numm_flag.F (cmpB k (f.order a b)) := by
  have h1 := F.sw2
  have hpos : 0 < f.signWeight := Nat.two_pow_pos _
  have ha64 : a < 18446744073709551616 := by omega
  have hb64 : b < 18446744073709551616 := by omega
  have hk : ∀ v : Nat, v < 2 * f.signWeight → rung f v ≠ 0 → numm_key.F fi v = zkey f v := by
    intro v hv h0
    rw [F.keyF v hv]; unfold zkey; rw [if_neg h0]
  have hz : ∀ v : Nat, rung f v = 0 → numm_key.F fi (0 : Int) = zkey f v := by
    intro v h0
    have := F.key0
    unfold zkey; rw [if_pos h0]; exact this
  have F2 : ∀ x y : Int, numm_fltCmp.F2 k fi x y = numm_flag.F (cmpB k (some (compare (numm_key.F fi x) (numm_key.F fi y)))) := fun x y => cmp_ints k _ _
  unfold numm_fltCmp.F
  rw [F.isNaNF a ha64, F.isNaNF b hb64, F.isZeroF a ha64]
  by_cases na : f.infRung < rung f a
  · rw [decide_eq_true na, cond_true, order_nan f F.bi_inf a b (.inl na), cmp_none]
  · rw [decide_eq_false na, cond_false]
    by_cases nb : f.infRung < rung f b
    · rw [decide_eq_true nb, cond_true, order_nan f F.bi_inf a b (.inr nb), cmp_none]
    · rw [decide_eq_false nb, cond_false, order_key f F.bi_inf a b (by omega) (by omega)]
      have hF1 : ∀ x : Int, numm_key.F fi x = zkey f a → numm_fltCmp.F1 k fi x b = numm_flag.F (cmpB k (some (compare (zkey f a) (zkey f b)))) := by
        intro x hx
        unfold numm_fltCmp.F1
        rw [F.isZeroF b hb64]
        by_cases zb : rung f b = 0
        · rw [decide_eq_true zb, cond_true, F2, hx, hz b zb]
        · rw [decide_eq_false zb, cond_false, F2, hx, hk b hb zb]
      have hcmp : compare (zkey f a) (zkey f b) = compare (key f a) (key f b) := by
        have kk : ∀ {a b c d : Int}, (a < b ↔ c < d) → (b < a ↔ d < c) → compare a b = compare c d := by
          intro a b c d h1 h2
          rcases Int.lt_trichotomy a b with h | h | h
          · rw [Int.compare_eq_lt.2 h, Int.compare_eq_lt.2 (h1.1 h)]
          · have : c = d := by
              rcases Int.lt_trichotomy c d with k | k | k
              · have := h1.2 k; omega
              · exact k
              · have := h2.2 k; omega
            rw [Int.compare_eq_eq.2 h, Int.compare_eq_eq.2 this]
          · rw [Int.compare_eq_gt.2 h, Int.compare_eq_gt.2 (h2.1 h)]
        unfold zkey key
        generalize rung f a = ra
        generalize rung f b = rb
        apply kk <;> cases sgb f a <;> cases sgb f b <;> simp only [Bool.false_eq_true, if_true, if_false] <;> split <;> split <;> omega
      by_cases za : rung f a = 0
      · rw [decide_eq_true za, cond_true, hF1 0 (hz a za), hcmp]
      · rw [decide_eq_false za, cond_false, hF1 a (hk a ha za), hcmp]
end

theorem fltCmp32 (op : Int) (h0 : 91 ≤ op) (h1 : op ≤ 96) (a b : Nat) (ha : a < 4294967296) (hb : b < 4294967296) : numm_fltCmp.F (op - 91) 32 a b = num_flag.F (num_relF32.F op a b) := by
  rw [fm32.fltCmpF (op - 91) a b ha hb, flag_same]
  have : op = 91 ∨ op = 92 ∨ op = 93 ∨ op = 94 ∨ op = 95 ∨ op = 96 := by omega
  rcases this with rfl | rfl | rfl | rfl | rfl | rfl <;> rfl
theorem fltCmp64 (op : Int) (h0 : 97 ≤ op) (h1 : op ≤ 102) (a b : Nat) (ha : a < 18446744073709551616) (hb : b < 18446744073709551616) : numm_fltCmp.F (op - 97) 64 a b = num_flag.F (num_relF64.F op a b) := by
  rw [fm64.fltCmpF (op - 97) a b ha hb, flag_same]
  have : op = 97 ∨ op = 98 ∨ op = 99 ∨ op = 100 ∨ op = 101 ∨ op = 102 := by omega
  rcases this with rfl | rfl | rfl | rfl | rfl | rfl <;> rfl

end Go.Proofs.Qxb6500320a
