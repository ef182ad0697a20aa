/-
  Floats: small whole numbers and their halves.
-/
import Derived.Test.Qxb6500320aVaC
set_option linter.unusedSimpArgs false
set_option linter.unusedVariables false
set_option maxRecDepth 100000
namespace Go.Proofs.Qxb6500320a
open Go Go.Vc

theorem dbin : Ieee.double.binade = 4503599627370496 := by decide
theorem dfrac : Ieee.double.fractionBits = 52 := rfl

theorem Hold.orderI {f : Ieee.Format} {x y : Nat} {n c : Int} {K : Nat} (hx : Hold f x (n * 2 ^ K)) (hy : Hold f y (c * 2 ^ K)) : f.order x y = some (compare n c) := by
  rw [hx.order hy, compare_mul]

theorem hold_const (f : Ieee.Format) (x : Nat) (s : Bool) (p : Nat) (j : Int) (J K C : Nat) (h : f.read x = .number s p j) (hJ : (J : Int) = j - f.leastPlace) (hv : p * 2 ^ J = C * 2 ^ K) : Hold f x ((if s then -(C : Int) else (C : Int)) * 2 ^ K) := by
  have h1 := hold_of f x s p j J _ h hJ hv
  have c : ((2 : Int) ^ K) = ((2 ^ K : Nat) : Int) := by simp
  cases s with
  | true =>
    simp only [if_true] at h1 ⊢
    rw [c, Int.neg_mul, ← Int.natCast_mul]; exact h1
  | false =>
    simp only [Bool.false_eq_true, if_false] at h1 ⊢
    rw [c, ← Int.natCast_mul]; exact h1

theorem abs_signed (n : Int) (K : Nat) : (if decide (n < 0) then -((n.natAbs * 2 ^ K : Nat) : Int) else ((n.natAbs * 2 ^ K : Nat) : Int)) = n * 2 ^ K := by
  have c : ((2 : Int) ^ K) = ((2 ^ K : Nat) : Int) := by simp
  by_cases h : n < 0
  · rw [decide_eq_true h]; simp only [if_true]
    rw [c, Int.natCast_mul, ← Int.neg_mul]; congr 1; omega
  · rw [decide_eq_false h]; simp only [Bool.false_eq_true, if_false]
    rw [c, Int.natCast_mul]; congr 1; omega

/-- A whole number's double, at any low place. -/
theorem num_word (n : Int) (i : Int) (K : Nat) (hK : (K : Int) = i + 1074) (hi : -1 ≤ i) (hi1 : i ≤ 0) (hn : n.natAbs < 9007199254740992) : ∃ r, (∀ s, Ieee.double.write (.number s n.natAbs i) = Ieee.double.word s r) ∧ r < Ieee.double.infRung ∧ val Ieee.double r = n.natAbs * 2 ^ K ∧ Hold Ieee.double (Ieee.double.word (decide (n < 0)) r) (n * 2 ^ K) := by
  have hl := log2_lt n.natAbs 52 (by omega)
  obtain ⟨r, g1, g2, g3⟩ := exact_rung Ieee.double n.natAbs i 2047 dE (by decide) (by rw [dbin]; omega) (by rw [dlp]; omega) (by rw [dlp, dfrac]; omega)
  have e : (i - Ieee.double.leastPlace).toNat = K := by rw [dlp]; omega
  rw [e] at g2
  refine ⟨r, g3, g1, g2, ?_⟩
  rw [← abs_signed n K]
  exact hold_word Ieee.double _ r _ g1 g2

theorem near_eq (n : Int) : FloatKind.nearest .f64 n = Ieee.double.write (.number (decide (n < 0)) n.natAbs 0) := rfl

theorem cutV_hold {x : Nat} {n : Int} (h : Hold Ieee.double x (n * 2 ^ 1074)) : cutV Ieee.double x = n := by
  unfold cutV
  rw [Hold.toInt (f := Ieee.double) (by decide) 1074 (by decide) h]; rfl

theorem cmp_lt {a b : Int} (h : a < b) : compare a b = .lt := Int.compare_eq_lt.2 h
theorem cmp_gt {a b : Int} (h : b < a) : compare a b = .gt := Int.compare_eq_gt.2 h

theorem tr3_int (x : Nat) (n : Int) (h : Hold Ieee.double x (n * 2 ^ 1074)) (h0 : -2147483648 ≤ n) (h1 : n < 2147483648) : tr3 x = (W3264 n, 0) := by
  have c1 := hold_const Ieee.double 13970166044105375744 true 4503599629467648 (-21) 1053 1074 2147483649 (by decide) (by decide) (by decide +kernel)
  have c2 := hold_const Ieee.double 4746794007248502784 false 4503599627370496 (-21) 1053 1074 2147483648 (by decide) (by decide) (by decide +kernel)
  have o1 := h.orderI c1
  have o2 := h.orderI c2
  simp only [if_true, Bool.false_eq_true, if_false] at o1 o2
  rw [cmp_gt (by omega)] at o1
  rw [cmp_lt (by omega)] at o2
  unfold tr3
  rw [h.self, o1, o2, cutV_hold h]
  rfl
theorem tr4_int (x : Nat) (n : Int) (h : Hold Ieee.double x (n * 2 ^ 1074)) (h0 : 0 ≤ n) (h1 : n < 4294967296) : tr4 x = (W64 n, 0) := by
  have c1 := hold_const Ieee.double 13830554455654793216 true 4503599627370496 (-52) 1022 1074 1 (by decide) (by decide) (by decide +kernel)
  have c2 := hold_const Ieee.double 4751297606875873280 false 4503599627370496 (-20) 1054 1074 4294967296 (by decide) (by decide) (by decide +kernel)
  have o1 := h.orderI c1
  have o2 := h.orderI c2
  simp only [if_true, Bool.false_eq_true, if_false] at o1 o2
  rw [cmp_gt (by omega)] at o1
  rw [cmp_lt (by omega)] at o2
  unfold tr4
  rw [h.self, o1, o2, cutV_hold h]
  rfl

/-! ### Halves -/
theorem div2 (x : Nat) (s : Bool) (p : Nat) (j : Int) (hx : Ieee.double.read x = .number s p j) : Ieee.double.div x 4611686018427387904 = some (Ieee.double.write (.number s p (j - 1))) := by
  have h2 : Ieee.double.read 4611686018427387904 = .number false 4503599627370496 (-51) := by decide
  obtain ⟨hp, _⟩ := double_bd x s p j hx
  have hl := log2_lt p 52 (by omega)
  unfold Ieee.Format.div
  rw [hx, h2]
  have hlog : (4503599627370496 : Nat).log2 = 52 := by decide
  have hq : (Ieee.Datum.number s p j).quotient (Ieee.double.fractionBits + 2) (.number false 4503599627370496 (-51)) = some (.number s (2 * (p * 2 ^ (106 - p.log2 - 52))) (j - -51 - ((106 - p.log2 : Nat) : Int) - 1)) := by
    simp only [Ieee.Datum.quotient]
    rw [if_neg (by decide), dfrac, hlog]
    have e0 : 52 + 2 + 52 - p.log2 = 106 - p.log2 := by omega
    rw [e0, Nat.shiftLeft_eq]
    have e1 : p * 2 ^ (106 - p.log2) = p * 2 ^ (106 - p.log2 - 52) * 4503599627370496 := by
      have e2 : 106 - p.log2 = (106 - p.log2 - 52) + 52 := by omega
      have e3 : (4503599627370496 : Nat) = 2 ^ 52 := by decide
      rw [e3, Nat.mul_assoc, ← Nat.pow_add, ← e2]
    rw [e1, Nat.mul_div_cancel _ (by decide), Nat.mul_mod_left]
    simp
  rw [hq]
  simp only [Option.map_some]
  congr 1
  apply write_same Ieee.double s _ _ _ _ (j - -51 - ((106 - p.log2 : Nat) : Int) - 1) (Int.le_refl _) (by omega)
  have e1 : (j - -51 - ((106 - p.log2 : Nat) : Int) - 1 - (j - -51 - ((106 - p.log2 : Nat) : Int) - 1)).toNat = 0 := by omega
  have e2 : (j - 1 - (j - -51 - ((106 - p.log2 : Nat) : Int) - 1)).toNat = (106 - p.log2 - 52) + 1 := by omega
  rw [e1, e2, Nat.pow_succ, Nat.pow_zero, Nat.mul_one, Nat.mul_comm 2, Nat.mul_assoc]

theorem half_word (n : Int) (hn : n.natAbs ≤ 4294967296) : ∃ r, fl64 163 ((FloatKind.nearest .f64 n : Nat) : Int) 4611686018427387904 = ((Ieee.double.word (decide (n < 0)) r : Nat) : Int) ∧ r < Ieee.double.infRung ∧ val Ieee.double r = n.natAbs * 2 ^ 1073 ∧ Hold Ieee.double (Ieee.double.word (decide (n < 0)) r) (n * 2 ^ 1073) := by
  obtain ⟨r0, w0, l0, v0, H0⟩ := num_word n 0 1074 (by decide) (by decide) (by decide) (by omega)
  obtain ⟨r, w1, l1, v1, H1⟩ := num_word n (-1) 1073 (by decide) (by decide) (by decide) (by omega)
  refine ⟨r, ?_, l1, v1, H1⟩
  have hsw0 : r0 < Ieee.double.signWeight := Nat.lt_trans l0 Ieee.double.infRung_lt
  obtain ⟨p, j, q1, q2, q3⟩ := read_val Ieee.double (Ieee.double.word (decide (n < 0)) r0) (by rw [rung_word _ _ _ hsw0]; exact l0)
  rw [rung_word _ _ _ hsw0, v0] at q3
  rw [sgb_word _ _ _ hsw0] at q1
  have e0 : FloatKind.nearest .f64 n = Ieee.double.word (decide (n < 0)) r0 := by rw [near_eq, w0]
  have ed := div2 _ _ _ _ q1
  have eh : Ieee.double.write (.number (decide (n < 0)) p (j - 1)) = Ieee.double.word (decide (n < 0)) r := by
    rw [← w1, dlp] at *
    apply write_same Ieee.double _ _ _ _ _ (-1075) (by omega) (by omega)
    have e1 : (j - 1 - -1075).toNat = (j - -1074).toNat := by omega
    have e2 : ((-1 : Int) - -1075).toNat = 1074 := by decide
    rw [e1, e2, q3]
  rw [eh] at ed
  have hz : (Ieee.double.order 4611686018427387904 0 == some .eq) = false := by decide +kernel
  have e : fl64 163 ((FloatKind.nearest .f64 n : Nat) : Int) 4611686018427387904 = cond (Ieee.double.order 4611686018427387904 0 == some .eq) (cond (Ieee.double.order (FloatKind.nearest .f64 n) (FloatKind.nearest .f64 n) != some .eq) 9221120237041090560 (cond (Ieee.double.order (FloatKind.nearest .f64 n) 0 == some .eq) 9221120237041090560 (bOr .u64 9218868437227405312 (bAnd .u64 (bXor .u64 ((FloatKind.nearest .f64 n : Nat) : Int) 4611686018427387904) 9223372036854775808)))) ((ar64 (Ieee.double.div (FloatKind.nearest .f64 n) 4611686018427387904) : Nat) : Int) := rfl
  rw [e, hz, cond_false, e0, ed]
  have hcn : ar64 (some (Ieee.double.word (decide (n < 0)) r)) = Ieee.double.word (decide (n < 0)) r := by
    show cn64 _ = _
    unfold cn64; rw [H1.notNaN]; rfl
  rw [hcn]

/-- To the nearest whole number, a half to the even one. -/
def rnd (a : Nat) : Nat := a / 2 + if a % 2 = 1 ∧ a / 2 % 2 = 1 then 1 else 0
theorem rnd_bd (a : Nat) : 2 * rnd a ≤ a + 1 ∧ a ≤ 2 * rnd a + 1 ∧ (a % 2 = 1 → rnd a % 2 = 0) := by
  unfold rnd; split <;> omega

theorem cut_half (a : Nat) : cutE (a + 9007199254740992) 1 = 4503599627370496 + rnd a := by
  unfold cutE rnd
  have e1 : (a + 9007199254740992) / 2 ^ 1 = 4503599627370496 + a / 2 := by omega
  have e2 : (a + 9007199254740992) % 2 ^ 1 = a % 2 := by omega
  rw [e1, e2]
  have e3 : decide (2 ^ 1 < 2 * (a % 2)) = false := decide_eq_false (by omega)
  rw [e3]
  have e4 : (4503599627370496 + a / 2) % 2 = a / 2 % 2 := by omega
  rw [e4]
  by_cases h1 : a % 2 = 1
  · by_cases h2 : a / 2 % 2 = 1
    · rw [if_pos ⟨h1, h2⟩, h1, h2]; rfl
    · have h2' : a / 2 % 2 = 0 := by omega
      rw [if_neg (fun h => h2 h.2), h1, h2']; rfl
  · have h1' : a % 2 = 0 := by omega
    rw [if_neg (fun h => h1 h.1), h1']; rfl

theorem up_half (a r : Nat) (ha : a ≤ 4294967296) (hr : r < Ieee.double.infRung) (hv : val Ieee.double r = a * 2 ^ 1073) : ∃ t, up64 (Ieee.double.word false r) = Ieee.double.word false t ∧ t < Ieee.double.infRung ∧ val Ieee.double t = rnd a * 2 ^ 1074 := by
  have hrb := rnd_bd a
  have hsw : r < Ieee.double.signWeight := Nat.lt_trans hr Ieee.double.infRung_lt
  obtain ⟨p, j, q1, q2, q3⟩ := read_val Ieee.double (Ieee.double.word false r) (by rw [rung_word _ _ _ hsw]; exact hr)
  rw [rung_word _ _ _ hsw, hv, dlp] at q3
  rw [sgb_word _ _ _ hsw] at q1
  rw [dlp] at q2
  have hc : Ieee.double.read 4841369599423283200 = .number false 4503599627370496 0 := by decide
  -- the sum
  have hadd : Ieee.double.add (Ieee.double.word false r) 4841369599423283200 = some (Ieee.double.write (.number false (a + 9007199254740992) (-1))) := by
    unfold Ieee.Format.add
    rw [q1, hc]
    simp only [Ieee.Datum.sum, Ieee.signed, Bool.false_eq_true, if_false, Nat.shiftLeft_eq, Option.map_some]
    rw [← Int.natCast_add]
    have hpos : 0 < 4503599627370496 * 2 ^ (0 - min j 0).toNat := Nat.mul_pos (by decide) (Nat.two_pow_pos _)
    have hne : ((p * 2 ^ (j - min j 0).toNat + 4503599627370496 * 2 ^ (0 - min j 0).toNat : Nat) : Int) ≠ 0 := by
      generalize p * 2 ^ (j - min j 0).toNat = A at *
      generalize 4503599627370496 * 2 ^ (0 - min j 0).toNat = B at *
      omega
    rw [if_neg hne, Int.natAbs_natCast, decide_eq_false (by
      generalize p * 2 ^ (j - min j 0).toNat = A at *
      generalize 4503599627370496 * 2 ^ (0 - min j 0).toNat = B at *
      omega)]
    congr 1
    apply write_same Ieee.double false _ _ _ _ (-1074) (by omega) (by decide)
    obtain ⟨t, ht⟩ : ∃ t : Nat, (t : Int) = min j 0 + 1074 := ⟨(min j 0 + 1074).toNat, by omega⟩
    have e1 : (min j 0 - -1074).toNat = t := by omega
    obtain ⟨E, hE⟩ : ∃ E : Nat, E = 1073 := ⟨_, rfl⟩
    have e2 : ((-1 : Int) - -1074).toNat = E := by rw [hE]; decide
    rw [← hE] at q3
    have e3 : (j - min j 0).toNat + t = (j - -1074).toNat := by omega
    have e4 : (0 - min j 0).toNat + t = 1 + E := by omega
    have e5 : (9007199254740992 : Nat) = 4503599627370496 * 2 ^ 1 := by decide
    rw [e1, e2, Nat.add_mul, Nat.add_mul, Nat.mul_assoc, Nat.mul_assoc, ← Nat.pow_add, ← Nat.pow_add, e3, e4, q3, e5, Nat.pow_add, Nat.mul_assoc]
  have hl : (a + 9007199254740992).log2 = 53 := (Nat.log2_eq_iff (by omega)).2 ⟨by omega, by omega⟩
  have hru : rungOf Ieee.double false (a + 9007199254740992) (-1) = 1074 * Ieee.double.binade + (4503599627370496 + rnd a) := by
    unfold rungOf
    rw [hl, dlp, dfrac]
    have e : max ((-1 : Int) + ((53 : Nat) : Int) - ((52 : Nat) : Int)) (-1074) = 0 := by decide
    rw [e, cut_eq]
    have e1 : ((-1 : Int) - 0).toNat = 0 := by decide
    have e2 : ((0 : Int) - -1).toNat = 1 := by decide
    have e3 : ((0 : Int) - -1074).toNat = 1074 := by decide
    rw [e1, e2, e3, Nat.shiftLeft_zero, cut_half]
  have hir := ir64
  have hsum : Ieee.double.write (.number false (a + 9007199254740992) (-1)) = Ieee.double.word false (1074 * Ieee.double.binade + (4503599627370496 + rnd a)) := by
    rw [write_number, if_neg (by omega), hru, Nat.min_eq_left (by rw [hir, dbin]; omega)]
  have hread : Ieee.double.read (Ieee.double.word false (1074 * Ieee.double.binade + (4503599627370496 + rnd a))) = .number false (4503599627370496 + rnd a) 0 := by
    rw [read_rung Ieee.double false 1074 (4503599627370496 + rnd a) (by rw [dbin]; omega) (.inr (by rw [dbin]; omega)) (by rw [hir, dbin]; omega), dlp]
    congr 1
  -- the difference
  have hsub : Ieee.double.sub (Ieee.double.word false (1074 * Ieee.double.binade + (4503599627370496 + rnd a))) 4841369599423283200 = some (Ieee.double.write (.number false (rnd a) 0)) := by
    unfold Ieee.Format.sub
    rw [hread, hc]
    have hs : (Ieee.Datum.number false (4503599627370496 + rnd a) 0).sum (Ieee.Datum.number false 4503599627370496 0).opposite = some (.number false (rnd a) 0) := by
      simp only [Ieee.Datum.opposite, Ieee.Datum.sum, Ieee.signed, Bool.false_eq_true, if_false, Bool.not_false, if_true, Nat.shiftLeft_eq]
      have e0 : ((0 : Int) - min 0 0).toNat = 0 := by decide
      have e1 : min (0 : Int) 0 = 0 := by decide
      rw [e0, e1, Nat.pow_zero, Nat.mul_one, Nat.mul_one]
      have e2 : ((4503599627370496 + rnd a : Nat) : Int) + -((4503599627370496 : Nat) : Int) = ((rnd a : Nat) : Int) := by omega
      rw [e2, Int.natAbs_natCast]
      congr 2
      split
      · rfl
      · apply decide_eq_false; omega
    rw [hs]; rfl
  obtain ⟨t, w, l, v, _⟩ := num_word ((rnd a : Nat) : Int) 0 1074 (by decide) (by decide) (by decide) (by omega)
  rw [Int.natAbs_natCast] at w v
  refine ⟨t, ?_, l, v⟩
  unfold up64
  rw [hadd, Option.getD_some, hsum, hsub, Option.getD_some, w]

theorem neg_word (s : Bool) (r : Nat) (hr : r < 9223372036854775808) : Op.negFloat .f64 (Ieee.double.word s r) = Ieee.double.word (!s) r := by
  have e : Op.negFloat .f64 (Ieee.double.word s r) = Ieee.double.word s r ^^^ 2 ^ 63 := rfl
  rw [e]
  unfold Ieee.Format.word
  rw [sw64]
  have h1 : (9223372036854775808 + r) = 2 ^ 63 ^^^ r := by
    have h : r < 2 ^ 63 := hr
    have := Nat.two_pow_add_eq_or_of_lt h 1
    have hx : 2 ^ 63 ^^^ r = 2 ^ 63 + r := by
      apply Nat.eq_of_testBit_eq
      intro i
      have e1 : 2 ^ 63 + r = 2 ^ 63 * 1 ||| r := by rw [← this]
      rw [e1, Nat.testBit_xor, Nat.testBit_or, Nat.mul_one, Nat.testBit_two_pow]
      by_cases hi : 63 = i
      · subst hi
        have : r.testBit 63 = false := Nat.testBit_lt_two_pow h
        rw [this]; rfl
      · simp [hi]
    rw [hx]
  cases s with
  | false => simp only [Bool.false_eq_true, if_false, Bool.not_false, if_true]; rw [h1, Nat.xor_comm]
  | true => simp only [if_true, Bool.not_true, Bool.false_eq_true, if_false]; rw [h1, Nat.xor_comm, ← Nat.xor_assoc, Nat.xor_self, Nat.zero_xor]

theorem and_pow (x k : Nat) : x &&& 2 ^ k = 2 ^ k * (x / 2 ^ k % 2) := by
  have hp := Nat.two_pow_pos k
  rw [and_split x (2 ^ k) k, Nat.mod_self, Nat.and_zero, Nat.div_self hp, Nat.and_one_is_mod]; omega

theorem sign_test (s : Bool) (r : Nat) (hr : r < 9223372036854775808) : ((bAnd .u64 ((Ieee.double.word s r : Nat) : Int) 9223372036854775808) != (0 : Int)) = s := by
  have hlt : Ieee.double.word s r < 18446744073709551616 := by unfold Ieee.Format.word; rw [sw64]; split <;> omega
  have e : bAnd .u64 ((Ieee.double.word s r : Nat) : Int) 9223372036854775808 = ((Ieee.double.word s r &&& 9223372036854775808 : Nat) : Int) := bAnd64_n _ 9223372036854775808 hlt (by decide)
  rw [e]
  have e2 : Ieee.double.word s r &&& 2 ^ 63 = 2 ^ 63 * (Ieee.double.word s r / 2 ^ 63 % 2) := and_pow _ 63
  have e3 : Ieee.double.word s r / 2 ^ 63 % 2 = s.toNat := by
    unfold Ieee.Format.word; rw [sw64]
    cases s <;> simp <;> omega
  rw [e3] at e2
  have e4 : (9223372036854775808 : Nat) = 2 ^ 63 := by decide
  rw [e4, e2]
  cases s <;> rfl

theorem near_half (n : Int) (r : Nat) (hn : n.natAbs ≤ 4294967296) (hr : r < Ieee.double.infRung) (hv : val Ieee.double r = n.natAbs * 2 ^ 1073) (hH : Hold Ieee.double (Ieee.double.word (decide (n < 0)) r) (n * 2 ^ 1073)) :
    ∃ t, near64 (Ieee.double.word (decide (n < 0)) r) = Ieee.double.word (decide (n < 0)) t ∧ t < Ieee.double.infRung ∧ val Ieee.double t = rnd n.natAbs * 2 ^ 1074 := by
  have hr' : r < 9223372036854775808 := by rw [ir64] at hr; omega
  have c1 := hold_const Ieee.double 14064741636278059008 true 4503599627370496 0 1074 1073 9007199254740992 (by decide) (by decide) (by decide +kernel)
  have c2 := hold_const Ieee.double 4841369599423283200 false 4503599627370496 0 1074 1073 9007199254740992 (by decide) (by decide) (by decide +kernel)
  have o1 := hH.orderI c1
  have o2 := hH.orderI c2
  simp only [if_true, Bool.false_eq_true, if_false] at o1 o2
  rw [cmp_gt (by omega)] at o1
  rw [cmp_lt (by omega)] at o2
  obtain ⟨t, u1, u2, u3⟩ := up_half n.natAbs r hn hr hv
  have ht' : t < 9223372036854775808 := by rw [ir64] at u2; omega
  refine ⟨t, ?_, u2, u3⟩
  unfold near64
  rw [o1, o2, sign_test _ r hr']
  by_cases h : n < 0
  · rw [decide_eq_true h]
    show Op.negFloat .f64 (up64 (Op.negFloat .f64 (Ieee.double.word true r))) = _
    rw [neg_word true r hr', Bool.not_true, u1, neg_word false t ht', Bool.not_false]
  · rw [decide_eq_false h]
    exact u1

end Go.Proofs.Qxb6500320a
