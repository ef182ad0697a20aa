/-
  The model's integers: two operands.
-/
import Derived.Test.Qxb6500320aRfN
set_option linter.unusedSimpArgs false
set_option linter.unusedVariables false
set_option maxRecDepth 100000
namespace Go.Proofs.Qxb6500320a
open Go Go.Vc

theorem ib0 (n x y : Int) : numm_intBin.F 0 n x y = (bAnd .u64 (IntKind.wrap .u64 (x + y)) (numm_mask.F n), 0) := rfl
theorem ib1 (n x y : Int) : numm_intBin.F 1 n x y = (bAnd .u64 (IntKind.wrap .u64 (x + numm_minus.F n y)) (numm_mask.F n), 0) := rfl
theorem ib2 (n x y : Int) : numm_intBin.F 2 n x y = (bAnd .u64 (IntKind.wrap .u64 (x * y)) (numm_mask.F n), 0) := rfl
theorem ib3 (n x y : Int) : numm_intBin.F 3 n x y = numm_divS.F true n x y := rfl
theorem ib4 (n x y : Int) : numm_intBin.F 4 n x y = cond (y == (0 : Int)) (0, 39) (IntKind.wrap .u64 (Int.tdiv x y), 0) := rfl
theorem ib5 (n x y : Int) : numm_intBin.F 5 n x y = numm_divS.F false n x y := rfl
theorem ib6 (n x y : Int) : numm_intBin.F 6 n x y = cond (y == (0 : Int)) (0, 39) (Int.tmod x y, 0) := rfl
theorem ib7 (n x y : Int) : numm_intBin.F 7 n x y = (bAnd .u64 x y, 0) := rfl
theorem ib8 (n x y : Int) : numm_intBin.F 8 n x y = (bOr .u64 x y, 0) := rfl
theorem ib9 (n x y : Int) : numm_intBin.F 9 n x y = (bXor .u64 x y, 0) := rfl
theorem ib10 (n x y : Int) : numm_intBin.F 10 n x y = (bAnd .u64 (IntKind.wrap .u64 (x * 2 ^ (min (Int.toNat (Int.tmod y (IntKind.wrap .u64 n))) (IntKind.bits .u64)))) (numm_mask.F n), 0) := rfl
theorem ib11 (n x y : Int) : numm_intBin.F 11 n x y = cond (decide (x ≥ numm_top.F n)) (bOr .u64 (Int.fdiv x (2 ^ (min (Int.toNat (Int.tmod y (IntKind.wrap .u64 n))) (IntKind.bits .u64)))) (IntKind.wrap .u64 (numm_mask.F n - Int.fdiv (numm_mask.F n) (2 ^ (min (Int.toNat (Int.tmod y (IntKind.wrap .u64 n))) (IntKind.bits .u64))))), 0) (Int.fdiv x (2 ^ (min (Int.toNat (Int.tmod y (IntKind.wrap .u64 n))) (IntKind.bits .u64))), 0) := rfl
theorem ib12 (n x y : Int) : numm_intBin.F 12 n x y = (Int.fdiv x (2 ^ (min (Int.toNat (Int.tmod y (IntKind.wrap .u64 n))) (IntKind.bits .u64))), 0) := rfl
theorem ib13 (n x y : Int) : numm_intBin.F 13 n x y = (bAnd .u64 (bOr .u64 (IntKind.wrap .u64 (x * 2 ^ (min (Int.toNat (Int.tmod y (IntKind.wrap .u64 n))) (IntKind.bits .u64)))) (Int.fdiv x (2 ^ (min (Int.toNat (IntKind.wrap .u64 (IntKind.wrap .u64 n - Int.tmod y (IntKind.wrap .u64 n)))) (IntKind.bits .u64))))) (numm_mask.F n), 0) := rfl
theorem ib14 (n x y : Int) : numm_intBin.F 14 n x y = (bAnd .u64 (bOr .u64 (Int.fdiv x (2 ^ (min (Int.toNat (Int.tmod y (IntKind.wrap .u64 n))) (IntKind.bits .u64)))) (IntKind.wrap .u64 (x * 2 ^ (min (Int.toNat (IntKind.wrap .u64 (IntKind.wrap .u64 n - Int.tmod y (IntKind.wrap .u64 n)))) (IntKind.bits .u64))))) (numm_mask.F n), 0) := rfl

/-! ### 32 bits -/
theorem ap32_2 (op : Int) (a b : Nat) (ha : a < 4294967296) (hb : b < 4294967296) (h : op = 106 ∨ op = 107 ∨ op = 108 ∨ op = 113 ∨ op = 114 ∨ op = 115 ∨ op = 116 ∨ op = 117 ∨ op = 118 ∨ op = 119 ∨ op = 120) : (ap op a b).2 = 0 := by
  have z : ∀ x y : Int, (num_int32s.F 106 x y).2 = 0 ∧ (num_int32s.F 107 x y).2 = 0 ∧ (num_int32s.F 108 x y).2 = 0 ∧ (num_int32s.F 113 x y).2 = 0 ∧ (num_int32s.F 114 x y).2 = 0 ∧ (num_int32s.F 115 x y).2 = 0 ∧ (num_int32s.F 116 x y).2 = 0 ∧ (num_int32s.F 117 x y).2 = 0 ∧ (num_int32s.F 118 x y).2 = 0 ∧ (num_int32s.F 119 x y).2 = 0 ∧ (num_int32s.F 120 x y).2 = 0 :=
    fun x y => ⟨rfl, rfl, rfl, rfl, rfl, rfl, rfl, rfl, rfl, rfl, rfl⟩
  obtain ⟨z0, z1, z2, z3, z4, z5, z6, z7, z8, z9, z10⟩ := z (a : Int) (b : Int)
  rcases h with rfl | rfl | rfl | rfl | rfl | rfl | rfl | rfl | rfl | rfl | rfl
  · rw [ap32 106 a b (by decide) (by decide) (by omega) (by omega)]; exact z0
  · rw [ap32 107 a b (by decide) (by decide) (by omega) (by omega)]; exact z1
  · rw [ap32 108 a b (by decide) (by decide) (by omega) (by omega)]; exact z2
  · rw [ap32 113 a b (by decide) (by decide) (by omega) (by omega)]; exact z3
  · rw [ap32 114 a b (by decide) (by decide) (by omega) (by omega)]; exact z4
  · rw [ap32 115 a b (by decide) (by decide) (by omega) (by omega)]; exact z5
  · rw [ap32 116 a b (by decide) (by decide) (by omega) (by omega)]; exact z6
  · rw [ap32 117 a b (by decide) (by decide) (by omega) (by omega)]; exact z7
  · rw [ap32 118 a b (by decide) (by decide) (by omega) (by omega)]; exact z8
  · rw [ap32 119 a b (by decide) (by decide) (by omega) (by omega)]; exact z9
  · rw [ap32 120 a b (by decide) (by decide) (by omega) (by omega)]; exact z10
theorem pairOk32 (op : Int) (a b : Nat) (ha : a < 4294967296) (hb : b < 4294967296) (h : op = 106 ∨ op = 107 ∨ op = 108 ∨ op = 113 ∨ op = 114 ∨ op = 115 ∨ op = 116 ∨ op = 117 ∨ op = 118 ∨ op = 119 ∨ op = 120) (r : Int) (h1 : (ap op a b).1 = r) : (r, (0 : Int)) = ap op a b := by
  rw [← h1, ← ap32_2 op a b ha hb h]

theorem msk32 : numm_mask.F 32 = 4294967295 := by decide +kernel
theorem n32 : IntKind.wrap .u64 32 = 32 := by decide +kernel
theorem mskMod32 (z : Nat) : ((z % 18446744073709551616 % 4294967296 : Nat) : Int) = ((z % 4294967296 : Nat) : Int) := by
  rw [Nat.mod_mod_of_dvd _ (by decide)]

theorem intBin32 (op : Int) (h0 : 106 ≤ op) (h1 : op ≤ 120) (a b : Nat) (ha : a < 4294967296) (hb : b < 4294967296) : numm_intBin.F (op - 106) 32 a b = ap op a b := by
  have hsw : Ieee.single.signWeight = 2147483648 := by decide
  obtain ⟨k, rfl⟩ : ∃ k, op = 106 + k := ⟨op - 106, by omega⟩
  have ek : (106 : Int) + k - 106 = k := by omega
  rw [ek]
  have hop : k = 0 ∨ k = 1 ∨ k = 2 ∨ k = 3 ∨ k = 4 ∨ k = 5 ∨ k = 6 ∨ k = 7 ∨ k = 8 ∨ k = 9 ∨ k = 10 ∨ k = 11 ∨ k = 12 ∨ k = 13 ∨ k = 14 := by omega
  have hcm : Int.tmod (b : Int) 32 = ((b % 32 : Nat) : Int) := tmod_n b 32
  have hc : b % 32 < 32 := Nat.mod_lt _ (by decide)
  have ha64 : a < 18446744073709551616 := by omega
  have hb64 : b < 18446744073709551616 := by omega
  have hM : (4294967296 : Nat) = 2 ^ 32 := by decide
  clear ek h0 h1
  rcases hop with rfl | rfl | rfl | rfl | rfl | rfl | rfl | rfl | rfl | rfl | rfl | rfl | rfl | rfl | rfl
  · show _ = ap 106 a b
    rw [ib0, msk32]
    refine pairOk32 106 a b ha hb (by decide) _ ?_
    rw [wadd32 a b ha hb, wrap_u64_mod, andm32 _ (by omega) (by omega)]; omega
  · show _ = ap 107 a b
    rw [ib1, msk32]
    refine pairOk32 107 a b ha hb (by decide) _ ?_
    have hmn := fm32.minusF b (by rw [hsw]; exact hb)
    rw [hsw] at hmn
    rw [hmn]
    have e : (ap 107 a b).1 = IntKind.wrap .u32 ((a : Int) - (b : Int)) := by rw [ap32 107 a b (by decide) (by decide) (by omega) (by omega)]; rfl
    rw [e, wrap_u32_mod, wrap_u64_mod, andm32 _ (by omega) (by omega)]; omega
  · show _ = ap 108 a b
    rw [ib2, msk32]
    refine pairOk32 108 a b ha hb (by decide) _ ?_
    rw [wmul32 a b ha hb, ← Int.natCast_mul, wrap_u64_mod]
    have e : ((a * b : Nat) : Int) % 18446744073709551616 = ((a * b % 18446744073709551616 : Nat) : Int) := by omega
    rw [e, andm32 _ (by omega) (by omega), ← mskMod32]; omega
  · show _ = ap 109 a b
    rw [ib3, fm32.divS_F true a b (by rw [hsw]; exact ha) (by rw [hsw]; exact hb), hsw]
    by_cases hz : b = 0
    · subst hz
      rw [if_pos rfl]
      exact ((divz32 a ha).1).symm
    · obtain ⟨d1, d2, d3⟩ := divs32 a b ha hb hz
      rw [if_neg hz]
      simp only [if_true]
      by_cases ho : a = 2147483648 ∧ b = 2 * 2147483648 - 1
      · rw [if_pos ho, d3 ⟨ho.1, by omega⟩]
      · rw [if_neg ho, d2 (by omega)]; rfl
  · show _ = ap 110 a b
    rw [ib4]
    by_cases hz : b = 0
    · subst hz
      exact ((divz32 a ha).2.1).symm
    · have hbn : ((b : Int) == 0) = false := by rw [beq_eq_false_iff_ne]; omega
      rw [hbn, cond_false, (divu32 a b ha hb hz).1, ← Int.ofNat_tdiv, wrap64_n _ (Nat.lt_of_le_of_lt (Nat.div_le_self _ _) ha64)]
  · show _ = ap 111 a b
    rw [ib5, fm32.divS_F false a b (by rw [hsw]; exact ha) (by rw [hsw]; exact hb), hsw]
    by_cases hz : b = 0
    · subst hz
      rw [if_pos rfl]
      exact ((divz32 a ha).2.2.1).symm
    · obtain ⟨d1, d2, d3⟩ := divs32 a b ha hb hz
      rw [if_neg hz, d1]; rfl
  · show _ = ap 112 a b
    rw [ib6]
    by_cases hz : b = 0
    · subst hz
      exact ((divz32 a ha).2.2.2).symm
    · have hbn : ((b : Int) == 0) = false := by rw [beq_eq_false_iff_ne]; omega
      rw [hbn, cond_false, (divu32 a b ha hb hz).2, ← Int.ofNat_tmod]
  · show _ = ap 113 a b
    rw [ib7]
    refine pairOk32 113 a b ha hb (by decide) _ ?_
    rw [wand32 a b ha hb, bAnd64_n a b ha64 hb64]
  · show _ = ap 114 a b
    rw [ib8]
    refine pairOk32 114 a b ha hb (by decide) _ ?_
    rw [wor32 a b ha hb, bOr64_n a b ha64 hb64]
  · show _ = ap 115 a b
    rw [ib9]
    refine pairOk32 115 a b ha hb (by decide) _ ?_
    rw [wxor32 a b ha hb, bXor64_n a b ha64 hb64]
  · show _ = ap 116 a b
    rw [ib10, msk32, n32, hcm, Int.toNat_natCast, shl64_n a _ (by omega)]
    refine pairOk32 116 a b ha hb (by decide) _ ?_
    rw [wshl32 a b ha hb, ← mskMod32, andm32 _ (by omega) (by omega)]; omega
  · show _ = ap 117 a b
    rw [ib11, msk32, n32, hcm, Int.toNat_natCast, shr64_n a _ (by omega)]
    have hmk : Int.fdiv 4294967295 (2 ^ (min (b % 32) (IntKind.bits .u64))) = ((4294967295 / 2 ^ (b % 32) : Nat) : Int) := shr64_n 4294967295 _ (by omega)
    rw [hmk]
    have h := pairOk32 117 a b ha hb (by decide) (if 2147483648 ≤ a then ((4294967296 - 2 ^ (32 - b % 32) + a / 2 ^ (b % 32) : Nat) : Int) else ((a / 2 ^ (b % 32) : Nat) : Int)) (by rw [wshs32 a b ha hb]; split <;> rfl)
    · rw [← h]
      have ht : numm_top.F 32 = 2147483648 := by decide +kernel
      rw [ht]
      by_cases hs : 2147483648 ≤ a
      · rw [decide_eq_true (show (a : Int) ≥ 2147483648 by omega), cond_true, if_pos hs]
        have hsplit : 2 ^ (32 - b % 32) * 2 ^ (b % 32) = 4294967296 := by
          rw [← Nat.pow_add, hM]; congr 1; omega
        have hpc := Nat.two_pow_pos (b % 32)
        have hpk := Nat.two_pow_pos (32 - b % 32)
        have hkd : 4294967295 / 2 ^ (b % 32) = 2 ^ (32 - b % 32) - 1 := by
          have hlo : (2 ^ (32 - b % 32) - 1) * 2 ^ (b % 32) ≤ 4294967295 := by
            rw [Nat.sub_mul, hsplit, Nat.one_mul]; omega
          have hhi : 4294967295 < (2 ^ (32 - b % 32) - 1 + 1) * 2 ^ (b % 32) := by
            rw [Nat.sub_add_cancel hpk, hsplit]; decide
          exact Nat.div_eq_of_lt_le hlo hhi
        have hle : 2 ^ (32 - b % 32) ≤ 4294967296 := by
          rw [hM]; exact Nat.pow_le_pow_right (by decide) (by omega)
        have hqa : a / 2 ^ (b % 32) < 2 ^ (32 - b % 32) := by
          rw [Nat.div_lt_iff_lt_mul hpc, hsplit]; exact ha
        rw [hkd]
        have hfill := fill_or (a / 2 ^ (b % 32)) (32 - b % 32) 32 4294967296 hM (by omega) hqa
        generalize a / 2 ^ (b % 32) = q at *
        generalize 2 ^ (32 - b % 32) = X at *
        have e1 : IntKind.wrap .u64 ((4294967295 : Int) - ((X - 1 : Nat) : Int)) = ((4294967296 - X : Nat) : Int) := by rw [wrap_u64 (by omega) (by omega)]; omega
        rw [e1, bOr64_n _ _ (by omega) (by omega), hfill]
      · rw [decide_eq_false (show ¬ (a : Int) ≥ 2147483648 by omega), cond_false, if_neg hs]
  · show _ = ap 118 a b
    rw [ib12, n32, hcm, Int.toNat_natCast, shr64_n a _ (by omega)]
    refine pairOk32 118 a b ha hb (by decide) _ ?_
    rw [wshu32 a b ha hb]
  · show _ = ap 119 a b
    rw [ib13, msk32, n32, hcm, Int.toNat_natCast, shl64_n a _ (by omega)]
    refine pairOk32 119 a b ha hb (by decide) _ ?_
    rw [wrol32 a b ha hb]
    have e1 : IntKind.wrap .u64 ((32 : Int) - ((b % 32 : Nat) : Int)) = ((32 - b % 32 : Nat) : Int) := by rw [wrap_u64 (by omega) (by omega)]; omega
    rw [e1, Int.toNat_natCast]
    have e2 : Int.fdiv (a : Int) (2 ^ (min (32 - b % 32) (IntKind.bits .u64))) = ((if b % 32 = 0 then 0 else a / 2 ^ ((32 - b % 32) % 32) : Nat) : Int) := by
      by_cases hz : b % 32 = 0
      · rw [hz, if_pos rfl]
        have hm : min (32 - 0) (IntKind.bits .u64) = 32 := by decide
        rw [hm, fdiv_n, Nat.div_eq_of_lt (by rw [← hM]; exact ha)]
      · rw [if_neg hz, shr64_n a _ (by omega), Nat.mod_eq_of_lt (show 32 - b % 32 < 32 by omega)]
    rw [e2]
    unfold rotl
    have hdl : ∀ j, a / 2 ^ j ≤ a := fun j => Nat.div_le_self _ _
    by_cases hz : b % 32 = 0
    · rw [hz, if_pos rfl]
      have hm : (32 - 0) % 32 = 0 := by decide
      rw [hm, Nat.pow_zero, Nat.mul_one, Nat.div_one, Nat.mod_eq_of_lt ha, Nat.mod_eq_of_lt ha64, Nat.or_self]
      have e9 := bOr64_n a 0 ha64 (by decide)
      rw [Nat.or_zero] at e9
      rw [e9, andm32 _ (by omega) (by omega)]; omega
    · rw [if_neg hz]
      have hd := hdl ((32 - b % 32) % 32)
      rw [bOr64_n _ _ (Nat.mod_lt _ (by decide)) (by omega)]
      have ho : (a * 2 ^ (b % 32) % 18446744073709551616 ||| a / 2 ^ ((32 - b % 32) % 32)) < 18446744073709551616 := Nat.or_lt_two_pow (n := 64) (Nat.mod_lt _ (by decide)) (by show _ < 18446744073709551616; omega)
      rw [andm32 _ (by omega) (by omega)]
      have e3 : (a * 2 ^ (b % 32) % 18446744073709551616 ||| a / 2 ^ ((32 - b % 32) % 32)) % 4294967296 = a * 2 ^ (b % 32) % 4294967296 ||| a / 2 ^ ((32 - b % 32) % 32) := by
        have h2 := Nat.or_mod_two_pow (a := a * 2 ^ (b % 32) % 18446744073709551616) (b := a / 2 ^ ((32 - b % 32) % 32)) (n := 32)
        rw [← hM] at h2
        rw [h2, Nat.mod_mod_of_dvd _ (by decide), Nat.mod_eq_of_lt (show a / 2 ^ ((32 - b % 32) % 32) < 4294967296 by omega)]
      rw [← e3]; omega
  · show _ = ap 120 a b
    rw [ib14, msk32, n32, hcm, Int.toNat_natCast, shr64_n a _ (by omega)]
    refine pairOk32 120 a b ha hb (by decide) _ ?_
    have er : (ap 120 a b).1 = ((rotr 32 4294967296 (b % 32) a : Nat) : Int) := by rw [ap32 120 a b (by decide) (by decide) (by omega) (by omega), rotr32_F a b ha hb]
    rw [er]
    have e1 : IntKind.wrap .u64 ((32 : Int) - ((b % 32 : Nat) : Int)) = ((32 - b % 32 : Nat) : Int) := by rw [wrap_u64 (by omega) (by omega)]; omega
    rw [e1, Int.toNat_natCast]
    unfold rotr
    have hd : a / 2 ^ (b % 32) ≤ a := Nat.div_le_self _ _
    by_cases hz : b % 32 = 0
    · rw [hz]
      have hm : (32 - 0) % 32 = 0 := by decide
      have e2 : IntKind.wrap .u64 ((a : Int) * 2 ^ (min (32 - 0) (IntKind.bits .u64))) = ((a * 4294967296 % 18446744073709551616 : Nat) : Int) := by
        have hm2 : min (32 - 0) (IntKind.bits .u64) = 32 := by decide
        rw [hm2, wrap_u64_mod]
        have c : (2 : Int) ^ 32 = 4294967296 := by decide
        rw [c]; omega
      rw [e2, hm, Nat.pow_zero, Nat.mul_one, Nat.div_one, Nat.mod_eq_of_lt ha, Nat.or_self, bOr64_n a _ ha64 (Nat.mod_lt _ (by decide))]
      have ho : (a ||| a * 4294967296 % 18446744073709551616) < 18446744073709551616 := Nat.or_lt_two_pow (n := 64) ha64 (Nat.mod_lt _ (by decide))
      rw [andm32 _ (by omega) (by omega)]
      have e3 : (a ||| a * 4294967296 % 18446744073709551616) % 4294967296 = a := by
        have h2 := Nat.or_mod_two_pow (a := a) (b := a * 4294967296 % 18446744073709551616) (n := 32)
        rw [← hM] at h2
        rw [h2, Nat.mod_mod_of_dvd _ (by decide), Nat.mul_mod_left, Nat.or_zero, Nat.mod_eq_of_lt ha]
      omega
    · rw [shl64_n a _ (by omega), Nat.mod_eq_of_lt (show 32 - b % 32 < 32 by omega), bOr64_n _ _ (by omega) (Nat.mod_lt _ (by decide))]
      have ho : (a / 2 ^ (b % 32) ||| a * 2 ^ (32 - b % 32) % 18446744073709551616) < 18446744073709551616 := Nat.or_lt_two_pow (n := 64) (by show _ < 18446744073709551616; omega) (Nat.mod_lt _ (by decide))
      rw [andm32 _ (by omega) (by omega)]
      have e3 : (a / 2 ^ (b % 32) ||| a * 2 ^ (32 - b % 32) % 18446744073709551616) % 4294967296 = a / 2 ^ (b % 32) ||| a * 2 ^ (32 - b % 32) % 4294967296 := by
        have h2 := Nat.or_mod_two_pow (a := a / 2 ^ (b % 32)) (b := a * 2 ^ (32 - b % 32) % 18446744073709551616) (n := 32)
        rw [← hM] at h2
        rw [h2, Nat.mod_mod_of_dvd _ (by decide), Nat.mod_eq_of_lt (show a / 2 ^ (b % 32) < 4294967296 by omega)]
      rw [← e3]; omega

/-! ### 64 bits -/
theorem ap64_2 (op : Int) (a b : Nat) (ha : a < 18446744073709551616) (hb : b < 18446744073709551616) (h : op = 124 ∨ op = 125 ∨ op = 126 ∨ op = 131 ∨ op = 132 ∨ op = 133 ∨ op = 134 ∨ op = 135 ∨ op = 136 ∨ op = 137 ∨ op = 138) : (ap op a b).2 = 0 := by
  have z : ∀ x y : Int, (num_int64s.F 124 x y).2 = 0 ∧ (num_int64s.F 125 x y).2 = 0 ∧ (num_int64s.F 126 x y).2 = 0 ∧ (num_int64s.F 131 x y).2 = 0 ∧ (num_int64s.F 132 x y).2 = 0 ∧ (num_int64s.F 133 x y).2 = 0 ∧ (num_int64s.F 134 x y).2 = 0 ∧ (num_int64s.F 135 x y).2 = 0 ∧ (num_int64s.F 136 x y).2 = 0 ∧ (num_int64s.F 137 x y).2 = 0 ∧ (num_int64s.F 138 x y).2 = 0 :=
    fun x y => ⟨rfl, rfl, rfl, rfl, rfl, rfl, rfl, rfl, rfl, rfl, rfl⟩
  obtain ⟨z0, z1, z2, z3, z4, z5, z6, z7, z8, z9, z10⟩ := z (a : Int) (b : Int)
  rcases h with rfl | rfl | rfl | rfl | rfl | rfl | rfl | rfl | rfl | rfl | rfl
  · rw [ap64 124 a b (by decide) (by decide)]; exact z0
  · rw [ap64 125 a b (by decide) (by decide)]; exact z1
  · rw [ap64 126 a b (by decide) (by decide)]; exact z2
  · rw [ap64 131 a b (by decide) (by decide)]; exact z3
  · rw [ap64 132 a b (by decide) (by decide)]; exact z4
  · rw [ap64 133 a b (by decide) (by decide)]; exact z5
  · rw [ap64 134 a b (by decide) (by decide)]; exact z6
  · rw [ap64 135 a b (by decide) (by decide)]; exact z7
  · rw [ap64 136 a b (by decide) (by decide)]; exact z8
  · rw [ap64 137 a b (by decide) (by decide)]; exact z9
  · rw [ap64 138 a b (by decide) (by decide)]; exact z10
theorem pairOk64 (op : Int) (a b : Nat) (ha : a < 18446744073709551616) (hb : b < 18446744073709551616) (h : op = 124 ∨ op = 125 ∨ op = 126 ∨ op = 131 ∨ op = 132 ∨ op = 133 ∨ op = 134 ∨ op = 135 ∨ op = 136 ∨ op = 137 ∨ op = 138) (r : Int) (h1 : (ap op a b).1 = r) : (r, (0 : Int)) = ap op a b := by
  rw [← h1, ← ap64_2 op a b ha hb h]

theorem msk64 : numm_mask.F 64 = 18446744073709551615 := by decide +kernel
theorem n64 : IntKind.wrap .u64 64 = 64 := by decide +kernel
theorem mskMod64 (z : Nat) : ((z % 18446744073709551616 % 18446744073709551616 : Nat) : Int) = ((z % 18446744073709551616 : Nat) : Int) := by
  rw [Nat.mod_mod_of_dvd _ (by decide)]

theorem intBin64 (op : Int) (h0 : 124 ≤ op) (h1 : op ≤ 138) (a b : Nat) (ha : a < 18446744073709551616) (hb : b < 18446744073709551616) : numm_intBin.F (op - 124) 64 a b = ap op a b := by
  have hsw : Ieee.double.signWeight = 9223372036854775808 := by decide
  obtain ⟨k, rfl⟩ : ∃ k, op = 124 + k := ⟨op - 124, by omega⟩
  have ek : (124 : Int) + k - 124 = k := by omega
  rw [ek]
  have hop : k = 0 ∨ k = 1 ∨ k = 2 ∨ k = 3 ∨ k = 4 ∨ k = 5 ∨ k = 6 ∨ k = 7 ∨ k = 8 ∨ k = 9 ∨ k = 10 ∨ k = 11 ∨ k = 12 ∨ k = 13 ∨ k = 14 := by omega
  have hcm : Int.tmod (b : Int) 64 = ((b % 64 : Nat) : Int) := tmod_n b 64
  have hc : b % 64 < 64 := Nat.mod_lt _ (by decide)
  have ha64 : a < 18446744073709551616 := by omega
  have hb64 : b < 18446744073709551616 := by omega
  have hM : (18446744073709551616 : Nat) = 2 ^ 64 := by decide
  clear ek h0 h1
  rcases hop with rfl | rfl | rfl | rfl | rfl | rfl | rfl | rfl | rfl | rfl | rfl | rfl | rfl | rfl | rfl
  · show _ = ap 124 a b
    rw [ib0, msk64]
    refine pairOk64 124 a b ha hb (by decide) _ ?_
    rw [wadd64 a b ha hb, wrap_u64_mod, andm64 _ (by omega) (by omega)]; omega
  · show _ = ap 125 a b
    rw [ib1, msk64]
    refine pairOk64 125 a b ha hb (by decide) _ ?_
    have hmn := fm64.minusF b (by rw [hsw]; exact hb)
    rw [hsw] at hmn
    rw [hmn]
    have e : (ap 125 a b).1 = IntKind.wrap .u64 ((a : Int) - (b : Int)) := by rw [ap64 125 a b (by decide) (by decide)]; rfl
    rw [e, wrap_u64_mod, wrap_u64_mod, andm64 _ (by omega) (by omega)]; omega
  · show _ = ap 126 a b
    rw [ib2, msk64]
    refine pairOk64 126 a b ha hb (by decide) _ ?_
    rw [wmul64 a b ha hb, ← Int.natCast_mul, wrap_u64_mod]
    have e : ((a * b : Nat) : Int) % 18446744073709551616 = ((a * b % 18446744073709551616 : Nat) : Int) := by omega
    rw [e, andm64 _ (by omega) (by omega), ← mskMod64]; omega
  · show _ = ap 127 a b
    rw [ib3, fm64.divS_F true a b (by rw [hsw]; exact ha) (by rw [hsw]; exact hb), hsw]
    by_cases hz : b = 0
    · subst hz
      rw [if_pos rfl]
      exact ((divz64 a ha).1).symm
    · obtain ⟨d1, d2, d3⟩ := divs64 a b ha hb hz
      rw [if_neg hz]
      simp only [if_true]
      by_cases ho : a = 9223372036854775808 ∧ b = 2 * 9223372036854775808 - 1
      · rw [if_pos ho, d3 ⟨ho.1, by omega⟩]
      · rw [if_neg ho, d2 (by omega)]; rfl
  · show _ = ap 128 a b
    rw [ib4]
    by_cases hz : b = 0
    · subst hz
      exact ((divz64 a ha).2.1).symm
    · have hbn : ((b : Int) == 0) = false := by rw [beq_eq_false_iff_ne]; omega
      rw [hbn, cond_false, (divu64 a b ha hb hz).1, ← Int.ofNat_tdiv, wrap64_n _ (Nat.lt_of_le_of_lt (Nat.div_le_self _ _) ha64)]
  · show _ = ap 129 a b
    rw [ib5, fm64.divS_F false a b (by rw [hsw]; exact ha) (by rw [hsw]; exact hb), hsw]
    by_cases hz : b = 0
    · subst hz
      rw [if_pos rfl]
      exact ((divz64 a ha).2.2.1).symm
    · obtain ⟨d1, d2, d3⟩ := divs64 a b ha hb hz
      rw [if_neg hz, d1]; rfl
  · show _ = ap 130 a b
    rw [ib6]
    by_cases hz : b = 0
    · subst hz
      exact ((divz64 a ha).2.2.2).symm
    · have hbn : ((b : Int) == 0) = false := by rw [beq_eq_false_iff_ne]; omega
      rw [hbn, cond_false, (divu64 a b ha hb hz).2, ← Int.ofNat_tmod]
  · show _ = ap 131 a b
    rw [ib7]
    refine pairOk64 131 a b ha hb (by decide) _ ?_
    rw [wand64 a b ha hb, bAnd64_n a b ha64 hb64]
  · show _ = ap 132 a b
    rw [ib8]
    refine pairOk64 132 a b ha hb (by decide) _ ?_
    rw [wor64 a b ha hb, bOr64_n a b ha64 hb64]
  · show _ = ap 133 a b
    rw [ib9]
    refine pairOk64 133 a b ha hb (by decide) _ ?_
    rw [wxor64 a b ha hb, bXor64_n a b ha64 hb64]
  · show _ = ap 134 a b
    rw [ib10, msk64, n64, hcm, Int.toNat_natCast, shl64_n a _ (by omega)]
    refine pairOk64 134 a b ha hb (by decide) _ ?_
    rw [wshl64 a b ha hb, ← mskMod64, andm64 _ (by omega) (by omega)]; omega
  · show _ = ap 135 a b
    rw [ib11, msk64, n64, hcm, Int.toNat_natCast, shr64_n a _ (by omega)]
    have hmk : Int.fdiv 18446744073709551615 (2 ^ (min (b % 64) (IntKind.bits .u64))) = ((18446744073709551615 / 2 ^ (b % 64) : Nat) : Int) := shr64_n 18446744073709551615 _ (by omega)
    rw [hmk]
    have h := pairOk64 135 a b ha hb (by decide) (if 9223372036854775808 ≤ a then ((18446744073709551616 - 2 ^ (64 - b % 64) + a / 2 ^ (b % 64) : Nat) : Int) else ((a / 2 ^ (b % 64) : Nat) : Int)) (by rw [wshs64 a b ha hb]; split <;> rfl)
    · rw [← h]
      have ht : numm_top.F 64 = 9223372036854775808 := by decide +kernel
      rw [ht]
      by_cases hs : 9223372036854775808 ≤ a
      · rw [decide_eq_true (show (a : Int) ≥ 9223372036854775808 by omega), cond_true, if_pos hs]
        have hsplit : 2 ^ (64 - b % 64) * 2 ^ (b % 64) = 18446744073709551616 := by
          rw [← Nat.pow_add, hM]; congr 1; omega
        have hpc := Nat.two_pow_pos (b % 64)
        have hpk := Nat.two_pow_pos (64 - b % 64)
        have hkd : 18446744073709551615 / 2 ^ (b % 64) = 2 ^ (64 - b % 64) - 1 := by
          have hlo : (2 ^ (64 - b % 64) - 1) * 2 ^ (b % 64) ≤ 18446744073709551615 := by
            rw [Nat.sub_mul, hsplit, Nat.one_mul]; omega
          have hhi : 18446744073709551615 < (2 ^ (64 - b % 64) - 1 + 1) * 2 ^ (b % 64) := by
            rw [Nat.sub_add_cancel hpk, hsplit]; decide
          exact Nat.div_eq_of_lt_le hlo hhi
        have hle : 2 ^ (64 - b % 64) ≤ 18446744073709551616 := by
          rw [hM]; exact Nat.pow_le_pow_right (by decide) (by omega)
        have hqa : a / 2 ^ (b % 64) < 2 ^ (64 - b % 64) := by
          rw [Nat.div_lt_iff_lt_mul hpc, hsplit]; exact ha
        rw [hkd]
        have hfill := fill_or (a / 2 ^ (b % 64)) (64 - b % 64) 64 18446744073709551616 hM (by omega) hqa
        generalize a / 2 ^ (b % 64) = q at *
        generalize 2 ^ (64 - b % 64) = X at *
        have e1 : IntKind.wrap .u64 ((18446744073709551615 : Int) - ((X - 1 : Nat) : Int)) = ((18446744073709551616 - X : Nat) : Int) := by rw [wrap_u64 (by omega) (by omega)]; omega
        rw [e1, bOr64_n _ _ (by omega) (by omega), hfill]
      · rw [decide_eq_false (show ¬ (a : Int) ≥ 9223372036854775808 by omega), cond_false, if_neg hs]
  · show _ = ap 136 a b
    rw [ib12, n64, hcm, Int.toNat_natCast, shr64_n a _ (by omega)]
    refine pairOk64 136 a b ha hb (by decide) _ ?_
    rw [wshu64 a b ha hb]
  · show _ = ap 137 a b
    rw [ib13, msk64, n64, hcm, Int.toNat_natCast, shl64_n a _ (by omega)]
    refine pairOk64 137 a b ha hb (by decide) _ ?_
    rw [wrol64 a b ha hb]
    have e1 : IntKind.wrap .u64 ((64 : Int) - ((b % 64 : Nat) : Int)) = ((64 - b % 64 : Nat) : Int) := by rw [wrap_u64 (by omega) (by omega)]; omega
    rw [e1, Int.toNat_natCast]
    have e2 : Int.fdiv (a : Int) (2 ^ (min (64 - b % 64) (IntKind.bits .u64))) = ((if b % 64 = 0 then 0 else a / 2 ^ ((64 - b % 64) % 64) : Nat) : Int) := by
      by_cases hz : b % 64 = 0
      · rw [hz, if_pos rfl]
        have hm : min (64 - 0) (IntKind.bits .u64) = 64 := by decide
        rw [hm, fdiv_n, Nat.div_eq_of_lt (by rw [← hM]; exact ha)]
      · rw [if_neg hz, shr64_n a _ (by omega), Nat.mod_eq_of_lt (show 64 - b % 64 < 64 by omega)]
    rw [e2]
    unfold rotl
    have hdl : ∀ j, a / 2 ^ j ≤ a := fun j => Nat.div_le_self _ _
    by_cases hz : b % 64 = 0
    · rw [hz, if_pos rfl]
      have hm : (64 - 0) % 64 = 0 := by decide
      rw [hm, Nat.pow_zero, Nat.mul_one, Nat.div_one, Nat.mod_eq_of_lt ha, Nat.or_self]
      have e9 := bOr64_n a 0 ha64 (by decide)
      rw [Nat.or_zero] at e9
      rw [e9, andm64 _ (by omega) (by omega)]; omega
    · rw [if_neg hz]
      have hd := hdl ((64 - b % 64) % 64)
      rw [bOr64_n _ _ (Nat.mod_lt _ (by decide)) (by omega)]
      have ho : (a * 2 ^ (b % 64) % 18446744073709551616 ||| a / 2 ^ ((64 - b % 64) % 64)) < 18446744073709551616 := Nat.or_lt_two_pow (n := 64) (Nat.mod_lt _ (by decide)) (by show _ < 18446744073709551616; omega)
      rw [andm64 _ (by omega) (by omega)]
      have e3 : (a * 2 ^ (b % 64) % 18446744073709551616 ||| a / 2 ^ ((64 - b % 64) % 64)) % 18446744073709551616 = a * 2 ^ (b % 64) % 18446744073709551616 ||| a / 2 ^ ((64 - b % 64) % 64) := by
        have h2 := Nat.or_mod_two_pow (a := a * 2 ^ (b % 64) % 18446744073709551616) (b := a / 2 ^ ((64 - b % 64) % 64)) (n := 64)
        rw [← hM] at h2
        rw [h2, Nat.mod_mod_of_dvd _ (by decide), Nat.mod_eq_of_lt (show a / 2 ^ ((64 - b % 64) % 64) < 18446744073709551616 by omega)]
      rw [← e3]; omega
  · show _ = ap 138 a b
    rw [ib14, msk64, n64, hcm, Int.toNat_natCast, shr64_n a _ (by omega)]
    refine pairOk64 138 a b ha hb (by decide) _ ?_
    have er : (ap 138 a b).1 = ((rotr 64 18446744073709551616 (b % 64) a : Nat) : Int) := by rw [ap64 138 a b (by decide) (by decide), rotr64_F a b ha hb]
    rw [er]
    have e1 : IntKind.wrap .u64 ((64 : Int) - ((b % 64 : Nat) : Int)) = ((64 - b % 64 : Nat) : Int) := by rw [wrap_u64 (by omega) (by omega)]; omega
    rw [e1, Int.toNat_natCast]
    unfold rotr
    have hd : a / 2 ^ (b % 64) ≤ a := Nat.div_le_self _ _
    by_cases hz : b % 64 = 0
    · rw [hz]
      have hm : (64 - 0) % 64 = 0 := by decide
      have e2 : IntKind.wrap .u64 ((a : Int) * 2 ^ (min (64 - 0) (IntKind.bits .u64))) = ((a * 18446744073709551616 % 18446744073709551616 : Nat) : Int) := by
        have hm2 : min (64 - 0) (IntKind.bits .u64) = 64 := by decide
        rw [hm2, wrap_u64_mod]
        have c : (2 : Int) ^ 64 = 18446744073709551616 := by decide
        rw [c]; omega
      rw [e2, hm, Nat.pow_zero, Nat.mul_one, Nat.div_one, Nat.mod_eq_of_lt ha, Nat.or_self, bOr64_n a _ ha64 (Nat.mod_lt _ (by decide))]
      have ho : (a ||| a * 18446744073709551616 % 18446744073709551616) < 18446744073709551616 := Nat.or_lt_two_pow (n := 64) ha64 (Nat.mod_lt _ (by decide))
      rw [andm64 _ (by omega) (by omega)]
      have e3 : (a ||| a * 18446744073709551616 % 18446744073709551616) % 18446744073709551616 = a := by
        have h2 := Nat.or_mod_two_pow (a := a) (b := a * 18446744073709551616 % 18446744073709551616) (n := 64)
        rw [← hM] at h2
        rw [h2, Nat.mod_mod_of_dvd _ (by decide), Nat.mul_mod_left, Nat.or_zero, Nat.mod_eq_of_lt ha]
      omega
    · rw [shl64_n a _ (by omega), Nat.mod_eq_of_lt (show 64 - b % 64 < 64 by omega), bOr64_n _ _ (by omega) (Nat.mod_lt _ (by decide))]
      have ho : (a / 2 ^ (b % 64) ||| a * 2 ^ (64 - b % 64) % 18446744073709551616) < 18446744073709551616 := Nat.or_lt_two_pow (n := 64) (by show _ < 18446744073709551616; omega) (Nat.mod_lt _ (by decide))
      rw [andm64 _ (by omega) (by omega)]
      have e3 : (a / 2 ^ (b % 64) ||| a * 2 ^ (64 - b % 64) % 18446744073709551616) % 18446744073709551616 = a / 2 ^ (b % 64) ||| a * 2 ^ (64 - b % 64) % 18446744073709551616 := by
        have h2 := Nat.or_mod_two_pow (a := a / 2 ^ (b % 64)) (b := a * 2 ^ (64 - b % 64) % 18446744073709551616) (n := 64)
        rw [← hM] at h2
        rw [h2, Nat.mod_mod_of_dvd _ (by decide), Nat.mod_eq_of_lt (show a / 2 ^ (b % 64) < 18446744073709551616 by omega)]
      rw [← e3]; omega

end Go.Proofs.Qxb6500320a
