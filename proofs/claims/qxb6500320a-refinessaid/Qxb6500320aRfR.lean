/-
  The model's cuts are the program's.
-/
import Derived.Test.Qxb6500320aRfQ
set_option linter.unusedSimpArgs false
set_option linter.unusedVariables false
set_option linter.unusedSectionVars false
set_option maxRecDepth 100000
namespace Go.Proofs.Qxb6500320a
open Go Go.Vc

theorem fit_inS (S M : Nat) (s : Bool) (c : Int) (hc : c = if s then -(M : Int) else (M : Int)) (h0 : -(S : Int) ≤ c) (h1 : c < S) : fitV S true s M = (c % (2 * (S : Int)), 0) := by
  unfold fitV
  rw [if_pos rfl]
  cases s
  · rw [if_neg (by decide)] at hc ⊢
    rw [if_neg (by omega), hc, Int.emod_eq_of_lt (by omega) (by omega)]
  · rw [if_pos rfl] at hc ⊢
    rw [if_neg (by omega), hc, emod_neg S M (by omega)]
theorem fit_inU (S M : Nat) (s : Bool) (c : Int) (hc : c = if s then -(M : Int) else (M : Int)) (h0 : 0 ≤ c) (h1 : c < 2 * (S : Int)) : fitV S false s M = (c % (2 * (S : Int)), 0) := by
  unfold fitV
  rw [if_neg (by decide)]
  cases s
  · rw [if_neg (by decide)] at hc ⊢
    rw [if_neg (by omega), hc, Int.emod_eq_of_lt (by omega) (by omega)]
  · rw [if_pos rfl] at hc ⊢
    have : M = 0 := by omega
    subst this
    rw [if_neg (by decide), hc]; simp
theorem inf32R : Ieee.single.infRung = 2139095040 := by decide +kernel
theorem inf64R : Ieee.double.infRung = 9218868437227405312 := by decide +kernel
theorem ti168 (a : Nat) (ha : a < 4294967296) : numm_toInt.F 32 32 true a = ap 168 a 0 := by
  rw [ap168_tr a ha, (toInt_F fm32 fm32 true a ha).1, inf32R, rung32, sw32]
  by_cases h1 : 2139095040 < a % 2147483648
  · rw [if_pos h1, tr1_nan a h1]
  · rw [if_neg h1]
    by_cases hin : in1 a
    · obtain ⟨c1, c2, c3⟩ := tr1_cut a ha hin
      have hne : a % 2147483648 < 2139095040 := by unfold in1 at hin; omega
      have hne2 : rung Ieee.single a < Ieee.single.infRung := by rw [rung32, inf32R]; exact hne
      rw [if_neg (by omega), c3]
      have hW := fm32.cutV_W a hne2
      rw [rung32] at hW
      generalize cutW Ieee.single (a % 2147483648) = M at hW ⊢
      generalize cutV Ieee.single a = c at c1 c2 hW ⊢
      exact fit_inS 2147483648 M _ c hW (show -(((2147483648 : Nat)) : Int) ≤ _ from c1) c2
    · rw [tr1_out a ha (by omega) hin]
      by_cases h2 : a % 2147483648 = 2139095040
      · rw [if_pos h2]
      · rw [if_neg h2, sgb32 a ha]
        by_cases hs : 2147483648 ≤ a
        · have hr : 1325400065 ≤ a % 2147483648 := by unfold in1 at hin; omega
          have hm := cutW_mono Ieee.single hr
          have hT : 2147483648 < cutW Ieee.single 1325400065 := by decide +kernel
          rw [decide_eq_true hs]
          generalize cutW Ieee.single (a % 2147483648) = M at hm ⊢
          generalize cutW Ieee.single 1325400065 = K at hm hT
          unfold fitV
          rw [if_pos rfl, if_pos rfl, if_pos (by omega)]
        · have hr : 1325400064 ≤ a % 2147483648 := by unfold in1 at hin; omega
          have hm := cutW_mono Ieee.single hr
          have hT : 2147483648 ≤ cutW Ieee.single 1325400064 := by decide +kernel
          rw [decide_eq_false hs]
          generalize cutW Ieee.single (a % 2147483648) = M at hm ⊢
          generalize cutW Ieee.single 1325400064 = K at hm hT
          unfold fitV
          rw [if_pos rfl, if_neg (by decide), if_pos (by omega)]
theorem tI168 (a : Nat) (ha : a < 4294967296) (w : World) : Runs Try.prog numm_toInt.id #[.int .i64 32, .int .i64 32, .bool true, .int .u64 a] w fun v w' => v = .tuple #[.int .u64 (ap 168 a 0).1, .int .i64 (ap 168 a 0).2] ∧ w' = w := by
  rw [← ti168 a ha]
  exact numm_toInt.pure _ _ _ _ w (toInt_F fm32 fm32 true a ha).2

theorem ti169 (a : Nat) (ha : a < 4294967296) : numm_toInt.F 32 32 false a = ap 169 a 0 := by
  rw [ap169_tr a ha, (toInt_F fm32 fm32 false a ha).1, inf32R, rung32, sw32]
  by_cases h1 : 2139095040 < a % 2147483648
  · rw [if_pos h1, tr2_nan a h1]
  · rw [if_neg h1]
    by_cases hin : in2 a
    · obtain ⟨c1, c2, c3⟩ := tr2_cut a ha hin
      have hne : a % 2147483648 < 2139095040 := by unfold in2 at hin; omega
      have hne2 : rung Ieee.single a < Ieee.single.infRung := by rw [rung32, inf32R]; exact hne
      rw [if_neg (by omega), c3]
      have hW := fm32.cutV_W a hne2
      rw [rung32] at hW
      generalize cutW Ieee.single (a % 2147483648) = M at hW ⊢
      generalize cutV Ieee.single a = c at c1 c2 hW ⊢
      exact fit_inU 2147483648 M _ c hW c1 c2
    · rw [tr2_out a ha (by omega) hin]
      by_cases h2 : a % 2147483648 = 2139095040
      · rw [if_pos h2]
      · rw [if_neg h2, sgb32 a ha]
        by_cases hs : 2147483648 ≤ a
        · have hr : 1065353216 ≤ a % 2147483648 := by unfold in2 at hin; omega
          have hm := cutW_mono Ieee.single hr
          have hT : 0 < cutW Ieee.single 1065353216 := by decide +kernel
          rw [decide_eq_true hs]
          generalize cutW Ieee.single (a % 2147483648) = M at hm ⊢
          generalize cutW Ieee.single 1065353216 = K at hm hT
          unfold fitV
          rw [if_neg (by decide), if_pos rfl, if_pos (by omega)]
        · have hr : 1333788672 ≤ a % 2147483648 := by unfold in2 at hin; omega
          have hm := cutW_mono Ieee.single hr
          have hT : 2 * 2147483648 ≤ cutW Ieee.single 1333788672 := by decide +kernel
          rw [decide_eq_false hs]
          generalize cutW Ieee.single (a % 2147483648) = M at hm ⊢
          generalize cutW Ieee.single 1333788672 = K at hm hT
          unfold fitV
          rw [if_neg (by decide), if_neg (by decide), if_pos (by omega)]
theorem tI169 (a : Nat) (ha : a < 4294967296) (w : World) : Runs Try.prog numm_toInt.id #[.int .i64 32, .int .i64 32, .bool false, .int .u64 a] w fun v w' => v = .tuple #[.int .u64 (ap 169 a 0).1, .int .i64 (ap 169 a 0).2] ∧ w' = w := by
  rw [← ti169 a ha]
  exact numm_toInt.pure _ _ _ _ w (toInt_F fm32 fm32 false a ha).2

theorem ti170 (a : Nat) (ha : a < 18446744073709551616) : numm_toInt.F 64 32 true a = ap 170 a 0 := by
  rw [ap170_tr a ha, (toInt_F fm64 fm32 true a ha).1, inf64R, rung64, sw32]
  by_cases h1 : 9218868437227405312 < a % 9223372036854775808
  · rw [if_pos h1, tr3_nan a h1]
  · rw [if_neg h1]
    by_cases hin : in3 a
    · obtain ⟨c1, c2, c3⟩ := tr3_cut a ha hin
      have hne : a % 9223372036854775808 < 9218868437227405312 := by unfold in3 at hin; omega
      have hne2 : rung Ieee.double a < Ieee.double.infRung := by rw [rung64, inf64R]; exact hne
      rw [if_neg (by omega), c3]
      have hW := fm64.cutV_W a hne2
      rw [rung64] at hW
      generalize cutW Ieee.double (a % 9223372036854775808) = M at hW ⊢
      generalize cutV Ieee.double a = c at c1 c2 hW ⊢
      exact fit_inS 2147483648 M _ c hW (show -(((2147483648 : Nat)) : Int) ≤ _ from c1) c2
    · rw [tr3_out a ha (by omega) hin]
      by_cases h2 : a % 9223372036854775808 = 9218868437227405312
      · rw [if_pos h2]
      · rw [if_neg h2, sgb64 a ha]
        by_cases hs : 9223372036854775808 ≤ a
        · have hr : 4746794007250599936 ≤ a % 9223372036854775808 := by unfold in3 at hin; omega
          have hm := cutW_mono Ieee.double hr
          have hT : 2147483648 < cutW Ieee.double 4746794007250599936 := by decide +kernel
          rw [decide_eq_true hs]
          generalize cutW Ieee.double (a % 9223372036854775808) = M at hm ⊢
          generalize cutW Ieee.double 4746794007250599936 = K at hm hT
          unfold fitV
          rw [if_pos rfl, if_pos rfl, if_pos (by omega)]
        · have hr : 4746794007248502784 ≤ a % 9223372036854775808 := by unfold in3 at hin; omega
          have hm := cutW_mono Ieee.double hr
          have hT : 2147483648 ≤ cutW Ieee.double 4746794007248502784 := by decide +kernel
          rw [decide_eq_false hs]
          generalize cutW Ieee.double (a % 9223372036854775808) = M at hm ⊢
          generalize cutW Ieee.double 4746794007248502784 = K at hm hT
          unfold fitV
          rw [if_pos rfl, if_neg (by decide), if_pos (by omega)]
theorem tI170 (a : Nat) (ha : a < 18446744073709551616) (w : World) : Runs Try.prog numm_toInt.id #[.int .i64 64, .int .i64 32, .bool true, .int .u64 a] w fun v w' => v = .tuple #[.int .u64 (ap 170 a 0).1, .int .i64 (ap 170 a 0).2] ∧ w' = w := by
  rw [← ti170 a ha]
  exact numm_toInt.pure _ _ _ _ w (toInt_F fm64 fm32 true a ha).2

theorem ti171 (a : Nat) (ha : a < 18446744073709551616) : numm_toInt.F 64 32 false a = ap 171 a 0 := by
  rw [ap171_tr a ha, (toInt_F fm64 fm32 false a ha).1, inf64R, rung64, sw32]
  by_cases h1 : 9218868437227405312 < a % 9223372036854775808
  · rw [if_pos h1, tr4_nan a h1]
  · rw [if_neg h1]
    by_cases hin : in4 a
    · obtain ⟨c1, c2, c3⟩ := tr4_cut a ha hin
      have hne : a % 9223372036854775808 < 9218868437227405312 := by unfold in4 at hin; omega
      have hne2 : rung Ieee.double a < Ieee.double.infRung := by rw [rung64, inf64R]; exact hne
      rw [if_neg (by omega), c3]
      have hW := fm64.cutV_W a hne2
      rw [rung64] at hW
      generalize cutW Ieee.double (a % 9223372036854775808) = M at hW ⊢
      generalize cutV Ieee.double a = c at c1 c2 hW ⊢
      exact fit_inU 2147483648 M _ c hW c1 c2
    · rw [tr4_out a ha (by omega) hin]
      by_cases h2 : a % 9223372036854775808 = 9218868437227405312
      · rw [if_pos h2]
      · rw [if_neg h2, sgb64 a ha]
        by_cases hs : 9223372036854775808 ≤ a
        · have hr : 4607182418800017408 ≤ a % 9223372036854775808 := by unfold in4 at hin; omega
          have hm := cutW_mono Ieee.double hr
          have hT : 0 < cutW Ieee.double 4607182418800017408 := by decide +kernel
          rw [decide_eq_true hs]
          generalize cutW Ieee.double (a % 9223372036854775808) = M at hm ⊢
          generalize cutW Ieee.double 4607182418800017408 = K at hm hT
          unfold fitV
          rw [if_neg (by decide), if_pos rfl, if_pos (by omega)]
        · have hr : 4751297606875873280 ≤ a % 9223372036854775808 := by unfold in4 at hin; omega
          have hm := cutW_mono Ieee.double hr
          have hT : 2 * 2147483648 ≤ cutW Ieee.double 4751297606875873280 := by decide +kernel
          rw [decide_eq_false hs]
          generalize cutW Ieee.double (a % 9223372036854775808) = M at hm ⊢
          generalize cutW Ieee.double 4751297606875873280 = K at hm hT
          unfold fitV
          rw [if_neg (by decide), if_neg (by decide), if_pos (by omega)]
theorem tI171 (a : Nat) (ha : a < 18446744073709551616) (w : World) : Runs Try.prog numm_toInt.id #[.int .i64 64, .int .i64 32, .bool false, .int .u64 a] w fun v w' => v = .tuple #[.int .u64 (ap 171 a 0).1, .int .i64 (ap 171 a 0).2] ∧ w' = w := by
  rw [← ti171 a ha]
  exact numm_toInt.pure _ _ _ _ w (toInt_F fm64 fm32 false a ha).2

theorem ti174 (a : Nat) (ha : a < 4294967296) : numm_toInt.F 32 64 true a = ap 174 a 0 := by
  rw [ap174_tr a ha, (toInt_F fm32 fm64 true a ha).1, inf32R, rung32, sw64]
  by_cases h1 : 2139095040 < a % 2147483648
  · rw [if_pos h1, tr5_nan a h1]
  · rw [if_neg h1]
    by_cases hin : in5 a
    · obtain ⟨c1, c2, c3⟩ := tr5_cut a ha hin
      have hne : a % 2147483648 < 2139095040 := by unfold in5 at hin; omega
      have hne2 : rung Ieee.single a < Ieee.single.infRung := by rw [rung32, inf32R]; exact hne
      rw [if_neg (by omega), c3]
      have hW := fm32.cutV_W a hne2
      rw [rung32] at hW
      generalize cutW Ieee.single (a % 2147483648) = M at hW ⊢
      generalize cutV Ieee.single a = c at c1 c2 hW ⊢
      exact fit_inS 9223372036854775808 M _ c hW (show -(((9223372036854775808 : Nat)) : Int) ≤ _ from c1) c2
    · rw [tr5_out a ha (by omega) hin]
      by_cases h2 : a % 2147483648 = 2139095040
      · rw [if_pos h2]
      · rw [if_neg h2, sgb32 a ha]
        by_cases hs : 2147483648 ≤ a
        · have hr : 1593835521 ≤ a % 2147483648 := by unfold in5 at hin; omega
          have hm := cutW_mono Ieee.single hr
          have hT : 9223372036854775808 < cutW Ieee.single 1593835521 := by decide +kernel
          rw [decide_eq_true hs]
          generalize cutW Ieee.single (a % 2147483648) = M at hm ⊢
          generalize cutW Ieee.single 1593835521 = K at hm hT
          unfold fitV
          rw [if_pos rfl, if_pos rfl, if_pos (by omega)]
        · have hr : 1593835520 ≤ a % 2147483648 := by unfold in5 at hin; omega
          have hm := cutW_mono Ieee.single hr
          have hT : 9223372036854775808 ≤ cutW Ieee.single 1593835520 := by decide +kernel
          rw [decide_eq_false hs]
          generalize cutW Ieee.single (a % 2147483648) = M at hm ⊢
          generalize cutW Ieee.single 1593835520 = K at hm hT
          unfold fitV
          rw [if_pos rfl, if_neg (by decide), if_pos (by omega)]
theorem tI174 (a : Nat) (ha : a < 4294967296) (w : World) : Runs Try.prog numm_toInt.id #[.int .i64 32, .int .i64 64, .bool true, .int .u64 a] w fun v w' => v = .tuple #[.int .u64 (ap 174 a 0).1, .int .i64 (ap 174 a 0).2] ∧ w' = w := by
  rw [← ti174 a ha]
  exact numm_toInt.pure _ _ _ _ w (toInt_F fm32 fm64 true a ha).2

theorem ti175 (a : Nat) (ha : a < 4294967296) : numm_toInt.F 32 64 false a = ap 175 a 0 := by
  rw [ap175_tr a ha, (toInt_F fm32 fm64 false a ha).1, inf32R, rung32, sw64]
  by_cases h1 : 2139095040 < a % 2147483648
  · rw [if_pos h1, tr6_nan a h1]
  · rw [if_neg h1]
    by_cases hin : in6 a
    · obtain ⟨c1, c2, c3⟩ := tr6_cut a ha hin
      have hne : a % 2147483648 < 2139095040 := by unfold in6 at hin; omega
      have hne2 : rung Ieee.single a < Ieee.single.infRung := by rw [rung32, inf32R]; exact hne
      rw [if_neg (by omega), c3]
      have hW := fm32.cutV_W a hne2
      rw [rung32] at hW
      generalize cutW Ieee.single (a % 2147483648) = M at hW ⊢
      generalize cutV Ieee.single a = c at c1 c2 hW ⊢
      exact fit_inU 9223372036854775808 M _ c hW c1 c2
    · rw [tr6_out a ha (by omega) hin]
      by_cases h2 : a % 2147483648 = 2139095040
      · rw [if_pos h2]
      · rw [if_neg h2, sgb32 a ha]
        by_cases hs : 2147483648 ≤ a
        · have hr : 1065353216 ≤ a % 2147483648 := by unfold in6 at hin; omega
          have hm := cutW_mono Ieee.single hr
          have hT : 0 < cutW Ieee.single 1065353216 := by decide +kernel
          rw [decide_eq_true hs]
          generalize cutW Ieee.single (a % 2147483648) = M at hm ⊢
          generalize cutW Ieee.single 1065353216 = K at hm hT
          unfold fitV
          rw [if_neg (by decide), if_pos rfl, if_pos (by omega)]
        · have hr : 1602224128 ≤ a % 2147483648 := by unfold in6 at hin; omega
          have hm := cutW_mono Ieee.single hr
          have hT : 2 * 9223372036854775808 ≤ cutW Ieee.single 1602224128 := by decide +kernel
          rw [decide_eq_false hs]
          generalize cutW Ieee.single (a % 2147483648) = M at hm ⊢
          generalize cutW Ieee.single 1602224128 = K at hm hT
          unfold fitV
          rw [if_neg (by decide), if_neg (by decide), if_pos (by omega)]
theorem tI175 (a : Nat) (ha : a < 4294967296) (w : World) : Runs Try.prog numm_toInt.id #[.int .i64 32, .int .i64 64, .bool false, .int .u64 a] w fun v w' => v = .tuple #[.int .u64 (ap 175 a 0).1, .int .i64 (ap 175 a 0).2] ∧ w' = w := by
  rw [← ti175 a ha]
  exact numm_toInt.pure _ _ _ _ w (toInt_F fm32 fm64 false a ha).2

theorem ti176 (a : Nat) (ha : a < 18446744073709551616) : numm_toInt.F 64 64 true a = ap 176 a 0 := by
  rw [ap176_tr a ha, (toInt_F fm64 fm64 true a ha).1, inf64R, rung64, sw64]
  by_cases h1 : 9218868437227405312 < a % 9223372036854775808
  · rw [if_pos h1, tr7_nan a h1]
  · rw [if_neg h1]
    by_cases hin : in7 a
    · obtain ⟨c1, c2, c3⟩ := tr7_cut a ha hin
      have hne : a % 9223372036854775808 < 9218868437227405312 := by unfold in7 at hin; omega
      have hne2 : rung Ieee.double a < Ieee.double.infRung := by rw [rung64, inf64R]; exact hne
      rw [if_neg (by omega), c3]
      have hW := fm64.cutV_W a hne2
      rw [rung64] at hW
      generalize cutW Ieee.double (a % 9223372036854775808) = M at hW ⊢
      generalize cutV Ieee.double a = c at c1 c2 hW ⊢
      exact fit_inS 9223372036854775808 M _ c hW (show -(((9223372036854775808 : Nat)) : Int) ≤ _ from c1) c2
    · rw [tr7_out a ha (by omega) hin]
      by_cases h2 : a % 9223372036854775808 = 9218868437227405312
      · rw [if_pos h2]
      · rw [if_neg h2, sgb64 a ha]
        by_cases hs : 9223372036854775808 ≤ a
        · have hr : 4890909195324358657 ≤ a % 9223372036854775808 := by unfold in7 at hin; omega
          have hm := cutW_mono Ieee.double hr
          have hT : 9223372036854775808 < cutW Ieee.double 4890909195324358657 := by decide +kernel
          rw [decide_eq_true hs]
          generalize cutW Ieee.double (a % 9223372036854775808) = M at hm ⊢
          generalize cutW Ieee.double 4890909195324358657 = K at hm hT
          unfold fitV
          rw [if_pos rfl, if_pos rfl, if_pos (by omega)]
        · have hr : 4890909195324358656 ≤ a % 9223372036854775808 := by unfold in7 at hin; omega
          have hm := cutW_mono Ieee.double hr
          have hT : 9223372036854775808 ≤ cutW Ieee.double 4890909195324358656 := by decide +kernel
          rw [decide_eq_false hs]
          generalize cutW Ieee.double (a % 9223372036854775808) = M at hm ⊢
          generalize cutW Ieee.double 4890909195324358656 = K at hm hT
          unfold fitV
          rw [if_pos rfl, if_neg (by decide), if_pos (by omega)]
theorem tI176 (a : Nat) (ha : a < 18446744073709551616) (w : World) : Runs Try.prog numm_toInt.id #[.int .i64 64, .int .i64 64, .bool true, .int .u64 a] w fun v w' => v = .tuple #[.int .u64 (ap 176 a 0).1, .int .i64 (ap 176 a 0).2] ∧ w' = w := by
  rw [← ti176 a ha]
  exact numm_toInt.pure _ _ _ _ w (toInt_F fm64 fm64 true a ha).2

theorem ti177 (a : Nat) (ha : a < 18446744073709551616) : numm_toInt.F 64 64 false a = ap 177 a 0 := by
  rw [ap177_tr a ha, (toInt_F fm64 fm64 false a ha).1, inf64R, rung64, sw64]
  by_cases h1 : 9218868437227405312 < a % 9223372036854775808
  · rw [if_pos h1, tr8_nan a h1]
  · rw [if_neg h1]
    by_cases hin : in8 a
    · obtain ⟨c1, c2, c3⟩ := tr8_cut a ha hin
      have hne : a % 9223372036854775808 < 9218868437227405312 := by unfold in8 at hin; omega
      have hne2 : rung Ieee.double a < Ieee.double.infRung := by rw [rung64, inf64R]; exact hne
      rw [if_neg (by omega), c3]
      have hW := fm64.cutV_W a hne2
      rw [rung64] at hW
      generalize cutW Ieee.double (a % 9223372036854775808) = M at hW ⊢
      generalize cutV Ieee.double a = c at c1 c2 hW ⊢
      exact fit_inU 9223372036854775808 M _ c hW c1 c2
    · rw [tr8_out a ha (by omega) hin]
      by_cases h2 : a % 9223372036854775808 = 9218868437227405312
      · rw [if_pos h2]
      · rw [if_neg h2, sgb64 a ha]
        by_cases hs : 9223372036854775808 ≤ a
        · have hr : 4607182418800017408 ≤ a % 9223372036854775808 := by unfold in8 at hin; omega
          have hm := cutW_mono Ieee.double hr
          have hT : 0 < cutW Ieee.double 4607182418800017408 := by decide +kernel
          rw [decide_eq_true hs]
          generalize cutW Ieee.double (a % 9223372036854775808) = M at hm ⊢
          generalize cutW Ieee.double 4607182418800017408 = K at hm hT
          unfold fitV
          rw [if_neg (by decide), if_pos rfl, if_pos (by omega)]
        · have hr : 4895412794951729152 ≤ a % 9223372036854775808 := by unfold in8 at hin; omega
          have hm := cutW_mono Ieee.double hr
          have hT : 2 * 9223372036854775808 ≤ cutW Ieee.double 4895412794951729152 := by decide +kernel
          rw [decide_eq_false hs]
          generalize cutW Ieee.double (a % 9223372036854775808) = M at hm ⊢
          generalize cutW Ieee.double 4895412794951729152 = K at hm hT
          unfold fitV
          rw [if_neg (by decide), if_neg (by decide), if_pos (by omega)]
theorem tI177 (a : Nat) (ha : a < 18446744073709551616) (w : World) : Runs Try.prog numm_toInt.id #[.int .i64 64, .int .i64 64, .bool false, .int .u64 a] w fun v w' => v = .tuple #[.int .u64 (ap 177 a 0).1, .int .i64 (ap 177 a 0).2] ∧ w' = w := by
  rw [← ti177 a ha]
  exact numm_toInt.pure _ _ _ _ w (toInt_F fm64 fm64 false a ha).2

end Go.Proofs.Qxb6500320a
