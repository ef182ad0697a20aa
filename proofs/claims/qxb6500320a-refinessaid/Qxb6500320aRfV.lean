/-
  The model's conversions are the program's.
-/
import Derived.Test.Qxb6500320aRfU
set_option linter.unusedSimpArgs false
set_option linter.unusedVariables false
set_option linter.unusedSectionVars false
set_option maxRecDepth 100000
namespace Go.Proofs.Qxb6500320a
open Go Go.Vc

theorem near32_w (n : Int) : FloatKind.nearest .f32 n = Ieee.single.write (.number (decide (n < 0)) n.natAbs 0) := rfl
theorem near64_w (n : Int) : FloatKind.nearest .f64 n = Ieee.double.write (.number (decide (n < 0)) n.natAbs 0) := rfl
theorem W64_n (n : Nat) (h : n < 18446744073709551616) : W64 (n : Int) = (n : Int) := wrap64_n n h
theorem W3264_n (n : Nat) (h : n < 4294967296) : W3264 (n : Int) = (n : Int) := by
  unfold W3264; rw [wrap32_n n h, wrap64_n n (by omega)]
theorem sx32 (a : Nat) (ha : a < 4294967296) : IntKind.wrap .i32 (IntKind.wrap .u32 (a : Int)) = if 2147483648 ≤ a then (a : Int) - 4294967296 else (a : Int) := by
  rw [wrap32_n a ha, wrap_i32_sgn (a : Int) (by omega) (by omega)]
  unfold sgn
  by_cases h : 2147483648 ≤ a
  · rw [if_pos h, if_pos (by omega)]; omega
  · rw [if_neg h, if_neg (by omega)]
theorem sx64 (a : Nat) (ha : a < 18446744073709551616) : IntKind.wrap .i64 (a : Int) = if 9223372036854775808 ≤ a then (a : Int) - 18446744073709551616 else (a : Int) := by
  rw [wrap_i64_sgn (a : Int) (by omega) (by omega)]
  unfold sgn
  by_cases h : 9223372036854775808 ≤ a
  · rw [if_pos h, if_pos (by omega)]; omega
  · rw [if_neg h, if_neg (by omega)]

theorem cvt167 (a : Nat) (ha : a < 18446744073709551616) (w : World) : Runs Try.prog numm_convert.id #[.int .i64 167, .int .u64 a] w fun v w' => v = .tuple #[.int .u64 (ap 167 a 0).1, .int .i64 (ap 167 a 0).2] ∧ w' = w := by
  refine numm_convert.enter _ _ _ _ ?_
  unfold numm_convert.V
  refine cond_true' (by decide) ?_
  have e : ap 167 a 0 = (W3264 (a : Int), 0) := by rw [ap_conv 167 a 0 (by decide) (by decide)]; rfl
  rw [e]
  refine ⟨?_, rfl⟩
  have e1 : bAnd .u64 (a : Int) 4294967295 = ((a &&& 4294967295 : Nat) : Int) := bAnd64_n a 4294967295 ha (by decide)
  have e2 : a &&& 4294967295 = a % 4294967296 := Nat.and_two_pow_sub_one_eq_mod a 32
  have e3 : W3264 (a : Int) = ((a % 4294967296 : Nat) : Int) := by
    unfold W3264
    rw [wrap_u32_mod, wrap_u64_mod]; omega
  rw [e1, e2, e3]

theorem cvt168 (a : Nat) (ha : a < 4294967296) (w : World) : Runs Try.prog numm_convert.id #[.int .i64 168, .int .u64 a] w fun v w' => v = .tuple #[.int .u64 (ap 168 a 0).1, .int .i64 (ap 168 a 0).2] ∧ w' = w := by
  refine numm_convert.enter _ _ _ _ ?_
  unfold numm_convert.V
  refine cond_false' (by decide) ?_
  refine cond_true' (by decide) ?_
  exact Runs.pure_bind (tI168 a ha w) ⟨_, _, rfl, rfl, rfl⟩

theorem cvt169 (a : Nat) (ha : a < 4294967296) (w : World) : Runs Try.prog numm_convert.id #[.int .i64 169, .int .u64 a] w fun v w' => v = .tuple #[.int .u64 (ap 169 a 0).1, .int .i64 (ap 169 a 0).2] ∧ w' = w := by
  refine numm_convert.enter _ _ _ _ ?_
  unfold numm_convert.V
  refine cond_false' (by decide) ?_
  refine cond_false' (by decide) ?_
  refine cond_true' (by decide) ?_
  exact Runs.pure_bind (tI169 a ha w) ⟨_, _, rfl, rfl, rfl⟩

theorem cvt170 (a : Nat) (ha : a < 18446744073709551616) (w : World) : Runs Try.prog numm_convert.id #[.int .i64 170, .int .u64 a] w fun v w' => v = .tuple #[.int .u64 (ap 170 a 0).1, .int .i64 (ap 170 a 0).2] ∧ w' = w := by
  refine numm_convert.enter _ _ _ _ ?_
  unfold numm_convert.V
  refine cond_false' (by decide) ?_
  refine cond_false' (by decide) ?_
  refine cond_false' (by decide) ?_
  refine cond_true' (by decide) ?_
  exact Runs.pure_bind (tI170 a ha w) ⟨_, _, rfl, rfl, rfl⟩

theorem cvt171 (a : Nat) (ha : a < 18446744073709551616) (w : World) : Runs Try.prog numm_convert.id #[.int .i64 171, .int .u64 a] w fun v w' => v = .tuple #[.int .u64 (ap 171 a 0).1, .int .i64 (ap 171 a 0).2] ∧ w' = w := by
  refine numm_convert.enter _ _ _ _ ?_
  unfold numm_convert.V
  refine cond_false' (by decide) ?_
  refine cond_false' (by decide) ?_
  refine cond_false' (by decide) ?_
  refine cond_false' (by decide) ?_
  refine cond_true' (by decide) ?_
  exact Runs.pure_bind (tI171 a ha w) ⟨_, _, rfl, rfl, rfl⟩

theorem cvt172 (a : Nat) (ha : a < 4294967296) (w : World) : Runs Try.prog numm_convert.id #[.int .i64 172, .int .u64 a] w fun v w' => v = .tuple #[.int .u64 (ap 172 a 0).1, .int .i64 (ap 172 a 0).2] ∧ w' = w := by
  refine numm_convert.enter _ _ _ _ ?_
  unfold numm_convert.V
  refine cond_false' (by decide) ?_
  refine cond_false' (by decide) ?_
  refine cond_false' (by decide) ?_
  refine cond_false' (by decide) ?_
  refine cond_false' (by decide) ?_
  refine cond_true' (by decide) ?_
  have e : ap 172 a 0 = (IntKind.wrap .u64 (IntKind.wrap .i64 (IntKind.wrap .i32 (IntKind.wrap .u32 (a : Int)))), 0) := by rw [ap_conv 172 a 0 (by decide) (by decide)]; rfl
  rw [e, sx32 a ha]
  refine Runs.pure_bind (numm_top.pure _ w fm32.topP) ⟨_, rfl, ?_⟩
  have et : numm_top.F 32 = 2147483648 := by rw [fm32.topF, sw32]; rfl
  rw [et]
  by_cases h : 2147483648 ≤ a
  · refine cond_true' (decide_eq_true (by omega)) ⟨?_, rfl⟩
    have e2 : IntKind.wrap .u64 ((a : Int) + 18446744069414584320) = IntKind.wrap .u64 (IntKind.wrap .i64 ((a : Int) - 4294967296)) := by
      rw [wrap_i64 (by omega) (by omega), wrap_u64_mod, wrap_u64_mod]; omega
    rw [if_pos h, e2]
  · refine cond_false' (decide_eq_false (by omega)) ⟨?_, rfl⟩
    rw [if_neg h, wrap_i64 (by omega) (by omega), wrap64_n a (by omega)]

theorem cvt173 (a : Nat) (ha : a < 4294967296) (w : World) : Runs Try.prog numm_convert.id #[.int .i64 173, .int .u64 a] w fun v w' => v = .tuple #[.int .u64 (ap 173 a 0).1, .int .i64 (ap 173 a 0).2] ∧ w' = w := by
  refine numm_convert.enter _ _ _ _ ?_
  unfold numm_convert.V
  refine cond_false' (by decide) ?_
  refine cond_false' (by decide) ?_
  refine cond_false' (by decide) ?_
  refine cond_false' (by decide) ?_
  refine cond_false' (by decide) ?_
  refine cond_false' (by decide) ?_
  refine cond_true' (by decide) ?_
  have e : ap 173 a 0 = (W3264 (a : Int), 0) := by rw [ap_conv 173 a 0 (by decide) (by decide)]; rfl
  rw [e, W3264_n a ha]
  exact ⟨rfl, rfl⟩

theorem cvt174 (a : Nat) (ha : a < 4294967296) (w : World) : Runs Try.prog numm_convert.id #[.int .i64 174, .int .u64 a] w fun v w' => v = .tuple #[.int .u64 (ap 174 a 0).1, .int .i64 (ap 174 a 0).2] ∧ w' = w := by
  refine numm_convert.enter _ _ _ _ ?_
  unfold numm_convert.V
  refine cond_false' (by decide) ?_
  refine cond_false' (by decide) ?_
  refine cond_false' (by decide) ?_
  refine cond_false' (by decide) ?_
  refine cond_false' (by decide) ?_
  refine cond_false' (by decide) ?_
  refine cond_false' (by decide) ?_
  refine cond_true' (by decide) ?_
  exact Runs.pure_bind (tI174 a ha w) ⟨_, _, rfl, rfl, rfl⟩

theorem cvt175 (a : Nat) (ha : a < 4294967296) (w : World) : Runs Try.prog numm_convert.id #[.int .i64 175, .int .u64 a] w fun v w' => v = .tuple #[.int .u64 (ap 175 a 0).1, .int .i64 (ap 175 a 0).2] ∧ w' = w := by
  refine numm_convert.enter _ _ _ _ ?_
  unfold numm_convert.V
  refine cond_false' (by decide) ?_
  refine cond_false' (by decide) ?_
  refine cond_false' (by decide) ?_
  refine cond_false' (by decide) ?_
  refine cond_false' (by decide) ?_
  refine cond_false' (by decide) ?_
  refine cond_false' (by decide) ?_
  refine cond_false' (by decide) ?_
  refine cond_true' (by decide) ?_
  exact Runs.pure_bind (tI175 a ha w) ⟨_, _, rfl, rfl, rfl⟩

theorem cvt176 (a : Nat) (ha : a < 18446744073709551616) (w : World) : Runs Try.prog numm_convert.id #[.int .i64 176, .int .u64 a] w fun v w' => v = .tuple #[.int .u64 (ap 176 a 0).1, .int .i64 (ap 176 a 0).2] ∧ w' = w := by
  refine numm_convert.enter _ _ _ _ ?_
  unfold numm_convert.V
  refine cond_false' (by decide) ?_
  refine cond_false' (by decide) ?_
  refine cond_false' (by decide) ?_
  refine cond_false' (by decide) ?_
  refine cond_false' (by decide) ?_
  refine cond_false' (by decide) ?_
  refine cond_false' (by decide) ?_
  refine cond_false' (by decide) ?_
  refine cond_false' (by decide) ?_
  refine cond_true' (by decide) ?_
  exact Runs.pure_bind (tI176 a ha w) ⟨_, _, rfl, rfl, rfl⟩

theorem cvt177 (a : Nat) (ha : a < 18446744073709551616) (w : World) : Runs Try.prog numm_convert.id #[.int .i64 177, .int .u64 a] w fun v w' => v = .tuple #[.int .u64 (ap 177 a 0).1, .int .i64 (ap 177 a 0).2] ∧ w' = w := by
  refine numm_convert.enter _ _ _ _ ?_
  unfold numm_convert.V
  refine cond_false' (by decide) ?_
  refine cond_false' (by decide) ?_
  refine cond_false' (by decide) ?_
  refine cond_false' (by decide) ?_
  refine cond_false' (by decide) ?_
  refine cond_false' (by decide) ?_
  refine cond_false' (by decide) ?_
  refine cond_false' (by decide) ?_
  refine cond_false' (by decide) ?_
  refine cond_false' (by decide) ?_
  refine cond_true' (by decide) ?_
  exact Runs.pure_bind (tI177 a ha w) ⟨_, _, rfl, rfl, rfl⟩

theorem cvt178 (a : Nat) (ha : a < 4294967296) (w : World) : Runs Try.prog numm_convert.id #[.int .i64 178, .int .u64 a] w fun v w' => v = .tuple #[.int .u64 (ap 178 a 0).1, .int .i64 (ap 178 a 0).2] ∧ w' = w := by
  refine numm_convert.enter _ _ _ _ ?_
  unfold numm_convert.V
  refine cond_false' (by decide) ?_
  refine cond_false' (by decide) ?_
  refine cond_false' (by decide) ?_
  refine cond_false' (by decide) ?_
  refine cond_false' (by decide) ?_
  refine cond_false' (by decide) ?_
  refine cond_false' (by decide) ?_
  refine cond_false' (by decide) ?_
  refine cond_false' (by decide) ?_
  refine cond_false' (by decide) ?_
  refine cond_false' (by decide) ?_
  refine cond_true' (by decide) ?_
  have e : ap 178 a 0 = (W64 ((FloatKind.nearest .f32 (IntKind.wrap .i32 (IntKind.wrap .u32 (a : Int))) : Nat) : Int), 0) := by rw [ap_conv 178 a 0 (by decide) (by decide)]; rfl
  rw [e]
  rw [W64_n _ (Nat.lt_trans (near_lt32 _) (by decide))]
  have hX : IntKind.wrap .i32 (IntKind.wrap .u32 (a : Int)) = if true = true ∧ Ieee.single.signWeight ≤ a then (a : Int) - 2 * (Ieee.single.signWeight : Int) else (a : Int) := by
    rw [sx32 a ha, sw32]
    by_cases h : 2147483648 ≤ a
    · rw [if_pos h, if_pos ⟨rfl, h⟩]; omega
    · rw [if_neg h, if_neg (fun g => h g.2)]
  rw [near32_w]
  exact Runs.pure_bind (fm32.fromInt_spec fm32 true a ha _ hX w) ⟨_, rfl, rfl, rfl⟩

theorem cvt179 (a : Nat) (ha : a < 4294967296) (w : World) : Runs Try.prog numm_convert.id #[.int .i64 179, .int .u64 a] w fun v w' => v = .tuple #[.int .u64 (ap 179 a 0).1, .int .i64 (ap 179 a 0).2] ∧ w' = w := by
  refine numm_convert.enter _ _ _ _ ?_
  unfold numm_convert.V
  refine cond_false' (by decide) ?_
  refine cond_false' (by decide) ?_
  refine cond_false' (by decide) ?_
  refine cond_false' (by decide) ?_
  refine cond_false' (by decide) ?_
  refine cond_false' (by decide) ?_
  refine cond_false' (by decide) ?_
  refine cond_false' (by decide) ?_
  refine cond_false' (by decide) ?_
  refine cond_false' (by decide) ?_
  refine cond_false' (by decide) ?_
  refine cond_false' (by decide) ?_
  refine cond_true' (by decide) ?_
  have e : ap 179 a 0 = (W64 ((FloatKind.nearest .f32 (IntKind.wrap .u32 (a : Int)) : Nat) : Int), 0) := by rw [ap_conv 179 a 0 (by decide) (by decide)]; rfl
  rw [e]
  rw [W64_n _ (Nat.lt_trans (near_lt32 _) (by decide))]
  rw [wrap32_n a ha]
  have hX : (a : Int) = if false = true ∧ Ieee.single.signWeight ≤ a then (a : Int) - 2 * (Ieee.single.signWeight : Int) else (a : Int) := by
    rw [if_neg (fun g => absurd g.1 (by decide))]
  rw [near32_w]
  exact Runs.pure_bind (fm32.fromInt_spec fm32 false a ha _ hX w) ⟨_, rfl, rfl, rfl⟩

theorem cvt180 (a : Nat) (ha : a < 18446744073709551616) (w : World) : Runs Try.prog numm_convert.id #[.int .i64 180, .int .u64 a] w fun v w' => v = .tuple #[.int .u64 (ap 180 a 0).1, .int .i64 (ap 180 a 0).2] ∧ w' = w := by
  refine numm_convert.enter _ _ _ _ ?_
  unfold numm_convert.V
  refine cond_false' (by decide) ?_
  refine cond_false' (by decide) ?_
  refine cond_false' (by decide) ?_
  refine cond_false' (by decide) ?_
  refine cond_false' (by decide) ?_
  refine cond_false' (by decide) ?_
  refine cond_false' (by decide) ?_
  refine cond_false' (by decide) ?_
  refine cond_false' (by decide) ?_
  refine cond_false' (by decide) ?_
  refine cond_false' (by decide) ?_
  refine cond_false' (by decide) ?_
  refine cond_false' (by decide) ?_
  refine cond_true' (by decide) ?_
  have e : ap 180 a 0 = (W64 ((FloatKind.nearest .f32 (IntKind.wrap .i64 (a : Int)) : Nat) : Int), 0) := by rw [ap_conv 180 a 0 (by decide) (by decide)]; rfl
  rw [e]
  rw [W64_n _ (Nat.lt_trans (near_lt32 _) (by decide))]
  have hX : IntKind.wrap .i64 (a : Int) = if true = true ∧ Ieee.double.signWeight ≤ a then (a : Int) - 2 * (Ieee.double.signWeight : Int) else (a : Int) := by
    rw [sx64 a ha, sw64]
    by_cases h : 9223372036854775808 ≤ a
    · rw [if_pos h, if_pos ⟨rfl, h⟩]; omega
    · rw [if_neg h, if_neg (fun g => h g.2)]
  rw [near32_w]
  exact Runs.pure_bind (fm32.fromInt_spec fm64 true a ha _ hX w) ⟨_, rfl, rfl, rfl⟩

theorem cvt181 (a : Nat) (ha : a < 18446744073709551616) (w : World) : Runs Try.prog numm_convert.id #[.int .i64 181, .int .u64 a] w fun v w' => v = .tuple #[.int .u64 (ap 181 a 0).1, .int .i64 (ap 181 a 0).2] ∧ w' = w := by
  refine numm_convert.enter _ _ _ _ ?_
  unfold numm_convert.V
  refine cond_false' (by decide) ?_
  refine cond_false' (by decide) ?_
  refine cond_false' (by decide) ?_
  refine cond_false' (by decide) ?_
  refine cond_false' (by decide) ?_
  refine cond_false' (by decide) ?_
  refine cond_false' (by decide) ?_
  refine cond_false' (by decide) ?_
  refine cond_false' (by decide) ?_
  refine cond_false' (by decide) ?_
  refine cond_false' (by decide) ?_
  refine cond_false' (by decide) ?_
  refine cond_false' (by decide) ?_
  refine cond_false' (by decide) ?_
  refine cond_true' (by decide) ?_
  have e : ap 181 a 0 = (W64 ((FloatKind.nearest .f32 ((a : Int)) : Nat) : Int), 0) := by rw [ap_conv 181 a 0 (by decide) (by decide)]; rfl
  rw [e]
  rw [W64_n _ (Nat.lt_trans (near_lt32 _) (by decide))]
  have hX : (a : Int) = if false = true ∧ Ieee.double.signWeight ≤ a then (a : Int) - 2 * (Ieee.double.signWeight : Int) else (a : Int) := by
    rw [if_neg (fun g => absurd g.1 (by decide))]
  rw [near32_w]
  exact Runs.pure_bind (fm32.fromInt_spec fm64 false a ha _ hX w) ⟨_, rfl, rfl, rfl⟩

theorem cvt182 (a : Nat) (ha : a < 18446744073709551616) (w : World) : Runs Try.prog numm_convert.id #[.int .i64 182, .int .u64 a] w fun v w' => v = .tuple #[.int .u64 (ap 182 a 0).1, .int .i64 (ap 182 a 0).2] ∧ w' = w := by
  refine numm_convert.enter _ _ _ _ ?_
  unfold numm_convert.V
  refine cond_false' (by decide) ?_
  refine cond_false' (by decide) ?_
  refine cond_false' (by decide) ?_
  refine cond_false' (by decide) ?_
  refine cond_false' (by decide) ?_
  refine cond_false' (by decide) ?_
  refine cond_false' (by decide) ?_
  refine cond_false' (by decide) ?_
  refine cond_false' (by decide) ?_
  refine cond_false' (by decide) ?_
  refine cond_false' (by decide) ?_
  refine cond_false' (by decide) ?_
  refine cond_false' (by decide) ?_
  refine cond_false' (by decide) ?_
  refine cond_false' (by decide) ?_
  refine cond_true' (by decide) ?_
  have e : ap 182 a 0 = dem a := by rw [ap_conv 182 a 0 (by decide) (by decide)]; rfl
  rw [e, demote_eq a ha]
  exact Runs.pure_bind (fm64.reformat_spec fm32 a ha w) ⟨_, rfl, rfl, rfl⟩

theorem cvt183 (a : Nat) (ha : a < 4294967296) (w : World) : Runs Try.prog numm_convert.id #[.int .i64 183, .int .u64 a] w fun v w' => v = .tuple #[.int .u64 (ap 183 a 0).1, .int .i64 (ap 183 a 0).2] ∧ w' = w := by
  refine numm_convert.enter _ _ _ _ ?_
  unfold numm_convert.V
  refine cond_false' (by decide) ?_
  refine cond_false' (by decide) ?_
  refine cond_false' (by decide) ?_
  refine cond_false' (by decide) ?_
  refine cond_false' (by decide) ?_
  refine cond_false' (by decide) ?_
  refine cond_false' (by decide) ?_
  refine cond_false' (by decide) ?_
  refine cond_false' (by decide) ?_
  refine cond_false' (by decide) ?_
  refine cond_false' (by decide) ?_
  refine cond_false' (by decide) ?_
  refine cond_false' (by decide) ?_
  refine cond_false' (by decide) ?_
  refine cond_false' (by decide) ?_
  refine cond_false' (by decide) ?_
  refine cond_true' (by decide) ?_
  have e : ap 183 a 0 = (((FloatKind.nearest .f64 (IntKind.wrap .i32 (IntKind.wrap .u32 (a : Int))) : Nat) : Int), 0) := by rw [ap_conv 183 a 0 (by decide) (by decide)]; rfl
  rw [e]
  have hX : IntKind.wrap .i32 (IntKind.wrap .u32 (a : Int)) = if true = true ∧ Ieee.single.signWeight ≤ a then (a : Int) - 2 * (Ieee.single.signWeight : Int) else (a : Int) := by
    rw [sx32 a ha, sw32]
    by_cases h : 2147483648 ≤ a
    · rw [if_pos h, if_pos ⟨rfl, h⟩]; omega
    · rw [if_neg h, if_neg (fun g => h g.2)]
  rw [near64_w]
  exact Runs.pure_bind (fm64.fromInt_spec fm32 true a ha _ hX w) ⟨_, rfl, rfl, rfl⟩

theorem cvt184 (a : Nat) (ha : a < 4294967296) (w : World) : Runs Try.prog numm_convert.id #[.int .i64 184, .int .u64 a] w fun v w' => v = .tuple #[.int .u64 (ap 184 a 0).1, .int .i64 (ap 184 a 0).2] ∧ w' = w := by
  refine numm_convert.enter _ _ _ _ ?_
  unfold numm_convert.V
  refine cond_false' (by decide) ?_
  refine cond_false' (by decide) ?_
  refine cond_false' (by decide) ?_
  refine cond_false' (by decide) ?_
  refine cond_false' (by decide) ?_
  refine cond_false' (by decide) ?_
  refine cond_false' (by decide) ?_
  refine cond_false' (by decide) ?_
  refine cond_false' (by decide) ?_
  refine cond_false' (by decide) ?_
  refine cond_false' (by decide) ?_
  refine cond_false' (by decide) ?_
  refine cond_false' (by decide) ?_
  refine cond_false' (by decide) ?_
  refine cond_false' (by decide) ?_
  refine cond_false' (by decide) ?_
  refine cond_false' (by decide) ?_
  refine cond_true' (by decide) ?_
  have e : ap 184 a 0 = (((FloatKind.nearest .f64 (IntKind.wrap .u32 (a : Int)) : Nat) : Int), 0) := by rw [ap_conv 184 a 0 (by decide) (by decide)]; rfl
  rw [e]
  rw [wrap32_n a ha]
  have hX : (a : Int) = if false = true ∧ Ieee.single.signWeight ≤ a then (a : Int) - 2 * (Ieee.single.signWeight : Int) else (a : Int) := by
    rw [if_neg (fun g => absurd g.1 (by decide))]
  rw [near64_w]
  exact Runs.pure_bind (fm64.fromInt_spec fm32 false a ha _ hX w) ⟨_, rfl, rfl, rfl⟩

theorem cvt185 (a : Nat) (ha : a < 18446744073709551616) (w : World) : Runs Try.prog numm_convert.id #[.int .i64 185, .int .u64 a] w fun v w' => v = .tuple #[.int .u64 (ap 185 a 0).1, .int .i64 (ap 185 a 0).2] ∧ w' = w := by
  refine numm_convert.enter _ _ _ _ ?_
  unfold numm_convert.V
  refine cond_false' (by decide) ?_
  refine cond_false' (by decide) ?_
  refine cond_false' (by decide) ?_
  refine cond_false' (by decide) ?_
  refine cond_false' (by decide) ?_
  refine cond_false' (by decide) ?_
  refine cond_false' (by decide) ?_
  refine cond_false' (by decide) ?_
  refine cond_false' (by decide) ?_
  refine cond_false' (by decide) ?_
  refine cond_false' (by decide) ?_
  refine cond_false' (by decide) ?_
  refine cond_false' (by decide) ?_
  refine cond_false' (by decide) ?_
  refine cond_false' (by decide) ?_
  refine cond_false' (by decide) ?_
  refine cond_false' (by decide) ?_
  refine cond_false' (by decide) ?_
  refine cond_true' (by decide) ?_
  have e : ap 185 a 0 = (((FloatKind.nearest .f64 (IntKind.wrap .i64 (a : Int)) : Nat) : Int), 0) := by rw [ap_conv 185 a 0 (by decide) (by decide)]; rfl
  rw [e]
  have hX : IntKind.wrap .i64 (a : Int) = if true = true ∧ Ieee.double.signWeight ≤ a then (a : Int) - 2 * (Ieee.double.signWeight : Int) else (a : Int) := by
    rw [sx64 a ha, sw64]
    by_cases h : 9223372036854775808 ≤ a
    · rw [if_pos h, if_pos ⟨rfl, h⟩]; omega
    · rw [if_neg h, if_neg (fun g => h g.2)]
  rw [near64_w]
  exact Runs.pure_bind (fm64.fromInt_spec fm64 true a ha _ hX w) ⟨_, rfl, rfl, rfl⟩

theorem cvt186 (a : Nat) (ha : a < 18446744073709551616) (w : World) : Runs Try.prog numm_convert.id #[.int .i64 186, .int .u64 a] w fun v w' => v = .tuple #[.int .u64 (ap 186 a 0).1, .int .i64 (ap 186 a 0).2] ∧ w' = w := by
  refine numm_convert.enter _ _ _ _ ?_
  unfold numm_convert.V
  refine cond_false' (by decide) ?_
  refine cond_false' (by decide) ?_
  refine cond_false' (by decide) ?_
  refine cond_false' (by decide) ?_
  refine cond_false' (by decide) ?_
  refine cond_false' (by decide) ?_
  refine cond_false' (by decide) ?_
  refine cond_false' (by decide) ?_
  refine cond_false' (by decide) ?_
  refine cond_false' (by decide) ?_
  refine cond_false' (by decide) ?_
  refine cond_false' (by decide) ?_
  refine cond_false' (by decide) ?_
  refine cond_false' (by decide) ?_
  refine cond_false' (by decide) ?_
  refine cond_false' (by decide) ?_
  refine cond_false' (by decide) ?_
  refine cond_false' (by decide) ?_
  refine cond_false' (by decide) ?_
  refine cond_true' (by decide) ?_
  have e : ap 186 a 0 = (((FloatKind.nearest .f64 ((a : Int)) : Nat) : Int), 0) := by rw [ap_conv 186 a 0 (by decide) (by decide)]; rfl
  rw [e]
  have hX : (a : Int) = if false = true ∧ Ieee.double.signWeight ≤ a then (a : Int) - 2 * (Ieee.double.signWeight : Int) else (a : Int) := by
    rw [if_neg (fun g => absurd g.1 (by decide))]
  rw [near64_w]
  exact Runs.pure_bind (fm64.fromInt_spec fm64 false a ha _ hX w) ⟨_, rfl, rfl, rfl⟩

theorem cvt187 (a : Nat) (ha : a < 4294967296) (w : World) : Runs Try.prog numm_convert.id #[.int .i64 187, .int .u64 a] w fun v w' => v = .tuple #[.int .u64 (ap 187 a 0).1, .int .i64 (ap 187 a 0).2] ∧ w' = w := by
  refine numm_convert.enter _ _ _ _ ?_
  unfold numm_convert.V
  refine cond_false' (by decide) ?_
  refine cond_false' (by decide) ?_
  refine cond_false' (by decide) ?_
  refine cond_false' (by decide) ?_
  refine cond_false' (by decide) ?_
  refine cond_false' (by decide) ?_
  refine cond_false' (by decide) ?_
  refine cond_false' (by decide) ?_
  refine cond_false' (by decide) ?_
  refine cond_false' (by decide) ?_
  refine cond_false' (by decide) ?_
  refine cond_false' (by decide) ?_
  refine cond_false' (by decide) ?_
  refine cond_false' (by decide) ?_
  refine cond_false' (by decide) ?_
  refine cond_false' (by decide) ?_
  refine cond_false' (by decide) ?_
  refine cond_false' (by decide) ?_
  refine cond_false' (by decide) ?_
  refine cond_false' (by decide) ?_
  refine cond_true' (by decide) ?_
  have e : ap 187 a 0 = (((ar64 (floatToFloatBits .f32 (IntKind.wrap .u32 (a : Int)).toNat .f64) : Nat) : Int), 0) := by rw [ap_conv 187 a 0 (by decide) (by decide)]; rfl
  rw [e, wrap32_n a ha, Int.toNat_natCast, promote_eq a ha]
  exact Runs.pure_bind (fm32.reformat_spec fm64 a ha w) ⟨_, rfl, rfl, rfl⟩

theorem cvt188 (a : Nat) (ha : a < 4294967296) (w : World) : Runs Try.prog numm_convert.id #[.int .i64 188, .int .u64 a] w fun v w' => v = .tuple #[.int .u64 (ap 188 a 0).1, .int .i64 (ap 188 a 0).2] ∧ w' = w := by
  refine numm_convert.enter _ _ _ _ ?_
  unfold numm_convert.V
  refine cond_false' (by decide) ?_
  refine cond_false' (by decide) ?_
  refine cond_false' (by decide) ?_
  refine cond_false' (by decide) ?_
  refine cond_false' (by decide) ?_
  refine cond_false' (by decide) ?_
  refine cond_false' (by decide) ?_
  refine cond_false' (by decide) ?_
  refine cond_false' (by decide) ?_
  refine cond_false' (by decide) ?_
  refine cond_false' (by decide) ?_
  refine cond_false' (by decide) ?_
  refine cond_false' (by decide) ?_
  refine cond_false' (by decide) ?_
  refine cond_false' (by decide) ?_
  refine cond_false' (by decide) ?_
  refine cond_false' (by decide) ?_
  refine cond_false' (by decide) ?_
  refine cond_false' (by decide) ?_
  refine cond_false' (by decide) ?_
  refine cond_false' (by decide) ?_
  have e : ap 188 a 0 = (W3264 (a : Int), 0) := by rw [ap_conv 188 a 0 (by decide) (by decide)]; rfl
  rw [e, W3264_n a ha]
  exact ⟨rfl, rfl⟩

theorem cvt189 (a : Nat) (ha : a < 18446744073709551616) (w : World) : Runs Try.prog numm_convert.id #[.int .i64 189, .int .u64 a] w fun v w' => v = .tuple #[.int .u64 (ap 189 a 0).1, .int .i64 (ap 189 a 0).2] ∧ w' = w := by
  refine numm_convert.enter _ _ _ _ ?_
  unfold numm_convert.V
  refine cond_false' (by decide) ?_
  refine cond_false' (by decide) ?_
  refine cond_false' (by decide) ?_
  refine cond_false' (by decide) ?_
  refine cond_false' (by decide) ?_
  refine cond_false' (by decide) ?_
  refine cond_false' (by decide) ?_
  refine cond_false' (by decide) ?_
  refine cond_false' (by decide) ?_
  refine cond_false' (by decide) ?_
  refine cond_false' (by decide) ?_
  refine cond_false' (by decide) ?_
  refine cond_false' (by decide) ?_
  refine cond_false' (by decide) ?_
  refine cond_false' (by decide) ?_
  refine cond_false' (by decide) ?_
  refine cond_false' (by decide) ?_
  refine cond_false' (by decide) ?_
  refine cond_false' (by decide) ?_
  refine cond_false' (by decide) ?_
  refine cond_false' (by decide) ?_
  have e : ap 189 a 0 = ((a : Int), 0) := by rw [ap_conv 189 a 0 (by decide) (by decide)]; rfl
  rw [e]
  exact ⟨rfl, rfl⟩

theorem cvt190 (a : Nat) (ha : a < 4294967296) (w : World) : Runs Try.prog numm_convert.id #[.int .i64 190, .int .u64 a] w fun v w' => v = .tuple #[.int .u64 (ap 190 a 0).1, .int .i64 (ap 190 a 0).2] ∧ w' = w := by
  refine numm_convert.enter _ _ _ _ ?_
  unfold numm_convert.V
  refine cond_false' (by decide) ?_
  refine cond_false' (by decide) ?_
  refine cond_false' (by decide) ?_
  refine cond_false' (by decide) ?_
  refine cond_false' (by decide) ?_
  refine cond_false' (by decide) ?_
  refine cond_false' (by decide) ?_
  refine cond_false' (by decide) ?_
  refine cond_false' (by decide) ?_
  refine cond_false' (by decide) ?_
  refine cond_false' (by decide) ?_
  refine cond_false' (by decide) ?_
  refine cond_false' (by decide) ?_
  refine cond_false' (by decide) ?_
  refine cond_false' (by decide) ?_
  refine cond_false' (by decide) ?_
  refine cond_false' (by decide) ?_
  refine cond_false' (by decide) ?_
  refine cond_false' (by decide) ?_
  refine cond_false' (by decide) ?_
  refine cond_false' (by decide) ?_
  have e : ap 190 a 0 = (W3264 (a : Int), 0) := by rw [ap_conv 190 a 0 (by decide) (by decide)]; rfl
  rw [e, W3264_n a ha]
  exact ⟨rfl, rfl⟩

theorem cvt191 (a : Nat) (ha : a < 18446744073709551616) (w : World) : Runs Try.prog numm_convert.id #[.int .i64 191, .int .u64 a] w fun v w' => v = .tuple #[.int .u64 (ap 191 a 0).1, .int .i64 (ap 191 a 0).2] ∧ w' = w := by
  refine numm_convert.enter _ _ _ _ ?_
  unfold numm_convert.V
  refine cond_false' (by decide) ?_
  refine cond_false' (by decide) ?_
  refine cond_false' (by decide) ?_
  refine cond_false' (by decide) ?_
  refine cond_false' (by decide) ?_
  refine cond_false' (by decide) ?_
  refine cond_false' (by decide) ?_
  refine cond_false' (by decide) ?_
  refine cond_false' (by decide) ?_
  refine cond_false' (by decide) ?_
  refine cond_false' (by decide) ?_
  refine cond_false' (by decide) ?_
  refine cond_false' (by decide) ?_
  refine cond_false' (by decide) ?_
  refine cond_false' (by decide) ?_
  refine cond_false' (by decide) ?_
  refine cond_false' (by decide) ?_
  refine cond_false' (by decide) ?_
  refine cond_false' (by decide) ?_
  refine cond_false' (by decide) ?_
  refine cond_false' (by decide) ?_
  have e : ap 191 a 0 = ((a : Int), 0) := by rw [ap_conv 191 a 0 (by decide) (by decide)]; rfl
  rw [e]
  exact ⟨rfl, rfl⟩

end Go.Proofs.Qxb6500320a
