/-
  The model's integers: comparisons.
-/
import Derived.Test.Qxb6500320aRfL
set_option linter.unusedSimpArgs false
set_option linter.unusedVariables false
set_option maxRecDepth 100000
namespace Go.Proofs.Qxb6500320a
open Go Go.Vc


theorem ic0 (n x y : Int) : numm_intCmp.F 0 n x y = numm_flag.F (x == y) := rfl
theorem ic1 (n x y : Int) : numm_intCmp.F 1 n x y = numm_flag.F (x != y) := rfl
theorem ic2 (n x y : Int) : numm_intCmp.F 2 n x y = numm_flag.F (decide (bAnd .u64 (IntKind.wrap .u64 (x + numm_top.F n)) (numm_mask.F n) < bAnd .u64 (IntKind.wrap .u64 (y + numm_top.F n)) (numm_mask.F n))) := rfl
theorem ic3 (n x y : Int) : numm_intCmp.F 3 n x y = numm_flag.F (decide (x < y)) := rfl
theorem ic4 (n x y : Int) : numm_intCmp.F 4 n x y = numm_flag.F (decide (bAnd .u64 (IntKind.wrap .u64 (y + numm_top.F n)) (numm_mask.F n) < bAnd .u64 (IntKind.wrap .u64 (x + numm_top.F n)) (numm_mask.F n))) := rfl
theorem ic5 (n x y : Int) : numm_intCmp.F 5 n x y = numm_flag.F (decide (y < x)) := rfl
theorem ic6 (n x y : Int) : numm_intCmp.F 6 n x y = numm_flag.F (!decide (bAnd .u64 (IntKind.wrap .u64 (y + numm_top.F n)) (numm_mask.F n) < bAnd .u64 (IntKind.wrap .u64 (x + numm_top.F n)) (numm_mask.F n))) := rfl
theorem ic7 (n x y : Int) : numm_intCmp.F 7 n x y = numm_flag.F (!decide (y < x)) := rfl
theorem ic8 (n x y : Int) : numm_intCmp.F 8 n x y = numm_flag.F (!decide (bAnd .u64 (IntKind.wrap .u64 (x + numm_top.F n)) (numm_mask.F n) < bAnd .u64 (IntKind.wrap .u64 (y + numm_top.F n)) (numm_mask.F n))) := rfl
theorem ic9 (n x y : Int) : numm_intCmp.F 9 n x y = numm_flag.F (!decide (x < y)) := rfl
theorem nr32_0 (x y : Int) : num_rel32.F 70 x y = (x == y) := rfl
theorem nr32_1 (x y : Int) : num_rel32.F 71 x y = (x != y) := rfl
theorem nr32_2 (x y : Int) : num_rel32.F 72 x y = (decide (IntKind.wrap .i32 x < IntKind.wrap .i32 y)) := rfl
theorem nr32_3 (x y : Int) : num_rel32.F 73 x y = (decide (x < y)) := rfl
theorem nr32_4 (x y : Int) : num_rel32.F 74 x y = (decide (IntKind.wrap .i32 x > IntKind.wrap .i32 y)) := rfl
theorem nr32_5 (x y : Int) : num_rel32.F 75 x y = (decide (x > y)) := rfl
theorem nr32_6 (x y : Int) : num_rel32.F 76 x y = (decide (IntKind.wrap .i32 x ≤ IntKind.wrap .i32 y)) := rfl
theorem nr32_7 (x y : Int) : num_rel32.F 77 x y = (decide (x ≤ y)) := rfl
theorem nr32_8 (x y : Int) : num_rel32.F 78 x y = (decide (IntKind.wrap .i32 x ≥ IntKind.wrap .i32 y)) := rfl
theorem nr32_9 (x y : Int) : num_rel32.F 79 x y = (decide (x ≥ y)) := rfl
theorem nr64_0 (x y : Int) : num_rel64.F 81 x y = (x == y) := rfl
theorem nr64_1 (x y : Int) : num_rel64.F 82 x y = (x != y) := rfl
theorem nr64_2 (x y : Int) : num_rel64.F 83 x y = (decide (IntKind.wrap .i64 x < IntKind.wrap .i64 y)) := rfl
theorem nr64_3 (x y : Int) : num_rel64.F 84 x y = (decide (x < y)) := rfl
theorem nr64_4 (x y : Int) : num_rel64.F 85 x y = (decide (IntKind.wrap .i64 x > IntKind.wrap .i64 y)) := rfl
theorem nr64_5 (x y : Int) : num_rel64.F 86 x y = (decide (x > y)) := rfl
theorem nr64_6 (x y : Int) : num_rel64.F 87 x y = (decide (IntKind.wrap .i64 x ≤ IntKind.wrap .i64 y)) := rfl
theorem nr64_7 (x y : Int) : num_rel64.F 88 x y = (decide (x ≤ y)) := rfl
theorem nr64_8 (x y : Int) : num_rel64.F 89 x y = (decide (IntKind.wrap .i64 x ≥ IntKind.wrap .i64 y)) := rfl
theorem nr64_9 (x y : Int) : num_rel64.F 90 x y = (decide (x ≥ y)) := rfl

/-! ### 32 bits -/
theorem swap32 (a : Nat) (ha : a < 4294967296) : bAnd .u64 (IntKind.wrap .u64 ((a : Int) + numm_top.F 32)) (numm_mask.F 32) = (((a + 2147483648) % 4294967296 : Nat) : Int) := by
  have e1 : numm_top.F 32 = 2147483648 := by decide +kernel
  have e2 : numm_mask.F 32 = 4294967295 := by decide +kernel
  rw [e1, e2, wrap_u64_mod]
  clear e1 e2
  rw [andm32 _ (by omega) (by omega)]
  omega
theorem signed32 (a b : Nat) (ha : a < 4294967296) (hb : b < 4294967296) : (IntKind.wrap .i32 (a : Int) < IntKind.wrap .i32 (b : Int)) ↔ (((a + 2147483648) % 4294967296 : Nat) : Int) < (((b + 2147483648) % 4294967296 : Nat) : Int) := by
  have h : ∀ v : Nat, v < 4294967296 → IntKind.wrap .i32 (v : Int) = (((v + 2147483648) % 4294967296 : Nat) : Int) - 2147483648 := by
    intro v hv
    rw [wrap_i32_sgn _ (by omega) (by omega)]
    unfold sgn
    split <;> omega
  rw [h a ha, h b hb]; omega
theorem intCmp32 (op : Int) (h0 : 70 ≤ op) (h1 : op ≤ 79) (a b : Nat) (ha : a < 4294967296) (hb : b < 4294967296) : numm_intCmp.F (op - 70) 32 a b = num_flag.F (num_rel32.F op a b) := by
  have s1 := signed32 a b ha hb
  have s2 := signed32 b a hb ha
  have e1 := swap32 a ha
  have e2 := swap32 b hb
  obtain ⟨k, rfl⟩ : ∃ k, op = 70 + k := ⟨op - 70, by omega⟩
  have ek : (70 : Int) + k - 70 = k := by omega
  rw [ek]
  have hop : k = 0 ∨ k = 1 ∨ k = 2 ∨ k = 3 ∨ k = 4 ∨ k = 5 ∨ k = 6 ∨ k = 7 ∨ k = 8 ∨ k = 9 := by omega
  generalize hA : (((a + 2147483648) % 4294967296 : Nat) : Int) = A at *
  generalize hB : (((b + 2147483648) % 4294967296 : Nat) : Int) = B at *
  rcases hop with rfl | rfl | rfl | rfl | rfl | rfl | rfl | rfl | rfl | rfl
  · rw [ic0, flag_same]
    show _ = num_flag.F (num_rel32.F 70 a b)
    rw [nr32_0]
  · rw [ic1, flag_same]
    show _ = num_flag.F (num_rel32.F 71 a b)
    rw [nr32_1]
  · rw [ic2, flag_same]
    rw [e1, e2]
    show _ = num_flag.F (num_rel32.F 72 a b)
    rw [nr32_2]
    congr 1; rw [Bool.eq_iff_iff, decide_eq_true_iff, decide_eq_true_iff]; exact s1.symm
  · rw [ic3, flag_same]
    show _ = num_flag.F (num_rel32.F 73 a b)
    rw [nr32_3]
  · rw [ic4, flag_same]
    rw [e1, e2]
    show _ = num_flag.F (num_rel32.F 74 a b)
    rw [nr32_4]
    congr 1; rw [Bool.eq_iff_iff, decide_eq_true_iff, decide_eq_true_iff]; exact s2.symm
  · rw [ic5, flag_same]
    show _ = num_flag.F (num_rel32.F 75 a b)
    rw [nr32_5]
  · rw [ic6, flag_same]
    rw [e1, e2]
    show _ = num_flag.F (num_rel32.F 76 a b)
    rw [nr32_6]
    congr 1; rw [Bool.eq_iff_iff, Bool.not_eq_true', decide_eq_false_iff_not, decide_eq_true_iff]; clear e1 e2 hA hB; omega
  · rw [ic7, flag_same]
    show _ = num_flag.F (num_rel32.F 77 a b)
    rw [nr32_7]
    congr 1; rw [Bool.eq_iff_iff, Bool.not_eq_true', decide_eq_false_iff_not, decide_eq_true_iff]; clear e1 e2 hA hB; omega
  · rw [ic8, flag_same]
    rw [e1, e2]
    show _ = num_flag.F (num_rel32.F 78 a b)
    rw [nr32_8]
    congr 1; rw [Bool.eq_iff_iff, Bool.not_eq_true', decide_eq_false_iff_not, decide_eq_true_iff]; clear e1 e2 hA hB; omega
  · rw [ic9, flag_same]
    show _ = num_flag.F (num_rel32.F 79 a b)
    rw [nr32_9]
    congr 1; rw [Bool.eq_iff_iff, Bool.not_eq_true', decide_eq_false_iff_not, decide_eq_true_iff]; clear e1 e2 hA hB; omega

/-! ### 64 bits -/
theorem swap64 (a : Nat) (ha : a < 18446744073709551616) : bAnd .u64 (IntKind.wrap .u64 ((a : Int) + numm_top.F 64)) (numm_mask.F 64) = (((a + 9223372036854775808) % 18446744073709551616 : Nat) : Int) := by
  have e1 : numm_top.F 64 = 9223372036854775808 := by decide +kernel
  have e2 : numm_mask.F 64 = 18446744073709551615 := by decide +kernel
  rw [e1, e2, wrap_u64_mod]
  clear e1 e2
  rw [andm64 _ (by omega) (by omega)]
  omega
theorem signed64 (a b : Nat) (ha : a < 18446744073709551616) (hb : b < 18446744073709551616) : (IntKind.wrap .i64 (a : Int) < IntKind.wrap .i64 (b : Int)) ↔ (((a + 9223372036854775808) % 18446744073709551616 : Nat) : Int) < (((b + 9223372036854775808) % 18446744073709551616 : Nat) : Int) := by
  have h : ∀ v : Nat, v < 18446744073709551616 → IntKind.wrap .i64 (v : Int) = (((v + 9223372036854775808) % 18446744073709551616 : Nat) : Int) - 9223372036854775808 := by
    intro v hv
    rw [wrap_i64_sgn _ (by omega) (by omega)]
    unfold sgn
    split <;> omega
  rw [h a ha, h b hb]; omega
theorem intCmp64 (op : Int) (h0 : 81 ≤ op) (h1 : op ≤ 90) (a b : Nat) (ha : a < 18446744073709551616) (hb : b < 18446744073709551616) : numm_intCmp.F (op - 81) 64 a b = num_flag.F (num_rel64.F op a b) := by
  have s1 := signed64 a b ha hb
  have s2 := signed64 b a hb ha
  have e1 := swap64 a ha
  have e2 := swap64 b hb
  obtain ⟨k, rfl⟩ : ∃ k, op = 81 + k := ⟨op - 81, by omega⟩
  have ek : (81 : Int) + k - 81 = k := by omega
  rw [ek]
  have hop : k = 0 ∨ k = 1 ∨ k = 2 ∨ k = 3 ∨ k = 4 ∨ k = 5 ∨ k = 6 ∨ k = 7 ∨ k = 8 ∨ k = 9 := by omega
  generalize hA : (((a + 9223372036854775808) % 18446744073709551616 : Nat) : Int) = A at *
  generalize hB : (((b + 9223372036854775808) % 18446744073709551616 : Nat) : Int) = B at *
  rcases hop with rfl | rfl | rfl | rfl | rfl | rfl | rfl | rfl | rfl | rfl
  · rw [ic0, flag_same]
    show _ = num_flag.F (num_rel64.F 81 a b)
    rw [nr64_0]
  · rw [ic1, flag_same]
    show _ = num_flag.F (num_rel64.F 82 a b)
    rw [nr64_1]
  · rw [ic2, flag_same]
    rw [e1, e2]
    show _ = num_flag.F (num_rel64.F 83 a b)
    rw [nr64_2]
    congr 1; rw [Bool.eq_iff_iff, decide_eq_true_iff, decide_eq_true_iff]; exact s1.symm
  · rw [ic3, flag_same]
    show _ = num_flag.F (num_rel64.F 84 a b)
    rw [nr64_3]
  · rw [ic4, flag_same]
    rw [e1, e2]
    show _ = num_flag.F (num_rel64.F 85 a b)
    rw [nr64_4]
    congr 1; rw [Bool.eq_iff_iff, decide_eq_true_iff, decide_eq_true_iff]; exact s2.symm
  · rw [ic5, flag_same]
    show _ = num_flag.F (num_rel64.F 86 a b)
    rw [nr64_5]
  · rw [ic6, flag_same]
    rw [e1, e2]
    show _ = num_flag.F (num_rel64.F 87 a b)
    rw [nr64_6]
    congr 1; rw [Bool.eq_iff_iff, Bool.not_eq_true', decide_eq_false_iff_not, decide_eq_true_iff]; clear e1 e2 hA hB; omega
  · rw [ic7, flag_same]
    show _ = num_flag.F (num_rel64.F 88 a b)
    rw [nr64_7]
    congr 1; rw [Bool.eq_iff_iff, Bool.not_eq_true', decide_eq_false_iff_not, decide_eq_true_iff]; clear e1 e2 hA hB; omega
  · rw [ic8, flag_same]
    rw [e1, e2]
    show _ = num_flag.F (num_rel64.F 89 a b)
    rw [nr64_8]
    congr 1; rw [Bool.eq_iff_iff, Bool.not_eq_true', decide_eq_false_iff_not, decide_eq_true_iff]; clear e1 e2 hA hB; omega
  · rw [ic9, flag_same]
    show _ = num_flag.F (num_rel64.F 90 a b)
    rw [nr64_9]
    congr 1; rw [Bool.eq_iff_iff, Bool.not_eq_true', decide_eq_false_iff_not, decide_eq_true_iff]; clear e1 e2 hA hB; omega

end Go.Proofs.Qxb6500320a
