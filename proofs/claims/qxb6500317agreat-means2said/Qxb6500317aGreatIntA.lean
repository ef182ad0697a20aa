/-
  Package num: what the integers' operators compute, by whole numbers: counting.
-/
import Derived.Test.Qxb6500317aGreatGen
import Derived.Test.Qxb6500317aGreatBits
set_option linter.unusedSimpArgs false
set_option linter.unusedVariables false
set_option maxRecDepth 100000
namespace Go.Proofs.Qxb6500317aGreat.U
open Go Go.Vc

theorem fdiv_n (a k : Nat) : Int.fdiv (a : Int) (2 ^ k) = ((a / 2 ^ k : Nat) : Int) := by
  rw [Int.fdiv_eq_ediv_of_nonneg _ (Int.pow_nonneg (by decide))]
  simp

theorem wrap32_n (n : Nat) (h : n < 4294967296) : IntKind.wrap .u32 (n : Int) = (n : Int) := wrap_u32 (by omega) (by omega)
theorem wrap64_n (n : Nat) (h : n < 18446744073709551616) : IntKind.wrap .u64 (n : Int) = (n : Int) := wrap_u64 (by omega) (by omega)
theorem bAnd32_n (a b : Nat) (ha : a < 4294967296) (hb : b < 4294967296) : bAnd .u32 (a : Int) (b : Int) = ((a &&& b : Nat) : Int) := bAnd_n .u32 rfl a b ha hb
theorem bAnd64_n (a b : Nat) (ha : a < 18446744073709551616) (hb : b < 18446744073709551616) : bAnd .u64 (a : Int) (b : Int) = ((a &&& b : Nat) : Int) := bAnd_n .u64 rfl a b ha hb

theorem pop32_F (x : Nat) (h : x < 4294967296) : num_pop32.F (x : Int) = ((ones 32 x : Nat) : Int) := by
  obtain ⟨s1, s2, s3, s4, s5, s6, s7⟩ := swar 4 x 1431655765 858993459 252645135 h (by decide) (by decide) (by decide)
  have h256 : (256 : Nat) ^ 4 = 4294967296 := by decide
  rw [h256] at s2 s5
  unfold num_pop32.F num_pop32.F1 num_pop32.F2 num_pop32.F3 num_pop32.F4
  have e1 : bAnd .u32 (Int.fdiv (x : Int) (2 ^ (1 : Nat))) 1431655765 = ((x / 2 &&& 1431655765 : Nat) : Int) := by
    rw [fdiv_n]; exact bAnd32_n (x / 2 ^ 1) 1431655765 (by omega) (by omega)
  have e2 : IntKind.wrap .u32 ((x : Int) - ((x / 2 &&& 1431655765 : Nat) : Int)) = ((x - (x / 2 &&& 1431655765) : Nat) : Int) := by
    rw [← Int.ofNat_sub s1, wrap32_n _ s2]
  rw [e1, e2]
  generalize x - (x / 2 &&& 1431655765) = y at *
  have e3 : bAnd .u32 (y : Int) 858993459 = ((y &&& 858993459 : Nat) : Int) := bAnd32_n y 858993459 s2 (by omega)
  have e4 : bAnd .u32 (Int.fdiv (y : Int) (2 ^ (2 : Nat))) 858993459 = ((y / 4 &&& 858993459 : Nat) : Int) := by
    rw [fdiv_n]; exact bAnd32_n (y / 2 ^ 2) 858993459 (by omega) (by omega)
  rw [e3, e4, ← Int.natCast_add, s3, wrap32_n _ s5]
  have s9 := z_le 4 x
  have s10 : spread (fun _ => 68) 4 0 = 1145324612 := by decide
  rw [s10] at s9
  generalize spread (fun d => g2 (g1 d)) 4 x = z at *
  have s8 : z + z / 16 < 4294967296 := by omega
  have e5 : IntKind.wrap .u32 ((z : Int) + Int.fdiv (z : Int) (2 ^ (4 : Nat))) = ((z + z / 16 : Nat) : Int) := by
    rw [fdiv_n, ← Int.natCast_add, wrap32_n _ (by simpa using s8)]
  have e6 : bAnd .u32 ((z + z / 16 : Nat) : Int) 252645135 = ((z + z / 16 &&& 252645135 : Nat) : Int) := bAnd32_n (z + z / 16) 252645135 s8 (by omega)
  rw [e5, e6, s7]
  have e7 : IntKind.wrap .u32 (((spread (fun d => ones 8 d) 4 x : Nat) : Int) * 16843009) = ((spread (fun d => ones 8 d) 4 x * 16843009 % 4294967296 : Nat) : Int) := by
    rw [wrap_u32_mod]; omega
  rw [e7, fdiv_n, ← gather4 x]

theorem pop64_F (x : Nat) (h : x < 18446744073709551616) : num_pop64.F (x : Int) = ((ones 64 x : Nat) : Int) := by
  obtain ⟨s1, s2, s3, s4, s5, s6, s7⟩ := swar 8 x 6148914691236517205 3689348814741910323 1085102592571150095 h (by decide) (by decide) (by decide)
  have h256 : (256 : Nat) ^ 8 = 18446744073709551616 := by decide
  rw [h256] at s2 s5
  unfold num_pop64.F num_pop64.F1 num_pop64.F2 num_pop64.F3 num_pop64.F4
  have e1 : bAnd .u64 (Int.fdiv (x : Int) (2 ^ (1 : Nat))) 6148914691236517205 = ((x / 2 &&& 6148914691236517205 : Nat) : Int) := by
    rw [fdiv_n]; exact bAnd64_n (x / 2 ^ 1) 6148914691236517205 (by omega) (by omega)
  have e2 : IntKind.wrap .u64 ((x : Int) - ((x / 2 &&& 6148914691236517205 : Nat) : Int)) = ((x - (x / 2 &&& 6148914691236517205) : Nat) : Int) := by
    rw [← Int.ofNat_sub s1, wrap64_n _ s2]
  rw [e1, e2]
  generalize x - (x / 2 &&& 6148914691236517205) = y at *
  have e3 : bAnd .u64 (y : Int) 3689348814741910323 = ((y &&& 3689348814741910323 : Nat) : Int) := bAnd64_n y 3689348814741910323 s2 (by omega)
  have e4 : bAnd .u64 (Int.fdiv (y : Int) (2 ^ (2 : Nat))) 3689348814741910323 = ((y / 4 &&& 3689348814741910323 : Nat) : Int) := by
    rw [fdiv_n]; exact bAnd64_n (y / 2 ^ 2) 3689348814741910323 (by omega) (by omega)
  rw [e3, e4, ← Int.natCast_add, s3, wrap64_n _ s5]
  have s9 := z_le 8 x
  have s10 : spread (fun _ => 68) 8 0 = 4919131752989213764 := by decide
  rw [s10] at s9
  generalize spread (fun d => g2 (g1 d)) 8 x = z at *
  have s8 : z + z / 16 < 18446744073709551616 := by omega
  have e5 : IntKind.wrap .u64 ((z : Int) + Int.fdiv (z : Int) (2 ^ (4 : Nat))) = ((z + z / 16 : Nat) : Int) := by
    rw [fdiv_n, ← Int.natCast_add, wrap64_n _ (by simpa using s8)]
  have e6 : bAnd .u64 ((z + z / 16 : Nat) : Int) 1085102592571150095 = ((z + z / 16 &&& 1085102592571150095 : Nat) : Int) := bAnd64_n (z + z / 16) 1085102592571150095 s8 (by omega)
  rw [e5, e6, s7]
  have e7 : IntKind.wrap .u64 (((spread (fun d => ones 8 d) 8 x : Nat) : Int) * 72340172838076673) = ((spread (fun d => ones 8 d) 8 x * 72340172838076673 % 18446744073709551616 : Nat) : Int) := by
    rw [wrap_u64_mod]; omega
  rw [e7, fdiv_n, ← gather8 x]

/-! ### What is not in a word -/
theorem bXor32_not (x : Nat) (h : x < 4294967296) : bXor .u32 (IntKind.max .u32) (x : Int) = ((4294967295 - x : Nat) : Int) := by
  unfold bXor
  have e : BitVec.ofInt (IntKind.bits .u32) (IntKind.max .u32) = BitVec.allOnes 32 := by
    show BitVec.ofInt 32 4294967295 = BitVec.allOnes 32
    decide
  have e2 : ∀ y : BitVec 32, BitVec.allOnes 32 ^^^ y = ~~~y := fun y => BitVec.allOnes_xor
  have e3 := e2 (BitVec.ofInt 32 (x : Int))
  have e4 : (BitVec.ofInt (IntKind.bits .u32) (IntKind.max .u32) ^^^ BitVec.ofInt (IntKind.bits .u32) (x : Int)).toNat = 4294967295 - x := by
    rw [e]
    show (BitVec.allOnes 32 ^^^ BitVec.ofInt 32 (x : Int)).toNat = _
    rw [e3, BitVec.toNat_not, ofInt_nat x 32 h]
  rw [e4, wrap32_n _ (by omega)]
theorem bXor64_not (x : Nat) (h : x < 18446744073709551616) : bXor .u64 (IntKind.max .u64) (x : Int) = ((18446744073709551615 - x : Nat) : Int) := by
  unfold bXor
  have e : BitVec.ofInt (IntKind.bits .u64) (IntKind.max .u64) = BitVec.allOnes 64 := by
    show BitVec.ofInt 64 18446744073709551615 = BitVec.allOnes 64
    decide
  have e2 : ∀ y : BitVec 64, BitVec.allOnes 64 ^^^ y = ~~~y := fun y => BitVec.allOnes_xor
  have e3 := e2 (BitVec.ofInt 64 (x : Int))
  have e4 : (BitVec.ofInt (IntKind.bits .u64) (IntKind.max .u64) ^^^ BitVec.ofInt (IntKind.bits .u64) (x : Int)).toNat = 18446744073709551615 - x := by
    rw [e]
    show (BitVec.allOnes 64 ^^^ BitVec.ofInt 64 (x : Int)).toNat = _
    rw [e3, BitVec.toNat_not, ofInt_nat x 64 h]
  rw [e4, wrap64_n _ (by omega)]

/-! ### Trailing zeros -/
theorem ctz32_F (x : Nat) (h : x < 4294967296) : num_pop32.F (bAnd .u32 (bXor .u32 (IntKind.max .u32) (x : Int)) (IntKind.wrap .u32 ((x : Int) - 1))) = ((tz 32 x : Nat) : Int) := by
  have e : IntKind.wrap .u32 ((x : Int) - 1) = (((x + 4294967296 - 1) % 4294967296 : Nat) : Int) := by rw [wrap_u32_mod]; omega
  rw [bXor32_not x h, e, bAnd32_n _ _ (by omega) (by omega), pop32_F _ (Nat.lt_of_le_of_lt Nat.and_le_left (by omega))]
  have := ones_tz 32 x h
  exact congrArg (fun n : Nat => (n : Int)) this
theorem ctz64_F (x : Nat) (h : x < 18446744073709551616) : num_pop64.F (bAnd .u64 (bXor .u64 (IntKind.max .u64) (x : Int)) (IntKind.wrap .u64 ((x : Int) - 1))) = ((tz 64 x : Nat) : Int) := by
  have e : IntKind.wrap .u64 ((x : Int) - 1) = (((x + 18446744073709551616 - 1) % 18446744073709551616 : Nat) : Int) := by rw [wrap_u64_mod]; omega
  rw [bXor64_not x h, e, bAnd64_n _ _ (by omega) (by omega), pop64_F _ (Nat.lt_of_le_of_lt Nat.and_le_left (by omega))]
  have := ones_tz 64 x h
  exact congrArg (fun n : Nat => (n : Int)) this

/-! ### Leading zeros -/
theorem shr_zero (y k : Nat) : ((Int.fdiv (y : Int) (2 ^ k)) == (0 : Int)) = decide (y < 2 ^ k) := by
  rw [fdiv_n]
  have hp : 0 < 2 ^ k := Nat.two_pow_pos k
  rw [Bool.eq_iff_iff, decide_eq_true_iff, beq_iff_eq]
  constructor
  · intro h
    have h' : y / 2 ^ k = 0 := by omega
    exact (Nat.div_eq_zero_iff_lt hp).1 h'
  · intro h
    have h' := (Nat.div_eq_zero_iff_lt hp).2 h
    omega

theorem clz_F4 (y n : Nat) (hy : y < 4294967296) (h1 : 1073741824 ≤ y) (hn : n ≤ 100) : ∃ c : Nat, num_clz32.F4 y n = ((n + c : Nat) : Int) ∧ c ≤ 1 ∧ 2147483648 ≤ y * 2 ^ c ∧ y * 2 ^ c < 4294967296 := by
  unfold num_clz32.F4 num_clz32.F5
  rw [shr_zero]
  by_cases h : y < 2 ^ 31
  · rw [decide_eq_true h, cond_true]
    exact ⟨1, by rw [wrap_u32 (by omega) (by omega)]; omega, by omega, by omega, by omega⟩
  · rw [decide_eq_false h, cond_false]
    exact ⟨0, by omega, by omega, by omega, by omega⟩
theorem clz_F3 (y n : Nat) (hy : y < 4294967296) (h1 : 268435456 ≤ y) (hn : n ≤ 90) : ∃ c : Nat, num_clz32.F3 y n = ((n + c : Nat) : Int) ∧ c ≤ 3 ∧ 2147483648 ≤ y * 2 ^ c ∧ y * 2 ^ c < 4294967296 := by
  unfold num_clz32.F3
  rw [shr_zero]
  by_cases h : y < 2 ^ 30
  · rw [decide_eq_true h, cond_true]
    have e1 : IntKind.wrap .u32 ((y : Int) * 2 ^ (2 : Nat)) = ((y * 4 : Nat) : Int) := by rw [wrap_u32 (by omega) (by omega)]; omega
    have e2 : IntKind.wrap .u32 ((n : Int) + 2) = ((n + 2 : Nat) : Int) := by rw [wrap_u32 (by omega) (by omega)]; omega
    rw [e1, e2]
    obtain ⟨c, q1, q2, q3, q4⟩ := clz_F4 (y * 4) (n + 2) (by omega) (by omega) (by omega)
    have e : y * 4 * 2 ^ c = y * 2 ^ (2 + c) := by rw [Nat.pow_add, ← Nat.mul_assoc]
    exact ⟨2 + c, by rw [q1, Nat.add_assoc], by omega, by rw [← e]; exact q3, by rw [← e]; exact q4⟩
  · rw [decide_eq_false h, cond_false]
    obtain ⟨c, q1, q2, q3, q4⟩ := clz_F4 y n hy (by omega) (by omega)
    exact ⟨c, q1, by omega, q3, q4⟩
theorem clz_F2 (y n : Nat) (hy : y < 4294967296) (h1 : 16777216 ≤ y) (hn : n ≤ 80) : ∃ c : Nat, num_clz32.F2 y n = ((n + c : Nat) : Int) ∧ c ≤ 7 ∧ 2147483648 ≤ y * 2 ^ c ∧ y * 2 ^ c < 4294967296 := by
  unfold num_clz32.F2
  rw [shr_zero]
  by_cases h : y < 2 ^ 28
  · rw [decide_eq_true h, cond_true]
    have e1 : IntKind.wrap .u32 ((y : Int) * 2 ^ (4 : Nat)) = ((y * 16 : Nat) : Int) := by rw [wrap_u32 (by omega) (by omega)]; omega
    have e2 : IntKind.wrap .u32 ((n : Int) + 4) = ((n + 4 : Nat) : Int) := by rw [wrap_u32 (by omega) (by omega)]; omega
    rw [e1, e2]
    obtain ⟨c, q1, q2, q3, q4⟩ := clz_F3 (y * 16) (n + 4) (by omega) (by omega) (by omega)
    have e : y * 16 * 2 ^ c = y * 2 ^ (4 + c) := by rw [Nat.pow_add, ← Nat.mul_assoc]
    exact ⟨4 + c, by rw [q1, Nat.add_assoc], by omega, by rw [← e]; exact q3, by rw [← e]; exact q4⟩
  · rw [decide_eq_false h, cond_false]
    obtain ⟨c, q1, q2, q3, q4⟩ := clz_F3 y n hy (by omega) (by omega)
    exact ⟨c, q1, by omega, q3, q4⟩
theorem clz_F1 (y n : Nat) (hy : y < 4294967296) (h1 : 65536 ≤ y) (hn : n ≤ 60) : ∃ c : Nat, num_clz32.F1 y n = ((n + c : Nat) : Int) ∧ c ≤ 15 ∧ 2147483648 ≤ y * 2 ^ c ∧ y * 2 ^ c < 4294967296 := by
  unfold num_clz32.F1
  rw [shr_zero]
  by_cases h : y < 2 ^ 24
  · rw [decide_eq_true h, cond_true]
    have e1 : IntKind.wrap .u32 ((y : Int) * 2 ^ (8 : Nat)) = ((y * 256 : Nat) : Int) := by rw [wrap_u32 (by omega) (by omega)]; omega
    have e2 : IntKind.wrap .u32 ((n : Int) + 8) = ((n + 8 : Nat) : Int) := by rw [wrap_u32 (by omega) (by omega)]; omega
    rw [e1, e2]
    obtain ⟨c, q1, q2, q3, q4⟩ := clz_F2 (y * 256) (n + 8) (by omega) (by omega) (by omega)
    have e : y * 256 * 2 ^ c = y * 2 ^ (8 + c) := by rw [Nat.pow_add, ← Nat.mul_assoc]
    exact ⟨8 + c, by rw [q1, Nat.add_assoc], by omega, by rw [← e]; exact q3, by rw [← e]; exact q4⟩
  · rw [decide_eq_false h, cond_false]
    obtain ⟨c, q1, q2, q3, q4⟩ := clz_F2 y n hy (by omega) (by omega)
    exact ⟨c, q1, by omega, q3, q4⟩

theorem clz32_F (x : Nat) (h0 : x ≠ 0) (h : x < 4294967296) : ∃ c : Nat, num_clz32.F x = ((c : Nat) : Int) ∧ c ≤ 31 ∧ x / 2 ^ (31 - c) = 1 := by
  have key : ∃ c : Nat, num_clz32.F x = ((c : Nat) : Int) ∧ c ≤ 31 ∧ 2147483648 ≤ x * 2 ^ c ∧ x * 2 ^ c < 4294967296 := by
    unfold num_clz32.F
    have hz : ((x : Int) == (0 : Int)) = false := by rw [beq_eq_false_iff_ne]; omega
    rw [hz, cond_false, shr_zero]
    by_cases hx : x < 2 ^ 16
    · rw [decide_eq_true hx, cond_true]
      have e1 : IntKind.wrap .u32 ((x : Int) * 2 ^ (16 : Nat)) = ((x * 65536 : Nat) : Int) := by rw [wrap_u32 (by omega) (by omega)]; omega
      have e2 : IntKind.wrap .u32 ((0 : Int) + 16) = ((16 : Nat) : Int) := by decide
      rw [e1, e2]
      obtain ⟨c, q1, q2, q3, q4⟩ := clz_F1 (x * 65536) 16 (by omega) (by omega) (by omega)
      have e : x * 65536 * 2 ^ c = x * 2 ^ (16 + c) := by rw [Nat.pow_add, ← Nat.mul_assoc]
      exact ⟨16 + c, q1, by omega, by rw [← e]; exact q3, by rw [← e]; exact q4⟩
    · rw [decide_eq_false hx, cond_false]
      obtain ⟨c, q1, q2, q3, q4⟩ := clz_F1 x 0 h (by omega) (by omega)
      rw [Nat.zero_add] at q1
      exact ⟨c, q1, by omega, q3, q4⟩
  obtain ⟨c, q1, q2, q3, q4⟩ := key
  refine ⟨c, q1, q2, ?_⟩
  have hp : 0 < 2 ^ c := Nat.two_pow_pos c
  have hs : (2 : Nat) ^ (31 - c) * 2 ^ c = 2147483648 := by rw [← Nat.pow_add, show 31 - c + c = 31 by omega]
  have hq : 0 < 2 ^ (31 - c) := Nat.two_pow_pos _
  have a1 : 2 ^ (31 - c) ≤ x := by
    apply Nat.le_of_mul_le_mul_right _ hp
    omega
  have a2 : x < 2 * 2 ^ (31 - c) := by
    apply Nat.lt_of_mul_lt_mul_right (a := 2 ^ c)
    rw [Nat.mul_assoc, hs]; omega
  generalize (2 : Nat) ^ (31 - c) = Q at *
  exact Nat.div_eq_of_lt_le (by omega) (by omega)

end Go.Proofs.Qxb6500317aGreat.U
