/-
  Package num: the integers' operators: rotations there and back, sums there and back.
-/
import Derived.Test.Qxb6500317aGreatIntB
set_option linter.unusedSimpArgs false
set_option linter.unusedVariables false
set_option maxRecDepth 100000
namespace Go.Proofs.Qxb6500317aGreat.U
open Go Go.Vc

theorem or_add (a b i : Nat) (h : b < 2 ^ i) : a * 2 ^ i ||| b = a * 2 ^ i + b := by
  have := Nat.shiftLeft_add_eq_or_of_lt h a
  rw [Nat.shiftLeft_eq] at this
  exact this.symm

theorem rot_l (W c x : Nat) (hc : 0 < c) (hcW : c < W) (hx : x < 2 ^ W) : (x * 2 ^ c % 2 ^ W ||| x / 2 ^ (W - c)) = x % 2 ^ (W - c) * 2 ^ c + x / 2 ^ (W - c) ∧ x / 2 ^ (W - c) < 2 ^ c := by
  have hPQ : 2 ^ W = 2 ^ (W - c) * 2 ^ c := by rw [← Nat.pow_add, Nat.sub_add_cancel (by omega)]
  have h1 : x * 2 ^ c % 2 ^ W = x % 2 ^ (W - c) * 2 ^ c := by rw [hPQ, Nat.mul_mod_mul_right]
  have h2 : x / 2 ^ (W - c) < 2 ^ c := by
    rw [Nat.div_lt_iff_lt_mul (Nat.two_pow_pos _), Nat.mul_comm, ← hPQ]; exact hx
  exact ⟨by rw [h1, or_add _ _ _ h2], h2⟩

theorem rot_back (W c x : Nat) (hc : 0 < c) (hcW : c < W) (hx : x < 2 ^ W) :
    ((x * 2 ^ c % 2 ^ W ||| x / 2 ^ (W - c)) / 2 ^ c ||| (x * 2 ^ c % 2 ^ W ||| x / 2 ^ (W - c)) * 2 ^ (W - c) % 2 ^ W) = x := by
  obtain ⟨h1, h2⟩ := rot_l W c x hc hcW hx
  have hP : 0 < 2 ^ c := Nat.two_pow_pos c
  have hQ : 0 < 2 ^ (W - c) := Nat.two_pow_pos _
  have hPQ : 2 ^ W = 2 ^ c * 2 ^ (W - c) := by rw [← Nat.pow_add, Nat.add_sub_cancel' (by omega)]
  rw [h1]
  have h3 : (x % 2 ^ (W - c) * 2 ^ c + x / 2 ^ (W - c)) / 2 ^ c = x % 2 ^ (W - c) := by
    rw [Nat.add_comm, Nat.add_mul_div_right _ _ hP, Nat.div_eq_of_lt h2, Nat.zero_add]
  have h4 : (x % 2 ^ (W - c) * 2 ^ c + x / 2 ^ (W - c)) * 2 ^ (W - c) % 2 ^ W = x / 2 ^ (W - c) * 2 ^ (W - c) := by
    rw [hPQ, Nat.mul_mod_mul_right, Nat.add_comm, Nat.add_mul_mod_self_right, Nat.mod_eq_of_lt h2]
  rw [h3, h4, Nat.or_comm, or_add _ _ _ (Nat.mod_lt _ hQ), Nat.mul_comm]
  exact Nat.div_add_mod x (2 ^ (W - c))

theorem bOr32_n (a b : Nat) (ha : a < 4294967296) (hb : b < 4294967296) : bOr .u32 (a : Int) (b : Int) = ((a ||| b : Nat) : Int) := bOr_n .u32 rfl a b ha hb
theorem bOr64_n (a b : Nat) (ha : a < 18446744073709551616) (hb : b < 18446744073709551616) : bOr .u64 (a : Int) (b : Int) = ((a ||| b : Nat) : Int) := bOr_n .u64 rfl a b ha hb

theorem shl32_n (x c : Nat) (hc : c < 32) : IntKind.wrap .u32 ((x : Int) * 2 ^ (min c (IntKind.bits .u32))) = ((x * 2 ^ c % 4294967296 : Nat) : Int) := by
  have : min c (IntKind.bits .u32) = c := by show min c 32 = c; omega
  rw [this, wrap_u32_mod]
  have e : ((x : Int) * 2 ^ c) = ((x * 2 ^ c : Nat) : Int) := by simp
  rw [e]; omega
theorem shr32_n (x c : Nat) (hc : c < 32) : Int.fdiv (x : Int) (2 ^ (min c (IntKind.bits .u32))) = ((x / 2 ^ c : Nat) : Int) := by
  have : min c (IntKind.bits .u32) = c := by show min c 32 = c; omega
  rw [this, fdiv_n]
theorem shl64_n (x c : Nat) (hc : c < 64) : IntKind.wrap .u64 ((x : Int) * 2 ^ (min c (IntKind.bits .u64))) = ((x * 2 ^ c % 18446744073709551616 : Nat) : Int) := by
  have : min c (IntKind.bits .u64) = c := by show min c 64 = c; omega
  rw [this, wrap_u64_mod]
  have e : ((x : Int) * 2 ^ c) = ((x * 2 ^ c : Nat) : Int) := by simp
  rw [e]; omega
theorem shr64_n (x c : Nat) (hc : c < 64) : Int.fdiv (x : Int) (2 ^ (min c (IntKind.bits .u64))) = ((x / 2 ^ c : Nat) : Int) := by
  have : min c (IntKind.bits .u64) = c := by show min c 64 = c; omega
  rw [this, fdiv_n]

/-- The other count. -/
theorem other32 (c : Nat) (hc : c < 32) : bAnd .u32 (IntKind.wrap .u32 ((bXor .u32 (IntKind.max .u32) (c : Int)) + (1 : Int))) 31 = (((32 - c) % 32 : Nat) : Int) := by
  rw [bXor32_not c (by omega)]
  have e : IntKind.wrap .u32 (((4294967295 - c : Nat) : Int) + 1) = (((4294967296 - c) % 4294967296 : Nat) : Int) := by rw [wrap_u32_mod]; omega
  rw [e]
  have h := bAnd32_n ((4294967296 - c) % 4294967296) 31 (by omega) (by omega)
  have h2 : ((4294967296 - c) % 4294967296 &&& 31) = (32 - c) % 32 := by
    have := Nat.and_two_pow_sub_one_eq_mod ((4294967296 - c) % 4294967296) 5
    have e31 : (2 : Nat) ^ 5 - 1 = 31 := rfl
    rw [e31] at this
    rw [this]; omega
  rw [h2] at h
  exact h
theorem other64 (c : Nat) (hc : c < 64) : bAnd .u64 (IntKind.wrap .u64 ((bXor .u64 (IntKind.max .u64) (c : Int)) + (1 : Int))) 63 = (((64 - c) % 64 : Nat) : Int) := by
  rw [bXor64_not c (by omega)]
  have e : IntKind.wrap .u64 (((18446744073709551615 - c : Nat) : Int) + 1) = (((18446744073709551616 - c) % 18446744073709551616 : Nat) : Int) := by rw [wrap_u64_mod]; omega
  rw [e]
  have h := bAnd64_n ((18446744073709551616 - c) % 18446744073709551616) 63 (by omega) (by omega)
  have h2 : ((18446744073709551616 - c) % 18446744073709551616 &&& 63) = (64 - c) % 64 := by
    have := Nat.and_two_pow_sub_one_eq_mod ((18446744073709551616 - c) % 18446744073709551616) 6
    have e31 : (2 : Nat) ^ 6 - 1 = 63 := rfl
    rw [e31] at this
    rw [this]; omega
  rw [h2] at h
  exact h

def rotl (W M c x : Nat) : Nat := x * 2 ^ c % M ||| x / 2 ^ ((W - c) % W)
def rotr (W M c x : Nat) : Nat := x / 2 ^ c ||| x * 2 ^ ((W - c) % W) % M

theorem rot_both (W c x : Nat) (hW : 0 < W) (hc : c < W) (hx : x < 2 ^ W) : rotr W (2 ^ W) c (rotl W (2 ^ W) c x) = x ∧ rotl W (2 ^ W) c x < 2 ^ W := by
  unfold rotr rotl
  by_cases h0 : c = 0
  · subst h0
    have e : (W - 0) % W = 0 := by rw [Nat.sub_zero, Nat.mod_self]
    rw [e]
    simp [Nat.mod_eq_of_lt hx, hx]
  · have e : (W - c) % W = W - c := Nat.mod_eq_of_lt (by omega)
    rw [e]
    refine ⟨rot_back W c x (by omega) hc hx, ?_⟩
    exact Nat.or_lt_two_pow (Nat.mod_lt _ (Nat.two_pow_pos W)) (Nat.lt_of_le_of_lt (Nat.div_le_self _ _) hx)

theorem rotl32_F (x y : Nat) (hx : x < 4294967296) (hy : y < 4294967296) : num_int32s.F 119 x y = (((rotl 32 4294967296 (y % 32) x : Nat) : Int), 0) := by
  have e : num_int32s.F 119 x y = ((bOr .u32 (IntKind.wrap .u32 ((x : Int) * 2 ^ (min (Int.toNat (Int.tmod y 32)) (IntKind.bits .u32)))) (Int.fdiv (x : Int) (2 ^ (min (Int.toNat (bAnd .u32 (IntKind.wrap .u32 ((bXor .u32 (IntKind.max .u32) (Int.tmod y 32)) + (1 : Int))) 31)) (IntKind.bits .u32))))), 0) := rfl
  have et : Int.tmod (y : Int) 32 = ((y % 32 : Nat) : Int) := rfl
  rw [e, et, other32 (y % 32) (by omega), Int.toNat_natCast, Int.toNat_natCast, shl32_n x _ (by omega), shr32_n x _ (by omega), bOr32_n _ _ (by omega) (Nat.lt_of_le_of_lt (Nat.div_le_self _ _) hx)]
  rfl
theorem rotr32_F (x y : Nat) (hx : x < 4294967296) (hy : y < 4294967296) : num_int32s.F 120 x y = (((rotr 32 4294967296 (y % 32) x : Nat) : Int), 0) := by
  have e : num_int32s.F 120 x y = ((bOr .u32 (Int.fdiv (x : Int) (2 ^ (min (Int.toNat (Int.tmod y 32)) (IntKind.bits .u32)))) (IntKind.wrap .u32 ((x : Int) * 2 ^ (min (Int.toNat (bAnd .u32 (IntKind.wrap .u32 ((bXor .u32 (IntKind.max .u32) (Int.tmod y 32)) + (1 : Int))) 31)) (IntKind.bits .u32))))), 0) := rfl
  have et : Int.tmod (y : Int) 32 = ((y % 32 : Nat) : Int) := rfl
  rw [e, et, other32 (y % 32) (by omega), Int.toNat_natCast, Int.toNat_natCast, shl32_n x _ (by omega), shr32_n x _ (by omega), bOr32_n _ _ (Nat.lt_of_le_of_lt (Nat.div_le_self _ _) hx) (by omega)]
  rfl

theorem and63 (y : Nat) (hy : y < 18446744073709551616) : bAnd .u64 (y : Int) 63 = ((y % 64 : Nat) : Int) := by
  have h := bAnd64_n y 63 hy (by omega)
  have h2 : (y &&& 63) = y % 64 := Nat.and_two_pow_sub_one_eq_mod y 6
  rw [h2] at h; exact h
theorem rotl64_F (x y : Nat) (hx : x < 18446744073709551616) (hy : y < 18446744073709551616) : num_int64s.F 137 x y = (((rotl 64 18446744073709551616 (y % 64) x : Nat) : Int), 0) := by
  have e : num_int64s.F 137 x y = ((bOr .u64 (IntKind.wrap .u64 ((x : Int) * 2 ^ (min (Int.toNat (bAnd .u64 y 63)) (IntKind.bits .u64)))) (Int.fdiv (x : Int) (2 ^ (min (Int.toNat (bAnd .u64 (IntKind.wrap .u64 ((bXor .u64 (IntKind.max .u64) (bAnd .u64 y 63)) + (1 : Int))) 63)) (IntKind.bits .u64))))), 0) := rfl
  rw [e, and63 y hy, other64 (y % 64) (by omega), Int.toNat_natCast, Int.toNat_natCast, shl64_n x _ (by omega), shr64_n x _ (by omega), bOr64_n _ _ (by omega) (Nat.lt_of_le_of_lt (Nat.div_le_self _ _) hx)]
  rfl
theorem rotr64_F (x y : Nat) (hx : x < 18446744073709551616) (hy : y < 18446744073709551616) : num_int64s.F 138 x y = (((rotr 64 18446744073709551616 (y % 64) x : Nat) : Int), 0) := by
  have e : num_int64s.F 138 x y = ((bOr .u64 (Int.fdiv (x : Int) (2 ^ (min (Int.toNat (bAnd .u64 y 63)) (IntKind.bits .u64)))) (IntKind.wrap .u64 ((x : Int) * 2 ^ (min (Int.toNat (bAnd .u64 (IntKind.wrap .u64 ((bXor .u64 (IntKind.max .u64) (bAnd .u64 y 63)) + (1 : Int))) 63)) (IntKind.bits .u64))))), 0) := rfl
  rw [e, and63 y hy, other64 (y % 64) (by omega), Int.toNat_natCast, Int.toNat_natCast, shl64_n x _ (by omega), shr64_n x _ (by omega), bOr64_n _ _ (Nat.lt_of_le_of_lt (Nat.div_le_self _ _) hx) (by omega)]
  rfl

end Go.Proofs.Qxb6500317aGreat.U
