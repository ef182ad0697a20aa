/-
  Package num: the integers' operators: division.
-/
import Derived.Test.Qxb6500317aGreatIntC
set_option linter.unusedSimpArgs false
set_option linter.unusedVariables false
set_option maxRecDepth 100000
namespace Go.Proofs.Qxb6500317aGreat.U
open Go Go.Vc

/-- The word read as a signed number of the width with 2 * H words. -/
def sgn (H : Int) (x : Int) : Int := if H ≤ x then x - 2 * H else x

theorem wrap_i32_sgn (x : Int) (h0 : 0 ≤ x) (h1 : x < 4294967296) : IntKind.wrap .i32 x = sgn 2147483648 x := by
  have e : IntKind.wrap .i32 x = (let m := x % 4294967296; if (m : Int) ≥ 2147483648 then m - 4294967296 else m) := by simp [IntKind.wrap, IntKind.bits, IntKind.signed]
  rw [e]; unfold sgn; simp only; split <;> split <;> omega
theorem wrap_i64_sgn (x : Int) (h0 : 0 ≤ x) (h1 : x < 18446744073709551616) : IntKind.wrap .i64 x = sgn 9223372036854775808 x := by
  have e : IntKind.wrap .i64 x = (let m := x % 18446744073709551616; if (m : Int) ≥ 9223372036854775808 then m - 18446744073709551616 else m) := by simp [IntKind.wrap, IntKind.bits, IntKind.signed]
  rw [e]; unfold sgn; simp only; split <;> split <;> omega
theorem wrap_u32_i32 (x : Int) : IntKind.wrap .u32 (IntKind.wrap .i32 x) = x % 4294967296 := by
  have e : IntKind.wrap .i32 x = (let m := x % 4294967296; if (m : Int) ≥ 2147483648 then m - 4294967296 else m) := by simp [IntKind.wrap, IntKind.bits, IntKind.signed]
  rw [e, wrap_u32_mod]; simp only; split <;> omega
theorem wrap_u64_i64 (x : Int) : IntKind.wrap .u64 (IntKind.wrap .i64 x) = x % 18446744073709551616 := by
  have e : IntKind.wrap .i64 x = (let m := x % 18446744073709551616; if (m : Int) ≥ 9223372036854775808 then m - 18446744073709551616 else m) := by simp [IntKind.wrap, IntKind.bits, IntKind.signed]
  rw [e, wrap_u64_mod]; simp only; split <;> omega

theorem sgn_mod (H x : Int) (hH : 0 < H) (h0 : 0 ≤ x) (h1 : x < 2 * H) : sgn H x % (2 * H) = x := by
  unfold sgn
  split
  · rw [Int.sub_emod_right]; exact Int.emod_eq_of_lt h0 h1
  · exact Int.emod_eq_of_lt h0 h1

/-- Quotient times divisor and remainder, at the width. -/
theorem qr_mod (M q b r s : Int) (hq : q * b + r = s) (b' : Int) (hb : b' % M = b % M) : (q % M * b' + r % M) % M = s % M := by
  rw [Int.add_emod, Int.emod_emod_of_dvd _ (Int.dvd_refl M), Int.mul_emod, Int.emod_emod_of_dvd _ (Int.dvd_refl M), hb, ← Int.mul_emod, ← Int.add_emod, hq]

theorem tmod_abs_lt (s b : Int) (hb : b ≠ 0) : (Int.tmod s b).natAbs < b.natAbs := by
  rw [Int.natAbs_tmod]
  exact Nat.mod_lt _ (by omega)

theorem tmod_sign (s b : Int) : (0 ≤ s → 0 ≤ Int.tmod s b) ∧ (s ≤ 0 → Int.tmod s b ≤ 0) := by
  constructor
  · intro h; exact Int.tmod_nonneg b h
  · intro h
    have := Int.tmod_nonneg b (show 0 ≤ -s by omega)
    rw [Int.neg_tmod] at this
    omega

/-- The magnitude of a word. -/
theorem mag_sgn (H v : Int) (hH : 0 < H) (h0 : 0 ≤ v) (h1 : v < 2 * H) : (if H - 1 < v then (2 * H - v) % (2 * H) else v) = ((sgn H v).natAbs : Int) := by
  unfold sgn
  by_cases h : H ≤ v
  · rw [if_pos (by omega), if_pos h, Int.emod_eq_of_lt (by omega) (by omega)]; omega
  · rw [if_neg (by omega), if_neg h]; omega

theorem sgn_of_mod (H r : Int) (hH : 0 < H) (h0 : -H ≤ r) (h1 : r < H) : sgn H (r % (2 * H)) = r := by
  unfold sgn
  by_cases h : 0 ≤ r
  · rw [Int.emod_eq_of_lt h (by omega), if_neg (by omega)]
  · have e : r % (2 * H) = r + 2 * H := by
      rw [← Int.add_emod_right, Int.emod_eq_of_lt (by omega) (by omega)]
    rw [e, if_pos (by omega)]; omega

/-- What the law asks of a signed division. -/
theorem signed_ok (H x y : Int) (hH : 0 < H) (hx0 : 0 ≤ x) (hx1 : x < 2 * H) (hy0 : 0 < y) (hy1 : y < 2 * H) :
    (Int.tdiv (sgn H x) (sgn H y) % (2 * H) * y + Int.tmod (sgn H x) (sgn H y) % (2 * H)) % (2 * H) = x ∧
    (sgn H (Int.tmod (sgn H x) (sgn H y) % (2 * H))).natAbs < (sgn H y).natAbs ∧
    (Int.tmod (sgn H x) (sgn H y) % (2 * H) = 0 ∨ (H ≤ Int.tmod (sgn H x) (sgn H y) % (2 * H) ↔ H ≤ x)) := by
  have hy : sgn H y ≠ 0 := by unfold sgn; split <;> omega
  have hyb : (sgn H y).natAbs ≤ H.toNat := by unfold sgn; split <;> omega
  have habs := tmod_abs_lt (sgn H x) (sgn H y) hy
  have hid : Int.tdiv (sgn H x) (sgn H y) * sgn H y + Int.tmod (sgn H x) (sgn H y) = sgn H x := by
    rw [Int.mul_comm]; exact Int.mul_tdiv_add_tmod (sgn H x) (sgn H y)
  have hsg := tmod_sign (sgn H x) (sgn H y)
  have hrange : -H ≤ Int.tmod (sgn H x) (sgn H y) ∧ Int.tmod (sgn H x) (sgn H y) < H := by omega
  refine ⟨?_, ?_, ?_⟩
  · rw [qr_mod (2 * H) _ (sgn H y) _ _ hid y (by rw [sgn_mod H y hH (by omega) hy1, Int.emod_eq_of_lt (by omega) hy1]), sgn_mod H x hH hx0 hx1]
  · rw [sgn_of_mod H _ hH hrange.1 hrange.2]; exact habs
  · have hxs : (H ≤ x ↔ sgn H x < 0) := by unfold sgn; split <;> omega
    generalize Int.tmod (sgn H x) (sgn H y) = r at *
    by_cases h : 0 ≤ r
    · rw [Int.emod_eq_of_lt h (by omega)]
      by_cases hz : r = 0
      · exact .inl hz
      · right; rw [hxs]; constructor
        · intro hc; omega
        · intro hc; have := hsg.2 (by omega); omega
    · have e : r % (2 * H) = r + 2 * H := by
        rw [← Int.add_emod_right, Int.emod_eq_of_lt (by omega) (by omega)]
      right; rw [e, hxs]; constructor
      · intro _; rcases Int.lt_or_le (sgn H x) 0 with hc | hc
        · exact hc
        · have := hsg.1 hc; omega
      · intro _; omega

end Go.Proofs.Qxb6500317aGreat.U
