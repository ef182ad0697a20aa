/-
  The model's one rounding: what lies below counts only as something.
-/
import Derived.Test.Qxb6500320aPlG
set_option linter.unusedSimpArgs false
set_option linter.unusedVariables false
set_option maxRecDepth 100000
namespace Go.Proofs.Qxb6500320a
open Go Go.Vc

theorem cutE_sticky (m d r g : Nat) (hr0 : 0 < r) (hr : r < 2 ^ d) (hg : 1 ≤ g) : cutE (m * 2 ^ d + r) (g + d) = cutE (2 * m + 1) (g + 1) := by
  have hp := Nat.two_pow_pos d
  have hpg := Nat.two_pow_pos g
  have hev : 2 ^ g % 2 = 0 := by
    obtain ⟨h, rfl⟩ : ∃ h, g = h + 1 := ⟨g - 1, by omega⟩
    rw [Nat.pow_succ]; omega
  have q1 : (m * 2 ^ d + r) / 2 ^ (g + d) = m / 2 ^ g := by
    rw [Nat.add_comm g d, Nat.pow_add, ← Nat.div_div_eq_div_mul, Nat.add_comm, Nat.add_mul_div_right _ _ hp, Nat.div_eq_of_lt hr, Nat.zero_add]
  have q2 : (2 * m + 1) / 2 ^ (g + 1) = m / 2 ^ g := by
    rw [Nat.add_comm g 1, Nat.pow_add, ← Nat.div_div_eq_div_mul, Nat.pow_one]
    congr 1; omega
  have r1 : (m * 2 ^ d + r) % 2 ^ (g + d) = m % 2 ^ g * 2 ^ d + r := by
    have h1 := Nat.div_add_mod (m * 2 ^ d + r) (2 ^ (g + d))
    rw [q1] at h1
    have h2 := Nat.div_add_mod m (2 ^ g)
    have e : 2 ^ (g + d) * (m / 2 ^ g) = 2 ^ g * (m / 2 ^ g) * 2 ^ d := by rw [Nat.pow_add, Nat.mul_right_comm]
    rw [e] at h1
    have h3 : m * 2 ^ d = 2 ^ g * (m / 2 ^ g) * 2 ^ d + m % 2 ^ g * 2 ^ d := by rw [← Nat.add_mul, h2]
    omega
  have r2 : (2 * m + 1) % 2 ^ (g + 1) = 2 * (m % 2 ^ g) + 1 := by
    have h1 := Nat.div_add_mod (2 * m + 1) (2 ^ (g + 1))
    rw [q2] at h1
    have h2 := Nat.div_add_mod m (2 ^ g)
    have e : 2 ^ (g + 1) * (m / 2 ^ g) = 2 * (2 ^ g * (m / 2 ^ g)) := by rw [Nat.pow_succ, Nat.mul_comm (2 ^ g) 2, Nat.mul_assoc]
    rw [e] at h1
    omega
  unfold cutE
  rw [q1, q2, r1, r2]
  have ha := Nat.mod_lt m hpg
  have e3 : 2 ^ (g + 1) = 2 * 2 ^ g := by rw [Nat.pow_succ, Nat.mul_comm]
  have e4 : 2 ^ (g + d) = 2 ^ g * 2 ^ d := Nat.pow_add _ _ _
  rw [e3, e4]
  generalize m % 2 ^ g = a at *
  generalize m / 2 ^ g = q
  generalize hG : 2 ^ g = G at *
  generalize 2 ^ d = D at *
  congr 2
  by_cases h : G ≤ 2 * a
  · have h1 : G * D ≤ 2 * a * D := Nat.mul_le_mul_right _ h
    rw [Nat.mul_assoc] at h1
    have d1 : decide (G * D < 2 * (a * D + r)) = true := decide_eq_true (by generalize G * D = X at *; generalize a * D = Y at *; omega)
    have d2 : decide (2 * G < 2 * (2 * a + 1)) = true := decide_eq_true (by omega)
    rw [d1, d2]; rfl
  · have h2 : 2 * a + 2 ≤ G := by omega
    have h1 : (2 * a + 2) * D ≤ G * D := Nat.mul_le_mul_right _ h2
    rw [Nat.add_mul, Nat.mul_assoc] at h1
    have d1 : decide (G * D < 2 * (a * D + r)) = false := decide_eq_false (by generalize G * D = X at *; generalize a * D = Y at *; omega)
    have d2 : decide (2 * G < 2 * (2 * a + 1)) = false := decide_eq_false (by omega)
    have d3 : (G * D == 2 * (a * D + r)) = false := by rw [beq_eq_false_iff_ne]; generalize G * D = X at *; generalize a * D = Y at *; omega
    have d4 : (2 * G == 2 * (2 * a + 1)) = false := by rw [beq_eq_false_iff_ne]; omega
    rw [d1, d2, d3, d4]

/-- A number of enough digits, and something below. -/
theorem write_sticky (f : Ieee.Format) (s : Bool) (m d r : Nat) (i : Int) (hm : 2 ^ (f.fractionBits + 1) ≤ m) (hr0 : 0 < r) (hr : r < 2 ^ d) : f.write (.number s (m * 2 ^ d + r) i) = f.write (.number s (2 * m + 1) (i + d - 1)) := by
  have hpf := Nat.two_pow_pos (f.fractionBits + 1)
  have hm0 : m ≠ 0 := by omega
  have hp := Nat.two_pow_pos d
  have hml : f.fractionBits + 1 ≤ m.log2 := (Nat.le_log2 hm0).2 hm
  have h1 : 2 ^ m.log2 ≤ m := Nat.log2_self_le hm0
  have h2 : m < 2 ^ (m.log2 + 1) := Nat.lt_log2_self
  have hmd : 0 < m * 2 ^ d := Nat.mul_pos (Nat.pos_of_ne_zero hm0) hp
  have l1 : (m * 2 ^ d + r).log2 = m.log2 + d := (Nat.log2_eq_iff (by omega)).2 ⟨by
    rw [Nat.pow_add]
    exact Nat.le_trans (Nat.mul_le_mul_right _ h1) (Nat.le_add_right _ _), by
    have e : m.log2 + d + 1 = m.log2 + 1 + d := by omega
    rw [e, Nat.pow_add]
    have h3 : (m + 1) * 2 ^ d ≤ 2 ^ (m.log2 + 1) * 2 ^ d := Nat.mul_le_mul_right _ h2
    rw [Nat.add_mul, Nat.one_mul] at h3
    omega⟩
  have l2 : (2 * m + 1).log2 = m.log2 + 1 := (Nat.log2_eq_iff (by omega)).2 ⟨by rw [Nat.pow_succ]; omega, by rw [Nat.pow_succ]; omega⟩
  rw [write_number, write_number, if_neg (by omega), if_neg (by omega)]
  have hrung : rungOf f s (m * 2 ^ d + r) i = rungOf f s (2 * m + 1) (i + d - 1) := by
    unfold rungOf
    rw [l1, l2]
    have e0 : i + ((m.log2 + d : Nat) : Int) - f.fractionBits = i + d - 1 + ((m.log2 + 1 : Nat) : Int) - f.fractionBits := by omega
    rw [e0]
    have hlast : i + d - 1 + ((m.log2 + 1 : Nat) : Int) - f.fractionBits ≤ max (i + d - 1 + ((m.log2 + 1 : Nat) : Int) - f.fractionBits) f.leastPlace := by omega
    generalize max (i + d - 1 + ((m.log2 + 1 : Nat) : Int) - f.fractionBits) f.leastPlace = last at *
    rw [cut_eq, cut_eq]
    have z1 : (i - last).toNat = 0 := by omega
    have z2 : (i + d - 1 - last).toNat = 0 := by omega
    obtain ⟨g, hg⟩ : ∃ g : Nat, (g : Int) = last - i - d := ⟨(last - i - d).toNat, by omega⟩
    have z3 : (last - i).toNat = g + d := by omega
    have z4 : (last - (i + d - 1)).toNat = g + 1 := by omega
    rw [z1, z2, z3, z4, Nat.shiftLeft_zero, Nat.shiftLeft_zero, cutE_sticky m d r g hr0 hr (by omega)]
  rw [hrung]

/-- A number, and half a unit below it for whatever lies there. -/
def rd (f : Ieee.Format) (s : Bool) (m : Nat) (e : Int) (st : Bool) : Nat := f.write (.number s (2 * m + st.toNat) (e - 1))

theorem rd_exact (f : Ieee.Format) (s : Bool) (m : Nat) (e : Int) : rd f s m e false = f.write (.number s m e) := by
  unfold rd
  have := write_scale f s m 1 e
  rw [Nat.pow_one, Nat.mul_comm m 2] at this
  exact this
theorem rd_sticky (f : Ieee.Format) (s : Bool) (m d r : Nat) (i : Int) (hm : 2 ^ (f.fractionBits + 1) ≤ m ∨ r = 0) (hr : r < 2 ^ d) : f.write (.number s (m * 2 ^ d + r) i) = rd f s m (i + d) (r != 0) := by
  by_cases h0 : r = 0
  · subst h0
    have e : ((0 : Nat) != 0) = false := rfl
    rw [e, rd_exact, Nat.add_zero]
    have := write_scale f s m d (i + d)
    have e2 : i + (d : Int) - d = i := by omega
    rw [e2] at this
    exact this
  · have e : (r != 0) = true := by rw [bne_iff_ne]; exact h0
    rw [e, write_sticky f s m d r i (by rcases hm with h | h; exact h; exact absurd h h0) (by omega) hr]
    rfl

/-- Lifted. -/
theorem rd_lift (f : Ieee.Format) (s : Bool) (m k : Nat) (e : Int) (st : Bool) (hm : st = true → 2 ^ (f.fractionBits + 1) ≤ m) : rd f s (m * 2 ^ k) (e - k) st = rd f s m e st := by
  cases st with
  | false => rw [rd_exact, rd_exact, write_scale]
  | true =>
    rcases Nat.eq_zero_or_pos k with h | h
    · subst h; simp
    · -- both are m and something below
      have h1 := write_sticky f s m (k + 1) 1 (e - k - 1) (hm rfl) (by omega) (Nat.one_lt_two_pow (by omega))
      unfold rd
      have e1 : 2 * (m * 2 ^ k) + true.toNat = m * 2 ^ (k + 1) + 1 := by rw [Nat.pow_succ, ← Nat.mul_assoc m]; show 2 * (m * 2 ^ k) + 1 = _; omega
      have e2 : e - (k : Int) - 1 + ((k + 1 : Nat) : Int) - 1 = e - 1 := by omega
      rw [e1, h1, e2]; rfl

/-- The model's cut: with the digit below and what lies below that. -/
def upq (q rem half : Nat) (st : Bool) : Nat := q + (decide (half < rem) || (rem == half && (st || q % 2 == 1))).toNat

theorem cutE_model (m c : Nat) (st : Bool) : cutE (2 * m + st.toNat) (c + 2) = upq (m / 2 ^ (c + 1)) (m % 2 ^ (c + 1)) (2 ^ c) st := by
  have hp := Nat.two_pow_pos (c + 1)
  have hs : st.toNat ≤ 1 := by cases st <;> decide
  have q2 : (2 * m + st.toNat) / 2 ^ (c + 2) = m / 2 ^ (c + 1) := by
    rw [show c + 2 = 1 + (c + 1) by omega, Nat.pow_add, ← Nat.div_div_eq_div_mul, Nat.pow_one]
    congr 1; omega
  have r2 : (2 * m + st.toNat) % 2 ^ (c + 2) = 2 * (m % 2 ^ (c + 1)) + st.toNat := by
    have h1 := Nat.div_add_mod (2 * m + st.toNat) (2 ^ (c + 2))
    rw [q2] at h1
    have h2 := Nat.div_add_mod m (2 ^ (c + 1))
    have e : 2 ^ (c + 2) * (m / 2 ^ (c + 1)) = 2 * (2 ^ (c + 1) * (m / 2 ^ (c + 1))) := by rw [Nat.pow_succ 2 (c + 1), Nat.mul_comm (2 ^ (c + 1)) 2, Nat.mul_assoc]
    rw [e] at h1
    omega
  unfold cutE upq
  rw [q2, r2]
  have e3 : 2 ^ (c + 2) = 4 * 2 ^ c := by rw [Nat.pow_succ, Nat.pow_succ]; omega
  rw [e3]
  generalize m % 2 ^ (c + 1) = rem
  generalize m / 2 ^ (c + 1) = q
  generalize 2 ^ c = h
  congr 2
  have d1 : decide (4 * h < 2 * (2 * rem + st.toNat)) = (decide (h < rem) || (rem == h && st)) := by
    rw [Bool.eq_iff_iff, decide_eq_true_iff, Bool.or_eq_true, decide_eq_true_iff, Bool.and_eq_true, beq_iff_eq]
    cases st <;> simp <;> omega
  have d2 : (4 * h == 2 * (2 * rem + st.toNat)) = (rem == h && !st) := by
    rw [Bool.eq_iff_iff, beq_iff_eq, Bool.and_eq_true, beq_iff_eq]
    cases st <;> simp <;> omega
  rw [d1, d2]
  cases decide (h < rem) <;> cases (rem == h) <;> cases st <;> cases (q % 2 == 1) <;> rfl

end Go.Proofs.Qxb6500320a
