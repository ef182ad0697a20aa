/-
  Floats: how high a rounding climbs.
-/
import Derived.Test.Qxb6500317aGreatFltD
set_option linter.unusedSimpArgs false
set_option linter.unusedVariables false
set_option maxRecDepth 100000
namespace Go.Proofs.Qxb6500317aGreat.U
open Go Go.Vc

theorem cut_even_le (s : Bool) (n d B : Nat) (h : n < B * 2 ^ d) : Ieee.Toward.even.cut s n d ≤ B := by
  unfold Ieee.Toward.cut
  simp only [Nat.shiftLeft_eq, Nat.one_mul]
  have hdiv : n / 2 ^ min d (n.log2 + 2) < B ∨ (n / 2 ^ min d (n.log2 + 2) = 0 ∧ 2 * (n % 2 ^ min d (n.log2 + 2)) < 2 ^ min d (n.log2 + 2)) := by
    rcases Nat.le_total d (n.log2 + 2) with hd | hd
    · left; rw [Nat.min_eq_left hd, Nat.div_lt_iff_lt_mul (Nat.two_pow_pos d)]; exact h
    · right
      rw [Nat.min_eq_right hd]
      have h1 : n < 2 ^ (n.log2 + 1) := Nat.lt_log2_self
      have h2 : 2 ^ (n.log2 + 2) = 2 * 2 ^ (n.log2 + 1) := by rw [Nat.pow_succ, Nat.mul_comm]
      rw [h2, Nat.div_eq_of_lt (by omega), Nat.mod_eq_of_lt (by omega)]
      omega
  generalize 2 ^ min d (n.log2 + 2) = g at *
  rcases hdiv with h1 | ⟨h1, h2⟩
  · have : ∀ b : Bool, b.toNat ≤ 1 := by decide
    have := this (decide (g < 2 * (n % g)) || (g == 2 * (n % g) && n / g % 2 == 1))
    omega
  · rw [h1]
    have e1 : decide (g < 2 * (n % g)) = false := decide_eq_false (by omega)
    have e2 : (g == 2 * (n % g)) = false := by rw [beq_eq_false_iff_ne]; omega
    rw [e1, e2]
    simp

/-- What is kept of a number fits the format's digits and one more. -/
theorem kept_le (f : Ieee.Format) (s : Bool) (m : Nat) (i last : Int) (h : i + m.log2 - f.fractionBits ≤ last) :
    Ieee.Toward.even.cut s (m <<< (i - last).toNat) (last - i).toNat ≤ 2 * f.binade := by
  apply cut_even_le
  have hm : m < 2 ^ (m.log2 + 1) := Nat.lt_log2_self
  have hb : 2 * f.binade = 2 ^ (f.fractionBits + 1) := by unfold Ieee.Format.binade; rw [Nat.pow_succ, Nat.mul_comm]
  rw [hb, Nat.shiftLeft_eq]
  have h1 : m * 2 ^ (i - last).toNat < 2 ^ (m.log2 + 1) * 2 ^ (i - last).toNat := Nat.mul_lt_mul_of_pos_right hm (Nat.two_pow_pos _)
  refine Nat.lt_of_lt_of_le h1 ?_
  rw [← Nat.pow_add, ← Nat.pow_add]
  exact Nat.pow_le_pow_right (by omega) (by omega)

/-- The rung of a rounded number. -/
def rungOf (f : Ieee.Format) (s : Bool) (m : Nat) (i : Int) : Nat :=
  (max (i + m.log2 - f.fractionBits) f.leastPlace - f.leastPlace).toNat * f.binade + Ieee.Toward.even.cut s (m <<< (i - max (i + m.log2 - f.fractionBits) f.leastPlace).toNat) (max (i + m.log2 - f.fractionBits) f.leastPlace - i).toNat

theorem write_number (f : Ieee.Format) (s : Bool) (m : Nat) (i : Int) : f.write (.number s m i) = f.word s (if m = 0 then 0 else min (rungOf f s m i) f.infRung) := by
  rw [Ieee.Format.write]
  unfold Ieee.Format.nearest rungOf
  simp only
  split <;> simp_all

theorem rung_le (f : Ieee.Format) (s : Bool) (m : Nat) (i : Int) : rungOf f s m i ≤ ((max (i + m.log2 - f.fractionBits) f.leastPlace - f.leastPlace).toNat + 2) * f.binade := by
  have := kept_le f s m i (max (i + m.log2 - f.fractionBits) f.leastPlace) (by omega)
  unfold rungOf
  rw [Nat.add_mul]
  omega

theorem read_finite (f : Ieee.Format) (s : Bool) (r : Nat) (h : r < f.infRung) : (f.read (f.word s r)).isInfinity = false := by
  have hi := f.infRung_lt
  unfold Ieee.Format.read
  simp only [word_rung f s r (by omega)]
  split
  · rfl
  · rfl

/-- A number whose last place lies low enough is rounded to a number. -/
theorem write_finite (f : Ieee.Format) (s : Bool) (m : Nat) (i : Int) (hb : 0 < f.infRung) (h : ((max (i + m.log2 - f.fractionBits) f.leastPlace - f.leastPlace).toNat + 2) * f.binade < f.infRung) :
    (f.read (f.write (.number s m i))).isInfinity = false := by
  rw [write_number]
  apply read_finite
  have := rung_le f s m i
  split
  · exact hb
  · have := Nat.min_le_left (rungOf f s m i) f.infRung
    omega

/-! ### From float32 to float64 -/
theorem single_bd (x : Nat) (s : Bool) (m : Nat) (i : Int) (h : Ieee.single.read x = .number s m i) : m < 16777216 ∧ -149 ≤ i ∧ i ≤ 104 := by
  have h1 : Ieee.single.signWeight = 2147483648 := by decide
  have h2 : Ieee.single.binade = 8388608 := by decide
  have h3 : Ieee.single.infRung = 2139095040 := by decide
  have h4 : Ieee.single.leastPlace = -149 := by decide
  unfold Ieee.Format.read at h
  simp only [h1, h2, h3, h4] at h
  split at h
  · simp only [Ieee.Datum.number.injEq] at h; omega
  · split at h
    · simp only [Ieee.Datum.number.injEq] at h; omega
    · split at h <;> simp at h

theorem log2_lt (m k : Nat) (h : m < 2 ^ (k + 1)) : m.log2 ≤ k := by
  by_cases hm : m = 0
  · subst hm; simp
  · have := (Nat.log2_lt hm).2 h
    omega

theorem promote_ok (x : Nat) (hx : (Ieee.single.read x).isNaN = false) : ∃ r, floatToFloatBits .f32 x .f64 = some r := by
  unfold floatToFloatBits
  rw [if_neg (by decide)]
  show ∃ r, (match Ieee.single.read x with | .nan _ _ => none | .infinity s => some (FloatKind.encode .f64 (.infinity s)) | .number s m e => if (FloatKind.decode .f64 (FloatKind.encode .f64 (.number s m e))).isInfinity then none else some (FloatKind.encode .f64 (.number s m e))) = some r
  cases hd : Ieee.single.read x with
  | nan s t => rw [hd] at hx; simp [Ieee.Datum.isNaN] at hx
  | infinity s => exact ⟨_, rfl⟩
  | number s m i =>
    obtain ⟨hm, hi0, hi⟩ := single_bd x s m i hd
    have hl := log2_lt m 23 (by omega)
    have hf : (Ieee.double.read (Ieee.double.write (.number s m i))).isInfinity = false := by
      apply write_finite
      · decide
      · have h2 : Ieee.double.infRung = 2047 * Ieee.double.binade := by decide
        have h3 : Ieee.double.leastPlace = -1074 := by decide
        have h4 : Ieee.double.fractionBits = 52 := rfl
        rw [h2]
        apply Nat.mul_lt_mul_of_pos_right _ (by decide)
        rw [h3, h4]; omega
    refine ⟨FloatKind.encode .f64 (.number s m i), ?_⟩
    simp only
    have hf' : (FloatKind.decode .f64 (FloatKind.encode .f64 (.number s m i))).isInfinity = false := hf
    rw [hf']; rfl

end Go.Proofs.Qxb6500317aGreat.U
