/-
  Floats: from float64 to float32, and the root of a float32.
-/
import Derived.Test.Qxb6500317aGreatFltG
set_option linter.unusedSimpArgs false
set_option linter.unusedVariables false
set_option maxRecDepth 100000
namespace Go.Proofs.Qxb6500317aGreat.U
open Go Go.Vc

/-- As cut_even_le, to half a unit. -/
theorem cut_even_half (s : Bool) (n d B : Nat) (h : 2 * n < (2 * B + 1) * 2 ^ d) : Ieee.Toward.even.cut s n d ≤ B := by
  unfold Ieee.Toward.cut
  simp only [Nat.shiftLeft_eq, Nat.one_mul]
  rcases Nat.le_total d (n.log2 + 2) with hd | hd
  · rw [Nat.min_eq_left hd]
    have hg := Nat.two_pow_pos d
    generalize 2 ^ d = g at *
    have hq := Nat.div_add_mod n g
    have hr := Nat.mod_lt n hg
    generalize n / g = q at *
    generalize n % g = r at *
    have hb : ∀ b : Bool, b.toNat ≤ 1 := by decide
    have h1 : q ≤ B := by
      rcases Nat.lt_or_ge B q with hlt | hge
      · have : g * (B + 1) ≤ g * q := Nat.mul_le_mul_left g hlt
        rw [Nat.mul_add, Nat.mul_one] at this
        have e : (2 * B + 1) * g = 2 * (g * B) + g := by rw [Nat.add_mul, Nat.one_mul, Nat.mul_assoc, Nat.mul_comm B g]
        rw [e] at h
        generalize g * q = u at *
        generalize g * B = v at *
        omega
      · exact hge
    rcases Nat.lt_or_ge q B with h2 | h2
    · have := hb (decide (g < 2 * r) || (g == 2 * r && q % 2 == 1))
      omega
    · have e : q = B := by omega
      have e' : (2 * B + 1) * g = 2 * (g * B) + g := by rw [Nat.add_mul, Nat.one_mul, Nat.mul_assoc, Nat.mul_comm B g]
      rw [e'] at h
      rw [e] at hq
      have hr2 : 2 * r < g := by
        generalize g * B = v at *
        omega
      have e1 : decide (g < 2 * r) = false := decide_eq_false (by omega)
      have e2 : (g == 2 * r) = false := by rw [beq_eq_false_iff_ne]; omega
      rw [e1, e2, e]
      simp
  · rw [Nat.min_eq_right hd]
    have h1 : n < 2 ^ (n.log2 + 1) := Nat.lt_log2_self
    have h2 : 2 ^ (n.log2 + 2) = 2 * 2 ^ (n.log2 + 1) := by rw [Nat.pow_succ, Nat.mul_comm]
    rw [h2, Nat.div_eq_of_lt (by omega), Nat.mod_eq_of_lt (by omega)]
    have e1 : decide (2 * 2 ^ (n.log2 + 1) < 2 * n) = false := decide_eq_false (by omega)
    have e2 : (2 * 2 ^ (n.log2 + 1) == 2 * n) = false := by rw [beq_eq_false_iff_ne]; omega
    rw [e1, e2]
    simp

/-- A word's rung bounds its number. -/
theorem read_top (f : Ieee.Format) (x : Nat) (s : Bool) (m : Nat) (i : Int) (R : Nat) (hR : 1 ≤ R) (h : f.read x = .number s m i) (hx : x % f.signWeight ≤ R * f.binade) : i + m.log2 ≤ f.leastPlace + R - 1 + f.fractionBits := by
  unfold Ieee.Format.read at h
  simp only at h
  split at h
  · rename_i h1
    simp only [Ieee.Datum.number.injEq] at h
    obtain ⟨_, h2, h3⟩ := h
    have hl : m.log2 ≤ f.fractionBits := log2_lt m f.fractionBits (by
      rw [Nat.pow_succ]; have : f.binade = 2 ^ f.fractionBits := rfl
      omega)
    omega
  · split at h
    · rename_i h1 h2
      simp only [Ieee.Datum.number.injEq] at h
      obtain ⟨_, h3, h4⟩ := h
      have hb : 0 < f.binade := Nat.two_pow_pos _
      have hl : m.log2 ≤ f.fractionBits := log2_lt m f.fractionBits (by
        have := Nat.mod_lt (x % f.signWeight) hb
        rw [Nat.pow_succ]; have : f.binade = 2 ^ f.fractionBits := rfl
        omega)
      have hq : x % f.signWeight / f.binade ≤ R := Nat.div_le_of_le_mul (by rw [Nat.mul_comm]; exact hx)
      omega
    · split at h <;> simp at h

theorem word_rung_of (f : Ieee.Format) (s : Bool) (m : Nat) (i : Int) : f.write (.number s m i) % f.signWeight ≤ rungOf f s m i := by
  rw [write_number]
  have hi := f.infRung_lt
  by_cases hm : m = 0
  · rw [if_pos hm, word_rung f s 0 (by omega)]; omega
  · rw [if_neg hm, word_rung f s _ (Nat.lt_of_le_of_lt (Nat.min_le_right _ _) hi)]
    exact Nat.min_le_left _ _

/-- Written and read again, a number climbs two places at most. -/
theorem write_top (f : Ieee.Format) (s t : Bool) (m n : Nat) (i j : Int) (T : Int) (hT : f.leastPlace ≤ T - f.fractionBits) (h : i + m.log2 ≤ T) (hr : f.read (f.write (.number s m i)) = .number t n j) : j + n.log2 ≤ T + 1 := by
  have h1 := word_rung_of f s m i
  have h2 := rung_le f s m i
  have h3 := read_top f (f.write (.number s m i)) t n j ((T - f.fractionBits - f.leastPlace).toNat + 2) (by omega) hr (Nat.le_trans (Nat.le_trans h1 h2) (Nat.mul_le_mul_right _ (by omega)))
  omega

theorem write_zero_read (f : Ieee.Format) : True := trivial

/-! ### The root -/
theorem rootFrom_le (n : Nat) : ∀ todo root, Ieee.Datum.rootFrom n todo root < root + 2 ^ todo
  | 0, root => by simp [Ieee.Datum.rootFrom]
  | todo + 1, root => by
    unfold Ieee.Datum.rootFrom
    simp only [Nat.shiftLeft_eq, Nat.one_mul]
    have e : 2 ^ (todo + 1) = 2 ^ todo + 2 ^ todo := by rw [Nat.pow_succ]; omega
    split
    · have := rootFrom_le n todo (root + 2 ^ todo); omega
    · have := rootFrom_le n todo root
      have hp := Nat.two_pow_pos todo
      omega

theorem log2_shift (m k : Nat) (hm : m ≠ 0) : (m <<< k).log2 ≤ m.log2 + k := by
  apply log2_lt
  rw [Nat.shiftLeft_eq]
  have h1 : m < 2 ^ (m.log2 + 1) := Nat.lt_log2_self
  have h2 : 2 ^ (m.log2 + k + 1) = 2 ^ (m.log2 + 1) * 2 ^ k := by rw [← Nat.pow_add]; congr 1; omega
  rw [h2]
  exact Nat.mul_lt_mul_of_pos_right h1 (Nat.two_pow_pos k)

theorem root_top (D : Nat) (s t : Bool) (m n : Nat) (i j : Int) (hm : m ≠ 0) (h : (Ieee.Datum.number s m i).root D = some (.number t n j)) : 2 * (j + n.log2) ≤ i + m.log2 + 2 := by
  unfold Ieee.Datum.root at h
  simp only [if_neg hm] at h
  split at h
  · cases h
  · simp only [Option.some.injEq, Ieee.Datum.number.injEq] at h
    obtain ⟨_, h2, h3⟩ := h
    generalize hmore : (2 * D - m.log2 + ((i - ((2 * D - m.log2 : Nat) : Int)) % 2).toNat) = more at h2 h3
    have hl := log2_shift m more hm
    have hw := rootFrom_le (m <<< more) ((m <<< more).log2 / 2 + 1) 0
    generalize Ieee.Datum.rootFrom (m <<< more) ((m <<< more).log2 / 2 + 1) 0 = whole at h2 hw
    generalize (m <<< more).log2 = L at hl hw
    have hb : ∀ b : Bool, b.toNat ≤ 1 := by decide
    have hb1 := hb (whole * whole != m <<< more)
    generalize (whole * whole != m <<< more).toNat = bit at h2 hb1
    have hn : n.log2 ≤ L / 2 + 1 := by
      apply log2_lt
      have e : 2 ^ (L / 2 + 1 + 1) = 2 * 2 ^ (L / 2 + 1) := by rw [Nat.pow_succ, Nat.mul_comm]
      rw [e]
      omega
    omega

/-! ### demote -/
theorem double_bd (x : Nat) (s : Bool) (m : Nat) (i : Int) (h : Ieee.double.read x = .number s m i) : m < 9007199254740992 ∧ -1074 ≤ i := by
  have h1 : Ieee.double.signWeight = 9223372036854775808 := by decide
  have h2 : Ieee.double.binade = 4503599627370496 := by decide
  have h3 : Ieee.double.infRung = 9218868437227405312 := by decide
  have h4 : Ieee.double.leastPlace = -1074 := by decide
  unfold Ieee.Format.read at h
  simp only [h1, h2, h3, h4] at h
  split at h
  · simp only [Ieee.Datum.number.injEq] at h; omega
  · split at h
    · simp only [Ieee.Datum.number.injEq] at h; omega
    · split at h <;> simp at h

theorem demote_some (x : Nat) (hn : (Ieee.double.read x).isNaN = false) (hf : ∀ s m i, Ieee.double.read x = .number s m i → rungOf Ieee.single s m i < Ieee.single.infRung) : ∃ r, floatToFloatBits .f64 x .f32 = some r := by
  unfold floatToFloatBits
  rw [if_neg (by decide)]
  show ∃ r, (match Ieee.double.read x with | .nan _ _ => none | .infinity s => some (FloatKind.encode .f32 (.infinity s)) | .number s m e => if (FloatKind.decode .f32 (FloatKind.encode .f32 (.number s m e))).isInfinity then none else some (FloatKind.encode .f32 (.number s m e))) = some r
  cases hd : Ieee.double.read x with
  | nan s t => rw [hd] at hn; simp [Ieee.Datum.isNaN] at hn
  | infinity s => exact ⟨_, rfl⟩
  | number s m i =>
    have h1 := hf s m i hd
    have hf' : (Ieee.single.read (Ieee.single.write (.number s m i))).isInfinity = false := by
      rw [write_number]
      apply read_finite
      split
      · decide
      · have := Nat.min_le_left (rungOf Ieee.single s m i) Ieee.single.infRung
        omega
    refine ⟨FloatKind.encode .f32 (.number s m i), ?_⟩
    simp only
    have hf'' : (FloatKind.decode .f32 (FloatKind.encode .f32 (.number s m i))).isInfinity = false := hf'
    rw [hf'']; rfl

theorem demote_low (s : Bool) (m : Nat) (i : Int) (h : i + m.log2 ≤ 126) : rungOf Ieee.single s m i < Ieee.single.infRung := by
  have h1 := rung_le Ieee.single s m i
  have h2 : Ieee.single.infRung = 255 * Ieee.single.binade := by decide
  have h3 : Ieee.single.leastPlace = -149 := by decide
  have h4 : Ieee.single.fractionBits = 23 := rfl
  rw [h2]
  refine Nat.lt_of_le_of_lt h1 (Nat.mul_lt_mul_of_pos_right ?_ (by decide))
  rw [h3, h4]; omega

/-- Below the tie at the top, and above it turned about. -/
theorem demote_high (s : Bool) (m : Nat) (i : Int) (hm : m ≠ 0) (hi : -1074 ≤ i) (hb : m * 2 ^ (i + 1074).toNat < 33554431 * 2 ^ 1177) : rungOf Ieee.single s m i < Ieee.single.infRung := by
  rcases Int.lt_or_le (i + m.log2) 127 with hl | hl
  · exact demote_low s m i (by omega)
  · have hlog : 2 ^ m.log2 ≤ m := Nat.log2_self_le hm
    have h127 : i + m.log2 = 127 := by
      rcases Int.lt_or_le (i + m.log2) 128 with h | h
      · omega
      · exfalso
        have h1 : 2 ^ m.log2 * 2 ^ (i + 1074).toNat ≤ m * 2 ^ (i + 1074).toNat := Nat.mul_le_mul_right _ hlog
        rw [← Nat.pow_add] at h1
        obtain ⟨E, hE⟩ : ∃ E : Nat, E = 25 + 1177 := ⟨_, rfl⟩
        have hexp : ∃ k, m.log2 + (i + 1074).toNat = E + k := ⟨m.log2 + (i + 1074).toNat - E, by omega⟩
        obtain ⟨k, hk⟩ := hexp
        rw [hk, Nat.pow_add, hE, Nat.pow_add 2 25 1177] at h1
        clear hk
        have hk := Nat.two_pow_pos k
        generalize 2 ^ 1177 = V at *
        have h2 : 2 ^ 25 * V * 1 ≤ 2 ^ 25 * V * 2 ^ k := Nat.mul_le_mul_left _ hk
        generalize m * 2 ^ (i + 1074).toNat = U at *
        generalize 2 ^ 25 * V * 2 ^ k = Z at *
        omega
    have h3 : Ieee.single.leastPlace = -149 := by decide
    have h4 : Ieee.single.fractionBits = 23 := rfl
    have e : max (i + m.log2 - Ieee.single.fractionBits) Ieee.single.leastPlace = 104 := by rw [h3, h4]; omega
    unfold rungOf
    rw [e, h3]
    have hc : Ieee.Toward.even.cut s (m <<< (i - 104).toNat) (104 - i).toNat ≤ 16777215 := by
      apply cut_even_half
      rw [Nat.shiftLeft_eq]
      have hs : ∃ t : Nat, (t : Int) = min i 104 + 1074 := ⟨(min i 104 + 1074).toNat, by omega⟩
      obtain ⟨t, ht⟩ := hs
      have e1 : (i + 1074).toNat = (i - 104).toNat + t := by omega
      obtain ⟨Q, hQ⟩ : ∃ Q : Nat, Q = 1177 := ⟨_, rfl⟩
      rw [← hQ] at hb
      have e2 : Q + 1 = (104 - i).toNat + t := by omega
      have h5 : 2 * (m * 2 ^ (i - 104).toNat) * 2 ^ t < (2 * 16777215 + 1) * 2 ^ (104 - i).toNat * 2 ^ t := by
        rw [Nat.mul_assoc, Nat.mul_assoc, ← Nat.pow_add, ← e1, Nat.mul_assoc, ← Nat.pow_add, ← e2, Nat.pow_succ]
        generalize m * 2 ^ (i + 1074).toNat = U at *
        generalize 2 ^ Q = V at *
        omega
      exact Nat.lt_of_mul_lt_mul_right h5
    have h6 : Ieee.single.infRung = 255 * Ieee.single.binade := by decide
    have h7 : Ieee.single.binade = 8388608 := by decide
    rw [h6, h7]
    generalize Ieee.Toward.even.cut s (m <<< (i - 104).toNat) (104 - i).toNat = c at *
    have : (104 - (-149 : Int)).toNat = 253 := by decide
    rw [this]; omega

end Go.Proofs.Qxb6500317aGreat.U
