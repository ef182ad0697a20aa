/-
  KeepsPlain: whole numbers of floats, for any format.
-/
import Derived.Test.Qxb6500320aPlE
set_option linter.unusedSimpArgs false
set_option linter.unusedVariables false
set_option maxRecDepth 100000
namespace Go.Proofs.Qxb6500320a
open Go Go.Vc

theorem cut_add (v B K : Nat) (hB : B % 2 = 0) : cutE (v + B * 2 ^ K) K = B + cutE v K := by
  have hp := Nat.two_pow_pos K
  unfold cutE
  rw [Nat.add_mul_div_right _ _ hp, Nat.add_mul_mod_self_right]
  have e : (v / 2 ^ K + B) % 2 = v / 2 ^ K % 2 := by omega
  rw [e]
  omega

theorem cutE_bound (v B K : Nat) (h : v < B * 2 ^ K) : cutE v K ≤ B := cutE_le v K B h

/-- The rung of a number with its last place at nought. -/
theorem big_rung (f : Ieee.Format) (E : Nat) (hE : f.infRung = E * f.binade) (K : Nat) (hK : (K : Int) = -f.leastPlace) (hKE : K + 4 ≤ E) (hfb : 1 ≤ f.fractionBits) (v : Nat) (hv : v < f.binade * 2 ^ K) :
    ∃ r, f.write (.number false (v + f.binade * 2 ^ K) f.leastPlace) = f.word false r ∧ r < f.infRung ∧ val f r = (f.binade + cutE v K) * 2 ^ K := by
  have hb : 0 < f.binade := Nat.two_pow_pos _
  have hbd : f.binade = 2 ^ f.fractionBits := rfl
  have hp := Nat.two_pow_pos K
  have hpos : 0 < f.binade * 2 ^ K := Nat.mul_pos hb hp
  have hB2 : f.binade % 2 = 0 := by
    obtain ⟨g, hg⟩ : ∃ g, f.fractionBits = g + 1 := ⟨f.fractionBits - 1, by omega⟩
    rw [hbd, hg, Nat.pow_succ]; omega
  have hne : v + f.binade * 2 ^ K ≠ 0 := by omega
  have hl : (v + f.binade * 2 ^ K).log2 = f.fractionBits + K := (Nat.log2_eq_iff hne).2 ⟨by rw [Nat.pow_add, ← hbd]; omega, by
    have e : f.fractionBits + K + 1 = 1 + (f.fractionBits + K) := by omega
    rw [e, Nat.pow_add 2 1, Nat.pow_add 2 f.fractionBits, ← hbd, Nat.pow_one]; omega⟩
  have hle := cutE_bound v f.binade K hv
  have hr : rungOf f false (v + f.binade * 2 ^ K) f.leastPlace = K * f.binade + (f.binade + cutE v K) := by
    unfold rungOf
    rw [hl]
    have em : max (f.leastPlace + ((f.fractionBits + K : Nat) : Int) - f.fractionBits) f.leastPlace = 0 := by omega
    rw [em, cut_eq]
    have z1 : (0 - f.leastPlace).toNat = K := by omega
    have z2 : (f.leastPlace - 0).toNat = 0 := by omega
    rw [z1, z2, Nat.shiftLeft_zero, cut_add _ _ _ hB2]
  have hlt : K * f.binade + (f.binade + cutE v K) < f.infRung := by
    rw [hE]
    have : (K + 4) * f.binade ≤ E * f.binade := Nat.mul_le_mul_right _ hKE
    rw [Nat.add_mul] at this
    omega
  refine ⟨K * f.binade + (f.binade + cutE v K), ?_, hlt, ?_⟩
  · rw [write_number, if_neg hne, hr, Nat.min_eq_left (Nat.le_of_lt hlt)]
  · unfold val
    rw [if_neg (by have := Nat.zero_le (K * f.binade); omega)]
    rcases Nat.lt_or_ge (cutE v K) f.binade with h | h
    · have e : K * f.binade + (f.binade + cutE v K) = cutE v K + (K + 1) * f.binade := by rw [Nat.add_mul]; omega
      rw [e, Nat.add_mul_mod_self_right, Nat.mod_eq_of_lt h, Nat.add_mul_div_right _ _ hb, Nat.div_eq_of_lt h]
      congr 2; omega
    · have hc : cutE v K = f.binade := by omega
      have e : K * f.binade + (f.binade + cutE v K) = 0 + (K + 2) * f.binade := by rw [hc, Nat.add_mul]; omega
      rw [e, Nat.add_mul_mod_self_right, Nat.zero_mod, Nat.add_mul_div_right _ _ hb, Nat.zero_div, hc]
      have e2 : 0 + (K + 2) - 1 = K + 1 := by omega
      rw [e2, Nat.pow_succ, Nat.add_zero, Nat.mul_comm (2 ^ K) 2, ← Nat.mul_assoc]
      congr 1; omega

theorem hi_word (f : Ieee.Format) (K : Nat) (hK : (K : Int) = -f.leastPlace) (r n : Nat) (hr : r < f.infRung) (hv : val f r = n * 2 ^ K) : HI f (f.word false r) (n : Int) := by
  have hsw : r < f.signWeight := Nat.lt_trans hr f.infRung_lt
  obtain ⟨p, a, h1, h2, h3⟩ := read_val f (f.word false r) (by rw [rung_word f false r hsw]; exact hr)
  rw [rung_word f false r hsw, hv] at h3
  rw [sgb_word f false r hsw] at h1
  refine ⟨p, a, ?_, h2, ?_⟩
  · rw [decide_eq_false (by omega)]; exact h1
  · rw [h3, Int.natAbs_natCast]
    congr 2; omega

/-- Adding and taking away the power of two that has no places below nought. -/
theorem up_gen (f : Ieee.Format) (E : Nat) (hE : f.infRung = E * f.binade) (K : Nat) (hK : (K : Int) = -f.leastPlace) (hKE : K + 4 ≤ E) (hfb : 1 ≤ f.fractionBits) (m c : Nat) (hm : m < f.infRung) (hV : val f m < f.binade * 2 ^ K) (hc : f.read c = .number false f.binade 0) :
    ∃ r, f.add (f.word false m) c = some r ∧ f.sub r c = some (f.write (.number false (cutE (val f m) K) 0)) := by
  have hb : 0 < f.binade := Nat.two_pow_pos _
  have hsw : m < f.signWeight := Nat.lt_trans hm f.infRung_lt
  obtain ⟨p, a, h1, h2, h3⟩ := read_val f (f.word false m) (by rw [rung_word f false m hsw]; exact hm)
  rw [rung_word f false m hsw] at h3
  rw [sgb_word f false m hsw] at h1
  obtain ⟨r, w1, w2, w3⟩ := big_rung f E hE K hK hKE hfb (val f m) hV
  refine ⟨f.word false r, ?_, ?_⟩
  · unfold Ieee.Format.add
    rw [h1, hc]
    simp only [Ieee.Datum.sum, Ieee.signed, Bool.false_eq_true, if_false, Nat.shiftLeft_eq, Option.map_some]
    rw [← Int.natCast_add]
    have hpos : 0 < f.binade * 2 ^ (0 - min a 0).toNat := Nat.mul_pos hb (Nat.two_pow_pos _)
    have hne : ((p * 2 ^ (a - min a 0).toNat + f.binade * 2 ^ (0 - min a 0).toNat : Nat) : Int) ≠ 0 := by
      generalize p * 2 ^ (a - min a 0).toNat = A at *
      generalize f.binade * 2 ^ (0 - min a 0).toNat = C at *
      omega
    rw [if_neg hne, Int.natAbs_natCast, decide_eq_false (by
      generalize p * 2 ^ (a - min a 0).toNat = A at *
      generalize f.binade * 2 ^ (0 - min a 0).toNat = C at *
      omega), ← w1]
    congr 1
    apply write_same f false _ _ _ _ f.leastPlace (by omega) (Int.le_refl _)
    have z : (f.leastPlace - f.leastPlace).toNat = 0 := by omega
    obtain ⟨t, ht⟩ : ∃ t : Nat, (t : Int) = min a 0 - f.leastPlace := ⟨(min a 0 - f.leastPlace).toNat, by omega⟩
    have e1 : (min a 0 - f.leastPlace).toNat = t := by omega
    have e3 : (a - min a 0).toNat + t = (a - f.leastPlace).toNat := by omega
    have e4 : (0 - min a 0).toNat + t = K := by omega
    rw [z, e1, Nat.add_mul, Nat.mul_assoc, Nat.mul_assoc, ← Nat.pow_add, ← Nat.pow_add, e3, e4, h3, Nat.pow_zero, Nat.mul_one]
  · have H1 := hi_word f K hK r (f.binade + cutE (val f m) K) w2 w3
    have H2 : HI f c (f.binade : Int) := by
      refine ⟨f.binade, 0, ?_, by omega, ?_⟩
      · rw [decide_eq_false (by omega)]; exact hc
      · rw [Int.natAbs_natCast]; congr 2; omega
    rw [hi_sub f (by omega) _ _ _ _ H1 H2]
    have e : ((f.binade + cutE (val f m) K : Nat) : Int) - (f.binade : Int) = ((cutE (val f m) K : Nat) : Int) := by omega
    rw [e, decide_eq_false (by omega), Int.natAbs_natCast]

/-- What is left of a float above its whole part. -/
theorem frac_gen (f : Ieee.Format) (E : Nat) (hE : f.infRung = E * f.binade) (hE1 : 2 ≤ E) (K : Nat) (hK : (K : Int) = -f.leastPlace) (hKE : K + 4 ≤ E) (m rt T : Nat) (hm : m < f.infRung) (hrt : rt < f.infRung) (hT : val f rt = T * 2 ^ K) (hTe : T = val f m / 2 ^ K) (hfr : val f m % 2 ^ K ≠ 0) :
    ∃ r, f.sub (f.word false m) (f.word false rt) = some (f.word false r) ∧ r < f.infRung ∧ val f r = val f m % 2 ^ K := by
  have hp := Nat.two_pow_pos K
  have hsw : m < f.signWeight := Nat.lt_trans hm f.infRung_lt
  have hsw2 : rt < f.signWeight := Nat.lt_trans hrt f.infRung_lt
  obtain ⟨p, a, h1, h2, h3⟩ := read_val f (f.word false m) (by rw [rung_word f false m hsw]; exact hm)
  rw [rung_word f false m hsw] at h3
  rw [sgb_word f false m hsw] at h1
  obtain ⟨q, b, g1, g2, g3⟩ := read_val f (f.word false rt) (by rw [rung_word f false rt hsw2]; exact hrt)
  rw [rung_word f false rt hsw2, hT] at g3
  rw [sgb_word f false rt hsw2] at g1
  obtain ⟨hpn, _⟩ := read_norm f _ _ _ _ h1
  have hdm := Nat.div_add_mod (val f m) (2 ^ K)
  rw [← hTe, Nat.mul_comm] at hdm
  have hml := Nat.mod_lt (val f m) hp
  -- the places below nought
  have ha0 : a < 0 := by
    rcases Int.lt_or_le a 0 with h | h
    · exact h
    · exfalso
      apply hfr
      have e : (a - f.leastPlace).toNat = a.toNat + K := by omega
      rw [← h3, e, Nat.pow_add, ← Nat.mul_assoc, Nat.mul_mod_left]
  obtain ⟨A, hA⟩ : ∃ A : Nat, (a - f.leastPlace).toNat = A := ⟨_, rfl⟩
  obtain ⟨G, hG⟩ : ∃ G : Nat, K = A + G := ⟨K - A, by omega⟩
  rw [hA] at h3
  -- the fraction in the float's own units
  have hfrac : val f m % 2 ^ K = (p - T * 2 ^ G) * 2 ^ A := by
    have e1 : T * 2 ^ K = T * 2 ^ G * 2 ^ A := by rw [hG, Nat.mul_assoc, ← Nat.pow_add, Nat.add_comm]
    rw [Nat.sub_mul, h3, ← e1]; omega
  have hpT : T * 2 ^ G ≤ p := by
    have e1 : T * 2 ^ K = T * 2 ^ G * 2 ^ A := by rw [hG, Nat.mul_assoc, ← Nat.pow_add, Nat.add_comm]
    have : T * 2 ^ G * 2 ^ A ≤ p * 2 ^ A := by rw [← e1, h3]; omega
    exact Nat.le_of_mul_le_mul_right this (Nat.two_pow_pos A)
  have hl : (p - T * 2 ^ G).log2 ≤ f.fractionBits := log2_lt _ _ (by
    rw [Nat.pow_succ]; have : f.binade = 2 ^ f.fractionBits := rfl
    omega)
  obtain ⟨r, x1, x2, x3⟩ := exact_rung f (p - T * 2 ^ G) a E hE (by omega) (by omega) h2 (by omega)
  rw [hA, ← hfrac] at x2
  refine ⟨r, ?_, x1, x2⟩
  unfold Ieee.Format.sub
  rw [h1, g1]
  simp only [Ieee.Datum.opposite, Ieee.Datum.sum, Ieee.signed, Bool.false_eq_true, if_false, Bool.not_false, if_true, Nat.shiftLeft_eq, Option.map_some]
  -- the difference at the lower of the two places
  obtain ⟨t, ht⟩ : ∃ t : Nat, (t : Int) = min a b - f.leastPlace := ⟨(min a b - f.leastPlace).toNat, by omega⟩
  have hP : p * 2 ^ (a - min a b).toNat * 2 ^ t = val f m := by
    rw [Nat.mul_assoc, ← Nat.pow_add, ← h3]; congr 2; omega
  have hQ : q * 2 ^ (b - min a b).toNat * 2 ^ t = T * 2 ^ K := by
    rw [Nat.mul_assoc, ← Nat.pow_add, ← g3]; congr 2; omega
  generalize p * 2 ^ (a - min a b).toNat = P at *
  generalize q * 2 ^ (b - min a b).toNat = Q at *
  have hlt : Q < P := by
    have : Q * 2 ^ t < P * 2 ^ t := by rw [hP, hQ]; omega
    exact Nat.lt_of_mul_lt_mul_right this
  have e : (P : Int) + -(Q : Int) = ((P - Q : Nat) : Int) := by omega
  rw [e, if_neg (by omega), Int.natAbs_natCast, decide_eq_false (by omega), ← x3 false]
  congr 1
  apply write_same f false _ _ _ _ f.leastPlace (by omega) h2
  have e1 : (min a b - f.leastPlace).toNat = t := by omega
  rw [e1, hA, ← hfrac, Nat.sub_mul, hP, hQ]; omega

/-- Half of a whole number that is even. -/
theorem half_gen (f : Ieee.Format) (K : Nat) (hK : (K : Int) = -f.leastPlace) (s : Bool) (R u c : Nat) (hR : R < f.infRung) (hv : val f R = 2 * u * 2 ^ K) (j : Int) (hc : f.read c = .number false f.binade j) (hj : f.leastPlace ≤ j) (hj1 : f.binade * 2 ^ (j + f.fractionBits + 1).toNat = f.binade) (hj2 : j + f.fractionBits + 1 = 0) :
    f.mul (f.word s R) c = some (f.write (.number s u 0)) := by
  have hsw : R < f.signWeight := Nat.lt_trans hR f.infRung_lt
  obtain ⟨p, a, h1, h2, h3⟩ := read_val f (f.word s R) (by rw [rung_word f s R hsw]; exact hR)
  rw [rung_word f s R hsw, hv] at h3
  rw [sgb_word f s R hsw] at h1
  have hbd : f.binade = 2 ^ f.fractionBits := rfl
  unfold Ieee.Format.mul
  rw [h1, hc]
  simp only [Ieee.Datum.product, Option.map_some, Bool.xor_false]
  congr 1
  apply write_same f s _ _ _ _ (f.leastPlace + j) (by omega) (by omega)
  have e1 : (a + j - (f.leastPlace + j)).toNat = (a - f.leastPlace).toNat := by omega
  have e2 : (0 - (f.leastPlace + j)).toNat = K + (f.fractionBits + 1) := by omega
  rw [e1, e2, Nat.mul_right_comm, h3, hbd, Nat.pow_add, Nat.pow_succ]
  generalize 2 ^ K = X
  generalize 2 ^ f.fractionBits = Y
  rw [Nat.mul_comm 2 u, Nat.mul_assoc, Nat.mul_assoc]
  congr 1
  rw [Nat.mul_comm 2, Nat.mul_assoc]

end Go.Proofs.Qxb6500320a
