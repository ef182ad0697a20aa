/-
  The root of a float32: rounded twice, rounded once.
-/
import Derived.Test.Qxb6500320aRfH
set_option linter.unusedSimpArgs false
set_option linter.unusedVariables false
set_option maxRecDepth 100000
namespace Go.Proofs.Qxb6500320a
open Go Go.Vc

/-- The single root of a positive number. -/
theorem sqrt_word32 (m : Nat) (i : Int) (hm : m ≠ 0) (hm1 : m < 16777216) (hi0 : -149 ≤ i) (hi1 : i ≤ 104) : ∃ r mr er, ((Ieee.Datum.number false m i).root (Ieee.single.fractionBits + 2)).map Ieee.single.write = some (Ieee.single.word false r) ∧ r < Ieee.single.infRung ∧
    Ieee.single.read (Ieee.single.word false r) = .number false mr er ∧ 8388608 ≤ mr ∧ mr < 16777216 ∧ RootOk 8388608 m i mr er := by
  have hl := log2_lt m 23 (by omega)
  have sfb : Ieee.single.fractionBits = 23 := rfl
  have sbin : Ieee.single.binade = 8388608 := by decide
  rw [sfb]
  obtain ⟨more, whole, st, P, h1, h2, h3, h4, h5, w1, w2, h6⟩ := root_parts (23 + 2) m i hm (by omega)
  have hst : st ≤ 1 := by omega
  have hW0 : 2 ^ 25 ≤ whole := by
    apply le_of_sq
    have : (2 : Nat) ^ 25 * 2 ^ 25 = 2 ^ (2 * (23 + 2)) := by decide
    omega
  have hW1 : whole < 2 ^ 26 := by
    rcases Nat.lt_or_ge whole (2 ^ 26) with h | h
    · exact h
    · have := sq_le h
      have e : (2 : Nat) ^ 26 * 2 ^ 26 = 2 ^ (2 * (23 + 2) + 2) := by decide
      omega
  have slp' := slp
  obtain ⟨r, k, j, q1, q2, q3, q4, q5, q6, q7⟩ := write_digits Ieee.single (2 * whole + st) 2 (P - 1) (P - 1 + 3 + 149).toNat (by rw [slp]; omega) (by rw [sfb]; omega) (by rw [sfb]; omega) (by rw [sE]; exact Nat.mul_le_mul_right _ (by omega))
  obtain ⟨b1, b2⟩ := cut_bd (2 * whole + st) 2
  rw [sbin] at q5 q6 q7
  refine ⟨r, k, j, by rw [h1]; simp only [Option.map_some]; rw [q1], q3, q4, q5, q6, ?_⟩
  refine root_ok m whole st more (cutE (2 * whole + st) (2 + 1)) i P 8388608 (by decide) h2 (by omega) w1 w2 h6 b1 b2 ?_ (by omega) k j q7
  omega

theorem odd_sq (a : Nat) (h : a % 2 = 1) : a * a % 2 = 1 := by rw [Nat.mul_mod, h]
theorem pow_even (m sh : Nat) (h : 1 ≤ sh) : m * 2 ^ sh % 2 = 0 := by
  obtain ⟨s, rfl⟩ : ∃ s, sh = s + 1 := ⟨sh - 1, by omega⟩
  rw [Nat.pow_succ, ← Nat.mul_assoc]; exact Nat.mul_mod_left _ _

/-- One root alone is nearest. -/
theorem root_uniq (B m : Nat) (i : Int) (mr mr' : Nat) (er er' : Int) (hB : 4 ≤ B) (hm : m < 2 * B) (h1 : B ≤ mr) (h2 : mr < 2 * B) (h1' : B ≤ mr') (h2' : mr' < 2 * B) (he : er ≤ er') (h : RootOk B m i mr er) (h' : RootOk B m i mr' er') : mr = mr' ∧ er = er' := by
  obtain ⟨sh, a0, a1, a2, a3⟩ := h
  obtain ⟨sh', b0, b1, b2, b3⟩ := h'
  have hsh' : 1 ≤ sh' := by
    rcases Nat.eq_zero_or_pos sh' with h | h
    · exfalso
      subst h
      rw [Nat.pow_zero, Nat.mul_one] at b1
      have : (2 * B - 1) * (2 * B - 1) ≤ (2 * mr' - 1) * (2 * mr' - 1) := sq_le (by omega)
      have h3 : 3 * (2 * B - 1) ≤ (2 * B - 1) * (2 * B - 1) := Nat.mul_le_mul_right _ (by omega)
      generalize (2 * B - 1) * (2 * B - 1) = z at *
      generalize (2 * mr' - 1) * (2 * mr' - 1) = y at *
      omega
    · exact h
  have hsh : 1 ≤ sh := by omega
  have hev := pow_even m sh hsh
  by_cases hc : er = er'
  · have hs : sh = sh' := by omega
    subst hs
    refine ⟨?_, hc⟩
    rcases Nat.lt_trichotomy mr mr' with h | h | h
    · exfalso
      have : (2 * mr + 1) * (2 * mr + 1) ≤ (2 * mr' - 1) * (2 * mr' - 1) := sq_le (by omega)
      have := odd_sq (2 * mr + 1) (by omega)
      generalize (2 * mr + 1) * (2 * mr + 1) = z at *
      generalize (2 * mr' - 1) * (2 * mr' - 1) = y at *
      omega
    · exact h
    · exfalso
      have : (2 * mr' + 1) * (2 * mr' + 1) ≤ (2 * mr - 1) * (2 * mr - 1) := sq_le (by omega)
      have := odd_sq (2 * mr' + 1) (by omega)
      generalize (2 * mr' + 1) * (2 * mr' + 1) = z at *
      generalize (2 * mr - 1) * (2 * mr - 1) = y at *
      omega
  · exfalso
    have hs : sh' + 2 ≤ sh := by omega
    have hle : m * 2 ^ (sh' + 2) ≤ m * 2 ^ sh := Nat.mul_le_mul_left _ (Nat.pow_le_pow_right (by decide) hs)
    have htop : (2 * mr + 1) * (2 * mr + 1) ≤ (4 * B - 1) * (4 * B - 1) := sq_le (by omega)
    have hodd := odd_sq (4 * B - 1) (by omega)
    by_cases hb : mr' = B
    · have h3 := b3 hb
      rw [hb] at h3
      generalize (4 * B - 1) * (4 * B - 1) = z at *
      generalize (2 * mr + 1) * (2 * mr + 1) = y at *
      omega
    · have h4 : (2 * B + 1) * (2 * B + 1) ≤ (2 * mr' - 1) * (2 * mr' - 1) := sq_le (by omega)
      have h5 : m * 2 ^ (sh' + 2) = 4 * (m * 2 ^ sh') := by rw [Nat.pow_add, ← Nat.mul_assoc, Nat.mul_comm]
      have h6 : (4 * B - 1) * (4 * B - 1) < (4 * B + 2) * (4 * B + 2) := Nat.mul_lt_mul_of_lt_of_le (by omega) (by omega) (by omega)
      have h7 : (4 * B + 2) * (4 * B + 2) = 4 * ((2 * B + 1) * (2 * B + 1)) := by
        have : 4 * B + 2 = 2 * (2 * B + 1) := by omega
        rw [this, Nat.mul_mul_mul_comm]
      rw [h7] at h6
      generalize (4 * B - 1) * (4 * B - 1) = z at *
      generalize (2 * mr + 1) * (2 * mr + 1) = y at *
      generalize (2 * B + 1) * (2 * B + 1) = u at *
      generalize (2 * mr' - 1) * (2 * mr' - 1) = v at *
      omega

theorem rt32_once (x : Nat) (hx : x < 4294967296) : rt32 x = (Ieee.single.sqrt x).getD 2143289344 := by
  by_cases h1 : x < 2139095040
  · by_cases h0 : x = 0
    · subst h0; decide +kernel
    · obtain ⟨m, i, mr, er, e1, e2, e3, e4, e5, e6, e7, e8, e9, e10, e11, ok⟩ := root32_ok x h1 (by omega)
      have hm0 : m ≠ 0 := by
        intro hz
        have hw := fm32.write_own x (by have : Ieee.single.signWeight = 2147483648 := by decide
                                        omega) false m i e1
        rw [hz, fm32.zeroW] at hw
        exact h0 hw.symm
      obtain ⟨r, mr', er', g1, g2, g3, g4, g5, ok'⟩ := sqrt_word32 m i hm0 e9 e10 e11
      have hsq : Ieee.single.sqrt x = some (Ieee.single.word false r) := by
        unfold Ieee.Format.sqrt; rw [e1]; exact g1
      rw [hsq, Option.getD_some]
      have hsw : Ieee.single.signWeight = 2147483648 := by decide
      have hir : Ieee.single.infRung = 2139095040 := by decide
      have hsame : mr = mr' ∧ er = er' := by
        rcases Int.le_total er er' with h | h
        · exact root_uniq 8388608 m i mr mr' er er' (by decide) e9 e5 e6 g4 g5 h ok ok'
        · obtain ⟨a, b⟩ := root_uniq 8388608 m i mr' mr er' er (by decide) e9 g4 g5 e5 e6 h ok' ok
          exact ⟨a.symm, b.symm⟩
      have w1 := fm32.write_own (rt32 x) (by omega) false mr er e4
      have hwl : Ieee.single.word false r < 2 * Ieee.single.signWeight := by
        show r < _
        omega
      have w2 := fm32.write_own (Ieee.single.word false r) hwl false mr' er' g3
      rw [← w1, ← w2, hsame.1, hsame.2]
  · by_cases h2 : x = 2139095040
    · subst h2; decide +kernel
    · by_cases h3 : x = 2147483648
      · subst h3; decide +kernel
      · rw [root32_none x hx (by omega) h3]
        have hsw : Ieee.single.signWeight = 2147483648 := by decide
        have hir : Ieee.single.infRung = 2139095040 := by decide
        have hnone : Ieee.single.sqrt x = none := by
          unfold Ieee.Format.sqrt
          cases hr : Ieee.single.read x with
          | nan s t => rfl
          | infinity s =>
            obtain ⟨hs, hru⟩ := fm32.read_sg x s hr
            have hsp := fm32.split x (by omega)
            cases s
            · rw [← hs] at hsp
              simp only [Bool.false_eq_true, if_false] at hsp
              omega
            · rfl
          | number s m i =>
            obtain ⟨hs, -, -, -⟩ := fm32.un_read x s m i hr
            have hw := fm32.write_own x (by omega) s m i hr
            have hsp := fm32.split x (by omega)
            cases s
            · exfalso
              rw [← hs] at hsp
              simp only [Bool.false_eq_true, if_false] at hsp
              have hn := isNaN_rung Ieee.single single_bi x
              rw [hr] at hn
              have := of_decide_eq_false hn.symm
              unfold rung at hsp
              omega
            · by_cases hm0 : m = 0
              · rw [hm0, fm32.zeroW] at hw
                exfalso
                have : Ieee.single.word true 0 = 2147483648 := by decide
                omega
              · simp only [Ieee.Datum.root, if_neg hm0, if_true]; rfl
        rw [hnone]; rfl

end Go.Proofs.Qxb6500320a
