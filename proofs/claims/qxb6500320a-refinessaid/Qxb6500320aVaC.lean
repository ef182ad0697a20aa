/-
  Floats: there and back between the formats; small whole numbers and their halves.
-/
import Derived.Test.Qxb6500320aVaB
set_option linter.unusedSimpArgs false
set_option linter.unusedVariables false
set_option maxRecDepth 100000
namespace Go.Proofs.Qxb6500320a
open Go Go.Vc

/-- The word x stands for the number z, counted in the least places. -/
def Hold (f : Ieee.Format) (x : Nat) (z : Int) : Prop := ∃ s p j, f.read x = .number s p j ∧ f.leastPlace ≤ j ∧ Ieee.signed s p (j - f.leastPlace).toNat = z

theorem Hold.order {f : Ieee.Format} {x y : Nat} {z u : Int} (hx : Hold f x z) (hy : Hold f y u) : f.order x y = some (compare z u) := by
  obtain ⟨s, p, j, h1, h2, h3⟩ := hx
  obtain ⟨t, q, i, g1, g2, g3⟩ := hy
  unfold Ieee.Format.order
  rw [h1, g1, order_at s t p q j i f.leastPlace h2 g2, h3, g3]

theorem Hold.notNaN {f : Ieee.Format} {x : Nat} {z : Int} (hx : Hold f x z) : (f.read x).isNaN = false := by
  obtain ⟨s, p, j, h1, h2, h3⟩ := hx
  rw [h1]; rfl

theorem Hold.self {f : Ieee.Format} {x : Nat} {z : Int} (hx : Hold f x z) : (f.order x x != some .eq) = false := by
  rw [hx.order hx, Int.compare_eq_eq.2 rfl]; rfl

theorem Hold.toInt {f : Ieee.Format} (hl : f.leastPlace ≤ 0) {x : Nat} {n : Int} (K : Nat) (hK : (K : Int) = -f.leastPlace) (hx : Hold f x (n * 2 ^ K)) : (f.read x).toInt .zero = some n := by
  obtain ⟨s, p, j, h1, h2, h3⟩ := hx
  rw [h1, toInt_number]
  have e := floor_scale p j K (j - f.leastPlace).toNat (by omega)
  rw [e]
  have c : ((2 : Int) ^ K) = ((2 ^ K : Nat) : Int) := by simp
  rw [c] at h3
  unfold Ieee.signed at h3
  rw [Nat.shiftLeft_eq] at h3
  generalize p * 2 ^ (j - f.leastPlace).toNat = P at h3
  have hp := Nat.two_pow_pos K
  generalize 2 ^ K = D at h3 hp
  congr 1
  have hdiv : ∀ a : Nat, (P : Int) = a * D → ((P / D : Nat) : Int) = a := by
    intro a ha
    have : P = a * D := by exact_mod_cast ha
    rw [this, Nat.mul_div_cancel _ hp]
  cases s with
  | true =>
    simp only [if_true] at h3 ⊢
    have ha : (P : Int) = ((-n).toNat : Int) * D := by
      have hn : n ≤ 0 := by
        rcases Int.lt_or_le 0 n with h | h
        · have : 0 < n * (D : Int) := Int.mul_pos h (by omega)
          omega
        · exact h
      have : ((-n).toNat : Int) = -n := by omega
      rw [this, Int.neg_mul]; omega
    rw [hdiv _ ha]
    have hn : n ≤ 0 := by
      rcases Int.lt_or_le 0 n with h | h
      · have : 0 < n * (D : Int) := Int.mul_pos h (by omega)
        omega
      · exact h
    omega
  | false =>
    simp only [Bool.false_eq_true, if_false] at h3 ⊢
    have hn : 0 ≤ n := by
      rcases Int.lt_or_le n 0 with h | h
      · have : n * (D : Int) < 0 := Int.mul_neg_of_neg_of_pos h (by omega)
        omega
      · exact h
    have ha : (P : Int) = (n.toNat : Int) * D := by
      have : (n.toNat : Int) = n := by omega
      rw [this]; exact h3
    rw [hdiv _ ha]
    omega

theorem hold_of (f : Ieee.Format) (x : Nat) (s : Bool) (p : Nat) (j : Int) (J v : Nat) (h : f.read x = .number s p j) (hJ : (J : Int) = j - f.leastPlace) (hv : p * 2 ^ J = v) : Hold f x (if s then -(v : Int) else (v : Int)) := by
  refine ⟨s, p, j, h, by omega, ?_⟩
  have e : (j - f.leastPlace).toNat = J := by omega
  rw [e]; exact signed_as s p J v hv

/-- A word that is a sign and a rung. -/
theorem hold_word (f : Ieee.Format) (s : Bool) (r v : Nat) (hr : r < f.infRung) (hv : val f r = v) : Hold f (f.word s r) (if s then -(v : Int) else (v : Int)) := by
  have hsw := f.infRung_lt
  obtain ⟨m, i, h1, h2, h3⟩ := read_val f (f.word s r) (by rw [rung_word f s r (by omega)]; exact hr)
  rw [rung_word f s r (by omega), sgb_word f s r (by omega)] at *
  exact ⟨s, m, i, h1, h2, signed_as s m _ v (by rw [h3, hv])⟩

/-! ### There and back -/
theorem up_lt (m : Nat) (i : Int) (hm : m < 16777216) (hi : i ≤ 104) (h0 : -149 ≤ i) : m * 2 ^ (i + 1074).toNat < 33554431 * 2 ^ 1177 := by
  have h1 : m * 2 ^ (i + 1074).toNat ≤ 16777215 * 2 ^ (i + 1074).toNat := Nat.mul_le_mul_right _ (by omega)
  obtain ⟨Q, hQ⟩ : ∃ Q : Nat, Q = 1177 := ⟨_, rfl⟩
  have h2 : 2 ^ (i + 1074).toNat ≤ 2 ^ (Q + 1) := Nat.pow_le_pow_right (by omega) (by omega)
  rw [← hQ]
  rw [Nat.pow_succ] at h2
  have hp := Nat.two_pow_pos Q
  have h3 : 16777215 * 2 ^ (i + 1074).toNat ≤ 16777215 * (2 ^ Q * 2) := Nat.mul_le_mul_left _ h2
  generalize 2 ^ Q = V at *
  generalize m * 2 ^ (i + 1074).toNat = U at *
  generalize 2 ^ (i + 1074).toNat = Z at *
  omega

theorem slp : Ieee.single.leastPlace = -149 := by decide
theorem dlp : Ieee.double.leastPlace = -1074 := by decide
theorem sE : Ieee.single.infRung = 255 * Ieee.single.binade := by decide
theorem dE : Ieee.double.infRung = 2047 * Ieee.double.binade := by decide

/-- Between the ends demote asks for the conversion. -/
theorem dem_in (x U : Nat) (s : Bool) (hH : Hold Ieee.double x (if s then -(U : Int) else (U : Int))) (hU : U < 33554431 * 2 ^ 1177) : dem x = (W64 ((ar32 (floatToFloatBits .f64 x .f32) : Nat) : Int), 0) := by
  have hC : Hold Ieee.double 5183643170835005440 (if false then -((33554431 * 2 ^ 1177 : Nat) : Int) else ((33554431 * 2 ^ 1177 : Nat) : Int)) := hold_of Ieee.double _ false 9007198986305536 75 1149 _ (by decide) (by decide) (by decide +kernel)
  have hD : Hold Ieee.double 14407015207689781248 (if true then -((33554431 * 2 ^ 1177 : Nat) : Int) else ((33554431 * 2 ^ 1177 : Nat) : Int)) := hold_of Ieee.double _ true 9007198986305536 75 1149 _ (by decide) (by decide) (by decide +kernel)
  have o1 := hH.order hC
  have o2 := hH.order hD
  simp only [Bool.false_eq_true, if_false, if_true] at o1 o2
  generalize 33554431 * 2 ^ 1177 = Q at o1 o2 hU
  clear hC hD
  have c1 : compare (if s then -(U : Int) else (U : Int)) (Q : Int) = .lt := Int.compare_eq_lt.2 (by cases s <;> simp <;> omega)
  have c2 : compare (if s then -(U : Int) else (U : Int)) (-(Q : Int)) = .gt := Int.compare_eq_gt.2 (by cases s <;> simp <;> omega)
  rw [c1] at o1
  rw [c2] at o2
  unfold dem
  rw [o1, o2]
  rfl

/-- A float64 that holds a float32's number comes back as that float32. -/
theorem demote_back (x y : Nat) (hx : x < 4294967296) (hf : x % 2147483648 < 2139095040) (m n : Nat) (i j : Int) (h1 : Ieee.single.read x = .number (sgb Ieee.single x) m i) (h3 : m * 2 ^ (i - Ieee.single.leastPlace).toNat = val Ieee.single (rung Ieee.single x)) (hi : -149 ≤ i)
    (q1 : Ieee.double.read y = .number (sgb Ieee.single x) n j) (q3 : n * 2 ^ (j - Ieee.double.leastPlace).toNat = m * 2 ^ (i - Ieee.double.leastPlace).toNat) : floatToFloatBits .f64 y .f32 = some x := by
  have q2 : Ieee.double.leastPlace ≤ j := read_place _ _ _ _ _ q1
  have hr1 : rung Ieee.single x < Ieee.single.infRung := by rw [rung32, ir32]; exact hf
  have hw : Ieee.single.write (.number (sgb Ieee.single x) n j) = x := by
    have hb2 : x < 2 * Ieee.single.signWeight := by rw [sw32]; omega
    have := write_rung Ieee.single 255 sE (by decide) (sgb Ieee.single x) n j (-1074) (rung Ieee.single x) hr1 (by rw [dlp] at q2; omega) (by rw [slp]; decide) ?_
    · rw [this, word_self _ _ hb2]
    · rw [← h3, Nat.mul_assoc, ← Nat.pow_add]
      have e1 : (j - -1074).toNat = (j - Ieee.double.leastPlace).toNat := by rw [dlp]
      have e2 : (i - Ieee.single.leastPlace).toNat + (Ieee.single.leastPlace - -1074).toNat = (i - Ieee.double.leastPlace).toNat := by rw [slp, dlp]; omega
      rw [e1, e2, q3]
  have hlow : rungOf Ieee.single (sgb Ieee.single x) n j < Ieee.single.infRung := by
    have hww : Ieee.single.write (.number (sgb Ieee.single x) n j) % Ieee.single.signWeight = rung Ieee.single x := by rw [hw]; rfl
    rw [write_number] at hww
    by_cases hn0 : n = 0
    · subst hn0
      apply demote_low
      have hnorm := (read_norm Ieee.double _ _ _ _ q1).2
      have hb : ¬ Ieee.double.binade ≤ 0 := by decide
      rw [dlp] at hnorm
      have : j = -1074 := by
        rcases hnorm with h | h
        · exact h
        · exact absurd h hb
      rw [this]; decide
    · rw [if_neg hn0, word_rung _ _ _ (Nat.lt_of_le_of_lt (Nat.min_le_right _ _) Ieee.single.infRung_lt)] at hww
      generalize rungOf Ieee.single (sgb Ieee.single x) n j = R at *
      generalize Ieee.single.infRung = I at *
      generalize rung Ieee.single x = X at *
      clear hw q1 q3 h3
      omega
  obtain ⟨q, hq⟩ := demote_some y (by rw [q1]; rfl) (fun s' m' i' h' => by
    rw [q1] at h'
    simp only [Ieee.Datum.number.injEq] at h'
    obtain ⟨rfl, rfl, rfl⟩ := h'
    exact hlow)
  rw [hq]
  unfold floatToFloatBits at hq
  rw [if_neg (by decide)] at hq
  have hd : FloatKind.decode .f64 y = .number (sgb Ieee.single x) n j := q1
  rw [hd] at hq
  simp only at hq
  split at hq
  · cases hq
  · have e : FloatKind.encode .f32 (.number (sgb Ieee.single x) n j) = x := hw
    rw [e] at hq; exact hq.symm

theorem promote_word (x : Nat) (hx : x < 4294967296) (hf : x % 2147483648 < 2139095040) : ∃ m i r, Ieee.single.read x = .number (sgb Ieee.single x) m i ∧ m < 16777216 ∧ -149 ≤ i ∧ i ≤ 104 ∧ m * 2 ^ (i - Ieee.single.leastPlace).toNat = val Ieee.single (rung Ieee.single x) ∧
    r < Ieee.double.infRung ∧ val Ieee.double r = m * 2 ^ (i - Ieee.double.leastPlace).toNat ∧ floatToFloatBits .f32 x .f64 = some (Ieee.double.word (sgb Ieee.single x) r) := by
  obtain ⟨m, i, h1, h2, h3⟩ := read_val Ieee.single x (by rw [rung32, ir32]; exact hf)
  obtain ⟨b1, b2, b3⟩ := single_bd x _ m i h1
  have hl := log2_lt m 23 (by omega)
  have db : Ieee.double.binade = 4503599627370496 := by decide
  have dfb : Ieee.double.fractionBits = 52 := rfl
  obtain ⟨r, g1, g2, g3⟩ := exact_rung Ieee.double m i 2047 dE (by decide) (by omega) (by rw [dlp]; omega) (by rw [dlp, dfb]; omega)
  refine ⟨m, i, r, h1, b1, b2, b3, h3, g1, g2, ?_⟩
  obtain ⟨q, hq⟩ := promote_ok x (by rw [h1]; rfl)
  rw [hq]
  unfold floatToFloatBits at hq
  rw [if_neg (by decide)] at hq
  have hd : FloatKind.decode .f32 x = .number (sgb Ieee.single x) m i := h1
  rw [hd] at hq
  simp only at hq
  split at hq
  · cases hq
  · have e : FloatKind.encode .f64 (.number (sgb Ieee.single x) m i) = Ieee.double.word (sgb Ieee.single x) r := g3 _
    rw [e] at hq; exact hq.symm

theorem back_finite (x : Nat) (hx : x < 4294967296) (hf : x % 2147483648 < 2139095040) : dem (ar64 (floatToFloatBits .f32 x .f64)) = ((x : Int), 0) := by
  obtain ⟨m, i, r, h1, b1, b2, b3, h3, g1, g2, hp⟩ := promote_word x hx hf
  have hsw : r < Ieee.double.signWeight := Nat.lt_trans g1 Ieee.double.infRung_lt
  have hH := hold_word Ieee.double (sgb Ieee.single x) r _ g1 g2
  have ha : ar64 (floatToFloatBits .f32 x .f64) = Ieee.double.word (sgb Ieee.single x) r := by
    rw [hp]; show cn64 _ = _; unfold cn64; rw [hH.notNaN]; rfl
  have edl : (i - Ieee.double.leastPlace).toNat = (i + 1074).toNat := by rw [dlp]; congr 1
  rw [ha]
  rw [dem_in _ _ _ hH (by rw [edl]; exact up_lt m i b1 b3 b2)]
  obtain ⟨n, j, q1, q2, q3⟩ := read_val Ieee.double (Ieee.double.word (sgb Ieee.single x) r) (by rw [rung_word _ _ _ hsw]; exact g1)
  rw [rung_word _ _ _ hsw, g2] at q3
  rw [sgb_word _ _ _ hsw] at q1
  rw [demote_back x _ hx hf m n i j h1 h3 b2 q1 q3]
  have hcn : ar32 (some x) = x := by
    show cn32 x = x
    unfold cn32; rw [h1]; rfl
  rw [hcn]
  unfold W64
  rw [wrap64_n x (by omega)]

theorem back_inf : (dem (ar64 (floatToFloatBits .f32 2139095040 .f64))) = (2139095040, 0) ∧ (dem (ar64 (floatToFloatBits .f32 4286578688 .f64))) = (4286578688, 0) := by decide +kernel
theorem back_nan (x : Nat) (h : 2139095040 < x % 2147483648) : ar64 (floatToFloatBits .f32 x .f64) = 9221120237041090560 := by
  have hn := nan32 x
  rw [decide_eq_true h] at hn
  have e : floatToFloatBits .f32 x .f64 = none := by
    unfold floatToFloatBits
    rw [if_neg (by decide)]
    have : FloatKind.decode .f32 x = Ieee.single.read x := rfl
    rw [this]
    cases hd : Ieee.single.read x with
    | nan s t => rfl
    | infinity s => rw [hd] at hn; cases hn
    | number s m i => rw [hd] at hn; cases hn
  rw [e]; rfl
theorem dem_nan : dem 9221120237041090560 = (2143289344, 0) := by decide +kernel

end Go.Proofs.Qxb6500320a
