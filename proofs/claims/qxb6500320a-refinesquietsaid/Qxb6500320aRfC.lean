/-
  The model's unpacking, its tests and its order.
-/
import Derived.Test.Qxb6500320aRfB
set_option linter.unusedSimpArgs false
set_option linter.unusedVariables false
set_option linter.unusedSectionVars false
set_option maxRecDepth 100000
namespace Go.Proofs.Qxb6500320a
open Go Go.Vc

section
variable {fi : Int} {p bi : Nat} {f : Ieee.Format}

theorem Fm.sw1 (F : Fm fi p bi f) : f.signWeight = 2 ^ (f.exponentBits + f.fractionBits) := rfl
theorem Fm.andTop (F : Fm fi p bi f) (v : Nat) (hv : v < 18446744073709551616) : bAnd .u64 (v : Int) (IntKind.wrap .u64 (numm_top.F fi - 1)) = ((rung f v : Nat) : Int) := by
  have h1 := F.sw2
  have hpos : 0 < f.signWeight := Nat.two_pow_pos _
  have e : (f.signWeight : Int) - 1 = ((f.signWeight - 1 : Nat) : Int) := by omega
  rw [F.topF, e, wrap64_n _ (by omega), bAnd64_n v _ hv (by omega)]
  unfold rung
  have := Nat.and_two_pow_sub_one_eq_mod v (f.exponentBits + f.fractionBits)
  rw [F.sw1, this]
theorem Fm.ge_top (F : Fm fi p bi f) (v : Nat) (hv : v < 2 * f.signWeight) : decide ((v : Int) ≥ numm_top.F fi) = sgb f v := by
  have hpos : 0 < f.signWeight := Nat.two_pow_pos _
  rw [F.topF]
  unfold sgb
  have hd := Nat.div_add_mod v f.signWeight
  have hm := Nat.mod_lt v hpos
  have hq : v / f.signWeight < 2 := Nat.div_lt_of_lt_mul (by rw [Nat.mul_comm]; exact hv)
  rw [Bool.eq_iff_iff, decide_eq_true_iff, beq_iff_eq]
  generalize hQ : v / f.signWeight = q at *
  have hc : q = 0 ∨ q = 1 := by omega
  rcases hc with rfl | rfl
  · rw [Nat.mul_zero] at hd; omega
  · rw [Nat.mul_one] at hd; omega
theorem Fm.isNaNF (F : Fm fi p bi f) (v : Nat) (hv : v < 18446744073709551616) : numm_isNaN.F fi v = decide (f.infRung < rung f v) := by
  unfold numm_isNaN.F
  rw [F.andTop v hv, F.infF, Bool.eq_iff_iff, decide_eq_true_iff, decide_eq_true_iff]; omega
theorem Fm.isNaNP (F : Fm fi p bi f) (v : Int) : numm_isNaN.Pre fi v := ⟨F.topP, F.infP, trivial⟩
theorem Fm.isZeroF (F : Fm fi p bi f) (v : Nat) (hv : v < 18446744073709551616) : numm_isZero.F fi v = decide (rung f v = 0) := by
  unfold numm_isZero.F
  rw [F.andTop v hv, Bool.eq_iff_iff, decide_eq_true_iff, beq_iff_eq]; omega
theorem Fm.isZeroP (F : Fm fi p bi f) (v : Int) : numm_isZero.Pre fi v := ⟨F.topP, trivial⟩
theorem Fm.keyP (F : Fm fi p bi f) (v : Int) : numm_key.Pre fi v := by
  unfold numm_key.Pre
  refine ⟨F.topP, ?_⟩
  cases decide (v ≥ numm_top.F fi)
  · exact ⟨F.topP, trivial⟩
  · trivial
theorem Fm.split (F : Fm fi p bi f) (v : Nat) (hv : v < 2 * f.signWeight) : v = rung f v + (if sgb f v then f.signWeight else 0) := by
  have hw := word_self f v hv
  unfold Ieee.Format.word at hw
  cases hs : sgb f v
  · rw [hs] at hw; simp only [Bool.false_eq_true, if_false] at hw ⊢; omega
  · rw [hs] at hw; simp only [if_true] at hw ⊢; omega
/-- The key: the magnitude above the middle, or below it. -/
theorem Fm.keyF (F : Fm fi p bi f) (v : Nat) (hv : v < 2 * f.signWeight) : numm_key.F fi v = if sgb f v then (f.signWeight : Int) - 1 - rung f v else (f.signWeight : Int) + rung f v := by
  have h1 := F.sw2
  have hpos : 0 < f.signWeight := Nat.two_pow_pos _
  have hr : rung f v < f.signWeight := Nat.mod_lt _ hpos
  have hs := F.split v hv
  unfold numm_key.F
  rw [F.ge_top v hv, F.msk, F.topF]
  cases h : sgb f v
  · rw [h] at hs
    simp only [Bool.false_eq_true, if_false] at hs ⊢
    show IntKind.wrap .u64 ((v : Int) + (f.signWeight : Int)) = _
    rw [wrap_u64 (by omega) (by omega)]; omega
  · rw [h] at hs
    simp only [if_true] at hs ⊢
    show IntKind.wrap .u64 (((2 * f.signWeight - 1 : Nat) : Int) - (v : Int)) = _
    rw [wrap_u64 (by omega) (by omega)]; omega

theorem Fm.dv (F : Fm fi p bi f) (v : Nat) : v / f.binade % (2 * bi + 2) = rung f v / f.binade := by
  have hb : 0 < f.binade := Nat.two_pow_pos _
  unfold rung
  rw [F.sw, Nat.mul_comm (2 * bi + 2), Nat.mod_mul_right_div_self]
theorem Fm.md (F : Fm fi p bi f) (v : Nat) : v % f.binade = rung f v % f.binade := by
  unfold rung
  rw [F.sw, Nat.mod_mod_of_dvd _ (Nat.dvd_mul_left _ _)]

/-- What unpack answers. -/
def un (d : Ieee.Datum) : Int × Int × Int := match d with
  | .nan _ _ => (3, 0, 0)
  | .infinity _ => (2, 0, 0)
  | .number _ m i => if m = 0 then (0, 0, 0) else (1, (m : Int), i)

theorem shl1 (c : Nat) (hc : c < 64) : IntKind.wrap .u64 ((1 : Int) * 2 ^ (min c (IntKind.bits .u64))) = ((2 ^ c : Nat) : Int) := by
  have := shl64_n 1 c hc
  have hlt : 2 ^ c < 2 ^ 64 := Nat.pow_lt_pow_right (by decide) hc
  have c64' : (2 : Nat) ^ 64 = 18446744073709551616 := by decide
  rw [Nat.one_mul, Nat.mod_eq_of_lt (by omega)] at this
  exact this

theorem Fm.unpackF (F : Fm fi p bi f) (v : Nat) (hv : v < 2 * f.signWeight) : numm_unpack.F fi v = (sgb f v, un (f.read v)) := by
  have h1 := F.sw2
  have hp1 := F.p1
  have hp2 := F.p2
  have hb1 := F.b1
  have hb2 := F.b2
  have hl := F.least
  have hpos : 0 < f.signWeight := Nat.two_pow_pos _
  have hb : 0 < f.binade := Nat.two_pow_pos _
  have hr : rung f v < f.signWeight := Nat.mod_lt _ hpos
  have hv64 : v < 18446744073709551616 := by omega
  have e1 : (p : Int) - 1 = ((p - 1 : Nat) : Int) := by omega
  have e2 : IntKind.wrap .i64 (2 * (bi : Int)) = 2 * bi := wrap_i64 (by omega) (by omega)
  have e3 : (2 : Int) * (bi : Int) + 1 = ((2 * bi + 1 : Nat) : Int) := by omega
  have e4 : bAnd .u64 ((v / 2 ^ (p - 1) : Nat) : Int) ((2 * bi + 1 : Nat) : Int) = ((rung f v / f.binade : Nat) : Int) := by
    have hle : v / 2 ^ (p - 1) ≤ v := Nat.div_le_self _ _
    rw [bAnd64_n _ _ (by omega) (by omega), ← F.bin, ← F.dv, F.eb]
    have : 2 * bi + 1 = 2 ^ f.exponentBits - 1 := by have := F.eb; omega
    rw [this, Nat.and_two_pow_sub_one_eq_mod]
  have hq : rung f v / f.binade < 2 * bi + 2 := by rw [Nat.div_lt_iff_lt_mul hb, ← F.sw]; exact hr
  have e5 : IntKind.wrap .i64 ((rung f v / f.binade : Nat) : Int) = ((rung f v / f.binade : Nat) : Int) := by
    generalize rung f v / f.binade = Q at hq
    exact wrap_i64 (by omega) (by omega)
  have hbl : f.binade ≤ 2 ^ 62 := by rw [F.bin]; exact Nat.pow_le_pow_right (by decide) (by omega)
  have c62 : (2 : Nat) ^ 62 = 4611686018427387904 := by decide
  have e6 : bAnd .u64 (v : Int) (IntKind.wrap .u64 (((2 ^ (p - 1) : Nat) : Int) - 1)) = ((rung f v % f.binade : Nat) : Int) := by
    have : ((2 ^ (p - 1) : Nat) : Int) - 1 = ((2 ^ (p - 1) - 1 : Nat) : Int) := by rw [← F.bin]; omega
    rw [this, wrap64_n _ (by rw [← F.bin]; omega), bAnd64_n _ _ hv64 (by rw [← F.bin]; omega), Nat.and_two_pow_sub_one_eq_mod, ← F.bin, F.md]
  have hmod := Nat.mod_lt (rung f v) hb
  have e7 : bOr .u64 ((rung f v % f.binade : Nat) : Int) ((2 ^ (p - 1) : Nat) : Int) = ((f.binade + rung f v % f.binade : Nat) : Int) := by
    rw [bOr64_n _ _ (by omega) (by rw [← F.bin]; omega), Nat.or_comm]
    have := or_add 1 (rung f v % f.binade) (p - 1) (by rw [← F.bin]; exact hmod)
    rw [Nat.one_mul, ← F.bin] at this
    rw [← F.bin, this]
  have hdm := Nat.div_add_mod (rung f v) f.binade
  unfold numm_unpack.F
  rw [F.prec, F.bias, e1, wui _ (by omega) (by omega), Int.toNat_natCast, shr64_n v (p - 1) (by omega), e2, e3, wui _ (by omega) (by omega), e4, e5, shl1 (p - 1) (by omega), e6, e7, F.ge_top v hv]
  have e8 : IntKind.wrap .i64 ((2 * bi + 1 : Nat) : Int) = ((2 * bi + 1 : Nat) : Int) := wrap_i64 (by omega) (by omega)
  have e9 : IntKind.wrap .i64 (IntKind.wrap .i64 (2 - (bi : Int)) - (p : Int)) = f.leastPlace := by
    rw [wrap_i64 (show (-9223372036854775808 : Int) ≤ 2 - (bi : Int) by omega) (by omega), wrap_i64 (by omega) (by omega), hl]
  rw [e8, e9]
  have hread : f.read v = (if rung f v < f.binade then .number (sgb f v) (rung f v) f.leastPlace else if rung f v < f.infRung then .number (sgb f v) (f.binade + rung f v % f.binade) (f.leastPlace + (rung f v / f.binade - 1 : Nat)) else if rung f v = f.infRung then .infinity (sgb f v) else .nan (sgb f v) (rung f v - f.infRung)) := rfl
  rw [hread]
  have hinf := F.infR
  generalize sgb f v = s at *
  clear e4 e5 e6 e7 e8 e9 e1 e2 e3 hread
  have hB1 : f.binade ≤ f.infRung := by
    rw [hinf]
    have : 1 * f.binade ≤ (2 * bi + 1) * f.binade := Nat.mul_le_mul_right _ (by omega)
    omega
  generalize hR : rung f v = r at *
  by_cases c1 : r / f.binade = 2 * bi + 1
  · rw [c1] at hdm
    have e : (((r / f.binade : Nat) : Int) == ((2 * bi + 1 : Nat) : Int)) = true := by rw [c1]; exact beq_self_eq_true _
    have hcomm : f.binade * (2 * bi + 1) = f.infRung := by rw [hinf, Nat.mul_comm]
    rw [hcomm] at hdm
    rw [e, cond_true, if_neg (by omega), if_neg (by omega)]
    by_cases c2 : r % f.binade = 0
    · rw [c2]
      rw [if_pos (by omega)]; rfl
    · have e' : (((r % f.binade : Nat) : Int) == 0) = false := by rw [beq_eq_false_iff_ne]; omega
      rw [e', if_neg (by omega)]; rfl
  · have e : (((r / f.binade : Nat) : Int) == ((2 * bi + 1 : Nat) : Int)) = false := by rw [beq_eq_false_iff_ne]; omega
    rw [e, cond_false]
    by_cases c2 : r / f.binade = 0
    · have hlt : r < f.binade := by rw [c2, Nat.mul_zero] at hdm; omega
      have e' : (((r / f.binade : Nat) : Int) == 0) = true := by rw [c2]; rfl
      rw [e', cond_true, if_pos hlt, Nat.mod_eq_of_lt hlt]
      unfold un
      by_cases c3 : r = 0
      · subst c3; rfl
      · have e'' : ((r : Int) == 0) = false := by rw [beq_eq_false_iff_ne]; omega
        rw [e'']
        show (s, 1, (r : Int), f.leastPlace) = (s, if r = 0 then (0, 0, 0) else (1, (r : Int), f.leastPlace))
        rw [if_neg c3]
    · have e' : (((r / f.binade : Nat) : Int) == 0) = false := by rw [beq_eq_false_iff_ne]; omega
      have hge : ¬ r < f.binade := fun h => c2 (Nat.div_eq_of_lt h)
      have hlt : r < f.infRung := by
        rw [hinf, ← Nat.div_lt_iff_lt_mul hb]; omega
      rw [e', cond_false, if_neg hge, if_pos hlt]
      unfold un
      show (s, 1, ((f.binade + r % f.binade : Nat) : Int), _) = (s, if f.binade + r % f.binade = 0 then (0, 0, 0) else (1, ((f.binade + r % f.binade : Nat) : Int), f.leastPlace + ((r / f.binade - 1 : Nat) : Int)))
      rw [if_neg (by omega)]
      have e9 : IntKind.wrap .i64 (IntKind.wrap .i64 (IntKind.wrap .i64 (((r / f.binade : Nat) : Int) - (bi : Int)) - (p : Int)) + 1) = f.leastPlace + ((r / f.binade - 1 : Nat) : Int) := by
        rw [hl]
        clear hdm e e' hlt hge
        generalize r / f.binade = Q at hq c2 ⊢
        rw [wrap_i64 (show (-9223372036854775808 : Int) ≤ (Q : Int) - (bi : Int) by omega) (by omega), wrap_i64 (show (-9223372036854775808 : Int) ≤ (Q : Int) - (bi : Int) - p by omega) (by omega), wrap_i64 (by omega) (by omega)]; omega
      rw [e9]

theorem Fm.unpackP (F : Fm fi p bi f) (v : Int) : numm_unpack.Pre fi v := by
  have hp1 := F.p1
  have hp2 := F.p2
  have e1 : (p : Int) - 1 = ((p - 1 : Nat) : Int) := by omega
  unfold numm_unpack.Pre
  rw [F.prec, e1, wui _ (by omega) (by omega)]
  refine ⟨F.topP, by omega, by omega, ?_⟩
  refine cond_intro (fun _ => trivial) fun _ => cond_intro (fun _ => trivial) fun _ => ⟨by omega, trivial⟩

theorem Fm.un_read (F : Fm fi p bi f) (v : Nat) (s : Bool) (m : Nat) (i : Int) (h : f.read v = .number s m i) : s = sgb f v ∧ m < 2 * f.binade ∧ f.leastPlace ≤ i ∧ i < f.leastPlace + 2 * bi := by
  have hb : 0 < f.binade := Nat.two_pow_pos _
  have hb1 := F.b1
  have hinf := F.infR
  have hread : f.read v = (if rung f v < f.binade then .number (sgb f v) (rung f v) f.leastPlace else if rung f v < f.infRung then .number (sgb f v) (f.binade + rung f v % f.binade) (f.leastPlace + (rung f v / f.binade - 1 : Nat)) else if rung f v = f.infRung then .infinity (sgb f v) else .nan (sgb f v) (rung f v - f.infRung)) := rfl
  rw [hread] at h
  have hmod := Nat.mod_lt (rung f v) hb
  by_cases c1 : rung f v < f.binade
  · rw [if_pos c1] at h
    simp only [Ieee.Datum.number.injEq] at h
    obtain ⟨rfl, rfl, rfl⟩ := h
    exact ⟨rfl, by omega, by omega, by omega⟩
  · rw [if_neg c1] at h
    by_cases c2 : rung f v < f.infRung
    · rw [if_pos c2] at h
      simp only [Ieee.Datum.number.injEq] at h
      obtain ⟨rfl, rfl, rfl⟩ := h
      have hq : rung f v / f.binade < 2 * bi + 1 := by rw [Nat.div_lt_iff_lt_mul hb, ← hinf]; exact c2
      exact ⟨rfl, by omega, by omega, by omega⟩
    · rw [if_neg c2] at h
      split at h <;> cases h
end

end Go.Proofs.Qxb6500320a
