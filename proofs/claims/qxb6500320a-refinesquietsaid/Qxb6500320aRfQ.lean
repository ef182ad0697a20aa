/-
  The model's cut of a float to an integer.
-/
import Derived.Test.Qxb6500320aRfP
set_option linter.unusedSimpArgs false
set_option linter.unusedVariables false
set_option linter.unusedSectionVars false
set_option maxRecDepth 100000
namespace Go.Proofs.Qxb6500320a
open Go Go.Vc

/-- The whole part of a rung's value. -/
def cutW (f : Ieee.Format) (r : Nat) : Nat := val f r / 2 ^ (-f.leastPlace).toNat
theorem cutW_mono (f : Ieee.Format) {r q : Nat} (h : r ≤ q) : cutW f r ≤ cutW f q := by
  unfold cutW
  refine Nat.div_le_div_right ?_
  by_cases e : r = q
  · rw [e]; exact Nat.le_refl _
  · exact Nat.le_of_lt (val_lt f (by omega))

theorem cutM (m L : Nat) (i : Int) (hi : -(L : Int) ≤ i) : m * 2 ^ (i + L).toNat / 2 ^ L = m * 2 ^ i.toNat / 2 ^ (-i).toNat := by
  by_cases h : 0 ≤ i
  · have e1 : (i + L).toNat = i.toNat + L := by omega
    have e2 : (-i).toNat = 0 := by omega
    rw [e1, e2, Nat.pow_add, ← Nat.mul_assoc, Nat.mul_div_cancel _ (Nat.two_pow_pos L), Nat.pow_zero, Nat.div_one]
  · have e1 : i.toNat = 0 := by omega
    have e2 : L = (i + L).toNat + (-i).toNat := by omega
    rw [e1, Nat.pow_zero, Nat.mul_one]
    have e3 : 2 ^ L = 2 ^ (i + L).toNat * 2 ^ (-i).toNat := by rw [← Nat.pow_add, ← e2]
    rw [e3, ← Nat.div_div_eq_div_mul, Nat.mul_div_cancel _ (Nat.two_pow_pos _)]

/-- A whole number as an integer of the width, or the trap. -/
def fitV (S : Nat) (sg s : Bool) (M : Nat) : Int × Int :=
  if sg then (if s then (if S < M then (0, 40) else ((((2 * S - M) % (2 * S) : Nat) : Int), 0)) else (if S ≤ M then (0, 40) else ((M : Int), 0)))
  else (if s then (if M ≠ 0 then (0, 40) else (0, 0)) else (if 2 * S ≤ M then (0, 40) else ((M : Int), 0)))

section
variable {fi ni : Int} {p bi q ci : Nat} {f g : Ieee.Format}
theorem Fm.lp (F : Fm fi p bi f) : f.leastPlace ≤ 0 := by have := F.least; have := F.p1; have := F.b1; omega
theorem Fm.cutW_read (F : Fm fi p bi f) (v : Nat) (s : Bool) (m : Nat) (i : Int) (h : f.read v = .number s m i) : rung f v < f.infRung ∧ cutW f (rung f v) = m * 2 ^ i.toNat / 2 ^ (-i).toNat ∧ (f.leastPlace < i → f.binade ≤ m) := by
  have hb : 0 < f.binade := Nat.two_pow_pos _
  have hread : f.read v = (if rung f v < f.binade then .number (sgb f v) (rung f v) f.leastPlace else if rung f v < f.infRung then .number (sgb f v) (f.binade + rung f v % f.binade) (f.leastPlace + (rung f v / f.binade - 1 : Nat)) else if rung f v = f.infRung then .infinity (sgb f v) else .nan (sgb f v) (rung f v - f.infRung)) := rfl
  have hfin : rung f v < f.infRung := by
    have hinf := F.infR
    have hle : f.binade ≤ f.infRung := by rw [hinf]; exact Nat.le_mul_of_pos_left _ (by omega)
    by_cases c1 : rung f v < f.binade
    · omega
    · by_cases c2 : rung f v < f.infRung
      · exact c2
      · rw [hread, if_neg c1, if_neg c2] at h
        split at h <;> cases h
  refine ⟨hfin, ?_, ?_⟩
  · obtain ⟨m', i', e1, e2, e3⟩ := read_val f v hfin
    rw [e1] at h
    simp only [Ieee.Datum.number.injEq] at h
    obtain ⟨_, rfl, rfl⟩ := h
    have hl := F.lp
    unfold cutW
    rw [← e3]
    have hL : f.leastPlace = -(((-f.leastPlace).toNat : Nat) : Int) := by omega
    have e4 : i' - f.leastPlace = i' + (((-f.leastPlace).toNat : Nat) : Int) := by omega
    rw [e4]
    exact cutM m' _ i' (by omega)
  · intro hl
    rw [hread] at h
    by_cases c1 : rung f v < f.binade
    · rw [if_pos c1] at h
      simp only [Ieee.Datum.number.injEq] at h
      omega
    · rw [if_neg c1, if_pos hfin] at h
      simp only [Ieee.Datum.number.injEq] at h
      omega

theorem Fm.cutV_W (F : Fm fi p bi f) (v : Nat) (h : rung f v < f.infRung) : cutV f v = if sgb f v then -((cutW f (rung f v) : Nat) : Int) else ((cutW f (rung f v) : Nat) : Int) := by
  obtain ⟨m, i, e1, e2, e3⟩ := read_val f v h
  obtain ⟨_, h2, _⟩ := F.cutW_read v _ m i e1
  unfold cutV
  rw [e1, toInt_number, h2]
  cases sgb f v <;> rfl

theorem fit_F (G : Fm ni q ci g) (sg s : Bool) (M : Nat) (hM : M < 18446744073709551616) : numm_fit.F ni sg s M = fitV g.signWeight sg s M := by
  have hpos : 0 < g.signWeight := Nat.two_pow_pos _
  unfold numm_fit.F fitV
  rw [G.topF, G.msk]
  cases sg
  · cases s
    · simp only [cond_false, Bool.false_eq_true, if_false]
      by_cases h : 2 * g.signWeight ≤ M
      · rw [decide_eq_true (by omega), if_pos h]; rfl
      · rw [decide_eq_false (by omega), if_neg h]; rfl
    · simp only [cond_false, cond_true, Bool.false_eq_true, if_false, if_true]
      by_cases h : M = 0
      · subst h; rfl
      · rw [if_pos h]
        have : ((M : Int) != 0) = true := by rw [bne_iff_ne]; omega
        rw [this]; rfl
  · cases s
    · simp only [cond_false, cond_true, Bool.false_eq_true, if_false, if_true]
      by_cases h : g.signWeight ≤ M
      · rw [decide_eq_true (by omega), if_pos h]; rfl
      · rw [decide_eq_false (by omega), if_neg h]; rfl
    · simp only [cond_false, cond_true, Bool.false_eq_true, if_false, if_true]
      by_cases h : g.signWeight < M
      · rw [decide_eq_true (by omega), if_pos h]; rfl
      · rw [decide_eq_false (by omega), if_neg h, cond_false, G.minusF M (by omega)]
theorem fit_P (G : Fm ni q ci g) (sg s : Bool) (M : Int) : numm_fit.Pre ni sg s M := by
  unfold numm_fit.Pre
  exact cond_intro (fun _ => cond_intro (fun _ => ⟨G.topP, trivial⟩) (fun _ => ⟨G.topP, trivial⟩)) (fun _ => trivial)

theorem fitV_big (G : Fm ni q ci g) (sg s : Bool) (M : Nat) (hM : 18446744073709551616 ≤ M) : fitV g.signWeight sg s M = (0, 40) := by
  have h := G.sw2
  unfold fitV
  cases sg <;> cases s
  · rw [if_neg (by decide), if_neg (by decide), if_pos (by omega)]
  · rw [if_neg (by decide), if_pos rfl, if_pos (by omega)]
  · rw [if_pos rfl, if_neg (by decide), if_pos (by omega)]
  · rw [if_pos rfl, if_pos rfl, if_pos (by omega)]
theorem fitV_zero (G : Fm ni q ci g) (sg s : Bool) : fitV g.signWeight sg s 0 = (0, 0) := by
  have hpos : 0 < g.signWeight := Nat.two_pow_pos _
  unfold fitV
  cases sg <;> cases s
  · rw [if_neg (by decide), if_neg (by decide), if_neg (by omega)]; rfl
  · rw [if_neg (by decide), if_pos rfl, if_neg (by omega)]
  · rw [if_pos rfl, if_neg (by decide), if_neg (by omega)]; rfl
  · rw [if_pos rfl, if_pos rfl, if_neg (by omega), Nat.sub_zero, Nat.mod_self]; rfl

theorem toInt1 (F : Fm fi p bi f) (G : Fm ni q ci g) (sg s : Bool) (m : Nat) (i : Int) (hm : m < 2 * f.binade) (hi : f.leastPlace ≤ i) (hi2 : i < f.leastPlace + 2 * bi) (hb : f.leastPlace < i → f.binade ≤ m) :
    numm_toInt.F1 fi ni sg s m i (decide (i ≤ -64)) = fitV g.signWeight sg s (m * 2 ^ i.toNat / 2 ^ (-i).toNat) ∧ numm_toInt.Pre1 fi ni sg s m i (decide (i ≤ -64)) := by
  have hp1 := F.p1
  have hp2 := F.p2
  have hb2 := F.b2
  have hl := F.least
  have hpw := F.pw
  have hmp : m < 2 ^ p := by omega
  have hp53 : 2 ^ p ≤ 2 ^ 53 := Nat.pow_le_pow_right (by decide) hp2
  have hm53 : m < 9007199254740992 := Nat.lt_of_lt_of_le hmp hp53
  unfold numm_toInt.F1 numm_toInt.Pre1
  by_cases h64 : i ≤ -64
  · rw [decide_eq_true h64]
    refine ⟨?_, trivial⟩
    have e1 : i.toNat = 0 := by omega
    have h2 : 2 ^ 53 ≤ 2 ^ (-i).toNat := Nat.pow_le_pow_right (by decide) (by omega)
    have h3 : m < 2 ^ (-i).toNat := Nat.lt_of_lt_of_le hmp (Nat.le_trans hp53 h2)
    rw [e1, Nat.pow_zero, Nat.mul_one, Nat.div_eq_of_lt h3, fitV_zero G]
    rfl
  · rw [decide_eq_false h64]
    show (cond _ _ _ = _) ∧ cond _ _ _
    by_cases h0 : i < 0
    · rw [decide_eq_true h0, cond_true, cond_true]
      have e1 : IntKind.wrap .u64 (IntKind.wrap .i64 (0 - i)) = (((-i).toNat : Nat) : Int) := by
        rw [wui _ (by omega) (by omega)]; omega
      have e2 : i.toNat = 0 := by omega
      rw [e1, fdivk m (-i).toNat (by omega), e2, Nat.pow_zero, Nat.mul_one]
      refine ⟨?_, by omega, ⟨fit_P G _ _ _, trivial⟩⟩
      unfold numm_toInt.F2
      exact fit_F G sg s _ (Nat.lt_of_le_of_lt (Nat.div_le_self _ _) (by omega))
    · rw [decide_eq_false h0, cond_false, cond_false, F.prec]
      have e1 : IntKind.wrap .i64 ((64 : Int) - (p : Int)) = 64 - (p : Int) := wrap_i64 (by omega) (by omega)
      have e2 : (-i).toNat = 0 := by omega
      rw [e1, e2, Nat.pow_zero, Nat.div_one]
      by_cases hbig : i > 64 - (p : Int)
      · rw [decide_eq_true hbig]
        refine ⟨?_, trivial⟩
        have hbm := hb (by omega)
        have hm1 : 2 ^ (p - 1) ≤ m := by rw [← F.bin]; exact hbm
        have h3 : 2 ^ (p - 1) * 2 ^ (65 - p) ≤ m * 2 ^ i.toNat := Nat.mul_le_mul hm1 (Nat.pow_le_pow_right (by decide) (by omega))
        have h4 : 2 ^ (p - 1) * 2 ^ (65 - p) = 18446744073709551616 := by
          rw [← Nat.pow_add, show p - 1 + (65 - p) = 64 by omega]
        rw [fitV_big G sg s _ (by omega)]
        rfl
      · rw [decide_eq_false hbig, cond_false, cond_false]
        have hin : i.toNat < 64 := by omega
        have e3 : IntKind.wrap .u64 i = ((i.toNat : Nat) : Int) := by rw [wrap_u64 (by omega) (by omega)]; omega
        have h3 : m * 2 ^ i.toNat < 2 ^ p * 2 ^ (64 - p) := Nat.lt_of_lt_of_le (Nat.mul_lt_mul_of_pos_right hmp (Nat.two_pow_pos _)) (Nat.mul_le_mul_left _ (Nat.pow_le_pow_right (by decide) (by omega)))
        have h4 : 2 ^ p * 2 ^ (64 - p) = 18446744073709551616 := by
          rw [← Nat.pow_add, show p + (64 - p) = 64 by omega]
        have e4 : IntKind.wrap .u64 ((m : Int) * 2 ^ (min (Int.toNat (((i.toNat : Nat) : Int))) (IntKind.bits .u64))) = ((m * 2 ^ i.toNat : Nat) : Int) := by
          rw [Int.toNat_natCast, shl64_n m i.toNat hin, Nat.mod_eq_of_lt (by omega)]
        rw [e3, e4]
        refine ⟨?_, by omega, ⟨fit_P G _ _ _, trivial⟩⟩
        unfold numm_toInt.F2
        exact fit_F G sg s _ (by omega)

theorem toInt_F (F : Fm fi p bi f) (G : Fm ni q ci g) (sg : Bool) (a : Nat) (ha : a < 2 * f.signWeight) :
    numm_toInt.F fi ni sg a = (if f.infRung < rung f a then (0, 41) else if rung f a = f.infRung then (0, 40) else fitV g.signWeight sg (sgb f a) (cutW f (rung f a))) ∧ numm_toInt.Pre fi ni sg a := by
  have hb : 0 < f.binade := Nat.two_pow_pos _
  have hinf := F.infR
  have hle : f.binade ≤ f.infRung := by rw [hinf]; exact Nat.le_mul_of_pos_left _ (by omega)
  have hread : f.read a = (if rung f a < f.binade then .number (sgb f a) (rung f a) f.leastPlace else if rung f a < f.infRung then .number (sgb f a) (f.binade + rung f a % f.binade) (f.leastPlace + (rung f a / f.binade - 1 : Nat)) else if rung f a = f.infRung then .infinity (sgb f a) else .nan (sgb f a) (rung f a - f.infRung)) := rfl
  unfold numm_toInt.F numm_toInt.Pre
  rw [F.unpackF a ha]
  by_cases h1 : f.infRung < rung f a
  · rw [if_pos h1]
    have e : f.read a = .nan (sgb f a) (rung f a - f.infRung) := by rw [hread, if_neg (by omega), if_neg (by omega), if_neg (by omega)]
    rw [e]
    exact ⟨rfl, F.unpackP _, trivial⟩
  · rw [if_neg h1]
    by_cases h2 : rung f a = f.infRung
    · rw [if_pos h2]
      have e : f.read a = .infinity (sgb f a) := by rw [hread, if_neg (by omega), if_neg (by omega), if_pos h2]
      rw [e]
      exact ⟨rfl, F.unpackP _, trivial⟩
    · rw [if_neg h2]
      obtain ⟨m, i, e1, e2, e3⟩ := read_val f a (by omega)
      obtain ⟨c1, c2, c3⟩ := F.cutW_read a _ m i e1
      obtain ⟨d1, d2, d3, d4⟩ := F.un_read a _ m i e1
      rw [e1]
      by_cases hm : m = 0
      · subst hm
        have e : un (.number (sgb f a) 0 i) = (0, 0, 0) := rfl
        rw [e, c2, Nat.zero_mul, Nat.zero_div, fitV_zero G]
        exact ⟨rfl, F.unpackP _, trivial⟩
      · have e : un (.number (sgb f a) m i) = (1, (m : Int), i) := by unfold un; simp only; rw [if_neg hm]
        rw [e, c2]
        obtain ⟨t1, t2⟩ := toInt1 F G sg (sgb f a) m i d2 d3 d4 c3
        exact ⟨t1, F.unpackP _, t2⟩
end

end Go.Proofs.Qxb6500320a
