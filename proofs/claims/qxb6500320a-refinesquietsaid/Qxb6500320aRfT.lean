/-
  The model's ceil, floor, trunc, nearest are the program's; abs, neg, sqrt.
-/
import Derived.Test.Qxb6500320aRfS
set_option linter.unusedSimpArgs false
set_option linter.unusedVariables false
set_option linter.unusedSectionVars false
set_option maxRecDepth 100000
namespace Go.Proofs.Qxb6500320a
open Go Go.Vc

theorem cutE_up (M K : Nat) : cutE M K = M / 2 ^ K + (nearUp M K).toNat := rfl

/-! ### 32 bits -/
theorem frac32 (K : Nat) (hK : K = 149) (x : Nat) (hx : x < 4294967296) (hm : x % 2147483648 < 1258291200) (hfr : val Ieee.single (x % 2147483648) % 2 ^ K ≠ 0) (k : Int) (hk : k = 2 ∨ k = 3 ∨ k = 4 ∨ k = 5) :
    fl32 (139 + k) x 0 = ((Ieee.Format.write Ieee.single (.number (decide (2147483648 ≤ x)) (val Ieee.single (x % 2147483648) / 2 ^ K + (upK k (decide (2147483648 ≤ x)) (nearUp (val Ieee.single (x % 2147483648)) K)).toNat) 0) : Nat) : Int) := by
  have hp := Nat.two_pow_pos K
  have hv : x % 2147483648 ≤ 2139095040 := by omega
  have hV := vali32 K hK _ hm
  obtain ⟨T, hT⟩ : ∃ T : Nat, T = val Ieee.single (x % 2147483648) / 2 ^ K := ⟨_, rfl⟩
  have hTB : T < 8388608 := by rw [hT]; exact (Nat.div_lt_iff_lt_mul hp).2 hV
  obtain ⟨rn, hrn⟩ : ∃ rn : Nat, rn = cutE (val Ieee.single (x % 2147483648)) K := ⟨_, rfl⟩
  have hrnB : rn ≤ 8388608 := by rw [hrn]; exact cutE_le _ K 8388608 hV
  have hcut := trunc_eq32 K hK x hx hm
  have hnear := near_eqn32 K hK x hx hm
  rw [← hT] at hcut
  rw [← hrn] at hnear
  have hup := cutE_up (val Ieee.single (x % 2147483648)) K
  rw [← hrn, ← hT] at hup
  rw [← hT]
  obtain ⟨Rt, t1, t2, t3⟩ := iw32 K hK (decide (2147483648 ≤ x)) T (by omega)
  have modw : Ieee.single.word (decide (2147483648 ≤ x)) Rt % 2147483648 = Rt := by
    have := rung_word Ieee.single (decide (2147483648 ≤ x)) Rt (by rw [sw32]; omega)
    rw [rung32] at this; exact this
  have ltw : Ieee.single.word (decide (2147483648 ≤ x)) Rt < 4294967296 := word32_lt _ _ (by omega)
  have hdm := Nat.div_add_mod (val Ieee.single (x % 2147483648)) (2 ^ K)
  rw [← hT, Nat.mul_comm] at hdm
  have hRtm : Rt < x % 2147483648 := by
    rcases Nat.lt_or_ge Rt (x % 2147483648) with h | h
    · exact h
    · exfalso
      have : val Ieee.single (x % 2147483648) ≤ val Ieee.single Rt := by
        rcases Nat.lt_or_eq_of_le h with h1 | h1
        · exact Nat.le_of_lt (val_lt _ h1)
        · rw [h1]; exact Nat.le_refl _
      rw [t3] at this; omega
  obtain ⟨nx1, nx2⟩ := iwnext32 K hK T hTB
  have hord := order32 (Ieee.single.word (decide (2147483648 ≤ x)) Rt) x (by rw [modw]; omega) hv
  have hcn : cn32 (cut32 x) = Ieee.Format.write Ieee.single (.number (decide (2147483648 ≤ x)) T 0) := by rw [hcut, cniw32 K hK _ T (by omega)]
  rcases hk with rfl | rfl | rfl | rfl
  · show ((ceil32 x : Nat) : Int) = ((Ieee.Format.write Ieee.single (.number (decide (2147483648 ≤ x)) (T + (!decide (2147483648 ≤ x)).toNat) 0) : Nat) : Int)
    unfold ceil32
    by_cases h : 2147483648 ≤ x
    · have hgt : Ieee.single.order (cut32 x) x = some .gt := by
        rw [hcut, t1, hord, cmp_gt]
        rw [key32_neg x hx h, key32 _ ltw, modw, if_pos (by unfold Ieee.Format.word; rw [decide_eq_true h, if_pos rfl, sw32]; omega)]; omega
      rw [hgt, hcn, decide_eq_true h]; rfl
    · have hlt : Ieee.single.order (cut32 x) x = some .lt := by
        rw [hcut, t1, hord, cmp_lt]
        rw [key32_pos x hx h, key32 _ ltw, modw, if_neg (by unfold Ieee.Format.word; rw [decide_eq_false h]; simp only [Bool.false_eq_true, if_false]; omega)]; omega
      rw [hlt, hcut, decide_eq_false h]
      exact congrArg (fun n : Nat => (n : Int)) nx1
  · show ((floor32 x : Nat) : Int) = ((Ieee.Format.write Ieee.single (.number (decide (2147483648 ≤ x)) (T + (decide (2147483648 ≤ x)).toNat) 0) : Nat) : Int)
    unfold floor32
    by_cases h : 2147483648 ≤ x
    · have hgt : Ieee.single.order (cut32 x) x = some .gt := by
        rw [hcut, t1, hord, cmp_gt]
        rw [key32_neg x hx h, key32 _ ltw, modw, if_pos (by unfold Ieee.Format.word; rw [decide_eq_true h, if_pos rfl, sw32]; omega)]; omega
      rw [hgt, hcut, decide_eq_true h]
      exact congrArg (fun n : Nat => (n : Int)) nx2
    · have hlt : Ieee.single.order (cut32 x) x = some .lt := by
        rw [hcut, t1, hord, cmp_lt]
        rw [key32_pos x hx h, key32 _ ltw, modw, if_neg (by unfold Ieee.Format.word; rw [decide_eq_false h]; simp only [Bool.false_eq_true, if_false]; omega)]; omega
      rw [hlt, hcn, decide_eq_false h]; rfl
  · show ((cn32 (cut32 x) : Nat) : Int) = ((Ieee.Format.write Ieee.single (.number (decide (2147483648 ≤ x)) T 0) : Nat) : Int)
    rw [hcn]
  · show ((cn32 (near32 x) : Nat) : Int) = ((Ieee.Format.write Ieee.single (.number (decide (2147483648 ≤ x)) (T + (nearUp (val Ieee.single (x % 2147483648)) K).toNat) 0) : Nat) : Int)
    rw [← hup, hnear, cniw32 K hK _ rn (by omega)]

theorem fnan32 (x : Nat) (h : 2139095040 < x % 2147483648) (k : Int) (hk : k = 2 ∨ k = 3 ∨ k = 4 ∨ k = 5) : fl32 (139 + k) x 0 = 2143289344 := by
  have ho : ∀ y, Ieee.single.order x y = none := fun y => order32_nan x y (.inl h)
  have hc : cut32 x = x := by unfold cut32; rw [ho]; rfl
  have hn : near32 x = x := by unfold near32; rw [ho]; rfl
  have hcn : cn32 x = 2143289344 := by unfold cn32; rw [nan32, decide_eq_true h]; rfl
  rcases hk with rfl | rfl | rfl | rfl
  · show ((ceil32 x : Nat) : Int) = _
    unfold ceil32; rw [hc, ho, hcn]; rfl
  · show ((floor32 x : Nat) : Int) = _
    unfold floor32; rw [hc, ho, hcn]; rfl
  · show ((cn32 (cut32 x) : Nat) : Int) = _
    rw [hc, hcn]; rfl
  · show ((cn32 (near32 x) : Nat) : Int) = _
    rw [hn, hcn]; rfl

theorem lim32 : (127 + 24 - 1) * Ieee.single.binade = 1258291200 := by decide +kernel
theorem nanOf32 : ((nanOf Ieee.single : Nat) : Int) = 2143289344 := by decide +kernel

theorem wh32 (k : Int) (hk : k = 2 ∨ k = 3 ∨ k = 4 ∨ k = 5) (x : Nat) (hx : x < 4294967296) : numm_whole.F k 32 x = fl32 (139 + k) x 0 ∧ numm_whole.Pre k 32 x := by
  obtain ⟨K, hK⟩ : ∃ K : Nat, K = 149 := ⟨_, rfl⟩
  obtain ⟨w1, w2⟩ := fm32.whole_F k hk x hx K hK
  refine ⟨?_, w2⟩
  rw [w1, ir32, rung32, sgb32 x hx, lim32]
  clear w1 w2
  by_cases hn : 2139095040 < x % 2147483648
  · rw [if_pos hn, nanOf32, fnan32 x hn k hk]
  · rw [if_neg hn]
    by_cases hw : 1258291200 ≤ x % 2147483648 ∨ val Ieee.single (x % 2147483648) % 2 ^ K = 0
    · rw [if_pos hw]
      obtain ⟨q1, q2, q3, q4⟩ := whole_yes32 K hK x hx (by omega) hw
      rcases hk with rfl | rfl | rfl | rfl
      · exact q1.symm
      · exact q2.symm
      · exact q3.symm
      · exact q4.symm
    · rw [if_neg hw]
      exact (frac32 K hK x hx (by omega) (fun h => hw (.inr h)) k hk).symm

/-! ### 64 bits -/
theorem frac64 (K : Nat) (hK : K = 1074) (x : Nat) (hx : x < 18446744073709551616) (hm : x % 9223372036854775808 < 4841369599423283200) (hfr : val Ieee.double (x % 9223372036854775808) % 2 ^ K ≠ 0) (k : Int) (hk : k = 2 ∨ k = 3 ∨ k = 4 ∨ k = 5) :
    fl64 (153 + k) x 0 = ((Ieee.Format.write Ieee.double (.number (decide (9223372036854775808 ≤ x)) (val Ieee.double (x % 9223372036854775808) / 2 ^ K + (upK k (decide (9223372036854775808 ≤ x)) (nearUp (val Ieee.double (x % 9223372036854775808)) K)).toNat) 0) : Nat) : Int) := by
  have hp := Nat.two_pow_pos K
  have hv : x % 9223372036854775808 ≤ 9218868437227405312 := by omega
  have hV := vali64 K hK _ hm
  obtain ⟨T, hT⟩ : ∃ T : Nat, T = val Ieee.double (x % 9223372036854775808) / 2 ^ K := ⟨_, rfl⟩
  have hTB : T < 4503599627370496 := by rw [hT]; exact (Nat.div_lt_iff_lt_mul hp).2 hV
  obtain ⟨rn, hrn⟩ : ∃ rn : Nat, rn = cutE (val Ieee.double (x % 9223372036854775808)) K := ⟨_, rfl⟩
  have hrnB : rn ≤ 4503599627370496 := by rw [hrn]; exact cutE_le _ K 4503599627370496 hV
  have hcut := trunc_eq64 K hK x hx hm
  have hnear := near_eqn64 K hK x hx hm
  rw [← hT] at hcut
  rw [← hrn] at hnear
  have hup := cutE_up (val Ieee.double (x % 9223372036854775808)) K
  rw [← hrn, ← hT] at hup
  rw [← hT]
  obtain ⟨Rt, t1, t2, t3⟩ := iw64 K hK (decide (9223372036854775808 ≤ x)) T (by omega)
  have modw : Ieee.double.word (decide (9223372036854775808 ≤ x)) Rt % 9223372036854775808 = Rt := by
    have := rung_word Ieee.double (decide (9223372036854775808 ≤ x)) Rt (by rw [sw64]; omega)
    rw [rung64] at this; exact this
  have ltw : Ieee.double.word (decide (9223372036854775808 ≤ x)) Rt < 18446744073709551616 := word64_lt _ _ (by omega)
  have hdm := Nat.div_add_mod (val Ieee.double (x % 9223372036854775808)) (2 ^ K)
  rw [← hT, Nat.mul_comm] at hdm
  have hRtm : Rt < x % 9223372036854775808 := by
    rcases Nat.lt_or_ge Rt (x % 9223372036854775808) with h | h
    · exact h
    · exfalso
      have : val Ieee.double (x % 9223372036854775808) ≤ val Ieee.double Rt := by
        rcases Nat.lt_or_eq_of_le h with h1 | h1
        · exact Nat.le_of_lt (val_lt _ h1)
        · rw [h1]; exact Nat.le_refl _
      rw [t3] at this; omega
  obtain ⟨nx1, nx2⟩ := iwnext64 K hK T hTB
  have hord := order64 (Ieee.double.word (decide (9223372036854775808 ≤ x)) Rt) x (by rw [modw]; omega) hv
  have hcn : cn64 (cut64 x) = Ieee.Format.write Ieee.double (.number (decide (9223372036854775808 ≤ x)) T 0) := by rw [hcut, cniw64 K hK _ T (by omega)]
  rcases hk with rfl | rfl | rfl | rfl
  · show ((ceil64 x : Nat) : Int) = ((Ieee.Format.write Ieee.double (.number (decide (9223372036854775808 ≤ x)) (T + (!decide (9223372036854775808 ≤ x)).toNat) 0) : Nat) : Int)
    unfold ceil64
    by_cases h : 9223372036854775808 ≤ x
    · have hgt : Ieee.double.order (cut64 x) x = some .gt := by
        rw [hcut, t1, hord, cmp_gt]
        rw [key64_neg x hx h, key64 _ ltw, modw, if_pos (by unfold Ieee.Format.word; rw [decide_eq_true h, if_pos rfl, sw64]; omega)]; omega
      rw [hgt, hcn, decide_eq_true h]; rfl
    · have hlt : Ieee.double.order (cut64 x) x = some .lt := by
        rw [hcut, t1, hord, cmp_lt]
        rw [key64_pos x hx h, key64 _ ltw, modw, if_neg (by unfold Ieee.Format.word; rw [decide_eq_false h]; simp only [Bool.false_eq_true, if_false]; omega)]; omega
      rw [hlt, hcut, decide_eq_false h]
      exact congrArg (fun n : Nat => (n : Int)) nx1
  · show ((floor64 x : Nat) : Int) = ((Ieee.Format.write Ieee.double (.number (decide (9223372036854775808 ≤ x)) (T + (decide (9223372036854775808 ≤ x)).toNat) 0) : Nat) : Int)
    unfold floor64
    by_cases h : 9223372036854775808 ≤ x
    · have hgt : Ieee.double.order (cut64 x) x = some .gt := by
        rw [hcut, t1, hord, cmp_gt]
        rw [key64_neg x hx h, key64 _ ltw, modw, if_pos (by unfold Ieee.Format.word; rw [decide_eq_true h, if_pos rfl, sw64]; omega)]; omega
      rw [hgt, hcut, decide_eq_true h]
      exact congrArg (fun n : Nat => (n : Int)) nx2
    · have hlt : Ieee.double.order (cut64 x) x = some .lt := by
        rw [hcut, t1, hord, cmp_lt]
        rw [key64_pos x hx h, key64 _ ltw, modw, if_neg (by unfold Ieee.Format.word; rw [decide_eq_false h]; simp only [Bool.false_eq_true, if_false]; omega)]; omega
      rw [hlt, hcn, decide_eq_false h]; rfl
  · show ((cn64 (cut64 x) : Nat) : Int) = ((Ieee.Format.write Ieee.double (.number (decide (9223372036854775808 ≤ x)) T 0) : Nat) : Int)
    rw [hcn]
  · show ((cn64 (near64 x) : Nat) : Int) = ((Ieee.Format.write Ieee.double (.number (decide (9223372036854775808 ≤ x)) (T + (nearUp (val Ieee.double (x % 9223372036854775808)) K).toNat) 0) : Nat) : Int)
    rw [← hup, hnear, cniw64 K hK _ rn (by omega)]

theorem fnan64 (x : Nat) (h : 9218868437227405312 < x % 9223372036854775808) (k : Int) (hk : k = 2 ∨ k = 3 ∨ k = 4 ∨ k = 5) : fl64 (153 + k) x 0 = 9221120237041090560 := by
  have ho : ∀ y, Ieee.double.order x y = none := fun y => order64_nan x y (.inl h)
  have hc : cut64 x = x := by unfold cut64; rw [ho]; rfl
  have hn : near64 x = x := by unfold near64; rw [ho]; rfl
  have hcn : cn64 x = 9221120237041090560 := by unfold cn64; rw [nan64, decide_eq_true h]; rfl
  rcases hk with rfl | rfl | rfl | rfl
  · show ((ceil64 x : Nat) : Int) = _
    unfold ceil64; rw [hc, ho, hcn]; rfl
  · show ((floor64 x : Nat) : Int) = _
    unfold floor64; rw [hc, ho, hcn]; rfl
  · show ((cn64 (cut64 x) : Nat) : Int) = _
    rw [hc, hcn]; rfl
  · show ((cn64 (near64 x) : Nat) : Int) = _
    rw [hn, hcn]; rfl

theorem lim64 : (1023 + 53 - 1) * Ieee.double.binade = 4841369599423283200 := by decide +kernel
theorem nanOf64 : ((nanOf Ieee.double : Nat) : Int) = 9221120237041090560 := by decide +kernel

theorem wh64 (k : Int) (hk : k = 2 ∨ k = 3 ∨ k = 4 ∨ k = 5) (x : Nat) (hx : x < 18446744073709551616) : numm_whole.F k 64 x = fl64 (153 + k) x 0 ∧ numm_whole.Pre k 64 x := by
  obtain ⟨K, hK⟩ : ∃ K : Nat, K = 1074 := ⟨_, rfl⟩
  obtain ⟨w1, w2⟩ := fm64.whole_F k hk x hx K hK
  refine ⟨?_, w2⟩
  rw [w1, ir64, rung64, sgb64 x hx, lim64]
  clear w1 w2
  by_cases hn : 9218868437227405312 < x % 9223372036854775808
  · rw [if_pos hn, nanOf64, fnan64 x hn k hk]
  · rw [if_neg hn]
    by_cases hw : 4841369599423283200 ≤ x % 9223372036854775808 ∨ val Ieee.double (x % 9223372036854775808) % 2 ^ K = 0
    · rw [if_pos hw]
      obtain ⟨q1, q2, q3, q4⟩ := whole_yes64 K hK x hx (by omega) hw
      rcases hk with rfl | rfl | rfl | rfl
      · exact q1.symm
      · exact q2.symm
      · exact q3.symm
      · exact q4.symm
    · rw [if_neg hw]
      exact (frac64 K hK x hx (by omega) (fun h => hw (.inr h)) k hk).symm

end Go.Proofs.Qxb6500320a
