/-
  The model's conversions from integers and between the floats.
-/
import Derived.Test.Qxb6500320aRfK
set_option linter.unusedSimpArgs false
set_option linter.unusedVariables false
set_option linter.unusedSectionVars false
set_option maxRecDepth 100000
namespace Go.Proofs.Qxb6500320a
open Go Go.Vc

section
variable {fi ni : Int} {p bi p' bi' : Nat} {f g : Ieee.Format}

theorem Fm.minusF (G : Fm ni p' bi' g) (v : Nat) (hv : v < 2 * g.signWeight) : numm_minus.F ni v = (((2 * g.signWeight - v) % (2 * g.signWeight) : Nat) : Int) := by
  have h1 := G.sw2
  have hpos : 0 < g.signWeight := Nat.two_pow_pos _
  unfold numm_minus.F
  rw [G.msk]
  have e1 : IntKind.wrap .u64 (((2 * g.signWeight - 1 : Nat) : Int) - (v : Int)) = ((2 * g.signWeight - 1 - v : Nat) : Int) := by rw [wrap_u64 (by omega) (by omega)]; omega
  have e2 : ((2 * g.signWeight - 1 - v : Nat) : Int) + 1 = ((2 * g.signWeight - v : Nat) : Int) := by omega
  rw [e1, e2, wrap_u64_mod]
  have e3 : ((2 * g.signWeight - v : Nat) : Int) % 18446744073709551616 = (((2 * g.signWeight - v) % 18446744073709551616 : Nat) : Int) := by omega
  have e4 : 2 * g.signWeight = 2 ^ (g.exponentBits + g.fractionBits + 1) := by rw [Nat.pow_succ, Nat.mul_comm]; rfl
  rw [e3, bAnd64_n _ _ (Nat.mod_lt _ (by decide)) (by omega)]
  have e5 : ∀ z, z &&& (2 * g.signWeight - 1) = z % (2 * g.signWeight) := by
    intro z; rw [e4]; exact Nat.and_two_pow_sub_one_eq_mod z _
  rw [e5, Nat.mod_mod_of_dvd]
  have c64 : (18446744073709551616 : Nat) = 2 ^ 64 := by decide
  rw [e4, c64]
  apply Nat.pow_dvd_pow
  have c63 : (9223372036854775808 : Nat) = 2 ^ 63 := by decide
  have h2 : g.signWeight = 2 ^ (g.exponentBits + g.fractionBits) := rfl
  rw [h2, c63] at h1
  have := (Nat.pow_le_pow_iff_right (show 1 < 2 by decide)).1 h1
  omega

theorem Fm.fromInt_spec (F : Fm fi p bi f) (G : Fm ni p' bi' g) (sg : Bool) (a : Nat) (ha : a < 2 * g.signWeight) (X : Int) (hX : X = if sg = true ∧ g.signWeight ≤ a then (a : Int) - 2 * g.signWeight else (a : Int)) (w : World) :
    Runs Try.prog numm_fromInt.id #[.int .i64 fi, .int .i64 ni, .bool sg, .int .u64 (a : Int)] w fun v w' => v = .int .u64 ((f.write (.number (decide (X < 0)) X.natAbs 0) : Nat) : Int) ∧ w' = w := by
  have h1 := G.sw2
  have hpos : 0 < g.signWeight := Nat.two_pow_pos _
  refine numm_fromInt.enter _ _ _ _ _ _ ?_
  unfold numm_fromInt.V
  by_cases h0 : a = 0
  · subst h0
    refine cond_true' rfl ⟨?_, rfl⟩
    rw [if_neg (by omega)] at hX
    subst hX
    have : f.write (.number (decide ((((0 : Nat) : Int)) < 0)) (((0 : Nat) : Int)).natAbs 0) = f.word false 0 := F.zeroW false 0
    rw [this]; rfl
  · refine cond_false' (by rw [beq_eq_false_iff_ne]; omega) ?_
    have one : ∀ t : Bool, (t = true ↔ sg = true ∧ g.signWeight ≤ a) → ∀ R : Value → World → Prop, R (.int .u64 ((f.write (.number (decide (X < 0)) X.natAbs 0) : Nat) : Int)) w → numm_fromInt.L1 fi ni a t R w := by
      intro t ht R hR
      refine numm_fromInt.step1 _ _ _ _ _ _ ?_
      unfold numm_fromInt.V1
      cases t
      · refine cond_false' rfl ?_
        rw [if_neg (fun h => by have := ht.2 h; cases this)] at hX
        refine Runs.pure_bind (round_spec F false a 0 false h0 (by omega) (fun h => by cases h) (by decide) (by decide) w) ⟨_, rfl, ?_⟩
        rw [rd_exact]
        rw [hX, decide_eq_false (by omega), Int.natAbs_natCast] at hR
        exact hR
      · refine cond_true' rfl ?_
        obtain ⟨-, h2⟩ := ht.1 rfl
        rw [if_pos (ht.1 rfl)] at hX
        refine Runs.pure_bind (numm_minus.pure ni a w) ⟨_, rfl, ?_⟩
        rw [G.minusF a ha, Nat.mod_eq_of_lt (by omega)]
        refine Runs.pure_bind (round_spec F true (2 * g.signWeight - a) 0 false (by omega) (by omega) (fun h => by cases h) (by decide) (by decide) w) ⟨_, rfl, ?_⟩
        rw [rd_exact]
        have e : X.natAbs = 2 * g.signWeight - a := by omega
        rw [decide_eq_true (by omega), e] at hR
        exact hR
    cases sg
    · refine cond_false' rfl ?_
      refine one false ⟨fun h => ?_, fun h => ?_⟩ _ ⟨rfl, rfl⟩
      · cases h
      · cases h.1
    · refine cond_true' rfl ?_
      refine Runs.pure_bind (numm_top.pure ni w G.topP) ⟨_, rfl, ?_⟩
      rw [G.topF]
      refine one _ ?_ _ ⟨rfl, rfl⟩
      rw [decide_eq_true_iff]
      constructor
      · intro h; exact ⟨rfl, by omega⟩
      · intro h; have := h.2; omega

/-- A datum written in a format, a NaN as the canonical one. -/
def reF (g : Ieee.Format) (d : Ieee.Datum) : Nat := match d with
  | .nan _ _ => nanOf g
  | .infinity s => g.word s g.infRung
  | .number s m i => g.write (.number s m i)

theorem Fm.reformat_spec (F : Fm fi p bi f) (G : Fm ni p' bi' g) (a : Nat) (ha : a < 2 * f.signWeight) (w : World) :
    Runs Try.prog numm_reformat.id #[.int .i64 fi, .int .i64 ni, .int .u64 (a : Int)] w fun v w' => v = .int .u64 ((reF g (f.read a) : Nat) : Int) ∧ w' = w := by
  have hp1 := F.p1
  have hp2 := F.p2
  have hb1 := F.b1
  have hb2 := F.b2
  have hl := F.least
  have h53 := F.two53
  refine numm_reformat.enter _ _ _ _ _ ?_
  unfold numm_reformat.V
  refine Runs.pure_bind (numm_unpack.pure fi a w (F.unpackP a)) ⟨_, _, _, _, rfl, ?_⟩
  rw [F.unpackF a ha]
  cases hra : f.read a with
  | nan s t =>
    refine cond_true' rfl ?_
    refine Runs.pure_bind (numm_canon.pure ni w) ⟨_, rfl, ?_, rfl⟩
    rw [G.canon]; rfl
  | infinity s =>
    obtain ⟨rfl, -⟩ := F.read_sg a s hra
    refine cond_false' rfl (cond_true' rfl ?_)
    refine Runs.pure_bind (numm_infinity.pure ni _ w ⟨G.signP _, G.infP, trivial⟩) ⟨_, rfl, ?_, rfl⟩
    rw [G.infinityF]; rfl
  | number s m i =>
    obtain ⟨rfl, hm, hi0, hi1⟩ := F.un_read a s m i hra
    unfold un
    by_cases h0 : m = 0
    · subst h0
      refine cond_false' rfl (cond_false' rfl (cond_true' rfl ?_))
      refine Runs.pure_bind (numm_sign.pure ni _ w (G.signP _)) ⟨_, rfl, ?_, by trivial⟩
      unfold reF
      simp only
      rw [G.signF, G.zeroW]
    · simp only [if_neg h0]
      refine cond_false' rfl (cond_false' rfl (cond_false' rfl ?_))
      refine Runs.pure_bind (round_spec G (sgb f a) m i false h0 (by omega) (fun h => by cases h) (by omega) (by omega) w) ⟨_, rfl, ?_, by trivial⟩
      rw [rd_exact]; rfl
end

theorem reF_nan (g : Ieee.Format) (s : Bool) (t : Nat) : reF g (.nan s t) = nanOf g := rfl
theorem reF_inf (g : Ieee.Format) (s : Bool) : reF g (.infinity s) = g.word s g.infRung := rfl
theorem reF_num (g : Ieee.Format) (s : Bool) (m : Nat) (i : Int) : reF g (.number s m i) = g.write (.number s m i) := rfl
theorem enc64 (d : Ieee.Datum) : FloatKind.encode .f64 d = Ieee.double.write d := rfl
theorem enc32 (d : Ieee.Datum) : FloatKind.encode .f32 d = Ieee.single.write d := rfl
theorem ar64_some (r : Nat) (h : (Ieee.double.read r).isNaN = false) : ar64 (some r) = r := by
  show cn64 r = r
  unfold cn64; rw [h]; rfl
theorem ar32_some (r : Nat) (h : (Ieee.single.read r).isNaN = false) : ar32 (some r) = r := by
  show cn32 r = r
  unfold cn32; rw [h]; rfl
theorem ar64_none : ar64 none = nanOf Ieee.double := by decide
theorem ar32_none : ar32 none = nanOf Ieee.single := by decide
theorem winf64 (s : Bool) : Ieee.double.write (.infinity s) = Ieee.double.word s Ieee.double.infRung := rfl

/-! ### Promote, demote -/
theorem promote_eq (x : Nat) (hx : x < 4294967296) : ar64 (floatToFloatBits .f32 x .f64) = reF Ieee.double (Ieee.single.read x) := by
  have hp := promote_ok x
  unfold floatToFloatBits at hp ⊢
  rw [if_neg (by decide)] at hp ⊢
  have hd : FloatKind.decode .f32 x = Ieee.single.read x := rfl
  rw [hd] at hp ⊢
  cases hr : Ieee.single.read x with
  | nan s t => simp only; rw [ar64_none, reF_nan]
  | infinity s =>
    simp only
    rw [enc64, ar64_some _ (write_not_nan Ieee.double double_bi _ rfl), reF_inf, winf64]
  | number s m i =>
    rw [hr] at hp
    obtain ⟨r, h⟩ := hp rfl
    simp only at h ⊢
    split at h
    · cases h
    · rename_i hh
      rw [if_neg hh, enc64, ar64_some _ (write_not_nan Ieee.double double_bi _ rfl), reF_num]

theorem demote_top (v : Nat) (h0 : 5183643170835005440 ≤ v) (h1 : v < 9218868437227405312) (s : Bool) : 2139095040 ≤ rungOf Ieee.single s (pm64 v) (pe64 v) := by
  have hpm : pm64 v = 4503599627370496 + v % 4503599627370496 := by unfold pm64; rw [if_neg (by omega)]
  have hpe : pe64 v = -1074 + ((v / 4503599627370496 - 1 : Nat) : Int) := by unfold pe64; rw [if_neg (by omega)]
  have hlog : (pm64 v).log2 = 52 := by
    rw [hpm]
    refine (Nat.log2_eq_iff (by omega)).2 ⟨?_, ?_⟩
    · have : (2 : Nat) ^ 52 = 4503599627370496 := by decide
      omega
    · have : (2 : Nat) ^ (52 + 1) = 9007199254740992 := by decide
      omega
  have slp' := slp
  unfold rungOf
  rw [hlog, slp, sfrac, sbin]
  have hq : 1150 ≤ v / 4503599627370496 := by omega
  have e1 : max (pe64 v + ((52 : Nat) : Int) - ((23 : Nat) : Int)) (-149) = pe64 v + 29 := by omega
  rw [e1, cut_eq]
  have e2 : (pe64 v - (pe64 v + 29)).toNat = 0 := by omega
  have e3 : (pe64 v + 29 - pe64 v).toNat = 29 := by omega
  rw [e2, e3, Nat.shiftLeft_zero]
  unfold cutE
  have c29 : (2 : Nat) ^ 29 = 536870912 := by decide
  rw [c29]
  by_cases hc : v / 4503599627370496 = 1150
  · have hm : 9007198986305536 ≤ pm64 v := by omega
    have e4 : (pe64 v + 29 - -149).toNat = 253 := by omega
    rw [e4]
    have hlt : pm64 v < 9007199254740992 := by omega
    generalize pm64 v = m at *
    have q : m / 536870912 = 16777215 := by omega
    rw [q]
    have : (decide (536870912 < 2 * (m % 536870912)) || (536870912 == 2 * (m % 536870912) && 16777215 % 2 == 1)) = true := by
      rw [Bool.or_eq_true, decide_eq_true_iff, Bool.and_eq_true, beq_iff_eq]
      by_cases h : 536870912 < 2 * (m % 536870912)
      · exact .inl h
      · exact .inr ⟨by omega, rfl⟩
    rw [this]
    decide
  · have e4 : 254 ≤ (pe64 v + 29 - -149).toNat := by omega
    have hm : 4503599627370496 ≤ pm64 v := by omega
    have q : 8388608 ≤ pm64 v / 536870912 := by omega
    have := Nat.mul_le_mul_right 8388608 e4
    omega

theorem demote_eq (x : Nat) (hx : x < 18446744073709551616) : dem x = (((reF Ieee.single (Ieee.double.read x) : Nat) : Int), 0) := by
  by_cases hn : 9218868437227405312 < x % 9223372036854775808
  · have hnan := nan64 x
    rw [decide_eq_true hn] at hnan
    unfold dem
    rw [order64_nan x 5183643170835005440 (.inl hn), order64_nan x 14407015207689781248 (.inl hn)]
    have e : floatToFloatBits .f64 x .f32 = none := nan_demote hnan
    rw [e]
    cases hd : Ieee.double.read x with
    | nan s t =>
      rw [reF_nan, ar32_none]
      decide
    | infinity s => rw [hd] at hnan; cases hnan
    | number s m i => rw [hd] at hnan; cases hnan
  · by_cases hi : x % 9223372036854775808 = 9218868437227405312
    · have : x = 9218868437227405312 ∨ x = 18442240474082181120 := by omega
      rcases this with rfl | rfl <;> decide +kernel
    · have hfin : x % 9223372036854775808 < 9218868437227405312 := by omega
      have hread := readS64 x hx hfin
      have k1 : key Ieee.double 5183643170835005440 = 5183643170835005440 := by decide
      have k2 : key Ieee.double 14407015207689781248 = -5183643170835005440 := by decide
      have hv : x % 9223372036854775808 ≤ 9218868437227405312 := by omega
      have o1 := order64 x 5183643170835005440 hv (by decide)
      have o2 := order64 x 14407015207689781248 hv (by decide)
      rw [k1] at o1
      rw [k2] at o2
      unfold dem
      by_cases hbig : 5183643170835005440 ≤ x % 9223372036854775808
      · rw [hread]
        have hw : reF Ieee.single (.number (decide (9223372036854775808 ≤ x)) (pm64 (x % 9223372036854775808)) (pe64 (x % 9223372036854775808))) = Ieee.single.word (decide (9223372036854775808 ≤ x)) 2139095040 := by
          rw [reF_num]
          have hpm : pm64 (x % 9223372036854775808) ≠ 0 := by unfold pm64; split <;> omega
          rw [write_number, if_neg hpm, ir32, Nat.min_eq_right (demote_top _ hbig hfin _)]
        rw [hw]
        rw [o1, o2, beq_gt, beq_eq, beq_lt, beq_eq]
        by_cases hs : 9223372036854775808 ≤ x
        · rw [key64_neg x hx hs, decide_eq_true hs]
          have a1 : decide ((5183643170835005440 : Int) < -((x % 9223372036854775808 : Nat) : Int)) = false := decide_eq_false (by omega)
          have a2 : decide (-((x % 9223372036854775808 : Nat) : Int) = 5183643170835005440) = false := decide_eq_false (by omega)
          rw [a1, a2]
          have a3 : (decide (-((x % 9223372036854775808 : Nat) : Int) < -5183643170835005440) || decide (-((x % 9223372036854775808 : Nat) : Int) = -5183643170835005440)) = true := by
            rw [Bool.or_eq_true, decide_eq_true_iff, decide_eq_true_iff]; omega
          rw [a3]; rfl
        · rw [key64_pos x hx hs, decide_eq_false hs]
          have a3 : (decide ((5183643170835005440 : Int) < ((x % 9223372036854775808 : Nat) : Int)) || decide (((x % 9223372036854775808 : Nat) : Int) = 5183643170835005440)) = true := by
            rw [Bool.or_eq_true, decide_eq_true_iff, decide_eq_true_iff]; omega
          rw [a3]; rfl
      · have hk : -5183643170835005440 < key Ieee.double x ∧ key Ieee.double x < 5183643170835005440 := by
          by_cases hs : 9223372036854775808 ≤ x
          · rw [key64_neg x hx hs]; omega
          · rw [key64_pos x hx hs]; omega
        have t1 : (Ieee.double.order x 5183643170835005440 == some .gt || Ieee.double.order x 5183643170835005440 == some .eq) = false := by
          rw [o1, beq_gt, beq_eq, decide_eq_false (by omega), decide_eq_false (by omega)]; rfl
        have t2 : (Ieee.double.order x 14407015207689781248 == some .lt || Ieee.double.order x 14407015207689781248 == some .eq) = false := by
          rw [o2, beq_lt, beq_eq, decide_eq_false (by omega), decide_eq_false (by omega)]; rfl
        rcases demote_fits x t1 t2 with hnan | ⟨q, hq⟩
        · rw [hread] at hnan; cases hnan
        rw [t1, t2, cond_false, cond_false, hq]
        have hq' := hq
        unfold floatToFloatBits at hq'
        rw [if_neg (by decide)] at hq'
        have hd : FloatKind.decode .f64 x = .number (decide (9223372036854775808 ≤ x)) (pm64 (x % 9223372036854775808)) (pe64 (x % 9223372036854775808)) := hread
        rw [hd] at hq'
        simp only at hq'
        split at hq'
        · cases hq'
        · rename_i hni
          simp only [Option.some.injEq] at hq'
          have hq32 := ftf32_lt x q hq
          have hcn : ar32 (some q) = q := by
            rw [← hq', enc32]
            exact ar32_some _ (write_not_nan Ieee.single single_bi _ rfl)
          rw [hcn]
          unfold W64
          rw [wrap64_n q (by omega), hread, reF_num, ← enc32, hq']

end Go.Proofs.Qxb6500320a
