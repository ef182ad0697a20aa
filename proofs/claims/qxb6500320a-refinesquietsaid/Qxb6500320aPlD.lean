/-
  KeepsPlain: from an integer, one rounding.
-/
import Derived.Test.Qxb6500320aPlC
set_option linter.unusedSimpArgs false
set_option linter.unusedVariables false
set_option maxRecDepth 100000
namespace Go.Proofs.Qxb6500320a
open Go Go.Vc

theorem rungOf_sign (f : Ieee.Format) (s t : Bool) (m : Nat) (i : Int) : rungOf f s m i = rungOf f t m i := by unfold rungOf; rw [cut_eq, cut_eq]
theorem write_sign (f : Ieee.Format) (s : Bool) (m : Nat) (i : Int) (r : Nat) (hr : r < f.infRung) (h : f.write (.number false m i) = f.word false r) : f.write (.number s m i) = f.word s r := by
  rw [write_number] at h ⊢
  have hsw := f.infRung_lt
  have e : (if m = 0 then 0 else min (rungOf f false m i) f.infRung) = r := h
  rw [rungOf_sign f s false, e]

/-! ### 32 bits -/
theorem CutX32_spec (x : Nat) (hx : x < 4294967296) (hv : x % 2147483648 < 2139095040) (he : pe32 (x % 2147483648) ≤ 40) (hex : pm32 (x % 2147483648) % 2 ^ (-(pe32 (x % 2147483648))).toNat = 0) (w : World) : Runs Try.prog numlaw_CutOf.id #[fmt32.val, .int .i64 24, .int .u64 x] w fun r w' => r = .tuple #[.int .u64 ((cutN32 (x % 2147483648) : Nat) : Int), .bool true, .bool true] ∧ Same [] w.heap.size w w' := by
  refine numlaw_CutOf.enter 139 146 91 2147483648 2139095040 2143289344 24 x _ _ ?_
  unfold numlaw_CutOf.V
  refine letB_intro fun b hb => letW_intro fun w0 hw0 => ?_
  have f0 : FmtAt w0 b fmt32 := by rw [hw0, hb]; exact FmtAt.new w fmt32 T_numlaw_Fmt
  have T0 : Same [] w.heap.size w w0 := by rw [hw0]; exact (Same.refl _ _ _).alloc (Nat.le_refl _) _
  clear hw0 hb
  have c3 : fmt32.sign = 2147483648 := rfl
  refine ⟨_, _, _, _, _, _, f0.c0, f0.c1, f0.c2, f0.c3, f0.c4, f0.c5, _, f0.c3, ?_⟩
  rw [c3, andnot32 x hx]
  refine (Part32_spec (x % 2147483648) hv w0).mono ?_
  rintro v w1 ⟨rfl, S1⟩
  have T1 := T0.trans (S1.mono T0.size (by simp))
  refine ⟨_, _, rfl, ?_⟩
  have e40 : IntKind.wrap .i64 ((64 : Int) - 24) = 40 := by decide
  rw [e40]
  clear e40 c3
  have hpl := pm32_lt (x % 2147483648)
  have hpg := pe32_ge (x % 2147483648)
  unfold cutN32
  generalize pm32 (x % 2147483648) = m at *
  generalize pe32 (x % 2147483648) = i at *
  refine cond_false' (decide_eq_false (by omega)) ?_
  by_cases hi : 0 ≤ i
  · obtain ⟨I, rfl⟩ : ∃ I : Nat, i = (I : Int) := ⟨i.toNat, by omega⟩
    have e1 : IntKind.wrap .u64 (I : Int) = (I : Int) := wrap64_n I (by omega)
    have hlt : m * 2 ^ I < 18446744073709551616 := by
      have a1 : 2 ^ I ≤ 2 ^ 40 := Nat.pow_le_pow_right (by omega) (by omega)
      have a2 : m * 2 ^ I ≤ 16777215 * 2 ^ 40 := Nat.mul_le_mul (by omega) a1
      have a3 : (16777215 : Nat) * 2 ^ 40 < 18446744073709551616 := by decide
      exact Nat.lt_of_le_of_lt a2 a3
    have e2 : (-(I : Int)).toNat = 0 := by omega
    rw [e1, e2, Int.toNat_natCast, Nat.pow_zero, Nat.div_one]
    refine cond_true' (decide_eq_true (by omega)) ⟨by omega, ?_, T1⟩
    rw [shl64_n m I (by omega), Nat.mod_eq_of_lt hlt]
  · refine cond_false' (decide_eq_false (by omega)) ?_
    obtain ⟨J, hJ⟩ : ∃ J : Nat, i = -(J : Int) := ⟨(-i).toNat, by omega⟩
    subst hJ
    have e1 : (-(J : Int)).toNat = 0 := by omega
    have e2 : (- -(J : Int)).toNat = J := by omega
    rw [e2] at hex
    rw [e1, e2, Nat.pow_zero, Nat.mul_one]
    by_cases hJ64 : 64 ≤ J
    · have a1 : 2 ^ 64 ≤ 2 ^ J := Nat.pow_le_pow_right (by omega) hJ64
      have a2 : (2 : Nat) ^ 64 = 18446744073709551616 := by decide
      rw [Nat.mod_eq_of_lt (by omega)] at hex
      subst hex
      rw [Nat.zero_div]
      exact cond_true' (decide_eq_true (by omega)) ⟨rfl, T1⟩
    · refine cond_false' (decide_eq_false (by omega)) ?_
      have e3 : IntKind.wrap .u64 (IntKind.wrap .i64 (0 - -(J : Int))) = (J : Int) := by
        have : (0 : Int) - -(J : Int) = (J : Int) := by omega
        rw [this, wrap_i64 (by omega) (by omega), wrap64_n J (by omega)]
      rw [e3, fdivk m J (by omega), low_zero m J (by omega) (by omega) hex]
      exact ⟨by omega, by omega, rfl, T1⟩

/-- The word that is nearest to a whole number: exact where it has few digits. -/
theorem few32 (v : Nat) (hv0 : v ≠ 0) (hv : v < 16777216) : ∃ R, (∀ s, Ieee.single.write (.number s v 0) = Ieee.single.word s R) ∧ 0 < R ∧ R < 2139095040 ∧ pe32 R ≤ 0 ∧ -23 ≤ pe32 R ∧ pm32 R = v * 2 ^ (-(pe32 R)).toNat ∧ val Ieee.single R = v * 2 ^ 149 := by
  have hl := log2_lt v 23 (by omega)
  obtain ⟨R, g1, g2, g3⟩ := exact_rung Ieee.single v 0 255 sE (by decide) (by rw [sbin]; omega) (by rw [slp]; decide) (by rw [slp, sfrac]; omega)
  rw [ir32] at g1
  have e0 : ((0 : Int) - Ieee.single.leastPlace).toNat = 149 := by rw [slp]; decide
  rw [e0] at g2
  have hread := read32 R g1
  obtain ⟨m', i', r1, r2, r3⟩ := read_val Ieee.single R (by rw [rung32, ir32]; omega)
  rw [hread] at r1
  simp only [Ieee.Datum.number.injEq] at r1
  obtain ⟨_, rfl, rfl⟩ := r1
  have hrr : rung Ieee.single R = R := by rw [rung32]; omega
  rw [hrr, g2, slp] at r3
  rw [slp] at r2
  have hn := read_norm Ieee.single R false _ _ hread
  rw [sbin, slp] at hn
  have hp0 : pm32 R ≠ 0 := by
    intro h
    rw [h, Nat.zero_mul] at r3
    obtain ⟨Q, hQ⟩ : ∃ Q : Nat, Q = 149 := ⟨_, rfl⟩
    rw [← hQ] at r3
    have := Nat.mul_pos (Nat.pos_of_ne_zero hv0) (Nat.two_pow_pos Q)
    omega
  obtain ⟨Q, hQ⟩ : ∃ Q : Nat, Q = 149 := ⟨_, rfl⟩
  rw [← hQ] at r3 ⊢
  have hlog := log2_pos _ _ _ _ hp0 hv0 r3
  have hlp := log2_lt (pm32 R) 23 (by omega)
  have hR0 : 0 < R := by
    rcases Nat.eq_zero_or_pos R with h | h
    · exfalso; apply hp0; rw [h]; rfl
    · exact h
  have hpl : (pm32 R).log2 = 23 := by
    rcases hn.2 with h | h
    · omega
    · exact (Nat.log2_eq_iff hp0).2 ⟨h, by omega⟩
  obtain ⟨J, hJ⟩ : ∃ J : Nat, pe32 R = -(J : Int) := ⟨(-(pe32 R)).toNat, by omega⟩
  refine ⟨R, g3, hR0, g1, by omega, by omega, ?_, by rw [g2, hQ]⟩
  have eJ : (-(pe32 R)).toNat = J := by omega
  rw [eJ]
  have := pow_shift (pm32 R) v (pe32 R - -149).toNat Q 0 J r3 (by omega)
  rw [Nat.pow_zero, Nat.mul_one] at this
  exact this

theorem Nearest32_spec (neg : Bool) (v : Nat) (hv : v < 18446744073709551616) (hneg : neg = true → v ≠ 0) (w : World) :
    Runs Try.prog numlaw_Nearest.id #[fmt32.val, .int .i64 24, .bool neg, .int .u64 v, .int .u64 ((Ieee.single.write (.number neg v 0) : Nat) : Int)] w fun r w' => r = .bool true ∧ Same [] w.heap.size w w' := by
  refine numlaw_Nearest.enter 139 146 91 2147483648 2139095040 2143289344 24 neg v _ _ _ ?_
  unfold numlaw_Nearest.V
  refine letB_intro fun b hb => letW_intro fun w0 hw0 => ?_
  have f0 : FmtAt w0 b fmt32 := by rw [hw0, hb]; exact FmtAt.new w fmt32 T_numlaw_Fmt
  have T0 : Same [] w.heap.size w w0 := by rw [hw0]; exact (Same.refl _ _ _).alloc (Nat.le_refl _) _
  clear hw0 hb
  have c3 : fmt32.sign = 2147483648 := rfl
  have c4 : fmt32.inf = 2139095040 := rfl
  have hform : ∀ R : Nat, R < 2139095040 → Ieee.single.write (.number neg v 0) = Ieee.single.word neg R → (v ≠ 0 → numlaw_Nearest.L1 24 v R b false (fun (v : Value) (w' : World) => v = .bool true ∧ Same [] w.heap.size w w') w0) → (v = 0 → R = 0) →
      ∃ x13 : Int, World.cell? w0 ⟨b, 3, none⟩ = some (.int .u64 x13) ∧ (cond (!(((bAnd .u64 ((Ieee.single.write (.number neg v 0) : Nat) : Int) x13) != (0 : Int)) == neg)) ((fun (v : Value) (w' : World) => v = .bool true ∧ Same [] w.heap.size w w') (.bool false) w0)
        (∃ x14 : Int, World.cell? w0 ⟨b, 3, none⟩ = some (.int .u64 x14) ∧ (∃ x15 : Int, World.cell? w0 ⟨b, 4, none⟩ = some (.int .u64 x15) ∧ (cond (decide ((bAndNot .u64 ((Ieee.single.write (.number neg v 0) : Nat) : Int) x14) ≥ x15))
  (numlaw_Nearest.L1 24 v (bAndNot .u64 ((Ieee.single.write (.number neg v 0) : Nat) : Int) x14) b true (fun (v : Value) (w' : World) => v = .bool true ∧ Same [] w.heap.size w w') w0)
  (numlaw_Nearest.L1 24 v (bAndNot .u64 ((Ieee.single.write (.number neg v 0) : Nat) : Int) x14) b ((v : Int) == (0 : Int)) (fun (v : Value) (w' : World) => v = .bool true ∧ Same [] w.heap.size w w') w0))))) := by
    intro R hR hw hL hz
    have hwl := word32_lt neg R (by omega)
    have hmod : Ieee.single.word neg R % 2147483648 = R := by
      have := rung_word Ieee.single neg R (by rw [sw32]; omega)
      rw [rung32] at this; exact this
    have e1 : bAnd .u64 ((Ieee.single.word neg R : Nat) : Int) 2147483648 = ((Ieee.single.word neg R &&& 2147483648 : Nat) : Int) := bAnd64_n _ 2147483648 (by omega) (by decide)
    have e2 : Ieee.single.word neg R &&& 2147483648 = 2147483648 * (Ieee.single.word neg R / 2147483648 % 2) := and_pow _ 31
    have e3 : Ieee.single.word neg R / 2147483648 % 2 = neg.toNat := by
      unfold Ieee.Format.word; rw [sw32]
      cases neg <;> simp <;> omega
    rw [hw]
    refine ⟨_, f0.c3, ?_⟩
    rw [c3, e1, e2, e3]
    refine cond_false' (by cases neg <;> decide) ⟨_, f0.c3, _, f0.c4, ?_⟩
    rw [c3, c4, andnot32 _ hwl, hmod]
    refine cond_false' (decide_eq_false (by omega)) ?_
    by_cases h0 : v = 0
    · have hR0 := hz h0
      subst h0 hR0
      refine numlaw_Nearest.step1 _ _ _ _ _ _ _ ?_
      unfold numlaw_Nearest.V1
      exact cond_true' rfl (cond_true' rfl ⟨rfl, T0⟩)
    · have e4 : ((v : Int) == 0) = false := by rw [beq_eq_false_iff_ne]; omega
      rw [e4]; exact hL h0
  by_cases h0 : v = 0
  · have hng : neg = false := by cases neg with | false => rfl | true => exact absurd h0 (hneg rfl)
    refine hform 0 (by decide) ?_ (fun h => absurd h0 h) (fun _ => rfl)
    rw [write_number, if_pos h0]
  by_cases hsm : v < 16777216
  · -- few digits
    obtain ⟨R, q1, q2, q3, q4, q5, q6, _⟩ := few32 v h0 hsm
    refine hform R q3 (q1 neg) (fun _ => ?_) (fun h => absurd h h0)
    refine numlaw_Nearest.step1 _ _ _ _ _ _ _ ?_
    unfold numlaw_Nearest.V1
    refine cond_false' rfl ⟨_, _, _, _, _, _, f0.c0, f0.c1, f0.c2, f0.c3, f0.c4, f0.c5, (Part32_spec R q3 w0).mono ?_⟩
    rintro z w1 ⟨rfl, S1⟩
    have f1 := f0.keep S1
    have T1 := T0.trans (S1.mono T0.size (by simp))
    refine ⟨_, _, rfl, cond_true' (decide_eq_true (by omega)) ⟨_, _, _, _, _, _, f1.c0, f1.c1, f1.c2, f1.c3, f1.c4, f1.c5, ?_⟩⟩
    have hRm : R % 2147483648 = R := by omega
    refine (CutX32_spec R (by omega) (by rw [hRm]; exact q3) (by rw [hRm]; omega) (by rw [hRm, q6]; exact Nat.mul_mod_left _ _) w1).mono ?_
    rintro z w2 ⟨rfl, S2⟩
    refine ⟨_, _, _, rfl, cond_true' rfl ⟨?_, T1.trans (S2.mono T1.size (by simp))⟩⟩
    have hcut : cutN32 (R % 2147483648) = v := by
      rw [hRm]; unfold cutN32
      obtain ⟨J, hJ⟩ : ∃ J : Nat, pe32 R = -(J : Int) := ⟨(-(pe32 R)).toNat, by omega⟩
      have z1 : (pe32 R).toNat = 0 := by omega
      rw [q6, z1, Nat.pow_zero, Nat.mul_one, Nat.mul_div_cancel _ (Nat.two_pow_pos _)]
    rw [hcut]; simp
  · -- many digits
    have hne := h0
    have hL0 : 24 ≤ v.log2 := (Nat.le_log2 hne).2 (by omega)
    have hL1 := log2_lt v 63 (by omega)
    have hself : 2 ^ v.log2 ≤ v := Nat.log2_self_le hne
    have hself2 : v < 2 ^ (v.log2 + 1) := Nat.lt_log2_self
    obtain ⟨e, he⟩ : ∃ e : Nat, v.log2 = 23 + (e + 1) := ⟨v.log2 - 24, by omega⟩
    obtain ⟨R, c, j, w1', w2', w3', w4', w5', w6', w7'⟩ := write_digits Ieee.single v e 0 (e + 1 + 149) (by rw [slp]; omega) (by rw [sfrac, ← Nat.pow_add, ← he]; exact hself) (by
      rw [sfrac, ← Nat.pow_add]
      have : 23 + 1 + (e + 1) = v.log2 + 1 := by omega
      rw [this]; exact hself2) (by rw [sE]; exact Nat.mul_le_mul_right _ (by omega))
    have hw := write_sign Ieee.single neg v 0 R w3' w1'
    rw [ir32] at w3'
    rw [sbin] at w5' w6' w7'
    have hread : Ieee.single.read R = .number false c j := w4'
    rw [read32 R w3'] at hread
    simp only [Ieee.Datum.number.injEq, true_and] at hread
    obtain ⟨hpm, hpe⟩ := hread
    refine hform R w3' hw (fun _ => ?_) (fun h => absurd h h0)
    refine numlaw_Nearest.step1 _ _ _ _ _ _ _ ?_
    unfold numlaw_Nearest.V1
    refine cond_false' rfl ⟨_, _, _, _, _, _, f0.c0, f0.c1, f0.c2, f0.c3, f0.c4, f0.c5, (Part32_spec R w3' w0).mono ?_⟩
    rintro z w1 ⟨rfl, S1⟩
    have T1 := T0.trans (S1.mono T0.size (by simp))
    rw [hpm, hpe]
    refine ⟨_, _, rfl, ?_⟩
    clear hpm hpe w4' hw w1' hform
    have eB : IntKind.wrap .u64 ((1 : Int) * 2 ^ (min (Int.toNat (IntKind.wrap .u64 (IntKind.wrap .i64 (24 - (1 : Int))))) (IntKind.bits .u64))) = 8388608 := by decide
    have e65 : IntKind.wrap .i64 ((65 : Int) - 24) = 41 := by decide
    have e0p : 0 ≤ IntKind.wrap .u64 (IntKind.wrap .i64 (24 - (1 : Int))) := by decide
    rw [eB, e65]
    obtain ⟨b1, b2⟩ := cut_bd v e
    have b4 := cut_tie v e
    have hg := Nat.two_pow_pos e
    have hpe2 : 2 ^ (e + 1) = 2 * 2 ^ e := by rw [Nat.pow_succ, Nat.mul_comm]
    have hj : j = ((e + 1 : Nat) : Int) ∨ (j = ((e + 2 : Nat) : Int) ∧ c = 8388608) := by
      rcases w7' with ⟨_, h⟩ | ⟨h, _, h'⟩
      · left; omega
      · right; exact ⟨by omega, h⟩
    obtain ⟨J, rfl⟩ : ∃ J : Nat, j = (J : Int) := ⟨j.toNat, by omega⟩
    refine cond_false' (decide_eq_false (by omega)) ⟨e0p, cond_false' (decide_eq_false (by omega)) ?_⟩
    clear eB e65 e0p
    have L4 : ∀ d lim : Int, 0 ≤ d → d ≤ lim → (d = lim → c % 2 = 0) → numlaw_Nearest.L4 c d lim (fun (v : Value) (w' : World) => v = .bool true ∧ Same [] w.heap.size w w') w1 := by
      intro d lim h1 h2 h3
      refine numlaw_Nearest.step4 _ _ _ _ _ ?_
      unfold numlaw_Nearest.V4
      refine cond_dec (fun _ => ⟨rfl, T1⟩) (fun hlt => cond_true' (by rw [beq_iff_eq]; omega) ⟨?_, T1⟩)
      rw [and1 c (by omega), h3 (by omega)]; rfl
    have L2 : numlaw_Nearest.L2 24 v c J ((c : Int) == 8388608) (fun (v : Value) (w' : World) => v = .bool true ∧ Same [] w.heap.size w w') w1 := by
      refine numlaw_Nearest.step2 _ _ _ _ _ _ _ ?_
      unfold numlaw_Nearest.V2
      have e65 : IntKind.wrap .i64 ((65 : Int) - 24) = 41 := by decide
      rw [e65]
      clear e65
      have a1 : IntKind.wrap .u64 (J : Int) = (J : Int) := wrap64_n J (by omega)
      have a2 : IntKind.wrap .u64 (IntKind.wrap .i64 ((J : Int) - 1)) = ((J - 1 : Nat) : Int) := by
        have : (J : Int) - 1 = ((J - 1 : Nat) : Int) := by omega
        rw [this, wrap_i64 (by omega) (by omega), wrap64_n _ (by omega)]
      have a3 : IntKind.wrap .u64 ((1 : Int) * 2 ^ (min (Int.toNat ((J - 1 : Nat) : Int)) (IntKind.bits .u64))) = ((2 ^ (J - 1) : Nat) : Int) := by
        have := shl64_n 1 (J - 1) (by omega)
        have e1 : ((1 : Nat) : Int) = (1 : Int) := rfl
        rw [e1] at this
        have hlt : 2 ^ (J - 1) < 18446744073709551616 := Nat.lt_of_le_of_lt (Nat.pow_le_pow_right (by omega) (show J - 1 ≤ 63 by omega)) (by decide)
        rw [Int.toNat_natCast, this, Nat.one_mul, Nat.mod_eq_of_lt hlt]
      have a4 : IntKind.wrap .u64 ((c : Int) * 2 ^ (min (Int.toNat (J : Int)) (IntKind.bits .u64))) = ((c * 2 ^ J % 18446744073709551616 : Nat) : Int) := by rw [Int.toNat_natCast]; exact shl64_n c J (by omega)
      rw [a1, a2, a3, a4]
      clear a1 a2 a3 a4
      have L3t : ∀ t : Bool, (t = true → c * 2 ^ J < v) → (t = false → v ≤ c * 2 ^ J) → (t = true → c * 2 ^ J < 18446744073709551616) → numlaw_Nearest.L3 v c ((c : Int) == 8388608) ((c * 2 ^ J % 18446744073709551616 : Nat) : Int) (IntKind.wrap .u64 (((c * 2 ^ J % 18446744073709551616 : Nat) : Int) - (v : Int))) ((2 ^ (J - 1) : Nat) : Int) t (fun (v : Value) (w' : World) => v = .bool true ∧ Same [] w.heap.size w w') w1 := by
        intro t ht1 ht2 ht3
        refine numlaw_Nearest.step3 _ _ _ _ _ _ _ _ _ ?_
        unfold numlaw_Nearest.V3
        rcases w7' with ⟨hc1, hJ1⟩ | ⟨hc1, hc2, hJ1⟩
        · -- as it was cut
          have hJe : J = e + 1 := by omega
          subst hJe
          rw [← hc1] at b1 b2 b4
          have hsub : e + 1 - 1 = e := by omega
          rw [hsub]
          cases t with
          | true =>
            have h1 := ht1 rfl
            have h3 := ht3 rfl
            refine cond_true' rfl (L4 _ _ ?_ ?_ ?_)
            · exact (wrap_u64_rng _).1
            · rw [Nat.mod_eq_of_lt h3, wrap_u64 (by omega) (by omega)]; omega
            · rw [Nat.mod_eq_of_lt h3, wrap_u64 (by omega) (by omega)]
              intro hd
              exact b4 (.inl (by omega))
          | false =>
            have h2 := ht2 rfl
            have h3 : c * 2 ^ (e + 1) < 18446744073709551616 := by
              have q1 : c * 2 ^ (e + 1) ≤ 16777215 * 2 ^ (e + 1) := Nat.mul_le_mul_right _ (by omega)
              have q2 : 16777215 * 2 ^ (e + 1) ≤ 16777215 * 2 ^ 40 := Nat.mul_le_mul_left _ (Nat.pow_le_pow_right (by omega) (by omega))
              have q3 : (16777215 : Nat) * 2 ^ 40 < 18446744073709551616 := by decide
              exact Nat.lt_of_le_of_lt (Nat.le_trans q1 q2) q3
            rw [Nat.mod_eq_of_lt h3]
            have hw : IntKind.wrap .u64 (((c * 2 ^ (e + 1) : Nat) : Int) - (v : Int)) = ((c * 2 ^ (e + 1) - v : Nat) : Int) := by
              rw [wrap_u64 (by omega) (by omega)]; omega
            rw [hw]
            refine cond_false' rfl (cond_intro (fun hpw => ?_) (fun _ => ?_))
            · have hcB : c = 8388608 := by have := eq_of_beq hpw; omega
              have hvN : v = c * 2 ^ (e + 1) := by
                have q1 : 2 ^ v.log2 = c * 2 ^ (e + 1) := by rw [he, Nat.pow_add, hcB]
                omega
              refine L4 _ _ (by omega) ?_ (fun _ => by rw [hcB])
              rw [hvN, Nat.sub_self, fdiv_n]
              exact Int.ofNat_le.2 (Nat.zero_le _)
            · refine L4 _ _ (by omega) (by omega) (fun hd => b4 (.inr (by omega)))
        · -- carried to the next power of two
          have hJe : J = e + 1 + 1 := by omega
          subst hJe
          rw [hc2] at b1 b2
          have hN : c * 2 ^ (e + 1 + 1) = 16777216 * 2 ^ (e + 1) := by rw [hc1, Nat.pow_succ 2 (e + 1), Nat.mul_comm (2 ^ (e + 1)) 2, ← Nat.mul_assoc]
          have hvN : v < c * 2 ^ (e + 1 + 1) := by
            rw [hN]
            have q1 : 2 ^ (v.log2 + 1) = 16777216 * 2 ^ (e + 1) := by
              have : v.log2 + 1 = 24 + (e + 1) := by omega
              rw [this, Nat.pow_add]
            omega
          cases t with
          | true => have := ht1 rfl; omega
          | false =>
            have hsub : e + 1 + 1 - 1 = e + 1 := by omega
            rw [hsub]
            have hcc : ((c : Int) == 8388608) = true := by rw [beq_iff_eq]; omega
            rw [hcc]
            refine cond_false' rfl (cond_true' rfl ?_)
            have hle : c * 2 ^ (e + 1 + 1) ≤ 18446744073709551616 := by
              rw [hN]
              have q2 : 16777216 * 2 ^ (e + 1) ≤ 16777216 * 2 ^ 40 := Nat.mul_le_mul_left _ (Nat.pow_le_pow_right (by omega) (by omega))
              exact Nat.le_trans q2 (Nat.le_of_eq (by decide))
            have hw : IntKind.wrap .u64 (((c * 2 ^ (e + 1 + 1) % 18446744073709551616 : Nat) : Int) - (v : Int)) = ((c * 2 ^ (e + 1 + 1) - v : Nat) : Int) := by
              rcases Nat.lt_or_ge (c * 2 ^ (e + 1 + 1)) 18446744073709551616 with hl | hl
              · rw [Nat.mod_eq_of_lt hl, wrap_u64 (by omega) (by omega)]; omega
              · have q : c * 2 ^ (e + 1 + 1) = 18446744073709551616 := by omega
                rw [q, Nat.mod_self, wrap_u64_mod]; omega
            have hlim : Int.fdiv ((2 ^ (e + 1) : Nat) : Int) (2 ^ (1 : Nat)) = ((2 ^ e : Nat) : Int) := by
              rw [fdiv_n, hpe2]
              have : (2 : Nat) ^ 1 = 2 := by decide
              rw [this, Nat.mul_div_cancel_left _ (by decide)]
            rw [hw, hlim]
            refine L4 _ _ (by omega) ?_ (fun _ => by rw [hc1])
            rw [hN] at hvN ⊢
            omega
      refine ⟨by omega, by omega, ?_⟩
      refine cond_dec (fun hlt => ?_) (fun hge => ?_)
      · have h3 : c * 2 ^ J < 18446744073709551616 := by
          have q1 : c * 2 ^ J ≤ 16777215 * 2 ^ J := Nat.mul_le_mul_right _ (by omega)
          have q2 : 16777215 * 2 ^ J ≤ 16777215 * 2 ^ 40 := Nat.mul_le_mul_left _ (Nat.pow_le_pow_right (by omega) (by omega))
          have q3 : (16777215 : Nat) * 2 ^ 40 < 18446744073709551616 := by decide
          exact Nat.lt_of_le_of_lt (Nat.le_trans q1 q2) q3
        refine L3t _ (fun h => ?_) (fun h => ?_) (fun _ => h3)
        · have := of_decide_eq_true h
          rw [Nat.mod_eq_of_lt h3] at this
          omega
        · have := of_decide_eq_false h
          rw [Nat.mod_eq_of_lt h3] at this
          omega
      · refine L3t false (fun h => by cases h) (fun _ => ?_) (fun h => by cases h)
        rcases hj with h | ⟨h, hcB⟩
        · omega
        · have q1 : 2 ^ (v.log2 + 1) = c * 2 ^ J := by
            have q2 : v.log2 + 1 = 23 + J := by omega
            rw [q2, Nat.pow_add, hcB]
          omega
    refine cond_intro (fun h65 => ?_) (fun _ => L2)
    have hcB : c = 8388608 := by
      have := eq_of_beq h65
      rcases hj with h | ⟨_, h⟩
      · omega
      · exact h
    refine cond_false' ?_ L2
    have : ((c : Int) == 8388608) = true := by rw [beq_iff_eq]; omega
    rw [this]; rfl

/-! ### 64 bits -/
theorem CutX64_spec (x : Nat) (hx : x < 18446744073709551616) (hv : x % 9223372036854775808 < 9218868437227405312) (he : pe64 (x % 9223372036854775808) ≤ 11) (hex : pm64 (x % 9223372036854775808) % 2 ^ (-(pe64 (x % 9223372036854775808))).toNat = 0) (w : World) : Runs Try.prog numlaw_CutOf.id #[fmt64.val, .int .i64 53, .int .u64 x] w fun r w' => r = .tuple #[.int .u64 ((cutN64 (x % 9223372036854775808) : Nat) : Int), .bool true, .bool true] ∧ Same [] w.heap.size w w' := by
  refine numlaw_CutOf.enter 153 160 97 9223372036854775808 9218868437227405312 9221120237041090560 53 x _ _ ?_
  unfold numlaw_CutOf.V
  refine letB_intro fun b hb => letW_intro fun w0 hw0 => ?_
  have f0 : FmtAt w0 b fmt64 := by rw [hw0, hb]; exact FmtAt.new w fmt64 T_numlaw_Fmt
  have T0 : Same [] w.heap.size w w0 := by rw [hw0]; exact (Same.refl _ _ _).alloc (Nat.le_refl _) _
  clear hw0 hb
  have c3 : fmt64.sign = 9223372036854775808 := rfl
  refine ⟨_, _, _, _, _, _, f0.c0, f0.c1, f0.c2, f0.c3, f0.c4, f0.c5, _, f0.c3, ?_⟩
  rw [c3, andnot64 x hx]
  refine (Part64_spec (x % 9223372036854775808) hv w0).mono ?_
  rintro v w1 ⟨rfl, S1⟩
  have T1 := T0.trans (S1.mono T0.size (by simp))
  refine ⟨_, _, rfl, ?_⟩
  have e40 : IntKind.wrap .i64 ((64 : Int) - 53) = 11 := by decide
  rw [e40]
  clear e40 c3
  have hpl := pm64_lt (x % 9223372036854775808)
  have hpg := pe64_ge (x % 9223372036854775808)
  unfold cutN64
  generalize pm64 (x % 9223372036854775808) = m at *
  generalize pe64 (x % 9223372036854775808) = i at *
  refine cond_false' (decide_eq_false (by omega)) ?_
  by_cases hi : 0 ≤ i
  · obtain ⟨I, rfl⟩ : ∃ I : Nat, i = (I : Int) := ⟨i.toNat, by omega⟩
    have e1 : IntKind.wrap .u64 (I : Int) = (I : Int) := wrap64_n I (by omega)
    have hlt : m * 2 ^ I < 18446744073709551616 := by
      have a1 : 2 ^ I ≤ 2 ^ 11 := Nat.pow_le_pow_right (by omega) (by omega)
      have a2 : m * 2 ^ I ≤ 9007199254740991 * 2 ^ 11 := Nat.mul_le_mul (by omega) a1
      have a3 : (9007199254740991 : Nat) * 2 ^ 11 < 18446744073709551616 := by decide
      exact Nat.lt_of_le_of_lt a2 a3
    have e2 : (-(I : Int)).toNat = 0 := by omega
    rw [e1, e2, Int.toNat_natCast, Nat.pow_zero, Nat.div_one]
    refine cond_true' (decide_eq_true (by omega)) ⟨by omega, ?_, T1⟩
    rw [shl64_n m I (by omega), Nat.mod_eq_of_lt hlt]
  · refine cond_false' (decide_eq_false (by omega)) ?_
    obtain ⟨J, hJ⟩ : ∃ J : Nat, i = -(J : Int) := ⟨(-i).toNat, by omega⟩
    subst hJ
    have e1 : (-(J : Int)).toNat = 0 := by omega
    have e2 : (- -(J : Int)).toNat = J := by omega
    rw [e2] at hex
    rw [e1, e2, Nat.pow_zero, Nat.mul_one]
    by_cases hJ64 : 64 ≤ J
    · have a1 : 2 ^ 64 ≤ 2 ^ J := Nat.pow_le_pow_right (by omega) hJ64
      have a2 : (2 : Nat) ^ 64 = 18446744073709551616 := by decide
      rw [Nat.mod_eq_of_lt (by omega)] at hex
      subst hex
      rw [Nat.zero_div]
      exact cond_true' (decide_eq_true (by omega)) ⟨rfl, T1⟩
    · refine cond_false' (decide_eq_false (by omega)) ?_
      have e3 : IntKind.wrap .u64 (IntKind.wrap .i64 (0 - -(J : Int))) = (J : Int) := by
        have : (0 : Int) - -(J : Int) = (J : Int) := by omega
        rw [this, wrap_i64 (by omega) (by omega), wrap64_n J (by omega)]
      rw [e3, fdivk m J (by omega), low_zero m J (by omega) (by omega) hex]
      exact ⟨by omega, by omega, rfl, T1⟩

/-- The word that is nearest to a whole number: exact where it has few digits. -/
theorem few64 (v : Nat) (hv0 : v ≠ 0) (hv : v < 9007199254740992) : ∃ R, (∀ s, Ieee.double.write (.number s v 0) = Ieee.double.word s R) ∧ 0 < R ∧ R < 9218868437227405312 ∧ pe64 R ≤ 0 ∧ -52 ≤ pe64 R ∧ pm64 R = v * 2 ^ (-(pe64 R)).toNat ∧ val Ieee.double R = v * 2 ^ 1074 := by
  have hl := log2_lt v 52 (by omega)
  obtain ⟨R, g1, g2, g3⟩ := exact_rung Ieee.double v 0 2047 dE (by decide) (by rw [dbin]; omega) (by rw [dlp]; decide) (by rw [dlp, dfrac]; omega)
  rw [ir64] at g1
  have e0 : ((0 : Int) - Ieee.double.leastPlace).toNat = 1074 := by rw [dlp]; decide
  rw [e0] at g2
  have hread := read64 R g1
  obtain ⟨m', i', r1, r2, r3⟩ := read_val Ieee.double R (by rw [rung64, ir64]; omega)
  rw [hread] at r1
  simp only [Ieee.Datum.number.injEq] at r1
  obtain ⟨_, rfl, rfl⟩ := r1
  have hrr : rung Ieee.double R = R := by rw [rung64]; omega
  rw [hrr, g2, dlp] at r3
  rw [dlp] at r2
  have hn := read_norm Ieee.double R false _ _ hread
  rw [dbin, dlp] at hn
  have hp0 : pm64 R ≠ 0 := by
    intro h
    rw [h, Nat.zero_mul] at r3
    obtain ⟨Q, hQ⟩ : ∃ Q : Nat, Q = 1074 := ⟨_, rfl⟩
    rw [← hQ] at r3
    have := Nat.mul_pos (Nat.pos_of_ne_zero hv0) (Nat.two_pow_pos Q)
    omega
  obtain ⟨Q, hQ⟩ : ∃ Q : Nat, Q = 1074 := ⟨_, rfl⟩
  rw [← hQ] at r3 ⊢
  have hlog := log2_pos _ _ _ _ hp0 hv0 r3
  have hlp := log2_lt (pm64 R) 52 (by omega)
  have hR0 : 0 < R := by
    rcases Nat.eq_zero_or_pos R with h | h
    · exfalso; apply hp0; rw [h]; rfl
    · exact h
  have hpl : (pm64 R).log2 = 52 := by
    rcases hn.2 with h | h
    · omega
    · exact (Nat.log2_eq_iff hp0).2 ⟨h, by omega⟩
  obtain ⟨J, hJ⟩ : ∃ J : Nat, pe64 R = -(J : Int) := ⟨(-(pe64 R)).toNat, by omega⟩
  refine ⟨R, g3, hR0, g1, by omega, by omega, ?_, by rw [g2, hQ]⟩
  have eJ : (-(pe64 R)).toNat = J := by omega
  rw [eJ]
  have := pow_shift (pm64 R) v (pe64 R - -1074).toNat Q 0 J r3 (by omega)
  rw [Nat.pow_zero, Nat.mul_one] at this
  exact this

theorem Nearest64_spec (neg : Bool) (v : Nat) (hv : v < 18446744073709551616) (hneg : neg = true → v ≠ 0) (w : World) :
    Runs Try.prog numlaw_Nearest.id #[fmt64.val, .int .i64 53, .bool neg, .int .u64 v, .int .u64 ((Ieee.double.write (.number neg v 0) : Nat) : Int)] w fun r w' => r = .bool true ∧ Same [] w.heap.size w w' := by
  refine numlaw_Nearest.enter 153 160 97 9223372036854775808 9218868437227405312 9221120237041090560 53 neg v _ _ _ ?_
  unfold numlaw_Nearest.V
  refine letB_intro fun b hb => letW_intro fun w0 hw0 => ?_
  have f0 : FmtAt w0 b fmt64 := by rw [hw0, hb]; exact FmtAt.new w fmt64 T_numlaw_Fmt
  have T0 : Same [] w.heap.size w w0 := by rw [hw0]; exact (Same.refl _ _ _).alloc (Nat.le_refl _) _
  clear hw0 hb
  have c3 : fmt64.sign = 9223372036854775808 := rfl
  have c4 : fmt64.inf = 9218868437227405312 := rfl
  have hform : ∀ R : Nat, R < 9218868437227405312 → Ieee.double.write (.number neg v 0) = Ieee.double.word neg R → (v ≠ 0 → numlaw_Nearest.L1 53 v R b false (fun (v : Value) (w' : World) => v = .bool true ∧ Same [] w.heap.size w w') w0) → (v = 0 → R = 0) →
      ∃ x13 : Int, World.cell? w0 ⟨b, 3, none⟩ = some (.int .u64 x13) ∧ (cond (!(((bAnd .u64 ((Ieee.double.write (.number neg v 0) : Nat) : Int) x13) != (0 : Int)) == neg)) ((fun (v : Value) (w' : World) => v = .bool true ∧ Same [] w.heap.size w w') (.bool false) w0)
        (∃ x14 : Int, World.cell? w0 ⟨b, 3, none⟩ = some (.int .u64 x14) ∧ (∃ x15 : Int, World.cell? w0 ⟨b, 4, none⟩ = some (.int .u64 x15) ∧ (cond (decide ((bAndNot .u64 ((Ieee.double.write (.number neg v 0) : Nat) : Int) x14) ≥ x15))
  (numlaw_Nearest.L1 53 v (bAndNot .u64 ((Ieee.double.write (.number neg v 0) : Nat) : Int) x14) b true (fun (v : Value) (w' : World) => v = .bool true ∧ Same [] w.heap.size w w') w0)
  (numlaw_Nearest.L1 53 v (bAndNot .u64 ((Ieee.double.write (.number neg v 0) : Nat) : Int) x14) b ((v : Int) == (0 : Int)) (fun (v : Value) (w' : World) => v = .bool true ∧ Same [] w.heap.size w w') w0))))) := by
    intro R hR hw hL hz
    have hwl := word64_lt neg R (by omega)
    have hmod : Ieee.double.word neg R % 9223372036854775808 = R := by
      have := rung_word Ieee.double neg R (by rw [sw64]; omega)
      rw [rung64] at this; exact this
    have e1 : bAnd .u64 ((Ieee.double.word neg R : Nat) : Int) 9223372036854775808 = ((Ieee.double.word neg R &&& 9223372036854775808 : Nat) : Int) := bAnd64_n _ 9223372036854775808 (by omega) (by decide)
    have e2 : Ieee.double.word neg R &&& 9223372036854775808 = 9223372036854775808 * (Ieee.double.word neg R / 9223372036854775808 % 2) := and_pow _ 63
    have e3 : Ieee.double.word neg R / 9223372036854775808 % 2 = neg.toNat := by
      unfold Ieee.Format.word; rw [sw64]
      cases neg <;> simp <;> omega
    rw [hw]
    refine ⟨_, f0.c3, ?_⟩
    rw [c3, e1, e2, e3]
    refine cond_false' (by cases neg <;> decide) ⟨_, f0.c3, _, f0.c4, ?_⟩
    rw [c3, c4, andnot64 _ hwl, hmod]
    refine cond_false' (decide_eq_false (by omega)) ?_
    by_cases h0 : v = 0
    · have hR0 := hz h0
      subst h0 hR0
      refine numlaw_Nearest.step1 _ _ _ _ _ _ _ ?_
      unfold numlaw_Nearest.V1
      exact cond_true' rfl (cond_true' rfl ⟨rfl, T0⟩)
    · have e4 : ((v : Int) == 0) = false := by rw [beq_eq_false_iff_ne]; omega
      rw [e4]; exact hL h0
  by_cases h0 : v = 0
  · have hng : neg = false := by cases neg with | false => rfl | true => exact absurd h0 (hneg rfl)
    refine hform 0 (by decide) ?_ (fun h => absurd h0 h) (fun _ => rfl)
    rw [write_number, if_pos h0]
  by_cases hsm : v < 9007199254740992
  · -- few digits
    obtain ⟨R, q1, q2, q3, q4, q5, q6, _⟩ := few64 v h0 hsm
    refine hform R q3 (q1 neg) (fun _ => ?_) (fun h => absurd h h0)
    refine numlaw_Nearest.step1 _ _ _ _ _ _ _ ?_
    unfold numlaw_Nearest.V1
    refine cond_false' rfl ⟨_, _, _, _, _, _, f0.c0, f0.c1, f0.c2, f0.c3, f0.c4, f0.c5, (Part64_spec R q3 w0).mono ?_⟩
    rintro z w1 ⟨rfl, S1⟩
    have f1 := f0.keep S1
    have T1 := T0.trans (S1.mono T0.size (by simp))
    refine ⟨_, _, rfl, cond_true' (decide_eq_true (by omega)) ⟨_, _, _, _, _, _, f1.c0, f1.c1, f1.c2, f1.c3, f1.c4, f1.c5, ?_⟩⟩
    have hRm : R % 9223372036854775808 = R := by omega
    refine (CutX64_spec R (by omega) (by rw [hRm]; exact q3) (by rw [hRm]; omega) (by rw [hRm, q6]; exact Nat.mul_mod_left _ _) w1).mono ?_
    rintro z w2 ⟨rfl, S2⟩
    refine ⟨_, _, _, rfl, cond_true' rfl ⟨?_, T1.trans (S2.mono T1.size (by simp))⟩⟩
    have hcut : cutN64 (R % 9223372036854775808) = v := by
      rw [hRm]; unfold cutN64
      obtain ⟨J, hJ⟩ : ∃ J : Nat, pe64 R = -(J : Int) := ⟨(-(pe64 R)).toNat, by omega⟩
      have z1 : (pe64 R).toNat = 0 := by omega
      rw [q6, z1, Nat.pow_zero, Nat.mul_one, Nat.mul_div_cancel _ (Nat.two_pow_pos _)]
    rw [hcut]; simp
  · -- many digits
    have hne := h0
    have hL0 : 53 ≤ v.log2 := (Nat.le_log2 hne).2 (by omega)
    have hL1 := log2_lt v 63 (by omega)
    have hself : 2 ^ v.log2 ≤ v := Nat.log2_self_le hne
    have hself2 : v < 2 ^ (v.log2 + 1) := Nat.lt_log2_self
    obtain ⟨e, he⟩ : ∃ e : Nat, v.log2 = 52 + (e + 1) := ⟨v.log2 - 53, by omega⟩
    obtain ⟨R, c, j, w1', w2', w3', w4', w5', w6', w7'⟩ := write_digits Ieee.double v e 0 (e + 1 + 1074) (by rw [dlp]; omega) (by rw [dfrac, ← Nat.pow_add, ← he]; exact hself) (by
      rw [dfrac, ← Nat.pow_add]
      have : 52 + 1 + (e + 1) = v.log2 + 1 := by omega
      rw [this]; exact hself2) (by rw [dE]; exact Nat.mul_le_mul_right _ (by omega))
    have hw := write_sign Ieee.double neg v 0 R w3' w1'
    rw [ir64] at w3'
    rw [dbin] at w5' w6' w7'
    have hread : Ieee.double.read R = .number false c j := w4'
    rw [read64 R w3'] at hread
    simp only [Ieee.Datum.number.injEq, true_and] at hread
    obtain ⟨hpm, hpe⟩ := hread
    refine hform R w3' hw (fun _ => ?_) (fun h => absurd h h0)
    refine numlaw_Nearest.step1 _ _ _ _ _ _ _ ?_
    unfold numlaw_Nearest.V1
    refine cond_false' rfl ⟨_, _, _, _, _, _, f0.c0, f0.c1, f0.c2, f0.c3, f0.c4, f0.c5, (Part64_spec R w3' w0).mono ?_⟩
    rintro z w1 ⟨rfl, S1⟩
    have T1 := T0.trans (S1.mono T0.size (by simp))
    rw [hpm, hpe]
    refine ⟨_, _, rfl, ?_⟩
    clear hpm hpe w4' hw w1' hform
    have eB : IntKind.wrap .u64 ((1 : Int) * 2 ^ (min (Int.toNat (IntKind.wrap .u64 (IntKind.wrap .i64 (53 - (1 : Int))))) (IntKind.bits .u64))) = 4503599627370496 := by decide
    have e65 : IntKind.wrap .i64 ((65 : Int) - 53) = 12 := by decide
    have e0p : 0 ≤ IntKind.wrap .u64 (IntKind.wrap .i64 (53 - (1 : Int))) := by decide
    rw [eB, e65]
    obtain ⟨b1, b2⟩ := cut_bd v e
    have b4 := cut_tie v e
    have hg := Nat.two_pow_pos e
    have hpe2 : 2 ^ (e + 1) = 2 * 2 ^ e := by rw [Nat.pow_succ, Nat.mul_comm]
    have hj : j = ((e + 1 : Nat) : Int) ∨ (j = ((e + 2 : Nat) : Int) ∧ c = 4503599627370496) := by
      rcases w7' with ⟨_, h⟩ | ⟨h, _, h'⟩
      · left; omega
      · right; exact ⟨by omega, h⟩
    obtain ⟨J, rfl⟩ : ∃ J : Nat, j = (J : Int) := ⟨j.toNat, by omega⟩
    refine cond_false' (decide_eq_false (by omega)) ⟨e0p, cond_false' (decide_eq_false (by omega)) ?_⟩
    clear eB e65 e0p
    have L4 : ∀ d lim : Int, 0 ≤ d → d ≤ lim → (d = lim → c % 2 = 0) → numlaw_Nearest.L4 c d lim (fun (v : Value) (w' : World) => v = .bool true ∧ Same [] w.heap.size w w') w1 := by
      intro d lim h1 h2 h3
      refine numlaw_Nearest.step4 _ _ _ _ _ ?_
      unfold numlaw_Nearest.V4
      refine cond_dec (fun _ => ⟨rfl, T1⟩) (fun hlt => cond_true' (by rw [beq_iff_eq]; omega) ⟨?_, T1⟩)
      rw [and1 c (by omega), h3 (by omega)]; rfl
    have L2 : numlaw_Nearest.L2 53 v c J ((c : Int) == 4503599627370496) (fun (v : Value) (w' : World) => v = .bool true ∧ Same [] w.heap.size w w') w1 := by
      refine numlaw_Nearest.step2 _ _ _ _ _ _ _ ?_
      unfold numlaw_Nearest.V2
      have e65 : IntKind.wrap .i64 ((65 : Int) - 53) = 12 := by decide
      rw [e65]
      clear e65
      have a1 : IntKind.wrap .u64 (J : Int) = (J : Int) := wrap64_n J (by omega)
      have a2 : IntKind.wrap .u64 (IntKind.wrap .i64 ((J : Int) - 1)) = ((J - 1 : Nat) : Int) := by
        have : (J : Int) - 1 = ((J - 1 : Nat) : Int) := by omega
        rw [this, wrap_i64 (by omega) (by omega), wrap64_n _ (by omega)]
      have a3 : IntKind.wrap .u64 ((1 : Int) * 2 ^ (min (Int.toNat ((J - 1 : Nat) : Int)) (IntKind.bits .u64))) = ((2 ^ (J - 1) : Nat) : Int) := by
        have := shl64_n 1 (J - 1) (by omega)
        have e1 : ((1 : Nat) : Int) = (1 : Int) := rfl
        rw [e1] at this
        have hlt : 2 ^ (J - 1) < 18446744073709551616 := Nat.lt_of_le_of_lt (Nat.pow_le_pow_right (by omega) (show J - 1 ≤ 63 by omega)) (by decide)
        rw [Int.toNat_natCast, this, Nat.one_mul, Nat.mod_eq_of_lt hlt]
      have a4 : IntKind.wrap .u64 ((c : Int) * 2 ^ (min (Int.toNat (J : Int)) (IntKind.bits .u64))) = ((c * 2 ^ J % 18446744073709551616 : Nat) : Int) := by rw [Int.toNat_natCast]; exact shl64_n c J (by omega)
      rw [a1, a2, a3, a4]
      clear a1 a2 a3 a4
      have L3t : ∀ t : Bool, (t = true → c * 2 ^ J < v) → (t = false → v ≤ c * 2 ^ J) → (t = true → c * 2 ^ J < 18446744073709551616) → numlaw_Nearest.L3 v c ((c : Int) == 4503599627370496) ((c * 2 ^ J % 18446744073709551616 : Nat) : Int) (IntKind.wrap .u64 (((c * 2 ^ J % 18446744073709551616 : Nat) : Int) - (v : Int))) ((2 ^ (J - 1) : Nat) : Int) t (fun (v : Value) (w' : World) => v = .bool true ∧ Same [] w.heap.size w w') w1 := by
        intro t ht1 ht2 ht3
        refine numlaw_Nearest.step3 _ _ _ _ _ _ _ _ _ ?_
        unfold numlaw_Nearest.V3
        rcases w7' with ⟨hc1, hJ1⟩ | ⟨hc1, hc2, hJ1⟩
        · -- as it was cut
          have hJe : J = e + 1 := by omega
          subst hJe
          rw [← hc1] at b1 b2 b4
          have hsub : e + 1 - 1 = e := by omega
          rw [hsub]
          cases t with
          | true =>
            have h1 := ht1 rfl
            have h3 := ht3 rfl
            refine cond_true' rfl (L4 _ _ ?_ ?_ ?_)
            · exact (wrap_u64_rng _).1
            · rw [Nat.mod_eq_of_lt h3, wrap_u64 (by omega) (by omega)]; omega
            · rw [Nat.mod_eq_of_lt h3, wrap_u64 (by omega) (by omega)]
              intro hd
              exact b4 (.inl (by omega))
          | false =>
            have h2 := ht2 rfl
            have h3 : c * 2 ^ (e + 1) < 18446744073709551616 := by
              have q1 : c * 2 ^ (e + 1) ≤ 9007199254740991 * 2 ^ (e + 1) := Nat.mul_le_mul_right _ (by omega)
              have q2 : 9007199254740991 * 2 ^ (e + 1) ≤ 9007199254740991 * 2 ^ 11 := Nat.mul_le_mul_left _ (Nat.pow_le_pow_right (by omega) (by omega))
              have q3 : (9007199254740991 : Nat) * 2 ^ 11 < 18446744073709551616 := by decide
              exact Nat.lt_of_le_of_lt (Nat.le_trans q1 q2) q3
            rw [Nat.mod_eq_of_lt h3]
            have hw : IntKind.wrap .u64 (((c * 2 ^ (e + 1) : Nat) : Int) - (v : Int)) = ((c * 2 ^ (e + 1) - v : Nat) : Int) := by
              rw [wrap_u64 (by omega) (by omega)]; omega
            rw [hw]
            refine cond_false' rfl (cond_intro (fun hpw => ?_) (fun _ => ?_))
            · have hcB : c = 4503599627370496 := by have := eq_of_beq hpw; omega
              have hvN : v = c * 2 ^ (e + 1) := by
                have q1 : 2 ^ v.log2 = c * 2 ^ (e + 1) := by rw [he, Nat.pow_add, hcB]
                omega
              refine L4 _ _ (by omega) ?_ (fun _ => by rw [hcB])
              rw [hvN, Nat.sub_self, fdiv_n]
              exact Int.ofNat_le.2 (Nat.zero_le _)
            · refine L4 _ _ (by omega) (by omega) (fun hd => b4 (.inr (by omega)))
        · -- carried to the next power of two
          have hJe : J = e + 1 + 1 := by omega
          subst hJe
          rw [hc2] at b1 b2
          have hN : c * 2 ^ (e + 1 + 1) = 9007199254740992 * 2 ^ (e + 1) := by rw [hc1, Nat.pow_succ 2 (e + 1), Nat.mul_comm (2 ^ (e + 1)) 2, ← Nat.mul_assoc]
          have hvN : v < c * 2 ^ (e + 1 + 1) := by
            rw [hN]
            have q1 : 2 ^ (v.log2 + 1) = 9007199254740992 * 2 ^ (e + 1) := by
              have : v.log2 + 1 = 53 + (e + 1) := by omega
              rw [this, Nat.pow_add]
            omega
          cases t with
          | true => have := ht1 rfl; omega
          | false =>
            have hsub : e + 1 + 1 - 1 = e + 1 := by omega
            rw [hsub]
            have hcc : ((c : Int) == 4503599627370496) = true := by rw [beq_iff_eq]; omega
            rw [hcc]
            refine cond_false' rfl (cond_true' rfl ?_)
            have hle : c * 2 ^ (e + 1 + 1) ≤ 18446744073709551616 := by
              rw [hN]
              have q2 : 9007199254740992 * 2 ^ (e + 1) ≤ 9007199254740992 * 2 ^ 11 := Nat.mul_le_mul_left _ (Nat.pow_le_pow_right (by omega) (by omega))
              exact Nat.le_trans q2 (Nat.le_of_eq (by decide))
            have hw : IntKind.wrap .u64 (((c * 2 ^ (e + 1 + 1) % 18446744073709551616 : Nat) : Int) - (v : Int)) = ((c * 2 ^ (e + 1 + 1) - v : Nat) : Int) := by
              rcases Nat.lt_or_ge (c * 2 ^ (e + 1 + 1)) 18446744073709551616 with hl | hl
              · rw [Nat.mod_eq_of_lt hl, wrap_u64 (by omega) (by omega)]; omega
              · have q : c * 2 ^ (e + 1 + 1) = 18446744073709551616 := by omega
                rw [q, Nat.mod_self, wrap_u64_mod]; omega
            have hlim : Int.fdiv ((2 ^ (e + 1) : Nat) : Int) (2 ^ (1 : Nat)) = ((2 ^ e : Nat) : Int) := by
              rw [fdiv_n, hpe2]
              have : (2 : Nat) ^ 1 = 2 := by decide
              rw [this, Nat.mul_div_cancel_left _ (by decide)]
            rw [hw, hlim]
            refine L4 _ _ (by omega) ?_ (fun _ => by rw [hc1])
            rw [hN] at hvN ⊢
            omega
      refine ⟨by omega, by omega, ?_⟩
      refine cond_dec (fun hlt => ?_) (fun hge => ?_)
      · have h3 : c * 2 ^ J < 18446744073709551616 := by
          have q1 : c * 2 ^ J ≤ 9007199254740991 * 2 ^ J := Nat.mul_le_mul_right _ (by omega)
          have q2 : 9007199254740991 * 2 ^ J ≤ 9007199254740991 * 2 ^ 11 := Nat.mul_le_mul_left _ (Nat.pow_le_pow_right (by omega) (by omega))
          have q3 : (9007199254740991 : Nat) * 2 ^ 11 < 18446744073709551616 := by decide
          exact Nat.lt_of_le_of_lt (Nat.le_trans q1 q2) q3
        refine L3t _ (fun h => ?_) (fun h => ?_) (fun _ => h3)
        · have := of_decide_eq_true h
          rw [Nat.mod_eq_of_lt h3] at this
          omega
        · have := of_decide_eq_false h
          rw [Nat.mod_eq_of_lt h3] at this
          omega
      · refine L3t false (fun h => by cases h) (fun _ => ?_) (fun h => by cases h)
        rcases hj with h | ⟨h, hcB⟩
        · omega
        · have q1 : 2 ^ (v.log2 + 1) = c * 2 ^ J := by
            have q2 : v.log2 + 1 = 52 + J := by omega
            rw [q2, Nat.pow_add, hcB]
          omega
    refine cond_intro (fun h65 => ?_) (fun _ => L2)
    have hcB : c = 4503599627370496 := by
      have := eq_of_beq h65
      rcases hj with h | ⟨_, h⟩
      · omega
      · exact h
    refine cond_false' ?_ L2
    have : ((c : Int) == 4503599627370496) = true := by rw [beq_iff_eq]; omega
    rw [this]; rfl

theorem KeptConv32_spec (x : Nat) (hx : x < 4294967296) (w : World) : Runs Try.prog numlaw_KeptConv.id #[.int .i64 178, .int .u64 2147483648, .int .u64 4294967295, .int .u64 x] w fun v w' => v = .bool true ∧ Same [] w.heap.size w w' := by
  refine numlaw_KeptConv.enter _ _ _ _ _ _ ?_
  unfold numlaw_KeptConv.V
  refine (F32_spec w).mono ?_
  rintro v w1 ⟨rfl, T1⟩
  refine ⟨_, _, _, _, _, _, rfl, ?_⟩
  refine letB_intro fun b hb => letW_intro fun w2 hw2 => ?_
  have g2 : FmtAt w2 b ⟨0, 0, 0, 0, 0, 0⟩ := by rw [hw2, hb]; exact FmtAt.new w1 ⟨0, 0, 0, 0, 0, 0⟩ T_numlaw_Fmt
  have T2 : Same [] w.heap.size w w2 := by rw [hw2]; exact T1.alloc T1.size _
  have hbw : w.heap.size ≤ b := by rw [hb]; exact T1.size
  clear hw2 hb
  refine g2.put_intro (g := fmt32) fun w3 g3 h3 => ?_
  have T3 := same_fresh T2 hbw h3
  refine (F64_spec w3).mono ?_
  rintro v w4 ⟨rfl, S4⟩
  have g4 := g3.keep S4
  have T4 := T3.trans (S4.mono T3.size (by simp))
  refine ⟨_, _, _, _, _, _, rfl, ?_⟩
  refine letB_intro fun c hc => letW_intro fun w5 hw5 => ?_
  have k5 : FmtAt w5 c ⟨0, 0, 0, 0, 0, 0⟩ := by rw [hw5, hc]; exact FmtAt.new w4 ⟨0, 0, 0, 0, 0, 0⟩ T_numlaw_Fmt
  have T5 : Same [] w.heap.size w w5 := by rw [hw5]; exact T4.alloc T4.size _
  have S5 : Same [] w4.heap.size w4 w5 := by rw [hw5]; exact (Same.refl _ _ _).alloc (Nat.le_refl _) _
  have g5 := g4.keep S5
  have hcw : w.heap.size ≤ c := by rw [hc]; exact T4.size
  have hbc : b ≠ c := by rw [hc]; have := g4.lt; omega
  clear hw5 hc
  refine k5.put_intro (g := fmt64) fun w6 k6 h6 => ?_
  have T6 := same_fresh T5 hcw h6
  have g6 : FmtAt w6 b fmt32 := g5.same (h6 (b + 1)) (by omega) (by simp; exact hbc)
  -- the signed number
  obtain ⟨n, hn⟩ : ∃ n : Int, n = sgn 2147483648 x := ⟨_, rfl⟩
  have hnr : -2147483648 ≤ n ∧ n < 2147483648 := by rw [hn]; unfold sgn; split <;> omega
  have hin : IntKind.wrap .i32 (IntKind.wrap .u32 (x : Int)) = n := by
    rw [wrap32_n x hx, hn]; exact wrap_i32_sgn x (by omega) (by omega)
  have huin : IntKind.wrap .u32 (x : Int) = (x : Int) := wrap32_n x hx
  have l32 := near_lt32 n
  have u32l := near_lt32 (x : Int)
  have e0 : (ap 178 x 0).1 = ((FloatKind.nearest .f32 n : Nat) : Int) := by
    rw [ap_conv 178 x 0 (by decide) (by decide)]
    show W64 ((FloatKind.nearest .f32 (IntKind.wrap .i32 (IntKind.wrap .u32 (x : Int))) : Nat) : Int) = _
    rw [hin]; unfold W64; rw [wrap64_n _ (by omega)]
  have e1 : (ap 179 x 0).1 = ((FloatKind.nearest .f32 (x : Int) : Nat) : Int) := by
    rw [ap_conv 179 x 0 (by decide) (by decide)]
    show W64 ((FloatKind.nearest .f32 (IntKind.wrap .u32 (x : Int)) : Nat) : Int) = _
    rw [huin]; unfold W64; rw [wrap64_n _ (by omega)]
  have e5 : (ap 183 x 0).1 = ((FloatKind.nearest .f64 n : Nat) : Int) := by
    rw [ap_conv 183 x 0 (by decide) (by decide)]
    show ((FloatKind.nearest .f64 (IntKind.wrap .i32 (IntKind.wrap .u32 (x : Int))) : Nat) : Int) = _
    rw [hin]
  have e6 : (ap 184 x 0).1 = ((FloatKind.nearest .f64 (x : Int) : Nat) : Int) := by
    rw [ap_conv 184 x 0 (by decide) (by decide)]
    show ((FloatKind.nearest .f64 (IntKind.wrap .u32 (x : Int)) : Nat) : Int) = _
    rw [huin]
  have main : ∀ (neg : Bool) (v : Nat), neg = decide (n < 0) → v = n.natAbs → numlaw_KeptConv.L1 178 x b c neg v (fun v w' => v = .bool true ∧ Same [] w.heap.size w w') w6 := by
    intro neg v hneg hv
    have hv64 : v < 18446744073709551616 := by omega
    have hnz : neg = true → v ≠ 0 := fun h => by rw [hneg] at h; have := of_decide_eq_true h; omega
    have n0 : FloatKind.nearest .f32 n = Ieee.single.write (.number neg v 0) := by rw [hneg, hv]; rfl
    have n5 : FloatKind.nearest .f64 n = Ieee.double.write (.number neg v 0) := by rw [hneg, hv]; rfl
    have hxd : decide ((x : Int) < 0) = false := decide_eq_false (by omega)
    have n1 : FloatKind.nearest .f32 (x : Int) = Ieee.single.write (.number false x 0) := by
      have : FloatKind.nearest .f32 (x : Int) = Ieee.single.write (.number (decide ((x : Int) < 0)) (x : Int).natAbs 0) := rfl
      rw [this, hxd, Int.natAbs_natCast]
    have n6 : FloatKind.nearest .f64 (x : Int) = Ieee.double.write (.number false x 0) := by
      have : FloatKind.nearest .f64 (x : Int) = Ieee.double.write (.number (decide ((x : Int) < 0)) (x : Int).natAbs 0) := rfl
      rw [this, hxd, Int.natAbs_natCast]
    have i1 : IntKind.wrap .i64 ((178 : Int) + 1) = 179 := by decide
    have i5 : IntKind.wrap .i64 ((178 : Int) + 5) = 183 := by decide
    have i6 : IntKind.wrap .i64 ((178 : Int) + 6) = 184 := by decide
    refine numlaw_KeptConv.step1 _ _ _ _ _ _ _ _ ?_
    unfold numlaw_KeptConv.V1
    rw [i1, i5, i6]
    refine (apL_spec _ _ _ u64_0 w6).mono ?_
    rintro z w7 ⟨rfl, S7⟩
    have g7 := g6.keep S7
    have k7 := k6.keep S7
    have T7 := T6.trans (S7.mono T6.size (by simp))
    rw [e0, n0]
    refine ⟨_, rfl, _, _, _, _, _, _, g7.c0, g7.c1, g7.c2, g7.c3, g7.c4, g7.c5, (Nearest32_spec neg v hv64 hnz w7).mono ?_⟩
    rintro z w8 ⟨rfl, S8⟩
    have g8 := g7.keep S8
    have k8 := k7.keep S8
    have T8 := T7.trans (S8.mono T7.size (by simp))
    refine ⟨_, rfl, cond_false' rfl ((apL_spec _ _ _ u64_0 w8).mono ?_)⟩
    rintro z w9 ⟨rfl, S9⟩
    have g9 := g8.keep S9
    have k9 := k8.keep S9
    have T9 := T8.trans (S9.mono T8.size (by simp))
    rw [e1, n1]
    refine ⟨_, rfl, _, _, _, _, _, _, g9.c0, g9.c1, g9.c2, g9.c3, g9.c4, g9.c5, (Nearest32_spec false x (by omega) (fun h => by cases h) w9).mono ?_⟩
    rintro z w10 ⟨rfl, S10⟩
    have k10 := k9.keep S10
    have T10 := T9.trans (S10.mono T9.size (by simp))
    refine ⟨_, rfl, cond_false' rfl ((apL_spec _ _ _ u64_0 w10).mono ?_)⟩
    rintro z w11 ⟨rfl, S11⟩
    have k11 := k10.keep S11
    have T11 := T10.trans (S11.mono T10.size (by simp))
    rw [e5, n5]
    refine ⟨_, rfl, _, _, _, _, _, _, k11.c0, k11.c1, k11.c2, k11.c3, k11.c4, k11.c5, (Nearest64_spec neg v hv64 hnz w11).mono ?_⟩
    rintro z w12 ⟨rfl, S12⟩
    have k12 := k11.keep S12
    have T12 := T11.trans (S12.mono T11.size (by simp))
    refine ⟨_, rfl, cond_false' rfl ((apL_spec _ _ _ u64_0 w12).mono ?_)⟩
    rintro z w13 ⟨rfl, S13⟩
    have k13 := k12.keep S13
    have T13 := T12.trans (S13.mono T12.size (by simp))
    rw [e6, n6]
    refine ⟨_, rfl, _, _, _, _, _, _, k13.c0, k13.c1, k13.c2, k13.c3, k13.c4, k13.c5, (Nearest64_spec false x (by omega) (fun h => by cases h) w13).mono ?_⟩
    rintro z w14 ⟨rfl, S14⟩
    exact ⟨_, rfl, rfl, T13.trans (S14.mono T13.size (by simp))⟩
  have q1 : bAnd .u64 (x : Int) 2147483648 = ((x &&& 2147483648 : Nat) : Int) := bAnd64_n x 2147483648 (by omega) (by decide)
  have q2 : x &&& 2147483648 = 2147483648 * (x / 2147483648 % 2) := and_pow x 31
  rw [q1, q2]
  by_cases hs : 2147483648 ≤ x
  · have q3 : x / 2147483648 % 2 = 1 := by omega
    rw [q3]
    have q4 : n = (x : Int) - 4294967296 := by rw [hn]; unfold sgn; rw [if_pos (by omega)]; omega
    have q5 : bAnd .u64 (IntKind.wrap .u64 (0 - (x : Int))) 4294967295 = ((n.natAbs : Nat) : Int) := by
      rw [andm32 _ (wrap_u64_rng _).1 (wrap_u64_rng _).2, wrap_u64_mod]; omega
    rw [q5]
    refine cond_true' (by decide) (main _ _ ?_ rfl)
    rw [decide_eq_true (show n < 0 by omega)]; decide
  · have q3 : x / 2147483648 % 2 = 0 := by omega
    rw [q3]
    have q4 : n = (x : Int) := by rw [hn]; unfold sgn; rw [if_neg (by omega)]
    refine cond_false' (by decide) (main _ _ ?_ (by omega))
    rw [decide_eq_false (show ¬ n < 0 by omega)]; decide

theorem KeptConv64_spec (x : Nat) (hx : x < 18446744073709551616) (w : World) : Runs Try.prog numlaw_KeptConv.id #[.int .i64 180, .int .u64 9223372036854775808, .int .u64 18446744073709551615, .int .u64 x] w fun v w' => v = .bool true ∧ Same [] w.heap.size w w' := by
  refine numlaw_KeptConv.enter _ _ _ _ _ _ ?_
  unfold numlaw_KeptConv.V
  refine (F32_spec w).mono ?_
  rintro v w1 ⟨rfl, T1⟩
  refine ⟨_, _, _, _, _, _, rfl, ?_⟩
  refine letB_intro fun b hb => letW_intro fun w2 hw2 => ?_
  have g2 : FmtAt w2 b ⟨0, 0, 0, 0, 0, 0⟩ := by rw [hw2, hb]; exact FmtAt.new w1 ⟨0, 0, 0, 0, 0, 0⟩ T_numlaw_Fmt
  have T2 : Same [] w.heap.size w w2 := by rw [hw2]; exact T1.alloc T1.size _
  have hbw : w.heap.size ≤ b := by rw [hb]; exact T1.size
  clear hw2 hb
  refine g2.put_intro (g := fmt32) fun w3 g3 h3 => ?_
  have T3 := same_fresh T2 hbw h3
  refine (F64_spec w3).mono ?_
  rintro v w4 ⟨rfl, S4⟩
  have g4 := g3.keep S4
  have T4 := T3.trans (S4.mono T3.size (by simp))
  refine ⟨_, _, _, _, _, _, rfl, ?_⟩
  refine letB_intro fun c hc => letW_intro fun w5 hw5 => ?_
  have k5 : FmtAt w5 c ⟨0, 0, 0, 0, 0, 0⟩ := by rw [hw5, hc]; exact FmtAt.new w4 ⟨0, 0, 0, 0, 0, 0⟩ T_numlaw_Fmt
  have T5 : Same [] w.heap.size w w5 := by rw [hw5]; exact T4.alloc T4.size _
  have S5 : Same [] w4.heap.size w4 w5 := by rw [hw5]; exact (Same.refl _ _ _).alloc (Nat.le_refl _) _
  have g5 := g4.keep S5
  have hcw : w.heap.size ≤ c := by rw [hc]; exact T4.size
  have hbc : b ≠ c := by rw [hc]; have := g4.lt; omega
  clear hw5 hc
  refine k5.put_intro (g := fmt64) fun w6 k6 h6 => ?_
  have T6 := same_fresh T5 hcw h6
  have g6 : FmtAt w6 b fmt32 := g5.same (h6 (b + 1)) (by omega) (by simp; exact hbc)
  -- the signed number
  obtain ⟨n, hn⟩ : ∃ n : Int, n = sgn 9223372036854775808 x := ⟨_, rfl⟩
  have hnr : -9223372036854775808 ≤ n ∧ n < 9223372036854775808 := by rw [hn]; unfold sgn; split <;> omega
  have hin : IntKind.wrap .i64 (x : Int) = n := by
    rw [hn]; exact wrap_i64_sgn x (by omega) (by omega)
  have huin : (x : Int) = (x : Int) := rfl
  have l32 := near_lt32 n
  have u32l := near_lt32 (x : Int)
  have e0 : (ap 180 x 0).1 = ((FloatKind.nearest .f32 n : Nat) : Int) := by
    rw [ap_conv 180 x 0 (by decide) (by decide)]
    show W64 ((FloatKind.nearest .f32 (IntKind.wrap .i64 (x : Int)) : Nat) : Int) = _
    rw [hin]; unfold W64; rw [wrap64_n _ (by omega)]
  have e1 : (ap 181 x 0).1 = ((FloatKind.nearest .f32 (x : Int) : Nat) : Int) := by
    rw [ap_conv 181 x 0 (by decide) (by decide)]
    show W64 ((FloatKind.nearest .f32 ((x : Int)) : Nat) : Int) = _
    rw [huin]; unfold W64; rw [wrap64_n _ (by omega)]
  have e5 : (ap 185 x 0).1 = ((FloatKind.nearest .f64 n : Nat) : Int) := by
    rw [ap_conv 185 x 0 (by decide) (by decide)]
    show ((FloatKind.nearest .f64 (IntKind.wrap .i64 (x : Int)) : Nat) : Int) = _
    rw [hin]
  have e6 : (ap 186 x 0).1 = ((FloatKind.nearest .f64 (x : Int) : Nat) : Int) := by
    rw [ap_conv 186 x 0 (by decide) (by decide)]
    show ((FloatKind.nearest .f64 ((x : Int)) : Nat) : Int) = _
    rw [huin]
  have main : ∀ (neg : Bool) (v : Nat), neg = decide (n < 0) → v = n.natAbs → numlaw_KeptConv.L1 180 x b c neg v (fun v w' => v = .bool true ∧ Same [] w.heap.size w w') w6 := by
    intro neg v hneg hv
    have hv64 : v < 18446744073709551616 := by omega
    have hnz : neg = true → v ≠ 0 := fun h => by rw [hneg] at h; have := of_decide_eq_true h; omega
    have n0 : FloatKind.nearest .f32 n = Ieee.single.write (.number neg v 0) := by rw [hneg, hv]; rfl
    have n5 : FloatKind.nearest .f64 n = Ieee.double.write (.number neg v 0) := by rw [hneg, hv]; rfl
    have hxd : decide ((x : Int) < 0) = false := decide_eq_false (by omega)
    have n1 : FloatKind.nearest .f32 (x : Int) = Ieee.single.write (.number false x 0) := by
      have : FloatKind.nearest .f32 (x : Int) = Ieee.single.write (.number (decide ((x : Int) < 0)) (x : Int).natAbs 0) := rfl
      rw [this, hxd, Int.natAbs_natCast]
    have n6 : FloatKind.nearest .f64 (x : Int) = Ieee.double.write (.number false x 0) := by
      have : FloatKind.nearest .f64 (x : Int) = Ieee.double.write (.number (decide ((x : Int) < 0)) (x : Int).natAbs 0) := rfl
      rw [this, hxd, Int.natAbs_natCast]
    have i1 : IntKind.wrap .i64 ((180 : Int) + 1) = 181 := by decide
    have i5 : IntKind.wrap .i64 ((180 : Int) + 5) = 185 := by decide
    have i6 : IntKind.wrap .i64 ((180 : Int) + 6) = 186 := by decide
    refine numlaw_KeptConv.step1 _ _ _ _ _ _ _ _ ?_
    unfold numlaw_KeptConv.V1
    rw [i1, i5, i6]
    refine (apL_spec _ _ _ u64_0 w6).mono ?_
    rintro z w7 ⟨rfl, S7⟩
    have g7 := g6.keep S7
    have k7 := k6.keep S7
    have T7 := T6.trans (S7.mono T6.size (by simp))
    rw [e0, n0]
    refine ⟨_, rfl, _, _, _, _, _, _, g7.c0, g7.c1, g7.c2, g7.c3, g7.c4, g7.c5, (Nearest32_spec neg v hv64 hnz w7).mono ?_⟩
    rintro z w8 ⟨rfl, S8⟩
    have g8 := g7.keep S8
    have k8 := k7.keep S8
    have T8 := T7.trans (S8.mono T7.size (by simp))
    refine ⟨_, rfl, cond_false' rfl ((apL_spec _ _ _ u64_0 w8).mono ?_)⟩
    rintro z w9 ⟨rfl, S9⟩
    have g9 := g8.keep S9
    have k9 := k8.keep S9
    have T9 := T8.trans (S9.mono T8.size (by simp))
    rw [e1, n1]
    refine ⟨_, rfl, _, _, _, _, _, _, g9.c0, g9.c1, g9.c2, g9.c3, g9.c4, g9.c5, (Nearest32_spec false x (by omega) (fun h => by cases h) w9).mono ?_⟩
    rintro z w10 ⟨rfl, S10⟩
    have k10 := k9.keep S10
    have T10 := T9.trans (S10.mono T9.size (by simp))
    refine ⟨_, rfl, cond_false' rfl ((apL_spec _ _ _ u64_0 w10).mono ?_)⟩
    rintro z w11 ⟨rfl, S11⟩
    have k11 := k10.keep S11
    have T11 := T10.trans (S11.mono T10.size (by simp))
    rw [e5, n5]
    refine ⟨_, rfl, _, _, _, _, _, _, k11.c0, k11.c1, k11.c2, k11.c3, k11.c4, k11.c5, (Nearest64_spec neg v hv64 hnz w11).mono ?_⟩
    rintro z w12 ⟨rfl, S12⟩
    have k12 := k11.keep S12
    have T12 := T11.trans (S12.mono T11.size (by simp))
    refine ⟨_, rfl, cond_false' rfl ((apL_spec _ _ _ u64_0 w12).mono ?_)⟩
    rintro z w13 ⟨rfl, S13⟩
    have k13 := k12.keep S13
    have T13 := T12.trans (S13.mono T12.size (by simp))
    rw [e6, n6]
    refine ⟨_, rfl, _, _, _, _, _, _, k13.c0, k13.c1, k13.c2, k13.c3, k13.c4, k13.c5, (Nearest64_spec false x (by omega) (fun h => by cases h) w13).mono ?_⟩
    rintro z w14 ⟨rfl, S14⟩
    exact ⟨_, rfl, rfl, T13.trans (S14.mono T13.size (by simp))⟩
  have q1 : bAnd .u64 (x : Int) 9223372036854775808 = ((x &&& 9223372036854775808 : Nat) : Int) := bAnd64_n x 9223372036854775808 (by omega) (by decide)
  have q2 : x &&& 9223372036854775808 = 9223372036854775808 * (x / 9223372036854775808 % 2) := and_pow x 63
  rw [q1, q2]
  by_cases hs : 9223372036854775808 ≤ x
  · have q3 : x / 9223372036854775808 % 2 = 1 := by omega
    rw [q3]
    have q4 : n = (x : Int) - 18446744073709551616 := by rw [hn]; unfold sgn; rw [if_pos (by omega)]; omega
    have q5 : bAnd .u64 (IntKind.wrap .u64 (0 - (x : Int))) 18446744073709551615 = ((n.natAbs : Nat) : Int) := by
      rw [andm64 _ (wrap_u64_rng _).1 (wrap_u64_rng _).2, wrap_u64_mod]; omega
    rw [q5]
    refine cond_true' (by decide) (main _ _ ?_ rfl)
    rw [decide_eq_true (show n < 0 by omega)]; decide
  · have q3 : x / 9223372036854775808 % 2 = 0 := by omega
    rw [q3]
    have q4 : n = (x : Int) := by rw [hn]; unfold sgn; rw [if_neg (by omega)]
    refine cond_false' (by decide) (main _ _ ?_ (by omega))
    rw [decide_eq_false (show ¬ n < 0 by omega)]; decide

end Go.Proofs.Qxb6500320a
