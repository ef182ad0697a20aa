/-
  KeepsEnds: the truncations between their ends, by patterns and by whole numbers.
-/
import Derived.Test.Qxb6500320aKeA
set_option linter.unusedSimpArgs false
set_option linter.unusedVariables false
set_option maxRecDepth 100000
namespace Go.Proofs.Qxb6500320a
open Go Go.Vc

theorem beq_gt (a b : Int) : ((some (compare a b) : Option Ordering) == some .gt) = decide (b < a) := by
  rcases Int.lt_trichotomy a b with h | h | h
  · rw [Int.compare_eq_lt.2 h, decide_eq_false (by omega)]; rfl
  · rw [Int.compare_eq_eq.2 h, decide_eq_false (by omega)]; rfl
  · rw [Int.compare_eq_gt.2 h, decide_eq_true h]; rfl
theorem beq_lt (a b : Int) : ((some (compare a b) : Option Ordering) == some .lt) = decide (a < b) := by
  rcases Int.lt_trichotomy a b with h | h | h
  · rw [Int.compare_eq_lt.2 h, decide_eq_true h]; rfl
  · rw [Int.compare_eq_eq.2 h, decide_eq_false (by omega)]; rfl
  · rw [Int.compare_eq_gt.2 h, decide_eq_false (by omega)]; rfl
theorem beq_eq (a b : Int) : ((some (compare a b) : Option Ordering) == some .eq) = decide (a = b) := by
  rcases Int.lt_trichotomy a b with h | h | h
  · rw [Int.compare_eq_lt.2 h, decide_eq_false (by omega)]; rfl
  · rw [Int.compare_eq_eq.2 h, decide_eq_true h]; rfl
  · rw [Int.compare_eq_gt.2 h, decide_eq_false (by omega)]; rfl

theorem andnot_high (z : Int) (hz : U64 z) : bAndNot .u64 z 18446744069414584320 = z % 4294967296 := by
  unfold U64 at hz
  obtain ⟨n, rfl⟩ : ∃ n : Nat, z = (n : Int) := ⟨z.toNat, by omega⟩
  unfold bAndNot
  have e1 : (BitVec.ofInt (IntKind.bits .u64) (n : Int)).toNat = n := ofInt_nat n 64 (by omega)
  have e2 : (~~~(BitVec.ofInt (IntKind.bits .u64) 18446744069414584320)).toNat = 4294967295 := by decide +kernel
  rw [BitVec.toNat_and, e1, e2]
  have e3 : n &&& 4294967295 = n % 2 ^ 32 := Nat.and_two_pow_sub_one_eq_mod n 32
  rw [e3, wrap64_n _ (by omega)]; omega

/-- As sub63, with the number itself. -/
theorem sub63_val (f : Ieee.Format) (x c d : Nat) (j : Int) (E : Nat) (hE : f.infRung = E * f.binade) (hE1 : 1 ≤ E) (hc : f.read c = .number false f.binade j) (hd : f.read d = .number false f.binade (j + 1)) (hj : f.leastPlace < j) (hj0 : 0 ≤ j) (hl : f.leastPlace ≤ 0)
    (ht : (j - f.leastPlace).toNat + 2 ≤ E)
    (h1 : f.order x c = some .gt ∨ f.order x c = some .eq) (h2 : f.order x d = some .lt) :
    ∃ r m, f.sub x c = some r ∧ f.read x = .number false m j ∧ f.binade ≤ m ∧ m < 2 * f.binade ∧ (f.read r).toInt .zero = some (((m - f.binade) * 2 ^ j.toNat : Nat) : Int) := by
  obtain ⟨m, hx, hm1, hm2⟩ := sub_top f x c d j hc hd hj h1 h2
  have hb : 0 < f.binade := Nat.two_pow_pos _
  have hsum : (Ieee.Datum.number false m j).sum (Ieee.Datum.number true f.binade j) = some (.number false (m - f.binade) j) := by
    simp only [Ieee.Datum.sum, Ieee.signed, Bool.false_eq_true, if_false, if_true, Nat.shiftLeft_eq]
    have e0 : (j - min j j).toNat = 0 := by omega
    rw [e0, Nat.pow_zero, Nat.mul_one, Nat.mul_one]
    have e1 : (m : Int) + -(f.binade : Int) = ((m - f.binade : Nat) : Int) := by omega
    rw [e1]
    have e2 : min j j = j := by omega
    rw [e2, Int.natAbs_natCast]
    congr 2
    split
    · rfl
    · apply decide_eq_false; omega
  have hl2 : (m - f.binade).log2 ≤ f.fractionBits := log2_lt _ _ (by
    rw [Nat.pow_succ]; have : f.binade = 2 ^ f.fractionBits := rfl
    omega)
  obtain ⟨n, i, hr, hi, he⟩ := exact_write f false (m - f.binade) j E hE hE1 (by omega) (by omega) (by omega)
  have e1 : (-j).toNat = 0 := by omega
  refine ⟨f.write (.number false (m - f.binade) j), m, ?_, hx, hm1, hm2, ?_⟩
  · unfold Ieee.Format.sub
    rw [hx, hc]
    show ((Ieee.Datum.number false m j).sum (Ieee.Datum.number true f.binade j)).map f.write = _
    rw [hsum]; rfl
  · rw [hr, toInt_scale f false n (m - f.binade) i j hi (by omega) hl he, toInt_number, e1, Nat.pow_zero, Nat.div_one]
    rfl

/-! ### 32 bits -/
theorem readS32 (x : Nat) (hx : x < 4294967296) (hv : x % 2147483648 < 2139095040) : Ieee.single.read x = .number (decide (2147483648 ≤ x)) (pm32 (x % 2147483648)) (pe32 (x % 2147483648)) := by
  have h1 : Ieee.single.signWeight = 2147483648 := by decide
  have h2 : Ieee.single.binade = 8388608 := by decide
  have h3 : Ieee.single.infRung = 2139095040 := by decide
  have h4 : Ieee.single.leastPlace = -149 := by decide
  have hs : (x / 2147483648 % 2 == 1) = decide (2147483648 ≤ x) := by rw [Bool.eq_iff_iff, beq_iff_eq, decide_eq_true_iff]; omega
  unfold Ieee.Format.read pm32 pe32
  simp only [h1, h2, h3, h4, hs]
  by_cases h : x % 2147483648 < 8388608
  · rw [if_pos h, if_pos h, if_pos h]
  · rw [if_neg h, if_neg h, if_neg h, if_pos hv]

def cutN32 (v : Nat) : Nat := pm32 v * 2 ^ (pe32 v).toNat / 2 ^ (-(pe32 v)).toNat
theorem cutV32 (x : Nat) (hx : x < 4294967296) (hv : x % 2147483648 < 2139095040) : cutV Ieee.single x = if 2147483648 ≤ x then -((cutN32 (x % 2147483648) : Nat) : Int) else ((cutN32 (x % 2147483648) : Nat) : Int) := by
  unfold cutV cutN32
  rw [readS32 x hx hv, toInt_number]
  by_cases h : 2147483648 ≤ x
  · rw [decide_eq_true h, if_pos h]; rfl
  · rw [decide_eq_false h, if_neg h]; rfl

theorem pm32_lt (v : Nat) : pm32 v < 16777216 := by unfold pm32; split <;> omega
theorem pe32_ge (v : Nat) : -149 ≤ pe32 v := by unfold pe32; split <;> omega
theorem pe32_le (v : Nat) (hv : v < 2139095040) : pe32 v ≤ 104 := by unfold pe32; split <;> omega

theorem key32_pos (x : Nat) (hx : x < 4294967296) (h : ¬ 2147483648 ≤ x) : key Ieee.single x = ((x % 2147483648 : Nat) : Int) := by rw [key32 x hx, if_neg h]
theorem key32_neg (x : Nat) (hx : x < 4294967296) (h : 2147483648 ≤ x) : key Ieee.single x = -((x % 2147483648 : Nat) : Int) := by rw [key32 x hx, if_pos h]

/-- Back from the whole number: the same float as trunc gives. -/
theorem backeq32 (x : Nat) (hx : x < 4294967296) (hv : x % 2147483648 < 2139095040) : Ieee.single.order (FloatKind.nearest .f32 (cutV Ieee.single x)) (cn32 (cut32 x)) = some .eq := by
  have hyc : (FloatKind.nearest .f32 (cutV Ieee.single x)) % 2147483648 ≤ 2139095040 := by
    have h := write_not_nan Ieee.single single_bi (.number (cutV Ieee.single x < 0) (cutV Ieee.single x).natAbs 0) rfl
    rw [nan32] at h
    have h' := of_decide_eq_false h
    have e : FloatKind.nearest .f32 (cutV Ieee.single x) = Ieee.single.write (.number (cutV Ieee.single x < 0) (cutV Ieee.single x).natAbs 0) := rfl
    rw [e]; omega
  have cnid : ∀ z, z % 2147483648 ≤ 2139095040 → cn32 z = z := fun z hz => by
    unfold cn32; rw [nan32, decide_eq_false (by omega)]; rfl
  have self : ∀ z, z % 2147483648 ≤ 2139095040 → Ieee.single.order z z = some .eq := fun z hz => by
    rw [order32 z z hz hz, Int.compare_eq_eq.2 rfl]
  have k1 : key Ieee.single 3405774848 = -1258291200 := by decide
  have k2 : key Ieee.single 1258291200 = 1258291200 := by decide
  have o1 := order32 x 3405774848 (by omega) (by decide)
  have o2 := order32 x 1258291200 (by omega) (by decide)
  rw [k1] at o1
  rw [k2] at o2
  by_cases hin : -1258291200 < key Ieee.single x ∧ key Ieee.single x < 1258291200
  · have ec : cut32 x = cond (Ieee.single.order (FloatKind.nearest .f32 (cutV Ieee.single x)) 0 == some .eq) (bAnd .u32 (x : Int) 2147483648).toNat (FloatKind.nearest .f32 (cutV Ieee.single x)) := by
      unfold cut32
      rw [o1, o2, beq_gt, beq_lt, decide_eq_true hin.1, decide_eq_true hin.2]; rfl
    rw [ec]
    generalize FloatKind.nearest .f32 (cutV Ieee.single x) = y at hyc
    cases hz : (Ieee.single.order y 0 == some .eq) with
    | false => rw [cond_false, cnid y hyc]; exact self y hyc
    | true =>
      rw [cond_true]
      have e0 : Ieee.single.order y 0 = some .eq := by simpa using hz
      have e1 : bAnd .u32 (x : Int) 2147483648 = ((x &&& 2147483648 : Nat) : Int) := bAnd32_n x 2147483648 hx (by decide)
      rw [e1, Int.toNat_natCast]
      have e2 : x &&& 2147483648 = 2147483648 * (x / 2147483648 % 2) := and_pow x 31
      rw [e2]
      have hc : x / 2147483648 % 2 = 0 ∨ x / 2147483648 % 2 = 1 := by omega
      rcases hc with hc | hc
      · rw [hc, Nat.mul_zero, cnid 0 (by decide)]; exact e0
      · rw [hc, Nat.mul_one, cnid 2147483648 (by decide)]
        rw [order32 y 0 hyc (by decide)] at e0
        rw [order32 y 2147483648 hyc (by decide)]
        have q1 : key Ieee.single 2147483648 = key Ieee.single 0 := by decide
        rw [q1]; exact e0
  · have ec : cut32 x = x := by
      unfold cut32
      rw [o1, o2, beq_gt, beq_lt]
      by_cases h1 : -1258291200 < key Ieee.single x
      · rw [decide_eq_true h1, decide_eq_false (show ¬ (key Ieee.single x < 1258291200) from fun h => hin ⟨h1, h⟩)]; rfl
      · rw [decide_eq_false h1]; rfl
    rw [ec, cnid x (by omega)]
    -- a whole number already
    have hbig : 1258291200 ≤ x % 2147483648 := by
      by_cases h : 2147483648 ≤ x
      · rw [key32_neg x hx h] at hin; omega
      · rw [key32_pos x hx h] at hin; omega
    have hpe : 0 ≤ pe32 (x % 2147483648) := by unfold pe32; rw [if_neg (by omega)]; omega
    have hpm : 0 < pm32 (x % 2147483648) := by unfold pm32; rw [if_neg (by omega)]; omega
    obtain ⟨I, hI⟩ : ∃ I : Nat, pe32 (x % 2147483648) = (I : Int) := ⟨(pe32 (x % 2147483648)).toNat, by omega⟩
    have hN : cutN32 (x % 2147483648) = pm32 (x % 2147483648) * 2 ^ I := by
      unfold cutN32
      rw [hI, Int.toNat_natCast]
      have : (-(I : Int)).toNat = 0 := by omega
      rw [this, Nat.pow_zero, Nat.div_one]
    have hNpos : 0 < cutN32 (x % 2147483648) := by rw [hN]; exact Nat.mul_pos hpm (Nat.two_pow_pos _)
    have hsg : decide (cutV Ieee.single x < 0) = decide (2147483648 ≤ x) := by
      rw [cutV32 x hx hv, Bool.eq_iff_iff, decide_eq_true_iff, decide_eq_true_iff]
      split <;> omega
    have hab : (cutV Ieee.single x).natAbs = cutN32 (x % 2147483648) := by
      rw [cutV32 x hx hv]; split <;> omega
    have hy : FloatKind.nearest .f32 (cutV Ieee.single x) = x := by
      have e : FloatKind.nearest .f32 (cutV Ieee.single x) = Ieee.single.write (.number (decide (cutV Ieee.single x < 0)) (cutV Ieee.single x).natAbs 0) := rfl
      rw [e, hsg, hab]
      obtain ⟨m', i', r1, r2, r3⟩ := read_val Ieee.single x (by rw [rung32, ir32]; exact hv)
      rw [readS32 x hx hv] at r1
      simp only [Ieee.Datum.number.injEq] at r1
      obtain ⟨r4, rfl, rfl⟩ := r1
      rw [r4]
      have hw := write_rung Ieee.single 255 sE (by decide) (sgb Ieee.single x) (cutN32 (x % 2147483648)) 0 (-149) (rung Ieee.single x) (by rw [rung32, ir32]; exact hv) (by decide) (by rw [slp]; decide) (by
        rw [← r3, slp]
        have z : ((-149 : Int) - -149).toNat = 0 := by decide
        rw [z, Nat.pow_zero, Nat.mul_one, hN, Nat.mul_assoc, ← Nat.pow_add]
        congr 2
        omega)
      rw [hw, word_self _ _ (by rw [sw32]; omega)]
    rw [hy]
    exact self x (by omega)

theorem CutOf32_spec (x : Nat) (hx : x < 4294967296) (hv : x % 2147483648 < 2139095040) (he : pe32 (x % 2147483648) ≤ 40) (w : World) : Runs Try.prog numlaw_CutOf.id #[fmt32.val, .int .i64 24, .int .u64 x] w fun r w' => (∃ ex : Bool, r = .tuple #[.int .u64 ((cutN32 (x % 2147483648) : Nat) : Int), .bool ex, .bool true]) ∧ cutN32 (x % 2147483648) < 18446744073709551616 ∧ Same [] w.heap.size w w' := by
  refine numlaw_CutOf.enter 139 146 91 2147483648 2139095040 2143289344 24 x _ _ ?_
  unfold numlaw_CutOf.V
  refine letB_intro fun b hb => letW_intro fun w0 hw0 => ?_
  have f0 : FmtAt w0 b fmt32 := by rw [hw0, hb]; exact FmtAt.new w fmt32 T_numlaw_Fmt
  have T0 : Same [] w.heap.size w w0 := by rw [hw0]; exact (Same.refl _ _ _).alloc (Nat.le_refl _) _
  clear hw0 hb
  have c3 : fmt32.sign = 2147483648 := rfl
  refine ⟨_, _, _, _, _, _, f0.c0, f0.c1, f0.c2, f0.c3, f0.c4, f0.c5, _, f0.c3, ?_⟩
  rw [c3, andnot32 x hx]
  refine (Part32_spec (x % 2147483648) hv w0).mono ?_
  rintro v w1 ⟨rfl, S1⟩
  have T1 := T0.trans (S1.mono T0.size (by simp))
  refine ⟨_, _, rfl, ?_⟩
  have e40 : IntKind.wrap .i64 ((64 : Int) - 24) = 40 := by decide
  rw [e40]
  clear e40 c3
  have hpl := pm32_lt (x % 2147483648)
  have hpg := pe32_ge (x % 2147483648)
  unfold cutN32
  generalize pm32 (x % 2147483648) = m at *
  generalize pe32 (x % 2147483648) = i at *
  refine cond_false' (decide_eq_false (by omega)) ?_
  by_cases hi : 0 ≤ i
  · obtain ⟨I, rfl⟩ : ∃ I : Nat, i = (I : Int) := ⟨i.toNat, by omega⟩
    have e1 : IntKind.wrap .u64 (I : Int) = (I : Int) := wrap64_n I (by omega)
    have hlt : m * 2 ^ I < 18446744073709551616 := by
      have a1 : 2 ^ I ≤ 2 ^ 40 := Nat.pow_le_pow_right (by omega) (by omega)
      have a2 : m * 2 ^ I ≤ 16777215 * 2 ^ 40 := Nat.mul_le_mul (by omega) a1
      have a3 : (16777215 : Nat) * 2 ^ 40 < 18446744073709551616 := by decide
      exact Nat.lt_of_le_of_lt a2 a3
    have e2 : (-(I : Int)).toNat = 0 := by omega
    rw [e1, e2, Int.toNat_natCast, Nat.pow_zero, Nat.div_one]
    refine cond_true' (decide_eq_true (by omega)) ⟨by omega, ⟨true, ?_⟩, hlt, T1⟩
    rw [shl64_n m I (by omega), Nat.mod_eq_of_lt hlt]
  · refine cond_false' (decide_eq_false (by omega)) ?_
    obtain ⟨J, hJ⟩ : ∃ J : Nat, i = -(J : Int) := ⟨(-i).toNat, by omega⟩
    subst hJ
    have e1 : (-(J : Int)).toNat = 0 := by omega
    have e2 : (- -(J : Int)).toNat = J := by omega
    rw [e1, e2, Nat.pow_zero, Nat.mul_one]
    have hlt : m / 2 ^ J < 18446744073709551616 := Nat.lt_of_le_of_lt (Nat.div_le_self _ _) (by omega)
    by_cases hJ64 : 64 ≤ J
    · have ez : m / 2 ^ J = 0 := by
        apply Nat.div_eq_of_lt
        have a1 : 2 ^ 64 ≤ 2 ^ J := Nat.pow_le_pow_right (by omega) hJ64
        have a2 : (2 : Nat) ^ 64 = 18446744073709551616 := by decide
        omega
      rw [ez]
      exact cond_true' (decide_eq_true (by omega)) ⟨⟨_, rfl⟩, by decide, T1⟩
    · refine cond_false' (decide_eq_false (by omega)) ?_
      have e3 : IntKind.wrap .u64 (IntKind.wrap .i64 (0 - -(J : Int))) = (J : Int) := by
        have : (0 : Int) - -(J : Int) = (J : Int) := by omega
        rw [this, wrap_i64 (by omega) (by omega), wrap64_n J (by omega)]
      rw [e3, fdivk m J (by omega)]
      exact ⟨by omega, by omega, ⟨_, rfl⟩, hlt, T1⟩

/-! ### 64 bits -/
theorem readS64 (x : Nat) (hx : x < 18446744073709551616) (hv : x % 9223372036854775808 < 9218868437227405312) : Ieee.double.read x = .number (decide (9223372036854775808 ≤ x)) (pm64 (x % 9223372036854775808)) (pe64 (x % 9223372036854775808)) := by
  have h1 : Ieee.double.signWeight = 9223372036854775808 := by decide
  have h2 : Ieee.double.binade = 4503599627370496 := by decide
  have h3 : Ieee.double.infRung = 9218868437227405312 := by decide
  have h4 : Ieee.double.leastPlace = -1074 := by decide
  have hs : (x / 9223372036854775808 % 2 == 1) = decide (9223372036854775808 ≤ x) := by rw [Bool.eq_iff_iff, beq_iff_eq, decide_eq_true_iff]; omega
  unfold Ieee.Format.read pm64 pe64
  simp only [h1, h2, h3, h4, hs]
  by_cases h : x % 9223372036854775808 < 4503599627370496
  · rw [if_pos h, if_pos h, if_pos h]
  · rw [if_neg h, if_neg h, if_neg h, if_pos hv]

def cutN64 (v : Nat) : Nat := pm64 v * 2 ^ (pe64 v).toNat / 2 ^ (-(pe64 v)).toNat
theorem cutV64 (x : Nat) (hx : x < 18446744073709551616) (hv : x % 9223372036854775808 < 9218868437227405312) : cutV Ieee.double x = if 9223372036854775808 ≤ x then -((cutN64 (x % 9223372036854775808) : Nat) : Int) else ((cutN64 (x % 9223372036854775808) : Nat) : Int) := by
  unfold cutV cutN64
  rw [readS64 x hx hv, toInt_number]
  by_cases h : 9223372036854775808 ≤ x
  · rw [decide_eq_true h, if_pos h]; rfl
  · rw [decide_eq_false h, if_neg h]; rfl

theorem pm64_lt (v : Nat) : pm64 v < 9007199254740992 := by unfold pm64; split <;> omega
theorem pe64_ge (v : Nat) : -1074 ≤ pe64 v := by unfold pe64; split <;> omega
theorem pe64_le (v : Nat) (hv : v < 9218868437227405312) : pe64 v ≤ 971 := by unfold pe64; split <;> omega

theorem key64_pos (x : Nat) (hx : x < 18446744073709551616) (h : ¬ 9223372036854775808 ≤ x) : key Ieee.double x = ((x % 9223372036854775808 : Nat) : Int) := by rw [key64 x hx, if_neg h]
theorem key64_neg (x : Nat) (hx : x < 18446744073709551616) (h : 9223372036854775808 ≤ x) : key Ieee.double x = -((x % 9223372036854775808 : Nat) : Int) := by rw [key64 x hx, if_pos h]

/-- Back from the whole number: the same float as trunc gives. -/
theorem backeq64 (x : Nat) (hx : x < 18446744073709551616) (hv : x % 9223372036854775808 < 9218868437227405312) : Ieee.double.order (FloatKind.nearest .f64 (cutV Ieee.double x)) (cn64 (cut64 x)) = some .eq := by
  have hyc : (FloatKind.nearest .f64 (cutV Ieee.double x)) % 9223372036854775808 ≤ 9218868437227405312 := by
    have h := write_not_nan Ieee.double double_bi (.number (cutV Ieee.double x < 0) (cutV Ieee.double x).natAbs 0) rfl
    rw [nan64] at h
    have h' := of_decide_eq_false h
    have e : FloatKind.nearest .f64 (cutV Ieee.double x) = Ieee.double.write (.number (cutV Ieee.double x < 0) (cutV Ieee.double x).natAbs 0) := rfl
    rw [e]; omega
  have cnid : ∀ z, z % 9223372036854775808 ≤ 9218868437227405312 → cn64 z = z := fun z hz => by
    unfold cn64; rw [nan64, decide_eq_false (by omega)]; rfl
  have self : ∀ z, z % 9223372036854775808 ≤ 9218868437227405312 → Ieee.double.order z z = some .eq := fun z hz => by
    rw [order64 z z hz hz, Int.compare_eq_eq.2 rfl]
  have k1 : key Ieee.double 14064741636278059008 = -4841369599423283200 := by decide
  have k2 : key Ieee.double 4841369599423283200 = 4841369599423283200 := by decide
  have o1 := order64 x 14064741636278059008 (by omega) (by decide)
  have o2 := order64 x 4841369599423283200 (by omega) (by decide)
  rw [k1] at o1
  rw [k2] at o2
  by_cases hin : -4841369599423283200 < key Ieee.double x ∧ key Ieee.double x < 4841369599423283200
  · have ec : cut64 x = cond (Ieee.double.order (FloatKind.nearest .f64 (cutV Ieee.double x)) 0 == some .eq) (bAnd .u64 (x : Int) 9223372036854775808).toNat (FloatKind.nearest .f64 (cutV Ieee.double x)) := by
      unfold cut64
      rw [o1, o2, beq_gt, beq_lt, decide_eq_true hin.1, decide_eq_true hin.2]; rfl
    rw [ec]
    generalize FloatKind.nearest .f64 (cutV Ieee.double x) = y at hyc
    cases hz : (Ieee.double.order y 0 == some .eq) with
    | false => rw [cond_false, cnid y hyc]; exact self y hyc
    | true =>
      rw [cond_true]
      have e0 : Ieee.double.order y 0 = some .eq := by simpa using hz
      have e1 : bAnd .u64 (x : Int) 9223372036854775808 = ((x &&& 9223372036854775808 : Nat) : Int) := bAnd64_n x 9223372036854775808 hx (by decide)
      rw [e1, Int.toNat_natCast]
      have e2 : x &&& 9223372036854775808 = 9223372036854775808 * (x / 9223372036854775808 % 2) := and_pow x 63
      rw [e2]
      have hc : x / 9223372036854775808 % 2 = 0 ∨ x / 9223372036854775808 % 2 = 1 := by omega
      rcases hc with hc | hc
      · rw [hc, Nat.mul_zero, cnid 0 (by decide)]; exact e0
      · rw [hc, Nat.mul_one, cnid 9223372036854775808 (by decide)]
        rw [order64 y 0 hyc (by decide)] at e0
        rw [order64 y 9223372036854775808 hyc (by decide)]
        have q1 : key Ieee.double 9223372036854775808 = key Ieee.double 0 := by decide
        rw [q1]; exact e0
  · have ec : cut64 x = x := by
      unfold cut64
      rw [o1, o2, beq_gt, beq_lt]
      by_cases h1 : -4841369599423283200 < key Ieee.double x
      · rw [decide_eq_true h1, decide_eq_false (show ¬ (key Ieee.double x < 4841369599423283200) from fun h => hin ⟨h1, h⟩)]; rfl
      · rw [decide_eq_false h1]; rfl
    rw [ec, cnid x (by omega)]
    -- a whole number already
    have hbig : 4841369599423283200 ≤ x % 9223372036854775808 := by
      by_cases h : 9223372036854775808 ≤ x
      · rw [key64_neg x hx h] at hin; omega
      · rw [key64_pos x hx h] at hin; omega
    have hpe : 0 ≤ pe64 (x % 9223372036854775808) := by unfold pe64; rw [if_neg (by omega)]; omega
    have hpm : 0 < pm64 (x % 9223372036854775808) := by unfold pm64; rw [if_neg (by omega)]; omega
    obtain ⟨I, hI⟩ : ∃ I : Nat, pe64 (x % 9223372036854775808) = (I : Int) := ⟨(pe64 (x % 9223372036854775808)).toNat, by omega⟩
    have hN : cutN64 (x % 9223372036854775808) = pm64 (x % 9223372036854775808) * 2 ^ I := by
      unfold cutN64
      rw [hI, Int.toNat_natCast]
      have : (-(I : Int)).toNat = 0 := by omega
      rw [this, Nat.pow_zero, Nat.div_one]
    have hNpos : 0 < cutN64 (x % 9223372036854775808) := by rw [hN]; exact Nat.mul_pos hpm (Nat.two_pow_pos _)
    have hsg : decide (cutV Ieee.double x < 0) = decide (9223372036854775808 ≤ x) := by
      rw [cutV64 x hx hv, Bool.eq_iff_iff, decide_eq_true_iff, decide_eq_true_iff]
      split <;> omega
    have hab : (cutV Ieee.double x).natAbs = cutN64 (x % 9223372036854775808) := by
      rw [cutV64 x hx hv]; split <;> omega
    have hy : FloatKind.nearest .f64 (cutV Ieee.double x) = x := by
      have e : FloatKind.nearest .f64 (cutV Ieee.double x) = Ieee.double.write (.number (decide (cutV Ieee.double x < 0)) (cutV Ieee.double x).natAbs 0) := rfl
      rw [e, hsg, hab]
      obtain ⟨m', i', r1, r2, r3⟩ := read_val Ieee.double x (by rw [rung64, ir64]; exact hv)
      rw [readS64 x hx hv] at r1
      simp only [Ieee.Datum.number.injEq] at r1
      obtain ⟨r4, rfl, rfl⟩ := r1
      rw [r4]
      have hw := write_rung Ieee.double 2047 dE (by decide) (sgb Ieee.double x) (cutN64 (x % 9223372036854775808)) 0 (-1074) (rung Ieee.double x) (by rw [rung64, ir64]; exact hv) (by decide) (by rw [dlp]; decide) (by
        rw [← r3, dlp]
        have z : ((-1074 : Int) - -1074).toNat = 0 := by decide
        rw [z, Nat.pow_zero, Nat.mul_one, hN, Nat.mul_assoc, ← Nat.pow_add]
        congr 2
        omega)
      rw [hw, word_self _ _ (by rw [sw64]; omega)]
    rw [hy]
    exact self x (by omega)

theorem CutOf64_spec (x : Nat) (hx : x < 18446744073709551616) (hv : x % 9223372036854775808 < 9218868437227405312) (he : pe64 (x % 9223372036854775808) ≤ 11) (w : World) : Runs Try.prog numlaw_CutOf.id #[fmt64.val, .int .i64 53, .int .u64 x] w fun r w' => (∃ ex : Bool, r = .tuple #[.int .u64 ((cutN64 (x % 9223372036854775808) : Nat) : Int), .bool ex, .bool true]) ∧ cutN64 (x % 9223372036854775808) < 18446744073709551616 ∧ Same [] w.heap.size w w' := by
  refine numlaw_CutOf.enter 153 160 97 9223372036854775808 9218868437227405312 9221120237041090560 53 x _ _ ?_
  unfold numlaw_CutOf.V
  refine letB_intro fun b hb => letW_intro fun w0 hw0 => ?_
  have f0 : FmtAt w0 b fmt64 := by rw [hw0, hb]; exact FmtAt.new w fmt64 T_numlaw_Fmt
  have T0 : Same [] w.heap.size w w0 := by rw [hw0]; exact (Same.refl _ _ _).alloc (Nat.le_refl _) _
  clear hw0 hb
  have c3 : fmt64.sign = 9223372036854775808 := rfl
  refine ⟨_, _, _, _, _, _, f0.c0, f0.c1, f0.c2, f0.c3, f0.c4, f0.c5, _, f0.c3, ?_⟩
  rw [c3, andnot64 x hx]
  refine (Part64_spec (x % 9223372036854775808) hv w0).mono ?_
  rintro v w1 ⟨rfl, S1⟩
  have T1 := T0.trans (S1.mono T0.size (by simp))
  refine ⟨_, _, rfl, ?_⟩
  have e40 : IntKind.wrap .i64 ((64 : Int) - 53) = 11 := by decide
  rw [e40]
  clear e40 c3
  have hpl := pm64_lt (x % 9223372036854775808)
  have hpg := pe64_ge (x % 9223372036854775808)
  unfold cutN64
  generalize pm64 (x % 9223372036854775808) = m at *
  generalize pe64 (x % 9223372036854775808) = i at *
  refine cond_false' (decide_eq_false (by omega)) ?_
  by_cases hi : 0 ≤ i
  · obtain ⟨I, rfl⟩ : ∃ I : Nat, i = (I : Int) := ⟨i.toNat, by omega⟩
    have e1 : IntKind.wrap .u64 (I : Int) = (I : Int) := wrap64_n I (by omega)
    have hlt : m * 2 ^ I < 18446744073709551616 := by
      have a1 : 2 ^ I ≤ 2 ^ 11 := Nat.pow_le_pow_right (by omega) (by omega)
      have a2 : m * 2 ^ I ≤ 9007199254740991 * 2 ^ 11 := Nat.mul_le_mul (by omega) a1
      have a3 : (9007199254740991 : Nat) * 2 ^ 11 < 18446744073709551616 := by decide
      exact Nat.lt_of_le_of_lt a2 a3
    have e2 : (-(I : Int)).toNat = 0 := by omega
    rw [e1, e2, Int.toNat_natCast, Nat.pow_zero, Nat.div_one]
    refine cond_true' (decide_eq_true (by omega)) ⟨by omega, ⟨true, ?_⟩, hlt, T1⟩
    rw [shl64_n m I (by omega), Nat.mod_eq_of_lt hlt]
  · refine cond_false' (decide_eq_false (by omega)) ?_
    obtain ⟨J, hJ⟩ : ∃ J : Nat, i = -(J : Int) := ⟨(-i).toNat, by omega⟩
    subst hJ
    have e1 : (-(J : Int)).toNat = 0 := by omega
    have e2 : (- -(J : Int)).toNat = J := by omega
    rw [e1, e2, Nat.pow_zero, Nat.mul_one]
    have hlt : m / 2 ^ J < 18446744073709551616 := Nat.lt_of_le_of_lt (Nat.div_le_self _ _) (by omega)
    by_cases hJ64 : 64 ≤ J
    · have ez : m / 2 ^ J = 0 := by
        apply Nat.div_eq_of_lt
        have a1 : 2 ^ 64 ≤ 2 ^ J := Nat.pow_le_pow_right (by omega) hJ64
        have a2 : (2 : Nat) ^ 64 = 18446744073709551616 := by decide
        omega
      rw [ez]
      exact cond_true' (decide_eq_true (by omega)) ⟨⟨_, rfl⟩, by decide, T1⟩
    · refine cond_false' (decide_eq_false (by omega)) ?_
      have e3 : IntKind.wrap .u64 (IntKind.wrap .i64 (0 - -(J : Int))) = (J : Int) := by
        have : (0 : Int) - -(J : Int) = (J : Int) := by omega
        rw [this, wrap_i64 (by omega) (by omega), wrap64_n J (by omega)]
      rw [e3, fdivk m J (by omega)]
      exact ⟨by omega, by omega, ⟨_, rfl⟩, hlt, T1⟩

/-! ### 168 -/
def in1 (x : Nat) : Prop := (2147483648 ≤ x ∧ x % 2147483648 ≤ 1325400064) ∨ (¬ 2147483648 ≤ x ∧ x % 2147483648 < 1325400064)
theorem tr1_form (x : Nat) (hx : x < 4294967296) (hv : x % 2147483648 ≤ 2139095040) : tr1 x = cond (decide (-1325400064 < key Ieee.single x) || decide (key Ieee.single x = -1325400064)) (cond (!(decide (key Ieee.single x < 1325400064))) (0, 40) (W3264 (cutV Ieee.single x), 0)) (0, 40) := by
  have k1 : key Ieee.single 3472883712 = -1325400064 := by decide
  have k2 : key Ieee.single 1325400064 = 1325400064 := by decide
  have o1 := order32 x 3472883712 hv (by decide)
  have o2 := order32 x 1325400064 hv (by decide)
  rw [k1] at o1
  rw [k2] at o2
  unfold tr1
  rw [self32, decide_eq_false (show ¬ 2139095040 < x % 2147483648 by omega), o1, o2, beq_gt, beq_lt, beq_eq]
  rfl
theorem tr1_nan (x : Nat) (hv : 2139095040 < x % 2147483648) : tr1 x = (0, 41) := by
  unfold tr1; rw [self32, decide_eq_true hv]; rfl
theorem tr1_out (x : Nat) (hx : x < 4294967296) (hv : x % 2147483648 ≤ 2139095040) (hin : ¬ in1 x) : tr1 x = (0, 40) := by
  rw [tr1_form x hx hv]
  unfold in1 at hin
  by_cases h : 2147483648 ≤ x
  · rw [key32_neg x hx h]
    have a1 : decide (-1325400064 < -((x % 2147483648 : Nat) : Int)) = false := decide_eq_false (by omega)
    rw [a1]
    have a2 : decide (-((x % 2147483648 : Nat) : Int) = -1325400064) = false := decide_eq_false (by omega)
    rw [a2]; rfl
  · rw [key32_pos x hx h]
    have a1 : decide (-1325400064 < ((x % 2147483648 : Nat) : Int)) = true := decide_eq_true (by omega)
    have a2 : decide (((x % 2147483648 : Nat) : Int) < 1325400064) = false := decide_eq_false (by omega)
    rw [a1, a2]; rfl
theorem tr1_yes (x : Nat) (hx : x < 4294967296) (hin : in1 x) : x % 2147483648 < 2139095040 ∧ tr1 x = (W3264 (cutV Ieee.single x), 0) ∧ ((decide (-1325400064 < key Ieee.single x) || decide (key Ieee.single x = -1325400064)) = true) ∧ key Ieee.single x < 1325400064 := by
  have hfin : x % 2147483648 < 2139095040 := by unfold in1 at hin; omega
  refine ⟨hfin, ?_⟩
  rw [tr1_form x hx (by omega)]
  unfold in1 at hin
  by_cases h : 2147483648 ≤ x
  · rw [key32_neg x hx h]
    have b1 : -((x % 2147483648 : Nat) : Int) < 1325400064 := by omega
    have a2 : decide (-((x % 2147483648 : Nat) : Int) < 1325400064) = true := decide_eq_true b1
    have a1 : (decide (-1325400064 < -((x % 2147483648 : Nat) : Int)) || decide (-((x % 2147483648 : Nat) : Int) = -1325400064)) = true := by
      rw [Bool.or_eq_true, decide_eq_true_iff, decide_eq_true_iff]; omega
    rw [a1, a2]; exact ⟨rfl, rfl, b1⟩
  · rw [key32_pos x hx h]
    have b1 : ((x % 2147483648 : Nat) : Int) < 1325400064 := by omega
    have a2 : decide (((x % 2147483648 : Nat) : Int) < 1325400064) = true := decide_eq_true b1
    have a1 : (decide (-1325400064 < ((x % 2147483648 : Nat) : Int)) || decide (((x % 2147483648 : Nat) : Int) = -1325400064)) = true := by
      rw [Bool.or_eq_true, decide_eq_true_iff, decide_eq_true_iff]; omega
    rw [a1, a2]; exact ⟨rfl, rfl, b1⟩
theorem tr1_ord (x : Nat) (hx : x < 4294967296) (hin : in1 x) : Ieee.single.order x 1325400064 = some .lt ∧ (Ieee.single.order x 3472883712 = some .gt ∨ Ieee.single.order x 3472883712 = some .eq) := by
  obtain ⟨hfin, _, h1, h2⟩ := tr1_yes x hx hin
  have k1 : key Ieee.single 3472883712 = -1325400064 := by decide
  have k2 : key Ieee.single 1325400064 = 1325400064 := by decide
  have o1 := order32 x 3472883712 (by omega) (by decide)
  have o2 := order32 x 1325400064 (by omega) (by decide)
  rw [k1] at o1
  rw [k2] at o2
  rw [o1, o2]
  refine ⟨by rw [cmp_lt h2], ?_⟩
  rw [Bool.or_eq_true, decide_eq_true_iff, decide_eq_true_iff] at h1
  rcases h1 with h1 | h1
  · left; rw [cmp_gt h1]
  · right; rw [Int.compare_eq_eq.2 h1]
theorem tr1_cut (x : Nat) (hx : x < 4294967296) (hin : in1 x) : -2147483648 ≤ cutV Ieee.single x ∧ cutV Ieee.single x < 2147483648 ∧ tr1 x = (cutV Ieee.single x % 4294967296, 0) := by
  obtain ⟨o1, o2⟩ := tr1_ord x hx hin
  obtain ⟨hfin, hval, _, _⟩ := tr1_yes x hx hin
  obtain ⟨q, a1, a2, a3⟩ := tr1_in x o1 o2
  have e : cutV Ieee.single x = q := by unfold cutV; rw [a1]; rfl
  rw [hval, e]
  refine ⟨by omega, by omega, ?_⟩
  unfold W3264; rw [wrap_u32_mod, wrap_u64 (by omega) (by omega)]
theorem ap168_tr (x : Nat) (hx : x < 4294967296) : ap 168 x 0 = tr1 x := by
  rw [ap_conv 168 x 0 (by decide) (by decide)]
  show tr1 (IntKind.wrap .u32 (x : Int)).toNat = _
  rw [wrap32_n x hx, Int.toNat_natCast]
theorem ap168_back (c : Int) (h0 : -2147483648 ≤ c) (h1 : c < 2147483648) : (ap 178 (c % 4294967296) 0).1 = ((FloatKind.nearest .f32 c : Nat) : Int) := by
  rw [ap_conv 178 _ 0 (by decide) (by decide)]
  have e : IntKind.wrap .i32 (IntKind.wrap .u32 (c % 4294967296)) = c := by
    have a1 : IntKind.wrap .u32 (c % 4294967296) = c % 4294967296 := by rw [wrap_u32_mod]; omega
    rw [a1, wrap_i32_sgn _ (by omega) (by omega)]; unfold sgn; split <;> omega
  show W64 ((FloatKind.nearest .f32 (IntKind.wrap .i32 (IntKind.wrap .u32 (c % 4294967296))) : Nat) : Int) = _
  rw [e]
  have := near_lt32 c
  unfold W64; rw [wrap64_n _ (by omega)]
theorem tr1_place (x : Nat) (hx : x < 4294967296) (hin : in1 x) : pe32 (x % 2147483648) ≤ 40 := by
  unfold in1 at hin
  unfold pe32
  split <;> omega

/-! ### 169 -/
def in2 (x : Nat) : Prop := (2147483648 ≤ x ∧ x % 2147483648 ≤ 1065353215) ∨ (¬ 2147483648 ≤ x ∧ x % 2147483648 < 1333788672)
theorem tr2_form (x : Nat) (hx : x < 4294967296) (hv : x % 2147483648 ≤ 2139095040) : tr2 x = cond (decide (-1065353216 < key Ieee.single x)) (cond (!(decide (key Ieee.single x < 1333788672))) (0, 40) (W64 (cutV Ieee.single x), 0)) (0, 40) := by
  have k1 : key Ieee.single 3212836864 = -1065353216 := by decide
  have k2 : key Ieee.single 1333788672 = 1333788672 := by decide
  have o1 := order32 x 3212836864 hv (by decide)
  have o2 := order32 x 1333788672 hv (by decide)
  rw [k1] at o1
  rw [k2] at o2
  unfold tr2
  rw [self32, decide_eq_false (show ¬ 2139095040 < x % 2147483648 by omega), o1, o2, beq_gt, beq_lt]
  rfl
theorem tr2_nan (x : Nat) (hv : 2139095040 < x % 2147483648) : tr2 x = (0, 41) := by
  unfold tr2; rw [self32, decide_eq_true hv]; rfl
theorem tr2_out (x : Nat) (hx : x < 4294967296) (hv : x % 2147483648 ≤ 2139095040) (hin : ¬ in2 x) : tr2 x = (0, 40) := by
  rw [tr2_form x hx hv]
  unfold in2 at hin
  by_cases h : 2147483648 ≤ x
  · rw [key32_neg x hx h]
    have a1 : decide (-1065353216 < -((x % 2147483648 : Nat) : Int)) = false := decide_eq_false (by omega)
    rw [a1]
    
    rfl
  · rw [key32_pos x hx h]
    have a1 : decide (-1065353216 < ((x % 2147483648 : Nat) : Int)) = true := decide_eq_true (by omega)
    have a2 : decide (((x % 2147483648 : Nat) : Int) < 1333788672) = false := decide_eq_false (by omega)
    rw [a1, a2]; rfl
theorem tr2_yes (x : Nat) (hx : x < 4294967296) (hin : in2 x) : x % 2147483648 < 2139095040 ∧ tr2 x = (W64 (cutV Ieee.single x), 0) ∧ ((decide (-1065353216 < key Ieee.single x)) = true) ∧ key Ieee.single x < 1333788672 := by
  have hfin : x % 2147483648 < 2139095040 := by unfold in2 at hin; omega
  refine ⟨hfin, ?_⟩
  rw [tr2_form x hx (by omega)]
  unfold in2 at hin
  by_cases h : 2147483648 ≤ x
  · rw [key32_neg x hx h]
    have b1 : -((x % 2147483648 : Nat) : Int) < 1333788672 := by omega
    have a2 : decide (-((x % 2147483648 : Nat) : Int) < 1333788672) = true := decide_eq_true b1
    have a1 : (decide (-1065353216 < -((x % 2147483648 : Nat) : Int))) = true := by
      exact decide_eq_true (by omega)
    rw [a1, a2]; exact ⟨rfl, rfl, b1⟩
  · rw [key32_pos x hx h]
    have b1 : ((x % 2147483648 : Nat) : Int) < 1333788672 := by omega
    have a2 : decide (((x % 2147483648 : Nat) : Int) < 1333788672) = true := decide_eq_true b1
    have a1 : (decide (-1065353216 < ((x % 2147483648 : Nat) : Int))) = true := by
      exact decide_eq_true (by omega)
    rw [a1, a2]; exact ⟨rfl, rfl, b1⟩
theorem tr2_ord (x : Nat) (hx : x < 4294967296) (hin : in2 x) : Ieee.single.order x 1333788672 = some .lt ∧ (Ieee.single.order x 3212836864 = some .gt) := by
  obtain ⟨hfin, _, h1, h2⟩ := tr2_yes x hx hin
  have k1 : key Ieee.single 3212836864 = -1065353216 := by decide
  have k2 : key Ieee.single 1333788672 = 1333788672 := by decide
  have o1 := order32 x 3212836864 (by omega) (by decide)
  have o2 := order32 x 1333788672 (by omega) (by decide)
  rw [k1] at o1
  rw [k2] at o2
  rw [o1, o2]
  refine ⟨by rw [cmp_lt h2], ?_⟩
  rw [cmp_gt (of_decide_eq_true h1)]
theorem tr2_cut (x : Nat) (hx : x < 4294967296) (hin : in2 x) : 0 ≤ cutV Ieee.single x ∧ cutV Ieee.single x < 4294967296 ∧ tr2 x = (cutV Ieee.single x % 4294967296, 0) := by
  obtain ⟨o1, o2⟩ := tr2_ord x hx hin
  obtain ⟨hfin, hval, _, _⟩ := tr2_yes x hx hin
  obtain ⟨q, a1, a2, a3⟩ := tr2_in x o1 o2
  have e : cutV Ieee.single x = q := by unfold cutV; rw [a1]; rfl
  rw [hval, e]
  refine ⟨by omega, by omega, ?_⟩
  unfold W64; rw [wrap_u64_mod]; congr 1; omega
theorem ap169_tr (x : Nat) (hx : x < 4294967296) : ap 169 x 0 = tr2 x := by
  rw [ap_conv 169 x 0 (by decide) (by decide)]
  show tr2 (IntKind.wrap .u32 (x : Int)).toNat = _
  rw [wrap32_n x hx, Int.toNat_natCast]
theorem ap169_back (c : Int) (h0 : 0 ≤ c) (h1 : c < 4294967296) : (ap 179 (c % 4294967296) 0).1 = ((FloatKind.nearest .f32 c : Nat) : Int) := by
  rw [ap_conv 179 _ 0 (by decide) (by decide)]
  have e : IntKind.wrap .u32 (c % 4294967296) = c := by
    rw [wrap_u32_mod]; omega
  show W64 ((FloatKind.nearest .f32 (IntKind.wrap .u32 (c % 4294967296)) : Nat) : Int) = _
  rw [e]
  have := near_lt32 c
  unfold W64; rw [wrap64_n _ (by omega)]
theorem tr2_place (x : Nat) (hx : x < 4294967296) (hin : in2 x) : pe32 (x % 2147483648) ≤ 40 := by
  unfold in2 at hin
  unfold pe32
  split <;> omega

/-! ### 170 -/
def in3 (x : Nat) : Prop := (9223372036854775808 ≤ x ∧ x % 9223372036854775808 ≤ 4746794007250599935) ∨ (¬ 9223372036854775808 ≤ x ∧ x % 9223372036854775808 < 4746794007248502784)
theorem tr3_form (x : Nat) (hx : x < 18446744073709551616) (hv : x % 9223372036854775808 ≤ 9218868437227405312) : tr3 x = cond (decide (-4746794007250599936 < key Ieee.double x)) (cond (!(decide (key Ieee.double x < 4746794007248502784))) (0, 40) (W3264 (cutV Ieee.double x), 0)) (0, 40) := by
  have k1 : key Ieee.double 13970166044105375744 = -4746794007250599936 := by decide
  have k2 : key Ieee.double 4746794007248502784 = 4746794007248502784 := by decide
  have o1 := order64 x 13970166044105375744 hv (by decide)
  have o2 := order64 x 4746794007248502784 hv (by decide)
  rw [k1] at o1
  rw [k2] at o2
  unfold tr3
  rw [self64, decide_eq_false (show ¬ 9218868437227405312 < x % 9223372036854775808 by omega), o1, o2, beq_gt, beq_lt]
  rfl
theorem tr3_nan (x : Nat) (hv : 9218868437227405312 < x % 9223372036854775808) : tr3 x = (0, 41) := by
  unfold tr3; rw [self64, decide_eq_true hv]; rfl
theorem tr3_out (x : Nat) (hx : x < 18446744073709551616) (hv : x % 9223372036854775808 ≤ 9218868437227405312) (hin : ¬ in3 x) : tr3 x = (0, 40) := by
  rw [tr3_form x hx hv]
  unfold in3 at hin
  by_cases h : 9223372036854775808 ≤ x
  · rw [key64_neg x hx h]
    have a1 : decide (-4746794007250599936 < -((x % 9223372036854775808 : Nat) : Int)) = false := decide_eq_false (by omega)
    rw [a1]
    
    rfl
  · rw [key64_pos x hx h]
    have a1 : decide (-4746794007250599936 < ((x % 9223372036854775808 : Nat) : Int)) = true := decide_eq_true (by omega)
    have a2 : decide (((x % 9223372036854775808 : Nat) : Int) < 4746794007248502784) = false := decide_eq_false (by omega)
    rw [a1, a2]; rfl
theorem tr3_yes (x : Nat) (hx : x < 18446744073709551616) (hin : in3 x) : x % 9223372036854775808 < 9218868437227405312 ∧ tr3 x = (W3264 (cutV Ieee.double x), 0) ∧ ((decide (-4746794007250599936 < key Ieee.double x)) = true) ∧ key Ieee.double x < 4746794007248502784 := by
  have hfin : x % 9223372036854775808 < 9218868437227405312 := by unfold in3 at hin; omega
  refine ⟨hfin, ?_⟩
  rw [tr3_form x hx (by omega)]
  unfold in3 at hin
  by_cases h : 9223372036854775808 ≤ x
  · rw [key64_neg x hx h]
    have b1 : -((x % 9223372036854775808 : Nat) : Int) < 4746794007248502784 := by omega
    have a2 : decide (-((x % 9223372036854775808 : Nat) : Int) < 4746794007248502784) = true := decide_eq_true b1
    have a1 : (decide (-4746794007250599936 < -((x % 9223372036854775808 : Nat) : Int))) = true := by
      exact decide_eq_true (by omega)
    rw [a1, a2]; exact ⟨rfl, rfl, b1⟩
  · rw [key64_pos x hx h]
    have b1 : ((x % 9223372036854775808 : Nat) : Int) < 4746794007248502784 := by omega
    have a2 : decide (((x % 9223372036854775808 : Nat) : Int) < 4746794007248502784) = true := decide_eq_true b1
    have a1 : (decide (-4746794007250599936 < ((x % 9223372036854775808 : Nat) : Int))) = true := by
      exact decide_eq_true (by omega)
    rw [a1, a2]; exact ⟨rfl, rfl, b1⟩
theorem tr3_ord (x : Nat) (hx : x < 18446744073709551616) (hin : in3 x) : Ieee.double.order x 4746794007248502784 = some .lt ∧ (Ieee.double.order x 13970166044105375744 = some .gt) := by
  obtain ⟨hfin, _, h1, h2⟩ := tr3_yes x hx hin
  have k1 : key Ieee.double 13970166044105375744 = -4746794007250599936 := by decide
  have k2 : key Ieee.double 4746794007248502784 = 4746794007248502784 := by decide
  have o1 := order64 x 13970166044105375744 (by omega) (by decide)
  have o2 := order64 x 4746794007248502784 (by omega) (by decide)
  rw [k1] at o1
  rw [k2] at o2
  rw [o1, o2]
  refine ⟨by rw [cmp_lt h2], ?_⟩
  rw [cmp_gt (of_decide_eq_true h1)]
theorem tr3_cut (x : Nat) (hx : x < 18446744073709551616) (hin : in3 x) : -2147483648 ≤ cutV Ieee.double x ∧ cutV Ieee.double x < 2147483648 ∧ tr3 x = (cutV Ieee.double x % 4294967296, 0) := by
  obtain ⟨o1, o2⟩ := tr3_ord x hx hin
  obtain ⟨hfin, hval, _, _⟩ := tr3_yes x hx hin
  obtain ⟨q, a1, a2, a3⟩ := tr3_in x o1 o2
  have e : cutV Ieee.double x = q := by unfold cutV; rw [a1]; rfl
  rw [hval, e]
  refine ⟨by omega, by omega, ?_⟩
  unfold W3264; rw [wrap_u32_mod, wrap_u64 (by omega) (by omega)]
theorem ap170_tr (x : Nat) (hx : x < 18446744073709551616) : ap 170 x 0 = tr3 x := by
  rw [ap_conv 170 x 0 (by decide) (by decide)]
  show tr3 (x : Int).toNat = _
  rw [Int.toNat_natCast]
theorem ap170_back (c : Int) (h0 : -2147483648 ≤ c) (h1 : c < 2147483648) : (ap 183 (c % 4294967296) 0).1 = ((FloatKind.nearest .f64 c : Nat) : Int) := by
  rw [ap_conv 183 _ 0 (by decide) (by decide)]
  have e : IntKind.wrap .i32 (IntKind.wrap .u32 (c % 4294967296)) = c := by
    have a1 : IntKind.wrap .u32 (c % 4294967296) = c % 4294967296 := by rw [wrap_u32_mod]; omega
    rw [a1, wrap_i32_sgn _ (by omega) (by omega)]; unfold sgn; split <;> omega
  show ((FloatKind.nearest .f64 (IntKind.wrap .i32 (IntKind.wrap .u32 (c % 4294967296))) : Nat) : Int) = _
  rw [e]
theorem tr3_place (x : Nat) (hx : x < 18446744073709551616) (hin : in3 x) : pe64 (x % 9223372036854775808) ≤ 11 := by
  unfold in3 at hin
  unfold pe64
  split <;> omega

/-! ### 171 -/
def in4 (x : Nat) : Prop := (9223372036854775808 ≤ x ∧ x % 9223372036854775808 ≤ 4607182418800017407) ∨ (¬ 9223372036854775808 ≤ x ∧ x % 9223372036854775808 < 4751297606875873280)
theorem tr4_form (x : Nat) (hx : x < 18446744073709551616) (hv : x % 9223372036854775808 ≤ 9218868437227405312) : tr4 x = cond (decide (-4607182418800017408 < key Ieee.double x)) (cond (!(decide (key Ieee.double x < 4751297606875873280))) (0, 40) (W64 (cutV Ieee.double x), 0)) (0, 40) := by
  have k1 : key Ieee.double 13830554455654793216 = -4607182418800017408 := by decide
  have k2 : key Ieee.double 4751297606875873280 = 4751297606875873280 := by decide
  have o1 := order64 x 13830554455654793216 hv (by decide)
  have o2 := order64 x 4751297606875873280 hv (by decide)
  rw [k1] at o1
  rw [k2] at o2
  unfold tr4
  rw [self64, decide_eq_false (show ¬ 9218868437227405312 < x % 9223372036854775808 by omega), o1, o2, beq_gt, beq_lt]
  rfl
theorem tr4_nan (x : Nat) (hv : 9218868437227405312 < x % 9223372036854775808) : tr4 x = (0, 41) := by
  unfold tr4; rw [self64, decide_eq_true hv]; rfl
theorem tr4_out (x : Nat) (hx : x < 18446744073709551616) (hv : x % 9223372036854775808 ≤ 9218868437227405312) (hin : ¬ in4 x) : tr4 x = (0, 40) := by
  rw [tr4_form x hx hv]
  unfold in4 at hin
  by_cases h : 9223372036854775808 ≤ x
  · rw [key64_neg x hx h]
    have a1 : decide (-4607182418800017408 < -((x % 9223372036854775808 : Nat) : Int)) = false := decide_eq_false (by omega)
    rw [a1]
    
    rfl
  · rw [key64_pos x hx h]
    have a1 : decide (-4607182418800017408 < ((x % 9223372036854775808 : Nat) : Int)) = true := decide_eq_true (by omega)
    have a2 : decide (((x % 9223372036854775808 : Nat) : Int) < 4751297606875873280) = false := decide_eq_false (by omega)
    rw [a1, a2]; rfl
theorem tr4_yes (x : Nat) (hx : x < 18446744073709551616) (hin : in4 x) : x % 9223372036854775808 < 9218868437227405312 ∧ tr4 x = (W64 (cutV Ieee.double x), 0) ∧ ((decide (-4607182418800017408 < key Ieee.double x)) = true) ∧ key Ieee.double x < 4751297606875873280 := by
  have hfin : x % 9223372036854775808 < 9218868437227405312 := by unfold in4 at hin; omega
  refine ⟨hfin, ?_⟩
  rw [tr4_form x hx (by omega)]
  unfold in4 at hin
  by_cases h : 9223372036854775808 ≤ x
  · rw [key64_neg x hx h]
    have b1 : -((x % 9223372036854775808 : Nat) : Int) < 4751297606875873280 := by omega
    have a2 : decide (-((x % 9223372036854775808 : Nat) : Int) < 4751297606875873280) = true := decide_eq_true b1
    have a1 : (decide (-4607182418800017408 < -((x % 9223372036854775808 : Nat) : Int))) = true := by
      exact decide_eq_true (by omega)
    rw [a1, a2]; exact ⟨rfl, rfl, b1⟩
  · rw [key64_pos x hx h]
    have b1 : ((x % 9223372036854775808 : Nat) : Int) < 4751297606875873280 := by omega
    have a2 : decide (((x % 9223372036854775808 : Nat) : Int) < 4751297606875873280) = true := decide_eq_true b1
    have a1 : (decide (-4607182418800017408 < ((x % 9223372036854775808 : Nat) : Int))) = true := by
      exact decide_eq_true (by omega)
    rw [a1, a2]; exact ⟨rfl, rfl, b1⟩
theorem tr4_ord (x : Nat) (hx : x < 18446744073709551616) (hin : in4 x) : Ieee.double.order x 4751297606875873280 = some .lt ∧ (Ieee.double.order x 13830554455654793216 = some .gt) := by
  obtain ⟨hfin, _, h1, h2⟩ := tr4_yes x hx hin
  have k1 : key Ieee.double 13830554455654793216 = -4607182418800017408 := by decide
  have k2 : key Ieee.double 4751297606875873280 = 4751297606875873280 := by decide
  have o1 := order64 x 13830554455654793216 (by omega) (by decide)
  have o2 := order64 x 4751297606875873280 (by omega) (by decide)
  rw [k1] at o1
  rw [k2] at o2
  rw [o1, o2]
  refine ⟨by rw [cmp_lt h2], ?_⟩
  rw [cmp_gt (of_decide_eq_true h1)]
theorem tr4_cut (x : Nat) (hx : x < 18446744073709551616) (hin : in4 x) : 0 ≤ cutV Ieee.double x ∧ cutV Ieee.double x < 4294967296 ∧ tr4 x = (cutV Ieee.double x % 4294967296, 0) := by
  obtain ⟨o1, o2⟩ := tr4_ord x hx hin
  obtain ⟨hfin, hval, _, _⟩ := tr4_yes x hx hin
  obtain ⟨q, a1, a2, a3⟩ := tr4_in x o1 o2
  have e : cutV Ieee.double x = q := by unfold cutV; rw [a1]; rfl
  rw [hval, e]
  refine ⟨by omega, by omega, ?_⟩
  unfold W64; rw [wrap_u64_mod]; congr 1; omega
theorem ap171_tr (x : Nat) (hx : x < 18446744073709551616) : ap 171 x 0 = tr4 x := by
  rw [ap_conv 171 x 0 (by decide) (by decide)]
  show tr4 (x : Int).toNat = _
  rw [Int.toNat_natCast]
theorem ap171_back (c : Int) (h0 : 0 ≤ c) (h1 : c < 4294967296) : (ap 184 (c % 4294967296) 0).1 = ((FloatKind.nearest .f64 c : Nat) : Int) := by
  rw [ap_conv 184 _ 0 (by decide) (by decide)]
  have e : IntKind.wrap .u32 (c % 4294967296) = c := by
    rw [wrap_u32_mod]; omega
  show ((FloatKind.nearest .f64 (IntKind.wrap .u32 (c % 4294967296)) : Nat) : Int) = _
  rw [e]
theorem tr4_place (x : Nat) (hx : x < 18446744073709551616) (hin : in4 x) : pe64 (x % 9223372036854775808) ≤ 11 := by
  unfold in4 at hin
  unfold pe64
  split <;> omega

/-! ### 174 -/
def in5 (x : Nat) : Prop := (2147483648 ≤ x ∧ x % 2147483648 ≤ 1593835520) ∨ (¬ 2147483648 ≤ x ∧ x % 2147483648 < 1593835520)
theorem tr5_form (x : Nat) (hx : x < 4294967296) (hv : x % 2147483648 ≤ 2139095040) : tr5 x = cond (decide (-1593835520 < key Ieee.single x) || decide (key Ieee.single x = -1593835520)) (cond (!(decide (key Ieee.single x < 1593835520))) (0, 40) (W64 (cutV Ieee.single x), 0)) (0, 40) := by
  have k1 : key Ieee.single 3741319168 = -1593835520 := by decide
  have k2 : key Ieee.single 1593835520 = 1593835520 := by decide
  have o1 := order32 x 3741319168 hv (by decide)
  have o2 := order32 x 1593835520 hv (by decide)
  rw [k1] at o1
  rw [k2] at o2
  unfold tr5
  rw [self32, decide_eq_false (show ¬ 2139095040 < x % 2147483648 by omega), o1, o2, beq_gt, beq_lt, beq_eq]
  rfl
theorem tr5_nan (x : Nat) (hv : 2139095040 < x % 2147483648) : tr5 x = (0, 41) := by
  unfold tr5; rw [self32, decide_eq_true hv]; rfl
theorem tr5_out (x : Nat) (hx : x < 4294967296) (hv : x % 2147483648 ≤ 2139095040) (hin : ¬ in5 x) : tr5 x = (0, 40) := by
  rw [tr5_form x hx hv]
  unfold in5 at hin
  by_cases h : 2147483648 ≤ x
  · rw [key32_neg x hx h]
    have a1 : decide (-1593835520 < -((x % 2147483648 : Nat) : Int)) = false := decide_eq_false (by omega)
    rw [a1]
    have a2 : decide (-((x % 2147483648 : Nat) : Int) = -1593835520) = false := decide_eq_false (by omega)
    rw [a2]; rfl
  · rw [key32_pos x hx h]
    have a1 : decide (-1593835520 < ((x % 2147483648 : Nat) : Int)) = true := decide_eq_true (by omega)
    have a2 : decide (((x % 2147483648 : Nat) : Int) < 1593835520) = false := decide_eq_false (by omega)
    rw [a1, a2]; rfl
theorem tr5_yes (x : Nat) (hx : x < 4294967296) (hin : in5 x) : x % 2147483648 < 2139095040 ∧ tr5 x = (W64 (cutV Ieee.single x), 0) ∧ ((decide (-1593835520 < key Ieee.single x) || decide (key Ieee.single x = -1593835520)) = true) ∧ key Ieee.single x < 1593835520 := by
  have hfin : x % 2147483648 < 2139095040 := by unfold in5 at hin; omega
  refine ⟨hfin, ?_⟩
  rw [tr5_form x hx (by omega)]
  unfold in5 at hin
  by_cases h : 2147483648 ≤ x
  · rw [key32_neg x hx h]
    have b1 : -((x % 2147483648 : Nat) : Int) < 1593835520 := by omega
    have a2 : decide (-((x % 2147483648 : Nat) : Int) < 1593835520) = true := decide_eq_true b1
    have a1 : (decide (-1593835520 < -((x % 2147483648 : Nat) : Int)) || decide (-((x % 2147483648 : Nat) : Int) = -1593835520)) = true := by
      rw [Bool.or_eq_true, decide_eq_true_iff, decide_eq_true_iff]; omega
    rw [a1, a2]; exact ⟨rfl, rfl, b1⟩
  · rw [key32_pos x hx h]
    have b1 : ((x % 2147483648 : Nat) : Int) < 1593835520 := by omega
    have a2 : decide (((x % 2147483648 : Nat) : Int) < 1593835520) = true := decide_eq_true b1
    have a1 : (decide (-1593835520 < ((x % 2147483648 : Nat) : Int)) || decide (((x % 2147483648 : Nat) : Int) = -1593835520)) = true := by
      rw [Bool.or_eq_true, decide_eq_true_iff, decide_eq_true_iff]; omega
    rw [a1, a2]; exact ⟨rfl, rfl, b1⟩
theorem tr5_ord (x : Nat) (hx : x < 4294967296) (hin : in5 x) : Ieee.single.order x 1593835520 = some .lt ∧ (Ieee.single.order x 3741319168 = some .gt ∨ Ieee.single.order x 3741319168 = some .eq) := by
  obtain ⟨hfin, _, h1, h2⟩ := tr5_yes x hx hin
  have k1 : key Ieee.single 3741319168 = -1593835520 := by decide
  have k2 : key Ieee.single 1593835520 = 1593835520 := by decide
  have o1 := order32 x 3741319168 (by omega) (by decide)
  have o2 := order32 x 1593835520 (by omega) (by decide)
  rw [k1] at o1
  rw [k2] at o2
  rw [o1, o2]
  refine ⟨by rw [cmp_lt h2], ?_⟩
  rw [Bool.or_eq_true, decide_eq_true_iff, decide_eq_true_iff] at h1
  rcases h1 with h1 | h1
  · left; rw [cmp_gt h1]
  · right; rw [Int.compare_eq_eq.2 h1]
theorem tr5_cut (x : Nat) (hx : x < 4294967296) (hin : in5 x) : -9223372036854775808 ≤ cutV Ieee.single x ∧ cutV Ieee.single x < 9223372036854775808 ∧ tr5 x = (cutV Ieee.single x % 18446744073709551616, 0) := by
  obtain ⟨o1, o2⟩ := tr5_ord x hx hin
  obtain ⟨hfin, hval, _, _⟩ := tr5_yes x hx hin
  obtain ⟨q, a1, a2, a3⟩ := tr5_in x o1 o2
  have e : cutV Ieee.single x = q := by unfold cutV; rw [a1]; rfl
  rw [hval, e]
  refine ⟨by omega, by omega, ?_⟩
  unfold W64; rw [wrap_u64_mod]
theorem ap174_tr (x : Nat) (hx : x < 4294967296) : ap 174 x 0 = tr5 x := by
  rw [ap_conv 174 x 0 (by decide) (by decide)]
  show tr5 (IntKind.wrap .u32 (x : Int)).toNat = _
  rw [wrap32_n x hx, Int.toNat_natCast]
theorem ap174_back (c : Int) (h0 : -9223372036854775808 ≤ c) (h1 : c < 9223372036854775808) : (ap 180 (c % 18446744073709551616) 0).1 = ((FloatKind.nearest .f32 c : Nat) : Int) := by
  rw [ap_conv 180 _ 0 (by decide) (by decide)]
  have e : IntKind.wrap .i64 (c % 18446744073709551616) = c := by
    rw [wrap_i64_sgn _ (by omega) (by omega)]; unfold sgn; split <;> omega
  show W64 ((FloatKind.nearest .f32 (IntKind.wrap .i64 (c % 18446744073709551616)) : Nat) : Int) = _
  rw [e]
  have := near_lt32 c
  unfold W64; rw [wrap64_n _ (by omega)]
theorem tr5_place (x : Nat) (hx : x < 4294967296) (hin : in5 x) : pe32 (x % 2147483648) ≤ 40 := by
  unfold in5 at hin
  unfold pe32
  split <;> omega

/-! ### 175 -/
def in6 (x : Nat) : Prop := (2147483648 ≤ x ∧ x % 2147483648 ≤ 1065353215) ∨ (¬ 2147483648 ≤ x ∧ x % 2147483648 < 1602224128)
theorem tr6_form (x : Nat) (hx : x < 4294967296) (hv : x % 2147483648 ≤ 2139095040) : tr6 x = cond (decide (-1065353216 < key Ieee.single x)) (cond (!(decide (key Ieee.single x < 1602224128))) (0, 40) (cond (Ieee.single.order x 1593835520 == some .gt || Ieee.single.order x 1593835520 == some .eq) (bOr .u64 (W64 (cutV Ieee.single ((Ieee.single.sub x 1593835520).getD 0))) 9223372036854775808, 0) (W64 (cutV Ieee.single x), 0))) (0, 40) := by
  have k1 : key Ieee.single 3212836864 = -1065353216 := by decide
  have k2 : key Ieee.single 1602224128 = 1602224128 := by decide
  have o1 := order32 x 3212836864 hv (by decide)
  have o2 := order32 x 1602224128 hv (by decide)
  rw [k1] at o1
  rw [k2] at o2
  unfold tr6
  rw [self32, decide_eq_false (show ¬ 2139095040 < x % 2147483648 by omega), o1, o2, beq_gt, beq_lt]
  rfl
theorem tr6_nan (x : Nat) (hv : 2139095040 < x % 2147483648) : tr6 x = (0, 41) := by
  unfold tr6; rw [self32, decide_eq_true hv]; rfl
theorem tr6_out (x : Nat) (hx : x < 4294967296) (hv : x % 2147483648 ≤ 2139095040) (hin : ¬ in6 x) : tr6 x = (0, 40) := by
  rw [tr6_form x hx hv]
  unfold in6 at hin
  by_cases h : 2147483648 ≤ x
  · rw [key32_neg x hx h]
    have a1 : decide (-1065353216 < -((x % 2147483648 : Nat) : Int)) = false := decide_eq_false (by omega)
    rw [a1]
    
    rfl
  · rw [key32_pos x hx h]
    have a1 : decide (-1065353216 < ((x % 2147483648 : Nat) : Int)) = true := decide_eq_true (by omega)
    have a2 : decide (((x % 2147483648 : Nat) : Int) < 1602224128) = false := decide_eq_false (by omega)
    rw [a1, a2]; rfl
theorem tr6_yes (x : Nat) (hx : x < 4294967296) (hin : in6 x) : x % 2147483648 < 2139095040 ∧ tr6 x = (cond (Ieee.single.order x 1593835520 == some .gt || Ieee.single.order x 1593835520 == some .eq) (bOr .u64 (W64 (cutV Ieee.single ((Ieee.single.sub x 1593835520).getD 0))) 9223372036854775808, 0) (W64 (cutV Ieee.single x), 0)) ∧ ((decide (-1065353216 < key Ieee.single x)) = true) ∧ key Ieee.single x < 1602224128 := by
  have hfin : x % 2147483648 < 2139095040 := by unfold in6 at hin; omega
  refine ⟨hfin, ?_⟩
  rw [tr6_form x hx (by omega)]
  unfold in6 at hin
  by_cases h : 2147483648 ≤ x
  · rw [key32_neg x hx h]
    have b1 : -((x % 2147483648 : Nat) : Int) < 1602224128 := by omega
    have a2 : decide (-((x % 2147483648 : Nat) : Int) < 1602224128) = true := decide_eq_true b1
    have a1 : (decide (-1065353216 < -((x % 2147483648 : Nat) : Int))) = true := by
      exact decide_eq_true (by omega)
    rw [a1, a2]; exact ⟨rfl, rfl, b1⟩
  · rw [key32_pos x hx h]
    have b1 : ((x % 2147483648 : Nat) : Int) < 1602224128 := by omega
    have a2 : decide (((x % 2147483648 : Nat) : Int) < 1602224128) = true := decide_eq_true b1
    have a1 : (decide (-1065353216 < ((x % 2147483648 : Nat) : Int))) = true := by
      exact decide_eq_true (by omega)
    rw [a1, a2]; exact ⟨rfl, rfl, b1⟩
theorem tr6_ord (x : Nat) (hx : x < 4294967296) (hin : in6 x) : Ieee.single.order x 1602224128 = some .lt ∧ (Ieee.single.order x 3212836864 = some .gt) := by
  obtain ⟨hfin, _, h1, h2⟩ := tr6_yes x hx hin
  have k1 : key Ieee.single 3212836864 = -1065353216 := by decide
  have k2 : key Ieee.single 1602224128 = 1602224128 := by decide
  have o1 := order32 x 3212836864 (by omega) (by decide)
  have o2 := order32 x 1602224128 (by omega) (by decide)
  rw [k1] at o1
  rw [k2] at o2
  rw [o1, o2]
  refine ⟨by rw [cmp_lt h2], ?_⟩
  rw [cmp_gt (of_decide_eq_true h1)]
theorem tr6_cut (x : Nat) (hx : x < 4294967296) (hin : in6 x) : 0 ≤ cutV Ieee.single x ∧ cutV Ieee.single x < 18446744073709551616 ∧ tr6 x = (cutV Ieee.single x % 18446744073709551616, 0) := by
  obtain ⟨o1, o2⟩ := tr6_ord x hx hin
  obtain ⟨hfin, hval, _, _⟩ := tr6_yes x hx hin
  by_cases htop : Ieee.single.order x 1593835520 = some .gt ∨ Ieee.single.order x 1593835520 = some .eq
  · obtain ⟨r, m, b1, b2, b3, b4, b5⟩ := sub63_val Ieee.single x 1593835520 1602224128 40 255 (by decide) (by decide) (by decide) (by decide) (by decide) (by decide) (by decide) (by decide) htop o1
    have hb : Ieee.single.binade = 8388608 := by decide
    rw [hb] at b3 b4 b5
    have hcond : (Ieee.single.order x 1593835520 == some .gt || Ieee.single.order x 1593835520 == some .eq) = true := by simpa using htop
    have hj : (40 : Int).toNat = 40 := by decide
    rw [hj] at b5
    have hc : cutV Ieee.single x = ((m * 1099511627776 : Nat) : Int) := by
      unfold cutV
      rw [b2, toInt_number]
      have z : (-(40 : Int)).toNat = 0 := by decide
      rw [z, hj]
      have a2 : (2 : Nat) ^ 40 = 1099511627776 := by decide
      rw [a2, Nat.pow_zero, Nat.div_one]; rfl
    have hc2 : cutV Ieee.single ((Ieee.single.sub x 1593835520).getD 0) = (((m - 8388608) * 1099511627776 : Nat) : Int) := by
      unfold cutV
      rw [b1, Option.getD_some, b5]
      have a2 : (2 : Nat) ^ 40 = 1099511627776 := by decide
      rw [a2]; rfl
    have hlow : (m - 8388608) * 1099511627776 < 9223372036854775808 := by
      have a1 : (m - 8388608) * 1099511627776 ≤ 8388607 * 1099511627776 := Nat.mul_le_mul_right _ (by omega)
      have a2 : 8388607 * 1099511627776 < 9223372036854775808 := by decide
      exact Nat.lt_of_le_of_lt a1 a2
    have hsplit : m * 1099511627776 = (m - 8388608) * 1099511627776 + 9223372036854775808 := by
      have a1 : m * 1099511627776 = (m - 8388608 + 8388608) * 1099511627776 := by congr 1; omega
      rw [a1, Nat.add_mul]
    rw [hval, hcond, cond_true, hc2, hc]
    unfold W64
    rw [wrap64_n _ (Nat.lt_trans hlow (by decide))]
    have hor : bOr .u64 (((m - 8388608) * 1099511627776 : Nat) : Int) 9223372036854775808 = ((m * 1099511627776 : Nat) : Int) := by
      have e : bOr .u64 (((m - 8388608) * 1099511627776 : Nat) : Int) 9223372036854775808 = (((m - 8388608) * 1099511627776 ||| 9223372036854775808 : Nat) : Int) := bOr64_n _ 9223372036854775808 (Nat.lt_trans hlow (by decide)) (by decide)
      rw [e, Nat.or_comm]
      have := or_add 1 ((m - 8388608) * 1099511627776) 63 hlow
      have a3 : 1 * (2 : Nat) ^ 63 = 9223372036854775808 := by decide
      rw [a3] at this
      rw [this, hsplit, Nat.add_comm]
    rw [hor]
    have h64 : m * 1099511627776 < 18446744073709551616 := by
      rw [hsplit]; exact Nat.lt_of_lt_of_le (Nat.add_lt_add_right hlow _) (by decide)
    have h64' : ((m * 1099511627776 : Nat) : Int) < 18446744073709551616 := Int.ofNat_lt.2 h64
    exact ⟨Int.natCast_nonneg _, h64', by rw [Int.emod_eq_of_lt (Int.natCast_nonneg _) h64']⟩
  · have hlt : Ieee.single.order x 1593835520 = some .lt := by
      have hh := order32 x 1593835520 (by omega) (by decide)
      rw [hh] at htop ⊢
      rcases Int.lt_trichotomy (key Ieee.single x) (key Ieee.single 1593835520) with g | g | g
      · rw [cmp_lt g]
      · exact absurd (.inr (by rw [Int.compare_eq_eq.2 g])) htop
      · exact absurd (.inl (by rw [cmp_gt g])) htop
    obtain ⟨q, a1, a2, a3⟩ := tr6_in x hlt o2
    have e : cutV Ieee.single x = q := by unfold cutV; rw [a1]; rfl
    have hcond : (Ieee.single.order x 1593835520 == some .gt || Ieee.single.order x 1593835520 == some .eq) = false := by rw [hlt]; rfl
    rw [hval, hcond, cond_false, e]
    unfold W64; rw [wrap_u64_mod]
    exact ⟨by omega, by omega, rfl⟩
theorem ap175_tr (x : Nat) (hx : x < 4294967296) : ap 175 x 0 = tr6 x := by
  rw [ap_conv 175 x 0 (by decide) (by decide)]
  show tr6 (IntKind.wrap .u32 (x : Int)).toNat = _
  rw [wrap32_n x hx, Int.toNat_natCast]
theorem ap175_back (c : Int) (h0 : 0 ≤ c) (h1 : c < 18446744073709551616) : (ap 181 (c % 18446744073709551616) 0).1 = ((FloatKind.nearest .f32 c : Nat) : Int) := by
  rw [ap_conv 181 _ 0 (by decide) (by decide)]
  have e : c % 18446744073709551616 = c := by
    omega
  show W64 ((FloatKind.nearest .f32 (c % 18446744073709551616) : Nat) : Int) = _
  rw [e]
  have := near_lt32 c
  unfold W64; rw [wrap64_n _ (by omega)]
theorem tr6_place (x : Nat) (hx : x < 4294967296) (hin : in6 x) : pe32 (x % 2147483648) ≤ 40 := by
  unfold in6 at hin
  unfold pe32
  split <;> omega

/-! ### 176 -/
def in7 (x : Nat) : Prop := (9223372036854775808 ≤ x ∧ x % 9223372036854775808 ≤ 4890909195324358656) ∨ (¬ 9223372036854775808 ≤ x ∧ x % 9223372036854775808 < 4890909195324358656)
theorem tr7_form (x : Nat) (hx : x < 18446744073709551616) (hv : x % 9223372036854775808 ≤ 9218868437227405312) : tr7 x = cond (decide (-4890909195324358656 < key Ieee.double x) || decide (key Ieee.double x = -4890909195324358656)) (cond (!(decide (key Ieee.double x < 4890909195324358656))) (0, 40) (W64 (cutV Ieee.double x), 0)) (0, 40) := by
  have k1 : key Ieee.double 14114281232179134464 = -4890909195324358656 := by decide
  have k2 : key Ieee.double 4890909195324358656 = 4890909195324358656 := by decide
  have o1 := order64 x 14114281232179134464 hv (by decide)
  have o2 := order64 x 4890909195324358656 hv (by decide)
  rw [k1] at o1
  rw [k2] at o2
  unfold tr7
  rw [self64, decide_eq_false (show ¬ 9218868437227405312 < x % 9223372036854775808 by omega), o1, o2, beq_gt, beq_lt, beq_eq]
  rfl
theorem tr7_nan (x : Nat) (hv : 9218868437227405312 < x % 9223372036854775808) : tr7 x = (0, 41) := by
  unfold tr7; rw [self64, decide_eq_true hv]; rfl
theorem tr7_out (x : Nat) (hx : x < 18446744073709551616) (hv : x % 9223372036854775808 ≤ 9218868437227405312) (hin : ¬ in7 x) : tr7 x = (0, 40) := by
  rw [tr7_form x hx hv]
  unfold in7 at hin
  by_cases h : 9223372036854775808 ≤ x
  · rw [key64_neg x hx h]
    have a1 : decide (-4890909195324358656 < -((x % 9223372036854775808 : Nat) : Int)) = false := decide_eq_false (by omega)
    rw [a1]
    have a2 : decide (-((x % 9223372036854775808 : Nat) : Int) = -4890909195324358656) = false := decide_eq_false (by omega)
    rw [a2]; rfl
  · rw [key64_pos x hx h]
    have a1 : decide (-4890909195324358656 < ((x % 9223372036854775808 : Nat) : Int)) = true := decide_eq_true (by omega)
    have a2 : decide (((x % 9223372036854775808 : Nat) : Int) < 4890909195324358656) = false := decide_eq_false (by omega)
    rw [a1, a2]; rfl
theorem tr7_yes (x : Nat) (hx : x < 18446744073709551616) (hin : in7 x) : x % 9223372036854775808 < 9218868437227405312 ∧ tr7 x = (W64 (cutV Ieee.double x), 0) ∧ ((decide (-4890909195324358656 < key Ieee.double x) || decide (key Ieee.double x = -4890909195324358656)) = true) ∧ key Ieee.double x < 4890909195324358656 := by
  have hfin : x % 9223372036854775808 < 9218868437227405312 := by unfold in7 at hin; omega
  refine ⟨hfin, ?_⟩
  rw [tr7_form x hx (by omega)]
  unfold in7 at hin
  by_cases h : 9223372036854775808 ≤ x
  · rw [key64_neg x hx h]
    have b1 : -((x % 9223372036854775808 : Nat) : Int) < 4890909195324358656 := by omega
    have a2 : decide (-((x % 9223372036854775808 : Nat) : Int) < 4890909195324358656) = true := decide_eq_true b1
    have a1 : (decide (-4890909195324358656 < -((x % 9223372036854775808 : Nat) : Int)) || decide (-((x % 9223372036854775808 : Nat) : Int) = -4890909195324358656)) = true := by
      rw [Bool.or_eq_true, decide_eq_true_iff, decide_eq_true_iff]; omega
    rw [a1, a2]; exact ⟨rfl, rfl, b1⟩
  · rw [key64_pos x hx h]
    have b1 : ((x % 9223372036854775808 : Nat) : Int) < 4890909195324358656 := by omega
    have a2 : decide (((x % 9223372036854775808 : Nat) : Int) < 4890909195324358656) = true := decide_eq_true b1
    have a1 : (decide (-4890909195324358656 < ((x % 9223372036854775808 : Nat) : Int)) || decide (((x % 9223372036854775808 : Nat) : Int) = -4890909195324358656)) = true := by
      rw [Bool.or_eq_true, decide_eq_true_iff, decide_eq_true_iff]; omega
    rw [a1, a2]; exact ⟨rfl, rfl, b1⟩
theorem tr7_ord (x : Nat) (hx : x < 18446744073709551616) (hin : in7 x) : Ieee.double.order x 4890909195324358656 = some .lt ∧ (Ieee.double.order x 14114281232179134464 = some .gt ∨ Ieee.double.order x 14114281232179134464 = some .eq) := by
  obtain ⟨hfin, _, h1, h2⟩ := tr7_yes x hx hin
  have k1 : key Ieee.double 14114281232179134464 = -4890909195324358656 := by decide
  have k2 : key Ieee.double 4890909195324358656 = 4890909195324358656 := by decide
  have o1 := order64 x 14114281232179134464 (by omega) (by decide)
  have o2 := order64 x 4890909195324358656 (by omega) (by decide)
  rw [k1] at o1
  rw [k2] at o2
  rw [o1, o2]
  refine ⟨by rw [cmp_lt h2], ?_⟩
  rw [Bool.or_eq_true, decide_eq_true_iff, decide_eq_true_iff] at h1
  rcases h1 with h1 | h1
  · left; rw [cmp_gt h1]
  · right; rw [Int.compare_eq_eq.2 h1]
theorem tr7_cut (x : Nat) (hx : x < 18446744073709551616) (hin : in7 x) : -9223372036854775808 ≤ cutV Ieee.double x ∧ cutV Ieee.double x < 9223372036854775808 ∧ tr7 x = (cutV Ieee.double x % 18446744073709551616, 0) := by
  obtain ⟨o1, o2⟩ := tr7_ord x hx hin
  obtain ⟨hfin, hval, _, _⟩ := tr7_yes x hx hin
  obtain ⟨q, a1, a2, a3⟩ := tr7_in x o1 o2
  have e : cutV Ieee.double x = q := by unfold cutV; rw [a1]; rfl
  rw [hval, e]
  refine ⟨by omega, by omega, ?_⟩
  unfold W64; rw [wrap_u64_mod]
theorem ap176_tr (x : Nat) (hx : x < 18446744073709551616) : ap 176 x 0 = tr7 x := by
  rw [ap_conv 176 x 0 (by decide) (by decide)]
  show tr7 (x : Int).toNat = _
  rw [Int.toNat_natCast]
theorem ap176_back (c : Int) (h0 : -9223372036854775808 ≤ c) (h1 : c < 9223372036854775808) : (ap 185 (c % 18446744073709551616) 0).1 = ((FloatKind.nearest .f64 c : Nat) : Int) := by
  rw [ap_conv 185 _ 0 (by decide) (by decide)]
  have e : IntKind.wrap .i64 (c % 18446744073709551616) = c := by
    rw [wrap_i64_sgn _ (by omega) (by omega)]; unfold sgn; split <;> omega
  show ((FloatKind.nearest .f64 (IntKind.wrap .i64 (c % 18446744073709551616)) : Nat) : Int) = _
  rw [e]
theorem tr7_place (x : Nat) (hx : x < 18446744073709551616) (hin : in7 x) : pe64 (x % 9223372036854775808) ≤ 11 := by
  unfold in7 at hin
  unfold pe64
  split <;> omega

/-! ### 177 -/
def in8 (x : Nat) : Prop := (9223372036854775808 ≤ x ∧ x % 9223372036854775808 ≤ 4607182418800017407) ∨ (¬ 9223372036854775808 ≤ x ∧ x % 9223372036854775808 < 4895412794951729152)
theorem tr8_form (x : Nat) (hx : x < 18446744073709551616) (hv : x % 9223372036854775808 ≤ 9218868437227405312) : tr8 x = cond (decide (-4607182418800017408 < key Ieee.double x)) (cond (!(decide (key Ieee.double x < 4895412794951729152))) (0, 40) (cond (Ieee.double.order x 4890909195324358656 == some .gt || Ieee.double.order x 4890909195324358656 == some .eq) (bOr .u64 (W64 (cutV Ieee.double ((Ieee.double.sub x 4890909195324358656).getD 0))) 9223372036854775808, 0) (W64 (cutV Ieee.double x), 0))) (0, 40) := by
  have k1 : key Ieee.double 13830554455654793216 = -4607182418800017408 := by decide
  have k2 : key Ieee.double 4895412794951729152 = 4895412794951729152 := by decide
  have o1 := order64 x 13830554455654793216 hv (by decide)
  have o2 := order64 x 4895412794951729152 hv (by decide)
  rw [k1] at o1
  rw [k2] at o2
  unfold tr8
  rw [self64, decide_eq_false (show ¬ 9218868437227405312 < x % 9223372036854775808 by omega), o1, o2, beq_gt, beq_lt]
  rfl
theorem tr8_nan (x : Nat) (hv : 9218868437227405312 < x % 9223372036854775808) : tr8 x = (0, 41) := by
  unfold tr8; rw [self64, decide_eq_true hv]; rfl
theorem tr8_out (x : Nat) (hx : x < 18446744073709551616) (hv : x % 9223372036854775808 ≤ 9218868437227405312) (hin : ¬ in8 x) : tr8 x = (0, 40) := by
  rw [tr8_form x hx hv]
  unfold in8 at hin
  by_cases h : 9223372036854775808 ≤ x
  · rw [key64_neg x hx h]
    have a1 : decide (-4607182418800017408 < -((x % 9223372036854775808 : Nat) : Int)) = false := decide_eq_false (by omega)
    rw [a1]
    
    rfl
  · rw [key64_pos x hx h]
    have a1 : decide (-4607182418800017408 < ((x % 9223372036854775808 : Nat) : Int)) = true := decide_eq_true (by omega)
    have a2 : decide (((x % 9223372036854775808 : Nat) : Int) < 4895412794951729152) = false := decide_eq_false (by omega)
    rw [a1, a2]; rfl
theorem tr8_yes (x : Nat) (hx : x < 18446744073709551616) (hin : in8 x) : x % 9223372036854775808 < 9218868437227405312 ∧ tr8 x = (cond (Ieee.double.order x 4890909195324358656 == some .gt || Ieee.double.order x 4890909195324358656 == some .eq) (bOr .u64 (W64 (cutV Ieee.double ((Ieee.double.sub x 4890909195324358656).getD 0))) 9223372036854775808, 0) (W64 (cutV Ieee.double x), 0)) ∧ ((decide (-4607182418800017408 < key Ieee.double x)) = true) ∧ key Ieee.double x < 4895412794951729152 := by
  have hfin : x % 9223372036854775808 < 9218868437227405312 := by unfold in8 at hin; omega
  refine ⟨hfin, ?_⟩
  rw [tr8_form x hx (by omega)]
  unfold in8 at hin
  by_cases h : 9223372036854775808 ≤ x
  · rw [key64_neg x hx h]
    have b1 : -((x % 9223372036854775808 : Nat) : Int) < 4895412794951729152 := by omega
    have a2 : decide (-((x % 9223372036854775808 : Nat) : Int) < 4895412794951729152) = true := decide_eq_true b1
    have a1 : (decide (-4607182418800017408 < -((x % 9223372036854775808 : Nat) : Int))) = true := by
      exact decide_eq_true (by omega)
    rw [a1, a2]; exact ⟨rfl, rfl, b1⟩
  · rw [key64_pos x hx h]
    have b1 : ((x % 9223372036854775808 : Nat) : Int) < 4895412794951729152 := by omega
    have a2 : decide (((x % 9223372036854775808 : Nat) : Int) < 4895412794951729152) = true := decide_eq_true b1
    have a1 : (decide (-4607182418800017408 < ((x % 9223372036854775808 : Nat) : Int))) = true := by
      exact decide_eq_true (by omega)
    rw [a1, a2]; exact ⟨rfl, rfl, b1⟩
theorem tr8_ord (x : Nat) (hx : x < 18446744073709551616) (hin : in8 x) : Ieee.double.order x 4895412794951729152 = some .lt ∧ (Ieee.double.order x 13830554455654793216 = some .gt) := by
  obtain ⟨hfin, _, h1, h2⟩ := tr8_yes x hx hin
  have k1 : key Ieee.double 13830554455654793216 = -4607182418800017408 := by decide
  have k2 : key Ieee.double 4895412794951729152 = 4895412794951729152 := by decide
  have o1 := order64 x 13830554455654793216 (by omega) (by decide)
  have o2 := order64 x 4895412794951729152 (by omega) (by decide)
  rw [k1] at o1
  rw [k2] at o2
  rw [o1, o2]
  refine ⟨by rw [cmp_lt h2], ?_⟩
  rw [cmp_gt (of_decide_eq_true h1)]
theorem tr8_cut (x : Nat) (hx : x < 18446744073709551616) (hin : in8 x) : 0 ≤ cutV Ieee.double x ∧ cutV Ieee.double x < 18446744073709551616 ∧ tr8 x = (cutV Ieee.double x % 18446744073709551616, 0) := by
  obtain ⟨o1, o2⟩ := tr8_ord x hx hin
  obtain ⟨hfin, hval, _, _⟩ := tr8_yes x hx hin
  by_cases htop : Ieee.double.order x 4890909195324358656 = some .gt ∨ Ieee.double.order x 4890909195324358656 = some .eq
  · obtain ⟨r, m, b1, b2, b3, b4, b5⟩ := sub63_val Ieee.double x 4890909195324358656 4895412794951729152 11 2047 (by decide) (by decide) (by decide) (by decide) (by decide) (by decide) (by decide) (by decide) htop o1
    have hb : Ieee.double.binade = 4503599627370496 := by decide
    rw [hb] at b3 b4 b5
    have hcond : (Ieee.double.order x 4890909195324358656 == some .gt || Ieee.double.order x 4890909195324358656 == some .eq) = true := by simpa using htop
    have hj : (11 : Int).toNat = 11 := by decide
    rw [hj] at b5
    have hc : cutV Ieee.double x = ((m * 2048 : Nat) : Int) := by
      unfold cutV
      rw [b2, toInt_number]
      have z : (-(11 : Int)).toNat = 0 := by decide
      rw [z, hj]
      have a2 : (2 : Nat) ^ 11 = 2048 := by decide
      rw [a2, Nat.pow_zero, Nat.div_one]; rfl
    have hc2 : cutV Ieee.double ((Ieee.double.sub x 4890909195324358656).getD 0) = (((m - 4503599627370496) * 2048 : Nat) : Int) := by
      unfold cutV
      rw [b1, Option.getD_some, b5]
      have a2 : (2 : Nat) ^ 11 = 2048 := by decide
      rw [a2]; rfl
    have hlow : (m - 4503599627370496) * 2048 < 9223372036854775808 := by
      have a1 : (m - 4503599627370496) * 2048 ≤ 4503599627370495 * 2048 := Nat.mul_le_mul_right _ (by omega)
      have a2 : 4503599627370495 * 2048 < 9223372036854775808 := by decide
      exact Nat.lt_of_le_of_lt a1 a2
    have hsplit : m * 2048 = (m - 4503599627370496) * 2048 + 9223372036854775808 := by
      have a1 : m * 2048 = (m - 4503599627370496 + 4503599627370496) * 2048 := by congr 1; omega
      rw [a1, Nat.add_mul]
    rw [hval, hcond, cond_true, hc2, hc]
    unfold W64
    rw [wrap64_n _ (Nat.lt_trans hlow (by decide))]
    have hor : bOr .u64 (((m - 4503599627370496) * 2048 : Nat) : Int) 9223372036854775808 = ((m * 2048 : Nat) : Int) := by
      have e : bOr .u64 (((m - 4503599627370496) * 2048 : Nat) : Int) 9223372036854775808 = (((m - 4503599627370496) * 2048 ||| 9223372036854775808 : Nat) : Int) := bOr64_n _ 9223372036854775808 (Nat.lt_trans hlow (by decide)) (by decide)
      rw [e, Nat.or_comm]
      have := or_add 1 ((m - 4503599627370496) * 2048) 63 hlow
      have a3 : 1 * (2 : Nat) ^ 63 = 9223372036854775808 := by decide
      rw [a3] at this
      rw [this, hsplit, Nat.add_comm]
    rw [hor]
    have h64 : m * 2048 < 18446744073709551616 := by
      rw [hsplit]; exact Nat.lt_of_lt_of_le (Nat.add_lt_add_right hlow _) (by decide)
    have h64' : ((m * 2048 : Nat) : Int) < 18446744073709551616 := Int.ofNat_lt.2 h64
    exact ⟨Int.natCast_nonneg _, h64', by rw [Int.emod_eq_of_lt (Int.natCast_nonneg _) h64']⟩
  · have hlt : Ieee.double.order x 4890909195324358656 = some .lt := by
      have hh := order64 x 4890909195324358656 (by omega) (by decide)
      rw [hh] at htop ⊢
      rcases Int.lt_trichotomy (key Ieee.double x) (key Ieee.double 4890909195324358656) with g | g | g
      · rw [cmp_lt g]
      · exact absurd (.inr (by rw [Int.compare_eq_eq.2 g])) htop
      · exact absurd (.inl (by rw [cmp_gt g])) htop
    obtain ⟨q, a1, a2, a3⟩ := tr8_in x hlt o2
    have e : cutV Ieee.double x = q := by unfold cutV; rw [a1]; rfl
    have hcond : (Ieee.double.order x 4890909195324358656 == some .gt || Ieee.double.order x 4890909195324358656 == some .eq) = false := by rw [hlt]; rfl
    rw [hval, hcond, cond_false, e]
    unfold W64; rw [wrap_u64_mod]
    exact ⟨by omega, by omega, rfl⟩
theorem ap177_tr (x : Nat) (hx : x < 18446744073709551616) : ap 177 x 0 = tr8 x := by
  rw [ap_conv 177 x 0 (by decide) (by decide)]
  show tr8 (x : Int).toNat = _
  rw [Int.toNat_natCast]
theorem ap177_back (c : Int) (h0 : 0 ≤ c) (h1 : c < 18446744073709551616) : (ap 186 (c % 18446744073709551616) 0).1 = ((FloatKind.nearest .f64 c : Nat) : Int) := by
  rw [ap_conv 186 _ 0 (by decide) (by decide)]
  have e : c % 18446744073709551616 = c := by
    omega
  show ((FloatKind.nearest .f64 (c % 18446744073709551616) : Nat) : Int) = _
  rw [e]
theorem tr8_place (x : Nat) (hx : x < 18446744073709551616) (hin : in8 x) : pe64 (x % 9223372036854775808) ≤ 11 := by
  unfold in8 at hin
  unfold pe64
  split <;> omega

end Go.Proofs.Qxb6500320a
