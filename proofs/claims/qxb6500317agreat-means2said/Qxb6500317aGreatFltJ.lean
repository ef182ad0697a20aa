/-
  Floats: numbers that are written without rounding; the conversions as a plain function.
-/
import Derived.Test.Qxb6500317aGreatFltI
set_option linter.unusedSimpArgs false
set_option linter.unusedVariables false
set_option maxRecDepth 100000
namespace Go.Proofs.Qxb6500317aGreat.U
open Go Go.Vc

theorem read_norm (f : Ieee.Format) (x : Nat) (s : Bool) (m : Nat) (i : Int) (h : f.read x = .number s m i) : m < 2 * f.binade ∧ (i = f.leastPlace ∨ f.binade ≤ m) := by
  have hb : 0 < f.binade := Nat.two_pow_pos _
  unfold Ieee.Format.read at h
  simp only at h
  split at h
  · simp only [Ieee.Datum.number.injEq] at h; omega
  · split at h
    · simp only [Ieee.Datum.number.injEq] at h
      have := Nat.mod_lt (x % f.signWeight) hb
      omega
    · split at h <;> simp at h

theorem word_sign (f : Ieee.Format) (s : Bool) (r : Nat) (hr : r < f.signWeight) : (f.word s r / f.signWeight % 2 == 1) = s := by
  unfold Ieee.Format.word
  cases s with
  | false => simp only [Bool.false_eq_true, if_false]; rw [Nat.div_eq_of_lt hr]; rfl
  | true =>
    simp only [if_true]
    rw [Nat.add_div_left _ (by omega), Nat.div_eq_of_lt hr]; rfl

theorem read_rung (f : Ieee.Format) (s : Bool) (k kept : Nat) (h2 : kept < 2 * f.binade) (hk : k = 0 ∨ f.binade ≤ kept) (hi : k * f.binade + kept < f.infRung) :
    f.read (f.word s (k * f.binade + kept)) = .number s kept (f.leastPlace + k) := by
  have hsw := f.infRung_lt
  have hb : 0 < f.binade := Nat.two_pow_pos _
  unfold Ieee.Format.read
  simp only [word_rung f s _ (Nat.lt_trans hi hsw), word_sign f s _ (Nat.lt_trans hi hsw)]
  by_cases hkb : kept < f.binade
  · have hk0 : k = 0 := by omega
    subst hk0
    rw [if_pos (by rw [Nat.zero_mul]; omega)]
    simp
  · have e : k * f.binade + kept = (kept - f.binade) + (k + 1) * f.binade := by rw [Nat.add_mul, Nat.one_mul]; omega
    have hnot : ¬ (k * f.binade + kept < f.binade) := by
      have := Nat.zero_le (k * f.binade); omega
    rw [if_neg hnot, if_pos hi, e, Nat.add_mul_mod_self_right, Nat.add_mul_div_right _ _ hb, Nat.mod_eq_of_lt (by omega), Nat.div_eq_of_lt (by omega)]
    congr 1
    · omega
    · omega

theorem cut_none (s : Bool) (n : Nat) : Ieee.Toward.even.cut s n 0 = n := by
  unfold Ieee.Toward.cut
  simp [Nat.mod_one]

/-- A number of few digits, neither too low nor too high, is written as it is. -/
theorem exact_write (f : Ieee.Format) (s : Bool) (m : Nat) (i : Int) (E : Nat) (hE : f.infRung = E * f.binade) (hE1 : 1 ≤ E) (hm : m < 2 * f.binade) (hi : f.leastPlace ≤ i) (ht : (max (i + m.log2 - f.fractionBits) f.leastPlace - f.leastPlace).toNat + 2 ≤ E) :
    ∃ n j, f.read (f.write (.number s m i)) = .number s n j ∧ f.leastPlace ≤ j ∧ n * 2 ^ (j - f.leastPlace).toNat = m * 2 ^ (i - f.leastPlace).toNat := by
  have hb : 0 < f.binade := Nat.two_pow_pos _
  have hbd : f.binade = 2 ^ f.fractionBits := rfl
  by_cases hm0 : m = 0
  · subst hm0
    refine ⟨0, f.leastPlace, ?_, Int.le_refl _, by simp⟩
    rw [write_number, if_pos rfl]
    have := read_rung f s 0 0 (by omega) (.inl rfl) (by rw [hE]; have := Nat.mul_le_mul_right f.binade hE1; omega)
    simpa using this
  · have hl : m.log2 ≤ f.fractionBits := log2_lt m f.fractionBits (by rw [Nat.pow_succ]; omega)
    generalize hlast : max (i + m.log2 - f.fractionBits) f.leastPlace = last at ht
    have hli : last ≤ i := by omega
    obtain ⟨k, hk⟩ : ∃ k : Nat, (k : Int) = last - f.leastPlace := ⟨(last - f.leastPlace).toNat, by omega⟩
    obtain ⟨u, hu⟩ : ∃ u : Nat, (u : Int) = i - last := ⟨(i - last).toNat, by omega⟩
    have hrung : rungOf f s m i = k * f.binade + m * 2 ^ u := by
      unfold rungOf
      rw [hlast]
      have e1 : (last - f.leastPlace).toNat = k := by omega
      have e2 : (i - last).toNat = u := by omega
      have e3 : (last - i).toNat = 0 := by omega
      rw [e1, e2, e3, cut_none, Nat.shiftLeft_eq]
    have h1 : m < 2 ^ (m.log2 + 1) := Nat.lt_log2_self
    have h1' : 2 ^ m.log2 ≤ m := Nat.log2_self_le hm0
    have hkept : m * 2 ^ u < 2 * f.binade := by
      have h3 : m * 2 ^ u < 2 ^ (m.log2 + 1) * 2 ^ u := Nat.mul_lt_mul_of_pos_right h1 (Nat.two_pow_pos u)
      rw [← Nat.pow_add] at h3
      have h4 : 2 ^ (m.log2 + 1 + u) ≤ 2 ^ (f.fractionBits + 1) := Nat.pow_le_pow_right (by omega) (by omega)
      rw [hbd]
      rw [Nat.pow_succ 2 f.fractionBits] at h4
      omega
    have hor : k = 0 ∨ f.binade ≤ m * 2 ^ u := by
      rcases Nat.eq_zero_or_pos k with h0 | h0
      · exact .inl h0
      · right
        have e : u + m.log2 = f.fractionBits := by omega
        have h3 : 2 ^ m.log2 * 2 ^ u ≤ m * 2 ^ u := Nat.mul_le_mul_right _ h1'
        rw [← Nat.pow_add] at h3
        rw [hbd, ← e, Nat.add_comm]; exact h3
    have hlt : k * f.binade + m * 2 ^ u < f.infRung := by
      rw [hE]
      have h3 : (k + 2) * f.binade ≤ E * f.binade := Nat.mul_le_mul_right _ (by omega)
      rw [Nat.add_mul] at h3
      omega
    refine ⟨m * 2 ^ u, last, ?_, by omega, ?_⟩
    · rw [write_number, if_neg hm0, hrung, Nat.min_eq_left (Nat.le_of_lt hlt), read_rung f s k _ hkept hor hlt]
      congr 1
      omega
    · rw [Nat.mul_assoc, ← Nat.pow_add]
      congr 2
      omega

/-- In the binade of c, below d = 2 c. -/
theorem sub_top (f : Ieee.Format) (x c d : Nat) (j : Int) (hc : f.read c = .number false f.binade j) (hd : f.read d = .number false f.binade (j + 1)) (hj : f.leastPlace < j)
    (h1 : f.order x c = some .gt ∨ f.order x c = some .eq) (h2 : f.order x d = some .lt) : ∃ m, f.read x = .number false m j ∧ f.binade ≤ m ∧ m < 2 * f.binade := by
  have hb : 0 < f.binade := Nat.two_pow_pos _
  unfold Ieee.Format.order at h1 h2
  rw [hc] at h1
  rw [hd] at h2
  cases hx : f.read x with
  | nan s t => rw [hx] at h2; simp [Ieee.Datum.order] at h2
  | infinity s => rw [hx] at h1 h2; cases s <;> simp [Ieee.Datum.order] at h1 h2
  | number s m i =>
    rw [hx] at h1 h2
    obtain ⟨hm, hn⟩ := read_norm f x s m i hx
    have h2' := order_lt _ _ _ _ _ _ h2
    have h1' : Ieee.signed false f.binade (j - min i j).toNat ≤ Ieee.signed s m (i - min i j).toNat := by
      rcases h1 with h1 | h1
      · have := order_gt _ _ _ _ _ _ h1; omega
      · simp only [Ieee.Datum.order, Option.some.injEq] at h1
        have := Int.compare_eq_eq.1 h1; omega
    simp only [Ieee.signed, Bool.false_eq_true, if_false, Nat.shiftLeft_eq] at h1' h2'
    have hs : s = false := by
      cases s with
      | false => rfl
      | true =>
        simp only [if_true] at h1'
        have := Nat.mul_pos hb (Nat.two_pow_pos (j - min i j).toNat)
        generalize f.binade * 2 ^ (j - min i j).toNat = U at *
        generalize m * 2 ^ (i - min i j).toNat = V at *
        omega
    subst hs
    simp only [Bool.false_eq_true, if_false] at h1' h2'
    have g1 : f.binade * 2 ^ (j - min i j).toNat ≤ m * 2 ^ (i - min i j).toNat := by exact_mod_cast h1'
    have g2 : m * 2 ^ (i - min i (j + 1)).toNat < f.binade * 2 ^ (j + 1 - min i (j + 1)).toNat := by exact_mod_cast h2'
    have hij : i = j := by
      rcases Int.lt_trichotomy i j with hlt | he | hgt
      · exfalso
        have e1 : (i - min i j).toNat = 0 := by omega
        have e2 : (j - min i j).toNat = (j - i).toNat - 1 + 1 := by omega
        rw [e1, e2, Nat.pow_succ, Nat.pow_zero, Nat.mul_one, ← Nat.mul_assoc] at g1
        have h3 : f.binade * 1 ≤ f.binade * 2 ^ ((j - i).toNat - 1) := Nat.mul_le_mul_left _ (Nat.two_pow_pos _)
        omega
      · exact he
      · exfalso
        have e1 : (j + 1 - min i (j + 1)).toNat = 0 := by omega
        rw [e1, Nat.pow_zero, Nat.mul_one] at g2
        have h3 : m * 1 ≤ m * 2 ^ (i - min i (j + 1)).toNat := Nat.mul_le_mul_left _ (Nat.two_pow_pos _)
        rcases hn with hn | hn <;> omega
    subst hij
    refine ⟨m, rfl, ?_, hm⟩
    have e1 : (i - min i i).toNat = 0 := by omega
    rw [e1] at g1
    simpa using g1

theorem toInt_scale (f : Ieee.Format) (s : Bool) (n m : Nat) (j i : Int) (hj : f.leastPlace ≤ j) (hi : f.leastPlace ≤ i) (hl : f.leastPlace ≤ 0) (he : n * 2 ^ (j - f.leastPlace).toNat = m * 2 ^ (i - f.leastPlace).toNat) :
    (Ieee.Datum.number s n j).toInt .zero = (Ieee.Datum.number s m i).toInt .zero := by
  rw [toInt_number, toInt_number]
  have h1 := floor_scale n j (-f.leastPlace).toNat (j - f.leastPlace).toNat (by omega)
  have h2 := floor_scale m i (-f.leastPlace).toNat (i - f.leastPlace).toNat (by omega)
  rw [h1, h2, he]

theorem sub63 (f : Ieee.Format) (x c d : Nat) (j : Int) (E : Nat) (hE : f.infRung = E * f.binade) (hE1 : 1 ≤ E) (hc : f.read c = .number false f.binade j) (hd : f.read d = .number false f.binade (j + 1)) (hj : f.leastPlace < j) (hj0 : 0 ≤ j) (hl : f.leastPlace ≤ 0)
    (ht : (j - f.leastPlace).toNat + 2 ≤ E)
    (h1 : f.order x c = some .gt ∨ f.order x c = some .eq) (h2 : f.order x d = some .lt) :
    ∃ r q, f.sub x c = some r ∧ (f.read r).toInt .zero = some q ∧ 0 ≤ q ∧ q < f.binade * 2 ^ j.toNat := by
  obtain ⟨m, hx, hm1, hm2⟩ := sub_top f x c d j hc hd hj h1 h2
  have hb : 0 < f.binade := Nat.two_pow_pos _
  have hsum : (Ieee.Datum.number false m j).sum (Ieee.Datum.number true f.binade j) = some (.number false (m - f.binade) j) := by
    simp only [Ieee.Datum.sum, Ieee.signed, Bool.false_eq_true, if_false, if_true, Nat.shiftLeft_eq]
    have e0 : (j - min j j).toNat = 0 := by omega
    rw [e0, Nat.pow_zero, Nat.mul_one, Nat.mul_one]
    have e1 : (m : Int) + -(f.binade : Int) = ((m - f.binade : Nat) : Int) := by omega
    rw [e1]
    have e2 : min j j = j := by omega
    rw [e2, Int.natAbs_natCast]
    congr 2
    split
    · rfl
    · apply decide_eq_false; omega
  have hl2 : (m - f.binade).log2 ≤ f.fractionBits := log2_lt _ _ (by
    rw [Nat.pow_succ]; have : f.binade = 2 ^ f.fractionBits := rfl
    omega)
  obtain ⟨n, i, hr, hi, he⟩ := exact_write f false (m - f.binade) j E hE hE1 (by omega) (by omega) (by omega)
  have e1 : (-j).toNat = 0 := by omega
  refine ⟨f.write (.number false (m - f.binade) j), (((m - f.binade) * 2 ^ j.toNat : Nat) : Int), ?_, ?_, ?_⟩
  · unfold Ieee.Format.sub
    rw [hx, hc]
    show ((Ieee.Datum.number false m j).sum (Ieee.Datum.number true f.binade j)).map f.write = _
    rw [hsum]; rfl
  · rw [hr, toInt_scale f false n (m - f.binade) i j hi (by omega) hl he, toInt_number, e1, Nat.pow_zero, Nat.div_one]
    rfl
  · have h3 : (m - f.binade) * 2 ^ j.toNat < f.binade * 2 ^ j.toNat := Nat.mul_lt_mul_of_pos_right (by omega) (Nat.two_pow_pos _)
    refine ⟨by omega, ?_⟩
    exact_mod_cast h3

theorem ftoi {k : FloatKind} {x : Nat} {d : IntKind} {q : Int} (h : (k.format.read x).toInt .zero = some q) (h1 : d.min ≤ q) (h2 : q ≤ d.max) : floatToIntVal k x d = some (cutV k.format x) := by
  unfold floatToIntVal cutV
  show (match (k.format.read x).toInt .zero with | some n => if IntKind.min d ≤ n ∧ n ≤ IntKind.max d then some n else none | none => none) = _
  rw [h]
  simp only [Option.getD_some]
  rw [if_pos ⟨h1, h2⟩]

theorem demote_fits (x : Nat) (h1 : (Ieee.double.order x 5183643170835005440 == some .gt || Ieee.double.order x 5183643170835005440 == some .eq) = false) (h2 : (Ieee.double.order x 14407015207689781248 == some .lt || Ieee.double.order x 14407015207689781248 == some .eq) = false) :
    (Ieee.double.read x).isNaN = true ∨ ∃ r, floatToFloatBits .f64 x .f32 = some r := by
  cases hn : (Ieee.double.read x).isNaN with
  | true => exact .inl rfl
  | false =>
    right
    apply demote_some x hn
    intro s m i hx
    have hc : Ieee.double.read 5183643170835005440 = .number false 9007198986305536 75 := by decide
    have hd : Ieee.double.read 14407015207689781248 = .number true 9007198986305536 75 := by decide
    have hlp : Ieee.double.leastPlace = -1074 := by decide
    obtain ⟨hm, hnorm⟩ := read_norm Ieee.double x s m i hx
    obtain ⟨_, hi⟩ := double_bd x s m i hx
    by_cases hm0 : m = 0
    · subst hm0
      apply demote_low
      have hb : 0 < Ieee.double.binade := by decide
      have : i = -1074 := by rw [hlp] at hnorm; omega
      rw [this]; decide
    · apply demote_high s m i hm0 hi
      unfold Ieee.Format.order at h1 h2
      rw [hx, hc] at h1
      rw [hx, hd] at h2
      have hC : 9007198986305536 * 2 ^ 1149 = 33554431 * 2 ^ 1177 := by decide +kernel
      obtain ⟨I, hI⟩ : ∃ I : Nat, (I : Int) = i + (1074 : Nat) := ⟨(i + 1074).toNat, by omega⟩
      have hI' : (i + 1074).toNat = I := by omega
      rw [hI', ← hC]
      cases s with
      | false =>
        have h3 : (Ieee.Datum.number false m i).order (.number false 9007198986305536 75) = some .lt := by
          cases ho : (Ieee.Datum.number false m i).order (.number false 9007198986305536 75) with
          | none => simp [Ieee.Datum.order] at ho
          | some o => cases o with
            | lt => rfl
            | eq => rw [ho] at h1; simp at h1
            | gt => rw [ho] at h1; simp at h1
        have h4 := order_lt _ _ _ _ _ _ h3
        simp only [Ieee.signed, Bool.false_eq_true, if_false, Nat.shiftLeft_eq] at h4
        have h5 : m * 2 ^ (i - min i 75).toNat < 9007198986305536 * 2 ^ (75 - min i 75).toNat := by exact_mod_cast h4
        exact scale_lt m 9007198986305536 i 75 1074 I 1149 hI (by decide) h5
      | true =>
        have h3 : (Ieee.Datum.number true m i).order (.number true 9007198986305536 75) = some .gt := by
          cases ho : (Ieee.Datum.number true m i).order (.number true 9007198986305536 75) with
          | none => simp [Ieee.Datum.order] at ho
          | some o => cases o with
            | gt => rfl
            | eq => rw [ho] at h2; simp at h2
            | lt => rw [ho] at h2; simp at h2
        have h4 := order_gt _ _ _ _ _ _ h3
        simp only [Ieee.signed, if_true, Nat.shiftLeft_eq] at h4
        have h5 : m * 2 ^ (i - min i 75).toNat < 9007198986305536 * 2 ^ (75 - min i 75).toNat := by
          generalize m * 2 ^ (i - min i 75).toNat = U at *
          generalize 9007198986305536 * 2 ^ (75 - min i 75).toNat = V at *
          omega
        exact scale_lt m 9007198986305536 i 75 1074 I 1149 hI (by decide) h5

/-! ### The eight truncations -/
theorem gt_or_eq {o : Option Ordering} (h : (o == some .gt || o == some .eq) = true) : o = some .gt ∨ o = some .eq := by
  simpa using h
theorem lt_of_not {o : Option Ordering} (h : (!(o == some .lt)) = false) : o = some .lt := by simpa using h
theorem gt_of {o : Option Ordering} (h : (o == some .gt) = true) : o = some .gt := by simpa using h

def W64 (v : Int) : Int := IntKind.wrap .u64 v
def W3264 (v : Int) : Int := IntKind.wrap .u64 (IntKind.wrap .u32 v)

def tr1 (s : Nat) : Int × Int :=
  cond (Ieee.single.order s s != some .eq) (0, 41) (cond (Ieee.single.order s 3472883712 == some .gt || Ieee.single.order s 3472883712 == some .eq) (cond (!(Ieee.single.order s 1325400064 == some .lt)) (0, 40) (W3264 (cutV Ieee.single s), 0)) (0, 40))
theorem tr1_in (s : Nat) (h1 : Ieee.single.order s 1325400064 = some .lt) (h2 : Ieee.single.order s 3472883712 = some .gt ∨ Ieee.single.order s 3472883712 = some .eq) : ∃ q : Int, (Ieee.single.read s).toInt .zero = some q ∧ -2147483648 ≤ q ∧ q < 2147483648 := by
  obtain ⟨q, a1, a2, a3⟩ := trunc_ge Ieee.single s 1325400064 3472883712 8388608 8388608 8 8 2147483648 2147483648 149 157 157 (by decide) (by decide) (by decide) (by decide) (by decide) (by decide +kernel) (by decide +kernel) (by decide) (by decide) h1 h2
  exact ⟨q, a1, a2, a3⟩
theorem tr1_walk {R : Value → World → Prop} (s : Nat) (w : World) (hQ : (fun p : Int × Int => ∀ w', Same [] w.heap.size w w' → R (.tuple #[.int .u64 p.1, .int .i64 p.2]) w') (tr1 s)) :
    cond (Ieee.single.order s s != some .eq) (R (.tuple #[(.int .u64 0), (.int .i64 41)]) w)
      (cond (Ieee.single.order s 3472883712 == some .gt || Ieee.single.order s 3472883712 == some .eq) (num_conv.L1 s (!(Ieee.single.order s 1325400064 == some .lt)) R w) (num_conv.L1 s true R w)) := by
  have m1 : IntKind.min .i32 = -2147483648 := by decide
  have m2 : IntKind.max .i32 = 2147483647 := by decide
  have e : ∀ a b, Ieee.Format.order (FloatKind.format .f32) a b = Ieee.single.order a b := fun a b => rfl
  unfold tr1 at hQ
  refine cond_q (fun p : Int × Int => ∀ w', Same [] w.heap.size w w' → R (.tuple #[.int .u64 p.1, .int .i64 p.2]) w') hQ (fun _ hQ => hQ w (Same.refl _ _ _)) (fun _ hQ => ?_)
  refine cond_q (fun p : Int × Int => ∀ w', Same [] w.heap.size w w' → R (.tuple #[.int .u64 p.1, .int .i64 p.2]) w') hQ (fun hlo hQ => ?_) (fun _ hQ => ?_)
  · refine num_conv.step1 _ _ _ _ ?_
    unfold num_conv.V1
    refine cond_q (fun p : Int × Int => ∀ w', Same [] w.heap.size w w' → R (.tuple #[.int .u64 p.1, .int .i64 p.2]) w') hQ (fun _ hQ => hQ w (Same.refl _ _ _)) (fun hhi hQ => ?_)
    obtain ⟨q, a1, a2, a3⟩ := tr1_in s (lt_of_not hhi) (gt_or_eq hlo)
    refine ⟨_, _, run_convert_float_int w T_float32 T_int32 .f32 .i32 s _ (by kernel_rfl) (by kernel_rfl) (ftoi (k := .f32) a1 (by rw [m1]; omega) (by rw [m2]; omega)), ?_⟩
    exact hQ w (Same.refl _ _ _)
  · refine num_conv.step1 _ _ _ _ ?_
    unfold num_conv.V1
    exact cond_true' rfl (hQ w (Same.refl _ _ _))

def tr2 (s : Nat) : Int × Int :=
  cond (Ieee.single.order s s != some .eq) (0, 41) (cond (Ieee.single.order s 3212836864 == some .gt) (cond (!(Ieee.single.order s 1333788672 == some .lt)) (0, 40) (W64 (cutV Ieee.single s), 0)) (0, 40))
theorem tr2_in (s : Nat) (h1 : Ieee.single.order s 1333788672 = some .lt) (h2 : Ieee.single.order s 3212836864 = some .gt) : ∃ q : Int, (Ieee.single.read s).toInt .zero = some q ∧ -1 < q ∧ q < 4294967296 := by
  obtain ⟨q, a1, a2, a3⟩ := trunc_in Ieee.single s 1333788672 3212836864 8388608 8388608 9 (-23) 4294967296 1 149 158 126 (by decide) (by decide) (by decide) (by decide) (by decide) (by decide +kernel) (by decide +kernel) (by decide) (by decide) h1 h2
  exact ⟨q, a1, a2, a3⟩
theorem tr2_walk {R : Value → World → Prop} (s : Nat) (w : World) (hQ : (fun p : Int × Int => ∀ w', Same [] w.heap.size w w' → R (.tuple #[.int .u64 p.1, .int .i64 p.2]) w') (tr2 s)) :
    cond (Ieee.single.order s s != some .eq) (R (.tuple #[(.int .u64 0), (.int .i64 41)]) w)
      (cond (Ieee.single.order s 3212836864 == some .gt) (num_conv.L2 s (!(Ieee.single.order s 1333788672 == some .lt)) R w) (num_conv.L2 s true R w)) := by
  have m1 : IntKind.min .i64 = -9223372036854775808 := by decide
  have m2 : IntKind.max .i64 = 9223372036854775807 := by decide
  have e : ∀ a b, Ieee.Format.order (FloatKind.format .f32) a b = Ieee.single.order a b := fun a b => rfl
  unfold tr2 at hQ
  refine cond_q (fun p : Int × Int => ∀ w', Same [] w.heap.size w w' → R (.tuple #[.int .u64 p.1, .int .i64 p.2]) w') hQ (fun _ hQ => hQ w (Same.refl _ _ _)) (fun _ hQ => ?_)
  refine cond_q (fun p : Int × Int => ∀ w', Same [] w.heap.size w w' → R (.tuple #[.int .u64 p.1, .int .i64 p.2]) w') hQ (fun hlo hQ => ?_) (fun _ hQ => ?_)
  · refine num_conv.step2 _ _ _ _ ?_
    unfold num_conv.V2
    refine cond_q (fun p : Int × Int => ∀ w', Same [] w.heap.size w w' → R (.tuple #[.int .u64 p.1, .int .i64 p.2]) w') hQ (fun _ hQ => hQ w (Same.refl _ _ _)) (fun hhi hQ => ?_)
    obtain ⟨q, a1, a2, a3⟩ := tr2_in s (lt_of_not hhi) (gt_of hlo)
    refine ⟨_, _, run_convert_float_int w T_float32 T_int64 .f32 .i64 s _ (by kernel_rfl) (by kernel_rfl) (ftoi (k := .f32) a1 (by rw [m1]; omega) (by rw [m2]; omega)), ?_⟩
    exact hQ w (Same.refl _ _ _)
  · refine num_conv.step2 _ _ _ _ ?_
    unfold num_conv.V2
    exact cond_true' rfl (hQ w (Same.refl _ _ _))

def tr3 (s : Nat) : Int × Int :=
  cond (Ieee.double.order s s != some .eq) (0, 41) (cond (Ieee.double.order s 13970166044105375744 == some .gt) (cond (!(Ieee.double.order s 4746794007248502784 == some .lt)) (0, 40) (W3264 (cutV Ieee.double s), 0)) (0, 40))
theorem tr3_in (s : Nat) (h1 : Ieee.double.order s 4746794007248502784 = some .lt) (h2 : Ieee.double.order s 13970166044105375744 = some .gt) : ∃ q : Int, (Ieee.double.read s).toInt .zero = some q ∧ -2147483649 < q ∧ q < 2147483648 := by
  obtain ⟨q, a1, a2, a3⟩ := trunc_in Ieee.double s 4746794007248502784 13970166044105375744 4503599627370496 4503599629467648 (-21) (-21) 2147483648 2147483649 1074 1053 1053 (by decide) (by decide) (by decide) (by decide) (by decide) (by decide +kernel) (by decide +kernel) (by decide) (by decide) h1 h2
  exact ⟨q, a1, a2, a3⟩
theorem tr3_walk {R : Value → World → Prop} (s : Nat) (w : World) (hQ : (fun p : Int × Int => ∀ w', Same [] w.heap.size w w' → R (.tuple #[.int .u64 p.1, .int .i64 p.2]) w') (tr3 s)) :
    cond (Ieee.double.order s s != some .eq) (R (.tuple #[(.int .u64 0), (.int .i64 41)]) w)
      (cond (Ieee.double.order s 13970166044105375744 == some .gt) (num_conv.L3 s (!(Ieee.double.order s 4746794007248502784 == some .lt)) R w) (num_conv.L3 s true R w)) := by
  have m1 : IntKind.min .i32 = -2147483648 := by decide
  have m2 : IntKind.max .i32 = 2147483647 := by decide
  have e : ∀ a b, Ieee.Format.order (FloatKind.format .f64) a b = Ieee.double.order a b := fun a b => rfl
  unfold tr3 at hQ
  refine cond_q (fun p : Int × Int => ∀ w', Same [] w.heap.size w w' → R (.tuple #[.int .u64 p.1, .int .i64 p.2]) w') hQ (fun _ hQ => hQ w (Same.refl _ _ _)) (fun _ hQ => ?_)
  refine cond_q (fun p : Int × Int => ∀ w', Same [] w.heap.size w w' → R (.tuple #[.int .u64 p.1, .int .i64 p.2]) w') hQ (fun hlo hQ => ?_) (fun _ hQ => ?_)
  · refine num_conv.step3 _ _ _ _ ?_
    unfold num_conv.V3
    refine cond_q (fun p : Int × Int => ∀ w', Same [] w.heap.size w w' → R (.tuple #[.int .u64 p.1, .int .i64 p.2]) w') hQ (fun _ hQ => hQ w (Same.refl _ _ _)) (fun hhi hQ => ?_)
    obtain ⟨q, a1, a2, a3⟩ := tr3_in s (lt_of_not hhi) (gt_of hlo)
    refine ⟨_, _, run_convert_float_int w T_float64 T_int32 .f64 .i32 s _ (by kernel_rfl) (by kernel_rfl) (ftoi (k := .f64) a1 (by rw [m1]; omega) (by rw [m2]; omega)), ?_⟩
    exact hQ w (Same.refl _ _ _)
  · refine num_conv.step3 _ _ _ _ ?_
    unfold num_conv.V3
    exact cond_true' rfl (hQ w (Same.refl _ _ _))

def tr4 (s : Nat) : Int × Int :=
  cond (Ieee.double.order s s != some .eq) (0, 41) (cond (Ieee.double.order s 13830554455654793216 == some .gt) (cond (!(Ieee.double.order s 4751297606875873280 == some .lt)) (0, 40) (W64 (cutV Ieee.double s), 0)) (0, 40))
theorem tr4_in (s : Nat) (h1 : Ieee.double.order s 4751297606875873280 = some .lt) (h2 : Ieee.double.order s 13830554455654793216 = some .gt) : ∃ q : Int, (Ieee.double.read s).toInt .zero = some q ∧ -1 < q ∧ q < 4294967296 := by
  obtain ⟨q, a1, a2, a3⟩ := trunc_in Ieee.double s 4751297606875873280 13830554455654793216 4503599627370496 4503599627370496 (-20) (-52) 4294967296 1 1074 1054 1022 (by decide) (by decide) (by decide) (by decide) (by decide) (by decide +kernel) (by decide +kernel) (by decide) (by decide) h1 h2
  exact ⟨q, a1, a2, a3⟩
theorem tr4_walk {R : Value → World → Prop} (s : Nat) (w : World) (hQ : (fun p : Int × Int => ∀ w', Same [] w.heap.size w w' → R (.tuple #[.int .u64 p.1, .int .i64 p.2]) w') (tr4 s)) :
    cond (Ieee.double.order s s != some .eq) (R (.tuple #[(.int .u64 0), (.int .i64 41)]) w)
      (cond (Ieee.double.order s 13830554455654793216 == some .gt) (num_conv.L4 s (!(Ieee.double.order s 4751297606875873280 == some .lt)) R w) (num_conv.L4 s true R w)) := by
  have m1 : IntKind.min .i64 = -9223372036854775808 := by decide
  have m2 : IntKind.max .i64 = 9223372036854775807 := by decide
  have e : ∀ a b, Ieee.Format.order (FloatKind.format .f64) a b = Ieee.double.order a b := fun a b => rfl
  unfold tr4 at hQ
  refine cond_q (fun p : Int × Int => ∀ w', Same [] w.heap.size w w' → R (.tuple #[.int .u64 p.1, .int .i64 p.2]) w') hQ (fun _ hQ => hQ w (Same.refl _ _ _)) (fun _ hQ => ?_)
  refine cond_q (fun p : Int × Int => ∀ w', Same [] w.heap.size w w' → R (.tuple #[.int .u64 p.1, .int .i64 p.2]) w') hQ (fun hlo hQ => ?_) (fun _ hQ => ?_)
  · refine num_conv.step4 _ _ _ _ ?_
    unfold num_conv.V4
    refine cond_q (fun p : Int × Int => ∀ w', Same [] w.heap.size w w' → R (.tuple #[.int .u64 p.1, .int .i64 p.2]) w') hQ (fun _ hQ => hQ w (Same.refl _ _ _)) (fun hhi hQ => ?_)
    obtain ⟨q, a1, a2, a3⟩ := tr4_in s (lt_of_not hhi) (gt_of hlo)
    refine ⟨_, _, run_convert_float_int w T_float64 T_int64 .f64 .i64 s _ (by kernel_rfl) (by kernel_rfl) (ftoi (k := .f64) a1 (by rw [m1]; omega) (by rw [m2]; omega)), ?_⟩
    exact hQ w (Same.refl _ _ _)
  · refine num_conv.step4 _ _ _ _ ?_
    unfold num_conv.V4
    exact cond_true' rfl (hQ w (Same.refl _ _ _))

def tr5 (s : Nat) : Int × Int :=
  cond (Ieee.single.order s s != some .eq) (0, 41) (cond (Ieee.single.order s 3741319168 == some .gt || Ieee.single.order s 3741319168 == some .eq) (cond (!(Ieee.single.order s 1593835520 == some .lt)) (0, 40) (W64 (cutV Ieee.single s), 0)) (0, 40))
theorem tr5_in (s : Nat) (h1 : Ieee.single.order s 1593835520 = some .lt) (h2 : Ieee.single.order s 3741319168 = some .gt ∨ Ieee.single.order s 3741319168 = some .eq) : ∃ q : Int, (Ieee.single.read s).toInt .zero = some q ∧ -9223372036854775808 ≤ q ∧ q < 9223372036854775808 := by
  obtain ⟨q, a1, a2, a3⟩ := trunc_ge Ieee.single s 1593835520 3741319168 8388608 8388608 40 40 9223372036854775808 9223372036854775808 149 189 189 (by decide) (by decide) (by decide) (by decide) (by decide) (by decide +kernel) (by decide +kernel) (by decide) (by decide) h1 h2
  exact ⟨q, a1, a2, a3⟩
theorem tr5_walk {R : Value → World → Prop} (s : Nat) (w : World) (hQ : (fun p : Int × Int => ∀ w', Same [] w.heap.size w w' → R (.tuple #[.int .u64 p.1, .int .i64 p.2]) w') (tr5 s)) :
    cond (Ieee.single.order s s != some .eq) (R (.tuple #[(.int .u64 0), (.int .i64 41)]) w)
      (cond (Ieee.single.order s 3741319168 == some .gt || Ieee.single.order s 3741319168 == some .eq) (num_conv.L5 s (!(Ieee.single.order s 1593835520 == some .lt)) R w) (num_conv.L5 s true R w)) := by
  have m1 : IntKind.min .i64 = -9223372036854775808 := by decide
  have m2 : IntKind.max .i64 = 9223372036854775807 := by decide
  have e : ∀ a b, Ieee.Format.order (FloatKind.format .f32) a b = Ieee.single.order a b := fun a b => rfl
  unfold tr5 at hQ
  refine cond_q (fun p : Int × Int => ∀ w', Same [] w.heap.size w w' → R (.tuple #[.int .u64 p.1, .int .i64 p.2]) w') hQ (fun _ hQ => hQ w (Same.refl _ _ _)) (fun _ hQ => ?_)
  refine cond_q (fun p : Int × Int => ∀ w', Same [] w.heap.size w w' → R (.tuple #[.int .u64 p.1, .int .i64 p.2]) w') hQ (fun hlo hQ => ?_) (fun _ hQ => ?_)
  · refine num_conv.step5 _ _ _ _ ?_
    unfold num_conv.V5
    refine cond_q (fun p : Int × Int => ∀ w', Same [] w.heap.size w w' → R (.tuple #[.int .u64 p.1, .int .i64 p.2]) w') hQ (fun _ hQ => hQ w (Same.refl _ _ _)) (fun hhi hQ => ?_)
    obtain ⟨q, a1, a2, a3⟩ := tr5_in s (lt_of_not hhi) (gt_or_eq hlo)
    refine ⟨_, _, run_convert_float_int w T_float32 T_int64 .f32 .i64 s _ (by kernel_rfl) (by kernel_rfl) (ftoi (k := .f32) a1 (by rw [m1]; omega) (by rw [m2]; omega)), ?_⟩
    exact hQ w (Same.refl _ _ _)
  · refine num_conv.step5 _ _ _ _ ?_
    unfold num_conv.V5
    exact cond_true' rfl (hQ w (Same.refl _ _ _))

def tr6 (s : Nat) : Int × Int :=
  cond (Ieee.single.order s s != some .eq) (0, 41) (cond (Ieee.single.order s 3212836864 == some .gt) (cond (!(Ieee.single.order s 1602224128 == some .lt)) (0, 40) (cond (Ieee.single.order s 1593835520 == some .gt || Ieee.single.order s 1593835520 == some .eq) (bOr .u64 (W64 (cutV Ieee.single ((Ieee.single.sub s 1593835520).getD 0))) 9223372036854775808, 0) (W64 (cutV Ieee.single s), 0))) (0, 40))
theorem tr6_in (s : Nat) (h1 : Ieee.single.order s 1593835520 = some .lt) (h2 : Ieee.single.order s 3212836864 = some .gt) : ∃ q : Int, (Ieee.single.read s).toInt .zero = some q ∧ -1 < q ∧ q < 9223372036854775808 := by
  obtain ⟨q, a1, a2, a3⟩ := trunc_in Ieee.single s 1593835520 3212836864 8388608 8388608 40 (-23) 9223372036854775808 1 149 189 126 (by decide) (by decide) (by decide) (by decide) (by decide) (by decide +kernel) (by decide +kernel) (by decide) (by decide) h1 h2
  exact ⟨q, a1, a2, a3⟩
theorem tr6_top (s : Nat) (h1 : Ieee.single.order s 1602224128 = some .lt) (h2 : Ieee.single.order s 1593835520 = some .gt ∨ Ieee.single.order s 1593835520 = some .eq) : ∃ r q, Ieee.single.sub s 1593835520 = some r ∧ (Ieee.single.read r).toInt .zero = some q ∧ 0 ≤ q ∧ q < 9223372036854775808 := by
  obtain ⟨r, q, a1, a2, a3, a4⟩ := sub63 Ieee.single s 1593835520 1602224128 40 255 (by decide) (by decide) (by decide) (by decide) (by decide) (by decide) (by decide) (by decide) h2 h1
  refine ⟨r, q, a1, a2, a3, ?_⟩
  have e : (Ieee.single.binade : Int) * 2 ^ (40 : Int).toNat = 9223372036854775808 := by decide
  rw [← e]; exact a4
theorem tr6_walk {R : Value → World → Prop} (s : Nat) (w : World) (hQ : (fun p : Int × Int => ∀ w', Same [] w.heap.size w w' → R (.tuple #[.int .u64 p.1, .int .i64 p.2]) w') (tr6 s)) :
    cond (Ieee.single.order s s != some .eq) (R (.tuple #[(.int .u64 0), (.int .i64 41)]) w)
      (cond (Ieee.single.order s 3212836864 == some .gt) (num_conv.L6 s (!(Ieee.single.order s 1602224128 == some .lt)) R w) (num_conv.L6 s true R w)) := by
  have m1 : IntKind.min .i64 = -9223372036854775808 := by decide
  have m2 : IntKind.max .i64 = 9223372036854775807 := by decide
  have e : ∀ a b, Ieee.Format.order (FloatKind.format .f32) a b = Ieee.single.order a b := fun a b => rfl
  unfold tr6 at hQ
  refine cond_q (fun p : Int × Int => ∀ w', Same [] w.heap.size w w' → R (.tuple #[.int .u64 p.1, .int .i64 p.2]) w') hQ (fun _ hQ => hQ w (Same.refl _ _ _)) (fun _ hQ => ?_)
  refine cond_q (fun p : Int × Int => ∀ w', Same [] w.heap.size w w' → R (.tuple #[.int .u64 p.1, .int .i64 p.2]) w') hQ (fun hlo hQ => ?_) (fun _ hQ => ?_)
  · refine num_conv.step6 _ _ _ _ ?_
    unfold num_conv.V6
    refine cond_q (fun p : Int × Int => ∀ w', Same [] w.heap.size w w' → R (.tuple #[.int .u64 p.1, .int .i64 p.2]) w') hQ (fun _ hQ => hQ w (Same.refl _ _ _)) (fun hhi hQ => ?_)
    simp only [e]
    refine cond_q (fun p : Int × Int => ∀ w', Same [] w.heap.size w w' → R (.tuple #[.int .u64 p.1, .int .i64 p.2]) w') hQ (fun h63 hQ => ?_) (fun h63 hQ => ?_)
    · obtain ⟨r, q, a0, a1, a2, a3⟩ := tr6_top s (lt_of_not hhi) (gt_or_eq h63)
      refine ⟨_, _, guarded_run _ _ _ _ .f32 _ _ r w a0, ?_⟩
      refine ⟨_, _, run_convert_float_int w T_float32 T_int64 .f32 .i64 r _ (by kernel_rfl) (by kernel_rfl) (ftoi (k := .f32) a1 (by rw [m1]; omega) (by rw [m2]; omega)), ?_⟩
      rw [a0] at hQ
      exact hQ w (Same.refl _ _ _)
    · have hlt : Ieee.single.order s 1593835520 = some .lt := by
        have hh := lt_of_not hhi
        have hnn := order_not_nan Ieee.single s 1602224128 .lt hh
        cases ho : Ieee.single.order s 1593835520 with
        | none =>
          exfalso
          unfold Ieee.Format.order at ho
          have hc : Ieee.single.read 1593835520 = .number false 8388608 40 := by decide
          rw [hc] at ho
          cases hx : Ieee.single.read s with
          | nan a b => rw [hx] at hnn; simp [Ieee.Datum.isNaN] at hnn
          | infinity a => rw [hx] at ho; simp [Ieee.Datum.order] at ho
          | number a b c => rw [hx] at ho; simp [Ieee.Datum.order] at ho
        | some o => cases o with
          | lt => rfl
          | eq => rw [ho] at h63; simp at h63
          | gt => rw [ho] at h63; simp at h63
      obtain ⟨q, a1, a2, a3⟩ := tr6_in s hlt (gt_of hlo)
      refine ⟨_, _, run_convert_float_int w T_float32 T_int64 .f32 .i64 s _ (by kernel_rfl) (by kernel_rfl) (ftoi (k := .f32) a1 (by rw [m1]; omega) (by rw [m2]; omega)), ?_⟩
      exact hQ w (Same.refl _ _ _)
  · refine num_conv.step6 _ _ _ _ ?_
    unfold num_conv.V6
    exact cond_true' rfl (hQ w (Same.refl _ _ _))

def tr7 (s : Nat) : Int × Int :=
  cond (Ieee.double.order s s != some .eq) (0, 41) (cond (Ieee.double.order s 14114281232179134464 == some .gt || Ieee.double.order s 14114281232179134464 == some .eq) (cond (!(Ieee.double.order s 4890909195324358656 == some .lt)) (0, 40) (W64 (cutV Ieee.double s), 0)) (0, 40))
theorem tr7_in (s : Nat) (h1 : Ieee.double.order s 4890909195324358656 = some .lt) (h2 : Ieee.double.order s 14114281232179134464 = some .gt ∨ Ieee.double.order s 14114281232179134464 = some .eq) : ∃ q : Int, (Ieee.double.read s).toInt .zero = some q ∧ -9223372036854775808 ≤ q ∧ q < 9223372036854775808 := by
  obtain ⟨q, a1, a2, a3⟩ := trunc_ge Ieee.double s 4890909195324358656 14114281232179134464 4503599627370496 4503599627370496 11 11 9223372036854775808 9223372036854775808 1074 1085 1085 (by decide) (by decide) (by decide) (by decide) (by decide) (by decide +kernel) (by decide +kernel) (by decide) (by decide) h1 h2
  exact ⟨q, a1, a2, a3⟩
theorem tr7_walk {R : Value → World → Prop} (s : Nat) (w : World) (hQ : (fun p : Int × Int => ∀ w', Same [] w.heap.size w w' → R (.tuple #[.int .u64 p.1, .int .i64 p.2]) w') (tr7 s)) :
    cond (Ieee.double.order s s != some .eq) (R (.tuple #[(.int .u64 0), (.int .i64 41)]) w)
      (cond (Ieee.double.order s 14114281232179134464 == some .gt || Ieee.double.order s 14114281232179134464 == some .eq) (num_conv.L7 s (!(Ieee.double.order s 4890909195324358656 == some .lt)) R w) (num_conv.L7 s true R w)) := by
  have m1 : IntKind.min .i64 = -9223372036854775808 := by decide
  have m2 : IntKind.max .i64 = 9223372036854775807 := by decide
  have e : ∀ a b, Ieee.Format.order (FloatKind.format .f64) a b = Ieee.double.order a b := fun a b => rfl
  unfold tr7 at hQ
  refine cond_q (fun p : Int × Int => ∀ w', Same [] w.heap.size w w' → R (.tuple #[.int .u64 p.1, .int .i64 p.2]) w') hQ (fun _ hQ => hQ w (Same.refl _ _ _)) (fun _ hQ => ?_)
  refine cond_q (fun p : Int × Int => ∀ w', Same [] w.heap.size w w' → R (.tuple #[.int .u64 p.1, .int .i64 p.2]) w') hQ (fun hlo hQ => ?_) (fun _ hQ => ?_)
  · refine num_conv.step7 _ _ _ _ ?_
    unfold num_conv.V7
    refine cond_q (fun p : Int × Int => ∀ w', Same [] w.heap.size w w' → R (.tuple #[.int .u64 p.1, .int .i64 p.2]) w') hQ (fun _ hQ => hQ w (Same.refl _ _ _)) (fun hhi hQ => ?_)
    obtain ⟨q, a1, a2, a3⟩ := tr7_in s (lt_of_not hhi) (gt_or_eq hlo)
    refine ⟨_, _, run_convert_float_int w T_float64 T_int64 .f64 .i64 s _ (by kernel_rfl) (by kernel_rfl) (ftoi (k := .f64) a1 (by rw [m1]; omega) (by rw [m2]; omega)), ?_⟩
    exact hQ w (Same.refl _ _ _)
  · refine num_conv.step7 _ _ _ _ ?_
    unfold num_conv.V7
    exact cond_true' rfl (hQ w (Same.refl _ _ _))

def tr8 (s : Nat) : Int × Int :=
  cond (Ieee.double.order s s != some .eq) (0, 41) (cond (Ieee.double.order s 13830554455654793216 == some .gt) (cond (!(Ieee.double.order s 4895412794951729152 == some .lt)) (0, 40) (cond (Ieee.double.order s 4890909195324358656 == some .gt || Ieee.double.order s 4890909195324358656 == some .eq) (bOr .u64 (W64 (cutV Ieee.double ((Ieee.double.sub s 4890909195324358656).getD 0))) 9223372036854775808, 0) (W64 (cutV Ieee.double s), 0))) (0, 40))
theorem tr8_in (s : Nat) (h1 : Ieee.double.order s 4890909195324358656 = some .lt) (h2 : Ieee.double.order s 13830554455654793216 = some .gt) : ∃ q : Int, (Ieee.double.read s).toInt .zero = some q ∧ -1 < q ∧ q < 9223372036854775808 := by
  obtain ⟨q, a1, a2, a3⟩ := trunc_in Ieee.double s 4890909195324358656 13830554455654793216 4503599627370496 4503599627370496 11 (-52) 9223372036854775808 1 1074 1085 1022 (by decide) (by decide) (by decide) (by decide) (by decide) (by decide +kernel) (by decide +kernel) (by decide) (by decide) h1 h2
  exact ⟨q, a1, a2, a3⟩
theorem tr8_top (s : Nat) (h1 : Ieee.double.order s 4895412794951729152 = some .lt) (h2 : Ieee.double.order s 4890909195324358656 = some .gt ∨ Ieee.double.order s 4890909195324358656 = some .eq) : ∃ r q, Ieee.double.sub s 4890909195324358656 = some r ∧ (Ieee.double.read r).toInt .zero = some q ∧ 0 ≤ q ∧ q < 9223372036854775808 := by
  obtain ⟨r, q, a1, a2, a3, a4⟩ := sub63 Ieee.double s 4890909195324358656 4895412794951729152 11 2047 (by decide) (by decide) (by decide) (by decide) (by decide) (by decide) (by decide) (by decide) h2 h1
  refine ⟨r, q, a1, a2, a3, ?_⟩
  have e : (Ieee.double.binade : Int) * 2 ^ (11 : Int).toNat = 9223372036854775808 := by decide
  rw [← e]; exact a4
theorem tr8_walk {R : Value → World → Prop} (s : Nat) (w : World) (hQ : (fun p : Int × Int => ∀ w', Same [] w.heap.size w w' → R (.tuple #[.int .u64 p.1, .int .i64 p.2]) w') (tr8 s)) :
    cond (Ieee.double.order s s != some .eq) (R (.tuple #[(.int .u64 0), (.int .i64 41)]) w)
      (cond (Ieee.double.order s 13830554455654793216 == some .gt) (num_conv.L8 s (!(Ieee.double.order s 4895412794951729152 == some .lt)) R w) (num_conv.L8 s true R w)) := by
  have m1 : IntKind.min .i64 = -9223372036854775808 := by decide
  have m2 : IntKind.max .i64 = 9223372036854775807 := by decide
  have e : ∀ a b, Ieee.Format.order (FloatKind.format .f64) a b = Ieee.double.order a b := fun a b => rfl
  unfold tr8 at hQ
  refine cond_q (fun p : Int × Int => ∀ w', Same [] w.heap.size w w' → R (.tuple #[.int .u64 p.1, .int .i64 p.2]) w') hQ (fun _ hQ => hQ w (Same.refl _ _ _)) (fun _ hQ => ?_)
  refine cond_q (fun p : Int × Int => ∀ w', Same [] w.heap.size w w' → R (.tuple #[.int .u64 p.1, .int .i64 p.2]) w') hQ (fun hlo hQ => ?_) (fun _ hQ => ?_)
  · refine num_conv.step8 _ _ _ _ ?_
    unfold num_conv.V8
    refine cond_q (fun p : Int × Int => ∀ w', Same [] w.heap.size w w' → R (.tuple #[.int .u64 p.1, .int .i64 p.2]) w') hQ (fun _ hQ => hQ w (Same.refl _ _ _)) (fun hhi hQ => ?_)
    simp only [e]
    refine cond_q (fun p : Int × Int => ∀ w', Same [] w.heap.size w w' → R (.tuple #[.int .u64 p.1, .int .i64 p.2]) w') hQ (fun h63 hQ => ?_) (fun h63 hQ => ?_)
    · obtain ⟨r, q, a0, a1, a2, a3⟩ := tr8_top s (lt_of_not hhi) (gt_or_eq h63)
      refine ⟨_, _, guarded_run _ _ _ _ .f64 _ _ r w a0, ?_⟩
      refine ⟨_, _, run_convert_float_int w T_float64 T_int64 .f64 .i64 r _ (by kernel_rfl) (by kernel_rfl) (ftoi (k := .f64) a1 (by rw [m1]; omega) (by rw [m2]; omega)), ?_⟩
      rw [a0] at hQ
      exact hQ w (Same.refl _ _ _)
    · have hlt : Ieee.double.order s 4890909195324358656 = some .lt := by
        have hh := lt_of_not hhi
        have hnn := order_not_nan Ieee.double s 4895412794951729152 .lt hh
        cases ho : Ieee.double.order s 4890909195324358656 with
        | none =>
          exfalso
          unfold Ieee.Format.order at ho
          have hc : Ieee.double.read 4890909195324358656 = .number false 4503599627370496 11 := by decide
          rw [hc] at ho
          cases hx : Ieee.double.read s with
          | nan a b => rw [hx] at hnn; simp [Ieee.Datum.isNaN] at hnn
          | infinity a => rw [hx] at ho; simp [Ieee.Datum.order] at ho
          | number a b c => rw [hx] at ho; simp [Ieee.Datum.order] at ho
        | some o => cases o with
          | lt => rfl
          | eq => rw [ho] at h63; simp at h63
          | gt => rw [ho] at h63; simp at h63
      obtain ⟨q, a1, a2, a3⟩ := tr8_in s hlt (gt_of hlo)
      refine ⟨_, _, run_convert_float_int w T_float64 T_int64 .f64 .i64 s _ (by kernel_rfl) (by kernel_rfl) (ftoi (k := .f64) a1 (by rw [m1]; omega) (by rw [m2]; omega)), ?_⟩
      exact hQ w (Same.refl _ _ _)
  · refine num_conv.step8 _ _ _ _ ?_
    unfold num_conv.V8
    exact cond_true' rfl (hQ w (Same.refl _ _ _))

end Go.Proofs.Qxb6500317aGreat.U
