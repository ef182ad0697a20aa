/-
  KeepsPlain: no numbers, keys, zeros, infinities; promote and demote.
-/
import Derived.Test.Qxb6500320aPlA
set_option linter.unusedSimpArgs false
set_option linter.unusedVariables false
set_option maxRecDepth 100000
namespace Go.Proofs.Qxb6500320a
open Go Go.Vc

theorem sum_nan (d e : Ieee.Datum) (h : d.isNaN = true ∨ e.isNaN = true) : d.sum e = none := by
  cases d with
  | nan s t => cases e <;> rfl
  | infinity s => cases e with
    | nan t u => rfl
    | infinity t => rcases h with h | h <;> cases h
    | number t n j => rcases h with h | h <;> cases h
  | number s m i => cases e with
    | nan t u => rfl
    | infinity t => rcases h with h | h <;> cases h
    | number t n j => rcases h with h | h <;> cases h
theorem product_nan (d e : Ieee.Datum) (h : d.isNaN = true ∨ e.isNaN = true) : d.product e = none := by
  cases d with
  | nan s t => cases e <;> rfl
  | infinity s => cases e with
    | nan t u => rfl
    | infinity t => rcases h with h | h <;> cases h
    | number t n j => rcases h with h | h <;> cases h
  | number s m i => cases e with
    | nan t u => rfl
    | infinity t => rcases h with h | h <;> cases h
    | number t n j => rcases h with h | h <;> cases h
theorem quotient_nan (D : Nat) (d e : Ieee.Datum) (h : d.isNaN = true ∨ e.isNaN = true) : d.quotient D e = none := by
  cases d with
  | nan s t => cases e <;> rfl
  | infinity s => cases e with
    | nan t u => rfl
    | infinity t => rcases h with h | h <;> cases h
    | number t n j => rcases h with h | h <;> cases h
  | number s m i => cases e with
    | nan t u => rfl
    | infinity t => rcases h with h | h <;> cases h
    | number t n j => rcases h with h | h <;> cases h
theorem opp_nan (d : Ieee.Datum) : d.opposite.isNaN = d.isNaN := by cases d <;> rfl

/-! ### 32 bits -/
theorem nanbin32 (x y : Nat) (h : 2139095040 < x % 2147483648 ∨ 2139095040 < y % 2147483648) : fl32 146 x y = 2143289344 ∧ fl32 147 x y = 2143289344 ∧ fl32 148 x y = 2143289344 ∧ fl32 149 x y = 2143289344 := by
  have hn : (Ieee.single.read x).isNaN = true ∨ (Ieee.single.read y).isNaN = true := by
    rcases h with h | h
    · left; rw [nan32]; exact decide_eq_true h
    · right; rw [nan32]; exact decide_eq_true h
  refine ⟨?_, ?_, ?_, ?_⟩
  · show ((ar32 (Ieee.single.add x y) : Nat) : Int) = _
    unfold Ieee.Format.add; rw [sum_nan _ _ hn]; rfl
  · show ((ar32 (Ieee.single.sub x y) : Nat) : Int) = _
    unfold Ieee.Format.sub; rw [sum_nan _ _ (by rw [opp_nan]; exact hn)]; rfl
  · show ((ar32 (Ieee.single.mul x y) : Nat) : Int) = _
    unfold Ieee.Format.mul; rw [product_nan _ _ hn]; rfl
  · have e : fl32 149 x y = cond (Ieee.single.order y 0 == some .eq) (cond (Ieee.single.order x x != some .eq) 2143289344 (cond (Ieee.single.order x 0 == some .eq) 2143289344 (bOr .u32 2139095040 (bAnd .u32 (bXor .u32 x y) 2147483648)))) ((ar32 (Ieee.single.div x y) : Nat) : Int) := rfl
    have hd : Ieee.single.div x y = none := by unfold Ieee.Format.div; rw [quotient_nan _ _ _ hn]; rfl
    rw [e, hd]
    refine cond_all (P := fun z : Int => z = 2143289344) (fun hz => ?_) (fun _ => rfl)
    have hx : 2139095040 < x % 2147483648 := by
      rcases h with h | h
      · exact h
      · rw [order32_nan y 0 (.inl h)] at hz; cases hz
    rw [self32, decide_eq_true hx]; rfl

theorem nanun32 (x : Nat) (h : 2139095040 < x % 2147483648) : fl32 141 x 0 = 2143289344 ∧ fl32 142 x 0 = 2143289344 ∧ fl32 143 x 0 = 2143289344 ∧ fl32 144 x 0 = 2143289344 ∧ fl32 145 x 0 = 2143289344 := by
  have hcn : cn32 x = 2143289344 := by unfold cn32; rw [nan32, decide_eq_true h]; rfl
  have hcut : cut32 x = x := by unfold cut32; rw [order32_nan x _ (.inl h)]; rfl
  have hnear : near32 x = x := by unfold near32; rw [order32_nan x _ (.inl h)]; rfl
  refine ⟨?_, ?_, ?_, ?_, ?_⟩
  · show ((ceil32 x : Nat) : Int) = _
    unfold ceil32; rw [hcut, order32_nan x x (.inl h), hcn]; rfl
  · show ((floor32 x : Nat) : Int) = _
    unfold floor32; rw [hcut, order32_nan x x (.inl h), hcn]; rfl
  · show ((cn32 (cut32 x) : Nat) : Int) = _
    rw [hcut, hcn]; rfl
  · show ((cn32 (near32 x) : Nat) : Int) = _
    rw [hnear, hcn]; rfl
  · show ((rt32 x : Nat) : Int) = _
    have hnn := nan32 x
    rw [decide_eq_true h] at hnn
    have e : floatToFloatBits .f32 x .f64 = none := by
      unfold floatToFloatBits
      rw [if_neg (by decide)]
      have : FloatKind.decode .f32 x = Ieee.single.read x := rfl
      rw [this]
      cases hd : Ieee.single.read x with
      | nan s t => rfl
      | infinity s => rw [hd] at hnn; cases hnn
      | number s m i => rw [hd] at hnn; cases hnn
    unfold rt32; rw [e]; rfl
theorem nanre32 (x : Nat) (hx : x < 4294967296) (h : 2139095040 < x % 2147483648) : (ap 187 x 0).1 = 9221120237041090560 := by
  rw [ap_promote x hx, back_nan x h]; rfl

theorem KeptNaN32_spec (x y : Nat) (hx : x < 4294967296) (hy : y < 4294967296) (w : World) : Runs Try.prog numlaw_KeptNaN.id #[fmt32.val, .int .i64 187, .int .u64 9221120237041090560, .int .u64 x, .int .u64 y] w fun v w' => v = .bool true ∧ Same [] w.heap.size w w' := by
  refine numlaw_KeptNaN.enter 139 146 91 2147483648 2139095040 2143289344 187 9221120237041090560 x y _ _ ?_
  unfold numlaw_KeptNaN.V
  refine letB_intro fun b hb => letW_intro fun w0 hw0 => ?_
  have f0 : FmtAt w0 b fmt32 := by rw [hw0, hb]; exact FmtAt.new w fmt32 T_numlaw_Fmt
  have T0 : Same [] w.heap.size w w0 := by rw [hw0]; exact (Same.refl _ _ _).alloc (Nat.le_refl _) _
  clear hw0 hb
  have hY : U64 (y : Int) := u64_nat (by omega)
  have c0 : fmt32.un = 139 := rfl
  have c1 : fmt32.bin = 146 := rfl
  have c3 : fmt32.sign = 2147483648 := rfl
  have c4 : fmt32.inf = 2139095040 := rfl
  have c5 : fmt32.canon = 2143289344 := rfl
  refine ⟨_, f0.c3, _, f0.c4, _, f0.c3, _, f0.c4, ?_⟩
  rw [c3, c4, andnot32 x hx, andnot32 y hy]
  generalize hX : decide (((x % 2147483648 : Nat) : Int) > 2139095040) = X
  generalize hYb : decide (((y % 2147483648 : Nat) : Int) > 2139095040) = Y
  have hX' : X = true → 2139095040 < x % 2147483648 := fun h => by rw [h] at hX; have := of_decide_eq_true hX; omega
  have hY' : Y = true → 2139095040 < y % 2147483648 := fun h => by rw [h] at hYb; have := of_decide_eq_true hYb; omega
  clear hX hYb
  have l6 : ∀ w', Same [] w.heap.size w w' → numlaw_KeptNaN.L6 187 9221120237041090560 x X (fun v w' => v = .bool true ∧ Same [] w.heap.size w w') w' := by
    intro w1 T1
    refine numlaw_KeptNaN.step6 _ _ _ _ _ _ ?_
    unfold numlaw_KeptNaN.V6
    cases hXc : X with
    | false => exact cond_true' rfl ⟨rfl, T1⟩
    | true =>
      refine cond_false' rfl ((apL_spec _ _ _ u64_0 w1).mono ?_)
      rintro v w2 ⟨rfl, S2⟩
      refine ⟨_, rfl, ?_, T1.trans (S2.mono T1.size (by simp))⟩
      rw [nanre32 x hx (hX' hXc)]; rfl
  have l4 : ∀ (f n : Nat) (w' : World), n + f = 7 → 2 ≤ n → FmtAt w' b fmt32 → Same [] w.heap.size w w' → numlaw_KeptNaN.L4 187 9221120237041090560 x b X n (fun v w' => v = .bool true ∧ Same [] w.heap.size w w') w' := by
    intro f
    induction f with
    | zero =>
      intro n w1 hn h2 f1 T1
      refine numlaw_KeptNaN.step4 _ _ _ _ _ _ _ _ ?_
      unfold numlaw_KeptNaN.V4
      exact cond_false' (decide_eq_false (by omega)) (l6 w1 T1)
    | succ f ih =>
      intro n w1 hn h2 f1 T1
      refine numlaw_KeptNaN.step4 _ _ _ _ _ _ _ _ ?_
      unfold numlaw_KeptNaN.V4
      refine cond_true' (decide_eq_true (by omega)) ?_
      cases hXc : X with
      | false => have := l6 w1 T1; rw [hXc] at this; exact this
      | true =>
        refine cond_true' rfl ?_
        refine numlaw_KeptNaN.step5 _ _ _ _ _ _ _ _ ?_
        unfold numlaw_KeptNaN.V5
        refine ⟨_, f1.c0, (apL_spec _ _ _ u64_0 w1).mono ?_⟩
        rintro v w2 ⟨rfl, S2⟩
        have f2 := f1.keep S2
        have T2 := T1.trans (S2.mono T1.size (by simp))
        refine ⟨_, rfl, _, f2.c5, ?_⟩
        obtain ⟨q2, q3, q4, q5, q6⟩ := nanun32 x (hX' hXc)
        have hv : (ap (IntKind.wrap .i64 (fmt32.un + (n : Int))) x 0).1 = 2143289344 := by
          have ez : ((0 : Nat) : Int) = 0 := rfl
          have hc : n = 2 ∨ n = 3 ∨ n = 4 ∨ n = 5 ∨ n = 6 := by omega
          rcases hc with rfl | rfl | rfl | rfl | rfl
          · show (ap 141 x 0).1 = _
            have := apf32 141 x 0 hx (by decide) (by decide) (by decide)
            rw [ez] at this; rw [this, q2]
          · show (ap 142 x 0).1 = _
            have := apf32 142 x 0 hx (by decide) (by decide) (by decide)
            rw [ez] at this; rw [this, q3]
          · show (ap 143 x 0).1 = _
            have := apf32 143 x 0 hx (by decide) (by decide) (by decide)
            rw [ez] at this; rw [this, q4]
          · show (ap 144 x 0).1 = _
            have := apf32 144 x 0 hx (by decide) (by decide) (by decide)
            rw [ez] at this; rw [this, q5]
          · show (ap 145 x 0).1 = _
            have := apf32 145 x 0 hx (by decide) (by decide) (by decide)
            rw [ez] at this; rw [this, q6]
        rw [hv, c5]
        refine cond_false' rfl ?_
        have e : IntKind.wrap .i64 ((n : Int) + 1) = ((n + 1 : Nat) : Int) := by rw [wrap_i64 (by omega) (by omega)]; omega
        rw [e]
        have := ih (n + 1) w2 (by omega) (by omega) f2 T2
        rw [hXc] at this; exact this
  have l3 : ∀ (w' : World), FmtAt w' b fmt32 → Same [] w.heap.size w w' → numlaw_KeptNaN.L3 187 9221120237041090560 x b X (fun v w' => v = .bool true ∧ Same [] w.heap.size w w') w' := by
    intro w1 f1 T1
    refine numlaw_KeptNaN.step3 _ _ _ _ _ _ _ ?_
    unfold numlaw_KeptNaN.V3
    exact l4 5 2 w1 (by omega) (by omega) f1 T1
  have l1 : ∀ (f n : Nat) (w' : World), n + f = 4 → FmtAt w' b fmt32 → Same [] w.heap.size w w' → numlaw_KeptNaN.L1 187 9221120237041090560 x y b X Y n (fun v w' => v = .bool true ∧ Same [] w.heap.size w w') w' := by
    intro f
    induction f with
    | zero =>
      intro n w1 hn f1 T1
      refine numlaw_KeptNaN.step1 _ _ _ _ _ _ _ _ _ _ ?_
      unfold numlaw_KeptNaN.V1
      exact cond_false' (decide_eq_false (by omega)) (l3 w1 f1 T1)
    | succ f ih =>
      intro n w1 hn f1 T1
      have l2 : (2139095040 < x % 2147483648 ∨ 2139095040 < y % 2147483648) → numlaw_KeptNaN.L2 187 9221120237041090560 x y b X Y n (fun v w' => v = .bool true ∧ Same [] w.heap.size w w') w1 := by
        intro hnn
        refine numlaw_KeptNaN.step2 _ _ _ _ _ _ _ _ _ _ ?_
        unfold numlaw_KeptNaN.V2
        refine ⟨_, f1.c1, (apL_spec _ _ _ hY w1).mono ?_⟩
        rintro v w2 ⟨rfl, S2⟩
        have f2 := f1.keep S2
        have T2 := T1.trans (S2.mono T1.size (by simp))
        refine ⟨_, rfl, _, f2.c5, ?_⟩
        obtain ⟨q0, q1, q2, q3⟩ := nanbin32 x y hnn
        have hv : (ap (IntKind.wrap .i64 (fmt32.bin + (n : Int))) x y).1 = 2143289344 := by
          have hc : n = 0 ∨ n = 1 ∨ n = 2 ∨ n = 3 := by omega
          rcases hc with rfl | rfl | rfl | rfl
          · show (ap 146 x y).1 = _
            rw [apf32 146 x y hx hy (by decide) (by decide), q0]
          · show (ap 147 x y).1 = _
            rw [apf32 147 x y hx hy (by decide) (by decide), q1]
          · show (ap 148 x y).1 = _
            rw [apf32 148 x y hx hy (by decide) (by decide), q2]
          · show (ap 149 x y).1 = _
            rw [apf32 149 x y hx hy (by decide) (by decide), q3]
        rw [hv, c5]
        refine cond_false' rfl ?_
        have e : IntKind.wrap .i64 ((n : Int) + 1) = ((n + 1 : Nat) : Int) := by rw [wrap_i64 (by omega) (by omega)]; omega
        rw [e]
        exact ih (n + 1) w2 (by omega) f2 T2
      refine numlaw_KeptNaN.step1 _ _ _ _ _ _ _ _ _ _ ?_
      unfold numlaw_KeptNaN.V1
      refine cond_true' (decide_eq_true (by omega)) ?_
      refine cond_intro (fun h => l2 (.inl (hX' h))) (fun _ => cond_intro (fun h => l2 (.inr (hY' h))) (fun _ => l3 w1 f1 T1))
  exact l1 4 0 w0 (by omega) f0 T0

theorem Key32_spec (x : Nat) (hx : x < 4294967296) (w : World) : Runs Try.prog numlaw_Key.id #[fmt32.val, .int .u64 x] w fun v w' => v = .int .u64 (2147483648 + key Ieee.single x) ∧ Same [] w.heap.size w w' := by
  refine numlaw_Key.enter 139 146 91 2147483648 2139095040 2143289344 x _ _ ?_
  unfold numlaw_Key.V
  refine letB_intro fun b hb => letW_intro fun w0 hw0 => ?_
  have f0 : FmtAt w0 b fmt32 := by rw [hw0, hb]; exact FmtAt.new w fmt32 T_numlaw_Fmt
  have T0 : Same [] w.heap.size w w0 := by rw [hw0]; exact (Same.refl _ _ _).alloc (Nat.le_refl _) _
  clear hw0 hb
  have c3 : fmt32.sign = 2147483648 := rfl
  refine ⟨_, f0.c3, ?_⟩
  have e1 : bAnd .u64 (x : Int) 2147483648 = ((x &&& 2147483648 : Nat) : Int) := bAnd64_n x 2147483648 (by omega) (by decide)
  have e2 : x &&& 2147483648 = 2147483648 * (x / 2147483648 % 2) := and_pow x 31
  rw [c3, e1, e2]
  by_cases h : 2147483648 ≤ x
  · have e3 : x / 2147483648 % 2 = 1 := by omega
    rw [e3]
    refine cond_true' (by decide) ⟨_, f0.c3, _, f0.c3, ?_, T0⟩
    rw [c3, andnot32 x hx, key32_neg x hx h, wrap_u64 (by omega) (by omega)]
    congr 1
  · have e3 : x / 2147483648 % 2 = 0 := by omega
    rw [e3]
    refine cond_false' (by decide) ⟨_, f0.c3, ?_, T0⟩
    rw [c3, key32_pos x hx h, wrap_u64 (by omega) (by omega)]
    congr 1
    omega

theorem KeptKey32_spec (x y : Nat) (hx : x < 4294967296) (hy : y < 4294967296) (w : World) : Runs Try.prog numlaw_KeptKey.id #[fmt32.val, .int .u64 x, .int .u64 y] w fun v w' => v = .bool true ∧ Same [] w.heap.size w w' := by
  refine numlaw_KeptKey.enter 139 146 91 2147483648 2139095040 2143289344 x y _ _ ?_
  unfold numlaw_KeptKey.V
  refine letB_intro fun b hb => letW_intro fun w0 hw0 => ?_
  have f0 : FmtAt w0 b fmt32 := by rw [hw0, hb]; exact FmtAt.new w fmt32 T_numlaw_Fmt
  have T0 : Same [] w.heap.size w w0 := by rw [hw0]; exact (Same.refl _ _ _).alloc (Nat.le_refl _) _
  clear hw0 hb
  have hY : U64 (y : Int) := u64_nat (by omega)
  have c1 : fmt32.bin = 146 := rfl
  have c2 : fmt32.rel = 91 := rfl
  have c3 : fmt32.sign = 2147483648 := rfl
  have c4 : fmt32.inf = 2139095040 := rfl
  refine ⟨_, f0.c3, _, f0.c4, ?_⟩
  rw [c3, c4, andnot32 x hx]
  refine cond_dec (fun _ => ⟨rfl, T0⟩) (fun hxn => ⟨_, f0.c3, _, f0.c4, ?_⟩)
  rw [c3, c4, andnot32 y hy]
  refine cond_dec (fun _ => ⟨rfl, T0⟩) (fun hyn => ?_)
  refine numlaw_KeptKey.step1 _ _ _ _ _ ?_
  unfold numlaw_KeptKey.V1
  refine ⟨_, _, _, _, _, _, f0.c0, f0.c1, f0.c2, f0.c3, f0.c4, f0.c5, (Key32_spec x hx w0).mono ?_⟩
  rintro v w1 ⟨rfl, S1⟩
  have f1 := f0.keep S1
  have T1 := T0.trans (S1.mono T0.size (by simp))
  refine ⟨_, rfl, _, _, _, _, _, _, f1.c0, f1.c1, f1.c2, f1.c3, f1.c4, f1.c5, (Key32_spec y hy w1).mono ?_⟩
  rintro v w2 ⟨rfl, S2⟩
  have f2 := f1.keep S2
  have T2 := T1.trans (S2.mono T1.size (by simp))
  refine ⟨_, rfl, _, f2.c2, (apL_spec _ _ _ hY w2).mono ?_⟩
  rintro v w3 ⟨rfl, S3⟩
  have f3 := f2.keep S3
  have T3 := T2.trans (S3.mono T2.size (by simp))
  refine ⟨_, rfl, _, f3.c2, (apL_spec _ _ _ hY w3).mono ?_⟩
  rintro v w4 ⟨rfl, S4⟩
  have f4 := f3.keep S4
  have T4 := T3.trans (S4.mono T3.size (by simp))
  refine ⟨_, rfl, _, f4.c1, (apL_spec _ _ _ hY w4).mono ?_⟩
  rintro v w5 ⟨rfl, S5⟩
  have f5 := f4.keep S5
  have T5 := T4.trans (S5.mono T4.size (by simp))
  refine ⟨_, rfl, _, f5.c1, (apL_spec _ _ _ hY w5).mono ?_⟩
  rintro v w6 ⟨rfl, S6⟩
  have T6 := T5.trans (S6.mono T5.size (by simp))
  refine ⟨_, rfl, ?_⟩
  have r2 : IntKind.wrap .i64 (91 + 2) = 93 := by decide
  have d4 : IntKind.wrap .i64 (146 + 4) = 150 := by decide
  have d5 : IntKind.wrap .i64 (146 + 5) = 151 := by decide
  have H := ord32 x y hx hy
  have ho := order32 x y (by omega) (by omega)
  obtain ⟨g0, _, g2, _, _, _⟩ := rel32_facts x y hx hy _ ho
  have a4 := apf32 150 x y hx hy (by decide) (by decide)
  have a5 := apf32 151 x y hx hy (by decide) (by decide)
  rw [c1, c2, r2, d4, d5, g0, g2, a4, a5, beq_eq, beq_lt]
  clear r2 d4 d5 g0 g2 a4 a5
  rw [ho] at H
  rcases Int.lt_trichotomy (key Ieee.single x) (key Ieee.single y) with h | h | h
  · rw [Int.compare_eq_lt.2 h] at H
    obtain ⟨_, _, h3, h4, _⟩ := H
    rw [h3, h4, decide_eq_true h, decide_eq_false (show ¬ key Ieee.single x = key Ieee.single y by omega)]
    exact cond_true' (decide_eq_true (by omega)) (cond_true' rfl (cond_true' rfl (cond_true' (by simp) ⟨by simp, T6⟩)))
  · rw [Int.compare_eq_eq.2 h] at H
    obtain ⟨_, _, h3, h4, _⟩ := H
    rw [h3, h4, decide_eq_false (show ¬ key Ieee.single x < key Ieee.single y by omega), decide_eq_true h, bOr64_n x y (by omega) (by omega), bAnd64_n x y (by omega) (by omega)]
    exact cond_false' (decide_eq_false (by omega)) (cond_false' (decide_eq_false (by omega)) (cond_true' rfl (cond_true' rfl (cond_true' (by simp) ⟨by simp, T6⟩))))
  · rw [Int.compare_eq_gt.2 h] at H
    obtain ⟨_, _, h3, h4, _, _⟩ := H
    rw [h3, h4, decide_eq_false (show ¬ key Ieee.single x < key Ieee.single y by omega), decide_eq_false (show ¬ key Ieee.single x = key Ieee.single y by omega)]
    exact cond_false' (decide_eq_false (by omega)) (cond_true' (decide_eq_true (by omega)) (cond_true' rfl (cond_true' rfl (cond_true' (by simp) ⟨by simp, T6⟩))))

/-! zeros and infinities -/
theorem sgx32 (x y : Nat) (hx : x < 4294967296) (hy : y < 4294967296) : bAnd .u64 (bXor .u64 (x : Int) (y : Int)) 2147483648 = (((x ^^^ y) &&& 2147483648 : Nat) : Int) ∧ bAnd .u32 (bXor .u32 (x : Int) (y : Int)) 2147483648 = (((x ^^^ y) &&& 2147483648 : Nat) : Int) ∧
    (x ^^^ y) &&& 2147483648 = (if (decide (2147483648 ≤ x) ^^ decide (2147483648 ≤ y)) = true then 2147483648 else 0) := by
  have hxy : x ^^^ y < 4294967296 := Nat.xor_lt_two_pow (n := 32) hx hy
  have e64 : (2 : Nat) ^ IntKind.bits .u64 = 18446744073709551616 := by decide
  have e1 : bXor .u64 (x : Int) (y : Int) = ((x ^^^ y : Nat) : Int) := bXor_n .u64 rfl x y (by omega) (by omega)
  have e2 : bXor .u32 (x : Int) (y : Int) = ((x ^^^ y : Nat) : Int) := bXor_n .u32 rfl x y hx hy
  have e3 : bAnd .u64 ((x ^^^ y : Nat) : Int) 2147483648 = (((x ^^^ y) &&& 2147483648 : Nat) : Int) := bAnd64_n _ 2147483648 (by omega) (by decide)
  have e4 : bAnd .u32 ((x ^^^ y : Nat) : Int) 2147483648 = (((x ^^^ y) &&& 2147483648 : Nat) : Int) := bAnd32_n _ 2147483648 hxy (by decide)
  refine ⟨by rw [e1, e3], by rw [e2, e4], ?_⟩
  have e5 : (x ^^^ y) &&& 2147483648 = 2147483648 * ((x ^^^ y) / 2147483648 % 2) := and_pow _ 31
  have e6 : (x ^^^ y) / 2147483648 = (x / 2147483648) ^^^ (y / 2147483648) := Nat.xor_div_two_pow (n := 31)
  rw [e5, e6]
  have hcx : x / 2147483648 = if 2147483648 ≤ x then 1 else 0 := by split <;> omega
  have hcy : y / 2147483648 = if 2147483648 ≤ y then 1 else 0 := by split <;> omega
  rw [hcx, hcy]
  by_cases h1 : 2147483648 ≤ x <;> by_cases h2 : 2147483648 ≤ y <;> simp [h1, h2]

theorem inf_or32 (s : Bool) : 2139095040 ||| (if s = true then 2147483648 else 0) = Ieee.single.word s 2139095040 := by cases s <;> decide
theorem zero_or32 (s : Bool) : (if s = true then 2147483648 else 0) = Ieee.single.word s 0 := by cases s <;> decide
theorem cnword32 (s : Bool) (r : Nat) (h : r ≤ 2139095040) : cn32 (Ieee.single.word s r) = Ieee.single.word s r := by
  unfold cn32
  rw [nan32]
  have := rung_word Ieee.single s r (by rw [sw32]; omega)
  rw [rung32] at this
  rw [this, decide_eq_false (by omega)]; rfl
theorem word32_lt (s : Bool) (r : Nat) (h : r < 2147483648) : Ieee.single.word s r < 4294967296 := by
  unfold Ieee.Format.word; rw [sw32]; split <;> omega

theorem KeptZero32_spec (x y : Nat) (hx : x < 4294967296) (hy : y < 4294967296) (w : World) : Runs Try.prog numlaw_KeptZero.id #[fmt32.val, .int .u64 x, .int .u64 y] w fun v w' => v = .bool true ∧ Same [] w.heap.size w w' := by
  refine numlaw_KeptZero.enter 139 146 91 2147483648 2139095040 2143289344 x y _ _ ?_
  unfold numlaw_KeptZero.V
  refine letB_intro fun b hb => letW_intro fun w0 hw0 => ?_
  have f0 : FmtAt w0 b fmt32 := by rw [hw0, hb]; exact FmtAt.new w fmt32 T_numlaw_Fmt
  have T0 : Same [] w.heap.size w w0 := by rw [hw0]; exact (Same.refl _ _ _).alloc (Nat.le_refl _) _
  clear hw0 hb
  have hY : U64 (y : Int) := u64_nat (by omega)
  have c1 : fmt32.bin = 146 := rfl
  have c3 : fmt32.sign = 2147483648 := rfl
  have c4 : fmt32.inf = 2139095040 := rfl
  have c5 : fmt32.canon = 2143289344 := rfl
  refine ⟨_, f0.c3, ?_⟩
  rw [c3, andnot32 y hy]
  refine cond_intro (fun _ => ⟨rfl, T0⟩) (fun hz => ?_)
  have hy0 : y % 2147483648 = 0 := by have := bne_eq_false_iff_eq.1 hz; omega
  clear hz
  refine ⟨_, f0.c1, (apL_spec _ _ _ hY w0).mono ?_⟩
  rintro v w1 ⟨rfl, S1⟩
  have f1 := f0.keep S1
  have T1 := T0.trans (S1.mono T0.size (by simp))
  have d1 : IntKind.wrap .i64 (146 + 1) = 147 := by decide
  have d3 : IntKind.wrap .i64 (146 + 3) = 149 := by decide
  have hz : (Ieee.single.order y 0 == some .eq) = true := by
    rw [order32 y 0 (by omega) (by decide), beq_eq]
    apply decide_eq_true
    have k0 : key Ieee.single 0 = 0 := by decide
    rw [k0, key32 y hy]; split <;> omega
  have hq : (ap 149 x y).1 = cond (decide (2139095040 < x % 2147483648)) 2143289344 (cond (Ieee.single.order x 0 == some .eq) 2143289344 (bOr .u32 2139095040 (bAnd .u32 (bXor .u32 x y) 2147483648))) := by
    rw [apf32 149 x y hx hy (by decide) (by decide)]
    have e : fl32 149 x y = cond (Ieee.single.order y 0 == some .eq) (cond (Ieee.single.order x x != some .eq) 2143289344 (cond (Ieee.single.order x 0 == some .eq) 2143289344 (bOr .u32 2139095040 (bAnd .u32 (bXor .u32 x y) 2147483648)))) ((ar32 (Ieee.single.div x y) : Nat) : Int) := rfl
    rw [e, hz, cond_true, self32]
  refine ⟨_, rfl, _, f1.c3, _, f1.c4, ?_⟩
  rw [c1, d3, hq, c3, c4, andnot32 x hx]
  clear hq d3
  refine cond_dec (fun h => ⟨_, f1.c5, ?_, T1⟩) (fun h => ⟨_, f1.c3, ?_⟩)
  · rw [decide_eq_true (show 2139095040 < x % 2147483648 by omega), c5]; rfl
  · rw [decide_eq_false (show ¬ 2139095040 < x % 2147483648 by omega), cond_false, c3, andnot32 x hx]
    have hzx : (Ieee.single.order x 0 == some .eq) = decide (x % 2147483648 = 0) := by
      rw [order32 x 0 (by omega) (by decide), beq_eq]
      have k0 : key Ieee.single 0 = 0 := by decide
      rw [k0, key32 x hx, Bool.eq_iff_iff, decide_eq_true_iff, decide_eq_true_iff]; split <;> omega
    rw [hzx]
    refine cond_intro (fun hnz => ⟨_, f1.c4, _, f1.c3, ?_, T1⟩) (fun hnz => ?_)
    · have hnz' : ¬ x % 2147483648 = 0 := by have := bne_iff_ne.1 hnz; omega
      obtain ⟨s1, s2, s3⟩ := sgx32 x y hx hy
      rw [decide_eq_false hnz', cond_false, c3, c4, s1, s2]
      have hle : (x ^^^ y) &&& 2147483648 ≤ 2147483648 := Nat.and_le_right
      have o1 : bOr .u32 2139095040 (((x ^^^ y) &&& 2147483648 : Nat) : Int) = ((2139095040 ||| ((x ^^^ y) &&& 2147483648) : Nat) : Int) := bOr32_n 2139095040 _ (by decide) (by omega)
      have o2 : bOr .u64 2139095040 (((x ^^^ y) &&& 2147483648 : Nat) : Int) = ((2139095040 ||| ((x ^^^ y) &&& 2147483648) : Nat) : Int) := bOr64_n 2139095040 _ (by decide) (by omega)
      rw [o1, o2]; simp
    · have hx0 : x % 2147483648 = 0 := by have := bne_eq_false_iff_eq.1 hnz; omega
      refine ⟨_, f1.c1, (apL_spec _ _ _ hY w1).mono ?_⟩
      rintro v w2 ⟨rfl, S2⟩
      have f2 := f1.keep S2
      have T2 := T1.trans (S2.mono T1.size (by simp))
      refine ⟨_, rfl, _, f2.c1, (apL_spec _ _ _ hY w2).mono ?_⟩
      rintro v w3 ⟨rfl, S3⟩
      have f3 := f2.keep S3
      have T3 := T2.trans (S3.mono T2.size (by simp))
      refine ⟨_, rfl, ?_⟩
      rw [c1, d1, apf32 146 x y hx hy (by decide) (by decide), apf32 147 x y hx hy (by decide) (by decide), decide_eq_true hx0]
      clear d1 hzx hz
      have hcx : x = 0 ∨ x = 2147483648 := by omega
      have hcy : y = 0 ∨ y = 2147483648 := by omega
      rcases hcx with rfl | rfl <;> rcases hcy with rfl | rfl
      · exact cond_true' (by decide +kernel) ⟨_, f3.c3, cond_true' (by decide +kernel) ⟨_, f3.c5, rfl, T3⟩⟩
      · exact cond_true' (by decide +kernel) ⟨_, f3.c3, cond_true' (by decide +kernel) ⟨_, f3.c5, rfl, T3⟩⟩
      · exact cond_true' (by decide +kernel) ⟨_, f3.c3, cond_true' (by decide +kernel) ⟨_, f3.c5, rfl, T3⟩⟩
      · exact cond_true' (by decide +kernel) ⟨_, f3.c3, cond_true' (by decide +kernel) ⟨_, f3.c5, rfl, T3⟩⟩

/-! ### 64 bits -/
theorem nanbin64 (x y : Nat) (h : 9218868437227405312 < x % 9223372036854775808 ∨ 9218868437227405312 < y % 9223372036854775808) : fl64 160 x y = 9221120237041090560 ∧ fl64 161 x y = 9221120237041090560 ∧ fl64 162 x y = 9221120237041090560 ∧ fl64 163 x y = 9221120237041090560 := by
  have hn : (Ieee.double.read x).isNaN = true ∨ (Ieee.double.read y).isNaN = true := by
    rcases h with h | h
    · left; rw [nan64]; exact decide_eq_true h
    · right; rw [nan64]; exact decide_eq_true h
  refine ⟨?_, ?_, ?_, ?_⟩
  · show ((ar64 (Ieee.double.add x y) : Nat) : Int) = _
    unfold Ieee.Format.add; rw [sum_nan _ _ hn]; rfl
  · show ((ar64 (Ieee.double.sub x y) : Nat) : Int) = _
    unfold Ieee.Format.sub; rw [sum_nan _ _ (by rw [opp_nan]; exact hn)]; rfl
  · show ((ar64 (Ieee.double.mul x y) : Nat) : Int) = _
    unfold Ieee.Format.mul; rw [product_nan _ _ hn]; rfl
  · have e : fl64 163 x y = cond (Ieee.double.order y 0 == some .eq) (cond (Ieee.double.order x x != some .eq) 9221120237041090560 (cond (Ieee.double.order x 0 == some .eq) 9221120237041090560 (bOr .u64 9218868437227405312 (bAnd .u64 (bXor .u64 x y) 9223372036854775808)))) ((ar64 (Ieee.double.div x y) : Nat) : Int) := rfl
    have hd : Ieee.double.div x y = none := by unfold Ieee.Format.div; rw [quotient_nan _ _ _ hn]; rfl
    rw [e, hd]
    refine cond_all (P := fun z : Int => z = 9221120237041090560) (fun hz => ?_) (fun _ => rfl)
    have hx : 9218868437227405312 < x % 9223372036854775808 := by
      rcases h with h | h
      · exact h
      · rw [order64_nan y 0 (.inl h)] at hz; cases hz
    rw [self64, decide_eq_true hx]; rfl

theorem nanun64 (x : Nat) (h : 9218868437227405312 < x % 9223372036854775808) : fl64 155 x 0 = 9221120237041090560 ∧ fl64 156 x 0 = 9221120237041090560 ∧ fl64 157 x 0 = 9221120237041090560 ∧ fl64 158 x 0 = 9221120237041090560 ∧ fl64 159 x 0 = 9221120237041090560 := by
  have hcn : cn64 x = 9221120237041090560 := by unfold cn64; rw [nan64, decide_eq_true h]; rfl
  have hcut : cut64 x = x := by unfold cut64; rw [order64_nan x _ (.inl h)]; rfl
  have hnear : near64 x = x := by unfold near64; rw [order64_nan x _ (.inl h)]; rfl
  refine ⟨?_, ?_, ?_, ?_, ?_⟩
  · show ((ceil64 x : Nat) : Int) = _
    unfold ceil64; rw [hcut, order64_nan x x (.inl h), hcn]; rfl
  · show ((floor64 x : Nat) : Int) = _
    unfold floor64; rw [hcut, order64_nan x x (.inl h), hcn]; rfl
  · show ((cn64 (cut64 x) : Nat) : Int) = _
    rw [hcut, hcn]; rfl
  · show ((cn64 (near64 x) : Nat) : Int) = _
    rw [hnear, hcn]; rfl
  · show ((ar64 (Ieee.double.sqrt x) : Nat) : Int) = _
    rw [sqrt_none Ieee.double x (.inl (by rw [nan64]; exact decide_eq_true h))]; rfl
theorem nanre64 (x : Nat) (hx : x < 18446744073709551616) (h : 9218868437227405312 < x % 9223372036854775808) : (ap 182 x 0).1 = 2143289344 := by
  rw [ap_demote]
  unfold dem
  rw [order64_nan x _ (.inl h), order64_nan x _ (.inl h), nan_demote (by rw [nan64]; exact decide_eq_true h)]
  decide

theorem KeptNaN64_spec (x y : Nat) (hx : x < 18446744073709551616) (hy : y < 18446744073709551616) (w : World) : Runs Try.prog numlaw_KeptNaN.id #[fmt64.val, .int .i64 182, .int .u64 2143289344, .int .u64 x, .int .u64 y] w fun v w' => v = .bool true ∧ Same [] w.heap.size w w' := by
  refine numlaw_KeptNaN.enter 153 160 97 9223372036854775808 9218868437227405312 9221120237041090560 182 2143289344 x y _ _ ?_
  unfold numlaw_KeptNaN.V
  refine letB_intro fun b hb => letW_intro fun w0 hw0 => ?_
  have f0 : FmtAt w0 b fmt64 := by rw [hw0, hb]; exact FmtAt.new w fmt64 T_numlaw_Fmt
  have T0 : Same [] w.heap.size w w0 := by rw [hw0]; exact (Same.refl _ _ _).alloc (Nat.le_refl _) _
  clear hw0 hb
  have hY : U64 (y : Int) := u64_nat (by omega)
  have c0 : fmt64.un = 153 := rfl
  have c1 : fmt64.bin = 160 := rfl
  have c3 : fmt64.sign = 9223372036854775808 := rfl
  have c4 : fmt64.inf = 9218868437227405312 := rfl
  have c5 : fmt64.canon = 9221120237041090560 := rfl
  refine ⟨_, f0.c3, _, f0.c4, _, f0.c3, _, f0.c4, ?_⟩
  rw [c3, c4, andnot64 x hx, andnot64 y hy]
  generalize hX : decide (((x % 9223372036854775808 : Nat) : Int) > 9218868437227405312) = X
  generalize hYb : decide (((y % 9223372036854775808 : Nat) : Int) > 9218868437227405312) = Y
  have hX' : X = true → 9218868437227405312 < x % 9223372036854775808 := fun h => by rw [h] at hX; have := of_decide_eq_true hX; omega
  have hY' : Y = true → 9218868437227405312 < y % 9223372036854775808 := fun h => by rw [h] at hYb; have := of_decide_eq_true hYb; omega
  clear hX hYb
  have l6 : ∀ w', Same [] w.heap.size w w' → numlaw_KeptNaN.L6 182 2143289344 x X (fun v w' => v = .bool true ∧ Same [] w.heap.size w w') w' := by
    intro w1 T1
    refine numlaw_KeptNaN.step6 _ _ _ _ _ _ ?_
    unfold numlaw_KeptNaN.V6
    cases hXc : X with
    | false => exact cond_true' rfl ⟨rfl, T1⟩
    | true =>
      refine cond_false' rfl ((apL_spec _ _ _ u64_0 w1).mono ?_)
      rintro v w2 ⟨rfl, S2⟩
      refine ⟨_, rfl, ?_, T1.trans (S2.mono T1.size (by simp))⟩
      rw [nanre64 x hx (hX' hXc)]; rfl
  have l4 : ∀ (f n : Nat) (w' : World), n + f = 7 → 2 ≤ n → FmtAt w' b fmt64 → Same [] w.heap.size w w' → numlaw_KeptNaN.L4 182 2143289344 x b X n (fun v w' => v = .bool true ∧ Same [] w.heap.size w w') w' := by
    intro f
    induction f with
    | zero =>
      intro n w1 hn h2 f1 T1
      refine numlaw_KeptNaN.step4 _ _ _ _ _ _ _ _ ?_
      unfold numlaw_KeptNaN.V4
      exact cond_false' (decide_eq_false (by omega)) (l6 w1 T1)
    | succ f ih =>
      intro n w1 hn h2 f1 T1
      refine numlaw_KeptNaN.step4 _ _ _ _ _ _ _ _ ?_
      unfold numlaw_KeptNaN.V4
      refine cond_true' (decide_eq_true (by omega)) ?_
      cases hXc : X with
      | false => have := l6 w1 T1; rw [hXc] at this; exact this
      | true =>
        refine cond_true' rfl ?_
        refine numlaw_KeptNaN.step5 _ _ _ _ _ _ _ _ ?_
        unfold numlaw_KeptNaN.V5
        refine ⟨_, f1.c0, (apL_spec _ _ _ u64_0 w1).mono ?_⟩
        rintro v w2 ⟨rfl, S2⟩
        have f2 := f1.keep S2
        have T2 := T1.trans (S2.mono T1.size (by simp))
        refine ⟨_, rfl, _, f2.c5, ?_⟩
        obtain ⟨q2, q3, q4, q5, q6⟩ := nanun64 x (hX' hXc)
        have hv : (ap (IntKind.wrap .i64 (fmt64.un + (n : Int))) x 0).1 = 9221120237041090560 := by
          have ez : ((0 : Nat) : Int) = 0 := rfl
          have hc : n = 2 ∨ n = 3 ∨ n = 4 ∨ n = 5 ∨ n = 6 := by omega
          rcases hc with rfl | rfl | rfl | rfl | rfl
          · show (ap 155 x 0).1 = _
            have := apf64 155 x 0 hx (by decide) (by decide) (by decide)
            rw [ez] at this; rw [this, q2]
          · show (ap 156 x 0).1 = _
            have := apf64 156 x 0 hx (by decide) (by decide) (by decide)
            rw [ez] at this; rw [this, q3]
          · show (ap 157 x 0).1 = _
            have := apf64 157 x 0 hx (by decide) (by decide) (by decide)
            rw [ez] at this; rw [this, q4]
          · show (ap 158 x 0).1 = _
            have := apf64 158 x 0 hx (by decide) (by decide) (by decide)
            rw [ez] at this; rw [this, q5]
          · show (ap 159 x 0).1 = _
            have := apf64 159 x 0 hx (by decide) (by decide) (by decide)
            rw [ez] at this; rw [this, q6]
        rw [hv, c5]
        refine cond_false' rfl ?_
        have e : IntKind.wrap .i64 ((n : Int) + 1) = ((n + 1 : Nat) : Int) := by rw [wrap_i64 (by omega) (by omega)]; omega
        rw [e]
        have := ih (n + 1) w2 (by omega) (by omega) f2 T2
        rw [hXc] at this; exact this
  have l3 : ∀ (w' : World), FmtAt w' b fmt64 → Same [] w.heap.size w w' → numlaw_KeptNaN.L3 182 2143289344 x b X (fun v w' => v = .bool true ∧ Same [] w.heap.size w w') w' := by
    intro w1 f1 T1
    refine numlaw_KeptNaN.step3 _ _ _ _ _ _ _ ?_
    unfold numlaw_KeptNaN.V3
    exact l4 5 2 w1 (by omega) (by omega) f1 T1
  have l1 : ∀ (f n : Nat) (w' : World), n + f = 4 → FmtAt w' b fmt64 → Same [] w.heap.size w w' → numlaw_KeptNaN.L1 182 2143289344 x y b X Y n (fun v w' => v = .bool true ∧ Same [] w.heap.size w w') w' := by
    intro f
    induction f with
    | zero =>
      intro n w1 hn f1 T1
      refine numlaw_KeptNaN.step1 _ _ _ _ _ _ _ _ _ _ ?_
      unfold numlaw_KeptNaN.V1
      exact cond_false' (decide_eq_false (by omega)) (l3 w1 f1 T1)
    | succ f ih =>
      intro n w1 hn f1 T1
      have l2 : (9218868437227405312 < x % 9223372036854775808 ∨ 9218868437227405312 < y % 9223372036854775808) → numlaw_KeptNaN.L2 182 2143289344 x y b X Y n (fun v w' => v = .bool true ∧ Same [] w.heap.size w w') w1 := by
        intro hnn
        refine numlaw_KeptNaN.step2 _ _ _ _ _ _ _ _ _ _ ?_
        unfold numlaw_KeptNaN.V2
        refine ⟨_, f1.c1, (apL_spec _ _ _ hY w1).mono ?_⟩
        rintro v w2 ⟨rfl, S2⟩
        have f2 := f1.keep S2
        have T2 := T1.trans (S2.mono T1.size (by simp))
        refine ⟨_, rfl, _, f2.c5, ?_⟩
        obtain ⟨q0, q1, q2, q3⟩ := nanbin64 x y hnn
        have hv : (ap (IntKind.wrap .i64 (fmt64.bin + (n : Int))) x y).1 = 9221120237041090560 := by
          have hc : n = 0 ∨ n = 1 ∨ n = 2 ∨ n = 3 := by omega
          rcases hc with rfl | rfl | rfl | rfl
          · show (ap 160 x y).1 = _
            rw [apf64 160 x y hx hy (by decide) (by decide), q0]
          · show (ap 161 x y).1 = _
            rw [apf64 161 x y hx hy (by decide) (by decide), q1]
          · show (ap 162 x y).1 = _
            rw [apf64 162 x y hx hy (by decide) (by decide), q2]
          · show (ap 163 x y).1 = _
            rw [apf64 163 x y hx hy (by decide) (by decide), q3]
        rw [hv, c5]
        refine cond_false' rfl ?_
        have e : IntKind.wrap .i64 ((n : Int) + 1) = ((n + 1 : Nat) : Int) := by rw [wrap_i64 (by omega) (by omega)]; omega
        rw [e]
        exact ih (n + 1) w2 (by omega) f2 T2
      refine numlaw_KeptNaN.step1 _ _ _ _ _ _ _ _ _ _ ?_
      unfold numlaw_KeptNaN.V1
      refine cond_true' (decide_eq_true (by omega)) ?_
      refine cond_intro (fun h => l2 (.inl (hX' h))) (fun _ => cond_intro (fun h => l2 (.inr (hY' h))) (fun _ => l3 w1 f1 T1))
  exact l1 4 0 w0 (by omega) f0 T0

theorem Key64_spec (x : Nat) (hx : x < 18446744073709551616) (w : World) : Runs Try.prog numlaw_Key.id #[fmt64.val, .int .u64 x] w fun v w' => v = .int .u64 (9223372036854775808 + key Ieee.double x) ∧ Same [] w.heap.size w w' := by
  refine numlaw_Key.enter 153 160 97 9223372036854775808 9218868437227405312 9221120237041090560 x _ _ ?_
  unfold numlaw_Key.V
  refine letB_intro fun b hb => letW_intro fun w0 hw0 => ?_
  have f0 : FmtAt w0 b fmt64 := by rw [hw0, hb]; exact FmtAt.new w fmt64 T_numlaw_Fmt
  have T0 : Same [] w.heap.size w w0 := by rw [hw0]; exact (Same.refl _ _ _).alloc (Nat.le_refl _) _
  clear hw0 hb
  have c3 : fmt64.sign = 9223372036854775808 := rfl
  refine ⟨_, f0.c3, ?_⟩
  have e1 : bAnd .u64 (x : Int) 9223372036854775808 = ((x &&& 9223372036854775808 : Nat) : Int) := bAnd64_n x 9223372036854775808 (by omega) (by decide)
  have e2 : x &&& 9223372036854775808 = 9223372036854775808 * (x / 9223372036854775808 % 2) := and_pow x 63
  rw [c3, e1, e2]
  by_cases h : 9223372036854775808 ≤ x
  · have e3 : x / 9223372036854775808 % 2 = 1 := by omega
    rw [e3]
    refine cond_true' (by decide) ⟨_, f0.c3, _, f0.c3, ?_, T0⟩
    rw [c3, andnot64 x hx, key64_neg x hx h, wrap_u64 (by omega) (by omega)]
    congr 1
  · have e3 : x / 9223372036854775808 % 2 = 0 := by omega
    rw [e3]
    refine cond_false' (by decide) ⟨_, f0.c3, ?_, T0⟩
    rw [c3, key64_pos x hx h, wrap_u64 (by omega) (by omega)]
    congr 1
    omega

theorem KeptKey64_spec (x y : Nat) (hx : x < 18446744073709551616) (hy : y < 18446744073709551616) (w : World) : Runs Try.prog numlaw_KeptKey.id #[fmt64.val, .int .u64 x, .int .u64 y] w fun v w' => v = .bool true ∧ Same [] w.heap.size w w' := by
  refine numlaw_KeptKey.enter 153 160 97 9223372036854775808 9218868437227405312 9221120237041090560 x y _ _ ?_
  unfold numlaw_KeptKey.V
  refine letB_intro fun b hb => letW_intro fun w0 hw0 => ?_
  have f0 : FmtAt w0 b fmt64 := by rw [hw0, hb]; exact FmtAt.new w fmt64 T_numlaw_Fmt
  have T0 : Same [] w.heap.size w w0 := by rw [hw0]; exact (Same.refl _ _ _).alloc (Nat.le_refl _) _
  clear hw0 hb
  have hY : U64 (y : Int) := u64_nat (by omega)
  have c1 : fmt64.bin = 160 := rfl
  have c2 : fmt64.rel = 97 := rfl
  have c3 : fmt64.sign = 9223372036854775808 := rfl
  have c4 : fmt64.inf = 9218868437227405312 := rfl
  refine ⟨_, f0.c3, _, f0.c4, ?_⟩
  rw [c3, c4, andnot64 x hx]
  refine cond_dec (fun _ => ⟨rfl, T0⟩) (fun hxn => ⟨_, f0.c3, _, f0.c4, ?_⟩)
  rw [c3, c4, andnot64 y hy]
  refine cond_dec (fun _ => ⟨rfl, T0⟩) (fun hyn => ?_)
  refine numlaw_KeptKey.step1 _ _ _ _ _ ?_
  unfold numlaw_KeptKey.V1
  refine ⟨_, _, _, _, _, _, f0.c0, f0.c1, f0.c2, f0.c3, f0.c4, f0.c5, (Key64_spec x hx w0).mono ?_⟩
  rintro v w1 ⟨rfl, S1⟩
  have f1 := f0.keep S1
  have T1 := T0.trans (S1.mono T0.size (by simp))
  refine ⟨_, rfl, _, _, _, _, _, _, f1.c0, f1.c1, f1.c2, f1.c3, f1.c4, f1.c5, (Key64_spec y hy w1).mono ?_⟩
  rintro v w2 ⟨rfl, S2⟩
  have f2 := f1.keep S2
  have T2 := T1.trans (S2.mono T1.size (by simp))
  refine ⟨_, rfl, _, f2.c2, (apL_spec _ _ _ hY w2).mono ?_⟩
  rintro v w3 ⟨rfl, S3⟩
  have f3 := f2.keep S3
  have T3 := T2.trans (S3.mono T2.size (by simp))
  refine ⟨_, rfl, _, f3.c2, (apL_spec _ _ _ hY w3).mono ?_⟩
  rintro v w4 ⟨rfl, S4⟩
  have f4 := f3.keep S4
  have T4 := T3.trans (S4.mono T3.size (by simp))
  refine ⟨_, rfl, _, f4.c1, (apL_spec _ _ _ hY w4).mono ?_⟩
  rintro v w5 ⟨rfl, S5⟩
  have f5 := f4.keep S5
  have T5 := T4.trans (S5.mono T4.size (by simp))
  refine ⟨_, rfl, _, f5.c1, (apL_spec _ _ _ hY w5).mono ?_⟩
  rintro v w6 ⟨rfl, S6⟩
  have T6 := T5.trans (S6.mono T5.size (by simp))
  refine ⟨_, rfl, ?_⟩
  have r2 : IntKind.wrap .i64 (97 + 2) = 99 := by decide
  have d4 : IntKind.wrap .i64 (160 + 4) = 164 := by decide
  have d5 : IntKind.wrap .i64 (160 + 5) = 165 := by decide
  have H := ord64 x y hx hy
  have ho := order64 x y (by omega) (by omega)
  obtain ⟨g0, _, g2, _, _, _⟩ := rel64_facts x y hx hy _ ho
  have a4 := apf64 164 x y hx hy (by decide) (by decide)
  have a5 := apf64 165 x y hx hy (by decide) (by decide)
  rw [c1, c2, r2, d4, d5, g0, g2, a4, a5, beq_eq, beq_lt]
  clear r2 d4 d5 g0 g2 a4 a5
  rw [ho] at H
  rcases Int.lt_trichotomy (key Ieee.double x) (key Ieee.double y) with h | h | h
  · rw [Int.compare_eq_lt.2 h] at H
    obtain ⟨_, _, h3, h4, _⟩ := H
    rw [h3, h4, decide_eq_true h, decide_eq_false (show ¬ key Ieee.double x = key Ieee.double y by omega)]
    exact cond_true' (decide_eq_true (by omega)) (cond_true' rfl (cond_true' rfl (cond_true' (by simp) ⟨by simp, T6⟩)))
  · rw [Int.compare_eq_eq.2 h] at H
    obtain ⟨_, _, h3, h4, _⟩ := H
    rw [h3, h4, decide_eq_false (show ¬ key Ieee.double x < key Ieee.double y by omega), decide_eq_true h, bOr64_n x y (by omega) (by omega), bAnd64_n x y (by omega) (by omega)]
    exact cond_false' (decide_eq_false (by omega)) (cond_false' (decide_eq_false (by omega)) (cond_true' rfl (cond_true' rfl (cond_true' (by simp) ⟨by simp, T6⟩))))
  · rw [Int.compare_eq_gt.2 h] at H
    obtain ⟨_, _, h3, h4, _, _⟩ := H
    rw [h3, h4, decide_eq_false (show ¬ key Ieee.double x < key Ieee.double y by omega), decide_eq_false (show ¬ key Ieee.double x = key Ieee.double y by omega)]
    exact cond_false' (decide_eq_false (by omega)) (cond_true' (decide_eq_true (by omega)) (cond_true' rfl (cond_true' rfl (cond_true' (by simp) ⟨by simp, T6⟩))))

/-! zeros and infinities -/
theorem sgx64 (x y : Nat) (hx : x < 18446744073709551616) (hy : y < 18446744073709551616) : bAnd .u64 (bXor .u64 (x : Int) (y : Int)) 9223372036854775808 = (((x ^^^ y) &&& 9223372036854775808 : Nat) : Int) ∧ bAnd .u64 (bXor .u64 (x : Int) (y : Int)) 9223372036854775808 = (((x ^^^ y) &&& 9223372036854775808 : Nat) : Int) ∧
    (x ^^^ y) &&& 9223372036854775808 = (if (decide (9223372036854775808 ≤ x) ^^ decide (9223372036854775808 ≤ y)) = true then 9223372036854775808 else 0) := by
  have hxy : x ^^^ y < 18446744073709551616 := Nat.xor_lt_two_pow (n := 64) hx hy
  have e64 : (2 : Nat) ^ IntKind.bits .u64 = 18446744073709551616 := by decide
  have e1 : bXor .u64 (x : Int) (y : Int) = ((x ^^^ y : Nat) : Int) := bXor_n .u64 rfl x y (by omega) (by omega)
  have e2 : bXor .u64 (x : Int) (y : Int) = ((x ^^^ y : Nat) : Int) := bXor_n .u64 rfl x y hx hy
  have e3 : bAnd .u64 ((x ^^^ y : Nat) : Int) 9223372036854775808 = (((x ^^^ y) &&& 9223372036854775808 : Nat) : Int) := bAnd64_n _ 9223372036854775808 (by omega) (by decide)
  have e4 : bAnd .u64 ((x ^^^ y : Nat) : Int) 9223372036854775808 = (((x ^^^ y) &&& 9223372036854775808 : Nat) : Int) := bAnd64_n _ 9223372036854775808 hxy (by decide)
  refine ⟨by rw [e1, e3], by rw [e2, e4], ?_⟩
  have e5 : (x ^^^ y) &&& 9223372036854775808 = 9223372036854775808 * ((x ^^^ y) / 9223372036854775808 % 2) := and_pow _ 63
  have e6 : (x ^^^ y) / 9223372036854775808 = (x / 9223372036854775808) ^^^ (y / 9223372036854775808) := Nat.xor_div_two_pow (n := 63)
  rw [e5, e6]
  have hcx : x / 9223372036854775808 = if 9223372036854775808 ≤ x then 1 else 0 := by split <;> omega
  have hcy : y / 9223372036854775808 = if 9223372036854775808 ≤ y then 1 else 0 := by split <;> omega
  rw [hcx, hcy]
  by_cases h1 : 9223372036854775808 ≤ x <;> by_cases h2 : 9223372036854775808 ≤ y <;> simp [h1, h2]

theorem inf_or64 (s : Bool) : 9218868437227405312 ||| (if s = true then 9223372036854775808 else 0) = Ieee.double.word s 9218868437227405312 := by cases s <;> decide
theorem zero_or64 (s : Bool) : (if s = true then 9223372036854775808 else 0) = Ieee.double.word s 0 := by cases s <;> decide
theorem cnword64 (s : Bool) (r : Nat) (h : r ≤ 9218868437227405312) : cn64 (Ieee.double.word s r) = Ieee.double.word s r := by
  unfold cn64
  rw [nan64]
  have := rung_word Ieee.double s r (by rw [sw64]; omega)
  rw [rung64] at this
  rw [this, decide_eq_false (by omega)]; rfl
theorem word64_lt (s : Bool) (r : Nat) (h : r < 9223372036854775808) : Ieee.double.word s r < 18446744073709551616 := by
  unfold Ieee.Format.word; rw [sw64]; split <;> omega

theorem KeptZero64_spec (x y : Nat) (hx : x < 18446744073709551616) (hy : y < 18446744073709551616) (w : World) : Runs Try.prog numlaw_KeptZero.id #[fmt64.val, .int .u64 x, .int .u64 y] w fun v w' => v = .bool true ∧ Same [] w.heap.size w w' := by
  refine numlaw_KeptZero.enter 153 160 97 9223372036854775808 9218868437227405312 9221120237041090560 x y _ _ ?_
  unfold numlaw_KeptZero.V
  refine letB_intro fun b hb => letW_intro fun w0 hw0 => ?_
  have f0 : FmtAt w0 b fmt64 := by rw [hw0, hb]; exact FmtAt.new w fmt64 T_numlaw_Fmt
  have T0 : Same [] w.heap.size w w0 := by rw [hw0]; exact (Same.refl _ _ _).alloc (Nat.le_refl _) _
  clear hw0 hb
  have hY : U64 (y : Int) := u64_nat (by omega)
  have c1 : fmt64.bin = 160 := rfl
  have c3 : fmt64.sign = 9223372036854775808 := rfl
  have c4 : fmt64.inf = 9218868437227405312 := rfl
  have c5 : fmt64.canon = 9221120237041090560 := rfl
  refine ⟨_, f0.c3, ?_⟩
  rw [c3, andnot64 y hy]
  refine cond_intro (fun _ => ⟨rfl, T0⟩) (fun hz => ?_)
  have hy0 : y % 9223372036854775808 = 0 := by have := bne_eq_false_iff_eq.1 hz; omega
  clear hz
  refine ⟨_, f0.c1, (apL_spec _ _ _ hY w0).mono ?_⟩
  rintro v w1 ⟨rfl, S1⟩
  have f1 := f0.keep S1
  have T1 := T0.trans (S1.mono T0.size (by simp))
  have d1 : IntKind.wrap .i64 (160 + 1) = 161 := by decide
  have d3 : IntKind.wrap .i64 (160 + 3) = 163 := by decide
  have hz : (Ieee.double.order y 0 == some .eq) = true := by
    rw [order64 y 0 (by omega) (by decide), beq_eq]
    apply decide_eq_true
    have k0 : key Ieee.double 0 = 0 := by decide
    rw [k0, key64 y hy]; split <;> omega
  have hq : (ap 163 x y).1 = cond (decide (9218868437227405312 < x % 9223372036854775808)) 9221120237041090560 (cond (Ieee.double.order x 0 == some .eq) 9221120237041090560 (bOr .u64 9218868437227405312 (bAnd .u64 (bXor .u64 x y) 9223372036854775808))) := by
    rw [apf64 163 x y hx hy (by decide) (by decide)]
    have e : fl64 163 x y = cond (Ieee.double.order y 0 == some .eq) (cond (Ieee.double.order x x != some .eq) 9221120237041090560 (cond (Ieee.double.order x 0 == some .eq) 9221120237041090560 (bOr .u64 9218868437227405312 (bAnd .u64 (bXor .u64 x y) 9223372036854775808)))) ((ar64 (Ieee.double.div x y) : Nat) : Int) := rfl
    rw [e, hz, cond_true, self64]
  refine ⟨_, rfl, _, f1.c3, _, f1.c4, ?_⟩
  rw [c1, d3, hq, c3, c4, andnot64 x hx]
  clear hq d3
  refine cond_dec (fun h => ⟨_, f1.c5, ?_, T1⟩) (fun h => ⟨_, f1.c3, ?_⟩)
  · rw [decide_eq_true (show 9218868437227405312 < x % 9223372036854775808 by omega), c5]; rfl
  · rw [decide_eq_false (show ¬ 9218868437227405312 < x % 9223372036854775808 by omega), cond_false, c3, andnot64 x hx]
    have hzx : (Ieee.double.order x 0 == some .eq) = decide (x % 9223372036854775808 = 0) := by
      rw [order64 x 0 (by omega) (by decide), beq_eq]
      have k0 : key Ieee.double 0 = 0 := by decide
      rw [k0, key64 x hx, Bool.eq_iff_iff, decide_eq_true_iff, decide_eq_true_iff]; split <;> omega
    rw [hzx]
    refine cond_intro (fun hnz => ⟨_, f1.c4, _, f1.c3, ?_, T1⟩) (fun hnz => ?_)
    · have hnz' : ¬ x % 9223372036854775808 = 0 := by have := bne_iff_ne.1 hnz; omega
      obtain ⟨s1, s2, s3⟩ := sgx64 x y hx hy
      rw [decide_eq_false hnz', cond_false, c3, c4]; simp
    · have hx0 : x % 9223372036854775808 = 0 := by have := bne_eq_false_iff_eq.1 hnz; omega
      refine ⟨_, f1.c1, (apL_spec _ _ _ hY w1).mono ?_⟩
      rintro v w2 ⟨rfl, S2⟩
      have f2 := f1.keep S2
      have T2 := T1.trans (S2.mono T1.size (by simp))
      refine ⟨_, rfl, _, f2.c1, (apL_spec _ _ _ hY w2).mono ?_⟩
      rintro v w3 ⟨rfl, S3⟩
      have f3 := f2.keep S3
      have T3 := T2.trans (S3.mono T2.size (by simp))
      refine ⟨_, rfl, ?_⟩
      rw [c1, d1, apf64 160 x y hx hy (by decide) (by decide), apf64 161 x y hx hy (by decide) (by decide), decide_eq_true hx0]
      clear d1 hzx hz
      have hcx : x = 0 ∨ x = 9223372036854775808 := by omega
      have hcy : y = 0 ∨ y = 9223372036854775808 := by omega
      rcases hcx with rfl | rfl <;> rcases hcy with rfl | rfl
      · exact cond_true' (by decide +kernel) ⟨_, f3.c3, cond_true' (by decide +kernel) ⟨_, f3.c5, rfl, T3⟩⟩
      · exact cond_true' (by decide +kernel) ⟨_, f3.c3, cond_true' (by decide +kernel) ⟨_, f3.c5, rfl, T3⟩⟩
      · exact cond_true' (by decide +kernel) ⟨_, f3.c3, cond_true' (by decide +kernel) ⟨_, f3.c5, rfl, T3⟩⟩
      · exact cond_true' (by decide +kernel) ⟨_, f3.c3, cond_true' (by decide +kernel) ⟨_, f3.c5, rfl, T3⟩⟩

end Go.Proofs.Qxb6500320a
