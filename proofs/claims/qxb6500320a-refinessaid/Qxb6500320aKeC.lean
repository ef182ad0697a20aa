/-
  KeepsEnds: the walk.
-/
import Derived.Test.Qxb6500320aKeB
set_option linter.unusedSimpArgs false
set_option linter.unusedVariables false
set_option maxRecDepth 100000
namespace Go.Proofs.Qxb6500320a
open Go Go.Vc

theorem KeptEnd1_walk (x : Nat) (hx : x < 4294967296) (b B0 : Nat) (w w1 : World) (f1 : FmtAt w1 b fmt32) (hB : B0 ≤ w.heap.size) (T1 : Same [] B0 w w1) : numlaw_KeptEnd.L1 168 x 1325400064 1325400064 178 false b (fun v w' => v = .bool true ∧ Same [] B0 w w') w1 := by
  have c0 : fmt32.un = 139 := rfl
  have c2 : fmt32.rel = 91 := rfl
  have c3 : fmt32.sign = 2147483648 := rfl
  have c4 : fmt32.inf = 2139095040 := rfl
  refine numlaw_KeptEnd.step1 _ _ _ _ _ _ _ _ _ ?_
  unfold numlaw_KeptEnd.V1
  refine (Apply_spec _ _ _ (by decide) (by decide) w1).mono ?_
  rintro v w2 ⟨rfl, S2⟩
  have f2 := f1.keep S2
  have T2 := T1.trans (S2.mono (Nat.le_trans hB (Nat.le_trans (Nat.le_refl _) (by have := T1.size; exact this))) (by simp))
  refine ⟨_, _, rfl, _, f2.c3, _, f2.c4, ?_⟩
  rw [c3, c4, andnot32 x hx, ap168_tr x hx]
  refine cond_dec (fun h => ?_) (fun h => ?_)
  · rw [tr1_nan x (by omega)]; exact ⟨rfl, T2⟩
  -- no NaN
  have hv : x % 2147483648 ≤ 2139095040 := by omega
  have L2 : ∀ inb : Bool, (inb = true ↔ in1 x) → numlaw_KeptEnd.L2 168 x 178 false b (tr1 x).1 (tr1 x).2 ((x % 2147483648 : Nat) : Int) inb (fun v w' => v = .bool true ∧ Same [] B0 w w') w2 := by
    intro inb hinb
    refine numlaw_KeptEnd.step2 _ _ _ _ _ _ _ _ _ _ _ ?_
    unfold numlaw_KeptEnd.V2
    cases inb with
    | false =>
      refine cond_true' rfl ?_
      rw [tr1_out x hx hv (fun h => by have := hinb.2 h; cases this)]
      exact ⟨rfl, T2⟩
    | true =>
      have hin := hinb.1 rfl
      obtain ⟨hfin, _, _, _⟩ := tr1_yes x hx hin
      obtain ⟨q0, q1, q2⟩ := tr1_cut x hx hin
      have hcv := cutV32 x hx hfin
      refine cond_false' rfl ?_
      refine cond_false' rfl ?_
      refine numlaw_KeptEnd.step3 _ _ _ _ _ _ _ _ _ _ ?_
      unfold numlaw_KeptEnd.V3
      refine ⟨_, _, _, _, _, _, f2.c0, f2.c1, f2.c2, f2.c3, f2.c4, f2.c5, (CutOf32_spec x hx hfin (tr1_place x hx hin) w2).mono ?_⟩
      rintro v w3 ⟨⟨ex, rfl⟩, hN, S3⟩
      have f3 := f2.keep S3
      have T3 := T2.trans (S3.mono (by have h1 := T1.size; have h2 := T2.size; omega) (by simp))
      refine ⟨_, _, _, rfl, ?_⟩
      -- the last clause
      have L6 : numlaw_KeptEnd.L6 x 178 b (tr1 x).1 (tr1 x).2 (fun v w' => v = .bool true ∧ Same [] B0 w w') w3 := by
        refine numlaw_KeptEnd.step6 _ _ _ _ _ _ _ ?_
        unfold numlaw_KeptEnd.V6
        rw [q2]
        refine (apL_spec _ _ _ u64_0 w3).mono ?_
        rintro v w4 ⟨rfl, S4⟩
        have f4 := f3.keep S4
        have T4 := T3.trans (S4.mono (by have h1 := T3.size; omega) (by simp))
        refine ⟨_, rfl, _, f4.c0, (apL_spec _ _ _ u64_0 w4).mono ?_⟩
        rintro v w5 ⟨rfl, S5⟩
        have f5 := f4.keep S5
        have T5 := T4.trans (S5.mono (by have h1 := T4.size; omega) (by simp))
        have n4 : IntKind.wrap .i64 (139 + 4) = 143 := by decide
        have e1 : (ap 143 x 0).1 = ((cn32 (cut32 x) : Nat) : Int) := by
          have := apf32 143 x 0 hx (by decide) (by decide) (by decide)
          have ez : ((0 : Nat) : Int) = 0 := rfl
          rw [ez] at this
          rw [this]; rfl
        have l1 := near_lt32 (cutV Ieee.single x)
        have l2 := cn32_lt _ (cut32_lt x hx)
        rw [c0, n4, e1]
        show ∃ x7 : Int, _
        refine ⟨_, rfl, cond_true' rfl ⟨_, f5.c2, ?_⟩⟩
        have e2 : (ap 178 (cutV Ieee.single x % 4294967296) 0).1 = ((FloatKind.nearest .f32 (cutV Ieee.single x) : Nat) : Int) := ap168_back _ q0 q1
        rw [c2, e2]
        refine (apL_spec _ _ _ (u64_nat (by omega)) w5).mono ?_
        rintro v w6 ⟨rfl, S6⟩
        refine ⟨_, rfl, ?_, T5.trans (S6.mono (by have h1 := T5.size; omega) (by simp))⟩
        rw [(rel32_facts _ _ l1 l2 _ (backeq32 x hx hfin)).1]; rfl
      have L5 : numlaw_KeptEnd.L5 x 178 b (tr1 x).1 (tr1 x).2 (cutV Ieee.single x % 4294967296) true (fun v w' => v = .bool true ∧ Same [] B0 w w') w3 := by
        refine numlaw_KeptEnd.step5 _ _ _ _ _ _ _ _ _ ?_
        unfold numlaw_KeptEnd.V5
        refine cond_false' rfl (cond_false' ?_ L6)
        rw [q2]; simp
      have L4 : ∀ z : Int, U64 z → z % 4294967296 = cutV Ieee.single x % 4294967296 → numlaw_KeptEnd.L4 168 x 178 b (tr1 x).1 (tr1 x).2 z true (fun v w' => v = .bool true ∧ Same [] B0 w w') w3 := by
        intro z hz he
        refine numlaw_KeptEnd.step4 _ _ _ _ _ _ _ _ _ _ ?_
        unfold numlaw_KeptEnd.V4
        refine cond_true' (by decide) ?_
        rw [andnot_high z hz, he]
        exact L5
      by_cases hs : 2147483648 ≤ x
      · rw [if_pos hs] at hcv
        refine cond_true' (by rw [bne_iff_ne]; omega) (L4 _ (wrap_u64_rng _) ?_)
        rw [wrap_u64_mod, hcv]; omega
      · rw [if_neg hs] at hcv
        refine cond_false' (by rw [bne_eq_false_iff_eq]; omega) (L4 _ (u64_nat hN) ?_)
        rw [hcv]
  by_cases hs : 2147483648 ≤ x
  · refine cond_true' (by rw [bne_iff_ne]; omega) (L2 _ ?_)
    unfold in1; rw [decide_eq_true_iff]; omega
  · refine cond_false' (by rw [bne_eq_false_iff_eq]; omega) (L2 _ ?_)
    unfold in1; rw [decide_eq_true_iff]; omega

theorem KeptEnd2_walk (x : Nat) (hx : x < 4294967296) (b B0 : Nat) (w w1 : World) (f1 : FmtAt w1 b fmt32) (hB : B0 ≤ w.heap.size) (T1 : Same [] B0 w w1) : numlaw_KeptEnd.L1 169 x 1333788672 1065353215 179 false b (fun v w' => v = .bool true ∧ Same [] B0 w w') w1 := by
  have c0 : fmt32.un = 139 := rfl
  have c2 : fmt32.rel = 91 := rfl
  have c3 : fmt32.sign = 2147483648 := rfl
  have c4 : fmt32.inf = 2139095040 := rfl
  refine numlaw_KeptEnd.step1 _ _ _ _ _ _ _ _ _ ?_
  unfold numlaw_KeptEnd.V1
  refine (Apply_spec _ _ _ (by decide) (by decide) w1).mono ?_
  rintro v w2 ⟨rfl, S2⟩
  have f2 := f1.keep S2
  have T2 := T1.trans (S2.mono (Nat.le_trans hB (Nat.le_trans (Nat.le_refl _) (by have := T1.size; exact this))) (by simp))
  refine ⟨_, _, rfl, _, f2.c3, _, f2.c4, ?_⟩
  rw [c3, c4, andnot32 x hx, ap169_tr x hx]
  refine cond_dec (fun h => ?_) (fun h => ?_)
  · rw [tr2_nan x (by omega)]; exact ⟨rfl, T2⟩
  -- no NaN
  have hv : x % 2147483648 ≤ 2139095040 := by omega
  have L2 : ∀ inb : Bool, (inb = true ↔ in2 x) → numlaw_KeptEnd.L2 169 x 179 false b (tr2 x).1 (tr2 x).2 ((x % 2147483648 : Nat) : Int) inb (fun v w' => v = .bool true ∧ Same [] B0 w w') w2 := by
    intro inb hinb
    refine numlaw_KeptEnd.step2 _ _ _ _ _ _ _ _ _ _ _ ?_
    unfold numlaw_KeptEnd.V2
    cases inb with
    | false =>
      refine cond_true' rfl ?_
      rw [tr2_out x hx hv (fun h => by have := hinb.2 h; cases this)]
      exact ⟨rfl, T2⟩
    | true =>
      have hin := hinb.1 rfl
      obtain ⟨hfin, _, _, _⟩ := tr2_yes x hx hin
      obtain ⟨q0, q1, q2⟩ := tr2_cut x hx hin
      have hcv := cutV32 x hx hfin
      refine cond_false' rfl ?_
      refine cond_false' rfl ?_
      refine numlaw_KeptEnd.step3 _ _ _ _ _ _ _ _ _ _ ?_
      unfold numlaw_KeptEnd.V3
      refine ⟨_, _, _, _, _, _, f2.c0, f2.c1, f2.c2, f2.c3, f2.c4, f2.c5, (CutOf32_spec x hx hfin (tr2_place x hx hin) w2).mono ?_⟩
      rintro v w3 ⟨⟨ex, rfl⟩, hN, S3⟩
      have f3 := f2.keep S3
      have T3 := T2.trans (S3.mono (by have h1 := T1.size; have h2 := T2.size; omega) (by simp))
      refine ⟨_, _, _, rfl, ?_⟩
      -- the last clause
      have L6 : numlaw_KeptEnd.L6 x 179 b (tr2 x).1 (tr2 x).2 (fun v w' => v = .bool true ∧ Same [] B0 w w') w3 := by
        refine numlaw_KeptEnd.step6 _ _ _ _ _ _ _ ?_
        unfold numlaw_KeptEnd.V6
        rw [q2]
        refine (apL_spec _ _ _ u64_0 w3).mono ?_
        rintro v w4 ⟨rfl, S4⟩
        have f4 := f3.keep S4
        have T4 := T3.trans (S4.mono (by have h1 := T3.size; omega) (by simp))
        refine ⟨_, rfl, _, f4.c0, (apL_spec _ _ _ u64_0 w4).mono ?_⟩
        rintro v w5 ⟨rfl, S5⟩
        have f5 := f4.keep S5
        have T5 := T4.trans (S5.mono (by have h1 := T4.size; omega) (by simp))
        have n4 : IntKind.wrap .i64 (139 + 4) = 143 := by decide
        have e1 : (ap 143 x 0).1 = ((cn32 (cut32 x) : Nat) : Int) := by
          have := apf32 143 x 0 hx (by decide) (by decide) (by decide)
          have ez : ((0 : Nat) : Int) = 0 := rfl
          rw [ez] at this
          rw [this]; rfl
        have l1 := near_lt32 (cutV Ieee.single x)
        have l2 := cn32_lt _ (cut32_lt x hx)
        rw [c0, n4, e1]
        show ∃ x7 : Int, _
        refine ⟨_, rfl, cond_true' rfl ⟨_, f5.c2, ?_⟩⟩
        have e2 : (ap 179 (cutV Ieee.single x % 4294967296) 0).1 = ((FloatKind.nearest .f32 (cutV Ieee.single x) : Nat) : Int) := ap169_back _ q0 q1
        rw [c2, e2]
        refine (apL_spec _ _ _ (u64_nat (by omega)) w5).mono ?_
        rintro v w6 ⟨rfl, S6⟩
        refine ⟨_, rfl, ?_, T5.trans (S6.mono (by have h1 := T5.size; omega) (by simp))⟩
        rw [(rel32_facts _ _ l1 l2 _ (backeq32 x hx hfin)).1]; rfl
      have L5 : numlaw_KeptEnd.L5 x 179 b (tr2 x).1 (tr2 x).2 (cutV Ieee.single x % 4294967296) true (fun v w' => v = .bool true ∧ Same [] B0 w w') w3 := by
        refine numlaw_KeptEnd.step5 _ _ _ _ _ _ _ _ _ ?_
        unfold numlaw_KeptEnd.V5
        refine cond_false' rfl (cond_false' ?_ L6)
        rw [q2]; simp
      have L4 : ∀ z : Int, U64 z → z % 4294967296 = cutV Ieee.single x % 4294967296 → numlaw_KeptEnd.L4 169 x 179 b (tr2 x).1 (tr2 x).2 z true (fun v w' => v = .bool true ∧ Same [] B0 w w') w3 := by
        intro z hz he
        refine numlaw_KeptEnd.step4 _ _ _ _ _ _ _ _ _ _ ?_
        unfold numlaw_KeptEnd.V4
        refine cond_true' (by decide) ?_
        rw [andnot_high z hz, he]
        exact L5
      by_cases hs : 2147483648 ≤ x
      · rw [if_pos hs] at hcv
        refine cond_true' (by rw [bne_iff_ne]; omega) (L4 _ (wrap_u64_rng _) ?_)
        rw [wrap_u64_mod, hcv]; omega
      · rw [if_neg hs] at hcv
        refine cond_false' (by rw [bne_eq_false_iff_eq]; omega) (L4 _ (u64_nat hN) ?_)
        rw [hcv]
  by_cases hs : 2147483648 ≤ x
  · refine cond_true' (by rw [bne_iff_ne]; omega) (L2 _ ?_)
    unfold in2; rw [decide_eq_true_iff]; omega
  · refine cond_false' (by rw [bne_eq_false_iff_eq]; omega) (L2 _ ?_)
    unfold in2; rw [decide_eq_true_iff]; omega

theorem KeptEnd3_walk (x : Nat) (hx : x < 18446744073709551616) (b B0 : Nat) (w w1 : World) (f1 : FmtAt w1 b fmt64) (hB : B0 ≤ w.heap.size) (T1 : Same [] B0 w w1) : numlaw_KeptEnd.L1 170 x 4746794007248502784 4746794007250599935 183 true b (fun v w' => v = .bool true ∧ Same [] B0 w w') w1 := by
  have c0 : fmt64.un = 153 := rfl
  have c2 : fmt64.rel = 97 := rfl
  have c3 : fmt64.sign = 9223372036854775808 := rfl
  have c4 : fmt64.inf = 9218868437227405312 := rfl
  refine numlaw_KeptEnd.step1 _ _ _ _ _ _ _ _ _ ?_
  unfold numlaw_KeptEnd.V1
  refine (Apply_spec _ _ _ (by decide) (by decide) w1).mono ?_
  rintro v w2 ⟨rfl, S2⟩
  have f2 := f1.keep S2
  have T2 := T1.trans (S2.mono (Nat.le_trans hB (Nat.le_trans (Nat.le_refl _) (by have := T1.size; exact this))) (by simp))
  refine ⟨_, _, rfl, _, f2.c3, _, f2.c4, ?_⟩
  rw [c3, c4, andnot64 x hx, ap170_tr x hx]
  refine cond_dec (fun h => ?_) (fun h => ?_)
  · rw [tr3_nan x (by omega)]; exact ⟨rfl, T2⟩
  -- no NaN
  have hv : x % 9223372036854775808 ≤ 9218868437227405312 := by omega
  have L2 : ∀ inb : Bool, (inb = true ↔ in3 x) → numlaw_KeptEnd.L2 170 x 183 true b (tr3 x).1 (tr3 x).2 ((x % 9223372036854775808 : Nat) : Int) inb (fun v w' => v = .bool true ∧ Same [] B0 w w') w2 := by
    intro inb hinb
    refine numlaw_KeptEnd.step2 _ _ _ _ _ _ _ _ _ _ _ ?_
    unfold numlaw_KeptEnd.V2
    cases inb with
    | false =>
      refine cond_true' rfl ?_
      rw [tr3_out x hx hv (fun h => by have := hinb.2 h; cases this)]
      exact ⟨rfl, T2⟩
    | true =>
      have hin := hinb.1 rfl
      obtain ⟨hfin, _, _, _⟩ := tr3_yes x hx hin
      obtain ⟨q0, q1, q2⟩ := tr3_cut x hx hin
      have hcv := cutV64 x hx hfin
      refine cond_false' rfl ?_
      refine cond_true' rfl ?_
      refine numlaw_KeptEnd.step3 _ _ _ _ _ _ _ _ _ _ ?_
      unfold numlaw_KeptEnd.V3
      refine ⟨_, _, _, _, _, _, f2.c0, f2.c1, f2.c2, f2.c3, f2.c4, f2.c5, (CutOf64_spec x hx hfin (tr3_place x hx hin) w2).mono ?_⟩
      rintro v w3 ⟨⟨ex, rfl⟩, hN, S3⟩
      have f3 := f2.keep S3
      have T3 := T2.trans (S3.mono (by have h1 := T1.size; have h2 := T2.size; omega) (by simp))
      refine ⟨_, _, _, rfl, ?_⟩
      -- the last clause
      have L6 : numlaw_KeptEnd.L6 x 183 b (tr3 x).1 (tr3 x).2 (fun v w' => v = .bool true ∧ Same [] B0 w w') w3 := by
        refine numlaw_KeptEnd.step6 _ _ _ _ _ _ _ ?_
        unfold numlaw_KeptEnd.V6
        rw [q2]
        refine (apL_spec _ _ _ u64_0 w3).mono ?_
        rintro v w4 ⟨rfl, S4⟩
        have f4 := f3.keep S4
        have T4 := T3.trans (S4.mono (by have h1 := T3.size; omega) (by simp))
        refine ⟨_, rfl, _, f4.c0, (apL_spec _ _ _ u64_0 w4).mono ?_⟩
        rintro v w5 ⟨rfl, S5⟩
        have f5 := f4.keep S5
        have T5 := T4.trans (S5.mono (by have h1 := T4.size; omega) (by simp))
        have n4 : IntKind.wrap .i64 (153 + 4) = 157 := by decide
        have e1 : (ap 157 x 0).1 = ((cn64 (cut64 x) : Nat) : Int) := by
          have := apf64 157 x 0 hx (by decide) (by decide) (by decide)
          have ez : ((0 : Nat) : Int) = 0 := rfl
          rw [ez] at this
          rw [this]; rfl
        have l1 := near_lt64 (cutV Ieee.double x)
        have l2 := cn64_lt _ (cut64_lt x hx)
        rw [c0, n4, e1]
        show ∃ x7 : Int, _
        refine ⟨_, rfl, cond_true' rfl ⟨_, f5.c2, ?_⟩⟩
        have e2 : (ap 183 (cutV Ieee.double x % 4294967296) 0).1 = ((FloatKind.nearest .f64 (cutV Ieee.double x) : Nat) : Int) := ap170_back _ q0 q1
        rw [c2, e2]
        refine (apL_spec _ _ _ (u64_nat (by omega)) w5).mono ?_
        rintro v w6 ⟨rfl, S6⟩
        refine ⟨_, rfl, ?_, T5.trans (S6.mono (by have h1 := T5.size; omega) (by simp))⟩
        rw [(rel64_facts _ _ l1 l2 _ (backeq64 x hx hfin)).1]; rfl
      have L5 : numlaw_KeptEnd.L5 x 183 b (tr3 x).1 (tr3 x).2 (cutV Ieee.double x % 4294967296) true (fun v w' => v = .bool true ∧ Same [] B0 w w') w3 := by
        refine numlaw_KeptEnd.step5 _ _ _ _ _ _ _ _ _ ?_
        unfold numlaw_KeptEnd.V5
        refine cond_false' rfl (cond_false' ?_ L6)
        rw [q2]; simp
      have L4 : ∀ z : Int, U64 z → z % 4294967296 = cutV Ieee.double x % 4294967296 → numlaw_KeptEnd.L4 170 x 183 b (tr3 x).1 (tr3 x).2 z true (fun v w' => v = .bool true ∧ Same [] B0 w w') w3 := by
        intro z hz he
        refine numlaw_KeptEnd.step4 _ _ _ _ _ _ _ _ _ _ ?_
        unfold numlaw_KeptEnd.V4
        refine cond_true' (by decide) ?_
        rw [andnot_high z hz, he]
        exact L5
      by_cases hs : 9223372036854775808 ≤ x
      · rw [if_pos hs] at hcv
        refine cond_true' (by rw [bne_iff_ne]; omega) (L4 _ (wrap_u64_rng _) ?_)
        rw [wrap_u64_mod, hcv]; omega
      · rw [if_neg hs] at hcv
        refine cond_false' (by rw [bne_eq_false_iff_eq]; omega) (L4 _ (u64_nat hN) ?_)
        rw [hcv]
  by_cases hs : 9223372036854775808 ≤ x
  · refine cond_true' (by rw [bne_iff_ne]; omega) (L2 _ ?_)
    unfold in3; rw [decide_eq_true_iff]; omega
  · refine cond_false' (by rw [bne_eq_false_iff_eq]; omega) (L2 _ ?_)
    unfold in3; rw [decide_eq_true_iff]; omega

theorem KeptEnd4_walk (x : Nat) (hx : x < 18446744073709551616) (b B0 : Nat) (w w1 : World) (f1 : FmtAt w1 b fmt64) (hB : B0 ≤ w.heap.size) (T1 : Same [] B0 w w1) : numlaw_KeptEnd.L1 171 x 4751297606875873280 4607182418800017407 184 true b (fun v w' => v = .bool true ∧ Same [] B0 w w') w1 := by
  have c0 : fmt64.un = 153 := rfl
  have c2 : fmt64.rel = 97 := rfl
  have c3 : fmt64.sign = 9223372036854775808 := rfl
  have c4 : fmt64.inf = 9218868437227405312 := rfl
  refine numlaw_KeptEnd.step1 _ _ _ _ _ _ _ _ _ ?_
  unfold numlaw_KeptEnd.V1
  refine (Apply_spec _ _ _ (by decide) (by decide) w1).mono ?_
  rintro v w2 ⟨rfl, S2⟩
  have f2 := f1.keep S2
  have T2 := T1.trans (S2.mono (Nat.le_trans hB (Nat.le_trans (Nat.le_refl _) (by have := T1.size; exact this))) (by simp))
  refine ⟨_, _, rfl, _, f2.c3, _, f2.c4, ?_⟩
  rw [c3, c4, andnot64 x hx, ap171_tr x hx]
  refine cond_dec (fun h => ?_) (fun h => ?_)
  · rw [tr4_nan x (by omega)]; exact ⟨rfl, T2⟩
  -- no NaN
  have hv : x % 9223372036854775808 ≤ 9218868437227405312 := by omega
  have L2 : ∀ inb : Bool, (inb = true ↔ in4 x) → numlaw_KeptEnd.L2 171 x 184 true b (tr4 x).1 (tr4 x).2 ((x % 9223372036854775808 : Nat) : Int) inb (fun v w' => v = .bool true ∧ Same [] B0 w w') w2 := by
    intro inb hinb
    refine numlaw_KeptEnd.step2 _ _ _ _ _ _ _ _ _ _ _ ?_
    unfold numlaw_KeptEnd.V2
    cases inb with
    | false =>
      refine cond_true' rfl ?_
      rw [tr4_out x hx hv (fun h => by have := hinb.2 h; cases this)]
      exact ⟨rfl, T2⟩
    | true =>
      have hin := hinb.1 rfl
      obtain ⟨hfin, _, _, _⟩ := tr4_yes x hx hin
      obtain ⟨q0, q1, q2⟩ := tr4_cut x hx hin
      have hcv := cutV64 x hx hfin
      refine cond_false' rfl ?_
      refine cond_true' rfl ?_
      refine numlaw_KeptEnd.step3 _ _ _ _ _ _ _ _ _ _ ?_
      unfold numlaw_KeptEnd.V3
      refine ⟨_, _, _, _, _, _, f2.c0, f2.c1, f2.c2, f2.c3, f2.c4, f2.c5, (CutOf64_spec x hx hfin (tr4_place x hx hin) w2).mono ?_⟩
      rintro v w3 ⟨⟨ex, rfl⟩, hN, S3⟩
      have f3 := f2.keep S3
      have T3 := T2.trans (S3.mono (by have h1 := T1.size; have h2 := T2.size; omega) (by simp))
      refine ⟨_, _, _, rfl, ?_⟩
      -- the last clause
      have L6 : numlaw_KeptEnd.L6 x 184 b (tr4 x).1 (tr4 x).2 (fun v w' => v = .bool true ∧ Same [] B0 w w') w3 := by
        refine numlaw_KeptEnd.step6 _ _ _ _ _ _ _ ?_
        unfold numlaw_KeptEnd.V6
        rw [q2]
        refine (apL_spec _ _ _ u64_0 w3).mono ?_
        rintro v w4 ⟨rfl, S4⟩
        have f4 := f3.keep S4
        have T4 := T3.trans (S4.mono (by have h1 := T3.size; omega) (by simp))
        refine ⟨_, rfl, _, f4.c0, (apL_spec _ _ _ u64_0 w4).mono ?_⟩
        rintro v w5 ⟨rfl, S5⟩
        have f5 := f4.keep S5
        have T5 := T4.trans (S5.mono (by have h1 := T4.size; omega) (by simp))
        have n4 : IntKind.wrap .i64 (153 + 4) = 157 := by decide
        have e1 : (ap 157 x 0).1 = ((cn64 (cut64 x) : Nat) : Int) := by
          have := apf64 157 x 0 hx (by decide) (by decide) (by decide)
          have ez : ((0 : Nat) : Int) = 0 := rfl
          rw [ez] at this
          rw [this]; rfl
        have l1 := near_lt64 (cutV Ieee.double x)
        have l2 := cn64_lt _ (cut64_lt x hx)
        rw [c0, n4, e1]
        show ∃ x7 : Int, _
        refine ⟨_, rfl, cond_true' rfl ⟨_, f5.c2, ?_⟩⟩
        have e2 : (ap 184 (cutV Ieee.double x % 4294967296) 0).1 = ((FloatKind.nearest .f64 (cutV Ieee.double x) : Nat) : Int) := ap171_back _ q0 q1
        rw [c2, e2]
        refine (apL_spec _ _ _ (u64_nat (by omega)) w5).mono ?_
        rintro v w6 ⟨rfl, S6⟩
        refine ⟨_, rfl, ?_, T5.trans (S6.mono (by have h1 := T5.size; omega) (by simp))⟩
        rw [(rel64_facts _ _ l1 l2 _ (backeq64 x hx hfin)).1]; rfl
      have L5 : numlaw_KeptEnd.L5 x 184 b (tr4 x).1 (tr4 x).2 (cutV Ieee.double x % 4294967296) true (fun v w' => v = .bool true ∧ Same [] B0 w w') w3 := by
        refine numlaw_KeptEnd.step5 _ _ _ _ _ _ _ _ _ ?_
        unfold numlaw_KeptEnd.V5
        refine cond_false' rfl (cond_false' ?_ L6)
        rw [q2]; simp
      have L4 : ∀ z : Int, U64 z → z % 4294967296 = cutV Ieee.double x % 4294967296 → numlaw_KeptEnd.L4 171 x 184 b (tr4 x).1 (tr4 x).2 z true (fun v w' => v = .bool true ∧ Same [] B0 w w') w3 := by
        intro z hz he
        refine numlaw_KeptEnd.step4 _ _ _ _ _ _ _ _ _ _ ?_
        unfold numlaw_KeptEnd.V4
        refine cond_true' (by decide) ?_
        rw [andnot_high z hz, he]
        exact L5
      by_cases hs : 9223372036854775808 ≤ x
      · rw [if_pos hs] at hcv
        refine cond_true' (by rw [bne_iff_ne]; omega) (L4 _ (wrap_u64_rng _) ?_)
        rw [wrap_u64_mod, hcv]; omega
      · rw [if_neg hs] at hcv
        refine cond_false' (by rw [bne_eq_false_iff_eq]; omega) (L4 _ (u64_nat hN) ?_)
        rw [hcv]
  by_cases hs : 9223372036854775808 ≤ x
  · refine cond_true' (by rw [bne_iff_ne]; omega) (L2 _ ?_)
    unfold in4; rw [decide_eq_true_iff]; omega
  · refine cond_false' (by rw [bne_eq_false_iff_eq]; omega) (L2 _ ?_)
    unfold in4; rw [decide_eq_true_iff]; omega

theorem KeptEnd5_walk (x : Nat) (hx : x < 4294967296) (b B0 : Nat) (w w1 : World) (f1 : FmtAt w1 b fmt32) (hB : B0 ≤ w.heap.size) (T1 : Same [] B0 w w1) : numlaw_KeptEnd.L1 174 x 1593835520 1593835520 180 false b (fun v w' => v = .bool true ∧ Same [] B0 w w') w1 := by
  have c0 : fmt32.un = 139 := rfl
  have c2 : fmt32.rel = 91 := rfl
  have c3 : fmt32.sign = 2147483648 := rfl
  have c4 : fmt32.inf = 2139095040 := rfl
  refine numlaw_KeptEnd.step1 _ _ _ _ _ _ _ _ _ ?_
  unfold numlaw_KeptEnd.V1
  refine (Apply_spec _ _ _ (by decide) (by decide) w1).mono ?_
  rintro v w2 ⟨rfl, S2⟩
  have f2 := f1.keep S2
  have T2 := T1.trans (S2.mono (Nat.le_trans hB (Nat.le_trans (Nat.le_refl _) (by have := T1.size; exact this))) (by simp))
  refine ⟨_, _, rfl, _, f2.c3, _, f2.c4, ?_⟩
  rw [c3, c4, andnot32 x hx, ap174_tr x hx]
  refine cond_dec (fun h => ?_) (fun h => ?_)
  · rw [tr5_nan x (by omega)]; exact ⟨rfl, T2⟩
  -- no NaN
  have hv : x % 2147483648 ≤ 2139095040 := by omega
  have L2 : ∀ inb : Bool, (inb = true ↔ in5 x) → numlaw_KeptEnd.L2 174 x 180 false b (tr5 x).1 (tr5 x).2 ((x % 2147483648 : Nat) : Int) inb (fun v w' => v = .bool true ∧ Same [] B0 w w') w2 := by
    intro inb hinb
    refine numlaw_KeptEnd.step2 _ _ _ _ _ _ _ _ _ _ _ ?_
    unfold numlaw_KeptEnd.V2
    cases inb with
    | false =>
      refine cond_true' rfl ?_
      rw [tr5_out x hx hv (fun h => by have := hinb.2 h; cases this)]
      exact ⟨rfl, T2⟩
    | true =>
      have hin := hinb.1 rfl
      obtain ⟨hfin, _, _, _⟩ := tr5_yes x hx hin
      obtain ⟨q0, q1, q2⟩ := tr5_cut x hx hin
      have hcv := cutV32 x hx hfin
      refine cond_false' rfl ?_
      refine cond_false' rfl ?_
      refine numlaw_KeptEnd.step3 _ _ _ _ _ _ _ _ _ _ ?_
      unfold numlaw_KeptEnd.V3
      refine ⟨_, _, _, _, _, _, f2.c0, f2.c1, f2.c2, f2.c3, f2.c4, f2.c5, (CutOf32_spec x hx hfin (tr5_place x hx hin) w2).mono ?_⟩
      rintro v w3 ⟨⟨ex, rfl⟩, hN, S3⟩
      have f3 := f2.keep S3
      have T3 := T2.trans (S3.mono (by have h1 := T1.size; have h2 := T2.size; omega) (by simp))
      refine ⟨_, _, _, rfl, ?_⟩
      -- the last clause
      have L6 : numlaw_KeptEnd.L6 x 180 b (tr5 x).1 (tr5 x).2 (fun v w' => v = .bool true ∧ Same [] B0 w w') w3 := by
        refine numlaw_KeptEnd.step6 _ _ _ _ _ _ _ ?_
        unfold numlaw_KeptEnd.V6
        rw [q2]
        refine (apL_spec _ _ _ u64_0 w3).mono ?_
        rintro v w4 ⟨rfl, S4⟩
        have f4 := f3.keep S4
        have T4 := T3.trans (S4.mono (by have h1 := T3.size; omega) (by simp))
        refine ⟨_, rfl, _, f4.c0, (apL_spec _ _ _ u64_0 w4).mono ?_⟩
        rintro v w5 ⟨rfl, S5⟩
        have f5 := f4.keep S5
        have T5 := T4.trans (S5.mono (by have h1 := T4.size; omega) (by simp))
        have n4 : IntKind.wrap .i64 (139 + 4) = 143 := by decide
        have e1 : (ap 143 x 0).1 = ((cn32 (cut32 x) : Nat) : Int) := by
          have := apf32 143 x 0 hx (by decide) (by decide) (by decide)
          have ez : ((0 : Nat) : Int) = 0 := rfl
          rw [ez] at this
          rw [this]; rfl
        have l1 := near_lt32 (cutV Ieee.single x)
        have l2 := cn32_lt _ (cut32_lt x hx)
        rw [c0, n4, e1]
        show ∃ x7 : Int, _
        refine ⟨_, rfl, cond_true' rfl ⟨_, f5.c2, ?_⟩⟩
        have e2 : (ap 180 (cutV Ieee.single x % 18446744073709551616) 0).1 = ((FloatKind.nearest .f32 (cutV Ieee.single x) : Nat) : Int) := ap174_back _ q0 q1
        rw [c2, e2]
        refine (apL_spec _ _ _ (u64_nat (by omega)) w5).mono ?_
        rintro v w6 ⟨rfl, S6⟩
        refine ⟨_, rfl, ?_, T5.trans (S6.mono (by have h1 := T5.size; omega) (by simp))⟩
        rw [(rel32_facts _ _ l1 l2 _ (backeq32 x hx hfin)).1]; rfl
      have L5 : numlaw_KeptEnd.L5 x 180 b (tr5 x).1 (tr5 x).2 (cutV Ieee.single x % 18446744073709551616) true (fun v w' => v = .bool true ∧ Same [] B0 w w') w3 := by
        refine numlaw_KeptEnd.step5 _ _ _ _ _ _ _ _ _ ?_
        unfold numlaw_KeptEnd.V5
        refine cond_false' rfl (cond_false' ?_ L6)
        rw [q2]; simp
      have L4 : ∀ z : Int, U64 z → z % 18446744073709551616 = cutV Ieee.single x % 18446744073709551616 → numlaw_KeptEnd.L4 174 x 180 b (tr5 x).1 (tr5 x).2 z true (fun v w' => v = .bool true ∧ Same [] B0 w w') w3 := by
        intro z hz he
        refine numlaw_KeptEnd.step4 _ _ _ _ _ _ _ _ _ _ ?_
        unfold numlaw_KeptEnd.V4
        refine cond_false' (by decide) ?_
        have hz' : z = cutV Ieee.single x % 18446744073709551616 := by unfold U64 at hz; rw [← he]; omega
        rw [hz']
        exact L5
      by_cases hs : 2147483648 ≤ x
      · rw [if_pos hs] at hcv
        refine cond_true' (by rw [bne_iff_ne]; omega) (L4 _ (wrap_u64_rng _) ?_)
        rw [wrap_u64_mod, hcv]; omega
      · rw [if_neg hs] at hcv
        refine cond_false' (by rw [bne_eq_false_iff_eq]; omega) (L4 _ (u64_nat hN) ?_)
        rw [hcv]
  by_cases hs : 2147483648 ≤ x
  · refine cond_true' (by rw [bne_iff_ne]; omega) (L2 _ ?_)
    unfold in5; rw [decide_eq_true_iff]; omega
  · refine cond_false' (by rw [bne_eq_false_iff_eq]; omega) (L2 _ ?_)
    unfold in5; rw [decide_eq_true_iff]; omega

theorem KeptEnd6_walk (x : Nat) (hx : x < 4294967296) (b B0 : Nat) (w w1 : World) (f1 : FmtAt w1 b fmt32) (hB : B0 ≤ w.heap.size) (T1 : Same [] B0 w w1) : numlaw_KeptEnd.L1 175 x 1602224128 1065353215 181 false b (fun v w' => v = .bool true ∧ Same [] B0 w w') w1 := by
  have c0 : fmt32.un = 139 := rfl
  have c2 : fmt32.rel = 91 := rfl
  have c3 : fmt32.sign = 2147483648 := rfl
  have c4 : fmt32.inf = 2139095040 := rfl
  refine numlaw_KeptEnd.step1 _ _ _ _ _ _ _ _ _ ?_
  unfold numlaw_KeptEnd.V1
  refine (Apply_spec _ _ _ (by decide) (by decide) w1).mono ?_
  rintro v w2 ⟨rfl, S2⟩
  have f2 := f1.keep S2
  have T2 := T1.trans (S2.mono (Nat.le_trans hB (Nat.le_trans (Nat.le_refl _) (by have := T1.size; exact this))) (by simp))
  refine ⟨_, _, rfl, _, f2.c3, _, f2.c4, ?_⟩
  rw [c3, c4, andnot32 x hx, ap175_tr x hx]
  refine cond_dec (fun h => ?_) (fun h => ?_)
  · rw [tr6_nan x (by omega)]; exact ⟨rfl, T2⟩
  -- no NaN
  have hv : x % 2147483648 ≤ 2139095040 := by omega
  have L2 : ∀ inb : Bool, (inb = true ↔ in6 x) → numlaw_KeptEnd.L2 175 x 181 false b (tr6 x).1 (tr6 x).2 ((x % 2147483648 : Nat) : Int) inb (fun v w' => v = .bool true ∧ Same [] B0 w w') w2 := by
    intro inb hinb
    refine numlaw_KeptEnd.step2 _ _ _ _ _ _ _ _ _ _ _ ?_
    unfold numlaw_KeptEnd.V2
    cases inb with
    | false =>
      refine cond_true' rfl ?_
      rw [tr6_out x hx hv (fun h => by have := hinb.2 h; cases this)]
      exact ⟨rfl, T2⟩
    | true =>
      have hin := hinb.1 rfl
      obtain ⟨hfin, _, _, _⟩ := tr6_yes x hx hin
      obtain ⟨q0, q1, q2⟩ := tr6_cut x hx hin
      have hcv := cutV32 x hx hfin
      refine cond_false' rfl ?_
      refine cond_false' rfl ?_
      refine numlaw_KeptEnd.step3 _ _ _ _ _ _ _ _ _ _ ?_
      unfold numlaw_KeptEnd.V3
      refine ⟨_, _, _, _, _, _, f2.c0, f2.c1, f2.c2, f2.c3, f2.c4, f2.c5, (CutOf32_spec x hx hfin (tr6_place x hx hin) w2).mono ?_⟩
      rintro v w3 ⟨⟨ex, rfl⟩, hN, S3⟩
      have f3 := f2.keep S3
      have T3 := T2.trans (S3.mono (by have h1 := T1.size; have h2 := T2.size; omega) (by simp))
      refine ⟨_, _, _, rfl, ?_⟩
      -- the last clause
      have L6 : numlaw_KeptEnd.L6 x 181 b (tr6 x).1 (tr6 x).2 (fun v w' => v = .bool true ∧ Same [] B0 w w') w3 := by
        refine numlaw_KeptEnd.step6 _ _ _ _ _ _ _ ?_
        unfold numlaw_KeptEnd.V6
        rw [q2]
        refine (apL_spec _ _ _ u64_0 w3).mono ?_
        rintro v w4 ⟨rfl, S4⟩
        have f4 := f3.keep S4
        have T4 := T3.trans (S4.mono (by have h1 := T3.size; omega) (by simp))
        refine ⟨_, rfl, _, f4.c0, (apL_spec _ _ _ u64_0 w4).mono ?_⟩
        rintro v w5 ⟨rfl, S5⟩
        have f5 := f4.keep S5
        have T5 := T4.trans (S5.mono (by have h1 := T4.size; omega) (by simp))
        have n4 : IntKind.wrap .i64 (139 + 4) = 143 := by decide
        have e1 : (ap 143 x 0).1 = ((cn32 (cut32 x) : Nat) : Int) := by
          have := apf32 143 x 0 hx (by decide) (by decide) (by decide)
          have ez : ((0 : Nat) : Int) = 0 := rfl
          rw [ez] at this
          rw [this]; rfl
        have l1 := near_lt32 (cutV Ieee.single x)
        have l2 := cn32_lt _ (cut32_lt x hx)
        rw [c0, n4, e1]
        show ∃ x7 : Int, _
        refine ⟨_, rfl, cond_true' rfl ⟨_, f5.c2, ?_⟩⟩
        have e2 : (ap 181 (cutV Ieee.single x % 18446744073709551616) 0).1 = ((FloatKind.nearest .f32 (cutV Ieee.single x) : Nat) : Int) := ap175_back _ q0 q1
        rw [c2, e2]
        refine (apL_spec _ _ _ (u64_nat (by omega)) w5).mono ?_
        rintro v w6 ⟨rfl, S6⟩
        refine ⟨_, rfl, ?_, T5.trans (S6.mono (by have h1 := T5.size; omega) (by simp))⟩
        rw [(rel32_facts _ _ l1 l2 _ (backeq32 x hx hfin)).1]; rfl
      have L5 : numlaw_KeptEnd.L5 x 181 b (tr6 x).1 (tr6 x).2 (cutV Ieee.single x % 18446744073709551616) true (fun v w' => v = .bool true ∧ Same [] B0 w w') w3 := by
        refine numlaw_KeptEnd.step5 _ _ _ _ _ _ _ _ _ ?_
        unfold numlaw_KeptEnd.V5
        refine cond_false' rfl (cond_false' ?_ L6)
        rw [q2]; simp
      have L4 : ∀ z : Int, U64 z → z % 18446744073709551616 = cutV Ieee.single x % 18446744073709551616 → numlaw_KeptEnd.L4 175 x 181 b (tr6 x).1 (tr6 x).2 z true (fun v w' => v = .bool true ∧ Same [] B0 w w') w3 := by
        intro z hz he
        refine numlaw_KeptEnd.step4 _ _ _ _ _ _ _ _ _ _ ?_
        unfold numlaw_KeptEnd.V4
        refine cond_false' (by decide) ?_
        have hz' : z = cutV Ieee.single x % 18446744073709551616 := by unfold U64 at hz; rw [← he]; omega
        rw [hz']
        exact L5
      by_cases hs : 2147483648 ≤ x
      · rw [if_pos hs] at hcv
        refine cond_true' (by rw [bne_iff_ne]; omega) (L4 _ (wrap_u64_rng _) ?_)
        rw [wrap_u64_mod, hcv]; omega
      · rw [if_neg hs] at hcv
        refine cond_false' (by rw [bne_eq_false_iff_eq]; omega) (L4 _ (u64_nat hN) ?_)
        rw [hcv]
  by_cases hs : 2147483648 ≤ x
  · refine cond_true' (by rw [bne_iff_ne]; omega) (L2 _ ?_)
    unfold in6; rw [decide_eq_true_iff]; omega
  · refine cond_false' (by rw [bne_eq_false_iff_eq]; omega) (L2 _ ?_)
    unfold in6; rw [decide_eq_true_iff]; omega

theorem KeptEnd7_walk (x : Nat) (hx : x < 18446744073709551616) (b B0 : Nat) (w w1 : World) (f1 : FmtAt w1 b fmt64) (hB : B0 ≤ w.heap.size) (T1 : Same [] B0 w w1) : numlaw_KeptEnd.L1 176 x 4890909195324358656 4890909195324358656 185 true b (fun v w' => v = .bool true ∧ Same [] B0 w w') w1 := by
  have c0 : fmt64.un = 153 := rfl
  have c2 : fmt64.rel = 97 := rfl
  have c3 : fmt64.sign = 9223372036854775808 := rfl
  have c4 : fmt64.inf = 9218868437227405312 := rfl
  refine numlaw_KeptEnd.step1 _ _ _ _ _ _ _ _ _ ?_
  unfold numlaw_KeptEnd.V1
  refine (Apply_spec _ _ _ (by decide) (by decide) w1).mono ?_
  rintro v w2 ⟨rfl, S2⟩
  have f2 := f1.keep S2
  have T2 := T1.trans (S2.mono (Nat.le_trans hB (Nat.le_trans (Nat.le_refl _) (by have := T1.size; exact this))) (by simp))
  refine ⟨_, _, rfl, _, f2.c3, _, f2.c4, ?_⟩
  rw [c3, c4, andnot64 x hx, ap176_tr x hx]
  refine cond_dec (fun h => ?_) (fun h => ?_)
  · rw [tr7_nan x (by omega)]; exact ⟨rfl, T2⟩
  -- no NaN
  have hv : x % 9223372036854775808 ≤ 9218868437227405312 := by omega
  have L2 : ∀ inb : Bool, (inb = true ↔ in7 x) → numlaw_KeptEnd.L2 176 x 185 true b (tr7 x).1 (tr7 x).2 ((x % 9223372036854775808 : Nat) : Int) inb (fun v w' => v = .bool true ∧ Same [] B0 w w') w2 := by
    intro inb hinb
    refine numlaw_KeptEnd.step2 _ _ _ _ _ _ _ _ _ _ _ ?_
    unfold numlaw_KeptEnd.V2
    cases inb with
    | false =>
      refine cond_true' rfl ?_
      rw [tr7_out x hx hv (fun h => by have := hinb.2 h; cases this)]
      exact ⟨rfl, T2⟩
    | true =>
      have hin := hinb.1 rfl
      obtain ⟨hfin, _, _, _⟩ := tr7_yes x hx hin
      obtain ⟨q0, q1, q2⟩ := tr7_cut x hx hin
      have hcv := cutV64 x hx hfin
      refine cond_false' rfl ?_
      refine cond_true' rfl ?_
      refine numlaw_KeptEnd.step3 _ _ _ _ _ _ _ _ _ _ ?_
      unfold numlaw_KeptEnd.V3
      refine ⟨_, _, _, _, _, _, f2.c0, f2.c1, f2.c2, f2.c3, f2.c4, f2.c5, (CutOf64_spec x hx hfin (tr7_place x hx hin) w2).mono ?_⟩
      rintro v w3 ⟨⟨ex, rfl⟩, hN, S3⟩
      have f3 := f2.keep S3
      have T3 := T2.trans (S3.mono (by have h1 := T1.size; have h2 := T2.size; omega) (by simp))
      refine ⟨_, _, _, rfl, ?_⟩
      -- the last clause
      have L6 : numlaw_KeptEnd.L6 x 185 b (tr7 x).1 (tr7 x).2 (fun v w' => v = .bool true ∧ Same [] B0 w w') w3 := by
        refine numlaw_KeptEnd.step6 _ _ _ _ _ _ _ ?_
        unfold numlaw_KeptEnd.V6
        rw [q2]
        refine (apL_spec _ _ _ u64_0 w3).mono ?_
        rintro v w4 ⟨rfl, S4⟩
        have f4 := f3.keep S4
        have T4 := T3.trans (S4.mono (by have h1 := T3.size; omega) (by simp))
        refine ⟨_, rfl, _, f4.c0, (apL_spec _ _ _ u64_0 w4).mono ?_⟩
        rintro v w5 ⟨rfl, S5⟩
        have f5 := f4.keep S5
        have T5 := T4.trans (S5.mono (by have h1 := T4.size; omega) (by simp))
        have n4 : IntKind.wrap .i64 (153 + 4) = 157 := by decide
        have e1 : (ap 157 x 0).1 = ((cn64 (cut64 x) : Nat) : Int) := by
          have := apf64 157 x 0 hx (by decide) (by decide) (by decide)
          have ez : ((0 : Nat) : Int) = 0 := rfl
          rw [ez] at this
          rw [this]; rfl
        have l1 := near_lt64 (cutV Ieee.double x)
        have l2 := cn64_lt _ (cut64_lt x hx)
        rw [c0, n4, e1]
        show ∃ x7 : Int, _
        refine ⟨_, rfl, cond_true' rfl ⟨_, f5.c2, ?_⟩⟩
        have e2 : (ap 185 (cutV Ieee.double x % 18446744073709551616) 0).1 = ((FloatKind.nearest .f64 (cutV Ieee.double x) : Nat) : Int) := ap176_back _ q0 q1
        rw [c2, e2]
        refine (apL_spec _ _ _ (u64_nat (by omega)) w5).mono ?_
        rintro v w6 ⟨rfl, S6⟩
        refine ⟨_, rfl, ?_, T5.trans (S6.mono (by have h1 := T5.size; omega) (by simp))⟩
        rw [(rel64_facts _ _ l1 l2 _ (backeq64 x hx hfin)).1]; rfl
      have L5 : numlaw_KeptEnd.L5 x 185 b (tr7 x).1 (tr7 x).2 (cutV Ieee.double x % 18446744073709551616) true (fun v w' => v = .bool true ∧ Same [] B0 w w') w3 := by
        refine numlaw_KeptEnd.step5 _ _ _ _ _ _ _ _ _ ?_
        unfold numlaw_KeptEnd.V5
        refine cond_false' rfl (cond_false' ?_ L6)
        rw [q2]; simp
      have L4 : ∀ z : Int, U64 z → z % 18446744073709551616 = cutV Ieee.double x % 18446744073709551616 → numlaw_KeptEnd.L4 176 x 185 b (tr7 x).1 (tr7 x).2 z true (fun v w' => v = .bool true ∧ Same [] B0 w w') w3 := by
        intro z hz he
        refine numlaw_KeptEnd.step4 _ _ _ _ _ _ _ _ _ _ ?_
        unfold numlaw_KeptEnd.V4
        refine cond_false' (by decide) ?_
        have hz' : z = cutV Ieee.double x % 18446744073709551616 := by unfold U64 at hz; rw [← he]; omega
        rw [hz']
        exact L5
      by_cases hs : 9223372036854775808 ≤ x
      · rw [if_pos hs] at hcv
        refine cond_true' (by rw [bne_iff_ne]; omega) (L4 _ (wrap_u64_rng _) ?_)
        rw [wrap_u64_mod, hcv]; omega
      · rw [if_neg hs] at hcv
        refine cond_false' (by rw [bne_eq_false_iff_eq]; omega) (L4 _ (u64_nat hN) ?_)
        rw [hcv]
  by_cases hs : 9223372036854775808 ≤ x
  · refine cond_true' (by rw [bne_iff_ne]; omega) (L2 _ ?_)
    unfold in7; rw [decide_eq_true_iff]; omega
  · refine cond_false' (by rw [bne_eq_false_iff_eq]; omega) (L2 _ ?_)
    unfold in7; rw [decide_eq_true_iff]; omega

theorem KeptEnd8_walk (x : Nat) (hx : x < 18446744073709551616) (b B0 : Nat) (w w1 : World) (f1 : FmtAt w1 b fmt64) (hB : B0 ≤ w.heap.size) (T1 : Same [] B0 w w1) : numlaw_KeptEnd.L1 177 x 4895412794951729152 4607182418800017407 186 true b (fun v w' => v = .bool true ∧ Same [] B0 w w') w1 := by
  have c0 : fmt64.un = 153 := rfl
  have c2 : fmt64.rel = 97 := rfl
  have c3 : fmt64.sign = 9223372036854775808 := rfl
  have c4 : fmt64.inf = 9218868437227405312 := rfl
  refine numlaw_KeptEnd.step1 _ _ _ _ _ _ _ _ _ ?_
  unfold numlaw_KeptEnd.V1
  refine (Apply_spec _ _ _ (by decide) (by decide) w1).mono ?_
  rintro v w2 ⟨rfl, S2⟩
  have f2 := f1.keep S2
  have T2 := T1.trans (S2.mono (Nat.le_trans hB (Nat.le_trans (Nat.le_refl _) (by have := T1.size; exact this))) (by simp))
  refine ⟨_, _, rfl, _, f2.c3, _, f2.c4, ?_⟩
  rw [c3, c4, andnot64 x hx, ap177_tr x hx]
  refine cond_dec (fun h => ?_) (fun h => ?_)
  · rw [tr8_nan x (by omega)]; exact ⟨rfl, T2⟩
  -- no NaN
  have hv : x % 9223372036854775808 ≤ 9218868437227405312 := by omega
  have L2 : ∀ inb : Bool, (inb = true ↔ in8 x) → numlaw_KeptEnd.L2 177 x 186 true b (tr8 x).1 (tr8 x).2 ((x % 9223372036854775808 : Nat) : Int) inb (fun v w' => v = .bool true ∧ Same [] B0 w w') w2 := by
    intro inb hinb
    refine numlaw_KeptEnd.step2 _ _ _ _ _ _ _ _ _ _ _ ?_
    unfold numlaw_KeptEnd.V2
    cases inb with
    | false =>
      refine cond_true' rfl ?_
      rw [tr8_out x hx hv (fun h => by have := hinb.2 h; cases this)]
      exact ⟨rfl, T2⟩
    | true =>
      have hin := hinb.1 rfl
      obtain ⟨hfin, _, _, _⟩ := tr8_yes x hx hin
      obtain ⟨q0, q1, q2⟩ := tr8_cut x hx hin
      have hcv := cutV64 x hx hfin
      refine cond_false' rfl ?_
      refine cond_true' rfl ?_
      refine numlaw_KeptEnd.step3 _ _ _ _ _ _ _ _ _ _ ?_
      unfold numlaw_KeptEnd.V3
      refine ⟨_, _, _, _, _, _, f2.c0, f2.c1, f2.c2, f2.c3, f2.c4, f2.c5, (CutOf64_spec x hx hfin (tr8_place x hx hin) w2).mono ?_⟩
      rintro v w3 ⟨⟨ex, rfl⟩, hN, S3⟩
      have f3 := f2.keep S3
      have T3 := T2.trans (S3.mono (by have h1 := T1.size; have h2 := T2.size; omega) (by simp))
      refine ⟨_, _, _, rfl, ?_⟩
      -- the last clause
      have L6 : numlaw_KeptEnd.L6 x 186 b (tr8 x).1 (tr8 x).2 (fun v w' => v = .bool true ∧ Same [] B0 w w') w3 := by
        refine numlaw_KeptEnd.step6 _ _ _ _ _ _ _ ?_
        unfold numlaw_KeptEnd.V6
        rw [q2]
        refine (apL_spec _ _ _ u64_0 w3).mono ?_
        rintro v w4 ⟨rfl, S4⟩
        have f4 := f3.keep S4
        have T4 := T3.trans (S4.mono (by have h1 := T3.size; omega) (by simp))
        refine ⟨_, rfl, _, f4.c0, (apL_spec _ _ _ u64_0 w4).mono ?_⟩
        rintro v w5 ⟨rfl, S5⟩
        have f5 := f4.keep S5
        have T5 := T4.trans (S5.mono (by have h1 := T4.size; omega) (by simp))
        have n4 : IntKind.wrap .i64 (153 + 4) = 157 := by decide
        have e1 : (ap 157 x 0).1 = ((cn64 (cut64 x) : Nat) : Int) := by
          have := apf64 157 x 0 hx (by decide) (by decide) (by decide)
          have ez : ((0 : Nat) : Int) = 0 := rfl
          rw [ez] at this
          rw [this]; rfl
        have l1 := near_lt64 (cutV Ieee.double x)
        have l2 := cn64_lt _ (cut64_lt x hx)
        rw [c0, n4, e1]
        show ∃ x7 : Int, _
        refine ⟨_, rfl, cond_true' rfl ⟨_, f5.c2, ?_⟩⟩
        have e2 : (ap 186 (cutV Ieee.double x % 18446744073709551616) 0).1 = ((FloatKind.nearest .f64 (cutV Ieee.double x) : Nat) : Int) := ap177_back _ q0 q1
        rw [c2, e2]
        refine (apL_spec _ _ _ (u64_nat (by omega)) w5).mono ?_
        rintro v w6 ⟨rfl, S6⟩
        refine ⟨_, rfl, ?_, T5.trans (S6.mono (by have h1 := T5.size; omega) (by simp))⟩
        rw [(rel64_facts _ _ l1 l2 _ (backeq64 x hx hfin)).1]; rfl
      have L5 : numlaw_KeptEnd.L5 x 186 b (tr8 x).1 (tr8 x).2 (cutV Ieee.double x % 18446744073709551616) true (fun v w' => v = .bool true ∧ Same [] B0 w w') w3 := by
        refine numlaw_KeptEnd.step5 _ _ _ _ _ _ _ _ _ ?_
        unfold numlaw_KeptEnd.V5
        refine cond_false' rfl (cond_false' ?_ L6)
        rw [q2]; simp
      have L4 : ∀ z : Int, U64 z → z % 18446744073709551616 = cutV Ieee.double x % 18446744073709551616 → numlaw_KeptEnd.L4 177 x 186 b (tr8 x).1 (tr8 x).2 z true (fun v w' => v = .bool true ∧ Same [] B0 w w') w3 := by
        intro z hz he
        refine numlaw_KeptEnd.step4 _ _ _ _ _ _ _ _ _ _ ?_
        unfold numlaw_KeptEnd.V4
        refine cond_false' (by decide) ?_
        have hz' : z = cutV Ieee.double x % 18446744073709551616 := by unfold U64 at hz; rw [← he]; omega
        rw [hz']
        exact L5
      by_cases hs : 9223372036854775808 ≤ x
      · rw [if_pos hs] at hcv
        refine cond_true' (by rw [bne_iff_ne]; omega) (L4 _ (wrap_u64_rng _) ?_)
        rw [wrap_u64_mod, hcv]; omega
      · rw [if_neg hs] at hcv
        refine cond_false' (by rw [bne_eq_false_iff_eq]; omega) (L4 _ (u64_nat hN) ?_)
        rw [hcv]
  by_cases hs : 9223372036854775808 ≤ x
  · refine cond_true' (by rw [bne_iff_ne]; omega) (L2 _ ?_)
    unfold in8; rw [decide_eq_true_iff]; omega
  · refine cond_false' (by rw [bne_eq_false_iff_eq]; omega) (L2 _ ?_)
    unfold in8; rw [decide_eq_true_iff]; omega

theorem KeptEnd_spec (op a : Int) (ha : U64 a) (w : World) : Runs Try.prog numlaw_KeptEnd.id #[.int .i64 op, .int .u64 a] w fun v w' => v = .bool true ∧ Same [] w.heap.size w w' := by
  refine numlaw_KeptEnd.enter _ _ _ _ ?_
  unfold numlaw_KeptEnd.V
  refine (numlaw_End.pure op w).mono ?_
  rintro v w1 ⟨rfl, rfl⟩
  refine ⟨_, _, _, _, rfl, ?_⟩
  -- the two formats
  have narrow : ∀ (op up down back : Int), (∀ (x : Nat), x < 4294967296 → ∀ (b : Nat) (w2 : World), FmtAt w2 b fmt32 → Same [] w1.heap.size w1 w2 → numlaw_KeptEnd.L1 op x up down back false b (fun v w' => v = .bool true ∧ Same [] w1.heap.size w1 w') w2) →
      Runs Try.prog numlaw_F32.id #[] w1 fun r9 w10 => (∃ x11 : Int, ∃ x12 : Int, ∃ x13 : Int, ∃ x14 : Int, ∃ x15 : Int, ∃ x16 : Int, (r9 = (.agg #[(.int .i64 x11), (.int .i64 x12), (.int .i64 x13), (.int .u64 x14), (.int .u64 x15), (.int .u64 x16)]) ∧ (letB (Array.size (World.heap w10)) fun b17 => letW (World.alloc w10 (.cells #[(.int .i64 0), (.int .i64 0), (.int .i64 0), (.int .u64 0), (.int .u64 0), (.int .u64 0)] T_numlaw_Fmt)) fun w18 => (putCells w18 ⟨b17, 0, none⟩ [(.int .i64 x11), (.int .i64 x12), (.int .i64 x13), (.int .u64 x14), (.int .u64 x15), (.int .u64 x16)] fun w19 => (numlaw_KeptEnd.L1 op (bAnd .u64 a 4294967295) up down back false b17 (fun v w' => v = .bool true ∧ Same [] w1.heap.size w1 w') w19))))) := by
    intro op up down back hL
    refine (F32_spec w1).mono ?_
    rintro v w2 ⟨rfl, S2⟩
    refine ⟨_, _, _, _, _, _, rfl, ?_⟩
    refine letB_intro fun p hp => letW_intro fun w3 hw3 => ?_
    have g3 : FmtAt w3 p ⟨0, 0, 0, 0, 0, 0⟩ := by rw [hw3, hp]; exact FmtAt.new w2 ⟨0, 0, 0, 0, 0, 0⟩ T_numlaw_Fmt
    have T3 : Same [] w1.heap.size w1 w3 := by rw [hw3]; exact S2.alloc S2.size _
    have hpw : w1.heap.size ≤ p := by rw [hp]; exact S2.size
    clear hw3 hp
    refine g3.put_intro (g := fmt32) fun w4 g4 h4 => ?_
    rw [low32 a ha]
    exact hL _ (by omega) p w4 g4 (same_fresh T3 hpw h4)
  have widef : ∀ (op up down back : Int), (∀ (x : Nat), x < 18446744073709551616 → ∀ (b : Nat) (w2 : World), FmtAt w2 b fmt64 → Same [] w1.heap.size w1 w2 → numlaw_KeptEnd.L1 op x up down back true b (fun v w' => v = .bool true ∧ Same [] w1.heap.size w1 w') w2) →
      Runs Try.prog numlaw_F32.id #[] w1 fun r9 w10 => (∃ x11 : Int, ∃ x12 : Int, ∃ x13 : Int, ∃ x14 : Int, ∃ x15 : Int, ∃ x16 : Int, (r9 = (.agg #[(.int .i64 x11), (.int .i64 x12), (.int .i64 x13), (.int .u64 x14), (.int .u64 x15), (.int .u64 x16)]) ∧ (letB (Array.size (World.heap w10)) fun b17 => letW (World.alloc w10 (.cells #[(.int .i64 0), (.int .i64 0), (.int .i64 0), (.int .u64 0), (.int .u64 0), (.int .u64 0)] T_numlaw_Fmt)) fun w18 => (putCells w18 ⟨b17, 0, none⟩ [(.int .i64 x11), (.int .i64 x12), (.int .i64 x13), (.int .u64 x14), (.int .u64 x15), (.int .u64 x16)] fun w19 =>
        (Runs Try.prog numlaw_F64.id #[] w19 fun r20 w21 => (∃ x22 : Int, ∃ x23 : Int, ∃ x24 : Int, ∃ x25 : Int, ∃ x26 : Int, ∃ x27 : Int, (r20 = (.agg #[(.int .i64 x22), (.int .i64 x23), (.int .i64 x24), (.int .u64 x25), (.int .u64 x26), (.int .u64 x27)]) ∧ (putCells w21 ⟨b17, 0, none⟩ [(.int .i64 x22), (.int .i64 x23), (.int .i64 x24), (.int .u64 x25), (.int .u64 x26), (.int .u64 x27)] fun w28 => (numlaw_KeptEnd.L1 op a up down back true b17 (fun v w' => v = .bool true ∧ Same [] w1.heap.size w1 w') w28)))))))))  := by
    intro op up down back hL
    refine (F32_spec w1).mono ?_
    rintro v w2 ⟨rfl, S2⟩
    refine ⟨_, _, _, _, _, _, rfl, ?_⟩
    refine letB_intro fun p hp => letW_intro fun w3 hw3 => ?_
    have g3 : FmtAt w3 p ⟨0, 0, 0, 0, 0, 0⟩ := by rw [hw3, hp]; exact FmtAt.new w2 ⟨0, 0, 0, 0, 0, 0⟩ T_numlaw_Fmt
    have T3 : Same [] w1.heap.size w1 w3 := by rw [hw3]; exact S2.alloc S2.size _
    have hpw : w1.heap.size ≤ p := by rw [hp]; exact S2.size
    clear hw3 hp
    refine g3.put_intro (g := fmt32) fun w4 g4 h4 => ?_
    have T4 := same_fresh T3 hpw h4
    refine (F64_spec w4).mono ?_
    rintro v w5 ⟨rfl, S5⟩
    have T5 := T4.trans (S5.mono T4.size (by simp))
    have g5 := g4.keep S5
    refine ⟨_, _, _, _, _, _, rfl, ?_⟩
    refine g5.put_intro (g := fmt64) fun w6 g6 h6 => ?_
    obtain ⟨X, rfl⟩ : ∃ n : Nat, a = (n : Int) := ⟨a.toNat, by unfold U64 at ha; omega⟩
    exact hL X (by unfold U64 at ha; omega) p w6 g6 (same_fresh T5 hpw h6)
  by_cases h168 : op = 168
  · subst h168
    refine cond_false' rfl ?_
    exact narrow _ _ _ _ (fun x hx b w2 g T => KeptEnd1_walk x hx b _ w1 w2 g (Nat.le_refl _) T)
  by_cases h169 : op = 169
  · subst h169
    refine cond_false' rfl ?_
    exact narrow _ _ _ _ (fun x hx b w2 g T => KeptEnd2_walk x hx b _ w1 w2 g (Nat.le_refl _) T)
  by_cases h170 : op = 170
  · subst h170
    refine cond_false' rfl ?_
    exact widef _ _ _ _ (fun x hx b w2 g T => KeptEnd3_walk x hx b _ w1 w2 g (Nat.le_refl _) T)
  by_cases h171 : op = 171
  · subst h171
    refine cond_false' rfl ?_
    exact widef _ _ _ _ (fun x hx b w2 g T => KeptEnd4_walk x hx b _ w1 w2 g (Nat.le_refl _) T)
  by_cases h174 : op = 174
  · subst h174
    refine cond_false' rfl ?_
    exact narrow _ _ _ _ (fun x hx b w2 g T => KeptEnd5_walk x hx b _ w1 w2 g (Nat.le_refl _) T)
  by_cases h175 : op = 175
  · subst h175
    refine cond_false' rfl ?_
    exact narrow _ _ _ _ (fun x hx b w2 g T => KeptEnd6_walk x hx b _ w1 w2 g (Nat.le_refl _) T)
  by_cases h176 : op = 176
  · subst h176
    refine cond_false' rfl ?_
    exact widef _ _ _ _ (fun x hx b w2 g T => KeptEnd7_walk x hx b _ w1 w2 g (Nat.le_refl _) T)
  by_cases h177 : op = 177
  · subst h177
    refine cond_false' rfl ?_
    exact widef _ _ _ _ (fun x hx b w2 g T => KeptEnd8_walk x hx b _ w1 w2 g (Nat.le_refl _) T)
  have e : numlaw_End.F op = (0, 0, 0, false) := by
    unfold numlaw_End.F
    rw [show (op == (168 : Int)) = false from by rw [beq_eq_false_iff_ne]; exact h168, show (op == (169 : Int)) = false from by rw [beq_eq_false_iff_ne]; exact h169, show (op == (170 : Int)) = false from by rw [beq_eq_false_iff_ne]; exact h170, show (op == (171 : Int)) = false from by rw [beq_eq_false_iff_ne]; exact h171, show (op == (174 : Int)) = false from by rw [beq_eq_false_iff_ne]; exact h174, show (op == (175 : Int)) = false from by rw [beq_eq_false_iff_ne]; exact h175, show (op == (176 : Int)) = false from by rw [beq_eq_false_iff_ne]; exact h176, show (op == (177 : Int)) = false from by rw [beq_eq_false_iff_ne]; exact h177]
    rfl
  rw [e]
  exact cond_true' rfl ⟨rfl, Same.refl _ _ _⟩

theorem KeptE_spec (o : OpV) (hs : o.s.size ≤ 9223372036854775807) (w : World) : Runs Try.prog numlaw_KeptE.id #[o.val] w fun v w' => v = .bool true ∧ Same [] w.heap.size w w' := by
  refine numlaw_KeptE.enter o.kind o.a o.b o.c o.s o.t _ _ ?_
  unfold numlaw_KeptE.V
  refine letB_intro fun b hb => letW_intro fun w1 hw1 => ?_
  have hO : OpAt w1 b o := by rw [hw1, hb]; exact OpAt.new w o T_api_Op
  have hS : Same [] w.heap.size w w1 := by rw [hw1]; exact (Same.refl _ _ _).alloc (Nat.le_refl _) _
  clear hw1 hb
  have fin : ∀ w', Same [] w.heap.size w w' → numlaw_KeptE.L5 true (fun v w' => v = .bool true ∧ Same [] w.heap.size w w') w' := fun w' T => by
    refine numlaw_KeptE.step5 _ _ _ ?_
    unfold numlaw_KeptE.V5
    exact ⟨rfl, T⟩
  have l3 : ∀ (x : Int) (t : Int) (w' : World), U64 x → Same [] w.heap.size w w' → numlaw_KeptE.L3 x true t (fun v w' => v = .bool true ∧ Same [] w.heap.size w w') w' := by
    intro x t w2 hx T2
    refine numlaw_KeptE.step3 _ _ _ _ _ ?_
    unfold numlaw_KeptE.V3
    refine cond_true' rfl ?_
    refine numlaw_KeptE.step4 _ _ _ _ _ ?_
    unfold numlaw_KeptE.V4
    refine cond_intro (fun _ => ?_) (fun _ => fin w2 T2)
    refine (F64_spec w2).mono ?_
    rintro v w3 ⟨rfl, S3⟩
    have T3 := T2.trans (S3.mono T2.size (by simp))
    refine ⟨_, _, _, _, _, _, rfl, ?_⟩
    refine letB_intro fun p hp => letW_intro fun w4 hw4 => ?_
    have g4 : FmtAt w4 p ⟨0, 0, 0, 0, 0, 0⟩ := by rw [hw4, hp]; exact FmtAt.new w3 ⟨0, 0, 0, 0, 0, 0⟩ T_numlaw_Fmt
    have T4 : Same [] w.heap.size w w4 := by rw [hw4]; exact T3.alloc T3.size _
    have hpw : w.heap.size ≤ p := by rw [hp]; exact T3.size
    clear hw4 hp
    refine g4.put_intro (g := fmt64) fun w5 g5 h5 => ?_
    have T5 := same_fresh T4 hpw h5
    obtain ⟨X, rfl⟩ : ∃ n : Nat, x = (n : Int) := ⟨x.toNat, by unfold U64 at hx; omega⟩
    refine ⟨_, _, _, _, _, _, g5.c0, g5.c1, g5.c2, g5.c3, g5.c4, g5.c5, (KeptRoot64_spec X (by unfold U64 at hx; omega) w5).mono ?_⟩
    rintro v w6 ⟨rfl, S6⟩
    exact ⟨_, rfl, fin w6 (T5.trans (S6.mono T5.size (by simp)))⟩
  have main : numlaw_KeptE.L1 b (fun v w' => v = .bool true ∧ Same [] w.heap.size w w') w1 := by
    refine numlaw_KeptE.step1 _ _ _ ?_
    unfold numlaw_KeptE.V1
    refine ⟨_, _, _, _, _, _, hO.c0, hO.c1, hO.c2, hO.c3, hO.c4, hO.c5, (Words_spec o hs w1).mono ?_⟩
    rintro v w2 ⟨⟨x, y, rfl, hx, hy⟩, S2⟩
    have hO2 := hO.same S2 hO.lt (by simp)
    have T2 := hS.trans (S2.mono hS.size (by simp))
    refine ⟨_, _, rfl, _, hO2.c1, (KeptEnd_spec o.a x hx w2).mono ?_⟩
    rintro v w3 ⟨rfl, S3⟩
    have hO3 := hO2.same S3 hO2.lt (by simp)
    have T3 := T2.trans (S3.mono T2.size (by simp))
    refine ⟨_, rfl, _, hO3.c1, (api_NumSig.pure _ w3).mono ?_⟩
    rintro v w4 ⟨rfl, rfl⟩
    refine ⟨_, _, _, rfl, cond_true' rfl ?_⟩
    refine numlaw_KeptE.step2 _ _ _ _ _ _ ?_
    unfold numlaw_KeptE.V2
    refine cond_intro (fun _ => ?_) (fun _ => l3 _ _ _ hx T3)
    refine (F32_spec w4).mono ?_
    rintro v w5 ⟨rfl, S5⟩
    have T5 := T3.trans (S5.mono T3.size (by simp))
    refine ⟨_, _, _, _, _, _, rfl, ?_⟩
    refine letB_intro fun p hp => letW_intro fun w6 hw6 => ?_
    have g6 : FmtAt w6 p ⟨0, 0, 0, 0, 0, 0⟩ := by rw [hw6, hp]; exact FmtAt.new w5 ⟨0, 0, 0, 0, 0, 0⟩ T_numlaw_Fmt
    have T6 : Same [] w.heap.size w w6 := by rw [hw6]; exact T5.alloc T5.size _
    have hpw : w.heap.size ≤ p := by rw [hp]; exact T5.size
    clear hw6 hp
    refine g6.put_intro (g := fmt32) fun w7 g7 h7 => ?_
    have T7 := same_fresh T6 hpw h7
    rw [low32 x hx]
    refine ⟨_, _, _, _, _, _, g7.c0, g7.c1, g7.c2, g7.c3, g7.c4, g7.c5, (KeptRoot32_spec (x.toNat % 4294967296) (by omega) w7).mono ?_⟩
    rintro v w8 ⟨rfl, S8⟩
    exact ⟨_, rfl, l3 _ _ _ hx (T7.trans (S8.mono T7.size (by simp)))⟩
  refine ⟨_, hO.c0, cond_intro (fun _ => ?_) (fun _ => main)⟩
  exact ⟨_, hO.c0, cond_intro (fun _ => ⟨rfl, hS⟩) (fun _ => main)⟩

theorem KeepsEndsUpTo_loop (w0 : World) (a : Option Addr) (l c : Nat) (hs : ScriptAt w0 a l) (R : Value → World → Prop) (hR : ∀ w', Same [] w0.heap.size w0 w' → R (.int .i64 (-1)) w') :
    ∀ (f i : Nat) (w : World), i + f = l → Same [] w0.heap.size w0 w → numlaw_KeepsEndsUpTo.L1 a l c i R w := by
  intro f
  induction f with
  | zero =>
    intro i w hi C
    refine numlaw_KeepsEndsUpTo.step1 _ _ _ _ _ _ ?_
    unfold numlaw_KeepsEndsUpTo.V1
    exact cond_false' (by simp; omega) (hR w C)
  | succ f ih =>
    intro i w hi C
    refine numlaw_KeepsEndsUpTo.step1 _ _ _ _ _ _ ?_
    unfold numlaw_KeepsEndsUpTo.V1
    refine cond_true' (by simp; omega) ?_
    generalize hM : (4398046511104 : Int) = M
    refine cond_intro (fun hm => ?_) (fun hm => hR w C)
    subst hM
    have hm : (i : Int) < 4398046511104 := of_decide_eq_true hm
    rcases hs with h0 | ⟨b, off, rfl, hs⟩
    · omega
    obtain ⟨o, hF, hO0⟩ := hs i (by omega)
    have hO := hO0.same C
    refine numlaw_KeepsEndsUpTo.step2 _ _ _ _ _ _ ?_
    unfold numlaw_KeepsEndsUpTo.V2
    simp only [nilV_some, add_mk, Int.toNat_natCast]
    refine ⟨by omega, _, _, _, _, _, _, hO.c0, hO.c1, hO.c2, hO.c3, hO.c4, hO.c5, ?_⟩
    refine (KeptE_spec o hF.s w).mono ?_
    rintro v w1 ⟨rfl, hS1⟩
    refine ⟨_, rfl, cond_false' rfl ?_⟩
    have e : IntKind.wrap .i64 ((i : Int) + 1) = ((i + 1 : Nat) : Int) := by rw [wrap_i64 (by omega) (by omega)]; omega
    rw [e]
    exact ih (i + 1) w1 (by omega) (C.trans (hS1.mono C.size (by simp)))

theorem KeepsEnds_spec (w : World) (a : Option Addr) (l c : Nat) (hs : ScriptAt w a l) : Runs Try.prog numlaw_KeepsEnds.id #[.slice a l c] w fun v w' => v = .bool true ∧ Same [] w.heap.size w w' := by
  refine numlaw_KeepsEnds.enter _ _ _ _ _ ?_
  unfold numlaw_KeepsEnds.V
  have h : Runs Try.prog numlaw_KeepsEndsUpTo.id #[.slice a l c] w fun v w' => v = .int .i64 (-1) ∧ Same [] w.heap.size w w' := by
    refine numlaw_KeepsEndsUpTo.enter _ _ _ _ _ ?_
    unfold numlaw_KeepsEndsUpTo.V
    exact KeepsEndsUpTo_loop w a l c hs _ (fun w' h => ⟨rfl, h⟩) l 0 w (by omega) (Same.refl _ _ _)
  refine h.mono ?_
  rintro v w1 ⟨rfl, hS⟩
  exact ⟨_, rfl, rfl, hS⟩

end Go.Proofs.Qxb6500320a
