/-
  KeepsPlain: the walk.
-/
import Derived.Test.Qxb6500320aPlG
set_option linter.unusedSimpArgs false
set_option linter.unusedVariables false
set_option maxRecDepth 100000
namespace Go.Proofs.Qxb6500320a
open Go Go.Vc

theorem keptFloat32_spec (x y : Nat) (hx : x < 4294967296) (hy : y < 4294967296) (w : World) : Runs Try.prog numlaw_keptFloat.id #[fmt32.val, .int .i64 24, .int .i64 178, .int .u64 1065353216, .int .u64 1056964608, .int .u64 x, .int .u64 y] w fun v w' => v = .bool true ∧ Same [] w.heap.size w w' := by
  refine numlaw_keptFloat.enter 139 146 91 2147483648 2139095040 2143289344 24 178 1065353216 1056964608 x y _ _ ?_
  unfold numlaw_keptFloat.V
  refine letB_intro fun b hb => letW_intro fun w0 hw0 => ?_
  have f0 : FmtAt w0 b fmt32 := by rw [hw0, hb]; exact FmtAt.new w fmt32 T_numlaw_Fmt
  have T0 : Same [] w.heap.size w w0 := by rw [hw0]; exact (Same.refl _ _ _).alloc (Nat.le_refl _) _
  clear hw0 hb
  refine ⟨_, _, _, _, _, _, f0.c0, f0.c1, f0.c2, f0.c3, f0.c4, f0.c5, (KeptKey32_spec x y hx hy w0).mono ?_⟩
  rintro v w1 ⟨rfl, S1⟩
  have f1 := f0.keep S1
  have T1 := T0.trans (S1.mono T0.size (by simp))
  refine ⟨_, rfl, cond_false' rfl ⟨_, _, _, _, _, _, f1.c0, f1.c1, f1.c2, f1.c3, f1.c4, f1.c5, (KeptSmall32_spec x y hx hy w1).mono ?_⟩⟩
  rintro v w2 ⟨rfl, S2⟩
  have f2 := f1.keep S2
  have T2 := T1.trans (S2.mono T1.size (by simp))
  refine ⟨_, rfl, cond_false' rfl ⟨_, _, _, _, _, _, f2.c0, f2.c1, f2.c2, f2.c3, f2.c4, f2.c5, (KeptZero32_spec x y hx hy w2).mono ?_⟩⟩
  rintro v w3 ⟨rfl, S3⟩
  have f3 := f2.keep S3
  have T3 := T2.trans (S3.mono T2.size (by simp))
  refine ⟨_, rfl, cond_false' rfl ⟨_, _, _, _, _, _, f3.c0, f3.c1, f3.c2, f3.c3, f3.c4, f3.c5, (KeptInf32_spec x y hx hy w3).mono ?_⟩⟩
  rintro v w4 ⟨rfl, S4⟩
  have f4 := f3.keep S4
  have T4 := T3.trans (S4.mono T3.size (by simp))
  refine ⟨_, rfl, cond_false' rfl ⟨_, _, _, _, _, _, f4.c0, f4.c1, f4.c2, f4.c3, f4.c4, f4.c5, (KeptWhole32_spec x hx w4).mono ?_⟩⟩
  rintro v w5 ⟨rfl, S5⟩
  exact ⟨_, rfl, rfl, T4.trans (S5.mono T4.size (by simp))⟩

theorem keptFloat64_spec (x y : Nat) (hx : x < 18446744073709551616) (hy : y < 18446744073709551616) (w : World) : Runs Try.prog numlaw_keptFloat.id #[fmt64.val, .int .i64 53, .int .i64 183, .int .u64 4607182418800017408, .int .u64 4602678819172646912, .int .u64 x, .int .u64 y] w fun v w' => v = .bool true ∧ Same [] w.heap.size w w' := by
  refine numlaw_keptFloat.enter 153 160 97 9223372036854775808 9218868437227405312 9221120237041090560 53 183 4607182418800017408 4602678819172646912 x y _ _ ?_
  unfold numlaw_keptFloat.V
  refine letB_intro fun b hb => letW_intro fun w0 hw0 => ?_
  have f0 : FmtAt w0 b fmt64 := by rw [hw0, hb]; exact FmtAt.new w fmt64 T_numlaw_Fmt
  have T0 : Same [] w.heap.size w w0 := by rw [hw0]; exact (Same.refl _ _ _).alloc (Nat.le_refl _) _
  clear hw0 hb
  refine ⟨_, _, _, _, _, _, f0.c0, f0.c1, f0.c2, f0.c3, f0.c4, f0.c5, (KeptKey64_spec x y hx hy w0).mono ?_⟩
  rintro v w1 ⟨rfl, S1⟩
  have f1 := f0.keep S1
  have T1 := T0.trans (S1.mono T0.size (by simp))
  refine ⟨_, rfl, cond_false' rfl ⟨_, _, _, _, _, _, f1.c0, f1.c1, f1.c2, f1.c3, f1.c4, f1.c5, (KeptSmall64_spec x y hx hy w1).mono ?_⟩⟩
  rintro v w2 ⟨rfl, S2⟩
  have f2 := f1.keep S2
  have T2 := T1.trans (S2.mono T1.size (by simp))
  refine ⟨_, rfl, cond_false' rfl ⟨_, _, _, _, _, _, f2.c0, f2.c1, f2.c2, f2.c3, f2.c4, f2.c5, (KeptZero64_spec x y hx hy w2).mono ?_⟩⟩
  rintro v w3 ⟨rfl, S3⟩
  have f3 := f2.keep S3
  have T3 := T2.trans (S3.mono T2.size (by simp))
  refine ⟨_, rfl, cond_false' rfl ⟨_, _, _, _, _, _, f3.c0, f3.c1, f3.c2, f3.c3, f3.c4, f3.c5, (KeptInf64_spec x y hx hy w3).mono ?_⟩⟩
  rintro v w4 ⟨rfl, S4⟩
  have f4 := f3.keep S4
  have T4 := T3.trans (S4.mono T3.size (by simp))
  refine ⟨_, rfl, cond_false' rfl ⟨_, _, _, _, _, _, f4.c0, f4.c1, f4.c2, f4.c3, f4.c4, f4.c5, (KeptWhole64_spec x hx w4).mono ?_⟩⟩
  rintro v w5 ⟨rfl, S5⟩
  exact ⟨_, rfl, rfl, T4.trans (S5.mono T4.size (by simp))⟩

theorem KeptP_spec (o : OpV) (hs : o.s.size ≤ 9223372036854775807) (w : World) : Runs Try.prog numlaw_KeptP.id #[o.val] w fun v w' => v = .bool true ∧ Same [] w.heap.size w w' := by
  refine numlaw_KeptP.enter o.kind o.a o.b o.c o.s o.t _ _ ?_
  unfold numlaw_KeptP.V
  refine letB_intro fun b hb => letW_intro fun w1 hw1 => ?_
  have hO : OpAt w1 b o := by rw [hw1, hb]; exact OpAt.new w o T_api_Op
  have hS : Same [] w.heap.size w w1 := by rw [hw1]; exact (Same.refl _ _ _).alloc (Nat.le_refl _) _
  clear hw1 hb
  have main : numlaw_KeptP.L1 b (fun v w' => v = .bool true ∧ Same [] w.heap.size w w') w1 := by
    refine numlaw_KeptP.step1 _ _ _ ?_
    unfold numlaw_KeptP.V1
    refine ⟨_, _, _, _, _, _, hO.c0, hO.c1, hO.c2, hO.c3, hO.c4, hO.c5, (Words_spec o hs w1).mono ?_⟩
    rintro v w2 ⟨⟨x, y, rfl, hx, hy⟩, S2⟩
    have hO2 := hO.same S2 hO.lt (by simp)
    have T2 := hS.trans (S2.mono hS.size (by simp))
    refine ⟨_, _, rfl, _, hO2.c1, (api_NumSig.pure _ w2).mono ?_⟩
    rintro v w3 ⟨rfl, rfl⟩
    refine ⟨_, _, _, rfl, ?_⟩
    generalize api_NumSig.F o.a = sg0
    obtain ⟨n, t, u⟩ := sg0
    simp only
    obtain ⟨X, hXe, hX⟩ := andnot_low x hx
    obtain ⟨Y, hYe, hY⟩ := andnot_low y hy
    have l6 : ∀ w', Same [] w.heap.size w w' → numlaw_KeptP.L6 x true (fun v w' => v = .bool true ∧ Same [] w.heap.size w w') w' := fun w4 T4 => by
      refine numlaw_KeptP.step6 _ _ _ _ ?_
      unfold numlaw_KeptP.V6
      refine (KeptWiden_spec x hx w4).mono ?_
      rintro v w5 ⟨rfl, S5⟩
      exact ⟨_, rfl, rfl, T4.trans (S5.mono T4.size (by simp))⟩
    have l7 : ∀ w', Same [] w.heap.size w w' → numlaw_KeptP.L7 x true (fun v w' => v = .bool true ∧ Same [] w.heap.size w w') w' := fun w4 T4 => by
      refine numlaw_KeptP.step7 _ _ _ _ ?_
      unfold numlaw_KeptP.V7
      refine (KeptWiden_spec x hx w4).mono ?_
      rintro v w5 ⟨rfl, S5⟩
      exact ⟨_, rfl, rfl, T4.trans (S5.mono T4.size (by simp))⟩
    refine cond_intro (fun _ => ?_) (fun _ => cond_intro (fun _ => ?_) (fun _ => cond_intro (fun _ => ?_) (fun _ => cond_intro (fun _ => ?_) (fun _ => ⟨by trivial, T2⟩))))
    · -- i32
      rw [hXe, hYe]
      refine (KeptWord32_spec X Y hX hY w3).mono ?_
      rintro v w4 ⟨rfl, S4⟩
      have T4 := T2.trans (S4.mono T2.size (by simp))
      refine ⟨_, rfl, (KeptRel32_spec X Y hX hY w4).mono ?_⟩
      rintro v w5 ⟨rfl, S5⟩
      have T5 := T4.trans (S5.mono T4.size (by simp))
      refine ⟨_, rfl, ?_⟩
      refine numlaw_KeptP.step2 _ _ _ _ ?_
      unfold numlaw_KeptP.V2
      rw [hXe]
      refine (KeptConv32_spec X hX w5).mono ?_
      rintro v w6 ⟨rfl, S6⟩
      exact ⟨_, rfl, l6 w6 (T5.trans (S6.mono T5.size (by simp)))⟩
    · -- i64
      obtain ⟨Z, rfl⟩ : ∃ n : Nat, x = (n : Int) := ⟨x.toNat, by unfold U64 at hx; omega⟩
      obtain ⟨Q, rfl⟩ : ∃ n : Nat, y = (n : Int) := ⟨y.toNat, by unfold U64 at hy; omega⟩
      have hZ : Z < 18446744073709551616 := by unfold U64 at hx; omega
      have hQ : Q < 18446744073709551616 := by unfold U64 at hy; omega
      refine (KeptWord64_spec Z Q hZ hQ w3).mono ?_
      rintro v w4 ⟨rfl, S4⟩
      have T4 := T2.trans (S4.mono T2.size (by simp))
      refine ⟨_, rfl, (KeptRel64_spec Z Q hZ hQ w4).mono ?_⟩
      rintro v w5 ⟨rfl, S5⟩
      have T5 := T4.trans (S5.mono T4.size (by simp))
      refine ⟨_, rfl, ?_⟩
      refine numlaw_KeptP.step3 _ _ _ _ ?_
      unfold numlaw_KeptP.V3
      refine (KeptConv64_spec Z hZ w5).mono ?_
      rintro v w6 ⟨rfl, S6⟩
      exact ⟨_, rfl, l7 w6 (T5.trans (S6.mono T5.size (by simp)))⟩
    · -- f32
      refine (F32_spec w3).mono ?_
      rintro v w4 ⟨rfl, S4⟩
      have T4 := T2.trans (S4.mono T2.size (by simp))
      refine ⟨_, _, _, _, _, _, rfl, ?_⟩
      refine letB_intro fun p hp => letW_intro fun w5 hw5 => ?_
      have g5 : FmtAt w5 p ⟨0, 0, 0, 0, 0, 0⟩ := by rw [hw5, hp]; exact FmtAt.new w4 ⟨0, 0, 0, 0, 0, 0⟩ T_numlaw_Fmt
      have T5 : Same [] w.heap.size w w5 := by rw [hw5]; exact T4.alloc T4.size _
      have hpw : w.heap.size ≤ p := by rw [hp]; exact T4.size
      clear hw5 hp
      refine g5.put_intro (g := fmt32) fun w6 g6 h6 => ?_
      have T6 := same_fresh T5 hpw h6
      rw [hXe, hYe]
      refine (KeptPromote_spec X hX w6).mono ?_
      rintro v w7 ⟨rfl, S7⟩
      have g7 := g6.keep S7
      have T7 := T6.trans (S7.mono T6.size (by simp))
      refine ⟨_, rfl, ⟨_, _, _, _, _, _, g7.c0, g7.c1, g7.c2, g7.c3, g7.c4, g7.c5, (KeptNaN32_spec X Y hX hY w7).mono ?_⟩⟩
      rintro v w8 ⟨rfl, S8⟩
      have g8 := g7.keep S8
      have T8 := T7.trans (S8.mono T7.size (by simp))
      refine ⟨_, rfl, ?_⟩
      refine numlaw_KeptP.step4 _ _ _ _ _ _ ?_
      unfold numlaw_KeptP.V4
      rw [hXe, hYe]
      refine ⟨_, _, _, _, _, _, g8.c0, g8.c1, g8.c2, g8.c3, g8.c4, g8.c5, (keptFloat32_spec X Y hX hY w8).mono ?_⟩
      rintro v w9 ⟨rfl, S9⟩
      exact ⟨_, rfl, rfl, T8.trans (S9.mono T8.size (by simp))⟩
    · -- f64
      obtain ⟨Z, rfl⟩ : ∃ n : Nat, x = (n : Int) := ⟨x.toNat, by unfold U64 at hx; omega⟩
      obtain ⟨Q, rfl⟩ : ∃ n : Nat, y = (n : Int) := ⟨y.toNat, by unfold U64 at hy; omega⟩
      have hZ : Z < 18446744073709551616 := by unfold U64 at hx; omega
      have hQ : Q < 18446744073709551616 := by unfold U64 at hy; omega
      refine (F64_spec w3).mono ?_
      rintro v w4 ⟨rfl, S4⟩
      have T4 := T2.trans (S4.mono T2.size (by simp))
      refine ⟨_, _, _, _, _, _, rfl, ?_⟩
      refine letB_intro fun p hp => letW_intro fun w5 hw5 => ?_
      have g5 : FmtAt w5 p ⟨0, 0, 0, 0, 0, 0⟩ := by rw [hw5, hp]; exact FmtAt.new w4 ⟨0, 0, 0, 0, 0, 0⟩ T_numlaw_Fmt
      have T5 : Same [] w.heap.size w w5 := by rw [hw5]; exact T4.alloc T4.size _
      have hpw : w.heap.size ≤ p := by rw [hp]; exact T4.size
      clear hw5 hp
      refine g5.put_intro (g := fmt64) fun w6 g6 h6 => ?_
      have T6 := same_fresh T5 hpw h6
      refine ⟨_, _, _, _, _, _, g6.c0, g6.c1, g6.c2, g6.c3, g6.c4, g6.c5, (KeptNaN64_spec Z Q hZ hQ w6).mono ?_⟩
      rintro v w7 ⟨rfl, S7⟩
      have g7 := g6.keep S7
      have T7 := T6.trans (S7.mono T6.size (by simp))
      refine ⟨_, rfl, (KeptDemote_spec Z hZ w7).mono ?_⟩
      rintro v w8 ⟨rfl, S8⟩
      have g8 := g7.keep S8
      have T8 := T7.trans (S8.mono T7.size (by simp))
      refine ⟨_, rfl, ?_⟩
      refine numlaw_KeptP.step5 _ _ _ _ _ _ ?_
      unfold numlaw_KeptP.V5
      refine ⟨_, _, _, _, _, _, g8.c0, g8.c1, g8.c2, g8.c3, g8.c4, g8.c5, (keptFloat64_spec Z Q hZ hQ w8).mono ?_⟩
      rintro v w9 ⟨rfl, S9⟩
      exact ⟨_, rfl, rfl, T8.trans (S9.mono T8.size (by simp))⟩
  refine ⟨_, hO.c0, cond_intro (fun _ => ?_) (fun _ => main)⟩
  exact ⟨_, hO.c0, cond_intro (fun _ => ⟨rfl, hS⟩) (fun _ => main)⟩

theorem KeepsPlainUpTo_loop (w0 : World) (a : Option Addr) (l c : Nat) (hs : ScriptAt w0 a l) (R : Value → World → Prop) (hR : ∀ w', Same [] w0.heap.size w0 w' → R (.int .i64 (-1)) w') :
    ∀ (f i : Nat) (w : World), i + f = l → Same [] w0.heap.size w0 w → numlaw_KeepsPlainUpTo.L1 a l c i R w := by
  intro f
  induction f with
  | zero =>
    intro i w hi C
    refine numlaw_KeepsPlainUpTo.step1 _ _ _ _ _ _ ?_
    unfold numlaw_KeepsPlainUpTo.V1
    exact cond_false' (by simp; omega) (hR w C)
  | succ f ih =>
    intro i w hi C
    refine numlaw_KeepsPlainUpTo.step1 _ _ _ _ _ _ ?_
    unfold numlaw_KeepsPlainUpTo.V1
    refine cond_true' (by simp; omega) ?_
    generalize hM : (4398046511104 : Int) = M
    refine cond_intro (fun hm => ?_) (fun hm => hR w C)
    subst hM
    have hm : (i : Int) < 4398046511104 := of_decide_eq_true hm
    rcases hs with h0 | ⟨b, off, rfl, hs⟩
    · omega
    obtain ⟨o, hF, hO0⟩ := hs i (by omega)
    have hO := hO0.same C
    refine numlaw_KeepsPlainUpTo.step2 _ _ _ _ _ _ ?_
    unfold numlaw_KeepsPlainUpTo.V2
    simp only [nilV_some, add_mk, Int.toNat_natCast]
    refine ⟨by omega, _, _, _, _, _, _, hO.c0, hO.c1, hO.c2, hO.c3, hO.c4, hO.c5, ?_⟩
    refine (KeptP_spec o hF.s w).mono ?_
    rintro v w1 ⟨rfl, hS1⟩
    refine ⟨_, rfl, cond_false' rfl ?_⟩
    have e : IntKind.wrap .i64 ((i : Int) + 1) = ((i + 1 : Nat) : Int) := by rw [wrap_i64 (by omega) (by omega)]; omega
    rw [e]
    exact ih (i + 1) w1 (by omega) (C.trans (hS1.mono C.size (by simp)))

theorem KeepsPlain_spec (w : World) (a : Option Addr) (l c : Nat) (hs : ScriptAt w a l) : Runs Try.prog numlaw_KeepsPlain.id #[.slice a l c] w fun v w' => v = .bool true ∧ Same [] w.heap.size w w' := by
  refine numlaw_KeepsPlain.enter _ _ _ _ _ ?_
  unfold numlaw_KeepsPlain.V
  have h : Runs Try.prog numlaw_KeepsPlainUpTo.id #[.slice a l c] w fun v w' => v = .int .i64 (-1) ∧ Same [] w.heap.size w w' := by
    refine numlaw_KeepsPlainUpTo.enter _ _ _ _ _ ?_
    unfold numlaw_KeepsPlainUpTo.V
    exact KeepsPlainUpTo_loop w a l c hs _ (fun w' h => ⟨rfl, h⟩) l 0 w (by omega) (Same.refl _ _ _)
  refine h.mono ?_
  rintro v w1 ⟨rfl, hS⟩
  exact ⟨_, rfl, rfl, hS⟩

end Go.Proofs.Qxb6500320a
