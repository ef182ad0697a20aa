/-
  Floats: the conversions as a plain function.
-/
import Derived.Test.Qxb6500317aGreatFltJ
set_option linter.unusedSimpArgs false
set_option linter.unusedVariables false
set_option maxRecDepth 100000
namespace Go.Proofs.Qxb6500317aGreat.U
open Go Go.Vc

def dem (d : Nat) : Int × Int :=
  cond (Ieee.double.order d 5183643170835005440 == some .gt || Ieee.double.order d 5183643170835005440 == some .eq) (2139095040, 0)
    (cond (Ieee.double.order d 14407015207689781248 == some .lt || Ieee.double.order d 14407015207689781248 == some .eq) (4286578688, 0) (W64 ((ar32 (floatToFloatBits .f64 d .f32) : Nat) : Int), 0))

def cvs (op a : Int) (s d : Nat) : Int × Int :=
  (cond (op == (167 : Int)) (W3264 a, 0)
  (cond (op == (168 : Int)) (tr1 s)
  (cond (op == (169 : Int)) (tr2 s)
  (cond (op == (170 : Int)) (tr3 d)
  (cond (op == (171 : Int)) (tr4 d)
  (cond (op == (172 : Int)) (IntKind.wrap .u64 (IntKind.wrap .i64 (IntKind.wrap .i32 (IntKind.wrap .u32 a))), 0)
  (cond (op == (173 : Int)) (W3264 a, 0)
  (cond (op == (174 : Int)) (tr5 s)
  (cond (op == (175 : Int)) (tr6 s)
  (cond (op == (176 : Int)) (tr7 d)
  (cond (op == (177 : Int)) (tr8 d)
  (cond (op == (178 : Int)) (W64 ((FloatKind.nearest .f32 (IntKind.wrap .i32 (IntKind.wrap .u32 a)) : Nat) : Int), 0)
  (cond (op == (179 : Int)) (W64 ((FloatKind.nearest .f32 (IntKind.wrap .u32 a) : Nat) : Int), 0)
  (cond (op == (180 : Int)) (W64 ((FloatKind.nearest .f32 (IntKind.wrap .i64 a) : Nat) : Int), 0)
  (cond (op == (181 : Int)) (W64 ((FloatKind.nearest .f32 a : Nat) : Int), 0)
  (cond (op == (182 : Int)) (dem d)
  (cond (op == (183 : Int)) (((FloatKind.nearest .f64 (IntKind.wrap .i32 (IntKind.wrap .u32 a)) : Nat) : Int), 0)
  (cond (op == (184 : Int)) (((FloatKind.nearest .f64 (IntKind.wrap .u32 a) : Nat) : Int), 0)
  (cond (op == (185 : Int)) (((FloatKind.nearest .f64 (IntKind.wrap .i64 a) : Nat) : Int), 0)
  (cond (op == (186 : Int)) (((FloatKind.nearest .f64 a : Nat) : Int), 0)
  (cond (op == (187 : Int)) (((ar64 (floatToFloatBits .f32 s .f64) : Nat) : Int), 0)
  (cond (op == (188 : Int)) (W3264 a, 0) (cond (op == (190 : Int)) (W3264 a, 0) (a, 0))))))))))))))))))))))))

def cv (op a : Int) : Int × Int := cvs op a (IntKind.wrap .u32 a).toNat a.toNat

theorem promote_leave {R : Value → World → Prop} (x : Nat) (w : World) (hQ : ∀ w', Same [] w.heap.size w w' → R (.tuple #[.int .u64 ((ar64 (floatToFloatBits .f32 x .f64) : Nat) : Int), .int .i64 0]) w') :
    ∃ x45 : Nat, ∃ w44, Sem.run Tryz.prog (Go.convert T_float32 T_float64 (.float .f32 x)) w = .ok (.float .f64 x45) w44 ∧ (Runs Tryz.prog num_canon64.id #[(.float .f64 x45)] w44 fun r46 w47 => (∃ x48 : Int, (r46 = (.int .u64 x48) ∧ (R (.tuple #[(.int .u64 x48), (.int .i64 0)]) w47)))) := by
  obtain ⟨p, w1, h1, hS1, hp⟩ := run_promote x w
  refine ⟨p, w1, h1, leave64 (R := fun v w' => ∀ y, v = .int .u64 y → R (.tuple #[.int .u64 y, .int .i64 0]) w') (c := ar64 (floatToFloatBits .f32 x .f64)) ?_ ?_ |>.mono ?_⟩
  · cases hp0 : floatToFloatBits .f32 x .f64 with
    | none => rw [hp0] at hp; show cn64 p = 9221120237041090560; unfold cn64; rw [if_pos hp.1]
    | some p' => rw [hp0] at hp; simp only at hp; subst hp; rfl
  · intro y hy
    simp only [Value.int.injEq, true_and] at hy
    subst hy
    exact hQ w1 hS1
  · rintro v w2 ⟨y, rfl, hR⟩
    exact ⟨y, rfl, hR y rfl⟩

theorem demote_leave {R : Value → World → Prop} (d : Nat) (w : World) (hQ : (fun p : Int × Int => ∀ w', Same [] w.heap.size w w' → R (.tuple #[.int .u64 p.1, .int .i64 p.2]) w') (dem d)) :
    cond (Ieee.double.order d 5183643170835005440 == some .gt || Ieee.double.order d 5183643170835005440 == some .eq)
  (R (.tuple #[(.int .u64 2139095040), (.int .i64 0)]) w)
  (cond (Ieee.double.order d 14407015207689781248 == some .lt || Ieee.double.order d 14407015207689781248 == some .eq)
  (R (.tuple #[(.int .u64 4286578688), (.int .i64 0)]) w)
  (∃ x32 : Nat, ∃ w31, Sem.run Tryz.prog (Go.convert T_float64 T_float32 (.float .f64 d)) w = .ok (.float .f32 x32) w31 ∧ (Runs Tryz.prog num_canon32.id #[(.float .f32 x32)] w31 fun r33 w34 => (∃ x35 : Int, (r33 = (.int .u32 x35) ∧ (R (.tuple #[(.int .u64 (IntKind.wrap .u64 x35)), (.int .i64 0)]) w34)))))) := by
  unfold dem at hQ
  refine cond_q (fun p : Int × Int => ∀ w', Same [] w.heap.size w w' → R (.tuple #[.int .u64 p.1, .int .i64 p.2]) w') hQ (fun _ hQ => hQ w (Same.refl _ _ _)) (fun h1 hQ => ?_)
  refine cond_q (fun p : Int × Int => ∀ w', Same [] w.heap.size w w' → R (.tuple #[.int .u64 p.1, .int .i64 p.2]) w') hQ (fun _ hQ => hQ w (Same.refl _ _ _)) (fun h2 hQ => ?_)
  obtain ⟨r, w1, hr, hS, hc⟩ := run_demote d (demote_fits d h1 h2) w
  refine ⟨r, w1, hr, leave32 (R := fun v w' => ∀ y, v = .int .u32 y → R (.tuple #[.int .u64 (IntKind.wrap .u64 y), .int .i64 0]) w') hc ?_ |>.mono ?_⟩
  · intro y hy
    simp only [Value.int.injEq, true_and] at hy
    subst hy
    exact hQ w1 hS
  · rintro v w2 ⟨y, rfl, hR⟩
    exact ⟨y, rfl, hR y rfl⟩

theorem conv_spec (op a : Int) (w : World) : Runs Tryz.prog num_conv.id #[.int .i64 op, .int .u64 a] w fun v w' => v = .tuple #[.int .u64 (cv op a).1, .int .i64 (cv op a).2] ∧ Same [] w.heap.size w w' := by
  refine num_conv.enter _ _ _ _ ?_
  have H : ∀ R : Value → World → Prop, (∀ w', Same [] w.heap.size w w' → R (.tuple #[.int .u64 (cv op a).1, .int .i64 (cv op a).2]) w') → num_conv.V op a R w := by
    intro R hR
    unfold num_conv.V
    have e1 : ∀ a b, Ieee.Format.order (FloatKind.format .f32) a b = Ieee.single.order a b := fun a b => rfl
    have e2 : ∀ a b, Ieee.Format.order (FloatKind.format .f64) a b = Ieee.double.order a b := fun a b => rfl
    simp only [e1, e2]
    refine ⟨_, _, run_f32from (IntKind.wrap .u32 a) w, _, _, run_f64from a w, ?_⟩
    have hQ : (fun p : Int × Int => ∀ w', Same [] w.heap.size w w' → R (.tuple #[.int .u64 p.1, .int .i64 p.2]) w') (cv op a) := hR
    unfold cv cvs at hQ
    clear hR
    refine cond_q (fun p : Int × Int => ∀ w', Same [] w.heap.size w w' → R (.tuple #[.int .u64 p.1, .int .i64 p.2]) w') hQ (fun _ hQ => hQ w (Same.refl _ _ _)) (fun _ hQ => ?_)
    refine cond_q (fun p : Int × Int => ∀ w', Same [] w.heap.size w w' → R (.tuple #[.int .u64 p.1, .int .i64 p.2]) w') hQ (fun _ hQ => tr1_walk _ w hQ) (fun _ hQ => ?_)
    refine cond_q (fun p : Int × Int => ∀ w', Same [] w.heap.size w w' → R (.tuple #[.int .u64 p.1, .int .i64 p.2]) w') hQ (fun _ hQ => tr2_walk _ w hQ) (fun _ hQ => ?_)
    refine cond_q (fun p : Int × Int => ∀ w', Same [] w.heap.size w w' → R (.tuple #[.int .u64 p.1, .int .i64 p.2]) w') hQ (fun _ hQ => tr3_walk _ w hQ) (fun _ hQ => ?_)
    refine cond_q (fun p : Int × Int => ∀ w', Same [] w.heap.size w w' → R (.tuple #[.int .u64 p.1, .int .i64 p.2]) w') hQ (fun _ hQ => tr4_walk _ w hQ) (fun _ hQ => ?_)
    refine cond_q (fun p : Int × Int => ∀ w', Same [] w.heap.size w w' → R (.tuple #[.int .u64 p.1, .int .i64 p.2]) w') hQ (fun _ hQ => hQ w (Same.refl _ _ _)) (fun _ hQ => ?_)
    refine cond_q (fun p : Int × Int => ∀ w', Same [] w.heap.size w w' → R (.tuple #[.int .u64 p.1, .int .i64 p.2]) w') hQ (fun _ hQ => hQ w (Same.refl _ _ _)) (fun _ hQ => ?_)
    refine cond_q (fun p : Int × Int => ∀ w', Same [] w.heap.size w w' → R (.tuple #[.int .u64 p.1, .int .i64 p.2]) w') hQ (fun _ hQ => tr5_walk _ w hQ) (fun _ hQ => ?_)
    refine cond_q (fun p : Int × Int => ∀ w', Same [] w.heap.size w w' → R (.tuple #[.int .u64 p.1, .int .i64 p.2]) w') hQ (fun _ hQ => tr6_walk _ w hQ) (fun _ hQ => ?_)
    refine cond_q (fun p : Int × Int => ∀ w', Same [] w.heap.size w w' → R (.tuple #[.int .u64 p.1, .int .i64 p.2]) w') hQ (fun _ hQ => tr7_walk _ w hQ) (fun _ hQ => ?_)
    refine cond_q (fun p : Int × Int => ∀ w', Same [] w.heap.size w w' → R (.tuple #[.int .u64 p.1, .int .i64 p.2]) w') hQ (fun _ hQ => tr8_walk _ w hQ) (fun _ hQ => ?_)
    refine cond_q (fun p : Int × Int => ∀ w', Same [] w.heap.size w w' → R (.tuple #[.int .u64 p.1, .int .i64 p.2]) w') hQ (fun _ hQ => ⟨_, _, run_f32bits _ w, hQ w (Same.refl _ _ _)⟩) (fun _ hQ => ?_)
    refine cond_q (fun p : Int × Int => ∀ w', Same [] w.heap.size w w' → R (.tuple #[.int .u64 p.1, .int .i64 p.2]) w') hQ (fun _ hQ => ⟨_, _, run_f32bits _ w, hQ w (Same.refl _ _ _)⟩) (fun _ hQ => ?_)
    refine cond_q (fun p : Int × Int => ∀ w', Same [] w.heap.size w w' → R (.tuple #[.int .u64 p.1, .int .i64 p.2]) w') hQ (fun _ hQ => ⟨_, _, run_f32bits _ w, hQ w (Same.refl _ _ _)⟩) (fun _ hQ => ?_)
    refine cond_q (fun p : Int × Int => ∀ w', Same [] w.heap.size w w' → R (.tuple #[.int .u64 p.1, .int .i64 p.2]) w') hQ (fun _ hQ => ⟨_, _, run_f32bits _ w, hQ w (Same.refl _ _ _)⟩) (fun _ hQ => ?_)
    refine cond_q (fun p : Int × Int => ∀ w', Same [] w.heap.size w w' → R (.tuple #[.int .u64 p.1, .int .i64 p.2]) w') hQ (fun _ hQ => demote_leave _ w hQ) (fun _ hQ => ?_)
    refine cond_q (fun p : Int × Int => ∀ w', Same [] w.heap.size w w' → R (.tuple #[.int .u64 p.1, .int .i64 p.2]) w') hQ (fun _ hQ => ⟨_, _, run_f64bits _ w, hQ w (Same.refl _ _ _)⟩) (fun _ hQ => ?_)
    refine cond_q (fun p : Int × Int => ∀ w', Same [] w.heap.size w w' → R (.tuple #[.int .u64 p.1, .int .i64 p.2]) w') hQ (fun _ hQ => ⟨_, _, run_f64bits _ w, hQ w (Same.refl _ _ _)⟩) (fun _ hQ => ?_)
    refine cond_q (fun p : Int × Int => ∀ w', Same [] w.heap.size w w' → R (.tuple #[.int .u64 p.1, .int .i64 p.2]) w') hQ (fun _ hQ => ⟨_, _, run_f64bits _ w, hQ w (Same.refl _ _ _)⟩) (fun _ hQ => ?_)
    refine cond_q (fun p : Int × Int => ∀ w', Same [] w.heap.size w w' → R (.tuple #[.int .u64 p.1, .int .i64 p.2]) w') hQ (fun _ hQ => ⟨_, _, run_f64bits _ w, hQ w (Same.refl _ _ _)⟩) (fun _ hQ => ?_)
    refine cond_q (fun p : Int × Int => ∀ w', Same [] w.heap.size w w' → R (.tuple #[.int .u64 p.1, .int .i64 p.2]) w') hQ (fun _ hQ => promote_leave _ w hQ) (fun _ hQ => ?_)
    refine cond_q (fun p : Int × Int => ∀ w', Same [] w.heap.size w w' → R (.tuple #[.int .u64 p.1, .int .i64 p.2]) w') hQ (fun _ hQ => ?_) (fun _ hQ => ?_)
    · refine num_conv.step9 _ _ _ _ _ ?_
      unfold num_conv.V9
      exact cond_true' rfl (hQ w (Same.refl _ _ _))
    · refine num_conv.step9 _ _ _ _ _ ?_
      unfold num_conv.V9
      exact cond_q (fun p : Int × Int => ∀ w', Same [] w.heap.size w w' → R (.tuple #[.int .u64 p.1, .int .i64 p.2]) w') hQ (fun _ hQ => hQ w (Same.refl _ _ _)) (fun _ hQ => hQ w (Same.refl _ _ _))
  exact H _ fun w' hS => ⟨rfl, hS⟩

end Go.Proofs.Qxb6500317aGreat.U
