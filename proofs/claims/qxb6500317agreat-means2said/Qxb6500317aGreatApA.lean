/-
  Apply as a plain function.
-/
import Derived.Test.Qxb6500317aGreatFltK
set_option linter.unusedSimpArgs false
set_option linter.unusedVariables false
set_option maxRecDepth 100000
namespace Go.Proofs.Qxb6500317aGreat.U
open Go Go.Vc

def wd (p : Int × Int) : Int × Int := (IntKind.wrap .u64 p.1, p.2)

def ap1 (op a b : Int) (t : Bool) : Int × Int :=
  cond t (0, 35)
  (cond (decide (op ≤ (79 : Int))) (num_flag.F (num_rel32.F op (IntKind.wrap .u32 a) (IntKind.wrap .u32 b)), 0)
  (cond (decide (op ≤ (90 : Int))) (num_flag.F (num_rel64.F op a b), 0)
  (cond (decide (op ≤ (96 : Int))) (num_flag.F (num_relF32.F op (IntKind.wrap .u32 a).toNat (IntKind.wrap .u32 b).toNat), 0)
  (cond (decide (op ≤ (102 : Int))) (num_flag.F (num_relF64.F op a.toNat b.toNat), 0)
  (cond (decide (op ≤ (120 : Int))) (wd (num_int32s.F op (IntKind.wrap .u32 a) (IntKind.wrap .u32 b)))
  (cond (decide (op ≤ (138 : Int))) (num_int64s.F op a b)
  (cond (decide (op ≤ (152 : Int))) (IntKind.wrap .u64 (fl32 op (IntKind.wrap .u32 a) (IntKind.wrap .u32 b)), 0)
  (cond (decide (op ≤ (166 : Int))) (fl64 op a b, 0)
  (cv op a)))))))))

def ap (op a b : Int) : Int × Int := cond (decide (op < (69 : Int))) (ap1 op a b true) (ap1 op a b (decide (op > (191 : Int))))

theorem Apply_walk {R : Value → World → Prop} (op a b : Int) (t : Bool) (w : World) (hb0 : 0 ≤ b) (hb1 : b < 18446744073709551616)
    (hQ : (fun p : Int × Int => ∀ w', Same [] w.heap.size w w' → R (.tuple #[.int .u64 p.1, .int .i64 p.2]) w') (ap1 op a b t)) : num_Apply.L1 op a b t R w := by
  refine num_Apply.step1 _ _ _ _ _ _ ?_
  unfold num_Apply.V1
  unfold ap1 at hQ
  refine cond_q (fun p : Int × Int => ∀ w', Same [] w.heap.size w w' → R (.tuple #[.int .u64 p.1, .int .i64 p.2]) w') hQ (fun _ hQ => hQ w (Same.refl _ _ _)) (fun _ hQ => ?_)
  refine cond_q (fun p : Int × Int => ∀ w', Same [] w.heap.size w w' → R (.tuple #[.int .u64 p.1, .int .i64 p.2]) w') hQ (fun _ hQ => ?_) (fun _ hQ => ?_)
  · refine (num_rel32.pure _ _ _ w).mono ?_
    rintro v w1 ⟨rfl, rfl⟩
    refine ⟨_, rfl, (num_flag.pure _ w1).mono ?_⟩
    rintro v w2 ⟨rfl, rfl⟩
    exact ⟨_, rfl, hQ _ (Same.refl _ _ _)⟩
  refine cond_q (fun p : Int × Int => ∀ w', Same [] w.heap.size w w' → R (.tuple #[.int .u64 p.1, .int .i64 p.2]) w') hQ (fun _ hQ => ?_) (fun _ hQ => ?_)
  · refine (num_rel64.pure _ _ _ w).mono ?_
    rintro v w1 ⟨rfl, rfl⟩
    refine ⟨_, rfl, (num_flag.pure _ w1).mono ?_⟩
    rintro v w2 ⟨rfl, rfl⟩
    exact ⟨_, rfl, hQ _ (Same.refl _ _ _)⟩
  refine cond_q (fun p : Int × Int => ∀ w', Same [] w.heap.size w w' → R (.tuple #[.int .u64 p.1, .int .i64 p.2]) w') hQ (fun _ hQ => ?_) (fun _ hQ => ?_)
  · refine ⟨_, _, run_f32from _ w, _, _, run_f32from _ w, (num_relF32.pure _ _ _ w).mono ?_⟩
    rintro v w1 ⟨rfl, rfl⟩
    refine ⟨_, rfl, (num_flag.pure _ w1).mono ?_⟩
    rintro v w2 ⟨rfl, rfl⟩
    exact ⟨_, rfl, hQ _ (Same.refl _ _ _)⟩
  refine cond_q (fun p : Int × Int => ∀ w', Same [] w.heap.size w w' → R (.tuple #[.int .u64 p.1, .int .i64 p.2]) w') hQ (fun _ hQ => ?_) (fun _ hQ => ?_)
  · refine ⟨_, _, run_f64from _ w, _, _, run_f64from _ w, (num_relF64.pure _ _ _ w).mono ?_⟩
    rintro v w1 ⟨rfl, rfl⟩
    refine ⟨_, rfl, (num_flag.pure _ w1).mono ?_⟩
    rintro v w2 ⟨rfl, rfl⟩
    exact ⟨_, rfl, hQ _ (Same.refl _ _ _)⟩
  refine cond_q (fun p : Int × Int => ∀ w', Same [] w.heap.size w w' → R (.tuple #[.int .u64 p.1, .int .i64 p.2]) w') hQ (fun _ hQ => ?_) (fun _ hQ => ?_)
  · refine (num_int32s.pure _ _ _ w (int32_pre _ _ _ (wrap_u32_rng b).1 (wrap_u32_rng b).2)).mono ?_
    rintro v w1 ⟨rfl, rfl⟩
    exact ⟨_, _, rfl, hQ _ (Same.refl _ _ _)⟩
  refine cond_q (fun p : Int × Int => ∀ w', Same [] w.heap.size w w' → R (.tuple #[.int .u64 p.1, .int .i64 p.2]) w') hQ (fun _ hQ => ?_) (fun _ hQ => ?_)
  · refine (num_int64s.pure _ _ _ w (int64_pre _ _ _ hb0 hb1)).mono ?_
    rintro v w1 ⟨rfl, rfl⟩
    exact ⟨_, _, rfl, hQ _ (Same.refl _ _ _)⟩
  refine cond_q (fun p : Int × Int => ∀ w', Same [] w.heap.size w w' → R (.tuple #[.int .u64 p.1, .int .i64 p.2]) w') hQ (fun _ hQ => ?_) (fun _ hQ => ?_)
  · refine (float32s_spec _ _ _ w).mono ?_
    rintro v w1 ⟨rfl, hS⟩
    exact ⟨_, rfl, hQ _ hS⟩
  refine cond_q (fun p : Int × Int => ∀ w', Same [] w.heap.size w w' → R (.tuple #[.int .u64 p.1, .int .i64 p.2]) w') hQ (fun _ hQ => ?_) (fun _ hQ => ?_)
  · refine (float64s_spec _ _ _ w).mono ?_
    rintro v w1 ⟨rfl, hS⟩
    exact ⟨_, rfl, hQ _ hS⟩
  · refine (conv_spec _ _ w).mono ?_
    rintro v w1 ⟨rfl, hS⟩
    exact ⟨_, _, rfl, hQ _ hS⟩

theorem Apply_spec (op a b : Int) (hb0 : 0 ≤ b) (hb1 : b < 18446744073709551616) (w : World) :
    Runs Tryz.prog num_Apply.id #[.int .i64 op, .int .u64 a, .int .u64 b] w fun v w' => v = .tuple #[.int .u64 (ap op a b).1, .int .i64 (ap op a b).2] ∧ Same [] w.heap.size w w' := by
  refine num_Apply.enter _ _ _ _ _ ?_
  unfold num_Apply.V
  have hQ : ∀ R : Value → World → Prop, (∀ w', Same [] w.heap.size w w' → R (.tuple #[.int .u64 (ap op a b).1, .int .i64 (ap op a b).2]) w') → cond (decide (op < (69 : Int))) (num_Apply.L1 op a b true R w) (num_Apply.L1 op a b (decide (op > (191 : Int))) R w) := by
    intro R hR
    have hQ : (fun p : Int × Int => ∀ w', Same [] w.heap.size w w' → R (.tuple #[.int .u64 p.1, .int .i64 p.2]) w') (ap op a b) := hR
    unfold ap at hQ
    exact cond_q (fun p : Int × Int => ∀ w', Same [] w.heap.size w w' → R (.tuple #[.int .u64 p.1, .int .i64 p.2]) w') hQ (fun _ hQ => Apply_walk op a b _ w hb0 hb1 hQ) (fun _ hQ => Apply_walk op a b _ w hb0 hb1 hQ)
  exact hQ _ fun w' hS => ⟨rfl, hS⟩

end Go.Proofs.Qxb6500317aGreat.U
