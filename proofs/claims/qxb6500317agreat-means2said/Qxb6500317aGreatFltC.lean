/-
  Floats: trunc, ceil, floor.
-/
import Derived.Test.Qxb6500317aGreatFltB
set_option linter.unusedSimpArgs false
set_option linter.unusedVariables false
set_option maxRecDepth 100000
namespace Go.Proofs.Qxb6500317aGreat.U
open Go Go.Vc

def cutV (f : Ieee.Format) (x : Nat) : Int := ((f.read x).toInt .zero).getD 0

def cut32 (x : Nat) : Nat :=
  cond (Ieee.single.order x 3405774848 == some .gt) (cond (Ieee.single.order x 1258291200 == some .lt)
    (cond (Ieee.single.order (FloatKind.nearest .f32 (cutV Ieee.single x)) 0 == some .eq) (bAnd .u32 (x : Int) 2147483648).toNat (FloatKind.nearest .f32 (cutV Ieee.single x))) x) x

theorem trunc23 (x : Nat) (h1 : Ieee.single.order x 1258291200 = some .lt) (h2 : Ieee.single.order x 3405774848 = some .gt) : floatToIntVal .f32 x .i32 = some (cutV Ieee.single x) := by
  obtain ⟨q, hq, h3, h4⟩ := trunc_in Ieee.single x 1258291200 3405774848 8388608 8388608 0 0 8388608 8388608 149 149 149 (by decide) (by decide) (by decide) (by decide) (by decide) rfl rfl (by decide) (by decide) h1 h2
  unfold floatToIntVal cutV
  show (match (Ieee.single.read x).toInt .zero with | some n => if IntKind.min .i32 ≤ n ∧ n ≤ IntKind.max .i32 then some n else none | none => none) = _
  rw [hq]
  have m1 : IntKind.min .i32 = -2147483648 := by decide
  have m2 : IntKind.max .i32 = 2147483647 := by decide
  simp only [m1, m2, Option.getD_some]
  rw [if_pos ⟨by omega, by omega⟩]

theorem cut32_spec (x : Nat) (w : World) : Runs Tryz.prog num_cut32.id #[.float .f32 x] w fun v w' => v = .float .f32 (cut32 x) ∧ w' = w := by
  refine num_cut32.enter _ _ _ ?_
  unfold num_cut32.V
  have e : ∀ a b, Ieee.Format.order (FloatKind.format .f32) a b = Ieee.single.order a b := fun a b => rfl
  simp only [e]
  have out : (cut32 x = x) → num_cut32.L1 x true (fun v w' => v = .float .f32 (cut32 x) ∧ w' = w) w := fun h => by
    refine num_cut32.step1 _ _ _ _ ?_
    unfold num_cut32.V1
    exact cond_true' rfl ⟨by rw [h], rfl⟩
  refine cond_intro (fun h1 => ?_) (fun h1 => out (by unfold cut32; rw [h1]; rfl))
  by_cases h2 : (Ieee.single.order x 1258291200 == some .lt) = true
  · rw [h2]
    refine num_cut32.step1 _ _ _ _ ?_
    unfold num_cut32.V1
    refine cond_false' rfl ?_
    have hv := trunc23 x (by simpa using h2) (by simpa using h1)
    refine ⟨_, _, run_convert_float_int w T_float32 T_int32 .f32 .i32 x _ (by kernel_rfl) (by kernel_rfl) hv, ?_⟩
    simp only [e]
    refine cond_intro (fun h3 => ?_) (fun h3 => ?_)
    · refine ⟨_, _, run_f32bits x w, _, _, run_f32from _ w, ?_, rfl⟩
      unfold cut32; rw [h1, h2, h3]; rfl
    · refine ⟨?_, by trivial⟩
      unfold cut32; rw [h1, h2, h3]; rfl
  · have h2' : (Ieee.single.order x 1258291200 == some .lt) = false := by simpa using h2
    rw [h2']
    exact out (by unfold cut32; rw [h1, h2']; rfl)

def cut64 (x : Nat) : Nat :=
  cond (Ieee.double.order x 14064741636278059008 == some .gt) (cond (Ieee.double.order x 4841369599423283200 == some .lt)
    (cond (Ieee.double.order (FloatKind.nearest .f64 (cutV Ieee.double x)) 0 == some .eq) (bAnd .u64 (x : Int) 9223372036854775808).toNat (FloatKind.nearest .f64 (cutV Ieee.double x))) x) x

theorem trunc52 (x : Nat) (h1 : Ieee.double.order x 4841369599423283200 = some .lt) (h2 : Ieee.double.order x 14064741636278059008 = some .gt) : floatToIntVal .f64 x .i64 = some (cutV Ieee.double x) := by
  obtain ⟨q, hq, h3, h4⟩ := trunc_in Ieee.double x 4841369599423283200 14064741636278059008 4503599627370496 4503599627370496 0 0 4503599627370496 4503599627370496 1074 1074 1074 (by decide) (by decide) (by decide) (by decide) (by decide) rfl rfl (by decide) (by decide) h1 h2
  unfold floatToIntVal cutV
  show (match (Ieee.double.read x).toInt .zero with | some n => if IntKind.min .i64 ≤ n ∧ n ≤ IntKind.max .i64 then some n else none | none => none) = _
  rw [hq]
  have m1 : IntKind.min .i64 = -9223372036854775808 := by decide
  have m2 : IntKind.max .i64 = 9223372036854775807 := by decide
  simp only [m1, m2, Option.getD_some]
  rw [if_pos ⟨by omega, by omega⟩]

theorem cut64_spec (x : Nat) (w : World) : Runs Tryz.prog num_cut64.id #[.float .f64 x] w fun v w' => v = .float .f64 (cut64 x) ∧ w' = w := by
  refine num_cut64.enter _ _ _ ?_
  unfold num_cut64.V
  have e : ∀ a b, Ieee.Format.order (FloatKind.format .f64) a b = Ieee.double.order a b := fun a b => rfl
  simp only [e]
  have out : (cut64 x = x) → num_cut64.L1 x true (fun v w' => v = .float .f64 (cut64 x) ∧ w' = w) w := fun h => by
    refine num_cut64.step1 _ _ _ _ ?_
    unfold num_cut64.V1
    exact cond_true' rfl ⟨by rw [h], rfl⟩
  refine cond_intro (fun h1 => ?_) (fun h1 => out (by unfold cut64; rw [h1]; rfl))
  by_cases h2 : (Ieee.double.order x 4841369599423283200 == some .lt) = true
  · rw [h2]
    refine num_cut64.step1 _ _ _ _ ?_
    unfold num_cut64.V1
    refine cond_false' rfl ?_
    have hv := trunc52 x (by simpa using h2) (by simpa using h1)
    refine ⟨_, _, run_convert_float_int w T_float64 T_int64 .f64 .i64 x _ (by kernel_rfl) (by kernel_rfl) hv, ?_⟩
    simp only [e]
    refine cond_intro (fun h3 => ?_) (fun h3 => ?_)
    · refine ⟨_, _, run_f64bits x w, _, _, run_f64from _ w, ?_, rfl⟩
      unfold cut64; rw [h1, h2, h3]; rfl
    · refine ⟨?_, by trivial⟩
      unfold cut64; rw [h1, h2, h3]; rfl
  · have h2' : (Ieee.double.order x 4841369599423283200 == some .lt) = false := by simpa using h2
    rw [h2']
    exact out (by unfold cut64; rw [h1, h2']; rfl)


/-! ### ceil, floor -/
def ceil32 (x : Nat) : Nat := cond (Ieee.single.order (cut32 x) x == some .lt) (ar32 (floatBits .add .f32 (cut32 x) 1065353216)) (cn32 (cut32 x))
def floor32 (x : Nat) : Nat := cond (Ieee.single.order (cut32 x) x == some .gt) (ar32 (floatBits .sub .f32 (cut32 x) 1065353216)) (cn32 (cut32 x))
theorem ceil32_spec (x : Nat) (w : World) : Runs Tryz.prog num_ceil32.id #[.float .f32 x] w fun v w' => ∃ r, v = .float .f32 r ∧ cn32 r = ceil32 x ∧ Same [] w.heap.size w w' := by
  refine num_ceil32.enter _ _ _ ?_
  unfold num_ceil32.V
  refine (cut32_spec x w).mono ?_
  rintro v w1 ⟨rfl, rfl⟩
  refine ⟨_, rfl, ?_⟩
  have e : ∀ a b, Ieee.Format.order (FloatKind.format .f32) a b = Ieee.single.order a b := fun a b => rfl
  simp only [e]
  refine cond_intro (fun h => ?_) (fun h => ?_)
  · obtain ⟨r, w2, hr, hS, hc⟩ := arith32 .add (.inl rfl) T_float32 (.tmp 9) (.const (.float .f32 1065353216)) (cut32 x) 1065353216 w1
    refine ⟨_, _, hr, _, rfl, ?_, hS⟩
    rw [hc]; unfold ceil32; rw [h]; rfl
  · refine ⟨_, rfl, ?_, Same.refl _ _ _⟩
    unfold ceil32; rw [h]; rfl
theorem floor32_spec (x : Nat) (w : World) : Runs Tryz.prog num_floor32.id #[.float .f32 x] w fun v w' => ∃ r, v = .float .f32 r ∧ cn32 r = floor32 x ∧ Same [] w.heap.size w w' := by
  refine num_floor32.enter _ _ _ ?_
  unfold num_floor32.V
  refine (cut32_spec x w).mono ?_
  rintro v w1 ⟨rfl, rfl⟩
  refine ⟨_, rfl, ?_⟩
  have e : ∀ a b, Ieee.Format.order (FloatKind.format .f32) a b = Ieee.single.order a b := fun a b => rfl
  simp only [e]
  refine cond_intro (fun h => ?_) (fun h => ?_)
  · obtain ⟨r, w2, hr, hS, hc⟩ := arith32 .sub (.inr (.inl rfl)) T_float32 (.tmp 9) (.const (.float .f32 1065353216)) (cut32 x) 1065353216 w1
    refine ⟨_, _, hr, _, rfl, ?_, hS⟩
    rw [hc]; unfold floor32; rw [h]; rfl
  · refine ⟨_, rfl, ?_, Same.refl _ _ _⟩
    unfold floor32; rw [h]; rfl
def ceil64 (x : Nat) : Nat := cond (Ieee.double.order (cut64 x) x == some .lt) (ar64 (floatBits .add .f64 (cut64 x) 4607182418800017408)) (cn64 (cut64 x))
def floor64 (x : Nat) : Nat := cond (Ieee.double.order (cut64 x) x == some .gt) (ar64 (floatBits .sub .f64 (cut64 x) 4607182418800017408)) (cn64 (cut64 x))
theorem ceil64_spec (x : Nat) (w : World) : Runs Tryz.prog num_ceil64.id #[.float .f64 x] w fun v w' => ∃ r, v = .float .f64 r ∧ cn64 r = ceil64 x ∧ Same [] w.heap.size w w' := by
  refine num_ceil64.enter _ _ _ ?_
  unfold num_ceil64.V
  refine (cut64_spec x w).mono ?_
  rintro v w1 ⟨rfl, rfl⟩
  refine ⟨_, rfl, ?_⟩
  have e : ∀ a b, Ieee.Format.order (FloatKind.format .f64) a b = Ieee.double.order a b := fun a b => rfl
  simp only [e]
  refine cond_intro (fun h => ?_) (fun h => ?_)
  · obtain ⟨r, w2, hr, hS, hc⟩ := arith64 .add (.inl rfl) T_float64 (.tmp 9) (.const (.float .f64 4607182418800017408)) (cut64 x) 4607182418800017408 w1
    refine ⟨_, _, hr, _, rfl, ?_, hS⟩
    rw [hc]; unfold ceil64; rw [h]; rfl
  · refine ⟨_, rfl, ?_, Same.refl _ _ _⟩
    unfold ceil64; rw [h]; rfl
theorem floor64_spec (x : Nat) (w : World) : Runs Tryz.prog num_floor64.id #[.float .f64 x] w fun v w' => ∃ r, v = .float .f64 r ∧ cn64 r = floor64 x ∧ Same [] w.heap.size w w' := by
  refine num_floor64.enter _ _ _ ?_
  unfold num_floor64.V
  refine (cut64_spec x w).mono ?_
  rintro v w1 ⟨rfl, rfl⟩
  refine ⟨_, rfl, ?_⟩
  have e : ∀ a b, Ieee.Format.order (FloatKind.format .f64) a b = Ieee.double.order a b := fun a b => rfl
  simp only [e]
  refine cond_intro (fun h => ?_) (fun h => ?_)
  · obtain ⟨r, w2, hr, hS, hc⟩ := arith64 .sub (.inr (.inl rfl)) T_float64 (.tmp 9) (.const (.float .f64 4607182418800017408)) (cut64 x) 4607182418800017408 w1
    refine ⟨_, _, hr, _, rfl, ?_, hS⟩
    rw [hc]; unfold floor64; rw [h]; rfl
  · refine ⟨_, rfl, ?_, Same.refl _ _ _⟩
    unfold floor64; rw [h]; rfl

end Go.Proofs.Qxb6500317aGreat.U
