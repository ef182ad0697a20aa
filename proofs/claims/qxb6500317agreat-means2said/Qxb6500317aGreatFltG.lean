/-
  Floats: the root's entry; conversions between the kinds.
-/
import Derived.Test.Qxb6500317aGreatFltF
set_option linter.unusedSimpArgs false
set_option linter.unusedVariables false
set_option maxRecDepth 100000
namespace Go.Proofs.Qxb6500317aGreat
open Go Go.Vc
abbrev math_sqrt.id : Nat := 220

/-! math.Sqrt -/
def math_Sqrt.cuts : List (Nat × List Nat) := []
def math_Sqrt.V (x_0 : Nat) (R : Value → World → Prop) (w : World) : Prop :=
  (∃ x3 : Nat, ∃ w2, Sem.run Tryz.prog (Go.callFunc math_sqrt.id #[(.float .f64 x_0)]) w = .ok (.value (.float .f64 x3)) w2 ∧ (R (.float .f64 x3) w2))
theorem math_Sqrt.enter (x_0 : Nat) (R : Value → World → Prop) (w : World) (h : math_Sqrt.V x_0 R w) : Runs Tryz.prog math_Sqrt.id #[(.float .f64 x_0)] w R :=
  Runs.enter (c := bodyOf Tryz.f191) (N := 5) Tryz.func191 (by kernel_rfl) (by kernel_rfl) (by kernel_rfl) (seg_T good mixed Tryz.func191 600 false [.code (bodyOf Tryz.f191)] [(0, (.float .f64 x_0))] w (Eq.mp (show math_Sqrt.V x_0 R w = seg Tryz.prog 191 (nn 5 fun _ _ => False) Tryz.f191.results.toList math_Sqrt.cuts R 600 false [.code (bodyOf Tryz.f191)] [(0, (.float .f64 x_0))] w by kernel_rfl) h))


end Go.Proofs.Qxb6500317aGreat
namespace Go.Proofs.Qxb6500317aGreat.U
open Go Go.Vc

theorem run_sqrt (x : Nat) (w : World) : ∃ r w', Sem.run Tryz.prog (Go.callFunc math_sqrt.id #[.float .f64 x]) w = .ok (.value (.float .f64 r)) w' ∧ Same [] w.heap.size w w' ∧
    (match Ieee.double.sqrt x with | some q => r = q | none => (Ieee.double.read r).isNaN = true) := by
  have h := run_callFunc_extern (P := Tryz.prog) (f := math_sqrt.id) (fn := Tryz.f220) (e := Extern.MathSqrt.sqrt) Tryz.func220 (by kernel_rfl) (by kernel_rfl) (by kernel_rfl) (by kernel_rfl) #[.float .f64 x] w
  have e : Extern.MathSqrt.sqrt #[.float .f64 x] = (match (FloatKind.format .f64).sqrt x with | some r => pure (.float .f64 r) | none => do pure (.float .f64 (← choose (.nanBits .f64 x x)))) := rfl
  rw [h, e]
  cases hq : Ieee.double.sqrt x with
  | some q =>
    have hq' : (FloatKind.format .f64).sqrt x = some q := hq
    refine ⟨q, w, ?_, Same.refl _ _ _, rfl⟩
    simp [hq']
  | none =>
    have hq' : (FloatKind.format .f64).sqrt x = none := hq
    refine ⟨Question.cut (.nanBits .f64 x x) (w.tape w.drawn (.nanBits .f64 x x)), w.drew, ?_, (Same.refl _ _ _).drew, ?_⟩
    · simp [hq', Question.forced]
    · exact nan64_read _

theorem Sqrt_spec (x : Nat) (w : World) : Runs Tryz.prog math_Sqrt.id #[.float .f64 x] w fun v w' => ∃ r, v = .float .f64 r ∧ Same [] w.heap.size w w' ∧ (match Ieee.double.sqrt x with | some q => r = q | none => (Ieee.double.read r).isNaN = true) := by
  refine math_Sqrt.enter _ _ _ ?_
  unfold math_Sqrt.V
  obtain ⟨r, w', h1, h2, h3⟩ := run_sqrt x w
  exact ⟨_, _, h1, _, rfl, h2, h3⟩

theorem run_promote (x : Nat) (w : World) : ∃ r w', Sem.run Tryz.prog (Go.convert T_float32 T_float64 (.float .f32 x)) w = .ok (.float .f64 r) w' ∧ Same [] w.heap.size w w' ∧
    (match floatToFloatBits .f32 x .f64 with | some q => r = q | none => (Ieee.double.read r).isNaN = true ∧ (Ieee.single.read x).isNaN = true) := by
  cases hq : floatToFloatBits .f32 x .f64 with
  | some q => exact ⟨q, w, run_convert_float_float w T_float32 T_float64 .f32 .f64 x q (by kernel_rfl) (by kernel_rfl) hq, Same.refl _ _ _, rfl⟩
  | none =>
    have hn : (Ieee.single.read x).isNaN = true := by
      cases h : (Ieee.single.read x).isNaN with
      | true => rfl
      | false => obtain ⟨r, hr⟩ := promote_ok x h; rw [hr] at hq; cases hq
    obtain ⟨s, t, hd⟩ : ∃ s t, FloatKind.decode .f32 x = .nan s t := by
      cases h : Ieee.single.read x with
      | nan s t => exact ⟨s, t, h⟩
      | infinity s => rw [h] at hn; cases hn
      | number s m i => rw [h] at hn; cases hn
    have hs : Tryz.prog.underlying T_float32 = some (.float .f32) := by kernel_rfl
    have hd2 : Tryz.prog.underlying T_float64 = some (.float .f64) := by kernel_rfl
    refine ⟨Question.cut (.nanConv .f64 x) (w.tape w.drawn (.nanConv .f64 x)), w.drew, ?_, (Same.refl _ _ _).drew, nan64_read _, hn⟩
    simp [Go.convert, run_underlying hs, run_underlying hd2, Conv.floatToFloat, hd, Question.forced]

end Go.Proofs.Qxb6500317aGreat.U
