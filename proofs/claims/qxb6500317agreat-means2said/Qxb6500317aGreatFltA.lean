/-
  Floats: the entries without a Go body; arithmetic; what leaves by canon.
-/
import Derived.Test.Qxb6500317aGreatIntD
import Derived.Laws.Externs
import Derived.Laws.FloatArith
set_option linter.unusedSimpArgs false
set_option linter.unusedVariables false
set_option maxRecDepth 100000
namespace Go.Proofs.Qxb6500317aGreat.U
open Go Go.Vc

theorem run_f32bits (x : Nat) (w : World) : Sem.run Tryz.prog (Go.callFunc math_Float32bits.id #[.float .f32 x]) w = .ok (.value (.int .u32 x)) w := by
  have h := run_callFunc_extern (P := Tryz.prog) (f := math_Float32bits.id) (fn := Tryz.f201) (e := Extern.MathFloatBits.float32bits) Tryz.func201 (by kernel_rfl) (by kernel_rfl) (by kernel_rfl) (by kernel_rfl) #[.float .f32 x] w
  rw [h]; rfl
theorem run_f64bits (x : Nat) (w : World) : Sem.run Tryz.prog (Go.callFunc math_Float64bits.id #[.float .f64 x]) w = .ok (.value (.int .u64 x)) w := by
  have h := run_callFunc_extern (P := Tryz.prog) (f := math_Float64bits.id) (fn := Tryz.f202) (e := Extern.MathFloatBits.float64bits) Tryz.func202 (by kernel_rfl) (by kernel_rfl) (by kernel_rfl) (by kernel_rfl) #[.float .f64 x] w
  rw [h]; rfl
theorem run_f32from (x : Int) (w : World) : Sem.run Tryz.prog (Go.callFunc math_Float32frombits.id #[.int .u32 x]) w = .ok (.value (.float .f32 x.toNat)) w := by
  have h := run_callFunc_extern (P := Tryz.prog) (f := math_Float32frombits.id) (fn := Tryz.f153) (e := Extern.MathFloatBits.float32frombits) Tryz.func153 (by kernel_rfl) (by kernel_rfl) (by kernel_rfl) (by kernel_rfl) #[.int .u32 x] w
  rw [h]; rfl
theorem run_f64from (x : Int) (w : World) : Sem.run Tryz.prog (Go.callFunc math_Float64frombits.id #[.int .u64 x]) w = .ok (.value (.float .f64 x.toNat)) w := by
  have h := run_callFunc_extern (P := Tryz.prog) (f := math_Float64frombits.id) (fn := Tryz.f155) (e := Extern.MathFloatBits.float64frombits) Tryz.func155 (by kernel_rfl) (by kernel_rfl) (by kernel_rfl) (by kernel_rfl) #[.int .u64 x] w
  rw [h]; rfl

/-! ### No number -/
theorem order_self (f : Ieee.Format) (x : Nat) : (f.order x x != some .eq) = (f.read x).isNaN := by
  unfold Ieee.Format.order
  cases f.read x with
  | number s m i => simp [Ieee.Datum.order, Ieee.Datum.isNaN]
  | infinity s => simp [Ieee.Datum.order, Ieee.Datum.isNaN]
  | nan s t => simp [Ieee.Datum.order, Ieee.Datum.isNaN]

def cn32 (x : Nat) : Nat := if (Ieee.single.read x).isNaN then 2143289344 else x
def cn64 (x : Nat) : Nat := if (Ieee.double.read x).isNaN then 9221120237041090560 else x

theorem canon32_spec (x : Nat) (w : World) : Runs Tryz.prog num_canon32.id #[.float .f32 x] w fun v w' => v = .int .u32 (cn32 x : Nat) ∧ w' = w := by
  refine num_canon32.enter _ _ _ ?_
  unfold num_canon32.V
  have e : (Ieee.Format.order (FloatKind.format .f32) x x != some .eq) = (Ieee.single.read x).isNaN := order_self Ieee.single x
  rw [e]
  refine cond_intro (fun h => ?_) (fun h => ?_)
  · exact ⟨by simp [cn32, h], rfl⟩
  · exact ⟨_, _, run_f32bits x w, by simp [cn32, h], rfl⟩
theorem canon64_spec (x : Nat) (w : World) : Runs Tryz.prog num_canon64.id #[.float .f64 x] w fun v w' => v = .int .u64 (cn64 x : Nat) ∧ w' = w := by
  refine num_canon64.enter _ _ _ ?_
  unfold num_canon64.V
  have e : (Ieee.Format.order (FloatKind.format .f64) x x != some .eq) = (Ieee.double.read x).isNaN := order_self Ieee.double x
  rw [e]
  refine cond_intro (fun h => ?_) (fun h => ?_)
  · exact ⟨by simp [cn64, h], rfl⟩
  · exact ⟨_, _, run_f64bits x w, by simp [cn64, h], rfl⟩

theorem nan32_read (t : Nat) : (Ieee.single.read ((t % 2) * 2 ^ 31 + 0x7f800000 + 1 + (t / 2) % (2 ^ 23 - 1))).isNaN = true := by
  have h1 : Ieee.single.signWeight = 2147483648 := by decide
  have h2 : Ieee.single.binade = 8388608 := by decide
  have h3 : Ieee.single.infRung = 2139095040 := by decide
  have e : ((t % 2) * 2 ^ 31 + 0x7f800000 + 1 + (t / 2) % (2 ^ 23 - 1)) % 2147483648 = 2139095041 + (t / 2) % 8388607 := by omega
  unfold Ieee.Format.read
  simp only [h1, h2, h3, e]
  rw [if_neg (by omega), if_neg (by omega), if_neg (by omega)]
  rfl
theorem nan64_read (t : Nat) : (Ieee.double.read ((t % 2) * 2 ^ 63 + 0x7ff0000000000000 + 1 + (t / 2) % (2 ^ 52 - 1))).isNaN = true := by
  have h1 : Ieee.double.signWeight = 9223372036854775808 := by decide
  have h2 : Ieee.double.binade = 4503599627370496 := by decide
  have h3 : Ieee.double.infRung = 9218868437227405312 := by decide
  have e : ((t % 2) * 2 ^ 63 + 0x7ff0000000000000 + 1 + (t / 2) % (2 ^ 52 - 1)) % 9223372036854775808 = 9218868437227405313 + (t / 2) % 4503599627370495 := by omega
  unfold Ieee.Format.read
  simp only [h1, h2, h3, e]
  rw [if_neg (by omega), if_neg (by omega), if_neg (by omega)]
  rfl

/-! ### Arithmetic -/
theorem eqGuard_float (op : BinOp) (t : TypeId) (x y : Operand) (k k' : FloatKind) (a b : Nat) (P : Program) (w : World) : (eqGuard op t x y (.float k a) (.float k' b)).run P w = .ok () w := by
  unfold eqGuard; split <;> rfl

/-- What an operation gives behind canon. -/
def ar32 (o : Option Nat) : Nat := match o with | some r => cn32 r | none => 2143289344
def ar64 (o : Option Nat) : Nat := match o with | some r => cn64 r | none => 9221120237041090560

theorem arith32 (op : BinOp) (hop : op = .add ∨ op = .sub ∨ op = .mul ∨ op = .quo) (t : TypeId) (x y : Operand) (a b : Nat) (w : World) :
    ∃ r w', Sem.run Tryz.prog ((do eqGuard op t x y (.float .f32 a) (.float .f32 b); Go.binOp op t (.float .f32 a) (.float .f32 b))) w = .ok (.float .f32 r) w' ∧ Same [] w.heap.size w w' ∧ cn32 r = ar32 (floatBits op .f32 a b) := by
  rw [Sem.run_bind, eqGuard_float, Result.andThen_ok]
  cases h : floatBits op .f32 a b with
  | some r => exact ⟨r, w, run_float_arith w op t .f32 a b r h, Same.refl _ _ _, rfl⟩
  | none =>
    refine ⟨Question.cut (.nanBits .f32 a b) (w.tape w.drawn (.nanBits .f32 a b)), w.drew, ?_, (Same.refl _ _ _).drew, ?_⟩
    · rcases hop with rfl | rfl | rfl | rfl <;> (simp only [floatBits] at h; simp [Go.binOp, Op.floatArith, h, Question.forced])
    · show cn32 _ = 2143289344
      unfold cn32
      have := nan32_read (w.tape w.drawn (.nanBits .f32 a b))
      rw [if_pos]
      exact this

theorem arith64 (op : BinOp) (hop : op = .add ∨ op = .sub ∨ op = .mul ∨ op = .quo) (t : TypeId) (x y : Operand) (a b : Nat) (w : World) :
    ∃ r w', Sem.run Tryz.prog ((do eqGuard op t x y (.float .f64 a) (.float .f64 b); Go.binOp op t (.float .f64 a) (.float .f64 b))) w = .ok (.float .f64 r) w' ∧ Same [] w.heap.size w w' ∧ cn64 r = ar64 (floatBits op .f64 a b) := by
  rw [Sem.run_bind, eqGuard_float, Result.andThen_ok]
  cases h : floatBits op .f64 a b with
  | some r => exact ⟨r, w, run_float_arith w op t .f64 a b r h, Same.refl _ _ _, rfl⟩
  | none =>
    refine ⟨Question.cut (.nanBits .f64 a b) (w.tape w.drawn (.nanBits .f64 a b)), w.drew, ?_, (Same.refl _ _ _).drew, ?_⟩
    · rcases hop with rfl | rfl | rfl | rfl <;> (simp only [floatBits] at h; simp [Go.binOp, Op.floatArith, h, Question.forced])
    · show cn64 _ = 9221120237041090560
      unfold cn64
      have := nan64_read (w.tape w.drawn (.nanBits .f64 a b))
      rw [if_pos]
      exact this

end Go.Proofs.Qxb6500317aGreat.U
