/-
  Two modules of one text show alike.
-/
import Derived.Test.Qxb6500316aWfF
set_option linter.unusedSimpArgs false
set_option linter.unusedVariables false
set_option maxRecDepth 100000
set_option linter.unusedSectionVars false
namespace Go.Proofs.Qxb6500316a
open Go Go.Vc
structure FnQ (a b : FnP) : Prop where
  ty : a.ty = b.ty
  ls : a.ls = b.ls
  nI : a.nI = b.nI
  ins : ∀ k, k < b.nI → a.ins k = b.ins k
  nT : a.nTab = b.nTab
  tabs : ∀ k, k < b.nTab → a.tabs k = b.tabs k
def ElQ (a b : ElV) : Prop := a.off = b.off ∧ a.n = b.n ∧ ∀ k, k < b.n → a.fns k = b.fns k
/-- Q is P, as far as a module reaches. -/
structure PEq (P Q : PM) : Prop where
  nTy : Q.nTy = P.nTy
  ty : ∀ j, j < P.nTy → Q.ty j = P.ty j
  nIm : Q.nIm = P.nIm
  im : ∀ j, j < P.nIm → Q.im j = P.im j
  nf : Q.nf = P.nf
  fn : ∀ j, j < P.nf → FnQ (Q.fn j) (P.fn j)
  t0 : Q.tmin = P.tmin
  t1 : Q.tmax = P.tmax
  m0 : Q.mmin = P.mmin
  m1 : Q.mmax = P.mmax
  gn : Q.gn = P.gn
  g : ∀ j, j < P.gn → Q.g j = P.g j
  nEx : Q.nEx = P.nEx
  ex : ∀ j, j < P.nEx → Q.ex j = P.ex j
  start : Q.start = P.start
  nEl : Q.nEl = P.nEl
  el : ∀ j, j < P.nEl → ElQ (Q.el j) (P.el j)
  nD : Q.nD = P.nD
  da : ∀ j, j < P.nD → Q.da j = P.da j

theorem showB_congr {f g : Nat → Ins} : ∀ n, (∀ k, k < n → f k = g k) → showB f n = showB g n
  | 0, _ => rfl
  | n + 1, h => by
    show (showB f n ++ (⟨#[32]⟩ : ByteArray)) ++ showI (f n) = (showB g n ++ (⟨#[32]⟩ : ByteArray)) ++ showI (g n)
    rw [showB_congr n (fun k hk => h k (by omega)), h n (by omega)]
theorem showU_congr {f g : Nat → Int} : ∀ n, (∀ k, k < n → f k = g k) → showU f n = showU g n
  | 0, _ => rfl
  | n + 1, h => by
    show (showU f n ++ (⟨#[32]⟩ : ByteArray)) ++ hexOf (IntKind.wrap .u64 (f n)) 8 = (showU g n ++ (⟨#[32]⟩ : ByteArray)) ++ hexOf (IntKind.wrap .u64 (g n)) 8
    rw [showU_congr n (fun k hk => h k (by omega)), h n (by omega)]
section
variable {P Q : PM}
theorem sh1_eq (E : PEq P Q) : ∀ k, k ≤ P.nTy → sh1 Q k = sh1 P k
  | 0, _ => rfl
  | k + 1, h => by
    show (sh1 Q k ++ (⟨#[32]⟩ : ByteArray)) ++ hexStr (Q.ty k) = (sh1 P k ++ (⟨#[32]⟩ : ByteArray)) ++ hexStr (P.ty k)
    rw [sh1_eq E k (by omega), E.ty k (by omega)]
theorem sh2_eq (E : PEq P Q) : ∀ k, k ≤ P.nIm → sh2 Q k = sh2 P k
  | 0, _ => by
    show sh1 Q Q.nTy ++ _ = sh1 P P.nTy ++ _
    rw [E.nTy, sh1_eq E _ (Nat.le_refl _)]
  | k + 1, h => by
    show (((((sh2 Q k ++ (⟨#[32]⟩ : ByteArray)) ++ hexStr (Q.im k).md) ++ (⟨#[46]⟩ : ByteArray)) ++ hexStr (Q.im k).nm) ++ (⟨#[46]⟩ : ByteArray)) ++ itoa (Q.im k).ty = _
    rw [sh2_eq E k (by omega), E.im k (by omega)]; rfl
theorem sh3_eq (E : PEq P Q) : ∀ k, k ≤ P.nf → sh3 Q k = sh3 P k
  | 0, _ => by
    show sh2 Q Q.nIm = sh2 P P.nIm
    rw [E.nIm, sh2_eq E _ (Nat.le_refl _)]
  | k + 1, h => by
    have F := E.fn k (by omega)
    show (((((((sh3 Q k ++ (⟨#[10, 102, 117, 110, 99, 32]⟩ : ByteArray)) ++ itoa (Q.fn k).ty) ++ (⟨#[32, 91]⟩ : ByteArray)) ++ hexStr (strOfNums (Q.fn k).ls)) ++ (⟨#[93]⟩ : ByteArray)) ++ showB (Q.fn k).ins (Q.fn k).nI) ++ (⟨#[32, 124]⟩ : ByteArray)) ++ showU (Q.fn k).tabs (Q.fn k).nTab = _
    rw [sh3_eq E k (by omega), F.ty, F.ls, F.nI, F.nT, showB_congr _ F.ins, showU_congr _ F.tabs]; rfl
theorem sh4_eq (E : PEq P Q) : ∀ k, k ≤ P.gn → sh4 Q k = sh4 P k
  | 0, _ => by
    show ((((((((((sh3 Q Q.nf ++ (⟨#[10, 116, 97, 98, 108, 101, 32]⟩ : ByteArray)) ++ itoa Q.tmin) ++ (⟨#[32]⟩ : ByteArray)) ++ itoa Q.tmax) ++ (⟨#[32, 109, 101, 109, 111, 114, 121, 32]⟩ : ByteArray)) ++ itoa Q.mmin) ++ (⟨#[32]⟩ : ByteArray)) ++ itoa Q.mmax) ++ (⟨#[32, 115, 116, 97, 114, 116, 32]⟩ : ByteArray)) ++ itoa Q.start) ++ (⟨#[10, 103, 108, 111, 98, 97, 108, 115]⟩ : ByteArray) = _
    rw [E.nf, sh3_eq E _ (Nat.le_refl _), E.t0, E.t1, E.m0, E.m1, E.start]; rfl
  | k + 1, h => by
    show (((sh4 Q k ++ (⟨#[32]⟩ : ByteArray)) ++ globT (Q.g k)) ++ (⟨#[61]⟩ : ByteArray)) ++ showI (Q.g k).init = _
    rw [sh4_eq E k (by omega), E.g k (by omega)]; rfl
theorem sh6_eq (E : PEq P Q) : ∀ k, k ≤ P.nEx → sh6 Q k = sh6 P k
  | 0, _ => by
    show sh4 Q Q.gn ++ _ = sh4 P P.gn ++ _
    rw [E.gn, sh4_eq E _ (Nat.le_refl _)]
  | k + 1, h => by
    show (((((sh6 Q k ++ (⟨#[32]⟩ : ByteArray)) ++ hexStr (Q.ex k).nm) ++ (⟨#[46]⟩ : ByteArray)) ++ itoa (IntKind.wrap .i64 (Q.ex k).kind)) ++ (⟨#[46]⟩ : ByteArray)) ++ hexOf (IntKind.wrap .u64 (Q.ex k).idx) 8 = _
    rw [sh6_eq E k (by omega), E.ex k (by omega)]; rfl
theorem sh7_eq (E : PEq P Q) : ∀ k, k ≤ P.nEl → sh7 Q k = sh7 P k
  | 0, _ => by
    show sh6 Q Q.nEx = sh6 P P.nEx
    rw [E.nEx, sh6_eq E _ (Nat.le_refl _)]
  | k + 1, h => by
    obtain ⟨e1, e2, e3⟩ := E.el k (by omega)
    show ((sh7 Q k ++ (⟨#[10, 101, 108, 101, 109, 32]⟩ : ByteArray)) ++ showI (Q.el k).off) ++ showU (Q.el k).fns (Q.el k).n = _
    rw [sh7_eq E k (by omega), e1, e2, showU_congr _ e3]; rfl
theorem sh8_eq (E : PEq P Q) : ∀ k, k ≤ P.nD → sh8 Q k = sh8 P k
  | 0, _ => by
    show sh7 Q Q.nEl = sh7 P P.nEl
    rw [E.nEl, sh7_eq E _ (Nat.le_refl _)]
  | k + 1, h => by
    show (((sh8 Q k ++ (⟨#[10, 100, 97, 116, 97, 32]⟩ : ByteArray)) ++ showI (Q.da k).off) ++ (⟨#[32]⟩ : ByteArray)) ++ hexStr (Q.da k).bytes = _
    rw [sh8_eq E k (by omega), E.da k (by omega)]; rfl
theorem showP_eq (E : PEq P Q) : showP Q = showP P := by
  unfold showP
  rw [E.nD, sh8_eq E _ (Nat.le_refl _)]

end
end Go.Proofs.Qxb6500316a
