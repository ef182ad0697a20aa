/-
  Two modules of one text show alike and are written alike.
-/
import Derived.Test.Qxb6500316aRtF
set_option linter.unusedSimpArgs false
set_option linter.unusedVariables false
set_option maxRecDepth 100000
namespace Go.Proofs.Qxb6500316a
open Go Go.Vc

theorem showB_congr {f g : Nat → Ins} : ∀ n, (∀ k, k < n → f k = g k) → showB f n = showB g n
  | 0, _ => rfl
  | n + 1, h => by
    show (showB f n ++ (⟨#[32]⟩ : ByteArray)) ++ showI (f n) = (showB g n ++ (⟨#[32]⟩ : ByteArray)) ++ showI (g n)
    rw [showB_congr n (fun k hk => h k (by omega)), h n (by omega)]
theorem showU_congr {f g : Nat → Int} : ∀ n, (∀ k, k < n → f k = g k) → showU f n = showU g n
  | 0, _ => rfl
  | n + 1, h => by
    show (showU f n ++ (⟨#[32]⟩ : ByteArray)) ++ hexOf (IntKind.wrap .u64 (f n)) 8 = (showU g n ++ (⟨#[32]⟩ : ByteArray)) ++ hexOf (IntKind.wrap .u64 (g n)) 8
    rw [showU_congr n (fun k hk => h k (by omega)), h n (by omega)]
section
variable {P Q : PM}
theorem sh1_eq (E : PEq P Q) : ∀ k, k ≤ P.nTy → sh1 Q k = sh1 P k
  | 0, _ => rfl
  | k + 1, h => by
    show (sh1 Q k ++ (⟨#[32]⟩ : ByteArray)) ++ hexStr (Q.ty k) = (sh1 P k ++ (⟨#[32]⟩ : ByteArray)) ++ hexStr (P.ty k)
    rw [sh1_eq E k (by omega), E.ty k (by omega)]
theorem sh2_eq (E : PEq P Q) : ∀ k, k ≤ P.nIm → sh2 Q k = sh2 P k
  | 0, _ => by
    show sh1 Q Q.nTy ++ _ = sh1 P P.nTy ++ _
    rw [E.nTy, sh1_eq E _ (Nat.le_refl _)]
  | k + 1, h => by
    show (((((sh2 Q k ++ (⟨#[32]⟩ : ByteArray)) ++ hexStr (Q.im k).md) ++ (⟨#[46]⟩ : ByteArray)) ++ hexStr (Q.im k).nm) ++ (⟨#[46]⟩ : ByteArray)) ++ itoa (Q.im k).ty = _
    rw [sh2_eq E k (by omega), E.im k (by omega)]; rfl
theorem sh3_eq (E : PEq P Q) : ∀ k, k ≤ P.nf → sh3 Q k = sh3 P k
  | 0, _ => by
    show sh2 Q Q.nIm = sh2 P P.nIm
    rw [E.nIm, sh2_eq E _ (Nat.le_refl _)]
  | k + 1, h => by
    have F := E.fn k (by omega)
    show (((((((sh3 Q k ++ (⟨#[10, 102, 117, 110, 99, 32]⟩ : ByteArray)) ++ itoa (Q.fn k).ty) ++ (⟨#[32, 91]⟩ : ByteArray)) ++ hexStr (strOfNums (Q.fn k).ls)) ++ (⟨#[93]⟩ : ByteArray)) ++ showB (Q.fn k).ins (Q.fn k).nI) ++ (⟨#[32, 124]⟩ : ByteArray)) ++ showU (Q.fn k).tabs (Q.fn k).nTab = _
    rw [sh3_eq E k (by omega), F.ty, F.ls, F.nI, F.nT, showB_congr _ F.ins, showU_congr _ F.tabs]; rfl
theorem sh4_eq (E : PEq P Q) : ∀ k, k ≤ P.gn → sh4 Q k = sh4 P k
  | 0, _ => by
    show ((((((((((sh3 Q Q.nf ++ (⟨#[10, 116, 97, 98, 108, 101, 32]⟩ : ByteArray)) ++ itoa Q.tmin) ++ (⟨#[32]⟩ : ByteArray)) ++ itoa Q.tmax) ++ (⟨#[32, 109, 101, 109, 111, 114, 121, 32]⟩ : ByteArray)) ++ itoa Q.mmin) ++ (⟨#[32]⟩ : ByteArray)) ++ itoa Q.mmax) ++ (⟨#[32, 115, 116, 97, 114, 116, 32]⟩ : ByteArray)) ++ itoa Q.start) ++ (⟨#[10, 103, 108, 111, 98, 97, 108, 115]⟩ : ByteArray) = _
    rw [E.nf, sh3_eq E _ (Nat.le_refl _), E.t0, E.t1, E.m0, E.m1, E.start]; rfl
  | k + 1, h => by
    show (((sh4 Q k ++ (⟨#[32]⟩ : ByteArray)) ++ globT (Q.g k)) ++ (⟨#[61]⟩ : ByteArray)) ++ showI (Q.g k).init = _
    rw [sh4_eq E k (by omega), E.g k (by omega)]; rfl
theorem sh6_eq (E : PEq P Q) : ∀ k, k ≤ P.nEx → sh6 Q k = sh6 P k
  | 0, _ => by
    show sh4 Q Q.gn ++ _ = sh4 P P.gn ++ _
    rw [E.gn, sh4_eq E _ (Nat.le_refl _)]
  | k + 1, h => by
    show (((((sh6 Q k ++ (⟨#[32]⟩ : ByteArray)) ++ hexStr (Q.ex k).nm) ++ (⟨#[46]⟩ : ByteArray)) ++ itoa (IntKind.wrap .i64 (Q.ex k).kind)) ++ (⟨#[46]⟩ : ByteArray)) ++ hexOf (IntKind.wrap .u64 (Q.ex k).idx) 8 = _
    rw [sh6_eq E k (by omega), E.ex k (by omega)]; rfl
theorem sh7_eq (E : PEq P Q) : ∀ k, k ≤ P.nEl → sh7 Q k = sh7 P k
  | 0, _ => by
    show sh6 Q Q.nEx = sh6 P P.nEx
    rw [E.nEx, sh6_eq E _ (Nat.le_refl _)]
  | k + 1, h => by
    obtain ⟨e1, e2, e3⟩ := E.el k (by omega)
    show ((sh7 Q k ++ (⟨#[10, 101, 108, 101, 109, 32]⟩ : ByteArray)) ++ showI (Q.el k).off) ++ showU (Q.el k).fns (Q.el k).n = _
    rw [sh7_eq E k (by omega), e1, e2, showU_congr _ e3]; rfl
theorem sh8_eq (E : PEq P Q) : ∀ k, k ≤ P.nD → sh8 Q k = sh8 P k
  | 0, _ => by
    show sh7 Q Q.nEl = sh7 P P.nEl
    rw [E.nEl, sh7_eq E _ (Nat.le_refl _)]
  | k + 1, h => by
    show (((sh8 Q k ++ (⟨#[10, 100, 97, 116, 97, 32]⟩ : ByteArray)) ++ showI (Q.da k).off) ++ (⟨#[32]⟩ : ByteArray)) ++ hexStr (Q.da k).bytes = _
    rw [sh8_eq E k (by omega), E.da k (by omega)]; rfl
theorem showP_eq (E : PEq P Q) : showP Q = showP P := by
  unfold showP
  rw [E.nD, sh8_eq E _ (Nat.le_refl _)]

/-! ### Written alike -/
theorem rowsE_congr {α : Type} {g g' : α → List Int} {f f' : Nat → α} : ∀ n, (∀ k, k < n → g (f k) = g' (f' k)) → rowsE g f n = rowsE g' f' n
  | 0, _ => rfl
  | n + 1, h => by
    haveI := outNil
    rw [rowsE_succ, rowsE_succ, rowsE_congr n (fun k hk => h k (by omega)), h n (by omega)]
theorem tabF_congr {n : Nat} {a b : Nat → Int} (h : ∀ k, k < n → a k = b k) (x y : Int) : ∀ k (i : Int), 0 ≤ i → tabF n a x y k i = tabF n b x y k i
  | 0, i, _ => rfl
  | k + 1, i, hi => by
    haveI := outNil
    rw [tabF_succ, tabF_succ]
    split
    · rename_i g
      rw [h i.toNat (by omega), tabF_congr h x y k (i + 1) (by omega)]
    · rfl
theorem insE_congr {n : Nat} {a b : Nat → Int} (h : ∀ k, k < n → a k = b k) (i : Ins) (hx : 0 ≤ i.x) : insE i n a = insE i n b := by
  unfold insE insT
  rw [tabF_congr h i.x i.y (n + 1) i.x hx]
theorem encP_eq (E : PEq P Q) (F : WFP P) : encP Q = encP P := by
  have hfn : ∀ k, k < P.nf → codeE (Q.fn k) = codeE (P.fn k) := fun k hk => by
    have q := E.fn k hk
    have B := (F.fn k hk).b
    have : fnText (Q.fn k) = fnText (P.fn k) := by
      unfold fnText insRow
      rw [q.ls, q.nI]
      congr 1
      refine rowsE_congr _ (fun j hj => ?_)
      show insE ((Q.fn k).ins j) (Q.fn k).nTab (Q.fn k).tabs = insE ((P.fn k).ins j) (P.fn k).nTab (P.fn k).tabs
      rw [q.ins j hj, q.nT]
      exact insE_congr q.tabs _ (B.ins j hj).x0
    unfold codeE
    rw [this]
  have hty : ∀ k, k < P.nf → (fun x : FnP => uleb x.ty) (Q.fn k) = (fun x : FnP => uleb x.ty) (P.fn k) := fun k hk => by
    show uleb (Q.fn k).ty = uleb (P.fn k).ty
    rw [(E.fn k hk).ty]
  have hel : ∀ k, k < P.nEl → elE' (Q.el k) = elE' (P.el k) := fun k hk => by
    obtain ⟨e1, e2, e3⟩ := E.el k hk
    unfold elE'
    rw [e1, e2]
    congr 1
    exact rowsE_congr _ (fun j hj => by rw [e3 j hj])
  have h1 : headE Q = headE P := by
    unfold headE
    rw [E.nTy, E.nIm, E.nf, E.t0, E.t1, E.m0, E.m1, rowsE_congr P.nTy (fun k hk => by rw [E.ty k hk]), rowsE_congr P.nIm (fun k hk => by rw [E.im k hk]), rowsE_congr (g := fun x : FnP => uleb x.ty) (g' := fun x : FnP => uleb x.ty) (f := Q.fn) (f' := P.fn) P.nf hty]
  have h2 : midE Q = midE P := by
    unfold midE startE
    rw [E.gn, E.nEx, E.start, E.nEl, rowsE_congr P.gn (fun k hk => by rw [E.g k hk]), rowsE_congr P.nEx (fun k hk => by rw [E.ex k hk]), rowsE_congr P.nEl hel]
  have h3 : tailE Q = tailE P := by
    unfold tailE
    rw [E.nf, E.nD, rowsE_congr P.nf hfn, rowsE_congr P.nD (fun k hk => by rw [E.da k hk])]
  unfold encP
  rw [h1, h2, h3]
end

end Go.Proofs.Qxb6500316a
