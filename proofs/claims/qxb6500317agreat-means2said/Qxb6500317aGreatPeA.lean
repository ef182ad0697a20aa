/-
  Two modules of one text show alike.
-/
import Derived.Test.Qxb6500317aGreatWfF
set_option linter.unusedSimpArgs false
set_option linter.unusedVariables false
set_option maxRecDepth 100000
set_option linter.unusedSectionVars false
namespace Go.Proofs.Qxb6500317aGreat
open Go Go.Vc
structure FnQ (a b : FnP) : Prop where
  ty : a.ty = b.ty
  ls : a.ls = b.ls
  nI : a.nI = b.nI
  ins : ∀ k, k < b.nI → a.ins k = b.ins k
  nT : a.nTab = b.nTab
  tabs : ∀ k, k < b.nTab → a.tabs k = b.tabs k
def ElQ (a b : ElV) : Prop := a.off = b.off ∧ a.n = b.n ∧ ∀ k, k < b.n → a.fns k = b.fns k
/-- Q is P, as far as a module reaches. -/
structure PEq (P Q : PM) : Prop where
  nTy : Q.nTy = P.nTy
  ty : ∀ j, j < P.nTy → Q.ty j = P.ty j
  nIm : Q.nIm = P.nIm
  im : ∀ j, j < P.nIm → Q.im j = P.im j
  nf : Q.nf = P.nf
  fn : ∀ j, j < P.nf → FnQ (Q.fn j) (P.fn j)
  t0 : Q.tmin = P.tmin
  t1 : Q.tmax = P.tmax
  m0 : Q.mmin = P.mmin
  m1 : Q.mmax = P.mmax
  gn : Q.gn = P.gn
  g : ∀ j, j < P.gn → Q.g j = P.g j
  nEx : Q.nEx = P.nEx
  ex : ∀ j, j < P.nEx → Q.ex j = P.ex j
  start : Q.start = P.start
  nEl : Q.nEl = P.nEl
  el : ∀ j, j < P.nEl → ElQ (Q.el j) (P.el j)
  nD : Q.nD = P.nD
  da : ∀ j, j < P.nD → Q.da j = P.da j

end Go.Proofs.Qxb6500317aGreat
