/-
  Facts: what a taken text's module holds.
-/
import Derived.Test.Qxb6500316aFaD
set_option linter.unusedSimpArgs false
set_option linter.unusedVariables false
set_option maxRecDepth 100000
namespace Go.Proofs.Qxb6500316a
open Go Go.Vc

def bB (t : ByteArray) (l : List UInt8) : Bool := t.data.toList == l
theorem bB_eq {t : ByteArray} {l : List UInt8} (h : bB t l = true) : t = ofL l := by
  have e : t.data.toList = l := by simpa [bB] using h
  apply ByteArray.ext
  show t.data = l.toArray
  rw [← e]
def insLB (f : Nat → Ins) (l : List Ins) : Nat → Bool
  | k => match l with
    | [] => true
    | x :: r => insB (f k) x && insLB f r (k + 1)
theorem insLB_at {f : Nat → Ins} : ∀ {l : List Ins} {k : Nat}, insLB f l k = true → ∀ j x, l[j]? = some x → f (k + j) = x
  | [], k, h, j, x, hj => by simp at hj
  | y :: r, k, h, j, x, hj => by
    have h' : (insB (f k) y && insLB f r (k + 1)) = true := h
    rw [Bool.and_eq_true] at h'
    cases j with
    | zero => simp at hj; subst hj; exact insB_eq h'.1
    | succ j =>
      have := insLB_at (l := r) h'.2 j x (by simpa using hj)
      rw [show k + (j + 1) = k + 1 + j by omega]; exact this

def body0 : List Ins := [⟨65, 0, 0⟩, ⟨40, 1, 2⟩, ⟨26, 0, 0⟩, ⟨11, 0, 0⟩]
def body12 : List Ins := [⟨65, 0, 0⟩, ⟨14, 0, 3⟩, ⟨17, 3, 0⟩, ⟨11, 0, 0⟩]
def body13 : List Ins := [⟨2, 127, 0⟩, ⟨65, 0, 7⟩, ⟨11, 0, 0⟩, ⟨26, 0, 0⟩, ⟨32, 5, 0⟩, ⟨26, 0, 0⟩, ⟨11, 0, 0⟩]
def holdsB (i : Nat) (P : PM) : Bool := match i with
  | 0 => P.nf == 1 && ((P.fn 0).nI == 4 && insLB (P.fn 0).ins body0 0)
  | 1 => P.gn == 1 && ((P.g 0).ty == 126 && ((P.g 0).mu == true && insB (P.g 0).init ⟨66, 0, 5⟩))
  | 2 => P.gn == 1 && ((P.g 0).ty == 127 && ((P.g 0).mu == false && insB (P.g 0).init ⟨65, 0, 5⟩))
  | 3 => P.mmin == 1 && (P.mmax == 2 && (P.tmin == -1 && P.tmax == -1))
  | 4 => P.tmin == 3 && (P.tmax == 4 && (P.mmin == -1 && P.mmax == -1))
  | 5 => P.mmin == 7 && P.mmax == -1
  | 6 => P.nIm == 1 && (bB (P.im 0).md [97, 98] && (bB (P.im 0).nm [99, 100] && (P.im 0).ty == 3))
  | 7 => P.nD == 1 && (insB (P.da 0).off ⟨65, 0, 3⟩ && bB (P.da 0).bytes [120, 121])
  | 8 => P.nEx == 1 && (bB (P.ex 0).nm [101, 102] && ((P.ex 0).kind == 2 && (P.ex 0).idx == 3))
  | 9 => P.nEl == 1 && ((P.el 0).n == 2 && (insB (P.el 0).off ⟨65, 0, 1⟩ && ((P.el 0).fns 0 == 5 && (P.el 0).fns 1 == 6)))
  | 10 => P.nTy == 1 && bB (P.ty 0) [127, 126, 58, 125]
  | 11 => P.nf == 2 && ((P.fn 0).nI == 1 && ((P.fn 1).nI == 2 && (insLB (P.fn 0).ins [⟨11, 0, 0⟩] 0 && (insLB (P.fn 1).ins [⟨1, 0, 0⟩, ⟨11, 0, 0⟩] 0 && ((P.fn 0).ty == 1 && ((P.fn 0).ls == [127, 126] && ((P.fn 1).ty == 0 && (P.fn 1).ls == [])))))))
  | 12 => P.nf == 1 && ((P.fn 0).nI == 4 && ((P.fn 0).nTab == 3 && ((P.fn 0).tabs 0 == 2 && ((P.fn 0).tabs 1 == 1 && ((P.fn 0).tabs 2 == 0 && insLB (P.fn 0).ins body12 0)))))
  | 13 => P.nf == 1 && ((P.fn 0).nI == 7 && insLB (P.fn 0).ins body13 0)
  | 14 => P.nTy == 8
  | 15 => P.nIm == 4
  | 16 => P.gn == 4
  | 17 => P.nEx == 6
  | 18 => P.nEl == 3
  | 19 => P.nD == 3
  | 20 => P.nTy == 1 && (P.ty 0).size == 5
  | 21 => P.nEx == 1 && (P.ex 0).nm.size == 8
  | 22 => P.nEl == 1 && (P.el 0).n == 6
  | 23 => P.nD == 1 && (P.da 0).bytes.size == 24
  | 24 => P.nf == 8
  | 25 => P.nf == 1 && (P.fn 0).nTab == 24
  | 26 => P.nf == 1 && ((P.fn 0).ls == [127, 126, 127, 126, 127, 126] && (P.fn 0).nI == 1)
  | _ => false
def takChk (i : Nat) (c : Sc) : Bool := okAnd (decA (ofL (takL i)) c) fun P => holdsB i P && encP P == bytesOf (ofL (takL i))
theorem tak_all (c : Sc) : (List.range 27).all (fun i => takChk i c) = true := by kernel_rfl

end Go.Proofs.Qxb6500316a
