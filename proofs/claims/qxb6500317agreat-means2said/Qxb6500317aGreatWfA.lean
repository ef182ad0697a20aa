/-
  What a well-formed module is; the small tests of WellFormed.
-/
import Derived.Test.Qxb6500317aGreatEnJ
import Derived.Test.Qxb6500317aGreatShC
set_option linter.unusedSimpArgs false
set_option linter.unusedVariables false
set_option maxRecDepth 100000
namespace Go.Proofs.Qxb6500317aGreat
open Go Go.Vc

abbrev VT (x : Int) : Prop := 124 ≤ x ∧ x ≤ 127
abbrev Vals (t : ByteArray) (max : Nat) : Prop := t.size ≤ max ∧ ∀ j, j < t.size → VT (byteAt t j)
structure Kon (i : Ins) : Prop where
  o0 : 65 ≤ i.op
  o1 : i.op ≤ 68
  x0 : i.x = 0
  y1 : i.op = 65 ∨ i.op = 67 → i.y ≤ 4294967295
abbrev Lim (lo hi : Int) : Prop := (lo = -1 ∧ hi = -1) ∨ (W32 lo ∧ (hi = -1 ∨ W32 hi))
/-- An instruction but br_table. -/
def Pln (i : Ins) : Prop :=
  ((i.op = 2 ∨ i.op = 3 ∨ i.op = 4) ∧ i.y = 0 ∧ (i.x = 64 ∨ VT i.x)) ∨ ((i.op = 12 ∨ i.op = 13 ∨ i.op = 16 ∨ i.op = 17) ∧ i.y = 0) ∨ ((32 ≤ i.op ∧ i.op ≤ 36) ∧ i.y = 0) ∨ ((40 ≤ i.op ∧ i.op ≤ 62) ∧ i.y ≤ 4294967295)
  ∨ Kon i ∨ ((i.op = 0 ∨ i.op = 1 ∨ i.op = 5 ∨ i.op = 11 ∨ i.op = 15 ∨ i.op = 26 ∨ i.op = 27 ∨ i.op = 63 ∨ i.op = 64 ∨ (69 ≤ i.op ∧ i.op ≤ 191)) ∧ i.x = 0 ∧ i.y = 0)
/-- The nesting and the sharing out of the labels, from the i-th instruction on. -/
def wfGo (ins : Nat → Ins) (nI nTab : Nat) : Nat → Nat → Nat → (Nat → Bool) → Nat → Prop
  | 0, _, _, _, _ => False
  | k + 1, i, d, may, u =>
    if (ins i).op = 14 then (ins i).x = u ∧ 1 ≤ (ins i).y ∧ (ins i).y ≤ (nTab : Int) - u ∧ wfGo ins nI nTab k (i + 1) d may (u + (ins i).y.toNat)
    else Pln (ins i) ∧ (if (ins i).op = 2 ∨ (ins i).op = 3 ∨ (ins i).op = 4 then d < 6 ∧ wfGo ins nI nTab k (i + 1) (d + 1) (upd may d ((ins i).op == 4)) u
      else if (ins i).op = 5 then d ≠ 0 ∧ may (d - 1) = true ∧ wfGo ins nI nTab k (i + 1) d (upd may (d - 1) false) u
      else if (ins i).op = 11 then (if d = 0 then i + 1 = nI ∧ u = nTab else wfGo ins nI nTab k (i + 1) (d - 1) may u)
      else wfGo ins nI nTab k (i + 1) d may u)
theorem wfGo_succ (ins : Nat → Ins) (nI nTab k i d : Nat) (may : Nat → Bool) (u : Nat) : wfGo ins nI nTab (k + 1) i d may u =
    if (ins i).op = 14 then (ins i).x = u ∧ 1 ≤ (ins i).y ∧ (ins i).y ≤ (nTab : Int) - u ∧ wfGo ins nI nTab k (i + 1) d may (u + (ins i).y.toNat)
    else Pln (ins i) ∧ (if (ins i).op = 2 ∨ (ins i).op = 3 ∨ (ins i).op = 4 then d < 6 ∧ wfGo ins nI nTab k (i + 1) (d + 1) (upd may d ((ins i).op == 4)) u
      else if (ins i).op = 5 then d ≠ 0 ∧ may (d - 1) = true ∧ wfGo ins nI nTab k (i + 1) d (upd may (d - 1) false) u
      else if (ins i).op = 11 then (if d = 0 then i + 1 = nI ∧ u = nTab else wfGo ins nI nTab k (i + 1) (d - 1) may u)
      else wfGo ins nI nTab k (i + 1) d may u) := rfl
structure FnWF (f : FnP) : Prop where
  b : FnB f
  ls : Vals (strOfNums f.ls) 6
  lv : ∀ x, x ∈ f.ls → VT x
  n0 : 1 ≤ f.nI
  go : wfGo f.ins f.nI f.nTab f.nI 0 0 (fun _ => false) 0
structure WFP (P : PM) : Prop where
  pb : PB P
  ty : ∀ j, j < P.nTy → (splitP (P.ty j)).1.size + (splitP (P.ty j)).2.size + 1 = (P.ty j).size ∧ Vals (splitP (P.ty j)).1 4 ∧ Vals (splitP (P.ty j)).2 1
  im : ∀ j, j < P.nIm → (P.im j).md.size ≤ 8 ∧ (P.im j).nm.size ≤ 8
  g : ∀ j, j < P.gn → VT (P.g j).ty ∧ Kon (P.g j).init
  ex : ∀ j, j < P.nEx → (P.ex j).nm.size ≤ 8 ∧ (P.ex j).kind ≤ 3
  el : ∀ j, j < P.nEl → Kon (P.el j).off
  da : ∀ j, j < P.nD → Kon (P.da j).off ∧ (P.da j).bytes.size ≤ 24
  tl : Lim P.tmin P.tmax
  ml : Lim P.mmin P.mmax
  fn : ∀ j, j < P.nf → FnWF (P.fn j)
theorem InsIn.u64 {i : Ins} (h : InsIn i) : U64 i.y := ⟨h.y0, by have := h.y1; omega⟩

end Go.Proofs.Qxb6500317aGreat
