/-
  Facts: what the plain decoder and encoder make of the texts, by evaluation.
-/
import Derived.Test.Qxb6500316aFaC
set_option linter.unusedSimpArgs false
set_option linter.unusedVariables false
set_option maxRecDepth 100000
namespace Go.Proofs.Qxb6500316a
open Go Go.Vc

def okAnd (r : Res (Sc × PM)) (f : PM → Bool) : Bool := match r with | .ok cp _ => f cp.2 | .err _ _ => false
def errIs (r : Res (Sc × PM)) (n a : Int) : Bool := match r with | .ok _ _ => false | .err n' a' => n' == n && a' == a
theorem okAnd_ok {r : Res (Sc × PM)} {f : PM → Bool} (h : okAnd r f = true) : ∃ cp q, r = .ok cp q ∧ f cp.2 = true := by
  cases r using Res.cs with
  | ok cp q => exact ⟨cp, q, rfl, h⟩
  | err n a => cases h
theorem errIs_err {r : Res (Sc × PM)} {n a : Int} (h : errIs r n a = true) : r = .err n a := by
  cases r using Res.cs with
  | ok cp q => cases h
  | err n' a' =>
    simp only [errIs, Bool.and_eq_true, beq_iff_eq] at h
    rw [h.1, h.2]
def insB (a b : Ins) : Bool := a.op == b.op && (a.x == b.x && a.y == b.y)
theorem insB_eq {a b : Ins} (h : insB a b = true) : a = b := by
  simp only [insB, Bool.and_eq_true, beq_iff_eq] at h
  obtain ⟨h1, h2, h3⟩ := h
  cases a; cases b; simp only at h1 h2 h3; subst h1 h2 h3; rfl

/-! ### Refused -/
def refChk (i : Nat) (c : Sc) : Bool := errIs (decA (ofL (refL i).1) c) (refL i).2.1 (refL i).2.2
theorem ref_all (c : Sc) : (List.range 42).all (fun i => refChk i c) = true := by kernel_rfl

/-! ### Lone -/
def loneT (c : Int) : List UInt8 := bodyT ([0] ++ oneL c ++ (loneV c).1 ++ [11])
def loneChk (n : Nat) (c : Sc) : Bool := cond ((loneV n).2.2 == 0) true (cond ((loneV n).2.2 == 2) (errIs (decA (ofL (loneT n)) c) 10 23)
  (okAnd (decA (ofL (loneT n)) c) fun P => P.nf == 1 && (decide (2 ≤ (P.fn 0).nI) && (insB ((P.fn 0).ins 0) (loneV n).2.1 && encP P == bytesOf (ofL (loneT n))))))
theorem lone_all (c : Sc) : (List.range 256).all (fun i => loneChk i c) = true := by kernel_rfl

end Go.Proofs.Qxb6500316a
