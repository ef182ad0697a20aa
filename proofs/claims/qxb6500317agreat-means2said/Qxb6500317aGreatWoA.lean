/-
  The texts of the law World.
-/
import Derived.Test.Qxb6500317aGreatExM
set_option linter.unusedSimpArgs false
set_option linter.unusedVariables false
set_option maxRecDepth 100000
set_option linter.unusedSectionVars false
set_option maxHeartbeats 4000000
namespace Go.Proofs.Qxb6500317aGreat
open Go Go.Vc

abbrev tSegData : ByteArray := ⟨#[0, 97, 115, 109, 1, 0, 0, 0, 5, 3, 1, 0, 1, 11, 14, 2, 0, 65, 0, 11, 1, 97, 0, 65, 192, 0, 11, 1, 98]⟩
abbrev tSegElem : ByteArray := ⟨#[0, 97, 115, 109, 1, 0, 0, 0, 1, 4, 1, 96, 0, 0, 3, 2, 1, 0, 4, 4, 1, 112, 0, 1, 5, 3, 1, 0, 1, 9, 7, 1, 0, 65, 1, 11, 1, 0, 10, 4, 1, 2, 0, 11, 11, 8, 1, 0, 65, 192, 0, 11, 1, 98]⟩
abbrev tNoLink : ByteArray := ⟨#[0, 97, 115, 109, 1, 0, 0, 0, 1, 4, 1, 96, 0, 0, 2, 23, 2, 3, 101, 110, 118, 4, 122, 101, 114, 111, 0, 0, 3, 101, 110, 118, 4, 110, 111, 110, 101, 0, 0]⟩
abbrev tStart : ByteArray := ⟨#[0, 97, 115, 109, 1, 0, 0, 0, 1, 4, 1, 96, 0, 0, 2, 12, 1, 3, 101, 110, 118, 4, 122, 101, 114, 111, 0, 0, 8, 1, 0]⟩
abbrev tOrder : ByteArray := ⟨#[0, 97, 115, 109, 1, 0, 0, 0, 1, 4, 1, 96, 0, 0, 3, 3, 2, 0, 0, 4, 4, 1, 112, 0, 1, 5, 4, 1, 1, 1, 1, 9, 13, 2, 0, 65, 0, 11, 1, 0, 0, 65, 0, 11, 1, 1, 10, 7, 2, 2, 0, 11, 2, 0, 11, 11, 14, 2, 0, 65, 0, 11, 2, 1, 1, 0, 65, 1, 11, 1, 2]⟩
abbrev tProbe : ByteArray := ⟨#[0, 97, 115, 109, 1, 0, 0, 0, 1, 10, 2, 96, 2, 127, 126, 0, 96, 0, 1, 126, 2, 23, 2, 3, 101, 110, 118, 4, 122, 101, 114, 111, 0, 0, 3, 101, 110, 118, 4, 116, 97, 112, 101, 0, 1, 3, 4, 3, 0, 1, 1, 6, 6, 1, 126, 0, 66, 125, 11, 7, 33, 5, 3, 108, 111, 103, 0, 2, 4, 116, 97, 107, 101, 0, 3, 4, 116, 97, 112, 101, 0, 1, 5, 99, 97, 114, 114, 121, 0, 4, 1, 103, 3, 0, 10, 30, 3, 8, 0, 32, 0, 32, 1, 16, 0, 11, 7, 0, 16, 1, 66, 5, 124, 11, 11, 0, 2, 126, 66, 1, 66, 2, 12, 0, 11, 11]⟩
def okP (s : ByteArray) : PM := match decP s sc0 with | .ok x _ => x.2 | _ => pm0
def isOk (s : ByteArray) : Bool := match decP s sc0 with | .ok _ _ => true | _ => false
theorem ok1 : isOk tSegData = true := by kernel_rfl
theorem ok2 : isOk tSegElem = true := by kernel_rfl
theorem ok3 : isOk tNoLink = true := by kernel_rfl
theorem ok4 : isOk tStart = true := by kernel_rfl
theorem ok5 : isOk tOrder = true := by kernel_rfl
theorem ok6 : isOk tProbe = true := by kernel_rfl
theorem va1 : (validV (okP tSegData)).2.2 = 0 := by kernel_rfl
theorem va2 : (validV (okP tSegElem)).2.2 = 0 := by kernel_rfl
theorem va3 : (validV (okP tNoLink)).2.2 = 0 := by kernel_rfl
theorem va4 : (validV (okP tStart)).2.2 = 0 := by kernel_rfl
theorem va5 : (validV (okP tOrder)).2.2 = 0 := by kernel_rfl
theorem va6 : (validV (okP tProbe)).2.2 = 0 := by kernel_rfl
def codeOf (P : PM) : List FF := match comp P with | .inr fs => fs | _ => []
def isCode (P : PM) : Bool := match comp P with | .inr _ => true | _ => false
def roomOk (P : PM) : Bool := (List.range P.nf).all fun i => decide (wsum (bdOf P (P.fn i)) (P.fn i).nI ≤ 120) && decide (1 ≤ (P.fn i).nI) && decide (0 ≤ (P.fn i).ty) && decide ((P.fn i).ty < P.nTy)
def impOk (P : PM) : Bool := (List.range P.nIm).all fun i => decide (0 ≤ (P.im i).ty) && decide ((P.im i).ty < P.nTy)
def allOk (P : PM) : Bool := isCode P && roomOk P && impOk P
theorem al1 : allOk (okP tSegData) = true := by kernel_rfl
theorem al2 : allOk (okP tSegElem) = true := by kernel_rfl
theorem al3 : allOk (okP tNoLink) = true := by kernel_rfl
theorem al4 : allOk (okP tStart) = true := by kernel_rfl
theorem al5 : allOk (okP tOrder) = true := by kernel_rfl
theorem al6 : allOk (okP tProbe) = true := by kernel_rfl
end Go.Proofs.Qxb6500317aGreat
