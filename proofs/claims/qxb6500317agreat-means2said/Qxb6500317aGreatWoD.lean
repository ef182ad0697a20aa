/-
  The law World: the facts of the texts.
-/
import Derived.Test.Qxb6500317aGreatWoC
set_option linter.unusedSimpArgs false
set_option linter.unusedVariables false
set_option maxRecDepth 100000
set_option linter.unusedSectionVars false
set_option maxHeartbeats 4000000
namespace Go.Proofs.Qxb6500317aGreat
open Go Go.Vc

theorem taken_of {s : ByteArray} {fs : List FF} (h1 : ¬ 1024 < s.size) (h2 : ¬ s.size < 8) (h3 : ByteArray.extract s 0 8 = ⟨#[0, 97, 115, 109, 1, 0, 0, 0]⟩) (o : isOk s = true) (v : (validV (okP s)).2.2 = 0) (a : allOk (okP s) = true) (c : comp (okP s) = .inr fs) : Taken s (okP s) fs := by
  unfold allOk at a
  rw [Bool.and_eq_true, Bool.and_eq_true] at a
  obtain ⟨⟨a1, a2⟩, a3⟩ := a
  unfold roomOk at a2
  unfold impOk at a3
  rw [List.all_eq_true] at a2 a3
  refine ⟨?_, v, c, fun i hi => ?_, fun i hi => ?_, fun i hi => ?_⟩
  · unfold isOk at o
    cases hd : decP s sc0 using Res.cs with
    | err n p => rw [hd] at o; cases o
    | ok x q =>
      refine ⟨x.1, q, ?_⟩
      unfold decA okP
      rw [if_neg h1, if_neg h2, h3, if_pos (by simp), hd]
  · have := a2 i (List.mem_range.2 hi)
    simp only [Bool.and_eq_true, decide_eq_true_eq] at this
    exact ⟨this.1.1.1, this.1.1.2⟩
  · have := a3 i (List.mem_range.2 hi)
    simp only [Bool.and_eq_true, decide_eq_true_eq] at this
    exact this
  · have := a2 i (List.mem_range.2 hi)
    simp only [Bool.and_eq_true, decide_eq_true_eq] at this
    exact ⟨this.1.2, this.2⟩
def fs6 : List FF := [⟨2, 2, 0, [⟨32, 0, 0⟩, ⟨32, 1, 0⟩, ⟨16, 0, 0⟩, ⟨11, 0, 0⟩]⟩, ⟨0, 0, 1, [⟨16, 1, 0⟩, ⟨66, 0, 5⟩, ⟨124, 0, 0⟩, ⟨11, 0, 0⟩]⟩, ⟨0, 0, 1, [⟨66, 0, 1⟩, ⟨66, 0, 2⟩, ⟨12, 3, 4294967296⟩, ⟨11, 0, 0⟩]⟩]
def fE : FF := ⟨0, 0, 0, [⟨11, 0, 0⟩]⟩
theorem tk1 : Taken tSegData (okP tSegData) [] := taken_of (by decide) (by decide) (by kernel_rfl) ok1 va1 al1 (by kernel_rfl)
theorem tk2 : Taken tSegElem (okP tSegElem) [fE] := taken_of (by decide) (by decide) (by kernel_rfl) ok2 va2 al2 (by kernel_rfl)
theorem tk3 : Taken tNoLink (okP tNoLink) [] := taken_of (by decide) (by decide) (by kernel_rfl) ok3 va3 al3 (by kernel_rfl)
theorem tk4 : Taken tStart (okP tStart) [] := taken_of (by decide) (by decide) (by kernel_rfl) ok4 va4 al4 (by kernel_rfl)
theorem tk5 : Taken tOrder (okP tOrder) [fE, fE] := taken_of (by decide) (by decide) (by kernel_rfl) ok5 va5 al5 (by kernel_rfl)
theorem tk6 : Taken tProbe (okP tProbe) fs6 := taken_of (by decide) (by decide) (by kernel_rfl) ok6 va6 al6 (by kernel_rfl)
/-! ### What settling answers, whatever the store held -/
theorem st1 (s : M.MS) : (settleP (okP tSegData) 0 s).1 = 1 ∧ (settleP (okP tSegData) 0 s).2.1 = 1 ∧ (settleP (okP tSegData) 0 s).2.2.1 = 31 := ⟨by kernel_rfl, by kernel_rfl, by kernel_rfl⟩
theorem st2 (s : M.MS) : (settleP (okP tSegElem) 0 s).1 = 0 ∧ (settleP (okP tSegElem) 0 s).2.1 = 0 ∧ (settleP (okP tSegElem) 0 s).2.2.1 = 31 := ⟨by kernel_rfl, by kernel_rfl, by kernel_rfl⟩
theorem st3 (s : M.MS) : (settleP (okP tNoLink) 1 s).1 = 1 ∧ (settleP (okP tNoLink) 1 s).2.1 = 0 ∧ (settleP (okP tNoLink) 1 s).2.2.1 = 30 := ⟨by kernel_rfl, by kernel_rfl, by kernel_rfl⟩
theorem st4 (s : M.MS) : (settleP (okP tStart) 1 s).2.2.1 = 0 := by kernel_rfl
theorem st5 (s : M.MS) : (settleP (okP tOrder) 0 s).2.2.1 = 0 := by kernel_rfl
theorem st6 (s : M.MS) : (settleP (okP tProbe) 2 s).2.2.1 = 0 := by kernel_rfl
theorem sh4 (s : M.MS) : (settleP (okP tStart) 1 s).2.2.2.show = ⟨#[109, 101, 109, 32, 45, 32, 116, 97, 98, 32, 103, 108, 111, 98]⟩ := by kernel_rfl
theorem sh6 (s : M.MS) : (settleP (okP tProbe) 2 s).2.2.2.show = litM := by kernel_rfl
theorem sh5 (s : M.MS) : (settleP (okP tOrder) 0 s).2.2.2.show = strOfNums ([109, 101, 109, 32, 49, 32, 48, 49, 48, 50] ++ List.replicate 124 48 ++ [32, 116, 97, 98, 32, 49, 32, 103, 108, 111, 98]) := by kernel_rfl
theorem nx6 : findP (okP tProbe) ⟨#[108, 111, 103]⟩ = 2 ∧ findP (okP tProbe) ⟨#[116, 97, 107, 101]⟩ = 3 ∧ findP (okP tProbe) ⟨#[116, 97, 112, 101]⟩ = 1 ∧ findP (okP tProbe) ⟨#[99, 97, 114, 114, 121]⟩ = 4 ∧ findP (okP tProbe) ⟨#[103]⟩ = -1 := ⟨by kernel_rfl, by kernel_rfl, by kernel_rfl, by kernel_rfl, by kernel_rfl⟩
theorem n6 : (okP tProbe).nIm = 2 ∧ (okP tProbe).nf = 3 ∧ (okP tProbe).nEx = 5 ∧ (okP tProbe).start = -1 := ⟨by kernel_rfl, by kernel_rfl, by kernel_rfl, by kernel_rfl⟩
def sg (a b c d : Int) : Nat → Int := fun k => if k = 0 then a else if k = 1 then b else if k = 2 then c else if k = 5 then d else 0
theorem g60 : ∀ k, k < 6 → fsG (okP tProbe) 0 k = sg 2 127 126 0 k := by
  have : ((List.range 6).all fun k => decide (fsG (okP tProbe) 0 k = sg 2 127 126 0 k)) = true := by kernel_rfl
  exact fun k hk => of_decide_eq_true (List.all_eq_true.1 this k (List.mem_range.2 hk))
end Go.Proofs.Qxb6500317aGreat
