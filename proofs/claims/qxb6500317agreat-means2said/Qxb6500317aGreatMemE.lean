/-
  The store: what keeps it well formed.
-/
import Derived.Test.Qxb6500317aGreatMemD
set_option linter.unusedSimpArgs false
set_option linter.unusedVariables false
set_option maxRecDepth 100000
namespace Go.Proofs.Qxb6500317aGreat.M
open Go Go.Vc
theorem putB_bd : ∀ (k : Nat) (f : Nat → Int) (a : Nat) (v : Int), (∀ j, 0 ≤ f j ∧ f j < 256) → ∀ j, 0 ≤ putB f a k v j ∧ putB f a k v j < 256
  | 0, f, a, v, h => h
  | k + 1, f, a, v, h => putB_bd k (upd f a (v % 256)) (a + 1) (v / 256) (fun j => by
      unfold upd; split
      · omega
      · exact h j)

theorem reset_wf (s : MS) (hw : s.Wf) (mi mx tb gl : Int) : (s.reset mi mx tb gl).2.Wf := by
  unfold MS.reset
  split
  · exact hw
  · rename_i hb
    have hb : badReset mi mx tb gl = false := by simpa using hb
    simp only [badReset, Bool.or_eq_false_iff, Bool.and_eq_false_imp, decide_eq_false_iff_not, decide_eq_true_eq] at hb
    have h1 : mx ≠ -1 → mi ≤ mx := fun hx => by have := hb.1.1.1.1.1.2 hx; omega
    have h2 : mi = -1 → mx = -1 := fun hx => by have := hb.1.1.1.1.2 hx; omega
    have h3 : -1 ≤ mi ∧ mi ≤ 6 ∧ -1 ≤ mx ∧ -1 ≤ tb ∧ tb ≤ 8 ∧ 0 ≤ gl ∧ gl ≤ 4 := by omega
    refine ⟨?_, ?_, ?_, ?_, ?_, ?_, ?_, ?_, ?_, ?_⟩
    · show (mi * 64).toNat ≤ resetCap mi mx
      unfold resetCap
      by_cases hm : 0 ≤ mi
      · rw [if_pos hm]; split <;> omega
      · rw [if_neg hm]; omega
    · show resetCap mi mx ≤ 384
      unfold resetCap; split
      · split <;> omega
      · omega
    · show (mi * 64).toNat % 64 = 0; omega
    · show resetCap mi mx % 64 = 0
      unfold resetCap; split
      · split <;> omega
      · rfl
    · intro hh
      have hh : ¬ 0 ≤ mi := by simpa using hh
      refine ⟨?_, ?_⟩
      · show (mi * 64).toNat = 0; omega
      · show resetCap mi mx = 0; rw [resetCap, if_neg hh]
    · show tb.toNat ≤ 8; omega
    · show gl.toNat ≤ 4; omega
    · intro j; have := hw.back j
      show 0 ≤ (if j < (mi * 64).toNat then 0 else s.back j) ∧ (if j < (mi * 64).toNat then 0 else s.back j) < 256
      split <;> omega
    · intro j; have := hw.tab j
      show -1 ≤ (if j < tb.toNat then -1 else s.tab j) ∧ (if j < tb.toNat then -1 else s.tab j) ≤ 9223372036854775807
      split <;> omega
    · intro j; have := hw.glob j
      show 0 ≤ (if j < gl.toNat then 0 else s.glob j) ∧ (if j < gl.toNat then 0 else s.glob j) < 18446744073709551616
      split <;> omega

theorem grow_wf (s : MS) (hw : s.Wf) (d : Int) (hd : 0 ≤ d) : (s.grow d).2.Wf := by
  unfold MS.grow
  split
  · rename_i hi
    have hi2 := hi.2
    have := hw.n64
    refine ⟨?_, hw.cap384, ?_, hw.cap64, ?_, hw.tl8, hw.ng4, ?_, hw.tab, hw.glob⟩
    · show s.n + d.toNat * 64 ≤ s.cap; omega
    · show (s.n + d.toNat * 64) % 64 = 0; omega
    · intro hh; rw [hi.1] at hh; cases hh
    · intro j; have := hw.back j
      show 0 ≤ (if s.n ≤ j ∧ j < s.n + d.toNat * 64 then 0 else s.back j) ∧ (if s.n ≤ j ∧ j < s.n + d.toNat * 64 then 0 else s.back j) < 256
      split <;> omega
  · exact hw

theorem save_wf (s : MS) (hw : s.Wf) (op ea v : Int) : (s.save op ea v).2.Wf := by
  unfold MS.save
  split
  · split
    · exact ⟨hw.ncap, hw.cap384, hw.n64, hw.cap64, hw.none, hw.tl8, hw.ng4, putB_bd _ _ _ _ hw.back, hw.tab, hw.glob⟩
    · exact hw
  · exact hw

theorem write_wf (s : MS) (hw : s.Wf) (a : Int) (d : ByteArray) : (s.write a d).2.Wf := by
  unfold MS.write
  split
  · exact hw
  · split
    · refine ⟨hw.ncap, hw.cap384, hw.n64, hw.cap64, hw.none, hw.tl8, hw.ng4, fun j => ?_, hw.tab, hw.glob⟩
      show 0 ≤ laid s.back a.toNat d j ∧ laid s.back a.toNat d j < 256
      unfold laid; split
      · exact byteAt_bd _ _
      · exact hw.back j
    · exact hw

theorem setElem_wf (s : MS) (hw : s.Wf) (i f : Int) (hf : f ≤ 9223372036854775807) : (s.setElem i f).2.Wf := by
  unfold MS.setElem
  split
  · exact hw
  · split
    · refine ⟨hw.ncap, hw.cap384, hw.n64, hw.cap64, hw.none, hw.tl8, hw.ng4, hw.back, fun j => ?_, hw.glob⟩
      show -1 ≤ upd s.tab i.toNat f j ∧ upd s.tab i.toNat f j ≤ 9223372036854775807
      unfold upd; split
      · omega
      · exact hw.tab j
    · exact hw

theorem setGlobal_wf (s : MS) (hw : s.Wf) (i v : Int) (h0 : 0 ≤ v) (h1 : v < 18446744073709551616) : (s.setGlobal i v).2.Wf := by
  unfold MS.setGlobal
  split
  · refine ⟨hw.ncap, hw.cap384, hw.n64, hw.cap64, hw.none, hw.tl8, hw.ng4, hw.back, hw.tab, fun j => ?_⟩
    show 0 ≤ upd s.glob i.toNat v j ∧ upd s.glob i.toNat v j < 18446744073709551616
    unfold upd; split
    · omega
    · exact hw.glob j
  · exact hw

end Go.Proofs.Qxb6500317aGreat.M
