/-
  The law Means2: the facts of the probe; what the store holds of it.
-/
import Derived.Test.Qxb6500317aGreatWoD
set_option linter.unusedSimpArgs false
set_option linter.unusedVariables false
set_option maxRecDepth 100000
set_option linter.unusedSectionVars false
set_option maxHeartbeats 4000000
namespace Go.Proofs.Qxb6500317aGreat
open Go Go.Vc

abbrev tProbe2 : ByteArray := ⟨#[0, 97, 115, 109, 1, 0, 0, 0, 1, 23, 5, 96, 2, 127, 127, 1, 127, 96, 0, 0, 96, 0, 1, 126, 96, 1, 127, 1, 127, 96, 0, 1, 127, 2, 17, 2, 0, 4, 116, 97, 112, 101, 0, 2, 0, 4, 115, 105, 122, 101, 0, 4, 3, 8, 7, 1, 0, 0, 0, 3, 3, 2, 5, 4, 1, 1, 1, 2, 6, 11, 2, 127, 1, 65, 7, 11, 127, 1, 65, 0, 11, 7, 41, 6, 3, 115, 117, 98, 0, 3, 4, 112, 105, 99, 107, 0, 4, 3, 109, 101, 109, 0, 5, 4, 103, 97, 100, 100, 0, 6, 4, 103, 114, 111, 119, 0, 7, 4, 104, 111, 115, 116, 0, 8, 8, 1, 2, 10, 115, 7, 9, 0, 65, 0, 40, 0, 8, 36, 1, 11, 26, 0, 32, 1, 69, 4, 64, 16, 1, 26, 32, 0, 15, 11, 32, 0, 65, 1, 107, 32, 1, 65, 1, 107, 16, 3, 11, 20, 0, 1, 32, 0, 4, 127, 32, 1, 69, 4, 64, 0, 11, 32, 1, 5, 35, 1, 11, 11, 17, 0, 32, 0, 32, 1, 54, 0, 4, 32, 0, 65, 4, 106, 40, 0, 0, 11, 13, 0, 35, 0, 32, 0, 106, 34, 0, 36, 0, 32, 0, 11, 18, 0, 32, 0, 64, 0, 65, 8, 116, 63, 0, 114, 65, 8, 116, 16, 1, 114, 11, 4, 0, 16, 0, 11, 11, 10, 1, 0, 65, 8, 11, 4, 17, 34, 51, 68]⟩
def f70 : FF := ⟨0, 0, 0, [⟨65, 0, 0⟩, ⟨40, 0, 8⟩, ⟨36, 1, 0⟩, ⟨11, 0, 0⟩]⟩
def f71 : FF := ⟨2, 2, 1, [⟨32, 1, 0⟩, ⟨69, 0, 0⟩, ⟨4, 7, 0⟩, ⟨16, 1, 0⟩, ⟨26, 0, 0⟩, ⟨32, 0, 0⟩, ⟨15, 0, 0⟩, ⟨32, 0, 0⟩, ⟨65, 0, 1⟩, ⟨107, 0, 0⟩, ⟨32, 1, 0⟩, ⟨65, 0, 1⟩, ⟨107, 0, 0⟩, ⟨16, 3, 0⟩, ⟨11, 0, 0⟩]⟩
def f72 : FF := ⟨2, 2, 1, [⟨1, 0, 0⟩, ⟨32, 0, 0⟩, ⟨4, 9, 0⟩, ⟨32, 1, 0⟩, ⟨69, 0, 0⟩, ⟨4, 7, 0⟩, ⟨0, 0, 0⟩, ⟨32, 1, 0⟩, ⟨224, 10, 0⟩, ⟨35, 1, 0⟩, ⟨11, 0, 0⟩]⟩
def f73 : FF := ⟨2, 2, 1, [⟨32, 0, 0⟩, ⟨32, 1, 0⟩, ⟨54, 0, 4⟩, ⟨32, 0, 0⟩, ⟨65, 0, 4⟩, ⟨106, 0, 0⟩, ⟨40, 0, 0⟩, ⟨11, 0, 0⟩]⟩
def f74 : FF := ⟨1, 1, 1, [⟨35, 0, 0⟩, ⟨32, 0, 0⟩, ⟨106, 0, 0⟩, ⟨34, 0, 0⟩, ⟨36, 0, 0⟩, ⟨32, 0, 0⟩, ⟨11, 0, 0⟩]⟩
def f75 : FF := ⟨1, 1, 1, [⟨32, 0, 0⟩, ⟨64, 0, 0⟩, ⟨65, 0, 8⟩, ⟨116, 0, 0⟩, ⟨63, 0, 0⟩, ⟨114, 0, 0⟩, ⟨65, 0, 8⟩, ⟨116, 0, 0⟩, ⟨16, 1, 0⟩, ⟨114, 0, 0⟩, ⟨11, 0, 0⟩]⟩
def f76 : FF := ⟨0, 0, 1, [⟨16, 0, 0⟩, ⟨11, 0, 0⟩]⟩
def fs7 : List FF := [f70, f71, f72, f73, f74, f75, f76]
theorem ok7 : isOk tProbe2 = true := by kernel_rfl
theorem va7 : (validV (okP tProbe2)).2.2 = 0 := by kernel_rfl
theorem al7 : allOk (okP tProbe2) = true := by kernel_rfl
theorem tk7 : Taken tProbe2 (okP tProbe2) fs7 := taken_of (by decide) (by decide) (by kernel_rfl) ok7 va7 al7 (by kernel_rfl)
theorem st7 (s : M.MS) : (settleP (okP tProbe2) 2 s).2.2.1 = 0 := by kernel_rfl
theorem n7 : (okP tProbe2).nIm = 2 ∧ (okP tProbe2).nf = 7 ∧ (okP tProbe2).nEx = 6 ∧ (okP tProbe2).start = 2 := ⟨by kernel_rfl, by kernel_rfl, by kernel_rfl, by kernel_rfl⟩
theorem nx7 : findP (okP tProbe2) ⟨#[115, 117, 98]⟩ = 3 ∧ findP (okP tProbe2) ⟨#[112, 105, 99, 107]⟩ = 4 ∧ findP (okP tProbe2) ⟨#[109, 101, 109]⟩ = 5 ∧ findP (okP tProbe2) ⟨#[103, 97, 100, 100]⟩ = 6 ∧ findP (okP tProbe2) ⟨#[103, 114, 111, 119]⟩ = 7 ∧ findP (okP tProbe2) ⟨#[104, 111, 115, 116]⟩ = 8 := ⟨by kernel_rfl, by kernel_rfl, by kernel_rfl, by kernel_rfl, by kernel_rfl, by kernel_rfl⟩
theorem sg7 : (List.range 9).map (fun j => (List.range 6).map (fsG (okP tProbe2) j)) = [[0, 0, 0, 0, 0, 126], [0, 0, 0, 0, 0, 127], [0, 0, 0, 0, 0, 0], [2, 127, 127, 0, 0, 127], [2, 127, 127, 0, 0, 127], [2, 127, 127, 0, 0, 127], [1, 127, 0, 0, 0, 127], [1, 127, 0, 0, 0, 127], [0, 0, 0, 0, 0, 126]] := by kernel_rfl
theorem g7 {j : Nat} {a b c d : Int} (hj : ([[0, 0, 0, 0, 0, 126], [0, 0, 0, 0, 0, 127], [0, 0, 0, 0, 0, 0], [2, 127, 127, 0, 0, 127], [2, 127, 127, 0, 0, 127], [2, 127, 127, 0, 0, 127], [1, 127, 0, 0, 0, 127], [1, 127, 0, 0, 0, 127], [0, 0, 0, 0, 0, 126]] : List (List Int))[j]? = some [a, b, c, 0, 0, d]) : fsG (okP tProbe2) j 0 = a ∧ fsG (okP tProbe2) j 1 = b ∧ fsG (okP tProbe2) j 2 = c ∧ fsG (okP tProbe2) j 5 = d := by
  rw [← sg7, List.getElem?_map] at hj
  cases hr : (List.range 9)[j]? with
  | none => rw [hr] at hj; cases hj
  | some i =>
    have hij : i = j := by
      rw [List.getElem?_eq_some_iff] at hr
      obtain ⟨_, e⟩ := hr
      simpa using e.symm
    subst hij
    rw [hr] at hj
    have e := Option.some.inj hj
    have e0 := congrArg (fun l => l[0]?) e
    have e1 := congrArg (fun l => l[1]?) e
    have e2 := congrArg (fun l => l[2]?) e
    have e5 := congrArg (fun l => l[5]?) e
    exact ⟨Option.some.inj e0, Option.some.inj e1, Option.some.inj e2, Option.some.inj e5⟩
/-! ### What the store holds -/
structure MI (ms : M.MS) (G P : Int) : Prop where
  has : ms.has = true
  n : (ms.n : Int) = 64 * P
  cap : ms.cap = 128
  ng : ms.ng = 2
  g0 : ms.glob 0 = G
  g1 : ms.glob 1 = 1144201745
theorem set7 (s : M.MS) : (settleP (okP tProbe2) 2 s).2.2.2.has = true ∧ (settleP (okP tProbe2) 2 s).2.2.2.n = 64 ∧ (settleP (okP tProbe2) 2 s).2.2.2.cap = 128 ∧ (settleP (okP tProbe2) 2 s).2.2.2.ng = 2 ∧ (settleP (okP tProbe2) 2 s).2.2.2.glob 0 = 7 ∧ M.loadVal (settleP (okP tProbe2) 2 s).2.2.2.back 40 8 = 1144201745 := ⟨by kernel_rfl, by kernel_rfl, by kernel_rfl, by kernel_rfl, by kernel_rfl, by kernel_rfl⟩
section
variable {ms : M.MS} {G P : Int}
theorem MI.set0 (m : MI ms G P) (v : Int) : MI (ms.setGlobal ((0 : Nat) : Int) v).2 v P := by
  have e : (ms.setGlobal ((0 : Nat) : Int) v).2 = { ms with glob := M.upd ms.glob 0 v } := by
    unfold M.MS.setGlobal
    rw [if_pos (by rw [m.ng]; omega)]; rfl
  rw [e]
  exact ⟨m.has, m.n, m.cap, m.ng, rfl, m.g1⟩
theorem MI.save (m : MI ms G P) (op ea v : Int) : MI (ms.save op ea v).2 G P := by
  unfold M.MS.save
  split
  · split
    · exact ⟨m.has, m.n, m.cap, m.ng, m.g0, m.g1⟩
    · exact m
  · exact m
theorem MI.pages (m : MI ms G P) : ((ms.n / 64 : Nat) : Int) = P := by have := m.n; omega
theorem MI.grow (m : MI ms G P) {d : Int} (hd : 0 ≤ d) (hP : 0 ≤ P) : if 2 < P + d then ms.grow d = (4294967295, ms) else (ms.grow d).1 = P ∧ MI (ms.grow d).2 G (P + d) := by
  have hn := m.n
  have hc := m.cap
  unfold M.MS.grow
  split
  · rw [if_neg (by omega)]
  · rw [if_pos ⟨m.has, by omega⟩]
    exact ⟨m.pages, m.has, by show ((ms.n + d.toNat * 64 : Nat) : Int) = _; omega, m.cap, m.ng, m.g0, m.g1⟩
/-- What the host holds of the probe. -/
structure HK (h : HS) : Prop where
  n : h.n = 2
  k0 : h.k 0 = 1
  k1 : h.k 1 = 3
end
end Go.Proofs.Qxb6500317aGreat
