/-
  What a decoded module is bound by.
-/
import Derived.Test.Qxb6500317aGreatDcO
import Derived.Test.Qxb6500317aGreatShC
set_option linter.unusedSimpArgs false
set_option linter.unusedVariables false
set_option maxRecDepth 100000
set_option linter.unusedSectionVars false
namespace Go.Proofs.Qxb6500317aGreat
open Go Go.Vc
def Asc (t : ByteArray) : Prop := ∀ j, j < t.size → byteAt t j < 128
structure InsIn (i : Ins) : Prop where
  o0 : 0 ≤ i.op
  o1 : i.op ≤ 255
  x0 : 0 ≤ i.x
  x1 : i.x ≤ 4294967295
  y0 : 0 ≤ i.y
  y1 : i.y ≤ 18446744073709551615

def splitF (t : ByteArray) : Nat → Nat → ByteArray × ByteArray
  | 0, _ => (t, ⟨#[]⟩)
  | k + 1, i => if byteAt t i = 58 then (t.extract 0 i, t.extract (i + 1) t.size) else splitF t k (i + 1)
theorem splitF_succ (t : ByteArray) (k i : Nat) : splitF t (k + 1) i = if byteAt t i = 58 then (t.extract 0 i, t.extract (i + 1) t.size) else splitF t k (i + 1) := rfl
def splitP (t : ByteArray) : ByteArray × ByteArray := splitF t t.size 0
theorem splitF_size (t : ByteArray) : ∀ k i, (splitF t k i).1.size ≤ t.size ∧ (splitF t k i).2.size ≤ t.size
  | 0, i => ⟨Nat.le_refl _, Nat.zero_le _⟩
  | k + 1, i => by
    rw [splitF_succ]
    split
    · exact ⟨by rw [ByteArray.size_extract]; omega, by rw [ByteArray.size_extract]; omega⟩
    · exact splitF_size t k (i + 1)

theorem Split_loop (t : ByteArray) (ht : t.size ≤ 1024) (R Q : Value → World → Prop) (w0 : World) (hR : ∀ w', Same [] w0.heap.size w0 w' → R (.tuple #[.string (splitP t).1, .string (splitP t).2]) w') :
    ∀ (k i : Nat) (w : World), i + k = t.size → Same [] w0.heap.size w0 w → splitP t = splitF t k i → api_Split.L1 t i R Q w := by
  intro k
  induction k with
  | zero =>
    intro i w hi hS hu
    refine api_Split.step1 _ _ _ _ _ ?_
    unfold api_Split.V1
    refine cond_false' (decide_eq_false (by omega)) ?_
    have := hR w hS
    rw [hu] at this
    exact this
  | succ k ih =>
    intro i w hi hS hu
    rw [splitF_succ] at hu
    refine api_Split.step1 _ _ _ _ _ ?_
    unfold api_Split.V1
    have e1 : IntKind.wrap .i64 ((i : Int) + 1) = ((i + 1 : Nat) : Int) := by rw [wrap_i64 (by omega) (by omega)]; omega
    refine cond_true' (decide_eq_true (by omega)) ⟨by omega, ?_⟩
    rw [e1]
    simp only [Int.toNat_natCast, true_and]
    by_cases hc : byteAt t i = 58
    · rw [if_pos hc] at hu
      refine cond_true' (beq_eq' hc) ⟨by omega, by omega, ?_⟩
      have := hR w.drew hS.drew
      rw [hu] at this
      exact this
    · rw [if_neg hc] at hu
      exact cond_false' (beq_ne hc) (ih (i + 1) w (by omega) hS hu)
theorem Split_spec (t : ByteArray) (ht : t.size ≤ 1024) (w : World) : Runs Tryz.prog api_Split.id #[.string t] w fun v w' => v = .tuple #[.string (splitP t).1, .string (splitP t).2] ∧ Same [] w.heap.size w w' := by
  refine api_Split.enter _ _ _ _ ?_
  unfold api_Split.V
  exact Split_loop t ht _ _ w (fun w' hS => ⟨rfl, hS⟩) t.size 0 w (by omega) (Same.refl _ _ _) rfl


/-! ### What a module must be for its text to be written -/
structure FnB (x : FnP) : Prop where
  t0 : 0 ≤ x.ty
  t1 : x.ty ≤ 4294967295
  ls : (strOfNums x.ls).size ≤ 6
  la : Asc (strOfNums x.ls)
  nI : x.nI ≤ 96
  ins : ∀ k, k < x.nI → InsIn (x.ins k)
  nT : x.nTab ≤ 24
  tabs : ∀ k, k < x.nTab → 0 ≤ x.tabs k ∧ x.tabs k ≤ 4294967295
structure PB (P : PM) : Prop where
  nTy : P.nTy ≤ 8
  ty : ∀ j, j < P.nTy → (P.ty j).size ≤ 1024 ∧ Asc (splitP (P.ty j)).1 ∧ Asc (splitP (P.ty j)).2
  nIm : P.nIm ≤ 4
  im : ∀ j, j < P.nIm → (P.im j).md.size ≤ 1024 ∧ (P.im j).nm.size ≤ 1024 ∧ 0 ≤ (P.im j).ty ∧ (P.im j).ty ≤ 4294967295
  nf : P.nf ≤ 8
  fn : ∀ j, j < P.nf → FnB (P.fn j)
  t0 : -1 ≤ P.tmin ∧ P.tmin ≤ 4294967295
  t1 : -1 ≤ P.tmax ∧ P.tmax ≤ 4294967295
  m0 : -1 ≤ P.mmin ∧ P.mmin ≤ 4294967295
  m1 : -1 ≤ P.mmax ∧ P.mmax ≤ 4294967295
  gn : P.gn ≤ 4
  g : ∀ j, j < P.gn → 0 ≤ (P.g j).ty ∧ (P.g j).ty ≤ 255 ∧ InsIn (P.g j).init
  nEx : P.nEx ≤ 6
  ex : ∀ j, j < P.nEx → (P.ex j).nm.size ≤ 1024 ∧ 0 ≤ (P.ex j).kind ∧ (P.ex j).kind ≤ 255 ∧ 0 ≤ (P.ex j).idx ∧ (P.ex j).idx ≤ 4294967295
  s0 : -1 ≤ P.start ∧ P.start ≤ 4294967295
  nEl : P.nEl ≤ 3
  el : ∀ j, j < P.nEl → InsIn (P.el j).off ∧ (P.el j).n ≤ 6 ∧ ∀ k, k < (P.el j).n → 0 ≤ (P.el j).fns k ∧ (P.el j).fns k ≤ 4294967295
  nD : P.nD ≤ 3
  da : ∀ j, j < P.nD → InsIn (P.da j).off ∧ (P.da j).bytes.size ≤ 1024

/-- A buffer that the Bin keeps: nothing, or a block of bytes of its own. -/
def Room (w : World) (v : Value) (g : Option Nat) : Prop := (v = .slice none 0 0 ∧ g = none) ∨ ∃ k cap cur, v = .slice (some ⟨k, 0, none⟩) cap cap ∧ g = some k ∧ w.heap[k]? = some (.cells cur T_uint8 (0, 0)) ∧ cap ≤ maxLen ∧ cur.size = cap * 1
theorem Room.lt {w : World} {v : Value} {g : Option Nat} (h : Room w v g) : ∀ k, g = some k → k < w.heap.size := by
  intro k hk
  rcases h with ⟨_, h⟩ | ⟨k', cap, cur, _, h, hb, _⟩
  · rw [h] at hk; cases hk
  · rw [h] at hk; injection hk with hk; subst hk
    exact (Array.getElem?_eq_some_iff.1 hb).1
theorem Room.same {w w' : World} {v : Value} {g : Option Nat} (h : Room w v g) {S : List Nat} {B : Nat} (hs : Same S B w w') (hB : w.heap.size ≤ B) (hS : ∀ k, g = some k → k ∉ S) : Room w' v g := by
  have hl := h.lt
  rcases h with h | ⟨k, cap, cur, h1, h2, h3, h4⟩
  · exact .inl h
  · exact .inr ⟨k, cap, cur, h1, h2, by rw [hs.block k (Nat.lt_of_lt_of_le (hl k h2) hB) (hS k h2)]; exact h3, h4⟩
/-- The Bin with the buffers that it keeps. -/
structure BL (I : OutOf) (w : World) (b bi bt : Nat) (c : Sc) (go gs gf : Option Nat) : Prop where
  ba : @BinAt I w b bi bt c
  o : Room w I.out go
  s : Room w I.sec gs
  f : Room w I.fnb gf
  xo : ∀ k, go = some k → k ∉ [b, bi, bt]
  xs : ∀ k, gs = some k → k ∉ [b, bi, bt]
  xf : ∀ k, gf = some k → k ∉ [b, bi, bt]
  y1 : ∀ k, go = some k → gs ≠ some k
  y2 : ∀ k, go = some k → gf ≠ some k
  y3 : ∀ k, gs = some k → gf ≠ some k
def bufs (go gs gf : Option Nat) : List Nat := go.toList ++ (gs.toList ++ gf.toList)
theorem mem_bufs {go gs gf : Option Nat} {k : Nat} : k ∈ bufs go gs gf ↔ go = some k ∨ gs = some k ∨ gf = some k := by
  unfold bufs
  simp [Option.mem_toList]
theorem BL.low {I : OutOf} {w : World} {b bi bt : Nat} {c : Sc} {go gs gf : Option Nat} (h : BL I w b bi bt c go gs gf) : ∀ k, k ∈ bufs go gs gf → k < w.heap.size := by
  intro k hk
  rcases mem_bufs.1 hk with h1 | h1 | h1
  · exact h.o.lt k h1
  · exact h.s.lt k h1
  · exact h.f.lt k h1
theorem BL.apart {I : OutOf} {w : World} {b bi bt : Nat} {c : Sc} {go gs gf : Option Nat} (h : BL I w b bi bt c go gs gf) : ∀ k, k ∈ bufs go gs gf → k ∉ [b, bi, bt] := by
  intro k hk
  rcases mem_bufs.1 hk with h1 | h1 | h1
  · exact h.xo k h1
  · exact h.xs k h1
  · exact h.xf k h1

end Go.Proofs.Qxb6500317aGreat
