/-
  Two machines side by side.
-/
import Derived.Test.Qxb6500317aGreatExM
set_option linter.unusedSimpArgs false
set_option linter.unusedVariables false
set_option maxRecDepth 100000
set_option linter.unusedSectionVars false
set_option maxHeartbeats 1000000
namespace Go.Proofs.Qxb6500317aGreat
open Go Go.Vc

/-- The world as far as block n. -/
def trunc (w : World) (n : Nat) : World := { w with heap := w.heap.extract 0 n }
theorem trunc_size {w : World} {n : Nat} (h : n ≤ w.heap.size) : (trunc w n).heap.size = n := by
  show (w.heap.extract 0 n).size = n
  rw [Array.size_extract]; omega
theorem trunc_same {w : World} {n : Nat} (h : n ≤ w.heap.size) : Same [] n (trunc w n) w := by
  refine ⟨rfl, rfl, rfl, by rw [trunc_size h]; exact h, fun k hk _ => ?_⟩
  show w.heap[k]? = (w.heap.extract 0 n)[k]?
  rw [Array.getElem?_extract, if_pos (by omega), Nat.zero_add]
/-- The blocks of a machine. -/
def Zo (A : XA) (F : List Nat) (k : Nat) : Prop := (A.n0 ≤ k ∧ k < A.n6) ∨ k ∈ F
def zl (A : XA) (F : List Nat) : List Nat := List.range' A.n0 (A.n6 - A.n0) ++ F
theorem mem_zl {A : XA} {F : List Nat} {k : Nat} (h : k ∈ zl A F) : Zo A F k := by
  unfold zl at h
  rcases List.mem_append.1 h with e | e
  · rw [List.mem_range'_1] at e
    exact .inl ⟨e.1, by omega⟩
  · exact .inr e
theorem zl_mem {A : XA} {F : List Nat} {k : Nat} (h : k ∉ zl A F) : ¬ Zo A F k := fun g => h (by
  unfold zl
  rcases g with e | e
  · exact List.mem_append.2 (.inl (List.mem_range'_1.2 ⟨e.1, by omega⟩))
  · exact List.mem_append.2 (.inr e))
section
variable {W w w' : World} {A : XA} {F F' : List Nat} {ms ms' : M.MS} {h h' : HS} {S fr S' fr' : Nat → Int}
theorem XB.n06 (X : XB W w A F ms h S fr) : A.n0 ≤ A.n4 ∧ A.n4 ≤ A.n5 ∧ A.n5 ≤ A.n6 ∧ A.n6 ≤ w.heap.size := by
  obtain ⟨⟨a1, a2, a3, a4, a5, a6⟩, ⟨b1, b2⟩, ⟨d1, d2, d3, d4⟩, ⟨p1, p2, q1, q2⟩, ⟨h1, h2⟩, ⟨k1, k2, x1, x2, ne⟩, lt, z0⟩ := X.zone
  omega
theorem XB.re (X : XB W w A F ms h S fr) : XB (trunc w A.n0) w A F ms h S fr := by
  have n := X.n06
  exact { X with z0 := (trunc_size (by omega)).symm, sm := by rw [trunc_size (by omega)]; exact trunc_same (by omega) }
/-- Others were at work. -/
theorem XB.mvo (X : XB W w A F ms h S fr) {T : List Nat} (hs : Same T w.heap.size w w') (hT : ∀ k, k ∈ T → (k < A.n0 ∨ A.n6 ≤ k) ∧ k ∉ F) : XB (trunc w' A.n0) w' A F ms h S fr := by
  have n := X.n06
  obtain ⟨⟨a1, a2, a3, a4, a5, a6⟩, ⟨b1, b2⟩, ⟨d1, d2, d3, d4⟩, ⟨p1, p2, q1, q2⟩, ⟨h1, h2⟩, ⟨k1, k2, x1, x2, ne⟩, lt, z0⟩ := X.zone
  have no : ∀ k, A.n0 ≤ k → k < A.n6 → k ∉ T := fun k hk0 hk g => by have := (hT k g).1; omega
  have sz := hs.size
  obtain ⟨c, bn⟩ := X.bn
  obtain ⟨o, k, va⟩ := X.va
  have cx : ∀ j, w'.cell? ⟨A.xb, j, none⟩ = w.cell? ⟨A.xb, j, none⟩ := fun j => hs.cell (p := ⟨A.xb, j, none⟩) (by show A.xb < _; omega) (no A.xb (by omega) x2)
  have ck : ∀ j, w'.cell? ⟨A.kb, j, none⟩ = w.cell? ⟨A.kb, j, none⟩ := fun j => hs.cell (p := ⟨A.kb, j, none⟩) (by show A.kb < _; omega) (no A.kb (by omega) k2)
  exact ⟨X.z, X.zf, (trunc_size (by omega)).symm, by omega, by rw [trunc_size (by omega)]; exact trunc_same (by omega), by rw [cx]; exact X.c0, by rw [cx]; exact X.c1, by rw [cx]; exact X.c2, by rw [cx]; exact X.c3, by rw [cx]; exact X.c4, by rw [cx]; exact X.c9,
    fun j hj => by rw [cx]; exact X.fr j hj, fun j => by rw [hs.frozen (p := ⟨A.xb, j, none⟩) (by show A.xb < _; omega) (no A.xb (by omega) x2)]; exact X.xf j,
    ⟨c, bn.go hs (no _ (by omega) (by omega)) (no _ (by omega) (by omega)) (no _ (by omega) (by omega))⟩, ⟨o, k, va.same hs va.lt (no _ (by omega) (by omega))⟩, X.pz.same hs (Nat.le_refl _) (no _ (by omega) (by omega)) (no _ (by omega) (by omega)),
    X.mt.same hs (by omega) (by omega) (no _ (by omega) (by omega)) (no _ (by omega) (by omega)), X.wf, X.ho.same hs (no _ (by omega) (by omega)) (fun d hd g => (hT d g).2 hd), fun j hj => by rw [ck]; exact X.st j hj, fun j => by rw [hs.frozen (p := ⟨A.kb, j, none⟩) (by show A.kb < _; omega) (no A.kb (by omega) k2)]; exact X.sf j⟩
/-- A machine was at work. -/
structure Mvd (A : XA) (F : List Nat) (w : World) (F' : List Nat) (w' : World) : Prop where
  o1 : w'.os = w.os
  o2 : w'.tape = w.tape
  o3 : w'.output = w.output
  sz : w.heap.size ≤ w'.heap.size
  b : ∀ k, k < w.heap.size → ¬ Zo A F k → w'.heap[k]? = w.heap[k]? ∧ ¬ Zo A F' k
theorem Mvd.same (m : Mvd A F w F' w') : Same (zl A F) w.heap.size w w' := ⟨m.o1, m.o2, m.o3, m.sz, fun k hk hn => (m.b k hk (zl_mem hn)).1⟩
theorem Mvd.trans {F'' : List Nat} {w'' : World} (m : Mvd A F w F' w') (n : Mvd A F' w' F'' w'') : Mvd A F w F'' w'' :=
  ⟨n.o1.trans m.o1, n.o2.trans m.o2, n.o3.trans m.o3, Nat.le_trans m.sz n.sz, fun k hk hn => by
    obtain ⟨a, b⟩ := m.b k hk hn
    obtain ⟨a', b'⟩ := n.b k (by have := m.sz; omega) b
    exact ⟨a'.trans a, b'⟩⟩
theorem Mvd.of_same {T : List Nat} (hs : Same T w.heap.size w w') (hT : ∀ k, k ∈ T → Zo A F k) : Mvd A F w F w' :=
  ⟨hs.os, hs.tape, hs.output, hs.size, fun k hk hn => ⟨hs.block k hk (fun g => hn (hT k g)), hn⟩⟩
theorem Mvd.keep (hs : Same [] w.heap.size w w') : Mvd A F w F w' := Mvd.of_same hs (by simp)
/-- Between two states of one machine. -/
theorem Mvd.of (X : XB W w A F ms h S fr) (X' : XB W w' A F' ms' h' S' fr') (sz : w.heap.size ≤ w'.heap.size) (p : ∀ k, k < w.heap.size → A.n6 ≤ k → k ∉ F → w'.heap[k]? = w.heap[k]? ∧ k ∉ F') : Mvd A F w F' w' := by
  have n := X.n06
  have z0 := X.z0
  refine ⟨X'.sm.os.trans X.sm.os.symm, X'.sm.tape.trans X.sm.tape.symm, X'.sm.output.trans X.sm.output.symm, sz, fun k hk hn => ?_⟩
  have nz : ¬ (A.n0 ≤ k ∧ k < A.n6) := fun g => hn (.inl g)
  have nf : k ∉ F := fun g => hn (.inr g)
  by_cases q : k < A.n0
  · refine ⟨(X'.sm.block k (by omega) (by simp)).trans (X.sm.block k (by omega) (by simp)).symm, fun g => ?_⟩
    rcases g with g | g
    · omega
    · have := X'.zf k g; omega
  · obtain ⟨a, b⟩ := p k hk (by omega) nf
    refine ⟨a, fun g => ?_⟩
    rcases g with g | g
    · omega
    · exact b g
/-- Any machine. -/
def YS (w : World) (A : XA) (F : List Nat) : Prop := ∃ W ms h S fr v5 v6 v7 v8, XB W w A F ms h S fr ∧ X58 w A.xb v5 v6 v7 v8 ∧ SW S
theorem YS.mv (y : YS w A F) {T : List Nat} (hs : Same T w.heap.size w w') (hT : ∀ k, k ∈ T → (k < A.n0 ∨ A.n6 ≤ k) ∧ k ∉ F) : YS w' A F := by
  obtain ⟨W, ms, h, S, fr, v5, v6, v7, v8, X, H, hS⟩ := y
  have n := X.n06
  obtain ⟨_, _, _, _, _, ⟨k1, k2, x1, x2, ne⟩, lt, z0⟩ := X.zone
  exact ⟨_, ms, h, S, fr, v5, v6, v7, v8, X.mvo hs hT, H.same hs (by omega) (fun g => by have := (hT _ g).1; omega), hS⟩
theorem YS.keep (y : YS w A F) (hs : Same [] w.heap.size w w') : YS w' A F := y.mv hs (by simp)
theorem YS.n06 (y : YS w A F) : A.n0 ≤ A.n6 ∧ A.n6 ≤ w.heap.size ∧ (∀ d, d ∈ F → A.n0 ≤ d ∧ d < w.heap.size) := by
  obtain ⟨W, ms, h, S, fr, v5, v6, v7, v8, X, H, hS⟩ := y
  have n := X.n06
  exact ⟨by omega, by omega, fun d hd => ⟨by have := X.zf d hd; omega, X.ho.lF d hd⟩⟩
end
end Go.Proofs.Qxb6500317aGreat
