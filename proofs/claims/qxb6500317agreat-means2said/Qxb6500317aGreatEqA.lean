/-
  A module of the same text.
-/
import Derived.Test.Qxb6500317aGreatIdA
import Derived.Test.Qxb6500317aGreatHmA
set_option linter.unusedSimpArgs false
set_option linter.unusedVariables false
set_option maxRecDepth 100000
set_option linter.unusedSectionVars false
namespace Go.Proofs.Qxb6500317aGreat
open Go Go.Vc
section
variable {w : World} {lo : Nat} {m : Nat → Value} {P Q : PM}
theorem SlF.eqv [OutOf] {α : Type} {enc : α → List Value} {sz : Nat} {v : Value} {n n' : Nat} {f g : Nat → α} (h : SlF enc sz w lo v n f) (hn : n' = n) (hg : ∀ j, j < n → g j = f j) : SlF enc sz w lo v n' g := by
  subst hn
  rcases h with h | ⟨h0, b, h1, h2, h3, h4⟩
  · exact .inl h
  · exact .inr ⟨h0, b, h1, ⟨fun j hj k u hk => h2.c j hj k u (by rw [← hg j hj]; exact hk), h2.f⟩, h3, h4⟩
theorem MInv.eqv [OutOf] (h : MInv w lo m P) (E : PEq P Q) : MInv w lo m Q := by
  refine ⟨h.t0.eqv E.nTy E.ty, h.i1.eqv E.nIm E.im, ?_, by rw [E.t0]; exact h.v3, by rw [E.t1]; exact h.v4, by rw [E.m0]; exact h.v5, by rw [E.m1]; exact h.v6, h.g7.eqv E.gn E.g, h.e8.eqv E.nEx E.ex, by rw [E.start]; exact h.s9, ?_, h.d11.eqv E.nD E.da⟩
  · rw [E.nf]
    rcases h.f2 with h | ⟨h0, b, h1, h2, h3, h4⟩
    · exact .inl h
    · refine .inr ⟨h0, b, h1, ⟨h2.c, h2.f, fun j hj => by rw [(E.fn j hj).ty]; exact h2.c0 j hj, fun j hj => by rw [(E.fn j hj).ls]; exact h2.c1 j hj, fun j hj => ?_, fun j hj => ?_, h2.c4⟩, h3, h4⟩
      · obtain ⟨nb, a1, a2, a3⟩ := h2.c2 j hj
        have q := E.fn j hj
        refine ⟨nb, by rw [q.nI]; exact a1, ?_, a3⟩
        rw [q.nI]
        exact ⟨fun k hk => by rw [q.ins k hk]; exact a2.i0 k hk, fun k hk => by rw [q.ins k hk]; exact a2.i1 k hk, fun k hk => by rw [q.ins k hk]; exact a2.i2 k hk, a2.fz⟩
      · have q := E.fn j hj
        rw [q.nT]
        rcases h2.c3 j hj with a | ⟨a0, tk, a1, a2, a3⟩
        · exact .inl a
        · exact .inr ⟨a0, tk, a1, ⟨fun k hk => by rw [q.tabs k hk]; exact a2.1 k hk, a2.2⟩, a3⟩
  · rw [E.nEl]
    rcases h.l10 with h | ⟨h0, b, h1, ⟨fr, h2, h2'⟩, h3, h4⟩
    · exact .inl h
    · refine .inr ⟨h0, b, h1, ⟨fr, h2, fun j hj => ?_⟩, h3, h4⟩
      obtain ⟨a1, a2, a3⟩ := h2' j hj
      obtain ⟨q1, q2, q3⟩ := E.el j hj
      exact ⟨by rw [q1]; exact a1, a2.eqv q2 q3, a3⟩
theorem HM.eqv {wd : World} {L mb : Nat} (h : HM wd w L mb m P) (E : PEq P Q) : HM wd w L mb m Q := by
  haveI := outNil
  exact ⟨h.md, h.inv.eqv E, h.lm, h.st⟩
theorem decA_like {s : ByteArray} {c d : Sc} {x y : Sc × PM} {q r : Nat} (h : decA s c = .ok x q) (g : decA s d = .ok y r) : PEq y.2 x.2 := by
  obtain ⟨z, e1, e2⟩ := decA_again g c
  rw [h] at e1
  (first | (injection e1 with z__; injection z__ with e1) | injection e1 with e1)
  rw [e1]
  exact e2
end
end Go.Proofs.Qxb6500317aGreat
