/-
  The compiler is at rest; what one step owes.
-/
import Derived.Test.Qxb6500321aMoI
import Derived.Test.Qxb6500321aIdA
import Derived.Test.Qxb6500321aSv
set_option linter.unusedSimpArgs false
set_option linter.unusedVariables false
set_option maxRecDepth 100000
set_option linter.unusedSectionVars false
set_option maxHeartbeats 1000000
namespace Go.Proofs.Qxb6500321a
open Go Go.Vc

/-! ### Check -/
theorem Check_spec {w : World} {pb cb : Nat} (p : PZe w pb cb) : Runs Try.prog prep_Prep_Check.id #[rp pb] w fun v w' => v = .bool true ∧ Same [] w.heap.size w w' := by
  obtain ⟨cells, hg, h, dead, p⟩ := p
  have hl := get_lt p.c0
  have l1 := p.l; have l2 := p.g
  refine prep_Prep_Check.enter _ _ _ _ ?_
  unfold prep_Prep_Check.V
  simp only [nilV_some, Nat.zero_add]
  refine ⟨_, _, _, p.a.s, _, p.a.d, cond_false' rfl (cond_false' (decide_eq_false (by omega)) ⟨_, p.a.hi, cond_false' (decide_eq_false (by omega)) ?_⟩)⟩
  refine prep_Prep_Check.step1 _ _ _ _ ?_
  unfold prep_Prep_Check.V1
  have p1 : PZ w.drew pb cb cells hg h dead := p.same (Same.refl [] w.heap.size w).drew (Nat.le_refl _) (by simp) (by simp)
  simp only [true_and, nilV_some, Nat.zero_add]
  refine ⟨_, p1.a.hi, _, _, _, p1.a.s, cond_false' (decide_eq_false (by omega)) ⟨_, p1.a.hi, cond_false' (decide_eq_false (by omega)) ⟨_, _, _, p1.a.s, cond_false' (decide_eq_false (by omega)) ?_⟩⟩⟩
  refine prep_Prep_Check.step2 _ _ _ _ ?_
  unfold prep_Prep_Check.V2
  have c0 := p1.a.B.cell p1.c0 (r := 0) (by omega)
  have c1 := p1.a.B.cell p1.c0 (r := 1) (by omega)
  have c2 := p1.a.B.cell p1.c0 (r := 2) (by omega)
  simp only [true_and, nilV_some, Nat.zero_add]
  refine ⟨_, _, _, p1.a.s, ⟨by omega, by omega⟩, ?_⟩
  rw [nilV_some]
  simp only [add_mk, Nat.zero_add, show Int.toNat 0 * 3 = 0 from rfl]
  refine ⟨_, _, _, c0, c1, c2, _, _, neq_ins _ _ _ ⟨0, 0, 0⟩ ⟨0, 0, 0⟩, cond_false' rfl ?_⟩
  have p2 : PZ w.drew.drew pb cb cells hg h dead := p1.same (Same.refl [] w.drew.heap.size w.drew).drew (Nat.le_refl _) (by simp) (by simp)
  refine ⟨_, _, _, p2.a.s, _, _, _, p2.a.s, ⟨by omega, by omega, by omega, by omega⟩, _, p2.a.hi, ?_⟩
  rw [slAddr_lt (by decide), show Int.toNat ((121 : Nat) : Int) - 0 = 121 from rfl, show 121 - 0 = 121 from rfl, Nat.zero_mul, Nat.zero_add]
  have loop : ∀ (k i : Nat), i + k = 121 → hg ≤ i → prep_Prep_Check.L3 (some ⟨cb, 0, none⟩) 121 121 (i : Int) (fun v w' => v = .bool true ∧ Same [] w.heap.size w w') (fun _ _ => False) w.drew.drew := by
    intro k
    induction k with
    | zero =>
      intro i hi hle
      refine prep_Prep_Check.step3 _ _ _ _ _ _ _ ?_
      unfold prep_Prep_Check.V3
      exact cond_false' (decide_eq_false (by omega)) ⟨rfl, (Same.refl [] w.heap.size w).drew.drew⟩
    | succ k ih =>
      intro i hi hle
      refine prep_Prep_Check.step3 _ _ _ _ _ _ _ ?_
      unfold prep_Prep_Check.V3
      have z0' := p2.a.B.zero (j := i) (by omega) (by omega) (r := 0) (by omega)
      have z1' := p2.a.B.zero (j := i) (by omega) (by omega) (r := 1) (by omega)
      have z2' := p2.a.B.zero (j := i) (by omega) (by omega) (r := 2) (by omega)
      simp only [nilV_some, add_mk, Nat.zero_add, Int.toNat_natCast]
      refine cond_true' (decide_eq_true (by omega)) ⟨⟨by omega, by omega⟩, _, _, _, z0', z1', z2', _, _, neq_ins _ _ _ ⟨0, 0, 0⟩ ⟨0, 0, 0⟩, cond_false' rfl ?_⟩
      rw [wrap_i64 (by omega) (by omega), show (i : Int) + 1 = ((i + 1 : Nat) : Int) by omega]
      exact ih (i + 1) (by omega) (by omega)
  exact loop (121 - hg) hg (by omega) (Nat.le_refl _)

/-! ### A module that is another's equal -/
section
variable {w : World} {lo : Nat} {m : Nat → Value} {P Q : PM}
theorem SlF.eqv [OutOf] {α : Type} {enc : α → List Value} {sz : Nat} {v : Value} {n n' : Nat} {f g : Nat → α} (h : SlF enc sz w lo v n f) (hn : n' = n) (hg : ∀ j, j < n → g j = f j) : SlF enc sz w lo v n' g := by
  subst hn
  rcases h with h | ⟨h0, b, h1, h2, h3, h4⟩
  · exact .inl h
  · exact .inr ⟨h0, b, h1, ⟨fun j hj k u hk => h2.c j hj k u (by rw [← hg j hj]; exact hk), h2.f⟩, h3, h4⟩
theorem MInv.eqv [OutOf] (h : MInv w lo m P) (E : PEq P Q) : MInv w lo m Q := by
  refine ⟨h.t0.eqv E.nTy E.ty, h.i1.eqv E.nIm E.im, ?_, by rw [E.t0]; exact h.v3, by rw [E.t1]; exact h.v4, by rw [E.m0]; exact h.v5, by rw [E.m1]; exact h.v6, h.g7.eqv E.gn E.g, h.e8.eqv E.nEx E.ex, by rw [E.start]; exact h.s9, ?_, h.d11.eqv E.nD E.da⟩
  · rw [E.nf]
    rcases h.f2 with h | ⟨h0, b, h1, h2, h3, h4⟩
    · exact .inl h
    · refine .inr ⟨h0, b, h1, ⟨h2.c, h2.f, fun j hj => by rw [(E.fn j hj).ty]; exact h2.c0 j hj, fun j hj => by rw [(E.fn j hj).ls]; exact h2.c1 j hj, fun j hj => ?_, fun j hj => ?_, h2.c4⟩, h3, h4⟩
      · obtain ⟨nb, a1, a2, a3⟩ := h2.c2 j hj
        have q := E.fn j hj
        refine ⟨nb, by rw [q.nI]; exact a1, ?_, a3⟩
        rw [q.nI]
        exact ⟨fun k hk => by rw [q.ins k hk]; exact a2.i0 k hk, fun k hk => by rw [q.ins k hk]; exact a2.i1 k hk, fun k hk => by rw [q.ins k hk]; exact a2.i2 k hk, a2.fz⟩
      · have q := E.fn j hj
        rw [q.nT]
        rcases h2.c3 j hj with a | ⟨a0, tk, a1, a2, a3⟩
        · exact .inl a
        · exact .inr ⟨a0, tk, a1, ⟨fun k hk => by rw [q.tabs k hk]; exact a2.1 k hk, a2.2⟩, a3⟩
  · rw [E.nEl]
    rcases h.l10 with h | ⟨h0, b, h1, ⟨fr, h2, h2'⟩, h3, h4⟩
    · exact .inl h
    · refine .inr ⟨h0, b, h1, ⟨fr, h2, fun j hj => ?_⟩, h3, h4⟩
      obtain ⟨a1, a2, a3⟩ := h2' j hj
      obtain ⟨q1, q2, q3⟩ := E.el j hj
      exact ⟨by rw [q1]; exact a1, a2.eqv q2 q3, a3⟩
theorem HM.eqv {wd : World} {L mb : Nat} (h : HM wd w L mb m P) (E : PEq P Q) : HM wd w L mb m Q := by
  haveI := outNil
  exact ⟨h.md, h.inv.eqv E, h.lm, h.st⟩
end
end Go.Proofs.Qxb6500321a
