/-
  Bare.
-/
import Derived.Test.Qxb6500316aWfC
set_option linter.unusedSimpArgs false
set_option linter.unusedVariables false
set_option maxRecDepth 100000
namespace Go.Proofs.Qxb6500316a
open Go Go.Vc

theorem SlF.bare {α : Type} {enc : α → List Value} {sz : Nat} {w : World} {lo : Nat} {v : Value} {n : Nat} {f : Nat → α} (h : SlF enc sz w lo v n f) : ∃ a, v = .slice a n n ∧ (a = none ∨ n ≠ 0) := by
  rcases h with ⟨h0, hv⟩ | ⟨h0, b, h1, _⟩
  · exact ⟨none, by rw [hv, h0], .inl rfl⟩
  · exact ⟨_, h1, .inr h0⟩
theorem bare_flag {a : Option Addr} {n : Nat} (h : a = none ∨ n ≠ 0) (g : (!(Option.isNone a)) = true) : (((n : Nat) : Int) == 0) = false := by
  rcases h with rfl | h
  · cases g
  · rw [beq_eq_false_iff_ne]; omega
section
variable {w0 w : World} {mb lo : Nat} {m : Nat → Value} {P : PM}
theorem baL17 (x : Wx w0 mb m lo P) (S : Same [] w0.heap.size w0 w) : ∀ (k i : Nat), i + k = P.nEl → binlaw_Bare.L17 (some ⟨mb, 0, none⟩) 0 (i : Int) (Yes w0) (fun _ _ => False) w := by
  obtain ⟨a, ev, hrow⟩ := elLook x
  have c := x.mc S 10 (by decide)
  rw [ev] at c
  intro k
  induction k with
  | zero =>
    intro i hi
    refine binlaw_Bare.step17 _ _ _ _ _ _ ?_
    unfold binlaw_Bare.V17
    simp only [nilV_some, Nat.zero_add]
    exact ⟨_, _, _, c, cond_false' (decide_eq_false (by omega)) ⟨rfl, S⟩⟩
  | succ k ih =>
    intro i hi
    have hb := x.F.pb.nEl
    refine binlaw_Bare.step17 _ _ _ _ _ _ ?_
    unfold binlaw_Bare.V17
    obtain ⟨b, rfl, lb, fr, row, hel⟩ := hrow (by omega)
    obtain ⟨_, g2, _⟩ := hel i (by omega)
    obtain ⟨fa, fe, hfa⟩ := g2.bare
    have k3 := (S.cell (p := ⟨b, i * 4 + 3, none⟩) lb (by simp)).trans (row.c i (by omega) 3 _ rfl)
    rw [fe] at k3
    have L19 : binlaw_Bare.L19 (some ⟨mb, 0, none⟩) 0 (i : Int) false (Yes w0) (fun _ _ => False) w := by
      refine binlaw_Bare.step19 _ _ _ _ _ _ _ ?_
      unfold binlaw_Bare.V19
      refine cond_false' rfl ?_
      refine binlaw_Bare.step20 _ _ _ _ _ _ ?_
      unfold binlaw_Bare.V20
      rw [nx i (by omega)]
      exact ih (i + 1) (by omega)
    simp only [nilV_some, Nat.zero_add]
    refine ⟨_, _, _, c, cond_true' (decide_eq_true (by omega)) ⟨_, _, _, c, by omega, ?_⟩⟩
    simp only [nilV_some, add_mk, Nat.zero_add, Int.toNat_natCast]
    refine ⟨_, _, _, k3, cond_intro (fun g => ⟨_, _, _, c, by omega, ?_⟩) (fun g => L19)⟩
    simp only [nilV_some, add_mk, Nat.zero_add, Int.toNat_natCast]
    refine ⟨_, _, _, k3, ?_⟩
    rw [bare_flag hfa g]
    exact L19
theorem baL15 (x : Wx w0 mb m lo P) (S : Same [] w0.heap.size w0 w) : ∀ (k i : Nat), i + k = P.nf → binlaw_Bare.L15 (some ⟨mb, 0, none⟩) 0 (i : Int) (Yes w0) (fun _ _ => False) w := by
  obtain ⟨a, ev, hrow⟩ := fnLook x
  have c := x.mc S 2 (by decide)
  rw [ev] at c
  intro k
  induction k with
  | zero =>
    intro i hi
    refine binlaw_Bare.step15 _ _ _ _ _ _ ?_
    unfold binlaw_Bare.V15
    simp only [nilV_some, Nat.zero_add]
    exact ⟨_, _, _, c, cond_false' (decide_eq_false (by omega)) (baL17 x S P.nEl 0 (by omega))⟩
  | succ k ih =>
    intro i hi
    have hb := x.F.pb.nf
    refine binlaw_Bare.step15 _ _ _ _ _ _ ?_
    unfold binlaw_Bare.V15
    obtain ⟨b, rfl, lb, row⟩ := hrow (by omega)
    obtain ⟨ta, te, hta⟩ : ∃ ta, w0.cell? ⟨b, i * 4 + 3, none⟩ = some (.slice ta (P.fn i).nTab (P.fn i).nTab) ∧ (ta = none ∨ (P.fn i).nTab ≠ 0) := by
      rcases row.c3 i (by omega) with ⟨e0, e1⟩ | ⟨e0, tk, e1, _⟩
      · exact ⟨none, by rw [e1, e0], .inl rfl⟩
      · exact ⟨_, e1, .inr (by omega)⟩
    have k3 := (S.cell (p := ⟨b, i * 4 + 3, none⟩) lb (by simp)).trans te
    have L16 : binlaw_Bare.L16 (some ⟨mb, 0, none⟩) 0 (i : Int) false (Yes w0) (fun _ _ => False) w := by
      refine binlaw_Bare.step16 _ _ _ _ _ _ _ ?_
      unfold binlaw_Bare.V16
      refine cond_false' rfl ?_
      refine binlaw_Bare.step18 _ _ _ _ _ _ ?_
      unfold binlaw_Bare.V18
      rw [nx i (by omega)]
      exact ih (i + 1) (by omega)
    simp only [nilV_some, Nat.zero_add]
    refine ⟨_, _, _, c, cond_true' (decide_eq_true (by omega)) ⟨_, _, _, c, by omega, ?_⟩⟩
    simp only [nilV_some, add_mk, Nat.zero_add, Int.toNat_natCast]
    refine ⟨_, _, _, k3, cond_intro (fun g => ⟨_, _, _, c, by omega, ?_⟩) (fun g => L16)⟩
    simp only [nilV_some, add_mk, Nat.zero_add, Int.toNat_natCast]
    refine ⟨_, _, _, k3, ?_⟩
    rw [bare_flag hta g]
    exact L16
theorem Bare_yes (x : Wx w0 mb m lo P) (S : Same [] w0.heap.size w0 w) : Runs Try.prog binlaw_Bare.id #[rp mb] w (Yes w0) := by
  obtain ⟨a0, e0, h0⟩ := x.inv.t0.bare
  obtain ⟨a1, e1, h1⟩ := x.inv.i1.bare
  obtain ⟨a2, e2, h2⟩ : ∃ a, m 2 = .slice a P.nf P.nf ∧ (a = none ∨ P.nf ≠ 0) := by
    rcases x.inv.f2 with ⟨g0, hv⟩ | ⟨g0, b, g1, _⟩
    · exact ⟨none, by rw [hv, g0], .inl rfl⟩
    · exact ⟨_, g1, .inr g0⟩
  obtain ⟨a7, e7, h7⟩ := x.inv.g7.bare
  obtain ⟨a8, e8, h8⟩ := x.inv.e8.bare
  obtain ⟨a10, e10, h10⟩ : ∃ a, m 10 = .slice a P.nEl P.nEl ∧ (a = none ∨ P.nEl ≠ 0) := by
    rcases x.inv.l10 with ⟨g0, hv⟩ | ⟨g0, b, g1, _⟩
    · exact ⟨none, by rw [hv, g0], .inl rfl⟩
    · exact ⟨_, g1, .inr g0⟩
  obtain ⟨a11, e11, h11⟩ := x.inv.d11.bare
  have c0 := x.mc S 0 (by decide); rw [e0] at c0
  have c1 := x.mc S 1 (by decide); rw [e1] at c1
  have c2 := x.mc S 2 (by decide); rw [e2] at c2
  have c7 := x.mc S 7 (by decide); rw [e7] at c7
  have c8 := x.mc S 8 (by decide); rw [e8] at c8
  have c10 := x.mc S 10 (by decide); rw [e10] at c10
  have c11 := x.mc S 11 (by decide); rw [e11] at c11
  have L14 : binlaw_Bare.L14 (some ⟨mb, 0, none⟩) 0 (Yes w0) (fun _ _ => False) w := by
    refine binlaw_Bare.step14 _ _ _ _ _ ?_
    unfold binlaw_Bare.V14
    exact baL15 x S P.nf 0 (by omega)
  have L13 : binlaw_Bare.L13 (some ⟨mb, 0, none⟩) 0 false (Yes w0) (fun _ _ => False) w := by
    refine binlaw_Bare.step13 _ _ _ _ _ _ ?_
    unfold binlaw_Bare.V13
    exact cond_false' rfl L14
  have L12 : binlaw_Bare.L12 (some ⟨mb, 0, none⟩) 0 (Yes w0) (fun _ _ => False) w := by
    refine binlaw_Bare.step12 _ _ _ _ _ ?_
    unfold binlaw_Bare.V12
    simp only [nilV_some, Nat.zero_add]
    refine ⟨_, _, _, c11, cond_intro (fun g => ⟨_, _, _, c11, ?_⟩) (fun g => L13)⟩
    rw [bare_flag h11 g]
    exact L13
  have L11 : binlaw_Bare.L11 (some ⟨mb, 0, none⟩) 0 false (Yes w0) (fun _ _ => False) w := by
    refine binlaw_Bare.step11 _ _ _ _ _ _ ?_
    unfold binlaw_Bare.V11
    exact cond_false' rfl L12
  have L10 : binlaw_Bare.L10 (some ⟨mb, 0, none⟩) 0 (Yes w0) (fun _ _ => False) w := by
    refine binlaw_Bare.step10 _ _ _ _ _ ?_
    unfold binlaw_Bare.V10
    simp only [nilV_some, Nat.zero_add]
    refine ⟨_, _, _, c10, cond_intro (fun g => ⟨_, _, _, c10, ?_⟩) (fun g => L11)⟩
    rw [bare_flag h10 g]
    exact L11
  have L9 : binlaw_Bare.L9 (some ⟨mb, 0, none⟩) 0 false (Yes w0) (fun _ _ => False) w := by
    refine binlaw_Bare.step9 _ _ _ _ _ _ ?_
    unfold binlaw_Bare.V9
    exact cond_false' rfl L10
  have L8 : binlaw_Bare.L8 (some ⟨mb, 0, none⟩) 0 (Yes w0) (fun _ _ => False) w := by
    refine binlaw_Bare.step8 _ _ _ _ _ ?_
    unfold binlaw_Bare.V8
    simp only [nilV_some, Nat.zero_add]
    refine ⟨_, _, _, c8, cond_intro (fun g => ⟨_, _, _, c8, ?_⟩) (fun g => L9)⟩
    rw [bare_flag h8 g]
    exact L9
  have L7 : binlaw_Bare.L7 (some ⟨mb, 0, none⟩) 0 false (Yes w0) (fun _ _ => False) w := by
    refine binlaw_Bare.step7 _ _ _ _ _ _ ?_
    unfold binlaw_Bare.V7
    exact cond_false' rfl L8
  have L6 : binlaw_Bare.L6 (some ⟨mb, 0, none⟩) 0 (Yes w0) (fun _ _ => False) w := by
    refine binlaw_Bare.step6 _ _ _ _ _ ?_
    unfold binlaw_Bare.V6
    simp only [nilV_some, Nat.zero_add]
    refine ⟨_, _, _, c7, cond_intro (fun g => ⟨_, _, _, c7, ?_⟩) (fun g => L7)⟩
    rw [bare_flag h7 g]
    exact L7
  have L5 : binlaw_Bare.L5 (some ⟨mb, 0, none⟩) 0 false (Yes w0) (fun _ _ => False) w := by
    refine binlaw_Bare.step5 _ _ _ _ _ _ ?_
    unfold binlaw_Bare.V5
    exact cond_false' rfl L6
  have L4 : binlaw_Bare.L4 (some ⟨mb, 0, none⟩) 0 (Yes w0) (fun _ _ => False) w := by
    refine binlaw_Bare.step4 _ _ _ _ _ ?_
    unfold binlaw_Bare.V4
    simp only [nilV_some, Nat.zero_add]
    refine ⟨_, _, _, c2, cond_intro (fun g => ⟨_, _, _, c2, ?_⟩) (fun g => L5)⟩
    rw [bare_flag h2 g]
    exact L5
  have L3 : binlaw_Bare.L3 (some ⟨mb, 0, none⟩) 0 false (Yes w0) (fun _ _ => False) w := by
    refine binlaw_Bare.step3 _ _ _ _ _ _ ?_
    unfold binlaw_Bare.V3
    exact cond_false' rfl L4
  have L2 : binlaw_Bare.L2 (some ⟨mb, 0, none⟩) 0 (Yes w0) (fun _ _ => False) w := by
    refine binlaw_Bare.step2 _ _ _ _ _ ?_
    unfold binlaw_Bare.V2
    simp only [nilV_some, Nat.zero_add]
    refine ⟨_, _, _, c1, cond_intro (fun g => ⟨_, _, _, c1, ?_⟩) (fun g => L3)⟩
    rw [bare_flag h1 g]
    exact L3
  have L1 : binlaw_Bare.L1 (some ⟨mb, 0, none⟩) 0 false (Yes w0) (fun _ _ => False) w := by
    refine binlaw_Bare.step1 _ _ _ _ _ _ ?_
    unfold binlaw_Bare.V1
    exact cond_false' rfl L2
  refine binlaw_Bare.enter _ _ _ _ ?_
  unfold binlaw_Bare.V
  simp only [nilV_some, Nat.zero_add]
  refine ⟨_, _, _, c0, cond_intro (fun g => ⟨_, _, _, c0, ?_⟩) (fun g => L1)⟩
  rw [bare_flag h0 g]
  exact L1
end

end Go.Proofs.Qxb6500316a
