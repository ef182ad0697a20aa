/-
  parts, WellFormed, Bare.
-/
import Derived.Test.Qxb6500316aWfB
set_option linter.unusedSimpArgs false
set_option linter.unusedVariables false
set_option maxRecDepth 100000
namespace Go.Proofs.Qxb6500316a
open Go Go.Vc

/-- A well-formed module in memory. -/
structure Wx (w0 : World) (mb : Nat) (m : Nat → Value) (lo : Nat) (P : PM) : Prop where
  md : ModAt w0 mb m
  inv : MInv w0 lo m P
  F : WFP P
section
variable {w0 w : World} {mb lo : Nat} {m : Nat → Value} {P : PM}
theorem Wx.sx (x : Wx w0 mb m lo P) : Sx w0 mb m lo P := ⟨x.md, x.inv, x.F.pb.sb⟩
theorem Wx.mc (x : Wx w0 mb m lo P) (S : Same [] w0.heap.size w0 w) (j : Nat) (hj : j < 12) : w.cell? ⟨mb, j, none⟩ = some (m j) := x.sx.mc S j hj

theorem paL8 (x : Wx w0 mb m lo P) : ∀ (k i : Nat) (w : World), i + k = P.nD → Same [] w0.heap.size w0 w → binlaw_parts.L8 (some ⟨mb, 0, none⟩) (i : Int) (Yes w0) (fun _ _ => False) w := by
  obtain ⟨a, ev, hrow⟩ := x.inv.d11.look
  intro k
  induction k with
  | zero =>
    intro i w hi S
    refine binlaw_parts.step8 _ _ _ _ _ ?_
    unfold binlaw_parts.V8
    have c := x.mc S 11 (by decide)
    rw [ev] at c
    simp only [nilV_some, Nat.zero_add]
    exact ⟨_, _, _, c, cond_false' (decide_eq_false (by omega)) ⟨rfl, S⟩⟩
  | succ k ih =>
    intro i w hi S
    have hb := x.F.pb.nD
    refine binlaw_parts.step8 _ _ _ _ _ ?_
    unfold binlaw_parts.V8
    have c := x.mc S 11 (by decide)
    rw [ev] at c
    obtain ⟨b, rfl, lb, row⟩ := hrow (by omega)
    have row' : ∀ k u, (datE (P.da i))[k]? = some u → w.cell? ⟨b, i * 4 + k, none⟩ = some u := fun k u hu => (S.cell (p := ⟨b, i * 4 + k, none⟩) lb (by simp)).trans (row i (by omega) k u hu)
    obtain ⟨hk, hz⟩ := x.F.da i (by omega)
    simp only [nilV_some, Nat.zero_add]
    refine ⟨_, _, _, c, cond_true' (decide_eq_true (by omega)) ⟨_, _, _, c, by omega, ?_⟩⟩
    simp only [nilV_some, add_mk, Nat.zero_add, Int.toNat_natCast]
    refine ⟨_, row' 3 _ rfl, cond_false' (decide_eq_false (by omega)) ⟨_, _, _, c, by omega, ?_⟩⟩
    simp only [nilV_some, add_mk, Nat.zero_add, Int.toNat_natCast]
    refine ⟨_, _, _, row' 0 _ rfl, row' 1 _ rfl, row' 2 _ rfl, RunsQ.post (konst_yes (P.da i).off hk w) ?_⟩
    rintro v w1 ⟨rfl, S1⟩
    refine ⟨_, rfl, cond_false' rfl ?_⟩
    rw [nx i (by omega)]
    exact ih (i + 1) w1 (by omega) (Same.more (B := 0) S S1)
theorem elLook (x : Wx w0 mb m lo P) : ∃ a, m 10 = .slice a P.nEl P.nEl ∧ (P.nEl ≠ 0 → ∃ tb, a = some ⟨tb, 0, none⟩ ∧ tb < w0.heap.size ∧ ElRow w0 lo tb P.nEl P.el) := by
  rcases x.inv.l10 with ⟨h0, hv⟩ | ⟨h0, b, h1, h2, h3, h4⟩
  · exact ⟨none, by rw [hv, h0], fun g => absurd h0 g⟩
  · exact ⟨_, h1, fun _ => ⟨b, rfl, h4, h2⟩⟩
theorem fnLook (x : Wx w0 mb m lo P) : ∃ a, m 2 = .slice a P.nf P.nf ∧ (P.nf ≠ 0 → ∃ fb, a = some ⟨fb, 0, none⟩ ∧ fb < w0.heap.size ∧ FnRow w0 (lo + 1) fb P.nf P.nf P.fn) := by
  rcases x.inv.f2 with ⟨h0, hv⟩ | ⟨h0, b, h1, h2, h3, h4⟩
  · exact ⟨none, by rw [hv, h0], fun g => absurd h0 g⟩
  · exact ⟨_, h1, fun _ => ⟨b, rfl, h4, h2⟩⟩
theorem paL7 (x : Wx w0 mb m lo P) : ∀ (k i : Nat) (w : World), i + k = P.nEl → Same [] w0.heap.size w0 w → binlaw_parts.L7 (some ⟨mb, 0, none⟩) (i : Int) (Yes w0) (fun _ _ => False) w := by
  obtain ⟨a, ev, hrow⟩ := elLook x
  intro k
  induction k with
  | zero =>
    intro i w hi S
    refine binlaw_parts.step7 _ _ _ _ _ ?_
    unfold binlaw_parts.V7
    have c := x.mc S 10 (by decide)
    rw [ev] at c
    simp only [nilV_some, Nat.zero_add]
    exact ⟨_, _, _, c, cond_false' (decide_eq_false (by omega)) (paL8 x P.nD 0 w (by omega) S)⟩
  | succ k ih =>
    intro i w hi S
    have hb := x.F.pb.nEl
    refine binlaw_parts.step7 _ _ _ _ _ ?_
    unfold binlaw_parts.V7
    have c := x.mc S 10 (by decide)
    rw [ev] at c
    obtain ⟨b, rfl, lb, fr, row, hel⟩ := hrow (by omega)
    obtain ⟨g1, g2, _⟩ := hel i (by omega)
    have row' : ∀ k u, (elE (fr i))[k]? = some u → w.cell? ⟨b, i * 4 + k, none⟩ = some u := fun k u hu => (S.cell (p := ⟨b, i * 4 + k, none⟩) lb (by simp)).trans (row.c i (by omega) k u hu)
    have hk := x.F.el i (by omega)
    have hz := (x.F.pb.el i (by omega)).2.1
    obtain ⟨fa, fe, _⟩ := g2.look
    have k0 := row' 0 _ rfl; have k1 := row' 1 _ rfl; have k2 := row' 2 _ rfl; have k3 := row' 3 _ rfl
    rw [g1] at k0 k1 k2
    rw [fe] at k3
    simp only [nilV_some, Nat.zero_add]
    refine ⟨_, _, _, c, cond_true' (decide_eq_true (by omega)) ⟨_, _, _, c, by omega, ?_⟩⟩
    simp only [nilV_some, add_mk, Nat.zero_add, Int.toNat_natCast]
    refine ⟨_, _, _, k3, cond_false' (decide_eq_false (by omega)) ⟨_, _, _, c, by omega, ?_⟩⟩
    simp only [nilV_some, add_mk, Nat.zero_add, Int.toNat_natCast]
    refine ⟨_, _, _, k0, k1, k2, RunsQ.post (konst_yes (P.el i).off hk w) ?_⟩
    rintro v w1 ⟨rfl, S1⟩
    refine ⟨_, rfl, cond_false' rfl ?_⟩
    rw [nx i (by omega)]
    exact ih (i + 1) w1 (by omega) (Same.more (B := 0) S S1)
theorem paL5 (x : Wx w0 mb m lo P) : ∀ (k i : Nat) (w : World), i + k = P.nEx → Same [] w0.heap.size w0 w → binlaw_parts.L5 (some ⟨mb, 0, none⟩) (i : Int) (Yes w0) (fun _ _ => False) w := by
  obtain ⟨a, ev, hrow⟩ := x.inv.e8.look
  intro k
  induction k with
  | zero =>
    intro i w hi S
    refine binlaw_parts.step5 _ _ _ _ _ ?_
    unfold binlaw_parts.V5
    have c := x.mc S 8 (by decide)
    rw [ev] at c
    simp only [nilV_some, Nat.zero_add]
    exact ⟨_, _, _, c, cond_false' (decide_eq_false (by omega)) (paL7 x P.nEl 0 w (by omega) S)⟩
  | succ k ih =>
    intro i w hi S
    have hb := x.F.pb.nEx
    refine binlaw_parts.step5 _ _ _ _ _ ?_
    unfold binlaw_parts.V5
    have c := x.mc S 8 (by decide)
    rw [ev] at c
    obtain ⟨b, rfl, lb, row⟩ := hrow (by omega)
    have row' : ∀ k u, (expE (P.ex i))[k]? = some u → w.cell? ⟨b, i * 3 + k, none⟩ = some u := fun k u hu => (S.cell (p := ⟨b, i * 3 + k, none⟩) lb (by simp)).trans (row i (by omega) k u hu)
    obtain ⟨h1, h2⟩ := x.F.ex i (by omega)
    simp only [nilV_some, Nat.zero_add]
    refine ⟨_, _, _, c, cond_true' (decide_eq_true (by omega)) ⟨_, _, _, c, by omega, ?_⟩⟩
    simp only [nilV_some, add_mk, Nat.zero_add, Int.toNat_natCast]
    refine ⟨_, row' 0 _ rfl, cond_false' (decide_eq_false (by omega)) ⟨_, _, _, c, by omega, ?_⟩⟩
    simp only [nilV_some, add_mk, Nat.zero_add, Int.toNat_natCast]
    refine ⟨_, row' 1 _ rfl, cond_false' (decide_eq_false (by omega)) ?_⟩
    refine binlaw_parts.step6 _ _ _ _ _ ?_
    unfold binlaw_parts.V6
    rw [nx i (by omega)]
    exact ih (i + 1) w (by omega) S
theorem paL4 (x : Wx w0 mb m lo P) : ∀ (k i : Nat) (w : World), i + k = P.gn → Same [] w0.heap.size w0 w → binlaw_parts.L4 (some ⟨mb, 0, none⟩) (i : Int) (Yes w0) (fun _ _ => False) w := by
  obtain ⟨a, ev, hrow⟩ := x.inv.g7.look
  intro k
  induction k with
  | zero =>
    intro i w hi S
    refine binlaw_parts.step4 _ _ _ _ _ ?_
    unfold binlaw_parts.V4
    have c := x.mc S 7 (by decide)
    rw [ev] at c
    simp only [nilV_some, Nat.zero_add]
    exact ⟨_, _, _, c, cond_false' (decide_eq_false (by omega)) (paL5 x P.nEx 0 w (by omega) S)⟩
  | succ k ih =>
    intro i w hi S
    have hb := x.F.pb.gn
    refine binlaw_parts.step4 _ _ _ _ _ ?_
    unfold binlaw_parts.V4
    have c := x.mc S 7 (by decide)
    rw [ev] at c
    obtain ⟨b, rfl, lb, row⟩ := hrow (by omega)
    have row' : ∀ {w : World}, Same [] w0.heap.size w0 w → ∀ k u, (globE (P.g i))[k]? = some u → w.cell? ⟨b, i * 5 + k, none⟩ = some u := fun S k u hu => (S.cell (p := ⟨b, i * 5 + k, none⟩) lb (by simp)).trans (row i (by omega) k u hu)
    obtain ⟨h1, h2⟩ := x.F.g i (by omega)
    simp only [nilV_some, Nat.zero_add]
    refine ⟨_, _, _, c, cond_true' (decide_eq_true (by omega)) ⟨_, _, _, c, by omega, ?_⟩⟩
    simp only [nilV_some, add_mk, Nat.zero_add, Int.toNat_natCast]
    refine ⟨_, row' S 0 _ rfl, RunsQ.post (IsVal_yes _ h1 w) ?_⟩
    rintro v w1 ⟨rfl, S1⟩
    have T1 := Same.more (B := 0) S S1
    have c1 := x.mc T1 7 (by decide)
    rw [ev] at c1
    refine ⟨_, rfl, cond_false' rfl ⟨_, _, _, c1, by omega, ?_⟩⟩
    simp only [nilV_some, add_mk, Nat.zero_add, Int.toNat_natCast]
    refine ⟨_, _, _, row' T1 2 _ rfl, row' T1 3 _ rfl, row' T1 4 _ rfl, RunsQ.post (konst_yes (P.g i).init h2 w1) ?_⟩
    rintro v w2 ⟨rfl, S2⟩
    refine ⟨_, rfl, cond_false' rfl ?_⟩
    rw [nx i (by omega)]
    exact ih (i + 1) w2 (by omega) (Same.more (B := 0) T1 S2)
theorem paL2 (x : Wx w0 mb m lo P) : ∀ (k i : Nat) (w : World), i + k = P.nIm → Same [] w0.heap.size w0 w → binlaw_parts.L2 (some ⟨mb, 0, none⟩) (i : Int) (Yes w0) (fun _ _ => False) w := by
  obtain ⟨a, ev, hrow⟩ := x.inv.i1.look
  intro k
  induction k with
  | zero =>
    intro i w hi S
    refine binlaw_parts.step2 _ _ _ _ _ ?_
    unfold binlaw_parts.V2
    have c := x.mc S 1 (by decide)
    rw [ev] at c
    simp only [nilV_some, Nat.zero_add]
    exact ⟨_, _, _, c, cond_false' (decide_eq_false (by omega)) (paL4 x P.gn 0 w (by omega) S)⟩
  | succ k ih =>
    intro i w hi S
    have hb := x.F.pb.nIm
    refine binlaw_parts.step2 _ _ _ _ _ ?_
    unfold binlaw_parts.V2
    have c := x.mc S 1 (by decide)
    rw [ev] at c
    obtain ⟨b, rfl, lb, row⟩ := hrow (by omega)
    have row' : ∀ k u, (impE (P.im i))[k]? = some u → w.cell? ⟨b, i * 3 + k, none⟩ = some u := fun k u hu => (S.cell (p := ⟨b, i * 3 + k, none⟩) lb (by simp)).trans (row i (by omega) k u hu)
    obtain ⟨h1, h2⟩ := x.F.im i (by omega)
    obtain ⟨_, _, h3⟩ := x.F.pb.im i (by omega)
    simp only [nilV_some, Nat.zero_add]
    refine ⟨_, _, _, c, cond_true' (decide_eq_true (by omega)) ⟨_, _, _, c, by omega, ?_⟩⟩
    simp only [nilV_some, add_mk, Nat.zero_add, Int.toNat_natCast]
    refine ⟨_, _, _, row' 0 _ rfl, row' 1 _ rfl, row' 2 _ rfl, letB_intro fun xb hxb => letW_intro fun w1 hw1 => ?_⟩
    have S1 : Same [] w.heap.size w w1 := by rw [hw1]; exact (Same.refl _ _ _).alloc (Nat.le_refl _) _
    have can1 : ∀ j, j < 3 → can w1 ⟨xb, j, none⟩ := fun j hj => by
      refine ⟨?_, by rw [hw1, hxb, World.frozen?_alloc_new]⟩
      rw [hw1, hxb, World.cell?_alloc_new]
      have : j = 0 ∨ j = 1 ∨ j = 2 := by omega
      rcases this with rfl | rfl | rfl <;> exact ⟨_, rfl⟩
    clear hw1
    refine putCells_intro xb _ 0 w1 _ (fun j hj => by rw [Nat.zero_add]; exact can1 j (by simpa using hj)) (fun w2 hF => ?_)
    have S2 : Same [] w.heap.size w w2 := S1.trans ((hF.same w.heap.size).mono (Nat.le_refl _) (by intro k hk hl; simp at hk; omega))
    have k0 : w2.cell? ⟨xb, 0, none⟩ = some (.string (P.im i).md) := by rw [hF.cell, if_pos (by simp)]; rfl
    have k1 : w2.cell? ⟨xb, 1, none⟩ = some (.string (P.im i).nm) := by rw [hF.cell, if_pos (by simp)]; rfl
    have k2 : w2.cell? ⟨xb, 2, none⟩ = some (.int .i64 (P.im i).ty) := by rw [hF.cell, if_pos (by simp)]; rfl
    refine ⟨_, k0, cond_false' (decide_eq_false (by omega)) ⟨_, k1, cond_false' (decide_eq_false (by omega)) ⟨_, k2, RunsQ.post (u32ok_yes _ h3 w2) ?_⟩⟩⟩
    rintro v w3 ⟨rfl, S3⟩
    refine ⟨_, rfl, cond_false' rfl ?_⟩
    refine binlaw_parts.step3 _ _ _ _ _ ?_
    unfold binlaw_parts.V3
    rw [nx i (by omega)]
    exact ih (i + 1) w3 (by omega) (Same.more (B := 0) S (Same.more (B := 0) S2 S3))
theorem paL1 (x : Wx w0 mb m lo P) : ∀ (k i : Nat) (w : World), i + k = P.nTy → Same [] w0.heap.size w0 w → binlaw_parts.L1 (some ⟨mb, 0, none⟩) (i : Int) (Yes w0) (fun _ _ => False) w := by
  obtain ⟨a, ev, hrow⟩ := x.inv.t0.look
  intro k
  induction k with
  | zero =>
    intro i w hi S
    refine binlaw_parts.step1 _ _ _ _ _ ?_
    unfold binlaw_parts.V1
    have c := x.mc S 0 (by decide)
    rw [ev] at c
    simp only [nilV_some, Nat.zero_add]
    exact ⟨_, _, _, c, cond_false' (decide_eq_false (by omega)) (paL2 x P.nIm 0 w (by omega) S)⟩
  | succ k ih =>
    intro i w hi S
    have hb := x.F.pb.nTy
    refine binlaw_parts.step1 _ _ _ _ _ ?_
    unfold binlaw_parts.V1
    have c := x.mc S 0 (by decide)
    rw [ev] at c
    obtain ⟨b, rfl, lb, row⟩ := hrow (by omega)
    have row' : ∀ {w : World}, Same [] w0.heap.size w0 w → w.cell? ⟨b, i, none⟩ = some (.string (P.ty i)) := fun S => by
      have := (S.cell (p := ⟨b, i * 1 + 0, none⟩) lb (by simp)).trans (row i (by omega) 0 _ rfl)
      rwa [Nat.mul_one, Nat.add_zero] at this
    obtain ⟨h1, h2, h3⟩ := x.F.ty i (by omega)
    have hsz := (x.F.pb.ty i (by omega)).1
    haveI := outNil
    simp only [nilV_some, Nat.zero_add]
    refine ⟨_, _, _, c, cond_true' (decide_eq_true (by omega)) ⟨_, _, _, c, by omega, ?_⟩⟩
    simp only [nilV_some, add_mk, Nat.zero_add, Int.toNat_natCast, Nat.mul_one]
    refine ⟨_, row' S, RunsQ.post (Split_spec (P.ty i) (by omega) w) ?_⟩
    rintro v w1 ⟨rfl, S1⟩
    have T1 := Same.more (B := 0) S S1
    have c1 := x.mc T1 0 (by decide)
    rw [ev] at c1
    refine ⟨_, _, rfl, _, _, _, c1, by omega, ?_⟩
    simp only [nilV_some, add_mk, Nat.zero_add, Int.toNat_natCast, Nat.mul_one]
    refine ⟨_, row' T1, cond_false' ?_ (RunsQ.post (vals_yes _ 4 4 rfl (by decide) h2 w1) ?_)⟩
    · rw [wrap_i64 (x := ((ByteArray.size (splitP (P.ty i)).fst : Nat) : Int) + ((ByteArray.size (splitP (P.ty i)).snd : Nat) : Int)) (by omega) (by omega), wrap_i64 (by omega) (by omega)]
      simp only [bne_eq_false_iff_eq]; omega
    rintro v w2 ⟨rfl, S2⟩
    refine ⟨_, rfl, cond_false' rfl (RunsQ.post (vals_yes _ 1 1 rfl (by decide) h3 w2) ?_)⟩
    rintro v w3 ⟨rfl, S3⟩
    refine ⟨_, rfl, cond_false' rfl ?_⟩
    rw [nx i (by omega)]
    exact ih (i + 1) w3 (by omega) (Same.more (B := 0) T1 (Same.more (B := 0) S2 S3))
theorem parts_yes (x : Wx w0 mb m lo P) (S : Same [] w0.heap.size w0 w) : Runs Try.prog binlaw_parts.id #[rp mb] w (Yes w0) := by
  refine binlaw_parts.enter _ _ _ _ ?_
  unfold binlaw_parts.V
  exact paL1 x P.nTy 0 w (by omega) S
theorem wfL4 (x : Wx w0 mb m lo P) : ∀ (k i : Nat) (w : World), i + k = P.nf → Same [] w0.heap.size w0 w → binlaw_WellFormed.L4 (some ⟨mb, 0, none⟩) (i : Int) (Yes w0) (fun _ _ => False) w := by
  obtain ⟨a, ev, hrow⟩ := fnLook x
  intro k
  induction k with
  | zero =>
    intro i w hi S
    refine binlaw_WellFormed.step4 _ _ _ _ _ ?_
    unfold binlaw_WellFormed.V4
    have c := x.mc S 2 (by decide)
    rw [ev] at c
    simp only [nilV_some, Nat.zero_add]
    exact ⟨_, _, _, c, cond_false' (decide_eq_false (by omega)) ⟨rfl, S⟩⟩
  | succ k ih =>
    intro i w hi S
    have hb := x.F.pb.nf
    refine binlaw_WellFormed.step4 _ _ _ _ _ ?_
    unfold binlaw_WellFormed.V4
    have c := x.mc S 2 (by decide)
    rw [ev] at c
    obtain ⟨b, rfl, lb, row⟩ := hrow (by omega)
    haveI := outNil
    have row' := row.same (S := []) (S.mono (Nat.le_refl _) (by simp)) lb (by simp) (by simp)
    simp only [nilV_some, Nat.zero_add]
    refine ⟨_, _, _, c, cond_true' (decide_eq_true (by omega)) ⟨_, _, _, c, by omega, ?_⟩⟩
    simp only [nilV_some, add_mk, Nat.zero_add, Int.toNat_natCast]
    refine RunsQ.post (body_yes (row'.fnC i (by omega)) (x.F.fn i (by omega))) ?_
    rintro v w1 ⟨rfl, S1⟩
    refine ⟨_, rfl, cond_false' rfl ?_⟩
    rw [nx i (by omega)]
    exact ih (i + 1) w1 (by omega) (Same.more (B := 0) S S1)
theorem WellFormed_yes (x : Wx w0 mb m lo P) : Runs Try.prog binlaw_WellFormed.id #[rp mb] w0 (Yes w0) := by
  have B := x.F.pb
  obtain ⟨a0, e0, _⟩ := x.inv.t0.look
  obtain ⟨a1, e1, _⟩ := x.inv.i1.look
  obtain ⟨a2, e2, _⟩ := fnLook x
  obtain ⟨a7, e7, _⟩ := x.inv.g7.look
  obtain ⟨a8, e8, _⟩ := x.inv.e8.look
  obtain ⟨a10, e10, _⟩ := elLook x
  obtain ⟨a11, e11, _⟩ := x.inv.d11.look
  have c0 := x.md.c 0 (by decide); rw [e0] at c0
  have c1 := x.md.c 1 (by decide); rw [e1] at c1
  have c2 := x.md.c 2 (by decide); rw [e2] at c2
  have c7 := x.md.c 7 (by decide); rw [e7] at c7
  have c8 := x.md.c 8 (by decide); rw [e8] at c8
  have c10 := x.md.c 10 (by decide); rw [e10] at c10
  have c11 := x.md.c 11 (by decide); rw [e11] at c11
  have n0 := B.nTy; have n1 := B.nIm; have n2 := B.nf; have n7 := B.gn; have n8 := B.nEx; have n10 := B.nEl; have n11 := B.nD
  refine binlaw_WellFormed.enter _ _ _ _ ?_
  unfold binlaw_WellFormed.V
  refine cond_false' rfl ?_
  simp only [nilV_some, Nat.zero_add]
  refine ⟨_, _, _, c0, cond_false' (decide_eq_false (by omega)) ⟨_, _, _, c1, cond_false' (decide_eq_false (by omega)) ⟨_, _, _, c2, cond_false' (decide_eq_false (by omega)) ⟨_, _, _, c7, cond_false' (decide_eq_false (by omega)) ?_⟩⟩⟩⟩
  refine binlaw_WellFormed.step1 _ _ _ _ ?_
  unfold binlaw_WellFormed.V1
  simp only [nilV_some, Nat.zero_add]
  refine ⟨_, _, _, c8, cond_false' (decide_eq_false (by omega)) ⟨_, _, _, c10, cond_false' (decide_eq_false (by omega)) ⟨_, _, _, c11, cond_false' (decide_eq_false (by omega)) ?_⟩⟩⟩
  refine binlaw_WellFormed.step2 _ _ _ _ ?_
  unfold binlaw_WellFormed.V2
  have S0 : Same [] w0.heap.size w0 w0.drew := (Same.refl _ _ _).drew
  have c3 := x.mc S0 3 (by decide); rw [x.inv.v3] at c3
  have c4 := x.mc S0 4 (by decide); rw [x.inv.v4] at c4
  simp only [nilV_some, true_and, Nat.zero_add]
  refine ⟨_, c3, _, c4, RunsQ.post (limits_yes _ _ x.F.tl w0.drew) ?_⟩
  rintro v w1 ⟨rfl, S1⟩
  have T1 := Same.more (B := 0) S0 S1
  have c5 := x.mc T1.drew 5 (by decide); rw [x.inv.v5] at c5
  have c6 := x.mc T1.drew 6 (by decide); rw [x.inv.v6] at c6
  refine ⟨_, rfl, cond_false' rfl ⟨_, c5, _, c6, RunsQ.post (limits_yes _ _ x.F.ml w1.drew) ?_⟩⟩
  rintro v w2 ⟨rfl, S2⟩
  have T2 := Same.more (B := 0) T1.drew S2
  have c9 := x.mc T2 9 (by decide); rw [x.inv.s9] at c9
  obtain ⟨s1, s2⟩ := B.s0
  refine ⟨_, rfl, cond_false' rfl ⟨_, c9, cond_false' (decide_eq_false (by omega)) ⟨_, c9, cond_false' (decide_eq_false (by omega)) ?_⟩⟩⟩
  refine binlaw_WellFormed.step3 _ _ _ _ ?_
  unfold binlaw_WellFormed.V3
  refine RunsQ.post (parts_yes x T2) ?_
  rintro v w3 ⟨rfl, T3⟩
  exact ⟨_, rfl, cond_false' rfl (wfL4 x P.nf 0 w3 (by omega) T3)⟩
end

end Go.Proofs.Qxb6500316a
