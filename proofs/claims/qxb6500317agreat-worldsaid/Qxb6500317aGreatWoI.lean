/-
  The law World.
-/
import Derived.Test.Qxb6500317aGreatWoH
set_option linter.unusedSimpArgs false
set_option linter.unusedVariables false
set_option maxRecDepth 100000
set_option linter.unusedSectionVars false
set_option maxHeartbeats 2000000
namespace Go.Proofs.Qxb6500317aGreat
open Go Go.Vc

/-- Between two steps. -/
structure LW (W w : World) (A : XA) (F : List Nat) (gb : Nat) (T Tr : ByteArray) : Prop where
  s : WS W w A gb F T Tr
  b : BookAt w gb T Tr
  g : A.n6 ≤ gb ∧ gb ∉ F
section
variable {W w w' : World} {A : XA} {F : List Nat} {gb : Nat} {T Tr : ByteArray} {o : OpV}
theorem WS.keep (x : WS W w A gb F T Tr) (hs : Same [] w.heap.size w w') : WS W w' A gb F T Tr := by
  obtain ⟨E, ms, h, S, fr, eA, eW, eG, eP, ef, x, hS, hm, B⟩ := x
  exact ⟨E, ms, h, S, fr, eA, eW, eG, eP, ef, x.keep hs, hS, hm, B⟩
theorem LW.keep (x : LW W w A F gb T Tr) (hs : Same [] w.heap.size w w') : LW W w' A F gb T Tr := ⟨x.s.keep hs, x.b.same hs x.b.lt (by simp), x.g⟩
theorem WS.facts (x : WS W w A gb F T Tr) : T.size ≤ 48 ∧ T.size % 8 = 0 ∧ Tr.size ≤ 1000 ∧ Same [] W.heap.size W w ∧ A.n6 ≤ w.heap.size ∧ (∀ d, d ∈ F → d < w.heap.size) := by
  obtain ⟨E, ms, h, S, fr, eA, eW, eG, eP, ef, x, hS, hm, B⟩ := x
  subst eA eW
  have t := B.t
  have le := x.X.ho.le
  have tl := x.X.ho.tl
  have rk := x.X.ho.rk
  refine ⟨by omega, by omega, ?_, x.X.sm, x.X.lt, x.X.ho.lF⟩
  rw [B.tr, strOfNums_size]
  omega
theorem WS.show (x : WS W w A gb F T Tr) : Runs Tryz.prog exec_Exec_Show.id #[rp A.xb] w fun v w' => v = .string (speltS T Tr) ∧ Same [] w.heap.size w w' := by
  obtain ⟨E, ms, h, S, fr, eA, eW, eG, eP, ef, x, hS, hm, B⟩ := x
  subst eA eW
  refine RunsQ.post (xShow_yes x.X x.H) ?_
  rintro v w2 ⟨rfl, S2⟩
  rw [hm, show_spelt B]
  exact ⟨rfl, S2⟩
/-- Show and book are compared. -/
theorem world_L5 {a : Option Addr} {l c : Nat} {i : Int} {R : Value → World → Prop} (x : LW W w A F gb T Tr) (hi : -1 ≤ i ∧ i < 4398046511104) (hK : ∀ w', LW W w' A F gb T Tr → execlaw_WorldUpTo.L1 a l c (some ⟨A.xb, 0, none⟩) (some ⟨gb, 0, none⟩) (i + 1) R (fun _ _ => False) w') :
    execlaw_WorldUpTo.L5 a l c (some ⟨A.xb, 0, none⟩) (some ⟨gb, 0, none⟩) i R (fun _ _ => False) w := by
  refine execlaw_WorldUpTo.step5 _ _ _ _ _ _ _ _ _ ?_
  unfold execlaw_WorldUpTo.V5
  obtain ⟨f1, f2, f3, f4, f5, f6⟩ := x.s.facts
  refine RunsQ.post x.s.show ?_
  rintro v w2 ⟨rfl, S2⟩
  have x2 := x.keep S2
  refine ⟨_, rfl, RunsQ.post (Spelt_spec x2.b f1 (by omega)) ?_⟩
  rintro v w5 ⟨rfl, S5⟩
  refine ⟨_, rfl, cond_false' (by simp) ?_⟩
  refine execlaw_WorldUpTo.step3 _ _ _ _ _ _ _ _ _ ?_
  unfold execlaw_WorldUpTo.V3
  rw [wrap_i64 (by omega) (by omega)]
  exact hK w5 (x2.keep S5)
theorem world_loop {a : Option Addr} {l c : Nat} (hA : ScriptAt W a l) : ∀ (f j : Nat) (i : Int) (w : World) (F : List Nat) (T Tr : ByteArray), i = (j : Int) → j + f = l → LW W w A F gb T Tr →
    execlaw_WorldUpTo.L1 a l c (some ⟨A.xb, 0, none⟩) (some ⟨gb, 0, none⟩) i (fun v w' => v = .int .i64 (-1) ∧ Same [] W.heap.size W w') (fun _ _ => False) w := by
  intro f
  induction f with
  | zero =>
    intro j i w F T Tr hi hj x
    obtain ⟨f1, f2, f3, f4, f5, f6⟩ := x.s.facts
    refine execlaw_WorldUpTo.step1 _ _ _ _ _ _ _ _ _ ?_
    unfold execlaw_WorldUpTo.V1
    exact cond_false' (decide_eq_false (by omega)) ⟨rfl, f4⟩
  | succ f ih =>
    intro j i w F T Tr hi hj x
    obtain ⟨f1, f2, f3, f4, f5, f6⟩ := x.s.facts
    refine execlaw_WorldUpTo.step1 _ _ _ _ _ _ _ _ _ ?_
    unfold execlaw_WorldUpTo.V1
    refine cond_true' (decide_eq_true (by omega)) ?_
    by_cases big : i < 4398046511104
    rotate_left
    · exact cond_false' (decide_eq_false big) ⟨rfl, f4⟩
    refine cond_true' (decide_eq_true big) ?_
    refine execlaw_WorldUpTo.step2 _ _ _ _ _ _ _ _ _ ?_
    unfold execlaw_WorldUpTo.V2
    rcases hA with h0 | ⟨b, off, rfl, hops⟩
    · omega
    obtain ⟨o, ho, oc⟩ := hops j (by omega)
    have oc := oc.same f4
    refine cond_true' (decide_eq_true (by omega)) ⟨by omega, ?_⟩
    have ei : Int.toNat i = j := by omega
    simp only [nilV_some, add_mk, ei]
    refine ⟨_, _, _, _, _, _, oc.c0, oc.c1, oc.c2, oc.c3, oc.c4, oc.c5, newOp (fun ob w10 lo p10 S10 => ?_)⟩
    have x10 := x.keep S10
    have skip : ∀ (w1 : World) (F1 : List Nat) (T1 Tr1 : ByteArray), LW W w1 A F1 gb T1 Tr1 → execlaw_WorldUpTo.L3 (some ⟨b, off, none⟩) l c (some ⟨A.xb, 0, none⟩) (some ⟨gb, 0, none⟩) i (fun v w' => v = .int .i64 (-1) ∧ Same [] W.heap.size W w') (fun _ _ => False) w1 := by
      intro w1 F1 T1 Tr1 x1
      refine execlaw_WorldUpTo.step3 _ _ _ _ _ _ _ _ _ ?_
      unfold execlaw_WorldUpTo.V3
      rw [wrap_i64 (by omega) (by omega)]
      exact ih (j + 1) (i + 1) w1 F1 T1 Tr1 (by omega) (by omega) x1
    refine ⟨_, p10.c0, ?_⟩
    by_cases k1 : o.kind < 1
    · exact cond_true' (decide_eq_true k1) (skip w10 F T Tr x10)
    refine cond_false' (decide_eq_false k1) ⟨_, p10.c0, ?_⟩
    by_cases k7 : o.kind > 7
    · exact cond_true' (decide_eq_true k7) (skip w10 F T Tr x10)
    refine cond_false' (decide_eq_false k7) ?_
    refine execlaw_WorldUpTo.step4 _ _ _ _ _ _ _ _ _ _ ?_
    unfold execlaw_WorldUpTo.V4
    refine ⟨_, _, _, _, _, _, p10.c0, p10.c1, p10.c2, p10.c3, p10.c4, p10.c5, RunsQ.post (Do3_spec x10.s x10.b.lt ⟨f1, f2⟩ ho (by omega) (by omega)) ?_⟩
    rintro v w8 ⟨rfl, F', s8, pr⟩
    refine ⟨_, _, _, _, rfl, newAns (fun b13 w15 lo13 a15 S15 => ?_)⟩
    have z10 := S10.size
    have lob := p10.lt
    have lg := x10.b.lt
    obtain ⟨bo, no⟩ := pr ob lob (by omega) (fun g => by have := f6 ob g; omega)
    obtain ⟨bg, ng⟩ := pr gb lg x10.g.1 x10.g.2
    have p8 : OpAt w8 ob o := by
      have cc : ∀ j, w8.cell? ⟨ob, j, none⟩ = w10.cell? ⟨ob, j, none⟩ := fun j => World.cell?_of_block (w := w10) bo
      exact ⟨by rw [cc]; exact p10.c0, by rw [cc]; exact p10.c1, by rw [cc]; exact p10.c2, by rw [cc]; exact p10.c3, by rw [cc]; exact p10.c4, by rw [cc]; exact p10.c5⟩
    have b8 : BookAt w8 gb T Tr := x10.b.blk bg
    have p15 := p8.same S15 p8.lt (by simp)
    have b15 := b8.same S15 b8.lt (by simp)
    have s15 := s8.keep S15
    refine ⟨_, _, _, _, _, _, p15.c0, p15.c1, p15.c2, p15.c3, p15.c4, p15.c5, RunsQ.post (Owed3_spec b15 ⟨f1, f2⟩ ho.s) ?_⟩
    rintro v w23 ⟨rfl, b23, S23⟩
    have lb13 := a15.lt
    have lg8 := b8.lt
    have a23 := a15.same S23 lb13 (by simp; omega)
    -- the machine behind the book's turn
    have s23 : WS W w23 A gb F' (owed T Tr o).2.1 (owed T Tr o).2.2 := by
      obtain ⟨E, ms, h, S, fr, eA, eW, eG, eP, ef, xx, hS, hm, B⟩ := s15
      exact ⟨E, ms, h, S, fr, eA, eW, eG, eP, ef, xx.mv S23 (by intro k hk; simp at hk; subst hk; rw [eA]; exact ⟨x.g.1, ng, eG⟩), hS, hm, B⟩
    refine ⟨_, _, _, _, rfl, newAns (fun b28 w30 lo28 a30 S30 => ?_)⟩
    have a30' := a23.same S30 a23.lt (by simp)
    refine ⟨_, _, _, _, a30'.c0, a30'.c1, a30'.c2, a30'.c3, _, _, _, _, a30.c0, a30.c1, a30.c2, a30.c3, _, _, neq_ans w30 _ _ _ _ _ _, cond_false' rfl ?_⟩
    have x30 : LW W w30 A F' gb (owed T Tr o).2.1 (owed T Tr o).2.2 := (⟨s23, b23, x.g.1, ng⟩ : LW W w23 A F' gb _ _).keep S30
    exact world_L5 x30 ⟨by omega, big⟩ (fun w' x' => ih (j + 1) (i + 1) w' F' _ _ (by omega) (by omega) x')
theorem WorldUpTo_spec {a : Option Addr} {l c : Nat} (hA : ScriptAt w a l) : Runs Tryz.prog execlaw_WorldUpTo.id #[.slice a l c] w fun v w' => v = .int .i64 (-1) ∧ Same [] w.heap.size w w' := by
  refine execlaw_WorldUpTo.enter _ _ _ _ _ _ ?_
  unfold execlaw_WorldUpTo.V
  refine RunsQ.post (Machine_spec w) ?_
  rintro v w5 ⟨A, F, rfl, X5, E5⟩
  have x5 : XX w w5 A := ⟨F, _, _, _, _, _, _, _, _, X5, E5, fun j => ⟨Int.le_refl _, show (0 : Int) < 18446744073709551616 by decide⟩, rfl⟩
  refine ⟨_, rfl, RunsQ.post (tu1 x5) ?_⟩
  rintro v w8 ⟨rfl, x8⟩
  refine ⟨_, rfl, cond_false' rfl (RunsQ.post (tu2 x8) ?_)⟩
  rintro v w11 ⟨rfl, x11⟩
  refine ⟨_, rfl, cond_false' rfl (RunsQ.post (tu3 x11) ?_)⟩
  rintro v w14 ⟨rfl, x14⟩
  refine ⟨_, rfl, cond_false' rfl (RunsQ.post (tu4 x14) ?_)⟩
  rintro v w17 ⟨rfl, x17⟩
  refine ⟨_, rfl, cond_false' rfl (RunsQ.post (Zeros_spec w17) ?_)⟩
  rintro v w20 ⟨rfl, hw20⟩
  subst hw20
  have y1 : (⟨#[109, 101, 109, 32, 49, 32, 48, 49, 48, 50]⟩ : ByteArray).size = 10 := rfl
  have y2 : (strOfNums (List.replicate 124 48)).size = 124 := by rw [strOfNums_size, List.length_replicate]
  have y3 : (⟨#[32, 116, 97, 98, 32, 49, 32, 103, 108, 111, 98, 32, 98, 111, 117, 110, 100, 32, 116, 97, 112, 101, 32, 116, 114, 97, 99, 101]⟩ : ByteArray).size = 28 := rfl
  refine ⟨_, rfl, by omega, by rw [M.size_app]; omega, RunsQ.post (tu5 x17) ?_⟩
  rintro v w23 ⟨rfl, x23⟩
  refine ⟨_, rfl, cond_false' rfl (letB_intro fun gb hgb => letW_intro fun w26 hw26 => ?_)⟩
  have S26 : Same [] w23.heap.size w23 w26 := by rw [hw26]; exact (Same.refl _ _ _).alloc (Nat.le_refl _) _
  have z26 : w26.heap.size = w23.heap.size + 1 := by rw [hw26]; simp
  have b26 : BookAt w26 gb eS eS := by
    rw [hw26, hgb]
    exact ⟨by rw [World.cell?_alloc_new]; rfl, by rw [World.cell?_alloc_new]; rfl, fun j => World.frozen?_alloc_new _ _ _ _⟩
  clear hw26
  obtain ⟨F3, ms, h, S, fr, v5, v6, v7, v8, X23, H23, hS, hl⟩ := x23
  obtain ⟨_, _, _, _, _, ⟨k1, k2, x1, x2, ne⟩, lt, z0⟩ := X23.zone
  have X26 := X23.keep S26
  have H26 := H23.same S26 (by omega) (by simp)
  have lF := X23.ho.lF
  obtain ⟨n1, n2, n3, n4⟩ := n6
  refine Load_spec (kk := fun i => if i = 0 then 2 else 1) (nb := 2) X26 H26 tk6 0 (fun i hi => ?_) (.inl (by rw [n1])) (fun g => absurd (st6 ms) g) (fun _ _ w0 I mb cdb fb nbs v7 ga gc w28 F' x28 nI fr28 => ?_) (fun _ g => absurd g (by rw [n4]; decide))
  · have : i = 0 ∨ i = 1 := by omega
    rcases this with rfl | rfl
    · exact .inr (.inl ⟨by kernel_rfl, rfl⟩)
    · exact .inl ⟨by kernel_rfl, rfl⟩
  refine ⟨_, _, _, rfl, ?_⟩
  obtain ⟨bg, ng⟩ := fr28.prt gb b26.lt (by omega) (fun g => by have := lF gb g; omega)
  have B : BK eS eS (bindH h.cleared (fun i => if i = 0 then 2 else 1) 2) := ⟨rfl, rfl, rfl, by show (0 : Nat) = 8 * h.left; omega, fun i hi => absurd hi (by show ¬ i < h.left; omega), rfl⟩
  have L28 : LW w w28 A F' gb eS eS := ⟨⟨⟨w, w0, A, I, mb, cdb, fb, nbs, okP tProbe, fs6, v7, ga, gc⟩, _, _, S, fr, rfl, rfl, fun g => by have := nI gb g; omega, rfl, rfl, x28, hS, sh6 ms, B⟩, b26.blk bg, by omega, ng⟩
  refine execlaw_WorldUpTo.step1 _ _ _ _ _ _ _ _ _ ?_
  unfold execlaw_WorldUpTo.V1
  refine cond_true' (decide_eq_true (by omega)) (cond_true' rfl ?_)
  refine execlaw_WorldUpTo.step2 _ _ _ _ _ _ _ _ _ ?_
  unfold execlaw_WorldUpTo.V2
  refine cond_false' rfl (world_L5 L28 (by omega) (fun w' x' => ?_))
  exact world_loop hA l 0 (-1 + 1) w' F' eS eS (by omega) (by omega) x'
theorem World_spec (w : World) (a : Option Addr) (l c : Nat) (hA : ScriptAt w a l) : Runs Tryz.prog execlaw_World.id #[.slice a l c] w fun v w' => v = .bool true ∧ Same [] w.heap.size w w' := by
  refine execlaw_World.enter _ _ _ _ _ _ ?_
  unfold execlaw_World.V
  refine RunsQ.post (WorldUpTo_spec hA) ?_
  rintro v w5 ⟨rfl, S5⟩
  exact ⟨_, rfl, rfl, S5⟩
end
end Go.Proofs.Qxb6500317aGreat
