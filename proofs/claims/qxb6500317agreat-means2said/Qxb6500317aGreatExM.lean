/-
  A fresh machine.
-/
import Derived.Test.Qxb6500317aGreatExL
set_option linter.unusedSimpArgs false
set_option linter.unusedVariables false
set_option maxRecDepth 100000
set_option linter.unusedSectionVars false
set_option maxHeartbeats 1000000
namespace Go.Proofs.Qxb6500317aGreat
open Go Go.Vc

theorem BL.lts {I : OutOf} {w : World} {b bi bt : Nat} {c : Sc} {go gs gf : Option Nat} (h : BL I w b bi bt c go gs gf) : b < w.heap.size ∧ bi < w.heap.size ∧ bt < w.heap.size := ⟨h.ba.ltb, h.ba.lti, h.ba.ltt⟩
/-- The five layers. -/
structure G5 (w0 w : World) (b bi bt vb pb cb p q hb : Nat) (F : List Nat) (n1 n2 n3 n4 : Nat) : Prop where
  bn : BN w b bi bt sc0
  va : VAt w vb [] []
  pz : PZe w pb cb
  mt : M.MSAt w p q M.ms0
  ho : HoAt w hb F hs0
  z1 : w0.heap.size ≤ b ∧ b < n1 ∧ w0.heap.size ≤ bi ∧ bi < n1 ∧ w0.heap.size ≤ bt ∧ bt < n1
  z2 : n1 ≤ vb ∧ vb < n2
  z3 : n2 ≤ pb ∧ pb < n3 ∧ n2 ≤ cb ∧ cb < n3
  z4 : n3 ≤ p ∧ p < n4 ∧ n3 ≤ q ∧ q < n4
  z5 : n4 ≤ hb ∧ hb < w.heap.size
  zf : ∀ d, d ∈ F → n4 ≤ d
  sm : Same [] w0.heap.size w0 w
theorem G5.mv {w0 w w' : World} {b bi bt vb pb cb p q hb : Nat} {F : List Nat} {n1 n2 n3 n4 : Nat} (g : G5 w0 w b bi bt vb pb cb p q hb F n1 n2 n3 n4) {T : List Nat} (hs : Same T w.heap.size w w') (hT : ∀ k, k ∈ T → w0.heap.size ≤ k ∧ k ∉ [b, bi, bt, vb, pb, cb, p, q, hb] ∧ k ∉ F) : G5 w0 w' b bi bt vb pb cb p q hb F n1 n2 n3 n4 := by
  have no : ∀ k, k ∈ [b, bi, bt, vb, pb, cb, p, q, hb] → k ∉ T := fun k hk h => (hT k h).2.1 hk
  have sz := hs.size
  have z5 := g.z5; have z4 := g.z4
  exact ⟨g.bn.go hs (no _ (by simp)) (no _ (by simp)) (no _ (by simp)), g.va.same hs g.va.lt (no _ (by simp)), g.pz.same hs (Nat.le_refl _) (no _ (by simp)) (no _ (by simp)), g.mt.same hs g.mt.plt g.mt.qlt (no _ (by simp)) (no _ (by simp)), g.ho.same hs (no _ (by simp)) (fun d hd h => (hT d h).2.2 hd),
    g.z1, g.z2, g.z3, g.z4, by omega, g.zf, g.sm.trans (hs.mono g.sm.size (fun k hk hl => by have := (hT k hk).1; omega))⟩
theorem Ground_spec (w : World) : Runs Tryz.prog execlaw_Ground.id #[] w fun v w' => ∃ b bi bt vb pb cb p q hb F n1 n2 n3 n4, v = .agg #[rp b, rp vb, rp pb, rp p, rp hb] ∧ G5 w w' b bi bt vb pb cb p q hb F n1 n2 n3 n4 := by
  refine execlaw_Ground.enter _ _ _ ?_
  unfold execlaw_Ground.V
  refine letB_intro fun b1 hb1 => letW_intro fun w2 hw2 => ?_
  have S2 : Same [] w.heap.size w w2 := by rw [hw2]; exact (Same.refl _ _ _).alloc (Nat.le_refl _) _
  have z2 : w2.heap.size = w.heap.size + 1 := by rw [hw2]; simp
  have c2 : ∀ j, j < 5 → can w2 ⟨b1, j, none⟩ := fun j hj => by
    rw [hw2, hb1]
    refine ⟨?_, World.frozen?_alloc_new _ _ _ _⟩
    rw [World.cell?_alloc_new]
    exact ⟨_, Array.getElem?_eq_getElem (by simp; omega)⟩
  clear hw2
  refine RunsQ.post (New_spec w2) ?_
  rintro v w4 ⟨b, bi, bt, rfl, hB, S4, l1, l2, l3⟩
  have no : ∀ {G : Nat → Prop}, ∀ k, (none : Option Nat) = some k → G k := fun k hk => by cases hk
  have B4 : BN w4 b bi bt sc0 := ⟨hB, .inl ⟨rfl, rfl⟩, .inl ⟨rfl, rfl⟩, .inl ⟨rfl, rfl⟩, no, no, no, no, no, no⟩
  obtain ⟨lb, li, lt⟩ := B4.lts
  refine ⟨_, rfl, RunsQ.post (VNew_spec w4) ?_⟩
  rintro v w7 ⟨vb, rfl, V7, S7, l7⟩
  refine ⟨_, rfl, RunsQ.post (PNew_spec w7) ?_⟩
  rintro v w10 ⟨pb, cb, rfl, P10, S10, l10, l10'⟩
  refine ⟨_, rfl, RunsQ.post (M.New_spec w10) ?_⟩
  rintro v w13 ⟨rfl, M13, S13, z13⟩
  refine ⟨_, rfl, RunsQ.post (hNew_spec w13) ?_⟩
  rintro v w16 ⟨hb, F, rfl, H16, S16, l16, lF⟩
  have lv := V7.lt
  obtain ⟨lp, lc, _⟩ := P10.lt
  have lh := H16.lt
  have s4 := S4.size; have s7 := S7.size; have s10 := S10.size; have s16 := S16.size
  have T1 : Same [] w10.heap.size w10 w16 := Same.more (B := 0) S13 S16
  have T2 : Same [] w7.heap.size w7 w16 := Same.more (B := 0) S10 T1
  have T3 : Same [] w4.heap.size w4 w16 := Same.more (B := 0) S7 T2
  have T4 : Same [] w2.heap.size w2 w16 := Same.more (B := 0) S4 T3
  have g16 : G5 w w16 b bi bt vb pb cb (w10.heap.size + 1) w10.heap.size hb F w4.heap.size w7.heap.size w10.heap.size w13.heap.size :=
    ⟨B4.go T3 (by simp) (by simp) (by simp), V7.keep T2, P10.keep T1, M13.keep S16, H16, ⟨by omega, by omega, by omega, by omega, by omega, by omega⟩, ⟨l7, lv⟩, ⟨l10, by omega, l10', by omega⟩, ⟨by omega, by omega, by omega, by omega⟩, ⟨l16, lh⟩, lF, Same.more (B := 0) S2 T4⟩
  refine ⟨_, rfl, putCells_intro b1 _ 0 w16 _ (fun j hj => by rw [Nat.zero_add]; exact can_mv (c2 j (by simpa using hj)) T4 (by simp)) (fun w18 hF => ?_)⟩
  have S18 : Same [b1] w16.heap.size w16 w18 := hF.same _
  have g18 := g16.mv S18 (by
    intro k hk
    simp at hk
    subst hk
    refine ⟨by omega, by simp; omega, fun g => by have := lF _ g; omega⟩)
  refine ⟨_, _, _, _, _, ?_, ?_, ?_, ?_, ?_, _, _, _, _, _, _, _, _, _, _, _, _, _, _, rfl, g18⟩
  · rw [hF.cell b1 0, if_pos ⟨rfl, by omega, by simp⟩]; rfl
  · rw [hF.cell b1 1, if_pos ⟨rfl, by omega, by simp⟩]; rfl
  · rw [hF.cell b1 2, if_pos ⟨rfl, by omega, by simp⟩]; rfl
  · rw [hF.cell b1 3, if_pos ⟨rfl, by omega, by simp⟩]; rfl
  · rw [hF.cell b1 4, if_pos ⟨rfl, by omega, by simp⟩]; rfl
theorem Machine_spec (w : World) : Runs Tryz.prog execlaw_Machine.id #[] w fun v w' => ∃ A F, v = rp A.xb ∧ XB w w' A F M.ms0 hs0 (fun _ => 0) (fun _ => 0) ∧ XE w' A.xb := by
  refine execlaw_Machine.enter _ _ _ ?_
  unfold execlaw_Machine.V
  refine RunsQ.post (Ground_spec w) ?_
  rintro v w2 ⟨b, bi, bt, vb, pb, cb, p, q, hb, F, n1, n2, n3, n4, rfl, g2⟩
  refine ⟨_, _, _, _, _, rfl, letB_intro fun b8 hb8 => letW_intro fun w9 hw9 => ?_⟩
  have S9 : Same [] w2.heap.size w2 w9 := by rw [hw9]; exact (Same.refl _ _ _).alloc (Nat.le_refl _) _
  have z9 : w9.heap.size = w2.heap.size + 1 := by rw [hw9]; simp
  have c9 : ∀ j, j < 5 → can w9 ⟨b8, j, none⟩ := fun j hj => by
    rw [hw9, hb8]
    refine ⟨?_, World.frozen?_alloc_new _ _ _ _⟩
    rw [World.cell?_alloc_new]
    exact ⟨_, Array.getElem?_eq_getElem (by simp; omega)⟩
  clear hw9
  have g9 := g2.mv S9 (by simp)
  obtain ⟨y1, y2, y3, y4, y5, y6⟩ := g2.z1
  have y7 := g2.z2; have y8 := g2.z3; have y9 := g2.z4; have y10 := g2.z5
  have lF2 := g2.ho.lF
  refine putCells_intro b8 _ 0 w9 _ (fun j hj => by rw [Nat.zero_add]; exact c9 j (by simpa using hj)) (fun w10 hF => ?_)
  have S10 : Same [b8] w9.heap.size w9 w10 := hF.same _
  have z10 := S10.size
  have g10 := g9.mv S10 (by
    intro k hk
    simp at hk
    subst hk
    refine ⟨by omega, by simp; omega, fun g => by have := lF2 _ g; omega⟩)
  refine ⟨_, by rw [hF.cell b8 0, if_pos ⟨rfl, by omega, by simp⟩]; rfl, _, by rw [hF.cell b8 1, if_pos ⟨rfl, by omega, by simp⟩]; rfl, _, by rw [hF.cell b8 2, if_pos ⟨rfl, by omega, by simp⟩]; rfl, _, by rw [hF.cell b8 3, if_pos ⟨rfl, by omega, by simp⟩]; rfl, _, by rw [hF.cell b8 4, if_pos ⟨rfl, by omega, by simp⟩]; rfl, ?_⟩
  refine exec_New.enter _ _ _ _ _ _ _ _ ?_
  unfold exec_New.V
  obtain ⟨w11, r1, c1, f1, S11, z11⟩ := make_rows T_sl_uint64.el w10 120 (by decide) (by decide)
  refine ⟨_, _, _, w11, r1, letB_intro fun xb hxb => letW_intro fun w12 hw12 => ?_⟩
  have S12 : Same [] w11.heap.size w11 w12 := by rw [hw12]; exact (Same.refl _ _ _).alloc (Nat.le_refl _) _
  have z12 : w12.heap.size = w11.heap.size + 1 := by rw [hw12]; simp
  have T12 : Same [] w10.heap.size w10 w12 := Same.more (B := 0) S11 S12
  have g12 := g10.mv T12 (by simp)
  have cx : ∀ j v, #[(Value.pointer (some ⟨b, 0, none⟩)), (.pointer (some ⟨vb, 0, none⟩)), (.pointer (some ⟨pb, 0, none⟩)), (.pointer (some ⟨p, 0, none⟩)), (.pointer (some ⟨hb, 0, none⟩)), (.pointer none), (.pointer none), (.slice none 0 0), (.slice none 0 0), (.slice (some ⟨w10.heap.size, 0, none⟩) 120 120), (.int .i64 0), (.int .i64 0), (.int .i64 0), (.int .i64 0), (.int .i64 0), (.int .i64 0), (.int .i64 0), (.int .i64 0), (.int .i64 0), (.int .i64 0), (.int .i64 0), (.int .i64 0), (.int .i64 0), (.int .i64 0), (.int .i64 0), (.int .i64 0), (.int .i64 0), (.int .i64 0)][j]? = some v → w12.cell? ⟨xb, j, none⟩ = some v := fun j v hj => by
    rw [hw12, hxb, World.cell?_alloc_new]; exact hj
  have fx : ∀ j, w12.frozen? ⟨xb, j, none⟩ = false := fun j => by rw [hw12, hxb, World.frozen?_alloc_new]
  clear hw12
  refine ⟨_, rfl, ⟨xb, b, bi, bt, vb, pb, cb, p, q, hb, w10.heap.size, w.heap.size, n1, n2, n3, n4, w10.heap.size, w12.heap.size⟩, F, rfl, ⟨⟨⟨y1, y2⟩, ⟨y3, y4⟩, ⟨y5, y6⟩, y7, ⟨y8.1, y8.2.1⟩, ⟨y8.2.2.1, y8.2.2.2⟩, ⟨y9.1, y9.2.1⟩, ⟨y9.2.2.1, y9.2.2.2⟩, ⟨y10.1, by show hb < w10.heap.size; omega⟩, ⟨Nat.le_refl _, by show w10.heap.size < w12.heap.size; omega⟩, ⟨by show w10.heap.size ≤ xb; omega, by show xb < w12.heap.size; omega⟩, by show w10.heap.size ≠ xb; omega⟩, fun d hd => .inl ⟨g2.zf d hd, by have := lF2 d hd; show d < w10.heap.size; omega⟩, rfl, Nat.le_refl _, g12.sm, cx 0 _ rfl, cx 1 _ rfl, cx 2 _ rfl, cx 3 _ rfl, cx 4 _ rfl, cx 9 _ rfl, fun j hj => ?_, fx, ⟨sc0, g12.bn⟩, ⟨_, _, g12.va⟩, g12.pz, g12.mt, M.ms0_wf, g12.ho, fun j hj => ?_, fun j => ?_⟩, ⟨cx 5 _ rfl, cx 6 _ rfl, cx 7 _ rfl, cx 8 _ rfl⟩⟩
  · refine cx _ _ ?_
    have : j = 0 ∨ j = 1 ∨ j = 2 ∨ j = 3 ∨ j = 4 ∨ j = 5 ∨ j = 6 ∨ j = 7 ∨ j = 8 ∨ j = 9 ∨ j = 10 ∨ j = 11 ∨ j = 12 ∨ j = 13 ∨ j = 14 ∨ j = 15 ∨ j = 16 ∨ j = 17 := by omega
    rcases this with rfl | rfl | rfl | rfl | rfl | rfl | rfl | rfl | rfl | rfl | rfl | rfl | rfl | rfl | rfl | rfl | rfl | rfl <;> rfl
  · show w12.cell? ⟨w10.heap.size, j, none⟩ = _
    rw [S12.cell (p := ⟨w10.heap.size, j, none⟩) z11 (by simp), c1 j (by omega), Nat.mod_one]; rfl
  · show w12.frozen? ⟨w10.heap.size, j, none⟩ = _
    rw [S12.frozen (p := ⟨w10.heap.size, j, none⟩) z11 (by simp)]; exact f1 j
end Go.Proofs.Qxb6500317aGreat
