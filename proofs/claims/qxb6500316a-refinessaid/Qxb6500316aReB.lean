/-
  The equality: one step on either side.
-/
import Derived.Test.Qxb6500316aReA
set_option linter.unusedSimpArgs false
set_option linter.unusedVariables false
set_option maxRecDepth 100000
set_option linter.unusedSectionVars false
set_option maxHeartbeats 1000000
namespace Go.Proofs.Qxb6500316a
open Go Go.Vc

/-- What either decoder answers: E, N, the module. -/
def zOf (s : ByteArray) : Int × Int × Option PM := match decA s sc0 with
  | .ok x _ => (0, ((s.size : Nat) : Int), some x.2)
  | .err n a => (n, a, none)
theorem BL.go' {I : OutOf} {w w' : World} {b bi bt : Nat} {c : Sc} {go gs gf : Option Nat} (h : BL I w b bi bt c go gs gf) {S : List Nat} (hS : Same S w.heap.size w w') (h1 : b ∉ S) (h2 : bi ∉ S) (h3 : bt ∉ S) (h4 : ∀ k, k ∈ bufs go gs gf → k ∉ S) : BL I w' b bi bt c go gs gf :=
  ⟨h.ba.keep hS h1 h2 h3, h.o.same hS (Nat.le_refl _) (fun k hk => h4 k (mem_bufs.2 (.inl hk))), h.s.same hS (Nat.le_refl _) (fun k hk => h4 k (mem_bufs.2 (.inr (.inl hk)))), h.f.same hS (Nat.le_refl _) (fun k hk => h4 k (mem_bufs.2 (.inr (.inr hk)))), h.xo, h.xs, h.xf, h.y1, h.y2, h.y3⟩
/-- The two sides between steps. T: the blocks that may be written; X: blocks that are no Bin's. -/
structure ST (w : World) (T : Nat → Prop) (X : List Nat) (b bi bt xr xm : Nat) (mp : Option Addr) (oR oM : Option PM) : Prop where
  B : ∃ I c go gs gf, BL I w b bi bt c go gs gf ∧ ∀ k, k ∈ bufs go gs gf → T k ∧ k ∉ X
  x0 : w.cell? ⟨xr, 0, none⟩ = some (rp b)
  x1 : ∃ v, w.cell? ⟨xr, 1, none⟩ = some (.pointer v) ∧ RgR w T v oR
  xf : ∀ j, w.frozen? ⟨xr, j, none⟩ = false
  y0 : w.cell? ⟨xm, 0, none⟩ = some (.pointer mp)
  y1 : ∃ v, w.cell? ⟨xm, 1, none⟩ = some (.pointer v) ∧ RgM w T v oM
  yf : ∀ j, w.frozen? ⟨xm, j, none⟩ = false
  tt : T b ∧ T bi ∧ T bt ∧ T xr ∧ T xm
  tl : ∀ k, T k → k < w.heap.size
  nX : b ∉ X ∧ bi ∉ X ∧ bt ∉ X
  iX : xr ∈ X ∧ xm ∈ X
  ne : xr ≠ xm
section
variable {w w' : World} {T T' : Nat → Prop} {X : List Nat} {b bi bt xr xm : Nat} {mp : Option Addr} {oR oM : Option PM} {S : List Nat}
/-- The Bin has moved. -/
theorem ST.move (h : ST w T X b bi bt xr xm mp oR oM) (hS : Same S w.heap.size w w') (hs : ∀ k, k ∈ S → T k ∧ k ≠ xr ∧ k ≠ xm) (hB : ∃ I c go gs gf, BL I w' b bi bt c go gs gf ∧ ∀ k, k ∈ bufs go gs gf → T' k ∧ k ∉ X) (h1 : ∀ k, T k → T' k) (h2 : ∀ k, T' k → T k ∨ (w.heap.size ≤ k ∧ k < w'.heap.size)) : ST w' T' X b bi bt xr xm mp oR oM := by
  obtain ⟨v1, x1, r1⟩ := h.x1
  obtain ⟨v2, y1, r2⟩ := h.y1
  obtain ⟨t1, t2, t3, t4, t5⟩ := h.tt
  have lx := h.tl _ t4; have ly := h.tl _ t5
  have nx : xr ∉ S := fun q => (hs _ q).2.1 rfl
  have ny : xm ∉ S := fun q => (hs _ q).2.2 rfl
  have e1 : ∀ j, w'.cell? ⟨xr, j, none⟩ = w.cell? ⟨xr, j, none⟩ := fun j => hS.cell (p := ⟨xr, j, none⟩) lx nx
  have e2 : ∀ j, w'.cell? ⟨xm, j, none⟩ = w.cell? ⟨xm, j, none⟩ := fun j => hS.cell (p := ⟨xm, j, none⟩) ly ny
  have z := hS.size
  have h3 : ∀ k, T' k → T k ∨ w.heap.size ≤ k := fun k hk => (h2 k hk).imp id (·.1)
  exact ⟨hB, by rw [e1]; exact h.x0, ⟨v1, by rw [e1]; exact x1, (r1.more h3).same hS (fun k hk => h1 k (hs k hk).1)⟩, fun j => by rw [hS.frozen (p := ⟨xr, j, none⟩) lx nx]; exact h.xf j, by rw [e2]; exact h.y0, ⟨v2, by rw [e2]; exact y1, (r2.more h3).same hS (fun k hk => h1 k (hs k hk).1)⟩, fun j => by rw [hS.frozen (p := ⟨xm, j, none⟩) ly ny]; exact h.yf j, ⟨h1 _ t1, h1 _ t2, h1 _ t3, h1 _ t4, h1 _ t5⟩, fun k hk => by
    rcases h2 k hk with g | g
    · have := h.tl k g; omega
    · exact g.2, h.nX, h.iX, h.ne⟩
/-- A block that is no Bin's has moved. -/
theorem ST.go (h : ST w T X b bi bt xr xm mp oR oM) (hS : Same S w.heap.size w w') (hs : ∀ k, k ∈ S → T k ∧ k ∈ X ∧ k ≠ xr ∧ k ≠ xm) : ST w' T X b bi bt xr xm mp oR oM := by
  obtain ⟨I, c, go, gs, gf, hB, hb⟩ := h.B
  obtain ⟨n1, n2, n3⟩ := h.nX
  refine h.move hS (fun k hk => ⟨(hs k hk).1, (hs k hk).2.2⟩) ⟨I, c, go, gs, gf, hB.go' hS (fun q => n1 (hs _ q).2.1) (fun q => n2 (hs _ q).2.1) (fun q => n3 (hs _ q).2.1) (fun k hk q => (hb k hk).2 (hs k q).2.1), hb⟩ (fun k hk => hk) (fun k hk => .inl hk)
theorem ST.keep (h : ST w T X b bi bt xr xm mp oR oM) (hS : Same [] w.heap.size w w') : ST w' T X b bi bt xr xm mp oR oM := h.go hS (by simp)
/-- Two blocks more. -/
theorem ST.open (h : ST w T [xr, xm] b bi bt xr xm mp oR oM) (hS : Same [] w.heap.size w w') {q1 q2 : Nat} (h1 : w.heap.size ≤ q1) (h2 : w.heap.size ≤ q2) (h3 : q1 < w'.heap.size) (h4 : q2 < w'.heap.size) : ST w' (fun k => T k ∨ k = q1 ∨ k = q2) [xr, xm, q1, q2] b bi bt xr xm mp oR oM := by
  obtain ⟨I, c, go, gs, gf, hB, hb⟩ := h.B
  obtain ⟨t1, t2, t3, t4, t5⟩ := h.tt
  have g := h.move (T' := fun k => T k ∨ k = q1 ∨ k = q2) hS (by simp) ⟨I, c, go, gs, gf, hB.go' hS (by simp) (by simp) (by simp) (by simp), fun k hk => ⟨.inl (hb k hk).1, (hb k hk).2⟩⟩ (fun k hk => .inl hk) (fun k hk => by
    rcases hk with g | rfl | rfl
    · exact .inl g
    · exact .inr ⟨h1, h3⟩
    · exact .inr ⟨h2, h4⟩)
  have l1 := h.tl _ t1; have l2 := h.tl _ t2; have l3 := h.tl _ t3
  have nX := h.nX
  refine ⟨⟨I, c, go, gs, gf, hB.go' hS (by simp) (by simp) (by simp) (by simp), fun k hk => ⟨.inl (hb k hk).1, ?_⟩⟩, g.x0, g.x1, g.xf, g.y0, g.y1, g.yf, g.tt, g.tl, ?_, by simp, g.ne⟩
  · have a := (hb k hk).2
    have := h.tl k (hb k hk).1
    simp at a ⊢
    omega
  · simp at nX ⊢
    omega
theorem ST.shut {q1 q2 : Nat} (h : ST w T [xr, xm, q1, q2] b bi bt xr xm mp oR oM) : ST w T [xr, xm] b bi bt xr xm mp oR oM := by
  obtain ⟨I, c, go, gs, gf, hB, hb⟩ := h.B
  have nX := h.nX
  refine ⟨⟨I, c, go, gs, gf, hB, fun k hk => ⟨(hb k hk).1, ?_⟩⟩, h.x0, h.x1, h.xf, h.y0, h.y1, h.yf, h.tt, h.tl, ?_, by simp, h.ne⟩
  · have a := (hb k hk).2
    simp at a ⊢
    omega
  · simp at nX ⊢
    omega
theorem ST.setR (h : ST w T X b bi bt xr xm mp oR oM) {v : Option Addr} {o : Option PM} (hr : RgR w T v o) (hw : w' = w.setCell ⟨xr, 1, none⟩ (.pointer v)) : ST w' T X b bi bt xr xm mp o oM ∧ Same [xr] w.heap.size w w' := by
  have S : Same [xr] w.heap.size w w' := by rw [hw]; exact (Same.refl _ _ _).setCell (.inr (by simp)) _
  obtain ⟨I, c, go, gs, gf, hB, hb⟩ := h.B
  obtain ⟨n1, n2, n3⟩ := h.nX
  obtain ⟨i1, i2⟩ := h.iX
  have ne := h.ne
  obtain ⟨v1, x1, _⟩ := h.x1
  obtain ⟨v2, y1, r2⟩ := h.y1
  obtain ⟨t1, t2, t3, t4, t5⟩ := h.tt
  have ly := h.tl _ t5
  have e2 : ∀ j, w'.cell? ⟨xm, j, none⟩ = w.cell? ⟨xm, j, none⟩ := fun j => S.cell (p := ⟨xm, j, none⟩) ly (by simp; omega)
  have hT : ∀ k, k ∈ [xr] → T k := fun k hk => by simp at hk; subst hk; exact t4
  refine ⟨⟨⟨I, c, go, gs, gf, hB.go' S (by simp; rintro rfl; exact n1 i1) (by simp; rintro rfl; exact n2 i1) (by simp; rintro rfl; exact n3 i1) (fun k hk => by simp; rintro rfl; exact (hb _ hk).2 i1), hb⟩, by rw [hw, cell_setCell, if_neg (by omega)]; exact h.x0, ⟨v, by rw [hw, cell_setCell, if_pos ⟨rfl, rfl⟩, x1]; rfl, hr.same S hT⟩, fun j => by rw [hw, World.frozen?_setCell]; exact h.xf j, by rw [e2]; exact h.y0, ⟨v2, by rw [e2]; exact y1, r2.same S hT⟩, fun j => by rw [hw, World.frozen?_setCell]; exact h.yf j, h.tt, fun k hk => by have := h.tl k hk; have := S.size; omega, h.nX, h.iX, h.ne⟩, S⟩
theorem ST.setM (h : ST w T X b bi bt xr xm mp oR oM) {v : Option Addr} {o : Option PM} (hr : RgM w T v o) (hw : w' = w.setCell ⟨xm, 1, none⟩ (.pointer v)) : ST w' T X b bi bt xr xm mp oR o ∧ Same [xm] w.heap.size w w' := by
  have S : Same [xm] w.heap.size w w' := by rw [hw]; exact (Same.refl _ _ _).setCell (.inr (by simp)) _
  obtain ⟨I, c, go, gs, gf, hB, hb⟩ := h.B
  obtain ⟨n1, n2, n3⟩ := h.nX
  obtain ⟨i1, i2⟩ := h.iX
  have ne := h.ne
  obtain ⟨v1, x1, r1⟩ := h.x1
  obtain ⟨v2, y1, _⟩ := h.y1
  obtain ⟨t1, t2, t3, t4, t5⟩ := h.tt
  have lx := h.tl _ t4
  have e1 : ∀ j, w'.cell? ⟨xr, j, none⟩ = w.cell? ⟨xr, j, none⟩ := fun j => S.cell (p := ⟨xr, j, none⟩) lx (by simp; omega)
  have hT : ∀ k, k ∈ [xm] → T k := fun k hk => by simp at hk; subst hk; exact t5
  refine ⟨⟨⟨I, c, go, gs, gf, hB.go' S (by simp; rintro rfl; exact n1 i2) (by simp; rintro rfl; exact n2 i2) (by simp; rintro rfl; exact n3 i2) (fun k hk => by simp; rintro rfl; exact (hb _ hk).2 i2), hb⟩, by rw [e1]; exact h.x0, ⟨v1, by rw [e1]; exact x1, r1.same S hT⟩, fun j => by rw [hw, World.frozen?_setCell]; exact h.xf j, by rw [hw, cell_setCell, if_neg (by omega)]; exact h.y0, ⟨v, by rw [hw, cell_setCell, if_pos ⟨rfl, rfl⟩, y1]; rfl, hr.same S hT⟩, fun j => by rw [hw, World.frozen?_setCell]; exact h.yf j, h.tt, fun k hk => by have := h.tl k hk; have := S.size; omega, h.nX, h.iX, h.ne⟩, S⟩
/-- Decode, the real. -/
theorem ST.decR (h : ST w T X b bi bt xr xm mp oR oM) (s : ByteArray) : Runs Try.prog bin_Bin_Decode.id #[rp b, .string s] w fun v w' => ∃ a, v = .tuple #[.pointer a, .int .i64 (zOf s).2.1, .int .i64 (zOf s).1] ∧ RgR w' T a (zOf s).2.2 ∧ ST w' T X b bi bt xr xm mp oR oM ∧ ∃ S, Same S w.heap.size w w' ∧ ∀ k, k ∈ S → T k ∧ k ∉ X := by
  obtain ⟨I, c, go, gs, gf, hB, hb⟩ := h.B
  obtain ⟨n1, n2, n3⟩ := h.nX
  obtain ⟨i1, i2⟩ := h.iX
  obtain ⟨t1, t2, t3, t4, t5⟩ := h.tt
  have hT : ∀ k, k ∈ [b, bi, bt] → T k ∧ k ∉ X := fun k hk => by
    simp at hk
    rcases hk with rfl | rfl | rfl
    · exact ⟨t1, n1⟩
    · exact ⟨t2, n2⟩
    · exact ⟨t3, n3⟩
  have hT2 : ∀ k, k ∈ [b, bi, bt] → T k ∧ k ≠ xr ∧ k ≠ xm := fun k hk => ⟨(hT k hk).1, fun e => (hT k hk).2 (e ▸ i1), fun e => (hT k hk).2 (e ▸ i2)⟩
  refine RunsQ.post (Decode_all hB s) ?_
  rintro v w' (⟨cp, q, mb, m, hd, rfl, B1, A1, M1, l1, S1⟩ | ⟨n, a, hd, rfl, ⟨c', B1⟩, S1⟩)
  · obtain ⟨y, hy, E⟩ := decA_again hd sc0
    have ez : zOf s = (0, ((s.size : Nat) : Int), some y.2) := by unfold zOf; rw [hy]
    rw [ez]
    have hM : HM w' w' w.heap.size mb m cp.2 := ⟨A1, M1, l1, Same.refl _ _ _⟩
    exact ⟨_, rfl, .inr ⟨w', w.heap.size, mb, m, y.2, rfl, rfl, hM.eqv E, fun k hk => .inl (Nat.le_of_lt (h.tl k hk)), gd_of hy⟩, h.move S1 hT2 ⟨I, _, go, gs, gf, B1, hb⟩ (fun k hk => hk) (fun k hk => .inl hk), _, S1, hT⟩
  · have ez : zOf s = (n, a, none) := by unfold zOf; rw [decA_refused hd sc0]
    rw [ez]
    exact ⟨_, rfl, .inl ⟨rfl, rfl⟩, h.move S1 hT2 ⟨I, _, go, gs, gf, B1, hb⟩ (fun k hk => hk) (fun k hk => .inl hk), _, S1, hT⟩
/-- Decode, the model. -/
theorem ST.decM (h : ST w T X b bi bt xr xm mp oR oM) (s : ByteArray) : Runs Try.prog binm_Bin_Decode.id #[.pointer mp, .string s] w fun v w' => ∃ a, v = .tuple #[.pointer a, .int .i64 (zOf s).2.1, .int .i64 (zOf s).1] ∧ RgM w' T a (zOf s).2.2 ∧ ST w' T X b bi bt xr xm mp oR oM ∧ ∃ S, Same S w.heap.size w w' ∧ ∀ k, k ∈ S → T k ∧ k ∉ X := by
  refine RunsQ.post (Decodem_spec mp s sc0 w) ?_
  rintro v w' ⟨S1, (⟨cp, q, B, mb, hd, rfl, hM, l1⟩ | ⟨n, a, hd, rfl⟩)⟩
  · have ez : zOf s = (0, ((s.size : Nat) : Int), some cp.2) := by unfold zOf; rw [hd]
    rw [ez]
    exact ⟨_, rfl, .inr ⟨w', B, mb, cp.2, rfl, rfl, hM, Same.refl _ _ _, fun k hk => .inl (by have := h.tl k hk; omega), gd_of hd⟩, h.keep S1, [], S1, by simp⟩
  · have ez : zOf s = (n, a, none) := by unfold zOf; rw [hd]
    rw [ez]
    exact ⟨_, rfl, .inl ⟨rfl, rfl⟩, h.keep S1, [], S1, by simp⟩
/-- Encode, the real. -/
theorem ST.encR (h : ST w T X b bi bt xr xm mp oR oM) (hX : ∀ k, k ∈ X → k < w.heap.size) {v : Option Addr} (hv : RgR w T v oR) : Runs Try.prog bin_Bin_Encode.id #[rp b, .pointer v] w fun v w' => v = .string (enO oR) ∧ ∃ T', ST w' T' X b bi bt xr xm mp oR oM ∧ (∀ k, T k → T' k) ∧ (∀ k, T' k → T k ∨ w.heap.size ≤ k) ∧ ∃ S, Same S w.heap.size w w' ∧ ∀ k, k ∈ S → T k ∧ k ∉ X := by
  obtain ⟨I, c, go, gs, gf, hB, hb⟩ := h.B
  obtain ⟨n1, n2, n3⟩ := h.nX
  obtain ⟨i1, i2⟩ := h.iX
  obtain ⟨t1, t2, t3, t4, t5⟩ := h.tt
  refine RunsQ.post (RgR.enc hB hv (fun k hk => (hb k hk).1)) ?_
  rintro v w' ⟨rfl, I', go', gs', gf', B1, S1, low⟩
  have hT : ∀ k, k ∈ b :: bufs go gs gf → T k ∧ k ∉ X := fun k hk => by
    rw [List.mem_cons] at hk
    rcases hk with rfl | hk
    · exact ⟨t1, n1⟩
    · exact hb k hk
  have lX : ∀ k, k ∈ X → k ∉ bufs go' gs' gf' ∨ w.heap.size ≤ k := fun k hk => by
    rcases Nat.lt_or_ge k w.heap.size with g | g
    · left; intro q
      rcases low k q with g2 | g2
      · exact (hb k g2).2 hk
      · omega
    · exact .inr g
  refine ⟨rfl, fun k => T k ∨ k ∈ bufs go' gs' gf', ?_, fun k hk => .inl hk, fun k hk => ?_, _, S1, hT⟩
  · refine h.move S1 (fun k hk => ⟨(hT k hk).1, fun e => (hT k hk).2 (e ▸ i1), fun e => (hT k hk).2 (e ▸ i2)⟩) ⟨I', c, go', gs', gf', B1, fun k hk => ⟨.inr hk, fun q => ?_⟩⟩ (fun k hk => .inl hk) (fun k hk => ?_)
    · rcases lX k q with g | g
      · exact g hk
      · exact absurd (hX k q) (by omega)
    · rcases hk with g | g
      · exact .inl g
      · rcases low k g with g2 | g2
        · exact .inl (hb k g2).1
        · exact .inr ⟨g2, B1.low k g⟩
  · rcases hk with g | g
    · exact .inl g
    · rcases low k g with g2 | g2
      · exact .inl (hb k g2).1
      · exact .inr g2
end
section
variable {w w' : World}
/-- An answer in memory. -/
structure AnA (w : World) (a : Nat) (e n k : Int) (s : ByteArray) : Prop where
  c0 : w.cell? ⟨a, 0, none⟩ = some (.int .i64 e)
  c1 : w.cell? ⟨a, 1, none⟩ = some (.int .i64 n)
  c2 : w.cell? ⟨a, 2, none⟩ = some (.int .i64 k)
  c3 : w.cell? ⟨a, 3, none⟩ = some (.string s)
  f : ∀ j, w.frozen? ⟨a, j, none⟩ = false
variable {a : Nat} {e n k : Int} {s : ByteArray}
theorem AnA.lt (h : AnA w a e n k s) : a < w.heap.size := cell_lt h.c0
theorem AnA.same (h : AnA w a e n k s) {S : List Nat} {B : Nat} (hs : Same S B w w') (hb : a < B) (hS : a ∉ S) : AnA w' a e n k s :=
  ⟨by rw [hs.cell hb hS]; exact h.c0, by rw [hs.cell hb hS]; exact h.c1, by rw [hs.cell hb hS]; exact h.c2, by rw [hs.cell hb hS]; exact h.c3, fun j => by rw [hs.frozen hb hS]; exact h.f j⟩
theorem AnA.set0 (h : AnA w a e n k s) (x : Int) : AnA (w.setCell ⟨a, 0, none⟩ (.int .i64 x)) a x n k s :=
  ⟨by rw [cell_setCell, if_pos ⟨rfl, rfl⟩, h.c0]; rfl, by rw [cell_setCell, if_neg (by omega)]; exact h.c1, by rw [cell_setCell, if_neg (by omega)]; exact h.c2, by rw [cell_setCell, if_neg (by omega)]; exact h.c3, fun j => by rw [World.frozen?_setCell]; exact h.f j⟩
theorem AnA.set1 (h : AnA w a e n k s) (x : Int) : AnA (w.setCell ⟨a, 1, none⟩ (.int .i64 x)) a e x k s :=
  ⟨by rw [cell_setCell, if_neg (by omega)]; exact h.c0, by rw [cell_setCell, if_pos ⟨rfl, rfl⟩, h.c1]; rfl, by rw [cell_setCell, if_neg (by omega)]; exact h.c2, by rw [cell_setCell, if_neg (by omega)]; exact h.c3, fun j => by rw [World.frozen?_setCell]; exact h.f j⟩
theorem AnA.set2 (h : AnA w a e n k s) (x : Int) : AnA (w.setCell ⟨a, 2, none⟩ (.int .i64 x)) a e n x s :=
  ⟨by rw [cell_setCell, if_neg (by omega)]; exact h.c0, by rw [cell_setCell, if_neg (by omega)]; exact h.c1, by rw [cell_setCell, if_pos ⟨rfl, rfl⟩, h.c2]; rfl, by rw [cell_setCell, if_neg (by omega)]; exact h.c3, fun j => by rw [World.frozen?_setCell]; exact h.f j⟩
theorem AnA.set3 (h : AnA w a e n k s) (x : ByteArray) : AnA (w.setCell ⟨a, 3, none⟩ (.string x)) a e n k x :=
  ⟨by rw [cell_setCell, if_neg (by omega)]; exact h.c0, by rw [cell_setCell, if_neg (by omega)]; exact h.c1, by rw [cell_setCell, if_neg (by omega)]; exact h.c2, by rw [cell_setCell, if_pos ⟨rfl, rfl⟩, h.c3]; rfl, fun j => by rw [World.frozen?_setCell]; exact h.f j⟩
theorem AnA.new (w : World) (t : TypeId) : AnA (w.alloc (.cells #[(.int .i64 0), (.int .i64 0), (.int .i64 0), (.string ⟨#[]⟩)] t)) w.heap.size 0 0 0 ⟨#[]⟩ :=
  ⟨by rw [World.cell?_alloc_new]; rfl, by rw [World.cell?_alloc_new]; rfl, by rw [World.cell?_alloc_new]; rfl, by rw [World.cell?_alloc_new]; rfl, fun j => by rw [World.frozen?_alloc_new]⟩
theorem AnA.cans (h : AnA w a e n k s) (j : Nat) (hj : j < 4) : can w ⟨a, j, none⟩ := by
  have : j = 0 ∨ j = 1 ∨ j = 2 ∨ j = 3 := by omega
  rcases this with rfl | rfl | rfl | rfl
  · exact ⟨⟨_, h.c0⟩, h.f _⟩
  · exact ⟨⟨_, h.c1⟩, h.f _⟩
  · exact ⟨⟨_, h.c2⟩, h.f _⟩
  · exact ⟨⟨_, h.c3⟩, h.f _⟩
theorem AnA.fill (h : AnA w a e n k s) {e' n' k' : Int} {s' : ByteArray} (hF : Fill w w' a 0 [.int .i64 e', .int .i64 n', .int .i64 k', .string s']) : AnA w' a e' n' k' s' :=
  ⟨by rw [hF.cell, if_pos (by simp)]; rfl, by rw [hF.cell, if_pos (by simp)]; rfl, by rw [hF.cell, if_pos (by simp)]; rfl, by rw [hF.cell, if_pos (by simp)]; rfl, fun j => by rw [hF.frozen]; exact h.f j⟩

end
/-- What one step answers. -/
def ansE (o : OpV) : Int := if o.kind = 1 then (zOf o.s).1 else 0
def ansN (o : OpV) : Int := if o.kind = 1 then (zOf o.s).2.1 else 0
def regN (o : OpV) (g : Option PM) : Option PM := if o.kind = 1 then (if o.a = 0 then (zOf o.s).2.2 else g) else g
def ansS (o : OpV) (g : Option PM) : ByteArray := if o.kind = 1 then shO (zOf o.s).2.2 else if o.kind = 2 then enO g else if o.kind = 3 then shO g else ⟨#[]⟩
section
variable {w w' : World} {T : Nat → Prop} {b bi bt xr xm : Nat} {mp : Option Addr} {oR oM : Option PM}

def DoOk (w : World) (T : Nat → Prop) (b bi bt xr xm : Nat) (mp : Option Addr) (oR oM : Option PM) (o : OpV) : Value → World → Prop := fun v w' => v = .agg #[.int .i64 (ansE o), .int .i64 (ansN o), .int .i64 0, .string (ansS o oR)] ∧ ∃ T', ST w' T' [xr, xm] b bi bt xr xm mp (regN o oR) oM ∧ (∀ k, T' k → T k ∨ w.heap.size ≤ k) ∧ ∃ S, Same S w.heap.size w w' ∧ ∀ k, k ∈ S → T k
theorem Do_spec (h : ST w T [xr, xm] b bi bt xr xm mp oR oM) (o : OpV) : Runs Try.prog binlaw_Do.id #[rp xr, o.val] w (DoOk w T b bi bt xr xm mp oR oM o) := by
  refine binlaw_Do.enter _ _ _ _ _ _ _ _ _ _ ?_
  unfold binlaw_Do.V
  refine letB_intro fun b8 hb8 => letW_intro fun w9 hw9 => letB_intro fun b10 hb10 => letW_intro fun w11 hw11 => letB_intro fun b12 hb12 => letW_intro fun w13 hw13 => ?_
  have S9 : Same [] w.heap.size w w9 := by rw [hw9]; exact (Same.refl _ _ _).alloc (Nat.le_refl _) _
  have z9 : w9.heap.size = w.heap.size + 1 := by rw [hw9]; simp
  have S11 : Same [] w9.heap.size w9 w11 := by rw [hw11]; exact (Same.refl _ _ _).alloc (Nat.le_refl _) _
  have z11 : w11.heap.size = w9.heap.size + 1 := by rw [hw11]; simp
  have S13 : Same [] w11.heap.size w11 w13 := by rw [hw13]; exact (Same.refl _ _ _).alloc (Nat.le_refl _) _
  have z13 : w13.heap.size = w11.heap.size + 1 := by rw [hw13]; simp
  have O9 : OpAt w9 b8 o := by rw [hw9, hb8]; exact OpAt.new w o T_api_Op
  have A11 : AnA w11 b10 0 0 0 ⟨#[]⟩ := by rw [hw11, hb10]; exact AnA.new w9 _
  have A13 : AnA w13 b12 0 0 0 ⟨#[]⟩ := by rw [hw13, hb12]; exact AnA.new w11 _
  clear hw9 hw11 hw13
  refine putCells_intro b12 _ 0 w13 _ (fun j hj => by rw [Nat.zero_add]; exact A13.cans j hj) (fun w14 hF => ?_)
  have A14 := A13.fill hF
  have S14 : Same [b12] w13.heap.size w13 w14 := hF.same _
  clear hF
  have z14 := S14.size
  have O14 : OpAt w14 b8 o := ((O9.same S11 (by omega) (by simp)).same S13 (by omega) (by simp)).same S14 (by omega) (by simp; omega)
  have B14 : AnA w14 b10 0 0 0 ⟨#[]⟩ := (A11.same S13 (by omega) (by simp)).same S14 (by omega) (by simp; omega)
  have T14 : Same [] w.heap.size w w14 := (Same.nx (Same.nx S9 S11) S13).trans (S14.mono (by omega) (fun k hk hl => by simp at hk; omega))
  have h14 := h.open T14 (q1 := b10) (q2 := b12) (by omega) (by omega) (by omega) (by omega)
  clear S9 S11 S13 S14 O9 A11 A13
  obtain ⟨T1, hT1⟩ : ∃ T1 : Nat → Prop, T1 = fun k => T k ∨ k = b10 ∨ k = b12 := ⟨_, rfl⟩
  rw [← hT1] at h14
  have q10 : T1 b10 := by rw [hT1]; exact .inr (.inl rfl)
  have q12 : T1 b12 := by rw [hT1]; exact .inr (.inr rfl)
  have q1 : ∀ k, T1 k → T k ∨ w.heap.size ≤ k := fun k hk => by
    rw [hT1] at hk
    rcases hk with g | rfl | rfl
    · exact .inl g
    · exact .inr (by omega)
    · exact .inr (by omega)
  have q8 : ¬ T1 b8 := fun g => by
    rw [hT1] at g
    rcases g with g | g | g
    · have := h.tl _ g; omega
    · omega
    · omega
  clear hT1
  have e10 : b10 ≠ xr ∧ b10 ≠ xm ∧ b12 ≠ xr ∧ b12 ≠ xm := by have a1 := h.tl _ h.tt.2.2.2.1; have a2 := h.tl _ h.tt.2.2.2.2; omega
  have lX : ∀ k, k ∈ [xr, xm, b10, b12] → k < w14.heap.size := fun k hk => by
    have a1 := h.tl _ h.tt.2.2.2.1; have a2 := h.tl _ h.tt.2.2.2.2
    simp at hk
    omega
  -- a world behind a call
  have sub : ∀ {w1 w2 : World} {S : List Nat}, (∃ S, Same S w.heap.size w w1 ∧ ∀ k, k ∈ S → T k) → Same S w1.heap.size w1 w2 → (∀ k, k ∈ S → T k ∨ w.heap.size ≤ k) → ∃ S, Same S w.heap.size w w2 ∧ ∀ k, k ∈ S → T k := by
    rintro w1 w2 S ⟨S1, a1, a2⟩ c1 c2
    refine ⟨S1 ++ S.filter (· < w.heap.size), (a1.mono (Nat.le_refl _) (fun k hk _ => List.mem_append_left _ hk)).trans (c1.mono a1.size (fun k hk hl => by simp [hk]; exact .inr hl)), fun k hk => ?_⟩
    rw [List.mem_append, List.mem_filter] at hk
    rcases hk with g | ⟨g1, g2⟩
    · exact a2 k g
    · have g2 : k < w.heap.size := by simpa using g2
      rcases c2 k g1 with g | g
      · exact g
      · omega
  have s14 : ∃ S, Same S w.heap.size w w14 ∧ ∀ k, k ∈ S → T k := ⟨[], T14, by simp⟩
  -- the answer goes home
  have L1 : ∀ (w1 : World) (T2 : Nat → Prop) (e n : Int) (s : ByteArray), AnA w1 b12 e n 0 s → AnA w1 b10 0 0 0 ⟨#[]⟩ → ST w1 T2 [xr, xm, b10, b12] b bi bt xr xm mp (regN o oR) oM → T2 b10 → (∀ k, T2 k → T k ∨ w.heap.size ≤ k) → (∃ S, Same S w.heap.size w w1 ∧ ∀ k, k ∈ S → T k) → e = ansE o → n = ansN o → s = ansS o oR → binlaw_Do.L1 b10 b12 (DoOk w T b bi bt xr xm mp oR oM o) (fun _ _ => False) w1 := fun w1 T2 e n s A1 B1 R1 t2 t3 S1 he hn hss => by
    refine binlaw_Do.step1 _ _ _ _ _ ?_
    unfold binlaw_Do.V1
    refine ⟨_, _, _, _, A1.c0, A1.c1, A1.c2, A1.c3, putCells_intro b10 _ 0 w1 _ (fun j hj => by rw [Nat.zero_add]; exact B1.cans j hj) (fun w2 hF => ?_)⟩
    have A2 := B1.fill hF
    have S2 : Same [b10] w1.heap.size w1 w2 := hF.same _
    refine ⟨_, _, _, _, A2.c0, A2.c1, A2.c2, A2.c3, by rw [he, hn, hss], T2, (R1.go S2 (fun k hk => by simp at hk; subst hk; exact ⟨t2, by simp, e10.1, e10.2.1⟩)).shut, t3, sub S1 S2 (fun k hk => by simp at hk; subst hk; exact .inr (by omega))⟩
  -- a text for an answer
  have shw : ∀ (w1 : World) (T2 : Nat → Prop) (s : ByteArray), AnA w1 b12 0 0 0 ⟨#[]⟩ → AnA w1 b10 0 0 0 ⟨#[]⟩ → ST w1 T2 [xr, xm, b10, b12] b bi bt xr xm mp (regN o oR) oM → T2 b10 → T2 b12 → (∀ k, T2 k → T k ∨ w.heap.size ≤ k) → (∃ S, Same S w.heap.size w w1 ∧ ∀ k, k ∈ S → T k) → ansE o = 0 → ansN o = 0 → s = ansS o oR →
      (can w1 ⟨b12, 3, none⟩ ∧ letW (World.setCell w1 ⟨b12, 3, none⟩ (.string s)) fun w48 => (binlaw_Do.L1 b10 b12 (DoOk w T b bi bt xr xm mp oR oM o) (fun _ _ => False) w48)) := fun w1 T2 s A1 B1 R1 t2 t2' t3 S1 he hn hss => by
    refine ⟨A1.cans 3 (by decide), letW_intro fun w3 hw3 => ?_⟩
    have A3 := A1.set3 s
    rw [← hw3] at A3
    have S3 : Same [b12] w1.heap.size w1 w3 := by rw [hw3]; exact (Same.refl _ _ _).setCell (.inr (by simp)) _
    clear hw3
    exact L1 w3 T2 _ _ _ A3 (B1.same S3 B1.lt (by simp; omega)) (R1.go S3 (fun k hk => by simp at hk; subst hk; exact ⟨t2', by simp, e10.2.2.1, e10.2.2.2⟩)) t2 t3 (sub S1 S3 (fun k hk => by simp at hk; subst hk; exact .inr (by omega))) he.symm hn.symm hss
  have hd := h14.keep (Same.refl [] w14.heap.size w14).drew
  have Od : OpAt w14.drew b8 o := O14.drew
  have Ad : AnA w14.drew b12 0 0 0 ⟨#[]⟩ := A14.same (Same.refl [] w14.heap.size w14).drew A14.lt (by simp)
  have Bd : AnA w14.drew b10 0 0 0 ⟨#[]⟩ := B14.same (Same.refl [] w14.heap.size w14).drew B14.lt (by simp)
  have sd : ∃ S, Same S w.heap.size w w14.drew ∧ ∀ k, k ∈ S → T k := sub s14 (Same.refl [] w14.heap.size w14).drew (by simp)
  simp only [nilV_some, Nat.zero_add, true_and, and_true]
  refine ⟨_, O14.c0, cond_intro (fun h1 => ?_) (fun h1 => ?_)⟩
  · have h1 : o.kind = 1 := eq_of_beq h1
    refine ⟨⟨_, hd.x0, _, Od.c4, ?_⟩, ⟨_, Od.c4, _, hd.x0, ?_⟩⟩
    all_goals
      refine RunsQ.post (hd.decR o.s) ?_
      rintro v w1 ⟨a, rfl, ra, h1', S1, c1, c2⟩
      have z1 := c1.size
      have n12 : b12 ∉ S1 := fun q => (c2 _ q).2 (by simp)
      have n10 : b10 ∉ S1 := fun q => (c2 _ q).2 (by simp)
      have n8 : b8 ∉ S1 := fun q => q8 (c2 _ q).1
      have A1 := Ad.same c1 Ad.lt n12
      have B1 := Bd.same c1 Bd.lt n10
      have O1 := Od.same c1 Od.lt n8
      have s1 := sub sd c1 (fun k hk => q1 k (c2 k hk).1)
      refine ⟨_, _, _, rfl, RunsQ.post ra.show ?_⟩
      rintro v w2 ⟨rfl, c3⟩
      have A2 := A1.same c3 A1.lt (by simp)
      have B2 := B1.same c3 B1.lt (by simp)
      have O2 := O1.same c3 O1.lt (by simp)
      have s2 := sub s1 c3 (by simp)
      have h2 := h1'.keep c3
      have r2 := ra.same c3 (by simp)
      refine ⟨_, rfl, A2.cans 3 (by decide), letW_intro fun w3 hw3 => ?_⟩
      have A3 := A2.set3 (shO (zOf o.s).2.2)
      rw [← hw3] at A3
      have S3 : Same [b12] w2.heap.size w2 w3 := by rw [hw3]; exact (Same.refl _ _ _).setCell (.inr (by simp)) _
      clear hw3
      refine ⟨A3.cans 1 (by decide), letW_intro fun w4 hw4 => ?_⟩
      have A4 := A3.set1 (zOf o.s).2.1
      rw [← hw4] at A4
      have S4 : Same [b12] w2.heap.size w2 w4 := by rw [hw4]; exact S3.setCell (.inr (by simp)) _
      clear hw4
      refine ⟨A4.cans 0 (by decide), letW_intro fun w5 hw5 => ?_⟩
      have A5 := A4.set0 (zOf o.s).1
      rw [← hw5] at A5
      have S5 : Same [b12] w2.heap.size w2 w5 := by rw [hw5]; exact S4.setCell (.inr (by simp)) _
      clear hw5
      have B5 := B2.same S5 B2.lt (by simp; omega)
      have l8 : b8 < w2.heap.size := O2.lt
      have O5 := O2.same S5 O2.lt (by simp; omega)
      have t12 : ∀ k, k ∈ [b12] → T1 k := fun k hk => by simp at hk; subst hk; exact q12
      have h5 := h2.go S5 (fun k hk => by simp at hk; subst hk; exact ⟨q12, by simp, e10.2.2.1, e10.2.2.2⟩)
      have r5 := r2.same S5 t12
      have s5 := sub s2 S5 (fun k hk => by simp at hk; subst hk; exact .inr (by omega))
      have ee : (zOf o.s).1 = ansE o := by unfold ansE; rw [if_pos h1]
      have en : (zOf o.s).2.1 = ansN o := by unfold ansN; rw [if_pos h1]
      have es : shO (zOf o.s).2.2 = ansS o oR := by unfold ansS; rw [if_pos h1]
      refine ⟨_, O5.c1, cond_intro (fun ha => ?_) (fun ha => ?_)⟩
      · have ha : o.a = 0 := eq_of_beq ha
        obtain ⟨v0, k0, _⟩ := h5.x1
        refine ⟨⟨⟨_, k0⟩, h5.xf 1⟩, letW_intro fun w6 hw6 => ?_⟩
        obtain ⟨h6, S6⟩ := h5.setR r5 hw6
        have er : (zOf o.s).2.2 = regN o oR := by unfold regN; rw [if_pos h1, if_pos ha]
        rw [er] at h6
        have tx : T xr := h.tt.2.2.2.1
        exact L1 w6 T1 _ _ _ (A5.same S6 A5.lt (by simp; omega)) (B5.same S6 B5.lt (by simp; omega)) h6 q10 q1 (sub s5 S6 (fun k hk => by simp at hk; subst hk; exact .inl tx)) ee en es
      · have ha : ¬ o.a = 0 := by simpa using ha
        have er : oR = regN o oR := by unfold regN; rw [if_pos h1, if_neg ha]
        have h6 : ST w5 T1 [xr, xm, b10, b12] b bi bt xr xm mp (regN o oR) oM := by rw [← er]; exact h5
        exact L1 w5 T1 _ _ _ A5 B5 h6 q10 q1 s5 ee en es
  have k1 : ¬ o.kind = 1 := by simpa using h1
  have hreg : regN o oR = oR := by unfold regN; rw [if_neg k1]
  have e0 : ansE o = 0 := by unfold ansE; rw [if_neg k1]
  have n0 : ansN o = 0 := by unfold ansN; rw [if_neg k1]
  have R14 : ST w14 T1 [xr, xm, b10, b12] b bi bt xr xm mp (regN o oR) oM := by rw [hreg]; exact h14
  have Rd : ST w14.drew T1 [xr, xm, b10, b12] b bi bt xr xm mp (regN o oR) oM := by rw [hreg]; exact hd
  refine cond_intro (fun h2 => ?_) (fun h2 => ?_)
  · have h2 : o.kind = 2 := eq_of_beq h2
    have es : enO (regN o oR) = ansS o oR := by rw [hreg]; unfold ansS; rw [if_neg k1, if_pos h2]
    obtain ⟨v, cv, rv⟩ := Rd.x1
    refine ⟨_, Rd.x0, v, cv, RunsQ.post (Rd.encR lX rv) ?_⟩
    rintro v w1 ⟨rfl, T2, h1', g1, g2, S1, c1, c2⟩
    have n12 : b12 ∉ S1 := fun q => (c2 _ q).2 (by simp)
    have n10 : b10 ∉ S1 := fun q => (c2 _ q).2 (by simp)
    refine ⟨_, rfl, shw w1 T2 _ (Ad.same c1 Ad.lt n12) (Bd.same c1 Bd.lt n10) h1' (g1 _ q10) (g1 _ q12) (fun k hk => ?_) (sub sd c1 (fun k hk => q1 k (c2 k hk).1)) e0 n0 es⟩
    rcases g2 k hk with g | g
    · exact q1 k g
    · have g : w14.heap.size ≤ k := g
      exact .inr (by omega)
  have k2 : ¬ o.kind = 2 := by simpa using h2
  refine cond_intro (fun h3 => ?_) (fun h3 => ?_)
  · have h3 : o.kind = 3 := eq_of_beq h3
    have es : shO (regN o oR) = ansS o oR := by rw [hreg]; unfold ansS; rw [if_neg k1, if_neg k2, if_pos h3]
    obtain ⟨v, cv, rv⟩ := R14.x1
    refine ⟨v, cv, RunsQ.post rv.show ?_⟩
    rintro v w1 ⟨rfl, c1⟩
    exact ⟨_, rfl, shw w1 T1 _ (A14.same c1 A14.lt (by simp)) (B14.same c1 B14.lt (by simp)) (R14.keep c1) q10 q12 q1 (sub s14 c1 (by simp)) e0 n0 es⟩
  have k3 : ¬ o.kind = 3 := by simpa using h3
  have es : (⟨#[]⟩ : ByteArray) = ansS o oR := by unfold ansS; rw [if_neg k1, if_neg k2, if_neg k3]
  refine cond_intro (fun h4 => ?_) (fun h4 => ?_)
  · obtain ⟨I, c, go, gs, gf, hB, _⟩ := R14.B
    refine ⟨_, R14.x0, RunsQ.post (BCheck_spec hB) ?_⟩
    rintro v w1 ⟨rfl, c1⟩
    exact ⟨_, rfl, cond_false' rfl (L1 w1 T1 _ _ _ (A14.same c1 A14.lt (by simp)) (B14.same c1 B14.lt (by simp)) (R14.keep c1) q10 q1 (sub s14 c1 (by simp)) e0.symm n0.symm es)⟩
  refine cond_intro (fun h5 => ?_) (fun h5 => L1 w14 T1 _ _ _ A14 B14 R14 q10 q1 s14 e0.symm n0.symm es)
  refine ⟨_, R14.x0, RunsQ.post (bin_Bin_Show.pure _ w14) ?_⟩
  rintro v w1 ⟨rfl, rfl⟩
  exact ⟨_, rfl, shw w1 T1 _ A14 B14 R14 q10 q12 q1 s14 e0 n0 es⟩

def DoMOk (w : World) (T : Nat → Prop) (b bi bt xr xm : Nat) (mp : Option Addr) (oR oM : Option PM) (o : OpV) : Value → World → Prop := fun v w' => v = .agg #[.int .i64 (ansE o), .int .i64 (ansN o), .int .i64 0, .string (ansS o oM)] ∧ ∃ T', ST w' T' [xr, xm] b bi bt xr xm mp oR (regN o oM) ∧ (∀ k, T' k → T k ∨ w.heap.size ≤ k) ∧ ∃ S, Same S w.heap.size w w' ∧ ∀ k, k ∈ S → T k
theorem DoM_spec (h : ST w T [xr, xm] b bi bt xr xm mp oR oM) (o : OpV) : Runs Try.prog binlaw_DoM.id #[rp xm, o.val] w (DoMOk w T b bi bt xr xm mp oR oM o) := by
  refine binlaw_DoM.enter _ _ _ _ _ _ _ _ _ _ ?_
  unfold binlaw_DoM.V
  refine letB_intro fun b8 hb8 => letW_intro fun w9 hw9 => letB_intro fun b10 hb10 => letW_intro fun w11 hw11 => letB_intro fun b12 hb12 => letW_intro fun w13 hw13 => ?_
  have S9 : Same [] w.heap.size w w9 := by rw [hw9]; exact (Same.refl _ _ _).alloc (Nat.le_refl _) _
  have z9 : w9.heap.size = w.heap.size + 1 := by rw [hw9]; simp
  have S11 : Same [] w9.heap.size w9 w11 := by rw [hw11]; exact (Same.refl _ _ _).alloc (Nat.le_refl _) _
  have z11 : w11.heap.size = w9.heap.size + 1 := by rw [hw11]; simp
  have S13 : Same [] w11.heap.size w11 w13 := by rw [hw13]; exact (Same.refl _ _ _).alloc (Nat.le_refl _) _
  have z13 : w13.heap.size = w11.heap.size + 1 := by rw [hw13]; simp
  have O9 : OpAt w9 b8 o := by rw [hw9, hb8]; exact OpAt.new w o T_api_Op
  have A11 : AnA w11 b10 0 0 0 ⟨#[]⟩ := by rw [hw11, hb10]; exact AnA.new w9 _
  have A13 : AnA w13 b12 0 0 0 ⟨#[]⟩ := by rw [hw13, hb12]; exact AnA.new w11 _
  clear hw9 hw11 hw13
  refine putCells_intro b12 _ 0 w13 _ (fun j hj => by rw [Nat.zero_add]; exact A13.cans j hj) (fun w14 hF => ?_)
  have A14 := A13.fill hF
  have S14 : Same [b12] w13.heap.size w13 w14 := hF.same _
  clear hF
  have z14 := S14.size
  have O14 : OpAt w14 b8 o := ((O9.same S11 (by omega) (by simp)).same S13 (by omega) (by simp)).same S14 (by omega) (by simp; omega)
  have B14 : AnA w14 b10 0 0 0 ⟨#[]⟩ := (A11.same S13 (by omega) (by simp)).same S14 (by omega) (by simp; omega)
  have T14 : Same [] w.heap.size w w14 := (Same.nx (Same.nx S9 S11) S13).trans (S14.mono (by omega) (fun k hk hl => by simp at hk; omega))
  have h14 := h.open T14 (q1 := b10) (q2 := b12) (by omega) (by omega) (by omega) (by omega)
  clear S9 S11 S13 S14 O9 A11 A13
  obtain ⟨T1, hT1⟩ : ∃ T1 : Nat → Prop, T1 = fun k => T k ∨ k = b10 ∨ k = b12 := ⟨_, rfl⟩
  rw [← hT1] at h14
  have q10 : T1 b10 := by rw [hT1]; exact .inr (.inl rfl)
  have q12 : T1 b12 := by rw [hT1]; exact .inr (.inr rfl)
  have q1 : ∀ k, T1 k → T k ∨ w.heap.size ≤ k := fun k hk => by
    rw [hT1] at hk
    rcases hk with g | rfl | rfl
    · exact .inl g
    · exact .inr (by omega)
    · exact .inr (by omega)
  have q8 : ¬ T1 b8 := fun g => by
    rw [hT1] at g
    rcases g with g | g | g
    · have := h.tl _ g; omega
    · omega
    · omega
  clear hT1
  have e10 : b10 ≠ xr ∧ b10 ≠ xm ∧ b12 ≠ xr ∧ b12 ≠ xm := by have a1 := h.tl _ h.tt.2.2.2.1; have a2 := h.tl _ h.tt.2.2.2.2; omega
  have lX : ∀ k, k ∈ [xr, xm, b10, b12] → k < w14.heap.size := fun k hk => by
    have a1 := h.tl _ h.tt.2.2.2.1; have a2 := h.tl _ h.tt.2.2.2.2
    simp at hk
    omega
  -- a world behind a call
  have sub : ∀ {w1 w2 : World} {S : List Nat}, (∃ S, Same S w.heap.size w w1 ∧ ∀ k, k ∈ S → T k) → Same S w1.heap.size w1 w2 → (∀ k, k ∈ S → T k ∨ w.heap.size ≤ k) → ∃ S, Same S w.heap.size w w2 ∧ ∀ k, k ∈ S → T k := by
    rintro w1 w2 S ⟨S1, a1, a2⟩ c1 c2
    refine ⟨S1 ++ S.filter (· < w.heap.size), (a1.mono (Nat.le_refl _) (fun k hk _ => List.mem_append_left _ hk)).trans (c1.mono a1.size (fun k hk hl => by simp [hk]; exact .inr hl)), fun k hk => ?_⟩
    rw [List.mem_append, List.mem_filter] at hk
    rcases hk with g | ⟨g1, g2⟩
    · exact a2 k g
    · have g2 : k < w.heap.size := by simpa using g2
      rcases c2 k g1 with g | g
      · exact g
      · omega
  have s14 : ∃ S, Same S w.heap.size w w14 ∧ ∀ k, k ∈ S → T k := ⟨[], T14, by simp⟩
  -- the answer goes home
  have L1 : ∀ (w1 : World) (T2 : Nat → Prop) (e n : Int) (s : ByteArray), AnA w1 b12 e n 0 s → AnA w1 b10 0 0 0 ⟨#[]⟩ → ST w1 T2 [xr, xm, b10, b12] b bi bt xr xm mp oR (regN o oM) → T2 b10 → (∀ k, T2 k → T k ∨ w.heap.size ≤ k) → (∃ S, Same S w.heap.size w w1 ∧ ∀ k, k ∈ S → T k) → e = ansE o → n = ansN o → s = ansS o oM → binlaw_DoM.L1 b10 b12 (DoMOk w T b bi bt xr xm mp oR oM o) (fun _ _ => False) w1 := fun w1 T2 e n s A1 B1 R1 t2 t3 S1 he hn hss => by
    refine binlaw_DoM.step1 _ _ _ _ _ ?_
    unfold binlaw_DoM.V1
    refine ⟨_, _, _, _, A1.c0, A1.c1, A1.c2, A1.c3, putCells_intro b10 _ 0 w1 _ (fun j hj => by rw [Nat.zero_add]; exact B1.cans j hj) (fun w2 hF => ?_)⟩
    have A2 := B1.fill hF
    have S2 : Same [b10] w1.heap.size w1 w2 := hF.same _
    refine ⟨_, _, _, _, A2.c0, A2.c1, A2.c2, A2.c3, by rw [he, hn, hss], T2, (R1.go S2 (fun k hk => by simp at hk; subst hk; exact ⟨t2, by simp, e10.1, e10.2.1⟩)).shut, t3, sub S1 S2 (fun k hk => by simp at hk; subst hk; exact .inr (by omega))⟩
  -- a text for an answer
  have shw : ∀ (w1 : World) (T2 : Nat → Prop) (s : ByteArray), AnA w1 b12 0 0 0 ⟨#[]⟩ → AnA w1 b10 0 0 0 ⟨#[]⟩ → ST w1 T2 [xr, xm, b10, b12] b bi bt xr xm mp oR (regN o oM) → T2 b10 → T2 b12 → (∀ k, T2 k → T k ∨ w.heap.size ≤ k) → (∃ S, Same S w.heap.size w w1 ∧ ∀ k, k ∈ S → T k) → ansE o = 0 → ansN o = 0 → s = ansS o oM →
      (can w1 ⟨b12, 3, none⟩ ∧ letW (World.setCell w1 ⟨b12, 3, none⟩ (.string s)) fun w48 => (binlaw_DoM.L1 b10 b12 (DoMOk w T b bi bt xr xm mp oR oM o) (fun _ _ => False) w48)) := fun w1 T2 s A1 B1 R1 t2 t2' t3 S1 he hn hss => by
    refine ⟨A1.cans 3 (by decide), letW_intro fun w3 hw3 => ?_⟩
    have A3 := A1.set3 s
    rw [← hw3] at A3
    have S3 : Same [b12] w1.heap.size w1 w3 := by rw [hw3]; exact (Same.refl _ _ _).setCell (.inr (by simp)) _
    clear hw3
    exact L1 w3 T2 _ _ _ A3 (B1.same S3 B1.lt (by simp; omega)) (R1.go S3 (fun k hk => by simp at hk; subst hk; exact ⟨t2', by simp, e10.2.2.1, e10.2.2.2⟩)) t2 t3 (sub S1 S3 (fun k hk => by simp at hk; subst hk; exact .inr (by omega))) he.symm hn.symm hss
  have hd := h14.keep (Same.refl [] w14.heap.size w14).drew
  have Od : OpAt w14.drew b8 o := O14.drew
  have Ad : AnA w14.drew b12 0 0 0 ⟨#[]⟩ := A14.same (Same.refl [] w14.heap.size w14).drew A14.lt (by simp)
  have Bd : AnA w14.drew b10 0 0 0 ⟨#[]⟩ := B14.same (Same.refl [] w14.heap.size w14).drew B14.lt (by simp)
  have sd : ∃ S, Same S w.heap.size w w14.drew ∧ ∀ k, k ∈ S → T k := sub s14 (Same.refl [] w14.heap.size w14).drew (by simp)
  simp only [nilV_some, Nat.zero_add, true_and, and_true]
  refine ⟨_, O14.c0, cond_intro (fun h1 => ?_) (fun h1 => ?_)⟩
  · have h1 : o.kind = 1 := eq_of_beq h1
    refine ⟨⟨_, hd.y0, _, Od.c4, ?_⟩, ⟨_, Od.c4, _, hd.y0, ?_⟩⟩
    all_goals
      refine RunsQ.post (hd.decM o.s) ?_
      rintro v w1 ⟨a, rfl, ra, h1', S1, c1, c2⟩
      have z1 := c1.size
      have n12 : b12 ∉ S1 := fun q => (c2 _ q).2 (by simp)
      have n10 : b10 ∉ S1 := fun q => (c2 _ q).2 (by simp)
      have n8 : b8 ∉ S1 := fun q => q8 (c2 _ q).1
      have A1 := Ad.same c1 Ad.lt n12
      have B1 := Bd.same c1 Bd.lt n10
      have O1 := Od.same c1 Od.lt n8
      have s1 := sub sd c1 (fun k hk => q1 k (c2 k hk).1)
      refine ⟨_, _, _, rfl, RunsQ.post ra.show ?_⟩
      rintro v w2 ⟨rfl, c3⟩
      have A2 := A1.same c3 A1.lt (by simp)
      have B2 := B1.same c3 B1.lt (by simp)
      have O2 := O1.same c3 O1.lt (by simp)
      have s2 := sub s1 c3 (by simp)
      have h2 := h1'.keep c3
      have r2 := ra.same c3 (by simp)
      refine ⟨_, rfl, A2.cans 3 (by decide), letW_intro fun w3 hw3 => ?_⟩
      have A3 := A2.set3 (shO (zOf o.s).2.2)
      rw [← hw3] at A3
      have S3 : Same [b12] w2.heap.size w2 w3 := by rw [hw3]; exact (Same.refl _ _ _).setCell (.inr (by simp)) _
      clear hw3
      refine ⟨A3.cans 1 (by decide), letW_intro fun w4 hw4 => ?_⟩
      have A4 := A3.set1 (zOf o.s).2.1
      rw [← hw4] at A4
      have S4 : Same [b12] w2.heap.size w2 w4 := by rw [hw4]; exact S3.setCell (.inr (by simp)) _
      clear hw4
      refine ⟨A4.cans 0 (by decide), letW_intro fun w5 hw5 => ?_⟩
      have A5 := A4.set0 (zOf o.s).1
      rw [← hw5] at A5
      have S5 : Same [b12] w2.heap.size w2 w5 := by rw [hw5]; exact S4.setCell (.inr (by simp)) _
      clear hw5
      have B5 := B2.same S5 B2.lt (by simp; omega)
      have l8 : b8 < w2.heap.size := O2.lt
      have O5 := O2.same S5 O2.lt (by simp; omega)
      have t12 : ∀ k, k ∈ [b12] → T1 k := fun k hk => by simp at hk; subst hk; exact q12
      have h5 := h2.go S5 (fun k hk => by simp at hk; subst hk; exact ⟨q12, by simp, e10.2.2.1, e10.2.2.2⟩)
      have r5 := r2.same S5 t12
      have s5 := sub s2 S5 (fun k hk => by simp at hk; subst hk; exact .inr (by omega))
      have ee : (zOf o.s).1 = ansE o := by unfold ansE; rw [if_pos h1]
      have en : (zOf o.s).2.1 = ansN o := by unfold ansN; rw [if_pos h1]
      have es : shO (zOf o.s).2.2 = ansS o oM := by unfold ansS; rw [if_pos h1]
      refine ⟨_, O5.c1, cond_intro (fun ha => ?_) (fun ha => ?_)⟩
      · have ha : o.a = 0 := eq_of_beq ha
        obtain ⟨v0, k0, _⟩ := h5.y1
        refine ⟨⟨⟨_, k0⟩, h5.yf 1⟩, letW_intro fun w6 hw6 => ?_⟩
        obtain ⟨h6, S6⟩ := h5.setM r5 hw6
        have er : (zOf o.s).2.2 = regN o oM := by unfold regN; rw [if_pos h1, if_pos ha]
        rw [er] at h6
        have tx : T xm := h.tt.2.2.2.2
        exact L1 w6 T1 _ _ _ (A5.same S6 A5.lt (by simp; omega)) (B5.same S6 B5.lt (by simp; omega)) h6 q10 q1 (sub s5 S6 (fun k hk => by simp at hk; subst hk; exact .inl tx)) ee en es
      · have ha : ¬ o.a = 0 := by simpa using ha
        have er : oM = regN o oM := by unfold regN; rw [if_pos h1, if_neg ha]
        have h6 : ST w5 T1 [xr, xm, b10, b12] b bi bt xr xm mp oR (regN o oM) := by rw [← er]; exact h5
        exact L1 w5 T1 _ _ _ A5 B5 h6 q10 q1 s5 ee en es
  have k1 : ¬ o.kind = 1 := by simpa using h1
  have hreg : regN o oM = oM := by unfold regN; rw [if_neg k1]
  have e0 : ansE o = 0 := by unfold ansE; rw [if_neg k1]
  have n0 : ansN o = 0 := by unfold ansN; rw [if_neg k1]
  have R14 : ST w14 T1 [xr, xm, b10, b12] b bi bt xr xm mp oR (regN o oM) := by rw [hreg]; exact h14
  have Rd : ST w14.drew T1 [xr, xm, b10, b12] b bi bt xr xm mp oR (regN o oM) := by rw [hreg]; exact hd
  refine cond_intro (fun h2 => ?_) (fun h2 => ?_)
  · have h2 : o.kind = 2 := eq_of_beq h2
    have es : enO (regN o oM) = ansS o oM := by rw [hreg]; unfold ansS; rw [if_neg k1, if_pos h2]
    obtain ⟨v, cv, rv⟩ := Rd.y1
    refine ⟨_, Rd.y0, v, cv, RunsQ.post (rv.enc mp) ?_⟩
    rintro v w1 ⟨rfl, c1⟩
    exact ⟨_, rfl, shw w1 T1 _ (Ad.same c1 Ad.lt (by simp)) (Bd.same c1 Bd.lt (by simp)) (Rd.keep c1) q10 q12 q1 (sub sd c1 (by simp)) e0 n0 es⟩
  have k2 : ¬ o.kind = 2 := by simpa using h2
  refine cond_intro (fun h3 => ?_) (fun h3 => ?_)
  · have h3 : o.kind = 3 := eq_of_beq h3
    have es : shO (regN o oM) = ansS o oM := by rw [hreg]; unfold ansS; rw [if_neg k1, if_neg k2, if_pos h3]
    obtain ⟨v, cv, rv⟩ := R14.y1
    refine ⟨v, cv, RunsQ.post rv.show ?_⟩
    rintro v w1 ⟨rfl, c1⟩
    exact ⟨_, rfl, shw w1 T1 _ (A14.same c1 A14.lt (by simp)) (B14.same c1 B14.lt (by simp)) (R14.keep c1) q10 q12 q1 (sub s14 c1 (by simp)) e0 n0 es⟩
  have k3 : ¬ o.kind = 3 := by simpa using h3
  have es : (⟨#[]⟩ : ByteArray) = ansS o oM := by unfold ansS; rw [if_neg k1, if_neg k2, if_neg k3]

  refine cond_intro (fun h5 => ?_) (fun h5 => L1 w14 T1 _ _ _ A14 B14 R14 q10 q1 s14 e0.symm n0.symm es)
  refine ⟨_, R14.y0, RunsQ.post (binm_Bin_Show.pure _ w14) ?_⟩
  rintro v w1 ⟨rfl, rfl⟩
  exact ⟨_, rfl, shw w1 T1 _ A14 B14 R14 q10 q12 q1 s14 e0 n0 es⟩
end
end Go.Proofs.Qxb6500316a
