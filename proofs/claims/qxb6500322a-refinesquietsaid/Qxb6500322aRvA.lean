/-
  The equality: one step on either side.
-/
import Derived.Test.Qxb6500322aMqA
import Derived.Test.Qxb6500322aKvC
set_option linter.unusedSimpArgs false
set_option linter.unusedVariables false
set_option maxRecDepth 100000
set_option linter.unusedSectionVars false
namespace Go.Proofs.Qxb6500322a
open Go Go.Vc

/-- What either validator owes for the text s. -/
def zOf (s : ByteArray) : Int × Int × Int := match decA s sc0 with
  | .ok x _ => validV x.2
  | .err _ _ => (-1, 0, 32)
/-- The Bin and the validator, apart. -/
structure RV (w : World) (b bi bt vb : Nat) : Prop where
  B : ∃ c, BN w b bi bt c
  V : VGAt w vb
  n1 : vb ≠ b
  n2 : vb ≠ bi
  n3 : vb ≠ bt
section
variable {w w' : World} {b bi bt vb : Nat}
theorem RV.keep (h : RV w b bi bt vb) (hS : Same [] w.heap.size w w') : RV w' b bi bt vb := by
  obtain ⟨c, hB⟩ := h.B
  exact ⟨⟨c, hB.keep hS⟩, h.V.keep hS, h.n1, h.n2, h.n3⟩
theorem RV.drew (h : RV w b bi bt vb) : RV w.drew b bi bt vb := h.keep (Same.refl _ _ _).drew
theorem RV.lts (h : RV w b bi bt vb) : b < w.heap.size ∧ bi < w.heap.size ∧ bt < w.heap.size ∧ vb < w.heap.size := by
  obtain ⟨c, hB⟩ := h.B
  obtain ⟨a1, a2, a3⟩ := BL.lts hB
  exact ⟨a1, a2, a3, h.V.lt⟩
/-- Read, against the text. -/
def RdRef (w : World) (s : ByteArray) (b bi bt vb : Nat) : Value → World → Prop := fun v w' => RV w' b bi bt vb ∧ Same [b, bi, bt] w.heap.size w w' ∧
  ((∃ mb m P, v = rp mb ∧ HM w' w' w.heap.size mb m P ∧ WFP P ∧ zOf s = validV P) ∨ (v = .pointer none ∧ zOf s = (-1, 0, 32)))
theorem Read_ref (h : RV w b bi bt vb) (s : ByteArray) : Runs Try.prog validlaw_Read.id #[.agg #[rp b], .string s] w (RdRef w s b bi bt vb) := by
  obtain ⟨c, hB⟩ := h.B
  obtain ⟨_, _, _, lv⟩ := h.lts
  have n1 := h.n1; have n2 := h.n2; have n3 := h.n3
  refine RunsQ.post (Read_spec hB s) ?_
  rintro v w1 (⟨x, q, mb, m, hd, rfl, B1, H1, S1⟩ | ⟨n, a, c', hd, rfl, B1, S1⟩)
  · obtain ⟨y, hy, E⟩ := decA_again hd sc0
    refine ⟨⟨⟨_, B1⟩, h.V.same S1 lv (by simp; omega), n1, n2, n3⟩, S1, .inl ⟨mb, m, y.2, rfl, H1.eqv E, decA_wf hy, ?_⟩⟩
    unfold zOf; rw [hy]
  · refine ⟨⟨⟨_, B1⟩, h.V.same S1 lv (by simp; omega), n1, n2, n3⟩, S1, .inr ⟨rfl, ?_⟩⟩
    unfold zOf; rw [decA_refused hd sc0]

/-- An answer in memory. -/
structure AnA (w : World) (a : Nat) (e n k : Int) (s : ByteArray) : Prop where
  c0 : w.cell? ⟨a, 0, none⟩ = some (.int .i64 e)
  c1 : w.cell? ⟨a, 1, none⟩ = some (.int .i64 n)
  c2 : w.cell? ⟨a, 2, none⟩ = some (.int .i64 k)
  c3 : w.cell? ⟨a, 3, none⟩ = some (.string s)
  f : ∀ j, w.frozen? ⟨a, j, none⟩ = false
variable {a : Nat} {e n k : Int} {s : ByteArray}
theorem AnA.lt (h : AnA w a e n k s) : a < w.heap.size := cell_lt h.c0
theorem AnA.same (h : AnA w a e n k s) {S : List Nat} {B : Nat} (hs : Same S B w w') (hb : a < B) (hS : a ∉ S) : AnA w' a e n k s :=
  ⟨by rw [hs.cell hb hS]; exact h.c0, by rw [hs.cell hb hS]; exact h.c1, by rw [hs.cell hb hS]; exact h.c2, by rw [hs.cell hb hS]; exact h.c3, fun j => by rw [hs.frozen hb hS]; exact h.f j⟩
theorem AnA.set0 (h : AnA w a e n k s) (x : Int) : AnA (w.setCell ⟨a, 0, none⟩ (.int .i64 x)) a x n k s :=
  ⟨by rw [cell_setCell, if_pos ⟨rfl, rfl⟩, h.c0]; rfl, by rw [cell_setCell, if_neg (by omega)]; exact h.c1, by rw [cell_setCell, if_neg (by omega)]; exact h.c2, by rw [cell_setCell, if_neg (by omega)]; exact h.c3, fun j => by rw [World.frozen?_setCell]; exact h.f j⟩
theorem AnA.set1 (h : AnA w a e n k s) (x : Int) : AnA (w.setCell ⟨a, 1, none⟩ (.int .i64 x)) a e x k s :=
  ⟨by rw [cell_setCell, if_neg (by omega)]; exact h.c0, by rw [cell_setCell, if_pos ⟨rfl, rfl⟩, h.c1]; rfl, by rw [cell_setCell, if_neg (by omega)]; exact h.c2, by rw [cell_setCell, if_neg (by omega)]; exact h.c3, fun j => by rw [World.frozen?_setCell]; exact h.f j⟩
theorem AnA.set2 (h : AnA w a e n k s) (x : Int) : AnA (w.setCell ⟨a, 2, none⟩ (.int .i64 x)) a e n x s :=
  ⟨by rw [cell_setCell, if_neg (by omega)]; exact h.c0, by rw [cell_setCell, if_neg (by omega)]; exact h.c1, by rw [cell_setCell, if_pos ⟨rfl, rfl⟩, h.c2]; rfl, by rw [cell_setCell, if_neg (by omega)]; exact h.c3, fun j => by rw [World.frozen?_setCell]; exact h.f j⟩
theorem AnA.set3 (h : AnA w a e n k s) (x : ByteArray) : AnA (w.setCell ⟨a, 3, none⟩ (.string x)) a e n k x :=
  ⟨by rw [cell_setCell, if_neg (by omega)]; exact h.c0, by rw [cell_setCell, if_neg (by omega)]; exact h.c1, by rw [cell_setCell, if_neg (by omega)]; exact h.c2, by rw [cell_setCell, if_pos ⟨rfl, rfl⟩, h.c3]; rfl, fun j => by rw [World.frozen?_setCell]; exact h.f j⟩
theorem AnA.new (w : World) (t : TypeId) : AnA (w.alloc (.cells #[(.int .i64 0), (.int .i64 0), (.int .i64 0), (.string ⟨#[]⟩)] t)) w.heap.size 0 0 0 ⟨#[]⟩ :=
  ⟨by rw [World.cell?_alloc_new]; rfl, by rw [World.cell?_alloc_new]; rfl, by rw [World.cell?_alloc_new]; rfl, by rw [World.cell?_alloc_new]; rfl, fun j => by rw [World.frozen?_alloc_new]⟩
theorem AnA.cans (h : AnA w a e n k s) (j : Nat) (hj : j < 4) : can w ⟨a, j, none⟩ := by
  have : j = 0 ∨ j = 1 ∨ j = 2 ∨ j = 3 := by omega
  rcases this with rfl | rfl | rfl | rfl
  · exact ⟨⟨_, h.c0⟩, h.f _⟩
  · exact ⟨⟨_, h.c1⟩, h.f _⟩
  · exact ⟨⟨_, h.c2⟩, h.f _⟩
  · exact ⟨⟨_, h.c3⟩, h.f _⟩
theorem AnA.fill (h : AnA w a e n k s) {e' n' k' : Int} {s' : ByteArray} (hF : Fill w w' a 0 [.int .i64 e', .int .i64 n', .int .i64 k', .string s']) : AnA w' a e' n' k' s' :=
  ⟨by rw [hF.cell, if_pos (by simp)]; rfl, by rw [hF.cell, if_pos (by simp)]; rfl, by rw [hF.cell, if_pos (by simp)]; rfl, by rw [hF.cell, if_pos (by simp)]; rfl, fun j => by rw [hF.frozen]; exact h.f j⟩

/-- What one step answers. -/
def ansE (o : OpV) : Int := if o.kind = 1 ∨ o.kind = 3 then (zOf o.s).2.2 else 0
def ansN (o : OpV) : Int := if o.kind = 1 ∨ o.kind = 3 then (zOf o.s).1 else if o.kind = 2 then 1 else 0
def ansM (o : OpV) : Int := if o.kind = 1 ∨ o.kind = 3 then (zOf o.s).2.1 else 0
def DoOk (w : World) (b bi bt vb : Nat) (o : OpV) : Value → World → Prop := fun v w' => v = .agg #[.int .i64 (ansE o), .int .i64 (ansN o), .int .i64 (ansM o), .string ⟨#[]⟩] ∧ RV w' b bi bt vb ∧ Same [b, bi, bt, vb] w.heap.size w w'

theorem Do_spec (h : RV w b bi bt vb) (o : OpV) : Runs Try.prog validlaw_Do.id #[rp vb, .agg #[rp b], o.val] w (DoOk w b bi bt vb o) := by
  refine validlaw_Do.enter _ _ _ _ _ _ _ _ _ _ _ ?_
  unfold validlaw_Do.V
  refine letB_intro fun b9 hb9 => letW_intro fun w10 hw10 => letB_intro fun b11 hb11 => letW_intro fun w12 hw12 => letB_intro fun b13 hb13 => letW_intro fun w14 hw14 => letB_intro fun b15 hb15 => letW_intro fun w16 hw16 => ?_
  have S10 : Same [] w.heap.size w w10 := by rw [hw10]; exact (Same.refl _ _ _).alloc (Nat.le_refl _) _
  have z10 : w10.heap.size = w.heap.size + 1 := by rw [hw10]; simp
  have S12 : Same [] w10.heap.size w10 w12 := by rw [hw12]; exact (Same.refl _ _ _).alloc (Nat.le_refl _) _
  have z12 : w12.heap.size = w10.heap.size + 1 := by rw [hw12]; simp
  have S14 : Same [] w12.heap.size w12 w14 := by rw [hw14]; exact (Same.refl _ _ _).alloc (Nat.le_refl _) _
  have z14 : w14.heap.size = w12.heap.size + 1 := by rw [hw14]; simp
  have S16 : Same [] w14.heap.size w14 w16 := by rw [hw16]; exact (Same.refl _ _ _).alloc (Nat.le_refl _) _
  have z16 : w16.heap.size = w14.heap.size + 1 := by rw [hw16]; simp
  have c9 : w10.cell? ⟨b9, 0, none⟩ = some (rp b) := by rw [hw10, hb9, World.cell?_alloc_new]; rfl
  have O12 : OpAt w12 b11 o := by rw [hw12, hb11]; exact OpAt.new w10 o T_api_Op
  have A14 : AnA w14 b13 0 0 0 ⟨#[]⟩ := by rw [hw14, hb13]; exact AnA.new w12 _
  have A16 : AnA w16 b15 0 0 0 ⟨#[]⟩ := by rw [hw16, hb15]; exact AnA.new w14 _
  clear hw10 hw12 hw14 hw16
  refine putCells_intro b15 _ 0 w16 _ (fun j hj => by rw [Nat.zero_add]; exact A16.cans j hj) (fun w17 hF => ?_)
  have A17 := A16.fill hF
  have S17 : Same [b15] w16.heap.size w16 w17 := hF.same _
  clear hF
  obtain ⟨l1, l2, l3, l4⟩ := h.lts
  have n1 := h.n1; have n2 := h.n2; have n3 := h.n3
  have z17 := S17.size
  have T16 : Same [] w.heap.size w w16 := ((S10.trans (S12.mono (by omega) (by simp))).trans (S14.mono (by omega) (by simp))).trans (S16.mono (by omega) (by simp))
  have T17 : Same [] w.heap.size w w17 := T16.trans (S17.mono (by omega) (fun k hk hl => by simp at hk; omega))
  have h17 := h.keep T17
  have c9' : w17.cell? ⟨b9, 0, none⟩ = some (rp b) := by
    rw [S17.cell (p := ⟨b9, 0, none⟩) (show b9 < _ by omega) (by simp; omega), S16.cell (p := ⟨b9, 0, none⟩) (show b9 < _ by omega) (by simp), S14.cell (p := ⟨b9, 0, none⟩) (show b9 < _ by omega) (by simp), S12.cell (p := ⟨b9, 0, none⟩) (show b9 < _ by omega) (by simp)]; exact c9
  have O17 : OpAt w17 b11 o := ((O12.same S14 (by omega) (by simp)).same S16 (by omega) (by simp)).same S17 (by omega) (by simp; omega)
  have A13 : AnA w17 b13 0 0 0 ⟨#[]⟩ := (A14.same S16 (by omega) (by simp)).same S17 (by omega) (by simp; omega)
  have s0 : Same [b, bi, bt, vb] w.heap.size w w17 := T17.mono (Nat.le_refl _) (by simp)
  -- the answer goes home
  have L1 : ∀ (w1 : World) (e n k : Int), AnA w1 b15 e n k ⟨#[]⟩ → AnA w1 b13 0 0 0 ⟨#[]⟩ → RV w1 b bi bt vb → Same [b, bi, bt, vb] w.heap.size w w1 → e = ansE o → n = ansN o → k = ansM o → validlaw_Do.L1 b13 b15 (DoOk w b bi bt vb o) (fun _ _ => False) w1 := fun w1 e n k A1 B1 R1 S1 he hn hk => by
    refine validlaw_Do.step1 _ _ _ _ _ ?_
    unfold validlaw_Do.V1
    refine ⟨_, _, _, _, A1.c0, A1.c1, A1.c2, A1.c3, putCells_intro b13 _ 0 w1 _ (fun j hj => by rw [Nat.zero_add]; exact B1.cans j hj) (fun w2 hF => ?_)⟩
    have A2 := B1.fill hF
    have S2 : Same [b13] w1.heap.size w1 w2 := hF.same _
    refine ⟨_, _, _, _, A2.c0, A2.c1, A2.c2, A2.c3, by rw [he, hn, hk], ?_, S1.trans (S2.mono S1.size (fun k hk hl => by simp at hk; omega))⟩
    obtain ⟨c, hB⟩ := R1.B
    obtain ⟨q1, q2, q3, q4⟩ := R1.lts
    exact ⟨⟨c, BN.go hB S2 (by simp; omega) (by simp; omega) (by simp; omega)⟩, R1.V.same S2 q4 (by simp; omega), n1, n2, n3⟩
  -- the three cells set
  have fin : ∀ (w1 : World), AnA w1 b15 0 0 0 ⟨#[]⟩ → AnA w1 b13 0 0 0 ⟨#[]⟩ → RV w1 b bi bt vb → Same [b, bi, bt, vb] w.heap.size w w1 → (o.kind = 1 ∨ o.kind = 3) →
      (can w1 ⟨b15, 1, none⟩ ∧ letW (World.setCell w1 ⟨b15, 1, none⟩ (.int .i64 (zOf o.s).1)) fun w29 => (can w29 ⟨b15, 2, none⟩ ∧ letW (World.setCell w29 ⟨b15, 2, none⟩ (.int .i64 (zOf o.s).2.1)) fun w30 => (can w30 ⟨b15, 0, none⟩ ∧ letW (World.setCell w30 ⟨b15, 0, none⟩ (.int .i64 (zOf o.s).2.2)) fun w31 => (validlaw_Do.L1 b13 b15 (DoOk w b bi bt vb o) (fun _ _ => False) w31)))) := fun w1 A1 B1 R1 S1 hk => by
    refine ⟨A1.cans 1 (by decide), letW_intro fun w2 hw2 => ?_⟩
    have A2 := A1.set1 (zOf o.s).1
    rw [← hw2] at A2
    have S2 : Same [b15] w1.heap.size w1 w2 := by rw [hw2]; exact (Same.refl _ _ _).setCell (.inr (by simp)) _
    clear hw2
    refine ⟨A2.cans 2 (by decide), letW_intro fun w3 hw3 => ?_⟩
    have A3 := A2.set2 (zOf o.s).2.1
    rw [← hw3] at A3
    have S3 : Same [b15] w1.heap.size w1 w3 := by rw [hw3]; exact S2.setCell (.inr (by simp)) _
    clear hw3
    refine ⟨A3.cans 0 (by decide), letW_intro fun w4 hw4 => ?_⟩
    have A4 := A3.set0 (zOf o.s).2.2
    rw [← hw4] at A4
    have S4 : Same [b15] w1.heap.size w1 w4 := by rw [hw4]; exact S3.setCell (.inr (by simp)) _
    clear hw4
    obtain ⟨c, hB⟩ := R1.B
    obtain ⟨q1, q2, q3, q4⟩ := R1.lts
    refine L1 w4 _ _ _ A4 (B1.same S4 B1.lt (by simp; omega)) ⟨⟨c, BN.go hB S4 (by simp; omega) (by simp; omega) (by simp; omega)⟩, R1.V.same S4 q4 (by simp; omega), n1, n2, n3⟩ (S1.trans (S4.mono S1.size (fun k hk hl => by simp at hk; omega))) ?_ ?_ ?_
    · unfold ansE; rw [if_pos hk]
    · unfold ansN; rw [if_pos hk]
    · unfold ansM; rw [if_pos hk]
  refine ⟨_, O17.c0, cond_intro (fun h1 => ?_) (fun h1 => ?_)⟩
  · have h1 : o.kind = 1 := eq_of_beq h1
    refine ⟨_, c9', _, O17.c4, RunsQ.post (Read_ref h17 o.s) ?_⟩
    rintro v w22 ⟨R22, S22, hv⟩
    have z22 := S22.size
    have A22 := A17.same S22 A17.lt (by simp; omega)
    have B22 := A13.same S22 A13.lt (by simp; omega)
    have t22 : Same [b, bi, bt, vb] w.heap.size w w22 := s0.trans (S22.mono s0.size (fun k hk _ => by simp at hk ⊢; omega))
    rcases hv with ⟨mb, m, P, rfl, H22, W22, hz⟩ | ⟨rfl, hz⟩
    · refine ⟨_, rfl, RunsQ.post (Validate_vg H22 W22 R22.V (by omega)) ?_⟩
      rintro v w25 ⟨rfl, V25, S25⟩
      refine ⟨_, _, _, rfl, ?_⟩
      rw [← hz]
      obtain ⟨c, hB⟩ := R22.B
      exact fin w25 (A22.same S25 A22.lt (by simp; omega)) (B22.same S25 B22.lt (by simp; omega)) ⟨⟨c, BN.go hB S25 (by simp; omega) (by simp; omega) (by simp; omega)⟩, V25, n1, n2, n3⟩ (t22.trans (S25.mono t22.size (fun k hk _ => by simp at hk ⊢; omega))) (.inl h1)
    · refine ⟨_, rfl, RunsQ.post (Validate_nilG R22.V) ?_⟩
      rintro v w25 ⟨rfl, V25, S25⟩
      refine ⟨_, _, _, rfl, ?_⟩
      obtain ⟨c, hB⟩ := R22.B
      have := fin w25 (A22.same S25 A22.lt (by simp; omega)) (B22.same S25 B22.lt (by simp; omega)) ⟨⟨c, BN.go hB S25 (by simp; omega) (by simp; omega) (by simp; omega)⟩, V25, n1, n2, n3⟩ (t22.trans (S25.mono t22.size (fun k hk _ => by simp at hk ⊢; omega))) (.inl h1)
      rw [hz] at this
      exact this
  have k1 : ¬ o.kind = 1 := by simpa using h1
  refine cond_intro (fun h3 => ?_) (fun h3 => ?_)
  · have h3 : o.kind = 3 := eq_of_beq h3
    refine ⟨_, c9', _, O17.c4, RunsQ.post (Read_ref h17 o.s) ?_⟩
    rintro v w22 ⟨R22, S22, hv⟩
    have z22 := S22.size
    have A22 := A17.same S22 A17.lt (by simp; omega)
    have B22 := A13.same S22 A13.lt (by simp; omega)
    have t22 : Same [b, bi, bt, vb] w.heap.size w w22 := s0.trans (S22.mono s0.size (fun k hk _ => by simp at hk ⊢; omega))
    rcases hv with ⟨mb, m, P, rfl, H22, W22, hz⟩ | ⟨rfl, hz⟩
    · refine ⟨_, rfl, RunsQ.post (Validate_vg H22 W22 R22.V (by omega)) ?_⟩
      rintro v w25 ⟨rfl, V25, S25⟩
      have z25 := S25.size
      have H25 := H22.at1 S25 (by omega)
      have A25 := A22.same S25 A22.lt (by simp; omega)
      have B25 := B22.same S25 B22.lt (by simp; omega)
      obtain ⟨c, hB⟩ := R22.B
      have hB25 := BN.go hB S25 (by simp; omega) (by simp; omega) (by simp; omega)
      have t25 := t22.trans (S25.mono t22.size (fun k hk _ => by simp at hk ⊢; omega))
      refine ⟨_, _, _, rfl, RunsQ.post (Validate_vg H25 W22 V25 (by omega)) ?_⟩
      rintro v w26 ⟨rfl, V26, S26⟩
      refine ⟨_, _, _, rfl, ?_⟩
      rw [← hz]
      exact fin w26 (A25.same S26 A25.lt (by simp; omega)) (B25.same S26 B25.lt (by simp; omega)) ⟨⟨c, BN.go hB25 S26 (by simp; omega) (by simp; omega) (by simp; omega)⟩, V26, n1, n2, n3⟩ (t25.trans (S26.mono t25.size (fun k hk _ => by simp at hk ⊢; omega))) (.inr h3)
    · refine ⟨_, rfl, RunsQ.post (Validate_nilG R22.V) ?_⟩
      rintro v w25 ⟨rfl, V25, S25⟩
      have z25 := S25.size
      have A25 := A22.same S25 A22.lt (by simp; omega)
      have B25 := B22.same S25 B22.lt (by simp; omega)
      obtain ⟨c, hB⟩ := R22.B
      have hB25 := BN.go hB S25 (by simp; omega) (by simp; omega) (by simp; omega)
      have t25 := t22.trans (S25.mono t22.size (fun k hk _ => by simp at hk ⊢; omega))
      refine ⟨_, _, _, rfl, RunsQ.post (Validate_nilG V25) ?_⟩
      rintro v w26 ⟨rfl, V26, S26⟩
      refine ⟨_, _, _, rfl, ?_⟩
      have := fin w26 (A25.same S26 A25.lt (by simp; omega)) (B25.same S26 B25.lt (by simp; omega)) ⟨⟨c, BN.go hB25 S26 (by simp; omega) (by simp; omega) (by simp; omega)⟩, V26, n1, n2, n3⟩ (t25.trans (S26.mono t25.size (fun k hk _ => by simp at hk ⊢; omega))) (.inr h3)
      rw [hz] at this
      exact this
  have k3 : ¬ o.kind = 3 := by simpa using h3
  have nk : ¬ (o.kind = 1 ∨ o.kind = 3) := by omega
  refine cond_intro (fun h2 => ?_) (fun h2 => ?_)
  · have h2 : o.kind = 2 := eq_of_beq h2
    refine RunsQ.post (Check_spec h17.V) ?_
    rintro v w51 ⟨rfl, S51⟩
    refine ⟨_, rfl, cond_true' rfl ?_⟩
    have A51 := A17.same S51 A17.lt (by simp)
    refine ⟨A51.cans 1 (by decide), letW_intro fun w53 hw => ?_⟩
    have A53 := A51.set1 1
    rw [← hw] at A53
    have S53 : Same [b15] w51.heap.size w51 w53 := by rw [hw]; exact (Same.refl _ _ _).setCell (.inr (by simp)) _
    have h51 := h17.keep S51
    obtain ⟨c, hB⟩ := h51.B
    obtain ⟨q1, q2, q3, q4⟩ := h51.lts
    have B51 := A13.same S51 A13.lt (by simp)
    have t51 := s0.trans (S51.mono s0.size (by simp))
    refine L1 w53 _ _ _ A53 (B51.same S53 B51.lt (by simp; omega)) ⟨⟨c, BN.go hB S53 (by simp; omega) (by simp; omega) (by simp; omega)⟩, h51.V.same S53 q4 (by simp; omega), n1, n2, n3⟩ (t51.trans (S53.mono t51.size (fun k hk hl => by simp at hk; omega))) ?_ ?_ ?_
    · unfold ansE; rw [if_neg nk]
    · unfold ansN; rw [if_neg nk, if_pos h2]
    · unfold ansM; rw [if_neg nk]
  have k2 : ¬ o.kind = 2 := by simpa using h2
  have e0 : (0 : Int) = ansE o := by unfold ansE; rw [if_neg nk]
  have n0 : (0 : Int) = ansN o := by unfold ansN; rw [if_neg nk, if_neg k2]
  have m0 : (0 : Int) = ansM o := by unfold ansM; rw [if_neg nk]
  refine cond_intro (fun h4 => ?_) (fun h4 => L1 w17 _ _ _ A17 A13 h17 s0 e0 n0 m0)
  refine RunsQ.post (valid_Valid_Show.pure _ w17) ?_
  rintro v w55 ⟨rfl, rfl⟩
  refine ⟨_, rfl, A17.cans 3 (by decide), letW_intro fun w57 hw => ?_⟩
  have A57 := A17.set3 ⟨#[]⟩
  rw [show World.setCell w55 ⟨b15, 3, none⟩ (.string ⟨#[]⟩) = w57 from hw.symm] at A57
  have S57 : Same [b15] w55.heap.size w55 w57 := by rw [hw]; exact (Same.refl _ _ _).setCell (.inr (by simp)) _
  obtain ⟨c, hB⟩ := h17.B
  obtain ⟨q1, q2, q3, q4⟩ := h17.lts
  exact L1 w57 _ _ _ A57 (A13.same S57 A13.lt (by simp; omega)) ⟨⟨c, BN.go hB S57 (by simp; omega) (by simp; omega) (by simp; omega)⟩, h17.V.same S57 q4 (by simp; omega), n1, n2, n3⟩ (s0.trans (S57.mono s0.size (fun k hk hl => by simp at hk; omega))) e0 n0 m0

theorem mval {wd : World} {L mb : Nat} {m : Nat → Value} {P : PM} (H : HM wd w L mb m P) (W : WFP P) (V : VGAt w vb) (x : Option Addr) : Runs Try.prog validm_Valid_Validate.id #[.pointer x, rp mb] w (VOkG w vb (validV P)) := by
  refine RunsQ.post (mValidate_spec H W x) ?_
  rintro v w2 ⟨rfl, S2⟩
  exact ⟨rfl, V.keep S2, S2.mono (Nat.le_refl _) (by simp)⟩
theorem mnil (V : VGAt w vb) (x : Option Addr) : Runs Try.prog validm_Valid_Validate.id #[.pointer x, .pointer none] w (VOkG w vb (-1, 0, 32)) := by
  refine RunsQ.post (mValidate_nil _ x rfl w) ?_
  rintro v w2 ⟨rfl, S2⟩
  exact ⟨rfl, V.keep S2, S2.mono (Nat.le_refl _) (by simp)⟩
theorem mchk (x : Option Addr) (w : World) : Runs Try.prog validm_Valid_Check.id #[.pointer x] w fun v w' => v = .bool true ∧ Same [] w.heap.size w w' := by
  refine RunsQ.post (validm_Valid_Check.pure x w) ?_
  rintro v w2 ⟨rfl, rfl⟩
  exact ⟨rfl, Same.refl _ _ _⟩

theorem DoM_spec (h : RV w b bi bt vb) (x : Option Addr) (o : OpV) : Runs Try.prog validlaw_DoM.id #[.pointer x, .agg #[rp b], o.val] w (DoOk w b bi bt vb o) := by
  refine validlaw_DoM.enter _ _ _ _ _ _ _ _ _ _ _ ?_
  unfold validlaw_DoM.V
  refine letB_intro fun b9 hb9 => letW_intro fun w10 hw10 => letB_intro fun b11 hb11 => letW_intro fun w12 hw12 => letB_intro fun b13 hb13 => letW_intro fun w14 hw14 => letB_intro fun b15 hb15 => letW_intro fun w16 hw16 => ?_
  have S10 : Same [] w.heap.size w w10 := by rw [hw10]; exact (Same.refl _ _ _).alloc (Nat.le_refl _) _
  have z10 : w10.heap.size = w.heap.size + 1 := by rw [hw10]; simp
  have S12 : Same [] w10.heap.size w10 w12 := by rw [hw12]; exact (Same.refl _ _ _).alloc (Nat.le_refl _) _
  have z12 : w12.heap.size = w10.heap.size + 1 := by rw [hw12]; simp
  have S14 : Same [] w12.heap.size w12 w14 := by rw [hw14]; exact (Same.refl _ _ _).alloc (Nat.le_refl _) _
  have z14 : w14.heap.size = w12.heap.size + 1 := by rw [hw14]; simp
  have S16 : Same [] w14.heap.size w14 w16 := by rw [hw16]; exact (Same.refl _ _ _).alloc (Nat.le_refl _) _
  have z16 : w16.heap.size = w14.heap.size + 1 := by rw [hw16]; simp
  have c9 : w10.cell? ⟨b9, 0, none⟩ = some (rp b) := by rw [hw10, hb9, World.cell?_alloc_new]; rfl
  have O12 : OpAt w12 b11 o := by rw [hw12, hb11]; exact OpAt.new w10 o T_api_Op
  have A14 : AnA w14 b13 0 0 0 ⟨#[]⟩ := by rw [hw14, hb13]; exact AnA.new w12 _
  have A16 : AnA w16 b15 0 0 0 ⟨#[]⟩ := by rw [hw16, hb15]; exact AnA.new w14 _
  clear hw10 hw12 hw14 hw16
  refine putCells_intro b15 _ 0 w16 _ (fun j hj => by rw [Nat.zero_add]; exact A16.cans j hj) (fun w17 hF => ?_)
  have A17 := A16.fill hF
  have S17 : Same [b15] w16.heap.size w16 w17 := hF.same _
  clear hF
  obtain ⟨l1, l2, l3, l4⟩ := h.lts
  have n1 := h.n1; have n2 := h.n2; have n3 := h.n3
  have z17 := S17.size
  have T16 : Same [] w.heap.size w w16 := ((S10.trans (S12.mono (by omega) (by simp))).trans (S14.mono (by omega) (by simp))).trans (S16.mono (by omega) (by simp))
  have T17 : Same [] w.heap.size w w17 := T16.trans (S17.mono (by omega) (fun k hk hl => by simp at hk; omega))
  have h17 := h.keep T17
  have c9' : w17.cell? ⟨b9, 0, none⟩ = some (rp b) := by
    rw [S17.cell (p := ⟨b9, 0, none⟩) (show b9 < _ by omega) (by simp; omega), S16.cell (p := ⟨b9, 0, none⟩) (show b9 < _ by omega) (by simp), S14.cell (p := ⟨b9, 0, none⟩) (show b9 < _ by omega) (by simp), S12.cell (p := ⟨b9, 0, none⟩) (show b9 < _ by omega) (by simp)]; exact c9
  have O17 : OpAt w17 b11 o := ((O12.same S14 (by omega) (by simp)).same S16 (by omega) (by simp)).same S17 (by omega) (by simp; omega)
  have A13 : AnA w17 b13 0 0 0 ⟨#[]⟩ := (A14.same S16 (by omega) (by simp)).same S17 (by omega) (by simp; omega)
  have s0 : Same [b, bi, bt, vb] w.heap.size w w17 := T17.mono (Nat.le_refl _) (by simp)
  -- the answer goes home
  have L1 : ∀ (w1 : World) (e n k : Int), AnA w1 b15 e n k ⟨#[]⟩ → AnA w1 b13 0 0 0 ⟨#[]⟩ → RV w1 b bi bt vb → Same [b, bi, bt, vb] w.heap.size w w1 → e = ansE o → n = ansN o → k = ansM o → validlaw_DoM.L1 b13 b15 (DoOk w b bi bt vb o) (fun _ _ => False) w1 := fun w1 e n k A1 B1 R1 S1 he hn hk => by
    refine validlaw_DoM.step1 _ _ _ _ _ ?_
    unfold validlaw_DoM.V1
    refine ⟨_, _, _, _, A1.c0, A1.c1, A1.c2, A1.c3, putCells_intro b13 _ 0 w1 _ (fun j hj => by rw [Nat.zero_add]; exact B1.cans j hj) (fun w2 hF => ?_)⟩
    have A2 := B1.fill hF
    have S2 : Same [b13] w1.heap.size w1 w2 := hF.same _
    refine ⟨_, _, _, _, A2.c0, A2.c1, A2.c2, A2.c3, by rw [he, hn, hk], ?_, S1.trans (S2.mono S1.size (fun k hk hl => by simp at hk; omega))⟩
    obtain ⟨c, hB⟩ := R1.B
    obtain ⟨q1, q2, q3, q4⟩ := R1.lts
    exact ⟨⟨c, BN.go hB S2 (by simp; omega) (by simp; omega) (by simp; omega)⟩, R1.V.same S2 q4 (by simp; omega), n1, n2, n3⟩
  -- the three cells set
  have fin : ∀ (w1 : World), AnA w1 b15 0 0 0 ⟨#[]⟩ → AnA w1 b13 0 0 0 ⟨#[]⟩ → RV w1 b bi bt vb → Same [b, bi, bt, vb] w.heap.size w w1 → (o.kind = 1 ∨ o.kind = 3) →
      (can w1 ⟨b15, 1, none⟩ ∧ letW (World.setCell w1 ⟨b15, 1, none⟩ (.int .i64 (zOf o.s).1)) fun w29 => (can w29 ⟨b15, 2, none⟩ ∧ letW (World.setCell w29 ⟨b15, 2, none⟩ (.int .i64 (zOf o.s).2.1)) fun w30 => (can w30 ⟨b15, 0, none⟩ ∧ letW (World.setCell w30 ⟨b15, 0, none⟩ (.int .i64 (zOf o.s).2.2)) fun w31 => (validlaw_DoM.L1 b13 b15 (DoOk w b bi bt vb o) (fun _ _ => False) w31)))) := fun w1 A1 B1 R1 S1 hk => by
    refine ⟨A1.cans 1 (by decide), letW_intro fun w2 hw2 => ?_⟩
    have A2 := A1.set1 (zOf o.s).1
    rw [← hw2] at A2
    have S2 : Same [b15] w1.heap.size w1 w2 := by rw [hw2]; exact (Same.refl _ _ _).setCell (.inr (by simp)) _
    clear hw2
    refine ⟨A2.cans 2 (by decide), letW_intro fun w3 hw3 => ?_⟩
    have A3 := A2.set2 (zOf o.s).2.1
    rw [← hw3] at A3
    have S3 : Same [b15] w1.heap.size w1 w3 := by rw [hw3]; exact S2.setCell (.inr (by simp)) _
    clear hw3
    refine ⟨A3.cans 0 (by decide), letW_intro fun w4 hw4 => ?_⟩
    have A4 := A3.set0 (zOf o.s).2.2
    rw [← hw4] at A4
    have S4 : Same [b15] w1.heap.size w1 w4 := by rw [hw4]; exact S3.setCell (.inr (by simp)) _
    clear hw4
    obtain ⟨c, hB⟩ := R1.B
    obtain ⟨q1, q2, q3, q4⟩ := R1.lts
    refine L1 w4 _ _ _ A4 (B1.same S4 B1.lt (by simp; omega)) ⟨⟨c, BN.go hB S4 (by simp; omega) (by simp; omega) (by simp; omega)⟩, R1.V.same S4 q4 (by simp; omega), n1, n2, n3⟩ (S1.trans (S4.mono S1.size (fun k hk hl => by simp at hk; omega))) ?_ ?_ ?_
    · unfold ansE; rw [if_pos hk]
    · unfold ansN; rw [if_pos hk]
    · unfold ansM; rw [if_pos hk]
  refine ⟨_, O17.c0, cond_intro (fun h1 => ?_) (fun h1 => ?_)⟩
  · have h1 : o.kind = 1 := eq_of_beq h1
    refine ⟨_, c9', _, O17.c4, RunsQ.post (Read_ref h17 o.s) ?_⟩
    rintro v w22 ⟨R22, S22, hv⟩
    have z22 := S22.size
    have A22 := A17.same S22 A17.lt (by simp; omega)
    have B22 := A13.same S22 A13.lt (by simp; omega)
    have t22 : Same [b, bi, bt, vb] w.heap.size w w22 := s0.trans (S22.mono s0.size (fun k hk _ => by simp at hk ⊢; omega))
    rcases hv with ⟨mb, m, P, rfl, H22, W22, hz⟩ | ⟨rfl, hz⟩
    · refine ⟨_, rfl, RunsQ.post (mval H22 W22 R22.V x) ?_⟩
      rintro v w25 ⟨rfl, V25, S25⟩
      refine ⟨_, _, _, rfl, ?_⟩
      rw [← hz]
      obtain ⟨c, hB⟩ := R22.B
      exact fin w25 (A22.same S25 A22.lt (by simp; omega)) (B22.same S25 B22.lt (by simp; omega)) ⟨⟨c, BN.go hB S25 (by simp; omega) (by simp; omega) (by simp; omega)⟩, V25, n1, n2, n3⟩ (t22.trans (S25.mono t22.size (fun k hk _ => by simp at hk ⊢; omega))) (.inl h1)
    · refine ⟨_, rfl, RunsQ.post (mnil R22.V x) ?_⟩
      rintro v w25 ⟨rfl, V25, S25⟩
      refine ⟨_, _, _, rfl, ?_⟩
      obtain ⟨c, hB⟩ := R22.B
      have := fin w25 (A22.same S25 A22.lt (by simp; omega)) (B22.same S25 B22.lt (by simp; omega)) ⟨⟨c, BN.go hB S25 (by simp; omega) (by simp; omega) (by simp; omega)⟩, V25, n1, n2, n3⟩ (t22.trans (S25.mono t22.size (fun k hk _ => by simp at hk ⊢; omega))) (.inl h1)
      rw [hz] at this
      exact this
  have k1 : ¬ o.kind = 1 := by simpa using h1
  refine cond_intro (fun h3 => ?_) (fun h3 => ?_)
  · have h3 : o.kind = 3 := eq_of_beq h3
    refine ⟨_, c9', _, O17.c4, RunsQ.post (Read_ref h17 o.s) ?_⟩
    rintro v w22 ⟨R22, S22, hv⟩
    have z22 := S22.size
    have A22 := A17.same S22 A17.lt (by simp; omega)
    have B22 := A13.same S22 A13.lt (by simp; omega)
    have t22 : Same [b, bi, bt, vb] w.heap.size w w22 := s0.trans (S22.mono s0.size (fun k hk _ => by simp at hk ⊢; omega))
    rcases hv with ⟨mb, m, P, rfl, H22, W22, hz⟩ | ⟨rfl, hz⟩
    · refine ⟨_, rfl, RunsQ.post (mval H22 W22 R22.V x) ?_⟩
      rintro v w25 ⟨rfl, V25, S25⟩
      have z25 := S25.size
      have H25 := H22.at1 S25 (by omega)
      have A25 := A22.same S25 A22.lt (by simp; omega)
      have B25 := B22.same S25 B22.lt (by simp; omega)
      obtain ⟨c, hB⟩ := R22.B
      have hB25 := BN.go hB S25 (by simp; omega) (by simp; omega) (by simp; omega)
      have t25 := t22.trans (S25.mono t22.size (fun k hk _ => by simp at hk ⊢; omega))
      refine ⟨_, _, _, rfl, RunsQ.post (mval H25 W22 V25 x) ?_⟩
      rintro v w26 ⟨rfl, V26, S26⟩
      refine ⟨_, _, _, rfl, ?_⟩
      rw [← hz]
      exact fin w26 (A25.same S26 A25.lt (by simp; omega)) (B25.same S26 B25.lt (by simp; omega)) ⟨⟨c, BN.go hB25 S26 (by simp; omega) (by simp; omega) (by simp; omega)⟩, V26, n1, n2, n3⟩ (t25.trans (S26.mono t25.size (fun k hk _ => by simp at hk ⊢; omega))) (.inr h3)
    · refine ⟨_, rfl, RunsQ.post (mnil R22.V x) ?_⟩
      rintro v w25 ⟨rfl, V25, S25⟩
      have z25 := S25.size
      have A25 := A22.same S25 A22.lt (by simp; omega)
      have B25 := B22.same S25 B22.lt (by simp; omega)
      obtain ⟨c, hB⟩ := R22.B
      have hB25 := BN.go hB S25 (by simp; omega) (by simp; omega) (by simp; omega)
      have t25 := t22.trans (S25.mono t22.size (fun k hk _ => by simp at hk ⊢; omega))
      refine ⟨_, _, _, rfl, RunsQ.post (mnil V25 x) ?_⟩
      rintro v w26 ⟨rfl, V26, S26⟩
      refine ⟨_, _, _, rfl, ?_⟩
      have := fin w26 (A25.same S26 A25.lt (by simp; omega)) (B25.same S26 B25.lt (by simp; omega)) ⟨⟨c, BN.go hB25 S26 (by simp; omega) (by simp; omega) (by simp; omega)⟩, V26, n1, n2, n3⟩ (t25.trans (S26.mono t25.size (fun k hk _ => by simp at hk ⊢; omega))) (.inr h3)
      rw [hz] at this
      exact this
  have k3 : ¬ o.kind = 3 := by simpa using h3
  have nk : ¬ (o.kind = 1 ∨ o.kind = 3) := by omega
  refine cond_intro (fun h2 => ?_) (fun h2 => ?_)
  · have h2 : o.kind = 2 := eq_of_beq h2
    refine RunsQ.post (mchk x w17) ?_
    rintro v w51 ⟨rfl, S51⟩
    refine ⟨_, rfl, cond_true' rfl ?_⟩
    have A51 := A17.same S51 A17.lt (by simp)
    refine ⟨A51.cans 1 (by decide), letW_intro fun w53 hw => ?_⟩
    have A53 := A51.set1 1
    rw [← hw] at A53
    have S53 : Same [b15] w51.heap.size w51 w53 := by rw [hw]; exact (Same.refl _ _ _).setCell (.inr (by simp)) _
    have h51 := h17.keep S51
    obtain ⟨c, hB⟩ := h51.B
    obtain ⟨q1, q2, q3, q4⟩ := h51.lts
    have B51 := A13.same S51 A13.lt (by simp)
    have t51 := s0.trans (S51.mono s0.size (by simp))
    refine L1 w53 _ _ _ A53 (B51.same S53 B51.lt (by simp; omega)) ⟨⟨c, BN.go hB S53 (by simp; omega) (by simp; omega) (by simp; omega)⟩, h51.V.same S53 q4 (by simp; omega), n1, n2, n3⟩ (t51.trans (S53.mono t51.size (fun k hk hl => by simp at hk; omega))) ?_ ?_ ?_
    · unfold ansE; rw [if_neg nk]
    · unfold ansN; rw [if_neg nk, if_pos h2]
    · unfold ansM; rw [if_neg nk]
  have k2 : ¬ o.kind = 2 := by simpa using h2
  have e0 : (0 : Int) = ansE o := by unfold ansE; rw [if_neg nk]
  have n0 : (0 : Int) = ansN o := by unfold ansN; rw [if_neg nk, if_neg k2]
  have m0 : (0 : Int) = ansM o := by unfold ansM; rw [if_neg nk]
  refine cond_intro (fun h4 => ?_) (fun h4 => L1 w17 _ _ _ A17 A13 h17 s0 e0 n0 m0)
  refine RunsQ.post (validm_Valid_Show.pure x w17) ?_
  rintro v w55 ⟨rfl, rfl⟩
  refine ⟨_, rfl, A17.cans 3 (by decide), letW_intro fun w57 hw => ?_⟩
  have A57 := A17.set3 ⟨#[]⟩
  rw [show World.setCell w55 ⟨b15, 3, none⟩ (.string ⟨#[]⟩) = w57 from hw.symm] at A57
  have S57 : Same [b15] w55.heap.size w55 w57 := by rw [hw]; exact (Same.refl _ _ _).setCell (.inr (by simp)) _
  obtain ⟨c, hB⟩ := h17.B
  obtain ⟨q1, q2, q3, q4⟩ := h17.lts
  exact L1 w57 _ _ _ A57 (A13.same S57 A13.lt (by simp; omega)) ⟨⟨c, BN.go hB S57 (by simp; omega) (by simp; omega) (by simp; omega)⟩, h17.V.same S57 q4 (by simp; omega), n1, n2, n3⟩ (s0.trans (S57.mono s0.size (fun k hk hl => by simp at hk; omega))) e0 n0 m0
end
end Go.Proofs.Qxb6500322a
