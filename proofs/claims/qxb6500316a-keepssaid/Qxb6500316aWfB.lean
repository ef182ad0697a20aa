/-
  The walk of body.
-/
import Derived.Test.Qxb6500316aWfA
set_option linter.unusedSimpArgs false
set_option linter.unusedVariables false
set_option maxRecDepth 100000
namespace Go.Proofs.Qxb6500316a
open Go Go.Vc

/-- A function's four cells. -/
structure FnC (w : World) (fb o : Nat) (f : FnP) : Prop where
  c0 : w.cell? ⟨fb, o, none⟩ = some (.int .i64 f.ty)
  c1 : w.cell? ⟨fb, o + 1, none⟩ = some (.string (strOfNums f.ls))
  c2 : ∃ nb, w.cell? ⟨fb, o + 2, none⟩ = some (.slice (some ⟨nb, 0, none⟩) f.nI f.nI) ∧ nb < w.heap.size ∧ InsRow w nb f.nI f.ins
  c3 : ∃ ta, w.cell? ⟨fb, o + 3, none⟩ = some (.slice ta f.nTab f.nTab)
theorem FnRow.fnC {w : World} {base fb n : Nat} {F : Nat → FnP} (h : FnRow w base fb n n F) (j : Nat) (hj : j < n) : FnC w fb (j * 4) (F j) := by
  refine ⟨h.c0 j hj, h.c1 j hj, ?_, ?_⟩
  · obtain ⟨nb, h1, h2, _, h4, _⟩ := h.c2 j hj
    exact ⟨nb, h1, h4, h2⟩
  · rcases h.c3 j hj with ⟨e0, e1⟩ | ⟨_, tk, e1, _⟩
    · exact ⟨none, by rw [e1, e0]⟩
    · exact ⟨_, e1⟩
structure MayAt (w : World) (b : Nat) (may : Nat → Bool) : Prop where
  c : ∀ j, j < 6 → w.cell? ⟨b, j, none⟩ = some (.bool (may j))
  f : ∀ j, w.frozen? ⟨b, j, none⟩ = false
theorem MayAt.lt {w : World} {b : Nat} {may : Nat → Bool} (h : MayAt w b may) : b < w.heap.size := cell_lt (h.c 0 (by decide))
theorem MayAt.same {w w' : World} {b : Nat} {may : Nat → Bool} (h : MayAt w b may) {S : List Nat} {B : Nat} (hs : Same S B w w') (hb : b < B) (hS : b ∉ S) : MayAt w' b may :=
  ⟨fun j hj => by rw [hs.cell hb hS]; exact h.c j hj, fun j => by rw [hs.frozen hb hS]; exact h.f j⟩
theorem MayAt.set {w : World} {b : Nat} {may : Nat → Bool} (h : MayAt w b may) (d : Nat) (v : Bool) : MayAt (w.setCell ⟨b, d, none⟩ (.bool v)) b (upd may d v) := by
  refine ⟨fun j hj => ?_, fun j => by rw [World.frozen?_setCell]; exact h.f j⟩
  rw [cell_setCell]
  unfold upd
  by_cases hd : j = d
  · subst hd; rw [if_pos ⟨rfl, rfl⟩, if_pos rfl, h.c j hj]; rfl
  · rw [if_neg (by omega), if_neg hd]; exact h.c j hj

theorem wbody_loop {w0 : World} {fb o : Nat} {f : FnP} (hf : FnC w0 fb o f) (B : FnB f) {mb : Nat} (hmb : w0.heap.size ≤ mb) :
    ∀ (k i d : Nat) (may : Nat → Bool) (u : Nat) (w : World), i + k = f.nI → wfGo f.ins f.nI f.nTab k i d may u → d ≤ 6 → u ≤ f.nTab → Same [] w0.heap.size w0 w → MayAt w mb may → binlaw_body.L2 (some ⟨fb, o, none⟩) mb (d : Int) (u : Int) (i : Int) (Yes w0) (fun _ _ => False) w := by
  obtain ⟨nb, c2, lnb, row⟩ := hf.c2
  obtain ⟨ta, c3⟩ := hf.c3
  have lf : fb < w0.heap.size := cell_lt c2
  have hnI := B.nI; have hnT := B.nT
  intro k
  induction k with
  | zero => intro i d may u w _ h; exact h.elim
  | succ k ih =>
    intro i d may u w hi h hd hu S M
    haveI := outNil
    have cc : ∀ {w : World}, Same [] w0.heap.size w0 w → w.cell? ⟨fb, o + 2, none⟩ = some (.slice (some ⟨nb, 0, none⟩) f.nI f.nI) := fun S => (S.cell (p := ⟨fb, o + 2, none⟩) lf (by simp)).trans c2
    have cd : ∀ {w : World}, Same [] w0.heap.size w0 w → w.cell? ⟨fb, o + 3, none⟩ = some (.slice ta f.nTab f.nTab) := fun S => (S.cell (p := ⟨fb, o + 3, none⟩) lf (by simp)).trans c3
    have rw' := row.same S lnb (by simp)
    have hin := B.ins i (by omega)
    have n5 : ∀ (d' u' : Nat) (may' : Nat → Bool) (w' : World) (uI dI : Int), uI = (u' : Int) → dI = (d' : Int) → wfGo f.ins f.nI f.nTab k (i + 1) d' may' u' → d' ≤ 6 → u' ≤ f.nTab → Same [] w0.heap.size w0 w' → MayAt w' mb may' → binlaw_body.L5 (some ⟨fb, o, none⟩) mb dI uI (i : Int) (Yes w0) (fun _ _ => False) w' := by
      intro d' u' may' w' uI dI eu ed h' hd' hu' S' M'
      subst eu ed
      refine binlaw_body.step5 _ _ _ _ _ _ _ _ ?_
      unfold binlaw_body.V5
      rw [nx i (by omega)]
      exact ih (i + 1) d' may' u' w' (by omega) h' hd' hu' S' M'
    rw [wfGo_succ] at h
    refine binlaw_body.step2 _ _ _ _ _ _ _ _ ?_
    unfold binlaw_body.V2
    simp only [nilV_some]
    refine ⟨_, _, _, cc S, cond_true' (decide_eq_true (by omega)) ⟨_, _, _, cc S, by omega, ?_⟩⟩
    simp only [nilV_some, add_mk, Nat.zero_add, Int.toNat_natCast]
    refine ⟨_, _, _, rw'.i0 i (by omega), rw'.i1 i (by omega), rw'.i2 i (by omega), letB_intro fun xb hxb => letW_intro fun w1 hw1 => ?_⟩
    have I1 : InsAt w1 xb ⟨0, 0, 0⟩ := by rw [hw1, hxb]; exact InsAt.new w _
    have S1 : Same [] w.heap.size w w1 := by rw [hw1]; exact (Same.refl _ _ _).alloc (Nat.le_refl _) _
    have z1 : w1.heap.size = w.heap.size + 1 := by rw [hw1]; simp
    clear hw1
    have lm := M.lt
    have szw := S.size
    refine I1.put_intro (i' := f.ins i) (fun w2 I2 S2 => ?_)
    have T2 : Same [] w.heap.size w w2 := S1.trans ((S2 w.heap.size).mono (Nat.le_refl _) (by intro k hk hl; simp at hk; omega))
    have S02 := Same.more (B := 0) S T2
    have M2 := M.same T2 M.lt (by simp)
    have lx : mb < xb := by omega
    refine ⟨_, I2.c0, cond_intro (fun g => ?_) (fun g => ?_)⟩
    · have g : (f.ins i).op = 14 := by simpa using g
      rw [if_pos g] at h
      obtain ⟨hx, hy1, hy2, h⟩ := h
      have ex : IntKind.wrap .i64 (f.ins i).x = (f.ins i).x := wrap_i64 (by have := hin.x0; omega) (by have := hin.x1; omega)
      have e2 : IntKind.wrap .u64 (IntKind.wrap .i64 (((f.nTab : Nat) : Int) - (u : Int))) = (f.nTab : Int) - u := by rw [wrap_i64 (by omega) (by omega), wrap_u64 (by omega) (by omega)]
      simp only [true_and]
      refine ⟨_, I2.c1, ?_⟩
      rw [ex, hx]
      refine cond_false' (by simp) ⟨_, I2.c2, cond_false' (decide_eq_false (by omega)) ⟨_, I2.c2, ?_⟩⟩
      try simp only [nilV_some]
      refine ⟨_, _, _, cd S02.drew, ?_⟩
      rw [e2]
      refine cond_false' (decide_eq_false (by omega)) ?_
      refine binlaw_body.step3 _ _ _ _ _ _ _ _ _ ?_
      unfold binlaw_body.V3
      refine ⟨_, I2.c2, n5 d (u + (f.ins i).y.toNat) may w2.drew _ _ ?_ rfl h hd (by omega) S02.drew ⟨M2.c, M2.f⟩⟩
      rw [wrap_i64 (x := (f.ins i).y) (by omega) (by omega), wrap_i64 (by omega) (by omega)]; omega
    · have g : (f.ins i).op ≠ 14 := by simpa using g
      rw [if_neg g] at h
      obtain ⟨hp, h⟩ := h
      refine ⟨_, _, _, I2.c0, I2.c1, I2.c2, RunsQ.post (plain_yes (f.ins i) ⟨hin.o0, hin.o1⟩ hp w2) ?_⟩
      rintro v w3 ⟨rfl, S3⟩
      have I3 := I2.same S3 I2.lt (by simp)
      have S03 := Same.more (B := 0) S02 S3
      have M3 := M2.same S3 M2.lt (by simp)
      refine ⟨_, rfl, cond_false' rfl ⟨_, I3.c0, ?_⟩⟩
      refine cor2 (P := fun t => binlaw_body.L4 (some ⟨fb, o, none⟩) mb (d : Int) (u : Int) (i : Int) xb (f.ins i).op t _ _ w3) (fun h => cor2 (P := fun t => binlaw_body.L4 (some ⟨fb, o, none⟩) mb (d : Int) (u : Int) (i : Int) xb (f.ins i).op t _ _ w3) id h) ?_
      refine binlaw_body.step4 _ _ _ _ _ _ _ _ _ _ _ ?_
      unfold binlaw_body.V4
      refine cond_intro (fun gb => ?_) (fun gb => ?_)
      · have gb : (f.ins i).op = 2 ∨ (f.ins i).op = 3 ∨ (f.ins i).op = 4 := by simpa [Bool.or_eq_true] using gb
        rw [if_pos gb] at h
        obtain ⟨hd6, h⟩ := h
        refine cond_false' (decide_eq_false (by omega)) ⟨_, I3.c0, by omega, ?_⟩
        simp only [add_mk, Nat.zero_add, Int.toNat_natCast, Nat.mul_one]
        refine ⟨⟨⟨_, M3.c d hd6⟩, M3.f d⟩, letW_intro fun w4 hw4 => ?_⟩
        have M4 : MayAt w4 mb (upd may d ((f.ins i).op == 4)) := by rw [hw4]; exact M3.set d _
        have S4 : Same [mb] w3.heap.size w3 w4 := by rw [hw4]; exact same_set d _
        exact n5 (d + 1) u _ w4 _ _ rfl (nx d (by omega)) h (by omega) hu (S03.trans (S4.mono S03.size (by intro k hk hl; simp at hk; omega))) M4
      · have gb : ¬((f.ins i).op = 2 ∨ (f.ins i).op = 3 ∨ (f.ins i).op = 4) := by simpa [Bool.or_eq_false_iff] using gb
        rw [if_neg gb] at h
        refine cond_intro (fun g5 => ?_) (fun g5 => ?_)
        · have g5 : (f.ins i).op = 5 := by simpa using g5
          rw [if_pos g5] at h
          obtain ⟨hd0, hm, h⟩ := h
          have ed : IntKind.wrap .i64 ((d : Int) - 1) = ((d - 1 : Nat) : Int) := by rw [wrap_i64 (by omega) (by omega)]; omega
          rw [ed]
          refine cond_false' (by rw [beq_eq_false_iff_ne]; omega) ⟨by omega, ?_⟩
          simp only [add_mk, Nat.zero_add, Int.toNat_natCast, Nat.mul_one]
          refine ⟨_, M3.c (d - 1) (by omega), cond_false' (by rw [hm]; rfl) ?_⟩
          refine binlaw_body.step6 _ _ _ _ _ _ _ _ ?_
          unfold binlaw_body.V6
          rw [ed]
          refine ⟨by omega, ?_⟩
          simp only [add_mk, Nat.zero_add, Int.toNat_natCast, Nat.mul_one]
          refine ⟨⟨⟨_, M3.c (d - 1) (by omega)⟩, M3.f _⟩, letW_intro fun w4 hw4 => ?_⟩
          have M4 : MayAt w4 mb (upd may (d - 1) false) := by rw [hw4]; exact M3.set (d - 1) _
          have S4 : Same [mb] w3.heap.size w3 w4 := by rw [hw4]; exact same_set (d - 1) _
          exact n5 d u _ w4 _ _ rfl rfl h hd hu (S03.trans (S4.mono S03.size (by intro k hk hl; simp at hk; omega))) M4
        · have g5 : (f.ins i).op ≠ 5 := by simpa using g5
          rw [if_neg g5] at h
          refine cond_intro (fun g11 => ?_) (fun g11 => ?_)
          · have g11 : (f.ins i).op = 11 := by simpa using g11
            rw [if_pos g11] at h
            by_cases hd0 : d = 0
            · rw [if_pos hd0] at h
              obtain ⟨h1, h2⟩ := h
              subst hd0
              refine cond_true' rfl ?_
              try simp only [nilV_some]
              have e : IntKind.wrap .i64 (((f.nI : Nat) : Int) - 1) = (i : Int) := by rw [wrap_i64 (by omega) (by omega)]; omega
              refine ⟨_, _, _, cc S03, cond_true' (by rw [e]; exact beq_self_eq_true _) ⟨_, _, _, cd S03, ?_, S03⟩⟩
              rw [h2, beq_self_eq_true]
            · rw [if_neg hd0] at h
              refine cond_false' (by rw [beq_eq_false_iff_ne]; omega) ?_
              exact n5 (d - 1) u may w3 _ _ rfl (by rw [wrap_i64 (by omega) (by omega)]; omega) h (by omega) hu S03 M3
          · have g11 : (f.ins i).op ≠ 11 := by simpa using g11
            rw [if_neg g11] at h
            exact n5 d u may w3 _ _ rfl rfl h hd hu S03 M3
theorem body_yes {w : World} {fb o : Nat} {f : FnP} (hf : FnC w fb o f) (F : FnWF f) : Runs Try.prog binlaw_body.id #[.pointer (some ⟨fb, o, none⟩)] w (Yes w) := by
  obtain ⟨nb, c2, lnb, row⟩ := hf.c2
  obtain ⟨ta, c3⟩ := hf.c3
  have lf : fb < w.heap.size := cell_lt c2
  have hnI := F.b.nI; have hnT := F.b.nT; have n0 := F.n0
  refine binlaw_body.enter _ _ _ _ ?_
  unfold binlaw_body.V
  simp only [nilV_some]
  refine ⟨_, hf.c1, RunsQ.post (vals_yes _ 6 6 rfl (by decide) F.ls w) ?_⟩
  rintro v w1 ⟨rfl, S1⟩
  refine ⟨_, rfl, cond_false' rfl ⟨_, (S1.cell (p := ⟨fb, o, none⟩) lf (by simp)).trans hf.c0, RunsQ.post (u32ok_yes _ ⟨F.b.t0, F.b.t1⟩ w1) ?_⟩⟩
  rintro v w2 ⟨rfl, S2⟩
  have T2 := Same.more (B := 0) S1 S2
  have d2 := (T2.cell (p := ⟨fb, o + 2, none⟩) lf (by simp)).trans c2
  have d3 := (T2.cell (p := ⟨fb, o + 3, none⟩) lf (by simp)).trans c3
  refine ⟨_, rfl, cond_false' rfl ⟨_, _, _, d2, cond_false' (decide_eq_false (by omega)) ⟨_, _, _, d2, cond_false' (decide_eq_false (by omega)) ⟨_, _, _, d3, cond_false' (decide_eq_false (by omega)) ?_⟩⟩⟩⟩
  refine binlaw_body.step1 _ _ _ _ ?_
  unfold binlaw_body.V1
  refine letB_intro fun mb hmb => letW_intro fun w3 hw3 => ?_
  have S3 : Same [] w2.heap.size w2 w3 := by rw [hw3]; exact (Same.refl _ _ _).alloc (Nat.le_refl _) _
  have M3 : MayAt w3 mb (fun _ => false) := by
    refine ⟨fun j hj => ?_, fun j => by rw [hw3, hmb, World.frozen?_alloc_new]⟩
    rw [hw3, hmb, World.cell?_alloc_new]
    have : j = 0 ∨ j = 1 ∨ j = 2 ∨ j = 3 ∨ j = 4 ∨ j = 5 := by omega
    rcases this with rfl | rfl | rfl | rfl | rfl | rfl <;> rfl
  have sz := T2.size
  exact wbody_loop hf F.b (by omega) f.nI 0 0 _ 0 w3 (by omega) F.go (by decide) (Nat.zero_le _) (Same.more (B := 0) T2 S3) M3

end Go.Proofs.Qxb6500316a
