/-
  flatOK and cellsOf.
-/
import Derived.Test.Qxb6500321aKlB
set_option linter.unusedSimpArgs false
set_option linter.unusedVariables false
set_option maxRecDepth 100000
set_option linter.unusedSectionVars false
set_option maxHeartbeats 1000000
namespace Go.Proofs.Qxb6500321a
open Go Go.Vc

theorem kh_all : ((List.range 2).all fun k => (List.range 11).all fun h => decide (api_Keep.F ((k : Int) * 4294967296 + (h : Int)) = (k : Int)) && decide (api_Height.F ((k : Int) * 4294967296 + (h : Int)) = (h : Int))) = true := by kernel_rfl
theorem kh_eq {k h : Nat} {y : Int} (Y : YK k h y) : api_Keep.F y = (k : Int) ∧ api_Height.F y = (h : Int) := by
  obtain ⟨rfl, h1, h2⟩ := Y
  have q := List.all_eq_true.1 (List.all_eq_true.1 kh_all k (List.mem_range.2 (by omega))) h (List.mem_range.2 (by omega))
  simpa using q
theorem rwS_len : ∀ (l : List Ins) (n : Nat), rwS n l = some 0 → n ≤ l.length
  | [], n, h => by
    have h : some n = some 0 := h
    cases h; exact Nat.le_refl _
  | c :: r, n, h => by
    rw [rwS_cons] at h
    split at h
    · rename_i q
      by_cases hn : 0 < n
      · have h225 := q.2 hn
        rw [if_neg (by omega)] at h
        have := rwS_len r (n - 1) h
        simp
        omega
      · omega
    · cases h
theorem flatOK_spec {w : World} {nb c : Nat} {cells : List Ins} (hI : InsRow w nb cells.length (fun q => cells.getD q z0)) (F : FlatA cells) (hl : cells.length ≤ 130) : Runs Try.prog preplaw_flatOK.id #[.slice (some ⟨nb, 0, none⟩) cells.length c] w fun v w' => v = .bool true ∧ Same [] w.heap.size w w' := by
  obtain ⟨m, hm, hlast⟩ := F.n
  have lt := hI.ltn (by omega)
  generalize hR : (fun (v : Value) (w' : World) => v = .bool true ∧ Same [] w.heap.size w w') = R
  refine preplaw_flatOK.enter _ _ _ _ _ _ ?_
  unfold preplaw_flatOK.V
  refine cond_false' (by rw [hm]; simp; omega) ?_
  suffices H : ∀ (k i rows : Nat) (w1 : World), i + k = cells.length → rwS rows (cells.drop i) = some 0 → Same [] w.heap.size w w1 → preplaw_flatOK.L1 (some ⟨nb, 0, none⟩) cells.length c ((cells.length : Nat) : Int) (rows : Int) (i : Int) R (fun _ _ => False) w1 from
    H cells.length 0 0 w (by omega) F.r (Same.refl _ _ _)
  intro k
  induction k with
  | zero =>
    intro i rows w1 hi hr S
    have I := hI.mv S lt (by simp)
    refine preplaw_flatOK.step1 _ _ _ _ _ _ _ _ _ ?_
    unfold preplaw_flatOK.V1
    refine cond_false' (decide_eq_false (by omega)) ?_
    have e1 : IntKind.wrap .i64 (((cells.length : Nat) : Int) - 1) = (m : Int) := by rw [wrap_i64 (by omega) (by omega)]; omega
    have g : cells.getD m z0 = ⟨11, 0, 0⟩ := by rw [List.getD_eq_getElem?_getD, hlast]; rfl
    have a0 := I.i0 m (by omega)
    have a1 := I.i1 m (by omega)
    have a2 := I.i2 m (by omega)
    rw [g] at a0 a1 a2
    rw [e1]
    simp only [nilV_some, add_mk, Nat.zero_add, Int.toNat_natCast]
    refine ⟨⟨by omega, by omega⟩, _, _, _, a0, a1, a2, _, _, eql_ins _ _ _ ⟨11, 0, 0⟩ ⟨11, 0, 0⟩, ?_⟩
    rw [← hR]
    exact ⟨rfl, S⟩
  | succ k ih =>
    intro i rows w1 hi hr S
    have hil : i < cells.length := by omega
    have I := hI.mv S lt (by simp)
    obtain ⟨x, hx⟩ : ∃ x, cells[i]? = some x := ⟨_, List.getElem?_eq_getElem hil⟩
    have g : cells.getD i z0 = x := by rw [List.getD_eq_getElem?_getD, hx]; rfl
    have C := F.c i x hx
    have ed : cells.drop i = x :: cells.drop (i + 1) := by
      rw [List.drop_eq_getElem_cons hil]
      congr 1
      rw [List.getElem?_eq_getElem hil] at hx
      exact Option.some.inj hx
    rw [ed, rwS_cons] at hr
    have hq : (x.op = 225) ↔ (0 < rows) := Decidable.byContradiction (fun hq => by rw [if_neg hq] at hr; cases hr)
    rw [if_pos hq] at hr
    have hrl := rwS_len _ _ hr
    rw [List.length_drop] at hrl
    have hrows : rows ≤ 131 := by
      by_cases q : 0 < rows
      · have := hq.2 q
        rw [if_neg (by omega)] at hrl
        omega
      · omega
    have nxt : ∀ (w2 : World) (rows' : Int), Same [] w.heap.size w w2 → rows' = (((if x.op = 14 then x.x.toNat else rows - 1) : Nat) : Int) → preplaw_flatOK.L4 (some ⟨nb, 0, none⟩) cells.length c ((cells.length : Nat) : Int) rows' (i : Int) R (fun _ _ => False) w2 := fun w2 rows' S2 er => by
      refine preplaw_flatOK.step4 _ _ _ _ _ _ _ _ _ ?_
      unfold preplaw_flatOK.V4
      rw [wrap_i64 (by omega) (by omega), show (i : Int) + 1 = ((i + 1 : Nat) : Int) by omega, er]
      exact ih (i + 1) _ w2 (by omega) hr S2
    clear ih
    refine preplaw_flatOK.step1 _ _ _ _ _ _ _ _ _ ?_
    unfold preplaw_flatOK.V1
    have a0 := I.i0 i hil
    have a1 := I.i1 i hil
    have a2 := I.i2 i hil
    rw [g] at a0 a1 a2
    simp only [nilV_some, add_mk, Nat.zero_add, Int.toNat_natCast]
    refine cond_true' (decide_eq_true (by omega)) ⟨⟨by omega, by omega⟩, _, _, _, a0, a1, a2, newIns (i := x) fun cb w2 hcb I2 S12 => ?_⟩
    have S2 := S.nx S12
    -- from the second label on
    have L7 : ∀ (kk : Nat), x.op ≠ 14 → (x.x ≤ (i : Int) → kk = 0) → 0 ≤ x.x → x.x < (cells.length : Int) → preplaw_flatOK.L7 (some ⟨nb, 0, none⟩) cells.length c ((cells.length : Nat) : Int) ((rows - 1 : Nat) : Int) (i : Int) cb (kk : Int) R (fun _ _ => False) w2 := fun kk h14 h0 h1 h2 => by
      have fin := nxt w2 ((rows - 1 : Nat) : Int) S2 (by rw [if_neg h14])
      refine preplaw_flatOK.step7 _ _ _ _ _ _ _ _ _ _ _ ?_
      unfold preplaw_flatOK.V7
      refine ⟨_, I2.c1, ?_⟩
      rw [wrap_i64 (by omega) (by omega)]
      refine cond_intro (fun q => cond_false' ?_ fin) (fun _ => fin)
      rw [h0 (of_decide_eq_true q)]
      rfl
    have L6 : ∀ (b : Bool), b = decide (x.op = 12 ∨ x.op = 13 ∨ x.op = 225) → x.op ≠ 14 → preplaw_flatOK.L6 (some ⟨nb, 0, none⟩) cells.length c ((cells.length : Nat) : Int) ((rows - 1 : Nat) : Int) (i : Int) cb b R (fun _ _ => False) w2 := fun b eb h14 => by
      refine preplaw_flatOK.step6 _ _ _ _ _ _ _ _ _ _ _ ?_
      unfold preplaw_flatOK.V6
      refine cond_intro (fun q => ?_) (fun q => nxt w2 _ S2 (by rw [if_neg h14]))
      obtain ⟨x0, x1, kk, h, Y, hk⟩ := C.b (of_decide_eq_true (eb ▸ q))
      obtain ⟨e1, e2⟩ := kh_eq Y
      have Y1 := Y.2.1; have Y2 := Y.2.2
      refine ⟨_, I2.c2, RunsQ.post (api_Keep.pure _ _) ?_⟩
      rintro v w3 ⟨rfl, rfl⟩
      refine ⟨_, rfl, _, I2.c2, RunsQ.post (api_Height.pure _ _) ?_⟩
      rintro v w4 ⟨rfl, rfl⟩
      refine ⟨_, rfl, _, I2.c1, ?_⟩
      rw [e1, e2, wrap_i64 (by omega) (by omega)]
      exact cond_false' (decide_eq_false (by omega)) (cond_false' (decide_eq_false (by omega)) (cond_false' (decide_eq_false (by omega)) (cond_false' (decide_eq_false (by omega)) (L7 kk h14 hk x0 x1))))
    have L5 : ∀ (b : Bool), b = decide (x.op = 4 ∨ x.op = 224) → x.op ≠ 14 → preplaw_flatOK.L5 (some ⟨nb, 0, none⟩) cells.length c ((cells.length : Nat) : Int) ((rows - 1 : Nat) : Int) (i : Int) cb x.op b R (fun _ _ => False) w2 := fun b eb h14 => by
      refine preplaw_flatOK.step5 _ _ _ _ _ _ _ _ _ _ _ _ ?_
      unfold preplaw_flatOK.V5
      refine cond_intro (fun q => ?_) (fun q => ?_)
      · obtain ⟨f1, f2, f3⟩ := C.f (of_decide_eq_true (eb ▸ q))
        refine ⟨_, I2.c1, ?_⟩
        rw [wrap_i64 (by omega) (by omega)]
        refine cond_false' (decide_eq_false (by omega)) ⟨_, I2.c1, ?_⟩
        rw [wrap_i64 (by omega) (by omega)]
        refine cond_false' (decide_eq_false (by omega)) ⟨_, I2.c2, cond_false' (by rw [f3]; rfl) (nxt w2 _ S2 (by rw [if_neg h14]))⟩
      · refine cond_intro (fun e => L6 true ?_ h14) (fun e12 => cond_intro (fun e => L6 true ?_ h14) (fun e13 => L6 _ ?_ h14))
        · have := eq_of_beq e; rw [decide_eq_true (by omega)]
        · have := eq_of_beq e; rw [decide_eq_true (by omega)]
        · have e12 : ¬ x.op = 12 := by simpa using e12
          have e13 : ¬ x.op = 13 := by simpa using e13
          by_cases q : x.op = 225
          · rw [decide_eq_true (by omega), q]; rfl
          · rw [decide_eq_false (by omega)]; simpa using q
    have L3 : ∀ (b : Bool), b = false → preplaw_flatOK.L3 (some ⟨nb, 0, none⟩) cells.length c ((cells.length : Nat) : Int) ((rows - 1 : Nat) : Int) (i : Int) cb x.op b R (fun _ _ => False) w2 := fun b eb => by
      refine preplaw_flatOK.step3 _ _ _ _ _ _ _ _ _ _ _ _ ?_
      unfold preplaw_flatOK.V3
      refine cond_false' eb (cond_intro (fun e => ?_) (fun e11 => cond_intro (fun e => ?_) (fun e14 => ?_)))
      · have e : x.op = 11 := eq_of_beq e
        have := C.e e
        rw [wrap_i64 (by omega) (by omega)]
        exact cond_false' (by rw [show ((cells.length : Nat) : Int) - 1 = (i : Int) by omega]; simp) (nxt w2 _ S2 (by rw [if_neg (by omega)]))
      · have e : x.op = 14 := eq_of_beq e
        have := C.t e
        rw [if_pos e] at hrl
        refine ⟨_, I2.c1, ?_⟩
        rw [wrap_i64 (by omega) (by omega)]
        exact cond_false' (decide_eq_false (by omega)) (nxt w2 _ S2 (by rw [if_pos e]; omega))
      · have e14 : ¬ x.op = 14 := by simpa using e14
        refine cond_intro (fun e => L5 true ?_ e14) (fun e4 => L5 _ ?_ e14)
        · have := eq_of_beq e; rw [decide_eq_true (by omega)]
        · have e4 : ¬ x.op = 4 := by simpa using e4
          by_cases q : x.op = 224
          · rw [decide_eq_true (by omega), q]; rfl
          · rw [decide_eq_false (by omega)]; simpa using q
    have L2 : preplaw_flatOK.L2 (some ⟨nb, 0, none⟩) cells.length c ((cells.length : Nat) : Int) ((rows - 1 : Nat) : Int) (i : Int) cb R (fun _ _ => False) w2 := by
      refine preplaw_flatOK.step2 _ _ _ _ _ _ _ _ _ _ ?_
      unfold preplaw_flatOK.V2
      have hm := C.m
      refine ⟨_, I2.c0, cond_false' (by simp; omega) (cond_false' (by simp; omega) (L3 _ (by simp; omega)))⟩
    refine ⟨_, I2.c0, cond_false' ?_ (cond_intro (fun q => ?_) (fun q => ?_))⟩
    · by_cases q : x.op = 225
      · have := hq.1 q
        rw [q, decide_eq_true (by omega)]; rfl
      · have : ¬ 0 < rows := fun z => q (hq.2 z)
        rw [decide_eq_false (by omega), show (x.op == (225 : Int)) = false by simpa using q]; rfl
    · have q := of_decide_eq_true q
      rw [wrap_i64 (by omega) (by omega), show (rows : Int) - 1 = ((rows - 1 : Nat) : Int) by omega]
      exact L2
    · have q := of_decide_eq_false q
      rw [show (rows : Int) = ((rows - 1 : Nat) : Int) by omega]
      exact L2
/-! ### How many cells -/
def cntP (x : Ins) (d : Nat) : Nat × Nat :=
  if x.op = 2 ∨ x.op = 3 ∨ x.op = 4 then (if 0 < d then (0, d + 1) else (if x.op = 4 then 1 else 0, 0))
  else if x.op = 11 then (0, d - 1)
  else if x.op = 5 then (if d = 0 then (1, 0) else if d = 1 then (0, 0) else (0, d))
  else if x.op = 12 ∨ x.op = 15 ∨ x.op = 0 then (if d = 0 then (1, 1) else (0, d))
  else if x.op = 14 then (if d = 0 then (1 + x.y.toNat, 1) else (0, d))
  else (if d = 0 then (1, 0) else (0, d))
theorem cnt_step {B : BD} {i : Nat} {S S' : SS} (h : stepS B i S = some S') (hf : S'.fs ≠ []) : S'.A.length = S.A.length + (cntP (B.ins i) S.dead).1 ∧ S'.dead = (cntP (B.ins i) S.dead).2 := by
  generalize hX : B.ins i = X at *
  unfold cntP
  unfold stepS at h
  rw [hX] at h
  by_cases hk : (skipP X.op S.dead).1 = true
  · rw [if_pos hk] at h
    cases h
    unfold skipP at hk ⊢
    by_cases h0 : S.dead = 0
    · rw [if_pos h0] at hk; cases hk
    rw [if_neg h0] at hk ⊢
    by_cases c2 : X.op = 2 ∨ X.op = 3 ∨ X.op = 4
    · rw [if_pos c2, if_pos c2, if_pos (by omega)]
      exact ⟨rfl, rfl⟩
    rw [if_neg c2] at hk ⊢
    rw [if_neg c2]
    by_cases c5 : X.op = 5
    · rw [if_pos c5] at hk ⊢
      have := of_decide_eq_true hk
      rw [if_neg (by omega), if_pos c5, if_neg (by omega), if_neg (by omega)]
      exact ⟨rfl, rfl⟩
    rw [if_neg c5] at hk ⊢
    by_cases c11 : X.op = 11
    · rw [if_pos c11] at hk ⊢
      by_cases d1 : S.dead = 1
      · rw [if_pos d1] at hk; cases hk
      rw [if_neg d1, if_pos c11]
      exact ⟨rfl, rfl⟩
    rw [if_neg c11, if_neg c11, if_neg c5]
    by_cases c12 : X.op = 12 ∨ X.op = 15 ∨ X.op = 0
    · rw [if_pos c12, if_neg h0]; exact ⟨rfl, rfl⟩
    rw [if_neg c12]
    by_cases c14 : X.op = 14
    · rw [if_pos c14, if_neg h0]; exact ⟨rfl, rfl⟩
    · rw [if_neg c14, if_neg h0]; exact ⟨rfl, rfl⟩
  rw [if_neg hk] at h
  have d1 : S.dead ≤ 1 := by
    unfold skipP at hk
    by_cases h0 : S.dead = 0
    · omega
    · rw [if_neg h0] at hk
      by_cases c2 : X.op = 2 ∨ X.op = 3 ∨ X.op = 4
      · rw [if_pos c2] at hk; exact absurd rfl hk
      rw [if_neg c2] at hk
      by_cases c5 : X.op = 5
      · rw [if_pos c5] at hk
        have : ¬ 1 < S.dead := fun q => hk (decide_eq_true q)
        omega
      rw [if_neg c5] at hk
      by_cases c11 : X.op = 11
      · rw [if_pos c11] at hk
        by_cases d1 : S.dead = 1
        · omega
        · rw [if_neg d1] at hk; exact absurd rfl hk
      · rw [if_neg c11] at hk; exact absurd rfl hk
  have live : X.op ≠ 5 → X.op ≠ 11 → S.dead = 0 := fun q5 q11 => by
    unfold skipP at hk
    by_cases h0 : S.dead = 0
    · exact h0
    · rw [if_neg h0] at hk
      exfalso
      apply hk
      by_cases c2 : X.op = 2 ∨ X.op = 3 ∨ X.op = 4
      · rw [if_pos c2]
      · rw [if_neg c2, if_neg q5, if_neg q11]
  obtain ⟨f, r, hfs⟩ : ∃ f r, S.fs = f :: r := by
    cases hS : S.fs with
    | cons f r => exact ⟨f, r, rfl⟩
    | nil =>
      exfalso
      unfold liveS at h
      by_cases c15 : X.op = 15
      · rw [if_neg (by omega), if_neg (by omega), if_neg (by omega), if_neg (by omega), if_neg (by omega), if_pos c15] at h
        cases h
        exact hf hS
      · revert h
        unfold openS turnS shutS brS tabS plainS
        rw [hS]
        dsimp only
        repeat' split
        all_goals first
          | (intro h; cases h; done)
          | (intro h; omega)
          | (intro h; contradiction)
  unfold liveS at h
  by_cases c2 : X.op = 2 ∨ X.op = 3 ∨ X.op = 4
  · have h0 := live (by omega) (by omega)
    rw [if_pos c2, openS_eq hfs] at h
    rw [if_pos c2, if_neg (by omega)]
    split at h
    · cases h
    · split at h
      · rename_i h4
        split at h
        · cases h
        · cases h; rw [if_pos h4]; exact ⟨by simp, h0⟩
      · rename_i h4
        cases h; rw [if_neg h4]; exact ⟨rfl, h0⟩
  rw [if_neg c2] at h
  rw [if_neg c2]
  by_cases c5 : X.op = 5
  · rw [if_pos c5, turnS_eq hfs] at h
    rw [if_neg (by omega), if_pos c5]
    split at h
    · cases h
    · split at h
      · cases h
      · cases h
        show (turnA S f).length = _ ∧ 0 = _
        unfold turnA
        by_cases h0 : S.dead = 0
        · rw [if_pos h0, if_pos h0]; exact ⟨by simp, rfl⟩
        · rw [if_neg h0, if_neg h0, if_pos (by omega)]; exact ⟨rfl, rfl⟩
  rw [if_neg c5] at h
  by_cases c11 : X.op = 11
  · rw [if_pos c11, shutS_eq hfs] at h
    rw [if_pos c11]
    by_cases q1 : S.dead = 0 ∧ S.h ≠ f.fl + f.ar
    · rw [if_pos q1] at h; cases h
    rw [if_neg q1] at h
    by_cases q2 : 10 < f.fl + f.ar
    · rw [if_pos q2] at h; cases h
    rw [if_neg q2] at h
    dsimp only at h
    by_cases q3 : r.length = 0 ∧ i + 1 ≠ B.n
    · rw [if_pos q3] at h; cases h
    rw [if_neg q3] at h
    cases h
    have hr : r.length ≠ 0 := fun z => hf (List.length_eq_zero_iff.1 z)
    dsimp only
    rw [if_neg hr]
    exact ⟨rfl, by omega⟩
  rw [if_neg c11] at h
  have h0 := live c5 c11
  rw [if_neg c11, if_neg c5]
  by_cases c12 : X.op = 12 ∨ X.op = 13
  · rw [if_pos c12] at h
    cases hg : S.fs[X.x.toNat]? with
    | none => rw [brS_none hfs hg] at h; cases h
    | some g =>
      rw [brS_eq hfs hg] at h
      by_cases q : S.h < f.fl + (if X.op = 13 then 1 else 0)
      · rw [if_pos q] at h; cases h
      rw [if_neg q] at h
      cases h
      by_cases e12 : X.op = 12
      · rw [if_pos (show X.op = 12 ∨ X.op = 15 ∨ X.op = 0 by omega), if_pos h0]
        exact ⟨by simp, by dsimp only; rw [if_pos e12]⟩
      · rw [if_neg (show ¬ (X.op = 12 ∨ X.op = 15 ∨ X.op = 0) by omega), if_neg (show ¬ X.op = 14 by omega), if_pos h0]
        exact ⟨by simp, by dsimp only; rw [if_neg e12]; exact h0⟩
  rw [if_neg c12] at h
  by_cases c14 : X.op = 14
  · rw [if_pos c14, tabS_eq hfs] at h
    rw [if_neg (by omega), if_pos c14, if_pos h0]
    split at h
    · cases h
    · split at h
      · cases h
      · rename_i cs hcs
        cases h
        have := rowsS_len _ _ _ _ hcs
        exact ⟨by simp [this]; omega, rfl⟩
  rw [if_neg c14] at h
  by_cases c15 : X.op = 15
  · rw [if_pos c15] at h
    rw [if_pos (by omega), if_pos h0]
    cases h
    exact ⟨by simp [retS], rfl⟩
  rw [if_neg c15] at h
  cases he : B.ef X with
  | none => rw [plainS_none hfs he] at h; cases h
  | some tg =>
    obtain ⟨t, gv⟩ := tg
    rw [plainS_eq hfs he] at h
    by_cases q : S.h < f.fl + t ∨ 10 + t < S.h + gv
    · rw [if_pos q] at h; cases h
    rw [if_neg q] at h
    cases h
    by_cases e0 : X.op = 0
    · rw [if_pos (show X.op = 12 ∨ X.op = 15 ∨ X.op = 0 by omega), if_pos h0]
      exact ⟨by simp, by dsimp only; rw [if_pos e0]⟩
    · rw [if_neg (show ¬ (X.op = 12 ∨ X.op = 15 ∨ X.op = 0) by omega), if_neg c14, if_pos h0]
      exact ⟨by simp, by dsimp only; rw [if_neg e0]; exact h0⟩
end Go.Proofs.Qxb6500321a
