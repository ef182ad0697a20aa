/-
  cellsOf, WellFlat, placed.
-/
import Derived.Test.Qxb6500321aKlC
set_option linter.unusedSimpArgs false
set_option linter.unusedVariables false
set_option maxRecDepth 100000
set_option linter.unusedSectionVars false
set_option maxHeartbeats 1000000
namespace Go.Proofs.Qxb6500321a
open Go Go.Vc

theorem cellsOf_spec {P : PM} {w : World} {fb kf nb bc tc res : Nat} {ta : Option Addr} {D : BD} (wb : WB P w fb kf nb bc ta tc D) (hres : res ≤ 1) {Sn : SS} (hn : trS D res D.n = some Sn) (hf0 : Sn.fs = []) :
    Runs Try.prog preplaw_cellsOf.id #[.pointer (some ⟨fb, kf * 4, none⟩)] w fun v w' => v = .int .i64 ((Sn.A.length : Nat) : Int) ∧ Same [] w.heap.size w w' := by
  have n1 := wb.n1; have n9 := wb.n9
  have hef : ∀ x : Ins, D.ef x ≠ none → x.op ≠ 224 ∧ x.op ≠ 225 := fun x hx => ef_ops P x (by rw [← wb.ef]; exact hx)
  generalize hR : (fun (v : Value) (w' : World) => v = .int .i64 ((Sn.A.length : Nat) : Int) ∧ Same [] w.heap.size w w') = R
  refine preplaw_cellsOf.enter _ _ _ _ ?_
  unfold preplaw_cellsOf.V
  suffices H : ∀ (k i : Nat) (S : SS) (w1 : World), i + k + 1 = D.n → trS D res i = some S → Same [] w.heap.size w w1 → preplaw_cellsOf.L1 (some ⟨fb, kf * 4, none⟩) ((S.A.length + 1 : Nat) : Int) (S.dead : Int) (i : Int) R (fun _ _ => False) w1 from
    H (D.n - 1) 0 (initS res) w (by omega) rfl (Same.refl _ _ _)
  intro k
  induction k with
  | zero =>
    intro i S w1 hi hS S1
    have b1 := wb.keep S1
    have hn' := hn
    rw [show D.n = i + 1 by omega, trS_succ hS] at hn'
    have pi := pi_tr wb.go (by omega) wb.okB i S (by omega) hS
    have hne : S.fs ≠ [] := by
      rcases pi.W with ⟨e, _⟩ | ⟨q, _⟩
      · omega
      · exact q
    have eA := (fin_step (ti_tr wb.go hres wb.okB hef i S (by omega) hS) hne hn' hf0).1
    refine preplaw_cellsOf.step1 _ _ _ _ _ _ _ ?_
    unfold preplaw_cellsOf.V1
    simp only [nilV_some]
    refine ⟨_, _, _, b1.c2, ?_⟩
    rw [wrap_i64 (by omega) (by omega)]
    refine cond_false' (decide_eq_false (by omega)) ?_
    rw [← hR]
    refine ⟨?_, S1⟩
    rw [eA]
    simp
  | succ k ih =>
    intro i S w1 hi hS S1
    have hil : i < D.n := by omega
    have b1 := wb.keep S1
    obtain ⟨S', hS'⟩ := trS_pre (D.n - (i + 1)) (i + 1) (show trS D res _ = some Sn by rw [show i + 1 + (D.n - (i + 1)) = D.n by omega]; exact hn)
    have pi := pi_tr wb.go (by omega) wb.okB i S (by omega) hS
    have pi' := pi_tr wb.go (by omega) wb.okB (i + 1) S' (by omega) hS'
    have hne : S'.fs ≠ [] := by
      rcases pi'.W with ⟨e, _⟩ | ⟨q, _⟩
      · omega
      · exact q
    have hst := hS'
    rw [trS_succ hS] at hst
    obtain ⟨e1, e2⟩ := cnt_step hst hne
    obtain ⟨p, RIp⟩ := pi.R
    obtain ⟨p', RIp'⟩ := pi'.R
    have hd := RIp.dd
    have hd' := RIp'.dd
    have hl := pi.l
    have hl' := pi'.l
    have q1 := wsum_mono D (D.n - i) i
    have q2 := wsum_mono D (D.n - (i + 1)) (i + 1)
    rw [show i + (D.n - i) = D.n by omega] at q1
    rw [show i + 1 + (D.n - (i + 1)) = D.n by omega] at q2
    have hws := wb.ws
    obtain ⟨o0, o1, x0, x1, y0, y1⟩ := wb.xs i hil
    have nxt : ∀ (w2 : World) (n' d' : Int), Same [] w.heap.size w w2 → n' = ((S'.A.length + 1 : Nat) : Int) → d' = (S'.dead : Int) → preplaw_cellsOf.L3 (some ⟨fb, kf * 4, none⟩) n' d' (i : Int) R (fun _ _ => False) w2 := fun w2 n' d' S2 en ed => by
      refine preplaw_cellsOf.step3 _ _ _ _ _ _ _ ?_
      unfold preplaw_cellsOf.V3
      rw [wrap_i64 (by omega) (by omega), show (i : Int) + 1 = ((i + 1 : Nat) : Int) by omega, en, ed]
      exact ih (i + 1) S' w2 (by omega) hS' S2
    clear ih
    refine preplaw_cellsOf.step1 _ _ _ _ _ _ _ ?_
    unfold preplaw_cellsOf.V1
    simp only [nilV_some]
    refine ⟨_, _, _, b1.c2, ?_⟩
    rw [wrap_i64 (by omega) (by omega)]
    refine cond_true' (decide_eq_true (by omega)) ⟨_, _, _, b1.c2, ⟨by omega, by omega⟩, ?_⟩
    rw [nilV_some]
    simp only [add_mk, Nat.zero_add, Int.toNat_natCast]
    refine ⟨_, _, _, b1.I.i0 i hil, b1.I.i1 i hil, b1.I.i2 i hil, newIns (i := D.ins i) fun xb w2 hxb I2 S12 => ?_⟩
    have S2 := S1.nx S12
    generalize hX : D.ins i = X at *
    unfold cntP at e1 e2
    have L4 : ∀ b : Bool, b = decide (X.op = 12 ∨ X.op = 15 ∨ X.op = 0) → ¬ (X.op = 2 ∨ X.op = 3 ∨ X.op = 4) → ¬ X.op = 11 → ¬ X.op = 5 → preplaw_cellsOf.L4 (some ⟨fb, kf * 4, none⟩) ((S.A.length + 1 : Nat) : Int) (S.dead : Int) (i : Int) xb X.op b R (fun _ _ => False) w2 := fun b eb c2 c11 c5 => by
      rw [if_neg c2, if_neg c11, if_neg c5] at e1 e2
      refine preplaw_cellsOf.step4 _ _ _ _ _ _ _ _ _ _ ?_
      unfold preplaw_cellsOf.V4
      have ew : IntKind.wrap .i64 (((S.A.length + 1 : Nat) : Int) + 1) = ((S.A.length + 1 + 1 : Nat) : Int) := by rw [wrap_i64 (by omega) (by omega)]; omega
      refine cond_intro (fun q => ?_) (fun q => ?_)
      · have q := of_decide_eq_true (eb ▸ q)
        rw [if_pos q] at e1 e2
        refine cond_intro (fun z => ?_) (fun z => ?_)
        · have z : S.dead = 0 := by have := eq_of_beq z; omega
          rw [if_pos z] at e1 e2
          rw [ew]
          exact nxt w2 _ _ S2 (by rw [e1]) (by rw [e2]; rfl)
        · have z : ¬ S.dead = 0 := by rintro q; rw [q] at z; cases z
          rw [if_neg z] at e1 e2
          exact nxt w2 _ _ S2 (by rw [e1]; rfl) (by rw [e2])
      have q := of_decide_eq_false (eb ▸ q)
      rw [if_neg q] at e1 e2
      refine cond_intro (fun q14 => ?_) (fun q14 => ?_)
      · have q14 : X.op = 14 := eq_of_beq q14
        rw [if_pos q14] at e1 e2
        refine cond_intro (fun z => ⟨_, I2.c2, ?_⟩) (fun z => ?_)
        · have z : S.dead = 0 := by have := eq_of_beq z; omega
          rw [if_pos z] at e1 e2
          dsimp only at e1 e2
          rw [ew, wrap_i64 (x := X.y) (by omega) (by omega), wrap_i64 (by omega) (by omega)]
          exact nxt w2 _ _ S2 (by omega) (by rw [e2]; rfl)
        · have z : ¬ S.dead = 0 := by rintro q; rw [q] at z; cases z
          rw [if_neg z] at e1 e2
          exact nxt w2 _ _ S2 (by rw [e1]; rfl) (by rw [e2])
      · have q14 : ¬ X.op = 14 := by simpa using q14
        rw [if_neg q14] at e1 e2
        refine cond_intro (fun z => ?_) (fun z => ?_)
        · have z : S.dead = 0 := by have := eq_of_beq z; omega
          rw [if_pos z] at e1 e2
          rw [ew]
          exact nxt w2 _ _ S2 (by rw [e1]) (by rw [e2, z])
        · have z : ¬ S.dead = 0 := by rintro q; rw [q] at z; cases z
          rw [if_neg z] at e1 e2
          exact nxt w2 _ _ S2 (by rw [e1]; rfl) (by rw [e2])
    have L2 : ∀ b : Bool, b = decide (X.op = 2 ∨ X.op = 3 ∨ X.op = 4) → preplaw_cellsOf.L2 (some ⟨fb, kf * 4, none⟩) ((S.A.length + 1 : Nat) : Int) (S.dead : Int) (i : Int) xb X.op b R (fun _ _ => False) w2 := fun b eb => by
      refine preplaw_cellsOf.step2 _ _ _ _ _ _ _ _ _ _ ?_
      unfold preplaw_cellsOf.V2
      have ew : IntKind.wrap .i64 (((S.A.length + 1 : Nat) : Int) + 1) = ((S.A.length + 1 + 1 : Nat) : Int) := by rw [wrap_i64 (by omega) (by omega)]; omega
      refine cond_intro (fun q => ?_) (fun q => ?_)
      · have q := of_decide_eq_true (eb ▸ q)
        rw [if_pos q] at e1 e2
        refine cond_intro (fun z => ?_) (fun z => ⟨_, I2.c0, ?_⟩)
        · have z := of_decide_eq_true z
          rw [if_pos (by omega)] at e1 e2
          rw [wrap_i64 (by omega) (by omega)]
          exact nxt w2 _ _ S2 (by rw [e1]; rfl) (by rw [e2]; rfl)
        · have z := of_decide_eq_false z
          rw [if_neg (by omega)] at e1 e2
          dsimp only at e1 e2
          refine cond_intro (fun q4 => ?_) (fun q4 => ?_)
          · have q4 : X.op = 4 := eq_of_beq q4
            rw [if_pos q4] at e1
            rw [ew]
            exact nxt w2 _ _ S2 (by rw [e1]) (by omega)
          · have q4 : ¬ X.op = 4 := by simpa using q4
            rw [if_neg q4] at e1
            exact nxt w2 _ _ S2 (by omega) (by omega)
      have c2 := of_decide_eq_false (eb ▸ q)
      refine cond_intro (fun q11 => ?_) (fun q11 => ?_)
      · have q11 : X.op = 11 := eq_of_beq q11
        rw [if_neg c2, if_pos q11] at e1 e2
        dsimp only at e1 e2
        refine cond_intro (fun z => ?_) (fun z => ?_)
        · have z := of_decide_eq_true z
          rw [wrap_i64 (by omega) (by omega)]
          exact nxt w2 _ _ S2 (by omega) (by omega)
        · have z := of_decide_eq_false z
          exact nxt w2 _ _ S2 (by omega) (by omega)
      have c11 : ¬ X.op = 11 := by simpa using q11
      refine cond_intro (fun q5 => ?_) (fun q5 => ?_)
      · have q5 : X.op = 5 := eq_of_beq q5
        rw [if_neg c2, if_neg c11, if_pos q5] at e1 e2
        refine cond_intro (fun z => ?_) (fun z => cond_intro (fun z1 => ?_) (fun z1 => ?_))
        · have z : S.dead = 0 := by have := eq_of_beq z; omega
          rw [if_pos z] at e1 e2
          rw [ew]
          exact nxt w2 _ _ S2 (by rw [e1]) (by rw [e2, z])
        · have z : ¬ S.dead = 0 := by rintro q; rw [q] at z; cases z
          have z1 : S.dead = 1 := by have := eq_of_beq z1; omega
          rw [if_neg z, if_pos z1] at e1 e2
          exact nxt w2 _ _ S2 (by rw [e1]; rfl) (by rw [e2]; rfl)
        · have z : ¬ S.dead = 0 := by rintro q; rw [q] at z; cases z
          have z1 : ¬ S.dead = 1 := by rintro q; rw [q] at z1; cases z1
          rw [if_neg z, if_neg z1] at e1 e2
          exact nxt w2 _ _ S2 (by rw [e1]; rfl) (by rw [e2])
      have c5 : ¬ X.op = 5 := by simpa using q5
      refine cond_intro (fun e => L4 true ?_ c2 c11 c5) (fun e12 => cond_intro (fun e => L4 true ?_ c2 c11 c5) (fun e15 => L4 _ ?_ c2 c11 c5))
      · have := eq_of_beq e; rw [decide_eq_true (by omega)]
      · have := eq_of_beq e; rw [decide_eq_true (by omega)]
      · have e12 : ¬ X.op = 12 := by simpa using e12
        have e15 : ¬ X.op = 15 := by simpa using e15
        by_cases q : X.op = 0
        · rw [decide_eq_true (by omega), q]; rfl
        · rw [decide_eq_false (by omega)]; simpa using q
    refine ⟨_, I2.c0, cond_intro (fun e => L2 true ?_) (fun e2' => cond_intro (fun e => L2 true ?_) (fun e3 => L2 _ ?_))⟩
    · have := eq_of_beq e; rw [decide_eq_true (by omega)]
    · have := eq_of_beq e; rw [decide_eq_true (by omega)]
    · have e2' : ¬ X.op = 2 := by simpa using e2'
      have e3 : ¬ X.op = 3 := by simpa using e3
      by_cases q : X.op = 4
      · rw [decide_eq_true (by omega), q]; rfl
      · rw [decide_eq_false (by omega)]; simpa using q
/-! ### What was compiled -/
theorem compG_get {P : PM} : ∀ (n k : Nat) (acc fs : List FF), acc.length = k → compG P n k acc = .inr fs → ∀ (j : Nat) (f : FF), fs[j]? = some f → acc[j]? = some f ∨ (k ≤ j ∧ compF P j = .inr f)
  | 0, k, acc, fs, hl, h, j, f, hf => by
    have h : Sum.inr acc = Sum.inr fs := h
    cases h
    exact .inl hf
  | n + 1, k, acc, fs, hl, h, j, f, hf => by
    rw [compG_succ] at h
    cases hc : compF P k with
    | inl e => rw [hc] at h; cases h
    | inr g =>
      rw [hc] at h
      rcases compG_get n (k + 1) (acc ++ [g]) fs (by simp [hl]) h j f hf with q | ⟨q1, q2⟩
      · rcases app_get2 q with q | ⟨q1, q2⟩
        · exact .inl q
        · right
          have : j - acc.length = 0 := by
            cases hz : j - acc.length with
            | zero => rfl
            | succ z => rw [hz] at q2; cases q2
          rw [this] at q2
          have q2 : some g = some f := q2
          cases q2
          have : j = k := by omega
          subst this
          exact ⟨Nat.le_refl _, hc⟩
      · exact .inr ⟨by omega, q2⟩
theorem comp_get {P : PM} {fs : List FF} (h : comp P = .inr fs) {j : Nat} {f : FF} (hf : fs[j]? = some f) : compF P j = .inr f := by
  rcases compG_get P.nf 0 [] fs rfl h j f hf with q | ⟨_, q⟩
  · cases q
  · exact q
theorem goS_at {B : BD} : ∀ (k i : Nat) (S : SS) (a : Nat), goS B k i S = .inl a → i ≤ a ∧ a ≤ i + k
  | 0, i, S, a, h => by
    have h : (if S.fs.length = 0 then Sum.inr S else Sum.inl i) = Sum.inl a := h
    split at h
    · cases h
    · cases h; omega
  | k + 1, i, S, a, h => by
    rw [goS_succ] at h
    split at h
    · cases h; omega
    · have := goS_at k (i + 1) _ a h; omega
theorem compG_err {P : PM} : ∀ (n k : Nat) (acc : List FF) (e : Nat × Nat), k + n = P.nf → compG P n k acc = .inl e → e.1 < P.nf ∧ e.2 ≤ (P.fn e.1).nI
  | 0, k, acc, e, hk, h => by
    have h : Sum.inr acc = Sum.inl e := h
    cases h
  | n + 1, k, acc, e, hk, h => by
    rw [compG_succ] at h
    cases hc : compF P k with
    | inr g => rw [hc] at h; exact compG_err n (k + 1) _ e (by omega) h
    | inl e' =>
      rw [hc] at h
      cases h
      unfold compF at hc
      split at hc
      · cases hc; exact ⟨by dsimp only; omega, Nat.zero_le _⟩
      · split at hc
        · rename_i hgo
          cases hc
          have := goS_at _ _ _ _ hgo
          exact ⟨by dsimp only; omega, by dsimp only; omega⟩
        · cases hc
section
variable {wd w w' : World} {L mb : Nat} {m : Nat → Value} {P : PM}
theorem placed_nil : Runs Try.prog preplaw_placed.id #[.pointer none, .pointer none, .int .i64 (-1), .int .i64 0, .int .i64 32] w fun v w' => v = .bool true ∧ w' = w := by
  refine preplaw_placed.enter _ _ _ _ _ _ _ _ ?_
  unfold preplaw_placed.V
  exact cond_true' rfl (cond_true' rfl (cond_true' rfl (cond_true' rfl ⟨rfl, rfl⟩)))
theorem placed_ok (H : HM wd w L mb m P) (a : Addr) : Runs Try.prog preplaw_placed.id #[rp mb, .pointer (some a), .int .i64 (P.nf : Int), .int .i64 0, .int .i64 0] w fun v w' => v = .bool true ∧ w' = w := by
  obtain ⟨t, c2, _⟩ := H.fn
  refine preplaw_placed.enter _ _ _ _ _ _ _ _ ?_
  unfold preplaw_placed.V
  refine cond_false' rfl (cond_true' rfl (cond_true' rfl ?_))
  simp only [nilV_some, Nat.zero_add]
  refine ⟨_, _, _, c2, cond_true' (by simp) ?_⟩
  exact ⟨rfl, by trivial⟩
theorem placed_err (H : HM wd w L mb m P) {k at_ : Nat} (hk : k < P.nf) (ha : at_ ≤ (P.fn k).nI) : Runs Try.prog preplaw_placed.id #[rp mb, .pointer none, .int .i64 (k : Int), .int .i64 (at_ : Int), .int .i64 29] w fun v w' => v = .bool true ∧ w' = w := by
  obtain ⟨tb, row, c2⟩ := H.row (by omega)
  obtain ⟨nb, d2, _⟩ := (row w H).c2 k hk
  refine preplaw_placed.enter _ _ _ _ _ _ _ _ ?_
  unfold preplaw_placed.V
  refine cond_false' rfl (cond_false' rfl (cond_false' rfl (cond_false' rfl (cond_false' (decide_eq_false (by omega)) ?_))))
  simp only [nilV_some, Nat.zero_add]
  refine ⟨_, _, _, c2 w H, cond_false' (decide_eq_false (by omega)) ?_⟩
  refine preplaw_placed.step1 _ _ _ _ _ _ ?_
  unfold preplaw_placed.V1
  simp only [nilV_some, Nat.zero_add]
  refine cond_true' (decide_eq_true (by omega)) ⟨_, _, _, c2 w H, ⟨by omega, by omega⟩, ?_⟩
  rw [nilV_some]
  simp only [add_mk, Nat.zero_add, Int.toNat_natCast]
  exact ⟨_, _, _, d2, by rw [decide_eq_true (show (at_ : Int) ≤ (((P.fn k).nI : Nat) : Int) by omega)], by trivial⟩
theorem WellFlat_spec (H : HM wd w L mb m P) (W : WFP P) {fs : List FF} (hc : comp P = .inr fs) {base cdb : Nat} (cd : CdAt w base cdb fs) : Runs Try.prog preplaw_WellFlat.id #[rp mb, rp cdb] w fun v w' => v = .bool true ∧ Same [] w.heap.size w w' := by
  have B := W.pb
  have bnf := B.nf; have bim := B.nIm
  obtain ⟨o1, o2, o3⟩ := comp_ok W hc
  generalize hR : (fun (v : Value) (w' : World) => v = .bool true ∧ Same [] w.heap.size w w') = R
  refine preplaw_WellFlat.enter _ _ _ _ _ ?_
  unfold preplaw_WellFlat.V
  have cc : ∀ w1, Same [] w.heap.size w w1 → ∃ fa, w1.cell? ⟨cdb, 0, none⟩ = some (.slice fa fs.length fs.length) := fun w1 S1 => by
    have cd1 := cd.same S1 (Nat.le_refl _) (by simp)
    rcases cd1 with ⟨h1, h2, _⟩ | ⟨_, fb, h2⟩
    · exact ⟨none, by rw [h2, h1]; rfl⟩
    · exact ⟨_, h2.c0⟩
  have Sd : Same [] w.heap.size w w.drew := (Same.refl _ _ _).drew
  obtain ⟨fa0, cc0⟩ := cc _ Sd
  obtain ⟨t0, ct0, _⟩ := (H.keep Sd).fn
  simp only [true_and, nilV_some, Nat.zero_add]
  refine ⟨_, _, _, cc0, _, _, _, ct0, cond_false' (by rw [o1]; simp) ?_⟩
  suffices HH : ∀ (n k : Nat) (w1 : World), k + n = P.nf → Same [] w.heap.size w w1 → preplaw_WellFlat.L1 (some ⟨mb, 0, none⟩) (some ⟨cdb, 0, none⟩) (k : Int) R (fun _ _ => False) w1 from HH P.nf 0 _ (by omega) Sd
  intro n
  induction n with
  | zero =>
    intro k w1 hk S1
    obtain ⟨fa, c1⟩ := cc _ S1
    refine preplaw_WellFlat.step1 _ _ _ _ _ _ ?_
    unfold preplaw_WellFlat.V1
    simp only [nilV_some]
    refine ⟨_, _, _, c1, cond_false' (decide_eq_false (by omega)) ?_⟩
    rw [← hR]
    exact ⟨rfl, S1⟩
  | succ n ih =>
    intro k w1 hk S1
    have hkn : k < P.nf := by omega
    have H1 := H.keep S1
    have cd1 := cd.same S1 (Nat.le_refl _) (by simp)
    rcases cd1 with ⟨h1, _⟩ | ⟨_, fb, h2⟩
    · rw [h1] at o1; simp at o1; omega
    obtain ⟨f, hf⟩ : ∃ f, fs[k]? = some f := ⟨_, List.getElem?_eq_getElem (by omega)⟩
    have hcf := comp_get hc hf
    obtain ⟨tb, row, c2⟩ := H1.row (by omega)
    obtain ⟨ai, ci, _⟩ := H1.im
    have hB := B.fn k hkn
    have hFW := W.fn k hkn
    unfold compF at hcf
    cases ht : typeOf P ((P.nIm + k : Nat) : Int) with
    | none => rw [ht] at hcf; cases hcf
    | some t =>
      rw [ht] at hcf
      dsimp only at hcf
      cases hgo : goS (bdOf P (P.fn k)) (P.fn k).nI 0 (initS (splitP t).2.size) with
      | inl a => rw [hgo] at hcf; cases hcf
      | inr S =>
        rw [hgo] at hcf
        have hcf : Sum.inr _ = Sum.inr f := hcf
        injection hcf with hcf
        have hsz := typeOf_size B ht
        have hs1 : (splitP t).1.size ≤ 1024 := Nat.le_trans (splitF_size t t.size 0).1 hsz
        have hs2 : (splitP t).2.size ≤ 1 := by
          unfold typeOf typeAt at ht
          split at ht
          · cases ht
          · rename_i q
            injection ht with ht
            rw [← ht]
            exact (W.ty _ (by omega)).2.2.1
        obtain ⟨tr1, tr2⟩ := go_tr (B := bdOf P (P.fn k)) (P.fn k).nI 0 _ S rfl hgo
        rw [Nat.zero_add] at tr1
        have tr2 : S.fs = [] := List.length_eq_zero_iff.1 tr2
        have bo : BOkB (bdOf P (P.fn k)) := ⟨fun i hi => (hB.ins i hi).x0, fun j hj => (hB.tabs j hj).1⟩
        have hef : ∀ x : Ins, (bdOf P (P.fn k)).ef x ≠ none → x.op ≠ 224 ∧ x.op ≠ 225 := fun x hx => ef_ops P x hx
        have FO := flat_out (B := bdOf P (P.fn k)) hFW.go hs2 bo hef hFW.n0 tr1 tr2
        have K := o3 k f hf
        have kcl := K.cl
        refine preplaw_WellFlat.step1 _ _ _ _ _ _ ?_
        unfold preplaw_WellFlat.V1
        simp only [true_and, nilV_some, Nat.zero_add]
        refine ⟨_, _, _, h2.c0, cond_true' (decide_eq_true (by omega)) ⟨_, _, _, h2.c0, ⟨by omega, by omega⟩, ?_⟩⟩
        rw [nilV_some]
        simp only [add_mk, Nat.zero_add, Int.toNat_natCast]
        have ew : IntKind.wrap .i64 ((P.nIm : Int) + (k : Int)) = ((P.nIm + k : Nat) : Int) := by rw [wrap_i64 (by omega) (by omega)]; omega
        refine ⟨_, _, _, ci, ?_⟩
        rw [ew]
        refine RunsQ.post (TypeOf_spec H1 B _ (by omega) (by omega)) ?_
        rintro v w2 ⟨rfl, S12⟩
        rw [ht]
        refine ⟨_, _, rfl, RunsQ.post (Split_spec t hsz w2) ?_⟩
        rintro v w3 ⟨rfl, S23⟩
        have S14 : Same [] w1.heap.size w1 w3.drew := (S12.nx S23).drew
        have S4 := S1.nx S14
        have H4 := H.keep S4
        have h4 := h2.same S14 (Nat.le_refl _) (by simp)
        obtain ⟨a1, a2, a3, nb, a4, a5, _⟩ := h4.r0 k f hf
        have e1 := (row _ H4).c1 k hkn
        refine ⟨_, _, rfl, cond_false' rfl ⟨_, a1, cond_false' (by rw [← hcf]; simp) ⟨_, a3, cond_false' (by rw [← hcf]; simp) ⟨_, a2, _, _, _, c2 _ H4, ⟨by omega, by omega⟩, ?_⟩⟩⟩⟩
        rw [nilV_some]
        simp only [add_mk, Nat.zero_add]
        have ls6 := hB.ls
        refine ⟨_, e1, ?_⟩
        rw [wrap_i64 (by omega) (by omega)]
        refine cond_false' (by rw [← hcf]; simp) ?_
        refine preplaw_WellFlat.step2 _ _ _ _ _ _ _ ?_
        unfold preplaw_WellFlat.V2
        simp only [nilV_some, Nat.zero_add]
        refine ⟨_, _, _, a4, RunsQ.post (flatOK_spec a5 (by rw [← hcf]; exact FO) kcl) ?_⟩
        rintro v w5 ⟨rfl, S45⟩
        have S5 := S4.nx S45
        have H5 := H.keep S5
        obtain ⟨nb', ta, tc, wb⟩ := wb_of W (row _ H5) hkn
        refine ⟨_, rfl, cond_false' rfl ⟨_, _, _, c2 _ H5, ⟨by omega, by omega⟩, ?_⟩⟩
        rw [nilV_some]
        simp only [add_mk, Nat.zero_add, Int.toNat_natCast]
        refine RunsQ.post (cellsOf_spec wb hs2 tr1 tr2) ?_
        rintro v w6 ⟨rfl, S56⟩
        have S6 := S5.nx S56
        have h6 := h4.same (S45.nx S56) (Nat.le_refl _) (by simp)
        obtain ⟨_, _, _, nb6, b4, _⟩ := h6.r0 k f hf
        have el : f.cells.length = S.A.length := by rw [← hcf]; unfold outC; simp
        refine ⟨_, rfl, _, _, _, b4, cond_false' (by rw [el]; simp) ⟨_, _, _, b4, cond_false' (by rw [el]; simp) ?_⟩⟩
        refine preplaw_WellFlat.step3 _ _ _ _ _ _ ?_
        unfold preplaw_WellFlat.V3
        rw [wrap_i64 (by omega) (by omega), show (k : Int) + 1 = ((k + 1 : Nat) : Int) by omega]
        exact ih (k + 1) w6 (by omega) S6
end
end Go.Proofs.Qxb6500321a
