/-
  The model of the validator: the closers, the branches.
-/
import Derived.Test.Qxb6500322aMsB
set_option linter.unusedSimpArgs false
set_option linter.unusedVariables false
set_option maxRecDepth 100000
set_option linter.unusedSectionVars false
namespace Go.Proofs.Qxb6500322a
open Go Go.Vc

section
variable {wd w0 w w' : World} {L mb : Nat} {m : Nat → Value} {P : PM} {cb fb i : Nat} {ps : ByteArray} {lb : Nat} {k : List Fr} {f : Fr} {r : List Fr}
variable {n pc : Nat} {st : ByteArray} {o o0 : List Int} {may : Nat → Bool} {u : Nat} {z : Int × Int × List Int × List Fr} {NN : Nat}

/-- What one instruction stands on. -/
structure MB (wd w0 w : World) (L mb : Nat) (m : Nat → Value) (P : PM) (cb fb i : Nat) (ps : ByteArray) (lb : Nat) (f : Fr) (r : List Fr) (n pc : Nat) (st : ByteArray) (o o0 : List Int) (may : Nat → Bool) (u : Nat) (z : Int × Int × List Int × List Fr) (xb NN : Nat) : Prop where
  C : MC wd w0 w L mb m P cb fb i ps lb (f :: r)
  D : MH (P.fn i) (n + 1) pc st o o0 f r may u
  IH : Heads wd L mb m P cb fb i ps n
  hz : contV P ps (P.fn i) n pc (stepV P ps (P.fn i) ((P.fn i).ins pc) pc o f r) = z
  I : InsAt w xb ((P.fn i).ins pc)
  nx : xb ≠ cb
  hN : n + 1 ≤ NN
variable {xb : Nat}
theorem MB.hn (b : MB wd w0 w L mb m P cb fb i ps lb f r n pc st o o0 may u z xb NN) : n ≤ NN := by have := b.hN; omega
theorem MB.keep (b : MB wd w0 w L mb m P cb fb i ps lb f r n pc st o o0 may u z xb NN) (hS : Same [] w.heap.size w w') : MB wd w0 w' L mb m P cb fb i ps lb f r n pc st o o0 may u z xb NN :=
  ⟨b.C.keep hS, b.D, b.IH, b.hz, b.I.same hS b.I.lt (by simp), b.nx, b.hN⟩
theorem MB.drew (b : MB wd w0 w L mb m P cb fb i ps lb f r n pc st o o0 may u z xb NN) : MB wd w0 w.drew L mb m P cb fb i ps lb f r n pc st o o0 may u z xb NN := b.keep (Same.refl _ _ _).drew
theorem MB.ins (b : MB wd w0 w L mb m P cb fb i ps lb f r n pc st o o0 may u z xb NN) : InsIn ((P.fn i).ins pc) := b.C.fn.b.ins pc (by have := b.D.pn; omega)
/-- The rest of the body is well nested, where the instruction turns nothing of it. -/
theorem MB.wf (b : MB wd w0 w L mb m P cb fb i ps lb f r n pc st o o0 may u z xb NN) (h : ((P.fn i).ins pc).op ≠ 14) (h1 : ¬ (((P.fn i).ins pc).op = 2 ∨ ((P.fn i).ins pc).op = 3 ∨ ((P.fn i).ins pc).op = 4)) (h2 : ((P.fn i).ins pc).op ≠ 5) (h3 : ((P.fn i).ins pc).op ≠ 11) :
    Pln ((P.fn i).ins pc) ∧ wfGo (P.fn i).ins (P.fn i).nI (P.fn i).nTab n (pc + 1) r.length may u := by
  have := b.D.wf
  rw [wfGo_succ, if_neg h, if_neg h1, if_neg h2, if_neg h3] at this
  exact this
theorem mo_turn (h : MayOk (f :: r) may) {g : Fr} (hg : g.op = f.op) : MayOk (g :: r) may := fun j y hy hmay => by
  by_cases e : j + 1 = r.length
  · rw [e, rev_top] at hy; cases hy
    rw [hg]; exact h j f (by rw [e]; exact rev_top f r) hmay
  · have hj := (List.getElem?_eq_some_iff.1 hy).1
    rw [List.length_reverse, List.length_cons] at hj
    rw [rev_low g r (by omega)] at hy
    exact h j y (by rw [rev_low f r (by omega)]; exact hy) hmay

abbrev PostB (P : PM) (i : Nat) (ps : ByteArray) (z : Int × Int × List Int × List Fr) (w0 : World) (cb : Nat) (f : Fr) (r : List Fr) (o0 : List Int) (NN : Nat) : Value → World → Prop := SPost P ps (P.fn i) z w0 cb f r o0 NN

theorem m_close (b : MB wd w0 w L mb m P cb fb i ps lb f r n pc st o o0 may u z xb NN) (ho : ((P.fn i).ins pc).op = 11 ∨ ((P.fn i).ins pc).op = 5) : M3 cb lb f r pc st xb ((P.fn i).ins pc).op true (PostB P i ps z w0 cb f r o0 NN) w := by
  have C := b.C; have D := b.D
  have ms := D.ms; have l0 := D.l0; have ol := D.ol; have pn := D.pn
  have hnI := C.fn.b.nI
  refine validm_ck_seq.step3 _ _ _ _ _ _ _ _ _ _ _ _ _ _ _ _ _ _ ?_
  unfold validm_ck_seq.V3
  refine cond_true' rfl (RunsQ.post (mcar_spec f.res (C.kv f (List.mem_cons_self ..)) l0 ms (by omega) w) ?_)
  rintro v w2 ⟨rfl, st2, rfl, ms2⟩
  have hl2 := ms2.len
  have L6 : setl f o = true → st2.size = 0 → validm_ck_seq.L6 (pc : Int) xb (PostB P i ps z w0 cb f r o0 NN) (fun _ _ => False) w2 := fun hs h0 => by
    refine validm_ck_seq.step6 _ _ _ _ _ ?_
    unfold validm_ck_seq.V6
    simp only [true_and]
    have ew : IntKind.wrap .i64 ((pc : Int) + 1) = ((pc + 1 : Nat) : Int) := by rw [wrap_i64 (by omega) (by omega)]; omega
    rw [ew]
    refine ⟨_, b.I.drew.c0, .inr ⟨C.S.drew, n, pc, o, f, may, u, rfl, ho.symm, ?_, pn, b.hN, hs, rfl, rfl, rfl, ms2.zero h0, D.wf, D.mo⟩⟩
    rw [← b.hz, ← runV_cont]
  have bad : setl f o = false → ∀ w3, w3 = w2 → validm_ck_seq.L4 (some ⟨cb, 0, none⟩) (pc : Int) xb true (PostB P i ps z w0 cb f r o0 NN) (fun _ _ => False) w3 := fun hs w3 hw => by
    subst hw
    have hz : ((pc : Int), (27 : Int), carO f.res f o, f :: r) = z := by
      rw [← b.hz]
      rcases ho with h | h
      · have : stepV P ps (P.fn i) ((P.fn i).ins pc) pc o f r = .done pc 27 (carO f.res f o) (f :: r) := by
          unfold stepV
          rw [if_neg (by omega), if_neg (by omega), if_neg (by omega), if_neg (by omega), if_pos h]
          unfold endV; rw [hs, if_neg (by decide)]
        rw [this]; rfl
      · have : stepV P ps (P.fn i) ((P.fn i).ins pc) pc o f r = .done pc 27 (carO f.res f o) (f :: r) := by
          unfold stepV
          rw [if_neg (by omega), if_neg (by omega), if_neg (by omega), if_pos h]
          unfold elsV; rw [hs, if_neg (by decide)]
        rw [this]; rfl
    refine validm_ck_seq.step4 _ _ _ _ _ _ _ ?_
    unfold validm_ck_seq.V4
    refine cond_true' rfl (RunsQ.post (fail_spec C 27 pc) ?_)
    rintro v w4 ⟨rfl, h4, h5, S4⟩
    refine ⟨rfl, ?_⟩
    refine validm_ck_seq.step6 _ _ _ _ _ ?_
    unfold validm_ck_seq.V6
    simp only [true_and]
    have I4 := (b.I.same S4 b.I.lt (by simp; exact b.nx)).drew
    exact ⟨_, I4.c0, SPost.err C (w2 := w4.drew) h4 h5 S4.drew (by decide) hz _ _⟩
  refine ⟨_, _, rfl, ?_⟩
  cases hb : carB f.res f o with
  | false => exact cond_true' rfl (bad (by unfold setl; rw [hb]; rfl) _ rfl)
  | true =>
    refine cond_false' rfl ?_
    by_cases h0 : st2.size = 0
    · rw [h0]
      refine validm_ck_seq.step4 _ _ _ _ _ _ _ ?_
      unfold validm_ck_seq.V4
      refine cond_false' rfl (L6 ?_ h0)
      unfold setl
      rw [hb, Bool.true_and]
      exact decide_eq_true (by omega)
    · have : ((((st2.size : Nat) : Int)) != 0) = true := bne_iff_ne.2 (by omega)
      rw [this]
      refine bad ?_ _ rfl
      unfold setl
      rw [hb, Bool.true_and]
      exact decide_eq_false (by omega)

abbrev M5 (cb lb : Nat) (f : Fr) (r : List Fr) (pc : Nat) (st : ByteArray) (xb : Nat) (op : Int) (t : Bool) (R : Value → World → Prop) (w : World) : Prop :=
  validm_ck_seq.L5 (some ⟨cb, 0, none⟩) (pc : Int) (some ⟨lb, 0, none⟩) (r.length + 1) (r.length + 1) (resS f.res) ((f.fl : Nat) : Int) ((7 - r.length : Nat) : Int) st f.dead xb op true ⟨#[]⟩ t R (fun _ _ => False) w
abbrev M9 (cb lb : Nat) (f : Fr) (r : List Fr) (pc : Nat) (st : ByteArray) (xb : Nat) (op : Int) (t : Bool) (R : Value → World → Prop) (w : World) : Prop :=
  validm_ck_seq.L9 (some ⟨cb, 0, none⟩) (pc : Int) (some ⟨lb, 0, none⟩) (r.length + 1) (r.length + 1) (resS f.res) ((f.fl : Nat) : Int) ((7 - r.length : Nat) : Int) st f.dead xb op true ⟨#[]⟩ t R (fun _ _ => False) w
abbrev M12 (cb lb : Nat) (f : Fr) (r : List Fr) (pc : Nat) (st : ByteArray) (xb : Nat) (op : Int) (t : Bool) (R : Value → World → Prop) (w : World) : Prop :=
  validm_ck_seq.L12 (some ⟨cb, 0, none⟩) (pc : Int) (some ⟨lb, 0, none⟩) (r.length + 1) (r.length + 1) (resS f.res) ((f.fl : Nat) : Int) ((7 - r.length : Nat) : Int) st f.dead xb op true ⟨#[]⟩ t R (fun _ _ => False) w

theorem resS64 : resS 64 = ⟨#[]⟩ := rfl
/-- Behind an instruction that never falls through. -/
theorem m_dead (b : MB wd w0 w L mb m P cb fb i ps lb f r n pc st o o0 may u z xb NN) {u' : Nat} (wf : wfGo (P.fn i).ins (P.fn i).nI (P.fn i).nTab n (pc + 1) r.length may u') {o1 : List Int} (ms1 : ∃ st1, MS st1 o1 o0) (hov : OV o1) {ok : Bool}
    (hok : ok = true → stepV P ps (P.fn i) ((P.fn i).ins pc) pc o f r = .next (cutO f o1) (f.kill :: r)) (hno : ok = false → ∃ o' k', stepV P ps (P.fn i) ((P.fn i).ins pc) pc o f r = .done pc 27 o' k') :
    validm_ck_seq.L8 (some ⟨cb, 0, none⟩) (pc : Int) (some ⟨lb, 0, none⟩) (r.length + 1) (r.length + 1) (resS f.res) ((f.fl : Nat) : Int) ((7 - r.length : Nat) : Int) ⟨#[]⟩ true ok ⟨#[]⟩ (PostB P i ps z w0 cb f r o0 NN) (fun _ _ => False) w := by
  have C := b.C; have D := b.D
  obtain ⟨st1, ms1⟩ := ms1
  have hl := ms1.len; have l0 := D.l0
  have ec : cutO f o1 = o0 := by
    obtain ⟨s, rfl, h2, _⟩ := ms1
    unfold cutO
    rw [List.length_append, show s.length + o0.length - f.fl = s.length by omega, List.drop_left]
  have hol : o0.length ≤ 10 := by have := D.ol; have := D.ms.len; omega
  have ov0 : OV o0 := fun x hx => hov x (by obtain ⟨s, rfl, _⟩ := ms1; exact List.mem_append_right _ hx)
  have := m8 (f := f.kill) (st := ⟨#[]⟩) (o := o0) (o0 := o0) C.kill b.IH b.hn D.pn (MS.nil o0) l0 hol ov0 wf (mo_turn D.mo rfl) D.rl (g := 64) (.inl rfl) b.hz (ok := ok) (fun h => by rw [hok h, ec]; rfl) hno
  exact this

theorem m_nop (b : MB wd w0 w L mb m P cb fb i ps lb f r n pc st o o0 may u z xb NN) (ho : ((P.fn i).ins pc).op = 0 ∨ ((P.fn i).ins pc).op = 1) : M5 cb lb f r pc st xb ((P.fn i).ins pc).op false (PostB P i ps z w0 cb f r o0 NN) w := by
  have C := b.C; have D := b.D
  obtain ⟨_, wf⟩ := b.wf (by omega) (by omega) (by omega) (by omega)
  refine validm_ck_seq.step5 _ _ _ _ _ _ _ _ _ _ _ _ _ _ _ _ _ _ ?_
  unfold validm_ck_seq.V5
  refine cond_false' rfl ?_
  rcases ho with h | h
  · refine cond_true' (by rw [h]; rfl) ?_
    refine m_dead b wf ⟨st, D.ms⟩ D.ov (ok := true) (fun _ => ?_) (fun h => by cases h)
    unfold stepV
    rw [if_neg (by omega), if_pos h]
  · refine cond_false' (by rw [h]; rfl) (cond_true' (by rw [h]; rfl) ?_)
    have := m8 C b.IH b.hn D.pn D.ms D.l0 D.ol D.ov wf D.mo D.rl (g := 64) (.inl rfl) b.hz (ok := true) (fun _ => by unfold stepV; rw [if_pos h]; rfl) (fun h => by cases h)
    exact this

/-- The index of a label. -/
theorem lab_idx {x : Int} (h0 : 0 ≤ x) (h1 : x < ((r.length + 1 : Nat) : Int)) (rl : r.length ≤ 6) : IntKind.wrap .i64 (IntKind.wrap .i64 (((r.length + 1 : Nat) : Int) - 1) - IntKind.wrap .i64 x) = (((r.length + 1) - 1 - x.toNat : Nat) : Int) := by
  rw [wrap_i64 (x := x) (by omega) (by omega), wrap_i64 (x := ((r.length + 1 : Nat) : Int) - 1) (by omega) (by omega), wrap_i64 (by omega) (by omega)]
  omega

theorem m_br (b : MB wd w0 w L mb m P cb fb i ps lb f r n pc st o o0 may u z xb NN) (ho : ((P.fn i).ins pc).op = 12 ∨ ((P.fn i).ins pc).op = 13) : M9 cb lb f r pc st xb ((P.fn i).ins pc).op true (PostB P i ps z w0 cb f r o0 NN) w := by
  have C := b.C; have D := b.D
  have rl := D.rl; have hin := b.ins
  have x0 := hin.x0; have x1 := hin.x1
  obtain ⟨_, wf⟩ := b.wf (by omega) (by omega) (by omega) (by omega)
  have ol := D.ol
  -- behind the pop of br_if's condition
  have L11 : ∀ (st1 : ByteArray) (o1 : List Int), MS st1 o1 o0 → OV o1 → o1.length ≤ 10 →
      (((P.fn i).ins pc).op = 12 → o1 = o) → (((P.fn i).ins pc).op = 13 → carB 127 f o = true ∧ o1 = carO 127 f o) →
      validm_ck_seq.L11 (some ⟨cb, 0, none⟩) (pc : Int) (some ⟨lb, 0, none⟩) (r.length + 1) (r.length + 1) (resS f.res) ((f.fl : Nat) : Int) ((7 - r.length : Nat) : Int) st1 f.dead xb ((P.fn i).ins pc).op true ⟨#[]⟩ (PostB P i ps z w0 cb f r o0 NN) (fun _ _ => False) w := fun st1 o1 ms1 ov1 ol1 h12 h13 => by
    refine validm_ck_seq.step11 _ _ _ _ _ _ _ _ _ _ _ _ _ _ _ _ _ ?_
    unfold validm_ck_seq.V11
    refine cond_true' rfl ⟨_, b.I.c1, ?_⟩
    rw [wrap_u64 (by omega) (by omega), wrap_u64 (by omega) (by omega)]
    refine validm_ck_seq.step14 _ _ _ _ _ _ _ _ _ _ _ _ _ _ _ _ _ _ ?_
    unfold validm_ck_seq.V14
    refine cond_intro (fun h => ?_) (fun h => cond_true' rfl ⟨_, b.I.c1, ?_⟩)
    · have h : ((r.length + 1 : Nat) : Int) ≤ ((P.fn i).ins pc).x := of_decide_eq_true h
      have hs : stepV P ps (P.fn i) ((P.fn i).ins pc) pc o f r = .done pc 25 o1 (f :: r) := by
        unfold stepV
        rcases ho with g | g
        · rw [if_neg (by omega), if_neg (by omega), if_neg (by omega), if_neg (by omega), if_neg (by omega), if_pos g]
          unfold brV; rw [if_pos h, h12 g]
        · rw [if_neg (by omega), if_neg (by omega), if_neg (by omega), if_neg (by omega), if_neg (by omega), if_neg (by omega), if_pos g]
          obtain ⟨q1, q2⟩ := h13 g
          unfold brifV; rw [if_pos q1, if_pos h, q2]
      refine mfail C (by decide) (o' := o1) (k' := f :: r) ?_ _ _
      rw [← b.hz, hs]; rfl
    · have h : ¬ ((r.length + 1 : Nat) : Int) ≤ ((P.fn i).ins pc).x := of_decide_eq_false h
      rw [lab_idx x0 (by omega) rl]
      refine ⟨⟨by omega, by omega⟩, ?_⟩
      rw [nilV_some]
      simp only [add_mk, Int.toNat_natCast, Nat.mul_one, Nat.zero_add]
      have hx : ((P.fn i).ins pc).x.toNat < (f :: r).length := by rw [List.length_cons]; omega
      obtain ⟨lc, lv⟩ := C.label hx
      rw [List.length_cons] at lc
      generalize ht : labT (f :: r) ((P.fn i).ins pc).x.toNat = t at lc lv
      refine ⟨_, lc, RunsQ.post (mcar_spec t lv D.l0 ms1 (by omega) w) ?_⟩
      rintro v w7 ⟨rfl, st2, rfl, ms2⟩
      refine ⟨_, _, rfl, ?_⟩
      have ol2 : (carO t f o1).length ≤ 10 := by have := carO_len t f o1 (by have := ms1.len; have := D.l0; omega); omega
      refine validm_ck_seq.step20 _ _ _ _ _ _ _ _ _ _ _ _ _ _ _ _ ?_
      unfold validm_ck_seq.V20
      rcases ho with g | g
      · refine cond_true' (by rw [g]; rfl) ?_
        have e1 := h12 g
        subst e1
        have hs : stepV P ps (P.fn i) ((P.fn i).ins pc) pc o1 f r = if carB t f o1 = true then .next (cutO f (carO t f o1)) (f.kill :: r) else .done pc 27 (carO t f o1) (f :: r) := by
          unfold stepV
          rw [if_neg (by omega), if_neg (by omega), if_neg (by omega), if_neg (by omega), if_neg (by omega), if_pos g]
          unfold brV; rw [if_neg h, ht]
        exact m_dead b wf ⟨st2, ms2⟩ (carO_ov ov1 t) (fun hk => by rw [hs, if_pos hk]) (fun hk => ⟨_, _, by rw [hs, if_neg (by rw [hk]; decide)]⟩)
      · refine cond_false' (by rw [g]; rfl) ?_
        obtain ⟨q1, q2⟩ := h13 g
        have hs : stepV P ps (P.fn i) ((P.fn i).ins pc) pc o f r = if carB t f o1 = true then giveV pc t (carO t f o1) (f :: r) else .done pc 27 (carO t f o1) (f :: r) := by
          unfold stepV
          rw [if_neg (by omega), if_neg (by omega), if_neg (by omega), if_neg (by omega), if_neg (by omega), if_neg (by omega), if_pos g]
          unfold brifV; rw [if_pos q1, if_neg h, ht, q2]
        exact m8 C b.IH b.hn D.pn ms2 D.l0 ol2 (carO_ov ov1 t) wf D.mo D.rl (gt_of lv) b.hz (fun hk => by rw [hs, if_pos hk]) (fun hk => ⟨_, _, by rw [hs, if_neg (by rw [hk]; decide)]⟩)
  refine validm_ck_seq.step9 _ _ _ _ _ _ _ _ _ _ _ _ _ _ _ _ _ _ ?_
  unfold validm_ck_seq.V9
  refine cond_true' rfl (cond_intro (fun h => ?_) (fun h => ?_))
  · have g : ((P.fn i).ins pc).op = 13 := eq_of_beq h
    refine RunsQ.post (mpop_car 127 ⟨by decide, by decide⟩ D.l0 D.ms (by omega) w) ?_
    rintro v w2 ⟨rfl, st2, y, rfl, ms2⟩
    refine ⟨_, _, _, rfl, ?_⟩
    have ol2 : (carO 127 f o).length ≤ 10 := by have := carO_len 127 f o D.hf; omega
    cases hb : carB 127 f o with
    | true => exact L11 st2 _ ms2 (carO_ov D.ov _) ol2 (fun g' => by omega) (fun _ => ⟨hb, rfl⟩)
    | false =>
      refine validm_ck_seq.step11 _ _ _ _ _ _ _ _ _ _ _ _ _ _ _ _ _ ?_
      unfold validm_ck_seq.V11
      refine cond_false' rfl ?_
      refine validm_ck_seq.step14 _ _ _ _ _ _ _ _ _ _ _ _ _ _ _ _ _ _ ?_
      unfold validm_ck_seq.V14
      refine cond_false' rfl (cond_false' rfl ?_)
      refine validm_ck_seq.step20 _ _ _ _ _ _ _ _ _ _ _ _ _ _ _ _ ?_
      unfold validm_ck_seq.V20
      refine cond_false' (by rw [g]; rfl) ?_
      have hs : stepV P ps (P.fn i) ((P.fn i).ins pc) pc o f r = .done pc 27 (carO 127 f o) (f :: r) := by
        unfold stepV
        rw [if_neg (by omega), if_neg (by omega), if_neg (by omega), if_neg (by omega), if_neg (by omega), if_neg (by omega), if_pos g]
        unfold brifV; rw [hb, if_neg (by decide)]
      exact m8 C b.IH b.hn D.pn ms2 D.l0 ol2 (carO_ov D.ov _) wf D.mo D.rl (g := 64) (.inl rfl) b.hz (ok := false) (fun h => by cases h) (fun _ => ⟨_, _, hs⟩)
  · have g : ((P.fn i).ins pc).op = 12 := by
      rcases ho with g | g
      · exact g
      · rw [g] at h; cases h
    exact L11 st o D.ms D.ov D.ol (fun _ => rfl) (fun g' => by omega)

theorem m_ret (b : MB wd w0 w L mb m P cb fb i ps lb f r n pc st o o0 may u z xb NN) (ho : ((P.fn i).ins pc).op = 15) : M9 cb lb f r pc st xb ((P.fn i).ins pc).op false (PostB P i ps z w0 cb f r o0 NN) w := by
  have C := b.C; have D := b.D
  have ol := D.ol
  obtain ⟨_, wf⟩ := b.wf (by omega) (by omega) (by omega) (by omega)
  refine validm_ck_seq.step9 _ _ _ _ _ _ _ _ _ _ _ _ _ _ _ _ _ _ ?_
  unfold validm_ck_seq.V9
  refine cond_false' rfl (cond_false' (by rw [ho]; rfl) (cond_true' (by rw [ho]; rfl) ?_))
  simp only [nilV_some, Nat.zero_add]
  have hb : botK (f :: r) = botT f r := rfl
  have c3 := C.c3
  rw [hb] at c3
  refine ⟨_, c3, RunsQ.post (mcar_spec (botT f r) C.bot D.l0 D.ms (by omega) w) ?_⟩
  rintro v w2 ⟨rfl, st2, rfl, ms2⟩
  refine ⟨_, _, rfl, ?_⟩
  have hs : stepV P ps (P.fn i) ((P.fn i).ins pc) pc o f r = if carB (botT f r) f o = true then .next (cutO f (carO (botT f r) f o)) (f.kill :: r) else .done pc 27 (carO (botT f r) f o) (f :: r) := by
    unfold stepV
    rw [if_neg (by omega), if_neg (by omega), if_neg (by omega), if_neg (by omega), if_neg (by omega), if_neg (by omega), if_neg (by omega), if_neg (by omega), if_pos ho]
    rfl
  exact m_dead b wf ⟨st2, ms2⟩ (carO_ov D.ov _) (fun hk => by rw [hs, if_pos hk]) (fun hk => ⟨_, _, by rw [hs, if_neg (by rw [hk]; decide)]⟩)
end
end Go.Proofs.Qxb6500322a
