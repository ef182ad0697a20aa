/-
  The model of the validator: calls, drop, select, locals, globals.
-/
import Derived.Test.Qxb6500322aMsD
set_option linter.unusedSimpArgs false
set_option linter.unusedVariables false
set_option maxRecDepth 100000
set_option linter.unusedSectionVars false
namespace Go.Proofs.Qxb6500322a
open Go Go.Vc

section
variable {wd w0 w w' : World} {L mb : Nat} {m : Nat → Value} {P : PM} {cb fb i : Nat} {ps : ByteArray} {lb : Nat} {k : List Fr} {f : Fr} {r : List Fr}
variable {n pc : Nat} {st : ByteArray} {o o0 : List Int} {may : Nat → Bool} {u : Nat} {z : Int × Int × List Int × List Fr} {xb NN : Nat}

/-- An instruction that turns no control. -/
structure MP (wd w0 w : World) (L mb : Nat) (m : Nat → Value) (P : PM) (cb fb i : Nat) (ps : ByteArray) (lb : Nat) (f : Fr) (r : List Fr) (n pc : Nat) (st : ByteArray) (o o0 : List Int) (may : Nat → Bool) (u : Nat) (z : Int × Int × List Int × List Fr) (xb NN : Nat) : Prop where
  b : MB wd w0 w L mb m P cb fb i ps lb f r n pc st o o0 may u z xb NN
  no : ∀ n : Int, n = 0 ∨ n = 1 ∨ n = 2 ∨ n = 3 ∨ n = 4 ∨ n = 5 ∨ n = 11 ∨ n = 12 ∨ n = 13 ∨ n = 14 ∨ n = 15 → ((P.fn i).ins pc).op ≠ n
  pl : Pln ((P.fn i).ins pc)
  wf : wfGo (P.fn i).ins (P.fn i).nI (P.fn i).nTab n (pc + 1) r.length may u
theorem MP.of (b : MB wd w0 w L mb m P cb fb i ps lb f r n pc st o o0 may u z xb NN) (no : ∀ n : Int, n = 0 ∨ n = 1 ∨ n = 2 ∨ n = 3 ∨ n = 4 ∨ n = 5 ∨ n = 11 ∨ n = 12 ∨ n = 13 ∨ n = 14 ∨ n = 15 → ((P.fn i).ins pc).op ≠ n) : MP wd w0 w L mb m P cb fb i ps lb f r n pc st o o0 may u z xb NN := by
  have := b.wf (no 14 (by omega)) (fun h => by
    rcases h with h | h | h
    · exact no 2 (by omega) h
    · exact no 3 (by omega) h
    · exact no 4 (by omega) h) (no 5 (by omega)) (no 11 (by omega))
  exact ⟨b, no, this.1, this.2⟩
theorem MP.keep (p : MP wd w0 w L mb m P cb fb i ps lb f r n pc st o o0 may u z xb NN) (hS : Same [] w.heap.size w w') : MP wd w0 w' L mb m P cb fb i ps lb f r n pc st o o0 may u z xb NN := ⟨p.b.keep hS, p.no, p.pl, p.wf⟩
theorem MP.drew (p : MP wd w0 w L mb m P cb fb i ps lb f r n pc st o o0 may u z xb NN) : MP wd w0 w.drew L mb m P cb fb i ps lb f r n pc st o o0 may u z xb NN := p.keep (Same.refl _ _ _).drew
abbrev plnB (P : PM) (i : Nat) (ps : ByteArray) (pc : Nat) (f : Fr) (o : List Int) : Int × Int × List Int := plnP P ps (strOfNums (P.fn i).ls) ((P.fn i).ins pc) f o
theorem MP.step (p : MP wd w0 w L mb m P cb fb i ps lb f r n pc st o o0 may u z xb NN) : stepV P ps (P.fn i) ((P.fn i).ins pc) pc o f r = if (plnB P i ps pc f o).2.1 = 0 then giveV pc (plnB P i ps pc f o).1 (plnB P i ps pc f o).2.2 (f :: r) else .done pc (plnB P i ps pc f o).2.1 (plnB P i ps pc f o).2.2 (f :: r) := by
  have no := p.no
  have a0 := no 0 (by omega); have a1 := no 1 (by omega); have a2 := no 2 (by omega); have a3 := no 3 (by omega); have a4 := no 4 (by omega); have a5 := no 5 (by omega)
  have a11 := no 11 (by omega); have a12 := no 12 (by omega); have a13 := no 13 (by omega); have a14 := no 14 (by omega); have a15 := no 15 (by omega)
  unfold stepV
  rw [if_neg a1, if_neg a0, if_neg (by omega), if_neg a5, if_neg a11, if_neg a12, if_neg a13, if_neg a14, if_neg a15]
  rfl
theorem MP.ov (p : MP wd w0 w L mb m P cb fb i ps lb f r n pc st o o0 may u z xb NN) : OV (plnB P i ps pc f o).2.2 ∧ ((plnB P i ps pc f o).2.1 = 0 → GT (plnB P i ps pc f o).1) :=
  plnP_ov p.b.C.W p.b.C.vp p.b.C.fn.ls p.pl p.b.ins (fun n hn => p.no n (by omega)) p.b.D.ov
theorem MP.ol (p : MP wd w0 w L mb m P cb fb i ps lb f r n pc st o o0 may u z xb NN) : (plnB P i ps pc f o).2.2.length ≤ 10 := by
  have := (plnP_len (P := P) ps (strOfNums (P.fn i).ls) ((P.fn i).ins pc) p.b.D.hf).2
  have := p.b.D.ol
  show (plnP P ps (strOfNums (P.fn i).ls) ((P.fn i).ins pc) f o).2.2.length ≤ 10
  omega
/-- An error of the names. -/
theorem MP.fail (p : MP wd w0 w L mb m P cb fb i ps lb f r n pc st o o0 may u z xb NN) {e : Int} (he : e ≠ 0) (h : (plnB P i ps pc f o).2.1 = e) (x y : Int) :
    RunsQ Try.prog validm_ck_fail.id #[rp cb, .int .i64 e, .int .i64 (pc : Int)] w (fun v w' => v = .tuple #[] ∧ PostB P i ps z w0 cb f r o0 NN (.tuple #[.int .i64 x, .int .u8 y]) w') (fun _ _ => False) := by
  refine mfail p.b.C he (o' := (plnB P i ps pc f o).2.2) (k' := f :: r) ?_ x y
  rw [← p.b.hz, p.step, if_neg (by rw [h]; exact he), h]; rfl
/-- The operands taken. -/
theorem MP.fin (p : MP wd w0 w L mb m P cb fb i ps lb f r n pc st o o0 may u z xb NN) {st1 : ByteArray} {o1 : List Int} (ms : MS st1 o1 o0) {ok : Bool} {g : Int} (h : plnB P i ps pc f o = (g, tyE ok, o1) ∨ ((plnB P i ps pc f o).2.1 = 27 ∧ ok = false)) (push : ByteArray) (hp : ok = true → push = resS g) : M8 cb lb f r pc st1 ok push (PostB P i ps z w0 cb f r o0 NN) w := by
  have D := p.b.D
  cases ok with
  | true =>
    rcases h with h | ⟨_, h⟩
    rotate_left
    · cases h
    have ov := p.ov
    have ol := p.ol
    rw [h] at ov ol
    rw [hp rfl]
    exact m8 p.b.C p.b.IH p.b.hn D.pn ms D.l0 ol ov.1 p.wf D.mo D.rl (ov.2 rfl) p.b.hz (ok := true) (fun _ => by rw [p.step, h]; rfl) (fun h => by cases h)
  | false =>
    have h27 : (plnB P i ps pc f o).2.1 = 27 := by
      rcases h with h | ⟨h, _⟩
      · rw [h]; rfl
      · exact h
    have hz : (((pc : Int)), (27 : Int), (plnB P i ps pc f o).2.2, f :: r) = z := by
      rw [← p.b.hz, p.step, if_neg (by rw [h27]; decide), h27]; rfl
    refine validm_ck_seq.step8 _ _ _ _ _ _ _ _ _ _ _ _ _ _ _ ?_
    unfold validm_ck_seq.V8
    exact cond_true' rfl (mfail p.b.C (by decide) hz _ _)

theorem pln_call (h : ((P.fn i).ins pc).op = 16 ∨ ((P.fn i).ins pc).op = 17) : plnB P i ps pc f o = callP P ((P.fn i).ins pc) f o := by
  show plnP P ps (strOfNums (P.fn i).ls) ((P.fn i).ins pc) f o = _
  unfold plnP; rw [if_pos h]

theorem m_callT (p : MP wd w0 w L mb m P cb fb i ps lb f r n pc st o o0 may u z xb NN) (t : ByteArray) (hj : ∃ j, j < P.nTy ∧ t = P.ty j) {st1 : ByteArray} {o1 : List Int} (ms : MS st1 o1 o0) (ol : o1.length ≤ 1000) (ok : Bool)
    (h : ok = true → plnB P i ps pc f o = callT t f o1) (hn : ok = false → (plnB P i ps pc f o).2.1 = 27) :
    validm_ck_seq.L15 (some ⟨cb, 0, none⟩) (pc : Int) (some ⟨lb, 0, none⟩) (r.length + 1) (r.length + 1) (resS f.res) ((f.fl : Nat) : Int) ((7 - r.length : Nat) : Int) st1 f.dead ok t (PostB P i ps z w0 cb f r o0 NN) (fun _ _ => False) w := by
  obtain ⟨j, hj, rfl⟩ := hj
  have ht := (p.b.C.W.pb.ty j hj).1
  have hv := (p.b.C.W.ty j hj).2.2
  refine validm_ck_seq.step15 _ _ _ _ _ _ _ _ _ _ _ _ _ _ _ ?_
  unfold validm_ck_seq.V15
  refine RunsQ.post (Split_spec (P.ty j) ht w) ?_
  rintro v w2 ⟨rfl, S2⟩
  have p2 := p.keep S2
  refine ⟨_, _, rfl, ?_⟩
  cases ok with
  | true =>
    refine cond_true' rfl ?_
    have hp : (splitP (P.ty j)).1.size ≤ 1024 := Nat.le_trans (splitF_size _ _ 0).1 ht
    refine RunsQ.post (mpops_spec _ hp p.b.D.l0 ms ol w2) ?_
    rintro v w6 ⟨rfl, st6, rfl, ms6⟩
    refine ⟨_, _, rfl, ?_⟩
    refine validm_ck_seq.step21 _ _ _ _ _ _ _ _ _ _ _ _ _ _ _ ?_
    unfold validm_ck_seq.V21
    exact p2.fin ms6 (.inl (h rfl)) _ (fun _ => (resS_fst hv).symm)
  | false =>
    refine cond_false' rfl ?_
    refine validm_ck_seq.step21 _ _ _ _ _ _ _ _ _ _ _ _ _ _ _ ?_
    unfold validm_ck_seq.V21
    exact p2.fin (g := 64) ms (.inr ⟨hn rfl, rfl⟩) _ (fun h => by cases h)

theorem m_call (p : MP wd w0 w L mb m P cb fb i ps lb f r n pc st o o0 may u z xb NN) (ho : ((P.fn i).ins pc).op = 16 ∨ ((P.fn i).ins pc).op = 17) : M12 cb lb f r pc st xb ((P.fn i).ins pc).op true (PostB P i ps z w0 cb f r o0 NN) w := by
  have hin := p.b.ins
  have x0 := hin.x0; have x1 := hin.x1
  have hp := pln_call (P := P) (ps := ps) (f := f) (o := o) ho
  have D := p.b.D
  have ol := D.ol
  refine validm_ck_seq.step12 _ _ _ _ _ _ _ _ _ _ _ _ _ _ _ _ _ _ ?_
  unfold validm_ck_seq.V12
  refine cond_true' rfl (cond_intro (fun h => ?_) (fun h => ?_))
  · have h : ((P.fn i).ins pc).op = 16 := eq_of_beq h
    have p1 := p.drew
    have T : ∀ w1, w1 = w.drew → RunsQ Try.prog api_Module_TypeOf.id #[rp mb, .int .i64 (IntKind.wrap .i64 ((P.fn i).ins pc).x)] w1 (fun r24 w25 => ∃ x26 : ByteArray, ∃ x27 : Bool, (r24 = (.tuple #[(.string x26), (.bool x27)]) ∧ (cond (!x27)
        (RunsQ Try.prog validm_ck_fail.id #[rp cb, (.int .i64 15), (.int .i64 (pc : Int))] w25 (fun r28 w29 => (r28 = (.tuple #[]) ∧ (PostB P i ps z w0 cb f r o0 NN (.tuple #[(.int .i64 (pc : Int)), (.int .u8 0)]) w29))) (fun _ _ => False))
        (validm_ck_seq.L15 (some ⟨cb, 0, none⟩) (pc : Int) (some ⟨lb, 0, none⟩) (r.length + 1) (r.length + 1) (resS f.res) ((f.fl : Nat) : Int) ((7 - r.length : Nat) : Int) st f.dead true x26 (PostB P i ps z w0 cb f r o0 NN) (fun _ _ => False) w25)))) (fun _ _ => False) := fun w1 e => by
      subst e
      rw [wrap_i64 (by omega) (by omega)]
      refine RunsQ.post (TypeOf_spec p1.b.C.H p1.b.C.W.pb ((P.fn i).ins pc).x (by omega) (by omega)) ?_
      rintro v w2 ⟨rfl, S2⟩
      have p2 := p1.keep S2
      have hc : callP P ((P.fn i).ins pc) f o = match typeOf P ((P.fn i).ins pc).x with | none => (64, 15, o) | some t => callT t f o := by unfold callP; rw [if_pos h]; rfl
      cases ht : typeOf P ((P.fn i).ins pc).x with
      | none => exact ⟨_, _, rfl, cond_true' rfl (p2.fail (by decide) (by rw [hp, hc, ht]) _ _)⟩
      | some t => exact ⟨_, _, rfl, cond_false' rfl (m_callT p2 t (typeOf_in ht) D.ms (by omega) true (fun _ => by rw [hp, hc, ht]) (fun h => by cases h))⟩
    rw [nilV_some]
    exact ⟨⟨_, p1.b.C.c0, ⟨_, p1.b.I.c1, T _ rfl, trivial⟩, trivial⟩, ⟨_, p1.b.I.c1, ⟨_, p1.b.C.c0, T _ rfl, trivial⟩, trivial⟩, trivial⟩
  · have h : ¬ ((P.fn i).ins pc).op = 16 := by simpa using h
    have hc : callP P ((P.fn i).ins pc) f o = if P.tmin < 0 then (64, 21, o) else if (P.nTy : Int) ≤ ((P.fn i).ins pc).x then (64, 14, o)
      else if carB 127 f o = true then callT (P.ty ((P.fn i).ins pc).x.toNat) f (carO 127 f o) else (64, 27, carO 127 f o) := by unfold callP; rw [if_neg h]
    simp only [true_and, nilV_some, Nat.zero_add]
    refine ⟨_, p.b.C.c0, ?_⟩
    rw [nilV_some]
    refine ⟨_, p.b.C.H.c3, cond_intro (fun h1 => ?_) (fun h1 => ?_)⟩
    · exact p.fail (by decide) (by rw [hp, hc, if_pos (of_decide_eq_true h1)]) _ _
    have n1 : ¬ P.tmin < 0 := of_decide_eq_false h1
    have p1 := p.drew
    refine ⟨_, p1.b.I.c1, _, p1.b.C.c0, ?_⟩
    rw [nilV_some]
    obtain ⟨a, t0, hr⟩ := p1.b.C.H.ty
    have bT := p.b.C.W.pb.nTy
    refine ⟨_, _, _, t0, ?_⟩
    rw [wrap_u64 (by omega) (by omega), wrap_u64 (by omega) (by omega)]
    refine cond_intro (fun h2 => ?_) (fun h2 => ?_)
    · exact p1.fail (by decide) (by rw [hp, hc, if_neg n1, if_pos (of_decide_eq_true h2)]) _ _
    have n2 : ¬ (P.nTy : Int) ≤ ((P.fn i).ins pc).x := of_decide_eq_false h2
    have p2 := p1.drew
    obtain ⟨tb, rfl, e2⟩ := hr (by omega)
    refine ⟨_, p2.b.C.c0, ?_⟩
    rw [nilV_some]
    refine ⟨_, _, _, t0, _, p2.b.I.c1, ⟨by omega, by omega⟩, ?_⟩
    simp only [nilV_some, add_mk, Nat.mul_one, Nat.zero_add]
    refine ⟨_, e2 _ (by omega), RunsQ.post (mpop_car 127 ⟨by decide, by decide⟩ D.l0 D.ms (by omega) w.drew.drew) ?_⟩
    rintro v w3 ⟨rfl, st3, y, rfl, ms3⟩
    have ol3 := carO_len 127 f o D.hf
    refine ⟨_, _, _, rfl, m_callT p2 _ ⟨_, by omega, rfl⟩ ms3 (by omega) _ (fun hk => by rw [hp, hc, if_neg n1, if_neg n2, if_pos hk]) (fun hk => by rw [hp, hc, if_neg n1, if_neg n2, if_neg (by rw [hk]; decide)])⟩

theorem m_drop (p : MP wd w0 w L mb m P cb fb i ps lb f r n pc st o o0 may u z xb NN) (ho : ((P.fn i).ins pc).op = 26) : M12 cb lb f r pc st xb ((P.fn i).ins pc).op false (PostB P i ps z w0 cb f r o0 NN) w := by
  have D := p.b.D
  have hlen := D.ms.len; have ol := D.ol
  refine validm_ck_seq.step12 _ _ _ _ _ _ _ _ _ _ _ _ _ _ _ _ _ _ ?_
  unfold validm_ck_seq.V12
  refine cond_false' rfl (cond_true' (by rw [ho]; rfl) (RunsQ.post (mpop_spec D.ms D.l0 (by omega) 0 w) ?_))
  rintro v w2 ⟨rfl, st2, rfl, ms2⟩
  refine ⟨_, _, _, rfl, p.fin (g := 64) ms2 (.inl ?_) _ (fun _ => rfl)⟩
  show plnP P ps (strOfNums (P.fn i).ls) ((P.fn i).ins pc) f o = _
  unfold plnP
  rw [if_neg (by omega), if_pos ho]

theorem m_sel (p : MP wd w0 w L mb m P cb fb i ps lb f r n pc st o o0 may u z xb NN) (ho : ((P.fn i).ins pc).op = 27) : M12 cb lb f r pc st xb ((P.fn i).ins pc).op false (PostB P i ps z w0 cb f r o0 NN) w := by
  have D := p.b.D
  have hlen := D.ms.len; have ol := D.ol
  have hp : plnB P i ps pc f o = selP f o := by
    show plnP P ps (strOfNums (P.fn i).ls) ((P.fn i).ins pc) f o = _
    unfold plnP
    rw [if_neg (by omega), if_neg (by omega), if_pos ho]
  -- behind the third pop
  have L22 : ∀ (st2 : ByteArray) (o2 : List Int) (ok : Bool) (b : Int), MS st2 o2 o0 → (plnB P i ps pc f o = (b, tyE ok, o2) ∨ ((plnB P i ps pc f o).2.1 = 27 ∧ ok = false)) → validm_ck_seq.L22 (some ⟨cb, 0, none⟩) (pc : Int) (some ⟨lb, 0, none⟩) (r.length + 1) (r.length + 1) (resS f.res) ((f.fl : Nat) : Int) ((7 - r.length : Nat) : Int) st2 f.dead ok b (PostB P i ps z w0 cb f r o0 NN) (fun _ _ => False) w := fun st2 o2 ok b ms2 h => by
    refine validm_ck_seq.step22 _ _ _ _ _ _ _ _ _ _ _ _ _ _ _ ?_
    unfold validm_ck_seq.V22
    refine RunsQ.post (one_spec b w) ?_
    rintro v w3 ⟨rfl, S3⟩
    refine ⟨_, rfl, (p.keep S3).fin ms2 h _ (fun hk => ?_)⟩
    rcases h with h | ⟨_, h⟩
    · have hov := p.ov
      rw [h] at hov
      have hne : b ≠ 64 := fun e => by
        -- select gives an operand of the stack, or the unknown one
        have hu : UT b := by
          rw [hp] at h
          unfold selP at h
          split at h
          · split at h
            · (first | (injection h with z__; injection z__ with h1 _) | injection h with h1 _)
              rw [← h1]
              exact popT_ut (popO_ov (carO_ov D.ov _)) (popT_ut (carO_ov D.ov _) (.inl rfl))
            · (first | (injection h with z__; injection z__ with _ h2) | injection h with _ h2)
              (first | (injection h2 with z__; injection z__ with h2 _) | injection h2 with h2 _)
              rw [hk] at h2; cases h2
          · (first | (injection h with z__; injection z__ with _ h2) | injection h with _ h2)
            (first | (injection h2 with z__; injection z__ with h2 _) | injection h2 with h2 _)
            rw [hk] at h2; cases h2
        rcases hu with g | g
        · omega
        · omega
      unfold resS; rw [if_neg hne]
    · rw [hk] at h; cases h
  have L16 : ∀ (st2 : ByteArray) (o2 : List Int) (ok : Bool) (a : Int), MS st2 o2 o0 → o2.length ≤ 10 → (ok = true → carB 127 f o = true ∧ popB 0 f (carO 127 f o) = true ∧ a = popT 0 f (carO 127 f o) ∧ o2 = popO f (carO 127 f o)) → (ok = false → (plnB P i ps pc f o).2.1 = 27) →
      validm_ck_seq.L16 (some ⟨cb, 0, none⟩) (pc : Int) (some ⟨lb, 0, none⟩) (r.length + 1) (r.length + 1) (resS f.res) ((f.fl : Nat) : Int) ((7 - r.length : Nat) : Int) st2 f.dead ok a 0 (PostB P i ps z w0 cb f r o0 NN) (fun _ _ => False) w := fun st2 o2 ok a ms2 ol2 h hn => by
    have hl2 := ms2.len
    refine validm_ck_seq.step16 _ _ _ _ _ _ _ _ _ _ _ _ _ _ _ _ ?_
    unfold validm_ck_seq.V16
    cases ok with
    | true =>
      refine cond_true' rfl (RunsQ.post (mpop_spec ms2 D.l0 (by omega) a w) ?_)
      rintro v w3 ⟨rfl, st3, rfl, ms3⟩
      obtain ⟨h1, h2, h3, h4⟩ := h rfl
      refine ⟨_, _, _, rfl, L22 st3 _ _ _ ms3 (.inl ?_)⟩
      rw [hp]
      unfold selP
      rw [if_pos h1, if_pos h2, h3, h4]
    | false => exact cond_false' rfl (L22 st2 o2 false 0 ms2 (.inr ⟨hn rfl, rfl⟩))
  refine validm_ck_seq.step12 _ _ _ _ _ _ _ _ _ _ _ _ _ _ _ _ _ _ ?_
  unfold validm_ck_seq.V12
  refine cond_false' rfl (cond_false' (by rw [ho]; rfl) (cond_true' (by rw [ho]; rfl) (RunsQ.post (mpop_car 127 ⟨by decide, by decide⟩ D.l0 D.ms (by omega) w) ?_)))
  rintro v w2 ⟨rfl, st2, y, rfl, ms2⟩
  have ol2 := carO_len 127 f o D.hf
  have hl2 := ms2.len
  refine ⟨_, _, _, rfl, ?_⟩
  cases hb : carB 127 f o with
  | false =>
    refine cond_false' rfl (L16 st2 _ false 0 ms2 (by omega) (fun h => by cases h) (fun _ => ?_))
    rw [hp]; unfold selP; rw [if_neg (by rw [hb]; decide)]
  | true =>
    refine cond_true' rfl (RunsQ.post (mpop_spec ms2 D.l0 (by omega) 0 w2) ?_)
    rintro v w3 ⟨rfl, st3, rfl, ms3⟩
    have ol3 := popO_le (f := f) (carO 127 f o)
    refine ⟨_, _, _, rfl, L16 st3 _ _ _ ms3 (by omega) (fun h => ⟨hb, h, rfl, rfl⟩) (fun h => ?_)⟩
    rw [hp]; unfold selP; rw [if_pos hb, if_neg (by rw [h]; decide)]

theorem locT_eq (ps ds : ByteArray) {x : Int} (h0 : 0 ≤ x) : locT ps ds x = if (((ps ++ ds).size : Nat) : Int) ≤ x then none else some (byteAt (ps ++ ds) x.toNat) := by
  unfold locT
  rw [ByteArray.size_append, byteAt_append]
  by_cases h1 : x < (ps.size : Int)
  · rw [if_pos h1, if_neg (by omega), if_pos (by omega)]
  · rw [if_neg h1]
    by_cases h2 : x - ps.size < (ds.size : Int)
    · rw [if_pos h2, if_neg (by omega), if_neg (by omega)]
      congr 2; omega
    · rw [if_neg h2, if_pos (by omega)]

abbrev M17 (cb lb : Nat) (f : Fr) (r : List Fr) (pc : Nat) (st : ByteArray) (xb : Nat) (op : Int) (t : Bool) (R : Value → World → Prop) (w : World) : Prop :=
  validm_ck_seq.L17 (some ⟨cb, 0, none⟩) (pc : Int) (some ⟨lb, 0, none⟩) (r.length + 1) (r.length + 1) (resS f.res) ((f.fl : Nat) : Int) ((7 - r.length : Nat) : Int) st f.dead xb op true ⟨#[]⟩ t R (fun _ _ => False) w
theorem m_loc (p : MP wd w0 w L mb m P cb fb i ps lb f r n pc st o o0 may u z xb NN) (ho : 32 ≤ ((P.fn i).ins pc).op ∧ ((P.fn i).ins pc).op ≤ 34) : M17 cb lb f r pc st xb ((P.fn i).ins pc).op true (PostB P i ps z w0 cb f r o0 NN) w := by
  have D := p.b.D
  have hlen := D.ms.len; have ol := D.ol
  have hin := p.b.ins
  have x0 := hin.x0; have x1 := hin.x1
  have hp : plnB P i ps pc f o = locP ps (strOfNums (P.fn i).ls) ((P.fn i).ins pc) f o := by
    show plnP P ps (strOfNums (P.fn i).ls) ((P.fn i).ins pc) f o = _
    unfold plnP
    rw [if_neg (by omega), if_neg (by omega), if_neg (by omega), if_pos ho]
  have z1 := p.b.C.vp.1; have z2 := p.b.C.fn.ls.1
  have zs : (ps ++ strOfNums (P.fn i).ls).size ≤ 10 := by rw [ByteArray.size_append]; omega
  have eL := locT_eq ps (strOfNums (P.fn i).ls) x0
  refine validm_ck_seq.step17 _ _ _ _ _ _ _ _ _ _ _ _ _ _ _ _ _ _ ?_
  unfold validm_ck_seq.V17
  refine cond_true' rfl ?_
  simp only [true_and, nilV_some, Nat.zero_add]
  have p1 := p.drew
  refine ⟨_, p1.b.I.c1, _, p1.b.C.c2, ?_⟩
  rw [wrap_u64 (by omega) (by omega), wrap_u64 (by omega) (by omega)]
  refine cond_intro (fun h => ?_) (fun h => ?_)
  · rw [if_pos (of_decide_eq_true h)] at eL
    exact p1.fail (by decide) (by rw [hp]; unfold locP; rw [eL]) _ _
  have h : ¬ (((ps ++ strOfNums (P.fn i).ls).size : Nat) : Int) ≤ ((P.fn i).ins pc).x := of_decide_eq_false h
  rw [if_neg h] at eL
  have p2 := p1.drew
  refine ⟨_, p2.b.C.c2, _, p2.b.I.c1, ⟨by omega, by omega⟩, ?_⟩
  have vt := locT_vt p.b.C.vp p.b.C.fn.ls x0 eL
  generalize byteAt (ps ++ strOfNums (P.fn i).ls) ((P.fn i).ins pc).x.toNat = t at eL vt ⊢
  have hq : plnB P i ps pc f o = if ((P.fn i).ins pc).op = 32 then (t, 0, o) else ((if ((P.fn i).ins pc).op = 33 then 64 else t), tyE (carB t f o), carO t f o) := by rw [hp]; unfold locP; rw [eL]
  have n64 : ¬ t = 64 := by omega
  have er : strOfNums [t] = resS t := by unfold resS; rw [if_neg n64]
  have L23 : ∀ (st2 : ByteArray) (o2 : List Int) (ok : Bool), MS st2 o2 o0 → plnB P i ps pc f o = ((if ((P.fn i).ins pc).op = 33 then 64 else t), tyE ok, o2) → validm_ck_seq.L23 (some ⟨cb, 0, none⟩) (pc : Int) (some ⟨lb, 0, none⟩) (r.length + 1) (r.length + 1) (resS f.res) ((f.fl : Nat) : Int) ((7 - r.length : Nat) : Int) st2 f.dead ((P.fn i).ins pc).op ok ⟨#[]⟩ t (PostB P i ps z w0 cb f r o0 NN) (fun _ _ => False) w.drew.drew := fun st2 o2 ok ms2 hz => by
    refine validm_ck_seq.step23 _ _ _ _ _ _ _ _ _ _ _ _ _ _ _ _ _ ?_
    unfold validm_ck_seq.V23
    refine cond_intro (fun g => ?_) (fun g => ?_)
    · have g : ¬ ((P.fn i).ins pc).op = 33 := by simpa using g
      refine RunsQ.post (one_spec t w.drew.drew) ?_
      rintro v w3 ⟨rfl, S3⟩
      rw [if_neg g] at hz
      exact ⟨_, rfl, (p2.keep S3).fin ms2 (.inl hz) _ (fun _ => er)⟩
    · have g : ((P.fn i).ins pc).op = 33 := by simpa using g
      rw [if_pos g] at hz
      exact p2.fin ms2 (.inl hz) _ (fun _ => rfl)
  refine cond_intro (fun g => ?_) (fun g => ?_)
  · have g : ¬ ((P.fn i).ins pc).op = 32 := by simpa using g
    refine RunsQ.post (mpop_car t vt D.l0 D.ms (by omega) w.drew.drew) ?_
    rintro v w3 ⟨rfl, st3, y, rfl, ms3⟩
    exact ⟨_, _, _, rfl, L23 st3 _ _ ms3 (by rw [hq, if_neg g])⟩
  · have g : ((P.fn i).ins pc).op = 32 := by simpa using g
    exact L23 st o true D.ms (by rw [hq, if_pos g, if_neg (by omega)]; rfl)
end
end Go.Proofs.Qxb6500322a
