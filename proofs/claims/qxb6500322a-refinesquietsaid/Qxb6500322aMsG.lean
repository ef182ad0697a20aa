/-
  The model of the validator: memory, constants, numbers.
-/
import Derived.Test.Qxb6500322aMsF
set_option linter.unusedSimpArgs false
set_option linter.unusedVariables false
set_option maxRecDepth 100000
set_option linter.unusedSectionVars false
namespace Go.Proofs.Qxb6500322a
open Go Go.Vc

theorem mem_none : (api_MemSig.F 63).1 = 0 ∧ (api_MemSig.F 64).1 = 0 := by
  constructor <;> kernel_rfl
theorem align_eq {wd x : Int} (hw : wd = 1 ∨ wd = 2 ∨ wd = 4 ∨ wd = 8) (h0 : 0 ≤ x) (h3 : ¬ x > 3) : decide (IntKind.wrap .i64 ((1 : Int) * 2 ^ (min (Int.toNat x) (IntKind.bits .i64))) > wd) = alignBad wd x := by
  have hx : x = 0 ∨ x = 1 ∨ x = 2 ∨ x = 3 := by omega
  rcases hw with rfl | rfl | rfl | rfl <;> rcases hx with rfl | rfl | rfl | rfl <;> decide

section
variable {wd w0 w w' : World} {L mb : Nat} {m : Nat → Value} {P : PM} {cb fb i : Nat} {ps : ByteArray} {lb : Nat} {k : List Fr} {f : Fr} {r : List Fr}
variable {n pc : Nat} {st : ByteArray} {o o0 : List Int} {may : Nat → Bool} {u : Nat} {z : Int × Int × List Int × List Fr} {xb NN : Nat}

abbrev M28 (cb lb : Nat) (f : Fr) (r : List Fr) (pc : Nat) (st : ByteArray) (xb : Nat) (op : Int) (t : Bool) (R : Value → World → Prop) (w : World) : Prop :=
  validm_ck_seq.L28 (some ⟨cb, 0, none⟩) (pc : Int) (some ⟨lb, 0, none⟩) (r.length + 1) (r.length + 1) (resS f.res) ((f.fl : Nat) : Int) ((7 - r.length : Nat) : Int) st f.dead xb op true ⟨#[]⟩ t R (fun _ _ => False) w
abbrev M30 (cb lb : Nat) (f : Fr) (r : List Fr) (pc : Nat) (st : ByteArray) (xb : Nat) (op : Int) (t : Bool) (R : Value → World → Prop) (w : World) : Prop :=
  validm_ck_seq.L30 (some ⟨cb, 0, none⟩) (pc : Int) (some ⟨lb, 0, none⟩) (r.length + 1) (r.length + 1) (resS f.res) ((f.fl : Nat) : Int) ((7 - r.length : Nat) : Int) st f.dead xb op true t R (fun _ _ => False) w

theorem m_mem (p : MP wd w0 w L mb m P cb fb i ps lb f r n pc st o o0 may u z xb NN) (ho : 40 ≤ ((P.fn i).ins pc).op ∧ ((P.fn i).ins pc).op ≤ 64) : M28 cb lb f r pc st xb ((P.fn i).ins pc).op true (PostB P i ps z w0 cb f r o0 NN) w := by
  have D := p.b.D
  have hlen := D.ms.len; have ol := D.ol
  have hin := p.b.ins
  have x0 := hin.x0; have x1 := hin.x1
  have hp : plnB P i ps pc f o = memP P ((P.fn i).ins pc) f o := by
    show plnP P ps (strOfNums (P.fn i).ls) ((P.fn i).ins pc) f o = _
    unfold plnP
    rw [if_neg (by omega), if_neg (by omega), if_neg (by omega), if_neg (by omega), if_neg (by omega), if_pos ho]
  generalize hO : ((P.fn i).ins pc).op = op at ho
  refine validm_ck_seq.step28 _ _ _ _ _ _ _ _ _ _ _ _ _ _ _ _ _ _ ?_
  unfold validm_ck_seq.V28
  simp only [true_and, nilV_some, Nat.zero_add]
  refine cond_true' rfl ⟨_, p.b.C.c0, ?_⟩
  rw [nilV_some]
  refine ⟨_, p.b.C.H.c5, cond_intro (fun h => ?_) (fun h => ?_)⟩
  · exact p.fail (by decide) (by rw [hp]; unfold memP; rw [if_pos (of_decide_eq_true h)]) _ _
  have n0 : ¬ P.mmin < 0 := of_decide_eq_false h
  refine RunsQ.post (api_MemSig.pure op w) ?_
  rintro v w8 ⟨rfl, rfl⟩
  refine ⟨_, _, _, rfl, ?_⟩
  -- the last steps
  have L36 : ∀ (st2 : ByteArray) (o2 : List Int) (ok : Bool) (t : Int), t = (api_MemSig.F op).2.1 → MS st2 o2 o0 → (plnB P i ps pc f o = ((if op ≤ 53 then t else if op ≥ 63 then 127 else 64), tyE ok, o2) ∨ ((plnB P i ps pc f o).2.1 = 27 ∧ ok = false)) →
      validm_ck_seq.L36 (some ⟨cb, 0, none⟩) (pc : Int) (some ⟨lb, 0, none⟩) (r.length + 1) (r.length + 1) (resS f.res) ((f.fl : Nat) : Int) ((7 - r.length : Nat) : Int) st2 f.dead op ok ⟨#[]⟩ t (PostB P i ps z w0 cb f r o0 NN) (fun _ _ => False) w8 := fun st2 o2 ok t et ms2 h => by
    refine validm_ck_seq.step36 _ _ _ _ _ _ _ _ _ _ _ _ _ _ _ _ _ ?_
    unfold validm_ck_seq.V36
    refine cond_intro (fun g => ?_) (fun g => cond_intro (fun g2 => ?_) (fun g2 => ?_))
    · have g : op ≤ 53 := of_decide_eq_true g
      rw [if_pos g] at h
      refine RunsQ.post (one_spec t w8) ?_
      rintro v w3 ⟨rfl, S3⟩
      have vt := (mem_vt (op := op) (by omega) (by omega)).1
      rw [← et] at vt
      exact ⟨_, rfl, (p.keep S3).fin ms2 h _ (fun _ => by unfold resS; rw [if_neg (by omega)])⟩
    · have g : ¬ op ≤ 53 := of_decide_eq_false g
      have g2 : op ≥ 63 := of_decide_eq_true g2
      rw [if_neg g, if_pos g2] at h
      refine RunsQ.post (one_spec 127 w8) ?_
      rintro v w3 ⟨rfl, S3⟩
      exact ⟨_, rfl, (p.keep S3).fin ms2 h _ (fun _ => rfl)⟩
    · have g : ¬ op ≤ 53 := of_decide_eq_false g
      have g2 : ¬ op ≥ 63 := of_decide_eq_false g2
      rw [if_neg g, if_neg g2] at h
      exact p.fin ms2 h _ (fun _ => rfl)
  have L33 : ∀ (st2 : ByteArray) (o2 : List Int) (ok : Bool), MS st2 o2 o0 → o2.length ≤ 10 → (ok = true → plnB P i ps pc f o = if op = 63 then (127, 0, o2) else ((if op ≤ 53 then (api_MemSig.F op).2.1 else if op ≥ 63 then 127 else 64), tyE (carB 127 f o2), carO 127 f o2)) → (ok = false → (plnB P i ps pc f o).2.1 = 27) →
      validm_ck_seq.L33 (some ⟨cb, 0, none⟩) (pc : Int) (some ⟨lb, 0, none⟩) (r.length + 1) (r.length + 1) (resS f.res) ((f.fl : Nat) : Int) ((7 - r.length : Nat) : Int) st2 f.dead op ok ⟨#[]⟩ (api_MemSig.F op).2.1 (PostB P i ps z w0 cb f r o0 NN) (fun _ _ => False) w8 := fun st2 o2 ok ms2 ol2 h hn => by
    refine validm_ck_seq.step33 _ _ _ _ _ _ _ _ _ _ _ _ _ _ _ _ _ ?_
    unfold validm_ck_seq.V33
    cases ok with
    | false =>
      refine cond_false' rfl ?_
      refine validm_ck_seq.step35 _ _ _ _ _ _ _ _ _ _ _ _ _ _ _ _ _ _ ?_
      unfold validm_ck_seq.V35
      exact cond_false' rfl (L36 st2 o2 false _ rfl ms2 (.inr ⟨hn rfl, rfl⟩))
    | true =>
      refine cond_true' rfl ?_
      have h := h rfl
      refine validm_ck_seq.step35 _ _ _ _ _ _ _ _ _ _ _ _ _ _ _ _ _ _ ?_
      unfold validm_ck_seq.V35
      refine cond_intro (fun g => ?_) (fun g => ?_)
      · have g : ¬ op = 63 := by simpa using g
        rw [if_neg g] at h
        refine RunsQ.post (mpop_car 127 ⟨by decide, by decide⟩ D.l0 ms2 (by omega) w8) ?_
        rintro v w3 ⟨rfl, st3, y, rfl, ms3⟩
        exact ⟨_, _, _, rfl, L36 st3 _ _ _ rfl ms3 (.inl h)⟩
      · have g : op = 63 := by simpa using g
        rw [if_pos g] at h
        exact L36 st2 o2 true _ rfl ms2 (.inl (by rw [h, if_neg (by omega), if_pos (by omega)]; rfl))
  have L29 : ∀ t : Bool, (t = true ↔ (op ≤ 62 ∧ alignBad (api_MemSig.F op).1 ((P.fn i).ins pc).x = true)) → validm_ck_seq.L29 (some ⟨cb, 0, none⟩) (pc : Int) (some ⟨lb, 0, none⟩) (r.length + 1) (r.length + 1) (resS f.res) ((f.fl : Nat) : Int) ((7 - r.length : Nat) : Int) st f.dead op true ⟨#[]⟩ (api_MemSig.F op).2.1 t (PostB P i ps z w0 cb f r o0 NN) (fun _ _ => False) w8 := fun t ht => by
    refine validm_ck_seq.step29 _ _ _ _ _ _ _ _ _ _ _ _ _ _ _ _ _ _ ?_
    unfold validm_ck_seq.V29
    refine cond_intro (fun g => ?_) (fun g => ?_)
    · obtain ⟨g1, g2⟩ := ht.1 g
      refine p.fail (by decide) ?_ _ _
      rw [hp]; unfold memP
      rw [hO, if_neg n0, if_neg (by omega), if_pos g1, if_pos g2]
    have nt : ¬ (op ≤ 62 ∧ alignBad (api_MemSig.F op).1 ((P.fn i).ins pc).x = true) := fun e => by have := ht.2 e; rw [this] at g; cases g
    have nst : ¬ (54 ≤ op ∧ op ≤ 62) → plnB P i ps pc f o = if op = 63 then (127, 0, o) else ((if op ≤ 53 then (api_MemSig.F op).2.1 else if op ≥ 63 then 127 else 64), tyE (carB 127 f o), carO 127 f o) := fun hn => by
      rw [hp]; unfold memP memL
      rw [hO, if_neg n0]
      by_cases e63 : op = 63
      · rw [if_pos e63, if_pos e63]
      · rw [if_neg e63, if_neg e63]
        by_cases e62 : op ≤ 62
        · rw [if_pos e62, if_neg (fun e => nt ⟨e62, e⟩), if_neg (by omega), if_pos (by omega)]
        · rw [if_neg e62, if_neg (by omega), if_pos (by omega)]
    have L31f : ¬ (54 ≤ op ∧ op ≤ 62) → validm_ck_seq.L31 (some ⟨cb, 0, none⟩) (pc : Int) (some ⟨lb, 0, none⟩) (r.length + 1) (r.length + 1) (resS f.res) ((f.fl : Nat) : Int) ((7 - r.length : Nat) : Int) st f.dead op true ⟨#[]⟩ (api_MemSig.F op).2.1 false (PostB P i ps z w0 cb f r o0 NN) (fun _ _ => False) w8 := fun hn => by
      refine validm_ck_seq.step31 _ _ _ _ _ _ _ _ _ _ _ _ _ _ _ _ _ _ ?_
      unfold validm_ck_seq.V31
      exact cond_false' rfl (L33 st o true D.ms D.ol (fun _ => nst hn) (fun h => by cases h))
    refine cond_intro (fun g1 => ?_) (fun g1 => ?_)
    · have g1 : op ≥ 54 := of_decide_eq_true g1
      by_cases e62 : op ≤ 62
      · rw [decide_eq_true e62]
        refine validm_ck_seq.step31 _ _ _ _ _ _ _ _ _ _ _ _ _ _ _ _ _ _ ?_
        unfold validm_ck_seq.V31
        have vt := (mem_vt (op := op) (by omega) (by omega)).1
        refine cond_true' rfl (RunsQ.post (mpop_car _ vt D.l0 D.ms (by omega) w8) ?_)
        rintro v w3 ⟨rfl, st3, y, rfl, ms3⟩
        have ol3 := carO_len (api_MemSig.F op).2.1 f o D.hf
        have hq : plnB P i ps pc f o = if carB (api_MemSig.F op).2.1 f o = true then (64, tyE (carB 127 f (carO (api_MemSig.F op).2.1 f o)), carO 127 f (carO (api_MemSig.F op).2.1 f o)) else (64, 27, carO (api_MemSig.F op).2.1 f o) := by
          rw [hp]; unfold memP memL
          rw [hO, if_neg n0, if_neg (by omega), if_pos e62, if_neg (fun e => nt ⟨e62, e⟩), if_pos g1]
        exact ⟨_, _, _, rfl, L33 st3 _ _ ms3 (by omega) (fun hk => by rw [hq, if_pos hk, if_neg (by omega), if_neg (by omega), if_neg (by omega)]) (fun hk => by rw [hq, if_neg (by rw [hk]; decide)])⟩
      · rw [decide_eq_false e62]
        exact L31f (by omega)
    · have g1 : ¬ op ≥ 54 := of_decide_eq_false g1
      exact L31f (by omega)
  by_cases h62 : op ≤ 62
  · obtain ⟨_, hw⟩ := mem_vt (op := op) ho.1 h62
    refine cond_true' (bne_iff_ne.2 (by omega)) ⟨_, p.b.I.c1, cond_intro (fun g => ?_) (fun g => ⟨_, p.b.I.c1, x0, ?_⟩)⟩
    · have g : ((P.fn i).ins pc).x > 3 := of_decide_eq_true g
      refine L29 true ⟨fun _ => ⟨h62, ?_⟩, fun _ => rfl⟩
      unfold alignBad
      rw [decide_eq_true g, Bool.true_or]
    · have g : ¬ ((P.fn i).ins pc).x > 3 := of_decide_eq_false g
      refine L29 _ ?_
      rw [align_eq hw x0 g]
      exact ⟨fun e => ⟨h62, e⟩, fun e => e.2⟩
  · have h0 : (api_MemSig.F op).1 = 0 := by
      have : op = 63 ∨ op = 64 := by omega
      rcases this with rfl | rfl
      · exact mem_none.1
      · exact mem_none.2
    refine cond_false' ?_ (L29 false ⟨fun h => (by cases h), fun h => absurd h.1 h62⟩)
    rw [h0]; rfl

theorem m_kon (p : MP wd w0 w L mb m P cb fb i ps lb f r n pc st o o0 may u z xb NN) (ho : 65 ≤ ((P.fn i).ins pc).op ∧ ((P.fn i).ins pc).op ≤ 68) : M30 cb lb f r pc st xb ((P.fn i).ins pc).op true (PostB P i ps z w0 cb f r o0 NN) w := by
  have D := p.b.D
  refine validm_ck_seq.step30 _ _ _ _ _ _ _ _ _ _ _ _ _ _ _ _ _ ?_
  unfold validm_ck_seq.V30
  refine cond_true' rfl ⟨_, _, _, p.b.I.c0, p.b.I.c1, p.b.I.c2, RunsQ.post (constType_spec ((P.fn i).ins pc) w) ?_⟩
  rintro v w5 ⟨rfl, S5⟩
  refine ⟨_, rfl, RunsQ.post (one_spec _ w5) ?_⟩
  rintro v w8 ⟨rfl, S8⟩
  refine ⟨_, rfl, ((p.keep S5).keep S8).fin D.ms (ok := true) (g := 127 - (((P.fn i).ins pc).op - 65)) (.inl ?_) _ (fun _ => ?_)⟩
  · show plnP P ps (strOfNums (P.fn i).ls) ((P.fn i).ins pc) f o = _
    unfold plnP
    rw [if_neg (by omega), if_neg (by omega), if_neg (by omega), if_neg (by omega), if_neg (by omega), if_neg (by omega), if_pos ho]
    rfl
  · rw [konT_eq ho.1 ho.2]
    unfold resS
    rw [if_neg (by omega)]

theorem m_num (p : MP wd w0 w L mb m P cb fb i ps lb f r n pc st o o0 may u z xb NN) (ho : 69 ≤ ((P.fn i).ins pc).op ∧ ((P.fn i).ins pc).op ≤ 191) : M30 cb lb f r pc st xb ((P.fn i).ins pc).op false (PostB P i ps z w0 cb f r o0 NN) w := by
  have D := p.b.D
  have ol := D.ol
  have hp : plnB P i ps pc f o = numP ((P.fn i).ins pc) f o := by
    show plnP P ps (strOfNums (P.fn i).ls) ((P.fn i).ins pc) f o = _
    unfold plnP
    rw [if_neg (by omega), if_neg (by omega), if_neg (by omega), if_neg (by omega), if_neg (by omega), if_neg (by omega), if_neg (by omega)]
  have hn := num_in ho.1 ho.2
  have vt := num_vt ho.1 ho.2
  have hq : plnB P i ps pc f o = if carB (api_NumSig.F ((P.fn i).ins pc).op).2.1 f o = true ∧ (api_NumSig.F ((P.fn i).ins pc).op).1 = 2 then ((api_NumSig.F ((P.fn i).ins pc).op).2.2, tyE (carB (api_NumSig.F ((P.fn i).ins pc).op).2.1 f (carO (api_NumSig.F ((P.fn i).ins pc).op).2.1 f o)), carO (api_NumSig.F ((P.fn i).ins pc).op).2.1 f (carO (api_NumSig.F ((P.fn i).ins pc).op).2.1 f o))
      else ((api_NumSig.F ((P.fn i).ins pc).op).2.2, tyE (carB (api_NumSig.F ((P.fn i).ins pc).op).2.1 f o), carO (api_NumSig.F ((P.fn i).ins pc).op).2.1 f o) := by
    rw [hp]; unfold numP; rw [if_neg hn]
  refine validm_ck_seq.step30 _ _ _ _ _ _ _ _ _ _ _ _ _ _ _ _ _ ?_
  unfold validm_ck_seq.V30
  refine cond_false' rfl (RunsQ.post (api_NumSig.pure _ w) ?_)
  rintro v w1 ⟨rfl, rfl⟩
  refine ⟨_, _, _, rfl, ?_⟩
  generalize api_NumSig.F ((P.fn i).ins pc).op = F at hn vt hq
  obtain ⟨N, a, b⟩ := F
  simp only at hn vt hq ⊢
  have er : strOfNums [b] = resS b := by unfold resS; rw [if_neg (by omega)]
  have L34 : ∀ (st2 : ByteArray) (o2 : List Int) (ok : Bool), MS st2 o2 o0 → plnB P i ps pc f o = (b, tyE ok, o2) → validm_ck_seq.L34 (some ⟨cb, 0, none⟩) (pc : Int) (some ⟨lb, 0, none⟩) (r.length + 1) (r.length + 1) (resS f.res) ((f.fl : Nat) : Int) ((7 - r.length : Nat) : Int) st2 f.dead ok b (PostB P i ps z w0 cb f r o0 NN) (fun _ _ => False) w1 := fun st2 o2 ok ms2 h => by
    refine validm_ck_seq.step34 _ _ _ _ _ _ _ _ _ _ _ _ _ _ _ ?_
    unfold validm_ck_seq.V34
    refine RunsQ.post (one_spec b w1) ?_
    rintro v w3 ⟨rfl, S3⟩
    exact ⟨_, rfl, (p.keep S3).fin ms2 (.inl h) _ (fun _ => er)⟩
  refine cond_false' (beq_eq_false_iff_ne.2 hn) (RunsQ.post (mpop_car a vt.1 D.l0 D.ms (by omega) w1) ?_)
  rintro v w3 ⟨rfl, st3, y, rfl, ms3⟩
  have ol3 := carO_len a f o D.hf
  refine ⟨_, _, _, rfl, ?_⟩
  have L32f : ¬ (carB a f o = true ∧ N = 2) → validm_ck_seq.L32 (some ⟨cb, 0, none⟩) (pc : Int) (some ⟨lb, 0, none⟩) (r.length + 1) (r.length + 1) (resS f.res) ((f.fl : Nat) : Int) ((7 - r.length : Nat) : Int) st3 f.dead (carB a f o) a b false (PostB P i ps z w0 cb f r o0 NN) (fun _ _ => False) w3 := fun hn2 => by
    refine validm_ck_seq.step32 _ _ _ _ _ _ _ _ _ _ _ _ _ _ _ _ _ ?_
    unfold validm_ck_seq.V32
    exact cond_false' rfl (L34 st3 _ _ ms3 (by rw [hq, if_neg hn2]))
  cases hb : carB a f o with
  | false =>
    rw [hb] at L32f
    exact cond_false' rfl (L32f (fun e => by cases e.1))
  | true =>
    refine cond_true' rfl ?_
    by_cases h2 : N = 2
    · have : (N == 2) = true := beq_iff_eq.2 h2
      rw [this]
      refine validm_ck_seq.step32 _ _ _ _ _ _ _ _ _ _ _ _ _ _ _ _ _ ?_
      unfold validm_ck_seq.V32
      refine cond_true' rfl (RunsQ.post (mpop_car a vt.1 D.l0 ms3 (by omega) w3) ?_)
      rintro v w4 ⟨rfl, st4, y4, rfl, ms4⟩
      exact ⟨_, _, _, rfl, L34 st4 _ _ ms4 (by rw [hq, if_pos ⟨hb, h2⟩])⟩
    · have : (N == 2) = false := beq_eq_false_iff_ne.2 h2
      rw [this]
      rw [hb] at L32f
      exact L32f (fun e => h2 e.2)
end
end Go.Proofs.Qxb6500322a
