/-
  The model of the validator: br_table.
-/
import Derived.Test.Qxb6500322aMsC
set_option linter.unusedSimpArgs false
set_option linter.unusedVariables false
set_option maxRecDepth 100000
set_option linter.unusedSectionVars false
namespace Go.Proofs.Qxb6500322a
open Go Go.Vc

section
variable {wd w0 w w' : World} {L mb : Nat} {m : Nat → Value} {P : PM} {cb fb i : Nat} {ps : ByteArray} {lb : Nat} {k : List Fr} {f : Fr} {r : List Fr}
variable {n pc : Nat} {st : ByteArray} {o o0 : List Int} {may : Nat → Bool} {u : Nat} {z : Int × Int × List Int × List Fr} {xb NN : Nat}

/-- What table leaves: a label that is not there is told; else whether all fit. -/
def TabOk (w : World) (cb : Nat) (e pc : Int) : Value → World → Prop := fun v w' => ∃ (st' : ByteArray) (ok : Bool), v = .tuple #[.string st', .bool ok] ∧
  ((e = 25 ∧ ok = true ∧ w'.cell? ⟨cb, 4, none⟩ = some (.int .i64 25) ∧ w'.cell? ⟨cb, 5, none⟩ = some (.int .i64 pc) ∧ Same [cb] w.heap.size w w') ∨
   (e = 0 ∧ ok = true ∧ Same [] w.heap.size w w') ∨ (e = 27 ∧ ok = false ∧ Same [] w.heap.size w w'))
/-- What br_table owes. -/
def tabE (fn : FnP) (x : Ins) (o : List Int) (f : Fr) (r : List Fr) : Int :=
  if carB 127 f o = true then (if ((r.length + 1 : Nat) : Int) ≤ fn.tabs (x.x + x.y - 1).toNat then 25 else tabL fn.tabs (f :: r) (carO 127 f o) f (labT (f :: r) (fn.tabs (x.x + x.y - 1).toNat).toNat == 64) x.y.toNat x.x.toNat) else 27

theorem res_eq64 {t s : Int} (h : (((resS t).size : Nat) : Int) != (((resS s).size : Nat) : Int)) : ((t == 64) = (s == 64)) = False := by
  have h := bne_iff_ne.1 h
  rw [resS_size, resS_size] at h
  refine propext ⟨fun e => h ?_, False.elim⟩
  by_cases a : t = 64 <;> by_cases b : s = 64
  · rw [if_pos a, if_pos b]
  · rw [beq_iff_eq.2 a, beq_eq_false_iff_ne.2 b] at e; cases e
  · rw [beq_iff_eq.2 b, beq_eq_false_iff_ne.2 a] at e; cases e
  · rw [if_neg a, if_neg b]
theorem res_ne64 {t s : Int} (h : ((((resS t).size : Nat) : Int) != (((resS s).size : Nat) : Int)) = false) : (t == 64) = (s == 64) := by
  have h : (((resS t).size : Nat) : Int) = (((resS s).size : Nat) : Int) := by simpa using h
  rw [resS_size, resS_size] at h
  by_cases a : t = 64 <;> by_cases b : s = 64
  · rw [a, b]
  · rw [if_pos a, if_neg b] at h; simp at h
  · rw [if_neg a, if_pos b] at h; simp at h
  · rw [beq_eq_false_iff_ne.2 a, beq_eq_false_iff_ne.2 b]

theorem mtable_spec (C : MC wd w0 w L mb m P cb fb i ps lb (f :: r)) (ms : MS st o o0) (l0 : o0.length = f.fl) (ol : o.length ≤ 10) (rl : r.length ≤ 6) (x : Ins) (hx : InsIn x) (y1 : 1 ≤ x.y) (y2 : x.y ≤ ((P.fn i).nTab : Int) - x.x) :
    Runs Try.prog validm_ck_table.id #[rp cb, insV x, .int .i64 (pc : Int), .slice (some ⟨lb, 0, none⟩) (r.length + 1) (r.length + 1), .string st, .bool f.dead] w (TabOk w cb (tabE (P.fn i) x o f r) pc) := by
  have x0 := hx.x0
  have B := C.fn.b
  have nT := B.nT
  have hlen := ms.len
  refine validm_ck_table.enter _ _ _ _ _ _ _ _ _ _ _ _ _ ?_
  unfold validm_ck_table.V
  refine letB_intro fun b11 hb => letW_intro fun w12 hw => ?_
  obtain ⟨I, S⟩ := ins_made (i := x) hb hw
  have hcl := C.lt
  have nb : b11 ≠ cb := by omega
  clear hw
  have C1 := C.keep S
  refine RunsQ.post (mpop_car 127 ⟨by decide, by decide⟩ l0 ms (by omega) w12) ?_
  rintro v w14 ⟨rfl, st2, y, rfl, ms2⟩
  refine ⟨_, _, _, rfl, ?_⟩
  unfold tabE
  cases hb127 : carB 127 f o with
  | false =>
    rw [if_neg (by decide)]
    exact cond_true' rfl ⟨st2, false, rfl, .inr (.inr ⟨rfl, rfl, S⟩)⟩
  | true =>
  rw [if_pos rfl]
  refine cond_false' rfl ?_
  have C2 := C1.drew
  have S2 := S.drew
  have rowF := C2.row _ C2.H
  have tb : ∃ a, (w14.drew).cell? ⟨fb, i * 4 + 3, none⟩ = some (.slice a (P.fn i).nTab (P.fn i).nTab) ∧ ∃ tk, a = some ⟨tk, 0, none⟩ ∧ TabRow w14.drew tk (P.fn i).nTab (P.fn i).tabs := by
    rcases rowF.c3 i C2.hi with ⟨t0, _⟩ | ⟨t0, tk, t1, t2, _⟩
    · omega
    · exact ⟨_, t1, tk, rfl, t2⟩
  obtain ⟨_, t1, tk, rfl, t2, _⟩ := tb
  have I2 := I.drew
  simp only [true_and, nilV_some, Nat.zero_add]
  have L1 : validm_ck_table.L1 (some ⟨cb, 0, none⟩) (pc : Int) (some ⟨lb, 0, none⟩) (r.length + 1) (r.length + 1) st2 f.dead b11 false (TabOk w cb (if ((r.length + 1 : Nat) : Int) ≤ (P.fn i).tabs (x.x + x.y - 1).toNat then 25 else tabL (P.fn i).tabs (f :: r) (carO 127 f o) f (labT (f :: r) ((P.fn i).tabs (x.x + x.y - 1).toNat).toNat == 64) x.y.toNat x.x.toNat) pc) (fun _ _ => False) w14.drew := by
    refine validm_ck_table.step1 _ _ _ _ _ _ _ _ _ _ _ _ ?_
    unfold validm_ck_table.V1
    simp only [true_and, nilV_some, Nat.zero_add]
    refine cond_false' rfl ⟨_, I2.c2, _, I2.c1, _, C2.c1, ?_⟩
    rw [nilV_some]
    have e1 : IntKind.wrap .i64 (IntKind.wrap .i64 (IntKind.wrap .i64 x.x + IntKind.wrap .i64 x.y) - 1) = (((x.x + x.y - 1).toNat : Nat) : Int) := by
      rw [wrap_i64 (x := x.x) (by omega) (by omega), wrap_i64 (x := x.y) (by omega) (by omega), wrap_i64 (x := x.x + x.y) (by omega) (by omega), wrap_i64 (by omega) (by omega)]; omega
    rw [e1]
    refine ⟨_, _, _, t1, ⟨by omega, by omega⟩, ?_⟩
    simp only [nilV_some, add_mk, Int.toNat_natCast, Nat.mul_one, Nat.zero_add]
    have hd := B.tabs (x.x + x.y - 1).toNat (by omega)
    refine ⟨_, t2 _ (by omega), ?_⟩
    generalize hD : (P.fn i).tabs (x.x + x.y - 1).toNat = d at hd ⊢
    rw [wrap_u64 (x := d) (by omega) (by omega), wrap_u64 (x := ((r.length + 1 : Nat) : Int)) (by omega) (by omega)]
    refine cond_intro (fun h => ?_) (fun h => ?_)
    · rw [if_pos (of_decide_eq_true h)]
      refine RunsQ.post (fail_spec C2 25 pc) ?_
      rintro v w3 ⟨rfl, h4, h5, S3⟩
      exact ⟨rfl, st2, true, rfl, .inl ⟨rfl, rfl, h4, h5, (S2.mono (Nat.le_refl _) (by simp)).trans (S3.mono S2.size (by simp))⟩⟩
    · have h : ¬ ((r.length + 1 : Nat) : Int) ≤ d := of_decide_eq_false h
      rw [if_neg h, lab_idx hd.1 (by omega) rl]
      refine ⟨⟨by omega, by omega⟩, ?_⟩
      simp only [nilV_some, add_mk, Int.toNat_natCast, Nat.mul_one, Nat.zero_add]
      have hdl : d.toNat < (f :: r).length := by rw [List.length_cons]; omega
      obtain ⟨lc, lv⟩ := C2.label hdl
      rw [List.length_cons] at lc
      refine ⟨_, lc, ?_⟩
      rw [wrap_i64 (x := x.y) (by omega) (by omega), wrap_i64 (x := x.x) (by omega) (by omega)]
      generalize ht : labT (f :: r) d.toNat = t at lc lv
      clear lc
      obtain ⟨yn, hy⟩ := Int.eq_ofNat_of_zero_le (show 0 ≤ x.y by omega)
      obtain ⟨xn, hx'⟩ := Int.eq_ofNat_of_zero_le x0
      rw [hy, hx', Int.toNat_natCast, Int.toNat_natCast]
      -- label by label
      suffices G : ∀ (q j : Nat), j + q = yn → validm_ck_table.L2 (some ⟨cb, 0, none⟩) (pc : Int) (some ⟨lb, 0, none⟩) (r.length + 1) (r.length + 1) st2 f.dead (yn : Int) (xn : Int) (resS t) (j : Int) (TabOk w cb (tabL (P.fn i).tabs (f :: r) (carO 127 f o) f (t == 64) q (xn + j)) pc) (fun _ _ => False) w14.drew from G yn 0 (by omega)
      intro q
      induction q with
      | zero =>
        intro j hj
        refine validm_ck_table.step2 _ _ _ _ _ _ _ _ _ _ _ _ _ _ ?_
        unfold validm_ck_table.V2
        exact cond_false' (decide_eq_false (by omega)) ⟨st2, true, rfl, .inr (.inl ⟨rfl, rfl, S2⟩)⟩
      | succ q ihq =>
        intro j hj
        refine validm_ck_table.step2 _ _ _ _ _ _ _ _ _ _ _ _ _ _ ?_
        unfold validm_ck_table.V2
        simp only [true_and, nilV_some, Nat.zero_add]
        have ew : IntKind.wrap .i64 ((xn : Int) + (j : Int)) = ((xn + j : Nat) : Int) := by rw [wrap_i64 (by omega) (by omega)]; omega
        rw [ew]
        refine cond_true' (decide_eq_true (by omega)) ⟨_, C2.c1, ?_⟩
        rw [nilV_some]
        refine ⟨_, _, _, t1, ⟨by omega, by omega⟩, ?_⟩
        simp only [nilV_some, add_mk, Int.toNat_natCast, Nat.mul_one, Nat.zero_add]
        have hd2 := B.tabs (xn + j) (by omega)
        refine ⟨_, t2 _ (by omega), ?_⟩
        rw [tabL_succ]
        generalize (P.fn i).tabs (xn + j) = d2 at hd2 ⊢
        have el : (((f :: r).length : Nat) : Int) = ((r.length + 1 : Nat) : Int) := rfl
        rw [el, wrap_u64 (x := d2) (by omega) (by omega), wrap_u64 (x := ((r.length + 1 : Nat) : Int)) (by omega) (by omega)]
        refine cond_intro (fun h => ?_) (fun h => ?_)
        · rw [if_pos (of_decide_eq_true h)]
          refine RunsQ.post (fail_spec C2 25 pc) ?_
          rintro v w3 ⟨rfl, h4, h5, S3⟩
          exact ⟨rfl, st2, true, rfl, .inl ⟨rfl, rfl, h4, h5, (S2.mono (Nat.le_refl _) (by simp)).trans (S3.mono S2.size (by simp))⟩⟩
        · have h : ¬ ((r.length + 1 : Nat) : Int) ≤ d2 := of_decide_eq_false h
          rw [if_neg h, lab_idx hd2.1 (by omega) rl]
          refine ⟨⟨by omega, by omega⟩, ?_⟩
          simp only [nilV_some, add_mk, Int.toNat_natCast, Nat.mul_one, Nat.zero_add]
          have hdl2 : d2.toNat < (f :: r).length := by rw [List.length_cons]; omega
          obtain ⟨lc2, lv2⟩ := C2.label hdl2
          rw [List.length_cons] at lc2
          generalize labT (f :: r) d2.toNat = t2' at lc2 lv2 ⊢
          refine ⟨_, lc2, cond_intro (fun h2 => ?_) (fun h2 => ?_)⟩
          · rw [if_neg (by rw [res_eq64 h2]; exact id)]
            exact ⟨st2, false, rfl, .inr (.inr ⟨rfl, rfl, S2⟩)⟩
          · rw [if_pos (res_ne64 h2), fitB_car t2' lv2]
            have ol2 : (carO 127 f o).length ≤ 1000 := by have := carO_len 127 f o (by omega); omega
            refine RunsQ.post (mcar_spec t2' lv2 l0 ms2 ol2 w14.drew) ?_
            rintro v w5 ⟨rfl, st5, rfl, _⟩
            refine ⟨_, _, rfl, ?_⟩
            cases hc : carB t2' f (carO 127 f o) with
            | false =>
              rw [if_neg (by decide)]
              exact cond_true' rfl ⟨st2, false, rfl, .inr (.inr ⟨rfl, rfl, S2⟩)⟩
            | true =>
              rw [if_pos rfl]
              refine cond_false' rfl ?_
              have ew2 : IntKind.wrap .i64 ((j : Int) + 1) = ((j + 1 : Nat) : Int) := by rw [wrap_i64 (by omega) (by omega)]; omega
              rw [ew2]
              exact ihq (j + 1) (by omega)
  refine ⟨_, I2.c2, cond_false' (decide_eq_false (by omega)) ⟨_, I2.c2, _, C2.c1, ?_⟩⟩
  rw [nilV_some]
  refine ⟨_, _, _, t1, ?_⟩
  rw [wrap_u64 (by omega) (by omega)]
  refine cond_false' (decide_eq_false (by omega)) ⟨_, I2.c1, _, C2.c1, ?_⟩
  rw [nilV_some]
  refine ⟨_, _, _, t1, _, I2.c2, ?_⟩
  rw [wrap_u64 (x := x.x) (by omega) (by omega), wrap_u64 (x := ((P.fn i).nTab : Int)) (by omega) (by omega), wrap_u64 (x := ((P.fn i).nTab : Int) - x.y) (by omega) (by omega), decide_eq_false (show ¬ x.x > ((P.fn i).nTab : Int) - x.y by omega)]
  exact L1

theorem m_tab (b : MB wd w0 w L mb m P cb fb i ps lb f r n pc st o o0 may u z xb NN) (ho : ((P.fn i).ins pc).op = 14) : M9 cb lb f r pc st xb ((P.fn i).ins pc).op false (PostB P i ps z w0 cb f r o0 NN) w := by
  have C := b.C; have D := b.D
  have hwf := D.wf
  rw [wfGo_succ, if_pos ho] at hwf
  obtain ⟨w1, w2, w3, wf⟩ := hwf
  refine validm_ck_seq.step9 _ _ _ _ _ _ _ _ _ _ _ _ _ _ _ _ _ _ ?_
  unfold validm_ck_seq.V9
  refine cond_false' rfl (cond_true' (by rw [ho]; rfl) ⟨_, _, _, b.I.c0, b.I.c1, b.I.c2, ?_⟩)
  refine RunsQ.post (mtable_spec C D.ms D.l0 D.ol D.rl ((P.fn i).ins pc) b.ins w2 (by omega)) ?_
  rintro v w23 ⟨st', ok, rfl, hT⟩
  refine ⟨_, _, rfl, ?_⟩
  have hs : stepV P ps (P.fn i) ((P.fn i).ins pc) pc o f r = tabV (P.fn i) ((P.fn i).ins pc) pc o f r := by
    unfold stepV
    rw [if_neg (by omega), if_neg (by omega), if_neg (by omega), if_neg (by omega), if_neg (by omega), if_neg (by omega), if_neg (by omega), if_pos ho]
  have ht : tabV (P.fn i) ((P.fn i).ins pc) pc o f r = if tabE (P.fn i) ((P.fn i).ins pc) o f r = 0 then .next (cutO f (carO 127 f o)) (f.kill :: r) else .done pc (tabE (P.fn i) ((P.fn i).ins pc) o f r) (carO 127 f o) (f :: r) := by
    unfold tabV tabE
    cases hb : carB 127 f o with
    | false => simp
    | true =>
      rw [if_pos rfl, if_pos rfl, if_neg (by omega)]
      split
      · rw [if_neg (by decide)]
      · rfl
  generalize tabE (P.fn i) ((P.fn i).ins pc) o f r = e at hT ht
  have ms1 : ∃ st1, MS st1 (carO 127 f o) o0 := by
    have := popsF_ms (f := f) (resS 127) D.l0 (resS 127).size D.ms
    rw [popsF_res 127 (.inr ⟨by decide, by decide⟩)] at this
    exact this
  rcases hT with ⟨rfl, rfl, h4, h5, S⟩ | ⟨rfl, rfl, S⟩ | ⟨rfl, rfl, S⟩
  · -- a label that is not there: the error sticks; behind it the loop ends
    rw [if_neg (by decide)] at ht
    refine validm_ck_seq.step8 _ _ _ _ _ _ _ _ _ _ _ _ _ _ _ ?_
    unfold validm_ck_seq.V8
    have hfl := C.fn.b.nI; have pn := D.pn; have ol := D.ol; have hf := D.hf
    have e8 : (((⟨#[]⟩ : ByteArray) ++ (⟨#[]⟩ : ByteArray)).size) = 0 := rfl
    refine cond_false' rfl ⟨by show ((0 + 0 : Nat) : Int) ≤ _; decide, ?_⟩
    rw [e8, wrap_i64 (by omega) (by omega), wrap_i64 (by omega) (by omega)]
    refine cond_false' (decide_eq_false (by omega)) ?_
    refine validm_ck_seq.step1 _ _ _ _ _ _ _ _ _ _ _ _ _ ?_
    unfold validm_ck_seq.V1
    simp only [nilV_some, Nat.zero_add]
    refine ⟨_, h4, cond_false' rfl ?_⟩
    refine SPost.err C h4 h5 S (by decide) (o' := carO 127 f o) (k' := f :: r) ?_ _ _
    rw [← b.hz, hs, ht]; rfl
  · rw [if_pos rfl] at ht
    exact m_dead (b.keep S) wf ms1 (carO_ov D.ov _) (ok := true) (fun _ => by rw [hs, ht]) (fun h => by cases h)
  · rw [if_neg (by decide)] at ht
    exact m_dead (b.keep S) wf ms1 (carO_ov D.ov _) (ok := false) (fun h => by cases h) (fun _ => ⟨_, _, by rw [hs, ht]⟩)
end
end Go.Proofs.Qxb6500322a
