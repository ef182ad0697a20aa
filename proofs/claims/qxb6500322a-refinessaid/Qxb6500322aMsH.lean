/-
  The model of the validator: blocks; the whole of seq.
-/
import Derived.Test.Qxb6500322aMsG
import Derived.Deep.DeepAppendRoom
set_option linter.unusedSimpArgs false
set_option linter.unusedVariables false
set_option maxRecDepth 100000
set_option linter.unusedSectionVars false
namespace Go.Proofs.Qxb6500322a
open Go Go.Vc

section
variable {wd w0 w w' : World} {L mb : Nat} {m : Nat → Value} {P : PM} {cb fb i : Nat} {ps : ByteArray} {lb : Nat} {k : List Fr} {f : Fr} {r : List Fr}
variable {n pc : Nat} {st : ByteArray} {o o0 : List Int} {may : Nat → Bool} {u : Nat} {z : Int × Int × List Int × List Fr} {xb NN : Nat}

theorem Heads.le {N N' : Nat} (h : Heads wd L mb m P cb fb i ps N) (hl : N' ≤ N) : Heads wd L mb m P cb fb i ps N' := fun n hn => h n (Nat.le_trans hn hl)
theorem MC.rebase (C : MC wd w0 w L mb m P cb fb i ps lb k) : MC wd w w L mb m P cb fb i ps lb k := { C with S := Same.refl _ _ _, h0 := C.lt }
/-- The labels' cells. -/
def labsC (k : List Fr) : List Value := k.reverse.map fun x => .string (resS (labF x))
theorem labsC_len (k : List Fr) : (labsC k).length = k.length := by unfold labsC; simp
theorem labsC_cons (x : Fr) (k : List Fr) : labsC (x :: k) = labsC k ++ [.string (resS (labF x))] := by unfold labsC; simp
theorem labsC_get {k : List Fr} {j : Nat} {v : Value} (h : (labsC k)[j]? = some v) : ∃ x, k.reverse[j]? = some x ∧ v = .string (resS (labF x)) := by
  unfold labsC at h
  rw [List.getElem?_map] at h
  cases hx : k.reverse[j]? with
  | none => rw [hx] at h; cases h
  | some x => rw [hx] at h; cases h; exact ⟨x, rfl, rfl⟩
theorem mo_open (h : MayOk (f :: r) may) (g : Fr) : MayOk (g :: f :: r) (upd may r.length (g.op == 4)) := fun j y hy hmay => by
  have hj := (List.getElem?_eq_some_iff.1 hy).1
  rw [List.length_reverse, List.length_cons, List.length_cons] at hj
  unfold upd at hmay
  by_cases e : j = r.length
  · have e2 : j + 1 = (f :: r).length := by simp; exact e
    rw [e2, rev_top] at hy; cases hy
    rw [if_pos e] at hmay
    exact eq_of_beq hmay
  · rw [if_neg e] at hmay
    rw [rev_low _ (f :: r) (by simp; omega)] at hy
    exact h j y hy hmay
theorem mo_drop {g : Fr} (h : MayOk (g :: r) may) : MayOk r may := fun j y hy hmay => by
  have hj := (List.getElem?_eq_some_iff.1 hy).1
  rw [List.length_reverse] at hj
  exact h j y (by rw [rev_low g r hj]; exact hy) hmay

/-- seq, out of its head. -/
theorem seq_run (C : MC wd w0 w L mb m P cb fb i ps lb (f :: r)) (h : M1 cb lb f r pc ⟨#[]⟩ (SPost P ps (P.fn i) z w cb f r o0 NN) w) (hd : f.dead = false) :
    Runs Try.prog validm_ck_seq.id #[rp cb, .int .i64 (pc : Int), .slice (some ⟨lb, 0, none⟩) (r.length + 1) (r.length + 1), .string (resS f.res), .int .i64 ((f.fl : Nat) : Int), .int .i64 ((7 - r.length : Nat) : Int)] w (SPost P ps (P.fn i) z w cb f r o0 NN) := by
  refine validm_ck_seq.enter _ _ _ _ _ _ _ _ _ _ _ ?_
  unfold validm_ck_seq.V
  unfold M1 at h
  rw [hd] at h
  exact h

/-- The error of the inner block goes home. -/
theorem m26e (C : MC wd w0 w L mb m P cb fb i ps lb (f :: r)) {wa wb : World} (Sa : Same [] w.heap.size w wa) (Sb : Same [cb] wa.heap.size wa wb) (E : SErr z cb wb) (push : ByteArray) (next : Int) (st1 : ByteArray) : 
    validm_ck_seq.L26 (some ⟨cb, 0, none⟩) (pc : Int) (some ⟨lb, 0, none⟩) (r.length + 1) (r.length + 1) (resS f.res) ((f.fl : Nat) : Int) ((7 - r.length : Nat) : Int) st1 f.dead true push next (PostB P i ps z w0 cb f r o0 NN) (fun _ _ => False) wb := by
  obtain ⟨e1, e2, e3⟩ := E
  refine validm_ck_seq.step26 _ _ _ _ _ _ _ _ _ _ _ _ _ _ _ _ ?_
  unfold validm_ck_seq.V26
  simp only [nilV_some, Nat.zero_add]
  refine ⟨_, e2, cond_true' (bne_iff_ne.2 e1) (.inl ⟨?_, ⟨_, _, rfl⟩, e1, e2, e3⟩)⟩
  have a := C.S.trans (Sa.mono C.S.size (by simp))
  exact (a.mono (Nat.le_refl _) (by simp)).trans (Sb.mono a.size (by simp))
/-- The block has closed: what it leaves is laid. -/
theorem m26 {o1 : List Int} {may0 : Nat → Bool} {u0 : Nat} (C : MC wd w0 w L mb m P cb fb i ps lb (f :: r)) (D : MH (P.fn i) (n + 1) pc st o1 o0 f r may0 u0) (IH : Heads wd L mb m P cb fb i ps n) {st2 : ByteArray} (ms : MS st2 o o0) (ol : o.length ≤ 10) (ov : OV o) {n' pc' : Nat} {o' : List Int} {f' : Fr} {may' : Nat → Bool} {u' : Nat} (hn : n' ≤ n) (hN : n ≤ NN)
    (hop : ((P.fn i).ins pc').op = 11) (hz : runV P ps (P.fn i) (n' + 1) pc' o' (f' :: f :: r) = z) (pn : pc' + (n' + 1) = (P.fn i).nI) (hs : setl f' o' = true) (hc : carO f'.res f' o' = o) (hv : f'.res = 64 ∨ VT f'.res) (hif : ¬ (f'.op = 4 ∧ f'.res ≠ 64))
    (wf : wfGo (P.fn i).ins (P.fn i).nI (P.fn i).nTab (n' + 1) pc' (f :: r).length may' u') (mo : MayOk (f' :: f :: r) may') :
    validm_ck_seq.L26 (some ⟨cb, 0, none⟩) (pc : Int) (some ⟨lb, 0, none⟩) (r.length + 1) (r.length + 1) (resS f.res) ((f.fl : Nat) : Int) ((7 - r.length : Nat) : Int) st2 f.dead true (resS f'.res) ((pc' + 1 : Nat) : Int) (PostB P i ps z w0 cb f r o0 NN) (fun _ _ => False) w := by
  have hnI := C.fn.b.nI
  refine validm_ck_seq.step26 _ _ _ _ _ _ _ _ _ _ _ _ _ _ _ _ ?_
  unfold validm_ck_seq.V26
  simp only [nilV_some, Nat.zero_add]
  refine ⟨_, C.c4, cond_false' rfl ?_⟩
  have ew : IntKind.wrap .i64 (((pc' + 1 : Nat) : Int) - 1) = (pc' : Int) := by rw [wrap_i64 (by omega) (by omega)]; omega
  rw [ew]
  rw [wfGo_succ, if_neg (by omega), if_neg (by omega), if_neg (by omega), if_pos hop, if_neg (by simp)] at wf
  have wf2 := wf.2
  rw [List.length_cons, Nat.add_sub_cancel] at wf2
  rw [runV_cont] at hz
  refine m8 C (IH.le hn) (Nat.le_trans hn hN) pn ms D.l0 ol ov wf2 (mo_drop mo) D.rl (gt_of hv) hz (ok := true) (fun _ => ?_) (fun h => by cases h)
  unfold stepV
  rw [if_neg (by omega), if_neg (by omega), if_neg (by omega), if_neg (by omega), if_pos hop]
  unfold endV
  rw [if_pos hs, if_neg hif, if_neg (by simp), hc]

theorem m_blk (b : MB wd w0 w L mb m P cb fb i ps lb f r n pc st o o0 may u z xb NN) (ho : ((P.fn i).ins pc).op = 2 ∨ ((P.fn i).ins pc).op = 3 ∨ ((P.fn i).ins pc).op = 4) : M5 cb lb f r pc st xb ((P.fn i).ins pc).op true (PostB P i ps z w0 cb f r o0 NN) w := by
  have D0 := b.D
  have hin := b.ins
  have x0 := hin.x0; have x1 := hin.x1
  have ol0 := D0.ol; have rl0 := D0.rl; have pn0 := D0.pn
  have hnI := b.C.fn.b.nI
  have hwf := D0.wf
  rw [wfGo_succ, if_neg (by omega), if_pos ho] at hwf
  obtain ⟨hpl, hd, wf⟩ := hwf
  have hv : ((P.fn i).ins pc).x = 64 ∨ VT ((P.fn i).ins pc).x := by
    unfold Pln at hpl
    rcases hpl with g | g | g | g | g | g
    · exact g.2.2
    · omega
    · omega
    · omega
    · have := g.o0; omega
    · omega
  have ewx : IntKind.wrap .u8 ((P.fn i).ins pc).x = ((P.fn i).ins pc).x := wrap_u8 (by omega) (by omega)
  -- behind the if's condition
  have L7 : ∀ (st1 : ByteArray) (o1 : List Int), MS st1 o1 o0 → OV o1 → o1.length ≤ 10 → contV P ps (P.fn i) n pc (opnV ((P.fn i).ins pc) pc o1 f r) = z →
      validm_ck_seq.L7 (some ⟨cb, 0, none⟩) (pc : Int) (some ⟨lb, 0, none⟩) (r.length + 1) (r.length + 1) (resS f.res) ((f.fl : Nat) : Int) ((7 - r.length : Nat) : Int) st1 f.dead xb ((P.fn i).ins pc).op true (PostB P i ps z w0 cb f r o0 NN) (fun _ _ => False) w := fun st1 o1 ms1 ov1 ol1 hz1 => by
    have hlen := ms1.len; have l0 := D0.l0
    have hopn : opnV ((P.fn i).ins pc) pc o1 f r = .next o1 (⟨((P.fn i).ins pc).op, ((P.fn i).ins pc).x, o1.length, false⟩ :: f :: r) := by
      unfold opnV; rw [if_neg (by omega), ewx]
    rw [hopn] at hz1
    have hz1 : runV P ps (P.fn i) n (pc + 1) o1 (⟨((P.fn i).ins pc).op, ((P.fn i).ins pc).x, o1.length, false⟩ :: f :: r) = z := hz1
    generalize hnf : (⟨((P.fn i).ins pc).op, ((P.fn i).ins pc).x, o1.length, false⟩ : Fr) = nf at hz1
    have nf1 : nf.op = ((P.fn i).ins pc).op := by rw [← hnf]
    have nf2 : nf.res = ((P.fn i).ins pc).x := by rw [← hnf]
    have nf3 : nf.fl = o1.length := by rw [← hnf]
    have nf4 : nf.dead = false := by rw [← hnf]
    clear hnf
    refine validm_ck_seq.step7 _ _ _ _ _ _ _ _ _ _ _ _ _ _ _ _ ?_
    unfold validm_ck_seq.V7
    refine ⟨_, b.I.c1, RunsQ.post (blockType_spec _ hv w) ?_⟩
    rintro v w3 ⟨rfl, S3⟩
    have b3 := b.keep S3
    refine ⟨_, rfl, ?_⟩
    rw [← nf2, ← nf1]
    have L10 : ∀ lab : ByteArray, lab = resS (labF nf) → validm_ck_seq.L10 (some ⟨cb, 0, none⟩) (pc : Int) (some ⟨lb, 0, none⟩) (r.length + 1) (r.length + 1) (resS f.res) ((f.fl : Nat) : Int) ((7 - r.length : Nat) : Int) st1 f.dead nf.op true (resS nf.res) lab (PostB P i ps z w0 cb f r o0 NN) (fun _ _ => False) w3 := fun lab hlab => by
      subst hlab
      refine validm_ck_seq.step10 _ _ _ _ _ _ _ _ _ _ _ _ _ _ _ _ _ ?_
      unfold validm_ck_seq.V10
      have C3 := b3.C
      have E := T_sl_string.el
      have e1 : IntKind.wrap .i64 (((r.length + 1 : Nat) : Int) + 1) = ((r.length + 2 : Nat) : Int) := by rw [wrap_i64 (by omega) (by omega)]; omega
      have e2 : IntKind.wrap .i64 (((7 - r.length : Nat) : Int) - 1) = ((7 - (f :: r).length : Nat) : Int) := by rw [wrap_i64 (by omega) (by omega), List.length_cons]; omega
      have e3 : IntKind.wrap .i64 (((f.fl : Nat) : Int) + ((st1.size : Nat) : Int)) = ((nf.fl : Nat) : Int) := by rw [wrap_i64 (by omega) (by omega)]; omega
      have e4 : IntKind.wrap .i64 ((pc : Int) + 1) = ((pc + 1 : Nat) : Int) := by rw [wrap_i64 (by omega) (by omega)]; omega
      rw [e1, e2, e3, e4]
      obtain ⟨w4, r4, o4, S4⟩ := make_own E w3 w3.heap.size (r.length + 2) .i64 .i64 (by omega) (by unfold maxLen; omega) (Nat.le_refl _)
      refine ⟨_, _, _, w4, r4, ?_⟩
      have C4 := C3.keep S4
      obtain ⟨w5, r5, o5, g5⟩ := run_append_own_spare (P := Try.prog) w4 w3.heap.size T_sl_string T_sl_string T_string _ 1 E.ht E.hi E.hsize w3.heap.size 0 (r.length + 2) [] o4 ⟨lb, 0, none⟩ (r.length + 1) (r.length + 1) (labsC (f :: r)) (by rw [labsC_len]; simp) (fun j v hj => by
        obtain ⟨x, hx, rfl⟩ := labsC_get hj
        rw [add_mk, Nat.zero_add]
        exact C4.lab j x hx) (by intro v hv'; unfold labsC at hv'; rw [List.mem_map] at hv'; obtain ⟨x, _, rfl⟩ := hv'; rfl) (by omega)
      have S5 : Same [] w3.heap.size w3 w5 := S4.grown g5 S4.size (fun k hk => by injection hk with hk; omega)
      rw [Nat.zero_add] at r5 o5
      rw [List.nil_append] at o5
      refine ⟨_, _, _, w5, r5, letB_intro fun b9 hb9 => letW_intro fun w10 hw10 => ?_⟩
      have S10 : Same [] w3.heap.size w3 w10 := by rw [hw10]; exact S5.alloc S5.size _
      have o10 : w10.ownsRow w3.heap.size T_string 1 (.slice (some ⟨w3.heap.size, 0, none⟩) (r.length + 1) (r.length + 2)) (r.length + 1) (labsC (f :: r)) := by rw [hw10]; exact o5.alloc _
      obtain ⟨w11, r11, o11, g11⟩ := run_append_own_spare (P := Try.prog) w10 w3.heap.size T_sl_string T_sl_string T_string _ 1 E.ht E.hi E.hsize w3.heap.size (r.length + 1) (r.length + 2) _ o10 ⟨b9, 0, none⟩ 1 1 [.string (resS (labF nf))] rfl (fun j v hj => by
        rw [add_mk, Nat.zero_add, hw10, hb9, World.cell?_alloc_new]; simpa using hj) (by intro v hv'; simp at hv'; rw [hv']; rfl) (by omega)
      have S11 : Same [] w3.heap.size w3 w11 := S10.grown g11 S10.size (fun k hk => by injection hk with hk; omega)
      clear hw10
      rw [← labsC_cons] at o11
      refine ⟨_, _, _, w11, r11, ?_⟩
      have C11 := C3.keep S11
      have hg := (o11.lt w3.heap.size rfl).2
      have hcl := C3.lt
      -- the inner block's context
      have CI : ∀ {wx : World} (g : Fr), Same [] w11.heap.size w11 wx → g.res = nf.res → labF g = labF nf → MC wd wx wx L mb m P cb fb i ps w3.heap.size (g :: f :: r) := fun {wx} g Sx h1 h2 => by
        have hcl2 := C11.lt
        have X : MC wd w11 w11 L mb m P cb fb i ps w3.heap.size (nf :: f :: r) := { C11.rebase with
          c3 := C11.c3
          lab := fun j x hx => by
            have hj : (labsC (nf :: f :: r))[j]? = some (.string (resS (labF x))) := by unfold labsC; rw [List.getElem?_map, hx]; rfl
            have := o11.cells (g := w3.heap.size) rfl j _ hj
            rwa [add_mk, Nat.zero_add] at this
          ln := by omega
          ll := hg
          kv := fun a ha => by
            rcases List.mem_cons.1 ha with rfl | ha
            · rw [nf2]; exact hv
            · exact C11.kv a ha }
        exact ((X.keep Sx).rebase).turn h1 h2
      have D1 : ∀ {g : Fr} {n1 pc1 : Nat} {may1 : Nat → Bool} {u1 : Nat}, pc1 + n1 = (P.fn i).nI → g.fl = nf.fl → wfGo (P.fn i).ins (P.fn i).nI (P.fn i).nTab n1 pc1 (f :: r).length may1 u1 → MayOk (g :: f :: r) may1 → MH (P.fn i) n1 pc1 ⟨#[]⟩ o1 o1 g (f :: r) may1 u1 := fun {g n1 pc1 may1 u1} h1 h2 h3 h4 =>
        ⟨h1, MS.nil o1, by rw [h2, nf3], ol1, ov1, h3, h4, by rw [List.length_cons]; omega⟩
      have wfi : wfGo (P.fn i).ins (P.fn i).nI (P.fn i).nTab n (pc + 1) (f :: r).length (upd may r.length (nf.op == 4)) u := by rw [nf1]; exact wf
      have run1 := seq_run (CI nf (Same.refl _ _ _) rfl rfl) (b.IH n (Nat.le_refl _) w11 w11 (pc + 1) ⟨#[]⟩ o1 o1 nf (f :: r) _ u w3.heap.size z n (Nat.le_refl _) (CI nf (Same.refl _ _ _) rfl rfl) (D1 (by omega) rfl wfi (mo_open D0.mo nf)) hz1) nf4
      refine RunsQ.post run1 ?_
      rintro v w16 (⟨S16, ⟨xa, xc, rfl⟩, E16⟩ | ⟨S16, n', pc', o', f', may', u', rfl, hcl', hzr, hpn, hnn, hst, hf1, hf2, hf3, hca, hwf', hmo'⟩)
      · -- an error within
        refine ⟨_, _, rfl, ?_⟩
        have E16' := E16
        obtain ⟨q1, q2, q3⟩ := E16'
        simp only [nilV_some, Nat.zero_add]
        refine ⟨_, q2, cond_false' (beq_eq_false_iff_ne.2 q1) ?_⟩
        refine validm_ck_seq.step13 _ _ _ _ _ _ _ _ _ _ _ _ _ _ _ _ _ _ _ _ _ ?_
        unfold validm_ck_seq.V13
        simp only [nilV_some, Nat.zero_add]
        refine cond_false' rfl ⟨_, q2, cond_false' (beq_eq_false_iff_ne.2 q1) ?_⟩
        refine validm_ck_seq.step19 _ _ _ _ _ _ _ _ _ _ _ _ _ _ _ _ _ ?_
        unfold validm_ck_seq.V19
        exact cond_false' rfl (m26e C3 S11 S16 E16 _ _ _)
      · have nle : n' ≤ n := by omega
        have C16 := C11.keep S16
        refine ⟨_, _, rfl, ?_⟩
        simp only [nilV_some, Nat.zero_add]
        refine ⟨_, C16.c4, cond_true' rfl ?_⟩
        have hvf : f'.res = 64 ∨ VT f'.res := by rw [hf2, nf2]; exact hv
        rcases hcl' with h5 | h11
        · -- the else
          have hwf2 := hwf'
          rw [wfGo_succ, if_neg (by omega), if_neg (by omega), if_pos h5] at hwf2
          obtain ⟨_, hd0, hmay, wf2⟩ := hwf2
          have hop4 : f'.op = 4 := hmo' (r.length) f' (by rw [show r.length + 1 = (f :: r).length by simp]; exact rev_top f' (f :: r)) (by rw [List.length_cons, Nat.add_sub_cancel] at hmay; exact hmay)
          have hnop : nf.op = 4 := by rw [← hf1]; exact hop4
          have h5b : (((P.fn i).ins pc').op == 5) = true := beq_iff_eq.2 h5
          rw [h5b]
          refine validm_ck_seq.step13 _ _ _ _ _ _ _ _ _ _ _ _ _ _ _ _ _ _ _ _ _ ?_
          unfold validm_ck_seq.V13
          refine cond_true' rfl (cond_false' (by rw [hnop]; rfl) ?_)
          refine validm_ck_seq.step18 _ _ _ _ _ _ _ _ _ _ _ _ _ _ _ _ _ _ _ ?_
          unfold validm_ck_seq.V18
          rw [e2, e3]
          have hz2 : runV P ps (P.fn i) n' (pc' + 1) o1 ({ { f' with op := 5 } with dead := false } :: f :: r) = z := by
            rw [hzr, runV_cont]
            have : stepV P ps (P.fn i) ((P.fn i).ins pc') pc' o' f' (f :: r) = .next o1 ({ { f' with op := 5 } with dead := false } :: f :: r) := by
              unfold stepV
              rw [if_neg (by omega), if_neg (by omega), if_neg (by omega), if_pos h5]
              unfold elsV
              rw [if_pos hst, if_neg (by simp), if_pos hop4, hca]
            rw [this]; rfl
          generalize hg5 : ({ { f' with op := 5 } with dead := false } : Fr) = g5 at hz2
          have g51 : g5.op = 5 := by rw [← hg5]
          have g52 : g5.res = nf.res := by rw [← hg5]; exact hf2
          have g53 : g5.fl = nf.fl := by rw [← hg5]; exact hf3
          have g54 : g5.dead = false := by rw [← hg5]
          clear hg5
          have lab5 : labF g5 = labF nf := by unfold labF; rw [if_neg (by omega), if_neg (by omega), g52]
          have mo5 : MayOk (g5 :: f :: r) (upd may' ((f :: r).length - 1) false) := fun j y hy hmay => by
            unfold upd at hmay
            by_cases e : j = (f :: r).length - 1
            · rw [if_pos e] at hmay; cases hmay
            · rw [if_neg e] at hmay
              have hj := (List.getElem?_eq_some_iff.1 hy).1
              rw [List.length_reverse, List.length_cons] at hj
              rw [List.length_cons] at e hj
              rw [rev_low _ (f :: r) (by rw [List.length_cons]; omega)] at hy
              exact hmo' j y (by rw [rev_low f' (f :: r) (by rw [List.length_cons]; omega)]; exact hy) hmay
          have C5 := CI g5 S16 g52 lab5
          have run2 := seq_run C5 (b.IH n' nle w16 w16 (pc' + 1) ⟨#[]⟩ o1 o1 g5 (f :: r) _ u' w3.heap.size z n' (Nat.le_refl _) C5 (D1 (by omega) g53 wf2 mo5) hz2) g54
          rw [g52, g53] at run2
          refine RunsQ.post run2 ?_
          have S3_16 : Same [] w3.heap.size w3 w16 := S11.trans (S16.mono S11.size (by simp))
          rintro v w17 (⟨S17, ⟨xa, xc, rfl⟩, E17⟩ | ⟨S17, n2, pc2, o2, f2, may2, u2, rfl, hcl2, hzr2, hpn2, hnn2, hst2, hq1, hq2, hq3, hca2, hwf2', hmo2⟩)
          · refine ⟨_, _, rfl, ?_⟩
            have E17' := E17
            obtain ⟨q1, q2, q3⟩ := E17'
            simp only [nilV_some, Nat.zero_add]
            refine ⟨_, q2, cond_false' (beq_eq_false_iff_ne.2 q1) ?_⟩
            refine validm_ck_seq.step25 _ _ _ _ _ _ _ _ _ _ _ _ _ _ _ _ _ ?_
            unfold validm_ck_seq.V25
            exact cond_false' rfl (m26e C3 S3_16 S17 E17 _ _ _)
          · have C17 := C16.keep S17
            refine ⟨_, _, rfl, ?_⟩
            simp only [nilV_some, Nat.zero_add]
            refine ⟨_, C17.c4, cond_true' rfl ?_⟩
            rcases hcl2 with k5 | k11
            · exfalso
              rw [wfGo_succ, if_neg (by omega), if_neg (by omega), if_pos k5] at hwf2'
              obtain ⟨_, _, hmay2, _⟩ := hwf2'
              have : f2.op = 4 := hmo2 (r.length) f2 (by rw [show r.length + 1 = (f :: r).length by simp]; exact rev_top f2 (f :: r)) (by rw [List.length_cons, Nat.add_sub_cancel] at hmay2; exact hmay2)
              omega
            · have k5b : (((P.fn i).ins pc2).op == 5) = false := by rw [k11]; rfl
              rw [k5b]
              refine validm_ck_seq.step25 _ _ _ _ _ _ _ _ _ _ _ _ _ _ _ _ _ ?_
              unfold validm_ck_seq.V25
              refine cond_false' rfl ?_
              have n2le : n2 ≤ n := by omega
              have := m26 (st2 := st1) C17 D0 b.IH ms1 ol1 ov1 n2le b.hn k11 hzr2.symm hpn2 hst2 hca2 (by rw [hq2, g52, nf2]; exact hv) (fun h => by have := h.1; omega) hwf2' hmo2
              rw [hq2, g52] at this
              exact this
        · have h5b : (((P.fn i).ins pc').op == 5) = false := by rw [h11]; rfl
          rw [h5b]
          refine validm_ck_seq.step13 _ _ _ _ _ _ _ _ _ _ _ _ _ _ _ _ _ _ _ _ _ ?_
          unfold validm_ck_seq.V13
          simp only [nilV_some, Nat.zero_add]
          refine cond_false' rfl ⟨_, C16.c4, cond_true' rfl ?_⟩
          have good : ¬ (nf.op = 4 ∧ nf.res ≠ 64) → validm_ck_seq.L19 (some ⟨cb, 0, none⟩) (pc : Int) (some ⟨lb, 0, none⟩) (r.length + 1) (r.length + 1) (resS f.res) ((f.fl : Nat) : Int) ((7 - r.length : Nat) : Int) st1 f.dead true (resS nf.res) ((pc' + 1 : Nat) : Int) false (PostB P i ps z w0 cb f r o0 NN) (fun _ _ => False) w16 := fun hg2 => by
            refine validm_ck_seq.step19 _ _ _ _ _ _ _ _ _ _ _ _ _ _ _ _ _ ?_
            unfold validm_ck_seq.V19
            refine cond_false' rfl ?_
            have := m26 (st2 := st1) C16 D0 b.IH ms1 ol1 ov1 nle b.hn h11 hzr.symm hpn hst hca hvf (by rw [hf1, hf2]; exact hg2) hwf' hmo'
            rw [hf2] at this
            exact this
          refine cond_intro (fun h4 => ?_) (fun h4 => good (fun e => by rw [e.1] at h4; cases h4))
          have h4 : nf.op = 4 := eq_of_beq h4
          by_cases h64 : nf.res = 64
          · have : (!(ByteArray.toList (resS nf.res) == ByteArray.toList ⟨#[]⟩)) = false := by rw [h64, resS64, beq_self_eq_true]; rfl
            rw [this]
            exact good (fun e => e.2 h64)
          · have hne : (!(ByteArray.toList (resS nf.res) == ByteArray.toList ⟨#[]⟩)) = true := by
              unfold resS
              rw [if_neg h64, ByteArray.toList_eq, ByteArray.toList_eq]
              rfl
            rw [hne]
            refine validm_ck_seq.step19 _ _ _ _ _ _ _ _ _ _ _ _ _ _ _ _ _ ?_
            unfold validm_ck_seq.V19
            refine cond_true' rfl ?_
            have ew : IntKind.wrap .i64 (((pc' + 1 : Nat) : Int) - 1) = (pc' : Int) := by rw [wrap_i64 (by omega) (by omega)]; omega
            rw [ew]
            refine RunsQ.post (fail_spec C16 27 pc') ?_
            rintro v w17 ⟨rfl, t4, t5, S17⟩
            refine ⟨rfl, ?_⟩
            have hzz : z = ((pc' : Int), (27 : Int), carO f'.res f' o', f' :: f :: r) := by
              rw [hzr, runV_cont]
              have : stepV P ps (P.fn i) ((P.fn i).ins pc') pc' o' f' (f :: r) = .done pc' 27 (carO f'.res f' o') (f' :: f :: r) := by
                unfold stepV
                rw [if_neg (by omega), if_neg (by omega), if_neg (by omega), if_neg (by omega), if_pos h11]
                unfold endV
                rw [if_pos hst, if_pos ⟨by rw [hf1]; exact h4, by rw [hf2]; exact h64⟩]
              rw [this]; rfl
            have S3_16 : Same [] w3.heap.size w3 w16 := S11.trans (S16.mono S11.size (by simp))
            exact m26e C3 S3_16 S17 (by rw [hzz]; exact ⟨(by simp), t4, t5⟩) _ _ _
    refine cond_intro (fun h => L10 _ ?_) (fun h => L10 _ ?_)
    · unfold labF; rw [if_pos (eq_of_beq h)]; rfl
    · unfold labF; rw [if_neg (show ¬ nf.op = 3 by simpa using h)]
  refine validm_ck_seq.step5 _ _ _ _ _ _ _ _ _ _ _ _ _ _ _ _ _ _ ?_
  unfold validm_ck_seq.V5
  have hs : stepV P ps (P.fn i) ((P.fn i).ins pc) pc o f r = blkV ((P.fn i).ins pc) pc o f r := by
    unfold stepV
    rw [if_neg (by omega), if_neg (by omega), if_pos ho]
  have hz := b.hz
  rw [hs] at hz
  refine cond_true' rfl (cond_intro (fun h => ?_) (fun h => ?_))
  · have h : ((P.fn i).ins pc).op = 4 := eq_of_beq h
    have hb : blkV ((P.fn i).ins pc) pc o f r = if carB 127 f o = true then opnV ((P.fn i).ins pc) pc (carO 127 f o) f r else .done pc 27 (carO 127 f o) (f :: r) := by unfold blkV; rw [if_pos h]
    rw [hb] at hz
    refine RunsQ.post (mpop_car 127 ⟨by decide, by decide⟩ D0.l0 D0.ms (by omega) w) ?_
    rintro v w2 ⟨rfl, st2, y, rfl, ms2⟩
    have ol2 := carO_len 127 f o D0.hf
    refine ⟨_, _, _, rfl, ?_⟩
    cases hc : carB 127 f o with
    | false =>
      rw [hc, if_neg (by decide)] at hz
      exact cond_true' rfl (mfail b.C (by decide) hz _ _)
    | true =>
      rw [hc, if_pos rfl] at hz
      exact cond_false' rfl (L7 st2 _ ms2 (carO_ov D0.ov _) (by omega) hz)
  · have h : ¬ ((P.fn i).ins pc).op = 4 := by simpa using h
    have hb : blkV ((P.fn i).ins pc) pc o f r = opnV ((P.fn i).ins pc) pc o f r := by unfold blkV; rw [if_neg h]
    rw [hb] at hz
    exact L7 st o D0.ms D0.ov D0.ol hz
end
end Go.Proofs.Qxb6500322a
