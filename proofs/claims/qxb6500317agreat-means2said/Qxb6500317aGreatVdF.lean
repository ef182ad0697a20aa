/-
  The validator: a body.
-/
import Derived.Test.Qxb6500317aGreatVdE
set_option linter.unusedSimpArgs false
set_option linter.unusedVariables false
set_option maxRecDepth 100000
set_option linter.unusedSectionVars false
namespace Go.Proofs.Qxb6500317aGreat
open Go Go.Vc

section
variable {wd w0 w w' : World} {L mb vb : Nat} {m : Nat → Value} {P : PM} {o : List Int} {f : Fr} {r k : List Fr} {i fb xb pc : Nat} {ps : ByteArray} {R Q : Value → World → Prop} {z : SR}

/-- The block is cut and the walk goes on. -/
theorem cut_walk (c : BC wd w0 w L mb m P vb o f r i fb xb pc) (hN : KN w0 mb vb i fb pc ps R (fun _ _ => False) (.next (cutO f o) (f.kill :: r))) :
    RunsQ Tryz.prog valid_Valid_cut.id #[(.pointer (some ⟨vb, 0, none⟩))] w (fun r1 w1 => r1 = (.tuple #[]) ∧ valid_Valid_body.L2 (some ⟨vb, 0, none⟩) (some ⟨mb, 0, none⟩) (some ⟨fb, i * 4, none⟩) ps (pc : Int) 64 0 R (fun _ _ => False) w1) (fun _ _ => False) := by
  refine RunsQ.post (cut_spec c.C.v c.C.hf) ?_
  rintro v w1 ⟨rfl, V1, S1⟩
  refine ⟨rfl, give_walk V1 (c.S.trans (S1.mono c.S.size (by simp))) 64 (fun w' o' k' h1 h2 h3 => ?_) (fun w' p e' o' k' h1 h2 h3 => ?_)⟩
  · have h1 : SR.next _ _ = SR.next o' k' := h1
    exact hN w' o' k' h1 h2 h3
  · exact absurd h1 (fun g => by have g : SR.next _ _ = SR.done p e' o' k' := g; cases g)

theorem br_walk (c : BC wd w0 w L mb m P vb o f r i fb xb pc) (hN : KN w0 mb vb i fb pc ps R (fun _ _ => False) (brV ((P.fn i).ins pc) pc o f r)) (hD : KD w0 vb R (brV ((P.fn i).ins pc) pc o f r)) :
    valid_Valid_body.L3 (some ⟨vb, 0, none⟩) (some ⟨mb, 0, none⟩) (some ⟨fb, i * 4, none⟩) ps (pc : Int) xb 64 0 12 false R (fun _ _ => False) w := by
  have hx0 := c.ins.x0; have hx1 := c.ins.x1
  have kl := c.C.v.kl
  rw [List.length_cons] at kl
  refine valid_Valid_body.step3 _ _ _ _ _ _ _ _ _ _ _ _ _ ?_
  unfold valid_Valid_body.V3
  refine cond_false' rfl (cond_false' rfl (cond_false' rfl (cond_true' rfl ?_)))
  simp only [true_and, nilV_some, Nat.zero_add]
  have cD := c.drew
  refine ⟨_, cD.I.c1, _, cD.C.v.d, ?_⟩
  rw [wrap_u64 (by omega) (by omega), wrap_u64 (x := (((f :: r).length : Nat) : Int)) (by omega) (by simp; omega)]
  unfold brV at hN hD
  refine cond_intro (fun h => ?_) (fun h => ?_)
  · have h : ((r.length + 1 : Nat) : Int) ≤ ((P.fn i).ins pc).x := of_decide_eq_true h
    rw [if_pos h] at hD
    exact hD _ _ _ _ _ rfl cD.C.v cD.S
  · have h : ¬ ((r.length + 1 : Nat) : Int) ≤ ((P.fn i).ins pc).x := of_decide_eq_false h
    rw [if_neg h] at hN hD
    obtain ⟨l, hl⟩ := Int.eq_ofNat_of_zero_le hx0
    have hll : l < (f :: r).length := by simp; omega
    refine ⟨_, cD.I.c1, ?_⟩
    rw [wrap_i64 (by omega) (by omega), hl]
    rw [hl, Int.toNat_natCast] at hN hD
    refine RunsQ.post (label_spec cD.C.v l hll) ?_
    rintro v w44 ⟨rfl, V44, S44⟩
    have c44 := cD.step S44 V44 cD.C.hf
    refine ⟨_, rfl, RunsQ.post (carry_spec V44 c.C.hf _) ?_⟩
    rintro v w47 ⟨rfl, V47, S47⟩
    have c47 := c44.step S47 V47 (carO_len _ f o c.C.hf).1
    refine ⟨_, rfl, ?_⟩
    cases hb : carB (labT (f :: r) l) f o
    · rw [hb, if_neg (by decide)] at hD
      exact cond_true' rfl (hD _ _ _ _ _ rfl V47 c47.S)
    · rw [hb, if_pos rfl] at hN
      exact cond_false' rfl (cut_walk c47 hN)

theorem brif_walk (c : BC wd w0 w L mb m P vb o f r i fb xb pc) (hN : KN w0 mb vb i fb pc ps R (fun _ _ => False) (brifV ((P.fn i).ins pc) pc o f r)) (hD : KD w0 vb R (brifV ((P.fn i).ins pc) pc o f r)) :
    valid_Valid_body.L3 (some ⟨vb, 0, none⟩) (some ⟨mb, 0, none⟩) (some ⟨fb, i * 4, none⟩) ps (pc : Int) xb 64 0 13 false R (fun _ _ => False) w := by
  have hx0 := c.ins.x0; have hx1 := c.ins.x1
  have kl := c.C.v.kl
  rw [List.length_cons] at kl
  refine valid_Valid_body.step3 _ _ _ _ _ _ _ _ _ _ _ _ _ ?_
  unfold valid_Valid_body.V3
  refine cond_false' rfl (cond_false' rfl (cond_false' rfl (cond_false' rfl (cond_true' rfl ?_))))
  unfold brifV at hN hD
  refine RunsQ.post (carry_spec c.C.v c.C.hf 127) ?_
  rintro v w52 ⟨rfl, V52, S52⟩
  have h127 := (carO_len 127 f o c.C.hf).1
  have c52 := c.step S52 V52 h127
  refine ⟨_, rfl, ?_⟩
  cases hb : carB 127 f o
  · rw [hb, if_neg (by decide)] at hD
    exact cond_true' rfl (hD _ _ _ _ _ rfl V52 c52.S)
  rw [hb, if_pos rfl] at hN hD
  refine cond_false' rfl ?_
  simp only [true_and, nilV_some, Nat.zero_add]
  have cD := c52.drew
  refine ⟨_, cD.I.c1, _, cD.C.v.d, ?_⟩
  rw [wrap_u64 (by omega) (by omega), wrap_u64 (x := (((f :: r).length : Nat) : Int)) (by omega) (by simp; omega)]
  refine cond_intro (fun h => ?_) (fun h => ?_)
  · have h : ((r.length + 1 : Nat) : Int) ≤ ((P.fn i).ins pc).x := of_decide_eq_true h
    rw [if_pos h] at hD
    exact hD _ _ _ _ _ rfl cD.C.v cD.S
  · have h : ¬ ((r.length + 1 : Nat) : Int) ≤ ((P.fn i).ins pc).x := of_decide_eq_false h
    rw [if_neg h] at hN hD
    obtain ⟨l, hl⟩ := Int.eq_ofNat_of_zero_le hx0
    have hll : l < (f :: r).length := by simp; omega
    refine ⟨_, cD.I.c1, ?_⟩
    rw [wrap_i64 (by omega) (by omega), hl]
    rw [hl, Int.toNat_natCast] at hN hD
    refine RunsQ.post (label_spec cD.C.v l hll) ?_
    rintro v w44 ⟨rfl, V44, S44⟩
    have c44 := cD.step S44 V44 cD.C.hf
    refine ⟨_, rfl, RunsQ.post (carry_spec V44 h127 _) ?_⟩
    rintro v w47 ⟨rfl, V47, S47⟩
    have c47 := c44.step S47 V47 (carO_len _ f _ h127).1
    refine ⟨_, rfl, ?_⟩
    cases hb2 : carB (labT (f :: r) l) f (carO 127 f o)
    · rw [hb2, if_neg (by decide)] at hD
      exact cond_true' rfl (hD _ _ _ _ _ rfl V47 c47.S)
    · rw [hb2, if_pos rfl] at hN hD
      exact cond_false' rfl (give_walk V47 c47.S _ hN hD)

theorem ret_walk (c : BC wd w0 w L mb m P vb o f r i fb xb pc) (hN : KN w0 mb vb i fb pc ps R (fun _ _ => False) (retV pc o f r)) (hD : KD w0 vb R (retV pc o f r)) :
    valid_Valid_body.L3 (some ⟨vb, 0, none⟩) (some ⟨mb, 0, none⟩) (some ⟨fb, i * 4, none⟩) ps (pc : Int) xb 64 0 15 false R (fun _ _ => False) w := by
  refine valid_Valid_body.step3 _ _ _ _ _ _ _ _ _ _ _ _ _ ?_
  unfold valid_Valid_body.V3
  refine cond_false' rfl (cond_false' rfl (cond_false' rfl (cond_false' rfl (cond_false' rfl (cond_false' rfl (cond_true' rfl ?_))))))
  obtain ⟨g, hg1, hg2⟩ := botT_last f r
  have hc : w.cell? ⟨vb, 12 + 0 * 4 + 1, none⟩ = some (.int .u8 (botT f r)) := by rw [hg2]; exact c.C.v.f1 0 g hg1
  simp only [nilV_some, add_mk, Int.toNat_zero, Nat.zero_add]
  refine ⟨⟨by decide, by decide⟩, botT f r, hc, ?_⟩
  unfold retV at hN hD
  refine RunsQ.post (carry_spec c.C.v c.C.hf _) ?_
  rintro v w1 ⟨rfl, V1, S1⟩
  have c1 := c.step S1 V1 (carO_len _ f o c.C.hf).1
  refine ⟨_, rfl, ?_⟩
  cases hb : carB (botT f r) f o
  · rw [hb, if_neg (by decide)] at hD
    exact cond_true' rfl (hD _ _ _ _ _ rfl V1 c1.S)
  · rw [hb, if_pos rfl] at hN
    exact cond_false' rfl (cut_walk c1 hN)

theorem pln_walk (c : BC wd w0 w L mb m P vb o f r i fb xb pc) (hps : ps.size ≤ 1024) (hop : ∀ n : Int, n = 5 ∨ n = 11 ∨ n = 12 ∨ n = 13 ∨ n = 14 ∨ n = 15 → ((P.fn i).ins pc).op ≠ n) (hN : KN w0 mb vb i fb pc ps R (fun _ _ => False) (plnV P ps (strOfNums (P.fn i).ls) ((P.fn i).ins pc) pc o f r)) (hD : KD w0 vb R (plnV P ps (strOfNums (P.fn i).ls) ((P.fn i).ins pc) pc o f r)) :
    valid_Valid_body.L3 (some ⟨vb, 0, none⟩) (some ⟨mb, 0, none⟩) (some ⟨fb, i * 4, none⟩) ps (pc : Int) xb 64 0 ((P.fn i).ins pc).op false R (fun _ _ => False) w := by
  refine valid_Valid_body.step3 _ _ _ _ _ _ _ _ _ _ _ _ _ ?_
  unfold valid_Valid_body.V3
  have ne : ∀ n : Int, n = 5 ∨ n = 11 ∨ n = 12 ∨ n = 13 ∨ n = 14 ∨ n = 15 → (((P.fn i).ins pc).op == n) = false := fun n h => beq_eq_false_iff_ne.2 (hop n h)
  refine cond_false' rfl (cond_false' (ne 5 (by simp)) (cond_false' (ne 11 (by simp)) (cond_false' (ne 12 (by simp)) (cond_false' (ne 13 (by simp)) (cond_false' (ne 14 (by simp)) (cond_false' (ne 15 (by simp)) ?_))))))
  have cD := c.drew
  have c1 := (c.row _ cD.C.hm).c1 i c.hi
  have hls := c.fn.ls
  unfold plnV at hN hD
  have main : RunsQ Tryz.prog valid_Valid_plain.id #[(.pointer (some ⟨vb, 0, none⟩)), (.pointer (some ⟨mb, 0, none⟩)), (.string ps), (.string (strOfNums (P.fn i).ls)), (.agg #[(.int .u8 ((P.fn i).ins pc).op), (.int .u32 ((P.fn i).ins pc).x), (.int .u64 ((P.fn i).ins pc).y)])] w.drew
      (fun r1 w1 => ∃ x2 : Int, ∃ x3 : Int, r1 = (.tuple #[(.int .u8 x2), (.int .i64 x3)]) ∧ valid_Valid_body.L2 (some ⟨vb, 0, none⟩) (some ⟨mb, 0, none⟩) (some ⟨fb, i * 4, none⟩) ps (pc : Int) x2 x3 R (fun _ _ => False) w1) (fun _ _ => False) := by
    refine RunsQ.post (plain_spec cD.C ps (strOfNums (P.fn i).ls) hps (by omega) _ c.ins) ?_
    rintro v w1 ⟨rfl, V1, S1⟩
    have T1 := cD.S.trans (S1.mono cD.S.size (by simp))
    refine ⟨_, _, rfl, ?_⟩
    by_cases he : (plnP P ps (strOfNums (P.fn i).ls) ((P.fn i).ins pc) f o).2.1 = 0
    · rw [if_pos he] at hN hD
      rw [he]
      exact give_walk V1 T1 _ hN hD
    · rw [if_neg he] at hD
      refine valid_Valid_body.step2 _ _ _ _ _ _ _ _ _ _ ?_
      unfold valid_Valid_body.V2
      exact cond_true' (by simpa using he) (hD _ _ _ _ _ rfl V1 T1)
  simp only [true_and, nilV_some, and_true]
  exact ⟨⟨_, c1, _, _, _, cD.I.c0, cD.I.c1, cD.I.c2, main⟩, ⟨_, _, _, cD.I.c0, cD.I.c1, cD.I.c2, _, c1, main⟩⟩

/-- The labels of a table, one by one. -/
theorem tab_walk {n : Nat} {d : Int} (hlast : n ≤ (P.fn i).nTab) :
    ∀ (q j : Nat) (w : World), j + q + 1 = n → BC wd w0 w L mb m P vb o f r i fb xb pc →
      (tabL (P.fn i).tabs (f :: r) o f (d == 64) (q + 1) j = 0 → KN w0 mb vb i fb pc ps R (fun _ _ => False) (.next (cutO f o) (f.kill :: r))) →
      (tabL (P.fn i).tabs (f :: r) o f (d == 64) (q + 1) j ≠ 0 → KD w0 vb R (.done pc (tabL (P.fn i).tabs (f :: r) o f (d == 64) (q + 1) j) o (f :: r))) →
      valid_Valid_body.L8 (some ⟨vb, 0, none⟩) (some ⟨mb, 0, none⟩) (some ⟨fb, i * 4, none⟩) ps (pc : Int) ((n : Int) - 1) d (j : Int) R (fun _ _ => False) w := by
  intro q
  induction q with
  | zero => _
  | succ q ih => _
  all_goals
    intro j w hj c hA hE
    have kl := c.C.v.kl
    rw [List.length_cons] at kl
    have hnt := c.fn.nT
    have cD := c.drew
    have htj := c.fn.tabs j (by omega)
    refine valid_Valid_body.step8 _ _ _ _ _ _ _ _ _ _ _ ?_
    unfold valid_Valid_body.V8
    simp only [true_and, nilV_some]
    rcases (c.row _ cD.C.hm).c3 i c.hi with ⟨t0, _⟩ | ⟨t0, tk, t1, t2, _⟩
    · omega
    have e4 := t2.1 j (by omega)
    rw [tabL_succ] at hA hE
    refine ⟨_, _, _, t1, ⟨by omega, by omega⟩, ?_⟩
    rw [nilV_some, add_mk, Int.toNat_natCast, Nat.mul_one, Nat.zero_add]
    refine ⟨_, e4, _, cD.C.v.d, ?_⟩
    rw [wrap_u64 (by omega) (by omega), wrap_u64 (x := (((f :: r).length : Nat) : Int)) (by omega) (by simp; omega)]
    refine cond_intro (fun h => ?_) (fun h => ?_)
    · have h : (((f :: r).length : Nat) : Int) ≤ (P.fn i).tabs j := of_decide_eq_true h
      rw [if_pos h] at hE
      exact hE (by decide) _ _ _ _ _ rfl cD.C.v cD.S
    have h : ¬ (((f :: r).length : Nat) : Int) ≤ (P.fn i).tabs j := of_decide_eq_false h
    rw [if_neg h] at hA hE
    obtain ⟨l, hl⟩ := Int.eq_ofNat_of_zero_le htj.1
    have hll : l < (f :: r).length := by omega
    refine ⟨_, _, _, t1, ⟨by omega, by omega⟩, ?_⟩
    rw [nilV_some, add_mk, Nat.zero_add]
    refine ⟨_, e4, ?_⟩
    rw [wrap_i64 (by omega) (by omega), hl]
    rw [hl, Int.toNat_natCast] at hA hE
    refine RunsQ.post (label_spec cD.C.v l hll) ?_
    rintro v w16 ⟨rfl, V16, S16⟩
    have c16 := cD.step S16 V16 cD.C.hf
    refine ⟨_, rfl, ?_⟩
    by_cases hd : (labT (f :: r) l == 64) = (d == 64)
    rotate_left
    · rw [if_neg hd] at hE
      refine cond_true' ?_ (hE (by decide) _ _ _ _ _ rfl V16 c16.S)
      rw [Bool.not_eq_true']
      exact beq_eq_false_iff_ne.2 hd
    rw [if_pos hd] at hA hE
    refine cond_false' (by rw [hd, beq_self_eq_true]; rfl) ?_
    refine RunsQ.post (fits_spec V16 c.C.hf _) ?_
    rintro v w19 ⟨rfl, V19, S19⟩
    have c19 := c16.step S19 V19 cD.C.hf
    refine ⟨_, rfl, ?_⟩
    cases hb : fitB (labT (f :: r) l) f o
    · rw [hb, if_neg (by decide)] at hE
      exact cond_true' rfl (hE (by decide) _ _ _ _ _ rfl V19 c19.S)
    rw [hb, if_pos rfl] at hA hE
    refine cond_false' rfl ?_
  · refine cond_true' (by rw [beq_iff_eq]; omega) ?_
    refine RunsQ.post (cut_spec V19 c.C.hf) ?_
    rintro v w22 ⟨rfl, V22, S22⟩
    exact ⟨rfl, hA rfl _ _ _ rfl V22 (c19.S.trans (S22.mono c19.S.size (by simp)))⟩
  · refine cond_false' (beq_eq_false_iff_ne.2 (by omega)) ?_
    have e : IntKind.wrap .i64 ((j : Int) + 1) = ((j + 1 : Nat) : Int) := by rw [wrap_i64 (by omega) (by omega)]; omega
    rw [e]
    exact ih (j + 1) w19 (by omega) c19 hA hE

theorem table_walk (c : BC wd w0 w L mb m P vb o f r i fb xb pc) (hN : KN w0 mb vb i fb pc ps R (fun _ _ => False) (tabV (P.fn i) ((P.fn i).ins pc) pc o f r)) (hD : KD w0 vb R (tabV (P.fn i) ((P.fn i).ins pc) pc o f r)) :
    valid_Valid_body.L3 (some ⟨vb, 0, none⟩) (some ⟨mb, 0, none⟩) (some ⟨fb, i * 4, none⟩) ps (pc : Int) xb 64 0 14 false R (fun _ _ => False) w := by
  have hx0 := c.ins.x0; have hx1 := c.ins.x1; have hy0 := c.ins.y0; have hy1 := c.ins.y1
  have kl := c.C.v.kl; have hnt := c.fn.nT
  rw [List.length_cons] at kl
  refine valid_Valid_body.step3 _ _ _ _ _ _ _ _ _ _ _ _ _ ?_
  unfold valid_Valid_body.V3
  refine cond_false' rfl (cond_false' rfl (cond_false' rfl (cond_false' rfl (cond_false' rfl (cond_true' rfl ?_)))))
  unfold tabV at hN hD
  refine RunsQ.post (carry_spec c.C.v c.C.hf 127) ?_
  rintro v w65 ⟨rfl, V65, S65⟩
  have h127 := (carO_len 127 f o c.C.hf).1
  have c65 := c.step S65 V65 h127
  refine ⟨_, rfl, ?_⟩
  cases hb : carB 127 f o
  · rw [hb, if_neg (by decide)] at hD
    exact cond_true' rfl (hD _ _ _ _ _ rfl V65 c65.S)
  rw [hb, if_pos rfl] at hN hD
  refine cond_false' rfl ?_
  simp only [true_and, nilV_some]
  have cD := c65.drew
  have c3 : ∃ a, w65.drew.cell? ⟨fb, i * 4 + 3, none⟩ = some (.slice a (P.fn i).nTab (P.fn i).nTab) ∧ (0 < (P.fn i).nTab → ∃ tk, a = some ⟨tk, 0, none⟩ ∧ TabRow w65.drew tk (P.fn i).nTab (P.fn i).tabs) := by
    rcases (c.row _ cD.C.hm).c3 i c.hi with ⟨t0, t1⟩ | ⟨t0, tk, t1, t2, _⟩
    · exact ⟨none, by rw [t0]; exact t1, fun g => by omega⟩
    · exact ⟨_, t1, fun _ => ⟨tk, rfl, t2⟩⟩
  obtain ⟨a, c3, c3'⟩ := c3
  generalize hX : (P.fn i).ins pc = X at hN hD hx0 hx1 hy0 hy1
  have I := cD.I
  rw [hX] at I
  -- behind the test of the counts
  have L7 : ∀ tt : Bool, (tt = true ↔ X.y < 1 ∨ ((P.fn i).nTab : Int) < X.y ∨ ((P.fn i).nTab : Int) - X.y < X.x) →
      valid_Valid_body.L7 (some ⟨vb, 0, none⟩) (some ⟨mb, 0, none⟩) (some ⟨fb, i * 4, none⟩) ps (pc : Int) xb tt R (fun _ _ => False) w65.drew := fun tt htt => by
    refine valid_Valid_body.step7 _ _ _ _ _ _ _ _ _ _ ?_
    unfold valid_Valid_body.V7
    refine cond_intro (fun h => ?_) (fun h => ?_)
    · rw [if_pos (htt.1 h)] at hD
      exact hD _ _ _ _ _ rfl cD.C.v cD.S
    have hn : ¬ (X.y < 1 ∨ ((P.fn i).nTab : Int) < X.y ∨ ((P.fn i).nTab : Int) - X.y < X.x) := fun g => by rw [htt.2 g] at h; cases h
    rw [if_neg hn] at hN hD
    obtain ⟨x, ex⟩ := Int.eq_ofNat_of_zero_le hx0
    obtain ⟨y, ey⟩ := Int.eq_ofNat_of_zero_le hy0
    rw [ex, ey] at hn
    have hn1 : 1 ≤ y := by omega
    have hn2 : x + y ≤ (P.fn i).nTab := by omega
    have el : (X.x + X.y - 1).toNat = x + y - 1 := by rw [ex, ey]; omega
    rw [el] at hN hD
    have e1 : IntKind.wrap .i64 (IntKind.wrap .i64 (IntKind.wrap .i64 X.x + IntKind.wrap .i64 X.y) - 1) = ((x + y - 1 : Nat) : Int) := by
      rw [ex, ey, wrap_i64 (x := (x : Int)) (by omega) (by omega), wrap_i64 (x := (y : Int)) (by omega) (by omega), wrap_i64 (x := (x : Int) + (y : Int)) (by omega) (by omega), wrap_i64 (by omega) (by omega)]; omega
    simp only [true_and, nilV_some]
    obtain ⟨tk, rfl, trow⟩ := c3' (by omega)
    have cE := cD.drew
    have e4 := trow.1 (x + y - 1) (by omega)
    have htj := c.fn.tabs (x + y - 1) (by omega)
    refine ⟨_, I.c1, _, I.c2, _, _, _, c3, ?_⟩
    rw [e1]
    refine ⟨⟨by omega, by omega⟩, ?_⟩
    rw [nilV_some, add_mk, Int.toNat_natCast, Nat.mul_one, Nat.zero_add]
    refine ⟨_, e4, _, cE.C.v.d, ?_⟩
    rw [wrap_u64 (by omega) (by omega), wrap_u64 (x := (((f :: r).length : Nat) : Int)) (by omega) (by simp; omega)]
    refine cond_intro (fun h => ?_) (fun h => ?_)
    · have h : ((r.length + 1 : Nat) : Int) ≤ (P.fn i).tabs (x + y - 1) := of_decide_eq_true h
      rw [if_pos h] at hD
      exact hD _ _ _ _ _ rfl cE.C.v cE.S
    have h : ¬ ((r.length + 1 : Nat) : Int) ≤ (P.fn i).tabs (x + y - 1) := of_decide_eq_false h
    rw [if_neg h] at hN hD
    obtain ⟨l, hl⟩ := Int.eq_ofNat_of_zero_le htj.1
    have hll : l < (f :: r).length := by simp; omega
    refine ⟨_, _, _, c3, ⟨by omega, by omega⟩, ?_⟩
    rw [nilV_some, add_mk, Nat.zero_add]
    refine ⟨_, e4, ?_⟩
    rw [wrap_i64 (x := (P.fn i).tabs (x + y - 1)) (by omega) (by omega), hl]
    rw [hl, Int.toNat_natCast] at hN hD
    refine RunsQ.post (label_spec cE.C.v l hll) ?_
    rintro v w18 ⟨rfl, V18, S18⟩
    have c18 := cE.step S18 V18 cE.C.hf
    have I18 := c18.I
    rw [hX] at I18
    refine ⟨_, rfl, _, I18.c1, ?_⟩
    rw [wrap_i64 (x := X.x) (by omega) (by omega), ex]
    have ey' : X.y.toNat = (y - 1) + 1 := by rw [ey]; omega
    have ex' : X.x.toNat = x := by rw [ex]; omega
    rw [ey', ex'] at hN hD
    have el2 : ((x + y - 1 : Nat) : Int) = ((x + y : Nat) : Int) - 1 := by omega
    rw [el2]
    refine tab_walk (n := x + y) (d := labT (f :: r) l) hn2 (y - 1) x w18 (by omega) c18 (fun h0 => ?_) (fun h0 => ?_)
    · rw [if_pos h0] at hN; exact hN
    · rw [if_neg h0] at hD; exact hD
  refine ⟨_, I.c2, cond_intro (fun h => L7 true ⟨fun _ => .inl (of_decide_eq_true h), fun _ => rfl⟩) (fun h => ?_)⟩
  have h : ¬ X.y < 1 := of_decide_eq_false h
  refine ⟨_, I.c2, _, _, _, c3, ?_⟩
  rw [wrap_u64 (x := (((P.fn i).nTab : Nat) : Int)) (by omega) (by omega)]
  refine cond_intro (fun h2 => L7 true ⟨fun _ => .inr (.inl (of_decide_eq_true h2)), fun _ => rfl⟩) (fun h2 => ?_)
  have h2 : ¬ ((P.fn i).nTab : Int) < X.y := of_decide_eq_false h2
  refine ⟨_, I.c1, _, _, _, c3, _, I.c2, L7 _ ?_⟩
  rw [wrap_u64 (x := X.x) (by omega) (by omega), wrap_u64 (x := (((P.fn i).nTab : Nat) : Int)) (by omega) (by omega), wrap_u64 (x := (((P.fn i).nTab : Nat) : Int) - X.y) (by omega) (by omega)]
  constructor
  · intro g; exact .inr (.inr (of_decide_eq_true g))
  · intro g; exact decide_eq_true (by omega)

/-- One instruction. -/
theorem step_walk (c : VC wd w L mb m P vb o f r) (hps : ps.size ≤ 1024) (hi : i < P.nf) (hp : pc < (P.fn i).nI) (S : Same [vb] w0.heap.size w0 w) (row : ∀ w', HM wd w' L mb m P → FnRow w' (L + 1) fb P.nf P.nf P.fn)
    (hN : KN w0 mb vb i fb pc ps R (fun _ _ => False) (stepV P ps (P.fn i) ((P.fn i).ins pc) pc o f r)) (hD : KD w0 vb R (stepV P ps (P.fn i) ((P.fn i).ins pc) pc o f r)) :
    valid_Valid_body.L1 (some ⟨vb, 0, none⟩) (some ⟨mb, 0, none⟩) (some ⟨fb, i * 4, none⟩) ps (pc : Int) R (fun _ _ => False) w := by
  refine valid_Valid_body.step1 _ _ _ _ _ _ _ _ ?_
  unfold valid_Valid_body.V1
  obtain ⟨nb, b1, b2, _⟩ := (row w c.hm).c2 i hi
  simp only [nilV_some]
  refine ⟨_, _, _, b1, cond_true' (decide_eq_true (by omega)) ⟨_, _, _, b1, ⟨by omega, by omega⟩, ?_⟩⟩
  rw [nilV_some, add_mk, Int.toNat_natCast, Nat.zero_add]
  refine ⟨_, _, _, b2.i0 pc hp, b2.i1 pc hp, b2.i2 pc hp, letB_intro fun xb hb => letW_intro fun w14 hw => ?_⟩
  have I14 : InsAt w14 xb ⟨0, 0, 0⟩ := by rw [hw, hb]; exact InsAt.new w _
  have S14 : Same [] w.heap.size w w14 := by rw [hw]; exact (Same.refl _ _ _).alloc (Nat.le_refl _) _
  clear hw
  refine I14.put_intro (i' := (P.fn i).ins pc) (fun w15 I15 S15 => ?_)
  have T15 : Same [] w.heap.size w w15 := S14.trans ((S15 w.heap.size).mono (Nat.le_refl _) (by intro k hk hl; simp at hk; omega))
  have vl := c.v.lt
  have b : BC wd w0 w15 L mb m P vb o f r i fb xb pc := ⟨c.keep T15, I15, by omega, hi, hp, S.trans (T15.mono S.size (by simp)), row⟩
  unfold stepV at hN hD
  refine ⟨_, I15.c0, cond_intro (fun h => ?_) (fun h => ?_)⟩
  · rw [if_pos (eq_of_beq h)] at hN
    refine give_walk b.C.v b.S 64 (fun w' o' k' h1 h2 h3 => ?_) (fun w' p e' o' k' h1 h2 h3 => ?_)
    · have h1 : SR.next _ _ = SR.next o' k' := h1
      exact hN w' o' k' h1 h2 h3
    · exact absurd h1 (fun g => by have g : SR.next _ _ = SR.done p e' o' k' := g; cases g)
  have n1 : ¬ ((P.fn i).ins pc).op = 1 := by simpa using h
  rw [if_neg n1] at hN hD
  refine cond_intro (fun h => ?_) (fun h => ?_)
  · rw [if_pos (eq_of_beq h)] at hN
    exact cut_walk b hN
  have n0 : ¬ ((P.fn i).ins pc).op = 0 := by simpa using h
  rw [if_neg n0] at hN hD
  refine cond_intro (fun h => ?_) (fun h => ?_)
  · rw [if_pos (.inl (eq_of_beq h))] at hN hD
    exact blk_walk b _ hN hD
  have n2 : ¬ ((P.fn i).ins pc).op = 2 := by simpa using h
  refine cond_intro (fun h => ?_) (fun h => ?_)
  · rw [if_pos (.inr (.inl (eq_of_beq h)))] at hN hD
    exact blk_walk b _ hN hD
  have n3 : ¬ ((P.fn i).ins pc).op = 3 := by simpa using h
  cases h4 : (((P.fn i).ins pc).op == 4)
  rotate_left
  · rw [if_pos (.inr (.inr (eq_of_beq h4)))] at hN hD
    exact blk_walk b _ hN hD
  have n4 : ¬ ((P.fn i).ins pc).op = 4 := by simpa using h4
  rw [if_neg (by omega)] at hN hD
  by_cases n5 : ((P.fn i).ins pc).op = 5
  · rw [if_pos n5] at hN hD
    rw [n5]; exact els_walk b hN hD
  rw [if_neg n5] at hN hD
  by_cases n11 : ((P.fn i).ins pc).op = 11
  · rw [if_pos n11] at hN hD
    rw [n11]; exact end_walk b hN hD
  rw [if_neg n11] at hN hD
  by_cases n12 : ((P.fn i).ins pc).op = 12
  · rw [if_pos n12] at hN hD
    rw [n12]; exact br_walk b hN hD
  rw [if_neg n12] at hN hD
  by_cases n13 : ((P.fn i).ins pc).op = 13
  · rw [if_pos n13] at hN hD
    rw [n13]; exact brif_walk b hN hD
  rw [if_neg n13] at hN hD
  by_cases n14 : ((P.fn i).ins pc).op = 14
  · rw [if_pos n14] at hN hD
    rw [n14]; exact table_walk b hN hD
  rw [if_neg n14] at hN hD
  by_cases n15 : ((P.fn i).ins pc).op = 15
  · rw [if_pos n15] at hN hD
    rw [n15]; exact ret_walk b hN hD
  rw [if_neg n15] at hN hD
  exact pln_walk b hps (fun n hn => by rcases hn with rfl | rfl | rfl | rfl | rfl | rfl <;> assumption) hN hD
end
end Go.Proofs.Qxb6500317aGreat
