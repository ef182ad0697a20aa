/-
  The model of the validator: the parts.
-/
import Derived.Test.Qxb6500322aMsI
set_option linter.unusedSimpArgs false
set_option linter.unusedVariables false
set_option maxRecDepth 100000
set_option linter.unusedSectionVars false
namespace Go.Proofs.Qxb6500322a
open Go Go.Vc

def orE : Option (Int × Int) → Int × Int → Int × Int
  | some e, _ => e
  | none, d => d
theorem partsV_or (P : PM) : partsV P = orE (tyRow P (P.nIm + P.nf) 0) (if valid_limits.F P.tmin P.tmax 8 = true then (if valid_limits.F P.mmin P.mmax 6 = true then orE (gloRow P P.gn 0) (orE (expRow P P.nEx 0) (orE (stE P) (segV P))) else (1, 16)) else (0, 16)) := by
  unfold partsV
  cases tyRow P (P.nIm + P.nf) 0 with
  | some e => rfl
  | none =>
    show (if _ then _ else _) = (if _ then _ else _)
    cases gloRow P P.gn 0 with
    | some e => rfl
    | none =>
      cases expRow P P.nEx 0 with
      | some e => rfl
      | none =>
        cases stE P with
        | some e => rfl
        | none => rfl
theorem segV_or (P : PM) : segV P = orE (elRow P P.nEl 0) (orE (daRow P P.nD 0) (0, 0)) := by
  unfold segV
  cases elRow P P.nEl 0 with
  | some e => rfl
  | none => cases daRow P P.nD 0 with
    | some e => rfl
    | none => rfl
theorem orE_if {c : Prop} [Decidable c] {e d : Int × Int} {x : Option (Int × Int)} : orE (if c then some e else x) d = if c then e else orE x d := by
  split <;> rfl
theorem orE_if2 {c : Prop} [Decidable c] {e d : Int × Int} {x : Option (Int × Int)} : orE (if c then x else some e) d = if c then orE x d else e := by
  split <;> rfl
theorem lim_eq (lo hi most : Int) : valid_limits.F lo hi most = !(decide (lo > most) || ((hi != -1) && decide (hi < lo))) := by
  unfold valid_limits.F
  by_cases h1 : lo > most
  · rw [decide_eq_true h1]; rfl
  · rw [decide_eq_false h1, Bool.false_or]
    by_cases h2 : hi = -1
    · rw [h2]; rfl
    · rw [beq_eq_false_iff_ne.2 h2, bne_iff_ne.2 h2, Bool.true_and]
      show decide (hi ≥ lo) = _
      by_cases h3 : hi < lo
      · rw [decide_eq_true h3, decide_eq_false (by omega)]; rfl
      · rw [decide_eq_false h3, decide_eq_true (by omega)]; rfl
theorem kon_const {op : Int} (h0 : 65 ≤ op) (h1 : op ≤ 68) : konT op = valid_constOf.F op := by
  have : op = 65 ∨ op = 66 ∨ op = 67 ∨ op = 68 := by omega
  rcases this with rfl | rfl | rfl | rfl <;> decide

section
variable {wd w : World} {L mb : Nat} {m : Nat → Value} {P : PM}
def Rp (w : World) (X : Int × Int) : Value → World → Prop := fun v w' => v = pairV X ∧ Same [] w.heap.size w w'
theorem sc (i : Nat) (h : i ≤ 1000) : IntKind.wrap .i64 ((i : Int) + 1) = ((i + 1 : Nat) : Int) := by rw [wrap_i64 (by omega) (by omega)]; omega

theorem mp14 (B : PB P) : ∀ (n i : Nat) (w1 : World), i + n = P.nD → HM wd w1 L mb m P → Same [] w.heap.size w w1 → validm_parts.L14 (some ⟨mb, 0, none⟩) (i : Int) (Rp w (orE (daRow P n i) (0, 0))) (fun _ _ => False) w1 := by
  have bd := B.nD
  intro n
  induction n with
  | zero =>
    intro i w1 hi H1 S1
    refine validm_parts.step14 _ _ _ _ _ ?_
    unfold validm_parts.V14
    obtain ⟨a, c, _⟩ := H1.da
    simp only [nilV_some, Nat.zero_add]
    exact ⟨_, _, _, c, cond_false' (decide_eq_false (by omega)) ⟨rfl, S1⟩⟩
  | succ n ih =>
    intro i w1 hi H1 S1
    refine validm_parts.step14 _ _ _ _ _ ?_
    unfold validm_parts.V14
    obtain ⟨a, c, hr⟩ := H1.da
    obtain ⟨eb, rfl, row⟩ := hr (by omega)
    have e0 := row i (by omega) 0 _ rfl
    rw [Nat.add_zero] at e0
    rw [daRow_succ, orE_if, orE_if2]
    simp only [nilV_some, Nat.zero_add]
    refine ⟨_, _, _, c, cond_true' (decide_eq_true (by omega)) ⟨_, H1.c5, cond_intro (fun h => ?_) (fun h => ?_)⟩⟩
    · rw [if_pos (of_decide_eq_true h)]; exact ⟨rfl, S1⟩
    rw [if_neg (of_decide_eq_false h)]
    refine ⟨_, _, _, c, ⟨by omega, by omega⟩, ?_⟩
    simp only [nilV_some, add_mk, Int.toNat_natCast, Nat.zero_add]
    refine ⟨_, e0, cond_intro (fun h => ?_) (fun h => ?_)⟩
    · rw [if_neg (show ¬ (P.da i).off.op = 65 by simpa using h)]; exact ⟨rfl, S1⟩
    rw [if_pos (show (P.da i).off.op = 65 by simpa using h), sc i (by omega)]
    exact ih (i + 1) w1 (by omega) H1 S1

theorem mp12 (B : PB P) : ∀ (n i : Nat) (w1 : World), i + n = P.nEl → HM wd w1 L mb m P → Same [] w.heap.size w w1 → validm_parts.L12 (some ⟨mb, 0, none⟩) ((P.nIm + P.nf : Nat) : Int) (i : Int) (Rp w (orE (elRow P n i) (orE (daRow P P.nD 0) (0, 0)))) (fun _ _ => False) w1 := by
  have be := B.nEl; have b1 := B.nIm; have b2 := B.nf
  intro n
  induction n with
  | zero =>
    intro i w1 hi H1 S1
    refine validm_parts.step12 _ _ _ _ _ _ ?_
    unfold validm_parts.V12
    obtain ⟨a, c, _⟩ := H1.el
    simp only [nilV_some, Nat.zero_add]
    exact ⟨_, _, _, c, cond_false' (decide_eq_false (by omega)) (mp14 B P.nD 0 w1 (by omega) H1 S1)⟩
  | succ n ih =>
    intro i w1 hi H1 S1
    refine validm_parts.step12 _ _ _ _ _ _ ?_
    unfold validm_parts.V12
    obtain ⟨a, c, hr⟩ := H1.el
    obtain ⟨eb, rfl, fr, row, rel⟩ := hr (by omega)
    obtain ⟨r1, r2, r3⟩ := rel i (by omega)
    have e0 := row.c i (by omega) 0 _ rfl
    rw [Nat.add_zero, r1] at e0
    have hb := B.el i (by omega)
    rw [elRow_succ, orE_if, orE_if2, orE_if]
    simp only [nilV_some, Nat.zero_add]
    refine ⟨_, _, _, c, cond_true' (decide_eq_true (by omega)) ⟨_, H1.c3, cond_intro (fun h => ?_) (fun h => ?_)⟩⟩
    · rw [if_pos (of_decide_eq_true h)]; exact ⟨rfl, S1⟩
    rw [if_neg (of_decide_eq_false h)]
    refine ⟨_, _, _, c, ⟨by omega, by omega⟩, ?_⟩
    simp only [nilV_some, add_mk, Int.toNat_natCast, Nat.zero_add]
    refine ⟨_, e0, cond_intro (fun h => ?_) (fun h => ?_)⟩
    · rw [if_neg (show ¬ (P.el i).off.op = 65 by simpa using h)]; exact ⟨rfl, S1⟩
    rw [if_pos (show (P.el i).off.op = 65 by simpa using h)]
    obtain ⟨a3, ev3, hr3⟩ := r2.look
    have e3 := row.c i (by omega) 3 _ rfl
    rw [ev3] at e3
    suffices G : ∀ (q j : Nat), j + q = (P.el i).n → validm_parts.L13 (some ⟨mb, 0, none⟩) ((P.nIm + P.nf : Nat) : Int) (i : Int) (j : Int) (Rp w (if fnBad ((P.nIm + P.nf : Nat) : Int) (P.el i).fns q j = true then ((i : Int), (15 : Int)) else orE (elRow P n (i + 1)) (orE (daRow P P.nD 0) (0, 0)))) (fun _ _ => False) w1 from G (P.el i).n 0 (by omega)
    intro q
    induction q with
    | zero =>
      intro j hj
      refine validm_parts.step13 _ _ _ _ _ _ _ ?_
      unfold validm_parts.V13
      simp only [nilV_some, Nat.zero_add]
      refine ⟨_, _, _, c, ⟨by omega, by omega⟩, ?_⟩
      simp only [nilV_some, add_mk, Int.toNat_natCast, Nat.zero_add]
      refine ⟨_, _, _, e3, cond_false' (decide_eq_false (by omega)) ?_⟩
      rw [sc i (by omega)]
      exact ih (i + 1) w1 (by omega) H1 S1
    | succ q ihq =>
      intro j hj
      refine validm_parts.step13 _ _ _ _ _ _ _ ?_
      unfold validm_parts.V13
      obtain ⟨gb, rfl, _, e4⟩ := hr3 (by omega)
      have e5 := e4 j (by omega) 0 _ rfl
      rw [Nat.mul_one, Nat.add_zero] at e5
      have hj2 := hb.2.2 j (by omega)
      simp only [nilV_some, Nat.zero_add]
      refine ⟨_, _, _, c, ⟨by omega, by omega⟩, ?_⟩
      simp only [nilV_some, add_mk, Int.toNat_natCast, Nat.zero_add]
      refine ⟨_, _, _, e3, cond_true' (decide_eq_true (by omega)) ⟨_, _, _, c, ⟨by omega, by omega⟩, ?_⟩⟩
      simp only [nilV_some, add_mk, Int.toNat_natCast, Nat.zero_add]
      refine ⟨_, _, _, e3, ⟨by omega, by omega⟩, ?_⟩
      simp only [nilV_some, add_mk, Int.toNat_natCast, Nat.zero_add, Nat.mul_one]
      refine ⟨_, e5, ?_⟩
      rw [wrap_u64 (by omega) (by omega), wrap_u64 (by omega) (by omega), fnBad_succ]
      refine cond_intro (fun h => ?_) (fun h => ?_)
      · rw [if_pos (of_decide_eq_true h), if_pos rfl]; exact ⟨rfl, S1⟩
      rw [if_neg (of_decide_eq_false h), sc j (by omega)]
      exact ihq (j + 1) (by omega)

theorem mp10 (B : PB P) {w1 : World} (H1 : HM wd w1 L mb m P) (S1 : Same [] w.heap.size w w1) : validm_parts.L10 (some ⟨mb, 0, none⟩) ((P.nIm + P.nf : Nat) : Int) (Rp w (segV P)) (fun _ _ => False) w1 := by
  refine validm_parts.step10 _ _ _ _ _ ?_
  unfold validm_parts.V10
  rw [segV_or]
  exact mp12 B P.nEl 0 w1 (by omega) H1 S1

structure ExAt (w : World) (b : Nat) (x : ExpV) : Prop where
  c0 : w.cell? ⟨b, 0, none⟩ = some (.string x.nm)
  c1 : w.cell? ⟨b, 1, none⟩ = some (.int .u8 x.kind)
  c2 : w.cell? ⟨b, 2, none⟩ = some (.int .u32 x.idx)
theorem mp8 (B : PB P) : ∀ (n i : Nat) (w1 : World), i + n = P.nEx → HM wd w1 L mb m P → Same [] w.heap.size w w1 → validm_parts.L8 (some ⟨mb, 0, none⟩) ((P.nIm + P.nf : Nat) : Int) (i : Int) (Rp w (orE (expRow P n i) (orE (stE P) (segV P)))) (fun _ _ => False) w1 := by
  have be := B.nEx; have b1 := B.nIm; have b2 := B.nf; have bg := B.gn; have bs := B.s0
  intro n
  induction n with
  | zero =>
    intro i w1 hi H1 S1
    refine validm_parts.step8 _ _ _ _ _ _ ?_
    unfold validm_parts.V8
    obtain ⟨a, c, _⟩ := H1.ex
    simp only [nilV_some, Nat.zero_add]
    refine ⟨_, _, _, c, cond_false' (decide_eq_false (by omega)) ⟨_, H1.c9, cond_intro (fun h => ?_) (fun h => ?_)⟩⟩
    · have h : ¬ P.start = -1 := by simpa using h
      have eS : stE P = match typeOf P P.start with | none => some (0, 15) | some t => if baEq t ⟨#[58]⟩ = true then none else some (0, 19) := by unfold stE; rw [if_neg h]; rfl
      refine ⟨_, H1.c9, RunsQ.post (TypeOf_spec H1 B P.start (by omega) (by omega)) ?_⟩
      rintro v w3 ⟨rfl, S3⟩
      have T3 := S1.trans (S3.mono S1.size (by simp))
      have H3 := H1.keep S3
      rw [eS]
      cases ht : typeOf P P.start with
      | none => exact ⟨_, _, rfl, cond_true' rfl ⟨rfl, T3⟩⟩
      | some t =>
        refine ⟨_, _, rfl, cond_false' rfl ?_⟩
        show cond (!(baEq t ⟨#[58]⟩)) _ _
        cases hb : baEq t ⟨#[58]⟩
        · refine cond_true' rfl ⟨?_, T3⟩
          simp only [hb]
          rfl
        · refine cond_false' rfl ?_
          simp only [hb]
          exact mp10 B H3 T3
    · have h : P.start = -1 := by simpa using h
      have eS : stE P = none := by unfold stE; rw [if_pos h]
      rw [eS]
      exact mp10 B H1 S1
  | succ n ih =>
    intro i w1 hi H1 S1
    refine validm_parts.step8 _ _ _ _ _ _ ?_
    unfold validm_parts.V8
    obtain ⟨a, c, hr⟩ := H1.ex
    obtain ⟨eb, rfl, row⟩ := hr (by omega)
    have r0 := row i (by omega) 0 _ rfl
    rw [Nat.add_zero] at r0
    have hb := B.ex i (by omega)
    rw [expRow_succ, orE_if, orE_if]
    simp only [nilV_some, Nat.zero_add]
    refine ⟨_, _, _, c, cond_true' (decide_eq_true (by omega)) ⟨_, _, _, c, ⟨by omega, by omega⟩, ?_⟩⟩
    simp only [nilV_some, add_mk, Int.toNat_natCast, Nat.zero_add]
    refine ⟨_, _, _, r0, row i (by omega) 1 _ rfl, row i (by omega) 2 _ rfl, letB_intro fun b13 hb13 => letW_intro fun w14 hw14 => ?_⟩
    have S14 : Same [] w1.heap.size w1 w14 := by rw [hw14]; exact (Same.refl _ _ _).alloc (Nat.le_refl _) _
    have cn : ∀ j, j < 3 → can w14 ⟨b13, j, none⟩ := fun j hj => by
      have : j = 0 ∨ j = 1 ∨ j = 2 := by omega
      refine ⟨?_, by rw [hw14, hb13, World.frozen?_alloc_new]⟩
      rw [hw14, hb13, World.cell?_alloc_new]
      rcases this with rfl | rfl | rfl <;> exact ⟨_, rfl⟩
    clear hw14
    refine putCells_intro b13 _ 0 w14 _ (fun j hj => by rw [Nat.zero_add]; exact cn j hj) (fun w15 hF => ?_)
    have X : ExAt w15 b13 (P.ex i) := ⟨by rw [hF.cell, if_pos (by simp)]; rfl, by rw [hF.cell, if_pos (by simp)]; rfl, by rw [hF.cell, if_pos (by simp)]; rfl⟩
    have S15 : Same [] w1.heap.size w1 w15 := S14.trans ((hF.same _).mono (Nat.le_refl _) (fun k hk hl => by simp at hk; omega))
    clear hF cn
    have T15 := S1.trans (S15.mono S1.size (by simp))
    have H15 := H1.keep S15
    -- the names before
    have L11 : ∀ (q j : Nat) (w2 : World), j + q = i → HM wd w2 L mb m P → Same [] w.heap.size w w2 → ExAt w2 b13 (P.ex i) → validm_parts.L11 (some ⟨mb, 0, none⟩) ((P.nIm + P.nf : Nat) : Int) (i : Int) b13 (j : Int) (Rp w (if dupRow P (P.ex i).nm q j = true then ((i : Int), (18 : Int)) else orE (expRow P n (i + 1)) (orE (stE P) (segV P)))) (fun _ _ => False) w2 := by
      intro q
      induction q with
      | zero =>
        intro j w2 hj H2 S2 X2
        refine validm_parts.step11 _ _ _ _ _ _ _ _ ?_
        unfold validm_parts.V11
        refine cond_false' (decide_eq_false (by omega)) ?_
        rw [sc i (by omega)]
        exact ih (i + 1) w2 (by omega) H2 S2
      | succ q ihq =>
        intro j w2 hj H2 S2 X2
        refine validm_parts.step11 _ _ _ _ _ _ _ _ ?_
        unfold validm_parts.V11
        simp only [true_and, nilV_some, Nat.zero_add]
        obtain ⟨a2, c2, hr2⟩ := H2.drew.ex
        obtain ⟨eb2, rfl, row2⟩ := hr2 (by omega)
        have e0 := row2 j (by omega) 0 _ rfl
        rw [Nat.add_zero] at e0
        refine cond_true' (decide_eq_true (by omega)) ⟨_, _, _, c2, ⟨by omega, by omega⟩, ?_⟩
        simp only [nilV_some, add_mk, Int.toNat_natCast, Nat.zero_add]
        refine ⟨_, e0, _, X2.c0, ?_⟩
        rw [dupRow_succ]
        refine cond_intro (fun h => ?_) (fun h => ?_)
        · rw [if_pos (show baEq (P.ex j).nm (P.ex i).nm = true from h), if_pos rfl]
          exact ⟨rfl, S2.drew⟩
        · have h : ¬ baEq (P.ex j).nm (P.ex i).nm = true := fun g => by
            have g : (ByteArray.toList (P.ex j).nm == ByteArray.toList (P.ex i).nm) = true := g
            rw [g] at h; cases h
          rw [if_neg h, sc j (by omega)]
          exact ihq (j + 1) _ (by omega) H2.drew S2.drew ⟨X2.c0, X2.c1, X2.c2⟩
    have L9 : ∀ N : Int, N = expN P (P.ex i) → 0 ≤ N → N ≤ 1000 → validm_parts.L9 (some ⟨mb, 0, none⟩) ((P.nIm + P.nf : Nat) : Int) (i : Int) b13 N (Rp w (if expN P (P.ex i) ≤ (P.ex i).idx then ((i : Int), (17 : Int)) else if dupRow P (P.ex i).nm i 0 = true then ((i : Int), (18 : Int)) else orE (expRow P n (i + 1)) (orE (stE P) (segV P)))) (fun _ _ => False) w15 := fun N hN h0 h1 => by
      refine validm_parts.step9 _ _ _ _ _ _ _ _ ?_
      unfold validm_parts.V9
      refine ⟨_, X.c2, ?_⟩
      rw [wrap_u64 (by omega) (by omega), wrap_u64 (by omega) (by omega), ← hN]
      refine cond_intro (fun h => ?_) (fun h => ?_)
      · rw [if_pos (of_decide_eq_true h)]; exact ⟨rfl, T15⟩
      · rw [if_neg (of_decide_eq_false h)]
        exact L11 i 0 w15 (by omega) H15 T15 X
    refine ⟨_, X.c1, cond_intro (fun h => ?_) (fun h => ?_)⟩
    · have en : expN P (P.ex i) = valid_there.F P.tmin := by unfold expN; rw [if_pos (eq_of_beq h)]
      refine ⟨_, H15.c3, cond_intro (fun g => L9 1 ?_ (by omega) (by omega)) (fun g => L9 0 ?_ (by omega) (by omega))⟩
      · rw [en]; unfold valid_there.F; rw [decide_eq_false (by have := of_decide_eq_true g; omega)]; rfl
      · rw [en]; unfold valid_there.F; rw [decide_eq_true (by have := of_decide_eq_false g; omega)]; rfl
    have n1 : ¬ (P.ex i).kind = 1 := by simpa using h
    refine cond_intro (fun h => ?_) (fun h => ?_)
    · have en : expN P (P.ex i) = valid_there.F P.mmin := by unfold expN; rw [if_neg n1, if_pos (eq_of_beq h)]
      refine ⟨_, H15.c5, cond_intro (fun g => L9 1 ?_ (by omega) (by omega)) (fun g => L9 0 ?_ (by omega) (by omega))⟩
      · rw [en]; unfold valid_there.F; rw [decide_eq_false (by have := of_decide_eq_true g; omega)]; rfl
      · rw [en]; unfold valid_there.F; rw [decide_eq_true (by have := of_decide_eq_false g; omega)]; rfl
    have n2 : ¬ (P.ex i).kind = 2 := by simpa using h
    refine cond_intro (fun h => ?_) (fun h => ?_)
    · have en : expN P (P.ex i) = (P.gn : Int) := by unfold expN; rw [if_neg n1, if_neg n2, if_pos (eq_of_beq h)]
      obtain ⟨a7, c7, _⟩ := H15.gl
      exact ⟨_, _, _, c7, L9 _ en.symm (by omega) (by omega)⟩
    · have n3 : ¬ (P.ex i).kind = 3 := by simpa using h
      have en : expN P (P.ex i) = ((P.nIm + P.nf : Nat) : Int) := by unfold expN; rw [if_neg n1, if_neg n2, if_neg n3]
      exact L9 _ en.symm (by omega) (by omega)

theorem mp7 (W : WFP P) : ∀ (n i : Nat) (w1 : World), i + n = P.gn → HM wd w1 L mb m P → Same [] w.heap.size w w1 → validm_parts.L7 (some ⟨mb, 0, none⟩) ((P.nIm + P.nf : Nat) : Int) (i : Int) (Rp w (orE (gloRow P n i) (orE (expRow P P.nEx 0) (orE (stE P) (segV P))))) (fun _ _ => False) w1 := by
  have B := W.pb
  have bg := B.gn
  intro n
  induction n with
  | zero =>
    intro i w1 hi H1 S1
    refine validm_parts.step7 _ _ _ _ _ _ ?_
    unfold validm_parts.V7
    obtain ⟨a, c, _⟩ := H1.gl
    simp only [nilV_some, Nat.zero_add]
    exact ⟨_, _, _, c, cond_false' (decide_eq_false (by omega)) (mp8 B P.nEx 0 w1 (by omega) H1 S1)⟩
  | succ n ih =>
    intro i w1 hi H1 S1
    refine validm_parts.step7 _ _ _ _ _ _ ?_
    unfold validm_parts.V7
    obtain ⟨a, c, hr⟩ := H1.gl
    obtain ⟨gb, rfl, row⟩ := hr (by omega)
    have e0 := row i (by omega) 0 _ rfl
    rw [Nat.add_zero] at e0
    have ko := (W.g i (by omega)).2
    rw [gloRow_succ, orE_if2]
    simp only [nilV_some, Nat.zero_add]
    have cs : ∀ {w8 : World}, Same [] w1.heap.size w1 w8 → ∀ {q j : Nat} {v : Value}, w1.cell? ⟨q, j, none⟩ = some v → w8.cell? ⟨q, j, none⟩ = some v := fun {w8} h8 {q j v} hv => by
      rw [h8.cell (p := ⟨q, j, none⟩) (show q < w1.heap.size from cell_lt hv) (by simp)]; exact hv
    refine ⟨_, _, _, c, cond_true' (decide_eq_true (by omega)) ⟨fun w' => Same [] w1.heap.size w1 w', (Same.refl _ _ _).drew, _, _, _, fun w8 h8 => cs h8 c, ⟨by omega, by omega⟩, ?_⟩⟩
    simp only [nilV_some, add_mk, Int.toNat_natCast, Nat.zero_add]
    refine ⟨_, _, _, fun w8 h8 => ⟨cs h8 (row i (by omega) 2 _ rfl), cs h8 (row i (by omega) 3 _ rfl), cs h8 (row i (by omega) 4 _ rfl), trivial⟩, konT (P.g i).init.op, fun w8 h8 => Runs.mono (constType_spec (P.g i).init w8) (fun v w9 h => ⟨h.1, h8.trans (h.2.mono h8.size (by simp))⟩), _, _, _, fun w8 h8 => cs h8 c, ⟨by omega, by omega⟩, ?_⟩
    simp only [nilV_some, add_mk, Int.toNat_natCast, Nat.zero_add]
    refine ⟨_, fun w8 h8 => cs h8 e0, fun w8 h8 => ?_⟩
    have T8 := S1.trans (h8.mono S1.size (by simp))
    rw [kon_const ko.o0 ko.o1]
    refine cond_intro (fun h => ?_) (fun h => ?_)
    · rw [if_neg (show ¬ valid_constOf.F (P.g i).init.op = (P.g i).ty by simpa using h)]; exact ⟨rfl, T8⟩
    rw [if_pos (show valid_constOf.F (P.g i).init.op = (P.g i).ty by simpa using h), sc i (by omega)]
    exact ih (i + 1) w8 (by omega) (H1.keep h8) T8

theorem mp3 (W : WFP P) : ∀ (n i : Nat) (w1 : World), i + n = P.nf → HM wd w1 L mb m P → Same [] w.heap.size w w1 → validm_parts.L3 (some ⟨mb, 0, none⟩) ((P.nIm + P.nf : Nat) : Int) (i : Int) (Rp w (orE (tyRow P n (P.nIm + i)) (if valid_limits.F P.tmin P.tmax 8 = true then (if valid_limits.F P.mmin P.mmax 6 = true then orE (gloRow P P.gn 0) (orE (expRow P P.nEx 0) (orE (stE P) (segV P))) else (1, 16)) else (0, 16)))) (fun _ _ => False) w1 := by
  have B := W.pb
  have b1 := B.nIm; have b2 := B.nf
  intro n
  induction n with
  | zero =>
    intro i w1 hi H1 S1
    refine validm_parts.step3 _ _ _ _ _ _ ?_
    unfold validm_parts.V3
    obtain ⟨a, c, _⟩ := H1.fn
    simp only [true_and, nilV_some, Nat.zero_add]
    refine ⟨_, _, _, c, cond_false' (decide_eq_false (by omega)) ?_⟩
    have et : tyRow P 0 (P.nIm + i) = none := rfl
    rw [et]
    have D1 := H1.drew
    have L6 : ∀ (t : Bool) (w2 : World), HM wd w2 L mb m P → Same [] w.heap.size w w2 → t = (decide (P.mmin > 6) || ((P.mmax != -1) && decide (P.mmax < P.mmin))) → validm_parts.L6 (some ⟨mb, 0, none⟩) ((P.nIm + P.nf : Nat) : Int) t (Rp w (if valid_limits.F P.mmin P.mmax 6 = true then orE (gloRow P P.gn 0) (orE (expRow P P.nEx 0) (orE (stE P) (segV P))) else (1, 16))) (fun _ _ => False) w2 := fun t w2 H2 S2 ht => by
      refine validm_parts.step6 _ _ _ _ _ _ ?_
      unfold validm_parts.V6
      rw [lim_eq, ← ht]
      cases t with
      | true => exact cond_true' rfl ⟨rfl, S2⟩
      | false => exact cond_false' rfl (mp7 W P.gn 0 w2 (by omega) H2 S2)
    have L5 : ∀ (t : Bool) (w2 : World), HM wd w2 L mb m P → Same [] w.heap.size w w2 → t = (decide (P.tmin > 8) || ((P.tmax != -1) && decide (P.tmax < P.tmin))) → validm_parts.L5 (some ⟨mb, 0, none⟩) ((P.nIm + P.nf : Nat) : Int) t (Rp w (if valid_limits.F P.tmin P.tmax 8 = true then (if valid_limits.F P.mmin P.mmax 6 = true then orE (gloRow P P.gn 0) (orE (expRow P P.nEx 0) (orE (stE P) (segV P))) else (1, 16)) else (0, 16))) (fun _ _ => False) w2 := fun t w2 H2 S2 ht => by
      refine validm_parts.step5 _ _ _ _ _ _ ?_
      unfold validm_parts.V5
      rw [lim_eq P.tmin, ← ht]
      cases t with
      | true => exact cond_true' rfl ⟨rfl, S2⟩
      | false =>
        refine cond_false' rfl ?_
        simp only [true_and, nilV_some, Nat.zero_add]
        have D2 := H2.drew
        rw [show (if (!false) = true then (if valid_limits.F P.mmin P.mmax 6 = true then orE (gloRow P P.gn 0) (orE (expRow P P.nEx 0) (orE (stE P) (segV P))) else (1, 16)) else (0, 16)) = (if valid_limits.F P.mmin P.mmax 6 = true then orE (gloRow P P.gn 0) (orE (expRow P P.nEx 0) (orE (stE P) (segV P))) else (1, 16)) from rfl]
        refine ⟨_, D2.c5, cond_intro (fun h => L6 true _ D2 S2.drew (by rw [h]; rfl)) (fun h => ⟨_, D2.c6, cond_intro (fun h2 => ⟨_, D2.c6, _, D2.c5, L6 _ _ D2 S2.drew (by rw [h, h2]; rfl)⟩) (fun h2 => L6 false _ D2 S2.drew (by rw [h, h2]; rfl))⟩)⟩
    exact ⟨_, D1.c3, cond_intro (fun h => L5 true _ D1 S1.drew (by rw [h]; rfl)) (fun h => ⟨_, D1.c4, cond_intro (fun h2 => ⟨_, D1.c4, _, D1.c3, L5 _ _ D1 S1.drew (by rw [h, h2]; rfl)⟩) (fun h2 => L5 false _ D1 S1.drew (by rw [h, h2]; rfl))⟩)⟩
  | succ n ih =>
    intro i w1 hi H1 S1
    refine validm_parts.step3 _ _ _ _ _ _ ?_
    unfold validm_parts.V3
    obtain ⟨a, c, hr⟩ := H1.drew.fn
    obtain ⟨fb, rfl, _, _, row⟩ := hr (by omega)
    have e0 := row.c0 i (by omega)
    obtain ⟨a0, t0, _⟩ := H1.drew.ty
    have bT := B.nTy
    have f1 := (B.fn i (by omega)).t0; have f2 := (B.fn i (by omega)).t1
    have et : typeOf P ((P.nIm + i : Nat) : Int) = typeAt P (P.fn i).ty := by
      unfold typeOf tyIdx
      rw [if_neg (by omega), if_pos (by omega), show (((P.nIm + i : Nat) : Int) - (P.nIm : Int)).toNat = i by omega]
    rw [tyRow_succ, et, orE_if]
    simp only [true_and, nilV_some, Nat.zero_add]
    refine ⟨_, _, _, c, cond_true' (decide_eq_true (by omega)) ⟨_, _, _, c, ⟨by omega, by omega⟩, ?_⟩⟩
    simp only [nilV_some, add_mk, Int.toNat_natCast, Nat.zero_add]
    refine ⟨_, e0, cond_false' (decide_eq_false (by omega)) ⟨_, _, _, c, ⟨by omega, by omega⟩, ?_⟩⟩
    simp only [nilV_some, add_mk, Int.toNat_natCast, Nat.zero_add]
    refine ⟨_, e0, _, _, _, t0, ?_⟩
    refine validm_parts.step4 _ _ _ _ _ _ _ ?_
    unfold validm_parts.V4
    refine cond_intro (fun h => ?_) (fun h => ?_)
    · have h : (P.nTy : Int) ≤ (P.fn i).ty := of_decide_eq_true h
      have en : typeAt P (P.fn i).ty = none := by unfold typeAt; rw [if_pos (.inr h)]
      obtain ⟨a1, c1, _⟩ := H1.drew.im
      simp only [nilV_some, Nat.zero_add]
      refine ⟨_, _, _, c1, ?_, S1.drew⟩
      rw [en, if_pos (show (none : Option ByteArray).isNone = true from rfl), wrap_i64 (by omega) (by omega)]
      unfold pairV
      simp
    · have h : ¬ (P.nTy : Int) ≤ (P.fn i).ty := of_decide_eq_false h
      have en : (typeAt P (P.fn i).ty).isNone = false := by unfold typeAt; rw [if_neg (by omega)]; rfl
      rw [en, if_neg (by decide), sc i (by omega)]
      have := ih (i + 1) w1.drew (by omega) H1.drew S1.drew
      rw [show P.nIm + (i + 1) = P.nIm + i + 1 by omega] at this
      exact this

theorem mparts_spec (H : HM wd w L mb m P) (W : WFP P) : Runs Try.prog validm_parts.id #[rp mb] w fun v w' => v = pairV (partsV P) ∧ Same [] w.heap.size w w' := by
  have B := W.pb
  have b1 := B.nIm; have b2 := B.nf
  refine validm_parts.enter _ _ _ _ ?_
  unfold validm_parts.V
  simp only [true_and, nilV_some, Nat.zero_add]
  obtain ⟨_, c1, _⟩ := H.drew.im
  obtain ⟨_, c2, _⟩ := H.drew.fn
  refine ⟨_, _, _, c1, _, _, _, c2, ?_⟩
  have e0 : IntKind.wrap .i64 (((P.nIm : Nat) : Int) + ((P.nf : Nat) : Int)) = ((P.nIm + P.nf : Nat) : Int) := by rw [wrap_i64 (by omega) (by omega)]; omega
  rw [e0, partsV_or]
  suffices h : ∀ (n i : Nat) (w1 : World), i + n = P.nIm → HM wd w1 L mb m P → Same [] w.heap.size w w1 → validm_parts.L1 (some ⟨mb, 0, none⟩) ((P.nIm + P.nf : Nat) : Int) (i : Int) (Rp w (orE (tyRow P (n + P.nf) i) (if valid_limits.F P.tmin P.tmax 8 = true then (if valid_limits.F P.mmin P.mmax 6 = true then orE (gloRow P P.gn 0) (orE (expRow P P.nEx 0) (orE (stE P) (segV P))) else (1, 16)) else (0, 16)))) (fun _ _ => False) w1 from h P.nIm 0 w.drew (by omega) H.drew (Same.refl _ _ _).drew
  intro n
  induction n with
  | zero =>
    intro i w1 hi H1 S1
    refine validm_parts.step1 _ _ _ _ _ _ ?_
    unfold validm_parts.V1
    obtain ⟨a, c, _⟩ := H1.im
    simp only [true_and, nilV_some, Nat.zero_add]
    refine ⟨_, _, _, c, cond_false' (decide_eq_false (by omega)) ?_⟩
    have := mp3 (w := w) W P.nf 0 w1 (by omega) H1 S1
    rw [show P.nIm + 0 = i by omega] at this

    exact this
  | succ n ih =>
    intro i w1 hi H1 S1
    refine validm_parts.step1 _ _ _ _ _ _ ?_
    unfold validm_parts.V1
    obtain ⟨a, c, hr⟩ := H1.drew.im
    obtain ⟨ib, rfl, row⟩ := hr (by omega)
    have e2 := row i (by omega) 2 _ rfl
    obtain ⟨a0, t0, _⟩ := H1.drew.ty
    have bT := B.nTy
    have f1 := (B.im i (by omega)).2.2.1; have f2 := (B.im i (by omega)).2.2.2
    have et : typeOf P (i : Int) = typeAt P (P.im i).ty := by
      unfold typeOf tyIdx
      rw [if_pos (by omega), Int.toNat_natCast]
    rw [show n + 1 + P.nf = (n + P.nf) + 1 by omega, tyRow_succ, et, orE_if]
    simp only [true_and, nilV_some, Nat.zero_add]
    refine ⟨_, _, _, c, cond_true' (decide_eq_true (by omega)) ⟨_, _, _, c, ⟨by omega, by omega⟩, ?_⟩⟩
    simp only [nilV_some, add_mk, Int.toNat_natCast, Nat.zero_add]
    refine ⟨_, e2, cond_false' (decide_eq_false (by omega)) ⟨_, _, _, c, ⟨by omega, by omega⟩, ?_⟩⟩
    simp only [nilV_some, add_mk, Int.toNat_natCast, Nat.zero_add]
    refine ⟨_, e2, _, _, _, t0, ?_⟩
    refine validm_parts.step2 _ _ _ _ _ _ _ ?_
    unfold validm_parts.V2
    refine cond_intro (fun h => ?_) (fun h => ?_)
    · have h : (P.nTy : Int) ≤ (P.im i).ty := of_decide_eq_true h
      have en : typeAt P (P.im i).ty = none := by unfold typeAt; rw [if_pos (.inr h)]
      rw [en, if_pos (show (none : Option ByteArray).isNone = true from rfl)]
      exact ⟨rfl, S1.drew⟩
    · have h : ¬ (P.nTy : Int) ≤ (P.im i).ty := of_decide_eq_false h
      have en : (typeAt P (P.im i).ty).isNone = false := by unfold typeAt; rw [if_neg (by omega)]; rfl
      rw [en, if_neg (by decide), sc i (by omega)]
      exact ih (i + 1) w1.drew (by omega) H1.drew S1.drew
end
end Go.Proofs.Qxb6500322a
