/-
  The validator: the module's parts.
-/
import Derived.Test.Qxb6500317aGreatVdF
set_option linter.unusedSimpArgs false
set_option linter.unusedVariables false
set_option maxRecDepth 100000
set_option linter.unusedSectionVars false
namespace Go.Proofs.Qxb6500317aGreat
open Go Go.Vc

/-! ### Plain -/
def baEq (a b : ByteArray) : Bool := ByteArray.toList a == ByteArray.toList b
def tyRow (P : PM) : Nat → Nat → Option (Int × Int)
  | 0, _ => none
  | n + 1, i => if (typeOf P i).isNone = true then some (i, 14) else tyRow P n (i + 1)
theorem tyRow_succ (P : PM) (n i : Nat) : tyRow P (n + 1) i = if (typeOf P i).isNone = true then some ((i : Int), 14) else tyRow P n (i + 1) := rfl
def gloRow (P : PM) : Nat → Nat → Option (Int × Int)
  | 0, _ => none
  | n + 1, i => if valid_constOf.F (P.g i).init.op = (P.g i).ty then gloRow P n (i + 1) else some (i, 27)
theorem gloRow_succ (P : PM) (n i : Nat) : gloRow P (n + 1) i = if valid_constOf.F (P.g i).init.op = (P.g i).ty then gloRow P n (i + 1) else some ((i : Int), 27) := rfl
def expN (P : PM) (x : ExpV) : Int := if x.kind = 1 then valid_there.F P.tmin else if x.kind = 2 then valid_there.F P.mmin else if x.kind = 3 then (P.gn : Int) else ((P.nIm + P.nf : Nat) : Int)
def dupRow (P : PM) (s : ByteArray) : Nat → Nat → Bool
  | 0, _ => false
  | n + 1, j => if baEq (P.ex j).nm s = true then true else dupRow P s n (j + 1)
theorem dupRow_succ (P : PM) (s : ByteArray) (n j : Nat) : dupRow P s (n + 1) j = if baEq (P.ex j).nm s = true then true else dupRow P s n (j + 1) := rfl
def expRow (P : PM) : Nat → Nat → Option (Int × Int)
  | 0, _ => none
  | n + 1, i => if expN P (P.ex i) ≤ (P.ex i).idx then some (i, 17) else if dupRow P (P.ex i).nm i 0 = true then some (i, 18) else expRow P n (i + 1)
theorem expRow_succ (P : PM) (n i : Nat) : expRow P (n + 1) i = if expN P (P.ex i) ≤ (P.ex i).idx then some ((i : Int), 17) else if dupRow P (P.ex i).nm i 0 = true then some ((i : Int), 18) else expRow P n (i + 1) := rfl
def fnBad (N : Int) (g : Nat → Int) : Nat → Nat → Bool
  | 0, _ => false
  | n + 1, j => if N ≤ g j then true else fnBad N g n (j + 1)
theorem fnBad_succ (N : Int) (g : Nat → Int) (n j : Nat) : fnBad N g (n + 1) j = if N ≤ g j then true else fnBad N g n (j + 1) := rfl
def elRow (P : PM) : Nat → Nat → Option (Int × Int)
  | 0, _ => none
  | n + 1, i => if P.tmin < 0 then some (i, 21) else if (P.el i).off.op = 65 then (if fnBad ((P.nIm + P.nf : Nat) : Int) (P.el i).fns (P.el i).n 0 = true then some (i, 15) else elRow P n (i + 1)) else some (i, 27)
theorem elRow_succ (P : PM) (n i : Nat) : elRow P (n + 1) i = if P.tmin < 0 then some ((i : Int), 21) else if (P.el i).off.op = 65 then (if fnBad ((P.nIm + P.nf : Nat) : Int) (P.el i).fns (P.el i).n 0 = true then some ((i : Int), 15) else elRow P n (i + 1)) else some ((i : Int), 27) := rfl
def daRow (P : PM) : Nat → Nat → Option (Int × Int)
  | 0, _ => none
  | n + 1, i => if P.mmin < 0 then some (i, 20) else if (P.da i).off.op = 65 then daRow P n (i + 1) else some (i, 27)
theorem daRow_succ (P : PM) (n i : Nat) : daRow P (n + 1) i = if P.mmin < 0 then some ((i : Int), 20) else if (P.da i).off.op = 65 then daRow P n (i + 1) else some ((i : Int), 27) := rfl
def stE (P : PM) : Option (Int × Int) := if P.start = -1 then none else match typeOf P P.start with | none => some (0, 15) | some t => if baEq t ⟨#[58]⟩ = true then none else some (0, 19)
def segV (P : PM) : Int × Int := match elRow P P.nEl 0 with | some e => e | none => match daRow P P.nD 0 with | some e => e | none => (0, 0)
def expV (P : PM) : Int × Int := match expRow P P.nEx 0 with | some e => e | none => (0, 0)
def partsV (P : PM) : Int × Int :=
  match tyRow P (P.nIm + P.nf) 0 with
  | some e => e
  | none => if valid_limits.F P.tmin P.tmax 8 = true then (if valid_limits.F P.mmin P.mmax 6 = true then (match gloRow P P.gn 0 with
    | some e => e
    | none => match expRow P P.nEx 0 with
      | some e => e
      | none => match stE P with
        | some e => e
        | none => segV P) else (1, 16)) else (0, 16)
def pairV (z : Int × Int) : Value := .tuple #[.int .i64 z.1, .int .i64 z.2]

/-! ### The walks -/
section
variable {wd w w' w0 : World} {L mb vb : Nat} {m : Nat → Value} {P : PM} {R Q : Value → World → Prop}

theorem there_rng (x : Int) : 0 ≤ valid_there.F x ∧ valid_there.F x ≤ 1 := by
  unfold valid_there.F
  cases decide (x < 0)
  · exact ⟨by decide, by decide⟩
  · exact ⟨by decide, by decide⟩
theorem expN_rng (B : PB P) (x : ExpV) : 0 ≤ expN P x ∧ expN P x ≤ 1000 := by
  have b1 := B.nIm; have b2 := B.nf; have b3 := B.gn
  have h1 := there_rng P.tmin; have h2 := there_rng P.mmin
  unfold expN
  repeat' split
  all_goals omega

theorem exports_spec' (H : HM wd w L mb m P) (B : PB P) : Runs Tryz.prog valid_exports.id #[rp mb, .int .i64 ((P.nIm + P.nf : Nat) : Int)] w fun v w' => v = pairV (expV P) ∧ Same [] w.heap.size w w' := by
  have bx := B.nEx; have b1 := B.nIm; have b2 := B.nf
  refine valid_exports.enter _ _ _ _ _ ?_
  unfold valid_exports.V
  suffices h : ∀ (n i : Nat) (w1 : World), i + n = P.nEx → HM wd w1 L mb m P → Same [] w.heap.size w w1 → valid_exports.L1 (some ⟨mb, 0, none⟩) ((P.nIm + P.nf : Nat) : Int) (i : Int) (fun v w' => v = pairV (match expRow P n i with | some e => e | none => (0, 0)) ∧ Same [] w.heap.size w w') (fun _ _ => False) w1 from h P.nEx 0 w (by omega) H (Same.refl _ _ _)
  intro n
  induction n with
  | zero =>
    intro i w1 hi H1 S1
    refine valid_exports.step1 _ _ _ _ _ _ ?_
    unfold valid_exports.V1
    obtain ⟨a, c8, _⟩ := H1.ex
    simp only [nilV_some, Nat.zero_add]
    exact ⟨_, _, _, c8, cond_false' (decide_eq_false (by omega)) ⟨rfl, S1⟩⟩
  | succ n ih =>
    intro i w1 hi H1 S1
    refine valid_exports.step1 _ _ _ _ _ _ ?_
    unfold valid_exports.V1
    obtain ⟨a, c8, hr⟩ := H1.ex
    obtain ⟨eb, rfl, row⟩ := hr (by omega)
    have e1 := row i (by omega) 1 _ rfl
    have hx := B.ex i (by omega)
    rw [expRow_succ]
    simp only [nilV_some, Nat.zero_add]
    refine ⟨_, _, _, c8, cond_true' (decide_eq_true (by omega)) ⟨_, _, _, c8, ⟨by omega, by omega⟩, ?_⟩⟩
    simp only [nilV_some, add_mk, Int.toNat_natCast, Nat.zero_add]
    have L2 : ∀ w2, HM wd w2 L mb m P → Same [] w.heap.size w w2 → valid_exports.L2 (some ⟨mb, 0, none⟩) ((P.nIm + P.nf : Nat) : Int) (i : Int) (some ⟨eb, i * 3, none⟩) (expN P (P.ex i)) (fun v w' => v = pairV (match (if expN P (P.ex i) ≤ (P.ex i).idx then some ((i : Int), (17 : Int)) else if dupRow P (P.ex i).nm i 0 = true then some ((i : Int), 18) else expRow P n (i + 1)) with | some e => e | none => (0, 0)) ∧ Same [] w.heap.size w w') (fun _ _ => False) w2 := fun w2 H2 S2 => by
      have gb : ∀ w3, HM wd w3 L mb m P → ∀ j, j < P.nEx → w3.cell? ⟨eb, j * 3, none⟩ = some (.string (P.ex j).nm) ∧ w3.cell? ⟨eb, j * 3 + 2, none⟩ = some (.int .u32 (P.ex j).idx) ∧ ∃ q, w3.cell? ⟨mb, 8, none⟩ = some (.slice (some ⟨eb, 0, none⟩) P.nEx q) := fun w3 H3 j hj => by
        obtain ⟨a3, c83, hr3⟩ := H3.ex
        obtain ⟨eb3, rfl, row3⟩ := hr3 (by omega)
        have em1 := H1.modAt.c 8 (by decide); have em3 := H3.modAt.c 8 (by decide)
        rw [c8] at em1; rw [c83] at em3
        have : eb3 = eb := by
          have := em1.trans em3.symm
          simp at this; exact this.symm
        subst this
        exact ⟨by have := row3 j hj 0 _ rfl; rwa [Nat.add_zero] at this, row3 j hj 2 _ rfl, _, c83⟩
      refine valid_exports.step2 _ _ _ _ _ _ _ _ ?_
      unfold valid_exports.V2
      rw [nilV_some]
      refine ⟨_, (gb w2 H2 i (by omega)).2.1, ?_⟩
      have hN := expN_rng B (P.ex i)
      rw [wrap_u64 (by omega) (by omega), wrap_u64 (by omega) (by omega)]
      refine cond_intro (fun h => ?_) (fun h => ?_)
      · rw [if_pos (of_decide_eq_true h)]; exact ⟨rfl, S2⟩
      rw [if_neg (of_decide_eq_false h)]
      have L3 : ∀ (q j : Nat) (w3 : World), j + q = i → HM wd w3 L mb m P → Same [] w.heap.size w w3 → valid_exports.L3 (some ⟨mb, 0, none⟩) ((P.nIm + P.nf : Nat) : Int) (i : Int) (some ⟨eb, i * 3, none⟩) (j : Int) (fun v w' => v = pairV (match (if dupRow P (P.ex i).nm q j = true then some ((i : Int), (18 : Int)) else expRow P n (i + 1)) with | some e => e | none => (0, 0)) ∧ Same [] w.heap.size w w') (fun _ _ => False) w3 := by
        intro q
        induction q with
        | zero =>
          intro j w3 hj H3 S3
          refine valid_exports.step3 _ _ _ _ _ _ _ _ ?_
          unfold valid_exports.V3
          refine cond_false' (decide_eq_false (by omega)) ?_
          have e : IntKind.wrap .i64 ((i : Int) + 1) = ((i + 1 : Nat) : Int) := by rw [wrap_i64 (by omega) (by omega)]; omega
          rw [e]
          exact ih (i + 1) w3 (by omega) H3 S3
        | succ q ihq =>
          intro j w3 hj H3 S3
          refine valid_exports.step3 _ _ _ _ _ _ _ _ ?_
          unfold valid_exports.V3
          refine cond_true' (decide_eq_true (by omega)) ?_
          simp only [true_and, nilV_some, Nat.zero_add]
          obtain ⟨k1, _, q8, k8⟩ := gb _ H3.drew j (by omega)
          obtain ⟨k2, _, _⟩ := gb _ H3.drew i (by omega)
          refine ⟨_, _, _, k8, ⟨by omega, by omega⟩, ?_⟩
          simp only [nilV_some, add_mk, Int.toNat_natCast, Nat.zero_add]
          refine ⟨_, k1, _, k2, ?_⟩
          rw [dupRow_succ]
          refine cond_intro (fun h => ?_) (fun h => ?_)
          · have h : baEq (P.ex j).nm (P.ex i).nm = true := h
            rw [if_pos h, if_pos rfl]; exact ⟨rfl, S3.drew⟩
          · have h : ¬ baEq (P.ex j).nm (P.ex i).nm = true := fun g => by
              have g : (ByteArray.toList (P.ex j).nm == ByteArray.toList (P.ex i).nm) = true := g
              rw [g] at h; cases h
            rw [if_neg h]
            have e : IntKind.wrap .i64 ((j : Int) + 1) = ((j + 1 : Nat) : Int) := by rw [wrap_i64 (by omega) (by omega)]; omega
            rw [e]
            exact ihq (j + 1) _ (by omega) H3.drew S3.drew
      exact L3 i 0 w2 (by omega) H2 S2
    refine ⟨_, e1, cond_intro (fun h => ?_) (fun h => ?_)⟩
    · have en : expN P (P.ex i) = valid_there.F P.tmin := by unfold expN; rw [if_pos (eq_of_beq h)]
      refine ⟨_, H1.c3, RunsQ.post (valid_there.pure _ w1) ?_⟩
      rintro v w2 ⟨rfl, rfl⟩
      have := L2 w2 H1 S1
      rw [en] at this ⊢
      exact ⟨_, rfl, this⟩
    have n1 : ¬ (P.ex i).kind = 1 := by simpa using h
    refine ⟨_, e1, cond_intro (fun h => ?_) (fun h => ?_)⟩
    · have en : expN P (P.ex i) = valid_there.F P.mmin := by unfold expN; rw [if_neg n1, if_pos (eq_of_beq h)]
      refine ⟨_, H1.c5, RunsQ.post (valid_there.pure _ w1) ?_⟩
      rintro v w2 ⟨rfl, rfl⟩
      have := L2 w2 H1 S1
      rw [en] at this ⊢
      exact ⟨_, rfl, this⟩
    have n2 : ¬ (P.ex i).kind = 2 := by simpa using h
    refine ⟨_, e1, cond_intro (fun h => ?_) (fun h => ?_)⟩
    · have en : expN P (P.ex i) = (P.gn : Int) := by unfold expN; rw [if_neg n1, if_neg n2, if_pos (eq_of_beq h)]
      obtain ⟨a7, c7, _⟩ := H1.gl
      have := L2 w1 H1 S1
      rw [en] at this ⊢
      exact ⟨_, _, _, c7, this⟩
    · have n3 : ¬ (P.ex i).kind = 3 := by simpa using h
      have en : expN P (P.ex i) = ((P.nIm + P.nf : Nat) : Int) := by unfold expN; rw [if_neg n1, if_neg n2, if_neg n3]
      have := L2 w1 H1 S1
      rw [en] at this ⊢
      exact this

theorem segments_spec (H : HM wd w L mb m P) (B : PB P) : Runs Tryz.prog valid_segments.id #[rp mb, .int .i64 ((P.nIm + P.nf : Nat) : Int)] w fun v w' => v = pairV (segV P) ∧ Same [] w.heap.size w w' := by
  have be := B.nEl; have bd := B.nD; have b1 := B.nIm; have b2 := B.nf
  refine valid_segments.enter _ _ _ _ _ ?_
  unfold valid_segments.V
  have D : ∀ (n i : Nat) (w1 : World), i + n = P.nD → HM wd w1 L mb m P → Same [] w.heap.size w w1 → valid_segments.L3 (some ⟨mb, 0, none⟩) (i : Int) (fun v w' => v = pairV (match daRow P n i with | some e => e | none => (0, 0)) ∧ Same [] w.heap.size w w') (fun _ _ => False) w1 := by
    intro n
    induction n with
    | zero =>
      intro i w1 hi H1 S1
      refine valid_segments.step3 _ _ _ _ _ ?_
      unfold valid_segments.V3
      obtain ⟨a, c8, _⟩ := H1.da
      simp only [nilV_some, Nat.zero_add]
      exact ⟨_, _, _, c8, cond_false' (decide_eq_false (by omega)) ⟨rfl, S1⟩⟩
    | succ n ih =>
      intro i w1 hi H1 S1
      refine valid_segments.step3 _ _ _ _ _ ?_
      unfold valid_segments.V3
      obtain ⟨a, c8, hr⟩ := H1.da
      obtain ⟨eb, rfl, row⟩ := hr (by omega)
      have e0 := row i (by omega) 0 _ rfl
      rw [Nat.add_zero] at e0
      rw [daRow_succ]
      simp only [nilV_some, Nat.zero_add]
      refine ⟨_, _, _, c8, cond_true' (decide_eq_true (by omega)) ⟨_, H1.c5, cond_intro (fun h => ?_) (fun h => ?_)⟩⟩
      · rw [if_pos (of_decide_eq_true h)]; exact ⟨rfl, S1⟩
      rw [if_neg (of_decide_eq_false h)]
      refine ⟨_, _, _, c8, ⟨by omega, by omega⟩, ?_⟩
      simp only [nilV_some, add_mk, Int.toNat_natCast, Nat.zero_add]
      refine ⟨_, e0, cond_intro (fun h => ?_) (fun h => ?_)⟩
      · rw [if_neg (show ¬ (P.da i).off.op = 65 by simpa using h)]; exact ⟨rfl, S1⟩
      rw [if_pos (show (P.da i).off.op = 65 by simpa using h)]
      have e : IntKind.wrap .i64 ((i : Int) + 1) = ((i + 1 : Nat) : Int) := by rw [wrap_i64 (by omega) (by omega)]; omega
      rw [e]
      exact ih (i + 1) w1 (by omega) H1 S1
  suffices h : ∀ (n i : Nat) (w1 : World), i + n = P.nEl → HM wd w1 L mb m P → Same [] w.heap.size w w1 → valid_segments.L1 (some ⟨mb, 0, none⟩) ((P.nIm + P.nf : Nat) : Int) (i : Int) (fun v w' => v = pairV (match elRow P n i with | some e => e | none => match daRow P P.nD 0 with | some e => e | none => (0, 0)) ∧ Same [] w.heap.size w w') (fun _ _ => False) w1 from h P.nEl 0 w (by omega) H (Same.refl _ _ _)
  intro n
  induction n with
  | zero =>
    intro i w1 hi H1 S1
    refine valid_segments.step1 _ _ _ _ _ _ ?_
    unfold valid_segments.V1
    obtain ⟨a, c8, _⟩ := H1.el
    simp only [nilV_some, Nat.zero_add]
    exact ⟨_, _, _, c8, cond_false' (decide_eq_false (by omega)) (D P.nD 0 w1 (by omega) H1 S1)⟩
  | succ n ih =>
    intro i w1 hi H1 S1
    refine valid_segments.step1 _ _ _ _ _ _ ?_
    unfold valid_segments.V1
    obtain ⟨a, c8, hr⟩ := H1.el
    obtain ⟨eb, rfl, fr, row, rel⟩ := hr (by omega)
    obtain ⟨r1, r2, r3⟩ := rel i (by omega)
    have e0 := row.c i (by omega) 0 _ rfl
    rw [Nat.add_zero, r1] at e0
    have hb := B.el i (by omega)
    rw [elRow_succ]
    simp only [nilV_some, Nat.zero_add]
    refine ⟨_, _, _, c8, cond_true' (decide_eq_true (by omega)) ⟨_, H1.c3, cond_intro (fun h => ?_) (fun h => ?_)⟩⟩
    · rw [if_pos (of_decide_eq_true h)]; exact ⟨rfl, S1⟩
    rw [if_neg (of_decide_eq_false h)]
    refine ⟨_, _, _, c8, ⟨by omega, by omega⟩, ?_⟩
    simp only [nilV_some, add_mk, Int.toNat_natCast, Nat.zero_add]
    refine ⟨_, e0, cond_intro (fun h => ?_) (fun h => ?_)⟩
    · rw [if_neg (show ¬ (P.el i).off.op = 65 by simpa using h)]; exact ⟨rfl, S1⟩
    rw [if_pos (show (P.el i).off.op = 65 by simpa using h)]
    obtain ⟨a3, ev3, hr3⟩ := r2.look
    have e3 := row.c i (by omega) 3 _ rfl
    rw [ev3] at e3
    have L2 : ∀ (q j : Nat), j + q = (P.el i).n → valid_segments.L2 (some ⟨mb, 0, none⟩) ((P.nIm + P.nf : Nat) : Int) (i : Int) (some ⟨eb, i * 4, none⟩) (j : Int) (fun v w' => v = pairV (match (if fnBad ((P.nIm + P.nf : Nat) : Int) (P.el i).fns q j = true then some ((i : Int), (15 : Int)) else elRow P n (i + 1)) with | some e => e | none => match daRow P P.nD 0 with | some e => e | none => (0, 0)) ∧ Same [] w.heap.size w w') (fun _ _ => False) w1 := by
      intro q
      induction q with
      | zero =>
        intro j hj
        refine valid_segments.step2 _ _ _ _ _ _ _ _ ?_
        unfold valid_segments.V2
        simp only [nilV_some]
        refine ⟨_, _, _, e3, cond_false' (decide_eq_false (by omega)) ?_⟩
        have e : IntKind.wrap .i64 ((i : Int) + 1) = ((i + 1 : Nat) : Int) := by rw [wrap_i64 (by omega) (by omega)]; omega
        rw [e]
        exact ih (i + 1) w1 (by omega) H1 S1
      | succ q ihq =>
        intro j hj
        refine valid_segments.step2 _ _ _ _ _ _ _ _ ?_
        unfold valid_segments.V2
        simp only [nilV_some]
        obtain ⟨gb, rfl, _, e4⟩ := hr3 (by omega)
        have e5 := e4 j (by omega) 0 _ rfl
        rw [Nat.mul_one, Nat.add_zero] at e5
        have hj2 := hb.2.2 j (by omega)
        refine ⟨_, _, _, e3, cond_true' (decide_eq_true (by omega)) ⟨_, _, _, e3, ⟨by omega, by omega⟩, ?_⟩⟩
        simp only [nilV_some, add_mk, Int.toNat_natCast, Nat.zero_add, Nat.mul_one]
        refine ⟨_, e5, ?_⟩
        rw [wrap_u64 (by omega) (by omega), wrap_u64 (by omega) (by omega), fnBad_succ]
        refine cond_intro (fun h => ?_) (fun h => ?_)
        · rw [if_pos (of_decide_eq_true h), if_pos rfl]; exact ⟨rfl, S1⟩
        rw [if_neg (of_decide_eq_false h)]
        have e : IntKind.wrap .i64 ((j : Int) + 1) = ((j + 1 : Nat) : Int) := by rw [wrap_i64 (by omega) (by omega)]; omega
        rw [e]
        exact ihq (j + 1) (by omega)
    exact L2 (P.el i).n 0 (by omega)

theorem parts_spec (H : HM wd w L mb m P) (B : PB P) : Runs Tryz.prog valid_parts.id #[rp mb] w fun v w' => v = pairV (partsV P) ∧ Same [] w.heap.size w w' := by
  have b1 := B.nIm; have b2 := B.nf; have bg := B.gn; have bs := B.s0
  refine valid_parts.enter _ _ _ _ ?_
  unfold valid_parts.V
  simp only [true_and, nilV_some, Nat.zero_add]
  obtain ⟨_, c1, _⟩ := H.drew.im
  obtain ⟨_, c2, _⟩ := H.drew.fn
  refine ⟨_, _, _, c1, _, _, _, c2, ?_⟩
  have e0 : IntKind.wrap .i64 (((P.nIm : Nat) : Int) + ((P.nf : Nat) : Int)) = ((P.nIm + P.nf : Nat) : Int) := by rw [wrap_i64 (by omega) (by omega)]; omega
  rw [e0]
  have L3 : ∀ w1, HM wd w1 L mb m P → Same [] w.heap.size w w1 → valid_parts.L3 (some ⟨mb, 0, none⟩) ((P.nIm + P.nf : Nat) : Int) (fun v w' => v = pairV (segV P) ∧ Same [] w.heap.size w w') (fun _ _ => False) w1 := fun w1 H1 S1 => by
    refine valid_parts.step3 _ _ _ _ _ ?_
    unfold valid_parts.V3
    refine RunsQ.post (segments_spec H1 B) ?_
    rintro v w2 ⟨rfl, S2⟩
    exact ⟨_, _, rfl, rfl, S1.trans (S2.mono S1.size (by simp))⟩
  have L2 : ∀ (n i : Nat) (w1 : World), i + n = P.gn → HM wd w1 L mb m P → Same [] w.heap.size w w1 → valid_parts.L2 (some ⟨mb, 0, none⟩) ((P.nIm + P.nf : Nat) : Int) (i : Int) (fun v w' => v = pairV (match gloRow P n i with
    | some e => e
    | none => match expRow P P.nEx 0 with
      | some e => e
      | none => match stE P with
        | some e => e
        | none => segV P) ∧ Same [] w.heap.size w w') (fun _ _ => False) w1 := by
    intro n
    induction n with
    | zero =>
      intro i w1 hi H1 S1
      refine valid_parts.step2 _ _ _ _ _ _ ?_
      unfold valid_parts.V2
      obtain ⟨a, c7, _⟩ := H1.gl
      simp only [nilV_some, Nat.zero_add]
      refine ⟨_, _, _, c7, cond_false' (decide_eq_false (by omega)) (RunsQ.post (exports_spec' H1 B) ?_)⟩
      rintro v w2 ⟨rfl, S2⟩
      have T2 := S1.trans (S2.mono S1.size (by simp))
      have H2 := H1.keep S2
      show ∃ x29 x30 : Int, _ ∧ _
      have hg : gloRow P 0 i = none := rfl
      rw [hg]
      have he : ∀ e, expRow P P.nEx 0 = some e → e.2 ≠ 0 := by
        suffices h : ∀ n i e, expRow P n i = some e → e.2 ≠ 0 from h _ _
        intro n
        induction n with
        | zero => intro i e h; cases h
        | succ n ih =>
          intro i e h
          rw [expRow_succ] at h
          split at h
          · cases h; simp
          · split at h
            · cases h; simp
            · exact ih _ _ h
      unfold expV
      cases hx : expRow P P.nEx 0 with
      | some e =>
        refine ⟨_, _, rfl, cond_true' ?_ ⟨rfl, T2⟩⟩
        simpa using he e hx
      | none =>
        refine ⟨_, _, rfl, cond_false' rfl ⟨_, H2.c9, cond_intro (fun h => ?_) (fun h => ?_)⟩⟩
        · have h : ¬ P.start = -1 := by simpa using h
          have eS : stE P = match typeOf P P.start with | none => some (0, 15) | some t => if baEq t ⟨#[58]⟩ = true then none else some (0, 19) := by unfold stE; rw [if_neg h]
          refine ⟨_, H2.c9, RunsQ.post (TypeOf_spec H2 B P.start (by omega) (by omega)) ?_⟩
          rintro v w3 ⟨rfl, S3⟩
          have T3 := T2.trans (S3.mono T2.size (by simp))
          have H3 := H2.keep S3
          rw [eS]
          cases ht : typeOf P P.start with
          | none => exact ⟨_, _, rfl, cond_true' rfl ⟨rfl, T3⟩⟩
          | some t =>
            refine ⟨_, _, rfl, cond_false' rfl ?_⟩
            show cond (!(baEq t ⟨#[58]⟩)) _ _
            cases hb : baEq t ⟨#[58]⟩
            · refine cond_true' rfl ⟨?_, T3⟩
              simp only [hb]
              rfl
            · refine cond_false' rfl ?_
              simp only [hb]
              exact L3 w3 H3 T3
        · have h : P.start = -1 := by simpa using h
          have eS : stE P = none := by unfold stE; rw [if_pos h]
          rw [eS]
          exact L3 w2 H2 T2
    | succ n ih =>
      intro i w1 hi H1 S1
      refine valid_parts.step2 _ _ _ _ _ _ ?_
      unfold valid_parts.V2
      obtain ⟨a, c7, hr⟩ := H1.gl
      obtain ⟨gb, rfl, row⟩ := hr (by omega)
      have e0 := row i (by omega) 0 _ rfl
      have e2 := row i (by omega) 2 _ rfl
      rw [Nat.add_zero] at e0
      simp only [nilV_some, Nat.zero_add]
      refine ⟨_, _, _, c7, cond_true' (decide_eq_true (by omega)) ⟨fun w' => w' = w1.drew, rfl, _, _, _, fun w8 h8 => by rw [h8]; exact c7, ⟨by omega, by omega⟩, ?_⟩⟩
      simp only [nilV_some, add_mk, Int.toNat_natCast, Nat.zero_add]
      refine ⟨_, fun w8 h8 => by rw [h8]; exact e2, valid_constOf.F (P.g i).init.op, fun w8 h8 => Runs.mono (valid_constOf.pure (P.g i).init.op w8) (fun v w9 h => ⟨h.1, by rw [h.2, h8]⟩), _, _, _, fun w8 h8 => by rw [h8]; exact c7, ⟨by omega, by omega⟩, ?_⟩
      simp only [nilV_some, add_mk, Int.toNat_natCast, Nat.zero_add]
      refine ⟨_, fun w8 h8 => by rw [h8]; exact e0, fun w8 h8 => ?_⟩
      rw [h8, gloRow_succ]
      refine cond_intro (fun h => ?_) (fun h => ?_)
      · rw [if_neg (show ¬ valid_constOf.F (P.g i).init.op = (P.g i).ty by simpa using h)]; exact ⟨rfl, S1.drew⟩
      rw [if_pos (show valid_constOf.F (P.g i).init.op = (P.g i).ty by simpa using h)]
      have e : IntKind.wrap .i64 ((i : Int) + 1) = ((i + 1 : Nat) : Int) := by rw [wrap_i64 (by omega) (by omega)]; omega
      rw [e]
      exact ih (i + 1) _ (by omega) H1.drew S1.drew
  suffices h : ∀ (n i : Nat) (w1 : World), i + n = P.nIm + P.nf → HM wd w1 L mb m P → Same [] w.heap.size w w1 → valid_parts.L1 (some ⟨mb, 0, none⟩) ((P.nIm + P.nf : Nat) : Int) (i : Int) (fun v w' => v = pairV (match tyRow P n i with
    | some e => e
    | none => if valid_limits.F P.tmin P.tmax 8 = true then (if valid_limits.F P.mmin P.mmax 6 = true then (match gloRow P P.gn 0 with
      | some e => e
      | none => match expRow P P.nEx 0 with
        | some e => e
        | none => match stE P with
          | some e => e
          | none => segV P) else (1, 16)) else (0, 16)) ∧ Same [] w.heap.size w w') (fun _ _ => False) w1 from h (P.nIm + P.nf) 0 w.drew (by omega) H.drew (Same.refl _ _ _).drew
  intro n
  induction n with
  | zero =>
    intro i w1 hi H1 S1
    refine valid_parts.step1 _ _ _ _ _ _ ?_
    unfold valid_parts.V1
    refine cond_false' (decide_eq_false (by omega)) ?_
    simp only [true_and, nilV_some, Nat.zero_add]
    refine ⟨_, H1.drew.c3, _, H1.drew.c4, RunsQ.post (valid_limits.pure _ _ _ w1.drew) ?_⟩
    rintro v w2 ⟨rfl, rfl⟩
    refine ⟨_, rfl, ?_⟩
    have et : tyRow P 0 i = none := rfl
    rw [et]
    cases h1 : valid_limits.F P.tmin P.tmax 8
    · exact cond_true' rfl ⟨rfl, S1.drew⟩
    refine cond_false' rfl ⟨_, H1.drew.drew.c5, _, H1.drew.drew.c6, RunsQ.post (valid_limits.pure _ _ _ w1.drew.drew) ?_⟩
    rintro v w3 ⟨rfl, rfl⟩
    refine ⟨_, rfl, ?_⟩
    cases h2 : valid_limits.F P.mmin P.mmax 6
    · exact cond_true' rfl ⟨rfl, S1.drew.drew⟩
    exact cond_false' rfl (L2 P.gn 0 _ (by omega) H1.drew.drew S1.drew.drew)
  | succ n ih =>
    intro i w1 hi H1 S1
    refine valid_parts.step1 _ _ _ _ _ _ ?_
    unfold valid_parts.V1
    refine cond_true' (decide_eq_true (by omega)) (RunsQ.post (TypeOf_spec H1 B i (by omega) (by omega)) ?_)
    rintro v w2 ⟨rfl, S2⟩
    have T2 := S1.trans (S2.mono S1.size (by simp))
    have H2 := H1.keep S2
    rw [tyRow_succ]
    cases ht : typeOf P (i : Int) with
    | none => exact ⟨_, _, rfl, cond_true' rfl ⟨rfl, T2⟩⟩
    | some t =>
      refine ⟨_, _, rfl, cond_false' rfl ?_⟩
      have e : IntKind.wrap .i64 ((i : Int) + 1) = ((i + 1 : Nat) : Int) := by rw [wrap_i64 (by omega) (by omega)]; omega
      rw [e]
      exact ih (i + 1) w2 (by omega) H2 T2
end
end Go.Proofs.Qxb6500317aGreat
