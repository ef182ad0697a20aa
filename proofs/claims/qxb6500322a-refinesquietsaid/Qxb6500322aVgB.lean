/-
  The validator: Validate leaves stacks that Check takes; Check.
-/
import Derived.Test.Qxb6500322aVgA
set_option linter.unusedSimpArgs false
set_option linter.unusedVariables false
set_option maxRecDepth 100000
set_option linter.unusedSectionVars false
namespace Go.Proofs.Qxb6500322a
open Go Go.Vc

def VGAt (w : World) (vb : Nat) : Prop := ∃ o k, VAt w vb o k ∧ VG o k
theorem VGAt.lt {w : World} {vb : Nat} (h : VGAt w vb) : vb < w.heap.size := by obtain ⟨o, k, v, _⟩ := h; exact v.lt
theorem VGAt.same {w w' : World} {vb : Nat} (h : VGAt w vb) {S : List Nat} {B : Nat} (hs : Same S B w w') (hb : vb < B) (hS : vb ∉ S) : VGAt w' vb := by
  obtain ⟨o, k, v, g⟩ := h
  exact ⟨o, k, v.same hs hb hS, g⟩
theorem VGAt.keep {w w' : World} {vb : Nat} (h : VGAt w vb) (hs : Same [] w.heap.size w w') : VGAt w' vb := h.same hs h.lt (by simp)
theorem VGAt.drew {w : World} {vb : Nat} (h : VGAt w vb) : VGAt w.drew vb := by
  obtain ⟨o, k, v, g⟩ := h
  exact ⟨o, k, v.drew, g⟩
def VOkG (w : World) (vb : Nat) (z : Int × Int × Int) : Value → World → Prop := fun v w' => v = .tuple #[.int .i64 z.1, .int .i64 z.2.1, .int .i64 z.2.2] ∧ VGAt w' vb ∧ Same [vb] w.heap.size w w'
section
variable {wd w w' w0 : World} {L mb vb : Nat} {m : Nat → Value} {P : PM} {o : List Int} {k : List Fr} {i fb : Nat}
theorem Validate_vg (H : HM wd w L mb m P) (W : WFP P) (V : VGAt w vb) (lv : vb ≤ L) : Runs Try.prog valid_Valid_Validate.id #[rp vb, rp mb] w (VOkG w vb (validV P)) := by
  have B := W.pb
  refine valid_Valid_Validate.enter _ _ _ _ _ ?_
  unfold valid_Valid_Validate.V
  refine cond_false' rfl (RunsQ.post (parts_spec H B) ?_)
  rintro v w4 ⟨rfl, S4⟩
  have H4 := H.keep S4
  have S4' : Same [vb] w.heap.size w w4 := S4.mono (Nat.le_refl _) (by simp)
  have V4 : VGAt w4 vb := V.keep S4
  unfold validV
  refine ⟨_, _, rfl, cond_intro (fun h => ?_) (fun h => ?_)⟩
  · rw [if_neg (show ¬ (partsV P).2 = 0 by simpa using h)]
    exact ⟨rfl, V4, S4'⟩
  have h0 : (partsV P).2 = 0 := by simpa using h
  rw [if_pos h0]
  have bf := B.nf
  suffices h : ∀ (n j : Nat) (w1 : World), j + n = P.nf → HM wd w1 L mb m P → VGAt w1 vb → Same [vb] w.heap.size w w1 → valid_Valid_Validate.L1 (some ⟨vb, 0, none⟩) (some ⟨mb, 0, none⟩) (j : Int) (VOkG w vb (fnsV P n j)) (fun _ _ => False) w1 from h P.nf 0 w4 (by omega) H4 V4 S4'
  intro n
  induction n with
  | zero =>
    intro j w1 hj H1 V1 S1
    refine valid_Valid_Validate.step1 _ _ _ _ _ _ ?_
    unfold valid_Valid_Validate.V1
    obtain ⟨a, c2, _⟩ := H1.fn
    simp only [nilV_some, Nat.zero_add]
    exact ⟨_, _, _, c2, cond_false' (decide_eq_false (by omega)) ⟨_, _, _, c2, rfl, V1, S1⟩⟩
  | succ n ih =>
    intro j w1 hj H1 V1 S1
    refine valid_Valid_Validate.step1 _ _ _ _ _ _ ?_
    unfold valid_Valid_Validate.V1
    obtain ⟨fb, row, c2⟩ := H1.row (by omega)
    obtain ⟨o, k, V1, G1⟩ := V1
    rw [fnsV_succ]
    simp only [nilV_some, Nat.zero_add]
    refine ⟨_, _, _, c2 w1 H1, cond_true' (decide_eq_true (by omega)) ⟨_, _, _, c2 w1 H1, ⟨by omega, by omega⟩, ?_⟩⟩
    rw [nilV_some, add_mk, Int.toNat_natCast, Nat.zero_add]
    refine RunsQ.post (vbody_spec H1 B V1 lv (i := j) (by omega) (fn_typed h0 (by omega)) row) ?_
    rintro v w2 ⟨rfl, V2, _, S2⟩
    have G2 := body_vg W (i := j) (by omega) (fn_typed h0 (by omega))
    have T2 := S1.trans (S2.mono S1.size (by simp))
    refine ⟨_, _, rfl, cond_intro (fun h => ?_) (fun h => ?_)⟩
    · rw [if_neg (show ¬ (bodyV P (P.fn j)).2.1 = 0 by simpa using h)]
      exact ⟨rfl, ⟨_, _, V2, G2⟩, T2⟩
    rw [if_pos (show (bodyV P (P.fn j)).2.1 = 0 by simpa using h)]
    have e : IntKind.wrap .i64 ((j : Int) + 1) = ((j + 1 : Nat) : Int) := by rw [wrap_i64 (by omega) (by omega)]; omega
    rw [e]
    exact ih (j + 1) w2 (by omega) (H1.at1 S2 lv) ⟨_, _, V2, G2⟩ T2
theorem Validate_nilG (V : VGAt w vb) : Runs Try.prog valid_Valid_Validate.id #[rp vb, .pointer none] w (VOkG w vb (-1, 0, 32)) := by
  refine valid_Valid_Validate.enter _ _ _ _ _ ?_
  unfold valid_Valid_Validate.V
  exact cond_true' rfl ⟨rfl, V, Same.refl _ _ _⟩

theorem isVal_yes {x : Int} (h : VT x) : api_IsVal.F x = true := by
  have : x = 124 ∨ x = 125 ∨ x = 126 ∨ x = 127 := by omega
  rcases this with rfl | rfl | rfl | rfl <;> rfl

theorem CheckMid_spec (V : VAt w vb o k) (G : VG o k) : Runs Try.prog valid_Valid_CheckMid.id #[rp vb, .int .i64 ((o.length : Nat) : Int), .int .i64 ((k.length : Nat) : Int)] w fun v w' => v = .bool true ∧ Same [] w.heap.size w w' := by
  have ol := V.ol; have kl := V.kl
  refine valid_Valid_CheckMid.enter _ _ _ _ _ _ ?_
  unfold valid_Valid_CheckMid.V
  refine cond_false' (decide_eq_false (by omega)) (cond_false' (decide_eq_false (by omega)) (cond_false' (decide_eq_false (by omega)) (cond_false' (decide_eq_false (by omega)) ?_)))
  refine valid_Valid_CheckMid.step1 _ _ _ _ _ _ ?_
  unfold valid_Valid_CheckMid.V1
  have L4 : ∀ (n i : Nat), i + n = o.length → valid_Valid_CheckMid.L4 (some ⟨vb, 0, none⟩) ((o.length : Nat) : Int) (i : Int) (fun v w' => v = .bool true ∧ Same [] w.heap.size w w') (fun _ _ => False) w := by
    intro n
    induction n with
    | zero =>
      intro i hi
      refine valid_Valid_CheckMid.step4 _ _ _ _ _ _ ?_
      unfold valid_Valid_CheckMid.V4
      exact cond_false' (decide_eq_false (by omega)) ⟨rfl, Same.refl _ _ _⟩
    | succ n ih =>
      intro i hi
      refine valid_Valid_CheckMid.step4 _ _ _ _ _ _ ?_
      unfold valid_Valid_CheckMid.V4
      have hl : i < o.reverse.length := by rw [List.length_reverse]; omega
      have e0 := V.op i _ (List.getElem?_eq_getElem hl)
      have hu : UT (o.reverse[i]) := G.ov _ (List.mem_reverse.1 (List.getElem_mem hl))
      generalize o.reverse[i] = x at e0 hu
      have L6 : valid_Valid_CheckMid.L6 (some ⟨vb, 0, none⟩) ((o.length : Nat) : Int) (i : Int) (fun v w' => v = .bool true ∧ Same [] w.heap.size w w') (fun _ _ => False) w := by
        refine valid_Valid_CheckMid.step6 _ _ _ _ _ _ ?_
        unfold valid_Valid_CheckMid.V6
        have e : IntKind.wrap .i64 ((i : Int) + 1) = ((i + 1 : Nat) : Int) := by rw [wrap_i64 (by omega) (by omega)]; omega
        rw [e]
        exact ih (i + 1) (by omega)
      simp only [nilV_some, add_mk, Int.toNat_natCast, Nat.mul_one, Nat.zero_add]
      refine cond_true' (decide_eq_true (by omega)) ⟨⟨by omega, by omega⟩, _, e0, cond_intro (fun h => ⟨⟨by omega, by omega⟩, _, e0, ?_⟩) (fun _ => L6)⟩
      have h : x ≠ 0 := by simpa using h
      refine RunsQ.post (api_IsVal.pure x w) ?_
      rintro v w2 ⟨rfl, rfl⟩
      refine ⟨_, rfl, cond_false' ?_ L6⟩
      rw [isVal_yes (hu.resolve_left h)]; rfl
  suffices h : ∀ (n j : Nat) (below : Int), j + n = k.length → (∀ g, k.reverse[j]? = some g → below ≤ (g.fl : Int)) → valid_Valid_CheckMid.L2 (some ⟨vb, 0, none⟩) ((o.length : Nat) : Int) ((k.length : Nat) : Int) below (j : Int) (fun v w' => v = .bool true ∧ Same [] w.heap.size w w') (fun _ _ => False) w from h k.length 0 0 (by omega) (fun g _ => by omega)
  intro n
  induction n with
  | zero =>
    intro j below hj hb
    refine valid_Valid_CheckMid.step2 _ _ _ _ _ _ _ _ ?_
    unfold valid_Valid_CheckMid.V2
    exact cond_false' (decide_eq_false (by omega)) (L4 o.length 0 (by omega))
  | succ n ih =>
    intro j below hj hb
    have hl : j < k.reverse.length := by rw [List.length_reverse]; omega
    have eg : k.reverse[j]? = some k.reverse[j] := List.getElem?_eq_getElem hl
    have hop := G.op _ (List.mem_reverse.1 (List.getElem_mem hl))
    generalize k.reverse[j] = g at eg hop
    obtain ⟨f1, f2⟩ := floors_at k _ G.fl j g eg
    have c0 := V.f0 j g eg
    have c2 := V.f2 j g eg
    have hbg := hb g eg
    refine valid_Valid_CheckMid.step2 _ _ _ _ _ _ _ _ ?_
    unfold valid_Valid_CheckMid.V2
    simp only [nilV_some, add_mk, Int.toNat_natCast, Nat.zero_add]
    refine cond_true' (decide_eq_true (by omega)) ⟨⟨by omega, by omega⟩, _, c2, cond_false' (decide_eq_false (by omega)) ⟨⟨by omega, by omega⟩, _, c2, cond_false' (decide_eq_false (by omega)) ?_⟩⟩
    have L5 : valid_Valid_CheckMid.L5 (some ⟨vb, 0, none⟩) ((o.length : Nat) : Int) ((k.length : Nat) : Int) (j : Int) (fun v w' => v = .bool true ∧ Same [] w.heap.size w w') (fun _ _ => False) w := by
      refine valid_Valid_CheckMid.step5 _ _ _ _ _ _ _ ?_
      unfold valid_Valid_CheckMid.V5
      simp only [nilV_some, add_mk, Int.toNat_natCast, Nat.zero_add]
      refine ⟨⟨by omega, by omega⟩, _, c0, cond_false' (decide_eq_false (by omega)) ⟨⟨by omega, by omega⟩, _, c0, cond_false' (decide_eq_false (by omega)) ?_⟩⟩
      refine valid_Valid_CheckMid.step7 _ _ _ _ _ _ _ ?_
      unfold valid_Valid_CheckMid.V7
      simp only [nilV_some, add_mk, Int.toNat_natCast, Nat.zero_add]
      refine ⟨⟨by omega, by omega⟩, _, c2, ?_⟩
      have e : IntKind.wrap .i64 ((j : Int) + 1) = ((j + 1 : Nat) : Int) := by rw [wrap_i64 (by omega) (by omega)]; omega
      rw [e]
      exact ih (j + 1) _ (by omega) (fun g' h' => by have := f2 g' h'; omega)
    refine valid_Valid_CheckMid.step3 _ _ _ _ _ _ _ ?_
    unfold valid_Valid_CheckMid.V3
    simp only [nilV_some, add_mk, Int.toNat_natCast, Nat.zero_add]
    refine cond_intro (fun h => ?_) (fun _ => L5)
    have h : j = 0 := by have := eq_of_beq h; omega
    subst h
    obtain ⟨b1, b2⟩ := bot_at k G.bt g eg
    exact ⟨⟨by omega, by omega⟩, _, c2, cond_false' (by rw [b2]; rfl) ⟨⟨by omega, by omega⟩, _, c0, cond_false' (by rw [b1]; rfl) L5⟩⟩

theorem Check_spec (V : VGAt w vb) : Runs Try.prog valid_Valid_Check.id #[rp vb] w fun v w' => v = .bool true ∧ Same [] w.heap.size w w' := by
  obtain ⟨o, k, V, G⟩ := V
  obtain ⟨x, h1, h2, h3⟩ := V.drew.hi
  refine valid_Valid_Check.enter _ _ _ _ ?_
  unfold valid_Valid_Check.V
  simp only [true_and, nilV_some, Nat.zero_add]
  refine ⟨_, h1, _, V.drew.h, cond_false' (decide_eq_false (by omega)) ⟨_, h1, cond_false' (decide_eq_false (by omega)) ?_⟩⟩
  refine valid_Valid_Check.step1 _ _ _ _ ?_
  unfold valid_Valid_Check.V1
  simp only [true_and, nilV_some, Nat.zero_add]
  have V2 := V.drew.drew
  refine ⟨_, V2.h, _, V2.d, RunsQ.post (CheckMid_spec V2 G) ?_⟩
  rintro v w2 ⟨rfl, S2⟩
  exact ⟨_, rfl, rfl, (Same.refl _ _ _).drew.drew.trans S2⟩
end
end Go.Proofs.Qxb6500322a
