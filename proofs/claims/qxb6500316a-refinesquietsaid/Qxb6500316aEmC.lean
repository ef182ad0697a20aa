/-
  The model writes an instruction.
-/
import Derived.Test.Qxb6500316aEmB
import Derived.Test.Qxb6500316aShG
import Derived.Test.Qxb6500316aEnD
set_option linter.unusedSimpArgs false
set_option linter.unusedVariables false
set_option maxRecDepth 100000
set_option linter.unusedSectionVars false
namespace Go.Proofs.Qxb6500316a
open Go Go.Vc

theorem Lk.keep {α : Type} {enc : α → List Value} {sz : Nat} {w w' : World} {v : Value} {n : Nat} {f : Nat → α} (h : Lk enc sz w v n f) (S : Same [] w.heap.size w w') : Lk enc sz w' v n f := by
  obtain ⟨a, c, h1, h2⟩ := h
  refine ⟨a, c, h1, fun h0 => ?_⟩
  obtain ⟨b, g1, g2, g3, g4⟩ := h2 h0
  have := S.size
  exact ⟨b, g1, by omega, fun j hj k u hu => (S.cell (p := ⟨b, j * sz + k, none⟩) g2 (by simp)).trans (g3 j hj k u hu), fun j => by rw [S.frozen g2 (by simp)]; exact g4 j⟩

theorem tab_mloop {R Q : Value → World → Prop} {w0 : World} {z : List Int} {xb : Nat} {i : Ins} (hi : InsIn i) {ta : Option Addr} {n tc : Nat} (hn : n ≤ 24) {tabs : Nat → Int} (htb : ∀ j, j < n → 0 ≤ tabs j ∧ tabs j ≤ 4294967295) (hR : ∀ w', Same [] w0.heap.size w0 w' → R (.string (strOfNums z)) w') :
    ∀ (k q : Nat) (l : List Int) (w : World), q + k = n + 1 → l.length + 10 * k ≤ 10000 → l ++ tabF n tabs i.x i.y k (i.x + (q : Int)) = z → InsAt w xb i → Lk u32E 1 w (.slice ta n tc) n tabs → Same [] w0.heap.size w0 w → binm_insText.L3 ta n tc xb (strOfNums l) (q : Int) R Q w := by
  haveI := outNil
  have x0 := hi.x0; have x1 := hi.x1
  intro k
  induction k with
  | zero =>
    intro q l w hq hl hz hX hT S
    refine binm_insText.step3 _ _ _ _ _ _ _ _ _ ?_
    unfold binm_insText.V3
    have hz : l ++ [] = z := hz
    rw [List.append_nil] at hz
    have L6 : binm_insText.L6 (strOfNums l) R Q w := by
      refine binm_insText.step6 _ _ _ _ ?_
      unfold binm_insText.V6
      rw [hz]; exact hR w S
    rw [wrap_u64 (x := ((n : Nat) : Int)) (by omega) (by omega)]
    refine ⟨_, hX.c2, cond_intro (fun _ => ⟨_, hX.c1, ?_⟩) (fun _ => L6)⟩
    rw [wrap_u64 (x := i.x) (by omega) (by omega), wrap_u64 (x := i.x + (q : Int)) (by omega) (by omega)]
    exact cond_false' (decide_eq_false (by omega)) L6
  | succ k ih =>
    intro q l w hq hl hz hX hT S
    refine binm_insText.step3 _ _ _ _ _ _ _ _ _ ?_
    unfold binm_insText.V3
    rw [tabF_succ] at hz
    have e0 : i.x + (q : Int) - i.x = (q : Int) := by omega
    rw [e0, wrap_u64 (x := (q : Int)) (by omega) (by omega)] at hz
    rw [wrap_u64 (x := ((n : Nat) : Int)) (by omega) (by omega)]
    have stop : ¬ ((q : Int) < i.y ∧ i.x + (q : Int) < n) → binm_insText.L6 (strOfNums l) R Q w := by
      intro hc
      rw [if_neg hc, List.append_nil] at hz
      refine binm_insText.step6 _ _ _ _ ?_
      unfold binm_insText.V6
      rw [hz]; exact hR w S
    by_cases c1 : (q : Int) < i.y
    · refine ⟨_, hX.c2, cond_true' (decide_eq_true c1) ⟨_, hX.c1, ?_⟩⟩
      rw [wrap_u64 (x := i.x) (by omega) (by omega), wrap_u64 (x := i.x + (q : Int)) (by omega) (by omega)]
      by_cases c2 : i.x + (q : Int) < n
      · refine cond_true' (decide_eq_true c2) ?_
        rw [if_pos ⟨c1, c2⟩] at hz
        refine binm_insText.step5 _ _ _ _ _ _ _ _ _ ?_
        unfold binm_insText.V5
        obtain ⟨a, c, hv, hrow⟩ := hT
        injection hv with hv1 hv2 hv3
        subst hv1 hv3
        obtain ⟨b, rfl, hlt, hcell, hfz⟩ := hrow (by omega)
        refine ⟨_, hX.c1, ?_⟩
        rw [wrap_u64 (x := i.x) (by omega) (by omega), wrap_u64 (x := i.x + (q : Int)) (by omega) (by omega)]
        obtain ⟨jn, hjn⟩ := Int.eq_ofNat_of_zero_le (show 0 ≤ i.x + (q : Int) by omega)
        have hj := htb jn (by omega)
        have hcl := hcell jn (by omega) 0 (.int .u32 (tabs jn)) rfl
        rw [hjn] at hz ⊢
        simp only [Int.toNat_natCast] at hz ⊢
        refine ⟨by omega, ?_⟩
        simp only [nilV_some, add_mk, Nat.zero_add]
        refine ⟨_, by simpa using hcl, ?_⟩
        rw [wrap_u64 hj.1 (by omega), wrap_u64 (x := (q : Int) + 1) (by omega) (by omega)]
        have u1 := uleb_len (tabs jn)
        refine (ulebm w (tabs jn) hj.1 (by omega)).into fun w5 S5 => ⟨_, rfl, cat_size _ _ (by omega), ?_⟩
        rw [nums_app, show (q : Int) + 1 = ((q + 1 : Nat) : Int) by omega]
        refine ih (q + 1) _ w5 (by omega) (by rw [List.length_append]; omega) ?_ (hX.same S5 hX.lt (by simp)) (Lk.keep ⟨_, _, rfl, fun _ => ⟨b, rfl, hlt, hcell, hfz⟩⟩ S5) (Same.nx S S5)
        rw [List.append_assoc, show i.x + ((q + 1 : Nat) : Int) = (jn : Int) + 1 by omega]
        exact hz
      · exact cond_false' (decide_eq_false c2) (stop (fun h => c2 h.2))
    · exact ⟨_, hX.c2, cond_false' (decide_eq_false c1) (stop (fun h => c1 h.1))⟩

theorem zero_str : (⟨#[0]⟩ : ByteArray) = strOfNums [0] := rfl
/-- The model's instruction. -/
theorem insm (w : World) (i : Ins) (hi : InsIn i) (hy : i.op = 65 → i.y ≤ 4294967295) {ta : Option Addr} {n tc : Nat} (hn : n ≤ 24) {tabs : Nat → Int} (htb : ∀ j, j < n → 0 ≤ tabs j ∧ tabs j ≤ 4294967295) (hT : Lk u32E 1 w (.slice ta n tc) n tabs) :
    Txts binm_insText.id #[insV i, .slice ta n tc] w (insE i n tabs) := by
  haveI := outNil
  have x0 := hi.x0; have x1 := hi.x1; have y0 := hi.y0; have y1 := hi.y1; have o0 := hi.o0; have o1 := hi.o1
  refine binm_insText.enter _ _ _ _ _ _ _ _ _ ?_
  unfold binm_insText.V
  have hR : ∀ l w', Same [] w.heap.size w w' → l = insT i n tabs → (fun v w' => v = .string (strOfNums (insE i n tabs)) ∧ Same [] w.heap.size w w' : Value → World → Prop) (.string (strOfNums ([i.op] ++ l))) w' := fun l w' S hl => ⟨by rw [hl]; rfl, S⟩
  generalize (fun v w' => v = .string (strOfNums (insE i n tabs)) ∧ Same [] w.heap.size w w' : Value → World → Prop) = R at hR ⊢
  refine letB_intro fun xb hxb => letW_intro fun w8 hw8 => ?_
  have hX : InsAt w8 xb i := ⟨by rw [hw8, hxb, World.cell?_alloc_new]; rfl, by rw [hw8, hxb, World.cell?_alloc_new]; rfl, by rw [hw8, hxb, World.cell?_alloc_new]; rfl, fun j => by rw [hw8, hxb, World.frozen?_alloc_new]⟩
  have S8 : Same [] w.heap.size w w8 := by rw [hw8]; exact (Same.refl _ _ _).alloc (Nat.le_refl _) _
  refine ⟨_, hX.c0, _, hX.c0, letB_intro fun b hb => letW_intro fun w12 hw => ?_⟩
  obtain ⟨hc, S12⟩ := run_one _ w8 hb hw
  rw [wrap_i64 (x := i.op) (by omega) (by omega)]
  refine ⟨_, w12, hc, RunsQ.post (api_MemSig.pure _ _) ?_⟩
  rintro v w13 ⟨rfl, rfl⟩
  have hX2 := hX.same S12 hX.lt (by simp)
  refine ⟨_, _, _, rfl, _, hX2.c1, ?_⟩
  rw [wrap_u64 (x := i.x) x0 (by omega)]
  refine (ulebm w13 i.x x0 (by omega)).into fun w22 S22 => ⟨_, rfl, ?_⟩
  have hX3 := hX2.same S22 hX2.lt (by simp)
  have S3 : Same [] w.heap.size w w22 := Same.nx (Same.nx S8 S12) S22
  have hT3 : Lk u32E 1 w22 (.slice ta n tc) n tabs := hT.keep S3
  clear hX hX2 hT
  have ux := uleb_len i.x
  have uy := uleb_len i.y
  have L4 : ¬ (i.op = 2 ∨ i.op = 3 ∨ i.op = 4) → ¬ (i.op = 12 ∨ i.op = 13 ∨ i.op = 16 ∨ i.op = 32 ∨ i.op = 33 ∨ i.op = 34 ∨ i.op = 35 ∨ i.op = 36) → ¬ i.op = 14 → ¬ i.op = 17 → ¬ (40 ≤ i.op ∧ i.op ≤ 62) →
      ∀ t, t = decide (i.op = 63 ∨ i.op = 64) → binm_insText.L4 xb i.op (strOfNums [i.op]) t R (fun _ _ => False) w22 := fun n1 n2 n3 n4 n5 t ht => by
    refine binm_insText.step4 _ _ _ _ _ _ _ ?_
    unfold binm_insText.V4
    have e : insT i n tabs = if i.op = 63 ∨ i.op = 64 then [0] else if i.op = 65 then sleb (IntKind.wrap .i64 (IntKind.wrap .i32 (IntKind.wrap .u32 i.y))) else if i.op = 66 then sleb (IntKind.wrap .i64 i.y) else if i.op = 67 then littleF 4 i.y else if i.op = 68 then littleF 8 i.y else [] := by
      unfold insT
      rw [if_neg n1, if_neg n2, if_neg n3, if_neg n4, if_neg n5]
    by_cases c1 : i.op = 63 ∨ i.op = 64
    · refine cond_true' (by rw [ht]; exact decide_eq_true c1) ?_
      rw [zero_str, nums_app]
      exact ⟨cat_size _ _ (by simp), hR _ _ S3 (by rw [e, if_pos c1])⟩
    · rw [if_neg c1] at e
      refine cond_false' (by rw [ht]; exact decide_eq_false c1) ?_
      by_cases c2 : i.op = 65
      · rw [if_pos c2, wrap_i32 _ y0 (hy c2)] at e
        refine cond_true' (by simpa using c2) ⟨_, hX3.c2, ?_⟩
        have sl := sleb_len (if 2147483648 ≤ i.y then i.y - 4294967296 else i.y)
        refine (slebm w22 32 i.y _ (.inl ⟨rfl, y0, hy c2, rfl⟩)).into fun w3 S4 => ⟨_, rfl, cat_size _ _ (by simp; omega), ?_⟩
        rw [nums_app]
        exact hR _ _ (Same.nx S3 S4) e.symm
      · rw [if_neg c2] at e
        refine cond_false' (by simpa using c2) ?_
        by_cases c3 : i.op = 66
        · rw [if_pos c3, wrap_i64_all _ y0 y1] at e
          refine cond_true' (by simpa using c3) ⟨_, hX3.c2, ?_⟩
          have sl := sleb_len (if 9223372036854775808 ≤ i.y then i.y - 18446744073709551616 else i.y)
          refine (slebm w22 64 i.y _ (.inr ⟨rfl, y0, y1, rfl⟩)).into fun w3 S4 => ⟨_, rfl, cat_size _ _ (by simp; omega), ?_⟩
          rw [nums_app]
          exact hR _ _ (Same.nx S3 S4) e.symm
        · rw [if_neg c3] at e
          refine cond_false' (by simpa using c3) ?_
          by_cases c4 : i.op = 67
          · rw [if_pos c4] at e
            refine cond_true' (by simpa using c4) ⟨_, hX3.c2, ?_⟩
            have sl := littleF_len 4 i.y
            refine (littlem w22 4 (by omega) i.y y0 y1).into fun w3 S4 => ⟨_, rfl, cat_size _ _ (by simp; omega), ?_⟩
            rw [nums_app]
            exact hR _ _ (Same.nx S3 S4) e.symm
          · rw [if_neg c4] at e
            refine cond_false' (by simpa using c4) ?_
            by_cases c5 : i.op = 68
            · rw [if_pos c5] at e
              refine cond_true' (by simpa using c5) ⟨_, hX3.c2, ?_⟩
              have sl := littleF_len 8 i.y
              refine (littlem w22 8 (by omega) i.y y0 y1).into fun w3 S4 => ⟨_, rfl, cat_size _ _ (by simp; omega), ?_⟩
              rw [nums_app]
              exact hR _ _ (Same.nx S3 S4) e.symm
            · rw [if_neg c5] at e
              refine cond_false' (by simpa using c5) ?_
              exact hR [] _ S3 e.symm
  have L2 : ¬ (i.op = 2 ∨ i.op = 3 ∨ i.op = 4) → ∀ t, t = decide (i.op = 12 ∨ i.op = 13 ∨ i.op = 16 ∨ i.op = 32 ∨ i.op = 33 ∨ i.op = 34 ∨ i.op = 35 ∨ i.op = 36) → binm_insText.L2 ta n tc xb i.op (strOfNums [i.op]) (api_MemSig.F i.op).1 (strOfNums (uleb i.x)) t R (fun _ _ => False) w22 := fun n1 t ht => by
    refine binm_insText.step2 _ _ _ _ _ _ _ _ _ _ _ _ ?_
    unfold binm_insText.V2
    by_cases c1 : i.op = 12 ∨ i.op = 13 ∨ i.op = 16 ∨ i.op = 32 ∨ i.op = 33 ∨ i.op = 34 ∨ i.op = 35 ∨ i.op = 36
    · refine cond_true' (by rw [ht]; exact decide_eq_true c1) ⟨cat_size _ _ (by simp; omega), ?_⟩
      rw [nums_app]
      exact hR _ _ S3 (by unfold insT; rw [if_neg n1, if_pos c1])
    · refine cond_false' (by rw [ht]; exact decide_eq_false c1) ?_
      by_cases c2 : i.op = 14
      · refine cond_true' (by simpa using c2) ⟨_, hX3.c2, ?_⟩
        have e : insT i n tabs = uleb (IntKind.wrap .u64 (i.y - 1)) ++ tabF n tabs i.x i.y (n + 1) i.x := by unfold insT; rw [if_neg n1, if_neg c1, if_pos c2]
        have u3 := uleb_len (IntKind.wrap .u64 (i.y - 1))
        have hr : 0 ≤ IntKind.wrap .u64 (i.y - 1) ∧ IntKind.wrap .u64 (i.y - 1) ≤ 18446744073709551615 := by rw [wrap_u64_mod]; omega
        refine (ulebm w22 _ hr.1 hr.2).into fun w3 S4 => ⟨_, rfl, cat_size _ _ (by simp; omega), ?_⟩
        rw [nums_app]
        refine tab_mloop (w0 := w) (z := [i.op] ++ insT i n tabs) hi hn htb (fun w' S => hR _ _ S rfl) (n + 1) 0 _ w3 (by omega) (by simp; omega) ?_ (hX3.same S4 hX3.lt (by simp)) (hT3.keep S4) (Same.nx S3 S4)
        rw [e, List.append_assoc, show i.x + ((0 : Nat) : Int) = i.x by omega]
      · refine cond_false' (by simpa using c2) ?_
        by_cases c3 : i.op = 17
        · refine cond_true' (by simpa using c3) ⟨cat_size _ _ (by simp; omega), ?_⟩
          rw [zero_str, nums_app, nums_app]
          refine ⟨cat_size _ _ (by simp; omega), ?_⟩
          rw [List.append_assoc]
          exact hR _ _ S3 (by unfold insT; rw [if_neg n1, if_neg c1, if_neg c2, if_pos c3])
        · refine cond_false' (by simpa using c3) ?_
          rw [memS_iff o0 o1]
          by_cases c4 : 40 ≤ i.op ∧ i.op ≤ 62
          · refine cond_true' (decide_eq_true c4) ⟨_, hX3.c2, ?_⟩
            refine (ulebm w22 i.y y0 y1).into fun w3 S4 => ⟨_, rfl, cat_size _ _ (by simp; omega), ?_⟩
            rw [nums_app, nums_app]
            refine ⟨cat_size _ _ (by simp; omega), ?_⟩
            rw [List.append_assoc]
            exact hR _ _ (Same.nx S3 S4) (by unfold insT; rw [if_neg n1, if_neg c1, if_neg c2, if_neg c3, if_neg (by omega), if_neg (by omega), if_neg (by omega), if_neg (by omega), if_neg (by omega), if_pos c4])
          · refine cond_false' (decide_eq_false c4) ?_
            refine cond_intro (fun h => L4 n1 c1 c2 c3 c4 _ ?_) (fun h => L4 n1 c1 c2 c3 c4 _ ?_)
            · rw [decide_eq_true (.inl (eq_of_beq h))]
            · have : ¬ i.op = 63 := by simpa using h
              by_cases h4 : i.op = 64
              · rw [decide_eq_true (.inr h4)]; simpa using h4
              · rw [decide_eq_false (by omega)]; simpa using h4
  have L1 : ∀ t, t = decide (i.op = 2 ∨ i.op = 3 ∨ i.op = 4) → binm_insText.L1 ta n tc xb i.op (strOfNums [i.op]) (api_MemSig.F i.op).1 (strOfNums (uleb i.x)) t R (fun _ _ => False) w22 := fun t ht => by
    refine binm_insText.step1 _ _ _ _ _ _ _ _ _ _ _ _ ?_
    unfold binm_insText.V1
    by_cases c1 : i.op = 2 ∨ i.op = 3 ∨ i.op = 4
    · refine cond_true' (by rw [ht]; exact decide_eq_true c1) ⟨_, hX3.c1, letB_intro fun b hb => letW_intro fun w3 hw => ?_⟩
      obtain ⟨hc, S4⟩ := run_one _ w22 hb hw
      refine ⟨_, w3, hc, cat_size _ _ (by simp), ?_⟩
      rw [nums_app]
      exact hR _ _ (Same.nx S3 S4) (by unfold insT; rw [if_pos c1])
    · refine cond_false' (by rw [ht]; exact decide_eq_false c1) ?_
      refine cond_intro (fun h => L2 c1 _ ?_) (fun h1 => cond_intro (fun h => L2 c1 _ ?_) (fun h2 => cond_intro (fun h => L2 c1 _ ?_) (fun h3 => cond_intro (fun h => L2 c1 _ ?_) (fun h => L2 c1 _ ?_))))
      · rw [decide_eq_true (.inl (eq_of_beq h))]
      · rw [decide_eq_true (.inr (.inl (eq_of_beq h)))]
      · rw [decide_eq_true (.inr (.inr (.inl (eq_of_beq h))))]
      · have h := of_decide_eq_true h
        by_cases h4 : i.op ≤ 36
        · rw [decide_eq_true h4, decide_eq_true (by omega)]
        · rw [decide_eq_false h4, decide_eq_false (by omega)]
      · have h := of_decide_eq_false h
        have h1 : ¬ i.op = 12 := by simpa using h1
        have h2 : ¬ i.op = 13 := by simpa using h2
        have h3 : ¬ i.op = 16 := by simpa using h3
        rw [decide_eq_false (by omega)]
  refine cond_intro (fun h => L1 _ ?_) (fun h1 => cond_intro (fun h => L1 _ ?_) (fun h2 => L1 _ ?_))
  · rw [decide_eq_true (.inl (eq_of_beq h))]
  · rw [decide_eq_true (.inr (.inl (eq_of_beq h)))]
  · have h1 : ¬ i.op = 2 := by simpa using h1
    have h2 : ¬ i.op = 3 := by simpa using h2
    by_cases h4 : i.op = 4
    · rw [decide_eq_true (.inr (.inr h4))]; simpa using h4
    · rw [decide_eq_false (by omega)]; simpa using h4
end Go.Proofs.Qxb6500316a
