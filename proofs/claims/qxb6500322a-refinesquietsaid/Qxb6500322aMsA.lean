/-
  The model of the validator: its stack, its small functions.
-/
import Derived.Test.Qxb6500322aVgB
set_option linter.unusedSimpArgs false
set_option linter.unusedVariables false
set_option maxRecDepth 100000
set_option linter.unusedSectionVars false
namespace Go.Proofs.Qxb6500322a
open Go Go.Vc

/-- The model's stack st holds what lies in o above o0. -/
def MS (st : ByteArray) (o o0 : List Int) : Prop := ∃ s : List Int, o = s ++ o0 ∧ st.size = s.length ∧ ∀ j x, s.reverse[j]? = some x → byteAt st j = x
theorem MS.nil (o0 : List Int) : MS ⟨#[]⟩ o0 o0 := ⟨[], rfl, rfl, fun j x h => by simp at h⟩
theorem MS.len {st : ByteArray} {o o0 : List Int} (h : MS st o o0) : o.length = st.size + o0.length := by
  obtain ⟨s, rfl, h2, _⟩ := h
  rw [List.length_append, h2]
theorem MS.zero {st : ByteArray} {o o0 : List Int} (h : MS st o o0) (h0 : st.size = 0) : o = o0 := by
  obtain ⟨s, rfl, h2, _⟩ := h
  have : s = [] := List.eq_nil_of_length_eq_zero (by omega)
  rw [this]; rfl
theorem MS.tail {st : ByteArray} {o o0 : List Int} (h : MS st o o0) (h0 : st.size ≠ 0) : ∃ g o', o = g :: o' ∧ byteAt st (st.size - 1) = g ∧ MS (st.extract 0 (st.size - 1)) o' o0 := by
  obtain ⟨s, rfl, h2, h3⟩ := h
  cases s with
  | nil => exact absurd h2 h0
  | cons g s =>
    rw [List.length_cons] at h2
    have e1 : st.size - 1 = s.length := by omega
    have ez : (st.extract 0 s.length).size = s.length := by rw [ByteArray.size_extract]; omega
    refine ⟨g, s ++ o0, rfl, ?_, s, rfl, ?_, fun j x hj => ?_⟩
    · rw [e1]; exact h3 _ _ (rev_top g s)
    · rw [e1, ez]
    · have hl := (List.getElem?_eq_some_iff.1 hj).1
      rw [List.length_reverse] at hl
      rw [e1, byteAt_extract _ _ _ _ (by rw [ez]; exact hl), Nat.zero_add]
      exact h3 j x (by rw [rev_low g s hl]; exact hj)
theorem byteAt_one {t : Int} (h0 : 0 ≤ t) (h1 : t ≤ 255) : byteAt (strOfNums [t]) 0 = t := by
  show ((UInt8.ofNat t.toNat).toNat : Int) = t
  rw [UInt8.toNat_ofNat']
  omega
theorem MS.push {st : ByteArray} {o o0 : List Int} (h : MS st o o0) {t : Int} (h0 : 0 ≤ t) (h1 : t ≤ 255) : MS (st ++ strOfNums [t]) (t :: o) o0 := by
  obtain ⟨s, rfl, h2, h3⟩ := h
  refine ⟨t :: s, rfl, by rw [ByteArray.size_append, strOfNums_size]; simp; omega, fun j x hj => ?_⟩
  have hl := (List.getElem?_eq_some_iff.1 hj).1
  rw [List.length_reverse, List.length_cons] at hl
  rw [byteAt_append]
  by_cases e : j < s.length
  · rw [if_pos (by omega)]
    rw [rev_low t s e] at hj
    exact h3 j x hj
  · have : j = s.length := by omega
    subst this
    rw [rev_top] at hj; cases hj
    rw [if_neg (by omega), show s.length - st.size = 0 by omega, byteAt_one h0 h1]

/-- A result, as a string. -/
def resS (t : Int) : ByteArray := if t = 64 then ⟨#[]⟩ else strOfNums [t]
theorem resS_size (t : Int) : (resS t).size = if t = 64 then 0 else 1 := by
  unfold resS
  split
  · rfl
  · rw [strOfNums_size]; rfl
theorem nums_of (q : ByteArray) (h : q.size = 1) : strOfNums [byteAt q 0] = q := by
  apply ByteArray.ext
  apply Array.ext
  · show 1 = q.data.size
    exact h.symm
  · intro i h1 h2
    have hs : q.data.size = 1 := h
    have e : i = 0 := by omega
    subst e
    show UInt8.ofNat (byteAt q 0).toNat = q.data[0]
    unfold byteAt
    rw [Int.toNat_natCast, Array.getD_eq_getD_getElem?, Array.getElem?_eq_getElem h2]
    simp
theorem resS_fst {q : ByteArray} (h : Vals q 1) : resS (fstT q) = q := by
  unfold fstT
  split
  · rename_i h0
    show (⟨#[]⟩ : ByteArray) = q
    apply ByteArray.ext
    have : q.data.size = 0 := h0
    exact (Array.eq_empty_of_size_eq_zero this).symm
  · rename_i h0
    have v := h.2 0 (by omega)
    unfold resS
    rw [if_neg (by omega)]
    exact nums_of q (by have := h.1; omega)

section
variable {w w' : World} {st : ByteArray} {o o0 : List Int} {f : Fr}
theorem mpop_spec (h : MS st o o0) (h0 : o0.length = f.fl) (hl : st.size ≤ 1000) (want : Int) (w : World) : Runs Try.prog validm_pop.id #[.string st, .bool f.dead, .int .u8 want] w fun v w' => w' = w ∧ ∃ st', v = .tuple #[.string st', .int .u8 (popT want f o), .bool (popB want f o)] ∧ MS st' (popO f o) o0 := by
  have hlen := h.len
  refine validm_pop.enter _ _ _ _ _ _ ?_
  unfold validm_pop.V
  refine cond_intro (fun g => ?_) (fun g => ?_)
  · have g : st.size = 0 := by have := eq_of_beq g; omega
    have e : o.length = f.fl := by omega
    refine ⟨rfl, st, ?_, ?_⟩
    · unfold popT popB; rw [if_pos e, if_pos e]
    · unfold popO; rw [if_pos e]; exact h
  · have g : st.size ≠ 0 := fun e => by rw [e] at g; cases g
    have e : ¬ o.length = f.fl := by omega
    have ew : IntKind.wrap .i64 (((st.size : Nat) : Int) - 1) = ((st.size - 1 : Nat) : Int) := by rw [wrap_i64 (by omega) (by omega)]; omega
    rw [ew, Int.toNat_natCast]
    obtain ⟨a, o', rfl, hb, hm⟩ := h.tail g
    rw [hb]
    have eT : popT want f (a :: o') = if a = 0 then want else a := by unfold popT; rw [if_neg e]
    have eB : popB want f (a :: o') = (a == 0 || (want == 0 || a == want)) := by unfold popB; rw [if_neg e]
    have eO : popO f (a :: o') = o' := by unfold popO; rw [if_neg e]; rfl
    rw [eT, eB, eO]
    refine ⟨⟨by omega, by omega⟩, ⟨by omega, by omega, by omega⟩, cond_intro (fun ha => ?_) (fun ha => ?_)⟩
    · exact ⟨rfl, _, by rw [if_pos (eq_of_beq ha), ha, Bool.true_or], hm⟩
    · have ha' : a ≠ 0 := by simpa using ha
      refine cond_intro (fun hw => ⟨rfl, _, by rw [if_neg ha', ha, hw, Bool.false_or, Bool.true_or], hm⟩) (fun hw => ⟨rfl, _, by rw [if_neg ha', ha, hw, Bool.false_or, Bool.false_or], hm⟩)

theorem popsF_ms (s : ByteArray) (h0 : o0.length = f.fl) : ∀ (n : Nat) {st : ByteArray} {o : List Int}, MS st o o0 → ∃ st', MS st' (popsF s f n o).2 o0
  | 0, st, o, h => ⟨st, h⟩
  | n + 1, st, o, h => by
    have hp : ∃ st', MS st' (popO f o) o0 := by
      have hlen := h.len
      unfold popO
      split
      · exact ⟨st, h⟩
      · obtain ⟨a, o', rfl, _, hm⟩ := h.tail (by omega)
        exact ⟨_, hm⟩
    obtain ⟨st', h'⟩ := hp
    rw [popsF_succ]
    split
    · exact popsF_ms s h0 n h'
    · exact ⟨st', h'⟩

theorem popO_le (o : List Int) : (popO f o).length ≤ o.length := by
  unfold popO
  split
  · exact Nat.le_refl _
  · rw [List.length_tail]; omega
theorem mpops_spec (s : ByteArray) (hs : s.size ≤ 1024) (h0 : o0.length = f.fl) (h : MS st o o0) (hl : o.length ≤ 1000) (w : World) : Runs Try.prog validm_pops.id #[.string st, .bool f.dead, .string s] w fun v w' => w' = w ∧ ∃ st', v = .tuple #[.string st', .bool (popsF s f s.size o).1] ∧ MS st' (popsF s f s.size o).2 o0 := by
  refine validm_pops.enter _ _ _ _ _ _ ?_
  unfold validm_pops.V
  have L3 : ∀ (b : Bool) (st1 : ByteArray) (o1 : List Int), MS st1 o1 o0 → validm_pops.L3 st1 b (fun v w' => w' = w ∧ ∃ st', v = .tuple #[.string st', .bool b] ∧ MS st' o1 o0) (fun _ _ => False) w := fun b st1 o1 h1 => by
    refine validm_pops.step3 _ _ _ _ _ ?_
    unfold validm_pops.V3
    exact ⟨rfl, st1, rfl, h1⟩
  have L : ∀ (k : Nat) (st1 : ByteArray) (o1 : List Int), k ≤ s.size → MS st1 o1 o0 → o1.length ≤ 1000 →
      validm_pops.L1 st1 f.dead s true ((k : Int) - 1) (fun v w' => w' = w ∧ ∃ st', v = .tuple #[.string st', .bool (popsF s f k o1).1] ∧ MS st' (popsF s f k o1).2 o0) (fun _ _ => False) w := by
    intro k
    induction k with
    | zero =>
      intro st1 o1 hk h1 hl1
      refine validm_pops.step1 _ _ _ _ _ _ _ _ ?_
      unfold validm_pops.V1
      exact cond_false' (decide_eq_false (by omega)) (L3 true st1 o1 h1)
    | succ k ih =>
      intro st1 o1 hk h1 hl1
      refine validm_pops.step1 _ _ _ _ _ _ _ _ ?_
      unfold validm_pops.V1
      have e : (((k + 1 : Nat) : Int) - 1) = (k : Int) := by omega
      rw [e]
      refine cond_true' (decide_eq_true (by omega)) (cond_true' rfl ?_)
      refine validm_pops.step2 _ _ _ _ _ _ _ ?_
      unfold validm_pops.V2
      rw [Int.toNat_natCast]
      have hlen := h1.len
      refine ⟨⟨by omega, by omega⟩, RunsQ.post (mpop_spec h1 h0 (by omega) _ w) ?_⟩
      rintro v w2 ⟨rfl, st2, rfl, h2⟩
      refine ⟨_, _, _, rfl, ?_⟩
      have e2 : IntKind.wrap .i64 ((k : Int) - 1) = (k : Int) - 1 := wrap_i64 (by omega) (by omega)
      rw [e2, popsF_succ]
      have hl2 := popO_le (f := f) o1
      cases hb : popB (byteAt s k) f o1
      · refine validm_pops.step1 _ _ _ _ _ _ _ _ ?_
        unfold validm_pops.V1
        refine cond_intro (fun _ => cond_false' rfl (L3 false st2 _ h2)) (fun _ => L3 false st2 _ h2)
      · exact ih st2 _ (by omega) h2 (by omega)
  have e2 : IntKind.wrap .i64 (((s.size : Nat) : Int) - 1) = ((s.size : Nat) : Int) - 1 := wrap_i64 (by omega) (by omega)
  rw [e2]
  exact L s.size st o (Nat.le_refl _) h hl
theorem popsF_res (t : Int) (ht : t = 64 ∨ VT t) : popsF (resS t) f (resS t).size o = (carB t f o, carO t f o) := by
  rw [resS_size]
  unfold resS carB carO
  rcases ht with rfl | ht
  · rw [if_pos rfl, if_pos rfl]; rfl
  · have n : ¬ t = 64 := by omega
    rw [if_neg n, if_neg n, if_neg n, popsF_succ, byteAt_one (by omega) (by omega)]
    have : (t == 64) = false := beq_eq_false_iff_ne.2 n
    rw [this, Bool.false_or]
    cases popB t f o <;> rfl
/-- What a label or a block's end takes. -/
theorem mcar_spec (t : Int) (ht : t = 64 ∨ VT t) (h0 : o0.length = f.fl) (h : MS st o o0) (hl : o.length ≤ 1000) (w : World) : Runs Try.prog validm_pops.id #[.string st, .bool f.dead, .string (resS t)] w fun v w' => w' = w ∧ ∃ st', v = .tuple #[.string st', .bool (carB t f o)] ∧ MS st' (carO t f o) o0 := by
  have hz : (resS t).size ≤ 1024 := by rw [resS_size]; split <;> omega
  have := mpops_spec (resS t) hz h0 h hl w
  rw [popsF_res t ht] at this
  exact this
theorem mpop_car (t : Int) (ht : VT t) (h0 : o0.length = f.fl) (h : MS st o o0) (hl : o.length ≤ 1000) (w : World) : Runs Try.prog validm_pop.id #[.string st, .bool f.dead, .int .u8 t] w fun v w' => w' = w ∧ ∃ st' y, v = .tuple #[.string st', .int .u8 y, .bool (carB t f o)] ∧ MS st' (carO t f o) o0 := by
  have hlen := h.len
  refine RunsQ.post (mpop_spec h h0 (by omega) t w) ?_
  rintro v w2 ⟨rfl, st2, rfl, h2⟩
  have n : ¬ t = 64 := by omega
  have e1 : carB t f o = popB t f o := by
    unfold carB
    rw [beq_eq_false_iff_ne.2 n, Bool.false_or]
  have e2 : carO t f o = popO f o := by unfold carO; rw [if_neg n]
  exact ⟨rfl, st2, _, by rw [e1], by rw [e2]; exact h2⟩
theorem fitB_car (t : Int) (ht : t = 64 ∨ VT t) : fitB t f o = carB t f o := by
  unfold fitB carB popB
  congr 1
  split
  · rfl
  · cases o with
    | nil => rfl
    | cons g o' =>
      rcases ht with rfl | ht
      · show (g == 0 || g == 64) = (g == 0 || ((64 : Int) == 0 || g == 64))
        rfl
      · have : (t == 0) = false := beq_eq_false_iff_ne.2 (by omega)
        simp only [this, Bool.false_or]

theorem one_spec (t : Int) (w : World) : Runs Try.prog validm_one.id #[.int .u8 t] w fun v w' => v = .string (strOfNums [t]) ∧ Same [] w.heap.size w w' := by
  refine validm_one.enter _ _ _ _ ?_
  unfold validm_one.V
  refine letB_intro fun b2 hb => letW_intro fun w3 hw => ?_
  have c3 : w3.cell? ⟨b2, 0, none⟩ = some (.int .u8 t) := by rw [hw, hb, World.cell?_alloc_new]; rfl
  have S3 : Same [] w.heap.size w w3 := by rw [hw]; exact (Same.refl _ _ _).alloc (Nat.le_refl _) _
  have hr : (Go.convert T_sl_uint8 T_string (.slice (some ⟨b2, 0, none⟩) 1 1)).run Try.prog w3 = .ok (.string (strOfNums [t])) w3 :=
    run_convert_bytes_arg w3 T_sl_uint8 T_uint8 (by kernel_rfl) (by kernel_rfl) b2 0 1 1 [t] rfl (fun j hj => by
      have : j = 0 := by omega
      subst this
      exact c3) T_string (by kernel_rfl)
  exact ⟨_, w3, hr, rfl, S3⟩
theorem blockType_spec (x : Int) (hx : x = 64 ∨ VT x) (w : World) : Runs Try.prog validm_blockType.id #[.int .u32 x] w fun v w' => v = .string (resS x) ∧ Same [] w.heap.size w w' := by
  refine validm_blockType.enter _ _ _ _ ?_
  unfold validm_blockType.V
  refine cond_intro (fun h => ?_) (fun h => ?_)
  · exact ⟨by unfold resS; rw [if_pos (eq_of_beq h)], Same.refl _ _ _⟩
  · have n : ¬ x = 64 := by simpa using h
    have v := hx.resolve_left n
    rw [wrap_u8 (by omega) (by omega)]
    refine RunsQ.post (one_spec x w) ?_
    rintro v w2 ⟨rfl, S2⟩
    exact ⟨_, rfl, by unfold resS; rw [if_neg n], S2⟩
def konT (op : Int) : Int := if op = 65 then 127 else if op = 66 then 126 else if op = 67 then 125 else if op = 68 then 124 else 0
theorem constType_spec (x : Ins) (w : World) : Runs Try.prog validm_constType.id #[insV x] w fun v w' => v = .int .u8 (konT x.op) ∧ Same [] w.heap.size w w' := by
  refine validm_constType.enter _ _ _ _ _ _ ?_
  unfold validm_constType.V
  refine letB_intro fun b4 hb => letW_intro fun w5 hw => ?_
  obtain ⟨I, S⟩ := ins_made (i := x) hb hw
  clear hw
  refine ⟨_, I.c0, ?_⟩
  unfold konT
  refine cond_intro (fun h => ⟨by rw [if_pos (eq_of_beq h)], S⟩) (fun h => ?_)
  rw [if_neg (show ¬ x.op = 65 by simpa using h)]
  refine cond_intro (fun h => ⟨by rw [if_pos (eq_of_beq h)], S⟩) (fun h => ?_)
  rw [if_neg (show ¬ x.op = 66 by simpa using h)]
  refine cond_intro (fun h => ⟨by rw [if_pos (eq_of_beq h)], S⟩) (fun h => ?_)
  rw [if_neg (show ¬ x.op = 67 by simpa using h)]
  refine cond_intro (fun h => ⟨by rw [if_pos (eq_of_beq h)], S⟩) (fun h => ⟨by rw [if_neg (show ¬ x.op = 68 by simpa using h)], S⟩)
theorem konT_eq {op : Int} (h0 : 65 ≤ op) (h1 : op ≤ 68) : konT op = 127 - (op - 65) := by
  have : op = 65 ∨ op = 66 ∨ op = 67 ∨ op = 68 := by omega
  rcases this with rfl | rfl | rfl | rfl <;> rfl
end
end Go.Proofs.Qxb6500322a
