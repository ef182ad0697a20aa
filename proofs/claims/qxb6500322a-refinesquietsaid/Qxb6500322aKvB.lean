/-
  The law's K4: a body made anew.
-/
import Derived.Test.Qxb6500322aKvA
import Derived.Deep.DeepAppendRoom
set_option linter.unusedSimpArgs false
set_option linter.unusedVariables false
set_option maxRecDepth 100000
set_option linter.unusedSectionVars false
namespace Go.Proofs.Qxb6500322a
open Go Go.Vc

/-! ### Instructions as cells -/
def inC (i : Ins) (r : Nat) : Value := if r = 0 then .int .u8 i.op else if r = 1 then .int .u32 i.x else .int .u64 i.y
def insCells (n : Nat) (ins : Nat → Ins) : List Value := (List.range (n * 3)).map fun j => inC (ins (j / 3)) (j % 3)
theorem insCells_len (n : Nat) (ins : Nat → Ins) : (insCells n ins).length = n * 3 := by unfold insCells; simp
theorem insCells_get {n : Nat} {ins : Nat → Ins} {j : Nat} (h : j < n * 3) : (insCells n ins)[j]? = some (inC (ins (j / 3)) (j % 3)) := by
  unfold insCells
  rw [List.getElem?_map, List.getElem?_range h]; rfl
theorem inC_one (i : Ins) (r : Nat) : (inC i r).oneCell' = true := by
  unfold inC
  split
  · rfl
  · split <;> rfl
theorem insCells_one {n : Nat} {ins : Nat → Ins} : ∀ u ∈ insCells n ins, u.oneCell' = true := fun u hu => by
  unfold insCells at hu
  rw [List.mem_map] at hu
  obtain ⟨j, _, rfl⟩ := hu
  exact inC_one _ _
theorem InsRow.cells {w : World} {b n : Nat} {ins : Nat → Ins} (h : InsRow w b n ins) {k : Nat} (hk : k ≤ n) {j : Nat} {u : Value} (hj : (insCells k ins)[j]? = some u) : w.cell? ⟨b, j, none⟩ = some u := by
  have hl : j < k * 3 := by
    have := (List.getElem?_eq_some_iff.1 hj).1
    rw [insCells_len] at this; exact this
  rw [insCells_get hl] at hj
  cases hj
  have e : j / 3 * 3 + j % 3 = j := Nat.div_add_mod' j 3
  have hi : j / 3 < n := by omega
  have hr : j % 3 = 0 ∨ j % 3 = 1 ∨ j % 3 = 2 := by omega
  unfold inC
  rcases hr with g | g | g
  · rw [if_pos g]
    have := h.i0 _ hi
    rw [show j / 3 * 3 = j by omega] at this; exact this
  · rw [if_neg (by omega), if_pos g]
    have := h.i1 _ hi
    rw [show j / 3 * 3 + 1 = j by omega] at this; exact this
  · rw [if_neg (by omega), if_neg (by omega)]
    have := h.i2 _ hi
    rw [show j / 3 * 3 + 2 = j by omega] at this; exact this
theorem InsRow.of {w : World} {b n : Nat} {ins : Nat → Ins} (hc : ∀ j u, (insCells n ins)[j]? = some u → w.cell? ⟨b, j, none⟩ = some u) (hf : ∀ j, w.frozen? ⟨b, j, none⟩ = false) : InsRow w b n ins := by
  refine ⟨fun j hj => ?_, fun j hj => ?_, fun j hj => ?_, hf⟩
  · refine hc _ _ ?_
    rw [insCells_get (by omega), show j * 3 / 3 = j by omega, show j * 3 % 3 = 0 by omega]; rfl
  · refine hc _ _ ?_
    rw [insCells_get (by omega), show (j * 3 + 1) / 3 = j by omega, show (j * 3 + 1) % 3 = 1 by omega]; rfl
  · refine hc _ _ ?_
    rw [insCells_get (by omega), show (j * 3 + 2) / 3 = j by omega, show (j * 3 + 2) % 3 = 2 by omega]; rfl
theorem insCells_snoc (n : Nat) (ins : Nat → Ins) : insCells (n + 1) ins = insCells n ins ++ [.int .u8 (ins n).op, .int .u32 (ins n).x, .int .u64 (ins n).y] := by
  apply List.ext_getElem?
  intro j
  by_cases h : j < n * 3
  · rw [List.getElem?_append_left (by rw [insCells_len]; exact h), insCells_get h, insCells_get (by omega)]
  · rw [List.getElem?_append_right (by rw [insCells_len]; omega), insCells_len]
    by_cases h2 : j < (n + 1) * 3
    · rw [insCells_get h2]
      have e : j / 3 = n := by omega
      have hr : j = n * 3 ∨ j = n * 3 + 1 ∨ j = n * 3 + 2 := by omega
      rw [e]
      rcases hr with rfl | rfl | rfl
      · rw [show n * 3 % 3 = 0 by omega, show n * 3 - n * 3 = 0 by omega]; rfl
      · rw [show (n * 3 + 1) % 3 = 1 by omega, show n * 3 + 1 - n * 3 = 1 by omega]; rfl
      · rw [show (n * 3 + 2) % 3 = 2 by omega, show n * 3 + 2 - n * 3 = 2 by omega]; rfl
    · rw [List.getElem?_eq_none (by rw [insCells_len]; omega), List.getElem?_eq_none (by simp; omega)]
theorem insCells_congr {n : Nat} {f g : Nat → Ins} (h : ∀ j, j < n → f j = g j) : insCells n f = insCells n g := by
  unfold insCells
  apply List.map_congr_left
  intro j hj
  rw [List.mem_range] at hj
  rw [h (j / 3) (by omega)]
theorem insCells_pad {n : Nat} (ins : Nat → Ins) : insCells (n + 2) (padI (n + 1) ins) = insCells n ins ++ [.int .u8 1, .int .u32 0, .int .u64 0] ++ [.int .u8 (ins n).op, .int .u32 (ins n).x, .int .u64 (ins n).y] := by
  rw [insCells_snoc, insCells_snoc, insCells_congr (g := ins) (fun j hj => pad_low (by omega)), pad_nop rfl, pad_end rfl (by omega)]
  rfl

/-! ### The module with one body turned -/
theorem SlF.mv [OutOf] {α : Type} {enc : α → List Value} {sz : Nat} {w w' : World} {lo : Nat} {v : Value} {n : Nat} {f : Nat → α} (h : SlF enc sz w lo v n f) {S : List Nat} (hs : Same S w.heap.size w w') (hS : ∀ b, RowF enc sz w b n f → n ≠ 0 → b ∉ S) : SlF enc sz w' lo v n f := by
  rcases h with h | ⟨h0, b, h1, h2, h3, h4⟩
  · exact .inl h
  · exact .inr ⟨h0, b, h1, h2.same hs h4 (hS b h2 h0), h3, by have := hs.size; omega⟩
section
variable {w w' : World} {L mb g k fb : Nat} {m : Nat → Value} {P : PM} {nv : Value}
theorem padM (H : HM w w L mb m P) (hk : k < P.nf) (h0 : 0 < (P.fn k).nI) (c2 : w.cell? ⟨mb, 2, none⟩ = some (.slice (some ⟨fb, 0, none⟩) P.nf P.nf)) (I : InsRow w g ((P.fn k).nI + 1) (padI (P.fn k).nI (P.fn k).ins)) (hg : L < g) (hgl : g < w.heap.size) (hgf : g ≠ fb)
    (hw : w' = w.setCell ⟨fb, k * 4 + 2, none⟩ (.slice (some ⟨g, 0, none⟩) ((P.fn k).nI + 1) ((P.fn k).nI + 1))) : HM w' w' L mb m (padP P k) ∧ L < fb ∧ Same [fb] w.heap.size w w' := by
  haveI := outNil
  have M := H.inv
  have A := H.md
  rcases M.f2 with ⟨h1, _⟩ | ⟨_, b, h1, row, hb1, hb2⟩
  · omega
  have hm2 := A.c 2 (by decide)
  rw [h1, c2] at hm2
  have eb : fb = b := by
    injection hm2 with q
    injection q with q1 _ _
    injection q1 with q1
    (first | (injection q1 with z__; injection z__) | injection q1)
  subst eb
  have S : Same [fb] w.heap.size w w' := by rw [hw]; exact (Same.refl _ _ _).setCell (.inr (by simp)) _
  have f0 := row.c0 0 (by omega)
  rw [Nat.zero_mul] at f0
  have nm : mb ∉ [fb] := fun g => by
    rw [List.mem_singleton] at g
    have := A.c 0 (by decide)
    rw [g, f0] at this
    injection this with this
    obtain ⟨a, ea, _⟩ := M.t0.look
    rw [ea] at this
    cases this
  have C : ∀ j, w'.cell? ⟨fb, j, none⟩ = if j = k * 4 + 2 then (w.cell? ⟨fb, j, none⟩).map (fun _ => .slice (some ⟨g, 0, none⟩) ((P.fn k).nI + 1) ((P.fn k).nI + 1)) else w.cell? ⟨fb, j, none⟩ := fun j => by
    rw [hw, cell_setCell]
    by_cases e : j = k * 4 + 2
    · rw [if_pos ⟨rfl, e⟩, if_pos e]
    · rw [if_neg (by omega), if_neg e]
  have st : ∀ (b : Nat) (x : ByteArray), w.cell? ⟨b, 0, none⟩ = some (.string x) → b ∉ [fb] := fun b x h g => by
    rw [List.mem_singleton] at g
    rw [g, f0] at h; cases h
  have u8 : ∀ (b : Nat) (x : Int), w.cell? ⟨b, 0, none⟩ = some (.int .u8 x) → b ∉ [fb] := fun b x h g => by
    rw [List.mem_singleton] at g
    rw [g, f0] at h; cases h
  have u32 : ∀ (b : Nat) (x : Int), w.cell? ⟨b, 0, none⟩ = some (.int .u32 x) → b ∉ [fb] := fun b x h g => by
    rw [List.mem_singleton] at g
    rw [g, f0] at h; cases h
  have e0 : ∀ sz : Nat, 0 * sz + 0 = 0 := fun sz => by simp
  have sz := S.size
  refine ⟨⟨A.same S A.lt nm, ?_, H.lm, Same.refl _ _ _⟩, hb1, S⟩
  refine { M with t0 := ?_, i1 := ?_, f2 := ?_, g7 := ?_, e8 := ?_, l10 := ?_, d11 := ?_ }
  · exact M.t0.mv S (fun b r hn => st b _ (e0 1 ▸ r.c 0 (by omega) 0 _ rfl))
  · exact M.i1.mv S (fun b r hn => st b _ (e0 3 ▸ r.c 0 (by omega) 0 _ rfl))
  · refine .inr ⟨by show P.nf ≠ 0; omega, fb, h1, ?_, hb1, by omega⟩
    show FnRow w' (L + 1) fb P.nf P.nf (upd P.fn k (padF (P.fn k)))
    have U : ∀ j, j ≠ k → upd P.fn k (padF (P.fn k)) j = P.fn j := fun j h => by unfold upd; rw [if_neg h]
    have U2 : upd P.fn k (padF (P.fn k)) k = padF (P.fn k) := by unfold upd; rw [if_pos rfl]
    refine ⟨fun j hj => ?_, fun j => by rw [hw, World.frozen?_setCell]; exact row.f j, fun j hj => ?_, fun j hj => ?_, fun j hj => ?_, fun j hj => ?_, fun j h1 h2 => by omega⟩
    · obtain ⟨v, hv⟩ := row.c j hj
      rw [C]
      split
      · rw [hv]; exact ⟨_, rfl⟩
      · exact ⟨v, hv⟩
    · rw [C, if_neg (by omega), row.c0 j hj]
      congr 2
      exact (padP_ty (P := P) (k := k) j).symm
    · rw [C, if_neg (by omega), row.c1 j hj]
      by_cases e : j = k
      · rw [e, U2]; rfl
      · rw [U j e]
    · obtain ⟨nb, b1, b2, b3, b4, b5⟩ := row.c2 j hj
      by_cases e : j = k
      · rw [e] at b1 ⊢
        rw [U2]
        refine ⟨g, ?_, I.same S hgl (by simp; exact hgf), by omega, by omega, hgf⟩
        rw [C, if_pos rfl, b1]; rfl
      · rw [U j e]
        exact ⟨nb, by rw [C, if_neg (by omega)]; exact b1, b2.same S b4 (by simp; exact b5), b3, by omega, b5⟩
    · have e3 : (upd P.fn k (padF (P.fn k)) j).nTab = (P.fn j).nTab ∧ (upd P.fn k (padF (P.fn k)) j).tabs = (P.fn j).tabs := by
        by_cases e : j = k
        · rw [e, U2]; exact ⟨rfl, rfl⟩
        · rw [U j e]; exact ⟨rfl, rfl⟩
      rw [e3.1, e3.2, C, if_neg (by omega)]
      rcases row.c3 j hj with h | ⟨h0, tk, t1, t2, t3, t4, t5⟩
      · exact .inl h
      · exact .inr ⟨h0, tk, t1, t2.same S t4 (by simp; exact t5), t3, by omega, t5⟩
  · exact M.g7.mv S (fun b r hn => u8 b _ (e0 5 ▸ r.c 0 (by omega) 0 _ rfl))
  · exact M.e8.mv S (fun b r hn => st b _ (e0 3 ▸ r.c 0 (by omega) 0 _ rfl))
  · rcases M.l10 with h | ⟨h0, tb, h1, ⟨fr, r1, r2⟩, h3, h4⟩
    · exact .inl h
    · have nt : tb ∉ [fb] := u8 tb _ (e0 4 ▸ r1.c 0 (by omega) 0 _ rfl)
      refine .inr ⟨h0, tb, h1, ⟨fr, r1.same S h4 nt, fun j hj => ?_⟩, h3, by omega⟩
      obtain ⟨q1, q2, q3⟩ := r2 j hj
      exact ⟨q1, q2.mv S (fun b r hn => u32 b _ (e0 1 ▸ r.c 0 (by omega) 0 _ rfl)), q3⟩
  · exact M.d11.mv S (fun b r hn => u8 b _ (e0 4 ▸ r.c 0 (by omega) 0 _ rfl))
end

section
variable {wd w w' : World} {L mb vb : Nat} {m : Nat → Value} {P : PM}
/-- What Padded leaves. -/
def PadOk (w : World) (L vb : Nat) : Value → World → Prop := fun v w' => v = .bool true ∧ (∃ o k, VAt w' vb o k) ∧ ∃ fb, L < fb ∧ Same [vb, fb] w.heap.size w w'
theorem Padded_spec (H : HM wd w L mb m P) (B : PB P) (V : ∃ o k, VAt w vb o k) (lv : vb ≤ L) (hv : (validV P).2.2 = 0) (k : Int) : Runs Try.prog validlaw_Padded.id #[rp vb, rp mb, .int .i64 k] w (PadOk w L vb) := by
  haveI := outNil
  have bf := B.nf
  have S0 : Same [vb, L + 1] w.heap.size w w := Same.refl _ _ _
  have yes : PadOk w L vb (.bool true) w := ⟨rfl, V, L + 1, by omega, S0⟩
  refine validlaw_Padded.enter _ _ _ _ _ _ ?_
  unfold validlaw_Padded.V
  refine cond_intro (fun h => yes) (fun h => ?_)
  have h0 : 0 ≤ k := by have := of_decide_eq_false h; omega
  obtain ⟨a2, c2, hr⟩ := H.fn
  simp only [true_and, nilV_some, Nat.zero_add]
  refine ⟨_, _, _, c2, cond_intro (fun h => yes) (fun h => ?_)⟩
  have h1 : k < (P.nf : Int) := by have := of_decide_eq_false h; omega
  obtain ⟨i, rfl⟩ := Int.eq_ofNat_of_zero_le h0
  have hi : i < P.nf := by omega
  obtain ⟨fb, rfl, hf1, hf2, row⟩ := hr (by omega)
  obtain ⟨nb, b1, b2, b3, b4, b5⟩ := row.c2 i hi
  refine validlaw_Padded.step1 _ _ _ _ _ _ ?_
  unfold validlaw_Padded.V1
  simp only [true_and, nilV_some, Nat.zero_add]
  refine ⟨_, _, _, c2, ⟨by omega, by omega⟩, ?_⟩
  simp only [nilV_some, add_mk, Int.toNat_natCast, Nat.zero_add]
  refine ⟨_, _, _, b1, cond_intro (fun h => yes) (fun h => cond_intro (fun h' => yes) (fun h' => ?_))⟩
  have n1 : 0 < (P.fn i).nI := by have := of_decide_eq_false h; omega
  have n2 : (P.fn i).nI ≤ 96 := by have := of_decide_eq_false h'; omega
  clear h h'
  obtain ⟨n, hn⟩ : ∃ n, (P.fn i).nI = n + 1 := ⟨(P.fn i).nI - 1, by omega⟩
  refine validlaw_Padded.step2 _ _ _ _ _ _ _ _ _ _ ?_
  unfold validlaw_Padded.V2
  have e1 : IntKind.wrap .i64 (((P.fn i).nI : Int) + 1) = ((n + 2 : Nat) : Int) := by rw [wrap_i64 (by omega) (by omega)]; omega
  have e2 : IntKind.wrap .i64 (((P.fn i).nI : Int) - 1) = (n : Int) := by rw [wrap_i64 (by omega) (by omega)]; omega
  rw [e1, e2]
  simp only [add_mk, Int.toNat_natCast, Nat.zero_add, Nat.sub_zero]
  have E := T_sl_api_Ins.el
  obtain ⟨w1, r1, o1, S1⟩ := make_own E w w.heap.size (n + 2) .i64 .i64 (by omega) (by unfold maxLen; omega) (Nat.le_refl _)
  refine ⟨_, _, _, w1, r1, ⟨by omega, by omega, by omega, by omega⟩, ?_⟩
  have H1 := H.keep S1
  have I1 := b2.same S1 b4 (by simp)
  rw [slAddr_lt (by omega), Nat.zero_mul, Nat.add_zero]
  obtain ⟨w5, r5, o5, g5⟩ := run_append_own_spare (P := Try.prog) w1 w.heap.size T_sl_api_Ins T_sl_api_Ins T_api_Ins _ 3 E.ht E.hi E.hsize w.heap.size 0 (n + 2) [] o1 ⟨nb, 0, none⟩ n (P.fn i).nI (insCells n (P.fn i).ins) (insCells_len _ _) (fun j u hj => by
    rw [add_mk, Nat.zero_add]
    exact I1.cells (by omega) hj) insCells_one (by omega)
  have S5 : Same [] w.heap.size w w5 := S1.grown g5 S1.size (fun k hk => by injection hk with hk; omega)
  rw [Nat.zero_add] at r5 o5
  rw [List.nil_append] at o5
  refine ⟨_, _, _, w5, r5, letB_intro fun b9 hb9 => letW_intro fun w10 hw10 => ?_⟩
  have S10 : Same [] w.heap.size w w10 := by rw [hw10]; exact S5.alloc S5.size _
  have o10 : w10.ownsRow w.heap.size T_api_Ins 3 (.slice (some ⟨w.heap.size, 0, none⟩) n (n + 2)) n (insCells n (P.fn i).ins) := by rw [hw10]; exact o5.alloc _
  obtain ⟨w11, r11, o11, g11⟩ := run_append_own_spare (P := Try.prog) w10 w.heap.size T_sl_api_Ins T_sl_api_Ins T_api_Ins _ 3 E.ht E.hi E.hsize w.heap.size n (n + 2) _ o10 ⟨b9, 0, none⟩ 1 1 [.int .u8 1, .int .u32 0, .int .u64 0] rfl (fun j u hj => by
    rw [add_mk, Nat.zero_add, hw10, hb9, World.cell?_alloc_new]; simpa using hj) (by intro u hu; simp at hu; rcases hu with rfl | rfl | rfl <;> rfl) (by omega)
  have S11 : Same [] w.heap.size w w11 := S10.grown g11 S10.size (fun k hk => by injection hk with hk; omega)
  clear hw10
  refine ⟨_, _, _, w11, r11, ⟨by omega, by omega⟩, ?_⟩
  have I11 := b2.same S11 b4 (by simp)
  simp only [nilV_some, add_mk, Nat.zero_add]
  refine ⟨_, _, _, I11.i0 n (by omega), I11.i1 n (by omega), I11.i2 n (by omega), letB_intro fun b19 hb19 => letW_intro fun w20 hw20 => ?_⟩
  have S20 : Same [] w.heap.size w w20 := by rw [hw20]; exact S11.alloc S11.size _
  have o20 := o11.alloc (.cells #[.int .u8 ((P.fn i).ins n).op, .int .u32 ((P.fn i).ins n).x, .int .u64 ((P.fn i).ins n).y] T_api_Ins)
  rw [← hw20] at o20
  obtain ⟨w21, r21, o21, g21⟩ := run_append_own_spare (P := Try.prog) w20 w.heap.size T_sl_api_Ins T_sl_api_Ins T_api_Ins _ 3 E.ht E.hi E.hsize w.heap.size (n + 1) (n + 2) _ o20 ⟨b19, 0, none⟩ 1 1 [.int .u8 ((P.fn i).ins n).op, .int .u32 ((P.fn i).ins n).x, .int .u64 ((P.fn i).ins n).y] rfl (fun j u hj => by
    rw [add_mk, Nat.zero_add, hw20, hb19, World.cell?_alloc_new]; simpa using hj) (by intro u hu; simp at hu; rcases hu with rfl | rfl | rfl <;> rfl) (by omega)
  have S21 : Same [] w.heap.size w w21 := S20.grown g21 S20.size (fun k hk => by injection hk with hk; omega)
  clear hw20
  have H21 := H.keep S21
  refine ⟨_, _, _, w21, r21, ?_⟩
  obtain ⟨a', c2', hr'⟩ := H21.fn
  have c2'' : w21.cell? ⟨mb, 2, none⟩ = some (.slice (some ⟨fb, 0, none⟩) P.nf P.nf) := by
    have hm : mb < w.heap.size := cell_lt c2
    rw [S21.cell hm (by simp)]; exact c2
  refine ⟨_, _, _, c2'', ⟨by omega, by omega⟩, ?_⟩
  simp only [nilV_some, add_mk, Int.toNat_natCast, Nat.zero_add]
  have b1' : w21.cell? ⟨fb, i * 4 + 2, none⟩ = some (.slice (some ⟨nb, 0, none⟩) (P.fn i).nI (P.fn i).nI) := by rw [S21.cell hf2 (by simp)]; exact b1
  have fz : w21.frozen? ⟨fb, i * 4 + 2, none⟩ = false := by rw [S21.frozen hf2 (by simp)]; exact row.f _
  refine ⟨⟨⟨_, b1'⟩, fz⟩, letW_intro fun w30 hw30 => ?_⟩
  -- the new body
  rw [← insCells_pad] at o21
  have hg21 : w.heap.size < w21.heap.size := (o21.lt w.heap.size rfl).2
  have I21 : InsRow w21 w.heap.size ((P.fn i).nI + 1) (padI (P.fn i).nI (P.fn i).ins) := by
    rw [hn]
    refine InsRow.of (fun j u hj => ?_) (fun j => ?_)
    · have := o21.cells (g := w.heap.size) rfl j u hj
      rwa [add_mk, Nat.zero_add] at this
    · rcases o21.2 with ⟨q, _⟩ | ⟨g, cap, cur, q, _, hh, _⟩
      · cases q
      · injection q with q1 _ _
        injection q1 with q1
        injection q1 with q1 _ _
        subst q1
        simp [World.frozen?, hh]
  have HH : HM w21 w21 L mb m P := ⟨H21.modAt, H21.minv, H.lm, Same.refl _ _ _⟩
  have hL : L < w.heap.size := by omega
  have hw30' : w30 = w21.setCell ⟨fb, i * 4 + 2, none⟩ (.slice (some ⟨w.heap.size, 0, none⟩) ((P.fn i).nI + 1) ((P.fn i).nI + 1)) := by rw [hw30, hn]
  obtain ⟨H30, _, S30⟩ := padM (k := i) HH hi n1 c2'' I21 hL hg21 (by omega) hw30'
  have V21 : ∃ o k, VAt w21 vb o k := by obtain ⟨o, k, v⟩ := V; exact ⟨o, k, v.keep S21⟩
  have V30 : ∃ o k, VAt w30 vb o k := by obtain ⟨o, k, v⟩ := V21; exact ⟨o, k, v.same S30 v.lt (by simp; omega)⟩
  refine RunsQ.post (Validate_spec H30 (padP_pb B hi n2 n1) V30 lv) ?_
  rintro v w32 ⟨rfl, V32, S32⟩
  rw [valid_pad n1 hv]
  have H32 := H30.at1 S32 lv
  obtain ⟨a3, c3, _⟩ := H32.fn
  refine ⟨_, _, _, rfl, cond_true' rfl ⟨_, _, _, c3, cond_true' (by show ((P.nf : Int) == ((padP P i).nf : Int)) = true; exact beq_self_eq_true _) ?_⟩⟩
  refine ⟨rfl, V32, fb, hf1, ?_⟩
  have a21 : Same [vb, fb] w.heap.size w w21 := S21.mono (Nat.le_refl _) (by simp)
  have a30 := a21.trans (S30.mono a21.size (fun k hk _ => by simp at hk ⊢; omega))
  exact a30.trans (S32.mono a30.size (fun k hk _ => by simp at hk ⊢; omega))
end
end Go.Proofs.Qxb6500322a
