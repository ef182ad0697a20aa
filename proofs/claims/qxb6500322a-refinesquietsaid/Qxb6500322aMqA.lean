/-
  The model of the validator: Validate.
-/
import Derived.Test.Qxb6500322aMpA
set_option linter.unusedSimpArgs false
set_option linter.unusedVariables false
set_option maxRecDepth 100000
set_option linter.unusedSectionVars false
namespace Go.Proofs.Qxb6500322a
open Go Go.Vc

section
variable {wd w : World} {L mb : Nat} {m : Nat → Value} {P : PM}
/-- One body, by the model. -/
theorem mbody {wc wl : World} {cb lb fb i : Nat} (H : HM wd w L mb m P) (W : WFP P) (hi : i < P.nf) (ht : (P.fn i).ty < (P.nTy : Int)) (row : ∀ w', HM wd w' L mb m P → FnRow w' (L + 1) fb P.nf P.nf P.fn)
    (hcb : cb = w.heap.size) (hwc : wc = w.alloc (.cells #[rp mb, .pointer (some ⟨fb, i * 4, none⟩), .string ((tyF P (P.fn i)).1 ++ strOfNums (P.fn i).ls), .string (tyF P (P.fn i)).2, .int .i64 0, .int .i64 0] T_validm_ck))
    (hlb : lb = wc.heap.size) (hwl : wl = wc.alloc (.cells #[.string (tyF P (P.fn i)).2] T_string)) :
    Runs Try.prog validm_ck_seq.id #[rp cb, .int .i64 0, .slice (some ⟨lb, 0, none⟩) 1 1, .string (tyF P (P.fn i)).2, .int .i64 0, .int .i64 7] wl (SPost P (tyF P (P.fn i)).1 (P.fn i) (bodyV P (P.fn i)) wl cb ⟨2, fstT (tyF P (P.fn i)).2, 0, false⟩ [] [] (P.fn i).nI) ∧
    MC wd wl wl L mb m P cb fb i (tyF P (P.fn i)).1 lb [⟨2, fstT (tyF P (P.fn i)).2, 0, false⟩] ∧ Same [] w.heap.size w wl := by
  obtain ⟨v1, v2⟩ := tyF_vals W hi ht
  have hq := resS_fst v2
  have gt := fstT_gt v2
  have S1 : Same [] w.heap.size w wc := by rw [hwc]; exact (Same.refl _ _ _).alloc (Nat.le_refl _) _
  have z1 : wc.heap.size = w.heap.size + 1 := by rw [hwc]; simp
  have S2 : Same [] wc.heap.size wc wl := by rw [hwl]; exact (Same.refl _ _ _).alloc (Nat.le_refl _) _
  have z2 : wl.heap.size = wc.heap.size + 1 := by rw [hwl]; simp
  have T : Same [] w.heap.size w wl := S1.trans (S2.mono (by omega) (by simp))
  have cc : ∀ j, wl.cell? ⟨cb, j, none⟩ = (#[rp mb, .pointer (some ⟨fb, i * 4, none⟩), .string ((tyF P (P.fn i)).1 ++ strOfNums (P.fn i).ls), .string (tyF P (P.fn i)).2, .int .i64 0, .int .i64 0] : Array Value)[j]? := fun j => by
    rw [S2.cell (p := ⟨cb, j, none⟩) (show cb < wc.heap.size by omega) (by simp), hwc, hcb, World.cell?_alloc_new]
  have cf : ∀ j, wl.frozen? ⟨cb, j, none⟩ = false := fun j => by
    rw [S2.frozen (p := ⟨cb, j, none⟩) (show cb < wc.heap.size by omega) (by simp), hwc, hcb, World.frozen?_alloc_new]
  have cl : wl.cell? ⟨lb, 0, none⟩ = some (.string (tyF P (P.fn i)).2) := by rw [hwl, hlb, World.cell?_alloc_new]; rfl
  have hsz := H.size
  have C : MC wd wl wl L mb m P cb fb i (tyF P (P.fn i)).1 lb [⟨2, fstT (tyF P (P.fn i)).2, 0, false⟩] := by
    refine ⟨H.keep T, W, hi, row, cc 0, cc 1, cc 2, ?_, cc 4, ⟨_, cc 5⟩, cf, fun j x hx => ?_, by omega, by omega, by omega, Same.refl _ _ _, by omega, v1, fun g hg => ?_⟩
    · show wl.cell? ⟨cb, 3, none⟩ = some (.string (resS (fstT (tyF P (P.fn i)).2)))
      rw [hq]; exact cc 3
    · have hj := (List.getElem?_eq_some_iff.1 hx).1
      have : j = 0 := by simp at hj; omega
      subst this
      have hx : some (⟨2, fstT (tyF P (P.fn i)).2, 0, false⟩ : Fr) = some x := hx
      cases hx
      show wl.cell? ⟨lb, 0, none⟩ = some (.string (resS (labF ⟨2, fstT (tyF P (P.fn i)).2, 0, false⟩)))
      have : labF ⟨2, fstT (tyF P (P.fn i)).2, 0, false⟩ = fstT (tyF P (P.fn i)).2 := rfl
      rw [this, hq]; exact cl
    · rw [List.mem_singleton] at hg; rw [hg]; exact gt
  refine ⟨?_, C, T⟩
  have wf := (W.fn i hi).go
  have D : MH (P.fn i) (P.fn i).nI 0 ⟨#[]⟩ [] [] ⟨2, fstT (tyF P (P.fn i)).2, 0, false⟩ [] (fun _ => false) 0 := ⟨by omega, MS.nil [], rfl, by simp, fun x hx => (by cases hx), wf, fun j g hg hm => (by cases hm), by simp⟩
  have hh := heads (P.fn i).nI (P.fn i).nI (Nat.le_refl _) wl wl 0 ⟨#[]⟩ [] [] ⟨2, fstT (tyF P (P.fn i)).2, 0, false⟩ [] (fun _ => false) 0 lb (bodyV P (P.fn i)) (P.fn i).nI (Nat.le_refl _) C D rfl
  have := seq_run C hh rfl
  have e1 : resS (⟨2, fstT (tyF P (P.fn i)).2, 0, false⟩ : Fr).res = (tyF P (P.fn i)).2 := hq
  rw [e1] at this
  exact this

def MOk (w : World) (z : Int × Int × Int) : Value → World → Prop := fun v w' => v = .tuple #[.int .i64 z.1, .int .i64 z.2.1, .int .i64 z.2.2] ∧ Same [] w.heap.size w w'
theorem mValidate_nil (a : Value) (x : Option Addr) (ha : a = .pointer x) (w : World) : Runs Try.prog validm_Valid_Validate.id #[a, .pointer none] w (MOk w (-1, 0, 32)) := by
  subst ha
  refine validm_Valid_Validate.enter _ _ _ _ _ ?_
  unfold validm_Valid_Validate.V
  exact cond_true' rfl ⟨rfl, Same.refl _ _ _⟩

theorem mValidate_spec (H : HM wd w L mb m P) (W : WFP P) (x : Option Addr) : Runs Try.prog validm_Valid_Validate.id #[.pointer x, rp mb] w (MOk w (validV P)) := by
  have B := W.pb
  have bf := B.nf
  refine validm_Valid_Validate.enter _ _ _ _ _ ?_
  unfold validm_Valid_Validate.V
  refine cond_false' rfl (RunsQ.post (mparts_spec H W) ?_)
  rintro v w4 ⟨rfl, S4⟩
  have H4 := H.keep S4
  unfold validV
  refine ⟨_, _, rfl, cond_intro (fun h => ?_) (fun h => ?_)⟩
  · rw [if_neg (show ¬ (partsV P).2 = 0 by simpa using h)]
    exact ⟨rfl, S4⟩
  have h0 : (partsV P).2 = 0 := by simpa using h
  rw [if_pos h0]
  suffices h : ∀ (n j : Nat) (w1 : World), j + n = P.nf → HM wd w1 L mb m P → Same [] w.heap.size w w1 → validm_Valid_Validate.L1 (some ⟨mb, 0, none⟩) (j : Int) (MOk w (fnsV P n j)) (fun _ _ => False) w1 from h P.nf 0 w4 (by omega) H4 S4
  intro n
  induction n with
  | zero =>
    intro j w1 hj H1 S1
    refine validm_Valid_Validate.step1 _ _ _ _ _ ?_
    unfold validm_Valid_Validate.V1
    obtain ⟨a, c2, _⟩ := H1.fn
    simp only [true_and, nilV_some, Nat.zero_add]
    exact ⟨_, _, _, c2, cond_false' (decide_eq_false (by omega)) ⟨_, _, _, c2, rfl, S1⟩⟩
  | succ n ih =>
    intro j w1 hj H1 S1
    have hjf : j < P.nf := by omega
    have htj := fn_typed h0 hjf
    have hB := B.fn j hjf
    have t0 := hB.t0
    obtain ⟨t, et⟩ := Int.eq_ofNat_of_zero_le t0
    have htb := (B.ty t (by omega)).1
    have hty : tyF P (P.fn j) = splitP (P.ty t) := by unfold tyF; rw [et]; rfl
    obtain ⟨fb, row, c2⟩ := H1.row (by omega)
    have D1 := H1.drew
    obtain ⟨a0, ct0, hr⟩ := D1.ty
    obtain ⟨tb, rfl, row0⟩ := hr (by omega)
    have e0 := (row _ D1).c0 j hjf
    rw [et] at e0
    refine validm_Valid_Validate.step1 _ _ _ _ _ ?_
    unfold validm_Valid_Validate.V1
    simp only [true_and, nilV_some, Nat.zero_add]
    refine ⟨_, _, _, c2 w1 H1, cond_true' (decide_eq_true (by omega)) ⟨_, _, _, ct0, _, _, _, c2 _ D1, ⟨by omega, by omega⟩, ?_⟩⟩
    simp only [nilV_some, add_mk, Int.toNat_natCast, Nat.zero_add]
    refine ⟨_, e0, ⟨by omega, by omega⟩, ?_⟩
    simp only [nilV_some, add_mk, Int.toNat_natCast, Nat.zero_add, Nat.mul_one]
    refine ⟨_, row0 t (by omega), RunsQ.post (Split_spec (P.ty t) htb w1.drew) ?_⟩
    rintro v w18 ⟨rfl, S18⟩
    have D2 := (D1.keep S18).drew
    have S18' : Same [] w.heap.size w w18.drew := (S1.drew.trans (S18.mono S1.size (by simp))).drew
    refine ⟨_, _, rfl, _, _, _, c2 _ D2, ⟨by omega, by omega⟩, ?_⟩
    simp only [nilV_some, add_mk, Int.toNat_natCast, Nat.zero_add]
    refine ⟨_, _, _, c2 _ D2, ⟨by omega, by omega⟩, ?_⟩
    simp only [nilV_some, add_mk, Int.toNat_natCast, Nat.zero_add]
    refine ⟨_, (row _ D2).c1 j hjf, ?_, letB_intro fun b32 hb32 => letW_intro fun w33 hw33 => letB_intro fun b34 hb34 => letW_intro fun w35 hw35 => ?_⟩
    · have := hB.ls
      have := (splitF_size (P.ty t) (P.ty t).size 0).1
      have e : (splitP (P.ty t)).1 = (splitF (P.ty t) (P.ty t).size 0).1 := rfl
      rw [e]; omega
    rw [← hty] at hw33 hw35 ⊢
    obtain ⟨run, C, T35⟩ := mbody D2 W hjf htj row hb32 hw33 hb34 hw35
    have T : Same [] w.heap.size w w35 := S18'.trans (T35.mono S18'.size (by simp))
    have hcb : w18.heap.size ≤ b32 := by rw [hb32]; exact Nat.le_refl _
    have hbig : w.heap.size ≤ b32 := Nat.le_trans S18'.size (by rw [hb32]; exact Nat.le_refl _)
    clear hw33 hw35
    rw [fnsV_succ]
    refine RunsQ.post run ?_
    rintro v w37 (⟨S37, ⟨xa, xc, rfl⟩, E⟩ | ⟨S37, n', pc', o', f', may', u', rfl, hcl, hz, hpn, hnn, hst, hf1, hf2, hf3, hca, hwf, hmo⟩)
    · obtain ⟨q1, q2, q3⟩ := E
      refine ⟨_, _, rfl, _, q2, cond_false' (beq_eq_false_iff_ne.2 q1) ?_⟩
      refine validm_Valid_Validate.step2 _ _ _ _ _ _ _ _ ?_
      unfold validm_Valid_Validate.V2
      refine cond_false' rfl ?_
      refine validm_Valid_Validate.step3 _ _ _ _ _ _ ?_
      unfold validm_Valid_Validate.V3
      simp only [true_and, nilV_some, Nat.zero_add]
      refine ⟨_, q2, cond_true' (bne_iff_ne.2 q1) ⟨_, q3, _, q2, ?_, ?_⟩⟩
      · rw [if_neg q1]
      · exact (T.trans (S37.mono T.size (fun k hk hl => by simp at hk; omega))).drew
    · rcases hcl with h5 | h11
      · exfalso
        rw [wfGo_succ, if_neg (by omega), if_neg (by omega), if_pos h5] at hwf
        exact hwf.2.1 rfl
      · rw [wfGo_succ, if_neg (by omega), if_neg (by omega), if_neg (by omega), if_pos h11, if_pos (show ([] : List Fr).length = 0 from rfl)] at hwf
        obtain ⟨_, hlast, _⟩ := hwf
        have hz0 : (bodyV P (P.fn j)).2.1 = 0 := by
          rw [hz, runV_cont]
          have : stepV P (tyF P (P.fn j)).1 (P.fn j) ((P.fn j).ins pc') pc' o' f' [] = .done 0 0 (carO f'.res f' o') [] := by
            unfold stepV
            rw [if_neg (by omega), if_neg (by omega), if_neg (by omega), if_neg (by omega), if_pos h11]
            unfold endV
            rw [if_pos hst, if_neg (fun e => by rw [hf1] at e; exact absurd e.1 (show ¬ ((2 : Int) = 4) by decide)), if_pos (show ([] : List Fr).length = 0 from rfl), if_pos (by omega)]
          rw [this]; rfl
        rw [if_pos hz0]
        have C37 := C.keep S37
        obtain ⟨nb, b1, _⟩ := (row _ C37.H).c2 j hjf
        refine ⟨_, _, rfl, _, C37.c4, cond_true' rfl (cond_false' (by rw [h11]; rfl) ⟨_, C37.c1, ?_⟩)⟩
        rw [nilV_some]
        refine ⟨_, _, _, b1, ?_⟩
        have : (((pc' + 1 : Nat) : Int) != (((P.fn j).nI : Nat) : Int)) = false := by rw [hlast]; simp
        rw [this]
        refine validm_Valid_Validate.step2 _ _ _ _ _ _ _ _ ?_
        unfold validm_Valid_Validate.V2
        refine cond_false' rfl ?_
        refine validm_Valid_Validate.step3 _ _ _ _ _ _ ?_
        unfold validm_Valid_Validate.V3
        simp only [true_and, nilV_some, Nat.zero_add]
        refine ⟨_, C37.c4, cond_false' rfl ?_⟩
        rw [sc j (by omega)]
        exact ih (j + 1) w37 (by omega) C37.H (T.trans (S37.mono T.size (by simp)))
end

/-! ### A module that is another's equal -/
section
variable {w : World} {lo : Nat} {m : Nat → Value} {P Q : PM}
theorem SlF.eqv [OutOf] {α : Type} {enc : α → List Value} {sz : Nat} {v : Value} {n n' : Nat} {f g : Nat → α} (h : SlF enc sz w lo v n f) (hn : n' = n) (hg : ∀ j, j < n → g j = f j) : SlF enc sz w lo v n' g := by
  subst hn
  rcases h with h | ⟨h0, b, h1, h2, h3, h4⟩
  · exact .inl h
  · exact .inr ⟨h0, b, h1, ⟨fun j hj k u hk => h2.c j hj k u (by rw [← hg j hj]; exact hk), h2.f⟩, h3, h4⟩
theorem MInv.eqv [OutOf] (h : MInv w lo m P) (E : PEq P Q) : MInv w lo m Q := by
  refine ⟨h.t0.eqv E.nTy E.ty, h.i1.eqv E.nIm E.im, ?_, by rw [E.t0]; exact h.v3, by rw [E.t1]; exact h.v4, by rw [E.m0]; exact h.v5, by rw [E.m1]; exact h.v6, h.g7.eqv E.gn E.g, h.e8.eqv E.nEx E.ex, by rw [E.start]; exact h.s9, ?_, h.d11.eqv E.nD E.da⟩
  · rw [E.nf]
    rcases h.f2 with h | ⟨h0, b, h1, h2, h3, h4⟩
    · exact .inl h
    · refine .inr ⟨h0, b, h1, ⟨h2.c, h2.f, fun j hj => by rw [(E.fn j hj).ty]; exact h2.c0 j hj, fun j hj => by rw [(E.fn j hj).ls]; exact h2.c1 j hj, fun j hj => ?_, fun j hj => ?_, h2.c4⟩, h3, h4⟩
      · obtain ⟨nb, a1, a2, a3⟩ := h2.c2 j hj
        have q := E.fn j hj
        refine ⟨nb, by rw [q.nI]; exact a1, ?_, a3⟩
        rw [q.nI]
        exact ⟨fun k hk => by rw [q.ins k hk]; exact a2.i0 k hk, fun k hk => by rw [q.ins k hk]; exact a2.i1 k hk, fun k hk => by rw [q.ins k hk]; exact a2.i2 k hk, a2.fz⟩
      · have q := E.fn j hj
        rw [q.nT]
        rcases h2.c3 j hj with a | ⟨a0, tk, a1, a2, a3⟩
        · exact .inl a
        · exact .inr ⟨a0, tk, a1, ⟨fun k hk => by rw [q.tabs k hk]; exact a2.1 k hk, a2.2⟩, a3⟩
  · rw [E.nEl]
    rcases h.l10 with h | ⟨h0, b, h1, ⟨fr, h2, h2'⟩, h3, h4⟩
    · exact .inl h
    · refine .inr ⟨h0, b, h1, ⟨fr, h2, fun j hj => ?_⟩, h3, h4⟩
      obtain ⟨a1, a2, a3⟩ := h2' j hj
      obtain ⟨q1, q2, q3⟩ := E.el j hj
      exact ⟨by rw [q1]; exact a1, a2.eqv q2 q3, a3⟩
theorem PEq.symm (E : PEq P Q) : PEq Q P :=
  ⟨E.nTy.symm, fun j hj => (E.ty j (by rw [← E.nTy]; exact hj)).symm, E.nIm.symm, fun j hj => (E.im j (by rw [← E.nIm]; exact hj)).symm, E.nf.symm,
   fun j hj => by
     have q := E.fn j (by rw [← E.nf]; exact hj)
     exact ⟨q.ty.symm, q.ls.symm, q.nI.symm, fun k hk => (q.ins k (by rw [← q.nI]; exact hk)).symm, q.nT.symm, fun k hk => (q.tabs k (by rw [← q.nT]; exact hk)).symm⟩,
   E.t0.symm, E.t1.symm, E.m0.symm, E.m1.symm, E.gn.symm, fun j hj => (E.g j (by rw [← E.gn]; exact hj)).symm, E.nEx.symm, fun j hj => (E.ex j (by rw [← E.nEx]; exact hj)).symm, E.start.symm, E.nEl.symm,
   fun j hj => by
     obtain ⟨q1, q2, q3⟩ := E.el j (by rw [← E.nEl]; exact hj)
     exact ⟨q1.symm, q2.symm, fun k hk => (q3 k (by rw [← q2]; exact hk)).symm⟩,
   E.nD.symm, fun j hj => (E.da j (by rw [← E.nD]; exact hj)).symm⟩
theorem HM.eqv {wd : World} {L mb : Nat} (h : HM wd w L mb m P) (E : PEq P Q) : HM wd w L mb m Q := by
  haveI := outNil
  exact ⟨h.md, h.inv.eqv E, h.lm, h.st⟩
end
end Go.Proofs.Qxb6500322a
