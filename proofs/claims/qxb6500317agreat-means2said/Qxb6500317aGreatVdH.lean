/-
  The validator whole.
-/
import Derived.Test.Qxb6500317aGreatVdG
set_option linter.unusedSimpArgs false
set_option linter.unusedVariables false
set_option maxRecDepth 100000
set_option linter.unusedSectionVars false
namespace Go.Proofs.Qxb6500317aGreat
open Go Go.Vc

/-! ### The floors -/
def Floors : Nat → List Fr → Prop
  | _, [] => True
  | h, f :: r => f.fl ≤ h ∧ Floors f.fl r
theorem Floors.up {h h' : Nat} {k : List Fr} (hk : Floors h k) (hh : h ≤ h') : Floors h' k := by
  cases k with
  | nil => trivial
  | cons f r => exact ⟨Nat.le_trans hk.1 hh, hk.2⟩
def SROk : SR → Prop
  | .next o k => Floors o.length k ∧ k ≠ []
  | .done _ _ o k => Floors o.length k
section
variable {P : PM} {ps : ByteArray} {fn : FnP} {x : Ins} {pc : Int} {o : List Int} {f : Fr} {r : List Fr}
theorem give_ok (pc g : Int) {o : List Int} {k : List Fr} (h : Floors o.length k) (hk : k ≠ []) : SROk (giveV pc g o k) := by
  unfold giveV
  split
  · exact ⟨h, hk⟩
  · split
    · exact ⟨h.up (by simp), hk⟩
    · exact h
theorem step_ok (h : Floors o.length (f :: r)) : SROk (stepV P ps fn x pc o f r) := by
  have hf := h.1
  have cr : ∀ t, Floors (carO t f o).length (f :: r) := fun t => ⟨(carO_len t f o hf).1, h.2⟩
  have cu : ∀ o' : List Int, f.fl ≤ o'.length → Floors (cutO f o').length (f.kill :: r) := fun o' ho => by
    rw [cutO_len f o' ho]; exact ⟨Nat.le_refl _, h.2⟩
  have ne : ∀ (a : Fr) (b : List Fr), a :: b ≠ [] := fun a b => List.cons_ne_nil _ _
  have opn : ∀ (o' : List Int), Floors o'.length (f :: r) → SROk (opnV x pc o' f r) := fun o' ho => by
    unfold opnV
    split
    · exact ho
    · exact ⟨⟨Nat.le_refl _, ho⟩, ne _ _⟩
  unfold stepV
  split
  · exact ⟨h, ne _ _⟩
  split
  · exact ⟨cu o hf, ne _ _⟩
  split
  · unfold blkV
    split
    · split
      · exact opn _ (cr 127)
      · exact cr 127
    · exact opn _ h
  split
  · unfold elsV
    split
    · split
      · exact cr _
      · split
        · exact ⟨⟨(carO_len f.res f o hf).1, h.2⟩, ne _ _⟩
        · exact cr _
    · exact cr _
  split
  · unfold endV
    have hr : Floors (carO f.res f o).length r := h.2.up (carO_len f.res f o hf).1
    split
    · split
      · exact cr _
      · split
        · split
          · exact hr
          · exact hr
        · rename_i g
          exact give_ok _ _ hr (fun e => g (by rw [e]; rfl))
    · exact cr _
  split
  · unfold brV
    split
    · exact h
    · split
      · exact ⟨cu _ (carO_len _ f o hf).1, ne _ _⟩
      · exact cr _
  split
  · unfold brifV
    have c2 : ∀ t, Floors (carO t f (carO 127 f o)).length (f :: r) := fun t => ⟨(carO_len t f _ (carO_len 127 f o hf).1).1, h.2⟩
    split
    · split
      · exact cr _
      · split
        · exact give_ok _ _ (c2 _) (ne _ _)
        · exact c2 _
    · exact cr _
  split
  · unfold tabV
    split
    · split
      · exact cr _
      · split
        · exact cr _
        · split
          · exact ⟨cu _ (carO_len _ f o hf).1, ne _ _⟩
          · exact cr _
    · exact cr _
  split
  · unfold retV
    split
    · exact ⟨cu _ (carO_len _ f o hf).1, ne _ _⟩
    · exact cr _
  · unfold plnV
    have hp : Floors (plnP P ps (strOfNums fn.ls) x f o).2.2.length (f :: r) := ⟨(plnP_len ps (strOfNums fn.ls) x hf).1, h.2⟩
    split
    · exact give_ok _ _ hp (ne _ _)
    · exact hp
end

def runV (P : PM) (ps : ByteArray) (fn : FnP) : Nat → Nat → List Int → List Fr → Int × Int × List Int × List Fr
  | 0, _, o, k => (fn.nI, 11, o, k)
  | _ + 1, _, o, [] => (fn.nI, 11, o, [])
  | n + 1, pc, o, f :: r => match stepV P ps fn (fn.ins pc) pc o f r with
    | .done p e o k => (p, e, o, k)
    | .next o k => runV P ps fn n (pc + 1) o k
theorem runV_succ (P : PM) (ps : ByteArray) (fn : FnP) (n pc : Nat) (o : List Int) (f : Fr) (r : List Fr) : runV P ps fn (n + 1) pc o (f :: r) = match stepV P ps fn (fn.ins pc) pc o f r with
    | .done p e o k => (p, e, o, k)
    | .next o k => runV P ps fn n (pc + 1) o k := rfl
def tyF (P : PM) (fn : FnP) : ByteArray × ByteArray := splitP (P.ty fn.ty.toNat)
def bodyV (P : PM) (fn : FnP) : Int × Int × List Int × List Fr := runV P (tyF P fn).1 fn fn.nI 0 [] [⟨2, fstT (tyF P fn).2, 0, false⟩]
def fnsV (P : PM) : Nat → Nat → Int × Int × Int
  | 0, _ => (P.nf, 0, 0)
  | n + 1, k => if (bodyV P (P.fn k)).2.1 = 0 then fnsV P n (k + 1) else (k, (bodyV P (P.fn k)).1, (bodyV P (P.fn k)).2.1)
theorem fnsV_succ (P : PM) (n k : Nat) : fnsV P (n + 1) k = if (bodyV P (P.fn k)).2.1 = 0 then fnsV P n (k + 1) else ((k : Int), (bodyV P (P.fn k)).1, (bodyV P (P.fn k)).2.1) := rfl
def validV (P : PM) : Int × Int × Int := if (partsV P).2 = 0 then fnsV P P.nf 0 else (-1, (partsV P).1, (partsV P).2)

section
variable {wd w w' w0 : World} {L mb vb : Nat} {m : Nat → Value} {P : PM} {o : List Int} {k : List Fr} {i fb : Nat}
theorem run_walk (H0 : HM wd w0 L mb m P) (B : PB P) (lv : vb ≤ L) (ps : ByteArray) (hps : ps.size ≤ 1024) (hi : i < P.nf) (row : ∀ w', HM wd w' L mb m P → FnRow w' (L + 1) fb P.nf P.nf P.fn) :
    ∀ (n pc : Nat) (w : World) (o : List Int) (k : List Fr), pc + n = (P.fn i).nI → VAt w vb o k → Floors o.length k → k ≠ [] → Same [vb] w0.heap.size w0 w →
      valid_Valid_body.L1 (some ⟨vb, 0, none⟩) (some ⟨mb, 0, none⟩) (some ⟨fb, i * 4, none⟩) ps (pc : Int) (fun v w' => v = .tuple #[.int .i64 (runV P ps (P.fn i) n pc o k).1, .int .i64 (runV P ps (P.fn i) n pc o k).2.1] ∧ VAt w' vb (runV P ps (P.fn i) n pc o k).2.2.1 (runV P ps (P.fn i) n pc o k).2.2.2 ∧ Floors (runV P ps (P.fn i) n pc o k).2.2.1.length (runV P ps (P.fn i) n pc o k).2.2.2 ∧ Same [vb] w0.heap.size w0 w') (fun _ _ => False) w := by
  have hB := B.fn i hi
  have hI := hB.nI
  intro n
  induction n with
  | zero =>
    intro pc w o k hpc V F hk S
    have H := H0.at1 S lv
    refine valid_Valid_body.step1 _ _ _ _ _ _ _ _ ?_
    unfold valid_Valid_body.V1
    obtain ⟨nb, b1, _⟩ := (row w H).c2 i hi
    simp only [nilV_some]
    exact ⟨_, _, _, b1, cond_false' (decide_eq_false (by omega)) ⟨_, _, _, b1, rfl, V, F, S⟩⟩
  | succ n ih =>
    intro pc w o k hpc V F hk S
    have H := H0.at1 S lv
    cases k with
    | nil => exact absurd rfl hk
    | cons f r =>
      have ok : SROk (stepV P ps (P.fn i) ((P.fn i).ins pc) pc o f r) := step_ok F
      rw [runV_succ]
      have C : VC wd w L mb m P vb o f r := ⟨H, V, lv, F.1, B⟩
      refine step_walk C hps hi (by omega) S row (fun w' o' k' h1 h2 h3 => ?_) (fun w' p e o' k' h1 h2 h3 => ?_)
      · rw [h1] at ok ⊢
        have T : Same [vb] w0.heap.size w0 w' := h3
        refine valid_Valid_body.step4 _ _ _ _ _ _ _ _ ?_
        unfold valid_Valid_body.V4
        have e : IntKind.wrap .i64 ((pc : Int) + 1) = ((pc + 1 : Nat) : Int) := by rw [wrap_i64 (by omega) (by omega)]; omega
        rw [e]
        exact ih (pc + 1) w' o' k' (by omega) h2 ok.1 ok.2 h3
      · rw [h1] at ok ⊢
        exact ⟨rfl, h2, ok, h3⟩

theorem HM.row (H : HM wd w L mb m P) (h0 : P.nf ≠ 0) : ∃ fb, (∀ w', HM wd w' L mb m P → FnRow w' (L + 1) fb P.nf P.nf P.fn) ∧ ∀ w', HM wd w' L mb m P → w'.cell? ⟨mb, 2, none⟩ = some (.slice (some ⟨fb, 0, none⟩) P.nf P.nf) := by
  haveI := outNil
  rcases H.inv.f2 with ⟨g, _⟩ | ⟨_, fb, h1, h2, h3, h4⟩
  · exact absurd g h0
  · refine ⟨fb, fun w' H' => h2.same H'.st h4 (by rw [List.mem_range]; omega) (fun k hk => by rw [List.mem_range] at hk; omega), fun w' H' => ?_⟩
    rw [← h1]; exact H'.modAt.c 2 (by decide)

theorem vbody_spec (H : HM wd w L mb m P) (B : PB P) (V : VAt w vb o k) (lv : vb ≤ L) (hi : i < P.nf) (ht : (P.fn i).ty < (P.nTy : Int)) (row : ∀ w', HM wd w' L mb m P → FnRow w' (L + 1) fb P.nf P.nf P.fn) :
    Runs Tryz.prog valid_Valid_body.id #[rp vb, rp mb, .pointer (some ⟨fb, i * 4, none⟩)] w fun v w' => v = .tuple #[.int .i64 (bodyV P (P.fn i)).1, .int .i64 (bodyV P (P.fn i)).2.1] ∧ VAt w' vb (bodyV P (P.fn i)).2.2.1 (bodyV P (P.fn i)).2.2.2 ∧ Floors (bodyV P (P.fn i)).2.2.1.length (bodyV P (P.fn i)).2.2.2 ∧ Same [vb] w.heap.size w w' := by
  have hB := B.fn i hi
  have t0 := hB.t0
  obtain ⟨t, et⟩ := Int.eq_ofNat_of_zero_le t0
  have htb := (B.ty t (by omega)).1
  have hty : tyF P (P.fn i) = splitP (P.ty t) := by unfold tyF; rw [et]; rfl
  refine valid_Valid_body.enter _ _ _ _ _ _ ?_
  unfold valid_Valid_body.V
  simp only [true_and, nilV_some, Nat.zero_add, and_true]
  have HD := H.drew
  obtain ⟨a, c0, hr⟩ := HD.ty
  obtain ⟨tb, rfl, row0⟩ := hr (by omega)
  have c1 := (row _ HD).c0 i hi
  rw [et] at c1
  have ct := row0 t (by omega)
  refine ⟨⟨_, _, _, c0, _, c1, ⟨by omega, by omega⟩, ?_⟩, ⟨_, c1, _, _, _, c0, ⟨by omega, by omega⟩, ?_⟩⟩
  all_goals
    rw [nilV_some, add_mk, Int.toNat_natCast, Nat.mul_one, Nat.zero_add]
    refine ⟨_, ct, ?_⟩
    refine RunsQ.post (Split_spec (P.ty t) htb w.drew) ?_
    rintro v w1 ⟨rfl, S1⟩
    have V1 := V.drew.keep S1
    have S1' : Same [vb] w.heap.size w w1 := (Same.refl _ _ _).drew.trans (S1.mono (Nat.le_refl _) (by simp))
    refine ⟨_, _, rfl, V1.can 11 (by decide), letW_intro fun w2 hw2 => ?_⟩
    have V2 : VAt w2 vb [] k := by
      have := V1.cutTo 0 (Nat.zero_le _)
      rw [Nat.sub_zero, List.drop_length] at this
      rw [hw2]; exact this
    have S2 : Same [vb] w.heap.size w w2 := by rw [hw2]; exact S1'.setCell (.inr (by simp)) _
    clear hw2
    refine RunsQ.post (fstT_spec _ w2.drew) ?_
    rintro v w3 ⟨rfl, rfl⟩
    refine ⟨_, rfl, ⟨by decide, by decide⟩, ?_⟩
    have V3 := V2.drew
    -- the depth counts as none
    have e0 : Addr.add ⟨vb, 12, none⟩ (Int.toNat 0 * 4) = ⟨vb, 12, none⟩ := by rw [add_mk]; rfl
    rw [e0]
    refine putCells_intro vb _ 12 _ _ (fun j hj => V3.can _ (by have hj : j < 4 := hj; omega)) (fun w4 hF => ?_)
    have V5 : VAt (w4.setCell ⟨vb, 40, none⟩ (.int .i64 1)) vb [] [⟨2, fstT (tyF P (P.fn i)).2, 0, false⟩] := by
      rw [hty]
      exact V3.firstFr _ hF
    have c40 : w4.cell? ⟨vb, 40, none⟩ = some (.int .i64 ((k.length : Nat) : Int)) := by rw [hF.cell, if_neg (by simp)]; exact V3.d
    refine ⟨⟨⟨_, c40⟩, by rw [hF.frozen]; exact V3.f 40⟩, letW_intro fun w5 hw5 => ?_⟩
    rw [← hw5] at V5
    have S5 : Same [vb] w.heap.size w w5 := by rw [hw5]; exact (S2.drew.trans (hF.same _)).setCell (.inr (by simp)) _
    clear hw5
    have hp : (splitP (P.ty t)).1.size ≤ 1024 := Nat.le_trans (splitF_size _ _ 0).1 htb
    have := run_walk H B lv (tyF P (P.fn i)).1 (by rw [hty]; exact hp) hi row (P.fn i).nI 0 w5 [] [⟨2, fstT (tyF P (P.fn i)).2, 0, false⟩] (by omega) V5 ⟨Nat.zero_le _, trivial⟩ (List.cons_ne_nil _ _) S5
    rw [hty] at this
    unfold bodyV
    rw [hty]
    exact this

theorem tyRow_none : ∀ (n i : Nat), tyRow P n i = none → ∀ j, i ≤ j → j < i + n → (typeOf P (j : Int)).isSome = true
  | 0, i, _, j, h1, h2 => by omega
  | n + 1, i, h, j, h1, h2 => by
    rw [tyRow_succ] at h
    split at h
    · cases h
    · rename_i g
      by_cases e : j = i
      · subst e
        cases ht : typeOf P (j : Int) with
        | none => rw [ht] at g; exact absurd rfl g
        | some t => rfl
      · exact tyRow_none n (i + 1) h j (by omega) (by omega)
theorem parts_types (h : (partsV P).2 = 0) : tyRow P (P.nIm + P.nf) 0 = none := by
  unfold partsV at h
  cases ht : tyRow P (P.nIm + P.nf) 0 with
  | none => rfl
  | some e =>
    rw [ht] at h
    have : ∀ n i e, tyRow P n i = some e → e.2 = 14 := by
      intro n
      induction n with
      | zero => intro i e h; cases h
      | succ n ih =>
        intro i e h
        rw [tyRow_succ] at h
        split at h
        · cases h; rfl
        · exact ih _ _ h
    have := this _ _ _ ht
    have h : e.2 = 0 := h
    omega
theorem fn_typed (h : (partsV P).2 = 0) (hi : i < P.nf) : (P.fn i).ty < (P.nTy : Int) := by
  have := tyRow_none _ 0 (parts_types h) (P.nIm + i) (by omega) (by omega)
  unfold typeOf typeAt at this
  split at this
  · cases this
  · rename_i g
    unfold tyIdx at g
    rw [if_neg (by omega), if_pos (by omega)] at g
    have e : (((P.nIm + i : Nat) : Int) - (P.nIm : Int)).toNat = i := by omega
    rw [e] at g
    omega

/-- What Validate leaves. -/
def VOk (w : World) (vb : Nat) (z : Int × Int × Int) : Value → World → Prop := fun v w' => v = .tuple #[.int .i64 z.1, .int .i64 z.2.1, .int .i64 z.2.2] ∧ (∃ o k, VAt w' vb o k) ∧ Same [vb] w.heap.size w w'
theorem Validate_spec (H : HM wd w L mb m P) (B : PB P) (V : ∃ o k, VAt w vb o k) (lv : vb ≤ L) : Runs Tryz.prog valid_Valid_Validate.id #[rp vb, rp mb] w (VOk w vb (validV P)) := by
  refine valid_Valid_Validate.enter _ _ _ _ _ ?_
  unfold valid_Valid_Validate.V
  refine cond_false' rfl (RunsQ.post (parts_spec H B) ?_)
  rintro v w4 ⟨rfl, S4⟩
  have H4 := H.keep S4
  have S4' : Same [vb] w.heap.size w w4 := S4.mono (Nat.le_refl _) (by simp)
  have V4 : ∃ o k, VAt w4 vb o k := by obtain ⟨o, k, v⟩ := V; exact ⟨o, k, v.keep S4⟩
  unfold validV
  refine ⟨_, _, rfl, cond_intro (fun h => ?_) (fun h => ?_)⟩
  · rw [if_neg (show ¬ (partsV P).2 = 0 by simpa using h)]
    exact ⟨rfl, V4, S4'⟩
  have h0 : (partsV P).2 = 0 := by simpa using h
  rw [if_pos h0]
  have bf := B.nf
  suffices h : ∀ (n j : Nat) (w1 : World), j + n = P.nf → HM wd w1 L mb m P → (∃ o k, VAt w1 vb o k) → Same [vb] w.heap.size w w1 → valid_Valid_Validate.L1 (some ⟨vb, 0, none⟩) (some ⟨mb, 0, none⟩) (j : Int) (VOk w vb (fnsV P n j)) (fun _ _ => False) w1 from h P.nf 0 w4 (by omega) H4 V4 S4'
  intro n
  induction n with
  | zero =>
    intro j w1 hj H1 V1 S1
    refine valid_Valid_Validate.step1 _ _ _ _ _ _ ?_
    unfold valid_Valid_Validate.V1
    obtain ⟨a, c2, _⟩ := H1.fn
    simp only [nilV_some, Nat.zero_add]
    exact ⟨_, _, _, c2, cond_false' (decide_eq_false (by omega)) ⟨_, _, _, c2, rfl, V1, S1⟩⟩
  | succ n ih =>
    intro j w1 hj H1 V1 S1
    refine valid_Valid_Validate.step1 _ _ _ _ _ _ ?_
    unfold valid_Valid_Validate.V1
    obtain ⟨fb, row, c2⟩ := H1.row (by omega)
    obtain ⟨o, k, V1⟩ := V1
    rw [fnsV_succ]
    simp only [nilV_some, Nat.zero_add]
    refine ⟨_, _, _, c2 w1 H1, cond_true' (decide_eq_true (by omega)) ⟨_, _, _, c2 w1 H1, ⟨by omega, by omega⟩, ?_⟩⟩
    rw [nilV_some, add_mk, Int.toNat_natCast, Nat.zero_add]
    refine RunsQ.post (vbody_spec H1 B V1 lv (i := j) (by omega) (fn_typed h0 (by omega)) row) ?_
    rintro v w2 ⟨rfl, V2, _, S2⟩
    have T2 := S1.trans (S2.mono S1.size (by simp))
    refine ⟨_, _, rfl, cond_intro (fun h => ?_) (fun h => ?_)⟩
    · rw [if_neg (show ¬ (bodyV P (P.fn j)).2.1 = 0 by simpa using h)]
      exact ⟨rfl, ⟨_, _, V2⟩, T2⟩
    rw [if_pos (show (bodyV P (P.fn j)).2.1 = 0 by simpa using h)]
    have e : IntKind.wrap .i64 ((j : Int) + 1) = ((j + 1 : Nat) : Int) := by rw [wrap_i64 (by omega) (by omega)]; omega
    rw [e]
    exact ih (j + 1) w2 (by omega) (H1.at1 S2 lv) ⟨_, _, V2⟩ T2
theorem Validate_nil (V : ∃ o k, VAt w vb o k) : Runs Tryz.prog valid_Valid_Validate.id #[rp vb, .pointer none] w (VOk w vb (-1, 0, 32)) := by
  refine valid_Valid_Validate.enter _ _ _ _ _ ?_
  unfold valid_Valid_Validate.V
  exact cond_true' rfl ⟨rfl, V, Same.refl _ _ _⟩
theorem vnew_at {w w2 : World} {cs : Array Value} {t : TypeId} (hw : w2 = w.alloc (.cells cs t)) (j : Nat) : w2.cell? ⟨w.heap.size, j, none⟩ = cs[j]? := by
  rw [hw, World.cell?_alloc_new]
theorem VNew_spec (w : World) : Runs Tryz.prog valid_New.id #[] w fun v w' => ∃ vb, v = rp vb ∧ VAt w' vb [] [] ∧ Same [] w.heap.size w w' ∧ w.heap.size ≤ vb := by
  refine valid_New.enter _ _ _ ?_
  unfold valid_New.V
  refine letB_intro fun b1 hb => letW_intro fun w2 hw => ?_
  subst hb
  have N : ∀ {α : Type} {j : Nat} {y : α}, ([] : List α).reverse[j]? = some y → False := fun {α j y} e => by simp at e
  refine ⟨w.heap.size, rfl, ⟨fun j hj => ⟨_, (vnew_at hw j).trans (Array.getElem?_eq_getElem hj)⟩, fun j => by rw [hw, World.frozen?_alloc_new], fun j x e => (N e).elim, vnew_at hw 11, fun j x e => (N e).elim, fun j x e => (N e).elim, fun j x e => (N e).elim, fun j x e => (N e).elim, vnew_at hw 40, ⟨0, vnew_at hw 41, by simp, by decide⟩, by simp, by simp⟩, ?_, Nat.le_refl _⟩
  rw [hw]; exact (Same.refl _ _ _).alloc (Nat.le_refl _) _
end
end Go.Proofs.Qxb6500317aGreat
