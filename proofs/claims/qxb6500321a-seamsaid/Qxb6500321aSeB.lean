/-
  What the validator takes, the compiler takes: a body, a module.
-/
import Derived.Test.Qxb6500321aSeA
set_option linter.unusedSimpArgs false
set_option linter.unusedVariables false
set_option maxRecDepth 100000
set_option linter.unusedSectionVars false
namespace Go.Proofs.Qxb6500321a
open Go Go.Vc

/-- A block of the validator's and one of the compiler's. -/
structure FV (g : Fr) (s : SF) : Prop where
  fl : g.fl = s.fl
  ar : s.ar = if g.res = 64 then 0 else 1
  cn : g.op = 4 → s.cn = true
  b : s.fl ≤ 10
/-- The validator's stacks and the compiler's machine. -/
structure VS (S : SS) (o : List Int) (k : List Fr) : Prop where
  g : VG o k
  h10 : S.h ≤ 10
  fr : ∃ ex k0, k = ex ++ k0 ∧ ex.length = S.dead - 1 ∧ k0.length = S.fs.length ∧ (∀ (t : Nat) (a : Fr) (s : SF), k0[t]? = some a → S.fs[t]? = some s → FV a s) ∧
    (∀ (t : Nat) (a : Fr), k0[t]? = some a → a.dead = decide (t = 0 ∧ S.dead ≠ 0))
  ln : S.dead = 0 → o.length = S.h
  ne : S.fs.length ≠ 0

section
variable {P : PM} {ps : ByteArray} {fn : FnP} {S : SS} {o : List Int} {f : Fr} {r : List Fr}
theorem settled (hd : f.dead = false) (hf : f.fl ≤ o.length) (h : setl f o = true) : o.length = f.fl + (if f.res = 64 then 0 else 1) := by
  unfold setl at h
  rw [Bool.and_eq_true] at h
  obtain ⟨h1, h2⟩ := h
  have h2 := of_decide_eq_true h2
  by_cases e : f.res = 64
  · rw [if_pos e]
    unfold carO at h2
    rw [if_pos e] at h2
    omega
  · rw [if_neg e]
    have := car_live hd hf e h1
    omega
theorem settled_len (h : setl f o = true) : (carO f.res f o).length = f.fl := by
  unfold setl at h
  rw [Bool.and_eq_true] at h
  exact of_decide_eq_true h.2

/-- The live case. -/
theorem VS.live (V : VS S o (f :: r)) (h0 : S.dead = 0) : ∃ s q, S.fs = s :: q ∧ q.length = r.length ∧ FV f s ∧ f.dead = false ∧ (∀ (t : Nat) (a : Fr) (s : SF), (f :: r)[t]? = some a → S.fs[t]? = some s → FV a s) ∧ (∀ (t : Nat) (a : Fr), (f :: r)[t]? = some a → a.dead = false) := by
  obtain ⟨ex, k0, e1, e2, e3, e4, e5⟩ := V.fr
  have hex : ex = [] := List.length_eq_zero_iff.1 (by omega)
  rw [hex, List.nil_append] at e1
  subst e1
  have hd : ∀ (t : Nat) (a : Fr), (f :: r)[t]? = some a → a.dead = false := fun t a ha => by
    rw [e5 t a ha]; exact decide_eq_false (fun q => q.2 h0)
  cases hS : S.fs with
  | nil => rw [hS] at e3; simp at e3
  | cons s q =>
    rw [hS] at e3
    exact ⟨s, q, rfl, by simpa using e3.symm, e4 0 f s rfl (by rw [hS]; rfl), hd 0 f rfl, by rw [hS] at e4; exact e4, hd⟩
/-- The machine goes on, the blocks as they were. -/
theorem VS.mk0 {o' : List Int} {A : List SC} {h' : Nat} {k' : List Fr} {en el : Nat → Option Nat} {fs' : List SF} (g : VG o' k') (h10 : h' ≤ 10) (hl : o'.length = h') (hk : k'.length = fs'.length) (hF : ∀ (t : Nat) (a : Fr) (s : SF), k'[t]? = some a → fs'[t]? = some s → FV a s)
    (hd : ∀ (t : Nat) (a : Fr), k'[t]? = some a → a.dead = false) (hne : fs'.length ≠ 0) : VS ⟨A, fs', h', 0, en, el⟩ o' k' :=
  ⟨g, h10, ⟨[], k', rfl, rfl, hk, hF, fun t a ha => by rw [hd t a ha]; exact (decide_eq_false (fun q => q.2 rfl)).symm⟩, fun _ => hl, hne⟩
/-- The code dies. -/
theorem VS.mk1 {o' : List Int} {A : List SC} {h' : Nat} {en el : Nat → Option Nat} {fs' : List SF} (g : VG o' (f.kill :: r)) (h10 : h' ≤ 10) (hk : (f :: r).length = fs'.length) (hF : ∀ (t : Nat) (a : Fr) (s : SF), (f :: r)[t]? = some a → fs'[t]? = some s → FV a s)
    (hd : ∀ (t : Nat) (a : Fr), (f :: r)[t]? = some a → a.dead = false) : VS ⟨A, fs', h', 1, en, el⟩ o' (f.kill :: r) := by
  refine ⟨g, h10, ⟨[], f.kill :: r, rfl, rfl, hk, fun t a s ha hs => ?_, fun t a ha => ?_⟩, (fun q => by cases q), by show fs'.length ≠ 0; rw [← hk]; simp⟩
  · cases t with
    | zero =>
      have ha : some f.kill = some a := ha
      cases ha
      have := hF 0 f s rfl hs
      exact ⟨this.fl, this.ar, this.cn, this.b⟩
    | succ t => exact hF (t + 1) a s ha hs
  · cases t with
    | zero =>
      have ha : some f.kill = some a := ha
      cases ha
      exact (decide_eq_true ⟨rfl, by show (1 : Nat) ≠ 0; decide⟩).symm
    | succ t =>
      rw [hd (t + 1) a ha]
      exact (decide_eq_false (fun q => by omega)).symm

theorem rows_some (fs : List SF) (tab : Nat → Int) (k : List Fr) (hk : k.length = fs.length) (o : List Int) (f : Fr) (d : Bool) : ∀ (n a : Nat), (∀ j, a ≤ j → j < a + n → 0 ≤ tab j) → tabL tab k o f d n a = 0 → ∃ cs, rowsS fs tab n a = some cs
  | 0, a, _, _ => ⟨[], rfl⟩
  | n + 1, a, ht, h => by
    rw [tabL_succ] at h
    have h0 := ht a (Nat.le_refl _) (by omega)
    by_cases e : (k.length : Int) ≤ tab a
    · rw [if_pos e] at h; cases h
    rw [if_neg e] at h
    unfold rowsS
    rw [List.getElem?_eq_getElem (show (tab a).toNat < fs.length by omega)]
    dsimp only
    split at h
    · split at h
      · obtain ⟨cs, hc⟩ := rows_some fs tab k hk o f d n (a + 1) (fun j h1 h2 => ht j (by omega) (by omega)) h
        exact ⟨_, by rw [hc]; rfl⟩
      · cases h
    · cases h

/-- One live step that the validator takes. -/
theorem live_step (W : WFP P) (hw : FnWF fn) (hp : Vals ps 4) {pc : Nat} (hpc : pc < fn.nI) (V : VS S o (f :: r)) (h0 : S.dead = 0) {o' : List Int} {k' : List Fr} (h : stepV P ps fn (fn.ins pc) pc o f r = .next o' k') :
    ∃ S', liveS (bdOf P fn) pc (fn.ins pc) S = some S' ∧ VS S' o' k' := by
  obtain ⟨s, q, hS, hq, F, hd, hF, hD⟩ := V.live h0
  have hB := hw.b
  have hin := hB.ins pc hpc
  have x0 := hin.x0
  have hfl : f.fl ≤ o.length := V.g.fl.1
  have hln := V.ln h0
  have h10 := V.h10
  have e1 := F.fl
  have hg : VG o' k' := by
    have := step_vg (pc := (pc : Int)) W hp hw.ls (hw.insOk hpc) hin V.g
    rw [h] at this
    exact this
  have hkl : (f :: r).length = S.fs.length := by rw [hS]; simp [hq]
  rw [hS] at hkl hF
  generalize hx : fn.ins pc = x at *
  unfold stepV at h
  unfold liveS
  by_cases c1 : x.op = 1
  · rw [if_pos c1] at h
    cases h
    rw [if_neg (by omega), if_neg (by omega), if_neg (by omega), if_neg (by omega), if_neg (by omega), if_neg (by omega)]
    have he : (bdOf P fn).ef x = some (0, 0) := by show effP P x = _; unfold effP; rw [if_pos (by omega)]
    unfold plainS
    rw [hS]
    dsimp only
    rw [he]
    dsimp only
    rw [if_neg (by omega), if_neg (by omega), h0]
    exact ⟨_, rfl, VS.mk0 V.g (by omega) (by omega) hkl hF hD (by simp)⟩
  rw [if_neg c1] at h
  by_cases c0 : x.op = 0
  · rw [if_pos c0] at h
    cases h
    rw [if_neg (by omega), if_neg (by omega), if_neg (by omega), if_neg (by omega), if_neg (by omega), if_neg (by omega)]
    have he : (bdOf P fn).ef x = some (0, 0) := by show effP P x = _; unfold effP; rw [if_pos (by omega)]
    unfold plainS
    rw [hS]
    dsimp only
    rw [he]
    dsimp only
    rw [if_neg (by omega), if_pos c0]
    exact ⟨_, rfl, VS.mk1 hg (by omega) hkl hF hD⟩
  rw [if_neg c0] at h
  by_cases c2 : x.op = 2 ∨ x.op = 3 ∨ x.op = 4
  · rw [if_pos c2] at h ⊢
    have hpl : Pln x := by
      rcases (hx ▸ hw.insOk hpc : InsOk x) with g | g
      · omega
      · exact g
    have hxx : x.x = 64 ∨ VT x.x := by
      rcases hpl with g | g | g | g | g | g
      · exact g.2.2
      · omega
      · omega
      · omega
      · have := g.o0; omega
      · omega
    have hwr : IntKind.wrap .u8 x.x = x.x := by
      have : 0 ≤ x.x ∧ x.x ≤ 255 := by
        rcases hxx with g | g
        · omega
        · unfold VT at g; omega
      exact wrap_u8 (by omega) (by omega)
    -- the block is pushed
    have opn : ∀ (o1 : List Int), opnV x pc o1 f r = .next o' k' → r.length + 1 ≤ 6 ∧ o' = o1 ∧ k' = ⟨x.op, x.x, o1.length, false⟩ :: f :: r := fun o1 ho => by
      unfold opnV at ho
      split at ho
      · cases ho
      · (first | (injection ho with z__; injection z__ with a b) | injection ho with a b)
        rw [hwr] at b
        exact ⟨by omega, a.symm, b.symm⟩
    have push : ∀ (A' : List SC) (h' st : Nat) (cn : Bool) (o1 : List Int), o1.length = h' → h' ≤ 10 → (x.op = 4 → cn = true) → VG o1 (⟨x.op, x.x, o1.length, false⟩ :: f :: r) → VS ⟨A', ⟨pc + 1, x.op, h', arP x, st, cn⟩ :: s :: q, h', 0, S.en, S.el⟩ o1 (⟨x.op, x.x, o1.length, false⟩ :: f :: r) := fun A' h' st cn o1 hl hh hc hv => by
      refine VS.mk0 hv hh hl (by simpa using hkl) (fun t a b ha hb => ?_) (fun t a ha => ?_) (by simp)
      · cases t with
        | zero =>
          have ha : some _ = some a := ha
          have hb : some _ = some b := hb
          cases ha; cases hb
          exact ⟨hl, rfl, hc, hh⟩
        | succ t => exact hF t a b ha hb
      · cases t with
        | zero =>
          have ha : some _ = some a := ha
          cases ha; rfl
        | succ t => exact hD t a ha
    unfold openS
    rw [hS]
    dsimp only
    unfold blkV at h
    by_cases c4 : x.op = 4
    · rw [if_pos c4] at h
      by_cases e : carB 127 f o = true
      · rw [if_pos e] at h
        obtain ⟨a, b, c⟩ := opn _ h
        obtain ⟨l1, l2⟩ := car_live hd hfl (by decide) e
        rw [if_neg (by simp [hq]; omega), if_pos c4, if_neg (by omega), h0]
        refine ⟨_, rfl, ?_⟩
        subst b c
        exact push _ _ _ _ _ (by omega) (by omega) (fun _ => rfl) hg
      · rw [if_neg e] at h; cases h
    · rw [if_neg c4] at h
      obtain ⟨a, b, c⟩ := opn _ h
      rw [if_neg (by simp [hq]; omega), if_neg c4, h0]
      refine ⟨_, rfl, ?_⟩
      subst b c
      exact push _ _ _ _ _ hln (by omega) (fun g => absurd g c4) hg
  rw [if_neg c2] at h ⊢
  by_cases c5 : x.op = 5
  · rw [if_pos c5] at h ⊢
    unfold elsV at h
    by_cases e : setl f o = true
    · rw [if_pos e] at h
      have st := settled hd hfl e
      have sl := settled_len e
      split at h
      · cases h
      · split at h
        · rename_i h4
          cases h
          unfold turnS
          rw [hS]
          dsimp only
          have ea := F.ar
          rw [if_neg (by rw [ea]; omega), if_neg (by rw [F.cn h4]; decide)]
          refine ⟨_, rfl, VS.mk0 hg (by omega) (by omega) (by simpa using hkl) (fun t a b ha hb => ?_) (fun t a ha => ?_) (by simp)⟩
          · cases t with
            | zero =>
              have ha : some _ = some a := ha
              have hb : some _ = some b := hb
              cases ha; cases hb
              exact ⟨F.fl, F.ar, fun g => absurd (show (5 : Int) = 4 from g) (by decide), F.b⟩
            | succ t => exact hF (t + 1) a b ha hb
          · cases t with
            | zero =>
              have ha : some _ = some a := ha
              cases ha; rfl
            | succ t => exact hD (t + 1) a ha
        · cases h
    · rw [if_neg e] at h; cases h
  rw [if_neg c5] at h ⊢
  by_cases c11 : x.op = 11
  · rw [if_pos c11] at h ⊢
    unfold endV at h
    by_cases e : setl f o = true
    · rw [if_pos e] at h
      have st := settled hd hfl e
      have sl := settled_len e
      have ea := F.ar
      split at h
      · cases h
      · split at h
        · split at h
          · cases h
          · cases h
        · rename_i hr
          unfold giveV at h
          have hqn : ¬ q.length = 0 := by omega
          have fin : o'.length = f.fl + (if f.res = 64 then 0 else 1) ∧ o'.length ≤ 10 ∧ k' = r := by
            by_cases e64 : f.res = 64
            · rw [if_pos e64] at h
              cases h
              rw [if_pos e64]
              exact ⟨by omega, by omega, rfl⟩
            · rw [if_neg e64] at h
              split at h
              · cases h
                rw [if_neg e64]
                exact ⟨by simp; omega, by simp; omega, rfl⟩
              · cases h
          obtain ⟨f1, f2, rfl⟩ := fin
          unfold shutS
          rw [hS]
          dsimp only
          rw [if_neg (by rw [ea]; omega), if_neg (by rw [ea]; omega)]
          dsimp only
          rw [if_neg (by omega)]
          refine ⟨_, rfl, VS.mk0 hg (by rw [ea]; omega) (by rw [ea]; omega) hq.symm (fun t a b ha hb => hF (t + 1) a b ha hb) (fun t a ha => hD (t + 1) a ha) hqn⟩
    · rw [if_neg e] at h; cases h
  rw [if_neg c11] at h ⊢
  by_cases c12 : x.op = 12
  · rw [if_pos c12] at h
    rw [if_pos (.inl c12)]
    unfold brV at h
    by_cases e : ((r.length + 1 : Nat) : Int) ≤ x.x
    · rw [if_pos e] at h; cases h
    rw [if_neg e] at h
    split at h
    · cases h
      unfold brS
      rw [hS]
      dsimp only
      have hlt : x.x.toNat < (s :: q).length := by simp; omega
      rw [List.getElem?_eq_getElem hlt]
      dsimp only
      have e13 : (if x.op = 13 then (1 : Nat) else 0) = 0 := if_neg (by omega)
      rw [e13, if_neg (by omega), if_pos c12]
      exact ⟨_, rfl, VS.mk1 hg (by omega) hkl hF hD⟩
    · cases h
  rw [if_neg c12] at h
  by_cases c13 : x.op = 13
  · rw [if_pos c13] at h
    rw [if_pos (.inr c13)]
    unfold brifV at h
    by_cases e1 : carB 127 f o = true
    · rw [if_pos e1] at h
      obtain ⟨l1, l2⟩ := car_live hd hfl (by decide) e1
      by_cases e : ((r.length + 1 : Nat) : Int) ≤ x.x
      · rw [if_pos e] at h; cases h
      rw [if_neg e] at h
      by_cases e2 : carB (labT (f :: r) x.x.toNat) f (carO 127 f o) = true
      · rw [if_pos e2] at h
        have fin : o'.length + 1 = o.length ∧ k' = f :: r := by
          unfold giveV at h
          by_cases e64 : labT (f :: r) x.x.toNat = 64
          · rw [if_pos e64] at h
            cases h
            rw [e64]
            exact ⟨l2, rfl⟩
          · rw [if_neg e64] at h
            obtain ⟨m1, m2⟩ := car_live hd (by omega) e64 e2
            split at h
            · cases h
              exact ⟨by simp; omega, rfl⟩
            · cases h
        obtain ⟨f1, rfl⟩ := fin
        unfold brS
        rw [hS]
        dsimp only
        have hlt : x.x.toNat < (s :: q).length := by simp; omega
        rw [List.getElem?_eq_getElem hlt]
        dsimp only
        have e13 : (if x.op = 13 then (1 : Nat) else 0) = 1 := if_pos c13
        rw [e13, if_neg (by omega), if_neg (by omega), h0]
        exact ⟨_, rfl, VS.mk0 hg (by omega) (by omega) hkl hF hD (by simp)⟩
      · rw [if_neg e2] at h; cases h
    · rw [if_neg e1] at h; cases h
  rw [if_neg c13] at h
  rw [if_neg (show ¬ (x.op = 12 ∨ x.op = 13) by omega)]
  by_cases c14 : x.op = 14
  · rw [if_pos c14] at h ⊢
    unfold tabV at h
    by_cases e1 : carB 127 f o = true
    · rw [if_pos e1] at h
      obtain ⟨l1, l2⟩ := car_live hd hfl (by decide) e1
      by_cases e2 : x.y < 1 ∨ (fn.nTab : Int) < x.y ∨ (fn.nTab : Int) - x.y < x.x
      · rw [if_pos e2] at h; cases h
      rw [if_neg e2] at h
      split at h
      · cases h
      · split at h
        · rename_i ht
          cases h
          obtain ⟨cs, hc⟩ := rows_some (s :: q) fn.tabs (f :: r) hkl _ _ _ _ _ (fun j h1 h2 => (hB.tabs j (by omega)).1) ht
          unfold tabS
          rw [hS]
          dsimp only
          have k1 : ¬ (S.h ≤ s.fl ∨ x.y < 1 ∨ ((bdOf P fn).nt : Int) < x.y ∨ ((bdOf P fn).nt : Int) - x.y < x.x) := by
            have : (bdOf P fn).nt = fn.nTab := rfl
            rw [this]
            omega
          rw [if_neg k1]
          have hc' : rowsS (s :: q) (bdOf P fn).tab x.y.toNat x.x.toNat = some cs := hc
          rw [hc']
          exact ⟨_, rfl, VS.mk1 hg (by omega) hkl hF hD⟩
        · cases h
    · rw [if_neg e1] at h; cases h
  rw [if_neg c14] at h ⊢
  by_cases c15 : x.op = 15
  · rw [if_pos c15] at h ⊢
    unfold retV at h
    split at h
    · cases h
      refine ⟨_, rfl, ?_⟩
      unfold retS
      rw [hS]
      exact VS.mk1 hg (by omega) hkl hF hD
    · cases h
  rw [if_neg c15] at h ⊢
  have hpl : Pln x := by
    rcases (hx ▸ hw.insOk hpc : InsOk x) with g | g
    · exact absurd g c14
    · exact g
  unfold plnV at h
  by_cases e : (plnP P ps (strOfNums fn.ls) x f o).2.1 = 0
  · rw [if_pos e] at h
    obtain ⟨t, g, he, p1, p2, p3⟩ := pln_len W hp hw.ls hin hpl (fun n hn => by omega) V.g.ov hd hfl e
    have fin : o'.length + t = o.length + g ∧ (g = 1 → o'.length ≤ 10) ∧ k' = f :: r := by
      unfold giveV at h
      rcases p3 with ⟨q1, q2⟩ | ⟨q1, q2⟩
      · rw [if_pos q1] at h
        cases h
        exact ⟨by omega, fun z => by omega, rfl⟩
      · rw [if_neg q1] at h
        split at h
        · cases h
          exact ⟨by simp; omega, fun _ => by simp; omega, rfl⟩
        · cases h
    obtain ⟨f1, f2, rfl⟩ := fin
    have he : (bdOf P fn).ef x = some (t, g) := he
    unfold plainS
    rw [hS]
    dsimp only
    rw [he]
    dsimp only
    have g01 : g = 0 ∨ g = 1 := by rcases p3 with q | q <;> omega
    rw [if_neg (by omega), if_neg c0, h0]
    exact ⟨_, rfl, VS.mk0 hg (by omega) (by omega) hkl hF hD (by simp)⟩
  · rw [if_neg e] at h; cases h
end
end Go.Proofs.Qxb6500321a
