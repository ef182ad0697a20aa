/-
  What the validator takes, the compiler takes.
-/
import Derived.Test.Qxb6500321aVgA
import Derived.Test.Qxb6500321aPlA
set_option linter.unusedSimpArgs false
set_option linter.unusedVariables false
set_option maxRecDepth 100000
set_option linter.unusedSectionVars false
namespace Go.Proofs.Qxb6500321a
open Go Go.Vc

section
variable {P : PM} {ps ds : ByteArray} {x : Ins} {o : List Int} {f : Fr} {r : List Fr} {fn : FnP}
theorem tail_len {α : Type} (o : List α) : o.tail.length = o.length - 1 := by cases o <;> simp
theorem pop_live (hd : f.dead = false) (hf : f.fl ≤ o.length) {t : Int} (h : popB t f o = true) : f.fl + 1 ≤ o.length ∧ (popO f o).length + 1 = o.length := by
  unfold popB at h
  unfold popO
  by_cases e : o.length = f.fl
  · rw [if_pos e, hd] at h; cases h
  · rw [if_neg e, tail_len]
    omega
theorem car_live (hd : f.dead = false) (hf : f.fl ≤ o.length) {t : Int} (ht : t ≠ 64) (h : carB t f o = true) : f.fl + 1 ≤ o.length ∧ (carO t f o).length + 1 = o.length := by
  unfold carB at h
  unfold carO
  rw [if_neg ht]
  have : (t == 64) = false := by simpa using ht
  rw [this, Bool.false_or] at h
  exact pop_live hd hf h
theorem pops_live (s : ByteArray) (hd : f.dead = false) : ∀ (n : Nat) (o : List Int), f.fl ≤ o.length → (popsF s f n o).1 = true → f.fl + n ≤ o.length ∧ (popsF s f n o).2.length + n = o.length
  | 0, o, hf, _ => ⟨hf, rfl⟩
  | n + 1, o, hf, h => by
    rw [popsF_succ] at h ⊢
    by_cases e : popB (byteAt s n) f o = true
    · rw [if_pos e] at h ⊢
      obtain ⟨a, b⟩ := pop_live hd hf e
      have ih := pops_live s hd n (popO f o) (by omega) h
      omega
    · rw [if_neg e] at h; cases h
theorem tyE_zero {b : Bool} (h : tyE b = 0) : b = true := by
  unfold tyE at h
  split at h
  · assumption
  · cases h
theorem vt_ne {t : Int} (h : VT t) : t ≠ 64 := by unfold VT at h; omega
theorem ut_ne {t : Int} (h : UT t) : t ≠ 64 := by
  rcases h with h | h
  · omega
  · exact vt_ne h

/-- What a live plain instruction that is taken does to the height. -/
theorem pln_len (W : WFP P) (hp : Vals ps 4) (hds : Vals ds 6) (hi : InsIn x) (hx : Pln x) (hn : ∀ n : Int, n = 0 ∨ n = 1 ∨ n = 2 ∨ n = 3 ∨ n = 4 ∨ n = 5 ∨ n = 11 ∨ n = 12 ∨ n = 13 ∨ n = 15 → x.op ≠ n) (ho : OV o) (hd : f.dead = false) (hf : f.fl ≤ o.length)
    (h : (plnP P ps ds x f o).2.1 = 0) : ∃ t g, effP P x = some (t, g) ∧ f.fl + t ≤ o.length ∧ (plnP P ps ds x f o).2.2.length + t = o.length ∧ (((plnP P ps ds x f o).1 = 64 ∧ g = 0) ∨ ((plnP P ps ds x f o).1 ≠ 64 ∧ g = 1)) := by
  have x0 := hi.x0
  have n0 := hn 0 (by omega); have n1 := hn 1 (by omega); have n2 := hn 2 (by omega); have n3 := hn 3 (by omega); have n4 := hn 4 (by omega); have n5 := hn 5 (by omega); have n11 := hn 11 (by omega); have n12 := hn 12 (by omega); have n13 := hn 13 (by omega); have n15 := hn 15 (by omega)
  have call : ∀ (t : ByteArray) (o' : List Int), (∃ j, j < P.nTy ∧ t = P.ty j) → f.fl ≤ o'.length → (callT t f o').2.1 = 0 → f.fl + (splitP t).1.size ≤ o'.length ∧ (callT t f o').2.2.length + (splitP t).1.size = o'.length ∧ (((callT t f o').1 = 64 ∧ (splitP t).2.size = 0) ∨ ((callT t f o').1 ≠ 64 ∧ (splitP t).2.size = 1)) := fun t o' ⟨j, hj, ej⟩ hf' hc => by
    unfold callT at hc ⊢
    have q := pops_live (splitP t).1 hd _ o' hf' (tyE_zero hc)
    refine ⟨q.1, q.2, ?_⟩
    obtain ⟨_, _, v2⟩ := W.ty j hj
    rw [← ej] at v2
    unfold fstT
    by_cases e : (splitP t).2.size = 0
    · exact .inl ⟨by dsimp only; rw [if_pos e], e⟩
    · have := v2.1
      refine .inr ⟨?_, by omega⟩
      dsimp only
      rw [if_neg e]
      exact vt_ne (v2.2 0 (by omega))
  obtain ⟨z, hz⟩ : ∃ z, z = plnP P ps ds x f o := ⟨_, rfl⟩
  rw [← hz] at h ⊢
  unfold plnP at hz
  unfold effP
  rw [if_neg (show ¬ (x.op = 0 ∨ x.op = 1) by omega)]
  by_cases c1 : x.op = 16 ∨ x.op = 17
  · rw [if_pos c1] at hz
    rw [if_neg (by omega), if_neg (by omega), if_neg (by omega), if_neg (by omega)]
    unfold callP at hz
    by_cases c16 : x.op = 16
    · rw [if_pos c16] at hz
      rw [if_pos c16]
      cases ht : typeOf P x.x with
      | none => rw [ht] at hz; subst hz; cases h
      | some t =>
        rw [ht] at hz
        dsimp only at hz
        subst hz
        obtain ⟨a, b, c⟩ := call t o (typeOf_in ht) hf h
        exact ⟨_, _, rfl, a, b, c⟩
    · have c17 : x.op = 17 := by omega
      rw [if_neg c16] at hz
      rw [if_neg c16, if_pos c17]
      by_cases e1 : P.tmin < 0
      · rw [if_pos e1] at hz; subst hz; cases h
      rw [if_neg e1] at hz
      by_cases e2 : (P.nTy : Int) ≤ x.x
      · rw [if_pos e2] at hz; subst hz; cases h
      rw [if_neg e2] at hz
      rw [if_neg e2]
      by_cases e3 : carB 127 f o = true
      · rw [if_pos e3] at hz
        obtain ⟨a, b⟩ := car_live hd hf (by decide) e3
        subst hz
        obtain ⟨c, d, e⟩ := call (P.ty x.x.toNat) (carO 127 f o) ⟨x.x.toNat, by omega, rfl⟩ (by omega) h
        exact ⟨_, _, rfl, by omega, by omega, e⟩
      · rw [if_neg e3] at hz; subst hz; cases h
  rw [if_neg c1] at hz
  by_cases c2 : x.op = 26
  · rw [if_pos c2] at hz
    rw [if_pos (by omega)]
    subst hz
    obtain ⟨a, b⟩ := pop_live hd hf (tyE_zero h)
    exact ⟨_, _, rfl, a, b, .inl ⟨rfl, rfl⟩⟩
  rw [if_neg c2] at hz
  by_cases c3 : x.op = 27
  · rw [if_pos c3] at hz
    rw [if_neg (by omega), if_neg (by omega), if_neg (by omega), if_pos c3]
    unfold selP at hz
    by_cases e1 : carB 127 f o = true
    · rw [if_pos e1] at hz
      obtain ⟨a1, b1⟩ := car_live hd hf (by decide) e1
      by_cases e2 : popB 0 f (carO 127 f o) = true
      · rw [if_pos e2] at hz
        obtain ⟨a2, b2⟩ := pop_live hd (by omega) e2
        subst hz
        obtain ⟨a3, b3⟩ := pop_live hd (by omega) (tyE_zero h)
        refine ⟨_, _, rfl, by omega, by dsimp only; omega, .inr ⟨?_, rfl⟩⟩
        exact ut_ne (popT_ut (popO_ov (carO_ov ho 127)) (popT_ut (carO_ov ho 127) (.inl rfl)))
      · rw [if_neg e2] at hz; subst hz; cases h
    · rw [if_neg e1] at hz; subst hz; cases h
  rw [if_neg c3] at hz
  by_cases c4 : 32 ≤ x.op ∧ x.op ≤ 34
  · rw [if_pos c4] at hz
    unfold locP at hz
    cases ht : locT ps ds x.x with
    | none => rw [ht] at hz; subst hz; cases h
    | some t =>
      rw [ht] at hz
      dsimp only at hz
      have vt := vt_ne (locT_vt hp hds x0 ht)
      by_cases e : x.op = 32
      · rw [if_pos e] at hz
        rw [if_neg (by omega), if_neg (by omega), if_pos (by omega)]
        subst hz
        exact ⟨_, _, rfl, hf, rfl, .inr ⟨vt, rfl⟩⟩
      · rw [if_neg e] at hz
        subst hz
        obtain ⟨a, b⟩ := car_live hd hf vt (tyE_zero h)
        by_cases e3 : x.op = 33
        · rw [if_pos (by omega)]
          refine ⟨_, _, rfl, a, b, .inl ⟨?_, rfl⟩⟩
          dsimp only
          rw [if_pos e3]
        · rw [if_neg (by omega), if_pos (by omega)]
          refine ⟨_, _, rfl, a, b, .inr ⟨?_, rfl⟩⟩
          dsimp only
          rw [if_neg e3]; exact vt
  rw [if_neg c4] at hz
  by_cases c5 : x.op = 35 ∨ x.op = 36
  · rw [if_pos c5] at hz
    unfold gloP at hz
    by_cases e : (P.gn : Int) ≤ x.x
    · rw [if_pos e] at hz; subst hz; cases h
    rw [if_neg e] at hz
    have vt := vt_ne (W.g x.x.toNat (by omega)).1
    by_cases e5 : x.op = 35
    · rw [if_pos e5] at hz
      rw [if_neg (by omega), if_neg (by omega), if_pos (by omega)]
      subst hz
      exact ⟨_, _, rfl, hf, rfl, .inr ⟨vt, rfl⟩⟩
    · rw [if_neg e5] at hz
      rw [if_pos (by omega)]
      by_cases e6 : (P.g x.x.toNat).mu = true
      · rw [if_pos e6] at hz
        subst hz
        obtain ⟨a, b⟩ := car_live hd hf vt (tyE_zero h)
        exact ⟨_, _, rfl, a, b, .inl ⟨rfl, rfl⟩⟩
      · rw [if_neg e6] at hz; subst hz; cases h
  rw [if_neg c5] at hz
  by_cases c6 : 40 ≤ x.op ∧ x.op ≤ 64
  · rw [if_pos c6] at hz
    unfold memP at hz
    by_cases e : P.mmin < 0
    · rw [if_pos e] at hz; subst hz; cases h
    rw [if_neg e] at hz
    by_cases e63 : x.op = 63
    · rw [if_pos e63] at hz
      rw [if_neg (by omega), if_neg (by omega), if_pos (by omega)]
      subst hz
      exact ⟨_, _, rfl, hf, rfl, .inr ⟨by show (127 : Int) ≠ 64; decide, rfl⟩⟩
    rw [if_neg e63] at hz
    by_cases e62 : x.op ≤ 62
    · rw [if_pos e62] at hz
      have vt := vt_ne (mem_vt c6.1 e62).1
      by_cases ea : alignBad (api_MemSig.F x.op).1 x.x = true
      · rw [if_pos ea] at hz; subst hz; cases h
      rw [if_neg ea] at hz
      rw [if_neg (by omega), if_neg (by omega), if_neg (by omega), if_neg (by omega), if_neg (by omega), if_neg (by omega)]
      by_cases e54 : 54 ≤ x.op
      · rw [if_pos e54] at hz
        rw [if_neg (by omega), if_pos (by omega)]
        by_cases e7 : carB (api_MemSig.F x.op).2.1 f o = true
        · rw [if_pos e7] at hz
          obtain ⟨a, b⟩ := car_live hd hf vt e7
          unfold memL at hz
          subst hz
          obtain ⟨a2, b2⟩ := car_live hd (by omega) (by decide) (tyE_zero h)
          exact ⟨_, _, rfl, by omega, by dsimp only; omega, .inl ⟨rfl, rfl⟩⟩
        · rw [if_neg e7] at hz; subst hz; cases h
      · rw [if_neg e54] at hz
        rw [if_pos (by omega)]
        unfold memL at hz
        subst hz
        obtain ⟨a2, b2⟩ := car_live hd hf (by decide) (tyE_zero h)
        exact ⟨_, _, rfl, by omega, by dsimp only; omega, .inr ⟨vt, rfl⟩⟩
    · rw [if_neg e62] at hz
      rw [if_neg (by omega), if_pos (by omega)]
      unfold memL at hz
      subst hz
      obtain ⟨a2, b2⟩ := car_live hd hf (by decide) (tyE_zero h)
      exact ⟨_, _, rfl, by omega, by dsimp only; omega, .inr ⟨by show (127 : Int) ≠ 64; decide, rfl⟩⟩
  rw [if_neg c6] at hz
  by_cases c7 : 65 ≤ x.op ∧ x.op ≤ 68
  · rw [if_pos c7] at hz
    rw [if_neg (by omega), if_neg (by omega), if_pos (by omega)]
    subst hz
    exact ⟨_, _, rfl, hf, rfl, .inr ⟨by show 127 - (x.op - 65) ≠ 64; omega, rfl⟩⟩
  rw [if_neg c7] at hz
  rw [if_neg (by omega), if_neg (by omega), if_neg (by omega), if_neg (by omega), if_neg (by omega), if_neg (by omega), if_neg (by omega), if_neg (by omega)]
  unfold numP at hz
  have nl := num_le hi.o0 hi.o1
  by_cases e0 : (api_NumSig.F x.op).1 = 0
  · rw [if_pos e0] at hz; subst hz; cases h
  rw [if_neg e0] at hz
  rw [if_neg e0]
  have hop : 69 ≤ x.op ∧ x.op ≤ 191 := by
    rcases hx with q | q | q | q | q | q
    · omega
    · omega
    · omega
    · omega
    · have := q.o0; have := q.o1; omega
    · omega
  have vt := num_vt hop.1 hop.2
  have v1 := vt_ne vt.1; have v2 := vt_ne vt.2
  by_cases e2 : carB (api_NumSig.F x.op).2.1 f o = true ∧ (api_NumSig.F x.op).1 = 2
  · rw [if_pos e2] at hz
    obtain ⟨a, b⟩ := car_live hd hf v1 e2.1
    subst hz
    obtain ⟨a2, b2⟩ := car_live hd (by omega) v1 (tyE_zero h)
    refine ⟨_, _, rfl, ?_, ?_, .inr ⟨v2, rfl⟩⟩
    · rw [e2.2]; show f.fl + 2 ≤ _; omega
    · rw [e2.2]; show _ + 2 = _; dsimp only; omega
  · rw [if_neg e2] at hz
    subst hz
    have hc := tyE_zero h
    obtain ⟨a, b⟩ := car_live hd hf v1 hc
    have e1 : (api_NumSig.F x.op).1 = 1 := by
      have : ¬ (api_NumSig.F x.op).1 = 2 := fun q => e2 ⟨hc, q⟩
      omega
    refine ⟨_, _, rfl, ?_, ?_, .inr ⟨v2, rfl⟩⟩
    · rw [e1]; exact a
    · rw [e1]; exact b
end
end Go.Proofs.Qxb6500321a
