/-
  Where a block closes.
-/
import Derived.Test.Qxb6500321aTrA
set_option linter.unusedSimpArgs false
set_option linter.unusedVariables false
set_option maxRecDepth 100000
set_option linter.unusedSectionVars false
namespace Go.Proofs.Qxb6500321a
open Go Go.Vc

theorem ri_step {B : BD} {i : Nat} {S S' : SS} {p : PS} (R : RI i S p) (x0 : 0 ≤ (B.ins i).x) (ht : ∀ j, j < B.nt → 0 ≤ B.tab j) (h : stepS B i S = some S') : ∃ p', RI (i + 1) S' p' := by
  unfold stepS at h
  by_cases hk : (skipP (B.ins i).op S.dead).1 = true
  · rw [if_pos hk] at h
    cases h
    have hd2 : (skipP (B.ins i).op S.dead).2 ≠ 0 ∧ (skipP (B.ins i).op S.dead).2 ≤ S.dead + 1 := by
      revert hk
      unfold skipP
      repeat' split
      all_goals intro e'
      all_goals first
        | (cases e'; done)
        | (dsimp only at e' ⊢; omega)
        | (dsimp only at e' ⊢; have := of_decide_eq_true e'; omega)
    exact ⟨_, (R.nx).setHD (h' := S.h) R.h10 (fun g => absurd g hd2.1) (by have := R.dd; omega)⟩
  · rw [if_neg hk] at h
    have out : ∀ {wt : Nat} {o : Option SS} {z : Bool × PS}, LRes i S wt o z → o = some S' → ∃ p', RI (i + 1) S' p' := fun {wt o z} hL ho => by
      rw [ho] at hL
      exact ⟨z.2, hL.2.1⟩
    have ne : ∀ {f : SF} {r : List SF}, S.fs = f :: r → True := fun _ => trivial
    unfold liveS at h
    by_cases c2 : (B.ins i).op = 2 ∨ (B.ins i).op = 3 ∨ (B.ins i).op = 4
    · rw [if_pos c2] at h
      have h0 : S.dead = 0 := by
        unfold skipP at hk
        by_cases h0 : S.dead = 0
        · exact h0
        · rw [if_neg h0, if_pos c2] at hk; exact absurd rfl hk
      cases hS : S.fs with
      | nil => unfold openS at h; rw [hS] at h; cases h
      | cons f r => exact out (R.openL h0 hS (B.ins i)) h
    rw [if_neg c2] at h
    by_cases c5 : (B.ins i).op = 5
    · rw [if_pos c5] at h
      cases hS : S.fs with
      | nil => unfold turnS at h; rw [hS] at h; cases h
      | cons f r => exact out (R.turnL hS) h
    rw [if_neg c5] at h
    by_cases c11 : (B.ins i).op = 11
    · rw [if_pos c11] at h
      cases hS : S.fs with
      | nil => unfold shutS at h; rw [hS] at h; cases h
      | cons f r =>
        obtain ⟨ms, _, hL, _⟩ := R.shutL hS
        cases hs : shutS S with
        | none => rw [hs] at h; cases h
        | some S1 =>
          rw [hs] at h hL
          dsimp only at h
          split at h
          · cases h
          · cases h; exact ⟨_, hL.2.1⟩
    rw [if_neg c11] at h
    have h0 : S.dead = 0 := by
      unfold skipP at hk
      by_cases h0 : S.dead = 0
      · exact h0
      · rw [if_neg h0, if_neg c2, if_neg c5, if_neg c11] at hk; exact absurd rfl hk
    by_cases c12 : (B.ins i).op = 12 ∨ (B.ins i).op = 13
    · rw [if_pos c12] at h
      cases hS : S.fs with
      | nil => unfold brS at h; rw [hS] at h; cases h
      | cons f r => exact out (R.brL h0 hS (B.ins i) x0 c12) h
    rw [if_neg c12] at h
    by_cases c14 : (B.ins i).op = 14
    · rw [if_pos c14] at h
      cases hS : S.fs with
      | nil => unfold tabS at h; rw [hS] at h; cases h
      | cons f r => exact out (R.tabL h0 hS B (B.ins i) x0 ht) h
    rw [if_neg c14] at h
    by_cases c15 : (B.ins i).op = 15
    · rw [if_pos c15] at h
      cases h
      exact ⟨_, R.retL⟩
    rw [if_neg c15] at h
    cases hS : S.fs with
    | nil => unfold plainS at h; rw [hS] at h; cases h
    | cons f r => exact out (R.plainL h0 hS B (B.ins i)) h
theorem tr_ri {B : BD} {res : Nat} (hB : BOkB B) (hr : res ≤ 1024) : ∀ (i : Nat) (S : SS), i ≤ B.n → trS B res i = some S → ∃ p, RI i S p
  | 0, S, _, h => by
    have h : some (initS res) = some S := h
    cases h
    exact ⟨_, ri_init res hr⟩
  | i + 1, S, hi, h => by
    have h' : (trS B res i).bind (stepS B i) = some S := h
    cases hp : trS B res i with
    | none => rw [hp] at h'; cases h'
    | some S0 =>
      rw [hp] at h'
      obtain ⟨p, R⟩ := tr_ri hB hr i S0 (by omega) hp
      exact ri_step R (hB.x i (by omega)) hB.t h'

/-- What is known stays known; cells stay. -/
theorem keep_step {B : BD} {i : Nat} {S S' : SS} {p : PS} (R : RI i S p) (h : stepS B i S = some S') : (∀ o a, S.en o = some a → S'.en o = some a) ∧ (∀ o a, S.el o = some a → S'.el o = some a) ∧ (∀ (j : Nat) (c : SC), S.A[j]? = some c → S'.A[j]? = some c) := by
  cases stp_of h using Stp.cs with
  | skip d h0 hd => exact ⟨fun _ _ q => q, fun _ _ q => q, fun _ _ q => q⟩
  | opn f A h' h0 ho hf hl hA => exact ⟨fun _ _ q => q, fun _ _ q => q, hA⟩
  | trn f r ho hd hS hc _ =>
    refine ⟨fun _ _ q => q, fun o a q => ?_, fun j c q => ?_⟩
    · obtain ⟨c, d, hk, F, _⟩ := R.top hS
      have hel : S.el f.o = none := by
        rcases F.cn with ⟨_, g, _⟩ | ⟨g, _⟩
        · exact g
        · rw [hc] at g; cases g
      show up1 S.el f.o _ o = some a
      rw [up1_ne _ _ (fun e => by rw [e, hel] at q; cases q)]; exact q
    · show (turnA S f)[j]? = some c
      unfold turnA
      split
      · exact pre_app _ _ j c q
      · exact q
  | sht f r ho hd hS hn =>
    obtain ⟨c, d, hk, F, _⟩ := R.top hS
    refine ⟨fun o a q => ?_, fun o a q => ?_, fun j c q => ?_⟩
    · show up1 S.en f.o _ o = some a
      rw [up1_ne _ _ (fun e => by rw [e, F.en] at q; cases q)]; exact q
    · show (if f.cn = true then up1 S.el f.o S.A.length else S.el) o = some a
      by_cases hc : f.cn = true
      · have hel : S.el f.o = none := by
          rcases F.cn with ⟨_, g, _⟩ | ⟨g, _⟩
          · exact g
          · rw [hc] at g; cases g
        rw [if_pos hc, up1_ne _ _ (fun e => by rw [e, hel] at q; cases q)]; exact q
      · rw [if_neg hc]; exact q
    · show (if r.length = 0 then S.A ++ [⟨11, .k 0, 0⟩] else S.A)[j]? = some c
      split
      · exact pre_app _ _ j c q
      · exact q
  | pln A h' d h0 _ _ _ _ hA => exact ⟨fun _ _ q => q, fun _ _ q => q, hA⟩
theorem keep_tr {B : BD} {res : Nat} (hB : BOkB B) (hr : res ≤ 1024) : ∀ (k i : Nat) (S S' : SS), i + k ≤ B.n → trS B res i = some S → trS B res (i + k) = some S' →
    (∀ o a, S.en o = some a → S'.en o = some a) ∧ (∀ o a, S.el o = some a → S'.el o = some a) ∧ (∀ (j : Nat) (c : SC), S.A[j]? = some c → S'.A[j]? = some c)
  | 0, i, S, S', _, h, h' => by
    rw [Nat.add_zero, h] at h'
    cases h'
    exact ⟨fun _ _ q => q, fun _ _ q => q, fun _ _ q => q⟩
  | k + 1, i, S, S', hi, h, h' => by
    rw [show i + (k + 1) = (i + k) + 1 by omega] at h'
    obtain ⟨S1, h1⟩ := trS_pre 1 (i + k) h'
    obtain ⟨a1, a2, a3⟩ := keep_tr hB hr k i S S1 (by omega) h h1
    obtain ⟨p, R⟩ := tr_ri hB hr (i + k) S1 (by omega) h1
    rw [trS_succ h1] at h'
    obtain ⟨b1, b2, b3⟩ := keep_step R h'
    exact ⟨fun o a q => b1 o a (a1 o a q), fun o a q => b2 o a (a2 o a q), fun j c q => b3 j c (a3 j c q)⟩

/-- The search for the matching end. -/
def mtc (ins : Nat → Ins) (n : Nat) : Nat → Nat → Nat → Option Nat → Nat × Option Nat
  | 0, _, _, els => (n, els)
  | k + 1, j, d, els =>
    if (ins j).op = 2 ∨ (ins j).op = 3 ∨ (ins j).op = 4 then mtc ins n k (j + 1) (d + 1) els
    else if (ins j).op = 5 then mtc ins n k (j + 1) d (if d = 0 then some j else els)
    else if (ins j).op = 11 then (if d = 0 then (j, els) else mtc ins n k (j + 1) (d - 1) els)
    else mtc ins n k (j + 1) d els
theorem mtc_succ (ins : Nat → Ins) (n k j d : Nat) (els : Option Nat) : mtc ins n (k + 1) j d els =
    if (ins j).op = 2 ∨ (ins j).op = 3 ∨ (ins j).op = 4 then mtc ins n k (j + 1) (d + 1) els
    else if (ins j).op = 5 then mtc ins n k (j + 1) d (if d = 0 then some j else els)
    else if (ins j).op = 11 then (if d = 0 then (j, els) else mtc ins n k (j + 1) (d - 1) els)
    else mtc ins n k (j + 1) d els := rfl
/-- The block f (its t-th, outer blocks rest) closes at e; its other arm begins behind els'. -/
structure Clo (B : BD) (res : Nat) (Sn : SS) (j : Nat) (f : SF) (rest : List SF) (els : Option Nat) (e : Nat) (els' : Option Nat) : Prop where
  lo : j ≤ e
  hi : e < B.n
  op : (B.ins e).op = 11
  at_ : ∃ Se f', trS B res e = some Se ∧ Se.dead ≤ 1 ∧ Se.fs = f' :: rest ∧ f'.o = f.o ∧ f'.op = f.op ∧ f'.fl = f.fl ∧ f'.ar = f.ar ∧ Sn.en f.o = some Se.A.length ∧ (f.cn = true → els' = els → Sn.el f.o = some Se.A.length)
  no : f.cn = false → els' = els
  ye : f.cn = true → els' = els ∨ ∃ q Sq, els' = some q ∧ j ≤ q ∧ q < e ∧ (B.ins q).op = 5 ∧ trS B res (q + 1) = some Sq ∧ Sn.el f.o = some Sq.A.length ∧ Sq.fs = { f with cn := false } :: rest ∧ Sq.dead = 0 ∧ Sq.h = f.fl
theorem close {B : BD} {res : Nat} (hB : BOkB B) (hr : res ≤ 1024) {Sn : SS} (hn : trS B res B.n = some Sn) (hf0 : Sn.fs.length = 0) :
    ∀ (k j : Nat) (S : SS) (t : Nat) (f : SF) (els : Option Nat), j + k = B.n → trS B res j = some S → S.fs[t]? = some f → (∀ q, els = some q → q < j) →
      Clo B res Sn j f (S.fs.drop (t + 1)) els (mtc B.ins B.n k j (t + (S.dead - 1)) els).1 (mtc B.ins B.n k j (t + (S.dead - 1)) els).2 := by
  intro k
  induction k with
  | zero =>
    intro j S t f els hj hS hf _
    rw [Nat.add_zero] at hj
    subst hj
    rw [hn] at hS
    cases hS
    have := get_lt hf
    omega
  | succ k ih =>
    intro j S t f els hj hS hf hq
    obtain ⟨S', hS'⟩ := trS_pre k (j + 1) (show trS B res (j + 1 + k) = some Sn by rw [show j + 1 + k = B.n by omega]; exact hn)
    have hstep : stepS B j S = some S' := by rw [← trS_succ hS]; exact hS'
    -- a step that leaves the block and what lies below
    have go : ∀ (t' : Nat) (els1 : Option Nat) (d1 : Nat), d1 = t' + (S'.dead - 1) → S'.fs[t']? = some f → S'.fs.drop (t' + 1) = S.fs.drop (t + 1) → els1 = els →
        Clo B res Sn j f (S.fs.drop (t + 1)) els (mtc B.ins B.n k (j + 1) d1 els1).1 (mtc B.ins B.n k (j + 1) d1 els1).2 := fun t' els1 d1 hd hf' hdrop he => by
      subst he hd
      have C := ih (j + 1) S' t' f els1 (by omega) hS' hf' (fun q e => by have := hq q e; omega)
      rw [hdrop] at C
      refine ⟨by have := C.lo; omega, C.hi, C.op, C.at_, C.no, fun hc => ?_⟩
      rcases C.ye hc with g | ⟨q, Sq, g1, g2, g3⟩
      · exact .inl g
      · exact .inr ⟨q, Sq, g1, by omega, g3⟩
    rw [mtc_succ]
    cases stp_of hstep using Stp.cs with
    | skip d h0 hd =>
      rcases hd with ⟨c2, rfl⟩ | ⟨c5, h1, rfl⟩ | ⟨c11, h1, hd⟩ | ⟨c2, c5, c11, rfl⟩
      · rw [if_pos c2]
        exact go t els _ (by show t + (S.dead - 1) + 1 = t + (S.dead + 1 - 1); omega) hf rfl rfl
      · rw [if_neg (by omega), if_pos c5, if_neg (by omega)]
        exact go t els _ rfl hf rfl rfl
      · rw [if_neg (by omega), if_neg (by omega), if_pos c11, if_neg (by omega)]
        exact go t els _ (by show t + (S.dead - 1) - 1 = t + (d - 1); omega) hf rfl rfl
      · rw [if_neg c2, if_neg c5, if_neg c11]
        exact go t els _ rfl hf rfl rfl
    | opn g A h' h0 ho hg hl hA =>
      rw [if_pos ho]
      exact go (t + 1) els _ (by show t + (S.dead - 1) + 1 = t + 1 + (S.dead - 1); omega) hf rfl rfl
    | trn g r ho hd hfs hc hts =>
      rw [if_neg (by omega), if_pos ho]
      cases t with
      | zero =>
        rw [hfs] at hf
        have hf : some g = some f := hf
        cases hf
        have hdz : 0 + (S.dead - 1) = 0 := by omega
        rw [hdz, if_pos rfl]
        have C := ih (j + 1) _ 0 { f with cn := false } (some j) (by omega) hS' rfl (fun q e => by cases e; omega)
        have hdr : (({ f with cn := false } :: r : List SF)).drop (0 + 1) = S.fs.drop (0 + 1) := by rw [hfs]; rfl
        dsimp only at C
        rw [hdr] at C
        have e0 : 0 + (0 - 1) = 0 := rfl
        rw [e0] at C
        have hno := C.no rfl
        refine ⟨by have := C.lo; omega, C.hi, C.op, ?_, (fun q => by rw [hc] at q; cases q), fun _ => .inr ⟨j, _, hno, Nat.le_refl _, by have := C.lo; omega, ho, hS', ?_, hdr ▸ rfl, rfl, rfl⟩⟩
        · obtain ⟨Se, f', a1, a2, a3, a4, a5, a6, a7, a8, _⟩ := C.at_
          refine ⟨Se, f', a1, a2, a3, a4, a5, a6, a7, a8, fun _ he => ?_⟩
          rw [hno] at he
          have := hq j he.symm
          omega
        · have K := keep_tr hB hr k (j + 1) _ Sn (by omega) hS' (by rw [show j + 1 + k = B.n by omega]; exact hn)
          exact K.2.1 f.o _ (up1_same _ _ _)
      | succ t =>
        rw [if_neg (by omega)]
        rw [hfs] at hf
        exact go (t + 1) els _ (by show t + 1 + (S.dead - 1) = t + 1 + (0 - 1); omega) hf (by rw [hfs]; rfl) rfl
    | sht g r ho hd hfs hbn =>
      rw [if_neg (by omega), if_neg (by omega), if_pos ho]
      cases t with
      | zero =>
        rw [hfs] at hf
        have hf : some g = some f := hf
        cases hf
        rw [if_pos (by omega)]
        have K := keep_tr hB hr k (j + 1) _ Sn (by omega) hS' (by rw [show j + 1 + k = B.n by omega]; exact hn)
        refine ⟨Nat.le_refl _, by omega, ho, ⟨S, f, hS, hd, by rw [hfs]; rfl, rfl, rfl, rfl, rfl, K.1 f.o _ (up1_same _ _ _), fun hc _ => K.2.1 f.o _ ?_⟩, fun _ => rfl, fun _ => .inl rfl⟩
        show (if f.cn = true then up1 S.el f.o S.A.length else S.el) f.o = _
        rw [if_pos hc, up1_same]
      | succ t =>
        rw [if_neg (by omega)]
        rw [hfs] at hf
        exact go t els _ (by show t + 1 + (S.dead - 1) - 1 = t + (0 - 1); omega) hf (by rw [hfs]; rfl) rfl
    | pln A h' d h0 c2 c5 c11 hd hA =>
      rw [if_neg c2, if_neg c5, if_neg c11]
      exact go t els _ (by show t + (S.dead - 1) = t + (d - 1); omega) hf rfl rfl
end Go.Proofs.Qxb6500321a
