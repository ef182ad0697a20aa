/-
  The model and the machine: the open blocks, the well-made body, the places.
-/
import Derived.Test.Qxb6500321aMoA
set_option linter.unusedSimpArgs false
set_option linter.unusedVariables false
set_option maxRecDepth 100000
set_option linter.unusedSectionVars false
namespace Go.Proofs.Qxb6500321a
open Go Go.Vc

theorem upd_same {α : Type} (f : Nat → α) (i : Nat) (a : α) : upd f i a i = a := if_pos rfl
theorem upd_ne {α : Type} (f : Nat → α) {i j : Nat} (a : α) (h : j ≠ i) : upd f i a j = f j := if_neg h
theorem rowsS_len (fs : List SF) (tab : Nat → Int) : ∀ (n a : Nat) {cs : List SC}, rowsS fs tab n a = some cs → cs.length = n
  | 0, a, cs, h => by cases h; rfl
  | n + 1, a, cs, h => by
    unfold rowsS at h
    split at h
    · cases h
    · cases hr : rowsS fs tab n (a + 1) with
      | none => rw [hr] at h; cases h
      | some l =>
        rw [hr] at h
        cases h
        have := rowsS_len fs tab n (a + 1) hr
        simp [this]
/-- How many cells lie ahead of instruction j. -/
def wl (B : BD) (res j : Nat) : Nat := match trS B res j with | some S => S.A.length | none => 0
theorem wl_of {B : BD} {res j : Nat} {S : SS} (h : trS B res j = some S) : wl B res j = S.A.length := by unfold wl; rw [h]
/-- An open block, the t-th from the top. -/
structure FrK (B : BD) (res i : Nat) (rest : List SF) (g : SF) : Prop where
  le : g.o ≤ i
  at_ : ∃ S0 g0, trS B res g.o = some S0 ∧ S0.dead = 0 ∧ S0.fs = g0 :: rest ∧ g0.o = g.o
  bo : g.o = 0 → rest = [] ∧ g.op ≠ 3
  bl : g.o ≠ 0 → rest ≠ [] ∧ (B.ins (g.o - 1)).op = g.op
  lp : g.op = 3 → wl B res (g.o - 1) = g.st
def FrA (B : BD) (res i : Nat) (S : SS) : Prop := ∀ t g, S.fs[t]? = some g → FrK B res i (S.fs.drop (t + 1)) g
theorem FrK.up {B : BD} {res i : Nat} {rest : List SF} {g : SF} (F : FrK B res i rest g) : FrK B res (i + 1) rest g := ⟨by have := F.le; omega, F.at_, F.bo, F.bl, F.lp⟩
theorem open_info {B : BD} {i : Nat} {S S' : SS} {f : SF} {r : List SF} (hfs : S.fs = f :: r) (h0 : S.dead = 0) (ho : (B.ins i).op = 2 ∨ (B.ins i).op = 3 ∨ (B.ins i).op = 4) (h : stepS B i S = some S') :
    ∃ g, S'.fs = g :: S.fs ∧ g.o = i + 1 ∧ g.op = (B.ins i).op ∧ g.cn = ((B.ins i).op == 4) ∧ ((B.ins i).op = 3 → g.st = S.A.length) ∧ S.fs.length ≠ 7 ∧ S'.dead = 0 := by
  have hk : (skipP (B.ins i).op S.dead).1 = false := by unfold skipP; rw [if_pos h0]
  unfold stepS at h
  rw [hk] at h
  rw [if_neg (by simp)] at h
  unfold liveS at h
  rw [if_pos ho] at h
  unfold openS at h
  rw [hfs] at h
  dsimp only at h
  by_cases q7 : (f :: r).length = 7
  · rw [if_pos q7] at h; cases h
  rw [if_neg q7] at h
  rw [hfs]
  by_cases q4 : (B.ins i).op = 4
  · rw [if_pos q4] at h
    split at h
    · cases h
    · cases h
      exact ⟨_, rfl, rfl, rfl, by rw [q4]; rfl, fun e => by omega, q7, h0⟩
  · rw [if_neg q4] at h
    cases h
    exact ⟨_, rfl, rfl, rfl, by simpa using q4, fun e => rfl, q7, h0⟩
theorem stp_ne {B : BD} {i : Nat} {S S' : SS} (h0 : S.dead = 0) (ho : (B.ins i).op = 2 ∨ (B.ins i).op = 3 ∨ (B.ins i).op = 4) (h : stepS B i S = some S') : ∃ f r, S.fs = f :: r := by
  cases hS : S.fs with
  | cons f r => exact ⟨f, r, rfl⟩
  | nil =>
    have hk : (skipP (B.ins i).op S.dead).1 = false := by unfold skipP; rw [if_pos h0]
    unfold stepS at h
    rw [hk] at h
    rw [if_neg (by simp)] at h
    unfold liveS at h
    rw [if_pos ho] at h
    unfold openS at h
    rw [hS] at h
    cases h
theorem frA_step {B : BD} {res i : Nat} {S S' : SS} (hS : trS B res i = some S) (F : FrA B res i S) (h : stepS B i S = some S') : FrA B res (i + 1) S' := by
  have hS' : trS B res (i + 1) = some S' := by rw [trS_succ hS]; exact h
  cases stp_of h using Stp.cs with
  | skip d h0 hd => exact fun t g hg => (F t g hg).up
  | pln A h' d h0 _ _ _ _ hA => exact fun t g hg => (F t g hg).up
  | opn f A h' h0 ho hf hl hA =>
    obtain ⟨f0, r, hfs⟩ := stp_ne h0 ho h
    obtain ⟨g', e1, e2, e3, e4, e5, e6, e7⟩ := open_info hfs h0 ho h
    have e1 : f :: S.fs = g' :: S.fs := e1
    injection e1 with e1
    subst e1
    intro t g hg
    cases t with
    | zero =>
      have hg : some f = some g := hg
      cases hg
      refine ⟨by omega, ⟨_, f, by rw [e2]; exact hS', e7, rfl, rfl⟩, fun z => by omega, fun _ => ⟨?_, by rw [e2, e3]; rfl⟩, fun z => ?_⟩
      · show S.fs ≠ []
        rw [hfs]; simp
      · rw [e2, e5 (by rw [← e3]; exact z)]
        exact wl_of hS
    | succ t => exact (F t g hg).up
  | trn f r ho hd hfs hc _ =>
    intro t g hg
    cases t with
    | zero =>
      have hg : some { f with cn := false } = some g := hg
      cases hg
      have K := F 0 f (by rw [hfs]; rfl)
      rw [hfs] at K
      exact ⟨by have := K.le; show f.o ≤ i + 1; omega, K.at_, K.bo, K.bl, K.lp⟩
    | succ t =>
      have K := F (t + 1) g (by rw [hfs]; exact hg)
      rw [hfs] at K
      exact K.up
  | sht f r ho hd hfs hn =>
    intro t g hg
    have K := F (t + 1) g (by rw [hfs]; exact hg)
    rw [hfs] at K
    exact K.up
theorem frA_init (B : BD) (res : Nat) : FrA B res 0 (initS res) := fun t g hg => by
  cases t with
  | zero =>
    have hg : some (⟨0, 11, 0, res, 0, false⟩ : SF) = some g := hg
    cases hg
    exact ⟨Nat.le_refl _, ⟨initS res, _, rfl, rfl, rfl, rfl⟩, fun _ => ⟨rfl, by simp⟩, fun z => absurd rfl z, fun z => by cases z⟩
  | succ t => cases hg
/-- How many cells a body may give. -/
theorem len_step {B : BD} {i : Nat} {S S' : SS} (hx : 0 ≤ (B.ins i).x) (h : stepS B i S = some S') (hl : S.A.length ≤ wsum B i) : S'.A.length ≤ wsum B (i + 1) := by
  rw [wsum_succ]
  unfold stepS at h
  split at h
  · cases h; show S.A.length ≤ _; omega
  · unfold liveS at h
    split at h
    · unfold openS at h
      split at h
      · cases h
      · split at h
        · cases h
        · split at h
          · split at h
            · cases h
            · cases h; simp; omega
          · cases h; show S.A.length ≤ _; omega
    · split at h
      · unfold turnS at h
        split at h
        · cases h
        · split at h
          · cases h
          · split at h
            · cases h
            · cases h
              show (turnA S _).length ≤ _
              unfold turnA
              split
              · simp; omega
              · omega
      · split at h
        · split at h
          · cases h
          · rename_i S1 hs
            split at h
            · cases h
            · cases h
              unfold shutS at hs
              split at hs
              · cases hs
              · split at hs
                · cases hs
                · split at hs
                  · cases hs
                  · cases hs
                    dsimp only
                    split
                    · simp; omega
                    · omega
        · split at h
          · unfold brS at h
            split at h
            · cases h
            · split at h
              · cases h
              · rename_i f _ _ _ _ _
                by_cases q : S.h < f.fl + (if (B.ins i).op = 13 then 1 else 0)
                · rw [if_pos q] at h; cases h
                · rw [if_neg q] at h; cases h; simp; omega
          · split at h
            · rename_i q14
              unfold tabS at h
              split at h
              · cases h
              · split at h
                · cases h
                · rename_i q
                  split at h
                  · cases h
                  · rename_i cs hcs
                    cases h
                    have := rowsS_len _ _ _ _ hcs
                    rw [if_pos ⟨q14, by omega⟩]
                    simp
                    omega
            · split at h
              · cases h; unfold retS; simp; omega
              · unfold plainS at h
                split at h
                · cases h
                · split at h
                  · cases h
                  · split at h
                    · cases h
                    · cases h; simp; omega
/-- The body is well made from here on. -/
def WI (ins : Nat → Ins) (n nt : Nat) (i : Nat) (S : SS) : Prop :=
  (i = n ∧ S.fs = []) ∨ (S.fs ≠ [] ∧ ∃ may u, wfGo ins n nt (n - i) i (S.fs.length - 1 + (S.dead - 1)) may u ∧ ∀ t g, S.fs[t]? = some g → t + 1 < S.fs.length → may (S.fs.length - 2 - t) = g.cn)
theorem wi_init {ins : Nat → Ins} {n nt res : Nat} (h : wfGo ins n nt n 0 0 (fun _ => false) 0) : WI ins n nt 0 (initS res) := .inr ⟨by simp [initS], _, _, h, fun t g hg hl => by
  have hl : t + 1 < 1 := hl
  omega⟩
theorem wi_facts {ins : Nat → Ins} {n nt i : Nat} {S : SS} {f : SF} {r : List SF} (W : WI ins n nt i S) (hi : i < n) (hfs : S.fs = f :: r) :
    ((ins i).op = 5 → S.dead ≤ 1 → f.cn = true ∧ r ≠ []) ∧ ((ins i).op = 2 ∨ (ins i).op = 3 ∨ (ins i).op = 4 → S.dead = 0 → r.length < 6) ∧ ((ins i).op = 11 → S.dead ≤ 1 → r = [] → i + 1 = n) := by
  rcases W with ⟨e, _⟩ | ⟨_, may, u, hw, hm⟩
  · omega
  obtain ⟨k, hk⟩ : ∃ k, n - i = k + 1 := ⟨n - i - 1, by omega⟩
  rw [hk, wfGo_succ] at hw
  have hl : S.fs.length = r.length + 1 := by rw [hfs]; rfl
  refine ⟨fun e5 hd => ?_, fun e2 hd => ?_, fun e11 hd hr => ?_⟩
  · rw [if_neg (by omega)] at hw
    have hw := hw.2
    rw [if_neg (by omega), if_pos e5] at hw
    have h1 := hw.1
    have hr : r ≠ [] := by rintro rfl; apply h1; simp at hl; omega
    have hr' : 0 < r.length := List.length_pos_iff.2 hr
    refine ⟨?_, hr⟩
    have := hm 0 f (by rw [hfs]; rfl) (by omega)
    rw [← this, ← hw.2.1]
    congr 1
    omega
  · rw [if_neg (by omega)] at hw
    have hw := hw.2
    rw [if_pos e2] at hw
    have := hw.1
    omega
  · rw [if_neg (by omega)] at hw
    have hw := hw.2
    rw [if_neg (by omega), if_neg (by omega), if_pos e11, if_pos (by rw [hl, hr]; simp; omega)] at hw
    exact hw.1
theorem wi_step {B : BD} {n nt i : Nat} {S S' : SS} (W : WI B.ins n nt i S) (hi : i < n) (h : stepS B i S = some S') : WI B.ins n nt (i + 1) S' := by
  rcases W with ⟨e, _⟩ | ⟨hne, may, u, hw, hm⟩
  · omega
  obtain ⟨k, hk⟩ : ∃ k, n - i = k + 1 := ⟨n - i - 1, by omega⟩
  rw [hk, wfGo_succ] at hw
  have hk' : n - (i + 1) = k := by omega
  have hL : 0 < S.fs.length := List.length_pos_iff.2 hne
  cases stp_of h using Stp.cs with
  | skip d h0 hd =>
    right
    rw [hk']
    refine ⟨hne, ?_⟩
    dsimp only
    rcases hd with ⟨c2, rfl⟩ | ⟨c5, h1, rfl⟩ | ⟨c11, h1, hd⟩ | ⟨c2, c5, c11, rfl⟩
    · rw [if_neg (by omega)] at hw
      have hw := hw.2
      rw [if_pos c2] at hw
      refine ⟨_, _, by rw [show S.fs.length - 1 + (S.dead + 1 - 1) = S.fs.length - 1 + (S.dead - 1) + 1 by omega]; exact hw.2, fun t g hg hl => ?_⟩
      rw [upd_ne _ _ (by omega)]
      exact hm t g hg hl
    · rw [if_neg (by omega)] at hw
      have hw := hw.2
      rw [if_neg (by omega), if_pos c5] at hw
      refine ⟨_, _, hw.2.2, fun t g hg hl => ?_⟩
      rw [upd_ne _ _ (by omega)]
      exact hm t g hg hl
    · rw [if_neg (by omega)] at hw
      have hw := hw.2
      rw [if_neg (by omega), if_neg (by omega), if_pos c11, if_neg (by omega)] at hw
      exact ⟨_, _, by rw [show S.fs.length - 1 + (d - 1) = S.fs.length - 1 + (S.dead - 1) - 1 by omega]; exact hw, hm⟩
    · by_cases q : (B.ins i).op = 14
      · rw [if_pos q] at hw
        exact ⟨_, _, hw.2.2.2, hm⟩
      · rw [if_neg q] at hw
        have hw := hw.2
        rw [if_neg c2, if_neg c5, if_neg c11] at hw
        exact ⟨_, _, hw, hm⟩
  | pln A h' d h0 c2 c5 c11 hd hA =>
    right
    rw [hk']
    refine ⟨hne, ?_⟩
    dsimp only
    rw [show S.fs.length - 1 + (d - 1) = S.fs.length - 1 + (S.dead - 1) by omega]
    by_cases q : (B.ins i).op = 14
    · rw [if_pos q] at hw
      exact ⟨_, _, hw.2.2.2, hm⟩
    · rw [if_neg q] at hw
      have hw := hw.2
      rw [if_neg c2, if_neg c5, if_neg c11] at hw
      exact ⟨_, _, hw, hm⟩
  | opn f A h' h0 ho hf hl hA =>
    obtain ⟨f0, r, hfs⟩ := stp_ne h0 ho h
    obtain ⟨g', e1, e2, e3, e4, e5, e6, e7⟩ := open_info hfs h0 ho h
    have e1 : f :: S.fs = g' :: S.fs := e1
    injection e1 with e1
    subst e1
    right
    rw [hk']
    refine ⟨by simp, ?_⟩
    dsimp only
    rw [if_neg (by omega)] at hw
    have hw := hw.2
    rw [if_pos ho] at hw
    refine ⟨_, _, by rw [show (f :: S.fs).length - 1 + (S.dead - 1) = S.fs.length - 1 + (S.dead - 1) + 1 by simp; omega]; exact hw.2, fun t g hg hl => ?_⟩
    have hl : t + 1 < S.fs.length + 1 := hl
    show upd may _ _ (S.fs.length + 1 - 2 - t) = _
    cases t with
    | zero =>
      have hg : some f = some g := hg
      cases hg
      rw [show S.fs.length + 1 - 2 - 0 = S.fs.length - 1 + (S.dead - 1) by omega, upd_same, e4]
    | succ t =>
      rw [upd_ne _ _ (by omega), show S.fs.length + 1 - 2 - (t + 1) = S.fs.length - 2 - t by omega]
      exact hm t g hg (by omega)
  | trn f r ho hd hfs hc _ =>
    right
    rw [hk']
    refine ⟨by simp, ?_⟩
    dsimp only
    rw [if_neg (by omega)] at hw
    have hw := hw.2
    rw [if_neg (by omega), if_pos ho] at hw
    have hlen : S.fs.length = r.length + 1 := by rw [hfs]; rfl
    refine ⟨_, _, by rw [show ({ f with cn := false } :: r : List SF).length - 1 + (0 - 1) = S.fs.length - 1 + (S.dead - 1) by simp; omega]; exact hw.2.2, fun t g hg hl => ?_⟩
    have hl : t + 1 < r.length + 1 := hl
    show upd may _ _ (r.length + 1 - 2 - t) = _
    cases t with
    | zero =>
      have hg : some { f with cn := false } = some g := hg
      cases hg
      rw [show r.length + 1 - 2 - 0 = S.fs.length - 1 + (S.dead - 1) - 1 by omega, upd_same]
    | succ t =>
      rw [upd_ne _ _ (by omega)]
      have := hm (t + 1) g (by rw [hfs]; exact hg) (by omega)
      rw [hlen] at this
      exact this
  | sht f r ho hd hfs hn =>
    have hlen : S.fs.length = r.length + 1 := by rw [hfs]; rfl
    rw [if_neg (by omega)] at hw
    have hw := hw.2
    rw [if_neg (by omega), if_neg (by omega), if_pos ho] at hw
    by_cases hr : r = []
    · rw [if_pos (by rw [hlen, hr]; simp; omega)] at hw
      exact .inl ⟨hw.1, hr⟩
    · have hr' : 0 < r.length := List.length_pos_iff.2 hr
      rw [if_neg (by omega)] at hw
      right
      rw [hk']
      refine ⟨hr, ?_⟩
      dsimp only
      refine ⟨_, _, by rw [show r.length - 1 + (0 - 1) = S.fs.length - 1 + (S.dead - 1) - 1 by omega]; exact hw, fun t g hg hl => ?_⟩
      have := hm (t + 1) g (by rw [hfs]; exact hg) (by omega)
      rw [← this]
      congr 1
      omega
/-- An end within the body gives no cell. -/
theorem sht_len {B : BD} {i : Nat} {S S' : SS} {f : SF} {r : List SF} (hd : S.dead ≤ 1) (ho : (B.ins i).op = 11) (hfs : S.fs = f :: r) (hr : r ≠ []) (h : stepS B i S = some S') : S'.A.length = S.A.length := by
  have hr' : r.length ≠ 0 := fun z => hr (List.length_eq_zero_iff.1 z)
  cases stp_of h using Stp.cs with
  | skip d h0 hd' => rfl
  | pln A h' d h0 c2 c5 c11 hd' hA => exact absurd ho c11
  | opn g A h' h0 ho' hf hl hA => omega
  | trn g r' ho' hd' hfs' hc _ => omega
  | sht g r' ho' hd' hfs' hn =>
    rw [hfs] at hfs'
    cases hfs'
    dsimp only
    rw [if_neg hr']
/-- Where a branch goes, by the search. -/
theorem tg_end {B : BD} {res : Nat} (hB : BOkB B) (hr : res ≤ 1024) {Sn : SS} (hn : trS B res B.n = some Sn) (hf0 : Sn.fs.length = 0) {i : Nat} {rest : List SF} {g : SF} (K : FrK B res i rest g) (hi : i ≤ B.n) :
    (mtc B.ins B.n (B.n - g.o) g.o 0 none).1 < B.n ∧ syX Sn (.e g.o) = ((if g.o = 0 then wl B res (mtc B.ins B.n (B.n - g.o) g.o 0 none).1 else wl B res ((mtc B.ins B.n (B.n - g.o) g.o 0 none).1 + 1) : Nat) : Int) := by
  obtain ⟨S0, g0, h0, hd, hfs, ho⟩ := K.at_
  have hle := K.le
  have C := close hB hr hn hf0 (B.n - g.o) g.o S0 0 g0 none (by omega) h0 (by rw [hfs]; rfl) (fun q e => by cases e)
  rw [hd, show 0 + (0 - 1) = 0 from rfl] at C
  obtain ⟨Se, f', a1, a2, a3, a4, a5, a6, a7, a8, _⟩ := C.at_
  refine ⟨C.hi, ?_⟩
  have hr' : S0.fs.drop (0 + 1) = rest := by rw [hfs]; rfl
  rw [hr'] at a3
  rw [ho] at a8
  have e : syX Sn (.e g.o) = (Se.A.length : Int) := by show (((Sn.en g.o).getD 0 : Nat) : Int) = _; rw [a8]; rfl
  rw [e]
  congr 1
  split
  · rw [wl_of a1]
  · rename_i z
    have hne := (K.bl z).1
    obtain ⟨S', hS'⟩ := trS_pre (B.n - ((mtc B.ins B.n (B.n - g.o) g.o 0 none).1 + 1)) ((mtc B.ins B.n (B.n - g.o) g.o 0 none).1 + 1) (show trS B res _ = some Sn by rw [show (mtc B.ins B.n (B.n - g.o) g.o 0 none).1 + 1 + (B.n - ((mtc B.ins B.n (B.n - g.o) g.o 0 none).1 + 1)) = B.n by have := C.hi; omega]; exact hn)
    rw [wl_of hS']
    have hstep := hS'
    rw [trS_succ a1] at hstep
    exact (sht_len a2 C.op a3 hne hstep).symm
/-- Where an if goes, by the search. -/
theorem tg_else {B : BD} {res : Nat} (hB : BOkB B) (hr : res ≤ 1024) {Sn : SS} (hn : trS B res B.n = some Sn) (hf0 : Sn.fs.length = 0) {i : Nat} {S S' : SS} {f : SF} {r : List SF} (hS : trS B res i = some S) (h0 : S.dead = 0) (ho : (B.ins i).op = 4) (hfs : S.fs = f :: r) (h : stepS B i S = some S') (hi : i < B.n) :
    (mtc B.ins B.n (B.n - (i + 1)) (i + 1) 0 none).1 < B.n ∧ (∀ q, (mtc B.ins B.n (B.n - (i + 1)) (i + 1) 0 none).2 = some q → q < B.n) ∧
      syX Sn (.c (i + 1)) = ((match (mtc B.ins B.n (B.n - (i + 1)) (i + 1) 0 none).2 with | some q => wl B res (q + 1) | none => wl B res ((mtc B.ins B.n (B.n - (i + 1)) (i + 1) 0 none).1 + 1) : Nat) : Int) := by
  have hS' : trS B res (i + 1) = some S' := by rw [trS_succ hS]; exact h
  obtain ⟨g, e1, e2, e3, e4, e5, e6, e7⟩ := open_info hfs h0 (by omega) h
  have C := close hB hr hn hf0 (B.n - (i + 1)) (i + 1) S' 0 g none (by omega) hS' (by rw [e1]; rfl) (fun q e => by cases e)
  rw [e7, show 0 + (0 - 1) = 0 from rfl] at C
  have hcn : g.cn = true := by rw [e4, ho]; rfl
  have hrest : S'.fs.drop (0 + 1) = S.fs := by rw [e1]; rfl
  rw [hrest] at C
  generalize hz : mtc B.ins B.n (B.n - (i + 1)) (i + 1) 0 none = z at C ⊢
  obtain ⟨e, els⟩ := z
  have hhi : e < B.n := C.hi
  refine ⟨hhi, ?_⟩
  dsimp only at C ⊢
  rcases C.ye hcn with q | ⟨q, Sq, q1, q2, q3, q4, q5, q6, q7⟩
  · subst q
    refine ⟨fun q hq => (by cases hq), ?_⟩
    obtain ⟨Se, f', a1, a2, a3, a4, a5, a6, a7, a8, a9⟩ := C.at_
    have a9 := a9 hcn rfl
    rw [e2] at a9
    have : syX Sn (.c (i + 1)) = (Se.A.length : Int) := by show (((Sn.el (i + 1)).getD 0 : Nat) : Int) = _; rw [a9]; rfl
    rw [this]
    dsimp only
    congr 1
    obtain ⟨S2, hS2⟩ := trS_pre (B.n - (e + 1)) (e + 1) (show trS B res _ = some Sn by rw [show e + 1 + (B.n - (e + 1)) = B.n by omega]; exact hn)
    rw [wl_of hS2]
    have hstep := hS2
    rw [trS_succ a1] at hstep
    exact (sht_len a2 C.op a3 (by rw [hfs]; simp) hstep).symm
  · subst q1
    refine ⟨fun q' hq => by cases hq; omega, ?_⟩
    rw [e2] at q6
    have : syX Sn (.c (i + 1)) = (Sq.A.length : Int) := by show (((Sn.el (i + 1)).getD 0 : Nat) : Int) = _; rw [q6]; rfl
    rw [this]
    dsimp only
    rw [wl_of q5]
end Go.Proofs.Qxb6500321a
