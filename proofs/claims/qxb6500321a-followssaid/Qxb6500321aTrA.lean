/-
  The machine's trace; where a block closes.
-/
import Derived.Test.Qxb6500321aPrI
set_option linter.unusedSimpArgs false
set_option linter.unusedVariables false
set_option maxRecDepth 100000
set_option linter.unusedSectionVars false
namespace Go.Proofs.Qxb6500321a
open Go Go.Vc

/-- A body within its bounds. -/
structure BOkB (B : BD) : Prop where
  x : ∀ i, i < B.n → 0 ≤ (B.ins i).x
  t : ∀ j, j < B.nt → 0 ≤ B.tab j
def trS (B : BD) (res : Nat) : Nat → Option SS
  | 0 => some (initS res)
  | i + 1 => (trS B res i).bind (stepS B i)
theorem trS_succ {B : BD} {res i : Nat} {S : SS} (h : trS B res i = some S) : trS B res (i + 1) = stepS B i S := by
  show (trS B res i).bind _ = _
  rw [h]; rfl
theorem trS_pre {B : BD} {res : Nat} : ∀ (k i : Nat) {S : SS}, trS B res (i + k) = some S → ∃ S0, trS B res i = some S0
  | 0, i, S, h => ⟨S, h⟩
  | k + 1, i, S, h => by
    have h : (trS B res (i + k)).bind (stepS B (i + k)) = some S := h
    cases hk : trS B res (i + k) with
    | none => rw [hk] at h; cases h
    | some S1 => exact trS_pre k i hk
theorem go_tr {B : BD} {res : Nat} : ∀ (k i : Nat) (S S' : SS), trS B res i = some S → goS B k i S = .inr S' → trS B res (i + k) = some S' ∧ S'.fs.length = 0
  | 0, i, S, S', h, hg => by
    have hg : (if S.fs.length = 0 then Sum.inr S else Sum.inl i) = Sum.inr S' := hg
    split at hg
    · cases hg; rename_i q; exact ⟨h, q⟩
    · cases hg
  | k + 1, i, S, S', h, hg => by
    rw [goS_succ] at hg
    cases hs : stepS B i S with
    | none => rw [hs] at hg; cases hg
    | some S1 =>
      rw [hs] at hg
      have := go_tr k (i + 1) S1 S' (by rw [trS_succ h]; exact hs) hg
      rwa [show i + 1 + k = i + (k + 1) by omega] at this

/-- What one step is. -/
def Stp (B : BD) (i : Nat) (S : SS) (x_0 : SS) : Prop :=
  (∃ (d : Nat), ∃ (h0 : S.dead ≠ 0), ∃ (hd : ((B.ins i).op = 2 ∨ (B.ins i).op = 3 ∨ (B.ins i).op = 4) ∧ d = S.dead + 1 ∨ (B.ins i).op = 5 ∧ 1 < S.dead ∧ d = S.dead ∨ (B.ins i).op = 11 ∧ 1 < S.dead ∧ d + 1 = S.dead ∨ ¬ ((B.ins i).op = 2 ∨ (B.ins i).op = 3 ∨ (B.ins i).op = 4) ∧ ¬ (B.ins i).op = 5 ∧ ¬ (B.ins i).op = 11 ∧ d = S.dead), x_0 = { S with dead := d }) ∨
  (∃ (f : SF), ∃ (A : List SC), ∃ (h : Nat), ∃ (h0 : S.dead = 0), ∃ (ho : (B.ins i).op = 2 ∨ (B.ins i).op = 3 ∨ (B.ins i).op = 4), ∃ (hf : f.o = i + 1), ∃ (hl : S.A.length ≤ A.length), ∃ (hA : ∀ (j : Nat) (c : SC), S.A[j]? = some c → A[j]? = some c), x_0 = ⟨A, f :: S.fs, h, S.dead, S.en, S.el⟩) ∨
  (∃ (f : SF), ∃ (r : List SF), ∃ (ho : (B.ins i).op = 5), ∃ (hd : S.dead ≤ 1), ∃ (hS : S.fs = f :: r), ∃ (hc : f.cn = true), ∃ (hs : turnS S = some ⟨turnA S f, { f with cn := false } :: r, f.fl, 0, S.en, up1 S.el f.o (turnA S f).length⟩), x_0 = ⟨turnA S f, { f with cn := false } :: r, f.fl, 0, S.en, up1 S.el f.o (turnA S f).length⟩) ∨
  (∃ (f : SF), ∃ (r : List SF), ∃ (ho : (B.ins i).op = 11), ∃ (hd : S.dead ≤ 1), ∃ (hS : S.fs = f :: r), ∃ (hn : r.length = 0 → i + 1 = B.n), x_0 = ⟨if r.length = 0 then S.A ++ [⟨11, .k 0, 0⟩] else S.A, r, f.fl + f.ar, 0, up1 S.en f.o S.A.length, if f.cn = true then up1 S.el f.o S.A.length else S.el⟩) ∨
  (∃ (A : List SC), ∃ (h d : Nat), ∃ (h0 : S.dead = 0), ∃ (hn : ¬ ((B.ins i).op = 2 ∨ (B.ins i).op = 3 ∨ (B.ins i).op = 4)), ∃ (h5 : ¬ (B.ins i).op = 5), ∃ (h11 : ¬ (B.ins i).op = 11), ∃ (hd : d ≤ 1), ∃ (hA : ∀ (j : Nat) (c : SC), S.A[j]? = some c → A[j]? = some c), x_0 = ⟨A, S.fs, h, d, S.en, S.el⟩)
theorem Stp.skip {B : BD} {i : Nat} {S : SS} (d : Nat) (h0 : S.dead ≠ 0) (hd : ((B.ins i).op = 2 ∨ (B.ins i).op = 3 ∨ (B.ins i).op = 4) ∧ d = S.dead + 1 ∨ (B.ins i).op = 5 ∧ 1 < S.dead ∧ d = S.dead ∨ (B.ins i).op = 11 ∧ 1 < S.dead ∧ d + 1 = S.dead ∨ ¬ ((B.ins i).op = 2 ∨ (B.ins i).op = 3 ∨ (B.ins i).op = 4) ∧ ¬ (B.ins i).op = 5 ∧ ¬ (B.ins i).op = 11 ∧ d = S.dead) : Stp B i S { S with dead := d } := .inl (⟨d, h0, hd, rfl⟩)
theorem Stp.opn {B : BD} {i : Nat} {S : SS} (f : SF) (A : List SC) (h : Nat) (h0 : S.dead = 0) (ho : (B.ins i).op = 2 ∨ (B.ins i).op = 3 ∨ (B.ins i).op = 4) (hf : f.o = i + 1) (hl : S.A.length ≤ A.length) (hA : ∀ (j : Nat) (c : SC), S.A[j]? = some c → A[j]? = some c) : Stp B i S ⟨A, f :: S.fs, h, S.dead, S.en, S.el⟩ := .inr (.inl (⟨f, A, h, h0, ho, hf, hl, hA, rfl⟩))
theorem Stp.trn {B : BD} {i : Nat} {S : SS} (f : SF) (r : List SF) (ho : (B.ins i).op = 5) (hd : S.dead ≤ 1) (hS : S.fs = f :: r) (hc : f.cn = true) (hs : turnS S = some ⟨turnA S f, { f with cn := false } :: r, f.fl, 0, S.en, up1 S.el f.o (turnA S f).length⟩) : Stp B i S ⟨turnA S f, { f with cn := false } :: r, f.fl, 0, S.en, up1 S.el f.o (turnA S f).length⟩ := .inr (.inr (.inl (⟨f, r, ho, hd, hS, hc, hs, rfl⟩)))
theorem Stp.sht {B : BD} {i : Nat} {S : SS} (f : SF) (r : List SF) (ho : (B.ins i).op = 11) (hd : S.dead ≤ 1) (hS : S.fs = f :: r) (hn : r.length = 0 → i + 1 = B.n) : Stp B i S ⟨if r.length = 0 then S.A ++ [⟨11, .k 0, 0⟩] else S.A, r, f.fl + f.ar, 0, up1 S.en f.o S.A.length, if f.cn = true then up1 S.el f.o S.A.length else S.el⟩ := .inr (.inr (.inr (.inl (⟨f, r, ho, hd, hS, hn, rfl⟩))))
theorem Stp.pln {B : BD} {i : Nat} {S : SS} (A : List SC) (h d : Nat) (h0 : S.dead = 0) (hn : ¬ ((B.ins i).op = 2 ∨ (B.ins i).op = 3 ∨ (B.ins i).op = 4)) (h5 : ¬ (B.ins i).op = 5) (h11 : ¬ (B.ins i).op = 11) (hd : d ≤ 1) (hA : ∀ (j : Nat) (c : SC), S.A[j]? = some c → A[j]? = some c) : Stp B i S ⟨A, S.fs, h, d, S.en, S.el⟩ := .inr (.inr (.inr (.inr (⟨A, h, d, h0, hn, h5, h11, hd, hA, rfl⟩))))
theorem Stp.cs {B : BD} {i : Nat} {S : SS} {motive : (x_0 : SS) → Stp B i S x_0 → Prop} (skip : ∀ (d : Nat) (h0 : S.dead ≠ 0) (hd : ((B.ins i).op = 2 ∨ (B.ins i).op = 3 ∨ (B.ins i).op = 4) ∧ d = S.dead + 1 ∨ (B.ins i).op = 5 ∧ 1 < S.dead ∧ d = S.dead ∨ (B.ins i).op = 11 ∧ 1 < S.dead ∧ d + 1 = S.dead ∨ ¬ ((B.ins i).op = 2 ∨ (B.ins i).op = 3 ∨ (B.ins i).op = 4) ∧ ¬ (B.ins i).op = 5 ∧ ¬ (B.ins i).op = 11 ∧ d = S.dead), motive { S with dead := d } (Stp.skip d h0 hd)) (opn : ∀ (f : SF) (A : List SC) (h : Nat) (h0 : S.dead = 0) (ho : (B.ins i).op = 2 ∨ (B.ins i).op = 3 ∨ (B.ins i).op = 4) (hf : f.o = i + 1) (hl : S.A.length ≤ A.length) (hA : ∀ (j : Nat) (c : SC), S.A[j]? = some c → A[j]? = some c), motive ⟨A, f :: S.fs, h, S.dead, S.en, S.el⟩ (Stp.opn f A h h0 ho hf hl hA)) (trn : ∀ (f : SF) (r : List SF) (ho : (B.ins i).op = 5) (hd : S.dead ≤ 1) (hS : S.fs = f :: r) (hc : f.cn = true) (hs : turnS S = some ⟨turnA S f, { f with cn := false } :: r, f.fl, 0, S.en, up1 S.el f.o (turnA S f).length⟩), motive ⟨turnA S f, { f with cn := false } :: r, f.fl, 0, S.en, up1 S.el f.o (turnA S f).length⟩ (Stp.trn f r ho hd hS hc hs)) (sht : ∀ (f : SF) (r : List SF) (ho : (B.ins i).op = 11) (hd : S.dead ≤ 1) (hS : S.fs = f :: r) (hn : r.length = 0 → i + 1 = B.n), motive ⟨if r.length = 0 then S.A ++ [⟨11, .k 0, 0⟩] else S.A, r, f.fl + f.ar, 0, up1 S.en f.o S.A.length, if f.cn = true then up1 S.el f.o S.A.length else S.el⟩ (Stp.sht f r ho hd hS hn)) (pln : ∀ (A : List SC) (h d : Nat) (h0 : S.dead = 0) (hn : ¬ ((B.ins i).op = 2 ∨ (B.ins i).op = 3 ∨ (B.ins i).op = 4)) (h5 : ¬ (B.ins i).op = 5) (h11 : ¬ (B.ins i).op = 11) (hd : d ≤ 1) (hA : ∀ (j : Nat) (c : SC), S.A[j]? = some c → A[j]? = some c), motive ⟨A, S.fs, h, d, S.en, S.el⟩ (Stp.pln A h d h0 hn h5 h11 hd hA)) {x_0 : SS} (h : Stp B i S x_0) : motive x_0 h := by
  rcases h with ⟨d, h0, hd, rfl⟩ | ⟨f, A, h, h0, ho, hf, hl, hA, rfl⟩ | ⟨f, r, ho, hd, hS, hc, hs, rfl⟩ | ⟨f, r, ho, hd, hS, hn, rfl⟩ | ⟨A, h, d, h0, hn, h5, h11, hd, hA, rfl⟩
  · exact skip d h0 hd
  · exact opn f A h h0 ho hf hl hA
  · exact trn f r ho hd hS hc hs
  · exact sht f r ho hd hS hn
  · exact pln A h d h0 hn h5 h11 hd hA
theorem pre_app {α : Type} (A cs : List α) : ∀ (j : Nat) (c : α), A[j]? = some c → (A ++ cs)[j]? = some c := fun j c h => by
  rw [List.getElem?_append_left (List.getElem?_eq_some_iff.1 h).1]; exact h
theorem stp_of {B : BD} {i : Nat} {S S' : SS} (h : stepS B i S = some S') : Stp B i S S' := by
  unfold stepS at h
  by_cases hk : (skipP (B.ins i).op S.dead).1 = true
  · rw [if_pos hk] at h
    cases h
    unfold skipP at hk ⊢
    by_cases h0 : S.dead = 0
    · rw [if_pos h0] at hk; cases hk
    rw [if_neg h0] at hk ⊢
    by_cases c2 : (B.ins i).op = 2 ∨ (B.ins i).op = 3 ∨ (B.ins i).op = 4
    · rw [if_pos c2]
      exact .skip _ h0 (.inl ⟨c2, rfl⟩)
    rw [if_neg c2] at hk ⊢
    by_cases c5 : (B.ins i).op = 5
    · rw [if_pos c5] at hk ⊢
      exact .skip _ h0 (.inr (.inl ⟨c5, of_decide_eq_true hk, rfl⟩))
    rw [if_neg c5] at hk ⊢
    by_cases c11 : (B.ins i).op = 11
    · rw [if_pos c11] at hk ⊢
      by_cases d1 : S.dead = 1
      · rw [if_pos d1] at hk; cases hk
      rw [if_neg d1]
      exact .skip _ h0 (.inr (.inr (.inl ⟨c11, by omega, by show S.dead - 1 + 1 = S.dead; omega⟩)))
    rw [if_neg c11]
    exact .skip _ h0 (.inr (.inr (.inr ⟨c2, c5, c11, rfl⟩)))
  · rw [if_neg hk] at h
    have live : (B.ins i).op ≠ 5 → (B.ins i).op ≠ 11 → S.dead = 0 := fun q5 q11 => by
      unfold skipP at hk
      by_cases h0 : S.dead = 0
      · exact h0
      · rw [if_neg h0] at hk
        exfalso
        apply hk
        by_cases c2 : (B.ins i).op = 2 ∨ (B.ins i).op = 3 ∨ (B.ins i).op = 4
        · rw [if_pos c2]
        · rw [if_neg c2, if_neg q5, if_neg q11]
    have dd : S.dead ≤ 1 := by
      unfold skipP at hk
      by_cases h0 : S.dead = 0
      · omega
      · rw [if_neg h0] at hk
        by_cases c2 : (B.ins i).op = 2 ∨ (B.ins i).op = 3 ∨ (B.ins i).op = 4
        · rw [if_pos c2] at hk; exact absurd rfl hk
        rw [if_neg c2] at hk
        by_cases c5 : (B.ins i).op = 5
        · rw [if_pos c5] at hk
          have : ¬ 1 < S.dead := fun q => hk (decide_eq_true q)
          omega
        rw [if_neg c5] at hk
        by_cases c11 : (B.ins i).op = 11
        · rw [if_pos c11] at hk
          by_cases d1 : S.dead = 1
          · omega
          · rw [if_neg d1] at hk; exact absurd rfl hk
        · rw [if_neg c11] at hk; exact absurd rfl hk
    unfold liveS at h
    by_cases c2 : (B.ins i).op = 2 ∨ (B.ins i).op = 3 ∨ (B.ins i).op = 4
    · rw [if_pos c2] at h
      have h0 := live (by omega) (by omega)
      unfold openS at h
      split at h
      · cases h
      · rename_i f r hS
        split at h
        · cases h
        · split at h
          · split at h
            · cases h
            · cases h
              exact .opn _ _ _ h0 c2 rfl (by simp) (pre_app _ _)
          · cases h
            exact .opn _ _ _ h0 c2 rfl (Nat.le_refl _) (fun _ _ q => q)
    rw [if_neg c2] at h
    by_cases c5 : (B.ins i).op = 5
    · rw [if_pos c5] at h
      have hh := h
      unfold turnS at h
      split at h
      · cases h
      · rename_i f r hS
        split at h
        · cases h
        · split at h
          · cases h
          · rename_i hc
            cases h
            exact .trn f r c5 dd hS (by simpa using hc) hh
    rw [if_neg c5] at h
    by_cases c11 : (B.ins i).op = 11
    · rw [if_pos c11] at h
      unfold shutS at h
      cases hS : S.fs with
      | nil => rw [hS] at h; cases h
      | cons f r =>
        rw [hS] at h
        dsimp only at h
        by_cases q1 : S.dead = 0 ∧ S.h ≠ f.fl + f.ar
        · rw [if_pos q1] at h; cases h
        rw [if_neg q1] at h
        by_cases q2 : 10 < f.fl + f.ar
        · rw [if_pos q2] at h; cases h
        rw [if_neg q2] at h
        dsimp only at h
        by_cases q3 : r.length = 0 ∧ i + 1 ≠ B.n
        · rw [if_pos q3] at h; cases h
        rw [if_neg q3] at h
        cases h
        exact .sht f r c11 dd hS (fun q => Decidable.byContradiction fun z => q3 ⟨q, z⟩)
    rw [if_neg c11] at h
    have h0 := live c5 c11
    by_cases c12 : (B.ins i).op = 12 ∨ (B.ins i).op = 13
    · rw [if_pos c12] at h
      unfold brS at h
      cases hS : S.fs with
      | nil => rw [hS] at h; cases h
      | cons f r =>
        rw [hS] at h
        dsimp only at h
        cases hg : (f :: r)[(B.ins i).x.toNat]? with
        | none => rw [hg] at h; cases h
        | some g =>
          rw [hg] at h
          dsimp only at h
          by_cases q : S.h < f.fl + (if (B.ins i).op = 13 then 1 else 0)
          · rw [if_pos q] at h; cases h
          · rw [if_neg q] at h
            cases h
            rw [← hS]
            exact .pln _ _ _ h0 c2 c5 c11 (by split <;> omega) (pre_app _ _)
    rw [if_neg c12] at h
    split at h
    · unfold tabS at h
      split at h
      · cases h
      · split at h
        · cases h
        · split at h
          · cases h
          · cases h
            exact .pln _ _ _ h0 c2 c5 c11 (by omega) (pre_app _ _)
    · split at h
      · cases h
        exact .pln _ _ _ h0 c2 c5 c11 (by omega) (pre_app _ _)
      · unfold plainS at h
        cases hS : S.fs with
        | nil => rw [hS] at h; cases h
        | cons f r =>
          rw [hS] at h
          dsimp only at h
          cases he : B.ef (B.ins i) with
          | none => rw [he] at h; cases h
          | some tg =>
            obtain ⟨t, g⟩ := tg
            rw [he] at h
            dsimp only at h
            by_cases q : S.h < f.fl + t ∨ 10 + t < S.h + g
            · rw [if_pos q] at h; cases h
            · rw [if_neg q] at h
              cases h
              rw [← hS]
              exact .pln _ _ _ h0 c2 c5 c11 (by split <;> omega) (pre_app _ _)
end Go.Proofs.Qxb6500321a
