/-
  What a step lays; the cells of a body, one by one.
-/
import Derived.Test.Qxb6500321aMoI
set_option linter.unusedSimpArgs false
set_option linter.unusedVariables false
set_option maxRecDepth 100000
set_option linter.unusedSectionVars false
set_option maxHeartbeats 1000000
namespace Go.Proofs.Qxb6500321a
open Go Go.Vc

/-- The cells that a step lays. -/
def NC (B : BD) (i : Nat) (S S' : SS) (x_0 : List SC) : Prop :=
  (x_0 = []) ∨
  (∃ (h4 : (B.ins i).op = 4), x_0 = [⟨4, .c (i + 1), 0⟩]) ∨
  (∃ (f : SF), ∃ (r : List SF), ∃ (hS : S.fs = f :: r), x_0 = [⟨224, .e f.o, 0⟩]) ∨
  (∃ (h : S'.fs = []), x_0 = [⟨11, .k 0, 0⟩]) ∨
  (∃ (op : Int), ∃ (t : Nat), ∃ (g : SF), ∃ (ho : op = 12 ∨ op = 13), ∃ (hg : S.fs[t]? = some g), x_0 = [brC op g]) ∨
  (∃ (y : Int), ∃ (cs : List SC), ∃ (hy : 1 ≤ y), ∃ (hl : cs.length = y.toNat), ∃ (hc : ∀ c, c ∈ cs → ∃ (t : Nat) (g : SF), S.fs[t]? = some g ∧ c = brC 225 g), x_0 = (⟨14, .k y, 0⟩ :: cs)) ∨
  (x_0 = [⟨15, .k 0, 0⟩]) ∨
  (∃ (x : Ins), ∃ (hx : B.ef x ≠ none), ∃ (hn : ¬ (x.op = 2 ∨ x.op = 3 ∨ x.op = 4 ∨ x.op = 5 ∨ x.op = 11 ∨ x.op = 12 ∨ x.op = 13 ∨ x.op = 14 ∨ x.op = 15)), x_0 = [⟨x.op, .k x.x, x.y⟩])
theorem NC.no {B : BD} {i : Nat} {S S' : SS}  : NC B i S S' [] := .inl rfl
theorem NC.iff {B : BD} {i : Nat} {S S' : SS} (h4 : (B.ins i).op = 4) : NC B i S S' [⟨4, .c (i + 1), 0⟩] := .inr (.inl (⟨h4, rfl⟩))
theorem NC.jmp {B : BD} {i : Nat} {S S' : SS} (f : SF) (r : List SF) (hS : S.fs = f :: r) : NC B i S S' [⟨224, .e f.o, 0⟩] := .inr (.inr (.inl (⟨f, r, hS, rfl⟩)))
theorem NC.fin {B : BD} {i : Nat} {S S' : SS} (h : S'.fs = []) : NC B i S S' [⟨11, .k 0, 0⟩] := .inr (.inr (.inr (.inl (⟨h, rfl⟩))))
theorem NC.br {B : BD} {i : Nat} {S S' : SS} (op : Int) (t : Nat) (g : SF) (ho : op = 12 ∨ op = 13) (hg : S.fs[t]? = some g) : NC B i S S' [brC op g] := .inr (.inr (.inr (.inr (.inl (⟨op, t, g, ho, hg, rfl⟩)))))
theorem NC.tab {B : BD} {i : Nat} {S S' : SS} (y : Int) (cs : List SC) (hy : 1 ≤ y) (hl : cs.length = y.toNat) (hc : ∀ c, c ∈ cs → ∃ (t : Nat) (g : SF), S.fs[t]? = some g ∧ c = brC 225 g) : NC B i S S' (⟨14, .k y, 0⟩ :: cs) := .inr (.inr (.inr (.inr (.inr (.inl (⟨y, cs, hy, hl, hc, rfl⟩))))))
theorem NC.ret {B : BD} {i : Nat} {S S' : SS}  : NC B i S S' [⟨15, .k 0, 0⟩] := .inr (.inr (.inr (.inr (.inr (.inr (.inl rfl))))))
theorem NC.pln {B : BD} {i : Nat} {S S' : SS} (x : Ins) (hx : B.ef x ≠ none) (hn : ¬ (x.op = 2 ∨ x.op = 3 ∨ x.op = 4 ∨ x.op = 5 ∨ x.op = 11 ∨ x.op = 12 ∨ x.op = 13 ∨ x.op = 14 ∨ x.op = 15)) : NC B i S S' [⟨x.op, .k x.x, x.y⟩] := .inr (.inr (.inr (.inr (.inr (.inr (.inr (⟨x, hx, hn, rfl⟩)))))))
theorem NC.cs {B : BD} {i : Nat} {S S' : SS} {motive : (x_0 : List SC) → NC B i S S' x_0 → Prop} (no : motive [] (NC.no)) (iff : ∀ (h4 : (B.ins i).op = 4), motive [⟨4, .c (i + 1), 0⟩] (NC.iff h4)) (jmp : ∀ (f : SF) (r : List SF) (hS : S.fs = f :: r), motive [⟨224, .e f.o, 0⟩] (NC.jmp f r hS)) (fin : ∀ (h : S'.fs = []), motive [⟨11, .k 0, 0⟩] (NC.fin h)) (br : ∀ (op : Int) (t : Nat) (g : SF) (ho : op = 12 ∨ op = 13) (hg : S.fs[t]? = some g), motive [brC op g] (NC.br op t g ho hg)) (tab : ∀ (y : Int) (cs : List SC) (hy : 1 ≤ y) (hl : cs.length = y.toNat) (hc : ∀ c, c ∈ cs → ∃ (t : Nat) (g : SF), S.fs[t]? = some g ∧ c = brC 225 g), motive (⟨14, .k y, 0⟩ :: cs) (NC.tab y cs hy hl hc)) (ret : motive [⟨15, .k 0, 0⟩] (NC.ret)) (pln : ∀ (x : Ins) (hx : B.ef x ≠ none) (hn : ¬ (x.op = 2 ∨ x.op = 3 ∨ x.op = 4 ∨ x.op = 5 ∨ x.op = 11 ∨ x.op = 12 ∨ x.op = 13 ∨ x.op = 14 ∨ x.op = 15)), motive [⟨x.op, .k x.x, x.y⟩] (NC.pln x hx hn)) {x_0 : List SC} (h : NC B i S S' x_0) : motive x_0 h := by
  rcases h with rfl | ⟨h4, rfl⟩ | ⟨f, r, hS, rfl⟩ | ⟨h, rfl⟩ | ⟨op, t, g, ho, hg, rfl⟩ | ⟨y, cs, hy, hl, hc, rfl⟩ | rfl | ⟨x, hx, hn, rfl⟩
  · exact no
  · exact iff h4
  · exact jmp f r hS
  · exact fin h
  · exact br op t g ho hg
  · exact tab y cs hy hl hc
  · exact ret
  · exact pln x hx hn
theorem rowsS_all (fs : List SF) (tab : Nat → Int) : ∀ (n a : Nat) {cs : List SC}, rowsS fs tab n a = some cs → ∀ c, c ∈ cs → ∃ (t : Nat) (g : SF), fs[t]? = some g ∧ c = brC 225 g
  | 0, a, cs, h => by cases h; intro c hc; cases hc
  | n + 1, a, cs, h => by
    unfold rowsS at h
    split at h
    · cases h
    · rename_i g hg
      cases hr : rowsS fs tab n (a + 1) with
      | none => rw [hr] at h; cases h
      | some l =>
        rw [hr] at h
        cases h
        intro c hc
        rcases List.mem_cons.1 hc with rfl | hc
        · exact ⟨_, g, hg, rfl⟩
        · exact rowsS_all fs tab n (a + 1) hr c hc
theorem nc_of {B : BD} {i : Nat} {S S' : SS} (h : stepS B i S = some S') : ∃ N, S'.A = S.A ++ N ∧ NC B i S S' N := by
  unfold stepS at h
  split at h
  · cases h; exact ⟨[], by simp, .no⟩
  · unfold liveS at h
    by_cases c2 : (B.ins i).op = 2 ∨ (B.ins i).op = 3 ∨ (B.ins i).op = 4
    · rw [if_pos c2] at h
      unfold openS at h
      split at h
      · cases h
      · split at h
        · cases h
        · split at h
          · rename_i h4
            split at h
            · cases h
            · cases h; exact ⟨_, rfl, .iff h4⟩
          · cases h; exact ⟨[], by simp, .no⟩
    rw [if_neg c2] at h
    by_cases c5 : (B.ins i).op = 5
    · rw [if_pos c5] at h
      unfold turnS at h
      split at h
      · cases h
      · rename_i f r hfs
        split at h
        · cases h
        · split at h
          · cases h
          · cases h
            show ∃ N, turnA S _ = S.A ++ N ∧ _
            unfold turnA
            split
            · exact ⟨_, rfl, .jmp f r hfs⟩
            · exact ⟨[], by simp, .no⟩
    rw [if_neg c5] at h
    by_cases c11 : (B.ins i).op = 11
    · rw [if_pos c11] at h
      split at h
      · cases h
      · rename_i S1 hs
        split at h
        · cases h
        · cases h
          unfold shutS at hs
          split at hs
          · cases hs
          · rename_i f r hfs
            split at hs
            · cases hs
            · split at hs
              · cases hs
              · cases hs
                dsimp only
                split
                · rename_i hr
                  exact ⟨_, rfl, .fin (List.length_eq_zero_iff.1 hr)⟩
                · exact ⟨[], by simp, .no⟩
    rw [if_neg c11] at h
    by_cases c12 : (B.ins i).op = 12 ∨ (B.ins i).op = 13
    · rw [if_pos c12] at h
      unfold brS at h
      split at h
      · cases h
      · split at h
        · cases h
        · rename_i f _ _ _ g hg
          by_cases q : S.h < f.fl + (if (B.ins i).op = 13 then 1 else 0)
          · rw [if_pos q] at h; cases h
          · rw [if_neg q] at h; cases h; exact ⟨_, rfl, .br _ _ g c12 hg⟩
    rw [if_neg c12] at h
    by_cases c14 : (B.ins i).op = 14
    · rw [if_pos c14] at h
      unfold tabS at h
      split at h
      · cases h
      · split at h
        · cases h
        · rename_i q
          split at h
          · cases h
          · rename_i cs hcs
            cases h
            exact ⟨_, rfl, .tab _ cs (by omega) (rowsS_len _ _ _ _ hcs) (rowsS_all _ _ _ _ hcs)⟩
    rw [if_neg c14] at h
    by_cases c15 : (B.ins i).op = 15
    · rw [if_pos c15] at h
      cases h
      exact ⟨_, rfl, .ret⟩
    rw [if_neg c15] at h
    unfold plainS at h
    split at h
    · cases h
    · split at h
      · cases h
      · rename_i he
        split at h
        · cases h
        · cases h
          exact ⟨_, rfl, .pln (B.ins i) (by rw [he]; simp) (by omega)⟩
theorem open_ar {B : BD} {i : Nat} {S : SS} {f : SF} {A : List SC} {h' : Nat} {d : Nat} {en el : Nat → Option Nat} (h0 : S.dead = 0) (ho : (B.ins i).op = 2 ∨ (B.ins i).op = 3 ∨ (B.ins i).op = 4) (h : stepS B i S = some ⟨A, f :: S.fs, h', d, en, el⟩) : f.ar ≤ 1 := by
  have ap : arP (B.ins i) ≤ 1 := by unfold arP; split <;> omega
  have hk : (skipP (B.ins i).op S.dead).1 = false := by unfold skipP; rw [if_pos h0]
  unfold stepS at h
  rw [if_neg (by rw [hk]; simp)] at h
  unfold liveS at h
  rw [if_pos ho] at h
  unfold openS at h
  split at h
  · cases h
  · split at h
    · cases h
    · split at h
      · split at h
        · cases h
        · injection h with h
          (first | (injection h with z__; injection z__ with h1 h2) | injection h with h1 h2)
          injection h2 with h2
          rw [← h2]; exact ap
      · injection h with h
        (first | (injection h with z__; injection z__ with h1 h2) | injection h with h1 h2)
        injection h2 with h2
        rw [← h2]; exact ap
/-! ### Each cell -/
/-- A branch's freight. -/
def YK (k h : Nat) (y : Int) : Prop := y = (k : Int) * 4294967296 + h ∧ k ≤ 1 ∧ h ≤ 10
def LC (j : Nat) (c : SC) : Prop :=
  ¬ (c.op = 2 ∨ c.op = 3 ∨ c.op = 5) ∧ (c.op = 14 → ∃ y : Int, c.s = .k y ∧ 1 ≤ y) ∧ (c.op = 4 ∨ c.op = 224 → c.y = 0 ∧ ((∃ o, c.s = .e o) ∨ ∃ o, c.s = .c o)) ∧
  (c.op = 12 ∨ c.op = 13 ∨ c.op = 225 → (∃ st h : Nat, c.s = .k (st : Int) ∧ st ≤ j ∧ YK 0 h c.y) ∨ ∃ o k h, c.s = .e o ∧ YK k h c.y)
structure TI (S : SS) : Prop where
  lc : ∀ (j : Nat) (c : SC), S.A[j]? = some c → LC j c
  e11 : ∀ (j : Nat) (c : SC), S.A[j]? = some c → c.op = 11 → c = ⟨11, .k 0, 0⟩ ∧ j + 1 = S.A.length ∧ S.fs = []
  en : ∀ (j : Nat) (c : SC) (o a : Nat), S.A[j]? = some c → c.s = .e o → S.en o = some a → j < a ∧ a ≤ S.A.length
  el : ∀ (j : Nat) (c : SC) (o a : Nat), S.A[j]? = some c → c.s = .c o → S.el o = some a → j < a ∧ a ≤ S.A.length
  enl : ∀ o a, S.en o = some a → a ≤ S.A.length
  ell : ∀ o a, S.el o = some a → a ≤ S.A.length
  ar : ∀ (t : Nat) (g : SF), S.fs[t]? = some g → g.ar ≤ 1
theorem brC_lc {op : Int} {g : SF} {j : Nat} (ho : op = 12 ∨ op = 13 ∨ op = 225) (h1 : g.fl ≤ 10) (h2 : g.ar ≤ 1) (h3 : g.st ≤ j) : LC j (brC op g) := by
  have eo : (brC op g).op = op := by unfold brC; split <;> rfl
  refine ⟨by rw [eo]; omega, fun q => by rw [eo] at q; omega, fun q => by rw [eo] at q; omega, fun _ => ?_⟩
  by_cases h : g.op = 3
  · left
    refine ⟨g.st, g.fl, ?_, h3, ?_, by omega, h1⟩
    · unfold brC; rw [if_pos h]
    · unfold brC; rw [if_pos h]; dsimp only; omega
  · right
    refine ⟨g.o, g.ar, g.fl, ?_, ?_, h2, h1⟩
    · unfold brC; rw [if_neg h]
    · unfold brC; rw [if_neg h]
theorem app_get2 {α : Type} {A N : List α} {j : Nat} {c : α} (h : (A ++ N)[j]? = some c) : A[j]? = some c ∨ (A.length ≤ j ∧ N[j - A.length]? = some c) := by
  by_cases q : j < A.length
  · rw [List.getElem?_append_left q] at h; exact .inl h
  · rw [List.getElem?_append_right (by omega)] at h; exact .inr ⟨by omega, h⟩
theorem ti_init (res : Nat) (hr : res ≤ 1) : TI (initS res) := by
  refine ⟨fun j c h => (by cases h), fun j c h => (by cases h), fun j c o a h => (by cases h), fun j c o a h => (by cases h), fun o a h => (by cases h), fun o a h => (by cases h), fun t g h => ?_⟩
  cases t with
  | zero =>
    have h : some (⟨0, 11, 0, res, 0, false⟩ : SF) = some g := h
    cases h; exact hr
  | succ t => cases h
theorem nc_lc {B : BD} {i : Nat} {S S' : SS} {N : List SC} (H : NC B i S S' N) (hef : ∀ x : Ins, B.ef x ≠ none → x.op ≠ 224 ∧ x.op ≠ 225) (hb : ∀ (t : Nat) (g : SF), S.fs[t]? = some g → g.fl ≤ 10 ∧ g.ar ≤ 1 ∧ g.st ≤ S.A.length) : ∀ (j : Nat) (c : SC), S.A.length ≤ j → N[j - S.A.length]? = some c → LC j c := by
  have one : ∀ {d : SC} {j : Nat} {c : SC}, [d][j - S.A.length]? = some c → c = d := fun {d j c} h => by
    cases hq : j - S.A.length with
    | zero => rw [hq] at h; simpa using h.symm
    | succ q => rw [hq] at h; cases h
  intro j c hj hc
  cases H using NC.cs with
  | no => cases hc
  | iff h4 => rw [one hc]; exact ⟨by dsimp only; omega, fun q => by dsimp only at q; omega, fun _ => ⟨rfl, .inr ⟨_, rfl⟩⟩, fun q => by dsimp only at q; omega⟩
  | jmp f r hS => rw [one hc]; exact ⟨by dsimp only; omega, fun q => by dsimp only at q; omega, fun _ => ⟨rfl, .inl ⟨_, rfl⟩⟩, fun q => by dsimp only at q; omega⟩
  | fin h => rw [one hc]; exact ⟨by dsimp only; omega, fun q => by dsimp only at q; omega, fun q => by dsimp only at q; omega, fun q => by dsimp only at q; omega⟩
  | ret => rw [one hc]; exact ⟨by dsimp only; omega, fun q => by dsimp only at q; omega, fun q => by dsimp only at q; omega, fun q => by dsimp only at q; omega⟩
  | br op t g ho hg =>
    obtain ⟨b1, b2, b3⟩ := hb t g hg
    rw [one hc]; exact brC_lc (by omega) b1 b2 (by omega)
  | tab y cs hy hl hcs =>
    cases hq : j - S.A.length with
    | zero =>
      rw [hq] at hc
      have hc : some (⟨14, .k y, 0⟩ : SC) = some c := hc
      cases hc
      exact ⟨by dsimp only; omega, fun _ => ⟨y, rfl, hy⟩, fun q => by dsimp only at q; omega, fun q => by dsimp only at q; omega⟩
    | succ q =>
      rw [hq] at hc
      have hc : cs[q]? = some c := hc
      obtain ⟨t, g, hg, rfl⟩ := hcs c (List.mem_of_getElem? hc)
      obtain ⟨b1, b2, b3⟩ := hb t g hg
      exact brC_lc (by omega) b1 b2 (by omega)
  | pln x hx hn =>
    rw [one hc]
    have := hef x hx
    exact ⟨by dsimp only; omega, fun q => by dsimp only at q; omega, fun q => by dsimp only at q; omega, fun q => by dsimp only at q; omega⟩
/-- A new cell's name is not yet resolved. -/
theorem nc_sy {B : BD} {i : Nat} {S S' : SS} {p : PS} {N : List SC} (H : NC B i S S' N) (R : RI i S p) : ∀ c, c ∈ N → (∀ o, c.s = .e o → S.en o = none) ∧ (∀ o, c.s = .c o → S.el o = none ∧ (B.ins i).op = 4) := by
  have fen : ∀ (t : Nat) (g : SF), S.fs[t]? = some g → S.en g.o = none := fun t g hg => by
    have hl := get_lt hg
    have kl := R.kl
    exact (R.fr t g _ hg (List.getElem?_eq_getElem (by omega))).en
  have hbr : ∀ (op : Int) (t : Nat) (g : SF), S.fs[t]? = some g → (∀ o, (brC op g).s = .e o → S.en o = none) ∧ (∀ o, (brC op g).s = .c o → S.el o = none ∧ (B.ins i).op = 4) := fun op t g hg => by
    unfold brC
    split
    · exact ⟨fun o h => (by cases h), fun o h => (by cases h)⟩
    · exact ⟨fun o h => (by cases h; exact fen t g hg), fun o h => (by cases h)⟩
  intro c hc
  cases H using NC.cs with
  | no => cases hc
  | iff h4 =>
    simp at hc; subst hc
    exact ⟨fun o h => (by cases h), fun o h => (by cases h; exact ⟨(R.ens _ (by omega)).2, h4⟩)⟩
  | jmp f r hS =>
    simp at hc; subst hc
    exact ⟨fun o h => (by cases h; exact fen 0 f (by rw [hS]; rfl)), fun o h => (by cases h)⟩
  | fin h => simp at hc; subst hc; exact ⟨fun o h => (by cases h), fun o h => (by cases h)⟩
  | ret => simp at hc; subst hc; exact ⟨fun o h => (by cases h), fun o h => (by cases h)⟩
  | br op t g ho hg => simp at hc; subst hc; exact hbr op t g hg
  | tab y cs hy hl hcs =>
    rcases List.mem_cons.1 hc with rfl | hc
    · exact ⟨fun o h => (by cases h), fun o h => (by cases h)⟩
    · obtain ⟨t, g, hg, rfl⟩ := hcs c hc
      exact hbr 225 t g hg
  | pln x hx hn => simp at hc; subst hc; exact ⟨fun o h => (by cases h), fun o h => (by cases h)⟩
theorem nc_11 {B : BD} {i : Nat} {S S' : SS} {N : List SC} (H : NC B i S S' N) : ∀ c, c ∈ N → c.op = 11 → N = [⟨11, .k 0, 0⟩] ∧ S'.fs = [] := by
  have hbr : ∀ (op : Int) (g : SF), (brC op g).op = op := fun op g => by unfold brC; split <;> rfl
  intro c hc ho
  cases H using NC.cs with
  | no => cases hc
  | iff h4 => simp at hc; subst hc; cases ho
  | jmp f r hS => simp at hc; subst hc; cases ho
  | fin h => exact ⟨rfl, h⟩
  | ret => simp at hc; subst hc; cases ho
  | br op t g h12 hg => simp at hc; subst hc; rw [hbr] at ho; omega
  | tab y cs hy hl hcs =>
    rcases List.mem_cons.1 hc with rfl | hc
    · cases ho
    · obtain ⟨t, g, hg, rfl⟩ := hcs c hc
      rw [hbr] at ho; cases ho
  | pln x hx hn => simp at hc; subst hc; exact absurd ho (by dsimp only; omega)
theorem ti_step {B : BD} {i : Nat} {S S' : SS} {p : PS} (T : TI S) (R : RI i S p) (hef : ∀ x : Ins, B.ef x ≠ none → x.op ≠ 224 ∧ x.op ≠ 225) (hne : S.fs ≠ []) (h : stepS B i S = some S') : TI S' := by
  obtain ⟨N, eA, H⟩ := nc_of h
  have hb : ∀ (t : Nat) (g : SF), S.fs[t]? = some g → g.fl ≤ 10 ∧ g.ar ≤ 1 ∧ g.st ≤ S.A.length := fun t g hg => by
    have hl := get_lt hg
    have kl := R.kl
    have F := R.fr t g _ hg (List.getElem?_eq_getElem (by omega))
    exact ⟨F.fl10, T.ar t g hg, F.stl⟩
  have hlen : S.A.length ≤ S'.A.length := by rw [eA]; simp
  have lc := nc_lc H hef hb
  have sy := nc_sy H R
  refine ⟨fun j c hj => ?_, fun j c hj ho => ?_, ?_, ?_, ?_, ?_, ?_⟩
  · rw [eA] at hj
    rcases app_get2 hj with q | ⟨q1, q2⟩
    · exact T.lc j c q
    · exact lc j c q1 q2
  · rw [eA] at hj
    rcases app_get2 hj with q | ⟨q1, q2⟩
    · exact absurd (T.e11 j c q ho).2.2 hne
    · obtain ⟨e1, e2⟩ := nc_11 H c (List.mem_of_getElem? q2) ho
      subst e1
      have hq : j - S.A.length = 0 := by
        cases hq : j - S.A.length with
        | zero => rfl
        | succ q => rw [hq] at q2; cases q2
      rw [hq] at q2
      refine ⟨by simpa using q2.symm, by rw [eA]; simp; omega, e2⟩
  · -- ends
    intro j c o a hj hs ha
    have old : S.en o = some a → j < a ∧ a ≤ S'.A.length := fun ha => by
      rw [eA] at hj
      rcases app_get2 hj with q | ⟨q1, q2⟩
      · have := T.en j c o a q hs ha; omega
      · rw [(sy c (List.mem_of_getElem? q2)).1 o hs] at ha; cases ha
    cases stp_of h using Stp.cs with
    | skip d h0 hd => exact old ha
    | pln A h' d h0 _ _ _ _ hA => exact old ha
    | opn f A h' h0 ho hf hl hA => exact old ha
    | trn f r ho hd hfs hc _ => exact old ha
    | sht f r ho hd hfs hn =>
      have ha : up1 S.en f.o S.A.length o = some a := ha
      by_cases q : o = f.o
      · subst q
        rw [up1_same] at ha
        cases ha
        refine ⟨?_, hlen⟩
        rw [eA] at hj
        rcases app_get2 hj with q | ⟨q1, q2⟩
        · exact get_lt q
        · exfalso
          -- the only new cell is the body's end
          have : (if r.length = 0 then S.A ++ [⟨11, .k 0, 0⟩] else S.A) = S.A ++ N := eA
          split at this
          · have := List.append_cancel_left this
            subst this
            cases hq : j - S.A.length with
            | zero => rw [hq] at q2; have q2 : some (⟨11, .k 0, 0⟩ : SC) = some c := q2; cases q2; cases hs
            | succ q => rw [hq] at q2; cases q2
          · have : N = [] := by simpa using this.symm
            subst this
            cases q2
      · rw [up1_ne _ _ q] at ha
        exact old ha
  · intro j c o a hj hs ha
    have old : S.el o = some a → j < a ∧ a ≤ S'.A.length := fun ha => by
      rw [eA] at hj
      rcases app_get2 hj with q | ⟨q1, q2⟩
      · have := T.el j c o a q hs ha; omega
      · rw [((sy c (List.mem_of_getElem? q2)).2 o hs).1] at ha; cases ha
    have new : (B.ins i).op ≠ 4 → j < S.A.length := fun h4 => by
      rw [eA] at hj
      rcases app_get2 hj with q | ⟨q1, q2⟩
      · exact get_lt q
      · exact absurd ((sy c (List.mem_of_getElem? q2)).2 o hs).2 h4
    cases stp_of h using Stp.cs with
    | skip d h0 hd => exact old ha
    | pln A h' d h0 _ _ _ _ hA => exact old ha
    | opn f A h' h0 ho hf hl hA => exact old ha
    | trn f r ho hd hfs hc _ =>
      have ha : up1 S.el f.o (turnA S f).length o = some a := ha
      by_cases q : o = f.o
      · subst q
        rw [up1_same] at ha
        cases ha
        have := new (by omega)
        exact ⟨by have : S.A.length ≤ (turnA S f).length := hlen; omega, Nat.le_refl _⟩
      · rw [up1_ne _ _ q] at ha
        exact old ha
    | sht f r ho hd hfs hn =>
      have ha : (if f.cn = true then up1 S.el f.o S.A.length else S.el) o = some a := ha
      split at ha
      · by_cases q : o = f.o
        · subst q
          rw [up1_same] at ha
          cases ha
          exact ⟨new (by omega), hlen⟩
        · rw [up1_ne _ _ q] at ha
          exact old ha
      · exact old ha
  · intro o a ha
    have old : S.en o = some a → a ≤ S'.A.length := fun ha => by have := T.enl o a ha; omega
    cases stp_of h using Stp.cs with
    | skip d h0 hd => exact old ha
    | pln A h' d h0 _ _ _ _ hA => exact old ha
    | opn f A h' h0 ho hf hl hA => exact old ha
    | trn f r ho hd hfs hc _ => exact old ha
    | sht f r ho hd hfs hn =>
      have ha : up1 S.en f.o S.A.length o = some a := ha
      by_cases q : o = f.o
      · subst q
        rw [up1_same] at ha
        cases ha
        exact hlen
      · rw [up1_ne _ _ q] at ha
        exact old ha
  · intro o a ha
    have old : S.el o = some a → a ≤ S'.A.length := fun ha => by have := T.ell o a ha; omega
    cases stp_of h using Stp.cs with
    | skip d h0 hd => exact old ha
    | pln A h' d h0 _ _ _ _ hA => exact old ha
    | opn f A h' h0 ho hf hl hA => exact old ha
    | trn f r ho hd hfs hc _ =>
      have ha : up1 S.el f.o (turnA S f).length o = some a := ha
      by_cases q : o = f.o
      · subst q
        rw [up1_same] at ha
        cases ha
        exact Nat.le_refl _
      · rw [up1_ne _ _ q] at ha
        exact old ha
    | sht f r ho hd hfs hn =>
      have ha : (if f.cn = true then up1 S.el f.o S.A.length else S.el) o = some a := ha
      split at ha
      · by_cases q : o = f.o
        · subst q
          rw [up1_same] at ha
          cases ha
          exact hlen
        · rw [up1_ne _ _ q] at ha
          exact old ha
      · exact old ha
  · intro t g hg
    cases stp_of h using Stp.cs with
    | skip d h0 hd => exact T.ar t g hg
    | pln A h' d h0 _ _ _ _ hA => exact T.ar t g hg
    | opn f A h' h0 ho hf hl hA =>
      cases t with
      | zero =>
        have hg : some f = some g := hg
        cases hg
        exact open_ar h0 ho h
      | succ t => exact T.ar t g hg
    | trn f r ho hd hfs hc _ =>
      cases t with
      | zero =>
        have hg : some { f with cn := false } = some g := hg
        cases hg
        exact T.ar 0 f (by rw [hfs]; rfl)
      | succ t => exact T.ar (t + 1) g (by rw [hfs]; exact hg)
    | sht f r ho hd hfs hn => exact T.ar (t + 1) g (by rw [hfs]; exact hg)
end Go.Proofs.Qxb6500321a
