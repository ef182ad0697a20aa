/-
  The compiler's chains keep to the machine that names its targets.
-/
import Derived.Test.Qxb6500321aSmA
set_option linter.unusedSimpArgs false
set_option linter.unusedVariables false
set_option maxRecDepth 100000
set_option linter.unusedSectionVars false
namespace Go.Proofs.Qxb6500321a
open Go Go.Vc

theorem app_get {α : Type} {A : List α} {a b : α} {j : Nat} (h : (A ++ [a])[j]? = some b) : A[j]? = some b ∨ (j = A.length ∧ b = a) := by
  by_cases e : j < A.length
  · rw [List.getElem?_append_left e] at h; exact .inl h
  · rw [List.getElem?_append_right (by omega)] at h
    have := (List.getElem?_eq_some_iff.1 h).1
    simp at this
    have ej : j = A.length := by omega
    subst ej
    rw [Nat.sub_self] at h
    have h : some a = some b := h
    cases h
    exact .inr ⟨rfl, rfl⟩
theorem app_old {α : Type} {A : List α} {a b : α} {j : Nat} (h : A[j]? = some b) : (A ++ [a])[j]? = some b := by
  rw [List.getElem?_append_left (List.getElem?_eq_some_iff.1 h).1]; exact h
theorem app_new {α : Type} (A : List α) (a : α) : (A ++ [a])[A.length]? = some a := by
  rw [List.getElem?_append_right (Nat.le_refl _), Nat.sub_self]; rfl
theorem get_lt {α : Type} {A : List α} {b : α} {j : Nat} (h : A[j]? = some b) : j < A.length := (List.getElem?_eq_some_iff.1 h).1

/-- The frame c of the compiler is the block f of the machine. -/
structure FrR (A : List SC) (en el : Nat → Option Nat) (cells : List Ins) (f : SF) (c : CT) : Prop where
  op : c.op = f.op
  fl : c.fl = f.fl
  ar : c.ar = f.ar
  st : f.op = 3 → c.st = f.st + 1
  fl10 : f.fl ≤ 10
  ar10 : f.ar ≤ 1024
  stl : f.st ≤ A.length
  en : en f.o = none
  ch : ∃ ms, Chn cells c.pt ms ∧ (∀ m, m ∈ ms → ∃ sc, A[m - 1]? = some sc ∧ sc.s = .e f.o ∧ sc.op ≠ 224) ∧ ∀ j sc, A[j]? = some sc → sc.s = .e f.o → sc.op ≠ 224 → j + 1 ∈ ms
  jm : c.jm = 0 ∨ ∃ j sc, c.jm = j + 1 ∧ A[j]? = some sc ∧ sc.s = .e f.o
  jm2 : ∀ j sc, A[j]? = some sc → sc.s = .e f.o → sc.op = 224 → c.jm = j + 1
  cn : (f.cn = true ∧ el f.o = none ∧ ∃ j sc, c.cn = j + 1 ∧ A[j]? = some sc ∧ sc.s = .c f.o) ∨ (f.cn = false ∧ c.cn = 0)
  cn2 : f.cn = true → ∀ j sc, A[j]? = some sc → sc.s = .c f.o → c.cn = j + 1
  jc : f.cn = true → c.jm = 0
def SyOk (en el : Nat → Option Nat) : Sy → Int → Prop
  | .k v, x => x = v
  | .e o, x => ∀ a, en o = some a → x = (a : Int)
  | .c o, x => ∀ a, el o = some a → x = (a : Int)
def SyIn (i : Nat) : Sy → Prop
  | .k _ => True
  | .e o => o ≤ i
  | .c o => o ≤ i
def SyRes (en el : Nat → Option Nat) (fs : List SF) : Sy → Prop
  | .k _ => True
  | .e o => (∃ a, en o = some a) ∨ ∃ f, f ∈ fs ∧ f.o = o
  | .c o => (∃ a, el o = some a) ∨ ∃ f, f ∈ fs ∧ f.o = o ∧ f.cn = true
structure RI (i : Nat) (S : SS) (p : PS) : Prop where
  len : p.cells.length = S.A.length + 1
  c0 : p.cells[0]? = some z0
  h : p.h = (S.h : Int)
  dead : p.dead = S.dead
  h10 : S.h ≤ 10
  kl : p.k.length = S.fs.length
  fr : ∀ (t : Nat) (f : SF) (c : CT), S.fs[t]? = some f → p.k[t]? = some c → FrR S.A S.en S.el p.cells f c
  dis : ∀ (t u : Nat) (f g : SF), S.fs[t]? = some f → S.fs[u]? = some g → f.o = g.o → t = u
  lt : ∀ (t : Nat) (f : SF), S.fs[t]? = some f → f.o ≤ i
  ens : ∀ o, i < o → S.en o = none ∧ S.el o = none
  syl : ∀ (j : Nat) (sc : SC), S.A[j]? = some sc → SyIn i sc.s
  cells : ∀ (j : Nat) (sc : SC), S.A[j]? = some sc → ∃ x, p.cells[j + 1]? = some x ∧ x.op = sc.op ∧ x.y = sc.y ∧ SyOk S.en S.el sc.s x.x
  res : ∀ (j : Nat) (sc : SC), S.A[j]? = some sc → SyRes S.en S.el S.fs sc.s
  live : S.dead = 0 → ∀ f r, S.fs = f :: r → f.fl ≤ S.h
  dd : S.dead ≤ i + 1
  mono : ∀ (t : Nat) (f g : SF), S.fs[t]? = some f → S.fs[t + 1]? = some g → g.fl ≤ f.fl

theorem SyIn.up {i : Nat} {s : Sy} (h : SyIn i s) : SyIn (i + 1) s := by
  cases s using Sy.cs with
  | k _ => trivial
  | e o => exact Nat.le_succ_of_le h
  | c o => exact Nat.le_succ_of_le h
theorem FrR.append {A : List SC} {en el : Nat → Option Nat} {cells : List Ins} {f : SF} {c : CT} (R : FrR A en el cells f c) {sc : SC} (x : Ins) (h1 : sc.s ≠ .e f.o) (h2 : sc.s ≠ .c f.o) : FrR (A ++ [sc]) en el (cells ++ [x]) f c := by
  obtain ⟨ms, m1, m2, m3⟩ := R.ch
  refine ⟨R.op, R.fl, R.ar, R.st, R.fl10, R.ar10, by have := R.stl; simp; omega, R.en, ⟨ms, m1.ext (fun m hm i hi => app_old hi), fun m hm => ?_, fun j s hj hs ho => ?_⟩, ?_, fun j s hj hs ho => ?_, ?_, fun hc j s hj hs => ?_, R.jc⟩
  · obtain ⟨s, g1, g2⟩ := m2 m hm
    exact ⟨s, app_old g1, g2⟩
  · rcases app_get hj with g | ⟨_, rfl⟩
    · exact m3 j s g hs ho
    · exact absurd hs h1
  · rcases R.jm with g | ⟨j, s, g1, g2, g3⟩
    · exact .inl g
    · exact .inr ⟨j, s, g1, app_old g2, g3⟩
  · rcases app_get hj with g | ⟨_, rfl⟩
    · exact R.jm2 j s g hs ho
    · exact absurd hs h1
  · rcases R.cn with ⟨g0, g1, j, s, g2, g3, g4⟩ | g
    · exact .inl ⟨g0, g1, j, s, g2, app_old g3, g4⟩
    · exact .inr g
  · rcases app_get hj with g | ⟨_, rfl⟩
    · exact R.cn2 hc j s g hs
    · exact absurd hs h2

section
variable {i : Nat} {S : SS} {p : PS}
theorem RI.nx (R : RI i S p) : RI (i + 1) S p :=
  ⟨R.len, R.c0, R.h, R.dead, R.h10, R.kl, R.fr, R.dis, fun t f h => Nat.le_succ_of_le (R.lt t f h), fun o ho => R.ens o (by omega), fun j sc h => (R.syl j sc h).up, R.cells, R.res, R.live, Nat.le_succ_of_le R.dd, R.mono⟩
/-- The height and the deadness set. -/
theorem RI.setHD (R : RI i S p) {h' d' : Nat} (h1 : h' ≤ 10) (h2 : d' = 0 → ∀ f r, S.fs = f :: r → f.fl ≤ h') (h3 : d' ≤ i + 1) : RI i { S with h := h', dead := d' } { p with h := (h' : Int), dead := d' } :=
  ⟨R.len, R.c0, rfl, rfl, h1, R.kl, R.fr, R.dis, R.lt, R.ens, R.syl, R.cells, R.res, h2, h3, R.mono⟩
/-- A cell whose target is known. -/
theorem RI.known (R : RI i S p) (op v y : Int) : RI i { S with A := S.A ++ [⟨op, .k v, y⟩] } { p with cells := p.cells ++ [⟨op, v, y⟩] } := by
  refine ⟨by simp [R.len], app_old R.c0, R.h, R.dead, R.h10, R.kl, fun t f c hf hc => (R.fr t f c hf hc).append _ (by simp) (by simp), R.dis, R.lt, R.ens, fun j sc hj => ?_, fun j sc hj => ?_, fun j sc hj => ?_, R.live, R.dd, R.mono⟩
  · rcases app_get hj with g | ⟨_, rfl⟩
    · exact R.syl j sc g
    · trivial
  · rcases app_get hj with g | ⟨rfl, rfl⟩
    · obtain ⟨x, x1, x2⟩ := R.cells j sc g
      exact ⟨x, app_old x1, x2⟩
    · exact ⟨⟨op, v, y⟩, by show (p.cells ++ [_])[S.A.length + 1]? = _; rw [← R.len]; exact app_new _ _, rfl, rfl, rfl⟩
  · rcases app_get hj with g | ⟨_, rfl⟩
    · exact R.res j sc g
    · trivial
theorem RI.knownC (R : RI i S p) (x : Ins) : RI i { S with A := S.A ++ [⟨x.op, .k x.x, x.y⟩] } { p with cells := p.cells ++ [x] } := R.known x.op x.x x.y
/-- A branch that waits for the end of the l-th block. -/
theorem RI.wait (R : RI i S p) {l : Nat} {g : SF} {c : CT} (hg : S.fs[l]? = some g) (hc : p.k[l]? = some c) {op : Int} (h0 : op ≠ 0) (h224 : op ≠ 224) (y : Int) :
    RI i { S with A := S.A ++ [⟨op, .e g.o, y⟩] } { p with cells := p.cells ++ [⟨op, (c.pt : Int), y⟩], k := p.k.set l { c with pt := p.cells.length } } := by
  have Fg := R.fr l g c hg hc
  have hl := get_lt hc
  refine ⟨by simp [R.len], app_old R.c0, R.h, R.dead, R.h10, by simp [R.kl], fun t f d hf hd => ?_, R.dis, R.lt, R.ens, fun j sc hj => ?_, fun j sc hj => ?_, fun j sc hj => ?_, R.live, R.dd, R.mono⟩
  · have hd : (p.k.set l { c with pt := p.cells.length })[t]? = some d := hd
    have hf : S.fs[t]? = some f := hf
    rw [List.getElem?_set] at hd
    by_cases e : l = t
    · subst e
      rw [if_pos rfl, if_pos hl] at hd
      cases hd
      rw [hg] at hf; cases hf
      obtain ⟨ms, m1, m2, m3⟩ := Fg.ch
      have hpt : c.pt < p.cells.length := by
        cases ms with
        | nil =>
          have m1 : c.pt = 0 := m1
          have := R.len; omega
        | cons a r =>
          have m0 := m1.pos a (by simp)
          obtain ⟨e, _⟩ := m1
          omega
      refine ⟨Fg.op, Fg.fl, Fg.ar, Fg.st, Fg.fl10, Fg.ar10, by have := Fg.stl; simp; omega, Fg.en, ⟨p.cells.length :: ms, ⟨rfl, by have := R.len; omega, _, app_new _ _, h0, c.pt, rfl, hpt, m1.ext (fun m hm i hi => app_old hi)⟩, fun m hm => ?_, fun j s hj hs ho => ?_⟩, ?_, fun j s hj hs ho => ?_, ?_, fun hc' j s hj hs => ?_, Fg.jc⟩
      · rcases List.mem_cons.1 hm with rfl | hm
        · exact ⟨_, by rw [R.len, Nat.add_sub_cancel]; exact app_new _ _, rfl, h224⟩
        · obtain ⟨s, g1, g2⟩ := m2 m hm
          exact ⟨s, app_old g1, g2⟩
      · rcases app_get hj with g' | ⟨rfl, rfl⟩
        · exact List.mem_cons_of_mem _ (m3 j s g' hs ho)
        · rw [R.len]; exact List.mem_cons_self
      · rcases Fg.jm with g' | ⟨j, s, g1, g2, g3⟩
        · exact .inl g'
        · exact .inr ⟨j, s, g1, app_old g2, g3⟩
      · rcases app_get hj with g' | ⟨rfl, rfl⟩
        · exact Fg.jm2 j s g' hs ho
        · exact absurd ho h224
      · rcases Fg.cn with ⟨q0, g1, j, s, g2, g3, g4⟩ | g'
        · exact .inl ⟨q0, g1, j, s, g2, app_old g3, g4⟩
        · exact .inr g'
      · rcases app_get hj with g' | ⟨rfl, rfl⟩
        · exact Fg.cn2 hc' j s g' hs
        · cases hs
    · rw [if_neg e] at hd
      refine (R.fr t f d hf hd).append _ (fun h => ?_) (fun h => by cases h)
      (first | (injection h with z__; injection z__ with h) | injection h with h)
      exact e (R.dis l t g f hg hf h)
  · rcases app_get hj with g' | ⟨_, rfl⟩
    · exact R.syl j sc g'
    · exact R.lt l g hg
  · rcases app_get hj with g' | ⟨rfl, rfl⟩
    · obtain ⟨x, x1, x2⟩ := R.cells j sc g'
      exact ⟨x, app_old x1, x2⟩
    · refine ⟨⟨op, (c.pt : Int), y⟩, by show (p.cells ++ [_])[S.A.length + 1]? = _; rw [← R.len]; exact app_new _ _, rfl, rfl, fun a ha => ?_⟩
      have : S.en g.o = some a := ha
      rw [Fg.en] at this; cases this
  · rcases app_get hj with g' | ⟨_, rfl⟩
    · exact R.res j sc g'
    · exact .inr ⟨g, List.mem_of_getElem? hg, rfl⟩
theorem RI.len7 (R : RI i S p) {l : Nat} {g : SF} (hg : S.fs[l]? = some g) : ∃ c, p.k[l]? = some c :=
  ⟨_, List.getElem?_eq_getElem (by rw [R.kl]; exact get_lt hg)⟩
/-- A block opened. -/
theorem RI.push (R : RI i S p) (h0 : S.dead = 0) (x : Ins) : RI (i + 1) { S with fs := ⟨i + 1, x.op, S.h, arP x, S.A.length, false⟩ :: S.fs } { p with k := ⟨x.op, p.h.toNat, arP x, p.cells.length, 0, 0, 0⟩ :: p.k } := by
  have hh : p.h.toNat = S.h := by rw [R.h]; rfl
  have ha : arP x ≤ 1 := by unfold arP; split <;> omega
  have nin : ∀ (j : Nat) (sc : SC), S.A[j]? = some sc → sc.s ≠ .e (i + 1) ∧ sc.s ≠ .c (i + 1) := fun j sc hj => by
    have := R.syl j sc hj
    constructor
    · intro e; rw [e] at this; have : i + 1 ≤ i := this; omega
    · intro e; rw [e] at this; have : i + 1 ≤ i := this; omega
  refine ⟨R.len, R.c0, R.h, R.dead, R.h10, by simp [R.kl], fun t f c hf hc => ?_, fun t u f g hf hg e => ?_, fun t f hf => ?_, fun o ho => R.ens o (by omega), fun j sc hj => (R.syl j sc hj).up, R.cells, fun j sc hj => ?_, fun _ f r e => ?_, Nat.le_succ_of_le R.dd, fun t f g hf hg => ?_⟩
  · cases t with
    | zero =>
      have hf : some _ = some f := hf
      have hc : some _ = some c := hc
      cases hf; cases hc
      exact ⟨rfl, hh, rfl, (fun _ => R.len), R.h10, by show arP x ≤ 1024; omega, Nat.le_refl _, (R.ens (i + 1) (by omega)).1, ⟨[], rfl, (fun m hm => by cases hm), fun j sc hj hs => absurd hs (nin j sc hj).1⟩, .inl rfl, fun j sc hj hs => absurd hs (nin j sc hj).1, .inr ⟨rfl, rfl⟩, (fun h => by cases h), (fun h => by cases h)⟩
    | succ t => exact R.fr t f c hf hc
  · cases t with
    | zero =>
      have hf : some _ = some f := hf
      cases hf
      cases u with
      | zero => rfl
      | succ u =>
        have : g.o ≤ i := R.lt u g hg
        have e : i + 1 = g.o := e
        omega
    | succ t =>
      have h1 : f.o ≤ i := R.lt t f hf
      cases u with
      | zero =>
        have hg : some _ = some g := hg
        cases hg
        have e : f.o = i + 1 := e
        omega
      | succ u => rw [R.dis t u f g hf hg e]
  · cases t with
    | zero =>
      have hf : some _ = some f := hf
      cases hf; exact Nat.le_refl _
    | succ t => exact Nat.le_succ_of_le (R.lt t f hf)
  · have := R.res j sc hj
    cases hs : sc.s using Sy.cs with
    | k v => trivial
    | e o =>
      rw [hs] at this
      rcases this with g | ⟨f, f1, f2⟩
      · exact .inl g
      · exact .inr ⟨f, List.mem_cons_of_mem _ f1, f2⟩
    | c o =>
      rw [hs] at this
      rcases this with g | ⟨f, f1, f2⟩
      · exact .inl g
      · exact .inr ⟨f, List.mem_cons_of_mem _ f1, f2⟩
  · cases e; exact Nat.le_refl _
  · cases t with
    | zero =>
      have hf : some _ = some f := hf
      cases hf
      have hg : S.fs[0]? = some g := hg
      cases hS : S.fs with
      | nil => rw [hS] at hg; cases hg
      | cons a r =>
        rw [hS] at hg
        have hg : some a = some g := hg
        cases hg
        exact R.live h0 _ _ hS
    | succ t => exact R.mono t f g hf hg
end
end Go.Proofs.Qxb6500321a
