/-
  The compiler's chains: an if, its else, an end.
-/
import Derived.Test.Qxb6500321aSmB
set_option linter.unusedSimpArgs false
set_option linter.unusedVariables false
set_option maxRecDepth 100000
set_option linter.unusedSectionVars false
namespace Go.Proofs.Qxb6500321a
open Go Go.Vc

section
variable {i : Nat} {S : SS} {p : PS}
/-- An if opened: its cell waits. -/
theorem RI.pushIf (R : RI i S p) (h0 : S.dead = 0) {f : SF} {r : List SF} (hS : S.fs = f :: r) (hh : f.fl < S.h) (x : Ins) :
    RI (i + 1) { S with A := S.A ++ [⟨4, .c (i + 1), 0⟩], fs := ⟨i + 1, x.op, S.h - 1, arP x, S.A.length + 1, true⟩ :: S.fs, h := S.h - 1 }
      { p with cells := p.cells ++ [⟨4, 0, 0⟩], k := ⟨x.op, (p.h - 1).toNat, arP x, p.cells.length + 1, 0, p.cells.length, 0⟩ :: p.k, h := p.h - 1 } := by
  have ph : p.h - 1 = ((S.h - 1 : Nat) : Int) := by rw [R.h]; omega
  have ha : arP x ≤ 1 := by unfold arP; split <;> omega
  have h10 := R.h10
  have nin : ∀ (j : Nat) (sc : SC), S.A[j]? = some sc → sc.s ≠ .e (i + 1) ∧ sc.s ≠ .c (i + 1) := fun j sc hj => by
    have := R.syl j sc hj
    constructor
    · intro e; rw [e] at this; have : i + 1 ≤ i := this; omega
    · intro e; rw [e] at this; have : i + 1 ≤ i := this; omega
  refine ⟨by simp [R.len], app_old R.c0, ph, R.dead, by show S.h - 1 ≤ 10; omega, by simp [R.kl], fun t g c hf hc => ?_, fun t u g g' hf hg e => ?_, fun t g hf => ?_, fun o ho => R.ens o (by omega), fun j sc hj => ?_, fun j sc hj => ?_, fun j sc hj => ?_, fun _ g q e => ?_, Nat.le_succ_of_le R.dd, fun t g g' hf hg => ?_⟩
  · cases t with
    | zero =>
      have hf : some _ = some g := hf
      have hc : some _ = some c := hc
      cases hf; cases hc
      refine ⟨rfl, by show (p.h - 1).toNat = S.h - 1; rw [ph]; rfl, rfl, (fun _ => by show p.cells.length + 1 = _; rw [R.len]), by show S.h - 1 ≤ 10; omega, by show arP x ≤ 1024; omega, by simp, (R.ens (i + 1) (by omega)).1, ⟨[], rfl, (fun m hm => by cases hm), fun j sc hj hs => ?_⟩, .inl rfl, fun j sc hj hs => ?_, .inl ⟨rfl, (R.ens (i + 1) (by omega)).2, S.A.length, _, R.len, app_new _ _, rfl⟩, fun _ j sc hj hs => ?_, fun _ => rfl⟩
      · rcases app_get hj with g | ⟨_, rfl⟩
        · exact absurd hs (nin j sc g).1
        · cases hs
      · rcases app_get hj with g | ⟨_, rfl⟩
        · exact absurd hs (nin j sc g).1
        · cases hs
      · rcases app_get hj with g | ⟨rfl, _⟩
        · exact absurd hs (nin j sc g).2
        · exact R.len
    | succ t =>
      have hl : g.o ≤ i := R.lt t g hf
      refine (R.fr t g c hf hc).append _ (fun h => by cases h) (fun h => ?_)
      (first | (injection h with z__; injection z__ with h) | injection h with h)
      omega
  · cases t with
    | zero =>
      have hf : some _ = some g := hf
      cases hf
      cases u with
      | zero => rfl
      | succ u =>
        have : g'.o ≤ i := R.lt u g' hg
        have e : i + 1 = g'.o := e
        omega
    | succ t =>
      have h1 : g.o ≤ i := R.lt t g hf
      cases u with
      | zero =>
        have hg : some _ = some g' := hg
        cases hg
        have e : g.o = i + 1 := e
        omega
      | succ u => rw [R.dis t u g g' hf hg e]
  · cases t with
    | zero =>
      have hf : some _ = some g := hf
      cases hf; exact Nat.le_refl _
    | succ t => exact Nat.le_succ_of_le (R.lt t g hf)
  · rcases app_get hj with g | ⟨_, rfl⟩
    · exact (R.syl j sc g).up
    · exact Nat.le_refl _
  · rcases app_get hj with g | ⟨rfl, rfl⟩
    · obtain ⟨x, x1, x2⟩ := R.cells j sc g
      exact ⟨x, app_old x1, x2⟩
    · refine ⟨⟨4, 0, 0⟩, by show (p.cells ++ [_])[S.A.length + 1]? = _; rw [← R.len]; exact app_new _ _, rfl, rfl, fun a ha => ?_⟩
      have : S.el (i + 1) = some a := ha
      rw [(R.ens (i + 1) (by omega)).2] at this; cases this
  · rcases app_get hj with g | ⟨_, rfl⟩
    · have := R.res j sc g
      cases hs : sc.s using Sy.cs with
      | k v => trivial
      | e o =>
        rw [hs] at this
        rcases this with g | ⟨f, f1, f2⟩
        · exact .inl g
        · exact .inr ⟨f, List.mem_cons_of_mem _ f1, f2⟩
      | c o =>
        rw [hs] at this
        rcases this with g | ⟨f, f1, f2⟩
        · exact .inl g
        · exact .inr ⟨f, List.mem_cons_of_mem _ f1, f2⟩
    · exact .inr ⟨_, List.mem_cons_self, rfl, rfl⟩
  · cases e; exact Nat.le_refl _
  · cases t with
    | zero =>
      have hf : some _ = some g := hf
      cases hf
      have hg : S.fs[0]? = some g' := hg
      rw [hS] at hg
      have hg : some f = some g' := hg
      cases hg
      show f.fl ≤ S.h - 1
      omega
    | succ t => exact R.mono t g g' hf hg

/-- A frame, while other frames' cells are set. -/
theorem FrR.turn {A : List SC} {en el en' el' : Nat → Option Nat} {cells cells' : List Ins} {f : SF} {c : CT} (R : FrR A en el cells f c) (h1 : en' f.o = en f.o) (h2 : el' f.o = el f.o)
    (h3 : ∀ j x sc, cells[j + 1]? = some x → A[j]? = some sc → sc.s = .e f.o → cells'[j + 1]? = some x) : FrR A en' el' cells' f c := by
  obtain ⟨ms, m1, m2, m3⟩ := R.ch
  refine ⟨R.op, R.fl, R.ar, R.st, R.fl10, R.ar10, R.stl, by rw [h1]; exact R.en, ⟨ms, m1.ext (fun m hm x hx => ?_), m2, m3⟩, R.jm, R.jm2, ?_, R.cn2, R.jc⟩
  · obtain ⟨sc, g1, g2, _⟩ := m2 m hm
    have := (m1.pos m hm).1
    have e : m = m - 1 + 1 := by omega
    rw [e] at hx ⊢
    exact h3 (m - 1) x sc hx g1 g2
  · rw [h2]; exact R.cn

/-- The other arm begins: the if's cell learns where. -/
theorem RI.cond (R : RI i S p) {f : SF} {r : List SF} {c : CT} {d : List CT} (hS : S.fs = f :: r) (hk : p.k = c :: d) (hc : f.cn = true) (v : Nat) :
    RI i { S with fs := { f with cn := false } :: r, el := up1 S.el f.o v } { p with cells := setX p.cells c.cn (v : Int), k := { c with cn := 0 } :: d } ∧ c.jm = 0 ∧ c.cn < p.cells.length := by
  have F := R.fr 0 f c (by rw [hS]; rfl) (by rw [hk]; rfl)
  have hjm := F.jc hc
  obtain ⟨j0, s0, e0, a0, y0⟩ : ∃ j sc, c.cn = j + 1 ∧ S.A[j]? = some sc ∧ sc.s = .c f.o := by
    rcases F.cn with ⟨_, _, g⟩ | ⟨g, _⟩
    · exact g
    · rw [hc] at g; cases g
  have hel : S.el f.o = none := by
    rcases F.cn with ⟨_, g, _⟩ | ⟨g, _⟩
    · exact g
    · rw [hc] at g; cases g
  have hlt : c.cn < p.cells.length := by have := get_lt a0; have := R.len; omega
  refine ⟨?_, hjm, hlt⟩
  have G : ∀ j, j ≠ c.cn → (setX p.cells c.cn (v : Int))[j]? = p.cells[j]? := fun j hj => by rw [setX_get, if_neg (fun e => hj e.symm)]
  have fso : ∀ (t : Nat) (g : SF), ({ f with cn := false } :: r)[t]? = some g → ∃ g', S.fs[t]? = some g' ∧ g'.o = g.o ∧ g'.fl = g.fl ∧ (t ≠ 0 → g' = g) := fun t g hg => by
    rw [hS]
    cases t with
    | zero =>
      have hg : some _ = some g := hg
      cases hg
      exact ⟨f, rfl, rfl, rfl, fun h => absurd rfl h⟩
    | succ t => exact ⟨g, hg, rfl, rfl, fun _ => rfl⟩
  have nej : ∀ (j : Nat) (sc : SC) (o : Nat), S.A[j]? = some sc → sc.s = .e o → j + 1 ≠ c.cn := fun j sc o hj hs e => by
    have : j = j0 := by omega
    subst this
    rw [a0] at hj; cases hj
    rw [y0] at hs; cases hs
  refine ⟨by show (setX _ _ _).length = _; rw [setX_len]; exact R.len, by show (setX p.cells c.cn (v : Int))[0]? = _; rw [G 0 (by omega)]; exact R.c0, R.h, R.dead, R.h10, by have := R.kl; rw [hS, hk] at this; simpa using this, fun t g q hg hq => ?_, fun t u g g' hg hg' e => ?_, fun t g hg => ?_, fun o ho => ⟨(R.ens o ho).1, ?_⟩, R.syl, fun j sc hj => ?_, fun j sc hj => ?_, fun h0 g q e => ?_, R.dd, fun t g g' hg hg' => ?_⟩
  · cases t with
    | zero =>
      have hg : some _ = some g := hg
      have hq : some _ = some q := hq
      cases hg; cases hq
      obtain ⟨ms, m1, m2, m3⟩ := F.ch
      refine ⟨F.op, F.fl, F.ar, F.st, F.fl10, F.ar10, F.stl, F.en, ⟨ms, m1.ext (fun m hm x hx => ?_), m2, m3⟩, F.jm, F.jm2, .inr ⟨rfl, rfl⟩, (fun h => by cases h), fun _ => hjm⟩
      obtain ⟨sc, g1, g2, _⟩ := m2 m hm
      have := (m1.pos m hm).1
      have ne := nej _ sc _ g1 g2
      rw [G m (by omega)]; exact hx
    | succ t =>
      have hg : r[t]? = some g := hg
      have hg2 : S.fs[t + 1]? = some g := by rw [hS]; exact hg
      have ho : g.o ≠ f.o := fun e => by have := R.dis (t + 1) 0 g f hg2 (by rw [hS]; rfl) e; omega
      refine (R.fr (t + 1) g q hg2 (by rw [hk]; exact hq)).turn rfl (up1_ne _ _ ho) (fun j x sc hx hj hs => ?_)
      rw [G _ (nej j sc _ hj hs)]; exact hx
  · obtain ⟨a, a1, a2, _⟩ := fso t g hg
    obtain ⟨b, b1, b2, _⟩ := fso u g' hg'
    exact R.dis t u a b a1 b1 (by rw [a2, b2]; exact e)
  · obtain ⟨a, a1, a2, _⟩ := fso t g hg
    rw [← a2]; exact R.lt t a a1
  · have : f.o ≤ i := R.lt 0 f (by rw [hS]; rfl)
    show up1 S.el f.o v o = none
    rw [up1_ne _ _ (by omega)]; exact (R.ens o ho).2
  · obtain ⟨x, x1, x2, x3, x4⟩ := R.cells j sc hj
    by_cases e : j + 1 = c.cn
    · have : j = j0 := by omega
      subst this
      rw [a0] at hj; cases hj
      refine ⟨{ x with x := (v : Int) }, by show (setX p.cells c.cn (v : Int))[j + 1]? = _; rw [setX_get, if_pos e.symm, x1]; rfl, x2, x3, ?_⟩
      rw [y0]
      intro a ha
      have ha : up1 S.el f.o v f.o = some a := ha
      rw [up1_same] at ha; cases ha; rfl
    · refine ⟨x, by show (setX p.cells c.cn (v : Int))[j + 1]? = _; rw [G _ e]; exact x1, x2, x3, ?_⟩
      cases hs : sc.s using Sy.cs with
      | k u => rw [hs] at x4; exact x4
      | e o => rw [hs] at x4; exact x4
      | c o =>
        rw [hs] at x4
        by_cases eo : o = f.o
        · subst eo
          exact absurd (F.cn2 hc j sc hj hs).symm e
        · intro a ha
          have ha : up1 S.el f.o v o = some a := ha
          rw [up1_ne _ _ eo] at ha
          exact x4 a ha
  · have := R.res j sc hj
    cases hs : sc.s using Sy.cs with
    | k u => trivial
    | e o =>
      rw [hs] at this
      rcases this with g | ⟨g, g1, g2⟩
      · exact .inl g
      · rw [hS] at g1
        rcases List.mem_cons.1 g1 with rfl | g1
        · exact .inr ⟨_, List.mem_cons_self, g2⟩
        · exact .inr ⟨g, List.mem_cons_of_mem _ g1, g2⟩
    | c o =>
      rw [hs] at this
      by_cases eo : o = f.o
      · subst eo
        exact .inl ⟨v, up1_same _ _ _⟩
      · rcases this with ⟨a, ha⟩ | ⟨g, g1, g2, g3⟩
        · exact .inl ⟨a, by rw [← ha]; exact up1_ne _ _ eo⟩
        · rw [hS] at g1
          rcases List.mem_cons.1 g1 with rfl | g1
          · exact absurd g2.symm eo
          · exact .inr ⟨g, List.mem_cons_of_mem _ g1, g2, g3⟩
  · cases e
    exact R.live h0 f r hS
  · obtain ⟨a, a1, _, a2, _⟩ := fso t g hg
    obtain ⟨b, b1, _, b2, _⟩ := fso (t + 1) g' hg'
    rw [← a2, ← b2]
    exact R.mono t a b a1 b1

/-- The jump over the other arm. -/
theorem RI.jump (R : RI i S p) {f : SF} {r : List SF} {c : CT} {d : List CT} (hS : S.fs = f :: r) (hk : p.k = c :: d) (hc : f.cn = false) (hj : c.jm = 0) :
    RI i { S with A := S.A ++ [⟨224, .e f.o, 0⟩] } { p with cells := p.cells ++ [⟨224, 0, 0⟩], k := { c with jm := p.cells.length } :: d } := by
  have F := R.fr 0 f c (by rw [hS]; rfl) (by rw [hk]; rfl)
  refine ⟨by simp [R.len], app_old R.c0, R.h, R.dead, R.h10, by have := R.kl; rw [hk] at this; simpa using this, fun t g q hg hq => ?_, R.dis, R.lt, R.ens, fun j sc hj => ?_, fun j sc hj => ?_, fun j sc hj => ?_, R.live, R.dd, R.mono⟩
  · have hg : S.fs[t]? = some g := hg
    cases t with
    | zero =>
      rw [hS] at hg
      have hg : some f = some g := hg
      have hq : some _ = some q := hq
      cases hg; cases hq
      obtain ⟨ms, m1, m2, m3⟩ := F.ch
      refine ⟨F.op, F.fl, F.ar, F.st, F.fl10, F.ar10, by have := F.stl; simp; omega, F.en, ⟨ms, m1.ext (fun m hm x hx => app_old hx), fun m hm => ?_, fun j sc hj hs ho => ?_⟩, .inr ⟨S.A.length, _, R.len, app_new _ _, rfl⟩, fun j sc hj' hs ho => ?_, .inr ⟨hc, ?_⟩, fun h => (by rw [hc] at h; cases h), fun h => (by rw [hc] at h; cases h)⟩
      · obtain ⟨s, g1, g2⟩ := m2 m hm
        exact ⟨s, app_old g1, g2⟩
      · rcases app_get hj with g | ⟨_, rfl⟩
        · exact m3 j sc g hs ho
        · exact absurd rfl ho
      · rcases app_get hj' with g | ⟨rfl, _⟩
        · have := F.jm2 j sc g hs ho; omega
        · exact R.len
      · rcases F.cn with ⟨g, _⟩ | ⟨_, g⟩
        · rw [hc] at g; cases g
        · exact g
    | succ t =>
      have ho : f.o ≠ g.o := fun e => by have := R.dis 0 (t + 1) f g (by rw [hS]; rfl) hg e; omega
      exact (R.fr (t + 1) g q hg (by rw [hk]; exact hq)).append _ (fun h => by (first | (injection h with z__; injection z__ with h) | injection h with h); exact ho h) (fun h => by cases h)
  · rcases app_get hj with g | ⟨_, rfl⟩
    · exact R.syl j sc g
    · exact R.lt 0 f (by rw [hS]; rfl)
  · rcases app_get hj with g | ⟨rfl, rfl⟩
    · obtain ⟨x, x1, x2⟩ := R.cells j sc g
      exact ⟨x, app_old x1, x2⟩
    · refine ⟨⟨224, 0, 0⟩, by show (p.cells ++ [_])[S.A.length + 1]? = _; rw [← R.len]; exact app_new _ _, rfl, rfl, fun a ha => ?_⟩
      have : S.en f.o = some a := ha
      rw [F.en] at this; cases this
  · rcases app_get hj with g | ⟨_, rfl⟩
    · exact R.res j sc g
    · exact .inr ⟨f, by rw [hS]; exact List.mem_cons_self, rfl⟩

theorem shutC_len (ms : List Nat) (c : CT) (cells : List Ins) : (shutC ms c cells).length = cells.length := by
  unfold shutC
  dsimp only
  split <;> split <;> simp only [setX_len, setXs_len]
theorem shutC_get (ms : List Nat) (c : CT) (cells : List Ins) (j : Nat) : (shutC ms c cells)[j]? = if j ∈ ms ∨ (c.cn ≠ 0 ∧ j = c.cn) ∨ (c.jm ≠ 0 ∧ j = c.jm) then cells[j]?.map (fun i => { i with x := ((cells.length - 1 : Nat) : Int) }) else cells[j]? := by
  have mm : ∀ {o : Option Ins} {v : Int}, (o.map (fun i => { i with x := v })).map (fun i => { i with x := v }) = o.map (fun i : Ins => { i with x := v }) := fun {o v} => by cases o <;> rfl
  by_cases hT : j ∈ ms ∨ (c.cn ≠ 0 ∧ j = c.cn) ∨ (c.jm ≠ 0 ∧ j = c.jm)
  · rw [if_pos hT]
    unfold shutC
    dsimp only
    by_cases h1 : c.jm = 0
    · rw [if_pos h1]
      by_cases h2 : c.cn = 0
      · rw [if_pos h2, setXs_get, if_pos (hT.elim id fun g => g.elim (fun q => absurd h2 q.1) (fun q => absurd h1 q.1))]
      · rw [if_neg h2, setX_get, setXs_get]
        by_cases h4 : c.cn = j
        · rw [if_pos h4]
          split
          · exact mm
          · rfl
        · rw [if_neg h4, if_pos (hT.elim id fun g => g.elim (fun q => absurd q.2.symm h4) (fun q => absurd h1 q.1))]
    · rw [if_neg h1, setX_get]
      by_cases h5 : c.jm = j
      · rw [if_pos h5]
        by_cases h2 : c.cn = 0
        · rw [if_pos h2, setXs_get]
          split
          · exact mm
          · rfl
        · rw [if_neg h2, setX_get, setXs_get]
          split
          · split
            · rw [mm, mm]
            · exact mm
          · split
            · exact mm
            · rfl
      · rw [if_neg h5]
        by_cases h2 : c.cn = 0
        · rw [if_pos h2, setXs_get, if_pos (hT.elim id fun g => g.elim (fun q => absurd h2 q.1) (fun q => absurd q.2.symm h5))]
        · rw [if_neg h2, setX_get, setXs_get]
          by_cases h4 : c.cn = j
          · rw [if_pos h4]
            split
            · exact mm
            · rfl
          · rw [if_neg h4, if_pos (hT.elim id fun g => g.elim (fun q => absurd q.2.symm h4) (fun q => absurd q.2.symm h5))]
  · rw [if_neg hT]
    have t1 : j ∉ ms := fun h => hT (.inl h)
    have t2 : c.cn ≠ 0 → ¬ c.cn = j := fun h e => hT (.inr (.inl ⟨h, e.symm⟩))
    have t3 : c.jm ≠ 0 → ¬ c.jm = j := fun h e => hT (.inr (.inr ⟨h, e.symm⟩))
    unfold shutC
    dsimp only
    by_cases h1 : c.jm = 0
    · rw [if_pos h1]
      by_cases h2 : c.cn = 0
      · rw [if_pos h2, setXs_get, if_neg t1]
      · rw [if_neg h2, setX_get, setXs_get, if_neg (t2 h2), if_neg t1]
    · rw [if_neg h1, setX_get, if_neg (t3 h1)]
      by_cases h2 : c.cn = 0
      · rw [if_pos h2, setXs_get, if_neg t1]
      · rw [if_neg h2, setX_get, setXs_get, if_neg (t2 h2), if_neg t1]

/-- The innermost block closed: all that waited for it learns the next cell's number. -/
theorem RI.shut (R : RI i S p) {f : SF} {r : List SF} {c : CT} {d : List CT} (hS : S.fs = f :: r) (hk : p.k = c :: d) (h10 : f.fl + f.ar ≤ 10) {ms : List Nat}
    (m1 : Chn p.cells c.pt ms) (m2 : ∀ m, m ∈ ms → ∃ sc, S.A[m - 1]? = some sc ∧ sc.s = .e f.o ∧ sc.op ≠ 224) (m3 : ∀ j sc, S.A[j]? = some sc → sc.s = .e f.o → sc.op ≠ 224 → j + 1 ∈ ms) :
    RI i { A := S.A, fs := r, h := f.fl + f.ar, dead := 0, en := up1 S.en f.o S.A.length, el := if f.cn = true then up1 S.el f.o S.A.length else S.el }
      { cells := shutC ms c p.cells, k := d, h := ((f.fl + f.ar : Nat) : Int), dead := 0 } := by
  have F := R.fr 0 f c (by rw [hS]; rfl) (by rw [hk]; rfl)
  have fo : f.o ≤ i := R.lt 0 f (by rw [hS]; rfl)
  have hv : p.cells.length - 1 = S.A.length := by rw [R.len]; rfl
  -- what is set
  have T1 : ∀ j, (j ∈ ms ∨ (c.cn ≠ 0 ∧ j = c.cn) ∨ (c.jm ≠ 0 ∧ j = c.jm)) → 0 < j ∧ ∃ sc, S.A[j - 1]? = some sc ∧ (sc.s = .e f.o ∨ (sc.s = .c f.o ∧ f.cn = true)) := fun j hj => by
    rcases hj with h | ⟨h, rfl⟩ | ⟨h, rfl⟩
    · obtain ⟨sc, g1, g2, _⟩ := m2 j h
      exact ⟨(m1.pos j h).1, sc, g1, .inl g2⟩
    · rcases F.cn with ⟨q, _, j, sc, e, g1, g2⟩ | ⟨_, g⟩
      · exact ⟨by omega, sc, by rw [e]; exact g1, .inr ⟨g2, q⟩⟩
      · exact absurd g h
    · rcases F.jm with g | ⟨j, sc, e, g1, g2⟩
      · exact absurd g h
      · exact ⟨by omega, sc, by rw [e]; exact g1, .inl g2⟩
  have T2 : ∀ (j : Nat) (sc : SC), S.A[j]? = some sc → (sc.s = .e f.o ∨ (sc.s = .c f.o ∧ f.cn = true)) → (j + 1 ∈ ms ∨ (c.cn ≠ 0 ∧ j + 1 = c.cn) ∨ (c.jm ≠ 0 ∧ j + 1 = c.jm)) := fun j sc hj hs => by
    rcases hs with h | ⟨h, hc⟩
    · by_cases ho : sc.op = 224
      · have := F.jm2 j sc hj h ho
        exact .inr (.inr ⟨by omega, by omega⟩)
      · exact .inl (m3 j sc hj h ho)
    · have := F.cn2 hc j sc hj h
      exact .inr (.inl ⟨by omega, by omega⟩)
  have G : ∀ (j : Nat) (sc : SC), S.A[j]? = some sc → ¬ (sc.s = .e f.o ∨ (sc.s = .c f.o ∧ f.cn = true)) → (shutC ms c p.cells)[j + 1]? = p.cells[j + 1]? := fun j sc hj hn => by
    rw [shutC_get, if_neg (fun h => ?_)]
    obtain ⟨_, s, g1, g2⟩ := T1 _ h
    rw [Nat.add_sub_cancel, hj] at g1; cases g1
    exact hn g2
  have elne : ∀ o, o ≠ f.o → (if f.cn = true then up1 S.el f.o S.A.length else S.el) o = S.el o := fun o ho => by
    split
    · exact up1_ne _ _ ho
    · rfl
  refine ⟨by show (shutC _ _ _).length = _; rw [shutC_len]; exact R.len, ?_, rfl, rfl, h10, by have := R.kl; rw [hS, hk] at this; simpa using this, fun t g q hg hq => ?_, fun t u g g' hg hg' e => ?_, fun t g hg => R.lt (t + 1) g (by rw [hS]; exact hg), fun o ho => ⟨?_, ?_⟩, R.syl, fun j sc hj => ?_, fun j sc hj => ?_, fun _ g q e => ?_, Nat.zero_le _, fun t g g' hg hg' => R.mono (t + 1) g g' (by rw [hS]; exact hg) (by rw [hS]; exact hg')⟩
  · show (shutC ms c p.cells)[0]? = _
    rw [shutC_get, if_neg (fun h => absurd (T1 0 h).1 (by omega))]; exact R.c0
  · have hg : r[t]? = some g := hg
    have hg2 : S.fs[t + 1]? = some g := by rw [hS]; exact hg
    have ho : g.o ≠ f.o := fun e => by have := R.dis (t + 1) 0 g f hg2 (by rw [hS]; rfl) e; omega
    refine (R.fr (t + 1) g q hg2 (by rw [hk]; exact hq)).turn (up1_ne _ _ ho) (elne _ ho) (fun j x sc hx hj hs => ?_)
    rw [G j sc hj (fun h => ?_)]
    · exact hx
    · rcases h with h | ⟨h, _⟩
      · rw [hs] at h; (first | (injection h with z__; injection z__ with h) | injection h with h); exact ho h
      · rw [hs] at h; cases h
  · have := R.dis (t + 1) (u + 1) g g' (by rw [hS]; exact hg) (by rw [hS]; exact hg') e
    omega
  · show up1 S.en f.o S.A.length o = none
    rw [up1_ne _ _ (by omega)]; exact (R.ens o ho).1
  · show (if f.cn = true then up1 S.el f.o S.A.length else S.el) o = none
    rw [elne o (by omega)]; exact (R.ens o ho).2
  · obtain ⟨x, x1, x2, x3, x4⟩ := R.cells j sc hj
    by_cases hn : sc.s = .e f.o ∨ (sc.s = .c f.o ∧ f.cn = true)
    · refine ⟨{ x with x := ((p.cells.length - 1 : Nat) : Int) }, by show (shutC ms c p.cells)[j + 1]? = _; rw [shutC_get, if_pos (T2 j sc hj hn), x1]; rfl, x2, x3, ?_⟩
      rcases hn with h | ⟨h, hc⟩
      · rw [h]
        intro a ha
        have ha : up1 S.en f.o S.A.length f.o = some a := ha
        rw [up1_same] at ha; cases ha
        show ((p.cells.length - 1 : Nat) : Int) = _
        rw [hv]
      · rw [h]
        intro a ha
        have ha : (if f.cn = true then up1 S.el f.o S.A.length else S.el) f.o = some a := ha
        rw [if_pos hc, up1_same] at ha; cases ha
        show ((p.cells.length - 1 : Nat) : Int) = _
        rw [hv]
    · refine ⟨x, by show (shutC ms c p.cells)[j + 1]? = _; rw [G j sc hj hn]; exact x1, x2, x3, ?_⟩
      cases hs : sc.s using Sy.cs with
      | k u => rw [hs] at x4; exact x4
      | e o =>
        rw [hs] at x4
        intro a ha
        have ha : up1 S.en f.o S.A.length o = some a := ha
        rw [up1_ne _ _ (fun e => hn (.inl (by rw [hs, e])))] at ha
        exact x4 a ha
      | c o =>
        rw [hs] at x4
        intro a ha
        have ha : (if f.cn = true then up1 S.el f.o S.A.length else S.el) o = some a := ha
        by_cases hc : f.cn = true
        · rw [if_pos hc, up1_ne _ _ (fun e => hn (.inr ⟨by rw [hs, e], hc⟩))] at ha
          exact x4 a ha
        · rw [if_neg hc] at ha
          exact x4 a ha
  · have := R.res j sc hj
    cases hs : sc.s using Sy.cs with
    | k u => trivial
    | e o =>
      rw [hs] at this
      by_cases eo : o = f.o
      · subst eo
        exact .inl ⟨_, up1_same _ _ _⟩
      · rcases this with ⟨a, ha⟩ | ⟨g, g1, g2⟩
        · exact .inl ⟨a, by rw [← ha]; exact up1_ne _ _ eo⟩
        · rw [hS] at g1
          rcases List.mem_cons.1 g1 with rfl | g1
          · exact absurd g2.symm eo
          · exact .inr ⟨g, g1, g2⟩
    | c o =>
      rw [hs] at this
      show (∃ a, (if f.cn = true then up1 S.el f.o S.A.length else S.el) o = some a) ∨ _
      rcases this with ⟨a, ha⟩ | ⟨g, g1, g2, g3⟩
      · by_cases eo : o = f.o
        · subst eo
          by_cases hc : f.cn = true
          · exact .inl ⟨S.A.length, by rw [if_pos hc]; exact up1_same _ _ _⟩
          · exact .inl ⟨a, by rw [if_neg hc]; exact ha⟩
        · exact .inl ⟨a, by rw [elne o eo]; exact ha⟩
      · rw [hS] at g1
        rcases List.mem_cons.1 g1 with rfl | g1
        · rw [if_pos g3, ← g2]
          exact .inl ⟨_, up1_same _ _ _⟩
        · exact .inr ⟨g, g1, g2, g3⟩
  · have := R.mono 0 f g (by rw [hS]; rfl) (by rw [hS]; show r[0]? = _; rw [show r = g :: q from e]; rfl)
    show g.fl ≤ f.fl + f.ar
    omega
end
end Go.Proofs.Qxb6500321a
