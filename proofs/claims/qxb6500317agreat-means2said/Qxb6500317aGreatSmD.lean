/-
  Each step of the compiler is a step of the machine.
-/
import Derived.Test.Qxb6500317aGreatSmC
import Derived.Test.Qxb6500317aGreatPrF
set_option linter.unusedSimpArgs false
set_option linter.unusedVariables false
set_option maxRecDepth 100000
set_option linter.unusedSectionVars false
namespace Go.Proofs.Qxb6500317aGreat
open Go Go.Vc

/-- What a step of the compiler leaves, against the machine's. -/
def LRes (i : Nat) (S : SS) (wt : Nat) (o : Option SS) (z : Bool × PS) : Prop :=
  match o with
  | none => z.1 = false ∧ z.2.cells[0]? = some z0
  | some S' => z.1 = true ∧ RI (i + 1) S' z.2 ∧ S'.A.length ≤ S.A.length + wt

section
variable {i : Nat} {S : SS} {p : PS} {f : SF} {r : List SF}
theorem RI.top (R : RI i S p) (hS : S.fs = f :: r) : ∃ c d, p.k = c :: d ∧ FrR S.A S.en S.el p.cells f c ∧ d.length = r.length := by
  have kl := R.kl
  rw [hS] at kl
  cases hk : p.k with
  | nil => rw [hk] at kl; simp at kl
  | cons c d =>
    rw [hk] at kl
    exact ⟨c, d, rfl, R.fr 0 f c (by rw [hS]; rfl) (by rw [hk]; rfl), by simpa using kl⟩
theorem RI.fok (R : RI i S p) (hl : p.cells.length ≤ 121) : FOk p.k := fun l c hc => by
  have hl' := get_lt hc
  rw [R.kl] at hl'
  have F := R.fr l _ c (List.getElem?_eq_getElem hl') hc
  have := R.len
  have := F.stl; have := F.fl10; have := F.ar10; have := F.fl; have := F.ar
  obtain ⟨ms, m1, _⟩ := F.ch
  refine ⟨by omega, by omega, fun q => by have := F.st (by rw [← F.op]; exact q); omega, ?_⟩
  cases ms with
  | nil =>
    have m1 : c.pt = 0 := m1
    omega
  | cons a q =>
    have m0 := m1.pos a (by simp)
    obtain ⟨e, _⟩ := m1
    omega
theorem RI.cnl (R : RI i S p) {c : CT} (F : FrR S.A S.en S.el p.cells f c) : c.cn < p.cells.length ∧ c.jm < p.cells.length := by
  have hl := R.len
  constructor
  · rcases F.cn with ⟨_, _, j, sc, e, g, _⟩ | ⟨_, e⟩
    · have := get_lt g; omega
    · omega
  · rcases F.jm with e | ⟨j, sc, e, g, _⟩
    · omega
    · have := get_lt g; omega

theorem RI.openL (R : RI i S p) (h0 : S.dead = 0) (hS : S.fs = f :: r) (x : Ins) : LRes i S 1 (openS i x S) (openP x p) := by
  obtain ⟨c, d, hk, F, hd⟩ := R.top hS
  unfold openS openP
  rw [hS]
  dsimp only
  have kl := R.kl
  rw [hS] at kl
  by_cases h7 : (f :: r).length = 7
  · have k7 : p.k.length = 7 := by omega
    rw [if_pos h7, if_pos k7]
    exact ⟨rfl, R.c0⟩
  have k7 : ¬ p.k.length = 7 := by omega
  rw [if_neg h7, if_neg k7]
  by_cases e4 : x.op = 4
  · rw [if_pos e4, if_pos e4]
    have ht : topFl p.k = f.fl := by rw [hk]; exact F.fl
    have hh := R.h
    by_cases hf : S.h ≤ f.fl
    · have k1 : p.h - 1 < ((topFl p.k : Nat) : Int) := by rw [ht]; omega
      rw [if_pos hf, if_pos k1]
      exact ⟨rfl, R.c0⟩
    · have k1 : ¬ p.h - 1 < ((topFl p.k : Nat) : Int) := by rw [ht]; omega
      rw [if_neg hf, if_neg k1]
      refine ⟨rfl, ?_, by simp⟩
      have := R.pushIf h0 hS (by omega) x
      rw [hS] at this
      exact this
  · rw [if_neg e4, if_neg e4]
    refine ⟨rfl, ?_, by simp⟩
    have := R.push h0 x
    rw [hS] at this
    exact this

theorem setX_app (l : List Ins) (a : Ins) {c : Nat} (h : c < l.length) (v : Int) : setX (l ++ [a]) c v = setX l c v ++ [a] := by
  apply List.ext_getElem?
  intro j
  rw [setX_get]
  by_cases hj : j < l.length
  · rw [List.getElem?_append_left hj, List.getElem?_append_left (by rw [setX_len]; exact hj), setX_get]
  · rw [if_neg (by omega), List.getElem?_append_right (by omega), List.getElem?_append_right (by rw [setX_len]; omega), setX_len]

theorem RI.turnL (R : RI i S p) (hS : S.fs = f :: r) : LRes i S 1 (turnS S) (turnP p) := by
  obtain ⟨c, d, hk, F, hd⟩ := R.top hS
  unfold turnS turnP
  rw [hS, hk]
  dsimp only
  have hh := R.h; have hdd := R.dead
  have e1 := F.fl; have e2 := F.ar
  have f10 := F.fl10
  by_cases hn : S.dead = 0 ∧ S.h ≠ f.fl + f.ar
  · have k1 : p.dead = 0 ∧ p.h ≠ ((c.fl + c.ar : Nat) : Int) := by omega
    rw [if_pos hn, if_pos k1]
    exact ⟨rfl, R.c0⟩
  have k1 : ¬ (p.dead = 0 ∧ p.h ≠ ((c.fl + c.ar : Nat) : Int)) := by omega
  rw [if_neg hn, if_neg k1]
  by_cases hc : f.cn = false
  · have k2 : c.cn = 0 := by
      rcases F.cn with ⟨g, _⟩ | ⟨_, g⟩
      · rw [hc] at g; cases g
      · exact g
    rw [if_pos hc, if_pos k2]
    exact ⟨rfl, R.c0⟩
  have k2 : ¬ c.cn = 0 := by
    rcases F.cn with ⟨_, _, j, _, e, _⟩ | ⟨g, _⟩
    · omega
    · exact absurd g hc
  rw [if_neg hc, if_neg k2]
  have hc : f.cn = true := by simpa using hc
  obtain ⟨R1, hj, hcn⟩ := R.cond hS hk hc (turnA S f).length
  have e1' : ((c.fl : Nat) : Int) = ((f.fl : Nat) : Int) := by rw [e1]
  have hl := R.len
  by_cases h0 : S.dead = 0
  · have hA : turnA S f = S.A ++ [⟨224, .e f.o, 0⟩] := by unfold turnA; rw [if_pos h0]
    have hC : turnC p = p.cells ++ [⟨224, 0, 0⟩] := by unfold turnC; rw [if_pos (by omega)]
    have R2 := R1.jump (f := { f with cn := false }) (r := r) (c := { c with cn := 0 }) (d := d) rfl rfl rfl hj
    have R3 := (R2.nx).setHD (h' := f.fl) (d' := 0) f10 (fun _ g q e => by cases e; exact Nat.le_refl _) (by omega)
    refine ⟨rfl, ?_, by rw [hA]; simp⟩
    rw [hA, hC]
    rw [setX_app _ _ hcn, if_pos (by omega)]
    have ev : (((p.cells ++ [(⟨224, 0, 0⟩ : Ins)]).length - 1 : Nat) : Int) = ((turnA S f).length : Int) := by rw [hA]; simp; omega
    rw [ev, e1']
    have el : (setX p.cells c.cn (((turnA S f).length : Nat) : Int)).length = p.cells.length := setX_len _ _ _
    have R3 : RI (i + 1) _ _ := R3
    dsimp only at R3
    rw [el] at R3
    rw [hA] at R3 ⊢
    exact R3
  · have hA : turnA S f = S.A := by unfold turnA; rw [if_neg h0]
    have hC : turnC p = p.cells := by unfold turnC; rw [if_neg (by omega)]
    have R3 := (R1.nx).setHD (h' := f.fl) (d' := 0) f10 (fun _ g q e => by cases e; exact Nat.le_refl _) (by omega)
    refine ⟨rfl, ?_, by rw [hA]; simp⟩
    rw [hA, hC, if_neg (by omega), e1']
    have ev : ((p.cells.length - 1 : Nat) : Int) = ((S.A.length : Nat) : Int) := by omega
    rw [ev]
    rw [hA] at R3
    exact R3

theorem RI.shutL (R : RI i S p) (hS : S.fs = f :: r) : ∃ ms, (∀ c d, p.k = c :: d → Chn p.cells c.pt ms) ∧ LRes i S 1 (shutS S) (shutP ms p) ∧ ((shutP ms p).1 = false → (shutP ms p).2 = p) := by
  obtain ⟨c, d, hk, F, hd⟩ := R.top hS
  obtain ⟨ms, m1, m2, m3⟩ := F.ch
  refine ⟨ms, fun c' d' e => by rw [hk] at e; cases e; exact m1, ?_⟩
  unfold shutS shutP
  rw [hS, hk]
  dsimp only
  have hh := R.h; have hdd := R.dead
  have e1 := F.fl; have e2 := F.ar
  by_cases hn : S.dead = 0 ∧ S.h ≠ f.fl + f.ar
  · have k1 : p.dead = 0 ∧ p.h ≠ ((c.fl + c.ar : Nat) : Int) := by omega
    rw [if_pos hn, if_pos k1]
    exact ⟨⟨rfl, R.c0⟩, fun _ => rfl⟩
  have k1 : ¬ (p.dead = 0 ∧ p.h ≠ ((c.fl + c.ar : Nat) : Int)) := by omega
  rw [if_neg hn, if_neg k1]
  by_cases h10 : 10 < f.fl + f.ar
  · have k2 : 10 < c.fl + c.ar := by omega
    rw [if_pos h10, if_pos k2]
    exact ⟨⟨rfl, R.c0⟩, fun _ => rfl⟩
  have k2 : ¬ 10 < c.fl + c.ar := by omega
  rw [if_neg h10, if_neg k2]
  have R1 := R.shut hS hk (by omega) m1 m2 m3
  refine ⟨⟨rfl, ?_, ?_⟩, fun h => by cases h⟩
  · rw [e1, e2, hd]
    by_cases hr : r.length = 0
    · rw [if_pos hr, if_pos hr]
      exact (R1.known 11 0 0).nx
    · rw [if_neg hr, if_neg hr]
      exact R1.nx
  · dsimp only
    split
    · simp
    · omega

/-- A branch laid. -/
theorem RI.branchL (R : RI i S p) {l : Nat} {g : SF} (hg : S.fs[l]? = some g) {op : Int} (h0 : op ≠ 0) (h224 : op ≠ 224) : RI i { S with A := S.A ++ [brC op g] } (branchP op l p) := by
  obtain ⟨c, hc⟩ := R.len7 hg
  have F := R.fr l g c hg hc
  rw [branchP_some hc]
  have e1 := F.fl; have e2 := F.ar; have e3 := F.st; have e4 := F.op
  by_cases h3 : g.op = 3
  · have hb : brC op g = ⟨op, .k (g.st : Int), (g.fl : Int)⟩ := if_pos h3
    rw [if_pos (e4.trans h3), hb]
    have hy : ((c.st - 1 : Nat) : Int) = (g.st : Int) := by have := e3 h3; omega
    rw [hy, e1]
    exact R.known op (g.st : Int) (g.fl : Int)
  · have hb : brC op g = ⟨op, .e g.o, (g.ar : Int) * 4294967296 + g.fl⟩ := if_neg h3
    have hy : (g.ar : Int) * 4294967296 + (g.fl : Int) = (c.ar : Int) * 4294967296 + (c.fl : Int) := by rw [e1, e2]
    rw [if_neg (fun q => h3 (e4.symm.trans q)), hb, hy]
    exact R.wait hg hc h0 h224 _

theorem RI.brL (R : RI i S p) (h0 : S.dead = 0) (hS : S.fs = f :: r) (x : Ins) (x0 : 0 ≤ x.x) (ho : x.op = 12 ∨ x.op = 13) : LRes i S 1 (brS x S) (cbrP x p) := by
  obtain ⟨c, d, hk, F, hd⟩ := R.top hS
  have hh := R.h; have h10 := R.h10
  have hfl := R.live h0 f r hS
  have ht : topFl p.k = f.fl := by rw [hk]; exact F.fl
  have kl := R.kl
  unfold brS cbrP
  dsimp only
  rw [hS]
  dsimp only
  rw [← hS]
  cases hg : S.fs[x.x.toNat]? with
  | none =>
    dsimp only
    have := List.getElem?_eq_none_iff.1 hg
    have k1 : (p.k.length : Int) ≤ x.x := by omega
    rw [if_pos (.inl k1)]
    exact ⟨rfl, R.c0⟩
  | some g =>
    dsimp only
    have hlt := get_lt hg
    have hd1 : (if x.op = 13 then (1 : Nat) else 0) ≤ 1 := by split <;> omega
    have hd2 : (if x.op = 13 then (1 : Int) else 0) = ((if x.op = 13 then (1 : Nat) else 0 : Nat) : Int) := by split <;> rfl
    by_cases hf : S.h < f.fl + (if x.op = 13 then 1 else 0)
    · have k1 : (p.k.length : Int) ≤ x.x ∨ p.h - (if x.op = 13 then 1 else 0) < ((topFl p.k : Nat) : Int) := .inr (by rw [ht, hd2]; omega)
      rw [if_pos hf, if_pos k1]
      exact ⟨rfl, R.c0⟩
    · have k1 : ¬ ((p.k.length : Int) ≤ x.x ∨ p.h - (if x.op = 13 then 1 else 0) < ((topFl p.k : Nat) : Int)) := fun q => by
        rcases q with q | q
        · omega
        · rw [ht, hd2] at q; omega
      rw [if_neg hf, if_neg k1]
      refine ⟨rfl, ?_, by simp⟩
      have R1 := (R.branchL hg (op := x.op) (by omega) (by omega)).nx
      have R2 := R1.setHD (h' := S.h - (if x.op = 13 then 1 else 0)) (d' := if x.op = 12 then 1 else S.dead) (by omega) (fun hz g' q e => ?_) (by split <;> omega)
      · have e1 : ((S.h - (if x.op = 13 then 1 else 0) : Nat) : Int) = p.h - (if x.op = 13 then 1 else 0) := by rw [hh, hd2]; omega
        rw [e1, ← R.dead] at R2
        have e2 : ∀ q : Int, ({ branchP x.op x.x.toNat p with h := q, dead := if x.op = 12 then 1 else p.dead } : PS) = { branchP x.op x.x.toNat { p with h := q } with dead := if x.op = 12 then 1 else p.dead } := fun q => by
          unfold branchP
          dsimp only
          cases p.k[x.x.toNat]? with
          | none => rfl
          | some c' => dsimp only; split <;> rfl
        rw [e2] at R2
        rw [← R.dead]
        exact R2
      · have e : S.fs = g' :: q := e
        rw [hS] at e; cases e
        omega

theorem crowsP_c0 (tab : Nat → Int) : ∀ (n a : Nat) (p : PS), p.cells[0]? = some z0 → (crowsP tab n a p).2.cells[0]? = some z0
  | 0, a, p, h => h
  | n + 1, a, p, h => by
    rw [crowsP_succ]
    split
    · exact h
    · refine crowsP_c0 tab n (a + 1) _ ?_
      unfold branchP
      split
      · exact h
      · split
        · exact app_old h
        · exact app_old h
theorem RI.rowsL (tab : Nat → Int) : ∀ (n a : Nat) (S : SS) (p : PS), RI i S p → (∀ j, a ≤ j → j < a + n → 0 ≤ tab j) → 
    match rowsS S.fs tab n a with
    | none => (crowsP tab n a p).1 = false
    | some cs => ∃ q, RI i { S with A := S.A ++ cs } q ∧ q.h = p.h ∧ crowsP tab n a p = (true, { q with dead := 1 }) ∧ cs.length = n
  | 0, a, S, p, R, _ => ⟨p, by rw [List.append_nil]; exact R, rfl, rfl, rfl⟩
  | n + 1, a, S, p, R, ht => by
    have kl := R.kl
    have h0 := ht a (Nat.le_refl _) (by omega)
    rw [crowsP_succ]
    unfold rowsS
    cases hg : S.fs[(tab a).toNat]? with
    | none =>
      have := List.getElem?_eq_none_iff.1 hg
      rw [if_pos (by omega)]
    | some g =>
      have := get_lt hg
      rw [if_neg (by omega)]
      have ih := RI.rowsL tab n (a + 1) _ _ (R.branchL hg (op := 225) (by decide) (by decide)) (fun j h1 h2 => ht j (by omega) (by omega))
      dsimp only at ih ⊢
      cases hr : rowsS S.fs tab n (a + 1) with
      | none => rw [hr] at ih; exact ih
      | some cs =>
        rw [hr] at ih
        obtain ⟨q, q1, q2, q3, q4⟩ := ih
        obtain ⟨c, hc⟩ := R.len7 hg
        have b3 := (branchP_facts (op := 225) hc).2.2.1
        refine ⟨q, ?_, by rw [q2, b3], q3, by simp [q4]⟩
        have e : S.A ++ brC 225 g :: cs = (S.A ++ [brC 225 g]) ++ cs := by simp
        rw [e]
        exact q1

theorem RI.tabL (R : RI i S p) (h0 : S.dead = 0) (hS : S.fs = f :: r) (B : BD) (x : Ins) (x0 : 0 ≤ x.x) (ht : ∀ j, j < B.nt → 0 ≤ B.tab j) : LRes i S (1 + (if x.y ≤ (B.nt : Int) then x.y.toNat else 0)) (tabS B x S) (ctabP B.nt B.tab x p) := by
  obtain ⟨c, d, hk, F, hd⟩ := R.top hS
  have hh := R.h; have h10 := R.h10
  have hfl := R.live h0 f r hS
  have htp : topFl p.k = f.fl := by rw [hk]; exact F.fl
  unfold tabS ctabP
  dsimp only
  rw [hS]
  dsimp only
  rw [← hS]
  by_cases hf : S.h ≤ f.fl ∨ x.y < 1 ∨ (B.nt : Int) < x.y ∨ (B.nt : Int) - x.y < x.x
  · have k1 : p.h - 1 < ((topFl p.k : Nat) : Int) ∨ x.y < 1 ∨ (B.nt : Int) < x.y ∨ (B.nt : Int) - x.y < x.x := by rw [htp]; omega
    rw [if_pos hf, if_pos k1]
    exact ⟨rfl, R.c0⟩
  have k1 : ¬ (p.h - 1 < ((topFl p.k : Nat) : Int) ∨ x.y < 1 ∨ (B.nt : Int) < x.y ∨ (B.nt : Int) - x.y < x.x) := by rw [htp]; omega
  rw [if_neg hf, if_neg k1]
  have R1 := R.known 14 x.y 0
  have R2 := RI.rowsL B.tab x.y.toNat x.x.toNat _ _ R1 (fun j h1 h2 => ht j (by omega))
  dsimp only at R2
  have eh : ∀ (n a : Nat) (q : PS) (h' : Int), crowsP B.tab n a { q with h := h' } = ((crowsP B.tab n a q).1, { (crowsP B.tab n a q).2 with h := h' }) := by
    intro n
    induction n with
    | zero => intro a q h'; rfl
    | succ n ih =>
      intro a q h'
      rw [crowsP_succ, crowsP_succ]
      by_cases g : (q.k.length : Int) ≤ B.tab a
      · rw [if_pos g, if_pos g]
      · rw [if_neg g, if_neg g]
        have e : branchP 225 (B.tab a).toNat { q with h := h' } = { branchP 225 (B.tab a).toNat q with h := h' } := by
          unfold branchP
          dsimp only
          cases q.k[(B.tab a).toNat]? with
          | none => rfl
          | some c' => dsimp only; split <;> rfl
        rw [e, ih]
  have ep := eh x.y.toNat x.x.toNat { p with cells := p.cells ++ [⟨14, x.y, 0⟩] } (p.h - 1)
  dsimp only at ep
  rw [ep]
  cases hr : rowsS S.fs B.tab x.y.toNat x.x.toNat with
  | none =>
    rw [hr] at R2
    exact ⟨R2, crowsP_c0 _ _ _ _ (app_old R.c0)⟩
  | some cs =>
    rw [hr] at R2
    obtain ⟨q, q1, q2, q3, q4⟩ := R2
    rw [q3]
    refine ⟨rfl, ?_, ?_⟩
    · have R3 := (q1.nx).setHD (h' := S.h - 1) (d' := 1) (by omega) (fun h => by cases h) (by omega)
      have e1 : ((S.h - 1 : Nat) : Int) = p.h - 1 := by omega
      rw [e1] at R3
      dsimp only
      have e : S.A ++ ⟨14, .k x.y, 0⟩ :: cs = (S.A ++ [⟨14, .k x.y, 0⟩]) ++ cs := by simp
      rw [e]
      exact R3
    · rw [if_pos (by omega)]
      simp [q4]
      omega

theorem RI.retL (R : RI i S p) : RI (i + 1) (retS S) { p with cells := p.cells ++ [⟨15, 0, 0⟩], dead := 1 } := by
  have := ((R.known 15 0 0).nx).setHD (h' := S.h) (d' := 1) R.h10 (fun h => by cases h) (by omega)
  have e : ((S.h : Nat) : Int) = p.h := R.h.symm
  rw [e] at this
  exact this

theorem RI.plainL (R : RI i S p) (h0 : S.dead = 0) (hS : S.fs = f :: r) (B : BD) (x : Ins) : LRes i S 1 (plainS B x S) (plainP B.ef x p) := by
  obtain ⟨c, d, hk, F, hd⟩ := R.top hS
  have hh := R.h; have h10 := R.h10
  have htp : topFl p.k = f.fl := by rw [hk]; exact F.fl
  unfold plainS plainP
  rw [hS]
  dsimp only
  cases he : B.ef x with
  | none => exact ⟨rfl, R.c0⟩
  | some tg =>
    obtain ⟨t, g⟩ := tg
    dsimp only
    by_cases hf : S.h < f.fl + t ∨ 10 + t < S.h + g
    · have k1 : p.h - (t : Int) < ((topFl p.k : Nat) : Int) ∨ 10 < p.h - (t : Int) + (g : Int) := by rw [htp]; omega
      rw [if_pos hf, if_pos k1]
      exact ⟨rfl, R.c0⟩
    · have k1 : ¬ (p.h - (t : Int) < ((topFl p.k : Nat) : Int) ∨ 10 < p.h - (t : Int) + (g : Int)) := by rw [htp]; omega
      rw [if_neg hf, if_neg k1]
      refine ⟨rfl, ?_, by simp⟩
      have R1 := ((R.knownC x).nx).setHD (h' := S.h + g - t) (d' := if x.op = 0 then 1 else S.dead) (by omega) (fun hz g' q e => ?_) (by split <;> omega)
      · have e1 : ((S.h + g - t : Nat) : Int) = p.h - t + g := by omega
        rw [e1, ← R.dead] at R1
        rw [← R.dead, ← hS]
        exact R1
      · have e : S.fs = g' :: q := e
        rw [hS] at e; cases e
        omega
end
end Go.Proofs.Qxb6500317aGreat
