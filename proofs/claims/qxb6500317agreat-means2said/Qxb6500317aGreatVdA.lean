/-
  The validator's two stacks.
-/
import Derived.Test.Qxb6500317aGreatDcO
set_option linter.unusedSimpArgs false
set_option linter.unusedVariables false
set_option maxRecDepth 100000
set_option linter.unusedSectionVars false
namespace Go.Proofs.Qxb6500317aGreat
open Go Go.Vc

/-- An open block. -/
structure Fr where
  op : Int
  res : Int
  fl : Nat
  dead : Bool

/-- The validator at vb: operands o and open blocks k, the top ahead. -/
structure VAt (w : World) (vb : Nat) (o : List Int) (k : List Fr) : Prop where
  c : ∀ j, j < 42 → ∃ v, w.cell? ⟨vb, j, none⟩ = some v
  f : ∀ j, w.frozen? ⟨vb, j, none⟩ = false
  op : ∀ j x, o.reverse[j]? = some x → w.cell? ⟨vb, j, none⟩ = some (.int .u8 x)
  h : w.cell? ⟨vb, 11, none⟩ = some (.int .i64 ((o.length : Nat) : Int))
  f0 : ∀ j f, k.reverse[j]? = some f → w.cell? ⟨vb, 12 + j * 4, none⟩ = some (.int .u8 f.op)
  f1 : ∀ j f, k.reverse[j]? = some f → w.cell? ⟨vb, 12 + j * 4 + 1, none⟩ = some (.int .u8 f.res)
  f2 : ∀ j f, k.reverse[j]? = some f → w.cell? ⟨vb, 12 + j * 4 + 2, none⟩ = some (.int .i64 ((f.fl : Nat) : Int))
  f3 : ∀ j f, k.reverse[j]? = some f → w.cell? ⟨vb, 12 + j * 4 + 3, none⟩ = some (.bool f.dead)
  d : w.cell? ⟨vb, 40, none⟩ = some (.int .i64 ((k.length : Nat) : Int))
  hi : ∃ x : Int, w.cell? ⟨vb, 41, none⟩ = some (.int .i64 x) ∧ (o.length : Int) ≤ x ∧ x ≤ 10
  ol : o.length ≤ 10
  kl : k.length ≤ 7
section
variable {w w' : World} {vb : Nat} {o : List Int} {k : List Fr}
theorem VAt.lt (h : VAt w vb o k) : vb < w.heap.size := cell_lt h.h
theorem VAt.same (h : VAt w vb o k) {S : List Nat} {B : Nat} (hs : Same S B w w') (hb : vb < B) (hS : vb ∉ S) : VAt w' vb o k :=
  ⟨fun j hj => by rw [hs.cell hb hS]; exact h.c j hj, fun j => by rw [hs.frozen hb hS]; exact h.f j, fun j x e => by rw [hs.cell hb hS]; exact h.op j x e, by rw [hs.cell hb hS]; exact h.h,
   fun j x e => by rw [hs.cell hb hS]; exact h.f0 j x e, fun j x e => by rw [hs.cell hb hS]; exact h.f1 j x e, fun j x e => by rw [hs.cell hb hS]; exact h.f2 j x e, fun j x e => by rw [hs.cell hb hS]; exact h.f3 j x e,
   by rw [hs.cell hb hS]; exact h.d, by rw [hs.cell hb hS]; exact h.hi, h.ol, h.kl⟩
theorem VAt.keep (h : VAt w vb o k) (hs : Same [] w.heap.size w w') : VAt w' vb o k := h.same hs h.lt (by simp)
theorem VAt.drew (h : VAt w vb o k) : VAt w.drew vb o k := ⟨h.c, h.f, h.op, h.h, h.f0, h.f1, h.f2, h.f3, h.d, h.hi, h.ol, h.kl⟩
theorem VAt.can (h : VAt w vb o k) (j : Nat) (hj : j < 42) : can w ⟨vb, j, none⟩ := ⟨h.c j hj, h.f j⟩
theorem VAt.at (h : VAt w vb o k) (i : Nat) (hi : i < 42) (v : Value) (j : Nat) : (w.setCell ⟨vb, i, none⟩ v).cell? ⟨vb, j, none⟩ = if j = i then some v else w.cell? ⟨vb, j, none⟩ := by
  rw [cell_setCell]
  by_cases g : j = i
  · subst g
    obtain ⟨u, hu⟩ := h.c j hi
    rw [if_pos ⟨rfl, rfl⟩, if_pos rfl, hu]; rfl
  · rw [if_neg (by omega), if_neg g]
theorem VAt.oj (h : VAt w vb o k) {j : Nat} {x : Int} (e : o.reverse[j]? = some x) : j < 10 := by
  have := (List.getElem?_eq_some_iff.1 e).1
  rw [List.length_reverse] at this
  have := h.ol; omega
theorem VAt.kj (h : VAt w vb o k) {j : Nat} {x : Fr} (e : k.reverse[j]? = some x) : j < 7 ∧ j < k.length := by
  have := (List.getElem?_eq_some_iff.1 e).1
  rw [List.length_reverse] at this
  have := h.kl; omega
theorem rev_top {α : Type} (x : α) (r : List α) : (x :: r).reverse[r.length]? = some x := by
  rw [List.reverse_cons, List.getElem?_append_right (by rw [List.length_reverse]; exact Nat.le_refl _), List.length_reverse, Nat.sub_self]; rfl
theorem rev_low {α : Type} (x : α) (r : List α) {j : Nat} (h : j < r.length) : (x :: r).reverse[j]? = r.reverse[j]? := by
  rw [List.reverse_cons, List.getElem?_append_left (by rw [List.length_reverse]; exact h)]
theorem rev_at {α : Type} (l : List α) {j : Nat} (h : j < l.length) : l.reverse[l.length - 1 - j]? = l[j]? := by
  rw [List.getElem?_reverse (by omega)]
  congr 1; omega

/-- The height set down to n. -/
theorem VAt.cutTo (h : VAt w vb o k) (n : Nat) (hn : n ≤ o.length) : VAt (w.setCell ⟨vb, 11, none⟩ (.int .i64 (n : Int))) vb (o.drop (o.length - n)) k := by
  have A := h.at 11 (by decide) (.int .i64 (n : Int))
  have hl : (o.drop (o.length - n)).length = n := by rw [List.length_drop]; omega
  have ol := h.ol
  refine ⟨fun j hj => ?_, fun j => by rw [World.frozen?_setCell]; exact h.f j, fun j x e => ?_, ?_, fun j x e => ?_, fun j x e => ?_, fun j x e => ?_, fun j x e => ?_, ?_, ?_, by omega, h.kl⟩
  · rw [A]; split
    · exact ⟨_, rfl⟩
    · exact h.c j hj
  · rw [List.reverse_drop, List.getElem?_take] at e
    split at e
    · have := h.oj e
      rw [A, if_neg (by omega)]; exact h.op j x e
    · cases e
  · rw [A, if_pos rfl, hl]
  · have := h.kj e; rw [A, if_neg (by omega)]; exact h.f0 j x e
  · have := h.kj e; rw [A, if_neg (by omega)]; exact h.f1 j x e
  · have := h.kj e; rw [A, if_neg (by omega)]; exact h.f2 j x e
  · have := h.kj e; rw [A, if_neg (by omega)]; exact h.f3 j x e
  · rw [A, if_neg (by decide)]; exact h.d
  · obtain ⟨x, h1, h2, h3⟩ := h.hi
    exact ⟨x, by rw [A, if_neg (by decide)]; exact h1, by omega, h3⟩

/-- One operand more. -/
theorem VAt.push (h : VAt w vb o k) (hl : o.length < 10) (t z : Int) (hx1 : ((o.length + 1 : Nat) : Int) ≤ z) (hx2 : z ≤ 10) :
    VAt (((w.setCell ⟨vb, o.length, none⟩ (.int .u8 t)).setCell ⟨vb, 11, none⟩ (.int .i64 ((o.length + 1 : Nat) : Int))).setCell ⟨vb, 41, none⟩ (.int .i64 z)) vb (t :: o) k := by
  have C : ∀ j, (((w.setCell ⟨vb, o.length, none⟩ (.int .u8 t)).setCell ⟨vb, 11, none⟩ (.int .i64 ((o.length + 1 : Nat) : Int))).setCell ⟨vb, 41, none⟩ (.int .i64 z)).cell? ⟨vb, j, none⟩ =
      if j = 41 then some (.int .i64 z) else if j = 11 then some (.int .i64 ((o.length + 1 : Nat) : Int)) else if j = o.length then some (.int .u8 t) else w.cell? ⟨vb, j, none⟩ := fun j => by
    obtain ⟨u1, e1⟩ := h.c 41 (by decide)
    obtain ⟨u2, e2⟩ := h.c 11 (by decide)
    obtain ⟨u3, e3⟩ := h.c o.length (by omega)
    rw [cell_setCell, cell_setCell, cell_setCell]
    by_cases g1 : j = 41
    · subst g1
      rw [if_pos ⟨rfl, rfl⟩, if_neg (by omega), if_neg (by omega), if_pos rfl, e1]; rfl
    · rw [if_neg (by omega), if_neg g1]
      by_cases g2 : j = 11
      · subst g2
        rw [if_pos ⟨rfl, rfl⟩, if_neg (by omega), if_pos rfl, e2]; rfl
      · rw [if_neg (by omega), if_neg g2]
        by_cases g3 : j = o.length
        · subst g3
          rw [if_pos ⟨rfl, rfl⟩, if_pos rfl, e3]; rfl
        · rw [if_neg (by omega), if_neg g3]
  refine ⟨fun j hj => ?_, fun j => by rw [World.frozen?_setCell, World.frozen?_setCell, World.frozen?_setCell]; exact h.f j, fun j y e => ?_, ?_, fun j y e => ?_, fun j y e => ?_, fun j y e => ?_, fun j y e => ?_, ?_, ?_, by simp; omega, h.kl⟩
  · rw [C]
    split
    · exact ⟨_, rfl⟩
    · split
      · exact ⟨_, rfl⟩
      · split
        · exact ⟨_, rfl⟩
        · exact h.c j hj
  · have hj := (List.getElem?_eq_some_iff.1 e).1
    rw [List.length_reverse, List.length_cons] at hj
    rw [C, if_neg (by omega), if_neg (by omega)]
    by_cases g : j = o.length
    · subst g
      rw [rev_top] at e; cases e
      rw [if_pos rfl]
    · rw [if_neg g]
      rw [rev_low t o (by omega)] at e
      exact h.op j y e
  · rw [C, if_neg (by decide), if_pos rfl]; rfl
  · have := h.kj e; rw [C, if_neg (by omega), if_neg (by omega), if_neg (by omega)]; exact h.f0 j y e
  · have := h.kj e; rw [C, if_neg (by omega), if_neg (by omega), if_neg (by omega)]; exact h.f1 j y e
  · have := h.kj e; rw [C, if_neg (by omega), if_neg (by omega), if_neg (by omega)]; exact h.f2 j y e
  · have := h.kj e; rw [C, if_neg (by omega), if_neg (by omega), if_neg (by omega)]; exact h.f3 j y e
  · rw [C, if_neg (by decide), if_neg (by decide), if_neg (by omega)]; exact h.d
  · exact ⟨z, by rw [C, if_pos rfl], by rw [List.length_cons]; exact hx1, hx2⟩

/-- The innermost block's kind set. -/
theorem VAt.setOp {f : Fr} {r : List Fr} (h : VAt w vb o (f :: r)) (n : Int) : VAt (w.setCell ⟨vb, 12 + r.length * 4, none⟩ (.int .u8 n)) vb o ({ f with op := n } :: r) := by
  have kl := h.kl
  rw [List.length_cons] at kl
  have A := h.at (12 + r.length * 4) (by omega) (.int .u8 n)
  have N : ∀ j y, ({ f with op := n } :: r).reverse[j]? = some y → j ≤ r.length ∧ (j = r.length ∧ y = { f with op := n } ∨ j < r.length ∧ (f :: r).reverse[j]? = some y) := fun j y e => by
    have hj := (List.getElem?_eq_some_iff.1 e).1
    rw [List.length_reverse, List.length_cons] at hj
    refine ⟨by omega, ?_⟩
    by_cases g : j = r.length
    · subst g; rw [rev_top] at e; cases e; exact .inl ⟨rfl, rfl⟩
    · rw [rev_low _ r (by omega)] at e
      exact .inr ⟨by omega, by rw [rev_low f r (by omega)]; exact e⟩
  refine ⟨fun j hj => ?_, fun j => by rw [World.frozen?_setCell]; exact h.f j, fun j x e => ?_, ?_, fun j y e => ?_, fun j y e => ?_, fun j y e => ?_, fun j y e => ?_, ?_, ?_, h.ol, h.kl⟩
  · rw [A]; split
    · exact ⟨_, rfl⟩
    · exact h.c j hj
  · have := h.oj e; rw [A, if_neg (by omega)]; exact h.op j x e
  · rw [A, if_neg (by omega)]; exact h.h
  · obtain ⟨hj, ⟨rfl, rfl⟩ | ⟨g, e⟩⟩ := N j y e
    · rw [A, if_pos rfl]
    · rw [A, if_neg (by omega)]; exact h.f0 j y e
  · obtain ⟨hj, ⟨rfl, rfl⟩ | ⟨g, e⟩⟩ := N j y e
    · rw [A, if_neg (by omega)]; exact h.f1 _ f (rev_top f r)
    · rw [A, if_neg (by omega)]; exact h.f1 j y e
  · obtain ⟨hj, ⟨rfl, rfl⟩ | ⟨g, e⟩⟩ := N j y e
    · rw [A, if_neg (by omega)]; exact h.f2 _ f (rev_top f r)
    · rw [A, if_neg (by omega)]; exact h.f2 j y e
  · obtain ⟨hj, ⟨rfl, rfl⟩ | ⟨g, e⟩⟩ := N j y e
    · rw [A, if_neg (by omega)]; exact h.f3 _ f (rev_top f r)
    · rw [A, if_neg (by omega)]; exact h.f3 j y e
  · rw [A, if_neg (by omega)]; exact h.d
  · obtain ⟨x, h1, h2⟩ := h.hi
    exact ⟨x, by rw [A, if_neg (by omega)]; exact h1, h2⟩
theorem VAt.setDead {f : Fr} {r : List Fr} (h : VAt w vb o (f :: r)) (b : Bool) : VAt (w.setCell ⟨vb, 12 + r.length * 4 + 3, none⟩ (.bool b)) vb o ({ f with dead := b } :: r) := by
  have kl := h.kl
  rw [List.length_cons] at kl
  have A := h.at (12 + r.length * 4 + 3) (by omega) (.bool b)
  have N : ∀ j y, ({ f with dead := b } :: r).reverse[j]? = some y → j ≤ r.length ∧ (j = r.length ∧ y = { f with dead := b } ∨ j < r.length ∧ (f :: r).reverse[j]? = some y) := fun j y e => by
    have hj := (List.getElem?_eq_some_iff.1 e).1
    rw [List.length_reverse, List.length_cons] at hj
    refine ⟨by omega, ?_⟩
    by_cases g : j = r.length
    · subst g; rw [rev_top] at e; cases e; exact .inl ⟨rfl, rfl⟩
    · rw [rev_low _ r (by omega)] at e
      exact .inr ⟨by omega, by rw [rev_low f r (by omega)]; exact e⟩
  refine ⟨fun j hj => ?_, fun j => by rw [World.frozen?_setCell]; exact h.f j, fun j x e => ?_, ?_, fun j y e => ?_, fun j y e => ?_, fun j y e => ?_, fun j y e => ?_, ?_, ?_, h.ol, h.kl⟩
  · rw [A]; split
    · exact ⟨_, rfl⟩
    · exact h.c j hj
  · have := h.oj e; rw [A, if_neg (by omega)]; exact h.op j x e
  · rw [A, if_neg (by omega)]; exact h.h
  · obtain ⟨hj, ⟨rfl, rfl⟩ | ⟨g, e⟩⟩ := N j y e
    · rw [A, if_neg (by omega)]; exact h.f0 _ f (rev_top f r)
    · rw [A, if_neg (by omega)]; exact h.f0 j y e
  · obtain ⟨hj, ⟨rfl, rfl⟩ | ⟨g, e⟩⟩ := N j y e
    · rw [A, if_neg (by omega)]; exact h.f1 _ f (rev_top f r)
    · rw [A, if_neg (by omega)]; exact h.f1 j y e
  · obtain ⟨hj, ⟨rfl, rfl⟩ | ⟨g, e⟩⟩ := N j y e
    · rw [A, if_neg (by omega)]; exact h.f2 _ f (rev_top f r)
    · rw [A, if_neg (by omega)]; exact h.f2 j y e
  · obtain ⟨hj, ⟨rfl, rfl⟩ | ⟨g, e⟩⟩ := N j y e
    · rw [A, if_pos rfl]
    · rw [A, if_neg (by omega)]; exact h.f3 j y e
  · rw [A, if_neg (by omega)]; exact h.d
  · obtain ⟨x, h1, h2⟩ := h.hi
    exact ⟨x, by rw [A, if_neg (by omega)]; exact h1, h2⟩
/-- The innermost block closed. -/
theorem VAt.popFr {f : Fr} {r : List Fr} (h : VAt w vb o (f :: r)) : VAt (w.setCell ⟨vb, 40, none⟩ (.int .i64 ((r.length : Nat) : Int))) vb o r := by
  have kl := h.kl
  rw [List.length_cons] at kl
  have A := h.at 40 (by decide) (.int .i64 ((r.length : Nat) : Int))
  have N : ∀ {j y}, r.reverse[j]? = some y → j < r.length ∧ (f :: r).reverse[j]? = some y := fun {j y} e => by
    have hj := (List.getElem?_eq_some_iff.1 e).1
    rw [List.length_reverse] at hj
    exact ⟨hj, by rw [rev_low f r hj]; exact e⟩
  refine ⟨fun j hj => ?_, fun j => by rw [World.frozen?_setCell]; exact h.f j, fun j x e => ?_, ?_, fun j y e => ?_, fun j y e => ?_, fun j y e => ?_, fun j y e => ?_, ?_, ?_, h.ol, by omega⟩
  · rw [A]; split
    · exact ⟨_, rfl⟩
    · exact h.c j hj
  · have := h.oj e; rw [A, if_neg (by omega)]; exact h.op j x e
  · rw [A, if_neg (by decide)]; exact h.h
  · have := N e; rw [A, if_neg (by omega)]; exact h.f0 j y this.2
  · have := N e; rw [A, if_neg (by omega)]; exact h.f1 j y this.2
  · have := N e; rw [A, if_neg (by omega)]; exact h.f2 j y this.2
  · have := N e; rw [A, if_neg (by omega)]; exact h.f3 j y this.2
  · rw [A, if_pos rfl]
  · obtain ⟨x, h1, h2⟩ := h.hi
    exact ⟨x, by rw [A, if_neg (by decide)]; exact h1, h2⟩
/-- A block opened: its four cells filled, then the depth. -/
theorem VAt.pushFr (h : VAt w vb o k) (hk : k.length < 7) (f : Fr) {w' : World} (hF : Fill w w' vb (12 + k.length * 4) [.int .u8 f.op, .int .u8 f.res, .int .i64 ((f.fl : Nat) : Int), .bool f.dead]) :
    VAt (w'.setCell ⟨vb, 40, none⟩ (.int .i64 ((k.length + 1 : Nat) : Int))) vb o (f :: k) := by
  have C : ∀ j, j < 42 → (w'.setCell ⟨vb, 40, none⟩ (.int .i64 ((k.length + 1 : Nat) : Int))).cell? ⟨vb, j, none⟩ = if j = 40 then some (.int .i64 ((k.length + 1 : Nat) : Int)) else if 12 + k.length * 4 ≤ j ∧ j < 12 + k.length * 4 + 4 then [Value.int .u8 f.op, .int .u8 f.res, .int .i64 ((f.fl : Nat) : Int), .bool f.dead][j - (12 + k.length * 4)]? else w.cell? ⟨vb, j, none⟩ := fun j hj => by
    obtain ⟨u, e⟩ := h.c 40 (by decide)
    rw [cell_setCell, hF.cell]
    simp only [List.length_cons, List.length_nil]
    by_cases g1 : j = 40
    · subst g1
      rw [if_pos ⟨trivial, rfl⟩, if_neg (by omega), if_pos rfl, e]; rfl
    · rw [if_neg (by omega), if_neg g1]
      by_cases g2 : 12 + k.length * 4 ≤ j ∧ j < 12 + k.length * 4 + 4
      · rw [if_pos ⟨trivial, by omega⟩, if_pos g2]
      · rw [if_neg (by omega), if_neg g2]
  have N : ∀ j y, (f :: k).reverse[j]? = some y → (j = k.length ∧ y = f) ∨ (j < k.length ∧ k.reverse[j]? = some y) := fun j y e => by
    have hj := (List.getElem?_eq_some_iff.1 e).1
    rw [List.length_reverse, List.length_cons] at hj
    by_cases g : j = k.length
    · subst g; rw [rev_top] at e; cases e; exact .inl ⟨rfl, rfl⟩
    · rw [rev_low _ k (by omega)] at e
      exact .inr ⟨by omega, e⟩
  refine ⟨fun j hj => ?_, fun j => by rw [World.frozen?_setCell, hF.frozen]; exact h.f j, fun j x e => ?_, ?_, fun j y e => ?_, fun j y e => ?_, fun j y e => ?_, fun j y e => ?_, ?_, ?_, h.ol, by simp; omega⟩
  · rw [C j hj]
    split
    · exact ⟨_, rfl⟩
    · split
      · rename_i g2
        exact ⟨_, List.getElem?_eq_getElem (by simp; omega)⟩
      · exact h.c j hj
  · have := h.oj e; rw [C j (by omega), if_neg (by omega), if_neg (by omega)]; exact h.op j x e
  · rw [C 11 (by decide), if_neg (by decide), if_neg (by omega)]; exact h.h
  · rcases N j y e with ⟨rfl, rfl⟩ | ⟨g, e⟩
    · rw [C _ (by omega), if_neg (by omega), if_pos (by omega), Nat.sub_self]; rfl
    · rw [C _ (by omega), if_neg (by omega), if_neg (by omega)]; exact h.f0 j y e
  · rcases N j y e with ⟨rfl, rfl⟩ | ⟨g, e⟩
    · rw [C _ (by omega), if_neg (by omega), if_pos (by omega), show 12 + k.length * 4 + 1 - (12 + k.length * 4) = 1 by omega]; rfl
    · rw [C _ (by omega), if_neg (by omega), if_neg (by omega)]; exact h.f1 j y e
  · rcases N j y e with ⟨rfl, rfl⟩ | ⟨g, e⟩
    · rw [C _ (by omega), if_neg (by omega), if_pos (by omega), show 12 + k.length * 4 + 2 - (12 + k.length * 4) = 2 by omega]; rfl
    · rw [C _ (by omega), if_neg (by omega), if_neg (by omega)]; exact h.f2 j y e
  · rcases N j y e with ⟨rfl, rfl⟩ | ⟨g, e⟩
    · rw [C _ (by omega), if_neg (by omega), if_pos (by omega), show 12 + k.length * 4 + 3 - (12 + k.length * 4) = 3 by omega]; rfl
    · rw [C _ (by omega), if_neg (by omega), if_neg (by omega)]; exact h.f3 j y e
  · rw [C 40 (by decide), if_pos rfl]; rfl
  · obtain ⟨x, h1, h2⟩ := h.hi
    exact ⟨x, by rw [C 41 (by decide), if_neg (by decide), if_neg (by omega)]; exact h1, h2⟩
/-- The body's own block, laid over whatever stood. -/
theorem VAt.clear (h : VAt w vb o k) : VAt (w.setCell ⟨vb, 40, none⟩ (.int .i64 ((0 : Nat) : Int))) vb o ([] : List Fr) := by
  have A := h.at 40 (by decide) (.int .i64 ((0 : Nat) : Int))
  have N : ∀ {j : Nat} {y : Fr}, ([] : List Fr).reverse[j]? = some y → False := fun {j y} e => by simp at e
  refine ⟨fun j hj => ?_, fun j => by rw [World.frozen?_setCell]; exact h.f j, fun j x e => ?_, ?_, fun j y e => (N e).elim, fun j y e => (N e).elim, fun j y e => (N e).elim, fun j y e => (N e).elim, ?_, ?_, h.ol, by simp⟩
  · rw [A]; split
    · exact ⟨_, rfl⟩
    · exact h.c j hj
  · have := h.oj e; rw [A, if_neg (by omega)]; exact h.op j x e
  · rw [A, if_neg (by decide)]; exact h.h
  · rw [A, if_pos rfl]; rfl
  · obtain ⟨x, h1, h2⟩ := h.hi
    exact ⟨x, by rw [A, if_neg (by decide)]; exact h1, h2⟩
theorem VAt.firstFr (h : VAt w vb o k) (f : Fr) {w' : World} (hF : Fill w w' vb 12 [.int .u8 f.op, .int .u8 f.res, .int .i64 ((f.fl : Nat) : Int), .bool f.dead]) :
    VAt (w'.setCell ⟨vb, 40, none⟩ (.int .i64 1)) vb o [f] := by
  have C : ∀ j, j < 42 → (w'.setCell ⟨vb, 40, none⟩ (.int .i64 1)).cell? ⟨vb, j, none⟩ = if j = 40 then some (.int .i64 1) else if 12 ≤ j ∧ j < 16 then [Value.int .u8 f.op, .int .u8 f.res, .int .i64 ((f.fl : Nat) : Int), .bool f.dead][j - 12]? else w.cell? ⟨vb, j, none⟩ := fun j hj => by
    obtain ⟨u, e⟩ := h.c 40 (by decide)
    rw [cell_setCell, hF.cell]
    simp only [List.length_cons, List.length_nil]
    by_cases g1 : j = 40
    · subst g1
      rw [if_pos ⟨trivial, rfl⟩, if_neg (by omega), if_pos rfl, e]; rfl
    · rw [if_neg (by omega), if_neg g1]
      by_cases g2 : 12 ≤ j ∧ j < 16
      · rw [if_pos ⟨trivial, by omega⟩, if_pos g2]
      · rw [if_neg (by omega), if_neg g2]
  have N : ∀ j y, [f].reverse[j]? = some y → j = 0 ∧ y = f := fun j y e => by
    have hj := (List.getElem?_eq_some_iff.1 e).1
    simp at hj
    subst hj
    simp at e
    exact ⟨rfl, e.symm⟩
  refine ⟨fun j hj => ?_, fun j => by rw [World.frozen?_setCell, hF.frozen]; exact h.f j, fun j x e => ?_, ?_, fun j y e => ?_, fun j y e => ?_, fun j y e => ?_, fun j y e => ?_, ?_, ?_, h.ol, by simp⟩
  · rw [C j hj]
    split
    · exact ⟨_, rfl⟩
    · split
      · rename_i g2
        exact ⟨_, List.getElem?_eq_getElem (by simp; omega)⟩
      · exact h.c j hj
  · have := h.oj e; rw [C j (by omega), if_neg (by omega), if_neg (by omega)]; exact h.op j x e
  · rw [C 11 (by decide), if_neg (by decide), if_neg (by decide)]; exact h.h
  · obtain ⟨rfl, rfl⟩ := N j y e
    rw [C _ (by decide), if_neg (by decide), if_pos (by decide)]; rfl
  · obtain ⟨rfl, rfl⟩ := N j y e
    rw [C _ (by decide), if_neg (by decide), if_pos (by decide)]; rfl
  · obtain ⟨rfl, rfl⟩ := N j y e
    rw [C _ (by decide), if_neg (by decide), if_pos (by decide)]; rfl
  · obtain ⟨rfl, rfl⟩ := N j y e
    rw [C _ (by decide), if_neg (by decide), if_pos (by decide)]; rfl
  · rw [C 40 (by decide), if_pos rfl]; rfl
  · obtain ⟨x, h1, h2⟩ := h.hi
    exact ⟨x, by rw [C 41 (by decide), if_neg (by decide), if_neg (by decide)]; exact h1, h2⟩
end
end Go.Proofs.Qxb6500317aGreat
