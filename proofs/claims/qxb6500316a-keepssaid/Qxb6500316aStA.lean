/-
  The law's stamp: cells keep their kinds; the module stays readable.
-/
import Derived.Test.Qxb6500316aTiA
set_option linter.unusedSimpArgs false
set_option linter.unusedVariables false
set_option maxRecDepth 100000
set_option linter.unusedSectionVars false
namespace Go.Proofs.Qxb6500316a
open Go Go.Vc
variable [OutOf]

/-! ### Cells of one kind -/
def Kn (d : Nat) (x_0 : Value) (x_1 : Value) : Prop :=
  (∃ (v : Value), x_0 = v ∧ x_1 = v) ∨
  (∃ (x y : Int), ∃ (h_0 : I64 y), x_0 = (.int .i64 x) ∧ x_1 = (.int .i64 y)) ∨
  (∃ (x y : Int), x_0 = (.int .u32 x) ∧ x_1 = (.int .u32 y)) ∨
  (∃ (x y : Int), ∃ (h_0 : U64 y), x_0 = (.int .u64 x) ∧ x_1 = (.int .u64 y)) ∨
  (∃ (x y : Bool), x_0 = (.bool x) ∧ x_1 = (.bool y)) ∨
  (∃ (s : ByteArray), ∃ (h_0 : d = 1), x_0 = (.string s) ∧ x_1 = (.string (s ++ (⟨#[33]⟩ : ByteArray))))
theorem Kn.same {d : Nat} (v : Value) : Kn d v v := .inl (⟨v, rfl, rfl⟩)
theorem Kn.i64 {d : Nat} (x y : Int) (h_0 : I64 y) : Kn d (.int .i64 x) (.int .i64 y) := .inr (.inl (⟨x, y, h_0, rfl, rfl⟩))
theorem Kn.u32 {d : Nat} (x y : Int) : Kn d (.int .u32 x) (.int .u32 y) := .inr (.inr (.inl (⟨x, y, rfl, rfl⟩)))
theorem Kn.u64 {d : Nat} (x y : Int) (h_0 : U64 y) : Kn d (.int .u64 x) (.int .u64 y) := .inr (.inr (.inr (.inl (⟨x, y, h_0, rfl, rfl⟩))))
theorem Kn.bool {d : Nat} (x y : Bool) : Kn d (.bool x) (.bool y) := .inr (.inr (.inr (.inr (.inl (⟨x, y, rfl, rfl⟩)))))
theorem Kn.str {d : Nat} (s : ByteArray) (h_0 : d = 1) : Kn d (.string s) (.string (s ++ (⟨#[33]⟩ : ByteArray))) := .inr (.inr (.inr (.inr (.inr (⟨s, h_0, rfl, rfl⟩)))))
theorem Kn.cs {d : Nat} {motive : (x_0 : Value) → (x_1 : Value) → Kn d x_0 x_1 → Prop} (same : ∀ (v : Value), motive v v (Kn.same v)) (i64 : ∀ (x y : Int) (h_0 : I64 y), motive (.int .i64 x) (.int .i64 y) (Kn.i64 x y h_0)) (u32 : ∀ (x y : Int), motive (.int .u32 x) (.int .u32 y) (Kn.u32 x y)) (u64 : ∀ (x y : Int) (h_0 : U64 y), motive (.int .u64 x) (.int .u64 y) (Kn.u64 x y h_0)) (bool : ∀ (x y : Bool), motive (.bool x) (.bool y) (Kn.bool x y)) (str : ∀ (s : ByteArray) (h_0 : d = 1), motive (.string s) (.string (s ++ (⟨#[33]⟩ : ByteArray))) (Kn.str s h_0)) {x_0 : Value} {x_1 : Value} (h : Kn d x_0 x_1) : motive x_0 x_1 h := by
  rcases h with ⟨v, rfl, rfl⟩ | ⟨x, y, h_0, rfl, rfl⟩ | ⟨x, y, rfl, rfl⟩ | ⟨x, y, h_0, rfl, rfl⟩ | ⟨x, y, rfl, rfl⟩ | ⟨s, h_0, rfl, rfl⟩
  · exact same _
  · exact i64 x y h_0
  · exact u32 x y
  · exact u64 x y h_0
  · exact bool x y
  · exact str s h_0
section
variable {d : Nat} {v : Value}
theorem Kn.up {a b : Value} (h : Kn 0 a b) : Kn 1 a b := by
  cases h using Kn.cs with
  | same => exact .same _
  | i64 x y h => exact .i64 x y h
  | u32 x y => exact .u32 x y
  | u64 x y h => exact .u64 x y h
  | bool x y => exact .bool x y
  | str s h => cases h
theorem Kn.i64' {x : Int} (h : Kn d (.int .i64 x) v) : ∃ y, v = .int .i64 y ∧ (I64 x → I64 y) := by
  cases h using Kn.cs with
  | same => exact ⟨_, rfl, id⟩
  | i64 _ y h => exact ⟨_, rfl, fun _ => h⟩
theorem Kn.u8' {x : Int} (h : Kn d (.int .u8 x) v) : v = .int .u8 x := by cases h using Kn.cs with | same => rfl
theorem Kn.u32' {x : Int} (h : Kn d (.int .u32 x) v) : ∃ y, v = .int .u32 y := by
  cases h using Kn.cs with
  | same => exact ⟨_, rfl⟩
  | u32 _ y => exact ⟨_, rfl⟩
theorem Kn.u64' {x : Int} (h : Kn d (.int .u64 x) v) : ∃ y, v = .int .u64 y ∧ (U64 x → U64 y) := by
  cases h using Kn.cs with
  | same => exact ⟨_, rfl, id⟩
  | u64 _ y h => exact ⟨_, rfl, fun _ => h⟩
theorem Kn.bool' {x : Bool} (h : Kn d (.bool x) v) : ∃ y, v = .bool y := by
  cases h using Kn.cs with
  | same => exact ⟨_, rfl⟩
  | bool _ y => exact ⟨_, rfl⟩
theorem Kn.str' {s : ByteArray} (h : Kn d (.string s) v) : ∃ s', v = .string s' ∧ s'.size ≤ s.size + 1 ∧ (d = 0 → s' = s) := by
  cases h using Kn.cs with
  | same => exact ⟨_, rfl, by omega, fun _ => rfl⟩
  | str _ h => exact ⟨_, rfl, by rw [ByteArray.size_append]; exact Nat.le_refl _, fun g => by omega⟩
theorem Kn.sl' {a : Option Addr} {l c : Nat} (h : Kn d (.slice a l c) v) : v = .slice a l c := by cases h using Kn.cs with | same => rfl
theorem Kn.to_i64 {u : Value} {x y : Int} (hy : I64 y) (h : Kn d u (.int .i64 x)) : Kn d u (.int .i64 y) := by
  cases h using Kn.cs with
  | same => exact .i64 _ _ hy
  | i64 a _ _ => exact .i64 _ _ hy
theorem Kn.to_u32 {u : Value} {x y : Int} (h : Kn d u (.int .u32 x)) : Kn d u (.int .u32 y) := by
  cases h using Kn.cs with
  | same => exact .u32 _ _
  | u32 a _ => exact .u32 _ _
theorem Kn.to_u64 {u : Value} {x y : Int} (hy : U64 y) (h : Kn d u (.int .u64 x)) : Kn d u (.int .u64 y) := by
  cases h using Kn.cs with
  | same => exact .u64 _ _ hy
  | u64 a _ _ => exact .u64 _ _ hy
theorem Kn.to_bool {u : Value} {x y : Bool} (h : Kn d u (.bool x)) : Kn d u (.bool y) := by
  cases h using Kn.cs with
  | same => exact .bool _ _
  | bool a _ => exact .bool _ _
theorem Kn.to_str {u : Value} {s : ByteArray} (h : Kn 0 u (.string s)) : Kn 1 u (.string (s ++ (⟨#[33]⟩ : ByteArray))) := by
  cases h using Kn.cs with
  | same => exact .str _ rfl
  | str _ h => cases h
end

theorem nums_snoc (ls : List Int) : ∃ ls', strOfNums ls' = strOfNums ls ++ (⟨#[33]⟩ : ByteArray) := ⟨ls ++ [33], by
  apply ByteArray.ext
  rw [ByteArray.data_append]
  apply Array.ext'
  simp [strOfNums]⟩

def bet (lo hi : Nat) : List Nat := (List.range hi).filter fun b => decide (lo < b)
theorem mem_bet {lo hi k : Nat} : k ∈ bet lo hi ↔ lo < k ∧ k < hi := by
  unfold bet
  rw [List.mem_filter, List.mem_range, decide_eq_true_iff]
  exact And.comm

/-- From world w1 on, the blocks between lo and w1's end keep their kinds. -/
structure Kin (d lo : Nat) (w1 w : World) : Prop where
  size : w1.heap.size ≤ w.heap.size
  cell : ∀ b k v, lo < b → w1.cell? ⟨b, k, none⟩ = some v → ∃ v', w.cell? ⟨b, k, none⟩ = some v' ∧ Kn d v v'
  froz : ∀ b k, lo < b → b < w1.heap.size → w.frozen? ⟨b, k, none⟩ = w1.frozen? ⟨b, k, none⟩

section
variable {d lo : Nat} {w1 w w' : World}
theorem Kin.refl (h : d ≤ 1) : Kin d lo w1 w1 := ⟨Nat.le_refl _, fun _ _ v _ h => ⟨v, h, .same v⟩, fun _ _ _ _ => rfl⟩
theorem Kin.drew (h : Kin d lo w1 w) : Kin d lo w1 w.drew := ⟨h.size, h.cell, h.froz⟩
theorem Kin.same (h : Kin d lo w1 w) {S : List Nat} {B : Nat} (hs : Same S B w w') (hB : w1.heap.size ≤ B) (hS : ∀ k, k ∈ S → lo < k → w1.heap.size ≤ k) : Kin d lo w1 w' :=
  ⟨Nat.le_trans h.size hs.size, fun b k v hb hv => by
    have hl : b < w1.heap.size := cell_lt hv
    obtain ⟨v', h1, h2⟩ := h.cell b k v hb hv
    exact ⟨v', by rw [hs.cell (p := ⟨b, k, none⟩) (show b < B by omega) (fun g => by have := hS b g hb; omega)]; exact h1, h2⟩,
   fun b k hb hl => by rw [hs.frozen (p := ⟨b, k, none⟩) (show b < B by omega) (fun g => by have := hS b g hb; omega)]; exact h.froz b k hb hl⟩
theorem Kin.up (h : Kin 0 lo w1 w) : Kin 1 lo w1 w := ⟨h.size, fun b k v hb hv => by obtain ⟨v', h1, h2⟩ := h.cell b k v hb hv; exact ⟨v', h1, h2.up⟩, h.froz⟩
theorem setCell_size (w : World) (a : Addr) (v : Value) : (w.setCell a v).heap.size = w.heap.size := by simp [World.setCell]
theorem Kin.set {d' : Nat} (h : Kin d lo w1 w) {b k : Nat} {v1 v2 : Value} (hc : w.cell? ⟨b, k, none⟩ = some v1) (hk : ∀ v, Kn d v v1 → Kn d' v v2) (hd : ∀ v v', Kn d v v' → Kn d' v v') : Kin d' lo w1 (w.setCell ⟨b, k, none⟩ v2) :=
  ⟨by rw [setCell_size]; exact h.size, fun b' k' v hb hv => by
    obtain ⟨v', h1, h2⟩ := h.cell b' k' v hb hv
    rw [cell_setCell]
    by_cases g : b' = b ∧ k' = k
    · obtain ⟨rfl, rfl⟩ := g
      rw [if_pos ⟨rfl, rfl⟩, h1]
      rw [hc] at h1
      cases h1
      exact ⟨v2, rfl, hk v h2⟩
    · rw [if_neg g]
      exact ⟨v', h1, hd _ _ h2⟩,
   fun b' k' hb hl => by rw [World.frozen?_setCell]; exact h.froz b' k' hb hl⟩
theorem Kin.sl (h : Kin d lo w1 w) {b k : Nat} (hb : lo < b) {a : Option Addr} {n c : Nat} (hv : w1.cell? ⟨b, k, none⟩ = some (.slice a n c)) : w.cell? ⟨b, k, none⟩ = some (.slice a n c) := by
  obtain ⟨v', h1, h2⟩ := h.cell b k _ hb hv
  rw [h1, h2.sl']
theorem Kin.i64 (h : Kin d lo w1 w) {b k : Nat} (hb : lo < b) {x : Int} (hv : w1.cell? ⟨b, k, none⟩ = some (.int .i64 x)) : ∃ y, w.cell? ⟨b, k, none⟩ = some (.int .i64 y) ∧ (I64 x → I64 y) := by
  obtain ⟨v', h1, h2⟩ := h.cell b k _ hb hv
  obtain ⟨y, rfl, h3⟩ := h2.i64'
  exact ⟨y, h1, h3⟩
theorem Kin.u32 (h : Kin d lo w1 w) {b k : Nat} (hb : lo < b) {x : Int} (hv : w1.cell? ⟨b, k, none⟩ = some (.int .u32 x)) : ∃ y, w.cell? ⟨b, k, none⟩ = some (.int .u32 y) := by
  obtain ⟨v', h1, h2⟩ := h.cell b k _ hb hv
  obtain ⟨y, rfl⟩ := h2.u32'
  exact ⟨y, h1⟩
theorem Kin.u64 (h : Kin d lo w1 w) {b k : Nat} (hb : lo < b) {x : Int} (hv : w1.cell? ⟨b, k, none⟩ = some (.int .u64 x)) : ∃ y, w.cell? ⟨b, k, none⟩ = some (.int .u64 y) ∧ (U64 x → U64 y) := by
  obtain ⟨v', h1, h2⟩ := h.cell b k _ hb hv
  obtain ⟨y, rfl, h3⟩ := h2.u64'
  exact ⟨y, h1, h3⟩
theorem Kin.bool (h : Kin d lo w1 w) {b k : Nat} (hb : lo < b) {x : Bool} (hv : w1.cell? ⟨b, k, none⟩ = some (.bool x)) : ∃ y, w.cell? ⟨b, k, none⟩ = some (.bool y) := by
  obtain ⟨v', h1, h2⟩ := h.cell b k _ hb hv
  obtain ⟨y, rfl⟩ := h2.bool'
  exact ⟨y, h1⟩
theorem Kin.u8 (h : Kin d lo w1 w) {b k : Nat} (hb : lo < b) {x : Int} (hv : w1.cell? ⟨b, k, none⟩ = some (.int .u8 x)) : w.cell? ⟨b, k, none⟩ = some (.int .u8 x) := by
  obtain ⟨v', h1, h2⟩ := h.cell b k _ hb hv
  rw [h1, h2.u8']
theorem Kin.str (h : Kin d lo w1 w) {b k : Nat} (hb : lo < b) {x : ByteArray} (hv : w1.cell? ⟨b, k, none⟩ = some (.string x)) : ∃ y, w.cell? ⟨b, k, none⟩ = some (.string y) ∧ y.size ≤ x.size + 1 := by
  obtain ⟨v', h1, h2⟩ := h.cell b k _ hb hv
  obtain ⟨y, rfl, h3, _⟩ := h2.str'
  exact ⟨y, h1, h3⟩
theorem Kin.can (h : Kin d lo w1 w) {b k : Nat} (hb : lo < b) {v : Value} (hv : w1.cell? ⟨b, k, none⟩ = some v) (hf : w1.frozen? ⟨b, k, none⟩ = false) : can w ⟨b, k, none⟩ := by
  obtain ⟨v', h1, _⟩ := h.cell b k _ hb hv
  exact ⟨⟨v', h1⟩, by rw [h.froz b k hb (cell_lt hv)]; exact hf⟩

/-! ### The rows, read again -/
theorem Kin.row {α : Type} {enc : α → List Value} {sz : Nat} (h : Kin d lo w1 w) {Rel : α → α → Prop}
    {b n : Nat} {f : Nat → α} (hE : ∀ j, j < n → ∀ (g : Nat → Value), (∀ k v, (enc (f j))[k]? = some v → Kn d v (g k)) → ∃ a', Rel (f j) a' ∧ ∀ k v, (enc a')[k]? = some v → v = g k ∧ k < (enc (f j)).length)
    (hr : RowF enc sz w1 b n f) (hb : lo < b) (hl : b < w1.heap.size) :
    ∃ f' : Nat → α, RowF enc sz w b n f' ∧ ∀ j, j < n → Rel (f j) (f' j) := by
  have H : ∀ j, ∃ a', j < n → Rel (f j) a' ∧ ∀ k v, (enc a')[k]? = some v → w.cell? ⟨b, j * sz + k, none⟩ = some v := fun j => by
    by_cases hj : j < n
    · have G : ∀ k, ∃ u, ∀ v, (enc (f j))[k]? = some v → w.cell? ⟨b, j * sz + k, none⟩ = some u ∧ Kn d v u := fun k => by
        cases hv : (enc (f j))[k]? with
        | none => exact ⟨.bool true, fun v h => by cases h⟩
        | some v =>
          obtain ⟨v', h1, h2⟩ := h.cell b _ v hb (hr.c j hj k v hv)
          exact ⟨v', fun u hu => by cases hu; exact ⟨h1, h2⟩⟩
      obtain ⟨g, hg⟩ := Classical.skolem.mp G
      obtain ⟨a', h1, h2⟩ := hE j hj g (fun k v hv => (hg k v hv).2)
      refine ⟨a', fun _ => ⟨h1, fun k v hv => ?_⟩⟩
      obtain ⟨rfl, hk⟩ := h2 k v hv
      exact (hg k _ (List.getElem?_eq_getElem hk)).1
    · exact ⟨f j, fun g => absurd g hj⟩
  obtain ⟨f', hf⟩ := Classical.skolem.mp H
  exact ⟨f', ⟨fun j hj => (hf j hj).2, fun j => by rw [h.froz b j hb hl]; exact hr.f j⟩, fun j hj => (hf j hj).1⟩
theorem Kin.slf {α : Type} {enc : α → List Value} {sz : Nat} (h : Kin d lo w1 w) {Rel : α → α → Prop}
    {n : Nat} {f : Nat → α} {v : Value} (hE : ∀ j, j < n → ∀ (g : Nat → Value), (∀ k v, (enc (f j))[k]? = some v → Kn d v (g k)) → ∃ a', Rel (f j) a' ∧ ∀ k v, (enc a')[k]? = some v → v = g k ∧ k < (enc (f j)).length)
    (hr : SlF enc sz w1 lo v n f) : ∃ f' : Nat → α, SlF enc sz w lo v n f' ∧ ∀ j, j < n → Rel (f j) (f' j) := by
  rcases hr with ⟨h0, hv⟩ | ⟨h0, b, h1, h2, h3, h4⟩
  · exact ⟨f, .inl ⟨h0, hv⟩, fun j hj => by omega⟩
  · obtain ⟨f', g1, g2⟩ := h.row hE h2 h3 h4
    exact ⟨f', .inr ⟨h0, b, h1, g1, h3, by have := h.size; omega⟩, g2⟩

theorem strK (a : ByteArray) (g : Nat → Value) (h : ∀ k v, (strE a)[k]? = some v → Kn d v (g k)) : ∃ a', a'.size ≤ a.size + 1 ∧ ∀ k v, (strE a')[k]? = some v → v = g k ∧ k < (strE a).length := by
  obtain ⟨x0, e0, s0, _⟩ := (h 0 _ rfl).str'
  refine ⟨x0, s0, fun k v hv => ?_⟩
  match k with
  | 0 => cases hv; exact ⟨e0.symm, by simp⟩
  | k + 1 => simp at hv
theorem u32K (a : Int) (g : Nat → Value) (h : ∀ k v, (u32E a)[k]? = some v → Kn d v (g k)) : ∃ a', True ∧ ∀ k v, (u32E a')[k]? = some v → v = g k ∧ k < (u32E a).length := by
  obtain ⟨x0, e0⟩ := (h 0 _ rfl).u32'
  refine ⟨x0, trivial, fun k v hv => ?_⟩
  match k with
  | 0 => cases hv; exact ⟨e0.symm, by simp⟩
  | k + 1 => simp at hv
theorem impK (a : ImpV) (g : Nat → Value) (h : ∀ k v, (impE a)[k]? = some v → Kn d v (g k)) : ∃ a', (a'.md.size ≤ a.md.size + 1 ∧ a'.nm.size ≤ a.nm.size + 1 ∧ (I64 a.ty → I64 a'.ty)) ∧ ∀ k v, (impE a')[k]? = some v → v = g k ∧ k < (impE a).length := by
  obtain ⟨x0, e0, s0, _⟩ := (h 0 _ rfl).str'
  obtain ⟨x1, e1, s1, _⟩ := (h 1 _ rfl).str'
  obtain ⟨x2, e2, s2⟩ := (h 2 _ rfl).i64'
  refine ⟨⟨x0, x1, x2⟩, ⟨s0, s1, s2⟩, fun k v hv => ?_⟩
  match k with
  | 0 => cases hv; exact ⟨e0.symm, by simp⟩
  | 1 => cases hv; exact ⟨e1.symm, by simp⟩
  | 2 => cases hv; exact ⟨e2.symm, by simp⟩
  | k + 3 => simp at hv
theorem globK (a : Glob) (g : Nat → Value) (h : ∀ k v, (globE a)[k]? = some v → Kn d v (g k)) : ∃ a' : Glob, (U64 a.init.y → U64 a'.init.y) ∧ ∀ k v, (globE a')[k]? = some v → v = g k ∧ k < (globE a).length := by
  have e0 := (h 0 _ rfl).u8'
  obtain ⟨x1, e1⟩ := (h 1 _ rfl).bool'
  have e2 := (h 2 _ rfl).u8'
  obtain ⟨x3, e3⟩ := (h 3 _ rfl).u32'
  obtain ⟨x4, e4, s4⟩ := (h 4 _ rfl).u64'
  refine ⟨⟨a.ty, x1, ⟨a.init.op, x3, x4⟩⟩, s4, fun k v hv => ?_⟩
  match k with
  | 0 => cases hv; exact ⟨e0.symm, by simp⟩
  | 1 => cases hv; exact ⟨e1.symm, by simp⟩
  | 2 => cases hv; exact ⟨e2.symm, by simp⟩
  | 3 => cases hv; exact ⟨e3.symm, by simp⟩
  | 4 => cases hv; exact ⟨e4.symm, by simp⟩
  | k + 5 => simp at hv
theorem expK (a : ExpV) (g : Nat → Value) (h : ∀ k v, (expE a)[k]? = some v → Kn d v (g k)) : ∃ a' : ExpV, a'.nm.size ≤ a.nm.size + 1 ∧ ∀ k v, (expE a')[k]? = some v → v = g k ∧ k < (expE a).length := by
  obtain ⟨x0, e0, s0, _⟩ := (h 0 _ rfl).str'
  have e1 := (h 1 _ rfl).u8'
  obtain ⟨x2, e2⟩ := (h 2 _ rfl).u32'
  refine ⟨⟨x0, a.kind, x2⟩, s0, fun k v hv => ?_⟩
  match k with
  | 0 => cases hv; exact ⟨e0.symm, by simp⟩
  | 1 => cases hv; exact ⟨e1.symm, by simp⟩
  | 2 => cases hv; exact ⟨e2.symm, by simp⟩
  | k + 3 => simp at hv
theorem datK (a : DatV) (g : Nat → Value) (h : ∀ k v, (datE a)[k]? = some v → Kn d v (g k)) : ∃ a' : DatV, ((U64 a.off.y → U64 a'.off.y) ∧ a'.bytes.size ≤ a.bytes.size + 1) ∧ ∀ k v, (datE a')[k]? = some v → v = g k ∧ k < (datE a).length := by
  have e0 := (h 0 _ rfl).u8'
  obtain ⟨x1, e1⟩ := (h 1 _ rfl).u32'
  obtain ⟨x2, e2, s2⟩ := (h 2 _ rfl).u64'
  obtain ⟨x3, e3, s3, _⟩ := (h 3 _ rfl).str'
  refine ⟨⟨⟨a.off.op, x1, x2⟩, x3⟩, ⟨s2, s3⟩, fun k v hv => ?_⟩
  match k with
  | 0 => cases hv; exact ⟨e0.symm, by simp⟩
  | 1 => cases hv; exact ⟨e1.symm, by simp⟩
  | 2 => cases hv; exact ⟨e2.symm, by simp⟩
  | 3 => cases hv; exact ⟨e3.symm, by simp⟩
  | k + 4 => simp at hv
theorem elK (a : ElR) (ha : ∃ x l c, a.sl = .slice x l c) (g : Nat → Value) (h : ∀ k v, (elE a)[k]? = some v → Kn d v (g k)) : ∃ a' : ElR, ((U64 a.off.y → U64 a'.off.y) ∧ a'.sl = a.sl) ∧ ∀ k v, (elE a')[k]? = some v → v = g k ∧ k < (elE a).length := by
  have e0 := (h 0 _ rfl).u8'
  obtain ⟨x1, e1⟩ := (h 1 _ rfl).u32'
  obtain ⟨x2, e2, s2⟩ := (h 2 _ rfl).u64'
  obtain ⟨p, l, c, hs⟩ := ha
  have h3 := h 3 _ rfl
  rw [hs] at h3
  have e3 := h3.sl'
  refine ⟨⟨⟨a.off.op, x1, x2⟩, a.sl⟩, ⟨s2, rfl⟩, fun k v hv => ?_⟩
  match k with
  | 0 => cases hv; exact ⟨e0.symm, by simp⟩
  | 1 => cases hv; exact ⟨e1.symm, by simp⟩
  | 2 => cases hv; exact ⟨e2.symm, by simp⟩
  | 3 => cases hv; exact ⟨by rw [hs, e3], by simp⟩
  | k + 4 => simp at hv

theorem Kin.ins (h : Kin d lo w1 w) {nb n : Nat} {ins : Nat → Ins} (hr : InsRow w1 nb n ins) (hb : lo < nb) (hl : nb < w1.heap.size) : ∃ ins' : Nat → Ins, InsRow w nb n ins' ∧ ∀ j, j < n → U64 (ins j).y → U64 (ins' j).y := by
  have H : ∀ j, ∃ a : Ins, j < n → w.cell? ⟨nb, j * 3, none⟩ = some (.int .u8 a.op) ∧ w.cell? ⟨nb, j * 3 + 1, none⟩ = some (.int .u32 a.x) ∧ w.cell? ⟨nb, j * 3 + 2, none⟩ = some (.int .u64 a.y) ∧ (U64 (ins j).y → U64 a.y) := fun j => by
    by_cases hj : j < n
    · obtain ⟨x, e1⟩ := h.u32 hb (hr.i1 j hj)
      obtain ⟨y, e2, e3⟩ := h.u64 hb (hr.i2 j hj)
      exact ⟨⟨(ins j).op, x, y⟩, fun _ => ⟨h.u8 hb (hr.i0 j hj), e1, e2, e3⟩⟩
    · exact ⟨ins j, fun g => absurd g hj⟩
  obtain ⟨f, hf⟩ := Classical.skolem.mp H
  exact ⟨f, ⟨fun j hj => (hf j hj).1, fun j hj => (hf j hj).2.1, fun j hj => (hf j hj).2.2.1, fun j => by rw [h.froz nb j hb hl]; exact hr.fz j⟩, fun j hj => (hf j hj).2.2.2⟩
theorem Kin.tab (h : Kin d lo w1 w) {tk n : Nat} {f : Nat → Int} (hr : TabRow w1 tk n f) (hb : lo < tk) (hl : tk < w1.heap.size) : ∃ f' : Nat → Int, TabRow w tk n f' := by
  have H : ∀ j, ∃ a : Int, j < n → w.cell? ⟨tk, j, none⟩ = some (.int .u32 a) := fun j => by
    by_cases hj : j < n
    · obtain ⟨x, e1⟩ := h.u32 hb (hr.1 j hj)
      exact ⟨x, fun _ => e1⟩
    · exact ⟨0, fun g => absurd g hj⟩
  obtain ⟨f', hf⟩ := Classical.skolem.mp H
  exact ⟨f', hf, fun j => by rw [h.froz tk j hb hl]; exact hr.2 j⟩
def FnRel (a b : FnP) : Prop := (I64 a.ty → I64 b.ty) ∧ (strOfNums b.ls).size ≤ (strOfNums a.ls).size + 1 ∧ b.nI = a.nI ∧ b.nTab = a.nTab ∧ ∀ k, k < a.nI → U64 (a.ins k).y → U64 (b.ins k).y
theorem Kin.fns (h : Kin d lo w1 w) {v : Value} {n : Nat} {F : Nat → FnP} (hr : FnsAt w1 lo v n F) : ∃ F', FnsAt w lo v n F' ∧ ∀ j, j < n → FnRel (F j) (F' j) := by
  rcases hr with ⟨h0, hv⟩ | ⟨h0, fb, h1, h2, h3, h4⟩
  · exact ⟨F, .inl ⟨h0, hv⟩, fun j hj => by omega⟩
  · have H : ∀ j, ∃ a : FnP, j < n → FnRel (F j) a ∧ w.cell? ⟨fb, j * 4, none⟩ = some (.int .i64 a.ty) ∧ w.cell? ⟨fb, j * 4 + 1, none⟩ = some (.string (strOfNums a.ls)) ∧
        (∃ nb, w.cell? ⟨fb, j * 4 + 2, none⟩ = some (.slice (some ⟨nb, 0, none⟩) a.nI a.nI) ∧ InsRow w nb a.nI a.ins ∧ lo + 1 ≤ nb ∧ nb < w.heap.size ∧ nb ≠ fb) ∧
        ((a.nTab = 0 ∧ w.cell? ⟨fb, j * 4 + 3, none⟩ = some (.slice none 0 0)) ∨ (0 < a.nTab ∧ ∃ tk, w.cell? ⟨fb, j * 4 + 3, none⟩ = some (.slice (some ⟨tk, 0, none⟩) a.nTab a.nTab) ∧ TabRow w tk a.nTab a.tabs ∧ lo + 1 ≤ tk ∧ tk < w.heap.size ∧ tk ≠ fb)) := fun j => by
      by_cases hj : j < n
      · obtain ⟨ty, e1, e2⟩ := h.i64 h3 (h2.c0 j hj)
        obtain ⟨sv, g1, g2⟩ := h.cell _ _ _ h3 (h2.c1 j hj)
        have hls : ∃ ls, sv = .string (strOfNums ls) ∧ (strOfNums ls).size ≤ (strOfNums (F j).ls).size + 1 := by
          generalize hz : strOfNums (F j).ls = z at g2
          cases g2 using Kn.cs with
          | same => exact ⟨(F j).ls, by rw [hz], by rw [hz]; omega⟩
          | str s hs =>
            obtain ⟨ls', hl'⟩ := nums_snoc (F j).ls
            rw [hz] at hl'
            exact ⟨ls', by rw [hl'], by rw [hl', ByteArray.size_append]; exact Nat.le_refl _⟩
        obtain ⟨ls, rfl, hsz⟩ := hls
        obtain ⟨nb, b1, b2, b3, b4, b5⟩ := h2.c2 j hj
        obtain ⟨ins', i1, i2⟩ := h.ins b2 (by omega) b4
        have hs := h.size
        rcases h2.c3 j hj with ⟨t0, t1⟩ | ⟨t0, tk, t1, t2, t3, t4, t5⟩
        · exact ⟨⟨ty, ls, (F j).nI, ins', (F j).nTab, (F j).tabs⟩, fun _ => ⟨⟨e2, hsz, rfl, rfl, i2⟩, e1, g1, ⟨nb, h.sl h3 b1, i1, b3, by omega, b5⟩, .inl ⟨t0, h.sl h3 t1⟩⟩⟩
        · obtain ⟨tabs', ht⟩ := h.tab t2 (by omega) t4
          exact ⟨⟨ty, ls, (F j).nI, ins', (F j).nTab, tabs'⟩, fun _ => ⟨⟨e2, hsz, rfl, rfl, i2⟩, e1, g1, ⟨nb, h.sl h3 b1, i1, b3, by omega, b5⟩, .inr ⟨t0, tk, h.sl h3 t1, ht, t3, by omega, t5⟩⟩⟩
      · exact ⟨F j, fun g => absurd g hj⟩
    obtain ⟨F', hF⟩ := Classical.skolem.mp H
    refine ⟨F', .inr ⟨h0, fb, h1, ⟨fun j hj => ?_, fun j => by rw [h.froz fb j h3 h4]; exact h2.f j, fun j hj => (hF j hj).2.1, fun j hj => (hF j hj).2.2.1, fun j hj => (hF j hj).2.2.2.1, fun j hj => (hF j hj).2.2.2.2, fun j hj hj2 => by omega⟩, h3, by have := h.size; omega⟩, fun j hj => (hF j hj).1⟩
    obtain ⟨v, hv⟩ := h2.c j hj
    obtain ⟨v', hv', _⟩ := h.cell _ _ _ h3 hv
    exact ⟨v', hv'⟩
def ElRel (a b : ElV) : Prop := (U64 a.off.y → U64 b.off.y) ∧ b.n = a.n
theorem Kin.els (h : Kin d lo w1 w) {v : Value} {n : Nat} {F : Nat → ElV} (hr : ElsAt w1 lo v n F) : ∃ F', ElsAt w lo v n F' ∧ ∀ j, j < n → ElRel (F j) (F' j) := by
  rcases hr with ⟨h0, hv⟩ | ⟨h0, tb, h1, ⟨fr, h2, h2'⟩, h3, h4⟩
  · exact ⟨F, .inl ⟨h0, hv⟩, fun j hj => by omega⟩
  · obtain ⟨fr', g1, g2⟩ := h.row (Rel := fun a b => (U64 a.off.y → U64 b.off.y) ∧ b.sl = a.sl) (fun j hj => elK (fr j) (by
      rcases (h2' j hj).2.1 with ⟨_, e⟩ | ⟨_, bb, e, _⟩
      · exact ⟨_, _, _, e⟩
      · exact ⟨_, _, _, e⟩)) h2 h3 h4
    have H : ∀ j, ∃ f' : Nat → Int, j < n → SlF u32E 1 w lo (fr j).sl (F j).n f' := fun j => by
      by_cases hj : j < n
      · obtain ⟨f', k1, _⟩ := h.slf (Rel := fun _ _ => True) (fun i _ => u32K ((F j).fns i)) (h2' j hj).2.1
        exact ⟨f', fun _ => k1⟩
      · exact ⟨fun _ => 0, fun g => absurd g hj⟩
    obtain ⟨G, hG⟩ := Classical.skolem.mp H
    refine ⟨fun j => ⟨(fr' j).off, (F j).n, G j⟩, .inr ⟨h0, tb, h1, ⟨fr', g1, fun j hj => ⟨rfl, ?_, ?_⟩⟩, h3, by have := h.size; omega⟩, fun j hj => ⟨?_, rfl⟩⟩
    · rw [(g2 j hj).2]; exact hG j hj
    · rw [(g2 j hj).2]; exact (h2' j hj).2.2
    · intro g
      refine (g2 j hj).1 ?_
      rw [(h2' j hj).1]; exact g

/-- The module behind the stamp. -/
theorem Kin.mod {m : Nat → Value} {P : PM} {mb : Nat} (h : Kin d lo w1 w) (hM : MInv w1 lo m P) (hA : ModAt w1 mb m) (hb : lo < mb) (B : PB P) : ∃ m' P', Sx w mb m' lo P' := by
  have X := B.sb
  obtain ⟨y3, a3, b3⟩ := h.i64 hb (hM.v3 ▸ hA.c 3 (by decide))
  obtain ⟨y4, a4, b4⟩ := h.i64 hb (hM.v4 ▸ hA.c 4 (by decide))
  obtain ⟨y5, a5, b5⟩ := h.i64 hb (hM.v5 ▸ hA.c 5 (by decide))
  obtain ⟨y6, a6, b6⟩ := h.i64 hb (hM.v6 ▸ hA.c 6 (by decide))
  obtain ⟨y9, a9, b9⟩ := h.i64 hb (hM.s9 ▸ hA.c 9 (by decide))
  obtain ⟨ty, t1, t2⟩ := h.slf (Rel := fun a b : ByteArray => b.size ≤ a.size + 1) (fun j _ => strK (P.ty j)) hM.t0
  obtain ⟨im, i1, i2⟩ := h.slf (Rel := fun a b : ImpV => b.md.size ≤ a.md.size + 1 ∧ b.nm.size ≤ a.nm.size + 1 ∧ (I64 a.ty → I64 b.ty)) (fun j _ => impK (P.im j)) hM.i1
  obtain ⟨fn, f1, f2⟩ := h.fns hM.f2
  obtain ⟨gl, g1, g2⟩ := h.slf (Rel := fun a b : Glob => U64 a.init.y → U64 b.init.y) (fun j _ => globK (P.g j)) hM.g7
  obtain ⟨ex, x1, x2⟩ := h.slf (Rel := fun a b : ExpV => b.nm.size ≤ a.nm.size + 1) (fun j _ => expK (P.ex j)) hM.e8
  obtain ⟨el, l1, l2⟩ := h.els hM.l10
  obtain ⟨da, d1, d2⟩ := h.slf (Rel := fun a b : DatV => (U64 a.off.y → U64 b.off.y) ∧ b.bytes.size ≤ a.bytes.size + 1) (fun j _ => datK (P.da j)) hM.d11
  have sl : ∀ j, j < 12 → (∃ a n c, m j = .slice a n c) → w.cell? ⟨mb, j, none⟩ = some (m j) := fun j hj ⟨a, n, c, e⟩ => by
    have := hA.c j hj
    rw [e] at this ⊢
    exact h.sl hb this
  have sf : ∀ {α : Type} {enc : α → List Value} {sz n : Nat} {f : Nat → α} {v : Value}, SlF enc sz w1 lo v n f → ∃ a n c, v = .slice a n c := fun {_ _ _ _ _ _} e => by
    rcases e with ⟨_, e⟩ | ⟨_, bb, e, _⟩
    · exact ⟨_, _, _, e⟩
    · exact ⟨_, _, _, e⟩
  refine ⟨fun j => if j = 3 then .int .i64 y3 else if j = 4 then .int .i64 y4 else if j = 5 then .int .i64 y5 else if j = 6 then .int .i64 y6 else if j = 9 then .int .i64 y9 else m j, ⟨P.nTy, ty, P.nIm, im, P.nf, fn, y3, y4, y5, y6, P.gn, gl, P.nEx, ex, y9, P.nEl, el, P.nD, da⟩, ⟨fun j hj => ?_, fun j => by rw [h.froz mb j hb hA.lt]; exact hA.f j⟩, ⟨t1, i1, f1, rfl, rfl, rfl, rfl, g1, x1, rfl, l1, d1⟩, ?_⟩
  · match j, hj with
    | 0, _ => exact sl 0 (by decide) (sf hM.t0)
    | 1, _ => exact sl 1 (by decide) (sf hM.i1)
    | 2, _ => exact sl 2 (by decide) (by rcases hM.f2 with ⟨_, e⟩ | ⟨_, bb, e, _⟩ <;> exact ⟨_, _, _, e⟩)
    | 3, _ => exact a3
    | 4, _ => exact a4
    | 5, _ => exact a5
    | 6, _ => exact a6
    | 7, _ => exact sl 7 (by decide) (sf hM.g7)
    | 8, _ => exact sl 8 (by decide) (sf hM.e8)
    | 9, _ => exact a9
    | 10, _ => exact sl 10 (by decide) (by rcases hM.l10 with ⟨_, e⟩ | ⟨_, bb, e, _⟩ <;> exact ⟨_, _, _, e⟩)
    | 11, _ => exact sl 11 (by decide) (sf hM.d11)
    | j + 12, g => exact absurd g (by omega)
  exact {
    nTy := X.nTy
    ty := fun j hj => by have := t2 j hj; have := (B.ty j hj).1; exact (by omega : (ty j).size ≤ 2000)
    nIm := X.nIm
    im := fun j hj => by
      obtain ⟨a1, a2, a3⟩ := i2 j hj
      obtain ⟨b1, b2, b3, b4⟩ := B.im j hj
      exact ⟨(by omega : (im j).md.size ≤ 2000), (by omega : (im j).nm.size ≤ 2000), a3 (X.im j hj).2.2⟩
    nf := X.nf
    fn := fun j hj => by
      obtain ⟨a1, a2, a3, a4, a5⟩ := f2 j hj
      obtain ⟨b1, b2, b3, b4, b5⟩ := X.fn j hj
      have := (B.fn j hj).ls
      exact ⟨a1 b1, (by omega : (strOfNums (fn j).ls).size ≤ 2000), (by omega : (fn j).nI ≤ 96), fun k hk => a5 k (by have : k < (fn j).nI := hk; omega) (b4 k (by have : k < (fn j).nI := hk; omega)), (by omega : (fn j).nTab ≤ 24)⟩
    t0 := b3 X.t0
    t1 := b4 X.t1
    m0 := b5 X.m0
    m1 := b6 X.m1
    s0 := b9 X.s0
    gn := X.gn
    g := fun j hj => g2 j hj (X.g j hj)
    nEx := X.nEx
    ex := fun j hj => by have := x2 j hj; have := (B.ex j hj).1; exact (by omega : (ex j).nm.size ≤ 2000)
    nEl := X.nEl
    el := fun j hj => ⟨(l2 j hj).1 (X.el j hj).1, by have := (l2 j hj).2; have := (X.el j hj).2; exact (by omega : (el j).n ≤ 6)⟩
    nD := X.nD
    da := fun j hj => ⟨(d2 j hj).1 (X.da j hj).1, by have := (d2 j hj).2; have := (B.da j hj).2; exact (by omega : (da j).bytes.size ≤ 2000)⟩ }
end
end Go.Proofs.Qxb6500316a
