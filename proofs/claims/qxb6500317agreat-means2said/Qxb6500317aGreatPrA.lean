/-
  The compiler's scratch.
-/
import Derived.Test.Qxb6500317aGreatVdA
import Derived.Test.Qxb6500317aGreatHmA
set_option linter.unusedSimpArgs false
set_option linter.unusedVariables false
set_option maxRecDepth 100000
set_option linter.unusedSectionVars false
namespace Go.Proofs.Qxb6500317aGreat
open Go Go.Vc

/-! ### Rows of instructions with room behind them -/
def inC (i : Ins) (r : Nat) : Value := if r = 0 then .int .u8 i.op else if r = 1 then .int .u32 i.x else .int .u64 i.y
def z0 : Ins := ⟨0, 0, 0⟩
/-- The block cb holds the cells; from mk on nothing was ever written. -/
structure CB (w : World) (cb : Nat) (cells : List Ins) (mk : Nat) : Prop where
  ex : ∃ cur, w.heap[cb]? = some (.cells cur T_api_Ins (0, 0)) ∧ cur.size = 363 ∧ (∀ j i, cells[j]? = some i → ∀ r, r < 3 → cur[j * 3 + r]? = some (inC i r)) ∧ (∀ j, mk ≤ j → j < 121 → ∀ r, r < 3 → cur[j * 3 + r]? = some (inC z0 r))
  le : cells.length ≤ 121
  lm : cells.length ≤ mk
section
variable {w w' : World} {cb : Nat} {cells : List Ins} {mk : Nat}
theorem CB.lt (h : CB w cb cells mk) : cb < w.heap.size := by
  obtain ⟨cur, h1, _⟩ := h.ex
  exact (Array.getElem?_eq_some_iff.1 h1).1
theorem CB.same (h : CB w cb cells mk) {S : List Nat} {B : Nat} (hs : Same S B w w') (hb : cb < B) (hS : cb ∉ S) : CB w' cb cells mk := by
  obtain ⟨cur, h1, h2⟩ := h.ex
  exact ⟨⟨cur, by rw [hs.block cb hb hS]; exact h1, h2⟩, h.le, h.lm⟩
theorem CB.cell (h : CB w cb cells mk) {j : Nat} {i : Ins} (hj : cells[j]? = some i) {r : Nat} (hr : r < 3) : w.cell? ⟨cb, j * 3 + r, none⟩ = some (inC i r) := by
  obtain ⟨cur, h1, h2, h3, _⟩ := h.ex
  have := h3 j i hj r hr
  simp [World.cell?, h1, this]
theorem CB.zero (h : CB w cb cells mk) {j : Nat} (hj : mk ≤ j) (hl : j < 121) {r : Nat} (hr : r < 3) : w.cell? ⟨cb, j * 3 + r, none⟩ = some (inC z0 r) := by
  obtain ⟨cur, h1, h2, _, h4⟩ := h.ex
  have := h4 j hj hl r hr
  simp [World.cell?, h1, this]
theorem CB.fz (h : CB w cb cells mk) (j : Nat) : w.frozen? ⟨cb, j, none⟩ = false := by
  obtain ⟨cur, h1, _⟩ := h.ex
  simp [World.frozen?, h1]
theorem CB.c0 (h : CB w cb cells mk) {j : Nat} {i : Ins} (hj : cells[j]? = some i) : w.cell? ⟨cb, j * 3, none⟩ = some (.int .u8 i.op) := h.cell hj (r := 0) (by decide)
theorem CB.c1 (h : CB w cb cells mk) {j : Nat} {i : Ins} (hj : cells[j]? = some i) : w.cell? ⟨cb, j * 3 + 1, none⟩ = some (.int .u32 i.x) := h.cell hj (r := 1) (by decide)
theorem CB.c2 (h : CB w cb cells mk) {j : Nat} {i : Ins} (hj : cells[j]? = some i) : w.cell? ⟨cb, j * 3 + 2, none⟩ = some (.int .u64 i.y) := h.cell hj (r := 2) (by decide)
/-- A shorter row of the same block. -/
theorem CB.cut (h : CB w cb cells mk) (n : Nat) : CB w cb (cells.take n) mk := by
  obtain ⟨cur, h1, h2, h3, h4⟩ := h.ex
  refine ⟨⟨cur, h1, h2, fun j i hj r hr => h3 j i ?_ r hr, h4⟩, ?_, ?_⟩
  · rw [List.getElem?_take] at hj
    split at hj
    · exact hj
    · cases hj
  · have := h.le; rw [List.length_take]; omega
  · have := h.lm; rw [List.length_take]; omega
def setX (cells : List Ins) (c : Nat) (v : Int) : List Ins := cells.modify c fun i => { i with x := v }
theorem setX_len (cells : List Ins) (c : Nat) (v : Int) : (setX cells c v).length = cells.length := by unfold setX; simp
theorem setX_get (cells : List Ins) (c : Nat) (v : Int) (j : Nat) : (setX cells c v)[j]? = if c = j then cells[j]?.map (fun i => { i with x := v }) else cells[j]? := by
  unfold setX
  rw [List.getElem?_modify]
  split
  · rfl
  · simp
theorem CB.setX (h : CB w cb cells mk) {c : Nat} (hc : c < cells.length) (v : Int) : CB (w.setCell ⟨cb, c * 3 + 1, none⟩ (.int .u32 v)) cb (setX cells c v) mk := by
  obtain ⟨cur, h1, h2, h3, h4⟩ := h.ex
  have lm := h.lm
  refine ⟨⟨cur.setIfInBounds (c * 3 + 1) (.int .u32 v), heap_setCell_same w cb (c * 3 + 1) cur T_api_Ins (.int .u32 v) h1, by simpa using h2, fun j i hj r hr => ?_, fun j hj hl r hr => ?_⟩, by rw [setX_len]; exact h.le, by rw [setX_len]; exact h.lm⟩
  · rw [setX_get] at hj
    rw [Array.getElem?_setIfInBounds]
    by_cases e : c = j
    · subst e
      rw [if_pos rfl] at hj
      cases hi : cells[c]? with
      | none => rw [hi] at hj; cases hj
      | some i0 =>
        rw [hi] at hj; cases hj
        have := h3 c i0 hi r hr
        by_cases e1 : r = 1
        · subst e1
          rw [if_pos rfl, if_pos (by have := (Array.getElem?_eq_some_iff.1 this).1; exact this)]
          rfl
        · rw [if_neg (by omega), this]
          unfold inC
          by_cases e0 : r = 0
          · rw [if_pos e0, if_pos e0]
          · rw [if_neg e0, if_neg e0, if_neg e1, if_neg e1]
    · rw [if_neg e] at hj
      rw [if_neg (by omega)]
      exact h3 j i hj r hr
  · rw [Array.getElem?_setIfInBounds, if_neg (by omega)]
    exact h4 j hj hl r hr

theorem CB.append (h : CB w cb cells mk) (hl : cells.length < 121) (i : Ins) {b : Nat} {w1 : World} (hb : b = w.heap.size) (hw : w1 = w.alloc (.cells #[.int .u8 i.op, .int .u32 i.x, .int .u64 i.y] T_api_Ins)) :
    ∃ w2, Sem.run Tryz.prog (Builtin.append_ #[T_sl_api_Ins, T_sl_api_Ins] T_sl_api_Ins #[.slice (some ⟨cb, 0, none⟩) cells.length 121, .slice (some ⟨b, 0, none⟩) 1 1]) w1 = .ok (.slice (some ⟨cb, 0, none⟩) (cells.length + 1) 121) w2 ∧
      CB w2 cb (cells ++ [i]) (max mk (cells.length + 1)) ∧ Same [cb] w.heap.size w w2 := by
  obtain ⟨cur, h1, h2, h3, h4⟩ := h.ex
  have E := T_sl_api_Ins.el
  have hlt := h.lt
  have hcl : cur.toList.length = 363 := by rw [Array.length_toList]; exact h2
  have h1' : w1.heap[cb]? = some (.cells cur T_api_Ins (0, 0)) := by rw [hw, heap_alloc_old w _ cb hlt]; exact h1
  have hr := run_append_room (P := Tryz.prog) w1 T_sl_api_Ins T_sl_api_Ins T_api_Ins _ E.ht E.hi cb cells.length 121 cur h1' ⟨b, 0, none⟩ 1 1 [.int .u8 i.op, .int .u32 i.x, .int .u64 i.y] (by rw [E.hsize]; rfl) (fun j u hj => by
    rw [add_mk, Nat.zero_add, hw, hb, World.cell?_alloc_new]; simpa using hj) (by intro u hu; simp at hu; rcases hu with rfl | rfl | rfl <;> rfl) (by omega) (by rw [E.hsize, h2]; simp; omega)
  rw [E.hsize] at hr
  refine ⟨_, hr, ⟨⟨_, setRow_heap w1 cb cur _ T_api_Ins _ h1', ?_, fun j y hj r hr2 => ?_, fun j hj hl2 r hr2 => ?_⟩, by rw [List.length_append]; simp; omega, by rw [List.length_append]; simp; omega⟩, ?_⟩
  · simp only [List.size_toArray, List.length_append, List.length_take, List.length_drop, hcl, List.length_cons, List.length_nil]
    omega
  · rw [List.getElem?_toArray]
    by_cases e : j < cells.length
    · rw [List.getElem?_append_left e] at hj
      rw [List.append_assoc, List.getElem?_append_left (by rw [List.length_take, hcl]; omega), List.getElem?_take, if_pos (by omega), Array.getElem?_toList]
      exact h3 j y hj r hr2
    · rw [List.getElem?_append_right (by omega)] at hj
      have ej : j = cells.length := by
        have := (List.getElem?_eq_some_iff.1 hj).1
        simp at this; omega
      subst ej
      rw [Nat.sub_self] at hj
      have hj : some i = some y := hj
      cases hj
      rw [List.append_assoc, List.getElem?_append_right (by rw [List.length_take, hcl]; omega), List.length_take, hcl, show cells.length * 3 + r - min (cells.length * 3) 363 = r by omega]
      have : r = 0 ∨ r = 1 ∨ r = 2 := by omega
      rcases this with rfl | rfl | rfl <;> rfl
  · rw [List.getElem?_toArray, List.getElem?_append_right (by simp only [List.length_append, List.length_take, hcl, List.length_cons, List.length_nil]; omega), List.getElem?_drop, Array.getElem?_toList]
    simp only [List.length_append, List.length_take, hcl, List.length_cons, List.length_nil]
    rw [show cells.length * 3 + 3 + (j * 3 + r - (min (cells.length * 3) 363 + 3)) = j * 3 + r by omega]
    exact h4 j (by omega) hl2 r hr2
  · have S1 : Same [cb] w.heap.size w w1 := by rw [hw]; exact (Same.refl _ _ _).alloc (Nat.le_refl _) _
    exact S1.trans ⟨rfl, rfl, rfl, by simp, fun k _ hk => setRow_other w1 cb k _ (fun e => hk (by simp [e]))⟩
end

/-! ### The compiler in memory -/
structure CT where
  op : Int
  fl : Nat
  ar : Nat
  st : Nat
  pt : Nat
  cn : Nat
  jm : Nat
def ctC (c : CT) : List Value := [.int .u8 c.op, .int .i64 (c.fl : Int), .int .i64 (c.ar : Int), .int .i64 (c.st : Int), .int .i64 (c.pt : Int), .int .i64 (c.cn : Int), .int .i64 (c.jm : Int)]
structure PA (w : World) (pb cb : Nat) (cells : List Ins) (hg : Nat) (k : List CT) (h : Int) (dead : Nat) : Prop where
  s : w.cell? ⟨pb, 0, none⟩ = some (.slice (some ⟨cb, 0, none⟩) cells.length 121)
  hi : w.cell? ⟨pb, 1, none⟩ = some (.int .i64 (hg : Int))
  cc : ∀ j, j < 54 → ∃ v, w.cell? ⟨pb, j, none⟩ = some v
  f : ∀ j, w.frozen? ⟨pb, j, none⟩ = false
  t : ∀ j c, k.reverse[j]? = some c → ∀ r v, (ctC c)[r]? = some v → w.cell? ⟨pb, 2 + j * 7 + r, none⟩ = some v
  d : w.cell? ⟨pb, 51, none⟩ = some (.int .i64 ((k.length : Nat) : Int))
  hh : w.cell? ⟨pb, 52, none⟩ = some (.int .i64 h)
  de : w.cell? ⟨pb, 53, none⟩ = some (.int .i64 (dead : Int))
  B : CB w cb cells (max hg cells.length)
  ne : pb ≠ cb
  kl : k.length ≤ 7
section
variable {w w' : World} {pb cb : Nat} {cells : List Ins} {hg : Nat} {k : List CT} {h : Int} {dead : Nat}
theorem PA.lt (p : PA w pb cb cells hg k h dead) : pb < w.heap.size := cell_lt p.s
theorem PA.same (p : PA w pb cb cells hg k h dead) {S : List Nat} {B : Nat} (hs : Same S B w w') (hB : w.heap.size ≤ B) (h1 : pb ∉ S) (h2 : cb ∉ S) : PA w' pb cb cells hg k h dead := by
  have lp := p.lt; have lc := p.B.lt
  have e : ∀ j, w'.cell? ⟨pb, j, none⟩ = w.cell? ⟨pb, j, none⟩ := fun j => hs.cell (p := ⟨pb, j, none⟩) (show pb < B by omega) h1
  exact ⟨by rw [e]; exact p.s, by rw [e]; exact p.hi, fun j hj => by rw [e]; exact p.cc j hj, fun j => by rw [hs.frozen (p := ⟨pb, j, none⟩) (show pb < B by omega) h1]; exact p.f j, fun j c hc r v hv => by rw [e]; exact p.t j c hc r v hv, by rw [e]; exact p.d, by rw [e]; exact p.hh, by rw [e]; exact p.de, p.B.same hs (by omega) h2, p.ne, p.kl⟩
theorem PA.keep (p : PA w pb cb cells hg k h dead) (hs : Same [] w.heap.size w w') : PA w' pb cb cells hg k h dead := p.same hs (Nat.le_refl _) (by simp) (by simp)
theorem PA.drew (p : PA w pb cb cells hg k h dead) : PA w.drew pb cb cells hg k h dead := p.keep (Same.refl _ _ _).drew
theorem PA.can (p : PA w pb cb cells hg k h dead) (j : Nat) (hj : j < 54) : can w ⟨pb, j, none⟩ := ⟨p.cc j hj, p.f j⟩
theorem PA.at (p : PA w pb cb cells hg k h dead) (i : Nat) (hi : i < 54) (v : Value) (j : Nat) : (w.setCell ⟨pb, i, none⟩ v).cell? ⟨pb, j, none⟩ = if j = i then some v else w.cell? ⟨pb, j, none⟩ := by
  rw [cell_setCell]
  by_cases g : j = i
  · subst g
    obtain ⟨u, hu⟩ := p.cc j hi
    rw [if_pos ⟨rfl, rfl⟩, if_pos rfl, hu]; rfl
  · rw [if_neg (by omega), if_neg g]
theorem PA.kj (p : PA w pb cb cells hg k h dead) {j : Nat} {c : CT} (e : k.reverse[j]? = some c) : j < 7 ∧ j < k.length := by
  have := (List.getElem?_eq_some_iff.1 e).1
  rw [List.length_reverse] at this
  have := p.kl; omega
theorem ct_r {c : CT} {r : Nat} {v : Value} (h : (ctC c)[r]? = some v) : r < 7 := (List.getElem?_eq_some_iff.1 h).1
theorem PA.sB (p : PA w pb cb cells hg k h dead) (i : Nat) (v : Value) : CB (w.setCell ⟨pb, i, none⟩ v) cb cells (max hg cells.length) :=
  p.B.same (S := [pb]) (B := w.heap.size) ((Same.refl _ _ _).setCell (.inr (by simp)) v) p.B.lt (by simp; exact fun e => p.ne e.symm)
/-- A cell that is none of the frames'. -/
theorem PA.put (p : PA w pb cb cells hg k h dead) (i : Nat) (v : Value) (hi : i < 54) {hg' : Nat} {h' : Int} {dead' : Nat} (hm : max hg' cells.length = max hg cells.length)
    (e : (i = 1 ∧ v = .int .i64 (hg' : Int) ∧ h' = h ∧ dead' = dead) ∨ (i = 52 ∧ v = .int .i64 h' ∧ hg' = hg ∧ dead' = dead) ∨ (i = 53 ∧ v = .int .i64 (dead' : Int) ∧ hg' = hg ∧ h' = h)) : PA (w.setCell ⟨pb, i, none⟩ v) pb cb cells hg' k h' dead' := by
  have A := p.at i hi v
  have kl := p.kl
  refine ⟨by rw [A, if_neg (by omega)]; exact p.s, ?_, fun j hj => ?_, fun j => by rw [World.frozen?_setCell]; exact p.f j, fun j c hc r u hu => ?_, by rw [A, if_neg (by omega)]; exact p.d, ?_, ?_, by rw [hm]; exact p.sB i v, p.ne, p.kl⟩
  · rw [A]
    rcases e with ⟨e1, e2, e3, e4⟩ | ⟨e1, e2, e3, e4⟩ | ⟨e1, e2, e3, e4⟩
    · rw [if_pos e1.symm, e2]
    · rw [if_neg (by omega), e3]; exact p.hi
    · rw [if_neg (by omega), e3]; exact p.hi
  · rw [A]
    split
    · exact ⟨_, rfl⟩
    · exact p.cc j hj
  · have := p.kj hc; have := ct_r hu
    rw [A, if_neg (by omega)]
    exact p.t j c hc r u hu
  · rw [A]
    rcases e with ⟨e1, e2, e3, e4⟩ | ⟨e1, e2, e3, e4⟩ | ⟨e1, e2, e3, e4⟩
    · rw [if_neg (by omega), e3]; exact p.hh
    · rw [if_pos e1.symm, e2]
    · rw [if_neg (by omega), e4]; exact p.hh
  · rw [A]
    rcases e with ⟨e1, e2, e3, e4⟩ | ⟨e1, e2, e3, e4⟩ | ⟨e1, e2, e3, e4⟩
    · rw [if_neg (by omega), e4]; exact p.de
    · rw [if_neg (by omega), e4]; exact p.de
    · rw [if_pos e1.symm, e2]
theorem PA.setH (p : PA w pb cb cells hg k h dead) (h' : Int) : PA (w.setCell ⟨pb, 52, none⟩ (.int .i64 h')) pb cb cells hg k h' dead := p.put 52 _ (by decide) rfl (.inr (.inl ⟨rfl, rfl, rfl, rfl⟩))
theorem PA.setD (p : PA w pb cb cells hg k h dead) (n : Nat) : PA (w.setCell ⟨pb, 53, none⟩ (.int .i64 (n : Int))) pb cb cells hg k h n := p.put 53 _ (by decide) rfl (.inr (.inr ⟨rfl, rfl, rfl, rfl⟩))
theorem PA.setHi (p : PA w pb cb cells hg k h dead) : PA (w.setCell ⟨pb, 1, none⟩ (.int .i64 ((max hg cells.length : Nat) : Int))) pb cb cells (max hg cells.length) k h dead := p.put 1 _ (by decide) (by omega) (.inl ⟨rfl, rfl, rfl, rfl⟩)
/-- The depth set down. -/
theorem PA.cutK (p : PA w pb cb cells hg k h dead) (n : Nat) (hn : n ≤ k.length) : PA (w.setCell ⟨pb, 51, none⟩ (.int .i64 (n : Int))) pb cb cells hg (k.drop (k.length - n)) h dead := by
  have A := p.at 51 (by decide) (.int .i64 (n : Int))
  have kl := p.kl
  have hl : (k.drop (k.length - n)).length = n := by rw [List.length_drop]; omega
  refine ⟨by rw [A, if_neg (by omega)]; exact p.s, by rw [A, if_neg (by omega)]; exact p.hi, fun j hj => ?_, fun j => by rw [World.frozen?_setCell]; exact p.f j, fun j c hc r u hu => ?_, by rw [A, if_pos rfl, hl], by rw [A, if_neg (by omega)]; exact p.hh, by rw [A, if_neg (by omega)]; exact p.de, p.sB _ _, p.ne, by omega⟩
  · rw [A]
    split
    · exact ⟨_, rfl⟩
    · exact p.cc j hj
  · rw [List.reverse_drop, List.getElem?_take] at hc
    split at hc
    · have := p.kj hc; have := ct_r hu
      rw [A, if_neg (by omega)]
      exact p.t j c hc r u hu
    · cases hc
/-- A field of the frame at place n (counted from the body) set. -/
theorem PA.setF (p : PA w pb cb cells hg k h dead) {n : Nat} {c c' : CT} (hc : k.reverse[n]? = some c) (r : Nat) (hr : r < 7) (v : Value) (hv : ∀ j u, (ctC c')[j]? = some u → if j = r then u = v else (ctC c)[j]? = some u) :
    PA (w.setCell ⟨pb, 2 + n * 7 + r, none⟩ v) pb cb cells hg (k.set (k.length - 1 - n) c') h dead := by
  have hn := p.kj hc
  have A := p.at (2 + n * 7 + r) (by omega) v
  refine ⟨by rw [A, if_neg (by omega)]; exact p.s, by rw [A, if_neg (by omega)]; exact p.hi, fun j hj => ?_, fun j => by rw [World.frozen?_setCell]; exact p.f j, fun j y hy q u hu => ?_, by rw [A, if_neg (by omega), List.length_set]; exact p.d, by rw [A, if_neg (by omega)]; exact p.hh, by rw [A, if_neg (by omega)]; exact p.de, p.sB _ _, p.ne, by rw [List.length_set]; exact p.kl⟩
  · rw [A]
    split
    · exact ⟨_, rfl⟩
    · exact p.cc j hj
  · have hq := ct_r hu
    have hlen := (List.getElem?_eq_some_iff.1 hy).1
    rw [List.length_reverse, List.length_set] at hlen
    rw [List.getElem?_reverse (by rw [List.length_set]; exact hlen), List.length_set, List.getElem?_set] at hy
    by_cases e : j = n
    · subst e
      rw [if_pos rfl, if_pos (by omega)] at hy
      cases hy
      have := hv q u hu
      rw [A]
      by_cases eq : q = r
      · rw [if_pos eq] at this
        rw [if_pos (by omega), this]
      · rw [if_neg eq] at this
        rw [if_neg (by omega)]
        exact p.t j c hc q u this
    · rw [if_neg (by omega), ← List.getElem?_reverse hlen] at hy
      rw [A, if_neg (by omega)]
      exact p.t j y hy q u hu
/-- A block opened: its seven cells filled, then the depth. -/
theorem PA.pushF (p : PA w pb cb cells hg k h dead) (hk : k.length < 7) (c : CT) (hF : Fill w w' pb (2 + k.length * 7) (ctC c)) : PA (w'.setCell ⟨pb, 51, none⟩ (.int .i64 ((k.length + 1 : Nat) : Int))) pb cb cells hg (c :: k) h dead := by
  have hl7 : (ctC c).length = 7 := rfl
  have C : ∀ j, j < 54 → (w'.setCell ⟨pb, 51, none⟩ (.int .i64 ((k.length + 1 : Nat) : Int))).cell? ⟨pb, j, none⟩ = if j = 51 then some (.int .i64 ((k.length + 1 : Nat) : Int)) else if 2 + k.length * 7 ≤ j ∧ j < 2 + k.length * 7 + 7 then (ctC c)[j - (2 + k.length * 7)]? else w.cell? ⟨pb, j, none⟩ := fun j hj => by
    obtain ⟨u, e⟩ := p.cc 51 (by decide)
    rw [cell_setCell, hF.cell, hl7]
    by_cases g1 : j = 51
    · subst g1
      rw [if_pos ⟨rfl, rfl⟩, if_neg (by omega), if_pos rfl, e]; rfl
    · rw [if_neg (by omega), if_neg g1]
      by_cases g2 : 2 + k.length * 7 ≤ j ∧ j < 2 + k.length * 7 + 7
      · rw [if_pos ⟨rfl, g2⟩, if_pos g2]
      · rw [if_neg (by omega), if_neg g2]
  have hS : Same [pb] w.heap.size w (w'.setCell ⟨pb, 51, none⟩ (.int .i64 ((k.length + 1 : Nat) : Int))) := (hF.same _).setCell (.inr (by simp)) _
  refine ⟨by rw [C 0 (by decide), if_neg (by omega), if_neg (by omega)]; exact p.s, by rw [C 1 (by decide), if_neg (by omega), if_neg (by omega)]; exact p.hi, fun j hj => ?_, fun j => by rw [World.frozen?_setCell, hF.frozen]; exact p.f j, fun j y hy q u hu => ?_, by rw [C 51 (by decide), if_pos rfl]; rfl, by rw [C 52 (by decide), if_neg (by omega), if_neg (by omega)]; exact p.hh, by rw [C 53 (by decide), if_neg (by omega), if_neg (by omega)]; exact p.de, p.B.same hS p.B.lt (by simp; exact fun e => p.ne e.symm), p.ne, by simp; omega⟩
  · rw [C j hj]
    split
    · exact ⟨_, rfl⟩
    · split
      · exact ⟨_, List.getElem?_eq_getElem (by rw [hl7]; omega)⟩
      · exact p.cc j hj
  · have hq := ct_r hu
    have hlen := (List.getElem?_eq_some_iff.1 hy).1
    rw [List.length_reverse, List.length_cons] at hlen
    rw [C _ (by omega), if_neg (by omega)]
    by_cases e : j = k.length
    · subst e
      rw [rev_top] at hy; cases hy
      rw [if_pos (by omega), show 2 + k.length * 7 + q - (2 + k.length * 7) = q by omega]
      exact hu
    · rw [rev_low c k (by omega)] at hy
      rw [if_neg (by omega)]
      exact p.t j y hy q u hu
/-- A cell's target set. -/
theorem PA.setX (p : PA w pb cb cells hg k h dead) {c : Nat} (hc : c < cells.length) (v : Int) : PA (w.setCell ⟨cb, c * 3 + 1, none⟩ (.int .u32 v)) pb cb (setX cells c v) hg k h dead := by
  have hS : Same [cb] w.heap.size w (w.setCell ⟨cb, c * 3 + 1, none⟩ (.int .u32 v)) := (Same.refl _ _ _).setCell (.inr (by simp)) _
  have hp : pb ∉ [cb] := by simp; exact p.ne
  have e : ∀ j, (w.setCell ⟨cb, c * 3 + 1, none⟩ (.int .u32 v)).cell? ⟨pb, j, none⟩ = w.cell? ⟨pb, j, none⟩ := fun j => hS.cell (p := ⟨pb, j, none⟩) p.lt hp
  refine ⟨by rw [e, setX_len]; exact p.s, by rw [e]; exact p.hi, fun j hj => by rw [e]; exact p.cc j hj, fun j => by rw [World.frozen?_setCell]; exact p.f j, fun j y hy q u hu => by rw [e]; exact p.t j y hy q u hu, by rw [e]; exact p.d, by rw [e]; exact p.hh, by rw [e]; exact p.de, ?_, p.ne, p.kl⟩
  rw [setX_len]
  exact p.B.setX hc v
/-- A cell more: the slice is written back. -/
theorem PA.emit (p : PA w pb cb cells hg k h dead) (i : Ins) (B2 : CB w' cb (cells ++ [i]) (max (max hg cells.length) (cells.length + 1))) (hS : Same [cb] w.heap.size w w') : PA (w'.setCell ⟨pb, 0, none⟩ (.slice (some ⟨cb, 0, none⟩) (cells.length + 1) 121)) pb cb (cells ++ [i]) hg k h dead := by
  have hp : pb ∉ [cb] := by simp; exact p.ne
  have e : ∀ j, w'.cell? ⟨pb, j, none⟩ = w.cell? ⟨pb, j, none⟩ := fun j => hS.cell (p := ⟨pb, j, none⟩) p.lt hp
  have A : ∀ j, (w'.setCell ⟨pb, 0, none⟩ (.slice (some ⟨cb, 0, none⟩) (cells.length + 1) 121)).cell? ⟨pb, j, none⟩ = if j = 0 then some (.slice (some ⟨cb, 0, none⟩) (cells.length + 1) 121) else w.cell? ⟨pb, j, none⟩ := fun j => by
    rw [cell_setCell]
    by_cases g : j = 0
    · subst g
      rw [if_pos ⟨rfl, rfl⟩, if_pos rfl, e, p.s]; rfl
    · rw [if_neg (by omega), if_neg g, e]
  have hl : (cells ++ [i]).length = cells.length + 1 := by simp
  refine ⟨by rw [A, if_pos rfl, hl], by rw [A, if_neg (by omega)]; exact p.hi, fun j hj => ?_, fun j => by rw [World.frozen?_setCell, hS.frozen (p := ⟨pb, j, none⟩) p.lt hp]; exact p.f j, fun j c hc r u hu => ?_, by rw [A, if_neg (by omega)]; exact p.d, by rw [A, if_neg (by omega)]; exact p.hh, by rw [A, if_neg (by omega)]; exact p.de, ?_, p.ne, p.kl⟩
  · rw [A]
    split
    · exact ⟨_, rfl⟩
    · exact p.cc j hj
  · rw [A, if_neg (by omega)]
    exact p.t j c hc r u hu
  · have : max (max hg cells.length) (cells.length + 1) = max hg (cells ++ [i]).length := by rw [hl]; omega
    rw [← this]
    exact B2.same (S := [pb]) (B := w'.heap.size) ((Same.refl _ _ _).setCell (.inr (by simp)) _) B2.lt (by simp; exact fun e => p.ne e.symm)
theorem PA.top {c : CT} {r : List CT} (p : PA w pb cb cells hg (c :: r) h dead) (q : Nat) (v : Value) (hv : (ctC c)[q]? = some v) : w.cell? ⟨pb, 2 + r.length * 7 + q, none⟩ = some v := p.t _ c (rev_top c r) q v hv
end
end Go.Proofs.Qxb6500317aGreat
