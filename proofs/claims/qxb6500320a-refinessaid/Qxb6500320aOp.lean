/-
  Steps of a script and answers, as records in memory.
-/
import Derived.Test.Qxb6500320aGen
import Derived.Laws.StructEq
set_option linter.unusedSimpArgs false
set_option linter.unusedVariables false
set_option maxRecDepth 100000
namespace Go.Proofs.Qxb6500320a
open Go Go.Vc

def eps : ByteArray := ⟨#[]⟩
theorem cell_setCell (w : World) (b i b' j : Nat) (v : Value) : (w.setCell ⟨b, i, none⟩ v).cell? ⟨b', j, none⟩ = if b' = b ∧ j = i then (w.cell? ⟨b', j, none⟩).map (fun _ => v) else w.cell? ⟨b', j, none⟩ := by
  by_cases h : b' = b ∧ j = i
  · obtain ⟨rfl, rfl⟩ := h
    rw [if_pos ⟨rfl, rfl⟩]
    cases hc : w.cell? ⟨b', j, none⟩ with
    | none =>
      simp only [World.setCell, World.cell?, Array.getElem?_modify, if_true] at hc ⊢
      cases hh : w.heap[b']? with
      | none => simp [hh]
      | some o =>
        cases o <;> simp_all
    | some u => simp [World.cell?_setCell_same w _ v hc]
  · rw [if_neg h, World.cell?_setCell_other w _ _ v (by intro he; simp at he; exact h ⟨he.1.symm, he.2.symm⟩)]

/-- In w' the cells of block b from o on hold vs; all else is as in w. -/
structure Fill (w w' : World) (b o : Nat) (vs : List Value) : Prop where
  cell : ∀ b' j, w'.cell? ⟨b', j, none⟩ = if b' = b ∧ o ≤ j ∧ j < o + vs.length then vs[j - o]? else w.cell? ⟨b', j, none⟩
  frozen : ∀ a, w'.frozen? a = w.frozen? a
  same : ∀ B, Same [b] B w w'

/-! ### Records -/
theorem putCells_intro (b : Nat) : ∀ (vs : List Value) (o : Nat) (w : World) (K : World → Prop), (∀ j, j < vs.length → can w ⟨b, o + j, none⟩) → (∀ w', Fill w w' b o vs → K w') → putCells w ⟨b, o, none⟩ vs K
  | [], o, w, K, _, hK => hK w ⟨fun b' j => by rw [if_neg (by simp <;> omega)], fun _ => rfl, fun B => Same.refl _ _ _⟩
  | v :: vs, o, w, K, hc, hK => by
    have hc0 := hc 0 (by simp)
    rw [Nat.add_zero] at hc0
    obtain ⟨⟨u, hu⟩, hf⟩ := hc0
    refine ⟨⟨⟨u, hu⟩, hf⟩, putCells_intro b vs (o + 1) _ K (fun j hj => ?_) (fun w' hF => hK w' ⟨?_, fun a => by rw [hF.frozen]; simp, fun B => ((Same.refl _ _ _).setCell (.inr (by simp)) _).trans (hF.same B)⟩)⟩
    · obtain ⟨⟨x, hx⟩, hfx⟩ := hc (j + 1) (by simp; omega)
      refine ⟨⟨x, ?_⟩, by simpa [show o + 1 + j = o + (j + 1) by omega] using hfx⟩
      rw [cell_setCell, if_neg (by omega), show o + 1 + j = o + (j + 1) by omega, hx]
    · intro b' j
      rw [hF.cell, cell_setCell]
      simp only [List.length_cons]
      by_cases hb : b' = b
      · subst hb
        by_cases hj : j = o
        · subst hj
          rw [if_neg (by omega), if_pos ⟨rfl, rfl⟩, if_pos (by omega), hu]
          simp
        · by_cases hin : o + 1 ≤ j ∧ j < o + 1 + vs.length
          · rw [if_pos ⟨rfl, hin⟩, if_pos (by omega)]
            have : j - o = (j - (o + 1)) + 1 := by omega
            rw [this]; simp
          · rw [if_neg (by omega), if_neg (by omega), if_neg (by omega)]
      · rw [if_neg (by simp [hb]), if_neg (by simp [hb]), if_neg (by simp [hb])]

/-- An answer stands in block b. -/
structure AnsAt (w : World) (b : Nat) (e n : Int) (s : ByteArray) : Prop where
  c0 : w.cell? ⟨b, 0, none⟩ = some (.int .i64 e)
  c1 : w.cell? ⟨b, 1, none⟩ = some (.int .i64 n)
  c2 : w.cell? ⟨b, 2, none⟩ = some (.int .i64 0)
  c3 : w.cell? ⟨b, 3, none⟩ = some (.string s)
  f : ∀ j, w.frozen? ⟨b, j, none⟩ = false

def ansV (e n : Int) (s : ByteArray) : Value := .agg #[.int .i64 e, .int .i64 n, .int .i64 0, .string s]

theorem AnsAt.lt {w : World} {b : Nat} {e n : Int} {s : ByteArray} (h : AnsAt w b e n s) : b < w.heap.size := cell_lt h.c0

theorem AnsAt.same {w w' : World} {b : Nat} {e n : Int} {s : ByteArray} (h : AnsAt w b e n s) {S : List Nat} {B : Nat} (hs : Same S B w w') (hb : b < B) (hS : b ∉ S) : AnsAt w' b e n s :=
  ⟨by rw [hs.cell hb hS]; exact h.c0, by rw [hs.cell hb hS]; exact h.c1, by rw [hs.cell hb hS]; exact h.c2, by rw [hs.cell hb hS]; exact h.c3, fun j => by rw [hs.frozen hb hS]; exact h.f j⟩

theorem AnsAt.can {w : World} {b : Nat} {e n : Int} {s : ByteArray} (h : AnsAt w b e n s) (j : Nat) (hj : j < 4) : can w ⟨b, j, none⟩ := by
  refine ⟨?_, h.f j⟩
  have : j = 0 ∨ j = 1 ∨ j = 2 ∨ j = 3 := by omega
  rcases this with rfl | rfl | rfl | rfl
  · exact ⟨_, h.c0⟩
  · exact ⟨_, h.c1⟩
  · exact ⟨_, h.c2⟩
  · exact ⟨_, h.c3⟩

theorem AnsAt.put {w w' : World} {b : Nat} {e n : Int} {s : ByteArray} (h : AnsAt w b e n s) {e' n' : Int} {s' : ByteArray} (hF : Fill w w' b 0 [.int .i64 e', .int .i64 n', .int .i64 0, .string s']) : AnsAt w' b e' n' s' :=
  ⟨by rw [hF.cell, if_pos (by simp)]; rfl, by rw [hF.cell, if_pos (by simp)]; rfl, by rw [hF.cell, if_pos (by simp)]; rfl, by rw [hF.cell, if_pos (by simp)]; rfl, fun j => by rw [hF.frozen]; exact h.f j⟩

theorem AnsAt.put_intro {w : World} {b : Nat} {e n : Int} {s : ByteArray} (h : AnsAt w b e n s) {e' n' : Int} {s' : ByteArray} {K : World → Prop} (hK : ∀ w', AnsAt w' b e' n' s' → (∀ B, Same [b] B w w') → K w') :
    putCells w ⟨b, 0, none⟩ [.int .i64 e', .int .i64 n', .int .i64 0, .string s'] K :=
  putCells_intro b _ 0 w K (fun j hj => by rw [Nat.zero_add]; exact h.can j (by simpa using hj)) (fun w' hF => hK w' (h.put hF) hF.same)

/-- An answer is laid down and handed back. -/
theorem AnsAt.ret {w : World} {b : Nat} {e n : Int} {s : ByteArray} (h : AnsAt w b e n s) {e' n' : Int} {s' : ByteArray} {R : Value → World → Prop} (hR : ∀ w', (∀ B, Same [b] B w w') → R (ansV e' n' s') w') :
    putCells w ⟨b, 0, none⟩ [.int .i64 e', .int .i64 n', .int .i64 0, .string s'] fun w1 => ((∃ x2 : Int, ∃ x3 : Int, ∃ x4 : Int, ∃ x5 : ByteArray, World.cell? w1 ⟨b, 0, none⟩ = some (.int .i64 x2) ∧ World.cell? w1 ⟨b, 1, none⟩ = some (.int .i64 x3) ∧ World.cell? w1 ⟨b, 2, none⟩ = some (.int .i64 x4) ∧ World.cell? w1 ⟨b, 3, none⟩ = some (.string x5) ∧ R (.agg #[(.int .i64 x2), (.int .i64 x3), (.int .i64 x4), (.string x5)]) w1)) :=
  h.put_intro (fun w' ha hs => ⟨_, _, _, _, ha.c0, ha.c1, ha.c2, ha.c3, hR w' hs⟩)

theorem AnsAt.new (w : World) (t : TypeId) : AnsAt (w.alloc (.cells #[.int .i64 0, .int .i64 0, .int .i64 0, .string ⟨#[]⟩] t)) w.heap.size 0 0 ⟨#[]⟩ :=
  ⟨by rw [World.cell?_alloc_new]; rfl, by rw [World.cell?_alloc_new]; rfl, by rw [World.cell?_alloc_new]; rfl, by rw [World.cell?_alloc_new]; rfl, fun j => by rw [World.frozen?_alloc_new]⟩

theorem AnsAt.sete {w : World} {b : Nat} {e n : Int} {s : ByteArray} (h : AnsAt w b e n s) (e' : Int) : AnsAt (w.setCell ⟨b, 0, none⟩ (.int .i64 e')) b e' n s :=
  ⟨by rw [cell_set _ _ _ _ _ h.c0]; rfl, by rw [cell_set _ _ _ _ _ h.c1]; rfl, by rw [cell_set _ _ _ _ _ h.c2]; rfl, by rw [cell_set _ _ _ _ _ h.c3]; rfl, fun j => by simpa using h.f j⟩
theorem AnsAt.setn {w : World} {b : Nat} {e n : Int} {s : ByteArray} (h : AnsAt w b e n s) (n' : Int) : AnsAt (w.setCell ⟨b, 1, none⟩ (.int .i64 n')) b e n' s :=
  ⟨by rw [cell_set _ _ _ _ _ h.c0]; rfl, by rw [cell_set _ _ _ _ _ h.c1]; rfl, by rw [cell_set _ _ _ _ _ h.c2]; rfl, by rw [cell_set _ _ _ _ _ h.c3]; rfl, fun j => by simpa using h.f j⟩
theorem AnsAt.sets {w : World} {b : Nat} {e n : Int} {s : ByteArray} (h : AnsAt w b e n s) (s' : ByteArray) : AnsAt (w.setCell ⟨b, 3, none⟩ (.string s')) b e n s' :=
  ⟨by rw [cell_set _ _ _ _ _ h.c0]; rfl, by rw [cell_set _ _ _ _ _ h.c1]; rfl, by rw [cell_set _ _ _ _ _ h.c2]; rfl, by rw [cell_set _ _ _ _ _ h.c3]; rfl, fun j => by simpa using h.f j⟩

/-- A step of the script. -/
structure OpV where
  kind : Int
  a : Int
  b : Int
  c : Int
  s : ByteArray
  t : ByteArray

def OpV.val (o : OpV) : Value := .agg #[.int .i64 o.kind, .int .i64 o.a, .int .i64 o.b, .int .i64 o.c, .string o.s, .string o.t]

structure OpV.In (o : OpV) : Prop where
  a : o.a ≤ 9223372036854775807
  b : o.b ≤ 9223372036854775807
  s : o.s.size ≤ 9223372036854775807

structure OpAt (w : World) (b : Nat) (o : OpV) : Prop where
  c0 : w.cell? ⟨b, 0, none⟩ = some (.int .i64 o.kind)
  c1 : w.cell? ⟨b, 1, none⟩ = some (.int .i64 o.a)
  c2 : w.cell? ⟨b, 2, none⟩ = some (.int .i64 o.b)
  c3 : w.cell? ⟨b, 3, none⟩ = some (.int .i64 o.c)
  c4 : w.cell? ⟨b, 4, none⟩ = some (.string o.s)
  c5 : w.cell? ⟨b, 5, none⟩ = some (.string o.t)

theorem OpAt.lt {w : World} {b : Nat} {o : OpV} (h : OpAt w b o) : b < w.heap.size := cell_lt h.c0
theorem OpAt.same {w w' : World} {b : Nat} {o : OpV} (h : OpAt w b o) {S : List Nat} {B : Nat} (hs : Same S B w w') (hb : b < B) (hS : b ∉ S) : OpAt w' b o :=
  ⟨by rw [hs.cell hb hS]; exact h.c0, by rw [hs.cell hb hS]; exact h.c1, by rw [hs.cell hb hS]; exact h.c2, by rw [hs.cell hb hS]; exact h.c3, by rw [hs.cell hb hS]; exact h.c4, by rw [hs.cell hb hS]; exact h.c5⟩
theorem OpAt.drew {w : World} {b : Nat} {o : OpV} (h : OpAt w b o) : OpAt w.drew b o := ⟨h.c0, h.c1, h.c2, h.c3, h.c4, h.c5⟩
theorem AnsAt.drew {w : World} {b : Nat} {e n : Int} {s : ByteArray} (h : AnsAt w b e n s) : AnsAt w.drew b e n s := ⟨h.c0, h.c1, h.c2, h.c3, h.f⟩
theorem OpAt.new (w : World) (o : OpV) (t : TypeId) : OpAt (w.alloc (.cells #[.int .i64 o.kind, .int .i64 o.a, .int .i64 o.b, .int .i64 o.c, .string o.s, .string o.t] t)) w.heap.size o :=
  ⟨by rw [World.cell?_alloc_new]; rfl, by rw [World.cell?_alloc_new]; rfl, by rw [World.cell?_alloc_new]; rfl, by rw [World.cell?_alloc_new]; rfl, by rw [World.cell?_alloc_new]; rfl, by rw [World.cell?_alloc_new]; rfl⟩

/-- A step lies in six cells. -/
structure OpCells (w : World) (b off : Nat) (o : OpV) : Prop where
  c0 : w.cell? ⟨b, off, none⟩ = some (.int .i64 o.kind)
  c1 : w.cell? ⟨b, off + 1, none⟩ = some (.int .i64 o.a)
  c2 : w.cell? ⟨b, off + 2, none⟩ = some (.int .i64 o.b)
  c3 : w.cell? ⟨b, off + 3, none⟩ = some (.int .i64 o.c)
  c4 : w.cell? ⟨b, off + 4, none⟩ = some (.string o.s)
  c5 : w.cell? ⟨b, off + 5, none⟩ = some (.string o.t)

theorem OpCells.same {w w' : World} {b off : Nat} {o : OpV} (h : OpCells w b off o) (hs : Same [] w.heap.size w w') : OpCells w' b off o := by
  have hb : b < w.heap.size := cell_lt h.c0
  exact ⟨by rw [hs.cell hb (by simp)]; exact h.c0, by rw [hs.cell hb (by simp)]; exact h.c1, by rw [hs.cell hb (by simp)]; exact h.c2, by rw [hs.cell hb (by simp)]; exact h.c3, by rw [hs.cell hb (by simp)]; exact h.c4, by rw [hs.cell hb (by simp)]; exact h.c5⟩

structure OpV.Full (o : OpV) : Prop where
  k0 : -9223372036854775808 ≤ o.kind
  k1 : o.kind ≤ 9223372036854775807
  a0 : -9223372036854775808 ≤ o.a
  a1 : o.a ≤ 9223372036854775807
  b0 : -9223372036854775808 ≤ o.b
  b1 : o.b ≤ 9223372036854775807
  c0 : -9223372036854775808 ≤ o.c
  c1 : o.c ≤ 9223372036854775807
  s : o.s.size ≤ 9223372036854775807
  t : o.t.size ≤ 9223372036854775807

theorem OpV.Full.In {o : OpV} (h : o.Full) : o.In := ⟨h.a1, h.b1, h.s⟩

/-- A script of len steps that lies in memory. -/
def ScriptAt (w : World) (a : Option Addr) (len : Nat) : Prop :=
  len = 0 ∨ ∃ b off, a = some ⟨b, off, none⟩ ∧ ∀ i, i < len → ∃ o : OpV, o.Full ∧ OpCells w b (off + i * 6) o


end Go.Proofs.Qxb6500320a
