/-
  A script in memory.
-/
import Derived.Test.Qxb6500317aGreatDcC
set_option linter.unusedSimpArgs false
set_option linter.unusedVariables false
set_option maxRecDepth 100000
namespace Go.Proofs.Qxb6500317aGreat
open Go Go.Vc

/-- A step of the script. -/
structure OpV where
  kind : Int
  a : Int
  b : Int
  c : Int
  s : ByteArray
  t : ByteArray

def OpV.val (o : OpV) : Value := .agg #[.int .i64 o.kind, .int .i64 o.a, .int .i64 o.b, .int .i64 o.c, .string o.s, .string o.t]

structure OpV.In (o : OpV) : Prop where
  a : o.a ≤ 9223372036854775807
  b : o.b ≤ 9223372036854775807
  s : o.s.size ≤ 9223372036854775807

structure OpAt (w : World) (b : Nat) (o : OpV) : Prop where
  c0 : w.cell? ⟨b, 0, none⟩ = some (.int .i64 o.kind)
  c1 : w.cell? ⟨b, 1, none⟩ = some (.int .i64 o.a)
  c2 : w.cell? ⟨b, 2, none⟩ = some (.int .i64 o.b)
  c3 : w.cell? ⟨b, 3, none⟩ = some (.int .i64 o.c)
  c4 : w.cell? ⟨b, 4, none⟩ = some (.string o.s)
  c5 : w.cell? ⟨b, 5, none⟩ = some (.string o.t)

theorem OpAt.lt {w : World} {b : Nat} {o : OpV} (h : OpAt w b o) : b < w.heap.size := cell_lt h.c0
theorem OpAt.same {w w' : World} {b : Nat} {o : OpV} (h : OpAt w b o) {S : List Nat} {B : Nat} (hs : Same S B w w') (hb : b < B) (hS : b ∉ S) : OpAt w' b o :=
  ⟨by rw [hs.cell hb hS]; exact h.c0, by rw [hs.cell hb hS]; exact h.c1, by rw [hs.cell hb hS]; exact h.c2, by rw [hs.cell hb hS]; exact h.c3, by rw [hs.cell hb hS]; exact h.c4, by rw [hs.cell hb hS]; exact h.c5⟩
theorem OpAt.drew {w : World} {b : Nat} {o : OpV} (h : OpAt w b o) : OpAt w.drew b o := ⟨h.c0, h.c1, h.c2, h.c3, h.c4, h.c5⟩
theorem OpAt.new (w : World) (o : OpV) (t : TypeId) : OpAt (w.alloc (.cells #[.int .i64 o.kind, .int .i64 o.a, .int .i64 o.b, .int .i64 o.c, .string o.s, .string o.t] t)) w.heap.size o :=
  ⟨by rw [World.cell?_alloc_new]; rfl, by rw [World.cell?_alloc_new]; rfl, by rw [World.cell?_alloc_new]; rfl, by rw [World.cell?_alloc_new]; rfl, by rw [World.cell?_alloc_new]; rfl, by rw [World.cell?_alloc_new]; rfl⟩

/-- A step lies in six cells. -/
structure OpCells (w : World) (b off : Nat) (o : OpV) : Prop where
  c0 : w.cell? ⟨b, off, none⟩ = some (.int .i64 o.kind)
  c1 : w.cell? ⟨b, off + 1, none⟩ = some (.int .i64 o.a)
  c2 : w.cell? ⟨b, off + 2, none⟩ = some (.int .i64 o.b)
  c3 : w.cell? ⟨b, off + 3, none⟩ = some (.int .i64 o.c)
  c4 : w.cell? ⟨b, off + 4, none⟩ = some (.string o.s)
  c5 : w.cell? ⟨b, off + 5, none⟩ = some (.string o.t)

theorem OpCells.same {w w' : World} {b off : Nat} {o : OpV} (h : OpCells w b off o) (hs : Same [] w.heap.size w w') : OpCells w' b off o := by
  have hb : b < w.heap.size := cell_lt h.c0
  exact ⟨by rw [hs.cell hb (by simp)]; exact h.c0, by rw [hs.cell hb (by simp)]; exact h.c1, by rw [hs.cell hb (by simp)]; exact h.c2, by rw [hs.cell hb (by simp)]; exact h.c3, by rw [hs.cell hb (by simp)]; exact h.c4, by rw [hs.cell hb (by simp)]; exact h.c5⟩

structure OpV.Full (o : OpV) : Prop where
  k0 : -9223372036854775808 ≤ o.kind
  k1 : o.kind ≤ 9223372036854775807
  a0 : -9223372036854775808 ≤ o.a
  a1 : o.a ≤ 9223372036854775807
  b0 : -9223372036854775808 ≤ o.b
  b1 : o.b ≤ 9223372036854775807
  c0 : -9223372036854775808 ≤ o.c
  c1 : o.c ≤ 9223372036854775807
  s : o.s.size ≤ 9223372036854775807
  t : o.t.size ≤ 9223372036854775807

theorem OpV.Full.In {o : OpV} (h : o.Full) : o.In := ⟨h.a1, h.b1, h.s⟩

/-- A script of len steps that lies in memory. -/
def ScriptAt (w : World) (a : Option Addr) (len : Nat) : Prop :=
  len = 0 ∨ ∃ b off, a = some ⟨b, off, none⟩ ∧ ∀ i, i < len → ∃ o : OpV, o.Full ∧ OpCells w b (off + i * 6) o



theorem OpAt.fill {w w' : World} {b : Nat} (o : OpV) (hF : Fill w w' b 0 [.int .i64 o.kind, .int .i64 o.a, .int .i64 o.b, .int .i64 o.c, .string o.s, .string o.t]) : OpAt w' b o :=
  ⟨by rw [hF.cell, if_pos (by simp)]; rfl, by rw [hF.cell, if_pos (by simp)]; rfl, by rw [hF.cell, if_pos (by simp)]; rfl, by rw [hF.cell, if_pos (by simp)]; rfl, by rw [hF.cell, if_pos (by simp)]; rfl, by rw [hF.cell, if_pos (by simp)]; rfl⟩

end Go.Proofs.Qxb6500317aGreat
