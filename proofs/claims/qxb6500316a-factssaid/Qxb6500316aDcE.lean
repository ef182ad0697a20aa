/-
  The scratch; the locals; a body.
-/
import Derived.Test.Qxb6500316aDcD
set_option linter.unusedSimpArgs false
set_option linter.unusedVariables false
set_option maxRecDepth 100000
set_option linter.unusedSectionVars false
namespace Go.Proofs.Qxb6500316a
open Go Go.Vc

def upd {α : Type} (f : Nat → α) (i : Nat) (x : α) : Nat → α := fun j => if j = i then x else f j

/-- What lies in the encoder's three fields: nothing of the decoder's touches them. -/
structure OutS where
  out : Value
  sec : Value
  fnb : Value
abbrev OutOf := Inhabited OutS
abbrev OutOf.out [I : OutOf] : Value := I.default.out
abbrev OutOf.sec [I : OutOf] : Value := I.default.sec
abbrev OutOf.fnb [I : OutOf] : Value := I.default.fnb
variable [OutOf]

/-- What the scratch holds. -/
structure Sc where
  types : Nat → Int
  nT : Nat
  opn : Nat → Int
  nO : Nat
  ins : Nat → Ins
  nI : Nat
  tabs : Nat → Int
  nTab : Nat

structure BinAt (w : World) (b bi bt : Nat) (c : Sc) : Prop where
  ty : ∀ j, j < 8 → w.cell? ⟨b, j, none⟩ = some (.int .i64 (c.types j))
  c8 : w.cell? ⟨b, 8, none⟩ = some (.int .i64 c.nT)
  op : ∀ j, j < 6 → w.cell? ⟨b, 9 + j, none⟩ = some (.int .u8 (c.opn j))
  c15 : w.cell? ⟨b, 15, none⟩ = some (.int .i64 c.nO)
  c16 : w.cell? ⟨b, 16, none⟩ = some (.slice (some ⟨bi, 0, none⟩) 96 96)
  c17 : w.cell? ⟨b, 17, none⟩ = some (.int .i64 c.nI)
  c18 : w.cell? ⟨b, 18, none⟩ = some (.slice (some ⟨bt, 0, none⟩) 24 24)
  c19 : w.cell? ⟨b, 19, none⟩ = some (.int .i64 c.nTab)
  i0 : ∀ j, j < 96 → w.cell? ⟨bi, j * 3, none⟩ = some (.int .u8 (c.ins j).op)
  i1 : ∀ j, j < 96 → w.cell? ⟨bi, j * 3 + 1, none⟩ = some (.int .u32 (c.ins j).x)
  i2 : ∀ j, j < 96 → w.cell? ⟨bi, j * 3 + 2, none⟩ = some (.int .u64 (c.ins j).y)
  tb : ∀ j, j < 24 → w.cell? ⟨bt, j, none⟩ = some (.int .u32 (c.tabs j))
  fb : ∀ j, w.frozen? ⟨b, j, none⟩ = false
  fi : ∀ j, w.frozen? ⟨bi, j, none⟩ = false
  ft : ∀ j, w.frozen? ⟨bt, j, none⟩ = false
  n1 : b ≠ bi
  n2 : b ≠ bt
  n3 : bi ≠ bt
  c20 : w.cell? ⟨b, 20, none⟩ = some OutOf.out
  c21 : w.cell? ⟨b, 21, none⟩ = some OutOf.sec
  c22 : w.cell? ⟨b, 22, none⟩ = some OutOf.fnb

section
variable {w w' : World} {b bi bt : Nat} {c : Sc}
theorem BinAt.ltb (h : BinAt w b bi bt c) : b < w.heap.size := cell_lt h.c8
theorem BinAt.lti (h : BinAt w b bi bt c) : bi < w.heap.size := cell_lt (h.i0 0 (by decide))
theorem BinAt.ltt (h : BinAt w b bi bt c) : bt < w.heap.size := cell_lt (h.tb 0 (by decide))
theorem BinAt.drew (h : BinAt w b bi bt c) : BinAt w.drew b bi bt c := ⟨h.ty, h.c8, h.op, h.c15, h.c16, h.c17, h.c18, h.c19, h.i0, h.i1, h.i2, h.tb, h.fb, h.fi, h.ft, h.n1, h.n2, h.n3, h.c20, h.c21, h.c22⟩
theorem BinAt.same (h : BinAt w b bi bt c) {S : List Nat} {B : Nat} (hs : Same S B w w') (lb : b < B) (li : bi < B) (lt : bt < B) (s1 : b ∉ S) (s2 : bi ∉ S) (s3 : bt ∉ S) : BinAt w' b bi bt c :=
  ⟨fun j hj => by rw [hs.cell lb s1]; exact h.ty j hj, by rw [hs.cell lb s1]; exact h.c8, fun j hj => by rw [hs.cell lb s1]; exact h.op j hj, by rw [hs.cell lb s1]; exact h.c15, by rw [hs.cell lb s1]; exact h.c16, by rw [hs.cell lb s1]; exact h.c17, by rw [hs.cell lb s1]; exact h.c18, by rw [hs.cell lb s1]; exact h.c19,
    fun j hj => by rw [hs.cell li s2]; exact h.i0 j hj, fun j hj => by rw [hs.cell li s2]; exact h.i1 j hj, fun j hj => by rw [hs.cell li s2]; exact h.i2 j hj, fun j hj => by rw [hs.cell lt s3]; exact h.tb j hj,
    fun j => by rw [hs.frozen lb s1]; exact h.fb j, fun j => by rw [hs.frozen li s2]; exact h.fi j, fun j => by rw [hs.frozen lt s3]; exact h.ft j, h.n1, h.n2, h.n3, by rw [hs.cell lb s1]; exact h.c20, by rw [hs.cell lb s1]; exact h.c21, by rw [hs.cell lb s1]; exact h.c22⟩
theorem BinAt.keep (h : BinAt w b bi bt c) {S : List Nat} (hs : Same S w.heap.size w w') (s1 : b ∉ S) (s2 : bi ∉ S) (s3 : bt ∉ S) : BinAt w' b bi bt c := h.same hs h.ltb h.lti h.ltt s1 s2 s3

theorem BinAt.setT (h : BinAt w b bi bt c) (n : Nat) : BinAt (w.setCell ⟨b, 8, none⟩ (.int .i64 (n : Int))) b bi bt { c with nT := n } := by
  have n1 := h.n1; have n2 := h.n2
  exact ⟨fun j hj => by rw [cell_setCell, if_neg (by omega)]; exact h.ty j hj, by rw [cell_setCell, if_pos ⟨rfl, rfl⟩, h.c8]; rfl, fun j hj => by rw [cell_setCell, if_neg (by omega)]; exact h.op j hj,
    by rw [cell_setCell, if_neg (by omega)]; exact h.c15, by rw [cell_setCell, if_neg (by omega)]; exact h.c16, by rw [cell_setCell, if_neg (by omega)]; exact h.c17, by rw [cell_setCell, if_neg (by omega)]; exact h.c18, by rw [cell_setCell, if_neg (by omega)]; exact h.c19,
    fun j hj => by rw [cell_setCell, if_neg (by omega)]; exact h.i0 j hj, fun j hj => by rw [cell_setCell, if_neg (by omega)]; exact h.i1 j hj, fun j hj => by rw [cell_setCell, if_neg (by omega)]; exact h.i2 j hj, fun j hj => by rw [cell_setCell, if_neg (by omega)]; exact h.tb j hj,
    fun j => by simpa using h.fb j, fun j => by simpa using h.fi j, fun j => by simpa using h.ft j, h.n1, h.n2, h.n3, by rw [cell_setCell, if_neg (by omega)]; exact h.c20, by rw [cell_setCell, if_neg (by omega)]; exact h.c21, by rw [cell_setCell, if_neg (by omega)]; exact h.c22⟩
theorem BinAt.setO (h : BinAt w b bi bt c) (n : Nat) : BinAt (w.setCell ⟨b, 15, none⟩ (.int .i64 (n : Int))) b bi bt { c with nO := n } := by
  have n1 := h.n1; have n2 := h.n2
  exact ⟨fun j hj => by rw [cell_setCell, if_neg (by omega)]; exact h.ty j hj, by rw [cell_setCell, if_neg (by omega)]; exact h.c8, fun j hj => by rw [cell_setCell, if_neg (by omega)]; exact h.op j hj,
    by rw [cell_setCell, if_pos ⟨rfl, rfl⟩, h.c15]; rfl, by rw [cell_setCell, if_neg (by omega)]; exact h.c16, by rw [cell_setCell, if_neg (by omega)]; exact h.c17, by rw [cell_setCell, if_neg (by omega)]; exact h.c18, by rw [cell_setCell, if_neg (by omega)]; exact h.c19,
    fun j hj => by rw [cell_setCell, if_neg (by omega)]; exact h.i0 j hj, fun j hj => by rw [cell_setCell, if_neg (by omega)]; exact h.i1 j hj, fun j hj => by rw [cell_setCell, if_neg (by omega)]; exact h.i2 j hj, fun j hj => by rw [cell_setCell, if_neg (by omega)]; exact h.tb j hj,
    fun j => by simpa using h.fb j, fun j => by simpa using h.fi j, fun j => by simpa using h.ft j, h.n1, h.n2, h.n3, by rw [cell_setCell, if_neg (by omega)]; exact h.c20, by rw [cell_setCell, if_neg (by omega)]; exact h.c21, by rw [cell_setCell, if_neg (by omega)]; exact h.c22⟩
theorem BinAt.setI (h : BinAt w b bi bt c) (n : Nat) : BinAt (w.setCell ⟨b, 17, none⟩ (.int .i64 (n : Int))) b bi bt { c with nI := n } := by
  have n1 := h.n1; have n2 := h.n2
  exact ⟨fun j hj => by rw [cell_setCell, if_neg (by omega)]; exact h.ty j hj, by rw [cell_setCell, if_neg (by omega)]; exact h.c8, fun j hj => by rw [cell_setCell, if_neg (by omega)]; exact h.op j hj,
    by rw [cell_setCell, if_neg (by omega)]; exact h.c15, by rw [cell_setCell, if_neg (by omega)]; exact h.c16, by rw [cell_setCell, if_pos ⟨rfl, rfl⟩, h.c17]; rfl, by rw [cell_setCell, if_neg (by omega)]; exact h.c18, by rw [cell_setCell, if_neg (by omega)]; exact h.c19,
    fun j hj => by rw [cell_setCell, if_neg (by omega)]; exact h.i0 j hj, fun j hj => by rw [cell_setCell, if_neg (by omega)]; exact h.i1 j hj, fun j hj => by rw [cell_setCell, if_neg (by omega)]; exact h.i2 j hj, fun j hj => by rw [cell_setCell, if_neg (by omega)]; exact h.tb j hj,
    fun j => by simpa using h.fb j, fun j => by simpa using h.fi j, fun j => by simpa using h.ft j, h.n1, h.n2, h.n3, by rw [cell_setCell, if_neg (by omega)]; exact h.c20, by rw [cell_setCell, if_neg (by omega)]; exact h.c21, by rw [cell_setCell, if_neg (by omega)]; exact h.c22⟩
theorem BinAt.setB (h : BinAt w b bi bt c) (n : Nat) : BinAt (w.setCell ⟨b, 19, none⟩ (.int .i64 (n : Int))) b bi bt { c with nTab := n } := by
  have n1 := h.n1; have n2 := h.n2
  exact ⟨fun j hj => by rw [cell_setCell, if_neg (by omega)]; exact h.ty j hj, by rw [cell_setCell, if_neg (by omega)]; exact h.c8, fun j hj => by rw [cell_setCell, if_neg (by omega)]; exact h.op j hj,
    by rw [cell_setCell, if_neg (by omega)]; exact h.c15, by rw [cell_setCell, if_neg (by omega)]; exact h.c16, by rw [cell_setCell, if_neg (by omega)]; exact h.c17, by rw [cell_setCell, if_neg (by omega)]; exact h.c18, by rw [cell_setCell, if_pos ⟨rfl, rfl⟩, h.c19]; rfl,
    fun j hj => by rw [cell_setCell, if_neg (by omega)]; exact h.i0 j hj, fun j hj => by rw [cell_setCell, if_neg (by omega)]; exact h.i1 j hj, fun j hj => by rw [cell_setCell, if_neg (by omega)]; exact h.i2 j hj, fun j hj => by rw [cell_setCell, if_neg (by omega)]; exact h.tb j hj,
    fun j => by simpa using h.fb j, fun j => by simpa using h.fi j, fun j => by simpa using h.ft j, h.n1, h.n2, h.n3, by rw [cell_setCell, if_neg (by omega)]; exact h.c20, by rw [cell_setCell, if_neg (by omega)]; exact h.c21, by rw [cell_setCell, if_neg (by omega)]; exact h.c22⟩
theorem BinAt.setTy (h : BinAt w b bi bt c) (k : Nat) (hk : k < 8) (x : Int) : BinAt (w.setCell ⟨b, k, none⟩ (.int .i64 x)) b bi bt { c with types := upd c.types k x } := by
  have n1 := h.n1; have n2 := h.n2
  refine ⟨fun j hj => ?_, by rw [cell_setCell, if_neg (by omega)]; exact h.c8, fun j hj => by rw [cell_setCell, if_neg (by omega)]; exact h.op j hj,
    by rw [cell_setCell, if_neg (by omega)]; exact h.c15, by rw [cell_setCell, if_neg (by omega)]; exact h.c16, by rw [cell_setCell, if_neg (by omega)]; exact h.c17, by rw [cell_setCell, if_neg (by omega)]; exact h.c18, by rw [cell_setCell, if_neg (by omega)]; exact h.c19,
    fun j hj => by rw [cell_setCell, if_neg (by omega)]; exact h.i0 j hj, fun j hj => by rw [cell_setCell, if_neg (by omega)]; exact h.i1 j hj, fun j hj => by rw [cell_setCell, if_neg (by omega)]; exact h.i2 j hj, fun j hj => by rw [cell_setCell, if_neg (by omega)]; exact h.tb j hj,
    fun j => by simpa using h.fb j, fun j => by simpa using h.fi j, fun j => by simpa using h.ft j, h.n1, h.n2, h.n3, by rw [cell_setCell, if_neg (by omega)]; exact h.c20, by rw [cell_setCell, if_neg (by omega)]; exact h.c21, by rw [cell_setCell, if_neg (by omega)]; exact h.c22⟩
  rw [cell_setCell]
  show _ = some (Value.int .i64 (upd c.types k x j))
  unfold upd
  by_cases hjk : j = k
  · rw [if_pos ⟨rfl, hjk⟩, if_pos hjk, h.ty j hj]; rfl
  · rw [if_neg (by omega), if_neg hjk]; exact h.ty j hj
theorem BinAt.setOp (h : BinAt w b bi bt c) (k : Nat) (hk : k < 6) (x : Int) : BinAt (w.setCell ⟨b, 9 + k, none⟩ (.int .u8 x)) b bi bt { c with opn := upd c.opn k x } := by
  have n1 := h.n1; have n2 := h.n2
  refine ⟨fun j hj => by rw [cell_setCell, if_neg (by omega)]; exact h.ty j hj, by rw [cell_setCell, if_neg (by omega)]; exact h.c8, fun j hj => ?_,
    by rw [cell_setCell, if_neg (by omega)]; exact h.c15, by rw [cell_setCell, if_neg (by omega)]; exact h.c16, by rw [cell_setCell, if_neg (by omega)]; exact h.c17, by rw [cell_setCell, if_neg (by omega)]; exact h.c18, by rw [cell_setCell, if_neg (by omega)]; exact h.c19,
    fun j hj => by rw [cell_setCell, if_neg (by omega)]; exact h.i0 j hj, fun j hj => by rw [cell_setCell, if_neg (by omega)]; exact h.i1 j hj, fun j hj => by rw [cell_setCell, if_neg (by omega)]; exact h.i2 j hj, fun j hj => by rw [cell_setCell, if_neg (by omega)]; exact h.tb j hj,
    fun j => by simpa using h.fb j, fun j => by simpa using h.fi j, fun j => by simpa using h.ft j, h.n1, h.n2, h.n3, by rw [cell_setCell, if_neg (by omega)]; exact h.c20, by rw [cell_setCell, if_neg (by omega)]; exact h.c21, by rw [cell_setCell, if_neg (by omega)]; exact h.c22⟩
  rw [cell_setCell]
  show _ = some (Value.int .u8 (upd c.opn k x j))
  unfold upd
  by_cases hjk : j = k
  · rw [if_pos ⟨rfl, by omega⟩, if_pos hjk, h.op j hj]; rfl
  · rw [if_neg (by omega), if_neg hjk]; exact h.op j hj
theorem BinAt.can (h : BinAt w b bi bt c) (k : Nat) (hk : k < 20) : can w ⟨b, k, none⟩ := by
  refine ⟨?_, h.fb k⟩
  have : k < 8 ∨ k = 8 ∨ (9 ≤ k ∧ k < 15) ∨ k = 15 ∨ k = 16 ∨ k = 17 ∨ k = 18 ∨ k = 19 := by omega
  rcases this with g | rfl | g | rfl | rfl | rfl | rfl | rfl
  · exact ⟨_, h.ty k g⟩
  · exact ⟨_, h.c8⟩
  · obtain ⟨j, rfl⟩ : ∃ j, k = 9 + j := ⟨k - 9, by omega⟩
    exact ⟨_, h.op j (by omega)⟩
  · exact ⟨_, h.c15⟩
  · exact ⟨_, h.c16⟩
  · exact ⟨_, h.c17⟩
  · exact ⟨_, h.c18⟩
  · exact ⟨_, h.c19⟩
theorem BinAt.cani (h : BinAt w b bi bt c) (k : Nat) (hk : k < 288) : Vc.can w ⟨bi, k, none⟩ := by
  refine ⟨?_, h.fi k⟩
  have e : k = k / 3 * 3 + k % 3 := by omega
  have hr : k % 3 = 0 ∨ k % 3 = 1 ∨ k % 3 = 2 := by omega
  rcases hr with g | g | g
  · rw [g] at e; rw [e]; exact ⟨_, h.i0 (k / 3) (by omega)⟩
  · rw [g] at e; rw [e]; exact ⟨_, h.i1 (k / 3) (by omega)⟩
  · rw [g] at e; rw [e]; exact ⟨_, h.i2 (k / 3) (by omega)⟩
/-- An instruction is laid into the scratch. -/
theorem BinAt.putIns (h : BinAt w b bi bt c) (k : Nat) (hk : k < 96) (i : Ins) {K : World → Prop} (hK : ∀ w', BinAt w' b bi bt { c with ins := upd c.ins k i } → (∀ B, Same [bi] B w w') → K w') :
    putCells w ⟨bi, k * 3, none⟩ [.int .u8 i.op, .int .u32 i.x, .int .u64 i.y] K := by
  have n1 := h.n1; have n2 := h.n2; have n3 := h.n3
  refine putCells_intro bi _ (k * 3) w K (fun j hj => h.cani _ (by simp at hj; omega)) (fun w' hF => hK w' ?_ hF.same)
  have other : ∀ b' j, b' ≠ bi → w'.cell? ⟨b', j, none⟩ = w.cell? ⟨b', j, none⟩ := fun b' j hb => by rw [hF.cell, if_neg (by intro g; exact hb g.1)]
  have fz : ∀ b' j, w'.frozen? ⟨b', j, none⟩ = w.frozen? ⟨b', j, none⟩ := fun b' j => hF.frozen _
  refine ⟨fun j hj => by rw [other b j n1]; exact h.ty j hj, by rw [other b _ n1]; exact h.c8, fun j hj => by rw [other b _ n1]; exact h.op j hj, by rw [other b _ n1]; exact h.c15, by rw [other b _ n1]; exact h.c16, by rw [other b _ n1]; exact h.c17, by rw [other b _ n1]; exact h.c18, by rw [other b _ n1]; exact h.c19,
    fun j hj => ?_, fun j hj => ?_, fun j hj => ?_, fun j hj => by rw [other bt j (fun g => n3 g.symm)]; exact h.tb j hj, fun j => by rw [fz]; exact h.fb j, fun j => by rw [fz]; exact h.fi j, fun j => by rw [fz]; exact h.ft j, n1, n2, n3, by rw [other b _ n1]; exact h.c20, by rw [other b _ n1]; exact h.c21, by rw [other b _ n1]; exact h.c22⟩
  · rw [hF.cell]
    show _ = some (Value.int .u8 (upd c.ins k i j).op)
    unfold upd
    by_cases hjk : j = k
    · subst hjk; rw [if_pos ⟨rfl, by omega, by simp⟩, if_pos rfl, Nat.sub_self]; rfl
    · rw [if_neg (by simp; omega), if_neg hjk]; exact h.i0 j hj
  · rw [hF.cell]
    show _ = some (Value.int .u32 (upd c.ins k i j).x)
    unfold upd
    by_cases hjk : j = k
    · subst hjk; rw [if_pos ⟨rfl, by omega, by simp⟩, if_pos rfl, Nat.add_sub_cancel_left]; rfl
    · rw [if_neg (by simp; omega), if_neg hjk]; exact h.i1 j hj
  · rw [hF.cell]
    show _ = some (Value.int .u64 (upd c.ins k i j).y)
    unfold upd
    by_cases hjk : j = k
    · subst hjk; rw [if_pos ⟨rfl, by omega, by simp⟩, if_pos rfl, Nat.add_sub_cancel_left]; rfl
    · rw [if_neg (by simp; omega), if_neg hjk]; exact h.i2 j hj
end

end Go.Proofs.Qxb6500316a
