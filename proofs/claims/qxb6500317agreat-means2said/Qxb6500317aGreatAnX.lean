/-
  Answers and steps in memory.
-/
import Derived.Test.Qxb6500317aGreatWoA
import Derived.Laws.StructEq
set_option linter.unusedSimpArgs false
set_option linter.unusedVariables false
set_option maxRecDepth 100000
set_option linter.unusedSectionVars false
set_option maxHeartbeats 1000000
namespace Go.Proofs.Qxb6500317aGreat
open Go Go.Vc
section
variable {w w' : World}
/-- An answer in memory. -/
structure AnA (w : World) (a : Nat) (e n k : Int) (s : ByteArray) : Prop where
  c0 : w.cell? ⟨a, 0, none⟩ = some (.int .i64 e)
  c1 : w.cell? ⟨a, 1, none⟩ = some (.int .i64 n)
  c2 : w.cell? ⟨a, 2, none⟩ = some (.int .i64 k)
  c3 : w.cell? ⟨a, 3, none⟩ = some (.string s)
  f : ∀ j, w.frozen? ⟨a, j, none⟩ = false
variable {a : Nat} {e n k : Int} {s : ByteArray}
theorem AnA.lt (h : AnA w a e n k s) : a < w.heap.size := cell_lt h.c0
theorem AnA.same (h : AnA w a e n k s) {S : List Nat} {B : Nat} (hs : Same S B w w') (hb : a < B) (hS : a ∉ S) : AnA w' a e n k s :=
  ⟨by rw [hs.cell hb hS]; exact h.c0, by rw [hs.cell hb hS]; exact h.c1, by rw [hs.cell hb hS]; exact h.c2, by rw [hs.cell hb hS]; exact h.c3, fun j => by rw [hs.frozen hb hS]; exact h.f j⟩
theorem AnA.set0 (h : AnA w a e n k s) (x : Int) : AnA (w.setCell ⟨a, 0, none⟩ (.int .i64 x)) a x n k s :=
  ⟨by rw [cell_setCell, if_pos ⟨rfl, rfl⟩, h.c0]; rfl, by rw [cell_setCell, if_neg (by omega)]; exact h.c1, by rw [cell_setCell, if_neg (by omega)]; exact h.c2, by rw [cell_setCell, if_neg (by omega)]; exact h.c3, fun j => by rw [World.frozen?_setCell]; exact h.f j⟩
theorem AnA.set1 (h : AnA w a e n k s) (x : Int) : AnA (w.setCell ⟨a, 1, none⟩ (.int .i64 x)) a e x k s :=
  ⟨by rw [cell_setCell, if_neg (by omega)]; exact h.c0, by rw [cell_setCell, if_pos ⟨rfl, rfl⟩, h.c1]; rfl, by rw [cell_setCell, if_neg (by omega)]; exact h.c2, by rw [cell_setCell, if_neg (by omega)]; exact h.c3, fun j => by rw [World.frozen?_setCell]; exact h.f j⟩
theorem AnA.set2 (h : AnA w a e n k s) (x : Int) : AnA (w.setCell ⟨a, 2, none⟩ (.int .i64 x)) a e n x s :=
  ⟨by rw [cell_setCell, if_neg (by omega)]; exact h.c0, by rw [cell_setCell, if_neg (by omega)]; exact h.c1, by rw [cell_setCell, if_pos ⟨rfl, rfl⟩, h.c2]; rfl, by rw [cell_setCell, if_neg (by omega)]; exact h.c3, fun j => by rw [World.frozen?_setCell]; exact h.f j⟩
theorem AnA.set3 (h : AnA w a e n k s) (x : ByteArray) : AnA (w.setCell ⟨a, 3, none⟩ (.string x)) a e n k x :=
  ⟨by rw [cell_setCell, if_neg (by omega)]; exact h.c0, by rw [cell_setCell, if_neg (by omega)]; exact h.c1, by rw [cell_setCell, if_neg (by omega)]; exact h.c2, by rw [cell_setCell, if_pos ⟨rfl, rfl⟩, h.c3]; rfl, fun j => by rw [World.frozen?_setCell]; exact h.f j⟩
theorem AnA.new (w : World) (t : TypeId) : AnA (w.alloc (.cells #[(.int .i64 0), (.int .i64 0), (.int .i64 0), (.string ⟨#[]⟩)] t)) w.heap.size 0 0 0 ⟨#[]⟩ :=
  ⟨by rw [World.cell?_alloc_new]; rfl, by rw [World.cell?_alloc_new]; rfl, by rw [World.cell?_alloc_new]; rfl, by rw [World.cell?_alloc_new]; rfl, fun j => by rw [World.frozen?_alloc_new]⟩
theorem AnA.cans (h : AnA w a e n k s) (j : Nat) (hj : j < 4) : can w ⟨a, j, none⟩ := by
  have : j = 0 ∨ j = 1 ∨ j = 2 ∨ j = 3 := by omega
  rcases this with rfl | rfl | rfl | rfl
  · exact ⟨⟨_, h.c0⟩, h.f _⟩
  · exact ⟨⟨_, h.c1⟩, h.f _⟩
  · exact ⟨⟨_, h.c2⟩, h.f _⟩
  · exact ⟨⟨_, h.c3⟩, h.f _⟩
theorem AnA.fill (h : AnA w a e n k s) {e' n' k' : Int} {s' : ByteArray} (hF : Fill w w' a 0 [.int .i64 e', .int .i64 n', .int .i64 k', .string s']) : AnA w' a e' n' k' s' :=
  ⟨by rw [hF.cell, if_pos (by simp)]; rfl, by rw [hF.cell, if_pos (by simp)]; rfl, by rw [hF.cell, if_pos (by simp)]; rfl, by rw [hF.cell, if_pos (by simp)]; rfl, fun j => by rw [hF.frozen]; exact h.f j⟩
end
theorem neq_ans (w : World) (x y : Operand) (e n k : Int) (t : ByteArray) :
    Sem.run Tryz.prog ((do eqGuard .neq T_api_Ans x y (.agg #[.int .i64 e, .int .i64 n, .int .i64 k, .string t]) (.agg #[.int .i64 e, .int .i64 n, .int .i64 k, .string t]); Go.binOp .neq T_api_Ans (.agg #[.int .i64 e, .int .i64 n, .int .i64 k, .string t]) (.agg #[.int .i64 e, .int .i64 n, .int .i64 k, .string t]))) w = .ok (.bool false) w := by
  have hm : Tryz.prog.eqGuardType Tryz.prog.depth T_api_Ans = false := by kernel_rfl
  have ht : Tryz.prog.underlying T_api_Ans = some (.struct (Tryz.prog.fieldsOf T_api_Ans)) := by kernel_rfl
  have hp : Tryz.prog.stoodInHeld T_api_Ans = false := by kernel_rfl
  have hf : (Tryz.prog.fieldsOf T_api_Ans).toList = [⟨"E", (27 : Nat), 0, false, "", "", 0⟩, ⟨"N", (3 : Nat), 1, false, "", "", 8⟩, ⟨"M", (3 : Nat), 2, false, "", "", 16⟩, ⟨"S", (9 : Nat), 3, false, "", "", 24⟩] := by kernel_rfl
  have q27 : ∀ (cs : Array Value) (i : Nat) (v : Value) (w : World), cs[i]? = some v → (part (27 : Nat) cs i).run Tryz.prog w = .ok v w := fun cs i v w hv => by
    have hia : (isAgg (27 : Nat)).run Tryz.prog w = .ok false w := by kernel_rfl
    simp [part, hia, hv]
  have q3 : ∀ (cs : Array Value) (i : Nat) (v : Value) (w : World), cs[i]? = some v → (part (3 : Nat) cs i).run Tryz.prog w = .ok v w := fun cs i v w hv => by
    have hia : (isAgg (3 : Nat)).run Tryz.prog w = .ok false w := by kernel_rfl
    simp [part, hia, hv]
  have q9 : ∀ (cs : Array Value) (i : Nat) (v : Value) (w : World), cs[i]? = some v → (part (9 : Nat) cs i).run Tryz.prog w = .ok v w := fun cs i v w hv => by
    have hia : (isAgg (9 : Nat)).run Tryz.prog w = .ok false w := by kernel_rfl
    simp [part, hia, hv]
  have e27 : ∀ (a : Int) (w : World), (Op.equalIn 9999 (27 : Nat) (.int .i64 a) (.int .i64 a)).run Tryz.prog w = .ok true w := fun a w => by
    have := run_equalIn_int (P := Tryz.prog) w 9998 (27 : Nat) .i64 .i64 a a (by kernel_rfl)
    simpa using this
  have e3 : ∀ (a : Int) (w : World), (Op.equalIn 9999 (3 : Nat) (.int .i64 a) (.int .i64 a)).run Tryz.prog w = .ok true w := fun a w => by
    have := run_equalIn_int (P := Tryz.prog) w 9998 (3 : Nat) .i64 .i64 a a (by kernel_rfl)
    simpa using this
  have e9 : ∀ (a : ByteArray) (w : World), (Op.equalIn 9999 (9 : Nat) (.string a) (.string a)).run Tryz.prog w = .ok true w := fun a w => by
    have := run_equalIn_string (P := Tryz.prog) w 9998 (9 : Nat) a a (by kernel_rfl)
    simpa using this
  have p0 : ∀ w, (part (27 : Nat) #[.int .i64 e, .int .i64 n, .int .i64 k, .string t] 0).run Tryz.prog w = .ok (.int .i64 e) w := fun w => q27 _ _ _ w rfl
  have p1 : ∀ w, (part (3 : Nat) #[.int .i64 e, .int .i64 n, .int .i64 k, .string t] 1).run Tryz.prog w = .ok (.int .i64 n) w := fun w => q3 _ _ _ w rfl
  have p2 : ∀ w, (part (3 : Nat) #[.int .i64 e, .int .i64 n, .int .i64 k, .string t] 2).run Tryz.prog w = .ok (.int .i64 k) w := fun w => q3 _ _ _ w rfl
  have p3 : ∀ w, (part (9 : Nat) #[.int .i64 e, .int .i64 n, .int .i64 k, .string t] 3).run Tryz.prog w = .ok (.string t) w := fun w => q9 _ _ _ w rfl
  rw [Sem.run_bind, run_eqGuard_agg (P := Tryz.prog) w .neq T_api_Ans x y _ _ hm, Result.andThen_ok, run_neq_struct, show (10000 : Nat) = 9999 + 1 from rfl, run_equalIn_struct w _ T_api_Ans _ _ ht hp, hf]
  simp [Op.eqFields, p0, p1, p2, p3, e27, e3, e9]

theorem newAns {w : World} {e n k : Int} {s : ByteArray} {K : Nat → World → Prop} (hK : ∀ b w', w.heap.size ≤ b → AnA w' b e n k s → Same [] w.heap.size w w' → K b w') :
    letB (Array.size (World.heap w)) fun b => letW (World.alloc w (.cells #[(.int .i64 0), (.int .i64 0), (.int .i64 0), (.string ⟨#[]⟩)] T_api_Ans)) fun w7 => putCells w7 ⟨b, 0, none⟩ [.int .i64 e, .int .i64 n, .int .i64 k, .string s] fun w8 => K b w8 := by
  refine letB_intro fun b hb => letW_intro fun w7 hw7 => ?_
  have hS7 : Same [] w.heap.size w w7 := by rw [hw7]; exact (Same.refl _ _ _).alloc (Nat.le_refl _) _
  have hb' : w.heap.size ≤ b := by rw [hb]; exact Nat.le_refl _
  have A7 : AnA w7 b 0 0 0 ⟨#[]⟩ := by rw [hw7, hb]; exact AnA.new w _
  refine putCells_intro b _ 0 w7 _ (fun j hj => by rw [Nat.zero_add]; exact A7.cans j hj) (fun w' hF => ?_)
  exact hK b w' hb' (A7.fill hF) (hS7.trans ((hF.same _).mono (Nat.le_refl _) (by intro k hk hlt; simp at hk; omega)))
theorem newOp {w : World} {o : OpV} {K : Nat → World → Prop} (hK : ∀ b w', w.heap.size ≤ b → OpAt w' b o → Same [] w.heap.size w w' → K b w') :
    letB (Array.size (World.heap w)) fun b => letW (World.alloc w (.cells #[(.int .i64 0), (.int .i64 0), (.int .i64 0), (.int .i64 0), (.string ⟨#[]⟩), (.string ⟨#[]⟩)] T_api_Op)) fun w7 => putCells w7 ⟨b, 0, none⟩ [.int .i64 o.kind, .int .i64 o.a, .int .i64 o.b, .int .i64 o.c, .string o.s, .string o.t] fun w8 => K b w8 := by
  refine letB_intro fun b hb => letW_intro fun w7 hw7 => ?_
  have hS7 : Same [] w.heap.size w w7 := by rw [hw7]; exact (Same.refl _ _ _).alloc (Nat.le_refl _) _
  have hb' : w.heap.size ≤ b := by rw [hb]; exact Nat.le_refl _
  refine putCells_intro b _ 0 w7 _ (fun j hj => ?_) (fun w' hF => hK b w' hb' (OpAt.fill o hF) (hS7.trans ((hF.same _).mono (Nat.le_refl _) (by intro k hk hlt; simp at hk; omega))))
  rw [hw7, hb, Nat.zero_add]
  refine ⟨?_, by rw [World.frozen?_alloc_new]⟩
  rw [World.cell?_alloc_new]
  have hj : j < 6 := by simpa using hj
  have : j = 0 ∨ j = 1 ∨ j = 2 ∨ j = 3 ∨ j = 4 ∨ j = 5 := by omega
  rcases this with rfl | rfl | rfl | rfl | rfl | rfl <;> exact ⟨_, rfl⟩
end Go.Proofs.Qxb6500317aGreat
