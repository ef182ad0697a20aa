/-
  Two pointers to two blocks are not equal.
-/
import Derived.Test.Qxb6500316aStB
import Derived.LaidEql
set_option linter.unusedSimpArgs false
set_option linter.unusedVariables false
set_option maxRecDepth 100000
set_option linter.unusedSectionVars false
namespace Go.Proofs.Qxb6500316a
open Go Go.Vc

theorem obj_of_cell {w : World} {a : Nat} {v : Value} (h : w.cell? ⟨a, 0, none⟩ = some v) : ∃ c t r, w.heap[a]? = some (.cells c t r) := by
  unfold World.cell? at h
  split at h
  · rename_i c t r e
    exact ⟨_, _, _, e⟩
  · cases h
theorem sameAddr_ne {P : Program} {w : World} {a b : Nat} (hab : a ≠ b) {va vb : Value} (ha : w.cell? ⟨a, 0, none⟩ = some va) (hb : w.cell? ⟨b, 0, none⟩ = some vb)
    (fa : ∀ j, w.frozen? ⟨a, j, none⟩ = false) : (sameAddr ⟨a, 0, none⟩ ⟨b, 0, none⟩).run P w = .ok false w ∨ ¬ (∀ j, w.frozen? ⟨b, j, none⟩ = false) := by
  by_cases fb : ∀ j, w.frozen? ⟨b, j, none⟩ = false
  · refine .inl ?_
    obtain ⟨ca, ta, ra, ea⟩ := obj_of_cell ha
    obtain ⟨cb, tb, rb, eb⟩ := obj_of_cell hb
    have sa : w.shape? a = some (ta, ca.size) := by simp [World.shape?, ea]
    have sb : w.shape? b = some (tb, cb.size) := by simp [World.shape?, eb]
    simp [sameAddr, hab, fa, fb, noView, viewAt, sa, sb, mayBeOne, stringish]
  · exact .inr fb
theorem run_ptr_ne {P : Program} {w : World} {a b : Nat} (hab : a ≠ b) {va vb : Value} (ha : w.cell? ⟨a, 0, none⟩ = some va) (hb : w.cell? ⟨b, 0, none⟩ = some vb)
    (fa : ∀ j, w.frozen? ⟨a, j, none⟩ = false) (fb : ∀ j, w.frozen? ⟨b, j, none⟩ = false) {t e : TypeId} {i : TypeInfo} (hu : P.underlying t = some (.pointer e)) (hi : P.info? e = some i) (hs : i.size ≠ 0) (x y : Operand) :
    Sem.run P (do eqGuard .eql t x y (.pointer (some ⟨a, 0, none⟩)) (.pointer (some ⟨b, 0, none⟩)); Go.binOp .eql t (.pointer (some ⟨a, 0, none⟩)) (.pointer (some ⟨b, 0, none⟩))) w = .ok (.bool false) w := by
  have h := (sameAddr_ne (P := P) hab ha hb fa).resolve_right (fun g => g fb)
  rw [Sem.run_bind, eqGuard_ptr, Result.andThen_ok]
  have E : (Op.equal t (.pointer (some ⟨a, 0, none⟩)) (.pointer (some ⟨b, 0, none⟩))).run P w = .ok false w := by
    rw [Op.equal, show Op.maxDepth = 9999 + 1 from rfl, Op.equalIn]
    simp [run_underlying hu, sizeOf, typeInfo, hi, hs, h]
  simp only [Go.binOp, Sem.run_bind, E, Result.andThen_ok, Sem.run_pure]

theorem info_of {P : Program} {e : TypeId} {n : Nat} (h : (P.info? e).map (fun i => i.size) = some n) (hn : n ≠ 0) : ∃ i, P.info? e = some i ∧ i.size ≠ 0 := by
  cases hi : P.info? e with
  | none => rw [hi] at h; cases h
  | some i => rw [hi] at h; cases h; exact ⟨i, rfl, hn⟩
theorem modT : ∃ e i, Try.prog.underlying T_p_api_Module = some (.pointer e) ∧ Try.prog.info? e = some i ∧ i.size ≠ 0 := by
  obtain ⟨i, h1, h2⟩ := info_of (P := Try.prog) (e := T_api_Module) (n := 12) (by kernel_rfl) (by decide)
  exact ⟨_, i, by kernel_rfl, h1, h2⟩
theorem binT : ∃ e i, Try.prog.underlying T_p_bin_Bin = some (.pointer e) ∧ Try.prog.info? e = some i ∧ i.size ≠ 0 := by
  obtain ⟨i, h1, h2⟩ := info_of (P := Try.prog) (e := T_bin_Bin) (n := 23) (by kernel_rfl) (by decide)
  exact ⟨_, i, by kernel_rfl, h1, h2⟩
end Go.Proofs.Qxb6500316a
