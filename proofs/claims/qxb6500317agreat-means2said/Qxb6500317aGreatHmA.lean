/-
  A decoded module, as it stands later on.
-/
import Derived.Test.Qxb6500317aGreatShC
import Derived.Test.Qxb6500317aGreatDcO
set_option linter.unusedSimpArgs false
set_option linter.unusedVariables false
set_option maxRecDepth 100000
set_option linter.unusedSectionVars false
namespace Go.Proofs.Qxb6500317aGreat
open Go Go.Vc

/-- A module that was whole at wd, all of it above L; now it is w. -/
structure HM (wd w : World) (L mb : Nat) (m : Nat → Value) (P : PM) : Prop where
  md : ModAt wd mb m
  inv : MInv wd L m P
  lm : L < mb
  st : Same (List.range (L + 1)) wd.heap.size wd w
section
variable {wd w w' : World} {L mb : Nat} {m : Nat → Value} {P : PM}
theorem HM.same (h : HM wd w L mb m P) {S : List Nat} {B : Nat} (hS : Same S B w w') (hB : wd.heap.size ≤ B) (hk : ∀ k, k ∈ S → k ≤ L ∨ wd.heap.size ≤ k) : HM wd w' L mb m P :=
  ⟨h.md, h.inv, h.lm, h.st.trans (hS.mono hB (fun k g hl => by rw [List.mem_range]; have := hk k g; omega))⟩
theorem HM.size (h : HM wd w L mb m P) : wd.heap.size ≤ w.heap.size := h.st.size
theorem HM.keep (h : HM wd w L mb m P) (hS : Same [] w.heap.size w w') : HM wd w' L mb m P := h.same hS h.size (by simp)
theorem HM.drew (h : HM wd w L mb m P) : HM wd w.drew L mb m P := ⟨h.md, h.inv, h.lm, h.st.drew⟩
theorem HM.at1 (h : HM wd w L mb m P) {vb : Nat} (hS : Same [vb] w.heap.size w w') (hv : vb ≤ L) : HM wd w' L mb m P := h.same hS h.size (by simp; omega)
theorem HM.mlt (h : HM wd w L mb m P) : mb < wd.heap.size := by
  haveI := outNil
  exact h.md.lt
theorem HM.modAt (h : HM wd w L mb m P) : ModAt w mb m := by
  haveI := outNil
  exact h.md.same h.st h.md.lt (by rw [List.mem_range]; have := h.lm; omega)
theorem HM.minv (h : HM wd w L mb m P) : MInv w L m P := by
  haveI := outNil
  exact h.inv.same h.st (fun k hk => by rw [List.mem_range] at hk; omega)
theorem HM.c3 (h : HM wd w L mb m P) : w.cell? ⟨mb, 3, none⟩ = some (.int .i64 P.tmin) := h.minv.v3 ▸ h.modAt.c 3 (by decide)
theorem HM.c4 (h : HM wd w L mb m P) : w.cell? ⟨mb, 4, none⟩ = some (.int .i64 P.tmax) := h.minv.v4 ▸ h.modAt.c 4 (by decide)
theorem HM.c5 (h : HM wd w L mb m P) : w.cell? ⟨mb, 5, none⟩ = some (.int .i64 P.mmin) := h.minv.v5 ▸ h.modAt.c 5 (by decide)
theorem HM.c6 (h : HM wd w L mb m P) : w.cell? ⟨mb, 6, none⟩ = some (.int .i64 P.mmax) := h.minv.v6 ▸ h.modAt.c 6 (by decide)
theorem HM.c9 (h : HM wd w L mb m P) : w.cell? ⟨mb, 9, none⟩ = some (.int .i64 P.start) := h.minv.s9 ▸ h.modAt.c 9 (by decide)
theorem HM.sl {α : Type} {enc : α → List Value} {sz j n : Nat} {f : Nat → α} (h : HM wd w L mb m P) (hj : j < 12) (hs : SlF enc sz w L (m j) n f) :
    ∃ a, w.cell? ⟨mb, j, none⟩ = some (.slice a n n) ∧ (n ≠ 0 → ∃ b, a = some ⟨b, 0, none⟩ ∧ ∀ i, i < n → ∀ k u, (enc (f i))[k]? = some u → w.cell? ⟨b, i * sz + k, none⟩ = some u) := by
  obtain ⟨a, e, hr⟩ := hs.look
  refine ⟨a, e ▸ h.modAt.c j hj, fun h0 => ?_⟩
  obtain ⟨b, e1, _, e2⟩ := hr h0
  exact ⟨b, e1, e2⟩
theorem HM.ty (h : HM wd w L mb m P) : ∃ a, w.cell? ⟨mb, 0, none⟩ = some (.slice a P.nTy P.nTy) ∧ (P.nTy ≠ 0 → ∃ b, a = some ⟨b, 0, none⟩ ∧ ∀ i, i < P.nTy → w.cell? ⟨b, i, none⟩ = some (.string (P.ty i))) := by
  obtain ⟨a, e, hr⟩ := h.sl (by decide) h.minv.t0
  refine ⟨a, e, fun h0 => ?_⟩
  obtain ⟨b, e1, e2⟩ := hr h0
  exact ⟨b, e1, fun i hi => by have := e2 i hi 0 _ rfl; rwa [Nat.mul_one, Nat.add_zero] at this⟩
theorem HM.im (h : HM wd w L mb m P) : ∃ a, w.cell? ⟨mb, 1, none⟩ = some (.slice a P.nIm P.nIm) ∧ (P.nIm ≠ 0 → ∃ b, a = some ⟨b, 0, none⟩ ∧ ∀ i, i < P.nIm → ∀ k u, (impE (P.im i))[k]? = some u → w.cell? ⟨b, i * 3 + k, none⟩ = some u) := h.sl (by decide) h.minv.i1
theorem HM.gl (h : HM wd w L mb m P) : ∃ a, w.cell? ⟨mb, 7, none⟩ = some (.slice a P.gn P.gn) ∧ (P.gn ≠ 0 → ∃ b, a = some ⟨b, 0, none⟩ ∧ ∀ i, i < P.gn → ∀ k u, (globE (P.g i))[k]? = some u → w.cell? ⟨b, i * 5 + k, none⟩ = some u) := h.sl (by decide) h.minv.g7
theorem HM.ex (h : HM wd w L mb m P) : ∃ a, w.cell? ⟨mb, 8, none⟩ = some (.slice a P.nEx P.nEx) ∧ (P.nEx ≠ 0 → ∃ b, a = some ⟨b, 0, none⟩ ∧ ∀ i, i < P.nEx → ∀ k u, (expE (P.ex i))[k]? = some u → w.cell? ⟨b, i * 3 + k, none⟩ = some u) := h.sl (by decide) h.minv.e8
theorem HM.da (h : HM wd w L mb m P) : ∃ a, w.cell? ⟨mb, 11, none⟩ = some (.slice a P.nD P.nD) ∧ (P.nD ≠ 0 → ∃ b, a = some ⟨b, 0, none⟩ ∧ ∀ i, i < P.nD → ∀ k u, (datE (P.da i))[k]? = some u → w.cell? ⟨b, i * 4 + k, none⟩ = some u) := h.sl (by decide) h.minv.d11
theorem HM.fn (h : HM wd w L mb m P) : ∃ a, w.cell? ⟨mb, 2, none⟩ = some (.slice a P.nf P.nf) ∧ (P.nf ≠ 0 → ∃ b, a = some ⟨b, 0, none⟩ ∧ L < b ∧ b < w.heap.size ∧ FnRow w (L + 1) b P.nf P.nf P.fn) := by
  rcases h.minv.f2 with ⟨h0, hv⟩ | ⟨h0, b, h1, h2, h3, h4⟩
  · refine ⟨none, ?_, fun g => absurd h0 g⟩
    rw [h0, ← hv]; exact h.modAt.c 2 (by decide)
  · exact ⟨_, h1 ▸ h.modAt.c 2 (by decide), fun _ => ⟨b, rfl, h3, h4, h2⟩⟩
theorem HM.el (h : HM wd w L mb m P) : ∃ a, w.cell? ⟨mb, 10, none⟩ = some (.slice a P.nEl P.nEl) ∧ (P.nEl ≠ 0 → ∃ b, a = some ⟨b, 0, none⟩ ∧ ElRow w L b P.nEl P.el) := by
  rcases h.minv.l10 with ⟨h0, hv⟩ | ⟨h0, b, h1, h2, h3, h4⟩
  · refine ⟨none, ?_, fun g => absurd h0 g⟩
    rw [h0, ← hv]; exact h.modAt.c 10 (by decide)
  · exact ⟨_, h1 ▸ h.modAt.c 10 (by decide), fun _ => ⟨b, rfl, h2⟩⟩
end
end Go.Proofs.Qxb6500317aGreat
