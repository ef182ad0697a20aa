/-
  Facts: the walk of Holds.
-/
import Derived.Test.Qxb6500316aFaE
set_option linter.unusedSimpArgs false
set_option linter.unusedVariables false
set_option maxRecDepth 100000
namespace Go.Proofs.Qxb6500316a
open Go Go.Vc

theorem cells_loop {w0 : World} {nb wb n c1 c2 : Nat} {f : Nat → Ins} (h1 : InsRow w0 nb n f) (h2 : InsRow w0 wb n f) (l1 : nb < w0.heap.size) (l2 : wb < w0.heap.size) (hn : n ≤ 1000) (R Q : Value → World → Prop) (hR : ∀ w', Same [] w0.heap.size w0 w' → R (.bool true) w') :
    ∀ (k i : Nat) (w : World), i + k = n → Same [] w0.heap.size w0 w → binlaw_cells.L1 (some ⟨nb, 0, none⟩) n c1 (some ⟨wb, 0, none⟩) n c2 (i : Int) R Q w
  | 0, i, w, hi, S => by
    refine binlaw_cells.step1 _ _ _ _ _ _ _ _ _ _ ?_
    unfold binlaw_cells.V1
    exact cond_false' (decide_eq_false (by omega)) (hR w S)
  | k + 1, i, w, hi, S => by
    refine binlaw_cells.step1 _ _ _ _ _ _ _ _ _ _ ?_
    unfold binlaw_cells.V1
    refine cond_true' (decide_eq_true (by omega)) ?_
    haveI := outNil
    have g1 := h1.same S l1 (by simp)
    have g2 := h2.same S l2 (by simp)
    simp only [nilV_some, true_and, add_mk, Nat.zero_add, Int.toNat_natCast]
    have e1 : IntKind.wrap .i64 ((i : Int) + 1) = ((i + 1 : Nat) : Int) := by rw [wrap_i64 (by omega) (by omega)]; omega
    refine ⟨by omega, _, _, _, g1.i0 i (by omega), g1.i1 i (by omega), g1.i2 i (by omega), by omega, _, _, _, g2.i0 i (by omega), g2.i1 i (by omega), g2.i2 i (by omega), false, _, run_neqIns _ _ _ _ _ _, ?_⟩
    simp only [true_and]
    refine cond_false' rfl ?_
    rw [e1]
    exact cells_loop h1 h2 l1 l2 hn R Q hR k (i + 1) w.drew (by omega) S.drew
theorem cells_spec {w : World} {nb wb n c1 c2 : Nat} {f : Nat → Ins} (h1 : InsRow w nb n f) (h2 : InsRow w wb n f) (l1 : nb < w.heap.size) (l2 : wb < w.heap.size) (hn : n ≤ 1000) :
    Runs Try.prog binlaw_cells.id #[.slice (some ⟨nb, 0, none⟩) n c1, .slice (some ⟨wb, 0, none⟩) n c2] w fun v w' => v = .bool true ∧ Same [] w.heap.size w w' := by
  refine binlaw_cells.enter _ _ _ _ _ _ _ _ _ ?_
  unfold binlaw_cells.V
  refine cond_false' (by simp) ?_
  exact cells_loop h1 h2 l1 l2 hn _ _ (fun w' S => ⟨rfl, S⟩) n 0 w (by omega) (Same.refl _ _ _)


theorem nil_i {a : Addr} {K : Addr → Prop} (h : K a) : nilV (some a) K := by rw [nilV_some]; exact h
section
variable {w : World} {lo mb : Nat} {m : Nat → Value} {P : PM}
theorem lenC (md : ModAt w mb m) (j : Nat) (hj : j < 12) {α : Type} {enc : α → List Value} {sz n : Nat} {f : Nat → α} (h : SlF enc sz w lo (m j) n f) : ∃ a, w.cell? ⟨mb, j, none⟩ = some (.slice a n n) := by
  have := md.c j hj
  rcases h with ⟨h0, hv⟩ | ⟨h0, b, h1, _⟩
  · exact ⟨none, by rw [this, hv, h0]⟩
  · exact ⟨_, by rw [this, h1]⟩
theorem rowC (md : ModAt w mb m) (j : Nat) (hj : j < 12) {α : Type} {enc : α → List Value} {sz n : Nat} {f : Nat → α} (h : SlF enc sz w lo (m j) n f) (hn : n = 1) : ∃ b, w.cell? ⟨mb, j, none⟩ = some (.slice (some ⟨b, 0, none⟩) 1 1) ∧ ∀ k v, (enc (f 0))[k]? = some v → w.cell? ⟨b, k, none⟩ = some v := by
  have := md.c j hj
  rcases h with ⟨h0, hv⟩ | ⟨h0, b, h1, h2, _⟩
  · omega
  · refine ⟨b, by rw [this, h1, hn], fun k v hv => ?_⟩
    have := h2.c 0 (by omega) k v hv
    rwa [Nat.zero_mul, Nat.zero_add] at this
theorem fnC (md : ModAt w mb m) (h : FnsAt w lo (m 2) P.nf P.fn) : ∃ a, w.cell? ⟨mb, 2, none⟩ = some (.slice a P.nf P.nf) ∧ (P.nf ≠ 0 → ∃ fb, a = some ⟨fb, 0, none⟩ ∧ FnRow w (lo + 1) fb P.nf P.nf P.fn) := by
  have := md.c 2 (by decide)
  rcases h with ⟨h0, hv⟩ | ⟨h0, b, h1, h2, _⟩
  · exact ⟨none, by rw [this, hv, h0], fun g => absurd h0 g⟩
  · exact ⟨_, by rw [this, h1], fun _ => ⟨b, rfl, h2⟩⟩
theorem fnC' (md : ModAt w mb m) (h : FnsAt w lo (m 2) P.nf P.fn) {n : Nat} (hn : P.nf = n) (h0 : n ≠ 0) : ∃ fb, w.cell? ⟨mb, 2, none⟩ = some (.slice (some ⟨fb, 0, none⟩) n n) ∧ FnRow w (lo + 1) fb n n P.fn := by
  obtain ⟨a, h1, h2⟩ := fnC md h
  obtain ⟨fb, rfl, h3⟩ := h2 (by omega)
  rw [hn] at h1 h3
  exact ⟨fb, h1, h3⟩
theorem elC (md : ModAt w mb m) (h : ElsAt w lo (m 10) P.nEl P.el) : ∃ a, w.cell? ⟨mb, 10, none⟩ = some (.slice a P.nEl P.nEl) ∧ (P.nEl ≠ 0 → ∃ tb, a = some ⟨tb, 0, none⟩ ∧ ElRow w lo tb P.nEl P.el) := by
  have := md.c 10 (by decide)
  rcases h with ⟨h0, hv⟩ | ⟨h0, b, h1, h2, _⟩
  · exact ⟨none, by rw [this, hv, h0], fun g => absurd h0 g⟩
  · exact ⟨_, by rw [this, h1], fun _ => ⟨b, rfl, h2⟩⟩
/-- The first element segment. -/
theorem elC1 (md : ModAt w mb m) (h : ElsAt w lo (m 10) P.nEl P.el) (hn : P.nEl = 1) : ∃ tb a, w.cell? ⟨mb, 10, none⟩ = some (.slice (some ⟨tb, 0, none⟩) 1 1) ∧ w.cell? ⟨tb, 0, none⟩ = some (.int .u8 (P.el 0).off.op) ∧ w.cell? ⟨tb, 1, none⟩ = some (.int .u32 (P.el 0).off.x) ∧ w.cell? ⟨tb, 2, none⟩ = some (.int .u64 (P.el 0).off.y) ∧ w.cell? ⟨tb, 3, none⟩ = some (.slice a (P.el 0).n (P.el 0).n) ∧ ((P.el 0).n ≠ 0 → ∃ b, a = some ⟨b, 0, none⟩ ∧ ∀ j, j < (P.el 0).n → w.cell? ⟨b, j, none⟩ = some (.int .u32 ((P.el 0).fns j))) := by
  obtain ⟨a, h1, h2⟩ := elC md h
  obtain ⟨tb, rfl, fr, h3, h4⟩ := h2 (by omega)
  rw [hn] at h1
  obtain ⟨g1, g2, _⟩ := h4 0 (by omega)
  have k0 := h3.c 0 (by omega) 0 _ rfl
  have k1 := h3.c 0 (by omega) 1 _ rfl
  have k2 := h3.c 0 (by omega) 2 _ rfl
  have k3 := h3.c 0 (by omega) 3 _ rfl
  rw [Nat.zero_mul, Nat.zero_add] at k0 k1 k2 k3
  rw [g1] at k0 k1 k2
  rcases g2 with ⟨e0, ev⟩ | ⟨e0, b, e1, e2, _⟩
  · exact ⟨tb, none, h1, k0, k1, k2, by rw [k3, ev, e0], fun g => absurd e0 g⟩
  · refine ⟨tb, _, h1, k0, k1, k2, by rw [k3, e1], fun _ => ⟨b, rfl, fun j hj => ?_⟩⟩
    have := e2.c j hj 0 _ rfl
    rwa [Nat.mul_one, Nat.add_zero] at this
/-- A function's cells. -/
theorem bodyC {fb n : Nat} (h : FnRow w (lo + 1) fb n n P.fn) (j : Nat) (hj : j < n) {k : Nat} (hk : (P.fn j).nI = k) : ∃ nb, w.cell? ⟨fb, j * 4 + 2, none⟩ = some (.slice (some ⟨nb, 0, none⟩) k k) ∧ InsRow w nb k (P.fn j).ins ∧ nb < w.heap.size := by
  obtain ⟨nb, h1, h2, _, h4, _⟩ := h.c2 j hj
  rw [hk] at h1 h2
  exact ⟨nb, h1, h2, h4⟩
theorem tabsC {fb n : Nat} (h : FnRow w (lo + 1) fb n n P.fn) (j : Nat) (hj : j < n) {k : Nat} (hk : (P.fn j).nTab = k) (h0 : 0 < k) : ∃ tk, w.cell? ⟨fb, j * 4 + 3, none⟩ = some (.slice (some ⟨tk, 0, none⟩) k k) ∧ TabRow w tk k (P.fn j).tabs := by
  rcases h.c3 j hj with ⟨e, _⟩ | ⟨_, tk, h1, h2, _⟩
  · omega
  · rw [hk] at h1 h2; exact ⟨tk, h1, h2⟩
/-- Instructions as they are laid for a comparison. -/
theorem want_row (w : World) (t : TypeId) (l : List Ins) (cs : Array Value) (hcs : cs.toList = l.flatMap insC) {w' : World} (hw : w' = w.alloc (.cells cs t)) {f : Nat → Ins} (hf : ∀ j x, l[j]? = some x → f j = x) : InsRow w' w.heap.size l.length f := by
  have key : ∀ (l : List Ins) j x, l[j]? = some x → (l.flatMap insC)[j * 3]? = some (.int .u8 x.op) ∧ (l.flatMap insC)[j * 3 + 1]? = some (.int .u32 x.x) ∧ (l.flatMap insC)[j * 3 + 2]? = some (.int .u64 x.y) := by
    intro l
    induction l with
    | nil => intro j x h; simp at h
    | cons y r ih =>
      intro j x h
      cases j with
      | zero => simp at h; subst h; exact ⟨rfl, rfl, rfl⟩
      | succ j =>
        have := ih j x (by simpa using h)
        rw [List.flatMap_cons]
        have e : (insC y).length = 3 := rfl
        refine ⟨?_, ?_, ?_⟩
        · rw [List.getElem?_append_right (by omega), e, show (j + 1) * 3 - 3 = j * 3 by omega]; exact this.1
        · rw [List.getElem?_append_right (by omega), e, show (j + 1) * 3 + 1 - 3 = j * 3 + 1 by omega]; exact this.2.1
        · rw [List.getElem?_append_right (by omega), e, show (j + 1) * 3 + 2 - 3 = j * 3 + 2 by omega]; exact this.2.2
  have rd : ∀ j, w'.cell? ⟨w.heap.size, j, none⟩ = (l.flatMap insC)[j]? := fun j => by
    rw [hw, World.cell?_alloc_new, ← hcs, Array.getElem?_toList]
  refine ⟨fun j hj => ?_, fun j hj => ?_, fun j hj => ?_⟩ <;>
  · obtain ⟨x, hx⟩ : ∃ x, l[j]? = some x := ⟨l[j], List.getElem?_eq_getElem hj⟩
    obtain ⟨k0, k1, k2⟩ := key l j x hx
    rw [rd, hf j x hx]
    first | exact k0 | exact k1 | exact k2
end

end Go.Proofs.Qxb6500316a
