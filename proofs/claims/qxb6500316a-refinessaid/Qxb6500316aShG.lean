/-
  Show of a module whose lists have free capacities.
-/
import Derived.Test.Qxb6500316aMdS
import Derived.Test.Qxb6500316aShC
set_option linter.unusedSimpArgs false
set_option linter.unusedVariables false
set_option maxRecDepth 100000
set_option linter.unusedSectionVars false
namespace Go.Proofs.Qxb6500316a
open Go Go.Vc

/-- A list that is only looked at. -/
def Lk {α : Type} (enc : α → List Value) (sz : Nat) (w : World) (v : Value) (n : Nat) (f : Nat → α) : Prop := ∃ a c, v = .slice a n c ∧ (n ≠ 0 → ∃ b, a = some ⟨b, 0, none⟩ ∧ b < w.heap.size ∧ (∀ j, j < n → ∀ k u, (enc (f j))[k]? = some u → w.cell? ⟨b, j * sz + k, none⟩ = some u) ∧ ∀ j, w.frozen? ⟨b, j, none⟩ = false)
structure MV (w : World) (m : Nat → Value) (P : PM) : Prop where
  t0 : Lk strE 1 w (m 0) P.nTy P.ty
  i1 : Lk impE 3 w (m 1) P.nIm P.im
  f2 : ∃ fr, Lk fnE 4 w (m 2) P.nf fr ∧ ∀ j, j < P.nf → (fr j).ty = (P.fn j).ty ∧ (fr j).ls = strOfNums (P.fn j).ls ∧ Lk insC 3 w (fr j).bd (P.fn j).nI (P.fn j).ins ∧ Lk u32E 1 w (fr j).tb (P.fn j).nTab (P.fn j).tabs
  v3 : m 3 = .int .i64 P.tmin
  v4 : m 4 = .int .i64 P.tmax
  v5 : m 5 = .int .i64 P.mmin
  v6 : m 6 = .int .i64 P.mmax
  g7 : Lk globE 5 w (m 7) P.gn P.g
  e8 : Lk expE 3 w (m 8) P.nEx P.ex
  s9 : m 9 = .int .i64 P.start
  l10 : ∃ fr, Lk elE 4 w (m 10) P.nEl fr ∧ ∀ j, j < P.nEl → (fr j).off = (P.el j).off ∧ Lk u32E 1 w (fr j).sl (P.el j).n (P.el j).fns
  d11 : Lk datE 4 w (m 11) P.nD P.da
structure Gx (w0 : World) (mb : Nat) (m : Nat → Value) (P : PM) : Prop where
  mc0 : ∀ j, j < 12 → w0.cell? ⟨mb, j, none⟩ = some (m j)
  inv : MV w0 m P
  B : SB P
theorem row_frozen {w : World} {b : Nat} {e : TypeId} {sz n : Nat} {v : Value} {xs : List Value} (h : w.ownsRow b e sz v n xs) {g : Nat} (hg : v.ownBlock = some g) (j : Nat) : w.frozen? ⟨g, j, none⟩ = false := by
  obtain ⟨cur, hc⟩ := row_heap h hg
  simp [World.frozen?, hc]
theorem lk_of {α : Type} {enc : α → List Value} {sz : Nat} {w : World} {B n c : Nat} {t : TypeId} {a : Option Addr} {f : Nat → α} (h : w.ownsRow B t sz (.slice a n c) n (rowV enc f n)) (he : ∀ a, (enc a).length = sz) : Lk enc sz w (.slice a n c) n f := by
  refine ⟨a, c, rfl, fun h0 => ?_⟩
  obtain ⟨b, rfl, h1, h2, _, h3⟩ := row_get h h0
  refine ⟨b, rfl, h2, fun j hj k u hu => ?_, fun j => row_frozen h rfl j⟩
  have : k < sz := by rw [← he (f j)]; exact (List.getElem?_eq_some_iff.1 hu).1
  exact h3 _ _ (by rw [rowV_get he n j k hj this]; exact hu)
theorem Fld.lk {α : Type} {enc : α → List Value} {sz : Nat} {w : World} {B mb k n : Nat} {t : TypeId} {f : Nat → α} (h : Fld w B mb k t sz enc n f) (he : ∀ a, (enc a).length = sz) : ∃ v, w.cell? ⟨mb, k, none⟩ = some v ∧ Lk enc sz w v n f := by
  obtain ⟨a, c, h1, h2⟩ := h
  exact ⟨_, h1, lk_of h2 he⟩
/-- A module of the model may be shown. -/
theorem MG.gx {w : World} {B mb : Nat} {P : PM} (h : MG w B mb P) (hB : SB P) : ∃ m, Gx w mb m P := by
  obtain ⟨v0, c0, l0⟩ := h.t0.lk (fun _ => rfl)
  obtain ⟨v1, c1, l1⟩ := h.i1.lk (fun _ => rfl)
  obtain ⟨fr, f1, f2⟩ := h.f2
  obtain ⟨v2, c2, l2⟩ := f1.lk (fun _ => rfl)
  obtain ⟨v7, c7, l7⟩ := h.g7.lk (fun _ => rfl)
  obtain ⟨v8, c8, l8⟩ := h.e8.lk (fun _ => rfl)
  obtain ⟨er, e1, e2⟩ := h.l10
  obtain ⟨v10, c10, l10⟩ := e1.lk (fun _ => rfl)
  obtain ⟨v11, c11, l11⟩ := h.d11.lk (fun _ => rfl)
  refine ⟨fun j => [v0, v1, v2, .int .i64 P.tmin, .int .i64 P.tmax, .int .i64 P.mmin, .int .i64 P.mmax, v7, v8, .int .i64 P.start, v10, v11].getD j (.int .i64 0), ⟨fun j hj => ?_, ⟨l0, l1, ⟨fr, l2, fun j hj => ?_⟩, rfl, rfl, rfl, rfl, l7, l8, rfl, ⟨er, l10, fun j hj => ?_⟩, l11⟩, hB⟩⟩
  · match j, hj with
    | 0, _ => exact c0
    | 1, _ => exact c1
    | 2, _ => exact c2
    | 3, _ => exact h.v3
    | 4, _ => exact h.v4
    | 5, _ => exact h.v5
    | 6, _ => exact h.v6
    | 7, _ => exact c7
    | 8, _ => exact c8
    | 9, _ => exact h.s9
    | 10, _ => exact c10
    | 11, _ => exact c11
  · obtain ⟨h1, h2, ⟨a, c, h3, h4⟩, a', c', h5, h6⟩ := f2 j hj
    exact ⟨h1, h2, by rw [h3]; exact lk_of h4 (fun _ => rfl), by rw [h5]; exact lk_of h6 (fun _ => rfl)⟩
  · obtain ⟨h1, a', c', h5, h6⟩ := e2 j hj
    exact ⟨h1, by rw [h5]; exact lk_of h6 (fun _ => rfl)⟩
section
variable {w0 w : World} {mb : Nat} {m : Nat → Value} {P : PM} {R Q : Value → World → Prop}
theorem Gx.mc (x : Gx w0 mb m P) (S : Same [] w0.heap.size w0 w) (j : Nat) (hj : j < 12) : w.cell? ⟨mb, j, none⟩ = some (m j) := (S.cell (p := ⟨mb, j, none⟩) (cell_lt (x.mc0 j hj)) (by simp)).trans (x.mc0 j hj)

theorem gL8 (x : Gx w0 mb m P) (hQ : Q = fun _ _ => False) (hR : ∀ w', Same [] w0.heap.size w0 w' → R (.string (showP P)) w') : ∀ (k i : Nat) (w : World), i + k = P.nD → Same [] w0.heap.size w0 w → api_Module_Show.L8 (some ⟨mb, 0, none⟩) (sh8 P i) (i : Int) R Q w := by
  subst hQ
  obtain ⟨a, cc, ev, hrow⟩ := x.inv.d11
  intro k
  induction k with
  | zero =>
    intro i w hi S
    obtain rfl : i = P.nD := by omega
    refine api_Module_Show.step8 _ _ _ _ _ _ ?_
    unfold api_Module_Show.V8
    have c := x.mc S 11 (by decide)
    rw [ev] at c
    simp only [nilV_some, Nat.zero_add]
    exact ⟨_, _, _, c, cond_false' (decide_eq_false (by omega)) (hR w S)⟩
  | succ k ih =>
    intro i w hi S
    have hb := x.B.nD
    refine api_Module_Show.step8 _ _ _ _ _ _ ?_
    unfold api_Module_Show.V8
    have c := x.mc S 11 (by decide)
    rw [ev] at c
    obtain ⟨b, rfl, lb, row, _⟩ := hrow (by omega)
    have row' : ∀ {w : World}, Same [] w0.heap.size w0 w → ∀ k u, (datE (P.da i))[k]? = some u → w.cell? ⟨b, i * 4 + k, none⟩ = some u := fun S k u hu => (S.cell (p := ⟨b, i * 4 + k, none⟩) lb (by simp)).trans (row i (by omega) k u hu)
    obtain ⟨hy, hz⟩ := x.B.da i (by omega)
    simp only [nilV_some, Nat.zero_add]
    refine ⟨_, _, _, c, cond_true' (decide_eq_true (by omega)) ⟨_, _, _, c, by omega, ?_⟩⟩
    simp only [nilV_some, add_mk, Nat.zero_add, Int.toNat_natCast]
    refine ⟨_, _, _, row' S 0 _ rfl, row' S 1 _ rfl, row' S 2 _ rfl, RunsQ.post (showIns_spec (P.da i).off hy w) ?_⟩
    rintro v w1 ⟨rfl, S1⟩
    have T1 := Same.more (B := 0) S S1
    have c1 := x.mc T1 11 (by decide)
    rw [ev] at c1
    refine ⟨_, rfl, _, _, _, c1, by omega, ?_⟩
    simp only [nilV_some, add_mk, Nat.zero_add, Int.toNat_natCast]
    refine ⟨_, row' T1 3 _ rfl, RunsQ.post (HexStr_spec _ w1 (by omega)) ?_⟩
    rintro v w2 ⟨rfl, S2⟩
    have h1 := sh8_size x.B i (by omega); have h2 := showI_size (P.da i).off; have h3 := hexStr_size (P.da i).bytes
    refine ⟨_, rfl, by (simp only [ByteArray.size_append, bsz, List.size_toArray, List.length_cons, List.length_nil]; omega), by (simp only [ByteArray.size_append, bsz, List.size_toArray, List.length_cons, List.length_nil]; omega), by (simp only [ByteArray.size_append, bsz, List.size_toArray, List.length_cons, List.length_nil]; omega), by (simp only [ByteArray.size_append, bsz, List.size_toArray, List.length_cons, List.length_nil]; omega), ?_⟩
    rw [nx i (by omega)]
    exact ih (i + 1) w2 (by omega) (Same.more (B := 0) T1 S2)

theorem gL7 (x : Gx w0 mb m P) (hQ : Q = fun _ _ => False) (hN : ∀ w', Same [] w0.heap.size w0 w' → api_Module_Show.L8 (some ⟨mb, 0, none⟩) (sh8 P 0) 0 R Q w') : ∀ (k i : Nat) (w : World), i + k = P.nEl → Same [] w0.heap.size w0 w → api_Module_Show.L7 (some ⟨mb, 0, none⟩) (sh7 P i) (i : Int) R Q w := by
  subst hQ
  obtain ⟨fr, ⟨a, cc, ev, hrow⟩, hel⟩ := x.inv.l10
  intro k
  induction k with
  | zero =>
    intro i w hi S
    obtain rfl : i = P.nEl := by omega
    refine api_Module_Show.step7 _ _ _ _ _ _ ?_
    unfold api_Module_Show.V7
    have c := x.mc S 10 (by decide)
    rw [ev] at c
    simp only [nilV_some, Nat.zero_add]
    exact ⟨_, _, _, c, cond_false' (decide_eq_false (by omega)) (hN w S)⟩
  | succ k ih =>
    intro i w hi S
    have hb := x.B.nEl
    refine api_Module_Show.step7 _ _ _ _ _ _ ?_
    unfold api_Module_Show.V7
    have c := x.mc S 10 (by decide)
    rw [ev] at c
    obtain ⟨b, rfl, lb, row, _⟩ := hrow (by omega)
    obtain ⟨g1, g2⟩ := hel i (by omega)
    have row' : ∀ {w : World}, Same [] w0.heap.size w0 w → ∀ k u, (elE (fr i))[k]? = some u → w.cell? ⟨b, i * 4 + k, none⟩ = some u := fun S k u hu => (S.cell (p := ⟨b, i * 4 + k, none⟩) lb (by simp)).trans (row i (by omega) k u hu)
    obtain ⟨hy, hz⟩ := x.B.el i (by omega)
    obtain ⟨fa, fcap, fe, frow⟩ := g2
    have k0 := row' S 0 _ rfl; have k1 := row' S 1 _ rfl; have k2 := row' S 2 _ rfl
    rw [g1] at k0 k1 k2
    simp only [nilV_some, Nat.zero_add]
    refine ⟨_, _, _, c, cond_true' (decide_eq_true (by omega)) ⟨_, _, _, c, by omega, ?_⟩⟩
    simp only [nilV_some, add_mk, Nat.zero_add, Int.toNat_natCast]
    refine ⟨_, _, _, k0, k1, k2, RunsQ.post (showIns_spec (P.el i).off hy w) ?_⟩
    rintro v w1 ⟨rfl, S1⟩
    have T1 := Same.more (B := 0) S S1
    have c1 := x.mc T1 10 (by decide)
    rw [ev] at c1
    have k3 := row' T1 3 _ rfl
    rw [fe] at k3
    refine ⟨_, rfl, _, _, _, c1, by omega, ?_⟩
    simp only [nilV_some, add_mk, Nat.zero_add, Int.toNat_natCast]
    refine ⟨_, _, _, k3, RunsQ.post (showU32s_spec (f := (P.el i).fns) (by omega) (fun h0 => ?_)) ?_⟩
    · obtain ⟨fb, rfl, lf, fc, _⟩ := frow h0
      refine ⟨fb, rfl, Nat.lt_of_lt_of_le lf T1.size, fun j hj => ?_⟩
      have := fc j hj 0 _ rfl
      rw [Nat.mul_one, Nat.add_zero] at this
      exact (T1.cell (p := ⟨fb, j, none⟩) lf (by simp)).trans this
    rintro v w2 ⟨rfl, S2⟩
    have h1 := sh7_size x.B i (by omega); have h2 := showI_size (P.el i).off; have h3 := showU_size (P.el i).fns (P.el i).n
    refine ⟨_, rfl, by (simp only [ByteArray.size_append, bsz, List.size_toArray, List.length_cons, List.length_nil]; omega), by (simp only [ByteArray.size_append, bsz, List.size_toArray, List.length_cons, List.length_nil]; omega), by (simp only [ByteArray.size_append, bsz, List.size_toArray, List.length_cons, List.length_nil]; omega), ?_⟩
    rw [nx i (by omega)]
    exact ih (i + 1) w2 (by omega) (Same.more (B := 0) T1 S2)

theorem gL6 (x : Gx w0 mb m P) (hQ : Q = fun _ _ => False) (hN : ∀ w', Same [] w0.heap.size w0 w' → api_Module_Show.L7 (some ⟨mb, 0, none⟩) (sh7 P 0) 0 R Q w') : ∀ (k i : Nat) (w : World), i + k = P.nEx → Same [] w0.heap.size w0 w → api_Module_Show.L6 (some ⟨mb, 0, none⟩) (sh6 P i) (i : Int) R Q w := by
  subst hQ
  obtain ⟨a, cc, ev, hrow⟩ := x.inv.e8
  intro k
  induction k with
  | zero =>
    intro i w hi S
    obtain rfl : i = P.nEx := by omega
    refine api_Module_Show.step6 _ _ _ _ _ _ ?_
    unfold api_Module_Show.V6
    have c := x.mc S 8 (by decide)
    rw [ev] at c
    simp only [nilV_some, Nat.zero_add]
    exact ⟨_, _, _, c, cond_false' (decide_eq_false (by omega)) (hN w S)⟩
  | succ k ih =>
    intro i w hi S
    have hb := x.B.nEx
    refine api_Module_Show.step6 _ _ _ _ _ _ ?_
    unfold api_Module_Show.V6
    have c := x.mc S 8 (by decide)
    rw [ev] at c
    obtain ⟨b, rfl, lb, row, _⟩ := hrow (by omega)
    have row' : ∀ k u, (expE (P.ex i))[k]? = some u → w.cell? ⟨b, i * 3 + k, none⟩ = some u := fun k u hu => (S.cell (p := ⟨b, i * 3 + k, none⟩) lb (by simp)).trans (row i (by omega) k u hu)
    have hz := x.B.ex i (by omega)
    simp only [nilV_some, Nat.zero_add]
    refine ⟨_, _, _, c, cond_true' (decide_eq_true (by omega)) ⟨_, _, _, c, by omega, ?_⟩⟩
    simp only [nilV_some, add_mk, Nat.zero_add, Int.toNat_natCast]
    refine ⟨_, _, _, row' 0 _ rfl, row' 1 _ rfl, row' 2 _ rfl, letB_intro fun xb hxb => letW_intro fun w1 hw1 => ?_⟩
    have S1 : Same [] w.heap.size w w1 := by rw [hw1]; exact (Same.refl _ _ _).alloc (Nat.le_refl _) _
    have can1 : ∀ j, j < 3 → can w1 ⟨xb, j, none⟩ := fun j hj => by
      refine ⟨?_, by rw [hw1, hxb, World.frozen?_alloc_new]⟩
      rw [hw1, hxb, World.cell?_alloc_new]
      have : j = 0 ∨ j = 1 ∨ j = 2 := by omega
      rcases this with rfl | rfl | rfl <;> exact ⟨_, rfl⟩
    have z1 : w1.heap.size = w.heap.size + 1 := by rw [hw1]; simp
    clear hw1
    refine putCells_intro xb _ 0 w1 _ (fun j hj => by rw [Nat.zero_add]; exact can1 j (by simpa using hj)) (fun w2 hF => ?_)
    have S2 : Same [] w.heap.size w w2 := S1.trans ((hF.same w.heap.size).mono (Nat.le_refl _) (by intro k hk hl; simp at hk; omega))
    have k0 : w2.cell? ⟨xb, 0, none⟩ = some (.string (P.ex i).nm) := by rw [hF.cell, if_pos (by simp)]; rfl
    have k1 : w2.cell? ⟨xb, 1, none⟩ = some (.int .u8 (P.ex i).kind) := by rw [hF.cell, if_pos (by simp)]; rfl
    have k2 : w2.cell? ⟨xb, 2, none⟩ = some (.int .u32 (P.ex i).idx) := by rw [hF.cell, if_pos (by simp)]; rfl
    have lx : xb < w2.heap.size := cell_lt k0
    refine ⟨_, k0, RunsQ.post (HexStr_spec _ w2 (by omega)) ?_⟩
    rintro v w3 ⟨rfl, S3⟩
    have hk := wrapI64 (P.ex i).kind
    refine ⟨_, rfl, _, (S3.cell (p := ⟨xb, 1, none⟩) lx (by simp)).trans k1, RunsQ.post (Itoa_spec _ w3 hk.1 hk.2) ?_⟩
    rintro v w4 ⟨rfl, S4⟩
    have S24 := Same.more (B := 0) S3 S4
    have u1 := wrapU64 (P.ex i).idx
    refine ⟨_, rfl, _, (S24.cell (p := ⟨xb, 2, none⟩) lx (by simp)).trans k2, RunsQ.post (Hex_spec _ 8 w4 u1.1 u1.2 (by decide) (by decide)) ?_⟩
    rintro v w5 ⟨rfl, S5⟩
    have h1 := sh6_size x.B i (by omega); have h2 := hexStr_size (P.ex i).nm; have h3 := itoa_size (IntKind.wrap .i64 (P.ex i).kind); have h4 := hexOf_size (IntKind.wrap .u64 (P.ex i).idx) 8 (by decide)
    refine ⟨_, rfl, by (simp only [ByteArray.size_append, bsz, List.size_toArray, List.length_cons, List.length_nil]; omega), by (simp only [ByteArray.size_append, bsz, List.size_toArray, List.length_cons, List.length_nil]; omega), by (simp only [ByteArray.size_append, bsz, List.size_toArray, List.length_cons, List.length_nil]; omega), by (simp only [ByteArray.size_append, bsz, List.size_toArray, List.length_cons, List.length_nil]; omega), by (simp only [ByteArray.size_append, bsz, List.size_toArray, List.length_cons, List.length_nil]; omega), by (simp only [ByteArray.size_append, bsz, List.size_toArray, List.length_cons, List.length_nil]; omega), ?_⟩
    rw [nx i (by omega)]
    exact ih (i + 1) w5 (by omega) (Same.more (B := 0) S (Same.more (B := 0) S2 (Same.more (B := 0) S24 S5)))

theorem gL4 (x : Gx w0 mb m P) (hQ : Q = fun _ _ => False) (hN : ∀ w', Same [] w0.heap.size w0 w' → api_Module_Show.L6 (some ⟨mb, 0, none⟩) (sh6 P 0) 0 R Q w') : ∀ (k i : Nat) (w : World), i + k = P.gn → Same [] w0.heap.size w0 w → api_Module_Show.L4 (some ⟨mb, 0, none⟩) (sh4 P i) (i : Int) R Q w := by
  subst hQ
  obtain ⟨a, cc, ev, hrow⟩ := x.inv.g7
  intro k
  induction k with
  | zero =>
    intro i w hi S
    obtain rfl : i = P.gn := by omega
    refine api_Module_Show.step4 _ _ _ _ _ _ ?_
    unfold api_Module_Show.V4
    have c := x.mc S 7 (by decide)
    rw [ev] at c
    have h1 := sh4_size x.B P.gn (Nat.le_refl _); have hb := x.B.gn
    simp only [nilV_some, Nat.zero_add]
    exact ⟨_, _, _, c, cond_false' (decide_eq_false (by omega)) ⟨by (simp only [ByteArray.size_append, bsz, List.size_toArray, List.length_cons, List.length_nil]; omega), hN w S⟩⟩
  | succ k ih =>
    intro i w hi S
    have hb := x.B.gn
    refine api_Module_Show.step4 _ _ _ _ _ _ ?_
    unfold api_Module_Show.V4
    have c := x.mc S 7 (by decide)
    rw [ev] at c
    obtain ⟨b, rfl, lb, row, _⟩ := hrow (by omega)
    have row' : ∀ k u, (globE (P.g i))[k]? = some u → w.cell? ⟨b, i * 5 + k, none⟩ = some u := fun k u hu => (S.cell (p := ⟨b, i * 5 + k, none⟩) lb (by simp)).trans (row i (by omega) k u hu)
    have hy := x.B.g i (by omega)
    simp only [nilV_some, Nat.zero_add]
    refine ⟨_, _, _, c, cond_true' (decide_eq_true (by omega)) ⟨_, _, _, c, by omega, ?_⟩⟩
    simp only [nilV_some, add_mk, Nat.zero_add, Int.toNat_natCast]
    refine ⟨_, _, _, _, _, row' 0 _ rfl, row' 1 _ rfl, row' 2 _ rfl, row' 3 _ rfl, row' 4 _ rfl, letB_intro fun xb hxb => letW_intro fun w1 hw1 => ?_⟩
    have S1 : Same [] w.heap.size w w1 := by rw [hw1]; exact (Same.refl _ _ _).alloc (Nat.le_refl _) _
    have can1 : ∀ j, j < 5 → can w1 ⟨xb, j, none⟩ := fun j hj => by
      refine ⟨?_, by rw [hw1, hxb, World.frozen?_alloc_new]⟩
      rw [hw1, hxb, World.cell?_alloc_new]
      have : j = 0 ∨ j = 1 ∨ j = 2 ∨ j = 3 ∨ j = 4 := by omega
      rcases this with rfl | rfl | rfl | rfl | rfl <;> exact ⟨_, rfl⟩
    have z1 : w1.heap.size = w.heap.size + 1 := by rw [hw1]; simp
    clear hw1
    refine putCells_intro xb _ 0 w1 _ (fun j hj => by rw [Nat.zero_add]; exact can1 j (by simpa using hj)) (fun w2 hF => ?_)
    have S2 : Same [] w.heap.size w w2 := S1.trans ((hF.same w.heap.size).mono (Nat.le_refl _) (by intro k hk hl; simp at hk; omega))
    have k0 : w2.cell? ⟨xb, 0, none⟩ = some (.int .u8 (P.g i).ty) := by rw [hF.cell, if_pos (by simp)]; rfl
    have k1 : w2.cell? ⟨xb, 1, none⟩ = some (.bool (P.g i).mu) := by rw [hF.cell, if_pos (by simp)]; rfl
    have k2 : w2.cell? ⟨xb, 2, none⟩ = some (.int .u8 (P.g i).init.op) := by rw [hF.cell, if_pos (by simp)]; rfl
    have k3 : w2.cell? ⟨xb, 3, none⟩ = some (.int .u32 (P.g i).init.x) := by rw [hF.cell, if_pos (by simp)]; rfl
    have k4 : w2.cell? ⟨xb, 4, none⟩ = some (.int .u64 (P.g i).init.y) := by rw [hF.cell, if_pos (by simp)]; rfl
    have lx : xb < w2.heap.size := cell_lt k0
    have u1 := wrapU64 (P.g i).ty
    refine ⟨_, k0, RunsQ.post (Hex_spec _ 2 w2 u1.1 u1.2 (by decide) (by decide)) ?_⟩
    rintro v w3 ⟨rfl, S3⟩
    refine ⟨_, rfl, _, _, _, (S3.cell (p := ⟨xb, 2, none⟩) lx (by simp)).trans k2, (S3.cell (p := ⟨xb, 3, none⟩) lx (by simp)).trans k3, (S3.cell (p := ⟨xb, 4, none⟩) lx (by simp)).trans k4, RunsQ.post (showIns_spec (P.g i).init hy w3) ?_⟩
    rintro v w4 ⟨rfl, S4⟩
    have S24 := Same.more (B := 0) S3 S4
    have T4 := Same.more (B := 0) S (Same.more (B := 0) S2 S24)
    have h1 := sh4_size x.B i (by omega); have h2 := hexOf_size (IntKind.wrap .u64 (P.g i).ty) 2 (by decide); have h3 := showI_size (P.g i).init; have h4 := globT_size (P.g i)
    have L5 : api_Module_Show.L5 (some ⟨mb, 0, none⟩) (sh4 P i) (i : Int) (globT (P.g i)) (showI (P.g i).init) R (fun _ _ => False) w4 := by
      refine api_Module_Show.step5 _ _ _ _ _ _ _ _ ?_
      unfold api_Module_Show.V5
      refine ⟨by (simp only [ByteArray.size_append, bsz, List.size_toArray, List.length_cons, List.length_nil]; omega), by (simp only [ByteArray.size_append, bsz, List.size_toArray, List.length_cons, List.length_nil]; omega), by (simp only [ByteArray.size_append, bsz, List.size_toArray, List.length_cons, List.length_nil]; omega), by (simp only [ByteArray.size_append, bsz, List.size_toArray, List.length_cons, List.length_nil]; omega), ?_⟩
      rw [nx i (by omega)]
      exact ih (i + 1) w4 (by omega) T4
    refine ⟨_, rfl, _, (S24.cell (p := ⟨xb, 1, none⟩) lx (by simp)).trans k1, ?_⟩
    unfold globT at L5
    refine cond_intro (fun g => ?_) (fun g => ?_)
    · rw [if_pos g] at L5
      exact ⟨by (simp only [ByteArray.size_append, bsz, List.size_toArray, List.length_cons, List.length_nil]; omega), L5⟩
    · rw [if_neg (by rw [g]; decide)] at L5
      exact L5

theorem gL3 (x : Gx w0 mb m P) (hQ : Q = fun _ _ => False) (hN : ∀ w', Same [] w0.heap.size w0 w' → api_Module_Show.L4 (some ⟨mb, 0, none⟩) (sh4 P 0) 0 R Q w') : ∀ (k i : Nat) (w : World), i + k = P.nf → Same [] w0.heap.size w0 w → api_Module_Show.L3 (some ⟨mb, 0, none⟩) (sh3 P i) (i : Int) R Q w := by
  subst hQ
  obtain ⟨fr, ⟨a, cc, ev, hrow⟩, hfn⟩ := x.inv.f2
  intro k
  induction k with
  | zero =>
    intro i w hi S
    obtain rfl : i = P.nf := by omega
    refine api_Module_Show.step3 _ _ _ _ _ _ ?_
    unfold api_Module_Show.V3
    have c := x.mc S 2 (by decide)
    rw [ev] at c
    have hB := x.B
    simp only [nilV_some, Nat.zero_add]
    have c3 := x.mc S 3 (by decide)
    rw [x.inv.v3] at c3
    refine ⟨_, _, _, c, cond_false' (decide_eq_false (by omega)) ⟨_, c3, RunsQ.post (Itoa_spec _ w hB.t0.1 hB.t0.2) ?_⟩⟩
    rintro v w1 ⟨rfl, S1⟩
    have T1 := Same.more (B := 0) S S1
    have c4 := x.mc T1 4 (by decide)
    rw [x.inv.v4] at c4
    refine ⟨_, rfl, _, c4, RunsQ.post (Itoa_spec _ w1 hB.t1.1 hB.t1.2) ?_⟩
    rintro v w2 ⟨rfl, S2⟩
    have T2 := Same.more (B := 0) T1 S2
    have c5 := x.mc T2 5 (by decide)
    rw [x.inv.v5] at c5
    refine ⟨_, rfl, _, c5, RunsQ.post (Itoa_spec _ w2 hB.m0.1 hB.m0.2) ?_⟩
    rintro v w3 ⟨rfl, S3⟩
    have T3 := Same.more (B := 0) T2 S3
    have c6 := x.mc T3 6 (by decide)
    rw [x.inv.v6] at c6
    refine ⟨_, rfl, _, c6, RunsQ.post (Itoa_spec _ w3 hB.m1.1 hB.m1.2) ?_⟩
    rintro v w4 ⟨rfl, S4⟩
    have T4 := Same.more (B := 0) T3 S4
    have c9 := x.mc T4 9 (by decide)
    rw [x.inv.s9] at c9
    refine ⟨_, rfl, _, c9, RunsQ.post (Itoa_spec _ w4 hB.s0.1 hB.s0.2) ?_⟩
    rintro v w5 ⟨rfl, S5⟩
    have T5 := Same.more (B := 0) T4 S5
    have h1 := sh3_size x.B P.nf (Nat.le_refl _); have := x.B.nf; have i1 := itoa_size P.tmin; have i2 := itoa_size P.tmax; have i3 := itoa_size P.mmin; have i4 := itoa_size P.mmax; have i5 := itoa_size P.start
    exact ⟨_, rfl, by (simp only [ByteArray.size_append, bsz, List.size_toArray, List.length_cons, List.length_nil]; omega), by (simp only [ByteArray.size_append, bsz, List.size_toArray, List.length_cons, List.length_nil]; omega), by (simp only [ByteArray.size_append, bsz, List.size_toArray, List.length_cons, List.length_nil]; omega), by (simp only [ByteArray.size_append, bsz, List.size_toArray, List.length_cons, List.length_nil]; omega), by (simp only [ByteArray.size_append, bsz, List.size_toArray, List.length_cons, List.length_nil]; omega), by (simp only [ByteArray.size_append, bsz, List.size_toArray, List.length_cons, List.length_nil]; omega), by (simp only [ByteArray.size_append, bsz, List.size_toArray, List.length_cons, List.length_nil]; omega), by (simp only [ByteArray.size_append, bsz, List.size_toArray, List.length_cons, List.length_nil]; omega), by (simp only [ByteArray.size_append, bsz, List.size_toArray, List.length_cons, List.length_nil]; omega), by (simp only [ByteArray.size_append, bsz, List.size_toArray, List.length_cons, List.length_nil]; omega), by (simp only [ByteArray.size_append, bsz, List.size_toArray, List.length_cons, List.length_nil]; omega), hN w5 T5⟩
  | succ k ih =>
    intro i w hi S
    have hb := x.B.nf
    refine api_Module_Show.step3 _ _ _ _ _ _ ?_
    unfold api_Module_Show.V3
    have c := x.mc S 2 (by decide)
    rw [ev] at c
    obtain ⟨b, rfl, lb, row, _⟩ := hrow (by omega)
    have row' : ∀ {w : World}, Same [] w0.heap.size w0 w → ∀ k u, (fnE (fr i))[k]? = some u → w.cell? ⟨b, i * 4 + k, none⟩ = some u := fun S k u hu => (S.cell (p := ⟨b, i * 4 + k, none⟩) lb (by simp)).trans (row i (by omega) k u hu)
    obtain ⟨f1, f2, f3, f4, f5⟩ := x.B.fn i (by omega)
    obtain ⟨g1, g2, ⟨ba, bc, g3, brow⟩, ta, tc, g4, trow⟩ := hfn i (by omega)
    have r0 : ∀ {w : World}, Same [] w0.heap.size w0 w → w.cell? ⟨b, i * 4, none⟩ = some (.int .i64 (P.fn i).ty) := fun S => by have := row' S 0 _ rfl; rw [g1] at this; exact this
    have r1 : ∀ {w : World}, Same [] w0.heap.size w0 w → w.cell? ⟨b, i * 4 + 1, none⟩ = some (.string (strOfNums (P.fn i).ls)) := fun S => by have := row' S 1 _ rfl; rw [g2] at this; exact this
    have r2 : ∀ {w : World}, Same [] w0.heap.size w0 w → w.cell? ⟨b, i * 4 + 2, none⟩ = some (.slice ba (P.fn i).nI bc) := fun S => by have := row' S 2 _ rfl; rw [g3] at this; exact this
    have r3 : ∀ {w : World}, Same [] w0.heap.size w0 w → w.cell? ⟨b, i * 4 + 3, none⟩ = some (.slice ta (P.fn i).nTab tc) := fun S => by have := row' S 3 _ rfl; rw [g4] at this; exact this
    simp only [nilV_some, Nat.zero_add]
    refine ⟨_, _, _, c, cond_true' (decide_eq_true (by omega)) ⟨_, _, _, c, by omega, ?_⟩⟩
    simp only [nilV_some, add_mk, Nat.zero_add, Int.toNat_natCast]
    refine ⟨_, r0 S, RunsQ.post (Itoa_spec _ w f1.1 f1.2) ?_⟩
    rintro v w1 ⟨rfl, S1⟩
    have T1 := Same.more (B := 0) S S1
    have c1 := x.mc T1 2 (by decide)
    rw [ev] at c1
    refine ⟨_, rfl, _, _, _, c1, by omega, ?_⟩
    simp only [nilV_some, add_mk, Nat.zero_add, Int.toNat_natCast]
    refine ⟨_, r1 T1, RunsQ.post (HexStr_spec _ w1 (by omega)) ?_⟩
    rintro v w2 ⟨rfl, S2⟩
    have T2 := Same.more (B := 0) T1 S2
    have c2 := x.mc T2 2 (by decide)
    rw [ev] at c2
    refine ⟨_, rfl, _, _, _, c2, by omega, ?_⟩
    simp only [nilV_some, add_mk, Nat.zero_add, Int.toNat_natCast]
    refine ⟨_, _, _, r2 T2, RunsQ.post (showBody_spec (f := (P.fn i).ins) (by omega) f4 (fun h0 => ?_)) ?_⟩
    · obtain ⟨nb, rfl, q4, q2, qf⟩ := brow h0
      exact ⟨nb, rfl, Nat.lt_of_lt_of_le q4 T2.size, fun j hj => (T2.cell (p := ⟨nb, _, none⟩) q4 (by simp)).trans (q2 j hj 0 _ rfl), fun j hj => (T2.cell (p := ⟨nb, _, none⟩) q4 (by simp)).trans (q2 j hj 1 _ rfl), fun j hj => (T2.cell (p := ⟨nb, _, none⟩) q4 (by simp)).trans (q2 j hj 2 _ rfl), fun j => (T2.frozen (p := ⟨nb, j, none⟩) q4 (by simp)).trans (qf j)⟩
    rintro v w3 ⟨rfl, S3⟩
    have T3 := Same.more (B := 0) T2 S3
    have c3 := x.mc T3 2 (by decide)
    rw [ev] at c3
    refine ⟨_, rfl, _, _, _, c3, by omega, ?_⟩
    simp only [nilV_some, add_mk, Nat.zero_add, Int.toNat_natCast]
    refine ⟨_, _, _, r3 T3, RunsQ.post (showU32s_spec (f := (P.fn i).tabs) (by omega) (fun h0 => ?_)) ?_⟩
    · obtain ⟨tb, rfl, lt', tr, _⟩ := trow h0
      refine ⟨tb, rfl, Nat.lt_of_lt_of_le lt' T3.size, fun j hj => ?_⟩
      have := tr j hj 0 _ rfl
      rw [Nat.mul_one, Nat.add_zero] at this
      exact (T3.cell (p := ⟨tb, j, none⟩) lt' (by simp)).trans this
    rintro v w4 ⟨rfl, S4⟩
    have T4 := Same.more (B := 0) T3 S4
    have h1 := sh3_size x.B i (by omega); have h2 := hexStr_size (strOfNums (P.fn i).ls); have h3 := itoa_size (P.fn i).ty; have h7 := showB_size (P.fn i).ins (P.fn i).nI; have h8 := showU_size (P.fn i).tabs (P.fn i).nTab
    refine ⟨_, rfl, by (simp only [ByteArray.size_append, bsz, List.size_toArray, List.length_cons, List.length_nil]; omega), by (simp only [ByteArray.size_append, bsz, List.size_toArray, List.length_cons, List.length_nil]; omega), by (simp only [ByteArray.size_append, bsz, List.size_toArray, List.length_cons, List.length_nil]; omega), by (simp only [ByteArray.size_append, bsz, List.size_toArray, List.length_cons, List.length_nil]; omega), by (simp only [ByteArray.size_append, bsz, List.size_toArray, List.length_cons, List.length_nil]; omega), by (simp only [ByteArray.size_append, bsz, List.size_toArray, List.length_cons, List.length_nil]; omega), by (simp only [ByteArray.size_append, bsz, List.size_toArray, List.length_cons, List.length_nil]; omega), by (simp only [ByteArray.size_append, bsz, List.size_toArray, List.length_cons, List.length_nil]; omega), ?_⟩
    rw [nx i (by omega)]
    exact ih (i + 1) w4 (by omega) T4

theorem gL2 (x : Gx w0 mb m P) (hQ : Q = fun _ _ => False) (hN : ∀ w', Same [] w0.heap.size w0 w' → api_Module_Show.L3 (some ⟨mb, 0, none⟩) (sh3 P 0) 0 R Q w') : ∀ (k i : Nat) (w : World), i + k = P.nIm → Same [] w0.heap.size w0 w → api_Module_Show.L2 (some ⟨mb, 0, none⟩) (sh2 P i) (i : Int) R Q w := by
  subst hQ
  obtain ⟨a, cc, ev, hrow⟩ := x.inv.i1
  intro k
  induction k with
  | zero =>
    intro i w hi S
    obtain rfl : i = P.nIm := by omega
    refine api_Module_Show.step2 _ _ _ _ _ _ ?_
    unfold api_Module_Show.V2
    have c := x.mc S 1 (by decide)
    rw [ev] at c
    simp only [nilV_some, Nat.zero_add]
    exact ⟨_, _, _, c, cond_false' (decide_eq_false (by omega)) (hN w S)⟩
  | succ k ih =>
    intro i w hi S
    have hb := x.B.nIm
    refine api_Module_Show.step2 _ _ _ _ _ _ ?_
    unfold api_Module_Show.V2
    have c := x.mc S 1 (by decide)
    rw [ev] at c
    obtain ⟨b, rfl, lb, row, _⟩ := hrow (by omega)
    have row' : ∀ {w : World}, Same [] w0.heap.size w0 w → ∀ k u, (impE (P.im i))[k]? = some u → w.cell? ⟨b, i * 3 + k, none⟩ = some u := fun S k u hu => (S.cell (p := ⟨b, i * 3 + k, none⟩) lb (by simp)).trans (row i (by omega) k u hu)
    obtain ⟨z1, z2, z3⟩ := x.B.im i (by omega)
    simp only [nilV_some, Nat.zero_add]
    refine ⟨_, _, _, c, cond_true' (decide_eq_true (by omega)) ⟨_, _, _, c, by omega, ?_⟩⟩
    simp only [nilV_some, add_mk, Nat.zero_add, Int.toNat_natCast]
    refine ⟨_, row' S 0 _ rfl, RunsQ.post (HexStr_spec _ w (by omega)) ?_⟩
    rintro v w1 ⟨rfl, S1⟩
    have T1 := Same.more (B := 0) S S1
    have c1 := x.mc T1 1 (by decide)
    rw [ev] at c1
    refine ⟨_, rfl, _, _, _, c1, by omega, ?_⟩
    simp only [nilV_some, add_mk, Nat.zero_add, Int.toNat_natCast]
    refine ⟨_, row' T1 1 _ rfl, RunsQ.post (HexStr_spec _ w1 (by omega)) ?_⟩
    rintro v w2 ⟨rfl, S2⟩
    have T2 := Same.more (B := 0) T1 S2
    have c2 := x.mc T2 1 (by decide)
    rw [ev] at c2
    refine ⟨_, rfl, _, _, _, c2, by omega, ?_⟩
    simp only [nilV_some, add_mk, Nat.zero_add, Int.toNat_natCast]
    refine ⟨_, row' T2 2 _ rfl, RunsQ.post (Itoa_spec _ w2 z3.1 z3.2) ?_⟩
    rintro v w3 ⟨rfl, S3⟩
    have h1 := sh2_size x.B i (by omega); have h2 := hexStr_size (P.im i).md; have h3 := hexStr_size (P.im i).nm; have h4 := itoa_size (P.im i).ty
    refine ⟨_, rfl, by (simp only [ByteArray.size_append, bsz, List.size_toArray, List.length_cons, List.length_nil]; omega), by (simp only [ByteArray.size_append, bsz, List.size_toArray, List.length_cons, List.length_nil]; omega), by (simp only [ByteArray.size_append, bsz, List.size_toArray, List.length_cons, List.length_nil]; omega), by (simp only [ByteArray.size_append, bsz, List.size_toArray, List.length_cons, List.length_nil]; omega), by (simp only [ByteArray.size_append, bsz, List.size_toArray, List.length_cons, List.length_nil]; omega), by (simp only [ByteArray.size_append, bsz, List.size_toArray, List.length_cons, List.length_nil]; omega), ?_⟩
    rw [nx i (by omega)]
    exact ih (i + 1) w3 (by omega) (Same.more (B := 0) T2 S3)

theorem gL1 (x : Gx w0 mb m P) (hQ : Q = fun _ _ => False) (hN : ∀ w', Same [] w0.heap.size w0 w' → api_Module_Show.L2 (some ⟨mb, 0, none⟩) (sh2 P 0) 0 R Q w') : ∀ (k i : Nat) (w : World), i + k = P.nTy → Same [] w0.heap.size w0 w → api_Module_Show.L1 (some ⟨mb, 0, none⟩) (sh1 P i) (i : Int) R Q w := by
  subst hQ
  obtain ⟨a, cc, ev, hrow⟩ := x.inv.t0
  intro k
  induction k with
  | zero =>
    intro i w hi S
    obtain rfl : i = P.nTy := by omega
    refine api_Module_Show.step1 _ _ _ _ _ _ ?_
    unfold api_Module_Show.V1
    have c := x.mc S 0 (by decide)
    rw [ev] at c
    have h1 := sh1_size x.B P.nTy (Nat.le_refl _); have hb := x.B.nTy
    simp only [nilV_some, Nat.zero_add]
    exact ⟨_, _, _, c, cond_false' (decide_eq_false (by omega)) ⟨by (simp only [ByteArray.size_append, bsz, List.size_toArray, List.length_cons, List.length_nil]; omega), hN w S⟩⟩
  | succ k ih =>
    intro i w hi S
    have hb := x.B.nTy
    refine api_Module_Show.step1 _ _ _ _ _ _ ?_
    unfold api_Module_Show.V1
    have c := x.mc S 0 (by decide)
    rw [ev] at c
    obtain ⟨b, rfl, lb, row, _⟩ := hrow (by omega)
    have row' := (S.cell (p := ⟨b, i * 1 + 0, none⟩) lb (by simp)).trans (row i (by omega) 0 _ rfl)
    rw [Nat.mul_one, Nat.add_zero] at row'
    have z1 := x.B.ty i (by omega)
    simp only [nilV_some, Nat.zero_add]
    refine ⟨_, _, _, c, cond_true' (decide_eq_true (by omega)) ⟨_, _, _, c, by omega, ?_⟩⟩
    simp only [nilV_some, add_mk, Nat.zero_add, Int.toNat_natCast, Nat.mul_one]
    refine ⟨_, row', RunsQ.post (HexStr_spec _ w (by omega)) ?_⟩
    rintro v w1 ⟨rfl, S1⟩
    have h1 := sh1_size x.B i (by omega); have h2 := hexStr_size (P.ty i)
    refine ⟨_, rfl, by (simp only [ByteArray.size_append, bsz, List.size_toArray, List.length_cons, List.length_nil]; omega), by (simp only [ByteArray.size_append, bsz, List.size_toArray, List.length_cons, List.length_nil]; omega), ?_⟩
    rw [nx i (by omega)]
    exact ih (i + 1) w1 (by omega) (Same.more (B := 0) S S1)

theorem GShow_spec (x : Gx w0 mb m P) : Runs Try.prog api_Module_Show.id #[rp mb] w0 fun v w' => v = .string (showP P) ∧ Same [] w0.heap.size w0 w' := by
  refine api_Module_Show.enter _ _ _ _ ?_
  unfold api_Module_Show.V
  refine cond_false' rfl ?_
  refine gL1 x rfl (fun w1 S1 => gL2 x rfl (fun w2 S2 => gL3 x rfl (fun w3 S3 => gL4 x rfl (fun w4 S4 => gL6 x rfl (fun w5 S5 => gL7 x rfl (fun w6 S6 => gL8 x rfl (fun w7 S7 => ⟨rfl, S7⟩) P.nD 0 w6 (by omega) S6) P.nEl 0 w5 (by omega) S5) P.nEx 0 w4 (by omega) S4) P.gn 0 w3 (by omega) S3) P.nf 0 w2 (by omega) S2) P.nIm 0 w1 (by omega) S1) P.nTy 0 w0 (by omega) (Same.refl _ _ _)
end

end Go.Proofs.Qxb6500316a
