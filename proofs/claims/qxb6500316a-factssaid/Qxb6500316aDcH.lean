/-
  The sections' readers: start, functions, types, globals, codes.
-/
import Derived.Test.Qxb6500316aDcG
set_option linter.unusedSimpArgs false
set_option linter.unusedVariables false
set_option maxRecDepth 100000
set_option linter.unusedSectionVars false
namespace Go.Proofs.Qxb6500316a
open Go Go.Vc
variable [OutOf]

/-- The module's twelve cells. -/
structure ModAt (w : World) (mb : Nat) (m : Nat → Value) : Prop where
  c : ∀ j, j < 12 → w.cell? ⟨mb, j, none⟩ = some (m j)
  f : ∀ j, w.frozen? ⟨mb, j, none⟩ = false
theorem ModAt.lt {w : World} {mb : Nat} {m : Nat → Value} (h : ModAt w mb m) : mb < w.heap.size := cell_lt (h.c 0 (by decide))
theorem ModAt.drew {w : World} {mb : Nat} {m : Nat → Value} (h : ModAt w mb m) : ModAt w.drew mb m := ⟨h.c, h.f⟩
theorem ModAt.same {w w' : World} {mb : Nat} {m : Nat → Value} (h : ModAt w mb m) {S : List Nat} {B : Nat} (hs : Same S B w w') (hb : mb < B) (hS : mb ∉ S) : ModAt w' mb m :=
  ⟨fun j hj => by rw [hs.cell hb hS]; exact h.c j hj, fun j => by rw [hs.frozen hb hS]; exact h.f j⟩
theorem ModAt.can {w : World} {mb : Nat} {m : Nat → Value} (h : ModAt w mb m) (k : Nat) (hk : k < 12) : can w ⟨mb, k, none⟩ := ⟨⟨_, h.c k hk⟩, h.f k⟩
theorem ModAt.set {w : World} {mb : Nat} {m : Nat → Value} (h : ModAt w mb m) (k : Nat) (hk : k < 12) (v : Value) : ModAt (w.setCell ⟨mb, k, none⟩ v) mb (upd m k v) := by
  refine ⟨fun j hj => ?_, fun j => by simpa using h.f j⟩
  rw [cell_setCell]
  unfold upd
  by_cases hjk : j = k
  · rw [if_pos ⟨rfl, hjk⟩, if_pos hjk, h.c j hj]; rfl
  · rw [if_neg (by omega), if_neg hjk]; exact h.c j hj

/-! ### Rows in memory -/
/-- Row j of block b holds what enc says of f j. -/
structure RowF {α : Type} (enc : α → List Value) (sz : Nat) (w : World) (b n : Nat) (f : Nat → α) : Prop where
  c : ∀ j, j < n → ∀ k v, (enc (f j))[k]? = some v → w.cell? ⟨b, j * sz + k, none⟩ = some v
  f : ∀ j, w.frozen? ⟨b, j, none⟩ = false
theorem RowF.same {α : Type} {enc : α → List Value} {sz : Nat} {w w' : World} {b n : Nat} {f : Nat → α} (h : RowF enc sz w b n f) {S : List Nat} {B : Nat} (hs : Same S B w w') (hb : b < B) (hS : b ∉ S) : RowF enc sz w' b n f :=
  ⟨fun j hj k v hv => by rw [hs.cell hb hS]; exact h.c j hj k v hv, fun j => by rw [hs.frozen hb hS]; exact h.f j⟩
theorem RowF.drew {α : Type} {enc : α → List Value} {sz : Nat} {w : World} {b n : Nat} {f : Nat → α} (h : RowF enc sz w b n f) : RowF enc sz w.drew b n f := ⟨h.c, h.f⟩
theorem RowF.can {α : Type} {enc : α → List Value} {sz : Nat} {w : World} {b n : Nat} {f : Nat → α} (h : RowF enc sz w b n f) (hl : ∀ a, (enc a).length = sz) (j k : Nat) (hj : j < n) (hk : k < sz) : can w ⟨b, j * sz + k, none⟩ := by
  have hk' : k < (enc (f j)).length := by rw [hl]; exact hk
  exact ⟨⟨_, h.c j hj k _ (List.getElem?_eq_getElem hk')⟩, h.f _⟩
theorem row_ne {sz i j k k' : Nat} (hk : k < sz) (hk' : k' < sz) (h : j ≠ i) : j * sz + k' ≠ i * sz + k := by
  rcases Nat.lt_or_ge j i with g | g
  · have := Nat.mul_le_mul_right sz (show j + 1 ≤ i from g)
    rw [Nat.add_mul, Nat.one_mul] at this
    omega
  · have := Nat.mul_le_mul_right sz (show i + 1 ≤ j by omega)
    rw [Nat.add_mul, Nat.one_mul] at this
    omega
theorem RowF.set1 {α : Type} {enc : α → List Value} {sz : Nat} {w : World} {b n : Nat} {f : Nat → α} (h : RowF enc sz w b n f) (hl : ∀ a, (enc a).length = sz) (i k : Nat) (hk : k < sz) (v : Value) (a' : α) (he : enc a' = (enc (f i)).set k v) : RowF enc sz (w.setCell ⟨b, i * sz + k, none⟩ v) b n (upd f i a') := by
  refine ⟨fun j hj k' v' hv => ?_, fun j => by simpa using h.f j⟩
  rw [cell_setCell]
  unfold upd at hv
  by_cases hji : j = i
  · subst hji
    rw [if_pos rfl, he, List.getElem?_set] at hv
    by_cases hkk : k = k'
    · subst hkk
      rw [if_pos ⟨rfl, rfl⟩]
      rw [if_pos rfl, hl, if_pos hk] at hv
      have hk' : k < (enc (f j)).length := by rw [hl]; exact hk
      rw [h.c j hj k _ (List.getElem?_eq_getElem hk')]
      exact hv
    · rw [if_neg hkk] at hv
      rw [if_neg (by omega)]
      exact h.c j hj k' v' hv
  · rw [if_neg hji] at hv
    have hk' : k' < sz := by
      rcases Nat.lt_or_ge k' sz with g | g
      · exact g
      · rw [List.getElem?_eq_none (by rw [hl]; exact g)] at hv; cases hv
    have := row_ne (i := i) (j := j) hk hk' hji
    rw [if_neg (by omega)]
    exact h.c j hj k' v' hv
theorem RowF.put3 {α : Type} {enc : α → List Value} {sz : Nat} {w : World} {b n : Nat} {f : Nat → α} (h : RowF enc sz w b n f) (hl : ∀ a, (enc a).length = sz) (i k : Nat) (hi : i < n) (hk : k + 3 ≤ sz) (v0 v1 v2 : Value) (a' : α) (he : enc a' = (((enc (f i)).set k v0).set (k + 1) v1).set (k + 2) v2) {K : World → Prop}
    (hK : ∀ w', RowF enc sz w' b n (upd f i a') → (∀ B, Same [b] B w w') → K w') : putCells w ⟨b, i * sz + k, none⟩ [v0, v1, v2] K := by
  refine putCells_intro b _ _ w K (fun j hj => ?_) (fun w' hF => hK w' ⟨fun j hj k' v' hv => ?_, fun j => by rw [hF.frozen]; exact h.f j⟩ hF.same)
  · rw [Nat.add_assoc]; exact h.can hl i (k + j) hi (by simp at hj; omega)
  · have hk' : k' < sz := by
      rcases Nat.lt_or_ge k' sz with g | g
      · exact g
      · rw [List.getElem?_eq_none (by rw [hl]; exact g)] at hv; cases hv
    rw [hF.cell]
    unfold upd at hv
    simp only [List.length_cons, List.length_nil]
    by_cases hji : j = i
    · subst hji
      rw [if_pos rfl, he, List.getElem?_set, List.getElem?_set, List.getElem?_set] at hv
      simp only [List.length_set, hl] at hv
      by_cases g2 : k + 2 = k'
      · subst g2
        rw [if_pos rfl, if_pos hk'] at hv
        rw [if_pos ⟨trivial, by omega, by omega⟩, show j * sz + (k + 2) - (j * sz + k) = 2 by omega]
        exact hv
      · rw [if_neg g2] at hv
        by_cases g1 : k + 1 = k'
        · subst g1
          rw [if_pos rfl, if_pos hk'] at hv
          rw [if_pos ⟨trivial, by omega, by omega⟩, show j * sz + (k + 1) - (j * sz + k) = 1 by omega]
          exact hv
        · rw [if_neg g1] at hv
          by_cases g0 : k = k'
          · subst g0
            rw [if_pos rfl, if_pos hk'] at hv
            rw [if_pos ⟨trivial, by omega, by omega⟩, Nat.sub_self]
            exact hv
          · rw [if_neg g0] at hv
            rw [if_neg (by omega)]
            exact h.c j hj k' v' hv
    · rw [if_neg hji] at hv
      have n0 := row_ne (i := i) (j := j) (k := k) (by omega) hk' hji
      have n1 := row_ne (i := i) (j := j) (k := k + 1) (by omega) hk' hji
      have n2 := row_ne (i := i) (j := j) (k := k + 2) (by omega) hk' hji
      rw [if_neg (by omega)]
      exact h.c j hj k' v' hv
theorem upd_upd {α : Type} (f : Nat → α) (i : Nat) (a a' : α) : upd (upd f i a) i a' = upd f i a' := by
  funext j; unfold upd; by_cases h : j = i
  · rw [if_pos h, if_pos h]
  · rw [if_neg h, if_neg h, if_neg h]
theorem upd_at {α : Type} (f : Nat → α) (i : Nat) (a : α) : upd f i a i = a := by unfold upd; rw [if_pos rfl]

/-- A list of the module: nil, or a row of its own. -/
def SlF {α : Type} (enc : α → List Value) (sz : Nat) (w : World) (lo : Nat) (v : Value) (n : Nat) (f : Nat → α) : Prop :=
  (n = 0 ∧ v = .slice none 0 0) ∨ (n ≠ 0 ∧ ∃ b, v = .slice (some ⟨b, 0, none⟩) n n ∧ RowF enc sz w b n f ∧ lo < b ∧ b < w.heap.size)
theorem SlF.same {α : Type} {enc : α → List Value} {sz : Nat} {w w' : World} {lo : Nat} {v : Value} {n : Nat} {f : Nat → α} (h : SlF enc sz w lo v n f) {S : List Nat} (hs : Same S w.heap.size w w') (hS : ∀ k, k ∈ S → k ≤ lo) : SlF enc sz w' lo v n f := by
  rcases h with h | ⟨h0, b, h1, h2, h3, h4⟩
  · exact .inl h
  · exact .inr ⟨h0, b, h1, h2.same hs h4 (fun g => by have := hS b g; omega), h3, by have := hs.size; omega⟩

/-- What a section that lays a row into the module's cell k comes to. -/
def rowX {α : Type} (enc : α → List Value) (sz k : Nat) (m : Nat → Value) (c : Sc) (base : Nat) (a : Nat × (Nat → α)) (w' : World) (c' : Sc) (m' : Nat → Value) : Prop :=
  c' = c ∧ ((a.1 = 0 ∧ m' = m) ∨ (a.1 ≠ 0 ∧ ∃ tb, m' = upd m k (.slice (some ⟨tb, 0, none⟩) a.1 a.1) ∧ RowF enc sz w' tb a.1 a.2 ∧ base ≤ tb ∧ tb < w'.heap.size))
theorem rows_made {z : Value} {size : Nat} {α : Type} {enc : α → List Value} {w w' : World} {n : Nat} (a0 : α) (hz : ∀ k v, (enc a0)[k]? = some v → k < size ∧ z.cells[k]! = v)
    (hc : ∀ j, j < n * size → w'.cell? ⟨w.heap.size, j, none⟩ = some (z.cells[j % size]!)) (hf : ∀ j, w'.frozen? ⟨w.heap.size, j, none⟩ = false) : RowF enc size w' w.heap.size n (fun _ => a0) := by
  refine ⟨fun j hj k v hv => ?_, hf⟩
  obtain ⟨h1, h2⟩ := hz k v hv
  have := Nat.mul_le_mul_right size (show j + 1 ≤ n from hj)
  rw [Nat.add_mul, Nat.one_mul] at this
  rw [hc _ (by omega), Nat.add_comm (j * size) k, Nat.add_mul_mod_self_right, Nat.mod_eq_of_lt h1, h2]

/-- What stands in memory between two sections. -/
structure SCtx (w : World) (rb : Nat) (s : ByteArray) (p e b bi bt mb : Nat) (c : Sc) (m : Nat → Value) : Prop where
  rd : RdAt w rb s p e b
  tx : Txt s p e
  bn : BinAt w b bi bt c
  md : ModAt w mb m
  a1 : rb ≠ b
  a2 : rb ≠ bi
  a3 : rb ≠ bt
  a4 : mb ≠ rb
  a5 : mb ≠ b
  a6 : mb ≠ bi
  a7 : mb ≠ bt

section
variable {w : World} {rb : Nat} {s : ByteArray} {p e b bi bt mb : Nat} {c : Sc} {m : Nat → Value}

theorem SCtx.step (x : SCtx w rb s p e b bi bt mb c m) {w' : World} {q : Nat} (hR : RdAt w' rb s q e b) (hS : Same [rb] w.heap.size w w') (h2 : q ≤ e) : SCtx w' rb s q e b bi bt mb c m :=
  ⟨hR, ⟨h2, x.tx.es, x.tx.sz⟩, x.bn.keep hS (by simp; exact x.a1.symm) (by simp; exact x.a2.symm) (by simp; exact x.a3.symm), x.md.same hS x.md.lt (by simp; exact x.a4), x.a1, x.a2, x.a3, x.a4, x.a5, x.a6, x.a7⟩
/-- Blocks that are none of these change. -/
theorem SCtx.other (x : SCtx w rb s p e b bi bt mb c m) {w' : World} {S : List Nat} (hS : Same S w.heap.size w w') (s1 : rb ∉ S) (s2 : b ∉ S) (s3 : bi ∉ S) (s4 : bt ∉ S) (s5 : mb ∉ S) : SCtx w' rb s p e b bi bt mb c m :=
  ⟨x.rd.same hS x.rd.lt s1, x.tx, x.bn.keep hS s2 s3 s4, x.md.same hS x.md.lt s5, x.a1, x.a2, x.a3, x.a4, x.a5, x.a6, x.a7⟩
theorem SCtx.setm (x : SCtx w rb s p e b bi bt mb c m) (k : Nat) (hk : k < 12) (v : Value) : SCtx (w.setCell ⟨mb, k, none⟩ v) rb s p e b bi bt mb c (upd m k v) := by
  have hS : Same [mb] w.heap.size w (w.setCell ⟨mb, k, none⟩ v) := same_set k v
  have a4 := x.a4; have a5 := x.a5; have a6 := x.a6; have a7 := x.a7
  exact ⟨x.rd.same hS x.rd.lt (by simp; omega), x.tx, x.bn.keep hS (by simp; omega) (by simp; omega) (by simp; omega), x.md.set k hk v, x.a1, x.a2, x.a3, a4, a5, a6, a7⟩
theorem SCtx.setb (x : SCtx w rb s p e b bi bt mb c m) (k : Nat) (v : Value) {c' : Sc} (hB : BinAt (w.setCell ⟨b, k, none⟩ v) b bi bt c') : SCtx (w.setCell ⟨b, k, none⟩ v) rb s p e b bi bt mb c' m := by
  have hS : Same [b] w.heap.size w (w.setCell ⟨b, k, none⟩ v) := same_set k v
  exact ⟨x.rd.same hS x.rd.lt (by simp; exact x.a1), x.tx, hB, x.md.same hS x.md.lt (by simp; exact x.a5), x.a1, x.a2, x.a3, x.a4, x.a5, x.a6, x.a7⟩

/-- A section is read as the plain function says; X: what more holds of what it read. -/
def SecRuns {α : Type} (id : FuncId) (w : World) (rb : Nat) (s : ByteArray) (p e b bi bt mb : Nat) (r : Res α) (X : α → World → Sc → (Nat → Value) → Prop) : Prop :=
  RunsQ Try.prog id #[rp rb, rp mb] w (fun v w' => ∃ (a : α) (q : Nat) (c' : Sc) (m' : Nat → Value), r = .ok a q ∧ v = .tuple #[] ∧ p ≤ q ∧ q ≤ e ∧ SCtx w' rb s q e b bi bt mb c' m' ∧ X a w' c' m' ∧ Same [rb, b, bi, bt, mb] w.heap.size w w')
    (fun v w' => ∃ n a, r = .err n a ∧ v = faultV n a ∧ (∃ c', BinAt w' b bi bt c') ∧ Same [rb, b, bi, bt, mb] w.heap.size w w')

theorem SCtx.keep (x : SCtx w rb s p e b bi bt mb c m) {w' : World} (hS : Same [rb] w.heap.size w w') : ∃ c', BinAt w' b bi bt c' :=
  ⟨c, x.bn.keep hS (by simp; exact x.a1.symm) (by simp; exact x.a2.symm) (by simp; exact x.a3.symm)⟩

theorem s4 {w w' : World} {rb b bi bt mb : Nat} (h : Same [rb] w.heap.size w w') : Same [rb, b, bi, bt, mb] w.heap.size w w' := h.mono (Nat.le_refl _) (by intro k hk _; simp at hk ⊢; omega)

/-! ### start -/
theorem start_spec (x : SCtx w rb s p e b bi bt mb c m) : SecRuns bin_reader_start.id w rb s p e b bi bt mb (u32P s e p) (fun n _ c' m' => c' = c ∧ m' = upd m 9 (.int .i64 n)) := by
  refine bin_reader_start.enter _ _ _ _ _ ?_
  unfold bin_reader_start.V
  refine (u32_spec x.rd x.tx).into (fun n q w1 hn h1 h2 hR hS => ⟨_, rfl, ?_⟩) (fun n a w1 hn hS => ⟨n, a, hn, rfl, x.keep hS, s4 hS⟩)
  have x1 := x.step hR hS h2
  obtain ⟨r1, r2⟩ := u32P_rng hn
  have e1 : IntKind.wrap .i64 n = n := wrap_i64 (by omega) (by omega)
  simp only [nilV_some, Nat.zero_add]
  rw [e1]
  refine ⟨x1.md.can 9 (by decide), letW_intro fun w2 hw2 => ⟨n, q, c, _, hn, by trivial, h1, h2, ?_, ⟨rfl, rfl⟩, ?_⟩⟩
  · rw [hw2]; exact x1.setm 9 (by decide) _
  · rw [hw2]; exact (s4 hS).setCell (.inr (by simp)) _

/-! ### funcs -/
def funcsL (s : ByteArray) (e : Nat) : Nat → Nat → (Nat → Int) → Nat → Res (Nat → Int)
  | 0, _, ty, p => .ok ty p
  | k + 1, i, ty, p => (u32P s e p).bind fun t q => funcsL s e k (i + 1) (upd ty i t) q
theorem funcsL_succ (s : ByteArray) (e k i : Nat) (ty : Nat → Int) (p : Nat) : funcsL s e (k + 1) i ty p = (u32P s e p).bind fun t q => funcsL s e k (i + 1) (upd ty i t) q := rfl
def funcsP (s : ByteArray) (e : Nat) (ty : Nat → Int) (p : Nat) : Res (Nat × (Nat → Int)) := (countP s e 8 p).bind fun n q => (funcsL s e n 0 ty q).bind fun t q2 => .ok (n, t) q2

theorem funcs_loop {w0 : World} {n q0 p0 : Nat} (r : Res (Nat × (Nat → Int))) (hn : n ≤ 8) (hr0 : r = (funcsL s e n 0 c.types q0).bind fun t q2 => .ok (n, t) q2) :
    ∀ (k i : Nat) (ty : Nat → Int) (p : Nat) (w : World), i + k = n → SCtx w rb s p e b bi bt mb { c with types := ty } m → p0 ≤ p → Same [rb, b, bi, bt, mb] w0.heap.size w0 w → funcsL s e n 0 c.types q0 = funcsL s e k i ty p →
      bin_reader_funcs.L1 (some ⟨rb, 0, none⟩) n i (fun v w' => ∃ (a : Nat × (Nat → Int)) (q : Nat) (c' : Sc) (m' : Nat → Value), r = .ok a q ∧ v = .tuple #[] ∧ p0 ≤ q ∧ q ≤ e ∧ SCtx w' rb s q e b bi bt mb c' m' ∧ (c' = { { c with types := a.2 } with nT := a.1 } ∧ m' = m) ∧ Same [rb, b, bi, bt, mb] w0.heap.size w0 w')
        (fun v w' => ∃ n a, r = .err n a ∧ v = faultV n a ∧ (∃ c', BinAt w' b bi bt c') ∧ Same [rb, b, bi, bt, mb] w0.heap.size w0 w') w := by
  intro k
  induction k with
  | zero =>
    intro i ty p w hi x hp hS hu
    refine bin_reader_funcs.step1 _ _ _ _ _ _ ?_
    unfold bin_reader_funcs.V1
    refine cond_false' (decide_eq_false (by omega)) ?_
    simp only [nilV_some, Nat.zero_add]
    refine ⟨_, x.rd.c3, ?_⟩
    simp only [nilV_some, Nat.zero_add]
    refine ⟨x.bn.can 8 (by decide), letW_intro fun w1 hw1 => ⟨(n, ty), p, _, m, ?_, by trivial, hp, x.tx.pe, ?_, ⟨rfl, rfl⟩, ?_⟩⟩
    · rw [hr0, hu]; rfl
    · rw [hw1]; exact x.setb 8 _ (x.bn.setT n)
    · rw [hw1]; exact hS.setCell (.inr (by simp)) _
  | succ k ih =>
    intro i ty p w hi x hp hS hu
    rw [funcsL_succ s e k] at hu
    refine bin_reader_funcs.step1 _ _ _ _ _ _ ?_
    unfold bin_reader_funcs.V1
    refine cond_true' (decide_eq_true (by omega)) ?_
    refine (u32_spec x.rd x.tx).into (fun t q w1 ht h1 h2 hR hS1 => ⟨_, rfl, ?_⟩) (fun n a w1 ht hS1 => ⟨n, a, by rw [hr0, hu, ht]; rfl, rfl, x.keep hS1, hS.trans ((s4 hS1).mono hS.size (by intro k hk _; exact hk))⟩)
    have x1 := x.step hR hS1 h2
    obtain ⟨r1, r2⟩ := u32P_rng ht
    have e1 : IntKind.wrap .i64 t = t := wrap_i64 (by omega) (by omega)
    simp only [nilV_some, Nat.zero_add]
    refine ⟨_, x1.rd.c3, ?_⟩
    simp only [nilV_some, Nat.zero_add]
    refine ⟨by omega, ?_⟩
    rw [e1, Int.toNat_natCast, add_mk, Nat.zero_add, Nat.mul_one]
    refine ⟨x1.bn.can i (by omega), letW_intro fun w2 hw2 => ?_⟩
    have e2 : IntKind.wrap .i64 ((i : Int) + 1) = ((i + 1 : Nat) : Int) := by rw [wrap_i64 (by omega) (by omega)]; omega
    rw [e2]
    refine ih (i + 1) (upd ty i t) q w2 (by omega) ?_ (by omega) ?_ (by rw [hu, ht]; rfl)
    · rw [hw2]; exact x1.setb i _ (x1.bn.setTy i (by omega) t)
    · rw [hw2]; exact (hS.trans ((s4 hS1).mono hS.size (by intro k hk _; exact hk))).setCell (.inr (by simp)) _

theorem funcs_spec (x : SCtx w rb s p e b bi bt mb c m) : SecRuns bin_reader_funcs.id w rb s p e b bi bt mb (funcsP s e c.types p) (fun a _ c' m' => c' = { { c with types := a.2 } with nT := a.1 } ∧ m' = m) := by
  refine bin_reader_funcs.enter _ _ _ _ _ ?_
  unfold bin_reader_funcs.V
  refine (count_spec x.rd x.tx 8).into (fun n q w1 hn h1 h2 hR hS => ⟨_, rfl, ?_⟩) (fun n a w1 hn hS => ⟨n, a, by unfold funcsP; rw [hn]; rfl, rfl, x.keep hS, s4 hS⟩)
  have hle := countP_le hn
  have x1 := x.step hR hS h2
  exact funcs_loop (c := c) (m := m) (w0 := w) (p0 := p) (funcsP s e c.types p) (by omega) (by unfold funcsP; rw [hn]; rfl) n 0 c.types q w1 (by omega) x1 h1 (s4 hS) rfl

/-! ### types -/
def typesL (s : ByteArray) (e : Nat) : Nat → Nat → (Nat → ByteArray) → Nat → Res (Nat → ByteArray)
  | 0, _, f, p => .ok f p
  | k + 1, i, f, p => (fixedP s e 96 p).bind fun _ q => (valtypesP s e 4 q).bind fun a q2 => (valtypesP s e 1 q2).bind fun z q3 => typesL s e k (i + 1) (upd f i ((a ++ (⟨#[58]⟩ : ByteArray)) ++ z)) q3
theorem typesL_succ (s : ByteArray) (e k i : Nat) (f : Nat → ByteArray) (p : Nat) : typesL s e (k + 1) i f p = (fixedP s e 96 p).bind fun _ q => (valtypesP s e 4 q).bind fun a q2 => (valtypesP s e 1 q2).bind fun z q3 => typesL s e k (i + 1) (upd f i ((a ++ (⟨#[58]⟩ : ByteArray)) ++ z)) q3 := rfl
def typesP (s : ByteArray) (e p : Nat) : Res (Nat × (Nat → ByteArray)) := (countP s e 8 p).bind fun n q => (typesL s e n 0 (fun _ => ⟨#[]⟩) q).bind fun f q2 => .ok (n, f) q2

abbrev strE : ByteArray → List Value := fun s => [.string s]

theorem extract_size_le (s : ByteArray) (a b : Nat) : (s.extract a b).size ≤ s.size := by rw [ByteArray.size_extract]; omega

theorem valtypesP_size {s : ByteArray} {e : Nat} {mx : Int} {p q : Nat} {x : ByteArray} (h : valtypesP s e mx p = .ok x q) : x.size ≤ s.size := by
  unfold valtypesP at h
  cases h1 : countP s e mx p using Res.cs with
  | err c a => rw [h1] at h; cases h
  | ok n q1 =>
    rw [h1] at h
    simp only [Res.bind] at h
    cases h2 : valtypesL s e n q1 using Res.cs with
    | err c a => rw [h2] at h; cases h
    | ok u q2 =>
      rw [h2] at h
      (first | (injection h with z__; injection z__ with h3 h4) | injection h with h3 h4)
      rw [← h3]; exact extract_size_le _ _ _

theorem types_loop {w0 : World} {n q0 p0 tb : Nat} (r : Res (Nat × (Nat → ByteArray))) (hn : n ≤ 8) (hn0 : n ≠ 0) (htb : w0.heap.size ≤ tb) (hr0 : r = (typesL s e n 0 (fun _ => ⟨#[]⟩) q0).bind fun t q2 => .ok (n, t) q2)
    (l0 : rb < w0.heap.size) (l1 : b < w0.heap.size) (l2 : bi < w0.heap.size) (l3 : bt < w0.heap.size) (l4 : mb < w0.heap.size) :
    ∀ (k i : Nat) (f : Nat → ByteArray) (p : Nat) (w : World), i + k = n → SCtx w rb s p e b bi bt mb c m → RowF strE 1 w tb n f → tb < w.heap.size → p0 ≤ p → Same [rb, b, bi, bt, mb] w0.heap.size w0 w → typesL s e n 0 (fun _ => ⟨#[]⟩) q0 = typesL s e k i f p →
      bin_reader_types.L1 (some ⟨rb, 0, none⟩) (some ⟨mb, 0, none⟩) n (some ⟨tb, 0, none⟩) n n i (fun v w' => ∃ (a : Nat × (Nat → ByteArray)) (q : Nat) (c' : Sc) (m' : Nat → Value), r = .ok a q ∧ v = .tuple #[] ∧ p0 ≤ q ∧ q ≤ e ∧ SCtx w' rb s q e b bi bt mb c' m' ∧ rowX strE 1 0 m c w0.heap.size a w' c' m' ∧ Same [rb, b, bi, bt, mb] w0.heap.size w0 w')
        (fun v w' => ∃ n a, r = .err n a ∧ v = faultV n a ∧ (∃ c', BinAt w' b bi bt c') ∧ Same [rb, b, bi, bt, mb] w0.heap.size w0 w') w := by
  intro k
  induction k with
  | zero =>
    intro i f p w hi x hT hl hp hS hu
    refine bin_reader_types.step1 _ _ _ _ _ _ _ _ _ _ ?_
    unfold bin_reader_types.V1
    refine cond_false' (decide_eq_false (by omega)) ?_
    simp only [nilV_some]
    refine ⟨x.md.can 0 (by decide), letW_intro fun w1 hw1 => ⟨(n, f), p, c, _, ?_, by trivial, hp, x.tx.pe, ?_, ⟨rfl, .inr ⟨hn0, tb, rfl, ?_, htb, ?_⟩⟩, ?_⟩⟩
    · rw [hr0, hu]; rfl
    · rw [hw1]; exact x.setm 0 (by decide) _
    · rw [hw1]; exact hT.same (same_set 0 _) hl (by simp; omega)
    · rw [hw1]; simpa [World.setCell] using hl
    · rw [hw1]; exact hS.setCell (.inr (by simp)) _
  | succ k ih =>
    intro i f p w hi x hT hl hp hS hu
    rw [typesL_succ s e k] at hu
    have t3 := x.tx.sz
    have tr : ∀ {w1 : World}, Same [rb] w.heap.size w w1 → Same [rb, b, bi, bt, mb] w0.heap.size w0 w1 := fun h => hS.trans ((s4 h).mono hS.size (by intro k hk _; exact hk))
    refine bin_reader_types.step1 _ _ _ _ _ _ _ _ _ _ ?_
    unfold bin_reader_types.V1
    refine cond_true' (decide_eq_true (by omega)) ?_
    refine (fixed_spec x.rd x.tx 96).into (fun u1 q w1 ht h1 h2 hR hS1 => ⟨rfl, ?_⟩) (fun n a w1 ht hS1 => ⟨n, a, by rw [hr0, hu, ht]; rfl, rfl, x.keep hS1, tr hS1⟩)
    have x1 := x.step hR hS1 h2
    refine (valtypes_spec x1.rd x1.tx 4 (by decide)).into (fun a q2 w2 ha g1 g2 gR gS => ⟨_, rfl, ?_⟩) (fun n a w2 ha gS => ⟨n, a, by rw [hr0, hu, ht]; simp only [Res.bind]; rw [ha], rfl, x1.keep gS, (tr (hS1.trans (gS.mono hS1.size (by simp))))⟩)
    have x2 := x1.step gR gS g2
    have S2 := hS1.trans (gS.mono hS1.size (by simp))
    refine (valtypes_spec x2.rd x2.tx 1 (by decide)).into (fun z q3 w3 hz k1 k2 kR kS => ⟨_, rfl, ?_⟩) (fun n a2 w3 hz kS => ⟨n, a2, by rw [hr0, hu, ht]; simp only [Res.bind]; rw [ha]; simp only; rw [hz], rfl, x2.keep kS, (tr (S2.trans (kS.mono S2.size (by simp))))⟩)
    have x3 := x2.step kR kS k2
    have S3 := S2.trans (kS.mono S2.size (by simp))
    have z1 := valtypesP_size ha
    have z2 := valtypesP_size hz
    have z3 : (⟨#[58]⟩ : ByteArray).size = 1 := rfl
    have z4 : (a ++ (⟨#[58]⟩ : ByteArray)).size = a.size + 1 := by rw [ByteArray.size_append]; rfl
    refine ⟨by omega, by rw [z4]; omega, by omega, ?_⟩
    rw [nilV_some, Int.toNat_natCast, add_mk, Nat.zero_add, Nat.mul_one]
    have hT3 := hT.same S3 hl (by simp; omega)
    have hcan := hT3.can (fun _ => rfl) i 0 (by omega) (by decide)
    rw [Nat.mul_one, Nat.add_zero] at hcan
    refine ⟨hcan, letW_intro fun w4 hw4 => ?_⟩
    have e2 : IntKind.wrap .i64 ((i : Int) + 1) = ((i + 1 : Nat) : Int) := by rw [wrap_i64 (by omega) (by omega)]; omega
    rw [e2]
    have lr := x3.rd.lt
    have hl3 : tb < w3.heap.size := by have := S3.size; omega
    refine ih (i + 1) (upd f i ((a ++ (⟨#[58]⟩ : ByteArray)) ++ z)) q3 w4 (by omega) ?_ ?_ ?_ (by omega) ?_ (by rw [hu, ht]; simp only [Res.bind]; rw [ha]; simp only; rw [hz])
    · rw [hw4]; exact x3.other (S := [tb]) (same_set _ _) (by simp; omega) (by simp; omega) (by simp; omega) (by simp; omega) (by simp; omega)
    · have := hT3.set1 (fun _ => rfl) i 0 (by decide) (.string ((a ++ (⟨#[58]⟩ : ByteArray)) ++ z)) ((a ++ (⟨#[58]⟩ : ByteArray)) ++ z) rfl
      rw [Nat.mul_one, Nat.add_zero] at this
      rw [hw4]; exact this
    · rw [hw4]; simpa [World.setCell] using hl3
    · rw [hw4]; exact (tr S3).setCell (.inl htb) _

theorem types_spec (x : SCtx w rb s p e b bi bt mb c m) : SecRuns bin_reader_types.id w rb s p e b bi bt mb (typesP s e p) (rowX strE 1 0 m c w.heap.size) := by
  refine bin_reader_types.enter _ _ _ _ _ ?_
  unfold bin_reader_types.V
  refine (count_spec x.rd x.tx 8).into (fun n q w1 hn h1 h2 hR hS => ⟨_, rfl, ?_⟩) (fun n a w1 hn hS => ⟨n, a, by unfold typesP; rw [hn]; rfl, rfl, x.keep hS, s4 hS⟩)
  have hle := countP_le hn
  have x1 := x.step hR hS h2
  have hP : typesP s e p = (typesL s e n 0 (fun _ => ⟨#[]⟩) q).bind fun f q2 => .ok (n, f) q2 := by unfold typesP; rw [hn]; rfl
  by_cases hn0 : n = 0
  · subst hn0
    exact cond_true' rfl ⟨(0, fun _ => ⟨#[]⟩), q, c, m, by rw [hP]; rfl, rfl, h1, h2, x1, ⟨rfl, .inl ⟨rfl, rfl⟩⟩, s4 hS⟩
  · refine cond_false' (by rw [beq_eq_false_iff_ne]; omega) ?_
    obtain ⟨w2, hm, hc, hf, hS2, hl⟩ := make_rows T_sl_string.el w1 n (by omega) (by decide)
    refine ⟨_, _, _, w2, hm, ?_⟩
    have x2 : SCtx w2 rb s q e b bi bt mb c m := x1.other hS2 (by simp) (by simp) (by simp) (by simp) (by simp)
    have hT : RowF strE 1 w2 w1.heap.size n (fun _ => ⟨#[]⟩) := rows_made (z := .string ⟨#[]⟩) (⟨#[]⟩ : ByteArray) (fun k v hv => by
      match k, hv with
      | 0, hv => exact ⟨by decide, by (first | (injection hv with z__; injection z__) | injection hv)⟩) hc hf
    have sz := hS.size
    exact types_loop (c := c) (m := m) (w0 := w) (p0 := p) (typesP s e p) (by omega) hn0 sz hP x.rd.lt x.bn.ltb x.bn.lti x.bn.ltt x.md.lt n 0 _ q w2 (by omega) x2 hT hl h1 ((s4 hS).trans (hS2.mono sz (by simp))) rfl
end

end Go.Proofs.Qxb6500316a
