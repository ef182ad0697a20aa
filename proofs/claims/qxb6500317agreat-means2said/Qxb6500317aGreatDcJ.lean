/-
  The code section (no br_table).
-/
import Derived.Test.Qxb6500317aGreatDcK
set_option linter.unusedSimpArgs false
set_option linter.unusedVariables false
set_option maxRecDepth 100000
set_option linter.unusedSectionVars false
namespace Go.Proofs.Qxb6500317aGreat
open Go Go.Vc
variable [OutOf]

structure FnP where
  ty : Int
  ls : List Int
  nI : Nat
  ins : Nat → Ins
  nTab : Nat
  tabs : Nat → Int

def codesL (s : ByteArray) (e : Nat) : Nat → Nat → Sc → (Nat → FnP) → Nat → Res (Sc × (Nat → FnP))
  | 0, _, c, F, p => .ok (c, F) p
  | k + 1, i, c, F, p => (enterP s e p).bind fun n q => (localsP s (q + n) q).bind fun ls q1 => (bodyP s (q + n) c q1).bind fun c' q2 =>
    if q2 = q + n then codesL s e k (i + 1) c' (upd F i ⟨c.types i, ls, c'.nI, c'.ins, c'.nTab, c'.tabs⟩) q2 else .err 6 q
theorem codesL_succ (s : ByteArray) (e k i : Nat) (c : Sc) (F : Nat → FnP) (p : Nat) : codesL s e (k + 1) i c F p = (enterP s e p).bind fun n q => (localsP s (q + n) q).bind fun ls q1 => (bodyP s (q + n) c q1).bind fun c' q2 =>
    if q2 = q + n then codesL s e k (i + 1) c' (upd F i ⟨c.types i, ls, c'.nI, c'.ins, c'.nTab, c'.tabs⟩) q2 else .err 6 q := rfl
def fn0 : Nat → FnP := fun _ => ⟨0, [], 0, fun _ => ⟨0, 0, 0⟩, 0, fun _ => 0⟩
def codesP (s : ByteArray) (e : Nat) (c : Sc) (p : Nat) : Res (Nat × Sc × (Nat → FnP)) := (countP s e 8 p).bind fun n q => if n = c.nT then (codesL s e n 0 c fn0 q).bind fun x q2 => .ok (n, x.1, x.2) q2 else .err 12 p

/-- The functions' row, the first i of them filled. -/
structure FnRow (w : World) (base fb n i : Nat) (F : Nat → FnP) : Prop where
  c : ∀ j, j < n * 4 → ∃ v, w.cell? ⟨fb, j, none⟩ = some v
  f : ∀ j, w.frozen? ⟨fb, j, none⟩ = false
  c0 : ∀ j, j < i → w.cell? ⟨fb, j * 4, none⟩ = some (.int .i64 (F j).ty)
  c1 : ∀ j, j < i → w.cell? ⟨fb, j * 4 + 1, none⟩ = some (.string (strOfNums (F j).ls))
  c2 : ∀ j, j < i → ∃ nb, w.cell? ⟨fb, j * 4 + 2, none⟩ = some (.slice (some ⟨nb, 0, none⟩) (F j).nI (F j).nI) ∧ InsRow w nb (F j).nI (F j).ins ∧ base ≤ nb ∧ nb < w.heap.size ∧ nb ≠ fb
  c3 : ∀ j, j < i → ((F j).nTab = 0 ∧ w.cell? ⟨fb, j * 4 + 3, none⟩ = some (.slice none 0 0)) ∨ (0 < (F j).nTab ∧ ∃ tk, w.cell? ⟨fb, j * 4 + 3, none⟩ = some (.slice (some ⟨tk, 0, none⟩) (F j).nTab (F j).nTab) ∧ TabRow w tk (F j).nTab (F j).tabs ∧ base ≤ tk ∧ tk < w.heap.size ∧ tk ≠ fb)
  c4 : ∀ j, i ≤ j → j < n → w.cell? ⟨fb, j * 4 + 3, none⟩ = some (.slice none 0 0)
theorem FnRow.same {w w' : World} {base fb n i : Nat} {F : Nat → FnP} (h : FnRow w base fb n i F) {S : List Nat} (hs : Same S w.heap.size w w') (hb : fb < w.heap.size) (hS : fb ∉ S) (hSb : ∀ k, k ∈ S → k < base) : FnRow w' base fb n i F :=
  ⟨fun j hj => by rw [hs.cell hb hS]; exact h.c j hj, fun j => by rw [hs.frozen hb hS]; exact h.f j, fun j hj => by rw [hs.cell hb hS]; exact h.c0 j hj, fun j hj => by rw [hs.cell hb hS]; exact h.c1 j hj, fun j hj => by
    obtain ⟨nb, h1, h2, h3, h4, h5⟩ := h.c2 j hj
    have hn : nb ∉ S := fun g => by have := hSb nb g; omega
    exact ⟨nb, by rw [hs.cell hb hS]; exact h1, h2.same hs h4 hn, h3, by have := hs.size; omega, h5⟩, fun j hj => by
    rcases h.c3 j hj with ⟨h0, h1⟩ | ⟨h0, tk, h1, h2, h3, h4, h5⟩
    · exact .inl ⟨h0, by rw [hs.cell hb hS]; exact h1⟩
    · have hn : tk ∉ S := fun g => by have := hSb tk g; omega
      exact .inr ⟨h0, tk, by rw [hs.cell hb hS]; exact h1, h2.same hs h4 hn, h3, by have := hs.size; omega, h5⟩, fun j hj hj2 => by rw [hs.cell hb hS]; exact h.c4 j hj hj2⟩

def codesX (m : Nat → Value) (base : Nat) (a : Nat × Sc × (Nat → FnP)) (w' : World) (c' : Sc) (m' : Nat → Value) : Prop :=
  c' = a.2.1 ∧ ((a.1 = 0 ∧ m' = m) ∨ (a.1 ≠ 0 ∧ ∃ fb, m' = upd m 2 (.slice (some ⟨fb, 0, none⟩) a.1 a.1) ∧ FnRow w' base fb a.1 a.1 a.2.2 ∧ base ≤ fb ∧ fb < w'.heap.size))

section
variable {w : World} {rb : Nat} {s : ByteArray} {p e b bi bt mb : Nat} {c : Sc} {m : Nat → Value}

theorem codes_loop {w0 : World} {n q0 p0 fb : Nat} {cc : Sc} (r : Res (Nat × Sc × (Nat → FnP))) (hn : n ≤ 8) (hn0 : n ≠ 0) (hfb : w0.heap.size ≤ fb) (hr0 : r = (codesL s e n 0 cc fn0 q0).bind fun x q2 => .ok (n, x.1, x.2) q2)
    (l0 : rb < w0.heap.size) (l1 : b < w0.heap.size) (l2 : bi < w0.heap.size) (l3 : bt < w0.heap.size) (l4 : mb < w0.heap.size) :
    ∀ (k i : Nat) (c : Sc) (F : Nat → FnP) (p : Nat) (w : World), i + k = n → SCtx w rb s p e b bi bt mb c m → FnRow w w0.heap.size fb n i F → fb < w.heap.size → p0 ≤ p → Same [rb, b, bi, bt, mb] w0.heap.size w0 w → codesL s e n 0 cc fn0 q0 = codesL s e k i c F p →
      bin_reader_codes.L2 (some ⟨rb, 0, none⟩) (some ⟨mb, 0, none⟩) n (some ⟨fb, 0, none⟩) n n e i (fun v w' => ∃ (a : Nat × Sc × (Nat → FnP)) (q : Nat) (c' : Sc) (m' : Nat → Value), r = .ok a q ∧ v = .tuple #[] ∧ p0 ≤ q ∧ q ≤ e ∧ SCtx w' rb s q e b bi bt mb c' m' ∧ codesX m w0.heap.size a w' c' m' ∧ Same [rb, b, bi, bt, mb] w0.heap.size w0 w')
        (fun v w' => ∃ n a, r = .err n a ∧ v = faultV n a ∧ (∃ c', BinAt w' b bi bt c') ∧ Same [rb, b, bi, bt, mb] w0.heap.size w0 w') w := by
  intro k
  induction k with
  | zero =>
    intro i c F p w hi x hT hl hp hS hu
    have hin : i = n := by omega
    subst hin
    refine bin_reader_codes.step2 _ _ _ _ _ _ _ _ _ _ _ ?_
    unfold bin_reader_codes.V2
    refine cond_false' (decide_eq_false (by omega)) ?_
    simp only [nilV_some, Nat.zero_add]
    refine ⟨x.md.can 2 (by decide), letW_intro fun w1 hw1 => ⟨(i, c, F), p, c, _, ?_, by trivial, hp, x.tx.pe, ?_, ⟨rfl, .inr ⟨hn0, fb, rfl, ?_, hfb, ?_⟩⟩, ?_⟩⟩
    · rw [hr0, hu]; rfl
    · rw [hw1]; exact x.setm 2 (by decide) _
    · rw [hw1]; exact hT.same (same_set 2 _) hl (by simp; omega) (by simp; omega)
    · rw [hw1]; simpa [World.setCell] using hl
    · rw [hw1]; exact hS.setCell (.inr (by simp)) _
  | succ k ih =>
    intro i c F p w hi x hT hl hp hS hu
    rw [codesL_succ s e k] at hu
    have t2 := x.tx.es; have t3 := x.tx.sz
    have a1 := x.a1; have a2 := x.a2; have a3 := x.a3; have a4 := x.a4; have a5 := x.a5; have a6 := x.a6; have a7 := x.a7
    -- all that may change on the way
    have tr : ∀ {w1 : World}, Same [rb, b, bi, bt, fb] w.heap.size w w1 → Same [rb, b, bi, bt, mb] w0.heap.size w0 w1 := fun h => hS.trans (h.mono hS.size (by intro k hk hlt; simp at hk ⊢; omega))
    have s2 : ∀ {w1 w2 : World}, Same [rb] w1.heap.size w1 w2 → Same [rb, b, bi, bt, fb] w1.heap.size w1 w2 := fun h => h.mono (Nat.le_refl _) (by intro k hk _; simp at hk ⊢; omega)
    have s3 : ∀ {w1 w2 : World}, Same [fb] w1.heap.size w1 w2 → Same [rb, b, bi, bt, fb] w1.heap.size w1 w2 := fun h => h.mono (Nat.le_refl _) (by intro k hk _; simp at hk ⊢; omega)
    refine bin_reader_codes.step2 _ _ _ _ _ _ _ _ _ _ _ ?_
    unfold bin_reader_codes.V2
    refine cond_true' (decide_eq_true (by omega)) ?_
    refine (enter_spec x.rd x.tx).mono ?_ ?_
    rotate_left
    · rintro v w1 ⟨nn, a, hn1, rfl, hS1⟩
      exact ⟨nn, a, by rw [hr0, hu, hn1]; rfl, rfl, x.keep hS1, tr (s2 hS1)⟩
    rintro v w1 ⟨sz, q, hen, rfl, h1, h2, hR1, hS1⟩
    refine ⟨_, rfl, ?_⟩
    have hu1 : codesL s e n 0 cc fn0 q0 = (localsP s (q + sz) q).bind fun ls q1 => (bodyP s (q + sz) c q1).bind fun c' q2 => if q2 = q + sz then codesL s e k (i + 1) c' (upd F i ⟨c.types i, ls, c'.nI, c'.ins, c'.nTab, c'.tabs⟩) q2 else .err 6 q := by rw [hu, hen]; rfl
    have bn1 := x.bn.keep hS1 (by simp; omega) (by simp; omega) (by simp; omega)
    have md1 := x.md.same hS1 x.md.lt (by simp; omega)
    have hT1 := hT.same hS1 hl (by simp; omega) (by simp; omega)
    have T1 := s2 hS1
    simp only [nilV_some, Nat.zero_add]
    refine ⟨_, hR1.c3, ?_⟩
    simp only [nilV_some, Nat.zero_add, Int.toNat_natCast, add_mk, Nat.mul_one]
    have hl1 : fb < w1.heap.size := by have := T1.size; omega
    refine ⟨by omega, _, bn1.ty i (by omega), by omega, ?_⟩
    obtain ⟨v0, hv0⟩ := hT1.c (i * 4) (by omega)
    refine ⟨⟨⟨_, hv0⟩, hT1.f _⟩, letW_intro fun w2 hw2 => ?_⟩
    have S12 : Same [fb] w1.heap.size w1 w2 := by rw [hw2]; exact same_set _ _
    have rd2 := hR1.same S12 hR1.lt (by simp; omega)
    have bn2 := bn1.keep S12 (by simp; omega) (by simp; omega) (by simp; omega)
    have md2 := md1.same S12 md1.lt (by simp; omega)
    have T2 := T1.trans ((s3 S12).mono T1.size (by intro k hk _; exact hk))
    have e2 : ∀ j, w2.cell? ⟨fb, j, none⟩ = if j = i * 4 then some (.int .i64 (c.types i)) else w1.cell? ⟨fb, j, none⟩ := fun j => by
      rw [hw2, cell_setCell]
      by_cases hj : j = i * 4
      · rw [if_pos ⟨rfl, hj⟩, if_pos hj, hj, hv0]; rfl
      · rw [if_neg (by omega), if_neg hj]
    have f2 : ∀ j, w2.frozen? ⟨fb, j, none⟩ = false := fun j => by rw [hw2]; simpa using hT1.f j
    clear hw2
    have tx2 : Txt s q (q + sz) := ⟨by omega, by omega, t3⟩
    refine (locals_spec rd2 tx2).into (fun ls q1 w3 hls g1 g2 gR gS => ⟨_, rfl, by omega, ?_⟩) (fun nn a w3 hls gS => ⟨nn, a, by rw [hr0, hu1, hls]; rfl, rfl, ⟨c, bn2.keep gS (by simp; omega) (by simp; omega) (by simp; omega)⟩, tr (T2.trans ((s2 gS).mono T2.size (by intro k hk _; exact hk)))⟩)
    have hl2 : fb < w2.heap.size := by have := T2.size; omega
    have hu2 : codesL s e n 0 cc fn0 q0 = (bodyP s (q + sz) c q1).bind fun c' q2 => if q2 = q + sz then codesL s e k (i + 1) c' (upd F i ⟨c.types i, ls, c'.nI, c'.ins, c'.nTab, c'.tabs⟩) q2 else .err 6 q := by rw [hu1, hls]; rfl
    have bn3 := bn2.keep gS (by simp; omega) (by simp; omega) (by simp; omega)
    have md3 := md2.same gS md2.lt (by simp; omega)
    have T3 := T2.trans ((s2 gS).mono T2.size (by intro k hk _; exact hk))
    have e3 : ∀ j, w3.cell? ⟨fb, j, none⟩ = w2.cell? ⟨fb, j, none⟩ := fun j => gS.cell (p := ⟨fb, j, none⟩) hl2 (by simp; omega)
    have f3 : ∀ j, w3.frozen? ⟨fb, j, none⟩ = false := fun j => by rw [gS.frozen (p := ⟨fb, j, none⟩) hl2 (by simp; omega)]; exact f2 j
    obtain ⟨v1, hv1⟩ := hT1.c (i * 4 + 1) (by omega)
    have hv1' : w3.cell? ⟨fb, i * 4 + 1, none⟩ = some v1 := by rw [e3, e2, if_neg (by omega)]; exact hv1
    refine ⟨⟨⟨_, hv1'⟩, f3 _⟩, letW_intro fun w4 hw4 => ⟨by omega, ?_⟩⟩
    have S34 : Same [fb] w3.heap.size w3 w4 := by rw [hw4]; exact same_set _ _
    have rd4 := gR.same S34 gR.lt (by simp; omega)
    have bn4 := bn3.keep S34 (by simp; omega) (by simp; omega) (by simp; omega)
    have md4 := md3.same S34 md3.lt (by simp; omega)
    have T4 := T3.trans ((s3 S34).mono T3.size (by intro k hk _; exact hk))
    have e4 : ∀ j, w4.cell? ⟨fb, j, none⟩ = if j = i * 4 + 1 then some (.string (strOfNums ls)) else w3.cell? ⟨fb, j, none⟩ := fun j => by
      rw [hw4, cell_setCell]
      by_cases hj : j = i * 4 + 1
      · rw [if_pos ⟨rfl, hj⟩, if_pos hj, hj, hv1']; rfl
      · rw [if_neg (by omega), if_neg hj]
    have f4 : ∀ j, w4.frozen? ⟨fb, j, none⟩ = false := fun j => by rw [hw4]; simpa using f3 j
    clear hw4
    have hl4 : fb < w4.heap.size := by have := T4.size; omega
    obtain ⟨v2, hv2⟩ := hT1.c (i * 4 + 2) (by omega)
    have hv2' : w4.cell? ⟨fb, i * 4 + 2, none⟩ = some v2 := by rw [e4, if_neg (by omega), e3, e2, if_neg (by omega)]; exact hv2
    obtain ⟨v3, hv3⟩ := hT1.c (i * 4 + 3) (by omega)
    have hv3' : w4.cell? ⟨fb, i * 4 + 3, none⟩ = some v3 := by rw [e4, if_neg (by omega), e3, e2, if_neg (by omega)]; exact hv3
    have ba := x.bn.n1; have bb := x.bn.n2; have bc := x.bn.n3
    refine (body_spec rd4 ⟨g2, by omega, t3⟩ bn4 ⟨a1, a2, a3, by omega, by omega, by omega, by omega, ba, bb, bc⟩ ⟨⟨_, hv2'⟩, f4 _⟩ ⟨⟨_, hv3'⟩, f4 _⟩).mono ?_ ?_
    rotate_left
    · rintro v w5 ⟨nn, a, hb5, rfl, hBe, hS5⟩
      exact ⟨nn, a, by rw [hr0, hu2, hb5]; rfl, rfl, hBe, tr (T4.trans (hS5.mono T4.size (by intro k hk _; exact hk)))⟩
    rintro v w5 ⟨c5, q5, nb, hb5, rfl, k1, k2, rd5, bn5, ir5, cb5, ta5, ce5, fe5, nb0, nb1, hS5⟩
    refine ⟨rfl, ?_⟩
    have T5 := T4.trans (hS5.mono T4.size (by intro k hk _; exact hk))
    have hu3 : codesL s e n 0 cc fn0 q0 = if q5 = q + sz then codesL s e k (i + 1) c5 (upd F i ⟨c.types i, ls, c5.nI, c5.ins, c5.nTab, c5.tabs⟩) q5 else .err 6 q := by rw [hu2, hb5]; rfl
    have hl5 : fb < w5.heap.size := by have := T5.size; omega
    refine (leave_spec rd5 q e).mono ?_ ?_
    rotate_left
    · rintro v w6 ⟨hne, rfl, hS6⟩
      exact ⟨6, q, by rw [hr0, hu3, if_neg hne]; rfl, rfl, ⟨c5, bn5.keep hS6 (by simp; omega) (by simp; omega) (by simp; omega)⟩, tr (T5.trans ((s2 hS6).mono T5.size (by intro k hk _; exact hk)))⟩
    rintro v w6 ⟨heq, rfl, rd6, hS6⟩
    refine ⟨rfl, ?_⟩
    rw [if_pos heq] at hu3
    have T6 := T5.trans ((s2 hS6).mono T5.size (by intro k hk _; exact hk))
    have bn6 := bn5.keep hS6 (by simp; omega) (by simp; omega) (by simp; omega)
    have md5 : ModAt w5 mb m := md4.same hS5 md4.lt (by simp; omega)
    have md6 := md5.same hS6 md5.lt (by simp; omega)
    have e6 : ∀ j, w6.cell? ⟨fb, j, none⟩ = w5.cell? ⟨fb, j, none⟩ := fun j => hS6.cell (p := ⟨fb, j, none⟩) hl5 (by simp; omega)
    have f6 : ∀ j, w6.frozen? ⟨fb, j, none⟩ = false := fun j => by rw [hS6.frozen (p := ⟨fb, j, none⟩) hl5 (by simp; omega), fe5]; exact f4 j
    have E : ∀ j, j ≠ i * 4 → j ≠ i * 4 + 1 → j ≠ i * 4 + 2 → j ≠ i * 4 + 3 → w6.cell? ⟨fb, j, none⟩ = w1.cell? ⟨fb, j, none⟩ := fun j j0 j1 j2 j3 => by rw [e6, ce5 j j2 j3, e4, if_neg j1, e3, e2, if_neg j0]
    have e7 : IntKind.wrap .i64 ((i : Int) + 1) = ((i + 1 : Nat) : Int) := by rw [wrap_i64 (by omega) (by omega)]; omega
    rw [e7]
    have sz1 : w0.heap.size ≤ w.heap.size := hS.size
    have sz4 := T4.size
    have sz6 := hS6.size
    have nbfb : nb ≠ fb := by omega
    refine ih (i + 1) c5 (upd F i ⟨c.types i, ls, c5.nI, c5.ins, c5.nTab, c5.tabs⟩) q5 w6 (by omega) ⟨rd6, ⟨by omega, t2, t3⟩, bn6, md6, a1, a2, a3, a4, a5, a6, a7⟩ ?_ (by omega) (by omega) (tr T6) hu3
    have W : Same [rb, b, bi, bt, fb] w1.heap.size w1 w6 := ((s3 S12).trans ((s2 gS).mono S12.size (by intro k hk _; exact hk))).trans (((s3 S34).mono (Nat.le_trans S12.size gS.size) (by intro k hk _; exact hk)) |>.trans ((hS5.mono (by have := S12.size; have := gS.size; have := S34.size; omega) (by intro k hk _; exact hk)).trans ((s2 hS6).mono (by have := S12.size; have := gS.size; have := S34.size; have := hS5.size; omega) (by intro k hk _; exact hk))))
    refine ⟨fun j hj => ?_, f6, fun j hj => ?_, fun j hj => ?_, fun j hj => ?_, fun j hj => ?_, fun j hj hj2 => ?_⟩
    · by_cases j0 : j = i * 4
      · exact ⟨_, by rw [e6, ce5 j (by omega) (by omega), e4, if_neg (by omega), e3, e2, if_pos j0]⟩
      by_cases j1 : j = i * 4 + 1
      · exact ⟨_, by rw [e6, ce5 j (by omega) (by omega), e4, if_pos j1]⟩
      by_cases j2 : j = i * 4 + 2
      · subst j2; exact ⟨_, by rw [e6]; exact cb5⟩
      by_cases j3 : j = i * 4 + 3
      · subst j3
        rcases ta5 with ⟨_, h⟩ | ⟨_, tk, h, _⟩
        · exact ⟨v3, by rw [e6, h]; exact hv3'⟩
        · exact ⟨_, by rw [e6]; exact h⟩
      · rw [E j j0 j1 j2 j3]; exact hT1.c j hj
    · unfold upd
      by_cases hj2 : j = i
      · subst hj2; rw [if_pos rfl, e6, ce5 _ (by omega) (by omega), e4, if_neg (by omega), e3, e2, if_pos rfl]
      · rw [if_neg hj2, E _ (by omega) (by omega) (by omega) (by omega)]; exact hT1.c0 j (by omega)
    · unfold upd
      by_cases hj2 : j = i
      · subst hj2; rw [if_pos rfl, e6, ce5 _ (by omega) (by omega), e4, if_pos rfl]
      · rw [if_neg hj2, E _ (by omega) (by omega) (by omega) (by omega)]; exact hT1.c1 j (by omega)
    · unfold upd
      by_cases hj2 : j = i
      · subst hj2; rw [if_pos rfl]
        exact ⟨nb, by rw [e6]; exact cb5, ir5.same hS6 nb1 (by simp; omega), by omega, by omega, nbfb⟩
      · rw [if_neg hj2]
        obtain ⟨nb', h1', h2', h3', h4', h5'⟩ := hT1.c2 j (by omega)
        exact ⟨nb', by rw [E _ (by omega) (by omega) (by omega) (by omega)]; exact h1', h2'.same W h4' (by simp; omega), h3', by have := W.size; omega, h5'⟩
    · unfold upd
      by_cases hj2 : j = i
      · subst hj2; rw [if_pos rfl]
        rcases ta5 with ⟨h0, h⟩ | ⟨h0, tk, h, h1', h2', h3'⟩
        · refine .inl ⟨h0, ?_⟩
          rw [e6, h, e4, if_neg (by omega), e3, e2, if_neg (by omega)]
          exact hT1.c4 j (Nat.le_refl _) (by omega)
        · exact .inr ⟨h0, tk, by rw [e6]; exact h, h1'.same hS6 h3' (by simp; omega), by omega, by omega, by omega⟩
      · rw [if_neg hj2]
        rcases hT1.c3 j (by omega) with ⟨h0, h⟩ | ⟨h0, tk, h1', h2', h3', h4', h5'⟩
        · exact .inl ⟨h0, by rw [E _ (by omega) (by omega) (by omega) (by omega)]; exact h⟩
        · exact .inr ⟨h0, tk, by rw [E _ (by omega) (by omega) (by omega) (by omega)]; exact h1', h2'.same W h4' (by simp; omega), h3', by have := W.size; omega, h5'⟩
    · rw [E _ (by omega) (by omega) (by omega) (by omega)]; exact hT1.c4 j (by omega) hj2

theorem codes_spec (x : SCtx w rb s p e b bi bt mb c m) : SecRuns bin_reader_codes.id w rb s p e b bi bt mb (codesP s e c p) (codesX m w.heap.size) := by
  refine bin_reader_codes.enter _ _ _ _ _ ?_
  unfold bin_reader_codes.V
  simp only [nilV_some, Nat.zero_add]
  refine ⟨_, x.rd.c1, (count_spec x.rd x.tx 8).into (fun n q w1 hn h1 h2 hR hS => ⟨_, rfl, ?_⟩) (fun n a w1 hn hS => ⟨n, a, by unfold codesP; rw [hn]; rfl, rfl, x.keep hS, s4 hS⟩)⟩
  have hle := countP_le hn
  have x1 := x.step hR hS h2
  have hP : codesP s e c p = if n = c.nT then (codesL s e n 0 c fn0 q).bind fun x q2 => .ok (n, x.1, x.2) q2 else .err 12 p := by unfold codesP; rw [hn]; rfl
  refine ⟨_, x1.rd.c3, ?_⟩
  simp only [nilV_some, Nat.zero_add]
  refine ⟨_, x1.bn.c8, ?_⟩
  by_cases hnT : n = c.nT
  · rw [if_pos hnT] at hP
    refine cond_false' (by rw [hnT]; simp) ?_
    refine bin_reader_codes.step1 _ _ _ _ _ _ ?_
    unfold bin_reader_codes.V1
    by_cases hn0 : n = 0
    · subst hn0
      exact cond_true' rfl ⟨(0, c, fn0), q, c, m, by rw [hP]; rfl, by trivial, h1, h2, x1, ⟨rfl, .inl ⟨rfl, rfl⟩⟩, s4 hS⟩
    · refine cond_false' (by rw [beq_eq_false_iff_ne]; omega) ?_
      obtain ⟨w2, hm, hc, hf, hS2, hl⟩ := make_rows T_sl_api_Func.el w1 n (by omega) (by decide)
      refine ⟨_, _, _, w2, hm, ?_⟩
      have x2 : SCtx w2 rb s q e b bi bt mb c m := x1.other hS2 (by simp) (by simp) (by simp) (by simp) (by simp)
      simp only [nilV_some, Nat.zero_add]
      refine ⟨_, x2.rd.c2, ?_⟩
      have sz := hS.size
      have hT : FnRow w2 w.heap.size w1.heap.size n 0 fn0 := ⟨fun j hj => ⟨_, hc j hj⟩, hf, fun j hj => absurd hj (by omega), fun j hj => absurd hj (by omega), fun j hj => absurd hj (by omega), fun j hj => absurd hj (by omega), fun j _ hj => by rw [hc _ (by omega), show (j * 4 + 3) % 4 = 3 by omega]; rfl⟩
      exact codes_loop (m := m) (w0 := w) (p0 := p) (cc := c) (codesP s e c p) (by omega) hn0 sz hP x.rd.lt x.bn.ltb x.bn.lti x.bn.ltt x.md.lt n 0 c fn0 q w2 (by omega) x2 hT hl h1 ((s4 hS).trans (hS2.mono sz (by simp))) rfl
  · rw [if_neg hnT] at hP
    exact cond_true' (bne_iff_ne.2 (by omega)) ⟨_, _, hP, rfl, x.keep hS, s4 hS⟩
end

end Go.Proofs.Qxb6500317aGreat
