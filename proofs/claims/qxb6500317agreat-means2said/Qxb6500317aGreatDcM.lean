/-
  Decode: the module whole.
-/
import Derived.Test.Qxb6500317aGreatDcL
set_option linter.unusedSimpArgs false
set_option linter.unusedVariables false
set_option maxRecDepth 100000
set_option linter.unusedSectionVars false
namespace Go.Proofs.Qxb6500317aGreat
open Go Go.Vc
variable [OutOf]

/-- The module. -/
structure PM where
  nTy : Nat
  ty : Nat → ByteArray
  nIm : Nat
  im : Nat → ImpV
  nf : Nat
  fn : Nat → FnP
  tmin : Int
  tmax : Int
  mmin : Int
  mmax : Int
  gn : Nat
  g : Nat → Glob
  nEx : Nat
  ex : Nat → ExpV
  start : Int
  nEl : Nat
  el : Nat → ElV
  nD : Nat
  da : Nat → DatV

/-- One section. -/
def secP (s : ByteArray) (e : Nat) (id : Int) (c : Sc) (P : PM) (p : Nat) : Res (Sc × PM) :=
  if id = 1 then (typesP s e p).bind fun a q => .ok (c, if a.1 = 0 then P else { { P with nTy := a.1 } with ty := a.2 }) q
  else if id = 2 then (importsP s e p).bind fun a q => .ok (c, if a.1 = 0 then P else { { P with nIm := a.1 } with im := a.2 }) q
  else if id = 3 then (funcsP s e c.types p).bind fun a q => .ok ({ { c with types := a.2 } with nT := a.1 }, P) q
  else if id = 4 then (tableP s e p).bind fun a q => .ok (c, match a with | none => P | some y => { { P with tmin := y.1 } with tmax := y.2 }) q
  else if id = 5 then (memoryP s e p).bind fun a q => .ok (c, match a with | none => P | some y => { { P with mmin := y.1 } with mmax := y.2 }) q
  else if id = 6 then (globsP s e p).bind fun a q => .ok (c, if a.1 = 0 then P else { { P with gn := a.1 } with g := a.2 }) q
  else if id = 7 then (exportsP s e p).bind fun a q => .ok (c, if a.1 = 0 then P else { { P with nEx := a.1 } with ex := a.2 }) q
  else if id = 8 then (u32P s e p).bind fun n q => .ok (c, { P with start := n }) q
  else if id = 9 then (elemsP s e p).bind fun a q => .ok (c, if a.1 = 0 then P else { { P with nEl := a.1 } with el := a.2 }) q
  else if id = 10 then (codesP s e c p).bind fun a q => .ok (a.2.1, if a.1 = 0 then P else { { P with nf := a.1 } with fn := a.2.2 }) q
  else (datasP s e p).bind fun a q => .ok (c, if a.1 = 0 then P else { { P with nD := a.1 } with da := a.2 }) q

def decL (s : ByteArray) : Nat → Int → Sc → PM → Nat → Res (Sc × PM)
  | 0, _, _, _, _ => .err (-1) 0
  | k + 1, last, c, P, p => if p < s.size then (nextP s s.size p).bind fun id q => if id ≤ last ∨ 11 < id then .err 5 p else (enterP s s.size q).bind fun n q1 =>
      (secP s (q1 + n) id c P q1).bind fun cp q2 => if q2 = q1 + n then decL s k id cp.1 cp.2 q2 else .err 6 q1
    else if c.nT = P.nf then .ok (c, P) p else .err 12 s.size
theorem decL_succ (s : ByteArray) (k : Nat) (last : Int) (c : Sc) (P : PM) (p : Nat) : decL s (k + 1) last c P p = if p < s.size then (nextP s s.size p).bind fun id q => if id ≤ last ∨ 11 < id then .err 5 p else (enterP s s.size q).bind fun n q1 =>
      (secP s (q1 + n) id c P q1).bind fun cp q2 => if q2 = q1 + n then decL s k id cp.1 cp.2 q2 else .err 6 q1
    else if c.nT = P.nf then .ok (c, P) p else .err 12 s.size := rfl
def pm0 : PM := ⟨0, fun _ => eB, 0, imports0, 0, fn0, -1, -1, -1, -1, 0, globs0, 0, exports0, -1, 0, el0, 0, datas0⟩
def decP (s : ByteArray) (c : Sc) : Res (Sc × PM) := decL s (s.size - 8 + 1) 0 { c with nT := 0 } pm0 8

def FnsAt (w : World) (lo : Nat) (v : Value) (n : Nat) (F : Nat → FnP) : Prop := (n = 0 ∧ v = .slice none 0 0) ∨ (n ≠ 0 ∧ ∃ fb, v = .slice (some ⟨fb, 0, none⟩) n n ∧ FnRow w (lo + 1) fb n n F ∧ lo < fb ∧ fb < w.heap.size)
def ElsAt (w : World) (lo : Nat) (v : Value) (n : Nat) (f : Nat → ElV) : Prop := (n = 0 ∧ v = .slice none 0 0) ∨ (n ≠ 0 ∧ ∃ tb, v = .slice (some ⟨tb, 0, none⟩) n n ∧ ElRow w lo tb n f ∧ lo < tb ∧ tb < w.heap.size)
theorem FnsAt.same {w w' : World} {lo : Nat} {v : Value} {n : Nat} {F : Nat → FnP} (h : FnsAt w lo v n F) {S : List Nat} (hs : Same S w.heap.size w w') (hS : ∀ k, k ∈ S → k ≤ lo) : FnsAt w' lo v n F := by
  rcases h with h | ⟨h0, b, h1, h2, h3, h4⟩
  · exact .inl h
  · exact .inr ⟨h0, b, h1, h2.same hs h4 (fun g => by have := hS b g; omega) (fun k hk => by have := hS k hk; omega), h3, by have := hs.size; omega⟩
theorem ElsAt.same {w w' : World} {lo : Nat} {v : Value} {n : Nat} {f : Nat → ElV} (h : ElsAt w lo v n f) {S : List Nat} (hs : Same S w.heap.size w w') (hS : ∀ k, k ∈ S → k ≤ lo) : ElsAt w' lo v n f := by
  rcases h with h | ⟨h0, b, h1, h2, h3, h4⟩
  · exact .inl h
  · exact .inr ⟨h0, b, h1, h2.same hs h4 hS h3, h3, by have := hs.size; omega⟩
theorem FnRow.weak {w : World} {base base' fb n i : Nat} {F : Nat → FnP} (h : FnRow w base fb n i F) (hb : base' ≤ base) : FnRow w base' fb n i F :=
  ⟨h.c, h.f, h.c0, h.c1, fun j hj => by obtain ⟨nb, h1, h2, h3, h4⟩ := h.c2 j hj; exact ⟨nb, h1, h2, by omega, h4⟩, fun j hj => by
    rcases h.c3 j hj with h0 | ⟨h0, tk, h1, h2, h3, h4⟩
    · exact .inl h0
    · exact .inr ⟨h0, tk, h1, h2, by omega, h4⟩, h.c4⟩
theorem SlF.weak {α : Type} {enc : α → List Value} {sz : Nat} {w : World} {lo lo' : Nat} {v : Value} {n : Nat} {f : Nat → α} (h : SlF enc sz w lo v n f) (hl : lo' ≤ lo) : SlF enc sz w lo' v n f := by
  rcases h with h | ⟨h0, b, h1, h2, h3, h4⟩
  · exact .inl h
  · exact .inr ⟨h0, b, h1, h2, by omega, h4⟩
theorem FnsAt.weak {w : World} {lo lo' : Nat} {v : Value} {n : Nat} {F : Nat → FnP} (h : FnsAt w lo v n F) (hl : lo' ≤ lo) : FnsAt w lo' v n F := by
  rcases h with h | ⟨h0, b, h1, h2, h3, h4⟩
  · exact .inl h
  · exact .inr ⟨h0, b, h1, h2.weak (by omega), by omega, h4⟩
theorem ElsAt.weak {w : World} {lo lo' : Nat} {v : Value} {n : Nat} {f : Nat → ElV} (h : ElsAt w lo v n f) (hl : lo' ≤ lo) : ElsAt w lo' v n f := by
  rcases h with h | ⟨h0, b, h1, ⟨fr, h2, h2'⟩, h3, h4⟩
  · exact .inl h
  · exact .inr ⟨h0, b, h1, ⟨fr, h2, fun j hj => ⟨(h2' j hj).1, (h2' j hj).2.1.weak hl, (h2' j hj).2.2⟩⟩, by omega, h4⟩

/-- The module's cells hold the plain module; every block of it lies above lo. -/
structure MInv (w : World) (lo : Nat) (m : Nat → Value) (P : PM) : Prop where
  t0 : SlF strE 1 w lo (m 0) P.nTy P.ty
  i1 : SlF impE 3 w lo (m 1) P.nIm P.im
  f2 : FnsAt w lo (m 2) P.nf P.fn
  v3 : m 3 = .int .i64 P.tmin
  v4 : m 4 = .int .i64 P.tmax
  v5 : m 5 = .int .i64 P.mmin
  v6 : m 6 = .int .i64 P.mmax
  g7 : SlF globE 5 w lo (m 7) P.gn P.g
  e8 : SlF expE 3 w lo (m 8) P.nEx P.ex
  s9 : m 9 = .int .i64 P.start
  l10 : ElsAt w lo (m 10) P.nEl P.el
  d11 : SlF datE 4 w lo (m 11) P.nD P.da
theorem MInv.same {w w' : World} {lo : Nat} {S : List Nat} {m : Nat → Value} {P : PM} (h : MInv w lo m P) (hs : Same S w.heap.size w w') (hS : ∀ k, k ∈ S → k ≤ lo) : MInv w' lo m P :=
  ⟨h.t0.same hs hS, h.i1.same hs hS, h.f2.same hs hS, h.v3, h.v4, h.v5, h.v6, h.g7.same hs hS, h.e8.same hs hS, h.s9, h.l10.same hs hS, h.d11.same hs hS⟩
theorem MInv.weak {w : World} {lo lo' : Nat} {m : Nat → Value} {P : PM} (h : MInv w lo m P) (hl : lo' ≤ lo) : MInv w lo' m P :=
  ⟨h.t0.weak hl, h.i1.weak hl, h.f2.weak hl, h.v3, h.v4, h.v5, h.v6, h.g7.weak hl, h.e8.weak hl, h.s9, h.l10.weak hl, h.d11.weak hl⟩

section
variable {w : World} {rb : Nat} {s : ByteArray} {p e b bi bt mb : Nat} {c : Sc} {m : Nat → Value} {P : PM}

theorem sec_run {lo : Nat} (x : SCtx w rb s p e b bi bt mb c m) (inv : MInv w lo m P) (hlo : ∀ k, k ∈ [rb, b, bi, bt, mb] → k ≤ lo) (hlo2 : lo < w.heap.size) (id : Nat) (h1 : 1 ≤ id) (h11 : id ≤ 11) (Q : Value → World → Prop) (K : Value → World → Prop)
    (hr : ∀ v cp q w' m', secP s e id c P p = .ok cp q → p ≤ q → q ≤ e → SCtx w' rb s q e b bi bt mb cp.1 m' → MInv w' lo m' cp.2 → Same [rb, b, bi, bt, mb] w.heap.size w w' → K v w')
    (hq : ∀ n a w', secP s e id c P p = .err n a → (∃ c', BinAt w' b bi bt c') → Same [rb, b, bi, bt, mb] w.heap.size w w' → Q (faultV n a) w') :
    dynV Tryz.prog Q (55 + id) #[rp rb, rp mb] w K := by
  have l1 := x.rd.lt; have l2 := x.bn.ltb; have l3 := x.bn.lti; have l4 := x.md.lt
  by_cases i1 : id = 1
  · subst i1
    have hs : secP s e ((1 : Nat) : Int) c P p = (typesP s e p).bind fun a q => .ok (c, if a.1 = 0 then P else { { P with nTy := a.1 } with ty := a.2 }) q := rfl
    refine ⟨_, Tryz.func56, by kernel_rfl, RunsQ.mono (types_spec x) ?_ ?_⟩
    · rintro v w' ⟨a, q, c', m', ha, rfl, g1, g2, x', ⟨rfl, hX⟩, hS⟩
      refine hr _ (c', if a.1 = 0 then P else { { P with nTy := a.1 } with ty := a.2 }) q w' m' (by rw [hs, ha]; rfl) g1 g2 x' ?_ hS
      have i2 := inv.same hS hlo
      rcases hX with ⟨h0, rfl⟩ | ⟨h0, tb, rfl, hT, hb, hl⟩
      · show MInv w' _ _ (if a.1 = 0 then P else _)
        rw [if_pos h0]; exact i2
      · show MInv w' _ _ (if a.1 = 0 then P else _)
        rw [if_neg h0]
        exact ⟨.inr ⟨h0, tb, rfl, hT, by omega, hl⟩, i2.i1, i2.f2, i2.v3, i2.v4, i2.v5, i2.v6, i2.g7, i2.e8, i2.s9, i2.l10, i2.d11⟩
    · rintro v w' ⟨n, a, ha, rfl, hB, hS⟩
      exact hq n a w' (by rw [hs, ha]; rfl) hB hS
  by_cases i2 : id = 2
  · subst i2
    have hs : secP s e ((2 : Nat) : Int) c P p = (importsP s e p).bind fun a q => .ok (c, if a.1 = 0 then P else { { P with nIm := a.1 } with im := a.2 }) q := rfl
    refine ⟨_, Tryz.func57, by kernel_rfl, RunsQ.mono (imports_spec x) ?_ ?_⟩
    · rintro v w' ⟨a, q, c', m', ha, rfl, g1, g2, x', ⟨rfl, hX⟩, hS⟩
      refine hr _ (c', if a.1 = 0 then P else { { P with nIm := a.1 } with im := a.2 }) q w' m' (by rw [hs, ha]; rfl) g1 g2 x' ?_ hS
      have i2 := inv.same hS hlo
      rcases hX with ⟨h0, rfl⟩ | ⟨h0, tb, rfl, hT, hb, hl⟩
      · show MInv w' _ _ (if a.1 = 0 then P else _)
        rw [if_pos h0]; exact i2
      · show MInv w' _ _ (if a.1 = 0 then P else _)
        rw [if_neg h0]
        exact ⟨i2.t0, .inr ⟨h0, tb, rfl, hT, by omega, hl⟩, i2.f2, i2.v3, i2.v4, i2.v5, i2.v6, i2.g7, i2.e8, i2.s9, i2.l10, i2.d11⟩
    · rintro v w' ⟨n, a, ha, rfl, hB, hS⟩
      exact hq n a w' (by rw [hs, ha]; rfl) hB hS
  by_cases i6 : id = 6
  · subst i6
    have hs : secP s e ((6 : Nat) : Int) c P p = (globsP s e p).bind fun a q => .ok (c, if a.1 = 0 then P else { { P with gn := a.1 } with g := a.2 }) q := rfl
    refine ⟨_, Tryz.func61, by kernel_rfl, RunsQ.mono (globs_spec x) ?_ ?_⟩
    · rintro v w' ⟨a, q, c', m', ha, rfl, g1, g2, x', ⟨rfl, hX⟩, hS⟩
      refine hr _ (c', if a.1 = 0 then P else { { P with gn := a.1 } with g := a.2 }) q w' m' (by rw [hs, ha]; rfl) g1 g2 x' ?_ hS
      have i2 := inv.same hS hlo
      rcases hX with ⟨h0, rfl⟩ | ⟨h0, tb, rfl, hT, hb, hl⟩
      · show MInv w' _ _ (if a.1 = 0 then P else _)
        rw [if_pos h0]; exact i2
      · show MInv w' _ _ (if a.1 = 0 then P else _)
        rw [if_neg h0]
        exact ⟨i2.t0, i2.i1, i2.f2, i2.v3, i2.v4, i2.v5, i2.v6, .inr ⟨h0, tb, rfl, hT, by omega, hl⟩, i2.e8, i2.s9, i2.l10, i2.d11⟩
    · rintro v w' ⟨n, a, ha, rfl, hB, hS⟩
      exact hq n a w' (by rw [hs, ha]; rfl) hB hS
  by_cases i7 : id = 7
  · subst i7
    have hs : secP s e ((7 : Nat) : Int) c P p = (exportsP s e p).bind fun a q => .ok (c, if a.1 = 0 then P else { { P with nEx := a.1 } with ex := a.2 }) q := rfl
    refine ⟨_, Tryz.func62, by kernel_rfl, RunsQ.mono (exports_spec x) ?_ ?_⟩
    · rintro v w' ⟨a, q, c', m', ha, rfl, g1, g2, x', ⟨rfl, hX⟩, hS⟩
      refine hr _ (c', if a.1 = 0 then P else { { P with nEx := a.1 } with ex := a.2 }) q w' m' (by rw [hs, ha]; rfl) g1 g2 x' ?_ hS
      have i2 := inv.same hS hlo
      rcases hX with ⟨h0, rfl⟩ | ⟨h0, tb, rfl, hT, hb, hl⟩
      · show MInv w' _ _ (if a.1 = 0 then P else _)
        rw [if_pos h0]; exact i2
      · show MInv w' _ _ (if a.1 = 0 then P else _)
        rw [if_neg h0]
        exact ⟨i2.t0, i2.i1, i2.f2, i2.v3, i2.v4, i2.v5, i2.v6, i2.g7, .inr ⟨h0, tb, rfl, hT, by omega, hl⟩, i2.s9, i2.l10, i2.d11⟩
    · rintro v w' ⟨n, a, ha, rfl, hB, hS⟩
      exact hq n a w' (by rw [hs, ha]; rfl) hB hS
  by_cases i11 : id = 11
  · subst i11
    have hs : secP s e ((11 : Nat) : Int) c P p = (datasP s e p).bind fun a q => .ok (c, if a.1 = 0 then P else { { P with nD := a.1 } with da := a.2 }) q := rfl
    refine ⟨_, Tryz.func66, by kernel_rfl, RunsQ.mono (datas_spec x) ?_ ?_⟩
    · rintro v w' ⟨a, q, c', m', ha, rfl, g1, g2, x', ⟨rfl, hX⟩, hS⟩
      refine hr _ (c', if a.1 = 0 then P else { { P with nD := a.1 } with da := a.2 }) q w' m' (by rw [hs, ha]; rfl) g1 g2 x' ?_ hS
      have i2 := inv.same hS hlo
      rcases hX with ⟨h0, rfl⟩ | ⟨h0, tb, rfl, hT, hb, hl⟩
      · show MInv w' _ _ (if a.1 = 0 then P else _)
        rw [if_pos h0]; exact i2
      · show MInv w' _ _ (if a.1 = 0 then P else _)
        rw [if_neg h0]
        exact ⟨i2.t0, i2.i1, i2.f2, i2.v3, i2.v4, i2.v5, i2.v6, i2.g7, i2.e8, i2.s9, i2.l10, .inr ⟨h0, tb, rfl, hT, by omega, hl⟩⟩
    · rintro v w' ⟨n, a, ha, rfl, hB, hS⟩
      exact hq n a w' (by rw [hs, ha]; rfl) hB hS
  by_cases i9 : id = 9
  · subst i9
    have hs : secP s e ((9 : Nat) : Int) c P p = (elemsP s e p).bind fun a q => .ok (c, if a.1 = 0 then P else { { P with nEl := a.1 } with el := a.2 }) q := rfl
    refine ⟨_, Tryz.func64, by kernel_rfl, RunsQ.mono (elems_spec (lo := lo) x hlo2 (hlo _ (by simp)) (hlo _ (by simp)) (hlo _ (by simp)) (hlo _ (by simp)) (hlo _ (by simp))) ?_ ?_⟩
    · rintro v w' ⟨a, q, c', m', ha, rfl, g1, g2, x', ⟨rfl, hX⟩, hS⟩
      refine hr _ (c', if a.1 = 0 then P else { { P with nEl := a.1 } with el := a.2 }) q w' m' (by rw [hs, ha]; rfl) g1 g2 x' ?_ hS
      have i2 := inv.same hS hlo
      rcases hX with ⟨h0, rfl⟩ | ⟨h0, tb, rfl, hT, hb, hl⟩
      · show MInv w' _ _ (if a.1 = 0 then P else _)
        rw [if_pos h0]; exact i2
      · show MInv w' _ _ (if a.1 = 0 then P else _)
        rw [if_neg h0]
        exact ⟨i2.t0, i2.i1, i2.f2, i2.v3, i2.v4, i2.v5, i2.v6, i2.g7, i2.e8, i2.s9, .inr ⟨h0, tb, rfl, hT, by omega, hl⟩, i2.d11⟩
    · rintro v w' ⟨n, a, ha, rfl, hB, hS⟩
      exact hq n a w' (by rw [hs, ha]; rfl) hB hS
  by_cases i10 : id = 10
  · subst i10
    have hs : secP s e ((10 : Nat) : Int) c P p = (codesP s e c p).bind fun a q => .ok (a.2.1, if a.1 = 0 then P else { { P with nf := a.1 } with fn := a.2.2 }) q := rfl
    refine ⟨_, Tryz.func65, by kernel_rfl, RunsQ.mono (codes_spec x) ?_ ?_⟩
    · rintro v w' ⟨a, q, c', m', ha, rfl, g1, g2, x', ⟨rfl, hX⟩, hS⟩
      refine hr _ (a.2.1, if a.1 = 0 then P else { { P with nf := a.1 } with fn := a.2.2 }) q w' m' (by rw [hs, ha]; rfl) g1 g2 x' ?_ hS
      have i2 := inv.same hS hlo
      rcases hX with ⟨h0, rfl⟩ | ⟨h0, tb, rfl, hT, hb, hl⟩
      · show MInv w' _ _ (if a.1 = 0 then P else _)
        rw [if_pos h0]; exact i2
      · show MInv w' _ _ (if a.1 = 0 then P else _)
        rw [if_neg h0]
        exact ⟨i2.t0, i2.i1, .inr ⟨h0, tb, rfl, hT.weak (by omega), by omega, hl⟩, i2.v3, i2.v4, i2.v5, i2.v6, i2.g7, i2.e8, i2.s9, i2.l10, i2.d11⟩
    · rintro v w' ⟨n, a, ha, rfl, hB, hS⟩
      exact hq n a w' (by rw [hs, ha]; rfl) hB hS
  by_cases i4 : id = 4
  · subst i4
    have hs : secP s e ((4 : Nat) : Int) c P p = (tableP s e p).bind fun a q => .ok (c, match a with | none => P | some y => { { P with tmin := y.1 } with tmax := y.2 }) q := rfl
    refine ⟨_, Tryz.func59, by kernel_rfl, RunsQ.mono (table_spec x) ?_ ?_⟩
    · rintro v w' ⟨a, q, c', m', ha, rfl, g1, g2, x', ⟨rfl, rfl⟩, hS⟩
      have i2 := inv.same hS hlo
      cases a with
      | none => exact hr _ (c', P) q w' _ (by rw [hs, ha]; rfl) g1 g2 x' i2 hS
      | some y =>
        have hM : MInv w' lo (upd (upd m 3 (.int .i64 y.1)) 4 (.int .i64 y.2)) { { P with tmin := y.1 } with tmax := y.2 } := ⟨i2.t0, i2.i1, i2.f2, rfl, rfl, i2.v5, i2.v6, i2.g7, i2.e8, i2.s9, i2.l10, i2.d11⟩
        exact hr _ (c', { { P with tmin := y.1 } with tmax := y.2 }) q w' _ (by rw [hs, ha]; rfl) g1 g2 x' hM hS
    · rintro v w' ⟨n, a, ha, rfl, hB, hS⟩
      exact hq n a w' (by rw [hs, ha]; rfl) hB hS
  by_cases i5 : id = 5
  · subst i5
    have hs : secP s e ((5 : Nat) : Int) c P p = (memoryP s e p).bind fun a q => .ok (c, match a with | none => P | some y => { { P with mmin := y.1 } with mmax := y.2 }) q := rfl
    refine ⟨_, Tryz.func60, by kernel_rfl, RunsQ.mono (memory_spec x) ?_ ?_⟩
    · rintro v w' ⟨a, q, c', m', ha, rfl, g1, g2, x', ⟨rfl, rfl⟩, hS⟩
      have i2 := inv.same hS hlo
      cases a with
      | none => exact hr _ (c', P) q w' _ (by rw [hs, ha]; rfl) g1 g2 x' i2 hS
      | some y =>
        have hM : MInv w' lo (upd (upd m 5 (.int .i64 y.1)) 6 (.int .i64 y.2)) { { P with mmin := y.1 } with mmax := y.2 } := ⟨i2.t0, i2.i1, i2.f2, i2.v3, i2.v4, rfl, rfl, i2.g7, i2.e8, i2.s9, i2.l10, i2.d11⟩
        exact hr _ (c', { { P with mmin := y.1 } with mmax := y.2 }) q w' _ (by rw [hs, ha]; rfl) g1 g2 x' hM hS
    · rintro v w' ⟨n, a, ha, rfl, hB, hS⟩
      exact hq n a w' (by rw [hs, ha]; rfl) hB hS
  by_cases i3 : id = 3
  · subst i3
    have hs : secP s e ((3 : Nat) : Int) c P p = (funcsP s e c.types p).bind fun a q => .ok ({ { c with types := a.2 } with nT := a.1 }, P) q := rfl
    refine ⟨_, Tryz.func58, by kernel_rfl, RunsQ.mono (funcs_spec x) ?_ ?_⟩
    · rintro v w' ⟨a, q, c', m', ha, rfl, g1, g2, x', ⟨rfl, rfl⟩, hS⟩
      exact hr _ _ q w' m' (by rw [hs, ha]; rfl) g1 g2 x' (inv.same hS hlo) hS
    · rintro v w' ⟨n, a, ha, rfl, hB, hS⟩
      exact hq n a w' (by rw [hs, ha]; rfl) hB hS
  by_cases i8 : id = 8
  · subst i8
    have hs : secP s e ((8 : Nat) : Int) c P p = (u32P s e p).bind fun n q => .ok (c, { P with start := n }) q := rfl
    refine ⟨_, Tryz.func63, by kernel_rfl, RunsQ.mono (start_spec x) ?_ ?_⟩
    · rintro v w' ⟨a, q, c', m', ha, rfl, g1, g2, x', ⟨rfl, rfl⟩, hS⟩
      have i2 := inv.same hS hlo
      exact hr _ (c', { P with start := a }) q w' _ (by rw [hs, ha]; rfl) g1 g2 x' ⟨i2.t0, i2.i1, i2.f2, i2.v3, i2.v4, i2.v5, i2.v6, i2.g7, i2.e8, rfl, i2.l10, i2.d11⟩ hS
    · rintro v w' ⟨n, a, ha, rfl, hB, hS⟩
      exact hq n a w' (by rw [hs, ha]; rfl) hB hS
  · exfalso; omega
end

/-! ### The loop -/
structure DCtx (w0 w : World) (rb : Nat) (s : ByteArray) (p b bi bt mb m4 p5 e6 rdb : Nat) (c : Sc) (m : Nat → Value) (P : PM) : Prop where
  x : SCtx w rb s p s.size b bi bt mb c m
  inv : MInv w rdb m P
  cm : w.cell? ⟨m4, 0, none⟩ = some (rp mb)
  fm : w.frozen? ⟨m4, 0, none⟩ = false
  cp : can w ⟨p5, 0, none⟩
  ce : can w ⟨e6, 0, none⟩
  rd : ∀ id, 1 ≤ id → id ≤ 11 → w.cell? ⟨rdb, id, none⟩ = some (.func (.func (55 + id)) #[] #[])
  S : Same [b, bi, bt] w0.heap.size w0 w
  o0 : w0.heap.size ≤ m4
  o1 : m4 < p5
  o2 : p5 < e6
  o3 : e6 < rb
  o4 : rb < mb
  o5 : mb < rdb
  o6 : rdb < w.heap.size
  lb : b < w0.heap.size
  li : bi < w0.heap.size
  lt : bt < w0.heap.size

def DRet (w0 : World) (s : ByteArray) (b bi bt : Nat) (r : Res (Sc × PM)) : Value → World → Prop := fun v w' =>
  ∃ cp q mb m, r = .ok cp q ∧ v = .tuple #[rp mb, .int .i64 ((s.size : Nat) : Int), .int .i64 0] ∧ BinAt w' b bi bt cp.1 ∧ ModAt w' mb m ∧ MInv w' w0.heap.size m cp.2 ∧ w0.heap.size < mb ∧ Same [b, bi, bt] w0.heap.size w0 w'
def DPan (w0 : World) (b bi bt m4 p5 e6 : Nat) (r : Res (Sc × PM)) : Value → World → Prop := fun v w' =>
  ∃ n a, r = .err n a ∧ v = faultV n a ∧ (∃ c', BinAt w' b bi bt c') ∧ can w' ⟨m4, 0, none⟩ ∧ can w' ⟨p5, 0, none⟩ ∧ can w' ⟨e6, 0, none⟩ ∧ Same [b, bi, bt] w0.heap.size w0 w'

section
variable {w0 w : World} {rb : Nat} {s : ByteArray} {p b bi bt mb m4 p5 e6 rdb : Nat} {c : Sc} {m : Nat → Value} {P : PM} {r : Res (Sc × PM)}

theorem can_same {w w' : World} {S : List Nat} {k i : Nat} (h : can w ⟨k, i, none⟩) (hs : Same S w.heap.size w w') (hk : k ∉ S) : can w' ⟨k, i, none⟩ := by
  obtain ⟨⟨u, hu⟩, hf⟩ := h
  have hl : k < w.heap.size := cell_lt hu
  exact ⟨⟨u, by rw [hs.cell (p := ⟨k, i, none⟩) hl hk]; exact hu⟩, by rw [hs.frozen (p := ⟨k, i, none⟩) hl hk]; exact hf⟩

theorem DCtx.sameS (d : DCtx w0 w rb s p b bi bt mb m4 p5 e6 rdb c m P) {w' : World} (hS : Same [rb, b, bi, bt, mb] w.heap.size w w') : Same [b, bi, bt] w0.heap.size w0 w' := by
  have o0 := d.o0; have o1 := d.o1; have o2 := d.o2; have o3 := d.o3; have o4 := d.o4; have o5 := d.o5
  exact d.S.trans (hS.mono d.S.size (by intro k hk hlt; simp at hk ⊢; omega))
theorem DCtx.err (d : DCtx w0 w rb s p b bi bt mb m4 p5 e6 rdb c m P) {n a : Int} (hr : r = .err n a) {w' : World} (hS : Same [rb, b, bi, bt, mb] w.heap.size w w') (hB : ∃ c', BinAt w' b bi bt c') : DPan w0 b bi bt m4 p5 e6 r (faultV n a) w' := by
  have o0 := d.o0; have o1 := d.o1; have o2 := d.o2; have o3 := d.o3; have o4 := d.o4; have o5 := d.o5; have lb := d.lb; have li := d.li; have lt' := d.lt
  exact ⟨n, a, hr, rfl, hB, can_same ⟨⟨_, d.cm⟩, d.fm⟩ hS (by simp; omega), can_same d.cp hS (by simp; omega), can_same d.ce hS (by simp; omega), d.sameS hS⟩
theorem DCtx.next (d : DCtx w0 w rb s p b bi bt mb m4 p5 e6 rdb c m P) {w' : World} {q : Nat} {c' : Sc} {m' : Nat → Value} {P' : PM} (hS : Same [rb, b, bi, bt, mb] w.heap.size w w') (x' : SCtx w' rb s q s.size b bi bt mb c' m') (i' : MInv w' rdb m' P') :
    DCtx w0 w' rb s q b bi bt mb m4 p5 e6 rdb c' m' P' := by
  have o0 := d.o0; have o1 := d.o1; have o2 := d.o2; have o3 := d.o3; have o4 := d.o4; have o5 := d.o5; have o6 := d.o6; have lb := d.lb; have li := d.li; have lt' := d.lt
  have sz := hS.size
  have lm : m4 < w.heap.size := cell_lt d.cm
  exact ⟨x', i', by rw [hS.cell (p := ⟨m4, 0, none⟩) lm (by simp; omega)]; exact d.cm, by rw [hS.frozen (p := ⟨m4, 0, none⟩) lm (by simp; omega)]; exact d.fm, can_same d.cp hS (by simp; omega), can_same d.ce hS (by simp; omega),
    fun id h1 h2 => by rw [hS.cell (p := ⟨rdb, id, none⟩) o6 (by simp; omega)]; exact d.rd id h1 h2, d.sameS hS, o0, o1, o2, o3, o4, o5, by omega, lb, li, d.lt⟩

theorem dec_loop (D : List Deferred) : ∀ (k : Nat) (p : Nat) (last : Int) (c : Sc) (m : Nat → Value) (P : PM) (w : World), DCtx w0 w rb s p b bi bt mb m4 p5 e6 rdb c m P → 0 ≤ last → s.size - p < k → r = decL s k last c P p →
    bin_Bin_Decode.L3 D (some ⟨b, 0, none⟩) s m4 p5 e6 (some ⟨rb, 0, none⟩) rdb last (DRet w0 s b bi bt r) (DPan w0 b bi bt m4 p5 e6 r) w := by
  intro k
  induction k with
  | zero => intro p last c m P w d _ hk; omega
  | succ k ih =>
    intro p last c m P w d hlast hk hr
    rw [decL_succ] at hr
    have t3 := d.x.tx.sz
    have pe := d.x.tx.pe
    have o0 := d.o0; have o1 := d.o1; have o2 := d.o2; have o3 := d.o3; have o4 := d.o4; have o5 := d.o5; have o6 := d.o6; have lb := d.lb; have li := d.li; have lt' := d.lt
    have hlo : ∀ k, k ∈ [rb, b, bi, bt, mb] → k ≤ rdb := by intro k hk; simp at hk; omega
    refine bin_Bin_Decode.step3 _ _ _ _ _ _ _ _ _ _ _ _ ?_
    unfold bin_Bin_Decode.V3
    simp only [nilV_some, true_and, Nat.zero_add]
    refine ⟨_, d.x.rd.c1, ?_⟩
    by_cases hp : p < s.size
    · rw [if_pos hp] at hr
      refine cond_true' (decide_eq_true (by omega)) ⟨_, d.x.rd.c1, ?_⟩
      refine (next_spec d.x.rd d.x.tx).into (fun id q w1 hn h1 h2 hR hS => ⟨_, rfl, ?_⟩) (fun n a w1 hn hS => d.err (by rw [hr, hn]; rfl) (s4 hS) (d.x.keep hS))
      have x1 := d.x.step hR hS h2
      have d1 := d.next (s4 hS) x1 (d.inv.same (s4 hS) hlo)
      obtain ⟨n1, n2, n3⟩ := nextP_ok hn
      have hbr := byte_rng s p
      rw [← n3] at hbr
      have e1 : IntKind.wrap .i64 id = id := wrap_i64 (by omega) (by omega)
      rw [e1]
      have hr1 : r = if id ≤ last ∨ 11 < id then .err 5 p else (enterP s s.size q).bind fun n q1 => (secP s (q1 + n) id c P q1).bind fun cp q2 => if q2 = q1 + n then decL s k id cp.1 cp.2 q2 else .err 6 q1 := by rw [hr, hn]; rfl
      have L4 : ∀ tt : Bool, (tt = true ↔ (id ≤ last ∨ 11 < id)) → bin_Bin_Decode.L4 D (some ⟨b, 0, none⟩) s m4 p5 e6 (some ⟨rb, 0, none⟩) rdb p id tt (DRet w0 s b bi bt r) (DPan w0 b bi bt m4 p5 e6 r) w1 := by
        intro tt htt
        refine bin_Bin_Decode.step4 _ _ _ _ _ _ _ _ _ _ _ _ _ _ ?_
        unfold bin_Bin_Decode.V4
        refine cond_intro (fun g => ?_) (fun g => ?_)
        · rw [if_pos (htt.1 g)] at hr1
          exact d1.err hr1 (Same.refl _ _ _) ⟨c, d1.x.bn⟩
        · have hid : ¬ (id ≤ last ∨ 11 < id) := fun u => by rw [htt.2 u] at g; cases g
          rw [if_neg hid] at hr1
          obtain ⟨idn, rfl⟩ : ∃ x : Nat, id = (x : Int) := ⟨id.toNat, by omega⟩
          refine bin_Bin_Decode.step6 _ _ _ _ _ _ _ _ _ _ _ _ ?_
          unfold bin_Bin_Decode.V6
          refine (enter_spec d1.x.rd d1.x.tx).mono ?_ ?_
          rotate_left
          · rintro v w2 ⟨n, a, hn2, rfl, hS2⟩
            exact d1.err (by rw [hr1, hn2]; rfl) (s4 hS2) (d1.x.keep hS2)
          rintro v w2 ⟨sz, q1, hen, rfl, g1, g2, hR2, hS2⟩
          have hr2 : r = (secP s (q1 + sz) idn c P q1).bind fun cp q2 => if q2 = q1 + sz then decL s k idn cp.1 cp.2 q2 else .err 6 q1 := by rw [hr1, hen]; rfl
          refine ⟨_, rfl, by omega, ?_⟩
          rw [Int.toNat_natCast, add_mk, Nat.zero_add, Nat.mul_one]
          have rd2 : w2.cell? ⟨rdb, idn, none⟩ = some (.func (.func (55 + idn)) #[] #[]) := by
            rw [hS2.cell (p := ⟨rdb, idn, none⟩) d1.o6 (by simp; omega)]; exact d1.rd idn (by omega) (by omega)
          have cm2 : w2.cell? ⟨m4, 0, none⟩ = some (rp mb) := by
            rw [hS2.cell (p := ⟨m4, 0, none⟩) (cell_lt d1.cm) (by simp; omega)]; exact d1.cm
          refine ⟨_, rd2, _, cm2, ?_⟩
          have x2 : SCtx w2 rb s q1 (q1 + sz) b bi bt mb c m :=
            ⟨hR2, ⟨by omega, by omega, t3⟩, d1.x.bn.keep hS2 (by simp; exact d1.x.a1.symm) (by simp; exact d1.x.a2.symm) (by simp; exact d1.x.a3.symm), d1.x.md.same hS2 d1.x.md.lt (by simp; exact d1.x.a4), d1.x.a1, d1.x.a2, d1.x.a3, d1.x.a4, d1.x.a5, d1.x.a6, d1.x.a7⟩
          refine sec_run (lo := rdb) x2 (d1.inv.same (s4 hS2) hlo) hlo (by have := hS2.size; have := d1.o6; omega) idn (by omega) (by omega) _ _ (fun v cp q2 w3 m3 hsec k1 k2 x3 i3 hS3 => ?_) (fun n a w3 hsec hB3 hS3 => d1.err (by rw [hr2, hsec]; rfl) ((s4 hS2).trans (hS3.mono hS2.size (by intro k hk _; exact hk))) hB3)
          have hr3 : r = if q2 = q1 + sz then decL s k idn cp.1 cp.2 q2 else .err 6 q1 := by rw [hr2, hsec]; rfl
          have S13 : Same [rb, b, bi, bt, mb] w1.heap.size w1 w3 := (s4 hS2).trans (hS3.mono hS2.size (by intro k hk _; exact hk))
          refine (leave_spec x3.rd q1 s.size).mono ?_ ?_
          rotate_left
          · rintro v w4 ⟨hne, rfl, hS4⟩
            exact d1.err (by rw [hr3, if_neg hne]) (S13.trans ((s4 hS4).mono S13.size (by intro k hk _; exact hk))) (x3.keep hS4)
          rintro v w4 ⟨heq, rfl, hR4, hS4⟩
          refine ⟨rfl, ?_⟩
          rw [if_pos heq] at hr3
          have S14 := S13.trans ((s4 hS4).mono S13.size (by intro k hk _; exact hk))
          have x4 : SCtx w4 rb s q2 s.size b bi bt mb cp.1 m3 :=
            ⟨hR4, ⟨by omega, Nat.le_refl _, t3⟩, x3.bn.keep hS4 (by simp; exact x3.a1.symm) (by simp; exact x3.a2.symm) (by simp; exact x3.a3.symm), x3.md.same hS4 x3.md.lt (by simp; exact x3.a4), x3.a1, x3.a2, x3.a3, x3.a4, x3.a5, x3.a6, x3.a7⟩
          exact ih q2 idn cp.1 m3 cp.2 w4 (d1.next S14 x4 (i3.same (s4 hS4) hlo)) (by omega) (by omega) hr3
      refine cond_intro (fun u => L4 _ ?_) (fun u => L4 _ ?_)
      · have u' := of_decide_eq_true u
        exact ⟨fun _ => .inl u', fun _ => rfl⟩
      · have u' := of_decide_eq_false u
        constructor
        · intro g; exact .inr (of_decide_eq_true g)
        · rintro (g | g)
          · exact absurd g u'
          · exact decide_eq_true g
    · rw [if_neg hp] at hr
      refine cond_false' (decide_eq_false (by omega)) ?_
      have xd := d.x.bn.drew
      refine ⟨_, xd.c8, _, d.cm, ?_⟩
      simp only [nilV_some, true_and, Nat.zero_add]
      have m2 := d.x.md.drew.c 2 (by decide)
      have hlen : ∃ (a : Option Addr) (l cc : Nat), m 2 = .slice a l cc ∧ l = P.nf := by
        rcases d.inv.f2 with ⟨h0, h⟩ | ⟨_, fb, h, _⟩
        · exact ⟨none, 0, 0, h, h0.symm⟩
        · exact ⟨_, _, _, h, rfl⟩
      obtain ⟨fa, fl, fc, hm2, hfl⟩ := hlen
      rw [hm2] at m2
      refine ⟨_, _, _, m2, ?_⟩
      by_cases hnT : c.nT = P.nf
      · rw [if_pos hnT] at hr
        refine cond_false' (by rw [hnT, hfl]; simp) ?_
        refine bin_Bin_Decode.step5 _ _ _ _ _ _ _ _ ?_
        unfold bin_Bin_Decode.V5
        have cmd : w.drew.cell? ⟨m4, 0, none⟩ = some (rp mb) := d.cm
        refine ⟨_, cmd, ⟨⟨_, cmd⟩, d.fm⟩, letW_intro fun w2 hw2 => ?_⟩
        have S2 : Same [m4] w.drew.heap.size w.drew w2 := by rw [hw2]; exact same_set 0 _
        have cp2 : can w2 ⟨p5, 0, none⟩ := can_same (w := w.drew) d.cp S2 (by simp; omega)
        refine ⟨cp2, letW_intro fun w3 hw3 => ?_⟩
        have S3 : Same [p5] w2.heap.size w2 w3 := by rw [hw3]; exact same_set 0 _
        have ce3 : can w3 ⟨e6, 0, none⟩ := can_same (can_same (w := w.drew) d.ce S2 (by simp; omega)) S3 (by simp; omega)
        refine ⟨ce3, letW_intro fun w4 hw4 => ?_⟩
        have S4 : Same [e6] w3.heap.size w3 w4 := by rw [hw4]; exact same_set 0 _
        have cm2 : w2.cell? ⟨m4, 0, none⟩ = some (rp mb) := by rw [hw2, cell_setCell, if_pos ⟨rfl, rfl⟩, cmd]; rfl
        have cm3 : w3.cell? ⟨m4, 0, none⟩ = some (rp mb) := by rw [S3.cell (p := ⟨m4, 0, none⟩) (cell_lt cm2) (by simp; omega)]; exact cm2
        have cm4 : w4.cell? ⟨m4, 0, none⟩ = some (rp mb) := by rw [S4.cell (p := ⟨m4, 0, none⟩) (cell_lt cm3) (by simp; omega)]; exact cm3
        have cp3 : w3.cell? ⟨p5, 0, none⟩ = some (.int .i64 ((s.size : Nat) : Int)) := by
          obtain ⟨⟨u, hu⟩, _⟩ := cp2
          rw [hw3, cell_setCell, if_pos ⟨rfl, rfl⟩, hu]; rfl
        have cp4 : w4.cell? ⟨p5, 0, none⟩ = some (.int .i64 ((s.size : Nat) : Int)) := by rw [S4.cell (p := ⟨p5, 0, none⟩) (cell_lt cp3) (by simp; omega)]; exact cp3
        have ce4 : w4.cell? ⟨e6, 0, none⟩ = some (.int .i64 0) := by
          obtain ⟨⟨u, hu⟩, _⟩ := ce3
          rw [hw4, cell_setCell, if_pos ⟨rfl, rfl⟩, hu]; rfl
        have W : Same [m4, p5, e6] w.heap.size w w4 := by
          have a1 : Same [m4, p5, e6] w.heap.size w w.drew := (Same.refl _ _ _).drew
          rw [hw4, hw3, hw2]
          exact ((a1.setCell (.inr (by simp)) _).setCell (.inr (by simp)) _).setCell (.inr (by simp)) _
        refine ⟨_, cm4, _, cp4, _, ce4, (c, P), p, mb, m, hr, rfl, d.x.bn.keep W (by simp; omega) (by simp; omega) (by simp; omega), d.x.md.same W d.x.md.lt (by simp; omega), (d.inv.same W (by intro k hk; simp at hk; omega)).weak (by omega), by omega, d.S.trans (W.mono d.S.size (by intro k hk hlt; simp at hk; omega))⟩
      · rw [if_neg hnT] at hr
        refine cond_true' (bne_iff_ne.2 (by omega)) (d.err hr (Same.refl _ _ _).drew ⟨c, xd⟩)
end

end Go.Proofs.Qxb6500317aGreat
