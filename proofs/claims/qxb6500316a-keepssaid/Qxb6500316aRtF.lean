/-
  The module, written and read again.
-/
import Derived.Test.Qxb6500316aRtE
set_option linter.unusedSimpArgs false
set_option linter.unusedVariables false
set_option maxRecDepth 100000
namespace Go.Proofs.Qxb6500316a
open Go Go.Vc

/-- Q is P, as far as a module reaches. -/
structure PEq (P Q : PM) : Prop where
  nTy : Q.nTy = P.nTy
  ty : ∀ j, j < P.nTy → Q.ty j = P.ty j
  nIm : Q.nIm = P.nIm
  im : ∀ j, j < P.nIm → Q.im j = P.im j
  nf : Q.nf = P.nf
  fn : ∀ j, j < P.nf → FnQ (Q.fn j) (P.fn j)
  t0 : Q.tmin = P.tmin
  t1 : Q.tmax = P.tmax
  m0 : Q.mmin = P.mmin
  m1 : Q.mmax = P.mmax
  gn : Q.gn = P.gn
  g : ∀ j, j < P.gn → Q.g j = P.g j
  nEx : Q.nEx = P.nEx
  ex : ∀ j, j < P.nEx → Q.ex j = P.ex j
  start : Q.start = P.start
  nEl : Q.nEl = P.nEl
  el : ∀ j, j < P.nEl → ElQ (Q.el j) (P.el j)
  nD : Q.nD = P.nD
  da : ∀ j, j < P.nD → Q.da j = P.da j

/-! Setters: so that what is read in a row stays small. -/
def PM.setTy (Q : PM) (n : Nat) (f : Nat → ByteArray) : PM := { { Q with nTy := n } with ty := f }
def PM.setIm (Q : PM) (n : Nat) (f : Nat → ImpV) : PM := { { Q with nIm := n } with im := f }
def PM.setTab (Q : PM) (a b : Int) : PM := { { Q with tmin := a } with tmax := b }
def PM.setMem (Q : PM) (a b : Int) : PM := { { Q with mmin := a } with mmax := b }
def PM.setGl (Q : PM) (n : Nat) (f : Nat → Glob) : PM := { { Q with gn := n } with g := f }
def PM.setEx (Q : PM) (n : Nat) (f : Nat → ExpV) : PM := { { Q with nEx := n } with ex := f }
def PM.setSt (Q : PM) (a : Int) : PM := { Q with start := a }
def PM.setEl (Q : PM) (n : Nat) (f : Nat → ElV) : PM := { { Q with nEl := n } with el := f }
def PM.setFn (Q : PM) (n : Nat) (f : Nat → FnP) : PM := { { Q with nf := n } with fn := f }
def PM.setDa (Q : PM) (n : Nat) (f : Nat → DatV) : PM := { { Q with nD := n } with da := f }
def Sc.setT (c : Sc) (t : Nat → Int) (n : Nat) : Sc := { { c with types := t } with nT := n }

section
variable {s : ByteArray} {R : Res (Sc × PM)} {P : PM} {c : Sc} {Q : PM} {p : Nat}
/-- The reading has come to p, with the sections below id behind it. -/
def Rch (s : ByteArray) (R : Res (Sc × PM)) (id : Int) (c : Sc) (Q : PM) (p : Nat) : Prop := ∃ fuel last, s.size - p < fuel ∧ last < id ∧ R = decL s fuel last c Q p
theorem Rch.skip {id : Int} (h : Rch s R id c Q p) : Rch s R (id + 1) c Q p := by
  obtain ⟨fuel, last, h1, h2, h3⟩ := h
  exact ⟨fuel, last, h1, by omega, h3⟩
theorem Rch.sec {id : Int} (h : Rch s R id c Q p) (hid : 1 ≤ id ∧ id ≤ 11) (hz : s.size ≤ 4294967295) (L : List Int) (hat : At s p ([id] ++ uleb (L.length : Int) ++ L)) (hfit : p + ([id] ++ uleb (L.length : Int) ++ L).length ≤ s.size) {c' : Sc} {Q' : PM}
    (hsec : secP s (p + (1 + (uleb (L.length : Int)).length) + L.length) id c Q (p + (1 + (uleb (L.length : Int)).length)) = .ok (c', Q') (p + (1 + (uleb (L.length : Int)).length) + L.length)) :
    Rch s R (id + 1) c' Q' (p + ([id] ++ uleb (L.length : Int) ++ L).length) := by
  haveI := outNil
  obtain ⟨fuel, last, h1, h2, h3⟩ := h
  obtain ⟨fuel', rfl⟩ : ∃ fuel', fuel = fuel' + 1 := ⟨fuel - 1, by omega⟩
  have e1 : ([id] : List Int).length = 1 := rfl
  have el : ([id] ++ uleb (L.length : Int) ++ L).length = 1 + (uleb (L.length : Int)).length + L.length := by rw [List.length_append, List.length_append]; rfl
  rw [el] at hfit ⊢
  refine ⟨fuel', id, by omega, by omega, ?_⟩
  have a2 := hat.left.right
  rw [e1] at a2
  rw [h3, decL_succ, if_pos (by omega), next_at' hat.left.left (by omega)]
  simp only [Res.bind]
  rw [if_neg (by omega)]
  have hen : enterP s s.size (p + 1) = .ok L.length (p + (1 + (uleb (L.length : Int)).length)) := by
    unfold enterP
    rw [u32P_at ⟨by omega, by omega⟩ a2 (by omega)]
    simp only [Res.bind]
    rw [if_neg (by omega), Int.toNat_natCast, Nat.add_assoc]
  rw [hen]
  simp only []
  rw [hsec]
  simp only [if_true]
  rw [show p + (1 + (uleb (L.length : Int)).length) + L.length = p + (1 + (uleb (L.length : Int)).length + L.length) by omega]
theorem secE_zero (id : Int) (ls : List Int) : secE id ((0 : Nat) : Int) ls = [] := rfl
theorem secE_pos (id : Int) (n : Nat) (ls : List Int) (hn : 0 < n) (hm : n ≤ 1000) : secE id (n : Int) ls = [id] ++ uleb ((uleb (n : Int) ++ ls).length : Int) ++ (uleb (n : Int) ++ ls) := by
  unfold secE
  rw [if_pos (by omega), ulen_uleb _ (by omega) (by omega), List.length_append]
  rw [show (((uleb (n : Int)).length : Nat) : Int) + ((ls.length : Nat) : Int) = (((uleb (n : Int)).length + ls.length : Nat) : Int) by omega]
  simp only [List.append_assoc]
/-- A section of n rows. -/
theorem Rch.rows {id : Int} (h : Rch s R id c Q p) (hid : 1 ≤ id ∧ id ≤ 11) (hz : s.size ≤ 4294967295) {n : Nat} (hn : 0 < n) (hm : n ≤ 1000) {ls : List Int} (hat : At s p (secE id (n : Int) ls)) (hfit : p + (secE id (n : Int) ls).length ≤ s.size) {K : Sc → PM → Prop}
    (hgo : ∀ q e, At s q (uleb (n : Int)) → At s (q + (uleb (n : Int)).length) ls → q + ((uleb (n : Int)).length + ls.length) = e → e ≤ s.size → ∃ c' Q', secP s e id c Q q = .ok (c', Q') e ∧ K c' Q') : ∃ c' Q', K c' Q' ∧ Rch s R (id + 1) c' Q' (p + (secE id (n : Int) ls).length) := by
  rw [secE_pos id n ls hn hm] at hat hfit ⊢
  have el : ([id] ++ uleb ((uleb (n : Int) ++ ls).length : Int) ++ (uleb (n : Int) ++ ls)).length = 1 + (uleb ((uleb (n : Int) ++ ls).length : Int)).length + (uleb (n : Int) ++ ls).length := by rw [List.length_append, List.length_append]; rfl
  have ell : (uleb (n : Int) ++ ls).length = (uleb (n : Int)).length + ls.length := List.length_append
  have a2 := hat.right
  rw [List.length_append, show ([id] : List Int).length = 1 from rfl] at a2
  obtain ⟨c', Q', h1, h2⟩ := hgo (p + (1 + (uleb ((uleb (n : Int) ++ ls).length : Int)).length)) _ a2.left a2.right rfl (by omega)
  rw [← ell] at h1
  exact ⟨c', Q', h2, h.sec hid hz (uleb (n : Int) ++ ls) hat hfit h1⟩

theorem st1 (h : Rch s R 1 c Q p) (F : WFP P) (hz : s.size ≤ 4294967295) (h0 : Q.nTy = 0) (hat : At s p (secE 1 P.nTy (rowsE typeE P.ty P.nTy))) (hfit : p + (secE 1 P.nTy (rowsE typeE P.ty P.nTy)).length ≤ s.size) :
    ∃ f1, (∀ j, j < P.nTy → f1 j = P.ty j) ∧ Rch s R 2 c (Q.setTy P.nTy f1) (p + (secE 1 P.nTy (rowsE typeE P.ty P.nTy)).length) := by
  have hB := F.pb.nTy
  by_cases hn : P.nTy = 0
  · refine ⟨Q.ty, fun j hj => by omega, ?_⟩
    rw [hn, ← h0, show Q.setTy Q.nTy Q.ty = Q from rfl]
    rw [show ((Q.nTy : Nat) : Int) = ((0 : Nat) : Int) by rw [h0], secE_zero]
    exact h.skip
  · rw [rowsE_eqR] at hat hfit ⊢
    obtain ⟨c', Q', ⟨f1, g1, rfl, rfl⟩, h2⟩ := h.rows (K := fun c' Q' => ∃ f1, (∀ j, j < P.nTy → f1 j = P.ty j) ∧ c' = c ∧ Q' = { { Q with nTy := P.nTy } with ty := f1 }) ⟨by decide, by decide⟩ hz (by omega) (by omega) hat hfit (fun q e a1 a2 hq he => by
      obtain ⟨f1, k1, k2⟩ := typesL_at (s := s) (e := e) he (g := P.ty) P.nTy 0 (fun _ => ⟨#[]⟩) _ (fun j hj => F.ty j (by omega)) a2 (by omega)
      refine ⟨c, { { Q with nTy := P.nTy } with ty := f1 }, ?_, f1, fun j hj => k2.2 j (Nat.zero_le _) (by omega), rfl, rfl⟩
      have hs : secP s e 1 c Q q = (typesP s e q).bind fun a q => .ok (c, if a.1 = 0 then Q else { { Q with nTy := a.1 } with ty := a.2 }) q := rfl
      rw [hs]
      unfold typesP
      rw [countP_at (by omega) (by omega) a1 (by omega)]
      simp only [Res.bind]
      rw [k1]
      simp only []
      rw [if_neg hn, Nat.add_assoc, hq])
    exact ⟨f1, g1, h2⟩
theorem st2 (h : Rch s R 2 c Q p) (F : WFP P) (hz : s.size ≤ 4294967295) (h0 : Q.nIm = 0) (hat : At s p (secE 2 P.nIm (rowsE impE' P.im P.nIm))) (hfit : p + (secE 2 P.nIm (rowsE impE' P.im P.nIm)).length ≤ s.size) :
    ∃ f1, (∀ j, j < P.nIm → f1 j = P.im j) ∧ Rch s R 3 c (Q.setIm P.nIm f1) (p + (secE 2 P.nIm (rowsE impE' P.im P.nIm)).length) := by
  have hB := F.pb.nIm
  by_cases hn : P.nIm = 0
  · refine ⟨Q.im, fun j hj => by omega, ?_⟩
    rw [hn, ← h0, show Q.setIm Q.nIm Q.im = Q from rfl]
    rw [show ((Q.nIm : Nat) : Int) = ((0 : Nat) : Int) by rw [h0], secE_zero]
    exact h.skip
  · rw [rowsE_eqR] at hat hfit ⊢
    obtain ⟨c', Q', ⟨f1, g1, rfl, rfl⟩, h2⟩ := h.rows (K := fun c' Q' => ∃ f1, (∀ j, j < P.nIm → f1 j = P.im j) ∧ c' = c ∧ Q' = { { Q with nIm := P.nIm } with im := f1 }) ⟨by decide, by decide⟩ hz (by omega) (by omega) hat hfit (fun q e a1 a2 hq he => by
      obtain ⟨f1, k1, k2⟩ := importsL_at (s := s) (e := e) he (g := P.im) P.nIm 0 imports0 _ (fun j hj => ⟨F.im j (by omega), (F.pb.im j (by omega)).2.2⟩) a2 (by omega)
      refine ⟨c, { { Q with nIm := P.nIm } with im := f1 }, ?_, f1, fun j hj => k2.2 j (Nat.zero_le _) (by omega), rfl, rfl⟩
      have hs : secP s e 2 c Q q = (importsP s e q).bind fun a q => .ok (c, if a.1 = 0 then Q else { { Q with nIm := a.1 } with im := a.2 }) q := rfl
      rw [hs]
      unfold importsP
      rw [countP_at (by omega) (by omega) a1 (by omega)]
      simp only [Res.bind]
      rw [k1]
      simp only []
      rw [if_neg hn, Nat.add_assoc, hq])
    exact ⟨f1, g1, h2⟩
theorem st3 (h : Rch s R 3 c Q p) (F : WFP P) (hz : s.size ≤ 4294967295) (h0 : c.nT = 0) (hat : At s p (secE 3 P.nf (rowsE (fun x : FnP => uleb x.ty) P.fn P.nf))) (hfit : p + (secE 3 P.nf (rowsE (fun x : FnP => uleb x.ty) P.fn P.nf)).length ≤ s.size) :
    ∃ t, (∀ j, j < P.nf → t j = (P.fn j).ty) ∧ Rch s R 4 (c.setT t P.nf) Q (p + (secE 3 P.nf (rowsE (fun x : FnP => uleb x.ty) P.fn P.nf)).length) := by
  have hB := F.pb.nf
  by_cases hn : P.nf = 0
  · refine ⟨c.types, fun j hj => by omega, ?_⟩
    rw [hn, ← h0, show c.setT c.types c.nT = c from rfl]
    rw [show ((c.nT : Nat) : Int) = ((0 : Nat) : Int) by rw [h0], secE_zero]
    exact h.skip
  · have er : rowsE (fun x : FnP => uleb x.ty) P.fn P.nf = rowsR uleb (fun j => (P.fn j).ty) P.nf 0 := by
      rw [rowsE_eqR]
      have : ∀ k i, rowsR (fun x : FnP => uleb x.ty) P.fn k i = rowsR uleb (fun j => (P.fn j).ty) k i := by
        intro k
        induction k with
        | zero => intro i; rfl
        | succ k ih => intro i; rw [rowsR_succ, rowsR_succ, ih]
      exact this _ _
    rw [er] at hat hfit ⊢
    obtain ⟨c', Q', ⟨t, g1, rfl, rfl⟩, h2⟩ := h.rows (K := fun c' Q' => ∃ t, (∀ j, j < P.nf → t j = (P.fn j).ty) ∧ c' = { { c with types := t } with nT := P.nf } ∧ Q' = Q) ⟨by decide, by decide⟩ hz (by omega) (by omega) hat hfit (fun q e a1 a2 hq he => by
      obtain ⟨t, k1, k2⟩ := funcsL_at (s := s) (e := e) (g := fun j => (P.fn j).ty) P.nf 0 c.types _ (fun j hj => ⟨(F.fn j (by omega)).b.t0, (F.fn j (by omega)).b.t1⟩) a2 (by omega)
      refine ⟨{ { c with types := t } with nT := P.nf }, Q, ?_, t, fun j hj => k2.2 j (Nat.zero_le _) (by omega), rfl, rfl⟩
      have hs : secP s e 3 c Q q = (funcsP s e c.types q).bind fun a q => .ok ({ { c with types := a.2 } with nT := a.1 }, Q) q := rfl
      rw [hs]
      unfold funcsP
      rw [countP_at (by omega) (by omega) a1 (by omega)]
      simp only [Res.bind]
      rw [k1]
      simp only []
      rw [Nat.add_assoc, hq])
    exact ⟨t, g1, h2⟩
theorem st4 (h : Rch s R 4 c Q p) (F : WFP P) (hz : s.size ≤ 4294967295) (h0 : Q.tmin = -1 ∧ Q.tmax = -1) (hat : At s p (if 0 ≤ P.tmin then secE 4 1 ([112] ++ limE P.tmin P.tmax) else [])) (hfit : p + (if 0 ≤ P.tmin then secE 4 1 ([112] ++ limE P.tmin P.tmax) else []).length ≤ s.size) :
    Rch s R 5 c (Q.setTab P.tmin P.tmax) (p + (if 0 ≤ P.tmin then secE 4 1 ([112] ++ limE P.tmin P.tmax) else []).length) := by
  rcases F.tl with ⟨e1, e2⟩ | ⟨w1, w2⟩
  · rw [if_neg (by omega)]
    have : Q.setTab P.tmin P.tmax = Q := by
      have g1 : P.tmin = Q.tmin := by omega
      have g2 : P.tmax = Q.tmax := by omega
      rw [g1, g2]; rfl
    rw [this]
    exact h.skip
  · have hw := w1.1
    rw [if_pos (by omega)] at hat hfit ⊢
    have e11 : (1 : Int) = ((1 : Nat) : Int) := rfl
    rw [e11] at hat hfit ⊢
    obtain ⟨c', Q', ⟨rfl, rfl⟩, h2⟩ := h.rows (K := fun c' Q' => c' = c ∧ Q' = { { Q with tmin := P.tmin } with tmax := P.tmax }) ⟨by decide, by decide⟩ hz (by omega) (by omega) hat hfit (fun q e a1 a2 hq he => by
      refine ⟨c, _, ?_, rfl, rfl⟩
      have hs : secP s e 4 c Q q = (tableP s e q).bind fun a q => .ok (c, match a with | none => Q | some y => { { Q with tmin := y.1 } with tmax := y.2 }) q := rfl
      rw [List.length_append, show ([112] : List Int).length = 1 from rfl] at hq
      have a3 := a2.right
      rw [show ([112] : List Int).length = 1 from rfl] at a3
      rw [hs]
      unfold tableP
      rw [countP_at (by omega) (by omega) a1 (by omega)]
      simp only [Res.bind, if_true]
      rw [fixedP_at a2.left (by omega)]
      simp only []
      rw [limitsP_at w1 w2 a3 (by omega)]
      simp only []
      congr 1; omega)
    exact h2
theorem st5 (h : Rch s R 5 c Q p) (F : WFP P) (hz : s.size ≤ 4294967295) (h0 : Q.mmin = -1 ∧ Q.mmax = -1) (hat : At s p (if 0 ≤ P.mmin then secE 5 1 (limE P.mmin P.mmax) else [])) (hfit : p + (if 0 ≤ P.mmin then secE 5 1 (limE P.mmin P.mmax) else []).length ≤ s.size) :
    Rch s R 6 c (Q.setMem P.mmin P.mmax) (p + (if 0 ≤ P.mmin then secE 5 1 (limE P.mmin P.mmax) else []).length) := by
  rcases F.ml with ⟨e1, e2⟩ | ⟨w1, w2⟩
  · rw [if_neg (by omega)]
    have : Q.setMem P.mmin P.mmax = Q := by
      have g1 : P.mmin = Q.mmin := by omega
      have g2 : P.mmax = Q.mmax := by omega
      rw [g1, g2]; rfl
    rw [this]
    exact h.skip
  · have hw := w1.1
    rw [if_pos (by omega)] at hat hfit ⊢
    have e11 : (1 : Int) = ((1 : Nat) : Int) := rfl
    rw [e11] at hat hfit ⊢
    obtain ⟨c', Q', ⟨rfl, rfl⟩, h2⟩ := h.rows (K := fun c' Q' => c' = c ∧ Q' = { { Q with mmin := P.mmin } with mmax := P.mmax }) ⟨by decide, by decide⟩ hz (by omega) (by omega) hat hfit (fun q e a1 a2 hq he => by
      refine ⟨c, _, ?_, rfl, rfl⟩
      have hs : secP s e 5 c Q q = (memoryP s e q).bind fun a q => .ok (c, match a with | none => Q | some y => { { Q with mmin := y.1 } with mmax := y.2 }) q := rfl
      rw [hs]
      unfold memoryP
      rw [countP_at (by omega) (by omega) a1 (by omega)]
      simp only [Res.bind, if_true]
      rw [limitsP_at w1 w2 a2 (by omega)]
      simp only []
      congr 1; omega)
    exact h2
theorem st6 (h : Rch s R 6 c Q p) (F : WFP P) (hz : s.size ≤ 4294967295) (h0 : Q.gn = 0) (hat : At s p (secE 6 P.gn (rowsE globE' P.g P.gn))) (hfit : p + (secE 6 P.gn (rowsE globE' P.g P.gn)).length ≤ s.size) :
    ∃ f1, (∀ j, j < P.gn → f1 j = P.g j) ∧ Rch s R 7 c (Q.setGl P.gn f1) (p + (secE 6 P.gn (rowsE globE' P.g P.gn)).length) := by
  have hB := F.pb.gn
  by_cases hn : P.gn = 0
  · refine ⟨Q.g, fun j hj => by omega, ?_⟩
    rw [hn, ← h0, show Q.setGl Q.gn Q.g = Q from rfl]
    rw [show ((Q.gn : Nat) : Int) = ((0 : Nat) : Int) by rw [h0], secE_zero]
    exact h.skip
  · rw [rowsE_eqR] at hat hfit ⊢
    obtain ⟨c', Q', ⟨f1, g1, rfl, rfl⟩, h2⟩ := h.rows (K := fun c' Q' => ∃ f1, (∀ j, j < P.gn → f1 j = P.g j) ∧ c' = c ∧ Q' = { { Q with gn := P.gn } with g := f1 }) ⟨by decide, by decide⟩ hz (by omega) (by omega) hat hfit (fun q e a1 a2 hq he => by
      obtain ⟨f1, k1, k2⟩ := globsL_at (s := s) (e := e) he (g := P.g) P.gn 0 globs0 _ (fun j hj => ⟨F.g j (by omega), (F.pb.g j (by omega)).2.2⟩) a2 (by omega)
      refine ⟨c, { { Q with gn := P.gn } with g := f1 }, ?_, f1, fun j hj => k2.2 j (Nat.zero_le _) (by omega), rfl, rfl⟩
      have hs : secP s e 6 c Q q = (globsP s e q).bind fun a q => .ok (c, if a.1 = 0 then Q else { { Q with gn := a.1 } with g := a.2 }) q := rfl
      rw [hs]
      unfold globsP
      rw [countP_at (by omega) (by omega) a1 (by omega)]
      simp only [Res.bind]
      rw [k1]
      simp only []
      rw [if_neg hn, Nat.add_assoc, hq])
    exact ⟨f1, g1, h2⟩
theorem st7 (h : Rch s R 7 c Q p) (F : WFP P) (hz : s.size ≤ 4294967295) (h0 : Q.nEx = 0) (hat : At s p (secE 7 P.nEx (rowsE expE' P.ex P.nEx))) (hfit : p + (secE 7 P.nEx (rowsE expE' P.ex P.nEx)).length ≤ s.size) :
    ∃ f1, (∀ j, j < P.nEx → f1 j = P.ex j) ∧ Rch s R 8 c (Q.setEx P.nEx f1) (p + (secE 7 P.nEx (rowsE expE' P.ex P.nEx)).length) := by
  have hB := F.pb.nEx
  by_cases hn : P.nEx = 0
  · refine ⟨Q.ex, fun j hj => by omega, ?_⟩
    rw [hn, ← h0, show Q.setEx Q.nEx Q.ex = Q from rfl]
    rw [show ((Q.nEx : Nat) : Int) = ((0 : Nat) : Int) by rw [h0], secE_zero]
    exact h.skip
  · rw [rowsE_eqR] at hat hfit ⊢
    obtain ⟨c', Q', ⟨f1, g1, rfl, rfl⟩, h2⟩ := h.rows (K := fun c' Q' => ∃ f1, (∀ j, j < P.nEx → f1 j = P.ex j) ∧ c' = c ∧ Q' = { { Q with nEx := P.nEx } with ex := f1 }) ⟨by decide, by decide⟩ hz (by omega) (by omega) hat hfit (fun q e a1 a2 hq he => by
      obtain ⟨f1, k1, k2⟩ := exportsL_at (s := s) (e := e) he (g := P.ex) P.nEx 0 exports0 _ (fun j hj => ⟨F.ex j (by omega), (F.pb.ex j (by omega)).2.1, (F.pb.ex j (by omega)).2.2.2⟩) a2 (by omega)
      refine ⟨c, { { Q with nEx := P.nEx } with ex := f1 }, ?_, f1, fun j hj => k2.2 j (Nat.zero_le _) (by omega), rfl, rfl⟩
      have hs : secP s e 7 c Q q = (exportsP s e q).bind fun a q => .ok (c, if a.1 = 0 then Q else { { Q with nEx := a.1 } with ex := a.2 }) q := rfl
      rw [hs]
      unfold exportsP
      rw [countP_at (by omega) (by omega) a1 (by omega)]
      simp only [Res.bind]
      rw [k1]
      simp only []
      rw [if_neg hn, Nat.add_assoc, hq])
    exact ⟨f1, g1, h2⟩
theorem uleb_small (n : Nat) (h : n < 128) : uleb (n : Int) = [(n : Int)] := by
  show ulebF (9 + 1) _ = _
  rw [ulebF_succ, if_neg (by omega), wrapU8_mod, Int.emod_eq_of_lt (by omega) (by omega)]
theorem startE_eq {P : PM} (hs : 0 ≤ P.start ∧ P.start ≤ 4294967295) : startE P = [8] ++ uleb ((uleb P.start).length : Int) ++ uleb P.start := by
  unfold startE
  have h5 := uleb5 P.start hs
  have hb : 0 ≤ ((uleb P.start).length : Int) ∧ ((uleb P.start).length : Int) < 256 := ⟨by omega, by omega⟩
  rw [if_pos hs.1, ulen_uleb _ hs.1 hs.2, wrapU8_mod, Int.emod_eq_of_lt hb.1 hb.2, uleb_small _ (by omega)]
  rfl
theorem st8 (h : Rch s R 8 c Q p) (F : WFP P) (hz : s.size ≤ 4294967295) (h0 : Q.start = -1) (hat : At s p (startE P)) (hfit : p + (startE P).length ≤ s.size) :
    Rch s R 9 c (Q.setSt P.start) (p + (startE P).length) := by
  obtain ⟨s1, s2⟩ := F.pb.s0
  by_cases hn : 0 ≤ P.start
  · rw [startE_eq ⟨hn, s2⟩] at hat hfit ⊢
    have el : ([8] ++ uleb ((uleb P.start).length : Int) ++ uleb P.start).length = 1 + (uleb ((uleb P.start).length : Int)).length + (uleb P.start).length := by rw [List.length_append, List.length_append]; rfl
    have a2 := hat.right
    rw [List.length_append, show ([8] : List Int).length = 1 from rfl] at a2
    refine h.sec ⟨by decide, by decide⟩ hz (uleb P.start) hat hfit ?_
    have hs : ∀ e q, secP s e 8 c Q q = (u32P s e q).bind fun n q => .ok (c, { Q with start := n }) q := fun e q => rfl
    rw [hs, u32P_at ⟨hn, s2⟩ a2 (by omega)]
    rfl
  · have e : startE P = [] := by unfold startE; rw [if_neg hn]
    rw [e]
    have : Q.setSt P.start = Q := by rw [show P.start = Q.start by omega]; rfl
    rw [this]
    exact h.skip
theorem st9 (h : Rch s R 9 c Q p) (F : WFP P) (hz : s.size ≤ 4294967295) (h0 : Q.nEl = 0) (hat : At s p (secE 9 P.nEl (rowsE elE' P.el P.nEl))) (hfit : p + (secE 9 P.nEl (rowsE elE' P.el P.nEl)).length ≤ s.size) :
    ∃ f1, (∀ j, j < P.nEl → ElQ (f1 j) (P.el j)) ∧ Rch s R 10 c (Q.setEl P.nEl f1) (p + (secE 9 P.nEl (rowsE elE' P.el P.nEl)).length) := by
  have hB := F.pb.nEl
  by_cases hn : P.nEl = 0
  · refine ⟨Q.el, fun j hj => by omega, ?_⟩
    rw [hn, ← h0, show Q.setEl Q.nEl Q.el = Q from rfl]
    rw [show ((Q.nEl : Nat) : Int) = ((0 : Nat) : Int) by rw [h0], secE_zero]
    exact h.skip
  · rw [rowsE_eqR] at hat hfit ⊢
    obtain ⟨c', Q', ⟨f1, g1, rfl, rfl⟩, h2⟩ := h.rows (K := fun c' Q' => ∃ f1, (∀ j, j < P.nEl → ElQ (f1 j) (P.el j)) ∧ c' = c ∧ Q' = { { Q with nEl := P.nEl } with el := f1 }) ⟨by decide, by decide⟩ hz (by omega) (by omega) hat hfit (fun q e a1 a2 hq he => by
      obtain ⟨f1, k1, _, k2⟩ := elemsL_at (s := s) (e := e) he (g := P.el) P.nEl 0 el0 _ (fun j hj => ⟨F.el j (by omega), (F.pb.el j (by omega)).1, (F.pb.el j (by omega)).2.1, (F.pb.el j (by omega)).2.2⟩) a2 (by omega)
      refine ⟨c, { { Q with nEl := P.nEl } with el := f1 }, ?_, f1, fun j hj => k2 j (Nat.zero_le _) (by omega), rfl, rfl⟩
      have hs : secP s e 9 c Q q = (elemsP s e q).bind fun a q => .ok (c, if a.1 = 0 then Q else { { Q with nEl := a.1 } with el := a.2 }) q := rfl
      rw [hs]
      unfold elemsP
      rw [countP_at (by omega) (by omega) a1 (by omega)]
      simp only [Res.bind]
      rw [k1]
      simp only []
      rw [if_neg hn, Nat.add_assoc, hq])
    exact ⟨f1, g1, h2⟩
theorem st10 (h : Rch s R 10 c Q p) (F : WFP P) (hz : s.size ≤ 4294967295) (h0 : Q.nf = 0) (hT : c.nT = P.nf) (hty : ∀ j, j < P.nf → c.types j = (P.fn j).ty) (hat : At s p (secE 10 P.nf (rowsE codeE P.fn P.nf))) (hfit : p + (secE 10 P.nf (rowsE codeE P.fn P.nf)).length ≤ s.size) :
    ∃ c' f1, (∀ j, j < P.nf → FnQ (f1 j) (P.fn j)) ∧ c'.nT = P.nf ∧ Rch s R 11 c' (Q.setFn P.nf f1) (p + (secE 10 P.nf (rowsE codeE P.fn P.nf)).length) := by
  have hB := F.pb.nf
  by_cases hn : P.nf = 0
  · refine ⟨c, Q.fn, fun j hj => by omega, hT, ?_⟩
    rw [hn, ← h0, show Q.setFn Q.nf Q.fn = Q from rfl]
    rw [show ((Q.nf : Nat) : Int) = ((0 : Nat) : Int) by rw [h0], secE_zero]
    exact h.skip
  · rw [rowsE_eqR] at hat hfit ⊢
    obtain ⟨c', Q', ⟨f1, g1, g2, rfl⟩, h2⟩ := h.rows (K := fun c' Q' => ∃ f1, (∀ j, j < P.nf → FnQ (f1 j) (P.fn j)) ∧ c'.nT = P.nf ∧ Q' = { { Q with nf := P.nf } with fn := f1 }) ⟨by decide, by decide⟩ hz (by omega) (by omega) hat hfit (fun q e a1 a2 hq he => by
      obtain ⟨x, k1, k2, _, k3⟩ := codesL_at (s := s) (e := e) he hz (g := P.fn) P.nf 0 c fn0 _ (fun j hj => F.fn j (by omega)) (fun j _ hj => hty j (by omega)) a2 (by omega)
      refine ⟨x.1, { { Q with nf := P.nf } with fn := x.2 }, ?_, x.2, fun j hj => k3 j (Nat.zero_le _) (by omega), by rw [k2, hT], rfl⟩
      have hs : secP s e 10 c Q q = (codesP s e c q).bind fun a q => .ok (a.2.1, if a.1 = 0 then Q else { { Q with nf := a.1 } with fn := a.2.2 }) q := rfl
      rw [hs]
      unfold codesP
      rw [countP_at (by omega) (by omega) a1 (by omega)]
      simp only [Res.bind]
      rw [if_pos hT.symm, k1]
      simp only []
      rw [if_neg hn, Nat.add_assoc, hq])
    exact ⟨c', f1, g1, g2, h2⟩
theorem st11 (h : Rch s R 11 c Q p) (F : WFP P) (hz : s.size ≤ 4294967295) (h0 : Q.nD = 0) (hat : At s p (secE 11 P.nD (rowsE datE' P.da P.nD))) (hfit : p + (secE 11 P.nD (rowsE datE' P.da P.nD)).length ≤ s.size) :
    ∃ f1, (∀ j, j < P.nD → f1 j = P.da j) ∧ Rch s R 12 c (Q.setDa P.nD f1) (p + (secE 11 P.nD (rowsE datE' P.da P.nD)).length) := by
  have hB := F.pb.nD
  by_cases hn : P.nD = 0
  · refine ⟨Q.da, fun j hj => by omega, ?_⟩
    rw [hn, ← h0, show Q.setDa Q.nD Q.da = Q from rfl]
    rw [show ((Q.nD : Nat) : Int) = ((0 : Nat) : Int) by rw [h0], secE_zero]
    exact h.skip
  · rw [rowsE_eqR] at hat hfit ⊢
    obtain ⟨c', Q', ⟨f1, g1, rfl, rfl⟩, h2⟩ := h.rows (K := fun c' Q' => ∃ f1, (∀ j, j < P.nD → f1 j = P.da j) ∧ c' = c ∧ Q' = { { Q with nD := P.nD } with da := f1 }) ⟨by decide, by decide⟩ hz (by omega) (by omega) hat hfit (fun q e a1 a2 hq he => by
      obtain ⟨f1, k1, k2⟩ := datasL_at (s := s) (e := e) he (g := P.da) P.nD 0 datas0 _ (fun j hj => ⟨F.da j (by omega), (F.pb.da j (by omega)).1⟩) a2 (by omega)
      refine ⟨c, { { Q with nD := P.nD } with da := f1 }, ?_, f1, fun j hj => k2.2 j (Nat.zero_le _) (by omega), rfl, rfl⟩
      have hs : secP s e 11 c Q q = (datasP s e q).bind fun a q => .ok (c, if a.1 = 0 then Q else { { Q with nD := a.1 } with da := a.2 }) q := rfl
      rw [hs]
      unfold datasP
      rw [countP_at (by omega) (by omega) a1 (by omega)]
      simp only [Res.bind]
      rw [k1]
      simp only []
      rw [if_neg hn, Nat.add_assoc, hq])
    exact ⟨f1, g1, h2⟩
end

/-! ### Bytes -/
theorem rowsE_bytes {α : Type} {g : α → List Int} {f : Nat → α} (n : Nat) (h : ∀ j, j < n → Byt (g (f j))) : Byt (rowsE g f n) := by
  rw [rowsE_eqR]; exact rowsR_bytes n 0 (fun j hj => h j (by omega))
theorem one_bytes {x : Int} (h : 0 ≤ x ∧ x < 256) : Byt [x] := Byt.cons h Byt.nil
theorem secE_bytes {id n : Int} {ls : List Int} (hid : 0 ≤ id ∧ id < 256) (h : Byt ls) : Byt (secE id n ls) := by
  unfold secE
  split
  · exact (((one_bytes hid).append (uleb_bytes _)).append (uleb_bytes _)).append h
  · exact Byt.nil
theorem grpF_bytes (t : ByteArray) : ∀ (k i : Nat) (n : Int), Byt (grpF t k i n)
  | 0, i, n => Byt.nil
  | k + 1, i, n => by
    haveI := outNil
    rw [grpF_succ]
    have hb := byte_rng t i
    split
    · exact ((uleb_bytes _).append (one_bytes (by omega))).append (grpF_bytes t k (i + 1) 0)
    · exact grpF_bytes t k (i + 1) (n + 1)
theorem encP_bytes {P : PM} (F : WFP P) : Byt (encP P) := by
  have b0 : ∀ n : Int, 0 ≤ n → n < 256 → Byt [n] := fun n h1 h2 => one_bytes ⟨h1, h2⟩
  unfold encP headE midE tailE
  refine (((?_ : Byt magicL).append ?_).append ?_).append ?_
  · intro x hx; simp [magicL] at hx; omega
  · refine (((?_ : Byt _).append ?_).append ?_).append ?_ |>.append ?_
    · exact secE_bytes ⟨by decide, by decide⟩ (rowsE_bytes _ (fun j hj => ((b0 96 (by decide) (by decide)).append (rawE_bytes _)).append (rawE_bytes _)))
    · exact secE_bytes ⟨by decide, by decide⟩ (rowsE_bytes _ (fun j hj => (((rawE_bytes _).append (rawE_bytes _)).append (b0 0 (by decide) (by decide))).append (uleb_bytes _)))
    · exact secE_bytes ⟨by decide, by decide⟩ (rowsE_bytes _ (fun j hj => uleb_bytes _))
    · split
      · exact secE_bytes ⟨by decide, by decide⟩ ((b0 112 (by decide) (by decide)).append (limE_bytes _ _))
      · exact Byt.nil
    · split
      · exact secE_bytes ⟨by decide, by decide⟩ (limE_bytes _ _)
      · exact Byt.nil
  · refine ((?_ : Byt _).append ?_).append ?_ |>.append ?_
    · refine secE_bytes ⟨by decide, by decide⟩ (rowsE_bytes _ (fun j hj => ?_))
      have h := (F.g j hj).1
      refine Byt.append (Byt.cons ⟨by omega, by omega⟩ (Byt.cons ?_ Byt.nil)) (konE_bytes (F.pb.g j hj).2.2)
      split <;> exact ⟨by decide, by decide⟩
    · refine secE_bytes ⟨by decide, by decide⟩ (rowsE_bytes _ (fun j hj => ?_))
      have h := (F.ex j hj).2
      have h2 := (F.pb.ex j hj).2.1
      exact ((rawE_bytes _).append (one_bytes ⟨h2, by omega⟩)).append (uleb_bytes _)
    · unfold startE
      split
      · exact Byt.append (Byt.cons ⟨by decide, by decide⟩ (Byt.cons (wrapU8 _) Byt.nil)) (uleb_bytes _)
      · exact Byt.nil
    · refine secE_bytes ⟨by decide, by decide⟩ (rowsE_bytes _ (fun j hj => ?_))
      exact (((b0 0 (by decide) (by decide)).append (konE_bytes (F.pb.el j hj).1)).append (uleb_bytes _)).append (rowsE_bytes _ (fun k hk => uleb_bytes _))
  · refine (?_ : Byt _).append ?_
    · refine secE_bytes ⟨by decide, by decide⟩ (rowsE_bytes _ (fun j hj => ?_))
      have hf := (F.fn j hj).b
      refine (uleb_bytes _).append (((uleb_bytes _).append (grpF_bytes _ _ _ _)).append ?_)
      exact rowsE_bytes _ (fun k hk => insE_bytes (hf.ins k hk) _ _)
    · refine secE_bytes ⟨by decide, by decide⟩ (rowsE_bytes _ (fun j hj => ?_))
      exact ((b0 0 (by decide) (by decide)).append (konE_bytes (F.pb.da j hj).1)).append (rawE_bytes _)

/-! ### The round -/
theorem round {P : PM} (F : WFP P) (hz : (strOfNums (encP P)).size ≤ 4294967295) (c : Sc) : ∃ x, decP (strOfNums (encP P)) c = .ok x (strOfNums (encP P)).size ∧ PEq P x.2 := by
  haveI := outNil
  have hat := at_nums (encP_bytes F)
  have hsz : (strOfNums (encP P)).size = (encP P).length := strOfNums_size _
  generalize hs : strOfNums (encP P) = s at hat hz hsz
  have hat2 : At s 0 (magicL ++ headE P ++ midE P ++ tailE P) := hat
  have hlen : (encP P).length = 8 + (headE P).length + (midE P).length + (tailE P).length := by unfold encP; rw [List.length_append, List.length_append, List.length_append]; rfl
  have aH : At s 8 (headE P) := hat2.left.left.right
  have aM : At s (8 + (headE P).length) (midE P) := by have := hat2.left.right; rw [List.length_append, Nat.zero_add] at this; exact this
  have aT : At s (8 + (headE P).length + (midE P).length) (tailE P) := by have := hat2.right; rw [List.length_append, List.length_append, Nat.zero_add] at this; exact this
  have lH : (headE P).length = (secE 1 P.nTy (rowsE typeE P.ty P.nTy)).length + (secE 2 P.nIm (rowsE impE' P.im P.nIm)).length + (secE 3 P.nf (rowsE (fun x : FnP => uleb x.ty) P.fn P.nf)).length + (if 0 ≤ P.tmin then secE 4 1 ([112] ++ limE P.tmin P.tmax) else []).length + (if 0 ≤ P.mmin then secE 5 1 (limE P.mmin P.mmax) else []).length := by unfold headE; rw [List.length_append, List.length_append, List.length_append, List.length_append]
  have lM : (midE P).length = (secE 6 P.gn (rowsE globE' P.g P.gn)).length + (secE 7 P.nEx (rowsE expE' P.ex P.nEx)).length + (startE P).length + (secE 9 P.nEl (rowsE elE' P.el P.nEl)).length := by unfold midE; rw [List.length_append, List.length_append, List.length_append]
  have lT : (tailE P).length = (secE 10 P.nf (rowsE codeE P.fn P.nf)).length + (secE 11 P.nD (rowsE datE' P.da P.nD)).length := by unfold tailE; rw [List.length_append]
  unfold headE at aH
  unfold midE at aM
  unfold tailE at aT
  have a1 := aH.left.left.left.left
  have a2 := aH.left.left.left.right
  have a3 := aH.left.left.right
  rw [List.length_append, ← Nat.add_assoc] at a3
  have a4 := aH.left.right
  rw [List.length_append, List.length_append, ← Nat.add_assoc, ← Nat.add_assoc] at a4
  have a5 := aH.right
  rw [List.length_append, List.length_append, List.length_append, ← Nat.add_assoc, ← Nat.add_assoc, ← Nat.add_assoc] at a5
  have a6 := aM.left.left.left
  have a7 := aM.left.left.right
  have a8 := aM.left.right
  rw [List.length_append, ← Nat.add_assoc] at a8
  have a9 := aM.right
  rw [List.length_append, List.length_append, ← Nat.add_assoc, ← Nat.add_assoc] at a9
  have a10 := aT.left
  have a11 := aT.right
  have h0 : Rch s (decP s c) 1 { c with nT := 0 } pm0 8 := ⟨s.size - 8 + 1, 0, by omega, by decide, rfl⟩
  obtain ⟨f1, g1, h1⟩ := st1 h0 F hz rfl a1 (by omega)
  obtain ⟨f2, g2, h2⟩ := st2 h1 F hz rfl a2 (by omega)
  obtain ⟨t3, g3, h3⟩ := st3 h2 F hz rfl a3 (by omega)
  have h4 := st4 h3 F hz ⟨rfl, rfl⟩ a4 (by omega)
  have h5 := st5 h4 F hz ⟨rfl, rfl⟩ a5 (by omega)
  rw [show 8 + (secE 1 P.nTy (rowsE typeE P.ty P.nTy)).length + (secE 2 P.nIm (rowsE impE' P.im P.nIm)).length + (secE 3 P.nf (rowsE (fun x : FnP => uleb x.ty) P.fn P.nf)).length + (if 0 ≤ P.tmin then secE 4 1 ([112] ++ limE P.tmin P.tmax) else []).length + (if 0 ≤ P.mmin then secE 5 1 (limE P.mmin P.mmax) else []).length = 8 + (headE P).length by omega] at h5
  obtain ⟨f6, g6, h6⟩ := st6 h5 F hz rfl a6 (by omega)
  obtain ⟨f7, g7, h7⟩ := st7 h6 F hz rfl a7 (by omega)
  have h8 := st8 h7 F hz rfl a8 (by omega)
  obtain ⟨f9, g9, h9⟩ := st9 h8 F hz rfl a9 (by omega)
  rw [show 8 + (headE P).length + (secE 6 P.gn (rowsE globE' P.g P.gn)).length + (secE 7 P.nEx (rowsE expE' P.ex P.nEx)).length + (startE P).length + (secE 9 P.nEl (rowsE elE' P.el P.nEl)).length = 8 + (headE P).length + (midE P).length by omega] at h9
  obtain ⟨c10, f10, g10, k10, h10⟩ := st10 h9 F hz rfl rfl g3 a10 (by omega)
  obtain ⟨f11, g11, h11⟩ := st11 h10 F hz rfl a11 (by omega)
  obtain ⟨fuel, last, r1, r2, r3⟩ := h11
  obtain ⟨fuel', rfl⟩ : ∃ fuel', fuel = fuel' + 1 := ⟨fuel - 1, by omega⟩
  rw [show 8 + (headE P).length + (midE P).length + (secE 10 P.nf (rowsE codeE P.fn P.nf)).length + (secE 11 P.nD (rowsE datE' P.da P.nD)).length = s.size by omega, decL_succ, if_neg (by omega)] at r3
  split at r3
  · exact ⟨_, r3, ⟨rfl, g1, rfl, g2, rfl, g10, rfl, rfl, rfl, rfl, rfl, g6, rfl, g7, rfl, rfl, g9, rfl, g11⟩⟩
  · rename_i g; exact absurd k10 g

end Go.Proofs.Qxb6500316a
