/-
  The machine: Load.
-/
import Derived.Test.Qxb6500317aGreatExJ
import Derived.Test.Qxb6500317aGreatEqA
set_option linter.unusedSimpArgs false
set_option linter.unusedVariables false
set_option maxRecDepth 100000
set_option linter.unusedSectionVars false
set_option maxHeartbeats 1000000
namespace Go.Proofs.Qxb6500317aGreat
open Go Go.Vc

/-- Nothing but the machine's own was touched. -/
structure Frm (A : XA) (F : List Nat) (w : World) (F' : List Nat) (w' : World) : Prop where
  b : ∀ k, k < w.heap.size → A.n6 ≤ k → k ∉ F → w'.heap[k]? = w.heap[k]?
  s : w.heap.size ≤ w'.heap.size
  f : ∀ d, d ∈ F' → d ∈ F ∨ w.heap.size ≤ d
theorem Frm.of {A : XA} {F F' : List Nat} {w w' : World} {T : List Nat} (hs : Same T w.heap.size w w') (hT : ∀ k, k ∈ T → k < A.n6 ∨ k ∈ F) (hF : ∀ d, d ∈ F' → d ∈ F ∨ w.heap.size ≤ d) : Frm A F w F' w' :=
  ⟨fun k hk h6 hf => hs.block k hk (fun g => by rcases hT k g with e | e
                                                · omega
                                                · exact hf e), hs.size, hF⟩
theorem Frm.trans {A : XA} {F F' F'' : List Nat} {w w' w'' : World} (a : Frm A F w F' w') (c : Frm A F' w' F'' w'') : Frm A F w F'' w'' := by
  refine ⟨fun k hk h6 hf => (c.b k (by have := a.s; omega) h6 (fun g => ?_)).trans (a.b k hk h6 hf), by have := a.s; have := c.s; omega, fun d hd => ?_⟩
  · rcases a.f k g with e | e
    · exact hf e
    · omega
  · rcases c.f d hd with e | e
    · exact a.f d e
    · right; have := a.s; omega
theorem Frm.refl (A : XA) (F : List Nat) (w : World) : Frm A F w F w := ⟨fun _ _ _ _ => rfl, Nat.le_refl _, fun _ h => .inl h⟩
theorem XL.frm {E : RE} {w1 w' : World} {F F' : List Nat} {ms : M.MS} {h : HS} {S fr : Nat → Int} (x : XL (E.at w1 F) w' F' ms h S fr) (hs : w1.heap.size ≤ w'.heap.size) (hF : ∀ d, d ∈ F' → d ∈ F ∨ w1.heap.size ≤ d) : Frm E.A F w1 F' w' :=
  ⟨fun k hk h6 hf => x.zx k ⟨hk, h6, hf⟩, hs, hF⟩
/-- A text that the three front layers take. -/
structure Taken (s : ByteArray) (P : PM) (fs : List FF) : Prop where
  dec : ∃ c q, decA s sc0 = .ok (c, P) q
  val : (validV P).2.2 = 0
  cmp : comp P = .inr fs
  room : ∀ i, i < P.nf → wsum (bdOf P (P.fn i)) (P.fn i).nI ≤ 120 ∧ 1 ≤ (P.fn i).nI
  ti : ∀ i, i < P.nIm → 0 ≤ (P.im i).ty ∧ (P.im i).ty < P.nTy
  tf : ∀ i, i < P.nf → 0 ≤ (P.fn i).ty ∧ (P.fn i).ty < P.nTy
section
variable {W w w' : World} {A : XA} {F : List Nat} {ms : M.MS} {h : HS} {S fr : Nat → Int} {v5 v6 v7 v8 : Value} {R : Value → World → Prop}
theorem XB.bin (X : XB W w A F ms h S fr) {c : Sc} (hs : Same [A.b, A.bi, A.bt] w.heap.size w w') (bn : BN w' A.b A.bi A.bt c) : XB W w' A F ms h S fr := by
  obtain ⟨⟨a1, a2, a3, a4, a5, a6⟩, ⟨b1, b2⟩, ⟨d1, d2, d3, d4⟩, ⟨p1, p2, q1, q2⟩, ⟨h1, h2⟩, ⟨k1, k2, x1, x2, ne⟩, lt, z0⟩ := X.zone
  have no : ∀ k, A.n1 ≤ k → k ∉ [A.b, A.bi, A.bt] := fun k hk g => by simp at g; omega
  have sz := hs.size
  have cx : ∀ j, w'.cell? ⟨A.xb, j, none⟩ = w.cell? ⟨A.xb, j, none⟩ := fun j => hs.cell (p := ⟨A.xb, j, none⟩) (by show A.xb < _; omega) (no A.xb (by omega))
  have ck : ∀ j, w'.cell? ⟨A.kb, j, none⟩ = w.cell? ⟨A.kb, j, none⟩ := fun j => hs.cell (p := ⟨A.kb, j, none⟩) (by show A.kb < _; omega) (no A.kb (by omega))
  obtain ⟨o, k, va⟩ := X.va
  exact ⟨X.z, X.zf, X.z0, by omega, X.smo hs (fun k g => by simp at g; omega), by rw [cx]; exact X.c0, by rw [cx]; exact X.c1, by rw [cx]; exact X.c2, by rw [cx]; exact X.c3, by rw [cx]; exact X.c4, by rw [cx]; exact X.c9,
    fun j hj => by rw [cx]; exact X.fr j hj, fun j => by rw [hs.frozen (p := ⟨A.xb, j, none⟩) (by show A.xb < _; omega) (no A.xb (by omega))]; exact X.xf j, ⟨c, bn⟩, ⟨o, k, va.same hs va.lt (no A.vb (by omega))⟩, X.pz.same hs (Nat.le_refl _) (no A.pb (by omega)) (no A.cb (by omega)),
    X.mt.same hs (by omega) (by omega) (no _ (by omega)) (no _ (by omega)), X.wf, X.ho.same hs (no _ (by omega)) (fun d hd => no d (by have := X.zf d hd; omega)), fun j hj => by rw [ck]; exact X.st j hj, fun j => by rw [hs.frozen (p := ⟨A.kb, j, none⟩) (by show A.kb < _; omega) (no A.kb (by omega))]; exact X.sf j⟩
theorem XB.valid (X : XB W w A F ms h S fr) (hs : Same [A.vb] w.heap.size w w') (va : ∃ o k, VAt w' A.vb o k) : XB W w' A F ms h S fr := by
  obtain ⟨⟨a1, a2, a3, a4, a5, a6⟩, ⟨b1, b2⟩, ⟨d1, d2, d3, d4⟩, ⟨p1, p2, q1, q2⟩, ⟨h1, h2⟩, ⟨k1, k2, x1, x2, ne⟩, lt, z0⟩ := X.zone
  have no : ∀ k, A.n2 ≤ k ∨ k < A.n1 → k ∉ [A.vb] := fun k hk g => by simp at g; omega
  have sz := hs.size
  have cx : ∀ j, w'.cell? ⟨A.xb, j, none⟩ = w.cell? ⟨A.xb, j, none⟩ := fun j => hs.cell (p := ⟨A.xb, j, none⟩) (by show A.xb < _; omega) (no A.xb (by omega))
  have ck : ∀ j, w'.cell? ⟨A.kb, j, none⟩ = w.cell? ⟨A.kb, j, none⟩ := fun j => hs.cell (p := ⟨A.kb, j, none⟩) (by show A.kb < _; omega) (no A.kb (by omega))
  obtain ⟨c, bn⟩ := X.bn
  exact ⟨X.z, X.zf, X.z0, by omega, X.smo hs (fun k g => by simp at g; omega), by rw [cx]; exact X.c0, by rw [cx]; exact X.c1, by rw [cx]; exact X.c2, by rw [cx]; exact X.c3, by rw [cx]; exact X.c4, by rw [cx]; exact X.c9,
    fun j hj => by rw [cx]; exact X.fr j hj, fun j => by rw [hs.frozen (p := ⟨A.xb, j, none⟩) (by show A.xb < _; omega) (no A.xb (by omega))]; exact X.xf j, ⟨c, bn.go hs (no A.b (by omega)) (no A.bi (by omega)) (no A.bt (by omega))⟩, va, X.pz.same hs (Nat.le_refl _) (no A.pb (by omega)) (no A.cb (by omega)),
    X.mt.same hs (by omega) (by omega) (no _ (by omega)) (no _ (by omega)), X.wf, X.ho.same hs (no _ (by omega)) (fun d hd => no d (by have := X.zf d hd; omega)), fun j hj => by rw [ck]; exact X.st j hj, fun j => by rw [hs.frozen (p := ⟨A.kb, j, none⟩) (by show A.kb < _; omega) (no A.kb (by omega))]; exact X.sf j⟩
theorem XB.prep (X : XB W w A F ms h S fr) (hs : Same [A.pb, A.cb] w.heap.size w w') (pz : PZe w' A.pb A.cb) : XB W w' A F ms h S fr := by
  obtain ⟨⟨a1, a2, a3, a4, a5, a6⟩, ⟨b1, b2⟩, ⟨d1, d2, d3, d4⟩, ⟨p1, p2, q1, q2⟩, ⟨h1, h2⟩, ⟨k1, k2, x1, x2, ne⟩, lt, z0⟩ := X.zone
  have no : ∀ k, A.n3 ≤ k ∨ k < A.n2 → k ∉ [A.pb, A.cb] := fun k hk g => by simp at g; omega
  have sz := hs.size
  have cx : ∀ j, w'.cell? ⟨A.xb, j, none⟩ = w.cell? ⟨A.xb, j, none⟩ := fun j => hs.cell (p := ⟨A.xb, j, none⟩) (by show A.xb < _; omega) (no A.xb (by omega))
  have ck : ∀ j, w'.cell? ⟨A.kb, j, none⟩ = w.cell? ⟨A.kb, j, none⟩ := fun j => hs.cell (p := ⟨A.kb, j, none⟩) (by show A.kb < _; omega) (no A.kb (by omega))
  obtain ⟨c, bn⟩ := X.bn
  obtain ⟨o, k, va⟩ := X.va
  exact ⟨X.z, X.zf, X.z0, by omega, X.smo hs (fun k g => by simp at g; omega), by rw [cx]; exact X.c0, by rw [cx]; exact X.c1, by rw [cx]; exact X.c2, by rw [cx]; exact X.c3, by rw [cx]; exact X.c4, by rw [cx]; exact X.c9,
    fun j hj => by rw [cx]; exact X.fr j hj, fun j => by rw [hs.frozen (p := ⟨A.xb, j, none⟩) (by show A.xb < _; omega) (no A.xb (by omega))]; exact X.xf j, ⟨c, bn.go hs (no A.b (by omega)) (no A.bi (by omega)) (no A.bt (by omega))⟩, ⟨o, k, va.same hs va.lt (no A.vb (by omega))⟩, pz,
    X.mt.same hs (by omega) (by omega) (no _ (by omega)) (no _ (by omega)), X.wf, X.ho.same hs (no _ (by omega)) (fun d hd => no d (by have := X.zf d hd; omega)), fun j hj => by rw [ck]; exact X.st j hj, fun j => by rw [hs.frozen (p := ⟨A.kb, j, none⟩) (by show A.kb < _; omega) (no A.kb (by omega))]; exact X.sf j⟩
/-- The module and the code, where the compiler left them. -/
theorem Lm.made {E : RE} {wd : World} {L base : Nat} {m : Nat → Value} (H : HM wd w L E.mb m E.P) (C : CdAt w base E.cdb E.fs) (hb : L < base) (hE : E.I = fun k => L < k ∧ k < w.heap.size)
    (hfb : E.fs ≠ [] → ∃ fb, CdR w base E.cdb fb E.fs.length E.fs ∧ E.fb = fb ∧ ∀ j f, E.fs[j]? = some f → w.cell? ⟨fb, j * 4 + 3, none⟩ = some (.slice (some ⟨E.nbs j, 0, none⟩) f.cells.length f.cells.length)) : Lm E w := by
  have cl : E.cdb < w.heap.size ∧ base ≤ E.cdb := by
    rcases C with ⟨_, h2, h3⟩ | ⟨_, fb, h2⟩
    · exact ⟨cell_lt h2, h3⟩
    · exact ⟨h2.b1.2.2.1, h2.b1.1⟩
  refine ⟨?_, ?_, fun h0 => ?_, by rw [hE]; exact ⟨H.lm, by have := H.mlt; have := H.size; omega⟩, by rw [hE]; exact ⟨by omega, cl.1⟩⟩
  · obtain ⟨a, e, _⟩ := H.im
    exact ⟨a, e⟩
  · rcases H.minv.e8 with ⟨h0, hv⟩ | ⟨h0, b, h1, h2, h3, h4⟩
    · refine ⟨none, ?_, fun g => absurd h0 g⟩
      rw [h0, ← hv]; exact H.modAt.c 8 (by decide)
    · exact ⟨_, h1 ▸ H.modAt.c 8 (by decide), fun _ => ⟨b, rfl, by rw [hE]; exact ⟨h3, h4⟩, h2.c⟩⟩
  · obtain ⟨fb, R, efb, hn⟩ := hfb h0
    obtain ⟨b1, b2, b3, b4, b5⟩ := R.b1
    rw [efb]
    refine ⟨R.c0, by rw [hE]; exact ⟨by omega, b4⟩, fun j f hf => ?_⟩
    obtain ⟨r0, r1, r2, nb, r3, r4, r5, r6, r7⟩ := R.r0 j f hf
    have e := hn j f hf
    rw [r3] at e
    have e : nb = E.nbs j := by simpa using e
    rw [← e]
    exact ⟨r0, r1, r2, r3, r4, by rw [hE]; exact ⟨by omega, r6⟩⟩
theorem Lm.mono {E E' : RE} (M : Lm E w) (h1 : E'.mb = E.mb) (h2 : E'.cdb = E.cdb) (h3 : E'.fb = E.fb) (h4 : E'.nbs = E.nbs) (h5 : E'.P = E.P) (h6 : E'.fs = E.fs) (hI : ∀ k, E.I k → E'.I k) : Lm E' w := by
  refine ⟨by rw [h1, h5]; exact M.im, ?_, ?_, by rw [h1]; exact hI _ M.mI, by rw [h2]; exact hI _ M.cI⟩
  · rw [h1, h5]
    obtain ⟨a, e, h⟩ := M.ex
    refine ⟨a, e, fun h0 => ?_⟩
    obtain ⟨b, e1, e2, e3⟩ := h h0
    exact ⟨b, e1, hI b e2, e3⟩
  · rw [h2, h3, h4, h6]
    intro h0
    obtain ⟨e1, e2, e3⟩ := M.cd h0
    refine ⟨e1, hI _ e2, fun j g hg => ?_⟩
    obtain ⟨a1, a2, a3, a4, a5, a6⟩ := e3 j g hg
    exact ⟨a1, a2, a3, a4, a5, hI _ a6⟩
end
end Go.Proofs.Qxb6500317aGreat
