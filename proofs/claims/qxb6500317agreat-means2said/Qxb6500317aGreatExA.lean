/-
  The machine in memory.
-/
import Derived.Test.Qxb6500317aGreatHoH
import Derived.Test.Qxb6500317aGreatPrI
import Derived.Test.Qxb6500317aGreatIdA
import Derived.Test.Qxb6500317aGreatVpA
import Derived.Test.Qxb6500317aGreatSv
import Derived.Test.Qxb6500317aGreatMemD
set_option linter.unusedSimpArgs false
set_option linter.unusedVariables false
set_option maxRecDepth 100000
set_option linter.unusedSectionVars false
namespace Go.Proofs.Qxb6500317aGreat
open Go Go.Vc

/-- The Bin of the machine: its three buffers are nil for good. -/
abbrev BN (w : World) (b bi bt : Nat) (c : Sc) : Prop := BL outNil w b bi bt c none none none
theorem BL.go {I : OutOf} {w w' : World} {b bi bt : Nat} {c : Sc} {go gs gf : Option Nat} (h : BL I w b bi bt c go gs gf) {S : List Nat} (hS : Same S w.heap.size w w') (h1 : b ∉ S) (h2 : bi ∉ S) (h3 : bt ∉ S) (h4 : ∀ k, go = some k ∨ gs = some k ∨ gf = some k → k ∉ S) : BL I w' b bi bt c go gs gf :=
  ⟨h.ba.keep hS h1 h2 h3, h.o.same hS (Nat.le_refl _) (fun k hk => h4 k (.inl hk)), h.s.same hS (Nat.le_refl _) (fun k hk => h4 k (.inr (.inl hk))), h.f.same hS (Nat.le_refl _) (fun k hk => h4 k (.inr (.inr hk))), h.xo, h.xs, h.xf, h.y1, h.y2, h.y3⟩
theorem BN.go {w w' : World} {b bi bt : Nat} {c : Sc} (h : BN w b bi bt c) {S : List Nat} (hS : Same S w.heap.size w w') (h1 : b ∉ S) (h2 : bi ∉ S) (h3 : bt ∉ S) : BN w' b bi bt c :=
  BL.go h hS h1 h2 h3 (fun k hk => by rcases hk with e | e | e <;> cases e)

/-- Where the machine lies: each layer in a zone of its own. -/
structure XA where
  xb : Nat
  b : Nat
  bi : Nat
  bt : Nat
  vb : Nat
  pb : Nat
  cb : Nat
  p : Nat
  q : Nat
  hb : Nat
  kb : Nat
  n0 : Nat
  n1 : Nat
  n2 : Nat
  n3 : Nat
  n4 : Nat
  n5 : Nat
  n6 : Nat
structure XZ (A : XA) : Prop where
  b : A.n0 ≤ A.b ∧ A.b < A.n1
  bi : A.n0 ≤ A.bi ∧ A.bi < A.n1
  bt : A.n0 ≤ A.bt ∧ A.bt < A.n1
  vb : A.n1 ≤ A.vb ∧ A.vb < A.n2
  pb : A.n2 ≤ A.pb ∧ A.pb < A.n3
  cb : A.n2 ≤ A.cb ∧ A.cb < A.n3
  p : A.n3 ≤ A.p ∧ A.p < A.n4
  q : A.n3 ≤ A.q ∧ A.q < A.n4
  hb : A.n4 ≤ A.hb ∧ A.hb < A.n5
  kb : A.n5 ≤ A.kb ∧ A.kb < A.n6
  xb : A.n5 ≤ A.xb ∧ A.xb < A.n6
  ne : A.kb ≠ A.xb
def FZ (A : XA) (F : List Nat) : Prop := ∀ d, d ∈ F → (A.n4 ≤ d ∧ d < A.n5) ∨ A.n6 ≤ d
structure XB (W w : World) (A : XA) (F : List Nat) (ms : M.MS) (h : HS) (S : Nat → Int) (fr : Nat → Int) : Prop where
  z : XZ A
  zf : FZ A F
  z0 : A.n0 = W.heap.size
  lt : A.n6 ≤ w.heap.size
  sm : Same [] W.heap.size W w
  c0 : w.cell? ⟨A.xb, 0, none⟩ = some (rp A.b)
  c1 : w.cell? ⟨A.xb, 1, none⟩ = some (rp A.vb)
  c2 : w.cell? ⟨A.xb, 2, none⟩ = some (rp A.pb)
  c3 : w.cell? ⟨A.xb, 3, none⟩ = some (rp A.p)
  c4 : w.cell? ⟨A.xb, 4, none⟩ = some (rp A.hb)
  c9 : w.cell? ⟨A.xb, 9, none⟩ = some (.slice (some ⟨A.kb, 0, none⟩) 120 120)
  fr : ∀ j, j < 18 → w.cell? ⟨A.xb, 10 + j, none⟩ = some (.int .i64 (fr j))
  xf : ∀ j, w.frozen? ⟨A.xb, j, none⟩ = false
  bn : ∃ c, BN w A.b A.bi A.bt c
  va : ∃ o k, VAt w A.vb o k
  pz : PZe w A.pb A.cb
  mt : M.MSAt w A.p A.q ms
  wf : ms.Wf
  ho : HoAt w A.hb F h
  st : ∀ j, j < 120 → w.cell? ⟨A.kb, j, none⟩ = some (.int .u64 (S j))
  sf : ∀ j, w.frozen? ⟨A.kb, j, none⟩ = false
/-- What the machine holds: its cells 5 to 8. -/
structure X58 (w : World) (xb : Nat) (v5 v6 v7 v8 : Value) : Prop where
  c5 : w.cell? ⟨xb, 5, none⟩ = some v5
  c6 : w.cell? ⟨xb, 6, none⟩ = some v6
  c7 : w.cell? ⟨xb, 7, none⟩ = some v7
  c8 : w.cell? ⟨xb, 8, none⟩ = some v8
theorem show_len {w : World} {hb : Nat} {F : List Nat} {h : HS} (H : HoAt w hb F h) : h.show.length ≤ 2000 := by
  have := H.n4; have := H.le; have := H.tl; have := H.rk
  unfold HS.show
  simp only [List.length_append, kindsT_len, wordsT_len]
  simp
  omega
theorem mshow_len {s : M.MS} (hw : s.Wf) : s.show.size ≤ 100000 := by
  have h1 := hw.ncap; have h2 := hw.cap384; have h3 := hw.tl8; have h4 := hw.ng4
  have a0 : (M.showMem s.has s.n s.cap s.back).size ≤ 1000 := by
    unfold M.showMem
    split
    · rw [M.size_app, M.size_app, M.size_app, M.hexStr_size, strOfNums_size, List.length_map, List.length_range]
      have := M.itoa_size ((s.cap / 64 : Nat) : Int)
      have e1 : ByteArray.size ⟨#[109, 101, 109, 32]⟩ = 4 := rfl
      have e2 : ByteArray.size ⟨#[32]⟩ = 1 := rfl
      omega
    · decide
  unfold M.MS.show
  have a1 := M.tabText_size (fun j => itoa (s.tab j)) 21 (fun j => M.itoa_size _) s.tl (M.showMem s.has s.n s.cap s.back ++ (⟨#[32, 116, 97, 98]⟩ : ByteArray))
  have a2 := M.tabText_size (fun j => hexOf (s.glob j) 16) 16 (fun j => M.hexOf_size _ _) s.ng (M.tabText (fun j => itoa (s.tab j)) s.tl (M.showMem s.has s.n s.cap s.back ++ (⟨#[32, 116, 97, 98]⟩ : ByteArray)) ++ (⟨#[32, 103, 108, 111, 98]⟩ : ByteArray))
  rw [M.size_app] at a1 a2
  have e1 : ByteArray.size ⟨#[32, 116, 97, 98]⟩ = 4 := rfl
  have e2 : ByteArray.size ⟨#[32, 103, 108, 111, 98]⟩ = 5 := rfl
  omega
theorem upd_same {α : Type} (f : Nat → α) (i : Nat) (a : α) : upd f i a i = a := if_pos rfl
theorem upd_ne {α : Type} (f : Nat → α) {i j : Nat} (a : α) (h : j ≠ i) : upd f i a j = f j := if_neg h
section
variable {W w w' : World} {A : XA} {F : List Nat} {ms : M.MS} {h : HS} {S fr : Nat → Int} {v5 v6 v7 v8 : Value}
theorem X58.same {xb : Nat} (H : X58 w xb v5 v6 v7 v8) {S : List Nat} {B : Nat} (hs : Same S B w w') (hb : xb < B) (hn : xb ∉ S) : X58 w' xb v5 v6 v7 v8 :=
  ⟨by rw [hs.cell (p := ⟨xb, 5, none⟩) hb hn]; exact H.c5, by rw [hs.cell (p := ⟨xb, 6, none⟩) hb hn]; exact H.c6, by rw [hs.cell (p := ⟨xb, 7, none⟩) hb hn]; exact H.c7, by rw [hs.cell (p := ⟨xb, 8, none⟩) hb hn]; exact H.c8⟩
/-- Where a block of the machine lies. -/
theorem XB.zone (X : XB W w A F ms h S fr) : (A.n0 ≤ A.b ∧ A.b < A.n1 ∧ A.n0 ≤ A.bi ∧ A.bi < A.n1 ∧ A.n0 ≤ A.bt ∧ A.bt < A.n1) ∧ (A.n1 ≤ A.vb ∧ A.vb < A.n2) ∧ (A.n2 ≤ A.pb ∧ A.pb < A.n3 ∧ A.n2 ≤ A.cb ∧ A.cb < A.n3) ∧ (A.n3 ≤ A.p ∧ A.p < A.n4 ∧ A.n3 ≤ A.q ∧ A.q < A.n4) ∧ (A.n4 ≤ A.hb ∧ A.hb < A.n5) ∧ (A.n5 ≤ A.kb ∧ A.kb < A.n6 ∧ A.n5 ≤ A.xb ∧ A.xb < A.n6 ∧ A.kb ≠ A.xb) ∧ A.n6 ≤ w.heap.size ∧ A.n0 = W.heap.size := by
  obtain ⟨⟨a1, a2⟩, ⟨a3, a4⟩, ⟨a5, a6⟩, ⟨a7, a8⟩, ⟨a9, a10⟩, ⟨a11, a12⟩, ⟨a13, a14⟩, ⟨a15, a16⟩, ⟨a17, a18⟩, ⟨a19, a20⟩, ⟨a21, a22⟩, a23⟩ := X.z
  exact ⟨⟨a1, a2, a3, a4, a5, a6⟩, ⟨a7, a8⟩, ⟨a9, a10, a11, a12⟩, ⟨a13, a14, a15, a16⟩, ⟨a17, a18⟩, ⟨a19, a20, a21, a22, a23⟩, X.lt, X.z0⟩
/-- The three front layers stay where nothing of theirs is touched. -/
theorem XB.front (X : XB W w A F ms h S fr) {T : List Nat} (hs : Same T w.heap.size w w') (hT : ∀ k, k ∈ T → A.n3 ≤ k) : (∃ c, BN w' A.b A.bi A.bt c) ∧ (∃ o k, VAt w' A.vb o k) ∧ PZe w' A.pb A.cb := by
  obtain ⟨⟨a1, a2, a3, a4, a5, a6⟩, ⟨b1, b2⟩, ⟨d1, d2, d3, d4⟩, ⟨p1, p2, q1, q2⟩, ⟨h1, h2⟩, ⟨k1, k2, x1, x2, ne⟩, lt, z0⟩ := X.zone
  have no : ∀ k, k < A.n3 → k ∉ T := fun k hk g => by have := hT k g; omega
  obtain ⟨c, bn⟩ := X.bn
  obtain ⟨o, k, va⟩ := X.va
  have e12 : A.n1 ≤ A.n3 := by omega
  exact ⟨⟨c, bn.go hs (no _ (by omega)) (no _ (by omega)) (no _ (by omega))⟩, ⟨o, k, va.same hs va.lt (no _ (by omega))⟩, X.pz.same hs (Nat.le_refl _) (no _ (by omega)) (no _ (by omega))⟩
theorem XB.smo (X : XB W w A F ms h S fr) {T : List Nat} (hs : Same T w.heap.size w w') (hT : ∀ k, k ∈ T → W.heap.size ≤ k) : Same [] W.heap.size W w' :=
  X.sm.trans (hs.mono X.sm.size (fun k g hl => by have := hT k g; omega))
/-- Nothing of the machine's own is touched. -/
theorem XB.mv (X : XB W w A F ms h S fr) {T : List Nat} (hs : Same T w.heap.size w w') (hT : ∀ k, k ∈ T → A.n6 ≤ k ∧ k ∉ F) : XB W w' A F ms h S fr := by
  obtain ⟨⟨a1, a2, a3, a4, a5, a6⟩, ⟨b1, b2⟩, ⟨d1, d2, d3, d4⟩, ⟨p1, p2, q1, q2⟩, ⟨h1, h2⟩, ⟨k1, k2, x1, x2, ne⟩, lt, z0⟩ := X.zone
  have no : ∀ k, k < A.n6 → k ∉ T := fun k hk g => by have := hT k g; omega
  have sz := hs.size
  obtain ⟨f1, f2, f3⟩ := X.front hs (fun k g => by have := hT k g; omega)
  have cx : ∀ j, w'.cell? ⟨A.xb, j, none⟩ = w.cell? ⟨A.xb, j, none⟩ := fun j => hs.cell (p := ⟨A.xb, j, none⟩) (by show A.xb < _; omega) (no A.xb x2)
  have ck : ∀ j, w'.cell? ⟨A.kb, j, none⟩ = w.cell? ⟨A.kb, j, none⟩ := fun j => hs.cell (p := ⟨A.kb, j, none⟩) (by show A.kb < _; omega) (no A.kb k2)
  exact ⟨X.z, X.zf, X.z0, by omega, X.smo hs (fun k g => by have := hT k g; omega), by rw [cx]; exact X.c0, by rw [cx]; exact X.c1, by rw [cx]; exact X.c2, by rw [cx]; exact X.c3, by rw [cx]; exact X.c4, by rw [cx]; exact X.c9,
    fun j hj => by rw [cx]; exact X.fr j hj, fun j => by rw [hs.frozen (p := ⟨A.xb, j, none⟩) (by show A.xb < _; omega) (no A.xb x2)]; exact X.xf j, f1, f2, f3,
    X.mt.same hs (by omega) (by omega) (no _ (by omega)) (no _ (by omega)), X.wf, X.ho.same hs (no _ (by omega)) (fun d hd g => (hT d g).2 hd), fun j hj => by rw [ck]; exact X.st j hj, fun j => by rw [hs.frozen (p := ⟨A.kb, j, none⟩) (by show A.kb < _; omega) (no A.kb k2)]; exact X.sf j⟩
theorem XB.keep (X : XB W w A F ms h S fr) (hs : Same [] w.heap.size w w') : XB W w' A F ms h S fr := X.mv hs (by simp)
theorem XB.drew (X : XB W w A F ms h S fr) : XB W w.drew A F ms h S fr := X.keep (Same.refl _ _ _).drew
/-- The host was at work. -/
theorem XB.host (X : XB W w A F ms h S fr) {F' : List Nat} {h' : HS} {T : List Nat} (hs : Same T w.heap.size w w') (hT : ∀ k, k ∈ T → k = A.hb ∨ k ∈ F) (ho : HoAt w' A.hb F' h') (hF : ∀ d, d ∈ F' → d ∈ F ∨ w.heap.size ≤ d) : XB W w' A F' ms h' S fr := by
  obtain ⟨⟨a1, a2, a3, a4, a5, a6⟩, ⟨b1, b2⟩, ⟨d1, d2, d3, d4⟩, ⟨p1, p2, q1, q2⟩, ⟨h1, h2⟩, ⟨k1, k2, x1, x2, ne⟩, lt, z0⟩ := X.zone
  have hz : ∀ k, k ∈ T → (A.n4 ≤ k ∧ k < A.n5) ∨ A.n6 ≤ k := fun k g => by
    rcases hT k g with e | e
    · left; omega
    · exact X.zf k e
  have no : ∀ k, k < A.n6 → (k < A.n4 ∨ A.n5 ≤ k) → k ∉ T := fun k hk hk2 g => by have := hz k g; omega
  have sz := hs.size
  obtain ⟨f1, f2, f3⟩ := X.front hs (fun k g => by have := hz k g; omega)
  have cx : ∀ j, w'.cell? ⟨A.xb, j, none⟩ = w.cell? ⟨A.xb, j, none⟩ := fun j => hs.cell (p := ⟨A.xb, j, none⟩) (by show A.xb < _; omega) (no A.xb x2 (by omega))
  have ck : ∀ j, w'.cell? ⟨A.kb, j, none⟩ = w.cell? ⟨A.kb, j, none⟩ := fun j => hs.cell (p := ⟨A.kb, j, none⟩) (by show A.kb < _; omega) (no A.kb k2 (by omega))
  exact ⟨X.z, fun d hd => by
      rcases hF d hd with g | g
      · exact X.zf d g
      · right; omega, X.z0, by omega, X.smo hs (fun k g => by have := hz k g; omega), by rw [cx]; exact X.c0, by rw [cx]; exact X.c1, by rw [cx]; exact X.c2, by rw [cx]; exact X.c3, by rw [cx]; exact X.c4, by rw [cx]; exact X.c9,
    fun j hj => by rw [cx]; exact X.fr j hj, fun j => by rw [hs.frozen (p := ⟨A.xb, j, none⟩) (by show A.xb < _; omega) (no A.xb x2 (by omega))]; exact X.xf j, f1, f2, f3,
    X.mt.same hs (by omega) (by omega) (no _ (by omega) (by omega)) (no _ (by omega) (by omega)), X.wf, ho, fun j hj => by rw [ck]; exact X.st j hj, fun j => by rw [hs.frozen (p := ⟨A.kb, j, none⟩) (by show A.kb < _; omega) (no A.kb k2 (by omega))]; exact X.sf j⟩
/-- The store was at work. -/
theorem XB.store (X : XB W w A F ms h S fr) {ms' : M.MS} {T : List Nat} (hs : Same T w.heap.size w w') (hT : ∀ k, k ∈ T → k = A.p ∨ k = A.q) (hm : M.MSAt w' A.p A.q ms') (hw : ms'.Wf) : XB W w' A F ms' h S fr := by
  obtain ⟨⟨a1, a2, a3, a4, a5, a6⟩, ⟨b1, b2⟩, ⟨d1, d2, d3, d4⟩, ⟨p1, p2, q1, q2⟩, ⟨h1, h2⟩, ⟨k1, k2, x1, x2, ne⟩, lt, z0⟩ := X.zone
  have hz : ∀ k, k ∈ T → A.n3 ≤ k ∧ k < A.n4 := fun k g => by have := hT k g; omega
  have no : ∀ k, (k < A.n3 ∨ A.n4 ≤ k) → k ∉ T := fun k hk2 g => by have := hz k g; omega
  have sz := hs.size
  obtain ⟨f1, f2, f3⟩ := X.front hs (fun k g => by have := hz k g; omega)
  have cx : ∀ j, w'.cell? ⟨A.xb, j, none⟩ = w.cell? ⟨A.xb, j, none⟩ := fun j => hs.cell (p := ⟨A.xb, j, none⟩) (by show A.xb < _; omega) (no A.xb (by omega))
  have ck : ∀ j, w'.cell? ⟨A.kb, j, none⟩ = w.cell? ⟨A.kb, j, none⟩ := fun j => hs.cell (p := ⟨A.kb, j, none⟩) (by show A.kb < _; omega) (no A.kb (by omega))
  exact ⟨X.z, X.zf, X.z0, by omega, X.smo hs (fun k g => by have := hz k g; omega), by rw [cx]; exact X.c0, by rw [cx]; exact X.c1, by rw [cx]; exact X.c2, by rw [cx]; exact X.c3, by rw [cx]; exact X.c4, by rw [cx]; exact X.c9,
    fun j hj => by rw [cx]; exact X.fr j hj, fun j => by rw [hs.frozen (p := ⟨A.xb, j, none⟩) (by show A.xb < _; omega) (no A.xb (by omega))]; exact X.xf j, f1, f2, f3,
    hm, hw, X.ho.same hs (no _ (by omega)) (fun d hd => no d (by have := X.zf d hd; omega)), fun j hj => by rw [ck]; exact X.st j hj, fun j => by rw [hs.frozen (p := ⟨A.kb, j, none⟩) (by show A.kb < _; omega) (no A.kb (by omega))]; exact X.sf j⟩
/-- Cells of the machine's own block or of its stack were turned. -/
theorem XB.own (X : XB W w A F ms h S fr) {T : List Nat} (hs : Same T w.heap.size w w') (hT : ∀ k, k ∈ T → k = A.xb ∨ k = A.kb ∨ (A.n6 ≤ k ∧ k ∉ F)) {S' fr' : Nat → Int}
    (cx : ∀ j, j < 5 ∨ j = 9 → w'.cell? ⟨A.xb, j, none⟩ = w.cell? ⟨A.xb, j, none⟩) (cf : ∀ j, j < 18 → w'.cell? ⟨A.xb, 10 + j, none⟩ = some (.int .i64 (fr' j))) (xf : ∀ j, w'.frozen? ⟨A.xb, j, none⟩ = false)
    (st : ∀ j, j < 120 → w'.cell? ⟨A.kb, j, none⟩ = some (.int .u64 (S' j))) (sf : ∀ j, w'.frozen? ⟨A.kb, j, none⟩ = false) : XB W w' A F ms h S' fr' := by
  obtain ⟨⟨a1, a2, a3, a4, a5, a6⟩, ⟨b1, b2⟩, ⟨d1, d2, d3, d4⟩, ⟨p1, p2, q1, q2⟩, ⟨h1, h2⟩, ⟨k1, k2, x1, x2, ne⟩, lt, z0⟩ := X.zone
  have hz : ∀ k, k ∈ T → A.n5 ≤ k := fun k g => by have := hT k g; omega
  have no : ∀ k, k < A.n5 → k ∉ T := fun k hk2 g => by have := hz k g; omega
  have sz := hs.size
  obtain ⟨f1, f2, f3⟩ := X.front hs (fun k g => by have := hz k g; omega)
  exact ⟨X.z, X.zf, X.z0, by omega, X.smo hs (fun k g => by have := hz k g; omega), by rw [cx _ (by omega)]; exact X.c0, by rw [cx _ (by omega)]; exact X.c1, by rw [cx _ (by omega)]; exact X.c2, by rw [cx _ (by omega)]; exact X.c3, by rw [cx _ (by omega)]; exact X.c4, by rw [cx _ (by omega)]; exact X.c9,
    cf, xf, f1, f2, f3, X.mt.same hs (by omega) (by omega) (no _ (by omega)) (no _ (by omega)), X.wf, X.ho.same hs (no _ (by omega)) (fun d hd g => by
      have q1 := hT d g
      have q2 := X.zf d hd
      rcases q1 with e | e | e
      · omega
      · omega
      · exact e.2 hd), st, sf⟩
theorem XB.setSt (X : XB W w A F ms h S fr) {i : Nat} (hi : i < 120) (v : Int) : XB W (w.setCell ⟨A.kb, i, none⟩ (.int .u64 v)) A F ms h (upd S i v) fr := by
  obtain ⟨_, _, _, _, _, ⟨k1, k2, x1, x2, ne⟩, lt, z0⟩ := X.zone
  have hs : Same [A.kb] w.heap.size w (w.setCell ⟨A.kb, i, none⟩ (.int .u64 v)) := (Same.refl _ _ _).setCell (.inr (by simp)) _
  have cx : ∀ j, (w.setCell ⟨A.kb, i, none⟩ (.int .u64 v)).cell? ⟨A.xb, j, none⟩ = w.cell? ⟨A.xb, j, none⟩ := fun j => by rw [cell_setCell, if_neg (by omega)]
  refine X.own hs (by simp) (fun j _ => cx j) (fun j hj => by rw [cx]; exact X.fr j hj) (fun j => by rw [World.frozen?_setCell]; exact X.xf j) (fun j hj => ?_) (fun j => by rw [World.frozen?_setCell]; exact X.sf j)
  rw [cell_setCell]
  by_cases e : j = i
  · subst e
    rw [if_pos ⟨rfl, rfl⟩, X.st j hj, upd_same]; rfl
  · rw [if_neg (by omega), X.st j hj, upd_ne _ _ e]
theorem XB.setFr (X : XB W w A F ms h S fr) {i : Nat} (hi : i < 18) (v : Int) : XB W (w.setCell ⟨A.xb, 10 + i, none⟩ (.int .i64 v)) A F ms h S (upd fr i v) := by
  obtain ⟨_, _, _, _, _, ⟨k1, k2, x1, x2, ne⟩, lt, z0⟩ := X.zone
  have hs : Same [A.xb] w.heap.size w (w.setCell ⟨A.xb, 10 + i, none⟩ (.int .i64 v)) := (Same.refl _ _ _).setCell (.inr (by simp)) _
  refine X.own hs (by simp) (fun j hj => by rw [cell_setCell, if_neg (by omega)]) (fun j hj => ?_) (fun j => by rw [World.frozen?_setCell]; exact X.xf j) (fun j hj => by rw [cell_setCell, if_neg (by omega)]; exact X.st j hj) (fun j => by rw [World.frozen?_setCell]; exact X.sf j)
  rw [cell_setCell]
  by_cases e : j = i
  · subst e
    rw [if_pos ⟨rfl, rfl⟩, X.fr j hj, upd_same]; rfl
  · rw [if_neg (by omega), X.fr j hj, upd_ne _ _ e]
theorem XB.setV (X : XB W w A F ms h S fr) {i : Nat} (hi : 5 ≤ i ∧ i < 9) (v : Value) : XB W (w.setCell ⟨A.xb, i, none⟩ v) A F ms h S fr := by
  obtain ⟨_, _, _, _, _, ⟨k1, k2, x1, x2, ne⟩, lt, z0⟩ := X.zone
  have hs : Same [A.xb] w.heap.size w (w.setCell ⟨A.xb, i, none⟩ v) := (Same.refl _ _ _).setCell (.inr (by simp)) _
  exact X.own hs (by simp) (fun j hj => by rw [cell_setCell, if_neg (by omega)]) (fun j hj => by rw [cell_setCell, if_neg (by omega)]; exact X.fr j hj) (fun j => by rw [World.frozen?_setCell]; exact X.xf j) (fun j hj => by rw [cell_setCell, if_neg (by omega)]; exact X.st j hj) (fun j => by rw [World.frozen?_setCell]; exact X.sf j)
theorem XB.canK (X : XB W w A F ms h S fr) {i : Nat} (hi : i < 120) : can w ⟨A.kb, i, none⟩ := ⟨⟨_, X.st i hi⟩, X.sf i⟩
theorem XB.canF (X : XB W w A F ms h S fr) {i : Nat} (hi : i < 18) : can w ⟨A.xb, 10 + i, none⟩ := ⟨⟨_, X.fr i hi⟩, X.xf _⟩
theorem X58.set5 {xb : Nat} (H : X58 w xb v5 v6 v7 v8) (v : Value) : X58 (w.setCell ⟨xb, 5, none⟩ v) xb v v6 v7 v8 :=
  ⟨by rw [cell_setCell, if_pos ⟨rfl, rfl⟩, H.c5]; rfl, by rw [cell_setCell, if_neg (by omega)]; exact H.c6, by rw [cell_setCell, if_neg (by omega)]; exact H.c7, by rw [cell_setCell, if_neg (by omega)]; exact H.c8⟩
theorem X58.set6 {xb : Nat} (H : X58 w xb v5 v6 v7 v8) (v : Value) : X58 (w.setCell ⟨xb, 6, none⟩ v) xb v5 v v7 v8 :=
  ⟨by rw [cell_setCell, if_neg (by omega)]; exact H.c5, by rw [cell_setCell, if_pos ⟨rfl, rfl⟩, H.c6]; rfl, by rw [cell_setCell, if_neg (by omega)]; exact H.c7, by rw [cell_setCell, if_neg (by omega)]; exact H.c8⟩
theorem X58.set7 {xb : Nat} (H : X58 w xb v5 v6 v7 v8) (v : Value) : X58 (w.setCell ⟨xb, 7, none⟩ v) xb v5 v6 v v8 :=
  ⟨by rw [cell_setCell, if_neg (by omega)]; exact H.c5, by rw [cell_setCell, if_neg (by omega)]; exact H.c6, by rw [cell_setCell, if_pos ⟨rfl, rfl⟩, H.c7]; rfl, by rw [cell_setCell, if_neg (by omega)]; exact H.c8⟩
theorem X58.set8 {xb : Nat} (H : X58 w xb v5 v6 v7 v8) (v : Value) : X58 (w.setCell ⟨xb, 8, none⟩ v) xb v5 v6 v7 v :=
  ⟨by rw [cell_setCell, if_neg (by omega)]; exact H.c5, by rw [cell_setCell, if_neg (by omega)]; exact H.c6, by rw [cell_setCell, if_neg (by omega)]; exact H.c7, by rw [cell_setCell, if_pos ⟨rfl, rfl⟩, H.c8]; rfl⟩
theorem X58.other {xb : Nat} (H : X58 w xb v5 v6 v7 v8) {b i : Nat} (hn : b ≠ xb ∨ 9 ≤ i) (v : Value) : X58 (w.setCell ⟨b, i, none⟩ v) xb v5 v6 v7 v8 :=
  ⟨by rw [cell_setCell, if_neg (by omega)]; exact H.c5, by rw [cell_setCell, if_neg (by omega)]; exact H.c6, by rw [cell_setCell, if_neg (by omega)]; exact H.c7, by rw [cell_setCell, if_neg (by omega)]; exact H.c8⟩

/-! ### Tape, Show, empty -/
theorem xTape_spec (X : XB W w A F ms h S fr) (H : X58 w A.xb v5 v6 v7 v8) (s : ByteArray) (hs : s.size ≤ 9223372036854775807) : Runs Tryz.prog exec_Exec_Tape.id #[rp A.xb, .string s] w fun v w' =>
    if 48 < s.size then v = .int .i64 1 ∧ w' = w else if s.size % 8 ≠ 0 then v = .int .i64 34 ∧ w' = w else v = .int .i64 0 ∧ XB W w' A F ms (h.taped s (s.size / 8)) S fr ∧ X58 w' A.xb v5 v6 v7 v8 ∧ Same [A.hb] w.heap.size w w' := by
  obtain ⟨_, _, _, _, ⟨h1, h2⟩, ⟨k1, k2, x1, x2, ne⟩, lt, z0⟩ := X.zone
  refine exec_Exec_Tape.enter _ _ _ _ _ ?_
  unfold exec_Exec_Tape.V
  refine ⟨_, X.c4, RunsQ.post (hTape_spec X.ho s hs) ?_⟩
  rintro v w6 q
  by_cases e1 : 48 < s.size
  · simp only [if_pos e1] at q ⊢
    obtain ⟨rfl, rfl⟩ := q
    exact ⟨_, rfl, rfl, rfl⟩
  · simp only [if_neg e1] at q ⊢
    by_cases e2 : s.size % 8 ≠ 0
    · simp only [if_pos e2] at q ⊢
      obtain ⟨rfl, rfl⟩ := q
      exact ⟨_, rfl, rfl, rfl⟩
    · simp only [if_neg e2] at q ⊢
      obtain ⟨rfl, q1, q2⟩ := q
      exact ⟨_, rfl, rfl, X.host q2 (by simp) q1 (fun d hd => .inl hd), H.same q2 (by omega) (by simp; omega), q2⟩
theorem XB.nofz (X : XB W w A F ms h S fr) (H : X58 w A.xb v5 v6 v7 v8) : can w ⟨A.xb, 5, none⟩ ∧ can w ⟨A.xb, 6, none⟩ ∧ can w ⟨A.xb, 7, none⟩ ∧ can w ⟨A.xb, 8, none⟩ :=
  ⟨⟨⟨_, H.c5⟩, X.xf 5⟩, ⟨⟨_, H.c6⟩, X.xf 6⟩, ⟨⟨_, H.c7⟩, X.xf 7⟩, ⟨⟨_, H.c8⟩, X.xf 8⟩⟩
/-- An empty machine. -/
def XE (w : World) (xb : Nat) : Prop := X58 w xb (.pointer none) (.pointer none) (.slice none 0 0) (.slice none 0 0)
theorem empty_spec (X : XB W w A F ms h S fr) (H : X58 w A.xb v5 v6 v7 v8) : Runs Tryz.prog exec_Exec_empty.id #[rp A.xb] w fun v w' => v = .tuple #[] ∧ XB W w' A F ms h.cleared S fr ∧ XE w' A.xb ∧ Same (A.xb :: A.hb :: F) w.heap.size w w' := by
  obtain ⟨_, _, _, _, ⟨h1, h2⟩, ⟨k1, k2, x1, x2, ne⟩, lt, z0⟩ := X.zone
  refine exec_Exec_empty.enter _ _ _ _ ?_
  unfold exec_Exec_empty.V
  refine ⟨(X.nofz H).1, letW_intro fun w3 hw3 => ?_⟩
  have X3 : XB W w3 A F ms h S fr := by rw [hw3]; exact X.setV (i := 5) (by omega) _
  have H3 := H.set5 (.pointer none)
  rw [← hw3] at H3
  refine ⟨(X3.nofz H3).2.1, letW_intro fun w5 hw5 => ?_⟩
  have X5 : XB W w5 A F ms h S fr := by rw [hw5]; exact X3.setV (i := 6) (by omega) _
  have H5 := H3.set6 (.pointer none)
  rw [← hw5] at H5
  refine ⟨(X5.nofz H5).2.2.1, letW_intro fun w7 hw7 => ?_⟩
  have X7 : XB W w7 A F ms h S fr := by rw [hw7]; exact X5.setV (i := 7) (by omega) _
  have H7 := H5.set7 (.slice none 0 0)
  rw [← hw7] at H7
  refine ⟨(X7.nofz H7).2.2.2, letW_intro fun w9 hw9 => ?_⟩
  have X9 : XB W w9 A F ms h S fr := by rw [hw9]; exact X7.setV (i := 8) (by omega) _
  have H9 := H7.set8 (.slice none 0 0)
  rw [← hw9] at H9
  refine ⟨_, X9.c4, RunsQ.post (Clear_spec X9.ho) ?_⟩
  rintro v w13 ⟨rfl, ho, hS⟩
  have lt9 := X9.lt
  have Q9 : Same (A.xb :: A.hb :: F) w.heap.size w w9 := by
    rw [hw9, hw7, hw5, hw3]
    exact ((((Same.refl _ _ _).setCell (.inr (by simp)) _).setCell (.inr (by simp)) _).setCell (.inr (by simp)) _).setCell (.inr (by simp)) _
  exact ⟨rfl, rfl, X9.host hS (fun k hk => by simpa using hk) ho (fun d hd => .inl hd), H9.same hS (by omega) (fun g => by
    rcases List.mem_cons.1 g with e | e
    · omega
    · have := X9.zf _ e; omega), Q9.trans (hS.mono Q9.size (fun k hk _ => by simp at hk ⊢; rcases hk with e | e <;> simp [e]))⟩
theorem xShow_no (X : XB W w A F ms h S fr) (H : XE w A.xb) : Runs Tryz.prog exec_Exec_Show.id #[rp A.xb] w fun v w' => v = .string ((⟨#[45]⟩ : ByteArray) ++ (⟨#[32]⟩ : ByteArray) ++ strOfNums h.show) ∧ Same [] w.heap.size w w' := by
  refine exec_Exec_Show.enter _ _ _ _ ?_
  unfold exec_Exec_Show.V
  refine ⟨_, H.c5, cond_false' rfl (exec_Exec_Show.step1 _ _ _ _ _ ?_)⟩
  unfold exec_Exec_Show.V1
  refine ⟨_, X.c4, RunsQ.post (hShow_spec X.ho) ?_⟩
  rintro v w4 ⟨rfl, S4⟩
  have l := show_len X.ho
  refine ⟨_, rfl, by decide, ?_, rfl, S4⟩
  rw [strOfNums_size]
  have : ((⟨#[45]⟩ : ByteArray) ++ (⟨#[32]⟩ : ByteArray)).size = 2 := by decide
  omega
theorem xShow_yes (X : XB W w A F ms h S fr) {mb : Nat} (H : X58 w A.xb (rp mb) v6 v7 v8) : Runs Tryz.prog exec_Exec_Show.id #[rp A.xb] w fun v w' => v = .string (ms.show ++ (⟨#[32]⟩ : ByteArray) ++ strOfNums h.show) ∧ Same [] w.heap.size w w' := by
  refine exec_Exec_Show.enter _ _ _ _ ?_
  unfold exec_Exec_Show.V
  refine ⟨_, H.c5, cond_true' rfl ⟨_, X.c3, RunsQ.post (M.Show_spec _ _ _ _ X.mt X.wf) ?_⟩⟩
  rintro v w7 ⟨rfl, S7⟩
  refine ⟨_, rfl, exec_Exec_Show.step1 _ _ _ _ _ ?_⟩
  unfold exec_Exec_Show.V1
  have X7 := X.keep S7
  refine ⟨_, X7.c4, RunsQ.post (hShow_spec X7.ho) ?_⟩
  rintro v w4 ⟨rfl, S4⟩
  have l := show_len X.ho
  have hz := mshow_len X.wf
  have e1 : (⟨#[32]⟩ : ByteArray).size = 1 := rfl
  refine ⟨_, rfl, by omega, ?_, rfl, Same.more (B := 0) S7 S4⟩
  rw [strOfNums_size, ByteArray.size_append]
  omega
end
end Go.Proofs.Qxb6500317aGreat
