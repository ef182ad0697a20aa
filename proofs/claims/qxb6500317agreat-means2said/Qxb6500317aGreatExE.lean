/-
  The machine that holds a module; the loop's state.
-/
import Derived.Test.Qxb6500317aGreatExD
set_option linter.unusedSimpArgs false
set_option linter.unusedVariables false
set_option maxRecDepth 100000
set_option linter.unusedSectionVars false
set_option maxHeartbeats 1000000
namespace Go.Proofs.Qxb6500317aGreat
open Go Go.Vc

/-- What stays while a module is held. -/
structure RE where
  W : World
  w0 : World
  A : XA
  I : Nat → Prop
  mb : Nat
  cdb : Nat
  fb : Nat
  nbs : Nat → Nat
  P : PM
  fs : List FF
  v7 : Value
  ga : Option Addr
  gc : Nat
/-- The module and its code, in blocks of I. -/
structure Lm (E : RE) (w : World) : Prop where
  im : ∃ a, w.cell? ⟨E.mb, 1, none⟩ = some (.slice a E.P.nIm E.P.nIm)
  ex : ∃ a, w.cell? ⟨E.mb, 8, none⟩ = some (.slice a E.P.nEx E.P.nEx) ∧ (E.P.nEx ≠ 0 → ∃ b, a = some ⟨b, 0, none⟩ ∧ E.I b ∧ ∀ i, i < E.P.nEx → ∀ k u, (expE (E.P.ex i))[k]? = some u → w.cell? ⟨b, i * 3 + k, none⟩ = some u)
  cd : E.fs ≠ [] → w.cell? ⟨E.cdb, 0, none⟩ = some (.slice (some ⟨E.fb, 0, none⟩) E.fs.length E.fs.length) ∧ E.I E.fb ∧ ∀ (j : Nat) (f : FF), E.fs[j]? = some f → w.cell? ⟨E.fb, j * 4, none⟩ = some (.int .i64 (f.pa : Int)) ∧ w.cell? ⟨E.fb, j * 4 + 1, none⟩ = some (.int .i64 (f.lo : Int)) ∧ w.cell? ⟨E.fb, j * 4 + 2, none⟩ = some (.int .i64 (f.re : Int)) ∧
    w.cell? ⟨E.fb, j * 4 + 3, none⟩ = some (.slice (some ⟨E.nbs j, 0, none⟩) f.cells.length f.cells.length) ∧ InsRow w (E.nbs j) f.cells.length (fun q => f.cells.getD q z0) ∧ E.I (E.nbs j)
  mI : E.I E.mb
  cI : E.I E.cdb
/-- The functions' sigs. -/
def Fg (E : RE) (w : World) : Prop := E.P.nIm + E.P.nf ≠ 0 → ∃ b, E.ga = some ⟨b, 0, none⟩ ∧ E.I b ∧ ∀ i, i < E.P.nIm + E.P.nf → ∀ k, k < 6 → w.cell? ⟨b, i * 6 + k, none⟩ = some (.int .u8 (fsG E.P i k))
theorem Lm.mv {E : RE} {w w' : World} (M : Lm E w) (hI : ∀ k, E.I k → w'.heap[k]? = w.heap[k]?) : Lm E w' := by
  have c : ∀ b j, E.I b → w'.cell? ⟨b, j, none⟩ = w.cell? ⟨b, j, none⟩ := fun b j hb => World.cell?_of_block (w := w) (hI b hb)
  have f : ∀ b j, E.I b → w'.frozen? ⟨b, j, none⟩ = w.frozen? ⟨b, j, none⟩ := fun b j hb => World.frozen?_of_block (w := w) (hI b hb)
  refine ⟨?_, ?_, fun h0 => ?_, M.mI, M.cI⟩
  · obtain ⟨a, e⟩ := M.im
    exact ⟨a, by rw [c _ _ M.mI]; exact e⟩
  · obtain ⟨a, e, h⟩ := M.ex
    refine ⟨a, by rw [c _ _ M.mI]; exact e, fun h0 => ?_⟩
    obtain ⟨b, e1, e2, e3⟩ := h h0
    exact ⟨b, e1, e2, fun i hi k u hu => by rw [c _ _ e2]; exact e3 i hi k u hu⟩
  · obtain ⟨e1, e2, e3⟩ := M.cd h0
    refine ⟨by rw [c _ _ M.cI]; exact e1, e2, fun j g hg => ?_⟩
    obtain ⟨a1, a2, a3, a4, a5, a6⟩ := e3 j g hg
    exact ⟨by rw [c _ _ e2]; exact a1, by rw [c _ _ e2]; exact a2, by rw [c _ _ e2]; exact a3, by rw [c _ _ e2]; exact a4, ⟨fun q hq => by rw [c _ _ a6]; exact a5.i0 q hq, fun q hq => by rw [c _ _ a6]; exact a5.i1 q hq, fun q hq => by rw [c _ _ a6]; exact a5.i2 q hq, fun q => by rw [f _ _ a6]; exact a5.fz q⟩, a6⟩
theorem Fg.mv {E : RE} {w w' : World} (G : Fg E w) (hI : ∀ k, E.I k → w'.heap[k]? = w.heap[k]?) : Fg E w' := fun h0 => by
  obtain ⟨b, e1, e2, e3⟩ := G h0
  exact ⟨b, e1, e2, fun i hi k hk => by
    have : w'.cell? ⟨b, i * 6 + k, none⟩ = w.cell? ⟨b, i * 6 + k, none⟩ := World.cell?_of_block (w := w) (hI b e2)
    rw [this]; exact e3 i hi k hk⟩
/-- The machine holds the module. -/
structure XL (E : RE) (w : World) (F : List Nat) (ms : M.MS) (h : HS) (S fr : Nat → Int) : Prop where
  X : XB E.W w E.A F ms h S fr
  H : X58 w E.A.xb (rp E.mb) (rp E.cdb) E.v7 (.slice E.ga (E.P.nIm + E.P.nf) E.gc)
  M : Lm E w
  G : Fg E w
  iI : ∀ k, E.I k → E.A.n6 ≤ k ∧ k ∉ F ∧ k < w.heap.size
  zx : ∀ k, E.I k → w.heap[k]? = E.w0.heap[k]?
section
variable {E : RE} {w w' : World} {F : List Nat} {ms : M.MS} {h : HS} {S fr : Nat → Int}
theorem XL.mv (x : XL E w F ms h S fr) {T : List Nat} (hs : Same T w.heap.size w w') (hT : ∀ k, k ∈ T → E.A.n6 ≤ k ∧ k ∉ F ∧ ¬ E.I k) : XL E w' F ms h S fr := by
  obtain ⟨_, _, _, _, _, ⟨k1, k2, x1, x2, ne⟩, lt, z0⟩ := x.X.zone
  have hI : ∀ k, E.I k → w'.heap[k]? = w.heap[k]? := fun k hk => hs.block k (x.iI k hk).2.2 (fun g => (hT k g).2.2 hk)
  have sz := hs.size
  exact ⟨x.X.mv hs (fun k g => ⟨(hT k g).1, (hT k g).2.1⟩), x.H.same hs (by omega) (fun g => by have := (hT _ g).1; omega), x.M.mv hI, x.G.mv hI, fun k hk => ⟨(x.iI k hk).1, (x.iI k hk).2.1, by have := (x.iI k hk).2.2; omega⟩, fun k hk => (hI k hk).trans (x.zx k hk)⟩
theorem XL.keep (x : XL E w F ms h S fr) (hs : Same [] w.heap.size w w') : XL E w' F ms h S fr := x.mv hs (by simp)
theorem XL.host (x : XL E w F ms h S fr) {F' : List Nat} {h' : HS} {T : List Nat} (hs : Same T w.heap.size w w') (hT : ∀ k, k ∈ T → k = E.A.hb ∨ k ∈ F) (ho : HoAt w' E.A.hb F' h') (hF : ∀ d, d ∈ F' → d ∈ F ∨ w.heap.size ≤ d) : XL E w' F' ms h' S fr := by
  obtain ⟨_, _, _, _, ⟨h1, h2⟩, ⟨k1, k2, x1, x2, ne⟩, lt, z0⟩ := x.X.zone
  have hI : ∀ k, E.I k → w'.heap[k]? = w.heap[k]? := fun k hk => hs.block k (x.iI k hk).2.2 (fun g => by
    have q := x.iI k hk
    rcases hT k g with e | e
    · omega
    · exact q.2.1 e)
  have sz := hs.size
  refine ⟨x.X.host hs hT ho hF, x.H.same hs (by omega) (fun g => ?_), x.M.mv hI, x.G.mv hI, fun k hk => ⟨(x.iI k hk).1, fun g => ?_, by have := (x.iI k hk).2.2; omega⟩, fun k hk => (hI k hk).trans (x.zx k hk)⟩
  · rcases hT _ g with e | e
    · omega
    · have := x.X.zf _ e; omega
  · rcases hF k g with e | e
    · exact (x.iI k hk).2.1 e
    · have := (x.iI k hk).2.2; omega
theorem XL.store (x : XL E w F ms h S fr) {ms' : M.MS} {T : List Nat} (hs : Same T w.heap.size w w') (hT : ∀ k, k ∈ T → k = E.A.p ∨ k = E.A.q) (hm : M.MSAt w' E.A.p E.A.q ms') (hw : ms'.Wf) : XL E w' F ms' h S fr := by
  obtain ⟨_, _, _, ⟨p1, p2, q1, q2⟩, ⟨h1, h2⟩, ⟨k1, k2, x1, x2, ne⟩, lt, z0⟩ := x.X.zone
  have hI : ∀ k, E.I k → w'.heap[k]? = w.heap[k]? := fun k hk => hs.block k (x.iI k hk).2.2 (fun g => by
    have q := x.iI k hk
    have := hT k g
    omega)
  have sz := hs.size
  exact ⟨x.X.store hs hT hm hw, x.H.same hs (by omega) (fun g => by have := hT _ g; omega), x.M.mv hI, x.G.mv hI, fun k hk => ⟨(x.iI k hk).1, (x.iI k hk).2.1, by have := (x.iI k hk).2.2; omega⟩, fun k hk => (hI k hk).trans (x.zx k hk)⟩
theorem XL.turn (x : XL E w F ms h S fr) {T : List Nat} {S' fr' : Nat → Int} (hs : Same T w.heap.size w w') (hT : ∀ k, k ∈ T → k = E.A.xb ∨ k = E.A.kb) (X' : XB E.W w' E.A F ms h S' fr') (H' : X58 w' E.A.xb (rp E.mb) (rp E.cdb) E.v7 (.slice E.ga (E.P.nIm + E.P.nf) E.gc)) : XL E w' F ms h S' fr' := by
  obtain ⟨_, _, _, _, _, ⟨k1, k2, x1, x2, ne⟩, lt, z0⟩ := x.X.zone
  have hI : ∀ k, E.I k → w'.heap[k]? = w.heap[k]? := fun k hk => hs.block k (x.iI k hk).2.2 (fun g => by
    have q := x.iI k hk
    have := hT k g
    omega)
  have sz := hs.size
  exact ⟨X', H', x.M.mv hI, x.G.mv hI, fun k hk => ⟨(x.iI k hk).1, (x.iI k hk).2.1, by have := (x.iI k hk).2.2; omega⟩, fun k hk => (hI k hk).trans (x.zx k hk)⟩
theorem XL.setSt (x : XL E w F ms h S fr) {i : Nat} (hi : i < 120) (v : Int) : XL E (w.setCell ⟨E.A.kb, i, none⟩ (.int .u64 v)) F ms h (upd S i v) fr := by
  obtain ⟨_, _, _, _, _, ⟨k1, k2, x1, x2, ne⟩, lt, z0⟩ := x.X.zone
  exact x.turn (T := [E.A.kb]) ((Same.refl _ _ _).setCell (.inr (by simp)) _) (by simp) (x.X.setSt hi v) (x.H.other (.inl ne) _)
theorem XL.setFr (x : XL E w F ms h S fr) {i : Nat} (hi : i < 18) (v : Int) : XL E (w.setCell ⟨E.A.xb, 10 + i, none⟩ (.int .i64 v)) F ms h S (upd fr i v) := by
  exact x.turn (T := [E.A.xb]) ((Same.refl _ _ _).setCell (.inr (by simp)) _) (by simp) (x.X.setFr hi v) (x.H.other (.inr (by omega)) _)

/-- All that is not the machine's own stays from here on. -/
def RE.at (E : RE) (w : World) (F : List Nat) : RE := { { E with w0 := w } with I := fun k => k < w.heap.size ∧ E.A.n6 ≤ k ∧ k ∉ F }
theorem XL.rebase (x : XL E w F ms h S fr) : XL (E.at w F) w F ms h S fr := by
  have up : ∀ k, E.I k → (E.at w F).I k := fun k hk => ⟨(x.iI k hk).2.2, (x.iI k hk).1, (x.iI k hk).2.1⟩
  refine ⟨x.X, x.H, ⟨x.M.im, ?_, fun h0 => ?_, up _ x.M.mI, up _ x.M.cI⟩, fun h0 => ?_, fun k hk => ⟨hk.2.1, hk.2.2, hk.1⟩, fun k hk => rfl⟩
  · obtain ⟨a, e, h⟩ := x.M.ex
    refine ⟨a, e, fun h0 => ?_⟩
    obtain ⟨b, e1, e2, e3⟩ := h h0
    exact ⟨b, e1, up b e2, e3⟩
  · obtain ⟨e1, e2, e3⟩ := x.M.cd h0
    refine ⟨e1, up _ e2, fun j g hg => ?_⟩
    obtain ⟨a1, a2, a3, a4, a5, a6⟩ := e3 j g hg
    exact ⟨a1, a2, a3, a4, a5, up _ a6⟩
  · obtain ⟨b, e1, e2, e3⟩ := x.G h0
    exact ⟨b, e1, up b e2, e3⟩
/-- The loop's own variables in blocks. -/
structure RV (E : RE) (w : World) (F : List Nat) (c g r : Nat) : Prop where
  lc : ∀ j, j < 3 → can w ⟨c, j, none⟩
  lg : ∀ j, j < 6 → can w ⟨g, j, none⟩
  lr : ∀ j, j < 3 → can w ⟨r, j, none⟩
  zc : E.A.n6 ≤ c ∧ c ∉ F ∧ ¬ E.I c
  zg : E.A.n6 ≤ g ∧ g ∉ F ∧ ¬ E.I g
  zr : E.A.n6 ≤ r ∧ r ∉ F ∧ ¬ E.I r
  ne : c ≠ g ∧ c ≠ r ∧ g ≠ r
theorem can_lt {w : World} {b j : Nat} (h : can w ⟨b, j, none⟩) : b < w.heap.size := by
  obtain ⟨⟨v, hv⟩, _⟩ := h
  exact cell_lt hv
theorem RV.lts {c g r : Nat} (v : RV E w F c g r) : c < w.heap.size ∧ g < w.heap.size ∧ r < w.heap.size := ⟨can_lt (v.lc 0 (by omega)), can_lt (v.lg 0 (by omega)), can_lt (v.lr 0 (by omega))⟩
theorem can_mv {b j : Nat} (h : can w ⟨b, j, none⟩) {T : List Nat} (hs : Same T w.heap.size w w') (hn : b ∉ T) : can w' ⟨b, j, none⟩ := by
  have lt := can_lt h
  obtain ⟨⟨v, hv⟩, hf⟩ := h
  exact ⟨⟨v, by rw [hs.cell (p := ⟨b, j, none⟩) lt hn]; exact hv⟩, by rw [hs.frozen (p := ⟨b, j, none⟩) lt hn]; exact hf⟩
theorem RV.same {c g r : Nat} (v : RV E w F c g r) {T F' : List Nat} (hs : Same T w.heap.size w w') (hT : ∀ k, k ∈ T → k < E.A.n6 ∨ k ∈ F) (hF : ∀ d, d ∈ F' → d ∈ F ∨ w.heap.size ≤ d) : RV E w' F' c g r := by
  have no : ∀ k, E.A.n6 ≤ k ∧ k ∉ F ∧ ¬ E.I k → k ∉ T := fun k hk g => by
    rcases hT k g with e | e
    · omega
    · exact hk.2.1 e
  have nf : ∀ k, k < w.heap.size → E.A.n6 ≤ k ∧ k ∉ F ∧ ¬ E.I k → E.A.n6 ≤ k ∧ k ∉ F' ∧ ¬ E.I k := fun k hl hk => ⟨hk.1, fun g => by
    rcases hF k g with e | e
    · exact hk.2.1 e
    · omega, hk.2.2⟩
  obtain ⟨l1, l2, l3⟩ := v.lts
  exact ⟨fun j hj => can_mv (v.lc j hj) hs (no _ v.zc), fun j hj => can_mv (v.lg j hj) hs (no _ v.zg), fun j hj => can_mv (v.lr j hj) hs (no _ v.zr), nf _ l1 v.zc, nf _ l2 v.zg, nf _ l3 v.zr, v.ne⟩
/-- A cell of the loop's own was written. -/
theorem RV.own {c g r : Nat} (v : RV E w F c g r) {T : List Nat} (hs : Same T w.heap.size w w') (hc : ∀ j, j < 3 → can w' ⟨c, j, none⟩) (hg : ∀ j, j < 6 → can w' ⟨g, j, none⟩) (hr : ∀ j, j < 3 → can w' ⟨r, j, none⟩) : RV E w' F c g r :=
  ⟨hc, hg, hr, v.zc, v.zg, v.zr, v.ne⟩
/-- The loop's state. -/
structure RS (E : RE) (c g r : Nat) (w : World) (F : List Nat) (ms : M.MS) (h : HS) (S fr : Nat → Int) : Prop where
  x : XL E w F ms h S fr
  v : RV E w F c g r
theorem RS.keep {c g r : Nat} (s : RS E c g r w F ms h S fr) (hs : Same [] w.heap.size w w') : RS E c g r w' F ms h S fr := ⟨s.x.keep hs, s.v.same hs (by simp) (fun d hd => .inl hd)⟩
theorem RS.drew {c g r : Nat} (s : RS E c g r w F ms h S fr) : RS E c g r w.drew F ms h S fr := s.keep (Same.refl _ _ _).drew
theorem RS.host {c g r : Nat} (s : RS E c g r w F ms h S fr) {F' : List Nat} {h' : HS} {T : List Nat} (hs : Same T w.heap.size w w') (hT : ∀ k, k ∈ T → k = E.A.hb ∨ k ∈ F) (ho : HoAt w' E.A.hb F' h') (hF : ∀ d, d ∈ F' → d ∈ F ∨ w.heap.size ≤ d) : RS E c g r w' F' ms h' S fr := by
  obtain ⟨_, _, _, _, ⟨h1, h2⟩, ⟨k1, k2, x1, x2, ne⟩, lt, z0⟩ := s.x.X.zone
  exact ⟨s.x.host hs hT ho hF, s.v.same hs (fun k g => by rcases hT k g with e | e
                                                          · left; omega
                                                          · exact .inr e) hF⟩
theorem RS.store {c g r : Nat} (s : RS E c g r w F ms h S fr) {ms' : M.MS} {T : List Nat} (hs : Same T w.heap.size w w') (hT : ∀ k, k ∈ T → k = E.A.p ∨ k = E.A.q) (hm : M.MSAt w' E.A.p E.A.q ms') (hw : ms'.Wf) : RS E c g r w' F ms' h S fr := by
  obtain ⟨_, _, _, ⟨p1, p2, q1, q2⟩, ⟨h1, h2⟩, ⟨k1, k2, x1, x2, ne⟩, lt, z0⟩ := s.x.X.zone
  exact ⟨s.x.store hs hT hm hw, s.v.same hs (fun k g => by have := hT k g; left; omega) (fun d hd => .inl hd)⟩
theorem RS.setSt {c g r : Nat} (s : RS E c g r w F ms h S fr) {i : Nat} (hi : i < 120) (v : Int) : RS E c g r (w.setCell ⟨E.A.kb, i, none⟩ (.int .u64 v)) F ms h (upd S i v) fr := by
  obtain ⟨_, _, _, _, _, ⟨k1, k2, x1, x2, ne⟩, lt, z0⟩ := s.x.X.zone
  exact ⟨s.x.setSt hi v, s.v.same (T := [E.A.kb]) ((Same.refl _ _ _).setCell (.inr (by simp)) _) (by simp; omega) (fun d hd => .inl hd)⟩
theorem RS.setFr {c g r : Nat} (s : RS E c g r w F ms h S fr) {i : Nat} (hi : i < 18) (v : Int) : RS E c g r (w.setCell ⟨E.A.xb, 10 + i, none⟩ (.int .i64 v)) F ms h S (upd fr i v) := by
  obtain ⟨_, _, _, _, _, ⟨k1, k2, x1, x2, ne⟩, lt, z0⟩ := s.x.X.zone
  exact ⟨s.x.setFr hi v, s.v.same (T := [E.A.xb]) ((Same.refl _ _ _).setCell (.inr (by simp)) _) (by simp; omega) (fun d hd => .inl hd)⟩
/-- The cell at work is i. -/
structure CI (w : World) (c : Nat) (i : Ins) : Prop where
  c0 : w.cell? ⟨c, 0, none⟩ = some (.int .u8 i.op)
  c1 : w.cell? ⟨c, 1, none⟩ = some (.int .u32 i.x)
  c2 : w.cell? ⟨c, 2, none⟩ = some (.int .u64 i.y)
theorem CI.keep {c : Nat} {i : Ins} (h : CI w c i) (hs : Same [] w.heap.size w w') : CI w' c i := by
  have lt : c < w.heap.size := cell_lt h.c0
  exact ⟨by rw [hs.cell (p := ⟨c, 0, none⟩) lt (by simp)]; exact h.c0, by rw [hs.cell (p := ⟨c, 1, none⟩) lt (by simp)]; exact h.c1, by rw [hs.cell (p := ⟨c, 2, none⟩) lt (by simp)]; exact h.c2⟩
theorem CI.setCell {c b j : Nat} {i : Ins} (h : CI w c i) (hb : c ≠ b) (v : Value) : CI (w.setCell ⟨b, j, none⟩ v) c i :=
  ⟨by rw [cell_setCell, if_neg (by omega)]; exact h.c0, by rw [cell_setCell, if_neg (by omega)]; exact h.c1, by rw [cell_setCell, if_neg (by omega)]; exact h.c2⟩
/-- A cell is read into the loop's own. -/
theorem RS.put {c g r : Nat} (s : RS E c g r w F ms h S fr) (i : Ins) (K : World → Prop) (hK : ∀ w', RS E c g r w' F ms h S fr → CI w' c i → K w') : putCells w ⟨c, 0, none⟩ [.int .u8 i.op, .int .u32 i.x, .int .u64 i.y] K := by
  refine putCells_intro c _ 0 w K (fun j hj => by rw [Nat.zero_add]; exact s.v.lc j (by simpa using hj)) (fun w' hF => ?_)
  have S1 : Same [c] w.heap.size w w' := hF.same _
  obtain ⟨l1, l2, l3⟩ := s.v.lts
  have cc : ∀ j, j < 3 → can w' ⟨c, j, none⟩ := fun j hj => by
    obtain ⟨⟨v, hv⟩, hf⟩ := s.v.lc j hj
    refine ⟨?_, by rw [hF.frozen]; exact hf⟩
    rw [hF.cell c j, if_pos ⟨rfl, by omega, by simp; omega⟩]
    exact ⟨_, List.getElem?_eq_getElem (by simp; omega)⟩
  refine hK w' ⟨s.x.mv S1 (by intro k hk; simp at hk; subst hk; exact s.v.zc), s.v.own S1 cc (fun j hj => can_mv (s.v.lg j hj) S1 (by simp; exact fun e => s.v.ne.1 e.symm)) (fun j hj => can_mv (s.v.lr j hj) S1 (by simp; exact fun e => s.v.ne.2.1 e.symm))⟩ ⟨?_, ?_, ?_⟩
  · rw [hF.cell c 0, if_pos ⟨rfl, by omega, by simp⟩]; rfl
  · rw [hF.cell c 1, if_pos ⟨rfl, by omega, by simp⟩]; rfl
  · rw [hF.cell c 2, if_pos ⟨rfl, by omega, by simp⟩]; rfl
end
end Go.Proofs.Qxb6500317aGreat
