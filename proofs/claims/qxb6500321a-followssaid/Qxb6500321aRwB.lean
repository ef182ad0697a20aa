/-
  The equality: one step on either side.
-/
import Derived.Test.Qxb6500321aRwA
set_option linter.unusedSimpArgs false
set_option linter.unusedVariables false
set_option maxRecDepth 100000
set_option linter.unusedSectionVars false
set_option maxHeartbeats 1000000
namespace Go.Proofs.Qxb6500321a
open Go Go.Vc

/-- What either compiler owes for the text s: E, N, M, the code. -/
def zOf (s : ByteArray) : Int × Int × Int × Option (List FF) := match decA s sc0 with
  | .ok x _ => (match comp x.2 with
    | .inl e => (29, (e.1 : Int), (e.2 : Int), none)
    | .inr fs => (0, (x.2.nf : Int), 0, some fs))
  | .err _ _ => (32, -1, 0, none)
/-- The two sides between steps. -/
structure ST (w : World) (ok : Nat → Prop) (bs b bi bt pb cb xr xm : Nat) (mp : Option Addr) (oR oM : Option (List FF)) : Prop where
  B : ∃ c, BN w b bi bt c
  Z : PZe w pb cb
  x0 : w.cell? ⟨xr, 0, none⟩ = some (rp pb)
  x1 : ∃ v, w.cell? ⟨xr, 1, none⟩ = some (.pointer v) ∧ RgA w ok v oR
  xf : ∀ j, w.frozen? ⟨xr, j, none⟩ = false
  y0 : w.cell? ⟨xm, 0, none⟩ = some (.pointer mp)
  y1 : ∃ v, w.cell? ⟨xm, 1, none⟩ = some (.pointer v) ∧ RgA w ok v oM
  yf : ∀ j, w.frozen? ⟨xm, j, none⟩ = false
  lt : b < bs ∧ bi < bs ∧ bt < bs ∧ pb < bs ∧ cb < bs ∧ xr < bs ∧ xm < bs
  le : bs ≤ w.heap.size
  hk : ∀ k, ok k → bs ≤ k
  ne : (b ≠ pb ∧ b ≠ cb ∧ b ≠ xr ∧ b ≠ xm) ∧ (bi ≠ pb ∧ bi ≠ cb ∧ bi ≠ xr ∧ bi ≠ xm) ∧ (bt ≠ pb ∧ bt ≠ cb ∧ bt ≠ xr ∧ bt ≠ xm) ∧ (pb ≠ xr ∧ pb ≠ xm) ∧ (cb ≠ xr ∧ cb ≠ xm) ∧ xr ≠ xm
section
variable {w w' : World} {ok : Nat → Prop} {bs b bi bt pb cb xr xm : Nat} {mp : Option Addr} {oR oM : Option (List FF)}
/-- The Bin and the compiler have moved. -/
theorem ST.move (h : ST w ok bs b bi bt pb cb xr xm mp oR oM) {S : List Nat} (hS : Same S w.heap.size w w') (hB : ∃ c, BN w' b bi bt c) (hZ : PZe w' pb cb) (hs : ∀ k, k ∈ S → k = b ∨ k = bi ∨ k = bt ∨ k = pb ∨ k = cb ∨ (bs ≤ k ∧ ¬ ok k)) : ST w' ok bs b bi bt pb cb xr xm mp oR oM := by
  have lt := h.lt; have ne := h.ne; have le := h.le
  have hs2 : ∀ k, k ∈ S → ¬ ok k := fun k hk q => by
    have := h.hk k q
    rcases hs k hk with g | g | g | g | g | g
    · omega
    · omega
    · omega
    · omega
    · omega
    · exact g.2 q
  have hs : ∀ k, k ∈ S → k = b ∨ k = bi ∨ k = bt ∨ k = pb ∨ k = cb ∨ bs ≤ k := fun k hk => by
    rcases hs k hk with g | g | g | g | g | g
    · exact .inl g
    · exact .inr (.inl g)
    · exact .inr (.inr (.inl g))
    · exact .inr (.inr (.inr (.inl g)))
    · exact .inr (.inr (.inr (.inr (.inl g))))
    · exact .inr (.inr (.inr (.inr (.inr g.1))))
  have n1 : xr ∉ S := fun q => by have := hs _ q; omega
  have n2 : xm ∉ S := fun q => by have := hs _ q; omega
  have e1 : ∀ j, w'.cell? ⟨xr, j, none⟩ = w.cell? ⟨xr, j, none⟩ := fun j => hS.cell (p := ⟨xr, j, none⟩) (by show xr < _; omega) n1
  have e2 : ∀ j, w'.cell? ⟨xm, j, none⟩ = w.cell? ⟨xm, j, none⟩ := fun j => hS.cell (p := ⟨xm, j, none⟩) (by show xm < _; omega) n2
  obtain ⟨v1, x1, r1⟩ := h.x1
  obtain ⟨v2, y1, r2⟩ := h.y1
  exact ⟨hB, hZ, by rw [e1]; exact h.x0, ⟨v1, by rw [e1]; exact x1, r1.same hS (Nat.le_refl _) hs2⟩, fun j => by rw [hS.frozen (p := ⟨xr, j, none⟩) (by show xr < _; omega) n1]; exact h.xf j, by rw [e2]; exact h.y0, ⟨v2, by rw [e2]; exact y1, r2.same hS (Nat.le_refl _) hs2⟩, fun j => by rw [hS.frozen (p := ⟨xm, j, none⟩) (by show xm < _; omega) n2]; exact h.yf j, lt, by have := hS.size; omega, h.hk, ne⟩
/-- A block made meanwhile has moved. -/
theorem ST.go (h : ST w ok bs b bi bt pb cb xr xm mp oR oM) {S : List Nat} (hS : Same S w.heap.size w w') (hs : ∀ k, k ∈ S → bs ≤ k ∧ w.heap.size ≤ k) : ST w' ok bs b bi bt pb cb xr xm mp oR oM := by
  have S0 : Same [] w.heap.size w w' := hS.mono (Nat.le_refl _) (fun k hk hl => by have := hs k hk; omega)
  have lt := h.lt; have le := h.le
  obtain ⟨c, hB⟩ := h.B
  exact h.move S0 ⟨c, hB.keep S0⟩ (h.Z.same S0 (Nat.le_refl _) (by simp) (by simp)) (by simp)
theorem ST.keep (h : ST w ok bs b bi bt pb cb xr xm mp oR oM) (hS : Same [] w.heap.size w w') : ST w' ok bs b bi bt pb cb xr xm mp oR oM := h.go hS (by simp)
theorem ST.setR (h : ST w ok bs b bi bt pb cb xr xm mp oR oM) {v : Option Addr} {o : Option (List FF)} (hr : RgA w ok v o) (hw : w' = w.setCell ⟨xr, 1, none⟩ (.pointer v)) : ST w' ok bs b bi bt pb cb xr xm mp o oM ∧ Same [xr] w.heap.size w w' := by
  have S : Same [xr] w.heap.size w w' := by rw [hw]; exact (Same.refl _ _ _).setCell (.inr (by simp)) _
  have lt := h.lt; have ne := h.ne; have le := h.le
  obtain ⟨c, hB⟩ := h.B
  obtain ⟨v1, x1, _⟩ := h.x1
  obtain ⟨v2, y1, r2⟩ := h.y1
  have e2 : ∀ j, w'.cell? ⟨xm, j, none⟩ = w.cell? ⟨xm, j, none⟩ := fun j => S.cell (p := ⟨xm, j, none⟩) (by show xm < _; omega) (by simp; omega)
  refine ⟨⟨⟨c, BN.go hB S (by simp; omega) (by simp; omega) (by simp; omega)⟩, h.Z.same S (Nat.le_refl _) (by simp; omega) (by simp; omega), by rw [hw, cell_setCell, if_neg (by omega)]; exact h.x0, ⟨v, by rw [hw, cell_setCell, if_pos ⟨rfl, rfl⟩, x1]; rfl, hr.same S (Nat.le_refl _) (by simp; intro q; have := h.hk _ q; omega)⟩, fun j => by rw [hw, World.frozen?_setCell]; exact h.xf j, by rw [e2]; exact h.y0, ⟨v2, by rw [e2]; exact y1, r2.same S (Nat.le_refl _) (by simp; intro q; have := h.hk _ q; omega)⟩, fun j => by rw [hw, World.frozen?_setCell]; exact h.yf j, lt, by have := S.size; omega, h.hk, ne⟩, S⟩
theorem ST.setM (h : ST w ok bs b bi bt pb cb xr xm mp oR oM) {v : Option Addr} {o : Option (List FF)} (hr : RgA w ok v o) (hw : w' = w.setCell ⟨xm, 1, none⟩ (.pointer v)) : ST w' ok bs b bi bt pb cb xr xm mp oR o ∧ Same [xm] w.heap.size w w' := by
  have S : Same [xm] w.heap.size w w' := by rw [hw]; exact (Same.refl _ _ _).setCell (.inr (by simp)) _
  have lt := h.lt; have ne := h.ne; have le := h.le
  obtain ⟨c, hB⟩ := h.B
  obtain ⟨v1, x1, r1⟩ := h.x1
  obtain ⟨v2, y1, _⟩ := h.y1
  have e2 : ∀ j, w'.cell? ⟨xr, j, none⟩ = w.cell? ⟨xr, j, none⟩ := fun j => S.cell (p := ⟨xr, j, none⟩) (by show xr < _; omega) (by simp; omega)
  refine ⟨⟨⟨c, BN.go hB S (by simp; omega) (by simp; omega) (by simp; omega)⟩, h.Z.same S (Nat.le_refl _) (by simp; omega) (by simp; omega), by rw [e2]; exact h.x0, ⟨v1, by rw [e2]; exact x1, r1.same S (Nat.le_refl _) (by simp; intro q; have := h.hk _ q; omega)⟩, fun j => by rw [hw, World.frozen?_setCell]; exact h.xf j, by rw [hw, cell_setCell, if_neg (by omega)]; exact h.y0, ⟨v, by rw [hw, cell_setCell, if_pos ⟨rfl, rfl⟩, y1]; rfl, hr.same S (Nat.le_refl _) (by simp; intro q; have := h.hk _ q; omega)⟩, fun j => by rw [hw, World.frozen?_setCell]; exact h.yf j, lt, by have := S.size; omega, h.hk, ne⟩, S⟩
/-- Read, against the text. -/
def RdRef (w : World) (ok : Nat → Prop) (s : ByteArray) (bs b bi bt pb cb xr xm : Nat) (mp : Option Addr) (oR oM : Option (List FF)) : Value → World → Prop := fun v w' => ST w' ok bs b bi bt pb cb xr xm mp oR oM ∧ Same [b, bi, bt] w.heap.size w w' ∧
  ((∃ mb m P, v = rp mb ∧ HM w' w' w.heap.size mb m P ∧ WFP P ∧ zOf s = (match comp P with | .inl e => (29, (e.1 : Int), (e.2 : Int), none) | .inr fs => (0, (P.nf : Int), 0, some fs))) ∨ (v = .pointer none ∧ zOf s = (32, -1, 0, none)))
theorem Read_ref (h : ST w ok bs b bi bt pb cb xr xm mp oR oM) (s : ByteArray) : Runs Try.prog preplaw_Read.id #[.agg #[rp b], .string s] w (RdRef w ok s bs b bi bt pb cb xr xm mp oR oM) := by
  obtain ⟨c, hB⟩ := h.B
  have lt := h.lt; have ne := h.ne; have le := h.le
  refine RunsQ.post (Read_spec hB s) ?_
  rintro v w1 (⟨x, q, mb, m, hd, rfl, B1, H1, S1⟩ | ⟨n, a, c', hd, rfl, B1, S1⟩)
  · obtain ⟨y, hy, E⟩ := decA_again hd sc0
    refine ⟨h.move S1 ⟨_, B1⟩ (h.Z.same S1 (Nat.le_refl _) (by simp; omega) (by simp; omega)) (fun k hk => by simp at hk; omega), S1, .inl ⟨mb, m, y.2, rfl, H1.eqv E, decA_wf hy, ?_⟩⟩
    unfold zOf; rw [hy]
  · refine ⟨h.move S1 ⟨_, B1⟩ (h.Z.same S1 (Nat.le_refl _) (by simp; omega) (by simp; omega)) (fun k hk => by simp at hk; omega), S1, .inr ⟨rfl, ?_⟩⟩
    unfold zOf; rw [decA_refused hd sc0]
end
section
variable {w w' : World}
/-- An answer in memory. -/
structure AnA (w : World) (a : Nat) (e n k : Int) (s : ByteArray) : Prop where
  c0 : w.cell? ⟨a, 0, none⟩ = some (.int .i64 e)
  c1 : w.cell? ⟨a, 1, none⟩ = some (.int .i64 n)
  c2 : w.cell? ⟨a, 2, none⟩ = some (.int .i64 k)
  c3 : w.cell? ⟨a, 3, none⟩ = some (.string s)
  f : ∀ j, w.frozen? ⟨a, j, none⟩ = false
variable {a : Nat} {e n k : Int} {s : ByteArray}
theorem AnA.lt (h : AnA w a e n k s) : a < w.heap.size := cell_lt h.c0
theorem AnA.same (h : AnA w a e n k s) {S : List Nat} {B : Nat} (hs : Same S B w w') (hb : a < B) (hS : a ∉ S) : AnA w' a e n k s :=
  ⟨by rw [hs.cell hb hS]; exact h.c0, by rw [hs.cell hb hS]; exact h.c1, by rw [hs.cell hb hS]; exact h.c2, by rw [hs.cell hb hS]; exact h.c3, fun j => by rw [hs.frozen hb hS]; exact h.f j⟩
theorem AnA.set0 (h : AnA w a e n k s) (x : Int) : AnA (w.setCell ⟨a, 0, none⟩ (.int .i64 x)) a x n k s :=
  ⟨by rw [cell_setCell, if_pos ⟨rfl, rfl⟩, h.c0]; rfl, by rw [cell_setCell, if_neg (by omega)]; exact h.c1, by rw [cell_setCell, if_neg (by omega)]; exact h.c2, by rw [cell_setCell, if_neg (by omega)]; exact h.c3, fun j => by rw [World.frozen?_setCell]; exact h.f j⟩
theorem AnA.set1 (h : AnA w a e n k s) (x : Int) : AnA (w.setCell ⟨a, 1, none⟩ (.int .i64 x)) a e x k s :=
  ⟨by rw [cell_setCell, if_neg (by omega)]; exact h.c0, by rw [cell_setCell, if_pos ⟨rfl, rfl⟩, h.c1]; rfl, by rw [cell_setCell, if_neg (by omega)]; exact h.c2, by rw [cell_setCell, if_neg (by omega)]; exact h.c3, fun j => by rw [World.frozen?_setCell]; exact h.f j⟩
theorem AnA.set2 (h : AnA w a e n k s) (x : Int) : AnA (w.setCell ⟨a, 2, none⟩ (.int .i64 x)) a e n x s :=
  ⟨by rw [cell_setCell, if_neg (by omega)]; exact h.c0, by rw [cell_setCell, if_neg (by omega)]; exact h.c1, by rw [cell_setCell, if_pos ⟨rfl, rfl⟩, h.c2]; rfl, by rw [cell_setCell, if_neg (by omega)]; exact h.c3, fun j => by rw [World.frozen?_setCell]; exact h.f j⟩
theorem AnA.set3 (h : AnA w a e n k s) (x : ByteArray) : AnA (w.setCell ⟨a, 3, none⟩ (.string x)) a e n k x :=
  ⟨by rw [cell_setCell, if_neg (by omega)]; exact h.c0, by rw [cell_setCell, if_neg (by omega)]; exact h.c1, by rw [cell_setCell, if_neg (by omega)]; exact h.c2, by rw [cell_setCell, if_pos ⟨rfl, rfl⟩, h.c3]; rfl, fun j => by rw [World.frozen?_setCell]; exact h.f j⟩
theorem AnA.new (w : World) (t : TypeId) : AnA (w.alloc (.cells #[(.int .i64 0), (.int .i64 0), (.int .i64 0), (.string ⟨#[]⟩)] t)) w.heap.size 0 0 0 ⟨#[]⟩ :=
  ⟨by rw [World.cell?_alloc_new]; rfl, by rw [World.cell?_alloc_new]; rfl, by rw [World.cell?_alloc_new]; rfl, by rw [World.cell?_alloc_new]; rfl, fun j => by rw [World.frozen?_alloc_new]⟩
theorem AnA.cans (h : AnA w a e n k s) (j : Nat) (hj : j < 4) : can w ⟨a, j, none⟩ := by
  have : j = 0 ∨ j = 1 ∨ j = 2 ∨ j = 3 := by omega
  rcases this with rfl | rfl | rfl | rfl
  · exact ⟨⟨_, h.c0⟩, h.f _⟩
  · exact ⟨⟨_, h.c1⟩, h.f _⟩
  · exact ⟨⟨_, h.c2⟩, h.f _⟩
  · exact ⟨⟨_, h.c3⟩, h.f _⟩
theorem AnA.fill (h : AnA w a e n k s) {e' n' k' : Int} {s' : ByteArray} (hF : Fill w w' a 0 [.int .i64 e', .int .i64 n', .int .i64 k', .string s']) : AnA w' a e' n' k' s' :=
  ⟨by rw [hF.cell, if_pos (by simp)]; rfl, by rw [hF.cell, if_pos (by simp)]; rfl, by rw [hF.cell, if_pos (by simp)]; rfl, by rw [hF.cell, if_pos (by simp)]; rfl, fun j => by rw [hF.frozen]; exact h.f j⟩

end
section
variable {w w' : World} {ok : Nat → Prop} {bs b bi bt pb cb xr xm : Nat} {mp : Option Addr} {oR oM : Option (List FF)}
/-- A block beyond the two sides' own is written. -/
theorem ST.moveB (h : ST w ok bs b bi bt pb cb xr xm mp oR oM) {q : Nat} (hS : Same [q] w.heap.size w w') (hq : bs ≤ q) (hn : ¬ ok q) : ST w' ok bs b bi bt pb cb xr xm mp oR oM := by
  have lt := h.lt
  obtain ⟨c, hB⟩ := h.B
  exact h.move hS ⟨c, BN.go hB hS (by simp; omega) (by simp; omega) (by simp; omega)⟩ (h.Z.same hS (Nat.le_refl _) (by simp; omega) (by simp; omega)) (fun k hk => by simp at hk; subst hk; exact .inr (.inr (.inr (.inr (.inr ⟨hq, hn⟩)))))
theorem ST.weak {ok' : Nat → Prop} (h : ST w ok bs b bi bt pb cb xr xm mp oR oM) (h1 : ∀ k, ok k → k < w.heap.size → ok' k) (h2 : ∀ k, ok' k → bs ≤ k) : ST w ok' bs b bi bt pb cb xr xm mp oR oM := by
  obtain ⟨v1, x1, r1⟩ := h.x1
  obtain ⟨v2, y1, r2⟩ := h.y1
  exact ⟨h.B, h.Z, h.x0, ⟨v1, x1, r1.weak h1⟩, h.xf, h.y0, ⟨v2, y1, r2.weak h1⟩, h.yf, h.lt, h.le, h2, h.ne⟩
end

/-- What one step answers. -/
def ansE (o : OpV) : Int := if o.kind = 1 then (zOf o.s).1 else 0
def ansN (o : OpV) : Int := if o.kind = 1 then (zOf o.s).2.1 else 0
def ansM (o : OpV) : Int := if o.kind = 1 then (zOf o.s).2.2.1 else 0
def regN (o : OpV) (g : Option (List FF)) : Option (List FF) := if o.kind = 1 then (zOf o.s).2.2.2 else g
def ansS (o : OpV) (g : Option (List FF)) : ByteArray := if o.kind = 1 then showO (zOf o.s).2.2.2 else if o.kind = 2 then showO g else ⟨#[]⟩
section
variable {w w' : World} {ok : Nat → Prop} {bs b bi bt pb cb xr xm : Nat} {mp : Option Addr} {oR oM : Option (List FF)}

def DoOk (w : World) (bs b bi bt pb cb xr xm : Nat) (mp : Option Addr) (oR oM : Option (List FF)) (o : OpV) : Value → World → Prop := fun v w' => v = .agg #[.int .i64 (ansE o), .int .i64 (ansN o), .int .i64 (ansM o), .string (ansS o oR)] ∧ ST w' (bs ≤ ·) bs b bi bt pb cb xr xm mp (regN o oR) oM ∧ Same [b, bi, bt, pb, cb, xr] w.heap.size w w'
theorem Do_spec (h : ST w (bs ≤ ·) bs b bi bt pb cb xr xm mp oR oM) (o : OpV) : Runs Try.prog preplaw_Do.id #[rp xr, .agg #[rp b], o.val] w (DoOk w bs b bi bt pb cb xr xm mp oR oM o) := by
  refine preplaw_Do.enter _ _ _ _ _ _ _ _ _ _ _ ?_
  unfold preplaw_Do.V
  refine letB_intro fun b9 hb9 => letW_intro fun w10 hw10 => letB_intro fun b11 hb11 => letW_intro fun w12 hw12 => letB_intro fun b13 hb13 => letW_intro fun w14 hw14 => letB_intro fun b15 hb15 => letW_intro fun w16 hw16 => ?_
  have S10 : Same [] w.heap.size w w10 := by rw [hw10]; exact (Same.refl _ _ _).alloc (Nat.le_refl _) _
  have z10 : w10.heap.size = w.heap.size + 1 := by rw [hw10]; simp
  have S12 : Same [] w10.heap.size w10 w12 := by rw [hw12]; exact (Same.refl _ _ _).alloc (Nat.le_refl _) _
  have z12 : w12.heap.size = w10.heap.size + 1 := by rw [hw12]; simp
  have S14 : Same [] w12.heap.size w12 w14 := by rw [hw14]; exact (Same.refl _ _ _).alloc (Nat.le_refl _) _
  have z14 : w14.heap.size = w12.heap.size + 1 := by rw [hw14]; simp
  have S16 : Same [] w14.heap.size w14 w16 := by rw [hw16]; exact (Same.refl _ _ _).alloc (Nat.le_refl _) _
  have z16 : w16.heap.size = w14.heap.size + 1 := by rw [hw16]; simp
  have c9 : w10.cell? ⟨b9, 0, none⟩ = some (rp b) := by rw [hw10, hb9, World.cell?_alloc_new]; rfl
  have O12 : OpAt w12 b11 o := by rw [hw12, hb11]; exact OpAt.new w10 o T_api_Op
  have A14 : AnA w14 b13 0 0 0 ⟨#[]⟩ := by rw [hw14, hb13]; exact AnA.new w12 _
  have A16 : AnA w16 b15 0 0 0 ⟨#[]⟩ := by rw [hw16, hb15]; exact AnA.new w14 _
  clear hw10 hw12 hw14 hw16
  refine putCells_intro b15 _ 0 w16 _ (fun j hj => by rw [Nat.zero_add]; exact A16.cans j hj) (fun w17 hF => ?_)
  have A17 := A16.fill hF
  have S17 : Same [b15] w16.heap.size w16 w17 := hF.same _
  clear hF
  have lt := h.lt; have ne := h.ne; have le := h.le
  have z17 := S17.size
  have T16 : Same [] w.heap.size w w16 := ((S10.trans (S12.mono (by omega) (by simp))).trans (S14.mono (by omega) (by simp))).trans (S16.mono (by omega) (by simp))
  have T17 : Same [] w.heap.size w w17 := T16.trans (S17.mono (by omega) (fun k hk hl => by simp at hk; omega))
  obtain ⟨ok, hok⟩ : ∃ ok : Nat → Prop, ok = fun k => bs ≤ k ∧ k ≠ b13 ∧ k ≠ b15 := ⟨_, rfl⟩
  have ok13 : ¬ ok b13 := by rw [hok]; exact fun q => q.2.1 rfl
  have ok15 : ¬ ok b15 := by rw [hok]; exact fun q => q.2.2 rfl
  have okb : ∀ k, ok k → bs ≤ k := fun k hk => by rw [hok] at hk; exact hk.1
  have okn : ∀ k, w17.heap.size ≤ k → ok k := fun k hk => by rw [hok]; exact ⟨by omega, by omega, by omega⟩
  have h17 : ST w17 ok bs b bi bt pb cb xr xm mp oR oM := (h.weak (fun k hk hl => by rw [hok]; exact ⟨hk, by omega, by omega⟩) okb).keep T17
  clear hok
  have c9' : w17.cell? ⟨b9, 0, none⟩ = some (rp b) := by
    rw [S17.cell (p := ⟨b9, 0, none⟩) (show b9 < _ by omega) (by simp; omega), S16.cell (p := ⟨b9, 0, none⟩) (show b9 < _ by omega) (by simp), S14.cell (p := ⟨b9, 0, none⟩) (show b9 < _ by omega) (by simp), S12.cell (p := ⟨b9, 0, none⟩) (show b9 < _ by omega) (by simp)]; exact c9
  have O17 : OpAt w17 b11 o := ((O12.same S14 (by omega) (by simp)).same S16 (by omega) (by simp)).same S17 (by omega) (by simp; omega)
  have A13 : AnA w17 b13 0 0 0 ⟨#[]⟩ := (A14.same S16 (by omega) (by simp)).same S17 (by omega) (by simp; omega)
  have s0 : Same [b, bi, bt, pb, cb, xr] w.heap.size w w17 := T17.mono (Nat.le_refl _) (by simp)
  clear S10 S12 S14 S16 S17 T16
  -- the answer goes home
  have L1 : ∀ (w1 : World) (e n k : Int) (s : ByteArray), AnA w1 b15 e n k s → AnA w1 b13 0 0 0 ⟨#[]⟩ → ST w1 ok bs b bi bt pb cb xr xm mp (regN o oR) oM → Same [b, bi, bt, pb, cb, xr] w.heap.size w w1 → e = ansE o → n = ansN o → k = ansM o → s = ansS o oR → preplaw_Do.L1 b13 b15 (DoOk w bs b bi bt pb cb xr xm mp oR oM o) (fun _ _ => False) w1 := fun w1 e n k s A1 B1 R1 S1 he hn hk hss => by
    refine preplaw_Do.step1 _ _ _ _ _ ?_
    unfold preplaw_Do.V1
    refine ⟨_, _, _, _, A1.c0, A1.c1, A1.c2, A1.c3, putCells_intro b13 _ 0 w1 _ (fun j hj => by rw [Nat.zero_add]; exact B1.cans j hj) (fun w2 hF => ?_)⟩
    have A2 := B1.fill hF
    have S2 : Same [b13] w1.heap.size w1 w2 := hF.same _
    have S2' : Same [] w.heap.size w1 w2 := S2.mono S1.size (fun k hk hl => by simp at hk; omega)
    have hl13 := B1.lt
    refine ⟨_, _, _, _, A2.c0, A2.c1, A2.c2, A2.c3, by rw [he, hn, hk, hss], ?_, S1.trans (S2'.mono (Nat.le_refl _) (by simp))⟩
    have lt1 := R1.lt; have ne1 := R1.ne; have le1 := R1.le
    obtain ⟨c, hB⟩ := R1.B
    exact (R1.moveB S2 (by omega) ok13).weak (fun k hk _ => okb k hk) (fun k hk => hk)
  -- the code shown
  have shw : ∀ (w1 : World) (e n k : Int) (g : Option (List FF)), AnA w1 b15 e n k ⟨#[]⟩ → AnA w1 b13 0 0 0 ⟨#[]⟩ → ST w1 ok bs b bi bt pb cb xr xm mp (regN o oR) oM → (regN o oR) = g → Same [b, bi, bt, pb, cb, xr] w.heap.size w w1 → e = ansE o → n = ansN o → k = ansM o → showO g = ansS o oR →
      ∃ x44 : Option Addr, World.cell? w1 ⟨xr, 1, none⟩ = some (.pointer x44) ∧ (RunsQ Try.prog api_Code_Show.id #[(.pointer x44)] w1 (fun r45 w46 => (∃ x47 : ByteArray, (r45 = (.string x47) ∧ (can w46 ⟨b15, 3, none⟩ ∧ letW (World.setCell w46 ⟨b15, 3, none⟩ (.string x47)) fun w48 => (preplaw_Do.L1 b13 b15 (DoOk w bs b bi bt pb cb xr xm mp oR oM o) (fun _ _ => False) w48))))) (fun _ _ => False)) := fun w1 e n k g A1 B1 R1 hg S1 he hn hk hss => by
    obtain ⟨v, c1, rg⟩ := R1.x1
    refine ⟨v, c1, RunsQ.post (codeShow_spec rg) ?_⟩
    rintro v w2 ⟨rfl, S2⟩
    have A2 := A1.same S2 A1.lt (by simp)
    refine ⟨_, rfl, A2.cans 3 (by decide), letW_intro fun w3 hw3 => ?_⟩
    have A3 := A2.set3 (showO (regN o oR))
    rw [← hw3] at A3
    have S3 : Same [b15] w2.heap.size w2 w3 := by rw [hw3]; exact (Same.refl _ _ _).setCell (.inr (by simp)) _
    have B2 := B1.same S2 B1.lt (by simp)
    have R2 := R1.keep S2
    have T2 := S1.trans (S2.mono S1.size (by simp))
    have l15 := A1.lt
    exact L1 w3 _ _ _ _ A3 (B2.same S3 B2.lt (by simp; omega)) (R2.moveB S3 (by omega) ok15) (T2.trans (S3.mono T2.size (fun k hk hl => by simp at hk; omega))) he hn hk (by rw [hg]; exact hss)
  -- the compiled code is set
  have fin : ∀ (w1 : World) (v : Option Addr), o.kind = 1 → AnA w1 b15 0 0 0 ⟨#[]⟩ → AnA w1 b13 0 0 0 ⟨#[]⟩ → ST w1 ok bs b bi bt pb cb xr xm mp oR oM → RgA w1 ok v (zOf o.s).2.2.2 → Same [b, bi, bt, pb, cb, xr] w.heap.size w w1 →
      (can w1 ⟨xr, 1, none⟩ ∧ letW (World.setCell w1 ⟨xr, 1, none⟩ (.pointer v)) fun w33 => (can w33 ⟨b15, 1, none⟩ ∧ letW (World.setCell w33 ⟨b15, 1, none⟩ (.int .i64 (zOf o.s).2.1)) fun w34 => (can w34 ⟨b15, 2, none⟩ ∧ letW (World.setCell w34 ⟨b15, 2, none⟩ (.int .i64 (zOf o.s).2.2.1)) fun w35 => (can w35 ⟨b15, 0, none⟩ ∧ letW (World.setCell w35 ⟨b15, 0, none⟩ (.int .i64 (zOf o.s).1)) fun w36 => (∃ x38 : Option Addr, World.cell? w36 ⟨xr, 1, none⟩ = some (.pointer x38) ∧ (RunsQ Try.prog api_Code_Show.id #[(.pointer x38)] w36 (fun r39 w40 => (∃ x41 : ByteArray, (r39 = (.string x41) ∧ (can w40 ⟨b15, 3, none⟩ ∧ letW (World.setCell w40 ⟨b15, 3, none⟩ (.string x41)) fun w42 => (preplaw_Do.L1 b13 b15 (DoOk w bs b bi bt pb cb xr xm mp oR oM o) (fun _ _ => False) w42))))) (fun _ _ => False))))))) := fun w1 v hk A1 B1 R1 rg S1 => by
    have lt1 := R1.lt; have ne1 := R1.ne; have le1 := R1.le
    obtain ⟨v0, c0, _⟩ := R1.x1
    refine ⟨⟨⟨_, c0⟩, R1.xf 1⟩, letW_intro fun w2 hw2 => ?_⟩
    obtain ⟨R2, S2⟩ := R1.setR rg hw2
    clear hw2
    have l15 := A1.lt; have l13 := B1.lt
    have A2 := A1.same S2 A1.lt (by simp; omega)
    have B2 := B1.same S2 B1.lt (by simp; omega)
    have T2 : Same [b, bi, bt, pb, cb, xr] w.heap.size w w2 := S1.trans (S2.mono S1.size (fun k hk _ => by simp at hk ⊢; omega))
    refine ⟨A2.cans 1 (by decide), letW_intro fun w3 hw3 => ?_⟩
    have A3 := A2.set1 (zOf o.s).2.1
    rw [← hw3] at A3
    have S3 : Same [b15] w2.heap.size w2 w3 := by rw [hw3]; exact (Same.refl _ _ _).setCell (.inr (by simp)) _
    clear hw3
    refine ⟨A3.cans 2 (by decide), letW_intro fun w4 hw4 => ?_⟩
    have A4 := A3.set2 (zOf o.s).2.2.1
    rw [← hw4] at A4
    have S4 : Same [b15] w2.heap.size w2 w4 := by rw [hw4]; exact S3.setCell (.inr (by simp)) _
    clear hw4
    refine ⟨A4.cans 0 (by decide), letW_intro fun w5 hw5 => ?_⟩
    have A5 := A4.set0 (zOf o.s).1
    rw [← hw5] at A5
    have S5 : Same [b15] w2.heap.size w2 w5 := by rw [hw5]; exact S4.setCell (.inr (by simp)) _
    clear hw5
    have R5 := R2.moveB S5 (by omega) ok15
    have en : (zOf o.s).2.2.2 = regN o oR := by unfold regN; rw [if_pos hk]
    rw [en] at R5
    refine shw w5 _ _ _ _ A5 (B2.same S5 B2.lt (by simp; omega)) R5 rfl (T2.trans (S5.mono T2.size (fun k hk hl => by simp at hk; omega))) ?_ ?_ ?_ ?_
    · unfold ansE; rw [if_pos hk]
    · unfold ansN; rw [if_pos hk]
    · unfold ansM; rw [if_pos hk]
    · rw [← en]; unfold ansS; rw [if_pos hk]
  simp only [nilV_some, Nat.zero_add]
  refine ⟨_, O17.c0, cond_intro (fun h1 => ?_) (fun h1 => ?_)⟩
  · have h1 : o.kind = 1 := eq_of_beq h1
    refine ⟨_, c9', _, O17.c4, RunsQ.post (Read_ref h17 o.s) ?_⟩
    rintro v w22 ⟨R22, S22, hv⟩
    have z22 := S22.size
    have A22 := A17.same S22 A17.lt (by simp; omega)
    have B22 := A13.same S22 A13.lt (by simp; omega)
    have t22 : Same [b, bi, bt, pb, cb, xr] w.heap.size w w22 := s0.trans (S22.mono s0.size (fun k hk _ => by simp at hk ⊢; omega))
    have lt22 := R22.lt; have ne22 := R22.ne; have le22 := R22.le
    rcases hv with ⟨mb, m, P, rfl, H22, W22, hz⟩ | ⟨rfl, hz⟩
    · refine ⟨_, rfl, _, R22.x0, RunsQ.post (Compile_spec H22 W22.pb (wf_room W22) R22.Z (by omega) (by omega)) ?_⟩
      rintro v w27 ⟨Z27, S27, hv⟩
      have z27 := S27.size
      obtain ⟨c, hB⟩ := R22.B
      have R27 := R22.move S27 ⟨c, BN.go hB S27 (by simp; omega) (by simp; omega) (by simp; omega)⟩ Z27 (fun k hk => by simp at hk; omega)
      have A27 := A22.same S27 A22.lt (by simp; omega)
      have B27 := B22.same S27 B22.lt (by simp; omega)
      have t27 : Same [b, bi, bt, pb, cb, xr] w.heap.size w w27 := t22.trans (S27.mono t22.size (fun k hk _ => by simp at hk ⊢; omega))
      cases hc : comp P with
      | inl e =>
        obtain ⟨k, at_⟩ := e
        rw [hc] at hv hz
        have hv : v = _ := hv
        subst hv
        refine ⟨_, _, _, _, rfl, ?_⟩
        have := fin w27 none h1 A27 B27 R27 (by rw [hz]; exact .inl ⟨rfl, rfl⟩) t27
        rw [hz] at this
        exact this
      | inr fs =>
        rw [hc] at hv hz
        obtain ⟨cdb, rfl, cd⟩ := hv
        obtain ⟨o1, o2, o3⟩ := comp_ok W22 hc
        refine ⟨_, _, _, _, rfl, ?_⟩
        have := fin w27 (some ⟨cdb, 0, none⟩) h1 A27 B27 R27 (by rw [hz]; exact .inr ⟨cdb, fs, rfl, rfl, cd.toM.weak (fun k hk _ => okn k (by omega)), o3, o2⟩) t27
        rw [hz] at this
        exact this
    · refine ⟨_, rfl, _, R22.x0, RunsQ.post (Compile_nil R22.Z) ?_⟩
      rintro v w22 ⟨rfl, rfl⟩
      refine ⟨_, _, _, _, rfl, ?_⟩
      have := fin w22 none h1 A22 B22 R22 (by rw [hz]; exact .inl ⟨rfl, rfl⟩) t22
      rw [hz] at this
      exact this
  have k1 : ¬ o.kind = 1 := by simpa using h1
  have hreg : regN o oR = oR := by unfold regN; rw [if_neg k1]
  have e0 : (0 : Int) = ansE o := by unfold ansE; rw [if_neg k1]
  have n0 : (0 : Int) = ansN o := by unfold ansN; rw [if_neg k1]
  have m0 : (0 : Int) = ansM o := by unfold ansM; rw [if_neg k1]
  have R17 : ST w17 ok bs b bi bt pb cb xr xm mp (regN o oR) oM := by rw [hreg]; exact h17
  refine cond_intro (fun h2 => ?_) (fun h2 => ?_)
  · have h2 : o.kind = 2 := eq_of_beq h2
    exact shw w17 _ _ _ _ A17 A13 R17 rfl s0 e0 n0 m0 (by rw [hreg]; unfold ansS; rw [if_neg k1, if_pos h2])
  have k2 : ¬ o.kind = 2 := by simpa using h2
  have es : (⟨#[]⟩ : ByteArray) = ansS o oR := by unfold ansS; rw [if_neg k1, if_neg k2]
  refine cond_intro (fun h3 => ⟨_, h17.x0, RunsQ.post (Check_spec h17.Z) ?_⟩) (fun h3 => L1 w17 _ _ _ _ A17 A13 R17 s0 e0 n0 m0 es)
  rintro v w52 ⟨rfl, S52⟩
  refine ⟨_, rfl, cond_false' rfl ?_⟩
  exact L1 w52 _ _ _ _ (A17.same S52 A17.lt (by simp)) (A13.same S52 A13.lt (by simp)) (R17.keep S52) (s0.trans (S52.mono s0.size (by simp))) e0 n0 m0 es

def DoMOk (w : World) (bs b bi bt pb cb xr xm : Nat) (mp : Option Addr) (oR oM : Option (List FF)) (o : OpV) : Value → World → Prop := fun v w' => v = .agg #[.int .i64 (ansE o), .int .i64 (ansN o), .int .i64 (ansM o), .string (ansS o oM)] ∧ ST w' (bs ≤ ·) bs b bi bt pb cb xr xm mp oR (regN o oM) ∧ Same [b, bi, bt, pb, cb, xm] w.heap.size w w'
theorem DoM_spec (h : ST w (bs ≤ ·) bs b bi bt pb cb xr xm mp oR oM) (o : OpV) : Runs Try.prog preplaw_DoM.id #[rp xm, .agg #[rp b], o.val] w (DoMOk w bs b bi bt pb cb xr xm mp oR oM o) := by
  refine preplaw_DoM.enter _ _ _ _ _ _ _ _ _ _ _ ?_
  unfold preplaw_DoM.V
  refine letB_intro fun b9 hb9 => letW_intro fun w10 hw10 => letB_intro fun b11 hb11 => letW_intro fun w12 hw12 => letB_intro fun b13 hb13 => letW_intro fun w14 hw14 => letB_intro fun b15 hb15 => letW_intro fun w16 hw16 => ?_
  have S10 : Same [] w.heap.size w w10 := by rw [hw10]; exact (Same.refl _ _ _).alloc (Nat.le_refl _) _
  have z10 : w10.heap.size = w.heap.size + 1 := by rw [hw10]; simp
  have S12 : Same [] w10.heap.size w10 w12 := by rw [hw12]; exact (Same.refl _ _ _).alloc (Nat.le_refl _) _
  have z12 : w12.heap.size = w10.heap.size + 1 := by rw [hw12]; simp
  have S14 : Same [] w12.heap.size w12 w14 := by rw [hw14]; exact (Same.refl _ _ _).alloc (Nat.le_refl _) _
  have z14 : w14.heap.size = w12.heap.size + 1 := by rw [hw14]; simp
  have S16 : Same [] w14.heap.size w14 w16 := by rw [hw16]; exact (Same.refl _ _ _).alloc (Nat.le_refl _) _
  have z16 : w16.heap.size = w14.heap.size + 1 := by rw [hw16]; simp
  have c9 : w10.cell? ⟨b9, 0, none⟩ = some (rp b) := by rw [hw10, hb9, World.cell?_alloc_new]; rfl
  have O12 : OpAt w12 b11 o := by rw [hw12, hb11]; exact OpAt.new w10 o T_api_Op
  have A14 : AnA w14 b13 0 0 0 ⟨#[]⟩ := by rw [hw14, hb13]; exact AnA.new w12 _
  have A16 : AnA w16 b15 0 0 0 ⟨#[]⟩ := by rw [hw16, hb15]; exact AnA.new w14 _
  clear hw10 hw12 hw14 hw16
  refine putCells_intro b15 _ 0 w16 _ (fun j hj => by rw [Nat.zero_add]; exact A16.cans j hj) (fun w17 hF => ?_)
  have A17 := A16.fill hF
  have S17 : Same [b15] w16.heap.size w16 w17 := hF.same _
  clear hF
  have lt := h.lt; have ne := h.ne; have le := h.le
  have z17 := S17.size
  have T16 : Same [] w.heap.size w w16 := ((S10.trans (S12.mono (by omega) (by simp))).trans (S14.mono (by omega) (by simp))).trans (S16.mono (by omega) (by simp))
  have T17 : Same [] w.heap.size w w17 := T16.trans (S17.mono (by omega) (fun k hk hl => by simp at hk; omega))
  obtain ⟨ok, hok⟩ : ∃ ok : Nat → Prop, ok = fun k => bs ≤ k ∧ k ≠ b13 ∧ k ≠ b15 := ⟨_, rfl⟩
  have ok13 : ¬ ok b13 := by rw [hok]; exact fun q => q.2.1 rfl
  have ok15 : ¬ ok b15 := by rw [hok]; exact fun q => q.2.2 rfl
  have okb : ∀ k, ok k → bs ≤ k := fun k hk => by rw [hok] at hk; exact hk.1
  have okn : ∀ k, w17.heap.size ≤ k → ok k := fun k hk => by rw [hok]; exact ⟨by omega, by omega, by omega⟩
  have h17 : ST w17 ok bs b bi bt pb cb xr xm mp oR oM := (h.weak (fun k hk hl => by rw [hok]; exact ⟨hk, by omega, by omega⟩) okb).keep T17
  clear hok
  have c9' : w17.cell? ⟨b9, 0, none⟩ = some (rp b) := by
    rw [S17.cell (p := ⟨b9, 0, none⟩) (show b9 < _ by omega) (by simp; omega), S16.cell (p := ⟨b9, 0, none⟩) (show b9 < _ by omega) (by simp), S14.cell (p := ⟨b9, 0, none⟩) (show b9 < _ by omega) (by simp), S12.cell (p := ⟨b9, 0, none⟩) (show b9 < _ by omega) (by simp)]; exact c9
  have O17 : OpAt w17 b11 o := ((O12.same S14 (by omega) (by simp)).same S16 (by omega) (by simp)).same S17 (by omega) (by simp; omega)
  have A13 : AnA w17 b13 0 0 0 ⟨#[]⟩ := (A14.same S16 (by omega) (by simp)).same S17 (by omega) (by simp; omega)
  have s0 : Same [b, bi, bt, pb, cb, xm] w.heap.size w w17 := T17.mono (Nat.le_refl _) (by simp)
  clear S10 S12 S14 S16 S17 T16
  -- the answer goes home
  have L1 : ∀ (w1 : World) (e n k : Int) (s : ByteArray), AnA w1 b15 e n k s → AnA w1 b13 0 0 0 ⟨#[]⟩ → ST w1 ok bs b bi bt pb cb xr xm mp oR (regN o oM) → Same [b, bi, bt, pb, cb, xm] w.heap.size w w1 → e = ansE o → n = ansN o → k = ansM o → s = ansS o oM → preplaw_DoM.L1 b13 b15 (DoMOk w bs b bi bt pb cb xr xm mp oR oM o) (fun _ _ => False) w1 := fun w1 e n k s A1 B1 R1 S1 he hn hk hss => by
    refine preplaw_DoM.step1 _ _ _ _ _ ?_
    unfold preplaw_DoM.V1
    refine ⟨_, _, _, _, A1.c0, A1.c1, A1.c2, A1.c3, putCells_intro b13 _ 0 w1 _ (fun j hj => by rw [Nat.zero_add]; exact B1.cans j hj) (fun w2 hF => ?_)⟩
    have A2 := B1.fill hF
    have S2 : Same [b13] w1.heap.size w1 w2 := hF.same _
    have S2' : Same [] w.heap.size w1 w2 := S2.mono S1.size (fun k hk hl => by simp at hk; omega)
    have hl13 := B1.lt
    refine ⟨_, _, _, _, A2.c0, A2.c1, A2.c2, A2.c3, by rw [he, hn, hk, hss], ?_, S1.trans (S2'.mono (Nat.le_refl _) (by simp))⟩
    have lt1 := R1.lt; have ne1 := R1.ne; have le1 := R1.le
    obtain ⟨c, hB⟩ := R1.B
    exact (R1.moveB S2 (by omega) ok13).weak (fun k hk _ => okb k hk) (fun k hk => hk)
  -- the code shown
  have shw : ∀ (w1 : World) (e n k : Int) (g : Option (List FF)), AnA w1 b15 e n k ⟨#[]⟩ → AnA w1 b13 0 0 0 ⟨#[]⟩ → ST w1 ok bs b bi bt pb cb xr xm mp oR (regN o oM) → (regN o oM) = g → Same [b, bi, bt, pb, cb, xm] w.heap.size w w1 → e = ansE o → n = ansN o → k = ansM o → showO g = ansS o oM →
      ∃ x44 : Option Addr, World.cell? w1 ⟨xm, 1, none⟩ = some (.pointer x44) ∧ (RunsQ Try.prog api_Code_Show.id #[(.pointer x44)] w1 (fun r45 w46 => (∃ x47 : ByteArray, (r45 = (.string x47) ∧ (can w46 ⟨b15, 3, none⟩ ∧ letW (World.setCell w46 ⟨b15, 3, none⟩ (.string x47)) fun w48 => (preplaw_DoM.L1 b13 b15 (DoMOk w bs b bi bt pb cb xr xm mp oR oM o) (fun _ _ => False) w48))))) (fun _ _ => False)) := fun w1 e n k g A1 B1 R1 hg S1 he hn hk hss => by
    obtain ⟨v, c1, rg⟩ := R1.y1
    refine ⟨v, c1, RunsQ.post (codeShow_spec rg) ?_⟩
    rintro v w2 ⟨rfl, S2⟩
    have A2 := A1.same S2 A1.lt (by simp)
    refine ⟨_, rfl, A2.cans 3 (by decide), letW_intro fun w3 hw3 => ?_⟩
    have A3 := A2.set3 (showO (regN o oM))
    rw [← hw3] at A3
    have S3 : Same [b15] w2.heap.size w2 w3 := by rw [hw3]; exact (Same.refl _ _ _).setCell (.inr (by simp)) _
    have B2 := B1.same S2 B1.lt (by simp)
    have R2 := R1.keep S2
    have T2 := S1.trans (S2.mono S1.size (by simp))
    have l15 := A1.lt
    exact L1 w3 _ _ _ _ A3 (B2.same S3 B2.lt (by simp; omega)) (R2.moveB S3 (by omega) ok15) (T2.trans (S3.mono T2.size (fun k hk hl => by simp at hk; omega))) he hn hk (by rw [hg]; exact hss)
  -- the compiled code is set
  have fin : ∀ (w1 : World) (v : Option Addr), o.kind = 1 → AnA w1 b15 0 0 0 ⟨#[]⟩ → AnA w1 b13 0 0 0 ⟨#[]⟩ → ST w1 ok bs b bi bt pb cb xr xm mp oR oM → RgA w1 ok v (zOf o.s).2.2.2 → Same [b, bi, bt, pb, cb, xm] w.heap.size w w1 →
      (can w1 ⟨xm, 1, none⟩ ∧ letW (World.setCell w1 ⟨xm, 1, none⟩ (.pointer v)) fun w33 => (can w33 ⟨b15, 1, none⟩ ∧ letW (World.setCell w33 ⟨b15, 1, none⟩ (.int .i64 (zOf o.s).2.1)) fun w34 => (can w34 ⟨b15, 2, none⟩ ∧ letW (World.setCell w34 ⟨b15, 2, none⟩ (.int .i64 (zOf o.s).2.2.1)) fun w35 => (can w35 ⟨b15, 0, none⟩ ∧ letW (World.setCell w35 ⟨b15, 0, none⟩ (.int .i64 (zOf o.s).1)) fun w36 => (∃ x38 : Option Addr, World.cell? w36 ⟨xm, 1, none⟩ = some (.pointer x38) ∧ (RunsQ Try.prog api_Code_Show.id #[(.pointer x38)] w36 (fun r39 w40 => (∃ x41 : ByteArray, (r39 = (.string x41) ∧ (can w40 ⟨b15, 3, none⟩ ∧ letW (World.setCell w40 ⟨b15, 3, none⟩ (.string x41)) fun w42 => (preplaw_DoM.L1 b13 b15 (DoMOk w bs b bi bt pb cb xr xm mp oR oM o) (fun _ _ => False) w42))))) (fun _ _ => False))))))) := fun w1 v hk A1 B1 R1 rg S1 => by
    have lt1 := R1.lt; have ne1 := R1.ne; have le1 := R1.le
    obtain ⟨v0, c0, _⟩ := R1.y1
    refine ⟨⟨⟨_, c0⟩, R1.yf 1⟩, letW_intro fun w2 hw2 => ?_⟩
    obtain ⟨R2, S2⟩ := R1.setM rg hw2
    clear hw2
    have l15 := A1.lt; have l13 := B1.lt
    have A2 := A1.same S2 A1.lt (by simp; omega)
    have B2 := B1.same S2 B1.lt (by simp; omega)
    have T2 : Same [b, bi, bt, pb, cb, xm] w.heap.size w w2 := S1.trans (S2.mono S1.size (fun k hk _ => by simp at hk ⊢; omega))
    refine ⟨A2.cans 1 (by decide), letW_intro fun w3 hw3 => ?_⟩
    have A3 := A2.set1 (zOf o.s).2.1
    rw [← hw3] at A3
    have S3 : Same [b15] w2.heap.size w2 w3 := by rw [hw3]; exact (Same.refl _ _ _).setCell (.inr (by simp)) _
    clear hw3
    refine ⟨A3.cans 2 (by decide), letW_intro fun w4 hw4 => ?_⟩
    have A4 := A3.set2 (zOf o.s).2.2.1
    rw [← hw4] at A4
    have S4 : Same [b15] w2.heap.size w2 w4 := by rw [hw4]; exact S3.setCell (.inr (by simp)) _
    clear hw4
    refine ⟨A4.cans 0 (by decide), letW_intro fun w5 hw5 => ?_⟩
    have A5 := A4.set0 (zOf o.s).1
    rw [← hw5] at A5
    have S5 : Same [b15] w2.heap.size w2 w5 := by rw [hw5]; exact S4.setCell (.inr (by simp)) _
    clear hw5
    have R5 := R2.moveB S5 (by omega) ok15
    have en : (zOf o.s).2.2.2 = regN o oM := by unfold regN; rw [if_pos hk]
    rw [en] at R5
    refine shw w5 _ _ _ _ A5 (B2.same S5 B2.lt (by simp; omega)) R5 rfl (T2.trans (S5.mono T2.size (fun k hk hl => by simp at hk; omega))) ?_ ?_ ?_ ?_
    · unfold ansE; rw [if_pos hk]
    · unfold ansN; rw [if_pos hk]
    · unfold ansM; rw [if_pos hk]
    · rw [← en]; unfold ansS; rw [if_pos hk]
  simp only [nilV_some, Nat.zero_add]
  refine ⟨_, O17.c0, cond_intro (fun h1 => ?_) (fun h1 => ?_)⟩
  · have h1 : o.kind = 1 := eq_of_beq h1
    refine ⟨_, c9', _, O17.c4, RunsQ.post (Read_ref h17 o.s) ?_⟩
    rintro v w22 ⟨R22, S22, hv⟩
    have z22 := S22.size
    have A22 := A17.same S22 A17.lt (by simp; omega)
    have B22 := A13.same S22 A13.lt (by simp; omega)
    have t22 : Same [b, bi, bt, pb, cb, xm] w.heap.size w w22 := s0.trans (S22.mono s0.size (fun k hk _ => by simp at hk ⊢; omega))
    have lt22 := R22.lt; have ne22 := R22.ne; have le22 := R22.le
    rcases hv with ⟨mb, m, P, rfl, H22, W22, hz⟩ | ⟨rfl, hz⟩
    · refine ⟨_, rfl, _, R22.y0, RunsQ.post (mCompile_spec W22 H22 mp) ?_⟩
      rintro v w27 ⟨S27, hv⟩
      have z27 := S27.size
      have R27 := R22.keep S27
      have A27 := A22.same S27 A22.lt (by simp)
      have B27 := B22.same S27 B22.lt (by simp)
      have t27 : Same [b, bi, bt, pb, cb, xm] w.heap.size w w27 := t22.trans (S27.mono t22.size (by simp))
      cases hc : comp P with
      | inl e =>
        obtain ⟨k, at_⟩ := e
        rw [hc] at hv hz
        have hv : v = _ := hv
        subst hv
        refine ⟨_, _, _, _, rfl, ?_⟩
        have := fin w27 none h1 A27 B27 R27 (by rw [hz]; exact .inl ⟨rfl, rfl⟩) t27
        rw [hz] at this
        exact this
      | inr fs =>
        rw [hc] at hv hz
        obtain ⟨cdb, rfl, cd⟩ := hv
        obtain ⟨o1, o2, o3⟩ := comp_ok W22 hc
        refine ⟨_, _, _, _, rfl, ?_⟩
        have := fin w27 (some ⟨cdb, 0, none⟩) h1 A27 B27 R27 (by rw [hz]; exact .inr ⟨cdb, fs, rfl, rfl, cd.weak (fun k hk _ => okn k (by omega)), o3, o2⟩) t27
        rw [hz] at this
        exact this
    · refine ⟨_, rfl, _, R22.y0, RunsQ.post (mCompile_nil mp) ?_⟩
      rintro v w22 ⟨rfl, rfl⟩
      refine ⟨_, _, _, _, rfl, ?_⟩
      have := fin w22 none h1 A22 B22 R22 (by rw [hz]; exact .inl ⟨rfl, rfl⟩) t22
      rw [hz] at this
      exact this
  have k1 : ¬ o.kind = 1 := by simpa using h1
  have hreg : regN o oM = oM := by unfold regN; rw [if_neg k1]
  have e0 : (0 : Int) = ansE o := by unfold ansE; rw [if_neg k1]
  have n0 : (0 : Int) = ansN o := by unfold ansN; rw [if_neg k1]
  have m0 : (0 : Int) = ansM o := by unfold ansM; rw [if_neg k1]
  have R17 : ST w17 ok bs b bi bt pb cb xr xm mp oR (regN o oM) := by rw [hreg]; exact h17
  refine cond_intro (fun h2 => ?_) (fun h2 => ?_)
  · have h2 : o.kind = 2 := eq_of_beq h2
    exact shw w17 _ _ _ _ A17 A13 R17 rfl s0 e0 n0 m0 (by rw [hreg]; unfold ansS; rw [if_neg k1, if_pos h2])
  have k2 : ¬ o.kind = 2 := by simpa using h2
  have es : (⟨#[]⟩ : ByteArray) = ansS o oM := by unfold ansS; rw [if_neg k1, if_neg k2]
  exact L1 w17 _ _ _ _ A17 A13 R17 s0 e0 n0 m0 es
end
end Go.Proofs.Qxb6500321a
