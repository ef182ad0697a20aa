/-
  A body compiled: from its head; a new compiler.
-/
import Derived.Test.Qxb6500321aPrG
set_option linter.unusedSimpArgs false
set_option linter.unusedVariables false
set_option maxRecDepth 100000
set_option linter.unusedSectionVars false
namespace Go.Proofs.Qxb6500321a
open Go Go.Vc

theorem copy_rowsO {P : Program} {t e : TypeId} {i : TypeInfo} {z : Value} {size bytes : Nat} (hE : Elem P t e i z size bytes) (ty : TypeId) (w : World) (b dl dc sb so sl sc : Nat) (cs : List Value) (hn : cs.length = Nat.min sl dl * size)
    (hsrc : ∀ j v, cs[j]? = some v → w.cell? ⟨sb, so + j, none⟩ = some v) (hc : ∀ j, j < cs.length → can w ⟨b, j, none⟩) (h1 : ∀ v ∈ cs, v.oneCell' = true) :
    ∃ w', (Builtin.copy_ #[t, t] ty #[.slice (some ⟨b, 0, none⟩) dl dc, .slice (some ⟨sb, so, none⟩) sl sc]).run P w = .ok (.int .i64 ((Nat.min sl dl : Nat) : Int)) w' ∧ Fill w w' b 0 cs := by
  obtain ⟨w', hr, hF⟩ := storeCells_fill (P := P) b 0 cs 0 w h1 (fun j hj => by simpa using hc j hj)
  rw [Nat.add_zero] at hF
  refine ⟨w', ?_, hF⟩
  have hl := run_loadCells_list (P := P) w ⟨sb, so, none⟩ cs (fun j v hj => by rw [add_mk]; exact hsrc j v hj)
  rw [hn] at hl
  simp [Builtin.copy_, run_underlying hE.ht, Builtin.lenOf, Builtin.firstCells, sizeOf, typeInfo, hE.hi, hE.hsize, hl, hr, goInt]
theorem make_room {P : Program} {t e : TypeId} {i : TypeInfo} {z : Value} {size bytes : Nat} (hE : Elem P t e i z size bytes) (w : World) (l n : Nat) (hl : l ≤ n) (hn : n ≤ 1000) (hb : bytes ≤ 1000) :
    (Instr.makeSlice t (.int .i64 (l : Int)) (.int .i64 (n : Int))).run P w = .ok (.slice (some ⟨w.heap.size, 0, none⟩) l n) (w.alloc (.cells (madeCells z.cells (n * size)) e (0, 0))) := by
  have hmul : bytes * n ≤ 1000 * 1000 := Nat.mul_le_mul hb hn
  have hr := run_make (P := P) w t e i z hE.ht hE.hi hE.hz .i64 .i64 (l : Int) (n : Int) (by omega) (by omega) (by
    rw [hE.hby]
    have : ((bytes * n : Nat) : Int) ≤ 1000000 := by omega
    rw [Int.natCast_mul] at this; omega) (by omega)
  rw [hr, Int.toNat_natCast, Int.toNat_natCast, hE.hsize]

theorem goS_inr (B : BD) : ∀ (k i : Nat) (S S' : SS), goS B k i S = .inr S' → S'.fs.length = 0
  | 0, i, S, S', h => by
    unfold goS at h
    split at h
    · cases h; assumption
    · cases h
  | k + 1, i, S, S', h => by
    rw [goS_succ] at h
    split at h
    · cases h
    · exact goS_inr B k (i + 1) _ S' h
/-- A body that is closed: all targets are known. -/
theorem RI.out {i : Nat} {S : SS} {p : PS} (R : RI i S p) (hS : S.fs.length = 0) : p.cells = z0 :: outC S := by
  have hfs : S.fs = [] := List.length_eq_zero_iff.1 hS
  apply List.ext_getElem?
  intro j
  cases j with
  | zero => rw [R.c0]; rfl
  | succ j =>
    show p.cells[j + 1]? = (outC S)[j]?
    unfold outC
    rw [List.getElem?_map]
    cases hj : S.A[j]? with
    | none =>
      have := List.getElem?_eq_none_iff.1 hj
      rw [List.getElem?_eq_none (by rw [R.len]; omega)]; rfl
    | some sc =>
      obtain ⟨x, x1, x2, x3, x4⟩ := R.cells j sc hj
      have hr := R.res j sc hj
      rw [x1]
      show some x = some _
      congr 1
      obtain ⟨xo, xx, xy⟩ := x
      have x2 : xo = sc.op := x2
      have x3 : xy = sc.y := x3
      rw [x2, x3]
      congr 1
      cases hs : sc.s using Sy.cs with
      | k v => rw [hs] at x4; exact x4
      | e o =>
        rw [hs] at x4 hr
        rcases hr with ⟨a, ha⟩ | ⟨f, hf, _⟩
        · have : xx = (a : Int) := x4 a ha
          rw [this]
          show (a : Int) = (((S.en o).getD 0 : Nat) : Int)
          rw [ha]; rfl
        · rw [hfs] at hf; cases hf
      | c o =>
        rw [hs] at x4 hr
        rcases hr with ⟨a, ha⟩ | ⟨f, hf, _⟩
        · have : xx = (a : Int) := x4 a ha
          rw [this]
          show (a : Int) = (((S.el o).getD 0 : Nat) : Int)
          rw [ha]; rfl
        · rw [hfs] at hf; cases hf

section
variable {wd w w' : World} {L mb : Nat} {m : Nat → Value} {P : PM} {pb cb : Nat} {cells : List Ins} {hg : Nat} {k : List CT} {h : Int} {dead : Nat} {i fb : Nat} {res : Nat}
theorem PA.cut1 (p : PA w pb cb cells hg k h dead) (h1 : cells.length ≤ hg) (h2 : 1 ≤ cells.length) : PA (w.setCell ⟨pb, 0, none⟩ (.slice (some ⟨cb, 0, none⟩) 1 121)) pb cb (cells.take 1) hg k h dead := by
  have A := p.at 0 (by decide) (.slice (some ⟨cb, 0, none⟩) 1 121)
  have hl : (cells.take 1).length = 1 := by rw [List.length_take]; omega
  refine ⟨by rw [A, if_pos rfl, hl], by rw [A, if_neg (by omega)]; exact p.hi, fun j hj => ?_, fun j => by rw [World.frozen?_setCell]; exact p.f j, fun j c hc r u hu => ?_, by rw [A, if_neg (by omega)]; exact p.d, by rw [A, if_neg (by omega)]; exact p.hh, by rw [A, if_neg (by omega)]; exact p.de, ?_, p.ne, p.kl⟩
  · rw [A]
    split
    · exact ⟨_, rfl⟩
    · exact p.cc j hj
  · rw [A, if_neg (by omega)]
    exact p.t j c hc r u hu
  · have := (p.sB 0 (.slice (some ⟨cb, 0, none⟩) 1 121)).cut 1
    rw [show max hg (cells.take 1).length = max hg cells.length by rw [hl]; omega]
    exact this
theorem ri_init (res : Nat) (hr : res ≤ 1024) : RI 0 (initS res) ⟨[z0], [⟨11, 0, res, 0, 0, 0, 0⟩], 0, 0⟩ := by
  have N : ∀ {α : Type} {j : Nat} {y : α}, ([] : List α)[j]? = some y → False := fun {α j y} e => by simp at e
  refine ⟨rfl, rfl, rfl, rfl, Nat.zero_le _, rfl, fun t f c hf hc => ?_, fun t u f g hf hg _ => ?_, fun t f hf => ?_, fun o _ => ⟨rfl, rfl⟩, fun j sc hj => (N hj).elim, fun j sc hj => (N hj).elim, fun j sc hj => (N hj).elim, fun _ f r e => by cases e; exact Nat.le_refl _, Nat.zero_le _, fun t f g hf hg => ?_⟩
  · cases t with
    | zero =>
      have hf : some _ = some f := hf
      have hc : some _ = some c := hc
      cases hf; cases hc
      exact ⟨rfl, rfl, rfl, (fun h => by cases h), Nat.zero_le _, hr, Nat.le_refl _, rfl, ⟨[], rfl, (fun m hm => by cases hm), fun j sc hj => (N hj).elim⟩, .inl rfl, fun j sc hj => (N hj).elim, .inr ⟨rfl, rfl⟩, (fun h => by cases h), (fun h => by cases h)⟩
    | succ t => exact (N (j := t) hf).elim
  · have a : t = 0 := by cases t with | zero => rfl | succ t => exact (N (j := t) hf).elim
    have b : u = 0 := by cases u with | zero => rfl | succ u => exact (N (j := u) hg).elim
    omega
  · cases t with
    | zero =>
      have hf : some _ = some f := hf
      cases hf; exact Nat.le_refl _
    | succ t => exact (N (j := t) hf).elim
  · exact (N (j := t) hg).elim

/-- The compiler at rest. -/
structure PZ (w : World) (pb cb : Nat) (cells : List Ins) (hg : Nat) (h : Int) (dead : Nat) : Prop where
  a : PA w pb cb cells hg [] h dead
  c0 : cells[0]? = some z0
  l : cells.length ≤ hg
  g : hg ≤ 121
def PZe (w : World) (pb cb : Nat) : Prop := ∃ cells hg h dead, PZ w pb cb cells hg h dead
theorem PZ.same (p : PZ w pb cb cells hg h dead) {S : List Nat} {B : Nat} (hs : Same S B w w') (hB : w.heap.size ≤ B) (h1 : pb ∉ S) (h2 : cb ∉ S) : PZ w' pb cb cells hg h dead := ⟨p.a.same hs hB h1 h2, p.c0, p.l, p.g⟩
theorem PZe.same (p : PZe w pb cb) {S : List Nat} {B : Nat} (hs : Same S B w w') (hB : w.heap.size ≤ B) (h1 : pb ∉ S) (h2 : cb ∉ S) : PZe w' pb cb := by
  obtain ⟨a, b, c, d, q⟩ := p
  exact ⟨a, b, c, d, q.same hs hB h1 h2⟩
theorem PZe.keep (p : PZe w pb cb) (hs : Same [] w.heap.size w w') : PZe w' pb cb := p.same hs (Nat.le_refl _) (by simp) (by simp)
theorem PZe.lt (p : PZe w pb cb) : pb < w.heap.size ∧ cb < w.heap.size ∧ pb ≠ cb := by
  obtain ⟨a, b, c, d, q⟩ := p
  exact ⟨q.a.lt, q.a.B.lt, q.a.ne⟩

theorem flat_spec (H : HM wd w L mb m P) (B : PB P) (p : PZ w pb cb cells hg h dead) (lp : pb ≤ L ∨ wd.heap.size ≤ pb) (lc : cb ≤ L ∨ wd.heap.size ≤ cb) (tlt : TLt wd L mb m P fb) (hi : i < P.nf) (row : ∀ w', HM wd w' L mb m P → FnRow w' (L + 1) fb P.nf P.nf P.fn) (hw : wsum (bdOf P (P.fn i)) (P.fn i).nI ≤ 120) (n0 : 1 ≤ (P.fn i).nI) (hr : res ≤ 1024) :
    Runs Try.prog prep_Prep_flat.id #[rp pb, rp mb, .pointer (some ⟨fb, i * 4, none⟩), .int .i64 (res : Int)] w (FQ w pb cb hg (P.fn i).nI (goS (bdOf P (P.fn i)) (P.fn i).nI 0 (initS res))) := by
  refine prep_Prep_flat.enter _ _ _ _ _ _ _ ?_
  unfold prep_Prep_flat.V
  simp only [nilV_some, Nat.zero_add]
  have pa := p.a
  have l1 := get_ltA p.c0
  refine ⟨_, _, _, pa.s, ⟨by omega, by omega, by omega, by omega⟩, pa.can 0 (by decide), letW_intro fun w1 hw1 => ⟨⟨by omega, by omega⟩, ?_⟩⟩
  rw [slAddr_lt (by decide)] at hw1
  have p1 : PA w1 pb cb (cells.take 1) hg [] h dead := by rw [hw1]; exact pa.cut1 p.l (by omega)
  have ht1 : cells.take 1 = [z0] := by
    cases hc : cells with
    | nil => have := p.c0; rw [hc] at this; cases this
    | cons a r =>
      have := p.c0
      rw [hc] at this
      have : some a = some z0 := this
      cases this
      rfl
  rw [ht1] at p1
  simp only [add_mk, Int.toNat_zero, Nat.zero_mul, Nat.add_zero]
  refine putCells_intro pb _ _ _ _ (fun j hj => p1.can _ (by simp only [List.length_cons, List.length_nil] at hj; omega)) (fun w2 hF => ?_)
  have c51 : can w2 ⟨pb, 51, none⟩ := ⟨⟨_, by rw [hF.cell, if_neg (by simp only [List.length_cons, List.length_nil]; omega)]; exact p1.d⟩, by rw [hF.frozen]; exact p1.f 51⟩
  refine ⟨c51, letW_intro fun w3 hw3 => ?_⟩
  have p3 : PA w3 pb cb [z0] hg [⟨11, 0, res, 0, 0, 0, 0⟩] h dead := by
    rw [hw3]
    exact p1.pushF (by decide) ⟨11, 0, res, 0, 0, 0, 0⟩ hF
  refine ⟨p3.can 52 (by decide), letW_intro fun w4 hw4 => ?_⟩
  have p4 : PA w4 pb cb [z0] hg [⟨11, 0, res, 0, 0, 0, 0⟩] 0 dead := by rw [hw4]; exact p3.setH 0
  refine ⟨p4.can 53 (by decide), letW_intro fun w5 hw5 => ?_⟩
  have p5 : PA w5 pb cb [z0] hg [⟨11, 0, res, 0, 0, 0, 0⟩] 0 0 := by rw [hw5]; exact p4.setD 0
  have S5 : Same [pb, cb] w.heap.size w w5 := by
    rw [hw5, hw4, hw3]
    refine Same.setCell (Same.setCell (Same.setCell ?_ (.inr (by simp)) _) (.inr (by simp)) _) (.inr (by simp)) _
    refine Same.trans (b := w1) ?_ ((hF.same _).mono (Nat.le_refl _) (by simp))
    rw [hw1]
    exact (Same.refl _ _ _).setCell (.inr (by simp)) _
  exact flat_loop B lp lc tlt hi row hw (P.fn i).nI 0 (initS res) ⟨[z0], [⟨11, 0, res, 0, 0, 0, 0⟩], 0, 0⟩ w5 (by omega) ⟨H.at2 S5 lp lc, p5, ri_init res hr, Nat.zero_le _, S5⟩ (fun g => by cases g) rfl

theorem PNew_spec (w : World) : Runs Try.prog prep_New.id #[] w fun v w' => ∃ pb cb, v = rp pb ∧ PZe w' pb cb ∧ Same [] w.heap.size w w' ∧ w.heap.size ≤ pb ∧ w.heap.size ≤ cb := by
  refine prep_New.enter _ _ _ ?_
  unfold prep_New.V
  refine letB_intro fun b1 hb => letW_intro fun w2 hw => ?_
  have hm := make_room T_sl_api_Ins.el w2 1 121 (by decide) (by decide) (by decide)
  refine ⟨_, _, _, _, hm, ?_⟩
  have s2 : w2.heap.size = w.heap.size + 1 := by rw [hw]; simp
  generalize hw3 : w2.alloc (.cells (madeCells (Value.agg #[(.int .u8 0), (.int .u32 0), (.int .u64 0)]).cells (121 * 3)) T_api_Ins (0, 0)) = w3
  have hq : w3.heap[w2.heap.size]? = some (.cells (madeCells (Value.agg #[(.int .u8 0), (.int .u32 0), (.int .u64 0)]).cells (121 * 3)) T_api_Ins (0, 0)) := by
    rw [← hw3]
    show (w2.heap.push _)[w2.heap.size]? = _
    exact Array.getElem?_push_size
  have S23 : Same [] w2.heap.size w2 w3 := by rw [← hw3]; exact (Same.refl _ _ _).alloc (Nat.le_refl _) _
  have S02 : Same [] w.heap.size w w2 := by rw [hw]; exact (Same.refl _ _ _).alloc (Nat.le_refl _) _
  have e3 : ∀ j, w3.cell? ⟨b1, j, none⟩ = w2.cell? ⟨b1, j, none⟩ := fun j => S23.cell (p := ⟨b1, j, none⟩) (by show b1 < _; omega) (by simp)
  have f3 : ∀ j, w3.frozen? ⟨b1, j, none⟩ = false := fun j => by rw [S23.frozen (p := ⟨b1, j, none⟩) (by show b1 < _; omega) (by simp), hw, hb, World.frozen?_alloc_new]
  have c2 : ∀ j, w2.cell? ⟨b1, j, none⟩ = (#[(.slice none 0 0), (.int .i64 0), (.int .u8 0), (.int .i64 0), (.int .i64 0), (.int .i64 0), (.int .i64 0), (.int .i64 0), (.int .i64 0), (.int .u8 0), (.int .i64 0), (.int .i64 0), (.int .i64 0), (.int .i64 0), (.int .i64 0), (.int .i64 0), (.int .u8 0), (.int .i64 0), (.int .i64 0), (.int .i64 0), (.int .i64 0), (.int .i64 0), (.int .i64 0), (.int .u8 0), (.int .i64 0), (.int .i64 0), (.int .i64 0), (.int .i64 0), (.int .i64 0), (.int .i64 0), (.int .u8 0), (.int .i64 0), (.int .i64 0), (.int .i64 0), (.int .i64 0), (.int .i64 0), (.int .i64 0), (.int .u8 0), (.int .i64 0), (.int .i64 0), (.int .i64 0), (.int .i64 0), (.int .i64 0), (.int .i64 0), (.int .u8 0), (.int .i64 0), (.int .i64 0), (.int .i64 0), (.int .i64 0), (.int .i64 0), (.int .i64 0), (.int .i64 0), (.int .i64 0), (.int .i64 0)] : Array Value)[j]? := fun j => by rw [hw, hb, World.cell?_alloc_new]
  have cc2 : ∀ j, j < 54 → ∃ v, w2.cell? ⟨b1, j, none⟩ = some v := fun j hj => ⟨_, (c2 j).trans (Array.getElem?_eq_getElem hj)⟩
  refine ⟨⟨⟨_, (e3 0).trans (c2 0)⟩, f3 0⟩, letW_intro fun w4 hw4 => ?_⟩
  have A4 : ∀ j, w4.cell? ⟨b1, j, none⟩ = if j = 0 then some (.slice (some ⟨w2.heap.size, 0, none⟩) 1 121) else w2.cell? ⟨b1, j, none⟩ := fun j => by
    rw [hw4, cell_setCell]
    by_cases g : j = 0
    · subst g
      rw [if_pos ⟨rfl, rfl⟩, if_pos rfl, e3, c2]; rfl
    · rw [if_neg (by omega), if_neg g, e3]
  refine ⟨⟨⟨_, (A4 1).trans (by rw [if_neg (by decide)]; exact c2 1)⟩, by rw [hw4, World.frozen?_setCell]; exact f3 1⟩, letW_intro fun w5 hw5 => ?_⟩
  have A5 : ∀ j, w5.cell? ⟨b1, j, none⟩ = if j = 1 then some (.int .i64 1) else if j = 0 then some (.slice (some ⟨w2.heap.size, 0, none⟩) 1 121) else w2.cell? ⟨b1, j, none⟩ := fun j => by
    rw [hw5, cell_setCell]
    by_cases g : j = 1
    · subst g
      rw [if_pos ⟨rfl, rfl⟩, if_pos rfl, A4, if_neg (by decide), c2]; rfl
    · rw [if_neg (by omega), if_neg g, A4]
  have S35 : Same [b1] w3.heap.size w3 w5 := by
    rw [hw5, hw4]
    exact ((Same.refl _ _ _).setCell (.inr (by simp)) _).setCell (.inr (by simp)) _
  have hq5 : w5.heap[w2.heap.size]? = some (.cells (madeCells (Value.agg #[(.int .u8 0), (.int .u32 0), (.int .u64 0)]).cells (121 * 3)) T_api_Ins (0, 0)) := by
    rw [S35.block w2.heap.size (by have := (Array.getElem?_eq_some_iff.1 hq).1; exact this) (by simp; omega)]; exact hq
  have mc : ∀ j r, j < 121 → r < 3 → (madeCells (Value.agg #[(.int .u8 0), (.int .u32 0), (.int .u64 0)]).cells (121 * 3))[j * 3 + r]? = some (inC z0 r) := fun j r hj hr => by
    rw [Array.getElem?_eq_getElem (by rw [size_madeCells]; omega)]
    have : r = 0 ∨ r = 1 ∨ r = 2 := by omega
    have e3 : (Value.agg #[(.int .u8 0), (.int .u32 0), (.int .u64 0)]).cells.size = 3 := by rfl
    rcases this with rfl | rfl | rfl
    · simp only [madeCells, Array.getElem_map, Array.getElem_range, e3, show (j * 3 + 0) % 3 = 0 by omega]; rfl
    · simp only [madeCells, Array.getElem_map, Array.getElem_range, e3, show (j * 3 + 1) % 3 = 1 by omega]; rfl
    · simp only [madeCells, Array.getElem_map, Array.getElem_range, e3, show (j * 3 + 2) % 3 = 2 by omega]; rfl
  refine ⟨b1, w2.heap.size, rfl, ⟨[z0], 1, 0, 0, ⟨⟨by rw [A5, if_neg (by decide), if_pos rfl]; rfl, by rw [A5, if_pos rfl]; rfl, fun j hj => ?_, fun j => by rw [hw5, World.frozen?_setCell, hw4, World.frozen?_setCell]; exact f3 j, fun j c hc => by simp at hc, by rw [A5, if_neg (by decide), if_neg (by decide)]; exact c2 51, by rw [A5, if_neg (by decide), if_neg (by decide)]; exact c2 52, by rw [A5, if_neg (by decide), if_neg (by decide)]; exact c2 53, ⟨⟨_, hq5, size_madeCells _ _, fun j i hj r hr => ?_, fun j hj hl r hr => mc j r hl hr⟩, by decide, by decide⟩, by omega, by decide⟩, rfl, by decide, by decide⟩⟩, ?_, by omega, by omega⟩
  · rw [A5]
    split
    · exact ⟨_, rfl⟩
    · split
      · exact ⟨_, rfl⟩
      · exact cc2 j hj
  · have : j < 1 := get_ltA hj
    have e : j = 0 := by omega
    subst e
    have hj : some z0 = some i := hj
    cases hj
    exact mc 0 r (by decide) hr
  · exact (S02.trans (S23.mono (by omega) (by simp))).trans (S35.mono (by have := S23.size; omega) (fun k hk hl => by simp at hk; omega))
end
end Go.Proofs.Qxb6500321a
