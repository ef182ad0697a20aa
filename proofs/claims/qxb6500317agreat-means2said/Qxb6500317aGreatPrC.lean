/-
  The compiler in memory: else, end, branches.
-/
import Derived.Test.Qxb6500317aGreatPrB
set_option linter.unusedSimpArgs false
set_option linter.unusedVariables false
set_option maxRecDepth 100000
set_option linter.unusedSectionVars false
namespace Go.Proofs.Qxb6500317aGreat
open Go Go.Vc

/-! ### Packing -/
theorem ofInt_toNatP (n : Nat) (k : Nat) (h : n < 2 ^ k) : (BitVec.ofInt k (n : Int)).toNat = n := by
  rw [BitVec.ofInt_natCast, BitVec.toNat_ofNat, Nat.mod_eq_of_lt h]
theorem wrap_natP (k : IntKind) (hk : k.signed = false) (n : Nat) (h : n < 2 ^ k.bits) : k.wrap (n : Int) = (n : Int) := by
  unfold IntKind.wrap
  simp only [hk]
  have : ((n : Int) % 2 ^ k.bits) = (n : Int) := Int.emod_eq_of_lt (by omega) (by exact_mod_cast h)
  simp [this]
theorem bOr_natP (k : IntKind) (hk : k.signed = false) (a b : Nat) (ha : a < 2 ^ k.bits) (hb : b < 2 ^ k.bits) : bOr k (a : Int) (b : Int) = ((a ||| b : Nat) : Int) := by
  unfold bOr
  rw [BitVec.toNat_or, ofInt_toNatP a _ ha, ofInt_toNatP b _ hb]
  exact wrap_natP k hk _ (Nat.or_lt_two_pow ha hb)
theorem pack_eq (a b : Nat) (ha : a ≤ 1024) (hb : b ≤ 1024) : api_Pack.F (a : Int) (b : Int) = (a : Int) * 4294967296 + b := by
  unfold api_Pack.F
  rw [wrap_u64 (x := (a : Int)) (by omega) (by omega), wrap_u64 (x := (b : Int)) (by omega) (by omega)]
  have e : (a : Int) * 2 ^ (32 : Nat) = ((a * 2 ^ 32 : Nat) : Int) := by
    rw [Int.natCast_mul]; rfl
  rw [e, wrap_u64 (by omega) (by omega), bOr_natP .u64 rfl (a * 2 ^ 32) b (by simp [IntKind.bits]; omega) (by simp [IntKind.bits]; omega)]
  have := Nat.shiftLeft_add_eq_or_of_lt (show b < 2 ^ 32 by omega) a
  rw [Nat.shiftLeft_eq] at this
  rw [← this]
  omega

theorem shutC_lenA (ms : List Nat) (c : CT) (cells : List Ins) : (shutC ms c cells).length = cells.length := by
  unfold shutC
  dsimp only
  split <;> split <;> simp only [setX_len, setXs_len]
section
variable {w w' : World} {pb cb : Nat} {cells : List Ins} {hg : Nat} {k : List CT} {h : Int} {dead : Nat} {c : CT} {r : List CT}
theorem PA.setTop (p : PA w pb cb cells hg (c :: r) h dead) {c' : CT} (q : Nat) (hq : q < 7) (v : Value) (hv : ∀ j u, (ctC c')[j]? = some u → if j = q then u = v else (ctC c)[j]? = some u) : PA (w.setCell ⟨pb, 2 + r.length * 7 + q, none⟩ v) pb cb cells hg (c' :: r) h dead := by
  have := p.setF (rev_top c r) q hq v hv
  rwa [show (c :: r).length - 1 - r.length = 0 by simp] at this
theorem PA.topCan (p : PA w pb cb cells hg (c :: r) h dead) {q : Nat} (hq : q < 7) : Go.Vc.can w ⟨pb, 2 + r.length * 7 + q, none⟩ := by
  have := p.kl
  rw [List.length_cons] at this
  exact p.can _ (by omega)
/-- A copy of a frame. -/
structure CtAt (w : World) (fb : Nat) (c : CT) : Prop where
  c0 : w.cell? ⟨fb, 0, none⟩ = some (.int .u8 c.op)
  c1 : w.cell? ⟨fb, 1, none⟩ = some (.int .i64 (c.fl : Int))
  c2 : w.cell? ⟨fb, 2, none⟩ = some (.int .i64 (c.ar : Int))
  c3 : w.cell? ⟨fb, 3, none⟩ = some (.int .i64 (c.st : Int))
  c4 : w.cell? ⟨fb, 4, none⟩ = some (.int .i64 (c.pt : Int))
  c5 : w.cell? ⟨fb, 5, none⟩ = some (.int .i64 (c.cn : Int))
  c6 : w.cell? ⟨fb, 6, none⟩ = some (.int .i64 (c.jm : Int))
theorem CtAt.lt {fb : Nat} (a : CtAt w fb c) : fb < w.heap.size := cell_lt a.c0
theorem CtAt.same {fb : Nat} (a : CtAt w fb c) {S : List Nat} {B : Nat} (hs : Same S B w w') (hb : fb < B) (hS : fb ∉ S) : CtAt w' fb c := by
  have e : ∀ j, w'.cell? ⟨fb, j, none⟩ = w.cell? ⟨fb, j, none⟩ := fun j => hs.cell (p := ⟨fb, j, none⟩) hb hS
  exact ⟨by rw [e]; exact a.c0, by rw [e]; exact a.c1, by rw [e]; exact a.c2, by rw [e]; exact a.c3, by rw [e]; exact a.c4, by rw [e]; exact a.c5, by rw [e]; exact a.c6⟩
theorem CtAt.drew {fb : Nat} (a : CtAt w fb c) : CtAt w.drew fb c := ⟨a.c0, a.c1, a.c2, a.c3, a.c4, a.c5, a.c6⟩
/-- A frame copied into a new block. -/
theorem ct_copy {w1 : World} {b : Nat} (hb : b = w.heap.size) (hw : w1 = w.alloc (.cells #[.int .u8 0, .int .i64 0, .int .i64 0, .int .i64 0, .int .i64 0, .int .i64 0, .int .i64 0] T_prep_ctl)) {K : World → Prop}
    (hK : ∀ w2, CtAt w2 b c → Same [] w.heap.size w w2 → K w2) : putCells w1 ⟨b, 0, none⟩ [.int .u8 c.op, .int .i64 (c.fl : Int), .int .i64 (c.ar : Int), .int .i64 (c.st : Int), .int .i64 (c.pt : Int), .int .i64 (c.cn : Int), .int .i64 (c.jm : Int)] K := by
  refine putCells_intro b _ 0 w1 _ (fun j hj => ?_) (fun w2 hF => hK w2 ?_ ?_)
  · rw [Nat.zero_add]
    have hj : j < 7 := by simpa using hj
    have hc : w1.cell? ⟨b, j, none⟩ = some (#[.int .u8 0, .int .i64 0, .int .i64 0, .int .i64 0, .int .i64 0, .int .i64 0, .int .i64 0][j]'hj) := by
      rw [hw, hb, World.cell?_alloc_new]
      exact Array.getElem?_eq_getElem hj
    exact ⟨⟨_, hc⟩, by rw [hw, hb, World.frozen?_alloc_new]⟩
  · have e : ∀ j, j < 7 → w2.cell? ⟨b, j, none⟩ = (ctC c)[j]? := fun j hj => by
      rw [hF.cell, if_pos (by simp; exact hj)]; rfl
    exact ⟨e 0 (by decide), e 1 (by decide), e 2 (by decide), e 3 (by decide), e 4 (by decide), e 5 (by decide), e 6 (by decide)⟩
  · have S1 : Same [] w.heap.size w w1 := by rw [hw]; exact (Same.refl _ _ _).alloc (Nat.le_refl _) _
    exact S1.trans ((hF.same _).mono (Nat.le_refl _) (fun k hk hl => by simp at hk; omega))

theorem turn_spec (p : PA w pb cb cells hg (c :: r) h dead) (hl : cells.length < 121) (hcn : c.cn < cells.length) (hf : c.fl ≤ 1000) (ha : c.ar ≤ 2000) :
    Runs Tryz.prog prep_Prep_turn.id #[rp pb] w (PQ w pb cb hg (.bool (turnP ⟨cells, c :: r, h, dead⟩).1) (turnP ⟨cells, c :: r, h, dead⟩).2) := by
  have kl := p.kl
  rw [List.length_cons] at kl
  generalize hz : turnP ⟨cells, c :: r, h, dead⟩ = z
  unfold turnP at hz
  dsimp only at hz
  have ew : IntKind.wrap .i64 (((c :: r).length : Int) - 1) = (r.length : Int) := by rw [List.length_cons, wrap_i64 (by omega) (by omega)]; omega
  have L2 : ∀ (w1 : World) (cs : List Ins) (jm : Nat), PA w1 pb cb cs hg ({ c with jm := jm } :: r) h dead → c.cn < cs.length → c.cn ≠ 0 → Same [pb, cb] w.heap.size w w1 → z = (true, { cells := setX cs c.cn ((cs.length - 1 : Nat) : Int), k := { c with cn := 0, jm := jm } :: r, h := c.fl, dead := 0 }) →
      prep_Prep_turn.L2 (some ⟨pb, 0, none⟩) (r.length : Int) (c.cn : Int) (PQ w pb cb hg (.bool z.1) z.2) (fun _ _ => False) w1 := fun w1 cs jm p1 hc1 hc0 S1 ez => by
    have hl1 := p1.B.le
    refine prep_Prep_turn.step2 _ _ _ _ _ _ ?_
    unfold prep_Prep_turn.V2
    simp only [true_and, nilV_some, Nat.zero_add]
    have p2 := p1.drew
    refine ⟨_, _, _, p2.s, _, _, _, p2.s, ⟨by omega, by omega⟩, ?_⟩
    rw [nilV_some]
    simp only [add_mk, Nat.zero_add, Int.toNat_natCast]
    have ec : ∃ i, cs[c.cn]? = some i := ⟨_, List.getElem?_eq_getElem hc1⟩
    obtain ⟨i, hi⟩ := ec
    refine ⟨⟨⟨_, p2.B.c1 hi⟩, p2.B.fz _⟩, letW_intro fun w3 hw3 => ⟨⟨by omega, by omega⟩, ?_⟩⟩
    have ev : IntKind.wrap .u32 (IntKind.wrap .i64 ((cs.length : Int) - 1)) = ((cs.length - 1 : Nat) : Int) := by
      rw [wrap_i64 (by omega) (by omega), wrap_u32 (by omega) (by omega)]; omega
    rw [ev] at hw3
    have p3 : PA w3 pb cb (setX cs c.cn ((cs.length - 1 : Nat) : Int)) hg ({ c with jm := jm } :: r) h dead := by rw [hw3]; exact p2.setX hc1 _
    refine ⟨p3.topCan (by decide), letW_intro fun w4 hw4 => ⟨⟨by omega, by omega⟩, ?_⟩⟩
    have p4 : PA w4 pb cb (setX cs c.cn ((cs.length - 1 : Nat) : Int)) hg ({ c with cn := 0, jm := jm } :: r) h dead := by
      rw [hw4]
      refine p3.setTop 5 (by decide) _ (fun j u hu => ?_)
      rcases j with _ | _ | _ | _ | _ | _ | _ | j <;> simp_all [ctC]
    refine ⟨_, p4.top 1 _ rfl, p4.can 52 (by decide), letW_intro fun w5 hw5 => ?_⟩
    have p5 : PA w5 pb cb (setX cs c.cn ((cs.length - 1 : Nat) : Int)) hg ({ c with cn := 0, jm := jm } :: r) (c.fl : Int) dead := by rw [hw5]; exact p4.setH _
    refine ⟨p5.can 53 (by decide), letW_intro fun w6 hw6 => ?_⟩
    rw [ez]
    refine ⟨rfl, by rw [hw6]; exact p5.setD 0, ?_⟩
    rw [hw6, hw5, hw4, hw3]
    refine S1.nx ?_
    exact (((((Same.refl _ _ _).drew.setCell (.inr (by simp)) _).setCell (.inr (by simp)) _).setCell (.inr (by simp)) _).setCell (.inr (by simp)) _)
  have L1 : ∀ (w1 : World), PA w1 pb cb cells hg (c :: r) h dead → Same [pb, cb] w.heap.size w w1 → ¬ (dead = 0 ∧ h ≠ ((c.fl + c.ar : Nat) : Int)) →
      prep_Prep_turn.L1 (some ⟨pb, 0, none⟩) (r.length : Int) (PQ w pb cb hg (.bool z.1) z.2) (fun _ _ => False) w1 := fun w1 p1 S1 hn => by
    rw [if_neg hn] at hz
    refine prep_Prep_turn.step1 _ _ _ _ _ ?_
    unfold prep_Prep_turn.V1
    simp only [true_and, nilV_some, Nat.zero_add, add_mk, Int.toNat_natCast]
    refine ⟨⟨by omega, by omega⟩, _, p1.top 5 _ rfl, cond_intro (fun e => ?_) (fun e => ?_)⟩
    · have e : c.cn = 0 := by have := eq_of_beq e; omega
      rw [if_pos e] at hz
      rw [← hz]
      exact ⟨rfl, p1, S1⟩
    have e : ¬ c.cn = 0 := by intro g; rw [g] at e; cases e
    rw [if_neg e] at hz
    refine ⟨_, p1.de, cond_intro (fun d => ?_) (fun d => ?_)⟩
    · have d : dead = 0 := by have := eq_of_beq d; omega
      unfold turnC at hz
      dsimp only at hz
      rw [if_pos d, if_pos d] at hz
      have p2 := p1.drew
      refine ⟨_, _, _, p2.s, ⟨by omega, by omega⟩, p2.topCan (by decide), letW_intro fun w3 hw3 => ?_⟩
      have p3 : PA w3 pb cb cells hg ({ c with jm := cells.length } :: r) h dead := by
        rw [hw3]
        refine p2.setTop 6 (by decide) _ (fun j u hu => ?_)
        rcases j with _ | _ | _ | _ | _ | _ | _ | j <;> simp_all [ctC]
      refine ⟨_, _, _, p3.s, letB_intro fun b hb => letW_intro fun w4 hw4 => ?_⟩
      refine emit_in p3 hl ⟨224, 0, 0⟩ hb hw4 (fun w5 p5 S5 => ?_)
      refine L2 w5 _ _ p5 (by simp; omega) e (S1.nx (Same.nx (b := w3) ?_ S5)) hz.symm
      rw [hw3]
      exact (Same.refl _ _ _).drew.setCell (.inr (by simp)) _
    · have d : ¬ dead = 0 := by rintro rfl; cases d
      unfold turnC at hz
      dsimp only at hz
      rw [if_neg d, if_neg d] at hz
      exact L2 w1 cells c.jm p1 hcn e S1 hz.symm
  refine prep_Prep_turn.enter _ _ _ _ ?_
  unfold prep_Prep_turn.V
  simp only [true_and, nilV_some, Nat.zero_add]
  have p1 := p.drew
  have S1 : Same [pb, cb] w.heap.size w w.drew := S2 pb cb (Same.refl _ _ w).drew
  refine ⟨_, p.d, _, p1.de, ?_⟩
  rw [ew]
  refine cond_intro (fun d => ?_) (fun d => ?_)
  · have d : dead = 0 := by have := eq_of_beq d; omega
    simp only [add_mk, Int.toNat_natCast]
    refine ⟨_, p1.hh, ⟨by omega, by omega⟩, _, p1.top 1 _ rfl, ⟨by omega, by omega⟩, _, p1.top 2 _ rfl, ?_⟩
    rw [wrap_i64 (by omega) (by omega)]
    refine cond_intro (fun e => ?_) (fun e => ?_)
    · have e : ¬ h = (c.fl : Int) + (c.ar : Int) := by simpa using e
      rw [if_pos ⟨d, by omega⟩] at hz
      rw [← hz]
      exact ⟨rfl, p1, S1⟩
    · have e : h = (c.fl : Int) + (c.ar : Int) := by simpa using e
      exact L1 _ p1 S1 (by omega)
  · have d : ¬ dead = 0 := by rintro rfl; cases d
    exact L1 _ p1 S1 (by omega)

theorem shut_spec (p : PA w pb cb cells hg (c :: r) h dead) (hl : cells.length < 121) (c0 : cells[0]? = some z0) (hcn : c.cn < cells.length) (hjm : c.jm < cells.length) (hf : c.fl ≤ 1000) (ha : c.ar ≤ 2000) {ms : List Nat} (hC : Chn cells c.pt ms) :
    Runs Tryz.prog prep_Prep_shut.id #[rp pb] w (PQ w pb cb hg (.bool (shutP ms ⟨cells, c :: r, h, dead⟩).1) (shutP ms ⟨cells, c :: r, h, dead⟩).2) := by
  have kl := p.kl
  rw [List.length_cons] at kl
  have l0 := get_ltA c0
  generalize hz : shutP ms ⟨cells, c :: r, h, dead⟩ = z
  unfold shutP at hz
  dsimp only at hz
  have ew : IntKind.wrap .i64 (((c :: r).length : Int) - 1) = (r.length : Int) := by rw [List.length_cons, wrap_i64 (by omega) (by omega)]; omega
  have ev : IntKind.wrap .u32 (IntKind.wrap .i64 ((cells.length : Int) - 1)) = ((cells.length - 1 : Nat) : Int) := by
    rw [wrap_i64 (by omega) (by omega), wrap_u32 (by omega) (by omega)]; omega
  have lpb := p.lt; have lcb := p.B.lt
  -- the heights set, the block closed
  have L3 : ∀ (w1 : World) (fb : Nat), PA w1 pb cb (shutC ms c cells) hg (c :: r) h dead → CtAt w1 fb c → Same [pb, cb] w.heap.size w w1 → z = (true, { cells := if r.length = 0 then shutC ms c cells ++ [⟨11, 0, 0⟩] else shutC ms c cells, k := r, h := ((c.fl + c.ar : Nat) : Int), dead := 0 }) → w.heap.size ≤ fb →
      prep_Prep_shut.L3 (some ⟨pb, 0, none⟩) (r.length : Int) fb (PQ w pb cb hg (.bool z.1) z.2) (fun _ _ => False) w1 := fun w1 fb p1 F1 S1 ez hfb => by
    refine prep_Prep_shut.step3 _ _ _ _ _ _ ?_
    unfold prep_Prep_shut.V3
    simp only [nilV_some, Nat.zero_add]
    refine ⟨_, F1.c1, _, F1.c2, p1.can 52 (by decide), letW_intro fun w2 hw2 => ?_⟩
    have e2 : IntKind.wrap .i64 ((c.fl : Int) + (c.ar : Int)) = ((c.fl + c.ar : Nat) : Int) := by rw [wrap_i64 (by omega) (by omega)]; omega
    rw [e2] at hw2
    have p2 : PA w2 pb cb (shutC ms c cells) hg (c :: r) ((c.fl + c.ar : Nat) : Int) dead := by rw [hw2]; exact p1.setH _
    refine ⟨p2.can 53 (by decide), letW_intro fun w3 hw3 => ?_⟩
    have p3 : PA w3 pb cb (shutC ms c cells) hg (c :: r) ((c.fl + c.ar : Nat) : Int) 0 := by rw [hw3]; exact p2.setD 0
    refine ⟨p3.can 51 (by decide), letW_intro fun w4 hw4 => ?_⟩
    have p4 : PA w4 pb cb (shutC ms c cells) hg r ((c.fl + c.ar : Nat) : Int) 0 := by
      have := p3.cutK r.length (by simp)
      rw [show (c :: r).length - r.length = 1 by simp] at this
      rw [hw4]
      exact this
    have S4 : Same [pb, cb] w.heap.size w w4 := by
      refine S1.nx ?_
      rw [hw4, hw3, hw2]
      exact (((Same.refl _ _ _).setCell (.inr (by simp)) _).setCell (.inr (by simp)) _).setCell (.inr (by simp)) _
    refine cond_intro (fun e => ?_) (fun e => ?_)
    · have e : r.length = 0 := by have := eq_of_beq e; omega
      rw [if_pos e] at ez
      refine ⟨_, _, _, p4.s, letB_intro fun b hb => letW_intro fun w5 hw5 => ?_⟩
      refine emit_in p4 (by rw [shutC_lenA]; exact hl) ⟨11, 0, 0⟩ hb hw5 (fun w6 p6 S6 => ?_)
      rw [ez]
      exact ⟨rfl, p6, S4.nx S6⟩
    · have e : ¬ r.length = 0 := by intro g; rw [g] at e; cases e
      rw [if_neg e] at ez
      rw [ez]
      exact ⟨rfl, p4, S4⟩
  have L2 : ∀ (w1 : World) (fb : Nat) (cs : List Ins), PA w1 pb cb cs hg (c :: r) h dead → cs.length = cells.length → (if c.jm = 0 then cs else setX cs c.jm ((cells.length - 1 : Nat) : Int)) = shutC ms c cells → CtAt w1 fb c → Same [pb, cb] w.heap.size w w1 → z = (true, { cells := if r.length = 0 then shutC ms c cells ++ [⟨11, 0, 0⟩] else shutC ms c cells, k := r, h := ((c.fl + c.ar : Nat) : Int), dead := 0 }) → w.heap.size ≤ fb →
      prep_Prep_shut.L2 (some ⟨pb, 0, none⟩) (r.length : Int) fb ((cells.length - 1 : Nat) : Int) (PQ w pb cb hg (.bool z.1) z.2) (fun _ _ => False) w1 := fun w1 fb cs p1 hcs hS F1 S1 ez hfb => by
    refine prep_Prep_shut.step2 _ _ _ _ _ _ _ ?_
    unfold prep_Prep_shut.V2
    simp only [true_and, nilV_some, Nat.zero_add]
    refine ⟨_, F1.c6, cond_intro (fun e => ?_) (fun e => ?_)⟩
    · have e : ¬ c.jm = 0 := by intro g; rw [g] at e; cases e
      rw [if_neg e] at hS
      have p2 := p1.drew
      refine ⟨_, _, _, p2.s, _, F1.drew.c6, ⟨by omega, by omega⟩, ?_⟩
      rw [nilV_some]
      simp only [add_mk, Nat.zero_add, Int.toNat_natCast]
      obtain ⟨i, hi⟩ : ∃ i, cs[c.jm]? = some i := ⟨_, List.getElem?_eq_getElem (by omega)⟩
      refine ⟨⟨⟨_, p2.B.c1 hi⟩, p2.B.fz _⟩, letW_intro fun w3 hw3 => ?_⟩
      have p3 : PA w3 pb cb (shutC ms c cells) hg (c :: r) h dead := by rw [hw3, ← hS]; exact p2.setX (by omega) _
      have S3 : Same [pb, cb] w1.heap.size w1 w3 := by rw [hw3]; exact (Same.refl _ _ _).drew.setCell (.inr (by simp)) _
      have lf := F1.lt
      exact L3 w3 fb p3 (F1.same S3 lf (by simp; omega)) (S1.nx S3) ez hfb
    · have e : c.jm = 0 := by
        have e : ((c.jm : Int) != 0) = false := e
        have : (c.jm : Int) = 0 := by simpa using e
        omega
      rw [if_pos e] at hS
      exact L3 w1 fb (by rw [← hS]; exact p1) F1 S1 ez hfb
  have L1 : ∀ (w1 : World) (fb : Nat), PA w1 pb cb cells hg (c :: r) h dead → CtAt w1 fb c → Same [pb, cb] w.heap.size w w1 → ¬ (dead = 0 ∧ h ≠ ((c.fl + c.ar : Nat) : Int)) → w.heap.size ≤ fb →
      prep_Prep_shut.L1 (some ⟨pb, 0, none⟩) (r.length : Int) fb (PQ w pb cb hg (.bool z.1) z.2) (fun _ _ => False) w1 := fun w1 fb p1 F1 S1 hn hfb => by
    rw [if_neg hn] at hz
    refine prep_Prep_shut.step1 _ _ _ _ _ _ ?_
    unfold prep_Prep_shut.V1
    simp only [true_and, nilV_some, Nat.zero_add]
    refine ⟨_, F1.c1, _, F1.c2, ?_⟩
    rw [wrap_i64 (x := (c.fl : Int) + (c.ar : Int)) (by omega) (by omega)]
    refine cond_intro (fun e => ?_) (fun e => ?_)
    · have e : (c.fl : Int) + (c.ar : Int) > 10 := of_decide_eq_true e
      rw [if_pos (by omega)] at hz
      rw [← hz]
      exact ⟨rfl, p1, S1⟩
    have e : ¬ (c.fl : Int) + (c.ar : Int) > 10 := of_decide_eq_false e
    rw [if_neg (by omega)] at hz
    refine ⟨_, _, _, p1.s, _, F1.c4, ?_⟩
    rw [ev]
    refine RunsQ.post (patch_spec _ ms c.pt w1 cells p1 c0 hC) ?_
    rintro v w2 ⟨rfl, p2, S12⟩
    have lf := F1.lt
    have F2 := F1.same S12 lf (by simp; omega)
    have S2' := S1.nx S12
    refine ⟨rfl, _, F2.c5, cond_intro (fun g => ?_) (fun g => ?_)⟩
    · have g : ¬ c.cn = 0 := by intro g'; rw [g'] at g; cases g
      have p3 := p2.drew
      refine ⟨_, _, _, p3.s, _, F2.drew.c5, ⟨by omega, by rw [setXs_len]; omega⟩, ?_⟩
      rw [nilV_some]
      simp only [add_mk, Nat.zero_add, Int.toNat_natCast]
      obtain ⟨i, hi⟩ : ∃ i, (setXs cells ms ((cells.length - 1 : Nat) : Int))[c.cn]? = some i := ⟨_, List.getElem?_eq_getElem (by rw [setXs_len]; omega)⟩
      refine ⟨⟨⟨_, p3.B.c1 hi⟩, p3.B.fz _⟩, letW_intro fun w4 hw4 => ?_⟩
      have p4 : PA w4 pb cb (setX (setXs cells ms ((cells.length - 1 : Nat) : Int)) c.cn ((cells.length - 1 : Nat) : Int)) hg (c :: r) h dead := by rw [hw4]; exact p3.setX (by rw [setXs_len]; omega) _
      have S4 : Same [pb, cb] w2.heap.size w2 w4 := by rw [hw4]; exact (Same.refl _ _ _).drew.setCell (.inr (by simp)) _
      exact L2 w4 fb _ p4 (by rw [setX_len, setXs_len]) (by unfold shutC; dsimp only; rw [if_neg g]) (F2.same S4 F2.lt (by simp; omega)) (S2'.nx S4) hz.symm hfb
    · have g : c.cn = 0 := by
        have g : ((c.cn : Int) != 0) = false := g
        have : (c.cn : Int) = 0 := by simpa using g
        omega
      exact L2 w2 fb _ p2 (by rw [setXs_len]) (by unfold shutC; dsimp only; rw [if_pos g]) F2 S2' hz.symm hfb
  refine prep_Prep_shut.enter _ _ _ _ ?_
  unfold prep_Prep_shut.V
  simp only [true_and, nilV_some, Nat.zero_add]
  refine ⟨_, p.d, ?_⟩
  rw [ew]
  simp only [add_mk, Int.toNat_natCast]
  refine ⟨⟨by omega, by omega⟩, _, _, _, _, _, _, _, p.top 0 _ rfl, p.top 1 _ rfl, p.top 2 _ rfl, p.top 3 _ rfl, p.top 4 _ rfl, p.top 5 _ rfl, p.top 6 _ rfl, letB_intro fun fb hb => letW_intro fun w1 hw => ?_⟩
  refine ct_copy hb hw (fun w2 F2 S2' => ?_)
  have p2 := (p.keep S2').drew
  have F3 := F2.drew
  have S3 : Same [pb, cb] w.heap.size w w2.drew := (S2 pb cb S2').drew
  refine ⟨_, p2.de, cond_intro (fun d => ?_) (fun d => ?_)⟩
  · have d : dead = 0 := by have := eq_of_beq d; omega
    refine ⟨_, p2.hh, _, F3.c1, _, F3.c2, ?_⟩
    rw [wrap_i64 (x := (c.fl : Int) + (c.ar : Int)) (by omega) (by omega)]
    refine cond_intro (fun e => ?_) (fun e => ?_)
    · have e : ¬ h = (c.fl : Int) + (c.ar : Int) := by simpa using e
      rw [if_pos ⟨d, by omega⟩] at hz
      rw [← hz]
      exact ⟨rfl, p2, S3⟩
    · have e : h = (c.fl : Int) + (c.ar : Int) := by simpa using e
      exact L1 _ fb p2 F3 S3 (by omega) (by omega)
  · have d : ¬ dead = 0 := by rintro rfl; cases d
    exact L1 _ fb p2 F3 S3 (by omega) (by omega)
end
end Go.Proofs.Qxb6500317aGreat
