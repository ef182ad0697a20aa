/-
  The compiler in memory: its small steps.
-/
import Derived.Test.Qxb6500317aGreatSmA
import Derived.Test.Qxb6500317aGreatVdC
import Derived.Laws.StructEq
set_option linter.unusedSimpArgs false
set_option linter.unusedVariables false
set_option maxRecDepth 100000
set_option linter.unusedSectionVars false
namespace Go.Proofs.Qxb6500317aGreat
open Go Go.Vc

theorem get_ltA {α : Type} {A : List α} {b : α} {j : Nat} (h : A[j]? = some b) : j < A.length := (List.getElem?_eq_some_iff.1 h).1
theorem run_insEq (w : World) (a b : Ins) : (Op.equalIn 10000 T_api_Ins (.agg #[.int .u8 a.op, .int .u32 a.x, .int .u64 a.y]) (.agg #[.int .u8 b.op, .int .u32 b.x, .int .u64 b.y])).run Tryz.prog w = .ok (a.op == b.op && (a.x == b.x && a.y == b.y)) w := by
  have ht : Tryz.prog.underlying T_api_Ins = some (.struct (Tryz.prog.fieldsOf T_api_Ins)) := by kernel_rfl
  have hp : Tryz.prog.stoodInHeld T_api_Ins = false := by kernel_rfl
  have hf : (Tryz.prog.fieldsOf T_api_Ins).toList = [⟨"Op", (5 : Nat), 0, false, "", "", 0⟩, ⟨"X", (146 : Nat), 1, false, "", "", 4⟩, ⟨"Y", (31 : Nat), 2, false, "", "", 8⟩] := by kernel_rfl
  have q0 : ∀ (cs : Array Value) (i : Nat) (v : Value) (w : World), cs[i]? = some v → (part (5 : Nat) cs i).run Tryz.prog w = .ok v w := fun cs i v w hv => by
    have hia : (isAgg (5 : Nat)).run Tryz.prog w = .ok false w := by kernel_rfl
    simp [part, hia, hv]
  have q1 : ∀ (cs : Array Value) (i : Nat) (v : Value) (w : World), cs[i]? = some v → (part (146 : Nat) cs i).run Tryz.prog w = .ok v w := fun cs i v w hv => by
    have hia : (isAgg (146 : Nat)).run Tryz.prog w = .ok false w := by kernel_rfl
    simp [part, hia, hv]
  have q2 : ∀ (cs : Array Value) (i : Nat) (v : Value) (w : World), cs[i]? = some v → (part (31 : Nat) cs i).run Tryz.prog w = .ok v w := fun cs i v w hv => by
    have hia : (isAgg (31 : Nat)).run Tryz.prog w = .ok false w := by kernel_rfl
    simp [part, hia, hv]
  have e0 : ∀ (a b : Int) (w : World), (Op.equalIn 9999 (5 : Nat) (.int .u8 a) (.int .u8 b)).run Tryz.prog w = .ok (a == b) w := fun a b w => run_equalIn_int (P := Tryz.prog) w 9998 (5 : Nat) .u8 .u8 a b (by kernel_rfl)
  have e1 : ∀ (a b : Int) (w : World), (Op.equalIn 9999 (146 : Nat) (.int .u32 a) (.int .u32 b)).run Tryz.prog w = .ok (a == b) w := fun a b w => run_equalIn_int (P := Tryz.prog) w 9998 (146 : Nat) .u32 .u32 a b (by kernel_rfl)
  have e2 : ∀ (a b : Int) (w : World), (Op.equalIn 9999 (31 : Nat) (.int .u64 a) (.int .u64 b)).run Tryz.prog w = .ok (a == b) w := fun a b w => run_equalIn_int (P := Tryz.prog) w 9998 (31 : Nat) .u64 .u64 a b (by kernel_rfl)
  have p0 : ∀ (c : Ins) w, (part (5 : Nat) #[.int .u8 c.op, .int .u32 c.x, .int .u64 c.y] 0).run Tryz.prog w = .ok (.int .u8 c.op) w := fun c w => q0 _ _ _ w rfl
  have p1 : ∀ (c : Ins) w, (part (146 : Nat) #[.int .u8 c.op, .int .u32 c.x, .int .u64 c.y] 1).run Tryz.prog w = .ok (.int .u32 c.x) w := fun c w => q1 _ _ _ w rfl
  have p2 : ∀ (c : Ins) w, (part (31 : Nat) #[.int .u8 c.op, .int .u32 c.x, .int .u64 c.y] 2).run Tryz.prog w = .ok (.int .u64 c.y) w := fun c w => q2 _ _ _ w rfl
  rw [show (10000 : Nat) = 9999 + 1 from rfl, run_equalIn_struct w _ T_api_Ins _ _ ht hp, hf]
  cases h0 : (a.op == b.op) <;> cases h1 : (a.x == b.x) <;> cases h2 : (a.y == b.y) <;> simp [Op.eqFields, p0, p1, p2, e0, e1, e2, h0, h1, h2]
theorem eql_ins (w : World) (x y : Operand) (a b : Ins) :
    Sem.run Tryz.prog ((do eqGuard .eql T_api_Ins x y (.agg #[.int .u8 a.op, .int .u32 a.x, .int .u64 a.y]) (.agg #[.int .u8 b.op, .int .u32 b.x, .int .u64 b.y]); Go.binOp .eql T_api_Ins (.agg #[.int .u8 a.op, .int .u32 a.x, .int .u64 a.y]) (.agg #[.int .u8 b.op, .int .u32 b.x, .int .u64 b.y]))) w
      = .ok (.bool (a.op == b.op && (a.x == b.x && a.y == b.y))) w := by
  have hm : Tryz.prog.eqGuardType Tryz.prog.depth T_api_Ins = false := by kernel_rfl
  rw [Sem.run_bind, run_eqGuard_agg (P := Tryz.prog) w .eql T_api_Ins x y _ _ hm, Result.andThen_ok, run_eql_struct, run_insEq]
  rfl
theorem neq_ins (w : World) (x y : Operand) (a b : Ins) :
    Sem.run Tryz.prog ((do eqGuard .neq T_api_Ins x y (.agg #[.int .u8 a.op, .int .u32 a.x, .int .u64 a.y]) (.agg #[.int .u8 b.op, .int .u32 b.x, .int .u64 b.y]); Go.binOp .neq T_api_Ins (.agg #[.int .u8 a.op, .int .u32 a.x, .int .u64 a.y]) (.agg #[.int .u8 b.op, .int .u32 b.x, .int .u64 b.y]))) w
      = .ok (.bool (!(a.op == b.op && (a.x == b.x && a.y == b.y)))) w := by
  have hm : Tryz.prog.eqGuardType Tryz.prog.depth T_api_Ins = false := by kernel_rfl
  rw [Sem.run_bind, run_eqGuard_agg (P := Tryz.prog) w .neq T_api_Ins x y _ _ hm, Result.andThen_ok, run_neq_struct, run_insEq]
  rfl

section
variable {w w' : World} {pb cb : Nat} {cells : List Ins} {hg : Nat} {k : List CT} {h : Int} {dead : Nat}
/-- What a step leaves. -/
def PQ (w : World) (pb cb hg : Nat) (v : Value) (p : PS) : Value → World → Prop := fun u w' => u = v ∧ PA w' pb cb p.cells hg p.k p.h p.dead ∧ Same [pb, cb] w.heap.size w w'
theorem PA.al (p : PA w pb cb cells hg k h dead) {o : Obj} (hw : w' = w.alloc o) : PA w' pb cb cells hg k h dead ∧ Same [] w.heap.size w w' := by
  have S : Same [] w.heap.size w w' := by rw [hw]; exact (Same.refl _ _ _).alloc (Nat.le_refl _) _
  exact ⟨p.keep S, S⟩
theorem S2 (pb cb : Nat) {w w' : World} (S : Same [] w.heap.size w w') : Same [pb, cb] w.heap.size w w' := S.mono (Nat.le_refl _) (by simp)
theorem S2p (pb cb : Nat) {w w' : World} (S : Same [pb] w.heap.size w w') : Same [pb, cb] w.heap.size w w' := S.mono (Nat.le_refl _) (by simp)
theorem S2c (pb cb : Nat) {w w' : World} (S : Same [cb] w.heap.size w w') : Same [pb, cb] w.heap.size w w' := S.mono (Nat.le_refl _) (by simp)
theorem _root_.Go.Vc.Same.nx {S : List Nat} {a b c : World} (h : Same S a.heap.size a b) (k : Same S b.heap.size b c) : Same S a.heap.size a c := h.trans (k.mono h.size (fun _ hk _ => hk))
theorem _root_.Go.Vc.Same.pset (w : World) (pb cb j : Nat) (v : Value) : Same [pb, cb] w.heap.size w (w.setCell ⟨pb, j, none⟩ v) := (Same.refl _ _ _).setCell (.inr (by simp)) _
theorem _root_.Go.Vc.Same.cset (w : World) (pb cb j : Nat) (v : Value) : Same [pb, cb] w.heap.size w (w.setCell ⟨cb, j, none⟩ v) := (Same.refl _ _ _).setCell (.inr (by simp)) _

/-- A cell laid: append, and the slice written back. -/
theorem emit_in (p : PA w pb cb cells hg k h dead) (hl : cells.length < 121) (i : Ins) {b : Nat} {w1 : World} (hb : b = w.heap.size) (hw : w1 = w.alloc (.cells #[.int .u8 i.op, .int .u32 i.x, .int .u64 i.y] T_api_Ins)) {K : World → Prop}
    (hK : ∀ w3, PA w3 pb cb (cells ++ [i]) hg k h dead → Same [pb, cb] w.heap.size w w3 → K w3) :
    ∃ x1 : Option Addr, ∃ x2 : Nat, ∃ x3 : Nat, ∃ w2, Sem.run Tryz.prog (Builtin.append_ #[T_sl_api_Ins, T_sl_api_Ins] T_sl_api_Ins #[.slice (some ⟨cb, 0, none⟩) cells.length 121, .slice (some ⟨b, 0, none⟩) 1 1]) w1 = .ok (.slice x1 x2 x3) w2 ∧
      nilV (some ⟨pb, 0, none⟩) fun a => can w2 a ∧ letW (World.setCell w2 a (.slice x1 x2 x3)) K := by
  obtain ⟨w2, hr, B2, S2⟩ := p.B.append hl i hb hw
  have hp : pb ∉ [cb] := by simp; exact p.ne
  refine ⟨_, _, _, w2, hr, ⟨⟨_, by rw [S2.cell (p := ⟨pb, 0, none⟩) p.lt hp]; exact p.s⟩, by rw [S2.frozen (p := ⟨pb, 0, none⟩) p.lt hp]; exact p.f 0⟩, letW_intro fun w3 hw3 => ?_⟩
  subst hw3
  refine hK _ (p.emit i B2 S2) ?_
  exact (S2c pb cb S2).trans ((Same.refl _ _ _).setCell (.inr (by simp)) _)
theorem emit_inT (p : PA w pb cb cells hg k h dead) (hl : cells.length < 121) (i : Ins) {b : Nat} {w1 : World} (hb : b = w.heap.size) (hw : w1 = w.alloc (.cells #[.int .u8 i.op, .int .u32 i.x, .int .u64 i.y] T_api_Ins)) {K : World → Prop}
    (hK : ∀ w3, PA w3 pb cb (cells ++ [i]) hg k h dead → Same [pb, cb] w.heap.size w w3 → K w3) :
    ∃ x1 : Option Addr, ∃ x2 : Nat, ∃ x3 : Nat, ∃ w2, Sem.run Tryz.prog (Builtin.append_ #[T_sl_api_Ins, T_sl_api_Ins] T_sl_api_Ins #[.slice (some ⟨cb, 0, none⟩) cells.length 121, .slice (some ⟨b, 0, none⟩) 1 1]) w1 = .ok (.slice x1 x2 x3) w2 ∧
      nilV (some ⟨pb, 0, none⟩) fun a => (can w2 a ∧ letW (World.setCell w2 a (.slice x1 x2 x3)) K) ∧ True := by
  obtain ⟨x1, x2, x3, w2, h1, h2⟩ := emit_in p hl i hb hw hK
  exact ⟨x1, x2, x3, w2, h1, h2, trivial⟩

theorem skip_spec (p : PA w pb cb cells hg k h dead) (op : Int) (hd : dead ≤ 1000) : Runs Tryz.prog prep_Prep_skip.id #[rp pb, .int .u8 op] w (PQ w pb cb hg (.bool (skipP op dead).1) ⟨cells, k, h, (skipP op dead).2⟩) := by
  refine prep_Prep_skip.enter _ _ _ _ _ ?_
  unfold prep_Prep_skip.V
  simp only [nilV_some, Nat.zero_add]
  refine ⟨_, p.de, cond_intro (fun g => ?_) (fun g => ?_)⟩
  · have g : dead = 0 := by have := eq_of_beq g; omega
    subst g
    exact ⟨rfl, p, Same.refl _ _ _⟩
  have g : dead ≠ 0 := by rintro rfl; cases g
  have L : ∀ t : Bool, t = decide (op = 2 ∨ op = 3 ∨ op = 4) → prep_Prep_skip.L1 (some ⟨pb, 0, none⟩) op t (PQ w pb cb hg (.bool (skipP op dead).1) ⟨cells, k, h, (skipP op dead).2⟩) (fun _ _ => False) w := fun t ht => by
    refine prep_Prep_skip.step1 _ _ _ _ _ _ ?_
    unfold prep_Prep_skip.V1
    simp only [nilV_some, Nat.zero_add]
    refine cond_intro (fun e => ?_) (fun e => ?_)
    · have e : op = 2 ∨ op = 3 ∨ op = 4 := of_decide_eq_true (ht ▸ e)
      have hs : skipP op dead = (true, dead + 1) := by unfold skipP; rw [if_neg g, if_pos e]
      rw [hs]
      refine ⟨_, p.de, p.can 53 (by decide), letW_intro fun w4 hw => ?_⟩
      have ew : IntKind.wrap .i64 ((dead : Int) + 1) = ((dead + 1 : Nat) : Int) := by rw [wrap_i64 (by omega) (by omega)]; omega
      rw [ew] at hw
      subst hw
      exact ⟨rfl, p.setD _, Same.pset _ _ _ _ _⟩
    have e : ¬ (op = 2 ∨ op = 3 ∨ op = 4) := of_decide_eq_false (ht ▸ e)
    refine cond_intro (fun e5 => ?_) (fun e5 => ?_)
    · have e5 : op = 5 := eq_of_beq e5
      have hs : skipP op dead = (decide (1 < dead), dead) := by unfold skipP; rw [if_neg g, if_neg e, if_pos e5]
      rw [hs]
      refine ⟨_, p.de, ?_⟩
      have : decide ((dead : Int) > 1) = decide (1 < dead) := by
        by_cases q : 1 < dead
        · rw [decide_eq_true q, decide_eq_true (by omega)]
        · rw [decide_eq_false q, decide_eq_false (by omega)]
      rw [this]
      exact ⟨rfl, p, Same.refl _ _ _⟩
    have e5 : ¬ op = 5 := by simpa using e5
    refine cond_intro (fun e11 => ?_) (fun e11 => ?_)
    · have e11 : op = 11 := eq_of_beq e11
      refine ⟨_, p.de, cond_intro (fun e1 => ?_) (fun e1 => ?_)⟩
      · have e1 : dead = 1 := by have := eq_of_beq e1; omega
        have hs : skipP op dead = (false, 1) := by unfold skipP; rw [if_neg g, if_neg e, if_neg e5, if_pos e11, if_pos e1]
        rw [hs]
        subst e1
        exact ⟨rfl, p, Same.refl _ _ _⟩
      · have e1 : ¬ dead = 1 := by rintro rfl; cases e1
        have hs : skipP op dead = (true, dead - 1) := by unfold skipP; rw [if_neg g, if_neg e, if_neg e5, if_pos e11, if_neg e1]
        rw [hs]
        refine ⟨_, p.de, p.can 53 (by decide), letW_intro fun w4 hw => ?_⟩
        have ew : IntKind.wrap .i64 ((dead : Int) - 1) = ((dead - 1 : Nat) : Int) := by rw [wrap_i64 (by omega) (by omega)]; omega
        rw [ew] at hw
        subst hw
        exact ⟨rfl, p.setD _, Same.pset _ _ _ _ _⟩
    · have e11 : ¬ op = 11 := by simpa using e11
      have hs : skipP op dead = (true, dead) := by unfold skipP; rw [if_neg g, if_neg e, if_neg e5, if_neg e11]
      rw [hs]
      exact ⟨rfl, p, Same.refl _ _ _⟩
  refine cond_intro (fun e => L true ?_) (fun e => cond_intro (fun e' => L true ?_) (fun e' => L _ ?_))
  · rw [decide_eq_true (.inl (eq_of_beq e))]
  · rw [decide_eq_true (.inr (.inl (eq_of_beq e')))]
  · have e : ¬ op = 2 := by simpa using e
    have e' : ¬ op = 3 := by simpa using e'
    by_cases e4 : op = 4
    · subst e4; rfl
    · rw [decide_eq_false (by omega)]; simpa using e4

/-- The chain walked. -/
theorem patch_spec (v : Int) : ∀ (ms : List Nat) (at_ : Nat) (w : World) (cells : List Ins), PA w pb cb cells hg k h dead → cells[0]? = some z0 → Chn cells at_ ms → Runs Tryz.prog prep_Prep_patch.id #[rp pb, .int .i64 (at_ : Int), .int .u32 v] w (PQ w pb cb hg (.tuple #[]) ⟨setXs cells ms v, k, h, dead⟩) := by
  intro ms at_ w cells p c0 hC
  refine prep_Prep_patch.enter _ _ _ _ _ _ ?_
  unfold prep_Prep_patch.V
  suffices H : ∀ (ms : List Nat) (at_ : Nat) (w1 : World) (cells : List Ins), PA w1 pb cb cells hg k h dead → cells[0]? = some z0 → Chn cells at_ ms → Same [pb, cb] w.heap.size w w1 → ∀ c1, c1 = setXs cells ms v → prep_Prep_patch.L1 (some ⟨pb, 0, none⟩) (at_ : Int) v (PQ w pb cb hg (.tuple #[]) ⟨c1, k, h, dead⟩) (fun _ _ => False) w1 from
    H ms at_ w cells p c0 hC (Same.refl _ _ _) _ rfl
  clear hC c0 p
  intro ms
  induction ms with
  | nil =>
    intro at_ w1 cells p c0 hC S c1 hc
    have e : at_ = 0 := hC
    subst e
    refine prep_Prep_patch.step1 _ _ _ _ _ _ ?_
    unfold prep_Prep_patch.V1
    have hl := get_ltA c0
    simp only [nilV_some, add_mk, Nat.zero_add]
    refine ⟨_, _, _, p.s, ⟨by omega, by omega⟩, ?_⟩
    rw [nilV_some]
    simp only [add_mk, Nat.zero_add, Int.toNat_natCast]
    refine ⟨_, _, _, p.B.c0 c0, p.B.c1 c0, p.B.c2 c0, letB_intro fun b hb => letW_intro fun w2 hw => ?_⟩
    obtain ⟨p2, S2'⟩ := p.al hw
    have I0 : InsAt w2 b ⟨0, 0, 0⟩ := by subst hb hw; exact InsAt.new _ _
    refine putCells_intro b _ 0 w2 _ (fun j hj => by rw [Nat.zero_add]; exact I0.can j hj) (fun w3 hF => ?_)
    have f0 : w3.cell? ⟨b, 0, none⟩ = some (.int .u8 z0.op) := by rw [hF.cell, if_pos (by simp)]; rfl
    have f1 : w3.cell? ⟨b, 1, none⟩ = some (.int .u32 z0.x) := by rw [hF.cell, if_pos (by simp)]; rfl
    have f2 : w3.cell? ⟨b, 2, none⟩ = some (.int .u64 z0.y) := by rw [hF.cell, if_pos (by simp)]; rfl
    refine ⟨_, _, _, f0, f1, f2, _, w3, eql_ins w3 _ _ z0 z0, cond_true' rfl ?_⟩
    have S3 : Same [] w1.heap.size w1 w3 := S2'.trans ((hF.same _).mono (Nat.le_refl _) (fun k hk hl => by simp at hk; omega))
    refine ⟨rfl, ?_, S.nx (S2 pb cb S3)⟩
    rw [hc]
    exact p.keep S3
  | cons m r ih =>
    intro at_ w1 cells p c0 hC S c1 hc
    obtain ⟨e, hm, i, hi, ho, x, hx, hxm, hC2⟩ := hC
    subst e
    refine prep_Prep_patch.step1 _ _ _ _ _ _ ?_
    unfold prep_Prep_patch.V1
    have hl := get_ltA hi
    have hl2 := p.B.le
    simp only [nilV_some, add_mk, Nat.zero_add]
    refine ⟨_, _, _, p.s, ⟨by omega, by omega⟩, ?_⟩
    rw [nilV_some]
    simp only [add_mk, Nat.zero_add, Int.toNat_natCast]
    refine ⟨_, _, _, p.B.c0 hi, p.B.c1 hi, p.B.c2 hi, letB_intro fun b hb => letW_intro fun w2 hw => ?_⟩
    obtain ⟨p2, S2'⟩ := p.al hw
    have I0 : InsAt w2 b ⟨0, 0, 0⟩ := by subst hb hw; exact InsAt.new _ _
    refine putCells_intro b _ 0 w2 _ (fun j hj => by rw [Nat.zero_add]; exact I0.can j hj) (fun w3 hF => ?_)
    have f0 : w3.cell? ⟨b, 0, none⟩ = some (.int .u8 i.op) := by rw [hF.cell, if_pos (by simp)]; rfl
    have f1 : w3.cell? ⟨b, 1, none⟩ = some (.int .u32 i.x) := by rw [hF.cell, if_pos (by simp)]; rfl
    have f2 : w3.cell? ⟨b, 2, none⟩ = some (.int .u64 i.y) := by rw [hF.cell, if_pos (by simp)]; rfl
    have S3 : Same [] w1.heap.size w1 w3 := S2'.trans ((hF.same _).mono (Nat.le_refl _) (fun k hk hl => by simp at hk; omega))
    have p3 := p.keep S3
    refine ⟨_, _, _, f0, f1, f2, _, w3, eql_ins w3 _ _ i z0, cond_false' (by rw [show (i.op == z0.op) = false from by simpa [z0] using ho]; rfl) ?_⟩
    refine ⟨_, _, _, p3.s, ⟨by omega, by omega⟩, ?_⟩
    have lcb := p.B.lt
    rw [nilV_some]
    simp only [add_mk, Nat.zero_add]
    refine ⟨⟨⟨_, p3.B.c1 hi⟩, p3.B.fz _⟩, letW_intro fun w4 hw4 => ?_⟩
    have f4 : w4.cell? ⟨b, 1, none⟩ = some (.int .u32 i.x) := by rw [hw4, cell_setCell, if_neg (by omega)]; exact f1
    refine ⟨_, f4, ?_⟩
    have ew : IntKind.wrap .i64 i.x = (x : Int) := by rw [hx, wrap_i64 (by omega) (by omega)]
    rw [ew]
    have p4 : PA w4 pb cb (setX cells at_ v) hg k h dead := by rw [hw4]; exact p3.setX hl v
    refine ih x w4 (setX cells at_ v) p4 (by rw [setX_get, if_neg (by omega)]; exact c0) (hC2.ext (fun m' hm' y hy => ?_)) (S.nx ((S2 pb cb S3).nx (by rw [hw4]; exact Same.cset _ _ _ _ _))) c1 hc
    have := hC2.low hxm m' hm'
    rw [setX_get, if_neg (by omega)]; exact hy

theorem open_spec (p : PA w pb cb cells hg k h dead) {c : CT} {r : List CT} (hk : k = c :: r) (hl : cells.length < 121) (h0 : 0 ≤ h) (h1 : h ≤ 1000) (x : Ins) :
    Runs Tryz.prog prep_Prep_open.id #[rp pb, .agg #[.int .u8 x.op, .int .u32 x.x, .int .u64 x.y]] w (PQ w pb cb hg (.bool (openP x ⟨cells, k, h, dead⟩).1) (openP x ⟨cells, k, h, dead⟩).2) := by
  have kl := p.kl
  generalize hz : openP x ⟨cells, k, h, dead⟩ = z
  unfold openP at hz
  dsimp only at hz
  refine prep_Prep_open.enter _ _ _ _ _ _ _ ?_
  unfold prep_Prep_open.V
  refine letB_intro fun b hb => letW_intro fun w1 hw => ?_
  obtain ⟨p1, S1⟩ := p.al hw
  obtain ⟨I1, _⟩ := ins_made hb hw
  simp only [nilV_some, Nat.zero_add]
  refine ⟨_, p1.d, cond_intro (fun g => ?_) (fun g => ?_)⟩
  · have g : k.length = 7 := by have := eq_of_beq g; omega
    rw [if_pos g] at hz
    subst hz
    exact ⟨rfl, p1, S2 pb cb S1⟩
  have g : ¬ k.length = 7 := by intro e; rw [e] at g; cases g
  rw [if_neg g] at hz
  have fin : ∀ (w2 : World) (cs : List Ins) (hh : Int) (cn : Nat), PA w2 pb cb cs hg k hh dead → InsAt w2 b x → Same [pb, cb] w.heap.size w w2 → 0 ≤ hh → hh ≤ 1000 → z = (true, ⟨cs, ⟨x.op, hh.toNat, arP x, cs.length, 0, cn, 0⟩ :: k, hh, dead⟩) →
      prep_Prep_open.L1 (some ⟨pb, 0, none⟩) b (cn : Int) (PQ w pb cb hg (.bool z.1) z.2) (fun _ _ => False) w2 := fun w2 cs hh cn p2 I2 S2' q0 q1 ez => by
    refine prep_Prep_open.step1 _ _ _ _ _ _ ?_
    unfold prep_Prep_open.V1
    have fin2 : ∀ ar : Int, ar = ((arP x : Nat) : Int) → prep_Prep_open.L2 (some ⟨pb, 0, none⟩) b (cn : Int) ar (PQ w pb cb hg (.bool z.1) z.2) (fun _ _ => False) w2 := fun ar har => by
      subst har
      refine prep_Prep_open.step2 _ _ _ _ _ _ _ ?_
      unfold prep_Prep_open.V2
      simp only [true_and, nilV_some, Nat.zero_add]
      have p3 := p2.drew
      refine ⟨_, p3.d, _, I2.drew.c0, _, p3.hh, _, _, _, p3.s, ⟨by omega, by omega⟩, ?_⟩
      rw [add_mk, Int.toNat_natCast]
      have lb := I2.lt
      refine putCells_intro pb _ _ _ _ (fun j hj => p3.can _ (by simp only [List.length_cons, List.length_nil] at hj; omega)) (fun w4 hF => ?_)
      have hF : Fill w2.drew w4 pb (2 + k.length * 7) (ctC ⟨x.op, hh.toNat, arP x, cs.length, 0, cn, 0⟩) := by
        have e : hh = ((hh.toNat : Nat) : Int) := by omega
        unfold ctC
        dsimp only
        rw [← e]
        exact hF
      refine ⟨_, by rw [hF.cell, if_neg (by unfold ctC; simp only [List.length_cons, List.length_nil]; omega)]; exact p3.d, ?_⟩
      have hc51 : can w4 ⟨pb, 51, none⟩ := by
        refine ⟨⟨_, by rw [hF.cell, if_neg (by unfold ctC; simp only [List.length_cons, List.length_nil]; omega)]; exact p3.d⟩, by rw [hF.frozen]; exact p3.f 51⟩
      refine ⟨hc51, letW_intro fun w5 hw5 => ?_⟩
      have ew : IntKind.wrap .i64 ((k.length : Int) + 1) = ((k.length + 1 : Nat) : Int) := by rw [wrap_i64 (by omega) (by omega)]; omega
      rw [ew] at hw5
      have p5 := p3.pushF (by omega) ⟨x.op, hh.toNat, arP x, cs.length, 0, cn, 0⟩ hF
      rw [← hw5] at p5
      rw [ez]
      refine ⟨rfl, p5, S2'.nx ?_⟩
      rw [hw5]
      exact ((S2 pb cb (Same.refl _ _ w2).drew).trans ((hF.same _).mono (Nat.le_refl _) (by simp))).trans ((Same.refl _ _ _).setCell (.inr (by simp)) _)
    refine ⟨_, I2.c1, cond_intro (fun e => fin2 _ ?_) (fun e => fin2 _ ?_)⟩
    · unfold arP; rw [if_pos (eq_of_beq e)]; rfl
    · unfold arP; rw [if_neg (by simpa using e)]; rfl
  refine ⟨_, I1.c0, cond_intro (fun e => ?_) (fun e => ?_)⟩
  · have e : x.op = 4 := eq_of_beq e
    rw [if_pos e] at hz
    refine ⟨_, p1.hh, p1.can 52 (by decide), letW_intro fun w2 hw2 => ?_⟩
    have ew : IntKind.wrap .i64 (h - 1) = h - 1 := wrap_i64 (by omega) (by omega)
    rw [ew] at hw2
    have p2 : PA w2 pb cb cells hg k (h - 1) dead := by rw [hw2]; exact p1.setH _
    have S02 : Same [pb, cb] w.heap.size w w2 := (S2 pb cb S1).nx (by rw [hw2]; exact Same.pset _ _ _ _ _)
    have I2 : InsAt w2 b x := by
      have := p.lt
      refine I1.same (S := [pb]) (B := w1.heap.size) (by rw [hw2]; exact (Same.refl _ _ _).setCell (.inr (by simp)) _) I1.lt (by simp; omega)
    have p3 := p2.drew
    simp only [true_and, nilV_some, Nat.zero_add]
    have hkl : k.length = r.length + 1 := by rw [hk]; rfl
    have ew2 : IntKind.wrap .i64 ((k.length : Int) - 1) = (r.length : Int) := by rw [wrap_i64 (by omega) (by omega)]; omega
    refine ⟨_, p3.hh, _, p3.d, ?_⟩
    rw [ew2]
    refine ⟨⟨by omega, by omega⟩, ?_⟩
    simp only [add_mk, Int.toNat_natCast]
    have hfl : w2.drew.cell? ⟨pb, 2 + r.length * 7 + 1, none⟩ = some (.int .i64 (c.fl : Int)) := by
      have p3' := p3
      rw [hk] at p3'
      exact p3'.top 1 _ rfl
    refine ⟨_, hfl, cond_intro (fun g2 => ?_) (fun g2 => ?_)⟩
    · rw [if_pos (by rw [hk]; exact of_decide_eq_true g2)] at hz
      subst hz
      exact ⟨rfl, p3, S02.nx (S2 pb cb (Same.refl _ _ w2).drew)⟩
    · have g2 : ¬ h - 1 < (c.fl : Int) := of_decide_eq_false g2
      rw [if_neg (by rw [hk]; exact g2)] at hz
      refine ⟨_, _, _, p3.s, _, _, _, p3.s, letB_intro fun b4 hb4 => letW_intro fun w4 hw4 => ?_⟩
      refine emit_in p3 hl ⟨4, 0, 0⟩ hb4 hw4 (fun w5 p5 S5 => ?_)
      have lb := I2.lt
      have lpb := p.lt; have lcb := p.B.lt
      have S25 : Same [pb, cb] w2.heap.size w2 w5 := (S2 pb cb (Same.refl _ _ w2).drew).nx S5
      refine fin w5 _ (h - 1) cells.length p5 (I2.same S25 lb (by simp; omega)) (S02.nx S25) (by omega) (by omega) ?_
      rw [← hz]
      simp
  · have e : ¬ x.op = 4 := by simpa using e
    rw [if_neg e] at hz
    exact fin w1 cells h 0 p1 I1 (S2 pb cb S1) h0 h1 (by rw [← hz])
end
end Go.Proofs.Qxb6500317aGreat
