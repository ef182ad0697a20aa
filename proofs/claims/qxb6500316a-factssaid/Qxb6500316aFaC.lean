/-
  Facts: one instruction alone.
-/
import Derived.Test.Qxb6500316aFaB
import Derived.Laws.StructEq
set_option linter.unusedSimpArgs false
set_option linter.unusedVariables false
set_option maxRecDepth 100000
namespace Go.Proofs.Qxb6500316a
open Go Go.Vc

/-! ### The equality of two instructions -/
theorem eqIns (w : World) (a b c : Int) : (Op.equalIn 10000 T_api_Ins (.agg #[.int .u8 a, .int .u32 b, .int .u64 c]) (.agg #[.int .u8 a, .int .u32 b, .int .u64 c])).run Try.prog w = .ok true w := by
  have ht : Try.prog.underlying T_api_Ins = some (.struct (Try.prog.fieldsOf T_api_Ins)) := by kernel_rfl
  have hp : Try.prog.stoodInHeld T_api_Ins = false := by kernel_rfl
  have hf : (Try.prog.fieldsOf T_api_Ins).toList = [⟨"Op", (5 : Nat), 0, false, "", "", 0⟩, ⟨"X", (72 : Nat), 1, false, "", "", 4⟩, ⟨"Y", (73 : Nat), 2, false, "", "", 8⟩] := by kernel_rfl
  have q8 : ∀ (cs : Array Value) (i : Nat) (v : Value) (w : World), cs[i]? = some v → (part (5 : Nat) cs i).run Try.prog w = .ok v w := fun cs i v w hv => by
    have hia : (isAgg (5 : Nat)).run Try.prog w = .ok false w := by kernel_rfl
    simp [part, hia, hv]
  have q32 : ∀ (cs : Array Value) (i : Nat) (v : Value) (w : World), cs[i]? = some v → (part (72 : Nat) cs i).run Try.prog w = .ok v w := fun cs i v w hv => by
    have hia : (isAgg (72 : Nat)).run Try.prog w = .ok false w := by kernel_rfl
    simp [part, hia, hv]
  have q64 : ∀ (cs : Array Value) (i : Nat) (v : Value) (w : World), cs[i]? = some v → (part (73 : Nat) cs i).run Try.prog w = .ok v w := fun cs i v w hv => by
    have hia : (isAgg (73 : Nat)).run Try.prog w = .ok false w := by kernel_rfl
    simp [part, hia, hv]
  have e8 : ∀ (a : Int) (w : World), (Op.equalIn 9999 (5 : Nat) (.int .u8 a) (.int .u8 a)).run Try.prog w = .ok true w := fun a w => by
    have := run_equalIn_int (P := Try.prog) w 9998 (5 : Nat) .u8 .u8 a a (by kernel_rfl)
    simpa using this
  have e32 : ∀ (a : Int) (w : World), (Op.equalIn 9999 (72 : Nat) (.int .u32 a) (.int .u32 a)).run Try.prog w = .ok true w := fun a w => by
    have := run_equalIn_int (P := Try.prog) w 9998 (72 : Nat) .u32 .u32 a a (by kernel_rfl)
    simpa using this
  have e64 : ∀ (a : Int) (w : World), (Op.equalIn 9999 (73 : Nat) (.int .u64 a) (.int .u64 a)).run Try.prog w = .ok true w := fun a w => by
    have := run_equalIn_int (P := Try.prog) w 9998 (73 : Nat) .u64 .u64 a a (by kernel_rfl)
    simpa using this
  have p0 : ∀ w, (part (5 : Nat) #[.int .u8 a, .int .u32 b, .int .u64 c] 0).run Try.prog w = .ok (.int .u8 a) w := fun w => q8 _ _ _ w rfl
  have p1 : ∀ w, (part (72 : Nat) #[.int .u8 a, .int .u32 b, .int .u64 c] 1).run Try.prog w = .ok (.int .u32 b) w := fun w => q32 _ _ _ w rfl
  have p2 : ∀ w, (part (73 : Nat) #[.int .u8 a, .int .u32 b, .int .u64 c] 2).run Try.prog w = .ok (.int .u64 c) w := fun w => q64 _ _ _ w rfl
  rw [show (10000 : Nat) = 9999 + 1 from rfl, run_equalIn_struct w _ T_api_Ins _ _ ht hp, hf]
  simp [Op.eqFields, p0, p1, p2, e8, e32, e64]
theorem run_eqIns (w : World) (x y : Operand) (a b c : Int) :
    Sem.run Try.prog ((do eqGuard .eql T_api_Ins x y (.agg #[.int .u8 a, .int .u32 b, .int .u64 c]) (.agg #[.int .u8 a, .int .u32 b, .int .u64 c]); Go.binOp .eql T_api_Ins (.agg #[.int .u8 a, .int .u32 b, .int .u64 c]) (.agg #[.int .u8 a, .int .u32 b, .int .u64 c]))) w = .ok (.bool true) w := by
  have hm : Try.prog.eqGuardType Try.prog.depth T_api_Ins = false := by kernel_rfl
  rw [Sem.run_bind, run_eqGuard_agg (P := Try.prog) w .eql T_api_Ins x y _ _ hm, Result.andThen_ok, run_eql_struct, eqIns]
  rfl
theorem run_neqIns (w : World) (x y : Operand) (a b c : Int) :
    Sem.run Try.prog ((do eqGuard .neq T_api_Ins x y (.agg #[.int .u8 a, .int .u32 b, .int .u64 c]) (.agg #[.int .u8 a, .int .u32 b, .int .u64 c]); Go.binOp .neq T_api_Ins (.agg #[.int .u8 a, .int .u32 b, .int .u64 c]) (.agg #[.int .u8 a, .int .u32 b, .int .u64 c]))) w = .ok (.bool false) w := by
  have hm : Try.prog.eqGuardType Try.prog.depth T_api_Ins = false := by kernel_rfl
  rw [Sem.run_bind, run_eqGuard_agg (P := Try.prog) w .neq T_api_Ins x y _ _ hm, Result.andThen_ok, run_neq_struct, eqIns]
  rfl

/-! ### Lone -/
def lT1 (c : Int) : Bool := c == 5 || (c == 11 || c == 14)
def lT2 (c : Int) : Bool := decide (c ≤ 1) || (c == 15 || (c == 26 || (c == 27 || (decide (c ≥ 69) && decide (c ≤ 191)))))
def lT3 (c : Int) : Bool := decide (c ≥ 2) && decide (c ≤ 4)
def lT4 (c : Int) : Bool := c == 12 || (c == 13 || (c == 16 || (decide (c ≥ 32) && decide (c ≤ 36))))
def lT5 (c : Int) : Bool := decide (c ≥ 40) && decide (c ≤ 62)
def lT6 (c : Int) : Bool := c == 63 || c == 64
def lT7 (c : Int) : Bool := c == 65 || c == 66
def loneV (c : Int) : List UInt8 × Ins × Int :=
  cond (lT1 c) ([], ⟨IntKind.wrap .u8 c, 0, 0⟩, 0) (cond (lT2 c) ([], ⟨IntKind.wrap .u8 c, 0, 0⟩, 1) (cond (lT3 c) ([126, 11], ⟨IntKind.wrap .u8 c, 126, 0⟩, 1) (cond (lT4 c) ([5], ⟨IntKind.wrap .u8 c, 5, 0⟩, 1)
    (cond (c == 17) ([5, 0], ⟨IntKind.wrap .u8 c, 5, 0⟩, 1) (cond (lT5 c) ([1, 2], ⟨IntKind.wrap .u8 c, 1, 2⟩, 1) (cond (lT6 c) ([0], ⟨IntKind.wrap .u8 c, 0, 0⟩, 1) (cond (lT7 c) ([5], ⟨IntKind.wrap .u8 c, 0, 5⟩, 1)
    (cond (c == 67) ([1, 2, 3, 4], ⟨IntKind.wrap .u8 c, 0, 67305985⟩, 1) (cond (c == 68) ([1, 2, 3, 4, 5, 6, 7, 8], ⟨IntKind.wrap .u8 c, 0, 578437695752307201⟩, 1) ([], ⟨IntKind.wrap .u8 c, 0, 0⟩, 2))))))))))
theorem cor {P : Bool → Prop} {a b : Bool} {X : Prop} (hX : P b → X) (h : P (a || b)) : cond a (P true) X := by
  cases a
  · exact hX h
  · exact h
theorem cand {P : Bool → Prop} {a b : Bool} (h : P (a && b)) : cond a (P b) (P false) := by
  cases a <;> exact h

theorem lone_out {w0 w : World} {t x : Nat} {i i0 : Ins} (ht : InsAt w t i0) (hx : InsAt w x i) (S : Same [] w0.heap.size w0 w) (hlt : w0.heap.size ≤ t) (imm : ByteArray) (kind : Int) (R : Value → World → Prop)
    (hR : ∀ w', Same [] w0.heap.size w0 w' → R (.tuple #[.string imm, .agg #[.int .u8 i.op, .int .u32 i.x, .int .u64 i.y], .int .i64 kind]) w') :
    (∃ x1 : Int, ∃ x2 : Int, ∃ x3 : Int, World.cell? (World.drew w) ⟨x, 0, none⟩ = some (.int .u8 x1) ∧ World.cell? (World.drew w) ⟨x, 1, none⟩ = some (.int .u32 x2) ∧ World.cell? (World.drew w) ⟨x, 2, none⟩ = some (.int .u64 x3) ∧ ((World.drew w) = (World.drew w) ∧ ((World.drew w) = (World.drew w) ∧ (putCells (World.drew w) ⟨t, 0, none⟩ [(.int .u8 x1), (.int .u32 x2), (.int .u64 x3)] fun w4 => ((∃ x5 : Int, ∃ x6 : Int, ∃ x7 : Int, World.cell? w4 ⟨t, 0, none⟩ = some (.int .u8 x5) ∧ World.cell? w4 ⟨t, 1, none⟩ = some (.int .u32 x6) ∧ World.cell? w4 ⟨t, 2, none⟩ = some (.int .u64 x7) ∧ R (.tuple #[(.string imm), (.agg #[(.int .u8 x5), (.int .u32 x6), (.int .u64 x7)]), (.int .i64 kind)]) w4)))))) := by
  refine ⟨_, _, _, hx.c0, hx.c1, hx.c2, rfl, rfl, ?_⟩
  refine InsAt.put_intro ht.drew (i' := i) (fun w4 h4 S4 => ⟨_, _, _, h4.c0, h4.c1, h4.c2, hR w4 ?_⟩)
  exact S.drew.trans ((S4 w0.heap.size).mono (Nat.le_refl _) (by intro k hk hl; simp at hk; omega))

def LoneR (c : Int) (w : World) : Value → World → Prop := fun v w' =>
  v = .tuple #[.string (ofL (loneV c).1), .agg #[.int .u8 (loneV c).2.1.op, .int .u32 (loneV c).2.1.x, .int .u64 (loneV c).2.1.y], .int .i64 (loneV c).2.2] ∧ Same [] w.heap.size w w'
theorem Lone_spec (c : Int) (w : World) : Runs Try.prog binlaw_Lone.id #[.int .i64 c] w (LoneR c w) := by
  refine binlaw_Lone.enter _ _ _ _ ?_
  unfold binlaw_Lone.V
  refine letB_intro fun t ht => letW_intro fun w3 hw3 => letB_intro fun x hx => letW_intro fun w5 hw5 => ?_
  have It3 : InsAt w3 t ⟨0, 0, 0⟩ := by rw [hw3, ht]; exact InsAt.new w _
  have S3 : Same [] w.heap.size w w3 := by rw [hw3]; exact (Same.refl _ _ _).alloc (Nat.le_refl _) _
  have z3 : w3.heap.size = w.heap.size + 1 := by rw [hw3]; simp
  have Ix5 : InsAt w5 x ⟨0, 0, 0⟩ := by rw [hw5, hx]; exact InsAt.new w3 _
  have S5 : Same [] w3.heap.size w3 w5 := by rw [hw5]; exact (Same.refl _ _ _).alloc (Nat.le_refl _) _
  have It5 := It3.same S5 It3.lt (by simp)
  have S05 := S3.trans (S5.mono (by omega) (by simp))
  clear hw3 hw5
  refine Ix5.put_intro (i' := ⟨IntKind.wrap .u8 c, 0, 0⟩) (fun w6 Ix S6 => ?_)
  have It := It5.same (S6 w5.heap.size) It5.lt (by simp; omega)
  have S : Same [] w.heap.size w w6 := S05.trans ((S6 w.heap.size).mono (Nat.le_refl _) (by intro k hk hl; simp at hk; omega))
  clear S5 S6 It5 Ix5 It3
  have fin : ∀ {imm : List UInt8} {i : Ins} {kind : Int}, loneV c = (imm, i, kind) → ∀ w', Same [] w.heap.size w w' → LoneR c w (.tuple #[.string (ofL imm), .agg #[.int .u8 i.op, .int .u32 i.x, .int .u64 i.y], .int .i64 kind]) w' := by
    intro imm i kind h w' hS
    exact ⟨by rw [h], hS⟩
  have lx : w.heap.size ≤ x := by omega
  have lt' : w.heap.size ≤ t := by omega
  have nx : t ≠ x := by omega
  have setX : ∀ (v : Int) w1, w1 = World.setCell w6 ⟨x, 1, none⟩ (.int .u32 v) → InsAt w1 x ⟨IntKind.wrap .u8 c, v, 0⟩ ∧ InsAt w1 t ⟨0, 0, 0⟩ ∧ Same [] w.heap.size w w1 := by
    intro v w1 h
    have hS : Same [x] w6.heap.size w6 w1 := by rw [h]; exact same_set 1 _
    exact ⟨by rw [h]; exact Ix.setx v, It.same hS It.lt (by simp; omega), S.trans (hS.mono S.size (by intro k hk hl; simp at hk; omega))⟩
  have setY : ∀ (v : Int) w1, w1 = World.setCell w6 ⟨x, 2, none⟩ (.int .u64 v) → InsAt w1 x ⟨IntKind.wrap .u8 c, 0, v⟩ ∧ InsAt w1 t ⟨0, 0, 0⟩ ∧ Same [] w.heap.size w w1 := by
    intro v w1 h
    have hS : Same [x] w6.heap.size w6 w1 := by rw [h]; exact same_set 2 _
    exact ⟨by rw [h]; exact Ix.sety v, It.same hS It.lt (by simp; omega), S.trans (hS.mono S.size (by intro k hk hl; simp at hk; omega))⟩
  refine cor (P := fun b => binlaw_Lone.L1 c t x b _ _ w6) (fun h => cor (P := fun b => binlaw_Lone.L1 c t x b _ _ w6) id h) ?_
  refine binlaw_Lone.step1 _ _ _ _ _ _ _ ?_
  unfold binlaw_Lone.V1
  refine cond_intro (fun h1 => ?_) (fun h1 => ?_)
  · exact lone_out It Ix S lt' _ _ _ (fin (imm := []) (by unfold loneV; rw [show lT1 c = true from h1]; rfl))
  have h1 : lT1 c = false := h1
  refine cor (P := fun b => binlaw_Lone.L2 c t x b _ _ w6) (fun h => cor (P := fun b => binlaw_Lone.L2 c t x b _ _ w6) (fun h => cor (P := fun b => binlaw_Lone.L2 c t x b _ _ w6) (fun h => cor (P := fun b => binlaw_Lone.L2 c t x b _ _ w6) (fun h => cand (P := fun b => binlaw_Lone.L2 c t x b _ _ w6) h) h) h) h) ?_
  refine binlaw_Lone.step2 _ _ _ _ _ _ _ ?_
  unfold binlaw_Lone.V2
  refine cond_intro (fun h2 => ?_) (fun h2 => ?_)
  · exact lone_out It Ix S lt' _ _ _ (fin (imm := []) (by unfold loneV; rw [h1, show lT2 c = true from h2]; rfl))
  have h2 : lT2 c = false := h2
  refine cand (P := fun b => binlaw_Lone.L3 c t x b _ _ w6) ?_
  refine binlaw_Lone.step3 _ _ _ _ _ _ _ ?_
  unfold binlaw_Lone.V3
  refine cond_intro (fun h3 => ?_) (fun h3 => ?_)
  · refine ⟨Ix.can 1 (by decide), letW_intro fun w1 hw1 => ?_⟩
    obtain ⟨a1, a2, a3⟩ := setX _ w1 hw1
    exact lone_out a2 a1 a3 lt' _ _ _ (fin (imm := [126, 11]) (by unfold loneV; rw [h1, h2, show lT3 c = true from h3]; rfl))
  have h3 : lT3 c = false := h3
  refine cor (P := fun b => binlaw_Lone.L4 c t x b _ _ w6) (fun h => cor (P := fun b => binlaw_Lone.L4 c t x b _ _ w6) (fun h => cor (P := fun b => binlaw_Lone.L4 c t x b _ _ w6) (fun h => cand (P := fun b => binlaw_Lone.L4 c t x b _ _ w6) h) h) h) ?_
  refine binlaw_Lone.step4 _ _ _ _ _ _ _ ?_
  unfold binlaw_Lone.V4
  refine cond_intro (fun h4 => ?_) (fun h4 => ?_)
  · refine ⟨Ix.can 1 (by decide), letW_intro fun w1 hw1 => ?_⟩
    obtain ⟨a1, a2, a3⟩ := setX _ w1 hw1
    exact lone_out a2 a1 a3 lt' _ _ _ (fin (imm := [5]) (by unfold loneV; rw [h1, h2, h3, show lT4 c = true from h4]; rfl))
  have h4 : lT4 c = false := h4
  refine cond_intro (fun h17 => ?_) (fun h17 => ?_)
  · refine ⟨Ix.can 1 (by decide), letW_intro fun w1 hw1 => ?_⟩
    obtain ⟨a1, a2, a3⟩ := setX _ w1 hw1
    exact lone_out a2 a1 a3 lt' _ _ _ (fin (imm := [5, 0]) (by unfold loneV; rw [h1, h2, h3, h4, h17]; rfl))
  refine cand (P := fun b => binlaw_Lone.L5 c t x b _ _ w6) ?_
  refine binlaw_Lone.step5 _ _ _ _ _ _ _ ?_
  unfold binlaw_Lone.V5
  refine cond_intro (fun h5 => ?_) (fun h5 => ?_)
  · refine ⟨Ix.can 1 (by decide), letW_intro fun w1 hw1 => ?_⟩
    obtain ⟨a1, a2, a3⟩ := setX _ w1 hw1
    refine ⟨a1.can 2 (by decide), letW_intro fun w2 hw2 => ?_⟩
    have hS : Same [x] w1.heap.size w1 w2 := by rw [hw2]; exact same_set 2 _
    have b1 : InsAt w2 x ⟨IntKind.wrap .u8 c, 1, 2⟩ := by rw [hw2]; exact a1.sety 2
    exact lone_out (a2.same hS a2.lt (by simp; omega)) b1 (a3.trans (hS.mono a3.size (by intro k hk hl; simp at hk; omega))) lt' _ _ _ (fin (imm := [1, 2]) (by unfold loneV; rw [h1, h2, h3, h4, h17, show lT5 c = true from h5]; rfl))
  have h5 : lT5 c = false := h5
  refine cor (P := fun b => binlaw_Lone.L6 c t x b _ _ w6) id ?_
  refine binlaw_Lone.step6 _ _ _ _ _ _ _ ?_
  unfold binlaw_Lone.V6
  refine cond_intro (fun h6 => ?_) (fun h6 => ?_)
  · exact lone_out It Ix S lt' _ _ _ (fin (imm := [0]) (by unfold loneV; rw [h1, h2, h3, h4, h17, h5, show lT6 c = true from h6]; rfl))
  have h6 : lT6 c = false := h6
  refine cor (P := fun b => binlaw_Lone.L7 c t x b _ _ w6) id ?_
  refine binlaw_Lone.step7 _ _ _ _ _ _ _ ?_
  unfold binlaw_Lone.V7
  refine cond_intro (fun h7 => ?_) (fun h7 => ?_)
  · refine ⟨Ix.can 2 (by decide), letW_intro fun w1 hw1 => ?_⟩
    obtain ⟨a1, a2, a3⟩ := setY _ w1 hw1
    exact lone_out a2 a1 a3 lt' _ _ _ (fin (imm := [5]) (by unfold loneV; rw [h1, h2, h3, h4, h17, h5, h6, show lT7 c = true from h7]; rfl))
  have h7 : lT7 c = false := h7
  refine cond_intro (fun h67 => ?_) (fun h67 => ?_)
  · refine ⟨Ix.can 2 (by decide), letW_intro fun w1 hw1 => ?_⟩
    obtain ⟨a1, a2, a3⟩ := setY _ w1 hw1
    exact lone_out a2 a1 a3 lt' _ _ _ (fin (imm := [1, 2, 3, 4]) (by unfold loneV; rw [h1, h2, h3, h4, h17, h5, h6, h7, h67]; rfl))
  refine cond_intro (fun h68 => ?_) (fun h68 => ?_)
  · refine ⟨Ix.can 2 (by decide), letW_intro fun w1 hw1 => ?_⟩
    obtain ⟨a1, a2, a3⟩ := setY _ w1 hw1
    exact lone_out a2 a1 a3 lt' _ _ _ (fin (imm := [1, 2, 3, 4, 5, 6, 7, 8]) (by unfold loneV; rw [h1, h2, h3, h4, h17, h5, h6, h7, h67, h68]; rfl))
  · exact lone_out It Ix S lt' _ _ _ (fin (imm := []) (by unfold loneV; rw [h1, h2, h3, h4, h17, h5, h6, h7, h67, h68]; rfl))

end Go.Proofs.Qxb6500316a
