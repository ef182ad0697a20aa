/-
  Facts: Holds.
-/
import Derived.Test.Qxb6500316aFaF
set_option linter.unusedSimpArgs false
set_option linter.unusedVariables false
set_option maxRecDepth 100000
namespace Go.Proofs.Qxb6500316a
open Go Go.Vc

def TR (w : World) : Value → World → Prop := fun v w' => v = .bool true ∧ Same [] w.heap.size w w'
theorem TR.i (w : World) {b : Bool} (h : b = true) : TR w (.bool b) w := ⟨by rw [h], Same.refl _ _ _⟩
theorem strs {a b : ByteArray} (h : a = b) : (ByteArray.toList a == ByteArray.toList b) = true := by rw [h]; exact beq_self_eq_true _
section
variable {w : World} {lo mb : Nat} {m : Nat → Value} {P : PM}
def HoldsOk (w : World) (mb i : Nat) : Prop := Runs Try.prog binlaw_Holds.id #[.int .i64 (i : Int), rp mb] w (TR w)
theorem holds14 (md : ModAt w mb m) (inv : MInv w lo m P) (hH : holdsB 14 P = true) : HoldsOk w mb 14 := by
  refine binlaw_Holds.enter _ _ _ _ _ ?_
  unfold binlaw_Holds.V
  (repeat (first | refine cond_true' (by decide) ?_ | refine cond_false' (by decide) ?_))
  have h1 : P.nTy = 8 := by simpa [holdsB] using hH
  obtain ⟨a, c⟩ := lenC md 0 (by decide) inv.t0
  rw [h1] at c
  exact nil_i ⟨_, _, _, c, TR.i w rfl⟩
theorem holds15 (md : ModAt w mb m) (inv : MInv w lo m P) (hH : holdsB 15 P = true) : HoldsOk w mb 15 := by
  refine binlaw_Holds.enter _ _ _ _ _ ?_
  unfold binlaw_Holds.V
  (repeat (first | refine cond_true' (by decide) ?_ | refine cond_false' (by decide) ?_))
  have h1 : P.nIm = 4 := by simpa [holdsB] using hH
  obtain ⟨a, c⟩ := lenC md 1 (by decide) inv.i1
  rw [h1] at c
  exact nil_i ⟨_, _, _, c, TR.i w rfl⟩
theorem holds16 (md : ModAt w mb m) (inv : MInv w lo m P) (hH : holdsB 16 P = true) : HoldsOk w mb 16 := by
  refine binlaw_Holds.enter _ _ _ _ _ ?_
  unfold binlaw_Holds.V
  (repeat (first | refine cond_true' (by decide) ?_ | refine cond_false' (by decide) ?_))
  have h1 : P.gn = 4 := by simpa [holdsB] using hH
  obtain ⟨a, c⟩ := lenC md 7 (by decide) inv.g7
  rw [h1] at c
  exact nil_i ⟨_, _, _, c, TR.i w rfl⟩
theorem holds17 (md : ModAt w mb m) (inv : MInv w lo m P) (hH : holdsB 17 P = true) : HoldsOk w mb 17 := by
  refine binlaw_Holds.enter _ _ _ _ _ ?_
  unfold binlaw_Holds.V
  (repeat (first | refine cond_true' (by decide) ?_ | refine cond_false' (by decide) ?_))
  have h1 : P.nEx = 6 := by simpa [holdsB] using hH
  obtain ⟨a, c⟩ := lenC md 8 (by decide) inv.e8
  rw [h1] at c
  exact nil_i ⟨_, _, _, c, TR.i w rfl⟩
theorem holds19 (md : ModAt w mb m) (inv : MInv w lo m P) (hH : holdsB 19 P = true) : HoldsOk w mb 19 := by
  refine binlaw_Holds.enter _ _ _ _ _ ?_
  unfold binlaw_Holds.V
  (repeat (first | refine cond_true' (by decide) ?_ | refine cond_false' (by decide) ?_))
  have h1 : P.nD = 3 := by simpa [holdsB] using hH
  obtain ⟨a, c⟩ := lenC md 11 (by decide) inv.d11
  rw [h1] at c
  exact nil_i ⟨_, _, _, c, TR.i w rfl⟩
theorem holds18 (md : ModAt w mb m) (inv : MInv w lo m P) (hH : holdsB 18 P = true) : HoldsOk w mb 18 := by
  refine binlaw_Holds.enter _ _ _ _ _ ?_
  unfold binlaw_Holds.V
  (repeat (first | refine cond_true' (by decide) ?_ | refine cond_false' (by decide) ?_))
  have h1 : P.nEl = 3 := by simpa [holdsB] using hH
  obtain ⟨a, c, _⟩ := elC md inv.l10
  rw [h1] at c
  exact nil_i ⟨_, _, _, c, TR.i w rfl⟩
theorem holds24 (md : ModAt w mb m) (inv : MInv w lo m P) (hH : holdsB 24 P = true) : HoldsOk w mb 24 := by
  refine binlaw_Holds.enter _ _ _ _ _ ?_
  unfold binlaw_Holds.V
  (repeat (first | refine cond_true' (by decide) ?_ | refine cond_false' (by decide) ?_))
  have h1 : P.nf = 8 := by simpa [holdsB] using hH
  obtain ⟨a, c, _⟩ := fnC md inv.f2
  rw [h1] at c
  exact nil_i ⟨_, _, _, c, TR.i w rfl⟩
theorem holds20 (md : ModAt w mb m) (inv : MInv w lo m P) (hH : holdsB 20 P = true) : HoldsOk w mb 20 := by
  refine binlaw_Holds.enter _ _ _ _ _ ?_
  unfold binlaw_Holds.V
  (repeat (first | refine cond_true' (by decide) ?_ | refine cond_false' (by decide) ?_))
  obtain ⟨h1, h2⟩ : P.nTy = 1 ∧ (P.ty 0).size = 5 := by simpa [holdsB] using hH
  obtain ⟨b, c, r⟩ := rowC md 0 (by decide) inv.t0 h1
  exact nil_i ⟨_, _, _, c, cond_true' rfl (nil_i ⟨_, _, _, c, ⟨by decide, by decide⟩, nil_i ⟨_, r 0 _ rfl, TR.i w (by rw [h2]; rfl)⟩⟩)⟩
theorem holds21 (md : ModAt w mb m) (inv : MInv w lo m P) (hH : holdsB 21 P = true) : HoldsOk w mb 21 := by
  refine binlaw_Holds.enter _ _ _ _ _ ?_
  unfold binlaw_Holds.V
  (repeat (first | refine cond_true' (by decide) ?_ | refine cond_false' (by decide) ?_))
  obtain ⟨h1, h2⟩ : P.nEx = 1 ∧ (P.ex 0).nm.size = 8 := by simpa [holdsB] using hH
  obtain ⟨b, c, r⟩ := rowC md 8 (by decide) inv.e8 h1
  exact nil_i ⟨_, _, _, c, cond_true' rfl (nil_i ⟨_, _, _, c, ⟨by decide, by decide⟩, nil_i ⟨_, r 0 _ rfl, TR.i w (by rw [h2]; rfl)⟩⟩)⟩
theorem holds22 (md : ModAt w mb m) (inv : MInv w lo m P) (hH : holdsB 22 P = true) : HoldsOk w mb 22 := by
  refine binlaw_Holds.enter _ _ _ _ _ ?_
  unfold binlaw_Holds.V
  (repeat (first | refine cond_true' (by decide) ?_ | refine cond_false' (by decide) ?_))
  obtain ⟨h1, h2⟩ : P.nEl = 1 ∧ (P.el 0).n = 6 := by simpa [holdsB] using hH
  obtain ⟨tb, a, c, _, _, _, c3, _⟩ := elC1 md inv.l10 h1
  rw [h2] at c3
  exact nil_i ⟨_, _, _, c, cond_true' rfl (nil_i ⟨_, _, _, c, ⟨by decide, by decide⟩, nil_i ⟨_, _, _, c3, TR.i w rfl⟩⟩)⟩
theorem holds23 (md : ModAt w mb m) (inv : MInv w lo m P) (hH : holdsB 23 P = true) : HoldsOk w mb 23 := by
  refine binlaw_Holds.enter _ _ _ _ _ ?_
  unfold binlaw_Holds.V
  (repeat (first | refine cond_true' (by decide) ?_ | refine cond_false' (by decide) ?_))
  obtain ⟨h1, h2⟩ : P.nD = 1 ∧ (P.da 0).bytes.size = 24 := by simpa [holdsB] using hH
  obtain ⟨b, c, r⟩ := rowC md 11 (by decide) inv.d11 h1
  exact nil_i ⟨_, _, _, c, cond_true' rfl (nil_i ⟨_, _, _, c, ⟨by decide, by decide⟩, nil_i ⟨_, r 3 _ rfl, TR.i w (by rw [h2]; rfl)⟩⟩)⟩
theorem holds25 (md : ModAt w mb m) (inv : MInv w lo m P) (hH : holdsB 25 P = true) : HoldsOk w mb 25 := by
  refine binlaw_Holds.enter _ _ _ _ _ ?_
  unfold binlaw_Holds.V
  (repeat (first | refine cond_true' (by decide) ?_ | refine cond_false' (by decide) ?_))
  obtain ⟨h1, h2⟩ : P.nf = 1 ∧ (P.fn 0).nTab = 24 := by simpa [holdsB] using hH
  obtain ⟨fb, c, r⟩ := fnC' md inv.f2 h1 (by decide)
  obtain ⟨tk, c3, _⟩ := tabsC r 0 (by decide) h2 (by decide)
  exact nil_i ⟨_, _, _, c, cond_true' rfl (nil_i ⟨_, _, _, c, ⟨by decide, by decide⟩, nil_i ⟨_, _, _, c3, TR.i w rfl⟩⟩)⟩
theorem holds26 (md : ModAt w mb m) (inv : MInv w lo m P) (hH : holdsB 26 P = true) : HoldsOk w mb 26 := by
  refine binlaw_Holds.enter _ _ _ _ _ ?_
  unfold binlaw_Holds.V
  (repeat (first | refine cond_true' (by decide) ?_ | refine cond_false' (by decide) ?_))
  simp only [holdsB, Bool.and_eq_true, beq_iff_eq] at hH
  obtain ⟨h1, h2, h3⟩ := hH
  obtain ⟨fb, c, r⟩ := fnC' md inv.f2 h1 (by decide)
  obtain ⟨nb, c2, _, _⟩ := bodyC r 0 (by decide) h3
  have c1 := r.c1 0 (by decide)
  rw [h2] at c1
  exact nil_i ⟨_, _, _, c, cond_true' rfl (nil_i ⟨_, _, _, c, ⟨by decide, by decide⟩, nil_i ⟨_, c1, cond_true' (strs rfl) (nil_i ⟨_, _, _, c, ⟨by decide, by decide⟩, nil_i ⟨_, _, _, c2, TR.i w rfl⟩⟩)⟩⟩)⟩
theorem eqG1 (w : World) (x y : Operand) : Sem.run Try.prog ((do eqGuard .eql T_api_Global x y (.agg #[(.int .u8 126), (.bool true), (.int .u8 66), (.int .u32 0), (.int .u64 5)]) (.agg #[(.int .u8 126), (.bool true), (.int .u8 66), (.int .u32 0), (.int .u64 5)]); Go.binOp .eql T_api_Global (.agg #[(.int .u8 126), (.bool true), (.int .u8 66), (.int .u32 0), (.int .u64 5)]) (.agg #[(.int .u8 126), (.bool true), (.int .u8 66), (.int .u32 0), (.int .u64 5)]))) w = .ok (.bool true) w := by kernel_rfl
theorem holds1 (md : ModAt w mb m) (inv : MInv w lo m P) (hH : holdsB 1 P = true) : HoldsOk w mb 1 := by
  refine binlaw_Holds.enter _ _ _ _ _ ?_
  unfold binlaw_Holds.V
  (repeat (first | refine cond_true' (by decide) ?_ | refine cond_false' (by decide) ?_))
  simp only [holdsB, Bool.and_eq_true, beq_iff_eq] at hH
  obtain ⟨h1, h2, h3, h4⟩ := hH
  have h4 := insB_eq h4
  obtain ⟨b, c, r⟩ := rowC md 7 (by decide) inv.g7 h1
  have e : globE (P.g 0) = [.int .u8 126, .bool true, .int .u8 66, .int .u32 0, .int .u64 5] := by rw [show globE (P.g 0) = [.int .u8 (P.g 0).ty, .bool (P.g 0).mu, .int .u8 (P.g 0).init.op, .int .u32 (P.g 0).init.x, .int .u64 (P.g 0).init.y] from rfl, h2, h3, h4]
  rw [e] at r
  exact nil_i ⟨_, _, _, c, cond_true' rfl (nil_i ⟨_, _, _, c, ⟨by decide, by decide⟩, nil_i ⟨_, _, _, _, _, r 0 _ rfl, r 1 _ rfl, r 2 _ rfl, r 3 _ rfl, r 4 _ rfl, true, _, eqG1 w _ _, TR.i w rfl⟩⟩)⟩
theorem eqG2 (w : World) (x y : Operand) : Sem.run Try.prog ((do eqGuard .eql T_api_Global x y (.agg #[(.int .u8 127), (.bool false), (.int .u8 65), (.int .u32 0), (.int .u64 5)]) (.agg #[(.int .u8 127), (.bool false), (.int .u8 65), (.int .u32 0), (.int .u64 5)]); Go.binOp .eql T_api_Global (.agg #[(.int .u8 127), (.bool false), (.int .u8 65), (.int .u32 0), (.int .u64 5)]) (.agg #[(.int .u8 127), (.bool false), (.int .u8 65), (.int .u32 0), (.int .u64 5)]))) w = .ok (.bool true) w := by kernel_rfl
theorem holds2 (md : ModAt w mb m) (inv : MInv w lo m P) (hH : holdsB 2 P = true) : HoldsOk w mb 2 := by
  refine binlaw_Holds.enter _ _ _ _ _ ?_
  unfold binlaw_Holds.V
  (repeat (first | refine cond_true' (by decide) ?_ | refine cond_false' (by decide) ?_))
  simp only [holdsB, Bool.and_eq_true, beq_iff_eq] at hH
  obtain ⟨h1, h2, h3, h4⟩ := hH
  have h4 := insB_eq h4
  obtain ⟨b, c, r⟩ := rowC md 7 (by decide) inv.g7 h1
  have e : globE (P.g 0) = [.int .u8 127, .bool false, .int .u8 65, .int .u32 0, .int .u64 5] := by rw [show globE (P.g 0) = [.int .u8 (P.g 0).ty, .bool (P.g 0).mu, .int .u8 (P.g 0).init.op, .int .u32 (P.g 0).init.x, .int .u64 (P.g 0).init.y] from rfl, h2, h3, h4]
  rw [e] at r
  exact nil_i ⟨_, _, _, c, cond_true' rfl (nil_i ⟨_, _, _, c, ⟨by decide, by decide⟩, nil_i ⟨_, _, _, _, _, r 0 _ rfl, r 1 _ rfl, r 2 _ rfl, r 3 _ rfl, r 4 _ rfl, true, _, eqG2 w _ _, TR.i w rfl⟩⟩)⟩
theorem holds3 (md : ModAt w mb m) (inv : MInv w lo m P) (hH : holdsB 3 P = true) : HoldsOk w mb 3 := by
  refine binlaw_Holds.enter _ _ _ _ _ ?_
  unfold binlaw_Holds.V
  (repeat (first | refine cond_true' (by decide) ?_ | refine cond_false' (by decide) ?_))
  simp only [holdsB, Bool.and_eq_true, beq_iff_eq] at hH
  obtain ⟨h1, h2, h3, h4⟩ := hH
  have c0 := md.c 5 (by decide)
  rw [inv.v5, h1] at c0
  have c1 := md.c 6 (by decide)
  rw [inv.v6, h2] at c1
  have c2 := md.c 3 (by decide)
  rw [inv.v3, h3] at c2
  have c3 := md.c 4 (by decide)
  rw [inv.v4, h4] at c3
  exact nil_i ⟨_, c0, cond_true' rfl (nil_i ⟨_, c1, cond_true' rfl (nil_i ⟨_, c2, cond_true' rfl (nil_i ⟨_, c3, TR.i w rfl⟩)⟩)⟩)⟩
theorem holds4 (md : ModAt w mb m) (inv : MInv w lo m P) (hH : holdsB 4 P = true) : HoldsOk w mb 4 := by
  refine binlaw_Holds.enter _ _ _ _ _ ?_
  unfold binlaw_Holds.V
  (repeat (first | refine cond_true' (by decide) ?_ | refine cond_false' (by decide) ?_))
  simp only [holdsB, Bool.and_eq_true, beq_iff_eq] at hH
  obtain ⟨h1, h2, h3, h4⟩ := hH
  have c0 := md.c 3 (by decide)
  rw [inv.v3, h1] at c0
  have c1 := md.c 4 (by decide)
  rw [inv.v4, h2] at c1
  have c2 := md.c 5 (by decide)
  rw [inv.v5, h3] at c2
  have c3 := md.c 6 (by decide)
  rw [inv.v6, h4] at c3
  exact nil_i ⟨_, c0, cond_true' rfl (nil_i ⟨_, c1, cond_true' rfl (nil_i ⟨_, c2, cond_true' rfl (nil_i ⟨_, c3, TR.i w rfl⟩)⟩)⟩)⟩
theorem holds5 (md : ModAt w mb m) (inv : MInv w lo m P) (hH : holdsB 5 P = true) : HoldsOk w mb 5 := by
  refine binlaw_Holds.enter _ _ _ _ _ ?_
  unfold binlaw_Holds.V
  (repeat (first | refine cond_true' (by decide) ?_ | refine cond_false' (by decide) ?_))
  simp only [holdsB, Bool.and_eq_true, beq_iff_eq] at hH
  obtain ⟨h1, h2⟩ := hH
  have c0 := md.c 5 (by decide)
  rw [inv.v5, h1] at c0
  have c1 := md.c 6 (by decide)
  rw [inv.v6, h2] at c1
  exact nil_i ⟨_, c0, cond_true' rfl (nil_i ⟨_, c1, TR.i w rfl⟩)⟩
theorem eqS6 (w : World) (x y : Operand) : Sem.run Try.prog ((do eqGuard .eql T_api_Import x y (.agg #[(.string ⟨#[97, 98]⟩), (.string ⟨#[99, 100]⟩), (.int .i64 3)]) (.agg #[(.string ⟨#[97, 98]⟩), (.string ⟨#[99, 100]⟩), (.int .i64 3)]); Go.binOp .eql T_api_Import (.agg #[(.string ⟨#[97, 98]⟩), (.string ⟨#[99, 100]⟩), (.int .i64 3)]) (.agg #[(.string ⟨#[97, 98]⟩), (.string ⟨#[99, 100]⟩), (.int .i64 3)]))) w = .ok (.bool true) w := by kernel_rfl
theorem holds6 (md : ModAt w mb m) (inv : MInv w lo m P) (hH : holdsB 6 P = true) : HoldsOk w mb 6 := by
  refine binlaw_Holds.enter _ _ _ _ _ ?_
  unfold binlaw_Holds.V
  (repeat (first | refine cond_true' (by decide) ?_ | refine cond_false' (by decide) ?_))
  simp only [holdsB, Bool.and_eq_true, beq_iff_eq] at hH
  obtain ⟨h1, h2, h3, h4⟩ := hH
  have h2 := bB_eq h2
  have h3 := bB_eq h3
  obtain ⟨b, c, r⟩ := rowC md 1 (by decide) inv.i1 h1
  have e : impE (P.im 0) = [(.string ⟨#[97, 98]⟩), (.string ⟨#[99, 100]⟩), (.int .i64 3)] := by rw [show impE (P.im 0) = [.string (P.im 0).md, .string (P.im 0).nm, .int .i64 (P.im 0).ty] from rfl, h2, h3, h4]; rfl
  rw [e] at r
  exact nil_i ⟨_, _, _, c, cond_true' rfl (nil_i ⟨_, _, _, c, ⟨by decide, by decide⟩, nil_i ⟨_, _, _, r 0 _ rfl, r 1 _ rfl, r 2 _ rfl, true, _, eqS6 w _ _, TR.i w rfl⟩⟩)⟩
theorem eqS7 (w : World) (x y : Operand) : Sem.run Try.prog ((do eqGuard .eql T_api_Data x y (.agg #[(.int .u8 65), (.int .u32 0), (.int .u64 3), (.string ⟨#[120, 121]⟩)]) (.agg #[(.int .u8 65), (.int .u32 0), (.int .u64 3), (.string ⟨#[120, 121]⟩)]); Go.binOp .eql T_api_Data (.agg #[(.int .u8 65), (.int .u32 0), (.int .u64 3), (.string ⟨#[120, 121]⟩)]) (.agg #[(.int .u8 65), (.int .u32 0), (.int .u64 3), (.string ⟨#[120, 121]⟩)]))) w = .ok (.bool true) w := by kernel_rfl
theorem holds7 (md : ModAt w mb m) (inv : MInv w lo m P) (hH : holdsB 7 P = true) : HoldsOk w mb 7 := by
  refine binlaw_Holds.enter _ _ _ _ _ ?_
  unfold binlaw_Holds.V
  (repeat (first | refine cond_true' (by decide) ?_ | refine cond_false' (by decide) ?_))
  simp only [holdsB, Bool.and_eq_true, beq_iff_eq] at hH
  obtain ⟨h1, h2, h3⟩ := hH
  have h2 := insB_eq h2
  have h3 := bB_eq h3
  obtain ⟨b, c, r⟩ := rowC md 11 (by decide) inv.d11 h1
  have e : datE (P.da 0) = [(.int .u8 65), (.int .u32 0), (.int .u64 3), (.string ⟨#[120, 121]⟩)] := by rw [show datE (P.da 0) = [.int .u8 (P.da 0).off.op, .int .u32 (P.da 0).off.x, .int .u64 (P.da 0).off.y, .string (P.da 0).bytes] from rfl, h2, h3]; rfl
  rw [e] at r
  exact nil_i ⟨_, _, _, c, cond_true' rfl (nil_i ⟨_, _, _, c, ⟨by decide, by decide⟩, nil_i ⟨_, _, _, _, r 0 _ rfl, r 1 _ rfl, r 2 _ rfl, r 3 _ rfl, true, _, eqS7 w _ _, TR.i w rfl⟩⟩)⟩
theorem eqS8 (w : World) (x y : Operand) : Sem.run Try.prog ((do eqGuard .eql T_api_Export x y (.agg #[(.string ⟨#[101, 102]⟩), (.int .u8 2), (.int .u32 3)]) (.agg #[(.string ⟨#[101, 102]⟩), (.int .u8 2), (.int .u32 3)]); Go.binOp .eql T_api_Export (.agg #[(.string ⟨#[101, 102]⟩), (.int .u8 2), (.int .u32 3)]) (.agg #[(.string ⟨#[101, 102]⟩), (.int .u8 2), (.int .u32 3)]))) w = .ok (.bool true) w := by kernel_rfl
theorem holds8 (md : ModAt w mb m) (inv : MInv w lo m P) (hH : holdsB 8 P = true) : HoldsOk w mb 8 := by
  refine binlaw_Holds.enter _ _ _ _ _ ?_
  unfold binlaw_Holds.V
  (repeat (first | refine cond_true' (by decide) ?_ | refine cond_false' (by decide) ?_))
  simp only [holdsB, Bool.and_eq_true, beq_iff_eq] at hH
  obtain ⟨h1, h2, h3, h4⟩ := hH
  have h2 := bB_eq h2
  obtain ⟨b, c, r⟩ := rowC md 8 (by decide) inv.e8 h1
  have e : expE (P.ex 0) = [(.string ⟨#[101, 102]⟩), (.int .u8 2), (.int .u32 3)] := by rw [show expE (P.ex 0) = [.string (P.ex 0).nm, .int .u8 (P.ex 0).kind, .int .u32 (P.ex 0).idx] from rfl, h2, h3, h4]; rfl
  rw [e] at r
  exact nil_i ⟨_, _, _, c, cond_true' rfl (nil_i ⟨_, _, _, c, ⟨by decide, by decide⟩, nil_i ⟨_, _, _, r 0 _ rfl, r 1 _ rfl, r 2 _ rfl, true, _, eqS8 w _ _, TR.i w rfl⟩⟩)⟩
theorem holds9 (md : ModAt w mb m) (inv : MInv w lo m P) (hH : holdsB 9 P = true) : HoldsOk w mb 9 := by
  refine binlaw_Holds.enter _ _ _ _ _ ?_
  unfold binlaw_Holds.V
  (repeat (first | refine cond_true' (by decide) ?_ | refine cond_false' (by decide) ?_))
  simp only [holdsB, Bool.and_eq_true, beq_iff_eq] at hH
  obtain ⟨h1, h2, h3, h4, h5⟩ := hH
  have h3 := insB_eq h3
  obtain ⟨tb, a, c, k0, k1, k2, k3, k4⟩ := elC1 md inv.l10 h1
  obtain ⟨fb, rfl, hf⟩ := k4 (by omega)
  have f0 := hf 0 (by omega)
  have f1 := hf 1 (by omega)
  rw [h2] at k3
  rw [h4] at f0
  rw [h5] at f1
  rw [h3] at k0 k1 k2
  refine nil_i ⟨_, _, _, c, cond_false' rfl (nil_i ⟨_, _, _, c, ⟨by decide, by decide⟩, nil_i ⟨_, _, _, k3, cond_false' rfl ?_⟩⟩)⟩
  refine binlaw_Holds.step1 _ _ _ _ ?_
  unfold binlaw_Holds.V1
  exact nil_i ⟨_, _, _, c, ⟨by decide, by decide⟩, nil_i ⟨_, _, _, k0, k1, k2, true, _, run_eqIns w _ _ _ _ _, cond_true' rfl (nil_i ⟨_, _, _, c, ⟨by decide, by decide⟩, nil_i ⟨_, _, _, k3, ⟨by decide, by decide⟩, nil_i ⟨_, f0, cond_true' rfl (nil_i ⟨_, _, _, c, ⟨by decide, by decide⟩, nil_i ⟨_, _, _, k3, ⟨by decide, by decide⟩, nil_i ⟨_, f1, TR.i w rfl⟩⟩⟩)⟩⟩⟩)⟩⟩
theorem holds10 (md : ModAt w mb m) (inv : MInv w lo m P) (hH : holdsB 10 P = true) : HoldsOk w mb 10 := by
  refine binlaw_Holds.enter _ _ _ _ _ ?_
  unfold binlaw_Holds.V
  (repeat (first | refine cond_true' (by decide) ?_ | refine cond_false' (by decide) ?_))
  simp only [holdsB, Bool.and_eq_true, beq_iff_eq] at hH
  obtain ⟨h1, h2⟩ := hH
  have h2 := bB_eq h2
  obtain ⟨b, c, r⟩ := rowC md 0 (by decide) inv.t0 h1
  exact nil_i ⟨_, _, _, c, cond_true' rfl (nil_i ⟨_, _, _, c, ⟨by decide, by decide⟩, nil_i ⟨_, r 0 _ rfl, TR.i w (strs h2)⟩⟩)⟩
theorem holds0 (md : ModAt w mb m) (inv : MInv w lo m P) (hH : holdsB 0 P = true) : HoldsOk w mb 0 := by
  refine binlaw_Holds.enter _ _ _ _ _ ?_
  unfold binlaw_Holds.V
  (repeat (first | refine cond_true' (by decide) ?_ | refine cond_false' (by decide) ?_))
  simp only [holdsB, Bool.and_eq_true, beq_iff_eq] at hH
  obtain ⟨h1, h2, h3⟩ := hH
  obtain ⟨fb, c, r⟩ := fnC' md inv.f2 h1 (by decide)
  obtain ⟨nb, c2, row, lnb⟩ := bodyC r 0 (by decide) h2
  refine nil_i ⟨_, _, _, c, cond_true' rfl (nil_i ⟨_, _, _, c, ⟨by decide, by decide⟩, nil_i ⟨_, _, _, c2, letB_intro fun wb hwb => letW_intro fun w1 hw1 => ?_⟩⟩)⟩
  subst hwb
  haveI := outNil
  have S1 : Same [] w.heap.size w w1 := by rw [hw1]; exact (Same.refl _ _ _).alloc (Nat.le_refl _) _
  have z1 : w1.heap.size = w.heap.size + 1 := by rw [hw1]; simp
  have wr := want_row w _ body0 _ rfl hw1 (f := (P.fn 0).ins) (fun j x hj => by have := insLB_at h3 j x hj; rwa [Nat.zero_add] at this)
  refine RunsQ.post (cells_spec (row.same S1 lnb (by simp)) wr (by omega) (by omega) (by decide)) ?_
  rintro v w2 ⟨rfl, S2⟩
  exact ⟨_, rfl, rfl, S1.trans (S2.mono S1.size (by simp))⟩
theorem holds11 (md : ModAt w mb m) (inv : MInv w lo m P) (hH : holdsB 11 P = true) : HoldsOk w mb 11 := by
  refine binlaw_Holds.enter _ _ _ _ _ ?_
  unfold binlaw_Holds.V
  (repeat (first | refine cond_true' (by decide) ?_ | refine cond_false' (by decide) ?_))
  simp only [holdsB, Bool.and_eq_true, beq_iff_eq] at hH
  obtain ⟨h1, h2, h3, h4, h5, h6, h7, h8, h9⟩ := hH
  obtain ⟨fb, c, r⟩ := fnC' md inv.f2 h1 (by decide)
  obtain ⟨n0, c0, row0, l0⟩ := bodyC r 0 (by decide) h2
  obtain ⟨n1, c1, row1, l1⟩ := bodyC r 1 (by decide) h3
  have q0 := insLB_at h4 0 _ rfl
  have q10 := insLB_at h5 0 _ rfl
  have q11 := insLB_at h5 1 _ rfl
  rw [Nat.zero_add] at q0 q10 q11
  have a0 := row0.i0 0 (by decide); have a1 := row0.i1 0 (by decide); have a2 := row0.i2 0 (by decide)
  have b0 := row1.i0 1 (by decide); have b1 := row1.i1 1 (by decide); have b2 := row1.i2 1 (by decide)
  have d0 := row1.i0 0 (by decide); have d1 := row1.i1 0 (by decide); have d2 := row1.i2 0 (by decide)
  rw [q0] at a0 a1 a2
  rw [q11] at b0 b1 b2
  rw [q10] at d0 d1 d2
  have t0 := r.c0 0 (by decide); have t1 := r.c0 1 (by decide)
  have s0 := r.c1 0 (by decide); have s1 := r.c1 1 (by decide)
  rw [h6] at t0; rw [h7] at s0; rw [h8] at t1; rw [h9] at s1
  refine nil_i ⟨_, _, _, c, cond_false' rfl (nil_i ⟨_, _, _, c, ⟨by decide, by decide⟩, nil_i ⟨_, _, _, c0, cond_false' rfl (nil_i ⟨_, _, _, c, ⟨by decide, by decide⟩, nil_i ⟨_, _, _, c1, cond_false' rfl ?_⟩⟩)⟩⟩)⟩
  refine binlaw_Holds.step2 _ _ _ _ ?_
  unfold binlaw_Holds.V2
  refine nil_i ⟨_, _, _, c, ⟨by decide, by decide⟩, nil_i ⟨_, _, _, c0, ⟨by decide, by decide⟩, nil_i ⟨_, _, _, a0, a1, a2, false, _, run_neqIns w _ _ _ _ _, cond_false' rfl (nil_i ⟨_, _, _, c, ⟨by decide, by decide⟩, nil_i ⟨_, _, _, c1, ⟨by decide, by decide⟩, nil_i ⟨_, _, _, b0, b1, b2, false, _, run_neqIns w _ _ _ _ _, cond_false' rfl ?_⟩⟩⟩)⟩⟩⟩
  refine binlaw_Holds.step5 _ _ _ _ ?_
  unfold binlaw_Holds.V5
  exact nil_i ⟨_, _, _, c, ⟨by decide, by decide⟩, nil_i ⟨_, t0, cond_true' rfl (nil_i ⟨_, _, _, c, ⟨by decide, by decide⟩, nil_i ⟨_, s0, cond_true' (strs rfl) (nil_i ⟨_, _, _, c, ⟨by decide, by decide⟩, nil_i ⟨_, t1, cond_true' rfl (nil_i ⟨_, _, _, c, ⟨by decide, by decide⟩, nil_i ⟨_, s1, cond_true' (strs rfl) (nil_i ⟨_, _, _, c, ⟨by decide, by decide⟩, nil_i ⟨_, _, _, c1, ⟨by decide, by decide⟩, nil_i ⟨_, _, _, d0, d1, d2, true, _, run_eqIns w _ _ _ _ _, TR.i w rfl⟩⟩⟩)⟩⟩)⟩⟩)⟩⟩)⟩⟩
theorem holds12 (md : ModAt w mb m) (inv : MInv w lo m P) (hH : holdsB 12 P = true) : HoldsOk w mb 12 := by
  refine binlaw_Holds.enter _ _ _ _ _ ?_
  unfold binlaw_Holds.V
  (repeat (first | refine cond_true' (by decide) ?_ | refine cond_false' (by decide) ?_))
  simp only [holdsB, Bool.and_eq_true, beq_iff_eq] at hH
  obtain ⟨h1, h2, h3, h4, h5, h6, h7⟩ := hH
  obtain ⟨fb, c, r⟩ := fnC' md inv.f2 h1 (by decide)
  obtain ⟨nb, c2, row, lnb⟩ := bodyC r 0 (by decide) h2
  obtain ⟨tk, c3, tr⟩ := tabsC r 0 (by decide) h3 (by decide)
  have t0 := tr 0 (by decide); have t1 := tr 1 (by decide); have t2 := tr 2 (by decide)
  rw [h4] at t0; rw [h5] at t1; rw [h6] at t2
  refine nil_i ⟨_, _, _, c, cond_false' rfl (nil_i ⟨_, _, _, c, ⟨by decide, by decide⟩, nil_i ⟨_, _, _, c2, cond_false' rfl (nil_i ⟨_, _, _, c, ⟨by decide, by decide⟩, nil_i ⟨_, _, _, c3, cond_false' rfl ?_⟩⟩)⟩⟩)⟩
  refine binlaw_Holds.step3 _ _ _ _ ?_
  unfold binlaw_Holds.V3
  refine nil_i ⟨_, _, _, c, ⟨by decide, by decide⟩, nil_i ⟨_, _, _, c3, ⟨by decide, by decide⟩, nil_i ⟨_, t0, cond_false' rfl ⟨_, _, _, c3, ⟨by decide, by decide⟩, nil_i ⟨_, t1, cond_false' rfl ⟨_, _, _, c3, ⟨by decide, by decide⟩, nil_i ⟨_, t2, cond_false' rfl ?_⟩⟩⟩⟩⟩⟩⟩
  refine binlaw_Holds.step6 _ _ _ _ ?_
  unfold binlaw_Holds.V6
  refine nil_i ⟨_, _, _, c2, letB_intro fun wb hwb => letW_intro fun w1 hw1 => ?_⟩
  subst hwb
  haveI := outNil
  have S1 : Same [] w.heap.size w w1 := by rw [hw1]; exact (Same.refl _ _ _).alloc (Nat.le_refl _) _
  have z1 : w1.heap.size = w.heap.size + 1 := by rw [hw1]; simp
  have wr := want_row w _ body12 _ rfl hw1 (f := (P.fn 0).ins) (fun j x hj => by have := insLB_at h7 j x hj; rwa [Nat.zero_add] at this)
  refine RunsQ.post (cells_spec (row.same S1 lnb (by simp)) wr (by omega) (by omega) (by decide)) ?_
  rintro v w2 ⟨rfl, S2⟩
  exact ⟨_, rfl, rfl, S1.trans (S2.mono S1.size (by simp))⟩
theorem holds13 (md : ModAt w mb m) (inv : MInv w lo m P) (hH : holdsB 13 P = true) : HoldsOk w mb 13 := by
  refine binlaw_Holds.enter _ _ _ _ _ ?_
  unfold binlaw_Holds.V
  (repeat (first | refine cond_true' (by decide) ?_ | refine cond_false' (by decide) ?_))
  simp only [holdsB, Bool.and_eq_true, beq_iff_eq] at hH
  obtain ⟨h1, h2, h3⟩ := hH
  obtain ⟨fb, c, r⟩ := fnC' md inv.f2 h1 (by decide)
  obtain ⟨nb, c2, row, lnb⟩ := bodyC r 0 (by decide) h2
  refine nil_i ⟨_, _, _, c, cond_false' rfl (nil_i ⟨_, _, _, c, ⟨by decide, by decide⟩, nil_i ⟨_, _, _, c2, cond_false' rfl ?_⟩⟩)⟩
  refine binlaw_Holds.step4 _ _ _ _ ?_
  unfold binlaw_Holds.V4
  refine nil_i ⟨_, _, _, c, ⟨by decide, by decide⟩, nil_i ⟨_, _, _, c2, letB_intro fun wb hwb => letW_intro fun w1 hw1 => ?_⟩⟩
  subst hwb
  haveI := outNil
  have S1 : Same [] w.heap.size w w1 := by rw [hw1]; exact (Same.refl _ _ _).alloc (Nat.le_refl _) _
  have z1 : w1.heap.size = w.heap.size + 1 := by rw [hw1]; simp
  have wr := want_row w _ body13 _ rfl hw1 (f := (P.fn 0).ins) (fun j x hj => by have := insLB_at h3 j x hj; rwa [Nat.zero_add] at this)
  refine RunsQ.post (cells_spec (row.same S1 lnb (by simp)) wr (by omega) (by omega) (by decide)) ?_
  rintro v w2 ⟨rfl, S2⟩
  exact ⟨_, rfl, rfl, S1.trans (S2.mono S1.size (by simp))⟩
theorem Holds_spec (md : ModAt w mb m) (inv : MInv w lo m P) (i : Nat) (hi : i < 27) (hH : holdsB i P = true) : HoldsOk w mb i := by
  match i, hi, hH with
  | 0, _, hH => exact holds0 md inv hH
  | 1, _, hH => exact holds1 md inv hH
  | 2, _, hH => exact holds2 md inv hH
  | 3, _, hH => exact holds3 md inv hH
  | 4, _, hH => exact holds4 md inv hH
  | 5, _, hH => exact holds5 md inv hH
  | 6, _, hH => exact holds6 md inv hH
  | 7, _, hH => exact holds7 md inv hH
  | 8, _, hH => exact holds8 md inv hH
  | 9, _, hH => exact holds9 md inv hH
  | 10, _, hH => exact holds10 md inv hH
  | 11, _, hH => exact holds11 md inv hH
  | 12, _, hH => exact holds12 md inv hH
  | 13, _, hH => exact holds13 md inv hH
  | 14, _, hH => exact holds14 md inv hH
  | 15, _, hH => exact holds15 md inv hH
  | 16, _, hH => exact holds16 md inv hH
  | 17, _, hH => exact holds17 md inv hH
  | 18, _, hH => exact holds18 md inv hH
  | 19, _, hH => exact holds19 md inv hH
  | 20, _, hH => exact holds20 md inv hH
  | 21, _, hH => exact holds21 md inv hH
  | 22, _, hH => exact holds22 md inv hH
  | 23, _, hH => exact holds23 md inv hH
  | 24, _, hH => exact holds24 md inv hH
  | 25, _, hH => exact holds25 md inv hH
  | 26, _, hH => exact holds26 md inv hH
end

end Go.Proofs.Qxb6500316a
