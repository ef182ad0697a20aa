/-
  KeepsFloat: canonical NaNs, bits, order.
-/
import Derived.Test.Qxb6500320aVaD
import Derived.Test.Qxb6500320aApF
set_option linter.unusedSimpArgs false
set_option linter.unusedVariables false
set_option maxRecDepth 100000
namespace Go.Proofs.Qxb6500320a
open Go Go.Vc

theorem apL_spec (op a b : Int) (hb : U64 b) (w : World) : Runs Try.prog numlaw_ap.id #[.int .i64 op, .int .u64 a, .int .u64 b] w fun v w' => v = .int .u64 (ap op a b).1 ∧ Same [] w.heap.size w w' := by
  refine numlaw_ap.enter _ _ _ _ _ ?_
  unfold numlaw_ap.V
  refine (Apply_spec op a b hb.1 hb.2 w).mono ?_
  rintro v w1 ⟨rfl, hS⟩
  exact ⟨_, _, rfl, rfl, hS⟩

theorem u64_0 : U64 0 := by unfold U64; decide
theorem u64_nat {n : Nat} (h : n < 18446744073709551616) : U64 (n : Int) := by unfold U64; omega

/-! ### A format's numbers as a record -/
structure FmtV where
  un : Int
  bin : Int
  rel : Int
  sign : Int
  inf : Int
  canon : Int

def FmtV.val (f : FmtV) : Value := .agg #[.int .i64 f.un, .int .i64 f.bin, .int .i64 f.rel, .int .u64 f.sign, .int .u64 f.inf, .int .u64 f.canon]
def fmt32 : FmtV := ⟨139, 146, 91, 2147483648, 2139095040, 2143289344⟩
def fmt64 : FmtV := ⟨153, 160, 97, 9223372036854775808, 9218868437227405312, 9221120237041090560⟩

structure FmtAt (w : World) (b : Nat) (f : FmtV) : Prop where
  c0 : w.cell? ⟨b, 0, none⟩ = some (.int .i64 f.un)
  c1 : w.cell? ⟨b, 1, none⟩ = some (.int .i64 f.bin)
  c2 : w.cell? ⟨b, 2, none⟩ = some (.int .i64 f.rel)
  c3 : w.cell? ⟨b, 3, none⟩ = some (.int .u64 f.sign)
  c4 : w.cell? ⟨b, 4, none⟩ = some (.int .u64 f.inf)
  c5 : w.cell? ⟨b, 5, none⟩ = some (.int .u64 f.canon)
  f : ∀ j, w.frozen? ⟨b, j, none⟩ = false

theorem FmtAt.lt {w : World} {b : Nat} {f : FmtV} (h : FmtAt w b f) : b < w.heap.size := cell_lt h.c0
theorem FmtAt.same {w w' : World} {b : Nat} {f : FmtV} (h : FmtAt w b f) {S : List Nat} {B : Nat} (hs : Same S B w w') (hb : b < B) (hS : b ∉ S) : FmtAt w' b f :=
  ⟨by rw [hs.cell hb hS]; exact h.c0, by rw [hs.cell hb hS]; exact h.c1, by rw [hs.cell hb hS]; exact h.c2, by rw [hs.cell hb hS]; exact h.c3, by rw [hs.cell hb hS]; exact h.c4, by rw [hs.cell hb hS]; exact h.c5, fun j => by rw [hs.frozen hb hS]; exact h.f j⟩
theorem FmtAt.keep {w w' : World} {b : Nat} {f : FmtV} (h : FmtAt w b f) (hs : Same [] w.heap.size w w') : FmtAt w' b f := h.same hs h.lt (by simp)
theorem FmtAt.new (w : World) (f : FmtV) (t : TypeId) : FmtAt (w.alloc (.cells #[.int .i64 f.un, .int .i64 f.bin, .int .i64 f.rel, .int .u64 f.sign, .int .u64 f.inf, .int .u64 f.canon] t)) w.heap.size f :=
  ⟨by rw [World.cell?_alloc_new]; rfl, by rw [World.cell?_alloc_new]; rfl, by rw [World.cell?_alloc_new]; rfl, by rw [World.cell?_alloc_new]; rfl, by rw [World.cell?_alloc_new]; rfl, by rw [World.cell?_alloc_new]; rfl, fun j => by rw [World.frozen?_alloc_new]⟩
theorem FmtAt.can {w : World} {b : Nat} {f : FmtV} (h : FmtAt w b f) (j : Nat) (hj : j < 6) : can w ⟨b, j, none⟩ := by
  refine ⟨?_, h.f j⟩
  have : j = 0 ∨ j = 1 ∨ j = 2 ∨ j = 3 ∨ j = 4 ∨ j = 5 := by omega
  rcases this with rfl | rfl | rfl | rfl | rfl | rfl
  · exact ⟨_, h.c0⟩
  · exact ⟨_, h.c1⟩
  · exact ⟨_, h.c2⟩
  · exact ⟨_, h.c3⟩
  · exact ⟨_, h.c4⟩
  · exact ⟨_, h.c5⟩
theorem FmtAt.put_intro {w : World} {b : Nat} {f g : FmtV} (h : FmtAt w b f) {K : World → Prop} (hK : ∀ w', FmtAt w' b g → (∀ B, Same [b] B w w') → K w') :
    putCells w ⟨b, 0, none⟩ [.int .i64 g.un, .int .i64 g.bin, .int .i64 g.rel, .int .u64 g.sign, .int .u64 g.inf, .int .u64 g.canon] K :=
  putCells_intro b _ 0 w K (fun j hj => by rw [Nat.zero_add]; exact h.can j (by simpa using hj)) (fun w' hF => hK w'
    ⟨by rw [hF.cell, if_pos (by simp)]; rfl, by rw [hF.cell, if_pos (by simp)]; rfl, by rw [hF.cell, if_pos (by simp)]; rfl, by rw [hF.cell, if_pos (by simp)]; rfl, by rw [hF.cell, if_pos (by simp)]; rfl, by rw [hF.cell, if_pos (by simp)]; rfl, fun j => by rw [hF.frozen]; exact h.f j⟩ hF.same)

theorem same_fresh {w w1 w2 : World} {b : Nat} (h1 : Same [] w.heap.size w w1) (hb : w.heap.size ≤ b) (h2 : ∀ B, Same [b] B w1 w2) : Same [] w.heap.size w w2 :=
  h1.trans ((h2 w.heap.size).mono (Nat.le_refl _) (by intro k hk hlt; simp at hk; omega))

theorem F32_spec (w : World) : Runs Try.prog numlaw_F32.id #[] w fun v w' => v = fmt32.val ∧ Same [] w.heap.size w w' := by
  refine numlaw_F32.enter _ _ ?_
  unfold numlaw_F32.V
  refine letB_intro fun b hb => letW_intro fun w1 hw1 => ?_
  have h0 : FmtAt w1 b ⟨0, 0, 0, 0, 0, 0⟩ := by rw [hw1, hb]; exact FmtAt.new w ⟨0, 0, 0, 0, 0, 0⟩ T_numlaw_Fmt
  have hS : Same [] w.heap.size w w1 := by rw [hw1]; exact (Same.refl _ _ _).alloc (Nat.le_refl _) _
  refine h0.put_intro (g := fmt32) fun w2 hf h2 => ?_
  exact ⟨_, _, _, _, _, _, hf.c0, hf.c1, hf.c2, hf.c3, hf.c4, hf.c5, rfl, same_fresh hS (by omega) h2⟩

theorem F64_spec (w : World) : Runs Try.prog numlaw_F64.id #[] w fun v w' => v = fmt64.val ∧ Same [] w.heap.size w w' := by
  refine numlaw_F64.enter _ _ ?_
  unfold numlaw_F64.V
  refine letB_intro fun b hb => letW_intro fun w1 hw1 => ?_
  have h0 : FmtAt w1 b ⟨0, 0, 0, 0, 0, 0⟩ := by rw [hw1, hb]; exact FmtAt.new w ⟨0, 0, 0, 0, 0, 0⟩ T_numlaw_Fmt
  have hS : Same [] w.heap.size w w1 := by rw [hw1]; exact (Same.refl _ _ _).alloc (Nat.le_refl _) _
  refine h0.put_intro (g := fmt64) fun w2 hf h2 => ?_
  exact ⟨_, _, _, _, _, _, hf.c0, hf.c1, hf.c2, hf.c3, hf.c4, hf.c5, rfl, same_fresh hS (by omega) h2⟩

/-! ### What Apply says of two floats -/

theorem apf32 (op : Int) (x y : Nat) (hx : x < 4294967296) (hy : y < 4294967296) (h0 : 139 ≤ op) (h1 : op ≤ 152) : (ap op x y).1 = fl32 op x y := by
  rw [ap_flt32 op x y h0 h1, wrap32_n x hx, wrap32_n y hy]
  exact wrap_small _ (fl32_rng op x y (by omega) (by omega))
theorem apr32 (op : Int) (x y : Nat) (hx : x < 4294967296) (hy : y < 4294967296) (h0 : 91 ≤ op) (h1 : op ≤ 96) : (ap op x y).1 = num_flag.F (num_relF32.F op x y) := by
  rw [ap_relF32 op x y h0 h1, wrap32_n x hx, wrap32_n y hy]; rfl

theorem KeptBits32_spec (x y : Nat) (hx : x < 4294967296) (hy : y < 4294967296) (w : World) : Runs Try.prog numlaw_KeptBits.id #[fmt32.val, .int .u64 x, .int .u64 y] w fun v w' => v = .bool true ∧ Same [] w.heap.size w w' := by
  refine numlaw_KeptBits.enter 139 146 91 2147483648 2139095040 2143289344 x y _ _ ?_
  unfold numlaw_KeptBits.V
  refine letB_intro fun b hb => letW_intro fun w0 hw0 => ?_
  have f0 : FmtAt w0 b fmt32 := by rw [hw0, hb]; exact FmtAt.new w fmt32 T_numlaw_Fmt
  have T0 : Same [] w.heap.size w w0 := by rw [hw0]; exact (Same.refl _ _ _).alloc (Nat.le_refl _) _
  clear hw0 hb
  have hX : U64 (x : Int) := u64_nat (by omega)
  have hY : U64 (y : Int) := u64_nat (by omega)
  have d1 : IntKind.wrap .i64 (146 + 1) = 147 := by decide
  have d2 : IntKind.wrap .i64 (146 + 2) = 148 := by decide
  have d6 : IntKind.wrap .i64 (146 + 6) = 152 := by decide
  have n1 : IntKind.wrap .i64 (139 + 1) = 140 := by decide
  refine ⟨_, f0.c1, (apL_spec _ _ _ hY w0).mono ?_⟩
  rintro v w1 ⟨rfl, S1⟩
  refine ⟨_, rfl, ?_⟩
  have f1 := f0.keep S1
  have T1 := T0.trans (S1.mono T0.size (by simp))
  refine ⟨_, f1.c1, (apL_spec _ _ _ hX w1).mono ?_⟩
  rintro v w2 ⟨rfl, S2⟩
  refine ⟨_, rfl, ?_⟩
  have f2 := f1.keep S2
  have T2 := T1.trans (S2.mono T1.size (by simp))
  refine ⟨_, f2.c1, (apL_spec _ _ _ hY w2).mono ?_⟩
  rintro v w3 ⟨rfl, S3⟩
  refine ⟨_, rfl, ?_⟩
  have f3 := f2.keep S3
  have T3 := T2.trans (S3.mono T2.size (by simp))
  refine ⟨_, f3.c1, (apL_spec _ _ _ hX w3).mono ?_⟩
  rintro v w4 ⟨rfl, S4⟩
  refine ⟨_, rfl, ?_⟩
  have f4 := f3.keep S4
  have T4 := T3.trans (S4.mono T3.size (by simp))
  refine ⟨_, f4.c0, (apL_spec _ _ _ u64_0 w4).mono ?_⟩
  rintro v w5 ⟨rfl, S5⟩
  refine ⟨_, rfl, ?_⟩
  have f5 := f4.keep S5
  have T5 := T4.trans (S5.mono T4.size (by simp))
  refine ⟨_, f5.c0, (apL_spec _ _ _ u64_0 w5).mono ?_⟩
  rintro v w6 ⟨rfl, S6⟩
  refine ⟨_, rfl, ?_⟩
  have f6 := f5.keep S6
  have T6 := T5.trans (S6.mono T5.size (by simp))
  refine ⟨_, f6.c1, (apL_spec _ _ _ hY w6).mono ?_⟩
  rintro v w7 ⟨rfl, S7⟩
  refine ⟨_, rfl, ?_⟩
  have f7 := f6.keep S7
  have T7 := T6.trans (S7.mono T6.size (by simp))
  refine ⟨_, f7.c1, (apL_spec _ _ _ hX w7).mono ?_⟩
  rintro v w8 ⟨rfl, S8⟩
  refine ⟨_, rfl, ?_⟩
  have f8 := f7.keep S8
  have T8 := T7.trans (S8.mono T7.size (by simp))
  have c1 : fmt32.bin = 146 := rfl
  have c0 : fmt32.un = 139 := rfl
  rw [c1, c0, d1, d2, d6, n1]
  have ez : ((0 : Nat) : Int) = 0 := rfl
  have a1 := apf32 146 x y hx hy (by decide) (by decide)
  have a2 := apf32 146 y x hy hx (by decide) (by decide)
  have a3 := apf32 148 x y hx hy (by decide) (by decide)
  have a4 := apf32 148 y x hy hx (by decide) (by decide)
  have a5 := apf32 140 x 0 hx (by decide) (by decide) (by decide)
  have a6 := apf32 139 x 0 hx (by decide) (by decide) (by decide)
  have a7 := apf32 152 x y hx hy (by decide) (by decide)
  have a8 := apf32 147 x x hx hx (by decide) (by decide)
  rw [ez] at a5 a6
  rw [a1, a2, a3, a4, a5, a6, a7, a8, (fl32_comm x y).1, (fl32_comm x y).2]
  refine cond_false' (by simp) (cond_false' (by simp) ?_)
  have eneg : fl32 140 x 0 = bXor .u32 x 2147483648 := rfl
  have eabs : fl32 139 x 0 = bAndNot .u32 x 2147483648 := rfl
  have ecp : fl32 152 x y = bOr .u32 (bAndNot .u32 x 2147483648) (bAnd .u32 y 2147483648) := rfl
  have q1 : bXor .u32 (x : Int) 2147483648 = ((x ^^^ 2147483648 : Nat) : Int) := bXor_n .u32 rfl x 2147483648 hx (by decide)
  have q2 : bXor .u64 (x : Int) 2147483648 = ((x ^^^ 2147483648 : Nat) : Int) := bXor_n .u64 rfl x 2147483648 (Nat.lt_trans hx (by decide)) (by decide)
  have q3 : bAnd .u32 (y : Int) 2147483648 = ((y &&& 2147483648 : Nat) : Int) := bAnd32_n y 2147483648 hy (by decide)
  have q4 : bAnd .u64 (y : Int) 2147483648 = ((y &&& 2147483648 : Nat) : Int) := bAnd64_n y 2147483648 (by omega) (by decide)
  have q5 : y &&& 2147483648 ≤ 2147483648 := Nat.and_le_right
  rw [eneg, eabs, ecp]
  refine ⟨_, f8.c3, ?_⟩
  have c3 : fmt32.sign = 2147483648 := rfl
  rw [c3, q1, q2]
  refine cond_false' (by simp) ⟨_, f8.c3, ?_⟩
  rw [c3, andnot32 x hx, andnotu32 x hx]
  refine cond_false' (by simp) ⟨_, f8.c3, _, f8.c3, ?_⟩
  rw [c3, andnot32 x hx, q3, q4, bOr32_n _ _ (by omega) (by omega), bOr64_n _ _ (by omega) (by omega)]
  refine cond_false' (by simp) ?_
  refine numlaw_KeptBits.step1 _ _ _ _ _ ?_
  unfold numlaw_KeptBits.V1
  refine ⟨_, f8.c3, _, f8.c4, ?_⟩
  have c3' : fmt32.sign = 2147483648 := rfl
  have c4' : fmt32.inf = 2139095040 := rfl
  have c5' : fmt32.canon = 2143289344 := rfl
  rw [c3', c4', andnot32 x hx, fl32_self x]
  by_cases hi : 2139095040 ≤ x % 2147483648
  · rw [if_pos hi]
    refine cond_true' (decide_eq_true (by omega)) ⟨_, f8.c5, ?_, T8⟩
    rw [c5']; rfl
  · rw [if_neg hi]
    exact cond_false' (decide_eq_false (by omega)) ⟨rfl, T8⟩

theorem rel32_facts (x y : Nat) (hx : x < 4294967296) (hy : y < 4294967296) (o : Option Ordering) (ho : Ieee.single.order x y = o) :
    (ap 91 x y).1 = num_flag.F (o == some .eq) ∧ (ap 92 x y).1 = num_flag.F (o != some .eq) ∧ (ap 93 x y).1 = num_flag.F (o == some .lt) ∧ (ap 94 x y).1 = num_flag.F (o == some .gt) ∧
    (ap 95 x y).1 = num_flag.F (o == some .lt || o == some .eq) ∧ (ap 96 x y).1 = num_flag.F (o == some .gt || o == some .eq) := by
  subst ho
  refine ⟨?_, ?_, ?_, ?_, ?_, ?_⟩
  · rw [apr32 91 x y hx hy (by decide) (by decide)]; rfl
  · rw [apr32 92 x y hx hy (by decide) (by decide)]; rfl
  · rw [apr32 93 x y hx hy (by decide) (by decide)]; rfl
  · rw [apr32 94 x y hx hy (by decide) (by decide)]; rfl
  · rw [apr32 95 x y hx hy (by decide) (by decide)]; rfl
  · rw [apr32 96 x y hx hy (by decide) (by decide)]; rfl

theorem KeptOrder32_spec (x y : Nat) (hx : x < 4294967296) (hy : y < 4294967296) (w : World) : Runs Try.prog numlaw_KeptOrder.id #[fmt32.val, .int .u64 x, .int .u64 y] w fun v w' => v = .bool true ∧ Same [] w.heap.size w w' := by
  refine numlaw_KeptOrder.enter 139 146 91 2147483648 2139095040 2143289344 x y _ _ ?_
  unfold numlaw_KeptOrder.V
  refine letB_intro fun b hb => letW_intro fun w0 hw0 => ?_
  have f0 : FmtAt w0 b fmt32 := by rw [hw0, hb]; exact FmtAt.new w fmt32 T_numlaw_Fmt
  have T0 : Same [] w.heap.size w w0 := by rw [hw0]; exact (Same.refl _ _ _).alloc (Nat.le_refl _) _
  clear hw0 hb
  have hX : U64 (x : Int) := u64_nat (by omega)
  have hY : U64 (y : Int) := u64_nat (by omega)
  have r1 : IntKind.wrap .i64 (91 + 1) = 92 := by decide
  have r2 : IntKind.wrap .i64 (91 + 2) = 93 := by decide
  have r3 : IntKind.wrap .i64 (91 + 3) = 94 := by decide
  have r4 : IntKind.wrap .i64 (91 + 4) = 95 := by decide
  have r5 : IntKind.wrap .i64 (91 + 5) = 96 := by decide
  have d4 : IntKind.wrap .i64 (146 + 4) = 150 := by decide
  have d5 : IntKind.wrap .i64 (146 + 5) = 151 := by decide
  refine ⟨_, f0.c2, (apL_spec _ _ _ hY w0).mono ?_⟩
  rintro v w1 ⟨rfl, S1⟩
  refine ⟨_, rfl, ?_⟩
  have f1 := f0.keep S1
  have T1 := T0.trans (S1.mono T0.size (by simp))
  refine ⟨_, f1.c2, (apL_spec _ _ _ hY w1).mono ?_⟩
  rintro v w2 ⟨rfl, S2⟩
  refine ⟨_, rfl, ?_⟩
  have f2 := f1.keep S2
  have T2 := T1.trans (S2.mono T1.size (by simp))
  refine ⟨_, f2.c2, (apL_spec _ _ _ hY w2).mono ?_⟩
  rintro v w3 ⟨rfl, S3⟩
  refine ⟨_, rfl, ?_⟩
  have f3 := f2.keep S3
  have T3 := T2.trans (S3.mono T2.size (by simp))
  refine ⟨_, f3.c2, (apL_spec _ _ _ hY w3).mono ?_⟩
  rintro v w4 ⟨rfl, S4⟩
  refine ⟨_, rfl, ?_⟩
  have f4 := f3.keep S4
  have T4 := T3.trans (S4.mono T3.size (by simp))
  refine ⟨_, f4.c2, (apL_spec _ _ _ hY w4).mono ?_⟩
  rintro v w5 ⟨rfl, S5⟩
  refine ⟨_, rfl, ?_⟩
  have f5 := f4.keep S5
  have T5 := T4.trans (S5.mono T4.size (by simp))
  refine ⟨_, f5.c2, (apL_spec _ _ _ hY w5).mono ?_⟩
  rintro v w6 ⟨rfl, S6⟩
  refine ⟨_, rfl, ?_⟩
  have f6 := f5.keep S6
  have T6 := T5.trans (S6.mono T5.size (by simp))
  refine ⟨_, f6.c1, (apL_spec _ _ _ hY w6).mono ?_⟩
  rintro v w7 ⟨rfl, S7⟩
  refine ⟨_, rfl, ?_⟩
  have f7 := f6.keep S7
  have T7 := T6.trans (S7.mono T6.size (by simp))
  refine ⟨_, f7.c1, (apL_spec _ _ _ hY w7).mono ?_⟩
  rintro v w8 ⟨rfl, S8⟩
  refine ⟨_, rfl, ?_⟩
  have f8 := f7.keep S8
  have T8 := T7.trans (S8.mono T7.size (by simp))
  have c1 : fmt32.bin = 146 := rfl
  have c2 : fmt32.rel = 91 := rfl
  have c3 : fmt32.sign = 2147483648 := rfl
  have c4 : fmt32.inf = 2139095040 := rfl
  have c5 : fmt32.canon = 2143289344 := rfl
  rw [c1, c2, r1, r2, r3, r4, r5, d4, d5]
  have H := ord32 x y hx hy
  obtain ⟨g0, g1, g2, g3, g4, g5⟩ := rel32_facts x y hx hy _ rfl
  have a4 := apf32 150 x y hx hy (by decide) (by decide)
  have a5 := apf32 151 x y hx hy (by decide) (by decide)
  rw [g0, g1, g2, g3, g4, g5, a4, a5]
  -- two operands that are no NaN
  have both : ∀ (e l g : Int) (lo hi : Nat), lo < 4294967296 → hi < 4294967296 → (lo = x ∧ hi = y ∨ lo = y ∧ hi = x) → (x % 2147483648 = 0 ∧ y % 2147483648 = 0 → lo = x ||| y ∧ hi = x &&& y) →
      (¬ (x % 2147483648 = 0 ∧ y % 2147483648 = 0) → (ap 95 lo hi).1 = 1) → x % 2147483648 ≤ 2139095040 → y % 2147483648 ≤ 2139095040 → IntKind.wrap .u64 (IntKind.wrap .u64 (l + e) + g) = 1 →
      numlaw_KeptOrder.L1 x y b e l g lo hi (fun v w' => v = .bool true ∧ Same [] w.heap.size w w') w8 := by
    intro e l g lo hi hlo hhi hor hz hnz hxi hyi hsum
    have fin : numlaw_KeptOrder.L3 x y b lo hi (fun v w' => v = .bool true ∧ Same [] w.heap.size w w') w8 := by
      refine numlaw_KeptOrder.step3 _ _ _ _ _ _ _ ?_
      unfold numlaw_KeptOrder.V3
      refine ⟨_, f8.c3, ?_⟩
      rw [c3, andnot32 x hx]
      have last : ¬ (x % 2147483648 = 0 ∧ y % 2147483648 = 0) → numlaw_KeptOrder.L4 x y b lo hi false (fun v w' => v = .bool true ∧ Same [] w.heap.size w w') w8 := by
        intro hn
        refine numlaw_KeptOrder.step4 _ _ _ _ _ _ _ _ ?_
        unfold numlaw_KeptOrder.V4
        refine cond_false' rfl ⟨_, f8.c2, ?_⟩
        rw [c2, r4]
        refine (apL_spec _ _ _ (u64_nat (by omega)) w8).mono ?_
        rintro v w9 ⟨rfl, S9⟩
        refine ⟨_, rfl, ?_, T8.trans (S9.mono T8.size (by simp))⟩
        rw [hnz hn]; rfl
      refine cond_intro (fun h0 => ⟨_, f8.c3, ?_⟩) (fun h0 => last ?_)
      · rw [c3, andnot32 y hy]
        have hx0 : x % 2147483648 = 0 := by have := eq_of_beq h0; omega
        by_cases hy0 : y % 2147483648 = 0
        · rw [hy0]
          refine numlaw_KeptOrder.step4 _ _ _ _ _ _ _ _ ?_
          unfold numlaw_KeptOrder.V4
          refine cond_true' rfl ?_
          obtain ⟨z1, z2⟩ := hz ⟨hx0, hy0⟩
          rw [bOr64_n x y (by omega) (by omega), bAnd64_n x y (by omega) (by omega), z1, z2]
          exact cond_true' (by simp) ⟨by simp, T8⟩
        · have e : (((y % 2147483648 : Nat) : Int) == 0) = false := by rw [beq_eq_false_iff_ne]; omega
          rw [e]
          exact last (fun h => hy0 h.2)
      · have := beq_eq_false_iff_ne.1 h0
        omega
    refine numlaw_KeptOrder.step1 _ _ _ _ _ _ _ _ _ _ ?_
    unfold numlaw_KeptOrder.V1
    refine ⟨_, f8.c3, _, f8.c4, ?_⟩
    rw [c3, c4, andnot32 x hx]
    refine cond_false' (decide_eq_false (by omega)) ⟨_, f8.c3, _, f8.c4, ?_⟩
    rw [c3, c4, andnot32 y hy, decide_eq_false (show ¬ (((y % 2147483648 : Nat) : Int) > 2139095040) by omega)]
    refine numlaw_KeptOrder.step2 _ _ _ _ _ _ _ _ _ _ _ ?_
    unfold numlaw_KeptOrder.V2
    refine cond_false' rfl ?_
    rw [hsum]
    refine cond_false' rfl ?_
    rcases hor with ⟨p1, p2⟩ | ⟨p1, p2⟩
    · refine cond_false' (by rw [p1]; simp) (cond_false' (by rw [p2]; simp) fin)
    · refine cond_intro (fun _ => cond_false' (by rw [p1]; simp) (cond_false' (by rw [p2]; simp) fin)) (fun _ => cond_intro (fun _ => cond_false' (by rw [p1]; simp) (cond_false' (by rw [p2]; simp) fin)) (fun _ => fin))
  generalize ho : Ieee.single.order x y = o at H ⊢
  match o, H with
  | none, H =>
    refine cond_false' (by decide) (cond_false' (by decide) (cond_false' (by decide) ?_))
    have nan : numlaw_KeptOrder.L2 x y b (num_flag.F ((none : Option Ordering) == some .eq)) (num_flag.F ((none : Option Ordering) == some .lt)) (num_flag.F ((none : Option Ordering) == some .gt)) (fl32 150 x y) (fl32 151 x y) true (fun v w' => v = .bool true ∧ Same [] w.heap.size w w') w8 := by
      refine numlaw_KeptOrder.step2 _ _ _ _ _ _ _ _ _ _ _ ?_
      unfold numlaw_KeptOrder.V2
      refine cond_true' rfl (cond_true' (by decide) ⟨_, f8.c5, ?_⟩)
      rw [c5, H.2.1, H.2.2]
      exact cond_true' rfl ⟨_, f8.c5, by rw [c5]; rfl, T8⟩
    refine numlaw_KeptOrder.step1 _ _ _ _ _ _ _ _ _ _ ?_
    unfold numlaw_KeptOrder.V1
    refine ⟨_, f8.c3, _, f8.c4, ?_⟩
    rw [c3, c4, andnot32 x hx]
    refine cond_intro (fun _ => nan) (fun h => ⟨_, f8.c3, _, f8.c4, ?_⟩)
    have h' := of_decide_eq_false h
    have hh : 2139095040 < x % 2147483648 ∨ 2139095040 < y % 2147483648 := H.1
    rw [c3, c4, andnot32 y hy, decide_eq_true (show (((y % 2147483648 : Nat) : Int) > 2139095040) by omega)]
    exact nan
  | some .lt, H =>
    obtain ⟨h1, h2, h3, h4, h5⟩ := H
    refine cond_false' (by decide) (cond_false' (by decide) (cond_false' (by decide) ?_))
    rw [h3, h4]
    refine both _ _ _ x y hx hy (.inl ⟨rfl, rfl⟩) (fun h => absurd h h5) (fun _ => ?_) h1 h2 (by decide)
    rw [(rel32_facts x y hx hy _ ho).2.2.2.2.1]; rfl
  | some .gt, H =>
    obtain ⟨h1, h2, h3, h4, h5, h6⟩ := H
    refine cond_false' (by decide) (cond_false' (by decide) (cond_false' (by decide) ?_))
    rw [h3, h4]
    refine both _ _ _ y x hy hx (.inr ⟨rfl, rfl⟩) (fun h => absurd h h5) (fun _ => ?_) h1 h2 (by decide)
    rw [(rel32_facts y x hy hx _ h6).2.2.2.2.1]; rfl
  | some .eq, H =>
    obtain ⟨h1, h2, h3, h4, h5⟩ := H
    refine cond_false' (by decide) (cond_false' (by decide) (cond_false' (by decide) ?_))
    rw [h3, h4]
    have hlo : x ||| y < 4294967296 := Nat.or_lt_two_pow (n := 32) hx hy
    have hhi : x &&& y < 4294967296 := Nat.lt_of_le_of_lt Nat.and_le_left hx
    refine both _ _ _ (x ||| y) (x &&& y) hlo hhi ?_ (fun _ => ⟨rfl, rfl⟩) (fun hn => ?_) h1 h2 (by decide)
    · rcases h5 with ⟨g, g1, g2⟩ | ⟨_, _, ⟨g1, g2⟩ | ⟨g1, g2⟩⟩
      · exact .inl ⟨g1, by rw [g2]; exact g⟩
      · exact .inr ⟨g1, g2⟩
      · exact .inl ⟨g1, g2⟩
    · rcases h5 with ⟨g, g1, g2⟩ | ⟨z1, z2, _⟩
      · rw [g1, g2]
        have hs : Ieee.single.order x x = some .eq := by rw [← ho, ← g]
        rw [(rel32_facts x x hx hx _ hs).2.2.2.2.1]; rfl
      · exact absurd ⟨z1, z2⟩ hn

theorem apf64 (op : Int) (x y : Nat) (hx : x < 18446744073709551616) (hy : y < 18446744073709551616) (h0 : 153 ≤ op) (h1 : op ≤ 166) : (ap op x y).1 = fl64 op x y := by
  rw [ap_flt64 op x y h0 h1]
theorem apr64 (op : Int) (x y : Nat) (hx : x < 18446744073709551616) (hy : y < 18446744073709551616) (h0 : 97 ≤ op) (h1 : op ≤ 102) : (ap op x y).1 = num_flag.F (num_relF64.F op x y) := by
  rw [ap_relF64 op x y h0 h1]; rfl

theorem KeptBits64_spec (x y : Nat) (hx : x < 18446744073709551616) (hy : y < 18446744073709551616) (w : World) : Runs Try.prog numlaw_KeptBits.id #[fmt64.val, .int .u64 x, .int .u64 y] w fun v w' => v = .bool true ∧ Same [] w.heap.size w w' := by
  refine numlaw_KeptBits.enter 153 160 97 9223372036854775808 9218868437227405312 9221120237041090560 x y _ _ ?_
  unfold numlaw_KeptBits.V
  refine letB_intro fun b hb => letW_intro fun w0 hw0 => ?_
  have f0 : FmtAt w0 b fmt64 := by rw [hw0, hb]; exact FmtAt.new w fmt64 T_numlaw_Fmt
  have T0 : Same [] w.heap.size w w0 := by rw [hw0]; exact (Same.refl _ _ _).alloc (Nat.le_refl _) _
  clear hw0 hb
  have hX : U64 (x : Int) := u64_nat (by omega)
  have hY : U64 (y : Int) := u64_nat (by omega)
  have d1 : IntKind.wrap .i64 (160 + 1) = 161 := by decide
  have d2 : IntKind.wrap .i64 (160 + 2) = 162 := by decide
  have d6 : IntKind.wrap .i64 (160 + 6) = 166 := by decide
  have n1 : IntKind.wrap .i64 (153 + 1) = 154 := by decide
  refine ⟨_, f0.c1, (apL_spec _ _ _ hY w0).mono ?_⟩
  rintro v w1 ⟨rfl, S1⟩
  refine ⟨_, rfl, ?_⟩
  have f1 := f0.keep S1
  have T1 := T0.trans (S1.mono T0.size (by simp))
  refine ⟨_, f1.c1, (apL_spec _ _ _ hX w1).mono ?_⟩
  rintro v w2 ⟨rfl, S2⟩
  refine ⟨_, rfl, ?_⟩
  have f2 := f1.keep S2
  have T2 := T1.trans (S2.mono T1.size (by simp))
  refine ⟨_, f2.c1, (apL_spec _ _ _ hY w2).mono ?_⟩
  rintro v w3 ⟨rfl, S3⟩
  refine ⟨_, rfl, ?_⟩
  have f3 := f2.keep S3
  have T3 := T2.trans (S3.mono T2.size (by simp))
  refine ⟨_, f3.c1, (apL_spec _ _ _ hX w3).mono ?_⟩
  rintro v w4 ⟨rfl, S4⟩
  refine ⟨_, rfl, ?_⟩
  have f4 := f3.keep S4
  have T4 := T3.trans (S4.mono T3.size (by simp))
  refine ⟨_, f4.c0, (apL_spec _ _ _ u64_0 w4).mono ?_⟩
  rintro v w5 ⟨rfl, S5⟩
  refine ⟨_, rfl, ?_⟩
  have f5 := f4.keep S5
  have T5 := T4.trans (S5.mono T4.size (by simp))
  refine ⟨_, f5.c0, (apL_spec _ _ _ u64_0 w5).mono ?_⟩
  rintro v w6 ⟨rfl, S6⟩
  refine ⟨_, rfl, ?_⟩
  have f6 := f5.keep S6
  have T6 := T5.trans (S6.mono T5.size (by simp))
  refine ⟨_, f6.c1, (apL_spec _ _ _ hY w6).mono ?_⟩
  rintro v w7 ⟨rfl, S7⟩
  refine ⟨_, rfl, ?_⟩
  have f7 := f6.keep S7
  have T7 := T6.trans (S7.mono T6.size (by simp))
  refine ⟨_, f7.c1, (apL_spec _ _ _ hX w7).mono ?_⟩
  rintro v w8 ⟨rfl, S8⟩
  refine ⟨_, rfl, ?_⟩
  have f8 := f7.keep S8
  have T8 := T7.trans (S8.mono T7.size (by simp))
  have c1 : fmt64.bin = 160 := rfl
  have c0 : fmt64.un = 153 := rfl
  rw [c1, c0, d1, d2, d6, n1]
  have ez : ((0 : Nat) : Int) = 0 := rfl
  have a1 := apf64 160 x y hx hy (by decide) (by decide)
  have a2 := apf64 160 y x hy hx (by decide) (by decide)
  have a3 := apf64 162 x y hx hy (by decide) (by decide)
  have a4 := apf64 162 y x hy hx (by decide) (by decide)
  have a5 := apf64 154 x 0 hx (by decide) (by decide) (by decide)
  have a6 := apf64 153 x 0 hx (by decide) (by decide) (by decide)
  have a7 := apf64 166 x y hx hy (by decide) (by decide)
  have a8 := apf64 161 x x hx hx (by decide) (by decide)
  rw [ez] at a5 a6
  rw [a1, a2, a3, a4, a5, a6, a7, a8, (fl64_comm x y).1, (fl64_comm x y).2]
  refine cond_false' (by simp) (cond_false' (by simp) ?_)
  have eneg : fl64 154 x 0 = bXor .u64 x 9223372036854775808 := rfl
  have eabs : fl64 153 x 0 = bAndNot .u64 x 9223372036854775808 := rfl
  have ecp : fl64 166 x y = bOr .u64 (bAndNot .u64 x 9223372036854775808) (bAnd .u64 y 9223372036854775808) := rfl
  rw [eneg, eabs, ecp]
  have c3 : fmt64.sign = 9223372036854775808 := rfl
  refine ⟨_, f8.c3, cond_false' (by rw [c3]; simp) ⟨_, f8.c3, cond_false' (by rw [c3]; simp) ⟨_, f8.c3, _, f8.c3, cond_false' (by rw [c3]; simp) ?_⟩⟩⟩
  refine numlaw_KeptBits.step1 _ _ _ _ _ ?_
  unfold numlaw_KeptBits.V1
  refine ⟨_, f8.c3, _, f8.c4, ?_⟩
  have c3' : fmt64.sign = 9223372036854775808 := rfl
  have c4' : fmt64.inf = 9218868437227405312 := rfl
  have c5' : fmt64.canon = 9221120237041090560 := rfl
  rw [c3', c4', andnot64 x hx, fl64_self x]
  by_cases hi : 9218868437227405312 ≤ x % 9223372036854775808
  · rw [if_pos hi]
    refine cond_true' (decide_eq_true (by omega)) ⟨_, f8.c5, ?_, T8⟩
    rw [c5']; rfl
  · rw [if_neg hi]
    exact cond_false' (decide_eq_false (by omega)) ⟨rfl, T8⟩

theorem rel64_facts (x y : Nat) (hx : x < 18446744073709551616) (hy : y < 18446744073709551616) (o : Option Ordering) (ho : Ieee.double.order x y = o) :
    (ap 97 x y).1 = num_flag.F (o == some .eq) ∧ (ap 98 x y).1 = num_flag.F (o != some .eq) ∧ (ap 99 x y).1 = num_flag.F (o == some .lt) ∧ (ap 100 x y).1 = num_flag.F (o == some .gt) ∧
    (ap 101 x y).1 = num_flag.F (o == some .lt || o == some .eq) ∧ (ap 102 x y).1 = num_flag.F (o == some .gt || o == some .eq) := by
  subst ho
  refine ⟨?_, ?_, ?_, ?_, ?_, ?_⟩
  · rw [apr64 97 x y hx hy (by decide) (by decide)]; rfl
  · rw [apr64 98 x y hx hy (by decide) (by decide)]; rfl
  · rw [apr64 99 x y hx hy (by decide) (by decide)]; rfl
  · rw [apr64 100 x y hx hy (by decide) (by decide)]; rfl
  · rw [apr64 101 x y hx hy (by decide) (by decide)]; rfl
  · rw [apr64 102 x y hx hy (by decide) (by decide)]; rfl

theorem KeptOrder64_spec (x y : Nat) (hx : x < 18446744073709551616) (hy : y < 18446744073709551616) (w : World) : Runs Try.prog numlaw_KeptOrder.id #[fmt64.val, .int .u64 x, .int .u64 y] w fun v w' => v = .bool true ∧ Same [] w.heap.size w w' := by
  refine numlaw_KeptOrder.enter 153 160 97 9223372036854775808 9218868437227405312 9221120237041090560 x y _ _ ?_
  unfold numlaw_KeptOrder.V
  refine letB_intro fun b hb => letW_intro fun w0 hw0 => ?_
  have f0 : FmtAt w0 b fmt64 := by rw [hw0, hb]; exact FmtAt.new w fmt64 T_numlaw_Fmt
  have T0 : Same [] w.heap.size w w0 := by rw [hw0]; exact (Same.refl _ _ _).alloc (Nat.le_refl _) _
  clear hw0 hb
  have hX : U64 (x : Int) := u64_nat (by omega)
  have hY : U64 (y : Int) := u64_nat (by omega)
  have r1 : IntKind.wrap .i64 (97 + 1) = 98 := by decide
  have r2 : IntKind.wrap .i64 (97 + 2) = 99 := by decide
  have r3 : IntKind.wrap .i64 (97 + 3) = 100 := by decide
  have r4 : IntKind.wrap .i64 (97 + 4) = 101 := by decide
  have r5 : IntKind.wrap .i64 (97 + 5) = 102 := by decide
  have d4 : IntKind.wrap .i64 (160 + 4) = 164 := by decide
  have d5 : IntKind.wrap .i64 (160 + 5) = 165 := by decide
  refine ⟨_, f0.c2, (apL_spec _ _ _ hY w0).mono ?_⟩
  rintro v w1 ⟨rfl, S1⟩
  refine ⟨_, rfl, ?_⟩
  have f1 := f0.keep S1
  have T1 := T0.trans (S1.mono T0.size (by simp))
  refine ⟨_, f1.c2, (apL_spec _ _ _ hY w1).mono ?_⟩
  rintro v w2 ⟨rfl, S2⟩
  refine ⟨_, rfl, ?_⟩
  have f2 := f1.keep S2
  have T2 := T1.trans (S2.mono T1.size (by simp))
  refine ⟨_, f2.c2, (apL_spec _ _ _ hY w2).mono ?_⟩
  rintro v w3 ⟨rfl, S3⟩
  refine ⟨_, rfl, ?_⟩
  have f3 := f2.keep S3
  have T3 := T2.trans (S3.mono T2.size (by simp))
  refine ⟨_, f3.c2, (apL_spec _ _ _ hY w3).mono ?_⟩
  rintro v w4 ⟨rfl, S4⟩
  refine ⟨_, rfl, ?_⟩
  have f4 := f3.keep S4
  have T4 := T3.trans (S4.mono T3.size (by simp))
  refine ⟨_, f4.c2, (apL_spec _ _ _ hY w4).mono ?_⟩
  rintro v w5 ⟨rfl, S5⟩
  refine ⟨_, rfl, ?_⟩
  have f5 := f4.keep S5
  have T5 := T4.trans (S5.mono T4.size (by simp))
  refine ⟨_, f5.c2, (apL_spec _ _ _ hY w5).mono ?_⟩
  rintro v w6 ⟨rfl, S6⟩
  refine ⟨_, rfl, ?_⟩
  have f6 := f5.keep S6
  have T6 := T5.trans (S6.mono T5.size (by simp))
  refine ⟨_, f6.c1, (apL_spec _ _ _ hY w6).mono ?_⟩
  rintro v w7 ⟨rfl, S7⟩
  refine ⟨_, rfl, ?_⟩
  have f7 := f6.keep S7
  have T7 := T6.trans (S7.mono T6.size (by simp))
  refine ⟨_, f7.c1, (apL_spec _ _ _ hY w7).mono ?_⟩
  rintro v w8 ⟨rfl, S8⟩
  refine ⟨_, rfl, ?_⟩
  have f8 := f7.keep S8
  have T8 := T7.trans (S8.mono T7.size (by simp))
  have c1 : fmt64.bin = 160 := rfl
  have c2 : fmt64.rel = 97 := rfl
  have c3 : fmt64.sign = 9223372036854775808 := rfl
  have c4 : fmt64.inf = 9218868437227405312 := rfl
  have c5 : fmt64.canon = 9221120237041090560 := rfl
  rw [c1, c2, r1, r2, r3, r4, r5, d4, d5]
  have H := ord64 x y hx hy
  obtain ⟨g0, g1, g2, g3, g4, g5⟩ := rel64_facts x y hx hy _ rfl
  have a4 := apf64 164 x y hx hy (by decide) (by decide)
  have a5 := apf64 165 x y hx hy (by decide) (by decide)
  rw [g0, g1, g2, g3, g4, g5, a4, a5]
  -- two operands that are no NaN
  have both : ∀ (e l g : Int) (lo hi : Nat), lo < 18446744073709551616 → hi < 18446744073709551616 → (lo = x ∧ hi = y ∨ lo = y ∧ hi = x) → (x % 9223372036854775808 = 0 ∧ y % 9223372036854775808 = 0 → lo = x ||| y ∧ hi = x &&& y) →
      (¬ (x % 9223372036854775808 = 0 ∧ y % 9223372036854775808 = 0) → (ap 101 lo hi).1 = 1) → x % 9223372036854775808 ≤ 9218868437227405312 → y % 9223372036854775808 ≤ 9218868437227405312 → IntKind.wrap .u64 (IntKind.wrap .u64 (l + e) + g) = 1 →
      numlaw_KeptOrder.L1 x y b e l g lo hi (fun v w' => v = .bool true ∧ Same [] w.heap.size w w') w8 := by
    intro e l g lo hi hlo hhi hor hz hnz hxi hyi hsum
    have fin : numlaw_KeptOrder.L3 x y b lo hi (fun v w' => v = .bool true ∧ Same [] w.heap.size w w') w8 := by
      refine numlaw_KeptOrder.step3 _ _ _ _ _ _ _ ?_
      unfold numlaw_KeptOrder.V3
      refine ⟨_, f8.c3, ?_⟩
      rw [c3, andnot64 x hx]
      have last : ¬ (x % 9223372036854775808 = 0 ∧ y % 9223372036854775808 = 0) → numlaw_KeptOrder.L4 x y b lo hi false (fun v w' => v = .bool true ∧ Same [] w.heap.size w w') w8 := by
        intro hn
        refine numlaw_KeptOrder.step4 _ _ _ _ _ _ _ _ ?_
        unfold numlaw_KeptOrder.V4
        refine cond_false' rfl ⟨_, f8.c2, ?_⟩
        rw [c2, r4]
        refine (apL_spec _ _ _ (u64_nat (by omega)) w8).mono ?_
        rintro v w9 ⟨rfl, S9⟩
        refine ⟨_, rfl, ?_, T8.trans (S9.mono T8.size (by simp))⟩
        rw [hnz hn]; rfl
      refine cond_intro (fun h0 => ⟨_, f8.c3, ?_⟩) (fun h0 => last ?_)
      · rw [c3, andnot64 y hy]
        have hx0 : x % 9223372036854775808 = 0 := by have := eq_of_beq h0; omega
        by_cases hy0 : y % 9223372036854775808 = 0
        · rw [hy0]
          refine numlaw_KeptOrder.step4 _ _ _ _ _ _ _ _ ?_
          unfold numlaw_KeptOrder.V4
          refine cond_true' rfl ?_
          obtain ⟨z1, z2⟩ := hz ⟨hx0, hy0⟩
          rw [bOr64_n x y (by omega) (by omega), bAnd64_n x y (by omega) (by omega), z1, z2]
          exact cond_true' (by simp) ⟨by simp, T8⟩
        · have e : (((y % 9223372036854775808 : Nat) : Int) == 0) = false := by rw [beq_eq_false_iff_ne]; omega
          rw [e]
          exact last (fun h => hy0 h.2)
      · have := beq_eq_false_iff_ne.1 h0
        omega
    refine numlaw_KeptOrder.step1 _ _ _ _ _ _ _ _ _ _ ?_
    unfold numlaw_KeptOrder.V1
    refine ⟨_, f8.c3, _, f8.c4, ?_⟩
    rw [c3, c4, andnot64 x hx]
    refine cond_false' (decide_eq_false (by omega)) ⟨_, f8.c3, _, f8.c4, ?_⟩
    rw [c3, c4, andnot64 y hy, decide_eq_false (show ¬ (((y % 9223372036854775808 : Nat) : Int) > 9218868437227405312) by omega)]
    refine numlaw_KeptOrder.step2 _ _ _ _ _ _ _ _ _ _ _ ?_
    unfold numlaw_KeptOrder.V2
    refine cond_false' rfl ?_
    rw [hsum]
    refine cond_false' rfl ?_
    rcases hor with ⟨p1, p2⟩ | ⟨p1, p2⟩
    · refine cond_false' (by rw [p1]; simp) (cond_false' (by rw [p2]; simp) fin)
    · refine cond_intro (fun _ => cond_false' (by rw [p1]; simp) (cond_false' (by rw [p2]; simp) fin)) (fun _ => cond_intro (fun _ => cond_false' (by rw [p1]; simp) (cond_false' (by rw [p2]; simp) fin)) (fun _ => fin))
  generalize ho : Ieee.double.order x y = o at H ⊢
  match o, H with
  | none, H =>
    refine cond_false' (by decide) (cond_false' (by decide) (cond_false' (by decide) ?_))
    have nan : numlaw_KeptOrder.L2 x y b (num_flag.F ((none : Option Ordering) == some .eq)) (num_flag.F ((none : Option Ordering) == some .lt)) (num_flag.F ((none : Option Ordering) == some .gt)) (fl64 164 x y) (fl64 165 x y) true (fun v w' => v = .bool true ∧ Same [] w.heap.size w w') w8 := by
      refine numlaw_KeptOrder.step2 _ _ _ _ _ _ _ _ _ _ _ ?_
      unfold numlaw_KeptOrder.V2
      refine cond_true' rfl (cond_true' (by decide) ⟨_, f8.c5, ?_⟩)
      rw [c5, H.2.1, H.2.2]
      exact cond_true' rfl ⟨_, f8.c5, by rw [c5]; rfl, T8⟩
    refine numlaw_KeptOrder.step1 _ _ _ _ _ _ _ _ _ _ ?_
    unfold numlaw_KeptOrder.V1
    refine ⟨_, f8.c3, _, f8.c4, ?_⟩
    rw [c3, c4, andnot64 x hx]
    refine cond_intro (fun _ => nan) (fun h => ⟨_, f8.c3, _, f8.c4, ?_⟩)
    have h' := of_decide_eq_false h
    have hh : 9218868437227405312 < x % 9223372036854775808 ∨ 9218868437227405312 < y % 9223372036854775808 := H.1
    rw [c3, c4, andnot64 y hy, decide_eq_true (show (((y % 9223372036854775808 : Nat) : Int) > 9218868437227405312) by omega)]
    exact nan
  | some .lt, H =>
    obtain ⟨h1, h2, h3, h4, h5⟩ := H
    refine cond_false' (by decide) (cond_false' (by decide) (cond_false' (by decide) ?_))
    rw [h3, h4]
    refine both _ _ _ x y hx hy (.inl ⟨rfl, rfl⟩) (fun h => absurd h h5) (fun _ => ?_) h1 h2 (by decide)
    rw [(rel64_facts x y hx hy _ ho).2.2.2.2.1]; rfl
  | some .gt, H =>
    obtain ⟨h1, h2, h3, h4, h5, h6⟩ := H
    refine cond_false' (by decide) (cond_false' (by decide) (cond_false' (by decide) ?_))
    rw [h3, h4]
    refine both _ _ _ y x hy hx (.inr ⟨rfl, rfl⟩) (fun h => absurd h h5) (fun _ => ?_) h1 h2 (by decide)
    rw [(rel64_facts y x hy hx _ h6).2.2.2.2.1]; rfl
  | some .eq, H =>
    obtain ⟨h1, h2, h3, h4, h5⟩ := H
    refine cond_false' (by decide) (cond_false' (by decide) (cond_false' (by decide) ?_))
    rw [h3, h4]
    have hlo : x ||| y < 18446744073709551616 := Nat.or_lt_two_pow (n := 64) hx hy
    have hhi : x &&& y < 18446744073709551616 := Nat.lt_of_le_of_lt Nat.and_le_left hx
    refine both _ _ _ (x ||| y) (x &&& y) hlo hhi ?_ (fun _ => ⟨rfl, rfl⟩) (fun hn => ?_) h1 h2 (by decide)
    · rcases h5 with ⟨g, g1, g2⟩ | ⟨_, _, ⟨g1, g2⟩ | ⟨g1, g2⟩⟩
      · exact .inl ⟨g1, by rw [g2]; exact g⟩
      · exact .inr ⟨g1, g2⟩
      · exact .inl ⟨g1, g2⟩
    · rcases h5 with ⟨g, g1, g2⟩ | ⟨z1, z2, _⟩
      · rw [g1, g2]
        have hs : Ieee.double.order x x = some .eq := by rw [← ho, ← g]
        rw [(rel64_facts x x hx hx _ hs).2.2.2.2.1]; rfl
      · exact absurd ⟨z1, z2⟩ hn

end Go.Proofs.Qxb6500320a
