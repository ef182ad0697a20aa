/-
  KeepsPlain: infinities; promote and demote by patterns.
-/
import Derived.Test.Qxb6500320aPlB
set_option linter.unusedSimpArgs false
set_option linter.unusedVariables false
set_option maxRecDepth 100000
namespace Go.Proofs.Qxb6500320a
open Go Go.Vc

/-! ### 32 bits -/
theorem pm32_zero (v : Nat) : pm32 v = 0 ↔ v = 0 := by unfold pm32; split <;> omega
theorem inf_facts32 (x y : Nat) (hx : x < 4294967296) (hy : y < 4294967296) (hxi : x % 2147483648 = 2139095040) (hyf : y % 2147483648 < 2139095040) :
    fl32 148 x y = (if y % 2147483648 = 0 then 2143289344 else ((2139095040 ||| ((x ^^^ y) &&& 2147483648) : Nat) : Int)) ∧ fl32 146 x y = (x : Int) ∧ fl32 149 x y = ((2139095040 ||| ((x ^^^ y) &&& 2147483648) : Nat) : Int) ∧ fl32 149 y x = (((x ^^^ y) &&& 2147483648 : Nat) : Int) := by
  have hrx : Ieee.single.read x = .infinity (decide (2147483648 ≤ x)) := by rw [read_inf Ieee.single single_bi x (by rw [rung32, ir32]; exact hxi), sgb32 x hx]
  have hry := readS32 y hy hyf
  obtain ⟨g1, g2, g3⟩ := sgx32 x y hx hy
  have hinf : ∀ s : Bool, ar32 (some (Ieee.single.write (.infinity s))) = Ieee.single.word s 2139095040 := fun s => by
    have e : Ieee.single.write (.infinity s) = Ieee.single.word s 2139095040 := by rw [Ieee.Format.write, ir32]
    rw [e]; exact cnword32 s 2139095040 (Nat.le_refl _)
  have hwx : Ieee.single.word (decide (2147483648 ≤ x)) 2139095040 = x := by
    have := word_self Ieee.single x (by rw [sw32]; omega)
    rw [sgb32 x hx, rung32, hxi] at this
    exact this
  rw [g3, inf_or32, zero_or32]
  refine ⟨?_, ?_, ?_, ?_⟩
  · show ((ar32 (Ieee.single.mul x y) : Nat) : Int) = _
    unfold Ieee.Format.mul
    rw [hrx, hry]
    by_cases h0 : y % 2147483648 = 0
    · rw [if_pos h0]
      have : pm32 (y % 2147483648) = 0 := (pm32_zero _).2 h0
      rw [this]; rfl
    · rw [if_neg h0]
      have hne : ¬ pm32 (y % 2147483648) = 0 := fun h => h0 ((pm32_zero _).1 h)
      simp only [Ieee.Datum.product, if_neg hne, Option.map_some]
      rw [hinf]
  · show ((ar32 (Ieee.single.add x y) : Nat) : Int) = _
    unfold Ieee.Format.add
    rw [hrx, hry]
    simp only [Ieee.Datum.sum, Option.map_some]
    rw [hinf, hwx]
  · have e : fl32 149 x y = cond (Ieee.single.order y 0 == some .eq) (cond (Ieee.single.order x x != some .eq) 2143289344 (cond (Ieee.single.order x 0 == some .eq) 2143289344 (bOr .u32 2139095040 (bAnd .u32 (bXor .u32 x y) 2147483648)))) ((ar32 (Ieee.single.div x y) : Nat) : Int) := rfl
    rw [e]
    refine cond_all (P := fun z : Int => z = ((Ieee.single.word (decide (2147483648 ≤ x) ^^ decide (2147483648 ≤ y)) 2139095040 : Nat) : Int)) (fun _ => ?_) (fun hnz => ?_)
    · have hxz : (Ieee.single.order x 0 == some .eq) = false := by
        rw [order32 x 0 (by omega) (by decide), beq_eq]
        apply decide_eq_false
        have k0 : key Ieee.single 0 = 0 := by decide
        rw [k0, key32 x hx]; split <;> omega
      rw [self32, decide_eq_false (show ¬ 2139095040 < x % 2147483648 by omega), cond_false, hxz, cond_false, g2]
      have hle : (x ^^^ y) &&& 2147483648 ≤ 2147483648 := Nat.and_le_right
      have o1 : bOr .u32 2139095040 (((x ^^^ y) &&& 2147483648 : Nat) : Int) = ((2139095040 ||| ((x ^^^ y) &&& 2147483648) : Nat) : Int) := bOr32_n 2139095040 _ (by decide) (by omega)
      rw [o1, g3, inf_or32]
    · unfold Ieee.Format.div
      rw [hrx, hry]
      simp only [Ieee.Datum.quotient, Option.map_some]
      rw [hinf]
  · have e : fl32 149 y x = cond (Ieee.single.order x 0 == some .eq) (cond (Ieee.single.order y y != some .eq) 2143289344 (cond (Ieee.single.order y 0 == some .eq) 2143289344 (bOr .u32 2139095040 (bAnd .u32 (bXor .u32 y x) 2147483648)))) ((ar32 (Ieee.single.div y x) : Nat) : Int) := rfl
    have hxz : (Ieee.single.order x 0 == some .eq) = false := by
      rw [order32 x 0 (by omega) (by decide), beq_eq]
      apply decide_eq_false
      have k0 : key Ieee.single 0 = 0 := by decide
      rw [k0, key32 x hx]; split <;> omega
    rw [e, hxz, cond_false]
    unfold Ieee.Format.div
    rw [hrx, hry]
    simp only [Ieee.Datum.quotient, Option.map_some]
    have e2 : Ieee.single.write (.number (decide (2147483648 ≤ y) ^^ decide (2147483648 ≤ x)) 0 0) = Ieee.single.word (decide (2147483648 ≤ y) ^^ decide (2147483648 ≤ x)) 0 := by rw [write_number, if_pos rfl]
    rw [e2]
    have e3 : ar32 (some (Ieee.single.word (decide (2147483648 ≤ y) ^^ decide (2147483648 ≤ x)) 0)) = Ieee.single.word (decide (2147483648 ≤ y) ^^ decide (2147483648 ≤ x)) 0 := cnword32 _ 0 (by omega)
    rw [e3, Bool.xor_comm]

theorem KeptInf32_spec (x y : Nat) (hx : x < 4294967296) (hy : y < 4294967296) (w : World) : Runs Try.prog numlaw_KeptInf.id #[fmt32.val, .int .u64 x, .int .u64 y] w fun v w' => v = .bool true ∧ Same [] w.heap.size w w' := by
  refine numlaw_KeptInf.enter 139 146 91 2147483648 2139095040 2143289344 x y _ _ ?_
  unfold numlaw_KeptInf.V
  refine letB_intro fun b hb => letW_intro fun w0 hw0 => ?_
  have f0 : FmtAt w0 b fmt32 := by rw [hw0, hb]; exact FmtAt.new w fmt32 T_numlaw_Fmt
  have T0 : Same [] w.heap.size w w0 := by rw [hw0]; exact (Same.refl _ _ _).alloc (Nat.le_refl _) _
  clear hw0 hb
  have hX : U64 (x : Int) := u64_nat (by omega)
  have hY : U64 (y : Int) := u64_nat (by omega)
  have c1 : fmt32.bin = 146 := rfl
  have c3 : fmt32.sign = 2147483648 := rfl
  have c4 : fmt32.inf = 2139095040 := rfl
  have c5 : fmt32.canon = 2143289344 := rfl
  refine ⟨_, f0.c3, _, f0.c4, ?_⟩
  rw [c3, c4, andnot32 x hx]
  refine cond_intro (fun _ => ⟨rfl, T0⟩) (fun hxi => ⟨_, f0.c3, _, f0.c4, ?_⟩)
  have hxi' : x % 2147483648 = 2139095040 := by have := bne_eq_false_iff_eq.1 hxi; omega
  clear hxi
  rw [c3, c4, andnot32 y hy]
  refine cond_dec (fun _ => ⟨rfl, T0⟩) (fun hyn => ?_)
  refine numlaw_KeptInf.step1 _ _ _ _ _ ?_
  unfold numlaw_KeptInf.V1
  refine ⟨_, f0.c3, _, f0.c1, (apL_spec _ _ _ hY w0).mono ?_⟩
  rintro v w1 ⟨rfl, S1⟩
  have f1 := f0.keep S1
  have T1 := T0.trans (S1.mono T0.size (by simp))
  refine ⟨_, rfl, _, f1.c1, (apL_spec _ _ _ hY w1).mono ?_⟩
  rintro v w2 ⟨rfl, S2⟩
  have f2 := f1.keep S2
  have T2 := T1.trans (S2.mono T1.size (by simp))
  refine ⟨_, rfl, _, f2.c1, (apL_spec _ _ _ hY w2).mono ?_⟩
  rintro v w3 ⟨rfl, S3⟩
  have f3 := f2.keep S3
  have T3 := T2.trans (S3.mono T2.size (by simp))
  refine ⟨_, rfl, _, f3.c1, (apL_spec _ _ _ hX w3).mono ?_⟩
  rintro v w4 ⟨rfl, S4⟩
  have f4 := f3.keep S4
  have T4 := T3.trans (S4.mono T3.size (by simp))
  have d2 : IntKind.wrap .i64 (146 + 2) = 148 := by decide
  have d3 : IntKind.wrap .i64 (146 + 3) = 149 := by decide
  refine ⟨_, rfl, _, f4.c3, _, f4.c4, ?_⟩
  rw [c1, c3, c4, d2, d3, apf32 148 x y hx hy (by decide) (by decide), apf32 146 x y hx hy (by decide) (by decide), apf32 149 x y hx hy (by decide) (by decide), apf32 149 y x hy hx (by decide) (by decide), andnot32 y hy]
  clear d2 d3
  refine cond_intro (fun hyi => ?_) (fun hyi => ⟨_, f4.c4, _, f4.c3, ?_⟩)
  · have hyi' : y % 2147483648 = 2139095040 := by have := eq_of_beq hyi; omega
    have hcx : x = 2139095040 ∨ x = 4286578688 := by omega
    have hcy : y = 2139095040 ∨ y = 4286578688 := by omega
    have l2 : ∀ X p s q v ws : Int, p = bOr .u64 2139095040 X → s = ws → q = 2143289344 → v = 2143289344 → numlaw_KeptInf.L2 b X p s q v ws (fun v w' => v = .bool true ∧ Same [] w.heap.size w w') w4 := by
      intro X p s q v ws h1 h2 h3 h4
      refine numlaw_KeptInf.step2 _ _ _ _ _ _ _ _ _ ?_
      unfold numlaw_KeptInf.V2
      refine ⟨_, f4.c4, ?_⟩
      rw [c4, h1, h2, h3, h4]
      refine cond_true' (by simp) (cond_true' (by simp) ⟨_, f4.c5, ?_⟩)
      rw [c5]
      exact cond_true' rfl ⟨_, f4.c5, by rw [c5]; rfl, T4⟩
    rcases hcx with rfl | rfl <;> rcases hcy with rfl | rfl
    · exact cond_false' (by decide) (l2 _ _ _ _ _ _ (by decide +kernel) (by decide +kernel) (by decide +kernel) (by decide +kernel))
    · exact cond_true' (by decide) ⟨_, f4.c5, l2 _ _ _ _ _ _ (by decide +kernel) (by rw [c5]; decide +kernel) (by decide +kernel) (by decide +kernel)⟩
    · exact cond_true' (by decide) ⟨_, f4.c5, l2 _ _ _ _ _ _ (by decide +kernel) (by rw [c5]; decide +kernel) (by decide +kernel) (by decide +kernel)⟩
    · exact cond_false' (by decide) (l2 _ _ _ _ _ _ (by decide +kernel) (by decide +kernel) (by decide +kernel) (by decide +kernel))
  · have hyf : y % 2147483648 < 2139095040 := by have := beq_eq_false_iff_ne.1 hyi; omega
    obtain ⟨q1, q2, q3, q4⟩ := inf_facts32 x y hx hy hxi' hyf
    obtain ⟨g1, _, _⟩ := sgx32 x y hx hy
    have hle : (x ^^^ y) &&& 2147483648 ≤ 2147483648 := Nat.and_le_right
    have o2 : bOr .u64 2139095040 (((x ^^^ y) &&& 2147483648 : Nat) : Int) = ((2139095040 ||| ((x ^^^ y) &&& 2147483648) : Nat) : Int) := bOr64_n 2139095040 _ (by decide) (by omega)
    rw [c3, c4, g1, o2, q1, q2, q3, q4, andnot32 y hy]
    have l3 : ∀ wp : Int, (if y % 2147483648 = 0 then 2143289344 else ((2139095040 ||| ((x ^^^ y) &&& 2147483648) : Nat) : Int)) = wp → numlaw_KeptInf.L3 x b (((x ^^^ y) &&& 2147483648 : Nat) : Int) (if y % 2147483648 = 0 then 2143289344 else ((2139095040 ||| ((x ^^^ y) &&& 2147483648) : Nat) : Int)) x ((2139095040 ||| ((x ^^^ y) &&& 2147483648) : Nat) : Int) (((x ^^^ y) &&& 2147483648 : Nat) : Int) wp (fun v w' => v = .bool true ∧ Same [] w.heap.size w w') w4 := by
      intro wp h
      refine numlaw_KeptInf.step3 _ _ _ _ _ _ _ _ _ _ ?_
      unfold numlaw_KeptInf.V3
      rw [h]
      refine cond_true' (by simp) (cond_true' (by simp) ⟨_, f4.c4, ?_⟩)
      rw [c4, o2]
      exact cond_true' (by simp) ⟨by simp, T4⟩
    by_cases h0 : y % 2147483648 = 0
    · refine cond_true' (by rw [beq_iff_eq]; omega) ⟨_, f4.c5, l3 _ ?_⟩
      rw [if_pos h0]; rfl
    · refine cond_false' (by rw [beq_eq_false_iff_ne]; omega) (l3 _ ?_)
      rw [if_neg h0]

/-! ### 64 bits -/
theorem pm64_zero (v : Nat) : pm64 v = 0 ↔ v = 0 := by unfold pm64; split <;> omega
theorem inf_facts64 (x y : Nat) (hx : x < 18446744073709551616) (hy : y < 18446744073709551616) (hxi : x % 9223372036854775808 = 9218868437227405312) (hyf : y % 9223372036854775808 < 9218868437227405312) :
    fl64 162 x y = (if y % 9223372036854775808 = 0 then 9221120237041090560 else ((9218868437227405312 ||| ((x ^^^ y) &&& 9223372036854775808) : Nat) : Int)) ∧ fl64 160 x y = (x : Int) ∧ fl64 163 x y = ((9218868437227405312 ||| ((x ^^^ y) &&& 9223372036854775808) : Nat) : Int) ∧ fl64 163 y x = (((x ^^^ y) &&& 9223372036854775808 : Nat) : Int) := by
  have hrx : Ieee.double.read x = .infinity (decide (9223372036854775808 ≤ x)) := by rw [read_inf Ieee.double double_bi x (by rw [rung64, ir64]; exact hxi), sgb64 x hx]
  have hry := readS64 y hy hyf
  obtain ⟨g1, g2, g3⟩ := sgx64 x y hx hy
  have hinf : ∀ s : Bool, ar64 (some (Ieee.double.write (.infinity s))) = Ieee.double.word s 9218868437227405312 := fun s => by
    have e : Ieee.double.write (.infinity s) = Ieee.double.word s 9218868437227405312 := by rw [Ieee.Format.write, ir64]
    rw [e]; exact cnword64 s 9218868437227405312 (Nat.le_refl _)
  have hwx : Ieee.double.word (decide (9223372036854775808 ≤ x)) 9218868437227405312 = x := by
    have := word_self Ieee.double x (by rw [sw64]; omega)
    rw [sgb64 x hx, rung64, hxi] at this
    exact this
  rw [g3, inf_or64, zero_or64]
  refine ⟨?_, ?_, ?_, ?_⟩
  · show ((ar64 (Ieee.double.mul x y) : Nat) : Int) = _
    unfold Ieee.Format.mul
    rw [hrx, hry]
    by_cases h0 : y % 9223372036854775808 = 0
    · rw [if_pos h0]
      have : pm64 (y % 9223372036854775808) = 0 := (pm64_zero _).2 h0
      rw [this]; rfl
    · rw [if_neg h0]
      have hne : ¬ pm64 (y % 9223372036854775808) = 0 := fun h => h0 ((pm64_zero _).1 h)
      simp only [Ieee.Datum.product, if_neg hne, Option.map_some]
      rw [hinf]
  · show ((ar64 (Ieee.double.add x y) : Nat) : Int) = _
    unfold Ieee.Format.add
    rw [hrx, hry]
    simp only [Ieee.Datum.sum, Option.map_some]
    rw [hinf, hwx]
  · have e : fl64 163 x y = cond (Ieee.double.order y 0 == some .eq) (cond (Ieee.double.order x x != some .eq) 9221120237041090560 (cond (Ieee.double.order x 0 == some .eq) 9221120237041090560 (bOr .u64 9218868437227405312 (bAnd .u64 (bXor .u64 x y) 9223372036854775808)))) ((ar64 (Ieee.double.div x y) : Nat) : Int) := rfl
    rw [e]
    refine cond_all (P := fun z : Int => z = ((Ieee.double.word (decide (9223372036854775808 ≤ x) ^^ decide (9223372036854775808 ≤ y)) 9218868437227405312 : Nat) : Int)) (fun _ => ?_) (fun hnz => ?_)
    · have hxz : (Ieee.double.order x 0 == some .eq) = false := by
        rw [order64 x 0 (by omega) (by decide), beq_eq]
        apply decide_eq_false
        have k0 : key Ieee.double 0 = 0 := by decide
        rw [k0, key64 x hx]; split <;> omega
      rw [self64, decide_eq_false (show ¬ 9218868437227405312 < x % 9223372036854775808 by omega), cond_false, hxz, cond_false, g2]
      have hle : (x ^^^ y) &&& 9223372036854775808 ≤ 9223372036854775808 := Nat.and_le_right
      have o1 : bOr .u64 9218868437227405312 (((x ^^^ y) &&& 9223372036854775808 : Nat) : Int) = ((9218868437227405312 ||| ((x ^^^ y) &&& 9223372036854775808) : Nat) : Int) := bOr64_n 9218868437227405312 _ (by decide) (by omega)
      rw [o1, g3, inf_or64]
    · unfold Ieee.Format.div
      rw [hrx, hry]
      simp only [Ieee.Datum.quotient, Option.map_some]
      rw [hinf]
  · have e : fl64 163 y x = cond (Ieee.double.order x 0 == some .eq) (cond (Ieee.double.order y y != some .eq) 9221120237041090560 (cond (Ieee.double.order y 0 == some .eq) 9221120237041090560 (bOr .u64 9218868437227405312 (bAnd .u64 (bXor .u64 y x) 9223372036854775808)))) ((ar64 (Ieee.double.div y x) : Nat) : Int) := rfl
    have hxz : (Ieee.double.order x 0 == some .eq) = false := by
      rw [order64 x 0 (by omega) (by decide), beq_eq]
      apply decide_eq_false
      have k0 : key Ieee.double 0 = 0 := by decide
      rw [k0, key64 x hx]; split <;> omega
    rw [e, hxz, cond_false]
    unfold Ieee.Format.div
    rw [hrx, hry]
    simp only [Ieee.Datum.quotient, Option.map_some]
    have e2 : Ieee.double.write (.number (decide (9223372036854775808 ≤ y) ^^ decide (9223372036854775808 ≤ x)) 0 0) = Ieee.double.word (decide (9223372036854775808 ≤ y) ^^ decide (9223372036854775808 ≤ x)) 0 := by rw [write_number, if_pos rfl]
    rw [e2]
    have e3 : ar64 (some (Ieee.double.word (decide (9223372036854775808 ≤ y) ^^ decide (9223372036854775808 ≤ x)) 0)) = Ieee.double.word (decide (9223372036854775808 ≤ y) ^^ decide (9223372036854775808 ≤ x)) 0 := cnword64 _ 0 (by omega)
    rw [e3, Bool.xor_comm]

theorem KeptInf64_spec (x y : Nat) (hx : x < 18446744073709551616) (hy : y < 18446744073709551616) (w : World) : Runs Try.prog numlaw_KeptInf.id #[fmt64.val, .int .u64 x, .int .u64 y] w fun v w' => v = .bool true ∧ Same [] w.heap.size w w' := by
  refine numlaw_KeptInf.enter 153 160 97 9223372036854775808 9218868437227405312 9221120237041090560 x y _ _ ?_
  unfold numlaw_KeptInf.V
  refine letB_intro fun b hb => letW_intro fun w0 hw0 => ?_
  have f0 : FmtAt w0 b fmt64 := by rw [hw0, hb]; exact FmtAt.new w fmt64 T_numlaw_Fmt
  have T0 : Same [] w.heap.size w w0 := by rw [hw0]; exact (Same.refl _ _ _).alloc (Nat.le_refl _) _
  clear hw0 hb
  have hX : U64 (x : Int) := u64_nat (by omega)
  have hY : U64 (y : Int) := u64_nat (by omega)
  have c1 : fmt64.bin = 160 := rfl
  have c3 : fmt64.sign = 9223372036854775808 := rfl
  have c4 : fmt64.inf = 9218868437227405312 := rfl
  have c5 : fmt64.canon = 9221120237041090560 := rfl
  refine ⟨_, f0.c3, _, f0.c4, ?_⟩
  rw [c3, c4, andnot64 x hx]
  refine cond_intro (fun _ => ⟨rfl, T0⟩) (fun hxi => ⟨_, f0.c3, _, f0.c4, ?_⟩)
  have hxi' : x % 9223372036854775808 = 9218868437227405312 := by have := bne_eq_false_iff_eq.1 hxi; omega
  clear hxi
  rw [c3, c4, andnot64 y hy]
  refine cond_dec (fun _ => ⟨rfl, T0⟩) (fun hyn => ?_)
  refine numlaw_KeptInf.step1 _ _ _ _ _ ?_
  unfold numlaw_KeptInf.V1
  refine ⟨_, f0.c3, _, f0.c1, (apL_spec _ _ _ hY w0).mono ?_⟩
  rintro v w1 ⟨rfl, S1⟩
  have f1 := f0.keep S1
  have T1 := T0.trans (S1.mono T0.size (by simp))
  refine ⟨_, rfl, _, f1.c1, (apL_spec _ _ _ hY w1).mono ?_⟩
  rintro v w2 ⟨rfl, S2⟩
  have f2 := f1.keep S2
  have T2 := T1.trans (S2.mono T1.size (by simp))
  refine ⟨_, rfl, _, f2.c1, (apL_spec _ _ _ hY w2).mono ?_⟩
  rintro v w3 ⟨rfl, S3⟩
  have f3 := f2.keep S3
  have T3 := T2.trans (S3.mono T2.size (by simp))
  refine ⟨_, rfl, _, f3.c1, (apL_spec _ _ _ hX w3).mono ?_⟩
  rintro v w4 ⟨rfl, S4⟩
  have f4 := f3.keep S4
  have T4 := T3.trans (S4.mono T3.size (by simp))
  have d2 : IntKind.wrap .i64 (160 + 2) = 162 := by decide
  have d3 : IntKind.wrap .i64 (160 + 3) = 163 := by decide
  refine ⟨_, rfl, _, f4.c3, _, f4.c4, ?_⟩
  rw [c1, c3, c4, d2, d3, apf64 162 x y hx hy (by decide) (by decide), apf64 160 x y hx hy (by decide) (by decide), apf64 163 x y hx hy (by decide) (by decide), apf64 163 y x hy hx (by decide) (by decide), andnot64 y hy]
  clear d2 d3
  refine cond_intro (fun hyi => ?_) (fun hyi => ⟨_, f4.c4, _, f4.c3, ?_⟩)
  · have hyi' : y % 9223372036854775808 = 9218868437227405312 := by have := eq_of_beq hyi; omega
    have hcx : x = 9218868437227405312 ∨ x = 18442240474082181120 := by omega
    have hcy : y = 9218868437227405312 ∨ y = 18442240474082181120 := by omega
    have l2 : ∀ X p s q v ws : Int, p = bOr .u64 9218868437227405312 X → s = ws → q = 9221120237041090560 → v = 9221120237041090560 → numlaw_KeptInf.L2 b X p s q v ws (fun v w' => v = .bool true ∧ Same [] w.heap.size w w') w4 := by
      intro X p s q v ws h1 h2 h3 h4
      refine numlaw_KeptInf.step2 _ _ _ _ _ _ _ _ _ ?_
      unfold numlaw_KeptInf.V2
      refine ⟨_, f4.c4, ?_⟩
      rw [c4, h1, h2, h3, h4]
      refine cond_true' (by simp) (cond_true' (by simp) ⟨_, f4.c5, ?_⟩)
      rw [c5]
      exact cond_true' rfl ⟨_, f4.c5, by rw [c5]; rfl, T4⟩
    rcases hcx with rfl | rfl <;> rcases hcy with rfl | rfl
    · exact cond_false' (by decide) (l2 _ _ _ _ _ _ (by decide +kernel) (by decide +kernel) (by decide +kernel) (by decide +kernel))
    · exact cond_true' (by decide) ⟨_, f4.c5, l2 _ _ _ _ _ _ (by decide +kernel) (by rw [c5]; decide +kernel) (by decide +kernel) (by decide +kernel)⟩
    · exact cond_true' (by decide) ⟨_, f4.c5, l2 _ _ _ _ _ _ (by decide +kernel) (by rw [c5]; decide +kernel) (by decide +kernel) (by decide +kernel)⟩
    · exact cond_false' (by decide) (l2 _ _ _ _ _ _ (by decide +kernel) (by decide +kernel) (by decide +kernel) (by decide +kernel))
  · have hyf : y % 9223372036854775808 < 9218868437227405312 := by have := beq_eq_false_iff_ne.1 hyi; omega
    obtain ⟨q1, q2, q3, q4⟩ := inf_facts64 x y hx hy hxi' hyf
    obtain ⟨g1, _, _⟩ := sgx64 x y hx hy
    have hle : (x ^^^ y) &&& 9223372036854775808 ≤ 9223372036854775808 := Nat.and_le_right
    have o2 : bOr .u64 9218868437227405312 (((x ^^^ y) &&& 9223372036854775808 : Nat) : Int) = ((9218868437227405312 ||| ((x ^^^ y) &&& 9223372036854775808) : Nat) : Int) := bOr64_n 9218868437227405312 _ (by decide) (by omega)
    rw [c3, c4, g1, o2, q1, q2, q3, q4, andnot64 y hy]
    have l3 : ∀ wp : Int, (if y % 9223372036854775808 = 0 then 9221120237041090560 else ((9218868437227405312 ||| ((x ^^^ y) &&& 9223372036854775808) : Nat) : Int)) = wp → numlaw_KeptInf.L3 x b (((x ^^^ y) &&& 9223372036854775808 : Nat) : Int) (if y % 9223372036854775808 = 0 then 9221120237041090560 else ((9218868437227405312 ||| ((x ^^^ y) &&& 9223372036854775808) : Nat) : Int)) x ((9218868437227405312 ||| ((x ^^^ y) &&& 9223372036854775808) : Nat) : Int) (((x ^^^ y) &&& 9223372036854775808 : Nat) : Int) wp (fun v w' => v = .bool true ∧ Same [] w.heap.size w w') w4 := by
      intro wp h
      refine numlaw_KeptInf.step3 _ _ _ _ _ _ _ _ _ _ ?_
      unfold numlaw_KeptInf.V3
      rw [h]
      refine cond_true' (by simp) (cond_true' (by simp) ⟨_, f4.c4, ?_⟩)
      rw [c4, o2]
      exact cond_true' (by simp) ⟨by simp, T4⟩
    by_cases h0 : y % 9223372036854775808 = 0
    · refine cond_true' (by rw [beq_iff_eq]; omega) ⟨_, f4.c5, l3 _ ?_⟩
      rw [if_pos h0]; rfl
    · refine cond_false' (by rw [beq_eq_false_iff_ne]; omega) (l3 _ ?_)
      rw [if_neg h0]

/-! ### promote by values -/
theorem KeptPromote_spec (x : Nat) (hx : x < 4294967296) (w : World) : Runs Try.prog numlaw_KeptPromote.id #[.int .u64 x] w fun v w' => v = .bool true ∧ Same [] w.heap.size w w' := by
  refine numlaw_KeptPromote.enter _ _ _ ?_
  unfold numlaw_KeptPromote.V
  refine (F32_spec w).mono ?_
  rintro v w1 ⟨rfl, T1⟩
  refine ⟨_, _, _, _, _, _, rfl, ?_⟩
  refine letB_intro fun b hb => letW_intro fun w2 hw2 => ?_
  have g2 : FmtAt w2 b ⟨0, 0, 0, 0, 0, 0⟩ := by rw [hw2, hb]; exact FmtAt.new w1 ⟨0, 0, 0, 0, 0, 0⟩ T_numlaw_Fmt
  have T2 : Same [] w.heap.size w w2 := by rw [hw2]; exact T1.alloc T1.size _
  have hbw : w.heap.size ≤ b := by rw [hb]; exact T1.size
  clear hw2 hb
  refine g2.put_intro (g := fmt32) fun w3 g3 h3 => ?_
  have T3 := same_fresh T2 hbw h3
  refine (F64_spec w3).mono ?_
  rintro v w4 ⟨rfl, S4⟩
  have g4 := g3.keep S4
  have T4 := T3.trans (S4.mono T3.size (by simp))
  refine ⟨_, _, _, _, _, _, rfl, ?_⟩
  refine letB_intro fun c hc => letW_intro fun w5 hw5 => ?_
  have k5 : FmtAt w5 c ⟨0, 0, 0, 0, 0, 0⟩ := by rw [hw5, hc]; exact FmtAt.new w4 ⟨0, 0, 0, 0, 0, 0⟩ T_numlaw_Fmt
  have T5 : Same [] w.heap.size w w5 := by rw [hw5]; exact T4.alloc T4.size _
  have S5 : Same [] w4.heap.size w4 w5 := by rw [hw5]; exact (Same.refl _ _ _).alloc (Nat.le_refl _) _
  have g5 := g4.keep S5
  have hcw : w.heap.size ≤ c := by rw [hc]; exact T4.size
  have hbc : b ≠ c := by rw [hc]; have := g4.lt; omega
  clear hw5 hc
  refine k5.put_intro (g := fmt64) fun w6 k6 h6 => ?_
  have T6 := same_fresh T5 hcw h6
  have g6 : FmtAt w6 b fmt32 := g5.same (h6 (b + 1)) (by omega) (by simp; exact hbc)
  have c3 : fmt32.sign = 2147483648 := rfl
  have c4 : fmt32.inf = 2139095040 := rfl
  have e3 : fmt64.sign = 9223372036854775808 := rfl
  have e4 : fmt64.inf = 9218868437227405312 := rfl
  refine ⟨_, g6.c3, _, g6.c4, ?_⟩
  rw [c3, c4, andnot32 x hx]
  refine cond_dec (fun _ => ⟨rfl, T6⟩) (fun hn => ?_)
  refine (apL_spec _ _ _ u64_0 w6).mono ?_
  rintro v w7 ⟨rfl, S7⟩
  have g7 := g6.keep S7
  have k7 := k6.keep S7
  have T7 := T6.trans (S7.mono T6.size (by simp))
  refine ⟨_, rfl, ?_⟩
  rw [ap_promote x hx]
  by_cases hf : x % 2147483648 < 2139095040
  · obtain ⟨m, i, r, p1, p2, p3, p4, p5, p6, p7, p8⟩ := promote_word x hx hf
    have hr : r < 9218868437227405312 := by rw [ir64] at p6; exact p6
    have hv : ar64 (floatToFloatBits .f32 x .f64) = Ieee.double.word (decide (2147483648 ≤ x)) r := by
      rw [p8, sgb32 x hx]; exact cnword64 _ r (by omega)
    rw [hv]
    have hvl := word64_lt (decide (2147483648 ≤ x)) r (by omega)
    have hmod : Ieee.double.word (decide (2147483648 ≤ x)) r % 9223372036854775808 = r := by
      have := rung_word Ieee.double (decide (2147483648 ≤ x)) r (by rw [sw64]; omega)
      rw [rung64] at this; exact this
    have hdiv : Ieee.double.word (decide (2147483648 ≤ x)) r / 9223372036854775808 = x / 2147483648 := by
      unfold Ieee.Format.word; rw [sw64]
      by_cases h : 2147483648 ≤ x
      · rw [decide_eq_true h, if_pos rfl]; omega
      · rw [decide_eq_false h]; simp only [Bool.false_eq_true, if_false]; omega
    have hread : Ieee.double.read r = .number false (pm64 r) (pe64 r) := read64 r hr
    obtain ⟨n', d', q1, q2, q3⟩ := read_val Ieee.double r (by rw [rung64, ir64]; omega)
    rw [hread] at q1
    simp only [Ieee.Datum.number.injEq] at q1
    obtain ⟨_, rfl, rfl⟩ := q1
    have hrr : rung Ieee.double r = r := by rw [rung64]; omega
    rw [hrr, p7, dlp] at q3
    rw [readS32 x hx hf] at p1
    simp only [Ieee.Datum.number.injEq] at p1
    obtain ⟨_, rfl, rfl⟩ := p1
    have hpn := read_norm Ieee.double r false (pm64 r) (pe64 r) hread
    rw [dbin, dlp] at hpn
    rw [dlp] at q2
    generalize Ieee.double.word (decide (2147483648 ≤ x)) r = V at hvl hmod hdiv
    have f1 : Int.fdiv (x : Int) (2 ^ (31 : Nat)) = ((x / 2147483648 : Nat) : Int) := fdiv_n x 31
    have f2 : Int.fdiv (V : Int) (2 ^ (63 : Nat)) = ((V / 9223372036854775808 : Nat) : Int) := fdiv_n V 63
    rw [f1, f2, hdiv]
    refine cond_false' (by simp) ⟨_, g7.c3, _, g7.c4, ?_⟩
    rw [c3, c4, andnot32 x hx]
    refine cond_false' (by rw [beq_eq_false_iff_ne]; omega) ⟨_, k7.c3, _, k7.c4, ?_⟩
    rw [e3, e4, andnot64 V hvl, hmod]
    refine cond_false' (decide_eq_false (by omega)) ⟨_, _, _, _, _, _, g7.c0, g7.c1, g7.c2, g7.c3, g7.c4, g7.c5, _, g7.c3, ?_⟩
    rw [c3, andnot32 x hx]
    refine (Part32_spec (x % 2147483648) hf w7).mono ?_
    rintro v w8 ⟨rfl, S8⟩
    have k8 := k7.keep S8
    have T8 := T7.trans (S8.mono T7.size (by simp))
    refine ⟨_, _, rfl, _, _, _, _, _, _, k8.c0, k8.c1, k8.c2, k8.c3, k8.c4, k8.c5, _, k8.c3, ?_⟩
    rw [e3, andnot64 V hvl, hmod]
    refine (Part64_spec r hr w8).mono ?_
    rintro v w9 ⟨rfl, S9⟩
    have T9 := T8.trans (S9.mono T8.size (by simp))
    refine ⟨_, _, rfl, ?_⟩
    clear p5 p6 p7 p8 hv hread hmod hdiv f1 f2
    have hmlt : pm32 (x % 2147483648) < 16777216 := p2
    generalize pm32 (x % 2147483648) = m at *
    generalize pe32 (x % 2147483648) = i at *
    generalize pm64 r = n at *
    generalize pe64 r = d at *
    by_cases hm0 : m = 0
    · subst hm0
      rw [Nat.zero_mul] at q3
      have hn0 : n = 0 := by
        rcases Nat.eq_zero_or_pos n with h | h
        · exact h
        · have := Nat.mul_pos h (Nat.two_pow_pos (d - -1074).toNat); omega
      refine cond_true' (by decide) ⟨by rw [hn0]; rfl, T9⟩
    · have hn0 : n ≠ 0 := by
        intro h
        subst h
        rw [Nat.zero_mul] at q3
        have := Nat.mul_pos (Nat.pos_of_ne_zero hm0) (Nat.two_pow_pos (i - -1074).toNat)
        omega
      have hlm := log2_lt m 23 (by omega)
      have hln := log2_lt n 52 (by omega)
      have hlog := log2_pos _ _ _ _ hn0 hm0 q3
      have hnn : 4503599627370496 ≤ n := by
        rcases hpn.2 with h | h
        · omega
        · exact h
      have hl52 : n.log2 = 52 := (Nat.log2_eq_iff hn0).2 ⟨hnn, by omega⟩
      obtain ⟨sh, hsh⟩ : ∃ sh : Nat, (sh : Int) = i - d := ⟨(i - d).toNat, by omega⟩
      have hns : n = m * 2 ^ sh := by
        have := pow_shift n m (d - -1074).toNat (i - -1074).toNat 0 sh q3 (by omega)
        rw [Nat.pow_zero, Nat.mul_one] at this
        exact this
      have esh : IntKind.wrap .i64 (i - d) = (sh : Int) := by rw [← hsh, wrap_i64 (by omega) (by omega)]
      rw [esh]
      have hshb : sh ≤ 52 := by omega
      refine cond_false' (by rw [beq_eq_false_iff_ne]; omega) (cond_false' (decide_eq_false (by omega)) (cond_false' (decide_eq_false (by omega)) ?_))
      refine numlaw_KeptPromote.step1 _ _ _ _ _ ?_
      unfold numlaw_KeptPromote.V1
      have e64 : IntKind.wrap .u64 (sh : Int) = (sh : Int) := wrap64_n sh (by omega)
      rw [e64, fdivk n sh (by omega), hns, Nat.mul_div_cancel _ (Nat.two_pow_pos sh)]
      refine ⟨by omega, cond_true' (by simp) ⟨by omega, ?_, T9⟩⟩
      rw [low_zero (m * 2 ^ sh) sh (by rw [← hns]; omega) (by omega) (Nat.mul_mod_left _ _)]
      rfl
  · have hi : x = 2139095040 ∨ x = 4286578688 := by omega
    rcases hi with rfl | rfl
    · refine cond_false' (by decide +kernel) ⟨_, g7.c3, _, g7.c4, cond_true' (by decide +kernel) ⟨_, k7.c3, _, k7.c4, ?_, T7⟩⟩
      rw [e3, e4]
      have : (bAndNot .u64 ((ar64 (floatToFloatBits .f32 2139095040 .f64) : Nat) : Int) 9223372036854775808 == 9218868437227405312) = true := by decide +kernel
      rw [this]
    · refine cond_false' (by decide +kernel) ⟨_, g7.c3, _, g7.c4, cond_true' (by decide +kernel) ⟨_, k7.c3, _, k7.c4, ?_, T7⟩⟩
      rw [e3, e4]
      have : (bAndNot .u64 ((ar64 (floatToFloatBits .f32 4286578688 .f64) : Nat) : Int) 9223372036854775808 == 9218868437227405312) = true := by decide +kernel
      rw [this]

/-! ### demote by patterns -/
theorem cut_tie (n e : Nat) (h : n = cutE n (e + 1) * 2 ^ (e + 1) + 2 ^ e ∨ n + 2 ^ e = cutE n (e + 1) * 2 ^ (e + 1)) : cutE n (e + 1) % 2 = 0 := by
  unfold cutE at *
  have hp : 2 ^ (e + 1) = 2 * 2 ^ e := by rw [Nat.pow_succ, Nat.mul_comm]
  have h0 := Nat.two_pow_pos e
  have hd := Nat.div_add_mod n (2 ^ (e + 1))
  have hm := Nat.mod_lt n (Nat.two_pow_pos (e + 1))
  rw [Nat.mul_comm] at hd
  generalize n / 2 ^ (e + 1) = q at *
  generalize n % 2 ^ (e + 1) = r at *
  rw [hp] at *
  generalize 2 ^ e = g at *
  by_cases h1 : 2 * g < 2 * r
  · rw [decide_eq_true h1] at h ⊢
    exfalso
    have h' : n = (q + 1) * (2 * g) + g ∨ n + g = (q + 1) * (2 * g) := h
    rw [Nat.add_mul, Nat.one_mul] at h'
    generalize q * (2 * g) = z at *
    omega
  · rw [decide_eq_false h1] at h ⊢
    by_cases h2 : 2 * g = 2 * r
    · have e2 : (2 * g == 2 * r) = true := by rw [beq_iff_eq]; exact h2
      rw [e2] at h ⊢
      by_cases h3 : q % 2 = 1
      · have e3 : (q % 2 == 1) = true := by rw [beq_iff_eq]; exact h3
        rw [e3]
        show (q + 1) % 2 = 0
        omega
      · have e3 : (q % 2 == 1) = false := by rw [beq_eq_false_iff_ne]; exact h3
        rw [e3]
        show (q + 0) % 2 = 0
        omega
    · have e2 : (2 * g == 2 * r) = false := by rw [beq_eq_false_iff_ne]; exact h2
      rw [e2] at h
      exfalso
      have h' : n = (q + 0) * (2 * g) + g ∨ n + g = (q + 0) * (2 * g) := h
      rw [Nat.add_zero] at h'
      generalize q * (2 * g) = z at *
      omega

/-- The float64's pattern of a normal float32's. -/
def demV (r : Nat) : Nat := r * 536870912 + 4035225266123964416
theorem demV_eq (r : Nat) : demV r = r * 536870912 + 4035225266123964416 := by unfold demV; rfl

/-- What KeptDemote asks of the magnitude m's answer r. -/
def DemOk (m r : Nat) : Prop := r ≤ 2139095040 ∧ (r = 2139095040 → 5183643170835005440 ≤ m) ∧ (r ≤ 8388608 → m ≤ 4039728866019770368) ∧
  (8388608 < r → r < 2139095040 → (m ≤ demV r + 268435456 ∧ demV r ≤ m + 268435456) ∧ ((m = demV r + 268435456 ∨ m + 268435456 = demV r) → r % 2 = 0))

theorem cutE_small (n d : Nat) (h : 2 * n < 2 ^ d) : cutE n d = 0 := by
  unfold cutE
  rw [Nat.div_eq_of_lt (by omega), Nat.mod_eq_of_lt (by omega)]
  have e1 : decide (2 ^ d < 2 * n) = false := decide_eq_false (by omega)
  have e2 : (2 ^ d == 2 * n) = false := by rw [beq_eq_false_iff_ne]; omega
  rw [e1, e2]; rfl
theorem cutE_le (n d K : Nat) (h : n < K * 2 ^ d) : cutE n d ≤ K := by
  unfold cutE
  have h1 : n / 2 ^ d < K := (Nat.div_lt_iff_lt_mul (Nat.two_pow_pos d)).2 h
  have hb : ∀ b : Bool, b.toNat ≤ 1 := by decide
  have := hb (decide (2 ^ d < 2 * (n % 2 ^ d)) || (2 ^ d == 2 * (n % 2 ^ d) && n / 2 ^ d % 2 == 1))
  omega

theorem sfrac : Ieee.single.fractionBits = 23 := rfl
theorem sbin : Ieee.single.binade = 8388608 := by decide

theorem dem_rung (m : Nat) (hm : m < 5183643170835005440) (s : Bool) (hlt : pm64 m ≠ 0 → rungOf Ieee.single s (pm64 m) (pe64 m) < 2139095040) : DemOk m (if pm64 m = 0 then 0 else min (rungOf Ieee.single s (pm64 m) (pe64 m)) 2139095040) := by
  by_cases h0 : pm64 m = 0
  · rw [if_pos h0]
    have : m = 0 := (pm64_zero m).1 h0
    subst this
    exact ⟨by omega, fun h => by omega, fun _ => by omega, fun h => by omega⟩
  · have hr := hlt h0
    rw [if_neg h0, Nat.min_eq_left (Nat.le_of_lt hr)]
    have hsub : m < 4503599627370496 → rungOf Ieee.single s (pm64 m) (pe64 m) = 0 := by
      intro h
      have e1 : pm64 m = m := by unfold pm64; rw [if_pos h]
      have e2 : pe64 m = -1074 := by unfold pe64; rw [if_pos h]
      rw [e1, e2]
      have hl := log2_lt m 51 (by omega)
      unfold rungOf
      rw [slp, sfrac]
      have em : max ((-1074 : Int) + (m.log2 : Int) - ((23 : Nat) : Int)) (-149) = -149 := by omega
      rw [em, cut_eq]
      have z1 : ((-149 : Int) - -149).toNat = 0 := by decide
      have z2 : ((-1074 : Int) - -149).toNat = 0 := by decide
      obtain ⟨D, hD⟩ : ∃ D : Nat, D = 861 := ⟨_, rfl⟩
      have z3 : ((-149 : Int) - -1074).toNat = 64 + D := by rw [hD]; decide
      rw [z1, z2, z3, Nat.shiftLeft_zero, Nat.zero_mul, Nat.zero_add]
      apply cutE_small
      rw [Nat.pow_add]
      have a1 : (2 : Nat) ^ 64 = 18446744073709551616 := by decide
      have a2 := Nat.two_pow_pos D
      have a3 : 18446744073709551616 * 1 ≤ 2 ^ 64 * 2 ^ D := by rw [a1]; exact Nat.mul_le_mul_left _ a2
      generalize 2 ^ 64 * 2 ^ D = Z at *
      omega
    by_cases hs : m < 4503599627370496
    · rw [hsub hs]
      exact ⟨by omega, fun h => by omega, fun _ => by omega, fun h => by omega⟩
    · have hM : pm64 m = 4503599627370496 + m % 4503599627370496 := by unfold pm64; rw [if_neg hs]
      have hi : pe64 m = -1074 + (m / 4503599627370496 - 1 : Nat) := by unfold pe64; rw [if_neg hs]
      have hlog : (pm64 m).log2 = 52 := (Nat.log2_eq_iff h0).2 ⟨by rw [hM]; omega, by rw [hM]; omega⟩
      have hru : rungOf Ieee.single s (pm64 m) (pe64 m) = (max (pe64 m + 52 - 23) (-149) - -149).toNat * 8388608 + cutE (pm64 m <<< (pe64 m - max (pe64 m + 52 - 23) (-149)).toNat) (max (pe64 m + 52 - 23) (-149) - pe64 m).toNat := by
        unfold rungOf
        rw [slp, sfrac, sbin, hlog, cut_eq]
        rfl
      rw [hru] at hr ⊢
      clear hru hsub hlt
      generalize hMg : pm64 m = M at *
      generalize hIg : pe64 m = i at *
      by_cases hn : -178 ≤ i
      · have em : max (i + 52 - 23) (-149) = i + 29 := by omega
        rw [em] at hr ⊢
        have z2 : (i - (i + 29)).toNat = 0 := by omega
        have z3 : (i + 29 - i).toNat = 28 + 1 := by omega
        rw [z2, z3, Nat.shiftLeft_zero] at hr ⊢
        obtain ⟨K, hK⟩ : ∃ K : Nat, (i + 29 - -149).toNat = K := ⟨_, rfl⟩
        rw [hK] at hr ⊢
        obtain ⟨b1, b2⟩ := cut_bd M 28
        have b3 := cut_range M 28 23 (Nat.le_trans (Nat.le_of_eq (by decide)) (show 4503599627370496 ≤ M by omega)) (Nat.lt_of_lt_of_le (show M < 9007199254740992 by omega) (Nat.le_of_eq (by decide)))
        have b4 := cut_tie M 28
        generalize cutE M (28 + 1) = c at *
        have p29 : (2 : Nat) ^ (28 + 1) = 536870912 := by decide
        have p28 : (2 : Nat) ^ 28 = 268435456 := by decide
        have p23 : (2 : Nat) ^ 23 = 8388608 := by decide
        have p24 : (2 : Nat) ^ (23 + 1) = 16777216 := by decide
        rw [p29, p28] at b1 b2 b4
        rw [p23, p24] at b3
        have hmK : m = (K + 896) * 4503599627370496 + M := by omega
        have er : (K * 8388608 + c) * 536870912 = K * 4503599627370496 + c * 536870912 := by
          rw [Nat.add_mul, Nat.mul_assoc]
        have em2 : (K + 896) * 4503599627370496 = K * 4503599627370496 + 4035225266123964416 := by rw [Nat.add_mul]
        rw [em2] at hmK
        have hlow : K * 8388608 + c ≤ 8388608 → m ≤ 4039728866019770368 := by
          intro h
          have hK0 : K = 0 := by omega
          subst hK0
          have hc0 : c = 8388608 := by omega
          subst hc0
          clear er em2 b4
          omega
        have hDm : ∀ A C : Nat, A = K * 4503599627370496 → C = c * 536870912 → DemOk m (K * 8388608 + c) := by
          intro A C hA hC
          unfold DemOk
          rw [← hA] at hmK er
          rw [← hC] at b1 b2 b4 er
          clear em2 hA hC
          refine ⟨Nat.le_of_lt hr, fun h => by clear er; omega, hlow, fun h1 h2 => ?_⟩
          have hZ := demV_eq (K * 8388608 + c)
          rw [er] at hZ
          clear er hlow
          generalize demV (K * 8388608 + c) = Z at *
          refine ⟨⟨by omega, by omega⟩, fun h => ?_⟩
          have hpar : c % 2 = 0 := b4 (by omega)
          omega
        exact hDm _ _ rfl rfl
      · have em : max (i + 52 - 23) (-149) = -149 := by omega
        rw [em] at hr ⊢
        have z1 : ((-149 : Int) - -149).toNat = 0 := by decide
        have z2 : (i - -149).toNat = 0 := by omega
        obtain ⟨d, hd⟩ : ∃ d : Nat, (-149 - i).toNat = d + 30 := ⟨(-149 - i).toNat - 30, by omega⟩
        rw [z1, z2, hd, Nat.shiftLeft_zero, Nat.zero_mul, Nat.zero_add] at hr ⊢
        have hle : cutE M (d + 30) ≤ 8388608 := by
          apply cutE_le
          rw [Nat.pow_add]
          have a1 := Nat.two_pow_pos d
          have a2 : (2 : Nat) ^ 30 = 1073741824 := by decide
          rw [a2, ← Nat.mul_assoc, Nat.mul_right_comm]
          have a3 : 8388608 * 1073741824 * 1 ≤ 8388608 * 1073741824 * 2 ^ d := Nat.mul_le_mul_left _ a1
          generalize 8388608 * 1073741824 * 2 ^ d = Z at *
          omega
        generalize cutE M (d + 30) = c at *
        exact ⟨by omega, fun h => by omega, fun _ => by omega, fun h => by omega⟩

theorem demote_pat (x : Nat) (hx : x < 18446744073709551616) (hv : x % 9223372036854775808 ≤ 9218868437227405312) : ∃ r, dem x = (((Ieee.single.word (decide (9223372036854775808 ≤ x)) r : Nat) : Int), 0) ∧ DemOk (x % 9223372036854775808) r := by
  have k1 : key Ieee.double 5183643170835005440 = 5183643170835005440 := by decide
  have k2 : key Ieee.double 14407015207689781248 = -5183643170835005440 := by decide
  have o1 := order64 x 5183643170835005440 hv (by decide)
  have o2 := order64 x 14407015207689781248 hv (by decide)
  rw [k1] at o1
  rw [k2] at o2
  have hinfok : ∀ m, 5183643170835005440 ≤ m → DemOk m 2139095040 := fun m hm => ⟨by omega, fun _ => hm, fun h => by omega, fun _ h => by omega⟩
  unfold dem
  by_cases hbig : 5183643170835005440 ≤ x % 9223372036854775808
  · refine ⟨2139095040, ?_, hinfok _ hbig⟩
    rw [o1, o2, beq_gt, beq_eq, beq_lt, beq_eq]
    by_cases hs : 9223372036854775808 ≤ x
    · rw [key64_neg x hx hs, decide_eq_true hs]
      have a1 : decide ((5183643170835005440 : Int) < -((x % 9223372036854775808 : Nat) : Int)) = false := decide_eq_false (by omega)
      have a2 : decide (-((x % 9223372036854775808 : Nat) : Int) = 5183643170835005440) = false := decide_eq_false (by omega)
      rw [a1, a2]
      have a3 : (decide (-((x % 9223372036854775808 : Nat) : Int) < -5183643170835005440) || decide (-((x % 9223372036854775808 : Nat) : Int) = -5183643170835005440)) = true := by
        rw [Bool.or_eq_true, decide_eq_true_iff, decide_eq_true_iff]; omega
      rw [a3]; rfl
    · rw [key64_pos x hx hs, decide_eq_false hs]
      have a3 : (decide ((5183643170835005440 : Int) < ((x % 9223372036854775808 : Nat) : Int)) || decide (((x % 9223372036854775808 : Nat) : Int) = 5183643170835005440)) = true := by
        rw [Bool.or_eq_true, decide_eq_true_iff, decide_eq_true_iff]; omega
      rw [a3]; rfl
  · have hfin : x % 9223372036854775808 < 9218868437227405312 := by omega
    have hk : -5183643170835005440 < key Ieee.double x ∧ key Ieee.double x < 5183643170835005440 := by
      by_cases hs : 9223372036854775808 ≤ x
      · rw [key64_neg x hx hs]; omega
      · rw [key64_pos x hx hs]; omega
    have t1 : (Ieee.double.order x 5183643170835005440 == some .gt || Ieee.double.order x 5183643170835005440 == some .eq) = false := by
      rw [o1, beq_gt, beq_eq, decide_eq_false (by omega), decide_eq_false (by omega)]; rfl
    have t2 : (Ieee.double.order x 14407015207689781248 == some .lt || Ieee.double.order x 14407015207689781248 == some .eq) = false := by
      rw [o2, beq_lt, beq_eq, decide_eq_false (by omega), decide_eq_false (by omega)]; rfl
    have hread := readS64 x hx hfin
    rcases demote_fits x t1 t2 with hnan | ⟨q, hq⟩
    · rw [hread] at hnan; cases hnan
    rw [t1, t2, cond_false, cond_false, hq]
    have hq' := hq
    unfold floatToFloatBits at hq'
    rw [if_neg (by decide)] at hq'
    have hd : FloatKind.decode .f64 x = .number (decide (9223372036854775808 ≤ x)) (pm64 (x % 9223372036854775808)) (pe64 (x % 9223372036854775808)) := hread
    rw [hd] at hq'
    simp only at hq'
    split at hq'
    · cases hq'
    · rename_i hni
      simp only [Option.some.injEq] at hq'
      have hw : q = Ieee.single.word (decide (9223372036854775808 ≤ x)) (if pm64 (x % 9223372036854775808) = 0 then 0 else min (rungOf Ieee.single (decide (9223372036854775808 ≤ x)) (pm64 (x % 9223372036854775808)) (pe64 (x % 9223372036854775808))) 2139095040) := by
        rw [← hq']
        show Ieee.single.write _ = _
        rw [write_number, ir32]
      have hlt : pm64 (x % 9223372036854775808) ≠ 0 → rungOf Ieee.single (decide (9223372036854775808 ≤ x)) (pm64 (x % 9223372036854775808)) (pe64 (x % 9223372036854775808)) < 2139095040 := by
        intro hne
        rcases Nat.lt_or_ge (rungOf Ieee.single (decide (9223372036854775808 ≤ x)) (pm64 (x % 9223372036854775808)) (pe64 (x % 9223372036854775808))) 2139095040 with h | h
        · exact h
        · exfalso
          apply hni
          have e : FloatKind.encode .f32 (.number (decide (9223372036854775808 ≤ x)) (pm64 (x % 9223372036854775808)) (pe64 (x % 9223372036854775808))) = q := hq'
          rw [e, hw, if_neg hne, Nat.min_eq_right h]
          have := read_inf Ieee.single single_bi (Ieee.single.word (decide (9223372036854775808 ≤ x)) 2139095040) (by rw [rung_word Ieee.single _ 2139095040 (by rw [sw32]; decide), ir32])
          show (Ieee.single.read _).isInfinity = true
          rw [this]; rfl
      have hok := dem_rung (x % 9223372036854775808) (by omega) (decide (9223372036854775808 ≤ x)) hlt
      refine ⟨_, ?_, hok⟩
      rw [← hw]
      have hq32 := ftf32_lt x q hq
      have hcn : ar32 (some q) = q := by
        rw [hw]; exact cnword32 _ _ hok.1
      rw [hcn]
      unfold W64
      rw [wrap64_n q (by omega)]

theorem KeptDemote_spec (x : Nat) (hx : x < 18446744073709551616) (w : World) : Runs Try.prog numlaw_KeptDemote.id #[.int .u64 x] w fun v w' => v = .bool true ∧ Same [] w.heap.size w w' := by
  refine numlaw_KeptDemote.enter _ _ _ ?_
  unfold numlaw_KeptDemote.V
  rw [andnot64 x hx]
  refine cond_dec (fun _ => ⟨rfl, Same.refl _ _ _⟩) (fun hn => ?_)
  refine (apL_spec _ _ _ u64_0 w).mono ?_
  rintro v w1 ⟨rfl, T1⟩
  refine ⟨_, rfl, ?_⟩
  obtain ⟨r, h1, h2, h3, h4, h5⟩ := demote_pat x hx (by omega)
  rw [ap_demote, h1]
  have hwl := word32_lt (decide (9223372036854775808 ≤ x)) r (by omega)
  have hmod : Ieee.single.word (decide (9223372036854775808 ≤ x)) r % 2147483648 = r := by
    have := rung_word Ieee.single (decide (9223372036854775808 ≤ x)) r (by rw [sw32]; omega)
    rw [rung32] at this; exact this
  have hdiv : Ieee.single.word (decide (9223372036854775808 ≤ x)) r / 2147483648 = x / 9223372036854775808 := by
    unfold Ieee.Format.word; rw [sw32]
    by_cases h : 9223372036854775808 ≤ x
    · rw [decide_eq_true h, if_pos rfl]; omega
    · rw [decide_eq_false h]; simp only [Bool.false_eq_true, if_false]; omega
  generalize Ieee.single.word (decide (9223372036854775808 ≤ x)) r = V at *
  have f1 : Int.fdiv (x : Int) (2 ^ (63 : Nat)) = ((x / 9223372036854775808 : Nat) : Int) := fdiv_n x 63
  have f2 : Int.fdiv (V : Int) (2 ^ (31 : Nat)) = ((V / 2147483648 : Nat) : Int) := fdiv_n V 31
  show cond (Int.fdiv (V : Int) (2 ^ (31 : Nat)) != Int.fdiv (x : Int) (2 ^ (63 : Nat))) _ _
  rw [f1, f2, hdiv]
  refine cond_false' (by simp) ?_
  show cond (decide (bAndNot .u64 (V : Int) 2147483648 > 2139095040)) _ (numlaw_KeptDemote.L1 ((x % 9223372036854775808 : Nat) : Int) (bAndNot .u64 (V : Int) 2147483648) _ w1)
  rw [andnot32 V hwl, hmod]
  refine cond_false' (decide_eq_false (by omega)) ?_
  clear f1 f2 hdiv hmod hwl h1
  generalize x % 9223372036854775808 = m at *
  refine numlaw_KeptDemote.step1 _ _ _ _ ?_
  unfold numlaw_KeptDemote.V1
  refine cond_intro (fun h => ⟨?_, T1⟩) (fun h => ?_)
  · have := h3 (by have := eq_of_beq h; omega)
    rw [decide_eq_true (show (m : Int) ≥ 5183643170835005440 by omega)]
  · refine cond_dec (fun hle => ⟨?_, T1⟩) (fun hle => ?_)
    · have := h4 (by omega)
      rw [decide_eq_true (show (m : Int) ≤ 4039728866019770368 by omega)]
    · have hr : r < 2139095040 := by have := beq_eq_false_iff_ne.1 h; omega
      have h6 := h5 (by omega) hr
      have hZ := demV_eq r
      generalize demV r = Z at *
      have a1 := h6.1.1
      have a2 := h6.1.2
      have a3 := h6.2
      clear h6 h3 h4 h5
      have e1 : IntKind.wrap .u64 ((IntKind.wrap .u64 ((r : Int) * 2 ^ (29 : Nat))) + 4035225266123964416) = (Z : Int) := by
        clear a1 a2 a3
        have q1 : IntKind.wrap .u64 ((r : Int) * 2 ^ (29 : Nat)) = (r : Int) * 536870912 := by
          have : (2 : Int) ^ (29 : Nat) = 536870912 := by decide
          rw [this, wrap_u64 (by omega) (by omega)]
        rw [q1, wrap_u64 (by omega) (by omega)]; omega
      rw [e1]
      have hZ1 : Z < 9223372036854775808 := by clear e1 a1 a2 a3; omega
      clear hZ
      have l2 : ∀ d : Int, 0 ≤ d → d ≤ 268435456 → (d = 268435456 → r % 2 = 0) → numlaw_KeptDemote.L2 r d (fun v w' => v = .bool true ∧ Same [] w.heap.size w w') w1 := by
        intro d hd0 hd1 hd2
        refine numlaw_KeptDemote.step2 _ _ _ _ ?_
        unfold numlaw_KeptDemote.V2
        refine cond_dec (fun _ => ⟨rfl, T1⟩) (fun hlt => cond_true' (by rw [beq_iff_eq]; omega) ⟨?_, T1⟩)
        rw [and1 r (by omega), hd2 (by omega)]; rfl
      clear e1
      refine cond_dec (fun hlt => ?_) (fun hlt => ?_)
      · rw [wrap_u64 (by omega) (by omega)]
        exact l2 _ (by omega) (by omega) (fun hd => a3 (.inr (by omega)))
      · rw [wrap_u64 (by omega) (by omega)]
        exact l2 _ (by omega) (by omega) (fun hd => a3 (.inl (by omega)))

end Go.Proofs.Qxb6500320a
