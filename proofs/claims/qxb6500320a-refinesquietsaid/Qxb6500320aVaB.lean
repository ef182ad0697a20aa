/-
  Floats: what the laws of KeepsFloat say of the plain functions: canonical NaNs, bits, order.
-/
import Derived.Test.Qxb6500320aVaA
set_option linter.unusedSimpArgs false
set_option linter.unusedVariables false
set_option maxRecDepth 100000
namespace Go.Proofs.Qxb6500320a
open Go Go.Vc

theorem sum_comm (d e : Ieee.Datum) : d.sum e = e.sum d := by
  cases d with
  | nan s t => cases e <;> rfl
  | infinity s =>
    cases e with
    | nan t u => rfl
    | infinity t =>
      simp only [Ieee.Datum.sum]
      by_cases h : s = t
      · subst h; rfl
      · rw [if_neg h, if_neg (fun h' => h h'.symm)]
    | number t n j => rfl
  | number s m i =>
    cases e with
    | nan t u => rfl
    | infinity t => rfl
    | number t n j =>
      simp only [Ieee.Datum.sum]
      rw [Int.min_comm j i, Int.add_comm (Ieee.signed t n _), Bool.and_comm t s]
theorem product_comm (d e : Ieee.Datum) : d.product e = e.product d := by
  cases d with
  | nan s t => cases e <;> rfl
  | infinity s =>
    cases e with
    | nan t u => rfl
    | infinity t => simp only [Ieee.Datum.product]; rw [Bool.xor_comm]
    | number t n j => rfl
  | number s m i =>
    cases e with
    | nan t u => rfl
    | infinity t => rfl
    | number t n j => simp only [Ieee.Datum.product]; rw [Bool.xor_comm, Nat.mul_comm, Int.add_comm]

theorem sub_self (f : Ieee.Format) (x : Nat) : f.sub x x = (match f.read x with | .number _ _ _ => some 0 | _ => none) := by
  unfold Ieee.Format.sub
  cases f.read x with
  | nan s t => rfl
  | infinity s => cases s <;> rfl
  | number s m i =>
    have h : (Ieee.Datum.number s m i).sum (Ieee.Datum.number s m i).opposite = some (.number false 0 i) := by
      simp only [Ieee.Datum.opposite, Ieee.Datum.sum]
      have e0 : min i i = i := by omega
      have e1 : Ieee.signed s m (i - i).toNat + Ieee.signed (!s) m (i - i).toNat = 0 := by
        unfold Ieee.signed
        cases s <;> simp <;> omega
      rw [e0, e1]
      cases s <;> rfl
    rw [h]
    simp only [Option.map_some]
    rw [write_number, if_pos rfl]; rfl

/-! ### 32 bits -/
theorem sw32 : Ieee.single.signWeight = 2147483648 := by decide
theorem ir32 : Ieee.single.infRung = 2139095040 := by decide
theorem rung32 (x : Nat) : rung Ieee.single x = x % 2147483648 := by unfold rung; rw [sw32]
theorem sgb32 (x : Nat) (h : x < 4294967296) : sgb Ieee.single x = decide (2147483648 ≤ x) := by
  unfold sgb; rw [sw32, Bool.eq_iff_iff, beq_iff_eq, decide_eq_true_iff]; omega
theorem nan32 (x : Nat) : (Ieee.single.read x).isNaN = decide (2139095040 < x % 2147483648) := by
  rw [isNaN_rung _ single_bi, sw32, ir32]
theorem andnot32 (x : Nat) (h : x < 4294967296) : bAndNot .u64 (x : Int) 2147483648 = ((x % 2147483648 : Nat) : Int) := by
  unfold bAndNot
  have e1 : (BitVec.ofInt (IntKind.bits .u64) (x : Int)).toNat = x := ofInt_nat x 64 (by omega)
  have e2 : (~~~(BitVec.ofInt (IntKind.bits .u64) 2147483648)).toNat = 18446744071562067967 := by decide +kernel
  rw [BitVec.toNat_and, e1, e2]
  have e3 : x &&& 18446744071562067967 = x % 2147483648 := by
    have e4 : x = x % 2 ^ 32 := by omega
    have e5 : x &&& 18446744071562067967 = x % 2 ^ 31 := by
      have h1 : (18446744071562067967 : Nat) % 2 ^ 32 = 2147483647 := by decide
      have h2 : (x &&& 18446744071562067967) % 2 ^ 32 = (x % 2 ^ 32) &&& (18446744071562067967 % 2 ^ 32) := Nat.and_mod_two_pow
      have h3 : (x &&& 18446744071562067967) ≤ x := Nat.and_le_left
      rw [h1, ← e4] at h2
      have h4 : x &&& 2147483647 = x % 2 ^ 31 := Nat.and_two_pow_sub_one_eq_mod x 31
      rw [h4] at h2
      omega
    exact e5
  rw [e3, wrap64_n _ (by omega)]
theorem andnotu32 (x : Nat) (h : x < 4294967296) : bAndNot .u32 (x : Int) 2147483648 = ((x % 2147483648 : Nat) : Int) := by
  unfold bAndNot
  have e1 : (BitVec.ofInt (IntKind.bits .u32) (x : Int)).toNat = x := ofInt_nat x 32 (by omega)
  have e2 : (~~~(BitVec.ofInt (IntKind.bits .u32) 2147483648)).toNat = 2147483647 := by decide +kernel
  rw [BitVec.toNat_and, e1, e2]
  have e3 : x &&& 2147483647 = x % 2147483648 := Nat.and_two_pow_sub_one_eq_mod x 31
  rw [e3, wrap32_n _ (by omega)]

/-- No NaN but the canonical one. -/
def Can32 (v : Nat) : Prop := v % 2147483648 ≤ 2139095040 ∨ v = 2143289344
theorem cn32_can (x : Nat) : Can32 (cn32 x) := by
  unfold cn32 Can32
  rw [nan32]
  by_cases h : 2139095040 < x % 2147483648
  · rw [decide_eq_true h]; exact .inr rfl
  · rw [decide_eq_false h]; left; simp only [Bool.false_eq_true, if_false]; omega
theorem ar32_can (o : Option Nat) : Can32 (ar32 o) := by
  cases o with
  | none => exact .inr rfl
  | some r => exact cn32_can r
theorem near32_can (n : Int) : Can32 (FloatKind.nearest .f32 n) := by
  left
  have h := write_not_nan Ieee.single single_bi (.number (n < 0) n.natAbs 0) rfl
  rw [nan32] at h
  have h' := of_decide_eq_false h
  have e : FloatKind.nearest .f32 n = Ieee.single.write (.number (n < 0) n.natAbs 0) := rfl
  rw [e]; omega

/-- What order says of least and most. -/
theorem order32 (x y : Nat) (hx : x % 2147483648 ≤ 2139095040) (hy : y % 2147483648 ≤ 2139095040) : Ieee.single.order x y = some (compare (key Ieee.single x) (key Ieee.single y)) :=
  order_key Ieee.single single_bi x y (by rw [rung32, ir32]; exact hx) (by rw [rung32, ir32]; exact hy)
theorem order32_nan (x y : Nat) (h : 2139095040 < x % 2147483648 ∨ 2139095040 < y % 2147483648) : Ieee.single.order x y = none :=
  order_nan Ieee.single single_bi x y (by rw [rung32, rung32, ir32]; exact h)
theorem self32 (x : Nat) : (Ieee.single.order x x != some .eq) = decide (2139095040 < x % 2147483648) := by rw [order_self, nan32]
theorem key32 (x : Nat) (h : x < 4294967296) : key Ieee.single x = if 2147483648 ≤ x then -((x % 2147483648 : Nat) : Int) else ((x % 2147483648 : Nat) : Int) := by
  unfold key; rw [sgb32 x h, rung32]
  by_cases hh : 2147483648 ≤ x
  · rw [decide_eq_true hh]; simp [hh]
  · rw [decide_eq_false hh]; simp [hh]

theorem least32_eq (x y : Nat) : least Ieee.single .u32 2143289344 (x : Int) (y : Int) = cond (decide (2139095040 < x % 2147483648)) 2143289344 (cond (decide (2139095040 < y % 2147483648)) 2143289344 (cond (Ieee.single.order x y == some .eq) (bOr .u32 x y) (cond (Ieee.single.order x y == some .lt) (x : Int) (y : Int)))) := by
  unfold least; simp only [Int.toNat_natCast]; rw [self32, self32]
theorem most32_eq (x y : Nat) : most Ieee.single .u32 2143289344 (x : Int) (y : Int) = cond (decide (2139095040 < x % 2147483648)) 2143289344 (cond (decide (2139095040 < y % 2147483648)) 2143289344 (cond (Ieee.single.order x y == some .eq) (bAnd .u32 x y) (cond (Ieee.single.order x y == some .gt) (x : Int) (y : Int)))) := by
  unfold most; simp only [Int.toNat_natCast]; rw [self32, self32]

/-- The facts that KeptOrder asks, by the outcome of the comparison. -/
def Ord32 (x y : Nat) (o : Option Ordering) : Prop :=
  match o with
  | none => (2139095040 < x % 2147483648 ∨ 2139095040 < y % 2147483648) ∧ fl32 150 x y = 2143289344 ∧ fl32 151 x y = 2143289344
  | some .lt => x % 2147483648 ≤ 2139095040 ∧ y % 2147483648 ≤ 2139095040 ∧ fl32 150 x y = x ∧ fl32 151 x y = y ∧ ¬ (x % 2147483648 = 0 ∧ y % 2147483648 = 0)
  | some .gt => x % 2147483648 ≤ 2139095040 ∧ y % 2147483648 ≤ 2139095040 ∧ fl32 150 x y = y ∧ fl32 151 x y = x ∧ ¬ (x % 2147483648 = 0 ∧ y % 2147483648 = 0) ∧ Ieee.single.order y x = some .lt
  | some .eq => x % 2147483648 ≤ 2139095040 ∧ y % 2147483648 ≤ 2139095040 ∧ fl32 150 x y = ((x ||| y : Nat) : Int) ∧ fl32 151 x y = ((x &&& y : Nat) : Int) ∧
      ((x = y ∧ x ||| y = x ∧ x &&& y = x) ∨ (x % 2147483648 = 0 ∧ y % 2147483648 = 0 ∧ ((x ||| y = y ∧ x &&& y = x) ∨ (x ||| y = x ∧ x &&& y = y))))

theorem ord32 (x y : Nat) (hx : x < 4294967296) (hy : y < 4294967296) : Ord32 x y (Ieee.single.order x y) := by
  have e11 : fl32 150 x y = least Ieee.single .u32 2143289344 x y := rfl
  have e12 : fl32 151 x y = most Ieee.single .u32 2143289344 x y := rfl
  by_cases hn : 2139095040 < x % 2147483648 ∨ 2139095040 < y % 2147483648
  · rw [order32_nan x y hn]
    refine ⟨hn, ?_, ?_⟩
    · rw [e11, least32_eq]
      by_cases h1 : 2139095040 < x % 2147483648
      · rw [decide_eq_true h1]; rfl
      · rw [decide_eq_false h1, decide_eq_true (show 2139095040 < y % 2147483648 by omega)]; rfl
    · rw [e12, most32_eq]
      by_cases h1 : 2139095040 < x % 2147483648
      · rw [decide_eq_true h1]; rfl
      · rw [decide_eq_false h1, decide_eq_true (show 2139095040 < y % 2147483648 by omega)]; rfl
  · have h1 : x % 2147483648 ≤ 2139095040 := by omega
    have h2 : y % 2147483648 ≤ 2139095040 := by omega
    have d1 : decide (2139095040 < x % 2147483648) = false := decide_eq_false (by omega)
    have d2 : decide (2139095040 < y % 2147483648) = false := decide_eq_false (by omega)
    have el : fl32 150 x y = cond (Ieee.single.order x y == some .eq) (bOr .u32 x y) (cond (Ieee.single.order x y == some .lt) (x : Int) (y : Int)) := by rw [e11, least32_eq, d1, d2]; rfl
    have em : fl32 151 x y = cond (Ieee.single.order x y == some .eq) (bAnd .u32 x y) (cond (Ieee.single.order x y == some .gt) (x : Int) (y : Int)) := by rw [e12, most32_eq, d1, d2]; rfl
    have hyx := order32 y x h2 h1
    unfold Ord32
    rw [el, em, order32 x y h1 h2]
    rw [key32 x hx, key32 y hy] at *
    rcases Int.lt_trichotomy (if 2147483648 ≤ x then -((x % 2147483648 : Nat) : Int) else ((x % 2147483648 : Nat) : Int)) (if 2147483648 ≤ y then -((y % 2147483648 : Nat) : Int) else ((y % 2147483648 : Nat) : Int)) with h | h | h
    · rw [Int.compare_eq_lt.2 h]
      refine ⟨h1, h2, rfl, rfl, ?_⟩
      split at h <;> split at h <;> omega
    · rw [Int.compare_eq_eq.2 h]
      refine ⟨h1, h2, bOr32_n x y hx hy, bAnd32_n x y hx hy, ?_⟩
      by_cases hxy : x = y
      · subst hxy; exact .inl ⟨rfl, Nat.or_self x, Nat.and_self x⟩
      · right
        have hz : x % 2147483648 = 0 ∧ y % 2147483648 = 0 := by split at h <;> split at h <;> omega
        have hc : (x = 0 ∧ y = 2147483648) ∨ (x = 2147483648 ∧ y = 0) := by omega
        rcases hc with ⟨rfl, rfl⟩ | ⟨rfl, rfl⟩
        · exact ⟨rfl, rfl, .inl ⟨by decide, by decide⟩⟩
        · exact ⟨rfl, rfl, .inr ⟨by decide, by decide⟩⟩
    · rw [Int.compare_eq_gt.2 h]
      rw [Int.compare_eq_lt.2 h] at hyx
      refine ⟨h1, h2, rfl, rfl, ?_, hyx⟩
      split at h <;> split at h <;> omega

theorem fl32_can (op : Int) (x y : Nat) (hx : x < 4294967296) (hy : y < 4294967296) (h0 : 141 ≤ op) (h1 : op ≤ 151) : ∃ v : Nat, fl32 op x y = (v : Int) ∧ Can32 v := by
  have hc : op = 141 ∨ op = 142 ∨ op = 143 ∨ op = 144 ∨ op = 145 ∨ op = 146 ∨ op = 147 ∨ op = 148 ∨ op = 149 ∨ op = 150 ∨ op = 151 := by omega
  rcases hc with rfl | rfl | rfl | rfl | rfl | rfl | rfl | rfl | rfl | rfl | rfl
  · refine ⟨ceil32 x, rfl, ?_⟩
    unfold ceil32; exact cond_all (P := Can32) (fun _ => ar32_can _) (fun _ => cn32_can _)
  · refine ⟨floor32 x, rfl, ?_⟩
    unfold floor32; exact cond_all (P := Can32) (fun _ => ar32_can _) (fun _ => cn32_can _)
  · exact ⟨cn32 (cut32 x), rfl, cn32_can _⟩
  · exact ⟨cn32 (near32 x), rfl, cn32_can _⟩
  · exact ⟨rt32 x, rfl, ar32_can _⟩
  · exact ⟨ar32 (floatBits .add .f32 x y), rfl, ar32_can _⟩
  · exact ⟨ar32 (floatBits .sub .f32 x y), rfl, ar32_can _⟩
  · exact ⟨ar32 (floatBits .mul .f32 x y), rfl, ar32_can _⟩
  · have e : fl32 149 x y = cond (Ieee.single.order y 0 == some .eq) (cond (Ieee.single.order x x != some .eq) 2143289344 (cond (Ieee.single.order x 0 == some .eq) 2143289344 (bOr .u32 2139095040 (bAnd .u32 (bXor .u32 x y) 2147483648)))) ((ar32 (floatBits .quo .f32 x y) : Nat) : Int) := rfl
    rw [e]
    refine cond_all (P := fun z : Int => ∃ v : Nat, z = (v : Int) ∧ Can32 v) (fun _ => ?_) (fun _ => ⟨_, rfl, ar32_can _⟩)
    refine cond_all (P := fun z : Int => ∃ v : Nat, z = (v : Int) ∧ Can32 v) (fun _ => ⟨2143289344, rfl, .inr rfl⟩) (fun _ => ?_)
    refine cond_all (P := fun z : Int => ∃ v : Nat, z = (v : Int) ∧ Can32 v) (fun _ => ⟨2143289344, rfl, .inr rfl⟩) (fun _ => ?_)
    have hxy : x ^^^ y < 4294967296 := Nat.xor_lt_two_pow (n := 32) hx hy
    have e1 : bXor .u32 (x : Int) (y : Int) = ((x ^^^ y : Nat) : Int) := bXor_n .u32 rfl x y hx hy
    have e2 : bAnd .u32 ((x ^^^ y : Nat) : Int) 2147483648 = (((x ^^^ y) &&& 2147483648 : Nat) : Int) := bAnd32_n _ 2147483648 hxy (by decide)
    have hle : (x ^^^ y) &&& 2147483648 ≤ 2147483648 := Nat.and_le_right
    have e3 : bOr .u32 2139095040 (((x ^^^ y) &&& 2147483648 : Nat) : Int) = ((2139095040 ||| ((x ^^^ y) &&& 2147483648) : Nat) : Int) := bOr32_n 2139095040 _ (by decide) (by omega)
    refine ⟨2139095040 ||| ((x ^^^ y) &&& 2147483648), by rw [e1, e2, e3], .inl ?_⟩
    have e4 : (2139095040 ||| ((x ^^^ y) &&& 2147483648)) % 2 ^ 31 = 2139095040 := by
      rw [Nat.or_mod_two_pow, Nat.and_mod_two_pow]
      have e5 : (2147483648 : Nat) % 2 ^ 31 = 0 := by decide
      rw [e5, Nat.and_zero, Nat.or_zero]; 
    exact Nat.le_of_eq e4
  · have h := ord32 x y hx hy
    generalize Ieee.single.order x y = o at h
    match o, h with
    | none, h => exact ⟨2143289344, h.2.1, .inr rfl⟩
    | some .lt, h => exact ⟨x, h.2.2.1, .inl h.1⟩
    | some .gt, h => exact ⟨y, h.2.2.1, .inl h.2.1⟩
    | some .eq, h =>
      refine ⟨_, h.2.2.1, .inl ?_⟩
      rcases h.2.2.2.2 with ⟨_, g, _⟩ | ⟨_, _, ⟨g, _⟩ | ⟨g, _⟩⟩
      · rw [g]; exact h.1
      · rw [g]; exact h.2.1
      · rw [g]; exact h.1
  · have h := ord32 x y hx hy
    generalize Ieee.single.order x y = o at h
    match o, h with
    | none, h => exact ⟨2143289344, h.2.2, .inr rfl⟩
    | some .lt, h => exact ⟨y, h.2.2.2.1, .inl h.2.1⟩
    | some .gt, h => exact ⟨x, h.2.2.2.1, .inl h.1⟩
    | some .eq, h =>
      refine ⟨_, h.2.2.2.1, .inl ?_⟩
      rcases h.2.2.2.2 with ⟨_, _, g⟩ | ⟨_, _, ⟨_, g⟩ | ⟨_, g⟩⟩
      · rw [g]; exact h.1
      · rw [g]; exact h.1
      · rw [g]; exact h.2.1

theorem fl32_comm (x y : Nat) : fl32 146 x y = fl32 146 y x ∧ fl32 148 x y = fl32 148 y x := by
  constructor
  · show ((ar32 (Ieee.single.add x y) : Nat) : Int) = ((ar32 (Ieee.single.add y x) : Nat) : Int)
    unfold Ieee.Format.add; rw [sum_comm]
  · show ((ar32 (Ieee.single.mul x y) : Nat) : Int) = ((ar32 (Ieee.single.mul y x) : Nat) : Int)
    unfold Ieee.Format.mul; rw [product_comm]

theorem fl32_self (x : Nat) : fl32 147 x x = if 2139095040 ≤ x % 2147483648 then 2143289344 else 0 := by
  have e : fl32 147 x x = ((ar32 (Ieee.single.sub x x) : Nat) : Int) := rfl
  rw [e, sub_self]
  by_cases h : x % 2147483648 < 2139095040
  · obtain ⟨m, i, h1, _, _⟩ := read_val Ieee.single x (by rw [rung32, ir32]; exact h)
    rw [h1, if_neg (by omega)]
    show ((cn32 0 : Nat) : Int) = 0
    decide
  · rw [if_pos (by omega)]
    by_cases h2 : x % 2147483648 = 2139095040
    · rw [read_inf Ieee.single single_bi x (by rw [rung32, ir32]; exact h2)]; rfl
    · have hn := nan32 x
      rw [decide_eq_true (show 2139095040 < x % 2147483648 by omega)] at hn
      cases hr : Ieee.single.read x with
      | nan s t => rfl
      | infinity s => rw [hr] at hn; cases hn
      | number s m i => rw [hr] at hn; cases hn

/-! ### 64 bits -/
theorem sw64 : Ieee.double.signWeight = 9223372036854775808 := by decide
theorem ir64 : Ieee.double.infRung = 9218868437227405312 := by decide
theorem rung64 (x : Nat) : rung Ieee.double x = x % 9223372036854775808 := by unfold rung; rw [sw64]
theorem sgb64 (x : Nat) (h : x < 18446744073709551616) : sgb Ieee.double x = decide (9223372036854775808 ≤ x) := by
  unfold sgb; rw [sw64, Bool.eq_iff_iff, beq_iff_eq, decide_eq_true_iff]; omega
theorem nan64 (x : Nat) : (Ieee.double.read x).isNaN = decide (9218868437227405312 < x % 9223372036854775808) := by
  rw [isNaN_rung _ double_bi, sw64, ir64]
theorem andnot64 (x : Nat) (h : x < 18446744073709551616) : bAndNot .u64 (x : Int) 9223372036854775808 = ((x % 9223372036854775808 : Nat) : Int) := by
  unfold bAndNot
  have e1 : (BitVec.ofInt (IntKind.bits .u64) (x : Int)).toNat = x := ofInt_nat x 64 (by omega)
  have e2 : (~~~(BitVec.ofInt (IntKind.bits .u64) 9223372036854775808)).toNat = 9223372036854775807 := by decide +kernel
  rw [BitVec.toNat_and, e1, e2]
  have e3 : x &&& 9223372036854775807 = x % 9223372036854775808 := by
    exact Nat.and_two_pow_sub_one_eq_mod x 63
  rw [e3, wrap64_n _ (by omega)]

/-- No NaN but the canonical one. -/
def Can64 (v : Nat) : Prop := v % 9223372036854775808 ≤ 9218868437227405312 ∨ v = 9221120237041090560
theorem cn64_can (x : Nat) : Can64 (cn64 x) := by
  unfold cn64 Can64
  rw [nan64]
  by_cases h : 9218868437227405312 < x % 9223372036854775808
  · rw [decide_eq_true h]; exact .inr rfl
  · rw [decide_eq_false h]; left; simp only [Bool.false_eq_true, if_false]; omega
theorem ar64_can (o : Option Nat) : Can64 (ar64 o) := by
  cases o with
  | none => exact .inr rfl
  | some r => exact cn64_can r
theorem near64_can (n : Int) : Can64 (FloatKind.nearest .f64 n) := by
  left
  have h := write_not_nan Ieee.double double_bi (.number (n < 0) n.natAbs 0) rfl
  rw [nan64] at h
  have h' := of_decide_eq_false h
  have e : FloatKind.nearest .f64 n = Ieee.double.write (.number (n < 0) n.natAbs 0) := rfl
  rw [e]; omega

/-- What order says of least and most. -/
theorem order64 (x y : Nat) (hx : x % 9223372036854775808 ≤ 9218868437227405312) (hy : y % 9223372036854775808 ≤ 9218868437227405312) : Ieee.double.order x y = some (compare (key Ieee.double x) (key Ieee.double y)) :=
  order_key Ieee.double double_bi x y (by rw [rung64, ir64]; exact hx) (by rw [rung64, ir64]; exact hy)
theorem order64_nan (x y : Nat) (h : 9218868437227405312 < x % 9223372036854775808 ∨ 9218868437227405312 < y % 9223372036854775808) : Ieee.double.order x y = none :=
  order_nan Ieee.double double_bi x y (by rw [rung64, rung64, ir64]; exact h)
theorem self64 (x : Nat) : (Ieee.double.order x x != some .eq) = decide (9218868437227405312 < x % 9223372036854775808) := by rw [order_self, nan64]
theorem key64 (x : Nat) (h : x < 18446744073709551616) : key Ieee.double x = if 9223372036854775808 ≤ x then -((x % 9223372036854775808 : Nat) : Int) else ((x % 9223372036854775808 : Nat) : Int) := by
  unfold key; rw [sgb64 x h, rung64]
  by_cases hh : 9223372036854775808 ≤ x
  · rw [decide_eq_true hh]; simp [hh]
  · rw [decide_eq_false hh]; simp [hh]

theorem least64_eq (x y : Nat) : least Ieee.double .u64 9221120237041090560 (x : Int) (y : Int) = cond (decide (9218868437227405312 < x % 9223372036854775808)) 9221120237041090560 (cond (decide (9218868437227405312 < y % 9223372036854775808)) 9221120237041090560 (cond (Ieee.double.order x y == some .eq) (bOr .u64 x y) (cond (Ieee.double.order x y == some .lt) (x : Int) (y : Int)))) := by
  unfold least; simp only [Int.toNat_natCast]; rw [self64, self64]
theorem most64_eq (x y : Nat) : most Ieee.double .u64 9221120237041090560 (x : Int) (y : Int) = cond (decide (9218868437227405312 < x % 9223372036854775808)) 9221120237041090560 (cond (decide (9218868437227405312 < y % 9223372036854775808)) 9221120237041090560 (cond (Ieee.double.order x y == some .eq) (bAnd .u64 x y) (cond (Ieee.double.order x y == some .gt) (x : Int) (y : Int)))) := by
  unfold most; simp only [Int.toNat_natCast]; rw [self64, self64]

/-- The facts that KeptOrder asks, by the outcome of the comparison. -/
def Ord64 (x y : Nat) (o : Option Ordering) : Prop :=
  match o with
  | none => (9218868437227405312 < x % 9223372036854775808 ∨ 9218868437227405312 < y % 9223372036854775808) ∧ fl64 164 x y = 9221120237041090560 ∧ fl64 165 x y = 9221120237041090560
  | some .lt => x % 9223372036854775808 ≤ 9218868437227405312 ∧ y % 9223372036854775808 ≤ 9218868437227405312 ∧ fl64 164 x y = x ∧ fl64 165 x y = y ∧ ¬ (x % 9223372036854775808 = 0 ∧ y % 9223372036854775808 = 0)
  | some .gt => x % 9223372036854775808 ≤ 9218868437227405312 ∧ y % 9223372036854775808 ≤ 9218868437227405312 ∧ fl64 164 x y = y ∧ fl64 165 x y = x ∧ ¬ (x % 9223372036854775808 = 0 ∧ y % 9223372036854775808 = 0) ∧ Ieee.double.order y x = some .lt
  | some .eq => x % 9223372036854775808 ≤ 9218868437227405312 ∧ y % 9223372036854775808 ≤ 9218868437227405312 ∧ fl64 164 x y = ((x ||| y : Nat) : Int) ∧ fl64 165 x y = ((x &&& y : Nat) : Int) ∧
      ((x = y ∧ x ||| y = x ∧ x &&& y = x) ∨ (x % 9223372036854775808 = 0 ∧ y % 9223372036854775808 = 0 ∧ ((x ||| y = y ∧ x &&& y = x) ∨ (x ||| y = x ∧ x &&& y = y))))

theorem ord64 (x y : Nat) (hx : x < 18446744073709551616) (hy : y < 18446744073709551616) : Ord64 x y (Ieee.double.order x y) := by
  have e11 : fl64 164 x y = least Ieee.double .u64 9221120237041090560 x y := rfl
  have e12 : fl64 165 x y = most Ieee.double .u64 9221120237041090560 x y := rfl
  by_cases hn : 9218868437227405312 < x % 9223372036854775808 ∨ 9218868437227405312 < y % 9223372036854775808
  · rw [order64_nan x y hn]
    refine ⟨hn, ?_, ?_⟩
    · rw [e11, least64_eq]
      by_cases h1 : 9218868437227405312 < x % 9223372036854775808
      · rw [decide_eq_true h1]; rfl
      · rw [decide_eq_false h1, decide_eq_true (show 9218868437227405312 < y % 9223372036854775808 by omega)]; rfl
    · rw [e12, most64_eq]
      by_cases h1 : 9218868437227405312 < x % 9223372036854775808
      · rw [decide_eq_true h1]; rfl
      · rw [decide_eq_false h1, decide_eq_true (show 9218868437227405312 < y % 9223372036854775808 by omega)]; rfl
  · have h1 : x % 9223372036854775808 ≤ 9218868437227405312 := by omega
    have h2 : y % 9223372036854775808 ≤ 9218868437227405312 := by omega
    have d1 : decide (9218868437227405312 < x % 9223372036854775808) = false := decide_eq_false (by omega)
    have d2 : decide (9218868437227405312 < y % 9223372036854775808) = false := decide_eq_false (by omega)
    have el : fl64 164 x y = cond (Ieee.double.order x y == some .eq) (bOr .u64 x y) (cond (Ieee.double.order x y == some .lt) (x : Int) (y : Int)) := by rw [e11, least64_eq, d1, d2]; rfl
    have em : fl64 165 x y = cond (Ieee.double.order x y == some .eq) (bAnd .u64 x y) (cond (Ieee.double.order x y == some .gt) (x : Int) (y : Int)) := by rw [e12, most64_eq, d1, d2]; rfl
    have hyx := order64 y x h2 h1
    unfold Ord64
    rw [el, em, order64 x y h1 h2]
    rw [key64 x hx, key64 y hy] at *
    rcases Int.lt_trichotomy (if 9223372036854775808 ≤ x then -((x % 9223372036854775808 : Nat) : Int) else ((x % 9223372036854775808 : Nat) : Int)) (if 9223372036854775808 ≤ y then -((y % 9223372036854775808 : Nat) : Int) else ((y % 9223372036854775808 : Nat) : Int)) with h | h | h
    · rw [Int.compare_eq_lt.2 h]
      refine ⟨h1, h2, rfl, rfl, ?_⟩
      split at h <;> split at h <;> omega
    · rw [Int.compare_eq_eq.2 h]
      refine ⟨h1, h2, bOr64_n x y hx hy, bAnd64_n x y hx hy, ?_⟩
      by_cases hxy : x = y
      · subst hxy; exact .inl ⟨rfl, Nat.or_self x, Nat.and_self x⟩
      · right
        have hz : x % 9223372036854775808 = 0 ∧ y % 9223372036854775808 = 0 := by split at h <;> split at h <;> omega
        have hc : (x = 0 ∧ y = 9223372036854775808) ∨ (x = 9223372036854775808 ∧ y = 0) := by omega
        rcases hc with ⟨rfl, rfl⟩ | ⟨rfl, rfl⟩
        · exact ⟨rfl, rfl, .inl ⟨by decide, by decide⟩⟩
        · exact ⟨rfl, rfl, .inr ⟨by decide, by decide⟩⟩
    · rw [Int.compare_eq_gt.2 h]
      rw [Int.compare_eq_lt.2 h] at hyx
      refine ⟨h1, h2, rfl, rfl, ?_, hyx⟩
      split at h <;> split at h <;> omega

theorem fl64_can (op : Int) (x y : Nat) (hx : x < 18446744073709551616) (hy : y < 18446744073709551616) (h0 : 155 ≤ op) (h1 : op ≤ 165) : ∃ v : Nat, fl64 op x y = (v : Int) ∧ Can64 v := by
  have hc : op = 155 ∨ op = 156 ∨ op = 157 ∨ op = 158 ∨ op = 159 ∨ op = 160 ∨ op = 161 ∨ op = 162 ∨ op = 163 ∨ op = 164 ∨ op = 165 := by omega
  rcases hc with rfl | rfl | rfl | rfl | rfl | rfl | rfl | rfl | rfl | rfl | rfl
  · refine ⟨ceil64 x, rfl, ?_⟩
    unfold ceil64; exact cond_all (P := Can64) (fun _ => ar64_can _) (fun _ => cn64_can _)
  · refine ⟨floor64 x, rfl, ?_⟩
    unfold floor64; exact cond_all (P := Can64) (fun _ => ar64_can _) (fun _ => cn64_can _)
  · exact ⟨cn64 (cut64 x), rfl, cn64_can _⟩
  · exact ⟨cn64 (near64 x), rfl, cn64_can _⟩
  · exact ⟨ar64 (Ieee.double.sqrt x), rfl, ar64_can _⟩
  · exact ⟨ar64 (floatBits .add .f64 x y), rfl, ar64_can _⟩
  · exact ⟨ar64 (floatBits .sub .f64 x y), rfl, ar64_can _⟩
  · exact ⟨ar64 (floatBits .mul .f64 x y), rfl, ar64_can _⟩
  · have e : fl64 163 x y = cond (Ieee.double.order y 0 == some .eq) (cond (Ieee.double.order x x != some .eq) 9221120237041090560 (cond (Ieee.double.order x 0 == some .eq) 9221120237041090560 (bOr .u64 9218868437227405312 (bAnd .u64 (bXor .u64 x y) 9223372036854775808)))) ((ar64 (floatBits .quo .f64 x y) : Nat) : Int) := rfl
    rw [e]
    refine cond_all (P := fun z : Int => ∃ v : Nat, z = (v : Int) ∧ Can64 v) (fun _ => ?_) (fun _ => ⟨_, rfl, ar64_can _⟩)
    refine cond_all (P := fun z : Int => ∃ v : Nat, z = (v : Int) ∧ Can64 v) (fun _ => ⟨9221120237041090560, rfl, .inr rfl⟩) (fun _ => ?_)
    refine cond_all (P := fun z : Int => ∃ v : Nat, z = (v : Int) ∧ Can64 v) (fun _ => ⟨9221120237041090560, rfl, .inr rfl⟩) (fun _ => ?_)
    have hxy : x ^^^ y < 18446744073709551616 := Nat.xor_lt_two_pow (n := 64) hx hy
    have e1 : bXor .u64 (x : Int) (y : Int) = ((x ^^^ y : Nat) : Int) := bXor_n .u64 rfl x y hx hy
    have e2 : bAnd .u64 ((x ^^^ y : Nat) : Int) 9223372036854775808 = (((x ^^^ y) &&& 9223372036854775808 : Nat) : Int) := bAnd64_n _ 9223372036854775808 hxy (by decide)
    have hle : (x ^^^ y) &&& 9223372036854775808 ≤ 9223372036854775808 := Nat.and_le_right
    have e3 : bOr .u64 9218868437227405312 (((x ^^^ y) &&& 9223372036854775808 : Nat) : Int) = ((9218868437227405312 ||| ((x ^^^ y) &&& 9223372036854775808) : Nat) : Int) := bOr64_n 9218868437227405312 _ (by decide) (by omega)
    refine ⟨9218868437227405312 ||| ((x ^^^ y) &&& 9223372036854775808), by rw [e1, e2, e3], .inl ?_⟩
    have e4 : (9218868437227405312 ||| ((x ^^^ y) &&& 9223372036854775808)) % 2 ^ 63 = 9218868437227405312 := by
      rw [Nat.or_mod_two_pow, Nat.and_mod_two_pow]
      have e5 : (9223372036854775808 : Nat) % 2 ^ 63 = 0 := by decide
      rw [e5, Nat.and_zero, Nat.or_zero]; 
    exact Nat.le_of_eq e4
  · have h := ord64 x y hx hy
    generalize Ieee.double.order x y = o at h
    match o, h with
    | none, h => exact ⟨9221120237041090560, h.2.1, .inr rfl⟩
    | some .lt, h => exact ⟨x, h.2.2.1, .inl h.1⟩
    | some .gt, h => exact ⟨y, h.2.2.1, .inl h.2.1⟩
    | some .eq, h =>
      refine ⟨_, h.2.2.1, .inl ?_⟩
      rcases h.2.2.2.2 with ⟨_, g, _⟩ | ⟨_, _, ⟨g, _⟩ | ⟨g, _⟩⟩
      · rw [g]; exact h.1
      · rw [g]; exact h.2.1
      · rw [g]; exact h.1
  · have h := ord64 x y hx hy
    generalize Ieee.double.order x y = o at h
    match o, h with
    | none, h => exact ⟨9221120237041090560, h.2.2, .inr rfl⟩
    | some .lt, h => exact ⟨y, h.2.2.2.1, .inl h.2.1⟩
    | some .gt, h => exact ⟨x, h.2.2.2.1, .inl h.1⟩
    | some .eq, h =>
      refine ⟨_, h.2.2.2.1, .inl ?_⟩
      rcases h.2.2.2.2 with ⟨_, _, g⟩ | ⟨_, _, ⟨_, g⟩ | ⟨_, g⟩⟩
      · rw [g]; exact h.1
      · rw [g]; exact h.1
      · rw [g]; exact h.2.1

theorem fl64_comm (x y : Nat) : fl64 160 x y = fl64 160 y x ∧ fl64 162 x y = fl64 162 y x := by
  constructor
  · show ((ar64 (Ieee.double.add x y) : Nat) : Int) = ((ar64 (Ieee.double.add y x) : Nat) : Int)
    unfold Ieee.Format.add; rw [sum_comm]
  · show ((ar64 (Ieee.double.mul x y) : Nat) : Int) = ((ar64 (Ieee.double.mul y x) : Nat) : Int)
    unfold Ieee.Format.mul; rw [product_comm]

theorem fl64_self (x : Nat) : fl64 161 x x = if 9218868437227405312 ≤ x % 9223372036854775808 then 9221120237041090560 else 0 := by
  have e : fl64 161 x x = ((ar64 (Ieee.double.sub x x) : Nat) : Int) := rfl
  rw [e, sub_self]
  by_cases h : x % 9223372036854775808 < 9218868437227405312
  · obtain ⟨m, i, h1, _, _⟩ := read_val Ieee.double x (by rw [rung64, ir64]; exact h)
    rw [h1, if_neg (by omega)]
    show ((cn64 0 : Nat) : Int) = 0
    decide
  · rw [if_pos (by omega)]
    by_cases h2 : x % 9223372036854775808 = 9218868437227405312
    · rw [read_inf Ieee.double double_bi x (by rw [rung64, ir64]; exact h2)]; rfl
    · have hn := nan64 x
      rw [decide_eq_true (show 9218868437227405312 < x % 9223372036854775808 by omega)] at hn
      cases hr : Ieee.double.read x with
      | nan s t => rfl
      | infinity s => rw [hr] at hn; cases hn
      | number s m i => rw [hr] at hn; cases hn

end Go.Proofs.Qxb6500320a
