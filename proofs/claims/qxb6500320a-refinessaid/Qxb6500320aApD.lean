/-
  What KeptInt and KeptDiv ask of Apply.
-/
import Derived.Test.Qxb6500320aApC
set_option linter.unusedSimpArgs false
set_option linter.unusedVariables false
set_option maxRecDepth 100000
namespace Go.Proofs.Qxb6500320a
open Go Go.Vc

theorem ap32 (op x y : Int) (h0 : 103 ≤ op) (h1 : op ≤ 120) (hx : 0 ≤ x ∧ x < 4294967296) (hy : 0 ≤ y ∧ y < 4294967296) : ap op x y = num_int32s.F op x y := by
  rw [ap_int32 op x y h0 h1, wrap_u32 (show 0 ≤ x by omega) (by omega), wrap_u32 (show 0 ≤ y by omega) (by omega)]
  have hs := int32_shape op x y hx.1 hx.2 hy.1 hy.2
  generalize num_int32s.F op x y = p at hs
  obtain ⟨a, e⟩ := p
  unfold wd
  rw [wrap_small a ⟨hs.1, hs.2.1⟩]
theorem ap64 (op x y : Int) (h0 : 121 ≤ op) (h1 : op ≤ 138) : ap op x y = num_int64s.F op x y := ap_int64 op x y h0 h1

theorem clz64_F (x : Nat) (h0 : x ≠ 0) (h : x < 18446744073709551616) : ∃ c : Nat, num_clz64.F x = ((c : Nat) : Int) ∧ c ≤ 63 ∧ x / 2 ^ (63 - c) = 1 := by
  unfold num_clz64.F
  rw [fdiv_n]
  by_cases hh : x / 2 ^ 32 = 0
  · have hx : x < 4294967296 := by
      have := (Nat.div_eq_zero_iff_lt (show 0 < 2 ^ 32 by decide)).1 hh
      exact this
    rw [hh]
    obtain ⟨c, h1, h2, h3⟩ := clz32_F x h0 hx
    refine ⟨32 + c, ?_, by omega, ?_⟩
    · show IntKind.wrap .u64 ((32 : Int) + (IntKind.wrap .u64 (num_clz32.F (IntKind.wrap .u32 (x : Int))))) = _
      rw [wrap32_n x hx, h1, wrap64_n c (by omega)]
      rw [wrap_u64 (by omega) (by omega)]; omega
    · have : 63 - (32 + c) = 31 - c := by omega
      rw [this]; exact h3
  · have hx : x / 2 ^ 32 < 4294967296 := by rw [Nat.div_lt_iff_lt_mul (by decide)]; exact h
    obtain ⟨c, h1, h2, h3⟩ := clz32_F (x / 2 ^ 32) hh hx
    have e : (((x / 2 ^ 32 : Nat) : Int) != 0) = true := by rw [bne_iff_ne]; omega
    rw [e]
    refine ⟨c, ?_, by omega, ?_⟩
    · show IntKind.wrap .u64 (num_clz32.F (IntKind.wrap .u32 ((x / 2 ^ 32 : Nat) : Int))) = _
      rw [wrap32_n _ hx, h1, wrap64_n c (by omega)]
    · have e2 : 63 - c = 32 + (31 - c) := by omega
      rw [e2, Nat.pow_add, ← Nat.div_div_eq_div_mul]; exact h3

theorem and1 (n : Nat) (h : n < 18446744073709551616) : bAnd .u64 (n : Int) 1 = ((n % 2 : Nat) : Int) := by
  have e : bAnd .u64 (n : Int) 1 = ((n &&& 1 : Nat) : Int) := bAnd64_n n 1 h (by decide)
  rw [e, Nat.and_one_is_mod]
theorem fdivk (a k : Nat) (hk : k < 64) : Int.fdiv (a : Int) (2 ^ (min (Int.toNat (k : Int)) (IntKind.bits .u64))) = ((a / 2 ^ k : Nat) : Int) := shr64_n a k hk

theorem low_zero (a z : Nat) (ha : a < 18446744073709551616) (hz : z < 64) (h : a % 2 ^ z = 0) : bAnd .u64 (a : Int) (IntKind.wrap .u64 ((IntKind.wrap .u64 ((1 : Int) * 2 ^ (min (Int.toNat (z : Int)) (IntKind.bits .u64)))) - (1 : Int))) = 0 := by
  have hp : 2 ^ z ≤ 2 ^ 63 := Nat.pow_le_pow_right (by omega) (by omega)
  have hp0 := Nat.two_pow_pos z
  have e : IntKind.wrap .u64 ((1 : Int) * 2 ^ (min (Int.toNat (z : Int)) (IntKind.bits .u64))) = ((2 ^ z : Nat) : Int) := by
    have := shl64_n 1 z hz
    have e1 : ((1 : Nat) : Int) = (1 : Int) := rfl
    rw [e1] at this
    rw [Int.toNat_natCast, this, Nat.one_mul, Nat.mod_eq_of_lt (by omega)]
  rw [e]
  have e2 : ((2 ^ z : Nat) : Int) - 1 = ((2 ^ z - 1 : Nat) : Int) := by omega
  rw [e2, wrap64_n _ (by omega), bAnd64_n a _ ha (by omega), Nat.and_two_pow_sub_one_eq_mod, h]; rfl


/-! ### 32 bits -/
theorem addsub32 (x y : Nat) (hx : x < 4294967296) (hy : y < 4294967296) : ∃ s : Nat, (ap 106 x y).1 = (s : Int) ∧ s < 4294967296 ∧ (ap 107 s y).1 = (x : Int) := by
  refine ⟨(x + y) % 4294967296, ?_, by omega, ?_⟩
  · rw [ap32 106 x y (by decide) (by decide) (by omega) (by omega)]
    show IntKind.wrap .u32 ((x : Int) + (y : Int)) = _
    rw [wrap_u32_mod]; omega
  · rw [ap32 107 ((x + y) % 4294967296 : Nat) y (by decide) (by decide) (by omega) (by omega)]
    show IntKind.wrap .u32 ((((x + y) % 4294967296 : Nat) : Int) - (y : Int)) = _
    rw [wrap_u32_mod]; omega

theorem rot32 (x y : Nat) (hx : x < 4294967296) (hy : y < 4294967296) : ∃ s : Nat, (ap 119 x y).1 = (s : Int) ∧ s < 4294967296 ∧ (ap 120 s y).1 = (x : Int) := by
  have hb := rot_both 32 (y % 32) x (by decide) (by omega) hx
  have hb2 : rotl 32 4294967296 (y % 32) x < 4294967296 := hb.2
  refine ⟨rotl 32 4294967296 (y % 32) x, ?_, hb2, ?_⟩
  · rw [ap32 119 x y (by decide) (by decide) (by omega) (by omega), rotl32_F x y hx hy]
  · rw [ap32 120 (rotl 32 4294967296 (y % 32) x : Nat) y (by decide) (by decide) (by omega) (by omega), rotr32_F _ y hb2 hy]
    exact congrArg (fun n : Nat => (n : Int)) hb.1

theorem popf32 (x : Nat) (hx : x < 4294967296) : (ap 105 x 0).1 = ((ones 32 x : Nat) : Int) := by
  rw [ap32 105 x 0 (by decide) (by decide) (by omega) (by omega)]
  exact pop32_F x hx
theorem popn32 (x : Nat) (hx : x < 4294967296) : (ap 105 (bXor .u64 (IntKind.max .u64) (x : Int)) 0).1 = ((ones 32 (4294967295 - x) : Nat) : Int) := by
  rw [bXor64_not x (by omega)]
  have e : IntKind.wrap .u32 ((18446744073709551615 - x : Nat) : Int) = ((4294967295 - x : Nat) : Int) := by rw [wrap_u32_mod]; omega
  have e0 : IntKind.wrap .u32 ((4294967295 - x : Nat) : Int) = ((4294967295 - x : Nat) : Int) := wrap32_n _ (by omega)
  rw [ap_low 105 _ 0 ((4294967295 - x : Nat) : Int) 0 (by decide) (by decide) (by decide) (by rw [e, e0]) rfl]
  exact popf32 (4294967295 - x) (by omega)

theorem clzf32 (x : Nat) (h0 : x ≠ 0) (hx : x < 4294967296) : ∃ c : Nat, (ap 103 x 0).1 = (c : Int) ∧ c ≤ 31 ∧ x / 2 ^ (31 - c) = 1 := by
  obtain ⟨c, h1, h2, h3⟩ := clz32_F x h0 hx
  refine ⟨c, ?_, h2, h3⟩
  rw [ap32 103 x 0 (by decide) (by decide) (by omega) (by omega)]
  exact h1
theorem ctzf32 (x : Nat) (hx : x < 4294967296) : (ap 104 x 0).1 = ((tz 32 x : Nat) : Int) := by
  rw [ap32 104 x 0 (by decide) (by decide) (by omega) (by omega)]
  exact ctz32_F x hx
theorem zero32 : (ap 103 0 0).1 = 32 ∧ (ap 104 0 0).1 = 32 := by decide +kernel

theorem pops32 (x : Nat) (hx : x < 4294967296) : ∃ p q : Nat, (ap 105 x 0).1 = (p : Int) ∧ (ap 105 (bXor .u64 (IntKind.max .u64) (x : Int)) 0).1 = (q : Int) ∧ (p : Int) + (q : Int) = 32 := by
  refine ⟨ones 32 x, ones 32 (2 ^ 32 - 1 - x), popf32 x hx, ?_, ?_⟩
  · have e : 2 ^ 32 - 1 - x = 4294967295 - x := rfl
    rw [e]; exact popn32 x hx
  · rw [← Int.natCast_add, ones_not 32 x hx]; rfl

theorem KeptInt32_spec (x y : Nat) (hx : x < 4294967296) (hy : y < 4294967296) (w : World) :
    Runs Try.prog numlaw_KeptInt.id #[.int .u64 32, .int .i64 103, .int .i64 106, .int .u64 4294967295, .int .u64 x, .int .u64 y] w fun v w' => v = .bool true ∧ Same [] w.heap.size w w' := by
  refine numlaw_KeptInt.enter _ _ _ _ _ _ _ _ ?_
  unfold numlaw_KeptInt.V
  have n1 : IntKind.wrap .i64 ((106 : Int) + 1) = 107 := by decide
  have n13 : IntKind.wrap .i64 ((106 : Int) + 13) = 119 := by decide
  have n14 : IntKind.wrap .i64 ((106 : Int) + 14) = 120 := by decide
  have n2 : IntKind.wrap .i64 ((103 : Int) + 2) = 105 := by decide
  have nz : IntKind.wrap .i64 ((103 : Int) + 1) = 104 := by decide
  rw [n1, n13, n14, n2]
  obtain ⟨s, s1, s2, s3⟩ := addsub32 x y hx hy
  obtain ⟨l, l1, l2, l3⟩ := rot32 x y hx hy
  refine (Apply_spec _ _ _ (by omega) (by omega) w).mono ?_
  rintro v w1 ⟨rfl, hS1⟩
  refine ⟨_, _, rfl, ?_⟩
  rw [s1]
  refine (Apply_spec _ _ _ (by omega) (by omega) w1).mono ?_
  rintro v w2 ⟨rfl, hS2⟩
  refine ⟨_, _, rfl, ?_⟩
  rw [s3]
  have hT2 := hS1.trans (hS2.mono hS1.size (by simp))
  refine (Apply_spec _ _ _ (by omega) (by omega) w2).mono ?_
  rintro v w3 ⟨rfl, hS3⟩
  refine ⟨_, _, rfl, ?_⟩
  rw [l1]
  have hT3 := hT2.trans (hS3.mono hT2.size (by simp))
  refine (Apply_spec _ _ _ (by omega) (by omega) w3).mono ?_
  rintro v w4 ⟨rfl, hS4⟩
  refine ⟨_, _, rfl, ?_⟩
  rw [l3]
  have hT4 := hT3.trans (hS4.mono hT3.size (by simp))
  refine (Apply_spec _ _ _ (by decide) (by decide) w4).mono ?_
  rintro v w5 ⟨rfl, hS5⟩
  refine ⟨_, _, rfl, ?_⟩
  obtain ⟨p, q, p1, p2, p3⟩ := pops32 x hx
  rw [p1]
  have hT5 := hT4.trans (hS5.mono hT4.size (by simp))
  refine (Apply_spec _ _ _ (by decide) (by decide) w5).mono ?_
  rintro v w6 ⟨rfl, hS6⟩
  refine ⟨_, _, rfl, ?_⟩
  rw [p2]
  have hT6 := hT5.trans (hS6.mono hT5.size (by simp))
  refine cond_false' (by simp) (cond_false' (by simp) (cond_false' ?_ ?_))
  · rw [p3]; decide
  refine numlaw_KeptInt.step1 _ _ _ _ _ ?_
  unfold numlaw_KeptInt.V1
  rw [nz]
  refine (Apply_spec _ _ _ (by decide) (by decide) w6).mono ?_
  rintro v w7 ⟨rfl, hS7⟩
  refine ⟨_, _, rfl, ?_⟩
  have hT7 := hT6.trans (hS7.mono hT6.size (by simp))
  refine (Apply_spec _ _ _ (by decide) (by decide) w7).mono ?_
  rintro v w8 ⟨rfl, hS8⟩
  refine ⟨_, _, rfl, ?_⟩
  have hT8 := hT7.trans (hS8.mono hT7.size (by simp))
  by_cases hx0 : x = 0
  · subst hx0
    have ez : ((0 : Nat) : Int) = 0 := rfl
    rw [ez, zero32.1, zero32.2]
    exact cond_true' rfl (cond_true' rfl ⟨rfl, hT8⟩)
  · obtain ⟨c, c1, c2, c3⟩ := clzf32 x hx0 hx
    obtain ⟨z1, z2, z3⟩ := tz_lt 32 x hx hx0
    have z0 := ctzf32 x hx
    rw [c1, z0]
    generalize tz 32 x = z at z1 z2 z3
    refine cond_false' (by rw [beq_eq_false_iff_ne]; omega) (cond_false' (decide_eq_false (by omega)) (cond_false' (decide_eq_false (by omega)) ?_))
    refine numlaw_KeptInt.step2 _ _ _ _ _ _ ?_
    unfold numlaw_KeptInt.V2
    have ew : IntKind.wrap .u64 ((IntKind.wrap .u64 ((32 : Int) - 1)) - (c : Int)) = ((31 - c : Nat) : Int) := by
      have e1 : IntKind.wrap .u64 ((32 : Int) - 1) = 31 := by decide
      rw [e1, wrap_u64 (by omega) (by omega)]; omega
    rw [ew, fdivk x (31 - c) (by omega), c3, fdivk x z (by omega)]
    refine ⟨by omega, cond_true' rfl ⟨by omega, ?_⟩⟩
    have hq : x / 2 ^ z < 18446744073709551616 := Nat.lt_of_le_of_lt (Nat.div_le_self _ _) (by omega)
    rw [and1 _ hq, z2]
    refine cond_true' rfl ⟨by omega, ?_, hT8⟩
    rw [low_zero x z (by omega) (by omega) z3]
    rfl

theorem divz32 (x : Nat) (hx : x < 4294967296) : ap 109 x 0 = (0, 39) ∧ ap 110 x 0 = (0, 39) ∧ ap 111 x 0 = (0, 39) ∧ ap 112 x 0 = (0, 39) := by
  refine ⟨?_, ?_, ?_, ?_⟩
  · rw [ap32 109 x 0 (by decide) (by decide) (by omega) (by omega)]; rfl
  · rw [ap32 110 x 0 (by decide) (by decide) (by omega) (by omega)]; rfl
  · rw [ap32 111 x 0 (by decide) (by decide) (by omega) (by omega)]; rfl
  · rw [ap32 112 x 0 (by decide) (by decide) (by omega) (by omega)]; rfl

theorem divu32 (x y : Nat) (hx : x < 4294967296) (hy : y < 4294967296) (hy0 : y ≠ 0) : ap 110 x y = (((x / y : Nat) : Int), 0) ∧ ap 112 x y = (((x % y : Nat) : Int), 0) := by
  have hne : ((y : Int) == 0) = false := by rw [beq_eq_false_iff_ne]; omega
  have hq : x / y < 4294967296 := Nat.lt_of_le_of_lt (Nat.div_le_self _ _) hx
  refine ⟨?_, ?_⟩
  · rw [ap32 110 x y (by decide) (by decide) (by omega) (by omega)]
    show cond ((y : Int) == 0) _ (IntKind.wrap .u32 (Int.tdiv (x : Int) (y : Int)), (0 : Int)) = _
    rw [hne, cond_false, ← Int.ofNat_tdiv, wrap32_n _ hq]
  · rw [ap32 112 x y (by decide) (by decide) (by omega) (by omega)]
    show cond ((y : Int) == 0) _ (Int.tmod (x : Int) (y : Int), (0 : Int)) = _
    rw [hne, cond_false, ← Int.ofNat_tmod]

theorem divs32 (x y : Nat) (hx : x < 4294967296) (hy : y < 4294967296) (hy0 : y ≠ 0) : ap 111 x y = (Int.tmod (sgn 2147483648 x) (sgn 2147483648 y) % 4294967296, 0) ∧
    (¬ (x = 2147483648 ∧ y = 4294967295) → ap 109 x y = (Int.tdiv (sgn 2147483648 x) (sgn 2147483648 y) % 4294967296, 0)) ∧ (x = 2147483648 ∧ y = 4294967295 → ap 109 x y = (0, 40)) := by
  have hne : ((y : Int) == 0) = false := by rw [beq_eq_false_iff_ne]; omega
  refine ⟨?_, fun hn => ?_, fun hn => ?_⟩
  · rw [ap32 111 x y (by decide) (by decide) (by omega) (by omega)]
    show cond ((y : Int) == 0) _ (IntKind.wrap .u32 (Int.tmod (IntKind.wrap .i32 (x : Int)) (IntKind.wrap .i32 (y : Int))), (0 : Int)) = _
    rw [hne, cond_false, wrap_u32_mod, wrap_i32_sgn x (by omega) (by omega), wrap_i32_sgn y (by omega) (by omega)]
  · rw [ap32 109 x y (by decide) (by decide) (by omega) (by omega)]
    show cond ((y : Int) == 0) _ (cond ((x : Int) == 2147483648) (num_int32s.F4 x y ((y : Int) == 4294967295)) (num_int32s.F4 x y false)) = _
    rw [hne, cond_false]
    have hf : num_int32s.F4 x y false = (Int.tdiv (sgn 2147483648 x) (sgn 2147483648 y) % 4294967296, 0) := by
      show (IntKind.wrap .u32 (IntKind.wrap .i32 (Int.tdiv (IntKind.wrap .i32 (x : Int)) (IntKind.wrap .i32 (y : Int)))), (0 : Int)) = _
      rw [wrap_u32_i32, wrap_i32_sgn x (by omega) (by omega), wrap_i32_sgn y (by omega) (by omega)]
    by_cases hxH : x = 2147483648
    · have e1 : ((x : Int) == 2147483648) = true := by rw [beq_iff_eq]; omega
      have e2 : ((y : Int) == 4294967295) = false := by rw [beq_eq_false_iff_ne]; omega
      rw [e1, e2, cond_true]; exact hf
    · have e1 : ((x : Int) == 2147483648) = false := by rw [beq_eq_false_iff_ne]; omega
      rw [e1, cond_false]; exact hf
  · obtain ⟨rfl, rfl⟩ := hn
    rw [ap32 109 ((2147483648 : Nat) : Int) ((4294967295 : Nat) : Int) (by decide) (by decide) (by omega) (by omega)]
    rfl

/-! ### 64 bits -/
theorem addsub64 (x y : Nat) (hx : x < 18446744073709551616) (hy : y < 18446744073709551616) : ∃ s : Nat, (ap 124 x y).1 = (s : Int) ∧ s < 18446744073709551616 ∧ (ap 125 s y).1 = (x : Int) := by
  refine ⟨(x + y) % 18446744073709551616, ?_, by omega, ?_⟩
  · rw [ap64 124 x y (by decide) (by decide)]
    show IntKind.wrap .u64 ((x : Int) + (y : Int)) = _
    rw [wrap_u64_mod]; omega
  · rw [ap64 125 ((x + y) % 18446744073709551616 : Nat) y (by decide) (by decide)]
    show IntKind.wrap .u64 ((((x + y) % 18446744073709551616 : Nat) : Int) - (y : Int)) = _
    rw [wrap_u64_mod]; omega

theorem rot64 (x y : Nat) (hx : x < 18446744073709551616) (hy : y < 18446744073709551616) : ∃ s : Nat, (ap 137 x y).1 = (s : Int) ∧ s < 18446744073709551616 ∧ (ap 138 s y).1 = (x : Int) := by
  have hb := rot_both 64 (y % 64) x (by decide) (by omega) hx
  have hb2 : rotl 64 18446744073709551616 (y % 64) x < 18446744073709551616 := hb.2
  refine ⟨rotl 64 18446744073709551616 (y % 64) x, ?_, hb2, ?_⟩
  · rw [ap64 137 x y (by decide) (by decide), rotl64_F x y hx hy]
  · rw [ap64 138 (rotl 64 18446744073709551616 (y % 64) x : Nat) y (by decide) (by decide), rotr64_F _ y hb2 hy]
    exact congrArg (fun n : Nat => (n : Int)) hb.1

theorem popf64 (x : Nat) (hx : x < 18446744073709551616) : (ap 123 x 0).1 = ((ones 64 x : Nat) : Int) := by
  rw [ap64 123 x 0 (by decide) (by decide)]
  exact pop64_F x hx
theorem popn64 (x : Nat) (hx : x < 18446744073709551616) : (ap 123 (bXor .u64 (IntKind.max .u64) (x : Int)) 0).1 = ((ones 64 (18446744073709551615 - x) : Nat) : Int) := by
  rw [bXor64_not x hx]
  exact popf64 (18446744073709551615 - x) (by omega)

theorem clzf64 (x : Nat) (h0 : x ≠ 0) (hx : x < 18446744073709551616) : ∃ c : Nat, (ap 121 x 0).1 = (c : Int) ∧ c ≤ 63 ∧ x / 2 ^ (63 - c) = 1 := by
  obtain ⟨c, h1, h2, h3⟩ := clz64_F x h0 hx
  refine ⟨c, ?_, h2, h3⟩
  rw [ap64 121 x 0 (by decide) (by decide)]
  exact h1
theorem ctzf64 (x : Nat) (hx : x < 18446744073709551616) : (ap 122 x 0).1 = ((tz 64 x : Nat) : Int) := by
  rw [ap64 122 x 0 (by decide) (by decide)]
  exact ctz64_F x hx
theorem zero64 : (ap 121 0 0).1 = 64 ∧ (ap 122 0 0).1 = 64 := by decide +kernel

theorem pops64 (x : Nat) (hx : x < 18446744073709551616) : ∃ p q : Nat, (ap 123 x 0).1 = (p : Int) ∧ (ap 123 (bXor .u64 (IntKind.max .u64) (x : Int)) 0).1 = (q : Int) ∧ (p : Int) + (q : Int) = 64 := by
  refine ⟨ones 64 x, ones 64 (2 ^ 64 - 1 - x), popf64 x hx, ?_, ?_⟩
  · have e : 2 ^ 64 - 1 - x = 18446744073709551615 - x := rfl
    rw [e]; exact popn64 x hx
  · rw [← Int.natCast_add, ones_not 64 x hx]; rfl

theorem KeptInt64_spec (x y : Nat) (hx : x < 18446744073709551616) (hy : y < 18446744073709551616) (w : World) :
    Runs Try.prog numlaw_KeptInt.id #[.int .u64 64, .int .i64 121, .int .i64 124, .int .u64 18446744073709551615, .int .u64 x, .int .u64 y] w fun v w' => v = .bool true ∧ Same [] w.heap.size w w' := by
  refine numlaw_KeptInt.enter _ _ _ _ _ _ _ _ ?_
  unfold numlaw_KeptInt.V
  have n1 : IntKind.wrap .i64 ((124 : Int) + 1) = 125 := by decide
  have n13 : IntKind.wrap .i64 ((124 : Int) + 13) = 137 := by decide
  have n14 : IntKind.wrap .i64 ((124 : Int) + 14) = 138 := by decide
  have n2 : IntKind.wrap .i64 ((121 : Int) + 2) = 123 := by decide
  have nz : IntKind.wrap .i64 ((121 : Int) + 1) = 122 := by decide
  rw [n1, n13, n14, n2]
  obtain ⟨s, s1, s2, s3⟩ := addsub64 x y hx hy
  obtain ⟨l, l1, l2, l3⟩ := rot64 x y hx hy
  refine (Apply_spec _ _ _ (by omega) (by omega) w).mono ?_
  rintro v w1 ⟨rfl, hS1⟩
  refine ⟨_, _, rfl, ?_⟩
  rw [s1]
  refine (Apply_spec _ _ _ (by omega) (by omega) w1).mono ?_
  rintro v w2 ⟨rfl, hS2⟩
  refine ⟨_, _, rfl, ?_⟩
  rw [s3]
  have hT2 := hS1.trans (hS2.mono hS1.size (by simp))
  refine (Apply_spec _ _ _ (by omega) (by omega) w2).mono ?_
  rintro v w3 ⟨rfl, hS3⟩
  refine ⟨_, _, rfl, ?_⟩
  rw [l1]
  have hT3 := hT2.trans (hS3.mono hT2.size (by simp))
  refine (Apply_spec _ _ _ (by omega) (by omega) w3).mono ?_
  rintro v w4 ⟨rfl, hS4⟩
  refine ⟨_, _, rfl, ?_⟩
  rw [l3]
  have hT4 := hT3.trans (hS4.mono hT3.size (by simp))
  refine (Apply_spec _ _ _ (by decide) (by decide) w4).mono ?_
  rintro v w5 ⟨rfl, hS5⟩
  refine ⟨_, _, rfl, ?_⟩
  obtain ⟨p, q, p1, p2, p3⟩ := pops64 x hx
  rw [p1]
  have hT5 := hT4.trans (hS5.mono hT4.size (by simp))
  refine (Apply_spec _ _ _ (by decide) (by decide) w5).mono ?_
  rintro v w6 ⟨rfl, hS6⟩
  refine ⟨_, _, rfl, ?_⟩
  rw [p2]
  have hT6 := hT5.trans (hS6.mono hT5.size (by simp))
  refine cond_false' (by simp) (cond_false' (by simp) (cond_false' ?_ ?_))
  · rw [p3]; decide
  refine numlaw_KeptInt.step1 _ _ _ _ _ ?_
  unfold numlaw_KeptInt.V1
  rw [nz]
  refine (Apply_spec _ _ _ (by decide) (by decide) w6).mono ?_
  rintro v w7 ⟨rfl, hS7⟩
  refine ⟨_, _, rfl, ?_⟩
  have hT7 := hT6.trans (hS7.mono hT6.size (by simp))
  refine (Apply_spec _ _ _ (by decide) (by decide) w7).mono ?_
  rintro v w8 ⟨rfl, hS8⟩
  refine ⟨_, _, rfl, ?_⟩
  have hT8 := hT7.trans (hS8.mono hT7.size (by simp))
  by_cases hx0 : x = 0
  · subst hx0
    have ez : ((0 : Nat) : Int) = 0 := rfl
    rw [ez, zero64.1, zero64.2]
    exact cond_true' rfl (cond_true' rfl ⟨rfl, hT8⟩)
  · obtain ⟨c, c1, c2, c3⟩ := clzf64 x hx0 hx
    obtain ⟨z1, z2, z3⟩ := tz_lt 64 x hx hx0
    have z0 := ctzf64 x hx
    rw [c1, z0]
    generalize tz 64 x = z at z1 z2 z3
    refine cond_false' (by rw [beq_eq_false_iff_ne]; omega) (cond_false' (decide_eq_false (by omega)) (cond_false' (decide_eq_false (by omega)) ?_))
    refine numlaw_KeptInt.step2 _ _ _ _ _ _ ?_
    unfold numlaw_KeptInt.V2
    have ew : IntKind.wrap .u64 ((IntKind.wrap .u64 ((64 : Int) - 1)) - (c : Int)) = ((63 - c : Nat) : Int) := by
      have e1 : IntKind.wrap .u64 ((64 : Int) - 1) = 63 := by decide
      rw [e1, wrap_u64 (by omega) (by omega)]; omega
    rw [ew, fdivk x (63 - c) (by omega), c3, fdivk x z (by omega)]
    refine ⟨by omega, cond_true' rfl ⟨by omega, ?_⟩⟩
    have hq : x / 2 ^ z < 18446744073709551616 := Nat.lt_of_le_of_lt (Nat.div_le_self _ _) (by omega)
    rw [and1 _ hq, z2]
    refine cond_true' rfl ⟨by omega, ?_, hT8⟩
    rw [low_zero x z (by omega) (by omega) z3]
    rfl

theorem divz64 (x : Nat) (hx : x < 18446744073709551616) : ap 127 x 0 = (0, 39) ∧ ap 128 x 0 = (0, 39) ∧ ap 129 x 0 = (0, 39) ∧ ap 130 x 0 = (0, 39) := by
  refine ⟨?_, ?_, ?_, ?_⟩
  · rw [ap64 127 x 0 (by decide) (by decide)]; rfl
  · rw [ap64 128 x 0 (by decide) (by decide)]; rfl
  · rw [ap64 129 x 0 (by decide) (by decide)]; rfl
  · rw [ap64 130 x 0 (by decide) (by decide)]; rfl

theorem divu64 (x y : Nat) (hx : x < 18446744073709551616) (hy : y < 18446744073709551616) (hy0 : y ≠ 0) : ap 128 x y = (((x / y : Nat) : Int), 0) ∧ ap 130 x y = (((x % y : Nat) : Int), 0) := by
  have hne : ((y : Int) == 0) = false := by rw [beq_eq_false_iff_ne]; omega
  have hq : x / y < 18446744073709551616 := Nat.lt_of_le_of_lt (Nat.div_le_self _ _) hx
  refine ⟨?_, ?_⟩
  · rw [ap64 128 x y (by decide) (by decide)]
    show cond ((y : Int) == 0) _ (IntKind.wrap .u64 (Int.tdiv (x : Int) (y : Int)), (0 : Int)) = _
    rw [hne, cond_false, ← Int.ofNat_tdiv, wrap64_n _ hq]
  · rw [ap64 130 x y (by decide) (by decide)]
    show cond ((y : Int) == 0) _ (Int.tmod (x : Int) (y : Int), (0 : Int)) = _
    rw [hne, cond_false, ← Int.ofNat_tmod]

theorem divs64 (x y : Nat) (hx : x < 18446744073709551616) (hy : y < 18446744073709551616) (hy0 : y ≠ 0) : ap 129 x y = (Int.tmod (sgn 9223372036854775808 x) (sgn 9223372036854775808 y) % 18446744073709551616, 0) ∧
    (¬ (x = 9223372036854775808 ∧ y = 18446744073709551615) → ap 127 x y = (Int.tdiv (sgn 9223372036854775808 x) (sgn 9223372036854775808 y) % 18446744073709551616, 0)) ∧ (x = 9223372036854775808 ∧ y = 18446744073709551615 → ap 127 x y = (0, 40)) := by
  have hne : ((y : Int) == 0) = false := by rw [beq_eq_false_iff_ne]; omega
  refine ⟨?_, fun hn => ?_, fun hn => ?_⟩
  · rw [ap64 129 x y (by decide) (by decide)]
    show cond ((y : Int) == 0) _ (IntKind.wrap .u64 (Int.tmod (IntKind.wrap .i64 (x : Int)) (IntKind.wrap .i64 (y : Int))), (0 : Int)) = _
    rw [hne, cond_false, wrap_u64_mod, wrap_i64_sgn x (by omega) (by omega), wrap_i64_sgn y (by omega) (by omega)]
  · rw [ap64 127 x y (by decide) (by decide)]
    show cond ((y : Int) == 0) _ (cond ((x : Int) == 9223372036854775808) (num_int64s.F4 x y ((y : Int) == 18446744073709551615)) (num_int64s.F4 x y false)) = _
    rw [hne, cond_false]
    have hf : num_int64s.F4 x y false = (Int.tdiv (sgn 9223372036854775808 x) (sgn 9223372036854775808 y) % 18446744073709551616, 0) := by
      show (IntKind.wrap .u64 (IntKind.wrap .i64 (Int.tdiv (IntKind.wrap .i64 (x : Int)) (IntKind.wrap .i64 (y : Int)))), (0 : Int)) = _
      rw [wrap_u64_i64, wrap_i64_sgn x (by omega) (by omega), wrap_i64_sgn y (by omega) (by omega)]
    by_cases hxH : x = 9223372036854775808
    · have e1 : ((x : Int) == 9223372036854775808) = true := by rw [beq_iff_eq]; omega
      have e2 : ((y : Int) == 18446744073709551615) = false := by rw [beq_eq_false_iff_ne]; omega
      rw [e1, e2, cond_true]; exact hf
    · have e1 : ((x : Int) == 9223372036854775808) = false := by rw [beq_eq_false_iff_ne]; omega
      rw [e1, cond_false]; exact hf
  · obtain ⟨rfl, rfl⟩ := hn
    rw [ap64 127 ((9223372036854775808 : Nat) : Int) ((18446744073709551615 : Nat) : Int) (by decide) (by decide)]
    rfl

end Go.Proofs.Qxb6500320a
