/-
  KeepsPlain: the integers.
-/
import Derived.Test.Qxb6500320aKeC
set_option linter.unusedSimpArgs false
set_option linter.unusedVariables false
set_option maxRecDepth 100000
namespace Go.Proofs.Qxb6500320a
open Go Go.Vc

theorem bXor64_n (a b : Nat) (ha : a < 18446744073709551616) (hb : b < 18446744073709551616) : bXor .u64 (a : Int) (b : Int) = ((a ^^^ b : Nat) : Int) := bXor_n .u64 rfl a b ha hb
theorem tmod_n (y W : Nat) : Int.tmod (y : Int) (W : Int) = ((y % W : Nat) : Int) := by rw [← Int.ofNat_tmod]
theorem pow_le_w (c W : Nat) (h : c < W) : 2 ^ c < 2 ^ W := Nat.pow_lt_pow_right (by decide) h

/-- Copies of the sign over what is shifted out. -/
theorem sar_nat (x c W M H : Nat) (hM : M = 2 ^ W) (hc : c < W) (hx : x < M) : Int.fdiv ((x : Int) - M) (2 ^ c) = ((x / 2 ^ c : Nat) : Int) - ((2 ^ (W - c) : Nat) : Int) := by
  have hp := Nat.two_pow_pos c
  have e : M = 2 ^ (W - c) * 2 ^ c := by rw [hM, ← Nat.pow_add]; congr 1; omega
  have hc2 : ((2 : Int) ^ c) = ((2 ^ c : Nat) : Int) := by simp
  rw [Int.fdiv_eq_ediv_of_nonneg _ (by rw [hc2]; exact Int.natCast_nonneg _), e, hc2, Int.natCast_mul]
  have h1 : ((2 ^ c : Nat) : Int) ≠ 0 := by omega
  rw [Int.sub_eq_add_neg, ← Int.neg_mul, Int.add_mul_ediv_right _ _ h1, ← Int.sub_eq_add_neg, Int.natCast_ediv]

theorem fill_or (q k W M : Nat) (hM : M = 2 ^ W) (hk : k ≤ W) (hq : q < 2 ^ k) : q ||| (M - 2 ^ k) = M - 2 ^ k + q := by
  have e : M - 2 ^ k = (2 ^ (W - k) - 1) * 2 ^ k := by
    rw [Nat.sub_mul, ← Nat.pow_add, Nat.one_mul, hM]; congr 2; omega
  rw [Nat.or_comm, e, or_add _ q k hq]

/-! ### 32 bits -/
theorem cnt32 (y : Nat) (hy : y < 4294967296) : Int.tmod (y : Int) 32 = ((y % 32 : Nat) : Int) := tmod_n y 32
theorem wadd32 (x y : Nat) (hx : x < 4294967296) (hy : y < 4294967296) : (ap 106 x y).1 = (((x + y) % 4294967296 : Nat) : Int) := by
  rw [ap32 106 x y (by decide) (by decide) (by omega) (by omega)]
  show IntKind.wrap .u32 ((x : Int) + (y : Int)) = _
  rw [wrap_u32_mod]; omega
theorem wmul32 (x y : Nat) (hx : x < 4294967296) (hy : y < 4294967296) : (ap 108 x y).1 = ((x * y % 4294967296 : Nat) : Int) := by
  rw [ap32 108 x y (by decide) (by decide) (by omega) (by omega)]
  show IntKind.wrap .u32 ((x : Int) * (y : Int)) = _
  rw [wrap_u32_mod, ← Int.natCast_mul]
  generalize x * y = z
  omega
theorem wand32 (x y : Nat) (hx : x < 4294967296) (hy : y < 4294967296) : (ap 113 x y).1 = ((x &&& y : Nat) : Int) := by
  rw [ap32 113 x y (by decide) (by decide) (by omega) (by omega)]
  exact bAnd32_n x y hx hy
theorem wor32 (x y : Nat) (hx : x < 4294967296) (hy : y < 4294967296) : (ap 114 x y).1 = ((x ||| y : Nat) : Int) := by
  rw [ap32 114 x y (by decide) (by decide) (by omega) (by omega)]
  exact bOr32_n x y hx hy
theorem wxor32 (x y : Nat) (hx : x < 4294967296) (hy : y < 4294967296) : (ap 115 x y).1 = ((x ^^^ y : Nat) : Int) := by
  rw [ap32 115 x y (by decide) (by decide) (by omega) (by omega)]
  exact bXor_n .u32 rfl x y hx hy
theorem wshl32 (x y : Nat) (hx : x < 4294967296) (hy : y < 4294967296) : (ap 116 x y).1 = ((x * 2 ^ (y % 32) % 4294967296 : Nat) : Int) := by
  rw [ap32 116 x y (by decide) (by decide) (by omega) (by omega)]
  show IntKind.wrap .u32 ((x : Int) * 2 ^ (min (Int.toNat (Int.tmod (y : Int) 32)) (IntKind.bits .u32))) = _
  rw [cnt32 y hy, Int.toNat_natCast]
  exact shl32_n x (y % 32) (by omega)
theorem wshu32 (x y : Nat) (hx : x < 4294967296) (hy : y < 4294967296) : (ap 118 x y).1 = ((x / 2 ^ (y % 32) : Nat) : Int) := by
  rw [ap32 118 x y (by decide) (by decide) (by omega) (by omega)]
  show Int.fdiv (x : Int) (2 ^ (min (Int.toNat (Int.tmod (y : Int) 32)) (IntKind.bits .u32))) = _
  rw [cnt32 y hy, Int.toNat_natCast]
  exact shr32_n x (y % 32) (by omega)
theorem wshs32 (x y : Nat) (hx : x < 4294967296) (hy : y < 4294967296) : (ap 117 x y).1 = ((if 2147483648 ≤ x then 4294967296 - 2 ^ (32 - y % 32) + x / 2 ^ (y % 32) else x / 2 ^ (y % 32) : Nat) : Int) := by
  have hc : y % 32 < 32 := by omega
  have hp : 2 ^ (32 - y % 32) ≤ 4294967296 := Nat.le_trans (Nat.pow_le_pow_right (by omega) (by omega)) (Nat.le_of_eq (show 2 ^ 32 = 4294967296 by decide))
  have hq : x / 2 ^ (y % 32) < 2 ^ (32 - y % 32) := by
    rw [Nat.div_lt_iff_lt_mul (Nat.two_pow_pos _), ← Nat.pow_add]
    have : 32 - y % 32 + y % 32 = 32 := by omega
    rw [this]; exact hx
  rw [ap32 117 x y (by decide) (by decide) (by omega) (by omega)]
  show IntKind.wrap .u32 (Int.fdiv (IntKind.wrap .i32 (x : Int)) (2 ^ (min (Int.toNat (Int.tmod (y : Int) 32)) (IntKind.bits .i32)))) = _
  have hb : IntKind.bits .i32 = 32 := by decide
  rw [cnt32 y hy, Int.toNat_natCast, hb, Nat.min_eq_left (by omega), wrap_i32_sgn x (by omega) (by omega)]
  unfold sgn
  by_cases h : 2147483648 ≤ x
  · rw [if_pos (by omega), if_pos h]
    have e : (x : Int) - 2 * 2147483648 = (x : Int) - ((4294967296 : Nat) : Int) := by omega
    rw [e, sar_nat x (y % 32) 32 4294967296 2147483648 (by decide) hc hx, wrap_u32_mod]
    generalize 2 ^ (32 - y % 32) = P at *
    generalize x / 2 ^ (y % 32) = Q at *
    omega
  · rw [if_neg (by omega), if_neg h, fdiv_n, wrap_u32_mod]
    have : x / 2 ^ (y % 32) ≤ x := Nat.div_le_self _ _
    generalize x / 2 ^ (y % 32) = Q at *
    omega
theorem wrol32 (x y : Nat) (hx : x < 4294967296) (hy : y < 4294967296) : (ap 119 x y).1 = ((rotl 32 4294967296 (y % 32) x : Nat) : Int) := by
  rw [ap32 119 x y (by decide) (by decide) (by omega) (by omega), rotl32_F x y hx hy]

theorem KeptWord32_spec (x y : Nat) (hx : x < 4294967296) (hy : y < 4294967296) (w : World) :
    Runs Try.prog numlaw_KeptWord.id #[.int .u64 32, .int .i64 106, .int .u64 4294967295, .int .u64 x, .int .u64 y] w fun v w' => v = .bool true ∧ Same [] w.heap.size w w' := by
  refine numlaw_KeptWord.enter _ _ _ _ _ _ _ ?_
  unfold numlaw_KeptWord.V
  have hX : U64 (x : Int) := u64_nat (by omega)
  have hY : U64 (y : Int) := u64_nat (by omega)
  have n2 : IntKind.wrap .i64 ((106 : Int) + 2) = 108 := by decide
  have n7 : IntKind.wrap .i64 ((106 : Int) + 7) = 113 := by decide
  have n8 : IntKind.wrap .i64 ((106 : Int) + 8) = 114 := by decide
  have n9 : IntKind.wrap .i64 ((106 : Int) + 9) = 115 := by decide
  have n10 : IntKind.wrap .i64 ((106 : Int) + 10) = 116 := by decide
  have n11 : IntKind.wrap .i64 ((106 : Int) + 11) = 117 := by decide
  have n12 : IntKind.wrap .i64 ((106 : Int) + 12) = 118 := by decide
  have n13 : IntKind.wrap .i64 ((106 : Int) + 13) = 119 := by decide
  have nm : IntKind.wrap .i64 ((106 : Int) - 1) = 105 := by decide
  rw [n2, n7, n8, n9]
  refine ⟨rfl, by decide, ?_⟩
  refine (apL_spec _ _ _ hY w).mono ?_
  rintro v w1 ⟨rfl, T1⟩
  refine ⟨_, rfl, (apL_spec _ _ _ hY w1).mono ?_⟩
  rintro v w2 ⟨rfl, S2⟩
  have T2 := T1.trans (S2.mono T1.size (by simp))
  refine ⟨_, rfl, (apL_spec _ _ _ hY w2).mono ?_⟩
  rintro v w3 ⟨rfl, S3⟩
  have T3 := T2.trans (S3.mono T2.size (by simp))
  refine ⟨_, rfl, (apL_spec _ _ _ hY w3).mono ?_⟩
  rintro v w4 ⟨rfl, S4⟩
  have T4 := T3.trans (S4.mono T3.size (by simp))
  refine ⟨_, rfl, (apL_spec _ _ _ hY w4).mono ?_⟩
  rintro v w5 ⟨rfl, S5⟩
  have T5 := T4.trans (S5.mono T4.size (by simp))
  refine ⟨_, rfl, ?_⟩
  rw [wadd32 x y hx hy, wmul32 x y hx hy, wand32 x y hx hy, wor32 x y hx hy, wxor32 x y hx hy]
  have k1 : bAnd .u64 (IntKind.wrap .u64 ((x : Int) + (y : Int))) 4294967295 = (((x + y) % 4294967296 : Nat) : Int) := by
    rw [andm32 _ (wrap_u64_rng _).1 (wrap_u64_rng _).2, wrap_u64_mod]; omega
  have k2 : bAnd .u64 (IntKind.wrap .u64 ((x : Int) * (y : Int))) 4294967295 = ((x * y % 4294967296 : Nat) : Int) := by
    rw [andm32 _ (wrap_u64_rng _).1 (wrap_u64_rng _).2, wrap_u64_mod, ← Int.natCast_mul]
    generalize x * y = z
    omega
  rw [k1, k2, bAnd64_n x y (by omega) (by omega), bOr64_n x y (by omega) (by omega), bXor64_n x y (by omega) (by omega)]
  clear k1 k2
  refine cond_false' (by simp) (cond_false' (by simp) (cond_false' (by simp) (cond_false' (by simp) (cond_false' (by simp) ?_))))
  have ec : Int.tmod (y : Int) 32 = ((y % 32 : Nat) : Int) := tmod_n y 32
  rw [ec]
  have hc : y % 32 < 32 := by omega
  have hsl := wshl32 x y hx hy
  have hss := wshs32 x y hx hy
  have hsu := wshu32 x y hx hy
  have hro := wrol32 x y hx hy
  generalize y % 32 = c at *
  refine numlaw_KeptWord.step1 _ _ _ _ _ _ _ _ ?_
  unfold numlaw_KeptWord.V1
  rw [n10, n11, n12, n13]
  refine (apL_spec _ _ _ hY w5).mono ?_
  rintro v w6 ⟨rfl, S6⟩
  have T6 := T5.trans (S6.mono T5.size (by simp))
  refine ⟨_, rfl, (apL_spec _ _ _ hY w6).mono ?_⟩
  rintro v w7 ⟨rfl, S7⟩
  have T7 := T6.trans (S7.mono T6.size (by simp))
  refine ⟨_, rfl, (apL_spec _ _ _ hY w7).mono ?_⟩
  rintro v w8 ⟨rfl, S8⟩
  have T8 := T7.trans (S8.mono T7.size (by simp))
  refine ⟨_, rfl, (apL_spec _ _ _ hY w8).mono ?_⟩
  rintro v w9 ⟨rfl, S9⟩
  have T9 := T8.trans (S9.mono T8.size (by simp))
  refine ⟨_, rfl, ?_⟩
  rw [hsl, hss, hsu, hro]
  have hp : 2 ^ (32 - c) ≤ 4294967296 := Nat.le_trans (Nat.pow_le_pow_right (by omega) (by omega)) (Nat.le_of_eq (show 2 ^ 32 = 4294967296 by decide))
  have hp0 := Nat.two_pow_pos (32 - c)
  have hq : x / 2 ^ c < 2 ^ (32 - c) := by
    rw [Nat.div_lt_iff_lt_mul (Nat.two_pow_pos _), ← Nat.pow_add]
    have : 32 - c + c = 32 := by omega
    rw [this]; exact hx
  have cntl : ∀ (f n : Nat) (w' : World), n + f = 32 → Same [] w.heap.size w w' → numlaw_KeptWord.L4 32 106 x ((ones n x : Nat) : Int) (n : Int) (fun v w' => v = .bool true ∧ Same [] w.heap.size w w') w' := by
    intro f
    induction f with
    | zero =>
      intro n w' hn T
      refine numlaw_KeptWord.step4 _ _ _ _ _ _ _ ?_
      unfold numlaw_KeptWord.V4
      rw [nm]
      refine cond_false' (decide_eq_false (by omega)) ((apL_spec _ _ _ u64_0 w').mono ?_)
      rintro v w2 ⟨rfl, S2⟩
      refine ⟨_, rfl, ?_, T.trans (S2.mono T.size (by simp))⟩
      have e : n = 32 := by omega
      rw [popf32 x hx, e]; simp
    | succ f ih =>
      intro n w' hn T
      refine numlaw_KeptWord.step4 _ _ _ _ _ _ _ ?_
      unfold numlaw_KeptWord.V4
      refine cond_true' (decide_eq_true (by omega)) ⟨by omega, ?_⟩
      have hlt : x / 2 ^ n < 18446744073709551616 := Nat.lt_of_le_of_lt (Nat.div_le_self _ _) (by omega)
      have hle := ones_le n x
      have e1 : IntKind.wrap .u64 (((ones n x : Nat) : Int) + (bAnd .u64 (Int.fdiv (x : Int) (2 ^ (min (Int.toNat (n : Int)) (IntKind.bits .u64)))) 1)) = ((ones (n + 1) x : Nat) : Int) := by
        rw [fdivk x n (by omega), and1 _ hlt, ones_add n 1 x]
        have e2 : ones 1 (x / 2 ^ n) = x / 2 ^ n % 2 := by simp [ones]
        rw [e2]
        generalize x / 2 ^ n = z at *
        generalize ones n x = o at *
        rw [wrap_u64 (by omega) (by omega)]; omega
      have e3 : IntKind.wrap .u64 ((n : Int) + 1) = ((n + 1 : Nat) : Int) := by rw [wrap_u64 (by omega) (by omega)]; omega
      rw [e1, e3]
      exact ih (n + 1) w' (by omega) T
  have L2 : ∀ fill : Nat, fill < 18446744073709551616 → (if 2147483648 ≤ x then 4294967296 - 2 ^ (32 - c) + x / 2 ^ c else x / 2 ^ c) = x / 2 ^ c ||| fill → numlaw_KeptWord.L2 32 106 4294967295 x c ((x * 2 ^ c % 4294967296 : Nat) : Int) (((if 2147483648 ≤ x then 4294967296 - 2 ^ (32 - c) + x / 2 ^ c else x / 2 ^ c : Nat) : Nat) : Int) ((x / 2 ^ c : Nat) : Int) ((rotl 32 4294967296 c x : Nat) : Int) (fill : Int) (fun v w' => v = .bool true ∧ Same [] w.heap.size w w') w9 := by
    intro fill hf he
    refine numlaw_KeptWord.step2 _ _ _ _ _ _ _ _ _ _ _ _ ?_
    unfold numlaw_KeptWord.V2
    have hxc : x / 2 ^ c < 18446744073709551616 := Nat.lt_of_le_of_lt (Nat.div_le_self _ _) (by omega)
    have a1 : IntKind.wrap .u64 ((x : Int) * 2 ^ (min (Int.toNat (c : Int)) (IntKind.bits .u64))) = ((x * 2 ^ c % 18446744073709551616 : Nat) : Int) := by rw [Int.toNat_natCast]; exact shl64_n x c (by omega)
    have a2 : bAnd .u64 ((x * 2 ^ c % 18446744073709551616 : Nat) : Int) 4294967295 = ((x * 2 ^ c % 4294967296 : Nat) : Int) := by
      rw [andm32 _ (by omega) (by omega)]
      generalize x * 2 ^ c = z
      omega
    rw [a1, a2, fdivk x c (by omega), he, bOr64_n _ _ hxc hf]
    refine ⟨by omega, cond_false' (by simp) ⟨by omega, cond_false' (by simp) ⟨by omega, cond_false' (by simp) ⟨by omega, ?_, ?_⟩⟩⟩⟩
    · exact (wrap_u64_rng _).1
    · have a3 : IntKind.wrap .u64 ((32 : Int) - (c : Int)) = ((32 - c : Nat) : Int) := by
        have : (32 : Int) - (c : Int) = ((32 - c : Nat) : Int) := by omega
        rw [this, wrap64_n _ (by omega)]
      have hbits : IntKind.bits .u64 = 64 := by decide
      rw [a3, Int.toNat_natCast, hbits, Nat.min_eq_left (show 32 - c ≤ 64 by omega), fdiv_n]
      have hxd : x / 2 ^ (32 - c) < 18446744073709551616 := Nat.lt_of_le_of_lt (Nat.div_le_self _ _) (by omega)
      have a4 : bOr .u64 ((x * 2 ^ c % 18446744073709551616 : Nat) : Int) ((x / 2 ^ (32 - c) : Nat) : Int) = ((x * 2 ^ c % 18446744073709551616 ||| x / 2 ^ (32 - c) : Nat) : Int) := bOr64_n _ _ (Nat.mod_lt _ (by decide)) hxd
      rw [a4]
      have a5 : (x * 2 ^ c % 18446744073709551616 ||| x / 2 ^ (32 - c)) < 18446744073709551616 := Nat.or_lt_two_pow (n := 64) (Nat.mod_lt _ (by decide)) hxd
      have a6 : bAnd .u64 ((x * 2 ^ c % 18446744073709551616 ||| x / 2 ^ (32 - c) : Nat) : Int) 4294967295 = ((rotl 32 4294967296 c x : Nat) : Int) := by
        rw [andm32 _ (Int.natCast_nonneg _) (Int.ofNat_lt.2 a5)]
        have e1 : (x * 2 ^ c % 18446744073709551616 ||| x / 2 ^ (32 - c)) % 4294967296 = rotl 32 4294967296 c x := by
          have e2 : (4294967296 : Nat) = 2 ^ 32 := by decide
          rw [e2, Nat.or_mod_two_pow, ← e2]
          unfold rotl
          have e3 : x * 2 ^ c % 18446744073709551616 % 4294967296 = x * 2 ^ c % 4294967296 := by
            generalize x * 2 ^ c = z
            omega
          have e4 : x / 2 ^ (32 - c) % 4294967296 = x / 2 ^ (32 - c) := Nat.mod_eq_of_lt (Nat.lt_of_le_of_lt (Nat.div_le_self _ _) hx)
          rw [e3, e4]
          rcases Nat.eq_zero_or_pos c with h0 | h0
          · subst h0
            have e5 : x / 2 ^ (32 - 0) = 0 := Nat.div_eq_of_lt (Nat.lt_of_lt_of_le hx (Nat.le_of_eq (by decide)))
            have e6 : (32 - 0) % 32 = 0 := by decide
            rw [e5, e6, Nat.pow_zero, Nat.mul_one, Nat.div_one, Nat.mod_eq_of_lt hx, Nat.or_zero, Nat.or_self]
          · have e6 : (32 - c) % 32 = 32 - c := Nat.mod_eq_of_lt (by omega)
            rw [e6]
        rw [← e1]; exact (Int.natCast_emod _ _).symm
      rw [a6]
      refine cond_false' (by simp) ?_
      refine numlaw_KeptWord.step3 _ _ _ _ _ ?_
      unfold numlaw_KeptWord.V3
      exact cntl 32 0 w9 (by omega) T9
  have em : Int.fdiv 4294967295 (2 ^ (1 : Nat)) = 2147483647 := by decide
  rw [em]
  refine cond_dec (fun h => ⟨by omega, ?_⟩) (fun h => ?_)
  · have hH : 2147483648 ≤ x := by omega
    have e1 : Int.fdiv 4294967295 (2 ^ (min (Int.toNat (c : Int)) (IntKind.bits .u64))) = ((2 ^ (32 - c) - 1 : Nat) : Int) := by
      have := fdivk 4294967295 c (by omega)
      have e0 : ((4294967295 : Nat) : Int) = 4294967295 := rfl
      rw [e0] at this
      rw [this]
      congr 1
      have e2 : (4294967295 : Nat) = 2 ^ (32 - c) * 2 ^ c - 1 := by
        rw [← Nat.pow_add]
        have : 32 - c + c = 32 := by omega
        rw [this]
      have hp2 := Nat.two_pow_pos c
      rw [e2, Nat.div_eq_iff (by omega)]
      have e3 : (2 ^ (32 - c) - 1) * 2 ^ c = 2 ^ (32 - c) * 2 ^ c - 2 ^ c := by rw [Nat.sub_mul, Nat.one_mul]
      have e4 : 1 * 2 ^ c ≤ 2 ^ (32 - c) * 2 ^ c := Nat.mul_le_mul_right _ hp0
      rw [e3]
      generalize 2 ^ (32 - c) * 2 ^ c = A at *
      generalize 2 ^ c = B at *
      omega
    have e2 : bAndNot .u64 4294967295 ((2 ^ (32 - c) - 1 : Nat) : Int) = ((4294967296 - 2 ^ (32 - c) : Nat) : Int) := by
      unfold bAndNot
      have q1 : (BitVec.ofInt (IntKind.bits .u64) 4294967295).toNat = 4294967295 := by decide +kernel
      have q2 : (BitVec.ofInt (IntKind.bits .u64) ((2 ^ (32 - c) - 1 : Nat) : Int)).toNat = 2 ^ (32 - c) - 1 := ofInt_nat _ 64 (by
        have : (2 : Nat) ^ 64 = 18446744073709551616 := by decide
        omega)
      have q3 : (~~~(BitVec.ofInt (IntKind.bits .u64) ((2 ^ (32 - c) - 1 : Nat) : Int))).toNat = 18446744073709551615 - (2 ^ (32 - c) - 1) := by
        rw [BitVec.toNat_not, q2]; rfl
      rw [BitVec.toNat_and, q1, q3]
      have q4 : (4294967295 : Nat) &&& (18446744073709551615 - (2 ^ (32 - c) - 1)) = 4294967296 - 2 ^ (32 - c) := by
        rw [Nat.and_comm]
        have e5 : (4294967295 : Nat) = 2 ^ 32 - 1 := by decide
        rw [e5, Nat.and_two_pow_sub_one_eq_mod]
        have e6 : (2 : Nat) ^ 32 = 4294967296 := by decide
        rw [e6]
        generalize 2 ^ (32 - c) = P at *
        omega
      rw [q4, wrap64_n _ (by omega)]
    rw [e1, e2]
    refine L2 _ (by omega) ?_
    rw [if_pos hH, fill_or _ (32 - c) 32 4294967296 (by decide) (by omega) hq]
  · have := L2 0 (by omega) (by rw [if_neg (by omega), Nat.or_zero])
    exact this

theorem rel32_bits (x y : Nat) (hx : x < 4294967296) (hy : y < 4294967296) : ∃ z e ls gs lu gu : Bool, ((x : Int) == 0) = z ∧ ((x : Int) == (y : Int)) = e ∧ decide ((x : Int) < (y : Int)) = lu ∧ decide ((x : Int) > (y : Int)) = gu ∧
    decide (bXor .u64 (x : Int) 2147483648 < bXor .u64 (y : Int) 2147483648) = ls ∧ decide (bXor .u64 (x : Int) 2147483648 > bXor .u64 (y : Int) 2147483648) = gs ∧
    (e = true → ls = false ∧ gs = false ∧ lu = false ∧ gu = false) ∧ (e = false → ls = !gs ∧ lu = !gu) ∧
    (ap 69 x y).1 = num_flag.F z ∧ (ap 70 x y).1 = num_flag.F e ∧ (ap 71 x y).1 = num_flag.F (!e) ∧ (ap 72 x y).1 = num_flag.F ls ∧ (ap 73 x y).1 = num_flag.F lu ∧ (ap 74 x y).1 = num_flag.F gs ∧ (ap 75 x y).1 = num_flag.F gu ∧ (ap 76 x y).1 = num_flag.F (!gs) ∧ (ap 77 x y).1 = num_flag.F (!gu) ∧ (ap 78 x y).1 = num_flag.F (!ls) ∧ (ap 79 x y).1 = num_flag.F (!lu) := by
  have xt : ∀ v : Nat, v < 4294967296 → bXor .u64 (v : Int) 2147483648 = (((v + 2147483648) % 4294967296 : Nat) : Int) := fun v hv => by
    have e : bXor .u64 (v : Int) 2147483648 = ((v ^^^ 2147483648 : Nat) : Int) := bXor64_n v 2147483648 (by omega) (by decide)
    rw [e]
    refine congrArg (fun n : Nat => (n : Int)) ?_
    have e1 : v ^^^ 2147483648 = (v % 2147483648 ^^^ 0) + 2147483648 * (v / 2147483648 ^^^ 1) := by
      have h := Nat.xor_mod_two_pow (a := v) (b := 2147483648) (n := 31)
      have h2 := Nat.xor_div_two_pow (a := v) (b := 2147483648) (n := 31)
      have p : (2 : Nat) ^ 31 = 2147483648 := by decide
      have p1 : (2147483648 : Nat) % 2 ^ 31 = 0 := by decide
      have p2 : (2147483648 : Nat) / 2 ^ 31 = 1 := by decide
      rw [p1, p] at h
      rw [p2, p] at h2
      have hd := Nat.div_add_mod (v ^^^ 2147483648) 2147483648
      rw [h, h2] at hd
      omega
    rw [e1, Nat.xor_zero]
    have hc : v / 2147483648 = 0 ∨ v / 2147483648 = 1 := by omega
    rcases hc with hc | hc
    · rw [hc, show (0 : Nat) ^^^ 1 = 1 by decide]; omega
    · rw [hc, show (1 : Nat) ^^^ 1 = 0 by decide]; omega
  have sg : ∀ v : Nat, v < 4294967296 → IntKind.wrap .i32 (v : Int) = (((v + 2147483648) % 4294967296 : Nat) : Int) - 2147483648 := fun v hv => by
    rw [wrap_i32_sgn v (by omega) (by omega)]; unfold sgn; split <;> omega
  have wx := sg x hx
  have wy := sg y hy
  refine ⟨_, _, _, _, _, _, rfl, rfl, rfl, rfl, rfl, rfl, ?_, ?_, ?_⟩
  · intro h
    have h' := eq_of_beq h
    rw [xt x hx, xt y hy]
    refine ⟨decide_eq_false (by omega), decide_eq_false (by omega), decide_eq_false (by omega), decide_eq_false (by omega)⟩
  · intro h
    have h' := beq_eq_false_iff_ne.1 h
    rw [xt x hx, xt y hy]
    constructor
    · rw [Bool.eq_iff_iff, decide_eq_true_iff, Bool.not_eq_true', decide_eq_false_iff_not]; omega
    · rw [Bool.eq_iff_iff, decide_eq_true_iff, Bool.not_eq_true', decide_eq_false_iff_not]; omega
  · rw [xt x hx, xt y hy]
    have gen : ∀ op : Int, 69 ≤ op → op ≤ 79 → (ap op x y).1 = num_flag.F (num_rel32.F op x y) := fun op h0 h1 => by
      rw [ap_rel32 op x y h0 h1, wrap32_n x hx, wrap32_n y hy]
    refine ⟨?_, ?_, ?_, ?_, ?_, ?_, ?_, ?_, ?_, ?_, ?_⟩
    · rw [gen 69 (by decide) (by decide)]
      rfl
    · rw [gen 70 (by decide) (by decide)]
      rfl
    · rw [gen 71 (by decide) (by decide)]
      rfl
    · rw [gen 72 (by decide) (by decide)]
      show num_flag.F (decide (IntKind.wrap .i32 (x : Int) < IntKind.wrap .i32 (y : Int))) = _
      rw [wx, wy]
      refine congrArg num_flag.F ?_
      rw [Bool.eq_iff_iff, decide_eq_true_iff, decide_eq_true_iff]; omega
    · rw [gen 73 (by decide) (by decide)]
      rfl
    · rw [gen 74 (by decide) (by decide)]
      show num_flag.F (decide (IntKind.wrap .i32 (x : Int) > IntKind.wrap .i32 (y : Int))) = _
      rw [wx, wy]
      refine congrArg num_flag.F ?_
      rw [Bool.eq_iff_iff, decide_eq_true_iff, decide_eq_true_iff]; omega
    · rw [gen 75 (by decide) (by decide)]
      rfl
    · rw [gen 76 (by decide) (by decide)]
      show num_flag.F (decide (IntKind.wrap .i32 (x : Int) ≤ IntKind.wrap .i32 (y : Int))) = _
      rw [wx, wy]
      refine congrArg num_flag.F ?_
      rw [Bool.eq_iff_iff, decide_eq_true_iff, Bool.not_eq_true', decide_eq_false_iff_not]; omega
    · rw [gen 77 (by decide) (by decide)]
      show num_flag.F (decide ((x : Int) ≤ (y : Int))) = _
      refine congrArg num_flag.F ?_
      rw [Bool.eq_iff_iff, decide_eq_true_iff, Bool.not_eq_true', decide_eq_false_iff_not]; omega
    · rw [gen 78 (by decide) (by decide)]
      show num_flag.F (decide (IntKind.wrap .i32 (x : Int) ≥ IntKind.wrap .i32 (y : Int))) = _
      rw [wx, wy]
      refine congrArg num_flag.F ?_
      rw [Bool.eq_iff_iff, decide_eq_true_iff, Bool.not_eq_true', decide_eq_false_iff_not]; omega
    · rw [gen 79 (by decide) (by decide)]
      show num_flag.F (decide ((x : Int) ≥ (y : Int))) = _
      refine congrArg num_flag.F ?_
      rw [Bool.eq_iff_iff, decide_eq_true_iff, Bool.not_eq_true', decide_eq_false_iff_not]; omega

theorem KeptRel32_spec (x y : Nat) (hx : x < 4294967296) (hy : y < 4294967296) (w : World) :
    Runs Try.prog numlaw_KeptRel.id #[.int .i64 70, .int .u64 4294967295, .int .u64 x, .int .u64 y] w fun v w' => v = .bool true ∧ Same [] w.heap.size w w' := by
  refine numlaw_KeptRel.enter _ _ _ _ _ _ ?_
  unfold numlaw_KeptRel.V
  have hY : U64 (y : Int) := u64_nat (by omega)
  obtain ⟨z, e, ls, gs, lu, gu, b1, b2, b3, b4, b5, b6, c1, c2, r0, r1, r2, r3, r4, r5, r6, r7, r8, r9, r10⟩ := rel32_bits x y hx hy
  have T0 : Same [] w.heap.size w w := Same.refl _ _ _
  have fle : ∀ c : Bool, ¬ (num_flag.F c > 1) := by decide
  refine numlaw_KeptRel.step1 _ _ _ _ _ _ _ _ ?_
  unfold numlaw_KeptRel.V1
  have n0 : IntKind.wrap .i64 ((IntKind.wrap .i64 ((70 : Int) - 1)) + 0) = 69 := by decide
  refine cond_true' (by decide) ((apL_spec _ _ _ hY w).mono ?_)
  rintro v w1 ⟨rfl, S1⟩
  have T1 := T0.trans (S1.mono T0.size (by simp))
  rw [n0, r0]
  refine ⟨_, rfl, cond_false' (decide_eq_false (fle _)) ⟨by decide, ?_⟩⟩
  have i0 : IntKind.wrap .i64 ((0 : Int) + 1) = 1 := by decide
  rw [i0]
  refine numlaw_KeptRel.step1 _ _ _ _ _ _ _ _ ?_
  unfold numlaw_KeptRel.V1
  have n1 : IntKind.wrap .i64 ((IntKind.wrap .i64 ((70 : Int) - 1)) + 1) = 70 := by decide
  refine cond_true' (by decide) ((apL_spec _ _ _ hY w1).mono ?_)
  rintro v w2 ⟨rfl, S2⟩
  have T2 := T1.trans (S2.mono T1.size (by simp))
  rw [n1, r1]
  refine ⟨_, rfl, cond_false' (decide_eq_false (fle _)) ⟨by decide, ?_⟩⟩
  have i1 : IntKind.wrap .i64 ((1 : Int) + 1) = 2 := by decide
  rw [i1]
  refine numlaw_KeptRel.step1 _ _ _ _ _ _ _ _ ?_
  unfold numlaw_KeptRel.V1
  have n2 : IntKind.wrap .i64 ((IntKind.wrap .i64 ((70 : Int) - 1)) + 2) = 71 := by decide
  refine cond_true' (by decide) ((apL_spec _ _ _ hY w2).mono ?_)
  rintro v w3 ⟨rfl, S3⟩
  have T3 := T2.trans (S3.mono T2.size (by simp))
  rw [n2, r2]
  refine ⟨_, rfl, cond_false' (decide_eq_false (fle _)) ⟨by decide, ?_⟩⟩
  have i2 : IntKind.wrap .i64 ((2 : Int) + 1) = 3 := by decide
  rw [i2]
  refine numlaw_KeptRel.step1 _ _ _ _ _ _ _ _ ?_
  unfold numlaw_KeptRel.V1
  have n3 : IntKind.wrap .i64 ((IntKind.wrap .i64 ((70 : Int) - 1)) + 3) = 72 := by decide
  refine cond_true' (by decide) ((apL_spec _ _ _ hY w3).mono ?_)
  rintro v w4 ⟨rfl, S4⟩
  have T4 := T3.trans (S4.mono T3.size (by simp))
  rw [n3, r3]
  refine ⟨_, rfl, cond_false' (decide_eq_false (fle _)) ⟨by decide, ?_⟩⟩
  have i3 : IntKind.wrap .i64 ((3 : Int) + 1) = 4 := by decide
  rw [i3]
  refine numlaw_KeptRel.step1 _ _ _ _ _ _ _ _ ?_
  unfold numlaw_KeptRel.V1
  have n4 : IntKind.wrap .i64 ((IntKind.wrap .i64 ((70 : Int) - 1)) + 4) = 73 := by decide
  refine cond_true' (by decide) ((apL_spec _ _ _ hY w4).mono ?_)
  rintro v w5 ⟨rfl, S5⟩
  have T5 := T4.trans (S5.mono T4.size (by simp))
  rw [n4, r4]
  refine ⟨_, rfl, cond_false' (decide_eq_false (fle _)) ⟨by decide, ?_⟩⟩
  have i4 : IntKind.wrap .i64 ((4 : Int) + 1) = 5 := by decide
  rw [i4]
  refine numlaw_KeptRel.step1 _ _ _ _ _ _ _ _ ?_
  unfold numlaw_KeptRel.V1
  have n5 : IntKind.wrap .i64 ((IntKind.wrap .i64 ((70 : Int) - 1)) + 5) = 74 := by decide
  refine cond_true' (by decide) ((apL_spec _ _ _ hY w5).mono ?_)
  rintro v w6 ⟨rfl, S6⟩
  have T6 := T5.trans (S6.mono T5.size (by simp))
  rw [n5, r5]
  refine ⟨_, rfl, cond_false' (decide_eq_false (fle _)) ⟨by decide, ?_⟩⟩
  have i5 : IntKind.wrap .i64 ((5 : Int) + 1) = 6 := by decide
  rw [i5]
  refine numlaw_KeptRel.step1 _ _ _ _ _ _ _ _ ?_
  unfold numlaw_KeptRel.V1
  have n6 : IntKind.wrap .i64 ((IntKind.wrap .i64 ((70 : Int) - 1)) + 6) = 75 := by decide
  refine cond_true' (by decide) ((apL_spec _ _ _ hY w6).mono ?_)
  rintro v w7 ⟨rfl, S7⟩
  have T7 := T6.trans (S7.mono T6.size (by simp))
  rw [n6, r6]
  refine ⟨_, rfl, cond_false' (decide_eq_false (fle _)) ⟨by decide, ?_⟩⟩
  have i6 : IntKind.wrap .i64 ((6 : Int) + 1) = 7 := by decide
  rw [i6]
  refine numlaw_KeptRel.step1 _ _ _ _ _ _ _ _ ?_
  unfold numlaw_KeptRel.V1
  have n7 : IntKind.wrap .i64 ((IntKind.wrap .i64 ((70 : Int) - 1)) + 7) = 76 := by decide
  refine cond_true' (by decide) ((apL_spec _ _ _ hY w7).mono ?_)
  rintro v w8 ⟨rfl, S8⟩
  have T8 := T7.trans (S8.mono T7.size (by simp))
  rw [n7, r7]
  refine ⟨_, rfl, cond_false' (decide_eq_false (fle _)) ⟨by decide, ?_⟩⟩
  have i7 : IntKind.wrap .i64 ((7 : Int) + 1) = 8 := by decide
  rw [i7]
  refine numlaw_KeptRel.step1 _ _ _ _ _ _ _ _ ?_
  unfold numlaw_KeptRel.V1
  have n8 : IntKind.wrap .i64 ((IntKind.wrap .i64 ((70 : Int) - 1)) + 8) = 77 := by decide
  refine cond_true' (by decide) ((apL_spec _ _ _ hY w8).mono ?_)
  rintro v w9 ⟨rfl, S9⟩
  have T9 := T8.trans (S9.mono T8.size (by simp))
  rw [n8, r8]
  refine ⟨_, rfl, cond_false' (decide_eq_false (fle _)) ⟨by decide, ?_⟩⟩
  have i8 : IntKind.wrap .i64 ((8 : Int) + 1) = 9 := by decide
  rw [i8]
  refine numlaw_KeptRel.step1 _ _ _ _ _ _ _ _ ?_
  unfold numlaw_KeptRel.V1
  have n9 : IntKind.wrap .i64 ((IntKind.wrap .i64 ((70 : Int) - 1)) + 9) = 78 := by decide
  refine cond_true' (by decide) ((apL_spec _ _ _ hY w9).mono ?_)
  rintro v w10 ⟨rfl, S10⟩
  have T10 := T9.trans (S10.mono T9.size (by simp))
  rw [n9, r9]
  refine ⟨_, rfl, cond_false' (decide_eq_false (fle _)) ⟨by decide, ?_⟩⟩
  have i9 : IntKind.wrap .i64 ((9 : Int) + 1) = 10 := by decide
  rw [i9]
  refine numlaw_KeptRel.step1 _ _ _ _ _ _ _ _ ?_
  unfold numlaw_KeptRel.V1
  have n10 : IntKind.wrap .i64 ((IntKind.wrap .i64 ((70 : Int) - 1)) + 10) = 79 := by decide
  refine cond_true' (by decide) ((apL_spec _ _ _ hY w10).mono ?_)
  rintro v w11 ⟨rfl, S11⟩
  have T11 := T10.trans (S11.mono T10.size (by simp))
  rw [n10, r10]
  refine ⟨_, rfl, cond_false' (decide_eq_false (fle _)) ⟨by decide, ?_⟩⟩
  have i10 : IntKind.wrap .i64 ((10 : Int) + 1) = 11 := by decide
  rw [i10]
  refine numlaw_KeptRel.step1 _ _ _ _ _ _ _ _ ?_
  unfold numlaw_KeptRel.V1
  refine cond_false' (by decide) ?_
  have et : IntKind.wrap .u64 ((Int.fdiv 4294967295 (2 ^ (1 : Nat))) + (1 : Int)) = 2147483648 := by decide
  rw [et, b2]
  clear n0 n1 n2 n3 n4 n5 n6 n7 n8 n9 n10 i0 i1 i2 i3 i4 i5 i6 i7 i8 i9 i10 et r0 r1 r2 r3 r4 r5 r6 r7 r8 r9 r10 S1 S2 S3 S4 S5 S6 S7 S8 S9 S10 S11 T1 T2 T3 T4 T5 T6 T7 T8 T9 T10
  have fin : ∀ got want : Int, got = want → numlaw_KeptRel.L7 got want (fun v w' => v = .bool true ∧ Same [] w.heap.size w w') w11 := fun got want h => by
    refine numlaw_KeptRel.step7 _ _ _ _ ?_
    unfold numlaw_KeptRel.V7
    rw [h]
    exact ⟨by simp, T11⟩
  have l6 : ∀ got want : Int, got = cond gu (bOr .u64 (bOr .u64 want 64) 1024) want → numlaw_KeptRel.L6 x y got want (fun v w' => v = .bool true ∧ Same [] w.heap.size w w') w11 := fun got want h => by
    refine numlaw_KeptRel.step6 _ _ _ _ _ _ ?_
    unfold numlaw_KeptRel.V6
    rw [b4]
    cases gu <;> exact fin _ _ h
  have l5 : ∀ got want : Int, got = cond gu (bOr .u64 (bOr .u64 (cond lu (bOr .u64 (bOr .u64 want 16) 256) want) 64) 1024) (cond lu (bOr .u64 (bOr .u64 want 16) 256) want) → numlaw_KeptRel.L5 x y got want (fun v w' => v = .bool true ∧ Same [] w.heap.size w w') w11 := fun got want h => by
    refine numlaw_KeptRel.step5 _ _ _ _ _ _ ?_
    unfold numlaw_KeptRel.V5
    rw [b3]
    cases lu <;> exact l6 _ _ h
  have l4 : ∀ got want : Int, (∀ w', w' = cond gs (bOr .u64 (bOr .u64 want 32) 512) want → got = cond gu (bOr .u64 (bOr .u64 (cond lu (bOr .u64 (bOr .u64 w' 16) 256) w') 64) 1024) (cond lu (bOr .u64 (bOr .u64 w' 16) 256) w')) → numlaw_KeptRel.L4 x y got 2147483648 want (fun v w' => v = .bool true ∧ Same [] w.heap.size w w') w11 := fun got want h => by
    refine numlaw_KeptRel.step4 _ _ _ _ _ _ _ ?_
    unfold numlaw_KeptRel.V4
    rw [b6]
    cases gs <;> exact l5 _ _ (h _ rfl)
  have l3 : ∀ got want : Int, (∀ w1, w1 = cond ls (bOr .u64 (bOr .u64 want 8) 128) want → ∀ w', w' = cond gs (bOr .u64 (bOr .u64 w1 32) 512) w1 → got = cond gu (bOr .u64 (bOr .u64 (cond lu (bOr .u64 (bOr .u64 w' 16) 256) w') 64) 1024) (cond lu (bOr .u64 (bOr .u64 w' 16) 256) w')) → numlaw_KeptRel.L3 x y got 2147483648 want (fun v w' => v = .bool true ∧ Same [] w.heap.size w w') w11 := fun got want h => by
    refine numlaw_KeptRel.step3 _ _ _ _ _ _ _ ?_
    unfold numlaw_KeptRel.V3
    rw [b5]
    cases ls <;> exact l4 _ _ (h _ rfl)
  have l2 : ∀ got want : Int, (∀ w0, w0 = cond z (bOr .u64 want 1) want → ∀ w1, w1 = cond ls (bOr .u64 (bOr .u64 w0 8) 128) w0 → ∀ w', w' = cond gs (bOr .u64 (bOr .u64 w1 32) 512) w1 → got = cond gu (bOr .u64 (bOr .u64 (cond lu (bOr .u64 (bOr .u64 w' 16) 256) w') 64) 1024) (cond lu (bOr .u64 (bOr .u64 w' 16) 256) w')) → numlaw_KeptRel.L2 x y got 2147483648 want (fun v w' => v = .bool true ∧ Same [] w.heap.size w w') w11 := fun got want h => by
    refine numlaw_KeptRel.step2 _ _ _ _ _ _ _ ?_
    unfold numlaw_KeptRel.V2
    rw [b1]
    cases z <;> exact l3 _ _ (h _ rfl)
  clear b1 b2 b3 b4 b5 b6
  cases e with
  | true =>
    obtain ⟨rfl, rfl, rfl, rfl⟩ := c1 rfl
    refine l2 _ _ ?_
    rintro w0 rfl w1 rfl w' rfl
    cases z <;> decide +kernel
  | false =>
    obtain ⟨rfl, rfl⟩ := c2 rfl
    refine l2 _ _ ?_
    rintro w0 rfl w1 rfl w' rfl
    cases z <;> cases gs <;> cases gu <;> decide +kernel

/-! ### 64 bits -/
theorem cnt64 (y : Nat) (hy : y < 18446744073709551616) : bAnd .u64 (y : Int) 63 = ((y % 64 : Nat) : Int) := and63 y hy
theorem wadd64 (x y : Nat) (hx : x < 18446744073709551616) (hy : y < 18446744073709551616) : (ap 124 x y).1 = (((x + y) % 18446744073709551616 : Nat) : Int) := by
  rw [ap64 124 x y (by decide) (by decide)]
  show IntKind.wrap .u64 ((x : Int) + (y : Int)) = _
  rw [wrap_u64_mod]; omega
theorem wmul64 (x y : Nat) (hx : x < 18446744073709551616) (hy : y < 18446744073709551616) : (ap 126 x y).1 = ((x * y % 18446744073709551616 : Nat) : Int) := by
  rw [ap64 126 x y (by decide) (by decide)]
  show IntKind.wrap .u64 ((x : Int) * (y : Int)) = _
  rw [wrap_u64_mod, ← Int.natCast_mul]
  generalize x * y = z
  omega
theorem wand64 (x y : Nat) (hx : x < 18446744073709551616) (hy : y < 18446744073709551616) : (ap 131 x y).1 = ((x &&& y : Nat) : Int) := by
  rw [ap64 131 x y (by decide) (by decide)]
  exact bAnd64_n x y hx hy
theorem wor64 (x y : Nat) (hx : x < 18446744073709551616) (hy : y < 18446744073709551616) : (ap 132 x y).1 = ((x ||| y : Nat) : Int) := by
  rw [ap64 132 x y (by decide) (by decide)]
  exact bOr64_n x y hx hy
theorem wxor64 (x y : Nat) (hx : x < 18446744073709551616) (hy : y < 18446744073709551616) : (ap 133 x y).1 = ((x ^^^ y : Nat) : Int) := by
  rw [ap64 133 x y (by decide) (by decide)]
  exact bXor_n .u64 rfl x y hx hy
theorem wshl64 (x y : Nat) (hx : x < 18446744073709551616) (hy : y < 18446744073709551616) : (ap 134 x y).1 = ((x * 2 ^ (y % 64) % 18446744073709551616 : Nat) : Int) := by
  rw [ap64 134 x y (by decide) (by decide)]
  show IntKind.wrap .u64 ((x : Int) * 2 ^ (min (Int.toNat (bAnd .u64 (y : Int) 63)) (IntKind.bits .u64))) = _
  rw [cnt64 y hy, Int.toNat_natCast]
  exact shl64_n x (y % 64) (by omega)
theorem wshu64 (x y : Nat) (hx : x < 18446744073709551616) (hy : y < 18446744073709551616) : (ap 136 x y).1 = ((x / 2 ^ (y % 64) : Nat) : Int) := by
  rw [ap64 136 x y (by decide) (by decide)]
  show Int.fdiv (x : Int) (2 ^ (min (Int.toNat (bAnd .u64 (y : Int) 63)) (IntKind.bits .u64))) = _
  rw [cnt64 y hy, Int.toNat_natCast]
  exact shr64_n x (y % 64) (by omega)
theorem wshs64 (x y : Nat) (hx : x < 18446744073709551616) (hy : y < 18446744073709551616) : (ap 135 x y).1 = ((if 9223372036854775808 ≤ x then 18446744073709551616 - 2 ^ (64 - y % 64) + x / 2 ^ (y % 64) else x / 2 ^ (y % 64) : Nat) : Int) := by
  have hc : y % 64 < 64 := by omega
  have hp : 2 ^ (64 - y % 64) ≤ 18446744073709551616 := Nat.le_trans (Nat.pow_le_pow_right (by omega) (by omega)) (Nat.le_of_eq (show 2 ^ 64 = 18446744073709551616 by decide))
  have hq : x / 2 ^ (y % 64) < 2 ^ (64 - y % 64) := by
    rw [Nat.div_lt_iff_lt_mul (Nat.two_pow_pos _), ← Nat.pow_add]
    have : 64 - y % 64 + y % 64 = 64 := by omega
    rw [this]; exact hx
  rw [ap64 135 x y (by decide) (by decide)]
  show IntKind.wrap .u64 (Int.fdiv (IntKind.wrap .i64 (x : Int)) (2 ^ (min (Int.toNat (bAnd .u64 (y : Int) 63)) (IntKind.bits .i64)))) = _
  have hb : IntKind.bits .i64 = 64 := by decide
  rw [cnt64 y hy, Int.toNat_natCast, hb, Nat.min_eq_left (by omega), wrap_i64_sgn x (by omega) (by omega)]
  unfold sgn
  by_cases h : 9223372036854775808 ≤ x
  · rw [if_pos (by omega), if_pos h]
    have e : (x : Int) - 2 * 9223372036854775808 = (x : Int) - ((18446744073709551616 : Nat) : Int) := by omega
    rw [e, sar_nat x (y % 64) 64 18446744073709551616 9223372036854775808 (by decide) hc hx, wrap_u64_mod]
    generalize 2 ^ (64 - y % 64) = P at *
    generalize x / 2 ^ (y % 64) = Q at *
    omega
  · rw [if_neg (by omega), if_neg h, fdiv_n, wrap_u64_mod]
    have : x / 2 ^ (y % 64) ≤ x := Nat.div_le_self _ _
    generalize x / 2 ^ (y % 64) = Q at *
    omega
theorem wrol64 (x y : Nat) (hx : x < 18446744073709551616) (hy : y < 18446744073709551616) : (ap 137 x y).1 = ((rotl 64 18446744073709551616 (y % 64) x : Nat) : Int) := by
  rw [ap64 137 x y (by decide) (by decide), rotl64_F x y hx hy]

theorem KeptWord64_spec (x y : Nat) (hx : x < 18446744073709551616) (hy : y < 18446744073709551616) (w : World) :
    Runs Try.prog numlaw_KeptWord.id #[.int .u64 64, .int .i64 124, .int .u64 18446744073709551615, .int .u64 x, .int .u64 y] w fun v w' => v = .bool true ∧ Same [] w.heap.size w w' := by
  refine numlaw_KeptWord.enter _ _ _ _ _ _ _ ?_
  unfold numlaw_KeptWord.V
  have hX : U64 (x : Int) := u64_nat (by omega)
  have hY : U64 (y : Int) := u64_nat (by omega)
  have n2 : IntKind.wrap .i64 ((124 : Int) + 2) = 126 := by decide
  have n7 : IntKind.wrap .i64 ((124 : Int) + 7) = 131 := by decide
  have n8 : IntKind.wrap .i64 ((124 : Int) + 8) = 132 := by decide
  have n9 : IntKind.wrap .i64 ((124 : Int) + 9) = 133 := by decide
  have n10 : IntKind.wrap .i64 ((124 : Int) + 10) = 134 := by decide
  have n11 : IntKind.wrap .i64 ((124 : Int) + 11) = 135 := by decide
  have n12 : IntKind.wrap .i64 ((124 : Int) + 12) = 136 := by decide
  have n13 : IntKind.wrap .i64 ((124 : Int) + 13) = 137 := by decide
  have nm : IntKind.wrap .i64 ((124 : Int) - 1) = 123 := by decide
  rw [n2, n7, n8, n9]
  refine ⟨rfl, by decide, ?_⟩
  refine (apL_spec _ _ _ hY w).mono ?_
  rintro v w1 ⟨rfl, T1⟩
  refine ⟨_, rfl, (apL_spec _ _ _ hY w1).mono ?_⟩
  rintro v w2 ⟨rfl, S2⟩
  have T2 := T1.trans (S2.mono T1.size (by simp))
  refine ⟨_, rfl, (apL_spec _ _ _ hY w2).mono ?_⟩
  rintro v w3 ⟨rfl, S3⟩
  have T3 := T2.trans (S3.mono T2.size (by simp))
  refine ⟨_, rfl, (apL_spec _ _ _ hY w3).mono ?_⟩
  rintro v w4 ⟨rfl, S4⟩
  have T4 := T3.trans (S4.mono T3.size (by simp))
  refine ⟨_, rfl, (apL_spec _ _ _ hY w4).mono ?_⟩
  rintro v w5 ⟨rfl, S5⟩
  have T5 := T4.trans (S5.mono T4.size (by simp))
  refine ⟨_, rfl, ?_⟩
  rw [wadd64 x y hx hy, wmul64 x y hx hy, wand64 x y hx hy, wor64 x y hx hy, wxor64 x y hx hy]
  have k1 : bAnd .u64 (IntKind.wrap .u64 ((x : Int) + (y : Int))) 18446744073709551615 = (((x + y) % 18446744073709551616 : Nat) : Int) := by
    rw [andm64 _ (wrap_u64_rng _).1 (wrap_u64_rng _).2, wrap_u64_mod]; omega
  have k2 : bAnd .u64 (IntKind.wrap .u64 ((x : Int) * (y : Int))) 18446744073709551615 = ((x * y % 18446744073709551616 : Nat) : Int) := by
    rw [andm64 _ (wrap_u64_rng _).1 (wrap_u64_rng _).2, wrap_u64_mod, ← Int.natCast_mul]
    generalize x * y = z
    omega
  rw [k1, k2, bAnd64_n x y (by omega) (by omega), bOr64_n x y (by omega) (by omega), bXor64_n x y (by omega) (by omega)]
  clear k1 k2
  refine cond_false' (by simp) (cond_false' (by simp) (cond_false' (by simp) (cond_false' (by simp) (cond_false' (by simp) ?_))))
  have ec : Int.tmod (y : Int) 64 = ((y % 64 : Nat) : Int) := tmod_n y 64
  rw [ec]
  have hc : y % 64 < 64 := by omega
  have hsl := wshl64 x y hx hy
  have hss := wshs64 x y hx hy
  have hsu := wshu64 x y hx hy
  have hro := wrol64 x y hx hy
  generalize y % 64 = c at *
  refine numlaw_KeptWord.step1 _ _ _ _ _ _ _ _ ?_
  unfold numlaw_KeptWord.V1
  rw [n10, n11, n12, n13]
  refine (apL_spec _ _ _ hY w5).mono ?_
  rintro v w6 ⟨rfl, S6⟩
  have T6 := T5.trans (S6.mono T5.size (by simp))
  refine ⟨_, rfl, (apL_spec _ _ _ hY w6).mono ?_⟩
  rintro v w7 ⟨rfl, S7⟩
  have T7 := T6.trans (S7.mono T6.size (by simp))
  refine ⟨_, rfl, (apL_spec _ _ _ hY w7).mono ?_⟩
  rintro v w8 ⟨rfl, S8⟩
  have T8 := T7.trans (S8.mono T7.size (by simp))
  refine ⟨_, rfl, (apL_spec _ _ _ hY w8).mono ?_⟩
  rintro v w9 ⟨rfl, S9⟩
  have T9 := T8.trans (S9.mono T8.size (by simp))
  refine ⟨_, rfl, ?_⟩
  rw [hsl, hss, hsu, hro]
  have hp : 2 ^ (64 - c) ≤ 18446744073709551616 := Nat.le_trans (Nat.pow_le_pow_right (by omega) (by omega)) (Nat.le_of_eq (show 2 ^ 64 = 18446744073709551616 by decide))
  have hp0 := Nat.two_pow_pos (64 - c)
  have hq : x / 2 ^ c < 2 ^ (64 - c) := by
    rw [Nat.div_lt_iff_lt_mul (Nat.two_pow_pos _), ← Nat.pow_add]
    have : 64 - c + c = 64 := by omega
    rw [this]; exact hx
  have cntl : ∀ (f n : Nat) (w' : World), n + f = 64 → Same [] w.heap.size w w' → numlaw_KeptWord.L4 64 124 x ((ones n x : Nat) : Int) (n : Int) (fun v w' => v = .bool true ∧ Same [] w.heap.size w w') w' := by
    intro f
    induction f with
    | zero =>
      intro n w' hn T
      refine numlaw_KeptWord.step4 _ _ _ _ _ _ _ ?_
      unfold numlaw_KeptWord.V4
      rw [nm]
      refine cond_false' (decide_eq_false (by omega)) ((apL_spec _ _ _ u64_0 w').mono ?_)
      rintro v w2 ⟨rfl, S2⟩
      refine ⟨_, rfl, ?_, T.trans (S2.mono T.size (by simp))⟩
      have e : n = 64 := by omega
      rw [popf64 x hx, e]; simp
    | succ f ih =>
      intro n w' hn T
      refine numlaw_KeptWord.step4 _ _ _ _ _ _ _ ?_
      unfold numlaw_KeptWord.V4
      refine cond_true' (decide_eq_true (by omega)) ⟨by omega, ?_⟩
      have hlt : x / 2 ^ n < 18446744073709551616 := Nat.lt_of_le_of_lt (Nat.div_le_self _ _) (by omega)
      have hle := ones_le n x
      have e1 : IntKind.wrap .u64 (((ones n x : Nat) : Int) + (bAnd .u64 (Int.fdiv (x : Int) (2 ^ (min (Int.toNat (n : Int)) (IntKind.bits .u64)))) 1)) = ((ones (n + 1) x : Nat) : Int) := by
        rw [fdivk x n (by omega), and1 _ hlt, ones_add n 1 x]
        have e2 : ones 1 (x / 2 ^ n) = x / 2 ^ n % 2 := by simp [ones]
        rw [e2]
        generalize x / 2 ^ n = z at *
        generalize ones n x = o at *
        rw [wrap_u64 (by omega) (by omega)]; omega
      have e3 : IntKind.wrap .u64 ((n : Int) + 1) = ((n + 1 : Nat) : Int) := by rw [wrap_u64 (by omega) (by omega)]; omega
      rw [e1, e3]
      exact ih (n + 1) w' (by omega) T
  have L2 : ∀ fill : Nat, fill < 18446744073709551616 → (if 9223372036854775808 ≤ x then 18446744073709551616 - 2 ^ (64 - c) + x / 2 ^ c else x / 2 ^ c) = x / 2 ^ c ||| fill → numlaw_KeptWord.L2 64 124 18446744073709551615 x c ((x * 2 ^ c % 18446744073709551616 : Nat) : Int) (((if 9223372036854775808 ≤ x then 18446744073709551616 - 2 ^ (64 - c) + x / 2 ^ c else x / 2 ^ c : Nat) : Nat) : Int) ((x / 2 ^ c : Nat) : Int) ((rotl 64 18446744073709551616 c x : Nat) : Int) (fill : Int) (fun v w' => v = .bool true ∧ Same [] w.heap.size w w') w9 := by
    intro fill hf he
    refine numlaw_KeptWord.step2 _ _ _ _ _ _ _ _ _ _ _ _ ?_
    unfold numlaw_KeptWord.V2
    have hxc : x / 2 ^ c < 18446744073709551616 := Nat.lt_of_le_of_lt (Nat.div_le_self _ _) (by omega)
    have a1 : IntKind.wrap .u64 ((x : Int) * 2 ^ (min (Int.toNat (c : Int)) (IntKind.bits .u64))) = ((x * 2 ^ c % 18446744073709551616 : Nat) : Int) := by rw [Int.toNat_natCast]; exact shl64_n x c (by omega)
    have a2 : bAnd .u64 ((x * 2 ^ c % 18446744073709551616 : Nat) : Int) 18446744073709551615 = ((x * 2 ^ c % 18446744073709551616 : Nat) : Int) := by
      rw [andm64 _ (by omega) (by omega)]
      generalize x * 2 ^ c = z
      omega
    rw [a1, a2, fdivk x c (by omega), he, bOr64_n _ _ hxc hf]
    refine ⟨by omega, cond_false' (by simp) ⟨by omega, cond_false' (by simp) ⟨by omega, cond_false' (by simp) ⟨by omega, ?_, ?_⟩⟩⟩⟩
    · exact (wrap_u64_rng _).1
    · have a3 : IntKind.wrap .u64 ((64 : Int) - (c : Int)) = ((64 - c : Nat) : Int) := by
        have : (64 : Int) - (c : Int) = ((64 - c : Nat) : Int) := by omega
        rw [this, wrap64_n _ (by omega)]
      have hbits : IntKind.bits .u64 = 64 := by decide
      rw [a3, Int.toNat_natCast, hbits, Nat.min_eq_left (show 64 - c ≤ 64 by omega), fdiv_n]
      have hxd : x / 2 ^ (64 - c) < 18446744073709551616 := Nat.lt_of_le_of_lt (Nat.div_le_self _ _) (by omega)
      have a4 : bOr .u64 ((x * 2 ^ c % 18446744073709551616 : Nat) : Int) ((x / 2 ^ (64 - c) : Nat) : Int) = ((x * 2 ^ c % 18446744073709551616 ||| x / 2 ^ (64 - c) : Nat) : Int) := bOr64_n _ _ (Nat.mod_lt _ (by decide)) hxd
      rw [a4]
      have a5 : (x * 2 ^ c % 18446744073709551616 ||| x / 2 ^ (64 - c)) < 18446744073709551616 := Nat.or_lt_two_pow (n := 64) (Nat.mod_lt _ (by decide)) hxd
      have a6 : bAnd .u64 ((x * 2 ^ c % 18446744073709551616 ||| x / 2 ^ (64 - c) : Nat) : Int) 18446744073709551615 = ((rotl 64 18446744073709551616 c x : Nat) : Int) := by
        rw [andm64 _ (Int.natCast_nonneg _) (Int.ofNat_lt.2 a5)]
        have e1 : (x * 2 ^ c % 18446744073709551616 ||| x / 2 ^ (64 - c)) % 18446744073709551616 = rotl 64 18446744073709551616 c x := by
          have e2 : (18446744073709551616 : Nat) = 2 ^ 64 := by decide
          rw [e2, Nat.or_mod_two_pow, ← e2]
          unfold rotl
          have e3 : x * 2 ^ c % 18446744073709551616 % 18446744073709551616 = x * 2 ^ c % 18446744073709551616 := by
            generalize x * 2 ^ c = z
            omega
          have e4 : x / 2 ^ (64 - c) % 18446744073709551616 = x / 2 ^ (64 - c) := Nat.mod_eq_of_lt (Nat.lt_of_le_of_lt (Nat.div_le_self _ _) hx)
          rw [e3, e4]
          rcases Nat.eq_zero_or_pos c with h0 | h0
          · subst h0
            have e5 : x / 2 ^ (64 - 0) = 0 := Nat.div_eq_of_lt (Nat.lt_of_lt_of_le hx (Nat.le_of_eq (by decide)))
            have e6 : (64 - 0) % 64 = 0 := by decide
            rw [e5, e6, Nat.pow_zero, Nat.mul_one, Nat.div_one, Nat.mod_eq_of_lt hx, Nat.or_zero, Nat.or_self]
          · have e6 : (64 - c) % 64 = 64 - c := Nat.mod_eq_of_lt (by omega)
            rw [e6]
        rw [← e1]; exact (Int.natCast_emod _ _).symm
      rw [a6]
      refine cond_false' (by simp) ?_
      refine numlaw_KeptWord.step3 _ _ _ _ _ ?_
      unfold numlaw_KeptWord.V3
      exact cntl 64 0 w9 (by omega) T9
  have em : Int.fdiv 18446744073709551615 (2 ^ (1 : Nat)) = 9223372036854775807 := by decide
  rw [em]
  refine cond_dec (fun h => ⟨by omega, ?_⟩) (fun h => ?_)
  · have hH : 9223372036854775808 ≤ x := by omega
    have e1 : Int.fdiv 18446744073709551615 (2 ^ (min (Int.toNat (c : Int)) (IntKind.bits .u64))) = ((2 ^ (64 - c) - 1 : Nat) : Int) := by
      have := fdivk 18446744073709551615 c (by omega)
      have e0 : ((18446744073709551615 : Nat) : Int) = 18446744073709551615 := rfl
      rw [e0] at this
      rw [this]
      congr 1
      have e2 : (18446744073709551615 : Nat) = 2 ^ (64 - c) * 2 ^ c - 1 := by
        rw [← Nat.pow_add]
        have : 64 - c + c = 64 := by omega
        rw [this]
      have hp2 := Nat.two_pow_pos c
      rw [e2, Nat.div_eq_iff (by omega)]
      have e3 : (2 ^ (64 - c) - 1) * 2 ^ c = 2 ^ (64 - c) * 2 ^ c - 2 ^ c := by rw [Nat.sub_mul, Nat.one_mul]
      have e4 : 1 * 2 ^ c ≤ 2 ^ (64 - c) * 2 ^ c := Nat.mul_le_mul_right _ hp0
      rw [e3]
      generalize 2 ^ (64 - c) * 2 ^ c = A at *
      generalize 2 ^ c = B at *
      omega
    have e2 : bAndNot .u64 18446744073709551615 ((2 ^ (64 - c) - 1 : Nat) : Int) = ((18446744073709551616 - 2 ^ (64 - c) : Nat) : Int) := by
      unfold bAndNot
      have q1 : (BitVec.ofInt (IntKind.bits .u64) 18446744073709551615).toNat = 18446744073709551615 := by decide +kernel
      have q2 : (BitVec.ofInt (IntKind.bits .u64) ((2 ^ (64 - c) - 1 : Nat) : Int)).toNat = 2 ^ (64 - c) - 1 := ofInt_nat _ 64 (by
        have : (2 : Nat) ^ 64 = 18446744073709551616 := by decide
        omega)
      have q3 : (~~~(BitVec.ofInt (IntKind.bits .u64) ((2 ^ (64 - c) - 1 : Nat) : Int))).toNat = 18446744073709551615 - (2 ^ (64 - c) - 1) := by
        rw [BitVec.toNat_not, q2]; rfl
      rw [BitVec.toNat_and, q1, q3]
      have q4 : (18446744073709551615 : Nat) &&& (18446744073709551615 - (2 ^ (64 - c) - 1)) = 18446744073709551616 - 2 ^ (64 - c) := by
        rw [Nat.and_comm]
        have e5 : (18446744073709551615 : Nat) = 2 ^ 64 - 1 := by decide
        rw [e5, Nat.and_two_pow_sub_one_eq_mod]
        have e6 : (2 : Nat) ^ 64 = 18446744073709551616 := by decide
        rw [e6]
        generalize 2 ^ (64 - c) = P at *
        omega
      rw [q4, wrap64_n _ (by omega)]
    rw [e1, e2]
    refine L2 _ (by omega) ?_
    rw [if_pos hH, fill_or _ (64 - c) 64 18446744073709551616 (by decide) (by omega) hq]
  · have := L2 0 (by omega) (by rw [if_neg (by omega), Nat.or_zero])
    exact this

theorem rel64_bits (x y : Nat) (hx : x < 18446744073709551616) (hy : y < 18446744073709551616) : ∃ z e ls gs lu gu : Bool, ((x : Int) == 0) = z ∧ ((x : Int) == (y : Int)) = e ∧ decide ((x : Int) < (y : Int)) = lu ∧ decide ((x : Int) > (y : Int)) = gu ∧
    decide (bXor .u64 (x : Int) 9223372036854775808 < bXor .u64 (y : Int) 9223372036854775808) = ls ∧ decide (bXor .u64 (x : Int) 9223372036854775808 > bXor .u64 (y : Int) 9223372036854775808) = gs ∧
    (e = true → ls = false ∧ gs = false ∧ lu = false ∧ gu = false) ∧ (e = false → ls = !gs ∧ lu = !gu) ∧
    (ap 80 x y).1 = num_flag.F z ∧ (ap 81 x y).1 = num_flag.F e ∧ (ap 82 x y).1 = num_flag.F (!e) ∧ (ap 83 x y).1 = num_flag.F ls ∧ (ap 84 x y).1 = num_flag.F lu ∧ (ap 85 x y).1 = num_flag.F gs ∧ (ap 86 x y).1 = num_flag.F gu ∧ (ap 87 x y).1 = num_flag.F (!gs) ∧ (ap 88 x y).1 = num_flag.F (!gu) ∧ (ap 89 x y).1 = num_flag.F (!ls) ∧ (ap 90 x y).1 = num_flag.F (!lu) := by
  have xt : ∀ v : Nat, v < 18446744073709551616 → bXor .u64 (v : Int) 9223372036854775808 = (((v + 9223372036854775808) % 18446744073709551616 : Nat) : Int) := fun v hv => by
    have e : bXor .u64 (v : Int) 9223372036854775808 = ((v ^^^ 9223372036854775808 : Nat) : Int) := bXor64_n v 9223372036854775808 (by omega) (by decide)
    rw [e]
    refine congrArg (fun n : Nat => (n : Int)) ?_
    have e1 : v ^^^ 9223372036854775808 = (v % 9223372036854775808 ^^^ 0) + 9223372036854775808 * (v / 9223372036854775808 ^^^ 1) := by
      have h := Nat.xor_mod_two_pow (a := v) (b := 9223372036854775808) (n := 63)
      have h2 := Nat.xor_div_two_pow (a := v) (b := 9223372036854775808) (n := 63)
      have p : (2 : Nat) ^ 63 = 9223372036854775808 := by decide
      have p1 : (9223372036854775808 : Nat) % 2 ^ 63 = 0 := by decide
      have p2 : (9223372036854775808 : Nat) / 2 ^ 63 = 1 := by decide
      rw [p1, p] at h
      rw [p2, p] at h2
      have hd := Nat.div_add_mod (v ^^^ 9223372036854775808) 9223372036854775808
      rw [h, h2] at hd
      omega
    rw [e1, Nat.xor_zero]
    have hc : v / 9223372036854775808 = 0 ∨ v / 9223372036854775808 = 1 := by omega
    rcases hc with hc | hc
    · rw [hc, show (0 : Nat) ^^^ 1 = 1 by decide]; omega
    · rw [hc, show (1 : Nat) ^^^ 1 = 0 by decide]; omega
  have sg : ∀ v : Nat, v < 18446744073709551616 → IntKind.wrap .i64 (v : Int) = (((v + 9223372036854775808) % 18446744073709551616 : Nat) : Int) - 9223372036854775808 := fun v hv => by
    rw [wrap_i64_sgn v (by omega) (by omega)]; unfold sgn; split <;> omega
  have wx := sg x hx
  have wy := sg y hy
  refine ⟨_, _, _, _, _, _, rfl, rfl, rfl, rfl, rfl, rfl, ?_, ?_, ?_⟩
  · intro h
    have h' := eq_of_beq h
    rw [xt x hx, xt y hy]
    refine ⟨decide_eq_false (by omega), decide_eq_false (by omega), decide_eq_false (by omega), decide_eq_false (by omega)⟩
  · intro h
    have h' := beq_eq_false_iff_ne.1 h
    rw [xt x hx, xt y hy]
    constructor
    · rw [Bool.eq_iff_iff, decide_eq_true_iff, Bool.not_eq_true', decide_eq_false_iff_not]; omega
    · rw [Bool.eq_iff_iff, decide_eq_true_iff, Bool.not_eq_true', decide_eq_false_iff_not]; omega
  · rw [xt x hx, xt y hy]
    have gen : ∀ op : Int, 80 ≤ op → op ≤ 90 → (ap op x y).1 = num_flag.F (num_rel64.F op x y) := fun op h0 h1 => by
      rw [ap_rel64 op x y h0 h1]
    refine ⟨?_, ?_, ?_, ?_, ?_, ?_, ?_, ?_, ?_, ?_, ?_⟩
    · rw [gen 80 (by decide) (by decide)]
      rfl
    · rw [gen 81 (by decide) (by decide)]
      rfl
    · rw [gen 82 (by decide) (by decide)]
      rfl
    · rw [gen 83 (by decide) (by decide)]
      show num_flag.F (decide (IntKind.wrap .i64 (x : Int) < IntKind.wrap .i64 (y : Int))) = _
      rw [wx, wy]
      refine congrArg num_flag.F ?_
      rw [Bool.eq_iff_iff, decide_eq_true_iff, decide_eq_true_iff]; omega
    · rw [gen 84 (by decide) (by decide)]
      rfl
    · rw [gen 85 (by decide) (by decide)]
      show num_flag.F (decide (IntKind.wrap .i64 (x : Int) > IntKind.wrap .i64 (y : Int))) = _
      rw [wx, wy]
      refine congrArg num_flag.F ?_
      rw [Bool.eq_iff_iff, decide_eq_true_iff, decide_eq_true_iff]; omega
    · rw [gen 86 (by decide) (by decide)]
      rfl
    · rw [gen 87 (by decide) (by decide)]
      show num_flag.F (decide (IntKind.wrap .i64 (x : Int) ≤ IntKind.wrap .i64 (y : Int))) = _
      rw [wx, wy]
      refine congrArg num_flag.F ?_
      rw [Bool.eq_iff_iff, decide_eq_true_iff, Bool.not_eq_true', decide_eq_false_iff_not]; omega
    · rw [gen 88 (by decide) (by decide)]
      show num_flag.F (decide ((x : Int) ≤ (y : Int))) = _
      refine congrArg num_flag.F ?_
      rw [Bool.eq_iff_iff, decide_eq_true_iff, Bool.not_eq_true', decide_eq_false_iff_not]; omega
    · rw [gen 89 (by decide) (by decide)]
      show num_flag.F (decide (IntKind.wrap .i64 (x : Int) ≥ IntKind.wrap .i64 (y : Int))) = _
      rw [wx, wy]
      refine congrArg num_flag.F ?_
      rw [Bool.eq_iff_iff, decide_eq_true_iff, Bool.not_eq_true', decide_eq_false_iff_not]; omega
    · rw [gen 90 (by decide) (by decide)]
      show num_flag.F (decide ((x : Int) ≥ (y : Int))) = _
      refine congrArg num_flag.F ?_
      rw [Bool.eq_iff_iff, decide_eq_true_iff, Bool.not_eq_true', decide_eq_false_iff_not]; omega

theorem KeptRel64_spec (x y : Nat) (hx : x < 18446744073709551616) (hy : y < 18446744073709551616) (w : World) :
    Runs Try.prog numlaw_KeptRel.id #[.int .i64 81, .int .u64 18446744073709551615, .int .u64 x, .int .u64 y] w fun v w' => v = .bool true ∧ Same [] w.heap.size w w' := by
  refine numlaw_KeptRel.enter _ _ _ _ _ _ ?_
  unfold numlaw_KeptRel.V
  have hY : U64 (y : Int) := u64_nat (by omega)
  obtain ⟨z, e, ls, gs, lu, gu, b1, b2, b3, b4, b5, b6, c1, c2, r0, r1, r2, r3, r4, r5, r6, r7, r8, r9, r10⟩ := rel64_bits x y hx hy
  have T0 : Same [] w.heap.size w w := Same.refl _ _ _
  have fle : ∀ c : Bool, ¬ (num_flag.F c > 1) := by decide
  refine numlaw_KeptRel.step1 _ _ _ _ _ _ _ _ ?_
  unfold numlaw_KeptRel.V1
  have n0 : IntKind.wrap .i64 ((IntKind.wrap .i64 ((81 : Int) - 1)) + 0) = 80 := by decide
  refine cond_true' (by decide) ((apL_spec _ _ _ hY w).mono ?_)
  rintro v w1 ⟨rfl, S1⟩
  have T1 := T0.trans (S1.mono T0.size (by simp))
  rw [n0, r0]
  refine ⟨_, rfl, cond_false' (decide_eq_false (fle _)) ⟨by decide, ?_⟩⟩
  have i0 : IntKind.wrap .i64 ((0 : Int) + 1) = 1 := by decide
  rw [i0]
  refine numlaw_KeptRel.step1 _ _ _ _ _ _ _ _ ?_
  unfold numlaw_KeptRel.V1
  have n1 : IntKind.wrap .i64 ((IntKind.wrap .i64 ((81 : Int) - 1)) + 1) = 81 := by decide
  refine cond_true' (by decide) ((apL_spec _ _ _ hY w1).mono ?_)
  rintro v w2 ⟨rfl, S2⟩
  have T2 := T1.trans (S2.mono T1.size (by simp))
  rw [n1, r1]
  refine ⟨_, rfl, cond_false' (decide_eq_false (fle _)) ⟨by decide, ?_⟩⟩
  have i1 : IntKind.wrap .i64 ((1 : Int) + 1) = 2 := by decide
  rw [i1]
  refine numlaw_KeptRel.step1 _ _ _ _ _ _ _ _ ?_
  unfold numlaw_KeptRel.V1
  have n2 : IntKind.wrap .i64 ((IntKind.wrap .i64 ((81 : Int) - 1)) + 2) = 82 := by decide
  refine cond_true' (by decide) ((apL_spec _ _ _ hY w2).mono ?_)
  rintro v w3 ⟨rfl, S3⟩
  have T3 := T2.trans (S3.mono T2.size (by simp))
  rw [n2, r2]
  refine ⟨_, rfl, cond_false' (decide_eq_false (fle _)) ⟨by decide, ?_⟩⟩
  have i2 : IntKind.wrap .i64 ((2 : Int) + 1) = 3 := by decide
  rw [i2]
  refine numlaw_KeptRel.step1 _ _ _ _ _ _ _ _ ?_
  unfold numlaw_KeptRel.V1
  have n3 : IntKind.wrap .i64 ((IntKind.wrap .i64 ((81 : Int) - 1)) + 3) = 83 := by decide
  refine cond_true' (by decide) ((apL_spec _ _ _ hY w3).mono ?_)
  rintro v w4 ⟨rfl, S4⟩
  have T4 := T3.trans (S4.mono T3.size (by simp))
  rw [n3, r3]
  refine ⟨_, rfl, cond_false' (decide_eq_false (fle _)) ⟨by decide, ?_⟩⟩
  have i3 : IntKind.wrap .i64 ((3 : Int) + 1) = 4 := by decide
  rw [i3]
  refine numlaw_KeptRel.step1 _ _ _ _ _ _ _ _ ?_
  unfold numlaw_KeptRel.V1
  have n4 : IntKind.wrap .i64 ((IntKind.wrap .i64 ((81 : Int) - 1)) + 4) = 84 := by decide
  refine cond_true' (by decide) ((apL_spec _ _ _ hY w4).mono ?_)
  rintro v w5 ⟨rfl, S5⟩
  have T5 := T4.trans (S5.mono T4.size (by simp))
  rw [n4, r4]
  refine ⟨_, rfl, cond_false' (decide_eq_false (fle _)) ⟨by decide, ?_⟩⟩
  have i4 : IntKind.wrap .i64 ((4 : Int) + 1) = 5 := by decide
  rw [i4]
  refine numlaw_KeptRel.step1 _ _ _ _ _ _ _ _ ?_
  unfold numlaw_KeptRel.V1
  have n5 : IntKind.wrap .i64 ((IntKind.wrap .i64 ((81 : Int) - 1)) + 5) = 85 := by decide
  refine cond_true' (by decide) ((apL_spec _ _ _ hY w5).mono ?_)
  rintro v w6 ⟨rfl, S6⟩
  have T6 := T5.trans (S6.mono T5.size (by simp))
  rw [n5, r5]
  refine ⟨_, rfl, cond_false' (decide_eq_false (fle _)) ⟨by decide, ?_⟩⟩
  have i5 : IntKind.wrap .i64 ((5 : Int) + 1) = 6 := by decide
  rw [i5]
  refine numlaw_KeptRel.step1 _ _ _ _ _ _ _ _ ?_
  unfold numlaw_KeptRel.V1
  have n6 : IntKind.wrap .i64 ((IntKind.wrap .i64 ((81 : Int) - 1)) + 6) = 86 := by decide
  refine cond_true' (by decide) ((apL_spec _ _ _ hY w6).mono ?_)
  rintro v w7 ⟨rfl, S7⟩
  have T7 := T6.trans (S7.mono T6.size (by simp))
  rw [n6, r6]
  refine ⟨_, rfl, cond_false' (decide_eq_false (fle _)) ⟨by decide, ?_⟩⟩
  have i6 : IntKind.wrap .i64 ((6 : Int) + 1) = 7 := by decide
  rw [i6]
  refine numlaw_KeptRel.step1 _ _ _ _ _ _ _ _ ?_
  unfold numlaw_KeptRel.V1
  have n7 : IntKind.wrap .i64 ((IntKind.wrap .i64 ((81 : Int) - 1)) + 7) = 87 := by decide
  refine cond_true' (by decide) ((apL_spec _ _ _ hY w7).mono ?_)
  rintro v w8 ⟨rfl, S8⟩
  have T8 := T7.trans (S8.mono T7.size (by simp))
  rw [n7, r7]
  refine ⟨_, rfl, cond_false' (decide_eq_false (fle _)) ⟨by decide, ?_⟩⟩
  have i7 : IntKind.wrap .i64 ((7 : Int) + 1) = 8 := by decide
  rw [i7]
  refine numlaw_KeptRel.step1 _ _ _ _ _ _ _ _ ?_
  unfold numlaw_KeptRel.V1
  have n8 : IntKind.wrap .i64 ((IntKind.wrap .i64 ((81 : Int) - 1)) + 8) = 88 := by decide
  refine cond_true' (by decide) ((apL_spec _ _ _ hY w8).mono ?_)
  rintro v w9 ⟨rfl, S9⟩
  have T9 := T8.trans (S9.mono T8.size (by simp))
  rw [n8, r8]
  refine ⟨_, rfl, cond_false' (decide_eq_false (fle _)) ⟨by decide, ?_⟩⟩
  have i8 : IntKind.wrap .i64 ((8 : Int) + 1) = 9 := by decide
  rw [i8]
  refine numlaw_KeptRel.step1 _ _ _ _ _ _ _ _ ?_
  unfold numlaw_KeptRel.V1
  have n9 : IntKind.wrap .i64 ((IntKind.wrap .i64 ((81 : Int) - 1)) + 9) = 89 := by decide
  refine cond_true' (by decide) ((apL_spec _ _ _ hY w9).mono ?_)
  rintro v w10 ⟨rfl, S10⟩
  have T10 := T9.trans (S10.mono T9.size (by simp))
  rw [n9, r9]
  refine ⟨_, rfl, cond_false' (decide_eq_false (fle _)) ⟨by decide, ?_⟩⟩
  have i9 : IntKind.wrap .i64 ((9 : Int) + 1) = 10 := by decide
  rw [i9]
  refine numlaw_KeptRel.step1 _ _ _ _ _ _ _ _ ?_
  unfold numlaw_KeptRel.V1
  have n10 : IntKind.wrap .i64 ((IntKind.wrap .i64 ((81 : Int) - 1)) + 10) = 90 := by decide
  refine cond_true' (by decide) ((apL_spec _ _ _ hY w10).mono ?_)
  rintro v w11 ⟨rfl, S11⟩
  have T11 := T10.trans (S11.mono T10.size (by simp))
  rw [n10, r10]
  refine ⟨_, rfl, cond_false' (decide_eq_false (fle _)) ⟨by decide, ?_⟩⟩
  have i10 : IntKind.wrap .i64 ((10 : Int) + 1) = 11 := by decide
  rw [i10]
  refine numlaw_KeptRel.step1 _ _ _ _ _ _ _ _ ?_
  unfold numlaw_KeptRel.V1
  refine cond_false' (by decide) ?_
  have et : IntKind.wrap .u64 ((Int.fdiv 18446744073709551615 (2 ^ (1 : Nat))) + (1 : Int)) = 9223372036854775808 := by decide
  rw [et, b2]
  clear n0 n1 n2 n3 n4 n5 n6 n7 n8 n9 n10 i0 i1 i2 i3 i4 i5 i6 i7 i8 i9 i10 et r0 r1 r2 r3 r4 r5 r6 r7 r8 r9 r10 S1 S2 S3 S4 S5 S6 S7 S8 S9 S10 S11 T1 T2 T3 T4 T5 T6 T7 T8 T9 T10
  have fin : ∀ got want : Int, got = want → numlaw_KeptRel.L7 got want (fun v w' => v = .bool true ∧ Same [] w.heap.size w w') w11 := fun got want h => by
    refine numlaw_KeptRel.step7 _ _ _ _ ?_
    unfold numlaw_KeptRel.V7
    rw [h]
    exact ⟨by simp, T11⟩
  have l6 : ∀ got want : Int, got = cond gu (bOr .u64 (bOr .u64 want 64) 1024) want → numlaw_KeptRel.L6 x y got want (fun v w' => v = .bool true ∧ Same [] w.heap.size w w') w11 := fun got want h => by
    refine numlaw_KeptRel.step6 _ _ _ _ _ _ ?_
    unfold numlaw_KeptRel.V6
    rw [b4]
    cases gu <;> exact fin _ _ h
  have l5 : ∀ got want : Int, got = cond gu (bOr .u64 (bOr .u64 (cond lu (bOr .u64 (bOr .u64 want 16) 256) want) 64) 1024) (cond lu (bOr .u64 (bOr .u64 want 16) 256) want) → numlaw_KeptRel.L5 x y got want (fun v w' => v = .bool true ∧ Same [] w.heap.size w w') w11 := fun got want h => by
    refine numlaw_KeptRel.step5 _ _ _ _ _ _ ?_
    unfold numlaw_KeptRel.V5
    rw [b3]
    cases lu <;> exact l6 _ _ h
  have l4 : ∀ got want : Int, (∀ w', w' = cond gs (bOr .u64 (bOr .u64 want 32) 512) want → got = cond gu (bOr .u64 (bOr .u64 (cond lu (bOr .u64 (bOr .u64 w' 16) 256) w') 64) 1024) (cond lu (bOr .u64 (bOr .u64 w' 16) 256) w')) → numlaw_KeptRel.L4 x y got 9223372036854775808 want (fun v w' => v = .bool true ∧ Same [] w.heap.size w w') w11 := fun got want h => by
    refine numlaw_KeptRel.step4 _ _ _ _ _ _ _ ?_
    unfold numlaw_KeptRel.V4
    rw [b6]
    cases gs <;> exact l5 _ _ (h _ rfl)
  have l3 : ∀ got want : Int, (∀ w1, w1 = cond ls (bOr .u64 (bOr .u64 want 8) 128) want → ∀ w', w' = cond gs (bOr .u64 (bOr .u64 w1 32) 512) w1 → got = cond gu (bOr .u64 (bOr .u64 (cond lu (bOr .u64 (bOr .u64 w' 16) 256) w') 64) 1024) (cond lu (bOr .u64 (bOr .u64 w' 16) 256) w')) → numlaw_KeptRel.L3 x y got 9223372036854775808 want (fun v w' => v = .bool true ∧ Same [] w.heap.size w w') w11 := fun got want h => by
    refine numlaw_KeptRel.step3 _ _ _ _ _ _ _ ?_
    unfold numlaw_KeptRel.V3
    rw [b5]
    cases ls <;> exact l4 _ _ (h _ rfl)
  have l2 : ∀ got want : Int, (∀ w0, w0 = cond z (bOr .u64 want 1) want → ∀ w1, w1 = cond ls (bOr .u64 (bOr .u64 w0 8) 128) w0 → ∀ w', w' = cond gs (bOr .u64 (bOr .u64 w1 32) 512) w1 → got = cond gu (bOr .u64 (bOr .u64 (cond lu (bOr .u64 (bOr .u64 w' 16) 256) w') 64) 1024) (cond lu (bOr .u64 (bOr .u64 w' 16) 256) w')) → numlaw_KeptRel.L2 x y got 9223372036854775808 want (fun v w' => v = .bool true ∧ Same [] w.heap.size w w') w11 := fun got want h => by
    refine numlaw_KeptRel.step2 _ _ _ _ _ _ _ ?_
    unfold numlaw_KeptRel.V2
    rw [b1]
    cases z <;> exact l3 _ _ (h _ rfl)
  clear b1 b2 b3 b4 b5 b6
  cases e with
  | true =>
    obtain ⟨rfl, rfl, rfl, rfl⟩ := c1 rfl
    refine l2 _ _ ?_
    rintro w0 rfl w1 rfl w' rfl
    cases z <;> decide +kernel
  | false =>
    obtain ⟨rfl, rfl⟩ := c2 rfl
    refine l2 _ _ ?_
    rintro w0 rfl w1 rfl w' rfl
    cases z <;> cases gs <;> cases gu <;> decide +kernel

theorem KeptWiden_spec (a : Int) (ha : U64 a) (w : World) : Runs Try.prog numlaw_KeptWiden.id #[.int .u64 a] w fun v w' => v = .bool true ∧ Same [] w.heap.size w w' := by
  refine numlaw_KeptWiden.enter _ _ _ ?_
  unfold numlaw_KeptWiden.V
  rw [andnot_high a ha]
  have ha' := ha
  unfold U64 at ha'
  refine (apL_spec _ _ _ u64_0 w).mono ?_
  rintro v w1 ⟨rfl, T1⟩
  refine ⟨_, rfl, (apL_spec _ _ _ u64_0 w1).mono ?_⟩
  rintro v w2 ⟨rfl, S2⟩
  have T2 := T1.trans (S2.mono T1.size (by simp))
  refine ⟨_, rfl, (apL_spec _ _ _ u64_0 w2).mono ?_⟩
  rintro v w3 ⟨rfl, S3⟩
  have T3 := T2.trans (S3.mono T2.size (by simp))
  refine ⟨_, rfl, ?_⟩
  have w3264 : W3264 a = a % 4294967296 := by unfold W3264; rw [wrap_u32_mod, wrap_u64 (by omega) (by omega)]
  have e167 : (ap 167 a 0).1 = a % 4294967296 := by rw [ap_conv 167 a 0 (by decide) (by decide)]; exact w3264
  have e173 : (ap 173 a 0).1 = a % 4294967296 := by rw [ap_conv 173 a 0 (by decide) (by decide)]; exact w3264
  have e172 : (ap 172 a 0).1 = if 2147483648 ≤ a % 4294967296 then a % 4294967296 + 18446744069414584320 else a % 4294967296 := by
    rw [ap_conv 172 a 0 (by decide) (by decide)]
    show IntKind.wrap .u64 (IntKind.wrap .i64 (IntKind.wrap .i32 (IntKind.wrap .u32 a))) = _
    rw [wrap_u32_mod, wrap_i32_sgn _ (by omega) (by omega)]
    unfold sgn
    split
    · rw [wrap_i64 (by omega) (by omega), wrap_u64_mod]; omega
    · rw [wrap_i64 (by omega) (by omega), wrap_u64_mod]; omega
  rw [e167, e172, e173]
  have l2 : numlaw_KeptWiden.L2 a (a % 4294967296) (fun v w' => v = .bool true ∧ Same [] w.heap.size w w') w3 := by
    refine numlaw_KeptWiden.step2 _ _ _ _ ?_
    unfold numlaw_KeptWiden.V2
    refine (apL_spec _ _ _ u64_0 w3).mono ?_
    rintro v w4 ⟨rfl, S4⟩
    have T4 := T3.trans (S4.mono T3.size (by simp))
    refine ⟨_, rfl, (apL_spec _ _ _ u64_0 w4).mono ?_⟩
    rintro v w5 ⟨rfl, S5⟩
    have T5 := T4.trans (S5.mono T4.size (by simp))
    refine ⟨_, rfl, (apL_spec _ _ _ u64_0 w5).mono ?_⟩
    rintro v w6 ⟨rfl, S6⟩
    have T6 := T5.trans (S6.mono T5.size (by simp))
    refine ⟨_, rfl, (apL_spec _ _ _ u64_0 w6).mono ?_⟩
    rintro v w7 ⟨rfl, S7⟩
    have T7 := T6.trans (S7.mono T6.size (by simp))
    refine ⟨_, rfl, ?_⟩
    have e188 : (ap 188 a 0).1 = a % 4294967296 := by rw [ap_conv 188 a 0 (by decide) (by decide)]; exact w3264
    have e190 : (ap 190 a 0).1 = a % 4294967296 := by rw [ap_conv 190 a 0 (by decide) (by decide)]; exact w3264
    have e189 : (ap 189 a 0).1 = a := by rw [ap_conv 189 a 0 (by decide) (by decide)]; rfl
    have e191 : (ap 191 a 0).1 = a := by rw [ap_conv 191 a 0 (by decide) (by decide)]; rfl
    rw [e188, e190, e189, e191]
    exact cond_true' (by simp) (cond_true' (by simp) (cond_true' (by simp) ⟨by simp, T7⟩))
  clear e167 e172 e173 w3264
  obtain ⟨n, hn⟩ : ∃ n : Nat, a % 4294967296 = (n : Int) := ⟨(a % 4294967296).toNat, by omega⟩
  have hn1 : n < 4294967296 := by omega
  rw [hn] at l2 ⊢
  rw [fdiv_n]
  refine cond_intro (fun h => ?_) (fun h => ?_)
  · have h' : 2147483648 ≤ n := by have := eq_of_beq h; omega
    rw [if_pos (by omega)]
    refine numlaw_KeptWiden.step1 _ _ _ _ _ _ _ _ ?_
    unfold numlaw_KeptWiden.V1
    refine cond_false' (by simp) (cond_false' (by simp) (cond_false' ?_ l2))
    have e : bOr .u64 (n : Int) 18446744069414584320 = ((n ||| 18446744069414584320 : Nat) : Int) := bOr64_n n 18446744069414584320 (by omega) (by decide)
    have e2 : n ||| 18446744069414584320 = 18446744069414584320 + n := by
      have := or_add 4294967295 n 32 hn1
      have p : 4294967295 * (2 : Nat) ^ 32 = 18446744069414584320 := by decide
      rw [p] at this
      rw [Nat.or_comm]; exact this
    rw [e, e2, bne_eq_false_iff_eq]; omega
  · have h' : ¬ 2147483648 ≤ n := by have := beq_eq_false_iff_ne.1 h; omega
    rw [if_neg (by omega)]
    refine numlaw_KeptWiden.step1 _ _ _ _ _ _ _ _ ?_
    unfold numlaw_KeptWiden.V1
    refine cond_false' (by simp) (cond_false' (by simp) (cond_false' ?_ l2))
    have e : bOr .u64 (n : Int) 0 = ((n ||| 0 : Nat) : Int) := bOr64_n n 0 (by omega) (by decide)
    rw [e, Nat.or_zero]; simp

end Go.Proofs.Qxb6500320a
