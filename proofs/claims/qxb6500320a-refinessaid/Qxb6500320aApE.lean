/-
  KeptDiv.
-/
import Derived.Test.Qxb6500320aApD
set_option linter.unusedSimpArgs false
set_option linter.unusedVariables false
set_option maxRecDepth 100000
namespace Go.Proofs.Qxb6500320a
open Go Go.Vc

theorem andm32 (z : Int) (h0 : 0 ≤ z) (h1 : z < 18446744073709551616) : bAnd .u64 z 4294967295 = z % 4294967296 := by
  obtain ⟨n, rfl⟩ : ∃ n : Nat, z = (n : Int) := ⟨z.toNat, by omega⟩
  have e : bAnd .u64 (n : Int) 4294967295 = ((n &&& 4294967295 : Nat) : Int) := bAnd64_n n 4294967295 (by omega) (by decide)
  rw [e]
  have e2 : n &&& 4294967295 = n % 2 ^ 32 := Nat.and_two_pow_sub_one_eq_mod n 32
  rw [e2]; omega

theorem mag32 (v : Int) (h0 : 0 ≤ v) (h1 : v < 4294967296) : numlaw_Mag.F 4294967295 v = ((sgn 2147483648 v).natAbs : Int) := by
  have hm := mag_sgn 2147483648 v (by decide) h0 (by omega)
  rw [← hm]
  unfold numlaw_Mag.F
  have e : Int.fdiv 4294967295 (2 ^ (1 : Nat)) = 2147483647 := by decide
  rw [e]
  by_cases hv : v > 2147483647
  · rw [decide_eq_true hv, if_pos (by omega), cond_true]
    have e1 : IntKind.wrap .u64 (4294967295 - v) = 4294967295 - v := wrap_u64 (by omega) (by omega)
    have e2 : IntKind.wrap .u64 (4294967295 - v + 1) = 4294967295 - v + 1 := wrap_u64 (by omega) (by omega)
    rw [e1, e2, andm32 _ (by omega) (by omega)]
    omega
  · rw [decide_eq_false hv, if_neg (by omega), cond_false]

theorem KeptDiv32_spec (x y : Nat) (hx : x < 4294967296) (hy : y < 4294967296) (w : World) :
    Runs Try.prog numlaw_KeptDiv.id #[.int .i64 106, .int .u64 4294967295, .int .u64 x, .int .u64 y] w fun v w' => v = .bool true ∧ Same [] w.heap.size w w' := by
  refine numlaw_KeptDiv.enter _ _ _ _ _ _ ?_
  unfold numlaw_KeptDiv.V
  have n3 : IntKind.wrap .i64 ((106 : Int) + 3) = 109 := by decide
  have n4 : IntKind.wrap .i64 ((106 : Int) + 4) = 110 := by decide
  have n5 : IntKind.wrap .i64 ((106 : Int) + 5) = 111 := by decide
  have n6 : IntKind.wrap .i64 ((106 : Int) + 6) = 112 := by decide
  rw [n3, n4, n5, n6]
  refine (Apply_spec _ _ _ (by omega) (by omega) w).mono ?_
  rintro v w1 ⟨rfl, hS1⟩
  refine ⟨_, _, rfl, ?_⟩
  refine (Apply_spec _ _ _ (by omega) (by omega) w1).mono ?_
  rintro v w2 ⟨rfl, hS2⟩
  refine ⟨_, _, rfl, ?_⟩
  have hT2 := hS1.trans (hS2.mono hS1.size (by simp))
  refine (Apply_spec _ _ _ (by omega) (by omega) w2).mono ?_
  rintro v w3 ⟨rfl, hS3⟩
  refine ⟨_, _, rfl, ?_⟩
  have hT3 := hT2.trans (hS3.mono hT2.size (by simp))
  refine (Apply_spec _ _ _ (by omega) (by omega) w3).mono ?_
  rintro v w4 ⟨rfl, hS4⟩
  refine ⟨_, _, rfl, ?_⟩
  have hT4 := hT3.trans (hS4.mono hT3.size (by simp))
  clear hS1 hS2 hS3 hS4 hT2 hT3
  by_cases hy0 : y = 0
  · subst hy0
    obtain ⟨d1, d2, d3, d4⟩ := divz32 x hx
    have ez : ((0 : Nat) : Int) = 0 := rfl
    rw [ez, d1, d2, d3, d4]
    exact cond_true' rfl (cond_true' rfl (cond_true' rfl (cond_true' rfl ⟨rfl, hT4⟩)))
  · obtain ⟨u1, u2⟩ := divu32 x y hx hy hy0
    obtain ⟨s1, s2, s3⟩ := divs32 x y hx hy hy0
    rw [u1, u2, s1]
    have hle : x / y * y ≤ x := Nat.div_mul_le_self x y
    have hid : x / y * y + x % y = x := by rw [Nat.mul_comm]; exact Nat.div_add_mod x y
    have hlt : x % y < y := Nat.mod_lt x (by omega)
    refine cond_false' (by rw [beq_eq_false_iff_ne]; omega) ?_
    refine cond_false' rfl (cond_false' rfl (cond_false' rfl (cond_false' ?_ (cond_false' (decide_eq_false ?_) ?_))))
    · have e1 : ((x / y : Nat) : Int) * (y : Int) = ((x / y * y : Nat) : Int) := by rw [Int.natCast_mul]
      rw [e1, wrap64_n _ (by omega), ← Int.natCast_add, hid, wrap64_n _ (by omega), andm32 _ (by omega) (by omega)]
      rw [Int.emod_eq_of_lt (by omega) (by omega)]; simp
    · generalize x % y = r at hlt
      omega
    have hso := signed_ok 2147483648 x y (by decide) (by omega) (by omega) (by omega) (by omega)
    have hrs0 : 0 ≤ Int.tmod (sgn 2147483648 x) (sgn 2147483648 y) % 4294967296 := Int.emod_nonneg _ (by decide)
    have hrs1 : Int.tmod (sgn 2147483648 x) (sgn 2147483648 y) % 4294967296 < 4294967296 := Int.emod_lt_of_pos _ (by decide)
    have eh : (2 : Int) * 2147483648 = 4294967296 := by decide
    rw [eh] at hso
    refine numlaw_KeptDiv.step1 _ _ _ _ _ _ _ _ ?_
    unfold numlaw_KeptDiv.V1
    have eH : IntKind.wrap .u64 ((Int.fdiv 4294967295 (2 ^ (1 : Nat))) + (1 : Int)) = 2147483648 := by decide
    rw [eH]
    have plain : ¬ (x = 2147483648 ∧ y = 4294967295) → numlaw_KeptDiv.L2 4294967295 x y (ap 109 x y).1 (ap 109 x y).2 (Int.tmod (sgn 2147483648 x) (sgn 2147483648 y) % 4294967296) false (fun v w' => v = .bool true ∧ Same [] w.heap.size w w') w4 := by
      intro hn
      rw [s2 hn]
      refine numlaw_KeptDiv.step2 _ _ _ _ _ _ _ _ _ ?_
      unfold numlaw_KeptDiv.V2
      refine cond_false' rfl ?_
      refine (numlaw_Mag.pure _ _ w4).mono ?_
      rintro v w5 ⟨rfl, rfl⟩
      refine ⟨_, rfl, (numlaw_Mag.pure _ _ w5).mono ?_⟩
      rintro v w6 ⟨rfl, rfl⟩
      refine ⟨_, rfl, ?_⟩
      rw [mag32 _ hrs0 hrs1, mag32 y (by omega) (by omega)]
      obtain ⟨o1, o2, o3⟩ := hso
      have hqs0 : 0 ≤ Int.tdiv (sgn 2147483648 x) (sgn 2147483648 y) % 4294967296 := Int.emod_nonneg _ (by decide)
      refine cond_false' rfl (cond_false' ?_ (cond_false' (decide_eq_false (by omega)) ?_))
      · generalize Int.tdiv (sgn 2147483648 x) (sgn 2147483648 y) % 4294967296 = Q at *
        generalize Int.tmod (sgn 2147483648 x) (sgn 2147483648 y) % 4294967296 = R at *
        rw [wrap_u64_mod, wrap_u64_mod, andm32 _ (Int.emod_nonneg _ (by decide)) (Int.emod_lt_of_pos _ (by decide))]
        have : (Q * (y : Int) % 18446744073709551616 + R) % 18446744073709551616 % 4294967296 = (Q * y + R) % 4294967296 := by
          generalize Q * (y : Int) = Z
          omega
        rw [this, o1]; simp
      · refine numlaw_KeptDiv.step3 _ _ _ _ _ ?_
        unfold numlaw_KeptDiv.V3
        have eh1 : Int.fdiv 4294967295 (2 ^ (1 : Nat)) = 2147483647 := by decide
        rw [eh1]
        refine cond_intro (fun _ => ⟨rfl, hT4⟩) (fun hne => ?_)
        refine ⟨?_, hT4⟩
        have hne' := (beq_eq_false_iff_ne.1 hne)
        rcases o3 with o3 | o3
        · exact absurd o3 hne'
        · generalize Int.tmod (sgn 2147483648 x) (sgn 2147483648 y) % 4294967296 = R at *
          have : (decide (R > 2147483647)) = (decide ((x : Int) > 2147483647)) := by
            rw [Bool.eq_iff_iff, decide_eq_true_iff, decide_eq_true_iff]
            omega
          rw [this]; simp
    refine cond_intro (fun hxe => ?_) (fun hxe => plain (fun h => ?_))
    · have hxe' : x = 2147483648 := by have := eq_of_beq hxe; omega
      by_cases hye : y = 4294967295
      · have e : ((y : Int) == 4294967295) = true := by rw [beq_iff_eq]; omega
        rw [e, s3 ⟨hxe', hye⟩]
        refine numlaw_KeptDiv.step2 _ _ _ _ _ _ _ _ _ ?_
        unfold numlaw_KeptDiv.V2
        refine cond_true' rfl (cond_true' rfl ⟨?_, hT4⟩)
        have hz : Int.tmod (sgn 2147483648 x) (sgn 2147483648 y) % 4294967296 = 0 := by rw [hxe', hye]; decide +kernel
        show Value.bool ((Int.tmod (sgn 2147483648 x) (sgn 2147483648 y) % 4294967296) == 0) = .bool true
        rw [hz]; rfl
      · have e : ((y : Int) == 4294967295) = false := by rw [beq_eq_false_iff_ne]; omega
        rw [e]
        exact plain (fun h => hye h.2)
    · have := beq_eq_false_iff_ne.1 hxe
      omega

theorem andm64 (z : Int) (h0 : 0 ≤ z) (h1 : z < 18446744073709551616) : bAnd .u64 z 18446744073709551615 = z % 18446744073709551616 := by
  obtain ⟨n, rfl⟩ : ∃ n : Nat, z = (n : Int) := ⟨z.toNat, by omega⟩
  have e : bAnd .u64 (n : Int) 18446744073709551615 = ((n &&& 18446744073709551615 : Nat) : Int) := bAnd64_n n 18446744073709551615 (by omega) (by decide)
  rw [e]
  have e2 : n &&& 18446744073709551615 = n % 2 ^ 64 := Nat.and_two_pow_sub_one_eq_mod n 64
  rw [e2]; omega

theorem mag64 (v : Int) (h0 : 0 ≤ v) (h1 : v < 18446744073709551616) : numlaw_Mag.F 18446744073709551615 v = ((sgn 9223372036854775808 v).natAbs : Int) := by
  have hm := mag_sgn 9223372036854775808 v (by decide) h0 (by omega)
  rw [← hm]
  unfold numlaw_Mag.F
  have e : Int.fdiv 18446744073709551615 (2 ^ (1 : Nat)) = 9223372036854775807 := by decide
  rw [e]
  by_cases hv : v > 9223372036854775807
  · rw [decide_eq_true hv, if_pos (by omega), cond_true]
    have e1 : IntKind.wrap .u64 (18446744073709551615 - v) = 18446744073709551615 - v := wrap_u64 (by omega) (by omega)
    have e2 : IntKind.wrap .u64 (18446744073709551615 - v + 1) = 18446744073709551615 - v + 1 := wrap_u64 (by omega) (by omega)
    rw [e1, e2, andm64 _ (by omega) (by omega)]
    omega
  · rw [decide_eq_false hv, if_neg (by omega), cond_false]

theorem KeptDiv64_spec (x y : Nat) (hx : x < 18446744073709551616) (hy : y < 18446744073709551616) (w : World) :
    Runs Try.prog numlaw_KeptDiv.id #[.int .i64 124, .int .u64 18446744073709551615, .int .u64 x, .int .u64 y] w fun v w' => v = .bool true ∧ Same [] w.heap.size w w' := by
  refine numlaw_KeptDiv.enter _ _ _ _ _ _ ?_
  unfold numlaw_KeptDiv.V
  have n3 : IntKind.wrap .i64 ((124 : Int) + 3) = 127 := by decide
  have n4 : IntKind.wrap .i64 ((124 : Int) + 4) = 128 := by decide
  have n5 : IntKind.wrap .i64 ((124 : Int) + 5) = 129 := by decide
  have n6 : IntKind.wrap .i64 ((124 : Int) + 6) = 130 := by decide
  rw [n3, n4, n5, n6]
  refine (Apply_spec _ _ _ (by omega) (by omega) w).mono ?_
  rintro v w1 ⟨rfl, hS1⟩
  refine ⟨_, _, rfl, ?_⟩
  refine (Apply_spec _ _ _ (by omega) (by omega) w1).mono ?_
  rintro v w2 ⟨rfl, hS2⟩
  refine ⟨_, _, rfl, ?_⟩
  have hT2 := hS1.trans (hS2.mono hS1.size (by simp))
  refine (Apply_spec _ _ _ (by omega) (by omega) w2).mono ?_
  rintro v w3 ⟨rfl, hS3⟩
  refine ⟨_, _, rfl, ?_⟩
  have hT3 := hT2.trans (hS3.mono hT2.size (by simp))
  refine (Apply_spec _ _ _ (by omega) (by omega) w3).mono ?_
  rintro v w4 ⟨rfl, hS4⟩
  refine ⟨_, _, rfl, ?_⟩
  have hT4 := hT3.trans (hS4.mono hT3.size (by simp))
  clear hS1 hS2 hS3 hS4 hT2 hT3
  by_cases hy0 : y = 0
  · subst hy0
    obtain ⟨d1, d2, d3, d4⟩ := divz64 x hx
    have ez : ((0 : Nat) : Int) = 0 := rfl
    rw [ez, d1, d2, d3, d4]
    exact cond_true' rfl (cond_true' rfl (cond_true' rfl (cond_true' rfl ⟨rfl, hT4⟩)))
  · obtain ⟨u1, u2⟩ := divu64 x y hx hy hy0
    obtain ⟨s1, s2, s3⟩ := divs64 x y hx hy hy0
    rw [u1, u2, s1]
    have hle : x / y * y ≤ x := Nat.div_mul_le_self x y
    have hid : x / y * y + x % y = x := by rw [Nat.mul_comm]; exact Nat.div_add_mod x y
    have hlt : x % y < y := Nat.mod_lt x (by omega)
    refine cond_false' (by rw [beq_eq_false_iff_ne]; omega) ?_
    refine cond_false' rfl (cond_false' rfl (cond_false' rfl (cond_false' ?_ (cond_false' (decide_eq_false ?_) ?_))))
    · have e1 : ((x / y : Nat) : Int) * (y : Int) = ((x / y * y : Nat) : Int) := by rw [Int.natCast_mul]
      rw [e1, wrap64_n _ (by omega), ← Int.natCast_add, hid, wrap64_n _ (by omega), andm64 _ (by omega) (by omega)]
      rw [Int.emod_eq_of_lt (by omega) (by omega)]; simp
    · generalize x % y = r at hlt
      omega
    have hso := signed_ok 9223372036854775808 x y (by decide) (by omega) (by omega) (by omega) (by omega)
    have hrs0 : 0 ≤ Int.tmod (sgn 9223372036854775808 x) (sgn 9223372036854775808 y) % 18446744073709551616 := Int.emod_nonneg _ (by decide)
    have hrs1 : Int.tmod (sgn 9223372036854775808 x) (sgn 9223372036854775808 y) % 18446744073709551616 < 18446744073709551616 := Int.emod_lt_of_pos _ (by decide)
    have eh : (2 : Int) * 9223372036854775808 = 18446744073709551616 := by decide
    rw [eh] at hso
    refine numlaw_KeptDiv.step1 _ _ _ _ _ _ _ _ ?_
    unfold numlaw_KeptDiv.V1
    have eH : IntKind.wrap .u64 ((Int.fdiv 18446744073709551615 (2 ^ (1 : Nat))) + (1 : Int)) = 9223372036854775808 := by decide
    rw [eH]
    have plain : ¬ (x = 9223372036854775808 ∧ y = 18446744073709551615) → numlaw_KeptDiv.L2 18446744073709551615 x y (ap 127 x y).1 (ap 127 x y).2 (Int.tmod (sgn 9223372036854775808 x) (sgn 9223372036854775808 y) % 18446744073709551616) false (fun v w' => v = .bool true ∧ Same [] w.heap.size w w') w4 := by
      intro hn
      rw [s2 hn]
      refine numlaw_KeptDiv.step2 _ _ _ _ _ _ _ _ _ ?_
      unfold numlaw_KeptDiv.V2
      refine cond_false' rfl ?_
      refine (numlaw_Mag.pure _ _ w4).mono ?_
      rintro v w5 ⟨rfl, rfl⟩
      refine ⟨_, rfl, (numlaw_Mag.pure _ _ w5).mono ?_⟩
      rintro v w6 ⟨rfl, rfl⟩
      refine ⟨_, rfl, ?_⟩
      rw [mag64 _ hrs0 hrs1, mag64 y (by omega) (by omega)]
      obtain ⟨o1, o2, o3⟩ := hso
      have hqs0 : 0 ≤ Int.tdiv (sgn 9223372036854775808 x) (sgn 9223372036854775808 y) % 18446744073709551616 := Int.emod_nonneg _ (by decide)
      refine cond_false' rfl (cond_false' ?_ (cond_false' (decide_eq_false (by omega)) ?_))
      · generalize Int.tdiv (sgn 9223372036854775808 x) (sgn 9223372036854775808 y) % 18446744073709551616 = Q at *
        generalize Int.tmod (sgn 9223372036854775808 x) (sgn 9223372036854775808 y) % 18446744073709551616 = R at *
        rw [wrap_u64_mod, wrap_u64_mod, andm64 _ (Int.emod_nonneg _ (by decide)) (Int.emod_lt_of_pos _ (by decide))]
        have : (Q * (y : Int) % 18446744073709551616 + R) % 18446744073709551616 % 18446744073709551616 = (Q * y + R) % 18446744073709551616 := by
          generalize Q * (y : Int) = Z
          omega
        rw [this, o1]; simp
      · refine numlaw_KeptDiv.step3 _ _ _ _ _ ?_
        unfold numlaw_KeptDiv.V3
        have eh1 : Int.fdiv 18446744073709551615 (2 ^ (1 : Nat)) = 9223372036854775807 := by decide
        rw [eh1]
        refine cond_intro (fun _ => ⟨rfl, hT4⟩) (fun hne => ?_)
        refine ⟨?_, hT4⟩
        have hne' := (beq_eq_false_iff_ne.1 hne)
        rcases o3 with o3 | o3
        · exact absurd o3 hne'
        · generalize Int.tmod (sgn 9223372036854775808 x) (sgn 9223372036854775808 y) % 18446744073709551616 = R at *
          have : (decide (R > 9223372036854775807)) = (decide ((x : Int) > 9223372036854775807)) := by
            rw [Bool.eq_iff_iff, decide_eq_true_iff, decide_eq_true_iff]
            omega
          rw [this]; simp
    refine cond_intro (fun hxe => ?_) (fun hxe => plain (fun h => ?_))
    · have hxe' : x = 9223372036854775808 := by have := eq_of_beq hxe; omega
      by_cases hye : y = 18446744073709551615
      · have e : ((y : Int) == 18446744073709551615) = true := by rw [beq_iff_eq]; omega
        rw [e, s3 ⟨hxe', hye⟩]
        refine numlaw_KeptDiv.step2 _ _ _ _ _ _ _ _ _ ?_
        unfold numlaw_KeptDiv.V2
        refine cond_true' rfl (cond_true' rfl ⟨?_, hT4⟩)
        have hz : Int.tmod (sgn 9223372036854775808 x) (sgn 9223372036854775808 y) % 18446744073709551616 = 0 := by rw [hxe', hye]; decide +kernel
        show Value.bool ((Int.tmod (sgn 9223372036854775808 x) (sgn 9223372036854775808 y) % 18446744073709551616) == 0) = .bool true
        rw [hz]; rfl
      · have e : ((y : Int) == 18446744073709551615) = false := by rw [beq_eq_false_iff_ne]; omega
        rw [e]
        exact plain (fun h => hye h.2)
    · have := beq_eq_false_iff_ne.1 hxe
      omega

end Go.Proofs.Qxb6500320a
