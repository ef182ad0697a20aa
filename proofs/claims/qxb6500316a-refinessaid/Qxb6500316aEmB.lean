/-
  The model writes signed numbers.
-/
import Derived.Test.Qxb6500316aEmA
set_option linter.unusedSimpArgs false
set_option linter.unusedVariables false
set_option maxRecDepth 100000
set_option linter.unusedSectionVars false
namespace Go.Proofs.Qxb6500316a
open Go Go.Vc

theorem shr_neg (x : Int) (h : -9223372036854775808 ≤ x) (hn : x < 0) : ((x % 18446744073709551616) / 128 + 18302628885633695744) % 18446744073709551616 = (x / 128) % 18446744073709551616 := by
  have e : x % 18446744073709551616 = x + 18446744073709551616 := by omega
  rw [e]
  have e2 : (x + 18446744073709551616) / 128 = x / 128 + 144115188075855872 := by omega
  rw [e2]
  omega
theorem shr_pos (x : Int) (h : x < 9223372036854775808) (hn : 0 ≤ x) : ((x % 18446744073709551616) / 128) % 18446744073709551616 = (x / 128) % 18446744073709551616 := by
  have e : x % 18446744073709551616 = x := by omega
  rw [e]
theorem low7 (x : Int) : (x % 18446744073709551616) % 128 = x % 128 := by omega
theorem ones_iff (x : Int) (h1 : -9223372036854775808 ≤ x) (h2 : x < 9223372036854775808) : x % 18446744073709551616 = 18446744073709551615 ↔ x = -1 := by omega
theorem zero_iff (x : Int) (h1 : -9223372036854775808 ≤ x) (h2 : x < 9223372036854775808) : x % 18446744073709551616 = 0 ↔ x = 0 := by omega

theorem sleb_mloop {R Q : Value → World → Prop} {w0 : World} {z : List Int} {neg : Bool} (hR : ∀ w', Same [] w0.heap.size w0 w' → R (.string (strOfNums z)) w') :
    ∀ (k i : Nat) (x : Int) (l : List Int) (w : World), i + k = 10 → -9223372036854775808 ≤ x → x < 9223372036854775808 → (neg = true ↔ x < 0) → l.length + k ≤ 10000 → l ++ slebF k x = z → Same [] w0.heap.size w0 w → binm_sleb.L3 (x % 18446744073709551616) neg (strOfNums l) (i : Int) R Q w
  | 0, i, x, l, w, hi, h1, h2, hn, hl, hz, S => by
    refine binm_sleb.step3 _ _ _ _ _ _ _ ?_
    unfold binm_sleb.V3
    have hz : l ++ [] = z := hz
    rw [List.append_nil] at hz
    rw [hz]
    exact cond_false' (decide_eq_false (by omega)) (hR w S)
  | k + 1, i, x, l, w, hi, h1, h2, hn, hl, hz, S => by
    refine binm_sleb.step3 _ _ _ _ _ _ _ ?_
    unfold binm_sleb.V3
    refine cond_true' (decide_eq_true (by omega)) ?_
    rw [slebF_succ, and127, fdiv128] at hz
    have n0 : 0 ≤ x % 18446744073709551616 := by omega
    rw [tmod_nn n0, tdiv_nn n0, low7]
    have hb0 : 0 ≤ x % 128 := by omega
    have hb1 : x % 128 < 128 := by omega
    have L5 : ∀ t, t = decide ((x / 128 = 0 ∧ x % 128 < 64) ∨ (x / 128 = -1 ∧ 64 ≤ x % 128)) → binm_sleb.L5 (x / 128 % 18446744073709551616) neg (strOfNums l) (i : Int) (x % 128) t R Q w := fun t ht => by
      refine binm_sleb.step5 _ _ _ _ _ _ _ _ _ ?_
      unfold binm_sleb.V5
      refine cond_intro (fun e1 => ?_) (fun e1 => ?_)
      · have e1 := of_decide_eq_true (ht ▸ e1)
        rw [if_pos e1] at hz
        rw [wrap_u8 hb0 (by omega)]
        refine letB_intro fun b hb => letW_intro fun w2 hw => ?_
        obtain ⟨hc, S2⟩ := run_one _ w hb hw
        refine ⟨_, w2, hc, cat_size _ _ (by simp; omega), ?_⟩
        rw [one_cat, hz]
        exact hR w2 (Same.nx S S2)
      · have e1 := of_decide_eq_false (ht ▸ e1)
        rw [if_neg e1, or128b _ hb0 hb1] at hz
        rw [wrap_u64 (x := x % 128 + 128) (by omega) (by omega), wrap_u8 (by omega) (by omega)]
        refine letB_intro fun b hb => letW_intro fun w2 hw => ?_
        obtain ⟨hc, S2⟩ := run_one _ w hb hw
        refine ⟨_, w2, hc, cat_size _ _ (by simp; omega), ?_⟩
        rw [one_cat, wrap_i64 (by omega) (by omega), show (i : Int) + 1 = ((i + 1 : Nat) : Int) by omega]
        exact sleb_mloop hR k (i + 1) (x / 128) _ w2 (by omega) (by omega) (by omega) (by rw [hn]; omega) (by simp; omega) (by rw [List.append_assoc]; exact hz) (Same.nx S S2)
    have q1 : -9223372036854775808 ≤ x / 128 := by omega
    have q2 : x / 128 < 9223372036854775808 := by omega
    have i1 := ones_iff (x / 128) q1 q2
    have i0 := zero_iff (x / 128) q1 q2
    have L4 : binm_sleb.L4 (x / 128 % 18446744073709551616) neg (strOfNums l) (i : Int) (x % 128) R Q w := by
      refine binm_sleb.step4 _ _ _ _ _ _ _ _ ?_
      unfold binm_sleb.V4
      by_cases hx : x < 0
      · have hneg : neg = true := hn.2 hx
        rw [hneg] at L5 ⊢
        refine cond_false' rfl (cond_true' rfl (cond_intro (fun e1 => L5 _ ?_) (fun e1 => L5 _ ?_)))
        · have e1 : x / 128 = -1 := i1.1 (eq_of_beq e1)
          by_cases hb : 64 ≤ x % 128
          · rw [decide_eq_true (show x % 128 ≥ 64 from hb), decide_eq_true (.inr ⟨e1, hb⟩)]
          · rw [decide_eq_false (show ¬ x % 128 ≥ 64 from hb), decide_eq_false (by omega)]
        · have e1 : ¬ x / 128 = -1 := fun h => by rw [i1.2 h] at e1; cases e1
          rw [decide_eq_false (by omega)]
      · have hneg : neg = false := by
          cases neg with
          | false => rfl
          | true => exact absurd (hn.1 rfl) hx
        rw [hneg] at L5 ⊢
        refine cond_true' rfl (cond_intro (fun e1 => ?_) (fun e1 => ?_))
        · have e1 : x / 128 = 0 := i0.1 (eq_of_beq e1)
          by_cases hb : x % 128 < 64
          · refine cond_true' (decide_eq_true hb) (L5 _ ?_)
            rw [decide_eq_true (.inl ⟨e1, hb⟩)]
          · refine cond_false' (decide_eq_false hb) (cond_false' rfl (L5 _ ?_))
            rw [decide_eq_false (by omega)]
        · have e1 : ¬ x / 128 = 0 := fun h => by rw [i0.2 h] at e1; cases e1
          refine cond_false' rfl (L5 _ ?_)
          rw [decide_eq_false (by omega)]
    refine cond_intro (fun e1 => ?_) (fun e1 => ?_)
    · have hx := hn.1 e1
      rw [wrap_u64_mod, wrap_u64_mod]
      have e2 : (x % 18446744073709551616 / 128) % 18446744073709551616 = x % 18446744073709551616 / 128 := by omega
      rw [e2, shr_neg x h1 hx]
      exact L4
    · have hx : 0 ≤ x := by
        rcases Int.lt_or_le x 0 with h | h
        · rw [hn.2 h] at e1; cases e1
        · exact h
      rw [wrap_u64_mod, shr_pos x h2 hx]
      exact L4

theorem bit_or (q : Int) (h : q = 0 ∨ q = 1) : (bAnd .u64 q 1 == 1) = decide (q = 1) := by
  rcases h with rfl | rfl <;> decide
theorem slebm (w : World) (n : Nat) (y x : Int) (h : (n = 32 ∧ 0 ≤ y ∧ y ≤ 4294967295 ∧ x = if 2147483648 ≤ y then y - 4294967296 else y) ∨ (n = 64 ∧ 0 ≤ y ∧ y ≤ 18446744073709551615 ∧ x = if 9223372036854775808 ≤ y then y - 18446744073709551616 else y)) :
    Txts binm_sleb.id #[.int .i64 (n : Int), .int .u64 y] w (sleb x) := by
  refine binm_sleb.enter _ _ _ _ _ ?_
  unfold binm_sleb.V
  refine ⟨(wrap64_rng _).1, ?_⟩
  rcases h with ⟨rfl, h0, h1, hx⟩ | ⟨rfl, h0, h1, hx⟩
  · have e31 : (2 : Int) ^ (min (Int.toNat (IntKind.wrap .u64 (IntKind.wrap .i64 (((32 : Nat) : Int) - 1)))) (IntKind.bits .u64)) = 2147483648 := by decide
    have eq : Int.fdiv y 2147483648 = y / 2147483648 := Int.fdiv_eq_ediv_of_nonneg _ (by decide)
    rw [e31, eq, bit_or _ (by omega)]
    by_cases hn : y / 2147483648 = 1
    · rw [decide_eq_true hn]
      have hx : x = y - 4294967296 := by rw [hx, if_pos (by omega)]
      refine cond_true' rfl ?_
      refine binm_sleb.step1 _ _ _ _ _ _ ?_
      unfold binm_sleb.V1
      refine cond_true' rfl ?_
      refine binm_sleb.step2 _ _ _ _ _ ?_
      unfold binm_sleb.V2
      have ev : IntKind.wrap .u64 (y + 18446744069414584320) = x % 18446744073709551616 := by rw [wrap_u64_mod, hx]; omega
      rw [ev]
      exact sleb_mloop (fun w' S => ⟨rfl, S⟩) 10 0 x [] w rfl (by omega) (by omega) ⟨fun _ => by omega, fun _ => rfl⟩ (by simp) rfl (Same.refl _ _ _)
    · rw [decide_eq_false hn]
      have hx : x = y := by rw [hx, if_neg (by omega)]
      refine cond_false' rfl ?_
      refine binm_sleb.step1 _ _ _ _ _ _ ?_
      unfold binm_sleb.V1
      refine cond_false' rfl ?_
      refine binm_sleb.step2 _ _ _ _ _ ?_
      unfold binm_sleb.V2
      have ev : y = x % 18446744073709551616 := by omega
      rw [ev]
      exact sleb_mloop (fun w' S => ⟨rfl, S⟩) 10 0 x [] w rfl (by omega) (by omega) ⟨fun h => (by cases h), fun _ => by omega⟩ (by simp) rfl (Same.refl _ _ _)
  · have e63 : (2 : Int) ^ (min (Int.toNat (IntKind.wrap .u64 (IntKind.wrap .i64 (((64 : Nat) : Int) - 1)))) (IntKind.bits .u64)) = 9223372036854775808 := by decide
    have eq : Int.fdiv y 9223372036854775808 = y / 9223372036854775808 := Int.fdiv_eq_ediv_of_nonneg _ (by decide)
    rw [e63, eq, bit_or _ (by omega)]
    by_cases hn : y / 9223372036854775808 = 1
    · rw [decide_eq_true hn]
      have hx : x = y - 18446744073709551616 := by rw [hx, if_pos (by omega)]
      refine cond_true' rfl ?_
      refine binm_sleb.step1 _ _ _ _ _ _ ?_
      unfold binm_sleb.V1
      refine cond_false' rfl ?_
      refine binm_sleb.step2 _ _ _ _ _ ?_
      unfold binm_sleb.V2
      have ev : y = x % 18446744073709551616 := by omega
      rw [ev]
      exact sleb_mloop (fun w' S => ⟨rfl, S⟩) 10 0 x [] w rfl (by omega) (by omega) ⟨fun _ => by omega, fun _ => rfl⟩ (by simp) rfl (Same.refl _ _ _)
    · rw [decide_eq_false hn]
      have hx : x = y := by rw [hx, if_neg (by omega)]
      refine cond_false' rfl ?_
      refine binm_sleb.step1 _ _ _ _ _ _ ?_
      unfold binm_sleb.V1
      refine cond_false' rfl ?_
      refine binm_sleb.step2 _ _ _ _ _ ?_
      unfold binm_sleb.V2
      have ev : y = x % 18446744073709551616 := by omega
      rw [ev]
      exact sleb_mloop (fun w' S => ⟨rfl, S⟩) 10 0 x [] w rfl (by omega) (by omega) ⟨fun h => (by cases h), fun _ => by omega⟩ (by simp) rfl (Same.refl _ _ _)
theorem wrap_i32 (y : Int) (h0 : 0 ≤ y) (h1 : y ≤ 4294967295) : IntKind.wrap .i64 (IntKind.wrap .i32 (IntKind.wrap .u32 y)) = if 2147483648 ≤ y then y - 4294967296 else y := by
  have e : IntKind.wrap .i32 (IntKind.wrap .u32 y) = if 2147483648 ≤ y then y - 4294967296 else y := by
    rw [wrap_u32 h0 (by omega)]
    unfold IntKind.wrap
    simp [IntKind.bits, IntKind.signed]
    try rw [Int.emod_eq_of_lt h0 (by omega)]
    try (split <;> split <;> omega)
  rw [e, wrap_i64 (by split <;> omega) (by split <;> omega)]
theorem wrap_i64_all (y : Int) (h0 : 0 ≤ y) (h1 : y ≤ 18446744073709551615) : IntKind.wrap .i64 y = if 9223372036854775808 ≤ y then y - 18446744073709551616 else y := by
  have e : IntKind.wrap .i64 y = if y % 18446744073709551616 ≥ 9223372036854775808 then y % 18446744073709551616 - 18446744073709551616 else y % 18446744073709551616 := by
    unfold IntKind.wrap
    simp [IntKind.bits, IntKind.signed]
  rw [e, Int.emod_eq_of_lt h0 (by omega)]
end Go.Proofs.Qxb6500316a
