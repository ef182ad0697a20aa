/-
  KeepsEnds: a float's parts, squares and shifts in two words; the root.
-/
import Derived.Test.Qxb6500320aVaF
import Derived.Test.Qxb6500320aKfB
set_option linter.unusedSimpArgs false
set_option linter.unusedVariables false
set_option maxRecDepth 100000
namespace Go.Proofs.Qxb6500320a
open Go Go.Vc

/-! ### Two words -/
theorem shl_pair (m sh : Nat) (h0 : 1 ≤ sh) (h1 : sh ≤ 120) (hm : m < 18446744073709551616) (hp : m * 2 ^ sh < 340282366920938463463374607431768211456) : ∃ hi lo : Nat, numlaw_Shl.F m sh = ((hi : Int), (lo : Int)) ∧ numlaw_Shl.Pre m sh ∧ hi < 18446744073709551616 ∧ lo < 18446744073709551616 ∧ hi * 18446744073709551616 + lo = m * 2 ^ sh := by
  by_cases h : 64 ≤ sh
  · obtain ⟨s, hs⟩ : ∃ s, sh = s + 64 := ⟨sh - 64, by omega⟩
    have e1 : IntKind.wrap .u64 (IntKind.wrap .i64 ((sh : Int) - 64)) = (s : Int) := by
      have : (sh : Int) - 64 = (s : Int) := by omega
      rw [this, wrap_i64 (by omega) (by omega), wrap64_n s (by omega)]
    have hlt : m * 2 ^ s < 18446744073709551616 := by
      rw [hs, Nat.pow_add, ← Nat.mul_assoc] at hp
      generalize m * 2 ^ s = z at *
      omega
    refine ⟨m * 2 ^ s, 0, ?_, ?_, hlt, by omega, ?_⟩
    · unfold numlaw_Shl.F numlaw_Shl.F1
      rw [decide_eq_true (show (sh : Int) ≥ 64 by omega), cond_true, e1]
      have := shl64_n m s (by omega)
      rw [Int.toNat_natCast, this, Nat.mod_eq_of_lt hlt]; rfl
    · unfold numlaw_Shl.Pre numlaw_Shl.Pre1
      rw [decide_eq_true (show (sh : Int) ≥ 64 by omega), e1]
      exact ⟨by omega, trivial⟩
    · have e64 : (2 : Nat) ^ 64 = 18446744073709551616 := by decide
      rw [hs, Nat.pow_add, ← Nat.mul_assoc, e64, Nat.add_zero]
  · have e1 : IntKind.wrap .u64 (IntKind.wrap .i64 (64 - (sh : Int))) = ((64 - sh : Nat) : Int) := by
      have : 64 - (sh : Int) = ((64 - sh : Nat) : Int) := by omega
      rw [this, wrap_i64 (by omega) (by omega), wrap64_n _ (by omega)]
    have e2 : IntKind.wrap .u64 (sh : Int) = (sh : Int) := wrap64_n sh (by omega)
    refine ⟨m / 2 ^ (64 - sh), m * 2 ^ sh % 18446744073709551616, ?_, ?_, Nat.lt_of_le_of_lt (Nat.div_le_self _ _) hm, Nat.mod_lt _ (by decide), ?_⟩
    · unfold numlaw_Shl.F numlaw_Shl.F1
      rw [decide_eq_false (show ¬ (sh : Int) ≥ 64 by omega), cond_false, e1, e2, Int.toNat_natCast, Int.toNat_natCast, shl64_n m sh (by omega), shr64_n m (64 - sh) (by omega)]
    · unfold numlaw_Shl.Pre numlaw_Shl.Pre1
      rw [decide_eq_false (show ¬ (sh : Int) ≥ 64 by omega), e1, e2]
      exact ⟨by omega, by omega, trivial⟩
    · have e3 : m / 2 ^ (64 - sh) = m * 2 ^ sh / 18446744073709551616 := by
        have e4 : (18446744073709551616 : Nat) = 2 ^ (64 - sh) * 2 ^ sh := by
          rw [← Nat.pow_add]
          have : 64 - sh + sh = 64 := by omega
          rw [this]
        rw [e4, Nat.mul_div_mul_right _ _ (Nat.two_pow_pos sh)]
      rw [e3, Nat.mul_comm]; exact Nat.div_add_mod _ _

theorem sq_pair (v : Nat) (hv : v < 36028797018963968) : ∃ hi lo : Nat, numlaw_Sq.F v = ((hi : Int), (lo : Int)) ∧ hi < 18446744073709551616 ∧ lo < 18446744073709551616 ∧ hi * 18446744073709551616 + lo = v * v := by
  obtain ⟨h, hh⟩ : ∃ h, h = v / 4294967296 := ⟨_, rfl⟩
  obtain ⟨l, hl⟩ : ∃ l, l = v % 4294967296 := ⟨_, rfl⟩
  have hvd : v = h * 4294967296 + l := by omega
  have hh1 : h < 8388608 := by omega
  have hl1 : l < 4294967296 := by omega
  have hhl : h * l ≤ 8388607 * 4294967295 := Nat.mul_le_mul (by omega) (by omega)
  have hhh : h * h ≤ 8388607 * 8388607 := Nat.mul_le_mul (by omega) (by omega)
  have hll : l * l ≤ 4294967295 * 4294967295 := Nat.mul_le_mul (by omega) (by omega)
  have hsq : v * v = h * h * 18446744073709551616 + 2 * (h * l) * 4294967296 + l * l := by
    rw [hvd, Nat.add_mul, Nat.mul_add, Nat.mul_add, Nat.mul_mul_mul_comm]
    have a1 : h * 4294967296 * l = h * l * 4294967296 := Nat.mul_right_comm _ _ _
    have a2 : l * (h * 4294967296) = h * l * 4294967296 := by rw [Nat.mul_comm, a1]
    rw [a1, a2]
    generalize h * l = A
    generalize h * h = B
    generalize l * l = C
    omega
  have f1 : Int.fdiv (v : Int) (2 ^ (32 : Nat)) = (h : Int) := by rw [fdiv_n, hh]
  have f2 : bAnd .u64 (v : Int) 4294967295 = (l : Int) := by
    rw [low32 _ (u64_nat (by omega)), Int.toNat_natCast, hl]
  have f3 : IntKind.wrap .u64 ((IntKind.wrap .u64 ((2 : Int) * (h : Int))) * (l : Int)) = ((2 * (h * l) : Nat) : Int) := by
    have a1 : (2 : Int) * (h : Int) = ((2 * h : Nat) : Int) := by omega
    rw [a1, wrap64_n _ (by omega), ← Int.natCast_mul, Nat.mul_assoc, wrap64_n _ (by omega)]
  have f4 : IntKind.wrap .u64 ((l : Int) * (l : Int)) = ((l * l : Nat) : Int) := by rw [← Int.natCast_mul, wrap64_n _ (by omega)]
  have f5 : IntKind.wrap .u64 ((h : Int) * (h : Int)) = ((h * h : Nat) : Int) := by rw [← Int.natCast_mul, wrap64_n _ (by omega)]
  obtain ⟨t, ht⟩ : ∃ t, t = 2 * (h * l) := ⟨_, rfl⟩
  have ht1 : t < 72057594037927936 := by omega
  have f6 : IntKind.wrap .u64 ((t : Int) * 2 ^ (32 : Nat)) = ((t % 4294967296 * 4294967296 : Nat) : Int) := by rw [wrap_u64_mod]; omega
  have f7 : Int.fdiv (t : Int) (2 ^ (32 : Nat)) = ((t / 4294967296 : Nat) : Int) := fdiv_n t 32
  have hdef : numlaw_Sq.F v = numlaw_Sq.F6 (l : Int) (IntKind.wrap .u64 (((l * l : Nat) : Int) + ((t % 4294967296 * 4294967296 : Nat) : Int))) (IntKind.wrap .u64 (((h * h : Nat) : Int) + ((t / 4294967296 : Nat) : Int))) := by
    unfold numlaw_Sq.F numlaw_Sq.F1 numlaw_Sq.F2 numlaw_Sq.F3 numlaw_Sq.F4 numlaw_Sq.F5
    rw [f1, f2, f3, f4, f5, ← ht, f6, f7]
  have f8 : IntKind.wrap .u64 (((h * h : Nat) : Int) + ((t / 4294967296 : Nat) : Int)) = ((h * h + t / 4294967296 : Nat) : Int) := by
    rw [← Int.natCast_add, wrap64_n _ (by omega)]
  have f9 : IntKind.wrap .u64 (((l * l : Nat) : Int) + ((t % 4294967296 * 4294967296 : Nat) : Int)) = (((l * l + t % 4294967296 * 4294967296) % 18446744073709551616 : Nat) : Int) := by
    rw [← Int.natCast_add, wrap_u64_mod]; omega
  rw [hdef, f8, f9]
  unfold numlaw_Sq.F6 numlaw_Sq.F7
  rw [f4]
  rw [← ht] at hsq
  generalize h * h = B at *
  generalize l * l = C at *
  by_cases hc : C + t % 4294967296 * 4294967296 < 18446744073709551616
  · rw [Nat.mod_eq_of_lt hc, decide_eq_false (show ¬ (((C + t % 4294967296 * 4294967296 : Nat) : Int) < (C : Int)) by omega), cond_false]
    exact ⟨_, _, rfl, by omega, by omega, by omega⟩
  · have e : (C + t % 4294967296 * 4294967296) % 18446744073709551616 = C + t % 4294967296 * 4294967296 - 18446744073709551616 := by omega
    rw [e, decide_eq_true (show ((C + t % 4294967296 * 4294967296 - 18446744073709551616 : Nat) : Int) < (C : Int) by omega), cond_true]
    have e2 : IntKind.wrap .u64 (((B + t / 4294967296 : Nat) : Int) + 1) = ((B + t / 4294967296 + 1 : Nat) : Int) := by
      rw [wrap_u64 (by omega) (by omega)]; omega
    rw [e2]
    exact ⟨_, _, rfl, by omega, by omega, by omega⟩

/-- Two numbers of two words compared. -/
theorem pair_ge {xh xl lh ll : Nat} (hxl : xl < 18446744073709551616) (hll : ll < 18446744073709551616) (h : lh * 18446744073709551616 + ll ≤ xh * 18446744073709551616 + xl) {A B : Prop} (hB : B) : cond (decide ((xh : Int) < (lh : Int))) A (cond ((xh : Int) == (lh : Int)) (cond (decide ((xl : Int) < (ll : Int))) A B) B) := by
  refine cond_false' (decide_eq_false (by omega)) (cond_intro (fun h1 => ?_) (fun _ => hB))
  have h1' := eq_of_beq h1
  exact cond_false' (decide_eq_false (by omega)) hB
theorem pair_le {xh xl uh ul : Nat} (hxl : xl < 18446744073709551616) (hul : ul < 18446744073709551616) (h : xh * 18446744073709551616 + xl ≤ uh * 18446744073709551616 + ul) {w w' : World} {B : Nat} (hS : Same [] B w w') : cond (decide ((xh : Int) < (uh : Int))) ((fun v w' => v = Value.bool true ∧ Same [] B w w') (.bool true) w') (cond ((xh : Int) == (uh : Int)) ((fun v w' => v = Value.bool true ∧ Same [] B w w') (.bool (decide ((xl : Int) ≤ (ul : Int)))) w') ((fun v w' => v = Value.bool true ∧ Same [] B w w') (.bool false) w')) := by
  refine cond_intro (fun _ => ⟨rfl, hS⟩) (fun h1 => cond_intro (fun h2 => ?_) (fun h2 => ?_))
  · have h2' := eq_of_beq h2
    refine ⟨?_, hS⟩
    rw [decide_eq_true (by omega)]
  · exfalso
    have h1' := of_decide_eq_false h1
    have h2' := beq_eq_false_iff_ne.1 h2
    omega

/-! ### 32 bits -/
def pm32 (v : Nat) : Nat := if v < 8388608 then v else 8388608 + v % 8388608
def pe32 (v : Nat) : Int := if v < 8388608 then -149 else -149 + (v / 8388608 - 1 : Nat)
theorem read32 (v : Nat) (hv : v < 2139095040) : Ieee.single.read v = .number false (pm32 v) (pe32 v) := by
  have h1 : Ieee.single.signWeight = 2147483648 := by decide
  have h2 : Ieee.single.binade = 8388608 := by decide
  have h3 : Ieee.single.infRung = 2139095040 := by decide
  have h4 : Ieee.single.leastPlace = -149 := by decide
  have e1 : v % 2147483648 = v := by omega
  have e2 : v / 2147483648 = 0 := by omega
  unfold Ieee.Format.read pm32 pe32
  simp only [h1, h2, h3, h4, e1, e2]
  by_cases h : v < 8388608
  · rw [if_pos h, if_pos h, if_pos h]; rfl
  · rw [if_neg h, if_neg h, if_neg h, if_pos hv]; rfl

theorem andinf32 (v : Nat) (hv : v < 2147483648) : bAnd .u64 (v : Int) 2139095040 = ((v / 8388608 * 8388608 : Nat) : Int) := by
  have e : bAnd .u64 (v : Int) 2139095040 = ((v &&& 2139095040 : Nat) : Int) := bAnd64_n v 2139095040 (by omega) (by decide)
  rw [e]
  have e2 : v &&& 2139095040 = v / 8388608 * 8388608 := by
    have h := and_split v 2139095040 23
    have a1 : 2139095040 % 2 ^ 23 = 0 := by decide
    have a2 : 2139095040 / 2 ^ 23 = 2 ^ 8 - 1 := by decide
    have a3 : (2 : Nat) ^ 23 = 8388608 := by decide
    rw [a1, a2, Nat.and_zero, Nat.and_two_pow_sub_one_eq_mod, a3] at h
    have a4 : (2 : Nat) ^ 8 = 256 := by decide
    rw [a4] at h
    rw [h]; omega
  rw [e2]

theorem Part32_spec (v : Nat) (hv : v < 2139095040) (w : World) : Runs Try.prog numlaw_Part.id #[fmt32.val, .int .i64 24, .int .u64 v] w fun r w' => r = .tuple #[.int .u64 ((pm32 v : Nat) : Int), .int .i64 (pe32 v)] ∧ Same [] w.heap.size w w' := by
  refine numlaw_Part.enter 139 146 91 2147483648 2139095040 2143289344 24 v _ _ ?_
  unfold numlaw_Part.V
  refine letB_intro fun b hb => letW_intro fun w0 hw0 => ?_
  have f0 : FmtAt w0 b fmt32 := by rw [hw0, hb]; exact FmtAt.new w fmt32 T_numlaw_Fmt
  have T0 : Same [] w.heap.size w w0 := by rw [hw0]; exact (Same.refl _ _ _).alloc (Nat.le_refl _) _
  clear hw0 hb
  have e1 : IntKind.wrap .u64 (IntKind.wrap .i64 (24 - 1)) = 23 := by decide
  have e2 : min (Int.toNat 23) (IntKind.bits .i64) = 23 := by decide
  have e3 : min (Int.toNat 23) (IntKind.bits .u64) = 23 := by decide
  have e4 : IntKind.wrap .u64 ((IntKind.wrap .u64 ((1 : Int) * 2 ^ 23)) - (1 : Int)) = 8388607 := by decide
  have e5 : IntKind.wrap .u64 ((1 : Int) * 2 ^ 23) = 8388608 := by decide
  have e6 : IntKind.wrap .i64 ((IntKind.wrap .i64 ((IntKind.wrap .i64 (Int.fdiv 2139095040 (2 ^ (min (Int.toNat (IntKind.wrap .u64 24)) (IntKind.bits .u64))))) + 24)) - (1 : Int)) = 150 := by decide
  have c4 : fmt32.inf = 2139095040 := rfl
  refine ⟨_, f0.c4, ?_⟩
  rw [c4, e1, e2, e3, e4, e5, andinf32 v (by omega)]
  have e7 : IntKind.wrap .i64 ((v / 8388608 * 8388608 : Nat) : Int) = ((v / 8388608 * 8388608 : Nat) : Int) := wrap_i64 (by omega) (by omega)
  have e8 : Int.fdiv ((v / 8388608 * 8388608 : Nat) : Int) (2 ^ 23) = ((v / 8388608 : Nat) : Int) := by
    rw [fdiv_n]
    have a3 : (2 : Nat) ^ 23 = 8388608 := by decide
    rw [a3, Nat.mul_div_cancel _ (by decide)]
  rw [e7, e8]
  refine ⟨by decide, by decide, _, f0.c4, by decide, ?_⟩
  rw [c4, e6]
  have e9 : bAnd .u64 (v : Int) 8388607 = ((v % 8388608 : Nat) : Int) := by
    have e : bAnd .u64 (v : Int) 8388607 = ((v &&& 8388607 : Nat) : Int) := bAnd64_n v 8388607 (by omega) (by decide)
    rw [e]
    have e2 : v &&& 8388607 = v % 8388608 := Nat.and_two_pow_sub_one_eq_mod v 23
    rw [e2]
  rw [e9]
  clear e1 e2 e3 e4 e5 e6 e7 e8 e9 c4
  by_cases h : v < 8388608
  · refine cond_true' (by rw [beq_iff_eq]; omega) ⟨?_, T0⟩
    unfold pm32 pe32
    rw [if_pos h, if_pos h]
    have a1 : IntKind.wrap .i64 ((1 : Int) - 150) = -149 := by decide
    rw [a1, Nat.mod_eq_of_lt h]
  · refine cond_false' (by rw [beq_eq_false_iff_ne]; omega) ⟨by decide, ?_, T0⟩
    unfold pm32 pe32
    rw [if_neg h, if_neg h]
    have a1 : IntKind.wrap .i64 (((v / 8388608 : Nat) : Int) - 150) = -149 + ((v / 8388608 - 1 : Nat) : Int) := by
      rw [wrap_i64 (by omega) (by omega)]; omega
    have a2 : bOr .u64 ((v % 8388608 : Nat) : Int) 8388608 = ((8388608 + v % 8388608 : Nat) : Int) := by
      have e : bOr .u64 ((v % 8388608 : Nat) : Int) 8388608 = ((v % 8388608 ||| 8388608 : Nat) : Int) := bOr64_n _ 8388608 (by omega) (by decide)
      rw [e, Nat.or_comm]
      have := or_add 1 (v % 8388608) 23 (Nat.mod_lt _ (by decide))
      have a3 : 1 * (2 : Nat) ^ 23 = 8388608 := by decide
      rw [a3] at this
      rw [this]
    rw [a1, a2]

theorem KeptRoot32_spec (x : Nat) (hx : x < 4294967296) (w : World) : Runs Try.prog numlaw_KeptRoot.id #[fmt32.val, .int .i64 24, .int .u64 x] w fun v w' => v = .bool true ∧ Same [] w.heap.size w w' := by
  refine numlaw_KeptRoot.enter 139 146 91 2147483648 2139095040 2143289344 24 x _ _ ?_
  unfold numlaw_KeptRoot.V
  refine letB_intro fun b hb => letW_intro fun w0 hw0 => ?_
  have f0 : FmtAt w0 b fmt32 := by rw [hw0, hb]; exact FmtAt.new w fmt32 T_numlaw_Fmt
  have T0 : Same [] w.heap.size w w0 := by rw [hw0]; exact (Same.refl _ _ _).alloc (Nat.le_refl _) _
  clear hw0 hb
  refine ⟨_, f0.c0, (apL_spec _ _ _ u64_0 w0).mono ?_⟩
  rintro v w1 ⟨rfl, S1⟩
  have f1 := f0.keep S1
  have T1 := T0.trans (S1.mono T0.size (by simp))
  have c0 : fmt32.un = 139 := rfl
  have c3 : fmt32.sign = 2147483648 := rfl
  have c4 : fmt32.inf = 2139095040 := rfl
  have c5 : fmt32.canon = 2143289344 := rfl
  have n6 : IntKind.wrap .i64 (139 + 6) = 145 := by decide
  have hr : (ap 145 x 0).1 = ((rt32 x : Nat) : Int) := by
    have := apf32 145 x 0 hx (by decide) (by decide) (by decide)
    have ez : ((0 : Nat) : Int) = 0 := rfl
    rw [ez] at this
    rw [this]; rfl
  refine ⟨_, rfl, _, f1.c3, ?_⟩
  rw [c0, n6, hr, c3, andnot32 x hx]
  -- a zero, an infinity
  have special : rt32 x = x → numlaw_KeptRoot.L1 24 x b ((rt32 x : Nat) : Int) true (fun v w' => v = .bool true ∧ Same [] w.heap.size w w') w1 := by
    intro h
    refine numlaw_KeptRoot.step1 _ _ _ _ _ _ _ ?_
    unfold numlaw_KeptRoot.V1
    refine cond_true' rfl ⟨?_, T1⟩
    rw [h]; simp
  refine cond_intro (fun h0 => ?_) (fun h0 => ?_)
  · have h0' : x = 0 ∨ x = 2147483648 := by have := eq_of_beq h0; omega
    apply special
    rcases h0' with rfl | rfl
    · exact root32_zero.1
    · exact root32_zero.2.1
  · have hx0 : x ≠ 0 ∧ x ≠ 2147483648 := by have := beq_eq_false_iff_ne.1 h0; omega
    refine ⟨_, f1.c4, ?_⟩
    rw [c4]
    by_cases hinf : x = 2139095040
    · have e : ((x : Int) == 2139095040) = true := by rw [beq_iff_eq]; omega
      rw [e]
      apply special
      rw [hinf]; exact root32_zero.2.2
    · have e : ((x : Int) == 2139095040) = false := by rw [beq_eq_false_iff_ne]; omega
      rw [e]
      refine numlaw_KeptRoot.step1 _ _ _ _ _ _ _ ?_
      unfold numlaw_KeptRoot.V1
      refine cond_false' rfl ⟨_, f1.c4, ?_⟩
      rw [c4]
      by_cases hneg : x > 2139095040
      · refine cond_true' (decide_eq_true (by omega)) ⟨_, f1.c5, ?_, T1⟩
        rw [c5, root32_none x hx hneg hx0.2]; rfl
      · refine cond_false' (decide_eq_false (by omega)) ?_
        obtain ⟨m, i, mr, er, q1, q2, q3, q4, q5, q6, q7, q8, q9, q10, q11, sh, k1, k2, k3, k4⟩ := root32_ok x (by omega) (by omega)
        generalize hR : rt32 x = R at q2 q3 q4
        refine cond_false' (by rw [beq_eq_false_iff_ne]; omega) ⟨_, f1.c4, ?_⟩
        rw [c4]
        refine cond_false' (decide_eq_false (by omega)) ?_
        rw [read32 x (by omega)] at q1
        rw [read32 R q3] at q4
        simp only [Ieee.Datum.number.injEq, true_and] at q1 q4
        obtain ⟨rfl, rfl⟩ := q1
        obtain ⟨rfl, rfl⟩ := q4
        refine numlaw_KeptRoot.step2 _ _ _ _ _ _ ?_
        unfold numlaw_KeptRoot.V2
        refine ⟨_, _, _, _, _, _, f1.c0, f1.c1, f1.c2, f1.c3, f1.c4, f1.c5, (Part32_spec x (by omega) w1).mono ?_⟩
        rintro v w2 ⟨rfl, S2⟩
        have f2 := f1.keep S2
        have T2 := T1.trans (S2.mono T1.size (by simp))
        refine ⟨_, _, rfl, _, _, _, _, _, _, f2.c0, f2.c1, f2.c2, f2.c3, f2.c4, f2.c5, (Part32_spec R q3 w2).mono ?_⟩
        rintro v w3 ⟨rfl, S3⟩
        have T3 := T2.trans (S3.mono T2.size (by simp))
        refine ⟨_, _, rfl, ?_⟩
        generalize pm32 x = mx at *
        generalize pe32 x = ex at *
        generalize pm32 R = mr at *
        generalize pe32 R = er at *
        have esh : IntKind.wrap .i64 ((IntKind.wrap .i64 (ex - (IntKind.wrap .i64 ((2 : Int) * er)))) + (2 : Int)) = (sh : Int) := by
          have a1 : IntKind.wrap .i64 ((2 : Int) * er) = 2 * er := wrap_i64 (by omega) (by omega)
          have a2 : IntKind.wrap .i64 (ex - 2 * er) = ex - 2 * er := wrap_i64 (by omega) (by omega)
          rw [a1, a2, wrap_i64 (by omega) (by omega)]; omega
        have e2p : IntKind.wrap .i64 ((IntKind.wrap .i64 ((2 : Int) * 24)) + (2 : Int)) = 50 := by decide
        rw [esh, e2p]
        -- the shift's bounds
        obtain ⟨C, hC⟩ : ∃ C, C = 2 * mr + 1 := ⟨_, rfl⟩
        obtain ⟨D, hD⟩ : ∃ D, D = 2 * mr - 1 := ⟨_, rfl⟩
        have hCC : C * C ≤ 33554431 * 33554431 := sq_le (by omega)
        have hDD : 16777215 * 16777215 ≤ D * D := sq_le (by omega)
        rw [← hC] at k3
        rw [← hD] at k2
        have hprod : mx * 2 ^ sh < 2 ^ 50 := by
          have : (33554431 : Nat) * 33554431 < 2 ^ 50 := by decide
          generalize mx * 2 ^ sh = y at *
          generalize C * C = cc at *
          omega
        have hmx0 : mx ≠ 0 := by
          intro h0
          rw [h0, Nat.zero_mul] at k2
          generalize D * D = dd at *
          omega
        have hsh2 : sh < 50 := by
          rcases Nat.lt_or_ge sh 50 with h | h
          · exact h
          · exfalso
            have a1 : 2 ^ 50 ≤ 2 ^ sh := Nat.pow_le_pow_right (by omega) h
            have a2 : 1 * 2 ^ sh ≤ mx * 2 ^ sh := Nat.mul_le_mul_right _ (by omega)
            rw [Nat.one_mul] at a2
            exact absurd (Nat.lt_of_le_of_lt (Nat.le_trans a1 a2) hprod) (Nat.lt_irrefl _)
        have hsh1 : 1 ≤ sh := by
          rcases Nat.eq_zero_or_pos sh with h | h
          · exfalso
            rw [h, Nat.pow_zero, Nat.mul_one] at k2
            have : 16777216 < (16777215 : Nat) * 16777215 := by decide
            generalize D * D = dd at *
            omega
          · exact h
        refine cond_false' (decide_eq_false (by omega)) (cond_false' (decide_eq_false (by omega)) ?_)
        refine numlaw_KeptRoot.step3 _ _ _ _ _ _ ?_
        unfold numlaw_KeptRoot.V3
        rw [e2p]
        have ed : IntKind.wrap .u64 (IntKind.wrap .i64 (50 - (sh : Int))) = ((50 - sh : Nat) : Int) := by
          have a1 : 50 - (sh : Int) = ((50 - sh : Nat) : Int) := by omega
          rw [a1, wrap_i64 (by omega) (by omega), wrap64_n _ (by omega)]
        have ediv : Int.fdiv (mx : Int) (2 ^ (min (Int.toNat ((50 - sh : Nat) : Int)) (IntKind.bits .u64))) = 0 := by
          have a0 : IntKind.bits .u64 = 64 := by decide
          rw [Int.toNat_natCast, fdiv_n, a0]
          have a1 : mx < 2 ^ min (50 - sh) 64 := by
            rcases Nat.le_total (50 - sh) 64 with h | h
            · rw [Nat.min_eq_left h]
              have a2 : 2 ^ 50 = 2 ^ (50 - sh) * 2 ^ sh := by rw [← Nat.pow_add]; congr 1; omega
              rw [a2] at hprod
              exact Nat.lt_of_mul_lt_mul_right hprod
            · rw [Nat.min_eq_right h]; omega
          rw [Nat.div_eq_of_lt a1]; rfl
        rw [ed, ediv]
        refine ⟨by omega, cond_false' rfl ?_⟩
        have big : (2 : Nat) ^ 50 < 340282366920938463463374607431768211456 := by decide
        obtain ⟨xh, xl, x1, x2, x3, x4, x5⟩ := shl_pair mx sh hsh1 (by omega) (by omega) (Nat.lt_trans hprod big)
        obtain ⟨lh, ll, y1, y2, y3, y4⟩ := sq_pair D (by omega)
        obtain ⟨uh, ul, u1, u2, u3, u4⟩ := sq_pair C (by omega)
        refine (numlaw_Shl.pure _ _ w3 x2).mono ?_
        rintro v w4 ⟨rfl, rfl⟩
        rw [x1]
        refine ⟨_, _, rfl, ?_⟩
        have eD : IntKind.wrap .u64 ((IntKind.wrap .u64 ((2 : Int) * (mr : Int))) - (1 : Int)) = (D : Int) := by
          have a1 : IntKind.wrap .u64 ((2 : Int) * (mr : Int)) = 2 * (mr : Int) := wrap_u64 (by omega) (by omega)
          rw [a1, wrap_u64 (by omega) (by omega)]; omega
        have eC : IntKind.wrap .u64 ((IntKind.wrap .u64 ((2 : Int) * (mr : Int))) + (1 : Int)) = (C : Int) := by
          have a1 : IntKind.wrap .u64 ((2 : Int) * (mr : Int)) = 2 * (mr : Int) := wrap_u64 (by omega) (by omega)
          rw [a1, wrap_u64 (by omega) (by omega)]; omega
        rw [eD, eC]
        refine (numlaw_Sq.pure _ w4).mono ?_
        rintro v w5 ⟨rfl, rfl⟩
        rw [y1]
        refine ⟨_, _, rfl, (numlaw_Sq.pure _ w5).mono ?_⟩
        rintro v w6 ⟨rfl, rfl⟩
        rw [u1]
        refine ⟨_, _, rfl, ?_⟩
        have fin : numlaw_KeptRoot.L5 xh xl uh ul (fun v w' => v = .bool true ∧ Same [] w.heap.size w w') w6 := by
          refine numlaw_KeptRoot.step5 _ _ _ _ _ _ ?_
          unfold numlaw_KeptRoot.V5
          exact pair_le x4 u3 (by rw [x5, u4]; exact k3) T3
        refine pair_ge x4 y3 (by rw [x5, y4]; exact k2) ?_
        refine numlaw_KeptRoot.step4 _ _ _ _ _ _ _ _ _ _ ?_
        unfold numlaw_KeptRoot.V4
        refine ⟨by decide, ?_⟩
        have eB : IntKind.wrap .u64 ((1 : Int) * 2 ^ (min (Int.toNat (IntKind.wrap .u64 (IntKind.wrap .i64 (24 - (1 : Int))))) (IntKind.bits .u64))) = 8388608 := by decide
        rw [eB]
        refine cond_intro (fun hmr => ?_) (fun _ => fin)
        have hmrB : mr = 8388608 := by have := eq_of_beq hmr; omega
        have es2 : IntKind.wrap .i64 ((sh : Int) + 2) = ((sh + 2 : Nat) : Int) := by rw [wrap_i64 (by omega) (by omega)]; omega
        rw [es2]
        have hprod2 : mx * 2 ^ (sh + 2) < 340282366920938463463374607431768211456 := by
          rw [Nat.pow_add, ← Nat.mul_assoc]
          have a1 : (2 : Nat) ^ 50 * 4 ≤ 340282366920938463463374607431768211456 := by decide
          have a2 : (2 : Nat) ^ 2 = 4 := by decide
          rw [a2]
          generalize mx * 2 ^ sh = y at *
          omega
        obtain ⟨zh, zl, z1, z2, z3, z4, z5⟩ := shl_pair mx (sh + 2) (by omega) (by omega) (by omega) hprod2
        obtain ⟨Q, hQ⟩ : ∃ Q, Q = 4 * mr - 1 := ⟨_, rfl⟩
        obtain ⟨vh, vl, v1, v2, v3, v4⟩ := sq_pair Q (by omega)
        refine (numlaw_Shl.pure _ _ w6 z2).mono ?_
        rintro v w7 ⟨rfl, rfl⟩
        rw [z1]
        refine ⟨_, _, rfl, ?_⟩
        have eQ : IntKind.wrap .u64 ((IntKind.wrap .u64 ((4 : Int) * (mr : Int))) - (1 : Int)) = (Q : Int) := by
          have a1 : IntKind.wrap .u64 ((4 : Int) * (mr : Int)) = 4 * (mr : Int) := wrap_u64 (by omega) (by omega)
          rw [a1, wrap_u64 (by omega) (by omega)]; omega
        rw [eQ]
        refine (numlaw_Sq.pure _ w7).mono ?_
        rintro v w8 ⟨rfl, rfl⟩
        rw [v1]
        refine ⟨_, _, rfl, ?_⟩
        have k4' := k4 hmrB
        rw [← hQ] at k4'
        exact pair_ge z4 v3 (by rw [z5, v4]; exact k4') fin

/-! ### 64 bits -/
def pm64 (v : Nat) : Nat := if v < 4503599627370496 then v else 4503599627370496 + v % 4503599627370496
def pe64 (v : Nat) : Int := if v < 4503599627370496 then -1074 else -1074 + (v / 4503599627370496 - 1 : Nat)
theorem read64 (v : Nat) (hv : v < 9218868437227405312) : Ieee.double.read v = .number false (pm64 v) (pe64 v) := by
  have h1 : Ieee.double.signWeight = 9223372036854775808 := by decide
  have h2 : Ieee.double.binade = 4503599627370496 := by decide
  have h3 : Ieee.double.infRung = 9218868437227405312 := by decide
  have h4 : Ieee.double.leastPlace = -1074 := by decide
  have e1 : v % 9223372036854775808 = v := by omega
  have e2 : v / 9223372036854775808 = 0 := by omega
  unfold Ieee.Format.read pm64 pe64
  simp only [h1, h2, h3, h4, e1, e2]
  by_cases h : v < 4503599627370496
  · rw [if_pos h, if_pos h, if_pos h]; rfl
  · rw [if_neg h, if_neg h, if_neg h, if_pos hv]; rfl

theorem andinf64 (v : Nat) (hv : v < 9223372036854775808) : bAnd .u64 (v : Int) 9218868437227405312 = ((v / 4503599627370496 * 4503599627370496 : Nat) : Int) := by
  have e : bAnd .u64 (v : Int) 9218868437227405312 = ((v &&& 9218868437227405312 : Nat) : Int) := bAnd64_n v 9218868437227405312 (by omega) (by decide)
  rw [e]
  have e2 : v &&& 9218868437227405312 = v / 4503599627370496 * 4503599627370496 := by
    have h := and_split v 9218868437227405312 52
    have a1 : 9218868437227405312 % 2 ^ 52 = 0 := by decide
    have a2 : 9218868437227405312 / 2 ^ 52 = 2 ^ 11 - 1 := by decide
    have a3 : (2 : Nat) ^ 52 = 4503599627370496 := by decide
    rw [a1, a2, Nat.and_zero, Nat.and_two_pow_sub_one_eq_mod, a3] at h
    have a4 : (2 : Nat) ^ 11 = 2048 := by decide
    rw [a4] at h
    rw [h]; omega
  rw [e2]

theorem Part64_spec (v : Nat) (hv : v < 9218868437227405312) (w : World) : Runs Try.prog numlaw_Part.id #[fmt64.val, .int .i64 53, .int .u64 v] w fun r w' => r = .tuple #[.int .u64 ((pm64 v : Nat) : Int), .int .i64 (pe64 v)] ∧ Same [] w.heap.size w w' := by
  refine numlaw_Part.enter 153 160 97 9223372036854775808 9218868437227405312 9221120237041090560 53 v _ _ ?_
  unfold numlaw_Part.V
  refine letB_intro fun b hb => letW_intro fun w0 hw0 => ?_
  have f0 : FmtAt w0 b fmt64 := by rw [hw0, hb]; exact FmtAt.new w fmt64 T_numlaw_Fmt
  have T0 : Same [] w.heap.size w w0 := by rw [hw0]; exact (Same.refl _ _ _).alloc (Nat.le_refl _) _
  clear hw0 hb
  have e1 : IntKind.wrap .u64 (IntKind.wrap .i64 (53 - 1)) = 52 := by decide
  have e2 : min (Int.toNat 52) (IntKind.bits .i64) = 52 := by decide
  have e3 : min (Int.toNat 52) (IntKind.bits .u64) = 52 := by decide
  have e4 : IntKind.wrap .u64 ((IntKind.wrap .u64 ((1 : Int) * 2 ^ 52)) - (1 : Int)) = 4503599627370495 := by decide
  have e5 : IntKind.wrap .u64 ((1 : Int) * 2 ^ 52) = 4503599627370496 := by decide
  have e6 : IntKind.wrap .i64 ((IntKind.wrap .i64 ((IntKind.wrap .i64 (Int.fdiv 9218868437227405312 (2 ^ (min (Int.toNat (IntKind.wrap .u64 53)) (IntKind.bits .u64))))) + 53)) - (1 : Int)) = 1075 := by decide
  have c4 : fmt64.inf = 9218868437227405312 := rfl
  refine ⟨_, f0.c4, ?_⟩
  rw [c4, e1, e2, e3, e4, e5, andinf64 v (by omega)]
  have e7 : IntKind.wrap .i64 ((v / 4503599627370496 * 4503599627370496 : Nat) : Int) = ((v / 4503599627370496 * 4503599627370496 : Nat) : Int) := wrap_i64 (by omega) (by omega)
  have e8 : Int.fdiv ((v / 4503599627370496 * 4503599627370496 : Nat) : Int) (2 ^ 52) = ((v / 4503599627370496 : Nat) : Int) := by
    rw [fdiv_n]
    have a3 : (2 : Nat) ^ 52 = 4503599627370496 := by decide
    rw [a3, Nat.mul_div_cancel _ (by decide)]
  rw [e7, e8]
  refine ⟨by decide, by decide, _, f0.c4, by decide, ?_⟩
  rw [c4, e6]
  have e9 : bAnd .u64 (v : Int) 4503599627370495 = ((v % 4503599627370496 : Nat) : Int) := by
    have e : bAnd .u64 (v : Int) 4503599627370495 = ((v &&& 4503599627370495 : Nat) : Int) := bAnd64_n v 4503599627370495 (by omega) (by decide)
    rw [e]
    have e2 : v &&& 4503599627370495 = v % 4503599627370496 := Nat.and_two_pow_sub_one_eq_mod v 52
    rw [e2]
  rw [e9]
  clear e1 e2 e3 e4 e5 e6 e7 e8 e9 c4
  by_cases h : v < 4503599627370496
  · refine cond_true' (by rw [beq_iff_eq]; omega) ⟨?_, T0⟩
    unfold pm64 pe64
    rw [if_pos h, if_pos h]
    have a1 : IntKind.wrap .i64 ((1 : Int) - 1075) = -1074 := by decide
    rw [a1, Nat.mod_eq_of_lt h]
  · refine cond_false' (by rw [beq_eq_false_iff_ne]; omega) ⟨by decide, ?_, T0⟩
    unfold pm64 pe64
    rw [if_neg h, if_neg h]
    have a1 : IntKind.wrap .i64 (((v / 4503599627370496 : Nat) : Int) - 1075) = -1074 + ((v / 4503599627370496 - 1 : Nat) : Int) := by
      rw [wrap_i64 (by omega) (by omega)]; omega
    have a2 : bOr .u64 ((v % 4503599627370496 : Nat) : Int) 4503599627370496 = ((4503599627370496 + v % 4503599627370496 : Nat) : Int) := by
      have e : bOr .u64 ((v % 4503599627370496 : Nat) : Int) 4503599627370496 = ((v % 4503599627370496 ||| 4503599627370496 : Nat) : Int) := bOr64_n _ 4503599627370496 (by omega) (by decide)
      rw [e, Nat.or_comm]
      have := or_add 1 (v % 4503599627370496) 52 (Nat.mod_lt _ (by decide))
      have a3 : 1 * (2 : Nat) ^ 52 = 4503599627370496 := by decide
      rw [a3] at this
      rw [this]
    rw [a1, a2]

theorem KeptRoot64_spec (x : Nat) (hx : x < 18446744073709551616) (w : World) : Runs Try.prog numlaw_KeptRoot.id #[fmt64.val, .int .i64 53, .int .u64 x] w fun v w' => v = .bool true ∧ Same [] w.heap.size w w' := by
  refine numlaw_KeptRoot.enter 153 160 97 9223372036854775808 9218868437227405312 9221120237041090560 53 x _ _ ?_
  unfold numlaw_KeptRoot.V
  refine letB_intro fun b hb => letW_intro fun w0 hw0 => ?_
  have f0 : FmtAt w0 b fmt64 := by rw [hw0, hb]; exact FmtAt.new w fmt64 T_numlaw_Fmt
  have T0 : Same [] w.heap.size w w0 := by rw [hw0]; exact (Same.refl _ _ _).alloc (Nat.le_refl _) _
  clear hw0 hb
  refine ⟨_, f0.c0, (apL_spec _ _ _ u64_0 w0).mono ?_⟩
  rintro v w1 ⟨rfl, S1⟩
  have f1 := f0.keep S1
  have T1 := T0.trans (S1.mono T0.size (by simp))
  have c0 : fmt64.un = 153 := rfl
  have c3 : fmt64.sign = 9223372036854775808 := rfl
  have c4 : fmt64.inf = 9218868437227405312 := rfl
  have c5 : fmt64.canon = 9221120237041090560 := rfl
  have n6 : IntKind.wrap .i64 (153 + 6) = 159 := by decide
  have hr : (ap 159 x 0).1 = ((ar64 (Ieee.double.sqrt x) : Nat) : Int) := by
    have := apf64 159 x 0 hx (by decide) (by decide) (by decide)
    have ez : ((0 : Nat) : Int) = 0 := rfl
    rw [ez] at this
    rw [this]; rfl
  refine ⟨_, rfl, _, f1.c3, ?_⟩
  rw [c0, n6, hr, c3, andnot64 x hx]
  -- a zero, an infinity
  have special : ar64 (Ieee.double.sqrt x) = x → numlaw_KeptRoot.L1 53 x b ((ar64 (Ieee.double.sqrt x) : Nat) : Int) true (fun v w' => v = .bool true ∧ Same [] w.heap.size w w') w1 := by
    intro h
    refine numlaw_KeptRoot.step1 _ _ _ _ _ _ _ ?_
    unfold numlaw_KeptRoot.V1
    refine cond_true' rfl ⟨?_, T1⟩
    rw [h]; simp
  refine cond_intro (fun h0 => ?_) (fun h0 => ?_)
  · have h0' : x = 0 ∨ x = 9223372036854775808 := by have := eq_of_beq h0; omega
    apply special
    rcases h0' with rfl | rfl
    · exact root64_zero.1
    · exact root64_zero.2.1
  · have hx0 : x ≠ 0 ∧ x ≠ 9223372036854775808 := by have := beq_eq_false_iff_ne.1 h0; omega
    refine ⟨_, f1.c4, ?_⟩
    rw [c4]
    by_cases hinf : x = 9218868437227405312
    · have e : ((x : Int) == 9218868437227405312) = true := by rw [beq_iff_eq]; omega
      rw [e]
      apply special
      rw [hinf]; exact root64_zero.2.2
    · have e : ((x : Int) == 9218868437227405312) = false := by rw [beq_eq_false_iff_ne]; omega
      rw [e]
      refine numlaw_KeptRoot.step1 _ _ _ _ _ _ _ ?_
      unfold numlaw_KeptRoot.V1
      refine cond_false' rfl ⟨_, f1.c4, ?_⟩
      rw [c4]
      by_cases hneg : x > 9218868437227405312
      · refine cond_true' (decide_eq_true (by omega)) ⟨_, f1.c5, ?_, T1⟩
        rw [c5, root64_none x hx hneg hx0.2]; rfl
      · refine cond_false' (decide_eq_false (by omega)) ?_
        obtain ⟨m, i, mr, er, q1, q2, q3, q4, q5, q6, q7, q8, q9, q10, q11, sh, k1, k2, k3, k4⟩ := root64_ok x (by omega) (by omega)
        generalize hR : ar64 (Ieee.double.sqrt x) = R at q2 q3 q4
        refine cond_false' (by rw [beq_eq_false_iff_ne]; omega) ⟨_, f1.c4, ?_⟩
        rw [c4]
        refine cond_false' (decide_eq_false (by omega)) ?_
        rw [read64 x (by omega)] at q1
        rw [read64 R q3] at q4
        simp only [Ieee.Datum.number.injEq, true_and] at q1 q4
        obtain ⟨rfl, rfl⟩ := q1
        obtain ⟨rfl, rfl⟩ := q4
        refine numlaw_KeptRoot.step2 _ _ _ _ _ _ ?_
        unfold numlaw_KeptRoot.V2
        refine ⟨_, _, _, _, _, _, f1.c0, f1.c1, f1.c2, f1.c3, f1.c4, f1.c5, (Part64_spec x (by omega) w1).mono ?_⟩
        rintro v w2 ⟨rfl, S2⟩
        have f2 := f1.keep S2
        have T2 := T1.trans (S2.mono T1.size (by simp))
        refine ⟨_, _, rfl, _, _, _, _, _, _, f2.c0, f2.c1, f2.c2, f2.c3, f2.c4, f2.c5, (Part64_spec R q3 w2).mono ?_⟩
        rintro v w3 ⟨rfl, S3⟩
        have T3 := T2.trans (S3.mono T2.size (by simp))
        refine ⟨_, _, rfl, ?_⟩
        generalize pm64 x = mx at *
        generalize pe64 x = ex at *
        generalize pm64 R = mr at *
        generalize pe64 R = er at *
        have esh : IntKind.wrap .i64 ((IntKind.wrap .i64 (ex - (IntKind.wrap .i64 ((2 : Int) * er)))) + (2 : Int)) = (sh : Int) := by
          have a1 : IntKind.wrap .i64 ((2 : Int) * er) = 2 * er := wrap_i64 (by omega) (by omega)
          have a2 : IntKind.wrap .i64 (ex - 2 * er) = ex - 2 * er := wrap_i64 (by omega) (by omega)
          rw [a1, a2, wrap_i64 (by omega) (by omega)]; omega
        have e2p : IntKind.wrap .i64 ((IntKind.wrap .i64 ((2 : Int) * 53)) + (2 : Int)) = 108 := by decide
        rw [esh, e2p]
        -- the shift's bounds
        obtain ⟨C, hC⟩ : ∃ C, C = 2 * mr + 1 := ⟨_, rfl⟩
        obtain ⟨D, hD⟩ : ∃ D, D = 2 * mr - 1 := ⟨_, rfl⟩
        have hCC : C * C ≤ 18014398509481983 * 18014398509481983 := sq_le (by omega)
        have hDD : 9007199254740991 * 9007199254740991 ≤ D * D := sq_le (by omega)
        rw [← hC] at k3
        rw [← hD] at k2
        have hprod : mx * 2 ^ sh < 2 ^ 108 := by
          have : (18014398509481983 : Nat) * 18014398509481983 < 2 ^ 108 := by decide
          generalize mx * 2 ^ sh = y at *
          generalize C * C = cc at *
          omega
        have hmx0 : mx ≠ 0 := by
          intro h0
          rw [h0, Nat.zero_mul] at k2
          generalize D * D = dd at *
          omega
        have hsh2 : sh < 108 := by
          rcases Nat.lt_or_ge sh 108 with h | h
          · exact h
          · exfalso
            have a1 : 2 ^ 108 ≤ 2 ^ sh := Nat.pow_le_pow_right (by omega) h
            have a2 : 1 * 2 ^ sh ≤ mx * 2 ^ sh := Nat.mul_le_mul_right _ (by omega)
            rw [Nat.one_mul] at a2
            exact absurd (Nat.lt_of_le_of_lt (Nat.le_trans a1 a2) hprod) (Nat.lt_irrefl _)
        have hsh1 : 1 ≤ sh := by
          rcases Nat.eq_zero_or_pos sh with h | h
          · exfalso
            rw [h, Nat.pow_zero, Nat.mul_one] at k2
            have : 9007199254740992 < (9007199254740991 : Nat) * 9007199254740991 := by decide
            generalize D * D = dd at *
            omega
          · exact h
        refine cond_false' (decide_eq_false (by omega)) (cond_false' (decide_eq_false (by omega)) ?_)
        refine numlaw_KeptRoot.step3 _ _ _ _ _ _ ?_
        unfold numlaw_KeptRoot.V3
        rw [e2p]
        have ed : IntKind.wrap .u64 (IntKind.wrap .i64 (108 - (sh : Int))) = ((108 - sh : Nat) : Int) := by
          have a1 : 108 - (sh : Int) = ((108 - sh : Nat) : Int) := by omega
          rw [a1, wrap_i64 (by omega) (by omega), wrap64_n _ (by omega)]
        have ediv : Int.fdiv (mx : Int) (2 ^ (min (Int.toNat ((108 - sh : Nat) : Int)) (IntKind.bits .u64))) = 0 := by
          have a0 : IntKind.bits .u64 = 64 := by decide
          rw [Int.toNat_natCast, fdiv_n, a0]
          have a1 : mx < 2 ^ min (108 - sh) 64 := by
            rcases Nat.le_total (108 - sh) 64 with h | h
            · rw [Nat.min_eq_left h]
              have a2 : 2 ^ 108 = 2 ^ (108 - sh) * 2 ^ sh := by rw [← Nat.pow_add]; congr 1; omega
              rw [a2] at hprod
              exact Nat.lt_of_mul_lt_mul_right hprod
            · rw [Nat.min_eq_right h]; omega
          rw [Nat.div_eq_of_lt a1]; rfl
        rw [ed, ediv]
        refine ⟨by omega, cond_false' rfl ?_⟩
        have big : (2 : Nat) ^ 108 < 340282366920938463463374607431768211456 := by decide
        obtain ⟨xh, xl, x1, x2, x3, x4, x5⟩ := shl_pair mx sh hsh1 (by omega) (by omega) (Nat.lt_trans hprod big)
        obtain ⟨lh, ll, y1, y2, y3, y4⟩ := sq_pair D (by omega)
        obtain ⟨uh, ul, u1, u2, u3, u4⟩ := sq_pair C (by omega)
        refine (numlaw_Shl.pure _ _ w3 x2).mono ?_
        rintro v w4 ⟨rfl, rfl⟩
        rw [x1]
        refine ⟨_, _, rfl, ?_⟩
        have eD : IntKind.wrap .u64 ((IntKind.wrap .u64 ((2 : Int) * (mr : Int))) - (1 : Int)) = (D : Int) := by
          have a1 : IntKind.wrap .u64 ((2 : Int) * (mr : Int)) = 2 * (mr : Int) := wrap_u64 (by omega) (by omega)
          rw [a1, wrap_u64 (by omega) (by omega)]; omega
        have eC : IntKind.wrap .u64 ((IntKind.wrap .u64 ((2 : Int) * (mr : Int))) + (1 : Int)) = (C : Int) := by
          have a1 : IntKind.wrap .u64 ((2 : Int) * (mr : Int)) = 2 * (mr : Int) := wrap_u64 (by omega) (by omega)
          rw [a1, wrap_u64 (by omega) (by omega)]; omega
        rw [eD, eC]
        refine (numlaw_Sq.pure _ w4).mono ?_
        rintro v w5 ⟨rfl, rfl⟩
        rw [y1]
        refine ⟨_, _, rfl, (numlaw_Sq.pure _ w5).mono ?_⟩
        rintro v w6 ⟨rfl, rfl⟩
        rw [u1]
        refine ⟨_, _, rfl, ?_⟩
        have fin : numlaw_KeptRoot.L5 xh xl uh ul (fun v w' => v = .bool true ∧ Same [] w.heap.size w w') w6 := by
          refine numlaw_KeptRoot.step5 _ _ _ _ _ _ ?_
          unfold numlaw_KeptRoot.V5
          exact pair_le x4 u3 (by rw [x5, u4]; exact k3) T3
        refine pair_ge x4 y3 (by rw [x5, y4]; exact k2) ?_
        refine numlaw_KeptRoot.step4 _ _ _ _ _ _ _ _ _ _ ?_
        unfold numlaw_KeptRoot.V4
        refine ⟨by decide, ?_⟩
        have eB : IntKind.wrap .u64 ((1 : Int) * 2 ^ (min (Int.toNat (IntKind.wrap .u64 (IntKind.wrap .i64 (53 - (1 : Int))))) (IntKind.bits .u64))) = 4503599627370496 := by decide
        rw [eB]
        refine cond_intro (fun hmr => ?_) (fun _ => fin)
        have hmrB : mr = 4503599627370496 := by have := eq_of_beq hmr; omega
        have es2 : IntKind.wrap .i64 ((sh : Int) + 2) = ((sh + 2 : Nat) : Int) := by rw [wrap_i64 (by omega) (by omega)]; omega
        rw [es2]
        have hprod2 : mx * 2 ^ (sh + 2) < 340282366920938463463374607431768211456 := by
          rw [Nat.pow_add, ← Nat.mul_assoc]
          have a1 : (2 : Nat) ^ 108 * 4 ≤ 340282366920938463463374607431768211456 := by decide
          have a2 : (2 : Nat) ^ 2 = 4 := by decide
          rw [a2]
          generalize mx * 2 ^ sh = y at *
          omega
        obtain ⟨zh, zl, z1, z2, z3, z4, z5⟩ := shl_pair mx (sh + 2) (by omega) (by omega) (by omega) hprod2
        obtain ⟨Q, hQ⟩ : ∃ Q, Q = 4 * mr - 1 := ⟨_, rfl⟩
        obtain ⟨vh, vl, v1, v2, v3, v4⟩ := sq_pair Q (by omega)
        refine (numlaw_Shl.pure _ _ w6 z2).mono ?_
        rintro v w7 ⟨rfl, rfl⟩
        rw [z1]
        refine ⟨_, _, rfl, ?_⟩
        have eQ : IntKind.wrap .u64 ((IntKind.wrap .u64 ((4 : Int) * (mr : Int))) - (1 : Int)) = (Q : Int) := by
          have a1 : IntKind.wrap .u64 ((4 : Int) * (mr : Int)) = 4 * (mr : Int) := wrap_u64 (by omega) (by omega)
          rw [a1, wrap_u64 (by omega) (by omega)]; omega
        rw [eQ]
        refine (numlaw_Sq.pure _ w7).mono ?_
        rintro v w8 ⟨rfl, rfl⟩
        rw [v1]
        refine ⟨_, _, rfl, ?_⟩
        have k4' := k4 hmrB
        rw [← hQ] at k4'
        exact pair_ge z4 v3 (by rw [z5, v4]; exact k4') fin

end Go.Proofs.Qxb6500320a
