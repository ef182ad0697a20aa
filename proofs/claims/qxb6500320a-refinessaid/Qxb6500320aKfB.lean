/-
  KeepsFloat: the rest of the clauses, the walk.
-/
import Derived.Test.Qxb6500320aKfA
set_option linter.unusedSimpArgs false
set_option linter.unusedVariables false
set_option maxRecDepth 100000
namespace Go.Proofs.Qxb6500320a
open Go Go.Vc

theorem cond_dec {p : Prop} [Decidable p] {A B : Prop} (h1 : p → A) (h2 : ¬ p → B) : cond (decide p) A B := by
  by_cases h : p
  · rw [decide_eq_true h]; exact h1 h
  · rw [decide_eq_false h]; exact h2 h

/-! ### F0 -/
theorem can_fact (op a b : Int) (ha : U64 a) (hb : U64 b) (h : (141 ≤ op ∧ op ≤ 151) ∨ (155 ≤ op ∧ op ≤ 165) ∨ (178 ≤ op ∧ op ≤ 187)) :
    ∃ v : Nat, (ap op a b).1 = (v : Int) ∧ (((api_NumSig.F op).2.2 = 125 ∧ v < 4294967296 ∧ Can32 v) ∨ ((api_NumSig.F op).2.2 = 124 ∧ v < 18446744073709551616 ∧ Can64 v)) := by
  have wa := wrap_u32_rng a
  have wb := wrap_u32_rng b
  unfold U64 at ha hb
  rw [sig_eq op (by omega) (by omega)]
  rcases h with h | h | h
  · obtain ⟨X, hX⟩ : ∃ X : Nat, IntKind.wrap .u32 a = (X : Int) := ⟨(IntKind.wrap .u32 a).toNat, by omega⟩
    obtain ⟨Y, hY⟩ : ∃ Y : Nat, IntKind.wrap .u32 b = (Y : Int) := ⟨(IntKind.wrap .u32 b).toNat, by omega⟩
    obtain ⟨v, h1, h2⟩ := fl32_can op X Y (by omega) (by omega) h.1 h.2
    have hr := fl32_rng op X Y (by omega) (by omega)
    refine ⟨v, ?_, .inl ⟨?_, by omega, h2⟩⟩
    · rw [ap_flt32 op a b (by omega) (by omega), hX, hY]
      show IntKind.wrap .u64 (fl32 op X Y) = _
      rw [wrap_small _ hr, h1]
    · unfold sg
      rw [if_neg (by omega), if_neg (by omega), if_neg (by omega), if_neg (by omega), if_neg (by omega), if_neg (by omega), if_pos (by omega)]
  · obtain ⟨X, rfl⟩ : ∃ X : Nat, a = (X : Int) := ⟨a.toNat, by omega⟩
    obtain ⟨Y, rfl⟩ : ∃ Y : Nat, b = (Y : Int) := ⟨b.toNat, by omega⟩
    obtain ⟨v, h1, h2⟩ := fl64_can op X Y (by omega) (by omega) h.1 h.2
    have hr := fl64_rng op X Y (by omega) (by omega)
    refine ⟨v, ?_, .inr ⟨?_, by omega, h2⟩⟩
    · rw [ap_flt64 op X Y (by omega) (by omega)]; exact h1
    · unfold sg
      rw [if_neg (by omega), if_neg (by omega), if_neg (by omega), if_neg (by omega), if_neg (by omega), if_neg (by omega), if_neg (by omega), if_pos (by omega)]
  · have hc : op = 178 ∨ op = 179 ∨ op = 180 ∨ op = 181 ∨ op = 182 ∨ op = 183 ∨ op = 184 ∨ op = 185 ∨ op = 186 ∨ op = 187 := by omega
    rw [ap_conv op a b (by omega) (by omega)]
    have w32 : ∀ n : Nat, n < 4294967296 → W64 (n : Int) = (n : Int) := fun n hn => by unfold W64; exact wrap64_n n (by omega)
    rcases hc with rfl | rfl | rfl | rfl | rfl | rfl | rfl | rfl | rfl | rfl
    · exact ⟨_, w32 _ (near_lt32 _), .inl ⟨rfl, near_lt32 _, near32_can _⟩⟩
    · exact ⟨_, w32 _ (near_lt32 _), .inl ⟨rfl, near_lt32 _, near32_can _⟩⟩
    · exact ⟨_, w32 _ (near_lt32 _), .inl ⟨rfl, near_lt32 _, near32_can _⟩⟩
    · exact ⟨_, w32 _ (near_lt32 _), .inl ⟨rfl, near_lt32 _, near32_can _⟩⟩
    · have e : cv 182 a = dem a.toNat := rfl
      rw [e]
      unfold dem
      refine cond_all (P := fun p : Int × Int => ∃ v : Nat, p.1 = (v : Int) ∧ (((sg 182).2.2 = 125 ∧ v < 4294967296 ∧ Can32 v) ∨ ((sg 182).2.2 = 124 ∧ v < 18446744073709551616 ∧ Can64 v))) (fun _ => ⟨2139095040, rfl, .inl ⟨rfl, by decide, .inl (by decide)⟩⟩) (fun _ => ?_)
      refine cond_all (P := fun p : Int × Int => ∃ v : Nat, p.1 = (v : Int) ∧ (((sg 182).2.2 = 125 ∧ v < 4294967296 ∧ Can32 v) ∨ ((sg 182).2.2 = 124 ∧ v < 18446744073709551616 ∧ Can64 v))) (fun _ => ⟨4286578688, rfl, .inl ⟨rfl, by decide, .inl (by decide)⟩⟩) (fun _ => ?_)
      have hlt : ar32 (floatToFloatBits .f64 a.toNat .f32) < 4294967296 := ar32_lt _ fun r hr => ftf32_lt _ r hr
      exact ⟨_, w32 _ hlt, .inl ⟨rfl, hlt, ar32_can _⟩⟩
    · exact ⟨_, rfl, .inr ⟨rfl, near_lt64 _, near64_can _⟩⟩
    · exact ⟨_, rfl, .inr ⟨rfl, near_lt64 _, near64_can _⟩⟩
    · exact ⟨_, rfl, .inr ⟨rfl, near_lt64 _, near64_can _⟩⟩
    · exact ⟨_, rfl, .inr ⟨rfl, near_lt64 _, near64_can _⟩⟩
    · exact ⟨_, rfl, .inr ⟨rfl, ar64_lt _ fun r hr => ftf64_lt _ r hr, ar64_can _⟩⟩

theorem KeptCanon_spec (op a b : Int) (ha : U64 a) (hb : U64 b) (w : World) : Runs Try.prog numlaw_KeptCanon.id #[.int .i64 op, .int .u64 a, .int .u64 b] w fun v w' => v = .bool true ∧ Same [] w.heap.size w w' := by
  refine numlaw_KeptCanon.enter _ _ _ _ _ ?_
  unfold numlaw_KeptCanon.V
  have L : (141 ≤ op ∧ op ≤ 151) ∨ (155 ≤ op ∧ op ≤ 165) ∨ (178 ≤ op ∧ op ≤ 187) → numlaw_KeptCanon.L1 op a b (fun v w' => v = .bool true ∧ Same [] w.heap.size w w') w := by
    intro h
    refine numlaw_KeptCanon.step1 _ _ _ _ _ ?_
    unfold numlaw_KeptCanon.V1
    refine (apL_spec op a b hb w).mono ?_
    rintro v w1 ⟨rfl, S1⟩
    refine ⟨_, rfl, (api_NumSig.pure op w1).mono ?_⟩
    rintro v w2 ⟨rfl, rfl⟩
    refine ⟨_, _, _, rfl, ?_⟩
    obtain ⟨v, e, h1 | h1⟩ := can_fact op a b ha hb h
    · obtain ⟨hu, hv, hc⟩ := h1
      rw [e, hu, andnot32 v hv]
      refine cond_true' rfl (cond_dec (fun _ => ⟨rfl, S1⟩) (fun hn => ⟨?_, S1⟩))
      rcases hc with hc | hc
      · omega
      · rw [hc]; rfl
    · obtain ⟨hu, hv, hc⟩ := h1
      rw [e, hu, andnot64 v hv]
      refine cond_false' rfl (cond_dec (fun _ => ⟨rfl, S1⟩) (fun hn => ⟨?_, S1⟩))
      rcases hc with hc | hc
      · omega
      · rw [hc]; rfl
  repeat' (refine cond_dec (fun _ => ?_) (fun _ => ?_))
  all_goals first | exact ⟨rfl, Same.refl _ _ _⟩ | exact L (by omega)

/-! ### F4 -/
theorem low32 (a : Int) (ha : U64 a) : bAnd .u64 a 4294967295 = ((a.toNat % 4294967296 : Nat) : Int) := by
  unfold U64 at ha
  have := andm32 a ha.1 ha.2
  rw [this]; omega

theorem ap_promote (X : Nat) (hX : X < 4294967296) : (ap 187 X 0).1 = ((ar64 (floatToFloatBits .f32 X .f64) : Nat) : Int) := by
  rw [ap_conv 187 X 0 (by decide) (by decide)]
  show ((ar64 (floatToFloatBits .f32 (IntKind.wrap .u32 (X : Int)).toNat .f64) : Nat) : Int) = _
  rw [wrap32_n X hX, Int.toNat_natCast]
theorem ap_demote (p : Nat) : ap 182 p 0 = dem p := by
  rw [ap_conv 182 p 0 (by decide) (by decide)]
  show dem ((p : Int).toNat) = _
  rw [Int.toNat_natCast]
theorem W3264_id (X : Nat) (hX : X < 4294967296) : W3264 (X : Int) = (X : Int) := by
  unfold W3264; rw [wrap32_n X hX, wrap64_n X (by omega)]

theorem KeptBack_spec (a : Int) (ha : U64 a) (w : World) : Runs Try.prog numlaw_KeptBack.id #[.int .u64 a] w fun v w' => v = .bool true ∧ Same [] w.heap.size w w' := by
  refine numlaw_KeptBack.enter _ _ _ ?_
  unfold numlaw_KeptBack.V
  rw [low32 a ha]
  generalize hXe : a.toNat % 4294967296 = X
  have hX : X < 4294967296 := by omega
  clear hXe
  refine (apL_spec _ _ _ u64_0 w).mono ?_
  rintro v w1 ⟨rfl, S1⟩
  refine ⟨_, rfl, (apL_spec _ _ _ u64_0 w1).mono ?_⟩
  rintro v w2 ⟨rfl, S2⟩
  have T2 := S1.trans (S2.mono S1.size (by simp))
  refine ⟨_, rfl, (apL_spec _ _ _ u64_0 w2).mono ?_⟩
  rintro v w3 ⟨rfl, S3⟩
  have T3 := T2.trans (S3.mono T2.size (by simp))
  refine ⟨_, rfl, (apL_spec _ _ _ u64_0 w3).mono ?_⟩
  rintro v w4 ⟨rfl, S4⟩
  have T4 := T3.trans (S4.mono T3.size (by simp))
  refine ⟨_, rfl, (apL_spec _ _ _ u64_0 w4).mono ?_⟩
  rintro v w5 ⟨rfl, S5⟩
  have T5 := T4.trans (S5.mono T4.size (by simp))
  refine ⟨_, rfl, (apL_spec _ _ _ u64_0 w5).mono ?_⟩
  rintro v w6 ⟨rfl, S6⟩
  have T6 := T5.trans (S6.mono T5.size (by simp))
  refine ⟨_, rfl, ?_⟩
  have e188 : ap 188 X 0 = ((X : Int), 0) := by
    rw [ap_conv 188 X 0 (by decide) (by decide)]
    show (W3264 (X : Int), (0 : Int)) = _
    rw [W3264_id X hX]
  have e190 : ap 190 X 0 = ((X : Int), 0) := by
    rw [ap_conv 190 X 0 (by decide) (by decide)]
    show (W3264 (X : Int), (0 : Int)) = _
    rw [W3264_id X hX]
  have e189 : ap 189 a 0 = (a, 0) := by rw [ap_conv 189 a 0 (by decide) (by decide)]; rfl
  have e191 : ap 191 a 0 = (a, 0) := by rw [ap_conv 191 a 0 (by decide) (by decide)]; rfl
  rw [ap_promote X hX, ap_demote, e188, e190, e189, e191]
  refine cond_false' (by simp) (cond_false' (by simp) ?_)
  refine numlaw_KeptBack.step1 _ _ _ _ _ ?_
  unfold numlaw_KeptBack.V1
  rw [andnot32 X hX]
  refine cond_dec (fun h => ?_) (fun h => ?_)
  · rw [back_nan X (by omega), dem_nan]
    exact cond_true' rfl ⟨rfl, T6⟩
  · by_cases hf : X % 2147483648 < 2139095040
    · rw [back_finite X hX hf]; exact ⟨by simp, T6⟩
    · have hc : X = 2139095040 ∨ X = 4286578688 := by omega
      rcases hc with rfl | rfl
      · rw [back_inf.1]; exact ⟨rfl, T6⟩
      · rw [back_inf.2]; exact ⟨rfl, T6⟩

/-! ### F5, F6 -/
theorem near_pos32 (n : Int) (h : 0 ≤ n) : FloatKind.nearest .f32 n < 2147483648 := by
  have e : FloatKind.nearest .f32 n = Ieee.single.write (.number (decide (n < 0)) n.natAbs 0) := rfl
  rw [e, decide_eq_false (by omega), write_number]
  have hi : Ieee.single.infRung < 2147483648 := by decide
  generalize rungOf Ieee.single false n.natAbs 0 = R
  have hw : ∀ r, r < 2147483648 → Ieee.single.word false r < 2147483648 := fun r hr => hr
  apply hw
  generalize Ieee.single.infRung = I at hi
  by_cases h0 : n.natAbs = 0
  · rw [if_pos h0]; omega
  · rw [if_neg h0]; omega
theorem near_pos64 (n : Int) (h : 0 ≤ n) : FloatKind.nearest .f64 n < 9223372036854775808 := by
  have e : FloatKind.nearest .f64 n = Ieee.double.write (.number (decide (n < 0)) n.natAbs 0) := rfl
  rw [e, decide_eq_false (by omega), write_number]
  have hi : Ieee.double.infRung < 9223372036854775808 := by decide
  generalize rungOf Ieee.double false n.natAbs 0 = R
  have hw : ∀ r, r < 9223372036854775808 → Ieee.double.word false r < 9223372036854775808 := fun r hr => hr
  apply hw
  generalize Ieee.double.infRung = I at hi
  by_cases h0 : n.natAbs = 0
  · rw [if_pos h0]; omega
  · rw [if_neg h0]; omega

theorem or_top (p q k : Nat) (hk : k < 64) (hp : p < 2 ^ k) (hq : q < 2 ^ k) : ((Int.fdiv (bOr .u64 (p : Int) (q : Int)) (2 ^ k)) == (0 : Int)) = true := by
  have hle : 2 ^ k ≤ 2 ^ 63 := Nat.pow_le_pow_right (by omega) (by omega)
  rw [bOr64_n p q (by omega) (by omega), fdiv_n, Nat.div_eq_of_lt (Nat.or_lt_two_pow hp hq)]; rfl

theorem pow_cast (K : Nat) : ((2 : Int) ^ K) = ((2 ^ K : Nat) : Int) := by simp

theorem and_one_i64 (i : Int) (h : bAnd .i64 i 1 = 1) : i % 2 = 1 := by
  unfold bAnd at h
  have e : (BitVec.ofInt (IntKind.bits .i64) i &&& BitVec.ofInt (IntKind.bits .i64) 1).toNat = (i % 18446744073709551616).toNat % 2 := by
    rw [BitVec.toNat_and]
    have e1 : (BitVec.ofInt (IntKind.bits .i64) 1).toNat = 1 := by decide
    have e2 : (BitVec.ofInt (IntKind.bits .i64) i).toNat = (i % 18446744073709551616).toNat := by
      rw [BitVec.toNat_ofInt]; rfl
    rw [e1, e2, Nat.and_one_is_mod]
  rw [e] at h
  rw [wrap_i64 (by omega) (by omega)] at h
  omega

theorem KeptInts_spec (a : Int) (ha : U64 a) (w : World) : Runs Try.prog numlaw_KeptInts.id #[.int .u64 a] w fun v w' => v = .bool true ∧ Same [] w.heap.size w w' := by
  refine numlaw_KeptInts.enter _ _ _ ?_
  unfold numlaw_KeptInts.V
  rw [low32 a ha]
  generalize hXe : a.toNat % 4294967296 = X
  have hX : X < 4294967296 := by omega
  clear hXe
  -- the two floats
  obtain ⟨n, hn⟩ : ∃ n : Int, n = IntKind.wrap .i32 (X : Int) := ⟨_, rfl⟩
  have hns : n = sgn 2147483648 X := by rw [hn]; exact wrap_i32_sgn X (by omega) (by omega)
  have hnr : -2147483648 ≤ n ∧ n < 2147483648 ∧ n % 4294967296 = X := by
    rw [hns]; unfold sgn; split <;> omega
  have hnabs : n.natAbs ≤ 4294967296 := by omega
  have e183 : (ap 183 X 0).1 = ((FloatKind.nearest .f64 n : Nat) : Int) := by
    rw [ap_conv 183 X 0 (by decide) (by decide)]
    show ((FloatKind.nearest .f64 (IntKind.wrap .i32 (IntKind.wrap .u32 (X : Int))) : Nat) : Int) = _
    rw [wrap32_n X hX, ← hn]
  have e184 : (ap 184 X 0).1 = ((FloatKind.nearest .f64 (X : Int) : Nat) : Int) := by
    rw [ap_conv 184 X 0 (by decide) (by decide)]
    show ((FloatKind.nearest .f64 (IntKind.wrap .u32 (X : Int)) : Nat) : Int) = _
    rw [wrap32_n X hX]
  obtain ⟨r0, w0, l0, v0, H0⟩ := num_word n 0 1074 (by decide) (by decide) (by decide) (by omega)
  obtain ⟨r1, w1', l1, v1, H1⟩ := num_word (X : Int) 0 1074 (by decide) (by decide) (by decide) (by omega)
  have hs : FloatKind.nearest .f64 n = Ieee.double.word (decide (n < 0)) r0 := by rw [near_eq, w0]
  have hu : FloatKind.nearest .f64 (X : Int) = Ieee.double.word (decide ((X : Int) < 0)) r1 := by rw [near_eq, w1']
  have hW3 : W3264 n = (X : Int) := by
    unfold W3264
    rw [wrap_u32_mod, hnr.2.2, wrap64_n X (by omega)]
  have e170 : ap 170 ((FloatKind.nearest .f64 n : Nat) : Int) 0 = ((X : Int), 0) := by
    rw [ap_conv 170 _ 0 (by decide) (by decide)]
    show tr3 (((FloatKind.nearest .f64 n : Nat) : Int).toNat) = _
    rw [Int.toNat_natCast, hs, tr3_int _ n H0 hnr.1 hnr.2.1, hW3]
  have e171 : ap 171 ((FloatKind.nearest .f64 (X : Int) : Nat) : Int) 0 = ((X : Int), 0) := by
    rw [ap_conv 171 _ 0 (by decide) (by decide)]
    show tr4 (((FloatKind.nearest .f64 (X : Int) : Nat) : Int).toNat) = _
    rw [Int.toNat_natCast, hu, tr4_int _ X H1 (by omega) (by omega)]
    unfold W64; rw [wrap64_n X (by omega)]
  refine (apL_spec _ _ _ u64_0 w).mono ?_
  rintro v w1 ⟨rfl, S1⟩
  refine ⟨_, rfl, (apL_spec _ _ _ u64_0 w1).mono ?_⟩
  rintro v w2 ⟨rfl, S2⟩
  have T2 := S1.trans (S2.mono S1.size (by simp))
  rw [e183, e184]
  refine ⟨_, rfl, (Apply_spec _ _ _ (by decide) (by decide) w2).mono ?_⟩
  rintro v w3 ⟨rfl, S3⟩
  have T3 := T2.trans (S3.mono T2.size (by simp))
  refine ⟨_, _, rfl, (Apply_spec _ _ _ (by decide) (by decide) w3).mono ?_⟩
  rintro v w4 ⟨rfl, S4⟩
  have T4 := T3.trans (S4.mono T3.size (by simp))
  refine ⟨_, _, rfl, ?_⟩
  rw [e170, e171]
  refine cond_false' (by simp) (cond_false' (by simp) (cond_false' rfl (cond_false' rfl ?_)))
  -- halves
  obtain ⟨r, h1, h2, h3, h4⟩ := half_word n hnabs
  obtain ⟨t, g1, g2, g3⟩ := near_half n r hnabs h2 h3 h4
  have hrnd := rnd_bd n.natAbs
  have hsgn : (if decide (n < 0) then -((rnd n.natAbs * 2 ^ 1074 : Nat) : Int) else ((rnd n.natAbs * 2 ^ 1074 : Nat) : Int)) = (if n < 0 then -(rnd n.natAbs : Int) else (rnd n.natAbs : Int)) * 2 ^ 1074 := by
    have c := pow_cast 1074
    generalize (2 ^ 1074 : Nat) = D at c
    rw [c, Int.natCast_mul]
    by_cases h : n < 0
    · rw [decide_eq_true h, if_pos h, if_pos rfl, Int.neg_mul]
    · rw [decide_eq_false h, if_neg h]; rfl
  have Ht := hold_word Ieee.double (decide (n < 0)) t _ g2 g3
  rw [hsgn] at Ht
  generalize hv : (if n < 0 then -(rnd n.natAbs : Int) else (rnd n.natAbs : Int)) = V at Ht
  have hVb : -1 ≤ 2 * V - n ∧ 2 * V - n ≤ 1 ∧ (n % 2 = 1 → V % 2 = 0) ∧ -2147483648 ≤ V ∧ V < 2147483648 := by
    by_cases h : n < 0
    · rw [if_pos h] at hv; omega
    · rw [if_neg h] at hv; omega
  have hsw : t < 9223372036854775808 := by rw [ir64] at g2; omega
  have hwlt : ∀ (s : Bool) (q : Nat), q < 9223372036854775808 → Ieee.double.word s q < 18446744073709551616 := fun s q hq => by
    unfold Ieee.Format.word; rw [sw64]; split <;> omega
  have hrl : r < 9223372036854775808 := by rw [ir64] at h2; omega
  have e163 : (ap 163 ((FloatKind.nearest .f64 n : Nat) : Int) 4611686018427387904).1 = ((Ieee.double.word (decide (n < 0)) r : Nat) : Int) := by
    rw [ap_flt64 163 _ _ (by decide) (by decide)]; exact h1
  have e158 : (ap 158 ((Ieee.double.word (decide (n < 0)) r : Nat) : Int) 0).1 = ((Ieee.double.word (decide (n < 0)) t : Nat) : Int) := by
    rw [ap_flt64 158 _ _ (by decide) (by decide)]
    show ((cn64 (near64 (((Ieee.double.word (decide (n < 0)) r : Nat) : Int).toNat)) : Nat) : Int) = _
    rw [Int.toNat_natCast, g1]
    unfold cn64; rw [Ht.notNaN]; rfl
  have e170b : (ap 170 ((Ieee.double.word (decide (n < 0)) t : Nat) : Int) 0).1 = W3264 V := by
    rw [ap_conv 170 _ 0 (by decide) (by decide)]
    show (tr3 (((Ieee.double.word (decide (n < 0)) t : Nat) : Int).toNat)).1 = _
    rw [Int.toNat_natCast, tr3_int _ V Ht hVb.2.2.2.1 hVb.2.2.2.2]
  refine numlaw_KeptInts.step1 _ _ _ _ _ _ ?_
  unfold numlaw_KeptInts.V1
  refine (apL_spec _ _ _ (by unfold U64; decide) w4).mono ?_
  rintro v w5 ⟨rfl, S5⟩
  have T5 := T4.trans (S5.mono T4.size (by simp))
  rw [e163]
  refine ⟨_, rfl, (apL_spec _ _ _ u64_0 w5).mono ?_⟩
  rintro v w6 ⟨rfl, S6⟩
  have T6 := T5.trans (S6.mono T5.size (by simp))
  rw [e158]
  refine ⟨_, rfl, (apL_spec _ _ _ u64_0 w6).mono ?_⟩
  rintro v w7 ⟨rfl, S7⟩
  have T7 := T6.trans (S7.mono T6.size (by simp))
  rw [e170b]
  refine ⟨_, rfl, ?_⟩
  have eV : IntKind.wrap .i64 (IntKind.wrap .i32 (IntKind.wrap .u32 (W3264 V))) = V := by
    have e1 : W3264 V = V % 4294967296 := by unfold W3264; rw [wrap_u32_mod, wrap_u64 (by omega) (by omega)]
    have e2 : IntKind.wrap .u32 (V % 4294967296) = V % 4294967296 := by rw [wrap_u32_mod]; omega
    have e3 : IntKind.wrap .i32 (V % 4294967296) = V := by
      rw [wrap_i32_sgn _ (by omega) (by omega)]; unfold sgn; split <;> omega
    rw [e1, e2, e3, wrap_i64 (by omega) (by omega)]
  have eN : IntKind.wrap .i64 (IntKind.wrap .i32 (IntKind.wrap .u32 (X : Int))) = n := by
    rw [wrap32_n X hX, ← hn, wrap_i64 (by omega) (by omega)]
  rw [eV, eN]
  have e2V : IntKind.wrap .i64 (2 * V) = 2 * V := wrap_i64 (by omega) (by omega)
  have ed : IntKind.wrap .i64 (2 * V - n) = 2 * V - n := wrap_i64 (by omega) (by omega)
  rw [e2V, ed]
  refine cond_false' (decide_eq_false (by omega)) (cond_false' (decide_eq_false (by omega)) ?_)
  have last : numlaw_KeptInts.L2 a ((FloatKind.nearest .f64 (X : Int) : Nat) : Int) (fun v w' => v = .bool true ∧ Same [] w.heap.size w w') w7 := by
    refine numlaw_KeptInts.step2 _ _ _ _ ?_
    unfold numlaw_KeptInts.V2
    refine (apL_spec _ _ _ u64_0 w7).mono ?_
    rintro v w8 ⟨rfl, S8⟩
    have T8 := T7.trans (S8.mono T7.size (by simp))
    refine ⟨_, rfl, (apL_spec _ _ _ u64_0 w8).mono ?_⟩
    rintro v w9 ⟨rfl, S9⟩
    have T9 := T8.trans (S9.mono T8.size (by simp))
    refine ⟨_, rfl, (apL_spec _ _ _ u64_0 w9).mono ?_⟩
    rintro v w10 ⟨rfl, S10⟩
    have T10 := T9.trans (S10.mono T9.size (by simp))
    refine ⟨_, rfl, ?_⟩
    have k1 := near_pos32 (IntKind.wrap .u32 a) (wrap_u32_rng a).1
    have k2 := near_pos32 a ha.1
    have k3 := near_pos64 a ha.1
    have k4 := near_pos64 (X : Int) (by omega)
    have e179 : (ap 179 a 0).1 = ((FloatKind.nearest .f32 (IntKind.wrap .u32 a) : Nat) : Int) := by
      rw [ap_conv 179 a 0 (by decide) (by decide)]
      show W64 ((FloatKind.nearest .f32 (IntKind.wrap .u32 a) : Nat) : Int) = _
      unfold W64; rw [wrap64_n _ (by omega)]
    have e181 : (ap 181 a 0).1 = ((FloatKind.nearest .f32 a : Nat) : Int) := by
      rw [ap_conv 181 a 0 (by decide) (by decide)]
      show W64 ((FloatKind.nearest .f32 a : Nat) : Int) = _
      unfold W64; rw [wrap64_n _ (by omega)]
    have e186 : (ap 186 a 0).1 = ((FloatKind.nearest .f64 a : Nat) : Int) := by
      rw [ap_conv 186 a 0 (by decide) (by decide)]; rfl
    rw [e179, e181, e186]
    exact cond_true' (or_top _ _ 31 (by decide) k1 k2) ⟨by rw [or_top _ _ 63 (by decide) k4 k3], T10⟩
  refine cond_intro (fun hodd => ?_) (fun _ => last)
  have hn2 := and_one_i64 n (eq_of_beq hodd)
  have hV2 := hVb.2.2.1 hn2
  refine cond_false' ?_ last
  have e1 : W3264 V = ((V % 4294967296).toNat : Int) := by
    unfold W3264; rw [wrap_u32_mod, wrap_u64 (by omega) (by omega)]; omega
  rw [e1, and1 _ (by omega), beq_eq_false_iff_ne]
  omega

/-! ### A step, and the walk -/
theorem KeptF_spec (o : OpV) (hs : o.s.size ≤ 9223372036854775807) (w : World) : Runs Try.prog numlaw_KeptF.id #[o.val] w fun v w' => v = .bool true ∧ Same [] w.heap.size w w' := by
  refine numlaw_KeptF.enter o.kind o.a o.b o.c o.s o.t _ _ ?_
  unfold numlaw_KeptF.V
  refine letB_intro fun b hb => letW_intro fun w1 hw1 => ?_
  have hO : OpAt w1 b o := by rw [hw1, hb]; exact OpAt.new w o T_api_Op
  have hS : Same [] w.heap.size w w1 := by rw [hw1]; exact (Same.refl _ _ _).alloc (Nat.le_refl _) _
  clear hw1 hb
  have main : numlaw_KeptF.L1 b (fun v w' => v = .bool true ∧ Same [] w.heap.size w w') w1 := by
    refine numlaw_KeptF.step1 _ _ _ ?_
    unfold numlaw_KeptF.V1
    refine ⟨_, _, _, _, _, _, hO.c0, hO.c1, hO.c2, hO.c3, hO.c4, hO.c5, (Words_spec o hs w1).mono ?_⟩
    rintro v w2 ⟨⟨x, y, rfl, hx, hy⟩, S2⟩
    have hO2 := hO.same S2 hO.lt (by simp)
    have T2 := hS.trans (S2.mono hS.size (by simp))
    refine ⟨_, _, rfl, _, hO2.c1, (KeptCanon_spec o.a x y hx hy w2).mono ?_⟩
    rintro v w3 ⟨rfl, S3⟩
    have hO3 := hO2.same S3 hO2.lt (by simp)
    have T3 := T2.trans (S3.mono T2.size (by simp))
    refine ⟨_, rfl, _, hO3.c1, (api_NumSig.pure _ w3).mono ?_⟩
    rintro v w4 ⟨rfl, rfl⟩
    refine ⟨_, _, _, rfl, cond_false' rfl ?_⟩
    generalize api_NumSig.F o.a = sg0
    obtain ⟨n, t, u⟩ := sg0
    simp only
    refine numlaw_KeptF.step2 _ _ _ _ _ _ _ ?_
    unfold numlaw_KeptF.V2
    refine cond_intro (fun _ => ⟨rfl, T3⟩) (fun _ => ?_)
    refine (F64_spec w4).mono ?_
    rintro v w5 ⟨rfl, S5⟩
    have T5 := T3.trans (S5.mono T3.size (by simp))
    refine ⟨_, _, _, _, _, _, rfl, ?_⟩
    refine letB_intro fun p hp => letW_intro fun w6 hw6 => ?_
    have g6 : FmtAt w6 p ⟨0, 0, 0, 0, 0, 0⟩ := by rw [hw6, hp]; exact FmtAt.new w5 ⟨0, 0, 0, 0, 0, 0⟩ T_numlaw_Fmt
    have T6 : Same [] w.heap.size w w6 := by rw [hw6]; exact T5.alloc T5.size _
    have hpw : w.heap.size ≤ p := by rw [hp]; exact T5.size
    clear hw6 hp
    refine g6.put_intro (g := fmt64) fun w7 g7 h7 => ?_
    have T7 := same_fresh T6 hpw h7
    -- floats: behind the record
    have floats : ∀ (f : FmtV) (x y : Int) (w8 : World), FmtAt w8 p f → Same [] w.heap.size w w8 → U64 x →
        (∀ w, Runs Try.prog numlaw_KeptBits.id #[f.val, .int .u64 x, .int .u64 y] w fun v w' => v = .bool true ∧ Same [] w.heap.size w w') →
        (∀ w, Runs Try.prog numlaw_KeptOrder.id #[f.val, .int .u64 x, .int .u64 y] w fun v w' => v = .bool true ∧ Same [] w.heap.size w w') →
        numlaw_KeptF.L4 x y p (fun v w' => v = .bool true ∧ Same [] w.heap.size w w') w8 := by
      intro f x y w8 g8 T8 hx hbits hord
      refine numlaw_KeptF.step4 _ _ _ _ _ ?_
      unfold numlaw_KeptF.V4
      refine ⟨_, _, _, _, _, _, g8.c0, g8.c1, g8.c2, g8.c3, g8.c4, g8.c5, (hbits w8).mono ?_⟩
      rintro v w9 ⟨rfl, S9⟩
      have g9 := g8.keep S9
      have T9 := T8.trans (S9.mono T8.size (by simp))
      refine ⟨_, rfl, ⟨_, _, _, _, _, _, g9.c0, g9.c1, g9.c2, g9.c3, g9.c4, g9.c5, (hord w9).mono ?_⟩⟩
      rintro v w10 ⟨rfl, S10⟩
      have T10 := T9.trans (S10.mono T9.size (by simp))
      refine ⟨_, rfl, ?_⟩
      refine numlaw_KeptF.step5 _ _ _ _ ?_
      unfold numlaw_KeptF.V5
      refine (KeptBack_spec x hx w10).mono ?_
      rintro v w11 ⟨rfl, S11⟩
      exact ⟨_, rfl, rfl, T10.trans (S11.mono T10.size (by simp))⟩
    have ints : ∀ u : Int, numlaw_KeptF.L3 x y p u true (fun v w' => v = .bool true ∧ Same [] w.heap.size w w') w7 := by
      intro u
      refine numlaw_KeptF.step3 _ _ _ _ _ _ _ ?_
      unfold numlaw_KeptF.V3
      refine cond_true' rfl ((KeptInts_spec x hx w7).mono ?_)
      rintro v w8 ⟨rfl, S8⟩
      exact ⟨_, rfl, rfl, T7.trans (S8.mono T7.size (by simp))⟩
    refine cond_intro (fun _ => ints _) (fun _ => ?_)
    cases hb : (t == (126 : Int)) with
    | true => exact ints _
    | false =>
      refine numlaw_KeptF.step3 _ _ _ _ _ _ _ ?_
      unfold numlaw_KeptF.V3
      refine cond_false' rfl (cond_intro (fun _ => ?_) (fun _ => ?_))
      · refine (F32_spec w7).mono ?_
        rintro v w8 ⟨rfl, S8⟩
        have T8 := T7.trans (S8.mono T7.size (by simp))
        have g8 := g7.keep S8
        refine ⟨_, _, _, _, _, _, rfl, ?_⟩
        refine g8.put_intro (g := fmt32) fun w9 g9 h9 => ?_
        have T9 := same_fresh T8 hpw h9
        rw [low32 x hx, low32 y hy]
        exact floats fmt32 _ _ w9 g9 T9 (u64_nat (by omega)) (fun w => KeptBits32_spec _ _ (by omega) (by omega) w) (fun w => KeptOrder32_spec _ _ (by omega) (by omega) w)
      · obtain ⟨X, rfl⟩ : ∃ n : Nat, x = (n : Int) := ⟨x.toNat, by unfold U64 at hx; omega⟩
        obtain ⟨Y, rfl⟩ : ∃ n : Nat, y = (n : Int) := ⟨y.toNat, by unfold U64 at hy; omega⟩
        have hx' : X < 18446744073709551616 := by unfold U64 at hx; omega
        have hy' : Y < 18446744073709551616 := by unfold U64 at hy; omega
        exact floats fmt64 _ _ w7 g7 T7 hx (fun w => KeptBits64_spec _ _ hx' hy' w) (fun w => KeptOrder64_spec _ _ hx' hy' w)
  refine ⟨_, hO.c0, cond_intro (fun _ => ?_) (fun _ => main)⟩
  exact ⟨_, hO.c0, cond_intro (fun _ => ⟨rfl, hS⟩) (fun _ => main)⟩

theorem KeepsFloatUpTo_loop (w0 : World) (a : Option Addr) (l c : Nat) (hs : ScriptAt w0 a l) (R : Value → World → Prop) (hR : ∀ w', Same [] w0.heap.size w0 w' → R (.int .i64 (-1)) w') :
    ∀ (f i : Nat) (w : World), i + f = l → Same [] w0.heap.size w0 w → numlaw_KeepsFloatUpTo.L1 a l c i R w := by
  intro f
  induction f with
  | zero =>
    intro i w hi C
    refine numlaw_KeepsFloatUpTo.step1 _ _ _ _ _ _ ?_
    unfold numlaw_KeepsFloatUpTo.V1
    exact cond_false' (by simp; omega) (hR w C)
  | succ f ih =>
    intro i w hi C
    refine numlaw_KeepsFloatUpTo.step1 _ _ _ _ _ _ ?_
    unfold numlaw_KeepsFloatUpTo.V1
    refine cond_true' (by simp; omega) ?_
    generalize hM : (4398046511104 : Int) = M
    refine cond_intro (fun hm => ?_) (fun hm => hR w C)
    subst hM
    have hm : (i : Int) < 4398046511104 := of_decide_eq_true hm
    rcases hs with h0 | ⟨b, off, rfl, hs⟩
    · omega
    obtain ⟨o, hF, hO0⟩ := hs i (by omega)
    have hO := hO0.same C
    refine numlaw_KeepsFloatUpTo.step2 _ _ _ _ _ _ ?_
    unfold numlaw_KeepsFloatUpTo.V2
    simp only [nilV_some, add_mk, Int.toNat_natCast]
    refine ⟨by omega, _, _, _, _, _, _, hO.c0, hO.c1, hO.c2, hO.c3, hO.c4, hO.c5, ?_⟩
    refine (KeptF_spec o hF.s w).mono ?_
    rintro v w1 ⟨rfl, hS1⟩
    refine ⟨_, rfl, cond_false' rfl ?_⟩
    have e : IntKind.wrap .i64 ((i : Int) + 1) = ((i + 1 : Nat) : Int) := by rw [wrap_i64 (by omega) (by omega)]; omega
    rw [e]
    exact ih (i + 1) w1 (by omega) (C.trans (hS1.mono C.size (by simp)))

theorem KeepsFloat_spec (w : World) (a : Option Addr) (l c : Nat) (hs : ScriptAt w a l) : Runs Try.prog numlaw_KeepsFloat.id #[.slice a l c] w fun v w' => v = .bool true ∧ Same [] w.heap.size w w' := by
  refine numlaw_KeepsFloat.enter _ _ _ _ _ ?_
  unfold numlaw_KeepsFloat.V
  have h : Runs Try.prog numlaw_KeepsFloatUpTo.id #[.slice a l c] w fun v w' => v = .int .i64 (-1) ∧ Same [] w.heap.size w w' := by
    refine numlaw_KeepsFloatUpTo.enter _ _ _ _ _ ?_
    unfold numlaw_KeepsFloatUpTo.V
    exact KeepsFloatUpTo_loop w a l c hs _ (fun w' h => ⟨rfl, h⟩) l 0 w (by omega) (Same.refl _ _ _)
  refine h.mono ?_
  rintro v w1 ⟨rfl, hS⟩
  exact ⟨_, rfl, rfl, hS⟩

end Go.Proofs.Qxb6500320a
