/-
  The model's sum.
-/
import Derived.Test.Qxb6500320aRfE
set_option linter.unusedSimpArgs false
set_option linter.unusedVariables false
set_option linter.unusedSectionVars false
set_option maxRecDepth 100000
namespace Go.Proofs.Qxb6500320a
open Go Go.Vc

/-- What the sum of a greater and a lesser is written as. -/
def sumW (f : Ieee.Format) (s t : Bool) (X N : Nat) (J : Int) : Nat := if s = t then f.write (.number s (X + N) J) else f.write (.number (if X = N then false else s) (X - N) J)

theorem sum_big (f : Ieee.Format) (s t : Bool) (m n k1 k2 d : Nat) (i j : Int) (hd : (d : Int) = (i - k1) - (j - k2)) (hle : n * 2 ^ k2 ≤ m * 2 ^ k1 * 2 ^ d) (hM : m * 2 ^ k1 * 2 ^ d ≠ 0) :
    ∃ r, (Ieee.Datum.number s m i).sum (.number t n j) = some r ∧ f.write r = sumW f s t (m * 2 ^ k1 * 2 ^ d) (n * 2 ^ k2) (j - k2) := by
  refine ⟨_, rfl, ?_⟩
  obtain ⟨D, hD⟩ : ∃ D : Nat, (D : Int) = min i j - (j - k2) := ⟨(min i j - (j - k2)).toNat, by omega⟩
  have hpD : (0 : Int) < 2 ^ D := Int.pow_pos (by decide)
  have h1 := signed_scale s m i (min i j) D (by omega)
  have h2 := signed_scale t n j (min i j) D (by omega)
  have eb : min i j - (D : Int) = j - k2 := by omega
  rw [eb] at h1 h2
  have e1 : (i - (j - (k2 : Int))).toNat = k1 + d := by omega
  have e2 : (j - (j - (k2 : Int))).toNat = k2 := by omega
  rw [e1, signed_as s m (k1 + d) (m * 2 ^ k1 * 2 ^ d) (by rw [Nat.pow_add, Nat.mul_assoc])] at h1
  rw [e2, signed_as t n k2 (n * 2 ^ k2) rfl] at h2
  show f.write (.number (if Ieee.signed s m (i - min i j).toNat + Ieee.signed t n (j - min i j).toNat = 0 then s && t else decide (Ieee.signed s m (i - min i j).toNat + Ieee.signed t n (j - min i j).toNat < 0)) (Ieee.signed s m (i - min i j).toNat + Ieee.signed t n (j - min i j).toNat).natAbs (min i j)) = _
  have hT : (Ieee.signed s m (i - min i j).toNat + Ieee.signed t n (j - min i j).toNat) * 2 ^ D = (if s then -((m * 2 ^ k1 * 2 ^ d : Nat) : Int) else ((m * 2 ^ k1 * 2 ^ d : Nat) : Int)) + (if t then -((n * 2 ^ k2 : Nat) : Int) else ((n * 2 ^ k2 : Nat) : Int)) := by
    rw [Int.add_mul, h1, h2]
  generalize Ieee.signed s m (i - min i j).toNat + Ieee.signed t n (j - min i j).toNat = T at *
  generalize m * 2 ^ k1 * 2 ^ d = X at *
  generalize n * 2 ^ k2 = N at *
  rw [← write_scale f _ T.natAbs D (min i j), eb]
  have hA : T.natAbs * 2 ^ D = (T * 2 ^ D).natAbs := by
    rw [Int.natAbs_mul, Int.natAbs_pow]; rfl
  have hz : T = 0 ↔ T * 2 ^ D = 0 := by
    constructor
    · intro h; rw [h, Int.zero_mul]
    · intro h
      rcases Int.mul_eq_zero.1 h with h | h
      · exact h
      · omega
  have hn : T < 0 ↔ T * 2 ^ D < 0 := by
    constructor
    · intro h
      have := Int.mul_lt_mul_of_pos_right h hpD
      rw [Int.zero_mul] at this
      exact this
    · intro h
      rcases Int.lt_or_le T 0 with h' | h'
      · exact h'
      · have := Int.mul_le_mul_of_nonneg_right h' (Int.le_of_lt hpD)
        rw [Int.zero_mul] at this
        omega
  rw [hA]
  have hs : (if T = 0 then (s && t) else decide (T < 0)) = (if T * 2 ^ D = 0 then (s && t) else decide (T * 2 ^ D < 0)) := by
    by_cases h : T = 0
    · rw [if_pos h, if_pos (hz.1 h)]
    · rw [if_neg h, if_neg (fun h' => h (hz.2 h'))]
      rw [Bool.eq_iff_iff, decide_eq_true_iff, decide_eq_true_iff]; exact hn
  rw [hs, hT]
  unfold sumW
  clear hs hn hz hA hT h1 h2 hpD
  cases s <;> cases t <;> simp only [Bool.false_eq_true, if_true, if_false, Bool.and_false, Bool.and_true, reduceCtorEq]
  · have a1 : ((X : Int) + (N : Int)).natAbs = X + N := by omega
    rw [a1, if_neg (by omega), decide_eq_false (by omega)]
  · have a1 : ((X : Int) + -(N : Int)).natAbs = X - N := by omega
    rw [a1]
    by_cases h : X = N
    · rw [if_pos (by omega), if_pos h]
    · rw [if_neg (by omega), if_neg h, decide_eq_false (by omega)]
  · have a1 : (-(X : Int) + (N : Int)).natAbs = X - N := by omega
    rw [a1]
    by_cases h : X = N
    · rw [if_pos (by omega), if_pos h]
    · rw [if_neg (by omega), if_neg h, decide_eq_true (by omega)]
  · have a1 : (-(X : Int) + -(N : Int)).natAbs = X + N := by omega
    rw [a1, if_neg (by omega), decide_eq_true (by omega)]

section
variable {fi : Int} {p bi : Nat} {f : Ieee.Format}

theorem Fm.f53 (F : Fm fi p bi f) : 2 ^ (f.fractionBits + 1) ≤ 9007199254740992 := by
  have hp2 := F.p2
  have hfr := F.frac
  have h2 : 2 ^ (f.fractionBits + 1) ≤ 2 ^ 53 := Nat.pow_le_pow_right (by decide) (by omega)
  have c53 : (2 : Nat) ^ 53 = 9007199254740992 := by decide
  omega

/-- Behind the shift. -/
theorem Fm.add12 (F : Fm fi p bi f) (s t : Bool) (M Q low d : Nat) (J : Int) (hM0 : 2305843009213693952 ≤ M) (hM1 : M < 4611686018427387904) (hQ : Q < 4611686018427387904) (hlow : low < 2 ^ d) (hQ2 : low ≠ 0 → Q < 9007199254740992) (hle : Q * 2 ^ d + low ≤ M * 2 ^ d) (hJ0 : -50000 ≤ J) (hJ1 : J + d ≤ 50000) (R : Value → World → Prop) (w : World)
    (hR : R (.int .u64 ((sumW f s t (M * 2 ^ d) (Q * 2 ^ d + low) J : Nat) : Int)) w) : numm_add.L12 fi s M (J + d) t Q (low != 0) R w := by
  have h53 := F.f53
  have hX := Nat.two_pow_pos d
  have hQM : Q ≤ M := by
    apply Nat.le_of_mul_le_mul_right (c := 2 ^ d) _ hX
    omega
  refine numm_add.step12 _ _ _ _ _ _ _ _ _ ?_
  unfold numm_add.V12
  unfold sumW at hR
  by_cases hst : s = t
  · subst hst
    refine cond_true' (by cases s <;> rfl) ?_
    rw [if_pos rfl] at hR
    rw [← Int.natCast_add, wrap64_n _ (by omega)]
    refine Runs.pure_bind (round_spec F s (M + Q) _ _ (by omega) (by omega) (fun _ => by omega) (by omega) (by omega) w) ⟨_, rfl, ?_⟩
    have e := rd_sticky f s (M + Q) d low J (.inl (by omega)) hlow
    have e2 : (M + Q) * 2 ^ d + low = M * 2 ^ d + (Q * 2 ^ d + low) := by rw [Nat.add_mul]; omega
    rw [e2] at e
    rw [← e]; exact hR
  · refine cond_false' (by cases s <;> cases t <;> first | rfl | exact absurd rfl hst) ?_
    rw [if_neg hst] at hR
    have e0 : IntKind.wrap .u64 ((M : Int) - (Q : Int)) = ((M - Q : Nat) : Int) := by rw [wrap_u64 (by omega) (by omega)]; omega
    rw [e0]
    refine numm_add.step14 _ _ _ _ _ _ _ ?_
    unfold numm_add.V14
    by_cases hl0 : low = 0
    · subst hl0
      refine cond_false' rfl ?_
      rw [Nat.add_zero] at hR hle
      refine numm_add.step15 _ _ _ _ _ _ _ ?_
      unfold numm_add.V15
      have hsub : M * 2 ^ d - Q * 2 ^ d = (M - Q) * 2 ^ d := by rw [Nat.sub_mul]
      rw [hsub] at hR
      by_cases hz : M = Q
      · subst hz
        rw [if_pos rfl, Nat.sub_self, Nat.zero_mul, F.zeroW] at hR
        rw [Nat.sub_self]
        refine cond_true' rfl ?_
        exact hR
      · refine cond_false' (by rw [beq_eq_false_iff_ne]; omega) ?_
        have hne : M * 2 ^ d ≠ Q * 2 ^ d := fun h => hz (Nat.eq_of_mul_eq_mul_right hX h)
        rw [if_neg hne] at hR
        refine Runs.pure_bind (round_spec F s (M - Q) _ _ (by omega) (by omega) (fun h => by cases h) (by omega) (by omega) w) ⟨_, rfl, ?_⟩
        have e := rd_sticky f s (M - Q) d 0 J (.inr rfl) hX
        rw [Nat.add_zero] at e
        rw [← e]; exact hR
    · have hb : (low != 0) = true := by rw [bne_iff_ne]; exact hl0
      have hQ3 := hQ2 hl0
      rw [hb]
      refine cond_true' rfl ?_
      have e1 : IntKind.wrap .u64 (((M - Q : Nat) : Int) - 1) = ((M - Q - 1 : Nat) : Int) := by rw [wrap_u64 (by omega) (by omega)]; omega
      rw [e1]
      refine numm_add.step15 _ _ _ _ _ _ _ ?_
      unfold numm_add.V15
      refine cond_false' (by rw [beq_eq_false_iff_ne]; omega) ?_
      refine Runs.pure_bind (round_spec F s (M - Q - 1) _ _ (by omega) (by omega) (fun _ => by omega) (by omega) (by omega) w) ⟨_, rfl, ?_⟩
      have e := rd_sticky f s (M - Q - 1) d (2 ^ d - low) J (.inl (by omega)) (by omega)
      have hb2 : (2 ^ d - low != 0) = true := by rw [bne_iff_ne]; omega
      have e2 : (M - Q - 1) * 2 ^ d + (2 ^ d - low) = M * 2 ^ d - (Q * 2 ^ d + low) := by
        have a1 : (M - Q - 1) * 2 ^ d = M * 2 ^ d - Q * 2 ^ d - 2 ^ d := by rw [Nat.sub_mul, Nat.sub_mul, Nat.one_mul]
        have a2 : (Q + 1) * 2 ^ d ≤ M * 2 ^ d := Nat.mul_le_mul_right _ (by omega)
        rw [Nat.add_mul, Nat.one_mul] at a2
        rw [a1]
        generalize M * 2 ^ d = U at *
        generalize Q * 2 ^ d = V at *
        omega
      rw [hb2, e2] at e
      rw [← e]
      have hne : M * 2 ^ d ≠ Q * 2 ^ d + low := by
        intro h
        have a2 : (Q + 1) * 2 ^ d ≤ M * 2 ^ d := Nat.mul_le_mul_right _ (by omega)
        rw [Nat.add_mul, Nat.one_mul] at a2
        omega
      rw [if_neg hne] at hR
      exact hR

/-- The greater first. -/
theorem Fm.add9 (F : Fm fi p bi f) (s t : Bool) (M N d : Nat) (J : Int) (hM0 : 2305843009213693952 ≤ M) (hM1 : M < 4611686018427387904) (hN0 : 2305843009213693952 ≤ N) (hN1 : N < 4611686018427387904) (h9 : N % 512 = 0) (hle : N ≤ M * 2 ^ d) (hJ0 : -50000 ≤ J) (hJ1 : J + d ≤ 50000) (R : Value → World → Prop) (w : World)
    (hR : R (.int .u64 ((sumW f s t (M * 2 ^ d) N J : Nat) : Int)) w) : numm_add.L9 fi s M (J + d) t N J R w := by
  refine numm_add.step9 _ _ _ _ _ _ _ _ _ ?_
  unfold numm_add.V9
  have e0 : IntKind.wrap .i64 (J + (d : Int) - J) = (d : Int) := by rw [wrap_i64 (by omega) (by omega)]; omega
  rw [e0]
  refine numm_add.step10 _ _ _ _ _ _ _ _ _ ?_
  unfold numm_add.V10
  refine numm_add.step11 _ _ _ _ _ _ _ _ _ ?_
  unfold numm_add.V11
  have hX := Nat.two_pow_pos d
  by_cases h : 64 ≤ d
  · refine cond_true' (decide_eq_true (by omega)) ?_
    have h64 : 2 ^ 64 ≤ 2 ^ d := Nat.pow_le_pow_right (by decide) h
    have c64 : (2 : Nat) ^ 64 = 18446744073709551616 := by decide
    have := F.add12 s t M 0 N d J hM0 hM1 (by omega) (by omega) (fun _ => by omega) (by rw [Nat.zero_mul, Nat.zero_add]; exact hle) hJ0 hJ1 R w (by rw [Nat.zero_mul, Nat.zero_add]; exact hR)
    have hb : (N != 0) = true := by rw [bne_iff_ne]; omega
    rw [hb] at this
    exact this
  · refine cond_false' (decide_eq_false (by omega)) ?_
    have e1 : IntKind.wrap .u64 (d : Int) = (d : Int) := wrap64_n _ (by omega)
    rw [e1, Int.toNat_natCast, shl1 d (by omega), tmod_n]
    refine ⟨by omega, rfl, by omega, ?_⟩
    refine numm_add.step13 _ _ _ _ _ _ _ _ _ _ ?_
    unfold numm_add.V13
    rw [e1, Int.toNat_natCast, shr64_n N d (by omega)]
    refine ⟨by omega, ?_⟩
    have e2 : (((N % 2 ^ d : Nat) : Int) != 0) = (N % 2 ^ d != 0) := by rw [Bool.eq_iff_iff, bne_iff_ne, bne_iff_ne]; omega
    rw [e2]
    have hdm := Nat.div_add_mod N (2 ^ d)
    rw [Nat.mul_comm] at hdm
    refine F.add12 s t M (N / 2 ^ d) (N % 2 ^ d) d J hM0 hM1 (Nat.lt_of_le_of_lt (Nat.div_le_self _ _) hN1) (Nat.mod_lt _ hX) ?_ (by rw [hdm]; exact hle) hJ0 hJ1 R w (by rw [hdm]; exact hR)
    intro hl
    by_cases hd9 : d ≤ 9
    · exfalso
      apply hl
      have : 2 ^ d ∣ 512 := by
        have c : (512 : Nat) = 2 ^ 9 := by decide
        rw [c]; exact Nat.pow_dvd_pow 2 hd9
      exact Nat.mod_eq_zero_of_dvd (Nat.dvd_trans this (Nat.dvd_of_mod_eq_zero h9))
    · rw [Nat.div_lt_iff_lt_mul hX]
      have h9' : 2 ^ 9 ≤ 2 ^ d := Nat.pow_le_pow_right (by decide) (by omega)
      have c9 : (2 : Nat) ^ 9 = 512 := by decide
      have := Nat.mul_le_mul_left 9007199254740992 h9'
      omega
/-- A lifted mantissa ends in zeros. -/
theorem lift_low (n k : Nat) (hn0 : n ≠ 0) (hn : n < 9007199254740992) (h : (n * 2 ^ k).log2 = 61) : 2305843009213693952 ≤ n * 2 ^ k ∧ n * 2 ^ k < 4611686018427387904 ∧ n * 2 ^ k % 512 = 0 := by
  have hk := Nat.two_pow_pos k
  have h0 : n * 2 ^ k ≠ 0 := Nat.mul_ne_zero hn0 (by omega)
  obtain ⟨b1, b2⟩ := log2_bd h0 h
  have c61 : (2 : Nat) ^ 61 = 2305843009213693952 := by decide
  rw [c61] at b1 b2
  refine ⟨b1, by omega, ?_⟩
  by_cases h9 : 9 ≤ k
  · have : 512 ∣ 2 ^ k := by
      have c : (512 : Nat) = 2 ^ 9 := by decide
      rw [c]; exact Nat.pow_dvd_pow 2 h9
    exact Nat.mod_eq_zero_of_dvd (Nat.dvd_trans this (Nat.dvd_mul_left _ _))
  · exfalso
    have h8 : 2 ^ k ≤ 2 ^ 8 := Nat.pow_le_pow_right (by decide) (by omega)
    have c8 : (2 : Nat) ^ 8 = 256 := by decide
    have := Nat.mul_le_mul (Nat.le_of_lt_succ (show n < 9007199254740991 + 1 by omega)) h8
    omega

theorem Fm.add_fin (F : Fm fi p bi f) (s t : Bool) (m n : Nat) (i j : Int) (hm0 : m ≠ 0) (hn0 : n ≠ 0) (hm : m < 9007199254740992) (hn : n < 9007199254740992) (hi0 : -2000 ≤ i) (hi1 : i ≤ 2000) (hj0 : -2000 ≤ j) (hj1 : j ≤ 2000) (R : Value → World → Prop) (w : World)
    (hR : ∀ r, (Ieee.Datum.number s m i).sum (.number t n j) = some r → R (.int .u64 ((f.write r : Nat) : Int)) w) : 
    Runs Try.prog numm_lift.id #[.int .u64 (m : Int), .int .i64 i, .int .i64 61] w fun r10 w11 => ∃ x12 : Int, ∃ x13 : Int, r10 = .tuple #[.int .u64 x12, .int .i64 x13] ∧ numm_add.L5 fi s x12 x13 t n j R w11 := by
  have c62 : (2 : Nat) ^ (61 + 1) = 4611686018427387904 := by decide
  refine (lift_spec 61 (by decide) m i hm0 (by rw [c62]; omega) (by omega) (by omega) w).mono ?_
  rintro v w' ⟨rfl, k, hk, hl, rfl⟩
  refine ⟨_, _, rfl, ?_⟩
  refine numm_add.step5 _ _ _ _ _ _ _ _ _ ?_
  unfold numm_add.V5
  refine (lift_spec 61 (by decide) n j hn0 (by rw [c62]; omega) (by omega) (by omega) w').mono ?_
  rintro v w ⟨rfl, k', hk', hl', rfl⟩
  refine ⟨_, _, rfl, ?_⟩
  obtain ⟨a1, a2, a3⟩ := lift_low m k hm0 hm hl
  obtain ⟨b1, b2, b3⟩ := lift_low n k' hn0 hn hl'
  have keep : (j - (k' : Int) < i - k ∨ (j - (k' : Int) = i - k ∧ n * 2 ^ k' ≤ m * 2 ^ k)) → numm_add.L9 fi s (m * 2 ^ k : Nat) (i - k) t (n * 2 ^ k' : Nat) (j - k') R w := by
    intro h
    obtain ⟨d, hd⟩ : ∃ d : Nat, (d : Int) = (i - k) - (j - k') := ⟨((i - k) - (j - k')).toNat, by omega⟩
    have hX := Nat.two_pow_pos d
    have hle : n * 2 ^ k' ≤ m * 2 ^ k * 2 ^ d := by
      rcases h with h | ⟨h, h'⟩
      · have : 2 ^ 1 ≤ 2 ^ d := Nat.pow_le_pow_right (by decide) (by omega)
        have := Nat.mul_le_mul_left (m * 2 ^ k) this
        omega
      · have := Nat.mul_le_mul_left (m * 2 ^ k) (show 1 ≤ 2 ^ d from hX)
        omega
    obtain ⟨r, hr1, hr2⟩ := sum_big f s t m n k k' d i j hd hle (by omega)
    have hRr := hR r hr1
    rw [hr2] at hRr
    have e : i - (k : Int) = j - k' + d := by omega
    rw [e]
    exact F.add9 s t _ _ d (j - k') a1 a2 b1 b2 b3 hle (by omega) (by omega) R w hRr
  have swap : (i - (k : Int) < j - k' ∨ (i - (k : Int) = j - k' ∧ m * 2 ^ k < n * 2 ^ k')) → numm_add.L8 fi t (m * 2 ^ k : Nat) (i - k) s (n * 2 ^ k' : Nat) (j - k') R w := by
    intro h
    refine numm_add.step8 _ _ _ _ _ _ _ _ _ ?_
    unfold numm_add.V8
    obtain ⟨d, hd⟩ : ∃ d : Nat, (d : Int) = (j - k') - (i - k) := ⟨((j - k') - (i - k)).toNat, by omega⟩
    have hX := Nat.two_pow_pos d
    have hle : m * 2 ^ k ≤ n * 2 ^ k' * 2 ^ d := by
      rcases h with h | ⟨h, h'⟩
      · have : 2 ^ 1 ≤ 2 ^ d := Nat.pow_le_pow_right (by decide) (by omega)
        have := Nat.mul_le_mul_left (n * 2 ^ k') this
        omega
      · have := Nat.mul_le_mul_left (n * 2 ^ k') (show 1 ≤ 2 ^ d from hX)
        omega
    obtain ⟨r, hr1, hr2⟩ := sum_big f t s n m k' k d j i hd hle (by omega)
    rw [sum_comm] at hr1
    have hRr := hR r hr1
    rw [hr2] at hRr
    have e : j - (k' : Int) = i - k + d := by omega
    rw [e]
    exact F.add9 t s _ _ d (i - k) b1 b2 a1 a2 a3 hle (by omega) (by omega) R w hRr
  refine numm_add.step6 _ _ _ _ _ _ _ _ _ ?_
  unfold numm_add.V6
  have seven : ∀ b : Bool, (b = true → i - (k : Int) < j - k' ∨ (i - (k : Int) = j - k' ∧ m * 2 ^ k < n * 2 ^ k')) → (b = false → j - (k' : Int) < i - k ∨ (j - (k' : Int) = i - k ∧ n * 2 ^ k' ≤ m * 2 ^ k)) → numm_add.L7 fi s (m * 2 ^ k : Nat) (i - k) t (n * 2 ^ k' : Nat) (j - k') b R w := by
    intro b h1 h2
    refine numm_add.step7 _ _ _ _ _ _ _ _ _ _ ?_
    unfold numm_add.V7
    cases b
    · exact keep (h2 rfl)
    · exact swap (h1 rfl)
  by_cases c1 : i - (k : Int) < j - k'
  · refine cond_true' (decide_eq_true c1) (seven true (fun _ => .inl c1) (fun h => by cases h))
  · refine cond_false' (decide_eq_false c1) ?_
    by_cases c2 : i - (k : Int) = j - k'
    · refine cond_true' (by rw [beq_iff_eq]; exact c2) ?_
      refine seven _ (fun h => ?_) (fun h => ?_)
      · have := of_decide_eq_true h
        exact .inr ⟨c2, by omega⟩
      · have := of_decide_eq_false h
        exact .inr ⟨c2.symm, by omega⟩
    · refine cond_false' (by rw [beq_eq_false_iff_ne]; exact c2) (seven false (fun h => by cases h) (fun _ => .inl (by omega)))

/-- A word that is no NaN is its own value, written. -/
theorem Fm.write_own (F : Fm fi p bi f) (v : Nat) (hv : v < 2 * f.signWeight) (s : Bool) (m : Nat) (i : Int) (h : f.read v = .number s m i) : f.write (.number s m i) = v := by
  have hb : 0 < f.binade := Nat.two_pow_pos _
  have hb1 := F.b1
  have hr : rung f v < f.infRung := by
    have hread : f.read v = (if rung f v < f.binade then .number (sgb f v) (rung f v) f.leastPlace else if rung f v < f.infRung then .number (sgb f v) (f.binade + rung f v % f.binade) (f.leastPlace + (rung f v / f.binade - 1 : Nat)) else if rung f v = f.infRung then .infinity (sgb f v) else .nan (sgb f v) (rung f v - f.infRung)) := rfl
    rw [hread] at h
    have := F.bi_inf
    by_cases c1 : rung f v < f.binade
    · omega
    · rw [if_neg c1] at h
      by_cases c2 : rung f v < f.infRung
      · exact c2
      · rw [if_neg c2] at h
        split at h <;> cases h
  obtain ⟨m', i', e1, e2, e3⟩ := read_val f v hr
  rw [h] at e1
  simp only [Ieee.Datum.number.injEq] at e1
  obtain ⟨rfl, rfl, rfl⟩ := e1
  have hw := write_rung f (2 * bi + 1) F.infR (by omega) (sgb f v) m i f.leastPlace (rung f v) hr e2 (Int.le_refl _) (by rw [e3]; simp)
  rw [hw, word_self f v hv]
theorem Fm.inf_own (F : Fm fi p bi f) (v : Nat) (hv : v < 2 * f.signWeight) (s : Bool) (h : f.read v = .infinity s) : f.word s f.infRung = v := by
  obtain ⟨rfl, h2⟩ := F.read_sg v s h
  rw [← h2, word_self f v hv]

/-- A zero and a number that is not. -/
theorem sum_zero (s t : Bool) (n : Nat) (i j : Int) (hn : n ≠ 0) (f : Ieee.Format) : ∃ r, (Ieee.Datum.number s 0 i).sum (.number t n j) = some r ∧ f.write r = f.write (.number t n j) := by
  refine ⟨_, rfl, ?_⟩
  have e0 : Ieee.signed s 0 (i - min i j).toNat = 0 := by unfold Ieee.signed; rw [Nat.zero_shiftLeft]; cases s <;> rfl
  show f.write (.number (if Ieee.signed s 0 (i - min i j).toNat + Ieee.signed t n (j - min i j).toNat = 0 then s && t else decide (Ieee.signed s 0 (i - min i j).toNat + Ieee.signed t n (j - min i j).toNat < 0)) (Ieee.signed s 0 (i - min i j).toNat + Ieee.signed t n (j - min i j).toNat).natAbs (min i j)) = _
  rw [e0, Int.zero_add, signed_as t n (j - min i j).toNat _ rfl]
  have hp := Nat.two_pow_pos (j - min i j).toNat
  have hpos : 0 < n * 2 ^ (j - min i j).toNat := Nat.mul_pos (Nat.pos_of_ne_zero hn) hp
  have hw := write_scale f t n (j - min i j).toNat j
  have e1 : j - ((j - min i j).toNat : Int) = min i j := by omega
  rw [e1] at hw
  rw [← hw]
  generalize n * 2 ^ (j - min i j).toNat = X at *
  cases t
  · simp only [Bool.false_eq_true, if_false]
    rw [if_neg (by omega), decide_eq_false (by omega)]; rfl
  · simp only [if_true]
    rw [if_neg (by omega), decide_eq_true (by omega)]
    have : (-(X : Int)).natAbs = X := by omega
    rw [this]
theorem sum_zeros (s t : Bool) (i j : Int) (f : Ieee.Format) : ∃ r, (Ieee.Datum.number s 0 i).sum (.number t 0 j) = some r ∧ f.write r = f.word (s && t) 0 := by
  refine ⟨_, rfl, ?_⟩
  have e0 : ∀ s k, Ieee.signed s 0 k = 0 := by intro s k; unfold Ieee.signed; rw [Nat.zero_shiftLeft]; cases s <;> rfl
  show f.write (.number (if Ieee.signed s 0 (i - min i j).toNat + Ieee.signed t 0 (j - min i j).toNat = 0 then s && t else decide (Ieee.signed s 0 (i - min i j).toNat + Ieee.signed t 0 (j - min i j).toNat < 0)) (Ieee.signed s 0 (i - min i j).toNat + Ieee.signed t 0 (j - min i j).toNat).natAbs (min i j)) = _
  rw [e0, e0, Int.zero_add, if_pos rfl]
  show f.write (.number (s && t) 0 (min i j)) = _
  rw [write_number, if_pos rfl]

theorem Fm.add_spec (F : Fm fi p bi f) (a b : Nat) (ha : a < 2 * f.signWeight) (hb : b < 2 * f.signWeight) (na : rung f a ≤ f.infRung) (nb : rung f b ≤ f.infRung) (w : World) :
    Runs Try.prog numm_add.id #[.int .i64 fi, .int .u64 (a : Int), .int .u64 (b : Int)] w fun v w' => v = .int .u64 (((f.add a b).getD (nanOf f) : Nat) : Int) ∧ w' = w := by
  have hp1 := F.p1
  have hp2 := F.p2
  have hb1 := F.b1
  have hb2 := F.b2
  have hl := F.least
  have h53 := F.two53
  refine numm_add.enter _ _ _ _ _ ?_
  refine numm_add.step1 _ _ _ _ _ ?_
  unfold numm_add.V1
  refine Runs.pure_bind (numm_unpack.pure fi a w (F.unpackP a)) ⟨_, _, _, _, rfl, ?_⟩
  rw [F.unpackF a ha]
  refine numm_add.step2 _ _ _ _ _ _ _ _ _ ?_
  unfold numm_add.V2
  refine Runs.pure_bind (numm_unpack.pure fi b w (F.unpackP b)) ⟨_, _, _, _, rfl, ?_⟩
  rw [F.unpackF b hb]
  refine numm_add.step3 _ _ _ _ _ _ _ _ _ _ _ _ _ ?_
  unfold numm_add.V3
  have hadd : f.add a b = ((f.read a).sum (f.read b)).map f.write := rfl
  rw [hadd]
  have hun : ∀ s m i, ((un (.number s m i)).1 == (2 : Int)) = false := by
    intro s m i
    unfold un
    by_cases h0 : m = 0
    · simp only [if_pos h0]; rfl
    · simp only [if_neg h0]; rfl
  have four : ∀ (c : Bool) (R : Value → World → Prop), (c = true → R (.int .u64 ((nanOf f : Nat) : Int)) w) → (c = false → R (.int .u64 (a : Int)) w) → numm_add.L4 fi a c R w := by
    intro c R h1 h2
    refine numm_add.step4 _ _ _ _ _ ?_
    unfold numm_add.V4
    cases c
    · exact h2 rfl
    · refine cond_true' rfl ?_
      refine Runs.pure_bind (numm_canon.pure fi w) ⟨_, rfl, ?_⟩
      rw [F.canon]; exact h1 rfl
  cases hra : f.read a with
  | nan s t => exact absurd hra (F.notNaN a na s t)
  | infinity s =>
    have hown := F.inf_own a ha s hra
    obtain ⟨rfl, -⟩ := F.read_sg a s hra
    refine cond_true' rfl ?_
    cases hrb : f.read b with
    | nan s t => exact absurd hrb (F.notNaN b nb s t)
    | infinity t =>
      obtain ⟨rfl, -⟩ := F.read_sg b t hrb
      refine cond_true' rfl ?_
      refine four _ _ (fun h => ⟨?_, rfl⟩) (fun h => ⟨?_, rfl⟩)
      · have hne : sgb f a ≠ sgb f b := by intro h'; rw [h'] at h; simp at h
        simp only [Ieee.Datum.sum, if_neg hne]; rfl
      · have he : sgb f a = sgb f b := by cases h1 : sgb f a <;> cases h2 : sgb f b <;> rw [h1, h2] at h <;> first | rfl | cases h
        simp only [Ieee.Datum.sum, if_pos he, Option.map_some, Option.getD_some, F.infW, hown]
    | number t n j =>
      refine cond_false' (hun t n j) ?_
      refine four false _ (fun h => by cases h) (fun h => ⟨?_, rfl⟩)
      simp only [Ieee.Datum.sum, Option.map_some, Option.getD_some, F.infW, hown]
  | number s m i =>
    have howna := F.write_own a ha s m i hra
    obtain ⟨rfl, hm, hi0, hi1⟩ := F.un_read a s m i hra
    refine cond_false' (hun (sgb f a) m i) ?_
    cases hrb : f.read b with
    | nan s t => exact absurd hrb (F.notNaN b nb s t)
    | infinity t =>
      have hown := F.inf_own b hb t hrb
      refine cond_true' rfl ⟨?_, by trivial⟩
      simp only [Ieee.Datum.sum, Option.map_some, Option.getD_some, F.infW, hown]
    | number t n j =>
      have hownb := F.write_own b hb t n j hrb
      obtain ⟨rfl, hn, hj0, hj1⟩ := F.un_read b t n j hrb
      refine cond_false' (hun (sgb f b) n j) ?_
      unfold un
      by_cases h0 : m = 0
      · subst h0
        refine cond_true' rfl ?_
        by_cases h1 : n = 0
        · subst h1
          refine cond_true' rfl ?_
          obtain ⟨r, hr1, hr2⟩ := sum_zeros (sgb f a) (sgb f b) i j f
          rw [hr1, Option.map_some, Option.getD_some, hr2]
          cases hs : sgb f a
          · refine cond_false' rfl ?_
            refine Runs.pure_bind (numm_sign.pure fi _ w (F.signP _)) ⟨_, rfl, ?_, rfl⟩
            rw [F.signF]; rfl
          · refine cond_true' rfl ?_
            refine Runs.pure_bind (numm_sign.pure fi _ w (F.signP _)) ⟨_, rfl, ?_, rfl⟩
            rw [F.signF]; rfl
        · simp only [if_neg h1]
          refine cond_false' rfl ⟨?_, by trivial⟩
          obtain ⟨r, hr1, hr2⟩ := sum_zero (sgb f a) (sgb f b) n i j h1 f
          rw [hr1, Option.map_some, Option.getD_some, hr2, hownb]
      · simp only [if_neg h0]
        refine cond_false' rfl ?_
        by_cases h1 : n = 0
        · subst h1
          refine cond_true' rfl ⟨?_, by trivial⟩
          obtain ⟨r, hr1, hr2⟩ := sum_zero (sgb f b) (sgb f a) m j i h0 f
          rw [sum_comm] at hr1
          rw [hr1, Option.map_some, Option.getD_some, hr2, howna]
        · simp only [if_neg h1]
          refine cond_false' rfl ?_
          refine F.add_fin (sgb f a) (sgb f b) m n i j h0 h1 (by omega) (by omega) (by omega) (by omega) (by omega) (by omega) _ w ?_
          intro r hr
          rw [hr]
          exact ⟨rfl, rfl⟩
end

end Go.Proofs.Qxb6500320a
