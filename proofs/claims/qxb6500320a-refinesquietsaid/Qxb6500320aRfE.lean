/-
  The model's product.
-/
import Derived.Test.Qxb6500320aRfD
set_option linter.unusedSimpArgs false
set_option linter.unusedVariables false
set_option linter.unusedSectionVars false
set_option maxRecDepth 100000
namespace Go.Proofs.Qxb6500320a
open Go Go.Vc

theorem prod_halves (x0 x1 y0 y1 : Nat) : (x1 * 4294967296 + x0) * (y1 * 4294967296 + y0) = x1 * y1 * 18446744073709551616 + (x1 * y0 + x0 * y1) * 4294967296 + x0 * y0 := by
  have e : (18446744073709551616 : Nat) = 4294967296 * 4294967296 := by decide
  rw [e]
  generalize 4294967296 = B
  rw [Nat.add_mul, Nat.mul_add, Nat.mul_add, Nat.add_mul]
  have a1 : x1 * B * (y1 * B) = x1 * y1 * (B * B) := by rw [Nat.mul_mul_mul_comm]
  have a2 : x1 * B * y0 = x1 * y0 * B := by rw [Nat.mul_right_comm]
  have a3 : x0 * (y1 * B) = x0 * y1 * B := by rw [Nat.mul_assoc]
  rw [a1, a2, a3]; omega

theorem mul64_F (x y : Nat) (hx : x < 18446744073709551616) (hy : y < 18446744073709551616) : ∃ hi lo : Nat, numm_mul64.F x y = ((hi : Int), (lo : Int)) ∧ hi < 18446744073709551616 ∧ lo < 18446744073709551616 ∧ hi * 18446744073709551616 + lo = x * y := by
  obtain ⟨x0, hx0⟩ : ∃ z, z = x % 4294967296 := ⟨_, rfl⟩
  obtain ⟨x1, hx1⟩ : ∃ z, z = x / 4294967296 := ⟨_, rfl⟩
  obtain ⟨y0, hy0⟩ : ∃ z, z = y % 4294967296 := ⟨_, rfl⟩
  obtain ⟨y1, hy1⟩ : ∃ z, z = y / 4294967296 := ⟨_, rfl⟩
  have ex : x = x1 * 4294967296 + x0 := by omega
  have ey : y = y1 * 4294967296 + y0 := by omega
  have bx0 : x0 ≤ 4294967295 := by omega
  have bx1 : x1 ≤ 4294967295 := by omega
  have by0 : y0 ≤ 4294967295 := by omega
  have by1 : y1 ≤ 4294967295 := by omega
  have hxy : x * y = x1 * y1 * 18446744073709551616 + (x1 * y0 + x0 * y1) * 4294967296 + x0 * y0 := by rw [ex, ey]; exact prod_halves x0 x1 y0 y1
  have bP : x1 * y1 ≤ 4294967295 * 4294967295 := Nat.mul_le_mul bx1 by1
  have bQ : x1 * y0 ≤ 4294967295 * 4294967295 := Nat.mul_le_mul bx1 by0
  have bR : x0 * y1 ≤ 4294967295 * 4294967295 := Nat.mul_le_mul bx0 by1
  have bS : x0 * y0 ≤ 4294967295 * 4294967295 := Nat.mul_le_mul bx0 by0
  have a1 : bAnd .u64 (x : Int) 4294967295 = (x0 : Int) := by rw [andm32 _ (by omega) (by omega)]; omega
  have a2 : Int.fdiv (x : Int) (2 ^ 32) = (x1 : Int) := by rw [fdiv_n]; omega
  have a3 : bAnd .u64 (y : Int) 4294967295 = (y0 : Int) := by rw [andm32 _ (by omega) (by omega)]; omega
  have a4 : Int.fdiv (y : Int) (2 ^ 32) = (y1 : Int) := by rw [fdiv_n]; omega
  unfold numm_mul64.F numm_mul64.F1 numm_mul64.F2 numm_mul64.F3 numm_mul64.F4 numm_mul64.F5 numm_mul64.F6 numm_mul64.F7 numm_mul64.F8 numm_mul64.F9 numm_mul64.F10
  rw [a1, a2, a3, a4, ← Int.natCast_mul, ← Int.natCast_mul, ← Int.natCast_mul, ← Int.natCast_mul, ← Int.natCast_mul]
  rw [hxy]
  clear a1 a2 a3 a4 hx0 hx1 hy0 hy1 ex ey
  generalize x1 * y1 = P at *
  generalize x1 * y0 = Q at *
  generalize x0 * y1 = R at *
  generalize x0 * y0 = S at *
  have b1 : IntKind.wrap .u64 (S : Int) = (S : Int) := wrap64_n _ (by omega)
  have b2 : Int.fdiv (S : Int) (2 ^ 32) = ((S / 4294967296 : Nat) : Int) := fdiv_n S 32
  have b3 : IntKind.wrap .u64 (Q : Int) = (Q : Int) := wrap64_n _ (by omega)
  rw [b1, b2, b3, ← Int.natCast_add]
  obtain ⟨t, ht⟩ : ∃ t, t = Q + S / 4294967296 := ⟨_, rfl⟩
  rw [← ht]
  have b4 : IntKind.wrap .u64 (t : Int) = (t : Int) := wrap64_n _ (by omega)
  have b5 : bAnd .u64 (t : Int) 4294967295 = ((t % 4294967296 : Nat) : Int) := by rw [andm32 _ (by omega) (by omega)]; omega
  have b6 : IntKind.wrap .u64 (R : Int) = (R : Int) := wrap64_n _ (by omega)
  have b7 : Int.fdiv (t : Int) (2 ^ 32) = ((t / 4294967296 : Nat) : Int) := fdiv_n t 32
  have b8 : IntKind.wrap .u64 (P : Int) = (P : Int) := wrap64_n _ (by omega)
  rw [b4, b5, b6, b7, b8, ← Int.natCast_add, ← Int.natCast_add]
  obtain ⟨u, hu⟩ : ∃ u, u = t % 4294967296 + R := ⟨_, rfl⟩
  rw [← hu]
  have b9 : IntKind.wrap .u64 (u : Int) = (u : Int) := wrap64_n _ (by omega)
  have b10 : Int.fdiv (u : Int) (2 ^ 32) = ((u / 4294967296 : Nat) : Int) := fdiv_n u 32
  rw [b9, b10]
  have b11 : IntKind.wrap .u64 ((P + t / 4294967296 : Nat) : Int) = ((P + t / 4294967296 : Nat) : Int) := wrap64_n _ (by omega)
  rw [b11, ← Int.natCast_add]
  have b12 : IntKind.wrap .u64 ((P + t / 4294967296 + u / 4294967296 : Nat) : Int) = ((P + t / 4294967296 + u / 4294967296 : Nat) : Int) := wrap64_n _ (by omega)
  have b13 : IntKind.wrap .u64 ((P * 18446744073709551616 + (Q + R) * 4294967296 + S : Nat) : Int) = ((u % 4294967296 * 4294967296 + S % 4294967296 : Nat) : Int) := by
    have e : (((P * 18446744073709551616 + (Q + R) * 4294967296 + S : Nat) : Int)) = ((u % 4294967296 * 4294967296 + S % 4294967296 : Nat) : Int) + ((P + t / 4294967296 + u / 4294967296 : Nat) : Int) * 18446744073709551616 := by omega
    rw [e, wrap_u64_mod]; omega
  rw [b12, b13]
  exact ⟨_, _, rfl, by omega, by omega, by omega⟩

theorem log2_bd {m at_ : Nat} (h0 : m ≠ 0) (h : m.log2 = at_) : 2 ^ at_ ≤ m ∧ m < 2 * 2 ^ at_ := by
  have := (Nat.log2_eq_iff h0).1 h
  rw [Nat.pow_succ, Nat.mul_comm (2 ^ at_) 2] at this
  exact this

section
variable {fi : Int} {p bi : Nat} {f : Ieee.Format}
theorem Fm.two53 (F : Fm fi p bi f) : 2 * f.binade ≤ 9007199254740992 := by
  have hp2 := F.p2
  have h : 2 ^ p ≤ 2 ^ 53 := Nat.pow_le_pow_right (by decide) hp2
  have c : (2 : Nat) ^ 53 = 9007199254740992 := by decide
  rw [← F.pw]; omega

/-- The product of two that are not zero. -/
theorem Fm.mul_fin (F : Fm fi p bi f) (s : Bool) (m n : Nat) (i j : Int) (hm0 : m ≠ 0) (hn0 : n ≠ 0) (hm : m < 9007199254740992) (hn : n < 9007199254740992) (hi0 : -2000 ≤ i) (hi1 : i ≤ 2000) (hj0 : -2000 ≤ j) (hj1 : j ≤ 2000) (R : Value → World → Prop) (w : World)
    (hR : R (.int .u64 ((f.write (.number s (m * n) (i + j)) : Nat) : Int)) w) : numm_mul.L7 fi m i n j s false R w := by
  have hp2 := F.p2
  have hfr := F.frac
  refine numm_mul.step7 _ _ _ _ _ _ _ _ _ ?_
  unfold numm_mul.V7
  refine cond_false' rfl ?_
  have c64 : (2 : Nat) ^ (63 + 1) = 18446744073709551616 := by decide
  have c63 : (2 : Nat) ^ 63 = 9223372036854775808 := by decide
  refine (lift_spec 63 (by decide) m i hm0 (by rw [c64]; omega) (by omega) (by omega) w).mono ?_
  rintro v w' ⟨rfl, k, hk, hl, rfl⟩
  refine ⟨_, _, rfl, ?_⟩
  refine numm_mul.step8 _ _ _ _ _ _ _ _ ?_
  unfold numm_mul.V8
  refine (lift_spec 63 (by decide) n j hn0 (by rw [c64]; omega) (by omega) (by omega) w').mono ?_
  rintro v w ⟨rfl, k', hk', hl', rfl⟩
  refine ⟨_, _, rfl, ?_⟩
  refine numm_mul.step9 _ _ _ _ _ _ _ _ ?_
  unfold numm_mul.V9
  have hM0 : m * 2 ^ k ≠ 0 := Nat.mul_ne_zero hm0 (by have := Nat.two_pow_pos k; omega)
  have hN0 : n * 2 ^ k' ≠ 0 := Nat.mul_ne_zero hn0 (by have := Nat.two_pow_pos k'; omega)
  obtain ⟨b1, b2⟩ := log2_bd hM0 hl
  obtain ⟨b3, b4⟩ := log2_bd hN0 hl'
  rw [c63] at b1 b2 b3 b4
  obtain ⟨hi, lo, hF, g1, g2, g3⟩ := mul64_F (m * 2 ^ k) (n * 2 ^ k') (by omega) (by omega)
  refine Runs.pure_bind (numm_mul64.pure _ _ w) ⟨_, _, rfl, ?_⟩
  rw [hF]
  have hbig : 9223372036854775808 * 9223372036854775808 ≤ m * 2 ^ k * (n * 2 ^ k') := Nat.mul_le_mul b1 b3
  have hhi : 4611686018427387904 ≤ hi := by omega
  refine numm_mul.step10 _ _ _ _ _ _ _ _ ?_
  unfold numm_mul.V10
  have e1 : IntKind.wrap .i64 (i - (k : Int) + (j - (k' : Int))) = i + j - ((k + k' : Nat) : Int) := by rw [wrap_i64 (by omega) (by omega)]; omega
  have e2 : IntKind.wrap .i64 (i + j - ((k + k' : Nat) : Int) + 64) = i + j - ((k + k' : Nat) : Int) + ((64 : Nat) : Int) := by rw [wrap_i64 (by omega) (by omega)]; omega
  have e3 : ((lo : Int) != 0) = (lo != 0) := by
    rw [Bool.eq_iff_iff, bne_iff_ne, bne_iff_ne]; omega
  show Runs Try.prog numm_round.id #[.int .i64 fi, .bool s, .int .u64 (hi : Int), .int .i64 _, .bool ((lo : Int) != 0)] w _
  rw [e1, e2, e3]
  refine Runs.pure_bind (round_spec F s hi _ _ (by omega) g1 (fun _ => by omega) (by omega) (by omega) w) ⟨_, rfl, ?_⟩
  have c64' : (2 : Nat) ^ 64 = 18446744073709551616 := by decide
  have hst := rd_sticky f s hi 64 lo (i + j - ((k + k' : Nat) : Int)) (.inl (by
    have h2 : 2 ^ (f.fractionBits + 1) ≤ 2 ^ 53 := Nat.pow_le_pow_right (by decide) (by omega)
    have c53 : (2 : Nat) ^ 53 = 9007199254740992 := by decide
    omega)) (by rw [c64']; exact g2)
  rw [c64', g3] at hst
  rw [← hst]
  have e4 : m * 2 ^ k * (n * 2 ^ k') = m * n * 2 ^ (k + k') := by rw [Nat.pow_add, Nat.mul_mul_mul_comm]
  rw [e4, write_scale]
  exact hR

theorem Fm.zeroW (F : Fm fi p bi f) (s : Bool) (i : Int) : f.write (.number s 0 i) = f.word s 0 := by rw [write_number, if_pos rfl]
theorem Fm.infW (F : Fm fi p bi f) (s : Bool) : f.write (.infinity s) = f.word s f.infRung := rfl
theorem Fm.notNaN (F : Fm fi p bi f) (v : Nat) (h : rung f v ≤ f.infRung) (s : Bool) (t : Nat) : f.read v ≠ .nan s t := by
  intro e
  have := isNaN_rung f F.bi_inf v
  rw [e, decide_eq_false (show ¬ f.infRung < v % f.signWeight by unfold rung at h; omega)] at this
  cases this
theorem Fm.read_sg (F : Fm fi p bi f) (v : Nat) (s : Bool) (h : f.read v = .infinity s) : s = sgb f v ∧ rung f v = f.infRung := by
  have hread : f.read v = (if rung f v < f.binade then .number (sgb f v) (rung f v) f.leastPlace else if rung f v < f.infRung then .number (sgb f v) (f.binade + rung f v % f.binade) (f.leastPlace + (rung f v / f.binade - 1 : Nat)) else if rung f v = f.infRung then .infinity (sgb f v) else .nan (sgb f v) (rung f v - f.infRung)) := rfl
  rw [hread] at h
  by_cases c1 : rung f v < f.binade
  · rw [if_pos c1] at h; cases h
  · rw [if_neg c1] at h
    by_cases c2 : rung f v < f.infRung
    · rw [if_pos c2] at h; cases h
    · rw [if_neg c2] at h
      by_cases c3 : rung f v = f.infRung
      · rw [if_pos c3] at h
        cases h
        exact ⟨rfl, c3⟩
      · rw [if_neg c3] at h; cases h

theorem Fm.mul_spec (F : Fm fi p bi f) (a b : Nat) (ha : a < 2 * f.signWeight) (hb : b < 2 * f.signWeight) (na : rung f a ≤ f.infRung) (nb : rung f b ≤ f.infRung) (w : World) :
    Runs Try.prog numm_mul.id #[.int .i64 fi, .int .u64 (a : Int), .int .u64 (b : Int)] w fun v w' => v = .int .u64 (((f.mul a b).getD (nanOf f) : Nat) : Int) ∧ w' = w := by
  have hp1 := F.p1
  have hp2 := F.p2
  have hb1 := F.b1
  have hb2 := F.b2
  have hl := F.least
  have h53 := F.two53
  refine numm_mul.enter _ _ _ _ _ ?_
  refine numm_mul.step1 _ _ _ _ _ ?_
  unfold numm_mul.V1
  refine Runs.pure_bind (numm_unpack.pure fi a w (F.unpackP a)) ⟨_, _, _, _, rfl, ?_⟩
  rw [F.unpackF a ha]
  refine numm_mul.step2 _ _ _ _ _ _ _ _ ?_
  unfold numm_mul.V2
  refine Runs.pure_bind (numm_unpack.pure fi b w (F.unpackP b)) ⟨_, _, _, _, rfl, ?_⟩
  rw [F.unpackF b hb]
  refine numm_mul.step3 _ _ _ _ _ _ _ _ _ _ _ ?_
  unfold numm_mul.V3
  have hx : (!(sgb f a == sgb f b)) = (sgb f a ^^ sgb f b) := by cases sgb f a <;> cases sgb f b <;> rfl
  show numm_mul.L4 fi (un (f.read a)).1 (un (f.read a)).2.1 (un (f.read a)).2.2 (un (f.read b)).1 (un (f.read b)).2.1 (un (f.read b)).2.2 (!(sgb f a == sgb f b)) _ w
  rw [hx]
  refine numm_mul.step4 _ _ _ _ _ _ _ _ _ _ ?_
  unfold numm_mul.V4
  have hmul : f.mul a b = ((f.read a).product (f.read b)).map f.write := rfl
  rw [hmul]
  have inf : ∀ (x y z t u : Int) (x' : Int) (n : Bool), ((x == 0) || (x' == 0)) = n → ∀ (R : Value → World → Prop), (n = true → R (.int .u64 ((nanOf f : Nat) : Int)) w) → (n = false → R (.int .u64 ((f.word (sgb f a ^^ sgb f b) f.infRung : Nat) : Int)) w) → numm_mul.L5 fi x y z x' t u (sgb f a ^^ sgb f b) true R w := by
    intro x y z t u x' n hn R h1 h2
    refine numm_mul.step5 _ _ _ _ _ _ _ _ _ _ _ ?_
    unfold numm_mul.V5
    refine cond_true' rfl ?_
    have six : ∀ c : Bool, c = n → numm_mul.L6 fi (sgb f a ^^ sgb f b) c R w := by
      intro c hb
      refine numm_mul.step6 _ _ _ _ _ ?_
      unfold numm_mul.V6
      subst hb
      cases c
      · refine cond_false' rfl ?_
        refine Runs.pure_bind (numm_infinity.pure fi _ w ⟨F.signP _, F.infP, trivial⟩) ⟨_, rfl, ?_⟩
        rw [F.infinityF]; exact h2 rfl
      · refine cond_true' rfl ?_
        refine Runs.pure_bind (numm_canon.pure fi w) ⟨_, rfl, ?_⟩
        rw [F.canon]; exact h1 rfl
    refine cond_intro (fun h => ?_) (fun h => ?_)
    · rw [h, Bool.true_or] at hn; exact six true hn
    · rw [h, Bool.false_or] at hn; exact six _ hn
  cases hra : f.read a with
  | nan s t => exact absurd hra (F.notNaN a na s t)
  | infinity s =>
    obtain ⟨rfl, -⟩ := F.read_sg a s hra
    refine cond_true' rfl ?_
    cases hrb : f.read b with
    | nan s t => exact absurd hrb (F.notNaN b nb s t)
    | infinity t =>
      obtain ⟨rfl, -⟩ := F.read_sg b t hrb
      exact inf _ _ _ _ _ _ false rfl _ (fun h => by cases h) (fun _ => ⟨rfl, rfl⟩)
    | number t n j =>
      obtain ⟨rfl, -, -, -⟩ := F.un_read b t n j hrb
      unfold un
      by_cases h0 : n = 0
      · subst h0
        exact inf _ _ _ _ _ _ true rfl _ (fun _ => ⟨rfl, rfl⟩) (fun h => by cases h)
      · simp only [if_neg h0]
        refine inf _ _ _ _ _ _ false rfl _ (fun h => by cases h) (fun _ => ⟨?_, rfl⟩)
        simp only [Ieee.Datum.product, if_neg h0, Option.map_some, Option.getD_some, F.infW]
  | number s m i =>
    obtain ⟨rfl, hm, hi0, hi1⟩ := F.un_read a s m i hra
    have hka : ((un (.number (sgb f a) m i)).1 == (2 : Int)) = false := by
      unfold un
      by_cases h0 : m = 0
      · simp only [if_pos h0]; rfl
      · simp only [if_neg h0]; rfl
    refine cond_false' hka ?_
    cases hrb : f.read b with
    | nan s t => exact absurd hrb (F.notNaN b nb s t)
    | infinity t =>
      obtain ⟨rfl, -⟩ := F.read_sg b t hrb
      unfold un
      by_cases h0 : m = 0
      · subst h0
        exact inf _ _ _ _ _ _ true rfl _ (fun _ => ⟨rfl, rfl⟩) (fun h => by cases h)
      · simp only [if_neg h0]
        refine inf _ _ _ _ _ _ false rfl _ (fun h => by cases h) (fun _ => ⟨?_, rfl⟩)
        simp only [Ieee.Datum.product, if_neg h0, Option.map_some, Option.getD_some, F.infW]
        rw [Bool.xor_comm]
    | number t n j =>
      obtain ⟨rfl, hn, hj0, hj1⟩ := F.un_read b t n j hrb
      have hkb : ((un (.number (sgb f b) n j)).1 == (2 : Int)) = false := by
        unfold un
        by_cases h0 : n = 0
        · simp only [if_pos h0]; rfl
        · simp only [if_neg h0]; rfl
      rw [hkb]
      refine numm_mul.step5 _ _ _ _ _ _ _ _ _ _ _ ?_
      unfold numm_mul.V5
      refine cond_false' rfl ?_
      simp only [Ieee.Datum.product, Option.map_some, Option.getD_some]
      have zero : ∀ (x y z t : Int) (R : Value → World → Prop), R (.int .u64 ((f.word (sgb f a ^^ sgb f b) 0 : Nat) : Int)) w → numm_mul.L7 fi x y z t (sgb f a ^^ sgb f b) true R w := by
        intro x y z t R hR
        refine numm_mul.step7 _ _ _ _ _ _ _ _ _ ?_
        unfold numm_mul.V7
        refine cond_true' rfl ?_
        refine Runs.pure_bind (numm_sign.pure fi _ w (F.signP _)) ⟨_, rfl, ?_⟩
        rw [F.signF]; exact hR
      unfold un
      by_cases h0 : m = 0
      · subst h0
        refine cond_true' rfl ?_
        refine zero _ _ _ _ _ ⟨?_, rfl⟩
        rw [Nat.zero_mul, F.zeroW]
      · simp only [if_neg h0]
        refine cond_false' rfl ?_
        by_cases h1 : n = 0
        · subst h1
          simp only [if_true]
          refine zero _ _ _ _ _ ⟨?_, rfl⟩
          rw [Nat.mul_zero, F.zeroW]
        · simp only [if_neg h1]
          exact F.mul_fin _ m n i j h0 h1 (by omega) (by omega) (by omega) (by omega) (by omega) (by omega) _ w ⟨rfl, rfl⟩
end

end Go.Proofs.Qxb6500320a
