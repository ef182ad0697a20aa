/-
  The model's quotient.
-/
import Derived.Test.Qxb6500320aRfF
set_option linter.unusedSimpArgs false
set_option linter.unusedVariables false
set_option linter.unusedSectionVars false
set_option maxRecDepth 100000
namespace Go.Proofs.Qxb6500320a
open Go Go.Vc

/-- A quotient to more digits is written alike. -/
theorem div_sticky (f : Ieee.Format) (s : Bool) (X n t : Nat) (e : Int) (hn : n ≠ 0) (hq : 2 ^ (f.fractionBits + 1) ≤ X / n) : rd f s (X * 2 ^ t / n) (e - t) (X * 2 ^ t % n != 0) = rd f s (X / n) e (X % n != 0) := by
  have hn0 : 0 < n := Nat.pos_of_ne_zero hn
  have hdm := Nat.div_add_mod X n
  have hmod := Nat.mod_lt X hn0
  have ht := Nat.two_pow_pos t
  generalize hQ : X / n = q at *
  generalize hR : X % n = r at *
  have eX : X * 2 ^ t = r * 2 ^ t + n * (q * 2 ^ t) := by rw [← hdm, Nat.add_mul, Nat.mul_assoc, Nat.add_comm]
  have d1 : X * 2 ^ t / n = q * 2 ^ t + r * 2 ^ t / n := by rw [eX, Nat.add_mul_div_left _ _ hn0, Nat.add_comm]
  have d2 : X * 2 ^ t % n = r * 2 ^ t % n := by rw [eX, Nat.add_mul_mod_self_left]
  rw [d1, d2]
  have hlt : r * 2 ^ t / n < 2 ^ t := by
    rw [Nat.div_lt_iff_lt_mul hn0, Nat.mul_comm (2 ^ t)]
    exact Nat.mul_lt_mul_of_pos_right hmod ht
  have hdm2 := Nat.div_add_mod (r * 2 ^ t) n
  generalize hU : r * 2 ^ t / n = u at *
  generalize hV : r * 2 ^ t % n = v at *
  have hb : (v != 0).toNat ≤ 1 := by cases (v != 0) <;> decide
  have st := rd_sticky f s q (t + 1) (2 * u + (v != 0).toNat) (e - t - 1) (.inl hq) (by rw [Nat.pow_succ]; omega)
  have e1 : q * 2 ^ (t + 1) + (2 * u + (v != 0).toNat) = 2 * (q * 2 ^ t + u) + (v != 0).toNat := by rw [Nat.pow_succ, ← Nat.mul_assoc]; omega
  have e2 : e - (t : Int) - 1 + ((t + 1 : Nat) : Int) = e := by omega
  rw [e1, e2] at st
  show f.write (.number s (2 * (q * 2 ^ t + u) + (v != 0).toNat) (e - t - 1)) = _
  rw [st]
  congr 1
  rw [Bool.eq_iff_iff, bne_iff_ne, bne_iff_ne]
  by_cases hr : r = 0
  · subst hr
    rw [Nat.zero_mul] at hU hV
    rw [Nat.zero_div] at hU
    rw [Nat.zero_mod] at hV
    subst hU; subst hV
    simp
  · have hpos : 0 < r * 2 ^ t := Nat.mul_pos (Nat.pos_of_ne_zero hr) ht
    constructor
    · intro _; exact hr
    · intro _ h
      have hu : u = 0 := by omega
      have hv : (v != 0).toNat = 0 := by omega
      have hv' : v = 0 := by
        by_cases h' : v = 0
        · exact h'
        · have : (v != 0) = true := by rw [bne_iff_ne]; exact h'
          rw [this] at hv; cases hv
      rw [hu, hv', Nat.mul_zero] at hdm2
      omega

section
variable {fi : Int} {p bi : Nat} {f : Ieee.Format}

theorem div_loop (s : Bool) (M N : Nat) (ea eb : Int) (hM : M < 2 * N) (hN : N < 9223372036854775808) (hN0 : 0 < N) (R : Value → World → Prop) (w : World)
    (hR : ∀ q r : Nat, M * 2 ^ 64 = q * (2 * N) + r → r < 2 * N → Runs Try.prog numm_round.id #[.int .i64 fi, .bool s, .int .u64 (q : Int), .int .i64 (IntKind.wrap .i64 (IntKind.wrap .i64 (ea - eb) - 63)), .bool (r != 0)] w fun r9 w10 => ∃ x11 : Int, r9 = .int .u64 x11 ∧ R (.int .u64 x11) w10) :
    ∀ (n k q r : Nat), n + k = 64 → M * 2 ^ k = q * (2 * N) + r → r < 2 * N → numm_div.L9 fi ea N eb s q r k R w
  | n, k, q, r, hnk, hinv, hr => by
    refine numm_div.step9 _ _ _ _ _ _ _ _ _ _ ?_
    unfold numm_div.V9
    by_cases h : k < 64
    · refine cond_true' (decide_eq_true (by omega)) ?_
      have hq : q < 2 ^ k := by
        have h1 : q * (2 * N) < 2 ^ k * (2 * N) := by
          have : M * 2 ^ k < 2 * N * 2 ^ k := Nat.mul_lt_mul_of_pos_right hM (Nat.two_pow_pos k)
          rw [Nat.mul_comm (2 * N)] at this
          omega
        exact Nat.lt_of_mul_lt_mul_right h1
      have hk63 : 2 ^ k ≤ 2 ^ 63 := Nat.pow_le_pow_right (by decide) (by omega)
      have c63 : (2 : Nat) ^ 63 = 9223372036854775808 := by decide
      have e1 : IntKind.wrap .u64 ((q : Int) * 2 ^ 1) = ((2 * q : Nat) : Int) := by
        have : (q : Int) * 2 ^ 1 = ((2 * q : Nat) : Int) := by omega
        rw [this, wrap64_n _ (by omega)]
      rw [e1]
      have e4 : IntKind.wrap .i64 ((k : Int) + 1) = ((k + 1 : Nat) : Int) := by rw [wrap_i64 (by omega) (by omega)]; omega
      have hk1 : M * 2 ^ (k + 1) = 2 * (M * 2 ^ k) := by rw [Nat.pow_succ, ← Nat.mul_assoc, Nat.mul_comm]
      cases n with
      | zero => omega
      | succ n =>
      refine numm_div.step10 _ _ _ _ _ _ _ _ _ _ ?_
      unfold numm_div.V10
      by_cases hc : N ≤ r
      · refine cond_true' (decide_eq_true (by omega)) ?_
        have e2 : IntKind.wrap .u64 (((2 * q : Nat) : Int) + 1) = ((2 * q + 1 : Nat) : Int) := by
          have : ((2 * q : Nat) : Int) + 1 = ((2 * q + 1 : Nat) : Int) := by omega
          rw [this, wrap64_n _ (by omega)]
        have e3 : IntKind.wrap .u64 ((r : Int) - (N : Int)) = ((r - N : Nat) : Int) := by rw [wrap_u64 (by omega) (by omega)]; omega
        rw [e2, e3]
        refine numm_div.step11 _ _ _ _ _ _ _ _ _ _ ?_
        unfold numm_div.V11
        have e5 : IntKind.wrap .u64 (((r - N : Nat) : Int) * 2 ^ 1) = ((2 * (r - N) : Nat) : Int) := by
          have : ((r - N : Nat) : Int) * 2 ^ 1 = ((2 * (r - N) : Nat) : Int) := by omega
          rw [this, wrap64_n _ (by omega)]
        rw [e4, e5]
        refine div_loop s M N ea eb hM hN hN0 R w hR n (k + 1) (2 * q + 1) (2 * (r - N)) (by omega) ?_ (by omega)
        rw [hk1, hinv, Nat.add_mul, Nat.one_mul, Nat.mul_assoc]
        generalize q * (2 * N) = Z
        omega
      · refine cond_false' (decide_eq_false (by omega)) ?_
        refine numm_div.step11 _ _ _ _ _ _ _ _ _ _ ?_
        unfold numm_div.V11
        have e5 : IntKind.wrap .u64 ((r : Int) * 2 ^ 1) = ((2 * r : Nat) : Int) := by
          have : (r : Int) * 2 ^ 1 = ((2 * r : Nat) : Int) := by omega
          rw [this, wrap64_n _ (by omega)]
        rw [e4, e5]
        refine div_loop s M N ea eb hM hN hN0 R w hR n (k + 1) (2 * q) (2 * r) (by omega) ?_ (by omega)
        rw [hk1, hinv, Nat.mul_assoc]
        generalize q * (2 * N) = Z
        omega
    · have hk : k = 64 := by omega
      subst hk
      refine cond_false' rfl ?_
      have e : ((r : Int) != 0) = (r != 0) := by rw [Bool.eq_iff_iff, bne_iff_ne, bne_iff_ne]; omega
      rw [e]
      exact hR q r hinv hr

theorem Fm.div_fin (F : Fm fi p bi f) (s : Bool) (m n : Nat) (i j : Int) (hm0 : m ≠ 0) (hn0 : n ≠ 0) (hm : m < 2 * f.binade) (hn : n < 9007199254740992) (hi0 : -2000 ≤ i) (hi1 : i ≤ 2000) (hj0 : -2000 ≤ j) (hj1 : j ≤ 2000) (R : Value → World → Prop) (w : World)
    (hR : R (.int .u64 ((f.write (.number s (2 * ((m <<< (f.fractionBits + 2 + n.log2 - m.log2)) / n) + ((m <<< (f.fractionBits + 2 + n.log2 - m.log2)) % n != 0).toNat) (i - j - (f.fractionBits + 2 + n.log2 - m.log2 : Nat) - 1)) : Nat) : Int)) w) :
    Runs Try.prog numm_lift.id #[.int .u64 (m : Int), .int .i64 i, .int .i64 62] w fun r10 w11 => ∃ x12 : Int, ∃ x13 : Int, r10 = .tuple #[.int .u64 x12, .int .i64 x13] ∧ numm_div.L5 fi x12 x13 n j s R w11 := by
  have hp2 := F.p2
  have hfr := F.frac
  have h53 := F.two53
  have hf53 := F.f53
  have c63 : (2 : Nat) ^ (62 + 1) = 9223372036854775808 := by decide
  have c62 : (2 : Nat) ^ 62 = 4611686018427387904 := by decide
  refine (lift_spec 62 (by decide) m i hm0 (by rw [c63]; omega) (by omega) (by omega) w).mono ?_
  rintro v w' ⟨rfl, k, hk, hl, rfl⟩
  refine ⟨_, _, rfl, ?_⟩
  refine numm_div.step5 _ _ _ _ _ _ _ _ ?_
  unfold numm_div.V5
  refine (lift_spec 62 (by decide) n j hn0 (by rw [c63]; omega) (by omega) (by omega) w').mono ?_
  rintro v w ⟨rfl, k', hk', hl', rfl⟩
  refine ⟨_, _, rfl, ?_⟩
  have hM0 : m * 2 ^ k ≠ 0 := Nat.mul_ne_zero hm0 (by have := Nat.two_pow_pos k; omega)
  have hN0 : n * 2 ^ k' ≠ 0 := Nat.mul_ne_zero hn0 (by have := Nat.two_pow_pos k'; omega)
  obtain ⟨b1, b2⟩ := log2_bd hM0 hl
  obtain ⟨b3, b4⟩ := log2_bd hN0 hl'
  rw [c62] at b1 b2 b3 b4
  rw [log2_scale m k hm0] at hl
  rw [log2_scale n k' hn0] at hl'
  refine numm_div.step6 _ _ _ _ _ _ _ _ ?_
  unfold numm_div.V6
  refine numm_div.step7 _ _ _ _ _ _ _ _ _ ?_
  unfold numm_div.V7
  refine numm_div.step8 _ _ _ _ _ _ _ _ _ ?_
  unfold numm_div.V8
  have hmlog : m.log2 ≤ f.fractionBits := log2_lt m _ (by
    have : 2 ^ (f.fractionBits + 1) = 2 * f.binade := by rw [Nat.pow_succ, Nat.mul_comm]; rfl
    omega)
  obtain ⟨more, hmore⟩ : ∃ more, more = f.fractionBits + 2 + n.log2 - m.log2 := ⟨_, rfl⟩
  rw [← hmore, Nat.shiftLeft_eq] at hR
  obtain ⟨t, ht⟩ : ∃ t, t = 61 - f.fractionBits := ⟨_, rfl⟩
  have hexp : k + 63 = more + t + k' := by omega
  have hq : 2 ^ (f.fractionBits + 1) ≤ m * 2 ^ more / n := by
    rw [Nat.le_div_iff_mul_le (Nat.pos_of_ne_zero hn0)]
    have h1 : n < 2 ^ (n.log2 + 1) := Nat.lt_log2_self
    have h2 : 2 ^ m.log2 ≤ m := Nat.log2_self_le hm0
    have h3 : 2 ^ (f.fractionBits + 1) * n ≤ 2 ^ (f.fractionBits + 1) * 2 ^ (n.log2 + 1) := Nat.mul_le_mul_left _ (by omega)
    have h4 : 2 ^ m.log2 * 2 ^ more ≤ m * 2 ^ more := Nat.mul_le_mul_right _ h2
    rw [← Nat.pow_add] at h3 h4
    have e : f.fractionBits + 1 + (n.log2 + 1) = m.log2 + more := by omega
    rw [e] at h3
    exact Nat.le_trans h3 h4
  refine div_loop s (m * 2 ^ k) (n * 2 ^ k') (i - k) (j - k') (by omega) (by omega) (by omega) R w ?_ 64 0 0 (m * 2 ^ k) rfl (by rw [Nat.zero_mul, Nat.zero_add, Nat.pow_zero, Nat.mul_one]) (by omega)
  intro q r hinv hr
  -- the remainder is even
  have c64 : (2 : Nat) ^ 64 = 2 * 2 ^ 63 := by decide
  obtain ⟨r', hr'⟩ : ∃ r', r = 2 * r' := ⟨r / 2, by
    have e1 : q * (2 * (n * 2 ^ k')) = 2 * (q * (n * 2 ^ k')) := by rw [← Nat.mul_assoc, Nat.mul_comm q 2, Nat.mul_assoc]
    have e2 : m * 2 ^ k * 2 ^ 64 = 2 * (m * 2 ^ k * 2 ^ 63) := by rw [c64, ← Nat.mul_assoc, Nat.mul_comm (m * 2 ^ k) 2, Nat.mul_assoc]
    rw [e1, e2] at hinv
    omega⟩
  subst hr'
  have hinv2 : m * 2 ^ k * 2 ^ 63 = n * 2 ^ k' * q + r' := by
    have e1 : q * (2 * (n * 2 ^ k')) = 2 * (n * 2 ^ k' * q) := by rw [← Nat.mul_assoc, Nat.mul_comm q 2, Nat.mul_assoc, Nat.mul_comm q]
    have e2 : m * 2 ^ k * 2 ^ 64 = 2 * (m * 2 ^ k * 2 ^ 63) := by rw [c64, ← Nat.mul_assoc, Nat.mul_comm (m * 2 ^ k) 2, Nat.mul_assoc]
    rw [e1, e2] at hinv
    exact Nat.eq_of_mul_eq_mul_left (show 0 < 2 by decide) (by rw [hinv, Nat.mul_add])
  have hNpos : 0 < n * 2 ^ k' := Nat.pos_of_ne_zero hN0
  have hQ : m * 2 ^ k * 2 ^ 63 / (n * 2 ^ k') = q := by
    rw [hinv2, Nat.mul_add_div hNpos, Nat.div_eq_of_lt (by omega), Nat.add_zero]
  have hRm : m * 2 ^ k * 2 ^ 63 % (n * 2 ^ k') = r' := by
    rw [hinv2, Nat.mul_add_mod, Nat.mod_eq_of_lt (by omega)]
  have hX : m * 2 ^ k * 2 ^ 63 = m * 2 ^ more * 2 ^ t * 2 ^ k' := by
    rw [Nat.mul_assoc, ← Nat.pow_add, hexp, Nat.pow_add, Nat.pow_add, Nat.mul_assoc (m * 2 ^ more), Nat.mul_assoc m, Nat.mul_assoc (2 ^ more)]
  have hkp := Nat.two_pow_pos k'
  rw [hX, Nat.mul_div_mul_right _ _ hkp] at hQ
  rw [hX, Nat.mul_mod_mul_right] at hRm
  have hst : (2 * r' != 0) = (m * 2 ^ more * 2 ^ t % n != 0) := by
    rw [Bool.eq_iff_iff, bne_iff_ne, bne_iff_ne, ← hRm]
    constructor
    · intro h h'; rw [h', Nat.zero_mul] at h; exact h rfl
    · intro h h'
      have : m * 2 ^ more * 2 ^ t % n * 2 ^ k' = 0 := by omega
      rcases Nat.mul_eq_zero.1 this with h'' | h''
      · exact h h''
      · omega
  have e1 : IntKind.wrap .i64 (i - (k : Int) - (j - (k' : Int))) = i - k - (j - k') := wrap_i64 (by omega) (by omega)
  have e2 : IntKind.wrap .i64 (i - (k : Int) - (j - (k' : Int)) - 63) = i - j - more - t := by rw [wrap_i64 (by omega) (by omega)]; omega
  rw [e1, e2, hst, ← hQ]
  have hsticky := div_sticky f s (m * 2 ^ more) n t (i - j - more) hn0 hq
  have hbig : 2 ^ (f.fractionBits + 1) * 2 ^ t ≤ m * 2 ^ more * 2 ^ t / n := by
    rw [Nat.le_div_iff_mul_le (Nat.pos_of_ne_zero hn0)]
    rw [Nat.le_div_iff_mul_le (Nat.pos_of_ne_zero hn0)] at hq
    have := Nat.mul_le_mul_right (2 ^ t) hq
    rw [Nat.mul_right_comm] at this
    exact this
  rw [← Nat.pow_add] at hbig
  have e3 : f.fractionBits + 1 + t = 62 := by omega
  rw [e3, c62] at hbig
  have hqlt : q < 18446744073709551616 := by
    have c64' : (2 : Nat) ^ 64 = 18446744073709551616 := by decide
    have h1 : m * 2 ^ k * 2 ^ 64 < 2 * (n * 2 ^ k') * 2 ^ 64 := Nat.mul_lt_mul_of_pos_right (by omega) (Nat.two_pow_pos 64)
    rw [Nat.mul_comm (2 * (n * 2 ^ k'))] at h1
    have h2 : q * (2 * (n * 2 ^ k')) < 2 ^ 64 * (2 * (n * 2 ^ k')) := by omega
    have := Nat.lt_of_mul_lt_mul_right h2
    omega
  refine Runs.pure_bind (round_spec F s _ _ _ (by omega) (by omega) (fun _ => by omega) (by omega) (by omega) w) ⟨_, rfl, ?_⟩
  rw [hsticky]
  exact hR

theorem Fm.div_spec (F : Fm fi p bi f) (a b : Nat) (ha : a < 2 * f.signWeight) (hb : b < 2 * f.signWeight) (na : rung f a ≤ f.infRung) (nb : rung f b ≤ f.infRung) (w : World) :
    Runs Try.prog numm_div.id #[.int .i64 fi, .int .u64 (a : Int), .int .u64 (b : Int)] w fun v w' => v = .int .u64 (((f.div a b).getD (nanOf f) : Nat) : Int) ∧ w' = w := by
  have hp1 := F.p1
  have hp2 := F.p2
  have hb1 := F.b1
  have hb2 := F.b2
  have hl := F.least
  have h53 := F.two53
  refine numm_div.enter _ _ _ _ _ ?_
  refine numm_div.step1 _ _ _ _ _ ?_
  unfold numm_div.V1
  refine Runs.pure_bind (numm_unpack.pure fi a w (F.unpackP a)) ⟨_, _, _, _, rfl, ?_⟩
  rw [F.unpackF a ha]
  refine numm_div.step2 _ _ _ _ _ _ _ _ ?_
  unfold numm_div.V2
  refine Runs.pure_bind (numm_unpack.pure fi b w (F.unpackP b)) ⟨_, _, _, _, rfl, ?_⟩
  rw [F.unpackF b hb]
  refine numm_div.step3 _ _ _ _ _ _ _ _ _ _ _ ?_
  unfold numm_div.V3
  have hx : (!(sgb f a == sgb f b)) = (sgb f a ^^ sgb f b) := by cases sgb f a <;> cases sgb f b <;> rfl
  show numm_div.L4 fi (un (f.read a)).1 (un (f.read a)).2.1 (un (f.read a)).2.2 (un (f.read b)).1 (un (f.read b)).2.1 (un (f.read b)).2.2 (!(sgb f a == sgb f b)) _ w
  rw [hx]
  refine numm_div.step4 _ _ _ _ _ _ _ _ _ _ ?_
  unfold numm_div.V4
  have hdiv : f.div a b = ((f.read a).quotient (f.fractionBits + 2) (f.read b)).map f.write := rfl
  rw [hdiv]
  have hun : ∀ s m i, ((un (.number s m i)).1 == (2 : Int)) = false := by
    intro s m i
    unfold un
    by_cases h0 : m = 0
    · simp only [if_pos h0]; rfl
    · simp only [if_neg h0]; rfl
  cases hra : f.read a with
  | nan s t => exact absurd hra (F.notNaN a na s t)
  | infinity s =>
    obtain ⟨rfl, -⟩ := F.read_sg a s hra
    refine cond_true' rfl ?_
    cases hrb : f.read b with
    | nan s t => exact absurd hrb (F.notNaN b nb s t)
    | infinity t =>
      refine cond_true' rfl ?_
      refine Runs.pure_bind (numm_canon.pure fi w) ⟨_, rfl, ?_, rfl⟩
      rw [F.canon]; rfl
    | number t n j =>
      obtain ⟨rfl, -, -, -⟩ := F.un_read b t n j hrb
      refine cond_false' (hun (sgb f b) n j) ?_
      refine Runs.pure_bind (numm_infinity.pure fi _ w ⟨F.signP _, F.infP, trivial⟩) ⟨_, rfl, ?_, rfl⟩
      rw [F.infinityF]; rfl
  | number s m i =>
    obtain ⟨rfl, hm, hi0, hi1⟩ := F.un_read a s m i hra
    refine cond_false' (hun (sgb f a) m i) ?_
    cases hrb : f.read b with
    | nan s t => exact absurd hrb (F.notNaN b nb s t)
    | infinity t =>
      obtain ⟨rfl, -⟩ := F.read_sg b t hrb
      refine cond_true' rfl ?_
      refine Runs.pure_bind (numm_sign.pure fi _ w (F.signP _)) ⟨_, rfl, ?_, rfl⟩
      simp only [Ieee.Datum.quotient, Option.map_some, Option.getD_some, F.zeroW]
      rw [F.signF]
    | number t n j =>
      obtain ⟨rfl, hn, hj0, hj1⟩ := F.un_read b t n j hrb
      refine cond_false' (hun (sgb f b) n j) ?_
      unfold un
      by_cases h1 : n = 0
      · subst h1
        refine cond_true' rfl ?_
        by_cases h0 : m = 0
        · subst h0
          refine cond_true' rfl ?_
          refine Runs.pure_bind (numm_canon.pure fi w) ⟨_, rfl, ?_, rfl⟩
          rw [F.canon]; rfl
        · simp only [if_neg h0]
          refine cond_false' rfl ?_
          refine Runs.pure_bind (numm_infinity.pure fi _ w ⟨F.signP _, F.infP, trivial⟩) ⟨_, rfl, ?_, by trivial⟩
          simp only [Ieee.Datum.quotient, if_neg h0, if_true, Option.map_some, Option.getD_some, F.infW]
          rw [F.infinityF]
      · simp only [if_neg h1]
        refine cond_false' rfl ?_
        by_cases h0 : m = 0
        · subst h0
          refine cond_true' rfl ?_
          refine Runs.pure_bind (numm_sign.pure fi _ w (F.signP _)) ⟨_, rfl, ?_, by trivial⟩
          rw [F.signF]
          simp only [Ieee.Datum.quotient, if_neg h1, Option.map_some, Option.getD_some, Nat.zero_shiftLeft, Nat.zero_div, Nat.zero_mod]
          exact congrArg (fun z : Nat => Value.int .u64 (z : Int)) (F.zeroW (sgb f a ^^ sgb f b) _).symm
        · simp only [if_neg h0]
          refine cond_false' rfl ?_
          refine F.div_fin _ m n i j h0 h1 hm (by omega) (by omega) (by omega) (by omega) (by omega) _ w ⟨?_, by trivial⟩
          simp only [Ieee.Datum.quotient, if_neg h1, Option.map_some, Option.getD_some]
end

end Go.Proofs.Qxb6500320a
