/-
  The model's root.
-/
import Derived.Test.Qxb6500320aRfG
set_option linter.unusedSimpArgs false
set_option linter.unusedVariables false
set_option linter.unusedSectionVars false
set_option maxRecDepth 100000
namespace Go.Proofs.Qxb6500320a
open Go Go.Vc

theorem sq_lt_of {a b : Nat} (h : a * a < b * b) : a < b := by
  rcases Nat.lt_or_ge a b with h1 | h1
  · exact h1
  · have := Nat.mul_le_mul h1 h1; omega

/-- A root to more digits is written alike. -/
theorem root_sticky (f : Ieee.Format) (s : Bool) (n w W t : Nat) (e : Int) (h1 : w * w ≤ n) (h2 : n < (w + 1) * (w + 1)) (H1 : W * W ≤ n * 2 ^ (2 * t)) (H2 : n * 2 ^ (2 * t) < (W + 1) * (W + 1)) (hq : 2 ^ (f.fractionBits + 1) ≤ w) :
    rd f s W (e - t) (W * W != n * 2 ^ (2 * t)) = rd f s w e (w * w != n) := by
  have ht := Nat.two_pow_pos t
  have e4 : 2 ^ (2 * t) = 2 ^ t * 2 ^ t := by rw [← Nat.pow_add]; congr 1; omega
  rw [e4] at H1 H2 ⊢
  have sc : ∀ a : Nat, a * 2 ^ t * (a * 2 ^ t) = a * a * (2 ^ t * 2 ^ t) := fun a => by rw [Nat.mul_mul_mul_comm]
  have hlo : w * 2 ^ t ≤ W := by
    have : w * 2 ^ t * (w * 2 ^ t) < (W + 1) * (W + 1) := by
      rw [sc]
      exact Nat.lt_of_le_of_lt (Nat.mul_le_mul_right _ h1) H2
    have := sq_lt_of this
    omega
  have hhi : W < (w + 1) * 2 ^ t := by
    apply sq_lt_of
    rw [sc]
    exact Nat.lt_of_le_of_lt H1 (Nat.mul_lt_mul_of_pos_right h2 (Nat.mul_pos ht ht))
  obtain ⟨x, hx⟩ : ∃ x, W = w * 2 ^ t + x := ⟨W - w * 2 ^ t, by omega⟩
  rw [Nat.add_mul, Nat.one_mul] at hhi
  have hb : (W * W != n * (2 ^ t * 2 ^ t)).toNat ≤ 1 := by cases (W * W != n * (2 ^ t * 2 ^ t)) <;> decide
  have st := rd_sticky f s w (t + 1) (2 * x + (W * W != n * (2 ^ t * 2 ^ t)).toNat) (e - t - 1) (.inl hq) (by rw [Nat.pow_succ]; omega)
  have e1 : w * 2 ^ (t + 1) + (2 * x + (W * W != n * (2 ^ t * 2 ^ t)).toNat) = 2 * W + (W * W != n * (2 ^ t * 2 ^ t)).toNat := by rw [Nat.pow_succ, ← Nat.mul_assoc]; omega
  have e2 : e - (t : Int) - 1 + ((t + 1 : Nat) : Int) = e := by omega
  rw [e1, e2] at st
  show f.write (.number s (2 * W + (W * W != n * (2 ^ t * 2 ^ t)).toNat) (e - t - 1)) = _
  rw [st]
  congr 1
  rw [Bool.eq_iff_iff, bne_iff_ne, bne_iff_ne]
  by_cases hr : w * w = n
  · have hW : W = w * 2 ^ t := by
      have : W < w * 2 ^ t + 1 := by
        apply sq_lt_of
        refine Nat.lt_of_le_of_lt H1 ?_
        rw [← hr, ← sc]
        generalize w * 2 ^ t = z
        rw [Nat.add_mul, Nat.mul_add]; omega
      omega
    have hx0 : x = 0 := by omega
    have hsq : (W * W != n * (2 ^ t * 2 ^ t)) = false := by rw [bne_eq_false_iff_eq, hW, sc, hr]
    rw [hx0, hsq]
    simp [hr]
  · constructor
    · intro _; exact hr
    · intro _ h
      have hx0 : x = 0 := by omega
      have hv : (W * W != n * (2 ^ t * 2 ^ t)).toNat = 0 := by omega
      have hsq : W * W = n * (2 ^ t * 2 ^ t) := by
        by_cases h' : W * W = n * (2 ^ t * 2 ^ t)
        · exact h'
        · have : (W * W != n * (2 ^ t * 2 ^ t)) = true := by rw [bne_iff_ne]; exact h'
          rw [this] at hv; cases hv
      rw [hx, hx0, Nat.add_zero, sc] at hsq
      exact hr (Nat.eq_of_mul_eq_mul_right (Nat.mul_pos ht ht) hsq)

/-- The radicand's first pairs. -/
def yr (m i : Nat) : Nat := if i ≤ 28 then m / 2 ^ (56 - 2 * i) else m * 2 ^ (2 * i - 56)

theorem yr_step (m i : Nat) (hi : i < 28) : yr m (i + 1) = 4 * yr m i + m / 2 ^ (54 - 2 * i) % 4 := by
  unfold yr
  rw [if_pos (by omega), if_pos (by omega)]
  have e1 : 56 - 2 * (i + 1) = 54 - 2 * i := by omega
  have e2 : 56 - 2 * i = 54 - 2 * i + 2 := by omega
  rw [e1, e2, Nat.pow_add, ← Nat.div_div_eq_div_mul]
  generalize m / 2 ^ (54 - 2 * i) = z
  omega
theorem yr_step2 (m i : Nat) (hi : 28 ≤ i) : yr m (i + 1) = 4 * yr m i := by
  unfold yr
  rw [if_neg (by omega)]
  by_cases h : i = 28
  · subst h
    rw [if_pos (by omega)]
    show m * 2 ^ 2 = 4 * (m / 2 ^ 0)
    rw [Nat.pow_zero, Nat.div_one]; omega
  · rw [if_neg (by omega)]
    have e : 2 * (i + 1) - 56 = (2 * i - 56) + 2 := by omega
    rw [e, Nat.pow_add]
    rw [← Nat.mul_assoc, Nat.mul_comm]

theorem sqrt_loop {fi : Int} (m : Nat) (ee : Int) (hm : m < 18446744073709551616) (R : Value → World → Prop) (w : World)
    (hR : ∀ q r : Nat, m * 2 ^ 56 = q * q + r → r ≤ 2 * q → q < 2 ^ 56 → Runs Try.prog numm_round.id #[.int .i64 fi, .bool false, .int .u64 (q : Int), .int .i64 (IntKind.wrap .i64 (Int.tdiv (IntKind.wrap .i64 (ee - 56)) 2)), .bool (r != 0)] w fun r9 w10 => ∃ x11 : Int, r9 = .int .u64 x11 ∧ R (.int .u64 x11) w10) :
    ∀ (n k q r : Nat), n + k = 56 → yr m k = q * q + r → r ≤ 2 * q → q < 2 ^ k → numm_sqrt.L7 fi m ee q r k R w
  | n, k, q, r, hnk, hinv, hr, hq => by
    refine numm_sqrt.step7 _ _ _ _ _ _ _ _ ?_
    unfold numm_sqrt.V7
    by_cases h : k < 56
    · refine cond_true' (decide_eq_true (by omega)) ?_
      have hk55 : 2 ^ k ≤ 2 ^ 55 := Nat.pow_le_pow_right (by decide) (by omega)
      have c55 : (2 : Nat) ^ 55 = 36028797018963968 := by decide
      have hk1 : 2 ^ (k + 1) = 2 * 2 ^ k := by rw [Nat.pow_succ, Nat.mul_comm]
      cases n with
      | zero => omega
      | succ n =>
      have step : ∀ pr : Nat, pr ≤ 3 → yr m (k + 1) = 4 * yr m k + pr → numm_sqrt.L9 fi m ee q r k pr R w := by
        intro pr hpr hy
        refine numm_sqrt.step9 _ _ _ _ _ _ _ _ _ ?_
        unfold numm_sqrt.V9
        have e1 : IntKind.wrap .u64 ((r : Int) * 2 ^ 2) = ((4 * r : Nat) : Int) := by
          have : (r : Int) * 2 ^ 2 = ((4 * r : Nat) : Int) := by omega
          rw [this, wrap64_n _ (by omega)]
        rw [e1, ← Int.natCast_add, wrap64_n _ (by omega)]
        refine numm_sqrt.step10 _ _ _ _ _ _ _ _ ?_
        unfold numm_sqrt.V10
        have e2 : IntKind.wrap .u64 ((q : Int) * 2 ^ 2) = ((4 * q : Nat) : Int) := by
          have : (q : Int) * 2 ^ 2 = ((4 * q : Nat) : Int) := by omega
          rw [this, wrap64_n _ (by omega)]
        have e3 : IntKind.wrap .u64 (((4 * q : Nat) : Int) + 1) = ((4 * q + 1 : Nat) : Int) := by
          have : ((4 * q : Nat) : Int) + 1 = ((4 * q + 1 : Nat) : Int) := by omega
          rw [this, wrap64_n _ (by omega)]
        rw [e2, e3]
        refine numm_sqrt.step11 _ _ _ _ _ _ _ _ _ ?_
        unfold numm_sqrt.V11
        have e4 : IntKind.wrap .u64 ((q : Int) * 2 ^ 1) = ((2 * q : Nat) : Int) := by
          have : (q : Int) * 2 ^ 1 = ((2 * q : Nat) : Int) := by omega
          rw [this, wrap64_n _ (by omega)]
        rw [e4]
        refine numm_sqrt.step12 _ _ _ _ _ _ _ _ _ ?_
        unfold numm_sqrt.V12
        have e5 : IntKind.wrap .i64 ((k : Int) + 1) = ((k + 1 : Nat) : Int) := by rw [wrap_i64 (by omega) (by omega)]; omega
        have sq4 : 2 * q * (2 * q) = 4 * (q * q) := by rw [Nat.mul_mul_mul_comm]
        by_cases hc : 4 * q + 1 ≤ 4 * r + pr
        · refine cond_true' (decide_eq_true (by omega)) ?_
          have e6 : IntKind.wrap .u64 (((2 * q : Nat) : Int) + 1) = ((2 * q + 1 : Nat) : Int) := by
            have : ((2 * q : Nat) : Int) + 1 = ((2 * q + 1 : Nat) : Int) := by omega
            rw [this, wrap64_n _ (by omega)]
          have e7 : IntKind.wrap .u64 (((4 * r + pr : Nat) : Int) - ((4 * q + 1 : Nat) : Int)) = ((4 * r + pr - (4 * q + 1) : Nat) : Int) := by rw [wrap_u64 (by omega) (by omega)]; omega
          rw [e6, e7]
          refine numm_sqrt.step13 _ _ _ _ _ _ _ _ ?_
          unfold numm_sqrt.V13
          rw [e5]
          refine sqrt_loop m ee hm R w hR n (k + 1) (2 * q + 1) (4 * r + pr - (4 * q + 1)) (by omega) ?_ (by omega) (by omega)
          rw [hy, hinv]
          have : (2 * q + 1) * (2 * q + 1) = 4 * (q * q) + 4 * q + 1 := by rw [Nat.add_mul, Nat.mul_add, sq4]; omega
          rw [this]
          generalize q * q = z
          omega
        · refine cond_false' (decide_eq_false (by omega)) ?_
          refine numm_sqrt.step13 _ _ _ _ _ _ _ _ ?_
          unfold numm_sqrt.V13
          rw [e5]
          refine sqrt_loop m ee hm R w hR n (k + 1) (2 * q) (4 * r + pr) (by omega) ?_ (by omega) (by omega)
          rw [hy, hinv, sq4]
          generalize q * q = z
          omega
      refine numm_sqrt.step8 _ _ _ _ _ _ _ _ _ ?_
      unfold numm_sqrt.V8
      by_cases h28 : k < 28
      · refine cond_true' (decide_eq_true (by omega)) ?_
        have a1 : IntKind.wrap .i64 (2 * (k : Int)) = 2 * k := wrap_i64 (by omega) (by omega)
        have a2 : (54 : Int) - 2 * (k : Int) = ((54 - 2 * k : Nat) : Int) := by omega
        rw [a1, a2, wui _ (by omega) (by omega), Int.toNat_natCast, shr64_n m _ (by omega)]
        have hdl : m / 2 ^ (54 - 2 * k) ≤ m := Nat.div_le_self _ _
        have a3 : bAnd .u64 ((m / 2 ^ (54 - 2 * k) : Nat) : Int) 3 = ((m / 2 ^ (54 - 2 * k) % 4 : Nat) : Int) := by
          have e : bAnd .u64 ((m / 2 ^ (54 - 2 * k) : Nat) : Int) 3 = ((m / 2 ^ (54 - 2 * k) &&& 3 : Nat) : Int) := bAnd64_n _ 3 (by omega) (by decide)
          rw [e]
          have e2 := Nat.and_two_pow_sub_one_eq_mod (m / 2 ^ (54 - 2 * k)) 2
          exact congrArg (fun z : Nat => (z : Int)) e2
        rw [a3]
        refine ⟨by omega, step _ (by have := Nat.mod_lt (m / 2 ^ (54 - 2 * k)) (show 0 < 4 by decide); omega) (yr_step m k h28)⟩
      · refine cond_false' (decide_eq_false (by omega)) ?_
        exact step 0 (by omega) (by rw [yr_step2 m k (by omega), Nat.add_zero])
    · have hk : k = 56 := by omega
      subst hk
      refine cond_false' rfl ?_
      have e : ((r : Int) != 0) = (r != 0) := by rw [Bool.eq_iff_iff, bne_iff_ne, bne_iff_ne]; omega
      rw [e]
      refine hR q r ?_ hr hq
      rw [← hinv]
      unfold yr
      rw [if_neg (by decide)]

theorem tmod_even (c : Int) : Int.tmod (2 * c) 2 = 0 := Int.mul_tmod_right 2 c
theorem tmod_odd (c : Int) : Int.tmod (2 * c + 1) 2 ≠ 0 := by
  intro h
  have := Int.dvd_of_tmod_eq_zero h
  omega
theorem tdiv_even (c : Int) : Int.tdiv (2 * c) 2 = c := Int.mul_tdiv_cancel_left c (by decide)

theorem root_parts2 (D m : Nat) (i : Int) (hm : m ≠ 0) (hD : m.log2 ≤ 2 * D) : ∃ (more whole st : Nat) (P : Int), (Ieee.Datum.number false m i).root D = some (.number false (2 * whole + st) (P - 1)) ∧ i - more = 2 * P ∧ (more = 2 * D - m.log2 ∨ more = 2 * D - m.log2 + 1) ∧
    2 ^ (2 * D) ≤ m * 2 ^ more ∧ m * 2 ^ more < 2 ^ (2 * D + 2) ∧ whole * whole ≤ m * 2 ^ more ∧ m * 2 ^ more < (whole + 1) * (whole + 1) ∧ st = (whole * whole != m * 2 ^ more).toNat := by
  obtain ⟨more, hmore⟩ : ∃ more : Nat, more = 2 * D - m.log2 + ((i - ((2 * D - m.log2 : Nat) : Int)) % 2).toNat := ⟨_, rfl⟩
  have h1 : 2 ^ m.log2 ≤ m := Nat.log2_self_le hm
  have h2 : m < 2 ^ (m.log2 + 1) := Nat.lt_log2_self
  have hlo : 2 ^ (2 * D) ≤ m * 2 ^ more := by
    have a1 : 2 ^ m.log2 * 2 ^ more ≤ m * 2 ^ more := Nat.mul_le_mul_right _ h1
    rw [← Nat.pow_add] at a1
    exact Nat.le_trans (Nat.pow_le_pow_right (by omega) (by omega)) a1
  have hhi : m * 2 ^ more < 2 ^ (2 * D + 2) := by
    have a1 : m * 2 ^ more < 2 ^ (m.log2 + 1) * 2 ^ more := Nat.mul_lt_mul_of_pos_right h2 (Nat.two_pow_pos _)
    rw [← Nat.pow_add] at a1
    exact Nat.lt_of_lt_of_le a1 (Nat.pow_le_pow_right (by omega) (by omega))
  have hne : m * 2 ^ more ≠ 0 := by have := Nat.two_pow_pos (2 * D); omega
  have hself : m * 2 ^ more < 2 ^ ((m * 2 ^ more).log2 + 1) := Nat.lt_log2_self
  obtain ⟨w1, w2⟩ := rootFrom_spec (m * 2 ^ more) ((m * 2 ^ more).log2 / 2 + 1) 0 (by omega) (by
    rw [Nat.zero_add, ← Nat.pow_add]
    exact Nat.lt_of_lt_of_le hself (Nat.pow_le_pow_right (by omega) (by omega)))
  refine ⟨more, Ieee.Datum.rootFrom (m * 2 ^ more) ((m * 2 ^ more).log2 / 2 + 1) 0, (Ieee.Datum.rootFrom (m * 2 ^ more) ((m * 2 ^ more).log2 / 2 + 1) 0 * Ieee.Datum.rootFrom (m * 2 ^ more) ((m * 2 ^ more).log2 / 2 + 1) 0 != m * 2 ^ more).toNat, (i - more) / 2, ?_, by omega, by omega, hlo, hhi, w1, w2, rfl⟩
  unfold Ieee.Datum.root
  simp only [if_neg hm, Bool.false_eq_true, if_false, ← hmore, Nat.shiftLeft_eq]

section
variable {fi : Int} {p bi : Nat} {f : Ieee.Format}

theorem Fm.sqrt_fin (F : Fm fi p bi f) (m : Nat) (i : Int) (hm0 : m ≠ 0) (hm : m < 2 * f.binade) (hi0 : -2000 ≤ i) (hi1 : i ≤ 2000) (R : Value → World → Prop) (w : World)
    (hR : ∀ r, (Ieee.Datum.number false m i).root (f.fractionBits + 2) = some r → R (.int .u64 ((f.write r : Nat) : Int)) w) :
    Runs Try.prog numm_lift.id #[.int .u64 (m : Int), .int .i64 i, .int .i64 54] w fun r10 w11 => ∃ x12 : Int, ∃ x13 : Int, r10 = .tuple #[.int .u64 x12, .int .i64 x13] ∧ numm_sqrt.L3 fi x12 x13 R w11 := by
  have hp1 := F.p1
  have hp2 := F.p2
  have hfr := F.frac
  have h53 := F.two53
  have hmlog : m.log2 ≤ f.fractionBits := log2_lt m _ (by
    have : 2 ^ (f.fractionBits + 1) = 2 * f.binade := by rw [Nat.pow_succ, Nat.mul_comm]; rfl
    omega)
  have c55 : (2 : Nat) ^ (54 + 1) = 36028797018963968 := by decide
  have c54 : (2 : Nat) ^ 54 = 18014398509481984 := by decide
  obtain ⟨more, whole, st, P, r1, r2, r3, r4, r5, r6, r7, hst⟩ := root_parts2 (f.fractionBits + 2) m i hm0 (by omega)
  have hRr := hR _ r1
  have hwhole : f.write (.number false (2 * whole + st) (P - 1)) = rd f false whole P (whole * whole != m * 2 ^ more) := by rw [hst]; rfl
  rw [hwhole] at hRr
  have hwlo : 2 ^ (f.fractionBits + 1) ≤ whole := by
    have h1 : 2 ^ (f.fractionBits + 2) * 2 ^ (f.fractionBits + 2) < (whole + 1) * (whole + 1) := by
      rw [← Nat.pow_add]
      have e : f.fractionBits + 2 + (f.fractionBits + 2) = 2 * (f.fractionBits + 2) := by omega
      rw [e]; omega
    have h2 := sq_lt_of h1
    have h3 : 2 ^ (f.fractionBits + 1) ≤ 2 ^ (f.fractionBits + 2) := Nat.pow_le_pow_right (by decide) (by omega)
    omega
  refine (lift_spec 54 (by decide) m i hm0 (by rw [c55]; omega) (by omega) (by omega) w).mono ?_
  rintro v w' ⟨rfl, k, hk, hl, rfl⟩
  refine ⟨_, _, rfl, ?_⟩
  have hM0 : m * 2 ^ k ≠ 0 := Nat.mul_ne_zero hm0 (by have := Nat.two_pow_pos k; omega)
  obtain ⟨b1, b2⟩ := log2_bd hM0 hl
  rw [c54] at b1 b2
  rw [log2_scale m k hm0] at hl
  -- behind the parity
  have four : ∀ (g : Nat) (c : Int), i - g = 2 * c → k ≤ g → g ≤ k + 1 → m * 2 ^ g < 72057594037927936 → numm_sqrt.L4 fi (m * 2 ^ g : Nat) (2 * c) R w' := by
    intro g c hg hgk hgk1 hlt
    refine numm_sqrt.step4 _ _ _ _ _ ?_
    unfold numm_sqrt.V4
    refine numm_sqrt.step5 _ _ _ _ _ _ ?_
    unfold numm_sqrt.V5
    refine numm_sqrt.step6 _ _ _ _ _ _ _ ?_
    unfold numm_sqrt.V6
    have hge : m * 2 ^ k ≤ m * 2 ^ g := Nat.mul_le_mul_left _ (Nat.pow_le_pow_right (by decide) hgk)
    have hy0 : yr (m * 2 ^ g) 0 = 0 * 0 + 0 := by
      unfold yr
      rw [if_pos (by decide)]
      have c56 : (2 : Nat) ^ (56 - 2 * 0) = 72057594037927936 := by decide
      rw [c56, Nat.div_eq_of_lt hlt]
    refine sqrt_loop (m * 2 ^ g) (2 * c) (by omega) R w' ?_ 56 0 0 0 rfl hy0 (by omega) (by decide)
    intro q r hinv hr hq
    have c56 : (2 : Nat) ^ 56 = 72057594037927936 := by decide
    have hqlo : 9007199254740992 ≤ q := by
      rcases Nat.lt_or_ge q 9007199254740992 with h | h
      · exfalso
        have h1 : q * q ≤ 9007199254740991 * 9007199254740991 := Nat.mul_le_mul (by omega) (by omega)
        have h2 : 18014398509481984 * 2 ^ 56 ≤ m * 2 ^ g * 2 ^ 56 := Nat.mul_le_mul_right _ (by omega)
        rw [hinv, c56] at h2
        omega
      · exact h
    rw [c56] at hq
    have a1 : IntKind.wrap .i64 (2 * c - 56) = 2 * (c - 28) := by rw [wrap_i64 (by omega) (by omega)]; omega
    have a2 : IntKind.wrap .i64 (c - 28) = c - 28 := wrap_i64 (by omega) (by omega)
    rw [a1, tdiv_even, a2]
    refine Runs.pure_bind (round_spec F false q _ _ (by omega) (by omega) (fun _ => hqlo) (by omega) (by omega) w') ⟨_, rfl, ?_⟩
    obtain ⟨t, ht⟩ : ∃ t : Nat, (t : Int) = P - (c - 28) := ⟨(P - (c - 28)).toNat, by omega⟩
    have hexp : g + 56 = more + 2 * t := by omega
    have hrad : m * 2 ^ g * 2 ^ 56 = m * 2 ^ more * 2 ^ (2 * t) := by
      rw [Nat.mul_assoc, ← Nat.pow_add, hexp, Nat.pow_add, Nat.mul_assoc]
    rw [hrad] at hinv
    have hsq : (q + 1) * (q + 1) = q * q + (2 * q + 1) := by rw [Nat.add_mul, Nat.mul_add]; omega
    have hsticky := root_sticky f false (m * 2 ^ more) whole q t P r6 r7 (by rw [hinv]; omega) (by rw [hinv, hsq]; omega) hwlo
    have a3 : (r != 0) = (q * q != m * 2 ^ more * 2 ^ (2 * t)) := by
      rw [Bool.eq_iff_iff, bne_iff_ne, bne_iff_ne, hinv]; omega
    have a4 : c - 28 = P - t := by omega
    rw [a3, a4, hsticky]
    exact hRr
  refine numm_sqrt.step3 _ _ _ _ _ ?_
  unfold numm_sqrt.V3
  obtain ⟨c, hc⟩ : ∃ c : Int, i - k = 2 * c ∨ i - k = 2 * c + 1 := ⟨(i - k) / 2, by omega⟩
  rcases hc with hc | hc
  · rw [hc]
    refine cond_false' (by rw [tmod_even]; rfl) ?_
    exact four k c hc (Nat.le_refl _) (by omega) (by omega)
  · rw [hc]
    refine cond_true' (by rw [bne_iff_ne]; exact tmod_odd c) ?_
    have a1 : IntKind.wrap .u64 (((m * 2 ^ k : Nat) : Int) * 2 ^ 1) = ((m * 2 ^ (k + 1) : Nat) : Int) := by
      have : ((m * 2 ^ k : Nat) : Int) * 2 ^ 1 = ((2 * (m * 2 ^ k) : Nat) : Int) := by omega
      rw [this, wrap64_n _ (by omega), Nat.pow_succ, ← Nat.mul_assoc m, Nat.mul_comm 2 (m * 2 ^ k)]
    have a2 : IntKind.wrap .i64 (2 * c + 1 - 1) = 2 * c := by rw [wrap_i64 (by omega) (by omega)]; omega
    rw [a1, a2]
    refine four (k + 1) c (by omega) (by omega) (by omega) ?_
    rw [Nat.pow_succ, ← Nat.mul_assoc]; omega
theorem Fm.sqrt_spec (F : Fm fi p bi f) (a : Nat) (ha : a < 2 * f.signWeight) (w : World) :
    Runs Try.prog numm_sqrt.id #[.int .i64 fi, .int .u64 (a : Int)] w fun v w' => v = .int .u64 (((f.sqrt a).getD (nanOf f) : Nat) : Int) ∧ w' = w := by
  have hp1 := F.p1
  have hp2 := F.p2
  have hb1 := F.b1
  have hb2 := F.b2
  have hl := F.least
  have h53 := F.two53
  refine numm_sqrt.enter _ _ _ _ ?_
  refine numm_sqrt.step1 _ _ _ _ ?_
  unfold numm_sqrt.V1
  refine Runs.pure_bind (numm_unpack.pure fi a w (F.unpackP a)) ⟨_, _, _, _, rfl, ?_⟩
  rw [F.unpackF a ha]
  refine numm_sqrt.step2 _ _ _ _ _ _ _ _ ?_
  unfold numm_sqrt.V2
  have hsq : f.sqrt a = ((f.read a).root (f.fractionBits + 2)).map f.write := rfl
  rw [hsq]
  cases hra : f.read a with
  | nan s t =>
    refine cond_true' rfl ?_
    refine Runs.pure_bind (numm_canon.pure fi w) ⟨_, rfl, ?_, rfl⟩
    rw [F.canon]; rfl
  | infinity s =>
    have hown := F.inf_own a ha s hra
    obtain ⟨rfl, -⟩ := F.read_sg a s hra
    refine cond_false' rfl (cond_false' rfl ?_)
    cases hs : sgb f a
    · refine cond_false' rfl (cond_true' rfl ⟨?_, rfl⟩)
      rw [hs] at hown
      simp only [Ieee.Datum.root, Bool.false_eq_true, if_false, Option.map_some, Option.getD_some, F.infW, hown]
    · refine cond_true' rfl ?_
      refine Runs.pure_bind (numm_canon.pure fi w) ⟨_, rfl, ?_, rfl⟩
      rw [F.canon]; rfl
  | number s m i =>
    have hown := F.write_own a ha s m i hra
    obtain ⟨rfl, hm, hi0, hi1⟩ := F.un_read a s m i hra
    unfold un
    by_cases h0 : m = 0
    · subst h0
      refine cond_false' rfl (cond_true' rfl ⟨?_, by trivial⟩)
      simp only [Ieee.Datum.root, if_true, Option.map_some, Option.getD_some, hown]
    · simp only [if_neg h0]
      refine cond_false' rfl (cond_false' rfl ?_)
      cases hs : sgb f a
      · refine cond_false' rfl (cond_false' rfl ?_)
        refine F.sqrt_fin m i h0 hm (by omega) (by omega) _ w ?_
        intro r hr
        rw [hr]
        exact ⟨rfl, by trivial⟩
      · refine cond_true' rfl ?_
        refine Runs.pure_bind (numm_canon.pure fi w) ⟨_, rfl, ?_, by trivial⟩
        rw [F.canon]
        simp only [Ieee.Datum.root, if_neg h0, if_true]; rfl
end

end Go.Proofs.Qxb6500320a
