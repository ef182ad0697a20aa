/-
  The model's lift and its one rounding.
-/
import Derived.Test.Qxb6500320aRfA
set_option linter.unusedSimpArgs false
set_option linter.unusedVariables false
set_option maxRecDepth 100000
namespace Go.Proofs.Qxb6500320a
open Go Go.Vc

def nanOf (f : Ieee.Format) : Nat := f.infRung + f.binade / 2
/-- A format as the model knows it. -/
structure Fm (fi : Int) (p bi : Nat) (f : Ieee.Format) : Prop where
  prec : numm_prec.F fi = (p : Int)
  bias : numm_bias.F fi = (bi : Int)
  topF : numm_top.F fi = (f.signWeight : Int)
  topP : numm_top.Pre fi
  infF : numm_infOf.F fi = (f.infRung : Int)
  infP : numm_infOf.Pre fi
  frac : f.fractionBits + 1 = p
  least : f.leastPlace = 2 - (bi : Int) - p
  infR : f.infRung = (2 * bi + 1) * f.binade
  sw : f.signWeight = (2 * bi + 2) * f.binade
  sw2 : f.signWeight ≤ 9223372036854775808
  p1 : 24 ≤ p
  p2 : p ≤ 53
  b1 : 127 ≤ bi
  b2 : bi ≤ 1023
  eb : 2 * bi + 2 = 2 ^ f.exponentBits
  canon : numm_canon.F fi = ((nanOf f : Nat) : Int)
  msk : numm_mask.F fi = ((2 * f.signWeight - 1 : Nat) : Int)

theorem fm32 : Fm 32 24 127 Ieee.single := by constructor <;> first | decide +kernel | (unfold numm_top.Pre; decide +kernel) | (unfold numm_infOf.Pre; decide +kernel)
theorem fm64 : Fm 64 53 1023 Ieee.double := by constructor <;> first | decide +kernel | (unfold numm_top.Pre; decide +kernel) | (unfold numm_infOf.Pre; decide +kernel)

theorem Fm.signF {fi : Int} {p bi : Nat} {f : Ieee.Format} (F : Fm fi p bi f) (s : Bool) : numm_sign.F fi s = ((f.word s 0 : Nat) : Int) := by
  unfold numm_sign.F Ieee.Format.word
  cases s
  · rfl
  · rw [cond_true, F.topF, if_pos rfl, Nat.add_zero]
theorem Fm.signP {fi : Int} {p bi : Nat} {f : Ieee.Format} (F : Fm fi p bi f) (s : Bool) : numm_sign.Pre fi s := by
  unfold numm_sign.Pre
  cases s
  · trivial
  · exact ⟨F.topP, trivial⟩
theorem word_add (f : Ieee.Format) (s : Bool) (r : Nat) : f.word s 0 + r = f.word s r := by
  unfold Ieee.Format.word
  cases s
  · rw [if_neg (by decide), if_neg (by decide), Nat.zero_add]
  · rw [if_pos rfl, if_pos rfl, Nat.add_zero]
theorem Fm.word_lt {fi : Int} {p bi : Nat} {f : Ieee.Format} (F : Fm fi p bi f) (s : Bool) (r : Nat) (h : r < f.signWeight) : f.word s r < 18446744073709551616 := by
  have := F.sw2
  unfold Ieee.Format.word
  cases s
  · rw [if_neg (by decide)]; omega
  · rw [if_pos rfl]; omega
theorem Fm.infLt {fi : Int} {p bi : Nat} {f : Ieee.Format} (F : Fm fi p bi f) : f.infRung < f.signWeight := by
  have hb : 0 < f.binade := Nat.two_pow_pos _
  rw [F.sw, F.infR]
  exact Nat.mul_lt_mul_of_pos_right (by omega) hb
theorem Fm.infinityF {fi : Int} {p bi : Nat} {f : Ieee.Format} (F : Fm fi p bi f) (s : Bool) : numm_infinity.F fi s = ((f.word s f.infRung : Nat) : Int) := by
  have h := F.word_lt s f.infRung F.infLt
  unfold numm_infinity.F
  rw [F.signF, F.infF, ← Int.natCast_add, word_add, wrap64_n _ h]

/-! ### Lift -/
theorem lift_loop (at_ : Nat) (hat : at_ ≤ 63) (R : Value → World → Prop) (w : World) : ∀ (n m : Nat) (e : Int) (hm0 : m ≠ 0) (hm : m < 2 ^ (at_ + 1)) (hn : 2 ^ at_ ≤ m * 2 ^ n) (he0 : -1000000000 ≤ e - n) (he1 : e ≤ 1000000000)
    (hR : ∀ k : Nat, k ≤ n → (m * 2 ^ k).log2 = at_ → R (.tuple #[.int .u64 ((m * 2 ^ k : Nat) : Int), .int .i64 (e - k)]) w), numm_lift.L1 m e at_ R w
  | n, m, e, hm0, hm, hn, he0, he1, hR => by
    refine numm_lift.step1 _ _ _ _ _ ?_
    unfold numm_lift.V1
    have e1 : IntKind.wrap .u64 (at_ : Int) = (at_ : Int) := wrap64_n _ (by omega)
    have e2 : Int.toNat (at_ : Int) = at_ := Int.toNat_natCast _
    have h64 : 2 ^ (at_ + 1) ≤ 2 ^ 64 := Nat.pow_le_pow_right (by decide) (by omega)
    have c64 : (2 : Nat) ^ 64 = 18446744073709551616 := by decide
    rw [e1, e2, shr64_n m at_ (by omega)]
    refine ⟨by omega, ?_⟩
    by_cases h : m < 2 ^ at_
    · have hd : m / 2 ^ at_ = 0 := Nat.div_eq_of_lt h
      have hs : 2 ^ (at_ + 1) = 2 * 2 ^ at_ := by rw [Nat.pow_succ, Nat.mul_comm]
      rw [hd]
      refine cond_true' rfl ?_
      have e3 : IntKind.wrap .u64 ((m : Int) * 2 ^ 1) = ((m * 2 : Nat) : Int) := by
        have : (m : Int) * 2 ^ 1 = ((m * 2 : Nat) : Int) := by omega
        rw [this, wrap64_n _ (by omega)]
      cases n with
      | zero => rw [Nat.pow_zero, Nat.mul_one] at hn; omega
      | succ n =>
        have e4 : IntKind.wrap .i64 (e - 1) = e - 1 := wrap_i64 (by omega) (by omega)
        rw [e3, e4]
        refine lift_loop at_ hat R w n (m * 2) (e - 1) (by omega) (by omega) ?_ (by omega) (by omega) ?_
        · rw [Nat.pow_succ, Nat.mul_comm (2 ^ n) 2, ← Nat.mul_assoc] at hn; exact hn
        · intro k hk hl
          have a1 : m * 2 * 2 ^ k = m * 2 ^ (k + 1) := by rw [Nat.pow_succ, Nat.mul_assoc, Nat.mul_comm 2]
          have a2 : e - 1 - (k : Int) = e - ((k + 1 : Nat) : Int) := by omega
          rw [a1] at hl
          rw [a1, a2]
          exact hR (k + 1) (by omega) hl
    · have hd : m / 2 ^ at_ ≠ 0 := by
        have := (Nat.one_le_div_iff (Nat.two_pow_pos at_)).2 (show 2 ^ at_ ≤ m by omega)
        omega
      refine cond_false' (by rw [beq_eq_false_iff_ne]; omega) ?_
      have := hR 0 (by omega) (by rw [Nat.pow_zero, Nat.mul_one]; exact (Nat.log2_eq_iff hm0).2 ⟨by omega, hm⟩)
      rw [Nat.pow_zero, Nat.mul_one] at this
      have a : e - ((0 : Nat) : Int) = e := by omega
      rw [a] at this
      exact this

theorem lift_spec (at_ : Nat) (hat : at_ ≤ 63) (m : Nat) (e : Int) (hm0 : m ≠ 0) (hm : m < 2 ^ (at_ + 1)) (he0 : -999999900 ≤ e) (he1 : e ≤ 1000000000) (w : World) :
    Runs Try.prog numm_lift.id #[.int .u64 (m : Int), .int .i64 e, .int .i64 (at_ : Int)] w fun v w' => w' = w ∧ ∃ k : Nat, k ≤ at_ ∧ (m * 2 ^ k).log2 = at_ ∧ v = .tuple #[.int .u64 ((m * 2 ^ k : Nat) : Int), .int .i64 (e - k)] := by
  refine numm_lift.enter _ _ _ _ _ ?_
  refine lift_loop at_ hat _ w at_ m e hm0 hm ?_ (by omega) he1 ?_
  · have : 1 * 2 ^ at_ ≤ m * 2 ^ at_ := Nat.mul_le_mul_right _ (by omega)
    omega
  · intro k hk hl
    exact ⟨rfl, k, hk, hl, rfl⟩

/-! ### Round -/
theorem upq_bool (q rem half : Nat) (st : Bool) : upq q rem half st = if half < rem ∨ (rem = half ∧ (st = true ∨ q % 2 = 1)) then q + 1 else q := by
  unfold upq
  by_cases h : half < rem ∨ (rem = half ∧ (st = true ∨ q % 2 = 1))
  · rw [if_pos h]
    have : (decide (half < rem) || (rem == half && (st || q % 2 == 1))) = true := by
      simp only [Bool.or_eq_true, Bool.and_eq_true, decide_eq_true_eq, beq_iff_eq]; exact h
    rw [this]; rfl
  · rw [if_neg h]
    have : (decide (half < rem) || (rem == half && (st || q % 2 == 1))) = false := by
      rw [Bool.eq_false_iff]
      intro h'
      simp only [Bool.or_eq_true, Bool.and_eq_true, decide_eq_true_eq, beq_iff_eq] at h'
      exact h h'
    rw [this]; rfl
theorem upq_le (q rem half : Nat) (st : Bool) : upq q rem half st ≤ q + 1 := by
  rw [upq_bool]; split <;> omega

theorem log2_st (m : Nat) (st : Bool) (hm : m.log2 = 63) (hm0 : m ≠ 0) : (2 * m + st.toNat).log2 = 64 := by
  have hs : st.toNat ≤ 1 := by cases st <;> decide
  obtain ⟨h1, h2⟩ := (Nat.log2_eq_iff hm0).1 hm
  refine (Nat.log2_eq_iff (by omega)).2 ⟨?_, ?_⟩
  · have : (2 : Nat) ^ 64 = 2 * 2 ^ 63 := by decide
    omega
  · have : (2 : Nat) ^ (64 + 1) = 2 * 2 ^ (63 + 1) := by decide
    omega

theorem rd_normal {fi : Int} {p bi : Nat} {f : Ieee.Format} (F : Fm fi p bi f) (s : Bool) (m : Nat) (e : Int) (st : Bool) (hm0 : m ≠ 0) (hm : m.log2 = 63) (c : Nat) (hc : c + p = 63) (x : Nat) (hx : (x : Int) = e + 62 + bi) :
    rd f s m e st = f.word s (min (x * f.binade + upq (m / 2 ^ (c + 1)) (m % 2 ^ (c + 1)) (2 ^ c) st) f.infRung) := by
  unfold rd
  have hl := log2_st m st hm hm0
  have h0 : 2 * m + st.toNat ≠ 0 := by omega
  have h1 := F.frac
  have h2 := F.least
  have h3 := F.p2
  rw [write_number, if_neg h0]
  unfold rungOf
  rw [hl]
  have e1 : max (e - 1 + ((64 : Nat) : Int) - f.fractionBits) f.leastPlace = e + 64 - p := by omega
  rw [e1, cut_eq]
  have e2 : (e + 64 - (p : Int) - f.leastPlace).toNat = x := by omega
  have e3 : (e - 1 - (e + 64 - (p : Int))).toNat = 0 := by omega
  have e4 : (e + 64 - (p : Int) - (e - 1)).toNat = c + 2 := by omega
  rw [e2, e3, e4, Nat.shiftLeft_zero, cutE_model]

theorem rd_low {fi : Int} {p bi : Nat} {f : Ieee.Format} (F : Fm fi p bi f) (s : Bool) (m : Nat) (e : Int) (st : Bool) (hm0 : m ≠ 0) (hm : m.log2 = 63) (h : e + 63 < 1 - bi) (c : Nat) (hc : (c : Int) = 1 - e - bi - p) :
    rd f s m e st = f.word s (min (upq (m / 2 ^ (c + 1)) (m % 2 ^ (c + 1)) (2 ^ c) st) f.infRung) := by
  unfold rd
  have hl := log2_st m st hm hm0
  have h0 : 2 * m + st.toNat ≠ 0 := by omega
  have h1 := F.frac
  have h2 := F.least
  have h3 := F.p2
  rw [write_number, if_neg h0]
  unfold rungOf
  rw [hl]
  have e1 : max (e - 1 + ((64 : Nat) : Int) - f.fractionBits) f.leastPlace = f.leastPlace := by omega
  rw [e1, cut_eq]
  have e2 : (f.leastPlace - f.leastPlace).toNat = 0 := by omega
  have e3 : (e - 1 - f.leastPlace).toNat = 0 := by omega
  have e4 : (f.leastPlace - (e - 1)).toNat = c + 2 := by omega
  rw [e2, e3, e4, Nat.shiftLeft_zero, Nat.zero_mul, Nat.zero_add, cutE_model]

/-- The pieces of the walk, from the last. -/
theorem Fm.bin {fi : Int} {p bi : Nat} {f : Ieee.Format} (F : Fm fi p bi f) : f.binade = 2 ^ (p - 1) := by
  have := F.frac
  unfold Ieee.Format.binade
  congr 1; omega
theorem Fm.pw {fi : Int} {p bi : Nat} {f : Ieee.Format} (F : Fm fi p bi f) : 2 ^ p = 2 * f.binade := by
  have h1 := F.p1
  rw [F.bin, Nat.mul_comm, ← Nat.pow_succ]
  congr 1; omega
theorem wui (x : Int) (h0 : 0 ≤ x) (h1 : x < 9223372036854775808) : IntKind.wrap .u64 (IntKind.wrap .i64 x) = x := by
  rw [wrap_i64 (by omega) (by omega), wrap_u64 (by omega) (by omega)]
theorem min64 (n : Nat) (h : n < 64) : min n (IntKind.bits .u64) = n := Nat.min_eq_left (by show n ≤ 64; omega)

theorem round16 {fi : Int} {p bi : Nat} {f : Ieee.Format} (F : Fm fi p bi f) (s : Bool) (ex : Int) (q x : Nat) (hx : (x : Int) = ex + bi - 1) (hx1 : ex < 2000000000) (hq0 : f.binade ≤ q) (hq : q < 2 * f.binade) (R : Value → World → Prop) (w : World)
    (hR : R (.int .u64 ((f.word s (min (x * f.binade + q) f.infRung) : Nat) : Int)) w) : numm_round.L16 fi s p bi ex q R w := by
  have hp1 := F.p1
  have hp2 := F.p2
  have hb1 := F.b1
  have hb2 := F.b2
  have hb : 0 < f.binade := Nat.two_pow_pos _
  refine numm_round.step16 _ _ _ _ _ _ _ _ ?_
  unfold numm_round.V16
  by_cases h : ex > bi
  · refine cond_true' (decide_eq_true h) ?_
    refine Runs.pure_bind (numm_infinity.pure fi s w ⟨F.signP s, F.infP, trivial⟩) ⟨_, rfl, ?_⟩
    have e : min (x * f.binade + q) f.infRung = f.infRung := by
      apply Nat.min_eq_right
      rw [F.infR, Nat.add_mul, Nat.one_mul]
      have : 2 * bi * f.binade ≤ x * f.binade := Nat.mul_le_mul_right _ (by omega)
      omega
    rw [e] at hR
    rw [F.infinityF]; exact hR
  · refine cond_false' (decide_eq_false h) ?_
    refine Runs.pure_bind (numm_sign.pure fi s w (F.signP s)) ⟨_, rfl, ?_⟩
    have hlt : x * f.binade + q < f.infRung := by
      rw [F.infR]
      have : (x + 2) * f.binade ≤ (2 * bi + 1) * f.binade := Nat.mul_le_mul_right _ (by omega)
      rw [Nat.add_mul] at this
      omega
    have hsw := F.infLt
    have hw := F.word_lt s (x * f.binade + q) (by omega)
    have e0 : min (x * f.binade + q) f.infRung = x * f.binade + q := Nat.min_eq_left (by omega)
    rw [e0, ← word_add] at hR
    rw [← word_add] at hw
    have e1 : (p : Int) - 1 = ((p - 1 : Nat) : Int) := by omega
    have e2 : IntKind.wrap .i64 (ex + bi) = ex + bi := wrap_i64 (by omega) (by omega)
    have e3 : ex + (bi : Int) - 1 = (x : Int) := by omega
    rw [F.signF, e1, e2, e3, wui _ (by omega) (by omega), wui _ (by omega) (by omega), Int.toNat_natCast, shl64_n x (p - 1) (by omega), ← F.bin]
    have e4 : x * f.binade % 18446744073709551616 = x * f.binade := Nat.mod_eq_of_lt (by omega)
    rw [e4, ← Int.natCast_add, wrap64_n _ (by omega), ← Int.natCast_add, wrap64_n _ (by omega), Nat.add_assoc]
    exact ⟨by omega, hR⟩

theorem round15n {fi : Int} {p bi : Nat} {f : Ieee.Format} (F : Fm fi p bi f) (s : Bool) (ex : Int) (q x : Nat) (hx : (x : Int) = ex + bi - 1) (hx1 : ex < 1999999999) (hq0 : f.binade ≤ q) (hq : q ≤ 2 * f.binade) (R : Value → World → Prop) (w : World)
    (hR : R (.int .u64 ((f.word s (min (x * f.binade + q) f.infRung) : Nat) : Int)) w) : numm_round.L15 fi s p bi ex q R w := by
  have hp1 := F.p1
  have hp2 := F.p2
  have hb1 := F.b1
  have hb2 := F.b2
  have hb : 0 < f.binade := Nat.two_pow_pos _
  refine numm_round.step15 _ _ _ _ _ _ _ _ ?_
  unfold numm_round.V15
  have e1 : IntKind.wrap .i64 (1 - (bi : Int)) = 1 - bi := wrap_i64 (by omega) (by omega)
  rw [e1]
  refine cond_false' (decide_eq_false (by omega)) ?_
  have e2 : IntKind.wrap .u64 (p : Int) = (p : Int) := wrap64_n _ (by omega)
  have e3 : IntKind.wrap .u64 ((1 : Int) * 2 ^ (min p (IntKind.bits .u64))) = ((2 * f.binade : Nat) : Int) := by
    have := shl64_n 1 p (by omega)
    have hlt : 2 ^ p < 2 ^ 64 := Nat.pow_lt_pow_right (by decide) (by omega)
    have c64 : (2 : Nat) ^ 64 = 18446744073709551616 := by decide
    rw [Nat.one_mul, Nat.mod_eq_of_lt (by omega)] at this
    rw [← F.pw]; exact this
  rw [e2, Int.toNat_natCast, e3]
  refine ⟨by omega, ?_⟩
  by_cases h : q = 2 * f.binade
  · refine cond_true' (by rw [beq_iff_eq, h]) ?_
    have e4 : IntKind.wrap .i64 (ex + 1) = ex + 1 := wrap_i64 (by omega) (by omega)
    have hsz : 2 * f.binade < 18446744073709551616 := by
      have hlt : 2 ^ p < 2 ^ 64 := Nat.pow_lt_pow_right (by decide) (by omega)
      have c64 : (2 : Nat) ^ 64 = 18446744073709551616 := by decide
      rw [← F.pw]; omega
    have e5 : IntKind.wrap .u64 (Int.tdiv (q : Int) 2) = ((f.binade : Nat) : Int) := by
      have : Int.tdiv (q : Int) 2 = ((q / 2 : Nat) : Int) := by rw [Int.ofNat_tdiv]; rfl
      have e6 : q / 2 = f.binade := by omega
      rw [this, e6, wrap64_n _ (by omega)]
    rw [e4, e5]
    refine round16 F s (ex + 1) f.binade (x + 1) (by omega) (by omega) (Nat.le_refl _) (by omega) R w ?_
    have e7 : (x + 1) * f.binade + f.binade = x * f.binade + q := by rw [Nat.add_mul]; omega
    rw [e7]; exact hR
  · refine cond_false' (by rw [beq_eq_false_iff_ne]; omega) ?_
    exact round16 F s ex q x hx (by omega) hq0 (by omega) R w hR

theorem round15s {fi : Int} {p bi : Nat} {f : Ieee.Format} (F : Fm fi p bi f) (s : Bool) (ex : Int) (q : Nat) (hx : ex < 1 - bi) (hq : q ≤ f.binade) (R : Value → World → Prop) (w : World)
    (hR : R (.int .u64 ((f.word s (min q f.infRung) : Nat) : Int)) w) : numm_round.L15 fi s p bi ex q R w := by
  have hb1 := F.b1
  have hb2 := F.b2
  have hb : 0 < f.binade := Nat.two_pow_pos _
  refine numm_round.step15 _ _ _ _ _ _ _ _ ?_
  unfold numm_round.V15
  have e1 : IntKind.wrap .i64 (1 - (bi : Int)) = 1 - bi := wrap_i64 (by omega) (by omega)
  rw [e1]
  refine cond_true' (decide_eq_true hx) ?_
  refine Runs.pure_bind (numm_sign.pure fi s w (F.signP s)) ⟨_, rfl, ?_⟩
  have hle : q ≤ f.infRung := by
    rw [F.infR]
    have : 1 * f.binade ≤ (2 * bi + 1) * f.binade := Nat.mul_le_mul_right _ (by omega)
    omega
  have hsw := F.infLt
  have hw := F.word_lt s q (by omega)
  rw [Nat.min_eq_left hle, ← word_add] at hR
  rw [← word_add] at hw
  rw [F.signF, ← Int.natCast_add, wrap64_n _ hw]
  exact hR

/-- The cut. -/
theorem round12 (fi : Int) (s st : Bool) (p bi ex : Int) (q rem half : Nat) (hq : q < 1000000000000000000) (R : Value → World → Prop) (w : World)
    (hR : numm_round.L15 fi s p bi ex ((upq q rem half st : Nat) : Int) R w) : numm_round.L12 fi s st p bi ex q rem half R w := by
  refine numm_round.step12 _ _ _ _ _ _ _ _ _ _ _ ?_
  unfold numm_round.V12
  rw [upq_bool] at hR
  have up : ∀ b : Bool, (half < rem ∨ (rem = half ∧ (st = true ∨ q % 2 = 1)) ↔ b = true) → numm_round.L14 fi s p bi ex q b R w := by
    intro b hb
    refine numm_round.step14 _ _ _ _ _ _ _ _ _ ?_
    unfold numm_round.V14
    cases b with
    | true =>
      rw [if_pos (hb.2 rfl)] at hR
      have e : IntKind.wrap .u64 ((q : Int) + 1) = ((q + 1 : Nat) : Int) := by
        have : (q : Int) + 1 = ((q + 1 : Nat) : Int) := by omega
        rw [this, wrap64_n _ (by omega)]
      rw [e]; exact hR
    | false =>
      rw [if_neg (fun h => by have := hb.1 h; cases this)] at hR
      exact hR
  by_cases h : half < rem
  · refine cond_true' (decide_eq_true (by omega)) (up true ⟨fun _ => rfl, fun _ => .inl h⟩)
  · refine cond_false' (decide_eq_false (by omega)) ?_
    by_cases h2 : rem = half
    · refine cond_true' (by rw [beq_iff_eq, h2]) ?_
      cases st with
      | true => exact up true ⟨fun _ => rfl, fun _ => .inr ⟨h2, .inl rfl⟩⟩
      | false =>
        have e : (Int.tmod (q : Int) 2 == (1 : Int)) = decide (q % 2 = 1) := by
          have : Int.tmod (q : Int) 2 = ((q % 2 : Nat) : Int) := tmod_n q 2
          rw [this, Bool.eq_iff_iff, beq_iff_eq, decide_eq_true_iff]; omega
        show numm_round.L14 fi s p bi ex q (Int.tmod (q : Int) 2 == (1 : Int)) R w
        rw [e]
        refine up _ ?_
        rw [decide_eq_true_iff]
        constructor
        · rintro (h' | ⟨_, h' | h'⟩)
          · omega
          · cases h'
          · exact h'
        · intro h'; exact .inr ⟨h2, .inr h'⟩
    · refine cond_false' (by rw [beq_eq_false_iff_ne]; omega) (up false ⟨?_, fun h' => by cases h'⟩)
      rintro (h' | ⟨h', _⟩)
      · omega
      · exact absurd h' h2

/-- The digits kept. -/
theorem round7 (fi : Int) (s st : Bool) (p bi ex : Int) (m : Nat) (hm0 : m ≠ 0) (hm : m.log2 = 63) (k c : Nat) (hk : k + c = 63) (hk2 : k ≤ 53) (R : Value → World → Prop) (w : World)
    (hR : ∀ q : Nat, q = upq (m / 2 ^ (c + 1)) (m % 2 ^ (c + 1)) (2 ^ c) st → q ≤ 2 ^ k → (k ≠ 0 → 2 ^ (k - 1) ≤ q) → numm_round.L15 fi s p bi ex q R w) : numm_round.L7 fi s m st p bi ex k R w := by
  obtain ⟨hlo, hhi⟩ := (Nat.log2_eq_iff hm0).1 hm
  have c64 : (2 : Nat) ^ (63 + 1) = 18446744073709551616 := by decide
  have c63 : (2 : Nat) ^ 63 = 9223372036854775808 := by decide
  rw [c64] at hhi
  rw [c63] at hlo
  have hpc : 2 ^ (c + 1) = 2 * 2 ^ c := by rw [Nat.pow_succ, Nat.mul_comm]
  have hcpos := Nat.two_pow_pos c
  have hkc : 2 ^ k * 2 ^ (c + 1) = 18446744073709551616 := by rw [← Nat.pow_add, ← c64]; congr 1; omega
  have hqlt : m / 2 ^ (c + 1) < 2 ^ k := by rw [Nat.div_lt_iff_lt_mul (Nat.two_pow_pos _), hkc]; exact hhi
  have hqlo : k ≠ 0 → 2 ^ (k - 1) ≤ m / 2 ^ (c + 1) := by
    intro h
    rw [Nat.le_div_iff_mul_le (Nat.two_pow_pos _), ← Nat.pow_add]
    have : k - 1 + (c + 1) = 63 := by omega
    rw [this, c63]; exact hlo
  have hk53 : 2 ^ k ≤ 2 ^ 53 := Nat.pow_le_pow_right (by decide) hk2
  have c53 : (2 : Nat) ^ 53 = 9007199254740992 := by decide
  have hup := upq_le (m / 2 ^ (c + 1)) (m % 2 ^ (c + 1)) (2 ^ c) st
  have hup2 : m / 2 ^ (c + 1) ≤ upq (m / 2 ^ (c + 1)) (m % 2 ^ (c + 1)) (2 ^ c) st := Nat.le_add_right _ _
  have hR' := hR _ rfl (by omega) (fun h => Nat.le_trans (hqlo h) hup2)
  clear hR hup hup2
  refine numm_round.step7 _ _ _ _ _ _ _ _ _ _ ?_
  unfold numm_round.V7
  refine cond_false' (decide_eq_false (by omega)) ?_
  refine numm_round.step8 _ _ _ _ _ _ _ _ _ _ _ ?_
  unfold numm_round.V8
  refine numm_round.step9 _ _ _ _ _ _ _ _ _ _ _ _ ?_
  unfold numm_round.V9
  refine numm_round.step10 _ _ _ _ _ _ _ _ _ _ _ _ _ ?_
  unfold numm_round.V10
  by_cases h : k = 0
  · have hc : c = 63 := by omega
    subst hc
    subst h
    refine cond_false' rfl ?_
    rw [c63] at hR'
    rw [c64, Nat.div_eq_of_lt hhi, Nat.mod_eq_of_lt hhi] at hR'
    exact round12 fi s st p bi ex 0 m 9223372036854775808 (by decide) R w hR'
  · refine cond_true' (decide_eq_true (by omega)) ?_
    have e1 : (64 : Int) - (k : Int) = ((c + 1 : Nat) : Int) := by omega
    rw [e1, wui _ (by omega) (by omega)]
    refine numm_round.step11 _ _ _ _ _ _ _ _ _ _ ?_
    unfold numm_round.V11
    rw [Int.toNat_natCast, shr64_n m (c + 1) (by omega)]
    refine ⟨by omega, ?_⟩
    refine numm_round.step13 _ _ _ _ _ _ _ _ _ _ _ ?_
    unfold numm_round.V13
    have e2 : ((c + 1 : Nat) : Int) - 1 = (c : Int) := by omega
    have hdm := Nat.div_add_mod m (2 ^ (c + 1))
    rw [Nat.mul_comm] at hdm
    rw [e2, wrap64_n c (by omega), Int.toNat_natCast, Int.toNat_natCast, shl64_n _ (c + 1) (by omega)]
    have e3 : m / 2 ^ (c + 1) * 2 ^ (c + 1) % 18446744073709551616 = m / 2 ^ (c + 1) * 2 ^ (c + 1) := Nat.mod_eq_of_lt (by omega)
    have e4 : (m : Int) - ((m / 2 ^ (c + 1) * 2 ^ (c + 1) : Nat) : Int) = ((m % 2 ^ (c + 1) : Nat) : Int) := by omega
    have e5 : IntKind.wrap .u64 ((1 : Int) * 2 ^ (min c (IntKind.bits .u64))) = ((2 ^ c : Nat) : Int) := by
      have := shl64_n 1 c (by omega)
      have hlt : 2 ^ c < 2 ^ 64 := Nat.pow_lt_pow_right (by decide) (by omega)
      have c64' : (2 : Nat) ^ 64 = 18446744073709551616 := by decide
      rw [Nat.one_mul, Nat.mod_eq_of_lt (by omega)] at this
      exact this
    rw [e3, e4, e5, wrap64_n _ (by omega)]
    refine ⟨by omega, by omega, ?_⟩
    exact round12 fi s st p bi ex _ _ _ (by omega) R w hR'

/-- THE ONE ROUNDING. -/
theorem round_spec {fi : Int} {p bi : Nat} {f : Ieee.Format} (F : Fm fi p bi f) (s : Bool) (m : Nat) (e : Int) (st : Bool) (hm0 : m ≠ 0) (hm : m < 18446744073709551616) (hst : st = true → 9007199254740992 ≤ m) (he0 : -100000 ≤ e) (he1 : e ≤ 100000) (w : World) :
    Runs Try.prog numm_round.id #[.int .i64 fi, .bool s, .int .u64 (m : Int), .int .i64 e, .bool st] w fun v w' => v = .int .u64 ((rd f s m e st : Nat) : Int) ∧ w' = w := by
  have hp1 := F.p1
  have hp2 := F.p2
  have hb1 := F.b1
  have hb2 := F.b2
  have hfr := F.frac
  refine numm_round.enter _ _ _ _ _ _ _ ?_
  refine numm_round.step1 _ _ _ _ _ _ _ ?_
  unfold numm_round.V1
  refine Runs.pure_bind (numm_prec.pure fi w) ⟨_, rfl, ?_⟩
  rw [F.prec]
  refine numm_round.step2 _ _ _ _ _ _ _ _ ?_
  unfold numm_round.V2
  refine Runs.pure_bind (numm_bias.pure fi w) ⟨_, rfl, ?_⟩
  rw [F.bias]
  refine numm_round.step3 _ _ _ _ _ _ _ _ _ ?_
  unfold numm_round.V3
  have c64 : (2 : Nat) ^ (63 + 1) = 18446744073709551616 := by decide
  refine (lift_spec 63 (by decide) m e hm0 (by rw [c64]; exact hm) (by omega) (by omega) w).mono ?_
  rintro v w' ⟨rfl, k, hk, hl, rfl⟩
  refine ⟨_, _, rfl, ?_⟩
  have hst' : st = true → 2 ^ (f.fractionBits + 1) ≤ m := fun h => by
    have h1 := hst h
    have h2 : 2 ^ (f.fractionBits + 1) ≤ 2 ^ 53 := Nat.pow_le_pow_right (by decide) (by omega)
    have c53 : (2 : Nat) ^ 53 = 9007199254740992 := by decide
    omega
  rw [← rd_lift f s m k e st hst']
  have hM0 : m * 2 ^ k ≠ 0 := Nat.mul_ne_zero hm0 (by have := Nat.two_pow_pos k; omega)
  obtain ⟨E, hE⟩ : ∃ E, E = e - (k : Int) := ⟨_, rfl⟩
  have hE0 : -100063 ≤ E := by omega
  have hE1 : E ≤ 100000 := by omega
  rw [← hE]
  generalize m * 2 ^ k = M at *
  clear hE hst hst' he0 he1 hm hm0 hk
  refine numm_round.step4 _ _ _ _ _ _ _ _ _ ?_
  unfold numm_round.V4
  refine numm_round.step5 _ _ _ _ _ _ _ _ _ ?_
  unfold numm_round.V5
  refine numm_round.step6 _ _ _ _ _ _ _ _ _ _ ?_
  unfold numm_round.V6
  have e1 : IntKind.wrap .i64 (1 - (bi : Int)) = 1 - bi := wrap_i64 (by omega) (by omega)
  have e2 : IntKind.wrap .i64 (E + 63) = E + 63 := wrap_i64 (by omega) (by omega)
  have e3 : IntKind.wrap .i64 (1 - (bi : Int) - (E + 63)) = 1 - bi - (E + 63) := wrap_i64 (by omega) (by omega)
  have e4 : IntKind.wrap .i64 ((p : Int) - (1 - bi - (E + 63))) = p + bi + E + 62 := by rw [wrap_i64 (by omega) (by omega)]; omega
  rw [e1, e2, e3, e4]
  by_cases h : E + 63 < 1 - bi
  · refine cond_true' (decide_eq_true h) ?_
    obtain ⟨c, hc⟩ : ∃ c : Nat, (c : Int) = 1 - E - bi - p := ⟨(1 - E - bi - p).toNat, by omega⟩
    have hrd := rd_low F s M E st hM0 hl h c hc
    by_cases h2 : (p : Int) + bi + E + 62 < 0
    · refine numm_round.step7 _ _ _ _ _ _ _ _ _ _ ?_
      unfold numm_round.V7
      refine cond_true' (decide_eq_true h2) ?_
      refine Runs.pure_bind (numm_sign.pure fi s w' (F.signP s)) ⟨_, rfl, ?_⟩
      rw [F.signF, hrd]
      obtain ⟨hlo, hhi⟩ := (Nat.log2_eq_iff hM0).1 hl
      have hc64 : 2 ^ 64 ≤ 2 ^ c := Nat.pow_le_pow_right (by decide) (by omega)
      have c64' : (2 : Nat) ^ 64 = 18446744073709551616 := by decide
      have hpc : 2 ^ (c + 1) = 2 * 2 ^ c := by rw [Nat.pow_succ, Nat.mul_comm]
      rw [c64] at hhi
      rw [c64'] at hc64
      have z : upq (M / 2 ^ (c + 1)) (M % 2 ^ (c + 1)) (2 ^ c) st = 0 := by
        rw [Nat.div_eq_of_lt (by omega), Nat.mod_eq_of_lt (by omega), upq_bool, if_neg]
        rintro (h' | ⟨h', _⟩) <;> omega
      rw [z, Nat.zero_min]
      exact ⟨rfl, rfl⟩
    · obtain ⟨k', hk'⟩ : ∃ k' : Nat, (k' : Int) = (p : Int) + bi + E + 62 := ⟨((p : Int) + bi + E + 62).toNat, by omega⟩
      rw [← hk']
      refine round7 fi s st p bi (E + 63) M hM0 hl k' c (by omega) (by omega) _ w' ?_
      intro q hq hq1 hq2
      refine round15s F s (E + 63) q h ?_ _ w' ⟨?_, rfl⟩
      · have : 2 ^ k' ≤ 2 ^ (p - 1) := Nat.pow_le_pow_right (by decide) (by omega)
        rw [F.bin]; omega
      · rw [hrd, ← hq]
  · refine cond_false' (decide_eq_false h) ?_
    refine round7 fi s st p bi (E + 63) M hM0 hl p (63 - p) (by omega) (by omega) _ w' ?_
    intro q hq hq1 hq2
    obtain ⟨x, hx⟩ : ∃ x : Nat, (x : Int) = E + 62 + bi := ⟨(E + 62 + bi).toNat, by omega⟩
    have hrd := rd_normal F s M E st hM0 hl (63 - p) (by omega) x hx
    have hq2' := hq2 (by omega)
    rw [← F.bin] at hq2'
    rw [F.pw] at hq1
    refine round15n F s (E + 63) q x (by omega) (by omega) hq2' hq1 _ w' ⟨?_, rfl⟩
    rw [hrd, ← hq]

end Go.Proofs.Qxb6500320a
