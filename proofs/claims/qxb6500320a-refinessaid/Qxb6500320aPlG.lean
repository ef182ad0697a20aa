/-
  KeepsPlain: ceil, floor, trunc, nearest.
-/
import Derived.Test.Qxb6500320aPlF
set_option linter.unusedSimpArgs false
set_option linter.unusedVariables false
set_option maxRecDepth 100000
namespace Go.Proofs.Qxb6500320a
open Go Go.Vc

theorem xor_top (r k : Nat) (h : r < 2 ^ k) : 2 ^ k ^^^ r = 2 ^ k + r := by
  apply Nat.eq_of_testBit_eq
  intro i
  have this := Nat.two_pow_add_eq_or_of_lt h 1
  have e1 : 2 ^ k + r = 2 ^ k * 1 ||| r := by rw [← this, Nat.mul_one]
  rw [e1, Nat.testBit_xor, Nat.testBit_or, Nat.mul_one, Nat.testBit_two_pow]
  by_cases hi : k = i
  · subst hi
    have : r.testBit k = false := Nat.testBit_lt_two_pow h
    rw [this]; simp
  · simp [hi]

/-- The law's test of the signs: all alike. -/
theorem sign_chain (S k c l t n a : Nat) (hS : S = 2 ^ k) (s : Nat) (hs : s = 0 ∨ s = 1) (h1 : c / S = s) (h2 : l / S = s) (h3 : t / S = s) (h4 : n / S = s) (h5 : a / S = s) :
    ((((((c ^^^ a) ||| l) ^^^ a ||| t) ^^^ a ||| n) ^^^ a) &&& S) = 0 := by
  subst hS
  rw [and_pow, Nat.xor_div_two_pow, Nat.or_div_two_pow, Nat.xor_div_two_pow, Nat.or_div_two_pow, Nat.xor_div_two_pow, Nat.or_div_two_pow, Nat.xor_div_two_pow, h1, h2, h3, h4, h5]
  rcases hs with rfl | rfl <;> rfl

theorem rnd_low (v K : Nat) (h : 2 * (v % 2 ^ K) < 2 ^ K) : cutE v K = v / 2 ^ K := by
  unfold cutE
  have e1 : decide (2 ^ K < 2 * (v % 2 ^ K)) = false := decide_eq_false (by omega)
  have e2 : (2 ^ K == 2 * (v % 2 ^ K)) = false := by rw [beq_eq_false_iff_ne]; omega
  rw [e1, e2]; rfl
theorem rnd_high (v K : Nat) (h : 2 ^ K < 2 * (v % 2 ^ K)) : cutE v K = v / 2 ^ K + 1 := by
  unfold cutE
  rw [decide_eq_true h]; rfl
theorem rnd_tie (v K : Nat) (h : 2 ^ K = 2 * (v % 2 ^ K)) : cutE v K % 2 = 0 ∧ (cutE v K = v / 2 ^ K ∨ cutE v K = v / 2 ^ K + 1) := by
  unfold cutE
  have e1 : decide (2 ^ K < 2 * (v % 2 ^ K)) = false := decide_eq_false (by omega)
  have e2 : (2 ^ K == 2 * (v % 2 ^ K)) = true := by rw [beq_iff_eq]; exact h
  rw [e1, e2]
  generalize v / 2 ^ K = q
  by_cases hq : q % 2 = 1
  · have e3 : (q % 2 == 1) = true := by rw [beq_iff_eq]; exact hq
    rw [e3]
    show (q + 1) % 2 = 0 ∧ (q + 1 = q ∨ q + 1 = q + 1)
    omega
  · have e3 : (q % 2 == 1) = false := by rw [beq_eq_false_iff_ne]; exact hq
    rw [e3]
    show (q + 0) % 2 = 0 ∧ (q + 0 = q ∨ q + 0 = q + 1)
    omega

/-! ### 32 bits -/
theorem negw32 (s : Bool) (r : Nat) (hr : r < 2147483648) : Op.negFloat .f32 (Ieee.single.word s r) = Ieee.single.word (!s) r := by
  have e : Op.negFloat .f32 (Ieee.single.word s r) = Ieee.single.word s r ^^^ 2 ^ 31 := rfl
  rw [e]
  unfold Ieee.Format.word
  rw [sw32]
  have h1 : (2147483648 + r) = 2 ^ 31 ^^^ r := (xor_top r 31 hr).symm
  cases s with
  | false => simp only [Bool.false_eq_true, if_false, Bool.not_false, if_true]; rw [h1, Nat.xor_comm]
  | true => simp only [if_true, Bool.not_true, Bool.false_eq_true, if_false]; rw [h1, Nat.xor_comm, ← Nat.xor_assoc, Nat.xor_self, Nat.zero_xor]
theorem sgt32 (x : Nat) (hx : x < 4294967296) : ((bAnd .u32 (x : Int) 2147483648) != (0 : Int)) = decide (2147483648 ≤ x) ∧ bAnd .u64 (x : Int) 2147483648 = ((2147483648 * (x / 2147483648 % 2) : Nat) : Int) := by
  have e1 : bAnd .u32 (x : Int) 2147483648 = ((x &&& 2147483648 : Nat) : Int) := bAnd32_n x 2147483648 hx (by decide)
  have e1' : bAnd .u64 (x : Int) 2147483648 = ((x &&& 2147483648 : Nat) : Int) := bAnd64_n x 2147483648 (by omega) (by decide)
  have e2 : x &&& 2147483648 = 2147483648 * (x / 2147483648 % 2) := and_pow x 31
  refine ⟨?_, by rw [e1', e2]⟩
  rw [e1, e2]
  by_cases h : 2147483648 ≤ x
  · have : x / 2147483648 % 2 = 1 := by omega
    rw [this, decide_eq_true h]; decide
  · have : x / 2147483648 % 2 = 0 := by omega
    rw [this, decide_eq_false h]; decide
theorem wself32 (x : Nat) (hx : x < 4294967296) : Ieee.single.word (decide (2147483648 ≤ x)) (x % 2147483648) = x := by
  have := word_self Ieee.single x (by rw [sw32]; omega)
  rw [sgb32 x hx, rung32] at this
  exact this

theorem iw32 (K : Nat) (hK : K = 149) (s : Bool) (v : Nat) (hv : v < 16777216) : ∃ R, Ieee.single.write (.number s v 0) = Ieee.single.word s R ∧ R < 2139095040 ∧ val Ieee.single R = v * 2 ^ K := by
  obtain ⟨R, q1, q2, q3, _, _⟩ := fw32 s v hv
  rw [← hK] at q3
  exact ⟨R, q1, q2, q3⟩

theorem valm32 (K : Nat) (hK : K = 149) (m : Nat) (hm : m < 2139095040) : cutN32 m = val Ieee.single m / 2 ^ K ∧ pm32 m * 2 ^ (pe32 m - -149).toNat = val Ieee.single m := by
  obtain ⟨m', i', r1, r2, r3⟩ := read_val Ieee.single m (by rw [rung32, ir32]; omega)
  rw [read32 m hm] at r1
  simp only [Ieee.Datum.number.injEq] at r1
  obtain ⟨_, rfl, rfl⟩ := r1
  have hrr : rung Ieee.single m = m := by rw [rung32]; omega
  rw [hrr, slp] at r3
  rw [slp] at r2
  refine ⟨?_, r3⟩
  unfold cutN32
  rw [floor_scale (pm32 m) (pe32 m) K (pe32 m - -149).toNat (by omega), r3]
theorem vali32 (K : Nat) (hK : K = 149) (m : Nat) (hm : m < 1258291200) : val Ieee.single m < 8388608 * 2 ^ K := by
  have h := val_lt Ieee.single hm
  have e := (valm32 K hK 1258291200 (by decide)).2
  have e1 : pm32 1258291200 = 8388608 := by decide
  have e2 : (pe32 1258291200 - -149).toNat = K := by rw [hK]; decide
  rw [e1, e2] at e
  rw [e]; exact h

theorem trunc_eq32 (K : Nat) (hK : K = 149) (x : Nat) (hx : x < 4294967296) (hm : x % 2147483648 < 1258291200) : cut32 x = Ieee.single.write (.number (decide (2147483648 ≤ x)) (val Ieee.single (x % 2147483648) / 2 ^ K) 0) := by
  have hfin : x % 2147483648 < 2139095040 := by omega
  have hT : val Ieee.single (x % 2147483648) / 2 ^ K < 8388608 := (Nat.div_lt_iff_lt_mul (Nat.two_pow_pos K)).2 (vali32 K hK _ hm)
  have hcv := cutV32 x hx hfin
  rw [(valm32 K hK _ hfin).1] at hcv
  generalize val Ieee.single (x % 2147483648) / 2 ^ K = T at *
  have k1 : key Ieee.single 3405774848 = -1258291200 := by decide
  have k2 : key Ieee.single 1258291200 = 1258291200 := by decide
  have o1 := order32 x 3405774848 (by omega) (by decide)
  have o2 := order32 x 1258291200 (by omega) (by decide)
  rw [k1] at o1
  rw [k2] at o2
  have hin : -1258291200 < key Ieee.single x ∧ key Ieee.single x < 1258291200 := by
    rw [key32 x hx]; split <;> omega
  unfold cut32
  rw [o1, o2, beq_gt, beq_lt, decide_eq_true hin.1, decide_eq_true hin.2, cond_true, cond_true]
  by_cases hT0 : T = 0
  · have h0 : cutV Ieee.single x = 0 := by rw [hcv, hT0]; split <;> rfl
    rw [h0]
    have hz : (Ieee.single.order (FloatKind.nearest .f32 0) 0 == some .eq) = true := by decide +kernel
    have e1 : bAnd .u32 (x : Int) 2147483648 = ((x &&& 2147483648 : Nat) : Int) := bAnd32_n x 2147483648 hx (by decide)
    have e2 : x &&& 2147483648 = 2147483648 * (x / 2147483648 % 2) := and_pow x 31
    rw [hz, cond_true, e1, e2, Int.toNat_natCast, write_number, if_pos hT0]
    by_cases h : 2147483648 ≤ x
    · have : x / 2147483648 % 2 = 1 := by omega
      rw [this, decide_eq_true h]; decide
    · have : x / 2147483648 % 2 = 0 := by omega
      rw [this, decide_eq_false h]; decide
  · have hsg : decide (cutV Ieee.single x < 0) = decide (2147483648 ≤ x) := by
      rw [hcv, Bool.eq_iff_iff, decide_eq_true_iff, decide_eq_true_iff]; split <;> omega
    have hab : (cutV Ieee.single x).natAbs = T := by rw [hcv]; split <;> omega
    have e : FloatKind.nearest .f32 (cutV Ieee.single x) = Ieee.single.write (.number (decide (2147483648 ≤ x)) T 0) := by
      have : FloatKind.nearest .f32 (cutV Ieee.single x) = Ieee.single.write (.number (decide (cutV Ieee.single x < 0)) (cutV Ieee.single x).natAbs 0) := rfl
      rw [this, hsg, hab]
    rw [e]
    obtain ⟨R, q1, q2, q3⟩ := iw32 K hK (decide (2147483648 ≤ x)) T (by omega)
    have hR0 : R ≠ 0 := by
      intro h; rw [h, val_zero] at q3
      have := Nat.mul_pos (Nat.pos_of_ne_zero hT0) (Nat.two_pow_pos K); omega
    have hmod : Ieee.single.word (decide (2147483648 ≤ x)) R % 2147483648 = R := by
      have := rung_word Ieee.single (decide (2147483648 ≤ x)) R (by rw [sw32]; omega)
      rw [rung32] at this; exact this
    have hwl := word32_lt (decide (2147483648 ≤ x)) R (by omega)
    have hne : (Ieee.single.order (Ieee.single.write (.number (decide (2147483648 ≤ x)) T 0)) 0 == some .eq) = false := by
      rw [q1, order32 _ 0 (by rw [hmod]; omega) (by decide), beq_eq]
      apply decide_eq_false
      have k0 : key Ieee.single 0 = 0 := by decide
      rw [k0, key32 _ hwl, hmod]; split <;> omega
    rw [hne, cond_false]

theorem near_eqn32 (K : Nat) (hK : K = 149) (x : Nat) (hx : x < 4294967296) (hm : x % 2147483648 < 1258291200) : near32 x = Ieee.single.write (.number (decide (2147483648 ≤ x)) (cutE (val Ieee.single (x % 2147483648)) K) 0) := by
  have hV := vali32 K hK _ hm
  have hrn := cutE_le _ K 8388608 hV
  have k1 : key Ieee.single 3405774848 = -1258291200 := by decide
  have k2 : key Ieee.single 1258291200 = 1258291200 := by decide
  have o1 := order32 x 3405774848 (by omega) (by decide)
  have o2 := order32 x 1258291200 (by omega) (by decide)
  rw [k1] at o1
  rw [k2] at o2
  have hin : -1258291200 < key Ieee.single x ∧ key Ieee.single x < 1258291200 := by
    rw [key32 x hx]; split <;> omega
  have hup : up32 (Ieee.single.word false (x % 2147483648)) = Ieee.single.write (.number false (cutE (val Ieee.single (x % 2147483648)) K) 0) := by
    obtain ⟨r, a1, a2⟩ := up_gen Ieee.single 255 sE K (by rw [hK]; decide) (by omega) (by decide) (x % 2147483648) 1258291200 (by rw [ir32]; omega) (by rw [sbin]; exact hV) (by decide)
    unfold up32
    rw [a1, Option.getD_some, a2, Option.getD_some]
  unfold near32
  rw [o1, o2, beq_gt, beq_lt, decide_eq_true hin.1, decide_eq_true hin.2, cond_true, cond_true, (sgt32 x hx).1]
  have hself := wself32 x hx
  by_cases h : 2147483648 ≤ x
  · rw [decide_eq_true h] at *
    rw [cond_true]
    have e1 : Op.negFloat .f32 x = Ieee.single.word false (x % 2147483648) := by
      have := negw32 true (x % 2147483648) (by omega)
      rw [hself] at this; exact this
    obtain ⟨R, q1, q2, q3⟩ := iw32 K hK false (cutE (val Ieee.single (x % 2147483648)) K) (by omega)
    rw [e1, hup, q1, negw32 false R (by omega), write_sign Ieee.single true _ 0 R (by rw [ir32]; exact q2) q1]
    rfl
  · rw [decide_eq_false h] at *
    rw [cond_false]
    rw [hself] at hup
    exact hup

theorem cniw32 (K : Nat) (hK : K = 149) (s : Bool) (v : Nat) (hv : v < 16777216) : cn32 (Ieee.single.write (.number s v 0)) = Ieee.single.write (.number s v 0) := by
  obtain ⟨R, q1, q2, _⟩ := iw32 K hK s v hv
  rw [q1]; exact cnword32 s R (by omega)

/-- A float that is whole already. -/
theorem whole_yes32 (K : Nat) (hK : K = 149) (x : Nat) (hx : x < 4294967296) (hv : x % 2147483648 ≤ 2139095040) (hw : 1258291200 ≤ x % 2147483648 ∨ val Ieee.single (x % 2147483648) % 2 ^ K = 0) : fl32 141 x 0 = x ∧ fl32 142 x 0 = x ∧ fl32 143 x 0 = x ∧ fl32 144 x 0 = x := by
  have hcn : cn32 x = x := by unfold cn32; rw [nan32, decide_eq_false (by omega)]; rfl
  have both : cut32 x = x ∧ near32 x = x := by
    by_cases hbig : 1258291200 ≤ x % 2147483648
    · have k1 : key Ieee.single 3405774848 = -1258291200 := by decide
      have k2 : key Ieee.single 1258291200 = 1258291200 := by decide
      have o1 := order32 x 3405774848 hv (by decide)
      have o2 := order32 x 1258291200 hv (by decide)
      rw [k1] at o1
      rw [k2] at o2
      have hout : ¬ (-1258291200 < key Ieee.single x ∧ key Ieee.single x < 1258291200) := by
        rw [key32 x hx]; split <;> omega
      by_cases h1 : -1258291200 < key Ieee.single x
      · have h2 : ¬ key Ieee.single x < 1258291200 := fun h => hout ⟨h1, h⟩
        constructor
        · unfold cut32; rw [o1, o2, beq_gt, beq_lt, decide_eq_true h1, decide_eq_false h2]; rfl
        · unfold near32; rw [o1, o2, beq_gt, beq_lt, decide_eq_true h1, decide_eq_false h2]; rfl
      · constructor
        · unfold cut32; rw [o1, beq_gt, decide_eq_false h1]; rfl
        · unfold near32; rw [o1, beq_gt, decide_eq_false h1]; rfl
    · have hm : x % 2147483648 < 1258291200 := by omega
      have hw' : val Ieee.single (x % 2147483648) % 2 ^ K = 0 := by
        rcases hw with h | h
        · omega
        · exact h
      have hp := Nat.two_pow_pos K
      have hV := vali32 K hK _ hm
      have hT : val Ieee.single (x % 2147483648) / 2 ^ K < 8388608 := (Nat.div_lt_iff_lt_mul hp).2 hV
      have hdm := Nat.div_add_mod (val Ieee.single (x % 2147483648)) (2 ^ K)
      rw [hw', Nat.add_zero, Nat.mul_comm] at hdm
      have hrn : cutE (val Ieee.single (x % 2147483648)) K = val Ieee.single (x % 2147483648) / 2 ^ K := rnd_low _ _ (by rw [hw']; omega)
      have hword : Ieee.single.write (.number (decide (2147483648 ≤ x)) (val Ieee.single (x % 2147483648) / 2 ^ K) 0) = x := by
        obtain ⟨R, q1, q2, q3⟩ := iw32 K hK (decide (2147483648 ≤ x)) (val Ieee.single (x % 2147483648) / 2 ^ K) (by omega)
        rw [hdm] at q3
        have hR : R = x % 2147483648 := val_inj Ieee.single q3
        rw [q1, hR, wself32 x hx]
      exact ⟨by rw [trunc_eq32 K hK x hx hm, hword], by rw [near_eqn32 K hK x hx hm, hrn, hword]⟩
  obtain ⟨hc, hn⟩ := both
  have hself : Ieee.single.order x x = some .eq := by rw [order32 x x hv hv, Int.compare_eq_eq.2 rfl]
  refine ⟨?_, ?_, ?_, ?_⟩
  · show ((ceil32 x : Nat) : Int) = _
    unfold ceil32; rw [hc, hself, hcn]; rfl
  · show ((floor32 x : Nat) : Int) = _
    unfold floor32; rw [hc, hself, hcn]; rfl
  · show ((cn32 (cut32 x) : Nat) : Int) = _
    rw [hc, hcn]
  · show ((cn32 (near32 x) : Nat) : Int) = _
    rw [hn, hcn]

theorem iwnext32 (K : Nat) (hK : K = 149) (T : Nat) (hT : T < 8388608) : ar32 (floatBits .add .f32 (Ieee.single.write (.number false T 0)) 1065353216) = Ieee.single.write (.number false (T + 1) 0) ∧ ar32 (floatBits .sub .f32 (Ieee.single.write (.number true T 0)) 1065353216) = Ieee.single.write (.number true (T + 1) 0) := by
  have hlp : Ieee.single.leastPlace ≤ 0 := by decide
  have hone : FloatKind.nearest .f32 1 = 1065353216 := by decide
  obtain ⟨_, _, _, H1, _, _⟩ := near32_word 1 (by decide)
  rw [hone] at H1
  constructor
  · obtain ⟨_, e, _, H, _, _⟩ := near32_word (T : Int) (by omega)
    have hn : FloatKind.nearest .f32 (T : Int) = Ieee.single.write (.number false T 0) := by
      have : FloatKind.nearest .f32 (T : Int) = Ieee.single.write (.number (decide ((T : Int) < 0)) (T : Int).natAbs 0) := rfl
      rw [this, decide_eq_false (by omega), Int.natAbs_natCast]
    rw [hn] at H
    have ha : floatBits .add .f32 (Ieee.single.write (.number false T 0)) 1065353216 = some (Ieee.single.write (.number (decide ((T : Int) + 1 < 0)) ((T : Int) + 1).natAbs 0)) := hi_add Ieee.single hlp _ _ _ _ H H1
    rw [ha, cnnear32 _ _ (by omega), decide_eq_false (by omega)]
    congr 2
  · by_cases h0 : T = 0
    · subst h0; decide +kernel
    · obtain ⟨_, e, _, H, _, _⟩ := near32_word (-(T : Int)) (by omega)
      have hn : FloatKind.nearest .f32 (-(T : Int)) = Ieee.single.write (.number true T 0) := by
        have : FloatKind.nearest .f32 (-(T : Int)) = Ieee.single.write (.number (decide (-(T : Int) < 0)) (-(T : Int)).natAbs 0) := rfl
        rw [this, decide_eq_true (by omega), Int.natAbs_neg, Int.natAbs_natCast]
      rw [hn] at H
      have ha : floatBits .sub .f32 (Ieee.single.write (.number true T 0)) 1065353216 = some (Ieee.single.write (.number (decide (-(T : Int) - 1 < 0)) (-(T : Int) - 1).natAbs 0)) := hi_sub Ieee.single hlp _ _ _ _ H H1
      rw [ha, cnnear32 _ _ (by omega), decide_eq_true (by omega)]
      congr 2
      omega

theorem valhalf32 (K : Nat) (hK : K = 149) : 2 * val Ieee.single 1056964608 = 2 ^ K := by
  have e := (valm32 K hK 1056964608 (by decide)).2
  have e1 : pm32 1056964608 = 8388608 := by decide
  obtain ⟨Q, hQ⟩ : ∃ Q : Nat, K = 24 + Q := ⟨K - 24, by omega⟩
  have e2 : (pe32 1056964608 - -149).toNat = Q := by
    have : pe32 1056964608 = -24 := by decide
    rw [this]; omega
  rw [e1, e2] at e
  rw [← e, hQ, Nat.pow_add]
  have : (2 : Nat) ^ 24 = 2 * 8388608 := by decide
  rw [this, Nat.mul_assoc]

theorem KeptWhole32_spec (x : Nat) (hx : x < 4294967296) (w : World) : Runs Try.prog numlaw_KeptWhole.id #[fmt32.val, .int .u64 1065353216, .int .u64 1056964608, .int .u64 x] w fun v w' => v = .bool true ∧ Same [] w.heap.size w w' := by
  refine numlaw_KeptWhole.enter 139 146 91 2147483648 2139095040 2143289344 1065353216 1056964608 x _ _ ?_
  unfold numlaw_KeptWhole.V
  refine letB_intro fun b hb => letW_intro fun w0 hw0 => ?_
  have f0 : FmtAt w0 b fmt32 := by rw [hw0, hb]; exact FmtAt.new w fmt32 T_numlaw_Fmt
  have T0 : Same [] w.heap.size w w0 := by rw [hw0]; exact (Same.refl _ _ _).alloc (Nat.le_refl _) _
  clear hw0 hb
  have c0 : fmt32.un = 139 := rfl
  have c1 : fmt32.bin = 146 := rfl
  have c2 : fmt32.rel = 91 := rfl
  have c3 : fmt32.sign = 2147483648 := rfl
  have c4 : fmt32.inf = 2139095040 := rfl
  have hX : U64 (x : Int) := u64_nat (by omega)
  have hone : U64 1065353216 := by unfold U64; decide
  have hhalf : U64 1056964608 := by unfold U64; decide
  refine ⟨_, f0.c3, _, f0.c4, ?_⟩
  rw [c3, c4, andnot32 x hx]
  refine cond_dec (fun _ => ⟨rfl, T0⟩) (fun hvn => ?_)
  have hv : x % 2147483648 ≤ 2139095040 := by omega
  clear hvn
  have ez : ((0 : Nat) : Int) = 0 := rfl
  refine ⟨_, f0.c0, (apL_spec _ _ _ u64_0 w0).mono ?_⟩
  rintro v w1 ⟨rfl, S1⟩
  have f1 := f0.keep S1
  have T1 := T0.trans (S1.mono T0.size (by simp))
  have a2 : (ap (IntKind.wrap .i64 (fmt32.un + 2)) x 0).1 = fl32 141 x 0 := by
    have := apf32 141 x 0 hx (by decide) (by decide) (by decide)
    rw [ez] at this; exact this
  rw [a2]
  refine ⟨_, rfl, ?_⟩
  refine ⟨_, f1.c0, (apL_spec _ _ _ u64_0 w1).mono ?_⟩
  rintro v w2 ⟨rfl, S2⟩
  have f2 := f1.keep S2
  have T2 := T1.trans (S2.mono T1.size (by simp))
  have a3 : (ap (IntKind.wrap .i64 (fmt32.un + 3)) x 0).1 = fl32 142 x 0 := by
    have := apf32 142 x 0 hx (by decide) (by decide) (by decide)
    rw [ez] at this; exact this
  rw [a3]
  refine ⟨_, rfl, ?_⟩
  refine ⟨_, f2.c0, (apL_spec _ _ _ u64_0 w2).mono ?_⟩
  rintro v w3 ⟨rfl, S3⟩
  have f3 := f2.keep S3
  have T3 := T2.trans (S3.mono T2.size (by simp))
  have a4 : (ap (IntKind.wrap .i64 (fmt32.un + 4)) x 0).1 = fl32 143 x 0 := by
    have := apf32 143 x 0 hx (by decide) (by decide) (by decide)
    rw [ez] at this; exact this
  rw [a4]
  refine ⟨_, rfl, ?_⟩
  refine ⟨_, f3.c0, (apL_spec _ _ _ u64_0 w3).mono ?_⟩
  rintro v w4 ⟨rfl, S4⟩
  have f4 := f3.keep S4
  have T4 := T3.trans (S4.mono T3.size (by simp))
  have a5 : (ap (IntKind.wrap .i64 (fmt32.un + 5)) x 0).1 = fl32 144 x 0 := by
    have := apf32 144 x 0 hx (by decide) (by decide) (by decide)
    rw [ez] at this; exact this
  rw [a5]
  refine ⟨_, rfl, ?_⟩
  clear a2 a3 a4 a5
  refine ⟨_, f4.c3, ?_⟩
  rw [c3]
  obtain ⟨K, hK⟩ : ∃ K : Nat, K = 149 := ⟨_, rfl⟩
  have hp := Nat.two_pow_pos K
  -- the signs
  have signs : ∀ c l t n : Nat, c < 4294967296 → l < 4294967296 → t < 4294967296 → n < 4294967296 → c / 2147483648 = x / 2147483648 → l / 2147483648 = x / 2147483648 → t / 2147483648 = x / 2147483648 → n / 2147483648 = x / 2147483648 →
      ((bAnd .u64 (bXor .u64 (bOr .u64 (bXor .u64 (bOr .u64 (bXor .u64 (bOr .u64 (bXor .u64 (c : Int) (x : Int)) (l : Int)) (x : Int)) (t : Int)) (x : Int)) (n : Int)) (x : Int)) 2147483648) != (0 : Int)) = false := by
    intro c l t n hc hl ht hn h1 h2 h3 h4
    have lt64 : ∀ z, z < 4294967296 → z < 18446744073709551616 := fun z hz => by omega
    have b1 : c ^^^ x < 18446744073709551616 := Nat.xor_lt_two_pow (n := 64) (lt64 _ hc) (lt64 _ hx)
    have b2 : (c ^^^ x) ||| l < 18446744073709551616 := Nat.or_lt_two_pow (n := 64) b1 (lt64 _ hl)
    have b3 : ((c ^^^ x) ||| l) ^^^ x < 18446744073709551616 := Nat.xor_lt_two_pow (n := 64) b2 (lt64 _ hx)
    have b4 : ((c ^^^ x) ||| l) ^^^ x ||| t < 18446744073709551616 := Nat.or_lt_two_pow (n := 64) b3 (lt64 _ ht)
    have b5 : (((c ^^^ x) ||| l) ^^^ x ||| t) ^^^ x < 18446744073709551616 := Nat.xor_lt_two_pow (n := 64) b4 (lt64 _ hx)
    have b6 : (((c ^^^ x) ||| l) ^^^ x ||| t) ^^^ x ||| n < 18446744073709551616 := Nat.or_lt_two_pow (n := 64) b5 (lt64 _ hn)
    have b7 : ((((c ^^^ x) ||| l) ^^^ x ||| t) ^^^ x ||| n) ^^^ x < 18446744073709551616 := Nat.xor_lt_two_pow (n := 64) b6 (lt64 _ hx)
    rw [bXor64_n c x (lt64 _ hc) (lt64 _ hx), bOr64_n _ _ b1 (lt64 _ hl), bXor64_n _ _ b2 (lt64 _ hx), bOr64_n _ _ b3 (lt64 _ ht), bXor64_n _ _ b4 (lt64 _ hx), bOr64_n _ _ b5 (lt64 _ hn), bXor64_n _ _ b6 (lt64 _ hx)]
    have b8 : bAnd .u64 ((((((c ^^^ x) ||| l) ^^^ x ||| t) ^^^ x ||| n) ^^^ x : Nat) : Int) 2147483648 = (((((((c ^^^ x) ||| l) ^^^ x ||| t) ^^^ x ||| n) ^^^ x) &&& 2147483648 : Nat) : Int) := bAnd64_n _ 2147483648 b7 (by decide)
    rw [b8, sign_chain 2147483648 31 c l t n x (by decide) (x / 2147483648) (by omega) h1 h2 h3 h4 rfl]; rfl
  by_cases hw : 1258291200 ≤ x % 2147483648 ∨ val Ieee.single (x % 2147483648) % 2 ^ K = 0
  · -- whole already
    obtain ⟨q1, q2, q3, q4⟩ := whole_yes32 K hK x hx hv hw
    rw [q1, q2, q3, q4]
    refine cond_false' (signs x x x x hx hx hx hx rfl rfl rfl rfl) ⟨_, f4.c2, (apL_spec _ _ _ hX w4).mono ?_⟩
    rintro v w5 ⟨rfl, S5⟩
    have f5 := f4.keep S5
    have T5 := T4.trans (S5.mono T4.size (by simp))
    refine ⟨_, rfl, _, f5.c1, (apL_spec _ _ _ hone w5).mono ?_⟩
    rintro v w6 ⟨rfl, S6⟩
    have f6 := f5.keep S6
    have T6 := T5.trans (S6.mono T5.size (by simp))
    refine ⟨_, rfl, _, f6.c1, (apL_spec _ _ _ hone w6).mono ?_⟩
    rintro v w7 ⟨rfl, S7⟩
    have T7 := T6.trans (S7.mono T6.size (by simp))
    refine ⟨_, rfl, ?_⟩
    have hself : Ieee.single.order x x = some .eq := by rw [order32 x x hv hv, Int.compare_eq_eq.2 rfl]
    rw [c2, (rel32_facts x x hx hx _ hself).1]
    exact cond_true' rfl (cond_true' (by simp) (cond_true' (by simp) ⟨by simp, T7⟩))
  · -- a fraction is left
    have hm : x % 2147483648 < 1258291200 := by omega
    have hfr : val Ieee.single (x % 2147483648) % 2 ^ K ≠ 0 := fun h => hw (.inr h)
    have hV := vali32 K hK _ hm
    obtain ⟨T, hT⟩ : ∃ T : Nat, T = val Ieee.single (x % 2147483648) / 2 ^ K := ⟨_, rfl⟩
    have hTB : T < 8388608 := by rw [hT]; exact (Nat.div_lt_iff_lt_mul hp).2 hV
    obtain ⟨rn, hrn⟩ : ∃ rn : Nat, rn = cutE (val Ieee.single (x % 2147483648)) K := ⟨_, rfl⟩
    have hrnB : rn ≤ 8388608 := by rw [hrn]; exact cutE_le _ K 8388608 hV
    have hcut := trunc_eq32 K hK x hx hm
    have hnear := near_eqn32 K hK x hx hm
    rw [← hT] at hcut
    rw [← hrn] at hnear
    obtain ⟨Rt, t1, t2, t3⟩ := iw32 K hK (decide (2147483648 ≤ x)) T (by omega)
    obtain ⟨Rn, n1, n2, n3⟩ := iw32 K hK (decide (2147483648 ≤ x)) rn (by omega)
    obtain ⟨Ru, u1, u2, u3⟩ := iw32 K hK (decide (2147483648 ≤ x)) (T + 1) (by omega)
    rw [t1] at hcut
    rw [n1] at hnear
    have modw : ∀ R, R < 2139095040 → Ieee.single.word (decide (2147483648 ≤ x)) R % 2147483648 = R := fun R hR => by
      have := rung_word Ieee.single (decide (2147483648 ≤ x)) R (by rw [sw32]; omega)
      rw [rung32] at this; exact this
    have divw : ∀ R, R < 2139095040 → Ieee.single.word (decide (2147483648 ≤ x)) R / 2147483648 = x / 2147483648 := fun R hR => by
      unfold Ieee.Format.word; rw [sw32]
      by_cases h : 2147483648 ≤ x
      · rw [decide_eq_true h, if_pos rfl]; omega
      · rw [decide_eq_false h]; simp only [Bool.false_eq_true, if_false]; omega
    have ltw : ∀ R, R < 2139095040 → Ieee.single.word (decide (2147483648 ≤ x)) R < 4294967296 := fun R hR => word32_lt _ _ (by omega)
    have hdm := Nat.div_add_mod (val Ieee.single (x % 2147483648)) (2 ^ K)
    rw [← hT, Nat.mul_comm] at hdm
    have hRtm : Rt < x % 2147483648 := by
      rcases Nat.lt_or_ge Rt (x % 2147483648) with h | h
      · exact h
      · exfalso
        have : val Ieee.single (x % 2147483648) ≤ val Ieee.single Rt := by
          rcases Nat.lt_or_eq_of_le h with h1 | h1
          · exact Nat.le_of_lt (val_lt _ h1)
          · rw [h1]; exact Nat.le_refl _
        rw [t3] at this; omega
    -- the four answers
    have e4 : fl32 143 x 0 = ((Ieee.single.word (decide (2147483648 ≤ x)) Rt : Nat) : Int) := by
      show ((cn32 (cut32 x) : Nat) : Int) = _
      rw [hcut, cnword32 _ Rt (by omega)]
    have e5 : fl32 144 x 0 = ((Ieee.single.word (decide (2147483648 ≤ x)) Rn : Nat) : Int) := by
      show ((cn32 (near32 x) : Nat) : Int) = _
      rw [hnear, cnword32 _ Rn (by omega)]
    obtain ⟨nx1, nx2⟩ := iwnext32 K hK T hTB
    have hord := order32 (Ieee.single.word (decide (2147483648 ≤ x)) Rt) x (by rw [modw Rt t2]; omega) hv
    have e23 : (2147483648 ≤ x → fl32 141 x 0 = ((Ieee.single.word (decide (2147483648 ≤ x)) Rt : Nat) : Int) ∧ fl32 142 x 0 = ((Ieee.single.word (decide (2147483648 ≤ x)) Ru : Nat) : Int) ∧ fl32 147 ((Ieee.single.word (decide (2147483648 ≤ x)) Rt : Nat) : Int) 1065353216 = ((Ieee.single.word (decide (2147483648 ≤ x)) Ru : Nat) : Int)) ∧
        (¬ 2147483648 ≤ x → fl32 141 x 0 = ((Ieee.single.word (decide (2147483648 ≤ x)) Ru : Nat) : Int) ∧ fl32 142 x 0 = ((Ieee.single.word (decide (2147483648 ≤ x)) Rt : Nat) : Int) ∧ fl32 146 ((Ieee.single.word (decide (2147483648 ≤ x)) Rt : Nat) : Int) 1065353216 = ((Ieee.single.word (decide (2147483648 ≤ x)) Ru : Nat) : Int)) := by
      constructor
      · intro h
        have hgt : Ieee.single.order (cut32 x) x = some .gt := by
          rw [hcut, hord, cmp_gt]
          rw [key32_neg x hx h, key32 _ (ltw Rt t2), modw Rt t2, if_pos (by unfold Ieee.Format.word; rw [decide_eq_true h, if_pos rfl, sw32]; omega)]; omega
        have hs : ar32 (floatBits .sub .f32 (Ieee.single.word (decide (2147483648 ≤ x)) Rt) 1065353216) = Ieee.single.word (decide (2147483648 ≤ x)) Ru := by
          rw [← t1, ← u1, decide_eq_true h]; exact nx2
        refine ⟨?_, ?_, ?_⟩
        · show ((ceil32 x : Nat) : Int) = _
          unfold ceil32; rw [hgt, hcut, cnword32 _ Rt (by omega)]; rfl
        · show ((floor32 x : Nat) : Int) = _
          unfold floor32; rw [hgt, hcut, hs]; rfl
        · show ((ar32 (floatBits .sub .f32 (Ieee.single.word (decide (2147483648 ≤ x)) Rt) 1065353216) : Nat) : Int) = _
          rw [hs]
      · intro h
        have hlt : Ieee.single.order (cut32 x) x = some .lt := by
          rw [hcut, hord, cmp_lt]
          rw [key32_pos x hx h, key32 _ (ltw Rt t2), modw Rt t2, if_neg (by unfold Ieee.Format.word; rw [decide_eq_false h]; simp only [Bool.false_eq_true, if_false]; omega)]; omega
        have hs : ar32 (floatBits .add .f32 (Ieee.single.word (decide (2147483648 ≤ x)) Rt) 1065353216) = Ieee.single.word (decide (2147483648 ≤ x)) Ru := by
          rw [← t1, ← u1, decide_eq_false h]; exact nx1
        refine ⟨?_, ?_, ?_⟩
        · show ((ceil32 x : Nat) : Int) = _
          unfold ceil32; rw [hlt, hcut, hs]; rfl
        · show ((floor32 x : Nat) : Int) = _
          unfold floor32; rw [hlt, hcut, cnword32 _ Rt (by omega)]; rfl
        · show ((ar32 (floatBits .add .f32 (Ieee.single.word (decide (2147483648 ≤ x)) Rt) 1065353216) : Nat) : Int) = _
          rw [hs]
    have hne : Ieee.single.order (Ieee.single.word (decide (2147483648 ≤ x)) Rt) x ≠ some .eq := by
      rw [hord]
      intro h
      have h1 : compare (key Ieee.single (Ieee.single.word (decide (2147483648 ≤ x)) Rt)) (key Ieee.single x) = .eq := by simpa using h
      have h2 := Int.compare_eq_eq.1 h1
      rw [key32 x hx, key32 _ (ltw Rt t2), modw Rt t2] at h2
      split at h2 <;> split at h2 <;> omega
    -- the fraction
    obtain ⟨Rf, g1, g2, g3⟩ := frac_gen Ieee.single 255 sE (by decide) K (by rw [hK]; decide) (by omega) (x % 2147483648) Rt T (by rw [ir32]; omega) (by rw [ir32]; exact t2) t3 hT hfr
    have hvh := valhalf32 K hK
    rw [ir32] at g2
    obtain ⟨rI, hrI⟩ : ∃ r : Int, r = (Rf : Int) := ⟨_, rfl⟩
    have hfl : fl32 147 ((x % 2147483648 : Nat) : Int) (Rt : Int) = rI := by
      rw [hrI]
      show ((ar32 (Ieee.single.sub (x % 2147483648) Rt) : Nat) : Int) = _
      have g1' : Ieee.single.sub (x % 2147483648) Rt = some (Ieee.single.word false Rf) := g1
      rw [g1']
      show ((cn32 (Ieee.single.word false Rf) : Nat) : Int) = _
      rw [cnword32 false Rf (by omega)]; rfl
    -- the last clause: by the fraction
    have fin : ∀ w', FmtAt w' b fmt32 → Same [] w.heap.size w w' → ∀ away : Int, away = ((Ieee.single.word (decide (2147483648 ≤ x)) Ru : Nat) : Int) → numlaw_KeptWhole.L2 1056964608 x b ((Ieee.single.word (decide (2147483648 ≤ x)) Rt : Nat) : Int) ((Ieee.single.word (decide (2147483648 ≤ x)) Rn : Nat) : Int) away (fun (v : Value) (w' : World) => v = .bool true ∧ Same [] w.heap.size w w') w' := by
      intro w8 f8 T8 away haway
      subst haway
      refine numlaw_KeptWhole.step2 _ _ _ _ _ _ _ _ ?_
      unfold numlaw_KeptWhole.V2
      refine ⟨_, f8.c1, _, f8.c3, _, f8.c3, ?_⟩
      have d1 : IntKind.wrap .i64 (146 + 1) = 147 := by decide
      rw [c1, c3, d1, andnot32 x hx, andnot32 _ (ltw Rt t2), modw Rt t2]
      clear d1
      refine (apL_spec _ _ _ (u64_nat (by omega)) w8).mono ?_
      rintro v w9 ⟨rfl, S9⟩
      have f9 := f8.keep S9
      have T9 := T8.trans (S9.mono T8.size (by simp))
      rw [apf32 147 (x % 2147483648) Rt (by omega) (by omega) (by decide) (by decide), hfl]
      have hlo : Rf < 1056964608 → Rn = Rt := fun hlt => by
        have hl : val Ieee.single Rf < val Ieee.single 1056964608 := val_lt _ hlt
        rw [g3] at hl
        have hr := rnd_low (val Ieee.single (x % 2147483648)) K (by omega)
        rw [← hrn, ← hT] at hr
        exact val_inj Ieee.single (by rw [n3, t3, hr])
      have hhi : 1056964608 < Rf → Rn = Ru := fun hgt => by
        have hl : val Ieee.single 1056964608 < val Ieee.single Rf := val_lt _ hgt
        rw [g3] at hl
        have hr := rnd_high (val Ieee.single (x % 2147483648)) K (by omega)
        rw [← hrn, ← hT] at hr
        exact val_inj Ieee.single (by rw [n3, u3, hr])
      rcases Nat.lt_trichotomy Rf 1056964608 with hlt | heq | hgt
      · exact ⟨_, rfl, cond_false' (by rw [beq_eq_false_iff_ne]; omega) (cond_true' (decide_eq_true (by omega)) ⟨by rw [hlo hlt]; simp, T9⟩)⟩
      · refine ⟨_, rfl, cond_true' (by rw [beq_iff_eq]; omega) ?_⟩
        -- just a half
        have hRf : Rf = 1056964608 := heq
        rw [hRf] at g3
        have htie : 2 ^ K = 2 * (val Ieee.single (x % 2147483648) % 2 ^ K) := by rw [← g3, hvh]
        obtain ⟨ev, cs⟩ := rnd_tie _ _ htie
        rw [← hrn] at ev cs
        rw [← hT] at cs
        obtain ⟨uu, huu⟩ : ∃ uu : Nat, rn = 2 * uu := ⟨rn / 2, by omega⟩
        obtain ⟨Rh, h1, h2, h3⟩ := iw32 K hK (decide (2147483648 ≤ x)) uu (by omega)
        have hmul : Ieee.single.mul (Ieee.single.word (decide (2147483648 ≤ x)) Rn) 1056964608 = some (Ieee.single.word (decide (2147483648 ≤ x)) Rh) := by
          rw [huu] at n3
          have := half_gen Ieee.single K (by rw [hK]; decide) (decide (2147483648 ≤ x)) Rn uu 1056964608 (by rw [ir32]; exact n2) n3 (-24) (by decide) (by decide) (by decide) (by decide)
          rw [this, h1]
        have hfm : fl32 148 ((Ieee.single.word (decide (2147483648 ≤ x)) Rn : Nat) : Int) 1056964608 = ((Ieee.single.word (decide (2147483648 ≤ x)) Rh : Nat) : Int) := by
          show ((ar32 (Ieee.single.mul (Ieee.single.word (decide (2147483648 ≤ x)) Rn) 1056964608) : Nat) : Int) = _
          rw [hmul]
          show ((cn32 (Ieee.single.word (decide (2147483648 ≤ x)) Rh) : Nat) : Int) = _
          rw [cnword32 _ Rh (by omega)]
        have hwh : fl32 143 ((Ieee.single.word (decide (2147483648 ≤ x)) Rh : Nat) : Int) 0 = ((Ieee.single.word (decide (2147483648 ≤ x)) Rh : Nat) : Int) := by
          refine (whole_yes32 K hK _ (ltw Rh h2) (by rw [modw Rh h2]; omega) (.inr ?_)).2.2.1
          rw [modw Rh h2, h3, Nat.mul_mod_left]
        refine ⟨_, f9.c1, ?_⟩
        have d2 : IntKind.wrap .i64 (146 + 2) = 148 := by decide
        have d4 : IntKind.wrap .i64 (139 + 4) = 143 := by decide
        rw [c1, d2]
        refine (apL_spec _ _ _ hhalf w9).mono ?_
        rintro v w10 ⟨rfl, S10⟩
        have f10 := f9.keep S10
        have T10 := T9.trans (S10.mono T9.size (by simp))
        have m1 := apf32 148 (Ieee.single.word (decide (2147483648 ≤ x)) Rn) 1056964608 (ltw Rn n2) (by decide) (by decide) (by decide)
        have eh : ((1056964608 : Nat) : Int) = 1056964608 := rfl
        rw [eh] at m1
        rw [m1, hfm]
        refine ⟨_, rfl, _, f10.c0, ?_⟩
        rw [c0, d4]
        refine (apL_spec _ _ _ u64_0 w10).mono ?_
        rintro v w11 ⟨rfl, S11⟩
        have f11 := f10.keep S11
        have T11 := T10.trans (S11.mono T10.size (by simp))
        have m2 := apf32 143 (Ieee.single.word (decide (2147483648 ≤ x)) Rh) 0 (ltw Rh h2) (by decide) (by decide) (by decide)
        rw [ez] at m2
        rw [m2, hwh]
        refine ⟨_, rfl, ?_⟩
        have relast : ∃ x19 : Int, World.cell? w11 ⟨b, 2, none⟩ = some (.int .i64 x19) ∧ (Runs Try.prog numlaw_ap.id #[(.int .i64 x19), (.int .u64 ((Ieee.single.word (decide (2147483648 ≤ x)) Rh : Nat) : Int)), (.int .u64 ((Ieee.single.word (decide (2147483648 ≤ x)) Rh : Nat) : Int))] w11 fun r20 w21 => (∃ x22 : Int, (r20 = (.int .u64 x22) ∧ ((fun (v : Value) (w' : World) => v = .bool true ∧ Same [] w.heap.size w w') (.bool (x22 == (1 : Int))) w21)))) := by
          refine ⟨_, f11.c2, (apL_spec _ _ _ (u64_nat (by have := ltw Rh h2; omega)) w11).mono ?_⟩
          rintro v w12 ⟨rfl, S12⟩
          refine ⟨_, rfl, ?_, T11.trans (S12.mono T11.size (by simp))⟩
          have hself : Ieee.single.order (Ieee.single.word (decide (2147483648 ≤ x)) Rh) (Ieee.single.word (decide (2147483648 ≤ x)) Rh) = some .eq := by
            rw [order32 _ _ (by rw [modw Rh h2]; omega) (by rw [modw Rh h2]; omega), Int.compare_eq_eq.2 rfl]
          rw [c2, (rel32_facts _ _ (ltw Rh h2) (ltw Rh h2) _ hself).1]; rfl
        have hcase : Rn = Rt ∨ Rn = Ru := by
          rcases cs with h | h
          · left; exact val_inj Ieee.single (by rw [n3, t3, h])
          · right; exact val_inj Ieee.single (by rw [n3, u3, h])
        refine cond_intro (fun _ => relast) (fun hnt => ?_)
        rcases hcase with h | h
        · rw [h] at hnt; simp at hnt
        · exact cond_true' (by rw [h]; simp) relast
      · exact ⟨_, rfl, cond_false' (by rw [beq_eq_false_iff_ne]; omega) (cond_false' (decide_eq_false (by omega)) ⟨by rw [hhi hgt]; simp, T9⟩)⟩
    rw [e4, e5]
    have hc23 : (∃ C L : Nat, fl32 141 x 0 = ((Ieee.single.word (decide (2147483648 ≤ x)) C : Nat) : Int) ∧ fl32 142 x 0 = ((Ieee.single.word (decide (2147483648 ≤ x)) L : Nat) : Int) ∧ C < 2139095040 ∧ L < 2139095040) := by
      by_cases h : 2147483648 ≤ x
      · exact ⟨Rt, Ru, (e23.1 h).1, (e23.1 h).2.1, t2, u2⟩
      · exact ⟨Ru, Rt, (e23.2 h).1, (e23.2 h).2.1, u2, t2⟩
    obtain ⟨C, L, hC, hL, hC1, hL1⟩ := hc23
    have hsgn := signs _ _ _ _ (ltw C hC1) (ltw L hL1) (ltw Rt t2) (ltw Rn n2) (divw C hC1) (divw L hL1) (divw Rt t2) (divw Rn n2)
    rw [← hC, ← hL] at hsgn
    refine cond_false' hsgn ⟨_, f4.c2, (apL_spec _ _ _ hX w4).mono ?_⟩
    rintro v w5 ⟨rfl, S5⟩
    have f5 := f4.keep S5
    have T5 := T4.trans (S5.mono T4.size (by simp))
    refine ⟨_, rfl, _, f5.c1, (apL_spec _ _ _ hone w5).mono ?_⟩
    rintro v w6 ⟨rfl, S6⟩
    have f6 := f5.keep S6
    have T6 := T5.trans (S6.mono T5.size (by simp))
    refine ⟨_, rfl, _, f6.c1, (apL_spec _ _ _ hone w6).mono ?_⟩
    rintro v w7 ⟨rfl, S7⟩
    have f7 := f6.keep S7
    have T7 := T6.trans (S7.mono T6.size (by simp))
    refine ⟨_, rfl, ?_⟩
    have hsame : (ap 91 ((Ieee.single.word (decide (2147483648 ≤ x)) Rt : Nat) : Int) x).1 = 0 := by
      rw [(rel32_facts _ x (ltw Rt t2) hx _ rfl).1]
      have : (Ieee.single.order (Ieee.single.word (decide (2147483648 ≤ x)) Rt) x == some .eq) = false := by
        rw [beq_eq_false_iff_ne]; exact hne
      rw [this]; rfl
    rw [c2, hsame]
    refine cond_false' rfl ⟨_, f7.c3, ?_⟩
    rw [c3, (sgt32 x hx).2]
    have d1 : IntKind.wrap .i64 (146 + 1) = 147 := by decide
    have eo : ((1065353216 : Nat) : Int) = 1065353216 := rfl
    rw [c1, d1]
    clear d1
    by_cases h : 2147483648 ≤ x
    · obtain ⟨y1, y2, y3⟩ := e23.1 h
      have hd : x / 2147483648 % 2 = 1 := by omega
      have m1 := apf32 147 (Ieee.single.word (decide (2147483648 ≤ x)) Rt) 1065353216 (ltw Rt t2) (by decide) (by decide) (by decide)
      rw [eo] at m1
      rw [hd]
      refine cond_false' (by decide) ?_
      rw [m1, y3, y1, y2]
      refine numlaw_KeptWhole.step1 _ _ _ _ _ _ _ _ _ _ _ _ ?_
      unfold numlaw_KeptWhole.V1
      exact cond_false' (by simp) (cond_false' (by simp) (fin w7 f7 T7 _ rfl))
    · obtain ⟨y1, y2, y3⟩ := e23.2 h
      have hd : x / 2147483648 % 2 = 0 := by omega
      have m1 := apf32 146 (Ieee.single.word (decide (2147483648 ≤ x)) Rt) 1065353216 (ltw Rt t2) (by decide) (by decide) (by decide)
      rw [eo] at m1
      rw [hd]
      refine cond_true' (by decide) ?_
      rw [m1, y3, y1, y2]
      refine numlaw_KeptWhole.step1 _ _ _ _ _ _ _ _ _ _ _ _ ?_
      unfold numlaw_KeptWhole.V1
      exact cond_false' (by simp) (cond_false' (by simp) (fin w7 f7 T7 _ rfl))

/-! ### 64 bits -/
theorem negw64 (s : Bool) (r : Nat) (hr : r < 9223372036854775808) : Op.negFloat .f64 (Ieee.double.word s r) = Ieee.double.word (!s) r := by
  have e : Op.negFloat .f64 (Ieee.double.word s r) = Ieee.double.word s r ^^^ 2 ^ 63 := rfl
  rw [e]
  unfold Ieee.Format.word
  rw [sw64]
  have h1 : (9223372036854775808 + r) = 2 ^ 63 ^^^ r := (xor_top r 63 hr).symm
  cases s with
  | false => simp only [Bool.false_eq_true, if_false, Bool.not_false, if_true]; rw [h1, Nat.xor_comm]
  | true => simp only [if_true, Bool.not_true, Bool.false_eq_true, if_false]; rw [h1, Nat.xor_comm, ← Nat.xor_assoc, Nat.xor_self, Nat.zero_xor]
theorem sgt64 (x : Nat) (hx : x < 18446744073709551616) : ((bAnd .u64 (x : Int) 9223372036854775808) != (0 : Int)) = decide (9223372036854775808 ≤ x) ∧ bAnd .u64 (x : Int) 9223372036854775808 = ((9223372036854775808 * (x / 9223372036854775808 % 2) : Nat) : Int) := by
  have e1 : bAnd .u64 (x : Int) 9223372036854775808 = ((x &&& 9223372036854775808 : Nat) : Int) := bAnd64_n x 9223372036854775808 hx (by decide)
  have e1' : bAnd .u64 (x : Int) 9223372036854775808 = ((x &&& 9223372036854775808 : Nat) : Int) := bAnd64_n x 9223372036854775808 (by omega) (by decide)
  have e2 : x &&& 9223372036854775808 = 9223372036854775808 * (x / 9223372036854775808 % 2) := and_pow x 63
  refine ⟨?_, by rw [e1', e2]⟩
  rw [e1, e2]
  by_cases h : 9223372036854775808 ≤ x
  · have : x / 9223372036854775808 % 2 = 1 := by omega
    rw [this, decide_eq_true h]; decide
  · have : x / 9223372036854775808 % 2 = 0 := by omega
    rw [this, decide_eq_false h]; decide
theorem wself64 (x : Nat) (hx : x < 18446744073709551616) : Ieee.double.word (decide (9223372036854775808 ≤ x)) (x % 9223372036854775808) = x := by
  have := word_self Ieee.double x (by rw [sw64]; omega)
  rw [sgb64 x hx, rung64] at this
  exact this

theorem iw64 (K : Nat) (hK : K = 1074) (s : Bool) (v : Nat) (hv : v < 9007199254740992) : ∃ R, Ieee.double.write (.number s v 0) = Ieee.double.word s R ∧ R < 9218868437227405312 ∧ val Ieee.double R = v * 2 ^ K := by
  obtain ⟨R, q1, q2, q3, _, _⟩ := fw64 s v hv
  rw [← hK] at q3
  exact ⟨R, q1, q2, q3⟩

theorem valm64 (K : Nat) (hK : K = 1074) (m : Nat) (hm : m < 9218868437227405312) : cutN64 m = val Ieee.double m / 2 ^ K ∧ pm64 m * 2 ^ (pe64 m - -1074).toNat = val Ieee.double m := by
  obtain ⟨m', i', r1, r2, r3⟩ := read_val Ieee.double m (by rw [rung64, ir64]; omega)
  rw [read64 m hm] at r1
  simp only [Ieee.Datum.number.injEq] at r1
  obtain ⟨_, rfl, rfl⟩ := r1
  have hrr : rung Ieee.double m = m := by rw [rung64]; omega
  rw [hrr, dlp] at r3
  rw [dlp] at r2
  refine ⟨?_, r3⟩
  unfold cutN64
  rw [floor_scale (pm64 m) (pe64 m) K (pe64 m - -1074).toNat (by omega), r3]
theorem vali64 (K : Nat) (hK : K = 1074) (m : Nat) (hm : m < 4841369599423283200) : val Ieee.double m < 4503599627370496 * 2 ^ K := by
  have h := val_lt Ieee.double hm
  have e := (valm64 K hK 4841369599423283200 (by decide)).2
  have e1 : pm64 4841369599423283200 = 4503599627370496 := by decide
  have e2 : (pe64 4841369599423283200 - -1074).toNat = K := by rw [hK]; decide
  rw [e1, e2] at e
  rw [e]; exact h

theorem trunc_eq64 (K : Nat) (hK : K = 1074) (x : Nat) (hx : x < 18446744073709551616) (hm : x % 9223372036854775808 < 4841369599423283200) : cut64 x = Ieee.double.write (.number (decide (9223372036854775808 ≤ x)) (val Ieee.double (x % 9223372036854775808) / 2 ^ K) 0) := by
  have hfin : x % 9223372036854775808 < 9218868437227405312 := by omega
  have hT : val Ieee.double (x % 9223372036854775808) / 2 ^ K < 4503599627370496 := (Nat.div_lt_iff_lt_mul (Nat.two_pow_pos K)).2 (vali64 K hK _ hm)
  have hcv := cutV64 x hx hfin
  rw [(valm64 K hK _ hfin).1] at hcv
  generalize val Ieee.double (x % 9223372036854775808) / 2 ^ K = T at *
  have k1 : key Ieee.double 14064741636278059008 = -4841369599423283200 := by decide
  have k2 : key Ieee.double 4841369599423283200 = 4841369599423283200 := by decide
  have o1 := order64 x 14064741636278059008 (by omega) (by decide)
  have o2 := order64 x 4841369599423283200 (by omega) (by decide)
  rw [k1] at o1
  rw [k2] at o2
  have hin : -4841369599423283200 < key Ieee.double x ∧ key Ieee.double x < 4841369599423283200 := by
    rw [key64 x hx]; split <;> omega
  unfold cut64
  rw [o1, o2, beq_gt, beq_lt, decide_eq_true hin.1, decide_eq_true hin.2, cond_true, cond_true]
  by_cases hT0 : T = 0
  · have h0 : cutV Ieee.double x = 0 := by rw [hcv, hT0]; split <;> rfl
    rw [h0]
    have hz : (Ieee.double.order (FloatKind.nearest .f64 0) 0 == some .eq) = true := by decide +kernel
    have e1 : bAnd .u64 (x : Int) 9223372036854775808 = ((x &&& 9223372036854775808 : Nat) : Int) := bAnd64_n x 9223372036854775808 hx (by decide)
    have e2 : x &&& 9223372036854775808 = 9223372036854775808 * (x / 9223372036854775808 % 2) := and_pow x 63
    rw [hz, cond_true, e1, e2, Int.toNat_natCast, write_number, if_pos hT0]
    by_cases h : 9223372036854775808 ≤ x
    · have : x / 9223372036854775808 % 2 = 1 := by omega
      rw [this, decide_eq_true h]; decide
    · have : x / 9223372036854775808 % 2 = 0 := by omega
      rw [this, decide_eq_false h]; decide
  · have hsg : decide (cutV Ieee.double x < 0) = decide (9223372036854775808 ≤ x) := by
      rw [hcv, Bool.eq_iff_iff, decide_eq_true_iff, decide_eq_true_iff]; split <;> omega
    have hab : (cutV Ieee.double x).natAbs = T := by rw [hcv]; split <;> omega
    have e : FloatKind.nearest .f64 (cutV Ieee.double x) = Ieee.double.write (.number (decide (9223372036854775808 ≤ x)) T 0) := by
      have : FloatKind.nearest .f64 (cutV Ieee.double x) = Ieee.double.write (.number (decide (cutV Ieee.double x < 0)) (cutV Ieee.double x).natAbs 0) := rfl
      rw [this, hsg, hab]
    rw [e]
    obtain ⟨R, q1, q2, q3⟩ := iw64 K hK (decide (9223372036854775808 ≤ x)) T (by omega)
    have hR0 : R ≠ 0 := by
      intro h; rw [h, val_zero] at q3
      have := Nat.mul_pos (Nat.pos_of_ne_zero hT0) (Nat.two_pow_pos K); omega
    have hmod : Ieee.double.word (decide (9223372036854775808 ≤ x)) R % 9223372036854775808 = R := by
      have := rung_word Ieee.double (decide (9223372036854775808 ≤ x)) R (by rw [sw64]; omega)
      rw [rung64] at this; exact this
    have hwl := word64_lt (decide (9223372036854775808 ≤ x)) R (by omega)
    have hne : (Ieee.double.order (Ieee.double.write (.number (decide (9223372036854775808 ≤ x)) T 0)) 0 == some .eq) = false := by
      rw [q1, order64 _ 0 (by rw [hmod]; omega) (by decide), beq_eq]
      apply decide_eq_false
      have k0 : key Ieee.double 0 = 0 := by decide
      rw [k0, key64 _ hwl, hmod]; split <;> omega
    rw [hne, cond_false]

theorem near_eqn64 (K : Nat) (hK : K = 1074) (x : Nat) (hx : x < 18446744073709551616) (hm : x % 9223372036854775808 < 4841369599423283200) : near64 x = Ieee.double.write (.number (decide (9223372036854775808 ≤ x)) (cutE (val Ieee.double (x % 9223372036854775808)) K) 0) := by
  have hV := vali64 K hK _ hm
  have hrn := cutE_le _ K 4503599627370496 hV
  have k1 : key Ieee.double 14064741636278059008 = -4841369599423283200 := by decide
  have k2 : key Ieee.double 4841369599423283200 = 4841369599423283200 := by decide
  have o1 := order64 x 14064741636278059008 (by omega) (by decide)
  have o2 := order64 x 4841369599423283200 (by omega) (by decide)
  rw [k1] at o1
  rw [k2] at o2
  have hin : -4841369599423283200 < key Ieee.double x ∧ key Ieee.double x < 4841369599423283200 := by
    rw [key64 x hx]; split <;> omega
  have hup : up64 (Ieee.double.word false (x % 9223372036854775808)) = Ieee.double.write (.number false (cutE (val Ieee.double (x % 9223372036854775808)) K) 0) := by
    obtain ⟨r, a1, a2⟩ := up_gen Ieee.double 2047 dE K (by rw [hK]; decide) (by omega) (by decide) (x % 9223372036854775808) 4841369599423283200 (by rw [ir64]; omega) (by rw [dbin]; exact hV) (by decide)
    unfold up64
    rw [a1, Option.getD_some, a2, Option.getD_some]
  unfold near64
  rw [o1, o2, beq_gt, beq_lt, decide_eq_true hin.1, decide_eq_true hin.2, cond_true, cond_true, (sgt64 x hx).1]
  have hself := wself64 x hx
  by_cases h : 9223372036854775808 ≤ x
  · rw [decide_eq_true h] at *
    rw [cond_true]
    have e1 : Op.negFloat .f64 x = Ieee.double.word false (x % 9223372036854775808) := by
      have := negw64 true (x % 9223372036854775808) (by omega)
      rw [hself] at this; exact this
    obtain ⟨R, q1, q2, q3⟩ := iw64 K hK false (cutE (val Ieee.double (x % 9223372036854775808)) K) (by omega)
    rw [e1, hup, q1, negw64 false R (by omega), write_sign Ieee.double true _ 0 R (by rw [ir64]; exact q2) q1]
    rfl
  · rw [decide_eq_false h] at *
    rw [cond_false]
    rw [hself] at hup
    exact hup

theorem cniw64 (K : Nat) (hK : K = 1074) (s : Bool) (v : Nat) (hv : v < 9007199254740992) : cn64 (Ieee.double.write (.number s v 0)) = Ieee.double.write (.number s v 0) := by
  obtain ⟨R, q1, q2, _⟩ := iw64 K hK s v hv
  rw [q1]; exact cnword64 s R (by omega)

/-- A float that is whole already. -/
theorem whole_yes64 (K : Nat) (hK : K = 1074) (x : Nat) (hx : x < 18446744073709551616) (hv : x % 9223372036854775808 ≤ 9218868437227405312) (hw : 4841369599423283200 ≤ x % 9223372036854775808 ∨ val Ieee.double (x % 9223372036854775808) % 2 ^ K = 0) : fl64 155 x 0 = x ∧ fl64 156 x 0 = x ∧ fl64 157 x 0 = x ∧ fl64 158 x 0 = x := by
  have hcn : cn64 x = x := by unfold cn64; rw [nan64, decide_eq_false (by omega)]; rfl
  have both : cut64 x = x ∧ near64 x = x := by
    by_cases hbig : 4841369599423283200 ≤ x % 9223372036854775808
    · have k1 : key Ieee.double 14064741636278059008 = -4841369599423283200 := by decide
      have k2 : key Ieee.double 4841369599423283200 = 4841369599423283200 := by decide
      have o1 := order64 x 14064741636278059008 hv (by decide)
      have o2 := order64 x 4841369599423283200 hv (by decide)
      rw [k1] at o1
      rw [k2] at o2
      have hout : ¬ (-4841369599423283200 < key Ieee.double x ∧ key Ieee.double x < 4841369599423283200) := by
        rw [key64 x hx]; split <;> omega
      by_cases h1 : -4841369599423283200 < key Ieee.double x
      · have h2 : ¬ key Ieee.double x < 4841369599423283200 := fun h => hout ⟨h1, h⟩
        constructor
        · unfold cut64; rw [o1, o2, beq_gt, beq_lt, decide_eq_true h1, decide_eq_false h2]; rfl
        · unfold near64; rw [o1, o2, beq_gt, beq_lt, decide_eq_true h1, decide_eq_false h2]; rfl
      · constructor
        · unfold cut64; rw [o1, beq_gt, decide_eq_false h1]; rfl
        · unfold near64; rw [o1, beq_gt, decide_eq_false h1]; rfl
    · have hm : x % 9223372036854775808 < 4841369599423283200 := by omega
      have hw' : val Ieee.double (x % 9223372036854775808) % 2 ^ K = 0 := by
        rcases hw with h | h
        · omega
        · exact h
      have hp := Nat.two_pow_pos K
      have hV := vali64 K hK _ hm
      have hT : val Ieee.double (x % 9223372036854775808) / 2 ^ K < 4503599627370496 := (Nat.div_lt_iff_lt_mul hp).2 hV
      have hdm := Nat.div_add_mod (val Ieee.double (x % 9223372036854775808)) (2 ^ K)
      rw [hw', Nat.add_zero, Nat.mul_comm] at hdm
      have hrn : cutE (val Ieee.double (x % 9223372036854775808)) K = val Ieee.double (x % 9223372036854775808) / 2 ^ K := rnd_low _ _ (by rw [hw']; omega)
      have hword : Ieee.double.write (.number (decide (9223372036854775808 ≤ x)) (val Ieee.double (x % 9223372036854775808) / 2 ^ K) 0) = x := by
        obtain ⟨R, q1, q2, q3⟩ := iw64 K hK (decide (9223372036854775808 ≤ x)) (val Ieee.double (x % 9223372036854775808) / 2 ^ K) (by omega)
        rw [hdm] at q3
        have hR : R = x % 9223372036854775808 := val_inj Ieee.double q3
        rw [q1, hR, wself64 x hx]
      exact ⟨by rw [trunc_eq64 K hK x hx hm, hword], by rw [near_eqn64 K hK x hx hm, hrn, hword]⟩
  obtain ⟨hc, hn⟩ := both
  have hself : Ieee.double.order x x = some .eq := by rw [order64 x x hv hv, Int.compare_eq_eq.2 rfl]
  refine ⟨?_, ?_, ?_, ?_⟩
  · show ((ceil64 x : Nat) : Int) = _
    unfold ceil64; rw [hc, hself, hcn]; rfl
  · show ((floor64 x : Nat) : Int) = _
    unfold floor64; rw [hc, hself, hcn]; rfl
  · show ((cn64 (cut64 x) : Nat) : Int) = _
    rw [hc, hcn]
  · show ((cn64 (near64 x) : Nat) : Int) = _
    rw [hn, hcn]

theorem iwnext64 (K : Nat) (hK : K = 1074) (T : Nat) (hT : T < 4503599627370496) : ar64 (floatBits .add .f64 (Ieee.double.write (.number false T 0)) 4607182418800017408) = Ieee.double.write (.number false (T + 1) 0) ∧ ar64 (floatBits .sub .f64 (Ieee.double.write (.number true T 0)) 4607182418800017408) = Ieee.double.write (.number true (T + 1) 0) := by
  have hlp : Ieee.double.leastPlace ≤ 0 := by decide
  have hone : FloatKind.nearest .f64 1 = 4607182418800017408 := by decide
  obtain ⟨_, _, _, H1, _, _⟩ := near64_word 1 (by decide)
  rw [hone] at H1
  constructor
  · obtain ⟨_, e, _, H, _, _⟩ := near64_word (T : Int) (by omega)
    have hn : FloatKind.nearest .f64 (T : Int) = Ieee.double.write (.number false T 0) := by
      have : FloatKind.nearest .f64 (T : Int) = Ieee.double.write (.number (decide ((T : Int) < 0)) (T : Int).natAbs 0) := rfl
      rw [this, decide_eq_false (by omega), Int.natAbs_natCast]
    rw [hn] at H
    have ha : floatBits .add .f64 (Ieee.double.write (.number false T 0)) 4607182418800017408 = some (Ieee.double.write (.number (decide ((T : Int) + 1 < 0)) ((T : Int) + 1).natAbs 0)) := hi_add Ieee.double hlp _ _ _ _ H H1
    rw [ha, cnnear64 _ _ (by omega), decide_eq_false (by omega)]
    congr 2
  · by_cases h0 : T = 0
    · subst h0; decide +kernel
    · obtain ⟨_, e, _, H, _, _⟩ := near64_word (-(T : Int)) (by omega)
      have hn : FloatKind.nearest .f64 (-(T : Int)) = Ieee.double.write (.number true T 0) := by
        have : FloatKind.nearest .f64 (-(T : Int)) = Ieee.double.write (.number (decide (-(T : Int) < 0)) (-(T : Int)).natAbs 0) := rfl
        rw [this, decide_eq_true (by omega), Int.natAbs_neg, Int.natAbs_natCast]
      rw [hn] at H
      have ha : floatBits .sub .f64 (Ieee.double.write (.number true T 0)) 4607182418800017408 = some (Ieee.double.write (.number (decide (-(T : Int) - 1 < 0)) (-(T : Int) - 1).natAbs 0)) := hi_sub Ieee.double hlp _ _ _ _ H H1
      rw [ha, cnnear64 _ _ (by omega), decide_eq_true (by omega)]
      congr 2
      omega

theorem valhalf64 (K : Nat) (hK : K = 1074) : 2 * val Ieee.double 4602678819172646912 = 2 ^ K := by
  have e := (valm64 K hK 4602678819172646912 (by decide)).2
  have e1 : pm64 4602678819172646912 = 4503599627370496 := by decide
  obtain ⟨Q, hQ⟩ : ∃ Q : Nat, K = 53 + Q := ⟨K - 53, by omega⟩
  have e2 : (pe64 4602678819172646912 - -1074).toNat = Q := by
    have : pe64 4602678819172646912 = -53 := by decide
    rw [this]; omega
  rw [e1, e2] at e
  rw [← e, hQ, Nat.pow_add]
  have : (2 : Nat) ^ 53 = 2 * 4503599627370496 := by decide
  rw [this, Nat.mul_assoc]

theorem KeptWhole64_spec (x : Nat) (hx : x < 18446744073709551616) (w : World) : Runs Try.prog numlaw_KeptWhole.id #[fmt64.val, .int .u64 4607182418800017408, .int .u64 4602678819172646912, .int .u64 x] w fun v w' => v = .bool true ∧ Same [] w.heap.size w w' := by
  refine numlaw_KeptWhole.enter 153 160 97 9223372036854775808 9218868437227405312 9221120237041090560 4607182418800017408 4602678819172646912 x _ _ ?_
  unfold numlaw_KeptWhole.V
  refine letB_intro fun b hb => letW_intro fun w0 hw0 => ?_
  have f0 : FmtAt w0 b fmt64 := by rw [hw0, hb]; exact FmtAt.new w fmt64 T_numlaw_Fmt
  have T0 : Same [] w.heap.size w w0 := by rw [hw0]; exact (Same.refl _ _ _).alloc (Nat.le_refl _) _
  clear hw0 hb
  have c0 : fmt64.un = 153 := rfl
  have c1 : fmt64.bin = 160 := rfl
  have c2 : fmt64.rel = 97 := rfl
  have c3 : fmt64.sign = 9223372036854775808 := rfl
  have c4 : fmt64.inf = 9218868437227405312 := rfl
  have hX : U64 (x : Int) := u64_nat (by omega)
  have hone : U64 4607182418800017408 := by unfold U64; decide
  have hhalf : U64 4602678819172646912 := by unfold U64; decide
  refine ⟨_, f0.c3, _, f0.c4, ?_⟩
  rw [c3, c4, andnot64 x hx]
  refine cond_dec (fun _ => ⟨rfl, T0⟩) (fun hvn => ?_)
  have hv : x % 9223372036854775808 ≤ 9218868437227405312 := by omega
  clear hvn
  have ez : ((0 : Nat) : Int) = 0 := rfl
  refine ⟨_, f0.c0, (apL_spec _ _ _ u64_0 w0).mono ?_⟩
  rintro v w1 ⟨rfl, S1⟩
  have f1 := f0.keep S1
  have T1 := T0.trans (S1.mono T0.size (by simp))
  have a2 : (ap (IntKind.wrap .i64 (fmt64.un + 2)) x 0).1 = fl64 155 x 0 := by
    have := apf64 155 x 0 hx (by decide) (by decide) (by decide)
    rw [ez] at this; exact this
  rw [a2]
  refine ⟨_, rfl, ?_⟩
  refine ⟨_, f1.c0, (apL_spec _ _ _ u64_0 w1).mono ?_⟩
  rintro v w2 ⟨rfl, S2⟩
  have f2 := f1.keep S2
  have T2 := T1.trans (S2.mono T1.size (by simp))
  have a3 : (ap (IntKind.wrap .i64 (fmt64.un + 3)) x 0).1 = fl64 156 x 0 := by
    have := apf64 156 x 0 hx (by decide) (by decide) (by decide)
    rw [ez] at this; exact this
  rw [a3]
  refine ⟨_, rfl, ?_⟩
  refine ⟨_, f2.c0, (apL_spec _ _ _ u64_0 w2).mono ?_⟩
  rintro v w3 ⟨rfl, S3⟩
  have f3 := f2.keep S3
  have T3 := T2.trans (S3.mono T2.size (by simp))
  have a4 : (ap (IntKind.wrap .i64 (fmt64.un + 4)) x 0).1 = fl64 157 x 0 := by
    have := apf64 157 x 0 hx (by decide) (by decide) (by decide)
    rw [ez] at this; exact this
  rw [a4]
  refine ⟨_, rfl, ?_⟩
  refine ⟨_, f3.c0, (apL_spec _ _ _ u64_0 w3).mono ?_⟩
  rintro v w4 ⟨rfl, S4⟩
  have f4 := f3.keep S4
  have T4 := T3.trans (S4.mono T3.size (by simp))
  have a5 : (ap (IntKind.wrap .i64 (fmt64.un + 5)) x 0).1 = fl64 158 x 0 := by
    have := apf64 158 x 0 hx (by decide) (by decide) (by decide)
    rw [ez] at this; exact this
  rw [a5]
  refine ⟨_, rfl, ?_⟩
  clear a2 a3 a4 a5
  refine ⟨_, f4.c3, ?_⟩
  rw [c3]
  obtain ⟨K, hK⟩ : ∃ K : Nat, K = 1074 := ⟨_, rfl⟩
  have hp := Nat.two_pow_pos K
  -- the signs
  have signs : ∀ c l t n : Nat, c < 18446744073709551616 → l < 18446744073709551616 → t < 18446744073709551616 → n < 18446744073709551616 → c / 9223372036854775808 = x / 9223372036854775808 → l / 9223372036854775808 = x / 9223372036854775808 → t / 9223372036854775808 = x / 9223372036854775808 → n / 9223372036854775808 = x / 9223372036854775808 →
      ((bAnd .u64 (bXor .u64 (bOr .u64 (bXor .u64 (bOr .u64 (bXor .u64 (bOr .u64 (bXor .u64 (c : Int) (x : Int)) (l : Int)) (x : Int)) (t : Int)) (x : Int)) (n : Int)) (x : Int)) 9223372036854775808) != (0 : Int)) = false := by
    intro c l t n hc hl ht hn h1 h2 h3 h4
    have lt64 : ∀ z, z < 18446744073709551616 → z < 18446744073709551616 := fun z hz => by omega
    have b1 : c ^^^ x < 18446744073709551616 := Nat.xor_lt_two_pow (n := 64) (lt64 _ hc) (lt64 _ hx)
    have b2 : (c ^^^ x) ||| l < 18446744073709551616 := Nat.or_lt_two_pow (n := 64) b1 (lt64 _ hl)
    have b3 : ((c ^^^ x) ||| l) ^^^ x < 18446744073709551616 := Nat.xor_lt_two_pow (n := 64) b2 (lt64 _ hx)
    have b4 : ((c ^^^ x) ||| l) ^^^ x ||| t < 18446744073709551616 := Nat.or_lt_two_pow (n := 64) b3 (lt64 _ ht)
    have b5 : (((c ^^^ x) ||| l) ^^^ x ||| t) ^^^ x < 18446744073709551616 := Nat.xor_lt_two_pow (n := 64) b4 (lt64 _ hx)
    have b6 : (((c ^^^ x) ||| l) ^^^ x ||| t) ^^^ x ||| n < 18446744073709551616 := Nat.or_lt_two_pow (n := 64) b5 (lt64 _ hn)
    have b7 : ((((c ^^^ x) ||| l) ^^^ x ||| t) ^^^ x ||| n) ^^^ x < 18446744073709551616 := Nat.xor_lt_two_pow (n := 64) b6 (lt64 _ hx)
    rw [bXor64_n c x (lt64 _ hc) (lt64 _ hx), bOr64_n _ _ b1 (lt64 _ hl), bXor64_n _ _ b2 (lt64 _ hx), bOr64_n _ _ b3 (lt64 _ ht), bXor64_n _ _ b4 (lt64 _ hx), bOr64_n _ _ b5 (lt64 _ hn), bXor64_n _ _ b6 (lt64 _ hx)]
    have b8 : bAnd .u64 ((((((c ^^^ x) ||| l) ^^^ x ||| t) ^^^ x ||| n) ^^^ x : Nat) : Int) 9223372036854775808 = (((((((c ^^^ x) ||| l) ^^^ x ||| t) ^^^ x ||| n) ^^^ x) &&& 9223372036854775808 : Nat) : Int) := bAnd64_n _ 9223372036854775808 b7 (by decide)
    rw [b8, sign_chain 9223372036854775808 63 c l t n x (by decide) (x / 9223372036854775808) (by omega) h1 h2 h3 h4 rfl]; rfl
  by_cases hw : 4841369599423283200 ≤ x % 9223372036854775808 ∨ val Ieee.double (x % 9223372036854775808) % 2 ^ K = 0
  · -- whole already
    obtain ⟨q1, q2, q3, q4⟩ := whole_yes64 K hK x hx hv hw
    rw [q1, q2, q3, q4]
    refine cond_false' (signs x x x x hx hx hx hx rfl rfl rfl rfl) ⟨_, f4.c2, (apL_spec _ _ _ hX w4).mono ?_⟩
    rintro v w5 ⟨rfl, S5⟩
    have f5 := f4.keep S5
    have T5 := T4.trans (S5.mono T4.size (by simp))
    refine ⟨_, rfl, _, f5.c1, (apL_spec _ _ _ hone w5).mono ?_⟩
    rintro v w6 ⟨rfl, S6⟩
    have f6 := f5.keep S6
    have T6 := T5.trans (S6.mono T5.size (by simp))
    refine ⟨_, rfl, _, f6.c1, (apL_spec _ _ _ hone w6).mono ?_⟩
    rintro v w7 ⟨rfl, S7⟩
    have T7 := T6.trans (S7.mono T6.size (by simp))
    refine ⟨_, rfl, ?_⟩
    have hself : Ieee.double.order x x = some .eq := by rw [order64 x x hv hv, Int.compare_eq_eq.2 rfl]
    rw [c2, (rel64_facts x x hx hx _ hself).1]
    exact cond_true' rfl (cond_true' (by simp) (cond_true' (by simp) ⟨by simp, T7⟩))
  · -- a fraction is left
    have hm : x % 9223372036854775808 < 4841369599423283200 := by omega
    have hfr : val Ieee.double (x % 9223372036854775808) % 2 ^ K ≠ 0 := fun h => hw (.inr h)
    have hV := vali64 K hK _ hm
    obtain ⟨T, hT⟩ : ∃ T : Nat, T = val Ieee.double (x % 9223372036854775808) / 2 ^ K := ⟨_, rfl⟩
    have hTB : T < 4503599627370496 := by rw [hT]; exact (Nat.div_lt_iff_lt_mul hp).2 hV
    obtain ⟨rn, hrn⟩ : ∃ rn : Nat, rn = cutE (val Ieee.double (x % 9223372036854775808)) K := ⟨_, rfl⟩
    have hrnB : rn ≤ 4503599627370496 := by rw [hrn]; exact cutE_le _ K 4503599627370496 hV
    have hcut := trunc_eq64 K hK x hx hm
    have hnear := near_eqn64 K hK x hx hm
    rw [← hT] at hcut
    rw [← hrn] at hnear
    obtain ⟨Rt, t1, t2, t3⟩ := iw64 K hK (decide (9223372036854775808 ≤ x)) T (by omega)
    obtain ⟨Rn, n1, n2, n3⟩ := iw64 K hK (decide (9223372036854775808 ≤ x)) rn (by omega)
    obtain ⟨Ru, u1, u2, u3⟩ := iw64 K hK (decide (9223372036854775808 ≤ x)) (T + 1) (by omega)
    rw [t1] at hcut
    rw [n1] at hnear
    have modw : ∀ R, R < 9218868437227405312 → Ieee.double.word (decide (9223372036854775808 ≤ x)) R % 9223372036854775808 = R := fun R hR => by
      have := rung_word Ieee.double (decide (9223372036854775808 ≤ x)) R (by rw [sw64]; omega)
      rw [rung64] at this; exact this
    have divw : ∀ R, R < 9218868437227405312 → Ieee.double.word (decide (9223372036854775808 ≤ x)) R / 9223372036854775808 = x / 9223372036854775808 := fun R hR => by
      unfold Ieee.Format.word; rw [sw64]
      by_cases h : 9223372036854775808 ≤ x
      · rw [decide_eq_true h, if_pos rfl]; omega
      · rw [decide_eq_false h]; simp only [Bool.false_eq_true, if_false]; omega
    have ltw : ∀ R, R < 9218868437227405312 → Ieee.double.word (decide (9223372036854775808 ≤ x)) R < 18446744073709551616 := fun R hR => word64_lt _ _ (by omega)
    have hdm := Nat.div_add_mod (val Ieee.double (x % 9223372036854775808)) (2 ^ K)
    rw [← hT, Nat.mul_comm] at hdm
    have hRtm : Rt < x % 9223372036854775808 := by
      rcases Nat.lt_or_ge Rt (x % 9223372036854775808) with h | h
      · exact h
      · exfalso
        have : val Ieee.double (x % 9223372036854775808) ≤ val Ieee.double Rt := by
          rcases Nat.lt_or_eq_of_le h with h1 | h1
          · exact Nat.le_of_lt (val_lt _ h1)
          · rw [h1]; exact Nat.le_refl _
        rw [t3] at this; omega
    -- the four answers
    have e4 : fl64 157 x 0 = ((Ieee.double.word (decide (9223372036854775808 ≤ x)) Rt : Nat) : Int) := by
      show ((cn64 (cut64 x) : Nat) : Int) = _
      rw [hcut, cnword64 _ Rt (by omega)]
    have e5 : fl64 158 x 0 = ((Ieee.double.word (decide (9223372036854775808 ≤ x)) Rn : Nat) : Int) := by
      show ((cn64 (near64 x) : Nat) : Int) = _
      rw [hnear, cnword64 _ Rn (by omega)]
    obtain ⟨nx1, nx2⟩ := iwnext64 K hK T hTB
    have hord := order64 (Ieee.double.word (decide (9223372036854775808 ≤ x)) Rt) x (by rw [modw Rt t2]; omega) hv
    have e23 : (9223372036854775808 ≤ x → fl64 155 x 0 = ((Ieee.double.word (decide (9223372036854775808 ≤ x)) Rt : Nat) : Int) ∧ fl64 156 x 0 = ((Ieee.double.word (decide (9223372036854775808 ≤ x)) Ru : Nat) : Int) ∧ fl64 161 ((Ieee.double.word (decide (9223372036854775808 ≤ x)) Rt : Nat) : Int) 4607182418800017408 = ((Ieee.double.word (decide (9223372036854775808 ≤ x)) Ru : Nat) : Int)) ∧
        (¬ 9223372036854775808 ≤ x → fl64 155 x 0 = ((Ieee.double.word (decide (9223372036854775808 ≤ x)) Ru : Nat) : Int) ∧ fl64 156 x 0 = ((Ieee.double.word (decide (9223372036854775808 ≤ x)) Rt : Nat) : Int) ∧ fl64 160 ((Ieee.double.word (decide (9223372036854775808 ≤ x)) Rt : Nat) : Int) 4607182418800017408 = ((Ieee.double.word (decide (9223372036854775808 ≤ x)) Ru : Nat) : Int)) := by
      constructor
      · intro h
        have hgt : Ieee.double.order (cut64 x) x = some .gt := by
          rw [hcut, hord, cmp_gt]
          rw [key64_neg x hx h, key64 _ (ltw Rt t2), modw Rt t2, if_pos (by unfold Ieee.Format.word; rw [decide_eq_true h, if_pos rfl, sw64]; omega)]; omega
        have hs : ar64 (floatBits .sub .f64 (Ieee.double.word (decide (9223372036854775808 ≤ x)) Rt) 4607182418800017408) = Ieee.double.word (decide (9223372036854775808 ≤ x)) Ru := by
          rw [← t1, ← u1, decide_eq_true h]; exact nx2
        refine ⟨?_, ?_, ?_⟩
        · show ((ceil64 x : Nat) : Int) = _
          unfold ceil64; rw [hgt, hcut, cnword64 _ Rt (by omega)]; rfl
        · show ((floor64 x : Nat) : Int) = _
          unfold floor64; rw [hgt, hcut, hs]; rfl
        · show ((ar64 (floatBits .sub .f64 (Ieee.double.word (decide (9223372036854775808 ≤ x)) Rt) 4607182418800017408) : Nat) : Int) = _
          rw [hs]
      · intro h
        have hlt : Ieee.double.order (cut64 x) x = some .lt := by
          rw [hcut, hord, cmp_lt]
          rw [key64_pos x hx h, key64 _ (ltw Rt t2), modw Rt t2, if_neg (by unfold Ieee.Format.word; rw [decide_eq_false h]; simp only [Bool.false_eq_true, if_false]; omega)]; omega
        have hs : ar64 (floatBits .add .f64 (Ieee.double.word (decide (9223372036854775808 ≤ x)) Rt) 4607182418800017408) = Ieee.double.word (decide (9223372036854775808 ≤ x)) Ru := by
          rw [← t1, ← u1, decide_eq_false h]; exact nx1
        refine ⟨?_, ?_, ?_⟩
        · show ((ceil64 x : Nat) : Int) = _
          unfold ceil64; rw [hlt, hcut, hs]; rfl
        · show ((floor64 x : Nat) : Int) = _
          unfold floor64; rw [hlt, hcut, cnword64 _ Rt (by omega)]; rfl
        · show ((ar64 (floatBits .add .f64 (Ieee.double.word (decide (9223372036854775808 ≤ x)) Rt) 4607182418800017408) : Nat) : Int) = _
          rw [hs]
    have hne : Ieee.double.order (Ieee.double.word (decide (9223372036854775808 ≤ x)) Rt) x ≠ some .eq := by
      rw [hord]
      intro h
      have h1 : compare (key Ieee.double (Ieee.double.word (decide (9223372036854775808 ≤ x)) Rt)) (key Ieee.double x) = .eq := by simpa using h
      have h2 := Int.compare_eq_eq.1 h1
      rw [key64 x hx, key64 _ (ltw Rt t2), modw Rt t2] at h2
      split at h2 <;> split at h2 <;> omega
    -- the fraction
    obtain ⟨Rf, g1, g2, g3⟩ := frac_gen Ieee.double 2047 dE (by decide) K (by rw [hK]; decide) (by omega) (x % 9223372036854775808) Rt T (by rw [ir64]; omega) (by rw [ir64]; exact t2) t3 hT hfr
    have hvh := valhalf64 K hK
    rw [ir64] at g2
    obtain ⟨rI, hrI⟩ : ∃ r : Int, r = (Rf : Int) := ⟨_, rfl⟩
    have hfl : fl64 161 ((x % 9223372036854775808 : Nat) : Int) (Rt : Int) = rI := by
      rw [hrI]
      show ((ar64 (Ieee.double.sub (x % 9223372036854775808) Rt) : Nat) : Int) = _
      have g1' : Ieee.double.sub (x % 9223372036854775808) Rt = some (Ieee.double.word false Rf) := g1
      rw [g1']
      show ((cn64 (Ieee.double.word false Rf) : Nat) : Int) = _
      rw [cnword64 false Rf (by omega)]; rfl
    -- the last clause: by the fraction
    have fin : ∀ w', FmtAt w' b fmt64 → Same [] w.heap.size w w' → ∀ away : Int, away = ((Ieee.double.word (decide (9223372036854775808 ≤ x)) Ru : Nat) : Int) → numlaw_KeptWhole.L2 4602678819172646912 x b ((Ieee.double.word (decide (9223372036854775808 ≤ x)) Rt : Nat) : Int) ((Ieee.double.word (decide (9223372036854775808 ≤ x)) Rn : Nat) : Int) away (fun (v : Value) (w' : World) => v = .bool true ∧ Same [] w.heap.size w w') w' := by
      intro w8 f8 T8 away haway
      subst haway
      refine numlaw_KeptWhole.step2 _ _ _ _ _ _ _ _ ?_
      unfold numlaw_KeptWhole.V2
      refine ⟨_, f8.c1, _, f8.c3, _, f8.c3, ?_⟩
      have d1 : IntKind.wrap .i64 (160 + 1) = 161 := by decide
      rw [c1, c3, d1, andnot64 x hx, andnot64 _ (ltw Rt t2), modw Rt t2]
      clear d1
      refine (apL_spec _ _ _ (u64_nat (by omega)) w8).mono ?_
      rintro v w9 ⟨rfl, S9⟩
      have f9 := f8.keep S9
      have T9 := T8.trans (S9.mono T8.size (by simp))
      rw [apf64 161 (x % 9223372036854775808) Rt (by omega) (by omega) (by decide) (by decide), hfl]
      have hlo : Rf < 4602678819172646912 → Rn = Rt := fun hlt => by
        have hl : val Ieee.double Rf < val Ieee.double 4602678819172646912 := val_lt _ hlt
        rw [g3] at hl
        have hr := rnd_low (val Ieee.double (x % 9223372036854775808)) K (by omega)
        rw [← hrn, ← hT] at hr
        exact val_inj Ieee.double (by rw [n3, t3, hr])
      have hhi : 4602678819172646912 < Rf → Rn = Ru := fun hgt => by
        have hl : val Ieee.double 4602678819172646912 < val Ieee.double Rf := val_lt _ hgt
        rw [g3] at hl
        have hr := rnd_high (val Ieee.double (x % 9223372036854775808)) K (by omega)
        rw [← hrn, ← hT] at hr
        exact val_inj Ieee.double (by rw [n3, u3, hr])
      rcases Nat.lt_trichotomy Rf 4602678819172646912 with hlt | heq | hgt
      · exact ⟨_, rfl, cond_false' (by rw [beq_eq_false_iff_ne]; omega) (cond_true' (decide_eq_true (by omega)) ⟨by rw [hlo hlt]; simp, T9⟩)⟩
      · refine ⟨_, rfl, cond_true' (by rw [beq_iff_eq]; omega) ?_⟩
        -- just a half
        have hRf : Rf = 4602678819172646912 := heq
        rw [hRf] at g3
        have htie : 2 ^ K = 2 * (val Ieee.double (x % 9223372036854775808) % 2 ^ K) := by rw [← g3, hvh]
        obtain ⟨ev, cs⟩ := rnd_tie _ _ htie
        rw [← hrn] at ev cs
        rw [← hT] at cs
        obtain ⟨uu, huu⟩ : ∃ uu : Nat, rn = 2 * uu := ⟨rn / 2, by omega⟩
        obtain ⟨Rh, h1, h2, h3⟩ := iw64 K hK (decide (9223372036854775808 ≤ x)) uu (by omega)
        have hmul : Ieee.double.mul (Ieee.double.word (decide (9223372036854775808 ≤ x)) Rn) 4602678819172646912 = some (Ieee.double.word (decide (9223372036854775808 ≤ x)) Rh) := by
          rw [huu] at n3
          have := half_gen Ieee.double K (by rw [hK]; decide) (decide (9223372036854775808 ≤ x)) Rn uu 4602678819172646912 (by rw [ir64]; exact n2) n3 (-53) (by decide) (by decide) (by decide) (by decide)
          rw [this, h1]
        have hfm : fl64 162 ((Ieee.double.word (decide (9223372036854775808 ≤ x)) Rn : Nat) : Int) 4602678819172646912 = ((Ieee.double.word (decide (9223372036854775808 ≤ x)) Rh : Nat) : Int) := by
          show ((ar64 (Ieee.double.mul (Ieee.double.word (decide (9223372036854775808 ≤ x)) Rn) 4602678819172646912) : Nat) : Int) = _
          rw [hmul]
          show ((cn64 (Ieee.double.word (decide (9223372036854775808 ≤ x)) Rh) : Nat) : Int) = _
          rw [cnword64 _ Rh (by omega)]
        have hwh : fl64 157 ((Ieee.double.word (decide (9223372036854775808 ≤ x)) Rh : Nat) : Int) 0 = ((Ieee.double.word (decide (9223372036854775808 ≤ x)) Rh : Nat) : Int) := by
          refine (whole_yes64 K hK _ (ltw Rh h2) (by rw [modw Rh h2]; omega) (.inr ?_)).2.2.1
          rw [modw Rh h2, h3, Nat.mul_mod_left]
        refine ⟨_, f9.c1, ?_⟩
        have d2 : IntKind.wrap .i64 (160 + 2) = 162 := by decide
        have d4 : IntKind.wrap .i64 (153 + 4) = 157 := by decide
        rw [c1, d2]
        refine (apL_spec _ _ _ hhalf w9).mono ?_
        rintro v w10 ⟨rfl, S10⟩
        have f10 := f9.keep S10
        have T10 := T9.trans (S10.mono T9.size (by simp))
        have m1 := apf64 162 (Ieee.double.word (decide (9223372036854775808 ≤ x)) Rn) 4602678819172646912 (ltw Rn n2) (by decide) (by decide) (by decide)
        have eh : ((4602678819172646912 : Nat) : Int) = 4602678819172646912 := rfl
        rw [eh] at m1
        rw [m1, hfm]
        refine ⟨_, rfl, _, f10.c0, ?_⟩
        rw [c0, d4]
        refine (apL_spec _ _ _ u64_0 w10).mono ?_
        rintro v w11 ⟨rfl, S11⟩
        have f11 := f10.keep S11
        have T11 := T10.trans (S11.mono T10.size (by simp))
        have m2 := apf64 157 (Ieee.double.word (decide (9223372036854775808 ≤ x)) Rh) 0 (ltw Rh h2) (by decide) (by decide) (by decide)
        rw [ez] at m2
        rw [m2, hwh]
        refine ⟨_, rfl, ?_⟩
        have relast : ∃ x19 : Int, World.cell? w11 ⟨b, 2, none⟩ = some (.int .i64 x19) ∧ (Runs Try.prog numlaw_ap.id #[(.int .i64 x19), (.int .u64 ((Ieee.double.word (decide (9223372036854775808 ≤ x)) Rh : Nat) : Int)), (.int .u64 ((Ieee.double.word (decide (9223372036854775808 ≤ x)) Rh : Nat) : Int))] w11 fun r20 w21 => (∃ x22 : Int, (r20 = (.int .u64 x22) ∧ ((fun (v : Value) (w' : World) => v = .bool true ∧ Same [] w.heap.size w w') (.bool (x22 == (1 : Int))) w21)))) := by
          refine ⟨_, f11.c2, (apL_spec _ _ _ (u64_nat (by have := ltw Rh h2; omega)) w11).mono ?_⟩
          rintro v w12 ⟨rfl, S12⟩
          refine ⟨_, rfl, ?_, T11.trans (S12.mono T11.size (by simp))⟩
          have hself : Ieee.double.order (Ieee.double.word (decide (9223372036854775808 ≤ x)) Rh) (Ieee.double.word (decide (9223372036854775808 ≤ x)) Rh) = some .eq := by
            rw [order64 _ _ (by rw [modw Rh h2]; omega) (by rw [modw Rh h2]; omega), Int.compare_eq_eq.2 rfl]
          rw [c2, (rel64_facts _ _ (ltw Rh h2) (ltw Rh h2) _ hself).1]; rfl
        have hcase : Rn = Rt ∨ Rn = Ru := by
          rcases cs with h | h
          · left; exact val_inj Ieee.double (by rw [n3, t3, h])
          · right; exact val_inj Ieee.double (by rw [n3, u3, h])
        refine cond_intro (fun _ => relast) (fun hnt => ?_)
        rcases hcase with h | h
        · rw [h] at hnt; simp at hnt
        · exact cond_true' (by rw [h]; simp) relast
      · exact ⟨_, rfl, cond_false' (by rw [beq_eq_false_iff_ne]; omega) (cond_false' (decide_eq_false (by omega)) ⟨by rw [hhi hgt]; simp, T9⟩)⟩
    rw [e4, e5]
    have hc23 : (∃ C L : Nat, fl64 155 x 0 = ((Ieee.double.word (decide (9223372036854775808 ≤ x)) C : Nat) : Int) ∧ fl64 156 x 0 = ((Ieee.double.word (decide (9223372036854775808 ≤ x)) L : Nat) : Int) ∧ C < 9218868437227405312 ∧ L < 9218868437227405312) := by
      by_cases h : 9223372036854775808 ≤ x
      · exact ⟨Rt, Ru, (e23.1 h).1, (e23.1 h).2.1, t2, u2⟩
      · exact ⟨Ru, Rt, (e23.2 h).1, (e23.2 h).2.1, u2, t2⟩
    obtain ⟨C, L, hC, hL, hC1, hL1⟩ := hc23
    have hsgn := signs _ _ _ _ (ltw C hC1) (ltw L hL1) (ltw Rt t2) (ltw Rn n2) (divw C hC1) (divw L hL1) (divw Rt t2) (divw Rn n2)
    rw [← hC, ← hL] at hsgn
    refine cond_false' hsgn ⟨_, f4.c2, (apL_spec _ _ _ hX w4).mono ?_⟩
    rintro v w5 ⟨rfl, S5⟩
    have f5 := f4.keep S5
    have T5 := T4.trans (S5.mono T4.size (by simp))
    refine ⟨_, rfl, _, f5.c1, (apL_spec _ _ _ hone w5).mono ?_⟩
    rintro v w6 ⟨rfl, S6⟩
    have f6 := f5.keep S6
    have T6 := T5.trans (S6.mono T5.size (by simp))
    refine ⟨_, rfl, _, f6.c1, (apL_spec _ _ _ hone w6).mono ?_⟩
    rintro v w7 ⟨rfl, S7⟩
    have f7 := f6.keep S7
    have T7 := T6.trans (S7.mono T6.size (by simp))
    refine ⟨_, rfl, ?_⟩
    have hsame : (ap 97 ((Ieee.double.word (decide (9223372036854775808 ≤ x)) Rt : Nat) : Int) x).1 = 0 := by
      rw [(rel64_facts _ x (ltw Rt t2) hx _ rfl).1]
      have : (Ieee.double.order (Ieee.double.word (decide (9223372036854775808 ≤ x)) Rt) x == some .eq) = false := by
        rw [beq_eq_false_iff_ne]; exact hne
      rw [this]; rfl
    rw [c2, hsame]
    refine cond_false' rfl ⟨_, f7.c3, ?_⟩
    rw [c3, (sgt64 x hx).2]
    have d1 : IntKind.wrap .i64 (160 + 1) = 161 := by decide
    have eo : ((4607182418800017408 : Nat) : Int) = 4607182418800017408 := rfl
    rw [c1, d1]
    clear d1
    by_cases h : 9223372036854775808 ≤ x
    · obtain ⟨y1, y2, y3⟩ := e23.1 h
      have hd : x / 9223372036854775808 % 2 = 1 := by omega
      have m1 := apf64 161 (Ieee.double.word (decide (9223372036854775808 ≤ x)) Rt) 4607182418800017408 (ltw Rt t2) (by decide) (by decide) (by decide)
      rw [eo] at m1
      rw [hd]
      refine cond_false' (by decide) ?_
      rw [m1, y3, y1, y2]
      refine numlaw_KeptWhole.step1 _ _ _ _ _ _ _ _ _ _ _ _ ?_
      unfold numlaw_KeptWhole.V1
      exact cond_false' (by simp) (cond_false' (by simp) (fin w7 f7 T7 _ rfl))
    · obtain ⟨y1, y2, y3⟩ := e23.2 h
      have hd : x / 9223372036854775808 % 2 = 0 := by omega
      have m1 := apf64 160 (Ieee.double.word (decide (9223372036854775808 ≤ x)) Rt) 4607182418800017408 (ltw Rt t2) (by decide) (by decide) (by decide)
      rw [eo] at m1
      rw [hd]
      refine cond_true' (by decide) ?_
      rw [m1, y3, y1, y2]
      refine numlaw_KeptWhole.step1 _ _ _ _ _ _ _ _ _ _ _ _ ?_
      unfold numlaw_KeptWhole.V1
      exact cond_false' (by simp) (cond_false' (by simp) (fin w7 f7 T7 _ rfl))

end Go.Proofs.Qxb6500320a
