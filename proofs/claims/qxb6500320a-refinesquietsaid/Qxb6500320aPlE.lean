/-
  KeepsPlain: small whole numbers are exact.
-/
import Derived.Test.Qxb6500320aPlD
set_option linter.unusedSimpArgs false
set_option linter.unusedVariables false
set_option maxRecDepth 100000
namespace Go.Proofs.Qxb6500320a
open Go Go.Vc

theorem val_zmul (f : Ieee.Format) (v K : Nat) (h : v = 0) : val f 0 = v * 2 ^ K := by rw [h, val_zero, Nat.zero_mul]
theorem zero_of (X v K : Nat) (h : X = v * 2 ^ K) (hv : v = 0) : X = 0 := by rw [h, hv, Nat.zero_mul]

/-- The word x is the whole number n (a zero without sign). -/
def HI (f : Ieee.Format) (x : Nat) (n : Int) : Prop := ∃ p a, f.read x = .number (decide (n < 0)) p a ∧ f.leastPlace ≤ a ∧ p * 2 ^ (a - f.leastPlace).toNat = n.natAbs * 2 ^ (-f.leastPlace).toNat

theorem hi_signed (f : Ieee.Format) (n : Int) (p : Nat) (a base : Int) (hb : base ≤ a) (hl : f.leastPlace ≤ base) (h : p * 2 ^ (a - f.leastPlace).toNat = n.natAbs * 2 ^ (-f.leastPlace).toNat) : Ieee.signed (decide (n < 0)) p (a - base).toNat * 2 ^ (base - f.leastPlace).toNat = n * 2 ^ (-f.leastPlace).toNat := by
  rw [signed_scale _ p a base (base - f.leastPlace).toNat hb]
  have e : a - (base - ((base - f.leastPlace).toNat : Int)) = a - f.leastPlace := by omega
  rw [e, signed_as _ p _ _ h, abs_signed]

theorem scaled_abs (t z : Int) (d K : Nat) (h : t * 2 ^ d = z * 2 ^ K) : t.natAbs * 2 ^ d = z.natAbs * 2 ^ K := by
  have h1 := congrArg Int.natAbs h
  rw [Int.natAbs_mul, Int.natAbs_mul, Int.natAbs_pow, Int.natAbs_pow] at h1
  exact h1
theorem scaled_sign (t z : Int) (d K : Nat) (h : t * 2 ^ d = z * 2 ^ K) : (t = 0 ↔ z = 0) ∧ (t < 0 ↔ z < 0) := by
  have hd : (0 : Int) < 2 ^ d := Int.pow_pos (by decide)
  have hK : (0 : Int) < 2 ^ K := Int.pow_pos (by decide)
  generalize (2 : Int) ^ d = D at *
  generalize (2 : Int) ^ K = E at *
  have key : ∀ a b : Int, 0 < b → (a * b < 0 ↔ a < 0) ∧ (a * b = 0 ↔ a = 0) := by
    intro a b hb
    constructor
    · constructor
      · intro h'
        rcases Int.lt_or_le a 0 with h1 | h1
        · exact h1
        · have := Int.mul_nonneg h1 (Int.le_of_lt hb); omega
      · intro h'; exact Int.mul_neg_of_neg_of_pos h' hb
    · rw [Int.mul_eq_zero]; constructor
      · intro h'; rcases h' with h1 | h1
        · exact h1
        · omega
      · intro h'; exact .inl h'
  have k1 := key t D hd
  have k2 := key z E hK
  rw [h] at k1
  exact ⟨k1.2.symm.trans k2.2, k1.1.symm.trans k2.1⟩

/-- A sum of whole numbers before it is written. -/
theorem hi_sum (f : Ieee.Format) (hl : f.leastPlace ≤ 0) (i j : Int) (p q : Nat) (a b : Int) (t : Bool) (ha : f.leastPlace ≤ a) (hb : f.leastPlace ≤ b) (hp : p * 2 ^ (a - f.leastPlace).toNat = i.natAbs * 2 ^ (-f.leastPlace).toNat)
    (hq : Ieee.signed t q (b - min a b).toNat * 2 ^ (min a b - f.leastPlace).toNat = j * 2 ^ (-f.leastPlace).toNat) (hz : i + j = 0 → (decide (i < 0) && t) = false) :
    ((Ieee.Datum.number (decide (i < 0)) p a).sum (.number t q b)).map f.write = some (f.write (.number (decide (i + j < 0)) (i + j).natAbs 0)) := by
  simp only [Ieee.Datum.sum, Option.map_some]
  have h1 := hi_signed f i p a (min a b) (by omega) (by omega) hp
  generalize Ieee.signed (decide (i < 0)) p (a - min a b).toNat = A at *
  generalize Ieee.signed t q (b - min a b).toNat = C at *
  have h2 : (A + C) * 2 ^ (min a b - f.leastPlace).toNat = (i + j) * 2 ^ (-f.leastPlace).toNat := by rw [Int.add_mul, Int.add_mul, h1, hq]
  obtain ⟨s1, s2⟩ := scaled_sign _ _ _ _ h2
  have h3 := scaled_abs _ _ _ _ h2
  have hsg : (if A + C = 0 then (decide (i < 0) && t) else decide (A + C < 0)) = decide (i + j < 0) := by
    by_cases h0 : A + C = 0
    · rw [if_pos h0, hz (s1.1 h0), decide_eq_false (by have := s1.1 h0; omega)]
    · rw [if_neg h0, Bool.eq_iff_iff, decide_eq_true_iff, decide_eq_true_iff]; exact s2
  rw [hsg]
  congr 1
  apply write_same f _ _ _ _ _ f.leastPlace (by omega) hl
  have e : (0 - f.leastPlace).toNat = (-f.leastPlace).toNat := by congr 1; omega
  rw [e, h3]

theorem hi_add (f : Ieee.Format) (hl : f.leastPlace ≤ 0) (x y : Nat) (i j : Int) (hx : HI f x i) (hy : HI f y j) : f.add x y = some (f.write (.number (decide (i + j < 0)) (i + j).natAbs 0)) := by
  obtain ⟨p, a, h1, h2, h3⟩ := hx
  obtain ⟨q, b, g1, g2, g3⟩ := hy
  unfold Ieee.Format.add
  rw [h1, g1]
  refine hi_sum f hl i j p q a b _ h2 g2 h3 (hi_signed f j q b (min a b) (by omega) (by omega) g3) (fun h => ?_)
  by_cases hi : i < 0
  · rw [decide_eq_false (show ¬ j < 0 by omega), Bool.and_false]
  · rw [decide_eq_false hi, Bool.false_and]
theorem signed_not (s : Bool) (q k : Nat) : Ieee.signed (!s) q k = -Ieee.signed s q k := by unfold Ieee.signed; cases s <;> simp
theorem hi_sub (f : Ieee.Format) (hl : f.leastPlace ≤ 0) (x y : Nat) (i j : Int) (hx : HI f x i) (hy : HI f y j) : f.sub x y = some (f.write (.number (decide (i - j < 0)) (i - j).natAbs 0)) := by
  obtain ⟨p, a, h1, h2, h3⟩ := hx
  obtain ⟨q, b, g1, g2, g3⟩ := hy
  unfold Ieee.Format.sub
  rw [h1, g1]
  have := hi_sum f hl i (-j) p q a b (!decide (j < 0)) h2 g2 h3 (by rw [signed_not, Int.neg_mul, Int.neg_mul, hi_signed f j q b (min a b) (by omega) (by omega) g3]) (fun h => by
    by_cases hi : i < 0
    · rw [decide_eq_true (show j < 0 by omega), Bool.not_true, Bool.and_false]
    · rw [decide_eq_false hi, Bool.false_and])
  rw [← Int.sub_eq_add_neg] at this
  exact this

theorem hi_mul (f : Ieee.Format) (hl : f.leastPlace ≤ 0) (x y : Nat) (i j : Int) (hx : HI f x i) (hy : HI f y j) : f.mul x y = some (f.write (.number (decide (i < 0) ^^ decide (j < 0)) (i * j).natAbs 0)) := by
  obtain ⟨p, a, h1, h2, h3⟩ := hx
  obtain ⟨q, b, g1, g2, g3⟩ := hy
  unfold Ieee.Format.mul
  rw [h1, g1]
  simp only [Ieee.Datum.product, Option.map_some]
  congr 1
  apply write_same f _ _ _ _ _ (f.leastPlace + f.leastPlace) (by omega) (by omega)
  have e1 : (a + b - (f.leastPlace + f.leastPlace)).toNat = (a - f.leastPlace).toNat + (b - f.leastPlace).toNat := by omega
  have e2 : (0 - (f.leastPlace + f.leastPlace)).toNat = (-f.leastPlace).toNat + (-f.leastPlace).toNat := by omega
  rw [e1, e2, Nat.pow_add, Nat.pow_add, Nat.mul_mul_mul_comm, h3, g3, Int.natAbs_mul, Nat.mul_mul_mul_comm]

/-- The product divided by one factor. -/
theorem hi_div (f : Ieee.Format) (hl : f.leastPlace ≤ 0) (D : Nat) (s t : Bool) (i j : Int) (mq q : Nat) (aq b : Int) (hi0 : i ≠ 0) (hj0 : j ≠ 0) (haq : f.leastPlace ≤ aq) (hb : f.leastPlace ≤ b) (h1 : mq * 2 ^ (aq - f.leastPlace).toNat = (i * j).natAbs * 2 ^ (-f.leastPlace).toNat) (h2 : q * 2 ^ (b - f.leastPlace).toNat = j.natAbs * 2 ^ (-f.leastPlace).toNat)
    (hD : (i * j).natAbs.log2 ≤ D) (hDm : mq.log2 ≤ D) : ((Ieee.Datum.number s mq aq).quotient D (.number t q b)).map f.write = some (f.write (.number (s ^^ t) i.natAbs 0)) := by
  have hK := Nat.two_pow_pos (-f.leastPlace).toNat
  have hjn : j.natAbs ≠ 0 := by omega
  have hin : i.natAbs ≠ 0 := by omega
  have hij : (i * j).natAbs ≠ 0 := by rw [Int.natAbs_mul]; exact Nat.mul_ne_zero hin hjn
  have hq0 : q ≠ 0 := by
    intro h; rw [h, Nat.zero_mul] at h2
    have := Nat.mul_pos (Nat.pos_of_ne_zero hjn) hK; omega
  have hm0 : mq ≠ 0 := by
    intro h; rw [h, Nat.zero_mul] at h1
    have := Nat.mul_pos (Nat.pos_of_ne_zero hij) hK; omega
  have l1 := log2_pos _ _ _ _ hm0 hij h1
  have l2 := log2_pos _ _ _ _ hq0 hjn h2
  obtain ⟨more, hmore⟩ : ∃ more, more = D + q.log2 - mq.log2 := ⟨_, rfl⟩
  obtain ⟨e, he⟩ : ∃ e : Nat, (e : Int) = b - aq + more := ⟨(b - aq + more).toNat, by omega⟩
  have hdiv : mq * 2 ^ more = i.natAbs * 2 ^ e * q := by
    have h3 : mq * 2 ^ (aq - f.leastPlace).toNat = (i.natAbs * q) * 2 ^ (b - f.leastPlace).toNat := by rw [Nat.mul_assoc, h2, h1, Int.natAbs_mul, Nat.mul_assoc]
    have := pow_shift mq (i.natAbs * q) (aq - f.leastPlace).toNat (b - f.leastPlace).toNat more e h3 (by omega)
    rw [this, Nat.mul_right_comm]
  simp only [Ieee.Datum.quotient, if_neg hq0, Option.map_some, ← hmore, Nat.shiftLeft_eq]
  rw [hdiv, Nat.mul_div_cancel _ (Nat.pos_of_ne_zero hq0), Nat.mul_mod_left]
  congr 1
  apply write_same f _ _ _ _ _ (aq - b - more - 1) (by omega) (by omega)
  have e1 : (aq - b - (more : Int) - 1 - (aq - b - more - 1)).toNat = 0 := by omega
  have e2 : (0 - (aq - b - (more : Int) - 1)).toNat = e + 1 := by omega
  rw [e1, e2, Nat.pow_succ, Nat.pow_zero, Nat.mul_one]
  show 2 * (i.natAbs * 2 ^ e) + 0 = _
  rw [Nat.add_zero, Nat.mul_comm 2, Nat.mul_assoc]

/-! ### 32 bits -/
theorem fw32 (s : Bool) (v : Nat) (hv : v < 16777216) : ∃ R, Ieee.single.write (.number s v 0) = Ieee.single.word s R ∧ R < 2139095040 ∧ val Ieee.single R = v * 2 ^ 149 ∧ (v = 0 → R = 0) ∧ (v ≠ 0 → pe32 R ≤ 0 ∧ pm32 R = v * 2 ^ (-(pe32 R)).toNat) := by
  by_cases h0 : v = 0
  · refine ⟨0, ?_, by decide, ?_, fun _ => rfl, fun h => absurd h0 h⟩
    · rw [write_number, if_pos h0]
    · exact val_zmul Ieee.single v 149 h0
  · obtain ⟨R, q1, q2, q3, q4, q5, q6, q7⟩ := few32 v h0 hv
    exact ⟨R, q1 s, q3, q7, fun h => absurd h h0, fun _ => ⟨q4, q6⟩⟩

theorem near32_word (n : Int) (hn : n.natAbs < 16777216) : ∃ R, FloatKind.nearest .f32 n = Ieee.single.word (decide (n < 0)) R ∧ R < 2139095040 ∧ HI Ieee.single (FloatKind.nearest .f32 n) n ∧ (n = 0 → R = 0) ∧ (n ≠ 0 → pe32 R ≤ 0 ∧ pm32 R = n.natAbs * 2 ^ (-(pe32 R)).toNat) := by
  obtain ⟨R, q1, q2, q3, q4, q5⟩ := fw32 (decide (n < 0)) n.natAbs hn
  have e : FloatKind.nearest .f32 n = Ieee.single.word (decide (n < 0)) R := q1
  refine ⟨R, e, q2, ?_, fun h => q4 (by omega), fun h => q5 (by omega)⟩
  obtain ⟨m, i, r1, r2, r3⟩ := read_val Ieee.single (Ieee.single.word (decide (n < 0)) R) (by rw [rung_word _ _ _ (by rw [sw32]; omega), ir32]; exact q2)
  rw [rung_word _ _ _ (by rw [sw32]; omega), q3] at r3
  rw [sgb_word _ _ _ (by rw [sw32]; omega)] at r1
  rw [e]
  refine ⟨m, i, r1, r2, ?_⟩
  rw [r3]
  congr 2

theorem cnnear32 (s : Bool) (v : Nat) (hv : v < 16777216) : ar32 (some (Ieee.single.write (.number s v 0))) = Ieee.single.write (.number s v 0) := by
  obtain ⟨R, q1, q2, _⟩ := fw32 s v hv
  rw [q1]; exact cnword32 s R (by omega)

theorem small_ops32 (i j : Int) (hi : -2048 ≤ i ∧ i ≤ 2047) (hj : -2048 ≤ j ∧ j ≤ 2047) :
    fl32 146 ((FloatKind.nearest .f32 i : Nat) : Int) ((FloatKind.nearest .f32 j : Nat) : Int) = ((FloatKind.nearest .f32 (i + j) : Nat) : Int) ∧
    fl32 147 ((FloatKind.nearest .f32 i : Nat) : Int) ((FloatKind.nearest .f32 j : Nat) : Int) = ((FloatKind.nearest .f32 (i - j) : Nat) : Int) ∧
    ∃ q : Nat, fl32 148 ((FloatKind.nearest .f32 i : Nat) : Int) ((FloatKind.nearest .f32 j : Nat) : Int) = (q : Int) ∧ q < 4294967296 ∧
      (i * j ≠ 0 → q = FloatKind.nearest .f32 (i * j)) ∧ (i * j = 0 → q = if (decide (i < 0) ^^ decide (j < 0)) = true then 2147483648 else 0) ∧
      (j ≠ 0 → fl32 149 (q : Int) ((FloatKind.nearest .f32 j : Nat) : Int) = ((FloatKind.nearest .f32 i : Nat) : Int)) := by
  have hlp : Ieee.single.leastPlace ≤ 0 := by decide
  have hpb : (i * j).natAbs ≤ 4194304 := by rw [Int.natAbs_mul]; exact Nat.mul_le_mul (show i.natAbs ≤ 2048 by omega) (show j.natAbs ≤ 2048 by omega)
  obtain ⟨Ri, wi, li, Hi, zi, _⟩ := near32_word i (by omega)
  obtain ⟨Rj, wj, lj, Hj, zj, _⟩ := near32_word j (by omega)
  refine ⟨?_, ?_, Ieee.single.write (.number (decide (i < 0) ^^ decide (j < 0)) (i * j).natAbs 0), ?_, ?_, ?_, ?_, ?_⟩
  · show ((ar32 (Ieee.single.add (FloatKind.nearest .f32 i) (FloatKind.nearest .f32 j)) : Nat) : Int) = _
    rw [hi_add Ieee.single hlp _ _ i j Hi Hj, cnnear32 _ _ (by omega)]; rfl
  · show ((ar32 (Ieee.single.sub (FloatKind.nearest .f32 i) (FloatKind.nearest .f32 j)) : Nat) : Int) = _
    rw [hi_sub Ieee.single hlp _ _ i j Hi Hj, cnnear32 _ _ (by omega)]; rfl
  · show ((ar32 (Ieee.single.mul (FloatKind.nearest .f32 i) (FloatKind.nearest .f32 j)) : Nat) : Int) = _
    rw [hi_mul Ieee.single hlp _ _ i j Hi Hj, cnnear32 _ _ (by omega)]
  · obtain ⟨R, q1, q2, _⟩ := fw32 (decide (i < 0) ^^ decide (j < 0)) (i * j).natAbs (by omega)
    rw [q1]; exact word32_lt _ _ (by omega)
  · intro h
    have hsg : (decide (i < 0) ^^ decide (j < 0)) = decide (i * j < 0) := by
      have hi0 : i ≠ 0 := fun h' => h (by rw [h', Int.zero_mul])
      have hj0 : j ≠ 0 := fun h' => h (by rw [h', Int.mul_zero])
      by_cases h1 : i < 0 <;> by_cases h2 : j < 0
      · rw [decide_eq_true h1, decide_eq_true h2, decide_eq_false (show ¬ i * j < 0 by have := Int.mul_pos_of_neg_of_neg h1 h2; omega)]; rfl
      · rw [decide_eq_true h1, decide_eq_false h2, decide_eq_true (Int.mul_neg_of_neg_of_pos h1 (by omega))]; rfl
      · rw [decide_eq_false h1, decide_eq_true h2, decide_eq_true (Int.mul_neg_of_pos_of_neg (by omega) h2)]; rfl
      · rw [decide_eq_false h1, decide_eq_false h2, decide_eq_false (show ¬ i * j < 0 by have := Int.mul_pos (show 0 < i by omega) (show 0 < j by omega); omega)]; rfl
    rw [hsg]; rfl
  · intro h
    rw [h, write_number, if_pos (by decide), zero_or32]
  · intro hj0
    have hyz : (Ieee.single.order (FloatKind.nearest .f32 j) 0 == some .eq) = false := by
      obtain ⟨q, b, g1, g2, g3⟩ := Hj
      have hH : Hold Ieee.single (FloatKind.nearest .f32 j) (j * 2 ^ (-Ieee.single.leastPlace).toNat) := ⟨_, q, b, g1, g2, by rw [signed_as _ _ _ _ g3, abs_signed]⟩
      have h0 : Hold Ieee.single 0 (0 * 2 ^ (-Ieee.single.leastPlace).toNat) := ⟨false, 0, Ieee.single.leastPlace, by decide, Int.le_refl _, by rw [Int.zero_mul]; unfold Ieee.signed; simp⟩
      rw [hH.orderI h0, beq_eq]
      exact decide_eq_false hj0
    have e : ∀ x y : Nat, fl32 149 (x : Int) (y : Int) = cond (Ieee.single.order y 0 == some .eq) (cond (Ieee.single.order x x != some .eq) 2143289344 (cond (Ieee.single.order x 0 == some .eq) 2143289344 (bOr .u32 2139095040 (bAnd .u32 (bXor .u32 x y) 2147483648)))) ((ar32 (Ieee.single.div x y) : Nat) : Int) := fun x y => rfl
    rw [e, hyz, cond_false]
    obtain ⟨q, b, g1, g2, g3⟩ := Hj
    obtain ⟨R, q1, q2, q3, q4, q5⟩ := fw32 (decide (i < 0) ^^ decide (j < 0)) (i * j).natAbs (by omega)
    unfold Ieee.Format.div
    rw [q1, g1]
    obtain ⟨mq, aq, r1, r2, r3⟩ := read_val Ieee.single (Ieee.single.word (decide (i < 0) ^^ decide (j < 0)) R) (by rw [rung_word _ _ _ (by rw [sw32]; omega), ir32]; exact q2)
    rw [rung_word _ _ _ (by rw [sw32]; omega), q3] at r3
    rw [sgb_word _ _ _ (by rw [sw32]; omega)] at r1
    rw [r1]
    have hK : (-Ieee.single.leastPlace).toNat = 149 := by decide
    by_cases hi0 : i = 0
    · subst hi0
      have hmq : mq = 0 := by
        have r4 : mq * 2 ^ (aq - Ieee.single.leastPlace).toNat = 0 := zero_of _ _ _ r3 (by rw [Int.zero_mul]; rfl)
        clear r3
        rcases Nat.eq_zero_or_pos mq with h | h
        · exact h
        · have := Nat.mul_pos h (Nat.two_pow_pos (aq - Ieee.single.leastPlace).toNat); omega
      have hq0 : q ≠ 0 := by
        intro h; rw [h, Nat.zero_mul, hK] at g3
        obtain ⟨Q, hQ⟩ : ∃ Q : Nat, Q = 149 := ⟨_, rfl⟩
        rw [← hQ] at g3
        have := Nat.mul_pos (show 0 < j.natAbs by omega) (Nat.two_pow_pos Q); omega
      subst hmq
      simp only [Ieee.Datum.quotient, if_neg hq0, Option.map_some, Nat.shiftLeft_eq, Nat.zero_mul, Nat.zero_div, Nat.zero_mod]
      have hw : ∀ (s : Bool) (pl : Int), Ieee.single.write (.number s (2 * 0 + ((0 : Nat) != 0).toNat) pl) = Ieee.single.word s 0 := fun s pl => by
        show Ieee.single.write (.number s 0 pl) = _
        rw [write_number, if_pos rfl]
      rw [hw]
      have hs : ((decide ((0 : Int) < 0) ^^ decide (j < 0)) ^^ decide (j < 0)) = false := by cases decide (j < 0) <;> rfl
      rw [hs]
      show ((cn32 (Ieee.single.word false 0) : Nat) : Int) = _
      rw [cnword32 false 0 (by omega), wi, zi rfl]; rfl
    · obtain ⟨hmb, _⟩ := (show mq < 16777216 ∧ True from by
        have := (read_norm Ieee.single _ _ _ _ r1).1
        rw [sbin] at this
        exact ⟨by omega, trivial⟩)
      have hlm := log2_lt mq 23 (by omega)
      have hlij := log2_lt (i * j).natAbs 22 (by omega)
      rw [hi_div Ieee.single hlp (Ieee.single.fractionBits + 2) (decide (i < 0) ^^ decide (j < 0)) (decide (j < 0)) i j mq q aq b hi0 hj0 r2 g2 (by rw [r3, hK]) g3 (by rw [sfrac]; omega) (by rw [sfrac]; omega)]
      have hs : ((decide (i < 0) ^^ decide (j < 0)) ^^ decide (j < 0)) = decide (i < 0) := by cases decide (i < 0) <;> cases decide (j < 0) <;> rfl
      rw [hs, cnnear32 _ _ (by omega)]; rfl

theorem KeptSmall32_spec (x y : Nat) (hx : x < 4294967296) (hy : y < 4294967296) (w : World) : Runs Try.prog numlaw_KeptSmall.id #[fmt32.val, .int .i64 24, .int .i64 178, .int .u64 x, .int .u64 y] w fun v w' => v = .bool true ∧ Same [] w.heap.size w w' := by
  refine numlaw_KeptSmall.enter 139 146 91 2147483648 2139095040 2143289344 24 178 x y _ _ ?_
  unfold numlaw_KeptSmall.V
  refine letB_intro fun b hb => letW_intro fun w0 hw0 => ?_
  have f0 : FmtAt w0 b fmt32 := by rw [hw0, hb]; exact FmtAt.new w fmt32 T_numlaw_Fmt
  have T0 : Same [] w.heap.size w w0 := by rw [hw0]; exact (Same.refl _ _ _).alloc (Nat.le_refl _) _
  clear hw0 hb
  have c1 : fmt32.bin = 146 := rfl
  have c3 : fmt32.sign = 2147483648 := rfl
  have low : ∀ z : Nat, z < 4294967296 → ∃ i : Int, IntKind.wrap .i64 ((IntKind.wrap .i64 (bAnd .u64 (z : Int) 4095)) - 2048) = i ∧ -2048 ≤ i ∧ i ≤ 2047 := by
    intro z hz
    have e : bAnd .u64 (z : Int) 4095 = ((z &&& 4095 : Nat) : Int) := bAnd64_n z 4095 (by omega) (by decide)
    have e2 : z &&& 4095 = z % 2 ^ 12 := Nat.and_two_pow_sub_one_eq_mod z 12
    rw [e, e2]
    have e3 : IntKind.wrap .i64 ((z % 2 ^ 12 : Nat) : Int) = ((z % 2 ^ 12 : Nat) : Int) := wrap_i64 (by omega) (by omega)
    rw [e3]
    refine ⟨_, rfl, ?_⟩
    rw [wrap_i64 (by omega) (by omega)]; omega
  obtain ⟨i, hi, hi0, hi1⟩ := low x hx
  obtain ⟨j, hj, hj0, hj1⟩ := low y hy
  have apc : ∀ n : Int, -4194304 ≤ n → n ≤ 4194304 → (ap 178 (IntKind.wrap .u64 (IntKind.wrap .u32 n)) 0).1 = ((FloatKind.nearest .f32 n : Nat) : Int) := by
    intro n h0 h1
    have e1 : IntKind.wrap .u64 (IntKind.wrap .u32 n) = n % 4294967296 := by rw [wrap_u32_mod, wrap_u64 (by omega) (by omega)]
    rw [e1]
    exact ap168_back n (by omega) (by omega)
  have hpb : -4194304 ≤ i * j ∧ i * j ≤ 4194304 := by
    have : (i * j).natAbs ≤ 4194304 := by rw [Int.natAbs_mul]; exact Nat.mul_le_mul (show i.natAbs ≤ 2048 by omega) (show j.natAbs ≤ 2048 by omega)
    omega
  obtain ⟨o1, o2, q, o3, o4, o5, o6, o7⟩ := small_ops32 i j ⟨hi0, hi1⟩ ⟨hj0, hj1⟩
  obtain ⟨R, wi, li, Hi, zi, pi⟩ := near32_word i (by omega)
  have lx := near_lt32 i
  have ly := near_lt32 j
  refine numlaw_KeptSmall.step1 _ _ _ _ _ _ _ ?_
  unfold numlaw_KeptSmall.V1
  rw [hi]
  refine numlaw_KeptSmall.step2 _ _ _ _ _ _ _ ?_
  unfold numlaw_KeptSmall.V2
  rw [hj]
  clear hi hj low
  refine numlaw_KeptSmall.step3 _ _ _ _ _ _ _ ?_
  unfold numlaw_KeptSmall.V3
  refine (apL_spec _ _ _ u64_0 w0).mono ?_
  rintro v w1 ⟨rfl, S1⟩
  have f1 := f0.keep S1
  have T1 := T0.trans (S1.mono T0.size (by simp))
  rw [apc i (by omega) (by omega)]
  refine ⟨_, rfl, ?_⟩
  refine numlaw_KeptSmall.step4 _ _ _ _ _ _ _ _ ?_
  unfold numlaw_KeptSmall.V4
  refine (apL_spec _ _ _ u64_0 w1).mono ?_
  rintro v w2 ⟨rfl, S2⟩
  have f2 := f1.keep S2
  have T2 := T1.trans (S2.mono T1.size (by simp))
  rw [apc j (by omega) (by omega)]
  refine ⟨_, rfl, ?_⟩
  refine numlaw_KeptSmall.step5 _ _ _ _ _ _ _ _ _ ?_
  unfold numlaw_KeptSmall.V5
  have hmod : FloatKind.nearest .f32 i % 2147483648 = R := by
    rw [wi]
    have := rung_word Ieee.single (decide (i < 0)) R (by rw [sw32]; omega)
    rw [rung32] at this; exact this
  have hpz : pm32 0 = 0 ∧ pe32 0 = -149 := ⟨rfl, rfl⟩
  have hpe : pe32 R ≤ 40 := by
    by_cases h0 : i = 0
    · rw [zi h0, hpz.2]; decide
    · have := (pi h0).1; omega
  have hex : pm32 R % 2 ^ (-(pe32 R)).toNat = 0 := by
    by_cases h0 : i = 0
    · rw [zi h0, hpz.1, Nat.zero_mod]
    · rw [(pi h0).2]; exact Nat.mul_mod_left _ _
  have hcut : cutN32 R = i.natAbs := by
    unfold cutN32
    by_cases h0 : i = 0
    · rw [zi h0, hpz.1, h0, Nat.zero_mul, Nat.zero_div]; rfl
    · obtain ⟨p1, p2⟩ := pi h0
      have z1 : (pe32 R).toNat = 0 := by omega
      rw [z1, Nat.pow_zero, Nat.mul_one, p2, Nat.mul_div_cancel _ (Nat.two_pow_pos _)]
  refine ⟨_, _, _, _, _, _, f2.c0, f2.c1, f2.c2, f2.c3, f2.c4, f2.c5, (CutX32_spec (FloatKind.nearest .f32 i) lx (by rw [hmod]; exact li) (by rw [hmod]; exact hpe) (by rw [hmod]; exact hex) w2).mono ?_⟩
  rintro v w3 ⟨rfl, S3⟩
  have f3 := f2.keep S3
  have T3 := T2.trans (S3.mono T2.size (by simp))
  refine ⟨_, _, _, rfl, ?_⟩
  rw [hmod, hcut]
  have hsign : ((bAnd .u64 ((FloatKind.nearest .f32 i : Nat) : Int) 2147483648) != (0 : Int)) = decide (i < 0) := by
    have e1 : bAnd .u64 ((FloatKind.nearest .f32 i : Nat) : Int) 2147483648 = ((FloatKind.nearest .f32 i &&& 2147483648 : Nat) : Int) := bAnd64_n _ 2147483648 (by omega) (by decide)
    have e2 : FloatKind.nearest .f32 i &&& 2147483648 = 2147483648 * (FloatKind.nearest .f32 i / 2147483648 % 2) := and_pow _ 31
    have e3 : FloatKind.nearest .f32 i / 2147483648 % 2 = (decide (i < 0)).toNat := by
      rw [wi]; unfold Ieee.Format.word; rw [sw32]
      cases decide (i < 0) <;> simp <;> omega
    rw [e1, e2, e3]
    cases decide (i < 0) <;> decide
  clear hmod hpe hex hcut wi Hi zi pi hpz
  -- behind the pattern
  have next : numlaw_KeptSmall.L7 178 b i j ((FloatKind.nearest .f32 i : Nat) : Int) ((FloatKind.nearest .f32 j : Nat) : Int) (fun (v : Value) (w' : World) => v = .bool true ∧ Same [] w.heap.size w w') w3 := by
    have hyU : U64 ((FloatKind.nearest .f32 j : Nat) : Int) := u64_nat (by omega)
    have d1 : IntKind.wrap .i64 (146 + 1) = 147 := by decide
    have d2 : IntKind.wrap .i64 (146 + 2) = 148 := by decide
    have d3 : IntKind.wrap .i64 (146 + 3) = 149 := by decide
    refine numlaw_KeptSmall.step7 _ _ _ _ _ _ _ _ ?_
    unfold numlaw_KeptSmall.V7
    refine ⟨_, f3.c1, (apL_spec _ _ _ hyU w3).mono ?_⟩
    rintro v w4 ⟨rfl, S4⟩
    have f4 := f3.keep S4
    have T4 := T3.trans (S4.mono T3.size (by simp))
    rw [c1, apf32 146 _ _ lx ly (by decide) (by decide), o1]
    refine ⟨_, rfl, ?_⟩
    refine numlaw_KeptSmall.step8 _ _ _ _ _ _ _ _ _ ?_
    unfold numlaw_KeptSmall.V8
    refine ⟨_, f4.c1, (apL_spec _ _ _ hyU w4).mono ?_⟩
    rintro v w5 ⟨rfl, S5⟩
    have f5 := f4.keep S5
    have T5 := T4.trans (S5.mono T4.size (by simp))
    rw [c1, d1, apf32 147 _ _ lx ly (by decide) (by decide), o2]
    refine ⟨_, rfl, ?_⟩
    refine numlaw_KeptSmall.step9 _ _ _ _ _ _ _ _ _ _ ?_
    unfold numlaw_KeptSmall.V9
    refine ⟨_, f5.c1, (apL_spec _ _ _ hyU w5).mono ?_⟩
    rintro v w6 ⟨rfl, S6⟩
    have f6 := f5.keep S6
    have T6 := T5.trans (S6.mono T5.size (by simp))
    rw [c1, d2, apf32 148 _ _ lx ly (by decide) (by decide), o3]
    refine ⟨_, rfl, ?_⟩
    have wij : IntKind.wrap .i64 (i + j) = i + j := wrap_i64 (by omega) (by omega)
    have wdj : IntKind.wrap .i64 (i - j) = i - j := wrap_i64 (by omega) (by omega)
    have wpj : IntKind.wrap .i64 (i * j) = i * j := by
      generalize i * j = z at *
      exact wrap_i64 (by omega) (by omega)
    refine numlaw_KeptSmall.step10 _ _ _ _ _ _ _ _ _ _ _ ?_
    unfold numlaw_KeptSmall.V10
    rw [wij]
    refine (apL_spec _ _ _ u64_0 w6).mono ?_
    rintro v w7 ⟨rfl, S7⟩
    have f7 := f6.keep S7
    have T7 := T6.trans (S7.mono T6.size (by simp))
    rw [apc (i + j) (by omega) (by omega)]
    refine ⟨_, rfl, ?_⟩
    refine numlaw_KeptSmall.step11 _ _ _ _ _ _ _ _ _ _ _ _ ?_
    unfold numlaw_KeptSmall.V11
    rw [wdj]
    refine (apL_spec _ _ _ u64_0 w7).mono ?_
    rintro v w8 ⟨rfl, S8⟩
    have f8 := f7.keep S8
    have T8 := T7.trans (S8.mono T7.size (by simp))
    rw [apc (i - j) (by omega) (by omega)]
    refine ⟨_, rfl, ?_⟩
    refine numlaw_KeptSmall.step12 _ _ _ _ _ _ _ _ _ _ _ _ _ ?_
    unfold numlaw_KeptSmall.V12
    rw [wpj]
    refine (apL_spec _ _ _ u64_0 w8).mono ?_
    rintro v w9 ⟨rfl, S9⟩
    have f9 := f8.keep S9
    have T9 := T8.trans (S9.mono T8.size (by simp))
    rw [apc (i * j) hpb.1 hpb.2]
    refine ⟨_, rfl, ?_⟩
    refine numlaw_KeptSmall.step13 _ _ _ _ _ _ _ _ _ _ _ _ _ ?_
    unfold numlaw_KeptSmall.V13
    rw [wpj]
    have l15 : ∀ wq : Int, (q : Int) = wq → numlaw_KeptSmall.L15 b j ((FloatKind.nearest .f32 i : Nat) : Int) ((FloatKind.nearest .f32 j : Nat) : Int) ((FloatKind.nearest .f32 (i + j) : Nat) : Int) ((FloatKind.nearest .f32 (i - j) : Nat) : Int) (q : Int) ((FloatKind.nearest .f32 (i + j) : Nat) : Int) ((FloatKind.nearest .f32 (i - j) : Nat) : Int) wq (fun (v : Value) (w' : World) => v = .bool true ∧ Same [] w.heap.size w w') w9 := by
      intro wq hwq
      refine numlaw_KeptSmall.step15 _ _ _ _ _ _ _ _ _ _ _ _ ?_
      unfold numlaw_KeptSmall.V15
      rw [← hwq]
      refine cond_false' (by simp) (cond_false' (by simp) (cond_false' (by simp) ?_))
      refine numlaw_KeptSmall.step16 _ _ _ _ _ _ _ ?_
      unfold numlaw_KeptSmall.V16
      refine cond_intro (fun _ => ⟨rfl, T9⟩) (fun hj0' => ⟨_, f9.c1, (apL_spec _ _ _ hyU w9).mono ?_⟩)
      rintro v w10 ⟨rfl, S10⟩
      refine ⟨_, rfl, ?_, T9.trans (S10.mono T9.size (by simp))⟩
      rw [c1, d3, apf32 149 q _ o4 ly (by decide) (by decide), o7 (beq_eq_false_iff_ne.1 hj0')]
      simp
    have l14 : ∀ (t : Bool) (wq : Int), (t = true → (q : Int) = 2147483648) → (t = false → (q : Int) = wq) → numlaw_KeptSmall.L14 b j ((FloatKind.nearest .f32 i : Nat) : Int) ((FloatKind.nearest .f32 j : Nat) : Int) ((FloatKind.nearest .f32 (i + j) : Nat) : Int) ((FloatKind.nearest .f32 (i - j) : Nat) : Int) (q : Int) ((FloatKind.nearest .f32 (i + j) : Nat) : Int) ((FloatKind.nearest .f32 (i - j) : Nat) : Int) wq t (fun (v : Value) (w' : World) => v = .bool true ∧ Same [] w.heap.size w w') w9 := by
      intro t wq h1 h2
      refine numlaw_KeptSmall.step14 _ _ _ _ _ _ _ _ _ _ _ _ _ ?_
      unfold numlaw_KeptSmall.V14
      cases t with
      | true => exact cond_true' rfl ⟨_, f9.c3, l15 _ (by rw [c3]; exact h1 rfl)⟩
      | false => exact cond_false' rfl (l15 _ (h2 rfl))
    have nz : FloatKind.nearest .f32 0 = 0 := by decide
    refine cond_intro (fun h0 => ?_) (fun h0 => ?_)
    · have hz := eq_of_beq h0
      have hq := o6 hz
      rw [hz, nz]
      refine l14 _ _ (fun ht => ?_) (fun ht => ?_)
      · rw [hq]
        have : (decide (i < 0) ^^ decide (j < 0)) = true := by
          cases h1 : decide (i < 0) <;> cases h2 : decide (j < 0) <;> simp_all
        rw [if_pos this]; rfl
      · rw [hq]
        have : ¬ (decide (i < 0) ^^ decide (j < 0)) = true := by
          cases h1 : decide (i < 0) <;> cases h2 : decide (j < 0) <;> simp_all
        rw [if_neg this]
    · have hz := beq_eq_false_iff_ne.1 h0
      refine l14 false _ (fun h => by cases h) (fun _ => by rw [o5 hz])
  refine numlaw_KeptSmall.step6 _ _ _ _ _ _ _ _ _ _ _ ?_
  unfold numlaw_KeptSmall.V6
  refine cond_false' rfl (cond_false' rfl ⟨_, f3.c3, ?_⟩)
  rw [c3, hsign]
  refine cond_false' (by simp) ?_
  have wn : IntKind.wrap .i64 ((i.natAbs : Nat) : Int) = ((i.natAbs : Nat) : Int) := wrap_i64 (by omega) (by omega)
  have wm : IntKind.wrap .i64 (0 - i) = -i := by rw [wrap_i64 (by omega) (by omega)]; omega
  rw [wn, wm]
  refine cond_intro (fun h => cond_false' ?_ next) (fun _ => next)
  have := bne_iff_ne.1 h
  rw [bne_eq_false_iff_eq]; omega

/-! ### 64 bits -/
theorem fw64 (s : Bool) (v : Nat) (hv : v < 9007199254740992) : ∃ R, Ieee.double.write (.number s v 0) = Ieee.double.word s R ∧ R < 9218868437227405312 ∧ val Ieee.double R = v * 2 ^ 1074 ∧ (v = 0 → R = 0) ∧ (v ≠ 0 → pe64 R ≤ 0 ∧ pm64 R = v * 2 ^ (-(pe64 R)).toNat) := by
  by_cases h0 : v = 0
  · refine ⟨0, ?_, by decide, ?_, fun _ => rfl, fun h => absurd h0 h⟩
    · rw [write_number, if_pos h0]
    · exact val_zmul Ieee.double v 1074 h0
  · obtain ⟨R, q1, q2, q3, q4, q5, q6, q7⟩ := few64 v h0 hv
    exact ⟨R, q1 s, q3, q7, fun h => absurd h h0, fun _ => ⟨q4, q6⟩⟩

theorem near64_word (n : Int) (hn : n.natAbs < 9007199254740992) : ∃ R, FloatKind.nearest .f64 n = Ieee.double.word (decide (n < 0)) R ∧ R < 9218868437227405312 ∧ HI Ieee.double (FloatKind.nearest .f64 n) n ∧ (n = 0 → R = 0) ∧ (n ≠ 0 → pe64 R ≤ 0 ∧ pm64 R = n.natAbs * 2 ^ (-(pe64 R)).toNat) := by
  obtain ⟨R, q1, q2, q3, q4, q5⟩ := fw64 (decide (n < 0)) n.natAbs hn
  have e : FloatKind.nearest .f64 n = Ieee.double.word (decide (n < 0)) R := q1
  refine ⟨R, e, q2, ?_, fun h => q4 (by omega), fun h => q5 (by omega)⟩
  obtain ⟨m, i, r1, r2, r3⟩ := read_val Ieee.double (Ieee.double.word (decide (n < 0)) R) (by rw [rung_word _ _ _ (by rw [sw64]; omega), ir64]; exact q2)
  rw [rung_word _ _ _ (by rw [sw64]; omega), q3] at r3
  rw [sgb_word _ _ _ (by rw [sw64]; omega)] at r1
  rw [e]
  refine ⟨m, i, r1, r2, ?_⟩
  rw [r3]
  congr 2

theorem cnnear64 (s : Bool) (v : Nat) (hv : v < 9007199254740992) : ar64 (some (Ieee.double.write (.number s v 0))) = Ieee.double.write (.number s v 0) := by
  obtain ⟨R, q1, q2, _⟩ := fw64 s v hv
  rw [q1]; exact cnword64 s R (by omega)

theorem small_ops64 (i j : Int) (hi : -2048 ≤ i ∧ i ≤ 2047) (hj : -2048 ≤ j ∧ j ≤ 2047) :
    fl64 160 ((FloatKind.nearest .f64 i : Nat) : Int) ((FloatKind.nearest .f64 j : Nat) : Int) = ((FloatKind.nearest .f64 (i + j) : Nat) : Int) ∧
    fl64 161 ((FloatKind.nearest .f64 i : Nat) : Int) ((FloatKind.nearest .f64 j : Nat) : Int) = ((FloatKind.nearest .f64 (i - j) : Nat) : Int) ∧
    ∃ q : Nat, fl64 162 ((FloatKind.nearest .f64 i : Nat) : Int) ((FloatKind.nearest .f64 j : Nat) : Int) = (q : Int) ∧ q < 18446744073709551616 ∧
      (i * j ≠ 0 → q = FloatKind.nearest .f64 (i * j)) ∧ (i * j = 0 → q = if (decide (i < 0) ^^ decide (j < 0)) = true then 9223372036854775808 else 0) ∧
      (j ≠ 0 → fl64 163 (q : Int) ((FloatKind.nearest .f64 j : Nat) : Int) = ((FloatKind.nearest .f64 i : Nat) : Int)) := by
  have hlp : Ieee.double.leastPlace ≤ 0 := by decide
  have hpb : (i * j).natAbs ≤ 4194304 := by rw [Int.natAbs_mul]; exact Nat.mul_le_mul (show i.natAbs ≤ 2048 by omega) (show j.natAbs ≤ 2048 by omega)
  obtain ⟨Ri, wi, li, Hi, zi, _⟩ := near64_word i (by omega)
  obtain ⟨Rj, wj, lj, Hj, zj, _⟩ := near64_word j (by omega)
  refine ⟨?_, ?_, Ieee.double.write (.number (decide (i < 0) ^^ decide (j < 0)) (i * j).natAbs 0), ?_, ?_, ?_, ?_, ?_⟩
  · show ((ar64 (Ieee.double.add (FloatKind.nearest .f64 i) (FloatKind.nearest .f64 j)) : Nat) : Int) = _
    rw [hi_add Ieee.double hlp _ _ i j Hi Hj, cnnear64 _ _ (by omega)]; rfl
  · show ((ar64 (Ieee.double.sub (FloatKind.nearest .f64 i) (FloatKind.nearest .f64 j)) : Nat) : Int) = _
    rw [hi_sub Ieee.double hlp _ _ i j Hi Hj, cnnear64 _ _ (by omega)]; rfl
  · show ((ar64 (Ieee.double.mul (FloatKind.nearest .f64 i) (FloatKind.nearest .f64 j)) : Nat) : Int) = _
    rw [hi_mul Ieee.double hlp _ _ i j Hi Hj, cnnear64 _ _ (by omega)]
  · obtain ⟨R, q1, q2, _⟩ := fw64 (decide (i < 0) ^^ decide (j < 0)) (i * j).natAbs (by omega)
    rw [q1]; exact word64_lt _ _ (by omega)
  · intro h
    have hsg : (decide (i < 0) ^^ decide (j < 0)) = decide (i * j < 0) := by
      have hi0 : i ≠ 0 := fun h' => h (by rw [h', Int.zero_mul])
      have hj0 : j ≠ 0 := fun h' => h (by rw [h', Int.mul_zero])
      by_cases h1 : i < 0 <;> by_cases h2 : j < 0
      · rw [decide_eq_true h1, decide_eq_true h2, decide_eq_false (show ¬ i * j < 0 by have := Int.mul_pos_of_neg_of_neg h1 h2; omega)]; rfl
      · rw [decide_eq_true h1, decide_eq_false h2, decide_eq_true (Int.mul_neg_of_neg_of_pos h1 (by omega))]; rfl
      · rw [decide_eq_false h1, decide_eq_true h2, decide_eq_true (Int.mul_neg_of_pos_of_neg (by omega) h2)]; rfl
      · rw [decide_eq_false h1, decide_eq_false h2, decide_eq_false (show ¬ i * j < 0 by have := Int.mul_pos (show 0 < i by omega) (show 0 < j by omega); omega)]; rfl
    rw [hsg]; rfl
  · intro h
    rw [h, write_number, if_pos (by decide), zero_or64]
  · intro hj0
    have hyz : (Ieee.double.order (FloatKind.nearest .f64 j) 0 == some .eq) = false := by
      obtain ⟨q, b, g1, g2, g3⟩ := Hj
      have hH : Hold Ieee.double (FloatKind.nearest .f64 j) (j * 2 ^ (-Ieee.double.leastPlace).toNat) := ⟨_, q, b, g1, g2, by rw [signed_as _ _ _ _ g3, abs_signed]⟩
      have h0 : Hold Ieee.double 0 (0 * 2 ^ (-Ieee.double.leastPlace).toNat) := ⟨false, 0, Ieee.double.leastPlace, by decide, Int.le_refl _, by rw [Int.zero_mul]; unfold Ieee.signed; simp⟩
      rw [hH.orderI h0, beq_eq]
      exact decide_eq_false hj0
    have e : ∀ x y : Nat, fl64 163 (x : Int) (y : Int) = cond (Ieee.double.order y 0 == some .eq) (cond (Ieee.double.order x x != some .eq) 9221120237041090560 (cond (Ieee.double.order x 0 == some .eq) 9221120237041090560 (bOr .u64 9218868437227405312 (bAnd .u64 (bXor .u64 x y) 9223372036854775808)))) ((ar64 (Ieee.double.div x y) : Nat) : Int) := fun x y => rfl
    rw [e, hyz, cond_false]
    obtain ⟨q, b, g1, g2, g3⟩ := Hj
    obtain ⟨R, q1, q2, q3, q4, q5⟩ := fw64 (decide (i < 0) ^^ decide (j < 0)) (i * j).natAbs (by omega)
    unfold Ieee.Format.div
    rw [q1, g1]
    obtain ⟨mq, aq, r1, r2, r3⟩ := read_val Ieee.double (Ieee.double.word (decide (i < 0) ^^ decide (j < 0)) R) (by rw [rung_word _ _ _ (by rw [sw64]; omega), ir64]; exact q2)
    rw [rung_word _ _ _ (by rw [sw64]; omega), q3] at r3
    rw [sgb_word _ _ _ (by rw [sw64]; omega)] at r1
    rw [r1]
    have hK : (-Ieee.double.leastPlace).toNat = 1074 := by decide
    by_cases hi0 : i = 0
    · subst hi0
      have hmq : mq = 0 := by
        have r4 : mq * 2 ^ (aq - Ieee.double.leastPlace).toNat = 0 := zero_of _ _ _ r3 (by rw [Int.zero_mul]; rfl)
        clear r3
        rcases Nat.eq_zero_or_pos mq with h | h
        · exact h
        · have := Nat.mul_pos h (Nat.two_pow_pos (aq - Ieee.double.leastPlace).toNat); omega
      have hq0 : q ≠ 0 := by
        intro h; rw [h, Nat.zero_mul, hK] at g3
        obtain ⟨Q, hQ⟩ : ∃ Q : Nat, Q = 1074 := ⟨_, rfl⟩
        rw [← hQ] at g3
        have := Nat.mul_pos (show 0 < j.natAbs by omega) (Nat.two_pow_pos Q); omega
      subst hmq
      simp only [Ieee.Datum.quotient, if_neg hq0, Option.map_some, Nat.shiftLeft_eq, Nat.zero_mul, Nat.zero_div, Nat.zero_mod]
      have hw : ∀ (s : Bool) (pl : Int), Ieee.double.write (.number s (2 * 0 + ((0 : Nat) != 0).toNat) pl) = Ieee.double.word s 0 := fun s pl => by
        show Ieee.double.write (.number s 0 pl) = _
        rw [write_number, if_pos rfl]
      rw [hw]
      have hs : ((decide ((0 : Int) < 0) ^^ decide (j < 0)) ^^ decide (j < 0)) = false := by cases decide (j < 0) <;> rfl
      rw [hs]
      show ((cn64 (Ieee.double.word false 0) : Nat) : Int) = _
      rw [cnword64 false 0 (by omega), wi, zi rfl]; rfl
    · obtain ⟨hmb, _⟩ := (show mq < 9007199254740992 ∧ True from by
        have := (read_norm Ieee.double _ _ _ _ r1).1
        rw [dbin] at this
        exact ⟨by omega, trivial⟩)
      have hlm := log2_lt mq 52 (by omega)
      have hlij := log2_lt (i * j).natAbs 22 (by omega)
      rw [hi_div Ieee.double hlp (Ieee.double.fractionBits + 2) (decide (i < 0) ^^ decide (j < 0)) (decide (j < 0)) i j mq q aq b hi0 hj0 r2 g2 (by rw [r3, hK]) g3 (by rw [dfrac]; omega) (by rw [dfrac]; omega)]
      have hs : ((decide (i < 0) ^^ decide (j < 0)) ^^ decide (j < 0)) = decide (i < 0) := by cases decide (i < 0) <;> cases decide (j < 0) <;> rfl
      rw [hs, cnnear64 _ _ (by omega)]; rfl

theorem KeptSmall64_spec (x y : Nat) (hx : x < 18446744073709551616) (hy : y < 18446744073709551616) (w : World) : Runs Try.prog numlaw_KeptSmall.id #[fmt64.val, .int .i64 53, .int .i64 183, .int .u64 x, .int .u64 y] w fun v w' => v = .bool true ∧ Same [] w.heap.size w w' := by
  refine numlaw_KeptSmall.enter 153 160 97 9223372036854775808 9218868437227405312 9221120237041090560 53 183 x y _ _ ?_
  unfold numlaw_KeptSmall.V
  refine letB_intro fun b hb => letW_intro fun w0 hw0 => ?_
  have f0 : FmtAt w0 b fmt64 := by rw [hw0, hb]; exact FmtAt.new w fmt64 T_numlaw_Fmt
  have T0 : Same [] w.heap.size w w0 := by rw [hw0]; exact (Same.refl _ _ _).alloc (Nat.le_refl _) _
  clear hw0 hb
  have c1 : fmt64.bin = 160 := rfl
  have c3 : fmt64.sign = 9223372036854775808 := rfl
  have low : ∀ z : Nat, z < 18446744073709551616 → ∃ i : Int, IntKind.wrap .i64 ((IntKind.wrap .i64 (bAnd .u64 (z : Int) 4095)) - 2048) = i ∧ -2048 ≤ i ∧ i ≤ 2047 := by
    intro z hz
    have e : bAnd .u64 (z : Int) 4095 = ((z &&& 4095 : Nat) : Int) := bAnd64_n z 4095 (by omega) (by decide)
    have e2 : z &&& 4095 = z % 2 ^ 12 := Nat.and_two_pow_sub_one_eq_mod z 12
    rw [e, e2]
    have e3 : IntKind.wrap .i64 ((z % 2 ^ 12 : Nat) : Int) = ((z % 2 ^ 12 : Nat) : Int) := wrap_i64 (by omega) (by omega)
    rw [e3]
    refine ⟨_, rfl, ?_⟩
    rw [wrap_i64 (by omega) (by omega)]; omega
  obtain ⟨i, hi, hi0, hi1⟩ := low x hx
  obtain ⟨j, hj, hj0, hj1⟩ := low y hy
  have apc : ∀ n : Int, -4194304 ≤ n → n ≤ 4194304 → (ap 183 (IntKind.wrap .u64 (IntKind.wrap .u32 n)) 0).1 = ((FloatKind.nearest .f64 n : Nat) : Int) := by
    intro n h0 h1
    have e1 : IntKind.wrap .u64 (IntKind.wrap .u32 n) = n % 4294967296 := by rw [wrap_u32_mod, wrap_u64 (by omega) (by omega)]
    rw [e1]
    exact ap170_back n (by omega) (by omega)
  have hpb : -4194304 ≤ i * j ∧ i * j ≤ 4194304 := by
    have : (i * j).natAbs ≤ 4194304 := by rw [Int.natAbs_mul]; exact Nat.mul_le_mul (show i.natAbs ≤ 2048 by omega) (show j.natAbs ≤ 2048 by omega)
    omega
  obtain ⟨o1, o2, q, o3, o4, o5, o6, o7⟩ := small_ops64 i j ⟨hi0, hi1⟩ ⟨hj0, hj1⟩
  obtain ⟨R, wi, li, Hi, zi, pi⟩ := near64_word i (by omega)
  have lx := near_lt64 i
  have ly := near_lt64 j
  refine numlaw_KeptSmall.step1 _ _ _ _ _ _ _ ?_
  unfold numlaw_KeptSmall.V1
  rw [hi]
  refine numlaw_KeptSmall.step2 _ _ _ _ _ _ _ ?_
  unfold numlaw_KeptSmall.V2
  rw [hj]
  clear hi hj low
  refine numlaw_KeptSmall.step3 _ _ _ _ _ _ _ ?_
  unfold numlaw_KeptSmall.V3
  refine (apL_spec _ _ _ u64_0 w0).mono ?_
  rintro v w1 ⟨rfl, S1⟩
  have f1 := f0.keep S1
  have T1 := T0.trans (S1.mono T0.size (by simp))
  rw [apc i (by omega) (by omega)]
  refine ⟨_, rfl, ?_⟩
  refine numlaw_KeptSmall.step4 _ _ _ _ _ _ _ _ ?_
  unfold numlaw_KeptSmall.V4
  refine (apL_spec _ _ _ u64_0 w1).mono ?_
  rintro v w2 ⟨rfl, S2⟩
  have f2 := f1.keep S2
  have T2 := T1.trans (S2.mono T1.size (by simp))
  rw [apc j (by omega) (by omega)]
  refine ⟨_, rfl, ?_⟩
  refine numlaw_KeptSmall.step5 _ _ _ _ _ _ _ _ _ ?_
  unfold numlaw_KeptSmall.V5
  have hmod : FloatKind.nearest .f64 i % 9223372036854775808 = R := by
    rw [wi]
    have := rung_word Ieee.double (decide (i < 0)) R (by rw [sw64]; omega)
    rw [rung64] at this; exact this
  have hpz : pm64 0 = 0 ∧ pe64 0 = -1074 := ⟨rfl, rfl⟩
  have hpe : pe64 R ≤ 11 := by
    by_cases h0 : i = 0
    · rw [zi h0, hpz.2]; decide
    · have := (pi h0).1; omega
  have hex : pm64 R % 2 ^ (-(pe64 R)).toNat = 0 := by
    by_cases h0 : i = 0
    · rw [zi h0, hpz.1, Nat.zero_mod]
    · rw [(pi h0).2]; exact Nat.mul_mod_left _ _
  have hcut : cutN64 R = i.natAbs := by
    unfold cutN64
    by_cases h0 : i = 0
    · rw [zi h0, hpz.1, h0, Nat.zero_mul, Nat.zero_div]; rfl
    · obtain ⟨p1, p2⟩ := pi h0
      have z1 : (pe64 R).toNat = 0 := by omega
      rw [z1, Nat.pow_zero, Nat.mul_one, p2, Nat.mul_div_cancel _ (Nat.two_pow_pos _)]
  refine ⟨_, _, _, _, _, _, f2.c0, f2.c1, f2.c2, f2.c3, f2.c4, f2.c5, (CutX64_spec (FloatKind.nearest .f64 i) lx (by rw [hmod]; exact li) (by rw [hmod]; exact hpe) (by rw [hmod]; exact hex) w2).mono ?_⟩
  rintro v w3 ⟨rfl, S3⟩
  have f3 := f2.keep S3
  have T3 := T2.trans (S3.mono T2.size (by simp))
  refine ⟨_, _, _, rfl, ?_⟩
  rw [hmod, hcut]
  have hsign : ((bAnd .u64 ((FloatKind.nearest .f64 i : Nat) : Int) 9223372036854775808) != (0 : Int)) = decide (i < 0) := by
    have e1 : bAnd .u64 ((FloatKind.nearest .f64 i : Nat) : Int) 9223372036854775808 = ((FloatKind.nearest .f64 i &&& 9223372036854775808 : Nat) : Int) := bAnd64_n _ 9223372036854775808 (by omega) (by decide)
    have e2 : FloatKind.nearest .f64 i &&& 9223372036854775808 = 9223372036854775808 * (FloatKind.nearest .f64 i / 9223372036854775808 % 2) := and_pow _ 63
    have e3 : FloatKind.nearest .f64 i / 9223372036854775808 % 2 = (decide (i < 0)).toNat := by
      rw [wi]; unfold Ieee.Format.word; rw [sw64]
      cases decide (i < 0) <;> simp <;> omega
    rw [e1, e2, e3]
    cases decide (i < 0) <;> decide
  clear hmod hpe hex hcut wi Hi zi pi hpz
  -- behind the pattern
  have next : numlaw_KeptSmall.L7 183 b i j ((FloatKind.nearest .f64 i : Nat) : Int) ((FloatKind.nearest .f64 j : Nat) : Int) (fun (v : Value) (w' : World) => v = .bool true ∧ Same [] w.heap.size w w') w3 := by
    have hyU : U64 ((FloatKind.nearest .f64 j : Nat) : Int) := u64_nat (by omega)
    have d1 : IntKind.wrap .i64 (160 + 1) = 161 := by decide
    have d2 : IntKind.wrap .i64 (160 + 2) = 162 := by decide
    have d3 : IntKind.wrap .i64 (160 + 3) = 163 := by decide
    refine numlaw_KeptSmall.step7 _ _ _ _ _ _ _ _ ?_
    unfold numlaw_KeptSmall.V7
    refine ⟨_, f3.c1, (apL_spec _ _ _ hyU w3).mono ?_⟩
    rintro v w4 ⟨rfl, S4⟩
    have f4 := f3.keep S4
    have T4 := T3.trans (S4.mono T3.size (by simp))
    rw [c1, apf64 160 _ _ lx ly (by decide) (by decide), o1]
    refine ⟨_, rfl, ?_⟩
    refine numlaw_KeptSmall.step8 _ _ _ _ _ _ _ _ _ ?_
    unfold numlaw_KeptSmall.V8
    refine ⟨_, f4.c1, (apL_spec _ _ _ hyU w4).mono ?_⟩
    rintro v w5 ⟨rfl, S5⟩
    have f5 := f4.keep S5
    have T5 := T4.trans (S5.mono T4.size (by simp))
    rw [c1, d1, apf64 161 _ _ lx ly (by decide) (by decide), o2]
    refine ⟨_, rfl, ?_⟩
    refine numlaw_KeptSmall.step9 _ _ _ _ _ _ _ _ _ _ ?_
    unfold numlaw_KeptSmall.V9
    refine ⟨_, f5.c1, (apL_spec _ _ _ hyU w5).mono ?_⟩
    rintro v w6 ⟨rfl, S6⟩
    have f6 := f5.keep S6
    have T6 := T5.trans (S6.mono T5.size (by simp))
    rw [c1, d2, apf64 162 _ _ lx ly (by decide) (by decide), o3]
    refine ⟨_, rfl, ?_⟩
    have wij : IntKind.wrap .i64 (i + j) = i + j := wrap_i64 (by omega) (by omega)
    have wdj : IntKind.wrap .i64 (i - j) = i - j := wrap_i64 (by omega) (by omega)
    have wpj : IntKind.wrap .i64 (i * j) = i * j := by
      generalize i * j = z at *
      exact wrap_i64 (by omega) (by omega)
    refine numlaw_KeptSmall.step10 _ _ _ _ _ _ _ _ _ _ _ ?_
    unfold numlaw_KeptSmall.V10
    rw [wij]
    refine (apL_spec _ _ _ u64_0 w6).mono ?_
    rintro v w7 ⟨rfl, S7⟩
    have f7 := f6.keep S7
    have T7 := T6.trans (S7.mono T6.size (by simp))
    rw [apc (i + j) (by omega) (by omega)]
    refine ⟨_, rfl, ?_⟩
    refine numlaw_KeptSmall.step11 _ _ _ _ _ _ _ _ _ _ _ _ ?_
    unfold numlaw_KeptSmall.V11
    rw [wdj]
    refine (apL_spec _ _ _ u64_0 w7).mono ?_
    rintro v w8 ⟨rfl, S8⟩
    have f8 := f7.keep S8
    have T8 := T7.trans (S8.mono T7.size (by simp))
    rw [apc (i - j) (by omega) (by omega)]
    refine ⟨_, rfl, ?_⟩
    refine numlaw_KeptSmall.step12 _ _ _ _ _ _ _ _ _ _ _ _ _ ?_
    unfold numlaw_KeptSmall.V12
    rw [wpj]
    refine (apL_spec _ _ _ u64_0 w8).mono ?_
    rintro v w9 ⟨rfl, S9⟩
    have f9 := f8.keep S9
    have T9 := T8.trans (S9.mono T8.size (by simp))
    rw [apc (i * j) hpb.1 hpb.2]
    refine ⟨_, rfl, ?_⟩
    refine numlaw_KeptSmall.step13 _ _ _ _ _ _ _ _ _ _ _ _ _ ?_
    unfold numlaw_KeptSmall.V13
    rw [wpj]
    have l15 : ∀ wq : Int, (q : Int) = wq → numlaw_KeptSmall.L15 b j ((FloatKind.nearest .f64 i : Nat) : Int) ((FloatKind.nearest .f64 j : Nat) : Int) ((FloatKind.nearest .f64 (i + j) : Nat) : Int) ((FloatKind.nearest .f64 (i - j) : Nat) : Int) (q : Int) ((FloatKind.nearest .f64 (i + j) : Nat) : Int) ((FloatKind.nearest .f64 (i - j) : Nat) : Int) wq (fun (v : Value) (w' : World) => v = .bool true ∧ Same [] w.heap.size w w') w9 := by
      intro wq hwq
      refine numlaw_KeptSmall.step15 _ _ _ _ _ _ _ _ _ _ _ _ ?_
      unfold numlaw_KeptSmall.V15
      rw [← hwq]
      refine cond_false' (by simp) (cond_false' (by simp) (cond_false' (by simp) ?_))
      refine numlaw_KeptSmall.step16 _ _ _ _ _ _ _ ?_
      unfold numlaw_KeptSmall.V16
      refine cond_intro (fun _ => ⟨rfl, T9⟩) (fun hj0' => ⟨_, f9.c1, (apL_spec _ _ _ hyU w9).mono ?_⟩)
      rintro v w10 ⟨rfl, S10⟩
      refine ⟨_, rfl, ?_, T9.trans (S10.mono T9.size (by simp))⟩
      rw [c1, d3, apf64 163 q _ o4 ly (by decide) (by decide), o7 (beq_eq_false_iff_ne.1 hj0')]
      simp
    have l14 : ∀ (t : Bool) (wq : Int), (t = true → (q : Int) = 9223372036854775808) → (t = false → (q : Int) = wq) → numlaw_KeptSmall.L14 b j ((FloatKind.nearest .f64 i : Nat) : Int) ((FloatKind.nearest .f64 j : Nat) : Int) ((FloatKind.nearest .f64 (i + j) : Nat) : Int) ((FloatKind.nearest .f64 (i - j) : Nat) : Int) (q : Int) ((FloatKind.nearest .f64 (i + j) : Nat) : Int) ((FloatKind.nearest .f64 (i - j) : Nat) : Int) wq t (fun (v : Value) (w' : World) => v = .bool true ∧ Same [] w.heap.size w w') w9 := by
      intro t wq h1 h2
      refine numlaw_KeptSmall.step14 _ _ _ _ _ _ _ _ _ _ _ _ _ ?_
      unfold numlaw_KeptSmall.V14
      cases t with
      | true => exact cond_true' rfl ⟨_, f9.c3, l15 _ (by rw [c3]; exact h1 rfl)⟩
      | false => exact cond_false' rfl (l15 _ (h2 rfl))
    have nz : FloatKind.nearest .f64 0 = 0 := by decide
    refine cond_intro (fun h0 => ?_) (fun h0 => ?_)
    · have hz := eq_of_beq h0
      have hq := o6 hz
      rw [hz, nz]
      refine l14 _ _ (fun ht => ?_) (fun ht => ?_)
      · rw [hq]
        have : (decide (i < 0) ^^ decide (j < 0)) = true := by
          cases h1 : decide (i < 0) <;> cases h2 : decide (j < 0) <;> simp_all
        rw [if_pos this]; rfl
      · rw [hq]
        have : ¬ (decide (i < 0) ^^ decide (j < 0)) = true := by
          cases h1 : decide (i < 0) <;> cases h2 : decide (j < 0) <;> simp_all
        rw [if_neg this]
    · have hz := beq_eq_false_iff_ne.1 h0
      refine l14 false _ (fun h => by cases h) (fun _ => by rw [o5 hz])
  refine numlaw_KeptSmall.step6 _ _ _ _ _ _ _ _ _ _ _ ?_
  unfold numlaw_KeptSmall.V6
  refine cond_false' rfl (cond_false' rfl ⟨_, f3.c3, ?_⟩)
  rw [c3, hsign]
  refine cond_false' (by simp) ?_
  have wn : IntKind.wrap .i64 ((i.natAbs : Nat) : Int) = ((i.natAbs : Nat) : Int) := wrap_i64 (by omega) (by omega)
  have wm : IntKind.wrap .i64 (0 - i) = -i := by rw [wrap_i64 (by omega) (by omega)]; omega
  rw [wn, wm]
  refine cond_intro (fun h => cond_false' ?_ next) (fun _ => next)
  have := bne_iff_ne.1 h
  rw [bne_eq_false_iff_eq]; omega

end Go.Proofs.Qxb6500320a
