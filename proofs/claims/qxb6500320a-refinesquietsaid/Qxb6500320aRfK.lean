/-
  The model's operators on two floats answer as the layer's.
-/
import Derived.Test.Qxb6500320aRfJ
set_option linter.unusedSimpArgs false
set_option linter.unusedVariables false
set_option maxRecDepth 100000
namespace Go.Proofs.Qxb6500320a
open Go Go.Vc

/-! ### 32 bits -/
theorem fbin32 (op : Int) (h0 : 146 ≤ op) (h1 : op ≤ 152) (a b : Nat) (ha : a < 4294967296) (hb : b < 4294967296) : ((binF Ieee.single (op - 146) a b : Nat) : Int) = fl32 op a b := by
  have hsw : Ieee.single.signWeight = 2147483648 := by decide
  have hir : Ieee.single.infRung = 2139095040 := by decide
  have hn : nanOf Ieee.single = 2143289344 := by decide
  have hra : rung Ieee.single a = a % 2147483648 := rung32 a
  have hrb : rung Ieee.single b = b % 2147483648 := rung32 b
  have hsa := sgb32 a ha
  have hsb := sgb32 b hb
  have nanA : Ieee.single.infRung < rung Ieee.single a → (Ieee.single.read a).isNaN = true := by
    intro h; rw [nan32, decide_eq_true]; rw [hir, hra] at h; exact h
  have nanB : Ieee.single.infRung < rung Ieee.single b → (Ieee.single.read b).isNaN = true := by
    intro h; rw [nan32, decide_eq_true]; rw [hir, hrb] at h; exact h
  have none2 : ∀ (g : Ieee.Datum → Ieee.Datum → Option Ieee.Datum), (∀ s t e, g (.nan s t) e = none) → (∀ s t d, g d (.nan s t) = none) → (Ieee.single.infRung < rung Ieee.single a ∨ Ieee.single.infRung < rung Ieee.single b) → (g (Ieee.single.read a) (Ieee.single.read b)) = none := by
    intro g g1 g2 h
    rcases h with h | h
    · have := nanA h
      cases hd : Ieee.single.read a with
      | nan s t => exact g1 s t _
      | infinity s => rw [hd] at this; cases this
      | number s m i => rw [hd] at this; cases this
    · have := nanB h
      cases hd : Ieee.single.read b with
      | nan s t => exact g2 s t _
      | infinity s => rw [hd] at this; cases this
      | number s m i => rw [hd] at this; cases this
  have ar : ∀ (g : Ieee.Datum → Ieee.Datum → Option Ieee.Datum), (∀ s t e, g (.nan s t) e = none) → (∀ s t d, g d (.nan s t) = none) → (∀ d e r, g d e = some r → r.isNaN = false) →
      (if Ieee.single.infRung < rung Ieee.single a ∨ Ieee.single.infRung < rung Ieee.single b then nanOf Ieee.single else ((g (Ieee.single.read a) (Ieee.single.read b)).map Ieee.single.write).getD (nanOf Ieee.single)) = ar32 ((g (Ieee.single.read a) (Ieee.single.read b)).map Ieee.single.write) := by
    intro g g1 g2 g3
    rw [ar32_map _ (fun r hr => g3 _ _ r hr), hn]
    by_cases h : Ieee.single.infRung < rung Ieee.single a ∨ Ieee.single.infRung < rung Ieee.single b
    · rw [if_pos h, none2 g g1 g2 h]; rfl
    · rw [if_neg h]
  have hop : op = 146 ∨ op = 147 ∨ op = 148 ∨ op = 149 ∨ op = 150 ∨ op = 151 ∨ op = 152 := by omega
  rcases hop with rfl | rfl | rfl | rfl | rfl | rfl | rfl
  · have := ar Ieee.Datum.sum (fun s t e => by cases e <;> rfl) (fun s t d => by cases d <;> rfl) sum_nn
    show ((_ : Nat) : Int) = ((ar32 (floatBits .add .f32 (a : Int).toNat (b : Int).toNat) : Nat) : Int)
    rw [Int.toNat_natCast, Int.toNat_natCast]
    exact congrArg (fun z : Nat => (z : Int)) this
  · have := ar (fun d e => d.sum e.opposite) (fun s t e => by cases e <;> rfl) (fun s t d => by cases d <;> rfl) (fun d e r h => sum_nn d _ r h)
    show ((_ : Nat) : Int) = ((ar32 (floatBits .sub .f32 (a : Int).toNat (b : Int).toNat) : Nat) : Int)
    rw [Int.toNat_natCast, Int.toNat_natCast]
    exact congrArg (fun z : Nat => (z : Int)) this
  · have := ar Ieee.Datum.product (fun s t e => by cases e <;> rfl) (fun s t d => by cases d <;> rfl) product_nn
    show ((_ : Nat) : Int) = ((ar32 (floatBits .mul .f32 (a : Int).toNat (b : Int).toNat) : Nat) : Int)
    rw [Int.toNat_natCast, Int.toNat_natCast]
    exact congrArg (fun z : Nat => (z : Int)) this
  · have := ar (Ieee.Datum.quotient (Ieee.single.fractionBits + 2)) (fun s t e => by cases e <;> rfl) (fun s t d => by cases d <;> rfl) (quotient_nn _)
    show ((_ : Nat) : Int) = cond (Ieee.single.order (b : Int).toNat 0 == some .eq) (cond (Ieee.single.order (a : Int).toNat (a : Int).toNat != some .eq) 2143289344 (cond (Ieee.single.order (a : Int).toNat 0 == some .eq) 2143289344 (bOr .u32 2139095040 (bAnd .u32 (bXor .u32 (a : Int) (b : Int)) 2147483648)))) ((ar32 (floatBits .quo .f32 (a : Int).toNat (b : Int).toNat) : Nat) : Int)
    rw [Int.toNat_natCast, Int.toNat_natCast]
    have hq : ((binF Ieee.single 3 a b : Nat) : Int) = ((ar32 (floatBits .quo .f32 a b) : Nat) : Int) := congrArg (fun z : Nat => (z : Int)) this
    have r0 : rung Ieee.single 0 = 0 := by decide
    have k0 : key Ieee.single 0 = 0 := by decide
    have hz : ∀ v : Nat, v < 4294967296 → (Ieee.single.order v 0 == some .eq) = decide (rung Ieee.single v = 0) := by
      intro v hv
      by_cases hnv : Ieee.single.infRung < rung Ieee.single v
      · rw [order_nan Ieee.single single_bi v 0 (.inl hnv)]
        rw [decide_eq_false (by omega)]; rfl
      · rw [order_key Ieee.single single_bi v 0 (by omega) (by rw [r0]; omega), k0]
        unfold key
        by_cases h0 : rung Ieee.single v = 0
        · rw [decide_eq_true h0, h0]
          cases sgb Ieee.single v <;> rfl
        · rw [decide_eq_false h0]
          cases sgb Ieee.single v
          · simp only [Bool.false_eq_true, if_false]
            rw [Int.compare_eq_gt.2 (by omega)]; rfl
          · simp only [if_true]
            rw [Int.compare_eq_lt.2 (by omega)]; rfl
    rw [hz b hb, hz a ha, order_self, nan32]
    by_cases hb0 : rung Ieee.single b = 0
    · rw [decide_eq_true hb0, cond_true]
      have hib : rung Ieee.single b < Ieee.single.infRung := by omega
      have hrdb : Ieee.single.read b = .number (sgb Ieee.single b) 0 Ieee.single.leastPlace := by
        exact read_zero Ieee.single b hb0
      by_cases hna : 2139095040 < a % 2147483648
      · rw [decide_eq_true hna, cond_true]
        unfold binF
        rw [if_neg (by decide), if_pos (.inl (by rw [hir, hra]; exact hna)), hn]; rfl
      · rw [decide_eq_false hna, cond_false]
        have hnn : ¬ (Ieee.single.infRung < rung Ieee.single a ∨ Ieee.single.infRung < rung Ieee.single b) := by rw [hir, hra, hb0]; omega
        have hbf : binF Ieee.single 3 a b = (Ieee.single.div a b).getD (nanOf Ieee.single) := by
          unfold binF
          rw [if_neg (by decide), if_neg hnn, if_neg (by decide), if_neg (by decide), if_neg (by decide), if_pos rfl]
        show ((binF Ieee.single 3 a b : Nat) : Int) = _
        rw [hbf, hn]
        have hdv : Ieee.single.div a b = ((Ieee.single.read a).quotient (Ieee.single.fractionBits + 2) (Ieee.single.read b)).map Ieee.single.write := rfl
        rw [hdv, hrdb]
        have hsg : bOr .u32 2139095040 (bAnd .u32 (bXor .u32 (a : Int) (b : Int)) 2147483648) = ((Ieee.single.word (sgb Ieee.single a ^^ sgb Ieee.single b) Ieee.single.infRung : Nat) : Int) := by
          rw [bXor32_n a b ha hb]
          have hxl : a ^^^ b < 4294967296 := Nat.xor_lt_two_pow (n := 32) ha hb
          have e1 : bAnd .u32 ((a ^^^ b : Nat) : Int) 2147483648 = (((a ^^^ b) &&& 2147483648 : Nat) : Int) := bAnd32_n _ 2147483648 hxl (by decide)
          have e2 : (a ^^^ b) &&& 2147483648 = 2147483648 * ((a ^^^ b) / 2147483648 % 2) := by
            have := and_split (a ^^^ b) (2 ^ 31) 31
            rw [Nat.mod_self, Nat.and_zero, Nat.div_self (Nat.two_pow_pos 31), Nat.and_one_is_mod, Nat.zero_add] at this
            exact this
          have e3 : (a ^^^ b) / 2147483648 = a / 2147483648 ^^^ b / 2147483648 := Nat.xor_div_two_pow (n := 31)
          rw [e1, e2, e3, hir, hsa, hsb]
          have qa : a / 2147483648 = 0 ∧ ¬ 2147483648 ≤ a ∨ a / 2147483648 = 1 ∧ 2147483648 ≤ a := by omega
          have qb : b / 2147483648 = 0 ∧ ¬ 2147483648 ≤ b ∨ b / 2147483648 = 1 ∧ 2147483648 ≤ b := by omega
          rcases qa with ⟨q1, q2⟩ | ⟨q1, q2⟩ <;> rcases qb with ⟨q3, q4⟩ | ⟨q3, q4⟩ <;> rw [q1, q3]
          · rw [decide_eq_false q2, decide_eq_false q4]; decide +kernel
          · rw [decide_eq_false q2, decide_eq_true q4]; decide +kernel
          · rw [decide_eq_true q2, decide_eq_false q4]; decide +kernel
          · rw [decide_eq_true q2, decide_eq_true q4]; decide +kernel
        cases hda : Ieee.single.read a with
        | nan s t => exact absurd hda (fm32.notNaN a (by rw [hir, hra]; omega) s t)
        | infinity s =>
          obtain ⟨hs, hrr⟩ := fm32.read_sg a s hda
          rw [decide_eq_false (by omega), cond_false, hsg, hs]; rfl
        | number s m i =>
          obtain ⟨hs, -, -, -⟩ := fm32.un_read a s m i hda
          by_cases ha0 : rung Ieee.single a = 0
          · rw [decide_eq_true ha0, cond_true]
            have hm : m = 0 := by
              have : Ieee.single.read a = .number (sgb Ieee.single a) 0 Ieee.single.leastPlace := by
                exact read_zero Ieee.single a ha0
              rw [this] at hda; cases hda; rfl
            rw [hm]; rfl
          · rw [decide_eq_false ha0, cond_false, hsg]
            have hm : m ≠ 0 := by
              intro hz
              have hw := fm32.write_own a (by rw [hsw]; omega) s m i hda
              rw [hz, fm32.zeroW] at hw
              apply ha0
              rw [← hw, rung_word Ieee.single s 0 (by rw [hsw]; decide)]
            simp only [Ieee.Datum.quotient, if_true, if_neg hm, Option.map_some, Option.getD_some]
            rw [hs]; rfl
    · rw [decide_eq_false hb0, cond_false]; exact hq
  · show ((_ : Nat) : Int) = least Ieee.single .u32 2143289344 (a : Int) (b : Int)
    rw [least32_eq]
    unfold binF
    rw [if_neg (by decide), hir, hra, hrb]
    by_cases na : 2139095040 < a % 2147483648
    · rw [decide_eq_true na, cond_true, if_pos (.inl na), hn]; rfl
    · rw [decide_eq_false na, cond_false]
      by_cases nb : 2139095040 < b % 2147483648
      · rw [decide_eq_true nb, cond_true, if_pos (.inr nb), hn]; rfl
      · rw [decide_eq_false nb, cond_false, if_neg (by omega), if_neg (by decide), if_neg (by decide), if_neg (by decide), if_neg (by decide), order32 a b (by omega) (by omega), key32 a ha, key32 b hb]
        have e4 : ((150 - 146 : Int) == 4) = true := by decide
        rw [e4]
        have na' : nk Ieee.single a = if 2147483648 ≤ a then (2147483648 : Int) - 1 - (a % 2147483648 : Nat) else (2147483648 : Int) + (a % 2147483648 : Nat) := by
          unfold nk; rw [hsa, hra, hsw]
          by_cases h : 2147483648 ≤ a
          · rw [decide_eq_true h]; simp [h]
          · rw [decide_eq_false h]; simp [h]
        have nb' : nk Ieee.single b = if 2147483648 ≤ b then (2147483648 : Int) - 1 - (b % 2147483648 : Nat) else (2147483648 : Int) + (b % 2147483648 : Nat) := by
          unfold nk; rw [hsb, hrb, hsw]
          by_cases h : 2147483648 ≤ b
          · rw [decide_eq_true h]; simp [h]
          · rw [decide_eq_false h]; simp [h]
        rw [na', nb']
        have eqc : a = b ∨ (a = 0 ∧ b = 2147483648) ∨ (a = 2147483648 ∧ b = 0) → (bOr .u32 (a : Int) (b : Int)) = ((if 2147483648 ≤ a then a else b : Nat) : Int) := by
          rintro (rfl | ⟨rfl, rfl⟩ | ⟨rfl, rfl⟩)
          · rw [bOr32_n a a ha ha, Nat.or_self, ite_self]
          · decide +kernel
          · decide +kernel
        by_cases ca : 2147483648 ≤ a <;> by_cases cb : 2147483648 ≤ b <;> simp only [if_pos, if_neg, ca, cb, not_false_eq_true]
        · rcases Int.lt_trichotomy (-((a % 2147483648 : Nat) : Int)) (-((b % 2147483648 : Nat) : Int)) with h | h | h
          · rw [Int.compare_eq_lt.2 h, if_pos (decide_eq_true (by omega))]; rfl
          · rw [Int.compare_eq_eq.2 h, if_neg (by rw [decide_eq_false (by omega)]; decide)]
            show (b : Int) = bOr .u32 (a : Int) (b : Int)
            rw [eqc (.inl (by omega)), if_pos ca]; omega
          · rw [Int.compare_eq_gt.2 h, if_neg (by rw [decide_eq_false (by omega)]; decide)]; rfl
        · rcases Int.lt_trichotomy (-((a % 2147483648 : Nat) : Int)) ((b % 2147483648 : Nat) : Int) with h | h | h
          · rw [Int.compare_eq_lt.2 h, if_pos (decide_eq_true (by omega))]; rfl
          · rw [Int.compare_eq_eq.2 h, if_pos (decide_eq_true (by omega))]
            show (a : Int) = bOr .u32 (a : Int) (b : Int)
            rw [eqc (.inr (.inr (by omega))), if_pos ca]
          · omega
        · rcases Int.lt_trichotomy (((a % 2147483648 : Nat) : Int)) (-((b % 2147483648 : Nat) : Int)) with h | h | h
          · omega
          · rw [Int.compare_eq_eq.2 h, if_neg (by rw [decide_eq_false (by omega)]; decide)]
            show (b : Int) = bOr .u32 (a : Int) (b : Int)
            rw [eqc (.inr (.inl (by omega))), if_neg ca]
          · rw [Int.compare_eq_gt.2 h, if_neg (by rw [decide_eq_false (by omega)]; decide)]; rfl
        · rcases Int.lt_trichotomy (((a % 2147483648 : Nat) : Int)) (((b % 2147483648 : Nat) : Int)) with h | h | h
          · rw [Int.compare_eq_lt.2 h, if_pos (decide_eq_true (by omega))]; rfl
          · rw [Int.compare_eq_eq.2 h, if_neg (by rw [decide_eq_false (by omega)]; decide)]
            show (b : Int) = bOr .u32 (a : Int) (b : Int)
            rw [eqc (.inl (by omega)), if_neg ca]
          · rw [Int.compare_eq_gt.2 h, if_neg (by rw [decide_eq_false (by omega)]; decide)]; rfl
  · show ((_ : Nat) : Int) = most Ieee.single .u32 2143289344 (a : Int) (b : Int)
    rw [most32_eq]
    unfold binF
    rw [if_neg (by decide), hir, hra, hrb]
    by_cases na : 2139095040 < a % 2147483648
    · rw [decide_eq_true na, cond_true, if_pos (.inl na), hn]; rfl
    · rw [decide_eq_false na, cond_false]
      by_cases nb : 2139095040 < b % 2147483648
      · rw [decide_eq_true nb, cond_true, if_pos (.inr nb), hn]; rfl
      · rw [decide_eq_false nb, cond_false, if_neg (by omega), if_neg (by decide), if_neg (by decide), if_neg (by decide), if_neg (by decide), order32 a b (by omega) (by omega), key32 a ha, key32 b hb]
        have e4 : ((151 - 146 : Int) == 4) = false := by decide
        rw [e4]
        have na' : nk Ieee.single a = if 2147483648 ≤ a then (2147483648 : Int) - 1 - (a % 2147483648 : Nat) else (2147483648 : Int) + (a % 2147483648 : Nat) := by
          unfold nk; rw [hsa, hra, hsw]
          by_cases h : 2147483648 ≤ a
          · rw [decide_eq_true h]; simp [h]
          · rw [decide_eq_false h]; simp [h]
        have nb' : nk Ieee.single b = if 2147483648 ≤ b then (2147483648 : Int) - 1 - (b % 2147483648 : Nat) else (2147483648 : Int) + (b % 2147483648 : Nat) := by
          unfold nk; rw [hsb, hrb, hsw]
          by_cases h : 2147483648 ≤ b
          · rw [decide_eq_true h]; simp [h]
          · rw [decide_eq_false h]; simp [h]
        rw [na', nb']
        have eqc : a = b ∨ (a = 0 ∧ b = 2147483648) ∨ (a = 2147483648 ∧ b = 0) → (bAnd .u32 (a : Int) (b : Int)) = ((if 2147483648 ≤ a then b else a : Nat) : Int) := by
          rintro (rfl | ⟨rfl, rfl⟩ | ⟨rfl, rfl⟩)
          · rw [bAnd32_n a a ha ha, Nat.and_self, ite_self]
          · decide +kernel
          · decide +kernel
        by_cases ca : 2147483648 ≤ a <;> by_cases cb : 2147483648 ≤ b <;> simp only [if_pos, if_neg, ca, cb, not_false_eq_true]
        · rcases Int.lt_trichotomy (-((a % 2147483648 : Nat) : Int)) (-((b % 2147483648 : Nat) : Int)) with h | h | h
          · rw [Int.compare_eq_lt.2 h, if_neg (by rw [decide_eq_true (by omega)]; decide)]; rfl
          · rw [Int.compare_eq_eq.2 h, if_pos (decide_eq_false (by omega))]
            show (a : Int) = bAnd .u32 (a : Int) (b : Int)
            rw [eqc (.inl (by omega)), if_pos ca]; omega
          · rw [Int.compare_eq_gt.2 h, if_pos (decide_eq_false (by omega))]; rfl
        · rcases Int.lt_trichotomy (-((a % 2147483648 : Nat) : Int)) ((b % 2147483648 : Nat) : Int) with h | h | h
          · rw [Int.compare_eq_lt.2 h, if_neg (by rw [decide_eq_true (by omega)]; decide)]; rfl
          · rw [Int.compare_eq_eq.2 h, if_neg (by rw [decide_eq_true (by omega)]; decide)]
            show (b : Int) = bAnd .u32 (a : Int) (b : Int)
            rw [eqc (.inr (.inr (by omega))), if_pos ca]
          · omega
        · rcases Int.lt_trichotomy (((a % 2147483648 : Nat) : Int)) (-((b % 2147483648 : Nat) : Int)) with h | h | h
          · omega
          · rw [Int.compare_eq_eq.2 h, if_pos (decide_eq_false (by omega))]
            show (a : Int) = bAnd .u32 (a : Int) (b : Int)
            rw [eqc (.inr (.inl (by omega))), if_neg ca]
          · rw [Int.compare_eq_gt.2 h, if_pos (decide_eq_false (by omega))]; rfl
        · rcases Int.lt_trichotomy (((a % 2147483648 : Nat) : Int)) (((b % 2147483648 : Nat) : Int)) with h | h | h
          · rw [Int.compare_eq_lt.2 h, if_neg (by rw [decide_eq_true (by omega)]; decide)]; rfl
          · rw [Int.compare_eq_eq.2 h, if_pos (decide_eq_false (by omega))]
            show (a : Int) = bAnd .u32 (a : Int) (b : Int)
            rw [eqc (.inl (by omega)), if_neg ca]
          · rw [Int.compare_eq_gt.2 h, if_pos (decide_eq_false (by omega))]; rfl
  · show ((Ieee.single.word (sgb Ieee.single b) (rung Ieee.single a) : Nat) : Int) = bOr .u32 (bAndNot .u32 (a : Int) 2147483648) (bAnd .u32 (b : Int) 2147483648)
    rw [andnotu32 a ha]
    have e1 : bAnd .u32 (b : Int) 2147483648 = ((b &&& 2147483648 : Nat) : Int) := bAnd32_n _ 2147483648 hb (by decide)
    have e2 : b &&& 2147483648 = 2147483648 * (b / 2147483648 % 2) := by
      have := and_split b (2 ^ 31) 31
      rw [Nat.mod_self, Nat.and_zero, Nat.div_self (Nat.two_pow_pos 31), Nat.and_one_is_mod, Nat.zero_add] at this
      exact this
    rw [e1, e2, hsb, hra]
    have hor : (2147483648 ||| a % 2147483648) = 2147483648 + a % 2147483648 := by
      have := or_add 1 (a % 2147483648) 31 (by show a % 2147483648 < 2147483648; omega)
      rw [Nat.one_mul] at this
      exact this
    by_cases h : 2147483648 ≤ b
    · have q : b / 2147483648 % 2 = 1 := by omega
      rw [q, decide_eq_true h, Nat.mul_one]
      have := bOr32_n (a % 2147483648) 2147483648 (by omega) (by decide)
      rw [Nat.or_comm, hor] at this
      rw [this]
      show ((if true = true then Ieee.single.signWeight + _ else _ : Nat) : Int) = _
      rw [if_pos rfl, hsw]
    · have q : b / 2147483648 % 2 = 0 := by omega
      rw [q, decide_eq_false h, Nat.mul_zero]
      have := bOr32_n (a % 2147483648) 0 (by omega) (by decide)
      rw [Nat.or_zero] at this
      rw [this]; rfl

/-! ### 64 bits -/
theorem fbin64 (op : Int) (h0 : 160 ≤ op) (h1 : op ≤ 166) (a b : Nat) (ha : a < 18446744073709551616) (hb : b < 18446744073709551616) : ((binF Ieee.double (op - 160) a b : Nat) : Int) = fl64 op a b := by
  have hsw : Ieee.double.signWeight = 9223372036854775808 := by decide
  have hir : Ieee.double.infRung = 9218868437227405312 := by decide
  have hn : nanOf Ieee.double = 9221120237041090560 := by decide
  have hra : rung Ieee.double a = a % 9223372036854775808 := rung64 a
  have hrb : rung Ieee.double b = b % 9223372036854775808 := rung64 b
  have hsa := sgb64 a ha
  have hsb := sgb64 b hb
  have nanA : Ieee.double.infRung < rung Ieee.double a → (Ieee.double.read a).isNaN = true := by
    intro h; rw [nan64, decide_eq_true]; rw [hir, hra] at h; exact h
  have nanB : Ieee.double.infRung < rung Ieee.double b → (Ieee.double.read b).isNaN = true := by
    intro h; rw [nan64, decide_eq_true]; rw [hir, hrb] at h; exact h
  have none2 : ∀ (g : Ieee.Datum → Ieee.Datum → Option Ieee.Datum), (∀ s t e, g (.nan s t) e = none) → (∀ s t d, g d (.nan s t) = none) → (Ieee.double.infRung < rung Ieee.double a ∨ Ieee.double.infRung < rung Ieee.double b) → (g (Ieee.double.read a) (Ieee.double.read b)) = none := by
    intro g g1 g2 h
    rcases h with h | h
    · have := nanA h
      cases hd : Ieee.double.read a with
      | nan s t => exact g1 s t _
      | infinity s => rw [hd] at this; cases this
      | number s m i => rw [hd] at this; cases this
    · have := nanB h
      cases hd : Ieee.double.read b with
      | nan s t => exact g2 s t _
      | infinity s => rw [hd] at this; cases this
      | number s m i => rw [hd] at this; cases this
  have ar : ∀ (g : Ieee.Datum → Ieee.Datum → Option Ieee.Datum), (∀ s t e, g (.nan s t) e = none) → (∀ s t d, g d (.nan s t) = none) → (∀ d e r, g d e = some r → r.isNaN = false) →
      (if Ieee.double.infRung < rung Ieee.double a ∨ Ieee.double.infRung < rung Ieee.double b then nanOf Ieee.double else ((g (Ieee.double.read a) (Ieee.double.read b)).map Ieee.double.write).getD (nanOf Ieee.double)) = ar64 ((g (Ieee.double.read a) (Ieee.double.read b)).map Ieee.double.write) := by
    intro g g1 g2 g3
    rw [ar64_map _ (fun r hr => g3 _ _ r hr), hn]
    by_cases h : Ieee.double.infRung < rung Ieee.double a ∨ Ieee.double.infRung < rung Ieee.double b
    · rw [if_pos h, none2 g g1 g2 h]; rfl
    · rw [if_neg h]
  have hop : op = 160 ∨ op = 161 ∨ op = 162 ∨ op = 163 ∨ op = 164 ∨ op = 165 ∨ op = 166 := by omega
  rcases hop with rfl | rfl | rfl | rfl | rfl | rfl | rfl
  · have := ar Ieee.Datum.sum (fun s t e => by cases e <;> rfl) (fun s t d => by cases d <;> rfl) sum_nn
    show ((_ : Nat) : Int) = ((ar64 (floatBits .add .f64 (a : Int).toNat (b : Int).toNat) : Nat) : Int)
    rw [Int.toNat_natCast, Int.toNat_natCast]
    exact congrArg (fun z : Nat => (z : Int)) this
  · have := ar (fun d e => d.sum e.opposite) (fun s t e => by cases e <;> rfl) (fun s t d => by cases d <;> rfl) (fun d e r h => sum_nn d _ r h)
    show ((_ : Nat) : Int) = ((ar64 (floatBits .sub .f64 (a : Int).toNat (b : Int).toNat) : Nat) : Int)
    rw [Int.toNat_natCast, Int.toNat_natCast]
    exact congrArg (fun z : Nat => (z : Int)) this
  · have := ar Ieee.Datum.product (fun s t e => by cases e <;> rfl) (fun s t d => by cases d <;> rfl) product_nn
    show ((_ : Nat) : Int) = ((ar64 (floatBits .mul .f64 (a : Int).toNat (b : Int).toNat) : Nat) : Int)
    rw [Int.toNat_natCast, Int.toNat_natCast]
    exact congrArg (fun z : Nat => (z : Int)) this
  · have := ar (Ieee.Datum.quotient (Ieee.double.fractionBits + 2)) (fun s t e => by cases e <;> rfl) (fun s t d => by cases d <;> rfl) (quotient_nn _)
    show ((_ : Nat) : Int) = cond (Ieee.double.order (b : Int).toNat 0 == some .eq) (cond (Ieee.double.order (a : Int).toNat (a : Int).toNat != some .eq) 9221120237041090560 (cond (Ieee.double.order (a : Int).toNat 0 == some .eq) 9221120237041090560 (bOr .u64 9218868437227405312 (bAnd .u64 (bXor .u64 (a : Int) (b : Int)) 9223372036854775808)))) ((ar64 (floatBits .quo .f64 (a : Int).toNat (b : Int).toNat) : Nat) : Int)
    rw [Int.toNat_natCast, Int.toNat_natCast]
    have hq : ((binF Ieee.double 3 a b : Nat) : Int) = ((ar64 (floatBits .quo .f64 a b) : Nat) : Int) := congrArg (fun z : Nat => (z : Int)) this
    have r0 : rung Ieee.double 0 = 0 := by decide
    have k0 : key Ieee.double 0 = 0 := by decide
    have hz : ∀ v : Nat, v < 18446744073709551616 → (Ieee.double.order v 0 == some .eq) = decide (rung Ieee.double v = 0) := by
      intro v hv
      by_cases hnv : Ieee.double.infRung < rung Ieee.double v
      · rw [order_nan Ieee.double double_bi v 0 (.inl hnv)]
        rw [decide_eq_false (by omega)]; rfl
      · rw [order_key Ieee.double double_bi v 0 (by omega) (by rw [r0]; omega), k0]
        unfold key
        by_cases h0 : rung Ieee.double v = 0
        · rw [decide_eq_true h0, h0]
          cases sgb Ieee.double v <;> rfl
        · rw [decide_eq_false h0]
          cases sgb Ieee.double v
          · simp only [Bool.false_eq_true, if_false]
            rw [Int.compare_eq_gt.2 (by omega)]; rfl
          · simp only [if_true]
            rw [Int.compare_eq_lt.2 (by omega)]; rfl
    rw [hz b hb, hz a ha, order_self, nan64]
    by_cases hb0 : rung Ieee.double b = 0
    · rw [decide_eq_true hb0, cond_true]
      have hib : rung Ieee.double b < Ieee.double.infRung := by omega
      have hrdb : Ieee.double.read b = .number (sgb Ieee.double b) 0 Ieee.double.leastPlace := by
        exact read_zero Ieee.double b hb0
      by_cases hna : 9218868437227405312 < a % 9223372036854775808
      · rw [decide_eq_true hna, cond_true]
        unfold binF
        rw [if_neg (by decide), if_pos (.inl (by rw [hir, hra]; exact hna)), hn]; rfl
      · rw [decide_eq_false hna, cond_false]
        have hnn : ¬ (Ieee.double.infRung < rung Ieee.double a ∨ Ieee.double.infRung < rung Ieee.double b) := by rw [hir, hra, hb0]; omega
        have hbf : binF Ieee.double 3 a b = (Ieee.double.div a b).getD (nanOf Ieee.double) := by
          unfold binF
          rw [if_neg (by decide), if_neg hnn, if_neg (by decide), if_neg (by decide), if_neg (by decide), if_pos rfl]
        show ((binF Ieee.double 3 a b : Nat) : Int) = _
        rw [hbf, hn]
        have hdv : Ieee.double.div a b = ((Ieee.double.read a).quotient (Ieee.double.fractionBits + 2) (Ieee.double.read b)).map Ieee.double.write := rfl
        rw [hdv, hrdb]
        have hsg : bOr .u64 9218868437227405312 (bAnd .u64 (bXor .u64 (a : Int) (b : Int)) 9223372036854775808) = ((Ieee.double.word (sgb Ieee.double a ^^ sgb Ieee.double b) Ieee.double.infRung : Nat) : Int) := by
          rw [bXor64_n a b ha hb]
          have hxl : a ^^^ b < 18446744073709551616 := Nat.xor_lt_two_pow (n := 64) ha hb
          have e1 : bAnd .u64 ((a ^^^ b : Nat) : Int) 9223372036854775808 = (((a ^^^ b) &&& 9223372036854775808 : Nat) : Int) := bAnd64_n _ 9223372036854775808 hxl (by decide)
          have e2 : (a ^^^ b) &&& 9223372036854775808 = 9223372036854775808 * ((a ^^^ b) / 9223372036854775808 % 2) := by
            have := and_split (a ^^^ b) (2 ^ 63) 63
            rw [Nat.mod_self, Nat.and_zero, Nat.div_self (Nat.two_pow_pos 63), Nat.and_one_is_mod, Nat.zero_add] at this
            exact this
          have e3 : (a ^^^ b) / 9223372036854775808 = a / 9223372036854775808 ^^^ b / 9223372036854775808 := Nat.xor_div_two_pow (n := 63)
          rw [e1, e2, e3, hir, hsa, hsb]
          have qa : a / 9223372036854775808 = 0 ∧ ¬ 9223372036854775808 ≤ a ∨ a / 9223372036854775808 = 1 ∧ 9223372036854775808 ≤ a := by omega
          have qb : b / 9223372036854775808 = 0 ∧ ¬ 9223372036854775808 ≤ b ∨ b / 9223372036854775808 = 1 ∧ 9223372036854775808 ≤ b := by omega
          rcases qa with ⟨q1, q2⟩ | ⟨q1, q2⟩ <;> rcases qb with ⟨q3, q4⟩ | ⟨q3, q4⟩ <;> rw [q1, q3]
          · rw [decide_eq_false q2, decide_eq_false q4]; decide +kernel
          · rw [decide_eq_false q2, decide_eq_true q4]; decide +kernel
          · rw [decide_eq_true q2, decide_eq_false q4]; decide +kernel
          · rw [decide_eq_true q2, decide_eq_true q4]; decide +kernel
        cases hda : Ieee.double.read a with
        | nan s t => exact absurd hda (fm64.notNaN a (by rw [hir, hra]; omega) s t)
        | infinity s =>
          obtain ⟨hs, hrr⟩ := fm64.read_sg a s hda
          rw [decide_eq_false (by omega), cond_false, hsg, hs]; rfl
        | number s m i =>
          obtain ⟨hs, -, -, -⟩ := fm64.un_read a s m i hda
          by_cases ha0 : rung Ieee.double a = 0
          · rw [decide_eq_true ha0, cond_true]
            have hm : m = 0 := by
              have : Ieee.double.read a = .number (sgb Ieee.double a) 0 Ieee.double.leastPlace := by
                exact read_zero Ieee.double a ha0
              rw [this] at hda; cases hda; rfl
            rw [hm]; rfl
          · rw [decide_eq_false ha0, cond_false, hsg]
            have hm : m ≠ 0 := by
              intro hz
              have hw := fm64.write_own a (by rw [hsw]; omega) s m i hda
              rw [hz, fm64.zeroW] at hw
              apply ha0
              rw [← hw, rung_word Ieee.double s 0 (by rw [hsw]; decide)]
            simp only [Ieee.Datum.quotient, if_true, if_neg hm, Option.map_some, Option.getD_some]
            rw [hs]; rfl
    · rw [decide_eq_false hb0, cond_false]; exact hq
  · show ((_ : Nat) : Int) = least Ieee.double .u64 9221120237041090560 (a : Int) (b : Int)
    rw [least64_eq]
    unfold binF
    rw [if_neg (by decide), hir, hra, hrb]
    by_cases na : 9218868437227405312 < a % 9223372036854775808
    · rw [decide_eq_true na, cond_true, if_pos (.inl na), hn]; rfl
    · rw [decide_eq_false na, cond_false]
      by_cases nb : 9218868437227405312 < b % 9223372036854775808
      · rw [decide_eq_true nb, cond_true, if_pos (.inr nb), hn]; rfl
      · rw [decide_eq_false nb, cond_false, if_neg (by omega), if_neg (by decide), if_neg (by decide), if_neg (by decide), if_neg (by decide), order64 a b (by omega) (by omega), key64 a ha, key64 b hb]
        have e4 : ((164 - 160 : Int) == 4) = true := by decide
        rw [e4]
        have na' : nk Ieee.double a = if 9223372036854775808 ≤ a then (9223372036854775808 : Int) - 1 - (a % 9223372036854775808 : Nat) else (9223372036854775808 : Int) + (a % 9223372036854775808 : Nat) := by
          unfold nk; rw [hsa, hra, hsw]
          by_cases h : 9223372036854775808 ≤ a
          · rw [decide_eq_true h]; simp [h]
          · rw [decide_eq_false h]; simp [h]
        have nb' : nk Ieee.double b = if 9223372036854775808 ≤ b then (9223372036854775808 : Int) - 1 - (b % 9223372036854775808 : Nat) else (9223372036854775808 : Int) + (b % 9223372036854775808 : Nat) := by
          unfold nk; rw [hsb, hrb, hsw]
          by_cases h : 9223372036854775808 ≤ b
          · rw [decide_eq_true h]; simp [h]
          · rw [decide_eq_false h]; simp [h]
        rw [na', nb']
        have eqc : a = b ∨ (a = 0 ∧ b = 9223372036854775808) ∨ (a = 9223372036854775808 ∧ b = 0) → (bOr .u64 (a : Int) (b : Int)) = ((if 9223372036854775808 ≤ a then a else b : Nat) : Int) := by
          rintro (rfl | ⟨rfl, rfl⟩ | ⟨rfl, rfl⟩)
          · rw [bOr64_n a a ha ha, Nat.or_self, ite_self]
          · decide +kernel
          · decide +kernel
        by_cases ca : 9223372036854775808 ≤ a <;> by_cases cb : 9223372036854775808 ≤ b <;> simp only [if_pos, if_neg, ca, cb, not_false_eq_true]
        · rcases Int.lt_trichotomy (-((a % 9223372036854775808 : Nat) : Int)) (-((b % 9223372036854775808 : Nat) : Int)) with h | h | h
          · rw [Int.compare_eq_lt.2 h, if_pos (decide_eq_true (by omega))]; rfl
          · rw [Int.compare_eq_eq.2 h, if_neg (by rw [decide_eq_false (by omega)]; decide)]
            show (b : Int) = bOr .u64 (a : Int) (b : Int)
            rw [eqc (.inl (by omega)), if_pos ca]; omega
          · rw [Int.compare_eq_gt.2 h, if_neg (by rw [decide_eq_false (by omega)]; decide)]; rfl
        · rcases Int.lt_trichotomy (-((a % 9223372036854775808 : Nat) : Int)) ((b % 9223372036854775808 : Nat) : Int) with h | h | h
          · rw [Int.compare_eq_lt.2 h, if_pos (decide_eq_true (by omega))]; rfl
          · rw [Int.compare_eq_eq.2 h, if_pos (decide_eq_true (by omega))]
            show (a : Int) = bOr .u64 (a : Int) (b : Int)
            rw [eqc (.inr (.inr (by omega))), if_pos ca]
          · omega
        · rcases Int.lt_trichotomy (((a % 9223372036854775808 : Nat) : Int)) (-((b % 9223372036854775808 : Nat) : Int)) with h | h | h
          · omega
          · rw [Int.compare_eq_eq.2 h, if_neg (by rw [decide_eq_false (by omega)]; decide)]
            show (b : Int) = bOr .u64 (a : Int) (b : Int)
            rw [eqc (.inr (.inl (by omega))), if_neg ca]
          · rw [Int.compare_eq_gt.2 h, if_neg (by rw [decide_eq_false (by omega)]; decide)]; rfl
        · rcases Int.lt_trichotomy (((a % 9223372036854775808 : Nat) : Int)) (((b % 9223372036854775808 : Nat) : Int)) with h | h | h
          · rw [Int.compare_eq_lt.2 h, if_pos (decide_eq_true (by omega))]; rfl
          · rw [Int.compare_eq_eq.2 h, if_neg (by rw [decide_eq_false (by omega)]; decide)]
            show (b : Int) = bOr .u64 (a : Int) (b : Int)
            rw [eqc (.inl (by omega)), if_neg ca]
          · rw [Int.compare_eq_gt.2 h, if_neg (by rw [decide_eq_false (by omega)]; decide)]; rfl
  · show ((_ : Nat) : Int) = most Ieee.double .u64 9221120237041090560 (a : Int) (b : Int)
    rw [most64_eq]
    unfold binF
    rw [if_neg (by decide), hir, hra, hrb]
    by_cases na : 9218868437227405312 < a % 9223372036854775808
    · rw [decide_eq_true na, cond_true, if_pos (.inl na), hn]; rfl
    · rw [decide_eq_false na, cond_false]
      by_cases nb : 9218868437227405312 < b % 9223372036854775808
      · rw [decide_eq_true nb, cond_true, if_pos (.inr nb), hn]; rfl
      · rw [decide_eq_false nb, cond_false, if_neg (by omega), if_neg (by decide), if_neg (by decide), if_neg (by decide), if_neg (by decide), order64 a b (by omega) (by omega), key64 a ha, key64 b hb]
        have e4 : ((165 - 160 : Int) == 4) = false := by decide
        rw [e4]
        have na' : nk Ieee.double a = if 9223372036854775808 ≤ a then (9223372036854775808 : Int) - 1 - (a % 9223372036854775808 : Nat) else (9223372036854775808 : Int) + (a % 9223372036854775808 : Nat) := by
          unfold nk; rw [hsa, hra, hsw]
          by_cases h : 9223372036854775808 ≤ a
          · rw [decide_eq_true h]; simp [h]
          · rw [decide_eq_false h]; simp [h]
        have nb' : nk Ieee.double b = if 9223372036854775808 ≤ b then (9223372036854775808 : Int) - 1 - (b % 9223372036854775808 : Nat) else (9223372036854775808 : Int) + (b % 9223372036854775808 : Nat) := by
          unfold nk; rw [hsb, hrb, hsw]
          by_cases h : 9223372036854775808 ≤ b
          · rw [decide_eq_true h]; simp [h]
          · rw [decide_eq_false h]; simp [h]
        rw [na', nb']
        have eqc : a = b ∨ (a = 0 ∧ b = 9223372036854775808) ∨ (a = 9223372036854775808 ∧ b = 0) → (bAnd .u64 (a : Int) (b : Int)) = ((if 9223372036854775808 ≤ a then b else a : Nat) : Int) := by
          rintro (rfl | ⟨rfl, rfl⟩ | ⟨rfl, rfl⟩)
          · rw [bAnd64_n a a ha ha, Nat.and_self, ite_self]
          · decide +kernel
          · decide +kernel
        by_cases ca : 9223372036854775808 ≤ a <;> by_cases cb : 9223372036854775808 ≤ b <;> simp only [if_pos, if_neg, ca, cb, not_false_eq_true]
        · rcases Int.lt_trichotomy (-((a % 9223372036854775808 : Nat) : Int)) (-((b % 9223372036854775808 : Nat) : Int)) with h | h | h
          · rw [Int.compare_eq_lt.2 h, if_neg (by rw [decide_eq_true (by omega)]; decide)]; rfl
          · rw [Int.compare_eq_eq.2 h, if_pos (decide_eq_false (by omega))]
            show (a : Int) = bAnd .u64 (a : Int) (b : Int)
            rw [eqc (.inl (by omega)), if_pos ca]; omega
          · rw [Int.compare_eq_gt.2 h, if_pos (decide_eq_false (by omega))]; rfl
        · rcases Int.lt_trichotomy (-((a % 9223372036854775808 : Nat) : Int)) ((b % 9223372036854775808 : Nat) : Int) with h | h | h
          · rw [Int.compare_eq_lt.2 h, if_neg (by rw [decide_eq_true (by omega)]; decide)]; rfl
          · rw [Int.compare_eq_eq.2 h, if_neg (by rw [decide_eq_true (by omega)]; decide)]
            show (b : Int) = bAnd .u64 (a : Int) (b : Int)
            rw [eqc (.inr (.inr (by omega))), if_pos ca]
          · omega
        · rcases Int.lt_trichotomy (((a % 9223372036854775808 : Nat) : Int)) (-((b % 9223372036854775808 : Nat) : Int)) with h | h | h
          · omega
          · rw [Int.compare_eq_eq.2 h, if_pos (decide_eq_false (by omega))]
            show (a : Int) = bAnd .u64 (a : Int) (b : Int)
            rw [eqc (.inr (.inl (by omega))), if_neg ca]
          · rw [Int.compare_eq_gt.2 h, if_pos (decide_eq_false (by omega))]; rfl
        · rcases Int.lt_trichotomy (((a % 9223372036854775808 : Nat) : Int)) (((b % 9223372036854775808 : Nat) : Int)) with h | h | h
          · rw [Int.compare_eq_lt.2 h, if_neg (by rw [decide_eq_true (by omega)]; decide)]; rfl
          · rw [Int.compare_eq_eq.2 h, if_pos (decide_eq_false (by omega))]
            show (a : Int) = bAnd .u64 (a : Int) (b : Int)
            rw [eqc (.inl (by omega)), if_neg ca]
          · rw [Int.compare_eq_gt.2 h, if_pos (decide_eq_false (by omega))]; rfl
  · show ((Ieee.double.word (sgb Ieee.double b) (rung Ieee.double a) : Nat) : Int) = bOr .u64 (bAndNot .u64 (a : Int) 9223372036854775808) (bAnd .u64 (b : Int) 9223372036854775808)
    rw [andnot64 a ha]
    have e1 : bAnd .u64 (b : Int) 9223372036854775808 = ((b &&& 9223372036854775808 : Nat) : Int) := bAnd64_n _ 9223372036854775808 hb (by decide)
    have e2 : b &&& 9223372036854775808 = 9223372036854775808 * (b / 9223372036854775808 % 2) := by
      have := and_split b (2 ^ 63) 63
      rw [Nat.mod_self, Nat.and_zero, Nat.div_self (Nat.two_pow_pos 63), Nat.and_one_is_mod, Nat.zero_add] at this
      exact this
    rw [e1, e2, hsb, hra]
    have hor : (9223372036854775808 ||| a % 9223372036854775808) = 9223372036854775808 + a % 9223372036854775808 := by
      have := or_add 1 (a % 9223372036854775808) 63 (by show a % 9223372036854775808 < 9223372036854775808; omega)
      rw [Nat.one_mul] at this
      exact this
    by_cases h : 9223372036854775808 ≤ b
    · have q : b / 9223372036854775808 % 2 = 1 := by omega
      rw [q, decide_eq_true h, Nat.mul_one]
      have := bOr64_n (a % 9223372036854775808) 9223372036854775808 (by omega) (by decide)
      rw [Nat.or_comm, hor] at this
      rw [this]
      show ((if true = true then Ieee.double.signWeight + _ else _ : Nat) : Int) = _
      rw [if_pos rfl, hsw]
    · have q : b / 9223372036854775808 % 2 = 0 := by omega
      rw [q, decide_eq_false h, Nat.mul_zero]
      have := bOr64_n (a % 9223372036854775808) 0 (by omega) (by decide)
      rw [Nat.or_zero] at this
      rw [this]; rfl

end Go.Proofs.Qxb6500320a
