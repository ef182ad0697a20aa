/-
  Floats: a word's rung orders its value; a value that a word has is written as that word.
-/
import Derived.Test.Qxb6500320aApE
set_option linter.unusedSimpArgs false
set_option linter.unusedVariables false
set_option maxRecDepth 100000
namespace Go.Proofs.Qxb6500320a
open Go Go.Vc

/-- The value of a rung, counted in the least places. -/
def val (f : Ieee.Format) (r : Nat) : Nat := if r < f.binade then r else (f.binade + r % f.binade) * 2 ^ (r / f.binade - 1)

theorem val_succ (f : Ieee.Format) (r : Nat) : val f r < val f (r + 1) := by
  have hb : 0 < f.binade := Nat.two_pow_pos _
  unfold val
  by_cases h1 : r + 1 < f.binade
  · rw [if_pos (by omega), if_pos h1]; omega
  · rw [if_neg h1]
    by_cases h2 : r < f.binade
    · have e : r + 1 = f.binade := by omega
      rw [if_pos h2, e, Nat.mod_self, Nat.div_self hb]
      simp; omega
    · rw [if_neg h2]
      have hd := Nat.div_add_mod r f.binade
      have hm := Nat.mod_lt r hb
      have hq : 1 ≤ r / f.binade := (Nat.one_le_div_iff hb).2 (by omega)
      generalize hQ : r / f.binade = q at *
      generalize hT : r % f.binade = t at *
      by_cases h3 : t + 1 < f.binade
      · have e : r + 1 = (t + 1) + f.binade * q := by omega
        have e1 : (r + 1) % f.binade = t + 1 := by rw [e, Nat.add_mul_mod_self_left, Nat.mod_eq_of_lt h3]
        have e2 : (r + 1) / f.binade = q := by rw [e, Nat.add_mul_div_left _ _ hb, Nat.div_eq_of_lt h3]; omega
        rw [e1, e2]
        exact Nat.mul_lt_mul_of_pos_right (by omega) (Nat.two_pow_pos _)
      · have e : r + 1 = 0 + f.binade * (q + 1) := by rw [Nat.mul_add]; omega
        have e1 : (r + 1) % f.binade = 0 := by rw [e, Nat.add_mul_mod_self_left, Nat.zero_mod]
        have e2 : (r + 1) / f.binade = q + 1 := by rw [e, Nat.add_mul_div_left _ _ hb, Nat.zero_div]; omega
        rw [e1, e2]
        have e3 : q + 1 - 1 = (q - 1) + 1 := by omega
        rw [e3, Nat.pow_succ, Nat.add_zero, ← Nat.mul_assoc, Nat.mul_right_comm]
        exact Nat.mul_lt_mul_of_pos_right (by omega) (Nat.two_pow_pos _)

theorem val_lt (f : Ieee.Format) {r r' : Nat} (h : r < r') : val f r < val f r' := by
  induction r' with
  | zero => omega
  | succ n ih =>
    rcases Nat.lt_succ_iff_lt_or_eq.1 h with h1 | h1
    · exact Nat.lt_trans (ih h1) (val_succ f n)
    · subst h1; exact val_succ f r
theorem val_inj (f : Ieee.Format) {r r' : Nat} (h : val f r = val f r') : r = r' := by
  rcases Nat.lt_trichotomy r r' with h1 | h1 | h1
  · have := val_lt f h1; omega
  · exact h1
  · have := val_lt f h1; omega
theorem val_zero (f : Ieee.Format) : val f 0 = 0 := by
  have hb : 0 < f.binade := Nat.two_pow_pos _
  unfold val; rw [if_pos hb]

def rung (f : Ieee.Format) (x : Nat) : Nat := x % f.signWeight
def sgb (f : Ieee.Format) (x : Nat) : Bool := x / f.signWeight % 2 == 1

/-- What a finite word reads as. -/
theorem read_val (f : Ieee.Format) (x : Nat) (h : rung f x < f.infRung) : ∃ m i, f.read x = .number (sgb f x) m i ∧ f.leastPlace ≤ i ∧ m * 2 ^ (i - f.leastPlace).toNat = val f (rung f x) := by
  unfold rung at h
  unfold Ieee.Format.read
  simp only
  by_cases h1 : x % f.signWeight < f.binade
  · rw [if_pos h1]
    refine ⟨_, _, rfl, Int.le_refl _, ?_⟩
    unfold val rung
    rw [if_pos h1]; simp
  · rw [if_neg h1, if_pos h]
    refine ⟨_, _, rfl, by omega, ?_⟩
    unfold val rung
    rw [if_neg h1]
    congr 2
    omega
theorem read_inf (f : Ieee.Format) (hb : f.binade ≤ f.infRung) (x : Nat) (h : rung f x = f.infRung) : f.read x = .infinity (sgb f x) := by
  unfold rung at h
  unfold Ieee.Format.read
  simp only
  rw [if_neg (by omega), if_neg (by omega), if_pos h]; rfl

/-- The key that orders the words. -/
def key (f : Ieee.Format) (x : Nat) : Int := if sgb f x then -(rung f x : Int) else (rung f x : Int)

theorem signed_scale (s : Bool) (m : Nat) (i lo : Int) (d : Nat) (h : lo ≤ i) : Ieee.signed s m (i - lo).toNat * 2 ^ d = Ieee.signed s m (i - (lo - d)).toNat := by
  have e : (i - (lo - d)).toNat = (i - lo).toNat + d := by omega
  have c : ((2 : Int) ^ d) = ((2 ^ d : Nat) : Int) := by simp
  unfold Ieee.signed
  rw [e, Nat.shiftLeft_eq, Nat.shiftLeft_eq, Nat.pow_add, ← Nat.mul_assoc, c]
  cases s with
  | true => simp only [if_true]; rw [Int.neg_mul, ← Int.natCast_mul]
  | false => simp only [Bool.false_eq_true, if_false]; rw [← Int.natCast_mul]

theorem compare_mul (a b : Int) (k : Nat) : compare (a * 2 ^ k) (b * 2 ^ k) = compare a b := by
  have hp : (0 : Int) < 2 ^ k := Int.pow_pos (by decide)
  rcases Int.lt_trichotomy a b with h | h | h
  · rw [Int.compare_eq_lt.2 h, Int.compare_eq_lt.2 (Int.mul_lt_mul_of_pos_right h hp)]
  · subst h; rw [Int.compare_eq_eq.2 rfl, Int.compare_eq_eq.2 rfl]
  · rw [Int.compare_eq_gt.2 h, Int.compare_eq_gt.2 (Int.mul_lt_mul_of_pos_right h hp)]

/-- Two numbers compared at any common low place. -/
theorem order_at (s t : Bool) (m n : Nat) (i j lo : Int) (hi : lo ≤ i) (hj : lo ≤ j) : (Ieee.Datum.number s m i).order (.number t n j) = some (compare (Ieee.signed s m (i - lo).toNat) (Ieee.signed t n (j - lo).toNat)) := by
  simp only [Ieee.Datum.order, Option.some.injEq]
  obtain ⟨d, hd⟩ : ∃ d : Nat, lo = min i j - d := ⟨(min i j - lo).toNat, by omega⟩
  subst hd
  rw [← signed_scale s m i (min i j) d (by omega), ← signed_scale t n j (min i j) d (by omega), compare_mul]

theorem signed_zero (s : Bool) (m : Nat) : Ieee.signed s m 0 = if s then -(m : Int) else (m : Int) := by
  unfold Ieee.signed; rw [Nat.shiftLeft_zero]

theorem signed_as (s : Bool) (m k v : Nat) (h : m * 2 ^ k = v) : Ieee.signed s m k = if s then -(v : Int) else (v : Int) := by
  unfold Ieee.signed; rw [Nat.shiftLeft_eq, h]

theorem cmp_mono {s t : Bool} {r q v u : Nat} (h1 : r < q → v < u) (h2 : q < r → u < v) (h3 : r = q → v = u) (h4 : r = 0 ↔ v = 0) (h5 : q = 0 ↔ u = 0) :
    compare (if s then -(v : Int) else (v : Int)) (if t then -(u : Int) else (u : Int)) = compare (if s then -(r : Int) else (r : Int)) (if t then -(q : Int) else (q : Int)) := by
  have key : ∀ {a b c d : Int}, (a < b ↔ c < d) → (b < a ↔ d < c) → compare a b = compare c d := by
    intro a b c d h1 h2
    rcases Int.lt_trichotomy a b with h | h | h
    · rw [Int.compare_eq_lt.2 h, Int.compare_eq_lt.2 (h1.1 h)]
    · have : c = d := by
        rcases Int.lt_trichotomy c d with k | k | k
        · have := h1.2 k; omega
        · exact k
        · have := h2.2 k; omega
      rw [Int.compare_eq_eq.2 h, Int.compare_eq_eq.2 this]
    · rw [Int.compare_eq_gt.2 h, Int.compare_eq_gt.2 (h2.1 h)]
  have hrq : r < q ∨ r = q ∨ q < r := by omega
  have g1 : r < q ↔ v < u := ⟨h1, fun h => by rcases hrq with k | k | k; · exact k
                                              · have := h3 k; omega
                                              · have := h2 k; omega⟩
  have g2 : q < r ↔ u < v := ⟨h2, fun h => by rcases hrq with k | k | k; · have := h1 k; omega
                                              · have := h3 k; omega
                                              · exact k⟩
  apply key <;> cases s <;> cases t <;> simp only [Bool.false_eq_true, if_true, if_false] <;> omega

/-- The order of two words that are no NaN is the order of their keys. -/
theorem order_key (f : Ieee.Format) (hb : f.binade ≤ f.infRung) (x y : Nat) (hx : rung f x ≤ f.infRung) (hy : rung f y ≤ f.infRung) : f.order x y = some (compare (key f x) (key f y)) := by
  have hb0 : 0 < f.binade := Nat.two_pow_pos _
  unfold Ieee.Format.order key
  rcases Nat.lt_or_ge (rung f x) f.infRung with h1 | h1
  · obtain ⟨m, i, e1, l1, v1⟩ := read_val f x h1
    rcases Nat.lt_or_ge (rung f y) f.infRung with h2 | h2
    · obtain ⟨n, j, e2, l2, v2⟩ := read_val f y h2
      rw [e1, e2, order_at _ _ _ _ _ _ f.leastPlace l1 l2, signed_as _ _ _ _ v1, signed_as _ _ _ _ v2]
      congr 1
      have z : ∀ r, r = 0 ↔ val f r = 0 := fun r => ⟨fun h => by rw [h, val_zero], fun h => val_inj f (by rw [h, val_zero])⟩
      exact cmp_mono (fun h => val_lt f h) (fun h => val_lt f h) (fun h => by rw [h]) (z _) (z _)
    · rw [e1, read_inf f hb y (by omega)]
      simp only [Ieee.Datum.order, Option.some.injEq]
      cases sgb f y <;> cases sgb f x <;> simp only [Bool.false_eq_true, if_true, if_false] <;> symm <;> first | (apply Int.compare_eq_lt.2; omega) | (apply Int.compare_eq_gt.2; omega)
  · rcases Nat.lt_or_ge (rung f y) f.infRung with h2 | h2
    · obtain ⟨n, j, e2, l2, v2⟩ := read_val f y h2
      rw [e2, read_inf f hb x (by omega)]
      simp only [Ieee.Datum.order, Option.some.injEq]
      cases sgb f y <;> cases sgb f x <;> simp only [Bool.false_eq_true, if_true, if_false] <;> symm <;> first | (apply Int.compare_eq_lt.2; omega) | (apply Int.compare_eq_gt.2; omega)
    · rw [read_inf f hb x (by omega), read_inf f hb y (by omega)]
      have e1 : rung f x = f.infRung := by omega
      have e2 : rung f y = f.infRung := by omega
      simp only [Ieee.Datum.order, Option.some.injEq, e1, e2]
      cases sgb f y <;> cases sgb f x <;> simp only [Bool.false_eq_true, if_true, if_false, Bool.toNat_true, Bool.toNat_false]
      · rw [Int.compare_eq_eq.2 rfl]; rfl
      · rw [Int.compare_eq_lt.2 (by omega)]; rfl
      · rw [Int.compare_eq_gt.2 (by omega)]; rfl
      · rw [Int.compare_eq_eq.2 rfl]; rfl

theorem order_nan (f : Ieee.Format) (hb : f.binade ≤ f.infRung) (x y : Nat) (h : f.infRung < rung f x ∨ f.infRung < rung f y) : f.order x y = none := by
  unfold Ieee.Format.order
  rcases h with h | h
  · have := isNaN_rung f hb x
    rw [decide_eq_true (show f.infRung < x % f.signWeight from h)] at this
    cases hx : f.read x with
    | nan s t => cases f.read y <;> rfl
    | infinity s => rw [hx] at this; cases this
    | number s m i => rw [hx] at this; cases this
  · have := isNaN_rung f hb y
    rw [decide_eq_true (show f.infRung < y % f.signWeight from h)] at this
    cases hy : f.read y with
    | nan s t => cases f.read x <;> rfl
    | infinity s => rw [hy] at this; cases this
    | number s m i => rw [hy] at this; cases this

/-! ### Writing -/
/-- A cut to the nearest even, without the bound on the digits. -/
def cutE (n d : Nat) : Nat := n / 2 ^ d + (decide (2 ^ d < 2 * (n % 2 ^ d)) || (2 ^ d == 2 * (n % 2 ^ d) && n / 2 ^ d % 2 == 1)).toNat

theorem cut_eq (s : Bool) (n d : Nat) : Ieee.Toward.even.cut s n d = cutE n d := by
  unfold Ieee.Toward.cut cutE
  simp only [Nat.shiftLeft_eq, Nat.one_mul]
  rcases Nat.le_total d (n.log2 + 2) with hd | hd
  · rw [Nat.min_eq_left hd]
  · rw [Nat.min_eq_right hd]
    have h1 : n < 2 ^ (n.log2 + 1) := Nat.lt_log2_self
    have h2 : 2 ^ (n.log2 + 2) = 2 * 2 ^ (n.log2 + 1) := by rw [Nat.pow_succ, Nat.mul_comm]
    have h3 : 2 ^ (n.log2 + 2) ≤ 2 ^ d := Nat.pow_le_pow_right (by omega) hd
    have z : ∀ g, 2 * n < g → n / g + (decide (g < 2 * (n % g)) || (g == 2 * (n % g) && n / g % 2 == 1)).toNat = 0 := by
      intro g hg
      rw [Nat.div_eq_of_lt (by omega), Nat.mod_eq_of_lt (by omega)]
      have e1 : decide (g < 2 * n) = false := decide_eq_false (by omega)
      have e2 : (g == 2 * n) = false := by rw [beq_eq_false_iff_ne]; omega
      rw [e1, e2]; simp
    rw [z _ (by omega), z _ (by omega)]

theorem cutE_exact (k d : Nat) : cutE (k * 2 ^ d) d = k := by
  have hp := Nat.two_pow_pos d
  unfold cutE
  rw [Nat.mul_div_cancel _ hp, Nat.mul_mod_left]
  have e1 : decide (2 ^ d < 2 * 0) = false := decide_eq_false (by omega)
  have e2 : (2 ^ d == 2 * 0) = false := by rw [beq_eq_false_iff_ne]; omega
  rw [e1, e2]; simp
theorem cutE_scale (n d k : Nat) : cutE (n * 2 ^ k) (d + k) = cutE n d := by
  have hk := Nat.two_pow_pos k
  unfold cutE
  rw [Nat.pow_add, Nat.mul_div_mul_right _ _ hk, Nat.mul_mod_mul_right]
  have e1 : decide (2 ^ d * 2 ^ k < 2 * (n % 2 ^ d * 2 ^ k)) = decide (2 ^ d < 2 * (n % 2 ^ d)) := by
    rw [← Nat.mul_assoc, Bool.eq_iff_iff, decide_eq_true_iff, decide_eq_true_iff]
    exact Nat.mul_lt_mul_right hk
  have e2 : (2 ^ d * 2 ^ k == 2 * (n % 2 ^ d * 2 ^ k)) = (2 ^ d == 2 * (n % 2 ^ d)) := by
    rw [← Nat.mul_assoc, Bool.eq_iff_iff, beq_iff_eq, beq_iff_eq]
    exact ⟨fun h => Nat.eq_of_mul_eq_mul_right hk h, fun h => congrArg (fun z => z * 2 ^ k) h⟩
  rw [e1, e2]

theorem log2_scale (m k : Nat) (hm : m ≠ 0) : (m * 2 ^ k).log2 = m.log2 + k := by
  have h1 : 2 ^ m.log2 ≤ m := Nat.log2_self_le hm
  have h2 : m < 2 ^ (m.log2 + 1) := Nat.lt_log2_self
  have hk := Nat.two_pow_pos k
  have hne : m * 2 ^ k ≠ 0 := Nat.mul_ne_zero hm (by omega)
  apply (Nat.log2_eq_iff hne).2
  constructor
  · rw [Nat.pow_add]; exact Nat.mul_le_mul_right _ h1
  · have e : m.log2 + k + 1 = m.log2 + 1 + k := by omega
    rw [e, Nat.pow_add]; exact Nat.mul_lt_mul_of_pos_right h2 hk

/-- The rung of a rounded number is that of its value. -/
theorem rungOf_scale (f : Ieee.Format) (s : Bool) (m k : Nat) (i : Int) (hm : m ≠ 0) : rungOf f s (m * 2 ^ k) (i - k) = rungOf f s m i := by
  unfold rungOf
  rw [log2_scale m k hm]
  have e0 : (i - (k : Int)) + ((m.log2 + k : Nat) : Int) - f.fractionBits = i + m.log2 - f.fractionBits := by omega
  rw [e0]
  generalize max (i + m.log2 - f.fractionBits) f.leastPlace = last
  rw [cut_eq, cut_eq, Nat.shiftLeft_eq, Nat.shiftLeft_eq]
  congr 1
  rcases Int.lt_or_le i last with h | h
  · have e1 : (i - (k : Int) - last).toNat = 0 := by omega
    have e2 : (i - last).toNat = 0 := by omega
    have e3 : (last - (i - (k : Int))).toNat = (last - i).toNat + k := by omega
    rw [e1, e2, e3, Nat.pow_zero, Nat.mul_one, Nat.mul_one, cutE_scale]
  · have e2 : (last - i).toNat = 0 := by omega
    rw [e2]
    have z : ∀ n, cutE n 0 = n := fun n => by have := cutE_exact n 0; simpa using this
    rw [z]
    rcases Int.lt_or_le (i - k) last with h' | h'
    · have e1 : (i - (k : Int) - last).toNat = 0 := by omega
      obtain ⟨e, he⟩ : ∃ e : Nat, (e : Int) = last - (i - k) := ⟨(last - (i - k)).toNat, by omega⟩
      have e3 : (last - (i - (k : Int))).toNat = e := by omega
      have e4 : k = (i - last).toNat + e := by omega
      rw [e1, e3, Nat.pow_zero, Nat.mul_one, e4, Nat.pow_add, ← Nat.mul_assoc, cutE_exact]
    · have e3 : (last - (i - (k : Int))).toNat = 0 := by omega
      rw [e3, z, Nat.mul_assoc, ← Nat.pow_add]
      congr 2
      omega

theorem write_scale (f : Ieee.Format) (s : Bool) (m k : Nat) (i : Int) : f.write (.number s (m * 2 ^ k) (i - k)) = f.write (.number s m i) := by
  rw [write_number, write_number]
  by_cases hm : m = 0
  · subst hm; simp
  · rw [if_neg hm, if_neg (Nat.mul_ne_zero hm (by have := Nat.two_pow_pos k; omega)), rungOf_scale f s m k i hm]

/-- Numbers of one sign and one value are written alike. -/
theorem write_same (f : Ieee.Format) (s : Bool) (m n : Nat) (i j lo : Int) (hi : lo ≤ i) (hj : lo ≤ j) (h : m * 2 ^ (i - lo).toNat = n * 2 ^ (j - lo).toNat) : f.write (.number s m i) = f.write (.number s n j) := by
  have h1 := write_scale f s m (i - lo).toNat i
  have h2 := write_scale f s n (j - lo).toNat j
  have e1 : i - ((i - lo).toNat : Int) = lo := by omega
  have e2 : j - ((j - lo).toNat : Int) = lo := by omega
  rw [e1] at h1
  rw [e2] at h2
  rw [← h1, ← h2, h]

/-- The rung that a value of few digits has. -/
theorem exact_rung (f : Ieee.Format) (m : Nat) (i : Int) (E : Nat) (hE : f.infRung = E * f.binade) (hE1 : 1 ≤ E) (hm : m < 2 * f.binade) (hi : f.leastPlace ≤ i) (ht : (max (i + m.log2 - f.fractionBits) f.leastPlace - f.leastPlace).toNat + 2 ≤ E) :
    ∃ r, r < f.infRung ∧ val f r = m * 2 ^ (i - f.leastPlace).toNat ∧ ∀ s, f.write (.number s m i) = f.word s r := by
  have hb : 0 < f.binade := Nat.two_pow_pos _
  have hsw := f.infRung_lt
  obtain ⟨n, j, h1, h2, h3⟩ := exact_write f false m i E hE hE1 hm hi ht
  have hlt : (f.write (.number false m i)) % f.signWeight < f.infRung := by
    unfold Ieee.Format.read at h1
    simp only at h1
    split at h1
    · rename_i hh
      have : 1 * f.binade ≤ E * f.binade := Nat.mul_le_mul_right _ hE1
      omega
    · split at h1
      · assumption
      · split at h1 <;> cases h1
  obtain ⟨n', j', e1, e2, e3⟩ := read_val f (f.write (.number false m i)) hlt
  refine ⟨rung f (f.write (.number false m i)), hlt, ?_, ?_⟩
  · rw [← e3]
    rw [h1] at e1
    simp only [Ieee.Datum.number.injEq] at e1
    obtain ⟨_, rfl, rfl⟩ := e1
    exact h3
  · intro s
    unfold rung
    rw [write_number, write_number]
    by_cases hm0 : m = 0
    · simp only [if_pos hm0]
      rw [word_rung f false 0 (by omega)]
    · simp only [if_neg hm0]
      have e : rungOf f s m i = rungOf f false m i := by unfold rungOf; rw [cut_eq, cut_eq]
      rw [e, word_rung f false _ (Nat.lt_of_le_of_lt (Nat.min_le_right _ _) hsw)]

theorem rung_word (f : Ieee.Format) (s : Bool) (r : Nat) (h : r < f.signWeight) : rung f (f.word s r) = r := word_rung f s r h
theorem sgb_word (f : Ieee.Format) (s : Bool) (r : Nat) (h : r < f.signWeight) : sgb f (f.word s r) = s := word_sign f s r h
theorem word_self (f : Ieee.Format) (x : Nat) (h : x < 2 * f.signWeight) : f.word (sgb f x) (rung f x) = x := by
  unfold Ieee.Format.word sgb rung
  have hd := Nat.div_add_mod x f.signWeight
  have hpos : 0 < f.signWeight := Nat.two_pow_pos _
  have hq : x / f.signWeight < 2 := Nat.div_lt_of_lt_mul (by rw [Nat.mul_comm]; exact h)
  have hcase : x / f.signWeight = 0 ∨ x / f.signWeight = 1 := by
    generalize x / f.signWeight = q at hq
    omega
  rcases hcase with hc | hc
  · rw [hc] at hd ⊢; simp; omega
  · rw [hc] at hd ⊢; simp; omega

/-- A number that has a rung's value is written as that rung. -/
theorem write_rung (f : Ieee.Format) (E : Nat) (hE : f.infRung = E * f.binade) (hE1 : 2 ≤ E) (s : Bool) (m : Nat) (i lo : Int) (r : Nat) (hr : r < f.infRung) (hi : lo ≤ i) (hl : lo ≤ f.leastPlace) (h : m * 2 ^ (i - lo).toNat = val f r * 2 ^ (f.leastPlace - lo).toNat) :
    f.write (.number s m i) = f.word s r := by
  have hb : 0 < f.binade := Nat.two_pow_pos _
  have hbd : f.binade = 2 ^ f.fractionBits := rfl
  -- the rung's own digits
  by_cases hrb : r < f.binade
  · have hv : val f r = r := by unfold val; rw [if_pos hrb]
    obtain ⟨r', h1, h2, h3⟩ := exact_rung f r f.leastPlace E hE (by omega) (by omega) (Int.le_refl _) (by
      have : r.log2 ≤ f.fractionBits := log2_lt r _ (by rw [Nat.pow_succ]; omega)
      omega)
    have e : r' = r := val_inj f (by rw [h2, hv]; simp)
    rw [write_same f s m r i f.leastPlace lo hi hl (by rw [h, hv]), h3, e]
  · have hq : 1 ≤ r / f.binade := (Nat.one_le_div_iff hb).2 (by omega)
    have hqE : r / f.binade < E := by rw [Nat.div_lt_iff_lt_mul hb]; omega
    have hv : val f r = (f.binade + r % f.binade) * 2 ^ (r / f.binade - 1) := by unfold val; rw [if_neg hrb]
    have hm := Nat.mod_lt r hb
    have hl2 : (f.binade + r % f.binade).log2 ≤ f.fractionBits := log2_lt _ _ (by rw [Nat.pow_succ]; omega)
    obtain ⟨r', h1, h2, h3⟩ := exact_rung f (f.binade + r % f.binade) (f.leastPlace + (r / f.binade - 1 : Nat)) E hE (by omega) (by omega) (by omega) (by omega)
    have e0 : (f.leastPlace + ((r / f.binade - 1 : Nat) : Int) - f.leastPlace).toNat = r / f.binade - 1 := by omega
    have e : r' = r := val_inj f (by rw [h2, hv, e0])
    have e1 : (f.leastPlace + ((r / f.binade - 1 : Nat) : Int) - lo).toNat = (r / f.binade - 1) + (f.leastPlace - lo).toNat := by omega
    rw [write_same f s m (f.binade + r % f.binade) i (f.leastPlace + (r / f.binade - 1 : Nat)) lo hi (by omega) (by rw [h, hv, e1, Nat.pow_add, Nat.mul_assoc]), h3, e]

end Go.Proofs.Qxb6500320a
