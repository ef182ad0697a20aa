/-
  Words and their bits, as whole numbers. Program-independent but for its name.
-/
import Derived.Test.Qxb6500317aGreatLib
set_option linter.unusedSimpArgs false
set_option linter.unusedVariables false
set_option maxRecDepth 100000
namespace Go.Vc
open Go

theorem ofInt_nat (n : Nat) (k : Nat) (h : n < 2 ^ k) : (BitVec.ofInt k (n : Int)).toNat = n := by
  rw [BitVec.ofInt_natCast, BitVec.toNat_ofNat, Nat.mod_eq_of_lt h]

theorem wrap_nat (k : IntKind) (hk : k.signed = false) (n : Nat) (h : n < 2 ^ k.bits) : k.wrap (n : Int) = (n : Int) := by
  unfold IntKind.wrap
  simp only [hk]
  have : ((n : Int) % 2 ^ k.bits) = (n : Int) := Int.emod_eq_of_lt (by omega) (by exact_mod_cast h)
  simp [this]

theorem bAnd_n (k : IntKind) (hk : k.signed = false) (a b : Nat) (ha : a < 2 ^ k.bits) (hb : b < 2 ^ k.bits) : bAnd k (a : Int) (b : Int) = ((a &&& b : Nat) : Int) := by
  unfold bAnd
  rw [BitVec.toNat_and, ofInt_nat a _ ha, ofInt_nat b _ hb]
  exact wrap_nat k hk _ (Nat.and_lt_two_pow a hb)
theorem bOr_n (k : IntKind) (hk : k.signed = false) (a b : Nat) (ha : a < 2 ^ k.bits) (hb : b < 2 ^ k.bits) : bOr k (a : Int) (b : Int) = ((a ||| b : Nat) : Int) := by
  unfold bOr
  rw [BitVec.toNat_or, ofInt_nat a _ ha, ofInt_nat b _ hb]
  exact wrap_nat k hk _ (Nat.or_lt_two_pow ha hb)
theorem bXor_n (k : IntKind) (hk : k.signed = false) (a b : Nat) (ha : a < 2 ^ k.bits) (hb : b < 2 ^ k.bits) : bXor k (a : Int) (b : Int) = ((a ^^^ b : Nat) : Int) := by
  unfold bXor
  rw [BitVec.toNat_xor, ofInt_nat a _ ha, ofInt_nat b _ hb]
  exact wrap_nat k hk _ (Nat.xor_lt_two_pow ha hb)

theorem and_split (a b k : Nat) : a &&& b = (a % 2 ^ k &&& b % 2 ^ k) + 2 ^ k * (a / 2 ^ k &&& b / 2 ^ k) := by
  have h1 := Nat.mod_add_div (a &&& b) (2 ^ k)
  rw [← Nat.and_mod_two_pow, ← Nat.and_div_two_pow]
  exact h1.symm

/-- The ones of the k low bits. -/
def ones : Nat → Nat → Nat
  | 0, _ => 0
  | k + 1, x => x % 2 + ones k (x / 2)

theorem ones_le : ∀ (k x : Nat), ones k x ≤ k
  | 0, _ => Nat.le_refl _
  | k + 1, x => by
    have := ones_le k (x / 2)
    simp only [ones]; omega

theorem ones_add : ∀ (j k x : Nat), ones (j + k) x = ones j x + ones k (x / 2 ^ j)
  | 0, k, x => by simp [ones]
  | j + 1, k, x => by
    rw [show j + 1 + k = (j + k) + 1 by omega, ones, ones_add j k (x / 2), ones, Nat.pow_succ, Nat.mul_comm (2 ^ j), Nat.div_div_eq_div_mul]
    omega

theorem ones_mod : ∀ (k x : Nat), ones k (x % 2 ^ k) = ones k x
  | 0, _ => rfl
  | k + 1, x => by
    have h1 : x % 2 ^ (k + 1) % 2 = x % 2 := Nat.mod_mod_of_dvd x ⟨2 ^ k, by rw [Nat.pow_succ, Nat.mul_comm]⟩
    have h2 : x % 2 ^ (k + 1) / 2 = x / 2 % 2 ^ k := by
      rw [Nat.pow_succ, Nat.mul_comm, Nat.mod_mul_right_div_self]
    rw [ones, ones, h1, h2, ones_mod k (x / 2)]

/-- The ones of a word and of what is not in it. -/
theorem ones_not : ∀ (k x : Nat), x < 2 ^ k → ones k x + ones k (2 ^ k - 1 - x) = k
  | 0, _, _ => rfl
  | k + 1, x, h => by
    rw [Nat.pow_succ] at h
    have ih := ones_not k (x / 2) (by omega)
    have hp : 0 < 2 ^ k := Nat.two_pow_pos k
    rw [ones, ones]
    have h1 : (2 ^ (k + 1) - 1 - x) / 2 = 2 ^ k - 1 - x / 2 := by rw [Nat.pow_succ]; omega
    have h2 : (2 ^ (k + 1) - 1 - x) % 2 = 1 - x % 2 := by rw [Nat.pow_succ]; omega
    rw [h1, h2]; omega

/-! ### The trailing zeros -/
def tz : Nat → Nat → Nat
  | 0, _ => 0
  | k + 1, x => if x % 2 = 1 then 0 else tz k (x / 2) + 1

theorem tz_zero : ∀ k, tz k 0 = k
  | 0 => rfl
  | k + 1 => by simp [tz, tz_zero k]

theorem tz_lt : ∀ (k x : Nat), x < 2 ^ k → x ≠ 0 → tz k x < k ∧ x / 2 ^ tz k x % 2 = 1 ∧ x % 2 ^ tz k x = 0
  | 0, x, h, h0 => by simp at h; omega
  | k + 1, x, h, h0 => by
    rw [Nat.pow_succ] at h
    rw [tz]
    by_cases hx : x % 2 = 1
    · rw [if_pos hx]; simp [hx, Nat.mod_one]
    · rw [if_neg hx]
      obtain ⟨h1, h2, h3⟩ := tz_lt k (x / 2) (by omega) (by omega)
      refine ⟨by omega, ?_, ?_⟩
      · rw [Nat.pow_succ, Nat.mul_comm, ← Nat.div_div_eq_div_mul]; exact h2
      · rw [Nat.pow_succ, Nat.mul_comm, Nat.mod_mul, h3]; omega

theorem and_bit (a b : Nat) : a &&& b = (a % 2) * (b % 2) + 2 * (a / 2 &&& b / 2) := by
  have h := and_split a b 1
  rw [Nat.pow_one] at h
  rw [h]
  have : (a % 2 &&& b % 2) = (a % 2) * (b % 2) := by
    have h1 : a % 2 = 0 ∨ a % 2 = 1 := by omega
    have h2 : b % 2 = 0 ∨ b % 2 = 1 := by omega
    rcases h1 with h1 | h1 <;> rcases h2 with h2 | h2 <;> rw [h1, h2] <;> rfl
  rw [this]

theorem and_not_self : ∀ (k y : Nat), y < 2 ^ k → (2 ^ k - 1 - y) &&& y = 0
  | 0, y, h => by simp at h; subst h; rfl
  | k + 1, y, h => by
    have hp : 0 < 2 ^ k := Nat.two_pow_pos k
    rw [and_bit]
    rw [Nat.pow_succ] at h ⊢
    have h1 : (2 ^ k * 2 - 1 - y) / 2 = 2 ^ k - 1 - y / 2 := by omega
    have h2 : (2 ^ k * 2 - 1 - y) % 2 = 1 - y % 2 := by omega
    rw [h1, h2, and_not_self k (y / 2) (by omega)]
    have h3 : y % 2 = 0 ∨ y % 2 = 1 := by omega
    rcases h3 with h3 | h3 <;> rw [h3]

/-- The ones of ^x & (x - 1) are x's trailing zeros. -/
theorem ones_tz : ∀ (k x : Nat), x < 2 ^ k → ones k ((2 ^ k - 1 - x) &&& ((x + 2 ^ k - 1) % 2 ^ k)) = tz k x
  | 0, x, h => rfl
  | k + 1, x, h => by
    have hp : 0 < 2 ^ k := Nat.two_pow_pos k
    rw [Nat.pow_succ] at h
    rw [ones, tz, and_bit]
    rw [Nat.pow_succ]
    have h1 : (2 ^ k * 2 - 1 - x) / 2 = 2 ^ k - 1 - x / 2 := by omega
    have h2 : (2 ^ k * 2 - 1 - x) % 2 = 1 - x % 2 := by omega
    by_cases hx : x % 2 = 1
    · have h3 : (x + 2 ^ k * 2 - 1) % (2 ^ k * 2) = x - 1 := by
        have : x + 2 ^ k * 2 - 1 = (x - 1) + 2 ^ k * 2 := by omega
        rw [this, Nat.add_mod_right, Nat.mod_eq_of_lt (by omega)]
      have h4 : (x - 1) / 2 = x / 2 := by omega
      rw [h3, h1, h2, h4, and_not_self k (x / 2) (by omega), hx]
      simp
      have : ∀ j, ones j 0 = 0 := fun j => by
        induction j with
        | zero => rfl
        | succ j ih => simp [ones, ih]
      exact this k
    · have hx0 : x % 2 = 0 := by omega
      have ih := ones_tz k (x / 2) (by omega)
      have h3 : (x + 2 ^ k * 2 - 1) % (2 ^ k * 2) / 2 = (x / 2 + 2 ^ k - 1) % 2 ^ k := by
        by_cases hz : x = 0
        · subst hz
          have e1 : (0 + 2 ^ k * 2 - 1) % (2 ^ k * 2) = 2 ^ k * 2 - 1 := by rw [Nat.zero_add]; exact Nat.mod_eq_of_lt (by omega)
          have e2 : (0 / 2 + 2 ^ k - 1) % 2 ^ k = 2 ^ k - 1 := by rw [Nat.zero_div, Nat.zero_add]; exact Nat.mod_eq_of_lt (by omega)
          rw [e1, e2]; omega
        · have e1 : (x + 2 ^ k * 2 - 1) % (2 ^ k * 2) = x - 1 := by
            have : x + 2 ^ k * 2 - 1 = (x - 1) + 2 ^ k * 2 := by omega
            rw [this, Nat.add_mod_right, Nat.mod_eq_of_lt (by omega)]
          have e2 : (x / 2 + 2 ^ k - 1) % 2 ^ k = x / 2 - 1 := by
            have : x / 2 + 2 ^ k - 1 = (x / 2 - 1) + 2 ^ k := by omega
            rw [this, Nat.add_mod_right, Nat.mod_eq_of_lt (by omega)]
          rw [e1, e2]; omega
      have h4 : (x + 2 ^ k * 2 - 1) % (2 ^ k * 2) % 2 = 1 := by
        have e : (x + 2 ^ k * 2 - 1) % (2 ^ k * 2) % 2 = (x + 2 ^ k * 2 - 1) % 2 := Nat.mod_mod_of_dvd _ ⟨2 ^ k, by rw [Nat.mul_comm]⟩
        rw [e]; omega
      rw [if_neg hx, h1, h2, h4, hx0]
      have e5 : ((1 - 0) * 1 + 2 * (2 ^ k - 1 - x / 2 &&& (x + 2 ^ k * 2 - 1) % (2 ^ k * 2) / 2)) % 2 = 1 := by omega
      have e6 : ((1 - 0) * 1 + 2 * (2 ^ k - 1 - x / 2 &&& (x + 2 ^ k * 2 - 1) % (2 ^ k * 2) / 2)) / 2 = (2 ^ k - 1 - x / 2 &&& (x + 2 ^ k * 2 - 1) % (2 ^ k * 2) / 2) := by omega
      rw [e5, e6, h3, ih]; omega

/-! ### The ones, summed side by side -/
def by4 (a b c d : Nat) : Nat := a + 256 * (b + 256 * (c + 256 * d))

theorem and_byte (a x b y : Nat) (ha : a < 256) (hb : b < 256) : (a + 256 * x) &&& (b + 256 * y) = (a &&& b) + 256 * (x &&& y) := by
  have h := and_split (a + 256 * x) (b + 256 * y) 8
  have e1 : (a + 256 * x) % 2 ^ 8 = a := by omega
  have e2 : (b + 256 * y) % 2 ^ 8 = b := by omega
  have e3 : (a + 256 * x) / 2 ^ 8 = x := by omega
  have e4 : (b + 256 * y) / 2 ^ 8 = y := by omega
  rw [e1, e2, e3, e4] at h
  exact h

theorem byte55 : ∀ (d : Fin 256) (q : Fin 2), ((d.val / 2 + 128 * q.val) &&& 85) = (d.val / 2 &&& 85) := by decide
theorem byte33 : ∀ (d : Fin 256) (q : Fin 4), ((d.val / 4 + 64 * q.val) &&& 51) = (d.val / 4 &&& 51) := by decide
theorem g1_lt : ∀ d : Fin 256, (d.val / 2 &&& 85) ≤ d.val := by decide
theorem g2_lt : ∀ d : Fin 256, (d.val &&& 51) + (d.val / 4 &&& 51) < 256 := by decide
/-- One byte's way. -/
def g1 (d : Nat) : Nat := d - (d / 2 &&& 85)
def g2 (d : Nat) : Nat := (d &&& 51) + (d / 4 &&& 51)
theorem g12 : ∀ d : Fin 256, g1 d.val < 256 ∧ g2 (g1 d.val) % 16 ≤ 4 ∧ g2 (g1 d.val) / 16 ≤ 4 ∧ (g2 (g1 d.val) % 16 + g2 (g1 d.val) / 16) = ones 8 d.val := by decide
theorem byte0f : ∀ (a b c : Fin 5), ((a.val + 16 * b.val + b.val + 16 * c.val) &&& 15) = a.val + b.val := by decide

/-- Byte by byte. -/
def spread (f : Nat → Nat) : Nat → Nat → Nat
  | 0, _ => 0
  | n + 1, x => f (x % 256) + 256 * spread f n (x / 256)

theorem spread_id : ∀ (n x : Nat), x < 256 ^ n → spread (fun d => d) n x = x
  | 0, x, h => by simp at h; simp [spread, h]
  | n + 1, x, h => by
    rw [Nat.pow_succ] at h
    rw [spread, spread_id n (x / 256) (by omega)]; omega

theorem spread_and (f : Nat → Nat) (c : Nat) (hc : c < 256) (hf : ∀ d, d < 256 → f d < 256) : ∀ (n x : Nat), spread f n x &&& spread (fun _ => c) n 0 = spread (fun d => f d &&& c) n x
  | 0, x => by simp [spread]
  | n + 1, x => by
    rw [spread, spread, spread, and_byte _ _ _ _ (hf _ (by omega)) hc, Nat.zero_div, spread_and f c hc hf n]

/-- Shifted down by one, two bits and masked. -/
theorem spread_55 (f : Nat → Nat) (hf : ∀ d, d < 256 → f d < 256) : ∀ (n x : Nat), spread f n x / 2 &&& spread (fun _ => 85) n 0 = spread (fun d => f d / 2 &&& 85) n x
  | 0, x => by simp [spread]
  | n + 1, x => by
    have hd := hf (x % 256) (by omega)
    rw [spread, spread, spread, Nat.zero_div, ← spread_55 f hf n (x / 256)]
    generalize spread f n (x / 256) = Y
    generalize spread (fun _ => 85) n 0 = M
    generalize f (x % 256) = d at *
    have e : (d + 256 * Y) / 2 = (d / 2 + 128 * (Y % 2)) + 256 * (Y / 2) := by omega
    rw [e, and_byte _ _ _ _ (by omega) (by omega)]
    have := byte55 ⟨d, hd⟩ ⟨Y % 2, by omega⟩
    simp only at this
    rw [this]
theorem spread_33 (f : Nat → Nat) (hf : ∀ d, d < 256 → f d < 256) : ∀ (n x : Nat), spread f n x / 4 &&& spread (fun _ => 51) n 0 = spread (fun d => f d / 4 &&& 51) n x
  | 0, x => by simp [spread]
  | n + 1, x => by
    have hd := hf (x % 256) (by omega)
    rw [spread, spread, spread, Nat.zero_div, ← spread_33 f hf n (x / 256)]
    generalize spread f n (x / 256) = Y
    generalize spread (fun _ => 51) n 0 = M
    generalize f (x % 256) = d at *
    have e : (d + 256 * Y) / 4 = (d / 4 + 64 * (Y % 4)) + 256 * (Y / 4) := by omega
    rw [e, and_byte _ _ _ _ (by omega) (by omega)]
    have := byte33 ⟨d, hd⟩ ⟨Y % 4, by omega⟩
    simp only at this
    rw [this]

theorem spread_add (f g : Nat → Nat) : ∀ (n x : Nat), spread f n x + spread g n x = spread (fun d => f d + g d) n x
  | 0, x => rfl
  | n + 1, x => by rw [spread, spread, spread, ← spread_add f g n]; omega
theorem spread_sub (f g : Nat → Nat) (h : ∀ d, d < 256 → g d ≤ f d) : ∀ (n x : Nat), spread f n x - spread g n x = spread (fun d => f d - g d) n x ∧ spread g n x ≤ spread f n x
  | 0, x => ⟨rfl, Nat.le_refl _⟩
  | n + 1, x => by
    obtain ⟨h1, h2⟩ := spread_sub f g h n (x / 256)
    have := h (x % 256) (by omega)
    rw [spread, spread, spread, ← h1]
    omega
theorem spread_bd (f : Nat → Nat) (hf : ∀ d, d < 256 → f d < 256) : ∀ (n x : Nat), spread f n x < 256 ^ n
  | 0, x => by simp [spread]
  | n + 1, x => by
    have := spread_bd f hf n (x / 256)
    have := hf (x % 256) (by omega)
    rw [spread, Nat.pow_succ]; omega
theorem spread_le (f : Nat → Nat) (c : Nat) (hf : ∀ d, d < 256 → f d ≤ c) : ∀ (n x : Nat), spread f n x ≤ spread (fun _ => c) n 0
  | 0, _ => Nat.le_refl _
  | n + 1, x => by
    have h1 := hf (x % 256) (by omega)
    have h2 := spread_le f c hf n (x / 256)
    rw [spread, spread, Nat.zero_div]; omega
theorem spread_congr (f g : Nat → Nat) (h : ∀ d, d < 256 → f d = g d) : ∀ (n x : Nat), spread f n x = spread g n x
  | 0, _ => rfl
  | n + 1, x => by rw [spread, spread, h _ (by omega), spread_congr f g h n]

theorem spread_low (f : Nat → Nat) (hf : ∀ d, d < 256 → f d % 16 ≤ 4) : ∀ (n x : Nat), spread f n x % 16 ≤ 4
  | 0, x => by simp [spread]
  | n + 1, x => by
    have := hf (x % 256) (by omega)
    rw [spread]; omega

theorem spread_0f (f : Nat → Nat) (h1 : ∀ d, d < 256 → f d % 16 ≤ 4) (h2 : ∀ d, d < 256 → f d / 16 ≤ 4) : ∀ (n x : Nat), (spread f n x + spread f n x / 16) &&& spread (fun _ => 15) n 0 = spread (fun d => f d % 16 + f d / 16) n x
  | 0, x => by simp [spread]
  | n + 1, x => by
    have a1 := h1 (x % 256) (by omega); have a2 := h2 (x % 256) (by omega)
    have a3 := spread_low f h1 n (x / 256)
    rw [spread, spread, spread, Nat.zero_div, ← spread_0f f h1 h2 n (x / 256)]
    generalize spread f n (x / 256) = Y at *
    generalize spread (fun _ => 15) n 0 = M
    generalize f (x % 256) = d at *
    have e : (d + 256 * Y) + (d + 256 * Y) / 16 = (d % 16 + 16 * (d / 16) + d / 16 + 16 * (Y % 16)) + 256 * (Y + Y / 16) := by omega
    rw [e, and_byte _ _ _ _ (by omega) (by omega)]
    have := byte0f ⟨d % 16, by omega⟩ ⟨d / 16, by omega⟩ ⟨Y % 16, by omega⟩
    simp only at this
    rw [this]

def sum8 : Nat → Nat → Nat
  | 0, _ => 0
  | n + 1, x => ones 8 (x % 256) + sum8 n (x / 256)
theorem ones_sum8 : ∀ (n x : Nat), ones (8 * n) x = sum8 n x
  | 0, _ => rfl
  | n + 1, x => by
    rw [show 8 * (n + 1) = 8 + 8 * n by omega, ones_add, sum8, ones_sum8 n]
    have := ones_mod 8 x
    rw [show (2 : Nat) ^ 8 = 256 from rfl] at this
    rw [this]

theorem z_le (n x : Nat) : spread (fun d => g2 (g1 d)) n x ≤ spread (fun _ => 68) n 0 :=
  spread_le _ 68 (fun d hd => by have h1 := (g12 ⟨d, hd⟩).2.1; have h2 := (g12 ⟨d, hd⟩).2.2.1; simp only at h1 h2; omega) n x

/-- What stands in front of the product. -/
theorem swar (n x m5 m3 m0 : Nat) (hx : x < 256 ^ n) (e5 : m5 = spread (fun _ => 85) n 0) (e3 : m3 = spread (fun _ => 51) n 0) (e0 : m0 = spread (fun _ => 15) n 0) :
    (x / 2 &&& m5) ≤ x ∧ (x - (x / 2 &&& m5)) < 256 ^ n ∧
    ((x - (x / 2 &&& m5)) &&& m3) + ((x - (x / 2 &&& m5)) / 4 &&& m3) = spread (fun d => g2 (g1 d)) n x ∧
    spread (fun d => g2 (g1 d)) n x + spread (fun d => g2 (g1 d)) n x / 16 < 2 * 256 ^ n ∧ spread (fun d => g2 (g1 d)) n x < 256 ^ n ∧ spread (fun d => g2 (g1 d)) n x + spread (fun d => g2 (g1 d)) n x / 16 < 256 ^ n + 16 * 256 ^ n ∧
    (spread (fun d => g2 (g1 d)) n x + spread (fun d => g2 (g1 d)) n x / 16) &&& m0 = spread (fun d => ones 8 d) n x := by
  subst e5; subst e3; subst e0
  have h1 : x / 2 &&& spread (fun _ => 85) n 0 = spread (fun d => d / 2 &&& 85) n x := by
    have := spread_55 (fun d => d) (fun d hd => hd) n x
    rwa [spread_id n x hx] at this
  have h2 := spread_sub (fun d => d) (fun d => d / 2 &&& 85) (fun d hd => g1_lt ⟨d, hd⟩) n x
  rw [spread_id n x hx] at h2
  have h3 : x - (x / 2 &&& spread (fun _ => 85) n 0) = spread g1 n x := by rw [h1]; exact h2.1
  have b1 : ∀ d, d < 256 → g1 d < 256 := fun d hd => (g12 ⟨d, hd⟩).1
  have b2 : ∀ d, d < 256 → g2 (g1 d) < 256 := fun d hd => g2_lt ⟨g1 d, b1 d hd⟩
  have h4 : (spread g1 n x &&& spread (fun _ => 51) n 0) + (spread g1 n x / 4 &&& spread (fun _ => 51) n 0) = spread (fun d => g2 (g1 d)) n x := by
    rw [spread_and g1 51 (by omega) b1, spread_33 g1 b1, spread_add]; rfl
  have h5 := spread_bd (fun d => g2 (g1 d)) b2 n x
  refine ⟨by rw [h1]; exact h2.2, by rw [h3]; exact spread_bd g1 b1 n x, by rw [h3]; exact h4, by omega, h5, by omega, ?_⟩
  rw [spread_0f (fun d => g2 (g1 d)) (fun d hd => (g12 ⟨d, hd⟩).2.1) (fun d hd => (g12 ⟨d, hd⟩).2.2.1)]
  exact spread_congr _ _ (fun d hd => (g12 ⟨d, hd⟩).2.2.2) n x

theorem mid_of (L S H B M : Nat) (hB : 0 < B) (hL : L < B) (hS : L + B * S < M) : (L + B * S + M * H) % M / B = S := by
  rw [Nat.add_mul_mod_self_left, Nat.mod_eq_of_lt hS, Nat.add_mul_div_left _ _ hB, Nat.div_eq_of_lt hL, Nat.zero_add]

theorem gather4 (x : Nat) : spread (fun d => ones 8 d) 4 x * 16843009 % 4294967296 / 16777216 = ones 32 x := by
  rw [show (32 : Nat) = 8 * 4 from rfl, ones_sum8]
  simp only [spread, sum8]
  have h0 := ones_le 8 (x % 256); have h1 := ones_le 8 (x / 256 % 256); have h2 := ones_le 8 (x / 256 / 256 % 256); have h3 := ones_le 8 (x / 256 / 256 / 256 % 256)
  generalize ones 8 (x % 256) = a at *
  generalize ones 8 (x / 256 % 256) = b at *
  generalize ones 8 (x / 256 / 256 % 256) = c at *
  generalize ones 8 (x / 256 / 256 / 256 % 256) = d at *
  have e : (a + 256 * (b + 256 * (c + 256 * (d + 256 * 0)))) * 16843009 = (a + 256 * (a + b) + 65536 * (a + b + c)) + 16777216 * (a + (b + (c + (d + 0)))) + 4294967296 * (b + c + d + 256 * (c + d) + 65536 * d) := by omega
  rw [e]
  have l : a + 256 * (a + b) + 65536 * (a + b + c) < 16777216 := by omega
  have m : a + (b + (c + (d + 0))) < 256 := by omega
  exact mid_of _ _ _ 16777216 4294967296 (by omega) l (by omega)
set_option maxHeartbeats 4000000 in
theorem prod8 (a0 a1 a2 a3 a4 a5 a6 a7 : Nat) : (a0 + 256 * (a1 + 256 * (a2 + 256 * (a3 + 256 * (a4 + 256 * (a5 + 256 * (a6 + 256 * (a7 + 256 * 0)))))))) * 72340172838076673 = (1 * (a0) + 256 * (a0 + a1) + 65536 * (a0 + a1 + a2) + 16777216 * (a0 + a1 + a2 + a3) + 4294967296 * (a0 + a1 + a2 + a3 + a4) + 1099511627776 * (a0 + a1 + a2 + a3 + a4 + a5) + 281474976710656 * (a0 + a1 + a2 + a3 + a4 + a5 + a6)) + 72057594037927936 * (a0 + (a1 + (a2 + (a3 + (a4 + (a5 + (a6 + (a7 + 0)))))))) + 18446744073709551616 * (1 * (a1 + a2 + a3 + a4 + a5 + a6 + a7) + 256 * (a2 + a3 + a4 + a5 + a6 + a7) + 65536 * (a3 + a4 + a5 + a6 + a7) + 16777216 * (a4 + a5 + a6 + a7) + 4294967296 * (a5 + a6 + a7) + 1099511627776 * (a6 + a7) + 281474976710656 * (a7)) := by
  omega

theorem gather8 (x : Nat) : spread (fun d => ones 8 d) 8 x * 72340172838076673 % 18446744073709551616 / 72057594037927936 = ones 64 x := by
  rw [show (64 : Nat) = 8 * 8 from rfl, ones_sum8]
  simp only [spread, sum8]
  have h0 := ones_le 8 (x % 256); have h1 := ones_le 8 (x / 256 % 256); have h2 := ones_le 8 (x / 256 / 256 % 256); have h3 := ones_le 8 (x / 256 / 256 / 256 % 256)
  have h4 := ones_le 8 (x / 256 / 256 / 256 / 256 % 256); have h5 := ones_le 8 (x / 256 / 256 / 256 / 256 / 256 % 256); have h6 := ones_le 8 (x / 256 / 256 / 256 / 256 / 256 / 256 % 256); have h7 := ones_le 8 (x / 256 / 256 / 256 / 256 / 256 / 256 / 256 % 256)
  generalize ones 8 (x % 256) = a0 at *
  generalize ones 8 (x / 256 % 256) = a1 at *
  generalize ones 8 (x / 256 / 256 % 256) = a2 at *
  generalize ones 8 (x / 256 / 256 / 256 % 256) = a3 at *
  generalize ones 8 (x / 256 / 256 / 256 / 256 % 256) = a4 at *
  generalize ones 8 (x / 256 / 256 / 256 / 256 / 256 % 256) = a5 at *
  generalize ones 8 (x / 256 / 256 / 256 / 256 / 256 / 256 % 256) = a6 at *
  generalize ones 8 (x / 256 / 256 / 256 / 256 / 256 / 256 / 256 % 256) = a7 at *
  rw [prod8]
  exact mid_of _ _ _ 72057594037927936 18446744073709551616 (by omega) (by omega) (by omega)

end Go.Vc
