/-
  Floats: the root lies within half a unit.
-/
import Derived.Test.Qxb6500320aVaD
set_option linter.unusedSimpArgs false
set_option linter.unusedVariables false
set_option maxRecDepth 100000
namespace Go.Proofs.Qxb6500320a
open Go Go.Vc

theorem rootFrom_spec (n : Nat) : ∀ todo root, root * root ≤ n → n < (root + 2 ^ todo) * (root + 2 ^ todo) → Ieee.Datum.rootFrom n todo root * Ieee.Datum.rootFrom n todo root ≤ n ∧ n < (Ieee.Datum.rootFrom n todo root + 1) * (Ieee.Datum.rootFrom n todo root + 1)
  | 0, root, h1, h2 => by simp only [Ieee.Datum.rootFrom]; exact ⟨h1, h2⟩
  | todo + 1, root, h1, h2 => by
    simp only [Ieee.Datum.rootFrom, Nat.shiftLeft_eq, Nat.one_mul]
    have e : root + 2 ^ todo + 2 ^ todo = root + 2 ^ (todo + 1) := by rw [Nat.pow_succ]; omega
    by_cases h : (root + 2 ^ todo) * (root + 2 ^ todo) ≤ n
    · rw [if_pos h]
      exact rootFrom_spec n todo _ h (by rw [e]; exact h2)
    · rw [if_neg h]
      exact rootFrom_spec n todo root h1 (by omega)

/-- What root makes of a positive number. -/
theorem root_parts (D m : Nat) (i : Int) (hm : m ≠ 0) (hD : m.log2 ≤ 2 * D) : ∃ (more whole st : Nat) (P : Int), (Ieee.Datum.number false m i).root D = some (.number false (2 * whole + st) (P - 1)) ∧ i - more = 2 * P ∧ (more = 2 * D - m.log2 ∨ more = 2 * D - m.log2 + 1) ∧
    2 ^ (2 * D) ≤ m * 2 ^ more ∧ m * 2 ^ more < 2 ^ (2 * D + 2) ∧ whole * whole ≤ m * 2 ^ more ∧ m * 2 ^ more < (whole + 1) * (whole + 1) ∧ (st = 0 ∧ whole * whole = m * 2 ^ more ∨ st = 1) := by
  obtain ⟨more, hmore⟩ : ∃ more : Nat, more = 2 * D - m.log2 + ((i - ((2 * D - m.log2 : Nat) : Int)) % 2).toNat := ⟨_, rfl⟩
  have h1 : 2 ^ m.log2 ≤ m := Nat.log2_self_le hm
  have h2 : m < 2 ^ (m.log2 + 1) := Nat.lt_log2_self
  have hlo : 2 ^ (2 * D) ≤ m * 2 ^ more := by
    have a1 : 2 ^ m.log2 * 2 ^ more ≤ m * 2 ^ more := Nat.mul_le_mul_right _ h1
    rw [← Nat.pow_add] at a1
    exact Nat.le_trans (Nat.pow_le_pow_right (by omega) (by omega)) a1
  have hhi : m * 2 ^ more < 2 ^ (2 * D + 2) := by
    have a1 : m * 2 ^ more < 2 ^ (m.log2 + 1) * 2 ^ more := Nat.mul_lt_mul_of_pos_right h2 (Nat.two_pow_pos _)
    rw [← Nat.pow_add] at a1
    exact Nat.lt_of_lt_of_le a1 (Nat.pow_le_pow_right (by omega) (by omega))
  have hne : m * 2 ^ more ≠ 0 := by have := Nat.two_pow_pos (2 * D); omega
  have hself : m * 2 ^ more < 2 ^ ((m * 2 ^ more).log2 + 1) := Nat.lt_log2_self
  obtain ⟨w1, w2⟩ := rootFrom_spec (m * 2 ^ more) ((m * 2 ^ more).log2 / 2 + 1) 0 (by omega) (by
    rw [Nat.zero_add, ← Nat.pow_add]
    exact Nat.lt_of_lt_of_le hself (Nat.pow_le_pow_right (by omega) (by omega)))
  refine ⟨more, Ieee.Datum.rootFrom (m * 2 ^ more) ((m * 2 ^ more).log2 / 2 + 1) 0, (Ieee.Datum.rootFrom (m * 2 ^ more) ((m * 2 ^ more).log2 / 2 + 1) 0 * Ieee.Datum.rootFrom (m * 2 ^ more) ((m * 2 ^ more).log2 / 2 + 1) 0 != m * 2 ^ more).toNat, (i - more) / 2, ?_, by omega, by omega, hlo, hhi, w1, w2, ?_⟩
  · unfold Ieee.Datum.root
    simp only [if_neg hm, Bool.false_eq_true, if_false, ← hmore, Nat.shiftLeft_eq]
  · generalize Ieee.Datum.rootFrom (m * 2 ^ more) ((m * 2 ^ more).log2 / 2 + 1) 0 = W
    by_cases h : W * W = m * 2 ^ more
    · left; rw [h]; simp
    · right
      have : (W * W != m * 2 ^ more) = true := by rw [bne_iff_ne]; exact h
      rw [this]; rfl

theorem sq_le {a b : Nat} (h : a ≤ b) : a * a ≤ b * b := Nat.mul_le_mul h h
theorem le_of_sq {a b : Nat} (h : a * a < (b + 1) * (b + 1)) : a ≤ b := by
  rcases Nat.lt_or_ge b a with h1 | h1
  · have := sq_le (show b + 1 ≤ a from h1); omega
  · exact h1

theorem cut_bd (n e : Nat) : cutE n (e + 1) * 2 ^ (e + 1) ≤ n + 2 ^ e ∧ n ≤ cutE n (e + 1) * 2 ^ (e + 1) + 2 ^ e := by
  unfold cutE
  have hp : 2 ^ (e + 1) = 2 * 2 ^ e := by rw [Nat.pow_succ, Nat.mul_comm]
  have h0 := Nat.two_pow_pos e
  have hd := Nat.div_add_mod n (2 ^ (e + 1))
  have hm := Nat.mod_lt n (Nat.two_pow_pos (e + 1))
  rw [Nat.mul_comm] at hd
  generalize n / 2 ^ (e + 1) = q at *
  generalize n % 2 ^ (e + 1) = r at *
  rw [hp] at *
  generalize 2 ^ e = g at *
  by_cases h1 : 2 * g < 2 * r
  · rw [decide_eq_true h1]
    show (q + 1) * (2 * g) ≤ n + g ∧ n ≤ (q + 1) * (2 * g) + g
    rw [Nat.add_mul, Nat.one_mul]
    generalize q * (2 * g) = z at *
    omega
  · rw [decide_eq_false h1]
    cases hb : (2 * g == 2 * r && q % 2 == 1) with
    | true =>
      rw [Bool.and_eq_true, beq_iff_eq] at hb
      show (q + 1) * (2 * g) ≤ n + g ∧ n ≤ (q + 1) * (2 * g) + g
      rw [Nat.add_mul, Nat.one_mul]
      generalize q * (2 * g) = z at *
      omega
    | false =>
      show q * (2 * g) ≤ n + g ∧ n ≤ q * (2 * g) + g
      generalize q * (2 * g) = z at *
      omega

theorem cut_range (n e F : Nat) (h0 : 2 ^ F * 2 ^ (e + 1) ≤ n) (h1 : n < 2 ^ (F + 1) * 2 ^ (e + 1)) : 2 ^ F ≤ cutE n (e + 1) ∧ cutE n (e + 1) ≤ 2 ^ (F + 1) := by
  unfold cutE
  have hp := Nat.two_pow_pos (e + 1)
  have a1 : 2 ^ F ≤ n / 2 ^ (e + 1) := (Nat.le_div_iff_mul_le hp).2 h0
  have a2 : n / 2 ^ (e + 1) < 2 ^ (F + 1) := (Nat.div_lt_iff_lt_mul hp).2 h1
  have hb : ∀ b : Bool, b.toNat ≤ 1 := by decide
  have := hb (decide (2 ^ (e + 1) < 2 * (n % 2 ^ (e + 1))) || (2 ^ (e + 1) == 2 * (n % 2 ^ (e + 1)) && n / 2 ^ (e + 1) % 2 == 1))
  generalize (decide (2 ^ (e + 1) < 2 * (n % 2 ^ (e + 1))) || (2 ^ (e + 1) == 2 * (n % 2 ^ (e + 1)) && n / 2 ^ (e + 1) % 2 == 1)).toNat = bit at *
  omega

/-- The word of a number of F + 1 + (e + 1) digits. -/
theorem write_digits (f : Ieee.Format) (N e : Nat) (p : Int) (K : Nat) (hK : (K : Int) = p + (e + 1 : Nat) - f.leastPlace) (h0 : 2 ^ f.fractionBits * 2 ^ (e + 1) ≤ N) (h1 : N < 2 ^ (f.fractionBits + 1) * 2 ^ (e + 1)) (hE : (K + 3) * f.binade ≤ f.infRung) :
    ∃ r k j, f.write (.number false N p) = f.word false r ∧ 0 < r ∧ r < f.infRung ∧ f.read (f.word false r) = .number false k j ∧ f.binade ≤ k ∧ k < 2 * f.binade ∧
      ((k = cutE N (e + 1) ∧ j = p + (e + 1 : Nat)) ∨ (k = f.binade ∧ cutE N (e + 1) = 2 * f.binade ∧ j = p + (e + 1 : Nat) + 1)) := by
  obtain ⟨c1, c2⟩ := cut_range N e f.fractionBits h0 h1
  have hbd : f.binade = 2 ^ f.fractionBits := rfl
  have hb : 0 < f.binade := Nat.two_pow_pos _
  rw [Nat.pow_succ] at c2
  have hne : N ≠ 0 := by have := Nat.mul_pos (Nat.two_pow_pos f.fractionBits) (Nat.two_pow_pos (e + 1)); omega
  have hl : N.log2 = f.fractionBits + (e + 1) := (Nat.log2_eq_iff hne).2 ⟨by rw [Nat.pow_add]; exact h0, by
    have : f.fractionBits + (e + 1) + 1 = f.fractionBits + 1 + (e + 1) := by omega
    rw [this, Nat.pow_add]; exact h1⟩
  have hrung : rungOf f false N p = K * f.binade + cutE N (e + 1) := by
    unfold rungOf
    have em : max (p + (N.log2 : Int) - f.fractionBits) f.leastPlace = p + (e + 1 : Nat) := by rw [hl]; omega
    rw [em, cut_eq]
    have e1 : (p + (e + 1 : Nat) - f.leastPlace).toNat = K := by omega
    have e2 : (p - (p + (e + 1 : Nat))).toNat = 0 := by omega
    have e3 : (p + (e + 1 : Nat) - p).toNat = e + 1 := by omega
    rw [e1, e2, e3, Nat.shiftLeft_zero]
  have hE' : K * f.binade + 3 * f.binade ≤ f.infRung := by rw [Nat.add_mul] at hE; exact hE
  have hw : f.write (.number false N p) = f.word false (K * f.binade + cutE N (e + 1)) := by
    rw [write_number, if_neg hne, hrung, Nat.min_eq_left (by rw [hbd] at *; omega)]
  rcases Nat.lt_or_ge (cutE N (e + 1)) (2 * f.binade) with hlt | hge
  · refine ⟨_, cutE N (e + 1), p + (e + 1 : Nat), hw, by omega, by omega, ?_, by omega, hlt, .inl ⟨rfl, rfl⟩⟩
    rw [read_rung f false K _ hlt (.inr (by omega)) (by omega)]
    congr 1; omega
  · have hc : cutE N (e + 1) = 2 * f.binade := by omega
    have er : K * f.binade + cutE N (e + 1) = (K + 1) * f.binade + f.binade := by rw [hc, Nat.add_mul]; omega
    refine ⟨_, f.binade, p + (e + 1 : Nat) + 1, hw, by omega, by omega, ?_, Nat.le_refl _, by omega, .inr ⟨rfl, hc, rfl⟩⟩
    rw [er, read_rung f false (K + 1) f.binade (by omega) (.inr (Nat.le_refl _)) (by rw [← er]; omega)]
    congr 1; omega

/-- What KeptRoot asks: x = mx * 2^ex lies within half a unit of mr * 2^er, squared. -/
def RootOk (B mx : Nat) (ex : Int) (mr : Nat) (er : Int) : Prop := ∃ sh : Nat, (sh : Int) = ex - 2 * er + 2 ∧ (2 * mr - 1) * (2 * mr - 1) ≤ mx * 2 ^ sh ∧ mx * 2 ^ sh ≤ (2 * mr + 1) * (2 * mr + 1) ∧ (mr = B → (4 * mr - 1) * (4 * mr - 1) ≤ mx * 2 ^ (sh + 2))

theorem sq_sub {a b : Nat} (h : a ≤ b) : (a - 1) * (a - 1) ≤ b * b := Nat.mul_le_mul (by omega) (by omega)

theorem root_ok (m whole st more k : Nat) (i P : Int) (B : Nat) (hB : 4 ≤ B) (hP : i - more = 2 * P) (hmore : 4 ≤ more) (w1 : whole * whole ≤ m * 2 ^ more) (w2 : m * 2 ^ more < (whole + 1) * (whole + 1)) (hst : st = 0 ∧ whole * whole = m * 2 ^ more ∨ st = 1)
    (b1 : k * 8 ≤ 2 * whole + st + 4) (b2 : 2 * whole + st ≤ k * 8 + 4) (hk : B ≤ k) (hN : 8 * B ≤ 2 * whole + st) (mr : Nat) (er : Int) (hc : (mr = k ∧ er = P - 1 + (3 : Nat)) ∨ (mr = B ∧ k = 2 * B ∧ er = P - 1 + (3 : Nat) + 1)) : RootOk B m i mr er := by
  have lo : ∀ T, 2 * T ≤ 2 * whole + st → T * T ≤ m * 2 ^ more := fun T hT => by
    have : T ≤ whole := by omega
    exact Nat.le_trans (sq_le this) w1
  have hi : ∀ T, 2 * whole + st ≤ 2 * T → m * 2 ^ more ≤ T * T := fun T hT => by
    rcases hst with ⟨s0, s1⟩ | s1
    · have : whole ≤ T := by omega
      rw [← s1]; exact sq_le this
    · have : whole + 1 ≤ T := by omega
      have := sq_le this; omega
  have l1 := lo (4 * k - 2) (by omega)
  have h1 := hi (4 * k + 2) (by omega)
  have l2 := lo (4 * B) (by omega)
  rcases hc with ⟨rfl, rfl⟩ | ⟨rfl, rfl, rfl⟩
  · obtain ⟨sh, hsh⟩ : ∃ sh, more = sh + 2 := ⟨more - 2, by omega⟩
    refine ⟨sh, by omega, ?_, ?_, fun h => ?_⟩
    · rw [hsh, Nat.pow_add, ← Nat.mul_assoc] at l1
      have e : (4 * mr - 2) * (4 * mr - 2) = (2 * mr - 1) * (2 * mr - 1) * 2 ^ 2 := by
        have : 4 * mr - 2 = 2 * (2 * mr - 1) := by omega
        rw [this]
        generalize 2 * mr - 1 = z
        rw [show (2 : Nat) ^ 2 = 4 from rfl, Nat.mul_mul_mul_comm]; omega
      rw [e] at l1
      exact Nat.le_of_mul_le_mul_right l1 (by decide)
    · rw [hsh, Nat.pow_add, ← Nat.mul_assoc] at h1
      have e : (4 * mr + 2) * (4 * mr + 2) = (2 * mr + 1) * (2 * mr + 1) * 2 ^ 2 := by
        have : 4 * mr + 2 = 2 * (2 * mr + 1) := by omega
        rw [this]
        generalize 2 * mr + 1 = z
        rw [show (2 : Nat) ^ 2 = 4 from rfl, Nat.mul_mul_mul_comm]; omega
      rw [e] at h1
      exact Nat.le_of_mul_le_mul_right h1 (by decide)
    · rw [← hsh]
      subst h
      exact Nat.le_trans (sq_sub (Nat.le_refl _)) l2
  · obtain ⟨sh, hsh⟩ : ∃ sh, more = sh + 4 := ⟨more - 4, by omega⟩
    rw [hsh, Nat.pow_add, ← Nat.mul_assoc m] at l1 h1
    have e1 : (4 * (2 * mr) - 2) * (4 * (2 * mr) - 2) = (4 * mr - 1) * (4 * mr - 1) * 4 := by
      have : 4 * (2 * mr) - 2 = 2 * (4 * mr - 1) := by omega
      rw [this]
      generalize 4 * mr - 1 = z
      rw [Nat.mul_mul_mul_comm]; omega
    have e16 : (2 : Nat) ^ 4 = 16 := by decide
    rw [e1, e16] at l1
    rw [e16] at h1
    have q : (4 * mr - 1) * (4 * mr - 1) ≤ m * 2 ^ sh * 4 := by
      generalize (4 * mr - 1) * (4 * mr - 1) = z at *
      generalize m * 2 ^ sh = y at *
      omega
    refine ⟨sh, by omega, ?_, ?_, fun _ => ?_⟩
    · have e2 : (2 * mr - 1) * (2 * mr - 1) * 4 = (4 * mr - 2) * (4 * mr - 2) := by
        have : 4 * mr - 2 = 2 * (2 * mr - 1) := by omega
        rw [this]
        generalize 2 * mr - 1 = z
        rw [Nat.mul_mul_mul_comm]; omega
      have e3 : (4 * mr - 2) * (4 * mr - 2) ≤ (4 * mr - 1) * (4 * mr - 1) := sq_le (by omega)
      generalize (2 * mr - 1) * (2 * mr - 1) = z at *
      generalize (4 * mr - 2) * (4 * mr - 2) = z2 at *
      generalize (4 * mr - 1) * (4 * mr - 1) = z3 at *
      generalize m * 2 ^ sh = y at *
      omega
    · have e2 : (2 * mr + 1) * (2 * mr + 1) * 16 = (8 * mr + 4) * (8 * mr + 4) := by
        have : 8 * mr + 4 = 4 * (2 * mr + 1) := by omega
        rw [this]
        generalize 2 * mr + 1 = z
        rw [Nat.mul_mul_mul_comm]; omega
      have e3 : (4 * (2 * mr) + 2) * (4 * (2 * mr) + 2) ≤ (8 * mr + 4) * (8 * mr + 4) := sq_le (by omega)
      generalize (2 * mr + 1) * (2 * mr + 1) = z at *
      generalize (4 * (2 * mr) + 2) * (4 * (2 * mr) + 2) = z2 at *
      generalize (8 * mr + 4) * (8 * mr + 4) = z3 at *
      generalize m * 2 ^ sh = y at *
      omega
    · rw [Nat.pow_add, ← Nat.mul_assoc]; exact q

/-- The double root of a positive number. -/
theorem sqrt_word (m : Nat) (i : Int) (hm : m ≠ 0) (hm1 : m < 9007199254740992) (hi0 : -1074 ≤ i) (hi1 : i ≤ 971) : ∃ r mr er, ((Ieee.Datum.number false m i).root (Ieee.double.fractionBits + 2)).map Ieee.double.write = some (Ieee.double.word false r) ∧ 0 < r ∧ r < Ieee.double.infRung ∧
    Ieee.double.read (Ieee.double.word false r) = .number false mr er ∧ 4503599627370496 ≤ mr ∧ mr < 9007199254740992 ∧ -700 ≤ er ∧ er ≤ 600 ∧ RootOk 4503599627370496 m i mr er := by
  have hl := log2_lt m 52 (by omega)
  rw [dfrac]
  obtain ⟨more, whole, st, P, h1, h2, h3, h4, h5, w1, w2, h6⟩ := root_parts (52 + 2) m i hm (by omega)
  have hst : st ≤ 1 := by omega
  have hW0 : 2 ^ 54 ≤ whole := by
    apply le_of_sq
    have : (2 : Nat) ^ 54 * 2 ^ 54 = 2 ^ (2 * (52 + 2)) := by decide
    omega
  have hW1 : whole < 2 ^ 55 := by
    rcases Nat.lt_or_ge whole (2 ^ 55) with h | h
    · exact h
    · have := sq_le h
      have e : (2 : Nat) ^ 55 * 2 ^ 55 = 2 ^ (2 * (52 + 2) + 2) := by decide
      omega
  obtain ⟨r, k, j, q1, q2, q3, q4, q5, q6, q7⟩ := write_digits Ieee.double (2 * whole + st) 2 (P - 1) (P - 1 + 3 + 1074).toNat (by rw [dlp]; omega) (by rw [dfrac]; omega) (by rw [dfrac]; omega) (by rw [dE]; exact Nat.mul_le_mul_right _ (by omega))
  obtain ⟨b1, b2⟩ := cut_bd (2 * whole + st) 2
  rw [dbin] at q5 q6 q7
  refine ⟨r, k, j, by rw [h1]; simp only [Option.map_some]; rw [q1], q2, q3, q4, q5, q6, by omega, by omega, ?_⟩
  refine root_ok m whole st more (cutE (2 * whole + st) (2 + 1)) i P 4503599627370496 (by decide) h2 (by omega) w1 w2 h6 b1 b2 ?_ (by omega) k j q7
  omega

end Go.Proofs.Qxb6500320a
