/-
  Spelt and Owed.
-/
import Derived.Test.Qxb6500316aBnP
set_option linter.unusedSimpArgs false
set_option linter.unusedVariables false
set_option maxRecDepth 100000
namespace Go.Proofs.Qxb6500316a
open Go Go.Vc

/-- The text is one number of i + 1 groups. -/
structure SpAt (t : ByteArray) (i : Nat) : Prop where
  sz : t.size = i + 1
  pre : ∀ j, j < i → 128 ≤ nb t j
  last : nb t i < 128

def wi (i : Nat) : Int := if i ≤ 8 then 2 ^ (7 * i) else 2 ^ (7 * (i - 8))

theorem pow_bd (i k : Nat) (h : i ≤ k) : (1 : Int) ≤ 2 ^ i ∧ (2 : Int) ^ i ≤ 2 ^ k := by
  have h1 : 1 ≤ 2 ^ i := Nat.one_le_two_pow
  have h2 : 2 ^ i ≤ 2 ^ k := Nat.pow_le_pow_right (by decide) h
  exact ⟨by exact_mod_cast h1, by exact_mod_cast h2⟩
theorem mul_bd (g p P : Int) (hg : -128 ≤ g) (hg2 : g < 128) (hp : 1 ≤ p) (hP : p ≤ P) : -(128 * P) ≤ g * p ∧ g * p ≤ 128 * P := by
  have h1 : g * p ≤ 128 * p := Int.mul_le_mul_of_nonneg_right (by omega) (by omega)
  have h2 : -128 * p ≤ g * p := Int.mul_le_mul_of_nonneg_right (by omega) (by omega)
  omega

theorem sp_mid (t : ByteArray) (sg : Bool) (lo hi : Int) (i : Nat) (g : Int) (R Q : Value → World → Prop) (w : World) (hi10 : i ≤ 10) (hlo : -1000000000000000000 ≤ lo) (hlo2 : lo ≤ 1000000000000000000) (hh : -1000000000000000000 ≤ hi) (hh2 : hi ≤ 1000000000000000000)
    (hg : -128 ≤ g) (hg2 : g < 128)
    (h : binlaw_Spelt.L1 t sg (lo + if i < 8 then g * 2 ^ (7 * i) else 0) (hi + if i < 8 then 0 else g * 2 ^ (7 * (i - 8))) (wi (i + 1)) ((i + 1 : Nat) : Int) R Q w) :
    binlaw_Spelt.L3 t sg lo hi (wi i) (i : Int) g R Q w := by
  have e1 : IntKind.wrap .i64 ((i : Int) + 1) = ((i + 1 : Nat) : Int) := by rw [wrap_i64 (by omega) (by omega)]; omega
  have e56 : (2 : Int) ^ 49 = 562949953421312 := by decide
  have e14 : (2 : Int) ^ 14 = 16384 := by decide
  have key : binlaw_Spelt.L4 t sg lo hi (if i < 8 then 2 ^ (7 * i) else 2 ^ (7 * (i - 8))) (i : Int) g R Q w := by
    refine binlaw_Spelt.step4 _ _ _ _ _ _ _ _ _ _ ?_
    unfold binlaw_Spelt.V4
    by_cases h8 : i < 8
    · rw [if_pos h8]
      simp only [if_pos h8] at h
      obtain ⟨b1, b2⟩ := pow_bd (7 * i) 49 (by omega)
      rw [e56] at b2
      have b3 := mul_bd g _ _ hg hg2 b1 b2
      refine cond_true' (decide_eq_true (by omega)) ?_
      refine binlaw_Spelt.step5 _ _ _ _ _ _ _ _ _ ?_
      unfold binlaw_Spelt.V5
      have e2 : IntKind.wrap .i64 (g * 2 ^ (7 * i)) = g * 2 ^ (7 * i) := wrap_i64 (by omega) (by omega)
      have e3 : IntKind.wrap .i64 (lo + g * 2 ^ (7 * i)) = lo + g * 2 ^ (7 * i) := wrap_i64 (by omega) (by omega)
      have e4 : IntKind.wrap .i64 ((2 : Int) ^ (7 * i) * 128) = wi (i + 1) := by
        rw [wrap_i64 (by omega) (by omega)]
        unfold wi
        rw [if_pos (by omega), show 7 * (i + 1) = 7 * i + 7 by omega, Int.pow_add]; rfl
      rw [e2, e3, e4, e1]
      rwa [Int.add_zero] at h
    · rw [if_neg h8]
      simp only [if_neg h8] at h
      obtain ⟨b1, b2⟩ := pow_bd (7 * (i - 8)) 14 (by omega)
      rw [e14] at b2
      have b3 := mul_bd g _ _ hg hg2 b1 b2
      refine cond_false' (decide_eq_false (by omega)) ?_
      refine binlaw_Spelt.step5 _ _ _ _ _ _ _ _ _ ?_
      unfold binlaw_Spelt.V5
      have e2 : IntKind.wrap .i64 (g * 2 ^ (7 * (i - 8))) = g * 2 ^ (7 * (i - 8)) := wrap_i64 (by omega) (by omega)
      have e3 : IntKind.wrap .i64 (hi + g * 2 ^ (7 * (i - 8))) = hi + g * 2 ^ (7 * (i - 8)) := wrap_i64 (by omega) (by omega)
      have e4 : IntKind.wrap .i64 ((2 : Int) ^ (7 * (i - 8)) * 128) = wi (i + 1) := by
        rw [wrap_i64 (by omega) (by omega)]
        unfold wi
        rw [if_neg (by omega), show 7 * (i + 1 - 8) = 7 * (i - 8) + 7 by omega, Int.pow_add]; rfl
      rw [e2, e3, e4, e1]
      rwa [Int.add_zero] at h
  refine binlaw_Spelt.step3 _ _ _ _ _ _ _ _ _ _ ?_
  unfold binlaw_Spelt.V3
  by_cases h8 : i = 8
  · subst h8
    exact cond_true' rfl key
  · refine cond_false' (by rw [beq_eq_false_iff_ne]; omega) ?_
    have : wi i = (if i < 8 then 2 ^ (7 * i) else 2 ^ (7 * (i - 8))) := by
      unfold wi
      by_cases g8 : i < 8
      · rw [if_pos (by omega), if_pos g8]
      · rw [if_neg (by omega), if_neg g8]
    rw [this]; exact key

def spLo (t : ByteArray) (sg : Bool) (i : Nat) : Int := if i < 8 then (gs t 0 (i + 1) : Int) - (if sg = true ∧ 64 ≤ nb t i then 2 ^ (7 * i + 7) else 0) else (gs t 0 8 : Int)
def spHi (t : ByteArray) (sg : Bool) (i : Nat) : Int := if i < 8 then 0 else (gs t 8 (i - 8 + 1) : Int) - (if sg = true ∧ 64 ≤ nb t i then 2 ^ (7 * (i - 8) + 7) else 0)

theorem gs_bd (t : ByteArray) (a i : Nat) (h : i ≤ 8) : (gs t a i : Int) ≤ 72057594037927936 := by
  have h1 := gs_lt t a i
  have h2 : 2 ^ (7 * i) ≤ 2 ^ 56 := Nat.pow_le_pow_right (by decide) (by omega)
  have e : (2 : Nat) ^ 56 = 72057594037927936 := by decide
  rw [e] at h2
  omega

theorem lo_next (t : ByteArray) (i : Nat) : ((gs t 0 (min i 8) : Int) + if i < 8 then ((nb t i % 128 : Nat) : Int) * 2 ^ (7 * i) else 0) = (gs t 0 (min (i + 1) 8) : Int) := by
  by_cases h : i < 8
  · rw [if_pos h, show min i 8 = i by omega, show min (i + 1) 8 = i + 1 by omega, gs_succ, Nat.zero_add]
    push_cast; rfl
  · rw [if_neg h, show min i 8 = 8 by omega, show min (i + 1) 8 = 8 by omega, Int.add_zero]
theorem hi_next (t : ByteArray) (i : Nat) : ((gs t 8 (i - 8) : Int) + if i < 8 then 0 else ((nb t i % 128 : Nat) : Int) * 2 ^ (7 * (i - 8))) = (gs t 8 (i + 1 - 8) : Int) := by
  by_cases h : i < 8
  · rw [if_pos h, show i - 8 = 0 by omega, show i + 1 - 8 = 0 by omega, Int.add_zero]
  · rw [if_neg h, show i + 1 - 8 = (i - 8) + 1 by omega, gs_succ, show 8 + (i - 8) = i by omega]
    push_cast; rfl

theorem Spelt_loop (t : ByteArray) (sg : Bool) (h11 : t.size ≤ 11) (R Q : Value → World → Prop) (w : World) (hok : ∀ i, SpAt t i → R (.tuple #[.int .i64 (spLo t sg i), .int .i64 (spHi t sg i), .bool true]) w)
    (hno : (¬ ∃ i, SpAt t i) → R (.tuple #[.int .i64 0, .int .i64 0, .bool false]) w) :
    ∀ (k i : Nat), i + k + 1 = t.size → (∀ j, j < i → 128 ≤ nb t j) → binlaw_Spelt.L1 t sg (gs t 0 (min i 8)) (gs t 8 (i - 8)) (wi i) (i : Int) R Q w := by
  intro k
  induction k with
  | zero =>
    intro i hk hp
    refine binlaw_Spelt.step1 _ _ _ _ _ _ _ _ _ ?_
    unfold binlaw_Spelt.V1
    refine cond_true' (decide_eq_true (by omega)) ⟨by omega, ?_⟩
    have e0 : Int.toNat (i : Int) = i := rfl
    have hb := nb_lt t i
    have ec : IntKind.wrap .i64 (byteAt t (Int.toNat (i : Int))) = (nb t i : Int) := by rw [e0, byteAt_nb, wrap_i64 (by omega) (by omega)]
    have el : ((i : Int) == IntKind.wrap .i64 (((ByteArray.size t : Nat) : Int) - 1)) = true := by rw [wrap_i64 (by omega) (by omega)]; exact beq_iff_eq.2 (by omega)
    rw [ec, el, tmod128]
    by_cases hc : 128 ≤ nb t i
    · refine cond_true' (by rw [decide_eq_true (by omega)]; rfl) (hno ?_)
      rintro ⟨i', h1, h2, h3⟩
      have : i' = i := by omega
      subst this; omega
    · refine cond_false' (by rw [decide_eq_false (by omega)]; rfl) ?_
      refine cond_true' rfl ?_
      have hS : SpAt t i := ⟨by omega, hp, by omega⟩
      have b1 := gs_bd t 0 (min i 8) (by omega)
      have b2 := gs_bd t 8 (i - 8) (by omega)
      have fin : ∀ g : Int, -128 ≤ g → g < 128 → (gs t 0 (min i 8) : Int) + (if i < 8 then g * 2 ^ (7 * i) else 0) = spLo t sg i → (gs t 8 (i - 8) : Int) + (if i < 8 then 0 else g * 2 ^ (7 * (i - 8))) = spHi t sg i →
          binlaw_Spelt.L3 t sg (gs t 0 (min i 8)) (gs t 8 (i - 8)) (wi i) (i : Int) g R Q w := by
        intro g hg hg2 hl hh
        refine sp_mid t sg _ _ i g R Q w (by omega) (by omega) (by omega) (by omega) (by omega) hg hg2 ?_
        rw [hl, hh]
        refine binlaw_Spelt.step1 _ _ _ _ _ _ _ _ _ ?_
        unfold binlaw_Spelt.V1
        refine cond_false' (decide_eq_false (by omega)) ?_
        rw [decide_eq_true (show ((ByteArray.size t : Nat) : Int) > 0 by omega)]
        exact hok i hS
      have plain : ¬ (sg = true ∧ 64 ≤ nb t i) → binlaw_Spelt.L3 t sg (gs t 0 (min i 8)) (gs t 8 (i - 8)) (wi i) (i : Int) ((nb t i % 128 : Nat) : Int) R Q w := by
        intro hn
        refine fin _ (by omega) (by omega) ?_ ?_
        · rw [lo_next]; unfold spLo
          by_cases h8 : i < 8
          · rw [if_pos h8, if_neg hn, show min (i + 1) 8 = i + 1 by omega, Int.sub_zero]
          · rw [if_neg h8, show min (i + 1) 8 = 8 by omega]
        · rw [hi_next]; unfold spHi
          by_cases h8 : i < 8
          · rw [if_pos h8, show i + 1 - 8 = 0 by omega]; rfl
          · rw [if_neg h8, if_neg hn, show i + 1 - 8 = i - 8 + 1 by omega, Int.sub_zero]
      have L2f : ¬ (sg = true ∧ 64 ≤ nb t i) → binlaw_Spelt.L2 t sg (gs t 0 (min i 8)) (gs t 8 (i - 8)) (wi i) (i : Int) ((nb t i % 128 : Nat) : Int) false R Q w := by
        intro hn
        refine binlaw_Spelt.step2 _ _ _ _ _ _ _ _ _ _ _ ?_
        unfold binlaw_Spelt.V2
        exact cond_false' rfl (plain hn)
      refine cond_intro (fun gs1 => ?_) (fun gs1 => L2f (by rw [gs1]; simp))
      by_cases h64 : 64 ≤ nb t i
      · rw [decide_eq_true (show ((nb t i % 128 : Nat) : Int) ≥ 64 by omega)]
        refine binlaw_Spelt.step2 _ _ _ _ _ _ _ _ _ _ _ ?_
        unfold binlaw_Spelt.V2
        refine cond_true' rfl ?_
        have ew : IntKind.wrap .i64 (((nb t i % 128 : Nat) : Int) - 128) = ((nb t i % 128 : Nat) : Int) - 128 := wrap_i64 (by omega) (by omega)
        rw [ew]
        refine fin _ (by omega) (by omega) ?_ ?_
        · have hl := lo_next t i
          unfold spLo
          by_cases h8 : i < 8
          · rw [if_pos h8] at hl ⊢
            rw [if_pos h8, if_pos ⟨gs1, h64⟩, show min (i + 1) 8 = i + 1 by omega] at *
            rw [Int.sub_mul, ← hl, Int.pow_add]
            have : (2 : Int) ^ 7 = 128 := by decide
            rw [this]
            omega
          · rw [if_neg h8] at hl ⊢
            rw [if_neg h8, hl, show min (i + 1) 8 = 8 by omega]
        · have hl := hi_next t i
          unfold spHi
          by_cases h8 : i < 8
          · rw [if_pos h8] at hl ⊢
            rw [if_pos h8, hl, show i + 1 - 8 = 0 by omega]; rfl
          · rw [if_neg h8] at hl ⊢
            rw [if_neg h8, if_pos ⟨gs1, h64⟩, show i - 8 + 1 = i + 1 - 8 by omega]
            rw [Int.sub_mul, ← hl, Int.pow_add]
            have : (2 : Int) ^ 7 = 128 := by decide
            rw [this]
            omega
      · rw [decide_eq_false (show ¬ ((nb t i % 128 : Nat) : Int) ≥ 64 by omega)]
        exact L2f (by simp [h64])
  | succ k ih =>
    intro i hk hp
    refine binlaw_Spelt.step1 _ _ _ _ _ _ _ _ _ ?_
    unfold binlaw_Spelt.V1
    refine cond_true' (decide_eq_true (by omega)) ⟨by omega, ?_⟩
    have e0 : Int.toNat (i : Int) = i := rfl
    have hb := nb_lt t i
    have ec : IntKind.wrap .i64 (byteAt t (Int.toNat (i : Int))) = (nb t i : Int) := by rw [e0, byteAt_nb, wrap_i64 (by omega) (by omega)]
    have el : ((i : Int) == IntKind.wrap .i64 (((ByteArray.size t : Nat) : Int) - 1)) = false := by rw [wrap_i64 (by omega) (by omega), beq_eq_false_iff_ne]; omega
    rw [ec, el, tmod128]
    by_cases hc : 128 ≤ nb t i
    · refine cond_false' (by rw [decide_eq_true (by omega)]; rfl) (cond_false' rfl ?_)
      refine binlaw_Spelt.step2 _ _ _ _ _ _ _ _ _ _ _ ?_
      unfold binlaw_Spelt.V2
      refine cond_false' rfl ?_
      have b1 := gs_bd t 0 (min i 8) (by omega)
      have b2 := gs_bd t 8 (i - 8) (by omega)
      refine sp_mid t sg _ _ i _ R Q w (by omega) (by omega) (by omega) (by omega) (by omega) (by omega) (by omega) ?_
      rw [lo_next, hi_next]
      refine ih (i + 1) (by omega) (fun j hj => ?_)
      by_cases hj' : j = i
      · subst hj'; exact hc
      · exact hp j (by omega)
    · refine cond_true' (by rw [decide_eq_false (by omega)]; rfl) (hno ?_)
      rintro ⟨i', h1, h2, h3⟩
      have := h2 i (by omega)
      omega

def SpRes (t : ByteArray) (sg : Bool) (v : Value) : Prop := (∃ i, SpAt t i ∧ v = .tuple #[.int .i64 (spLo t sg i), .int .i64 (spHi t sg i), .bool true]) ∨ ((¬ ∃ i, SpAt t i) ∧ v = .tuple #[.int .i64 0, .int .i64 0, .bool false])

theorem Spelt_spec (t : ByteArray) (sg : Bool) (h11 : t.size ≤ 11) (w : World) : Runs Try.prog binlaw_Spelt.id #[.string t, .bool sg] w fun v w' => SpRes t sg v ∧ w' = w := by
  refine binlaw_Spelt.enter _ _ _ _ _ ?_
  unfold binlaw_Spelt.V
  by_cases h0 : t.size = 0
  · refine binlaw_Spelt.step1 _ _ _ _ _ _ _ _ _ ?_
    unfold binlaw_Spelt.V1
    refine cond_false' (decide_eq_false (by omega)) ?_
    rw [decide_eq_false (show ¬ ((ByteArray.size t : Nat) : Int) > 0 by omega)]
    refine ⟨.inr ⟨?_, rfl⟩, rfl⟩
    rintro ⟨i, h1, _, _⟩
    omega
  · exact Spelt_loop t sg h11 _ _ w (fun i hS => ⟨.inl ⟨i, hS, rfl⟩, rfl⟩) (fun hn => ⟨.inr ⟨hn, rfl⟩, rfl⟩) (t.size - 1) 0 (by omega) (fun j hj => by omega)

/-! ### The bytes of a float -/
def leF (t : ByteArray) : Nat → Int → Int
  | 0, v => v
  | k + 1, v => leF t k ((v * 256 + nb t k) % 18446744073709551616)
theorem leF_succ (t : ByteArray) (k : Nat) (v : Int) : leF t (k + 1) v = leF t k ((v * 256 + nb t k) % 18446744073709551616) := rfl

theorem Owed_loop (t : ByteArray) (h11 : t.size ≤ 11) (R Q : Value → World → Prop) (w : World) : ∀ (k : Nat) (v : Int), k ≤ t.size → R (.tuple #[.int .u64 (leF t k v), .bool true]) w → binlaw_Owed.L2 t v ((k : Int) - 1) R Q w := by
  intro k
  induction k with
  | zero =>
    intro v _ h
    refine binlaw_Owed.step2 _ _ _ _ _ _ ?_
    unfold binlaw_Owed.V2
    exact cond_false' (by decide) h
  | succ k ih =>
    intro v hk h
    refine binlaw_Owed.step2 _ _ _ _ _ _ ?_
    unfold binlaw_Owed.V2
    refine cond_true' (decide_eq_true (by omega)) ⟨by omega, ?_⟩
    have hb := nb_lt t k
    have e1 : (((k + 1 : Nat) : Int) - 1).toNat = k := by omega
    have e2 : IntKind.wrap .i64 (((k + 1 : Nat) : Int) - 1 - 1) = (k : Int) - 1 := by rw [wrap_i64 (by omega) (by omega)]; omega
    have e3 : IntKind.wrap .u64 (IntKind.wrap .u64 (v * 256) + IntKind.wrap .u64 (byteAt t k)) = (v * 256 + nb t k) % 18446744073709551616 := by
      rw [byteAt_nb, wrap_u64_mod, wrap_u64_mod, wrap_u64_mod]; omega
    rw [e1, e2, e3]
    exact ih _ (by omega) h

/-! ### Owed -/
def OwRes (ok : Prop) (x : Int) (v : Value) : Prop := (ok ∧ v = .tuple #[.int .u64 x, .bool true]) ∨ (¬ ok ∧ ∃ y, v = .tuple #[.int .u64 y, .bool false])

theorem OwedF (op : Int) (hop : op = 67 ∨ op = 68) (t : ByteArray) (h11 : t.size ≤ 11) (w : World) : Runs Try.prog binlaw_Owed.id #[.int .i64 op, .string t] w fun v w' => OwRes ((t.size : Int) = 4 * (op - 66)) (leF t t.size 0) v ∧ w' = w := by
  refine binlaw_Owed.enter _ _ _ _ _ ?_
  unfold binlaw_Owed.V
  have main : binlaw_Owed.L1 op t true (fun v w' => OwRes ((t.size : Int) = 4 * (op - 66)) (leF t t.size 0) v ∧ w' = w) (fun _ _ => False) w := by
    refine binlaw_Owed.step1 _ _ _ _ _ _ ?_
    unfold binlaw_Owed.V1
    refine cond_true' rfl ?_
    have e1 : IntKind.wrap .i64 (4 * IntKind.wrap .i64 (IntKind.wrap .i64 (op - 67) + 1)) = 4 * (op - 66) := by
      rw [wrap_i64 (x := op - 67) (by omega) (by omega), wrap_i64 (x := op - 67 + 1) (by omega) (by omega), wrap_i64 (by omega) (by omega)]; omega
    rw [e1]
    by_cases h : (t.size : Int) = 4 * (op - 66)
    · refine cond_false' (by rw [← h]; simp) ?_
      have e2 : IntKind.wrap .i64 (((ByteArray.size t : Nat) : Int) - 1) = ((ByteArray.size t : Nat) : Int) - 1 := wrap_i64 (by omega) (by omega)
      rw [e2]
      exact Owed_loop t h11 _ _ w t.size 0 (Nat.le_refl _) ⟨.inl ⟨h, rfl⟩, rfl⟩
    · exact cond_true' (bne_iff_ne.2 h) ⟨.inr ⟨h, _, rfl⟩, rfl⟩
  rcases hop with rfl | rfl
  · exact cond_true' rfl main
  · exact cond_false' rfl main

theorem Owed0 (t : ByteArray) (h11 : t.size ≤ 11) (w : World) : Runs Try.prog binlaw_Owed.id #[.int .i64 0, .string t] w fun v w' => OwRes (∃ i, SpAt t i ∧ i < 5 ∧ gs t 0 (i + 1) ≤ 4294967295) (gs t 0 t.size) v ∧ w' = w := by
  refine binlaw_Owed.enter _ _ _ _ _ ?_
  unfold binlaw_Owed.V
  refine cond_false' rfl ?_
  refine binlaw_Owed.step1 _ _ _ _ _ _ ?_
  unfold binlaw_Owed.V1
  refine cond_false' rfl ?_
  refine RunsQ.post (Spelt_spec t _ h11 w) ?_
  rintro v w' ⟨hv | ⟨hn, rfl⟩, rfl⟩
  · obtain ⟨i, hS, rfl⟩ := hv
    refine ⟨_, _, _, rfl, cond_false' rfl (cond_true' rfl ?_)⟩
    have hz := hS.sz
    by_cases h5 : i < 5
    · refine cond_true' (decide_eq_true (by omega)) ?_
      have hlo : spLo t (0 != 0) i = (gs t 0 (i + 1) : Int) := by
        unfold spLo
        rw [if_pos (by omega), if_neg (by simp), Int.sub_zero]
      have hlo' : spLo t ((0 : Int) != (0 : Int)) i = (gs t 0 (i + 1) : Int) := hlo
      rw [hlo']
      have hb := gs_bd t 0 (i + 1) (by omega)
      by_cases hl : gs t 0 (i + 1) ≤ 4294967295
      · rw [decide_eq_true (show (gs t 0 (i + 1) : Int) ≤ 4294967295 by omega)]
        refine ⟨.inl ⟨⟨i, hS, h5, hl⟩, ?_⟩, rfl⟩
        rw [wrap_u64 (by omega) (by omega), hz]
      · rw [decide_eq_false (show ¬ (gs t 0 (i + 1) : Int) ≤ 4294967295 by omega)]
        refine ⟨.inr ⟨?_, _, rfl⟩, rfl⟩
        rintro ⟨i', h1, h2, h3⟩
        have : i' = i := by have := h1.sz; omega
        subst this; exact hl h3
    · refine cond_false' (decide_eq_false (by omega)) ⟨.inr ⟨?_, _, rfl⟩, rfl⟩
      rintro ⟨i', h1, h2, h3⟩
      have := h1.sz; omega
  · refine ⟨_, _, _, rfl, cond_true' rfl ⟨.inr ⟨?_, _, rfl⟩, rfl⟩⟩
    rintro ⟨i, h1, _⟩
    exact hn ⟨i, h1⟩

theorem sv_lo (t : ByteArray) (i : Nat) (h : nb t i < 128) (h8 : i < 8) : spLo t true i = sv t 0 i := by
  unfold spLo sv
  rw [if_pos h8, Nat.zero_add, Nat.mod_eq_of_lt h]
  simp
theorem pow_eq (i : Nat) : (2 : Int) ^ (7 * i + 7) = 2 ^ (7 * i) * 128 := by rw [Int.pow_add]; rfl
theorem sv_rng (t : ByteArray) (i : Nat) (h8 : i ≤ 8) : -9223372036854775808 ≤ sv t 0 i ∧ sv t 0 i ≤ 9223372036854775807 := by
  have h1 := gs_lt t 0 (i + 1)
  have b : 2 ^ (7 * (i + 1)) ≤ 2 ^ 63 := Nat.pow_le_pow_right (by decide) (by omega)
  have e : (2 : Nat) ^ 63 = 9223372036854775808 := by decide
  have e2 : (2 : Int) ^ (7 * i + 7) = ((2 ^ (7 * (i + 1)) : Nat) : Int) := by rw [show 7 * i + 7 = 7 * (i + 1) by omega]; push_cast; rfl
  rw [e] at b
  unfold sv
  split
  · rw [e2]; omega
  · omega

theorem and_mask (x : Int) : bAnd .u64 (IntKind.wrap .u64 x) 4294967295 = x % 4294967296 := by
  rw [wrap_u64_mod]
  obtain ⟨n, hn⟩ : ∃ n : Nat, x % 18446744073709551616 = (n : Int) := ⟨(x % 18446744073709551616).toNat, by omega⟩
  have hlt : n < 18446744073709551616 := by omega
  rw [hn]
  have h : bAnd .u64 (n : Int) 4294967295 = ((n % 2 ^ 32 : Nat) : Int) := by
    unfold bAnd
    have e1 : (BitVec.ofInt (IntKind.bits .u64) (n : Int)).toNat = n := ofInt_toNat n 64 (by omega)
    have e2 : (BitVec.ofInt (IntKind.bits .u64) 4294967295).toNat = 4294967295 := by decide +kernel
    rw [BitVec.toNat_and, e1, e2, Nat.and_two_pow_sub_one_eq_mod n 32]
    exact wrap_nat .u64 rfl _ (Nat.lt_of_lt_of_le (Nat.mod_lt _ (by decide)) (by decide))
  rw [h]
  have e3 : (2 : Nat) ^ 32 = 4294967296 := by decide
  rw [e3]
  omega

theorem Owed65 (t : ByteArray) (h11 : t.size ≤ 11) (w : World) : Runs Try.prog binlaw_Owed.id #[.int .i64 65, .string t] w fun v w' => OwRes (∃ i, SpAt t i ∧ i < 5 ∧ -2147483648 ≤ sv t 0 i ∧ sv t 0 i ≤ 2147483647) (sv t 0 (t.size - 1) % 4294967296) v ∧ w' = w := by
  refine binlaw_Owed.enter _ _ _ _ _ ?_
  unfold binlaw_Owed.V
  refine cond_false' rfl ?_
  refine binlaw_Owed.step1 _ _ _ _ _ _ ?_
  unfold binlaw_Owed.V1
  refine cond_false' rfl ?_
  refine RunsQ.post (Spelt_spec t _ h11 w) ?_
  rintro v w' ⟨hv | ⟨hn, rfl⟩, rfl⟩
  · obtain ⟨i, hS, rfl⟩ := hv
    refine ⟨_, _, _, rfl, cond_false' rfl (cond_false' rfl (cond_true' rfl ?_))⟩
    have hz := hS.sz
    by_cases h5 : i < 5
    · refine cond_true' (decide_eq_true (by omega)) ?_
      have hlo : spLo t ((65 : Int) != (0 : Int)) i = sv t 0 i := sv_lo t i hS.last (by omega)
      rw [hlo, and_mask]
      by_cases hl : -2147483648 ≤ sv t 0 i
      · refine cond_true' (decide_eq_true hl) ?_
        by_cases hu : sv t 0 i ≤ 2147483647
        · rw [decide_eq_true (show sv t 0 i < 2147483648 by omega)]
          refine ⟨.inl ⟨⟨i, hS, h5, hl, hu⟩, ?_⟩, rfl⟩
          rw [show t.size - 1 = i by omega]
        · rw [decide_eq_false (show ¬ sv t 0 i < 2147483648 by omega)]
          refine ⟨.inr ⟨?_, _, rfl⟩, rfl⟩
          rintro ⟨i', h1, h2, h3, h4⟩
          have : i' = i := by have := h1.sz; omega
          subst this; exact hu h4
      · refine cond_false' (decide_eq_false hl) ⟨.inr ⟨?_, _, rfl⟩, rfl⟩
        rintro ⟨i', h1, h2, h3, h4⟩
        have : i' = i := by have := h1.sz; omega
        subst this; exact hl h3
    · refine cond_false' (decide_eq_false (by omega)) ⟨.inr ⟨?_, _, rfl⟩, rfl⟩
      rintro ⟨i', h1, h2, h3⟩
      have := h1.sz; omega
  · refine ⟨_, _, _, rfl, cond_true' rfl ⟨.inr ⟨?_, _, rfl⟩, rfl⟩⟩
    rintro ⟨i, h1, _⟩
    exact hn ⟨i, h1⟩

def ow66 (t : ByteArray) (i : Nat) : Int := if i ≤ 8 then sv t 0 i % 18446744073709551616 else (gs t 0 9 : Int) + ((nb t 9 % 2 : Nat) : Int) * 9223372036854775808

theorem gs9 (t : ByteArray) : (gs t 0 9 : Int) = (gs t 0 8 : Int) + ((nb t 8 % 128 : Nat) : Int) * 72057594037927936 := by
  have h9 := gs_succ t 0 8
  have e : ((gs t 0 (8 + 1) : Nat) : Int) = ((gs t 0 8 + nb t (0 + 8) % 128 * 2 ^ (7 * 8) : Nat) : Int) := congrArg _ h9
  rw [Int.natCast_add, Int.natCast_mul, Int.natCast_pow, Nat.zero_add] at e
  have e3 : ((2 : Nat) : Int) ^ (7 * 8) = 72057594037927936 := by decide
  rw [e3] at e
  exact e
theorem ar8 (G c : Int) : (G + (c - 128) * 72057594037927936) % 18446744073709551616 = (G + c * 72057594037927936 - 9223372036854775808) % 18446744073709551616 := by omega
theorem ar9 (G c : Int) (hG : 0 ≤ G) (hG2 : G < 72057594037927936) (hc : 0 ≤ c) (hc2 : c < 128) : (G + (c + 0 * 128 - 0) * 72057594037927936) % 18446744073709551616 = G + c * 72057594037927936 + 0 * 9223372036854775808 := by omega
theorem ar9' (G c : Int) (hG : 0 ≤ G) (hG2 : G < 72057594037927936) (hc : 0 ≤ c) (hc2 : c < 128) : (G + (c + 127 * 128 - 16384) * 72057594037927936) % 18446744073709551616 = G + c * 72057594037927936 + 1 * 9223372036854775808 := by omega

theorem wr66 (a b : Int) : IntKind.wrap .u64 (IntKind.wrap .u64 a + IntKind.wrap .u64 (IntKind.wrap .u64 b * 2 ^ (56 : Nat))) = (a + b * 72057594037927936) % 18446744073709551616 := by
  have e : (2 : Int) ^ (56 : Nat) = 72057594037927936 := by decide
  rw [e, wrap_u64_mod, wrap_u64_mod, wrap_u64_mod, wrap_u64_mod]; omega

def Sp66 (t : ByteArray) (i : Nat) : Prop := ((-128 ≤ spHi t true i ∧ spHi t true i < 128) ↔ (i = 9 → nb t 9 = 0 ∨ nb t 9 = 127)) ∧ ((-128 ≤ spHi t true i ∧ spHi t true i < 128) → IntKind.wrap .u64 (IntKind.wrap .u64 (spLo t true i) + IntKind.wrap .u64 (IntKind.wrap .u64 (spHi t true i) * 2 ^ (56 : Nat))) = ow66 t i)

theorem sp66_lt (t : ByteArray) (i : Nat) (hl : nb t i < 128) (h8 : i < 8) : Sp66 t i := by
  have e1 : spHi t true i = 0 := by unfold spHi; rw [if_pos h8]
  have e2 := sv_lo t i hl h8
  unfold Sp66
  rw [wr66]
  refine ⟨⟨fun _ g => by omega, fun _ => by omega⟩, fun _ => ?_⟩
  unfold ow66
  rw [if_pos (by omega), e1, e2]
  congr 1; omega

theorem sp66_8 (t : ByteArray) (hl : nb t 8 < 128) : Sp66 t 8 := by
  have h9 := gs9 t
  have g1 : gs t 8 1 = nb t 8 := by
    rw [gs_succ, gs_zero]; simp; omega
  have e1 : spHi t true 8 = (nb t 8 : Int) - (if 64 ≤ nb t 8 then 128 else 0) := by
    unfold spHi
    rw [if_neg (by decide), show 8 - 8 + 1 = 1 from rfl, g1]
    simp
  have e2 : spLo t true 8 = (gs t 0 8 : Int) := by unfold spLo; rw [if_neg (by decide)]
  have e4 : sv t 0 8 = (gs t 0 9 : Int) - (if 64 ≤ nb t 8 then 9223372036854775808 else 0) := by
    unfold sv
    have : (2 : Int) ^ (7 * 8 + 7) = 9223372036854775808 := by decide
    rw [Nat.zero_add, Nat.mod_eq_of_lt hl, this]
  rw [Nat.mod_eq_of_lt hl] at h9
  unfold Sp66
  rw [wr66]
  unfold ow66
  rw [if_pos (by decide), e1, e2, e4, h9]
  clear h9 g1 e1 e2 e4
  generalize (gs t 0 8 : Int) = G
  refine ⟨⟨fun _ g => by omega, fun _ => by split <;> omega⟩, fun _ => ?_⟩
  split
  · exact ar8 _ _
  · rw [Int.sub_zero, Int.sub_zero]

theorem sp66_9 (t : ByteArray) (hl : nb t 9 < 128) : Sp66 t 9 := by
  have h9 := gs9 t
  have g1 : gs t 8 1 = nb t 8 % 128 := by
    rw [gs_succ, gs_zero]; simp
  have g2 : (gs t 8 2 : Int) = ((nb t 8 % 128 : Nat) : Int) + (nb t 9 : Int) * 128 := by
    rw [gs_succ, g1, Nat.mod_eq_of_lt hl]
    rfl
  have e1 : spHi t true 9 = ((nb t 8 % 128 : Nat) : Int) + (nb t 9 : Int) * 128 - (if 64 ≤ nb t 9 then 16384 else 0) := by
    unfold spHi
    rw [if_neg (by decide), show 9 - 8 + 1 = 2 from rfl, g2]
    simp
  have e2 : spLo t true 9 = (gs t 0 8 : Int) := by unfold spLo; rw [if_neg (by decide)]
  have hg8' := gs_lt t 0 8
  have hG : (gs t 0 8 : Int) < 72057594037927936 := by
    have : ((gs t 0 8 : Nat) : Int) < ((2 ^ (7 * 8) : Nat) : Int) := by exact_mod_cast hg8'
    rw [Int.natCast_pow] at this
    have e3 : ((2 : Nat) : Int) ^ (7 * 8) = 72057594037927936 := by decide
    rw [e3] at this
    exact this
  have hG0 : (0 : Int) ≤ (gs t 0 8 : Int) := Int.natCast_nonneg _
  have hc0 : (0 : Int) ≤ ((nb t 8 % 128 : Nat) : Int) := Int.natCast_nonneg _
  have hc1 : ((nb t 8 % 128 : Nat) : Int) < 128 := by
    have := Nat.mod_lt (nb t 8) (show 0 < 128 by decide)
    omega
  unfold Sp66
  rw [wr66]
  unfold ow66
  rw [if_neg (by decide), e1, e2, h9]
  clear h9 e1 e2 g1 g2 hg8'
  generalize (gs t 0 8 : Int) = G at *
  generalize ((nb t 8 % 128 : Nat) : Int) = c8 at *
  generalize nb t 9 = c9 at *
  have cases : (-128 ≤ c8 + (c9 : Int) * 128 - (if 64 ≤ c9 then 16384 else 0) ∧ c8 + (c9 : Int) * 128 - (if 64 ≤ c9 then 16384 else 0) < 128) ↔ (c9 = 0 ∨ c9 = 127) := by
    by_cases h64 : 64 ≤ c9
    · rw [if_pos h64]; omega
    · rw [if_neg h64]; omega
  refine ⟨⟨fun g _ => cases.1 g, fun g => cases.2 (g rfl)⟩, fun g => ?_⟩
  rcases cases.1 g with rfl | rfl
  · rw [if_neg (by decide)]; exact ar9 G c8 hG0 hG hc0 hc1
  · rw [if_pos (by decide)]; exact ar9' G c8 hG0 hG hc0 hc1

theorem sp66 (t : ByteArray) (i : Nat) (hS : SpAt t i) (h10 : i < 10) : Sp66 t i := by
  by_cases h8 : i < 8
  · exact sp66_lt t i hS.last h8
  · by_cases g8 : i = 8
    · subst g8; exact sp66_8 t hS.last
    · obtain rfl : i = 9 := by omega
      exact sp66_9 t hS.last

theorem Owed66 (t : ByteArray) (h11 : t.size ≤ 11) (w : World) : Runs Try.prog binlaw_Owed.id #[.int .i64 66, .string t] w fun v w' => OwRes (∃ i, SpAt t i ∧ i < 10 ∧ (i = 9 → nb t 9 = 0 ∨ nb t 9 = 127)) (ow66 t (t.size - 1)) v ∧ w' = w := by
  refine binlaw_Owed.enter _ _ _ _ _ ?_
  unfold binlaw_Owed.V
  refine cond_false' rfl ?_
  refine binlaw_Owed.step1 _ _ _ _ _ _ ?_
  unfold binlaw_Owed.V1
  refine cond_false' rfl ?_
  refine RunsQ.post (Spelt_spec t _ h11 w) ?_
  rintro v w' ⟨hv | ⟨hn, rfl⟩, rfl⟩
  · obtain ⟨i, hS, rfl⟩ := hv
    refine ⟨_, _, _, rfl, cond_false' rfl (cond_false' rfl (cond_false' rfl ?_))⟩
    have hz := hS.sz
    by_cases h10 : i < 10
    · refine cond_true' (decide_eq_true (by omega)) ?_
      have hsg : ((66 : Int) != (0 : Int)) = true := rfl
      rw [hsg]
      obtain ⟨k1, k2⟩ := sp66 t i hS h10
      by_cases hl : -128 ≤ spHi t true i
      · refine cond_true' (decide_eq_true hl) ?_
        by_cases hu : spHi t true i < 128
        · rw [decide_eq_true hu]
          refine ⟨.inl ⟨⟨i, hS, h10, k1.1 ⟨hl, hu⟩⟩, ?_⟩, rfl⟩
          rw [show t.size - 1 = i by omega, k2 ⟨hl, hu⟩]
        · rw [decide_eq_false hu]
          refine ⟨.inr ⟨?_, _, rfl⟩, rfl⟩
          rintro ⟨i', h1, h2, h3⟩
          have : i' = i := by have := h1.sz; omega
          subst this; exact hu (k1.2 h3).2
      · refine cond_false' (decide_eq_false hl) ⟨.inr ⟨?_, _, rfl⟩, rfl⟩
        rintro ⟨i', h1, h2, h3⟩
        have : i' = i := by have := h1.sz; omega
        subst this; exact hl (k1.2 h3).1
    · refine cond_false' (decide_eq_false (by omega)) ⟨.inr ⟨?_, _, rfl⟩, rfl⟩
      rintro ⟨i', h1, h2, h3⟩
      have := h1.sz; omega
  · refine ⟨_, _, _, rfl, cond_true' rfl ⟨.inr ⟨?_, _, rfl⟩, rfl⟩⟩
    rintro ⟨i, h1, _⟩
    exact hn ⟨i, h1⟩

end Go.Proofs.Qxb6500316a
