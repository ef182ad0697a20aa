/-
  What the bytes of a number spell.
-/
import Derived.Test.Qxb6500316aBnO
set_option linter.unusedSimpArgs false
set_option linter.unusedVariables false
set_option maxRecDepth 100000
namespace Go.Proofs.Qxb6500316a
open Go Go.Vc

/-! ### Bits -/
theorem ofInt_toNat (n : Nat) (k : Nat) (h : n < 2 ^ k) : (BitVec.ofInt k (n : Int)).toNat = n := by
  rw [BitVec.ofInt_natCast, BitVec.toNat_ofNat, Nat.mod_eq_of_lt h]
theorem wrap_nat (k : IntKind) (hk : k.signed = false) (n : Nat) (h : n < 2 ^ k.bits) : k.wrap (n : Int) = (n : Int) := by
  unfold IntKind.wrap
  simp only [hk]
  have : ((n : Int) % 2 ^ k.bits) = (n : Int) := Int.emod_eq_of_lt (by omega) (by exact_mod_cast h)
  simp [this]
theorem bOr_nat (k : IntKind) (hk : k.signed = false) (a b : Nat) (ha : a < 2 ^ k.bits) (hb : b < 2 ^ k.bits) : bOr k (a : Int) (b : Int) = ((a ||| b : Nat) : Int) := by
  unfold bOr
  rw [BitVec.toNat_or, ofInt_toNat a _ ha, ofInt_toNat b _ hb]
  exact wrap_nat k hk _ (Nat.or_lt_two_pow ha hb)
theorem bOr_shl (k : IntKind) (hk : k.signed = false) (x y i : Nat) (hx : x < 2 ^ i) (h : x + y * 2 ^ i < 2 ^ k.bits) : bOr k (x : Int) ((y * 2 ^ i : Nat) : Int) = ((x + y * 2 ^ i : Nat) : Int) := by
  rw [bOr_nat k hk _ _ (by omega) (by omega)]
  congr 1
  have := Nat.shiftLeft_add_eq_or_of_lt hx y
  rw [Nat.shiftLeft_eq] at this
  rw [Nat.or_comm, ← this]
  omega
theorem bOr_shl' (k : IntKind) (hk : k.signed = false) (x y i : Nat) (hx : x < 2 ^ i) (h : x + y * 2 ^ i < 2 ^ k.bits) : bOr k ((y * 2 ^ i : Nat) : Int) (x : Int) = ((x + y * 2 ^ i : Nat) : Int) := by
  rw [← bOr_shl k hk x y i hx h]
  unfold bOr
  rw [BitVec.or_comm]
theorem bOr_u64_byte (v x : Int) (hv0 : 0 ≤ v) (hx0 : 0 ≤ x) (hx : x < 256) (hv : v < 72057594037927936) : bOr .u64 (IntKind.wrap .u64 (v * 2 ^ (8 : Nat))) x = x + 256 * v := by
  obtain ⟨n, rfl⟩ := Int.eq_ofNat_of_zero_le hv0
  obtain ⟨m, rfl⟩ := Int.eq_ofNat_of_zero_le hx0
  have e : IntKind.wrap .u64 ((n : Int) * 2 ^ (8 : Nat)) = ((n * 2 ^ 8 : Nat) : Int) := by
    rw [wrap_u64 (by omega) (by omega)]; omega
  rw [e, bOr_shl' .u64 rfl m n 8 (by omega) (by simp [IntKind.bits]; omega)]
  omega
theorem bOr_u64_any (v x : Int) (hv0 : 0 ≤ v) (hx0 : 0 ≤ x) (hx : x < 256) : bOr .u64 (IntKind.wrap .u64 (v * 2 ^ (8 : Nat))) (IntKind.wrap .u64 x) = (v * 256 + x) % 18446744073709551616 := by
  rw [wrap_u64 (x := x) (by omega) (by omega)]
  have e : IntKind.wrap .u64 (v * 2 ^ (8 : Nat)) = IntKind.wrap .u64 ((v % 72057594037927936) * 2 ^ (8 : Nat)) := by
    rw [wrap_u64_mod, wrap_u64_mod]; omega
  rw [e, bOr_u64_byte _ _ (by omega) hx0 hx (by omega)]
  omega
/-- One group more. -/
theorem or_step (k : IntKind) (hk : k.signed = false) (x y i : Nat) (hx : x < 2 ^ i) (hy : y < 2 ^ k.bits) (h : x + y * 2 ^ i < 2 ^ k.bits) : bOr k (x : Int) (k.wrap (k.wrap (y : Int) * 2 ^ i)) = ((x + y * 2 ^ i : Nat) : Int) := by
  rw [wrap_nat k hk y hy]
  have e : ((y : Int) * 2 ^ i) = ((y * 2 ^ i : Nat) : Int) := by push_cast; rfl
  rw [e, wrap_nat k hk _ (by omega)]
  exact bOr_shl k hk x y i hx h

/-! ### Bytes -/
def nb (s : ByteArray) (j : Nat) : Nat := (s.data.getD j 0).toNat
theorem byteAt_nb (s : ByteArray) (j : Nat) : byteAt s j = (nb s j : Int) := rfl
theorem nb_lt (s : ByteArray) (j : Nat) : nb s j < 256 := (s.data.getD j 0).toNat_lt
theorem nb_append (a b : ByteArray) (i : Nat) : nb (a ++ b) i = if i < a.size then nb a i else nb b (i - a.size) := by
  have h : (a ++ b).data = a.data ++ b.data := ByteArray.data_append
  have hs : a.size = a.data.size := rfl
  unfold nb
  rw [h, hs]
  simp only [Array.getD_eq_getD_getElem?, Array.getElem?_append]
  split <;> rfl
theorem tmod128 (n : Nat) : Int.tmod (n : Int) 128 = ((n % 128 : Nat) : Int) := rfl

/-- The groups of seven bits, the low one first. -/
def gs (s : ByteArray) (a : Nat) : Nat → Nat
  | 0 => 0
  | i + 1 => gs s a i + (nb s (a + i) % 128) * 2 ^ (7 * i)
theorem gs_zero (s : ByteArray) (a : Nat) : gs s a 0 = 0 := rfl
theorem gs_succ (s : ByteArray) (a i : Nat) : gs s a (i + 1) = gs s a i + (nb s (a + i) % 128) * 2 ^ (7 * i) := rfl
theorem gs_lt (s : ByteArray) (a : Nat) : ∀ i, gs s a i < 2 ^ (7 * i)
  | 0 => by simp [gs]
  | i + 1 => by
    have ih := gs_lt s a i
    have h : nb s (a + i) % 128 ≤ 127 := by omega
    have h2 := Nat.mul_le_mul_right (2 ^ (7 * i)) h
    rw [gs_succ, show 7 * (i + 1) = 7 * i + 7 by omega, Nat.pow_add]
    omega
theorem gs_congr (s t : ByteArray) (a b : Nat) : ∀ i, (∀ j, j < i → nb s (a + j) = nb t (b + j)) → gs s a i = gs t b i
  | 0, _ => rfl
  | i + 1, h => by rw [gs_succ, gs_succ, gs_congr s t a b i (fun j hj => h j (by omega)), h i (by omega)]
theorem gs_split (s : ByteArray) (a i : Nat) : ∀ k, gs s a (i + k) = gs s a i + gs s (a + i) k * 2 ^ (7 * i)
  | 0 => by simp [gs_zero]
  | k + 1 => by
    rw [show i + (k + 1) = (i + k) + 1 by omega, gs_succ, gs_split s a i k, gs_succ, Nat.add_mul, show 7 * (i + k) = 7 * k + 7 * i by omega, Nat.pow_add, Nat.add_assoc a i k, Nat.mul_assoc]
    omega

/-! ### u32 -/
theorem nextP_in {s : ByteArray} {e p : Nat} (h : p < e) : nextP s e p = .ok (nb s p : Int) (p + 1) := by
  unfold nextP; rw [if_pos h]; rfl
theorem nextP_out {s : ByteArray} {e p : Nat} (h : ¬ p < e) : nextP s e p = .err 3 e := by
  unfold nextP; rw [if_neg h]

theorem u32_step (s : ByteArray) (a i : Nat) (hi : i < 5) (h4 : i = 4 → nb s (a + i) ≤ 15) : bOr .u32 (gs s a i : Int) (IntKind.wrap .u32 (IntKind.wrap .u32 (Int.tmod (nb s (a + i) : Int) 128) * 2 ^ (min (Int.toNat ((7 * i : Nat) : Int)) (IntKind.bits .u32)))) = (gs s a (i + 1) : Int) := by
  have hm : min (Int.toNat ((7 * i : Nat) : Int)) (IntKind.bits .u32) = 7 * i := by
    rw [Int.toNat_natCast]; show min (7 * i) 32 = 7 * i; omega
  have hb : IntKind.bits .u32 = 32 := rfl
  rw [hm, tmod128, gs_succ]
  refine or_step .u32 rfl _ _ _ (gs_lt s a i) (by rw [hb]; omega) ?_
  have h1 := gs_lt s a i
  rw [hb]
  by_cases h : i = 4
  · subst h
    have := h4 rfl
    have e1 : (2 : Nat) ^ (7 * 4) = 268435456 := by decide
    have e2 : (2 : Nat) ^ 32 = 4294967296 := by decide
    rw [e1] at h1 ⊢
    rw [e2]
    omega
  · have h2 := gs_lt s a (i + 1)
    rw [gs_succ] at h2
    refine Nat.lt_of_lt_of_le h2 (Nat.pow_le_pow_right (by decide) (by omega))

theorem u32_pre (s : ByteArray) (e a : Nat) : ∀ i k, i + k = 5 → 1 ≤ k → (∀ j, j < i → 128 ≤ nb s (a + j)) → a + i ≤ e → u32P s e a = u32L s e a k (gs s a i) ((7 * i : Nat) : Int) (a + i)
  | 0, k, hk, _, _, _ => by
    obtain rfl : k = 5 := by omega
    rfl
  | i + 1, k, hk, h1, hp, he => by
    rw [u32_pre s e a i (k + 1) (by omega) (by omega) (fun j hj => hp j (by omega)) (by omega), u32L_succ, nextP_in (by omega)]
    simp only [Res.bind]
    have hc := hp i (by omega)
    rw [if_neg (by omega), if_neg (by omega), u32_step s a i (by omega) (by omega)]
    congr 1

theorem u32_last (s : ByteArray) (e a i : Nat) (hi : i < 5) (hp : ∀ j, j < i → 128 ≤ nb s (a + j)) (he : a + i < e) (hl : nb s (a + i) < 128) (h4 : i = 4 → nb s (a + i) ≤ 15) : u32P s e a = .ok (gs s a (i + 1)) (a + i + 1) := by
  rw [u32_pre s e a i (5 - i) (by omega) (by omega) hp (by omega), show 5 - i = (4 - i) + 1 by omega, u32L_succ, nextP_in he]
  simp only [Res.bind]
  rw [if_neg (by omega), if_pos (by omega), u32_step s a i hi h4]

theorem u32_invL (s : ByteArray) (e a : Nat) : ∀ k i, i + k = 5 → (∀ j, j < i → 128 ≤ nb s (a + j)) → ∀ x q, u32L s e a k (gs s a i) ((7 * i : Nat) : Int) (a + i) = .ok x q →
    ∃ i, i < 5 ∧ (∀ j, j < i → 128 ≤ nb s (a + j)) ∧ a + i < e ∧ nb s (a + i) < 128 ∧ (i = 4 → nb s (a + i) ≤ 15) ∧ x = (gs s a (i + 1) : Int) ∧ q = a + i + 1
  | 0, i, _, _, x, q, h => by cases h
  | k + 1, i, hk, hp, x, q, h => by
    rw [u32L_succ] at h
    by_cases he : a + i < e
    · rw [nextP_in he] at h
      simp only [Res.bind] at h
      by_cases h4 : ((7 * i : Nat) : Int) = 28 ∧ 15 < (nb s (a + i) : Int)
      · rw [if_pos h4] at h; cases h
      · have h4' : i = 4 → nb s (a + i) ≤ 15 := by intro g; subst g; omega
        rw [if_neg h4, u32_step s a i (by omega) h4'] at h
        by_cases hc : (nb s (a + i) : Int) < 128
        · rw [if_pos hc] at h
          (first | (injection h with z__; injection z__ with g1 g2) | injection h with g1 g2)
          exact ⟨i, by omega, hp, he, by omega, h4', g1.symm, g2.symm⟩
        · rw [if_neg hc] at h
          refine u32_invL s e a k (i + 1) (by omega) (fun j hj => ?_) x q ?_
          · by_cases hj' : j = i
            · subst hj'; omega
            · exact hp j (by omega)
          · rw [← h]
            congr 1
    · rw [nextP_out he] at h; cases h
theorem u32_inv (s : ByteArray) (e a : Nat) (x : Int) (q : Nat) (h : u32P s e a = .ok x q) :
    ∃ i, i < 5 ∧ (∀ j, j < i → 128 ≤ nb s (a + j)) ∧ a + i < e ∧ nb s (a + i) < 128 ∧ (i = 4 → nb s (a + i) ≤ 15) ∧ x = (gs s a (i + 1) : Int) ∧ q = a + i + 1 :=
  u32_invL s e a 5 0 rfl (fun j hj => by omega) x q h
/-- A number of one byte. -/
theorem u32_one (s : ByteArray) (e a : Nat) (he : a < e) (h : nb s a < 128) : u32P s e a = .ok (nb s a : Int) (a + 1) := by
  rw [u32_last s e a 0 (by decide) (fun j hj => by omega) he h (fun g => by omega), gs_succ, gs_zero]
  congr 1
  simp
  omega

/-! ### sleb -/
theorem sleb_step (s : ByteArray) (a i : Nat) (hi : i ≤ 8) : slebStep (gs s a i : Int) (nb s (a + i) : Int) ((7 * i : Nat) : Int) = (gs s a (i + 1) : Int) := by
  unfold slebStep
  have hm : min (Int.toNat ((7 * i : Nat) : Int)) (IntKind.bits .u64) = 7 * i := by
    rw [Int.toNat_natCast]; show min (7 * i) 64 = 7 * i; omega
  have hb : IntKind.bits .u64 = 64 := rfl
  rw [hm, tmod128, gs_succ]
  refine or_step .u64 rfl _ _ _ (gs_lt s a i) (by rw [hb]; omega) ?_
  have h2 := gs_lt s a (i + 1)
  rw [gs_succ] at h2
  refine Nat.lt_of_lt_of_le h2 (Nat.pow_le_pow_right (by decide) (by omega))
theorem sleb_step9 (s : ByteArray) (a : Nat) : slebStep (gs s a 9 : Int) (nb s (a + 9) : Int) ((7 * 9 : Nat) : Int) = ((gs s a 9 + (nb s (a + 9) % 2) * 9223372036854775808 : Nat) : Int) := by
  unfold slebStep
  have hm : min (Int.toNat ((7 * 9 : Nat) : Int)) (IntKind.bits .u64) = 63 := rfl
  rw [hm, tmod128]
  have hw : IntKind.wrap .u64 ((nb s (a + 9) % 128 : Nat) : Int) = ((nb s (a + 9) % 128 : Nat) : Int) := wrap_u64 (by omega) (by omega)
  have e : IntKind.wrap .u64 (IntKind.wrap .u64 ((nb s (a + 9) % 128 : Nat) : Int) * 2 ^ 63) = (((nb s (a + 9) % 2) * 2 ^ 63 : Nat) : Int) := by
    rw [hw, wrap_u64_mod]
    have e2 : (2 : Int) ^ 63 = 9223372036854775808 := by decide
    have e3 : (2 : Nat) ^ 63 = 9223372036854775808 := by decide
    rw [e2, e3]
    omega
  rw [e, bOr_shl .u64 rfl _ _ 63 (gs_lt s a 9)]
  · have h1 := gs_lt s a 9
    have e1 : (2 : Nat) ^ (7 * 9) = 9223372036854775808 := by decide
    have e2 : (2 : Nat) ^ (IntKind.bits .u64) = 18446744073709551616 := by decide
    have e3 : (2 : Nat) ^ 63 = 9223372036854775808 := by decide
    rw [e2, e3]
    rw [e1] at h1
    omega

def slebV (s : ByteArray) (a i : Nat) : Int := slebStep (gs s a i : Int) (nb s (a + i) : Int) ((7 * i : Nat) : Int)

theorem sleb_pre (s : ByteArray) (e a : Nat) (bits : Int) : ∀ i k, i + k = 11 → i ≤ 9 → (∀ j, j < i → ((7 * j : Nat) : Int) < bits) → (∀ j, j < i → 128 ≤ nb s (a + j)) → a + i ≤ e → slebL s e a bits 11 0 0 a = slebL s e a bits k (gs s a i) ((7 * i : Nat) : Int) (a + i)
  | 0, k, hk, _, _, _, _ => by
    obtain rfl : k = 11 := by omega
    rfl
  | i + 1, k, hk, h9, hb, hp, he => by
    rw [sleb_pre s e a bits i (k + 1) (by omega) (by omega) (fun j hj => hb j (by omega)) (fun j hj => hp j (by omega)) (by omega), slebL_succ]
    have hbi := hb i (by omega)
    have hc := hp i (by omega)
    rw [if_neg (by omega), nextP_in (by omega)]
    simp only [Res.bind]
    rw [if_neg (by omega), sleb_step s a i (by omega)]
    congr 1

theorem sleb_last (s : ByteArray) (e a : Nat) (bits : Int) (i : Nat) (hi : i ≤ 9) (hb : ((7 * i : Nat) : Int) < bits) (hp : ∀ j, j < i → 128 ≤ nb s (a + j)) (he : a + i < e) (hl : nb s (a + i) < 128) :
    slebL s e a bits 11 0 0 a = .ok (slebV s a i, (nb s (a + i) : Int), ((7 * i + 7 : Nat) : Int)) (a + i + 1) := by
  rw [sleb_pre s e a bits i (11 - i) (by omega) hi (fun j hj => by omega) hp (by omega), show 11 - i = (10 - i) + 1 by omega, slebL_succ, if_neg (by omega), nextP_in he]
  simp only [Res.bind]
  rw [if_pos (by omega), tmod128, Nat.mod_eq_of_lt hl]
  rfl

theorem sleb_invL (s : ByteArray) (e a : Nat) (bits : Int) (hb : bits ≤ 64) : ∀ k i, i + k = 11 → i ≤ 10 → (∀ j, j < i → 128 ≤ nb s (a + j)) → ∀ v x q, (i ≤ 9 → v = (gs s a i : Int)) → slebL s e a bits k v ((7 * i : Nat) : Int) (a + i) = .ok x q →
    ∃ i, i ≤ 9 ∧ ((7 * i : Nat) : Int) < bits ∧ (∀ j, j < i → 128 ≤ nb s (a + j)) ∧ a + i < e ∧ nb s (a + i) < 128 ∧ x = (slebV s a i, (nb s (a + i) : Int), ((7 * i + 7 : Nat) : Int)) ∧ q = a + i + 1
  | 0, i, _, _, _, v, x, q, _, h => by cases h
  | k + 1, i, hk, h10, hp, v, x, q, hv, h => by
    rw [slebL_succ] at h
    by_cases hbi : bits ≤ ((7 * i : Nat) : Int)
    · rw [if_pos hbi] at h; cases h
    · rw [if_neg hbi] at h
      have hv := hv (by omega)
      by_cases he : a + i < e
      · rw [nextP_in he] at h
        simp only [Res.bind] at h
        by_cases hc : (nb s (a + i) : Int) < 128
        · rw [if_pos hc] at h
          (first | (injection h with z__; injection z__ with g1 g2) | injection h with g1 g2)
          refine ⟨i, by omega, by omega, hp, he, by omega, ?_, g2.symm⟩
          rw [← g1, hv, tmod128, Nat.mod_eq_of_lt (by omega : nb s (a + i) < 128)]
          rfl
        · rw [if_neg hc] at h
          refine sleb_invL s e a bits hb k (i + 1) (by omega) (by omega) (fun j hj => ?_) _ x q ?_ h
          · by_cases hj' : j = i
            · subst hj'; omega
            · exact hp j (by omega)
          · intro g
            rw [hv]
            exact sleb_step s a i (by omega)
      · rw [nextP_out he] at h; cases h
theorem sleb_inv (s : ByteArray) (e a : Nat) (bits : Int) (hb : bits ≤ 64) (x : Int × Int × Int) (q : Nat) (h : slebL s e a bits 11 0 0 a = .ok x q) :
    ∃ i, i ≤ 9 ∧ ((7 * i : Nat) : Int) < bits ∧ (∀ j, j < i → 128 ≤ nb s (a + j)) ∧ a + i < e ∧ nb s (a + i) < 128 ∧ x = (slebV s a i, (nb s (a + i) : Int), ((7 * i + 7 : Nat) : Int)) ∧ q = a + i + 1 :=
  sleb_invL s e a bits hb 11 0 rfl (by decide) (fun j hj => by omega) 0 x q (fun _ => rfl) h

theorem wrap_i64_sub (x : Int) : IntKind.wrap .i64 x = IntKind.wrap .i64 (x - 18446744073709551616) := by
  have e : (x - 18446744073709551616) % (2 ^ IntKind.bits .i64) = x % (2 ^ IntKind.bits .i64) := by
    have e2 : (2 : Int) ^ IntKind.bits .i64 = 18446744073709551616 := by decide
    rw [e2]; omega
  unfold IntKind.wrap
  simp only [e]

/-- The number with its sign. -/
def sv (s : ByteArray) (a i : Nat) : Int := (gs s a (i + 1) : Int) - (if 64 ≤ nb s (a + i) % 128 then 2 ^ (7 * i + 7) else 0)

theorem slebX_eq (s : ByteArray) (a i : Nat) (hi : i ≤ 8) : slebX (slebV s a i) ((7 * i + 7 : Nat) : Int) = sv s a i := by
  unfold slebV
  rw [sleb_step s a i hi]
  unfold slebX sv
  obtain ⟨u, hu⟩ : ∃ u, u + (7 * i + 7) = 64 := ⟨64 - (7 * i + 7), by omega⟩
  have hup : IntKind.wrap .u64 (64 - ((7 * i + 7 : Nat) : Int)) = (u : Int) := by rw [wrap_u64 (by omega) (by omega)]; omega
  have hm1 : min (Int.toNat (u : Int)) (IntKind.bits .u64) = u := by rw [Int.toNat_natCast]; show min u 64 = u; omega
  have hm2 : min (Int.toNat (u : Int)) (IntKind.bits .i64) = u := by rw [Int.toNat_natCast]; show min u 64 = u; omega
  rw [hup, hm1, hm2]
  have h1 := gs_lt s a (i + 1)
  have h0 := gs_lt s a i
  have hg := gs_succ s a i
  generalize hv : gs s a (i + 1) = v at *
  generalize hgi : gs s a i = g at *
  generalize hc : nb s (a + i) % 128 = c at *
  have hc' : c < 128 := by omega
  have p1 : (2 : Nat) ^ u * 2 ^ (7 * i) = 144115188075855872 := by rw [← Nat.pow_add, show u + 7 * i = 57 by omega]
  have p2 : (2 : Nat) ^ (7 * i + 7) = 2 ^ (7 * i) * 128 := by rw [Nat.pow_add]
  have hv2 : v * 2 ^ u = g * 2 ^ u + c * 144115188075855872 := by rw [hg, Nat.add_mul, Nat.mul_assoc, Nat.mul_comm (2 ^ (7 * i)), p1]
  have hg2 : g * 2 ^ u < 144115188075855872 := by rw [← p1, Nat.mul_comm (2 ^ u)]; exact Nat.mul_lt_mul_of_pos_right h0 (Nat.two_pow_pos u)
  have ecast : (v : Int) * 2 ^ u = ((v * 2 ^ u : Nat) : Int) := by push_cast; rfl
  have hU : IntKind.wrap .u64 ((v : Int) * 2 ^ u) = ((v * 2 ^ u : Nat) : Int) := by rw [ecast]; exact wrap_u64 (by omega) (by omega)
  have hpos : (0 : Int) < 2 ^ u := by exact_mod_cast Nat.two_pow_pos u
  rw [hU]
  by_cases h64 : 64 ≤ c
  · rw [if_pos h64]
    have hI : IntKind.wrap .i64 ((v * 2 ^ u : Nat) : Int) = ((v : Int) - 2 ^ (7 * i + 7)) * 2 ^ u := by
      have e64 : ((2 : Int) ^ (7 * i + 7)) * 2 ^ u = 18446744073709551616 := by
        have : (2 : Int) ^ (7 * i + 7) * 2 ^ u = 2 ^ ((7 * i + 7) + u) := (Int.pow_add 2 _ _).symm
        rw [this, show 7 * i + 7 + u = 64 by omega]; decide
      rw [Int.sub_mul, e64, ecast]
      have : IntKind.wrap .i64 ((v * 2 ^ u : Nat) : Int) = IntKind.wrap .i64 (((v * 2 ^ u : Nat) : Int) - 18446744073709551616) := by
        exact wrap_i64_sub _
      rw [this, wrap_i64 (by omega) (by omega)]
    rw [hI, Int.mul_fdiv_cancel _ (by omega)]
  · rw [if_neg h64]
    have hI : IntKind.wrap .i64 ((v * 2 ^ u : Nat) : Int) = (v : Int) * 2 ^ u := by rw [wrap_i64 (by omega) (by omega), ecast]
    rw [hI, Int.mul_fdiv_cancel _ (by omega)]
    omega

end Go.Proofs.Qxb6500316a
