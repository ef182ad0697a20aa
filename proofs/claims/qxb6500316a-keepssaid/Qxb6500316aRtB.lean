/-
  Signed numbers and words, written and read again.
-/
import Derived.Test.Qxb6500316aRtA
import Derived.Test.Qxb6500316aWfA
set_option linter.unusedSimpArgs false
set_option linter.unusedVariables false
set_option maxRecDepth 100000
namespace Go.Proofs.Qxb6500316a
open Go Go.Vc

theorem or128b (v : Int) (h0 : 0 ≤ v) (h1 : v < 128) : bOr .u8 v 128 = v + 128 := by
  have := or128 v
  rw [wrapU8_mod, Int.emod_eq_of_lt h0 (by omega)] at this
  rw [this, Int.emod_eq_of_lt h0 h1]
theorem slebF_bytes : ∀ (k : Nat) (x : Int), Byt (slebF k x)
  | 0, x => Byt.nil
  | k + 1, x => by
    rw [slebF_succ, and127]
    split
    · exact Byt.cons (by omega) Byt.nil
    · exact Byt.cons (by rw [or128b _ (by omega) (by omega)]; omega) (slebF_bytes k _)
theorem sleb_bytes (x : Int) : Byt (sleb x) := slebF_bytes 10 x
theorem sv_succ (s : ByteArray) (p i : Nat) : sv s p (i + 1) = ((nb s p % 128 : Nat) : Int) + 128 * sv s (p + 1) i := by
  unfold sv
  have g := gs_split s p 1 (i + 1)
  have g1 : gs s p 1 = nb s p % 128 := by rw [gs_succ, gs_zero]; simp
  rw [show i + 1 + 1 = 1 + (i + 1) by omega, g, g1]
  have e7 : (2 : Nat) ^ (7 * 1) = 128 := by decide
  have ep : (2 : Int) ^ (7 * (i + 1) + 7) = 2 ^ (7 * i + 7) * 128 := by
    rw [show 7 * (i + 1) + 7 = (7 * i + 7) + 7 by omega, Int.pow_add]; rfl
  rw [e7, ep, show p + (i + 1) = p + 1 + i by omega]
  have ec : ((nb s p % 128 + gs s (p + 1) (i + 1) * 128 : Nat) : Int) = ((nb s p % 128 : Nat) : Int) + (gs s (p + 1) (i + 1) : Int) * 128 := by push_cast; rfl
  rw [ec]
  split
  · rw [Int.mul_sub]; omega
  · omega
theorem sv_zero (s : ByteArray) (p : Nat) (h : nb s p < 128) : sv s p 0 = (nb s p : Int) - (if 64 ≤ nb s p then 128 else 0) := by
  unfold sv
  rw [gs_succ, gs_zero, Nat.add_zero, Nat.mod_eq_of_lt h]
  have e0 : (2 : Nat) ^ (7 * 0) = 1 := by decide
  have e1 : (2 : Int) ^ (7 * 0 + 7) = 128 := by decide
  rw [e0, e1]
  simp
/-- x within m bytes. -/
def SIn (m : Nat) (x : Int) : Prop := -(64 * 128 ^ (m - 1) : Int) ≤ x ∧ x < 64 * 128 ^ (m - 1)
theorem SIn.div {m : Nat} {x : Int} (h : SIn (m + 2) x) : SIn (m + 1) (x / 128) := by
  unfold SIn at *
  have e : (128 : Int) ^ (m + 2 - 1) = 128 ^ (m + 1 - 1) * 128 := by
    rw [show m + 2 - 1 = m + 1 by omega, show m + 1 - 1 = m by omega]; exact Int.pow_succ ..
  rw [e] at h
  obtain ⟨h1, h2⟩ := h
  generalize (128 : Int) ^ (m + 1 - 1) = Z at *
  constructor
  · omega
  · omega
theorem slebF_at {s : ByteArray} : ∀ (k : Nat) (x : Int) (p : Nat), 1 ≤ k → SIn k x → At s p (slebF k x) →
    ∃ i, (slebF k x).length = i + 1 ∧ (∀ j, j < i → 128 ≤ nb s (p + j)) ∧ nb s (p + i) < 128 ∧ sv s p i = x
  | 0, x, p, hk, _, _ => by omega
  | k + 1, x, p, _, hx, h => by
    rw [slebF_succ, and127, fdiv128] at h ⊢
    split at h
    · rename_i hc
      rw [if_pos hc]
      have hh := h.head
      rw [byteAt_nb] at hh
      have hlt : nb s p < 128 := by omega
      refine ⟨0, rfl, fun j hj => by omega, by rw [Nat.add_zero]; exact hlt, ?_⟩
      rw [sv_zero s p hlt]
      split <;> omega
    · rename_i hc
      rw [if_neg hc]
      have hk : 1 ≤ k := by
        cases k with
        | zero => exfalso; apply hc; unfold SIn at hx; simp at hx; omega
        | succ k => omega
      obtain ⟨k', rfl⟩ : ∃ k', k = k' + 1 := ⟨k - 1, by omega⟩
      obtain ⟨i, l1, l2, l3, l4⟩ := slebF_at (k' + 1) (x / 128) (p + 1) hk hx.div h.tail
      have hh := h.head
      rw [or128b _ (by omega) (by omega), byteAt_nb] at hh
      refine ⟨i + 1, by rw [List.length_cons, l1], fun j hj => ?_, by rw [show p + (i + 1) = p + 1 + i by omega]; exact l3, ?_⟩
      · cases j with
        | zero => rw [Nat.add_zero]; omega
        | succ j => rw [show p + (j + 1) = p + 1 + j by omega]; exact l2 j (by omega)
      · rw [sv_succ, l4]; omega
theorem slebF_short : ∀ (k m : Nat) (x : Int), 1 ≤ m → SIn m x → (slebF k x).length ≤ m
  | 0, m, x, _, _ => Nat.zero_le _
  | k + 1, m, x, hm, hx => by
    rw [slebF_succ, and127, fdiv128]
    split
    · exact hm
    · rename_i hc
      obtain ⟨m', rfl⟩ : ∃ m', m = m' + 1 := ⟨m - 1, by omega⟩
      cases m' with
      | zero => exfalso; apply hc; unfold SIn at hx; simp at hx; omega
      | succ m' =>
        rw [List.length_cons]
        have := slebF_short k (m' + 1) (x / 128) (by omega) hx.div
        omega
theorem p9 : (128 : Int) ^ (10 - 1) = 9223372036854775808 := by decide
theorem p4 : (128 : Int) ^ (5 - 1) = 268435456 := by decide
theorem sin10 {x : Int} (h0 : -9223372036854775808 ≤ x) (h1 : x ≤ 9223372036854775807) : SIn 10 x := by unfold SIn; rw [p9]; omega
theorem sin5 {x : Int} (h0 : -2147483648 ≤ x) (h1 : x ≤ 2147483647) : SIn 5 x := by unfold SIn; rw [p4]; omega
theorem sleb64_at {s : ByteArray} {e p : Nat} {x : Int} (h0 : -9223372036854775808 ≤ x) (h1 : x ≤ 9223372036854775807) (ha : At s p (sleb x)) (he : p + (sleb x).length ≤ e) : slebP s e 64 p = .ok (x % 18446744073709551616) (p + (sleb x).length) := by
  obtain ⟨i, l1, l2, l3, l4⟩ := slebF_at 10 x p (by decide) (sin10 h0 h1) ha
  have l1 : (sleb x).length = i + 1 := l1
  have hl := sleb_len x
  rw [l1] at he hl ⊢
  unfold slebP
  rw [sleb_last s e p 64 i (by omega) (by omega) l2 (by omega) l3]
  simp only [Res.bind]
  by_cases h9 : i ≤ 8
  · rw [fin64 s p i h9, l4]; simp only []; rw [Nat.add_assoc]
  · obtain rfl : i = 9 := by omega
    rw [fin64_9]
    unfold sv at l4
    rw [gs_succ, Nat.mod_eq_of_lt l3] at l4
    have e63 : (2 : Nat) ^ (7 * 9) = 9223372036854775808 := by decide
    have e70 : (2 : Int) ^ (7 * 9 + 7) = 1180591620717411303424 := by decide
    have hg := gs_lt s p 9
    rw [e63] at l4 hg
    rw [e70] at l4
    have ec : ((gs s p 9 + nb s (p + 9) * 9223372036854775808 : Nat) : Int) = (gs s p 9 : Int) + (nb s (p + 9) : Int) * 9223372036854775808 := by rw [Int.natCast_add, Int.natCast_mul]; rfl
    rw [ec] at l4
    generalize hG : (gs s p 9 : Int) = G at *
    have hG0 : 0 ≤ G := by omega
    have hG1 : G < 9223372036854775808 := by omega
    generalize hN : nb s (p + 9) = N at *
    by_cases h64 : 64 ≤ N
    · rw [if_pos h64] at l4
      have hN : N = 127 := by omega
      subst hN
      rw [if_neg (by decide)]
      simp only []
      congr 1
      omega
    · rw [if_neg h64] at l4
      have hN : N = 0 := by omega
      subst hN
      rw [if_neg (by decide)]
      simp only []
      congr 1
      omega
theorem sleb32_at {s : ByteArray} {e p : Nat} {x : Int} (h0 : -2147483648 ≤ x) (h1 : x ≤ 2147483647) (ha : At s p (sleb x)) (he : p + (sleb x).length ≤ e) : slebP s e 32 p = .ok (x % 4294967296) (p + (sleb x).length) := by
  obtain ⟨i, l1, l2, l3, l4⟩ := slebF_at 10 x p (by decide) (sin10 (by omega) (by omega)) ha
  have l1 : (sleb x).length = i + 1 := l1
  have hl : (sleb x).length ≤ 5 := slebF_short 10 5 x (by decide) (sin5 h0 h1)
  rw [l1] at he hl ⊢
  unfold slebP
  rw [sleb_last s e p 32 i (by omega) (by omega) l2 (by omega) l3]
  simp only [Res.bind]
  rw [fin32 s p i (by omega), l4, if_neg (by omega)]
  simp only []
  rw [Nat.add_assoc]
theorem sv_in (s : ByteArray) : ∀ (i p : Nat), nb s (p + i) < 128 → SIn (i + 1) (sv s p i)
  | 0, p, h => by
    rw [Nat.add_zero] at h
    rw [sv_zero s p h]
    unfold SIn
    simp
    split <;> omega
  | i + 1, p, h => by
    rw [sv_succ]
    have := sv_in s i (p + 1) (by rw [show p + 1 + i = p + (i + 1) by omega]; exact h)
    unfold SIn at *
    have e : (128 : Int) ^ (i + 1 + 1 - 1) = 128 ^ (i + 1 - 1) * 128 := by
      rw [show i + 1 + 1 - 1 = i + 1 by omega, show i + 1 - 1 = i by omega]; exact Int.pow_succ ..
    rw [e]
    generalize (128 : Int) ^ (i + 1 - 1) = Z at *
    have : nb s p % 128 < 128 := Nat.mod_lt _ (by decide)
    omega
theorem wrap_i64_e (x : Int) : IntKind.wrap .i64 x = if x % 18446744073709551616 ≥ 9223372036854775808 then x % 18446744073709551616 - 18446744073709551616 else x % 18446744073709551616 := by
  unfold IntKind.wrap
  simp [IntKind.bits, IntKind.signed]
theorem wrap_i32_e (x : Int) : IntKind.wrap .i32 x = if x % 4294967296 ≥ 2147483648 then x % 4294967296 - 4294967296 else x % 4294967296 := by
  unfold IntKind.wrap
  simp [IntKind.bits, IntKind.signed]
/-- The signed reading of a constant. -/
def sg32 (y : Int) : Int := IntKind.wrap .i64 (IntKind.wrap .i32 (IntKind.wrap .u32 y))
theorem sg32_rng (y : Int) : -2147483648 ≤ sg32 y ∧ sg32 y ≤ 2147483647 := by
  unfold sg32
  have h : -2147483648 ≤ IntKind.wrap .i32 (IntKind.wrap .u32 y) ∧ IntKind.wrap .i32 (IntKind.wrap .u32 y) ≤ 2147483647 := by rw [wrap_i32_e]; split <;> omega
  rw [wrap_i64 (by omega) (by omega)]; exact h
theorem sg32_mod (y : Int) (h0 : 0 ≤ y) (h1 : y ≤ 4294967295) : sg32 y % 4294967296 = y := by
  unfold sg32
  have h : -2147483648 ≤ IntKind.wrap .i32 (IntKind.wrap .u32 y) ∧ IntKind.wrap .i32 (IntKind.wrap .u32 y) ≤ 2147483647 := by rw [wrap_i32_e]; split <;> omega
  rw [wrap_i64 (by omega) (by omega), wrap_u32 h0 h1, wrap_i32_e]
  split <;> omega
theorem sg64_mod (y : Int) (h0 : 0 ≤ y) (h1 : y ≤ 18446744073709551615) : IntKind.wrap .i64 y % 18446744073709551616 = y := by
  rw [wrap_i64_e]; split <;> omega
theorem sleb32_cost {s : ByteArray} {e p q : Nat} {y : Int} (h : slebP s e 32 p = .ok y q) : p + (sleb (sg32 y)).length ≤ q := by
  obtain ⟨x, q', h1, h2⟩ := bind_ok h
  obtain ⟨i, i9, ib, _, _, hl, hx, hq⟩ := sleb_inv s e p 32 (by decide) x q' h1
  subst hx
  simp only at h2
  rw [fin32 s p i (by omega)] at h2
  by_cases hr : sv s p i < -2147483648 ∨ 2147483647 < sv s p i
  · rw [if_pos hr] at h2; cases h2
  · rw [if_neg hr] at h2
    (first | (injection h2 with z__; injection z__ with h3 h4) | injection h2 with h3 h4)
    have e : sg32 y = sv s p i := by
      rw [← h3]
      unfold sg32
      rw [wrap_u32 (by omega) (by omega)]
      have : IntKind.wrap .i32 (sv s p i % 4294967296) = sv s p i := by rw [wrap_i32_e]; split <;> omega
      rw [this, wrap_i64 (by omega) (by omega)]
    have := slebF_short 10 (i + 1) (sv s p i) (by omega) (sv_in s i p hl)
    rw [e]
    have this : (sleb (sv s p i)).length ≤ i + 1 := this
    omega
theorem sleb64_cost {s : ByteArray} {e p q : Nat} {y : Int} (h : slebP s e 64 p = .ok y q) : p + (sleb (IntKind.wrap .i64 y)).length ≤ q := by
  obtain ⟨x, q', h1, h2⟩ := bind_ok h
  obtain ⟨i, i9, ib, _, _, hl, hx, hq⟩ := sleb_inv s e p 64 (by decide) x q' h1
  have hlen := sleb_len (IntKind.wrap .i64 y)
  by_cases h9 : i ≤ 8
  · subst hx
    simp only at h2
    rw [fin64 s p i h9] at h2
    (first | (injection h2 with z__; injection z__ with h3 h4) | injection h2 with h3 h4)
    have hin := sv_in s i p hl
    have hr : -9223372036854775808 ≤ sv s p i ∧ sv s p i ≤ 9223372036854775807 := by
      unfold SIn at hin
      have hz : (128 : Int) ^ (i + 1 - 1) ≤ 128 ^ 8 := by
        have : (128 : Nat) ^ (i + 1 - 1) ≤ 128 ^ 8 := Nat.pow_le_pow_right (by decide) (by omega)
        exact_mod_cast this
      have e8 : (128 : Int) ^ 8 = 72057594037927936 := by decide
      rw [e8] at hz
      omega
    have e : IntKind.wrap .i64 y = sv s p i := by
      rw [← h3, wrap_i64_e]; split <;> omega
    have := slebF_short 10 (i + 1) (sv s p i) (by omega) hin
    rw [e]
    have this : (sleb (sv s p i)).length ≤ i + 1 := this
    have hq' : q = q' := h4.symm
    omega
  · have hq' : q' = q := by
      cases hf : slebFin 64 x.1 x.2.1 x.2.2 with
      | none => rw [hf] at h2; cases h2
      | some z => rw [hf] at h2; (first | (injection h2 with z__; injection z__ with h5 h6) | injection h2 with h5 h6)
    omega

/-! ### Words -/
theorem littleF_bytes : ∀ (k : Nat) (v : Int), Byt (littleF k v)
  | 0, v => Byt.nil
  | k + 1, v => Byt.cons (wrapU8 v) (littleF_bytes k _)
theorem littleF_get : ∀ (k : Nat) (v : Int) (j : Nat), 0 ≤ v → j < k → (littleF k v)[j]? = some (v / 256 ^ j % 256)
  | 0, v, j, _, h => by omega
  | k + 1, v, j, hv, h => by
    show (IntKind.wrap .u8 v :: littleF k (Int.fdiv v (2 ^ (8 : Nat))))[j]? = _
    have e8 : Int.fdiv v (2 ^ (8 : Nat)) = v / 256 := by rw [Int.fdiv_eq_ediv_of_nonneg _ (by decide)]; rfl
    cases j with
    | zero => rw [List.getElem?_cons_zero, wrapU8_mod]; simp
    | succ j =>
      rw [List.getElem?_cons_succ, e8, littleF_get k (v / 256) j (by omega) (by omega)]
      congr 2
      rw [Int.pow_succ, Int.mul_comm, ← Int.ediv_ediv_of_nonneg (by decide)]
/-- The word from its upper bytes. -/
theorem wordL_val (t : ByteArray) (v : Int) (hv0 : 0 ≤ v) (hv1 : v < 18446744073709551616) (n : Nat) (hn : n ≤ 8) (hz : t.size = n) (ht : ∀ j, j < n → byteAt t j = v / 256 ^ j % 256) (hhi : v / 256 ^ n = 0) :
    ∀ k, k ≤ 8 → wordL t k (v / 256 ^ k) = v
  | 0, _ => by show v / 256 ^ 0 = v; simp
  | k + 1, hk => by
    show wordL t k (bOr .u64 (IntKind.wrap .u64 (v / 256 ^ (k + 1) * 2 ^ (8 : Nat))) (IntKind.wrap .u64 (if k < t.size then byteAt t k else 0))) = v
    have hb : (if k < t.size then byteAt t k else 0) = v / 256 ^ k % 256 := by
      split
      · exact ht k (by omega)
      · have h1 : v / 256 ^ k = 0 := by
          have : (256 : Int) ^ k = 256 ^ n * 256 ^ (k - n) := by rw [← Int.pow_add]; congr 1; omega
          rw [this, ← Int.ediv_ediv_of_nonneg (Int.pow_nonneg (by decide)), hhi]; simp
        rw [h1]; rfl
    rw [hb]
    have hq : v / 256 ^ (k + 1) = v / 256 ^ k / 256 := by rw [Int.pow_succ, ← Int.ediv_ediv_of_nonneg (Int.pow_nonneg (by decide))]
    have hp : 0 ≤ v / 256 ^ k := Int.ediv_nonneg hv0 (Int.pow_nonneg (by decide))
    have hle : v / 256 ^ k ≤ v := Int.ediv_le_self _ hv0
    rw [hq, bOr_u64_any _ _ (by omega) (by omega) (by omega)]
    rw [show (v / 256 ^ k / 256 * 256 + v / 256 ^ k % 256) % 18446744073709551616 = v / 256 ^ k by omega]
    exact wordL_val t v hv0 hv1 n hn hz ht hhi k (by omega)
theorem wordP_at {s : ByteArray} {e p n : Nat} {v : Int} (hn : n ≤ 8) (h0 : 0 ≤ v) (h1 : v < 18446744073709551616) (hhi : v / 256 ^ n = 0) (ha : At s p (littleF n v)) (he : p + n ≤ e) (hs : e ≤ s.size) : wordP s e n p = .ok v (p + n) := by
  unfold wordP takeP
  rw [if_neg (by omega)]
  simp only [Res.bind]
  congr 1
  have h8 : v / 256 ^ 8 = 0 := by
    have e8 : (256 : Int) ^ 8 = 18446744073709551616 := by decide
    rw [e8]; omega
  have := wordL_val (s.extract p (p + n)) v h0 h1 n hn (by rw [ByteArray.size_extract]; omega) (fun j hj => ?_) hhi 8 (by decide)
  · rwa [h8] at this
  · rw [byteAt_extract _ _ _ _ (by rw [ByteArray.size_extract]; omega)]
    exact ha j _ (littleF_get n v j h0 hj)
theorem wordP_cost {s : ByteArray} {e p n q : Nat} {y : Int} (h : wordP s e n p = .ok y q) : q = p + n := by
  obtain ⟨x, q', h1, h2⟩ := bind_ok h
  unfold takeP at h1
  split at h1
  · cases h1
  · (first | (injection h1 with z__; injection z__ with h3 h4) | injection h1 with h3 h4)
    (first | (injection h2 with z__; injection z__ with h5 h6) | injection h2 with h5 h6)
    omega

end Go.Proofs.Qxb6500316a
