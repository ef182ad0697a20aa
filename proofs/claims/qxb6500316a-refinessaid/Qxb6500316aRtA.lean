/-
  Numbers, written and read again.
-/
import Derived.Test.Qxb6500316aNuA
set_option linter.unusedSimpArgs false
set_option linter.unusedVariables false
set_option maxRecDepth 100000
namespace Go.Proofs.Qxb6500316a
open Go Go.Vc

/-- The bytes l stand in s from p on. -/
def At (s : ByteArray) (p : Nat) (l : List Int) : Prop := ∀ j x, l[j]? = some x → byteAt s (p + j) = x
theorem At.left {s : ByteArray} {p : Nat} {a b : List Int} (h : At s p (a ++ b)) : At s p a := fun j x hj => h j x (by rw [List.getElem?_append_left (List.getElem?_eq_some_iff.1 hj).1]; exact hj)
theorem At.right {s : ByteArray} {p : Nat} {a b : List Int} (h : At s p (a ++ b)) : At s (p + a.length) b := fun j x hj => by
  have := h (a.length + j) x (by rw [List.getElem?_append_right (by omega), show a.length + j - a.length = j by omega]; exact hj)
  rwa [← Nat.add_assoc] at this
theorem At.head {s : ByteArray} {p : Nat} {x : Int} {l : List Int} (h : At s p (x :: l)) : byteAt s p = x := h 0 x rfl
theorem At.tail {s : ByteArray} {p : Nat} {x : Int} {l : List Int} (h : At s p (x :: l)) : At s (p + 1) l := fun j y hj => by
  have := h (j + 1) y hj
  rwa [show p + (j + 1) = p + 1 + j by omega] at this
theorem next_at' {s : ByteArray} {e p : Nat} {x : Int} {l : List Int} (h : At s p (x :: l)) (he : p < e) : nextP s e p = .ok x (p + 1) := by
  unfold nextP; rw [if_pos he, h.head]
/-- A list of bytes. -/
def Byt (l : List Int) : Prop := ∀ x, x ∈ l → 0 ≤ x ∧ x < 256
theorem Byt.append {a b : List Int} (ha : Byt a) (hb : Byt b) : Byt (a ++ b) := fun x hx => by
  rcases List.mem_append.1 hx with h | h
  · exact ha x h
  · exact hb x h
theorem Byt.nil : Byt [] := fun x hx => absurd hx List.not_mem_nil
theorem Byt.cons {x : Int} {l : List Int} (hx : 0 ≤ x ∧ x < 256) (h : Byt l) : Byt (x :: l) := fun y hy => by
  rcases List.mem_cons.1 hy with rfl | hy
  · exact hx
  · exact h y hy
theorem at_nums {l : List Int} (h : Byt l) : At (strOfNums l) 0 l := fun j x hj => by
  unfold byteAt
  have e : (strOfNums l).data[0 + j]? = some (UInt8.ofNat x.toNat) := by
    show ((l.map fun n => UInt8.ofNat n.toNat).toArray)[0 + j]? = _
    rw [Nat.zero_add, List.getElem?_toArray, List.getElem?_map, hj]; rfl
  rw [Array.getD_eq_getD_getElem?, e, Option.getD_some, UInt8.toNat_ofNat']
  have := h x (List.mem_of_getElem? hj)
  omega
theorem wrapU8 (v : Int) : 0 ≤ IntKind.wrap .u8 v ∧ IntKind.wrap .u8 v < 256 := by
  have e : IntKind.wrap .u8 v = v % 256 := by simp [IntKind.wrap, IntKind.bits, IntKind.signed]
  rw [e]; omega
theorem wrapU8_mod (v : Int) : IntKind.wrap .u8 v = v % 256 := by simp [IntKind.wrap, IntKind.bits, IntKind.signed]

/-! ### Unsigned -/
theorem or128_fin : ∀ n : Fin 256, bOr .u8 (n.val : Int) 128 = ((n.val % 128 + 128 : Nat) : Int) := by decide
theorem or128 (v : Int) : bOr .u8 (IntKind.wrap .u8 v) 128 = v % 128 + 128 := by
  have h := wrapU8 v
  obtain ⟨n, hn⟩ := Int.eq_ofNat_of_zero_le h.1
  have hlt : n < 256 := by omega
  have := or128_fin ⟨n, hlt⟩
  rw [hn]
  rw [show ((⟨n, hlt⟩ : Fin 256).val : Int) = (n : Int) from rfl] at this
  rw [this]
  rw [wrapU8_mod] at hn
  have e : ((⟨n, hlt⟩ : Fin 256).val % 128 + 128 : Nat) = n % 128 + 128 := rfl
  rw [e]
  omega
theorem ulebF_bytes : ∀ (k : Nat) (v : Int), Byt (ulebF k v)
  | 0, v => Byt.nil
  | k + 1, v => by
    rw [ulebF_succ]
    split
    · exact Byt.cons (by rw [or128]; omega) (ulebF_bytes k _)
    · exact Byt.cons (wrapU8 v) Byt.nil
theorem uleb_bytes (v : Int) : Byt (uleb v) := ulebF_bytes 10 v
theorem ulebF_at {s : ByteArray} : ∀ (k : Nat) (v : Int) (p : Nat), 0 ≤ v → v < 128 ^ k → 1 ≤ k → At s p (ulebF k v) →
    ∃ i, (ulebF k v).length = i + 1 ∧ (∀ j, j < i → 128 ≤ nb s (p + j)) ∧ nb s (p + i) < 128 ∧ (gs s p (i + 1) : Int) = v
  | 0, v, p, _, _, hk, _ => by omega
  | k + 1, v, p, h0, h1, _, h => by
    rw [ulebF_succ] at h ⊢
    split at h
    · rename_i hv
      rw [if_pos hv]
      have hk : 1 ≤ k := by
        cases k with
        | zero => simp at h1; omega
        | succ k => omega
      have hd : Int.fdiv v (2 ^ (7 : Nat)) = v / 128 := fdiv128 v
      rw [hd] at h ⊢
      have e128 : (128 : Int) ^ (k + 1) = 128 ^ k * 128 := Int.pow_succ ..
      rw [e128] at h1
      obtain ⟨i, l1, l2, l3, l4⟩ := ulebF_at k (v / 128) (p + 1) (by omega) (Int.ediv_lt_of_lt_mul (by decide) h1) hk h.tail
      have hh := h.head
      rw [or128, byteAt_nb] at hh
      refine ⟨i + 1, by rw [List.length_cons, l1], fun j hj => ?_, by rw [show p + (i + 1) = p + 1 + i by omega]; exact l3, ?_⟩
      · cases j with
        | zero => rw [Nat.add_zero]; omega
        | succ j => rw [show p + (j + 1) = p + 1 + j by omega]; exact l2 j (by omega)
      · have g := gs_split s p 1 (i + 1)
        have g1 : gs s p 1 = nb s p % 128 := by rw [gs_succ, gs_zero]; simp
        rw [show i + 1 + 1 = 1 + (i + 1) by omega, g, g1]
        have e7 : (2 : Nat) ^ (7 * 1) = 128 := by decide
        rw [e7]
        have : ((nb s p % 128 + gs s (p + 1) (i + 1) * 128 : Nat) : Int) = ((nb s p % 128 : Nat) : Int) + (gs s (p + 1) (i + 1) : Int) * 128 := by push_cast; rfl
        rw [this, l4]
        omega
    · rename_i hv
      rw [if_neg hv]
      have hh := h.head
      rw [wrapU8_mod, byteAt_nb] at hh
      refine ⟨0, rfl, fun j hj => by omega, by rw [Nat.add_zero]; omega, ?_⟩
      rw [gs_succ, gs_zero, Nat.add_zero]
      have e0 : (2 : Nat) ^ (7 * 0) = 1 := by decide
      rw [e0]
      omega
theorem ulebF_short : ∀ (k m : Nat) (v : Int), 0 ≤ v → v < 128 ^ m → 1 ≤ m → (ulebF k v).length ≤ m
  | 0, m, v, _, _, _ => Nat.zero_le _
  | k + 1, m, v, h0, h1, hm => by
    rw [ulebF_succ]
    split
    · rename_i hv
      cases m with
      | zero => omega
      | succ m =>
        have hm0 : 1 ≤ m := by
          cases m with
          | zero => simp at h1; omega
          | succ m => omega
        have e128 : (128 : Int) ^ (m + 1) = 128 ^ m * 128 := Int.pow_succ ..
        rw [e128] at h1
        rw [List.length_cons, fdiv128]
        have := ulebF_short k m (v / 128) (by omega) (Int.ediv_lt_of_lt_mul (by decide) h1) hm0
        omega
    · exact hm
theorem pow128_10 : (128 : Int) ^ 10 = 1180591620717411303424 := by decide
theorem pow128_5 : (128 : Int) ^ 5 = 34359738368 := by decide
theorem uleb_pos (v : Int) : 1 ≤ (uleb v).length := by
  show 1 ≤ (ulebF (9 + 1) v).length
  rw [ulebF_succ]
  split
  · rw [List.length_cons]; omega
  · exact Nat.le_refl _
theorem uleb5 (n : Int) (h : W32 n) : (uleb n).length ≤ 5 := ulebF_short 10 5 n h.1 (by rw [pow128_5]; have := h.2; omega) (by decide)
/-- A number of 32 bits is read as it was written. -/
theorem u32P_at {s : ByteArray} {e p : Nat} {n : Int} (h : W32 n) (ha : At s p (uleb n)) (he : p + (uleb n).length ≤ e) : u32P s e p = .ok n (p + (uleb n).length) := by
  obtain ⟨i, l1, l2, l3, l4⟩ := ulebF_at 10 n p h.1 (by rw [pow128_10]; have := h.2; omega) (by decide) ha
  have l1 : (uleb n).length = i + 1 := l1
  have h5 := uleb5 n h
  rw [l1] at he h5 ⊢
  rw [u32_last s e p i (by omega) l2 (by omega) l3 (fun h4 => ?_), l4, Nat.add_assoc]
  subst h4
  have hn := h.2
  rw [← l4, gs_succ] at hn
  have e28 : (2 : Nat) ^ (7 * 4) = 268435456 := by decide
  rw [e28] at hn
  omega
/-- What a number cost is no less than its shortest text. -/
theorem u32P_cost {s : ByteArray} {e p q : Nat} {n : Int} (h : u32P s e p = .ok n q) : p + (uleb n).length ≤ q := by
  obtain ⟨i, h5, _, _, _, _, hx, hq⟩ := u32_inv s e p n q h
  have hl := gs_lt s p (i + 1)
  have e1 : (128 : Int) ^ (i + 1) = ((2 ^ (7 * (i + 1)) : Nat) : Int) := by
    rw [show (2 : Nat) ^ (7 * (i + 1)) = (2 ^ 7) ^ (i + 1) from Nat.pow_mul ..]
    push_cast; rfl
  have := ulebF_short 10 (i + 1) n (by rw [hx]; omega) (by rw [e1, hx]; exact_mod_cast hl) (by omega)
  have this : (uleb n).length ≤ i + 1 := this
  omega
theorem uleb_mono {a b : Int} (h0 : 0 ≤ a) (h : a ≤ b) (hb : b < 128 ^ 10) : (uleb a).length ≤ (uleb b).length := by
  -- by the shortest power above b
  have key : ∀ (k : Nat) (a b : Int), 0 ≤ a → a ≤ b → b < 128 ^ k → (ulebF k a).length ≤ (ulebF k b).length := by
    intro k
    induction k with
    | zero => intro a b _ _ _; exact Nat.le_refl _
    | succ k ih =>
      intro a b h0 h hb
      rw [ulebF_succ, ulebF_succ]
      by_cases hb2 : 128 ≤ b
      · rw [if_pos hb2]
        by_cases ha2 : 128 ≤ a
        · rw [if_pos ha2, List.length_cons, List.length_cons, fdiv128, fdiv128]
          have e128 : (128 : Int) ^ (k + 1) = 128 ^ k * 128 := Int.pow_succ ..
          rw [e128] at hb
          have := ih (a / 128) (b / 128) (by omega) (by omega) (Int.ediv_lt_of_lt_mul (by decide) hb)
          omega
        · rw [if_neg ha2]; simp only [List.length_cons, List.length_nil]; omega
      · rw [if_neg hb2, if_neg (by omega)]; exact Nat.le_refl _
  exact key 10 a b h0 h hb
theorem ulenF_eq : ∀ (k : Nat) (v n : Int), 0 ≤ v → v < 128 ^ k → 1 ≤ k → ulenF k v n = n - 1 + (ulebF k v).length
  | 0, v, n, _, _, h => by omega
  | k + 1, v, n, h0, h1, _ => by
    rw [ulenF_succ, ulebF_succ]
    split
    · rename_i hv
      have hk : 1 ≤ k := by
        cases k with
        | zero => simp at h1; omega
        | succ k => omega
      have e128 : (128 : Int) ^ (k + 1) = 128 ^ k * 128 := Int.pow_succ ..
      rw [e128] at h1
      rw [fdiv128, ulenF_eq k (v / 128) (n + 1) (by omega) (Int.ediv_lt_of_lt_mul (by decide) h1) hk, List.length_cons]
      push_cast; omega
    · rw [List.length_singleton]; push_cast; omega
theorem ulen_uleb (v : Int) (h0 : 0 ≤ v) (h1 : v ≤ 4294967295) : ulenF 10 v 1 = ((uleb v).length : Int) := by
  rw [ulenF_eq 10 v 1 h0 (by rw [pow128_10]; omega) (by decide)]
  show (1 : Int) - 1 + _ = _
  unfold uleb; omega

end Go.Proofs.Qxb6500316a
