/-
  Tiled.
-/
import Derived.Test.Qxb6500316aErA
set_option linter.unusedSimpArgs false
set_option linter.unusedVariables false
set_option maxRecDepth 100000
namespace Go.Proofs.Qxb6500316a
open Go Go.Vc

def tile (s : ByteArray) : Nat → Int → Nat → Prop
  | 0, _, _ => False
  | k + 1, last, p => if p < s.size then ∃ n q : Nat, last < byteAt s p ∧ byteAt s p ≤ 11 ∧ u32P s s.size (p + 1) = .ok (n : Int) q ∧ q + n ≤ s.size ∧ tile s k (byteAt s p) (q + n) else True
theorem tile_succ (s : ByteArray) (k : Nat) (last : Int) (p : Nat) : tile s (k + 1) last p = if p < s.size then ∃ n q : Nat, last < byteAt s p ∧ byteAt s p ≤ 11 ∧ u32P s s.size (p + 1) = .ok (n : Int) q ∧ q + n ≤ s.size ∧ tile s k (byteAt s p) (q + n) else True := rfl
theorem decL_tile {s : ByteArray} : ∀ (k : Nat) (last : Int) (c : Sc) (P : PM) (p : Nat) {x : Sc × PM} {q : Nat}, decL s k last c P p = .ok x q → tile s k last p
  | 0, last, c, P, p, x, q, h => by cases h
  | k + 1, last, c, P, p, x, q, h => by
    haveI := outNil
    rw [decL_succ] at h
    rw [tile_succ]
    split at h
    · rename_i hlt
      rw [if_pos hlt]
      obtain ⟨id, q1, h1, h2⟩ := bind_ok h
      obtain ⟨_, e1, e2⟩ := nextP_ok h1
      split at h2
      · cases h2
      rename_i hid
      obtain ⟨n, q2, h3, h4⟩ := bind_ok h2
      obtain ⟨y, q3, h5, h6⟩ := bind_ok h4
      split at h6
      · rename_i hq
        have hf := enter_fit h3
        obtain ⟨m, q', h7, h8⟩ := bind_ok h3
        have hr := u32P_rng h7
        split at h8
        · cases h8
        · (first | (injection h8 with z__; injection z__ with h9 h10) | injection h8 with h9 h10)
          subst e1 e2
          refine ⟨n, q2, by omega, by omega, ?_, hf, ?_⟩
          · rw [h7, h10, ← h9, Int.toNat_of_nonneg hr.1]
          · have := decL_tile k _ _ _ _ h6
            rw [hq] at this; exact this
      · cases h6
    · rename_i hlt
      rw [if_neg hlt]; trivial
theorem size_loop {s : ByteArray} {p i : Nat} (hi : i < 5) (hp : ∀ j, j < i → 128 ≤ nb s (p + j)) (he : p + i < s.size) (hl : nb s (p + i) < 128) (hs : s.size ≤ 1024) (R Q : Value → World → Prop) (w : World) (hR : R (.tuple #[.int .i64 (gs s p (i + 1) : Int), .int .i64 ((p + i + 1 : Nat) : Int)]) w) :
    ∀ (r j : Nat), j + r = i → binlaw_size.L1 s (p : Int) (gs s p j : Int) ((2 ^ (7 * j) : Nat) : Int) (j : Int) R Q w := by
  intro r
  induction r with
  | zero =>
    intro j hj
    obtain rfl : j = i := by omega
    have e1 : IntKind.wrap .i64 ((p : Int) + (j : Int)) = ((p + j : Nat) : Int) := by rw [wrap_i64 (by omega) (by omega)]; omega
    have hg := gs_lt s p j
    have hg2 := gs_lt s p (j + 1)
    have hpw : (2 : Nat) ^ (7 * (j + 1)) ≤ 2 ^ 35 := Nat.pow_le_pow_right (by decide) (by omega)
    have e35 : (2 : Nat) ^ 35 = 34359738368 := by decide
    rw [e35] at hpw
    refine binlaw_size.step1 _ _ _ _ _ _ _ _ ?_
    unfold binlaw_size.V1
    rw [e1]
    refine cond_true' (decide_eq_true (by omega)) (cond_true' (decide_eq_true (by omega)) ?_)
    refine binlaw_size.step2 _ _ _ _ _ _ _ _ ?_
    unfold binlaw_size.V2
    rw [e1, Int.toNat_natCast, byteAt_nb]
    have e2 : IntKind.wrap .i64 ((nb s (p + j) : Nat) : Int) = (nb s (p + j) : Int) := wrap_i64 (by omega) (by omega)
    rw [e2]
    refine ⟨by omega, cond_true' (decide_eq_true (by omega)) ?_⟩
    have e3 : Int.tmod ((nb s (p + j) : Nat) : Int) 128 * ((2 ^ (7 * j) : Nat) : Int) = ((nb s (p + j) % 128 * 2 ^ (7 * j) : Nat) : Int) := by rw [tmod128, Int.natCast_mul]
    have e4 : ((gs s p j : Nat) : Int) + ((nb s (p + j) % 128 * 2 ^ (7 * j) : Nat) : Int) = ((gs s p (j + 1) : Nat) : Int) := by rw [gs_succ, Int.natCast_add]
    have hle : nb s (p + j) % 128 * 2 ^ (7 * j) ≤ gs s p (j + 1) := by rw [gs_succ]; omega
    rw [e3, wrap_i64 (x := ((nb s (p + j) % 128 * 2 ^ (7 * j) : Nat) : Int)) (by omega) (by omega), e4, wrap_i64 (x := ((gs s p (j + 1) : Nat) : Int)) (by omega) (by omega), wrap_i64 (by omega) (by omega)]
    rw [show ((p + j : Nat) : Int) + 1 = ((p + j + 1 : Nat) : Int) by omega]
    exact hR
  | succ r ih =>
    intro j hj
    have e1 : IntKind.wrap .i64 ((p : Int) + (j : Int)) = ((p + j : Nat) : Int) := by rw [wrap_i64 (by omega) (by omega)]; omega
    have hg2 := gs_lt s p (j + 1)
    have hpw : (2 : Nat) ^ (7 * (j + 1)) ≤ 2 ^ 35 := Nat.pow_le_pow_right (by decide) (by omega)
    have e35 : (2 : Nat) ^ 35 = 34359738368 := by decide
    rw [e35] at hpw
    refine binlaw_size.step1 _ _ _ _ _ _ _ _ ?_
    unfold binlaw_size.V1
    rw [e1]
    refine cond_true' (decide_eq_true (by omega)) (cond_true' (decide_eq_true (by omega)) ?_)
    refine binlaw_size.step2 _ _ _ _ _ _ _ _ ?_
    unfold binlaw_size.V2
    rw [e1, Int.toNat_natCast, byteAt_nb]
    have hb := nb_lt s (p + j)
    have hj128 := hp j (by omega)
    have e2 : IntKind.wrap .i64 ((nb s (p + j) : Nat) : Int) = (nb s (p + j) : Int) := wrap_i64 (by omega) (by omega)
    rw [e2]
    refine ⟨by omega, cond_false' (decide_eq_false (by omega)) ?_⟩
    have e3 : Int.tmod ((nb s (p + j) : Nat) : Int) 128 * ((2 ^ (7 * j) : Nat) : Int) = ((nb s (p + j) % 128 * 2 ^ (7 * j) : Nat) : Int) := by rw [tmod128, Int.natCast_mul]
    have e4 : ((gs s p j : Nat) : Int) + ((nb s (p + j) % 128 * 2 ^ (7 * j) : Nat) : Int) = ((gs s p (j + 1) : Nat) : Int) := by rw [gs_succ, Int.natCast_add]
    have hle : nb s (p + j) % 128 * 2 ^ (7 * j) ≤ gs s p (j + 1) := by rw [gs_succ]; omega
    have e5 : ((2 ^ (7 * j) : Nat) : Int) * 128 = ((2 ^ (7 * (j + 1)) : Nat) : Int) := by
      rw [show 7 * (j + 1) = 7 * j + 7 by omega, Nat.pow_add, Int.natCast_mul]; rfl
    rw [e3, wrap_i64 (x := ((nb s (p + j) % 128 * 2 ^ (7 * j) : Nat) : Int)) (by omega) (by omega), e4, wrap_i64 (x := ((gs s p (j + 1) : Nat) : Int)) (by omega) (by omega), e5, wrap_i64 (x := ((2 ^ (7 * (j + 1)) : Nat) : Int)) (by omega) (by omega), nx j (by omega)]
    exact ih (j + 1) (by omega)
theorem size_spec {s : ByteArray} (hs : s.size ≤ 1024) {p n q : Nat} (h : u32P s s.size p = .ok (n : Int) q) (pI : Int) (ep : pI = (p : Int)) (w : World) : Runs Try.prog binlaw_size.id #[.string s, .int .i64 pI] w fun v w' => v = .tuple #[.int .i64 (n : Int), .int .i64 (q : Int)] ∧ w' = w := by
  subst ep
  obtain ⟨i, h5, hp, he, hl, _, hx, hq⟩ := u32_inv s s.size p _ _ h
  refine binlaw_size.enter _ _ _ _ _ ?_
  unfold binlaw_size.V
  exact size_loop h5 hp he hl hs _ _ w ⟨by rw [hx, hq], rfl⟩ i 0 (by omega)
theorem tile_loop {s : ByteArray} (hs : s.size ≤ 1024) (R Q : Value → World → Prop) (hQ : Q = fun _ _ => False) (w : World) (hR : R (.bool true) w) : ∀ (k : Nat) (last : Int) (p : Nat), tile s k last p → p ≤ s.size → binlaw_Tiled.L2 s last (p : Int) R Q w := by
  subst hQ
  intro k
  induction k with
  | zero => intro last p h; exact h.elim
  | succ k ih =>
    intro last p h hp
    rw [tile_succ] at h
    refine binlaw_Tiled.step2 _ _ _ _ _ _ ?_
    unfold binlaw_Tiled.V2
    by_cases hlt : p < s.size
    · rw [if_pos hlt] at h
      obtain ⟨n, q, h1, h2, h3, h4, h5⟩ := h
      have hb := byte_rng s p
      have eb : IntKind.wrap .i64 (byteAt s p) = byteAt s p := wrap_i64 (by omega) (by omega)
      rw [Int.toNat_natCast, eb]
      refine cond_true' (decide_eq_true (by omega)) ⟨by omega, cond_false' (decide_eq_false (by omega)) (cond_false' (decide_eq_false (by omega)) ?_)⟩
      refine binlaw_Tiled.step3 _ _ _ _ _ _ ?_
      unfold binlaw_Tiled.V3
      refine RunsQ.post (size_spec hs h3 _ (nx p (by omega)) w) ?_
      rintro v w1 ⟨rfl, rfl⟩
      refine ⟨_, _, rfl, cond_false' (decide_eq_false (by omega)) (cond_false' (decide_eq_false ?_) ?_)⟩
      · rw [wrap_i64 (by omega) (by omega)]; omega
      refine binlaw_Tiled.step4 _ _ _ _ _ _ _ ?_
      unfold binlaw_Tiled.V4
      have e : IntKind.wrap .i64 ((q : Int) + (n : Int)) = ((q + n : Nat) : Int) := by rw [wrap_i64 (by omega) (by omega)]; omega
      rw [e]
      exact ih _ (q + n) h5 h4
    · exact cond_false' (decide_eq_false (by omega)) hR
theorem Tiled_yes {s : ByteArray} {c : Sc} {x : Sc × PM} {q : Nat} (h : decA s c = .ok x q) (w : World) : Runs Try.prog binlaw_Tiled.id #[.string s] w (Yes w) := by
  obtain ⟨h8, h1k, hd, hm⟩ := decA_ok h
  have ht := decL_tile _ _ _ _ _ hd
  refine binlaw_Tiled.enter _ _ _ _ ?_
  unfold binlaw_Tiled.V
  refine cond_false' (decide_eq_false (by omega)) ⟨by omega, cond_false' ?_ ?_⟩
  · rw [show Int.toNat 8 = 8 from rfl, hm]; rfl
  refine binlaw_Tiled.step1 _ _ _ _ ?_
  unfold binlaw_Tiled.V1
  exact tile_loop h1k _ _ rfl w ⟨rfl, Same.refl _ _ _⟩ _ 0 8 ht h8

/-! ### Written and read -/
theorem enc_magic {P : PM} (F : WFP P) : (ByteArray.toList (ByteArray.extract (strOfNums (encP P)) 0 8) == ByteArray.toList ⟨#[0, 97, 115, 109, 1, 0, 0, 0]⟩) = true := by
  have hat := at_nums (encP_bytes F)
  have hsz : (strOfNums (encP P)).size = (encP P).length := strOfNums_size _
  have hlen : (encP P).length = 8 + (headE P).length + (midE P).length + (tailE P).length := by unfold encP; rw [List.length_append, List.length_append, List.length_append]; rfl
  have hm : At (strOfNums (encP P)) 0 magicL := by
    have : At (strOfNums (encP P)) 0 (magicL ++ headE P ++ midE P ++ tailE P) := hat
    exact this.left.left.left
  have e : ByteArray.extract (strOfNums (encP P)) 0 8 = ⟨#[0, 97, 115, 109, 1, 0, 0, 0]⟩ := by
    have s8 : (⟨#[0, 97, 115, 109, 1, 0, 0, 0]⟩ : ByteArray).size = 8 := rfl
    refine bytes_ext (by rw [ByteArray.size_extract, s8]; omega) (fun j hj => ?_)
    rw [byteAt_extract _ _ _ _ hj]
    rw [ByteArray.size_extract] at hj
    have hj8 : j < 8 := by omega
    have : j = 0 ∨ j = 1 ∨ j = 2 ∨ j = 3 ∨ j = 4 ∨ j = 5 ∨ j = 6 ∨ j = 7 := by omega
    rcases this with rfl | rfl | rfl | rfl | rfl | rfl | rfl | rfl <;> exact hm _ _ rfl
  rw [e]; exact beq_self_eq_true _
/-- Written and read again: the module, whatever the scratch holds. -/
theorem again {s : ByteArray} {c : Sc} {x : Sc × PM} {q : Nat} (h : decA s c = .ok x q) : (strOfNums (encP x.2)).size ≤ s.size ∧ ∀ c', ∃ y, decA (strOfNums (encP x.2)) c' = .ok y (strOfNums (encP x.2)).size ∧ PEq x.2 y.2 := by
  obtain ⟨h8, h1k, hd, hm⟩ := decA_ok h
  have F := decA_wf h
  have hsz : (strOfNums (encP x.2)).size = (encP x.2).length := strOfNums_size _
  have hshort := decP_short h8 hd
  refine ⟨by omega, fun c' => ?_⟩
  obtain ⟨y, h1, h2⟩ := round F (by omega) c'
  refine ⟨y, ?_, h2⟩
  have h8' : 8 ≤ (encP x.2).length := by unfold encP; rw [List.length_append, List.length_append, List.length_append]; show 8 ≤ 8 + _ + _ + _; omega
  unfold decA
  rw [if_neg (by omega), if_neg (by omega), if_pos (enc_magic F)]
  exact h1

end Go.Proofs.Qxb6500316a
