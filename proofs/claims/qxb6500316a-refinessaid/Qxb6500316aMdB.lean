/-
  The model's numbers.
-/
import Derived.Test.Qxb6500316aMdA
set_option linter.unusedSimpArgs false
set_option linter.unusedVariables false
set_option maxRecDepth 100000
set_option linter.unusedSectionVars false
namespace Go.Proofs.Qxb6500316a
open Go Go.Vc

/-- What a LEB128 number comes to. -/
structure Leb (s : ByteArray) (e a N : Nat) (sg : Bool) (r : Res Int) : Prop where
  eof : ∀ i, 7 * i < N → (∀ j, j < i → 128 ≤ nb s (a + j)) → a + i = e → r = .err 3 e
  mid : ∀ i, 7 * i + 7 ≤ N → (∀ j, j < i → 128 ≤ nb s (a + j)) → a + i < e → nb s (a + i) < 128 →
    r = .ok (if sg = true ∧ 64 ≤ nb s (a + i) then ((gs s a (i + 1) : Nat) : Int) + ((2 ^ N : Nat) : Int) - ((2 ^ (7 * i + 7) : Nat) : Int) else ((gs s a (i + 1) : Nat) : Int)) (a + i + 1)
  l32 : N = 32 → (∀ j, j < 4 → 128 ≤ nb s (a + j)) → a + 4 < e → r = if nb s (a + 4) / 16 ≠ (if sg = true ∧ 8 ≤ nb s (a + 4) % 16 then 7 else 0) then .err 4 a else .ok (((gs s a 4 + nb s (a + 4) % 16 * 268435456 : Nat) : Int)) (a + 5)
  l64 : N = 64 → (∀ j, j < 9 → 128 ≤ nb s (a + j)) → a + 9 < e → r = if nb s (a + 9) / 2 ≠ (if sg = true ∧ nb s (a + 9) % 2 = 1 then 63 else 0) then .err 4 a else .ok (((gs s a 9 + nb s (a + 9) % 2 * 9223372036854775808 : Nat) : Int)) (a + 10)

theorem u32_leb (s : ByteArray) (e a : Nat) : Leb s e a 32 false (u32P s e a) where
  eof i hi hp he := by
    rw [u32_pre s e a i (4 - i + 1) (by omega) (by omega) hp (by omega), u32L_succ, nextP_out (by omega)]
    rfl
  mid i hi hp he hl := by
    rw [u32_last s e a i (by omega) hp he hl (by omega), if_neg (by simp)]
  l32 _ hp he := by
    rw [u32_pre s e a 4 1 (by omega) (by omega) hp (by omega), u32L_succ, nextP_in (by omega)]
    simp only [Res.bind]
    by_cases h : nb s (a + 4) ≤ 15
    · rw [if_neg (by omega), if_pos (by omega), u32_step s a 4 (by omega) (fun _ => h), if_neg (by simp; omega), gs_succ]
      have e1 : (2 : Nat) ^ (7 * 4) = 268435456 := by decide
      rw [e1, Nat.mod_eq_of_lt (show nb s (a + 4) < 128 by omega), Nat.mod_eq_of_lt (show nb s (a + 4) < 16 by omega)]
    · rw [if_pos ⟨rfl, by omega⟩, if_pos (by simp; omega)]
  l64 h := by simp at h

theorem sleb_eof (s : ByteArray) (e a : Nat) (bits : Int) (i : Nat) (hi : ((7 * i : Nat) : Int) < bits) (hi9 : i ≤ 9) (hp : ∀ j, j < i → 128 ≤ nb s (a + j)) (he : a + i = e) : slebP s e bits a = .err 3 e := by
  unfold slebP
  rw [sleb_pre s e a bits i (10 - i + 1) (by omega) hi9 (fun j hj => by omega) hp (by omega)]
  rw [show slebL s e a bits (10 - i + 1) (gs s a i) ((7 * i : Nat) : Int) (a + i) = _ from rfl]
  unfold slebL
  rw [if_neg (by omega), nextP_out (by omega)]
  rfl
theorem sleb_more (s : ByteArray) (e a : Nat) (bits : Int) (i : Nat) (hi : ((7 * i : Nat) : Int) < bits) (hb : bits ≤ ((7 * i + 7 : Nat) : Int)) (hi9 : i ≤ 9) (hp : ∀ j, j < i → 128 ≤ nb s (a + j)) (he : a + i < e) (hl : 128 ≤ nb s (a + i)) : slebP s e bits a = .err 4 a := by
  unfold slebP
  rw [sleb_pre s e a bits i (9 - i + 1 + 1) (by omega) hi9 (fun j hj => by omega) hp (by omega)]
  unfold slebL
  rw [if_neg (by omega), nextP_in he]
  simp only [Res.bind]
  rw [if_neg (by omega)]
  unfold slebL
  rw [if_pos (by omega)]

theorem l32a (g r p : Nat) (hg : g < 268435456) (hr : r < 8) (hp : p < 16) :
    (((g + (16 * r + p) * 268435456 : Nat) : Int) - 34359738368 < -2147483648 ∨ (2147483647 : Int) < ((g + (16 * r + p) * 268435456 : Nat) : Int) - 34359738368) ↔ ¬ (r = 7 ∧ 8 ≤ p) := by omega
theorem l32b (g r p : Nat) (hg : g < 268435456) (hr : r < 8) (hp : p < 16) :
    (((g + (16 * r + p) * 268435456 : Nat) : Int) - 0 < -2147483648 ∨ (2147483647 : Int) < ((g + (16 * r + p) * 268435456 : Nat) : Int) - 0) ↔ ¬ (r = 0 ∧ ¬ 8 ≤ p) := by omega
theorem l32c (g p : Nat) (hg : g < 268435456) (hp : p < 16) :
    (((g + (16 * 7 + p) * 268435456 : Nat) : Int) - 34359738368) % 4294967296 = ((g + p * 268435456 : Nat) : Int) := by omega
theorem l32d (g p : Nat) (hg : g < 268435456) (hp : p < 16) :
    (((g + (16 * 0 + p) * 268435456 : Nat) : Int) - 0) % 4294967296 = ((g + p * 268435456 : Nat) : Int) := by omega
theorem l32w (sg : Bool) (r p x : Nat) (hr : r < 8) (h : 64 ≤ 16 * r + p) (hp : p < 16) (h2 : ¬ (r = 7 ∧ 8 ≤ p)) : r ≠ (if true = true ∧ 8 ≤ p then 7 else 0) := by
  by_cases h8 : 8 ≤ p
  · rw [if_pos ⟨rfl, h8⟩]; omega
  · rw [if_neg (fun h => h8 h.2)]; omega
theorem l32x (sg : Bool) (r p x : Nat) (hr : r < 8) (h : ¬ 64 ≤ 16 * r + p) (hp : p < 16) (h2 : ¬ (r = 0 ∧ ¬ 8 ≤ p)) : r ≠ (if true = true ∧ 8 ≤ p then 7 else 0) := by
  by_cases h8 : 8 ≤ p
  · rw [if_pos ⟨rfl, h8⟩]; omega
  · rw [if_neg (fun h => h8 h.2)]; omega

theorem slebP_last (s : ByteArray) (e a : Nat) (bits : Int) (i : Nat) (hi : i ≤ 9) (hb : ((7 * i : Nat) : Int) < bits) (hp : ∀ j, j < i → 128 ≤ nb s (a + j)) (he : a + i < e) (hl : nb s (a + i) < 128) :
    slebP s e bits a = match slebFin bits (slebV s a i) (nb s (a + i) : Int) ((7 * i + 7 : Nat) : Int) with | some y => .ok y (a + i + 1) | none => .err 4 a := by
  unfold slebP
  rw [sleb_last s e a bits i hi hb hp he hl]
  rfl
theorem sleb32_leb (s : ByteArray) (e a : Nat) : Leb s e a 32 true (slebP s e 32 a) where
  eof i hi hp he := sleb_eof s e a 32 i (by omega) (by omega) hp he
  mid i hi hp he hl := by
    rw [slebP_last s e a 32 i (by omega) (by omega) hp he hl]
    have hg := gs_lt s a (i + 1)
    have e1 : (2 : Nat) ^ (7 * (i + 1)) = 2 * 2 ^ (7 * i + 6) := by rw [show 7 * (i + 1) = (7 * i + 6) + 1 by omega, Nat.pow_succ]; omega
    have hM : (2 : Nat) ^ (7 * i + 6) ≤ 2 ^ 27 := Nat.pow_le_pow_right (by decide) (by omega)
    have e2 : (2 : Nat) ^ 27 = 134217728 := by decide
    have e3 : (2 : Nat) ^ 32 = 4294967296 := by decide
    have hm : nb s (a + i) % 128 = nb s (a + i) := Nat.mod_eq_of_lt hl
    rw [fin32 s a i (by omega)]
    have hsv : sv s a i = (gs s a (i + 1) : Int) - (if 64 ≤ nb s (a + i) then ((2 * 2 ^ (7 * i + 6) : Nat) : Int) else 0) := by
      unfold sv
      rw [hm]
      split
      · have : ((2 * 2 ^ (7 * i + 6) : Nat) : Int) = 2 ^ (7 * i + 7) := by rw [← e1]; push_cast; rfl
        rw [this]
      · rfl
    have hlo : 64 ≤ nb s (a + i) → 2 ^ (7 * i + 6) ≤ gs s a (i + 1) := fun h => by
      rw [gs_succ, hm, show 7 * i + 6 = 6 + 7 * i by omega, Nat.pow_add]
      have : (2 : Nat) ^ 6 * 2 ^ (7 * i) ≤ nb s (a + i) * 2 ^ (7 * i) := Nat.mul_le_mul_right _ (by simpa using h)
      omega
    have hhi : ¬ 64 ≤ nb s (a + i) → gs s a (i + 1) < 2 ^ (7 * i + 6) := fun h => by
      rw [gs_succ, hm, show 7 * i + 6 = 6 + 7 * i by omega, Nat.pow_add]
      have h0 := gs_lt s a i
      have : (nb s (a + i) + 1) * 2 ^ (7 * i) ≤ 2 ^ 6 * 2 ^ (7 * i) := Nat.mul_le_mul_right _ (by simp; omega)
      rw [Nat.add_mul] at this
      omega
    rw [hsv]
    rw [show 7 * i + 7 = 7 * (i + 1) by omega, e1, e3]
    rw [e1] at hg
    generalize (2 : Nat) ^ (7 * i + 6) = M at *
    generalize gs s a (i + 1) = g at *
    by_cases h : 64 ≤ nb s (a + i)
    · have := hlo h
      rw [if_pos h, if_neg (by omega), if_pos ⟨rfl, h⟩]
      simp only
      rw [show ((g : Int) - ((2 * M : Nat) : Int)) % 4294967296 = (g : Int) + ((4294967296 : Nat) : Int) - ((2 * M : Nat) : Int) by omega]
    · have := hhi h
      rw [if_neg h, if_neg (by omega), if_neg (by simp; omega)]
      simp only
      rw [show ((g : Int) - 0) % 4294967296 = (g : Int) by omega]
  l32 _ hp he := by
    by_cases hl : nb s (a + 4) < 128
    · rw [slebP_last s e a 32 4 (by omega) (by omega) hp he hl]
      rw [fin32 s a 4 (by omega)]
      have hsv : sv s a 4 = ((gs s a 4 + nb s (a + 4) * 268435456 : Nat) : Int) - (if 64 ≤ nb s (a + 4) then 34359738368 else 0) := by
        unfold sv
        rw [gs_succ, Nat.mod_eq_of_lt hl, show (2 : Nat) ^ (7 * 4) = 268435456 by decide, show (2 : Int) ^ (7 * 4 + 7) = 34359738368 by decide]
      have hg := gs_lt s a 4
      rw [show (2 : Nat) ^ (7 * 4) = 268435456 by decide] at hg
      rw [hsv]
      obtain ⟨r, p, hb, hp16⟩ : ∃ r p, nb s (a + 4) = 16 * r + p ∧ p < 16 := ⟨nb s (a + 4) / 16, nb s (a + 4) % 16, by omega, by omega⟩
      have hr : r < 8 := by omega
      have d1 : (16 * r + p) / 16 = r := by omega
      have d2 : (16 * r + p) % 16 = p := by omega
      rw [hb, d1, d2]
      clear hb hl hsv
      generalize gs s a 4 = g at *
      by_cases h64 : 64 ≤ 16 * r + p
      · rw [if_pos h64]
        by_cases hw : r = 7 ∧ 8 ≤ p
        · rw [if_neg (by rw [l32a g r p hg hr hp16]; exact not_not_intro hw), if_pos (⟨rfl, hw.2⟩ : true = true ∧ _), if_neg (by simp [hw.1])]
          dsimp only
          rw [hw.1, l32c g p hg hp16]
        · rw [if_pos ((l32a g r p hg hr hp16).2 hw), if_pos (l32w true r p 0 hr h64 hp16 hw)]
      · rw [if_neg h64]
        by_cases hw : r = 0 ∧ ¬ 8 ≤ p
        · rw [if_neg (by rw [l32b g r p hg hr hp16]; exact not_not_intro hw), if_neg (show ¬ (true = true ∧ 8 ≤ p) from fun h => hw.2 h.2), if_neg (by simp [hw.1])]
          dsimp only
          rw [hw.1, l32d g p hg hp16]
        · rw [if_pos ((l32b g r p hg hr hp16).2 hw), if_pos (l32x true r p 0 hr h64 hp16 hw)]
    · rw [sleb_more s e a 32 4 (by omega) (by omega) (by omega) hp he (by omega), if_pos]
      split <;> omega
  l64 h := by simp at h

theorem l64z (g b : Nat) : (g : Int) + ((b % 2 : Nat) : Int) * 9223372036854775808 = ((g + b % 2 * 9223372036854775808 : Nat) : Int) := by omega
theorem l64w (b : Nat) (h0 : b ≠ 0) (h1 : b ≠ 127) (hb : b < 128) : b / 2 ≠ (if true = true ∧ b % 2 = 1 then 63 else 0) := by
  by_cases h8 : b % 2 = 1
  · rw [if_pos ⟨rfl, h8⟩]; omega
  · rw [if_neg (fun h => h8 h.2)]; omega
theorem l64x (b : Nat) (h0 : b = 0 ∨ b = 127) : ¬ b / 2 ≠ (if true = true ∧ b % 2 = 1 then 63 else 0) := by
  by_cases h8 : b % 2 = 1
  · rw [if_pos ⟨rfl, h8⟩]; omega
  · rw [if_neg (fun h => h8 h.2)]; omega
theorem sleb64_leb (s : ByteArray) (e a : Nat) : Leb s e a 64 true (slebP s e 64 a) where
  eof i hi hp he := sleb_eof s e a 64 i (by omega) (by omega) hp he
  mid i hi hp he hl := by
    rw [slebP_last s e a 64 i (by omega) (by omega) hp he hl]
    have hg := gs_lt s a (i + 1)
    have e1 : (2 : Nat) ^ (7 * (i + 1)) = 2 * 2 ^ (7 * i + 6) := by rw [show 7 * (i + 1) = (7 * i + 6) + 1 by omega, Nat.pow_succ]; omega
    have hM : (2 : Nat) ^ (7 * i + 6) ≤ 2 ^ 62 := Nat.pow_le_pow_right (by decide) (by omega)
    have e2 : (2 : Nat) ^ 62 = 4611686018427387904 := by decide
    have e3 : (2 : Nat) ^ 64 = 18446744073709551616 := by decide
    have hm : nb s (a + i) % 128 = nb s (a + i) := Nat.mod_eq_of_lt hl
    rw [fin64 s a i (by omega)]
    have hsv : sv s a i = (gs s a (i + 1) : Int) - (if 64 ≤ nb s (a + i) then ((2 * 2 ^ (7 * i + 6) : Nat) : Int) else 0) := by
      unfold sv
      rw [hm]
      split
      · have : ((2 * 2 ^ (7 * i + 6) : Nat) : Int) = 2 ^ (7 * i + 7) := by rw [← e1]; push_cast; rfl
        rw [this]
      · rfl
    have hlo : 64 ≤ nb s (a + i) → 2 ^ (7 * i + 6) ≤ gs s a (i + 1) := fun h => by
      rw [gs_succ, hm, show 7 * i + 6 = 6 + 7 * i by omega, Nat.pow_add]
      have : (2 : Nat) ^ 6 * 2 ^ (7 * i) ≤ nb s (a + i) * 2 ^ (7 * i) := Nat.mul_le_mul_right _ (by simpa using h)
      omega
    have hhi : ¬ 64 ≤ nb s (a + i) → gs s a (i + 1) < 2 ^ (7 * i + 6) := fun h => by
      rw [gs_succ, hm, show 7 * i + 6 = 6 + 7 * i by omega, Nat.pow_add]
      have h0 := gs_lt s a i
      have : (nb s (a + i) + 1) * 2 ^ (7 * i) ≤ 2 ^ 6 * 2 ^ (7 * i) := Nat.mul_le_mul_right _ (by simp; omega)
      rw [Nat.add_mul] at this
      omega
    rw [hsv]
    rw [show 7 * i + 7 = 7 * (i + 1) by omega, e1, e3]
    rw [e1] at hg
    generalize (2 : Nat) ^ (7 * i + 6) = M at *
    generalize gs s a (i + 1) = g at *
    by_cases h : 64 ≤ nb s (a + i)
    · have := hlo h
      rw [if_pos h, if_pos ⟨rfl, h⟩]
      simp only
      rw [show ((g : Int) - ((2 * M : Nat) : Int)) % 18446744073709551616 = (g : Int) + ((18446744073709551616 : Nat) : Int) - ((2 * M : Nat) : Int) by omega]
    · have := hhi h
      rw [if_neg h, if_neg (by simp; omega)]
      simp only
      rw [show ((g : Int) - 0) % 18446744073709551616 = (g : Int) by omega]
  l32 h := by simp at h
  l64 _ hp he := by
    by_cases hl : nb s (a + 9) < 128
    · rw [slebP_last s e a 64 9 (by omega) (by omega) hp he hl]
      rw [fin64_9 s a]
      rw [l64z]
      generalize hZ : ((gs s a 9 + nb s (a + 9) % 2 * 9223372036854775808 : Nat) : Int) = Z
      clear hZ
      by_cases h0 : nb s (a + 9) = 0 ∨ nb s (a + 9) = 127
      · rw [if_neg (l64x _ h0), if_neg (by omega)]
      · rw [if_pos (l64w _ (fun h => h0 (.inl h)) (fun h => h0 (.inr h)) hl), if_pos (by omega)]
    · rw [sleb_more s e a 64 9 (by omega) (by omega) (by omega) hp he (by omega), if_pos]
      split <;> omega
end Go.Proofs.Qxb6500316a
