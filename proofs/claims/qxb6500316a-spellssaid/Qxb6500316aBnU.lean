/-
  fill holds.
-/
import Derived.Test.Qxb6500316aBnT
set_option linter.unusedSimpArgs false
set_option linter.unusedVariables false
set_option maxRecDepth 100000
namespace Go.Proofs.Qxb6500316a
open Go Go.Vc

theorem rest_plain (s : ByteArray) (e : Nat) (at_ : Int) (q : Nat) : restP s e ((1 : Nat) : Int) at_ q = .ok ⟨1, 0, 0⟩ q ∧ restP s e ((11 : Nat) : Int) at_ q = .ok ⟨11, 0, 0⟩ q := ⟨rfl, rfl⟩
theorem rest_block (s : ByteArray) (e : Nat) (at_ : Int) (q : Nat) (hq : q < e) (h : nb s q = 64) : restP s e ((2 : Nat) : Int) at_ q = .ok ⟨2, IntKind.wrap .u32 ((64 : Nat) : Int), 0⟩ (q + 1) := by
  have : restP s e ((2 : Nat) : Int) at_ q = (nextP s e q).bind fun c q' => if c ≠ 64 ∧ (c < 124 ∨ 127 < c) then .err 9 q else .ok ⟨2, IntKind.wrap .u32 c, 0⟩ q' := rfl
  rw [this, nextP_in hq, h]
  rfl

/-! ### One instruction -/
theorem body_nop (s : ByteArray) (e k : Nat) (c : Sc) (p : Nat) (hp : p < e) (h : nb s p = 1) (hI : c.nI < 96) : bodyL s e (k + 1) c p = bodyL s e k (c.more ⟨1, 0, 0⟩) (p + 1) := by
  rw [bodyL_succ, nextP_in hp, h]
  simp only [Res.bind]
  rw [if_neg (by decide), (rest_plain s e _ _).1]
  simp only
  rw [if_neg (by omega), if_neg (by decide), if_neg (by decide), if_neg (by decide)]
theorem body_full (s : ByteArray) (e k : Nat) (c : Sc) (p : Nat) (hp : p < e) (h : nb s p = 11) (hI : 96 ≤ c.nI) : bodyL s e (k + 1) c p = .err 7 p := by
  rw [bodyL_succ, nextP_in hp, h]
  simp only [Res.bind]
  rw [if_neg (by decide), (rest_plain s e _ _).2]
  simp only
  rw [if_pos hI]
theorem body_close (s : ByteArray) (e k : Nat) (c : Sc) (p : Nat) (hp : p < e) (h : nb s p = 11) (hI : c.nI < 96) (hO : c.nO ≠ 0) : bodyL s e (k + 1) c p = bodyL s e k (c.more ⟨11, 0, 0⟩).closed (p + 1) := by
  rw [bodyL_succ, nextP_in hp, h]
  simp only [Res.bind]
  rw [if_neg (by decide), (rest_plain s e _ _).2]
  simp only
  rw [if_neg (by omega), if_neg (by decide), if_neg (by decide), if_pos (by decide), if_neg hO]
theorem body_last (s : ByteArray) (e k : Nat) (c : Sc) (p : Nat) (hp : p < e) (h : nb s p = 11) (hI : c.nI < 96) (hO : c.nO = 0) : bodyL s e (k + 1) c p = .ok (c.more ⟨11, 0, 0⟩) (p + 1) := by
  rw [bodyL_succ, nextP_in hp, h]
  simp only [Res.bind]
  rw [if_neg (by decide), (rest_plain s e _ _).2]
  simp only
  rw [if_neg (by omega), if_neg (by decide), if_neg (by decide), if_pos (by decide), if_pos hO]
theorem body_open (s : ByteArray) (e k : Nat) (c : Sc) (p : Nat) (hp : p + 1 < e) (h : nb s p = 2) (h2 : nb s (p + 1) = 64) (hI : c.nI < 96) : bodyL s e (k + 1) c p = if 6 ≤ c.nO then .err 11 p else bodyL s e k ((c.more ⟨2, IntKind.wrap .u32 ((64 : Nat) : Int), 0⟩).opened 2) (p + 2) := by
  rw [bodyL_succ, nextP_in (by omega), h]
  simp only [Res.bind]
  rw [if_neg (by decide), rest_block s e _ _ hp h2]
  simp only
  rw [if_neg (by omega), if_pos (by decide)]
  rfl

/-! ### nops -/
theorem body_nops (s : ByteArray) (e : Nat) : ∀ (n k : Nat) (c : Sc) (p : Nat), n < k → p + n < e → (∀ j, j < n → nb s (p + j) = 1) → nb s (p + n) = 11 → c.nO = 0 → c.nI ≤ 96 →
    (c.nI + n ≤ 95 → ∃ c', bodyL s e k c p = .ok c' (p + n + 1) ∧ c'.nT = c.nT) ∧ (c.nI + n = 96 → ∃ a, bodyL s e k c p = .err 7 a)
  | 0, k, c, p, hk, he, hb, hl, hO, hI => by
    obtain ⟨k, rfl⟩ : ∃ j, k = j + 1 := ⟨k - 1, by omega⟩
    refine ⟨fun h => ⟨_, body_last s e k c p (by omega) hl (by omega) hO, rfl⟩, fun h => ⟨_, body_full s e k c p (by omega) hl (by omega)⟩⟩
  | n + 1, k, c, p, hk, he, hb, hl, hO, hI => by
    obtain ⟨k, rfl⟩ : ∃ j, k = j + 1 := ⟨k - 1, by omega⟩
    by_cases h96 : c.nI = 96
    · exact ⟨fun h => by omega, fun h => by omega⟩
    · rw [body_nop s e k c p (by omega) (hb 0 (by omega)) (by omega)]
      have ih := body_nops s e n k (c.more ⟨1, 0, 0⟩) (p + 1) (by omega) (by omega) (fun j hj => by rw [show p + 1 + j = p + (j + 1) by omega]; exact hb (j + 1) (by omega)) (by rw [show p + 1 + n = p + (n + 1) by omega]; exact hl) hO (by show c.nI + 1 ≤ 96; omega)
      have hm : (c.more ⟨1, 0, 0⟩).nI = c.nI + 1 := rfl
      have hT : (c.more ⟨1, 0, 0⟩).nT = c.nT := rfl
      rw [hm, hT] at ih
      refine ⟨fun h => ?_, fun h => ih.2 (by omega)⟩
      obtain ⟨c', h1, h2⟩ := ih.1 (by omega)
      exact ⟨c', by rw [h1]; congr 1; omega, h2⟩

/-! ### blocks -/
theorem body_closes (s : ByteArray) (e : Nat) : ∀ (n k : Nat) (c : Sc) (p : Nat), n < k → p + n < e → (∀ j, j ≤ n → nb s (p + j) = 11) → c.nO = n → c.nI + n ≤ 95 → ∃ c', bodyL s e k c p = .ok c' (p + n + 1) ∧ c'.nT = c.nT
  | 0, k, c, p, hk, he, hb, hO, hI => by
    obtain ⟨k, rfl⟩ : ∃ j, k = j + 1 := ⟨k - 1, by omega⟩
    exact ⟨_, body_last s e k c p (by omega) (hb 0 (by omega)) (by omega) hO, rfl⟩
  | n + 1, k, c, p, hk, he, hb, hO, hI => by
    obtain ⟨k, rfl⟩ : ∃ j, k = j + 1 := ⟨k - 1, by omega⟩
    rw [body_close s e k c p (by omega) (hb 0 (by omega)) (by omega) (by omega)]
    obtain ⟨c', h1, h2⟩ := body_closes s e n k (c.more ⟨11, 0, 0⟩).closed (p + 1) (by omega) (by omega) (fun j hj => by rw [show p + 1 + j = p + (j + 1) by omega]; exact hb (j + 1) (by omega)) (by show c.nO - 1 = n; omega) (by show c.nI + 1 + n ≤ 95; omega)
    exact ⟨c', by rw [h1]; congr 1; omega, h2⟩

theorem body_opens (s : ByteArray) (e : Nat) : ∀ (n m k : Nat) (c : Sc) (p : Nat), 2 * n + m < k → p + 2 * n + m < e → (∀ j, j < n → nb s (p + 2 * j) = 2) → (∀ j, j < n → nb s (p + 2 * j + 1) = 64) → (∀ j, j ≤ m → nb s (p + 2 * n + j) = 11) → c.nO + n = m → c.nO ≤ 6 → c.nI + n + m ≤ 95 →
    (m ≤ 6 → ∃ c', bodyL s e k c p = .ok c' (p + 2 * n + m + 1) ∧ c'.nT = c.nT) ∧ (m = 7 → ∃ a, bodyL s e k c p = .err 11 a)
  | 0, m, k, c, p, hk, he, h2, h64, h11, hO, h6, hI => by
    refine ⟨fun h => ?_, fun h => by omega⟩
    obtain ⟨c', h1, h2⟩ := body_closes s e m k c p (by omega) (by omega) (fun j hj => h11 j hj) (by omega) (by omega)
    exact ⟨c', h1, h2⟩
  | n + 1, m, k, c, p, hk, he, h2, h64, h11, hO, h6, hI => by
    obtain ⟨k, rfl⟩ : ∃ j, k = j + 1 := ⟨k - 1, by omega⟩
    rw [body_open s e k c p (by omega) (h2 0 (by omega)) (h64 0 (by omega)) (by omega)]
    by_cases hO6 : 6 ≤ c.nO
    · rw [if_pos hO6]
      exact ⟨fun h => by omega, fun h => ⟨_, rfl⟩⟩
    · rw [if_neg hO6]
      have ih := body_opens s e n m k ((c.more ⟨2, IntKind.wrap .u32 ((64 : Nat) : Int), 0⟩).opened 2) (p + 2) (by omega) (by omega) (fun j hj => by rw [show p + 2 + 2 * j = p + 2 * (j + 1) by omega]; exact h2 (j + 1) (by omega)) (fun j hj => by rw [show p + 2 + 2 * j + 1 = p + 2 * (j + 1) + 1 by omega]; exact h64 (j + 1) (by omega))
        (fun j hj => by rw [show p + 2 + 2 * n + j = p + 2 * (n + 1) + j by omega]; exact h11 j hj) (by show c.nO + 1 + n = m; omega) (by show c.nO + 1 ≤ 6; omega) (by show c.nI + 1 + n + m ≤ 95; omega)
      refine ⟨fun h => ?_, fun h => ih.2 h⟩
      obtain ⟨c', g1, g2⟩ := ih.1 h
      exact ⟨c', by rw [g1]; congr 1; omega, g2⟩

/-! ### What Decode makes of the three texts -/
def FillOk (s : ByteArray) (c : Sc) (n bound : Nat) : Prop := (n ≤ bound → ∃ cp q, decP s c = .ok cp q ∧ cp.2.nf = 1) ∧ (n = bound + 1 → ∃ k a, decP s c = .err k a ∧ 0 < k)

theorem locals_none {s f : ByteArray} (h : TxtF s f) (hf : 0 < f.size) (h0 : nb f 0 = 0) : localsP s s.size 22 = .ok [] 23 := by
  have hz := h.sz
  unfold localsP
  rw [count_one s s.size 22 6 0 (by omega) (by rw [h.b 0]; exact h0) (by decide) (by decide)]
  rfl

theorem ok_of {s f : ByteArray} (h : TxtF s f) (hf : f.size ≤ 120) (c : Sc) {ls : List Int} {q1 : Nat} (hl : localsP s s.size 22 = .ok ls q1) {c' : Sc} (hb : bodyP s s.size (scT c) q1 = .ok c' s.size) (hT : c'.nT = 1) : ∃ cp q, decP s c = .ok cp q ∧ cp.2.nf = 1 := by
  refine ⟨(c', { pm0 with nf := 1 }), s.size, ?_, rfl⟩
  rw [decF h hf, hl]
  simp only [Res.bind]
  rw [hb]
  simp only
  rw [if_pos True.intro, if_pos hT]
theorem err_of {s f : ByteArray} (h : TxtF s f) (hf : f.size ≤ 120) (c : Sc) {ls : List Int} {q1 : Nat} (hl : localsP s s.size 22 = .ok ls q1) {k a : Int} (hb : bodyP s s.size (scT c) q1 = .err k a) (hk : 0 < k) : ∃ k a, decP s c = .err k a ∧ 0 < k := by
  refine ⟨k, a, ?_, hk⟩
  rw [decF h hf, hl]
  simp only [Res.bind]
  rw [hb]

theorem nops_ok (n : Nat) (hn : n ≤ 96) (c : Sc) (s : ByteArray) (h : TxtF s (((⟨#[0]⟩ : ByteArray) ++ repB ⟨#[1]⟩ n) ++ (⟨#[11]⟩ : ByteArray))) : FillOk s c n 95 := by
  have y0 : (⟨#[0]⟩ : ByteArray).size = 1 := rfl
  have y1 : (⟨#[1]⟩ : ByteArray).size = 1 := rfl
  have y11 : (⟨#[11]⟩ : ByteArray).size = 1 := rfl
  have hrs := repB_size ⟨#[1]⟩ n
  rw [y1, Nat.mul_one] at hrs
  have hfz : (((⟨#[0]⟩ : ByteArray) ++ repB ⟨#[1]⟩ n) ++ (⟨#[11]⟩ : ByteArray)).size = n + 2 := by
    rw [ByteArray.size_append, ByteArray.size_append]; omega
  have hz := h.sz
  rw [hfz] at hz
  have hl := locals_none h (by omega) (by rw [nb_append, if_pos (by rw [ByteArray.size_append]; omega), nb_append, if_pos (by omega)]; rfl)
  have hb1 : ∀ j, j < n → nb s (23 + j) = 1 := fun j hj => by
    rw [show 23 + j = 22 + (1 + j) by omega, h.b, nb_append, if_pos (by rw [ByteArray.size_append]; omega), nb_append, if_neg (by omega), y0, show 1 + j - 1 = j by omega]
    have := repB_nb ⟨#[1]⟩ (by decide) n j 0 hj (by decide)
    rw [y1, Nat.mul_one, Nat.add_zero] at this
    rw [this]; rfl
  have hb2 : nb s (23 + n) = 11 := by
    rw [show 23 + n = 22 + (1 + n) by omega, h.b, nb_append, if_neg (by rw [ByteArray.size_append]; omega), ByteArray.size_append, y0, hrs, show 1 + n - (1 + n) = 0 by omega]
    rfl
  have key := body_nops s s.size n (s.size - 23 + 1) (scT c).fresh 23 (by omega) (by omega) hb1 hb2 rfl (by show 0 ≤ 96; decide)
  have hI : (scT c).fresh.nI = 0 := rfl
  rw [hI] at key
  refine ⟨fun g => ?_, fun g => ?_⟩
  · obtain ⟨c', h1, h2⟩ := key.1 (by omega)
    have e : 23 + n + 1 = s.size := by omega
    rw [e] at h1
    exact ok_of h (by omega) c hl h1 h2
  · obtain ⟨a, h1⟩ := key.2 (by omega)
    exact err_of h (by omega) c hl h1 (by decide)

theorem blocks_ok (n : Nat) (hn : n ≤ 7) (c : Sc) (s : ByteArray) (h : TxtF s (((⟨#[0]⟩ : ByteArray) ++ (repB ⟨#[2, 64]⟩ n ++ repB ⟨#[11]⟩ n)) ++ (⟨#[11]⟩ : ByteArray))) : FillOk s c n 6 := by
  have y0 : (⟨#[0]⟩ : ByteArray).size = 1 := rfl
  have y2 : (⟨#[2, 64]⟩ : ByteArray).size = 2 := rfl
  have y11 : (⟨#[11]⟩ : ByteArray).size = 1 := rfl
  have hr2 := repB_size ⟨#[2, 64]⟩ n
  have hr1 := repB_size ⟨#[11]⟩ n
  rw [y2] at hr2
  rw [y11, Nat.mul_one] at hr1
  have hcz : (repB ⟨#[2, 64]⟩ n ++ repB ⟨#[11]⟩ n).size = n * 2 + n := by rw [ByteArray.size_append]; omega
  have hfz : (((⟨#[0]⟩ : ByteArray) ++ (repB ⟨#[2, 64]⟩ n ++ repB ⟨#[11]⟩ n)) ++ (⟨#[11]⟩ : ByteArray)).size = n * 2 + n + 2 := by
    rw [ByteArray.size_append, ByteArray.size_append]; omega
  have hz := h.sz
  rw [hfz] at hz
  have hl := locals_none h (by omega) (by rw [nb_append, if_pos (by rw [ByteArray.size_append]; omega), nb_append, if_pos (by omega)]; rfl)
  have inn : ∀ j, j < n * 2 + n → nb s (23 + j) = nb (repB ⟨#[2, 64]⟩ n ++ repB ⟨#[11]⟩ n) j := fun j hj => by
    rw [show 23 + j = 22 + (1 + j) by omega, h.b, nb_append, if_pos (by rw [ByteArray.size_append]; omega), nb_append, if_neg (by omega), y0, show 1 + j - 1 = j by omega]
  have hb2 : ∀ i, i < n → nb s (23 + 2 * i) = 2 := fun i hi => by
    rw [inn _ (by omega), nb_append, if_pos (by omega)]
    have := repB_nb ⟨#[2, 64]⟩ (by decide) n i 0 hi (by decide)
    rw [y2, Nat.add_zero, Nat.mul_comm] at this
    rw [this]; rfl
  have hb64 : ∀ i, i < n → nb s (23 + 2 * i + 1) = 64 := fun i hi => by
    rw [show 23 + 2 * i + 1 = 23 + (2 * i + 1) by omega, inn _ (by omega), nb_append, if_pos (by omega)]
    have := repB_nb ⟨#[2, 64]⟩ (by decide) n i 1 hi (by decide)
    rw [y2, Nat.mul_comm] at this
    rw [this]; rfl
  have hb11 : ∀ j, j ≤ n → nb s (23 + 2 * n + j) = 11 := fun j hj => by
    by_cases hjn : j < n
    · rw [show 23 + 2 * n + j = 23 + (2 * n + j) by omega, inn _ (by omega), nb_append, if_neg (by omega), hr2, show 2 * n + j - n * 2 = j by omega]
      have := repB_nb ⟨#[11]⟩ (by decide) n j 0 hjn (by decide)
      rw [y11, Nat.mul_one, Nat.add_zero] at this
      rw [this]; rfl
    · rw [show 23 + 2 * n + j = 22 + (1 + (n * 2 + n)) by omega, h.b, nb_append, if_neg (by rw [ByteArray.size_append]; omega), ByteArray.size_append, y0, hcz, Nat.sub_self]
      rfl
  have key := body_opens s s.size n n (s.size - 23 + 1) (scT c).fresh 23 (by omega) (by omega) hb2 hb64 hb11 (by show 0 + n = n; omega) (by show 0 ≤ 6; decide) (by show 0 + n + n ≤ 95; omega)
  refine ⟨fun g => ?_, fun g => ?_⟩
  · obtain ⟨c', h1, h2⟩ := key.1 (by omega)
    have e : 23 + 2 * n + n + 1 = s.size := by omega
    rw [e] at h1
    exact ok_of h (by omega) c hl h1 h2
  · obtain ⟨a, h1⟩ := key.2 (by omega)
    exact err_of h (by omega) c hl h1 (by decide)

theorem locals_ok (n : Nat) (hn : n ≤ 7) (c : Sc) (s : ByteArray) (h : TxtF s (((((⟨#[1]⟩ : ByteArray) ++ b1 (n : Int)) ++ (⟨#[127]⟩ : ByteArray)) ++ (⟨#[]⟩ : ByteArray)) ++ (⟨#[11]⟩ : ByteArray))) : FillOk s c n 6 := by
  have y1 : (⟨#[1]⟩ : ByteArray).size = 1 := rfl
  have y127 : (⟨#[127]⟩ : ByteArray).size = 1 := rfl
  have ye : (⟨#[]⟩ : ByteArray).size = 0 := rfl
  have y11 : (⟨#[11]⟩ : ByteArray).size = 1 := rfl
  have zb := b1_size (n : Int)
  have nbb := b1_nb (n : Int) (by omega) (by omega)
  rw [Int.toNat_natCast] at nbb
  generalize b1 (n : Int) = B at *
  have hfz : (((((⟨#[1]⟩ : ByteArray) ++ B) ++ (⟨#[127]⟩ : ByteArray)) ++ (⟨#[]⟩ : ByteArray)) ++ (⟨#[11]⟩ : ByteArray)).size = 4 := by
    simp only [ByteArray.size_append]; omega
  have hz := h.sz
  rw [hfz] at hz
  have n22 : nb s 22 = 1 := by
    rw [show 22 = 22 + 0 from rfl, h.b]
    simp only [nb_append, ByteArray.size_append, y1, y127, ye, y11, zb]
    rw [if_pos (by omega), if_pos (by omega), if_pos (by omega), if_pos (by omega)]; rfl
  have n23 : nb s 23 = n := by
    rw [show 23 = 22 + 1 from rfl, h.b]
    simp only [nb_append, ByteArray.size_append, y1, y127, ye, y11, zb]
    rw [if_pos (by omega), if_pos (by omega), if_pos (by omega), if_neg (by omega)]; exact nbb
  have n24 : nb s 24 = 127 := by
    rw [show 24 = 22 + 2 from rfl, h.b]
    simp only [nb_append, ByteArray.size_append, y1, y127, ye, y11, zb]
    rw [if_pos (by omega), if_pos (by omega), if_neg (by omega)]; rfl
  have n25 : nb s 25 = 11 := by
    rw [show 25 = 22 + 3 from rfl, h.b]
    simp only [nb_append, ByteArray.size_append, y1, y127, ye, y11, zb]
    rw [if_neg (by omega)]; rfl
  have hl0 : localsP s s.size 22 = (countP s s.size 6 23).bind fun n q => (valtypeP s s.size q).bind fun t q2 => .ok (List.replicate n t) q2 := by
    unfold localsP
    rw [count_one s s.size 22 6 1 (by omega) n22 (by decide) (by decide)]
    rfl
  refine ⟨fun g => ?_, fun g => ?_⟩
  · have hl : localsP s s.size 22 = .ok (List.replicate n 127) 25 := by
      rw [hl0, count_one s s.size 23 6 n (by omega) n23 (by omega) (by omega)]
      simp only [Res.bind]
      unfold valtypeP
      rw [nextP_in (by omega), n24]
      rfl
    have hb : bodyP s s.size (scT c) 25 = .ok ((scT c).fresh.more ⟨11, 0, 0⟩) s.size := by
      unfold bodyP
      rw [show s.size - 25 + 1 = 1 + 1 by omega, body_last s s.size 1 _ 25 (by omega) n25 (by show 0 < 96; decide) rfl]
      congr 1; omega
    exact ok_of h (by omega) c hl hb rfl
  · have hl : localsP s s.size 22 = .err 7 23 := by
      rw [hl0]
      unfold countP
      rw [u32_one s s.size 23 (by omega) (by omega), n23]
      simp only [Res.bind]
      rw [if_pos (by omega)]
      rfl
    refine ⟨7, 23, ?_, by decide⟩
    rw [decF h (by omega), hl]
    rfl

/-! ### fill -/
theorem fill_L3 {w0 w : World} {b bi bt : Nat} {c : Sc} (hB : BinAt w b bi bt c) (hS0 : Same [] w0.heap.size w0 w) (n bound : Nat) (hn : n ≤ bound + 1) (hb : bound ≤ 1000) (ls code : ByteArray) (hsz : ((ls ++ code) ++ (⟨#[11]⟩ : ByteArray)).size ≤ 120)
    (hD : ∀ s, TxtF s ((ls ++ code) ++ (⟨#[11]⟩ : ByteArray)) → FillOk s c n bound) : binlaw_fill.L3 (some ⟨b, 0, none⟩) n bound ls code (NumR w0 b bi bt) (fun _ _ => False) w := by
  refine binlaw_fill.step3 _ _ _ _ _ _ _ _ ?_
  unfold binlaw_fill.V3
  have hsz' := hsz
  rw [ByteArray.size_append] at hsz'
  have hsz2 := hsz'
  rw [ByteArray.size_append] at hsz2
  refine ⟨by omega, by omega, ?_⟩
  have h := txtF ((ls ++ code) ++ (⟨#[11]⟩ : ByteArray)) hsz
  have hD := hD _ h
  have hz := h.sz
  generalize hf : (ls ++ code) ++ (⟨#[11]⟩ : ByteArray) = f at *
  refine RunsQ.post (one_spec _ (by omega) (by omega) w) ?_
  rintro v w1 ⟨rfl, hS1⟩
  have e1 : IntKind.wrap .i64 (((ByteArray.size f : Nat) : Int) + 2) = ((f.size + 2 : Nat) : Int) := by rw [wrap_i64 (by omega) (by omega)]; omega
  rw [e1]
  refine ⟨_, rfl, RunsQ.post (one_spec _ (by omega) (by omega) w1) ?_⟩
  rintro v w2 ⟨rfl, hS2⟩
  have hT1 := hS0.trans (hS1.mono hS0.size (by simp))
  have hT2 := hT1.trans (hS2.mono hT1.size (by simp))
  have hB2 := (hB.keep hS1 (by simp) (by simp) (by simp)).keep hS2 (by simp) (by simp) (by simp)
  have y1 : (⟨#[1]⟩ : ByteArray).size = 1 := rfl
  have zl : (⟨#[0, 97, 115, 109, 1, 0, 0, 0, 1, 4, 1, 96, 0, 0, 3, 2, 1, 0, 10]⟩ : ByteArray).size = 19 := rfl
  have zb1 := b1_size ((f.size + 2 : Nat) : Int)
  have zb2 := b1_size (f.size : Int)
  refine ⟨_, rfl, by (simp only [ByteArray.size_append, zl, zb1]; omega), by (simp only [ByteArray.size_append, zl, zb1, y1]; omega), by (simp only [ByteArray.size_append, zl, zb1, zb2, y1]; omega), by (simp only [ByteArray.size_append, zl, zb1, zb2, y1]; omega), ?_⟩
  have hNo : decP ((((litF ++ b1 ((f.size + 2 : Nat) : Int)) ++ (⟨#[1]⟩ : ByteArray)) ++ b1 (f.size : Int)) ++ f) c ≠ .err (-1) 0 := by
    intro g
    by_cases hle : n ≤ bound
    · obtain ⟨cp, q, h1, _⟩ := hD.1 hle
      rw [h1] at g; cases g
    · obtain ⟨k, a, h1, h2⟩ := hD.2 (by omega)
      rw [h1] at g
      (first | (injection g with z__; injection z__ with g1 g2) | injection g with g1 g2)
      omega
  have hDec := Decode_spec hB2 _ (by omega) (by omega) (magic_of _ (by omega) h.m) hNo
  have fin : ∀ {w' : World}, Same [b, bi] w2.heap.size w2 w' → Same [b, bi] w0.heap.size w0 w' := fun h => (hT2.mono (Nat.le_refl _) (by simp)).trans (h.mono hT2.size (fun k hk _ => hk))
  refine RunsQ.post hDec ?_
  rintro v w3 (⟨cp, q, mb, m, hr, rfl, hB3, hM, hI, hS3⟩ | ⟨k, a, hr, rfl, hB3, hS3⟩)
  · refine ⟨_, _, _, rfl, ?_⟩
    by_cases hle : n ≤ bound
    · obtain ⟨cp', q', h1, h2⟩ := hD.1 hle
      rw [h1] at hr
      (first | (injection hr with z__; injection z__ with g1 g2) | injection hr with g1 g2)
      refine cond_false' (decide_eq_false (by omega)) (cond_true' rfl ?_)
      simp only [nilV_some, Nat.zero_add]
      have h2c := hM.c 2 (by decide)
      rcases hI.f2 with ⟨g0, _⟩ | ⟨fb, hm2⟩
      · rw [← g1, h2] at g0; cases g0
      · rw [hm2, ← g1, h2] at h2c
        exact ⟨_, _, _, h2c, rfl, ⟨_, hB3⟩, fin hS3⟩
    · obtain ⟨k, a, h1, h2⟩ := hD.2 (by omega)
      rw [h1] at hr; cases hr
  · refine ⟨_, _, _, rfl, ?_⟩
    by_cases hle : n ≤ bound
    · obtain ⟨cp', q', h1, h2⟩ := hD.1 hle
      rw [h1] at hr; cases hr
    · obtain ⟨k', a', h1, h2⟩ := hD.2 (by omega)
      rw [h1] at hr
      (first | (injection hr with z__; injection z__ with g1 g2) | injection hr with g1 g2)
      refine cond_true' (decide_eq_true (by omega)) ⟨?_, hB3, fin hS3⟩
      have e : (k != (0 : Int)) = true := bne_iff_ne.2 (by omega)
      rw [e]

theorem fill_spec {w : World} {b bi bt : Nat} {c : Sc} (hB : BinAt w b bi bt c) (which n : Int) (hw : 0 ≤ which ∧ which ≤ 2) (hn0 : 0 ≤ n) (hn : n ≤ 96) : Runs Try.prog binlaw_fill.id #[rp b, .int .i64 which, .int .i64 n] w (NumR w b bi bt) := by
  obtain ⟨m, rfl⟩ := Int.eq_ofNat_of_zero_le hn0
  have true_R : NumR w b bi bt (.bool true) w := ⟨rfl, ⟨_, hB⟩, (Same.refl _ _ _)⟩
  have y0 : (⟨#[0]⟩ : ByteArray).size = 1 := rfl
  have y1 : (⟨#[1]⟩ : ByteArray).size = 1 := rfl
  have y2 : (⟨#[2, 64]⟩ : ByteArray).size = 2 := rfl
  have ye : (⟨#[]⟩ : ByteArray).size = 0 := rfl
  have y11 : (⟨#[11]⟩ : ByteArray).size = 1 := rfl
  have y127 : (⟨#[127]⟩ : ByteArray).size = 1 := rfl
  have e96 : IntKind.wrap .i64 ((95 : Int) + 1) = 96 := by rw [wrap_i64 (by omega) (by omega)]; rfl
  have e7 : IntKind.wrap .i64 ((6 : Int) + 1) = 7 := by rw [wrap_i64 (by omega) (by omega)]; rfl
  refine binlaw_fill.enter _ _ _ _ _ _ ?_
  unfold binlaw_fill.V
  have : which = 0 ∨ which = 1 ∨ which = 2 := by omega
  rcases this with rfl | rfl | rfl
  · refine cond_true' rfl ?_
    refine RunsQ.post (rep_spec ⟨#[1]⟩ (by decide) m (by omega) w) ?_
    rintro v w' ⟨rfl, rfl⟩
    refine ⟨_, rfl, ?_⟩
    refine binlaw_fill.step1 _ _ _ _ _ _ _ _ _ ?_
    unfold binlaw_fill.V1
    rw [e96]
    refine cond_false' (decide_eq_false (by omega)) (cond_false' rfl ?_)
    refine binlaw_fill.step2 _ _ _ _ _ _ _ _ _ ?_
    unfold binlaw_fill.V2
    refine cond_false' rfl ?_
    have hrs := repB_size ⟨#[1]⟩ m
    rw [y1, Nat.mul_one] at hrs
    exact fill_L3 hB (Same.refl _ _ _) m 95 (by omega) (by decide) ⟨#[0]⟩ (repB ⟨#[1]⟩ m) (by simp only [ByteArray.size_append]; omega) (fun s hs => nops_ok m (by omega) c s hs)
  · refine cond_false' rfl (cond_true' rfl ?_)
    refine binlaw_fill.step1 _ _ _ _ _ _ _ _ _ ?_
    unfold binlaw_fill.V1
    rw [e7]
    by_cases h7 : 7 < m
    · exact cond_true' (decide_eq_true (by omega)) true_R
    · refine cond_false' (decide_eq_false (by omega)) (cond_true' rfl ?_)
      refine RunsQ.post (rep_spec ⟨#[2, 64]⟩ (by decide) m (by omega) w) ?_
      rintro v w' ⟨rfl, rfl⟩
      refine ⟨_, rfl, RunsQ.post (rep_spec ⟨#[11]⟩ (by decide) m (by omega) w') ?_⟩
      rintro v w' ⟨rfl, rfl⟩
      have hr2 := repB_size ⟨#[2, 64]⟩ m
      have hr1 := repB_size ⟨#[11]⟩ m
      rw [y2] at hr2
      rw [y11, Nat.mul_one] at hr1
      refine ⟨_, rfl, by omega, ?_⟩
      refine binlaw_fill.step2 _ _ _ _ _ _ _ _ _ ?_
      unfold binlaw_fill.V2
      refine cond_false' rfl ?_
      exact fill_L3 hB (Same.refl _ _ _) m 6 (by omega) (by decide) ⟨#[0]⟩ (repB ⟨#[2, 64]⟩ m ++ repB ⟨#[11]⟩ m) (by simp only [ByteArray.size_append]; omega) (fun s hs => blocks_ok m (by omega) c s hs)
  · refine cond_false' rfl (cond_false' rfl (cond_true' rfl ?_))
    refine binlaw_fill.step1 _ _ _ _ _ _ _ _ _ ?_
    unfold binlaw_fill.V1
    rw [e7]
    by_cases h7 : 7 < m
    · exact cond_true' (decide_eq_true (by omega)) true_R
    · refine cond_false' (decide_eq_false (by omega)) (cond_false' rfl ?_)
      refine binlaw_fill.step2 _ _ _ _ _ _ _ _ _ ?_
      unfold binlaw_fill.V2
      refine cond_true' rfl ?_
      refine RunsQ.post (one_spec _ (by omega) (by omega) w) ?_
      rintro v w1 ⟨rfl, hS1⟩
      have zb := b1_size (m : Int)
      refine ⟨_, rfl, by omega, by (rw [ByteArray.size_append]; omega), ?_⟩
      exact fill_L3 (hB.keep hS1 (by simp) (by simp) (by simp)) hS1 m 6 (by omega) (by decide) _ ⟨#[]⟩ (by simp only [ByteArray.size_append]; omega) (fun s hs => locals_ok m (by omega) c s hs)

end Go.Proofs.Qxb6500316a
