/-
  Facts: the longest text.
-/
import Derived.Test.Qxb6500316aFaE
set_option linter.unusedSimpArgs false
set_option linter.unusedVariables false
set_option maxRecDepth 100000
namespace Go.Proofs.Qxb6500316a
open Go Go.Vc

theorem byteAt_ofL (l : List UInt8) (i : Nat) : byteAt (ofL l) i = ((l.getD i 0).toNat : Int) := by
  unfold byteAt ofL
  simp [List.getD_eq_getElem?_getD, Array.getD_eq_getD_getElem?]
theorem repL_at (t : List UInt8) : ∀ n u j, u < n → j < t.length → (repL t n)[u * t.length + j]? = t[j]?
  | 0, u, j, h, _ => by omega
  | n + 1, u, j, h, hj => by
    rw [repL_succ]
    by_cases hu : u < n
    · have h1 : (u + 1) * t.length ≤ n * t.length := Nat.mul_le_mul_right _ (by omega)
      rw [Nat.add_mul, Nat.one_mul] at h1
      rw [List.getElem?_append_left (by rw [repL_len]; omega)]
      exact repL_at t n u j hu hj
    · obtain rfl : u = n := by omega
      rw [List.getElem?_append_right (by rw [repL_len]; omega), repL_len]
      congr 1; omega
abbrev brimB : ByteArray := ofL brimL
theorem brim_len : brimL.length = 1024 := by
  unfold brimL
  rw [List.length_append, List.length_append, repL_len]; rfl
theorem brim_size : brimB.size = 1024 := by rw [ofL_size, brim_len]
theorem brim_unit (u j : Nat) (hu : u < 90) (hj : j < 11) : byteAt brimB (25 + u * 11 + j) = ((brimU.getD j 0).toNat : Int) := by
  rw [byteAt_ofL, List.getD_eq_getElem?_getD, List.getD_eq_getElem?_getD]
  have hl : brimH.length = 25 := rfl
  have hU : brimU.length = 11 := rfl
  have h2 := repL_at brimU 90 u j hu (by omega)
  rw [hU] at h2
  unfold brimL
  rw [List.getElem?_append_left (by rw [List.length_append, repL_len]; omega), List.getElem?_append_right (by omega), hl, show 25 + u * 11 + j - 25 = u * 11 + j by omega, h2]
theorem next_at {s : ByteArray} {e p : Nat} (h : p < e) {x : Int} (hx : byteAt s p = x) : nextP s e p = .ok x (p + 1) := by
  unfold nextP; rw [if_pos h, hx]
theorem sleb_more {s : ByteArray} {e st k p : Nat} {v sh : Int} (h : p < e) (hx : byteAt s p = 128) (hsh : sh < 64) : slebL s e st 64 (k + 1) v sh p = slebL s e st 64 k (slebStep v 128 sh) (sh + 7) (p + 1) := by
  rw [slebL_succ, if_neg (by omega), next_at h hx]
  simp only [Res.bind]
  rw [if_neg (by decide)]
theorem step_zero (sh : Int) : slebStep 0 128 sh = 0 := by
  unfold slebStep
  rw [show Int.tmod 128 128 = 0 from rfl, show IntKind.wrap .u64 0 = 0 from rfl, Int.zero_mul]; rfl
theorem sleb_run {s : ByteArray} {e st k : Nat} : ∀ (n : Nat) (sh : Int) (p : Nat), p + n ≤ e → (∀ j, j < n → byteAt s (p + j) = 128) → sh + 7 * n ≤ 63 → slebL s e st 64 (k + n) 0 sh p = slebL s e st 64 k 0 (sh + 7 * n) (p + n)
  | 0, sh, p, _, _, _ => by rw [show sh + 7 * ((0 : Nat) : Int) = sh by omega]; rfl
  | n + 1, sh, p, he, h, hs => by
    rw [show k + (n + 1) = (k + n) + 1 by omega, sleb_more (by omega) (by have := h 0 (by omega); rwa [Nat.add_zero] at this) (by omega), step_zero, sleb_run n (sh + 7) (p + 1) (by omega) (fun j hj => by have := h (j + 1) (by omega); rwa [show p + 1 + j = p + (j + 1) by omega]) (by omega)]
    rw [show sh + 7 + 7 * (n : Int) = sh + 7 * ((n + 1 : Nat) : Int) by omega, show p + 1 + n = p + (n + 1) by omega]
theorem sleb_zero {s : ByteArray} {e p : Nat} (he : p + 10 ≤ e) (h : ∀ j, j < 9 → byteAt s (p + j) = 128) (h9 : byteAt s (p + 9) = 0) : slebP s e 64 p = .ok 0 (p + 10) := by
  unfold slebP
  have key : slebL s e p 64 11 0 0 p = .ok (0, 0, 70) (p + 10) := by
    rw [show (11 : Nat) = 2 + 9 from rfl, sleb_run 9 0 p (by omega) h (by decide), show (2 : Nat) = 1 + 1 from rfl, slebL_succ, if_neg (by decide), next_at (by omega) h9]
    rfl
  rw [key]; rfl
def mores (c : Sc) : Nat → Sc
  | 0 => c
  | n + 1 => (mores c n).more ⟨66, 0, 0⟩
theorem mores_nI (c : Sc) : ∀ n, (mores c n).nI = c.nI + n
  | 0 => rfl
  | n + 1 => by show (mores c n).nI + 1 = _; rw [mores_nI c n]; omega
theorem mores_rest (c : Sc) : ∀ n, (mores c n).nO = c.nO ∧ (mores c n).nT = c.nT
  | 0 => ⟨rfl, rfl⟩
  | n + 1 => mores_rest c n
theorem unit_step (u k : Nat) (hu : u < 90) (c : Sc) (hc : c.nI < 96) : bodyL brimB 1024 (k + 1) c (25 + u * 11) = bodyL brimB 1024 k (c.more ⟨66, 0, 0⟩) (25 + (u + 1) * 11) := by
  haveI := outNil
  have b0 := brim_unit u 0 hu (by decide)
  rw [Nat.add_zero] at b0
  have hz : slebP brimB 1024 64 (25 + u * 11 + 1) = .ok 0 (25 + u * 11 + 1 + 10) := by
    refine sleb_zero (by omega) (fun j hj => ?_) ?_
    · rw [show 25 + u * 11 + 1 + j = 25 + u * 11 + (1 + j) by omega, brim_unit u (1 + j) hu (by omega)]
      have : j = 0 ∨ j = 1 ∨ j = 2 ∨ j = 3 ∨ j = 4 ∨ j = 5 ∨ j = 6 ∨ j = 7 ∨ j = 8 := by omega
      rcases this with rfl | rfl | rfl | rfl | rfl | rfl | rfl | rfl | rfl <;> rfl
    · rw [show 25 + u * 11 + 1 + 9 = 25 + u * 11 + 10 by omega, brim_unit u 10 hu (by decide)]; rfl
  have hr : restX brimB 1024 c 66 ((25 + u * 11 : Nat) : Int) (25 + u * 11 + 1) = .ok (⟨66, 0, 0⟩, c) (25 + (u + 1) * 11) := by
    have e1 : restP brimB 1024 66 ((25 + u * 11 : Nat) : Int) (25 + u * 11 + 1) = (slebP brimB 1024 64 (25 + u * 11 + 1)).bind fun y q => .ok ⟨66, 0, y⟩ q := rfl
    have e2 : restX brimB 1024 c 66 ((25 + u * 11 : Nat) : Int) (25 + u * 11 + 1) = (restP brimB 1024 66 ((25 + u * 11 : Nat) : Int) (25 + u * 11 + 1)).bind fun i q => .ok (i, c) q := rfl
    rw [e2, e1, hz]
    show Res.ok _ _ = Res.ok _ _
    rw [show 25 + u * 11 + 1 + 10 = 25 + (u + 1) * 11 by omega]
  rw [bodyL_succ, next_at (by omega) (show byteAt brimB (25 + u * 11) = 66 from b0)]
  show Res.bind (restX brimB 1024 c 66 _ _) _ = _
  rw [hr]
  show bodyStep (bodyL brimB 1024 k) (25 + u * 11) 66 ⟨66, 0, 0⟩ c (25 + (u + 1) * 11) = _
  unfold bodyStep
  rw [if_neg (by omega), if_neg (by decide), if_neg (by decide), if_neg (by decide)]
theorem units (c : Sc) (hc : c.nI = 0) : ∀ (n k : Nat), n ≤ 90 → bodyL brimB 1024 (k + n) c 25 = bodyL brimB 1024 k (mores c n) (25 + n * 11)
  | 0, k, h => rfl
  | n + 1, k, h => by
    have e : k + (n + 1) = (k + 1) + n := by omega
    rw [e, units c hc n (k + 1) (by omega), unit_step n k (by omega) _ (by rw [mores_nI]; omega)]
    rfl
theorem brim_tail (n : Nat) (hn : 1015 ≤ n) (hn2 : n < 1024) : byteAt brimB n = ((brimE.getD (n - 1015) 0).toNat : Int) := by
  rw [byteAt_ofL, List.getD_eq_getElem?_getD, List.getD_eq_getElem?_getD]
  have hl : brimH.length = 25 := rfl
  have hU : brimU.length = 11 := rfl
  have hm : (brimH ++ repL brimU 90).length = 1015 := by rw [List.length_append, repL_len]; rfl
  unfold brimL
  rw [List.getElem?_append_right (by omega), hm]
theorem brim_head (n : Nat) (hn : n < 25) : byteAt brimB n = ((brimH.getD n 0).toNat : Int) := by
  rw [byteAt_ofL, List.getD_eq_getElem?_getD, List.getD_eq_getElem?_getD]
  have hl : brimH.length = 25 := rfl
  unfold brimL
  rw [List.append_assoc, List.getElem?_append_left (by omega)]
theorem u32_more {s : ByteArray} {e st k p : Nat} {v sh : Int} (h : p < e) (hx : byteAt s p = 128) (hsh : sh ≠ 28) : u32L s e st (k + 1) v sh p = u32L s e st k (bOr .u32 v (IntKind.wrap .u32 (IntKind.wrap .u32 (Int.tmod 128 128) * 2 ^ (min (Int.toNat sh) (IntKind.bits .u32))))) (sh + 7) (p + 1) := by
  rw [u32L_succ, next_at h hx]
  simp only [Res.bind]
  rw [if_neg (by omega), if_neg (by decide)]
theorem u32_last {s : ByteArray} {e st k p : Nat} {v sh x : Int} (h : p < e) (hx : byteAt s p = x) (h128 : x < 128) (hsh : sh ≠ 28) : u32L s e st (k + 1) v sh p = .ok (bOr .u32 v (IntKind.wrap .u32 (IntKind.wrap .u32 (Int.tmod x 128) * 2 ^ (min (Int.toNat sh) (IntKind.bits .u32))))) (p + 1) := by
  rw [u32L_succ, next_at h hx]
  simp only [Res.bind]
  rw [if_neg (by omega), if_pos (by omega)]
theorem brim_end (k : Nat) (c : Sc) (hc : c.nI = 90) (hO : c.nO = 0) : bodyL brimB 1024 (k + 2) c 1015 = .ok ((c.more ⟨40, 0, 0⟩).more ⟨11, 0, 0⟩) 1024 := by
  haveI := outNil
  have t0 := brim_tail 1015 (by decide) (by decide)
  have t1 := brim_tail 1016 (by decide) (by decide)
  have t2 := brim_tail 1017 (by decide) (by decide)
  have t3 := brim_tail 1018 (by decide) (by decide)
  have t4 := brim_tail 1019 (by decide) (by decide)
  have t5 := brim_tail 1020 (by decide) (by decide)
  have t6 := brim_tail 1021 (by decide) (by decide)
  have t7 := brim_tail 1022 (by decide) (by decide)
  have t8 := brim_tail 1023 (by decide) (by decide)
  have e1 : u32P brimB 1024 1016 = .ok 0 1019 := by
    unfold u32P
    rw [u32_more (by decide) t1 (by decide), u32_more (by decide) t2 (by decide), u32_last (by decide) t3 (by decide) (by decide)]
    rfl
  have e2 : u32P brimB 1024 1019 = .ok 0 1023 := by
    unfold u32P
    rw [u32_more (by decide) t4 (by decide), u32_more (by decide) t5 (by decide), u32_more (by decide) t6 (by decide), u32_last (by decide) t7 (by decide) (by decide)]
    rfl
  have r1 : restX brimB 1024 c 40 ((1015 : Nat) : Int) 1016 = .ok (⟨40, 0, 0⟩, c) 1023 := by
    have a1 : restP brimB 1024 40 ((1015 : Nat) : Int) 1016 = (u32P brimB 1024 1016).bind fun x q => (u32P brimB 1024 q).bind fun y q2 => .ok ⟨40, x, y⟩ q2 := rfl
    have a2 : restX brimB 1024 c 40 ((1015 : Nat) : Int) 1016 = (restP brimB 1024 40 ((1015 : Nat) : Int) 1016).bind fun i q => .ok (i, c) q := rfl
    rw [a2, a1, e1]
    simp only [Res.bind]
    rw [e2]
  rw [show k + 2 = (k + 1) + 1 from rfl, bodyL_succ, next_at (by decide) (show byteAt brimB 1015 = 40 from t0)]
  simp only [Res.bind]
  rw [r1]
  simp only []
  unfold bodyStep
  rw [if_neg (by omega), if_neg (by decide), if_neg (by decide), if_neg (by decide), bodyL_succ, next_at (by decide) (show byteAt brimB 1023 = 11 from t8)]
  have r2 : restX brimB 1024 (c.more ⟨40, 0, 0⟩) 11 ((1023 : Nat) : Int) (1023 + 1) = .ok (⟨11, 0, 0⟩, c.more ⟨40, 0, 0⟩) 1024 := rfl
  simp only [Res.bind]
  rw [r2]
  simp only []
  unfold bodyStep
  have hm : (c.more ⟨40, 0, 0⟩).nI = 91 := by show c.nI + 1 = 91; omega
  have hm2 : (c.more ⟨40, 0, 0⟩).nO = 0 := hO
  rw [if_neg (by omega), if_neg (by decide), if_neg (by decide), if_pos (by decide), if_pos hm2]
theorem brim_body (c : Sc) : ∃ c', bodyP brimB 1024 c 25 = .ok c' 1024 ∧ c'.nI = 92 ∧ c'.nT = c.nT := by
  unfold bodyP
  have h := units c.fresh rfl 90 (908 + 2) (by decide)
  have hI : (mores c.fresh 90).nI = 90 := by rw [mores_nI]; rfl
  have hO : (mores c.fresh 90).nO = 0 := (mores_rest c.fresh 90).1
  have hT : (mores c.fresh 90).nT = c.nT := (mores_rest c.fresh 90).2
  have e : 25 + 90 * 11 = 1015 := by decide
  rw [e] at h
  have e2 : 1024 - 25 + 1 = 908 + 2 + 90 := by decide
  rw [e2, h]
  generalize mores c.fresh 90 = d at hI hO hT
  refine ⟨_, brim_end 908 d hI hO, ?_, hT⟩
  show d.nI + 1 + 1 = 92
  omega

/-! ### The whole -/
def Res.got {α : Type} (r : Res α) (d : α) : α := match r with | .ok x _ => x | .err _ _ => d
def Res.okAt {α : Type} (r : Res α) (q : Nat) : Bool := match r with | .ok _ q' => q' == q | .err _ _ => false
theorem Res.okAt_eq {α : Type} {r : Res α} {q : Nat} (h : r.okAt q = true) (d : α) : r = .ok (r.got d) q := by
  cases r using Res.cs with
  | ok x q' =>
    have : q' = q := by simpa [Res.okAt] using h
    rw [this]; rfl
  | err n a => cases h

end Go.Proofs.Qxb6500316a
