/-
  Facts: the texts that are taken, and those that are refused.
-/
import Derived.Test.Qxb6500316aFaA
set_option linter.unusedSimpArgs false
set_option linter.unusedVariables false
set_option maxRecDepth 100000
namespace Go.Proofs.Qxb6500316a
open Go Go.Vc

/-! ### Taken -/
def takLit (i : Nat) : List UInt8 := match i with
  | 0 => [0, 97, 115, 109, 1, 0, 0, 0, 1, 4, 1, 96, 0, 0, 3, 2, 1, 0, 10, 10, 1, 8, 0, 65, 0, 40, 1, 2, 26, 11]
  | 1 => [0, 97, 115, 109, 1, 0, 0, 0, 6, 6, 1, 126, 1, 66, 5, 11]
  | 2 => [0, 97, 115, 109, 1, 0, 0, 0, 6, 6, 1, 127, 0, 65, 5, 11]
  | 3 => [0, 97, 115, 109, 1, 0, 0, 0, 5, 4, 1, 1, 1, 2]
  | 4 => [0, 97, 115, 109, 1, 0, 0, 0, 4, 5, 1, 112, 1, 3, 4]
  | 5 => [0, 97, 115, 109, 1, 0, 0, 0, 5, 3, 1, 0, 7]
  | 6 => [0, 97, 115, 109, 1, 0, 0, 0, 2, 9, 1, 2, 97, 98, 2, 99, 100, 0, 3]
  | 7 => [0, 97, 115, 109, 1, 0, 0, 0, 11, 8, 1, 0, 65, 3, 11, 2, 120, 121]
  | 8 => [0, 97, 115, 109, 1, 0, 0, 0, 7, 6, 1, 2, 101, 102, 2, 3]
  | 9 => [0, 97, 115, 109, 1, 0, 0, 0, 9, 8, 1, 0, 65, 1, 11, 2, 5, 6]
  | 10 => [0, 97, 115, 109, 1, 0, 0, 0, 1, 7, 1, 96, 2, 127, 126, 1, 125]
  | 11 => [0, 97, 115, 109, 1, 0, 0, 0, 1, 7, 2, 96, 0, 0, 96, 0, 0, 3, 3, 2, 1, 0, 10, 12, 2, 6, 2, 1, 127, 1, 126, 11, 3, 0, 1, 11]
  | 12 => [0, 97, 115, 109, 1, 0, 0, 0, 1, 4, 1, 96, 0, 0, 3, 2, 1, 0, 10, 14, 1, 12, 0, 65, 0, 14, 2, 2, 1, 0, 17, 3, 0, 11]
  | 13 => [0, 97, 115, 109, 1, 0, 0, 0, 1, 4, 1, 96, 0, 0, 3, 2, 1, 0, 10, 13, 1, 11, 0, 2, 127, 65, 7, 11, 26, 32, 5, 26, 11]
  | 26 => [0, 97, 115, 109, 1, 0, 0, 0, 1, 4, 1, 96, 0, 0, 3, 2, 1, 0, 10, 16, 1, 14, 6, 1, 127, 1, 126, 1, 127, 1, 126, 1, 127, 1, 126, 11]
  | _ => []
def takL (i : Nat) : List UInt8 := if 14 ≤ i ∧ i ≤ 25 then fullL (i - 14) (fullM (i - 14)) else takLit i
theorem fullM_le (k : Nat) : fullM k ≤ 24 := by
  unfold fullM
  split <;> decide
theorem Taken_spec (i : Nat) (hi : i < 27) (w : World) : Runs Try.prog binlaw_Taken.id #[.int .i64 (i : Int)] w fun v w' => v = .string (ofL (takL i)) ∧ Same [] w.heap.size w w' := by
  refine binlaw_Taken.enter _ _ _ _ ?_
  unfold binlaw_Taken.V
  by_cases hr : 14 ≤ i ∧ i ≤ 25
  · refine cond_true' (decide_eq_true (by omega)) ?_
    refine binlaw_Taken.step1 _ _ _ _ _ ?_
    unfold binlaw_Taken.V1
    refine cond_true' (decide_eq_true (by omega)) ?_
    have e : IntKind.wrap .i64 ((i : Int) - 14) = ((i - 14 : Nat) : Int) := by rw [wrap_i64 (by omega) (by omega)]; omega
    refine RunsQ.post (Full_spec _ _ (i - 14) 0 e rfl (by omega) (by omega) w) ?_
    rintro v w1 ⟨rfl, S1⟩
    have hm := fullM_le (i - 14)
    refine ⟨_, _, _, rfl, RunsQ.post (Full_spec _ _ (i - 14) (fullM (i - 14)) e rfl (by omega) (by omega) w1) ?_⟩
    rintro v w2 ⟨rfl, S2⟩
    refine ⟨_, _, _, rfl, ?_, S1.trans (S2.mono S1.size (by simp))⟩
    unfold takL
    rw [if_pos hr]
  · have key : binlaw_Taken.V1 (i : Int) false (fun v w' => v = .string (ofL (takL i)) ∧ Same [] w.heap.size w w') (fun _ _ => False) w := by
      have e : takL i = takLit i := by unfold takL; rw [if_neg hr]
      rw [e]
      unfold binlaw_Taken.V1
      refine cond_false' rfl ?_
      match i, hi, hr with
      | 0, _, _ => (repeat (first | refine cond_true' (by decide) ?_ | refine cond_false' (by decide) ?_)); exact ⟨rfl, Same.refl _ _ _⟩
      | 1, _, _ => (repeat (first | refine cond_true' (by decide) ?_ | refine cond_false' (by decide) ?_)); exact ⟨rfl, Same.refl _ _ _⟩
      | 2, _, _ => (repeat (first | refine cond_true' (by decide) ?_ | refine cond_false' (by decide) ?_)); exact ⟨rfl, Same.refl _ _ _⟩
      | 3, _, _ => (repeat (first | refine cond_true' (by decide) ?_ | refine cond_false' (by decide) ?_)); exact ⟨rfl, Same.refl _ _ _⟩
      | 4, _, _ => (repeat (first | refine cond_true' (by decide) ?_ | refine cond_false' (by decide) ?_)); exact ⟨rfl, Same.refl _ _ _⟩
      | 5, _, _ => (repeat (first | refine cond_true' (by decide) ?_ | refine cond_false' (by decide) ?_)); exact ⟨rfl, Same.refl _ _ _⟩
      | 6, _, _ => (repeat (first | refine cond_true' (by decide) ?_ | refine cond_false' (by decide) ?_)); exact ⟨rfl, Same.refl _ _ _⟩
      | 7, _, _ => (repeat (first | refine cond_true' (by decide) ?_ | refine cond_false' (by decide) ?_)); exact ⟨rfl, Same.refl _ _ _⟩
      | 8, _, _ => (repeat (first | refine cond_true' (by decide) ?_ | refine cond_false' (by decide) ?_)); exact ⟨rfl, Same.refl _ _ _⟩
      | 9, _, _ => (repeat (first | refine cond_true' (by decide) ?_ | refine cond_false' (by decide) ?_)); exact ⟨rfl, Same.refl _ _ _⟩
      | 10, _, _ => (repeat (first | refine cond_true' (by decide) ?_ | refine cond_false' (by decide) ?_)); exact ⟨rfl, Same.refl _ _ _⟩
      | 11, _, _ => (repeat (first | refine cond_true' (by decide) ?_ | refine cond_false' (by decide) ?_)); exact ⟨rfl, Same.refl _ _ _⟩
      | 12, _, _ => (repeat (first | refine cond_true' (by decide) ?_ | refine cond_false' (by decide) ?_)); exact ⟨rfl, Same.refl _ _ _⟩
      | 13, _, _ => (repeat (first | refine cond_true' (by decide) ?_ | refine cond_false' (by decide) ?_)); exact ⟨rfl, Same.refl _ _ _⟩
      | 26, _, _ => (repeat (first | refine cond_true' (by decide) ?_ | refine cond_false' (by decide) ?_)); exact ⟨rfl, Same.refl _ _ _⟩
      | 14, _, hr => exact absurd ⟨by decide, by decide⟩ hr
      | 15, _, hr => exact absurd ⟨by decide, by decide⟩ hr
      | 16, _, hr => exact absurd ⟨by decide, by decide⟩ hr
      | 17, _, hr => exact absurd ⟨by decide, by decide⟩ hr
      | 18, _, hr => exact absurd ⟨by decide, by decide⟩ hr
      | 19, _, hr => exact absurd ⟨by decide, by decide⟩ hr
      | 20, _, hr => exact absurd ⟨by decide, by decide⟩ hr
      | 21, _, hr => exact absurd ⟨by decide, by decide⟩ hr
      | 22, _, hr => exact absurd ⟨by decide, by decide⟩ hr
      | 23, _, hr => exact absurd ⟨by decide, by decide⟩ hr
      | 24, _, hr => exact absurd ⟨by decide, by decide⟩ hr
      | 25, _, hr => exact absurd ⟨by decide, by decide⟩ hr
      | n + 27, h, _ => exact absurd h (by omega)
    refine cond_intro (fun h => ?_) (fun h => ?_)
    · have e2 : decide ((i : Int) ≤ 25) = false := decide_eq_false (by have := of_decide_eq_true h; omega)
      rw [e2]
      exact binlaw_Taken.step1 _ _ _ _ _ key
    · exact binlaw_Taken.step1 _ _ _ _ _ key

/-! ### Deep, Brim -/
def deepF (n k : Nat) : List UInt8 := [0] ++ repL [2, 64] n ++ repL [1] k ++ [2, 64] ++ repL [11] (n + 2)
def bodyT (f : List UInt8) : List UInt8 := fnL ++ oneL (IntKind.wrap .i64 (((ofL f).size : Nat) + 2 : Int)) ++ [1] ++ oneL ((ofL f).size : Nat) ++ f
theorem Deep_spec (nI kI : Int) (n k : Nat) (en : nI = (n : Int)) (ek : kI = (k : Int)) (hn : n ≤ 10) (hk : k ≤ 100) (w : World) : Runs Try.prog binlaw_Deep.id #[.int .i64 nI, .int .i64 kI] w fun v w' => v = .string (ofL (bodyT (deepF n k))) ∧ Same [] w.heap.size w w' := by
  have hm : fnL.length = 19 := rfl
  refine binlaw_Deep.enter _ _ _ _ _ ?_
  unfold binlaw_Deep.V
  refine RunsQ.post (rep_spec [2, 64] (by decide) _ n en (by omega) w) ?_
  rintro v w1 ⟨rfl, rfl⟩
  refine ⟨_, rfl, RunsQ.post (rep_spec [1] (by decide) _ k ek (by omega) w1) ?_⟩
  rintro v w2 ⟨rfl, rfl⟩
  have e2 : IntKind.wrap .i64 (nI + 2) = ((n + 2 : Nat) : Int) := by rw [en, wrap_i64 (by omega) (by omega)]; omega
  refine ⟨_, rfl, RunsQ.post (rep_spec [11] (by decide) _ (n + 2) e2 (by omega) w2) ?_⟩
  rintro v w3 ⟨rfl, rfl⟩
  refine ⟨_, rfl, by (simp only [mk_ofL, ofL_append, ofL_size, List.length_append, List.length_cons, List.length_nil, oneL_len, repL_len]; omega), by (simp only [mk_ofL, ofL_append, ofL_size, List.length_append, List.length_cons, List.length_nil, oneL_len, repL_len]; omega), by (simp only [mk_ofL, ofL_append, ofL_size, List.length_append, List.length_cons, List.length_nil, oneL_len, repL_len]; omega), by (simp only [mk_ofL, ofL_append, ofL_size, List.length_append, List.length_cons, List.length_nil, oneL_len, repL_len]; omega), ?_⟩
  simp only [mk_ofL, ofL_append]
  refine RunsQ.post (one_spec _ w3) ?_
  rintro v w4 ⟨rfl, S4⟩
  refine ⟨_, rfl, RunsQ.post (one_spec _ w4) ?_⟩
  rintro v w5 ⟨rfl, S5⟩
  have T5 := S4.trans (S5.mono S4.size (by simp))
  refine ⟨_, rfl, by (simp only [mk_ofL, ofL_append, ofL_size, List.length_append, List.length_cons, List.length_nil, oneL_len, repL_len]; omega), by (simp only [mk_ofL, ofL_append, ofL_size, List.length_append, List.length_cons, List.length_nil, oneL_len, repL_len]; omega), by (simp only [mk_ofL, ofL_append, ofL_size, List.length_append, List.length_cons, List.length_nil, oneL_len, repL_len]; omega), by (simp only [mk_ofL, ofL_append, ofL_size, List.length_append, List.length_cons, List.length_nil, oneL_len, repL_len]; omega), ?_⟩
  simp only [mk_ofL, ofL_append]
  exact ⟨rfl, T5⟩
def brimH : List UInt8 := [0, 97, 115, 109, 1, 0, 0, 0, 1, 4, 1, 96, 0, 0, 3, 2, 1, 0, 10, 235, 7, 1, 232, 7, 0]
def brimU : List UInt8 := [66, 128, 128, 128, 128, 128, 128, 128, 128, 128, 0]
def brimE : List UInt8 := [40, 128, 128, 0, 128, 128, 128, 0, 11]
def brimL : List UInt8 := brimH ++ repL brimU 90 ++ brimE
theorem Brim_spec (w : World) : Runs Try.prog binlaw_Brim.id #[] w fun v w' => v = .string (ofL brimL) ∧ Same [] w.heap.size w w' := by
  refine binlaw_Brim.enter _ _ _ ?_
  unfold binlaw_Brim.V
  refine RunsQ.post (rep_spec [66, 128, 128, 128, 128, 128, 128, 128, 128, 128, 0] (by decide) _ 90 rfl (by omega) w) ?_
  rintro v w1 ⟨rfl, rfl⟩
  refine ⟨_, rfl, by (simp only [mk_ofL, ofL_append, ofL_size, List.length_append, List.length_cons, List.length_nil, oneL_len, repL_len]; omega), by (simp only [mk_ofL, ofL_append, ofL_size, List.length_append, List.length_cons, List.length_nil, oneL_len, repL_len]; omega), ?_⟩
  simp only [mk_ofL, ofL_append]
  exact ⟨rfl, Same.refl _ _ _⟩

/-! ### Refused -/
def refLit (i : Nat) : List UInt8 × Int × Int := match i with
  | 0 => ([0, 97, 115, 109], 3, 4)
  | 1 => ([0, 97, 115, 109, 2, 0, 0, 0], 2, 0)
  | 2 => ([0, 97, 115, 109, 1, 0, 0, 0, 12, 0], 5, 8)
  | 3 => ([0, 97, 115, 109, 1, 0, 0, 0, 0, 0], 5, 8)
  | 4 => ([0, 97, 115, 109, 1, 0, 0, 0, 1, 1, 0, 1, 1, 0], 5, 11)
  | 5 => ([0, 97, 115, 109, 1, 0, 0, 0, 1, 5, 0], 3, 9)
  | 6 => ([0, 97, 115, 109, 1, 0, 0, 0, 1, 2, 0, 0], 6, 10)
  | 7 => ([0, 97, 115, 109, 1, 0, 0, 0, 1, 1, 1, 5, 1, 0], 3, 11)
  | 8 => ([0, 97, 115, 109, 1, 0, 0, 0, 8, 5, 255, 255, 255, 255, 31], 4, 10)
  | 9 => ([0, 97, 115, 109, 1, 0, 0, 0, 1, 1, 9], 7, 10)
  | 10 => ([0, 97, 115, 109, 1, 0, 0, 0, 2, 3, 1, 5, 97, 5, 1, 0], 3, 13)
  | 11 => ([0, 97, 115, 109, 1, 0, 0, 0, 1, 2, 1, 97], 8, 11)
  | 12 => ([0, 97, 115, 109, 1, 0, 0, 0, 1, 5, 1, 96, 1, 0, 0], 9, 13)
  | 13 => ([0, 97, 115, 109, 1, 0, 0, 0, 1, 4, 1, 96, 0, 0, 3, 2, 1, 0, 10, 5, 1, 3, 0, 6, 11], 10, 23)
  | 14 => ([0, 97, 115, 109, 1, 0, 0, 0, 4, 1, 2], 7, 10)
  | 15 => ([0, 97, 115, 109, 1, 0, 0, 0, 1, 4, 1, 96, 0, 0, 3, 2, 1, 0, 10, 5, 1, 3, 0, 11, 11], 6, 22)
  | 16 => ([0, 97, 115, 109, 1, 0, 0, 0, 6, 5, 1, 127, 0, 32, 255], 13, 13)
  | 17 => ([0, 97, 115, 109, 1, 0, 0, 0, 6, 6, 1, 127, 0, 65, 0, 1], 13, 15)
  | 18 => ([0, 97, 115, 109, 1, 0, 0, 0, 1, 4, 1, 96, 0, 0, 3, 2, 1, 0, 10, 1, 0], 12, 20)
  | 19 => ([0, 97, 115, 109, 1, 0, 0, 0, 1, 4, 1, 96, 0, 0, 3, 2, 1, 0], 12, 18)
  | 20 => ([0, 97, 115, 109, 1, 0, 0, 0, 1, 4, 1, 96, 0, 0, 3, 2, 1, 0, 10, 6, 1, 4, 1, 7, 127, 11], 7, 23)
  | 21 => ([0, 97, 115, 109, 1, 0, 0, 0, 1, 4, 1, 96, 0, 0, 3, 2, 1, 0, 10, 5, 1, 3, 0, 5, 11], 11, 23)
  | 24 => ([0, 97, 115, 109, 1, 0, 0, 0, 1, 4, 1, 96, 0, 0, 3, 2, 1, 0, 10, 7, 1, 5, 0, 63, 1, 26, 11], 8, 24)
  | 25 => ([0, 97, 115, 109, 1, 0, 0, 0, 1, 4, 1, 96, 0, 0, 3, 2, 1, 0, 10, 6, 1, 4, 0, 14, 24, 11], 7, 24)
  | 26 => ([0, 97, 115, 109, 1, 0, 0, 0, 1, 4, 1, 96, 0, 0, 3, 2, 1, 0, 10, 3, 1, 5, 0, 11, 11, 11, 11], 3, 21)
  | 27 => ([0, 97, 115, 109, 1, 0, 0, 0, 1, 4, 1, 96, 0, 0, 3, 2, 1, 0, 10, 6, 1, 4, 0, 2, 0, 11], 9, 24)
  | 28 => ([0, 97, 115, 109, 1, 0, 0, 0, 3, 2, 1, 0, 10, 1, 9], 7, 14)
  | 22 => (bodyT (deepF 6 0), 11, 35)
  | 23 => (bodyT (deepF 6 90), 7, 125)
  | 41 => ([0, 97, 115, 109, 1, 0, 0, 0, 1, 4, 1, 96, 0, 0, 3, 2, 1, 0, 10, 18, 1, 16, 7] ++ repL [0, 127] 7 ++ [11], 7, 22)
  | _ => ([], 0, 0)
def refL (i : Nat) : List UInt8 × Int × Int := if 29 ≤ i ∧ i ≤ 40 then (fullL (i - 29) (fullM (i - 29) + 1), 7, fullA (i - 29)) else refLit i
theorem Refused_spec (iI : Int) (i : Nat) (ei : iI = (i : Int)) (hi : i < 42) (w : World) : Runs Try.prog binlaw_Refused.id #[.int .i64 iI] w fun v w' => v = .tuple #[.string (ofL (refL i).1), .int .i64 (refL i).2.1, .int .i64 (refL i).2.2] ∧ Same [] w.heap.size w w' := by
  subst ei
  refine binlaw_Refused.enter _ _ _ _ ?_
  unfold binlaw_Refused.V
  by_cases hr : 29 ≤ i ∧ i ≤ 40
  · refine cond_true' (decide_eq_true (by omega)) ?_
    refine binlaw_Refused.step1 _ _ _ _ _ ?_
    unfold binlaw_Refused.V1
    refine cond_true' (decide_eq_true (by omega)) ?_
    have e : IntKind.wrap .i64 ((i : Int) - 29) = ((i - 29 : Nat) : Int) := by rw [wrap_i64 (by omega) (by omega)]; omega
    refine RunsQ.post (Full_spec _ _ (i - 29) 0 e rfl (by omega) (by omega) w) ?_
    rintro v w1 ⟨rfl, S1⟩
    have hm := fullM_le (i - 29)
    have e1 : IntKind.wrap .i64 (((fullM (i - 29) : Nat) : Int) + 1) = ((fullM (i - 29) + 1 : Nat) : Int) := by rw [wrap_i64 (by omega) (by omega)]; omega
    refine ⟨_, _, _, rfl, RunsQ.post (Full_spec _ _ (i - 29) (fullM (i - 29) + 1) e e1 (by omega) (by omega) w1) ?_⟩
    rintro v w2 ⟨rfl, S2⟩
    refine ⟨_, _, _, rfl, ?_, S1.trans (S2.mono S1.size (by simp))⟩
    unfold refL
    rw [if_pos hr]
  · have key : binlaw_Refused.V1 (i : Int) false (fun v w' => v = .tuple #[.string (ofL (refL i).1), .int .i64 (refL i).2.1, .int .i64 (refL i).2.2] ∧ Same [] w.heap.size w w') (fun _ _ => False) w := by
      have e : refL i = refLit i := by unfold refL; rw [if_neg hr]
      rw [e]
      unfold binlaw_Refused.V1
      refine cond_false' rfl ?_
      match i, hi, hr with
      | 0, _, _ => (repeat (first | refine cond_true' (by decide) ?_ | refine cond_false' (by decide) ?_)); exact ⟨rfl, Same.refl _ _ _⟩
      | 1, _, _ => (repeat (first | refine cond_true' (by decide) ?_ | refine cond_false' (by decide) ?_)); exact ⟨rfl, Same.refl _ _ _⟩
      | 2, _, _ => (repeat (first | refine cond_true' (by decide) ?_ | refine cond_false' (by decide) ?_)); exact ⟨rfl, Same.refl _ _ _⟩
      | 3, _, _ => (repeat (first | refine cond_true' (by decide) ?_ | refine cond_false' (by decide) ?_)); exact ⟨rfl, Same.refl _ _ _⟩
      | 4, _, _ => (repeat (first | refine cond_true' (by decide) ?_ | refine cond_false' (by decide) ?_)); exact ⟨rfl, Same.refl _ _ _⟩
      | 5, _, _ => (repeat (first | refine cond_true' (by decide) ?_ | refine cond_false' (by decide) ?_)); exact ⟨rfl, Same.refl _ _ _⟩
      | 6, _, _ => (repeat (first | refine cond_true' (by decide) ?_ | refine cond_false' (by decide) ?_)); exact ⟨rfl, Same.refl _ _ _⟩
      | 7, _, _ => (repeat (first | refine cond_true' (by decide) ?_ | refine cond_false' (by decide) ?_)); exact ⟨rfl, Same.refl _ _ _⟩
      | 8, _, _ => (repeat (first | refine cond_true' (by decide) ?_ | refine cond_false' (by decide) ?_)); exact ⟨rfl, Same.refl _ _ _⟩
      | 9, _, _ => (repeat (first | refine cond_true' (by decide) ?_ | refine cond_false' (by decide) ?_)); exact ⟨rfl, Same.refl _ _ _⟩
      | 10, _, _ => (repeat (first | refine cond_true' (by decide) ?_ | refine cond_false' (by decide) ?_)); exact ⟨rfl, Same.refl _ _ _⟩
      | 11, _, _ => (repeat (first | refine cond_true' (by decide) ?_ | refine cond_false' (by decide) ?_)); exact ⟨rfl, Same.refl _ _ _⟩
      | 12, _, _ => (repeat (first | refine cond_true' (by decide) ?_ | refine cond_false' (by decide) ?_)); exact ⟨rfl, Same.refl _ _ _⟩
      | 13, _, _ => (repeat (first | refine cond_true' (by decide) ?_ | refine cond_false' (by decide) ?_)); exact ⟨rfl, Same.refl _ _ _⟩
      | 14, _, _ => (repeat (first | refine cond_true' (by decide) ?_ | refine cond_false' (by decide) ?_)); exact ⟨rfl, Same.refl _ _ _⟩
      | 15, _, _ => (repeat (first | refine cond_true' (by decide) ?_ | refine cond_false' (by decide) ?_)); exact ⟨rfl, Same.refl _ _ _⟩
      | 16, _, _ => (repeat (first | refine cond_true' (by decide) ?_ | refine cond_false' (by decide) ?_)); exact ⟨rfl, Same.refl _ _ _⟩
      | 17, _, _ => (repeat (first | refine cond_true' (by decide) ?_ | refine cond_false' (by decide) ?_)); exact ⟨rfl, Same.refl _ _ _⟩
      | 18, _, _ => (repeat (first | refine cond_true' (by decide) ?_ | refine cond_false' (by decide) ?_)); exact ⟨rfl, Same.refl _ _ _⟩
      | 19, _, _ => (repeat (first | refine cond_true' (by decide) ?_ | refine cond_false' (by decide) ?_)); exact ⟨rfl, Same.refl _ _ _⟩
      | 20, _, _ => (repeat (first | refine cond_true' (by decide) ?_ | refine cond_false' (by decide) ?_)); exact ⟨rfl, Same.refl _ _ _⟩
      | 21, _, _ => (repeat (first | refine cond_true' (by decide) ?_ | refine cond_false' (by decide) ?_)); exact ⟨rfl, Same.refl _ _ _⟩
      | 22, _, _ =>
        (repeat (first | refine cond_true' (by decide) ?_ | refine cond_false' (by decide) ?_))
        refine RunsQ.post (Deep_spec _ _ 6 0 rfl rfl (by omega) (by omega) w) ?_
        rintro v w1 ⟨rfl, S1⟩
        exact ⟨_, rfl, rfl, S1⟩
      | 23, _, _ =>
        (repeat (first | refine cond_true' (by decide) ?_ | refine cond_false' (by decide) ?_))
        refine RunsQ.post (Deep_spec _ _ 6 90 rfl rfl (by omega) (by omega) w) ?_
        rintro v w1 ⟨rfl, S1⟩
        exact ⟨_, rfl, rfl, S1⟩
      | 24, _, _ => (repeat (first | refine cond_true' (by decide) ?_ | refine cond_false' (by decide) ?_)); exact ⟨rfl, Same.refl _ _ _⟩
      | 25, _, _ => (repeat (first | refine cond_true' (by decide) ?_ | refine cond_false' (by decide) ?_)); exact ⟨rfl, Same.refl _ _ _⟩
      | 26, _, _ => (repeat (first | refine cond_true' (by decide) ?_ | refine cond_false' (by decide) ?_)); exact ⟨rfl, Same.refl _ _ _⟩
      | 27, _, _ => (repeat (first | refine cond_true' (by decide) ?_ | refine cond_false' (by decide) ?_)); exact ⟨rfl, Same.refl _ _ _⟩
      | 28, _, _ => (repeat (first | refine cond_true' (by decide) ?_ | refine cond_false' (by decide) ?_)); exact ⟨rfl, Same.refl _ _ _⟩
      | 29, _, hr => exact absurd ⟨by decide, by decide⟩ hr
      | 30, _, hr => exact absurd ⟨by decide, by decide⟩ hr
      | 31, _, hr => exact absurd ⟨by decide, by decide⟩ hr
      | 32, _, hr => exact absurd ⟨by decide, by decide⟩ hr
      | 33, _, hr => exact absurd ⟨by decide, by decide⟩ hr
      | 34, _, hr => exact absurd ⟨by decide, by decide⟩ hr
      | 35, _, hr => exact absurd ⟨by decide, by decide⟩ hr
      | 36, _, hr => exact absurd ⟨by decide, by decide⟩ hr
      | 37, _, hr => exact absurd ⟨by decide, by decide⟩ hr
      | 38, _, hr => exact absurd ⟨by decide, by decide⟩ hr
      | 39, _, hr => exact absurd ⟨by decide, by decide⟩ hr
      | 40, _, hr => exact absurd ⟨by decide, by decide⟩ hr
      | 41, _, _ =>
        (repeat (first | refine cond_true' (by decide) ?_ | refine cond_false' (by decide) ?_))
        refine RunsQ.post (rep_spec [0, 127] (by decide) _ 7 rfl (by omega) w) ?_
        rintro v w1 ⟨rfl, rfl⟩
        refine ⟨_, rfl, by (simp only [mk_ofL, ofL_append, ofL_size, List.length_append, List.length_cons, List.length_nil, oneL_len, repL_len]; omega), by (simp only [mk_ofL, ofL_append, ofL_size, List.length_append, List.length_cons, List.length_nil, oneL_len, repL_len]; omega), ?_⟩
        simp only [mk_ofL, ofL_append]
        exact ⟨rfl, Same.refl _ _ _⟩
      | n + 42, h, _ => exact absurd h (by omega)
    refine cond_intro (fun h => ?_) (fun h => ?_)
    · have e2 : decide ((i : Int) ≤ 40) = false := decide_eq_false (by have := of_decide_eq_true h; omega)
      rw [e2]
      exact binlaw_Refused.step1 _ _ _ _ _ key
    · exact binlaw_Refused.step1 _ _ _ _ _ key

end Go.Proofs.Qxb6500316a
