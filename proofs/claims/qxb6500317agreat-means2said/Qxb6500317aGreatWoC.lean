/-
  The law World: Spelt, Zeros; what Show shows.
-/
import Derived.Test.Qxb6500317aGreatWoB
set_option linter.unusedSimpArgs false
set_option linter.unusedVariables false
set_option maxRecDepth 100000
set_option linter.unusedSectionVars false
set_option maxHeartbeats 1000000
namespace Go.Proofs.Qxb6500317aGreat
open Go Go.Vc

theorem str_app (a b : List Int) : strOfNums (a ++ b) = strOfNums a ++ strOfNums b := by
  apply ByteArray.ext
  rw [ByteArray.data_append]
  simp [strOfNums]
def litL : List Int := [109, 101, 109, 32, 45, 32, 116, 97, 98, 32, 103, 108, 111, 98, 32, 102, 102, 102, 102, 102, 102, 102, 102, 102, 102, 102, 102, 102, 102, 102, 100, 32, 98, 111, 117, 110, 100, 32, 50, 32, 49, 32, 116, 97, 112, 101]
abbrev lit46 : ByteArray := ⟨#[109, 101, 109, 32, 45, 32, 116, 97, 98, 32, 103, 108, 111, 98, 32, 102, 102, 102, 102, 102, 102, 102, 102, 102, 102, 102, 102, 102, 102, 102, 100, 32, 98, 111, 117, 110, 100, 32, 50, 32, 49, 32, 116, 97, 112, 101]⟩
def speltW (T : ByteArray) : Nat → ByteArray
  | 0 => lit46
  | i + 1 => (speltW T i ++ (⟨#[32]⟩ : ByteArray)) ++ hexOf (word T i) 16
def speltS (T Tr : ByteArray) : ByteArray := (speltW T (T.size / 8) ++ (⟨#[32, 116, 114, 97, 99, 101]⟩ : ByteArray)) ++ Tr
theorem speltW_size (T : ByteArray) : ∀ i, (speltW T i).size ≤ 46 + 17 * i
  | 0 => by show lit46.size ≤ _; decide
  | i + 1 => by
    have := speltW_size T i
    have l := M.hexOf_size (word T i) 16
    have e : (⟨#[32]⟩ : ByteArray).size = 1 := rfl
    show ((speltW T i ++ (⟨#[32]⟩ : ByteArray)) ++ hexOf (word T i) 16).size ≤ _
    rw [M.size_app, M.size_app]
    omega
theorem Spelt_spec {w : World} {gb : Nat} {T Tr : ByteArray} (hb : BookAt w gb T Tr) (hT : T.size ≤ 48) (hTr : Tr.size ≤ 10000) : Runs Tryz.prog execlaw_Spelt.id #[rp gb] w fun v w' => v = .string (speltS T Tr) ∧ Same [] w.heap.size w w' := by
  refine execlaw_Spelt.enter _ _ _ _ ?_
  unfold execlaw_Spelt.V
  have loop : ∀ (f i : Nat) (w1 : World), i + f = T.size / 8 → Same [] w.heap.size w w1 → execlaw_Spelt.L1 (some ⟨gb, 0, none⟩) (speltW T i) (i : Int) (fun v w' => v = .string (speltS T Tr) ∧ Same [] w.heap.size w w') (fun _ _ => False) w1 := by
    intro f
    induction f with
    | zero =>
      intro i w1 hi S1
      have b1 := hb.same S1 hb.lt (by simp)
      refine execlaw_Spelt.step1 _ _ _ _ _ _ ?_
      unfold execlaw_Spelt.V1
      have e8 : IntKind.wrap .i64 (Int.tdiv ((T.size : Nat) : Int) 8) = ((T.size / 8 : Nat) : Int) := by
        have : Int.tdiv ((T.size : Nat) : Int) 8 = ((T.size / 8 : Nat) : Int) := rfl
        rw [this, wrap_i64 (by omega) (by omega)]
      have sz := speltW_size T i
      have e6 : (⟨#[32, 116, 114, 97, 99, 101]⟩ : ByteArray).size = 6 := rfl
      obtain rfl : i = T.size / 8 := by omega
      refine ⟨_, b1.c0, cond_false' (by rw [e8]; exact decide_eq_false (by omega)) ⟨by omega, _, b1.c1, by rw [M.size_app]; omega, rfl, S1⟩⟩
    | succ f ih =>
      intro i w1 hi S1
      have b1 := hb.same S1 hb.lt (by simp)
      refine execlaw_Spelt.step1 _ _ _ _ _ _ ?_
      unfold execlaw_Spelt.V1
      have e8 : IntKind.wrap .i64 (Int.tdiv ((T.size : Nat) : Int) 8) = ((T.size / 8 : Nat) : Int) := by
        have : Int.tdiv ((T.size : Nat) : Int) 8 = ((T.size / 8 : Nat) : Int) := rfl
        rw [this, wrap_i64 (by omega) (by omega)]
      have sz := speltW_size T i
      have wb := word_bd T i
      refine ⟨_, b1.c0, cond_true' (by rw [e8]; exact decide_eq_true (by omega)) ⟨_, b1.c0, RunsQ.post (Word_spec T i w1 (by omega) (by omega)) ?_⟩⟩
      rintro v w6 ⟨rfl, hw6⟩
      subst hw6
      refine ⟨_, rfl, RunsQ.post (Hex_spec _ 16 _ wb.1 wb.2 (by omega) (by omega)) ?_⟩
      rintro v w9 ⟨rfl, S9⟩
      have l := M.hexOf_size (word T i) 16
      have e1 : (⟨#[32]⟩ : ByteArray).size = 1 := rfl
      refine ⟨_, rfl, by omega, by rw [M.size_app]; omega, ?_⟩
      rw [nx i (by omega)]
      exact ih (i + 1) w9 (by omega) (Same.more (B := 0) S1 S9)
  exact loop (T.size / 8) 0 w (by omega) (Same.refl _ _ _)
/-- The book is the host's. -/
structure BK (T Tr : ByteArray) (h : HS) : Prop where
  n : h.n = 2
  k0 : h.k 0 = 2
  k1 : h.k 1 = 1
  t : T.size = 8 * h.left
  w : ∀ i, i < h.left → word T i = h.tape (h.head + i)
  tr : Tr = strOfNums h.tr
def litM : ByteArray := ⟨#[109, 101, 109, 32, 45, 32, 116, 97, 98, 32, 103, 108, 111, 98, 32, 102, 102, 102, 102, 102, 102, 102, 102, 102, 102, 102, 102, 102, 102, 102, 100]⟩
theorem speltW_eq {T Tr : ByteArray} {h : HS} (B : BK T Tr h) : ∀ i, i ≤ h.left → speltW T i = strOfNums (litL ++ wordsT h.tape h.head i)
  | 0, _ => by
    show lit46 = _
    show lit46 = strOfNums (litL ++ [])
    rw [List.append_nil]
    rfl
  | i + 1, hi => by
    show (speltW T i ++ (⟨#[32]⟩ : ByteArray)) ++ hexOf (word T i) 16 = strOfNums (litL ++ (wordsT h.tape h.head i ++ [32] ++ h16 16 (h.tape (h.head + i)).toNat))
    rw [speltW_eq B i (by omega), hexOf_16, B.w i (by omega), show (⟨#[32]⟩ : ByteArray) = strOfNums [32] from rfl, ← str_app, ← str_app]
    simp only [List.append_assoc]
theorem show_spelt {T Tr : ByteArray} {h : HS} (B : BK T Tr h) : (litM ++ (⟨#[32]⟩ : ByteArray)) ++ strOfNums h.show = speltS T Tr := by
  unfold speltS
  have t := B.t
  rw [show T.size / 8 = h.left by omega, speltW_eq B _ (Nat.le_refl _), B.tr, show (⟨#[32, 116, 114, 97, 99, 101]⟩ : ByteArray) = strOfNums [32, 116, 114, 97, 99, 101] from rfl, ← str_app, ← str_app]
  have e : litM ++ (⟨#[32]⟩ : ByteArray) = strOfNums (litL.take 32) := rfl
  rw [e, ← str_app]
  congr 1
  unfold HS.show
  have ek : kindsT h.k h.n = [32, 50, 32, 49] := by
    rw [B.n]
    show (([] ++ [32, 48 + (h.k 0 : Int)]) ++ [32, 48 + (h.k 1 : Int)] : List Int) = _
    rw [B.k0, B.k1]; rfl
  rw [ek]
  simp only [← List.append_assoc]
  rfl
theorem Zeros_spec (w : World) : Runs Tryz.prog execlaw_Zeros.id #[.int .i64 62] w fun v w' => v = .string (strOfNums (List.replicate 124 48)) ∧ w' = w := by
  refine execlaw_Zeros.enter _ _ _ _ ?_
  unfold execlaw_Zeros.V
  have loop : ∀ (f i : Nat), i + f = 62 → execlaw_Zeros.L1 62 (strOfNums (List.replicate (2 * i) 48)) (i : Int) (fun v w' => v = .string (strOfNums (List.replicate 124 48)) ∧ w' = w) (fun _ _ => False) w := by
    intro f
    induction f with
    | zero =>
      intro i hi
      obtain rfl : i = 62 := by omega
      refine execlaw_Zeros.step1 _ _ _ _ _ _ ?_
      unfold execlaw_Zeros.V1
      exact cond_false' rfl ⟨rfl, rfl⟩
    | succ f ih =>
      intro i hi
      refine execlaw_Zeros.step1 _ _ _ _ _ _ ?_
      unfold execlaw_Zeros.V1
      have sz : (strOfNums (List.replicate (2 * i) 48)).size = 2 * i := by rw [strOfNums_size, List.length_replicate]
      have e2 : (⟨#[48, 48]⟩ : ByteArray).size = 2 := rfl
      refine cond_true' (decide_eq_true (by omega)) ⟨by omega, ?_⟩
      rw [nx i (by omega)]
      have q := ih (i + 1) (by omega)
      rw [show (⟨#[48, 48]⟩ : ByteArray) = strOfNums (List.replicate 2 48) from rfl, ← str_app, List.replicate_append_replicate, show 2 * i + 2 = 2 * (i + 1) by omega]
      exact q
  exact loop 62 0 (by omega)
end Go.Proofs.Qxb6500317aGreat
