/-
  New.
-/
import Derived.Test.Qxb6500316aDcN
set_option linter.unusedSimpArgs false
set_option linter.unusedVariables false
set_option maxRecDepth 100000
namespace Go.Proofs.Qxb6500316a
open Go Go.Vc

def sc0 : Sc := ⟨fun _ => 0, 0, fun _ => 0, 0, fun _ => ⟨0, 0, 0⟩, 0, fun _ => 0, 0⟩
/-- The encoder's fields as New lays them. -/
@[reducible] def outNil : OutOf := ⟨⟨.slice none 0 0, .slice none 0 0, .slice none 0 0⟩⟩

theorem new_at (w1 w2 w3 : World) (b bi bt : Nat) (hb : b = w2.heap.size) (hw3 : w3 = w2.alloc (.cells #[(.int .i64 0), (.int .i64 0), (.int .i64 0), (.int .i64 0), (.int .i64 0), (.int .i64 0), (.int .i64 0), (.int .i64 0), (.int .i64 0), (.int .u8 0), (.int .u8 0), (.int .u8 0), (.int .u8 0), (.int .u8 0), (.int .u8 0), (.int .i64 0), (.slice (some ⟨bi, 0, none⟩) 96 96), (.int .i64 0), (.slice (some ⟨bt, 0, none⟩) 24 24), (.int .i64 0), (.slice none 0 0), (.slice none 0 0), (.slice none 0 0)] T_bin_Bin))
    (hi : ∀ j, j < 96 * 3 → w2.cell? ⟨bi, j, none⟩ = some ((Value.agg #[.int .u8 0, .int .u32 0, .int .u64 0]).cells[j % 3]!)) (ht : ∀ j, j < 24 * 1 → w2.cell? ⟨bt, j, none⟩ = some ((Value.int .u32 0).cells[j % 1]!))
    (fi : ∀ j, w2.frozen? ⟨bi, j, none⟩ = false) (ft : ∀ j, w2.frozen? ⟨bt, j, none⟩ = false) (hne : bi ≠ bt) : @BinAt outNil w3 b bi bt sc0 := by
  letI : OutOf := outNil
  have li : bi < w2.heap.size := cell_lt (hi 0 (by decide))
  have lt' : bt < w2.heap.size := cell_lt (ht 0 (by decide))
  have S3 : Same [] w2.heap.size w2 w3 := by rw [hw3]; exact (Same.refl _ _ _).alloc (Nat.le_refl _) _
  have ci : ∀ j, j < 288 → w3.cell? ⟨bi, j, none⟩ = some ((Value.agg #[.int .u8 0, .int .u32 0, .int .u64 0]).cells[j % 3]!) := fun j hj => by rw [S3.cell (p := ⟨bi, j, none⟩) li (by simp)]; exact hi j hj
  have ct : ∀ j, j < 24 → w3.cell? ⟨bt, j, none⟩ = some ((Value.int .u32 0).cells[j % 1]!) := fun j hj => by rw [S3.cell (p := ⟨bt, j, none⟩) lt' (by simp)]; exact ht j (by omega)
  have cb : ∀ j v, (#[(.int .i64 0), (.int .i64 0), (.int .i64 0), (.int .i64 0), (.int .i64 0), (.int .i64 0), (.int .i64 0), (.int .i64 0), (.int .i64 0), (.int .u8 0), (.int .u8 0), (.int .u8 0), (.int .u8 0), (.int .u8 0), (.int .u8 0), (.int .i64 0), (.slice (some ⟨bi, 0, none⟩) 96 96), (.int .i64 0), (.slice (some ⟨bt, 0, none⟩) 24 24), (.int .i64 0), (.slice none 0 0), (.slice none 0 0), (.slice none 0 0)] : Array Value)[j]? = some v → w3.cell? ⟨b, j, none⟩ = some v := fun j v hv => by rw [hw3, hb, World.cell?_alloc_new]; exact hv
  refine ⟨fun j hj => ?_, cb 8 _ rfl, fun j hj => ?_, cb 15 _ rfl, cb 16 _ rfl, cb 17 _ rfl, cb 18 _ rfl, cb 19 _ rfl, fun j hj => ?_, fun j hj => ?_, fun j hj => ?_, fun j hj => ?_, fun j => by rw [hw3, hb, World.frozen?_alloc_new], fun j => by rw [S3.frozen (p := ⟨bi, j, none⟩) li (by simp)]; exact fi j, fun j => by rw [S3.frozen (p := ⟨bt, j, none⟩) lt' (by simp)]; exact ft j, by omega, by omega, hne, cb 20 _ rfl, cb 21 _ rfl, cb 22 _ rfl⟩
  · apply cb
    have : j = 0 ∨ j = 1 ∨ j = 2 ∨ j = 3 ∨ j = 4 ∨ j = 5 ∨ j = 6 ∨ j = 7 := by omega
    rcases this with rfl | rfl | rfl | rfl | rfl | rfl | rfl | rfl <;> rfl
  · apply cb
    have : j = 0 ∨ j = 1 ∨ j = 2 ∨ j = 3 ∨ j = 4 ∨ j = 5 := by omega
    rcases this with rfl | rfl | rfl | rfl | rfl | rfl <;> rfl
  · rw [ci _ (by omega), show j * 3 % 3 = 0 by omega]; rfl
  · rw [ci _ (by omega), show (j * 3 + 1) % 3 = 1 by omega]; rfl
  · rw [ci _ (by omega), show (j * 3 + 2) % 3 = 2 by omega]; rfl
  · rw [ct _ hj, Nat.mod_one]; rfl

theorem New_spec (w : World) : Runs Try.prog bin_New.id #[] w (fun v w' => ∃ b bi bt, v = rp b ∧ @BinAt outNil w' b bi bt sc0 ∧ Same [] w.heap.size w w' ∧ w.heap.size ≤ b ∧ w.heap.size ≤ bi ∧ w.heap.size ≤ bt) := by
  letI : OutOf := outNil
  refine bin_New.enter _ _ _ ?_
  unfold bin_New.V
  have S0 : Same [] w.heap.size w w.drew := (Same.refl _ _ _).drew
  have szd : w.drew.heap.size = w.heap.size := rfl
  refine ⟨?_, ?_, trivial⟩
  · obtain ⟨w1, r1, c1, f1, S1, z1⟩ := make_rows T_sl_api_Ins.el w.drew 96 (by decide) (by decide)
    obtain ⟨w2, r2, c2, f2, S2, z2⟩ := make_rows T_sl_uint32.el w1 24 (by decide) (by decide)
    refine ⟨_, _, _, w1, r1, ⟨_, _, _, w2, r2, ⟨letB_intro fun b hb => letW_intro fun w3 hw3 => ?_, trivial⟩, trivial⟩, trivial⟩
    have hi : ∀ j, j < 96 * 3 → w2.cell? ⟨w.heap.size, j, none⟩ = some ((Value.agg #[.int .u8 0, .int .u32 0, .int .u64 0]).cells[j % 3]!) := fun j hj => by rw [S2.cell (p := ⟨w.heap.size, j, none⟩) z1 (by simp)]; exact c1 j hj
    have fi : ∀ j, w2.frozen? ⟨w.heap.size, j, none⟩ = false := fun j => by rw [S2.frozen (p := ⟨w.heap.size, j, none⟩) z1 (by simp)]; exact f1 j
    refine ⟨b, w.heap.size, w1.heap.size, rfl, new_at w1 w2 w3 b _ _ hb hw3 hi c2 fi f2 (by omega), ?_, by omega, by omega, by omega⟩
    rw [hw3]
    exact ((S0.trans (S1.mono (by omega) (by simp))).trans (S2.mono (by omega) (by simp))).alloc (by omega) _
  · obtain ⟨w1, r1, c1, f1, S1, z1⟩ := make_rows T_sl_uint32.el w.drew 24 (by decide) (by decide)
    obtain ⟨w2, r2, c2, f2, S2, z2⟩ := make_rows T_sl_api_Ins.el w1 96 (by decide) (by decide)
    refine ⟨_, _, _, w1, r1, ⟨_, _, _, w2, r2, ⟨letB_intro fun b hb => letW_intro fun w3 hw3 => ?_, trivial⟩, trivial⟩, trivial⟩
    have hi : ∀ j, j < 24 * 1 → w2.cell? ⟨w.heap.size, j, none⟩ = some ((Value.int .u32 0).cells[j % 1]!) := fun j hj => by rw [S2.cell (p := ⟨w.heap.size, j, none⟩) z1 (by simp)]; exact c1 j hj
    have fi : ∀ j, w2.frozen? ⟨w.heap.size, j, none⟩ = false := fun j => by rw [S2.frozen (p := ⟨w.heap.size, j, none⟩) z1 (by simp)]; exact f1 j
    refine ⟨b, w1.heap.size, w.heap.size, rfl, new_at w1 w2 w3 b _ _ hb hw3 c2 hi f2 fi (by omega), ?_, by omega, by omega, by omega⟩
    rw [hw3]
    exact ((S0.trans (S1.mono (by omega) (by simp))).trans (S2.mono (by omega) (by simp))).alloc (by omega) _

end Go.Proofs.Qxb6500316a
