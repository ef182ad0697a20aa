/-
  New.
-/
import Derived.Test.Qxb6500316aBnN
set_option linter.unusedSimpArgs false
set_option linter.unusedVariables false
set_option maxRecDepth 100000
namespace Go.Proofs.Qxb6500316a
open Go Go.Vc

theorem new_code : sub (bodyOf Try.f13) [1] = .seq (.region 1 (reg (sub (bodyOf Try.f13) [1, 0])) true) .ret := by kernel_rfl
theorem new_text (Q : Value → World → Prop) (w : World) (K : Env → World → Prop) : anyV Try.prog (nn 5 Q) (reg (sub (bodyOf Try.f13) [1, 0])) K (reg (sub (bodyOf Try.f13) [1, 0])).size (Array.replicate (reg (sub (bodyOf Try.f13) [1, 0])).size false) [] w =
  ((∃ a1 : Option Addr, ∃ l1 : Nat, ∃ c1 : Nat, ∃ w1, Sem.run Try.prog (Instr.makeSlice T_sl_api_Ins (.int .i64 96) (.int .i64 96)) w = .ok (.slice a1 l1 c1) w1 ∧ ((∃ a2 : Option Addr, ∃ l2 : Nat, ∃ c2 : Nat, ∃ w2, Sem.run Try.prog (Instr.makeSlice T_sl_uint32 (.int .i64 24) (.int .i64 24)) w1 = .ok (.slice a2 l2 c2) w2 ∧ ((((([] : List Nat) = [] ∧ K [(1, (.slice a1 l1 c1)), (2, (.slice a2 l2 c2)), (3, (.agg #[(.int .i64 0), (.int .i64 0), (.int .i64 0), (.int .i64 0), (.int .i64 0), (.int .i64 0), (.int .i64 0), (.int .i64 0), (.int .i64 0), (.int .u8 0), (.int .u8 0), (.int .u8 0), (.int .u8 0), (.int .u8 0), (.int .u8 0), (.int .i64 0), (.slice a1 l1 c1), (.int .i64 0), (.slice a2 l2 c2), (.int .i64 0), (.slice none 0 0), (.slice none 0 0), (.slice none 0 0)])), (4, (.pointer (some ⟨Array.size (World.heap w2), 0, none⟩))), (0, (.pointer (some ⟨Array.size (World.heap w2), 0, none⟩)))] (World.alloc w2 (.cells #[(.int .i64 0), (.int .i64 0), (.int .i64 0), (.int .i64 0), (.int .i64 0), (.int .i64 0), (.int .i64 0), (.int .i64 0), (.int .i64 0), (.int .u8 0), (.int .u8 0), (.int .u8 0), (.int .u8 0), (.int .u8 0), (.int .u8 0), (.int .i64 0), (.slice a1 l1 c1), (.int .i64 0), (.slice a2 l2 c2), (.int .i64 0), (.slice none 0 0), (.slice none 0 0), (.slice none 0 0)] 44))) ∧ True) ∧ True) ∧ True)) ∧ True)) ∧ ((∃ a2 : Option Addr, ∃ l2 : Nat, ∃ c2 : Nat, ∃ w1, Sem.run Try.prog (Instr.makeSlice T_sl_uint32 (.int .i64 24) (.int .i64 24)) w = .ok (.slice a2 l2 c2) w1 ∧ ((∃ a1 : Option Addr, ∃ l1 : Nat, ∃ c1 : Nat, ∃ w2, Sem.run Try.prog (Instr.makeSlice T_sl_api_Ins (.int .i64 96) (.int .i64 96)) w1 = .ok (.slice a1 l1 c1) w2 ∧ ((((([] : List Nat) = [] ∧ K [(2, (.slice a2 l2 c2)), (1, (.slice a1 l1 c1)), (3, (.agg #[(.int .i64 0), (.int .i64 0), (.int .i64 0), (.int .i64 0), (.int .i64 0), (.int .i64 0), (.int .i64 0), (.int .i64 0), (.int .i64 0), (.int .u8 0), (.int .u8 0), (.int .u8 0), (.int .u8 0), (.int .u8 0), (.int .u8 0), (.int .i64 0), (.slice a1 l1 c1), (.int .i64 0), (.slice a2 l2 c2), (.int .i64 0), (.slice none 0 0), (.slice none 0 0), (.slice none 0 0)])), (4, (.pointer (some ⟨Array.size (World.heap w2), 0, none⟩))), (0, (.pointer (some ⟨Array.size (World.heap w2), 0, none⟩)))] (World.alloc w2 (.cells #[(.int .i64 0), (.int .i64 0), (.int .i64 0), (.int .i64 0), (.int .i64 0), (.int .i64 0), (.int .i64 0), (.int .i64 0), (.int .i64 0), (.int .u8 0), (.int .u8 0), (.int .u8 0), (.int .u8 0), (.int .u8 0), (.int .u8 0), (.int .i64 0), (.slice a1 l1 c1), (.int .i64 0), (.slice a2 l2 c2), (.int .i64 0), (.slice none 0 0), (.slice none 0 0), (.slice none 0 0)] 44))) ∧ True) ∧ True) ∧ True)) ∧ True)) ∧ True)) := by kernel_rfl

def sc0 : Sc := ⟨fun _ => 0, 0, fun _ => 0, 0, fun _ => ⟨0, 0, 0⟩, 0, fun _ => 0, 0⟩

theorem new_at (w1 w2 w3 : World) (b bi bt : Nat) (hb : b = w2.heap.size) (hw3 : w3 = w2.alloc (.cells #[(.int .i64 0), (.int .i64 0), (.int .i64 0), (.int .i64 0), (.int .i64 0), (.int .i64 0), (.int .i64 0), (.int .i64 0), (.int .i64 0), (.int .u8 0), (.int .u8 0), (.int .u8 0), (.int .u8 0), (.int .u8 0), (.int .u8 0), (.int .i64 0), (.slice (some ⟨bi, 0, none⟩) 96 96), (.int .i64 0), (.slice (some ⟨bt, 0, none⟩) 24 24), (.int .i64 0), (.slice none 0 0), (.slice none 0 0), (.slice none 0 0)] 44))
    (hi : ∀ j, j < 96 * 3 → w2.cell? ⟨bi, j, none⟩ = some ((Value.agg #[.int .u8 0, .int .u32 0, .int .u64 0]).cells[j % 3]!)) (ht : ∀ j, j < 24 * 1 → w2.cell? ⟨bt, j, none⟩ = some ((Value.int .u32 0).cells[j % 1]!))
    (fi : ∀ j, w2.frozen? ⟨bi, j, none⟩ = false) (ft : ∀ j, w2.frozen? ⟨bt, j, none⟩ = false) (hne : bi ≠ bt) : BinAt w3 b bi bt sc0 := by
  have li : bi < w2.heap.size := cell_lt (hi 0 (by decide))
  have lt' : bt < w2.heap.size := cell_lt (ht 0 (by decide))
  have S3 : Same [] w2.heap.size w2 w3 := by rw [hw3]; exact (Same.refl _ _ _).alloc (Nat.le_refl _) _
  have ci : ∀ j, j < 288 → w3.cell? ⟨bi, j, none⟩ = some ((Value.agg #[.int .u8 0, .int .u32 0, .int .u64 0]).cells[j % 3]!) := fun j hj => by rw [S3.cell (p := ⟨bi, j, none⟩) li (by simp)]; exact hi j hj
  have ct : ∀ j, j < 24 → w3.cell? ⟨bt, j, none⟩ = some ((Value.int .u32 0).cells[j % 1]!) := fun j hj => by rw [S3.cell (p := ⟨bt, j, none⟩) lt' (by simp)]; exact ht j (by omega)
  have cb : ∀ j v, (#[(.int .i64 0), (.int .i64 0), (.int .i64 0), (.int .i64 0), (.int .i64 0), (.int .i64 0), (.int .i64 0), (.int .i64 0), (.int .i64 0), (.int .u8 0), (.int .u8 0), (.int .u8 0), (.int .u8 0), (.int .u8 0), (.int .u8 0), (.int .i64 0), (.slice (some ⟨bi, 0, none⟩) 96 96), (.int .i64 0), (.slice (some ⟨bt, 0, none⟩) 24 24), (.int .i64 0), (.slice none 0 0), (.slice none 0 0), (.slice none 0 0)] : Array Value)[j]? = some v → w3.cell? ⟨b, j, none⟩ = some v := fun j v hv => by rw [hw3, hb, World.cell?_alloc_new]; exact hv
  refine ⟨fun j hj => ?_, cb 8 _ rfl, fun j hj => ?_, cb 15 _ rfl, cb 16 _ rfl, cb 17 _ rfl, cb 18 _ rfl, cb 19 _ rfl, fun j hj => ?_, fun j hj => ?_, fun j hj => ?_, fun j hj => ?_, fun j => by rw [hw3, hb, World.frozen?_alloc_new], fun j => by rw [S3.frozen (p := ⟨bi, j, none⟩) li (by simp)]; exact fi j, fun j => by rw [S3.frozen (p := ⟨bt, j, none⟩) lt' (by simp)]; exact ft j, by omega, by omega, hne⟩
  · apply cb
    have : j = 0 ∨ j = 1 ∨ j = 2 ∨ j = 3 ∨ j = 4 ∨ j = 5 ∨ j = 6 ∨ j = 7 := by omega
    rcases this with rfl | rfl | rfl | rfl | rfl | rfl | rfl | rfl <;> rfl
  · apply cb
    have : j = 0 ∨ j = 1 ∨ j = 2 ∨ j = 3 ∨ j = 4 ∨ j = 5 := by omega
    rcases this with rfl | rfl | rfl | rfl | rfl | rfl <;> rfl
  · rw [ci _ (by omega), show j * 3 % 3 = 0 by omega]; rfl
  · rw [ci _ (by omega), show (j * 3 + 1) % 3 = 1 by omega]; rfl
  · rw [ci _ (by omega), show (j * 3 + 2) % 3 = 2 by omega]; rfl
  · rw [ct _ hj, Nat.mod_one]; rfl

theorem New_spec (w : World) : Runs Try.prog bin_New.id #[] w (fun v w' => ∃ b bi bt, v = rp b ∧ BinAt w' b bi bt sc0 ∧ Same [] w.heap.size w w' ∧ w.heap.size ≤ b ∧ w.heap.size ≤ bi ∧ w.heap.size ≤ bt) := by
  refine bin_New.enter _ _ _ ?_
  unfold bin_New.V bin_New.L1
  rw [new_code]
  refine T.step (fun a cs _ => step_seq) (T.code Try.func13 (fun a ha => ?_))
  refine anyV_region (N := nn 5 fun _ _ => False) (K := fun e' w' => T Try.prog 13 (nn 5 fun _ _ => False) [.code .ret] e' w' _) good mixed (fun e' a' w' ha' hk => .inl ⟨rfl, e', ha', hk⟩) (fun a w v ha hv => .inr ⟨v, rfl, hv, ha⟩) ha ?_
  rw [new_text]
  have S0 : Same [] w.heap.size w w.drew := (Same.refl _ _ _).drew
  have szd : w.drew.heap.size = w.heap.size := rfl
  refine ⟨?_, ?_, trivial⟩
  · obtain ⟨w1, r1, c1, f1, S1, z1⟩ := make_rows T_sl_api_Ins.el w.drew 96 (by decide) (by decide)
    obtain ⟨w2, r2, c2, f2, S2, z2⟩ := make_rows T_sl_uint32.el w1 24 (by decide) (by decide)
    refine ⟨_, _, _, w1, r1, ⟨_, _, _, w2, r2, ⟨⟨⟨rfl, T.ret Try.func13 ?_⟩, trivial⟩, trivial⟩, trivial⟩, trivial⟩
    have hi : ∀ j, j < 96 * 3 → w2.cell? ⟨w.heap.size, j, none⟩ = some ((Value.agg #[.int .u8 0, .int .u32 0, .int .u64 0]).cells[j % 3]!) := fun j hj => by rw [S2.cell (p := ⟨w.heap.size, j, none⟩) z1 (by simp)]; exact c1 j hj
    have fi : ∀ j, w2.frozen? ⟨w.heap.size, j, none⟩ = false := fun j => by rw [S2.frozen (p := ⟨w.heap.size, j, none⟩) z1 (by simp)]; exact f1 j
    refine ⟨w2.heap.size, w.heap.size, w1.heap.size, rfl, new_at w1 w2 _ _ _ _ rfl rfl hi c2 fi f2 (by omega), ?_, by omega, by omega, by omega⟩
    exact ((S0.trans (S1.mono (by omega) (by simp))).trans (S2.mono (by omega) (by simp))).alloc (by omega) _
  · obtain ⟨w1, r1, c1, f1, S1, z1⟩ := make_rows T_sl_uint32.el w.drew 24 (by decide) (by decide)
    obtain ⟨w2, r2, c2, f2, S2, z2⟩ := make_rows T_sl_api_Ins.el w1 96 (by decide) (by decide)
    refine ⟨_, _, _, w1, r1, ⟨_, _, _, w2, r2, ⟨⟨⟨rfl, T.ret Try.func13 ?_⟩, trivial⟩, trivial⟩, trivial⟩, trivial⟩
    have hi : ∀ j, j < 24 * 1 → w2.cell? ⟨w.heap.size, j, none⟩ = some ((Value.int .u32 0).cells[j % 1]!) := fun j hj => by rw [S2.cell (p := ⟨w.heap.size, j, none⟩) z1 (by simp)]; exact c1 j hj
    have fi : ∀ j, w2.frozen? ⟨w.heap.size, j, none⟩ = false := fun j => by rw [S2.frozen (p := ⟨w.heap.size, j, none⟩) z1 (by simp)]; exact f1 j
    refine ⟨w2.heap.size, w1.heap.size, w.heap.size, rfl, new_at w1 w2 _ _ _ _ rfl rfl c2 hi f2 fi (by omega), ?_, by omega, by omega, by omega⟩
    exact ((S0.trans (S1.mono (by omega) (by simp))).trans (S2.mono (by omega) (by simp))).alloc (by omega) _

end Go.Proofs.Qxb6500316a
