/-
  The machine: pack, adopt.
-/
import Derived.Test.Qxb6500317aGreatExA
set_option linter.unusedSimpArgs false
set_option linter.unusedVariables false
set_option maxRecDepth 100000
set_option linter.unusedSectionVars false
set_option maxHeartbeats 1000000
namespace Go.Proofs.Qxb6500317aGreat
open Go Go.Vc

/-! ### pack -/
structure SigAt (w : World) (b : Nat) (g : Nat → Int) : Prop where
  c : ∀ k, k < 6 → w.cell? ⟨b, k, none⟩ = some (.int .u8 (g k))
  f : ∀ k, k < 6 → w.frozen? ⟨b, k, none⟩ = false
theorem SigAt.set {w : World} {b : Nat} {g : Nat → Int} (h : SigAt w b g) {i : Nat} (hi : i < 6) (v : Int) : SigAt (w.setCell ⟨b, i, none⟩ (.int .u8 v)) b (upd g i v) := by
  refine ⟨fun k hk => ?_, fun k hk => by rw [World.frozen?_setCell]; exact h.f k hk⟩
  rw [cell_setCell]
  by_cases e : k = i
  · subst e
    rw [if_pos ⟨rfl, rfl⟩, h.c k hk, upd_same]; rfl
  · rw [if_neg (by omega), h.c k hk, upd_ne _ _ e]
theorem SigAt.can {w : World} {b : Nat} {g : Nat → Int} (h : SigAt w b g) {i : Nat} (hi : i < 6) : can w ⟨b, i, none⟩ := ⟨⟨_, h.c i hi⟩, h.f i hi⟩
theorem SigAt.same {w w' : World} {b : Nat} {g : Nat → Int} (h : SigAt w b g) {S : List Nat} {B : Nat} (hs : Same S B w w') (hb : b < B) (hn : b ∉ S) : SigAt w' b g :=
  ⟨fun k hk => by rw [hs.cell (p := ⟨b, k, none⟩) hb hn]; exact h.c k hk, fun k hk => by rw [hs.frozen (p := ⟨b, k, none⟩) hb hn]; exact h.f k hk⟩
theorem SigAt.lt {w : World} {b : Nat} {g : Nat → Int} (h : SigAt w b g) : b < w.heap.size := cell_lt (h.c 0 (by omega))
def parG (p : ByteArray) : Nat → Nat → Int
  | 0 => fun _ => 0
  | i + 1 => upd (parG p i) (1 + i) (byteAt p i)
def packG (t : ByteArray) : Nat → Int :=
  let g := upd (parG (splitP t).1 (min (splitP t).1.size 4)) 0 (IntKind.wrap .u8 ((splitP t).1.size : Int))
  if 0 < (splitP t).2.size then upd g 5 (byteAt (splitP t).2 0) else g
def sigE (g : Nat → Int) : List Value := [.int .u8 (g 0), .int .u8 (g 1), .int .u8 (g 2), .int .u8 (g 3), .int .u8 (g 4), .int .u8 (g 5)]
theorem sig_new (w : World) : SigAt (w.alloc (.cells #[(.int .u8 0), (.int .u8 0), (.int .u8 0), (.int .u8 0), (.int .u8 0), (.int .u8 0)] T_exec_sig)) w.heap.size (fun _ => 0) := by
  refine ⟨fun k hk => ?_, fun k _ => World.frozen?_alloc_new _ _ _ _⟩
  rw [World.cell?_alloc_new]
  have : k = 0 ∨ k = 1 ∨ k = 2 ∨ k = 3 ∨ k = 4 ∨ k = 5 := by omega
  rcases this with rfl | rfl | rfl | rfl | rfl | rfl <;> rfl
theorem sig_put {w : World} {b : Nat} {g0 : Nat → Int} (h : SigAt w b g0) (g : Nat → Int) (K : World → Prop) (hK : ∀ w', SigAt w' b g → Same [b] w.heap.size w w' → K w') : putCells w ⟨b, 0, none⟩ [.int .u8 (g 0), .int .u8 (g 1), .int .u8 (g 2), .int .u8 (g 3), .int .u8 (g 4), .int .u8 (g 5)] K := by
  refine putCells_intro b _ 0 w K (fun j hj => by rw [Nat.zero_add]; exact h.can (by simpa using hj)) (fun w' hF => hK w' ⟨fun k hk => ?_, fun k hk => by rw [hF.frozen]; exact h.f k hk⟩ (hF.same _))
  rw [hF.cell b k, if_pos ⟨rfl, by omega, by simpa using hk⟩]
  rw [Nat.sub_zero]
  have : k = 0 ∨ k = 1 ∨ k = 2 ∨ k = 3 ∨ k = 4 ∨ k = 5 := by omega
  rcases this with rfl | rfl | rfl | rfl | rfl | rfl <;> rfl
theorem pack_spec (w : World) (t : ByteArray) (ht : t.size ≤ 1024) : Runs Tryz.prog exec_pack.id #[.string t] w fun v w' => v = .agg #[.int .u8 (packG t 0), .int .u8 (packG t 1), .int .u8 (packG t 2), .int .u8 (packG t 3), .int .u8 (packG t 4), .int .u8 (packG t 5)] ∧ Same [] w.heap.size w w' := by
  refine exec_pack.enter _ _ _ _ ?_
  unfold exec_pack.V
  refine letB_intro fun b2 hb2 => letW_intro fun w3 hw3 => letB_intro fun b4 hb4 => letW_intro fun w5 hw5 => ?_
  have S3 : Same [] w.heap.size w w3 := by rw [hw3]; exact (Same.refl _ _ _).alloc (Nat.le_refl _) _
  have z3 : w3.heap.size = w.heap.size + 1 := by rw [hw3]; simp
  have S5 : Same [] w3.heap.size w3 w5 := by rw [hw5]; exact (Same.refl _ _ _).alloc (Nat.le_refl _) _
  have z5 : w5.heap.size = w3.heap.size + 1 := by rw [hw5]; simp
  have T2 : SigAt w5 b2 (fun _ => 0) := by
    have : SigAt w3 b2 (fun _ => 0) := by rw [hw3, hb2]; exact sig_new w
    exact this.same S5 (by omega) (by simp)
  have G4 : SigAt w5 b4 (fun _ => 0) := by rw [hw5, hb4]; exact sig_new w3
  refine RunsQ.post (Split_spec t ht w5) ?_
  rintro v w7 ⟨rfl, S7⟩
  have z7 := S7.size
  have T7 := T2.same S7 (by omega) (by simp)
  have G7 := G4.same S7 (by omega) (by simp)
  refine ⟨_, _, rfl, ?_⟩
  have E0 : Same [b2, b4] w.heap.size w w7 := (Same.more (B := 0) (Same.more (B := 0) S3 S5) S7).mono (Nat.le_refl _) (by simp)
  -- the end
  have fin : ∀ (g : Nat → Int) (w1 : World), g = packG t → SigAt w1 b2 (fun _ => 0) → SigAt w1 b4 g → Same [b2, b4] w.heap.size w w1 → exec_pack.L4 b2 b4 (fun v w' => v = .agg #[.int .u8 (packG t 0), .int .u8 (packG t 1), .int .u8 (packG t 2), .int .u8 (packG t 3), .int .u8 (packG t 4), .int .u8 (packG t 5)] ∧ Same [] w.heap.size w w') (fun _ _ => False) w1 := by
    rintro g w1 rfl T1 G1 E1
    refine exec_pack.step4 _ _ _ _ _ ?_
    unfold exec_pack.V4
    refine ⟨_, _, _, _, _, _, G1.c 0 (by omega), G1.c 1 (by omega), G1.c 2 (by omega), G1.c 3 (by omega), G1.c 4 (by omega), G1.c 5 (by omega), sig_put T1 (packG t) _ (fun w' T' S' => ?_)⟩
    have z1 := E1.size
    exact ⟨_, _, _, _, _, _, T'.c 0 (by omega), T'.c 1 (by omega), T'.c 2 (by omega), T'.c 3 (by omega), T'.c 4 (by omega), T'.c 5 (by omega), rfl, (E1.trans (S'.mono z1 (by simp))).mono (Nat.le_refl _) (fun k hk hl => by simp at hk; omega)⟩
  have mid : ∀ (w1 : World), SigAt w1 b2 (fun _ => 0) → SigAt w1 b4 (parG (splitP t).1 (min (splitP t).1.size 4)) → Same [b2, b4] w.heap.size w w1 → exec_pack.L3 b2 b4 (splitP t).1 (splitP t).2 (fun v w' => v = .agg #[.int .u8 (packG t 0), .int .u8 (packG t 1), .int .u8 (packG t 2), .int .u8 (packG t 3), .int .u8 (packG t 4), .int .u8 (packG t 5)] ∧ Same [] w.heap.size w w') (fun _ _ => False) w1 := by
    intro w1 T1 G1 E1
    refine exec_pack.step3 _ _ _ _ _ _ _ ?_
    unfold exec_pack.V3
    refine ⟨by omega, ?_⟩
    rw [add_mk]
    refine ⟨G1.can (i := 0) (by omega), letW_intro fun w2 hw2 => ?_⟩
    have G2 := G1.set (i := 0) (by omega) (IntKind.wrap .u8 ((splitP t).1.size : Int))
    have E2 : Same [b2, b4] w1.heap.size w1 w2 := by rw [hw2]; exact (Same.refl _ _ _).setCell (.inr (by simp)) _
    have T2 : SigAt w2 b2 (fun _ => 0) := by
      have q : Same [b4] w1.heap.size w1 w2 := by rw [hw2]; exact (Same.refl _ _ _).setCell (.inr (by simp)) _
      exact T1.same q T1.lt (by simp; omega)
    have hw2' : w2 = w1.setCell ⟨b4, 0, none⟩ (.int .u8 (IntKind.wrap .u8 ((splitP t).1.size : Int))) := hw2
    rw [← hw2'] at G2
    have E2' := E1.trans (E2.mono E1.size (fun _ h _ => h))
    have z1 := E1.size
    by_cases e : 0 < (splitP t).2.size
    · refine cond_true' (decide_eq_true (by omega)) ⟨by omega, by omega, ?_⟩
      rw [add_mk]
      refine ⟨G2.can (i := 5) (by omega), letW_intro fun w3 hw3 => ?_⟩
      have G3 := G2.set (i := 5) (by omega) (byteAt (splitP t).2 0)
      have hw3' : w3 = w2.setCell ⟨b4, 5, none⟩ (.int .u8 (byteAt (splitP t).2 0)) := hw3
      rw [← hw3'] at G3
      have q : Same [b4] w2.heap.size w2 w3 := by rw [hw3']; exact (Same.refl _ _ _).setCell (.inr (by simp)) _
      refine fin _ w3 ?_ (T2.same q T2.lt (by simp; omega)) G3 (E2'.trans (q.mono E2'.size (fun k hk _ => by simp at hk; simp [hk])))
      unfold packG
      rw [if_pos e]
    · refine cond_false' (decide_eq_false (by omega)) (fin _ w2 ?_ T2 G2 E2')
      unfold packG
      rw [if_neg e]
  have loop : ∀ (f i : Nat) (w1 : World), i + f = min (splitP t).1.size 4 → SigAt w1 b2 (fun _ => 0) → SigAt w1 b4 (parG (splitP t).1 i) → Same [b2, b4] w.heap.size w w1 → exec_pack.L1 b2 b4 (splitP t).1 (splitP t).2 (i : Int) (fun v w' => v = .agg #[.int .u8 (packG t 0), .int .u8 (packG t 1), .int .u8 (packG t 2), .int .u8 (packG t 3), .int .u8 (packG t 4), .int .u8 (packG t 5)] ∧ Same [] w.heap.size w w') (fun _ _ => False) w1 := by
    intro f
    induction f with
    | zero =>
      intro i w1 hi T1 G1 E1
      obtain rfl : i = min (splitP t).1.size 4 := by omega
      refine exec_pack.step1 _ _ _ _ _ _ _ _ ?_
      unfold exec_pack.V1
      by_cases e : (splitP t).1.size ≤ 4
      · exact cond_false' (decide_eq_false (by omega)) (mid w1 T1 G1 E1)
      · exact cond_true' (decide_eq_true (by omega)) (cond_false' (decide_eq_false (by omega)) (mid w1 T1 G1 E1))
    | succ f ih =>
      intro i w1 hi T1 G1 E1
      refine exec_pack.step1 _ _ _ _ _ _ _ _ ?_
      unfold exec_pack.V1
      refine cond_true' (decide_eq_true (by omega)) (cond_true' (decide_eq_true (by omega)) ?_)
      refine exec_pack.step2 _ _ _ _ _ _ _ _ ?_
      unfold exec_pack.V2
      have ei : IntKind.wrap .i64 ((1 : Int) + (i : Int)) = ((1 + i : Nat) : Int) := by rw [wrap_i64 (by omega) (by omega)]; omega
      rw [ei, add_mk, Int.toNat_natCast, Int.toNat_natCast, Nat.zero_add, Nat.mul_one]
      refine ⟨by omega, by omega, G1.can (by omega), letW_intro fun w2 hw2 => ?_⟩
      have G2 := G1.set (i := 1 + i) (by omega) (byteAt (splitP t).1 i)
      rw [← hw2] at G2
      have q : Same [b4] w1.heap.size w1 w2 := by rw [hw2]; exact (Same.refl _ _ _).setCell (.inr (by simp)) _
      rw [nx i (by omega)]
      exact ih (i + 1) w2 (by omega) (T1.same q T1.lt (by simp; omega)) G2 (E1.trans (q.mono E1.size (fun k hk _ => by simp at hk; simp [hk])))
  exact loop (min (splitP t).1.size 4) 0 w7 (by omega) T7 G7 E0
end Go.Proofs.Qxb6500317aGreat
