/-
  Decode, for every text.
-/
import Derived.Test.Qxb6500317aGreatPbA
set_option linter.unusedSimpArgs false
set_option linter.unusedVariables false
set_option maxRecDepth 100000
namespace Go.Proofs.Qxb6500317aGreat
open Go Go.Vc

/-- The plain decoder, for every text. -/
def decA (s : ByteArray) (c : Sc) : Res (Sc × PM) :=
  if 1024 < s.size then .err 1 0 else if s.size < 8 then .err 3 s.size else if (ByteArray.toList (ByteArray.extract s 0 8) == ByteArray.toList ⟨#[0, 97, 115, 109, 1, 0, 0, 0]⟩) = true then decP s c else .err 2 0
theorem decA_pb {s : ByteArray} {c : Sc} {x : Sc × PM} {q : Nat} (h : decA s c = .ok x q) : PB x.2 := by
  unfold decA at h
  split at h
  · cases h
  split at h
  · cases h
  split at h
  · exact decP_pb h
  · cases h

/-- What Decode answers, the Bin's buffers kept. -/
def DAll (I : OutOf) (w0 : World) (s : ByteArray) (b bi bt : Nat) (go gs gf : Option Nat) (r : Res (Sc × PM)) : Value → World → Prop := fun v w' =>
  (∃ cp q mb m, r = .ok cp q ∧ v = .tuple #[rp mb, .int .i64 ((s.size : Nat) : Int), .int .i64 0] ∧ BL I w' b bi bt cp.1 go gs gf ∧ ModAt w' mb m ∧ MInv w' w0.heap.size m cp.2 ∧ w0.heap.size < mb ∧ Same [b, bi, bt] w0.heap.size w0 w')
  ∨ ∃ n a, r = .err n a ∧ v = .tuple #[.pointer none, .int .i64 a, .int .i64 n] ∧ (∃ c', BL I w' b bi bt c' go gs gf) ∧ Same [b, bi, bt] w0.heap.size w0 w'

theorem BL.move {I : OutOf} {w w' : World} {b bi bt : Nat} {c c' : Sc} {go gs gf : Option Nat} (h : BL I w b bi bt c go gs gf) (hS : Same [b, bi, bt] w.heap.size w w') (hB : @BinAt I w' b bi bt c') : BL I w' b bi bt c' go gs gf :=
  ⟨hB, h.o.same hS (Nat.le_refl _) h.xo, h.s.same hS (Nat.le_refl _) h.xs, h.f.same hS (Nat.le_refl _) h.xf, h.xo, h.xs, h.xf, h.y1, h.y2, h.y3⟩
theorem BL.keep {I : OutOf} {w w' : World} {b bi bt : Nat} {c : Sc} {go gs gf : Option Nat} (h : BL I w b bi bt c go gs gf) (hS : Same [] w.heap.size w w') : BL I w' b bi bt c go gs gf :=
  h.move (hS.mono (Nat.le_refl _) (by simp)) (h.ba.keep hS (by simp) (by simp) (by simp))

theorem early_exit {w8 : World} {m4 p5 e6 : Nat} (c4 : can w8 ⟨m4, 0, none⟩) (c5 : can w8 ⟨p5, 0, none⟩) (c6 : can w8 ⟨e6, 0, none⟩) (n1 : m4 ≠ p5) (n2 : m4 ≠ e6) (n3 : p5 ≠ e6) (a n : Int) (R : Value → World → Prop)
    (hR : ∀ w', Same [m4, p5, e6] w8.heap.size w8 w' → R (.tuple #[.pointer none, .int .i64 a, .int .i64 n]) w') :
    (can w8 ⟨m4, 0, none⟩ ∧ letW (World.setCell w8 ⟨m4, 0, none⟩ (.pointer none)) fun w9 => (can w9 ⟨p5, 0, none⟩ ∧ letW (World.setCell w9 ⟨p5, 0, none⟩ (.int .i64 a)) fun w10 => (can w10 ⟨e6, 0, none⟩ ∧ letW (World.setCell w10 ⟨e6, 0, none⟩ (.int .i64 n)) fun w11 => ((∃ x12 : Option Addr, World.cell? w11 ⟨m4, 0, none⟩ = some (.pointer x12) ∧ (∃ x13 : Int, World.cell? w11 ⟨p5, 0, none⟩ = some (.int .i64 x13) ∧ (∃ x14 : Int, World.cell? w11 ⟨e6, 0, none⟩ = some (.int .i64 x14) ∧ R (.tuple #[(.pointer x12), (.int .i64 x13), (.int .i64 x14)]) w11))))))) := by
  obtain ⟨⟨u4, h4⟩, f4⟩ := c4
  obtain ⟨⟨u5, h5⟩, f5⟩ := c5
  obtain ⟨⟨u6, h6⟩, f6⟩ := c6
  refine ⟨⟨⟨u4, h4⟩, f4⟩, letW_intro fun w9 hw9 => ?_⟩
  have k9 : ∀ b', w9.cell? ⟨b', 0, none⟩ = if b' = m4 ∧ 0 = 0 then (w8.cell? ⟨b', 0, none⟩).map (fun _ => .pointer none) else w8.cell? ⟨b', 0, none⟩ := fun b' => by rw [hw9, cell_setCell]
  have g9 : ∀ b', w9.frozen? ⟨b', 0, none⟩ = w8.frozen? ⟨b', 0, none⟩ := fun b' => by rw [hw9, World.frozen?_setCell]
  refine ⟨⟨⟨u5, by rw [k9, if_neg (by omega)]; exact h5⟩, (g9 _).trans f5⟩, letW_intro fun w10 hw10 => ?_⟩
  have k10 : ∀ b', w10.cell? ⟨b', 0, none⟩ = if b' = p5 ∧ 0 = 0 then (w9.cell? ⟨b', 0, none⟩).map (fun _ => .int .i64 a) else w9.cell? ⟨b', 0, none⟩ := fun b' => by rw [hw10, cell_setCell]
  have g10 : ∀ b', w10.frozen? ⟨b', 0, none⟩ = w9.frozen? ⟨b', 0, none⟩ := fun b' => by rw [hw10, World.frozen?_setCell]
  refine ⟨⟨⟨u6, by rw [k10, if_neg (by omega), k9, if_neg (by omega)]; exact h6⟩, (g10 _).trans ((g9 _).trans f6)⟩, letW_intro fun w11 hw11 => ?_⟩
  have k11 : ∀ b', w11.cell? ⟨b', 0, none⟩ = if b' = e6 ∧ 0 = 0 then (w10.cell? ⟨b', 0, none⟩).map (fun _ => .int .i64 n) else w10.cell? ⟨b', 0, none⟩ := fun b' => by rw [hw11, cell_setCell]
  refine ⟨none, ?_, a, ?_, n, ?_, hR w11 ?_⟩
  · rw [k11, if_neg (by omega), k10, if_neg (by omega), k9, if_pos ⟨rfl, rfl⟩, h4]; rfl
  · rw [k11, if_neg (by omega), k10, if_pos ⟨rfl, rfl⟩, k9, if_neg (by omega), h5]; rfl
  · rw [k11, if_pos ⟨rfl, rfl⟩, k10, if_neg (by omega), k9, if_neg (by omega), h6]; rfl
  · rw [hw11, hw10, hw9]
    exact (((Same.refl _ _ _).setCell (.inr (by simp)) _).setCell (.inr (by simp)) _).setCell (.inr (by simp)) _

theorem Decode_all {I : OutOf} {w : World} {b bi bt : Nat} {c : Sc} {go gs gf : Option Nat} (hB : BL I w b bi bt c go gs gf) (s : ByteArray) :
    Runs Tryz.prog bin_Bin_Decode.id #[rp b, .string s] w (DAll I w s b bi bt go gs gf (decA s c)) := by
  by_cases hok : ¬(1024 < s.size) ∧ ¬(s.size < 8) ∧ (ByteArray.toList (ByteArray.extract s 0 8) == ByteArray.toList ⟨#[0, 97, 115, 109, 1, 0, 0, 0]⟩) = true
  · obtain ⟨h1, h2, h3⟩ := hok
    have e : decA s c = decP s c := by unfold decA; rw [if_neg h1, if_neg h2, if_pos h3]
    rw [e]
    refine RunsQ.post (@Decode_spec I w b bi bt c hB.ba s (by omega) (by omega) h3) ?_
    rintro v w' (⟨cp, q, mb, m, k1, k2, k3, k4, k5, k6, k7⟩ | ⟨n, a, k1, k2, ⟨c', k3⟩, k4⟩)
    · exact .inl ⟨cp, q, mb, m, k1, k2, hB.move k7 k3, k4, k5, k6, k7⟩
    · exact .inr ⟨n, a, k1, k2, ⟨c', hB.move k4 k3⟩, k4⟩
  · refine bin_Bin_Decode.enter _ _ _ _ _ ?_
    unfold bin_Bin_Decode.V
    refine letB_intro fun m4 hm4 => letW_intro fun w4 hw4 => letB_intro fun p5 hp5 => letW_intro fun w6 hw6 => letB_intro fun e6 he6 => letW_intro fun w8 hw8 => ?_
    have sz4 : w4.heap.size = w.heap.size + 1 := by rw [hw4]; simp
    have sz6 : w6.heap.size = w4.heap.size + 1 := by rw [hw6]; simp
    have sz8 : w8.heap.size = w6.heap.size + 1 := by rw [hw8]; simp
    have S4 : Same [] w.heap.size w w4 := by rw [hw4]; exact (Same.refl _ _ _).alloc (Nat.le_refl _) _
    have S6 : Same [] w4.heap.size w4 w6 := by rw [hw6]; exact (Same.refl _ _ _).alloc (Nat.le_refl _) _
    have S8 : Same [] w6.heap.size w6 w8 := by rw [hw8]; exact (Same.refl _ _ _).alloc (Nat.le_refl _) _
    have cm4 : can w4 ⟨m4, 0, none⟩ := ⟨⟨.pointer none, by rw [hw4, hm4, World.cell?_alloc_new]; rfl⟩, by rw [hw4, hm4, World.frozen?_alloc_new]⟩
    have cp6 : can w6 ⟨p5, 0, none⟩ := ⟨⟨.int .i64 0, by rw [hw6, hp5, World.cell?_alloc_new]; rfl⟩, by rw [hw6, hp5, World.frozen?_alloc_new]⟩
    have ce8 : can w8 ⟨e6, 0, none⟩ := ⟨⟨.int .i64 0, by rw [hw8, he6, World.cell?_alloc_new]; rfl⟩, by rw [hw8, he6, World.frozen?_alloc_new]⟩
    haveI := I
    have cm8 := can_same (can_same cm4 S6 (by simp)) S8 (by simp)
    have cp8 := can_same cp6 S8 (by simp)
    have S08 : Same [] w.heap.size w w8 := (S4.trans (S6.mono (by omega) (by simp))).trans (S8.mono (by omega) (by simp))
    clear hw4 hw6 hw8
    have fin : ∀ (n a : Int) w', decA s c = .err n a → Same [m4, p5, e6] w8.heap.size w8 w' → DAll I w s b bi bt go gs gf (decA s c) (.tuple #[.pointer none, .int .i64 a, .int .i64 n]) w' := by
      intro n a w' hr hS
      have T : Same [] w.heap.size w w' := S08.trans (hS.mono (by omega) (by intro k hk hlt; simp at hk; omega))
      exact .inr ⟨n, a, hr, rfl, ⟨c, hB.keep T⟩, T.mono (Nat.le_refl _) (by simp)⟩
    by_cases h1 : 1024 < s.size
    · exact cond_true' (decide_eq_true (by omega)) (early_exit cm8 cp8 ce8 (by omega) (by omega) (by omega) 0 1 _ (fun w' hS => fin _ _ w' (by unfold decA; rw [if_pos h1]) hS))
    refine cond_false' (decide_eq_false (by omega)) ?_
    by_cases h2 : s.size < 8
    · exact cond_true' (decide_eq_true (by omega)) (early_exit cm8 cp8 ce8 (by omega) (by omega) (by omega) _ 3 _ (fun w' hS => fin _ _ w' (by unfold decA; rw [if_neg h1, if_pos h2]) hS))
    refine cond_false' (decide_eq_false (by omega)) ⟨by omega, ?_⟩
    have h3 : ¬(ByteArray.toList (ByteArray.extract s 0 8) == ByteArray.toList ⟨#[0, 97, 115, 109, 1, 0, 0, 0]⟩) = true := fun h => hok ⟨h1, h2, h⟩
    refine cond_true' ?_ (early_exit cm8 cp8 ce8 (by omega) (by omega) (by omega) 0 2 _ (fun w' hS => fin _ _ w' (by unfold decA; rw [if_neg h1, if_neg h2, if_neg h3]) hS))
    rw [show Int.toNat 8 = 8 from rfl, Bool.eq_false_iff.2 h3]; rfl

end Go.Proofs.Qxb6500317aGreat
