/-
  The law's small tests: Read, rows, Placed.
-/
import Derived.Test.Qxb6500322aPaA
import Derived.Test.Qxb6500322aSv
set_option linter.unusedSimpArgs false
set_option linter.unusedVariables false
set_option maxRecDepth 100000
set_option linter.unusedSectionVars false
namespace Go.Proofs.Qxb6500322a
open Go Go.Vc

/-- The Bin of the laws: its three buffers are nil for good. -/
abbrev BN (w : World) (b bi bt : Nat) (c : Sc) : Prop := BL outNil w b bi bt c none none none
theorem BL.go {I : OutOf} {w w' : World} {b bi bt : Nat} {c : Sc} {go gs gf : Option Nat} (h : BL I w b bi bt c go gs gf) {S : List Nat} (hS : Same S w.heap.size w w') (h1 : b ∉ S) (h2 : bi ∉ S) (h3 : bt ∉ S) (h4 : ∀ k, k ∈ bufs go gs gf → k ∉ S) : BL I w' b bi bt c go gs gf :=
  ⟨h.ba.keep hS h1 h2 h3, h.o.same hS (Nat.le_refl _) (fun k hk => h4 k (mem_bufs.2 (.inl hk))), h.s.same hS (Nat.le_refl _) (fun k hk => h4 k (mem_bufs.2 (.inr (.inl hk)))), h.f.same hS (Nat.le_refl _) (fun k hk => h4 k (mem_bufs.2 (.inr (.inr hk)))), h.xo, h.xs, h.xf, h.y1, h.y2, h.y3⟩
theorem BL.lts {I : OutOf} {w : World} {b bi bt : Nat} {c : Sc} {go gs gf : Option Nat} (h : BL I w b bi bt c go gs gf) : b < w.heap.size ∧ bi < w.heap.size ∧ bt < w.heap.size := ⟨h.ba.ltb, h.ba.lti, h.ba.ltt⟩
theorem BN.go {w w' : World} {b bi bt : Nat} {c : Sc} (h : BN w b bi bt c) {S : List Nat} (hS : Same S w.heap.size w w') (h1 : b ∉ S) (h2 : bi ∉ S) (h3 : bt ∉ S) : BN w' b bi bt c :=
  BL.go h hS h1 h2 h3 (fun k hk => by simp [bufs] at hk)

/-- What Read leaves. -/
def RdOk (w : World) (s : ByteArray) (b bi bt : Nat) (c : Sc) : Value → World → Prop := fun v w' =>
  (∃ x q mb m, decA s c = .ok x q ∧ v = rp mb ∧ BN w' b bi bt x.1 ∧ HM w' w' w.heap.size mb m x.2 ∧ Same [b, bi, bt] w.heap.size w w') ∨
  (∃ n a c', decA s c = .err n a ∧ v = .pointer none ∧ BN w' b bi bt c' ∧ Same [b, bi, bt] w.heap.size w w')
theorem Read_spec {w : World} {b bi bt : Nat} {c : Sc} (hB : BN w b bi bt c) (s : ByteArray) : Runs Try.prog validlaw_Read.id #[.agg #[rp b], .string s] w (RdOk w s b bi bt c) := by
  refine validlaw_Read.enter _ _ _ _ _ ?_
  unfold validlaw_Read.V
  refine letB_intro fun b3 hb3 => letW_intro fun w4 hw4 => ?_
  have S4 : Same [] w.heap.size w w4 := by rw [hw4]; exact (Same.refl _ _ _).alloc (Nat.le_refl _) _
  have c4 : w4.cell? ⟨b3, 0, none⟩ = some (rp b) := by rw [hw4, hb3, World.cell?_alloc_new]; rfl
  have z4 : w.heap.size ≤ w4.heap.size := S4.size
  clear hw4
  refine ⟨_, c4, RunsQ.post (Decode_all (hB.keep S4) s) ?_⟩
  rintro v w7 (⟨x, q, mb, m, h1, rfl, h3, h4, h5, h6, h7⟩ | ⟨n, a, h1, rfl, ⟨c', h3⟩, h7⟩)
  · refine ⟨_, _, _, rfl, .inl ⟨x, q, mb, m, h1, rfl, h3, ⟨h4, ?_, by omega, Same.refl _ _ _⟩, (S4.mono (Nat.le_refl _) (by simp)).trans (h7.mono z4 (fun k hk _ => hk))⟩⟩
    haveI := outNil
    exact h5.weak z4
  · exact ⟨_, _, _, rfl, .inr ⟨n, a, c', h1, rfl, h3, (S4.mono (Nat.le_refl _) (by simp)).trans (h7.mono z4 (fun k hk _ => hk))⟩⟩

section
variable {wd w w' : World} {L mb vb : Nat} {m : Nat → Value} {P : PM}
theorem rows_spec (H : HM wd w L mb m P) (B : PB P) (e : Int) : Runs Try.prog validlaw_rows.id #[rp mb, .int .i64 e] w fun v w' => v = .int .i64 (rowsP P e) ∧ Same [] w.heap.size w w' := by
  have b1 := B.nIm; have b2 := B.nf
  refine validlaw_rows.enter _ _ _ _ _ ?_
  unfold validlaw_rows.V
  obtain ⟨a1, c1, _⟩ := H.im
  obtain ⟨a2, c2, _⟩ := H.fn
  obtain ⟨a7, c7, _⟩ := H.gl
  obtain ⟨a8, c8, _⟩ := H.ex
  obtain ⟨a10, c10, _⟩ := H.el
  obtain ⟨a11, c11, _⟩ := H.da
  have L1 : ∀ (w1 : World) (n : Int), Same [] w.heap.size w w1 → n = rowsP P e → validlaw_rows.L1 n (fun v w' => v = .int .i64 (rowsP P e) ∧ Same [] w.heap.size w w') (fun _ _ => False) w1 := fun w1 n S h => by
    refine validlaw_rows.step1 _ _ _ _ ?_
    unfold validlaw_rows.V1
    exact ⟨by rw [h], S⟩
  have S0 := Same.refl [] w.heap.size w
  simp only [true_and, nilV_some, Nat.zero_add]
  refine cond_intro (fun h => ?_) (fun h => ?_)
  · have h : e = 14 := eq_of_beq h
    refine ⟨_, _, _, c1, _, _, _, c2, L1 _ _ S0.drew ?_⟩
    rw [wrap_i64 (by omega) (by omega)]
    unfold rowsP; rw [if_pos h]; omega
  have n14 : ¬ e = 14 := by simpa using h
  refine cond_intro (fun h => ?_) (fun h => ?_)
  · have h : e = 16 := eq_of_beq h
    exact L1 _ _ S0 (by unfold rowsP; rw [if_neg n14, if_pos h])
  have n16 : ¬ e = 16 := by simpa using h
  have L2 : ∀ t : Bool, (t = true ↔ (e = 17 ∨ e = 18)) → validlaw_rows.L2 (some ⟨mb, 0, none⟩) 0 e t (fun v w' => v = .int .i64 (rowsP P e) ∧ Same [] w.heap.size w w') (fun _ _ => False) w := fun t ht => by
    refine validlaw_rows.step2 _ _ _ _ _ _ _ ?_
    unfold validlaw_rows.V2
    simp only [true_and, nilV_some, Nat.zero_add]
    refine cond_intro (fun h => ?_) (fun h => ?_)
    · exact ⟨_, _, _, c8, L1 _ _ S0 (by unfold rowsP; rw [if_neg n14, if_neg n16, if_pos (ht.1 h)])⟩
    have n17 : ¬ (e = 17 ∨ e = 18) := fun g => by have := ht.2 g; rw [this] at h; cases h
    refine cond_intro (fun h => L1 _ _ S0 (by unfold rowsP; rw [if_neg n14, if_neg n16, if_neg n17, if_pos (eq_of_beq h)])) (fun h => ?_)
    have n19 : ¬ e = 19 := by simpa using h
    refine cond_intro (fun h => ⟨_, _, _, c10, L1 _ _ S0 (by unfold rowsP; rw [if_neg n14, if_neg n16, if_neg n17, if_neg n19, if_pos (eq_of_beq h)])⟩) (fun h => ?_)
    have n21 : ¬ e = 21 := by simpa using h
    refine cond_intro (fun h => ⟨_, _, _, c11, L1 _ _ S0 (by unfold rowsP; rw [if_neg n14, if_neg n16, if_neg n17, if_neg n19, if_neg n21, if_pos (eq_of_beq h)])⟩) (fun h => ?_)
    have n20 : ¬ e = 20 := by simpa using h
    refine cond_intro (fun h => ⟨_, _, _, c10, cond_intro (fun g => ?_) (fun g => ?_)⟩) (fun h => ?_)
    · exact L1 _ _ S0 (by unfold rowsP; rw [if_neg n14, if_neg n16, if_neg n17, if_neg n19, if_neg n21, if_neg n20, if_pos (eq_of_beq h), if_pos (of_decide_eq_true g)])
    · exact L1 _ _ S0 (by unfold rowsP; rw [if_neg n14, if_neg n16, if_neg n17, if_neg n19, if_neg n21, if_neg n20, if_pos (eq_of_beq h), if_neg (of_decide_eq_false g)])
    have n15 : ¬ e = 15 := by simpa using h
    refine cond_intro (fun h => ?_) (fun h => ?_)
    · have h27 : e = 27 := eq_of_beq h
      have er : rowsP P e = (if (if (P.gn : Int) < P.nEl then (P.nEl : Int) else P.gn) < P.nD then (P.nD : Int) else (if (P.gn : Int) < P.nEl then (P.nEl : Int) else P.gn)) := by
        unfold rowsP; rw [if_neg n14, if_neg n16, if_neg n17, if_neg n19, if_neg n21, if_neg n20, if_neg n15, if_pos h27]
      have L3 : ∀ n : Int, n = (if (P.gn : Int) < P.nEl then (P.nEl : Int) else P.gn) → validlaw_rows.L3 (some ⟨mb, 0, none⟩) n (fun v w' => v = .int .i64 (rowsP P e) ∧ Same [] w.heap.size w w') (fun _ _ => False) w := fun n hn => by
        refine validlaw_rows.step3 _ _ _ _ _ ?_
        unfold validlaw_rows.V3
        simp only [true_and, nilV_some, Nat.zero_add]
        rw [← hn] at er
        refine ⟨_, _, _, c11, cond_intro (fun g => ⟨_, _, _, c11, L1 _ _ S0 ?_⟩) (fun g => L1 _ _ S0 ?_)⟩
        · rw [er, if_pos (of_decide_eq_true g)]
        · rw [er, if_neg (of_decide_eq_false g)]
      refine ⟨_, _, _, c7, _, _, _, c10, cond_intro (fun g => ⟨_, _, _, c10, L3 _ ?_⟩) (fun g => L3 _ ?_)⟩
      · rw [if_pos (of_decide_eq_true g)]
      · rw [if_neg (of_decide_eq_false g)]
    · have n27 : ¬ e = 27 := by simpa using h
      exact L1 _ _ S0 (by unfold rowsP; rw [if_neg n14, if_neg n16, if_neg n17, if_neg n19, if_neg n21, if_neg n20, if_neg n15, if_neg n27])
  refine cond_intro (fun h => L2 true ⟨fun _ => .inl (eq_of_beq h), fun _ => rfl⟩) (fun h => L2 _ ⟨fun g => .inr (eq_of_beq g), fun g => ?_⟩)
  have h : ¬ e = 17 := by simpa using h
  rcases g with g | g
  · exact absurd g h
  · rw [g]; rfl

theorem Placed_spec (H : HM wd w L mb m P) (B : PB P) (z : Int × Int × Int) (hz : ValOk P z) : Runs Try.prog validlaw_Placed.id #[rp mb, .int .i64 z.1, .int .i64 z.2.1, .int .i64 z.2.2] w fun v w' => v = .bool true ∧ Same [] w.heap.size w w' := by
  refine validlaw_Placed.enter _ _ _ _ _ _ _ ?_
  unfold validlaw_Placed.V
  simp only [true_and, nilV_some, Nat.zero_add]
  obtain ⟨a2, c2, hr⟩ := H.fn
  have S0 := Same.refl [] w.heap.size w
  rcases hz with ⟨h1, h2, h3⟩ | ⟨h0, h1, h2, h3, h4⟩
  · rw [h1, h2, h3]
    exact cond_true' rfl ⟨_, _, _, c2, cond_true' (by simp) ⟨rfl, S0⟩⟩
  · refine cond_false' (by simpa using h0) (cond_false' (decide_eq_false (by omega)) (cond_false' (decide_eq_false (by omega)) (cond_false' (decide_eq_false (by omega)) ?_)))
    refine validlaw_Placed.step1 _ _ _ _ _ _ _ ?_
    unfold validlaw_Placed.V1
    rcases h4 with ⟨g1, g2⟩ | ⟨i, g1, g2, g3, g4⟩
    · rw [g1]
      refine cond_true' rfl (RunsQ.post (rows_spec H B z.2.2) ?_)
      rintro v w2 ⟨rfl, S2⟩
      exact ⟨_, rfl, by rw [decide_eq_true g2], S2⟩
    · rw [g1]
      unfold goodE at g3
      simp only [true_and, nilV_some, Nat.zero_add]
      refine cond_false' (beq_eq_false_iff_ne.2 (by omega)) (cond_false' (decide_eq_false (by omega)) ⟨_, _, _, c2, cond_false' (decide_eq_false (by omega)) ?_⟩)
      refine cond_false' (beq_eq_false_iff_ne.2 (by omega)) (cond_false' (beq_eq_false_iff_ne.2 (by omega)) (cond_false' (beq_eq_false_iff_ne.2 (by omega)) (cond_false' (beq_eq_false_iff_ne.2 (by omega)) ?_)))
      refine validlaw_Placed.step2 _ _ _ _ _ _ ?_
      unfold validlaw_Placed.V2
      simp only [true_and, nilV_some, Nat.zero_add]
      obtain ⟨fb, rfl, _, _, row⟩ := hr (by omega)
      obtain ⟨nb, b1, _⟩ := row.c2 i g2
      refine ⟨_, _, _, c2, ⟨by omega, by omega⟩, ?_⟩
      simp only [nilV_some, add_mk, Int.toNat_natCast, Nat.zero_add]
      exact ⟨_, _, _, b1, by rw [decide_eq_true g4], S0⟩
end
end Go.Proofs.Qxb6500322a
