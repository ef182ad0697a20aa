/-
  The ground of the laws: Read, Ground, Bench, Taken.
-/
import Derived.Test.Qxb6500321aPrI
import Derived.Test.Qxb6500321aIdA
import Derived.Test.Qxb6500321aVpA
import Derived.Test.Qxb6500321aSv
set_option linter.unusedSimpArgs false
set_option linter.unusedVariables false
set_option maxRecDepth 100000
set_option linter.unusedSectionVars false
namespace Go.Proofs.Qxb6500321a
open Go Go.Vc

/-- The Bin of the laws: its three buffers are nil for good. -/
abbrev BN (w : World) (b bi bt : Nat) (c : Sc) : Prop := BL outNil w b bi bt c none none none
theorem BL.go {I : OutOf} {w w' : World} {b bi bt : Nat} {c : Sc} {go gs gf : Option Nat} (h : BL I w b bi bt c go gs gf) {S : List Nat} (hS : Same S w.heap.size w w') (h1 : b ∉ S) (h2 : bi ∉ S) (h3 : bt ∉ S) (h4 : ∀ k, k ∈ bufs go gs gf → k ∉ S) : BL I w' b bi bt c go gs gf :=
  ⟨h.ba.keep hS h1 h2 h3, h.o.same hS (Nat.le_refl _) (fun k hk => h4 k (mem_bufs.2 (.inl hk))), h.s.same hS (Nat.le_refl _) (fun k hk => h4 k (mem_bufs.2 (.inr (.inl hk)))), h.f.same hS (Nat.le_refl _) (fun k hk => h4 k (mem_bufs.2 (.inr (.inr hk)))), h.xo, h.xs, h.xf, h.y1, h.y2, h.y3⟩
theorem BL.lts {I : OutOf} {w : World} {b bi bt : Nat} {c : Sc} {go gs gf : Option Nat} (h : BL I w b bi bt c go gs gf) : b < w.heap.size ∧ bi < w.heap.size ∧ bt < w.heap.size := ⟨h.ba.ltb, h.ba.lti, h.ba.ltt⟩
theorem BN.go {w w' : World} {b bi bt : Nat} {c : Sc} (h : BN w b bi bt c) {S : List Nat} (hS : Same S w.heap.size w w') (h1 : b ∉ S) (h2 : bi ∉ S) (h3 : bt ∉ S) : BN w' b bi bt c :=
  BL.go h hS h1 h2 h3 (fun k hk => by simp [bufs] at hk)

/-- What Read leaves. -/
def RdOk (w : World) (s : ByteArray) (b bi bt : Nat) (c : Sc) : Value → World → Prop := fun v w' =>
  (∃ x q mb m, decA s c = .ok x q ∧ v = rp mb ∧ BN w' b bi bt x.1 ∧ HM w' w' w.heap.size mb m x.2 ∧ Same [b, bi, bt] w.heap.size w w') ∨
  (∃ n a c', decA s c = .err n a ∧ v = .pointer none ∧ BN w' b bi bt c' ∧ Same [b, bi, bt] w.heap.size w w')
theorem Read_spec {w : World} {b bi bt : Nat} {c : Sc} (hB : BN w b bi bt c) (s : ByteArray) : Runs Try.prog preplaw_Read.id #[.agg #[rp b], .string s] w (RdOk w s b bi bt c) := by
  refine preplaw_Read.enter _ _ _ _ _ ?_
  unfold preplaw_Read.V
  refine letB_intro fun b3 hb3 => letW_intro fun w4 hw4 => ?_
  have S4 : Same [] w.heap.size w w4 := by rw [hw4]; exact (Same.refl _ _ _).alloc (Nat.le_refl _) _
  have c4 : w4.cell? ⟨b3, 0, none⟩ = some (rp b) := by rw [hw4, hb3, World.cell?_alloc_new]; rfl
  have z4 : w.heap.size ≤ w4.heap.size := S4.size
  clear hw4
  refine ⟨_, c4, RunsQ.post (Decode_all (hB.keep S4) s) ?_⟩
  rintro v w7 (⟨x, q, mb, m, h1, rfl, h3, h4, h5, h6, h7⟩ | ⟨n, a, h1, rfl, ⟨c', h3⟩, h7⟩)
  · refine ⟨_, _, _, rfl, .inl ⟨x, q, mb, m, h1, rfl, h3, ⟨h4, ?_, by omega, Same.refl _ _ _⟩, (S4.mono (Nat.le_refl _) (by simp)).trans (h7.mono z4 (fun k hk _ => hk))⟩⟩
    haveI := outNil
    exact h5.weak z4
  · exact ⟨_, _, _, rfl, .inr ⟨n, a, c', h1, rfl, h3, (S4.mono (Nat.le_refl _) (by simp)).trans (h7.mono z4 (fun k hk _ => hk))⟩⟩

theorem Ground_spec (w : World) : Runs Try.prog preplaw_Ground.id #[] w fun v w' => ∃ b bi bt, v = .agg #[rp b] ∧ BN w' b bi bt sc0 ∧ Same [] w.heap.size w w' ∧ w.heap.size ≤ b ∧ w.heap.size ≤ bi ∧ w.heap.size ≤ bt := by
  refine preplaw_Ground.enter _ _ _ ?_
  unfold preplaw_Ground.V
  refine letB_intro fun b1 hb1 => letW_intro fun w2 hw2 => ?_
  have S2 : Same [] w.heap.size w w2 := by rw [hw2]; exact (Same.refl _ _ _).alloc (Nat.le_refl _) _
  have z2 : w2.heap.size = w.heap.size + 1 := by rw [hw2]; simp
  have c2 : can w2 ⟨b1, 0, none⟩ := ⟨⟨.pointer none, by rw [hw2, hb1, World.cell?_alloc_new]; rfl⟩, by rw [hw2, hb1, World.frozen?_alloc_new]⟩
  clear hw2
  refine RunsQ.post (New_spec w2) ?_
  rintro v w4 ⟨b, bi, bt, rfl, hB, S4, l1, l2, l3⟩
  obtain ⟨⟨u, hu⟩, hf⟩ := c2
  have c4 : w4.cell? ⟨b1, 0, none⟩ = some u := by rw [S4.cell (p := ⟨b1, 0, none⟩) (show b1 < _ by omega) (by simp)]; exact hu
  have f4 : w4.frozen? ⟨b1, 0, none⟩ = false := by rw [S4.frozen (p := ⟨b1, 0, none⟩) (show b1 < _ by omega) (by simp)]; exact hf
  refine ⟨_, rfl, ⟨⟨u, c4⟩, f4⟩, letW_intro fun w6 hw6 => ?_⟩
  have S6 : Same [b1] w4.heap.size w4 w6 := by rw [hw6]; exact (Same.refl _ _ _).setCell (.inr (by simp)) _
  have c6 : w6.cell? ⟨b1, 0, none⟩ = some (rp b) := by rw [hw6, cell_setCell, if_pos ⟨rfl, rfl⟩, c4]; rfl
  have no : ∀ {G : Nat → Prop}, ∀ k, (none : Option Nat) = some k → G k := fun k hk => by cases hk
  have B4 : BN w4 b bi bt sc0 := ⟨hB, .inl ⟨rfl, rfl⟩, .inl ⟨rfl, rfl⟩, .inl ⟨rfl, rfl⟩, no, no, no, no, no, no⟩
  refine ⟨_, c6, b, bi, bt, rfl, B4.go S6 (by simp; omega) (by simp; omega) (by simp; omega), ?_, by omega, by omega, by omega⟩
  have z4 := S4.size
  exact (S2.trans (S4.mono (by omega) (by simp))).trans (S6.mono (by omega) (fun k hk hl => by simp at hk; omega))


theorem Bench_spec (w : World) : Runs Try.prog preplaw_Bench.id #[] w fun v w' => ∃ vb, v = .agg #[rp vb] ∧ (∃ o k, VAt w' vb o k) ∧ Same [] w.heap.size w w' ∧ w.heap.size ≤ vb := by
  refine preplaw_Bench.enter _ _ _ ?_
  unfold preplaw_Bench.V
  refine letB_intro fun b1 hb1 => letW_intro fun w2 hw2 => ?_
  have S2 : Same [] w.heap.size w w2 := by rw [hw2]; exact (Same.refl _ _ _).alloc (Nat.le_refl _) _
  have z2 : w2.heap.size = w.heap.size + 1 := by rw [hw2]; simp
  have c2 : can w2 ⟨b1, 0, none⟩ := ⟨⟨.pointer none, by rw [hw2, hb1, World.cell?_alloc_new]; rfl⟩, by rw [hw2, hb1, World.frozen?_alloc_new]⟩
  clear hw2
  refine RunsQ.post (VNew_spec w2) ?_
  rintro v w4 ⟨vb, rfl, V4, S4, l1⟩
  obtain ⟨⟨u, hu⟩, hf⟩ := c2
  have c4 : w4.cell? ⟨b1, 0, none⟩ = some u := by rw [S4.cell (p := ⟨b1, 0, none⟩) (show b1 < _ by omega) (by simp)]; exact hu
  have f4 : w4.frozen? ⟨b1, 0, none⟩ = false := by rw [S4.frozen (p := ⟨b1, 0, none⟩) (show b1 < _ by omega) (by simp)]; exact hf
  refine ⟨_, rfl, ⟨⟨u, c4⟩, f4⟩, letW_intro fun w6 hw6 => ?_⟩
  have S6 : Same [b1] w4.heap.size w4 w6 := by rw [hw6]; exact (Same.refl _ _ _).setCell (.inr (by simp)) _
  have c6 : w6.cell? ⟨b1, 0, none⟩ = some (rp vb) := by rw [hw6, cell_setCell, if_pos ⟨rfl, rfl⟩, c4]; rfl
  refine ⟨_, c6, vb, rfl, ⟨_, _, V4.same S6 V4.lt (by simp; omega)⟩, ?_, by omega⟩
  have z4 := S4.size
  exact (S2.trans (S4.mono (by omega) (by simp))).trans (S6.mono (by omega) (fun k hk hl => by simp at hk; omega))
theorem Taken_spec {wd w : World} {L mb vb : Nat} {m : Nat → Value} {P : PM} (H : HM wd w L mb m P) (B : PB P) (V : ∃ o k, VAt w vb o k) (lv : vb ≤ L) : Runs Try.prog preplaw_Taken.id #[.agg #[rp vb], rp mb] w fun v w' => v = .bool ((validV P).2.2 == 0) ∧ (∃ o k, VAt w' vb o k) ∧ Same [vb] w.heap.size w w' := by
  refine preplaw_Taken.enter _ _ _ _ _ ?_
  unfold preplaw_Taken.V
  refine letB_intro fun b3 hb3 => letW_intro fun w4 hw4 => ?_
  have S4 : Same [] w.heap.size w w4 := by rw [hw4]; exact (Same.refl _ _ _).alloc (Nat.le_refl _) _
  have c4 : w4.cell? ⟨b3, 0, none⟩ = some (rp vb) := by rw [hw4, hb3, World.cell?_alloc_new]; rfl
  refine ⟨_, c4, RunsQ.post (Validate_spec (H.keep S4) B (by obtain ⟨o, k, v⟩ := V; exact ⟨o, k, v.keep S4⟩) lv) ?_⟩
  rintro v w7 ⟨rfl, V7, S7⟩
  exact ⟨_, _, _, rfl, rfl, V7, (S4.mono (Nat.le_refl _) (by simp)).trans (S7.mono S4.size (fun _ h _ => h))⟩
theorem Taken_nil {w : World} {vb : Nat} (V : ∃ o k, VAt w vb o k) : Runs Try.prog preplaw_Taken.id #[.agg #[rp vb], .pointer none] w fun v w' => v = .bool false ∧ (∃ o k, VAt w' vb o k) ∧ Same [vb] w.heap.size w w' := by
  refine preplaw_Taken.enter _ _ _ _ _ ?_
  unfold preplaw_Taken.V
  refine letB_intro fun b3 hb3 => letW_intro fun w4 hw4 => ?_
  have S4 : Same [] w.heap.size w w4 := by rw [hw4]; exact (Same.refl _ _ _).alloc (Nat.le_refl _) _
  have c4 : w4.cell? ⟨b3, 0, none⟩ = some (rp vb) := by rw [hw4, hb3, World.cell?_alloc_new]; rfl
  refine ⟨_, c4, RunsQ.post (Validate_nil (by obtain ⟨o, k, v⟩ := V; exact ⟨o, k, v.keep S4⟩)) ?_⟩
  rintro v w7 ⟨rfl, V7, S7⟩
  exact ⟨_, _, _, rfl, rfl, V7, (S4.mono (Nat.le_refl _) (by simp)).trans (S7.mono S4.size (fun _ h _ => h))⟩

/-- A decoded body gives no more cells than there is room for. -/
theorem wf_sum {P : PM} {f : FnP} : ∀ (k i d : Nat) (may : Nat → Bool) (u : Nat), i + k = f.nI → u ≤ f.nTab → wfGo f.ins f.nI f.nTab k i d may u → wsum (bdOf P f) f.nI ≤ wsum (bdOf P f) i + k + (f.nTab - u)
  | 0, i, d, may, u, _, _, h => h.elim
  | k + 1, i, d, may, u, hi, hu, h => by
    rw [wfGo_succ] at h
    have hs := wsum_succ (bdOf P f) i
    have e1 : (bdOf P f).ins i = f.ins i := rfl
    have e2 : (bdOf P f).nt = f.nTab := rfl
    rw [e1, e2] at hs
    by_cases h14 : (f.ins i).op = 14
    · rw [if_pos h14] at h
      obtain ⟨a1, a2, a3, a4⟩ := h
      have ih := wf_sum (P := P) k (i + 1) d may (u + (f.ins i).y.toNat) (by omega) (by omega) a4
      rw [if_pos ⟨h14, by omega⟩] at hs
      omega
    · rw [if_neg h14] at h
      rw [if_neg (fun q => h14 q.1)] at hs
      obtain ⟨_, h⟩ := h
      split at h
      · have ih := wf_sum (P := P) k (i + 1) _ _ u (by omega) hu h.2
        omega
      · split at h
        · have ih := wf_sum (P := P) k (i + 1) _ _ u (by omega) hu h.2.2
          omega
        · split at h
          · split at h
            · have : k = 0 := by omega
              subst this
              rw [show f.nI = i + 1 by omega]
              omega
            · have ih := wf_sum (P := P) k (i + 1) _ _ u (by omega) hu h
              omega
          · have ih := wf_sum (P := P) k (i + 1) _ _ u (by omega) hu h
            omega
theorem wf_room {P : PM} (W : WFP P) : ∀ i, i < P.nf → wsum (bdOf P (P.fn i)) (P.fn i).nI ≤ 120 ∧ 1 ≤ (P.fn i).nI := fun i hi => by
  have F := W.fn i hi
  have B := F.b
  have b1 := B.nI; have b2 := B.nT
  have := wf_sum (P := P) (f := P.fn i) (P.fn i).nI 0 0 (fun _ => false) 0 (by omega) (by omega) F.go
  have e : wsum (bdOf P (P.fn i)) 0 = 0 := rfl
  exact ⟨by omega, F.n0⟩
end Go.Proofs.Qxb6500321a
