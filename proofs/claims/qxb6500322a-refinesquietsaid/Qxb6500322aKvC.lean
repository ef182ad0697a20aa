/-
  Keeps.
-/
import Derived.Test.Qxb6500322aKvB
set_option linter.unusedSimpArgs false
set_option linter.unusedVariables false
set_option maxRecDepth 100000
set_option linter.unusedSectionVars false
namespace Go.Proofs.Qxb6500322a
open Go Go.Vc

/-- The Bin and the validator, apart. -/
structure BV (w : World) (b bi bt vb : Nat) : Prop where
  B : ∃ c, BN w b bi bt c
  V : ∃ o k, VAt w vb o k
  n1 : vb ≠ b
  n2 : vb ≠ bi
  n3 : vb ≠ bt
section
variable {w w' : World} {b bi bt vb : Nat}
theorem BV.vlt (h : BV w b bi bt vb) : vb < w.heap.size := by obtain ⟨o, k, v⟩ := h.V; exact v.lt
theorem BV.keep (h : BV w b bi bt vb) (hS : Same [] w.heap.size w w') : BV w' b bi bt vb := by
  obtain ⟨c, hB⟩ := h.B
  obtain ⟨o, k, v⟩ := h.V
  exact ⟨⟨c, hB.keep hS⟩, ⟨o, k, v.keep hS⟩, h.n1, h.n2, h.n3⟩
theorem BV.drew (h : BV w b bi bt vb) : BV w.drew b bi bt vb := h.keep (Same.refl _ _ _).drew

/-- What Kept leaves. -/
def KeptOk (w : World) (b bi bt vb : Nat) : Value → World → Prop := fun v w' => v = .bool true ∧ BV w' b bi bt vb ∧ Same [b, bi, bt, vb] w.heap.size w w'
theorem ba_refl (x : ByteArray) : (ByteArray.toList x == ByteArray.toList x) = true := beq_self_eq_true _

theorem Kept_spec (h : BV w b bi bt vb) (o : OpV) : Runs Try.prog validlaw_Kept.id #[rp vb, .agg #[rp b], o.val] w (KeptOk w b bi bt vb) := by
  refine validlaw_Kept.enter _ _ _ _ _ _ _ _ _ _ _ ?_
  unfold validlaw_Kept.V
  refine letB_intro fun b9 hb9 => letW_intro fun w10 hw10 => letB_intro fun b11 hb11 => letW_intro fun w12 hw12 => ?_
  have S10 : Same [] w.heap.size w w10 := by rw [hw10]; exact (Same.refl _ _ _).alloc (Nat.le_refl _) _
  have z10 : w10.heap.size = w.heap.size + 1 := by rw [hw10]; simp
  have S12 : Same [] w10.heap.size w10 w12 := by rw [hw12]; exact (Same.refl _ _ _).alloc (Nat.le_refl _) _
  have z12 : w12.heap.size = w10.heap.size + 1 := by rw [hw12]; simp
  have O12 : OpAt w12 b11 o := by rw [hw12, hb11]; exact OpAt.new w10 o T_api_Op
  have c9 : w12.cell? ⟨b9, 0, none⟩ = some (rp b) := by
    rw [S12.cell (p := ⟨b9, 0, none⟩) (show b9 < w10.heap.size by omega) (by simp), hw10, hb9, World.cell?_alloc_new]; rfl
  have T12 : Same [] w.heap.size w w12 := S10.trans (S12.mono (by omega) (by simp))
  have h12 := h.keep T12
  clear hw10 hw12
  obtain ⟨c, hB⟩ := h.B
  obtain ⟨l1, l2, l3⟩ := BL.lts hB
  have lv := h.vlt
  have n1 := h.n1; have n2 := h.n2; have n3 := h.n3
  obtain ⟨c12, B12⟩ := h12.B
  refine ⟨_, c9, _, O12.c4, RunsQ.post (Read_spec B12 o.s) ?_⟩
  rintro v w16 (⟨x, q, mb, m, hd, rfl, B16, H16, S16⟩ | ⟨n, a, c', hd, rfl, B16, S16⟩)
  rotate_left
  · refine ⟨_, rfl, ?_⟩
    have V16 : ∃ o k, VAt w16 vb o k := by obtain ⟨o, k, v⟩ := h12.V; exact ⟨o, k, v.same S16 v.lt (by simp; omega)⟩
    refine RunsQ.post (Validate_nil V16) ?_
    rintro v w19 ⟨rfl, V19, S19⟩
    refine ⟨_, _, _, rfl, cond_true' rfl (cond_true' rfl (cond_true' rfl ⟨rfl, ⟨⟨c', B16.go S19 (by simp; omega) (by simp; omega) (by simp; omega)⟩, V19, n1, n2, n3⟩, ?_⟩))⟩
    have a12 : Same [b, bi, bt, vb] w.heap.size w w12 := T12.mono (Nat.le_refl _) (by simp)
    have a16 := a12.trans (S16.mono a12.size (fun k hk _ => by simp at hk ⊢; omega))
    exact a16.trans (S19.mono a16.size (fun k hk _ => by simp at hk ⊢; omega))
  have PBx := decA_pb hd
  have F := decA_wf hd
  have z16 := S16.size
  refine ⟨_, rfl, ?_⟩
  have V16 : ∃ o k, VAt w16 vb o k := by obtain ⟨o, k, v⟩ := h12.V; exact ⟨o, k, v.same S16 v.lt (by simp; omega)⟩
  refine RunsQ.post (Validate_spec H16 PBx V16 (by omega)) ?_
  rintro v w19 ⟨rfl, V19, S19⟩
  have z19 := S19.size
  have H19 := H16.at1 S19 (by omega)
  have B19 : BN w19 b bi bt x.1 := B16.go S19 (by simp; omega) (by simp; omega) (by simp; omega)
  have keepC : ∀ {p : Addr}, p.block < w12.heap.size → w.heap.size ≤ p.block → w19.cell? p = w12.cell? p := fun {p} hp hq => by
    rw [S19.cell (p := p) (by omega) (by simp; omega), S16.cell (p := p) hp (by simp; omega)]
  have c9' : w19.cell? ⟨b9, 0, none⟩ = some (rp b) := by rw [keepC (p := ⟨b9, 0, none⟩) (show b9 < _ by omega) (show _ ≤ b9 by omega)]; exact c9
  have O19 : OpAt w19 b11 o := by
    have e : ∀ j, w19.cell? ⟨b11, j, none⟩ = w12.cell? ⟨b11, j, none⟩ := fun j => keepC (p := ⟨b11, j, none⟩) (show b11 < _ by omega) (show _ ≤ b11 by omega)
    exact ⟨by rw [e]; exact O12.c0, by rw [e]; exact O12.c1, by rw [e]; exact O12.c2, by rw [e]; exact O12.c3, by rw [e]; exact O12.c4, by rw [e]; exact O12.c5⟩
  refine ⟨_, _, _, rfl, cond_false' rfl ⟨_, c9', _, O19.c4, RunsQ.post (Read_spec B19 o.s) ?_⟩⟩
  obtain ⟨y, hy, E⟩ := decA_again hd x.1
  rintro v w26 (⟨x', q', mb', m', hd', rfl, B26, H26, S26⟩ | ⟨n, a, c', hd', _⟩)
  rotate_left
  · rw [hy] at hd'; cases hd'
  have ex : x' = y := by rw [hy] at hd'; (first | (injection hd' with z__; injection z__ with e _) | injection hd' with e _); exact e.symm
  subst ex
  have PBy := decA_pb hy
  have z26 := S26.size
  have H19' := H19.same S26 H19.size (fun k hk => by simp at hk; omega)
  refine ⟨_, rfl, RunsQ.post (Show_spec (H19'.sx PBx.sb)) ?_⟩
  rintro v w29 ⟨rfl, S29⟩
  have H29 := H26.keep S29
  refine ⟨_, rfl, RunsQ.post (Show_spec (H29.sx PBy.sb)) ?_⟩
  rintro v w32 ⟨rfl, S32⟩
  have T32 : Same [] w26.heap.size w26 w32 := S29.trans (S32.mono S29.size (by simp))
  refine ⟨_, rfl, cond_false' (by rw [showP_eq E, ba_refl]; rfl) ?_⟩
  have HM32 := H19'.keep T32
  have V32 : ∃ o k, VAt w32 vb o k := by
    obtain ⟨o, k, v⟩ := V19
    exact ⟨o, k, (v.same S26 v.lt (by simp; omega)).keep T32⟩
  refine RunsQ.post (Validate_spec HM32 PBx V32 (by omega)) ?_
  rintro v w35 ⟨rfl, V35, S35⟩
  refine ⟨_, _, _, rfl, cond_false' (by simp) (cond_false' (by simp) (cond_false' (by simp) ?_))⟩
  have z32 := T32.size
  have H35 := HM32.at1 S35 (by omega)
  have B32 : BN w32 b bi bt x'.1 := B26.keep T32
  have B35 : BN w35 b bi bt x'.1 := B32.go S35 (by simp; omega) (by simp; omega) (by simp; omega)
  have z35 := S35.size
  have O35 : OpAt w35 b11 o := by
    have hb : b11 < w19.heap.size := by omega
    exact ((O19.same S26 hb (by simp; omega)).same T32 (by omega) (by simp)).same S35 (by omega) (by simp; omega)
  have A35 : Same [b, bi, bt, vb] w.heap.size w w35 := by
    have a12 : Same [b, bi, bt, vb] w.heap.size w w12 := T12.mono (Nat.le_refl _) (by simp)
    have a16 := a12.trans (S16.mono a12.size (fun k hk _ => by simp at hk ⊢; omega))
    have a19 := a16.trans (S19.mono a16.size (fun k hk _ => by simp at hk ⊢; omega))
    have a26 := a19.trans (S26.mono a19.size (fun k hk _ => by simp at hk ⊢; omega))
    have a32 := a26.trans (T32.mono a26.size (by simp))
    exact a32.trans (S35.mono a32.size (fun k hk _ => by simp at hk ⊢; omega))
  refine validlaw_Kept.step1 _ _ _ _ _ _ _ _ _ ?_
  unfold validlaw_Kept.V1
  refine RunsQ.post (Placed_spec H35 PBx _ (valid_ok F)) ?_
  rintro v w36 ⟨rfl, S36⟩
  have O36 := O35.same S36 O35.lt (by simp)
  have A36 := A35.trans (S36.mono A35.size (by simp))
  have B36 : BN w36 b bi bt x'.1 := B35.keep S36
  have V36 : ∃ o k, VAt w36 vb o k := by obtain ⟨o, k, v⟩ := V35; exact ⟨o, k, v.keep S36⟩
  have H36 := H35.keep S36
  have fin : KeptOk w b bi bt vb (.bool true) w36 := ⟨rfl, ⟨⟨_, B36⟩, V36, n1, n2, n3⟩, A36⟩
  have L2 : ∀ t : Bool, (t = true → (validV x.2).2.2 = 0) → validlaw_Kept.L2 (some ⟨vb, 0, none⟩) b11 (some ⟨mb, 0, none⟩) t (KeptOk w b bi bt vb) (fun _ _ => False) w36 := fun t ht => by
    refine validlaw_Kept.step2 _ _ _ _ _ _ _ ?_
    unfold validlaw_Kept.V2
    refine cond_intro (fun g => ⟨_, O36.c1, ?_⟩) (fun _ => fin)
    refine RunsQ.post (Padded_spec H36 PBx V36 (by omega) (ht g) o.a) ?_
    rintro v w37 ⟨rfl, V37, fb, hf, S37⟩
    refine ⟨_, rfl, rfl, ⟨⟨_, B36.go S37 (by simp; omega) (by simp; omega) (by simp; omega)⟩, V37, n1, n2, n3⟩, ?_⟩
    exact A36.trans (S37.mono A36.size (fun k hk hl => by simp at hk ⊢; omega))
  exact ⟨_, rfl, cond_false' rfl ⟨_, O36.c0, cond_intro (fun _ => L2 _ (fun g => eq_of_beq g)) (fun _ => L2 false (fun g => by cases g))⟩⟩

theorem Ground_spec (w : World) : Runs Try.prog validlaw_Ground.id #[] w fun v w' => ∃ b bi bt, v = .agg #[rp b] ∧ BN w' b bi bt sc0 ∧ Same [] w.heap.size w w' ∧ w.heap.size ≤ b ∧ w.heap.size ≤ bi ∧ w.heap.size ≤ bt := by
  refine validlaw_Ground.enter _ _ _ ?_
  unfold validlaw_Ground.V
  refine letB_intro fun b1 hb1 => letW_intro fun w2 hw2 => ?_
  have S2 : Same [] w.heap.size w w2 := by rw [hw2]; exact (Same.refl _ _ _).alloc (Nat.le_refl _) _
  have z2 : w2.heap.size = w.heap.size + 1 := by rw [hw2]; simp
  have c2 : can w2 ⟨b1, 0, none⟩ := ⟨⟨.pointer none, by rw [hw2, hb1, World.cell?_alloc_new]; rfl⟩, by rw [hw2, hb1, World.frozen?_alloc_new]⟩
  clear hw2
  refine RunsQ.post (New_spec w2) ?_
  rintro v w4 ⟨b, bi, bt, rfl, hB, S4, l1, l2, l3⟩
  obtain ⟨⟨u, hu⟩, hf⟩ := c2
  have c4 : w4.cell? ⟨b1, 0, none⟩ = some u := by rw [S4.cell (p := ⟨b1, 0, none⟩) (show b1 < _ by omega) (by simp)]; exact hu
  have f4 : w4.frozen? ⟨b1, 0, none⟩ = false := by rw [S4.frozen (p := ⟨b1, 0, none⟩) (show b1 < _ by omega) (by simp)]; exact hf
  refine ⟨_, rfl, ⟨⟨u, c4⟩, f4⟩, letW_intro fun w6 hw6 => ?_⟩
  have S6 : Same [b1] w4.heap.size w4 w6 := by rw [hw6]; exact (Same.refl _ _ _).setCell (.inr (by simp)) _
  have c6 : w6.cell? ⟨b1, 0, none⟩ = some (rp b) := by rw [hw6, cell_setCell, if_pos ⟨rfl, rfl⟩, c4]; rfl
  have no : ∀ {G : Nat → Prop}, ∀ k, (none : Option Nat) = some k → G k := fun k hk => by cases hk
  have B4 : BN w4 b bi bt sc0 := ⟨hB, .inl ⟨rfl, rfl⟩, .inl ⟨rfl, rfl⟩, .inl ⟨rfl, rfl⟩, no, no, no, no, no, no⟩
  refine ⟨_, c6, b, bi, bt, rfl, B4.go S6 (by simp; omega) (by simp; omega) (by simp; omega), ?_, by omega, by omega, by omega⟩
  have z4 := S4.size
  exact (S2.trans (S4.mono (by omega) (by simp))).trans (S6.mono (by omega) (fun k hk hl => by simp at hk; omega))

/-- What holds between two steps. -/
structure KC (w0 w : World) (bb b bi bt vb : Nat) : Prop where
  l1 : w0.heap.size ≤ b
  l2 : w0.heap.size ≤ bi
  l3 : w0.heap.size ≤ bt
  l4 : w0.heap.size ≤ vb
  S : Same [] w0.heap.size w0 w
  h : BV w b bi bt vb
  c : w.cell? ⟨bb, 0, none⟩ = some (rp b)
  m1 : bb ≠ b
  m2 : bb ≠ bi
  m3 : bb ≠ bt
  m4 : bb ≠ vb

theorem Keeps_loop (w0 : World) (a : Option Addr) (l c : Nat) (hs : ScriptAt w0 a l) (bb b bi bt vb : Nat) (R Q : Value → World → Prop) (hQ : Q = fun _ _ => False) (hR : ∀ w', Same [] w0.heap.size w0 w' → R (.int .i64 (-1)) w') :
    ∀ (f i : Nat) (w : World), i + f = l → KC w0 w bb b bi bt vb → validlaw_KeepsUpTo.L1 a l c bb (some ⟨vb, 0, none⟩) i R Q w := by
  subst hQ
  intro f
  induction f with
  | zero =>
    intro i w hi C
    refine validlaw_KeepsUpTo.step1 _ _ _ _ _ _ _ _ _ ?_
    unfold validlaw_KeepsUpTo.V1
    exact cond_false' (by simp; omega) (hR w C.S)
  | succ f ih =>
    intro i w hi C
    refine validlaw_KeepsUpTo.step1 _ _ _ _ _ _ _ _ _ ?_
    unfold validlaw_KeepsUpTo.V1
    refine cond_true' (by simp; omega) ?_
    generalize hM : (4398046511104 : Int) = M
    refine cond_intro (fun hm => ?_) (fun hm => hR w C.S)
    subst hM
    have hm : (i : Int) < 4398046511104 := of_decide_eq_true hm
    rcases hs with h0 | ⟨sb, off, rfl, hs⟩
    · omega
    obtain ⟨o, hF, hO0⟩ := hs i (by omega)
    have hO := hO0.same C.S
    refine validlaw_KeepsUpTo.step2 _ _ _ _ _ _ _ _ _ ?_
    unfold validlaw_KeepsUpTo.V2
    simp only [nilV_some, add_mk, Int.toNat_natCast]
    have L4 : ∀ w', KC w0 w' bb b bi bt vb → validlaw_KeepsUpTo.L4 (some ⟨sb, off, none⟩) l c bb (some ⟨vb, 0, none⟩) i R (fun _ _ => False) w' := fun w' C' => by
      refine validlaw_KeepsUpTo.step4 _ _ _ _ _ _ _ _ _ ?_
      unfold validlaw_KeepsUpTo.V4
      have e : IntKind.wrap .i64 ((i : Int) + 1) = ((i + 1 : Nat) : Int) := by rw [wrap_i64 (by omega) (by omega)]; omega
      rw [e]
      exact ih (i + 1) w' (by omega) C'
    have L3 : ∀ t, validlaw_KeepsUpTo.L3 (some ⟨sb, off, none⟩) l c bb (some ⟨vb, 0, none⟩) i t R (fun _ _ => False) w := fun t => by
      refine validlaw_KeepsUpTo.step3 _ _ _ _ _ _ _ _ _ _ ?_
      unfold validlaw_KeepsUpTo.V3
      refine cond_intro (fun _ => ?_) (fun _ => L4 w C)
      have hO2 := hO0.same C.S.drew
      simp only [true_and, nilV_some, add_mk, Int.toNat_natCast, and_true]
      refine ⟨_, C.c, ⟨by omega, by omega⟩, _, _, _, _, _, _, hO2.c0, hO2.c1, hO2.c2, hO2.c3, hO2.c4, hO2.c5, ?_⟩
      refine RunsQ.post (Kept_spec C.h.drew o) ?_
      rintro v w10 ⟨rfl, h10, S10⟩
      refine ⟨_, rfl, cond_false' rfl (L4 w10 ⟨C.l1, C.l2, C.l3, C.l4, ?_, h10, ?_, C.m1, C.m2, C.m3, C.m4⟩)⟩
      · have a1 := C.l1; have a2 := C.l2; have a3 := C.l3; have a4 := C.l4
        exact C.S.drew.trans (S10.mono C.S.size (fun k hk hl => by simp at hk; omega))
      · have hb : bb < w.heap.size := cell_lt C.c
        have m1 := C.m1; have m2 := C.m2; have m3 := C.m3; have m4 := C.m4
        rw [S10.cell (p := ⟨bb, 0, none⟩) hb (by simp; omega)]; exact C.c
    refine ⟨by omega, _, hO.c0, cond_intro (fun _ => L3 _) (fun _ => cond_intro (fun _ => L3 _) (fun _ => L3 _))⟩

theorem Keeps_spec (w : World) (a : Option Addr) (l c : Nat) (hs : ScriptAt w a l) : Runs Try.prog validlaw_Keeps.id #[.slice a l c] w fun v w' => v = .bool true ∧ Same [] w.heap.size w w' := by
  refine validlaw_Keeps.enter _ _ _ _ _ _ ?_
  unfold validlaw_Keeps.V
  have h : Runs Try.prog validlaw_KeepsUpTo.id #[.slice a l c] w fun v w' => v = .int .i64 (-1) ∧ Same [] w.heap.size w w' := by
    refine validlaw_KeepsUpTo.enter _ _ _ _ _ _ ?_
    unfold validlaw_KeepsUpTo.V
    refine RunsQ.post (Ground_spec w) ?_
    rintro v w5 ⟨b, bi, bt, rfl, hB, S5, l1, l2, l3⟩
    obtain ⟨q1, q2, q3⟩ := BL.lts hB
    refine ⟨_, rfl, letB_intro fun b7 hb7 => letW_intro fun w8 hw8 => ?_⟩
    have S8 : Same [] w5.heap.size w5 w8 := by rw [hw8]; exact (Same.refl _ _ _).alloc (Nat.le_refl _) _
    have z8 : w8.heap.size = w5.heap.size + 1 := by rw [hw8]; simp
    have c8 : w8.cell? ⟨b7, 0, none⟩ = some (.pointer none) := by rw [hw8, hb7, World.cell?_alloc_new]; rfl
    have f8 : w8.frozen? ⟨b7, 0, none⟩ = false := by rw [hw8, hb7, World.frozen?_alloc_new]
    clear hw8
    refine ⟨⟨⟨_, c8⟩, f8⟩, letW_intro fun w9 hw9 => ?_⟩
    have S9 : Same [b7] w8.heap.size w8 w9 := by rw [hw9]; exact (Same.refl _ _ _).setCell (.inr (by simp)) _
    have c9 : w9.cell? ⟨b7, 0, none⟩ = some (rp b) := by rw [hw9, cell_setCell, if_pos ⟨rfl, rfl⟩, c8]; rfl
    clear hw9
    have z9 := S9.size
    have z5 := S5.size
    refine RunsQ.post (VNew_spec w9) ?_
    rintro v w11 ⟨vb, rfl, V11, S11, lv⟩
    refine ⟨_, rfl, ?_⟩
    have B9 : BN w9 b bi bt sc0 := BN.go (hB.keep S8) S9 (by simp; omega) (by simp; omega) (by simp; omega)
    have T11 : Same [] w.heap.size w w11 := ((S5.trans (S8.mono z5 (by simp))).trans (S9.mono (by omega) (fun k hk hl => by simp at hk; omega))).trans (S11.mono (by omega) (by simp))
    exact Keeps_loop w a l c hs b7 b bi bt vb _ _ rfl (fun w' h => ⟨rfl, h⟩) l 0 w11 (by omega) ⟨l1, l2, l3, by omega, T11, ⟨⟨_, B9.keep S11⟩, ⟨_, _, V11⟩, by omega, by omega, by omega⟩, by rw [S11.cell (p := ⟨b7, 0, none⟩) (show b7 < _ by omega) (by simp)]; exact c9, by omega, by omega, by omega, by omega⟩
  refine RunsQ.post h ?_
  rintro v w1 ⟨rfl, hS⟩
  exact ⟨_, rfl, rfl, hS⟩
end
end Go.Proofs.Qxb6500322a
