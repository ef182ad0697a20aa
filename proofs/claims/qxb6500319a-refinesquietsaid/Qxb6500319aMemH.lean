/-
  Package memlaw, fourth part: Owed computes the step on the ghost.
-/
import Derived.Test.Qxb6500319aMemG
set_option linter.unusedSimpArgs false
set_option linter.unusedVariables false
set_option maxRecDepth 100000
namespace Go.Proofs.Qxb6500319a
open Go Go.Vc

theorem Owed_reset (w0 : World) (p q bo ba : Nat) (o : OpV) (r : Int) (s : MS) (w : World) (C : OwCtx w0 w p q bo ba s o) (ho : o.In) (R : Value → World → Prop)
    (hR : ∀ w', GAt w' p q (s.reset o.a o.b o.c r).2 → Same [p, q] w0.heap.size w0 w' → R (ansV (s.reset o.a o.b o.c r).1 0 eps) w') :
    (∃ x26 : Int, ∃ x27 : Int, ∃ x28 : Int, ∃ x29 : Int, ∃ x30 : ByteArray, ∃ x31 : ByteArray, World.cell? w ⟨bo, 0, none⟩ = some (.int .i64 x26) ∧ World.cell? w ⟨bo, 1, none⟩ = some (.int .i64 x27) ∧ World.cell? w ⟨bo, 2, none⟩ = some (.int .i64 x28) ∧ World.cell? w ⟨bo, 3, none⟩ = some (.int .i64 x29) ∧ World.cell? w ⟨bo, 4, none⟩ = some (.string x30) ∧ World.cell? w ⟨bo, 5, none⟩ = some (.string x31) ∧ (Runs Try.prog memlaw_BadReset.id #[(.agg #[(.int .i64 x26), (.int .i64 x27), (.int .i64 x28), (.int .i64 x29), (.string x30), (.string x31)]), (.int .i64 r)] w fun r32 w33 => (∃ x34 : Bool, (r32 = (.bool x34) ∧ (cond x34
  (putCells w33 ⟨ba, 0, none⟩ [(.int .i64 36), (.int .i64 0), (.int .i64 0), (.string ⟨#[]⟩)] fun w35 => ((∃ x36 : Int, ∃ x37 : Int, ∃ x38 : Int, ∃ x39 : ByteArray, World.cell? w35 ⟨ba, 0, none⟩ = some (.int .i64 x36) ∧ World.cell? w35 ⟨ba, 1, none⟩ = some (.int .i64 x37) ∧ World.cell? w35 ⟨ba, 2, none⟩ = some (.int .i64 x38) ∧ World.cell? w35 ⟨ba, 3, none⟩ = some (.string x39) ∧ R (.agg #[(.int .i64 x36), (.int .i64 x37), (.int .i64 x38), (.string x39)]) w35)))
  (∃ x40 : Int, World.cell? w33 ⟨bo, 1, none⟩ = some (.int .i64 x40) ∧ (nilV (some ⟨p, 0, none⟩) fun a41 => (can w33 a41 ∧ letW (World.setCell w33 a41 (.bool (decide (x40 ≥ (0 : Int))))) fun w42 => (nilV (some ⟨p, 0, none⟩) fun a43 => (can w42 ⟨(Addr.block a43), (Addr.off a43 + 1), none⟩ ∧ letW (World.setCell w42 ⟨(Addr.block a43), (Addr.off a43 + 1), none⟩ (.int .i64 0)) fun w44 => (nilV (some ⟨p, 0, none⟩) fun a45 => (can w44 ⟨(Addr.block a45), (Addr.off a45 + 2), none⟩ ∧ letW (World.setCell w44 ⟨(Addr.block a45), (Addr.off a45 + 2), none⟩ (.int .i64 0)) fun w46 => (nilV (some ⟨p, 0, none⟩) fun a47 => (can w46 ⟨(Addr.block a47), (Addr.off a47 + 3), none⟩ ∧ letW (World.setCell w46 ⟨(Addr.block a47), (Addr.off a47 + 3), none⟩ (.int .i64 0)) fun w48 => (nilV (some ⟨p, 0, none⟩) fun a49 => (∃ x50 : Bool, World.cell? w48 a49 = some (.bool x50) ∧ (cond x50
  (nilV (some ⟨p, 0, none⟩) fun a51 => (can w48 ⟨(Addr.block a51), (Addr.off a51 + 2), none⟩ ∧ letW (World.setCell w48 ⟨(Addr.block a51), (Addr.off a51 + 2), none⟩ (.int .i64 384)) fun w52 => (∃ x53 : Int, World.cell? w52 ⟨bo, 1, none⟩ = some (.int .i64 x53) ∧ (Runs Try.prog memlaw_More.id #[(.pointer (some ⟨p, 0, none⟩)), (.int .i64 (IntKind.wrap .i64 (x53 * (64 : Int))))] w52 fun r54 w55 => (r54 = (.tuple #[]) ∧ (memlaw_Owed.L1 (some ⟨p, 0, none⟩) r bo ba R w55))))))
  (memlaw_Owed.L1 (some ⟨p, 0, none⟩) r bo ba R w48)))))))))))))))))) := by
  refine ⟨_, _, _, _, _, _, C.O.c0, C.O.c1, C.O.c2, C.O.c3, C.O.c4, C.O.c5, ?_⟩
  refine (BadReset_spec w o r).mono ?_
  rintro v w1 ⟨rfl, hS1⟩
  have C1 : OwCtx w0 w1 p q bo ba s o := C.next (C.m.keep hS1) (hS1.mono (Nat.le_refl _) (by simp))
  refine ⟨_, rfl, cond_intro (fun hb => ?_) (fun hb => ?_)⟩
  · refine C1.ret (fun w' h1 h2 => ?_)
    have e : s.reset o.a o.b o.c r = (36, s) := by simp only [MS.reset, if_pos hb]
    rw [e] at hR
    exact hR w' h1 h2
  · have hb' := hb
    simp only [badReset, Bool.or_eq_false_iff, Bool.and_eq_false_imp, decide_eq_false_iff_not, decide_eq_true_eq] at hb'
    have q1 : ¬ o.a < -1 ∧ ¬ 6 < o.a ∧ ¬ o.c < -1 ∧ ¬ 8 < o.c ∧ ¬ r < 0 ∧ ¬ 4 < r := by omega
    have q2 : o.a = -1 → o.b = -1 := fun hx => by have := hb'.1.1.1.1.2 hx; omega
    simp only [MS.reset, hb, Bool.false_eq_true, if_false] at hR
    simp only [nilV_some, Nat.zero_add]
    refine ⟨_, C1.O.c1, C1.m.canp 0 (by omega), letW_intro (fun w42 hw42 => ?_)⟩
    have hm2 : GAt w42 p q { s with has := decide (0 ≤ o.a) } := by
      rw [hw42]
      exact C1.m.setp 0 _ (by rw [if_pos rfl]) (by rw [if_neg (by omega)]) (by rw [if_neg (by omega)]) (by rw [if_neg (by omega)]) (by rw [if_neg (by omega)]) (by omega) (fun j hj => by rw [if_neg (by omega)]) (fun j hj => by rw [if_neg (by omega)]) rfl
    have C2 := C1.next hm2 (by rw [hw42]; exact (Same.refl _ _ _).setCell (.inr (by simp)) _)
    refine ⟨C2.m.canp 1 (by omega), letW_intro (fun w44 hw44 => ?_)⟩
    have hm3 : GAt w44 p q { s with has := decide (0 ≤ o.a), n := 0 } := by
      rw [hw44]
      exact C2.m.setp 1 _ (by rw [if_neg (by omega)]) (by rw [if_pos rfl]; rfl) (by rw [if_neg (by omega)]) (by rw [if_neg (by omega)]) (by rw [if_neg (by omega)]) (by omega) (fun j hj => by rw [if_neg (by omega)]) (fun j hj => by rw [if_neg (by omega)]) rfl
    have C3 := C2.next hm3 (by rw [hw44]; exact (Same.refl _ _ _).setCell (.inr (by simp)) _)
    refine ⟨C3.m.canp 2 (by omega), letW_intro (fun w46 hw46 => ?_)⟩
    have hm4 : GAt w46 p q { s with has := decide (0 ≤ o.a), n := 0, cap := 0 } := by
      rw [hw46]
      exact C3.m.setp 2 _ (by rw [if_neg (by omega)]) (by rw [if_neg (by omega)]) (by rw [if_pos rfl]; rfl) (by rw [if_neg (by omega)]) (by rw [if_neg (by omega)]) (by omega) (fun j hj => by rw [if_neg (by omega)]) (fun j hj => by rw [if_neg (by omega)]) rfl
    have C4 := C3.next hm4 (by rw [hw46]; exact (Same.refl _ _ _).setCell (.inr (by simp)) _)
    refine ⟨C4.m.canp 3 (by omega), letW_intro (fun w48 hw48 => ?_)⟩
    have hm5 : GAt w48 p q { s with has := decide (0 ≤ o.a), n := 0, cap := 0, tl := 0 } := by
      rw [hw48]
      exact C4.m.setp 3 _ (by rw [if_neg (by omega)]) (by rw [if_neg (by omega)]) (by rw [if_neg (by omega)]) (by rw [if_pos rfl]; rfl) (by rw [if_neg (by omega)]) (by omega) (fun j hj => by rw [if_neg (by omega)]) (fun j hj => by rw [if_neg (by omega)]) rfl
    have C5 := C4.next hm5 (by rw [hw48]; exact (Same.refl _ _ _).setCell (.inr (by simp)) _)
    refine ⟨_, C5.m.c0, cond_intro (fun hh => ?_) (fun hh => ?_)⟩
    · have ha : 0 ≤ o.a := by simpa using hh
      refine ⟨C5.m.canp 2 (by omega), letW_intro (fun w52 hw52 => ?_)⟩
      have hm6 : GAt w52 p q { s with has := decide (0 ≤ o.a), n := 0, cap := 384, tl := 0 } := by
        rw [hw52]
        exact C5.m.setp 2 _ (by rw [if_neg (by omega)]) (by rw [if_neg (by omega)]) (by rw [if_pos rfl]; rfl) (by rw [if_neg (by omega)]) (by rw [if_neg (by omega)]) (by omega) (fun j hj => by rw [if_neg (by omega)]) (fun j hj => by rw [if_neg (by omega)]) rfl
      have C6 := C5.next hm6 (by rw [hw52]; exact (Same.refl _ _ _).setCell (.inr (by simp)) _)
      refine ⟨_, C6.O.c1, ?_⟩
      have e : IntKind.wrap .i64 (o.a * 64) = ((o.a * 64).toNat : Int) := by rw [wrap_i64 (by omega) (by omega)]; omega
      rw [e]
      refine (More_spec w52 p q _ C6.m (o.a * 64).toNat (by omega) (by simp)).mono ?_
      rintro v w55 ⟨rfl, hm7, hS7⟩
      refine ⟨rfl, ?_⟩
      refine Owed_L1 w0 p q bo ba o r R _ w55 (C6.next hm7 hS7) (by omega) (by omega) (by omega) rfl ho.b (fun w' h1 h2 => hR w' ?_ h2)
      have ec : resetCap o.a o.b = if 0 ≤ o.b ∧ o.b < 6 then (o.b * 64).toNat else 384 := by rw [resetCap, if_pos ha]
      rw [ec]
      simpa using h1
    · have ha : ¬ 0 ≤ o.a := by simpa using hh
      have ha1 : o.a = -1 := by omega
      refine Owed_L1 w0 p q bo ba o r R _ w48 C5 (by omega) (by omega) (by omega) rfl ho.b (fun w' h1 h2 => hR w' ?_ h2)
      have hb1 := q2 ha1
      have ec : resetCap o.a o.b = 0 := by rw [resetCap, if_neg ha]
      have en : (o.a * 64).toNat = 0 := by omega
      rw [ec, en]
      rw [if_neg (by omega)] at h1
      simpa using h1

theorem Owed_spec (w : World) (p q : Nat) (s : MS) (h : GAt w p q s) (hw : s.Wf) (r : Int) (o : OpV) (ho : o.In) :
    Runs Try.prog memlaw_Owed.id #[.pointer (some ⟨p, 0, none⟩), .int .i64 r, o.val, .int .i64 (u32 o.a), .int .i64 (u32 o.b + u32 o.c)] w fun v w' =>
      v = ansV (s.act r o).1.1 (s.act r o).1.2.1 eps ∧ GAt w' p q (s.act r o).2 ∧ Same [p, q] w.heap.size w w' := by
  have := hw.ncap; have := hw.cap384; have hn64 := hw.n64; have hc64 := hw.cap64
  refine memlaw_Owed.enter _ _ _ _ _ _ _ _ _ _ _ _ ?_
  generalize hRd : (fun (v : Value) (w' : World) => v = ansV (s.act r o).1.1 (s.act r o).1.2.1 eps ∧ GAt w' p q (s.act r o).2 ∧ Same [p, q] w.heap.size w w') = R
  unfold memlaw_Owed.V
  refine letB_intro (fun bo hbo => letW_intro (fun w12 hw12 => letB_intro (fun ba hba => letW_intro (fun w14 hw14 => ?_))))
  have hz12 : w12.heap.size = w.heap.size + 1 := by rw [hw12]; simp
  have hS12 : Same [] w.heap.size w w12 := by rw [hw12]; exact (Same.refl _ _ _).alloc (Nat.le_refl _) _
  have hS14 : Same [] w12.heap.size w12 w14 := by rw [hw14]; exact (Same.refl _ _ _).alloc (Nat.le_refl _) _
  have hO12 : OpAt w12 bo o := by rw [hbo, hw12]; exact OpAt.new w o _
  have hA14 : AnsAt w14 ba 0 0 eps := by rw [hba, hw14]; exact AnsAt.new w12 _
  have hp := h.plt; have hq := h.qlt
  have C : OwCtx w w14 p q bo ba s o :=
    ⟨(h.keep hS12).keep hS14, hO12.same hS14 (by omega) (by simp), hA14, (hS12.trans (hS14.mono (by omega) (by simp))).mono (Nat.le_refl _) (by simp), hp, hq, by omega, by omega, by omega⟩
  clear hw12 hw14 hS12 hS14 hO12 hA14
  refine ⟨_, C.O.c1, ?_⟩
  refine (MemSig_spec o.a w14).mono ?_
  rintro r16 w17 ⟨rfl, rfl⟩
  refine ⟨_, _, _, rfl, _, C.O.c4, ?_⟩
  refine (Word_spec o.s 0 w17 ho.s (by omega)).mono ?_
  rintro r22 w23 ⟨rfl, rfl⟩
  have hwd := word_bd o.s
  have hA := u32_bd o.a; have hB := u32_bd o.b; have hC := u32_bd o.c
  refine ⟨_, rfl, _, C.O.c0, ?_⟩
  have D := C.drew
  have fin : ∀ (e n : Int) (s' : MS), s.act r o = ((e, n, eps), s') → ∀ w', GAt w' p q s' → Same [p, q] w.heap.size w w' → R (ansV e n eps) w' := fun e n s' he w' h1 h2 => by
    subst hRd
    rw [he]; exact ⟨rfl, h1, h2⟩
  have fin14 : o.kind = 14 → ∀ w', GAt w' p q s → Same [p, q] w.heap.size w w' → R (ansV 0 0 eps) w' := fun he w' h1 h2 => by
    subst hRd
    have e : s.act r o = ((0, 0, s.show), s) := by simp [MS.act, he]
    rw [e]; exact ⟨rfl, h1, h2⟩
  refine cond_intro (fun k1 => ?_) (fun k1 => ?_)
  · have k1 : o.kind = 1 := by simpa using k1
    exact Owed_reset w p q bo ba o r s w23 C ho R (fin _ _ _ (by unfold MS.act; rw [if_pos k1]))
  have k1 : ¬ o.kind = 1 := by simpa using k1
  refine cond_intro (fun k2 => ?_) (fun k2 => ?_)
  · have k2 : o.kind = 2 := by simpa using k2
    simp only [nilV_some, Nat.zero_add]
    refine ⟨_, C.m.c1, ?_⟩
    have e : Int.tdiv ((s.n : Nat) : Int) 64 = ((s.n / 64 : Nat) : Int) := rfl
    rw [e, wrap_i64 (by omega) (by omega)]
    exact C.ret (fin _ _ _ (by unfold MS.act; rw [if_neg k1, if_pos k2]))
  have k2 : ¬ o.kind = 2 := by simpa using k2
  refine cond_intro (fun k3 => ?_) (fun k3 => ?_)
  · have k3 : o.kind = 3 := by simpa using k3
    have ea : s.act r o = ((0, (s.grow (u32 o.a)).1, eps), (s.grow (u32 o.a)).2) := by unfold MS.act; rw [if_neg k1, if_neg k2, if_pos k3]
    have fin3 := fin _ _ _ ea
    have e : Int.tdiv ((s.n : Nat) : Int) 64 = ((s.n / 64 : Nat) : Int) := rfl
    have L2 : ∀ t : Bool, t = decide (¬ (s.has = true ∧ (s.n : Int) + u32 o.a * 64 ≤ s.cap)) → memlaw_Owed.L2 (some ⟨p, 0, none⟩) (u32 o.a) ba ((s.n / 64 : Nat) : Int) t R w23.drew := by
      intro t ht
      refine memlaw_Owed.step2 _ _ _ _ _ _ _ ?_
      unfold memlaw_Owed.V2
      refine cond_intro (fun hc => ?_) (fun hc => ?_)
      · have hn : ¬ (s.has = true ∧ (s.n : Int) + u32 o.a * 64 ≤ s.cap) := by rw [ht] at hc; exact of_decide_eq_true hc
        have eg : s.grow (u32 o.a) = (4294967295, s) := by unfold MS.grow; rw [if_neg hn]
        rw [eg] at fin3
        exact D.ret fin3
      · have hi : s.has = true ∧ (s.n : Int) + u32 o.a * 64 ≤ s.cap := by
          rw [ht] at hc; exact Decidable.not_not.1 (of_decide_eq_false hc)
        have eg : s.grow (u32 o.a) = (((s.n / 64 : Nat) : Int), { s with n := s.n + (u32 o.a).toNat * 64, back := fun j => if s.n ≤ j ∧ j < s.n + (u32 o.a).toNat * 64 then 0 else s.back j }) := by unfold MS.grow; rw [if_pos hi]
        rw [eg] at fin3
        have hi2 := hi.2
        simp only [nilV_some, Nat.zero_add]
        refine ⟨_, D.m.c1, ?_⟩
        have e2 : IntKind.wrap .i64 ((s.n : Int) + IntKind.wrap .i64 (u32 o.a * 64)) = ((s.n + (u32 o.a).toNat * 64 : Nat) : Int) := by
          rw [wrap_i64 (x := u32 o.a * 64) (by omega) (by omega), wrap_i64 (by omega) (by omega)]; omega
        rw [e2]
        refine (More_spec w23.drew p q s D.m (s.n + (u32 o.a).toNat * 64) (by omega) (by omega)).mono ?_
        rintro v w9 ⟨rfl, hm9, hS9⟩
        exact ⟨rfl, (D.next hm9 hS9).ret fin3⟩
    simp only [nilV_some, Nat.zero_add, true_and]
    refine ⟨_, C.m.c1, _, D.m.c0, ?_⟩
    rw [e, wrap_i64 (x := ((s.n / 64 : Nat) : Int)) (by omega) (by omega)]
    refine cond_intro (fun hh => L2 _ ?_) (fun hh => ⟨_, D.m.c1, _, D.m.c2, L2 _ ?_⟩)
    · have : s.has = false := by simpa using hh
      simp [this]
    · have : s.has = true := by simpa using hh
      rw [wrap_i64 (x := u32 o.a * 64) (by omega) (by omega), wrap_i64 (by omega) (by omega)]
      simp [this]
  have k3 : ¬ o.kind = 3 := by simpa using k3
  refine cond_intro (fun k4 => ?_) (fun k4 => ?_)
  · have k4 : o.kind = 4 := by simpa using k4
    refine ⟨_, C.O.c1, ?_⟩
    refine (Owes_spec w23 p q s C.m hw o.a (u32 o.b + u32 o.c) (by omega) (by omega)).mono ?_
    rintro v w79 ⟨rfl, hS1⟩
    exact ⟨_, _, _, _, rfl, (C.next (C.m.keep hS1) (hS1.mono (Nat.le_refl _) (by simp))).ret (fin _ _ _ (by unfold MS.act; rw [if_neg k1, if_neg k2, if_neg k3, if_pos k4]))⟩
  have k4 : ¬ o.kind = 4 := by simpa using k4
  refine cond_intro (fun k5 => ?_) (fun k5 => ?_)
  · have k5 : o.kind = 5 := by simpa using k5
    have ea : s.act r o = (((s.save o.a (u32 o.b + u32 o.c) (word o.s 0)).1, 0, eps), (s.save o.a (u32 o.b + u32 o.c) (word o.s 0)).2) := by unfold MS.act; rw [if_neg k1, if_neg k2, if_neg k3, if_neg k4, if_pos k5]
    have fin5 := fin _ _ _ ea
    have L3 : ∀ t : Bool, t = decide (¬ (54 ≤ o.a ∧ o.a ≤ 62)) → memlaw_Owed.L3 (some ⟨p, 0, none⟩) (u32 o.b + u32 o.c) ba (memSig o.a).1 (word o.s 0) t R w23 := by
      intro t ht
      refine memlaw_Owed.step3 _ _ _ _ _ _ _ _ ?_
      unfold memlaw_Owed.V3
      refine cond_intro (fun hc => ?_) (fun hc => ?_)
      · have hn : ¬ (54 ≤ o.a ∧ o.a ≤ 62) := by rw [ht] at hc; exact of_decide_eq_true hc
        have es : s.save o.a (u32 o.b + u32 o.c) (word o.s 0) = (35, s) := by unfold MS.save; rw [if_neg hn]
        rw [es] at fin5
        exact C.ret fin5
      · have hop : 54 ≤ o.a ∧ o.a ≤ 62 := by rw [ht] at hc; exact Decidable.not_not.1 (of_decide_eq_false hc)
        have hsg := memSig_bd o.a (by omega)
        simp only [nilV_some, Nat.zero_add]
        refine ⟨_, C.m.c1, ?_⟩
        rw [wrap_i64 (x := u32 o.b + u32 o.c + (memSig o.a).1) (by omega) (by omega)]
        refine cond_intro (fun hc => ?_) (fun hc => ?_)
        · have hn : ¬ u32 o.b + u32 o.c + (memSig o.a).1 ≤ s.n := by simp at hc; omega
          have es : s.save o.a (u32 o.b + u32 o.c) (word o.s 0) = (42, s) := by unfold MS.save; rw [if_pos hop, if_neg hn]
          rw [es] at fin5
          exact C.ret fin5
        · have hi : u32 o.b + u32 o.c + (memSig o.a).1 ≤ s.n := by simp at hc; omega
          have es : s.save o.a (u32 o.b + u32 o.c) (word o.s 0) = (0, { s with back := putB s.back (u32 o.b + u32 o.c).toNat (memSig o.a).1.toNat (word o.s 0) }) := by unfold MS.save; rw [if_pos hop, if_pos hi]
          rw [es] at fin5
          obtain ⟨a, ha⟩ := Int.eq_ofNat_of_zero_le (show 0 ≤ u32 o.b + u32 o.c by omega)
          obtain ⟨W, hW⟩ := Int.eq_ofNat_of_zero_le (show 0 ≤ (memSig o.a).1 by omega)
          rw [ha, hW] at hi fin5 ⊢
          simp only [Int.toNat_natCast] at fin5
          exact Owed_save w p q bo ba o R a W (by omega) W 0 s (word o.s 0) w23 (by omega) hwd.1 C (by simpa using fin5)
    refine cond_intro (fun hz => L3 _ ?_) (fun hz => ⟨_, C.O.c1, L3 _ ?_⟩)
    · have := (memSig_zero o.a).1 (by simpa using hz)
      symm; apply decide_eq_true; omega
    · have hz' : ¬ (memSig o.a).1 = 0 := by simpa using hz
      have : ¬ ¬ (40 ≤ o.a ∧ o.a ≤ 62) := fun hx => hz' ((memSig_zero o.a).2 hx)
      apply decide_eq_decide.2; omega
  have k5 : ¬ o.kind = 5 := by simpa using k5
  refine cond_intro (fun k6 => ?_) (fun k6 => ?_)
  · have k6 : o.kind = 6 := by simpa using k6
    have ea : s.act r o = ((0, if 0 ≤ o.b ∧ u32 o.a + o.b ≤ s.n then 1 else 0, eps), s) := by unfold MS.act; rw [if_neg k1, if_neg k2, if_neg k3, if_neg k4, if_neg k5, if_pos k6]
    have fin6 := fin _ _ _ ea
    have L4 : ∀ t : Bool, t = decide (0 ≤ o.b ∧ u32 o.a + o.b ≤ s.n) → memlaw_Owed.L4 ba t R w23.drew := by
      intro t ht
      refine memlaw_Owed.step4 _ _ _ _ ?_
      unfold memlaw_Owed.V4
      refine cond_intro (fun hc => ?_) (fun hc => ?_)
      · have hi : 0 ≤ o.b ∧ u32 o.a + o.b ≤ s.n := by rw [ht] at hc; exact of_decide_eq_true hc
        rw [if_pos hi] at fin6
        exact D.ret fin6
      · have hi : ¬ (0 ≤ o.b ∧ u32 o.a + o.b ≤ s.n) := by rw [ht] at hc; exact of_decide_eq_false hc
        rw [if_neg hi] at fin6
        exact Owed_L6 D fin6
    simp only [nilV_some, Nat.zero_add, true_and]
    have hob := ho.b
    refine ⟨_, D.O.c2, cond_intro (fun h1 => ⟨_, D.O.c2, _, D.m.c1, cond_intro (fun h2 => ⟨_, D.O.c2, _, D.m.c1, L4 _ ?_⟩) (fun h2 => L4 _ ?_)⟩) (fun h1 => L4 _ ?_)⟩
    · have h1 : 0 ≤ o.b := by simpa using h1
      have h2 : o.b ≤ s.n := by simpa using h2
      rw [wrap_i64 (by omega) (by omega)]
      simp [h1]
    · have h2 : ¬ o.b ≤ s.n := by simp at h2; omega
      symm; apply decide_eq_false; omega
    · have h1 : ¬ 0 ≤ o.b := by simpa using h1
      symm; apply decide_eq_false; omega
  have k6 : ¬ o.kind = 6 := by simpa using k6
  refine cond_intro (fun k7 => ?_) (fun k7 => ?_)
  · have k7 : o.kind = 7 := by simpa using k7
    have ea : s.act r o = (((s.write (u32 o.a) o.s).1, 0, eps), (s.write (u32 o.a) o.s).2) := by unfold MS.act; rw [if_neg k1, if_neg k2, if_neg k3, if_neg k4, if_neg k5, if_neg k6, if_pos k7]
    have fin7 := fin _ _ _ ea
    refine ⟨_, C.O.c4, cond_intro (fun hc => ?_) (fun hc => ?_)⟩
    · have hd : 24 < o.s.size := by simp at hc; omega
      have es : s.write (u32 o.a) o.s = (1, s) := by unfold MS.write; rw [if_pos hd]
      rw [es] at fin7
      exact C.ret fin7
    · have hd : ¬ 24 < o.s.size := by simp at hc; omega
      simp only [nilV_some, Nat.zero_add, true_and]
      refine ⟨_, D.O.c4, _, D.m.c1, ?_⟩
      rw [wrap_i64 (x := u32 o.a + (o.s.size : Nat)) (by omega) (by omega)]
      refine cond_intro (fun hc => ?_) (fun hc => ?_)
      · have hn : ¬ u32 o.a + (o.s.size : Nat) ≤ s.n := by simp at hc; omega
        have es : s.write (u32 o.a) o.s = (31, s) := by unfold MS.write; rw [if_neg hd, if_neg hn]
        rw [es] at fin7
        exact D.ret fin7
      · have hi : u32 o.a + (o.s.size : Nat) ≤ s.n := by simp at hc; omega
        have es : s.write (u32 o.a) o.s = (0, { s with back := laid s.back (u32 o.a).toNat o.s }) := by unfold MS.write; rw [if_neg hd, if_pos hi]
        rw [es] at fin7
        obtain ⟨a, ha⟩ := Int.eq_ofNat_of_zero_le hA.1
        rw [ha] at hi fin7 ⊢
        rw [Int.toNat_natCast] at fin7
        exact Owed_write w p q bo ba o R a (by omega) o.s.size 0 s w23.drew (by omega) D (fun w' h1 h2 => fin7 w' (by simp only [Nat.add_zero] at h1; exact h1) h2)
  have k7 : ¬ o.kind = 7 := by simpa using k7
  refine cond_intro (fun k8 => ?_) (fun k8 => ?_)
  · have k8 : o.kind = 8 := by simpa using k8
    simp only [nilV_some, Nat.zero_add]
    exact ⟨_, C.m.c3, C.ret (fin _ _ _ (by unfold MS.act; rw [if_neg k1, if_neg k2, if_neg k3, if_neg k4, if_neg k5, if_neg k6, if_neg k7, if_pos k8]))⟩
  have k8 : ¬ o.kind = 8 := by simpa using k8
  refine cond_intro (fun k10 => ?_) (fun k10 => ?_)
  · have k10 : o.kind = 10 := by simpa using k10
    have k9 : ¬ o.kind = 9 := by omega
    have ea : s.act r o = (((s.setElem (u32 o.a) o.b).1, 0, eps), (s.setElem (u32 o.a) o.b).2) := by unfold MS.act; rw [if_neg k1, if_neg k2, if_neg k3, if_neg k4, if_neg k5, if_neg k6, if_neg k7, if_neg k8, if_neg k9, if_pos k10]
    have fin10 := fin _ _ _ ea
    have htl := hw.tl8
    refine ⟨_, C.O.c2, cond_intro (fun hc => ?_) (fun hc => ?_)⟩
    · have hf : o.b < 0 := by simpa using hc
      have es : s.setElem (u32 o.a) o.b = (36, s) := by unfold MS.setElem; rw [if_pos hf]
      rw [es] at fin10
      exact C.ret fin10
    · have hf : ¬ o.b < 0 := by simpa using hc
      simp only [nilV_some, Nat.zero_add, true_and]
      refine ⟨_, C.m.c3, cond_intro (fun hc => ?_) (fun hc => ?_)⟩
      · have hn : ¬ u32 o.a < s.tl := by simp at hc; omega
        have es : s.setElem (u32 o.a) o.b = (31, s) := by unfold MS.setElem; rw [if_neg hf, if_neg hn]
        rw [es] at fin10
        exact C.ret fin10
      · have hi : u32 o.a < s.tl := by simp at hc; omega
        have es : s.setElem (u32 o.a) o.b = (0, { s with tab := upd s.tab (u32 o.a).toNat o.b }) := by unfold MS.setElem; rw [if_neg hf, if_pos hi]
        rw [es] at fin10
        obtain ⟨k, hk⟩ := Int.eq_ofNat_of_zero_le hA.1
        rw [hk] at hi fin10 ⊢
        simp only [add_mk, Int.toNat_natCast, Nat.mul_one] at fin10 ⊢
        refine ⟨_, D.O.c2, by omega, D.m.canp (6 + k) (by omega), letW_intro (fun w1 hw1 => ?_)⟩
        have hm1 : GAt w1 p q { s with tab := upd s.tab k o.b } := by
          rw [hw1]
          refine D.m.setp (6 + k) _ (by rw [if_neg (by omega)]) (by rw [if_neg (by omega)]) (by rw [if_neg (by omega)]) (by rw [if_neg (by omega)]) (by rw [if_neg (by omega)]) (by omega) (fun j hj => ?_) (fun j hj => by rw [if_neg (by omega)]) rfl
          simp only [upd]
          by_cases hj' : j = k
          · subst hj'; simp
          · rw [if_neg (by omega), if_neg hj']
        exact Owed_L6 (D.next hm1 (by rw [hw1]; exact (Same.refl _ _ _).setCell (.inr (by simp)) _)) fin10
  have k10 : ¬ o.kind = 10 := by simpa using k10
  refine cond_intro (fun k9 => ?_) (fun k9 => ?_)
  · have k9 : o.kind = 9 := by simpa using k9
    have ea : s.act r o = (((s.elem (u32 o.a)).1, (s.elem (u32 o.a)).2, eps), s) := by unfold MS.act; rw [if_neg k1, if_neg k2, if_neg k3, if_neg k4, if_neg k5, if_neg k6, if_neg k7, if_neg k8, if_pos k9]
    have fin9 := fin _ _ _ ea
    have htl := hw.tl8
    obtain ⟨k, hk⟩ := Int.eq_ofNat_of_zero_le hA.1
    rw [hk] at fin9 ⊢
    have L7 : ∀ t : Bool, t = decide (¬ ((k : Int) < s.tl ∧ 0 ≤ s.tab k)) → memlaw_Owed.L7 (some ⟨p, 0, none⟩) k ba t R w23 := by
      intro t ht
      refine memlaw_Owed.step7 _ _ _ _ _ _ ?_
      unfold memlaw_Owed.V7
      simp only [nilV_some, Nat.zero_add, add_mk, Int.toNat_natCast, Nat.mul_one]
      refine cond_intro (fun hc => ?_) (fun hc => ?_)
      · have hn : ¬ ((k : Int) < s.tl ∧ 0 ≤ s.tab k) := by rw [ht] at hc; exact of_decide_eq_true hc
        have es : s.elem k = (43, 0) := by unfold MS.elem; rw [Int.toNat_natCast, if_neg hn]
        rw [es] at fin9
        exact C.ret fin9
      · have hi : (k : Int) < s.tl ∧ 0 ≤ s.tab k := by rw [ht] at hc; exact Decidable.not_not.1 (of_decide_eq_false hc)
        have es : s.elem k = (0, s.tab k) := by unfold MS.elem; rw [Int.toNat_natCast, if_pos hi]
        rw [es] at fin9
        have hi1 := hi.1
        exact ⟨by omega, _, C.m.ct k (by omega), C.ret fin9⟩
    simp only [nilV_some, Nat.zero_add, add_mk, Int.toNat_natCast, Nat.mul_one]
    refine ⟨_, C.m.c3, cond_intro (fun hc => L7 _ ?_) (fun hc => ?_)⟩
    · symm; apply decide_eq_true; simp at hc; omega
    · have hi : k < s.tl := by simp at hc; omega
      refine ⟨by omega, _, C.m.ct k (by omega), L7 _ ?_⟩
      apply decide_eq_decide.2; omega
  have k9 : ¬ o.kind = 9 := by simpa using k9
  have hng := hw.ng4
  refine cond_intro (fun k11 => ?_) (fun k11 => ?_)
  · have k11 : o.kind = 11 := by simpa using k11
    have ea : s.act r o = (((s.global o.a).1, (s.global o.a).2, eps), s) := by unfold MS.act; rw [if_neg k1, if_neg k2, if_neg k3, if_neg k4, if_neg k5, if_neg k6, if_neg k7, if_neg k8, if_neg k9, if_neg k10, if_pos k11]
    have fin11 := fin _ _ _ ea
    have L8 : ∀ t : Bool, t = decide (¬ (0 ≤ o.a ∧ o.a < s.ng)) → memlaw_Owed.L8 (some ⟨p, 0, none⟩) bo ba t R w23.drew := by
      intro t ht
      refine memlaw_Owed.step8 _ _ _ _ _ _ ?_
      unfold memlaw_Owed.V8
      refine cond_intro (fun hc => ?_) (fun hc => ?_)
      · have hn : ¬ (0 ≤ o.a ∧ o.a < s.ng) := by rw [ht] at hc; exact of_decide_eq_true hc
        have es : s.global o.a = (36, 0) := by unfold MS.global; rw [if_neg hn]
        rw [es] at fin11
        exact D.ret fin11
      · have hi : 0 ≤ o.a ∧ o.a < s.ng := by rw [ht] at hc; exact Decidable.not_not.1 (of_decide_eq_false hc)
        have es : s.global o.a = (0, IntKind.wrap .i64 (s.glob o.a.toNat)) := by unfold MS.global; rw [if_pos hi]
        rw [es] at fin11
        simp only [nilV_some, Nat.zero_add, add_mk, Nat.mul_one, true_and]
        exact ⟨_, D.drew.O.c1, by omega, _, D.drew.m.cg o.a.toNat (by omega), D.drew.ret fin11⟩
    simp only [nilV_some, Nat.zero_add, true_and]
    refine ⟨_, D.O.c1, cond_intro (fun hc => L8 _ ?_) (fun hc => ⟨_, D.O.c1, _, D.m.c4, L8 _ ?_⟩)⟩
    · symm; apply decide_eq_true; simp at hc; omega
    · apply decide_eq_decide.2; simp at hc; omega
  have k11 : ¬ o.kind = 11 := by simpa using k11
  refine cond_intro (fun k13 => ?_) (fun k13 => ?_)
  · have k13 : o.kind = 13 := by simpa using k13
    have ea : s.act r o = (((s.setGlobal o.a (word o.s 0)).1, 0, eps), (s.setGlobal o.a (word o.s 0)).2) := by unfold MS.act; rw [if_neg k1, if_neg k2, if_neg k3, if_neg k4, if_neg k5, if_neg k6, if_neg k7, if_neg k8, if_neg k9, if_neg k10, if_neg k11, if_pos k13]
    have fin13 := fin _ _ _ ea
    have L9 : ∀ t : Bool, t = decide (¬ (0 ≤ o.a ∧ o.a < s.ng)) → memlaw_Owed.L9 (some ⟨p, 0, none⟩) bo ba (word o.s 0) t R w23.drew := by
      intro t ht
      refine memlaw_Owed.step9 _ _ _ _ _ _ _ ?_
      unfold memlaw_Owed.V9
      refine cond_intro (fun hc => ?_) (fun hc => ?_)
      · have hn : ¬ (0 ≤ o.a ∧ o.a < s.ng) := by rw [ht] at hc; exact of_decide_eq_true hc
        have es : s.setGlobal o.a (word o.s 0) = (36, s) := by unfold MS.setGlobal; rw [if_neg hn]
        rw [es] at fin13
        exact D.ret fin13
      · have hi : 0 ≤ o.a ∧ o.a < s.ng := by rw [ht] at hc; exact Decidable.not_not.1 (of_decide_eq_false hc)
        have es : s.setGlobal o.a (word o.s 0) = (0, { s with glob := upd s.glob o.a.toNat (word o.s 0) }) := by unfold MS.setGlobal; rw [if_pos hi]
        rw [es] at fin13
        have E := D.drew
        simp only [nilV_some, Nat.zero_add, add_mk, Nat.mul_one, true_and]
        refine ⟨_, E.O.c1, by omega, E.m.canp (14 + o.a.toNat) (by omega), letW_intro (fun w1 hw1 => ?_)⟩
        have hm1 : GAt w1 p q { s with glob := upd s.glob o.a.toNat (word o.s 0) } := by
          rw [hw1]
          refine E.m.setp (14 + o.a.toNat) _ (by rw [if_neg (by omega)]) (by rw [if_neg (by omega)]) (by rw [if_neg (by omega)]) (by rw [if_neg (by omega)]) (by rw [if_neg (by omega)]) (by omega) (fun j hj => by rw [if_neg (by omega)]) (fun j hj => ?_) rfl
          simp only [upd]
          by_cases hj' : j = o.a.toNat
          · subst hj'; simp
          · rw [if_neg (by omega), if_neg hj']
        exact Owed_L6 (E.next hm1 (by rw [hw1]; exact (Same.refl _ _ _).setCell (.inr (by simp)) _)) fin13
    simp only [nilV_some, Nat.zero_add, true_and]
    refine ⟨_, D.O.c1, cond_intro (fun hc => L9 _ ?_) (fun hc => ⟨_, D.O.c1, _, D.m.c4, L9 _ ?_⟩)⟩
    · symm; apply decide_eq_true; simp at hc; omega
    · apply decide_eq_decide.2; simp at hc; omega
  have k13 : ¬ o.kind = 13 := by simpa using k13
  refine cond_intro (fun k15 => ?_) (fun k15 => ?_)
  · have k15 : o.kind = 15 := by simpa using k15
    have k14 : ¬ o.kind = 14 := by omega
    exact C.ret (fin _ _ _ (by unfold MS.act; rw [if_neg k1, if_neg k2, if_neg k3, if_neg k4, if_neg k5, if_neg k6, if_neg k7, if_neg k8, if_neg k9, if_neg k10, if_neg k11, if_neg k13, if_neg k14, if_pos k15]))
  have k15 : ¬ o.kind = 15 := by simpa using k15
  by_cases k14 : o.kind = 14
  · exact Owed_L6 C (fin14 k14)
  · exact Owed_L6 C (fin _ _ _ (by unfold MS.act; rw [if_neg k1, if_neg k2, if_neg k3, if_neg k4, if_neg k5, if_neg k6, if_neg k7, if_neg k8, if_neg k9, if_neg k10, if_neg k11, if_neg k13, if_neg k14, if_neg k15]))

end Go.Proofs.Qxb6500319a
