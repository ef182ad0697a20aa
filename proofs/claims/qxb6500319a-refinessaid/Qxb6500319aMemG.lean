/-
  Package memlaw, third part: Owed.
-/
import Derived.Test.Qxb6500319aMemF
set_option linter.unusedSimpArgs false
set_option linter.unusedVariables false
set_option maxRecDepth 100000
namespace Go.Proofs.Qxb6500319a
open Go Go.Vc

/-- Where Owed stands: the ghost, the step's copy, the answer. -/
structure OwCtx (w0 w : World) (p q bo ba : Nat) (s : MS) (o : OpV) : Prop where
  m : GAt w p q s
  O : OpAt w bo o
  A : AnsAt w ba 0 0 eps
  S : Same [p, q] w0.heap.size w0 w
  po : p < w0.heap.size
  qo : q < w0.heap.size
  lo : w0.heap.size ≤ bo
  la : w0.heap.size ≤ ba
  one : bo ≠ ba

theorem OwCtx.next {w0 w w1 : World} {p q bo ba : Nat} {s s' : MS} {o : OpV} (h : OwCtx w0 w p q bo ba s o) (hm : GAt w1 p q s') (hS : Same [p, q] w.heap.size w w1) : OwCtx w0 w1 p q bo ba s' o := by
  have h1 := h.po; have h2 := h.qo; have h3 := h.lo; have h5 := h.la
  exact ⟨hm, h.O.same hS h.O.lt (by simp; omega), h.A.same hS h.A.lt (by simp; omega), h.S.trans (hS.mono h.S.size (by simp)), h1, h2, h3, h5, h.one⟩

theorem OwCtx.drew {w0 w : World} {p q bo ba : Nat} {s : MS} {o : OpV} (h : OwCtx w0 w p q bo ba s o) : OwCtx w0 w.drew p q bo ba s o := h.next h.m.drew (Same.refl _ _ _).drew

theorem OwCtx.ret {w0 w : World} {p q bo ba : Nat} {s : MS} {o : OpV} (h : OwCtx w0 w p q bo ba s o) {e n : Int} {R : Value → World → Prop} (hR : ∀ w', GAt w' p q s → Same [p, q] w0.heap.size w0 w' → R (ansV e n eps) w') :
    putCells w ⟨ba, 0, none⟩ [.int .i64 e, .int .i64 n, .int .i64 0, .string ⟨#[]⟩] fun w1 => ((∃ x2 : Int, ∃ x3 : Int, ∃ x4 : Int, ∃ x5 : ByteArray, World.cell? w1 ⟨ba, 0, none⟩ = some (.int .i64 x2) ∧ World.cell? w1 ⟨ba, 1, none⟩ = some (.int .i64 x3) ∧ World.cell? w1 ⟨ba, 2, none⟩ = some (.int .i64 x4) ∧ World.cell? w1 ⟨ba, 3, none⟩ = some (.string x5) ∧ R (.agg #[(.int .i64 x2), (.int .i64 x3), (.int .i64 x4), (.string x5)]) w1)) := by
  refine h.A.ret (fun w' hs => hR w' ?_ ?_)
  · have h1 := h.po; have h2 := h.qo; have h3 := h.la
    exact h.m.same (hs w.heap.size) h.m.plt h.m.qlt (by simp; omega) (by simp; omega)
  · have h3 := h.la
    exact h.S.trans ((hs w0.heap.size).mono (Nat.le_refl _) (by intro k hk hlt; simp at hk; omega))

theorem Owed_L6 {w0 w : World} {p q bo ba : Nat} {s : MS} {o : OpV} (h : OwCtx w0 w p q bo ba s o) {R : Value → World → Prop} (hR : ∀ w', GAt w' p q s → Same [p, q] w0.heap.size w0 w' → R (ansV 0 0 eps) w') : memlaw_Owed.L6 ba R w := by
  refine memlaw_Owed.step6 _ _ _ ?_
  unfold memlaw_Owed.V6
  exact h.ret hR

theorem Owed_glob (w0 : World) (p q bo ba : Nat) (o : OpV) (R : Value → World → Prop) (g : Nat) (hg : g ≤ 4) :
    ∀ (f k : Nat) (s : MS) (w : World), k + f = g → s.ng = g → OwCtx w0 w p q bo ba s o →
      (∀ w', GAt w' p q { s with glob := fun j => if k ≤ j ∧ j < g then 0 else s.glob j } → Same [p, q] w0.heap.size w0 w' → R (ansV 0 0 eps) w') → memlaw_Owed.L15 (some ⟨p, 0, none⟩) ba k R w := by
  intro f
  induction f with
  | zero =>
    intro k s w hk hs C hR
    refine memlaw_Owed.step15 _ _ _ _ _ ?_
    unfold memlaw_Owed.V15
    simp only [nilV_some, Nat.zero_add]
    refine ⟨_, C.m.c4, cond_false' (by simp; omega) (Owed_L6 C (fun w' h1 h2 => hR w' ?_ h2))⟩
    have e : (fun j => if k ≤ j ∧ j < g then 0 else s.glob j) = s.glob := by funext j; rw [if_neg (by omega)]
    rw [e]; exact h1
  | succ f ih =>
    intro k s w hk hs C hR
    refine memlaw_Owed.step15 _ _ _ _ _ ?_
    unfold memlaw_Owed.V15
    have e : IntKind.wrap .i64 ((k : Int) + 1) = ((k + 1 : Nat) : Int) := by rw [wrap_i64 (by omega) (by omega)]; omega
    simp only [nilV_some, Nat.zero_add, add_mk, Int.toNat_natCast, Nat.mul_one, e]
    refine ⟨_, C.m.c4, cond_true' (by simp; omega) ⟨by omega, C.m.canp (14 + k) (by omega), letW_intro (fun w1 hw1 => ?_)⟩⟩
    have hm1 : GAt w1 p q { s with glob := upd s.glob k 0 } := by
      rw [hw1]
      refine C.m.setp (14 + k) _ (by rw [if_neg (by omega)]) (by rw [if_neg (by omega)]) (by rw [if_neg (by omega)]) (by rw [if_neg (by omega)]) (by rw [if_neg (by omega)]) (by omega) (fun j hj => by rw [if_neg (by omega)]) (fun j hj => ?_) rfl
      simp only [upd]
      by_cases hj' : j = k
      · subst hj'; simp
      · rw [if_neg (by omega), if_neg hj']
    refine ih (k + 1) { s with glob := upd s.glob k 0 } w1 (by omega) hs (C.next hm1 (by rw [hw1]; exact (Same.refl _ _ _).setCell (.inr (by simp)) _)) (fun w' h1 h2 => hR w' ?_ h2)
    have ef : (fun j => if k + 1 ≤ j ∧ j < g then 0 else upd s.glob k 0 j) = fun j => if k ≤ j ∧ j < g then 0 else s.glob j := by
      funext j
      simp only [upd]
      by_cases h1 : k + 1 ≤ j ∧ j < g
      · rw [if_pos h1, if_pos (by omega)]
      · rw [if_neg h1]
        by_cases h2 : j = k
        · rw [if_pos h2, if_pos (by omega)]
        · rw [if_neg h2, if_neg (by omega)]
    simp only [ef] at h1
    exact h1

theorem Owed_tab (w0 : World) (p q bo ba : Nat) (o : OpV) (R : Value → World → Prop) (g : Nat) (hg : g ≤ 4) (t : Nat) (ht : t ≤ 8) :
    ∀ (f k : Nat) (s : MS) (w : World), k + f = t → s.tl = t → s.ng = g → OwCtx w0 w p q bo ba s o →
      (∀ w', GAt w' p q { s with tab := fun j => if k ≤ j ∧ j < t then -1 else s.tab j, glob := fun j => if j < g then 0 else s.glob j } → Same [p, q] w0.heap.size w0 w' → R (ansV 0 0 eps) w') → memlaw_Owed.L14 (some ⟨p, 0, none⟩) ba k R w := by
  intro f
  induction f with
  | zero =>
    intro k s w hk hs hsg C hR
    refine memlaw_Owed.step14 _ _ _ _ _ ?_
    unfold memlaw_Owed.V14
    simp only [nilV_some, Nat.zero_add]
    refine ⟨_, C.m.c3, cond_false' (by simp; omega) (Owed_glob w0 p q bo ba o R g hg g 0 s w (by omega) hsg C (fun w' h1 h2 => hR w' ?_ h2))⟩
    have e : (fun j => if k ≤ j ∧ j < t then -1 else s.tab j) = s.tab := by funext j; rw [if_neg (by omega)]
    rw [e]; simpa using h1
  | succ f ih =>
    intro k s w hk hs hsg C hR
    refine memlaw_Owed.step14 _ _ _ _ _ ?_
    unfold memlaw_Owed.V14
    have e : IntKind.wrap .i64 ((k : Int) + 1) = ((k + 1 : Nat) : Int) := by rw [wrap_i64 (by omega) (by omega)]; omega
    simp only [nilV_some, Nat.zero_add, add_mk, Int.toNat_natCast, Nat.mul_one, e]
    refine ⟨_, C.m.c3, cond_true' (by simp; omega) ⟨by omega, C.m.canp (6 + k) (by omega), letW_intro (fun w1 hw1 => ?_)⟩⟩
    have hm1 : GAt w1 p q { s with tab := upd s.tab k (-1) } := by
      rw [hw1]
      refine C.m.setp (6 + k) _ (by rw [if_neg (by omega)]) (by rw [if_neg (by omega)]) (by rw [if_neg (by omega)]) (by rw [if_neg (by omega)]) (by rw [if_neg (by omega)]) (by omega) (fun j hj => ?_) (fun j hj => by rw [if_neg (by omega)]) rfl
      simp only [upd]
      by_cases hj' : j = k
      · subst hj'; simp
      · rw [if_neg (by omega), if_neg hj']
    refine ih (k + 1) { s with tab := upd s.tab k (-1) } w1 (by omega) hs hsg (C.next hm1 (by rw [hw1]; exact (Same.refl _ _ _).setCell (.inr (by simp)) _)) (fun w' h1 h2 => hR w' ?_ h2)
    have ef : (fun j => if k + 1 ≤ j ∧ j < t then -1 else upd s.tab k (-1) j) = fun j => if k ≤ j ∧ j < t then -1 else s.tab j := by
      funext j
      simp only [upd]
      by_cases h1 : k + 1 ≤ j ∧ j < t
      · rw [if_pos h1, if_pos (by omega)]
      · rw [if_neg h1]
        by_cases h2 : j = k
        · rw [if_pos h2, if_pos (by omega)]
        · rw [if_neg h2, if_neg (by omega)]
    simp only [ef] at h1
    exact h1

/-- From the cap's line on. -/
theorem Owed_L1 (w0 : World) (p q bo ba : Nat) (o : OpV) (r : Int) (R : Value → World → Prop) (s : MS) (w : World) (C : OwCtx w0 w p q bo ba s o) (hc8 : o.c ≤ 8) (hr0 : 0 ≤ r) (hr4 : r ≤ 4) (htl : s.tl = 0) (hb63 : o.b ≤ 9223372036854775807)
    (hR : ∀ w', GAt w' p q { s with cap := if 0 ≤ o.b ∧ o.b < 6 then (o.b * 64).toNat else s.cap, tab := fun j => if j < o.c.toNat then -1 else s.tab j, tl := o.c.toNat, glob := fun j => if j < r.toNat then 0 else s.glob j, ng := r.toNat } → Same [p, q] w0.heap.size w0 w' → R (ansV 0 0 eps) w') :
    memlaw_Owed.L1 (some ⟨p, 0, none⟩) r bo ba R w := by
  obtain ⟨g, rfl⟩ := Int.eq_ofNat_of_zero_le hr0
  rw [Int.toNat_natCast] at hR
  have L13 : ∀ (s1 : MS) (w1 : World), OwCtx w0 w1 p q bo ba s1 o → s1.tl = o.c.toNat →
      (∀ w', GAt w' p q { s1 with tab := fun j => if j < o.c.toNat then -1 else s1.tab j, glob := fun j => if j < g then 0 else s1.glob j, ng := g } → Same [p, q] w0.heap.size w0 w' → R (ansV 0 0 eps) w') → memlaw_Owed.L13 (some ⟨p, 0, none⟩) g ba R w1 := by
    intro s1 w1 C1 h1 hR1
    refine memlaw_Owed.step13 _ _ _ _ _ ?_
    unfold memlaw_Owed.V13
    simp only [nilV_some, Nat.zero_add]
    refine ⟨C1.m.canp 4 (by omega), letW_intro (fun w2 hw2 => ?_)⟩
    have hm2 : GAt w2 p q { s1 with ng := g } := by
      rw [hw2]
      exact C1.m.setp 4 _ (by rw [if_neg (by omega)]) (by rw [if_neg (by omega)]) (by rw [if_neg (by omega)]) (by rw [if_neg (by omega)]) (by rw [if_pos rfl]) (by omega) (fun j hj => by rw [if_neg (by omega)]) (fun j hj => by rw [if_neg (by omega)]) rfl
    have := Owed_tab w0 p q bo ba o R g (by omega) o.c.toNat (by omega) o.c.toNat 0 { s1 with ng := g } w2 (by omega) h1 rfl (C1.next hm2 (by rw [hw2]; exact (Same.refl _ _ _).setCell (.inr (by simp)) _)) (fun w' h1 h2 => hR1 w' (by simpa using h1) h2)
    exact this
  have L12 : ∀ (s1 : MS) (w1 : World), OwCtx w0 w1 p q bo ba s1 o → s1.tl = 0 →
      (∀ w', GAt w' p q { s1 with tab := fun j => if j < o.c.toNat then -1 else s1.tab j, tl := o.c.toNat, glob := fun j => if j < g then 0 else s1.glob j, ng := g } → Same [p, q] w0.heap.size w0 w' → R (ansV 0 0 eps) w') → memlaw_Owed.L12 (some ⟨p, 0, none⟩) g bo ba R w1 := by
    intro s1 w1 C1 h1 hR1
    refine memlaw_Owed.step12 _ _ _ _ _ _ ?_
    unfold memlaw_Owed.V12
    simp only [nilV_some, Nat.zero_add]
    refine ⟨_, C1.O.c3, cond_intro (fun hc => ?_) (fun hc => ?_)⟩
    · have hc' : 0 < o.c := by simpa using hc
      refine ⟨_, C1.O.c3, C1.m.canp 3 (by omega), letW_intro (fun w2 hw2 => ?_)⟩
      have hm2 : GAt w2 p q { s1 with tl := o.c.toNat } := by
        rw [hw2]
        refine C1.m.setp 3 _ (by rw [if_neg (by omega)]) (by rw [if_neg (by omega)]) (by rw [if_neg (by omega)]) ?_ (by rw [if_neg (by omega)]) (by omega) (fun j hj => by rw [if_neg (by omega)]) (fun j hj => by rw [if_neg (by omega)]) rfl
        rw [if_pos rfl]
        have : o.c = (o.c.toNat : Int) := by omega
        exact congrArg (fun x => some (Value.int .i64 x)) this
      exact L13 { s1 with tl := o.c.toNat } w2 (C1.next hm2 (by rw [hw2]; exact (Same.refl _ _ _).setCell (.inr (by simp)) _)) rfl hR1
    · have hc' : o.c.toNat = 0 := by simp at hc; omega
      refine L13 s1 w1 C1 (by omega) (fun w' h1' h2 => hR1 w' ?_ h2)
      have e : o.c.toNat = s1.tl := by omega
      rw [e] at h1' ⊢
      exact h1'
  have L10 : ∀ t : Bool, t = decide (0 ≤ o.b ∧ o.b < 6) → memlaw_Owed.L10 (some ⟨p, 0, none⟩) g bo ba t R w := by
    intro t ht
    refine memlaw_Owed.step10 _ _ _ _ _ _ _ ?_
    unfold memlaw_Owed.V10
    simp only [nilV_some, Nat.zero_add]
    refine cond_intro (fun hc => ?_) (fun hc => ?_)
    · have hb : 0 ≤ o.b ∧ o.b < 6 := by rw [ht] at hc; simpa using hc
      refine ⟨_, C.O.c2, C.m.canp 2 (by omega), letW_intro (fun w2 hw2 => ?_)⟩
      have hm2 : GAt w2 p q { s with cap := (o.b * 64).toNat } := by
        rw [hw2]
        refine C.m.setp 2 _ (by rw [if_neg (by omega)]) (by rw [if_neg (by omega)]) ?_ (by rw [if_neg (by omega)]) (by rw [if_neg (by omega)]) (by omega) (fun j hj => by rw [if_neg (by omega)]) (fun j hj => by rw [if_neg (by omega)]) rfl
        rw [if_pos rfl]
        have : IntKind.wrap .i64 (o.b * 64) = ((o.b * 64).toNat : Int) := by rw [wrap_i64 (by omega) (by omega)]; omega
        exact congrArg (fun x => some (Value.int .i64 x)) this
      rw [if_pos hb] at hR
      exact L12 { s with cap := (o.b * 64).toNat } w2 (C.next hm2 (by rw [hw2]; exact (Same.refl _ _ _).setCell (.inr (by simp)) _)) htl hR
    · have hb : ¬ (0 ≤ o.b ∧ o.b < 6) := by rw [ht] at hc; simpa using hc
      rw [if_neg hb] at hR
      exact L12 s w C htl hR
  refine memlaw_Owed.step1 _ _ _ _ _ _ ?_
  unfold memlaw_Owed.V1
  refine ⟨_, C.O.c2, cond_intro (fun hc => ⟨_, C.O.c2, L10 _ ?_⟩) (fun hc => L10 _ ?_)⟩
  · have : 0 ≤ o.b := by simpa using hc
    simp [this]
  · have : ¬ 0 ≤ o.b := by simpa using hc
    simp [this]

theorem Owed_save (w0 : World) (p q bo ba : Nat) (o : OpV) (R : Value → World → Prop) (a W : Nat) (haw : a + W ≤ 384) :
    ∀ (f k : Nat) (s : MS) (v : Int) (w : World), k + f = W → 0 ≤ v → OwCtx w0 w p q bo ba s o →
      (∀ w', GAt w' p q { s with back := putB s.back (a + k) f v } → Same [p, q] w0.heap.size w0 w' → R (ansV 0 0 eps) w') → memlaw_Owed.L11 (some ⟨p, 0, none⟩) a ba W v k R w := by
  intro f
  induction f with
  | zero =>
    intro k s v w hk hv C hR
    refine memlaw_Owed.step11 _ _ _ _ _ _ _ _ ?_
    unfold memlaw_Owed.V11
    exact cond_false' (by simp; omega) (Owed_L6 C hR)
  | succ f ih =>
    intro k s v w hk hv C hR
    refine memlaw_Owed.step11 _ _ _ _ _ _ _ _ ?_
    unfold memlaw_Owed.V11
    have e : IntKind.wrap .i64 ((k : Int) + 1) = ((k + 1 : Nat) : Int) := by rw [wrap_i64 (by omega) (by omega)]; omega
    have e2 : IntKind.wrap .i64 ((a : Int) + k) = ((a + k : Nat) : Int) := by rw [wrap_i64 (by omega) (by omega)]; omega
    refine cond_true' (by simp; omega) ?_
    simp only [nilV_some, Nat.zero_add, e, e2, fdiv8, wrap_u8_mod]
    refine ⟨_, _, _, C.m.c5, by omega, ?_⟩
    simp only [nilV_some, Nat.zero_add, add_mk, Int.toNat_natCast, Nat.mul_one]
    refine ⟨C.m.canq (a + k) (by omega), letW_intro (fun w1 hw1 => ?_)⟩
    exact ih (k + 1) { s with back := upd s.back (a + k) (v % 256) } (v / 256) w1 (by omega) (by omega) (C.next (by rw [hw1]; exact C.m.setq (a + k) (v % 256)) (by rw [hw1]; exact (Same.refl _ _ _).setCell (.inr (by simp)) _)) (fun w' h1 h2 => hR w' (by simpa [putB, Nat.add_assoc] using h1) h2)

theorem Owed_write (w0 : World) (p q bo ba : Nat) (o : OpV) (R : Value → World → Prop) (a : Nat) (haw : a + o.s.size ≤ 384) :
    ∀ (f k : Nat) (s : MS) (w : World), k + f = o.s.size → OwCtx w0 w p q bo ba s o →
      (∀ w', GAt w' p q { s with back := fun j => if a + k ≤ j ∧ j < a + o.s.size then byteAt o.s (j - a) else s.back j } → Same [p, q] w0.heap.size w0 w' → R (ansV 0 0 eps) w') → memlaw_Owed.L5 (some ⟨p, 0, none⟩) a bo ba k R w := by
  intro f
  induction f with
  | zero =>
    intro k s w hk C hR
    refine memlaw_Owed.step5 _ _ _ _ _ _ _ ?_
    unfold memlaw_Owed.V5
    refine ⟨_, C.O.c4, cond_false' (by simp; omega) (Owed_L6 C (fun w' h1 h2 => hR w' ?_ h2))⟩
    have e : (fun j => if a + k ≤ j ∧ j < a + o.s.size then byteAt o.s (j - a) else s.back j) = s.back := by funext j; rw [if_neg (by omega)]
    rw [e]; exact h1
  | succ f ih =>
    intro k s w hk C hR
    refine memlaw_Owed.step5 _ _ _ _ _ _ _ ?_
    unfold memlaw_Owed.V5
    have e : IntKind.wrap .i64 ((k : Int) + 1) = ((k + 1 : Nat) : Int) := by rw [wrap_i64 (by omega) (by omega)]; omega
    have e2 : IntKind.wrap .i64 ((a : Int) + k) = ((a + k : Nat) : Int) := by rw [wrap_i64 (by omega) (by omega)]; omega
    refine ⟨_, C.O.c4, cond_true' (by simp; omega) ?_⟩
    simp only [nilV_some, Nat.zero_add, e, e2, true_and]
    refine ⟨_, _, _, C.drew.m.c5, _, C.drew.O.c4, by omega, by omega, ?_⟩
    simp only [nilV_some, Nat.zero_add, add_mk, Int.toNat_natCast, Nat.mul_one]
    refine ⟨C.drew.m.canq (a + k) (by omega), letW_intro (fun w1 hw1 => ?_)⟩
    refine ih (k + 1) { s with back := upd s.back (a + k) (byteAt o.s k) } w1 (by omega) (C.drew.next (by rw [hw1]; exact C.drew.m.setq (a + k) (byteAt o.s k)) (by rw [hw1]; exact (Same.refl _ _ _).setCell (.inr (by simp)) _)) (fun w' h1 h2 => hR w' ?_ h2)
    have ef : (fun j => if a + (k + 1) ≤ j ∧ j < a + o.s.size then byteAt o.s (j - a) else upd s.back (a + k) (byteAt o.s k) j) = fun j => if a + k ≤ j ∧ j < a + o.s.size then byteAt o.s (j - a) else s.back j := by
      funext j
      simp only [upd]
      by_cases h1 : a + (k + 1) ≤ j ∧ j < a + o.s.size
      · rw [if_pos h1, if_pos (by omega)]
      · rw [if_neg h1]
        by_cases h2 : j = a + k
        · rw [if_pos h2, if_pos (by omega)]
          congr 1; omega
        · rw [if_neg h2, if_neg (by omega)]
    simp only [ef] at h1
    exact h1

end Go.Proofs.Qxb6500319a
