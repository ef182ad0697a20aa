/-
  Package memlaw, second part: Do and Owed compute one and the same step.
-/
import Derived.Test.Qxb6500319aMemE
set_option linter.unusedSimpArgs false
set_option linter.unusedVariables false
set_option maxRecDepth 100000
namespace Go.Proofs.Qxb6500319a
open Go Go.Vc

def u32 (x : Int) : Int := x % 4294967296
theorem u32_bd (x : Int) : 0 ≤ u32 x ∧ u32 x < 4294967296 := by unfold u32; omega
theorem wrap_u32' (x : Int) : IntKind.wrap .u32 x = u32 x := wrap_u32_mod x

def MS.elem (s : MS) (i : Int) : Int × Int := if i < s.tl ∧ 0 ≤ s.tab i.toNat then (0, s.tab i.toNat) else (43, 0)
def MS.global (s : MS) (i : Int) : Int × Int := if 0 ≤ i ∧ i < s.ng then (0, IntKind.wrap .i64 (s.glob i.toNat)) else (36, 0)
def eps : ByteArray := ⟨#[]⟩

/-- One step: the Errno, the number, the text; the store behind it. -/
def MS.act (s : MS) (r : Int) (o : OpV) : (Int × Int × ByteArray) × MS :=
  if o.kind = 1 then (((s.reset o.a o.b o.c r).1, 0, eps), (s.reset o.a o.b o.c r).2)
  else if o.kind = 2 then ((0, ((s.n / 64 : Nat) : Int), eps), s)
  else if o.kind = 3 then ((0, (s.grow (u32 o.a)).1, eps), (s.grow (u32 o.a)).2)
  else if o.kind = 4 then (((s.load o.a (u32 o.b + u32 o.c)).1, (s.load o.a (u32 o.b + u32 o.c)).2, eps), s)
  else if o.kind = 5 then (((s.save o.a (u32 o.b + u32 o.c) (word o.s 0)).1, 0, eps), (s.save o.a (u32 o.b + u32 o.c) (word o.s 0)).2)
  else if o.kind = 6 then ((0, if 0 ≤ o.b ∧ u32 o.a + o.b ≤ s.n then 1 else 0, eps), s)
  else if o.kind = 7 then (((s.write (u32 o.a) o.s).1, 0, eps), (s.write (u32 o.a) o.s).2)
  else if o.kind = 8 then ((0, s.tl, eps), s)
  else if o.kind = 9 then (((s.elem (u32 o.a)).1, (s.elem (u32 o.a)).2, eps), s)
  else if o.kind = 10 then (((s.setElem (u32 o.a) o.b).1, 0, eps), (s.setElem (u32 o.a) o.b).2)
  else if o.kind = 11 then (((s.global o.a).1, (s.global o.a).2, eps), s)
  else if o.kind = 13 then (((s.setGlobal o.a (word o.s 0)).1, 0, eps), (s.setGlobal o.a (word o.s 0)).2)
  else if o.kind = 14 then ((0, 0, s.show), s)
  else if o.kind = 15 then ((0, 1, eps), s)
  else ((0, 0, eps), s)

theorem word_bd (s : ByteArray) : 0 ≤ word s 0 ∧ word s 0 < 18446744073709551616 := by
  have key : ∀ (f at_ : Nat) (v : Int), 0 ≤ v → v < 18446744073709551616 → 0 ≤ wordFrom s at_ f v ∧ wordFrom s at_ f v < 18446744073709551616 := by
    intro f
    induction f with
    | zero => intro at_ v h0 h1; exact ⟨h0, h1⟩
    | succ f ih =>
      intro at_ v h0 h1
      rw [wordFrom]
      have hb := byteAt_bd s (at_ + f)
      have e := bOr_u64_any v (byteAt s (at_ + f)) h0 hb.1 hb.2
      rw [wrap_u64 (x := byteAt s (at_ + f)) (by omega) (by omega)] at e
      rw [e]
      exact ih at_ _ (by omega) (by omega)
  unfold word
  split
  · exact key 8 _ 0 (by omega) (by omega)
  · omega

theorem wrap_i64_idem (x : Int) : IntKind.wrap .i64 (IntKind.wrap .i64 x) = IntKind.wrap .i64 x := by
  have hb : -9223372036854775808 ≤ IntKind.wrap .i64 x ∧ IntKind.wrap .i64 x ≤ 9223372036854775807 := by
    have : IntKind.wrap .i64 x = (let m := x % 18446744073709551616; if (m : Int) ≥ 9223372036854775808 then m - 18446744073709551616 else m) := by
      simp [IntKind.wrap, IntKind.bits, IntKind.signed]
    rw [this]; simp only; split <;> omega
  exact wrap_i64 hb.1 hb.2

/-! ### Do -/
/-- Where Do stands: the store, the step's copy, the two answers. -/
structure DoCtx (w0 w : World) (p q bo bt ba : Nat) (s : MS) (o : OpV) (e n : Int) (t : ByteArray) : Prop where
  m : MSAt w p q s
  O : OpAt w bo o
  A : AnsAt w ba e n t
  T : AnsAt w bt 0 0 eps
  S : Same [p, q] w0.heap.size w0 w
  po : p < w0.heap.size
  qo : q < w0.heap.size
  lo : w0.heap.size ≤ bo
  lt : w0.heap.size ≤ bt
  la : w0.heap.size ≤ ba
  tne : bt ≠ ba
  one : bo ≠ ba

theorem DoCtx.next {w0 w w1 : World} {p q bo bt ba : Nat} {s s' : MS} {o : OpV} {e n : Int} {t : ByteArray} (h : DoCtx w0 w p q bo bt ba s o e n t) (hm : MSAt w1 p q s') (hS : Same [p, q] w.heap.size w w1) : DoCtx w0 w1 p q bo bt ba s' o e n t := by
  have h1 := h.po; have h2 := h.qo; have h3 := h.lo; have h4 := h.lt; have h5 := h.la
  exact ⟨hm, h.O.same hS h.O.lt (by simp; omega), h.A.same hS h.A.lt (by simp; omega), h.T.same hS h.T.lt (by simp; omega), h.S.trans (hS.mono h.S.size (by simp)), h1, h2, h3, h4, h5, h.tne, h.one⟩

theorem DoCtx.seta {w0 w : World} {p q bo bt ba : Nat} {s : MS} {o : OpV} {e n : Int} {t : ByteArray} (h : DoCtx w0 w p q bo bt ba s o e n t) {j : Nat} {v : Value} {e' n' : Int} {t' : ByteArray} (ha : AnsAt (w.setCell ⟨ba, j, none⟩ v) ba e' n' t') :
    DoCtx w0 (w.setCell ⟨ba, j, none⟩ v) p q bo bt ba s o e' n' t' := by
  have h1 := h.po; have h2 := h.qo; have h3 := h.lo; have h4 := h.lt; have h5 := h.la
  have h6 := h.tne; have h7 := h.one
  have hS : Same [ba] w.heap.size w (w.setCell ⟨ba, j, none⟩ v) := (Same.refl _ _ _).setCell (.inr (by simp)) _
  exact ⟨h.m.same hS h.m.plt h.m.qlt (by simp; omega) (by simp; omega), h.O.same hS h.O.lt (by simp; omega), ha, h.T.same hS h.T.lt (by simp; omega), h.S.setCell (.inl h5) _, h1, h2, h3, h4, h5, h6, h7⟩

theorem Do_end {w0 w : World} {p q bo bt ba : Nat} {s : MS} {o : OpV} {e n : Int} {t : ByteArray} (h : DoCtx w0 w p q bo bt ba s o e n t) (W : Int) (R : Value → World → Prop)
    (hR : ∀ w', MSAt w' p q s → Same [p, q] w0.heap.size w0 w' → R (ansV e (IntKind.wrap .i64 (n + IntKind.wrap .i64 W)) t) w') : memlaw_Do.L2 bt ba W R w := by
  refine memlaw_Do.step2 _ _ _ _ _ ?_
  unfold memlaw_Do.V2
  refine ⟨_, h.A.c1, h.A.can 1 (by omega), letW_intro (fun w2 hw2 => ?_)⟩
  have hx : DoCtx w0 w2 p q bo bt ba s o e (IntKind.wrap .i64 (n + IntKind.wrap .i64 W)) t := by rw [hw2]; exact h.seta (h.A.setn _)
  refine ⟨_, _, _, _, hx.A.c0, hx.A.c1, hx.A.c2, hx.A.c3, hx.T.ret (fun w' hs => hR w' ?_ ?_)⟩
  · have h1 := h.po; have h2 := h.qo; have h3 := h.lt
    exact hx.m.same (hs w2.heap.size) hx.m.plt hx.m.qlt (by simp; omega) (by simp; omega)
  · have h3 := h.lt
    exact hx.S.trans ((hs w0.heap.size).mono (Nat.le_refl _) (by intro k hk hlt; simp at hk; omega))

theorem Do_end1 {w0 w : World} {p q bo bt ba : Nat} {s : MS} {o : OpV} {e n : Int} {t : ByteArray} (h : DoCtx w0 w p q bo bt ba s o e n t) (W : Int) (y : Bool) (N : Int) (hN : N = IntKind.wrap .i64 (n + IntKind.wrap .i64 (if y then 1 else W))) (R : Value → World → Prop)
    (hR : ∀ w', MSAt w' p q s → Same [p, q] w0.heap.size w0 w' → R (ansV e N t) w') : memlaw_Do.L1 bt ba W y R w := by
  refine memlaw_Do.step1 _ _ _ _ _ _ ?_
  unfold memlaw_Do.V1
  subst hN
  refine cond_intro (fun hc => Do_end h 1 R ?_) (fun hc => Do_end h W R ?_)
  · simpa [hc] using hR
  · simpa [hc] using hR

theorem wrap_small (n : Int) (h0 : -9223372036854775808 ≤ n) (h1 : n ≤ 9223372036854775807) : n = IntKind.wrap .i64 (n + IntKind.wrap .i64 0) := by
  rw [wrap_i64 (x := 0) (by omega) (by omega), Int.add_zero, wrap_i64 h0 h1]
theorem wrap_zero (x : Int) : IntKind.wrap .i64 x = IntKind.wrap .i64 (0 + IntKind.wrap .i64 x) := by
  rw [Int.zero_add, wrap_i64_idem]

theorem grow_bd (s : MS) (hw : s.Wf) (d : Int) : 0 ≤ (s.grow d).1 ∧ (s.grow d).1 < 4294967296 := by
  have := hw.ncap; have := hw.cap384
  unfold MS.grow
  split
  · show 0 ≤ ((s.n / 64 : Nat) : Int) ∧ ((s.n / 64 : Nat) : Int) < 4294967296
    omega
  · exact ⟨by show (0:Int) ≤ 4294967295; omega, by show (4294967295:Int) < 4294967296; omega⟩

theorem Do_spec (w : World) (p q : Nat) (s : MS) (h : MSAt w p q s) (hw : s.Wf) (r : Int) (o : OpV) (ho : o.In) :
    Runs Try.prog memlaw_Do.id #[.pointer (some ⟨p, 0, none⟩), .int .i64 r, o.val] w fun v w' =>
      v = ansV (s.act r o).1.1 (s.act r o).1.2.1 (s.act r o).1.2.2 ∧ MSAt w' p q (s.act r o).2 ∧ Same [p, q] w.heap.size w w' := by
  have := hw.ncap; have := hw.cap384
  refine memlaw_Do.enter _ _ _ _ _ _ _ _ _ _ ?_
  generalize hRd : (fun (v : Value) (w' : World) => v = ansV (s.act r o).1.1 (s.act r o).1.2.1 (s.act r o).1.2.2 ∧ MSAt w' p q (s.act r o).2 ∧ Same [p, q] w.heap.size w w') = R
  unfold memlaw_Do.V
  refine letB_intro (fun bo hbo => letW_intro (fun w10 hw10 => letB_intro (fun bt hbt => letW_intro (fun w12 hw12 => letB_intro (fun ba hba => letW_intro (fun w14 hw14 => ?_))))))
  have hz10 : w10.heap.size = w.heap.size + 1 := by rw [hw10]; simp
  have hz12 : w12.heap.size = w.heap.size + 2 := by rw [hw12]; simp [hz10]
  have hS10 : Same [] w.heap.size w w10 := by rw [hw10]; exact (Same.refl _ _ _).alloc (Nat.le_refl _) _
  have hS12 : Same [] w10.heap.size w10 w12 := by rw [hw12]; exact (Same.refl _ _ _).alloc (Nat.le_refl _) _
  have hS14 : Same [] w12.heap.size w12 w14 := by rw [hw14]; exact (Same.refl _ _ _).alloc (Nat.le_refl _) _
  have hO10 : OpAt w10 bo o := by rw [hbo, hw10]; exact OpAt.new w o _
  have hT12 : AnsAt w12 bt 0 0 eps := by rw [hbt, hw12]; exact AnsAt.new w10 _
  have hA14 : AnsAt w14 ba 0 0 eps := by rw [hba, hw14]; exact AnsAt.new w12 _
  refine hA14.put_intro (fun w15 hA15 hs15 => ?_)
  have hS15 : Same [] w12.heap.size w12 w15 := hS14.trans ((hs15 _).mono (Nat.le_refl _) (by intro k hk hlt; simp at hk; omega))
  have hp := h.plt; have hq := h.qlt
  have C : DoCtx w w15 p q bo bt ba s o 0 0 eps :=
    ⟨((h.keep hS10).keep hS12).keep hS15, (hO10.same hS12 (by omega) (by simp)).same hS15 (by omega) (by simp), hA15, hT12.same hS15 (by omega) (by simp),
      ((hS10.trans (hS12.mono (by omega) (by simp))).trans (hS15.mono (by omega) (by simp))).mono (Nat.le_refl _) (by simp), hp, hq, by omega, by omega, by omega, by omega, by omega⟩
  clear hw10 hw12 hw14 hS10 hS12 hS14 hO10 hT12 hA14 hA15 hS15 hs15
  refine ⟨_, C.O.c4, ?_⟩
  refine (Word_spec o.s 0 w15 ho.s (by omega)).mono ?_
  rintro r17 w18 ⟨rfl, rfl⟩
  have hwd := word_bd o.s
  have hA := u32_bd o.a; have hB := u32_bd o.b; have hC := u32_bd o.c
  simp only [wrap_u32']
  refine ⟨_, rfl, _, C.O.c0, ?_⟩
  have fin : ∀ (e n : Int) (t : ByteArray) (s' : MS), s.act r o = ((e, n, t), s') → ∀ w', MSAt w' p q s' → Same [p, q] w.heap.size w w' → R (ansV e n t) w' := fun e n t s' he w' h1 h2 => by
    subst hRd
    rw [he]; exact ⟨rfl, h1, h2⟩
  refine cond_intro (fun k1 => ?_) (fun k1 => ?_)
  · have k1 : o.kind = 1 := by simpa using k1
    refine ⟨_, C.O.c1, _, C.O.c2, _, C.O.c3, ?_⟩
    refine (Reset_spec w18 p q s C.m o.a o.b o.c r ho.b).mono ?_
    rintro v w1 ⟨rfl, hm1, hS1⟩
    have C1 := C.next hm1 hS1
    refine ⟨_, rfl, C1.A.can 0 (by omega), letW_intro (fun w2 hw2 => ?_)⟩
    subst hw2
    exact Do_end1 (C1.seta (C1.A.sete _)) 0 false 0 (by decide) R (fin _ _ _ _ (by simp only [MS.act, k1, if_true]))
  have k1 : ¬ o.kind = 1 := by simpa using k1
  refine cond_intro (fun k2 => ?_) (fun k2 => ?_)
  · have k2 : o.kind = 2 := by simpa using k2
    refine (Pages_spec w18 p q s C.m hw).mono ?_
    rintro v w1 ⟨rfl, rfl⟩
    refine ⟨_, rfl, C.A.can 1 (by omega), letW_intro (fun w2 hw2 => ?_)⟩
    subst hw2
    exact Do_end1 (C.seta (C.A.setn _)) 0 false _ (wrap_small _ (by omega) (by omega)) R (fin _ _ _ _ (by unfold MS.act; rw [if_neg k1, if_pos k2]))
  have k2 : ¬ o.kind = 2 := by simpa using k2
  refine cond_intro (fun k3 => ?_) (fun k3 => ?_)
  · have k3 : o.kind = 3 := by simpa using k3
    refine ⟨_, C.O.c1, ?_⟩
    refine (Grow_spec w18 p q s C.m hw (u32 o.a) hA.1 hA.2).mono ?_
    rintro v w1 ⟨rfl, hm1, hS1⟩
    have hg := grow_bd s hw (u32 o.a)
    refine ⟨_, rfl, Do_end1 (C.next hm1 hS1) _ false (s.grow (u32 o.a)).1 ?_ R (fin _ _ _ _ (by unfold MS.act; rw [if_neg k1, if_neg k2, if_pos k3]))⟩
    simp only [Bool.false_eq_true, if_false]
    rw [wrap_u64 (by omega) (by omega), Int.zero_add, wrap_i64_idem, wrap_i64 (by omega) (by omega)]
  have k3 : ¬ o.kind = 3 := by simpa using k3
  refine cond_intro (fun k4 => ?_) (fun k4 => ?_)
  · have k4 : o.kind = 4 := by simpa using k4
    refine ⟨_, C.O.c1, _, C.O.c2, _, C.O.c3, ?_⟩
    refine (Load_spec w18 p q s C.m hw o.a (u32 o.b) (u32 o.c) hB.1 hB.2 hC.1 hC.2).mono ?_
    rintro v w1 ⟨rfl, hS1⟩
    have C1 := C.next (C.m.keep hS1) (hS1.mono (Nat.le_refl _) (by simp))
    have key : ∀ (x y : Int), (if 40 ≤ o.a ∧ o.a ≤ 53 then (if u32 o.b + u32 o.c + (memSig o.a).1 ≤ s.n then Value.tuple #[.int .u64 (loadVal s.back o.a (u32 o.b + u32 o.c).toNat), .int .i64 0] else .tuple #[.int .u64 0, .int .i64 42]) else .tuple #[.int .u64 0, .int .i64 35]) = .tuple #[.int .u64 x, .int .i64 y] →
        s.load o.a (u32 o.b + u32 o.c) = (y, IntKind.wrap .i64 x) := by
      intro x y hxy
      unfold MS.load
      split at hxy
      · rename_i hop; rw [if_pos hop]
        split at hxy
        · rename_i hi; rw [if_pos hi]; simp at hxy; obtain ⟨rfl, rfl⟩ := hxy; rfl
        · rename_i hi; rw [if_neg hi]; simp at hxy; obtain ⟨rfl, rfl⟩ := hxy; rfl
      · rename_i hop; rw [if_neg hop]; simp at hxy; obtain ⟨rfl, rfl⟩ := hxy; rfl
    have key2 : ∃ x y : Int, (if 40 ≤ o.a ∧ o.a ≤ 53 then (if u32 o.b + u32 o.c + (memSig o.a).1 ≤ s.n then Value.tuple #[.int .u64 (loadVal s.back o.a (u32 o.b + u32 o.c).toNat), .int .i64 0] else .tuple #[.int .u64 0, .int .i64 42]) else .tuple #[.int .u64 0, .int .i64 35]) = .tuple #[.int .u64 x, .int .i64 y] := by
      split
      · split
        · exact ⟨_, _, rfl⟩
        · exact ⟨_, _, rfl⟩
      · exact ⟨_, _, rfl⟩
    obtain ⟨x, y, hxy⟩ := key2
    have hl := key x y hxy
    refine ⟨x, y, hxy, C1.A.can 0 (by omega), letW_intro (fun w2 hw2 => ?_)⟩
    subst hw2
    exact Do_end1 (C1.seta (C1.A.sete _)) x false _ (wrap_zero x) R (fin _ _ _ _ (by unfold MS.act; rw [if_neg k1, if_neg k2, if_neg k3, if_pos k4, hl]))
  have k4 : ¬ o.kind = 4 := by simpa using k4
  refine cond_intro (fun k5 => ?_) (fun k5 => ?_)
  · have k5 : o.kind = 5 := by simpa using k5
    refine ⟨_, C.O.c1, _, C.O.c2, _, C.O.c3, ?_⟩
    refine (Save_spec w18 p q s C.m hw o.a (u32 o.b) (u32 o.c) _ hB.1 hB.2 hC.1 hC.2 hwd.1 hwd.2).mono ?_
    rintro v w1 ⟨rfl, hm1, hS1⟩
    have C1 := C.next hm1 hS1
    refine ⟨_, rfl, C1.A.can 0 (by omega), letW_intro (fun w2 hw2 => ?_)⟩
    subst hw2
    exact Do_end1 (C1.seta (C1.A.sete _)) 0 false 0 (by decide) R (fin _ _ _ _ (by unfold MS.act; rw [if_neg k1, if_neg k2, if_neg k3, if_neg k4, if_pos k5]))
  have k5 : ¬ o.kind = 5 := by simpa using k5
  refine cond_intro (fun k6 => ?_) (fun k6 => ?_)
  · have k6 : o.kind = 6 := by simpa using k6
    refine ⟨_, C.O.c1, _, C.O.c2, ?_⟩
    refine (Fits_spec w18 p q s C.m hw (u32 o.a) o.b hA.1 hA.2 ho.b).mono ?_
    rintro v w1 ⟨rfl, rfl⟩
    refine ⟨_, rfl, Do_end1 C 0 _ (if 0 ≤ o.b ∧ u32 o.a + o.b ≤ s.n then 1 else 0) ?_ R (fin _ _ _ _ (by unfold MS.act; rw [if_neg k1, if_neg k2, if_neg k3, if_neg k4, if_neg k5, if_pos k6]))⟩
    by_cases hc : 0 ≤ o.b ∧ u32 o.a + o.b ≤ s.n
    · simp only [hc, and_self, decide_true, if_true]; decide
    · rw [if_neg hc, decide_eq_false hc]; decide
  have k6 : ¬ o.kind = 6 := by simpa using k6
  refine cond_intro (fun k7 => ?_) (fun k7 => ?_)
  · have k7 : o.kind = 7 := by simpa using k7
    refine ⟨_, C.O.c1, _, C.O.c4, ?_⟩
    refine (Write_spec w18 p q s C.m hw (u32 o.a) o.s hA.1 hA.2).mono ?_
    rintro v w1 ⟨rfl, hm1, hS1⟩
    have C1 := C.next hm1 hS1
    refine ⟨_, rfl, C1.A.can 0 (by omega), letW_intro (fun w2 hw2 => ?_)⟩
    subst hw2
    exact Do_end1 (C1.seta (C1.A.sete _)) 0 false 0 (by decide) R (fin _ _ _ _ (by unfold MS.act; rw [if_neg k1, if_neg k2, if_neg k3, if_neg k4, if_neg k5, if_neg k6, if_pos k7]))
  have k7 : ¬ o.kind = 7 := by simpa using k7
  refine cond_intro (fun k8 => ?_) (fun k8 => ?_)
  · have k8 : o.kind = 8 := by simpa using k8
    refine (TabLen_spec w18 p q s C.m).mono ?_
    rintro v w1 ⟨rfl, rfl⟩
    have := hw.tl8
    refine ⟨_, rfl, C.A.can 1 (by omega), letW_intro (fun w2 hw2 => ?_)⟩
    subst hw2
    exact Do_end1 (C.seta (C.A.setn _)) 0 false _ (wrap_small _ (by omega) (by omega)) R (fin _ _ _ _ (by unfold MS.act; rw [if_neg k1, if_neg k2, if_neg k3, if_neg k4, if_neg k5, if_neg k6, if_neg k7, if_pos k8]))
  have k8 : ¬ o.kind = 8 := by simpa using k8
  refine cond_intro (fun k9 => ?_) (fun k9 => ?_)
  · have k9 : o.kind = 9 := by simpa using k9
    refine ⟨_, C.O.c1, ?_⟩
    refine (Elem_spec w18 p q s C.m hw (u32 o.a) hA.1 hA.2).mono ?_
    rintro v w1 ⟨rfl, rfl⟩
    have key : (if u32 o.a < s.tl ∧ 0 ≤ s.tab (u32 o.a).toNat then Value.tuple #[.int .i64 (s.tab (u32 o.a).toNat), .int .i64 0] else .tuple #[.int .i64 0, .int .i64 43]) = .tuple #[.int .i64 (s.elem (u32 o.a)).2, .int .i64 (s.elem (u32 o.a)).1] := by
      unfold MS.elem; split <;> rfl
    have hbd : -9223372036854775808 ≤ (s.elem (u32 o.a)).2 ∧ (s.elem (u32 o.a)).2 ≤ 9223372036854775807 := by
      have := hw.tab (u32 o.a).toNat
      unfold MS.elem; split
      · exact ⟨by show _ ≤ s.tab _; omega, by show s.tab _ ≤ _; omega⟩
      · exact ⟨by decide, by decide⟩
    refine ⟨_, _, key, C.A.can 1 (by omega), letW_intro (fun w2 hw2 => ?_)⟩
    have C2 : DoCtx w w2 p q bo bt ba s o 0 (s.elem (u32 o.a)).2 eps := by subst hw2; exact C.seta (C.A.setn _)
    refine ⟨C2.A.can 0 (by omega), letW_intro (fun w3 hw3 => ?_)⟩
    subst hw3
    exact Do_end1 (C2.seta (C2.A.sete _)) 0 false _ (wrap_small _ hbd.1 hbd.2) R (fin _ _ _ _ (by unfold MS.act; rw [if_neg k1, if_neg k2, if_neg k3, if_neg k4, if_neg k5, if_neg k6, if_neg k7, if_neg k8, if_pos k9]))
  have k9 : ¬ o.kind = 9 := by simpa using k9
  refine cond_intro (fun k10 => ?_) (fun k10 => ?_)
  · have k10 : o.kind = 10 := by simpa using k10
    refine ⟨_, C.O.c1, _, C.O.c2, ?_⟩
    refine (SetElem_spec w18 p q s C.m hw (u32 o.a) o.b hA.1 hA.2).mono ?_
    rintro v w1 ⟨rfl, hm1, hS1⟩
    have C1 := C.next hm1 hS1
    refine ⟨_, rfl, C1.A.can 0 (by omega), letW_intro (fun w2 hw2 => ?_)⟩
    subst hw2
    exact Do_end1 (C1.seta (C1.A.sete _)) 0 false 0 (by decide) R (fin _ _ _ _ (by unfold MS.act; rw [if_neg k1, if_neg k2, if_neg k3, if_neg k4, if_neg k5, if_neg k6, if_neg k7, if_neg k8, if_neg k9, if_pos k10]))
  have k10 : ¬ o.kind = 10 := by simpa using k10
  refine cond_intro (fun k11 => ?_) (fun k11 => ?_)
  · have k11 : o.kind = 11 := by simpa using k11
    refine ⟨_, C.O.c1, ?_⟩
    refine (Global_spec w18 p q s C.m hw o.a).mono ?_
    rintro v w1 ⟨rfl, rfl⟩
    have key : ∃ x y : Int, (if 0 ≤ o.a ∧ o.a < s.ng then Value.tuple #[.int .u64 (s.glob o.a.toNat), .int .i64 0] else .tuple #[.int .u64 0, .int .i64 36]) = .tuple #[.int .u64 x, .int .i64 y] ∧ s.global o.a = (y, IntKind.wrap .i64 x) := by
      unfold MS.global
      split
      · exact ⟨_, _, rfl, rfl⟩
      · exact ⟨0, 36, rfl, rfl⟩
    obtain ⟨x, y, hxy, hl⟩ := key
    refine ⟨x, y, hxy, C.A.can 0 (by omega), letW_intro (fun w2 hw2 => ?_)⟩
    subst hw2
    exact Do_end1 (C.seta (C.A.sete _)) x false _ (wrap_zero x) R (fin _ _ _ _ (by unfold MS.act; rw [if_neg k1, if_neg k2, if_neg k3, if_neg k4, if_neg k5, if_neg k6, if_neg k7, if_neg k8, if_neg k9, if_neg k10, if_pos k11, hl]))
  have k11 : ¬ o.kind = 11 := by simpa using k11
  refine cond_intro (fun k13 => ?_) (fun k13 => ?_)
  · have k13 : o.kind = 13 := by simpa using k13
    refine ⟨_, C.O.c1, ?_⟩
    refine (SetGlobal_spec w18 p q s C.m hw o.a _).mono ?_
    rintro v w1 ⟨rfl, hm1, hS1⟩
    have C1 := C.next hm1 hS1
    refine ⟨_, rfl, C1.A.can 0 (by omega), letW_intro (fun w2 hw2 => ?_)⟩
    subst hw2
    exact Do_end1 (C1.seta (C1.A.sete _)) 0 false 0 (by decide) R (fin _ _ _ _ (by unfold MS.act; rw [if_neg k1, if_neg k2, if_neg k3, if_neg k4, if_neg k5, if_neg k6, if_neg k7, if_neg k8, if_neg k9, if_neg k10, if_neg k11, if_pos k13]))
  have k13 : ¬ o.kind = 13 := by simpa using k13
  refine cond_intro (fun k14 => ?_) (fun k14 => ?_)
  · have k14 : o.kind = 14 := by simpa using k14
    refine (Show_spec w18 p q s C.m hw).mono ?_
    rintro v w1 ⟨rfl, hS1⟩
    have C1 := C.next (C.m.keep hS1) (hS1.mono (Nat.le_refl _) (by simp))
    refine ⟨_, rfl, C1.A.can 3 (by omega), letW_intro (fun w2 hw2 => ?_)⟩
    subst hw2
    exact Do_end1 (C1.seta (C1.A.sets _)) 0 false 0 (by decide) R (fin _ _ _ _ (by unfold MS.act; rw [if_neg k1, if_neg k2, if_neg k3, if_neg k4, if_neg k5, if_neg k6, if_neg k7, if_neg k8, if_neg k9, if_neg k10, if_neg k11, if_neg k13, if_pos k14]))
  have k14 : ¬ o.kind = 14 := by simpa using k14
  refine cond_intro (fun k15 => ?_) (fun k15 => ?_)
  · have k15 : o.kind = 15 := by simpa using k15
    refine (Check_spec w18 p q s C.m hw).mono ?_
    rintro v w1 ⟨rfl, hS1⟩
    have C1 := C.next (C.m.keep hS1) (hS1.mono (Nat.le_refl _) (by simp))
    exact ⟨_, rfl, Do_end1 C1 0 true 1 (by decide) R (fin _ _ _ _ (by unfold MS.act; rw [if_neg k1, if_neg k2, if_neg k3, if_neg k4, if_neg k5, if_neg k6, if_neg k7, if_neg k8, if_neg k9, if_neg k10, if_neg k11, if_neg k13, if_neg k14, if_pos k15]))⟩
  have k15 : ¬ o.kind = 15 := by simpa using k15
  exact Do_end1 C 0 false 0 (by decide) R (fin _ _ _ _ (by unfold MS.act; rw [if_neg k1, if_neg k2, if_neg k3, if_neg k4, if_neg k5, if_neg k6, if_neg k7, if_neg k8, if_neg k9, if_neg k10, if_neg k11, if_neg k13, if_neg k14, if_neg k15]))

end Go.Proofs.Qxb6500319a
