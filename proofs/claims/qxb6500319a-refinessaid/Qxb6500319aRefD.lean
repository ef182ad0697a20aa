/-
  Package memlaw: DoM computes the step on the model; Seen, the walk, Refines, RefinesQuiet.
-/
import Derived.Test.Qxb6500319aRefC
set_option linter.unusedSimpArgs false
set_option linter.unusedVariables false
set_option maxRecDepth 100000
namespace Go.Proofs.Qxb6500319a
open Go Go.Vc

/-! ### DoM -/
/-- Where DoM stands: the model's store, the step's copy, the two answers. -/
structure DmCtx (w0 w : World) (p : Nat) (K0 K : List Nat) (bo bt ba : Nat) (s : MS) (o : OpV) (e n : Int) (t : ByteArray) : Prop where
  m : MM w p K s
  O : OpAt w bo o
  A : AnsAt w ba e n t
  T : AnsAt w bt 0 0 eps
  S : Same (p :: K0) w0.heap.size w0 w
  k : ∀ j, j ∈ K → j ∈ K0 ∨ w0.heap.size ≤ j
  po : p < w0.heap.size
  lo : w0.heap.size ≤ bo
  lt : w0.heap.size ≤ bt
  la : w0.heap.size ≤ ba
  ko : bo ∉ K
  kt : bt ∉ K
  ka : ba ∉ K
  tne : bt ≠ ba
  one : bo ≠ ba

theorem DmCtx.next {w0 w w1 : World} {p : Nat} {K0 K : List Nat} {bo bt ba : Nat} {s s' : MS} {o : OpV} {e n : Int} {t : ByteArray} (h : DmCtx w0 w p K0 K bo bt ba s o e n t) (hm : MMOut w p K s' w1) : ∃ K', DmCtx w0 w1 p K0 K' bo bt ba s' o e n t := by
  obtain ⟨K', hM, hS, hK⟩ := hm
  have h1 := h.po; have h3 := h.lo; have h4 := h.lt; have h5 := h.la
  have l1 := h.O.lt; have l2 := h.A.lt; have l3 := h.T.lt
  have n1 : bo ∉ p :: K := by intro hx; rcases List.mem_cons.1 hx with hx | hx; omega; exact h.ko hx
  have n2 : ba ∉ p :: K := by intro hx; rcases List.mem_cons.1 hx with hx | hx; omega; exact h.ka hx
  have n3 : bt ∉ p :: K := by intro hx; rcases List.mem_cons.1 hx with hx | hx; omega; exact h.kt hx
  refine ⟨K', hM, h.O.same hS l1 n1, h.A.same hS l2 n2, h.T.same hS l3 n3, h.S.trans (hS.mono h.S.size (fun k hk hlt => ?_)), fun j hj => ?_, h1, h3, h4, h5, ?_, ?_, ?_, h.tne, h.one⟩
  · rcases List.mem_cons.1 hk with rfl | hk
    · simp
    · rcases h.k k hk with hx | hx
      · exact List.mem_cons_of_mem _ hx
      · omega
  · rcases hK j hj with hx | hx
    · exact h.k j hx
    · exact .inr (Nat.le_trans h.S.size hx)
  · intro hx; rcases hK bo hx with hy | hy; exact h.ko hy; omega
  · intro hx; rcases hK bt hx with hy | hy; exact h.kt hy; omega
  · intro hx; rcases hK ba hx with hy | hy; exact h.ka hy; omega

theorem MM.same {w w' : World} {p : Nat} {K : List Nat} {s : MS} (h : MM w p K s) {S : List Nat} {B : Nat} (hS : Same S B w w') (hp : p < B) (hpS : p ∉ S) (hK : ∀ k, k ∈ K → k < w.heap.size → k < B ∧ k ∉ S) : MM w' p K s := by
  obtain ⟨m, t, g, h⟩ := h
  exact ⟨m, t, g, h.same hS hp hpS hK⟩
theorem MM.plt {w : World} {p : Nat} {K : List Nat} {s : MS} (h : MM w p K s) : p < w.heap.size := by
  obtain ⟨m, t, g, h⟩ := h; exact h.plt
theorem MM.keep {w w' : World} {p : Nat} {K : List Nat} {s : MS} (h : MM w p K s) (hS : Same [] w.heap.size w w') : MM w' p K s := h.same hS h.plt (by simp) (fun k _ hk => ⟨hk, by simp⟩)

theorem DmCtx.seta {w0 w : World} {p : Nat} {K0 K : List Nat} {bo bt ba : Nat} {s : MS} {o : OpV} {e n : Int} {t : ByteArray} (h : DmCtx w0 w p K0 K bo bt ba s o e n t) {j : Nat} {v : Value} {e' n' : Int} {t' : ByteArray} (ha : AnsAt (w.setCell ⟨ba, j, none⟩ v) ba e' n' t') :
    DmCtx w0 (w.setCell ⟨ba, j, none⟩ v) p K0 K bo bt ba s o e' n' t' := by
  have h1 := h.po; have h3 := h.lo; have h4 := h.lt; have h5 := h.la
  have h6 := h.tne; have h7 := h.one
  have hS : Same [ba] w.heap.size w (w.setCell ⟨ba, j, none⟩ v) := (Same.refl _ _ _).setCell (.inr (by simp)) _
  exact ⟨h.m.same hS h.m.plt (by simp; omega) (fun k hk hlt => ⟨hlt, by simp; intro he; subst he; exact h.ka hk⟩), h.O.same hS h.O.lt (by simp; omega), ha, h.T.same hS h.T.lt (by simp; omega), h.S.setCell (.inl h5) _, h.k, h1, h3, h4, h5, h.ko, h.kt, h.ka, h6, h7⟩

theorem DoM_end {w0 w : World} {p : Nat} {K0 K : List Nat} {bo bt ba : Nat} {s : MS} {o : OpV} {e n : Int} {t : ByteArray} (h : DmCtx w0 w p K0 K bo bt ba s o e n t) (W : Int) (R : Value → World → Prop)
    (hR : ∀ w', MMOut w0 p K0 s w' → R (ansV e (IntKind.wrap .i64 (n + IntKind.wrap .i64 W)) t) w') : memlaw_DoM.L2 bt ba W R w := by
  refine memlaw_DoM.step2 _ _ _ _ _ ?_
  unfold memlaw_DoM.V2
  refine ⟨_, h.A.c1, h.A.can 1 (by omega), letW_intro (fun w2 hw2 => ?_)⟩
  have hx : DmCtx w0 w2 p K0 K bo bt ba s o e (IntKind.wrap .i64 (n + IntKind.wrap .i64 W)) t := by rw [hw2]; exact h.seta (h.A.setn _)
  refine ⟨_, _, _, _, hx.A.c0, hx.A.c1, hx.A.c2, hx.A.c3, hx.T.ret (fun w' hs => hR w' ⟨K, ?_, ?_, h.k⟩)⟩
  · have h1 := h.po; have h3 := h.lt
    exact hx.m.same (hs w2.heap.size) hx.m.plt (by simp; omega) (fun k hk hlt => ⟨hlt, by simp; intro he; subst he; exact h.kt hk⟩)
  · have h3 := h.lt
    exact hx.S.trans ((hs w0.heap.size).mono (Nat.le_refl _) (by intro k hk hlt; simp at hk; omega))

theorem DoM_end1 {w0 w : World} {p : Nat} {K0 K : List Nat} {bo bt ba : Nat} {s : MS} {o : OpV} {e n : Int} {t : ByteArray} (h : DmCtx w0 w p K0 K bo bt ba s o e n t) (W : Int) (y : Bool) (N : Int) (hN : N = IntKind.wrap .i64 (n + IntKind.wrap .i64 (if y then 1 else W))) (R : Value → World → Prop)
    (hR : ∀ w', MMOut w0 p K0 s w' → R (ansV e N t) w') : memlaw_DoM.L1 bt ba W y R w := by
  refine memlaw_DoM.step1 _ _ _ _ _ _ ?_
  unfold memlaw_DoM.V1
  subst hN
  refine cond_intro (fun hc => DoM_end h 1 R ?_) (fun hc => DoM_end h W R ?_)
  · simpa [hc] using hR
  · simpa [hc] using hR

theorem DoM_spec (w : World) (p : Nat) (K : List Nat) (s : MS) (h : MM w p K s) (hw : s.Wf) (r : Int) (o : OpV) (ho : o.In) :
    Runs Try.prog memlaw_DoM.id #[.pointer (some ⟨p, 0, none⟩), .int .i64 r, o.val] w fun v w' =>
      v = ansV (s.act r o).1.1 (s.act r o).1.2.1 (s.act r o).1.2.2 ∧ MMOut w p K (s.act r o).2 w' := by
  have := hw.ncap; have := hw.cap384
  refine memlaw_DoM.enter _ _ _ _ _ _ _ _ _ _ ?_
  generalize hRd : (fun (v : Value) (w' : World) => v = ansV (s.act r o).1.1 (s.act r o).1.2.1 (s.act r o).1.2.2 ∧ MMOut w p K (s.act r o).2 w') = R
  unfold memlaw_DoM.V
  refine letB_intro (fun bo hbo => letW_intro (fun w10 hw10 => letB_intro (fun bt hbt => letW_intro (fun w12 hw12 => letB_intro (fun ba hba => letW_intro (fun w14 hw14 => ?_))))))
  have hz10 : w10.heap.size = w.heap.size + 1 := by rw [hw10]; simp
  have hz12 : w12.heap.size = w.heap.size + 2 := by rw [hw12]; simp [hz10]
  have hS10 : Same [] w.heap.size w w10 := by rw [hw10]; exact (Same.refl _ _ _).alloc (Nat.le_refl _) _
  have hS12 : Same [] w10.heap.size w10 w12 := by rw [hw12]; exact (Same.refl _ _ _).alloc (Nat.le_refl _) _
  have hS14 : Same [] w12.heap.size w12 w14 := by rw [hw14]; exact (Same.refl _ _ _).alloc (Nat.le_refl _) _
  have hO10 : OpAt w10 bo o := by rw [hbo, hw10]; exact OpAt.new w o _
  have hT12 : AnsAt w12 bt 0 0 eps := by rw [hbt, hw12]; exact AnsAt.new w10 _
  have hA14 : AnsAt w14 ba 0 0 eps := by rw [hba, hw14]; exact AnsAt.new w12 _
  refine hA14.put_intro (fun w15 hA15 hs15 => ?_)
  have hS15 : Same [] w12.heap.size w12 w15 := hS14.trans ((hs15 _).mono (Nat.le_refl _) (by intro k hk hlt; simp at hk; omega))
  have hp := h.plt
  have hKo : ∀ k, k ∈ K.filter (fun k => decide (k < w.heap.size)) → k < w.heap.size := fun k hk => by simpa using (List.mem_filter.1 hk).2
  have h' : MM w p (K.filter (fun k => decide (k < w.heap.size))) s := by
    obtain ⟨m, t, g, hm⟩ := h
    exact ⟨m, t, g, hm.blk, hm.M, hm.T, hm.G, fun k hk => List.mem_filter.2 ⟨hm.kM k hk, by simpa using own_lt hm.M hk⟩, fun k hk => List.mem_filter.2 ⟨hm.kT k hk, by simpa using own_lt hm.T hk⟩, fun k hk => List.mem_filter.2 ⟨hm.kG k hk, by simpa using own_lt hm.G hk⟩⟩
  have C : DmCtx w w15 p K (K.filter (fun k => decide (k < w.heap.size))) bo bt ba s o 0 0 eps :=
    ⟨((h'.keep hS10).keep hS12).keep hS15, (hO10.same hS12 (by omega) (by simp)).same hS15 (by omega) (by simp), hA15, hT12.same hS15 (by omega) (by simp),
      ((hS10.trans (hS12.mono (by omega) (by simp))).trans (hS15.mono (by omega) (by simp))).mono (Nat.le_refl _) (by simp), fun j hj => .inl (List.mem_filter.1 hj).1, hp, by omega, by omega, by omega, fun hx => by have := hKo _ hx; omega, fun hx => by have := hKo _ hx; omega, fun hx => by have := hKo _ hx; omega, by omega, by omega⟩
  clear h' hKo
  clear hw10 hw12 hw14 hS10 hS12 hS14 hO10 hT12 hA14 hA15 hS15 hs15
  refine ⟨_, C.O.c4, ?_⟩
  refine (Word_spec o.s 0 w15 ho.s (by omega)).mono ?_
  rintro r17 w18 ⟨rfl, rfl⟩
  have hwd := word_bd o.s
  have hA := u32_bd o.a; have hB := u32_bd o.b; have hC := u32_bd o.c
  simp only [wrap_u32']
  refine ⟨_, rfl, _, C.O.c0, ?_⟩
  have fin : ∀ (e n : Int) (t : ByteArray) (s' : MS), s.act r o = ((e, n, t), s') → ∀ w', MMOut w p K s' w' → R (ansV e n t) w' := fun e n t s' he w' h1 => by
    subst hRd
    rw [he]; exact ⟨rfl, h1⟩
  refine cond_intro (fun k1 => ?_) (fun k1 => ?_)
  · have k1 : o.kind = 1 := by simpa using k1
    refine ⟨_, C.O.c1, _, C.O.c2, _, C.O.c3, ?_⟩
    refine (MReset_spec w18 p _ s C.m o.a o.b o.c r).mono ?_
    rintro v w1 ⟨rfl, hm1⟩
    obtain ⟨K1, C1⟩ := C.next hm1
    refine ⟨_, rfl, C1.A.can 0 (by omega), letW_intro (fun w2 hw2 => ?_)⟩
    subst hw2
    exact DoM_end1 (C1.seta (C1.A.sete _)) 0 false 0 (by decide) R (fin _ _ _ _ (by simp only [MS.act, k1, if_true]))
  have k1 : ¬ o.kind = 1 := by simpa using k1
  refine cond_intro (fun k2 => ?_) (fun k2 => ?_)
  · have k2 : o.kind = 2 := by simpa using k2
    refine (MPages_spec w18 p _ s C.m hw).mono ?_
    rintro v w1 ⟨rfl, rfl⟩
    refine ⟨_, rfl, C.A.can 1 (by omega), letW_intro (fun w2 hw2 => ?_)⟩
    subst hw2
    exact DoM_end1 (C.seta (C.A.setn _)) 0 false _ (wrap_small _ (by omega) (by omega)) R (fin _ _ _ _ (by unfold MS.act; rw [if_neg k1, if_pos k2]))
  have k2 : ¬ o.kind = 2 := by simpa using k2
  refine cond_intro (fun k3 => ?_) (fun k3 => ?_)
  · have k3 : o.kind = 3 := by simpa using k3
    refine ⟨_, C.O.c1, ?_⟩
    refine (MGrow_spec w18 p _ s C.m hw (u32 o.a) hA.1 hA.2).mono ?_
    rintro v w1 ⟨rfl, hm1⟩
    obtain ⟨K1, C1⟩ := C.next hm1
    have hg := grow_bd s hw (u32 o.a)
    refine ⟨_, rfl, DoM_end1 C1 _ false (s.grow (u32 o.a)).1 ?_ R (fin _ _ _ _ (by unfold MS.act; rw [if_neg k1, if_neg k2, if_pos k3]))⟩
    simp only [Bool.false_eq_true, if_false]
    rw [wrap_u64 (by omega) (by omega), Int.zero_add, wrap_i64_idem, wrap_i64 (by omega) (by omega)]
  have k3 : ¬ o.kind = 3 := by simpa using k3
  refine cond_intro (fun k4 => ?_) (fun k4 => ?_)
  · have k4 : o.kind = 4 := by simpa using k4
    refine ⟨_, C.O.c1, _, C.O.c2, _, C.O.c3, ?_⟩
    refine (MLoad_spec w18 p _ s C.m hw o.a (u32 o.b) (u32 o.c) hB.1 hB.2 hC.1 hC.2).mono ?_
    rintro v w1 ⟨rfl, rfl⟩
    have C1 := C
    have key : ∀ (x y : Int), (if 40 ≤ o.a ∧ o.a ≤ 53 then (if u32 o.b + u32 o.c + (memSig o.a).1 ≤ s.n then Value.tuple #[.int .u64 (loadVal s.back o.a (u32 o.b + u32 o.c).toNat), .int .i64 0] else .tuple #[.int .u64 0, .int .i64 42]) else .tuple #[.int .u64 0, .int .i64 35]) = .tuple #[.int .u64 x, .int .i64 y] →
        s.load o.a (u32 o.b + u32 o.c) = (y, IntKind.wrap .i64 x) := by
      intro x y hxy
      unfold MS.load
      split at hxy
      · rename_i hop; rw [if_pos hop]
        split at hxy
        · rename_i hi; rw [if_pos hi]; simp at hxy; obtain ⟨rfl, rfl⟩ := hxy; rfl
        · rename_i hi; rw [if_neg hi]; simp at hxy; obtain ⟨rfl, rfl⟩ := hxy; rfl
      · rename_i hop; rw [if_neg hop]; simp at hxy; obtain ⟨rfl, rfl⟩ := hxy; rfl
    have key2 : ∃ x y : Int, (if 40 ≤ o.a ∧ o.a ≤ 53 then (if u32 o.b + u32 o.c + (memSig o.a).1 ≤ s.n then Value.tuple #[.int .u64 (loadVal s.back o.a (u32 o.b + u32 o.c).toNat), .int .i64 0] else .tuple #[.int .u64 0, .int .i64 42]) else .tuple #[.int .u64 0, .int .i64 35]) = .tuple #[.int .u64 x, .int .i64 y] := by
      split
      · split
        · exact ⟨_, _, rfl⟩
        · exact ⟨_, _, rfl⟩
      · exact ⟨_, _, rfl⟩
    obtain ⟨x, y, hxy⟩ := key2
    have hl := key x y hxy
    refine ⟨x, y, hxy, C1.A.can 0 (by omega), letW_intro (fun w2 hw2 => ?_)⟩
    subst hw2
    exact DoM_end1 (C1.seta (C1.A.sete _)) x false _ (wrap_zero x) R (fin _ _ _ _ (by unfold MS.act; rw [if_neg k1, if_neg k2, if_neg k3, if_pos k4, hl]))
  have k4 : ¬ o.kind = 4 := by simpa using k4
  refine cond_intro (fun k5 => ?_) (fun k5 => ?_)
  · have k5 : o.kind = 5 := by simpa using k5
    refine ⟨_, C.O.c1, _, C.O.c2, _, C.O.c3, ?_⟩
    refine (MSave_spec w18 p _ s C.m hw o.a (u32 o.b) (u32 o.c) _ hB.1 hB.2 hC.1 hC.2 hwd.1 hwd.2).mono ?_
    rintro v w1 ⟨rfl, hm1⟩
    obtain ⟨K1, C1⟩ := C.next hm1
    refine ⟨_, rfl, C1.A.can 0 (by omega), letW_intro (fun w2 hw2 => ?_)⟩
    subst hw2
    exact DoM_end1 (C1.seta (C1.A.sete _)) 0 false 0 (by decide) R (fin _ _ _ _ (by unfold MS.act; rw [if_neg k1, if_neg k2, if_neg k3, if_neg k4, if_pos k5]))
  have k5 : ¬ o.kind = 5 := by simpa using k5
  refine cond_intro (fun k6 => ?_) (fun k6 => ?_)
  · have k6 : o.kind = 6 := by simpa using k6
    refine ⟨_, C.O.c1, _, C.O.c2, ?_⟩
    refine (MFits_spec w18 p _ s C.m hw (u32 o.a) o.b hA.1 hA.2 ho.b).mono ?_
    rintro v w1 ⟨rfl, rfl⟩
    refine ⟨_, rfl, DoM_end1 C 0 _ (if 0 ≤ o.b ∧ u32 o.a + o.b ≤ s.n then 1 else 0) ?_ R (fin _ _ _ _ (by unfold MS.act; rw [if_neg k1, if_neg k2, if_neg k3, if_neg k4, if_neg k5, if_pos k6]))⟩
    by_cases hc : 0 ≤ o.b ∧ u32 o.a + o.b ≤ s.n
    · simp only [hc, and_self, decide_true, if_true]; decide
    · rw [if_neg hc, decide_eq_false hc]; decide
  have k6 : ¬ o.kind = 6 := by simpa using k6
  refine cond_intro (fun k7 => ?_) (fun k7 => ?_)
  · have k7 : o.kind = 7 := by simpa using k7
    refine ⟨_, C.O.c1, _, C.O.c4, ?_⟩
    refine (MWrite_spec w18 p _ s C.m hw (u32 o.a) o.s hA.1 hA.2).mono ?_
    rintro v w1 ⟨rfl, hm1⟩
    obtain ⟨K1, C1⟩ := C.next hm1
    refine ⟨_, rfl, C1.A.can 0 (by omega), letW_intro (fun w2 hw2 => ?_)⟩
    subst hw2
    exact DoM_end1 (C1.seta (C1.A.sete _)) 0 false 0 (by decide) R (fin _ _ _ _ (by unfold MS.act; rw [if_neg k1, if_neg k2, if_neg k3, if_neg k4, if_neg k5, if_neg k6, if_pos k7]))
  have k7 : ¬ o.kind = 7 := by simpa using k7
  refine cond_intro (fun k8 => ?_) (fun k8 => ?_)
  · have k8 : o.kind = 8 := by simpa using k8
    refine (MTabLen_spec w18 p _ s C.m).mono ?_
    rintro v w1 ⟨rfl, rfl⟩
    have := hw.tl8
    refine ⟨_, rfl, C.A.can 1 (by omega), letW_intro (fun w2 hw2 => ?_)⟩
    subst hw2
    exact DoM_end1 (C.seta (C.A.setn _)) 0 false _ (wrap_small _ (by omega) (by omega)) R (fin _ _ _ _ (by unfold MS.act; rw [if_neg k1, if_neg k2, if_neg k3, if_neg k4, if_neg k5, if_neg k6, if_neg k7, if_pos k8]))
  have k8 : ¬ o.kind = 8 := by simpa using k8
  refine cond_intro (fun k9 => ?_) (fun k9 => ?_)
  · have k9 : o.kind = 9 := by simpa using k9
    refine ⟨_, C.O.c1, ?_⟩
    refine (MElem_spec w18 p _ s C.m hw (u32 o.a) hA.1 hA.2).mono ?_
    rintro v w1 ⟨rfl, rfl⟩
    have hbd : -9223372036854775808 ≤ (s.elem (u32 o.a)).2 ∧ (s.elem (u32 o.a)).2 ≤ 9223372036854775807 := by
      have := hw.tab (u32 o.a).toNat
      unfold MS.elem; split
      · exact ⟨by show _ ≤ s.tab _; omega, by show s.tab _ ≤ _; omega⟩
      · exact ⟨by decide, by decide⟩
    refine ⟨_, _, rfl, C.A.can 1 (by omega), letW_intro (fun w2 hw2 => ?_)⟩
    have C2 : DmCtx w w2 p K (K.filter (fun k => decide (k < w.heap.size))) bo bt ba s o 0 (s.elem (u32 o.a)).2 eps := by subst hw2; exact C.seta (C.A.setn _)
    refine ⟨C2.A.can 0 (by omega), letW_intro (fun w3 hw3 => ?_)⟩
    subst hw3
    exact DoM_end1 (C2.seta (C2.A.sete _)) 0 false _ (wrap_small _ hbd.1 hbd.2) R (fin _ _ _ _ (by unfold MS.act; rw [if_neg k1, if_neg k2, if_neg k3, if_neg k4, if_neg k5, if_neg k6, if_neg k7, if_neg k8, if_pos k9]))
  have k9 : ¬ o.kind = 9 := by simpa using k9
  refine cond_intro (fun k10 => ?_) (fun k10 => ?_)
  · have k10 : o.kind = 10 := by simpa using k10
    refine ⟨_, C.O.c1, _, C.O.c2, ?_⟩
    refine (MSetElem_spec w18 p _ s C.m hw (u32 o.a) o.b hA.1 hA.2).mono ?_
    rintro v w1 ⟨rfl, hm1⟩
    obtain ⟨K1, C1⟩ := C.next hm1
    refine ⟨_, rfl, C1.A.can 0 (by omega), letW_intro (fun w2 hw2 => ?_)⟩
    subst hw2
    exact DoM_end1 (C1.seta (C1.A.sete _)) 0 false 0 (by decide) R (fin _ _ _ _ (by unfold MS.act; rw [if_neg k1, if_neg k2, if_neg k3, if_neg k4, if_neg k5, if_neg k6, if_neg k7, if_neg k8, if_neg k9, if_pos k10]))
  have k10 : ¬ o.kind = 10 := by simpa using k10
  refine cond_intro (fun k11 => ?_) (fun k11 => ?_)
  · have k11 : o.kind = 11 := by simpa using k11
    refine ⟨_, C.O.c1, ?_⟩
    refine (MGlobal_spec w18 p _ s C.m hw o.a).mono ?_
    rintro v w1 ⟨rfl, rfl⟩
    have key : ∃ x y : Int, (if 0 ≤ o.a ∧ o.a < s.ng then Value.tuple #[.int .u64 (s.glob o.a.toNat), .int .i64 0] else .tuple #[.int .u64 0, .int .i64 36]) = .tuple #[.int .u64 x, .int .i64 y] ∧ s.global o.a = (y, IntKind.wrap .i64 x) := by
      unfold MS.global
      split
      · exact ⟨_, _, rfl, rfl⟩
      · exact ⟨0, 36, rfl, rfl⟩
    obtain ⟨x, y, hxy, hl⟩ := key
    refine ⟨x, y, hxy, C.A.can 0 (by omega), letW_intro (fun w2 hw2 => ?_)⟩
    subst hw2
    exact DoM_end1 (C.seta (C.A.sete _)) x false _ (wrap_zero x) R (fin _ _ _ _ (by unfold MS.act; rw [if_neg k1, if_neg k2, if_neg k3, if_neg k4, if_neg k5, if_neg k6, if_neg k7, if_neg k8, if_neg k9, if_neg k10, if_pos k11, hl]))
  have k11 : ¬ o.kind = 11 := by simpa using k11
  refine cond_intro (fun k13 => ?_) (fun k13 => ?_)
  · have k13 : o.kind = 13 := by simpa using k13
    refine ⟨_, C.O.c1, ?_⟩
    refine (MSetGlobal_spec w18 p _ s C.m hw o.a _).mono ?_
    rintro v w1 ⟨rfl, hm1⟩
    obtain ⟨K1, C1⟩ := C.next hm1
    refine ⟨_, rfl, C1.A.can 0 (by omega), letW_intro (fun w2 hw2 => ?_)⟩
    subst hw2
    exact DoM_end1 (C1.seta (C1.A.sete _)) 0 false 0 (by decide) R (fin _ _ _ _ (by unfold MS.act; rw [if_neg k1, if_neg k2, if_neg k3, if_neg k4, if_neg k5, if_neg k6, if_neg k7, if_neg k8, if_neg k9, if_neg k10, if_neg k11, if_pos k13]))
  have k13 : ¬ o.kind = 13 := by simpa using k13
  refine cond_intro (fun k14 => ?_) (fun k14 => ?_)
  · have k14 : o.kind = 14 := by simpa using k14
    refine (MShow_spec w18 p _ s C.m hw).mono ?_
    rintro v w1 ⟨rfl, hS1⟩
    obtain ⟨K1, C1⟩ := C.next (MMOut.mk' (C.m.keep hS1) (hS1.mono (Nat.le_refl _) (by simp)))
    refine ⟨_, rfl, C1.A.can 3 (by omega), letW_intro (fun w2 hw2 => ?_)⟩
    subst hw2
    exact DoM_end1 (C1.seta (C1.A.sets _)) 0 false 0 (by decide) R (fin _ _ _ _ (by unfold MS.act; rw [if_neg k1, if_neg k2, if_neg k3, if_neg k4, if_neg k5, if_neg k6, if_neg k7, if_neg k8, if_neg k9, if_neg k10, if_neg k11, if_neg k13, if_pos k14]))
  have k14 : ¬ o.kind = 14 := by simpa using k14
  refine cond_intro (fun k15 => ?_) (fun k15 => ?_)
  · have k15 : o.kind = 15 := by simpa using k15
    refine (memm_Store_Check.pure _ w18).mono ?_
    rintro v w1 ⟨rfl, rfl⟩
    exact ⟨_, rfl, DoM_end1 C 0 true 1 (by decide) R (fin _ _ _ _ (by unfold MS.act; rw [if_neg k1, if_neg k2, if_neg k3, if_neg k4, if_neg k5, if_neg k6, if_neg k7, if_neg k8, if_neg k9, if_neg k10, if_neg k11, if_neg k13, if_neg k14, if_pos k15]))⟩
  have k15 : ¬ o.kind = 15 := by simpa using k15
  exact DoM_end1 C 0 false 0 (by decide) R (fin _ _ _ _ (by unfold MS.act; rw [if_neg k1, if_neg k2, if_neg k3, if_neg k4, if_neg k5, if_neg k6, if_neg k7, if_neg k8, if_neg k9, if_neg k10, if_neg k11, if_neg k13, if_neg k14, if_neg k15]))


/-! ### Seen -/
theorem Seen_spec (w : World) (p q : Nat) (s : MS) (h : MSAt w p q s) (hw : s.Wf) (mp : Nat) (K : List Nat) (hM : MM w mp K s) :
    Runs Try.prog memlaw_Seen.id #[.pointer (some ⟨p, 0, none⟩), .pointer (some ⟨mp, 0, none⟩)] w fun v w' => v = .bool true ∧ Same [] w.heap.size w w' := by
  refine memlaw_Seen.enter _ _ _ _ ?_
  unfold memlaw_Seen.V
  refine (Show_spec w p q s h hw).mono ?_
  rintro v w1 ⟨rfl, hS1⟩
  refine ⟨_, rfl, ?_⟩
  refine (MShow_spec w1 mp K s (hM.keep hS1) hw).mono ?_
  rintro v w2 ⟨rfl, hS2⟩
  refine ⟨_, rfl, cond_false' (by rw [toList_beq]; rfl) ?_⟩
  refine (Check_spec w2 p q s ((h.keep hS1).keep hS2) hw).mono ?_
  rintro v w3 ⟨rfl, hS3⟩
  have hS12 := hS1.trans (hS2.mono hS1.size (by simp))
  exact ⟨_, rfl, rfl, hS12.trans (hS3.mono hS12.size (by simp))⟩

/-! ### The walk -/
structure RCtx (w0 w : World) (p q mp : Nat) (K : List Nat) (s : MS) : Prop where
  m : MSAt w p q s
  W : s.Wf
  M : MM w mp K s
  S : Same [] w0.heap.size w0 w
  lp : w0.heap.size ≤ p
  lq : w0.heap.size ≤ q
  lm : w0.heap.size ≤ mp
  lk : ∀ k, k ∈ K → w0.heap.size ≤ k
  kp : p ∉ K
  kq : q ∉ K
  mp' : mp ≠ p
  mq' : mp ≠ q

theorem RCtx.keep {w0 w w1 : World} {p q mp : Nat} {K : List Nat} {s : MS} (h : RCtx w0 w p q mp K s) (hS : Same [] w.heap.size w w1) : RCtx w0 w1 p q mp K s :=
  ⟨h.m.keep hS, h.W, h.M.keep hS, h.S.trans (hS.mono h.S.size (by simp)), h.lp, h.lq, h.lm, h.lk, h.kp, h.kq, h.mp', h.mq'⟩

theorem walk_loop (w0 : World) (p q mp : Nat) (a : Option Addr) (l c : Nat) (qt : Bool) (hs : ScriptAt w0 a l) (R : Value → World → Prop) (hR : ∀ (n : Int) w', Same [] w0.heap.size w0 w' → R (.tuple #[.int .i64 (-1), .int .i64 n]) w') :
    ∀ (f i : Nat) (r : Int) (K : List Nat) (s : MS) (w : World), i + f = l → RCtx w0 w p q mp K s →
      memlaw_walk.L2 a l c qt (some ⟨p, 0, none⟩) (some ⟨mp, 0, none⟩) r i R w := by
  have L4 : ∀ (n : Int) (w : World), Same [] w0.heap.size w0 w → memlaw_walk.L4 n R w := by
    intro n w hS
    refine memlaw_walk.step4 _ _ _ ?_
    unfold memlaw_walk.V4
    exact hR n w hS
  intro f
  induction f with
  | zero =>
    intro i r K s w hi C
    refine memlaw_walk.step2 _ _ _ _ _ _ _ _ _ _ ?_
    unfold memlaw_walk.V2
    exact cond_false' (by simp; omega) (L4 _ w C.S)
  | succ f ih =>
    intro i r K s w hi C
    refine memlaw_walk.step2 _ _ _ _ _ _ _ _ _ _ ?_
    unfold memlaw_walk.V2
    refine cond_true' (by simp; omega) ?_
    generalize hMx : (4398046511104 : Int) = Mx
    refine cond_intro (fun hm => ?_) (fun hm => L4 _ w C.S)
    subst hMx
    have hm : (i : Int) < 4398046511104 := of_decide_eq_true hm
    rcases hs with h0 | ⟨b, off, rfl, hs⟩
    · omega
    obtain ⟨o, hF, hO0⟩ := hs i (by omega)
    have hO := hO0.same C.S
    have L5 : ∀ r' : Int, memlaw_walk.L5 (some ⟨b, off, none⟩) l c qt (some ⟨p, 0, none⟩) (some ⟨mp, 0, none⟩) r' i R w := by
      intro r'
      refine memlaw_walk.step5 _ _ _ _ _ _ _ _ _ _ ?_
      unfold memlaw_walk.V5
      simp only [nilV_some, add_mk, Int.toNat_natCast]
      refine ⟨by omega, _, _, _, _, _, _, hO.c0, hO.c1, hO.c2, hO.c3, hO.c4, hO.c5, ?_⟩
      refine (Do_spec w p q s C.m C.W r' o hF.In).mono ?_
      rintro v w9 ⟨rfl, hm9, hS9⟩
      have lp := C.lp; have lq := C.lq; have lm := C.lm; have mp1 := C.mp'; have mq1 := C.mq'
      have hM9 : MM w9 mp K s := C.M.same hS9 C.M.plt (by simp; omega) (fun k hk hlt => ⟨hlt, by
        intro hx
        simp at hx
        rcases hx with rfl | rfl
        · exact C.kp hk
        · exact C.kq hk⟩)
      have hSa9 : Same [] w0.heap.size w0 w9 := C.S.trans (hS9.mono C.S.size (by intro k hk hlt; simp at hk; omega))
      refine ⟨_, _, _, _, rfl, letB_intro (fun b14 hb14 => letW_intro (fun w15 hw15 => ?_))⟩
      have hS15 : Same [] w9.heap.size w9 w15 := by rw [hw15]; exact (Same.refl _ _ _).alloc (Nat.le_refl _) _
      have hA15 : AnsAt w15 b14 0 0 eps := by rw [hb14, hw15]; exact AnsAt.new w9 _
      clear hw15
      refine hA15.put_intro (fun w16 hA16 hS16 => ?_)
      have hS16' : Same [] w9.heap.size w9 w16 := hS15.trans ((hS16 _).mono (Nat.le_refl _) (by intro k hk hlt; simp at hk; omega))
      have hm16 := hm9.keep hS16'
      have hM16 := hM9.keep hS16'
      have hSa16 : Same [] w0.heap.size w0 w16 := hSa9.trans (hS16'.mono hSa9.size (by simp))
      have hO16 := hO0.same hSa16
      refine ⟨by omega, _, _, _, _, _, _, hO16.c0, hO16.c1, hO16.c2, hO16.c3, hO16.c4, hO16.c5, ?_⟩
      have hK9 : ∀ (k : Nat), k ∈ K.filter (fun k => decide (k < w9.heap.size)) → k < w9.heap.size := fun k hk => by simpa using (List.mem_filter.1 hk).2
      have hM16' : MM w16 mp (K.filter (fun k => decide (k < w9.heap.size))) s := by
        obtain ⟨m, t, g, hx⟩ := hM9
        have hx16 := hx.keep hS16'
        exact ⟨m, t, g, hx16.blk, hx16.M, hx16.T, hx16.G, fun k hk => List.mem_filter.2 ⟨hx.kM k hk, by simpa using own_lt hx.M hk⟩, fun k hk => List.mem_filter.2 ⟨hx.kT k hk, by simpa using own_lt hx.T hk⟩, fun k hk => List.mem_filter.2 ⟨hx.kG k hk, by simpa using own_lt hx.G hk⟩⟩
      have hK0 : ∀ k, k ∈ K.filter (fun k => decide (k < w9.heap.size)) → k ∈ K := fun k hk => (List.mem_filter.1 hk).1
      generalize hKf : K.filter (fun k => decide (k < w9.heap.size)) = Kf at hK9 hM16' hK0
      clear hKf
      refine (DoM_spec w16 mp Kf s hM16' C.W r' o hF.In).mono ?_
      rintro v w25 ⟨rfl, K2, hM25, hS25, hK25⟩
      have hmpl := hM9.plt
      have nA : b14 ∉ mp :: Kf := by
        intro hx
        rcases List.mem_cons.1 hx with hx | hx
        · omega
        · have := hK9 _ hx; omega
      have hA25 := hA16.same hS25 hA16.lt nA
      have hm25 : MSAt w25 p q _ := hm16.same hS25 hm16.plt hm16.qlt (by
        intro hx
        rcases List.mem_cons.1 hx with hx | hx
        · omega
        · exact C.kp (hK0 _ hx)) (by
        intro hx
        rcases List.mem_cons.1 hx with hx | hx
        · omega
        · exact C.kq (hK0 _ hx))
      have hSa25 : Same [] w0.heap.size w0 w25 := hSa16.trans (hS25.mono hSa16.size (by
        intro k hk hlt
        rcases List.mem_cons.1 hk with rfl | hk
        · omega
        · have := C.lk k (hK0 _ hk); omega))
      refine ⟨_, _, _, _, rfl, letB_intro (fun b30 hb30 => letW_intro (fun w31 hw31 => ?_))⟩
      have hS31 : Same [] w25.heap.size w25 w31 := by rw [hw31]; exact (Same.refl _ _ _).alloc (Nat.le_refl _) _
      have hA31 : AnsAt w31 b30 0 0 eps := by rw [hb30, hw31]; exact AnsAt.new w25 _
      clear hw31
      refine hA31.put_intro (fun w32 hA32 hS32 => ?_)
      have hS32' : Same [] w25.heap.size w25 w32 := hS31.trans ((hS32 _).mono (Nat.le_refl _) (by intro k hk hlt; simp at hk; omega))
      have hB32 := hA25.same hS32' hA25.lt (by simp)
      have hp16 := hm16.plt; have hq16 := hm16.qlt
      have C32 : RCtx w0 w32 p q mp K2 (s.act r' o).2 :=
        ⟨hm25.keep hS32', act_wf s C.W r' o hF.In, hM25.keep hS32', hSa25.trans (hS32'.mono hSa25.size (by simp)), lp, lq, lm, fun k hk => by
          rcases hK25 k hk with hx | hx
          · exact C.lk k (hK0 _ hx)
          · have := hSa16.size; omega, fun hx => by
          rcases hK25 _ hx with hy | hy
          · exact C.kp (hK0 _ hy)
          · omega, fun hx => by
          rcases hK25 _ hx with hy | hy
          · exact C.kq (hK0 _ hy)
          · omega, mp1, mq1⟩
      refine ⟨_, _, _, _, hB32.c0, hB32.c1, hB32.c2, hB32.c3, _, _, _, _, hA32.c0, hA32.c1, hA32.c2, hA32.c3, false, w32, run_neqAns w32 _ _ _ _ _, cond_false' rfl ?_⟩
      have L6 : ∀ w', RCtx w0 w' p q mp K2 (s.act r' o).2 → memlaw_walk.L6 (some ⟨b, off, none⟩) l c qt (some ⟨p, 0, none⟩) (some ⟨mp, 0, none⟩) r' i R w' := by
        intro w' C'
        refine memlaw_walk.step6 _ _ _ _ _ _ _ _ _ _ ?_
        unfold memlaw_walk.V6
        have e : IntKind.wrap .i64 ((i : Int) + 1) = ((i + 1 : Nat) : Int) := by rw [wrap_i64 (by omega) (by omega)]; omega
        rw [e]
        exact ih (i + 1) r' K2 _ w' (by omega) C'
      refine cond_intro (fun _ => ?_) (fun _ => L6 w32 C32)
      refine (Seen_spec w32 p q _ C32.m C32.W mp K2 C32.M).mono ?_
      rintro v w44 ⟨rfl, hS44⟩
      exact ⟨_, rfl, cond_false' rfl (L6 w44 (C32.keep hS44))⟩
    refine memlaw_walk.step3 _ _ _ _ _ _ _ _ _ _ ?_
    unfold memlaw_walk.V3
    simp only [nilV_some, add_mk, Int.toNat_natCast]
    refine ⟨by omega, _, hO.c0, cond_intro (fun _ => ⟨by omega, _, hO.c1, L5 _⟩) (fun _ => L5 _)⟩

theorem walk_spec (w : World) (a : Option Addr) (l c : Nat) (qt : Bool) (hs : ScriptAt w a l) :
    Runs Try.prog memlaw_walk.id #[.slice a l c, .bool qt] w fun v w' => (∃ n : Int, v = .tuple #[.int .i64 (-1), .int .i64 n]) ∧ Same [] w.heap.size w w' := by
  refine memlaw_walk.enter _ _ _ _ _ _ ?_
  generalize hRd : (fun (v : Value) (w' : World) => (∃ n : Int, v = .tuple #[.int .i64 (-1), .int .i64 n]) ∧ Same [] w.heap.size w w') = R
  unfold memlaw_walk.V
  refine (New_spec w).mono ?_
  rintro v w6 ⟨rfl, hm6, hS6, hz6⟩
  refine ⟨_, rfl, ?_⟩
  refine (MNew_spec w6).mono ?_
  rintro v w9 ⟨rfl, hM9, hS9⟩
  refine ⟨_, rfl, ?_⟩
  have C : RCtx w w9 (w.heap.size + 1) w.heap.size w6.heap.size [] ms0 :=
    ⟨hm6.keep hS9, ms0_wf, hM9, hS6.trans (hS9.mono hS6.size (by simp)), by omega, by omega, by omega, fun k hk => by simp at hk, by simp, by simp, by omega, by omega⟩
  have L1 : ∀ w', RCtx w w' (w.heap.size + 1) w.heap.size w6.heap.size [] ms0 → memlaw_walk.L1 a l c qt (some ⟨w.heap.size + 1, 0, none⟩) (some ⟨w6.heap.size, 0, none⟩) 0 R w' := by
    intro w' C'
    refine memlaw_walk.step1 _ _ _ _ _ _ _ _ _ ?_
    unfold memlaw_walk.V1
    exact walk_loop w _ _ _ a l c qt hs R (fun n w' hw' => by subst hRd; exact ⟨⟨n, rfl⟩, hw'⟩) l 0 0 [] ms0 w' (by omega) C'
  refine cond_intro (fun _ => ?_) (fun _ => L1 w9 C)
  refine (Seen_spec w9 _ _ ms0 C.m C.W _ [] C.M).mono ?_
  rintro v w12 ⟨rfl, hS12⟩
  exact ⟨_, rfl, cond_false' rfl (L1 w12 (C.keep hS12))⟩

theorem Refines_spec (w : World) (a : Option Addr) (l c : Nat) (hs : ScriptAt w a l) :
    Runs Try.prog memlaw_Refines.id #[.slice a l c] w fun v w' => v = .bool true ∧ Same [] w.heap.size w w' := by
  refine memlaw_Refines.enter _ _ _ _ _ ?_
  unfold memlaw_Refines.V
  refine Runs.mono (R := fun v w' => v = .int .i64 (-1) ∧ Same [] w.heap.size w w') (memlaw_RefinesUpTo.enter _ _ _ _ _ ?_) ?_
  · unfold memlaw_RefinesUpTo.V
    refine (walk_spec w a l c false hs).mono ?_
    rintro v w1 ⟨⟨n, rfl⟩, hS⟩
    exact ⟨_, _, rfl, rfl, hS⟩
  · rintro v w1 ⟨rfl, hS⟩
    exact ⟨_, rfl, rfl, hS⟩

theorem RefinesQuiet_spec (w : World) (a : Option Addr) (l c : Nat) (hs : ScriptAt w a l) :
    Runs Try.prog memlaw_RefinesQuiet.id #[.slice a l c] w fun v w' => v = .bool true ∧ Same [] w.heap.size w w' := by
  refine memlaw_RefinesQuiet.enter _ _ _ _ _ ?_
  unfold memlaw_RefinesQuiet.V
  refine Runs.mono (R := fun v w' => v = .int .i64 (-1) ∧ Same [] w.heap.size w w') (memlaw_RefinesQuietUpTo.enter _ _ _ _ _ ?_) ?_
  · unfold memlaw_RefinesQuietUpTo.V
    refine (walk_spec w a l c true hs).mono ?_
    rintro v w1 ⟨⟨n, rfl⟩, hS⟩
    exact ⟨_, _, rfl, rfl, hS⟩
  · rintro v w1 ⟨rfl, hS⟩
    exact ⟨_, rfl, rfl, hS⟩

end Go.Proofs.Qxb6500319a
