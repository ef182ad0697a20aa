/-
  The law Means2: KeptOp.
-/
import Derived.Test.Qxb6500317aGreatMnJ
set_option linter.unusedSimpArgs false
set_option linter.unusedVariables false
set_option maxRecDepth 100000
set_option linter.unusedSectionVars false
set_option maxHeartbeats 400000
namespace Go.Proofs.Qxb6500317aGreat
open Go Go.Vc

theorem Mvd.later {A : XA} {F F' : List Nat} {w w' w'' : World} (m : Mvd A F w F' w') {T : List Nat} (hs : Same T w'.heap.size w' w'') (hT : ∀ k, k ∈ T → w.heap.size ≤ k) : Mvd A F w F' w'' := by
  have sz := m.sz
  exact ⟨hs.os.trans m.o1, hs.tape.trans m.o2, hs.output.trans m.o3, Nat.le_trans m.sz hs.size, fun k hk hn => by
    obtain ⟨a, b⟩ := m.b k hk hn
    exact ⟨(hs.block k (by omega) (fun g => by have := hT k g; omega)).trans a, b⟩⟩
theorem OpAt.blk {w w' : World} {ob : Nat} {o : OpV} (h : OpAt w ob o) (hb : w'.heap[ob]? = w.heap[ob]?) : OpAt w' ob o := by
  have cc : ∀ j, w'.cell? ⟨ob, j, none⟩ = w.cell? ⟨ob, j, none⟩ := fun j => World.cell?_of_block (w := w) hb
  exact ⟨by rw [cc]; exact h.c0, by rw [cc]; exact h.c1, by rw [cc]; exact h.c2, by rw [cc]; exact h.c3, by rw [cc]; exact h.c4, by rw [cc]; exact h.c5⟩
section
variable {w w' : World} {A : XA} {F F' : List Nat} {o : OpV}
theorem Apply_law (op a b : Int) (hb0 : 0 ≤ b) (hb1 : b < 18446744073709551616) (w : World) :
    Runs Tryz.prog execlaw_Apply.id #[.int .i64 op, .int .u64 a, .int .u64 b] w fun v w' => v = .tuple #[.int .u64 (U.ap op a b).1, .int .i64 (U.ap op a b).2] ∧ Same [] w.heap.size w w' := by
  refine execlaw_Apply.enter _ _ _ _ _ _ ?_
  unfold execlaw_Apply.V
  refine RunsQ.post (U.Apply_spec op a b hb0 hb1 w) ?_
  rintro v w5 ⟨rfl, S5⟩
  exact ⟨_, _, rfl, rfl, S5⟩
theorem KeptOp_spec (y : YS w A F) (ho : o.Full) :
    Runs Tryz.prog execlaw_KeptOp.id #[rp A.xb, .agg #[.int .i64 o.kind, .int .i64 o.a, .int .i64 o.b, .int .i64 o.c, .string o.s, .string o.t]] w (fun v w' => v = .bool true ∧ ∃ F', YS w' A F' ∧ Mvd A F w F' w') := by
  have hs := ho.s
  have hb := ho.b1
  refine execlaw_KeptOp.enter _ _ _ _ _ _ _ _ _ _ ?_
  unfold execlaw_KeptOp.V
  refine letB_intro fun ob hob => letW_intro fun w9 hw9 => ?_
  have S9 : Same [] w.heap.size w w9 := by rw [hw9]; exact (Same.refl _ _ _).alloc (Nat.le_refl _) _
  have z9 : w9.heap.size = w.heap.size + 1 := by rw [hw9]; simp
  have p9 : OpAt w9 ob o := by rw [hw9, hob]; exact OpAt.new w o _
  clear hw9
  have y9 := y.keep S9
  refine ⟨_, p9.c1, RunsQ.post (api_NumSig.pure _ _) ?_⟩
  rintro v w12 ⟨rfl, hw12⟩
  subst hw12
  refine ⟨_, _, _, rfl, ?_⟩
  by_cases q0 : (api_NumSig.F o.a).1 = 0
  · exact cond_true' (by rw [q0]; rfl) ⟨rfl, F, y9, Mvd.keep S9⟩
  have rng : 69 ≤ o.a ∧ o.a ≤ 191 := Classical.byContradiction (fun z => q0 (by rw [U.sig_none o.a (by omega)]))
  obtain ⟨k, hk⟩ : ∃ k : Nat, o.a = (k : Int) := ⟨o.a.toNat, by omega⟩
  have h0 : 69 ≤ k := by omega
  have h1 : k ≤ 191 := by omega
  have esg : api_NumSig.F o.a = U.sg (k : Int) := by rw [hk]; exact U.sig_eq (k : Int) (by omega) (by omega)
  rw [esg] at q0 ⊢
  refine cond_false' (ne_beq q0) ⟨_, p9.c1, RunsQ.post (OpModule_spec o.a w12) ?_⟩
  rintro v w18 ⟨rfl, S18⟩
  have p18 := p9.same S18 p9.lt (by simp)
  have y18 := y9.keep S18
  have z18 := S18.size
  obtain ⟨W, ms, h, S, fr, v5, v6, v7, v8, X, H, hS⟩ := y18
  have lF := X.ho.lF
  obtain ⟨n1, n2, n3, n4, n5⟩ := opN h0 h1
  obtain ⟨m1, m2, m3⟩ := y.n06
  refine ⟨_, rfl, ?_⟩
  rw [hk]
  refine Load_spec (kk := fun _ => 0) (nb := 0) X.re H (tkO h0 h1) 0 no0 (.inl n1.symm) (fun q => absurd (opS ms h0 h1) q) (fun _ _ w0 I mb cdb fb nbs v7 ga gc w21 F1 x21 nI fr21 => ?_) (fun _ q => absurd q (by rw [n4]; decide))
  have z21 := fr21.s
  have M21 : Mvd A F w18 F1 w21 := Mvd.of X.re x21.X z21 (fun j j1 j2 j3 => ⟨fr21.b j j1 j2 j3, fun g => by
    rcases fr21.f j g with e | e
    · exact j3 e
    · omega⟩)
  have p21 : OpAt w21 ob o := p18.blk (fr21.b ob p18.lt (by omega) (fun g => by have := m3 ob g; omega))
  have nf21 : ob ∉ F1 := fun g => by
    rcases fr21.f ob g with e | e
    · have := m3 ob e; omega
    · have := p18.lt; omega
  refine ⟨_, _, _, rfl, cond_false' rfl (cond_false' rfl (cond_false' rfl ?_))⟩
  refine execlaw_KeptOp.step1 _ _ _ _ _ _ _ _ ?_
  unfold execlaw_KeptOp.V1
  refine letB_intro fun b1 hb1 => letW_intro fun w2 hw2 => ?_
  have S2 : Same [] w21.heap.size w21 w2 := by rw [hw2]; exact (Same.refl _ _ _).alloc (Nat.le_refl _) _
  have z2 : w2.heap.size = w21.heap.size + 1 := by rw [hw2]; simp
  have a2 : AnA w2 b1 0 0 0 ⟨#[]⟩ := by rw [hw2, hb1]; exact AnA.new w21 _
  clear hw2
  have p2 := p21.same S2 p21.lt (by simp)
  have x2 := x21.keep S2
  have inv := inv_op (o := o) (E := RE.at ⟨trunc w18 A.n0, w0, A, I, mb, cdb, fb, nbs, okP (opLit k), [fOp k], v7, ga, gc⟩ w2 F1) h0 h1 rfl rfl x2.rebase hS hs hb
  refine ⟨_, p2.c4, _, p2.c2, RunsQ.post inv ?_⟩
  rintro v w6 ⟨rfl, F6, ms6, h6, S6, fr6, x6, hS6⟩
  have n6 := x2.X.lt
  have lF1 := x21.X.ho.lF
  have Ib : ∀ j, j < w2.heap.size → A.n6 ≤ j → j ∉ F1 → w6.heap[j]? = w2.heap[j]? ∧ A.n6 ≤ j ∧ j ∉ F6 ∧ j < w6.heap.size := fun j j1 j2 j3 => ⟨x6.zx j ⟨j1, j2, j3⟩, (x6.iI j ⟨j1, j2, j3⟩).1, (x6.iI j ⟨j1, j2, j3⟩).2.1, (x6.iI j ⟨j1, j2, j3⟩).2.2⟩
  have nx21 := x21.X.lt
  have nx21 : A.n6 ≤ w21.heap.size := nx21
  obtain ⟨bb, bz1, bz2, bz3⟩ := Ib b1 (by omega) (by omega) (fun g => by have := lF1 b1 g; omega)
  obtain ⟨bo, oz1, oz2, oz3⟩ := Ib ob (by have := p21.lt; omega) (by omega) nf21
  have M6 : Mvd A F1 w2 F6 w6 := Mvd.of x2.X x6.X (by omega) (fun j j1 j2 j3 => ⟨(Ib j j1 j2 j3).1, (Ib j j1 j2 j3).2.2.1⟩)
  have MM : Mvd A F w F6 w6 := (((Mvd.keep S9).trans (Mvd.keep S18)).trans M21).trans ((Mvd.keep S2).trans M6)
  have y6 : YS w6 A F6 := ⟨_, ms6, h6, S6, fr6, _, _, _, _, x6.X, x6.H, hS6⟩
  have a6 := a2.blk bb
  have p6 := p2.blk bo
  have nbo : ob ≠ b1 := by have := p21.lt; omega
  obtain ⟨r, hr⟩ : ∃ r, wantO k o = r := ⟨_, rfl⟩
  obtain ⟨e, n, s⟩ := r
  -- the law's own cells
  have lawS : ∀ (u : World) (i : Nat) (vv : Value), Same [b1] u.heap.size u (u.setCell ⟨b1, i, none⟩ vv) := fun u i vv => (Same.refl _ _ _).setCell (.inr (by simp)) _
  rw [hr]
  refine ⟨_, _, _, rfl, a6.cans 3 (by omega), letW_intro fun w10 hw10 => ?_⟩
  have a10 := a6.set3 s
  have p10 := p6.same (lawS w6 3 (.string s)) p6.lt (by simp; exact nbo)
  have y10 := y6.mv (lawS w6 3 (.string s)) (by intro j hj; simp at hj; subst hj; exact ⟨.inr bz1, bz2⟩)
  have M10 := MM.later (lawS w6 3 (.string s)) (by intro j hj; simp at hj; omega)
  have hw10' : w10 = w6.setCell ⟨b1, 3, none⟩ (.string s) := hw10
  rw [← hw10'] at a10 p10 y10 M10
  refine ⟨a10.cans 1 (by omega), letW_intro fun w11 hw11 => ?_⟩
  have a11 := a10.set1 n
  have p11 := p10.same (lawS w10 1 (.int .i64 n)) p10.lt (by simp; exact nbo)
  have y11 := y10.mv (lawS w10 1 (.int .i64 n)) (by intro j hj; simp at hj; subst hj; exact ⟨.inr bz1, bz2⟩)
  have M11 := M10.later (lawS w10 1 (.int .i64 n)) (by intro j hj; simp at hj; omega)
  have hw11' : w11 = w10.setCell ⟨b1, 1, none⟩ (.int .i64 n) := hw11
  rw [← hw11'] at a11 p11 y11 M11
  refine ⟨a11.cans 0 (by omega), letW_intro fun w12' hw12' => ?_⟩
  have a12 := a11.set0 e
  have p12 := p11.same (lawS w11 0 (.int .i64 e)) p11.lt (by simp; exact nbo)
  have y12 := y11.mv (lawS w11 0 (.int .i64 e)) (by intro j hj; simp at hj; subst hj; exact ⟨.inr bz1, bz2⟩)
  have M12 := M11.later (lawS w11 0 (.int .i64 e)) (by intro j hj; simp at hj; omega)
  have hw12'' : w12' = w11.setCell ⟨b1, 0, none⟩ (.int .i64 e) := hw12'
  rw [← hw12''] at a12 p12 y12 M12
  clear hw10 hw11 hw12' hw10' hw11' hw12''
  refine ⟨_, p12.c4, ?_⟩
  by_cases q1 : 32 < o.s.size
  · unfold wantO at hr
    rw [if_pos q1] at hr
    simp only [Prod.mk.injEq] at hr
    obtain ⟨rfl, rfl, rfl⟩ := hr
    exact cond_true' (decide_eq_true (by omega)) ⟨_, _, _, _, a12.c0, a12.c1, a12.c2, a12.c3, _, _, eql_ans w12' _ _ _ _ _ _, rfl, F6, y12, M12⟩
  refine cond_false' (decide_eq_false (by omega)) ⟨_, p12.c4, ?_⟩
  have e8 : IntKind.wrap .i64 ((8 : Int) * (U.sg (k : Int)).1) = 8 * (U.sg (k : Int)).1 := by
    have := U.sg_one (k : Int) (by omega) (by omega)
    rw [wrap_i64 (by omega) (by omega)]
  rw [e8]
  by_cases q2 : (o.s.size : Int) ≠ 8 * (U.sg (k : Int)).1
  · unfold wantO at hr
    rw [if_neg q1, if_pos q2] at hr
    simp only [Prod.mk.injEq] at hr
    obtain ⟨rfl, rfl, rfl⟩ := hr
    exact cond_true' (by simpa using q2) ⟨_, _, _, _, a12.c0, a12.c1, a12.c2, a12.c3, _, _, eql_ans w12' _ _ _ _ _ _, rfl, F6, y12, M12⟩
  have wb0 := word_bd o.s 0
  have wb1 := word_bd o.s 1
  refine cond_false' (by simpa using q2) ⟨_, p12.c4, RunsQ.post (Word_spec o.s 0 w12' hs (by omega)) ?_⟩
  rintro v w29 ⟨rfl, hw29⟩
  subst hw29
  refine ⟨_, rfl, _, p12.c4, RunsQ.post (Word_spec o.s 1 w29 hs (by omega)) ?_⟩
  rintro v w33 ⟨rfl, hw33⟩
  subst hw33
  refine ⟨_, rfl, RunsQ.post (Cut_spec _ _ _ wb0.1 wb0.2) ?_⟩
  rintro v w36 ⟨rfl, hw36⟩
  subst hw36
  refine ⟨_, rfl, RunsQ.post (Cut_spec _ _ _ wb1.1 wb1.2) ?_⟩
  rintro v w39 ⟨rfl, hw39⟩
  subst hw39
  have cb0 := cut_bd (U.sg (k : Int)).2.1 (word o.s 0) wb0.1 wb0.2
  have cb1 := cut_bd (U.sg (k : Int)).2.1 (word o.s 1) wb1.1 wb1.2
  refine ⟨_, rfl, _, p12.c1, RunsQ.post (Apply_law o.a _ _ cb1.1 cb1.2 _) ?_⟩
  rintro v w43 ⟨rfl, S43⟩
  have ty := sg_ty h0 h1
  have ap : 0 ≤ (U.ap o.a (cut (U.sg (k : Int)).2.1 (word o.s 0)) (cut (U.sg (k : Int)).2.1 (word o.s 1))).1 ∧ (U.ap o.a (cut (U.sg (k : Int)).2.1 (word o.s 0)) (cut (U.sg (k : Int)).2.1 (word o.s 1))).1 < 18446744073709551616 := by rw [hk]; exact ap_bd h0 h1 cb0 cb1
  refine ⟨_, _, rfl, ?_⟩
  rw [wrap_u64 (x := (U.sg (k : Int)).2.2) (by omega) (by omega)]
  refine RunsQ.post (Hex_spec _ 2 _ (by omega) (by omega) (by omega) (by omega)) ?_
  rintro v w47 ⟨rfl, S47⟩
  have T47 := Same.more (B := 0) S43 S47
  have p47 := p12.same T47 p12.lt (by simp)
  refine ⟨_, rfl, _, p47.c2, ?_⟩
  have e1 : IntKind.wrap .i64 ((U.sg (k : Int)).1 + (1 : Int)) = (U.sg (k : Int)).1 + 1 := by
    have := U.sg_one (k : Int) (by omega) (by omega)
    rw [wrap_i64 (by omega) (by omega)]
  rw [e1]
  refine RunsQ.post (ends_spec _ _ _ _ _ (by have := M.hexOf_size (U.sg (k : Int)).2.2 2; omega) ap _) ?_
  rintro v w51 ⟨rfl, S51⟩
  have T51 := Same.more (B := 0) T47 S51
  have hr' : endsP o.b ((U.sg (k : Int)).1 + 1) (U.ap o.a (cut (U.sg (k : Int)).2.1 (word o.s 0)) (cut (U.sg (k : Int)).2.1 (word o.s 1))).2 (hexOf (U.sg (k : Int)).2.2 2) (U.ap o.a (cut (U.sg (k : Int)).2.1 (word o.s 0)) (cut (U.sg (k : Int)).2.1 (word o.s 1))).1 = (e, n, s) := by
    rw [hk]
    unfold wantO at hr
    rw [if_neg q1, if_neg q2] at hr
    exact hr
  rw [hr']
  refine ⟨_, _, _, _, rfl, newAns (fun b56 w58 lo56 a58 S58 => ?_)⟩
  have T58 := Same.more (B := 0) T51 S58
  have a58' := a12.same T58 a12.lt (by simp)
  exact ⟨_, _, _, _, a58'.c0, a58'.c1, a58'.c2, a58'.c3, _, _, _, _, a58.c0, a58.c1, a58.c2, a58.c3, _, _, eql_ans w58 _ _ _ _ _ _, rfl, F6, y12.keep T58, M12.later T58 (by simp)⟩
end
end Go.Proofs.Qxb6500317aGreat
