/-
  The law Means2: one step, the loop.
-/
import Derived.Test.Qxb6500317aGreatMnK
set_option linter.unusedSimpArgs false
set_option linter.unusedVariables false
set_option maxRecDepth 100000
set_option linter.unusedSectionVars false
set_option maxHeartbeats 1000000
namespace Go.Proofs.Qxb6500317aGreat
open Go Go.Vc

/-- The machine holds the probe. -/
def PMx (W w : World) (A : XA) (F : List Nat) (N gb : Nat) (G P : Int) (Q : HS → Prop) : Prop := ∃ E ms h S fr, E.A = A ∧ E.W = W ∧ (∀ k, E.I k → k < N ∧ k ≠ gb) ∧ E.P = okP tProbe2 ∧ E.fs = fs7 ∧ XL E w F ms h S fr ∧ SW S ∧ MI ms G P ∧ HK h ∧ Q h
/-- Where the law stands. -/
structure LM (W w : World) (A B : XA) (F K : List Nat) (gb : Nat) (G P G' P' : Int) (Q : HS → Prop) : Prop where
  x : PMx W w A F B.n0 gb G P Q
  y : YS w B K
  n : A.n6 ≤ B.n0
  d : ∀ k, k ∈ F → (k < B.n0 ∨ B.n6 ≤ k) ∧ k ∉ K
  g : GhAt w gb G' P'
  z : A.n6 ≤ gb ∧ gb < B.n0 ∧ gb ∉ F
def NoQ : HS → Prop := fun _ => True
section
variable {W w w' : World} {A B : XA} {F K F' K' : List Nat} {gb : Nat} {G P G' P' : Int} {Q : HS → Prop} {o : OpV}
theorem PMx.facts (x : PMx W w A F B.n0 gb G P Q) : Same [] W.heap.size W w ∧ A.n6 ≤ w.heap.size ∧ A.n0 = W.heap.size ∧ ∀ d, d ∈ F → A.n0 ≤ d ∧ d < w.heap.size := by
  obtain ⟨E, ms, h, S, fr, eA, eW, hI, eP, ef, x, hS, m, k, q⟩ := x
  subst eA eW
  have n := x.X.n06
  exact ⟨x.X.sm, x.X.lt, x.X.z0, fun d hd => ⟨by have := x.X.zf d hd; omega, x.X.ho.lF d hd⟩⟩
/-- What is the law's own was touched. -/
theorem LM.mv (L : LM W w A B F K gb G P G' P' Q) {T : List Nat} (hs : Same T w.heap.size w w') (hT : ∀ k, k ∈ T → B.n6 ≤ k ∧ k ∉ F ∧ k ∉ K) : LM W w' A B F K gb G P G' P' Q := by
  obtain ⟨m1, m2, m3⟩ := L.y.n06
  have n := L.n
  have z := L.z
  refine ⟨?_, L.y.mv hs (fun k hk => ⟨.inr (hT k hk).1, (hT k hk).2.2⟩), L.n, L.d, L.g.same hs L.g.lt (fun g => by have := (hT gb g).1; omega), L.z⟩
  obtain ⟨E, ms, h, S, fr, eA, eW, hI, eP, ef, x, hS, m, k, q⟩ := L.x
  subst eA eW
  exact ⟨E, ms, h, S, fr, rfl, rfl, hI, eP, ef, x.mv hs (fun j hj => ⟨by have := (hT j hj).1; omega, (hT j hj).2.1, fun g => by have := (hI j g).1; have := (hT j hj).1; omega⟩), hS, m, k, q⟩
theorem LM.keep (L : LM W w A B F K gb G P G' P' Q) (hs : Same [] w.heap.size w w') : LM W w' A B F K gb G P G' P' Q := L.mv hs (by simp)
/-- The second machine was at work. -/
theorem LM.ystep (L : LM W w A B F K gb G P G' P' Q) (y : YS w' B K') (m : Mvd B K w K' w') : LM W w' A B F K' gb G P G' P' Q := by
  obtain ⟨m1, m2, m3⟩ := L.y.n06
  obtain ⟨f1, f2, f3, f4⟩ := L.x.facts
  have n := L.n
  have z := L.z
  have hs := m.same
  have ng : ¬ Zo B K gb := fun g => by
    rcases g with g | g
    · omega
    · have := m3 gb g; omega
  refine ⟨?_, y, L.n, fun k hk => ⟨(L.d k hk).1, fun g => ?_⟩, ?_, L.z⟩
  · obtain ⟨E, ms, h, S, fr, eA, eW, hI, eP, ef, x, hS, mi, k, q⟩ := L.x
    subst eA eW
    refine ⟨E, ms, h, S, fr, rfl, rfl, hI, eP, ef, x.mv hs (fun j hj => ?_), hS, mi, k, q⟩
    have zj := mem_zl hj
    have lo : B.n0 ≤ j := by
      rcases zj with g | g
      · omega
      · exact (m3 j g).1
    refine ⟨by omega, fun g => ?_, fun g => by have := (hI j g).1; omega⟩
    have dj := L.d j g
    rcases zj with e | e
    · omega
    · exact dj.2 e
  · have dk := L.d k hk
    have nz : ¬ Zo B K k := fun g => by
      rcases g with g | g
      · omega
      · exact dk.2 g
    exact (m.b k (f4 k hk).2 nz).2 (.inr g)
  · exact L.g.same hs L.g.lt (fun g => ng (mem_zl g))
/-- The first machine was at work. -/
theorem LM.xstep {G1 P1 : Int} {Q' : HS → Prop} (L : LM W w A B F K gb G P G' P' Q) (x : PMx W w' A F' B.n0 gb G1 P1 Q') (m : Mvd A F w F' w') : LM W w' A B F' K gb G1 P1 G' P' Q' := by
  obtain ⟨m1, m2, m3⟩ := L.y.n06
  have n := L.n
  have z := L.z
  have hs := m.same
  have ng : ¬ Zo A F gb := fun g => by
    rcases g with g | g
    · omega
    · exact z.2.2 g
  obtain ⟨gb1, gb2⟩ := m.b gb L.g.lt ng
  refine ⟨x, L.y.mv hs (fun k hk => ?_), L.n, fun k hk => ?_, L.g.same hs L.g.lt (fun g => ng (mem_zl g)), z.1, z.2.1, fun g => gb2 (.inr g)⟩
  · rcases mem_zl hk with e | e
    · exact ⟨.inl (by omega), fun g => by have := m3 k g; omega⟩
    · exact L.d k e
  · by_cases q : Zo A F k
    · rcases q with e | e
      · exact ⟨.inl (by omega), fun g => by have := m3 k g; omega⟩
      · exact L.d k e
    · by_cases lt : k < w.heap.size
      · exact absurd (.inr hk) (m.b k lt q).2
      · exact ⟨.inr (by omega), fun g => by have := m3 k g; omega⟩
/-- The ghosts turned. -/
theorem LM.want {G1 P1 : Int} (L : LM W w A B F K gb G P G' P' Q) (g : GhAt w' gb G1 P1) (hs : Same [gb] w.heap.size w w') : LM W w' A B F K gb G P G1 P1 Q := by
  obtain ⟨m1, m2, m3⟩ := L.y.n06
  have n := L.n
  have z := L.z
  refine ⟨?_, L.y.mv hs (fun k hk => ?_), L.n, L.d, g, L.z⟩
  · obtain ⟨E, ms, h, S, fr, eA, eW, hI, eP, ef, x, hS, mi, k, q⟩ := L.x
    subst eA eW
    exact ⟨E, ms, h, S, fr, rfl, rfl, hI, eP, ef, x.mv hs (fun j hj => by
      simp at hj
      subst hj
      exact ⟨z.1, z.2.2, fun g => (hI _ g).2 rfl⟩), hS, mi, k, q⟩
  · simp at hk
    subst hk
    exact ⟨.inl z.2.1, fun g => by have := m3 _ g; omega⟩
theorem want2_bd (hP : 1 ≤ P ∧ P ≤ 2) (hG : 0 ≤ G ∧ G < 4294967296) : (1 ≤ (want2 G P o).2.2 ∧ (want2 G P o).2.2 ≤ 2) ∧ 0 ≤ (want2 G P o).2.1 ∧ (want2 G P o).2.1 < 4294967296 := by
  have a0 : 0 ≤ word o.s 0 % 4294967296 := by omega
  generalize ha : word o.s 0 % 4294967296 = a at a0
  unfold want2 want3
  rw [ha]
  repeat' split
  all_goals first
    | exact ⟨hP, hG⟩
    | (refine ⟨hP, ?_⟩; show 0 ≤ (G + a) % 4294967296 ∧ (G + a) % 4294967296 < 4294967296; omega)
    | (refine ⟨?_, hG⟩; show 1 ≤ P + a ∧ P + a ≤ 2; omega)
/-- One step on the first machine. -/
theorem means_L5 {a : Option Addr} {l c ob : Nat} {i : Int} {nm args : ByteArray} {R : Value → World → Prop} (L : LM W w A B F K gb G P G P Q) (hP : 1 ≤ P ∧ P ≤ 2) (hG : 0 ≤ G ∧ G < 4294967296) (ho : o.Full) (k1 : 1 ≤ o.kind) (k6 : o.kind ≤ 6) (p : OpAt w ob o) (zo : B.n6 ≤ ob ∧ ob ∉ F ∧ ob ∉ K)
    (hI : ∀ E w F ms h S fr, E.P = okP tProbe2 → E.fs = fs7 → XL E w F ms h S fr → SW S → MI ms G P → HK h → Q h → Runs Tryz.prog exec_Exec_Invoke.id #[rp E.A.xb, .string nm, .string args, .int .i64 o.a] w (InvM E (want2 G P o)))
    (hK : ∀ w' F', LM W w' A B F' K gb (want2 G P o).2.1 (want2 G P o).2.2 (want2 G P o).2.1 (want2 G P o).2.2 NoQ → execlaw_Means2UpTo.L4 a l c (some ⟨A.xb, 0, none⟩) (some ⟨gb, 0, none⟩) (some ⟨B.xb, 0, none⟩) i R (fun _ _ => False) w') :
    execlaw_Means2UpTo.L5 a l c (some ⟨A.xb, 0, none⟩) (some ⟨gb, 0, none⟩) (some ⟨B.xb, 0, none⟩) i ob nm args R (fun _ _ => False) w := by
  refine execlaw_Means2UpTo.step5 _ _ _ _ _ _ _ _ _ _ _ _ _ ?_
  unfold execlaw_Means2UpTo.V5
  refine letB_intro fun b1 hb1 => letW_intro fun w2 hw2 => ?_
  have S2 : Same [] w.heap.size w w2 := by rw [hw2]; exact (Same.refl _ _ _).alloc (Nat.le_refl _) _
  have z2 : w2.heap.size = w.heap.size + 1 := by rw [hw2]; simp
  have a2 : AnA w2 b1 0 0 0 ⟨#[]⟩ := by rw [hw2, hb1]; exact AnA.new w _
  clear hw2
  have p2 := p.same S2 p.lt (by simp)
  have L2 := L.keep S2
  obtain ⟨f1, f2, f3, f4⟩ := L.x.facts
  obtain ⟨m1, m2, m3⟩ := L.y.n06
  have n := L.n
  obtain ⟨E, ms, h, S, fr, eA, eW, hIx, eP, ef, x, hS, m, k, q⟩ := L2.x
  subst eA eW
  refine ⟨_, p2.c1, RunsQ.post (hI (E.at w2 F) w2 F ms h S fr eP ef x.rebase hS m k q) ?_⟩
  rintro v w5 ⟨rfl, F5, ms5, h5, S5, fr5, x5, hS5, m5, k5⟩
  have up : ∀ j, E.I j → (E.at w2 F).I j := fun j hj => ⟨(x.iI j hj).2.2, (x.iI j hj).1, (x.iI j hj).2.1⟩
  have Ib : ∀ j, j < w2.heap.size → E.A.n6 ≤ j → j ∉ F → w5.heap[j]? = w2.heap[j]? ∧ E.A.n6 ≤ j ∧ j ∉ F5 ∧ j < w5.heap.size := fun j j1 j2 j3 => ⟨x5.zx j ⟨j1, j2, j3⟩, (x5.iI j ⟨j1, j2, j3⟩).1, (x5.iI j ⟨j1, j2, j3⟩).2.1, (x5.iI j ⟨j1, j2, j3⟩).2.2⟩
  have xl : XL E w5 F5 ms5 h5 S5 fr5 := x.lower x5 up (fun j hj => x5.zx j (up j hj))
  obtain ⟨bb, bz1, bz2, bz3⟩ := Ib b1 (by omega) (by omega) (fun g => by have := f4 b1 g; omega)
  have lob := p.lt
  obtain ⟨bo, oz1, oz2, oz3⟩ := Ib ob (by omega) (by omega) zo.2.1
  have M5 : Mvd E.A F w2 F5 w5 := Mvd.of x.X x5.X (by omega) (fun j j1 j2 j3 => ⟨(Ib j j1 j2 j3).1, (Ib j j1 j2 j3).2.2.1⟩)
  have L5 : LM E.W w5 E.A B F5 K gb (want2 G P o).2.1 (want2 G P o).2.2 G P NoQ := L2.xstep ⟨E, ms5, h5, S5, fr5, rfl, rfl, hIx, eP, ef, xl, hS5, m5, k5, trivial⟩ M5
  have a5 := a2.blk bb
  have p5 := p2.blk bo
  have zb : B.n6 ≤ b1 ∧ b1 ∉ F5 ∧ b1 ∉ K := ⟨by omega, bz2, fun g => by have := m3 b1 g; omega⟩
  have nbo : ob ≠ b1 := by omega
  have lawS : ∀ (u : World) (i : Nat) (vv : Value), Same [b1] u.heap.size u (u.setCell ⟨b1, i, none⟩ vv) := fun u i vv => (Same.refl _ _ _).setCell (.inr (by simp)) _
  have lawT : ∀ j, j ∈ [b1] → B.n6 ≤ j ∧ j ∉ F5 ∧ j ∉ K := by intro j hj; simp at hj; subst hj; exact zb
  have wsp : ∀ u : World, GhAt u gb G P → Runs Tryz.prog execlaw_Want2.id #[.agg #[.int .i64 o.kind, .int .i64 o.a, .int .i64 o.b, .int .i64 o.c, .string o.s, .string o.t], rp gb] u (WaOk u gb (want2 G P o)) := fun u hu => Want2_spec hu hP hG ho k1 k6
  obtain ⟨r, hr⟩ : ∃ r, want2 G P o = r := ⟨_, rfl⟩
  rw [hr] at L5 hK wsp
  obtain ⟨⟨e, n', s⟩, G1, P1⟩ := r
  rw [hr]
  refine ⟨_, _, _, rfl, a5.cans 3 (by omega), letW_intro fun w9 hw9 => ?_⟩
  have a9 := a5.set3 s
  have p9 := p5.same (lawS w5 3 (.string s)) p5.lt (by simp; exact nbo)
  have L9 := L5.mv (lawS w5 3 (.string s)) lawT
  have hw9' : w9 = w5.setCell ⟨b1, 3, none⟩ (.string s) := hw9
  rw [← hw9'] at a9 p9 L9
  refine ⟨a9.cans 1 (by omega), letW_intro fun w10 hw10 => ?_⟩
  have a10 := a9.set1 n'
  have p10 := p9.same (lawS w9 1 (.int .i64 n')) p9.lt (by simp; exact nbo)
  have L10 := L9.mv (lawS w9 1 (.int .i64 n')) lawT
  have hw10' : w10 = w9.setCell ⟨b1, 1, none⟩ (.int .i64 n') := hw10
  rw [← hw10'] at a10 p10 L10
  refine ⟨a10.cans 0 (by omega), letW_intro fun w11 hw11 => ?_⟩
  have a11 := a10.set0 e
  have p11 := p10.same (lawS w10 0 (.int .i64 e)) p10.lt (by simp; exact nbo)
  have L11 := L10.mv (lawS w10 0 (.int .i64 e)) lawT
  have hw11' : w11 = w10.setCell ⟨b1, 0, none⟩ (.int .i64 e) := hw11
  rw [← hw11'] at a11 p11 L11
  clear hw9 hw10 hw11 hw9' hw10' hw11'
  refine ⟨_, _, _, _, _, _, p11.c0, p11.c1, p11.c2, p11.c3, p11.c4, p11.c5, RunsQ.post (wsp w11 L11.g) ?_⟩
  rintro v w19 ⟨rfl, g19, S19⟩
  have L19 := L11.want g19 S19
  have zg := L11.z
  have a19 := a11.same S19 a11.lt (by simp; omega)
  refine ⟨_, _, _, _, rfl, newAns (fun b24 w26 lo24 a26 S26 => ?_)⟩
  have a26' := a19.same S26 a19.lt (by simp)
  exact ⟨_, _, _, _, a26'.c0, a26'.c1, a26'.c2, a26'.c3, _, _, _, _, a26.c0, a26.c1, a26.c2, a26.c3, _, _, neq_ans w26 _ _ _ _ _ _, cond_false' rfl (hK w26 F5 (L19.keep S26))⟩
end
end Go.Proofs.Qxb6500317aGreat
