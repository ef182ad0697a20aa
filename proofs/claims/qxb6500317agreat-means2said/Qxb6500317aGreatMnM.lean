/-
  The law Means2: the loop.
-/
import Derived.Test.Qxb6500317aGreatMnL
set_option linter.unusedSimpArgs false
set_option linter.unusedVariables false
set_option maxRecDepth 100000
set_option linter.unusedSectionVars false
set_option maxHeartbeats 1000000
namespace Go.Proofs.Qxb6500317aGreat
open Go Go.Vc

section
variable {W w w' : World} {A B : XA} {F K F' K' : List Nat} {gb : Nat} {G P G' P' : Int} {Q : HS → Prop} {o : OpV}
/-- The law lays a word on the tape. -/
theorem LM.tape (L : LM W w A B F K gb G P G P Q) (hs : o.s.size = 8) : Runs Tryz.prog exec_Exec_Tape.id #[rp A.xb, .string o.s] w fun v w' => v = .int .i64 0 ∧ LM W w' A B F K gb G P G P (fun h => h.left ≠ 0 ∧ h.tape h.head = word o.s 0) ∧ Mvd A F w F w' := by
  obtain ⟨E, ms, h, S, fr, eA, eW, hI, eP, ef, x, hS, m, k, q⟩ := L.x
  subst eA eW
  obtain ⟨_, _, _, _, ⟨h1, h2⟩, ⟨k1, k2, x1, x2, ne⟩, lt, z0⟩ := x.X.zone
  have n := x.X.n06
  refine RunsQ.post (xTape_spec x.X x.H o.s (by omega)) ?_
  intro v w1 hv
  rw [if_neg (by omega), if_neg (by omega)] at hv
  obtain ⟨rfl, X1, H1, S1⟩ := hv
  have M1 : Mvd E.A F w F w1 := Mvd.of_same S1 (by intro j hj; simp at hj; subst hj; exact .inl ⟨by omega, by omega⟩)
  refine ⟨rfl, L.xstep ⟨E, ms, _, S, fr, rfl, rfl, hI, eP, ef, x.host S1 (by simp) X1.ho (fun d hd => .inl hd), hS, m, ⟨k.n, k.k0, k.k1⟩, ?_, ?_⟩ M1, M1⟩
  · show o.s.size / 8 ≠ 0
    omega
  · show (if 0 < o.s.size / 8 then word o.s 0 else h.tape 0) = word o.s 0
    rw [if_pos (by omega)]
theorem means_loop {a : Option Addr} {l c : Nat} (hA : ScriptAt W a l) : ∀ (f j : Nat) (i : Int) (w : World) (F K : List Nat) (G P : Int), i = (j : Int) → j + f = l → LM W w A B F K gb G P G P NoQ → (1 ≤ P ∧ P ≤ 2) → (0 ≤ G ∧ G < 4294967296) →
    execlaw_Means2UpTo.L2 a l c (some ⟨A.xb, 0, none⟩) (some ⟨gb, 0, none⟩) (some ⟨B.xb, 0, none⟩) i (fun v w' => v = .int .i64 (-1) ∧ Same [] W.heap.size W w') (fun _ _ => False) w := by
  intro f
  induction f with
  | zero =>
    intro j i w F K G P hi hj L hP hG
    obtain ⟨f1, f2, f3, f4⟩ := L.x.facts
    refine execlaw_Means2UpTo.step2 _ _ _ _ _ _ _ _ _ _ ?_
    unfold execlaw_Means2UpTo.V2
    exact cond_false' (decide_eq_false (by omega)) ⟨rfl, f1⟩
  | succ f ih =>
    intro j i w F K G P hi hj L hP hG
    obtain ⟨f1, f2, f3, f4⟩ := L.x.facts
    obtain ⟨m1, m2, m3⟩ := L.y.n06
    have n := L.n
    refine execlaw_Means2UpTo.step2 _ _ _ _ _ _ _ _ _ _ ?_
    unfold execlaw_Means2UpTo.V2
    refine cond_true' (decide_eq_true (by omega)) ?_
    by_cases big : i < 4398046511104
    rotate_left
    · exact cond_false' (decide_eq_false big) ⟨rfl, f1⟩
    refine cond_true' (decide_eq_true big) ?_
    refine execlaw_Means2UpTo.step3 _ _ _ _ _ _ _ _ _ _ ?_
    unfold execlaw_Means2UpTo.V3
    rcases hA with h0 | ⟨b, off, rfl, hops⟩
    · omega
    obtain ⟨o, ho, oc⟩ := hops j (by omega)
    have oc := oc.same f1
    refine ⟨by omega, ?_⟩
    have ei : Int.toNat i = j := by omega
    simp only [nilV_some, add_mk, ei]
    refine ⟨_, _, _, _, _, _, oc.c0, oc.c1, oc.c2, oc.c3, oc.c4, oc.c5, newOp (fun ob w10 lo p10 S10 => ?_)⟩
    have L10 := L.keep S10
    have skip : ∀ (w1 : World) (F1 K1 : List Nat) (G1 P1 : Int), LM W w1 A B F1 K1 gb G1 P1 G1 P1 NoQ → (1 ≤ P1 ∧ P1 ≤ 2) → (0 ≤ G1 ∧ G1 < 4294967296) → execlaw_Means2UpTo.L4 (some ⟨b, off, none⟩) l c (some ⟨A.xb, 0, none⟩) (some ⟨gb, 0, none⟩) (some ⟨B.xb, 0, none⟩) i (fun v w' => v = .int .i64 (-1) ∧ Same [] W.heap.size W w') (fun _ _ => False) w1 := by
      intro w1 F1 K1 G1 P1 L1 hP1 hG1
      refine execlaw_Means2UpTo.step4 _ _ _ _ _ _ _ _ _ _ ?_
      unfold execlaw_Means2UpTo.V4
      rw [wrap_i64 (by omega) (by omega)]
      exact ih (j + 1) (i + 1) w1 F1 K1 G1 P1 (by omega) (by omega) L1 hP1 hG1
    refine ⟨_, p10.c0, ?_⟩
    by_cases k7 : o.kind = 7
    · refine cond_true' (by rw [k7]; rfl) ⟨_, _, _, _, _, _, p10.c0, p10.c1, p10.c2, p10.c3, p10.c4, p10.c5, RunsQ.post (KeptOp_spec L10.y ho) ?_⟩
      rintro v w19 ⟨rfl, K', y', m'⟩
      exact ⟨_, rfl, cond_false' rfl (skip w19 F K' G P (L10.ystep y' m') hP hG)⟩
    refine cond_false' (ne_beq k7) ⟨_, p10.c0, RunsQ.post (execlaw_named2.pure _ _) ?_⟩
    rintro v w30 ⟨rfl, hw30⟩
    subst hw30
    refine ⟨_, _, rfl, ?_⟩
    have zo : B.n6 ≤ ob ∧ ob ∉ F ∧ ob ∉ K := ⟨by omega, fun g => by have := f4 ob g; omega, fun g => by have := m3 ob g; omega⟩
    have bd := want2_bd (o := o) hP hG
    have sz := ho.s
    have a1 := ho.a1
    by_cases k1 : o.kind = 1
    · have en : execlaw_named2.F o.kind = (⟨#[115, 117, 98]⟩, 2) := by rw [k1]; rfl
      rw [en]
      refine cond_false' (by kernel_rfl) ⟨_, p10.c4, _, p10.c0, cond_false' (ne_beq (by omega)) ?_⟩
      exact means_L5 L10 hP hG ho (by omega) (by omega) p10 zo (fun E u F ms h S fr eP ef x hS m k _ => inv_sub ef eP x hS m k hP sz a1 k1) (fun w' F' L' => skip w' F' K _ _ L' bd.1 bd.2)
    by_cases k2 : o.kind = 2
    · have en : execlaw_named2.F o.kind = (⟨#[112, 105, 99, 107]⟩, 2) := by rw [k2]; rfl
      rw [en]
      refine cond_false' (by kernel_rfl) ⟨_, p10.c4, _, p10.c0, cond_false' (ne_beq (by omega)) ?_⟩
      exact means_L5 L10 hP hG ho (by omega) (by omega) p10 zo (fun E u F ms h S fr eP ef x hS m k _ => inv_pick ef eP x hS m k sz a1 k2) (fun w' F' L' => skip w' F' K _ _ L' bd.1 bd.2)
    by_cases k3 : o.kind = 3
    · have en : execlaw_named2.F o.kind = (⟨#[109, 101, 109]⟩, 2) := by rw [k3]; rfl
      rw [en]
      refine cond_false' (by kernel_rfl) ⟨_, p10.c4, _, p10.c0, cond_false' (ne_beq (by omega)) ?_⟩
      exact means_L5 L10 hP hG ho (by omega) (by omega) p10 zo (fun E u F ms h S fr eP ef x hS m k _ => inv_mem ef eP x hS m k hP sz a1 k3) (fun w' F' L' => skip w' F' K _ _ L' bd.1 bd.2)
    by_cases k4 : o.kind = 4
    · have en : execlaw_named2.F o.kind = (⟨#[103, 97, 100, 100]⟩, 1) := by rw [k4]; rfl
      rw [en]
      refine cond_false' (by kernel_rfl) ⟨_, p10.c4, _, p10.c0, cond_false' (ne_beq (by omega)) ?_⟩
      exact means_L5 L10 hP hG ho (by omega) (by omega) p10 zo (fun E u F ms h S fr eP ef x hS m k _ => inv_gadd ef eP x hS m k hG sz a1 k4) (fun w' F' L' => skip w' F' K _ _ L' bd.1 bd.2)
    by_cases k5 : o.kind = 5
    · have en : execlaw_named2.F o.kind = (⟨#[103, 114, 111, 119]⟩, 1) := by rw [k5]; rfl
      rw [en]
      refine cond_false' (by kernel_rfl) ⟨_, p10.c4, _, p10.c0, cond_false' (ne_beq (by omega)) ?_⟩
      exact means_L5 L10 hP hG ho (by omega) (by omega) p10 zo (fun E u F ms h S fr eP ef x hS m k _ => inv_grow ef eP x hS m k hP sz a1 k5) (fun w' F' L' => skip w' F' K _ _ L' bd.1 bd.2)
    by_cases k6 : o.kind = 6
    · have en : execlaw_named2.F o.kind = (⟨#[104, 111, 115, 116]⟩, 0) := by rw [k6]; rfl
      rw [en]
      refine cond_false' (by kernel_rfl) ⟨_, p10.c4, _, p10.c0, cond_true' (by rw [k6]; rfl) ⟨_, p10.c4, ?_⟩⟩
      by_cases s8 : o.s.size = 8
      · refine cond_false' (by rw [s8]; rfl) ⟨_, p10.c4, RunsQ.post (L10.tape s8) ?_⟩
        rintro v w38 ⟨rfl, L38, M38⟩
        have nz : ¬ Zo A F ob := fun g => by
          rcases g with g | g
          · omega
          · exact zo.2.1 g
        have p38 : OpAt w38 ob o := p10.blk (M38.b ob p10.lt nz).1
        refine ⟨_, rfl, ?_⟩
        exact means_L5 L38 hP hG ho (by omega) (by omega) p38 zo (fun E u F ms h S fr eP ef x hS m k q => inv_host ef eP x hS m k a1 k6 q.1 q.2) (fun w' F' L' => skip w' F' K _ _ L' bd.1 bd.2)
      · exact cond_true' (by simp; omega) (skip _ F K G P L10 hP hG)
    · have en : execlaw_named2.F o.kind = (⟨#[]⟩, 0) := by
        unfold execlaw_named2.F
        rw [ne_beq k1, ne_beq k2, ne_beq k3, ne_beq k4, ne_beq k5, ne_beq k6]
        rfl
      rw [en]
      exact cond_true' (by simp) (skip _ F K G P L10 hP hG)
theorem MI.init {ms : M.MS} (s1 : ms.has = true) (s2 : ms.n = 64) (s3 : ms.cap = 128) (s4 : ms.ng = 2) (s5 : ms.glob 0 = 7) : MI (ms.setGlobal ((1 : Nat) : Int) 1144201745).2 7 1 := by
  have e : (ms.setGlobal ((1 : Nat) : Int) 1144201745).2 = { ms with glob := M.upd ms.glob 1 1144201745 } := by
    unfold M.MS.setGlobal
    rw [if_pos (by rw [s4]; omega)]; rfl
  rw [e]
  exact ⟨s1, by show ((ms.n : Nat) : Int) = 64 * 1; rw [s2]; rfl, s3, s4, s5, rfl⟩
theorem Means2UpTo_spec {a : Option Addr} {l c : Nat} (hA : ScriptAt w a l) : Runs Tryz.prog execlaw_Means2UpTo.id #[.slice a l c] w fun v w' => v = .int .i64 (-1) ∧ Same [] w.heap.size w w' := by
  refine execlaw_Means2UpTo.enter _ _ _ _ _ _ ?_
  unfold execlaw_Means2UpTo.V
  refine RunsQ.post (Machine_spec w) ?_
  rintro v w5 ⟨A, F, rfl, X5, E5⟩
  obtain ⟨n1, n2, n3, n4⟩ := n7
  have sw0 : SW (fun _ => 0) := fun j => ⟨Int.le_refl _, show (0 : Int) < 18446744073709551616 by decide⟩
  refine ⟨_, rfl, ?_⟩
  refine Load_spec (kk := fun i => if i = 0 then 1 else 3) (nb := 2) X5 E5 tk7 3 (fun i hi => ?_) (.inl (by rw [n1])) (fun g => absurd (st7 _) g) (fun _ g => absurd g (by rw [n4]; decide)) (fun _ _ w0 I mb cdb fb nbs v7 ga gc w6 F' x6 nI fr6 => ?_)
  · have : i = 0 ∨ i = 1 := by omega
    rcases this with rfl | rfl
    · exact .inl ⟨by kernel_rfl, rfl⟩
    · exact .inr (.inr ⟨by kernel_rfl, rfl⟩)
  obtain ⟨s1, s2, s3, s4, s5, s6⟩ := set7 M.ms0
  generalize (settleP (okP tProbe2) 2 M.ms0).2.2.2 = ms1 at x6 s1 s2 s3 s4 s5 s6
  have l6 : ∀ k, I k → k < w6.heap.size := fun k hk => (x6.iI k hk).2.2
  rw [n4, show (if (3 : Int) < 0 then 0 else 3) = (3 : Int) from rfl]
  have ri := run_init (E := ⟨w, w0, A, I, mb, cdb, fb, nbs, okP tProbe2, fs7, v7, ga, gc⟩) (R := fun v w2 => ∃ left, v = .tuple #[.int .i64 left, .int .i64 0] ∧ ∃ x9 : Int, ∃ x10 : Int, ∃ x11 : Int, (Value.tuple #[.int .i64 left, .int .i64 0, .int .i64 0] = (.tuple #[(.int .i64 x9), (.int .i64 x10), (.int .i64 x11)]) ∧ (cond (x9 != (0 : Int)) ((fun v w' => v = Value.int .i64 (-1) ∧ Same [] w.heap.size w w') (.int .i64 0) w2) (cond (x10 != (0 : Int)) ((fun v w' => v = Value.int .i64 (-1) ∧ Same [] w.heap.size w w') (.int .i64 0) w2) (cond (x11 != (0 : Int)) ((fun v w' => v = Value.int .i64 (-1) ∧ Same [] w.heap.size w w') (.int .i64 0) w2) (execlaw_Means2UpTo.L1 a l c (some ⟨A.xb, 0, none⟩) (fun v w' => v = Value.int .i64 (-1) ∧ Same [] w.heap.size w w') (fun _ _ => False) w2)))))) rfl rfl x6 sw0 s6 s2 s4 (fun w8 F8 S8 fr8 x8 sw8 => ?_)
  · exact ri
  refine ⟨0, rfl, _, _, _, rfl, cond_false' rfl (cond_false' rfl (cond_false' rfl ?_))⟩
  refine execlaw_Means2UpTo.step1 _ _ _ _ _ _ _ ?_
  unfold execlaw_Means2UpTo.V1
  refine letB_intro fun gb hgb => letW_intro fun w9 hw9 => ?_
  have S9 : Same [] w8.heap.size w8 w9 := by rw [hw9]; exact (Same.refl _ _ _).alloc (Nat.le_refl _) _
  have z9 : w9.heap.size = w8.heap.size + 1 := by rw [hw9]; simp
  have g9 : GhAt w9 gb 7 1 := by
    rw [hw9, hgb]
    exact ⟨by rw [World.cell?_alloc_new]; rfl, by rw [World.cell?_alloc_new]; rfl, fun j => World.frozen?_alloc_new _ _ _ _⟩
  clear hw9
  refine RunsQ.post (Machine_spec w9) ?_
  rintro v w4 ⟨B, K, rfl, X4, E4⟩
  refine ⟨_, rfl, ?_⟩
  have z4 := X4.z0
  have n4' := X4.n06
  have lt8 : A.n6 ≤ w8.heap.size := x8.X.lt
  have lF8 := x8.X.ho.lF
  have iI8 : ∀ k, I k → k < w8.heap.size := fun k hk => (x8.iI k hk).2.2
  have T4 : Same [] w8.heap.size w8 w4 := Same.more (B := 0) S9 X4.sm
  have mi := MI.init s1 s2 s3 s4 s5
  have L4 : LM w w4 A B F8 K gb 7 1 7 1 NoQ := by
    have hk : HK (bindH hs0.cleared (fun i => if i = 0 then 1 else 3) 2) := ⟨rfl, rfl, rfl⟩
    have px : PMx w w4 A F8 B.n0 gb 7 1 NoQ := ⟨⟨w, w0, A, I, mb, cdb, fb, nbs, okP tProbe2, fs7, v7, ga, gc⟩, _, _, S8, fr8, rfl, rfl, fun k hk => ⟨by have := iI8 k hk; omega, by have := iI8 k hk; omega⟩, rfl, rfl, x8.keep T4, sw8, mi, hk, trivial⟩
    refine ⟨px, ⟨_, _, _, _, _, _, _, _, _, X4, E4, sw0⟩, by omega, fun k hk => ?_, g9.same X4.sm g9.lt (by simp), by omega, by omega, fun g => by have := lF8 gb g; omega⟩
    have lk := lF8 k hk
    exact ⟨.inl (by omega), fun g => by have := X4.zf k g; omega⟩
  exact means_loop hA l 0 0 w4 F8 K 7 1 rfl (by omega) L4 (by omega) (by omega)
theorem Means2_spec (w : World) (a : Option Addr) (l c : Nat) (hA : ScriptAt w a l) : Runs Tryz.prog execlaw_Means2.id #[.slice a l c] w fun v w' => v = .bool true ∧ Same [] w.heap.size w w' := by
  refine execlaw_Means2.enter _ _ _ _ _ _ ?_
  unfold execlaw_Means2.V
  refine RunsQ.post (Means2UpTo_spec hA) ?_
  rintro v w5 ⟨rfl, S5⟩
  exact ⟨_, rfl, rfl, S5⟩
end
end Go.Proofs.Qxb6500317aGreat
