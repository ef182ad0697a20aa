/-
  The equality: Refines, RefinesQuiet.
-/
import Derived.Test.Qxb6500322aRvA
import Derived.Laws.StructEq
set_option linter.unusedSimpArgs false
set_option linter.unusedVariables false
set_option maxRecDepth 100000
set_option linter.unusedSectionVars false
namespace Go.Proofs.Qxb6500322a
open Go Go.Vc

theorem neq_ans (w : World) (x y : Operand) (e n k : Int) (t : ByteArray) :
    Sem.run Try.prog ((do eqGuard .neq T_api_Ans x y (.agg #[.int .i64 e, .int .i64 n, .int .i64 k, .string t]) (.agg #[.int .i64 e, .int .i64 n, .int .i64 k, .string t]); Go.binOp .neq T_api_Ans (.agg #[.int .i64 e, .int .i64 n, .int .i64 k, .string t]) (.agg #[.int .i64 e, .int .i64 n, .int .i64 k, .string t]))) w = .ok (.bool false) w := by
  have hm : Try.prog.eqGuardType Try.prog.depth T_api_Ans = false := by kernel_rfl
  have ht : Try.prog.underlying T_api_Ans = some (.struct (Try.prog.fieldsOf T_api_Ans)) := by kernel_rfl
  have hp : Try.prog.stoodInHeld T_api_Ans = false := by kernel_rfl
  have hf : (Try.prog.fieldsOf T_api_Ans).toList = [⟨"E", (45 : Nat), 0, false, "", "", 0⟩, ⟨"N", (3 : Nat), 1, false, "", "", 8⟩, ⟨"M", (3 : Nat), 2, false, "", "", 16⟩, ⟨"S", (9 : Nat), 3, false, "", "", 24⟩] := by kernel_rfl
  have q27 : ∀ (cs : Array Value) (i : Nat) (v : Value) (w : World), cs[i]? = some v → (part (45 : Nat) cs i).run Try.prog w = .ok v w := fun cs i v w hv => by
    have hia : (isAgg (45 : Nat)).run Try.prog w = .ok false w := by kernel_rfl
    simp [part, hia, hv]
  have q3 : ∀ (cs : Array Value) (i : Nat) (v : Value) (w : World), cs[i]? = some v → (part (3 : Nat) cs i).run Try.prog w = .ok v w := fun cs i v w hv => by
    have hia : (isAgg (3 : Nat)).run Try.prog w = .ok false w := by kernel_rfl
    simp [part, hia, hv]
  have q9 : ∀ (cs : Array Value) (i : Nat) (v : Value) (w : World), cs[i]? = some v → (part (9 : Nat) cs i).run Try.prog w = .ok v w := fun cs i v w hv => by
    have hia : (isAgg (9 : Nat)).run Try.prog w = .ok false w := by kernel_rfl
    simp [part, hia, hv]
  have e27 : ∀ (a : Int) (w : World), (Op.equalIn 9999 (45 : Nat) (.int .i64 a) (.int .i64 a)).run Try.prog w = .ok true w := fun a w => by
    have := run_equalIn_int (P := Try.prog) w 9998 (45 : Nat) .i64 .i64 a a (by kernel_rfl)
    simpa using this
  have e3 : ∀ (a : Int) (w : World), (Op.equalIn 9999 (3 : Nat) (.int .i64 a) (.int .i64 a)).run Try.prog w = .ok true w := fun a w => by
    have := run_equalIn_int (P := Try.prog) w 9998 (3 : Nat) .i64 .i64 a a (by kernel_rfl)
    simpa using this
  have e9 : ∀ (a : ByteArray) (w : World), (Op.equalIn 9999 (9 : Nat) (.string a) (.string a)).run Try.prog w = .ok true w := fun a w => by
    have := run_equalIn_string (P := Try.prog) w 9998 (9 : Nat) a a (by kernel_rfl)
    simpa using this
  have p0 : ∀ w, (part (45 : Nat) #[.int .i64 e, .int .i64 n, .int .i64 k, .string t] 0).run Try.prog w = .ok (.int .i64 e) w := fun w => q27 _ _ _ w rfl
  have p1 : ∀ w, (part (3 : Nat) #[.int .i64 e, .int .i64 n, .int .i64 k, .string t] 1).run Try.prog w = .ok (.int .i64 n) w := fun w => q3 _ _ _ w rfl
  have p2 : ∀ w, (part (3 : Nat) #[.int .i64 e, .int .i64 n, .int .i64 k, .string t] 2).run Try.prog w = .ok (.int .i64 k) w := fun w => q3 _ _ _ w rfl
  have p3 : ∀ w, (part (9 : Nat) #[.int .i64 e, .int .i64 n, .int .i64 k, .string t] 3).run Try.prog w = .ok (.string t) w := fun w => q9 _ _ _ w rfl
  rw [Sem.run_bind, run_eqGuard_agg (P := Try.prog) w .neq T_api_Ans x y _ _ hm, Result.andThen_ok, run_neq_struct, show (10000 : Nat) = 9999 + 1 from rfl, run_equalIn_struct w _ T_api_Ans _ _ ht hp, hf]
  simp [Op.eqFields, p0, p1, p2, p3, e27, e3, e9]

section
variable {w0 w w' : World} {bb b bi bt vb : Nat}
/-- What holds between two steps. -/
structure KR (w0 w : World) (bb b bi bt vb : Nat) : Prop where
  l1 : w0.heap.size ≤ b
  l2 : w0.heap.size ≤ bi
  l3 : w0.heap.size ≤ bt
  l4 : w0.heap.size ≤ vb
  S : Same [] w0.heap.size w0 w
  h : RV w b bi bt vb
  c : w.cell? ⟨bb, 0, none⟩ = some (rp b)
  m1 : bb ≠ b
  m2 : bb ≠ bi
  m3 : bb ≠ bt
  m4 : bb ≠ vb
theorem KR.keep (C : KR w0 w bb b bi bt vb) (hS : Same [] w.heap.size w w') : KR w0 w' bb b bi bt vb :=
  ⟨C.l1, C.l2, C.l3, C.l4, C.S.trans (hS.mono C.S.size (by simp)), C.h.keep hS, by rw [hS.cell (p := ⟨bb, 0, none⟩) (cell_lt C.c) (by simp)]; exact C.c, C.m1, C.m2, C.m3, C.m4⟩
theorem KR.drew (C : KR w0 w bb b bi bt vb) : KR w0 w.drew bb b bi bt vb := C.keep (Same.refl _ _ _).drew
theorem KR.call (C : KR w0 w bb b bi bt vb) (hR : RV w' b bi bt vb) (hS : Same [b, bi, bt, vb] w.heap.size w w') : KR w0 w' bb b bi bt vb := by
  have a1 := C.l1; have a2 := C.l2; have a3 := C.l3; have a4 := C.l4
  have m1 := C.m1; have m2 := C.m2; have m3 := C.m3; have m4 := C.m4
  exact ⟨C.l1, C.l2, C.l3, C.l4, C.S.trans (hS.mono C.S.size (fun k hk hl => by simp at hk; omega)), hR, by rw [hS.cell (p := ⟨bb, 0, none⟩) (cell_lt C.c) (by simp; omega)]; exact C.c, m1, m2, m3, m4⟩
/-- A block of an answer, made meanwhile. -/
structure GA (w0 W : World) (bb b bi bt vb q : Nat) : Prop where
  c : ∃ e n k s, AnA W q e n k s
  l : w0.heap.size ≤ q
  a1 : q ≠ b
  a2 : q ≠ bi
  a3 : q ≠ bt
  a4 : q ≠ vb
  a5 : q ≠ bb
theorem GA.call {q : Nat} (g : GA w0 w bb b bi bt vb q) (hS : Same [b, bi, bt, vb] w.heap.size w w') : GA w0 w' bb b bi bt vb q := by
  obtain ⟨e, n, k, s, A⟩ := g.c
  have a1 := g.a1; have a2 := g.a2; have a3 := g.a3; have a4 := g.a4
  exact ⟨⟨e, n, k, s, A.same hS A.lt (by simp; omega)⟩, g.l, a1, a2, a3, a4, g.a5⟩
theorem KR.alloc {q : Nat} (C : KR w0 w bb b bi bt vb) (hb : q = w.heap.size) (hw : w' = w.alloc (.cells #[(.int .i64 0), (.int .i64 0), (.int .i64 0), (.string ⟨#[]⟩)] T_api_Ans)) : KR w0 w' bb b bi bt vb ∧ GA w0 w' bb b bi bt vb q := by
  have S : Same [] w.heap.size w w' := by rw [hw]; exact (Same.refl _ _ _).alloc (Nat.le_refl _) _
  obtain ⟨q1, q2, q3, q4⟩ := C.h.lts
  have q5 : bb < w.heap.size := cell_lt C.c
  refine ⟨C.keep S, ⟨⟨0, 0, 0, _, by rw [hw, hb]; exact AnA.new w _⟩, by rw [hb]; exact C.S.size, by omega, by omega, by omega, by omega, by omega⟩⟩
/-- The real side's answer stands at p. -/
structure KP (w0 w : World) (bb b bi bt vb p : Nat) (o : OpV) : Prop where
  K : KR w0 w bb b bi bt vb
  A : AnA w p (ansE o) (ansN o) (ansM o) ⟨#[]⟩
  l : w0.heap.size ≤ p
  a1 : p ≠ b
  a2 : p ≠ bi
  a3 : p ≠ bt
  a4 : p ≠ vb
  a5 : p ≠ bb
variable {p : Nat} {o : OpV}
theorem KP.keep (C : KP w0 w bb b bi bt vb p o) (hS : Same [] w.heap.size w w') : KP w0 w' bb b bi bt vb p o := ⟨C.K.keep hS, C.A.same hS C.A.lt (by simp), C.l, C.a1, C.a2, C.a3, C.a4, C.a5⟩
theorem KP.drew (C : KP w0 w bb b bi bt vb p o) : KP w0 w.drew bb b bi bt vb p o := C.keep (Same.refl _ _ _).drew
theorem KP.call (C : KP w0 w bb b bi bt vb p o) (hR : RV w' b bi bt vb) (hS : Same [b, bi, bt, vb] w.heap.size w w') : KP w0 w' bb b bi bt vb p o := by
  have a1 := C.a1; have a2 := C.a2; have a3 := C.a3; have a4 := C.a4
  exact ⟨C.K.call hR hS, C.A.same hS C.A.lt (by simp; omega), C.l, a1, a2, a3, a4, C.a5⟩
theorem KP.alloc {q : Nat} (C : KP w0 w bb b bi bt vb p o) (hb : q = w.heap.size) (hw : w' = w.alloc (.cells #[(.int .i64 0), (.int .i64 0), (.int .i64 0), (.string ⟨#[]⟩)] T_api_Ans)) : KP w0 w' bb b bi bt vb p o ∧ GA w0 w' bb b bi bt vb q ∧ q ≠ p := by
  have S : Same [] w.heap.size w w' := by rw [hw]; exact (Same.refl _ _ _).alloc (Nat.le_refl _) _
  have := C.A.lt
  exact ⟨C.keep S, (C.K.alloc hb hw).2, by omega⟩
theorem Seen_spec (V : VGAt w vb) (x : Option Addr) : Runs Try.prog validlaw_Seen.id #[rp vb, .pointer x] w fun v w' => v = .bool true ∧ Same [] w.heap.size w w' := by
  refine validlaw_Seen.enter _ _ _ _ _ ?_
  unfold validlaw_Seen.V
  refine RunsQ.post (valid_Valid_Show.pure _ w) ?_
  rintro v w1 ⟨rfl, rfl⟩
  refine ⟨_, rfl, RunsQ.post (validm_Valid_Show.pure x w1) ?_⟩
  rintro v w2 ⟨rfl, rfl⟩
  refine ⟨_, rfl, cond_false' (by show (!(ByteArray.toList ⟨#[]⟩ == ByteArray.toList ⟨#[]⟩)) = false; rw [beq_self_eq_true]; rfl) (RunsQ.post (Check_spec V) ?_)⟩
  rintro v w3 ⟨rfl, S3⟩
  refine ⟨_, rfl, RunsQ.post (mchk x w3) ?_⟩
  rintro v w4 ⟨rfl, S4⟩
  exact ⟨_, rfl, cond_true' rfl ⟨rfl, S3.trans (S4.mono S3.size (by simp))⟩⟩

theorem walk_loop (w0 : World) (sa : Option Addr) (l c : Nat) (hs : ScriptAt w0 sa l) (quiet : Bool) (bb b bi bt vb : Nat) (x : Option Addr) (R Q : Value → World → Prop) (hQ : Q = fun _ _ => False) (hR : ∀ w' (n : Int), Same [] w0.heap.size w0 w' → R (.tuple #[.int .i64 (-1), .int .i64 n]) w') :
    ∀ (f i : Nat) (w : World), i + f = l → KR w0 w bb b bi bt vb → validlaw_walk.L2 sa l c quiet bb (some ⟨vb, 0, none⟩) x i R Q w := by
  subst hQ
  have L4 : ∀ (n : Int) (w1 : World), Same [] w0.heap.size w0 w1 → validlaw_walk.L4 n R (fun _ _ => False) w1 := fun n w1 S1 => by
    refine validlaw_walk.step4 _ _ _ _ ?_
    unfold validlaw_walk.V4
    exact hR w1 n S1
  intro f
  induction f with
  | zero =>
    intro i w hi C
    refine validlaw_walk.step2 _ _ _ _ _ _ _ _ _ _ _ ?_
    unfold validlaw_walk.V2
    exact cond_false' (by simp; omega) (L4 _ w C.S)
  | succ f ih =>
    intro i w hi C
    refine validlaw_walk.step2 _ _ _ _ _ _ _ _ _ _ _ ?_
    unfold validlaw_walk.V2
    refine cond_true' (by simp; omega) ?_
    generalize hM : (4398046511104 : Int) = M
    refine cond_intro (fun hm => ?_) (fun hm => L4 _ w C.S)
    subst hM
    have hm : (i : Int) < 4398046511104 := of_decide_eq_true hm
    rcases hs with h0 | ⟨sb, off, rfl, hs⟩
    · omega
    obtain ⟨o, hF, hO0⟩ := hs i (by omega)
    have L7 : ∀ w1, KR w0 w1 bb b bi bt vb → validlaw_walk.L7 (some ⟨sb, off, none⟩) l c quiet bb (some ⟨vb, 0, none⟩) x i R (fun _ _ => False) w1 := fun w1 C1 => by
      refine validlaw_walk.step7 _ _ _ _ _ _ _ _ _ _ _ ?_
      unfold validlaw_walk.V7
      have e : IntKind.wrap .i64 ((i : Int) + 1) = ((i + 1 : Nat) : Int) := by rw [wrap_i64 (by omega) (by omega)]; omega
      rw [e]
      exact ih (i + 1) w1 (by omega) C1
    have L6 : ∀ w1 p q, KP w0 w1 bb b bi bt vb p o → AnA w1 q (ansE o) (ansN o) (ansM o) ⟨#[]⟩ → validlaw_walk.L6 (some ⟨sb, off, none⟩) l c quiet bb (some ⟨vb, 0, none⟩) x i p q R (fun _ _ => False) w1 := fun w1 p q C1 A1 => by
      refine validlaw_walk.step6 _ _ _ _ _ _ _ _ _ _ _ _ _ ?_
      unfold validlaw_walk.V6
      refine ⟨_, _, _, _, C1.A.c0, C1.A.c1, C1.A.c2, C1.A.c3, _, _, _, _, A1.c0, A1.c1, A1.c2, A1.c3, false, w1, neq_ans w1 _ _ _ _ _ _, cond_false' rfl ?_⟩
      refine cond_intro (fun _ => RunsQ.post (Seen_spec C1.K.h.V x) ?_) (fun _ => L7 w1 C1.K)
      rintro v w2 ⟨rfl, S2⟩
      exact ⟨_, rfl, cond_false' rfl (L7 w2 (C1.K.keep S2))⟩
    have hi0 : (0 : Int) ≤ (i : Int) := by omega
    have hil : (i : Int) < ((l : Nat) : Int) := by omega
    have L5 : ∀ w1 p, KP w0 w1 bb b bi bt vb p o → validlaw_walk.L5 (some ⟨sb, off, none⟩) l c quiet bb (some ⟨vb, 0, none⟩) x i p R (fun _ _ => False) w1 := fun w1 p C1 => by
      have fin : ∀ W q, KP w0 W bb b bi bt vb p o → GA w0 W bb b bi bt vb q → q ≠ p → putCells W ⟨q, 0, none⟩ [(.int .i64 (ansE o)), (.int .i64 (ansN o)), (.int .i64 (ansM o)), (.string ⟨#[]⟩)] fun w3 => validlaw_walk.L6 (some ⟨sb, off, none⟩) l c quiet bb (some ⟨vb, 0, none⟩) x i p q R (fun _ _ => False) w3 := fun W q K2 g hq => by
        obtain ⟨e, n, k, s, A⟩ := g.c
        refine putCells_intro q _ 0 W _ (fun j hj => by rw [Nat.zero_add]; exact A.cans j hj) (fun w3 hF => ?_)
        have A3 := A.fill hF
        have S3 : Same [q] W.heap.size W w3 := hF.same _
        have g1 := g.a1; have g2 := g.a2; have g3 := g.a3; have g4 := g.a4; have g5 := g.a5; have gl := g.l
        have KK := K2.K
        obtain ⟨cc, hB⟩ := KK.h.B
        obtain ⟨q1, q2, q3, q4⟩ := KK.h.lts
        refine L6 w3 p q ⟨⟨KK.l1, KK.l2, KK.l3, KK.l4, KK.S.trans (S3.mono KK.S.size (fun k hk hl => by simp at hk; omega)), ⟨⟨cc, BN.go hB S3 (by simp; omega) (by simp; omega) (by simp; omega)⟩, KK.h.V.same S3 q4 (by simp; omega), KK.h.n1, KK.h.n2, KK.h.n3⟩, by rw [S3.cell (p := ⟨bb, 0, none⟩) (cell_lt KK.c) (by simp; omega)]; exact KK.c, KK.m1, KK.m2, KK.m3, KK.m4⟩, K2.A.same S3 K2.A.lt (by simp; omega), K2.l, K2.a1, K2.a2, K2.a3, K2.a4, K2.a5⟩ A3
      refine validlaw_walk.step5 _ _ _ _ _ _ _ _ _ _ _ _ ?_
      unfold validlaw_walk.V5
      have K1 := C1.drew
      have fc : ∀ {W : World}, KP w0 W bb b bi bt vb p o → W.cell? ⟨bb, 0, none⟩ = some (rp b) := fun h => h.K.c
      have fo : ∀ {W : World}, KP w0 W bb b bi bt vb p o → OpCells W sb (off + i * 6) o := fun h => hO0.same h.K.S
      clear C1 hF
      repeat' first
        | exact trivial
        | exact fin _ _ (by assumption) (by assumption) (by assumption)
        | (simp only [add_mk, Int.toNat_natCast])
        | refine nilV_in ?_
        | refine ⟨⟨hi0, hil⟩, ?_⟩
        | refine ⟨_, fc (by assumption), ?_⟩
        | refine ⟨_, _, _, _, _, _, (fo (by assumption)).c0, (fo (by assumption)).c1, (fo (by assumption)).c2, (fo (by assumption)).c3, (fo (by assumption)).c4, (fo (by assumption)).c5, ?_⟩
        | (refine RunsQ.post (DoM_spec (KP.K (by assumption)).h x o) ?_
           rintro v w' ⟨rfl, hR', hS'⟩
           have KX := KP.call (by assumption) hR' hS'
           try (have GX := GA.call (by assumption) hS')
           clear hR' hS'
           refine ⟨_, _, _, _, rfl, ?_⟩)
        | (refine letB_intro fun b hb => letW_intro fun w' hw => ?_
           obtain ⟨kx, gx, nx⟩ := KP.alloc (by assumption) hb hw
           clear hb hw)
        | refine And.intro ?_ ?_
    have fin : ∀ W q, KR w0 W bb b bi bt vb → GA w0 W bb b bi bt vb q → putCells W ⟨q, 0, none⟩ [(.int .i64 (ansE o)), (.int .i64 (ansN o)), (.int .i64 (ansM o)), (.string ⟨#[]⟩)] fun w3 => validlaw_walk.L5 (some ⟨sb, off, none⟩) l c quiet bb (some ⟨vb, 0, none⟩) x i q R (fun _ _ => False) w3 := fun W q KK g => by
      obtain ⟨e, n, k, s, A⟩ := g.c
      refine putCells_intro q _ 0 W _ (fun j hj => by rw [Nat.zero_add]; exact A.cans j hj) (fun w3 hF => ?_)
      have A3 := A.fill hF
      have S3 : Same [q] W.heap.size W w3 := hF.same _
      have g1 := g.a1; have g2 := g.a2; have g3 := g.a3; have g4 := g.a4; have g5 := g.a5; have gl := g.l
      obtain ⟨cc, hB⟩ := KK.h.B
      obtain ⟨q1, q2, q3, q4⟩ := KK.h.lts
      exact L5 w3 q ⟨⟨KK.l1, KK.l2, KK.l3, KK.l4, KK.S.trans (S3.mono KK.S.size (fun k hk hl => by simp at hk; omega)), ⟨⟨cc, BN.go hB S3 (by simp; omega) (by simp; omega) (by simp; omega)⟩, KK.h.V.same S3 q4 (by simp; omega), KK.h.n1, KK.h.n2, KK.h.n3⟩, by rw [S3.cell (p := ⟨bb, 0, none⟩) (cell_lt KK.c) (by simp; omega)]; exact KK.c, KK.m1, KK.m2, KK.m3, KK.m4⟩, A3, gl, g1, g2, g3, g4, g5⟩
    refine validlaw_walk.step3 _ _ _ _ _ _ _ _ _ _ _ ?_
    unfold validlaw_walk.V3
    have K1 := C.drew
    have fc : ∀ {W : World}, KR w0 W bb b bi bt vb → W.cell? ⟨bb, 0, none⟩ = some (rp b) := fun h => h.c
    have fo : ∀ {W : World}, KR w0 W bb b bi bt vb → OpCells W sb (off + i * 6) o := fun h => hO0.same h.S
    clear C hF L6 L5 L7 ih
    repeat' first
      | exact trivial
      | exact fin _ _ (by assumption) (by assumption)
      | (simp only [add_mk, Int.toNat_natCast])
      | refine nilV_in ?_
      | refine ⟨⟨hi0, hil⟩, ?_⟩
      | refine ⟨_, fc (by assumption), ?_⟩
      | refine ⟨_, _, _, _, _, _, (fo (by assumption)).c0, (fo (by assumption)).c1, (fo (by assumption)).c2, (fo (by assumption)).c3, (fo (by assumption)).c4, (fo (by assumption)).c5, ?_⟩
      | (refine RunsQ.post (Do_spec (KR.h (by assumption)) o) ?_
         rintro v w' ⟨rfl, hR', hS'⟩
         have KX := KR.call (by assumption) hR' hS'
         try (have GX := GA.call (by assumption) hS')
         clear hR' hS'
         refine ⟨_, _, _, _, rfl, ?_⟩)
      | (refine letB_intro fun b hb => letW_intro fun w' hw => ?_
         obtain ⟨kx, gx⟩ := KR.alloc (by assumption) hb hw
         clear hb hw)
      | refine And.intro ?_ ?_

theorem walk_spec (w : World) (sa : Option Addr) (l c : Nat) (hs : ScriptAt w sa l) (quiet : Bool) : Runs Try.prog validlaw_walk.id #[.slice sa l c, .bool quiet] w fun v w' => (∃ n : Int, v = .tuple #[.int .i64 (-1), .int .i64 n]) ∧ Same [] w.heap.size w w' := by
  refine validlaw_walk.enter _ _ _ _ _ _ _ ?_
  unfold validlaw_walk.V
  refine RunsQ.post (Ground_spec w) ?_
  rintro v w5 ⟨b, bi, bt, rfl, hB, S5, l1, l2, l3⟩
  obtain ⟨q1, q2, q3⟩ := BL.lts hB
  refine ⟨_, rfl, letB_intro fun b7 hb7 => letW_intro fun w8 hw8 => ?_⟩
  have S8 : Same [] w5.heap.size w5 w8 := by rw [hw8]; exact (Same.refl _ _ _).alloc (Nat.le_refl _) _
  have z8 : w8.heap.size = w5.heap.size + 1 := by rw [hw8]; simp
  have c8 : w8.cell? ⟨b7, 0, none⟩ = some (.pointer none) := by rw [hw8, hb7, World.cell?_alloc_new]; rfl
  have f8 : w8.frozen? ⟨b7, 0, none⟩ = false := by rw [hw8, hb7, World.frozen?_alloc_new]
  clear hw8
  refine ⟨⟨⟨_, c8⟩, f8⟩, letW_intro fun w9 hw9 => ?_⟩
  have S9 : Same [b7] w8.heap.size w8 w9 := by rw [hw9]; exact (Same.refl _ _ _).setCell (.inr (by simp)) _
  have c9 : w9.cell? ⟨b7, 0, none⟩ = some (rp b) := by rw [hw9, cell_setCell, if_pos ⟨rfl, rfl⟩, c8]; rfl
  clear hw9
  have z9 := S9.size
  have z5 := S5.size
  refine RunsQ.post (VNew_spec w9) ?_
  rintro v w11 ⟨vb, rfl, V11, S11, lv⟩
  refine ⟨_, rfl, ?_⟩
  have hN : Runs Try.prog validm_New.id #[] w11 fun v w' => (∃ x : Option Addr, v = .pointer x) ∧ Same [] w11.heap.size w11 w' := by
    refine validm_New.enter _ _ _ ?_
    unfold validm_New.V
    refine letB_intro fun b1 hb1 => letW_intro fun w2 hw2 => ⟨⟨_, rfl⟩, ?_⟩
    rw [hw2]; exact (Same.refl _ _ _).alloc (Nat.le_refl _) _
  refine RunsQ.post hN ?_
  rintro v w15 ⟨⟨x, rfl⟩, S15⟩
  refine ⟨_, rfl, ?_⟩
  have B9 : BN w9 b bi bt sc0 := BN.go (hB.keep S8) S9 (by simp; omega) (by simp; omega) (by simp; omega)
  have T11 : Same [] w.heap.size w w11 := ((S5.trans (S8.mono z5 (by simp))).trans (S9.mono (by omega) (fun k hk hl => by simp at hk; omega))).trans (S11.mono (by omega) (by simp))
  have VV : VGAt w11 vb := ⟨[], [], V11, ⟨fun x hx => (by cases hx), trivial, fun g hg => (by cases hg), fun g hg => (by cases hg), trivial⟩⟩
  have K11 : KR w w11 b7 b bi bt vb := ⟨l1, l2, l3, by omega, T11, ⟨⟨_, B9.keep S11⟩, VV, by omega, by omega, by omega⟩, by rw [S11.cell (p := ⟨b7, 0, none⟩) (show b7 < _ by omega) (by simp)]; exact c9, by omega, by omega, by omega, by omega⟩
  have L1 : ∀ w2, KR w w2 b7 b bi bt vb → validlaw_walk.L1 sa l c quiet b7 (some ⟨vb, 0, none⟩) x (fun v w' => (∃ n : Int, v = .tuple #[.int .i64 (-1), .int .i64 n]) ∧ Same [] w.heap.size w w') (fun _ _ => False) w2 := fun w2 K2 => by
    refine validlaw_walk.step1 _ _ _ _ _ _ _ _ _ _ ?_
    unfold validlaw_walk.V1
    exact walk_loop w sa l c hs quiet b7 b bi bt vb x _ _ rfl (fun w' n h => ⟨⟨n, rfl⟩, h⟩) l 0 w2 (by omega) K2
  have K15 := K11.keep S15
  refine cond_intro (fun _ => RunsQ.post (Seen_spec K15.h.V x) ?_) (fun _ => L1 w15 K15)
  rintro v w18 ⟨rfl, S18⟩
  exact ⟨_, rfl, cond_false' rfl (L1 w18 (K15.keep S18))⟩

theorem Refines_spec (w : World) (a : Option Addr) (l c : Nat) (hs : ScriptAt w a l) : Runs Try.prog validlaw_Refines.id #[.slice a l c] w fun v w' => v = .bool true ∧ Same [] w.heap.size w w' := by
  refine validlaw_Refines.enter _ _ _ _ _ _ ?_
  unfold validlaw_Refines.V
  have h : Runs Try.prog validlaw_RefinesUpTo.id #[.slice a l c] w fun v w' => v = .int .i64 (-1) ∧ Same [] w.heap.size w w' := by
    refine validlaw_RefinesUpTo.enter _ _ _ _ _ _ ?_
    unfold validlaw_RefinesUpTo.V
    refine RunsQ.post (walk_spec w a l c hs false) ?_
    rintro v w1 ⟨⟨n, rfl⟩, hS⟩
    exact ⟨_, _, rfl, rfl, hS⟩
  refine RunsQ.post h ?_
  rintro v w1 ⟨rfl, hS⟩
  exact ⟨_, rfl, rfl, hS⟩

theorem RefinesQuiet_spec (w : World) (a : Option Addr) (l c : Nat) (hs : ScriptAt w a l) : Runs Try.prog validlaw_RefinesQuiet.id #[.slice a l c] w fun v w' => v = .bool true ∧ Same [] w.heap.size w w' := by
  refine validlaw_RefinesQuiet.enter _ _ _ _ _ _ ?_
  unfold validlaw_RefinesQuiet.V
  have h : Runs Try.prog validlaw_RefinesQuietUpTo.id #[.slice a l c] w fun v w' => v = .int .i64 (-1) ∧ Same [] w.heap.size w w' := by
    refine validlaw_RefinesQuietUpTo.enter _ _ _ _ _ _ ?_
    unfold validlaw_RefinesQuietUpTo.V
    refine RunsQ.post (walk_spec w a l c hs true) ?_
    rintro v w1 ⟨⟨n, rfl⟩, hS⟩
    exact ⟨_, _, rfl, rfl, hS⟩
  refine RunsQ.post h ?_
  rintro v w1 ⟨rfl, hS⟩
  exact ⟨_, rfl, rfl, hS⟩
end
end Go.Proofs.Qxb6500322a
