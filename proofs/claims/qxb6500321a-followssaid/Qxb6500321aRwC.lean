/-
  The equality: Refines, RefinesQuiet.
-/
import Derived.Test.Qxb6500321aRwB
import Derived.Laws.StructEq
set_option linter.unusedSimpArgs false
set_option linter.unusedVariables false
set_option maxRecDepth 100000
set_option linter.unusedSectionVars false
set_option maxHeartbeats 1000000
namespace Go.Proofs.Qxb6500321a
open Go Go.Vc

theorem neq_ans (w : World) (x y : Operand) (e n k : Int) (t : ByteArray) :
    Sem.run Try.prog ((do eqGuard .neq T_api_Ans x y (.agg #[.int .i64 e, .int .i64 n, .int .i64 k, .string t]) (.agg #[.int .i64 e, .int .i64 n, .int .i64 k, .string t]); Go.binOp .neq T_api_Ans (.agg #[.int .i64 e, .int .i64 n, .int .i64 k, .string t]) (.agg #[.int .i64 e, .int .i64 n, .int .i64 k, .string t]))) w = .ok (.bool false) w := by
  have hm : Try.prog.eqGuardType Try.prog.depth T_api_Ans = false := by kernel_rfl
  have ht : Try.prog.underlying T_api_Ans = some (.struct (Try.prog.fieldsOf T_api_Ans)) := by kernel_rfl
  have hp : Try.prog.stoodInHeld T_api_Ans = false := by kernel_rfl
  have hf : (Try.prog.fieldsOf T_api_Ans).toList = [⟨"E", (36 : Nat), 0, false, "", "", 0⟩, ⟨"N", (3 : Nat), 1, false, "", "", 8⟩, ⟨"M", (3 : Nat), 2, false, "", "", 16⟩, ⟨"S", (9 : Nat), 3, false, "", "", 24⟩] := by kernel_rfl
  have q27 : ∀ (cs : Array Value) (i : Nat) (v : Value) (w : World), cs[i]? = some v → (part (36 : Nat) cs i).run Try.prog w = .ok v w := fun cs i v w hv => by
    have hia : (isAgg (36 : Nat)).run Try.prog w = .ok false w := by kernel_rfl
    simp [part, hia, hv]
  have q3 : ∀ (cs : Array Value) (i : Nat) (v : Value) (w : World), cs[i]? = some v → (part (3 : Nat) cs i).run Try.prog w = .ok v w := fun cs i v w hv => by
    have hia : (isAgg (3 : Nat)).run Try.prog w = .ok false w := by kernel_rfl
    simp [part, hia, hv]
  have q9 : ∀ (cs : Array Value) (i : Nat) (v : Value) (w : World), cs[i]? = some v → (part (9 : Nat) cs i).run Try.prog w = .ok v w := fun cs i v w hv => by
    have hia : (isAgg (9 : Nat)).run Try.prog w = .ok false w := by kernel_rfl
    simp [part, hia, hv]
  have e27 : ∀ (a : Int) (w : World), (Op.equalIn 9999 (36 : Nat) (.int .i64 a) (.int .i64 a)).run Try.prog w = .ok true w := fun a w => by
    have := run_equalIn_int (P := Try.prog) w 9998 (36 : Nat) .i64 .i64 a a (by kernel_rfl)
    simpa using this
  have e3 : ∀ (a : Int) (w : World), (Op.equalIn 9999 (3 : Nat) (.int .i64 a) (.int .i64 a)).run Try.prog w = .ok true w := fun a w => by
    have := run_equalIn_int (P := Try.prog) w 9998 (3 : Nat) .i64 .i64 a a (by kernel_rfl)
    simpa using this
  have e9 : ∀ (a : ByteArray) (w : World), (Op.equalIn 9999 (9 : Nat) (.string a) (.string a)).run Try.prog w = .ok true w := fun a w => by
    have := run_equalIn_string (P := Try.prog) w 9998 (9 : Nat) a a (by kernel_rfl)
    simpa using this
  have p0 : ∀ w, (part (36 : Nat) #[.int .i64 e, .int .i64 n, .int .i64 k, .string t] 0).run Try.prog w = .ok (.int .i64 e) w := fun w => q27 _ _ _ w rfl
  have p1 : ∀ w, (part (3 : Nat) #[.int .i64 e, .int .i64 n, .int .i64 k, .string t] 1).run Try.prog w = .ok (.int .i64 n) w := fun w => q3 _ _ _ w rfl
  have p2 : ∀ w, (part (3 : Nat) #[.int .i64 e, .int .i64 n, .int .i64 k, .string t] 2).run Try.prog w = .ok (.int .i64 k) w := fun w => q3 _ _ _ w rfl
  have p3 : ∀ w, (part (9 : Nat) #[.int .i64 e, .int .i64 n, .int .i64 k, .string t] 3).run Try.prog w = .ok (.string t) w := fun w => q9 _ _ _ w rfl
  rw [Sem.run_bind, run_eqGuard_agg (P := Try.prog) w .neq T_api_Ans x y _ _ hm, Result.andThen_ok, run_neq_struct, show (10000 : Nat) = 9999 + 1 from rfl, run_equalIn_struct w _ T_api_Ans _ _ ht hp, hf]
  simp [Op.eqFields, p0, p1, p2, p3, e27, e3, e9]

theorem newAns {w : World} {e n k : Int} {s : ByteArray} {K : Nat → World → Prop} (hK : ∀ b w', w.heap.size ≤ b → AnA w' b e n k s → Same [] w.heap.size w w' → K b w') :
    letB (Array.size (World.heap w)) fun b => letW (World.alloc w (.cells #[(.int .i64 0), (.int .i64 0), (.int .i64 0), (.string ⟨#[]⟩)] T_api_Ans)) fun w7 => putCells w7 ⟨b, 0, none⟩ [.int .i64 e, .int .i64 n, .int .i64 k, .string s] fun w8 => K b w8 := by
  refine letB_intro fun b hb => letW_intro fun w7 hw7 => ?_
  have hS7 : Same [] w.heap.size w w7 := by rw [hw7]; exact (Same.refl _ _ _).alloc (Nat.le_refl _) _
  have hb' : w.heap.size ≤ b := by rw [hb]; exact Nat.le_refl _
  have A7 : AnA w7 b 0 0 0 ⟨#[]⟩ := by rw [hw7, hb]; exact AnA.new w _
  refine putCells_intro b _ 0 w7 _ (fun j hj => by rw [Nat.zero_add]; exact A7.cans j hj) (fun w' hF => ?_)
  exact hK b w' hb' (A7.fill hF) (hS7.trans ((hF.same _).mono (Nat.le_refl _) (by intro k hk hlt; simp at hk; omega)))
theorem newOp {w : World} {o : OpV} {K : Nat → World → Prop} (hK : ∀ b w', w.heap.size ≤ b → OpAt w' b o → Same [] w.heap.size w w' → K b w') :
    letB (Array.size (World.heap w)) fun b => letW (World.alloc w (.cells #[(.int .i64 0), (.int .i64 0), (.int .i64 0), (.int .i64 0), (.string ⟨#[]⟩), (.string ⟨#[]⟩)] T_api_Op)) fun w7 => putCells w7 ⟨b, 0, none⟩ [.int .i64 o.kind, .int .i64 o.a, .int .i64 o.b, .int .i64 o.c, .string o.s, .string o.t] fun w8 => K b w8 := by
  refine letB_intro fun b hb => letW_intro fun w7 hw7 => ?_
  have hS7 : Same [] w.heap.size w w7 := by rw [hw7]; exact (Same.refl _ _ _).alloc (Nat.le_refl _) _
  have hb' : w.heap.size ≤ b := by rw [hb]; exact Nat.le_refl _
  refine putCells_intro b _ 0 w7 _ (fun j hj => ?_) (fun w' hF => hK b w' hb' (OpAt.fill o hF) (hS7.trans ((hF.same _).mono (Nat.le_refl _) (by intro k hk hlt; simp at hk; omega))))
  rw [hw7, hb, Nat.zero_add]
  refine ⟨?_, by rw [World.frozen?_alloc_new]⟩
  rw [World.cell?_alloc_new]
  have hj : j < 6 := by simpa using hj
  have : j = 0 ∨ j = 1 ∨ j = 2 ∨ j = 3 ∨ j = 4 ∨ j = 5 := by omega
  rcases this with rfl | rfl | rfl | rfl | rfl | rfl <;> exact ⟨_, rfl⟩
/-- Between two steps. -/
structure KW (w0 w : World) (bs bb b bi bt pb cb xr xm : Nat) (mp : Option Addr) (g : Option (List FF)) : Prop where
  S : Same [] w0.heap.size w0 w
  h : ST w (bs ≤ ·) bs b bi bt pb cb xr xm mp g g
  c : w.cell? ⟨bb, 0, none⟩ = some (rp b)
  lo : w0.heap.size ≤ b ∧ w0.heap.size ≤ bi ∧ w0.heap.size ≤ bt ∧ w0.heap.size ≤ pb ∧ w0.heap.size ≤ cb ∧ w0.heap.size ≤ xr ∧ w0.heap.size ≤ xm
  bn : bb ≠ b ∧ bb ≠ bi ∧ bb ≠ bt ∧ bb ≠ pb ∧ bb ≠ cb ∧ bb ≠ xr ∧ bb ≠ xm
theorem walk_loop (w0 : World) (sa : Option Addr) (l c : Nat) (hs : ScriptAt w0 sa l) (quiet : Bool) (bs bb b bi bt pb cb xr xm : Nat) (mp : Option Addr) (R : Value → World → Prop) (hR : ∀ w' (n : Int), Same [] w0.heap.size w0 w' → R (.tuple #[.int .i64 (-1), .int .i64 n]) w') :
    ∀ (f i : Nat) (w : World) (g : Option (List FF)), i + f = l → KW w0 w bs bb b bi bt pb cb xr xm mp g → preplaw_walk.L1 sa l c quiet bb (some ⟨xr, 0, none⟩) (some ⟨xm, 0, none⟩) i R (fun _ _ => False) w := by
  have L3 : ∀ (w1 : World), Same [] w0.heap.size w0 w1 → preplaw_walk.L3 sa l c R (fun _ _ => False) w1 := fun w1 S1 => by
    refine preplaw_walk.step3 _ _ _ _ _ _ ⟨?_⟩
    generalize (decide (((l : Nat) : Int) < (4398046511104 : Int))) = t
    refine preplaw_walk.step5 _ _ _ _ _ _ _ ?_
    unfold preplaw_walk.V5
    exact cond_intro (fun _ => hR w1 _ S1) (fun _ => hR w1 _ S1)
  intro f
  induction f with
  | zero =>
    intro i w g hi C
    refine preplaw_walk.step1 _ _ _ _ _ _ _ _ _ _ _ ?_
    unfold preplaw_walk.V1
    exact cond_false' (decide_eq_false (by omega)) (L3 w C.S)
  | succ f ih =>
    intro i w g hi C
    refine preplaw_walk.step1 _ _ _ _ _ _ _ _ _ _ _ ?_
    unfold preplaw_walk.V1
    refine cond_true' (decide_eq_true (by omega)) ?_
    generalize hM : (4398046511104 : Int) = M
    refine cond_intro (fun hm => ?_) (fun hm => L3 w C.S)
    subst hM
    have hm : (i : Int) < 4398046511104 := of_decide_eq_true hm
    rcases hs with h0 | ⟨sb, off, rfl, hs⟩
    · omega
    obtain ⟨o, hF, hO0⟩ := hs i (by omega)
    have L4 : ∀ w1 g1, KW w0 w1 bs bb b bi bt pb cb xr xm mp g1 → preplaw_walk.L4 (some ⟨sb, off, none⟩) l c quiet bb (some ⟨xr, 0, none⟩) (some ⟨xm, 0, none⟩) i R (fun _ _ => False) w1 := fun w1 g1 C1 => by
      refine preplaw_walk.step4 _ _ _ _ _ _ _ _ _ _ _ ?_
      unfold preplaw_walk.V4
      have e : IntKind.wrap .i64 ((i : Int) + 1) = ((i + 1 : Nat) : Int) := by rw [wrap_i64 (by omega) (by omega)]; omega
      rw [e]
      exact ih (i + 1) w1 g1 (by omega) C1
    have lt := C.h.lt; have ne := C.h.ne; have le := C.h.le; have lo := C.lo; have bn := C.bn
    have lbb : bb < w.heap.size := cell_lt C.c
    refine preplaw_walk.step2 _ _ _ _ _ _ _ _ _ _ _ ?_
    unfold preplaw_walk.V2
    have fo := hO0.same C.S
    simp only [nilV_some, add_mk, Int.toNat_natCast, Nat.zero_add]
    refine ⟨⟨by omega, by omega⟩, _, _, _, _, _, _, fo.c0, fo.c1, fo.c2, fo.c3, fo.c4, fo.c5, newOp (o := o) fun b8 w1 hb8 O1 S1 => ?_⟩
    have z1 := S1.size
    have h1 := C.h.keep S1
    have c1 : w1.cell? ⟨bb, 0, none⟩ = some (rp b) := by rw [S1.cell (p := ⟨bb, 0, none⟩) lbb (by simp)]; exact C.c
    refine ⟨_, c1, _, _, _, _, _, _, O1.c0, O1.c1, O1.c2, O1.c3, O1.c4, O1.c5, RunsQ.post (Do_spec h1 o) ?_⟩
    rintro v w2 ⟨rfl, h2, S2⟩
    have z2 := S2.size
    have l8 := O1.lt
    refine ⟨_, _, _, _, rfl, newAns fun p w3 hp A3 S3 => ?_⟩
    have z3 := S3.size
    have h3 := h2.keep S3
    have O2 := O1.same S2 l8 (by simp; omega)
    have O3 := O2.same S3 (by omega) (by simp)
    have c2 : w2.cell? ⟨bb, 0, none⟩ = some (rp b) := by rw [S2.cell (p := ⟨bb, 0, none⟩) (show bb < _ by omega) (by simp; omega)]; exact c1
    have c3 : w3.cell? ⟨bb, 0, none⟩ = some (rp b) := by rw [S3.cell (p := ⟨bb, 0, none⟩) (show bb < _ by omega) (by simp)]; exact c2
    refine ⟨_, c3, _, _, _, _, _, _, O3.c0, O3.c1, O3.c2, O3.c3, O3.c4, O3.c5, RunsQ.post (DoM_spec h3 o) ?_⟩
    rintro v w4 ⟨rfl, h4, S4⟩
    have z4 := S4.size
    have l3 := A3.lt
    have A4 := A3.same S4 l3 (by simp; omega)
    refine ⟨_, _, _, _, rfl, newAns fun q w5 hq B5 S5 => ?_⟩
    have A5 := A4.same S5 A4.lt (by simp)
    have h5 := h4.keep S5
    have T2 : Same [] w0.heap.size w0 w2 := (C.S.nx S1).trans (S2.mono (by have := C.S.size; omega) (fun k hk hl => by simp at hk; omega))
    have T3 := T2.nx S3
    have T4 : Same [] w0.heap.size w0 w4 := T3.trans (S4.mono T3.size (fun k hk hl => by simp at hk; omega))
    have T5 := T4.nx S5
    have c4 : w4.cell? ⟨bb, 0, none⟩ = some (rp b) := by rw [S4.cell (p := ⟨bb, 0, none⟩) (show bb < _ by omega) (by simp; omega)]; exact c3
    have c5 : w5.cell? ⟨bb, 0, none⟩ = some (rp b) := by rw [S5.cell (p := ⟨bb, 0, none⟩) (show bb < _ by omega) (by simp)]; exact c4
    have K5 : KW w0 w5 bs bb b bi bt pb cb xr xm mp (regN o g) := ⟨T5, h5, c5, lo, bn⟩
    refine ⟨_, _, _, _, A5.c0, A5.c1, A5.c2, A5.c3, _, _, _, _, B5.c0, B5.c1, B5.c2, B5.c3, false, w5, neq_ans w5 _ _ _ _ _ _, cond_false' rfl ?_⟩
    refine cond_intro (fun _ => ?_) (fun _ => L4 w5 _ K5)
    obtain ⟨v5, x5, r5⟩ := h5.x1
    refine ⟨_, x5, RunsQ.post (codeShow_spec r5) ?_⟩
    rintro v w6 ⟨rfl, S6⟩
    have h6 := h5.keep S6
    obtain ⟨v6, y6, r6⟩ := h6.y1
    refine ⟨_, rfl, _, y6, RunsQ.post (codeShow_spec r6) ?_⟩
    rintro v w7 ⟨rfl, S7⟩
    have h7 := h6.keep S7
    refine ⟨_, rfl, cond_false' (by rw [beq_self_eq_true]; rfl) ⟨_, h7.x0, RunsQ.post (prep_Prep_Show.pure _ w7) ?_⟩⟩
    rintro v w7 ⟨rfl, rfl⟩
    refine ⟨_, rfl, _, h7.y0, RunsQ.post (prepm_Prep_Show.pure mp w7) ?_⟩
    rintro v w7 ⟨rfl, rfl⟩
    refine ⟨_, rfl, cond_false' (by show (!(ByteArray.toList ⟨#[]⟩ == ByteArray.toList ⟨#[]⟩)) = false; rw [beq_self_eq_true]; rfl) ⟨_, h7.x0, RunsQ.post (Check_spec h7.Z) ?_⟩⟩
    rintro v w8 ⟨rfl, S8⟩
    refine ⟨_, rfl, cond_false' rfl (L4 w8 _ ⟨((T5.nx S6).nx S7).nx S8, h7.keep S8, ?_, lo, bn⟩)⟩
    rw [((S6.nx S7).nx S8).cell (p := ⟨bb, 0, none⟩) (cell_lt c5) (by simp)]; exact c5
theorem walk_spec (w : World) (sa : Option Addr) (l c : Nat) (hs : ScriptAt w sa l) (quiet : Bool) : Runs Try.prog preplaw_walk.id #[.slice sa l c, .bool quiet] w fun v w' => (∃ n : Int, v = .tuple #[.int .i64 (-1), .int .i64 n]) ∧ Same [] w.heap.size w w' := by
  refine preplaw_walk.enter _ _ _ _ _ _ _ ?_
  unfold preplaw_walk.V
  refine RunsQ.post (Ground_spec w) ?_
  rintro v w5 ⟨b, bi, bt, rfl, hB, S5, l1, l2, l3⟩
  obtain ⟨q1, q2, q3⟩ := BL.lts hB
  refine ⟨_, rfl, letB_intro fun b7 hb7 => letW_intro fun w8 hw8 => ?_⟩
  have S8 : Same [] w5.heap.size w5 w8 := by rw [hw8]; exact (Same.refl _ _ _).alloc (Nat.le_refl _) _
  have z8 : w8.heap.size = w5.heap.size + 1 := by rw [hw8]; simp
  have c8 : w8.cell? ⟨b7, 0, none⟩ = some (.pointer none) := by rw [hw8, hb7, World.cell?_alloc_new]; rfl
  have f8 : w8.frozen? ⟨b7, 0, none⟩ = false := by rw [hw8, hb7, World.frozen?_alloc_new]
  clear hw8
  refine ⟨⟨⟨_, c8⟩, f8⟩, letW_intro fun w9 hw9 => ?_⟩
  have S9 : Same [b7] w8.heap.size w8 w9 := by rw [hw9]; exact (Same.refl _ _ _).setCell (.inr (by simp)) _
  have c9 : w9.cell? ⟨b7, 0, none⟩ = some (rp b) := by rw [hw9, cell_setCell, if_pos ⟨rfl, rfl⟩, c8]; rfl
  clear hw9
  have z9 := S9.size
  have z5 := S5.size
  have B9 : BN w9 b bi bt sc0 := BN.go (hB.keep S8) S9 (by simp; omega) (by simp; omega) (by simp; omega)
  have T9 : Same [] w.heap.size w w9 := (S5.nx S8).trans (S9.mono (by omega) (fun k hk hl => by simp at hk; omega))
  refine RunsQ.post (PNew_spec w9) ?_
  rintro v w11 ⟨pb, cb, rfl, Z11, S11, lp, lc⟩
  obtain ⟨p1, p2, p3⟩ := Z11.lt
  have z11 := S11.size
  refine ⟨_, rfl, letB_intro fun xr hxr => letW_intro fun w12 hw12 => ?_⟩
  have S12 : Same [] w11.heap.size w11 w12 := by rw [hw12]; exact (Same.refl _ _ _).alloc (Nat.le_refl _) _
  have z12 : w12.heap.size = w11.heap.size + 1 := by rw [hw12]; simp
  have x0 : w12.cell? ⟨xr, 0, none⟩ = some (rp pb) := by rw [hw12, hxr, World.cell?_alloc_new]; rfl
  have x1 : w12.cell? ⟨xr, 1, none⟩ = some (.pointer none) := by rw [hw12, hxr, World.cell?_alloc_new]; rfl
  have xf : ∀ j, w12.frozen? ⟨xr, j, none⟩ = false := fun j => by rw [hw12, hxr, World.frozen?_alloc_new]
  clear hw12
  have hN : Runs Try.prog prepm_New.id #[] w12 fun v w' => (∃ x : Option Addr, v = .pointer x) ∧ Same [] w12.heap.size w12 w' := by
    refine prepm_New.enter _ _ _ ?_
    unfold prepm_New.V
    refine letB_intro fun b1 hb1 => letW_intro fun w2 hw2 => ⟨⟨_, rfl⟩, ?_⟩
    rw [hw2]; exact (Same.refl _ _ _).alloc (Nat.le_refl _) _
  refine RunsQ.post hN ?_
  rintro v w15 ⟨⟨mp, rfl⟩, S15⟩
  have z15 := S15.size
  refine ⟨_, rfl, letB_intro fun xm hxm => letW_intro fun w16 hw16 => ?_⟩
  have S16 : Same [] w15.heap.size w15 w16 := by rw [hw16]; exact (Same.refl _ _ _).alloc (Nat.le_refl _) _
  have z16 : w16.heap.size = w15.heap.size + 1 := by rw [hw16]; simp
  have y0 : w16.cell? ⟨xm, 0, none⟩ = some (.pointer mp) := by rw [hw16, hxm, World.cell?_alloc_new]; rfl
  have y1 : w16.cell? ⟨xm, 1, none⟩ = some (.pointer none) := by rw [hw16, hxm, World.cell?_alloc_new]; rfl
  have yf : ∀ j, w16.frozen? ⟨xm, j, none⟩ = false := fun j => by rw [hw16, hxm, World.frozen?_alloc_new]
  clear hw16
  have U : Same [] w12.heap.size w12 w16 := S15.nx S16
  have V : Same [] w11.heap.size w11 w16 := S12.nx U
  have lx : xr < w12.heap.size := by omega
  have st : ST w16 (w16.heap.size ≤ ·) w16.heap.size b bi bt pb cb xr xm mp none none := by
    refine ⟨⟨sc0, (B9.keep S11).keep V⟩, Z11.same V (Nat.le_refl _) (by simp) (by simp), by rw [U.cell (p := ⟨xr, 0, none⟩) lx (by simp)]; exact x0, ⟨none, by rw [U.cell (p := ⟨xr, 1, none⟩) lx (by simp)]; exact x1, .inl ⟨rfl, rfl⟩⟩, fun j => by rw [U.frozen (p := ⟨xr, j, none⟩) lx (by simp)]; exact xf j, y0, ⟨none, y1, .inl ⟨rfl, rfl⟩⟩, yf, by omega, Nat.le_refl _, fun k hk => hk, by omega⟩
  refine walk_loop w sa l c hs quiet w16.heap.size b7 b bi bt pb cb xr xm mp _ (fun w' n h => ⟨⟨n, rfl⟩, h⟩) l 0 w16 none (by omega) ⟨(T9.nx S11).nx V, st, ?_, by omega, by omega⟩
  rw [(S11.nx V).cell (p := ⟨b7, 0, none⟩) (show b7 < _ by omega) (by simp)]; exact c9
theorem Refines_spec (w : World) (a : Option Addr) (l c : Nat) (hs : ScriptAt w a l) : Runs Try.prog preplaw_Refines.id #[.slice a l c] w fun v w' => v = .bool true ∧ Same [] w.heap.size w w' := by
  refine preplaw_Refines.enter _ _ _ _ _ _ ?_
  unfold preplaw_Refines.V
  have h : Runs Try.prog preplaw_RefinesUpTo.id #[.slice a l c] w fun v w' => v = .int .i64 (-1) ∧ Same [] w.heap.size w w' := by
    refine preplaw_RefinesUpTo.enter _ _ _ _ _ _ ?_
    unfold preplaw_RefinesUpTo.V
    refine RunsQ.post (walk_spec w a l c hs false) ?_
    rintro v w1 ⟨⟨n, rfl⟩, hS⟩
    exact ⟨_, _, rfl, rfl, hS⟩
  refine RunsQ.post h ?_
  rintro v w1 ⟨rfl, hS⟩
  exact ⟨_, rfl, rfl, hS⟩

theorem RefinesQuiet_spec (w : World) (a : Option Addr) (l c : Nat) (hs : ScriptAt w a l) : Runs Try.prog preplaw_RefinesQuiet.id #[.slice a l c] w fun v w' => v = .bool true ∧ Same [] w.heap.size w w' := by
  refine preplaw_RefinesQuiet.enter _ _ _ _ _ _ ?_
  unfold preplaw_RefinesQuiet.V
  have h : Runs Try.prog preplaw_RefinesQuietUpTo.id #[.slice a l c] w fun v w' => v = .int .i64 (-1) ∧ Same [] w.heap.size w w' := by
    refine preplaw_RefinesQuietUpTo.enter _ _ _ _ _ _ ?_
    unfold preplaw_RefinesQuietUpTo.V
    refine RunsQ.post (walk_spec w a l c hs true) ?_
    rintro v w1 ⟨⟨n, rfl⟩, hS⟩
    exact ⟨_, _, rfl, rfl, hS⟩
  refine RunsQ.post h ?_
  rintro v w1 ⟨rfl, hS⟩
  exact ⟨_, rfl, rfl, hS⟩
end Go.Proofs.Qxb6500321a
