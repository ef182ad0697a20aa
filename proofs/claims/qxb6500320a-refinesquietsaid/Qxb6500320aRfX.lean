/-
  Do, DoM, the walk; Refines.
-/
import Derived.Test.Qxb6500320aRfW
import Derived.Test.Qxb6500320aApF
set_option linter.unusedSimpArgs false
set_option linter.unusedVariables false
set_option linter.unusedSectionVars false
set_option maxRecDepth 100000
namespace Go.Proofs.Qxb6500320a
open Go Go.Vc

theorem run_neqAns (w : World) (x y : Operand) (e n : Int) (t : ByteArray) :
    Sem.run Try.prog ((do eqGuard .neq T_api_Ans x y (ansV e n t) (ansV e n t); Go.binOp .neq T_api_Ans (ansV e n t) (ansV e n t))) w = .ok (.bool false) w := by
  have hm : Try.prog.eqGuardType Try.prog.depth T_api_Ans = false := by kernel_rfl
  have ht : Try.prog.underlying T_api_Ans = some (.struct (Try.prog.fieldsOf T_api_Ans)) := by kernel_rfl
  have hp : Try.prog.stoodInHeld T_api_Ans = false := by kernel_rfl
  have hf : (Try.prog.fieldsOf T_api_Ans).toList = [⟨"E", (45 : Nat), 0, false, "", "", 0⟩, ⟨"N", (3 : Nat), 1, false, "", "", 8⟩, ⟨"M", (3 : Nat), 2, false, "", "", 16⟩, ⟨"S", (9 : Nat), 3, false, "", "", 24⟩] := by kernel_rfl
  have q27 : ∀ (cs : Array Value) (i : Nat) (v : Value) (w : World), cs[i]? = some v → (part (45 : Nat) cs i).run Try.prog w = .ok v w := fun cs i v w hv => by
    have hia : (isAgg (45 : Nat)).run Try.prog w = .ok false w := by kernel_rfl
    simp [part, hia, hv]
  have q3 : ∀ (cs : Array Value) (i : Nat) (v : Value) (w : World), cs[i]? = some v → (part (3 : Nat) cs i).run Try.prog w = .ok v w := fun cs i v w hv => by
    have hia : (isAgg (3 : Nat)).run Try.prog w = .ok false w := by kernel_rfl
    simp [part, hia, hv]
  have q9 : ∀ (cs : Array Value) (i : Nat) (v : Value) (w : World), cs[i]? = some v → (part (9 : Nat) cs i).run Try.prog w = .ok v w := fun cs i v w hv => by
    have hia : (isAgg (9 : Nat)).run Try.prog w = .ok false w := by kernel_rfl
    simp [part, hia, hv]
  have e27 : ∀ (a : Int) (w : World), (Op.equalIn 9999 (45 : Nat) (.int .i64 a) (.int .i64 a)).run Try.prog w = .ok true w := fun a w => by
    have := run_equalIn_int (P := Try.prog) w 9998 (45 : Nat) .i64 .i64 a a (by kernel_rfl)
    simpa using this
  have e3 : ∀ (a : Int) (w : World), (Op.equalIn 9999 (3 : Nat) (.int .i64 a) (.int .i64 a)).run Try.prog w = .ok true w := fun a w => by
    have := run_equalIn_int (P := Try.prog) w 9998 (3 : Nat) .i64 .i64 a a (by kernel_rfl)
    simpa using this
  have e9 : ∀ (a : ByteArray) (w : World), (Op.equalIn 9999 (9 : Nat) (.string a) (.string a)).run Try.prog w = .ok true w := fun a w => by
    have := run_equalIn_string (P := Try.prog) w 9998 (9 : Nat) a a (by kernel_rfl)
    simpa using this
  have p0 : ∀ w, (part (45 : Nat) #[.int .i64 e, .int .i64 n, .int .i64 0, .string t] 0).run Try.prog w = .ok (.int .i64 e) w := fun w => q27 _ _ _ w rfl
  have p1 : ∀ w, (part (3 : Nat) #[.int .i64 e, .int .i64 n, .int .i64 0, .string t] 1).run Try.prog w = .ok (.int .i64 n) w := fun w => q3 _ _ _ w rfl
  have p2 : ∀ w, (part (3 : Nat) #[.int .i64 e, .int .i64 n, .int .i64 0, .string t] 2).run Try.prog w = .ok (.int .i64 0) w := fun w => q3 _ _ _ w rfl
  have p3 : ∀ w, (part (9 : Nat) #[.int .i64 e, .int .i64 n, .int .i64 0, .string t] 3).run Try.prog w = .ok (.string t) w := fun w => q9 _ _ _ w rfl
  unfold ansV
  rw [Sem.run_bind, run_eqGuard_agg (P := Try.prog) w .neq T_api_Ans x y _ _ hm, Result.andThen_ok, run_neq_struct, show (10000 : Nat) = 9999 + 1 from rfl, run_equalIn_struct w _ T_api_Ans _ _ ht hp, hf]
  simp [Op.eqFields, p0, p1, p2, p3, e27, e3, e9]


/-! ### The words of a step, as numbers -/
def wordL (s : ByteArray) (i : Int) : Nat → Int → Int
  | 0, v => v
  | n + 1, v => wordL s i n (bOr .u64 (IntKind.wrap .u64 (v * 2 ^ (8 : Nat))) (IntKind.wrap .u64 (byteAt s (Int.toNat (8 * i + (n : Int))))))
def wordF (s : ByteArray) (i : Int) : Int := if i < 0 then 0 else if ((s.size / 8 : Nat) : Int) ≤ i then 0 else wordL s i 8 0

theorem wordL_u64 (s : ByteArray) (i : Int) : ∀ (n : Nat) (v : Int), U64 v → U64 (wordL s i n v)
  | 0, v, h => h
  | n + 1, v, h => wordL_u64 s i n _ (wrap_u64_rng _)
theorem wordF_u64 (s : ByteArray) (i : Int) : U64 (wordF s i) := by
  unfold wordF
  split
  · unfold U64; decide
  · split
    · unfold U64; decide
    · exact wordL_u64 s i 8 0 (by unfold U64; decide)

theorem WordF_loop (s : ByteArray) (i : Int) (R : Value → World → Prop) (w : World) (hs : s.size ≤ 9223372036854775807) (hi0 : 0 ≤ i) (hi1 : 8 * i + 7 < s.size) :
    ∀ (n : Nat) (v : Int), n ≤ 8 → R (.int .u64 (wordL s i n v)) w → api_Word.L2 s i v ((n : Int) - 1) R w := by
  intro n
  induction n with
  | zero =>
    intro v _ hR
    refine api_Word.step2 _ _ _ _ _ _ ?_
    unfold api_Word.V2
    exact cond_false' (by decide) hR
  | succ n ih =>
    intro v hn hR
    refine api_Word.step2 _ _ _ _ _ _ ?_
    unfold api_Word.V2
    refine cond_true' (decide_eq_true (by omega)) ?_
    have e1 : IntKind.wrap .i64 (8 * i) = 8 * i := wrap_i64 (by omega) (by omega)
    have e2 : IntKind.wrap .i64 (8 * i + (((n + 1 : Nat) : Int) - 1)) = 8 * i + (n : Int) := by rw [wrap_i64 (by omega) (by omega)]; omega
    have e3 : IntKind.wrap .i64 ((((n + 1 : Nat) : Int) - 1) - 1) = (n : Int) - 1 := by rw [wrap_i64 (by omega) (by omega)]; omega
    rw [e1, e2, e3]
    exact ⟨⟨by omega, by omega⟩, ih _ (by omega) hR⟩

theorem WordF_spec (s : ByteArray) (i : Int) (hs : s.size ≤ 9223372036854775807) (w : World) : Runs Try.prog api_Word.id #[.string s, .int .i64 i] w fun v w' => v = .int .u64 (wordF s i) ∧ w' = w := by
  refine api_Word.enter _ _ _ _ ?_
  unfold api_Word.V wordF
  refine cond_intro (fun h => ?_) (fun h1 => ?_)
  · rw [if_pos (of_decide_eq_true h)]; exact ⟨rfl, rfl⟩
  have h1' : ¬ i < 0 := of_decide_eq_false h1
  rw [if_neg h1']
  have e : IntKind.wrap .i64 (Int.tdiv ((ByteArray.size s : Nat) : Int) 8) = ((s.size / 8 : Nat) : Int) := by
    have : Int.tdiv ((ByteArray.size s : Nat) : Int) 8 = ((s.size / 8 : Nat) : Int) := by
      have := Int.ofNat_tdiv s.size 8
      rw [this]; rfl
    rw [this, wrap_i64 (by omega) (by omega)]
  rw [e]
  refine cond_intro (fun h => ?_) (fun h2 => ?_)
  · rw [if_pos (of_decide_eq_true h)]; exact ⟨rfl, rfl⟩
  have h2' := of_decide_eq_false h2
  rw [if_neg h2']
  refine api_Word.step1 _ _ _ _ ?_
  unfold api_Word.V1
  exact WordF_loop s i _ w hs (by omega) (by omega) 8 0 (by omega) ⟨rfl, rfl⟩

def OpV.x (o : OpV) : Int := if o.kind = 2 then wordF o.s 0 else IntKind.wrap .u64 o.b
def OpV.y (o : OpV) : Int := if o.kind = 2 then wordF o.s 1 else IntKind.wrap .u64 o.c
theorem OpV.x_u64 (o : OpV) : U64 o.x := by unfold OpV.x; split; exact wordF_u64 _ _; exact wrap_u64_rng _
theorem OpV.y_u64 (o : OpV) : U64 o.y := by unfold OpV.y; split; exact wordF_u64 _ _; exact wrap_u64_rng _

theorem WordsF_spec (o : OpV) (hs : o.s.size ≤ 9223372036854775807) (w : World) : Runs Try.prog numlaw_Words.id #[o.val] w fun v w' => v = .tuple #[.int .u64 o.x, .int .u64 o.y] ∧ Same [] w.heap.size w w' := by
  refine numlaw_Words.enter o.kind o.a o.b o.c o.s o.t _ _ ?_
  unfold numlaw_Words.V
  refine letB_intro fun b hb => letW_intro fun w1 hw1 => ?_
  have hO : OpAt w1 b o := by rw [hw1, hb]; exact OpAt.new w o T_api_Op
  have hS : Same [] w.heap.size w w1 := by rw [hw1]; exact (Same.refl _ _ _).alloc (Nat.le_refl _) _
  clear hw1 hb
  unfold OpV.x OpV.y
  refine ⟨_, hO.c0, cond_intro (fun h => ?_) (fun h => ?_)⟩
  · have hk : o.kind = 2 := eq_of_beq h
    rw [if_pos hk, if_pos hk]
    refine ⟨_, hO.c4, Runs.pure_bind (WordF_spec o.s 0 hs w1) ⟨_, rfl, _, hO.c4, Runs.pure_bind (WordF_spec o.s 1 hs w1) ⟨_, rfl, rfl, hS⟩⟩⟩
  · have hk : o.kind ≠ 2 := fun g => by rw [g] at h; exact absurd h (by decide)
    rw [if_neg hk, if_neg hk]
    exact ⟨rfl, _, hO.drew.c2, rfl, rfl, rfl, _, hO.drew.c3, rfl, rfl, rfl, rfl, rfl, hS.drew⟩

/-! ### One step on either side -/
abbrev OpV.no (o : OpV) : Prop := o.kind ≠ 1 ∧ o.kind ≠ 2
def OpV.e (o : OpV) : Int := if o.no then 0 else (ap o.a o.x o.y).2
def OpV.n (o : OpV) : Int := if o.no then 0 else IntKind.wrap .i64 (ap o.a o.x o.y).1

theorem Do_spec (o : OpV) (hs : o.s.size ≤ 9223372036854775807) (w : World) : Runs Try.prog numlaw_Do.id #[o.val] w fun v w' => v = ansV o.e o.n eps ∧ Same [] w.heap.size w w' := by
  refine numlaw_Do.enter o.kind o.a o.b o.c o.s o.t _ _ ?_
  unfold numlaw_Do.V
  refine letB_intro fun b hb => letW_intro fun w0 hw0 => letB_intro fun d hd => letW_intro fun w1 hw1 => ?_
  have hO0 : OpAt w0 b o := by rw [hw0, hb]; exact OpAt.new w o T_api_Op
  have hS0 : Same [] w.heap.size w w0 := by rw [hw0]; exact (Same.refl _ _ _).alloc (Nat.le_refl _) _
  have hS1 : Same [] w0.heap.size w0 w1 := by rw [hw1]; exact (Same.refl _ _ _).alloc (Nat.le_refl _) _
  have hA : AnsAt w1 d 0 0 eps := by rw [hw1, hd]; exact AnsAt.new w0 _
  have hO := hO0.same hS1 hO0.lt (by simp)
  have hT1 := hS0.trans (hS1.mono hS0.size (by simp))
  have hdb : w.heap.size ≤ d := by rw [hd]; exact hS0.size
  clear hw0 hw1 hb hd
  have fin : ∀ w3 w4 : World, Same [] w.heap.size w w3 → (∀ B, Same [d] B w3 w4) → Same [] w.heap.size w w4 := fun w3 w4 h3 h4 =>
    h3.trans ((h4 _).mono (Nat.le_refl _) (by intro k hk hlt; simp at hk; omega))
  have main : ¬ o.no → numlaw_Do.L1 b d false (fun v w' => v = ansV o.e o.n eps ∧ Same [] w.heap.size w w') w1 := by
    intro hno
    refine numlaw_Do.step1 _ _ _ _ _ ?_
    unfold numlaw_Do.V1
    refine cond_false' rfl ?_
    refine ⟨_, _, _, _, _, _, hO.c0, hO.c1, hO.c2, hO.c3, hO.c4, hO.c5, (WordsF_spec o hs w1).mono ?_⟩
    rintro v w2 ⟨rfl, hS2⟩
    have hO2 := hO.same hS2 hO.lt (by simp)
    have hA2 := hA.same hS2 hA.lt (by simp)
    have hT2 := hT1.trans (hS2.mono hT1.size (by simp))
    refine ⟨_, _, rfl, _, hO2.c1, (Apply_spec o.a o.x o.y o.y_u64.1 o.y_u64.2 w2).mono ?_⟩
    rintro v w3 ⟨rfl, hS3⟩
    have hT3 := hT2.trans (hS3.mono hT2.size (by simp))
    have hA3 := hA2.same hS3 hA2.lt (by simp)
    refine ⟨_, _, rfl, hA3.ret (R := fun v w' => v = ansV o.e o.n eps ∧ Same [] w.heap.size w w') (fun w4 hw4 => ⟨?_, fin _ w4 hT3 hw4⟩)⟩
    unfold OpV.e OpV.n
    rw [if_neg hno, if_neg hno]; rfl
  have none : o.no → numlaw_Do.L1 b d true (fun v w' => v = ansV o.e o.n eps ∧ Same [] w.heap.size w w') w1 := by
    intro hno
    refine numlaw_Do.step1 _ _ _ _ _ ?_
    unfold numlaw_Do.V1
    refine cond_true' rfl ?_
    refine hA.ret (R := fun v w' => v = ansV o.e o.n eps ∧ Same [] w.heap.size w w') (fun w4 hw4 => ⟨?_, fin _ w4 hT1 hw4⟩)
    unfold OpV.e OpV.n
    rw [if_pos hno, if_pos hno]; rfl
  refine ⟨_, hO.c0, cond_intro (fun h => ?_) (fun h => ?_)⟩
  · refine ⟨_, hO.c0, ?_⟩
    have h1 : o.kind ≠ 1 := bne_iff_ne.1 h
    by_cases h2 : o.kind = 2
    · have e : (o.kind != (2 : Int)) = false := by rw [h2]; rfl
      rw [e]
      exact main (fun g => g.2 h2)
    · have e : (o.kind != (2 : Int)) = true := bne_iff_ne.2 h2
      rw [e]
      exact none ⟨h1, h2⟩
  · have h1 : o.kind = 1 := by
      by_cases g : o.kind = 1
      · exact g
      · rw [bne_iff_ne.2 g] at h; cases h
    exact main (fun g => g.1 h1)

theorem mApply_at (op x y : Int) (hx : U64 x) (hy : U64 y) (w : World) : Runs Try.prog numm_Apply.id #[.int .i64 op, .int .u64 x, .int .u64 y] w fun v w' => v = .tuple #[.int .u64 (ap op x y).1, .int .i64 (ap op x y).2] ∧ w' = w := by
  unfold U64 at hx hy
  obtain ⟨a, rfl⟩ : ∃ n : Nat, x = (n : Int) := ⟨x.toNat, by omega⟩
  obtain ⟨b, rfl⟩ : ∃ n : Nat, y = (n : Int) := ⟨y.toNat, by omega⟩
  exact mApply_spec op a b (by omega) (by omega) w

theorem DoM_spec (o : OpV) (hs : o.s.size ≤ 9223372036854775807) (w : World) : Runs Try.prog numlaw_DoM.id #[o.val] w fun v w' => v = ansV o.e o.n eps ∧ Same [] w.heap.size w w' := by
  refine numlaw_DoM.enter o.kind o.a o.b o.c o.s o.t _ _ ?_
  unfold numlaw_DoM.V
  refine letB_intro fun b hb => letW_intro fun w0 hw0 => letB_intro fun d hd => letW_intro fun w1 hw1 => ?_
  have hO0 : OpAt w0 b o := by rw [hw0, hb]; exact OpAt.new w o T_api_Op
  have hS0 : Same [] w.heap.size w w0 := by rw [hw0]; exact (Same.refl _ _ _).alloc (Nat.le_refl _) _
  have hS1 : Same [] w0.heap.size w0 w1 := by rw [hw1]; exact (Same.refl _ _ _).alloc (Nat.le_refl _) _
  have hA : AnsAt w1 d 0 0 eps := by rw [hw1, hd]; exact AnsAt.new w0 _
  have hO := hO0.same hS1 hO0.lt (by simp)
  have hT1 := hS0.trans (hS1.mono hS0.size (by simp))
  have hdb : w.heap.size ≤ d := by rw [hd]; exact hS0.size
  clear hw0 hw1 hb hd
  have fin : ∀ w3 w4 : World, Same [] w.heap.size w w3 → (∀ B, Same [d] B w3 w4) → Same [] w.heap.size w w4 := fun w3 w4 h3 h4 =>
    h3.trans ((h4 _).mono (Nat.le_refl _) (by intro k hk hlt; simp at hk; omega))
  have main : ¬ o.no → numlaw_DoM.L1 b d false (fun v w' => v = ansV o.e o.n eps ∧ Same [] w.heap.size w w') w1 := by
    intro hno
    refine numlaw_DoM.step1 _ _ _ _ _ ?_
    unfold numlaw_DoM.V1
    refine cond_false' rfl ?_
    refine ⟨_, _, _, _, _, _, hO.c0, hO.c1, hO.c2, hO.c3, hO.c4, hO.c5, (WordsF_spec o hs w1).mono ?_⟩
    rintro v w2 ⟨rfl, hS2⟩
    have hO2 := hO.same hS2 hO.lt (by simp)
    have hA2 := hA.same hS2 hA.lt (by simp)
    have hT2 := hT1.trans (hS2.mono hT1.size (by simp))
    refine ⟨_, _, rfl, _, hO2.c1, (mApply_at o.a o.x o.y o.x_u64 o.y_u64 w2).mono ?_⟩
    rintro v w3 ⟨rfl, rfl⟩
    have hT3 := hT2
    have hA3 := hA2
    refine ⟨_, _, rfl, hA3.ret (R := fun v w' => v = ansV o.e o.n eps ∧ Same [] w.heap.size w w') (fun w4 hw4 => ⟨?_, fin _ w4 hT3 hw4⟩)⟩
    unfold OpV.e OpV.n
    rw [if_neg hno, if_neg hno]; rfl
  have none : o.no → numlaw_DoM.L1 b d true (fun v w' => v = ansV o.e o.n eps ∧ Same [] w.heap.size w w') w1 := by
    intro hno
    refine numlaw_DoM.step1 _ _ _ _ _ ?_
    unfold numlaw_DoM.V1
    refine cond_true' rfl ?_
    refine hA.ret (R := fun v w' => v = ansV o.e o.n eps ∧ Same [] w.heap.size w w') (fun w4 hw4 => ⟨?_, fin _ w4 hT1 hw4⟩)
    unfold OpV.e OpV.n
    rw [if_pos hno, if_pos hno]; rfl
  refine ⟨_, hO.c0, cond_intro (fun h => ?_) (fun h => ?_)⟩
  · refine ⟨_, hO.c0, ?_⟩
    have h1 : o.kind ≠ 1 := bne_iff_ne.1 h
    by_cases h2 : o.kind = 2
    · have e : (o.kind != (2 : Int)) = false := by rw [h2]; rfl
      rw [e]
      exact main (fun g => g.2 h2)
    · have e : (o.kind != (2 : Int)) = true := bne_iff_ne.2 h2
      rw [e]
      exact none ⟨h1, h2⟩
  · have h1 : o.kind = 1 := by
      by_cases g : o.kind = 1
      · exact g
      · rw [bne_iff_ne.2 g] at h; cases h
    exact main (fun g => g.1 h1)

theorem walk_loop (w0 : World) (a : Option Addr) (l c : Nat) (hs : ScriptAt w0 a l) (R : Value → World → Prop) (hR : ∀ w' n, Same [] w0.heap.size w0 w' → R (.tuple #[.int .i64 (-1), .int .i64 n]) w') :
    ∀ (f i : Nat) (w : World), i + f = l → Same [] w0.heap.size w0 w → numlaw_walk.L1 a l c i R w := by
  have L3 : ∀ (n : Int) (w : World), Same [] w0.heap.size w0 w → numlaw_walk.L3 n R w := fun n w C => numlaw_walk.step3 _ _ _ (hR w n C)
  intro f
  induction f with
  | zero =>
    intro i w hi C
    refine numlaw_walk.step1 _ _ _ _ _ _ ?_
    unfold numlaw_walk.V1
    exact cond_false' (by simp; omega) (L3 _ w C)
  | succ f ih =>
    intro i w hi C
    refine numlaw_walk.step1 _ _ _ _ _ _ ?_
    unfold numlaw_walk.V1
    refine cond_true' (by simp; omega) ?_
    generalize hM : (4398046511104 : Int) = M
    refine cond_intro (fun hm => ?_) (fun hm => L3 _ w C)
    subst hM
    have hm : (i : Int) < 4398046511104 := of_decide_eq_true hm
    rcases hs with h0 | ⟨b, off, rfl, hs⟩
    · omega
    obtain ⟨o, hF, hO0⟩ := hs i (by omega)
    have hO := hO0.same C
    refine numlaw_walk.step2 _ _ _ _ _ _ ?_
    unfold numlaw_walk.V2
    simp only [nilV_some, add_mk, Int.toNat_natCast]
    refine ⟨by omega, _, _, _, _, _, _, hO.c0, hO.c1, hO.c2, hO.c3, hO.c4, hO.c5, ?_⟩
    refine (Do_spec o hF.s w).mono ?_
    rintro v w9 ⟨rfl, hS9⟩
    have C9 := C.trans (hS9.mono C.size (by simp))
    refine ⟨_, _, _, _, rfl, letB_intro (fun b14 hb14 => letW_intro (fun w15 hw15 => ?_))⟩
    have hS15 : Same [] w9.heap.size w9 w15 := by rw [hw15]; exact (Same.refl _ _ _).alloc (Nat.le_refl _) _
    have hA15 : AnsAt w15 b14 0 0 eps := by rw [hb14, hw15]; exact AnsAt.new w9 _
    clear hw15
    refine hA15.put_intro (fun w16 hA16 hS16 => ?_)
    have hS16' : Same [] w9.heap.size w9 w16 := hS15.trans ((hS16 _).mono (Nat.le_refl _) (by intro k hk hlt; simp at hk; omega))
    have C16 := C9.trans (hS16'.mono C9.size (by simp))
    have hO16 := hO0.same C16
    refine ⟨by omega, _, _, _, _, _, _, hO16.c0, hO16.c1, hO16.c2, hO16.c3, hO16.c4, hO16.c5, ?_⟩
    refine (DoM_spec o hF.s w16).mono ?_
    rintro v w25 ⟨rfl, hS25⟩
    have C25 := C16.trans (hS25.mono C16.size (by simp))
    have hA25 := hA16.same hS25 hA16.lt (by simp)
    refine ⟨_, _, _, _, rfl, letB_intro (fun b30 hb30 => letW_intro (fun w31 hw31 => ?_))⟩
    have hS31 : Same [] w25.heap.size w25 w31 := by rw [hw31]; exact (Same.refl _ _ _).alloc (Nat.le_refl _) _
    have hA31 : AnsAt w31 b30 0 0 eps := by rw [hb30, hw31]; exact AnsAt.new w25 _
    clear hw31
    refine hA31.put_intro (fun w32 hA32 hS32 => ?_)
    have hS32' : Same [] w25.heap.size w25 w32 := hS31.trans ((hS32 _).mono (Nat.le_refl _) (by intro k hk hlt; simp at hk; omega))
    have hB32 := hA25.same hS32' hA25.lt (by simp)
    have C32 := C25.trans (hS32'.mono C25.size (by simp))
    refine ⟨_, _, _, _, hB32.c0, hB32.c1, hB32.c2, hB32.c3, _, _, _, _, hA32.c0, hA32.c1, hA32.c2, hA32.c3, false, w32, run_neqAns w32 _ _ _ _ _, cond_false' rfl ?_⟩
    have e : IntKind.wrap .i64 ((i : Int) + 1) = ((i + 1 : Nat) : Int) := by rw [wrap_i64 (by omega) (by omega)]; omega
    rw [e]
    exact ih (i + 1) w32 (by omega) C32

theorem RefinesUpTo_spec (w : World) (a : Option Addr) (l c : Nat) (hs : ScriptAt w a l) : Runs Try.prog numlaw_RefinesUpTo.id #[.slice a l c] w fun v w' => v = .int .i64 (-1) ∧ Same [] w.heap.size w w' := by
  refine numlaw_RefinesUpTo.enter _ _ _ _ _ ?_
  unfold numlaw_RefinesUpTo.V
  refine numlaw_walk.enter _ _ _ _ _ ?_
  unfold numlaw_walk.V
  exact walk_loop w a l c hs _ (fun w' n h => ⟨_, _, rfl, rfl, h⟩) l 0 w (by omega) (Same.refl _ _ _)

theorem Refines_spec (w : World) (a : Option Addr) (l c : Nat) (hs : ScriptAt w a l) : Runs Try.prog numlaw_Refines.id #[.slice a l c] w fun v w' => v = .bool true ∧ Same [] w.heap.size w w' := by
  refine numlaw_Refines.enter _ _ _ _ _ ?_
  unfold numlaw_Refines.V
  refine (RefinesUpTo_spec w a l c hs).mono ?_
  rintro v w1 ⟨rfl, hS⟩
  exact ⟨_, rfl, rfl, hS⟩

theorem RefinesQuiet_spec (w : World) (a : Option Addr) (l c : Nat) (hs : ScriptAt w a l) : Runs Try.prog numlaw_RefinesQuiet.id #[.slice a l c] w fun v w' => v = .bool true ∧ Same [] w.heap.size w w' := by
  refine numlaw_RefinesQuiet.enter _ _ _ _ _ ?_
  unfold numlaw_RefinesQuiet.V
  refine (RefinesUpTo_spec w a l c hs).mono ?_
  rintro v w1 ⟨rfl, hS⟩
  exact ⟨_, rfl, rfl, hS⟩

end Go.Proofs.Qxb6500320a
