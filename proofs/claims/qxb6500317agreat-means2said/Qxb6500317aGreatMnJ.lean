/-
  The law Means2: an operator's run and invocation.
-/
import Derived.Test.Qxb6500317aGreatMnI
import Derived.Test.Qxb6500317aGreatMnC
import Derived.Test.Qxb6500317aGreatMnB
import Derived.Test.Qxb6500317aGreatWoH
set_option linter.unusedSimpArgs false
set_option linter.unusedVariables false
set_option maxRecDepth 100000
set_option linter.unusedSectionVars false
set_option maxHeartbeats 2000000
namespace Go.Proofs.Qxb6500317aGreat
open Go Go.Vc

theorem eql_ans (w : World) (x y : Operand) (e n k : Int) (t : ByteArray) :
    Sem.run Tryz.prog ((do eqGuard .eql T_api_Ans x y (.agg #[.int .i64 e, .int .i64 n, .int .i64 k, .string t]) (.agg #[.int .i64 e, .int .i64 n, .int .i64 k, .string t]); Go.binOp .eql T_api_Ans (.agg #[.int .i64 e, .int .i64 n, .int .i64 k, .string t]) (.agg #[.int .i64 e, .int .i64 n, .int .i64 k, .string t]))) w = .ok (.bool true) w := by
  have hm : Tryz.prog.eqGuardType Tryz.prog.depth T_api_Ans = false := by kernel_rfl
  have ht : Tryz.prog.underlying T_api_Ans = some (.struct (Tryz.prog.fieldsOf T_api_Ans)) := by kernel_rfl
  have hp : Tryz.prog.stoodInHeld T_api_Ans = false := by kernel_rfl
  have hf : (Tryz.prog.fieldsOf T_api_Ans).toList = [⟨"E", (27 : Nat), 0, false, "", "", 0⟩, ⟨"N", (3 : Nat), 1, false, "", "", 8⟩, ⟨"M", (3 : Nat), 2, false, "", "", 16⟩, ⟨"S", (9 : Nat), 3, false, "", "", 24⟩] := by kernel_rfl
  have q27 : ∀ (cs : Array Value) (i : Nat) (v : Value) (w : World), cs[i]? = some v → (part (27 : Nat) cs i).run Tryz.prog w = .ok v w := fun cs i v w hv => by
    have hia : (isAgg (27 : Nat)).run Tryz.prog w = .ok false w := by kernel_rfl
    simp [part, hia, hv]
  have q3 : ∀ (cs : Array Value) (i : Nat) (v : Value) (w : World), cs[i]? = some v → (part (3 : Nat) cs i).run Tryz.prog w = .ok v w := fun cs i v w hv => by
    have hia : (isAgg (3 : Nat)).run Tryz.prog w = .ok false w := by kernel_rfl
    simp [part, hia, hv]
  have q9 : ∀ (cs : Array Value) (i : Nat) (v : Value) (w : World), cs[i]? = some v → (part (9 : Nat) cs i).run Tryz.prog w = .ok v w := fun cs i v w hv => by
    have hia : (isAgg (9 : Nat)).run Tryz.prog w = .ok false w := by kernel_rfl
    simp [part, hia, hv]
  have e27 : ∀ (a : Int) (w : World), (Op.equalIn 9999 (27 : Nat) (.int .i64 a) (.int .i64 a)).run Tryz.prog w = .ok true w := fun a w => by
    have := run_equalIn_int (P := Tryz.prog) w 9998 (27 : Nat) .i64 .i64 a a (by kernel_rfl)
    simpa using this
  have e3 : ∀ (a : Int) (w : World), (Op.equalIn 9999 (3 : Nat) (.int .i64 a) (.int .i64 a)).run Tryz.prog w = .ok true w := fun a w => by
    have := run_equalIn_int (P := Tryz.prog) w 9998 (3 : Nat) .i64 .i64 a a (by kernel_rfl)
    simpa using this
  have e9 : ∀ (a : ByteArray) (w : World), (Op.equalIn 9999 (9 : Nat) (.string a) (.string a)).run Tryz.prog w = .ok true w := fun a w => by
    have := run_equalIn_string (P := Tryz.prog) w 9998 (9 : Nat) a a (by kernel_rfl)
    simpa using this
  have p0 : ∀ w, (part (27 : Nat) #[.int .i64 e, .int .i64 n, .int .i64 k, .string t] 0).run Tryz.prog w = .ok (.int .i64 e) w := fun w => q27 _ _ _ w rfl
  have p1 : ∀ w, (part (3 : Nat) #[.int .i64 e, .int .i64 n, .int .i64 k, .string t] 1).run Tryz.prog w = .ok (.int .i64 n) w := fun w => q3 _ _ _ w rfl
  have p2 : ∀ w, (part (3 : Nat) #[.int .i64 e, .int .i64 n, .int .i64 k, .string t] 2).run Tryz.prog w = .ok (.int .i64 k) w := fun w => q3 _ _ _ w rfl
  have p3 : ∀ w, (part (9 : Nat) #[.int .i64 e, .int .i64 n, .int .i64 k, .string t] 3).run Tryz.prog w = .ok (.string t) w := fun w => q9 _ _ _ w rfl
  rw [Sem.run_bind, run_eqGuard_agg (P := Tryz.prog) w .eql T_api_Ans x y _ _ hm, Result.andThen_ok, run_eql_struct, show (10000 : Nat) = 9999 + 1 from rfl, run_equalIn_struct w _ T_api_Ans _ _ ht hp, hf]
  simp [Op.eqFields, p0, p1, p2, p3, e27, e3, e9]
theorem ap106 (a b : Int) : U.ap 106 a b = ((a + b) % 4294967296, 0) := by
  have e : U.ap 106 a b = (IntKind.wrap .u64 (IntKind.wrap .u32 (IntKind.wrap .u32 a + IntKind.wrap .u32 b)), 0) := by kernel_rfl
  rw [e]
  refine Prod.ext ?_ rfl
  show IntKind.wrap .u64 (IntKind.wrap .u32 (IntKind.wrap .u32 a + IntKind.wrap .u32 b)) = _
  have u : ∀ x : Int, IntKind.wrap .u32 x = x % 4294967296 := fun x => rfl
  rw [wrap_u64_mod, u, u, u]
  omega
theorem ap69 (a : Int) (h0 : 0 ≤ a) (h1 : a < 4294967296) : U.ap 69 a 0 = (if a = 0 then 1 else 0, 0) := by
  have e : U.ap 69 a 0 = (num_flag.F (IntKind.wrap .u32 a == 0), 0) := by kernel_rfl
  rw [e, wrap_u32 (by omega) (by omega)]
  by_cases z : a = 0
  · rw [if_pos z, z]; rfl
  · rw [if_neg z, ne_beq z]; rfl
def PsO (r : Int × Int) (v : Int) : Int → Int → M.MS → HS → (Nat → Int) → Prop := fun left e _ _ S' => left = r.1 ∧ e = r.2 ∧ (e = 0 → S' 0 = v)
section
variable {E : RE} {c g r : Nat} {w w' : World} {F F' : List Nat} {ms ms' : M.MS} {h h' : HS} {S fr S' fr' : Nat → Int} {fu : Int} {cost e v : Int} {o : OpV} {k : Nat}
theorem dryO (s : RS E c g r w' F' ms' h' S' fr') (sw : SW S') (hlt : fu < cost) : ROK E (PsO (lf fu cost e) v) (.tuple #[.int .i64 0, .int .i64 46]) w' := by
  refine ⟨0, 46, F', ms', h', S', fr', rfl, s.x, sw, ?_, ?_, fun q => absurd q (by decide)⟩
  · unfold lf; rw [if_pos hlt]
  · unfold lf; rw [if_pos hlt]
theorem endO (s : RS E c g r w' F' ms' h' S' fr') (sw : SW S') {left e' : Int} (hge : ¬ fu < cost) (hl : left = fu - cost) (he : e' = e) (hv : e = 0 → S' 0 = v) : ROK E (PsO (lf fu cost e) v) (.tuple #[.int .i64 left, .int .i64 e']) w' := by
  refine ⟨left, e', F', ms', h', S', fr', rfl, s.x, sw, ?_, ?_, fun q => hv (he ▸ q)⟩
  · unfold lf; rw [if_neg hge]; exact hl
  · unfold lf; rw [if_neg hge]; exact he
theorem ap_bd (h0 : 69 ≤ k) (h1 : k ≤ 191) {a b : Int} (ha : 0 ≤ a ∧ a < 18446744073709551616) (hb : 0 ≤ b ∧ b < 18446744073709551616) : 0 ≤ (U.ap (k : Int) a b).1 ∧ (U.ap (k : Int) a b).1 < 18446744073709551616 := by
  have := U.ap_sh (k : Int) a b (by omega) (by omega) ha hb
  refine ⟨this.1, ?_⟩
  have l := this.2.1
  unfold U.bnd at l
  split at l <;> omega
theorem run_op (h0 : 69 ≤ k) (h1 : k ≤ 191) (hP : E.P = okP (opLit k)) (hfs : E.fs = [fOp k]) (x : XL E w F ms h S fr) (hS : SW S) (hfu : 0 ≤ fu ∧ fu ≤ 9223372036854775807) {np : Nat} (hnp : (U.sg (k : Int)).1 = (np : Int)) (hl0 : k = 69 → S 0 < 4294967296) {b : Int} (hb : b = if np = 2 then S 1 else 0) :
    Runs Tryz.prog exec_Exec_run.id #[rp E.A.xb, .int .i64 ((0 : Nat) : Int), .int .i64 (np : Int), .int .i64 fu] w (ROK E (PsO (lf fu ((np : Int) + 1) (U.ap (k : Int) (S 0) b).2) (U.ap (k : Int) (S 0) b).1)) := by
  obtain ⟨n1, n2, n3, n4, n5⟩ := opN h0 h1
  have tw := opTwo h0 h1
  have hni : E.P.nIm ≤ 100 := by rw [hP, n1]; omega
  have hkk : E.P.nIm + 0 = 0 := by rw [hP, n1]
  have hf : E.fs[0]? = some (fOp k) := by rw [hfs]; rfl
  have n12 : np = 1 ∨ np = 2 := by
    have := U.sg_one (k : Int) (by omega) (by omega)
    omega
  rcases n12 with rfl | rfl
  · have ef : fOp k = ⟨1, 1, 1, [⟨32, 0, 0⟩, ⟨(k : Int), 0, 0⟩, ⟨11, 0, 0⟩]⟩ := by
      unfold fOp
      rw [if_neg (by omega)]
    rw [ef] at hf
    have ht : exec_two.F (k : Int) = false := by rw [tw]; exact decide_eq_false (by omega)
    have hb : b = 0 := by rw [hb, if_neg (by omega)]
    rw [hb]
    have bd := ap_bd h0 h1 (hS 0) (b := 0) (by omega)
    refine run_own x hf rfl rfl (by omega) (by omega) hni hkk (fun c g r w1 s1 => ?_)
    refine op_get (n := 0) s1 hf (x := 0) (y := 0) rfl (by omega) (by omega) rfl (by decide) (by decide) (fun q w' s' => dryO s' hS (by omega)) (fun p1 w2 s2 => ?_)
    have sw2 := hS.upd (n := 1) (hS (0 + 0)).1 (hS (0 + 0)).2
    by_cases k69 : k = 69
    · have l0 := hl0 k69
      have s0 := (hS 0).1
      subst k69
      have ea := ap69 (S 0) s0 l0
      rw [show (((69 : Nat) : Int)) = 69 from rfl] at bd ⊢
      rw [ea] at bd ⊢
      refine op_eqz s2 hf (x := 0) (y := 0) rfl (by omega) (by omega) (by omega) (fun q w' s' => dryO s' sw2 (by omega)) (fun p2 w3 s3 => ?_)
      change RS E c g r w3 F ms h (upd _ (1 + 1 - 1) (if S 0 = 0 then 1 else 0)) _ at s3
      have sw3 := sw2.upd (n := 1 + 1 - 1) (v := if S 0 = 0 then 1 else 0) bd.1 bd.2
      refine op_end_out (x := 0) (y := 0) s3 hf rfl (by omega) (by decide) (fun _ => by omega) (by decide) (fun w4 s4 => ?_)
      rw [if_pos rfl] at s4
      exact endO s4 (sw3.upd (sw3 _).1 (sw3 _).2) (by omega) (by omega) rfl (fun _ => rfl)
    · have n106 : (k : Int) ≠ 106 := fun q => by
        rw [q] at hnp
        exact absurd hnp (by decide)
      refine op_num1 s2 hf (o := (k : Int)) (x := 0) (y := 0) rfl (by omega) ht (by omega) (by omega) (by omega) (fun q w' s' => dryO s' sw2 (by omega)) (fun p2 q w3 s3 => ?_) (fun p2 q w3 s3 => ?_)
      · change (U.ap (k : Int) (S 0) 0).2 ≠ 0 at q
        exact endO s3 sw2 (by omega) (by omega) rfl (fun z => absurd z q)
      · change (U.ap (k : Int) (S 0) 0).2 = 0 at q
        change RS E c g r w3 F ms h (upd _ (1 + 1 - 1) (U.ap (k : Int) (S 0) 0).1) _ at s3
        have sw3 := sw2.upd (n := 1 + 1 - 1) (v := (U.ap (k : Int) (S 0) 0).1) bd.1 bd.2
        refine op_end_out (x := 0) (y := 0) s3 hf rfl (by omega) (Nat.le_refl 1) (fun _ => by omega) (by decide) (fun w4 s4 => ?_)
        rw [if_pos rfl] at s4
        exact endO s4 (sw3.upd (sw3 _).1 (sw3 _).2) (by omega) (by omega) q.symm (fun _ => rfl)
  · have ef : fOp k = ⟨2, 2, 1, [⟨32, 0, 0⟩, ⟨32, 1, 0⟩, ⟨(k : Int), 0, 0⟩, ⟨11, 0, 0⟩]⟩ := by
      unfold fOp
      rw [if_pos (by omega)]
    rw [ef] at hf
    have ht : exec_two.F (k : Int) = true := by rw [tw]; exact decide_eq_true (by omega)
    have hb : b = S 1 := by rw [hb, if_pos rfl]
    rw [hb]
    have bd := ap_bd h0 h1 (hS 0) (hS 1)
    refine run_own x hf rfl rfl (by omega) (by omega) hni hkk (fun c g r w1 s1 => ?_)
    refine op_get (n := 0) s1 hf (x := 0) (y := 0) rfl (by omega) (by omega) rfl (by decide) (by decide) (fun q w' s' => dryO s' hS (by omega)) (fun p1 w2 s2 => ?_)
    have sw2 := hS.upd (n := 2) (hS (0 + 0)).1 (hS (0 + 0)).2
    refine op_get (n := 1) s2 hf (x := 1) (y := 0) rfl (by omega) (by omega) rfl (by decide) (by decide) (fun q w' s' => dryO s' sw2 (by omega)) (fun p2 w3 s3 => ?_)
    have sw3 := sw2.upd (n := 2 + 1) (sw2 (0 + 1)).1 (sw2 (0 + 1)).2
    by_cases k106 : k = 106
    · subst k106
      rw [show (((106 : Nat) : Int)) = 106 from rfl] at bd ⊢
      rw [ap106] at bd ⊢
      refine op_add s3 hf (x := 0) (y := 0) rfl (by omega) (by omega) (by omega) (fun q w' s' => dryO s' sw3 (by omega)) (fun p3 w4 s4 => ?_)
      change RS E c g r w4 F ms h (upd _ (2 + 1 + 1 - 2) (bAnd .u64 (IntKind.wrap .u64 (S 0 + S 1)) 4294967295)) _ at s4
      rw [mask_sum] at s4
      have sw4 := sw3.upd (n := 2 + 1 + 1 - 2) (v := (S 0 + S 1) % 4294967296) bd.1 bd.2
      refine op_end_out (x := 0) (y := 0) s4 hf rfl (by omega) (by decide) (fun _ => by omega) (by decide) (fun w5 s5 => ?_)
      rw [if_pos rfl] at s5
      exact endO s5 (sw4.upd (sw4 _).1 (sw4 _).2) (by omega) (by omega) rfl (fun _ => rfl)
    · have n69 : (k : Int) ≠ 69 := fun q => by
        rw [q] at hnp
        exact absurd hnp (by decide)
      refine op_num2 s3 hf (o := (k : Int)) (x := 0) (y := 0) rfl (by omega) ht (by omega) (by omega) (by omega) sw3 (fun q w' s' => dryO s' sw3 (by omega)) (fun p3 q w4 s4 => ?_) (fun p3 q w4 s4 => ?_)
      · change (U.ap (k : Int) (S 0) (S 1)).2 ≠ 0 at q
        exact endO s4 sw3 (by omega) (by omega) rfl (fun z => absurd z q)
      · change (U.ap (k : Int) (S 0) (S 1)).2 = 0 at q
        change RS E c g r w4 F ms h (upd _ (2 + 1 + 1 - 2) (U.ap (k : Int) (S 0) (S 1)).1) _ at s4
        have sw4 := sw3.upd (n := 2 + 1 + 1 - 2) (v := (U.ap (k : Int) (S 0) (S 1)).1) bd.1 bd.2
        refine op_end_out (x := 0) (y := 0) s4 hf rfl (by omega) (Nat.le_refl 1) (fun _ => by omega) (by decide) (fun w5 s5 => ?_)
        rw [if_pos rfl] at s5
        exact endO s5 (sw4.upd (sw4 _).1 (sw4 _).2) (by omega) (by omega) q.symm (fun _ => rfl)
/-! ### The invocation -/
def wantO (k : Nat) (o : OpV) : An3 :=
  if 32 < o.s.size then (1, 0, eS) else if (o.s.size : Int) ≠ 8 * (U.sg (k : Int)).1 then (34, 0, eS) else
  endsP o.b ((U.sg (k : Int)).1 + 1) (U.ap (k : Int) (cut (U.sg (k : Int)).2.1 (word o.s 0)) (cut (U.sg (k : Int)).2.1 (word o.s 1))).2 (hexOf (U.sg (k : Int)).2.2 2) (U.ap (k : Int) (cut (U.sg (k : Int)).2.1 (word o.s 0)) (cut (U.sg (k : Int)).2.1 (word o.s 1))).1
def InvO (E : RE) (r : An3) : Value → World → Prop := fun v w' => v = .tuple #[.string r.2.2, .int .i64 r.2.1, .int .i64 r.1] ∧ ∃ F ms h S fr, XL E w' F ms h S fr ∧ SW S
theorem sg_ty (h0 : 69 ≤ k) (h1 : k ≤ 191) : 124 ≤ (U.sg (k : Int)).2.2 ∧ (U.sg (k : Int)).2.2 ≤ 127 := by
  have : ((List.range 123).all fun j => decide (124 ≤ (U.sg ((69 + j : Nat) : Int)).2.2) && decide ((U.sg ((69 + j : Nat) : Int)).2.2 ≤ 127)) = true := by kernel_rfl
  have q := List.all_eq_true.1 this (k - 69) (List.mem_range.2 (by omega))
  rw [show 69 + (k - 69) = k by omega] at q
  simp only [Bool.and_eq_true, decide_eq_true_eq] at q
  exact q
theorem inv_op (h0 : 69 ≤ k) (h1 : k ≤ 191) (hP : E.P = okP (opLit k)) (hfs : E.fs = [fOp k]) (x : XL E w F ms h S fr) (hS : SW S) (hs : o.s.size ≤ 9223372036854775807) (hb : o.b ≤ 9223372036854775807) :
    Runs Tryz.prog exec_Exec_Invoke.id #[rp E.A.xb, .string ⟨#[102]⟩, .string o.s, .int .i64 o.b] w (InvO E (wantO k o)) := by
  obtain ⟨n1, n2, n3, n4, n5⟩ := opN h0 h1
  obtain ⟨g0, g1, g2, g5⟩ := opG h0 h1
  have ty := sg_ty h0 h1
  rw [← hP] at g0 g1 g2 g5 n5
  obtain ⟨np, hnp⟩ : ∃ np : Nat, (U.sg (k : Int)).1 = (np : Int) := ⟨(U.sg (k : Int)).1.toNat, by have := U.sg_one (k : Int) (by omega) (by omega); omega⟩
  have n12 : np = 1 ∨ np = 2 := by
    have := U.sg_one (k : Int) (by omega) (by omega)
    omega
  have fb := fuN_bd hb
  have z1 : (⟨#[102]⟩ : ByteArray).size = 1 := rfl
  obtain ⟨u, hu⟩ : ∃ u, u = cut (U.sg (k : Int)).2.1 (word o.s 0) := ⟨_, rfl⟩
  obtain ⟨v, hv⟩ : ∃ v, v = cut (U.sg (k : Int)).2.1 (word o.s 1) := ⟨_, rfl⟩
  have S0 : argS S o.s (fsG E.P 0) np 0 = u := by
    rcases n12 with rfl | rfl
    · show cut (fsG E.P 0 1) (word o.s 0) = u
      rw [g1, hu]
    · show cut (fsG E.P 0 1) (word o.s 0) = u
      rw [g1, hu]
  have S1 : o.s.size = 8 * np → v = if np = 2 then argS S o.s (fsG E.P 0) np 1 else 0 := fun z => by
    rcases n12 with rfl | rfl
    · rw [if_neg (by omega), hv]
      have : word o.s 1 = 0 := by
        unfold word
        rw [if_neg (by omega)]
      rw [this]
      unfold cut
      split <;> rfl
    · rw [if_pos rfl]
      show v = cut (fsG E.P 0 2) (word o.s 1)
      rw [g2 (by omega), hv]
  have eqw : wantO k o = if 32 < o.s.size then (1, 0, eS) else if (o.s.size : Int) ≠ 8 * (np : Int) then (34, 0, eS) else endsP o.b ((np : Int) + 1) (U.ap (k : Int) u v).2 (hexOf (U.sg (k : Int)).2.2 2) (U.ap (k : Int) u v).1 := by
    unfold wantO
    rw [hnp, ← hu, ← hv]
  have l0 : k = 69 → u < 4294967296 := fun q => by
    subst q
    have wb := word_bd o.s 0
    rw [hu, show (U.sg ((69 : Nat) : Int)).2.1 = 127 from rfl]
    unfold cut
    rw [if_pos (by omega)]; omega
  refine Invoke_spec x hS ⟨#[102]⟩ o.s (by decide) hs o.b (by rw [hP, n3]; omega) (by rw [hP, n1, n2]; omega) (k := 0) (np := np) (PsO (lf (fuN o.b) ((np : Int) + 1) (U.ap (k : Int) u v).2) (U.ap (k : Int) u v).1) (fun q => ?_) (fun _ q => ?_) (fun _ => ?_) (fun q _ q3 w' x' => ?_) (fun _ q w1 x1 => ?_) (fun _ q left e' w2 F' ms' h' S' fr' x2 hS' po => ?_)
  · rw [eqw, if_pos (by omega)]
    exact ⟨rfl, F, ms, h, S, fr, x, hS⟩
  · rw [n5] at q; omega
  · exact ⟨n5, by rw [hP, n1, n2]; omega, by rw [g0, hnp], by omega, by rw [g5]; omega, by rw [g5]; omega⟩
  · rw [eqw, if_neg (by omega), if_pos (by omega)]
    exact ⟨rfl, F, ms, h, S, fr, x', hS⟩
  · have y := run_op (E := E.at w1 F) h0 h1 hP hfs x1 (argS_sw hS _ _ _) fb hnp (fun z => by rw [S0]; exact l0 z) (S1 q)
    rw [S0] at y
    exact y
  · obtain ⟨rfl, rfl, hv0⟩ := po
    have oe := out_ends (w0 := S' 0) (e := (U.ap (k : Int) u v).2) (v := (U.ap (k : Int) u v).1) (cost := (np : Int) + 1) hb (by omega) (show (U.sg (k : Int)).2.2 ≠ 0 by omega) rfl hv0
    rw [g5, eqw, if_neg (by omega), if_neg (by omega)]
    simp only [Prod.mk.injEq] at oe
    obtain ⟨o1, o2, o3⟩ := oe
    refine ⟨?_, F', ms', h', S', fr', x2, hS'⟩
    show Value.tuple #[.string (outS (lf (fuN o.b) ((np : Int) + 1) (U.ap (k : Int) u v).2).2 (U.sg (k : Int)).2.2 (S' 0)), .int .i64 (lf (fuN o.b) ((np : Int) + 1) (U.ap (k : Int) u v).2).1, .int .i64 (lf (fuN o.b) ((np : Int) + 1) (U.ap (k : Int) u v).2).2] = _
    rw [o1, o2, o3]
end
end Go.Proofs.Qxb6500317aGreat
