/-
  The law World: the runs of the probe's functions.
-/
import Derived.Test.Qxb6500317aGreatWoE
set_option linter.unusedSimpArgs false
set_option linter.unusedVariables false
set_option maxRecDepth 100000
set_option linter.unusedSectionVars false
set_option maxHeartbeats 2000000
namespace Go.Proofs.Qxb6500317aGreat
open Go Go.Vc

theorem g61 : ∀ k, k < 6 → fsG (okP tProbe) 1 k = sg 0 0 0 126 k := by
  have : ((List.range 6).all fun k => decide (fsG (okP tProbe) 1 k = sg 0 0 0 126 k)) = true := by kernel_rfl
  exact fun k hk => of_decide_eq_true (List.all_eq_true.1 this k (List.mem_range.2 hk))
theorem g62 : ∀ k, k < 6 → fsG (okP tProbe) 2 k = sg 2 127 126 0 k := by
  have : ((List.range 6).all fun k => decide (fsG (okP tProbe) 2 k = sg 2 127 126 0 k)) = true := by kernel_rfl
  exact fun k hk => of_decide_eq_true (List.all_eq_true.1 this k (List.mem_range.2 hk))
theorem g63 : ∀ k, k < 6 → fsG (okP tProbe) 3 k = sg 0 0 0 126 k := by
  have : ((List.range 6).all fun k => decide (fsG (okP tProbe) 3 k = sg 0 0 0 126 k)) = true := by kernel_rfl
  exact fun k hk => of_decide_eq_true (List.all_eq_true.1 this k (List.mem_range.2 hk))
theorem g64 : ∀ k, k < 6 → fsG (okP tProbe) 4 k = sg 0 0 0 126 k := by
  have : ((List.range 6).all fun k => decide (fsG (okP tProbe) 4 k = sg 0 0 0 126 k)) = true := by kernel_rfl
  exact fun k hk => of_decide_eq_true (List.all_eq_true.1 this k (List.mem_range.2 hk))
theorem argT_congr {vs vs' : Nat → Nat} : ∀ n, (∀ j, j < n → vs j = vs' j) → argT vs n = argT vs' n
  | 0, _ => rfl
  | n + 1, h => by
    show argT vs n ++ h16 16 (vs n) ++ [44] = argT vs' n ++ h16 16 (vs' n) ++ [44]
    rw [argT_congr n (fun j hj => h j (by omega)), h n (by omega)]
theorem row_congr {vs vs' : Nat → Nat} (h : HS) (k n : Nat) (he : ∀ j, j < n → vs j = vs' j) : h.row k vs n = h.row k vs' n := by
  unfold HS.row
  rw [argT_congr n he]
def f60 : FF := ⟨2, 2, 0, [⟨32, 0, 0⟩, ⟨32, 1, 0⟩, ⟨16, 0, 0⟩, ⟨11, 0, 0⟩]⟩
def f61 : FF := ⟨0, 0, 1, [⟨16, 1, 0⟩, ⟨66, 0, 5⟩, ⟨124, 0, 0⟩, ⟨11, 0, 0⟩]⟩
def f62 : FF := ⟨0, 0, 1, [⟨66, 0, 1⟩, ⟨66, 0, 2⟩, ⟨12, 3, 4294967296⟩, ⟨11, 0, 0⟩]⟩
section
variable {E : RE} {w : World} {F : List Nat} {ms : M.MS} {h : HS} {S fr : Nat → Int} {fu : Int}
theorem run_log (hP : E.P = okP tProbe) (hfs : E.fs = fs6) (x : XL E w F ms h S fr) (hS : SW S) (hfu : 0 ≤ fu ∧ fu ≤ 9223372036854775807) (hn : h.n = 2) (hk0 : h.k 0 = 2) (hr : h.rows = 0) :
    Runs Tryz.prog exec_Exec_run.id #[rp E.A.xb, .int .i64 ((2 : Nat) : Int), .int .i64 ((2 : Nat) : Int), .int .i64 fu] w (ROK E fun left e ms' h' S' => ms' = ms ∧ (if fu < 3 then left = 0 ∧ e = 46 ∧ h' = h else left = fu - 3 ∧ e = 0 ∧ h' = h.row 0 (fun j => (S j).toNat) 2)) := by
  obtain ⟨n1, n2, n3, n4⟩ := n6
  have dry : fu < 3 → ∀ (c g r : Nat) (w' : World) (S' fr' : Nat → Int), SW S' → RS E c g r w' F ms h S' fr' → ROK E (fun left e ms' h' S' => ms' = ms ∧ (if fu < 3 then left = 0 ∧ e = 46 ∧ h' = h else left = fu - 3 ∧ e = 0 ∧ h' = h.row 0 (fun j => (S j).toNat) 2)) (.tuple #[.int .i64 0, .int .i64 46]) w' :=
    fun hlt c g r w' S' fr' sw s => ⟨0, 46, F, ms, h, S', fr', rfl, s.x, sw, rfl, by rw [if_pos hlt]; exact ⟨rfl, rfl, rfl⟩⟩
  refine run_enter (sp := 2) x (fun c g r w1 s1 => ?_)
  have hf0 : E.fs[0]? = some f60 := by rw [hfs]; rfl
  have q := enter_own (fuel := fu) (w17 := 0) (fi := 0) (f := f60) (d := 0) (sp := 2) (ca := none) (fa := none) (cl := 0) (cc := 0) (pc0 := 0) (base0 := 0) (floor0 := 0) (R := ROK E fun left e ms' h' S' => ms' = ms ∧ (if fu < 3 then left = 0 ∧ e = 46 ∧ h' = h else left = fu - 3 ∧ e = 0 ∧ h' = h.row 0 (fun j => (S j).toNat) 2)) s1 hf0 (by decide) (by decide) (by decide) (by rw [hP, n1]; omega) (by omega) (by omega) ?_
  · have e : ((E.P.nIm + 0 : Nat) : Int) = ((2 : Nat) : Int) := by rw [hP, n1]
    rw [e, show ((0 : Nat) : Int) - 1 = -1 from rfl] at q
    exact q
  intro w2 s2
  have sw2 : SW (zeroS S 2 (f60.lo - f60.pa)) := zeroS_sw hS 2 _
  refine op_get (n := 0) s2 hf0 (x := 0) (y := 0) rfl hfu (by omega) rfl (by decide) (by decide) (fun q0 w' s' => dry (by omega) c g r w' _ _ sw2 s') (fun p0 w3 s3 => ?_)
  have sw3 : SW (upd (zeroS S 2 (f60.lo - f60.pa)) (2 - f60.pa + f60.lo) (zeroS S 2 (f60.lo - f60.pa) (2 - f60.pa + 0))) := sw2.upd (sw2 _).1 (sw2 _).2
  refine op_get (n := 1) s3 hf0 (x := 1) (y := 0) rfl (by omega) (by omega) rfl (by decide) (by decide) (fun q0 w' s' => dry (by omega) c g r w' _ _ sw3 s') (fun p1 w4 s4 => ?_)
  have sw4 := sw3.upd (n := 2 - f60.pa + f60.lo + 1) (sw3 (2 - f60.pa + 1)).1 (sw3 (2 - f60.pa + 1)).2
  have g0 : fsG E.P 0 0 = ((2 : Nat) : Int) := by rw [hP, g60 0 (by omega)]; rfl
  have g5 : fsG E.P 0 5 = 0 := by rw [hP, g60 5 (by omega)]; rfl
  have ec : ∀ (S' : Nat → Int) (pg : Int), callH h 0 2 4 S' (fsG E.P 0 5) pg = (0, 0, h.row 0 (fun j => (S' (4 - 2 + j)).toNat) 2) := fun S' pg => by
    unfold callH HS.answer
    rw [hk0, if_neg (by decide), if_pos rfl]
  refine op_call_imp (k := 0) (np := 2) (x := 0) (y := 0) s4 hf0 rfl (by omega) (by omega) rfl (by rw [hP, n1]; omega) (by omega) (by omega) (by omega) g0 (by omega) (by decide) (by omega) sw4 (fun q0 w' s' => dry (by omega) c g r w' _ _ sw4 s') (fun _ q => ?_) (fun p2 _ w5 F5 s5 => ?_)
  · exact absurd (show (callH h 0 2 4 _ (fsG E.P 0 5) _).2.1 = 0 by rw [ec]) q
  · change RS E c g r w5 F5 ms (callH h 0 2 4 _ (fsG E.P 0 5) _).2.2 (if fsG E.P 0 5 = 0 then _ else _) _ at s5
    rw [ec, if_pos g5] at s5
    rw [if_pos g5]
    refine op_end_out (x := 0) (y := 0) s5 hf0 rfl (by omega) (by decide) (fun q => absurd q (by decide)) (by decide) (fun w6 s6 => ?_)
    rw [if_neg (by decide)] at s6
    refine ⟨fu - 1 - 1 - 1, 0, F5, ms, _, _, _, rfl, s6.x, sw4, rfl, ?_⟩
    rw [if_neg (by omega)]
    refine ⟨by omega, rfl, row_congr h 0 2 (fun j hj => ?_)⟩
    have : j = 0 ∨ j = 1 := by omega
    rcases this with rfl | rfl <;> rfl
theorem run_carry (hP : E.P = okP tProbe) (hfs : E.fs = fs6) (x : XL E w F ms h S fr) (hS : SW S) (hfu : 0 ≤ fu ∧ fu ≤ 9223372036854775807) :
    Runs Tryz.prog exec_Exec_run.id #[rp E.A.xb, .int .i64 ((4 : Nat) : Int), .int .i64 ((0 : Nat) : Int), .int .i64 fu] w (ROK E fun left e ms' h' S' => ms' = ms ∧ h' = h ∧ (if fu < 3 then left = 0 ∧ e = 46 else left = fu - 3 ∧ e = 0 ∧ S' 0 = 2)) := by
  obtain ⟨n1, n2, n3, n4⟩ := n6
  have dry : fu < 3 → ∀ (c g r : Nat) (w' : World) (S' fr' : Nat → Int), SW S' → RS E c g r w' F ms h S' fr' → ROK E (fun left e ms' h' S' => ms' = ms ∧ h' = h ∧ (if fu < 3 then left = 0 ∧ e = 46 else left = fu - 3 ∧ e = 0 ∧ S' 0 = 2)) (.tuple #[.int .i64 0, .int .i64 46]) w' :=
    fun hlt c g r w' S' fr' sw s => ⟨0, 46, F, ms, h, S', fr', rfl, s.x, sw, rfl, rfl, by rw [if_pos hlt]; exact ⟨rfl, rfl⟩⟩
  refine run_enter (sp := 0) x (fun c g r w1 s1 => ?_)
  have hf0 : E.fs[2]? = some f62 := by rw [hfs]; rfl
  have q := enter_own (fuel := fu) (w17 := 0) (fi := 2) (f := f62) (d := 0) (sp := 0) (ca := none) (fa := none) (cl := 0) (cc := 0) (pc0 := 0) (base0 := 0) (floor0 := 0) (R := ROK E fun left e ms' h' S' => ms' = ms ∧ h' = h ∧ (if fu < 3 then left = 0 ∧ e = 46 else left = fu - 3 ∧ e = 0 ∧ S' 0 = 2)) s1 hf0 (by decide) (by decide) (by decide) (by rw [hP, n1]; omega) (by omega) (by omega) ?_
  · have e : ((E.P.nIm + 2 : Nat) : Int) = ((4 : Nat) : Int) := by rw [hP, n1]
    rw [e, show ((0 : Nat) : Int) - 1 = -1 from rfl] at q
    exact q
  intro w2 s2
  have sw2 : SW (zeroS S 0 (f62.lo - f62.pa)) := zeroS_sw hS 0 _
  refine op_const s2 hf0 (o := 66) (x := 0) (y := 1) rfl (by omega) hfu (by omega) (by decide) (fun q0 w' s' => dry (by omega) c g r w' _ _ sw2 s') (fun p0 w3 s3 => ?_)
  have sw3 := sw2.upd (n := 0 - f62.pa + f62.lo) (v := 1) (by omega) (by omega)
  refine op_const s3 hf0 (o := 66) (x := 0) (y := 2) rfl (by omega) (by omega) (by omega) (by decide) (fun q0 w' s' => dry (by omega) c g r w' _ _ sw3 s') (fun p1 w4 s4 => ?_)
  have sw4 := sw3.upd (n := 0 - f62.pa + f62.lo + 1) (v := 2) (by omega) (by omega)
  refine op_br s4 hf0 (x := 3) (y := 4294967296) rfl (by omega) (by omega) (tgt := 3) (ht := 0) (keep := true) rfl (by omega) (by kernel_rfl) (by kernel_rfl) (by decide) (fun _ => by decide) (fun q0 w' s' => dry (by omega) c g r w' _ _ sw4 s') (fun p2 w5 s5 => ?_)
  rw [if_pos rfl] at s5
  rw [if_pos rfl]
  have sw5 := sw4.upd (n := 0 - f62.pa + f62.lo + 0) (sw4 (0 - f62.pa + f62.lo + 1 + 1 - 1)).1 (sw4 (0 - f62.pa + f62.lo + 1 + 1 - 1)).2
  refine op_end_out (x := 0) (y := 0) s5 hf0 rfl (by omega) (by decide) (fun _ => by decide) (by decide) (fun w6 s6 => ?_)
  rw [if_pos (show f62.re = 1 from rfl)] at s6
  refine ⟨fu - 1 - 1 - 1, 0, F, ms, h, _, _, rfl, s6.x, sw5.upd (sw5 _).1 (sw5 _).2, rfl, rfl, ?_⟩
  rw [if_neg (by omega)]
  exact ⟨by omega, rfl, rfl⟩
theorem ap124 (a b : Int) : U.ap 124 a b = (IntKind.wrap .u64 (a + b), 0) := by kernel_rfl
theorem call_tape_ans {h : HS} (hk1 : h.k 1 = 1) (vs : Nat → Nat) (pg : Int) : (h.row 1 vs 0).answer (h.k 1) 126 pg = if h.left = 0 then (0, 47, h.row 1 vs 0) else (h.tape h.head, 0, (h.row 1 vs 0).took) := by
  unfold HS.answer
  rw [hk1, if_pos rfl, if_neg (by decide)]
  show (if h.left = 0 then _ else (cut 126 (h.tape h.head), _, _)) = _
  have : cut 126 (h.tape h.head) = h.tape h.head := by
    unfold cut
    rw [if_neg (by omega)]
  rw [this]
theorem run_tape (hP : E.P = okP tProbe) (x : XL E w F ms h S fr) (hS : SW S) (hn : h.n = 2) (hk1 : h.k 1 = 1) (hr : h.rows = 0) :
    Runs Tryz.prog exec_Exec_run.id #[rp E.A.xb, .int .i64 ((1 : Nat) : Int), .int .i64 ((0 : Nat) : Int), .int .i64 fu] w (ROK E fun left e ms' h' S' => ms' = ms ∧ left = fu ∧ (if h.left = 0 then e = 47 ∧ h' = h.row 1 (fun _ => 0) 0 else e = 0 ∧ h' = (h.row 1 (fun _ => 0) 0).took ∧ S' 0 = h.tape h.head)) := by
  obtain ⟨n1, n2, n3, n4⟩ := n6
  have g0 : fsG E.P 1 0 = ((0 : Nat) : Int) := by rw [hP, g61 0 (by omega)]; rfl
  have g5 : fsG E.P 1 5 = 126 := by rw [hP, g61 5 (by omega)]; rfl
  have ec : ∀ (S' : Nat → Int) (pg : Int), callH h 1 0 0 S' (fsG E.P 1 5) pg = if h.left = 0 then (0, 47, h.row 1 (fun _ => 0) 0) else (h.tape h.head, 0, (h.row 1 (fun _ => 0) 0).took) := fun S' pg => by
    rw [g5]
    unfold callH
    rw [call_tape_ans hk1]
    rfl
  have tw := x.X.ho.tw h.head
  refine run_enter (sp := 0) x (fun c g r w1 s1 => ?_)
  refine enter_imp (k := 1) (np := 0) s1 (by rw [hP, n1]; omega) (by omega) (by omega) g0 (by omega) (by omega) (by rw [g5]; omega) hS (fun q w2 F2 s2 => ?_) (fun q w2 F2 s2 => ?_)
  · change RS E c g r w2 F2 ms (callH h 1 0 0 S (fsG E.P 1 5) _).2.2 S fr at s2
    change (callH h 1 0 0 S (fsG E.P 1 5) _).2.1 ≠ 0 at q
    show ROK E _ (.tuple #[.int .i64 fu, .int .i64 (callH h 1 0 0 S (fsG E.P 1 5) _).2.1]) w2
    rw [ec] at s2 q ⊢
    by_cases e : h.left = 0
    · rw [if_pos e] at s2 q ⊢
      exact ⟨fu, 47, F2, ms, _, S, fr, rfl, s2.x, hS, rfl, rfl, by rw [if_pos e]; exact ⟨rfl, rfl⟩⟩
    · rw [if_neg e] at q
      exact absurd rfl q
  · change RS E c g r w2 F2 ms (callH h 1 0 0 S (fsG E.P 1 5) _).2.2 (if fsG E.P 1 5 = 0 then S else upd S (0 - 0) (callH h 1 0 0 S (fsG E.P 1 5) _).1) fr at s2
    change (callH h 1 0 0 S (fsG E.P 1 5) _).2.1 = 0 at q
    rw [ec] at s2 q
    refine exec_Exec_run.step2 _ _ _ _ _ _ _ _ _ _ _ _ _ _ _ _ _ _ _ _ _ _ ?_
    unfold exec_Exec_run.V2
    refine cond_true' rfl ?_
    by_cases e : h.left = 0
    · rw [if_pos e] at q
      exact absurd q (by show ¬ (47 : Int) = 0; decide)
    · rw [if_neg e, if_neg (by rw [g5]; decide)] at s2
      exact ⟨fu, 0, F2, ms, _, _, fr, rfl, s2.x, hS.upd tw.1 tw.2, rfl, rfl, by rw [if_neg e]; exact ⟨rfl, rfl, rfl⟩⟩
theorem run_take (hP : E.P = okP tProbe) (hfs : E.fs = fs6) (x : XL E w F ms h S fr) (hS : SW S) (hfu : 0 ≤ fu ∧ fu ≤ 9223372036854775807) (hn : h.n = 2) (hk1 : h.k 1 = 1) (hr : h.rows = 0) :
    Runs Tryz.prog exec_Exec_run.id #[rp E.A.xb, .int .i64 ((3 : Nat) : Int), .int .i64 ((0 : Nat) : Int), .int .i64 fu] w (ROK E fun left e ms' h' S' => ms' = ms ∧ (if fu < 1 then left = 0 ∧ e = 46 ∧ h' = h else if h.left = 0 then left = fu - 1 ∧ e = 47 ∧ h' = h.row 1 (fun _ => 0) 0 else if fu < 3 then left = 0 ∧ e = 46 ∧ h' = (h.row 1 (fun _ => 0) 0).took else left = fu - 3 ∧ e = 0 ∧ h' = (h.row 1 (fun _ => 0) 0).took ∧ S' 0 = IntKind.wrap .u64 (h.tape h.head + 5))) := by
  obtain ⟨n1, n2, n3, n4⟩ := n6
  have g0 : fsG E.P 1 0 = ((0 : Nat) : Int) := by rw [hP, g61 0 (by omega)]; rfl
  have g5 : fsG E.P 1 5 = 126 := by rw [hP, g61 5 (by omega)]; rfl
  have ec : ∀ (S' : Nat → Int) (pg : Int), callH h 1 0 0 S' (fsG E.P 1 5) pg = if h.left = 0 then (0, 47, h.row 1 (fun _ => 0) 0) else (h.tape h.head, 0, (h.row 1 (fun _ => 0) 0).took) := fun S' pg => by
    rw [g5]
    unfold callH
    rw [call_tape_ans hk1]
    rfl
  have tw := x.X.ho.tw h.head
  generalize hQ : (fun (left e : Int) (ms' : M.MS) (h' : HS) (S' : Nat → Int) => ms' = ms ∧ (if fu < 1 then left = 0 ∧ e = 46 ∧ h' = h else if h.left = 0 then left = fu - 1 ∧ e = 47 ∧ h' = h.row 1 (fun _ => 0) 0 else if fu < 3 then left = 0 ∧ e = 46 ∧ h' = (h.row 1 (fun _ => 0) 0).took else left = fu - 3 ∧ e = 0 ∧ h' = (h.row 1 (fun _ => 0) 0).took ∧ S' 0 = IntKind.wrap .u64 (h.tape h.head + 5))) = Q
  refine run_enter (sp := 0) x (fun c g r w1 s1 => ?_)
  have hf0 : E.fs[1]? = some f61 := by rw [hfs]; rfl
  have q := enter_own (fuel := fu) (w17 := 0) (fi := 1) (f := f61) (d := 0) (sp := 0) (ca := none) (fa := none) (cl := 0) (cc := 0) (pc0 := 0) (base0 := 0) (floor0 := 0) (R := ROK E Q) s1 hf0 (by decide) (by decide) (by decide) (by rw [hP, n1]; omega) (by omega) (by omega) ?_
  · have e : ((E.P.nIm + 1 : Nat) : Int) = ((3 : Nat) : Int) := by rw [hP, n1]
    rw [e, show ((0 : Nat) : Int) - 1 = -1 from rfl] at q
    exact q
  intro w2 s2
  have sw2 : SW (zeroS S 0 (f61.lo - f61.pa)) := zeroS_sw hS 0 _
  refine op_call_imp (k := 1) (np := 0) (x := 1) (y := 0) s2 hf0 rfl hfu (by omega) rfl (by rw [hP, n1]; omega) (by omega) (by omega) (by omega) g0 (by omega) (by decide) (by rw [g5]; omega) sw2 (fun q0 w' s' => ?_) (fun p0 q w' F' s' => ?_) (fun p0 q w3 F3 s3 => ?_)
  · refine ⟨0, 46, F, ms, h, _, _, rfl, s'.x, sw2, ?_⟩
    rw [← hQ]
    exact ⟨rfl, by rw [if_pos (by omega)]; exact ⟨rfl, rfl, rfl⟩⟩
  · change RS E c g r w' F' ms (callH h 1 0 0 _ (fsG E.P 1 5) _).2.2 _ _ at s'
    change (callH h 1 0 0 _ (fsG E.P 1 5) _).2.1 ≠ 0 at q
    show ROK E Q (.tuple #[.int .i64 (fu - 1), .int .i64 (callH h 1 0 0 _ (fsG E.P 1 5) _).2.1]) w'
    rw [ec] at s' q ⊢
    by_cases e : h.left = 0
    · rw [if_pos e] at s' q ⊢
      refine ⟨fu - 1, 47, F', ms, _, _, _, rfl, s'.x, sw2, ?_⟩
      rw [← hQ]
      exact ⟨rfl, by rw [if_neg (by omega), if_pos e]; exact ⟨rfl, rfl, rfl⟩⟩
    · rw [if_neg e] at q
      exact absurd rfl q
  · change RS E c g r w3 F3 ms (callH h 1 0 0 _ (fsG E.P 1 5) _).2.2 (if fsG E.P 1 5 = 0 then _ else upd _ (0 - 0) (callH h 1 0 0 _ (fsG E.P 1 5) _).1) _ at s3
    change (callH h 1 0 0 _ (fsG E.P 1 5) _).2.1 = 0 at q
    rw [ec] at s3 q
    by_cases e : h.left = 0
    · rw [if_pos e] at q
      exact absurd q (by show ¬ (47 : Int) = 0; decide)
    rw [if_neg e, if_neg (by rw [g5]; decide)] at s3
    rw [if_neg (by rw [g5]; decide)]
    have sw3 := sw2.upd (n := 0 - 0) tw.1 tw.2
    have dry : fu < 3 → ∀ (w' : World) (S' fr' : Nat → Int), SW S' → RS E c g r w' F3 ms (h.row 1 (fun _ => 0) 0).took S' fr' → ROK E Q (.tuple #[.int .i64 0, .int .i64 46]) w' := fun hlt w' S' fr' sw s' => by
      refine ⟨0, 46, F3, ms, _, S', fr', rfl, s'.x, sw, ?_⟩
      rw [← hQ]
      exact ⟨rfl, by rw [if_neg (by omega), if_neg e, if_pos hlt]; exact ⟨rfl, rfl, rfl⟩⟩
    refine op_const s3 hf0 (o := 66) (x := 0) (y := 5) rfl (by omega) (by omega) (by omega) (by decide) (fun q0 w' s' => dry (by omega) w' _ _ sw3 s') (fun p1 w4 s4 => ?_)
    have sw4 := sw3.upd (n := 0 - f61.pa + f61.lo - 0 + 1) (v := 5) (by omega) (by omega)
    refine op_num2 s4 hf0 (o := 124) (x := 0) (y := 0) rfl (by omega) (by kernel_rfl) (by omega) (by omega) (by decide) sw4 (fun q0 w' s' => dry (by omega) w' _ _ sw4 s') (fun _ q => ?_) (fun p2 _ w5 s5 => ?_)
    · rw [ap124] at q
      exact absurd rfl q
    · rw [ap124] at s5
      have wu : ∀ z : Int, 0 ≤ IntKind.wrap .u64 z ∧ IntKind.wrap .u64 z < 18446744073709551616 := fun z => by rw [wrap_u64_mod]; omega
      refine op_end_out (x := 0) (y := 0) s5 hf0 rfl (by omega) (by decide) (fun _ => by decide) (by decide) (fun w6 s6 => ?_)
      rw [if_pos (show f61.re = 1 from rfl)] at s6
      have sw5 := sw4.upd (n := 0 - f61.pa + f61.lo - 0 + 1 + 1 - 2) (wu _).1 (wu (upd (upd (zeroS S 0 (f61.lo - f61.pa)) (0 - 0) (h.tape h.head)) (0 - f61.pa + f61.lo - 0 + 1) 5 (0 - f61.pa + f61.lo - 0 + 1 + 1 - 2) + upd (upd (zeroS S 0 (f61.lo - f61.pa)) (0 - 0) (h.tape h.head)) (0 - f61.pa + f61.lo - 0 + 1) 5 (0 - f61.pa + f61.lo - 0 + 1 + 1 - 1))).2
      refine ⟨fu - 1 - 1 - 1, 0, F3, ms, _, _, _, rfl, s6.x, sw5.upd (sw5 _).1 (sw5 _).2, ?_⟩
      rw [← hQ]
      exact ⟨rfl, by rw [if_neg (by omega), if_neg e, if_neg (by omega)]; exact ⟨by omega, rfl, rfl, rfl⟩⟩
end
end Go.Proofs.Qxb6500317aGreat
