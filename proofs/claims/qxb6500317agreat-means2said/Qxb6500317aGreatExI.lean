/-
  The loop: a function of the module is entered; run.
-/
import Derived.Test.Qxb6500317aGreatExH
set_option linter.unusedSimpArgs false
set_option linter.unusedVariables false
set_option maxRecDepth 100000
set_option linter.unusedSectionVars false
set_option maxHeartbeats 1000000
namespace Go.Proofs.Qxb6500317aGreat
open Go Go.Vc

def zeroS (S : Nat → Int) (a : Nat) : Nat → Nat → Int
  | 0 => S
  | n + 1 => upd (zeroS S a n) (a + n) 0
section
variable {E : RE} {c g r fi : Nat} {f : FF} {w w' : World} {F : List Nat} {ms : M.MS} {h : HS} {S fr : Nat → Int} {sp pc base floor depth : Nat} {fuel w17 : Int} {R : Value → World → Prop} {i : Ins}
theorem zeroS_sw (hS : SW S) (a : Nat) : ∀ n, SW (zeroS S a n)
  | 0 => hS
  | n + 1 => (zeroS_sw hS a n).upd (by omega) (by omega)
/-- The frames behind an entry to frame d. -/
def frIn (fr : Nat → Int) (d : Nat) (pc0 : Int) (fi base : Nat) : Nat → Int :=
  upd (upd (upd (if d = 0 then fr else upd fr ((d - 1) * 3 + 1) pc0) (d * 3) (fi : Int)) (d * 3 + 1) 0) (d * 3 + 2) (base : Int)
theorem enter_own (s : RS E c g r w F ms h S fr) (hf : E.fs[fi]? = some f) (hpa : f.pa ≤ sp) (hlo : sp - f.pa + f.lo < 120) (hpl : f.pa ≤ f.lo) (hni : E.P.nIm ≤ 100) (hfi : fi ≤ 100) {d : Nat} (hd : d ≤ 5) {ca fa : Option Addr} {cl cc : Nat} {pc0 base0 floor0 : Int}
    (h1 : ∀ w', RS E c g r w' F ms h (zeroS S sp (f.lo - f.pa)) (frIn fr d pc0 fi (sp - f.pa)) → RL E c g r fi f (sp - f.pa + f.lo) fuel w17 0 (sp - f.pa) (sp - f.pa + f.lo) d R w') :
    exec_Exec_run.L1 (some ⟨E.A.xb, 0, none⟩) ((E.P.nIm + fi : Nat) : Int) (sp : Int) fuel (some ⟨E.A.kb, 0, none⟩) 120 120 (E.P.nIm : Int) ca cl cc fa c g r w17 pc0 base0 floor0 ((d : Int) - 1) R (fun _ _ => False) w := by
  have ne0 : E.fs ≠ [] := by intro e; rw [e] at hf; cases hf
  have ed : IntKind.wrap .i64 ((d : Int) - 1 + 1) = (d : Int) := by rw [wrap_i64 (by omega) (by omega)]; omega
  have lt : fi < E.fs.length := (List.getElem?_eq_some_iff.1 hf).1
  -- behind the old frame's pc
  have rest : ∀ (w1 : World) (fr1 : Nat → Int), fr1 = (if d = 0 then fr else upd fr ((d - 1) * 3 + 1) pc0) → RS E c g r w1 F ms h S fr1 →
      exec_Exec_run.L3 (some ⟨E.A.xb, 0, none⟩) ((E.P.nIm + fi : Nat) : Int) (sp : Int) fuel (some ⟨E.A.kb, 0, none⟩) 120 120 (E.P.nIm : Int) c g r w17 ((d : Int) - 1) R (fun _ _ => False) w1 := by
    intro w1 fr1 hfr s1
    obtain ⟨e1, _, e3⟩ := s1.x.M.cd ne0
    obtain ⟨a1, a2, a3, a4, a5, a6⟩ := e3 fi f hf
    have ef : IntKind.wrap .i64 (((E.P.nIm + fi : Nat) : Int) - (E.P.nIm : Int)) = (fi : Int) := by rw [wrap_i64 (by omega) (by omega)]; omega
    have eb : IntKind.wrap .i64 ((sp : Int) - (f.pa : Int)) = ((sp - f.pa : Nat) : Int) := by rw [wrap_i64 (by omega) (by omega)]; omega
    have efl : IntKind.wrap .i64 (((sp - f.pa : Nat) : Int) + (f.lo : Int)) = ((sp - f.pa + f.lo : Nat) : Int) := by rw [wrap_i64 (by omega) (by omega)]; omega
    refine exec_Exec_run.step3 _ _ _ _ _ _ _ _ _ _ _ _ _ _ _ _ ?_
    unfold exec_Exec_run.V3
    refine ⟨_, s1.x.H.c6, _, _, _, e1, ?_⟩
    simp only [ef, ed, nilV_some, add_mk, Int.toNat_natCast, Nat.zero_add]
    refine ⟨by omega, _, a1, _, a2, ?_⟩
    simp only [eb, efl]
    -- the locals are zeroed
    have loop : ∀ (n j : Nat) (w2 : World), j + n = f.lo - f.pa → RS E c g r w2 F ms h (zeroS S sp j) fr1 →
        exec_Exec_run.L5 (some ⟨E.A.xb, 0, none⟩) ((E.P.nIm + fi : Nat) : Int) ((sp + j : Nat) : Int) fuel (some ⟨E.A.kb, 0, none⟩) 120 120 (E.P.nIm : Int) (some ⟨E.fb, fi * 4, none⟩) c g r w17 ((sp - f.pa : Nat) : Int) ((sp - f.pa + f.lo : Nat) : Int) (d : Int) R (fun _ _ => False) w2 := by
      intro n
      induction n with
      | zero =>
        intro j w2 hj s2
        refine exec_Exec_run.step5 _ _ _ _ _ _ _ _ _ _ _ _ _ _ _ _ _ _ _ ?_
        unfold exec_Exec_run.V5
        obtain rfl : j = f.lo - f.pa := by omega
        refine cond_false' (decide_eq_false (by omega)) ?_
        simp only [ef, nilV_some, add_mk, Int.toNat_natCast, Nat.zero_add]
        refine ⟨by omega, s2.x.X.canF (i := d * 3) (by omega), ?_⟩
        have s3 := s2.setFr (i := d * 3) (by omega) (fi : Int)
        refine ⟨s3.x.X.canF (i := d * 3 + 1) (by omega), ?_⟩
        have s4 := s3.setFr (i := d * 3 + 1) (by omega) 0
        refine ⟨s4.x.X.canF (i := d * 3 + 2) (by omega), ?_⟩
        have s5 := s4.setFr (i := d * 3 + 2) (by omega) ((sp - f.pa : Nat) : Int)
        obtain ⟨_, _, e3'⟩ := s5.x.M.cd ne0
        obtain ⟨_, _, _, b4, _, _⟩ := e3' fi f hf
        refine ⟨_, _, _, b4, ?_⟩
        refine exec_Exec_run.step4 _ _ _ _ _ _ _ _ _ _ _ _ _ _ _ _ _ _ _ _ _ _ ?_
        unfold exec_Exec_run.V4
        rw [hfr] at s5
        have := h1 _ s5
        rwa [show sp - f.pa + f.lo = sp + (f.lo - f.pa) by omega] at this ⊢
      | succ n ih =>
        intro j w2 hj s2
        refine exec_Exec_run.step5 _ _ _ _ _ _ _ _ _ _ _ _ _ _ _ _ _ _ _ ?_
        unfold exec_Exec_run.V5
        simp only [nilV_some, add_mk, Int.toNat_natCast, Nat.zero_add, Nat.mul_one]
        refine cond_true' (decide_eq_true (by omega)) ⟨by omega, s2.x.X.canK (by omega), letW_intro fun w3 hw3 => ?_⟩
        rw [nx (sp + j) (by omega), Nat.add_assoc]
        refine ih (j + 1) w3 (by omega) ?_
        rw [hw3]
        exact s2.setSt (by omega) 0
    exact loop (f.lo - f.pa) 0 w1 (by omega) s1
  refine exec_Exec_run.step1 _ _ _ _ _ _ _ _ _ _ _ _ _ _ _ _ _ _ _ _ _ _ _ ?_
  unfold exec_Exec_run.V1
  rw [ed]
  refine cond_false' (decide_eq_false (by omega)) (cond_false' (decide_eq_false (by omega)) ?_)
  by_cases e0 : d = 0
  · refine cond_false' (decide_eq_false (by omega)) (rest w fr (by rw [if_pos e0]) s)
  · refine cond_true' (decide_eq_true (by omega)) ?_
    have e1 : ((d : Int) - 1).toNat = d - 1 := by omega
    simp only [e1, nilV_some, add_mk, Nat.zero_add]
    refine ⟨by omega, s.x.X.canF (i := (d - 1) * 3 + 1) (by omega), letW_intro fun w2 hw2 => rest w2 _ (by rw [if_neg e0]) ?_⟩
    rw [hw2]
    exact s.setFr (i := (d - 1) * 3 + 1) (by omega) pc0
/-- An import is called out of the loop. -/
theorem op_call_imp (s : RS E c g r w F ms h S fr) (hf : E.fs[fi]? = some f) {x y : Int} (hi : f.cells[pc]? = some ⟨16, x, y⟩) (hfu : 0 ≤ fuel ∧ fuel ≤ 9223372036854775807) (hpc : pc ≤ 100000)
    {k np : Nat} (hx : x = (k : Int)) (hk : k < E.P.nIm) (hk9 : k ≤ 1000) (hn : k < h.n) (hr : h.rows < 12) (hnp : fsG E.P k 0 = (np : Int)) (hnp4 : np ≤ 4) (hsp : np ≤ sp ∧ sp < 120) (hre : 0 ≤ fsG E.P k 5 ∧ fsG E.P k 5 ≤ 255) (hS : SW S)
    (h0 : fuel = 0 → ∀ w', RS E c g r w' F ms h S fr → R (.tuple #[.int .i64 0, .int .i64 46]) w')
    (hE : 0 < fuel → (callH h k np sp S (fsG E.P k 5) ((ms.n / 64 : Nat) : Int)).2.1 ≠ 0 → ∀ w' F', RS E c g r w' F' ms (callH h k np sp S (fsG E.P k 5) ((ms.n / 64 : Nat) : Int)).2.2 S fr → R (.tuple #[.int .i64 (fuel - 1), .int .i64 (callH h k np sp S (fsG E.P k 5) ((ms.n / 64 : Nat) : Int)).2.1]) w')
    (h1 : 0 < fuel → (callH h k np sp S (fsG E.P k 5) ((ms.n / 64 : Nat) : Int)).2.1 = 0 → ∀ w' F', RS E c g r w' F' ms (callH h k np sp S (fsG E.P k 5) ((ms.n / 64 : Nat) : Int)).2.2 (if fsG E.P k 5 = 0 then S else upd S (sp - np) (callH h k np sp S (fsG E.P k 5) ((ms.n / 64 : Nat) : Int)).1) fr →
      RL E c g r fi f (if fsG E.P k 5 = 0 then sp - np else sp - np + 1) (fuel - 1) (callH h k np sp S (fsG E.P k 5) ((ms.n / 64 : Nat) : Int)).1 (pc + 1) base floor depth R w') : RL E c g r fi f sp fuel w17 pc base floor depth R w := by
  refine fetch1 s hf hi (by simp) (by simp) hfu hpc h0 (fun hf0 w1 s1 c1 => to13 c1 (by simp) ?_)
  refine exec_Exec_run.step13 _ _ _ _ _ _ _ _ _ _ _ _ _ _ _ _ _ _ _ _ _ _ _ ?_
  unfold exec_Exec_run.V13
  refine cond_true' rfl ⟨_, c1.c1, ?_⟩
  have e1 : IntKind.wrap .i64 x = (k : Int) := by rw [hx, wrap_i64 (by omega) (by omega)]
  show exec_Exec_run.L1 _ (IntKind.wrap .i64 x) _ _ _ _ _ _ _ _ _ _ _ _ _ _ _ _ _ _ _ _ _
  rw [e1]
  refine enter_imp s1 hk hn hr hnp hnp4 hsp hre hS (hE hf0) (fun q w2 F2 s2 => ?_)
  refine exec_Exec_run.step2 _ _ _ _ _ _ _ _ _ _ _ _ _ _ _ _ _ _ _ _ _ _ ?_
  unfold exec_Exec_run.V2
  refine cond_false' (decide_eq_false (by omega)) ?_
  refine exec_Exec_run.step4 _ _ _ _ _ _ _ _ _ _ _ _ _ _ _ _ _ _ _ _ _ _ ?_
  unfold exec_Exec_run.V4
  exact h1 hf0 q w2 F2 s2
/-- run, from outside. -/
theorem run_enter {E : RE} {w : World} {F : List Nat} {ms : M.MS} {h : HS} {S fr : Nat → Int} (x : XL E w F ms h S fr) {fn : Int} {sp : Nat} {fuel : Int} {R : Value → World → Prop}
    (h1 : ∀ (c g r : Nat) (w' : World), RS E c g r w' F ms h S fr → exec_Exec_run.L1 (some ⟨E.A.xb, 0, none⟩) fn (sp : Int) fuel (some ⟨E.A.kb, 0, none⟩) 120 120 (E.P.nIm : Int) none 0 0 none c g r 0 0 0 0 (-1) R (fun _ _ => False) w') :
    Runs Tryz.prog exec_Exec_run.id #[rp E.A.xb, .int .i64 fn, .int .i64 (sp : Int), .int .i64 fuel] w R := by
  refine exec_Exec_run.enter _ _ _ _ _ _ _ ?_
  unfold exec_Exec_run.V
  obtain ⟨a, e⟩ := x.M.im
  refine ⟨_, _, _, x.X.c9, _, x.H.c5, _, _, _, e, letB_intro fun b1 hb1 => letW_intro fun w1 hw1 => letB_intro fun b2 hb2 => letW_intro fun w2 hw2 => letB_intro fun b3 hb3 => letW_intro fun w3 hw3 => h1 b1 b2 b3 w3 ?_⟩
  have S1 : Same [] w.heap.size w w1 := by rw [hw1]; exact (Same.refl _ _ _).alloc (Nat.le_refl _) _
  have z1 : w1.heap.size = w.heap.size + 1 := by rw [hw1]; simp
  have S2 : Same [] w1.heap.size w1 w2 := by rw [hw2]; exact (Same.refl _ _ _).alloc (Nat.le_refl _) _
  have z2 : w2.heap.size = w1.heap.size + 1 := by rw [hw2]; simp
  have S3 : Same [] w2.heap.size w2 w3 := by rw [hw3]; exact (Same.refl _ _ _).alloc (Nat.le_refl _) _
  have z3 : w3.heap.size = w2.heap.size + 1 := by rw [hw3]; simp
  have T2 : Same [] w.heap.size w w2 := Same.more (B := 0) S1 S2
  have T3 : Same [] w.heap.size w w3 := Same.more (B := 0) T2 S3
  have lt := x.X.lt
  have lF := x.X.ho.lF
  have c1 : ∀ j, j < 3 → can w1 ⟨b1, j, none⟩ := fun j hj => by
    rw [hw1, hb1]
    refine ⟨?_, World.frozen?_alloc_new _ _ _ _⟩
    rw [World.cell?_alloc_new]
    exact ⟨_, Array.getElem?_eq_getElem (by simp; omega)⟩
  have c2 : ∀ j, j < 6 → can w2 ⟨b2, j, none⟩ := fun j hj => by
    rw [hw2, hb2]
    refine ⟨?_, World.frozen?_alloc_new _ _ _ _⟩
    rw [World.cell?_alloc_new]
    exact ⟨_, Array.getElem?_eq_getElem (by simp; omega)⟩
  have c3 : ∀ j, j < 3 → can w3 ⟨b3, j, none⟩ := fun j hj => by
    rw [hw3, hb3]
    refine ⟨?_, World.frozen?_alloc_new _ _ _ _⟩
    rw [World.cell?_alloc_new]
    exact ⟨_, Array.getElem?_eq_getElem (by simp; omega)⟩
  have zz : ∀ k, w.heap.size ≤ k → E.A.n6 ≤ k ∧ k ∉ F ∧ ¬ E.I k := fun k hk => ⟨by omega, fun q => by have := lF k q; omega, fun q => by have := (x.iI k q).2.2; omega⟩
  exact ⟨x.keep T3, fun j hj => can_mv (can_mv (c1 j hj) S2 (by simp)) S3 (by simp), fun j hj => can_mv (c2 j hj) S3 (by simp), c3, zz b1 (by omega), zz b2 (by omega), zz b3 (by omega), by omega, by omega, by omega⟩
end
end Go.Proofs.Qxb6500317aGreat
