/-
  The law Means2: the runs of the probe's functions.
-/
import Derived.Test.Qxb6500317aGreatMnD
import Derived.Test.Qxb6500317aGreatExO
set_option linter.unusedSimpArgs false
set_option linter.unusedVariables false
set_option maxRecDepth 100000
set_option linter.unusedSectionVars false
set_option maxHeartbeats 2000000
namespace Go.Proofs.Qxb6500317aGreat
open Go Go.Vc

def lf (fu cost e : Int) : Int × Int := if fu < cost then (0, 46) else (fu - cost, e)
def Pst (G P : Int) (r : Int × Int) (v : Int) : Int → Int → M.MS → HS → (Nat → Int) → Prop := fun left e ms' h' S' => MI ms' G P ∧ HK h' ∧ left = r.1 ∧ e = r.2 ∧ (e = 0 → S' 0 = v)
section
variable {E : RE} {c g r : Nat} {w w' : World} {F F' : List Nat} {ms ms' : M.MS} {h h' : HS} {S fr S' fr' : Nat → Int} {fu : Int} {R : Value → World → Prop} {G P cost e v : Int}
theorem dryP (s : RS E c g r w' F' ms' h' S' fr') (sw : SW S') (m : MI ms' G P) (k : HK h') (hlt : fu < cost) : ROK E (Pst G P (lf fu cost e) v) (.tuple #[.int .i64 0, .int .i64 46]) w' := by
  refine ⟨0, 46, F', ms', h', S', fr', rfl, s.x, sw, m, k, ?_, ?_, fun q => absurd q (by decide)⟩
  · unfold lf; rw [if_pos hlt]
  · unfold lf; rw [if_pos hlt]
theorem endP (s : RS E c g r w' F' ms' h' S' fr') (sw : SW S') (m : MI ms' G P) (k : HK h') {left e' : Int} (hge : ¬ fu < cost) (hl : left = fu - cost) (he : e' = e) (hv : e = 0 → S' 0 = v) : ROK E (Pst G P (lf fu cost e) v) (.tuple #[.int .i64 left, .int .i64 e']) w' := by
  refine ⟨left, e', F', ms', h', S', fr', rfl, s.x, sw, m, k, ?_, ?_, fun q => hv (he ▸ q)⟩
  · unfold lf; rw [if_neg hge]; exact hl
  · unfold lf; rw [if_neg hge]; exact he
/-- A function whose locals are its parameters is entered from outside. -/
theorem run_own (x : XL E w F ms h S fr) {fi np k : Nat} {f : FF} (hf : E.fs[fi]? = some f) (hpa : f.pa = np) (hlo : f.lo = np) (hnp : np ≤ 4) (hfi : fi ≤ 100) (hni : E.P.nIm ≤ 100) (hk : E.P.nIm + fi = k)
    (h1 : ∀ c g r w', RS E c g r w' F ms h S (frIn fr 0 0 fi 0) → RL E c g r fi f np fu 0 0 0 np 0 R w') : Runs Tryz.prog exec_Exec_run.id #[rp E.A.xb, .int .i64 (k : Int), .int .i64 (np : Int), .int .i64 fu] w R := by
  refine run_enter (sp := np) x (fun c g r w1 s1 => ?_)
  have q := enter_own (fuel := fu) (w17 := 0) (fi := fi) (f := f) (d := 0) (sp := np) (ca := none) (fa := none) (cl := 0) (cc := 0) (pc0 := 0) (base0 := 0) (floor0 := 0) (R := R) s1 hf (by omega) (by omega) (by omega) hni hfi (by omega) ?_
  · rw [hk, show ((0 : Nat) : Int) - 1 = -1 from rfl] at q
    exact q
  intro w2 s2
  have e1 : f.lo - f.pa = 0 := by omega
  have e2 : np - f.pa = 0 := by omega
  have e3 : np - f.pa + f.lo = np := by omega
  rw [e1, e2] at s2
  rw [e3, e2]
  exact h1 c g r w2 s2
theorem in7 (hP : E.P = okP tProbe2) : E.P.nIm ≤ 100 ∧ ∀ fi, E.P.nIm + fi = 2 + fi := by
  obtain ⟨n1, n2, n3, n4⟩ := n7
  exact ⟨by rw [hP, n1]; omega, fun fi => by rw [hP, n1]⟩
theorem HK.row (k : HK h) (i : Nat) (vs : Nat → Nat) (n : Nat) : HK (h.row i vs n) := ⟨k.n, k.k0, k.k1⟩
theorem HK.took (k : HK h) : HK h.took := ⟨k.n, k.k0, k.k1⟩
theorem HK.fresh (k : HK h) : HK h.fresh := ⟨k.n, k.k0, k.k1⟩
/-- The import size. -/
theorem callSize (k : HK h) (m : MI ms G P) (hP : 0 ≤ P ∧ P < 4294967296) (sp : Nat) (S : Nat → Int) : callH h 1 0 sp S 127 ((ms.n / 64 : Nat) : Int) = (P, 0, h.row 1 (fun j => (S (sp - 0 + j)).toNat) 0) := by
  unfold callH HS.answer
  rw [k.k1, if_neg (by decide), if_neg (by decide), if_neg (by decide), m.pages]
  have : cut 127 P = P := by
    unfold cut
    rw [if_pos (by omega)]; omega
  rw [this]
/-! ### init -/
theorem run_init (hfs : E.fs = fs7) (hP : E.P = okP tProbe2) (x : XL E w F ms h S fr) (hS : SW S) (hld : M.loadVal ms.back 40 8 = 1144201745) (hn : ms.n = 64) (hng : ms.ng = 2)
    (hR : ∀ w' F' S' fr', XL E w' F' (ms.setGlobal ((1 : Nat) : Int) 1144201745).2 h S' fr' → SW S' → R (.tuple #[.int .i64 0, .int .i64 0]) w') :
    Runs Tryz.prog exec_Exec_run.id #[rp E.A.xb, .int .i64 ((2 : Nat) : Int), .int .i64 ((0 : Nat) : Int), .int .i64 3] w R := by
  obtain ⟨i1, i2⟩ := in7 hP
  have hf : E.fs[0]? = some f70 := by rw [hfs]; rfl
  refine run_own x hf rfl rfl (by omega) (by omega) i1 (i2 0) (fun c g r w1 s1 => ?_)
  refine op_const s1 hf (o := 65) (x := 0) (y := 0) rfl (by omega) (by omega) (by omega) (by omega) (fun q => absurd q (by decide)) (fun _ w2 s2 => ?_)
  have sw2 := hS.upd (n := 0) (v := 0) (by omega) (by omega)
  have el : ldP ms 0 8 = (1144201745, 0) := by
    unfold ldP
    rw [if_pos (by omega)]
    exact Prod.ext hld rfl
  refine op_load s2 hf (x := 0) (y := 8) rfl (by omega) (by omega) (by omega) (b := 0) rfl (by omega) (by omega) (by omega) (fun q => absurd q (by decide)) (fun _ q => absurd (by rw [el]) q) (fun _ _ w3 s3 => ?_)
  rw [el] at s3
  have sw3 := sw2.upd (n := 0 + 1 - 1) (v := 1144201745) (by omega) (by omega)
  refine op_gset s3 hf (x := 1) (y := 0) rfl (by omega) (by omega) (n := 1) rfl (by omega) (by omega) sw3 (fun q => absurd q (by decide)) (fun _ w4 s4 => ?_)
  refine op_end_out (x := 0) (y := 0) s4 hf rfl (by omega) (by decide) (fun q => absurd q (by decide)) (by decide) (fun w5 s5 => ?_)
  rw [if_neg (by decide)] at s5
  exact hR w5 F _ _ s5.x sw3
/-! ### pick -/
theorem run_pick (hfs : E.fs = fs7) (hP : E.P = okP tProbe2) (x : XL E w F ms h S fr) (hS : SW S) (hfu : 0 ≤ fu ∧ fu ≤ 9223372036854775807) (m : MI ms G P) (hk : HK h)
    (hc : (S 0 = 0 ∧ cost = 4 ∧ e = 0 ∧ v = 1144201745) ∨ (S 0 ≠ 0 ∧ S 1 = 0 ∧ cost = 7 ∧ e = 38) ∨ (S 0 ≠ 0 ∧ S 1 ≠ 0 ∧ cost = 7 ∧ e = 0 ∧ v = S 1)) :
    Runs Tryz.prog exec_Exec_run.id #[rp E.A.xb, .int .i64 ((4 : Nat) : Int), .int .i64 ((2 : Nat) : Int), .int .i64 fu] w (ROK E (Pst G P (lf fu cost e) v)) := by
  obtain ⟨i1, i2⟩ := in7 hP
  have hf : E.fs[2]? = some f72 := by rw [hfs]; rfl
  refine run_own x hf rfl rfl (by omega) (by omega) i1 (i2 2) (fun c g r w1 s1 => ?_)
  refine op_nop s1 hf (x := 0) (y := 0) rfl (by omega) (by omega) (fun q w' s' => dryP s' hS m hk (by omega)) (fun p1 w2 s2 => ?_)
  refine op_get (n := 0) s2 hf (x := 0) (y := 0) rfl (by omega) (by omega) rfl (by decide) (by decide) (fun q w' s' => dryP s' hS m hk (by omega)) (fun p2 w3 s3 => ?_)
  have sw3 := hS.upd (n := 2) (hS (0 + 0)).1 (hS (0 + 0)).2
  refine op_if s3 hf (x := 9) (y := 0) rfl (by omega) (by omega) (tgt := 9) rfl (by omega) (by omega) (fun q w' s' => dryP s' sw3 m hk (by omega)) (fun p3 z w4 s4 => ?_) (fun p3 z w4 s4 => ?_)
  · have z : S 0 = 0 := z
    refine op_gget s4 hf (x := 1) (y := 0) rfl (by omega) (by omega) (n := 1) rfl (by rw [m.ng]; omega) (by omega) (by omega) (fun q w' s' => dryP s' sw3 m hk (by omega)) (fun p4 w5 s5 => ?_)
    rw [m.g1] at s5
    have sw5 := sw3.upd (n := 2 + 1 - 1) (v := 1144201745) (by omega) (by omega)
    refine op_end_out (x := 0) (y := 0) s5 hf rfl (by omega) (by decide) (fun _ => by omega) (by decide) (fun w6 s6 => ?_)
    rw [if_pos (show f72.re = 1 from rfl)] at s6
    exact endP s6 (sw5.upd (sw5 _).1 (sw5 _).2) m hk (by omega) (by omega) (by omega) (fun _ => by
      show (1144201745 : Int) = v
      omega)
  · have z : S 0 ≠ 0 := z
    refine op_get (n := 1) s4 hf (x := 1) (y := 0) rfl (by omega) (by omega) rfl (by decide) (by decide) (fun q w' s' => dryP s' sw3 m hk (by omega)) (fun p4 w5 s5 => ?_)
    have sw5 := sw3.upd (n := 2 + 1 - 1) (sw3 (0 + 1)).1 (sw3 (0 + 1)).2
    refine op_eqz s5 hf (x := 0) (y := 0) rfl (by omega) (by omega) (by omega) (fun q w' s' => dryP s' sw5 m hk (by omega)) (fun p5 w6 s6 => ?_)
    have ez : upd (upd S 2 (S (0 + 0))) (2 + 1 - 1) (upd S 2 (S (0 + 0)) (0 + 1)) (2 + 1 - 1 + 1 - 1) = S 1 := rfl
    rw [ez] at s6
    have sw6 : SW (upd (upd (upd S 2 (S (0 + 0))) (2 + 1 - 1) (upd S 2 (S (0 + 0)) (0 + 1))) (2 + 1 - 1 + 1 - 1) (if S 1 = 0 then 1 else 0)) := sw5.upd (by split <;> omega) (by split <;> omega)
    refine op_if s6 hf (x := 7) (y := 0) rfl (by omega) (by omega) (tgt := 7) rfl (by omega) (by omega) (fun q w' s' => dryP s' sw6 m hk (by omega)) (fun p6 y w7 s7 => ?_) (fun p6 y w7 s7 => ?_)
    · have y : (if S 1 = 0 then (1 : Int) else 0) = 0 := y
      have y1 : S 1 ≠ 0 := fun q => by rw [if_pos q] at y; exact absurd y (by decide)
      refine op_get (n := 1) s7 hf (x := 1) (y := 0) rfl (by omega) (by omega) rfl (by decide) (by decide) (fun q w' s' => dryP s' sw6 m hk (by omega)) (fun p7 w8 s8 => ?_)
      have sw8 := sw6.upd (n := 2 + 1 - 1 + 1 - 1) (sw6 (0 + 1)).1 (sw6 (0 + 1)).2
      refine op_jump s8 hf (x := 10) (y := 0) rfl (by omega) (tgt := 10) rfl (by omega) (fun w9 s9 => ?_)
      refine op_end_out (x := 0) (y := 0) s9 hf rfl (by omega) (by decide) (fun _ => by omega) (by decide) (fun wa sa => ?_)
      rw [if_pos (show f72.re = 1 from rfl)] at sa
      exact endP sa (sw8.upd (sw8 _).1 (sw8 _).2) m hk (by omega) (by omega) (by omega) (fun _ => by
        show S 1 = v
        omega)
    · have y : (if S 1 = 0 then (1 : Int) else 0) ≠ 0 := y
      have y1 : S 1 = 0 := Classical.byContradiction (fun q => by rw [if_neg q] at y; exact y rfl)
      refine op_unreachable s7 hf (x := 0) (y := 0) rfl (by omega) (by omega) (fun q w' s' => dryP s' sw6 m hk (by omega)) (fun p7 w8 s8 => ?_)
      exact endP s8 sw6 m hk (by omega) (by omega) (by omega) (fun q => absurd q (by omega))
end
end Go.Proofs.Qxb6500317aGreat
