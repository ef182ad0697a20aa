/-
  The law Means2: grow and sub.
-/
import Derived.Test.Qxb6500317aGreatMnF
import Derived.Test.Qxb6500317aGreatMnA
set_option linter.unusedSimpArgs false
set_option linter.unusedVariables false
set_option maxRecDepth 100000
set_option linter.unusedSectionVars false
set_option maxHeartbeats 2000000
namespace Go.Proofs.Qxb6500317aGreat
open Go Go.Vc

section
variable {E : RE} {c g r : Nat} {w w' : World} {F F' : List Nat} {ms ms' : M.MS} {h h' : HS} {S fr S' fr' : Nat → Int} {fu : Int} {R : Value → World → Prop} {G P cost e v : Int}
/-! ### grow -/
/-- The word that grow makes, step by step. -/
structure Gw (gr P x1 x2 x3 v : Int) : Prop where
  a1 : U.ap 116 gr 8 = (x1, 0)
  a2 : U.ap 114 x1 P = (x2, 0)
  a3 : U.ap 116 x2 8 = (x3, 0)
  a4 : U.ap 114 x3 P = (v, 0)
  b1 : 0 ≤ x1 ∧ x1 < 4294967296
  b2 : 0 ≤ x2 ∧ x2 < 4294967296
  b3 : 0 ≤ x3 ∧ x3 < 4294967296
  b4 : 0 ≤ v ∧ v < 4294967296
theorem run_grow (hfs : E.fs = fs7) (hP : E.P = okP tProbe2) (x : XL E w F ms h S fr) (hS : SW S) (hfu : 0 ≤ fu ∧ fu ≤ 9223372036854775807) (m : MI ms G P) (hk : HK h) (hr : h.rows = 0) (ha : 0 ≤ S 0 ∧ S 0 < 4294967296) {gr P' Pf x1 x2 x3 v : Int} (eg : (ms.grow (S 0)).1 = gr) (mg : MI (ms.grow (S 0)).2 G P') (hgr : 0 ≤ gr ∧ gr < 4294967296) (hP' : 0 ≤ P' ∧ P' < 4294967296) (gw : Gw gr P' x1 x2 x3 v) (hPf : Pf = if 2 ≤ fu then P' else P) :
    Runs Tryz.prog exec_Exec_run.id #[rp E.A.xb, .int .i64 ((7 : Nat) : Int), .int .i64 ((1 : Nat) : Int), .int .i64 fu] w (ROK E (Pst G Pf (lf fu 10 0) v)) := by
  obtain ⟨i1, i2⟩ := in7 hP
  obtain ⟨n1, n2, n3, n4⟩ := n7
  have hf : E.fs[5]? = some f75 := by rw [hfs]; rfl
  have early : fu < 2 → MI ms G Pf := fun q => by rw [hPf, if_neg (by omega)]; exact m
  obtain ⟨a1, a2, a3, a4, b1, b2, b3, b4⟩ := gw
  refine run_own x hf rfl rfl (by omega) (by omega) i1 (i2 5) (fun c g r w1 s1 => ?_)
  refine op_get (n := 0) s1 hf (x := 0) (y := 0) rfl (by omega) (by omega) rfl (by decide) (by decide) (fun q w' s' => dryP s' hS (early (by omega)) hk (by omega)) (fun p1 w2 s2 => ?_)
  have sw2 := hS.upd (n := 1) (hS (0 + 0)).1 (hS (0 + 0)).2
  refine op_mgrow s2 hf (x := 0) (y := 0) rfl (by omega) (by omega) (by omega) (d := S 0) rfl ha.1 ha.2 (by rw [eg]; exact hgr) (fun q w' s' => dryP s' sw2 (early (by omega)) hk (by omega)) (fun p2 w3 s3 => ?_)
  rw [eg] at s3
  rw [eg]
  have late : MI (ms.grow (S 0)).2 G Pf := by rw [hPf, if_pos (by omega)]; exact mg
  have epg := mg.pages
  generalize (ms.grow (S 0)).2 = ms2 at s3 late epg mg
  have sw3 := sw2.upd (n := 1 + 1 - 1) (v := gr) (by omega) (by omega)
  refine op_const s3 hf (o := 65) (x := 0) (y := 8) rfl (by omega) (by omega) (by omega) (by omega) (fun q w' s' => dryP s' sw3 late hk (by omega)) (fun p3 w4 s4 => ?_)
  have sw4 := sw3.upd (n := 1 + 1) (v := 8) (by omega) (by omega)
  refine op_num2 s4 hf (o := 116) (x := 0) (y := 0) rfl (by omega) (by decide) (by omega) (by omega) (by omega) sw4 (fun q w' s' => dryP s' sw4 late hk (by omega)) (fun _ q => absurd (show (U.ap 116 gr 8).2 = 0 by rw [a1]) q) (fun p4 _ w5 s5 => ?_)
  change RS E c g r w5 F ms2 h (upd _ (1 + 1 + 1 - 2) (U.ap 116 gr 8).1) _ at s5
  rw [a1] at s5
  have sw5 := sw4.upd (n := 1 + 1 + 1 - 2) (v := x1) (by omega) (by omega)
  refine op_msize s5 hf (x := 0) (y := 0) rfl (by omega) (by omega) (by omega) (fun q w' s' => dryP s' sw5 late hk (by omega)) (fun p5 w6 s6 => ?_)
  rw [epg] at s6
  have sw6 := sw5.upd (n := 1 + 1 + 1 - 1) (v := P') (by omega) (by omega)
  refine op_num2 s6 hf (o := 114) (x := 0) (y := 0) rfl (by omega) (by decide) (by omega) (by omega) (by omega) sw6 (fun q w' s' => dryP s' sw6 late hk (by omega)) (fun _ q => absurd (show (U.ap 114 x1 P').2 = 0 by rw [a2]) q) (fun p6 _ w7 s7 => ?_)
  change RS E c g r w7 F ms2 h (upd _ (1 + 1 + 1 - 1 + 1 - 2) (U.ap 114 x1 P').1) _ at s7
  rw [a2] at s7
  have sw7 := sw6.upd (n := 1 + 1 + 1 - 1 + 1 - 2) (v := x2) (by omega) (by omega)
  refine op_const s7 hf (o := 65) (x := 0) (y := 8) rfl (by omega) (by omega) (by omega) (by omega) (fun q w' s' => dryP s' sw7 late hk (by omega)) (fun p7 w8 s8 => ?_)
  have sw8 := sw7.upd (n := 1 + 1 + 1 - 1 + 1 - 1) (v := 8) (by omega) (by omega)
  refine op_num2 s8 hf (o := 116) (x := 0) (y := 0) rfl (by omega) (by decide) (by omega) (by omega) (by omega) sw8 (fun q w' s' => dryP s' sw8 late hk (by omega)) (fun _ q => absurd (show (U.ap 116 x2 8).2 = 0 by rw [a3]) q) (fun p8 _ w9 s9 => ?_)
  change RS E c g r w9 F ms2 h (upd _ (1 + 1 + 1 - 1 + 1 - 1 + 1 - 2) (U.ap 116 x2 8).1) _ at s9
  rw [a3] at s9
  have sw9 := sw8.upd (n := 1 + 1 + 1 - 1 + 1 - 1 + 1 - 2) (v := x3) (by omega) (by omega)
  obtain ⟨ga, _, _, g5⟩ := g7 (j := 1) rfl
  have g0 : fsG E.P 1 0 = ((0 : Nat) : Int) := by rw [hP, ga]; rfl
  have g5 : fsG E.P 1 5 = 127 := by rw [hP, g5]
  have ec : ∀ (S' : Nat → Int), callH h 1 0 (1 + 1 + 1 - 1 + 1 - 1 + 1 - 1) S' (fsG E.P 1 5) ((ms2.n / 64 : Nat) : Int) = (P', 0, h.row 1 (fun j => (S' (1 + 1 + 1 - 1 + 1 - 1 + 1 - 1 - 0 + j)).toNat) 0) := fun S' => by
    rw [g5]; exact callSize hk mg hP' _ S'
  refine op_call_imp (k := 1) (np := 0) (x := 1) (y := 0) s9 hf rfl (by omega) (by omega) rfl (by rw [hP, n1]; omega) (by omega) (by rw [hk.n]; omega) (by omega) g0 (by omega) (by omega) (by omega) sw9 (fun q w' s' => dryP s' sw9 late hk (by omega)) (fun _ q => ?_) (fun p9 _ wa Fa sa => ?_)
  · exact absurd (show (callH h 1 0 (1 + 1 + 1 - 1 + 1 - 1 + 1 - 1) _ (fsG E.P 1 5) ((ms2.n / 64 : Nat) : Int)).2.1 = 0 by rw [ec]) q
  have ne : ¬ fsG E.P 1 5 = 0 := by omega
  rw [ec, if_neg ne] at sa
  rw [if_neg ne]
  have swa := sw9.upd (n := 1 + 1 + 1 - 1 + 1 - 1 + 1 - 1 - 0) (v := P') (by omega) (by omega)
  have hka := hk.row 1 (fun j => (upd (upd (upd (upd (upd (upd (upd (upd S 1 (S (0 + 0))) (1 + 1 - 1) gr) (1 + 1) 8) (1 + 1 + 1 - 2) x1) (1 + 1 + 1 - 1) P') (1 + 1 + 1 - 1 + 1 - 2) x2) (1 + 1 + 1 - 1 + 1 - 1) 8) (1 + 1 + 1 - 1 + 1 - 1 + 1 - 2) x3 (1 + 1 + 1 - 1 + 1 - 1 + 1 - 1 - 0 + j)).toNat) 0
  refine op_num2 sa hf (o := 114) (x := 0) (y := 0) rfl (by omega) (by decide) (by omega) (by omega) (by omega) swa (fun q w' s' => dryP s' swa late hka (by omega)) (fun _ q => absurd (show (U.ap 114 x3 P').2 = 0 by rw [a4]) q) (fun pa _ wb sb => ?_)
  change RS E c g r wb Fa ms2 _ (upd _ (1 + 1 + 1 - 1 + 1 - 1 + 1 - 1 - 0 + 1 - 2) (U.ap 114 x3 P').1) _ at sb
  rw [a4] at sb
  have swb := swa.upd (n := 1 + 1 + 1 - 1 + 1 - 1 + 1 - 1 - 0 + 1 - 2) (v := v) (by omega) (by omega)
  refine op_end_out (x := 0) (y := 0) sb hf rfl (by omega) (by decide) (fun _ => by omega) (by decide) (fun wc sc => ?_)
  rw [if_pos (show f75.re = 1 from rfl)] at sc
  exact endP sc (swb.upd (swb _).1 (swb _).2) late hka (by omega) (by omega) rfl (fun _ => rfl)
end
end Go.Proofs.Qxb6500317aGreat
