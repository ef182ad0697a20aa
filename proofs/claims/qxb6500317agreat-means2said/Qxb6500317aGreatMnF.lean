/-
  The law Means2: more runs.
-/
import Derived.Test.Qxb6500317aGreatMnE
set_option linter.unusedSimpArgs false
set_option linter.unusedVariables false
set_option maxRecDepth 100000
set_option linter.unusedSectionVars false
set_option maxHeartbeats 2000000
namespace Go.Proofs.Qxb6500317aGreat
open Go Go.Vc

theorem rd_putB4 (f : Nat → Int) (a : Nat) (v : Int) (h0 : 0 ≤ v) (h1 : v < 4294967296) : M.loadVal (M.putB f a 4 v) 40 a = v := by
  have e : M.rd (M.putB f a 4 v) a 4 = v := by
    show M.putB f a 4 v a + 256 * (M.putB f a 4 v (a + 1) + 256 * (M.putB f a 4 v (a + 1 + 1) + 256 * (M.putB f a 4 v (a + 1 + 1 + 1) + 256 * 0))) = v
    have u : M.putB f a 4 v = M.upd (M.upd (M.upd (M.upd f a (v % 256)) (a + 1) (v / 256 % 256)) (a + 1 + 1) (v / 256 / 256 % 256)) (a + 1 + 1 + 1) (v / 256 / 256 / 256 % 256) := rfl
    rw [u]
    unfold M.upd
    rw [if_neg (by omega), if_neg (by omega), if_neg (by omega), if_pos rfl, if_neg (by omega), if_neg (by omega), if_pos rfl, if_neg (by omega), if_pos rfl, if_pos rfl]
    omega
  unfold M.loadVal
  have e2 : (memSig 40) = (4, 127, false) := rfl
  rw [e2]
  show cut 127 (if (false : Bool) = true ∧ _ then _ else M.rd (M.putB f a 4 v) a 4) = v
  rw [if_neg (by simp), e]
  unfold cut
  rw [if_pos (by omega)]; omega
section
variable {E : RE} {c g r : Nat} {w w' : World} {F F' : List Nat} {ms ms' : M.MS} {h h' : HS} {S fr S' fr' : Nat → Int} {fu : Int} {R : Value → World → Prop} {G P cost e v : Int}
/-! ### mem -/
theorem run_mem (hfs : E.fs = fs7) (hP : E.P = okP tProbe2) (x : XL E w F ms h S fr) (hS : SW S) (hfu : 0 ≤ fu ∧ fu ≤ 9223372036854775807) (m : MI ms G P) (hk : HK h) (hP2 : 1 ≤ P ∧ P ≤ 2) (ha : 0 ≤ S 0 ∧ S 0 < 4294967296) (hb : 0 ≤ S 1 ∧ S 1 < 4294967296)
    (hc : (64 * P < S 0 + 8 ∧ cost = 3 ∧ e = 42) ∨ (¬ 64 * P < S 0 + 8 ∧ cost = 7 ∧ e = 0 ∧ v = S 1)) :
    Runs Tryz.prog exec_Exec_run.id #[rp E.A.xb, .int .i64 ((5 : Nat) : Int), .int .i64 ((2 : Nat) : Int), .int .i64 fu] w (ROK E (Pst G P (lf fu cost e) v)) := by
  obtain ⟨i1, i2⟩ := in7 hP
  have hf : E.fs[3]? = some f73 := by rw [hfs]; rfl
  have hn := m.n
  refine run_own x hf rfl rfl (by omega) (by omega) i1 (i2 3) (fun c g r w1 s1 => ?_)
  refine op_get (n := 0) s1 hf (x := 0) (y := 0) rfl (by omega) (by omega) rfl (by decide) (by decide) (fun q w' s' => dryP s' hS m hk (by omega)) (fun p1 w2 s2 => ?_)
  have sw2 := hS.upd (n := 2) (hS (0 + 0)).1 (hS (0 + 0)).2
  refine op_get (n := 1) s2 hf (x := 1) (y := 0) rfl (by omega) (by omega) rfl (by decide) (by decide) (fun q w' s' => dryP s' sw2 m hk (by omega)) (fun p2 w3 s3 => ?_)
  have sw3 := sw2.upd (n := 2 + 1) (sw2 (0 + 1)).1 (sw2 (0 + 1)).2
  have e4 : (memSig 54).1 = 4 := rfl
  have es : ms.save 54 (S 0 + 4) (S 1) = if 64 * P < S 0 + 8 then (42, ms) else (0, { ms with back := M.putB ms.back (S 0 + 4).toNat 4 (S 1) }) := by
    unfold M.MS.save
    rw [if_pos (by omega), e4]
    by_cases q : 64 * P < S 0 + 8
    · rw [if_pos q, if_neg (by omega)]
    · rw [if_neg q, if_pos (by omega)]; rfl
  refine op_store s3 hf (x := 0) (y := 4) rfl (by omega) (by omega) (by omega) sw3 (b := S 0) rfl ha.1 ha.2 (by omega) (fun q w' s' => dryP s' sw3 m hk (by omega)) (fun p3 q w4 s4 => ?_) (fun p3 q w4 s4 => ?_)
  · change (ms.save 54 (S 0 + 4) (S 1)).1 ≠ 0 at q
    change RS E c g r w4 F (ms.save 54 (S 0 + 4) (S 1)).2 h _ _ at s4
    show ROK E _ (.tuple #[.int .i64 (fu - 1 - 1 - 1), .int .i64 (ms.save 54 (S 0 + 4) (S 1)).1]) w4
    rw [es] at q s4 ⊢
    by_cases t : 64 * P < S 0 + 8
    · rw [if_pos t] at s4 ⊢
      exact endP s4 sw3 m hk (by omega) (by omega) (by show (42 : Int) = e; omega) (fun q => absurd q (by omega))
    · rw [if_neg t] at q
      exact absurd rfl q
  · change (ms.save 54 (S 0 + 4) (S 1)).1 = 0 at q
    change RS E c g r w4 F (ms.save 54 (S 0 + 4) (S 1)).2 h _ _ at s4
    have m4 := m.save 54 (S 0 + 4) (S 1)
    by_cases t : 64 * P < S 0 + 8
    · rw [es, if_pos t] at q
      exact absurd (show (42 : Int) = 0 from q) (by decide)
    refine op_get (n := 0) s4 hf (x := 0) (y := 0) rfl (by omega) (by omega) rfl (by decide) (by decide) (fun q w' s' => dryP s' sw3 m4 hk (by omega)) (fun p4 w5 s5 => ?_)
    have sw5 := sw3.upd (n := 2 + 1 + 1 - 2) (sw3 (0 + 0)).1 (sw3 (0 + 0)).2
    refine op_const s5 hf (o := 65) (x := 0) (y := 4) rfl (by omega) (by omega) (by omega) (by omega) (fun q w' s' => dryP s' sw5 m4 hk (by omega)) (fun p5 w6 s6 => ?_)
    have sw6 := sw5.upd (n := 2 + 1 + 1 - 2 + 1) (v := 4) (by omega) (by omega)
    refine op_add s6 hf (x := 0) (y := 0) rfl (by omega) (by omega) (by omega) (fun q w' s' => dryP s' sw6 m4 hk (by omega)) (fun p6 w7 s7 => ?_)
    have ea : bAnd .u64 (IntKind.wrap .u64 (S 0 + 4)) 4294967295 = S 0 + 4 := by
      rw [wrap_u64 (by omega) (by omega), bAnd_u64_mask32 _ (by omega) (by omega)]
      omega
    change RS E c g r w7 F (ms.save 54 (S 0 + 4) (S 1)).2 h (upd _ (2 + 1 + 1 - 2 + 1 + 1 - 2) (bAnd .u64 (IntKind.wrap .u64 (S 0 + 4)) 4294967295)) _ at s7
    rw [ea] at s7
    have sw7 := sw6.upd (n := 2 + 1 + 1 - 2 + 1 + 1 - 2) (v := S 0 + 4) (by omega) (by omega)
    have el : ldP (ms.save 54 (S 0 + 4) (S 1)).2 (S 0 + 4) 0 = (S 1, 0) := by
      rw [es, if_neg t]
      unfold ldP
      have : ({ ms with back := M.putB ms.back (S 0 + 4).toNat 4 (S 1) } : M.MS).n = ms.n := rfl
      rw [this, if_pos (by omega), Int.add_zero]
      exact Prod.ext (rd_putB4 _ _ _ hb.1 hb.2) rfl
    refine op_load s7 hf (x := 0) (y := 0) rfl (by omega) (by omega) (by omega) (b := S 0 + 4) rfl (by omega) (by omega) (by omega) (fun q w' s' => dryP s' sw7 m4 hk (by omega)) (fun _ q => absurd (by rw [el]) q) (fun p7 _ w8 s8 => ?_)
    rw [el] at s8
    have sw8 := sw7.upd (n := 2 + 1 + 1 - 2 + 1 + 1 - 1 - 1) (v := S 1) (by omega) (by omega)
    refine op_end_out (x := 0) (y := 0) s8 hf rfl (by omega) (by decide) (fun _ => by omega) (by decide) (fun w9 s9 => ?_)
    rw [if_pos (show f73.re = 1 from rfl)] at s9
    exact endP s9 (sw8.upd (sw8 _).1 (sw8 _).2) m4 hk (by omega) (by omega) (by omega) (fun _ => by
      show S 1 = v
      omega)
/-! ### gadd -/
theorem run_gadd (hfs : E.fs = fs7) (hP : E.P = okP tProbe2) (x : XL E w F ms h S fr) (hS : SW S) (hfu : 0 ≤ fu ∧ fu ≤ 9223372036854775807) (m : MI ms G P) (hk : HK h) (hG : 0 ≤ G ∧ G < 4294967296) (ha : 0 ≤ S 0 ∧ S 0 < 4294967296) {v Gf : Int} (hv : v = (G + S 0) % 4294967296) (hGf : Gf = if 5 ≤ fu then v else G) :
    Runs Tryz.prog exec_Exec_run.id #[rp E.A.xb, .int .i64 ((6 : Nat) : Int), .int .i64 ((1 : Nat) : Int), .int .i64 fu] w (ROK E (Pst Gf P (lf fu 6 0) v)) := by
  obtain ⟨i1, i2⟩ := in7 hP
  have hf : E.fs[4]? = some f74 := by rw [hfs]; rfl
  have early : fu < 5 → MI ms Gf P := fun q => by rw [hGf, if_neg (by omega)]; exact m
  refine run_own x hf rfl rfl (by omega) (by omega) i1 (i2 4) (fun c g r w1 s1 => ?_)
  refine op_gget s1 hf (x := 0) (y := 0) rfl (by omega) (by omega) (n := 0) rfl (by rw [m.ng]; omega) (by omega) (by omega) (fun q w' s' => dryP s' hS (early (by omega)) hk (by omega)) (fun p1 w2 s2 => ?_)
  rw [m.g0] at s2
  have sw2 := hS.upd (n := 1) (v := G) (by omega) (by omega)
  refine op_get (n := 0) s2 hf (x := 0) (y := 0) rfl (by omega) (by omega) rfl (by decide) (by decide) (fun q w' s' => dryP s' sw2 (early (by omega)) hk (by omega)) (fun p2 w3 s3 => ?_)
  have sw3 := sw2.upd (n := 1 + 1) (sw2 (0 + 0)).1 (sw2 (0 + 0)).2
  refine op_add s3 hf (x := 0) (y := 0) rfl (by omega) (by omega) (by omega) (fun q w' s' => dryP s' sw3 (early (by omega)) hk (by omega)) (fun p3 w4 s4 => ?_)
  have ea : bAnd .u64 (IntKind.wrap .u64 (G + S 0)) 4294967295 = v := by
    rw [wrap_u64 (by omega) (by omega), bAnd_u64_mask32 _ (by omega) (by omega)]
    omega
  change RS E c g r w4 F ms h (upd _ (1 + 1 + 1 - 2) (bAnd .u64 (IntKind.wrap .u64 (G + S 0)) 4294967295)) _ at s4
  rw [ea] at s4
  have sw4 := sw3.upd (n := 1 + 1 + 1 - 2) (v := v) (by omega) (by omega)
  refine op_tee (n := 0) s4 hf (x := 0) (y := 0) rfl (by omega) (by omega) rfl (by decide) (by omega) (fun q w' s' => dryP s' sw4 (early (by omega)) hk (by omega)) (fun p4 w5 s5 => ?_)
  change RS E c g r w5 F ms h (upd _ (0 + 0) v) _ at s5
  have sw5 := sw4.upd (n := 0 + 0) (v := v) (by omega) (by omega)
  refine op_gset s5 hf (x := 0) (y := 0) rfl (by omega) (by omega) (n := 0) rfl (by omega) (by omega) sw5 (fun q w' s' => dryP s' sw5 (early (by omega)) hk (by omega)) (fun p5 w6 s6 => ?_)
  change RS E c g r w6 F (ms.setGlobal ((0 : Nat) : Int) v).2 h _ _ at s6
  have m6 : MI (ms.setGlobal ((0 : Nat) : Int) v).2 Gf P := by rw [hGf, if_pos (by omega)]; exact m.set0 v
  refine op_get (n := 0) s6 hf (x := 0) (y := 0) rfl (by omega) (by omega) rfl (by decide) (by decide) (fun q w' s' => dryP s' sw5 m6 hk (by omega)) (fun p6 w7 s7 => ?_)
  have sw7 := sw5.upd (n := 1 + 1 + 1 - 1 - 1) (sw5 (0 + 0)).1 (sw5 (0 + 0)).2
  refine op_end_out (x := 0) (y := 0) s7 hf rfl (by omega) (by decide) (fun _ => by omega) (by decide) (fun w8 s8 => ?_)
  rw [if_pos (show f74.re = 1 from rfl)] at s8
  exact endP s8 (sw7.upd (sw7 _).1 (sw7 _).2) m6 hk (by omega) (by omega) rfl (fun _ => rfl)
/-! ### host -/
theorem run_host (hfs : E.fs = fs7) (hP : E.P = okP tProbe2) (x : XL E w F ms h S fr) (hS : SW S) (hfu : 0 ≤ fu ∧ fu ≤ 9223372036854775807) (m : MI ms G P) (hk : HK h) (hr : h.rows = 0) (hl : h.left ≠ 0) :
    Runs Tryz.prog exec_Exec_run.id #[rp E.A.xb, .int .i64 ((8 : Nat) : Int), .int .i64 ((0 : Nat) : Int), .int .i64 fu] w (ROK E (Pst G P (lf fu 1 0) (h.tape h.head))) := by
  obtain ⟨i1, i2⟩ := in7 hP
  obtain ⟨n1, n2, n3, n4⟩ := n7
  have hf : E.fs[6]? = some f76 := by rw [hfs]; rfl
  obtain ⟨ga, _, _, g5⟩ := g7 (j := 0) rfl
  have g0 : fsG E.P 0 0 = ((0 : Nat) : Int) := by rw [hP, ga]; rfl
  have g5 : fsG E.P 0 5 = 126 := by rw [hP, g5]
  have ec : ∀ (S' : Nat → Int) (pg : Int), callH h 0 0 0 S' (fsG E.P 0 5) pg = (h.tape h.head, 0, (h.row 0 (fun j => (S' (0 - 0 + j)).toNat) 0).took) := fun S' pg => by
    rw [g5]
    unfold callH HS.answer
    rw [hk.k0, if_pos rfl, if_neg (by decide)]
    show (if h.left = 0 then _ else (cut 126 (h.tape h.head), _, _)) = _
    rw [if_neg hl]
    have : cut 126 (h.tape h.head) = h.tape h.head := by
      unfold cut
      rw [if_neg (by omega)]
    rw [this]
  have tw := x.X.ho.tw h.head
  refine run_own x hf rfl rfl (by omega) (by omega) i1 (i2 6) (fun c g r w1 s1 => ?_)
  refine op_call_imp (k := 0) (np := 0) (x := 0) (y := 0) s1 hf rfl (by omega) (by omega) rfl (by rw [hP, n1]; omega) (by omega) (by rw [hk.n]; omega) (by omega) g0 (by omega) (by omega) (by omega) hS (fun q w' s' => dryP s' hS m hk (by omega)) (fun _ q => ?_) (fun p1 _ w2 F2 s2 => ?_)
  · exact absurd (show (callH h 0 0 0 _ (fsG E.P 0 5) _).2.1 = 0 by rw [ec]) q
  · have ne : ¬ fsG E.P 0 5 = 0 := by omega
    change RS E c g r w2 F2 ms (callH h 0 0 0 _ (fsG E.P 0 5) _).2.2 (if fsG E.P 0 5 = 0 then _ else upd _ (0 - 0) (callH h 0 0 0 _ (fsG E.P 0 5) _).1) _ at s2
    rw [ec, if_neg ne] at s2
    rw [if_neg ne]
    have sw2 := hS.upd (n := 0 - 0) (v := h.tape h.head) tw.1 tw.2
    refine op_end_out (x := 0) (y := 0) s2 hf rfl (by omega) (by decide) (fun _ => by omega) (by decide) (fun w3 s3 => ?_)
    rw [if_pos (show f76.re = 1 from rfl)] at s3
    exact endP s3 (sw2.upd (sw2 _).1 (sw2 _).2) m (hk.row _ _ _).took (by omega) rfl rfl (fun _ => rfl)
end
end Go.Proofs.Qxb6500317aGreat
