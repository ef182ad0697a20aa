/-
  The law Means2: the invocations.
-/
import Derived.Test.Qxb6500317aGreatMnH
set_option linter.unusedSimpArgs false
set_option linter.unusedVariables false
set_option maxRecDepth 100000
set_option linter.unusedSectionVars false
set_option maxHeartbeats 2000000
namespace Go.Proofs.Qxb6500317aGreat
open Go Go.Vc

def fuN (a : Int) : Int := if a < 0 then 0 else a
def InvM (E : RE) (r : WaR) : Value → World → Prop := fun v w' => v = .tuple #[.string r.1.2.2, .int .i64 r.1.2.1, .int .i64 r.1.1] ∧ ∃ F ms h S fr, XL E w' F ms h S fr ∧ SW S ∧ MI ms r.2.1 r.2.2 ∧ HK h
/-- What Invoke hands out is what ends says. -/
theorem out_ends {fuel cost e re v w0 : Int} {t : ByteArray} (hf : fuel ≤ 9223372036854775807) (hc : 1 ≤ cost ∧ cost ≤ 1000) (hre : re ≠ 0) (ht : hexOf re 2 = t) (h0 : (lf (fuN fuel) cost e).2 = 0 → w0 = v) :
    (outS (lf (fuN fuel) cost e).2 re w0, (lf (fuN fuel) cost e).1, (lf (fuN fuel) cost e).2) = ((endsP fuel cost e t v).2.2, (endsP fuel cost e t v).2.1, (endsP fuel cost e t v).1) := by
  unfold lf at h0 ⊢
  unfold endsP fuN at *
  by_cases q : fuel < cost
  · rw [if_pos (show (if fuel < 0 then 0 else fuel) < cost by split <;> omega), if_pos q]
    unfold outS
    rw [if_pos (.inl (by show (46 : Int) ≠ 0; decide))]
  · rw [if_neg (show ¬ (if fuel < 0 then 0 else fuel) < cost by split <;> omega)] at h0 ⊢
    rw [if_neg q, if_neg (show ¬ fuel < 0 by omega), wrap_i64 (by omega) (by omega)]
    by_cases z : e = 0
    · rw [if_neg (by simpa using z), h0 z]
      unfold outS
      rw [if_neg (fun y => y.elim (fun y => y z) (fun y => hre y)), ht]
      simp only [z]
    · rw [if_pos z]
      unfold outS
      rw [if_pos (.inl z)]
section
variable {E : RE} {w w' : World} {F F' : List Nat} {ms ms' : M.MS} {h h' : HS} {S fr S' fr' : Nat → Int} {fu : Int} {G P cost e v : Int} {o : OpV}
theorem inv_same {e : Int} (x : XL E w F ms h S fr) (hS : SW S) (m : MI ms G P) (k : HK h) {r : WaR} (hr : r = ((e, 0, eS), G, P)) : InvM E r (.tuple #[.string ⟨#[]⟩, .int .i64 0, .int .i64 e]) w := by
  subst hr
  exact ⟨rfl, F, ms, h, S, fr, x, hS, m, k⟩
theorem inv_gen (hP : E.P = okP tProbe2) (x : XL E w F ms h S fr) (hS : SW S) (m : MI ms G P) (hk : HK h) (nm args : ByteArray) (hnm : nm.size ≤ 8) (has : args.size ≤ 9223372036854775807) {k np : Nat} (ef : findP E.P nm = (k : Int)) (kl : k < 9) (np4 : np ≤ 4) {re : Int} (g0 : fsG E.P k 0 = (np : Int)) (g5 : fsG E.P k 5 = re) (hre : re = 127 ∨ re = 126) {fuel G' P' : Int} {t : ByteArray} (ht : hexOf re 2 = t) {wa : WaR} (hf : fuel ≤ 9223372036854775807)
    (hc : args.size = 8 * np → 1 ≤ cost ∧ cost ≤ 1000) (hw1 : 32 < args.size → wa = ((1, 0, eS), G, P)) (hw2 : ¬ 32 < args.size → args.size ≠ 8 * np → wa = ((34, 0, eS), G, P)) (hw3 : args.size = 8 * np → wa = (endsP fuel cost e t v, G', P'))
    (hrun : args.size = 8 * np → ∀ w1, XL (E.at w1 F) w1 F ms h.fresh (argS S args (fsG E.P k) np) fr → Runs Tryz.prog exec_Exec_run.id #[rp E.A.xb, .int .i64 (k : Int), .int .i64 (np : Int), .int .i64 (fuN fuel)] w1 (ROK (E.at w1 F) (Pst G' P' (lf (fuN fuel) cost e) v))) :
    Runs Tryz.prog exec_Exec_Invoke.id #[rp E.A.xb, .string nm, .string args, .int .i64 fuel] w (InvM E wa) := by
  obtain ⟨n1, n2, n3, n4⟩ := n7
  refine Invoke_spec x hS nm args (by omega) has fuel (by rw [hP, n3]; omega) (by rw [hP, n1, n2]; omega) (k := k) (np := np) (Pst G' P' (lf (fuN fuel) cost e) v) (fun q => ?_) (fun _ q => ?_) (fun _ => ?_) (fun q _ q3 w' x' => ?_) (fun _ q w1 x1 => hrun q w1 x1) (fun _ q left e' w2 F' ms' h' S' fr' x2 hS' po => ?_)
  · exact inv_same x hS m hk (hw1 (by omega))
  · rw [ef] at q; omega
  · exact ⟨ef, by rw [hP, n1, n2]; omega, g0, np4, by rw [g5]; omega, by rw [g5]; omega⟩
  · exact inv_same x' hS m hk (hw2 (by omega) q3)
  · obtain ⟨m', k', rfl, rfl, hv⟩ := po
    have oe := out_ends (w0 := S' 0) (e := e) (v := v) hf (hc q) (show re ≠ 0 by omega) ht hv
    rw [g5, hw3 q]
    simp only [Prod.mk.injEq] at oe
    obtain ⟨o1, o2, o3⟩ := oe
    refine ⟨?_, F', ms', h', S', fr', x2, hS', m', k'⟩
    show Value.tuple #[.string (outS (lf (fuN fuel) cost e).2 re (S' 0)), .int .i64 (lf (fuN fuel) cost e).1, .int .i64 (lf (fuN fuel) cost e).2] = _
    rw [o1, o2, o3]
theorem fuN_bd {a : Int} (ha : a ≤ 9223372036854775807) : 0 ≤ fuN a ∧ fuN a ≤ 9223372036854775807 := by
  unfold fuN
  split <;> omega
theorem hx127 : hexOf 127 2 = t7f := by kernel_rfl
theorem hx126 : hexOf 126 2 = t7e := by kernel_rfl
/-- The arguments, cut. -/
theorem arg2 {g : Nat → Int} (s : ByteArray) (h1 : g 1 = 127) (h2 : g 2 = 127) : argS S s g 2 0 = word s 0 % 4294967296 ∧ argS S s g 2 1 = word s 1 % 4294967296 := by
  refine ⟨?_, ?_⟩
  · show cut (g 1) (word s 0) = _
    rw [h1]; rfl
  · show cut (g 2) (word s 1) = _
    rw [h2]; rfl
theorem arg1 {g : Nat → Int} (s : ByteArray) (h1 : g 1 = 127) : argS S s g 1 0 = word s 0 % 4294967296 := by
  show cut (g 1) (word s 0) = _
  rw [h1]; rfl
theorem want_ref {n : Nat} (q6 : o.kind ≠ 6) (hn : parN o.kind = n) : (32 < o.s.size → want2 G P o = ((1, 0, eS), G, P)) ∧ (¬ 32 < o.s.size → o.s.size ≠ 8 * n → want2 G P o = ((34, 0, eS), G, P)) ∧ (o.s.size = 8 * n → n ≤ 4 → want2 G P o = want3 G P o (word o.s 0 % 4294967296) (word o.s 1 % 4294967296)) := by
  subst hn
  refine ⟨fun q => ?_, fun q1 q2 => ?_, fun q1 q2 => ?_⟩
  · unfold want2; rw [if_neg q6, if_pos q]
  · unfold want2; rw [if_neg q6, if_neg q1, if_pos q2]
  · unfold want2; rw [if_neg q6, if_neg (by omega), if_neg (by omega)]
theorem inv_sub (hfs : E.fs = fs7) (hP : E.P = okP tProbe2) (x : XL E w F ms h S fr) (hS : SW S) (m : MI ms G P) (hk : HK h) (hP2 : 1 ≤ P ∧ P ≤ 2) (hs : o.s.size ≤ 9223372036854775807) (ha : o.a ≤ 9223372036854775807) (q : o.kind = 1) :
    Runs Tryz.prog exec_Exec_Invoke.id #[rp E.A.xb, .string ⟨#[115, 117, 98]⟩, .string o.s, .int .i64 o.a] w (InvM E (want2 G P o)) := by
  obtain ⟨f1, _⟩ := nx7
  obtain ⟨g0, g1, g2, g5⟩ := g7 (j := 3) rfl
  rw [← hP] at f1 g0 g1 g2 g5
  obtain ⟨r1, r2, r3⟩ := want_ref (G := G) (P := P) (o := o) (n := 2) (by omega) (by unfold parN; rw [if_neg (by omega)])
  obtain ⟨a0, a1⟩ := arg2 (S := S) o.s g1 g2
  have fb := fuN_bd ha
  obtain ⟨b, hb⟩ : ∃ b, b = word o.s 1 % 4294967296 := ⟨_, rfl⟩
  obtain ⟨a, haa⟩ : ∃ a, a = word o.s 0 % 4294967296 := ⟨_, rfl⟩
  rw [← hb] at a1 r3
  rw [← haa] at a0 r3
  by_cases c6 : 6 ≤ b
  · refine inv_gen (cost := 60) (e := 45) (v := 0) (t := t7f) (G' := G) (P' := P) hP x hS m hk ⟨#[115, 117, 98]⟩ o.s (by decide) hs (k := 3) (np := 2) f1 (by omega) (by omega) g0 g5 (.inl rfl) hx127 ha (fun _ => by omega) r1 r2 (fun z => ?_) (fun z w1 x1 => run_sub (E := E.at w1 F) hfs hP x1 (argS_sw hS _ _ _) fb m hk.fresh rfl (by omega) (by omega) (by omega) (.inl ⟨by omega, rfl, rfl⟩))
    rw [r3 z (by omega)]
    unfold want3
    rw [if_pos q, if_pos c6]
    refine Prod.ext ?_ rfl
    show endsP o.a 60 45 eS 0 = endsP o.a 60 45 t7f 0
    unfold endsP
    rw [if_pos (show (45 : Int) ≠ 0 by decide), if_pos (show (45 : Int) ≠ 0 by decide)]
  · refine inv_gen (cost := 10 * b + 7) (e := 0) (v := (a - b) % 4294967296) (t := t7f) hP x hS m hk ⟨#[115, 117, 98]⟩ o.s (by decide) hs (k := 3) (np := 2) f1 (by omega) (by omega) g0 g5 (.inl rfl) hx127 ha (fun _ => by omega) r1 r2 (fun z => ?_) (fun z w1 x1 => run_sub (E := E.at w1 F) hfs hP x1 (argS_sw hS _ _ _) fb m hk.fresh rfl (by omega) (by omega) (by omega) (.inr ⟨by omega, by rw [a1], rfl, by rw [a1, a0]⟩))
    rw [r3 z (by omega)]
    unfold want3
    rw [if_pos q, if_neg c6]
theorem endsP_text {fuel cost e : Int} {t t' : ByteArray} {x x' : Int} (he : e ≠ 0) : endsP fuel cost e t x = endsP fuel cost e t' x' := by
  unfold endsP
  rw [if_pos he, if_pos he]
theorem inv_pick (hfs : E.fs = fs7) (hP : E.P = okP tProbe2) (x : XL E w F ms h S fr) (hS : SW S) (m : MI ms G P) (hk : HK h) (hs : o.s.size ≤ 9223372036854775807) (ha : o.a ≤ 9223372036854775807) (q : o.kind = 2) :
    Runs Tryz.prog exec_Exec_Invoke.id #[rp E.A.xb, .string ⟨#[112, 105, 99, 107]⟩, .string o.s, .int .i64 o.a] w (InvM E (want2 G P o)) := by
  obtain ⟨_, f1, _⟩ := nx7
  obtain ⟨g0, g1, g2, g5⟩ := g7 (j := 4) rfl
  rw [← hP] at f1 g0 g1 g2 g5
  obtain ⟨r1, r2, r3⟩ := want_ref (G := G) (P := P) (o := o) (n := 2) (by omega) (by unfold parN; rw [if_neg (by omega)])
  obtain ⟨a0, a1⟩ := arg2 (S := S) o.s g1 g2
  have fb := fuN_bd ha
  obtain ⟨b, hb⟩ : ∃ b, b = word o.s 1 % 4294967296 := ⟨_, rfl⟩
  obtain ⟨a, haa⟩ : ∃ a, a = word o.s 0 % 4294967296 := ⟨_, rfl⟩
  rw [← hb] at a1 r3
  rw [← haa] at a0 r3
  have go : ∀ (cost e v : Int), (a = 0 ∧ cost = 4 ∧ e = 0 ∧ v = 1144201745) ∨ (a ≠ 0 ∧ b = 0 ∧ cost = 7 ∧ e = 38) ∨ (a ≠ 0 ∧ b ≠ 0 ∧ cost = 7 ∧ e = 0 ∧ v = b) → want3 G P o a b = (endsP o.a cost e t7f v, G, P) → Runs Tryz.prog exec_Exec_Invoke.id #[rp E.A.xb, .string ⟨#[112, 105, 99, 107]⟩, .string o.s, .int .i64 o.a] w (InvM E (want2 G P o)) := fun cost e v hc hw =>
    inv_gen (cost := cost) (e := e) (v := v) (t := t7f) hP x hS m hk ⟨#[112, 105, 99, 107]⟩ o.s (by decide) hs (k := 4) (np := 2) f1 (by omega) (by omega) g0 g5 (.inl rfl) hx127 ha (fun _ => by omega) r1 r2 (fun z => (r3 z (by omega)).trans hw) (fun z w1 x1 => run_pick (E := E.at w1 F) hfs hP x1 (argS_sw hS _ _ _) fb m hk.fresh (by
      rw [a1, a0]
      exact hc))
  by_cases c1 : a = 0
  · refine go 4 0 1144201745 (.inl ⟨c1, rfl, rfl, rfl⟩) ?_
    unfold want3
    rw [if_neg (by omega), if_pos q, if_pos c1]
  by_cases c2 : b = 0
  · refine go 7 38 0 (.inr (.inl ⟨c1, c2, rfl, rfl⟩)) ?_
    unfold want3
    rw [if_neg (by omega), if_pos q, if_neg c1, if_pos c2]
    exact Prod.ext (endsP_text (by decide)) rfl
  · refine go 7 0 b (.inr (.inr ⟨c1, c2, rfl, rfl, rfl⟩)) ?_
    unfold want3
    rw [if_neg (by omega), if_pos q, if_neg c1, if_neg c2]
theorem inv_mem (hfs : E.fs = fs7) (hP : E.P = okP tProbe2) (x : XL E w F ms h S fr) (hS : SW S) (m : MI ms G P) (hk : HK h) (hP2 : 1 ≤ P ∧ P ≤ 2) (hs : o.s.size ≤ 9223372036854775807) (ha : o.a ≤ 9223372036854775807) (q : o.kind = 3) :
    Runs Tryz.prog exec_Exec_Invoke.id #[rp E.A.xb, .string ⟨#[109, 101, 109]⟩, .string o.s, .int .i64 o.a] w (InvM E (want2 G P o)) := by
  obtain ⟨_, _, f1, _⟩ := nx7
  obtain ⟨g0, g1, g2, g5⟩ := g7 (j := 5) rfl
  rw [← hP] at f1 g0 g1 g2 g5
  obtain ⟨r1, r2, r3⟩ := want_ref (G := G) (P := P) (o := o) (n := 2) (by omega) (by unfold parN; rw [if_neg (by omega)])
  obtain ⟨a0, a1⟩ := arg2 (S := S) o.s g1 g2
  have fb := fuN_bd ha
  obtain ⟨b, hb⟩ : ∃ b, b = word o.s 1 % 4294967296 := ⟨_, rfl⟩
  obtain ⟨a, haa⟩ : ∃ a, a = word o.s 0 % 4294967296 := ⟨_, rfl⟩
  rw [← hb] at a1 r3
  rw [← haa] at a0 r3
  have go : ∀ (cost e v : Int), (64 * P < a + 8 ∧ cost = 3 ∧ e = 42) ∨ (¬ 64 * P < a + 8 ∧ cost = 7 ∧ e = 0 ∧ v = b) → want3 G P o a b = (endsP o.a cost e t7f v, G, P) → Runs Tryz.prog exec_Exec_Invoke.id #[rp E.A.xb, .string ⟨#[109, 101, 109]⟩, .string o.s, .int .i64 o.a] w (InvM E (want2 G P o)) := fun cost e v hc hw =>
    inv_gen (cost := cost) (e := e) (v := v) (t := t7f) hP x hS m hk ⟨#[109, 101, 109]⟩ o.s (by decide) hs (k := 5) (np := 2) f1 (by omega) (by omega) g0 g5 (.inl rfl) hx127 ha (fun _ => by omega) r1 r2 (fun z => (r3 z (by omega)).trans hw) (fun z w1 x1 => by
      have y1 := a1
      have y0 := a0
      exact run_mem (E := E.at w1 F) hfs hP x1 (argS_sw hS _ _ _) fb m hk.fresh hP2 (by rw [y0]; omega) (by rw [y1]; omega) (by rw [y0, y1]; exact hc))
  by_cases c1 : 64 * P < a + 8
  · refine go 3 42 0 (.inl ⟨c1, rfl, rfl⟩) ?_
    unfold want3
    rw [if_neg (by omega), if_neg (by omega), if_pos q, if_pos c1]
    exact Prod.ext (endsP_text (by decide)) rfl
  · refine go 7 0 b (.inr ⟨c1, rfl, rfl, rfl⟩) ?_
    unfold want3
    rw [if_neg (by omega), if_neg (by omega), if_pos q, if_neg c1]
theorem inv_gadd (hfs : E.fs = fs7) (hP : E.P = okP tProbe2) (x : XL E w F ms h S fr) (hS : SW S) (m : MI ms G P) (hk : HK h) (hG : 0 ≤ G ∧ G < 4294967296) (hs : o.s.size ≤ 9223372036854775807) (ha : o.a ≤ 9223372036854775807) (q : o.kind = 4) :
    Runs Tryz.prog exec_Exec_Invoke.id #[rp E.A.xb, .string ⟨#[103, 97, 100, 100]⟩, .string o.s, .int .i64 o.a] w (InvM E (want2 G P o)) := by
  obtain ⟨_, _, _, f1, _⟩ := nx7
  obtain ⟨g0, g1, g2, g5⟩ := g7 (j := 6) rfl
  rw [← hP] at f1 g0 g1 g2 g5
  obtain ⟨r1, r2, r3⟩ := want_ref (G := G) (P := P) (o := o) (n := 1) (by omega) (by unfold parN; rw [if_pos (by omega)])
  have a0 := arg1 (S := S) o.s g1
  have fb := fuN_bd ha
  obtain ⟨a, haa⟩ : ∃ a, a = word o.s 0 % 4294967296 := ⟨_, rfl⟩
  rw [← haa] at a0 r3
  refine inv_gen (cost := 6) (e := 0) (v := (G + a) % 4294967296) (t := t7f) (G' := if 5 ≤ fuN o.a then (G + a) % 4294967296 else G) (P' := P) hP x hS m hk ⟨#[103, 97, 100, 100]⟩ o.s (by decide) hs (k := 6) (np := 1) f1 (by omega) (by omega) g0 g5 (.inl rfl) hx127 ha (fun _ => by omega) r1 r2 (fun z => ?_) (fun z w1 x1 => ?_)
  · rw [r3 z (by omega)]
    unfold want3
    rw [if_neg (by omega), if_neg (by omega), if_neg (by omega), if_pos q]
    have : (5 ≤ fuN o.a) = (5 ≤ o.a) := by
      apply propext
      unfold fuN
      split <;> omega
    simp only [this]
  · have y0 := a0
    exact run_gadd (E := E.at w1 F) hfs hP x1 (argS_sw hS _ _ _) fb m hk.fresh hG (by rw [y0]; omega) (by rw [y0]) rfl
theorem inv_host (hfs : E.fs = fs7) (hP : E.P = okP tProbe2) (x : XL E w F ms h S fr) (hS : SW S) (m : MI ms G P) (hk : HK h) (ha : o.a ≤ 9223372036854775807) (q : o.kind = 6) (hl : h.left ≠ 0) (hw : h.tape h.head = word o.s 0) :
    Runs Tryz.prog exec_Exec_Invoke.id #[rp E.A.xb, .string ⟨#[104, 111, 115, 116]⟩, .string ⟨#[]⟩, .int .i64 o.a] w (InvM E (want2 G P o)) := by
  obtain ⟨_, _, _, _, _, f1⟩ := nx7
  obtain ⟨g0, g1, g2, g5⟩ := g7 (j := 8) rfl
  rw [← hP] at f1 g0 g1 g2 g5
  have fb := fuN_bd ha
  have z0 : (⟨#[]⟩ : ByteArray).size = 0 := rfl
  refine inv_gen (cost := 1) (e := 0) (v := word o.s 0) (t := t7e) (G' := G) (P' := P) hP x hS m hk ⟨#[104, 111, 115, 116]⟩ ⟨#[]⟩ (by decide) (by decide) (k := 8) (np := 0) f1 (by omega) (by omega) g0 g5 (.inr rfl) hx126 ha (fun _ => by omega) (fun z => absurd z (by omega)) (fun _ z => absurd z0 z) (fun z => ?_) (fun z w1 x1 => ?_)
  · unfold want2
    rw [if_pos q]
  · have y := run_host (E := E.at w1 F) hfs hP x1 (argS_sw hS _ _ _) fb m hk.fresh rfl hl
    rw [show h.fresh.tape h.fresh.head = word o.s 0 from hw] at y
    exact y
/-! ### grow -/
theorem gwA : Gw 4294967295 1 4294967040 4294967041 4294902016 4294902017 := ⟨by kernel_rfl, by kernel_rfl, by kernel_rfl, by kernel_rfl, by omega, by omega, by omega, by omega⟩
theorem gwB : Gw 4294967295 2 4294967040 4294967042 4294902272 4294902274 := ⟨by kernel_rfl, by kernel_rfl, by kernel_rfl, by kernel_rfl, by omega, by omega, by omega, by omega⟩
theorem gwC : Gw 1 1 256 257 65792 65793 := ⟨by kernel_rfl, by kernel_rfl, by kernel_rfl, by kernel_rfl, by omega, by omega, by omega, by omega⟩
theorem gwD : Gw 1 2 256 258 66048 66050 := ⟨by kernel_rfl, by kernel_rfl, by kernel_rfl, by kernel_rfl, by omega, by omega, by omega, by omega⟩
theorem gwE : Gw 2 2 512 514 131584 131586 := ⟨by kernel_rfl, by kernel_rfl, by kernel_rfl, by kernel_rfl, by omega, by omega, by omega, by omega⟩
theorem grA : grownW 4294967295 1 = 4294902017 := by kernel_rfl
theorem grB : grownW 4294967295 2 = 4294902274 := by kernel_rfl
theorem grC : grownW 1 1 = 65793 := by kernel_rfl
theorem grD : grownW 1 2 = 66050 := by kernel_rfl
theorem grE : grownW 2 2 = 131586 := by kernel_rfl
theorem inv_grow (hfs : E.fs = fs7) (hP : E.P = okP tProbe2) (x : XL E w F ms h S fr) (hS : SW S) (m : MI ms G P) (hk : HK h) (hP2 : 1 ≤ P ∧ P ≤ 2) (hs : o.s.size ≤ 9223372036854775807) (ha : o.a ≤ 9223372036854775807) (q : o.kind = 5) :
    Runs Tryz.prog exec_Exec_Invoke.id #[rp E.A.xb, .string ⟨#[103, 114, 111, 119]⟩, .string o.s, .int .i64 o.a] w (InvM E (want2 G P o)) := by
  obtain ⟨_, _, _, _, f1, _⟩ := nx7
  obtain ⟨g0, g1, g2, g5⟩ := g7 (j := 7) rfl
  rw [← hP] at f1 g0 g1 g2 g5
  obtain ⟨r1, r2, r3⟩ := want_ref (G := G) (P := P) (o := o) (n := 1) (by omega) (by unfold parN; rw [if_pos (by omega)])
  have a0 := arg1 (S := S) o.s g1
  have fb := fuN_bd ha
  obtain ⟨a, haa⟩ : ∃ a, a = word o.s 0 % 4294967296 := ⟨_, rfl⟩
  rw [← haa] at a0 r3
  have hgr := m.grow (d := a) (by omega) (by omega)
  have go : ∀ (gr P' x1 x2 x3 v : Int), Gw gr P' x1 x2 x3 v → grownW gr P' = v → (ms.grow a).1 = gr → MI (ms.grow a).2 G P' → 0 ≤ gr ∧ gr < 4294967296 → 0 ≤ P' ∧ P' < 4294967296 → want3 G P o a (word o.s 1 % 4294967296) = (endsP o.a 10 0 t7f (grownW gr P'), G, if 2 ≤ o.a then P' else P) → Runs Tryz.prog exec_Exec_Invoke.id #[rp E.A.xb, .string ⟨#[103, 114, 111, 119]⟩, .string o.s, .int .i64 o.a] w (InvM E (want2 G P o)) := fun gr P' x1 x2 x3 v gw hv eg mg b1 b2 hw =>
    inv_gen (cost := 10) (e := 0) (v := v) (t := t7f) (G' := G) (P' := if 2 ≤ fuN o.a then P' else P) hP x hS m hk ⟨#[103, 114, 111, 119]⟩ o.s (by decide) hs (k := 7) (np := 1) f1 (by omega) (by omega) g0 g5 (.inl rfl) hx127 ha (fun _ => by omega) r1 r2 (fun z => by
      rw [r3 z (by omega), hw, hv]
      have : (2 ≤ fuN o.a) = (2 ≤ o.a) := by
        apply propext
        unfold fuN
        split <;> omega
      simp only [this]) (fun z w1 x1 => by
      have y0 := a0
      exact run_grow (E := E.at w1 F) hfs hP x1 (argS_sw hS _ _ _) fb m hk.fresh rfl (by rw [y0]; omega) (by rw [y0]; exact eg) (by rw [y0]; exact mg) b1 b2 gw rfl)
  have e3 : want3 G P o a (word o.s 1 % 4294967296) = if 2 < P + a then (endsP o.a 10 0 t7f (grownW 4294967295 P), G, P) else (endsP o.a 10 0 t7f (grownW P (P + a)), G, if 2 ≤ o.a then P + a else P) := by
    unfold want3
    rw [if_neg (by omega), if_neg (by omega), if_neg (by omega), if_neg (by omega)]
  by_cases c2 : 2 < P + a
  · rw [if_pos c2] at hgr e3
    have eg : (ms.grow a).1 = 4294967295 := by rw [hgr]
    have mg : MI (ms.grow a).2 G P := by rw [hgr]; exact m
    have : P = 1 ∨ P = 2 := by omega
    rcases this with p | p
    · exact go 4294967295 P _ _ _ _ (by rw [p]; exact gwA) (by rw [p]; exact grA) eg mg (by omega) (by omega) (by rw [e3, ite_self])
    · exact go 4294967295 P _ _ _ _ (by rw [p]; exact gwB) (by rw [p]; exact grB) eg mg (by omega) (by omega) (by rw [e3, ite_self])
  · rw [if_neg c2] at hgr e3
    obtain ⟨eg, mg⟩ := hgr
    have : (P = 1 ∧ a = 0) ∨ (P = 1 ∧ a = 1) ∨ (P = 2 ∧ a = 0) := by omega
    rcases this with ⟨p, p'⟩ | ⟨p, p'⟩ | ⟨p, p'⟩
    · exact go P (P + a) _ _ _ _ (by rw [p, p']; exact gwC) (by rw [p, p']; exact grC) eg mg (by omega) (by omega) e3
    · exact go P (P + a) _ _ _ _ (by rw [p, p']; exact gwD) (by rw [p, p']; exact grD) eg mg (by omega) (by omega) e3
    · exact go P (P + a) _ _ _ _ (by rw [p, p']; exact gwE) (by rw [p, p']; exact grE) eg mg (by omega) (by omega) e3
end
end Go.Proofs.Qxb6500317aGreat
