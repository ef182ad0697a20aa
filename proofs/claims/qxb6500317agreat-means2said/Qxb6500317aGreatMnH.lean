/-
  The law Means2: sub.
-/
import Derived.Test.Qxb6500317aGreatMnG
set_option linter.unusedSimpArgs false
set_option linter.unusedVariables false
set_option maxRecDepth 100000
set_option linter.unusedSectionVars false
set_option maxHeartbeats 2000000
namespace Go.Proofs.Qxb6500317aGreat
open Go Go.Vc

/-- The frames below frame d, and what is known of it. -/
structure Frs (d : Nat) (fr : Nat → Int) : Prop where
  lo : ∀ k, k < d → fr (k * 3) = 1 ∧ fr (k * 3 + 1) = 14 ∧ fr (k * 3 + 2) = 2 * (k : Int)
  f0 : fr (d * 3) = 1
  f2 : fr (d * 3 + 2) = 2 * (d : Int)
theorem Frs.first (fr : Nat → Int) : Frs 0 (frIn fr 0 0 1 0) := ⟨fun k hk => absurd hk (by omega), rfl, rfl⟩
theorem Frs.step {d : Nat} {fr : Nat → Int} (H : Frs d fr) : Frs (d + 1) (frIn fr (d + 1) ((13 + 1 : Nat) : Int) 1 (2 * d + 2)) := by
  have e : frIn fr (d + 1) ((13 + 1 : Nat) : Int) 1 (2 * d + 2) = upd (upd (upd (upd fr (d * 3 + 1) 14) ((d + 1) * 3) 1) ((d + 1) * 3 + 1) 0) ((d + 1) * 3 + 2) ((2 * d + 2 : Nat) : Int) := by
    unfold frIn
    rw [if_neg (by omega)]; rfl
  rw [e]
  refine ⟨fun k hk => ?_, ?_, ?_⟩
  · by_cases q : k = d
    · subst q
      refine ⟨?_, ?_, ?_⟩
      · rw [upd_ne _ _ (by omega), upd_ne _ _ (by omega), upd_ne _ _ (by omega), upd_ne _ _ (by omega)]; exact H.f0
      · rw [upd_ne _ _ (by omega), upd_ne _ _ (by omega), upd_ne _ _ (by omega), upd_same]
      · rw [upd_ne _ _ (by omega), upd_ne _ _ (by omega), upd_ne _ _ (by omega), upd_ne _ _ (by omega)]; exact H.f2
    · obtain ⟨a1, a2, a3⟩ := H.lo k (by omega)
      refine ⟨?_, ?_, ?_⟩
      · rw [upd_ne _ _ (by omega), upd_ne _ _ (by omega), upd_ne _ _ (by omega), upd_ne _ _ (by omega)]; exact a1
      · rw [upd_ne _ _ (by omega), upd_ne _ _ (by omega), upd_ne _ _ (by omega), upd_ne _ _ (by omega)]; exact a2
      · rw [upd_ne _ _ (by omega), upd_ne _ _ (by omega), upd_ne _ _ (by omega), upd_ne _ _ (by omega)]; exact a3
  · rw [upd_ne _ _ (by omega), upd_ne _ _ (by omega), upd_same]
  · rw [upd_same]; omega
theorem ap107 (a b : Int) : U.ap 107 a b = ((a - b) % 4294967296, 0) := by
  have e : U.ap 107 a b = (IntKind.wrap .u64 (IntKind.wrap .u32 (IntKind.wrap .u32 a - IntKind.wrap .u32 b)), 0) := by kernel_rfl
  rw [e]
  refine Prod.ext ?_ rfl
  show IntKind.wrap .u64 (IntKind.wrap .u32 (IntKind.wrap .u32 a - IntKind.wrap .u32 b)) = _
  have u : ∀ x : Int, IntKind.wrap .u32 x = x % 4294967296 := fun x => rfl
  rw [wrap_u64_mod, u, u, u]
  omega
section
variable {E : RE} {c g r : Nat} {w w' : World} {F F' : List Nat} {ms ms' : M.MS} {h h' : HS} {S fr S' fr' : Nat → Int} {fu : Int} {R : Value → World → Prop} {G P cost e v : Int}
theorem unwind (hfs : E.fs = fs7) {v fuel : Int} (hend : ∀ w' S', RS E c g r w' F ms h S' fr → SW S' → S' 0 = v → R (.tuple #[.int .i64 fuel, .int .i64 0]) w') : ∀ (d : Nat), d ≤ 4 → (∀ k, k < d → fr (k * 3) = 1 ∧ fr (k * 3 + 1) = 14 ∧ fr (k * 3 + 2) = 2 * (k : Int)) → ∀ (w : World) (S : Nat → Int) (w17 : Int), RS E c g r w F ms h S fr → SW S → S (2 * d + 2) = v →
    RL E c g r 1 f71 (2 * d + 3) fuel w17 14 (2 * d) (2 * d + 2) d R w := by
  have hf : E.fs[1]? = some f71 := by rw [hfs]; rfl
  intro d
  induction d with
  | zero =>
    intro _ _ w S w17 s sw hv
    refine op_end_out (x := 0) (y := 0) s hf rfl (by omega) (by decide) (fun _ => by omega) (by decide) (fun w1 s1 => ?_)
    rw [if_pos (show f71.re = 1 from rfl)] at s1
    exact hend w1 _ s1 (sw.upd (sw _).1 (sw _).2) hv
  | succ d ih =>
    intro hd hl w S w17 s sw hv
    obtain ⟨a1, a2, a3⟩ := hl d (by omega)
    refine op_end_in (x := 0) (y := 0) s hf rfl (by omega) (by decide) (fun _ => by omega) (by omega) (d := d) (fj := 1) (pj := 14) (bj := 2 * d) (fo := f71) (by omega) hf a1 a2 (by rw [a3]; omega) (by show 2 * d + 2 ≤ 1000; omega) (fun w1 s1 => ?_)
    rw [if_pos (show f71.re = 1 from rfl)] at s1
    have sw1 := sw.upd (n := 2 * (d + 1)) (sw (2 * (d + 1) + 3 - 1)).1 (sw (2 * (d + 1) + 3 - 1)).2
    have q := ih (by omega) (fun k hk => hl k (by omega)) w1 _ w17 s1 sw1 (by rw [show 2 * d + 2 = 2 * (d + 1) by omega, upd_same, show 2 * (d + 1) + 3 - 1 = 2 * (d + 1) + 2 by omega]; exact hv)
    have e1 : 2 * (d + 1) + f71.re = 2 * d + 3 := by show 2 * (d + 1) + 1 = _; omega
    have e2 : 2 * d + f71.lo = 2 * d + 2 := rfl
    rw [e1, e2]
    exact q
theorem sub_at (hfs : E.fs = fs7) (hP : E.P = okP tProbe2) (hk : HK h) (hr : h.rows = 0) (m : MI ms G P) (hP2 : 0 ≤ P ∧ P < 4294967296) (hfu : fu ≤ 9223372036854775807) {a b : Int}
    (hc : (6 ≤ b ∧ cost = 60 ∧ e = 45) ∨ (b < 6 ∧ cost = 10 * b + 7 ∧ e = 0 ∧ v = (a - b) % 4294967296)) : ∀ (n d : Nat), d + n = 5 → ∀ (w : World) (S fr : Nat → Int) (w17 fuel : Int), RS E c g r w F ms h S fr → SW S → Frs d fr → S (2 * d) = (a - (d : Int)) % 4294967296 → S (2 * d + 1) = b - (d : Int) → 0 ≤ b - (d : Int) → b - (d : Int) < 4294967296 → fuel = fu - 10 * (d : Int) → 0 ≤ fuel →
      RL E c g r 1 f71 (2 * d + 2) fuel w17 0 (2 * d) (2 * d + 2) d (ROK E (Pst G P (lf fu cost e) v)) w := by
  obtain ⟨i1, i2⟩ := in7 hP
  obtain ⟨n1, n2, n3, n4⟩ := n7
  have hf : E.fs[1]? = some f71 := by rw [hfs]; rfl
  intro n
  induction n with
  | zero | succ n ih =>
    intro d hd w S fr w17 fuel s sw H ha hb b0 b1 hfe f0
    obtain ⟨q, hq⟩ : ∃ q, q = 2 * d + 2 := ⟨_, rfl⟩
    rw [← hq]
    -- get 1, eqz, if
    refine op_get (n := 1) s hf (x := 1) (y := 0) rfl (by omega) (by omega) rfl (by omega) (by omega) (fun z w' s' => dryP s' sw m hk (by omega)) (fun p1 w2 s2 => ?_)
    have sw2 := sw.upd (n := q) (sw (2 * d + 1)).1 (sw (2 * d + 1)).2
    refine op_eqz s2 hf (x := 0) (y := 0) rfl (by omega) (by omega) (by omega) (fun z w' s' => dryP s' sw2 m hk (by omega)) (fun p2 w3 s3 => ?_)
    simp only [Nat.add_sub_cancel, upd_same] at s3
    obtain ⟨t, ht⟩ : ∃ t : Int, t = (if S (2 * d + 1) = 0 then 1 else 0) := ⟨_, rfl⟩
    rw [← ht] at s3
    have t01 : 0 ≤ t ∧ t < 18446744073709551616 := by rw [ht]; split <;> omega
    have sw3 := sw2.upd (n := q) t01.1 t01.2
    refine op_if s3 hf (x := 7) (y := 0) rfl (by omega) (by omega) (tgt := 7) rfl (by omega) (by omega) (fun z w' s' => dryP s' sw3 m hk (by omega)) (fun p3 z w4 s4 => ?_) (fun p3 z w4 s4 => ?_)
    · -- deeper
      simp only [Nat.add_sub_cancel, upd_same] at z
      have nz : S (2 * d + 1) ≠ 0 := fun y => by rw [if_pos y] at ht; omega
      simp only [Nat.add_sub_cancel]
      refine op_get (n := 0) s4 hf (x := 0) (y := 0) rfl (by omega) (by omega) rfl (by omega) (by omega) (fun z w' s' => dryP s' sw3 m hk (by omega)) (fun p4 w5 s5 => ?_)
      have r5 : upd (upd S q (S (2 * d + 1))) q t (2 * d + 0) = S (2 * d) := by rw [upd_ne _ _ (by omega), upd_ne _ _ (by omega), Nat.add_zero]
      rw [r5] at s5
      have sw5 := sw3.upd (n := q) (sw (2 * d)).1 (sw (2 * d)).2
      refine op_const s5 hf (o := 65) (x := 0) (y := 1) rfl (by omega) (by omega) (by omega) (by omega) (fun z w' s' => dryP s' sw5 m hk (by omega)) (fun p5 w6 s6 => ?_)
      have sw6 := sw5.upd (n := q + 1) (v := 1) (by omega) (by omega)
      have e1 : q + 1 + 1 - 1 = q + 1 := by omega
      have e2 : q + 1 + 1 - 2 = q := by omega
      have k1 : ∀ X : Nat → Int, upd X (q + 1) 1 (q + 1 + 1 - 1) = 1 := fun X => by rw [e1, upd_same]
      have k2 : upd (upd (upd (upd S q (S (2 * d + 1))) q t) q (S (2 * d))) (q + 1) 1 (q + 1 + 1 - 2) = S (2 * d) := by rw [e2, upd_ne _ _ (by omega), upd_same]
      refine op_num2 s6 hf (o := 107) (x := 0) (y := 0) rfl (by omega) (by decide) (by omega) (by omega) (by omega) sw6 (fun z w' s' => dryP s' sw6 m hk (by omega)) (fun _ z => absurd (by rw [ap107]) z) (fun p6 _ w7 s7 => ?_)
      simp only [ap107, k1, k2] at s7 ⊢
      rw [e2] at s7
      rw [e1]
      have md : 0 ≤ (S (2 * d) - 1) % 4294967296 ∧ (S (2 * d) - 1) % 4294967296 < 18446744073709551616 := by omega
      obtain ⟨a', ha'⟩ : ∃ a', a' = (S (2 * d) - 1) % 4294967296 := ⟨_, rfl⟩
      rw [← ha'] at md s7
      have sw7 := sw6.upd (n := q) md.1 md.2
      refine op_get (n := 1) s7 hf (x := 1) (y := 0) rfl (by omega) (by omega) rfl (by omega) (by omega) (fun z w' s' => dryP s' sw7 m hk (by omega)) (fun p7 w8 s8 => ?_)
      have r8 : upd (upd (upd (upd (upd S q (S (2 * d + 1))) q t) q (S (2 * d))) (q + 1) 1) q a' (2 * d + 1) = S (2 * d + 1) := by
        rw [upd_ne _ _ (by omega), upd_ne _ _ (by omega), upd_ne _ _ (by omega), upd_ne _ _ (by omega), upd_ne _ _ (by omega)]
      rw [r8] at s8
      have sw8 := sw7.upd (n := q + 1) (sw (2 * d + 1)).1 (sw (2 * d + 1)).2
      refine op_const s8 hf (o := 65) (x := 0) (y := 1) rfl (by omega) (by omega) (by omega) (by omega) (fun z w' s' => dryP s' sw8 m hk (by omega)) (fun p8 w9 s9 => ?_)
      have sw9 := sw8.upd (n := q + 1 + 1) (v := 1) (by omega) (by omega)
      have e3 : q + 1 + 1 + 1 - 1 = q + 1 + 1 := by omega
      have e4 : q + 1 + 1 + 1 - 2 = q + 1 := by omega
      have k3 : ∀ X : Nat → Int, upd X (q + 1 + 1) 1 (q + 1 + 1 + 1 - 1) = 1 := fun X => by rw [e3, upd_same]
      have k4 : ∀ X : Nat → Int, upd (upd X (q + 1) (S (2 * d + 1))) (q + 1 + 1) 1 (q + 1 + 1 + 1 - 2) = S (2 * d + 1) := fun X => by rw [e4, upd_ne _ _ (by omega), upd_same]
      refine op_num2 s9 hf (o := 107) (x := 0) (y := 0) rfl (by omega) (by decide) (by omega) (by omega) (by omega) sw9 (fun z w' s' => dryP s' sw9 m hk (by omega)) (fun _ z => absurd (by rw [ap107]) z) (fun p9 _ wa sa => ?_)
      simp only [ap107, k3, k4] at sa ⊢
      rw [e4] at sa
      rw [e3]
      obtain ⟨b', hb'⟩ : ∃ b', b' = (S (2 * d + 1) - 1) % 4294967296 := ⟨_, rfl⟩
      rw [← hb'] at sa
      have swa := sw9.upd (n := q + 1) (v := b') (by omega) (by omega)
      have nb : 1 ≤ b - (d : Int) := by omega
      refine op_call_own (fj := 1) (fo := f71) sa hf (x := 3) (y := 0) rfl (by omega) (by omega) (by rw [i2 1]; rfl) hf (by show 2 ≤ q + 1 + 1; omega) (by show q + 1 + 1 - 2 + 2 < 120; omega) (by decide) i1 (by omega) (by omega) (fun z w' s' => dryP s' swa m hk (by omega)) (fun pa z w' s' => ?_) (fun pa z wb sb => ?_)
      · exact endP s' swa m hk (by omega) (by omega) (by omega) (fun z => absurd z (by omega))
      · first
          | exact absurd z (by omega)
          | (have e5 : q + 1 + 1 - f71.pa = 2 * (d + 1) := by show q + 1 + 1 - 2 = _; omega
             have e6 : f71.lo - f71.pa = 0 := rfl
             have e7 : 2 * (d + 1) + f71.lo = 2 * (d + 1) + 2 := rfl
             rw [e5, e6] at sb
             rw [e5, e7]
             have H' : Frs (d + 1) (frIn fr (d + 1) ((12 + 1 + 1 : Nat) : Int) 1 (2 * (d + 1))) := H.step
             refine ih (d + 1) (by omega) wb _ _ _ _ sb swa H' ?_ ?_ (by omega) (by omega) (by omega) (by omega)
             · show upd _ _ _ _ = _
               rw [upd_ne _ _ (by omega), upd_ne _ _ (by omega), upd_ne _ _ (by omega), show 2 * (d + 1) = q by omega, upd_same]
               omega
             · show upd _ _ _ _ = _
               rw [show 2 * (d + 1) + 1 = q + 1 by omega, upd_same]
               omega)
    · -- the leaf
      simp only [Nat.add_sub_cancel, upd_same] at z
      have nz : S (2 * d + 1) = 0 := Classical.byContradiction (fun y => by rw [if_neg y] at ht; exact z ht)
      simp only [Nat.add_sub_cancel]
      obtain ⟨ga, _, _, g5⟩ := g7 (j := 1) rfl
      have g0 : fsG E.P 1 0 = ((0 : Nat) : Int) := by rw [hP, ga]; rfl
      have g5 : fsG E.P 1 5 = 127 := by rw [hP, g5]
      have ec : ∀ (S' : Nat → Int), callH h 1 0 q S' (fsG E.P 1 5) ((ms.n / 64 : Nat) : Int) = (P, 0, h.row 1 (fun j => (S' (q - 0 + j)).toNat) 0) := fun S' => by
        rw [g5]; exact callSize hk m hP2 _ S'
      refine op_call_imp (k := 1) (np := 0) (x := 1) (y := 0) s4 hf rfl (by omega) (by omega) rfl (by rw [hP, n1]; omega) (by omega) (by rw [hk.n]; omega) (by omega) g0 (by omega) (by omega) (by omega) sw3 (fun z w' s' => dryP s' sw3 m hk (by omega)) (fun _ z => ?_) (fun p4 _ w5 F5 s5 => ?_)
      · exact absurd (show (callH h 1 0 q _ (fsG E.P 1 5) ((ms.n / 64 : Nat) : Int)).2.1 = 0 by rw [ec]) z
      have ne : ¬ fsG E.P 1 5 = 0 := by omega
      rw [ec, if_neg ne] at s5
      rw [if_neg ne]
      have hk5 := hk.row 1 (fun j => (upd (upd S q (S (2 * d + 1))) q t (q - 0 + j)).toNat) 0
      generalize h.row 1 (fun j => (upd (upd S q (S (2 * d + 1))) q t (q - 0 + j)).toNat) 0 = h5 at s5 hk5
      rw [Nat.sub_zero] at s5
      rw [Nat.sub_zero]
      have sw5 := sw3.upd (n := q) (v := P) (by omega) (by omega)
      refine op_drop s5 hf (x := 0) (y := 0) rfl (by omega) (by omega) (by omega) (fun z w' s' => dryP s' sw5 m hk5 (by omega)) (fun p5 w6 s6 => ?_)
      simp only [Nat.add_sub_cancel]
      refine op_get (n := 0) s6 hf (x := 0) (y := 0) rfl (by omega) (by omega) rfl (by omega) (by omega) (fun z w' s' => dryP s' sw5 m hk5 (by omega)) (fun p6 w7 s7 => ?_)
      have r7 : upd (upd (upd S q (S (2 * d + 1))) q t) q P (2 * d + 0) = S (2 * d) := by rw [upd_ne _ _ (by omega), upd_ne _ _ (by omega), upd_ne _ _ (by omega), Nat.add_zero]
      rw [r7] at s7
      have sw7 := sw5.upd (n := q) (sw (2 * d)).1 (sw (2 * d)).2
      have hv : e = 0 ∧ v = S (2 * d) ∧ cost = 10 * (d : Int) + 7 := by omega
      have rv : upd (upd (upd (upd S q (S (2 * d + 1))) q t) q P) q (S (2 * d)) (q + 1 - 1) = v := by rw [Nat.add_sub_cancel, upd_same]; exact hv.2.1.symm
      have sw8 := sw7.upd (n := 2 * d) (v := v) (by rw [← rv]; exact (sw7 _).1) (by rw [← rv]; exact (sw7 _).2)
      cases d with
      | zero =>
        refine op_ret_out (x := 0) (y := 0) s7 hf rfl (by omega) (by omega) (by decide) (fun _ => by omega) (by decide) (fun z w' s' => dryP s' sw7 m hk5 (by omega)) (fun p7 w8 s8 => ?_)
        rw [if_pos (show f71.re = 1 from rfl), rv] at s8
        exact endP s8 sw8 m hk5 (by omega) (by omega) (by omega) (fun _ => upd_same _ _ _)
      | succ d =>
        obtain ⟨a1, a2, a3⟩ := H.lo d (by omega)
        refine op_ret_in (x := 0) (y := 0) s7 hf rfl (by omega) (by omega) (by decide) (fun _ => by omega) (by omega) (d := d) (fj := 1) (pj := 14) (bj := 2 * d) (fo := f71) (by omega) hf a1 a2 (by rw [a3]; omega) (by show 2 * d + 2 ≤ 1000; omega) (fun z w' s' => dryP s' sw7 m hk5 (by omega)) (fun p7 w8 s8 => ?_)
        rw [if_pos (show f71.re = 1 from rfl), rv] at s8
        have e1 : 2 * (d + 1) + f71.re = 2 * d + 3 := by show 2 * (d + 1) + 1 = _; omega
        have e2 : 2 * d + f71.lo = 2 * d + 2 := rfl
        rw [e1, e2]
        refine unwind hfs (v := v) (fun w9 S9 s9 sw9 v9 => endP s9 sw9 m hk5 (by omega) (by omega) (by omega) (fun _ => v9)) d (by omega) (fun k hk => H.lo k (by omega)) w8 _ _ s8 sw8 ?_
        rw [show 2 * d + 2 = 2 * (d + 1) by omega, upd_same]
theorem run_sub (hfs : E.fs = fs7) (hP : E.P = okP tProbe2) (x : XL E w F ms h S fr) (hS : SW S) (hfu : 0 ≤ fu ∧ fu ≤ 9223372036854775807) (m : MI ms G P) (hk : HK h) (hr : h.rows = 0) (hP2 : 0 ≤ P ∧ P < 4294967296) (ha : 0 ≤ S 0 ∧ S 0 < 4294967296) (hb : 0 ≤ S 1 ∧ S 1 < 4294967296)
    (hc : (6 ≤ S 1 ∧ cost = 60 ∧ e = 45) ∨ (S 1 < 6 ∧ cost = 10 * S 1 + 7 ∧ e = 0 ∧ v = (S 0 - S 1) % 4294967296)) :
    Runs Tryz.prog exec_Exec_run.id #[rp E.A.xb, .int .i64 ((3 : Nat) : Int), .int .i64 ((2 : Nat) : Int), .int .i64 fu] w (ROK E (Pst G P (lf fu cost e) v)) := by
  obtain ⟨i1, i2⟩ := in7 hP
  have hf : E.fs[1]? = some f71 := by rw [hfs]; rfl
  refine run_own x hf rfl rfl (by omega) (by omega) i1 (i2 1) (fun c g r w1 s1 => ?_)
  exact sub_at hfs hP hk hr m hP2 hfu.2 hc 5 0 (by omega) w1 S _ 0 fu s1 hS (Frs.first fr) (by show S 0 = _; omega) (by show S 1 = _; omega) (by omega) (by omega) (by omega) hfu.1
end
end Go.Proofs.Qxb6500317aGreat
