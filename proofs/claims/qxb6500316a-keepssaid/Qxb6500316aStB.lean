/-
  The law's stamp: the walk.
-/
import Derived.Test.Qxb6500316aStA
set_option linter.unusedSimpArgs false
set_option linter.unusedVariables false
set_option maxRecDepth 100000
set_option linter.unusedSectionVars false
namespace Go.Proofs.Qxb6500316a
open Go Go.Vc
variable [OutOf]

/-- What the stamp has turned so far. -/
structure KS (d lo : Nat) (w1 w0 w : World) : Prop where
  K : Kin d lo w1 w
  S : Same (bet lo w1.heap.size) w0.heap.size w0 w
section
variable {d lo : Nat} {w1 w0 w : World}
theorem KS.set {d' : Nat} (h : KS d lo w1 w0 w) {b k : Nat} {v1 v2 : Value} (hb : lo < b) (hl : b < w1.heap.size) (hc : w.cell? ⟨b, k, none⟩ = some v1) (hk : ∀ v, Kn d v v1 → Kn d' v v2) (hd : ∀ v v', Kn d v v' → Kn d' v v') : KS d' lo w1 w0 (w.setCell ⟨b, k, none⟩ v2) :=
  ⟨h.K.set hc hk hd, h.S.setCell (.inr (mem_bet.mpr ⟨hb, hl⟩)) v2⟩
theorem KS.drew (h : KS d lo w1 w0 w) : KS d lo w1 w0 w.drew := ⟨h.K.drew, h.S.drew⟩
theorem KS.up (h : KS 0 lo w1 w0 w) : KS 1 lo w1 w0 w := ⟨h.K.up, h.S⟩

/-- The stamped module. -/
structure StX (w1 : World) (mb lo : Nat) (m : Nat → Value) (P : PM) : Prop where
  md : ModAt w1 mb m
  inv : MInv w1 lo m P
  B : PB P
  lo : lo < mb
variable {mb : Nat} {m : Nat → Value} {P : PM} {R Q : Value → World → Prop}
theorem SlF.lk {α : Type} {enc : α → List Value} {sz : Nat} {w : World} {lo : Nat} {v : Value} {n : Nat} {f : Nat → α} (h : SlF enc sz w lo v n f) : ∃ a, v = .slice a n n ∧ (n ≠ 0 → ∃ b, a = some ⟨b, 0, none⟩ ∧ lo < b ∧ b < w.heap.size ∧ RowF enc sz w b n f) := by
  rcases h with ⟨h0, hv⟩ | ⟨h0, b, h1, h2, h3, h4⟩
  · exact ⟨none, by rw [hv, h0], fun g => absurd h0 g⟩
  · exact ⟨_, h1, fun _ => ⟨b, rfl, h3, h4, h2⟩⟩
theorem toNat0 : Int.toNat 0 = 0 := rfl

theorem stp9 (x : StX w1 mb lo m P) (hR : ∀ w, KS 1 lo w1 w0 w → R (.tuple #[]) w) (k : KS 1 lo w1 w0 w) : binlaw_Stamp.L9 (some ⟨mb, 0, none⟩) R Q w := by
  refine binlaw_Stamp.step9 _ _ _ _ ?_
  unfold binlaw_Stamp.V9
  simp only [true_and, nilV_some, Nat.zero_add]
  obtain ⟨a, ev, hrow⟩ := x.inv.d11.lk
  have hm := x.md.c 11 (by decide)
  rw [ev] at hm
  have c := k.K.sl x.lo hm
  refine ⟨_, _, _, c, cond_intro (fun g => ?_) (fun _ => hR w k)⟩
  have g : 0 < P.nD := by have := of_decide_eq_true g; omega
  obtain ⟨b, rfl, lb, hb, row⟩ := hrow (by omega)
  have e := row.c 0 g 2 _ rfl
  simp only [Nat.zero_mul, Nat.zero_add] at e
  obtain ⟨y, hy, _⟩ := k.K.u64 lb e
  refine ⟨_, _, _, c, _, _, _, c, ⟨by decide, by omega⟩, ?_⟩
  simp only [nilV_some, add_mk, toNat0, Nat.zero_mul, Nat.zero_add, Nat.add_zero]
  refine ⟨_, hy, ⟨by decide, by omega⟩, ?_⟩
  refine ⟨k.drew.K.can lb e (row.f 2), letW_intro fun w' hw => ?_⟩
  rw [hw]
  exact hR _ (k.drew.set lb hb hy (fun v => Kn.to_u64 (wrapU64 _)) (fun _ _ h => h))

theorem stp8 (x : StX w1 mb lo m P) (hR : ∀ w, KS 1 lo w1 w0 w → R (.tuple #[]) w) (k : KS 1 lo w1 w0 w) : binlaw_Stamp.L8 (some ⟨mb, 0, none⟩) R Q w := by
  refine binlaw_Stamp.step8 _ _ _ _ ?_
  unfold binlaw_Stamp.V8
  simp only [true_and, nilV_some, Nat.zero_add]
  obtain ⟨a, ev, hrow⟩ := x.inv.e8.lk
  have hm := x.md.c 8 (by decide)
  rw [ev] at hm
  have c := k.K.sl x.lo hm
  refine ⟨_, _, _, c, cond_intro (fun g => ?_) (fun _ => stp9 x hR k)⟩
  have g : 0 < P.nEx := by have := of_decide_eq_true g; omega
  obtain ⟨b, rfl, lb, hb, row⟩ := hrow (by omega)
  have e := row.c 0 g 2 _ rfl
  simp only [Nat.zero_mul, Nat.zero_add] at e
  obtain ⟨y, hy⟩ := k.K.u32 lb e
  refine ⟨_, _, _, c, _, _, _, c, ⟨by decide, by omega⟩, ?_⟩
  simp only [nilV_some, add_mk, toNat0, Nat.zero_mul, Nat.zero_add, Nat.add_zero]
  refine ⟨_, hy, ⟨by decide, by omega⟩, ?_⟩
  refine ⟨k.drew.K.can lb e (row.f 2), letW_intro fun w' hw => ?_⟩
  rw [hw]
  exact stp9 x hR (k.drew.set lb hb hy (fun v => Kn.to_u32) (fun _ _ h => h))

theorem stp7 (x : StX w1 mb lo m P) (hR : ∀ w, KS 1 lo w1 w0 w → R (.tuple #[]) w) (k : KS 1 lo w1 w0 w) : binlaw_Stamp.L7 (some ⟨mb, 0, none⟩) R Q w := by
  refine binlaw_Stamp.step7 _ _ _ _ ?_
  unfold binlaw_Stamp.V7
  simp only [true_and, nilV_some, Nat.zero_add]
  obtain ⟨a, ev, hrow⟩ := x.inv.g7.lk
  have hm := x.md.c 7 (by decide)
  rw [ev] at hm
  have c := k.K.sl x.lo hm
  refine ⟨_, _, _, c, cond_intro (fun g => ?_) (fun _ => stp8 x hR k)⟩
  have g : 0 < P.gn := by have := of_decide_eq_true g; omega
  obtain ⟨b, rfl, lb, hb, row⟩ := hrow (by omega)
  have e := row.c 0 g 1 _ rfl
  simp only [Nat.zero_mul, Nat.zero_add] at e
  obtain ⟨y, hy⟩ := k.K.bool lb e
  refine ⟨_, _, _, c, _, _, _, c, ⟨by decide, by omega⟩, ?_⟩
  simp only [nilV_some, add_mk, toNat0, Nat.zero_mul, Nat.zero_add, Nat.add_zero]
  refine ⟨_, hy, ⟨by decide, by omega⟩, ?_⟩
  refine ⟨k.drew.K.can lb e (row.f 1), letW_intro fun w' hw => ?_⟩
  rw [hw]
  exact stp8 x hR (k.drew.set lb hb hy (fun v => Kn.to_bool) (fun _ _ h => h))

theorem stp6 (x : StX w1 mb lo m P) (hR : ∀ w, KS 1 lo w1 w0 w → R (.tuple #[]) w) (k : KS 1 lo w1 w0 w) : binlaw_Stamp.L6 (some ⟨mb, 0, none⟩) R Q w := by
  refine binlaw_Stamp.step6 _ _ _ _ ?_
  unfold binlaw_Stamp.V6
  simp only [true_and, nilV_some, Nat.zero_add]
  obtain ⟨a, ev, hrow⟩ := x.inv.i1.lk
  have hm := x.md.c 1 (by decide)
  rw [ev] at hm
  have c := k.K.sl x.lo hm
  refine ⟨_, _, _, c, cond_intro (fun g => ?_) (fun _ => stp7 x hR k)⟩
  have g : 0 < P.nIm := by have := of_decide_eq_true g; omega
  obtain ⟨b, rfl, lb, hb, row⟩ := hrow (by omega)
  have e := row.c 0 g 2 _ rfl
  simp only [Nat.zero_mul, Nat.zero_add] at e
  obtain ⟨y, hy, _⟩ := k.K.i64 lb e
  refine ⟨_, _, _, c, _, _, _, c, ⟨by decide, by omega⟩, ?_⟩
  simp only [nilV_some, add_mk, toNat0, Nat.zero_mul, Nat.zero_add, Nat.add_zero]
  refine ⟨_, hy, ⟨by decide, by omega⟩, ?_⟩
  refine ⟨k.drew.K.can lb e (row.f 2), letW_intro fun w' hw => ?_⟩
  rw [hw]
  exact stp7 x hR (k.drew.set lb hb hy (fun v => Kn.to_i64 (wrapI64 _)) (fun _ _ h => h))

theorem els_lk (x : StX w1 mb lo m P) : ∃ a, m 10 = .slice a P.nEl P.nEl ∧ (P.nEl ≠ 0 → ∃ tb, a = some ⟨tb, 0, none⟩ ∧ lo < tb ∧ tb < w1.heap.size ∧ ElRow w1 lo tb P.nEl P.el) := by
  rcases x.inv.l10 with ⟨h0, hv⟩ | ⟨h0, b, h1, h2, h3, h4⟩
  · exact ⟨none, by rw [hv, h0], fun g => absurd h0 g⟩
  · exact ⟨_, h1, fun _ => ⟨b, rfl, h3, h4, h2⟩⟩
theorem fns_lk (x : StX w1 mb lo m P) : ∃ a, m 2 = .slice a P.nf P.nf ∧ (P.nf ≠ 0 → ∃ fb, a = some ⟨fb, 0, none⟩ ∧ lo < fb ∧ fb < w1.heap.size ∧ FnRow w1 (lo + 1) fb P.nf P.nf P.fn) := by
  rcases x.inv.f2 with ⟨h0, hv⟩ | ⟨h0, b, h1, h2, h3, h4⟩
  · exact ⟨none, by rw [hv, h0], fun g => absurd h0 g⟩
  · exact ⟨_, h1, fun _ => ⟨b, rfl, h3, h4, h2⟩⟩

theorem stp3 (x : StX w1 mb lo m P) (hR : ∀ w, KS 1 lo w1 w0 w → R (.tuple #[]) w) : ∀ (n i : Nat) (w : World), i + n = P.nEl → KS 0 lo w1 w0 w → binlaw_Stamp.L3 (some ⟨mb, 0, none⟩) (i : Int) R Q w := by
  obtain ⟨a, ev, hrow⟩ := els_lk x
  have hm := x.md.c 10 (by decide)
  rw [ev] at hm
  have hB := x.B.nEl
  intro n
  induction n with
  | zero =>
    intro i w hi k
    refine binlaw_Stamp.step3 _ _ _ _ _ ?_
    unfold binlaw_Stamp.V3
    simp only [true_and, nilV_some, Nat.zero_add]
    refine ⟨_, _, _, k.K.sl x.lo hm, cond_false' (decide_eq_false (by omega)) ?_⟩
    obtain ⟨a2, ev2, hrow2⟩ := x.inv.t0.lk
    have hm2 := x.md.c 0 (by decide)
    rw [ev2] at hm2
    have c := k.K.sl x.lo hm2
    refine ⟨_, _, _, c, cond_intro (fun g => ?_) (fun _ => stp6 x hR k.up)⟩
    have g : 0 < P.nTy := by have := of_decide_eq_true g; omega
    obtain ⟨b, rfl, lb, hb, row⟩ := hrow2 (by omega)
    have e := row.c 0 g 0 _ rfl
    simp only [Nat.zero_mul, Nat.zero_add] at e
    obtain ⟨y, hy, hsz⟩ := k.K.str lb e
    have := (x.B.ty 0 g).1
    refine ⟨_, _, _, c, _, _, _, c, ⟨by decide, by omega⟩, ?_⟩
    simp only [nilV_some, add_mk, toNat0, Nat.zero_mul, Nat.zero_add, Nat.add_zero]
    refine ⟨_, hy, ?_, ⟨by decide, by omega⟩, ?_⟩
    · have : (⟨#[33]⟩ : ByteArray).size = 1 := rfl
      omega
    refine ⟨k.drew.K.can lb e (row.f 0), letW_intro fun w' hw => ?_⟩
    rw [hw]
    exact stp6 x hR (k.drew.set lb hb hy (fun v => Kn.to_str) (fun _ _ h => h.up))
  | succ n ih =>
    intro i w hi k
    refine binlaw_Stamp.step3 _ _ _ _ _ ?_
    unfold binlaw_Stamp.V3
    simp only [true_and, nilV_some, Nat.zero_add]
    obtain ⟨tb, rfl, lt, ht, fr, row, rel⟩ := hrow (by omega)
    have hi' : i < P.nEl := by omega
    have c := k.K.sl x.lo hm
    refine ⟨_, _, _, c, cond_true' (decide_eq_true (by omega)) ?_⟩
    have e := row.c i hi' 2 _ rfl
    obtain ⟨y, hy, _⟩ := k.K.u64 lt e
    refine ⟨_, _, _, c, _, _, _, c, ⟨by omega, by omega⟩, ?_⟩
    simp only [nilV_some, add_mk, Int.toNat_natCast, Nat.zero_add]
    refine ⟨_, hy, ⟨by omega, by omega⟩, ?_⟩
    refine ⟨k.drew.K.can lt e (row.f _), letW_intro fun w2 hw => ?_⟩
    have k2 : KS 0 lo w1 w0 w2 := by
      rw [hw]
      exact k.drew.set lt ht hy (fun v => Kn.to_u64 (wrapU64 _)) (fun _ _ h => h)
    clear hw
    have c2 := k2.K.sl x.lo hm
    refine ⟨_, _, _, c2, ⟨by omega, by omega⟩, ?_⟩
    simp only [nilV_some, add_mk, Int.toNat_natCast, Nat.zero_add]
    obtain ⟨r1, r2, r3⟩ := rel i hi'
    obtain ⟨a3, ev3, hrow3⟩ := r2.lk
    have e3 := row.c i hi' 3 _ rfl
    rw [ev3] at e3
    have c3 := k2.K.sl lt e3
    have N : ∀ w3, KS 0 lo w1 w0 w3 → binlaw_Stamp.L5 (some ⟨mb, 0, none⟩) (i : Int) R Q w3 := fun w3 k3 => by
      refine binlaw_Stamp.step5 _ _ _ _ _ ?_
      unfold binlaw_Stamp.V5
      rw [nx i (by omega)]
      exact ih (i + 1) w3 (by omega) k3
    refine ⟨_, _, _, c3, cond_intro (fun g => ?_) (fun _ => N w2 k2)⟩
    have g : 0 < (P.el i).n := by have := of_decide_eq_true g; omega
    obtain ⟨b, rfl, lb, hb, row3⟩ := hrow3 (by omega)
    have e4 := row3.c 0 g 0 _ rfl
    simp only [Nat.zero_mul, Nat.zero_add] at e4
    obtain ⟨y4, hy4⟩ := k2.K.u32 lb e4
    refine ⟨_, _, _, c2, ⟨by omega, by omega⟩, ?_⟩
    simp only [nilV_some, add_mk, Int.toNat_natCast, Nat.zero_add]
    refine ⟨_, _, _, c3, _, _, _, c2, ⟨by omega, by omega⟩, ?_⟩
    simp only [nilV_some, add_mk, Int.toNat_natCast, Nat.zero_add]
    refine ⟨_, _, _, c3, ⟨by decide, by omega⟩, ?_⟩
    simp only [nilV_some, add_mk, toNat0, Nat.zero_mul, Nat.zero_add, Nat.add_zero]
    refine ⟨_, hy4, ⟨by decide, by omega⟩, ?_⟩
    refine ⟨k2.drew.K.can lb e4 (row3.f 0), letW_intro fun w' hw => ?_⟩
    rw [hw]
    exact N _ (k2.drew.set lb hb hy4 (fun v => Kn.to_u32) (fun _ _ h => h))

theorem stp1 (x : StX w1 mb lo m P) (hR : ∀ w, KS 1 lo w1 w0 w → R (.tuple #[]) w) : ∀ (n i : Nat) (w : World), i + n = P.nf → KS 0 lo w1 w0 w → binlaw_Stamp.L1 (some ⟨mb, 0, none⟩) (i : Int) R Q w := by
  obtain ⟨a, ev, hrow⟩ := fns_lk x
  have hm := x.md.c 2 (by decide)
  rw [ev] at hm
  have hB := x.B.nf
  intro n
  induction n with
  | zero =>
    intro i w hi k
    refine binlaw_Stamp.step1 _ _ _ _ _ ?_
    unfold binlaw_Stamp.V1
    simp only [true_and, nilV_some, Nat.zero_add]
    exact ⟨_, _, _, k.K.sl x.lo hm, cond_false' (decide_eq_false (by omega)) (stp3 x hR P.nEl 0 w (by omega) k)⟩
  | succ n ih =>
    intro i w hi k
    refine binlaw_Stamp.step1 _ _ _ _ _ ?_
    unfold binlaw_Stamp.V1
    simp only [true_and, nilV_some, Nat.zero_add]
    obtain ⟨fb, rfl, lf, hf, row⟩ := hrow (by omega)
    have hi' : i < P.nf := by omega
    have c := k.K.sl x.lo hm
    refine ⟨_, _, _, c, cond_true' (decide_eq_true (by omega)) ⟨_, _, _, c, ⟨by omega, by omega⟩, ?_⟩⟩
    simp only [nilV_some, add_mk, Int.toNat_natCast, Nat.zero_add]
    have e := row.c0 i hi'
    obtain ⟨y, hy, _⟩ := k.K.i64 lf e
    refine ⟨_, hy, k.K.can lf e (row.f _), letW_intro fun w2 hw => ?_⟩
    have k2 : KS 0 lo w1 w0 w2 := by
      rw [hw]
      exact k.set lf hf hy (fun v => Kn.to_i64 (wrapI64 _)) (fun _ _ h => h)
    clear hw
    obtain ⟨nb, b1, b2, b3, b4, b5⟩ := row.c2 i hi'
    have c2 := k2.K.sl lf b1
    have N4 : ∀ w3, KS 0 lo w1 w0 w3 → binlaw_Stamp.L4 (some ⟨mb, 0, none⟩) (i : Int) R Q w3 := fun w3 k3 => by
      refine binlaw_Stamp.step4 _ _ _ _ _ ?_
      unfold binlaw_Stamp.V4
      rw [nx i (by omega)]
      exact ih (i + 1) w3 (by omega) k3
    have N2 : ∀ w3, KS 0 lo w1 w0 w3 → binlaw_Stamp.L2 (some ⟨mb, 0, none⟩) (i : Int) (some ⟨fb, i * 4, none⟩) R Q w3 := fun w3 k3 => by
      refine binlaw_Stamp.step2 _ _ _ _ _ _ ?_
      unfold binlaw_Stamp.V2
      simp only [true_and, nilV_some, Nat.zero_add]
      rcases row.c3 i hi' with ⟨t0, t1⟩ | ⟨t0, tk, t1, t2, t3, t4, t5⟩
      · exact ⟨_, _, _, k3.K.sl lf t1, cond_false' rfl (N4 w3 k3)⟩
      · have c3 := k3.K.sl lf t1
        refine ⟨_, _, _, c3, cond_true' (decide_eq_true (by omega)) ?_⟩
        have e4 := t2.1 0 t0
        obtain ⟨y4, hy4⟩ := k3.K.u32 (show lo < tk by omega) e4
        refine ⟨_, _, _, c3, _, _, _, c3, ⟨by decide, by omega⟩, ?_⟩
        simp only [nilV_some, add_mk, toNat0, Nat.zero_mul, Nat.zero_add, Nat.add_zero]
        refine ⟨_, hy4, ⟨by decide, by omega⟩, ?_⟩
        refine ⟨k3.drew.K.can (show lo < tk by omega) e4 (t2.2 0), letW_intro fun w' hw => ?_⟩
        rw [hw]
        exact N4 _ (k3.drew.set (by omega) t4 hy4 (fun v => Kn.to_u32) (fun _ _ h => h))
    refine ⟨_, _, _, c2, cond_intro (fun g => ?_) (fun _ => N2 w2 k2)⟩
    have g : 0 < (P.fn i).nI := by have := of_decide_eq_true g; omega
    have e4 := b2.i1 0 g
    simp only [Nat.zero_mul, Nat.zero_add] at e4
    obtain ⟨y4, hy4⟩ := k2.K.u32 (show lo < nb by omega) e4
    refine ⟨_, _, _, c2, _, _, _, c2, ⟨by decide, by omega⟩, ?_⟩
    simp only [nilV_some, add_mk, toNat0, Nat.zero_mul, Nat.zero_add, Nat.add_zero]
    refine ⟨_, hy4, ⟨by decide, by omega⟩, ?_⟩
    refine ⟨k2.drew.K.can (show lo < nb by omega) e4 (b2.fz 1), letW_intro fun w' hw => ?_⟩
    rw [hw]
    exact N2 _ (k2.drew.set (by omega) b4 hy4 (fun v => Kn.to_u32) (fun _ _ h => h))

theorem Stamp_spec (x : StX w1 mb lo m P) (k : Kin 0 lo w1 w0) : Runs Try.prog binlaw_Stamp.id #[rp mb] w0 (fun v w' => v = .tuple #[] ∧ KS 1 lo w1 w0 w') := by
  refine binlaw_Stamp.enter _ _ _ _ ?_
  unfold binlaw_Stamp.V
  exact stp1 x (fun w h => ⟨rfl, h⟩) P.nf 0 w0 (by omega) ⟨k, Same.refl _ _ _⟩
end
end Go.Proofs.Qxb6500316a
