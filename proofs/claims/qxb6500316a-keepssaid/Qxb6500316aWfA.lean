/-
  What a well-formed module is; the small tests of WellFormed.
-/
import Derived.Test.Qxb6500316aEnJ
import Derived.Test.Qxb6500316aShC
set_option linter.unusedSimpArgs false
set_option linter.unusedVariables false
set_option maxRecDepth 100000
namespace Go.Proofs.Qxb6500316a
open Go Go.Vc

abbrev VT (x : Int) : Prop := 124 ≤ x ∧ x ≤ 127
abbrev Vals (t : ByteArray) (max : Nat) : Prop := t.size ≤ max ∧ ∀ j, j < t.size → VT (byteAt t j)
structure Kon (i : Ins) : Prop where
  o0 : 65 ≤ i.op
  o1 : i.op ≤ 68
  x0 : i.x = 0
  y1 : i.op = 65 ∨ i.op = 67 → i.y ≤ 4294967295
abbrev Lim (lo hi : Int) : Prop := (lo = -1 ∧ hi = -1) ∨ (W32 lo ∧ (hi = -1 ∨ W32 hi))
/-- An instruction but br_table. -/
def Pln (i : Ins) : Prop :=
  ((i.op = 2 ∨ i.op = 3 ∨ i.op = 4) ∧ i.y = 0 ∧ (i.x = 64 ∨ VT i.x)) ∨ ((i.op = 12 ∨ i.op = 13 ∨ i.op = 16 ∨ i.op = 17) ∧ i.y = 0) ∨ ((32 ≤ i.op ∧ i.op ≤ 36) ∧ i.y = 0) ∨ ((40 ≤ i.op ∧ i.op ≤ 62) ∧ i.y ≤ 4294967295)
  ∨ Kon i ∨ ((i.op = 0 ∨ i.op = 1 ∨ i.op = 5 ∨ i.op = 11 ∨ i.op = 15 ∨ i.op = 26 ∨ i.op = 27 ∨ i.op = 63 ∨ i.op = 64 ∨ (69 ≤ i.op ∧ i.op ≤ 191)) ∧ i.x = 0 ∧ i.y = 0)
/-- The nesting and the sharing out of the labels, from the i-th instruction on. -/
def wfGo (ins : Nat → Ins) (nI nTab : Nat) : Nat → Nat → Nat → (Nat → Bool) → Nat → Prop
  | 0, _, _, _, _ => False
  | k + 1, i, d, may, u =>
    if (ins i).op = 14 then (ins i).x = u ∧ 1 ≤ (ins i).y ∧ (ins i).y ≤ (nTab : Int) - u ∧ wfGo ins nI nTab k (i + 1) d may (u + (ins i).y.toNat)
    else Pln (ins i) ∧ (if (ins i).op = 2 ∨ (ins i).op = 3 ∨ (ins i).op = 4 then d < 6 ∧ wfGo ins nI nTab k (i + 1) (d + 1) (upd may d ((ins i).op == 4)) u
      else if (ins i).op = 5 then d ≠ 0 ∧ may (d - 1) = true ∧ wfGo ins nI nTab k (i + 1) d (upd may (d - 1) false) u
      else if (ins i).op = 11 then (if d = 0 then i + 1 = nI ∧ u = nTab else wfGo ins nI nTab k (i + 1) (d - 1) may u)
      else wfGo ins nI nTab k (i + 1) d may u)
theorem wfGo_succ (ins : Nat → Ins) (nI nTab k i d : Nat) (may : Nat → Bool) (u : Nat) : wfGo ins nI nTab (k + 1) i d may u =
    if (ins i).op = 14 then (ins i).x = u ∧ 1 ≤ (ins i).y ∧ (ins i).y ≤ (nTab : Int) - u ∧ wfGo ins nI nTab k (i + 1) d may (u + (ins i).y.toNat)
    else Pln (ins i) ∧ (if (ins i).op = 2 ∨ (ins i).op = 3 ∨ (ins i).op = 4 then d < 6 ∧ wfGo ins nI nTab k (i + 1) (d + 1) (upd may d ((ins i).op == 4)) u
      else if (ins i).op = 5 then d ≠ 0 ∧ may (d - 1) = true ∧ wfGo ins nI nTab k (i + 1) d (upd may (d - 1) false) u
      else if (ins i).op = 11 then (if d = 0 then i + 1 = nI ∧ u = nTab else wfGo ins nI nTab k (i + 1) (d - 1) may u)
      else wfGo ins nI nTab k (i + 1) d may u) := rfl
structure FnWF (f : FnP) : Prop where
  b : FnB f
  ls : Vals (strOfNums f.ls) 6
  lv : ∀ x, x ∈ f.ls → VT x
  n0 : 1 ≤ f.nI
  go : wfGo f.ins f.nI f.nTab f.nI 0 0 (fun _ => false) 0
structure WFP (P : PM) : Prop where
  pb : PB P
  ty : ∀ j, j < P.nTy → (splitP (P.ty j)).1.size + (splitP (P.ty j)).2.size + 1 = (P.ty j).size ∧ Vals (splitP (P.ty j)).1 4 ∧ Vals (splitP (P.ty j)).2 1
  im : ∀ j, j < P.nIm → (P.im j).md.size ≤ 8 ∧ (P.im j).nm.size ≤ 8
  g : ∀ j, j < P.gn → VT (P.g j).ty ∧ Kon (P.g j).init
  ex : ∀ j, j < P.nEx → (P.ex j).nm.size ≤ 8 ∧ (P.ex j).kind ≤ 3
  el : ∀ j, j < P.nEl → Kon (P.el j).off
  da : ∀ j, j < P.nD → Kon (P.da j).off ∧ (P.da j).bytes.size ≤ 24
  tl : Lim P.tmin P.tmax
  ml : Lim P.mmin P.mmax
  fn : ∀ j, j < P.nf → FnWF (P.fn j)
theorem InsIn.u64 {i : Ins} (h : InsIn i) : U64 i.y := ⟨h.y0, by have := h.y1; omega⟩
theorem PB.sb {P : PM} (B : PB P) : SB P where
  nTy := B.nTy
  ty := fun j hj => by have := (B.ty j hj).1; omega
  nIm := B.nIm
  im := fun j hj => by obtain ⟨h1, h2, h3, h4⟩ := B.im j hj; exact ⟨by omega, by omega, by omega, by omega⟩
  nf := B.nf
  fn := fun j hj => by have h := B.fn j hj; have := h.t0; have := h.t1; have := h.ls; exact ⟨⟨by omega, by omega⟩, by omega, h.nI, fun k hk => (h.ins k hk).u64, h.nT⟩
  t0 := ⟨by have := B.t0; omega, by have := B.t0; omega⟩
  t1 := ⟨by have := B.t1; omega, by have := B.t1; omega⟩
  m0 := ⟨by have := B.m0; omega, by have := B.m0; omega⟩
  m1 := ⟨by have := B.m1; omega, by have := B.m1; omega⟩
  s0 := ⟨by have := B.s0; omega, by have := B.s0; omega⟩
  gn := B.gn
  g := fun j hj => (B.g j hj).2.2.u64
  nEx := B.nEx
  ex := fun j hj => by have := (B.ex j hj).1; omega
  nEl := B.nEl
  el := fun j hj => ⟨(B.el j hj).1.u64, (B.el j hj).2.1⟩
  nD := B.nD
  da := fun j hj => ⟨(B.da j hj).1.u64, by have := (B.da j hj).2; omega⟩

/-! ### The small tests -/
def Yes (w : World) : Value → World → Prop := fun v w' => v = .bool true ∧ Same [] w.heap.size w w'
theorem IsVal_yes (t : Int) (h : VT t) (w : World) : Runs Try.prog api_IsVal.id #[.int .u8 t] w (Yes w) := by
  refine api_IsVal.enter _ _ _ _ ?_
  unfold api_IsVal.V
  refine cond_intro (fun _ => ⟨rfl, Same.refl _ _ _⟩) (fun h1 => cond_intro (fun _ => ⟨rfl, Same.refl _ _ _⟩) (fun h2 => cond_intro (fun _ => ⟨rfl, Same.refl _ _ _⟩) (fun h3 => ⟨?_, Same.refl _ _ _⟩)))
  have h1 : t ≠ 127 := by simpa using h1
  have h2 : t ≠ 126 := by simpa using h2
  have h3 : t ≠ 125 := by simpa using h3
  have : t = 124 := by have := h.1; have := h.2; omega
  subst this; rfl
theorem u32ok_yes (n : Int) (h : W32 n) (w : World) : Runs Try.prog binlaw_u32ok.id #[.int .i64 n] w (Yes w) := by
  refine binlaw_u32ok.enter _ _ _ _ ?_
  unfold binlaw_u32ok.V
  exact cond_true' (decide_eq_true h.1) ⟨by rw [decide_eq_true h.2], Same.refl _ _ _⟩
theorem limits_yes (lo hi : Int) (h : Lim lo hi) (w : World) : Runs Try.prog binlaw_limits.id #[.int .i64 lo, .int .i64 hi] w (Yes w) := by
  refine binlaw_limits.enter _ _ _ _ _ ?_
  unfold binlaw_limits.V
  rcases h with ⟨rfl, rfl⟩ | ⟨h1, h2⟩
  · exact cond_true' rfl ⟨rfl, Same.refl _ _ _⟩
  · refine cond_false' (by rw [beq_eq_false_iff_ne]; have := h1.1; omega) (RunsQ.post (u32ok_yes lo h1 w) ?_)
    rintro v w1 ⟨rfl, S1⟩
    refine ⟨_, rfl, cond_false' rfl (cond_intro (fun _ => ⟨rfl, S1⟩) (fun g => ?_))⟩
    rcases h2 with rfl | h2
    · cases g
    · refine RunsQ.post (u32ok_yes hi h2 w1) ?_
      rintro v w2 ⟨rfl, S2⟩
      exact ⟨_, rfl, rfl, Same.more (B := 0) S1 S2⟩
theorem valsT_loop {t : ByteArray} (ht : t.size ≤ 1000) (h : ∀ j, j < t.size → VT (byteAt t j)) {w0 : World} : ∀ (k i : Nat) (w : World), i + k = t.size → Same [] w0.heap.size w0 w → binlaw_vals.L1 t (i : Int) (Yes w0) (fun _ _ => False) w
  | 0, i, w, hi, S => by
    refine binlaw_vals.step1 _ _ _ _ _ ?_
    unfold binlaw_vals.V1
    exact cond_false' (decide_eq_false (by omega)) ⟨rfl, S⟩
  | k + 1, i, w, hi, S => by
    refine binlaw_vals.step1 _ _ _ _ _ ?_
    unfold binlaw_vals.V1
    refine cond_true' (decide_eq_true (by omega)) ⟨by omega, ?_⟩
    rw [Int.toNat_natCast]
    refine RunsQ.post (IsVal_yes _ (h i (by omega)) w) ?_
    rintro v w1 ⟨rfl, S1⟩
    refine ⟨_, rfl, cond_false' rfl ?_⟩
    rw [nx i (by omega)]
    exact valsT_loop ht h k (i + 1) w1 (by omega) (Same.more (B := 0) S S1)
theorem vals_yes (t : ByteArray) (mI : Int) (max : Nat) (em : mI = (max : Int)) (hm : max ≤ 1000) (h : Vals t max) (w : World) : Runs Try.prog binlaw_vals.id #[.string t, .int .i64 mI] w (Yes w) := by
  subst em
  refine binlaw_vals.enter _ _ _ _ _ ?_
  unfold binlaw_vals.V
  have := h.1
  exact cond_false' (decide_eq_false (by omega)) (valsT_loop (by omega) h.2 t.size 0 w (by omega) (Same.refl _ _ _))
theorem ins_new {w w1 : World} {b : Nat} {i : Ins} {t : TypeId} (hb : b = w.heap.size) (hw : w1 = w.alloc (.cells #[.int .u8 i.op, .int .u32 i.x, .int .u64 i.y] t)) : InsAt w1 b i ∧ Same [] w.heap.size w w1 :=
  ⟨⟨by rw [hw, hb, World.cell?_alloc_new]; rfl, by rw [hw, hb, World.cell?_alloc_new]; rfl, by rw [hw, hb, World.cell?_alloc_new]; rfl, fun j => by rw [hw, hb, World.frozen?_alloc_new]⟩, by rw [hw]; exact (Same.refl _ _ _).alloc (Nat.le_refl _) _⟩
theorem konst_yes (i : Ins) (h : Kon i) (w : World) : Runs Try.prog binlaw_konst.id #[insV i] w (Yes w) := by
  refine binlaw_konst.enter _ _ _ _ _ _ ?_
  unfold binlaw_konst.V
  refine letB_intro fun b hb => letW_intro fun w1 hw1 => ?_
  obtain ⟨I, S⟩ := ins_new (i := i) hb hw1
  have h0 := h.o0; have h1 := h.o1
  refine ⟨_, I.c0, cond_false' (decide_eq_false (by omega)) ⟨_, I.c0, cond_false' (decide_eq_false (by omega)) ⟨_, I.c1, cond_false' (by rw [h.x0]; rfl) ?_⟩⟩⟩
  refine binlaw_konst.step1 _ _ _ _ ?_
  unfold binlaw_konst.V1
  have L2 : ∀ tt : Bool, (tt = true → i.y ≤ 4294967295) → binlaw_konst.L2 b tt (Yes w) (fun _ _ => False) w1 := by
    intro tt htt
    refine binlaw_konst.step2 _ _ _ _ _ ?_
    unfold binlaw_konst.V2
    exact cond_intro (fun g => ⟨_, I.c2, by rw [decide_eq_true (htt g)], S⟩) (fun g => ⟨rfl, S⟩)
  refine ⟨_, I.c0, cond_intro (fun g => L2 true (fun _ => h.y1 (.inl (by simpa using g)))) (fun g => ⟨_, I.c0, L2 _ (fun g2 => h.y1 (.inr (by simpa using g2)))⟩)⟩
theorem cor2 {P : Bool → Prop} {a b : Bool} {X : Prop} (hX : P b → X) (h : P (a || b)) : cond a (P true) X := by
  cases a
  · exact hX h
  · exact h
theorem cand2 {P : Bool → Prop} {a b : Bool} (h : P (a && b)) : cond a (P b) (P false) := by
  cases a <;> exact h
theorem plain_yes (i : Ins) (ho : 0 ≤ i.op ∧ i.op ≤ 255) (h : Pln i) (w : World) : Runs Try.prog binlaw_plain.id #[insV i] w (Yes w) := by
  refine binlaw_plain.enter _ _ _ _ _ _ ?_
  unfold binlaw_plain.V
  refine letB_intro fun b hb => letW_intro fun w1 hw1 => ?_
  obtain ⟨I, S⟩ := ins_new (i := i) hb hw1
  have e : IntKind.wrap .i64 i.op = i.op := wrap_i64 (by omega) (by omega)
  refine ⟨_, I.c0, ?_⟩
  rw [e]
  refine cor2 (P := fun t => binlaw_plain.L1 b i.op t _ _ w1) (fun h => cor2 (P := fun t => binlaw_plain.L1 b i.op t _ _ w1) id h) ?_
  refine binlaw_plain.step1 _ _ _ _ _ _ ?_
  unfold binlaw_plain.V1
  refine cond_intro (fun g => ?_) (fun g1 => ?_)
  · have g : i.op = 2 ∨ i.op = 3 ∨ i.op = 4 := by simpa [Bool.or_eq_true] using g
    rcases h with ⟨_, hy, hx⟩ | ⟨h', _⟩ | ⟨h', _⟩ | ⟨h', _⟩ | h' | ⟨h', _⟩
    · refine ⟨_, I.c2, cond_true' (by rw [hy]; rfl) ⟨_, I.c1, cond_intro (fun _ => ⟨rfl, S⟩) (fun gx => ⟨_, I.c1, ?_⟩)⟩⟩
      have gx : i.x ≠ 64 := by simpa using gx
      rcases hx with hx | hx
      · exact absurd hx gx
      · exact cond_true' (decide_eq_true hx.1) ⟨_, I.c1, by rw [decide_eq_true hx.2], S⟩
    · omega
    · omega
    · omega
    · have := h'.o0; omega
    · omega
  have g1 : ¬(i.op = 2 ∨ i.op = 3 ∨ i.op = 4) := by simpa [Bool.or_eq_false_iff] using g1
  refine cor2 (P := fun t => binlaw_plain.L2 b i.op t _ _ w1) (fun h => cor2 (P := fun t => binlaw_plain.L2 b i.op t _ _ w1) (fun h => cor2 (P := fun t => binlaw_plain.L2 b i.op t _ _ w1) id h) h) ?_
  refine binlaw_plain.step2 _ _ _ _ _ _ ?_
  unfold binlaw_plain.V2
  refine cond_intro (fun g => ?_) (fun g2 => ?_)
  · have g : i.op = 12 ∨ i.op = 13 ∨ i.op = 16 ∨ i.op = 17 := by simpa [Bool.or_eq_true] using g
    rcases h with ⟨h', _⟩ | ⟨_, hy⟩ | ⟨h', _⟩ | ⟨h', _⟩ | h' | ⟨h', _⟩
    · omega
    · exact ⟨_, I.c2, by rw [hy]; rfl, S⟩
    · omega
    · omega
    · have := h'.o0; omega
    · omega
  have g2 : ¬(i.op = 12 ∨ i.op = 13 ∨ i.op = 16 ∨ i.op = 17) := by simpa [Bool.or_eq_false_iff] using g2
  refine cand2 (P := fun t => binlaw_plain.L3 b i.op t _ _ w1) ?_
  refine binlaw_plain.step3 _ _ _ _ _ _ ?_
  unfold binlaw_plain.V3
  refine cond_intro (fun g => ?_) (fun g3 => ?_)
  · have g : 32 ≤ i.op ∧ i.op ≤ 36 := by simpa [Bool.and_eq_true] using g
    rcases h with ⟨h', _⟩ | ⟨h', _⟩ | ⟨_, hy⟩ | ⟨h', _⟩ | h' | ⟨h', _⟩
    · omega
    · omega
    · exact ⟨_, I.c2, by rw [hy]; rfl, S⟩
    · omega
    · have := h'.o0; omega
    · omega
  have g3 : ¬(32 ≤ i.op ∧ i.op ≤ 36) := fun hh => by rw [Bool.and_eq_false_iff, decide_eq_false_iff_not, decide_eq_false_iff_not] at g3; omega
  refine cand2 (P := fun t => binlaw_plain.L4 b i.op t _ _ w1) ?_
  refine binlaw_plain.step4 _ _ _ _ _ _ ?_
  unfold binlaw_plain.V4
  refine cond_intro (fun g => ?_) (fun g4 => ?_)
  · have g : 40 ≤ i.op ∧ i.op ≤ 62 := by simpa [Bool.and_eq_true] using g
    rcases h with ⟨h', _⟩ | ⟨h', _⟩ | ⟨h', _⟩ | ⟨_, hy⟩ | h' | ⟨h', _⟩
    · omega
    · omega
    · omega
    · exact ⟨_, I.c2, by rw [decide_eq_true hy], S⟩
    · have := h'.o0; omega
    · omega
  have g4 : ¬(40 ≤ i.op ∧ i.op ≤ 62) := fun hh => by rw [Bool.and_eq_false_iff, decide_eq_false_iff_not, decide_eq_false_iff_not] at g4; omega
  refine cand2 (P := fun t => binlaw_plain.L5 b i.op t _ _ w1) ?_
  refine binlaw_plain.step5 _ _ _ _ _ _ ?_
  unfold binlaw_plain.V5
  refine cond_intro (fun g => ?_) (fun g5 => ?_)
  · have g : 65 ≤ i.op ∧ i.op ≤ 68 := by simpa [Bool.and_eq_true] using g
    rcases h with ⟨h', _⟩ | ⟨h', _⟩ | ⟨h', _⟩ | ⟨h', _⟩ | h' | ⟨h', _⟩
    · omega
    · omega
    · omega
    · omega
    · refine ⟨_, _, _, I.c0, I.c1, I.c2, RunsQ.post (konst_yes i h' w1) ?_⟩
      rintro v w2 ⟨rfl, S2⟩
      exact ⟨_, rfl, rfl, Same.more (B := 0) S S2⟩
    · omega
  have g5 : ¬(65 ≤ i.op ∧ i.op ≤ 68) := fun hh => by rw [Bool.and_eq_false_iff, decide_eq_false_iff_not, decide_eq_false_iff_not] at g5; omega
  obtain ⟨hop, hx, hy⟩ : (i.op = 0 ∨ i.op = 1 ∨ i.op = 5 ∨ i.op = 11 ∨ i.op = 15 ∨ i.op = 26 ∨ i.op = 27 ∨ i.op = 63 ∨ i.op = 64 ∨ (69 ≤ i.op ∧ i.op ≤ 191)) ∧ i.x = 0 ∧ i.y = 0 := by
    rcases h with ⟨h', _⟩ | ⟨h', _⟩ | ⟨h', _⟩ | ⟨h', _⟩ | h' | h'
    · exact absurd h' g1
    · exact absurd h' g2
    · exact absurd h' g3
    · exact absurd h' g4
    · exact absurd ⟨h'.o0, h'.o1⟩ g5
    · exact h'
  have L7 : binlaw_plain.L7 b (Yes w) (fun _ _ => False) w1 := by
    refine binlaw_plain.step7 _ _ _ _ ?_
    unfold binlaw_plain.V7
    exact ⟨_, I.c1, cond_true' (by rw [hx]; rfl) ⟨_, I.c2, by rw [hy]; rfl, S⟩⟩
  refine cor2 (P := fun t => binlaw_plain.L6 b i.op t _ _ w1) (fun h => cor2 (P := fun t => binlaw_plain.L6 b i.op t _ _ w1) (fun h => cor2 (P := fun t => binlaw_plain.L6 b i.op t _ _ w1) id h) h) ?_
  refine binlaw_plain.step6 _ _ _ _ _ _ ?_
  unfold binlaw_plain.V6
  refine cond_intro (fun g => L7) (fun g6 => ?_)
  refine cor2 (P := fun t => binlaw_plain.L8 b i.op t _ _ w1) (fun h => cor2 (P := fun t => binlaw_plain.L8 b i.op t _ _ w1) (fun h => cor2 (P := fun t => binlaw_plain.L8 b i.op t _ _ w1) id h) h) ?_
  refine binlaw_plain.step8 _ _ _ _ _ _ ?_
  unfold binlaw_plain.V8
  refine cond_intro (fun g => L7) (fun g8 => ?_)
  have g6 : ¬(i.op ≤ 1) ∧ i.op ≠ 5 ∧ i.op ≠ 11 ∧ i.op ≠ 15 := by simpa [Bool.or_eq_false_iff] using g6
  have g8 : i.op ≠ 26 ∧ i.op ≠ 27 ∧ i.op ≠ 63 ∧ i.op ≠ 64 := by simpa [Bool.or_eq_false_iff] using g8
  exact cond_true' (decide_eq_true (by omega)) (cond_true' (decide_eq_true (by omega)) L7)

end Go.Proofs.Qxb6500316a
