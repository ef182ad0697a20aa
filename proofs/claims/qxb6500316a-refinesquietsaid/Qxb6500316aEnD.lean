/-
  The encoder's instructions, constants, sections.
-/
import Derived.Test.Qxb6500316aEnC
set_option linter.unusedSimpArgs false
set_option linter.unusedVariables false
set_option maxRecDepth 100000
set_option linter.unusedSectionVars false
namespace Go.Proofs.Qxb6500316a
open Go Go.Vc

theorem wrap_i64_rng (x : Int) : -9223372036854775808 ≤ IntKind.wrap .i64 x ∧ IntKind.wrap .i64 x ≤ 9223372036854775807 := by
  have e : IntKind.wrap .i64 x = if x % 18446744073709551616 ≥ 9223372036854775808 then x % 18446744073709551616 - 18446744073709551616 else x % 18446744073709551616 := by
    unfold IntKind.wrap
    simp [IntKind.bits, IntKind.signed]
  rw [e]
  split <;> omega
variable [OutOf]

/-! ### ins -/
def tabF (n : Nat) (tabs : Nat → Int) (x y : Int) : Nat → Int → List Int
  | 0, _ => []
  | k + 1, i => if IntKind.wrap .u64 (i - x) < y ∧ i < n then uleb (tabs i.toNat) ++ tabF n tabs x y k (i + 1) else []
theorem tabF_succ (n : Nat) (tabs : Nat → Int) (x y : Int) (k : Nat) (i : Int) : tabF n tabs x y (k + 1) i = if IntKind.wrap .u64 (i - x) < y ∧ i < n then uleb (tabs i.toNat) ++ tabF n tabs x y k (i + 1) else [] := rfl
def insT (i : Ins) (n : Nat) (tabs : Nat → Int) : List Int :=
  if i.op = 2 ∨ i.op = 3 ∨ i.op = 4 then [IntKind.wrap .u8 i.x]
  else if i.op = 12 ∨ i.op = 13 ∨ i.op = 16 ∨ i.op = 32 ∨ i.op = 33 ∨ i.op = 34 ∨ i.op = 35 ∨ i.op = 36 then uleb i.x
  else if i.op = 14 then uleb (IntKind.wrap .u64 (i.y - 1)) ++ tabF n tabs i.x i.y (n + 1) i.x
  else if i.op = 17 then uleb i.x ++ [0]
  else if i.op = 63 ∨ i.op = 64 then [0]
  else if i.op = 65 then sleb (IntKind.wrap .i64 (IntKind.wrap .i32 (IntKind.wrap .u32 i.y)))
  else if i.op = 66 then sleb (IntKind.wrap .i64 i.y)
  else if i.op = 67 then littleF 4 i.y
  else if i.op = 68 then littleF 8 i.y
  else if 40 ≤ i.op ∧ i.op ≤ 62 then uleb i.x ++ uleb i.y
  else []
def insE (i : Ins) (n : Nat) (tabs : Nat → Int) : List Int := [i.op] ++ insT i n tabs

theorem tabF_len (n : Nat) (tabs : Nat → Int) (x y : Int) : ∀ k i, (tabF n tabs x y k i).length ≤ 10 * k
  | 0, _ => by simp [tabF]
  | k + 1, i => by
    rw [tabF_succ]
    split
    · have := tabF_len n tabs x y k (i + 1)
      have := uleb_len (tabs i.toNat)
      simp only [List.length_append]; omega
    · simp
theorem insE_len (i : Ins) (n : Nat) (hn : n ≤ 24) (tabs : Nat → Int) : (insE i n tabs).length ≤ 270 := by
  unfold insE
  have h : (insT i n tabs).length ≤ 260 := by
    unfold insT
    have a1 := uleb_len i.x
    have a2 := uleb_len i.y
    have a3 := uleb_len (IntKind.wrap .u64 (i.y - 1))
    have a4 := tabF_len n tabs i.x i.y (n + 1) i.x
    have a5 := sleb_len (IntKind.wrap .i64 (IntKind.wrap .i32 (IntKind.wrap .u32 i.y)))
    have a6 := sleb_len (IntKind.wrap .i64 i.y)
    have a7 := littleF_len 4 i.y
    have a8 := littleF_len 8 i.y
    repeat' split
    all_goals (first | omega | (simp only [List.length_append, List.length_cons, List.length_nil]; omega))
  simp only [List.length_append, List.length_cons, List.length_nil]; omega

structure InsIn (i : Ins) : Prop where
  o0 : 0 ≤ i.op
  o1 : i.op ≤ 255
  x0 : 0 ≤ i.x
  x1 : i.x ≤ 4294967295
  y0 : 0 ≤ i.y
  y1 : i.y ≤ 18446744073709551615

/-- The labels, as the writer of block wb (its bytes in g) may read them. -/
def TabsV (w : World) (wb : Nat) (g : Option Nat) (ta : Option Addr) (n : Nat) (tabs : Nat → Int) : Prop := (n = 0 ∧ ta = none) ∨ ∃ tk, ta = some ⟨tk, 0, none⟩ ∧ TabRow w tk n tabs ∧ tk ≠ wb ∧ g ≠ some tk ∧ tk < w.heap.size
theorem TabsV.step {w w' : World} {wb : Nat} {g g' : Option Nat} {ta : Option Addr} {n : Nat} {tabs : Nat → Int} (h : TabsV w wb g ta n tabs) (hS : WS w w' wb g g') : TabsV w' wb g' ta n tabs := by
  rcases h with h | ⟨tk, h1, h2, h3, h4, h5⟩
  · exact .inl h
  · exact .inr ⟨tk, h1, h2.same hS.S h5 (hS.not h3 h4), h3, hS.gne h5 h4, by have := hS.S.size; omega⟩

structure XAt (w : World) (wb : Nat) (g : Option Nat) (xb : Nat) (i : Ins) : Prop where
  x : InsAt w xb i
  n1 : xb ≠ wb
  n2 : g ≠ some xb
theorem XAt.step {w w' : World} {wb xb : Nat} {g g' : Option Nat} {i : Ins} (h : XAt w wb g xb i) (hS : WS w w' wb g g') : XAt w' wb g' xb i := ⟨h.x.same hS.S h.x.lt (hS.not h.n1 h.n2), h.n1, hS.gne h.x.lt h.n2⟩

theorem tab_loop {w0 : World} {wb xb : Nat} {g0 : Option Nat} {L : List Int} {i : Ins} (hi : InsIn i) {ta : Option Addr} {n tc : Nat} (hn : n ≤ 24) {tabs : Nat → Int} (htb : ∀ j, j < n → 0 ≤ tabs j ∧ tabs j ≤ 4294967295) (R Q : Value → World → Prop) (hR : ∀ w' g' u, EW w' wb L g' u → WS w0 w' wb g0 g' → R (.tuple #[]) w') :
    ∀ (k : Nat) (j : Int) (w : World) (l : List Int) (g : Option Nat) (ev : Value), 0 ≤ j → j ≤ 4294967300 → (n : Int) + 1 ≤ j + k → EW w wb l g ev → WS w0 w wb g0 g → XAt w wb g xb i → TabsV w wb g ta n tabs → l.length + 10 * k ≤ 1000000 → L = l ++ tabF n tabs i.x i.y k j → bin_writer_ins.L5 (some ⟨wb, 0, none⟩) ta n tc xb j R Q w := by
  have x0 := hi.x0; have x1 := hi.x1
  intro k
  induction k with
  | zero =>
    intro j w l g ev j0 j1 hk h hS hX hT hb hL
    refine bin_writer_ins.step5 _ _ _ _ _ _ _ _ _ ?_
    unfold bin_writer_ins.V5
    have : L = l := by rw [hL]; simp [tabF]
    rw [← this] at h
    rw [wrap_u64 (x := ((n : Nat) : Int)) (by omega) (by omega)]
    refine ⟨_, hX.x.c1, _, hX.x.c2, cond_intro (fun _ => cond_false' (decide_eq_false (by omega)) (hR w g ev h hS)) (fun _ => hR w g ev h hS)⟩
  | succ k ih =>
    intro j w l g ev j0 j1 hk h hS hX hT hb hL
    refine bin_writer_ins.step5 _ _ _ _ _ _ _ _ _ ?_
    unfold bin_writer_ins.V5
    rw [tabF_succ] at hL
    rw [wrap_u64 (x := ((n : Nat) : Int)) (by omega) (by omega)]
    refine ⟨_, hX.x.c1, _, hX.x.c2, ?_⟩
    rw [wrap_u64 (x := i.x) (by omega) (by omega)]
    have stop : ¬ (IntKind.wrap .u64 (j - i.x) < i.y ∧ j < n) → R (.tuple #[]) w := by
      intro hc
      rw [if_neg hc, List.append_nil] at hL
      rw [← hL] at h
      exact hR w g ev h hS
    by_cases c1 : IntKind.wrap .u64 (j - i.x) < i.y
    · refine cond_true' (decide_eq_true c1) ?_
      by_cases c2 : j < n
      · refine cond_true' (decide_eq_true c2) ?_
        rw [if_pos ⟨c1, c2⟩] at hL
        obtain ⟨jn, rfl⟩ := Int.eq_ofNat_of_zero_le j0
        refine bin_writer_ins.step8 _ _ _ _ _ _ _ _ _ ?_
        unfold bin_writer_ins.V8
        rcases hT with ⟨hn0, _⟩ | ⟨tk, rfl, hrow, hk1, hk2, hk3⟩
        · omega
        · refine ⟨by omega, ?_⟩
          rw [nilV_some, Int.toNat_natCast, add_mk, Nat.zero_add, Nat.mul_one]
          have htj := htb jn (by omega)
          refine ⟨_, hrow.1 jn (by omega), ?_⟩
          rw [wrap_u64 (x := tabs jn) (by omega) (by omega)]
          refine (u_spec h _ (by omega) (by omega) (by omega)).into (fun w1 g1 u1 hE1 hS1 => ⟨rfl, ?_⟩)
          have q := uleb_len (tabs jn)
          have e1 : IntKind.wrap .u64 (((jn : Nat) : Int) + 1) = ((jn : Nat) : Int) + 1 := wrap_u64 (by omega) (by omega)
          rw [e1]
          have hT1 : TabsV w1 wb g1 (some ⟨tk, 0, none⟩) n tabs := TabsV.step (.inr ⟨tk, rfl, hrow, hk1, hk2, hk3⟩) hS1
          exact ih _ w1 _ g1 u1 (by omega) (by omega) (by omega) hE1 (hS.trans hS1) (hX.step hS1) hT1 (by simp; omega) (by rw [hL, List.append_assoc]; rfl)
      · exact cond_false' (decide_eq_false c2) (stop (fun u => c2 u.2))
    · exact cond_false' (decide_eq_false c1) (stop (fun u => c1 u.1))

theorem ins_spec {w : World} {wb : Nat} {l : List Int} {g : Option Nat} {ev : Value} (h : EW w wb l g ev) (i : Ins) (hi : InsIn i) {ta : Option Addr} {n tc : Nat} (hn : n ≤ 24) {tabs : Nat → Int} (htb : ∀ j, j < n → 0 ≤ tabs j ∧ tabs j ≤ 4294967295) (hT : TabsV w wb g ta n tabs) (hb : l.length + 300 ≤ 1000000) :
    Writes bin_writer_ins.id #[rp wb, insV i, .slice ta n tc] w wb l g (insE i n tabs) := by
  have x0 := hi.x0; have x1 := hi.x1; have y0 := hi.y0; have y1 := hi.y1
  refine bin_writer_ins.enter _ i.op i.x i.y _ _ _ _ _ _ ?_
  unfold bin_writer_ins.V
  refine letB_intro fun xb hxb => letW_intro fun w9 hw9 => ?_
  have S9 : Same [] w.heap.size w w9 := by rw [hw9]; exact (Same.refl _ _ _).alloc (Nat.le_refl _) _
  have hX0 : InsAt w9 xb i := by
    rw [hw9, hxb]
    exact ⟨by rw [World.cell?_alloc_new]; rfl, by rw [World.cell?_alloc_new]; rfl, by rw [World.cell?_alloc_new]; rfl, fun j => by rw [World.frozen?_alloc_new]⟩
  have h9 := h.same S9 (by simp) (by simp)
  have lw := h.lt
  have X9 : XAt w9 wb g xb i := ⟨hX0, by omega, fun e => by have := h.glt _ e; omega⟩
  have W9 := WS.of wb g S9
  have hT9 := hT.step W9
  clear hw9
  refine ⟨_, hX0.c0, ?_⟩
  refine put1 h9 _ (by omega) (fun w1 g1 u1 hE1 hS1 => ?_)
  have X1 := X9.step hS1
  have hT1 := hT9.step hS1
  have W1 := W9.trans hS1
  refine ⟨_, X1.x.c0, ?_⟩
  -- what is left is to write insT
  have fin : ∀ {app : List Int}, insT i n tabs = app → ∀ w' g' u, EW w' wb ((l ++ [i.op]) ++ app) g' u → WS w w' wb g g' → (fun v w' => v = Value.tuple #[] ∧ ∃ g' u, EW w' wb (l ++ insE i n tabs) g' u ∧ WS w w' wb g g') (.tuple #[]) w' := by
    intro app ha w' g' u hE hS
    refine ⟨rfl, g', u, ?_, hS⟩
    unfold insE
    rw [ha, ← List.append_assoc]; exact hE
  have hb1 : (l ++ [i.op]).length = l.length + 1 := by simp
  generalize hR : (fun v w' => v = Value.tuple #[] ∧ ∃ g' u, EW w' wb (l ++ insE i n tabs) g' u ∧ WS w w' wb g g') = R at *
  generalize hl1 : l ++ [i.op] = l1 at *
  by_cases g2 : i.op = 2 ∨ i.op = 3 ∨ i.op = 4
  · have hI : insT i n tabs = [IntKind.wrap .u8 i.x] := by unfold insT; rw [if_pos g2]
    have L1 : bin_writer_ins.L1 (some ⟨wb, 0, none⟩) xb R (fun _ _ => False) w1 := by
      refine bin_writer_ins.step1 _ _ _ _ _ ?_
      unfold bin_writer_ins.V1
      exact ⟨_, X1.x.c1, put1 hE1 _ (by omega) (fun w2 g2 u2 hE2 hS2 => fin hI w2 g2 u2 hE2 (W1.trans hS2))⟩
    refine cond_intro (fun _ => L1) (fun a0 => cond_intro (fun _ => L1) (fun a1 => cond_intro (fun _ => L1) (fun a2 => ?_)))
    exfalso
    rw [beq_eq_false_iff_ne] at a0 a1 a2
    rcases g2 with k | k | k
    · exact a0 k
    · exact a1 k
    · exact a2 k
  · refine cond_false' (beq_ne (by omega)) (cond_false' (beq_ne (by omega)) (cond_false' (beq_ne (by omega)) ?_))
    have hI0 : insT i n tabs = insT i n tabs := rfl
    conv at hI0 => rhs; unfold insT
    rw [if_neg g2] at hI0
    refine bin_writer_ins.step2 _ _ _ _ _ _ _ _ _ ?_
    unfold bin_writer_ins.V2
    by_cases g3 : i.op = 12 ∨ i.op = 13 ∨ i.op = 16 ∨ i.op = 32 ∨ i.op = 33 ∨ i.op = 34 ∨ i.op = 35 ∨ i.op = 36
    · rw [if_pos g3] at hI0
      have L3 : bin_writer_ins.L3 (some ⟨wb, 0, none⟩) xb R (fun _ _ => False) w1 := by
        refine bin_writer_ins.step3 _ _ _ _ _ ?_
        unfold bin_writer_ins.V3
        refine ⟨_, X1.x.c1, ?_⟩
        rw [wrap_u64 (x := i.x) (by omega) (by omega)]
        exact (u_spec hE1 _ (by omega) (by omega) (by omega)).into (fun w2 g2 u2 hE2 hS2 => ⟨rfl, fin hI0 w2 g2 u2 hE2 (W1.trans hS2)⟩)
      refine cond_intro (fun _ => L3) (fun a0 => cond_intro (fun _ => L3) (fun a1 => cond_intro (fun _ => L3) (fun a2 => cond_intro (fun _ => L3) (fun a3 => cond_intro (fun _ => L3) (fun a4 => cond_intro (fun _ => L3) (fun a5 => cond_intro (fun _ => L3) (fun a6 => cond_intro (fun _ => L3) (fun a7 => ?_))))))))
      exfalso
      rw [beq_eq_false_iff_ne] at a0 a1 a2 a3 a4 a5 a6 a7
      rcases g3 with k | k | k | k | k | k | k | k
      · exact a0 k
      · exact a1 k
      · exact a2 k
      · exact a3 k
      · exact a4 k
      · exact a5 k
      · exact a6 k
      · exact a7 k
    · rw [if_neg g3] at hI0
      refine cond_false' (beq_ne (by omega)) (cond_false' (beq_ne (by omega)) (cond_false' (beq_ne (by omega)) (cond_false' (beq_ne (by omega)) (cond_false' (beq_ne (by omega)) (cond_false' (beq_ne (by omega)) (cond_false' (beq_ne (by omega)) (cond_false' (beq_ne (by omega)) ?_)))))))
      refine bin_writer_ins.step4 _ _ _ _ _ _ _ _ _ ?_
      unfold bin_writer_ins.V4
      by_cases g4 : i.op = 14
      · rw [if_pos g4] at hI0
        refine cond_true' (beq_eq' g4) ⟨_, X1.x.c2, ?_⟩
        have hy : 0 ≤ IntKind.wrap .u64 (i.y - 1) ∧ IntKind.wrap .u64 (i.y - 1) ≤ 18446744073709551615 := by rw [wrap_u64_mod]; omega
        refine (u_spec hE1 _ hy.1 hy.2 (by omega)).into (fun w2 g2 u2 hE2 hS2 => ⟨rfl, _, (X1.step hS2).x.c1, ?_⟩)
        have q := uleb_len (IntKind.wrap .u64 (i.y - 1))
        rw [wrap_u64 (x := i.x) (by omega) (by omega)]
        exact tab_loop hi hn htb R _ (fun w' g' u hE hS => fin hI0 w' g' u hE hS) (n + 1) i.x w2 _ g2 u2 (by omega) (by omega) (by omega) hE2 (W1.trans hS2) (X1.step hS2) (hT1.step hS2) (by simp; omega) (by rw [List.append_assoc])
      · rw [if_neg g4] at hI0
        refine cond_false' (beq_ne g4) ?_
        have L6 : ∀ {app pre : List Int} w2 g2 u2, insT i n tabs = pre ++ [0] → EW w2 wb (l1 ++ pre) g2 u2 → WS w w2 wb g g2 → pre.length ≤ 10 → bin_writer_ins.L6 (some ⟨wb, 0, none⟩) R (fun _ _ => False) w2 := by
          intro app pre w2 g2 u2 ha hE hS hp
          refine bin_writer_ins.step6 _ _ _ _ ?_
          unfold bin_writer_ins.V6
          exact put1 hE _ (by simp; omega) (fun w3 g3 u3 hE3 hS3 => fin ha w3 g3 u3 (by rw [← List.append_assoc]; exact hE3) (hS.trans hS3))
        by_cases g5 : i.op = 17
        · rw [if_pos g5] at hI0
          refine cond_true' (beq_eq' g5) ⟨_, X1.x.c1, ?_⟩
          rw [wrap_u64 (x := i.x) (by omega) (by omega)]
          exact (u_spec hE1 _ (by omega) (by omega) (by omega)).into (fun w2 g2 u2 hE2 hS2 => ⟨rfl, L6 (app := []) w2 g2 u2 hI0 hE2 (W1.trans hS2) (uleb_len _)⟩)
        · rw [if_neg g5] at hI0
          refine cond_false' (beq_ne g5) ?_
          by_cases g6 : i.op = 63 ∨ i.op = 64
          · rw [if_pos g6] at hI0
            have hl6 := L6 (app := []) (pre := []) w1 g1 u1 (by rw [hI0]; rfl) (by rw [List.append_nil]; exact hE1) W1 (by simp)
            refine cond_intro (fun _ => hl6) (fun a0 => cond_intro (fun _ => hl6) (fun a1 => ?_))
            exfalso
            rw [beq_eq_false_iff_ne] at a0 a1
            rcases g6 with k | k
            · exact a0 k
            · exact a1 k
          · rw [if_neg g6] at hI0
            refine cond_false' (beq_ne (by omega)) (cond_false' (beq_ne (by omega)) ?_)
            refine bin_writer_ins.step7 _ _ _ _ _ _ ?_
            unfold bin_writer_ins.V7
            by_cases g7 : i.op = 65
            · rw [if_pos g7] at hI0
              refine cond_true' (beq_eq' g7) ⟨_, X1.x.c2, ?_⟩
              have hr : -9223372036854775808 ≤ IntKind.wrap .i64 (IntKind.wrap .i32 (IntKind.wrap .u32 i.y)) ∧ IntKind.wrap .i64 (IntKind.wrap .i32 (IntKind.wrap .u32 i.y)) ≤ 9223372036854775807 := wrap_i64_rng _
              exact (s_spec hE1 _ hr.1 hr.2 (by omega)).into (fun w2 g2 u2 hE2 hS2 => ⟨rfl, fin hI0 w2 g2 u2 hE2 (W1.trans hS2)⟩)
            rw [if_neg g7] at hI0
            refine cond_false' (beq_ne g7) ?_
            by_cases g8 : i.op = 66
            · rw [if_pos g8] at hI0
              refine cond_true' (beq_eq' g8) ⟨_, X1.x.c2, ?_⟩
              have hr := wrap_i64_rng i.y
              exact (s_spec hE1 _ hr.1 hr.2 (by omega)).into (fun w2 g2 u2 hE2 hS2 => ⟨rfl, fin hI0 w2 g2 u2 hE2 (W1.trans hS2)⟩)
            rw [if_neg g8] at hI0
            refine cond_false' (beq_ne g8) ?_
            by_cases g9 : i.op = 67
            · rw [if_pos g9] at hI0
              refine cond_true' (beq_eq' g9) ⟨_, X1.x.c2, ?_⟩
              exact (little_spec hE1 4 (by decide) _ (by omega)).into (fun w2 g2 u2 hE2 hS2 => ⟨rfl, fin hI0 w2 g2 u2 hE2 (W1.trans hS2)⟩)
            rw [if_neg g9] at hI0
            refine cond_false' (beq_ne g9) ?_
            by_cases g10 : i.op = 68
            · rw [if_pos g10] at hI0
              refine cond_true' (beq_eq' g10) ⟨_, X1.x.c2, ?_⟩
              exact (little_spec hE1 8 (by decide) _ (by omega)).into (fun w2 g2 u2 hE2 hS2 => ⟨rfl, fin hI0 w2 g2 u2 hE2 (W1.trans hS2)⟩)
            rw [if_neg g10] at hI0
            refine cond_false' (beq_ne g10) ⟨_, X1.x.c0, ?_⟩
            have L9 : ∀ tt : Bool, (tt = true ↔ (40 ≤ i.op ∧ i.op ≤ 62)) → bin_writer_ins.L9 (some ⟨wb, 0, none⟩) xb tt R (fun _ _ => False) w1 := by
              intro tt htt
              refine bin_writer_ins.step9 _ _ _ _ _ _ ?_
              unfold bin_writer_ins.V9
              refine cond_intro (fun gt => ?_) (fun gt => ?_)
              · rw [if_pos (htt.1 gt)] at hI0
                refine ⟨_, X1.x.c1, ?_⟩
                rw [wrap_u64 (x := i.x) (by omega) (by omega)]
                refine (u_spec hE1 _ (by omega) (by omega) (by omega)).into (fun w2 g2 u2 hE2 hS2 => ⟨rfl, _, (X1.step hS2).x.c2, ?_⟩)
                have q := uleb_len i.x
                exact (u_spec hE2 _ (by omega) (by omega) (by simp; omega)).into (fun w3 g3 u3 hE3 hS3 => ⟨rfl, fin hI0 w3 g3 u3 (by rw [← List.append_assoc]; exact hE3) ((W1.trans hS2).trans hS3)⟩)
              · rw [if_neg (fun u => by rw [htt.2 u] at gt; cases gt)] at hI0
                exact fin hI0 w1 g1 u1 (by rw [List.append_nil]; exact hE1) W1
            refine cond_intro (fun a => ⟨_, X1.x.c0, L9 _ ?_⟩) (fun a => L9 _ ?_)
            · have a' := of_decide_eq_true a
              exact ⟨fun u => ⟨a', of_decide_eq_true u⟩, fun u => decide_eq_true u.2⟩
            · have a' := of_decide_eq_false a
              exact ⟨fun u => (by cases u), fun u => absurd u.1 a'⟩

/-! ### konst -/
def konE (i : Ins) : List Int := insE i 0 (fun _ => 0) ++ [11]
theorem konE_len (i : Ins) : (konE i).length ≤ 280 := by
  unfold konE
  have := insE_len i 0 (by decide) (fun _ => 0)
  simp only [List.length_append, List.length_cons, List.length_nil]; omega
theorem konst_spec {w : World} {wb : Nat} {l : List Int} {g : Option Nat} {ev : Value} (h : EW w wb l g ev) (i : Ins) (hi : InsIn i) (hb : l.length + 600 ≤ 1000000) : Writes bin_writer_konst.id #[rp wb, insV i] w wb l g (konE i) := by
  refine bin_writer_konst.enter _ i.op i.x i.y _ _ _ ?_
  unfold bin_writer_konst.V
  refine letB_intro fun xb hxb => letW_intro fun w9 hw9 => ?_
  have S9 : Same [] w.heap.size w w9 := by rw [hw9]; exact (Same.refl _ _ _).alloc (Nat.le_refl _) _
  have c0 : w9.cell? ⟨xb, 0, none⟩ = some (.int .u8 i.op) := by rw [hw9, hxb, World.cell?_alloc_new]; rfl
  have c1 : w9.cell? ⟨xb, 1, none⟩ = some (.int .u32 i.x) := by rw [hw9, hxb, World.cell?_alloc_new]; rfl
  have c2 : w9.cell? ⟨xb, 2, none⟩ = some (.int .u64 i.y) := by rw [hw9, hxb, World.cell?_alloc_new]; rfl
  have h9 := h.same S9 (by simp) (by simp)
  refine ⟨_, _, _, c0, c1, c2, ?_⟩
  have q := insE_len i 0 (by decide) (fun _ => 0)
  refine (ins_spec h9 i hi (ta := none) (n := 0) (tc := 0) (by decide) (tabs := fun _ => 0) (fun j hj => by omega) (.inl ⟨rfl, rfl⟩) (by omega)).into (fun w1 g1 u1 hE1 hS1 => ⟨rfl, ?_⟩)
  refine put1 hE1 _ (by simp; omega) (fun w2 g2 u2 hE2 hS2 => ⟨rfl, g2, u2, ?_, ((WS.of wb g S9).trans hS1).trans hS2⟩)
  unfold konE
  rw [← List.append_assoc]; exact hE2

end Go.Proofs.Qxb6500316a
