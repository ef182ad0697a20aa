/-
  The sections that lay a row; the limits.
-/
import Derived.Test.Qxb6500316aDcH
set_option linter.unusedSimpArgs false
set_option linter.unusedVariables false
set_option maxRecDepth 100000
set_option linter.unusedSectionVars false
namespace Go.Proofs.Qxb6500316a
open Go Go.Vc
variable [OutOf]

structure ImpV where
  md : ByteArray
  nm : ByteArray
  ty : Int
structure Glob where
  ty : Int
  mu : Bool
  init : Ins
structure ExpV where
  nm : ByteArray
  kind : Int
  idx : Int
structure DatV where
  off : Ins
  bytes : ByteArray
abbrev eB : ByteArray := ⟨#[]⟩
abbrev impE : ImpV → List Value := fun x => [.string x.md, .string x.nm, .int .i64 x.ty]
abbrev globE : Glob → List Value := fun x => [.int .u8 x.ty, .bool x.mu, .int .u8 x.init.op, .int .u32 x.init.x, .int .u64 x.init.y]
abbrev expE : ExpV → List Value := fun x => [.string x.nm, .int .u8 x.kind, .int .u32 x.idx]
abbrev datE : DatV → List Value := fun x => [.int .u8 x.off.op, .int .u32 x.off.x, .int .u64 x.off.y, .string x.bytes]

section
variable {w : World} {rb : Nat} {s : ByteArray} {p e b bi bt mb : Nat} {c : Sc} {m : Nat → Value}

/-! ### imports -/
def importsL (s : ByteArray) (e : Nat) : Nat → Nat → (Nat → ImpV) → Nat → Res (Nat → ImpV)
  | 0, _, f, p => .ok f p
  | k + 1, i, f, p => (nameP s e p).bind fun v0 q1 => (nameP s e q1).bind fun v1 q2 => (fixedP s e 0 q2).bind fun _ q3 => (u32P s e q3).bind fun v3 q4 => importsL s e k (i + 1) (upd f i ⟨v0, v1, v3⟩) q4
theorem importsL_succ (s : ByteArray) (e k i : Nat) (f : Nat → ImpV) (p : Nat) : importsL s e (k + 1) i f p = (nameP s e p).bind fun v0 q1 => (nameP s e q1).bind fun v1 q2 => (fixedP s e 0 q2).bind fun _ q3 => (u32P s e q3).bind fun v3 q4 => importsL s e k (i + 1) (upd f i ⟨v0, v1, v3⟩) q4 := rfl
def imports0 : Nat → ImpV := fun _ => ⟨eB, eB, 0⟩
def importsP (s : ByteArray) (e p : Nat) : Res (Nat × (Nat → ImpV)) := (countP s e 4 p).bind fun n q => (importsL s e n 0 imports0 q).bind fun f q2 => .ok (n, f) q2

theorem imports_loop {w0 : World} {n q0 p0 tb : Nat} (r : Res (Nat × (Nat → ImpV))) (hn : n ≤ 4) (hn0 : n ≠ 0) (htb : w0.heap.size ≤ tb) (hr0 : r = (importsL s e n 0 imports0 q0).bind fun t q2 => .ok (n, t) q2)
    (l0 : rb < w0.heap.size) (l1 : b < w0.heap.size) (l2 : bi < w0.heap.size) (l3 : bt < w0.heap.size) (l4 : mb < w0.heap.size) :
    ∀ (k i : Nat) (f : Nat → ImpV) (p : Nat) (w : World), i + k = n → SCtx w rb s p e b bi bt mb c m → RowF impE 3 w tb n f → tb < w.heap.size → p0 ≤ p → Same [rb, b, bi, bt, mb] w0.heap.size w0 w → importsL s e n 0 imports0 q0 = importsL s e k i f p →
      bin_reader_imports.L1 (some ⟨rb, 0, none⟩) (some ⟨mb, 0, none⟩) n (some ⟨tb, 0, none⟩) n n i (fun v w' => ∃ (a : Nat × (Nat → ImpV)) (q : Nat) (c' : Sc) (m' : Nat → Value), r = .ok a q ∧ v = .tuple #[] ∧ p0 ≤ q ∧ q ≤ e ∧ SCtx w' rb s q e b bi bt mb c' m' ∧ rowX impE 3 1 m c w0.heap.size a w' c' m' ∧ Same [rb, b, bi, bt, mb] w0.heap.size w0 w')
        (fun v w' => ∃ n a, r = .err n a ∧ v = faultV n a ∧ (∃ c', BinAt w' b bi bt c') ∧ Same [rb, b, bi, bt, mb] w0.heap.size w0 w') w := by
  intro k
  induction k with
  | zero =>
    intro i f p w hi x hT hl hp hS hu
    refine bin_reader_imports.step1 _ _ _ _ _ _ _ _ _ _ ?_
    unfold bin_reader_imports.V1
    refine cond_false' (decide_eq_false (by omega)) ?_
    simp only [nilV_some, Nat.zero_add]
    refine ⟨x.md.can 1 (by decide), letW_intro fun w1 hw1 => ⟨(n, f), p, c, _, ?_, by trivial, hp, x.tx.pe, ?_, ⟨rfl, .inr ⟨hn0, tb, rfl, ?_, htb, ?_⟩⟩, ?_⟩⟩
    · rw [hr0, hu]; rfl
    · rw [hw1]; exact x.setm 1 (by decide) _
    · rw [hw1]; exact hT.same (same_set 1 _) hl (by simp; omega)
    · rw [hw1]; simpa [World.setCell] using hl
    · rw [hw1]; exact hS.setCell (.inr (by simp)) _
  | succ k ih =>
    intro i f p w hi x0 hT0 hl0 hp T0 hu
    rw [importsL_succ s e k] at hu
    have hx3 := x0.tx.sz
    refine bin_reader_imports.step1 _ _ _ _ _ _ _ _ _ _ ?_
    unfold bin_reader_imports.V1
    refine cond_true' (decide_eq_true (by omega)) ?_
    refine (name_spec x0.rd x0.tx).into (fun v0 q1 u0 hv0 ga0 gb0 gR0 gS0 => ⟨_, rfl, by omega, ?_⟩) (fun n a u hv gS => ⟨n, a, by rw [hr0, hu, hv]; rfl, rfl, x0.keep gS, T0.trans ((s4 gS).mono T0.size (fun k hk _ => hk))⟩)
    have x1 := x0.step gR0 gS0 gb0
    have T1 := T0.trans ((s4 gS0).mono T0.size (fun k hk _ => hk))
    have hT1 := hT0.same gS0 hl0 (by simp; omega)
    have hl1 : tb < u0.heap.size := by have := gS0.size; omega
    try simp only [nilV_some, Int.toNat_natCast, add_mk, Nat.zero_add]
    have hcan0 := hT1.can (fun _ => rfl) i 0 (by omega) (by decide)
    rw [Nat.add_zero] at hcan0
    refine ⟨hcan0, letW_intro fun u1 hw0 => ?_⟩
    have hT2 := hT1.set1 (fun _ => rfl) i 0 (by decide) (.string v0) ⟨v0, (f i).nm, (f i).ty⟩ rfl
    rw [Nat.add_zero] at hT2
    rw [← hw0] at hT2
    have SS0 : Same [tb] u0.heap.size u0 u1 := by rw [hw0]; exact same_set _ _
    have x2 : SCtx u1 rb s q1 e b bi bt mb c m := x1.other SS0 (by simp; omega) (by simp; omega) (by simp; omega) (by simp; omega) (by simp; omega)
    have T2 : Same [rb, b, bi, bt, mb] w0.heap.size w0 u1 := T1.trans (SS0.mono T1.size (by intro k hk hlt; simp at hk; omega))
    have hl2 : tb < u1.heap.size := by have := SS0.size; omega
    refine (name_spec x2.rd x2.tx).into (fun v1 q2 u2 hv1 ga1 gb1 gR1 gS1 => ⟨_, rfl, by omega, ?_⟩) (fun n a u hv gS => ⟨n, a, by rw [hr0, hu, hv0]; simp only [Res.bind]; rw [hv], rfl, x2.keep gS, T2.trans ((s4 gS).mono T2.size (fun k hk _ => hk))⟩)
    have x3 := x2.step gR1 gS1 gb1
    have T3 := T2.trans ((s4 gS1).mono T2.size (fun k hk _ => hk))
    have hT3 := hT2.same gS1 hl2 (by simp; omega)
    have hl3 : tb < u2.heap.size := by have := gS1.size; omega
    try simp only [nilV_some, Int.toNat_natCast, add_mk, Nat.zero_add]
    have hcan1 := hT3.can (fun _ => rfl) i 1 (by omega) (by decide)
    refine ⟨hcan1, letW_intro fun u3 hw1 => ?_⟩
    have hT4 := hT3.set1 (fun _ => rfl) i 1 (by decide) (.string v1) ⟨v0, v1, (f i).ty⟩ (by rw [upd_at]; rfl)
    rw [upd_upd] at hT4
    rw [← hw1] at hT4
    have SS1 : Same [tb] u2.heap.size u2 u3 := by rw [hw1]; exact same_set _ _
    have x4 : SCtx u3 rb s q2 e b bi bt mb c m := x3.other SS1 (by simp; omega) (by simp; omega) (by simp; omega) (by simp; omega) (by simp; omega)
    have T4 : Same [rb, b, bi, bt, mb] w0.heap.size w0 u3 := T3.trans (SS1.mono T3.size (by intro k hk hlt; simp at hk; omega))
    have hl4 : tb < u3.heap.size := by have := SS1.size; omega
    refine (fixed_spec x4.rd x4.tx 0).into (fun v2 q3 u4 hv2 ga2 gb2 gR2 gS2 => ⟨rfl, ?_⟩) (fun n a u hv gS => ⟨n, a, by rw [hr0, hu, hv0]; simp only [Res.bind]; rw [hv1]; simp only; rw [hv], rfl, x4.keep gS, T4.trans ((s4 gS).mono T4.size (fun k hk _ => hk))⟩)
    have x5 := x4.step gR2 gS2 gb2
    have T5 := T4.trans ((s4 gS2).mono T4.size (fun k hk _ => hk))
    have hT5 := hT4.same gS2 hl4 (by simp; omega)
    have hl5 : tb < u4.heap.size := by have := gS2.size; omega
    refine (u32_spec x5.rd x5.tx).into (fun v3 q4 u5 hv3 ga3 gb3 gR3 gS3 => ⟨_, rfl, by omega, ?_⟩) (fun n a u hv gS => ⟨n, a, by rw [hr0, hu, hv0]; simp only [Res.bind]; rw [hv1]; simp only; rw [hv2]; simp only; rw [hv], rfl, x5.keep gS, T5.trans ((s4 gS).mono T5.size (fun k hk _ => hk))⟩)
    have x6 := x5.step gR3 gS3 gb3
    have T6 := T5.trans ((s4 gS3).mono T5.size (fun k hk _ => hk))
    have hT6 := hT5.same gS3 hl5 (by simp; omega)
    have hl6 : tb < u5.heap.size := by have := gS3.size; omega
    obtain ⟨rg0, rg1⟩ := u32P_rng hv3
    try simp only [nilV_some, Int.toNat_natCast, add_mk, Nat.zero_add]
    rw [wrap_i64 (x := v3) (by omega) (by omega)]
    have hcan3 := hT6.can (fun _ => rfl) i 2 (by omega) (by decide)
    refine ⟨hcan3, letW_intro fun u6 hw3 => ?_⟩
    have hT7 := hT6.set1 (fun _ => rfl) i 2 (by decide) (.int .i64 v3) ⟨v0, v1, v3⟩ (by rw [upd_at]; rfl)
    rw [upd_upd] at hT7
    rw [← hw3] at hT7
    have SS3 : Same [tb] u5.heap.size u5 u6 := by rw [hw3]; exact same_set _ _
    have x7 : SCtx u6 rb s q4 e b bi bt mb c m := x6.other SS3 (by simp; omega) (by simp; omega) (by simp; omega) (by simp; omega) (by simp; omega)
    have T7 : Same [rb, b, bi, bt, mb] w0.heap.size w0 u6 := T6.trans (SS3.mono T6.size (by intro k hk hlt; simp at hk; omega))
    have hl7 : tb < u6.heap.size := by have := SS3.size; omega
    have e2 : IntKind.wrap .i64 ((i : Int) + 1) = ((i + 1 : Nat) : Int) := by rw [wrap_i64 (by omega) (by omega)]; omega
    rw [e2]
    exact ih (i + 1) _ q4 _ (by omega) x7 hT7 hl7 (by omega) T7 (by rw [hu, hv0]; simp only [Res.bind]; rw [hv1]; simp only; rw [hv2]; simp only; rw [hv3])

theorem imports_spec (x : SCtx w rb s p e b bi bt mb c m) : SecRuns bin_reader_imports.id w rb s p e b bi bt mb (importsP s e p) (rowX impE 3 1 m c w.heap.size) := by
  refine bin_reader_imports.enter _ _ _ _ _ ?_
  unfold bin_reader_imports.V
  refine (count_spec x.rd x.tx 4).into (fun n q w1 hn h1 h2 hR hS => ⟨_, rfl, ?_⟩) (fun n a w1 hn hS => ⟨n, a, by unfold importsP; rw [hn]; rfl, rfl, x.keep hS, s4 hS⟩)
  have hle := countP_le hn
  have x1 := x.step hR hS h2
  have hP : importsP s e p = (importsL s e n 0 imports0 q).bind fun f q2 => .ok (n, f) q2 := by unfold importsP; rw [hn]; rfl
  by_cases hn0 : n = 0
  · subst hn0
    exact cond_true' rfl ⟨(0, imports0), q, c, m, by rw [hP]; rfl, rfl, h1, h2, x1, ⟨rfl, .inl ⟨rfl, rfl⟩⟩, s4 hS⟩
  · refine cond_false' (by rw [beq_eq_false_iff_ne]; omega) ?_
    obtain ⟨w2, hm, hc, hf, hS2, hl⟩ := make_rows T_sl_api_Import.el w1 n (by omega) (by decide)
    refine ⟨_, _, _, w2, hm, ?_⟩
    have x2 : SCtx w2 rb s q e b bi bt mb c m := x1.other hS2 (by simp) (by simp) (by simp) (by simp) (by simp)
    have hT : RowF impE 3 w2 w1.heap.size n imports0 := rows_made (z := .agg #[.string ⟨#[]⟩, .string ⟨#[]⟩, .int .i64 0]) (⟨eB, eB, 0⟩ : ImpV) (fun k v hv => by
      match k, hv with
      | 0, hv => exact ⟨by decide, by (first | (injection hv with z__; injection z__) | injection hv)⟩
      | 1, hv => exact ⟨by decide, by (first | (injection hv with z__; injection z__) | injection hv)⟩
      | 2, hv => exact ⟨by decide, by (first | (injection hv with z__; injection z__) | injection hv)⟩) hc hf
    have sz := hS.size
    exact imports_loop (c := c) (m := m) (w0 := w) (p0 := p) (importsP s e p) (by omega) hn0 sz hP x.rd.lt x.bn.ltb x.bn.lti x.bn.ltt x.md.lt n 0 _ q w2 (by omega) x2 hT hl h1 ((s4 hS).trans (hS2.mono sz (by simp))) rfl

/-! ### globs -/
def globsL (s : ByteArray) (e : Nat) : Nat → Nat → (Nat → Glob) → Nat → Res (Nat → Glob)
  | 0, _, f, p => .ok f p
  | k + 1, i, f, p => (valtypeP s e p).bind fun v0 q1 => (flagP s e 1 q1).bind fun v1 q2 => (constP s e q2).bind fun v2 q3 => globsL s e k (i + 1) (upd f i ⟨v0, v1 == 1, v2⟩) q3
theorem globsL_succ (s : ByteArray) (e k i : Nat) (f : Nat → Glob) (p : Nat) : globsL s e (k + 1) i f p = (valtypeP s e p).bind fun v0 q1 => (flagP s e 1 q1).bind fun v1 q2 => (constP s e q2).bind fun v2 q3 => globsL s e k (i + 1) (upd f i ⟨v0, v1 == 1, v2⟩) q3 := rfl
def globs0 : Nat → Glob := fun _ => ⟨0, false, ⟨0, 0, 0⟩⟩
def globsP (s : ByteArray) (e p : Nat) : Res (Nat × (Nat → Glob)) := (countP s e 4 p).bind fun n q => (globsL s e n 0 globs0 q).bind fun f q2 => .ok (n, f) q2

theorem globs_loop {w0 : World} {n q0 p0 tb : Nat} (r : Res (Nat × (Nat → Glob))) (hn : n ≤ 4) (hn0 : n ≠ 0) (htb : w0.heap.size ≤ tb) (hr0 : r = (globsL s e n 0 globs0 q0).bind fun t q2 => .ok (n, t) q2)
    (l0 : rb < w0.heap.size) (l1 : b < w0.heap.size) (l2 : bi < w0.heap.size) (l3 : bt < w0.heap.size) (l4 : mb < w0.heap.size) :
    ∀ (k i : Nat) (f : Nat → Glob) (p : Nat) (w : World), i + k = n → SCtx w rb s p e b bi bt mb c m → RowF globE 5 w tb n f → tb < w.heap.size → p0 ≤ p → Same [rb, b, bi, bt, mb] w0.heap.size w0 w → globsL s e n 0 globs0 q0 = globsL s e k i f p →
      bin_reader_globals.L1 (some ⟨rb, 0, none⟩) (some ⟨mb, 0, none⟩) n (some ⟨tb, 0, none⟩) n n i (fun v w' => ∃ (a : Nat × (Nat → Glob)) (q : Nat) (c' : Sc) (m' : Nat → Value), r = .ok a q ∧ v = .tuple #[] ∧ p0 ≤ q ∧ q ≤ e ∧ SCtx w' rb s q e b bi bt mb c' m' ∧ rowX globE 5 7 m c w0.heap.size a w' c' m' ∧ Same [rb, b, bi, bt, mb] w0.heap.size w0 w')
        (fun v w' => ∃ n a, r = .err n a ∧ v = faultV n a ∧ (∃ c', BinAt w' b bi bt c') ∧ Same [rb, b, bi, bt, mb] w0.heap.size w0 w') w := by
  intro k
  induction k with
  | zero =>
    intro i f p w hi x hT hl hp hS hu
    refine bin_reader_globals.step1 _ _ _ _ _ _ _ _ _ _ ?_
    unfold bin_reader_globals.V1
    refine cond_false' (decide_eq_false (by omega)) ?_
    simp only [nilV_some, Nat.zero_add]
    refine ⟨x.md.can 7 (by decide), letW_intro fun w1 hw1 => ⟨(n, f), p, c, _, ?_, by trivial, hp, x.tx.pe, ?_, ⟨rfl, .inr ⟨hn0, tb, rfl, ?_, htb, ?_⟩⟩, ?_⟩⟩
    · rw [hr0, hu]; rfl
    · rw [hw1]; exact x.setm 7 (by decide) _
    · rw [hw1]; exact hT.same (same_set 7 _) hl (by simp; omega)
    · rw [hw1]; simpa [World.setCell] using hl
    · rw [hw1]; exact hS.setCell (.inr (by simp)) _
  | succ k ih =>
    intro i f p w hi x0 hT0 hl0 hp T0 hu
    rw [globsL_succ s e k] at hu
    have hx3 := x0.tx.sz
    refine bin_reader_globals.step1 _ _ _ _ _ _ _ _ _ _ ?_
    unfold bin_reader_globals.V1
    refine cond_true' (decide_eq_true (by omega)) ?_
    refine (valtype_spec x0.rd x0.tx).into (fun v0 q1 u0 hv0 ga0 gb0 gR0 gS0 => ⟨_, rfl, by omega, ?_⟩) (fun n a u hv gS => ⟨n, a, by rw [hr0, hu, hv]; rfl, rfl, x0.keep gS, T0.trans ((s4 gS).mono T0.size (fun k hk _ => hk))⟩)
    have x1 := x0.step gR0 gS0 gb0
    have T1 := T0.trans ((s4 gS0).mono T0.size (fun k hk _ => hk))
    have hT1 := hT0.same gS0 hl0 (by simp; omega)
    have hl1 : tb < u0.heap.size := by have := gS0.size; omega
    try simp only [nilV_some, Int.toNat_natCast, add_mk, Nat.zero_add]
    have hcan0 := hT1.can (fun _ => rfl) i 0 (by omega) (by decide)
    rw [Nat.add_zero] at hcan0
    refine ⟨hcan0, letW_intro fun u1 hw0 => ?_⟩
    have hT2 := hT1.set1 (fun _ => rfl) i 0 (by decide) (.int .u8 v0) ⟨v0, (f i).mu, (f i).init⟩ rfl
    rw [Nat.add_zero] at hT2
    rw [← hw0] at hT2
    have SS0 : Same [tb] u0.heap.size u0 u1 := by rw [hw0]; exact same_set _ _
    have x2 : SCtx u1 rb s q1 e b bi bt mb c m := x1.other SS0 (by simp; omega) (by simp; omega) (by simp; omega) (by simp; omega) (by simp; omega)
    have T2 : Same [rb, b, bi, bt, mb] w0.heap.size w0 u1 := T1.trans (SS0.mono T1.size (by intro k hk hlt; simp at hk; omega))
    have hl2 : tb < u1.heap.size := by have := SS0.size; omega
    refine (flag_spec x2.rd x2.tx 1).into (fun v1 q2 u2 hv1 ga1 gb1 gR1 gS1 => ⟨_, rfl, by omega, ?_⟩) (fun n a u hv gS => ⟨n, a, by rw [hr0, hu, hv0]; simp only [Res.bind]; rw [hv], rfl, x2.keep gS, T2.trans ((s4 gS).mono T2.size (fun k hk _ => hk))⟩)
    have x3 := x2.step gR1 gS1 gb1
    have T3 := T2.trans ((s4 gS1).mono T2.size (fun k hk _ => hk))
    have hT3 := hT2.same gS1 hl2 (by simp; omega)
    have hl3 : tb < u2.heap.size := by have := gS1.size; omega
    try simp only [nilV_some, Int.toNat_natCast, add_mk, Nat.zero_add]
    have hcan1 := hT3.can (fun _ => rfl) i 1 (by omega) (by decide)
    refine ⟨hcan1, letW_intro fun u3 hw1 => ?_⟩
    have hT4 := hT3.set1 (fun _ => rfl) i 1 (by decide) (.bool (v1 == 1)) ⟨v0, v1 == 1, (f i).init⟩ (by rw [upd_at]; rfl)
    rw [upd_upd] at hT4
    rw [← hw1] at hT4
    have SS1 : Same [tb] u2.heap.size u2 u3 := by rw [hw1]; exact same_set _ _
    have x4 : SCtx u3 rb s q2 e b bi bt mb c m := x3.other SS1 (by simp; omega) (by simp; omega) (by simp; omega) (by simp; omega) (by simp; omega)
    have T4 : Same [rb, b, bi, bt, mb] w0.heap.size w0 u3 := T3.trans (SS1.mono T3.size (by intro k hk hlt; simp at hk; omega))
    have hl4 : tb < u3.heap.size := by have := SS1.size; omega
    refine (const_spec x4.rd x4.tx).into (fun v2 q3 u4 hv2 ga2 gb2 gR2 gS2 => ⟨_, _, _, rfl, by omega, ?_⟩) (fun n a u hv gS => ⟨n, a, by rw [hr0, hu, hv0]; simp only [Res.bind]; rw [hv1]; simp only; rw [hv], rfl, x4.keep gS, T4.trans ((s4 gS).mono T4.size (fun k hk _ => hk))⟩)
    have x5 := x4.step gR2 gS2 gb2
    have T5 := T4.trans ((s4 gS2).mono T4.size (fun k hk _ => hk))
    have hT5 := hT4.same gS2 hl4 (by simp; omega)
    have hl5 : tb < u4.heap.size := by have := gS2.size; omega
    try simp only [nilV_some, Int.toNat_natCast, add_mk, Nat.zero_add]
    refine hT5.put3 (fun _ => rfl) i 2 (by omega) (by decide) _ _ _ ⟨v0, v1 == 1, v2⟩ (by rw [upd_at]; rfl) (fun u5 hT6 hSS2 => ?_)
    rw [upd_upd] at hT6
    have SS2 : Same [tb] u4.heap.size u4 u5 := hSS2 _
    have x6 : SCtx u5 rb s q3 e b bi bt mb c m := x5.other SS2 (by simp; omega) (by simp; omega) (by simp; omega) (by simp; omega) (by simp; omega)
    have T6 : Same [rb, b, bi, bt, mb] w0.heap.size w0 u5 := T5.trans (SS2.mono T5.size (by intro k hk hlt; simp at hk; omega))
    have hl6 : tb < u5.heap.size := by have := SS2.size; omega
    have e2 : IntKind.wrap .i64 ((i : Int) + 1) = ((i + 1 : Nat) : Int) := by rw [wrap_i64 (by omega) (by omega)]; omega
    rw [e2]
    exact ih (i + 1) _ q3 _ (by omega) x6 hT6 hl6 (by omega) T6 (by rw [hu, hv0]; simp only [Res.bind]; rw [hv1]; simp only; rw [hv2])

theorem globs_spec (x : SCtx w rb s p e b bi bt mb c m) : SecRuns bin_reader_globals.id w rb s p e b bi bt mb (globsP s e p) (rowX globE 5 7 m c w.heap.size) := by
  refine bin_reader_globals.enter _ _ _ _ _ ?_
  unfold bin_reader_globals.V
  refine (count_spec x.rd x.tx 4).into (fun n q w1 hn h1 h2 hR hS => ⟨_, rfl, ?_⟩) (fun n a w1 hn hS => ⟨n, a, by unfold globsP; rw [hn]; rfl, rfl, x.keep hS, s4 hS⟩)
  have hle := countP_le hn
  have x1 := x.step hR hS h2
  have hP : globsP s e p = (globsL s e n 0 globs0 q).bind fun f q2 => .ok (n, f) q2 := by unfold globsP; rw [hn]; rfl
  by_cases hn0 : n = 0
  · subst hn0
    exact cond_true' rfl ⟨(0, globs0), q, c, m, by rw [hP]; rfl, rfl, h1, h2, x1, ⟨rfl, .inl ⟨rfl, rfl⟩⟩, s4 hS⟩
  · refine cond_false' (by rw [beq_eq_false_iff_ne]; omega) ?_
    obtain ⟨w2, hm, hc, hf, hS2, hl⟩ := make_rows T_sl_api_Global.el w1 n (by omega) (by decide)
    refine ⟨_, _, _, w2, hm, ?_⟩
    have x2 : SCtx w2 rb s q e b bi bt mb c m := x1.other hS2 (by simp) (by simp) (by simp) (by simp) (by simp)
    have hT : RowF globE 5 w2 w1.heap.size n globs0 := rows_made (z := .agg #[.int .u8 0, .bool false, .int .u8 0, .int .u32 0, .int .u64 0]) (⟨0, false, ⟨0, 0, 0⟩⟩ : Glob) (fun k v hv => by
      match k, hv with
      | 0, hv => exact ⟨by decide, by (first | (injection hv with z__; injection z__) | injection hv)⟩
      | 1, hv => exact ⟨by decide, by (first | (injection hv with z__; injection z__) | injection hv)⟩
      | 2, hv => exact ⟨by decide, by (first | (injection hv with z__; injection z__) | injection hv)⟩
      | 3, hv => exact ⟨by decide, by (first | (injection hv with z__; injection z__) | injection hv)⟩
      | 4, hv => exact ⟨by decide, by (first | (injection hv with z__; injection z__) | injection hv)⟩) hc hf
    have sz := hS.size
    exact globs_loop (c := c) (m := m) (w0 := w) (p0 := p) (globsP s e p) (by omega) hn0 sz hP x.rd.lt x.bn.ltb x.bn.lti x.bn.ltt x.md.lt n 0 _ q w2 (by omega) x2 hT hl h1 ((s4 hS).trans (hS2.mono sz (by simp))) rfl

/-! ### exports -/
def exportsL (s : ByteArray) (e : Nat) : Nat → Nat → (Nat → ExpV) → Nat → Res (Nat → ExpV)
  | 0, _, f, p => .ok f p
  | k + 1, i, f, p => (nameP s e p).bind fun v0 q1 => (flagP s e 3 q1).bind fun v1 q2 => (u32P s e q2).bind fun v2 q3 => exportsL s e k (i + 1) (upd f i ⟨v0, v1, v2⟩) q3
theorem exportsL_succ (s : ByteArray) (e k i : Nat) (f : Nat → ExpV) (p : Nat) : exportsL s e (k + 1) i f p = (nameP s e p).bind fun v0 q1 => (flagP s e 3 q1).bind fun v1 q2 => (u32P s e q2).bind fun v2 q3 => exportsL s e k (i + 1) (upd f i ⟨v0, v1, v2⟩) q3 := rfl
def exports0 : Nat → ExpV := fun _ => ⟨eB, 0, 0⟩
def exportsP (s : ByteArray) (e p : Nat) : Res (Nat × (Nat → ExpV)) := (countP s e 6 p).bind fun n q => (exportsL s e n 0 exports0 q).bind fun f q2 => .ok (n, f) q2

theorem exports_loop {w0 : World} {n q0 p0 tb : Nat} (r : Res (Nat × (Nat → ExpV))) (hn : n ≤ 6) (hn0 : n ≠ 0) (htb : w0.heap.size ≤ tb) (hr0 : r = (exportsL s e n 0 exports0 q0).bind fun t q2 => .ok (n, t) q2)
    (l0 : rb < w0.heap.size) (l1 : b < w0.heap.size) (l2 : bi < w0.heap.size) (l3 : bt < w0.heap.size) (l4 : mb < w0.heap.size) :
    ∀ (k i : Nat) (f : Nat → ExpV) (p : Nat) (w : World), i + k = n → SCtx w rb s p e b bi bt mb c m → RowF expE 3 w tb n f → tb < w.heap.size → p0 ≤ p → Same [rb, b, bi, bt, mb] w0.heap.size w0 w → exportsL s e n 0 exports0 q0 = exportsL s e k i f p →
      bin_reader_exports.L1 (some ⟨rb, 0, none⟩) (some ⟨mb, 0, none⟩) n (some ⟨tb, 0, none⟩) n n i (fun v w' => ∃ (a : Nat × (Nat → ExpV)) (q : Nat) (c' : Sc) (m' : Nat → Value), r = .ok a q ∧ v = .tuple #[] ∧ p0 ≤ q ∧ q ≤ e ∧ SCtx w' rb s q e b bi bt mb c' m' ∧ rowX expE 3 8 m c w0.heap.size a w' c' m' ∧ Same [rb, b, bi, bt, mb] w0.heap.size w0 w')
        (fun v w' => ∃ n a, r = .err n a ∧ v = faultV n a ∧ (∃ c', BinAt w' b bi bt c') ∧ Same [rb, b, bi, bt, mb] w0.heap.size w0 w') w := by
  intro k
  induction k with
  | zero =>
    intro i f p w hi x hT hl hp hS hu
    refine bin_reader_exports.step1 _ _ _ _ _ _ _ _ _ _ ?_
    unfold bin_reader_exports.V1
    refine cond_false' (decide_eq_false (by omega)) ?_
    simp only [nilV_some, Nat.zero_add]
    refine ⟨x.md.can 8 (by decide), letW_intro fun w1 hw1 => ⟨(n, f), p, c, _, ?_, by trivial, hp, x.tx.pe, ?_, ⟨rfl, .inr ⟨hn0, tb, rfl, ?_, htb, ?_⟩⟩, ?_⟩⟩
    · rw [hr0, hu]; rfl
    · rw [hw1]; exact x.setm 8 (by decide) _
    · rw [hw1]; exact hT.same (same_set 8 _) hl (by simp; omega)
    · rw [hw1]; simpa [World.setCell] using hl
    · rw [hw1]; exact hS.setCell (.inr (by simp)) _
  | succ k ih =>
    intro i f p w hi x0 hT0 hl0 hp T0 hu
    rw [exportsL_succ s e k] at hu
    have hx3 := x0.tx.sz
    refine bin_reader_exports.step1 _ _ _ _ _ _ _ _ _ _ ?_
    unfold bin_reader_exports.V1
    refine cond_true' (decide_eq_true (by omega)) ?_
    refine (name_spec x0.rd x0.tx).into (fun v0 q1 u0 hv0 ga0 gb0 gR0 gS0 => ⟨_, rfl, by omega, ?_⟩) (fun n a u hv gS => ⟨n, a, by rw [hr0, hu, hv]; rfl, rfl, x0.keep gS, T0.trans ((s4 gS).mono T0.size (fun k hk _ => hk))⟩)
    have x1 := x0.step gR0 gS0 gb0
    have T1 := T0.trans ((s4 gS0).mono T0.size (fun k hk _ => hk))
    have hT1 := hT0.same gS0 hl0 (by simp; omega)
    have hl1 : tb < u0.heap.size := by have := gS0.size; omega
    try simp only [nilV_some, Int.toNat_natCast, add_mk, Nat.zero_add]
    have hcan0 := hT1.can (fun _ => rfl) i 0 (by omega) (by decide)
    rw [Nat.add_zero] at hcan0
    refine ⟨hcan0, letW_intro fun u1 hw0 => ?_⟩
    have hT2 := hT1.set1 (fun _ => rfl) i 0 (by decide) (.string v0) ⟨v0, (f i).kind, (f i).idx⟩ rfl
    rw [Nat.add_zero] at hT2
    rw [← hw0] at hT2
    have SS0 : Same [tb] u0.heap.size u0 u1 := by rw [hw0]; exact same_set _ _
    have x2 : SCtx u1 rb s q1 e b bi bt mb c m := x1.other SS0 (by simp; omega) (by simp; omega) (by simp; omega) (by simp; omega) (by simp; omega)
    have T2 : Same [rb, b, bi, bt, mb] w0.heap.size w0 u1 := T1.trans (SS0.mono T1.size (by intro k hk hlt; simp at hk; omega))
    have hl2 : tb < u1.heap.size := by have := SS0.size; omega
    refine (flag_spec x2.rd x2.tx 3).into (fun v1 q2 u2 hv1 ga1 gb1 gR1 gS1 => ⟨_, rfl, by omega, ?_⟩) (fun n a u hv gS => ⟨n, a, by rw [hr0, hu, hv0]; simp only [Res.bind]; rw [hv], rfl, x2.keep gS, T2.trans ((s4 gS).mono T2.size (fun k hk _ => hk))⟩)
    have x3 := x2.step gR1 gS1 gb1
    have T3 := T2.trans ((s4 gS1).mono T2.size (fun k hk _ => hk))
    have hT3 := hT2.same gS1 hl2 (by simp; omega)
    have hl3 : tb < u2.heap.size := by have := gS1.size; omega
    try simp only [nilV_some, Int.toNat_natCast, add_mk, Nat.zero_add]
    have hcan1 := hT3.can (fun _ => rfl) i 1 (by omega) (by decide)
    refine ⟨hcan1, letW_intro fun u3 hw1 => ?_⟩
    have hT4 := hT3.set1 (fun _ => rfl) i 1 (by decide) (.int .u8 v1) ⟨v0, v1, (f i).idx⟩ (by rw [upd_at]; rfl)
    rw [upd_upd] at hT4
    rw [← hw1] at hT4
    have SS1 : Same [tb] u2.heap.size u2 u3 := by rw [hw1]; exact same_set _ _
    have x4 : SCtx u3 rb s q2 e b bi bt mb c m := x3.other SS1 (by simp; omega) (by simp; omega) (by simp; omega) (by simp; omega) (by simp; omega)
    have T4 : Same [rb, b, bi, bt, mb] w0.heap.size w0 u3 := T3.trans (SS1.mono T3.size (by intro k hk hlt; simp at hk; omega))
    have hl4 : tb < u3.heap.size := by have := SS1.size; omega
    refine (u32_spec x4.rd x4.tx).into (fun v2 q3 u4 hv2 ga2 gb2 gR2 gS2 => ⟨_, rfl, by omega, ?_⟩) (fun n a u hv gS => ⟨n, a, by rw [hr0, hu, hv0]; simp only [Res.bind]; rw [hv1]; simp only; rw [hv], rfl, x4.keep gS, T4.trans ((s4 gS).mono T4.size (fun k hk _ => hk))⟩)
    have x5 := x4.step gR2 gS2 gb2
    have T5 := T4.trans ((s4 gS2).mono T4.size (fun k hk _ => hk))
    have hT5 := hT4.same gS2 hl4 (by simp; omega)
    have hl5 : tb < u4.heap.size := by have := gS2.size; omega
    try simp only [nilV_some, Int.toNat_natCast, add_mk, Nat.zero_add]
    have hcan2 := hT5.can (fun _ => rfl) i 2 (by omega) (by decide)
    refine ⟨hcan2, letW_intro fun u5 hw2 => ?_⟩
    have hT6 := hT5.set1 (fun _ => rfl) i 2 (by decide) (.int .u32 v2) ⟨v0, v1, v2⟩ (by rw [upd_at]; rfl)
    rw [upd_upd] at hT6
    rw [← hw2] at hT6
    have SS2 : Same [tb] u4.heap.size u4 u5 := by rw [hw2]; exact same_set _ _
    have x6 : SCtx u5 rb s q3 e b bi bt mb c m := x5.other SS2 (by simp; omega) (by simp; omega) (by simp; omega) (by simp; omega) (by simp; omega)
    have T6 : Same [rb, b, bi, bt, mb] w0.heap.size w0 u5 := T5.trans (SS2.mono T5.size (by intro k hk hlt; simp at hk; omega))
    have hl6 : tb < u5.heap.size := by have := SS2.size; omega
    have e2 : IntKind.wrap .i64 ((i : Int) + 1) = ((i + 1 : Nat) : Int) := by rw [wrap_i64 (by omega) (by omega)]; omega
    rw [e2]
    exact ih (i + 1) _ q3 _ (by omega) x6 hT6 hl6 (by omega) T6 (by rw [hu, hv0]; simp only [Res.bind]; rw [hv1]; simp only; rw [hv2])

theorem exports_spec (x : SCtx w rb s p e b bi bt mb c m) : SecRuns bin_reader_exports.id w rb s p e b bi bt mb (exportsP s e p) (rowX expE 3 8 m c w.heap.size) := by
  refine bin_reader_exports.enter _ _ _ _ _ ?_
  unfold bin_reader_exports.V
  refine (count_spec x.rd x.tx 6).into (fun n q w1 hn h1 h2 hR hS => ⟨_, rfl, ?_⟩) (fun n a w1 hn hS => ⟨n, a, by unfold exportsP; rw [hn]; rfl, rfl, x.keep hS, s4 hS⟩)
  have hle := countP_le hn
  have x1 := x.step hR hS h2
  have hP : exportsP s e p = (exportsL s e n 0 exports0 q).bind fun f q2 => .ok (n, f) q2 := by unfold exportsP; rw [hn]; rfl
  by_cases hn0 : n = 0
  · subst hn0
    exact cond_true' rfl ⟨(0, exports0), q, c, m, by rw [hP]; rfl, rfl, h1, h2, x1, ⟨rfl, .inl ⟨rfl, rfl⟩⟩, s4 hS⟩
  · refine cond_false' (by rw [beq_eq_false_iff_ne]; omega) ?_
    obtain ⟨w2, hm, hc, hf, hS2, hl⟩ := make_rows T_sl_api_Export.el w1 n (by omega) (by decide)
    refine ⟨_, _, _, w2, hm, ?_⟩
    have x2 : SCtx w2 rb s q e b bi bt mb c m := x1.other hS2 (by simp) (by simp) (by simp) (by simp) (by simp)
    have hT : RowF expE 3 w2 w1.heap.size n exports0 := rows_made (z := .agg #[.string ⟨#[]⟩, .int .u8 0, .int .u32 0]) (⟨eB, 0, 0⟩ : ExpV) (fun k v hv => by
      match k, hv with
      | 0, hv => exact ⟨by decide, by (first | (injection hv with z__; injection z__) | injection hv)⟩
      | 1, hv => exact ⟨by decide, by (first | (injection hv with z__; injection z__) | injection hv)⟩
      | 2, hv => exact ⟨by decide, by (first | (injection hv with z__; injection z__) | injection hv)⟩) hc hf
    have sz := hS.size
    exact exports_loop (c := c) (m := m) (w0 := w) (p0 := p) (exportsP s e p) (by omega) hn0 sz hP x.rd.lt x.bn.ltb x.bn.lti x.bn.ltt x.md.lt n 0 _ q w2 (by omega) x2 hT hl h1 ((s4 hS).trans (hS2.mono sz (by simp))) rfl

/-! ### datas -/
def datasL (s : ByteArray) (e : Nat) : Nat → Nat → (Nat → DatV) → Nat → Res (Nat → DatV)
  | 0, _, f, p => .ok f p
  | k + 1, i, f, p => (fixedP s e 0 p).bind fun _ q1 => (constP s e q1).bind fun v1 q2 => (countP s e 24 q2).bind fun v2 q3 => (takeP s e v2 q3).bind fun v3 q4 => datasL s e k (i + 1) (upd f i ⟨v1, v3⟩) q4
theorem datasL_succ (s : ByteArray) (e k i : Nat) (f : Nat → DatV) (p : Nat) : datasL s e (k + 1) i f p = (fixedP s e 0 p).bind fun _ q1 => (constP s e q1).bind fun v1 q2 => (countP s e 24 q2).bind fun v2 q3 => (takeP s e v2 q3).bind fun v3 q4 => datasL s e k (i + 1) (upd f i ⟨v1, v3⟩) q4 := rfl
def datas0 : Nat → DatV := fun _ => ⟨⟨0, 0, 0⟩, eB⟩
def datasP (s : ByteArray) (e p : Nat) : Res (Nat × (Nat → DatV)) := (countP s e 3 p).bind fun n q => (datasL s e n 0 datas0 q).bind fun f q2 => .ok (n, f) q2

theorem datas_loop {w0 : World} {n q0 p0 tb : Nat} (r : Res (Nat × (Nat → DatV))) (hn : n ≤ 3) (hn0 : n ≠ 0) (htb : w0.heap.size ≤ tb) (hr0 : r = (datasL s e n 0 datas0 q0).bind fun t q2 => .ok (n, t) q2)
    (l0 : rb < w0.heap.size) (l1 : b < w0.heap.size) (l2 : bi < w0.heap.size) (l3 : bt < w0.heap.size) (l4 : mb < w0.heap.size) :
    ∀ (k i : Nat) (f : Nat → DatV) (p : Nat) (w : World), i + k = n → SCtx w rb s p e b bi bt mb c m → RowF datE 4 w tb n f → tb < w.heap.size → p0 ≤ p → Same [rb, b, bi, bt, mb] w0.heap.size w0 w → datasL s e n 0 datas0 q0 = datasL s e k i f p →
      bin_reader_datas.L1 (some ⟨rb, 0, none⟩) (some ⟨mb, 0, none⟩) n (some ⟨tb, 0, none⟩) n n i (fun v w' => ∃ (a : Nat × (Nat → DatV)) (q : Nat) (c' : Sc) (m' : Nat → Value), r = .ok a q ∧ v = .tuple #[] ∧ p0 ≤ q ∧ q ≤ e ∧ SCtx w' rb s q e b bi bt mb c' m' ∧ rowX datE 4 11 m c w0.heap.size a w' c' m' ∧ Same [rb, b, bi, bt, mb] w0.heap.size w0 w')
        (fun v w' => ∃ n a, r = .err n a ∧ v = faultV n a ∧ (∃ c', BinAt w' b bi bt c') ∧ Same [rb, b, bi, bt, mb] w0.heap.size w0 w') w := by
  intro k
  induction k with
  | zero =>
    intro i f p w hi x hT hl hp hS hu
    refine bin_reader_datas.step1 _ _ _ _ _ _ _ _ _ _ ?_
    unfold bin_reader_datas.V1
    refine cond_false' (decide_eq_false (by omega)) ?_
    simp only [nilV_some, Nat.zero_add]
    refine ⟨x.md.can 11 (by decide), letW_intro fun w1 hw1 => ⟨(n, f), p, c, _, ?_, by trivial, hp, x.tx.pe, ?_, ⟨rfl, .inr ⟨hn0, tb, rfl, ?_, htb, ?_⟩⟩, ?_⟩⟩
    · rw [hr0, hu]; rfl
    · rw [hw1]; exact x.setm 11 (by decide) _
    · rw [hw1]; exact hT.same (same_set 11 _) hl (by simp; omega)
    · rw [hw1]; simpa [World.setCell] using hl
    · rw [hw1]; exact hS.setCell (.inr (by simp)) _
  | succ k ih =>
    intro i f p w hi x0 hT0 hl0 hp T0 hu
    rw [datasL_succ s e k] at hu
    have hx3 := x0.tx.sz
    refine bin_reader_datas.step1 _ _ _ _ _ _ _ _ _ _ ?_
    unfold bin_reader_datas.V1
    refine cond_true' (decide_eq_true (by omega)) ?_
    refine (fixed_spec x0.rd x0.tx 0).into (fun v0 q1 u0 hv0 ga0 gb0 gR0 gS0 => ⟨rfl, ?_⟩) (fun n a u hv gS => ⟨n, a, by rw [hr0, hu, hv]; rfl, rfl, x0.keep gS, T0.trans ((s4 gS).mono T0.size (fun k hk _ => hk))⟩)
    have x1 := x0.step gR0 gS0 gb0
    have T1 := T0.trans ((s4 gS0).mono T0.size (fun k hk _ => hk))
    have hT1 := hT0.same gS0 hl0 (by simp; omega)
    have hl1 : tb < u0.heap.size := by have := gS0.size; omega
    refine (const_spec x1.rd x1.tx).into (fun v1 q2 u1 hv1 ga1 gb1 gR1 gS1 => ⟨_, _, _, rfl, by omega, ?_⟩) (fun n a u hv gS => ⟨n, a, by rw [hr0, hu, hv0]; simp only [Res.bind]; rw [hv], rfl, x1.keep gS, T1.trans ((s4 gS).mono T1.size (fun k hk _ => hk))⟩)
    have x2 := x1.step gR1 gS1 gb1
    have T2 := T1.trans ((s4 gS1).mono T1.size (fun k hk _ => hk))
    have hT2 := hT1.same gS1 hl1 (by simp; omega)
    have hl2 : tb < u1.heap.size := by have := gS1.size; omega
    try simp only [nilV_some, Int.toNat_natCast, add_mk, Nat.zero_add]
    have eq1 : i * 4 = i * 4 + 0 := rfl
    rw [eq1]
    refine hT2.put3 (fun _ => rfl) i 0 (by omega) (by decide) _ _ _ ⟨v1, (f i).bytes⟩ rfl (fun u2 hT3 hSS1 => ?_)
    have SS1 : Same [tb] u1.heap.size u1 u2 := hSS1 _
    have x3 : SCtx u2 rb s q2 e b bi bt mb c m := x2.other SS1 (by simp; omega) (by simp; omega) (by simp; omega) (by simp; omega) (by simp; omega)
    have T3 : Same [rb, b, bi, bt, mb] w0.heap.size w0 u2 := T2.trans (SS1.mono T2.size (by intro k hk hlt; simp at hk; omega))
    have hl3 : tb < u2.heap.size := by have := SS1.size; omega
    refine (count_spec x3.rd x3.tx 24).into (fun v2 q3 u3 hv2 ga2 gb2 gR2 gS2 => ⟨_, rfl, ?_⟩) (fun n a u hv gS => ⟨n, a, by rw [hr0, hu, hv0]; simp only [Res.bind]; rw [hv1]; simp only; rw [hv], rfl, x3.keep gS, T3.trans ((s4 gS).mono T3.size (fun k hk _ => hk))⟩)
    have x4 := x3.step gR2 gS2 gb2
    have T4 := T3.trans ((s4 gS2).mono T3.size (fun k hk _ => hk))
    have hT4 := hT3.same gS2 hl3 (by simp; omega)
    have hl4 : tb < u3.heap.size := by have := gS2.size; omega
    have hle2 := countP_le hv2
    refine (take_spec x4.rd x4.tx v2 (by omega)).into (fun v3 q4 u4 hv3 ga3 gb3 gR3 gS3 => ⟨_, rfl, by omega, ?_⟩) (fun n a u hv gS => ⟨n, a, by rw [hr0, hu, hv0]; simp only [Res.bind]; rw [hv1]; simp only; rw [hv2]; simp only; rw [hv], rfl, x4.keep gS, T4.trans ((s4 gS).mono T4.size (fun k hk _ => hk))⟩)
    have x5 := x4.step gR3 gS3 gb3
    have T5 := T4.trans ((s4 gS3).mono T4.size (fun k hk _ => hk))
    have hT5 := hT4.same gS3 hl4 (by simp; omega)
    have hl5 : tb < u4.heap.size := by have := gS3.size; omega
    try simp only [nilV_some, Int.toNat_natCast, add_mk, Nat.zero_add]
    have hcan3 := hT5.can (fun _ => rfl) i 3 (by omega) (by decide)
    refine ⟨hcan3, letW_intro fun u5 hw3 => ?_⟩
    have hT6 := hT5.set1 (fun _ => rfl) i 3 (by decide) (.string v3) ⟨v1, v3⟩ (by rw [upd_at]; rfl)
    rw [upd_upd] at hT6
    rw [← hw3] at hT6
    have SS3 : Same [tb] u4.heap.size u4 u5 := by rw [hw3]; exact same_set _ _
    have x6 : SCtx u5 rb s q4 e b bi bt mb c m := x5.other SS3 (by simp; omega) (by simp; omega) (by simp; omega) (by simp; omega) (by simp; omega)
    have T6 : Same [rb, b, bi, bt, mb] w0.heap.size w0 u5 := T5.trans (SS3.mono T5.size (by intro k hk hlt; simp at hk; omega))
    have hl6 : tb < u5.heap.size := by have := SS3.size; omega
    have e2 : IntKind.wrap .i64 ((i : Int) + 1) = ((i + 1 : Nat) : Int) := by rw [wrap_i64 (by omega) (by omega)]; omega
    rw [e2]
    exact ih (i + 1) _ q4 _ (by omega) x6 hT6 hl6 (by omega) T6 (by rw [hu, hv0]; simp only [Res.bind]; rw [hv1]; simp only; rw [hv2]; simp only; rw [hv3])

theorem datas_spec (x : SCtx w rb s p e b bi bt mb c m) : SecRuns bin_reader_datas.id w rb s p e b bi bt mb (datasP s e p) (rowX datE 4 11 m c w.heap.size) := by
  refine bin_reader_datas.enter _ _ _ _ _ ?_
  unfold bin_reader_datas.V
  refine (count_spec x.rd x.tx 3).into (fun n q w1 hn h1 h2 hR hS => ⟨_, rfl, ?_⟩) (fun n a w1 hn hS => ⟨n, a, by unfold datasP; rw [hn]; rfl, rfl, x.keep hS, s4 hS⟩)
  have hle := countP_le hn
  have x1 := x.step hR hS h2
  have hP : datasP s e p = (datasL s e n 0 datas0 q).bind fun f q2 => .ok (n, f) q2 := by unfold datasP; rw [hn]; rfl
  by_cases hn0 : n = 0
  · subst hn0
    exact cond_true' rfl ⟨(0, datas0), q, c, m, by rw [hP]; rfl, rfl, h1, h2, x1, ⟨rfl, .inl ⟨rfl, rfl⟩⟩, s4 hS⟩
  · refine cond_false' (by rw [beq_eq_false_iff_ne]; omega) ?_
    obtain ⟨w2, hm, hc, hf, hS2, hl⟩ := make_rows T_sl_api_Data.el w1 n (by omega) (by decide)
    refine ⟨_, _, _, w2, hm, ?_⟩
    have x2 : SCtx w2 rb s q e b bi bt mb c m := x1.other hS2 (by simp) (by simp) (by simp) (by simp) (by simp)
    have hT : RowF datE 4 w2 w1.heap.size n datas0 := rows_made (z := .agg #[.int .u8 0, .int .u32 0, .int .u64 0, .string ⟨#[]⟩]) (⟨⟨0, 0, 0⟩, eB⟩ : DatV) (fun k v hv => by
      match k, hv with
      | 0, hv => exact ⟨by decide, by (first | (injection hv with z__; injection z__) | injection hv)⟩
      | 1, hv => exact ⟨by decide, by (first | (injection hv with z__; injection z__) | injection hv)⟩
      | 2, hv => exact ⟨by decide, by (first | (injection hv with z__; injection z__) | injection hv)⟩
      | 3, hv => exact ⟨by decide, by (first | (injection hv with z__; injection z__) | injection hv)⟩) hc hf
    have sz := hS.size
    exact datas_loop (c := c) (m := m) (w0 := w) (p0 := p) (datasP s e p) (by omega) hn0 sz hP x.rd.lt x.bn.ltb x.bn.lti x.bn.ltt x.md.lt n 0 _ q w2 (by omega) x2 hT hl h1 ((s4 hS).trans (hS2.mono sz (by simp))) rfl

/-! ### table -/
def tableP (s : ByteArray) (e p : Nat) : Res (Option (Int × Int)) := (countP s e 1 p).bind fun n q => if n = 1 then (fixedP s e 112 q).bind fun _ q2 => (limitsP s e q2).bind fun x q3 => .ok (some x) q3 else .ok none q
theorem table_spec (x : SCtx w rb s p e b bi bt mb c m) : SecRuns bin_reader_table.id w rb s p e b bi bt mb (tableP s e p) (fun a _ c' m' => c' = c ∧ m' = match a with | none => m | some y => upd (upd m 3 (.int .i64 y.1)) 4 (.int .i64 y.2)) := by
  refine bin_reader_table.enter _ _ _ _ _ ?_
  unfold bin_reader_table.V
  refine (count_spec x.rd x.tx 1).into (fun n q w1 hn h1 h2 hR hS => ⟨_, rfl, ?_⟩) (fun n a w1 hn hS => ⟨n, a, by unfold tableP; rw [hn]; rfl, rfl, x.keep hS, s4 hS⟩)
  have x1 := x.step hR hS h2
  have T1 := s4 (b := b) (bi := bi) (bt := bt) (mb := mb) hS
  have hP : tableP s e p = if n = 1 then (fixedP s e 112 q).bind fun _ q2 => (limitsP s e q2).bind fun x q3 => .ok (some x) q3 else .ok none q := by unfold tableP; rw [hn]; rfl
  by_cases hn1 : n = 1
  · subst hn1
    rw [if_pos rfl] at hP
    refine cond_true' rfl ?_
    refine (fixed_spec x1.rd x1.tx 112).into (fun v0 q2 w2 hv g1 g2 gR gS => ⟨rfl, ?_⟩) (fun n a w2 hv gS => ⟨n, a, by rw [hP, hv]; rfl, rfl, x1.keep gS, T1.trans ((s4 gS).mono T1.size (fun k hk _ => hk))⟩)
    have x2 := x1.step gR gS g2
    have T2 := T1.trans ((s4 gS).mono T1.size (fun k hk _ => hk))
    have hP2 : tableP s e p = (limitsP s e q2).bind fun x q3 => .ok (some x) q3 := by rw [hP, hv]; rfl
    refine (limits_spec x2.rd x2.tx).into (fun y q3 w3 hy k1 k2 kR kS => ⟨_, _, rfl, ?_⟩) (fun n a w3 hy kS => ⟨n, a, by rw [hP2, hy]; rfl, rfl, x2.keep kS, T2.trans ((s4 kS).mono T2.size (fun k hk _ => hk))⟩)
    have x3 := x2.step kR kS k2
    have T3 := T2.trans ((s4 kS).mono T2.size (fun k hk _ => hk))
    simp only [nilV_some, Nat.zero_add]
    refine ⟨x3.md.can 3 (by decide), letW_intro fun w4 hw4 => ?_⟩
    have x4 := x3.setm 3 (by decide) (.int .i64 y.1)
    rw [← hw4] at x4
    refine ⟨x4.md.can 4 (by decide), letW_intro fun w5 hw5 => ?_⟩
    have x5 := x4.setm 4 (by decide) (.int .i64 y.2)
    rw [← hw5] at x5
    refine ⟨some y, q3, c, _, by rw [hP2, hy]; rfl, by trivial, by omega, k2, x5, ⟨rfl, rfl⟩, ?_⟩
    rw [hw5, hw4]
    exact (T3.setCell (.inr (by simp)) _).setCell (.inr (by simp)) _
  · rw [if_neg hn1] at hP
    refine cond_false' (by rw [beq_eq_false_iff_ne]; omega) ?_
    exact ⟨none, q, c, m, hP, rfl, h1, h2, x1, ⟨rfl, rfl⟩, T1⟩

/-! ### memory -/
def memoryP (s : ByteArray) (e p : Nat) : Res (Option (Int × Int)) := (countP s e 1 p).bind fun n q => if n = 1 then (limitsP s e q).bind fun x q3 => .ok (some x) q3 else .ok none q
theorem memory_spec (x : SCtx w rb s p e b bi bt mb c m) : SecRuns bin_reader_memory.id w rb s p e b bi bt mb (memoryP s e p) (fun a _ c' m' => c' = c ∧ m' = match a with | none => m | some y => upd (upd m 5 (.int .i64 y.1)) 6 (.int .i64 y.2)) := by
  refine bin_reader_memory.enter _ _ _ _ _ ?_
  unfold bin_reader_memory.V
  refine (count_spec x.rd x.tx 1).into (fun n q w1 hn h1 h2 hR hS => ⟨_, rfl, ?_⟩) (fun n a w1 hn hS => ⟨n, a, by unfold memoryP; rw [hn]; rfl, rfl, x.keep hS, s4 hS⟩)
  have x1 := x.step hR hS h2
  have T1 := s4 (b := b) (bi := bi) (bt := bt) (mb := mb) hS
  have hP : memoryP s e p = if n = 1 then (limitsP s e q).bind fun x q3 => .ok (some x) q3 else .ok none q := by unfold memoryP; rw [hn]; rfl
  by_cases hn1 : n = 1
  · subst hn1
    rw [if_pos rfl] at hP
    refine cond_true' rfl ?_
    obtain ⟨w2, hw2⟩ : ∃ w2, w2 = w1 := ⟨w1, rfl⟩
    have x2 := x1
    have T2 := T1
    have hP2 := hP
    have g1 := Nat.le_refl q
    refine (limits_spec x2.rd x2.tx).into (fun y q3 w3 hy k1 k2 kR kS => ⟨_, _, rfl, ?_⟩) (fun n a w3 hy kS => ⟨n, a, by rw [hP2, hy]; rfl, rfl, x2.keep kS, T2.trans ((s4 kS).mono T2.size (fun k hk _ => hk))⟩)
    have x3 := x2.step kR kS k2
    have T3 := T2.trans ((s4 kS).mono T2.size (fun k hk _ => hk))
    simp only [nilV_some, Nat.zero_add]
    refine ⟨x3.md.can 5 (by decide), letW_intro fun w4 hw4 => ?_⟩
    have x4 := x3.setm 5 (by decide) (.int .i64 y.1)
    rw [← hw4] at x4
    refine ⟨x4.md.can 6 (by decide), letW_intro fun w5 hw5 => ?_⟩
    have x5 := x4.setm 6 (by decide) (.int .i64 y.2)
    rw [← hw5] at x5
    refine ⟨some y, q3, c, _, by rw [hP2, hy]; rfl, by trivial, by omega, k2, x5, ⟨rfl, rfl⟩, ?_⟩
    rw [hw5, hw4]
    exact (T3.setCell (.inr (by simp)) _).setCell (.inr (by simp)) _
  · rw [if_neg hn1] at hP
    refine cond_false' (by rw [beq_eq_false_iff_ne]; omega) ?_
    exact ⟨none, q, c, m, hP, rfl, h1, h2, x1, ⟨rfl, rfl⟩, T1⟩

end

end Go.Proofs.Qxb6500316a
