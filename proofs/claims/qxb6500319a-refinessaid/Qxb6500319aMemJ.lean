/-
  Package memlaw, sixth part: the walk over the script; Keeps.
-/
import Derived.Test.Qxb6500319aMemI
set_option linter.unusedSimpArgs false
set_option linter.unusedVariables false
set_option maxRecDepth 100000
namespace Go.Proofs.Qxb6500319a
open Go Go.Vc

/-- A step lies in six cells. -/
structure OpCells (w : World) (b off : Nat) (o : OpV) : Prop where
  c0 : w.cell? ⟨b, off, none⟩ = some (.int .i64 o.kind)
  c1 : w.cell? ⟨b, off + 1, none⟩ = some (.int .i64 o.a)
  c2 : w.cell? ⟨b, off + 2, none⟩ = some (.int .i64 o.b)
  c3 : w.cell? ⟨b, off + 3, none⟩ = some (.int .i64 o.c)
  c4 : w.cell? ⟨b, off + 4, none⟩ = some (.string o.s)
  c5 : w.cell? ⟨b, off + 5, none⟩ = some (.string o.t)

theorem OpCells.same {w w' : World} {b off : Nat} {o : OpV} (h : OpCells w b off o) (hs : Same [] w.heap.size w w') : OpCells w' b off o := by
  have hb : b < w.heap.size := cell_lt h.c0
  exact ⟨by rw [hs.cell hb (by simp)]; exact h.c0, by rw [hs.cell hb (by simp)]; exact h.c1, by rw [hs.cell hb (by simp)]; exact h.c2, by rw [hs.cell hb (by simp)]; exact h.c3, by rw [hs.cell hb (by simp)]; exact h.c4, by rw [hs.cell hb (by simp)]; exact h.c5⟩

structure OpV.Full (o : OpV) : Prop where
  k0 : -9223372036854775808 ≤ o.kind
  k1 : o.kind ≤ 9223372036854775807
  a0 : -9223372036854775808 ≤ o.a
  a1 : o.a ≤ 9223372036854775807
  b0 : -9223372036854775808 ≤ o.b
  b1 : o.b ≤ 9223372036854775807
  c0 : -9223372036854775808 ≤ o.c
  c1 : o.c ≤ 9223372036854775807
  s : o.s.size ≤ 9223372036854775807
  t : o.t.size ≤ 9223372036854775807

theorem OpV.Full.In {o : OpV} (h : o.Full) : o.In := ⟨h.a1, h.b1, h.s⟩

/-- A script of len steps that lies in memory. -/
def ScriptAt (w : World) (a : Option Addr) (len : Nat) : Prop :=
  len = 0 ∨ ∃ b off, a = some ⟨b, off, none⟩ ∧ ∀ i, i < len → ∃ o : OpV, o.Full ∧ OpCells w b (off + i * 6) o

/-! ### The walk -/
structure LCtx (w0 w : World) (p q bp bq gp gq : Nat) (s sb : MS) : Prop where
  m : MSAt w p q s
  W : s.Wf
  G : GAt w gp gq s
  B : MSAt w bp bq sb
  V : sb.Wf
  S : Same [] w0.heap.size w0 w
  lp : w0.heap.size ≤ p
  lq : w0.heap.size ≤ q
  lg : w0.heap.size ≤ gp
  lh : w0.heap.size ≤ gq
  n1 : p ≠ gp
  n2 : p ≠ gq
  n3 : q ≠ gp
  n4 : q ≠ gq
  d1 : bp ≠ p
  d2 : bp ≠ q
  d3 : bp ≠ gp
  d4 : bp ≠ gq
  e1 : bq ≠ p
  e2 : bq ≠ q
  e3 : bq ≠ gp
  e4 : bq ≠ gq

theorem LCtx.kept {w0 w w1 : World} {p q bp bq gp gq : Nat} {s s' sb : MS} (h : LCtx w0 w p q bp bq gp gq s sb) (hW : s'.Wf) (hm : MSAt w1 p q s') (hg : GAt w1 gp gq s') (hS : Same [p, q, gp, gq] w.heap.size w w1) : LCtx w0 w1 p q bp bq gp gq s' sb := by
  have h1 := h.lp; have h2 := h.lq; have h3 := h.lg; have h4 := h.lh
  have d1 := h.d1; have d2 := h.d2; have d3 := h.d3; have d4 := h.d4; have e1 := h.e1; have e2 := h.e2; have e3 := h.e3; have e4 := h.e4
  exact ⟨hm, hW, hg, h.B.same hS h.B.plt h.B.qlt (by simp; omega) (by simp; omega), h.V, h.S.trans (hS.mono h.S.size (by intro k hk hlt; simp at hk; omega)), h1, h2, h3, h4, h.n1, h.n2, h.n3, h.n4, d1, d2, d3, d4, e1, e2, e3, e4⟩

theorem LCtx.keep {w0 w w1 : World} {p q bp bq gp gq : Nat} {s sb : MS} (h : LCtx w0 w p q bp bq gp gq s sb) (hS : Same [] w.heap.size w w1) : LCtx w0 w1 p q bp bq gp gq s sb :=
  ⟨h.m.keep hS, h.W, h.G.keep hS, h.B.keep hS, h.V, h.S.trans (hS.mono h.S.size (by simp)), h.lp, h.lq, h.lg, h.lh, h.n1, h.n2, h.n3, h.n4, h.d1, h.d2, h.d3, h.d4, h.e1, h.e2, h.e3, h.e4⟩

theorem KeepsUpTo_loop (w0 : World) (p q bp bq gp gq : Nat) (sb : MS) (a : Option Addr) (l c : Nat) (hs : ScriptAt w0 a l) (R : Value → World → Prop) (hR : ∀ w', Same [] w0.heap.size w0 w' → R (.int .i64 (-1)) w') :
    ∀ (f i : Nat) (r : Int) (s : MS) (w : World), i + f = l → LCtx w0 w p q bp bq gp gq s sb →
      memlaw_KeepsUpTo.L1 a l c (some ⟨p, 0, none⟩) (some ⟨bp, 0, none⟩) sb.show (some ⟨gp, 0, none⟩) r i R w := by
  intro f
  induction f with
  | zero =>
    intro i r s w hi C
    refine memlaw_KeepsUpTo.step1 _ _ _ _ _ _ _ _ _ _ _ ?_
    unfold memlaw_KeepsUpTo.V1
    exact cond_false' (by simp; omega) (hR w C.S)
  | succ f ih =>
    intro i r s w hi C
    refine memlaw_KeepsUpTo.step1 _ _ _ _ _ _ _ _ _ _ _ ?_
    unfold memlaw_KeepsUpTo.V1
    refine cond_true' (by simp; omega) ?_
    generalize hM : (4398046511104 : Int) = M
    refine cond_intro (fun hm => ?_) (fun hm => hR w C.S)
    subst hM
    have hm : (i : Int) < 4398046511104 := of_decide_eq_true hm
    rcases hs with h0 | ⟨b, off, rfl, hs⟩
    · omega
    obtain ⟨o, hF, hO0⟩ := hs i (by omega)
    have hO := hO0.same C.S
    have L3 : ∀ r' : Int, memlaw_KeepsUpTo.L3 (some ⟨b, off, none⟩) l c (some ⟨p, 0, none⟩) (some ⟨bp, 0, none⟩) sb.show (some ⟨gp, 0, none⟩) r' i R w := by
      intro r'
      refine memlaw_KeepsUpTo.step3 _ _ _ _ _ _ _ _ _ _ _ ?_
      unfold memlaw_KeepsUpTo.V3
      simp only [nilV_some, add_mk, Int.toNat_natCast]
      refine ⟨by omega, _, _, _, _, _, _, hO.c0, hO.c1, hO.c2, hO.c3, hO.c4, hO.c5, ?_⟩
      refine (Kept_spec w p q gp gq s C.m C.G C.W r' o hF.In C.n1 C.n2 C.n3 C.n4).mono ?_
      rintro v w1 ⟨rfl, hm1, hg1, hS1⟩
      have C1 := C.kept (act_wf s C.W r' o hF.In) hm1 hg1 hS1
      refine ⟨_, rfl, cond_false' rfl ?_⟩
      refine (Show_spec w1 bp bq sb C1.B C1.V).mono ?_
      rintro v w2 ⟨rfl, hS2⟩
      have C2 := C1.keep hS2
      refine ⟨_, rfl, cond_false' (by rw [toList_beq]; rfl) ?_⟩
      refine (Check_spec w2 bp bq sb C2.B C2.V).mono ?_
      rintro v w3 ⟨rfl, hS3⟩
      have C3 := C2.keep hS3
      refine ⟨_, rfl, cond_false' rfl ?_⟩
      have e : IntKind.wrap .i64 ((i : Int) + 1) = ((i + 1 : Nat) : Int) := by rw [wrap_i64 (by omega) (by omega)]; omega
      rw [e]
      exact ih (i + 1) r' _ w3 (by omega) C3
    refine memlaw_KeepsUpTo.step2 _ _ _ _ _ _ _ _ _ _ _ ?_
    unfold memlaw_KeepsUpTo.V2
    simp only [nilV_some, add_mk, Int.toNat_natCast]
    refine ⟨by omega, _, hO.c0, cond_intro (fun _ => ⟨by omega, _, hO.c1, L3 _⟩) (fun _ => L3 _)⟩

theorem KeepsUpTo_spec (w : World) (a : Option Addr) (l c : Nat) (hs : ScriptAt w a l) :
    Runs Try.prog memlaw_KeepsUpTo.id #[.slice a l c] w fun v w' => v = .int .i64 (-1) ∧ Same [] w.heap.size w w' := by
  refine memlaw_KeepsUpTo.enter _ _ _ _ _ ?_
  generalize hRd : (fun (v : Value) (w' : World) => v = .int .i64 (-1) ∧ Same [] w.heap.size w w') = R
  unfold memlaw_KeepsUpTo.V
  refine (New_spec w).mono ?_
  rintro v w5 ⟨rfl, hm5, hS5, hz5⟩
  refine ⟨_, rfl, ?_⟩
  refine (New_spec w5).mono ?_
  rintro v w8 ⟨rfl, hb8, hS8, hz8⟩
  refine ⟨_, rfl, ?_⟩
  have hm8 := hm5.keep hS8
  refine (Reset_spec w8 _ _ ms0 hb8 1 (-1) 1 1 (by omega)).mono ?_
  rintro v w11 ⟨rfl, hb11, hS11⟩
  refine ⟨_, rfl, ?_⟩
  have W1 := reset_wf ms0 ms0_wf 1 (-1) 1 1
  generalize hs1 : (ms0.reset 1 (-1) 1 1).2 = s1 at hb11 W1
  refine (Save_spec w11 _ _ s1 hb11 W1 58 0 0 165 (by omega) (by omega) (by omega) (by omega) (by omega) (by omega)).mono ?_
  rintro v w14 ⟨rfl, hb14, hS14⟩
  refine ⟨_, rfl, ?_⟩
  have W2 := save_wf s1 W1 58 (0 + 0) 165
  generalize (s1.save 58 (0 + 0) 165).2 = s2 at hb14 W2
  refine (SetElem_spec w14 _ _ s2 hb14 W2 0 7 (by omega) (by omega)).mono ?_
  rintro v w17 ⟨rfl, hb17, hS17⟩
  refine ⟨_, rfl, ?_⟩
  have W3 := setElem_wf s2 W2 0 7 (by omega)
  generalize (s2.setElem 0 7).2 = s3 at hb17 W3
  refine (SetGlobal_spec w17 _ _ s3 hb17 W3 0 165).mono ?_
  rintro v w20 ⟨rfl, hb20, hS20⟩
  refine ⟨_, rfl, ?_⟩
  have W4 := setGlobal_wf s3 W3 0 165 (by omega) (by omega)
  generalize (s3.setGlobal 0 165).2 = s4 at hb20 W4
  refine (Show_spec w20 _ _ s4 hb20 W4).mono ?_
  rintro v w23 ⟨rfl, hS23⟩
  refine ⟨_, rfl, ?_⟩
  have hz11 := hS11.size; have hz14 := hS14.size; have hz17 := hS17.size; have hz20 := hS20.size; have hz23 := hS23.size
  have hm11 := hm8.same hS11 hm8.plt hm8.qlt (by simp <;> omega) (by simp <;> omega)
  have hm14 := hm11.same hS14 hm11.plt hm11.qlt (by simp <;> omega) (by simp <;> omega)
  have hm17 := hm14.same hS17 hm14.plt hm14.qlt (by simp <;> omega) (by simp <;> omega)
  have hm20 := hm17.same hS20 hm17.plt hm17.qlt (by simp <;> omega) (by simp <;> omega)
  have hm23 := hm20.keep hS23
  have hb23 := hb20.keep hS23
  have hSb : Same [] w.heap.size w w23 := by
    have a1 : Same [] w.heap.size w w8 := hS5.trans (hS8.mono (by omega) (by simp))
    have a2 : Same [] w.heap.size w8 w11 := hS11.mono (by omega) (by intro k hk hlt; simp at hk; omega)
    have a3 : Same [] w.heap.size w11 w14 := hS14.mono (by omega) (by intro k hk hlt; simp at hk; omega)
    have a4 : Same [] w.heap.size w14 w17 := hS17.mono (by omega) (by intro k hk hlt; simp at hk; omega)
    have a5 : Same [] w.heap.size w17 w20 := hS20.mono (by omega) (by intro k hk hlt; simp at hk; omega)
    have a6 : Same [] w.heap.size w20 w23 := hS23.mono (by omega) (by simp)
    exact ((((a1.trans a2).trans a3).trans a4).trans a5).trans a6
  have hE := T_sl_uint8.el
  have hr := run_make (P := Try.prog) w23 T_sl_uint8 T_uint8 _ _ hE.ht hE.hi hE.hz .i64 .i64 384 384 (by omega) (by omega) (by rw [hE.hby]; omega) (by omega)
  refine ⟨_, _, _, _, hr, ?_⟩
  rw [hE.hsize]
  have e384 : (Int.toNat 384) = 384 := rfl
  simp only [e384, Nat.mul_one]
  generalize hc : (Obj.cells (madeCells (Value.cells (.int .u8 0)) 384) T_uint8) = o1
  have hcell : ∀ j, j < 384 → (w23.alloc o1).cell? ⟨w23.heap.size, j, none⟩ = some (.int .u8 0) := fun j hj => by
    rw [← hc, World.cell?_alloc_new]; exact made_get _ _ _ hj
  have hfz : ∀ j, (w23.alloc o1).frozen? ⟨w23.heap.size, j, none⟩ = false := fun j => by rw [← hc, World.frozen?_alloc_new]
  have hz25 : (w23.alloc o1).heap.size = w23.heap.size + 1 := by simp
  refine letB_intro (fun b29 hb29 => letW_intro (fun w30 hw30 => ?_))
  have e29 : b29 = w23.heap.size + 1 := by rw [hb29, hz25]
  have hS30 : Same [] w23.heap.size w23 w30 := by
    rw [hw30]; exact ((Same.refl _ _ _).alloc (Nat.le_refl _) _).alloc (by simp) _
  have hn : ∀ j, w30.cell? ⟨b29, j, none⟩ = (#[(.bool false), (.int .i64 0), (.int .i64 0), (.int .i64 0), (.int .i64 0), (.slice (some ⟨w23.heap.size, 0, none⟩) 384 384), (.int .i64 0), (.int .i64 0), (.int .i64 0), (.int .i64 0), (.int .i64 0), (.int .i64 0), (.int .i64 0), (.int .i64 0), (.int .u64 0), (.int .u64 0), (.int .u64 0), (.int .u64 0)] : Array Value)[j]? := fun j => by
    rw [hw30, hb29, World.cell?_alloc_new]
  have ho : ∀ j, w30.cell? ⟨w23.heap.size, j, none⟩ = (w23.alloc o1).cell? ⟨w23.heap.size, j, none⟩ := fun j => by rw [hw30]; exact cell_alloc_old (by simp)
  have hG : GAt w30 b29 w23.heap.size ms0 :=
    { c0 := by rw [hn]; rfl, c1 := by rw [hn]; rfl, c2 := by rw [hn]; rfl, c3 := by rw [hn]; rfl, c4 := by rw [hn]; rfl, c5 := by rw [hn]; rfl
      ct := fun j hj => by
        rw [hn]
        have : j = 0 ∨ j = 1 ∨ j = 2 ∨ j = 3 ∨ j = 4 ∨ j = 5 ∨ j = 6 ∨ j = 7 := by omega
        rcases this with rfl | rfl | rfl | rfl | rfl | rfl | rfl | rfl <;> rfl
      cg := fun j hj => by
        rw [hn]
        have : j = 0 ∨ j = 1 ∨ j = 2 ∨ j = 3 := by omega
        rcases this with rfl | rfl | rfl | rfl <;> rfl
      cb := fun j hj => by rw [ho]; exact hcell j hj
      fp := fun j => by rw [hw30, hb29, World.frozen?_alloc_new]
      fq := fun j => by rw [hw30, frozen_alloc_old (by simp)]; exact hfz j
      ne := by omega }
  have C : LCtx w w30 (w.heap.size + 1) w.heap.size (w5.heap.size + 1) w5.heap.size b29 w23.heap.size ms0 s4 :=
    ⟨hm23.keep hS30, ms0_wf, hG, hb23.keep hS30, W4, hSb.trans (hS30.mono hSb.size (by simp)), by omega, by omega, by omega, by omega, by omega, by omega, by omega, by omega, by omega, by omega, by omega, by omega, by omega, by omega, by omega, by omega⟩
  refine (Kept_spec w30 _ _ b29 w23.heap.size ms0 C.m C.G C.W 0 ⟨0, 0, 0, 0, ⟨#[]⟩, ⟨#[]⟩⟩ ⟨by show (0 : Int) ≤ _; omega, by show (0 : Int) ≤ _; omega, by show ByteArray.size ⟨#[]⟩ ≤ _; decide⟩ C.n1 C.n2 C.n3 C.n4).mono ?_
  rintro v w32 ⟨rfl, hm32, hg32, hS32⟩
  have C1 := C.kept (act_wf ms0 ms0_wf 0 _ ⟨by show (0 : Int) ≤ _; omega, by show (0 : Int) ≤ _; omega, by show ByteArray.size ⟨#[]⟩ ≤ _; decide⟩) hm32 hg32 hS32
  refine ⟨_, rfl, cond_false' rfl ?_⟩
  exact KeepsUpTo_loop w _ _ _ _ b29 _ s4 a l c hs R (fun w' hw' => by subst hRd; exact ⟨rfl, hw'⟩) l 0 0 _ w32 (by omega) C1

theorem Keeps_spec (w : World) (a : Option Addr) (l c : Nat) (hs : ScriptAt w a l) :
    Runs Try.prog memlaw_Keeps.id #[.slice a l c] w fun v w' => v = .bool true ∧ Same [] w.heap.size w w' := by
  refine memlaw_Keeps.enter _ _ _ _ _ ?_
  unfold memlaw_Keeps.V
  refine (KeepsUpTo_spec w a l c hs).mono ?_
  rintro v w1 ⟨rfl, hS⟩
  exact ⟨_, rfl, rfl, hS⟩

end Go.Proofs.Qxb6500319a
