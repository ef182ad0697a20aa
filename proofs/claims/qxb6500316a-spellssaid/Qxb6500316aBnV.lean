/-
  A script in memory; Spells.
-/
import Derived.Test.Qxb6500316aBnU
set_option linter.unusedSimpArgs false
set_option linter.unusedVariables false
set_option maxRecDepth 100000
namespace Go.Proofs.Qxb6500316a
open Go Go.Vc

/-- A step of the script. -/
structure OpV where
  kind : Int
  a : Int
  b : Int
  c : Int
  s : ByteArray
  t : ByteArray

def OpV.val (o : OpV) : Value := .agg #[.int .i64 o.kind, .int .i64 o.a, .int .i64 o.b, .int .i64 o.c, .string o.s, .string o.t]

structure OpV.In (o : OpV) : Prop where
  a : o.a ≤ 9223372036854775807
  b : o.b ≤ 9223372036854775807
  s : o.s.size ≤ 9223372036854775807

structure OpAt (w : World) (b : Nat) (o : OpV) : Prop where
  c0 : w.cell? ⟨b, 0, none⟩ = some (.int .i64 o.kind)
  c1 : w.cell? ⟨b, 1, none⟩ = some (.int .i64 o.a)
  c2 : w.cell? ⟨b, 2, none⟩ = some (.int .i64 o.b)
  c3 : w.cell? ⟨b, 3, none⟩ = some (.int .i64 o.c)
  c4 : w.cell? ⟨b, 4, none⟩ = some (.string o.s)
  c5 : w.cell? ⟨b, 5, none⟩ = some (.string o.t)

theorem OpAt.lt {w : World} {b : Nat} {o : OpV} (h : OpAt w b o) : b < w.heap.size := cell_lt h.c0
theorem OpAt.same {w w' : World} {b : Nat} {o : OpV} (h : OpAt w b o) {S : List Nat} {B : Nat} (hs : Same S B w w') (hb : b < B) (hS : b ∉ S) : OpAt w' b o :=
  ⟨by rw [hs.cell hb hS]; exact h.c0, by rw [hs.cell hb hS]; exact h.c1, by rw [hs.cell hb hS]; exact h.c2, by rw [hs.cell hb hS]; exact h.c3, by rw [hs.cell hb hS]; exact h.c4, by rw [hs.cell hb hS]; exact h.c5⟩
theorem OpAt.drew {w : World} {b : Nat} {o : OpV} (h : OpAt w b o) : OpAt w.drew b o := ⟨h.c0, h.c1, h.c2, h.c3, h.c4, h.c5⟩
theorem OpAt.new (w : World) (o : OpV) (t : TypeId) : OpAt (w.alloc (.cells #[.int .i64 o.kind, .int .i64 o.a, .int .i64 o.b, .int .i64 o.c, .string o.s, .string o.t] t)) w.heap.size o :=
  ⟨by rw [World.cell?_alloc_new]; rfl, by rw [World.cell?_alloc_new]; rfl, by rw [World.cell?_alloc_new]; rfl, by rw [World.cell?_alloc_new]; rfl, by rw [World.cell?_alloc_new]; rfl, by rw [World.cell?_alloc_new]; rfl⟩

/-- A step lies in six cells. -/
structure OpCells (w : World) (b off : Nat) (o : OpV) : Prop where
  c0 : w.cell? ⟨b, off, none⟩ = some (.int .i64 o.kind)
  c1 : w.cell? ⟨b, off + 1, none⟩ = some (.int .i64 o.a)
  c2 : w.cell? ⟨b, off + 2, none⟩ = some (.int .i64 o.b)
  c3 : w.cell? ⟨b, off + 3, none⟩ = some (.int .i64 o.c)
  c4 : w.cell? ⟨b, off + 4, none⟩ = some (.string o.s)
  c5 : w.cell? ⟨b, off + 5, none⟩ = some (.string o.t)

theorem OpCells.same {w w' : World} {b off : Nat} {o : OpV} (h : OpCells w b off o) (hs : Same [] w.heap.size w w') : OpCells w' b off o := by
  have hb : b < w.heap.size := cell_lt h.c0
  exact ⟨by rw [hs.cell hb (by simp)]; exact h.c0, by rw [hs.cell hb (by simp)]; exact h.c1, by rw [hs.cell hb (by simp)]; exact h.c2, by rw [hs.cell hb (by simp)]; exact h.c3, by rw [hs.cell hb (by simp)]; exact h.c4, by rw [hs.cell hb (by simp)]; exact h.c5⟩

structure OpV.Full (o : OpV) : Prop where
  k0 : -9223372036854775808 ≤ o.kind
  k1 : o.kind ≤ 9223372036854775807
  a0 : -9223372036854775808 ≤ o.a
  a1 : o.a ≤ 9223372036854775807
  b0 : -9223372036854775808 ≤ o.b
  b1 : o.b ≤ 9223372036854775807
  c0 : -9223372036854775808 ≤ o.c
  c1 : o.c ≤ 9223372036854775807
  s : o.s.size ≤ 9223372036854775807
  t : o.t.size ≤ 9223372036854775807

theorem OpV.Full.In {o : OpV} (h : o.Full) : o.In := ⟨h.a1, h.b1, h.s⟩

/-- A script of len steps that lies in memory. -/
def ScriptAt (w : World) (a : Option Addr) (len : Nat) : Prop :=
  len = 0 ∨ ∃ b off, a = some ⟨b, off, none⟩ ∧ ∀ i, i < len → ∃ o : OpV, o.Full ∧ OpCells w b (off + i * 6) o



theorem OpAt.fill {w w' : World} {b : Nat} (o : OpV) (hF : Fill w w' b 0 [.int .i64 o.kind, .int .i64 o.a, .int .i64 o.b, .int .i64 o.c, .string o.s, .string o.t]) : OpAt w' b o :=
  ⟨by rw [hF.cell, if_pos (by simp)]; rfl, by rw [hF.cell, if_pos (by simp)]; rfl, by rw [hF.cell, if_pos (by simp)]; rfl, by rw [hF.cell, if_pos (by simp)]; rfl, by rw [hF.cell, if_pos (by simp)]; rfl, by rw [hF.cell, if_pos (by simp)]; rfl⟩

/-- What holds between two steps. -/
structure SpCtx (w0 w : World) (b bi bt : Nat) : Prop where
  bn : ∃ c, BinAt w b bi bt c
  S : Same [] w0.heap.size w0 w
  l1 : w0.heap.size ≤ b
  l2 : w0.heap.size ≤ bi
  l3 : w0.heap.size ≤ bt

theorem SpCtx.step {w0 w w' : World} {b bi bt : Nat} (h : SpCtx w0 w b bi bt) (hB : ∃ c, BinAt w' b bi bt c) (hS : Same [b, bi] w.heap.size w w') : SpCtx w0 w' b bi bt :=
  ⟨hB, h.S.trans (hS.mono h.S.size (by intro k hk hl; have := h.l1; have := h.l2; simp at hk; omega)), h.l1, h.l2, h.l3⟩
theorem SpCtx.keep {w0 w w' : World} {b bi bt : Nat} (h : SpCtx w0 w b bi bt) (hS : Same [] w.heap.size w w') : SpCtx w0 w' b bi bt := by
  obtain ⟨c, hc⟩ := h.bn
  exact ⟨⟨c, hc.keep hS (by simp) (by simp) (by simp)⟩, h.S.trans (hS.mono h.S.size (by simp)), h.l1, h.l2, h.l3⟩

theorem Spells_loop (w0 : World) (a : Option Addr) (l c : Nat) (hs : ScriptAt w0 a l) (b bi bt : Nat) (R Q : Value → World → Prop) (hR : ∀ w', Same [] w0.heap.size w0 w' → R (.int .i64 (-1)) w') :
    ∀ (f i : Nat) (w : World), i + f = l → SpCtx w0 w b bi bt → binlaw_SpellsUpTo.L1 a l c (some ⟨b, 0, none⟩) i R Q w := by
  intro f
  induction f with
  | zero =>
    intro i w hi C
    refine binlaw_SpellsUpTo.step1 _ _ _ _ _ _ _ _ ?_
    unfold binlaw_SpellsUpTo.V1
    exact cond_false' (by simp; omega) (hR w C.S)
  | succ f ih =>
    intro i w hi C
    refine binlaw_SpellsUpTo.step1 _ _ _ _ _ _ _ _ ?_
    unfold binlaw_SpellsUpTo.V1
    refine cond_true' (by simp; omega) ?_
    generalize hM : (4398046511104 : Int) = M
    refine cond_intro (fun hm => ?_) (fun hm => hR w C.S)
    subst hM
    have hm : (i : Int) < 4398046511104 := of_decide_eq_true hm
    rcases hs with h0 | ⟨sb, off, rfl, hs⟩
    · omega
    obtain ⟨o, hF, hO0⟩ := hs i (by omega)
    have hO := hO0.same C.S
    refine binlaw_SpellsUpTo.step2 _ _ _ _ _ _ _ _ ?_
    unfold binlaw_SpellsUpTo.V2
    simp only [nilV_some, add_mk, Int.toNat_natCast]
    refine ⟨by omega, _, _, _, _, _, _, hO.c0, hO.c1, hO.c2, hO.c3, hO.c4, hO.c5, ?_⟩
    refine letB_intro fun b8 hb8 => letW_intro fun w9 hw9 => ?_
    have S9 : Same [] w.heap.size w w9 := by rw [hw9]; exact (Same.refl _ _ _).alloc (Nat.le_refl _) _
    have A9 : ∀ j, j < 6 → can w9 ⟨b8, j, none⟩ := fun j hj => by
      have h9 : OpAt w9 b8 ⟨0, 0, 0, 0, ⟨#[]⟩, ⟨#[]⟩⟩ := by rw [hw9, hb8]; exact OpAt.new w ⟨0, 0, 0, 0, ⟨#[]⟩, ⟨#[]⟩⟩ T_api_Op
      have fz : w9.frozen? ⟨b8, j, none⟩ = false := by rw [hw9, hb8, World.frozen?_alloc_new]
      have : j = 0 ∨ j = 1 ∨ j = 2 ∨ j = 3 ∨ j = 4 ∨ j = 5 := by omega
      rcases this with rfl | rfl | rfl | rfl | rfl | rfl
      · exact ⟨⟨_, h9.c0⟩, fz⟩
      · exact ⟨⟨_, h9.c1⟩, fz⟩
      · exact ⟨⟨_, h9.c2⟩, fz⟩
      · exact ⟨⟨_, h9.c3⟩, fz⟩
      · exact ⟨⟨_, h9.c4⟩, fz⟩
      · exact ⟨⟨_, h9.c5⟩, fz⟩
    have sz9 : w9.heap.size = w.heap.size + 1 := by rw [hw9]; simp
    have C9 := C.keep S9
    clear hw9
    refine putCells_intro b8 _ 0 w9 _ (fun j hj => by rw [Nat.zero_add]; exact A9 j (by simpa using hj)) (fun w10 hF10 => ?_)
    have O10 : OpAt w10 b8 o := OpAt.fill o hF10
    have S10 : Same [] w.heap.size w w10 := S9.trans ((hF10.same w.heap.size).mono (Nat.le_refl _) (by intro k hk hl; simp at hk; omega))
    have C10 := C.keep S10
    obtain ⟨c0, hc0⟩ := C.bn
    have lb := hc0.ltb; have li := hc0.lti
    clear hF10 A9
    -- what is left behind the first clause
    have L6 : ∀ w', SpCtx w0 w' b bi bt → binlaw_SpellsUpTo.L6 (some ⟨sb, off, none⟩) l c (some ⟨b, 0, none⟩) i R Q w' := fun w' C' => by
      refine binlaw_SpellsUpTo.step6 _ _ _ _ _ _ _ _ ?_
      unfold binlaw_SpellsUpTo.V6
      have e : IntKind.wrap .i64 ((i : Int) + 1) = ((i + 1 : Nat) : Int) := by rw [wrap_i64 (by omega) (by omega)]; omega
      rw [e]
      exact ih (i + 1) w' (by omega) C'
    have L5 : ∀ w' (tt : Bool), (tt = true → (0 ≤ o.a ∧ o.a ≤ 2) ∧ 0 ≤ o.b ∧ o.b ≤ 96) → SpCtx w0 w' b bi bt → OpAt w' b8 o → binlaw_SpellsUpTo.L5 (some ⟨sb, off, none⟩) l c (some ⟨b, 0, none⟩) i b8 tt R Q w' := fun w' tt htt C' O' => by
      refine binlaw_SpellsUpTo.step5 _ _ _ _ _ _ _ _ _ _ ?_
      unfold binlaw_SpellsUpTo.V5
      refine cond_intro (fun g => ?_) (fun g => L6 w' C')
      obtain ⟨h1, h2, h3⟩ := htt g
      obtain ⟨c1, hc1⟩ := C'.bn
      refine ⟨_, O'.c1, _, O'.c2, (fill_spec hc1 o.a o.b h1 h2 h3).to ?_⟩
      rintro v w4 ⟨rfl, hB4, hS4⟩
      exact ⟨_, rfl, cond_false' rfl (L6 w4 (C'.step hB4 hS4))⟩
    have L4 : ∀ w', SpCtx w0 w' b bi bt → OpAt w' b8 o → binlaw_SpellsUpTo.L4 (some ⟨sb, off, none⟩) l c (some ⟨b, 0, none⟩) i b8 R Q w' := fun w' C' O' => by
      refine binlaw_SpellsUpTo.step4 _ _ _ _ _ _ _ _ _ ?_
      unfold binlaw_SpellsUpTo.V4
      refine ⟨_, O'.c0, cond_intro (fun _ => ?_) (fun _ => L5 w' false (fun g => by cases g) C' O')⟩
      refine ⟨_, O'.c1, cond_intro (fun g1 => ?_) (fun _ => L5 w' false (fun g => by cases g) C' O')⟩
      refine ⟨_, O'.c1, cond_intro (fun g2 => ?_) (fun _ => L5 w' false (fun g => by cases g) C' O')⟩
      refine ⟨_, O'.c2, cond_intro (fun g3 => ?_) (fun _ => L5 w' false (fun g => by cases g) C' O')⟩
      exact ⟨_, O'.c2, L5 w' _ (fun g => ⟨⟨of_decide_eq_true g1, of_decide_eq_true g2⟩, of_decide_eq_true g3, of_decide_eq_true g⟩) C' O'⟩
    have L3 : ∀ tt : Bool, (tt = true → o.s.size ≤ 11 ∧ (o.a = 0 ∨ (65 ≤ o.a ∧ o.a ≤ 68))) → binlaw_SpellsUpTo.L3 (some ⟨sb, off, none⟩) l c (some ⟨b, 0, none⟩) i b8 tt R Q w10 := fun tt htt => by
      refine binlaw_SpellsUpTo.step3 _ _ _ _ _ _ _ _ _ _ ?_
      unfold binlaw_SpellsUpTo.V3
      refine cond_intro (fun g => ?_) (fun g => L4 w10 C10 O10)
      obtain ⟨h1, h2⟩ := htt g
      obtain ⟨c1, hc1⟩ := C10.bn
      refine ⟨_, O10.c1, _, O10.c4, (number_spec hc1 o.a h2 o.s h1).to ?_⟩
      rintro v w4 ⟨rfl, hB4, hS4⟩
      refine ⟨_, rfl, cond_false' rfl (L4 w4 (C10.step hB4 hS4) (O10.same hS4 O10.lt (by simp; omega)))⟩
    refine ⟨_, O10.c0, cond_intro (fun _ => ?_) (fun _ => L3 false (fun g => by cases g))⟩
    refine ⟨_, O10.c4, cond_intro (fun g1 => ?_) (fun _ => L3 false (fun g => by cases g))⟩
    have g1 := of_decide_eq_true g1
    refine ⟨_, O10.c1, cond_intro (fun g2 => L3 true (fun _ => ⟨by omega, .inl (beq_iff_eq.1 g2)⟩)) (fun _ => ?_)⟩
    refine ⟨_, O10.c1, cond_intro (fun g3 => ?_) (fun _ => L3 false (fun g => by cases g))⟩
    exact ⟨_, O10.c1, L3 _ (fun g => ⟨by omega, .inr ⟨of_decide_eq_true g3, of_decide_eq_true g⟩⟩)⟩

theorem Spells_spec (w : World) (a : Option Addr) (l c : Nat) (hs : ScriptAt w a l) : Runs Try.prog binlaw_Spells.id #[.slice a l c] w fun v w' => v = .bool true ∧ Same [] w.heap.size w w' := by
  refine binlaw_Spells.enter _ _ _ _ _ _ ?_
  unfold binlaw_Spells.V
  have h : Runs Try.prog binlaw_SpellsUpTo.id #[.slice a l c] w fun v w' => v = .int .i64 (-1) ∧ Same [] w.heap.size w w' := by
    refine binlaw_SpellsUpTo.enter _ _ _ _ _ _ ?_
    unfold binlaw_SpellsUpTo.V
    refine RunsQ.post (New_spec w) ?_
    rintro v w1 ⟨b, bi, bt, rfl, hB, hS, l1, l2, l3⟩
    exact ⟨_, rfl, Spells_loop w a l c hs b bi bt _ _ (fun w' h => ⟨rfl, h⟩) l 0 w1 (by omega) ⟨⟨_, hB⟩, hS, l1, l2, l3⟩⟩
  refine RunsQ.post h ?_
  rintro v w1 ⟨rfl, hS⟩
  exact ⟨_, rfl, rfl, hS⟩

end Go.Proofs.Qxb6500316a
