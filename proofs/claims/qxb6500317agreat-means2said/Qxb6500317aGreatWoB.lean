/-
  The law World: the book; what a step owes.
-/
import Derived.Test.Qxb6500317aGreatAnX
set_option linter.unusedSimpArgs false
set_option linter.unusedVariables false
set_option maxRecDepth 100000
set_option linter.unusedSectionVars false
set_option maxHeartbeats 1000000
namespace Go.Proofs.Qxb6500317aGreat
open Go Go.Vc

structure BookAt (w : World) (gb : Nat) (T Tr : ByteArray) : Prop where
  c0 : w.cell? ⟨gb, 0, none⟩ = some (.string T)
  c1 : w.cell? ⟨gb, 1, none⟩ = some (.string Tr)
  f : ∀ j, w.frozen? ⟨gb, j, none⟩ = false
theorem BookAt.lt {w : World} {gb : Nat} {T Tr : ByteArray} (h : BookAt w gb T Tr) : gb < w.heap.size := cell_lt h.c0
theorem BookAt.same {w w' : World} {gb : Nat} {T Tr : ByteArray} (h : BookAt w gb T Tr) {S : List Nat} {B : Nat} (hs : Same S B w w') (hb : gb < B) (hn : gb ∉ S) : BookAt w' gb T Tr :=
  ⟨by rw [hs.cell (p := ⟨gb, 0, none⟩) hb hn]; exact h.c0, by rw [hs.cell (p := ⟨gb, 1, none⟩) hb hn]; exact h.c1, fun j => by rw [hs.frozen (p := ⟨gb, j, none⟩) hb hn]; exact h.f j⟩
theorem BookAt.blk {w w' : World} {gb : Nat} {T Tr : ByteArray} (h : BookAt w gb T Tr) (hb : w'.heap[gb]? = w.heap[gb]?) : BookAt w' gb T Tr :=
  ⟨by rw [show w'.cell? ⟨gb, 0, none⟩ = w.cell? ⟨gb, 0, none⟩ from World.cell?_of_block (w := w) hb]; exact h.c0, by rw [show w'.cell? ⟨gb, 1, none⟩ = w.cell? ⟨gb, 1, none⟩ from World.cell?_of_block (w := w) hb]; exact h.c1, fun j => by rw [show w'.frozen? ⟨gb, j, none⟩ = w.frozen? ⟨gb, j, none⟩ from World.frozen?_of_block (w := w) hb]; exact h.f j⟩
theorem BookAt.set0 {w : World} {gb : Nat} {T Tr : ByteArray} (h : BookAt w gb T Tr) (x : ByteArray) : BookAt (w.setCell ⟨gb, 0, none⟩ (.string x)) gb x Tr :=
  ⟨by rw [cell_setCell, if_pos ⟨rfl, rfl⟩, h.c0]; rfl, by rw [cell_setCell, if_neg (by omega)]; exact h.c1, fun j => by rw [World.frozen?_setCell]; exact h.f j⟩
theorem BookAt.set1 {w : World} {gb : Nat} {T Tr : ByteArray} (h : BookAt w gb T Tr) (x : ByteArray) : BookAt (w.setCell ⟨gb, 1, none⟩ (.string x)) gb T x :=
  ⟨by rw [cell_setCell, if_neg (by omega)]; exact h.c0, by rw [cell_setCell, if_pos ⟨rfl, rfl⟩, h.c1]; rfl, fun j => by rw [World.frozen?_setCell]; exact h.f j⟩
theorem BookAt.can0 {w : World} {gb : Nat} {T Tr : ByteArray} (h : BookAt w gb T Tr) : can w ⟨gb, 0, none⟩ := ⟨⟨_, h.c0⟩, h.f 0⟩
theorem BookAt.can1 {w : World} {gb : Nat} {T Tr : ByteArray} (h : BookAt w gb T Tr) : can w ⟨gb, 1, none⟩ := ⟨⟨_, h.c1⟩, h.f 1⟩

/-! ### What a step owes -/
abbrev eS : ByteArray := ⟨#[]⟩
abbrev OwR := (Int × Int × ByteArray) × ByteArray × ByteArray
abbrev rowS : ByteArray := ⟨#[32, 49, 40, 41]⟩
def logS (s : ByteArray) : ByteArray := ((((⟨#[32, 48, 40]⟩ : ByteArray) ++ hexOf (bAnd .u64 (word s 0) 4294967295) 16) ++ (⟨#[44]⟩ : ByteArray)) ++ hexOf (word s 1) 16) ++ (⟨#[44, 41]⟩ : ByteArray)
def owed4 (T : ByteArray) (fuel w : Int) : OwR := ((0, fuel, (⟨#[55, 101, 58]⟩ : ByteArray) ++ hexOf w 16), T, rowS)
def owed3 (T : ByteArray) (o : OpV) (fuel : Int) : OwR :=
  if T.size = 0 then ((47, fuel, eS), T, rowS) else
  if o.kind = 3 then (if fuel < 2 then ((46, 0, eS), T.extract 8 T.size, rowS) else owed4 (T.extract 8 T.size) (IntKind.wrap .i64 (fuel - 2)) (IntKind.wrap .u64 (word T 0 + 5))) else owed4 (T.extract 8 T.size) fuel (word T 0)
def owed2 (T Tr : ByteArray) (o : OpV) (fuel : Int) (n : Nat) : OwR :=
  if 32 < o.s.size then ((1, 0, eS), T, Tr) else if o.kind = 7 then ((33, 0, eS), T, Tr) else if o.s.size ≠ 8 * n then ((34, 0, eS), T, Tr) else
  if o.kind = 2 then (if fuel < 3 then ((46, 0, eS), T, eS) else ((0, IntKind.wrap .i64 (fuel - 3), eS), T, logS o.s)) else
  if o.kind = 6 then (if fuel < 3 then ((46, 0, eS), T, eS) else ((0, IntKind.wrap .i64 (fuel - 3), ⟨#[55, 101, 58, 48, 48, 48, 48, 48, 48, 48, 48, 48, 48, 48, 48, 48, 48, 48, 50]⟩), T, eS)) else
  if o.kind = 3 then (if fuel < 1 then ((46, 0, eS), T, eS) else owed3 T o (IntKind.wrap .i64 (fuel - 1))) else owed3 T o fuel
def owed1 (T Tr : ByteArray) (o : OpV) (fuel : Int) : OwR :=
  if o.kind = 1 then (if 48 < o.s.size then ((1, 0, eS), T, Tr) else if o.s.size % 8 ≠ 0 then ((34, 0, eS), T, Tr) else ((0, 0, eS), o.s, Tr)) else
  if o.kind = 5 then ((0, fuel, eS), T, eS) else owed2 T Tr o fuel (if o.kind = 2 then 2 else 0)
def owed (T Tr : ByteArray) (o : OpV) : OwR := owed1 T Tr o (if o.a < 0 then 0 else o.a)
def OwOk (w0 : World) (gb : Nat) (r : OwR) : Value → World → Prop := fun v w' => v = .agg #[.int .i64 r.1.1, .int .i64 r.1.2.1, .int .i64 0, .string r.1.2.2] ∧ BookAt w' gb r.2.1 r.2.2 ∧ Same [gb] w0.heap.size w0 w'
section
variable {w0 w w' : World} {gb t ob : Nat} {T Tr : ByteArray} {o : OpV}
/-- Where Owed3 stands. -/
structure OS (w0 w : World) (gb t ob : Nat) (T Tr : ByteArray) (o : OpV) : Prop where
  b : BookAt w gb T Tr
  a : AnA w t 0 0 0 ⟨#[]⟩
  p : OpAt w ob o
  s : Same [gb] w0.heap.size w0 w
  l : gb < w0.heap.size ∧ w0.heap.size ≤ t ∧ w0.heap.size ≤ ob ∧ t ≠ ob
theorem OS.keep (h : OS w0 w gb t ob T Tr o) (hs : Same [] w.heap.size w w') : OS w0 w' gb t ob T Tr o :=
  ⟨h.b.same hs h.b.lt (by simp), h.a.same hs h.a.lt (by simp), h.p.same hs h.p.lt (by simp), h.s.trans (hs.mono h.s.size (by simp)), h.l⟩
theorem OS.tape (h : OS w0 w gb t ob T Tr o) (x : ByteArray) : OS w0 (w.setCell ⟨gb, 0, none⟩ (.string x)) gb t ob x Tr o := by
  obtain ⟨l1, l2, l3, l4⟩ := h.l
  have hs : Same [gb] w.heap.size w (w.setCell ⟨gb, 0, none⟩ (.string x)) := (Same.refl _ _ _).setCell (.inr (by simp)) _
  exact ⟨h.b.set0 x, h.a.same hs h.a.lt (by simp; omega), h.p.same hs h.p.lt (by simp; omega), h.s.trans (hs.mono h.s.size (fun _ h _ => h)), h.l⟩
theorem OS.trace (h : OS w0 w gb t ob T Tr o) (x : ByteArray) : OS w0 (w.setCell ⟨gb, 1, none⟩ (.string x)) gb t ob T x o := by
  obtain ⟨l1, l2, l3, l4⟩ := h.l
  have hs : Same [gb] w.heap.size w (w.setCell ⟨gb, 1, none⟩ (.string x)) := (Same.refl _ _ _).setCell (.inr (by simp)) _
  exact ⟨h.b.set1 x, h.a.same hs h.a.lt (by simp; omega), h.p.same hs h.p.lt (by simp; omega), h.s.trans (hs.mono h.s.size (fun _ h _ => h)), h.l⟩
/-- The answer is handed out. -/
theorem OS.out (h : OS w0 w gb t ob T Tr o) {r : OwR} {e n : Int} {s : ByteArray} (hr : r = ((e, n, s), T, Tr)) : putCells w ⟨t, 0, none⟩ [(.int .i64 e), (.int .i64 n), (.int .i64 0), (.string s)] fun w3 => ((∃ x4 : Int, ∃ x5 : Int, ∃ x6 : Int, ∃ x7 : ByteArray, World.cell? w3 ⟨t, 0, none⟩ = some (.int .i64 x4) ∧ World.cell? w3 ⟨t, 1, none⟩ = some (.int .i64 x5) ∧ World.cell? w3 ⟨t, 2, none⟩ = some (.int .i64 x6) ∧ World.cell? w3 ⟨t, 3, none⟩ = some (.string x7) ∧ OwOk w0 gb r (.agg #[(.int .i64 x4), (.int .i64 x5), (.int .i64 x6), (.string x7)]) w3)) := by
  obtain ⟨l1, l2, l3, l4⟩ := h.l
  subst hr
  refine putCells_intro t _ 0 w _ (fun j hj => by rw [Nat.zero_add]; exact h.a.cans j hj) (fun w' hF => ?_)
  have A' := h.a.fill hF
  have hs : Same [t] w.heap.size w w' := hF.same _
  exact ⟨_, _, _, _, A'.c0, A'.c1, A'.c2, A'.c3, rfl, h.b.same hs h.b.lt (by simp; omega), h.s.trans (hs.mono h.s.size (fun k hk hl => by simp at hk; omega))⟩
theorem owed_L4 (h : OS w0 w gb t ob T rowS o) (fuel x : Int) (hx : 0 ≤ x ∧ x < 18446744073709551616) : execlaw_Owed3.L4 t fuel x (OwOk w0 gb (owed4 T fuel x)) (fun _ _ => False) w := by
  refine execlaw_Owed3.step4 _ _ _ _ _ _ ?_
  unfold execlaw_Owed3.V4
  refine RunsQ.post (Hex_spec x 16 w hx.1 hx.2 (by omega) (by omega)) ?_
  rintro v w2 ⟨rfl, S2⟩
  have l := M.hexOf_size x 16
  have e : (⟨#[55, 101, 58]⟩ : ByteArray).size = 3 := rfl
  exact ⟨_, rfl, by omega, (h.keep S2).out rfl⟩
theorem owed_L3 (h : OS w0 w gb t ob T Tr o) (hT : T.size ≤ 48 ∧ T.size % 8 = 0) (fuel : Int) : execlaw_Owed3.L3 (some ⟨gb, 0, none⟩) ob t fuel (OwOk w0 gb (owed3 T o fuel)) (fun _ _ => False) w := by
  refine execlaw_Owed3.step3 _ _ _ _ _ _ _ ?_
  unfold execlaw_Owed3.V3
  refine ⟨h.b.can1, letW_intro fun w2 hw2 => ?_⟩
  have h2 := h.trace rowS
  have hw2' : w2 = w.setCell ⟨gb, 1, none⟩ (.string rowS) := hw2
  rw [← hw2'] at h2
  refine ⟨_, h2.b.c0, ?_⟩
  by_cases e0 : T.size = 0
  · refine cond_true' (by rw [e0]; rfl) (h2.out ?_)
    unfold owed3
    rw [if_pos e0]
  · refine cond_false' (ne_beq (by omega)) ⟨_, h2.b.c0, RunsQ.post (Word_spec T 0 w2 (by omega) (by omega)) ?_⟩
    rintro v w13 ⟨rfl, hw13⟩
    subst hw13
    refine ⟨_, rfl, _, h2.b.c0, by omega, h2.b.can0, letW_intro fun w18 hw18 => ?_⟩
    have h18 := h2.tape (T.extract 8 T.size)
    have hw18' : w18 = w13.setCell ⟨gb, 0, none⟩ (.string (T.extract 8 T.size)) := hw18
    rw [← hw18'] at h18
    have wb := word_bd T 0
    refine ⟨_, h18.p.c0, ?_⟩
    by_cases e3 : o.kind = 3
    · refine cond_true' (by rw [e3]; rfl) ?_
      by_cases e2 : fuel < 2
      · refine cond_true' (decide_eq_true e2) (h18.out ?_)
        unfold owed3
        rw [if_neg e0, if_pos e3, if_pos e2]
      · refine cond_false' (decide_eq_false e2) ?_
        have := owed_L4 h18 (IntKind.wrap .i64 (fuel - 2)) (IntKind.wrap .u64 (word T 0 + 5)) (by rw [wrap_u64_mod]; omega)
        unfold owed3
        rw [if_neg e0, if_pos e3, if_neg e2]
        exact this
    · refine cond_false' (ne_beq e3) ?_
      have := owed_L4 h18 fuel (word T 0) wb
      unfold owed3
      rw [if_neg e0, if_neg e3]
      exact this
theorem owed_L2 (h : OS w0 w gb t ob T Tr o) (hT : T.size ≤ 48 ∧ T.size % 8 = 0) (ho : o.s.size ≤ 9223372036854775807) (fuel : Int) (n : Nat) (hn : n = if o.kind = 2 then 2 else 0) : execlaw_Owed3.L2 (some ⟨gb, 0, none⟩) ob t fuel (n : Int) (OwOk w0 gb (owed2 T Tr o fuel n)) (fun _ _ => False) w := by
  refine execlaw_Owed3.step2 _ _ _ _ _ _ _ _ ?_
  unfold execlaw_Owed3.V2
  refine ⟨_, h.p.c4, ?_⟩
  by_cases q1 : 32 < o.s.size
  · refine cond_true' (decide_eq_true (by omega)) (h.out ?_)
    unfold owed2
    rw [if_pos q1]
  refine cond_false' (decide_eq_false (by omega)) ⟨_, h.p.c0, ?_⟩
  by_cases q2 : o.kind = 7
  · refine cond_true' (by rw [q2]; rfl) (h.out ?_)
    unfold owed2
    rw [if_neg q1, if_pos q2]
  have hn2 : n ≤ 2 := by rw [hn]; split <;> omega
  have e8 : IntKind.wrap .i64 ((8 : Int) * (n : Int)) = ((8 * n : Nat) : Int) := by rw [wrap_i64 (by omega) (by omega)]; omega
  refine cond_false' (ne_beq q2) ⟨_, h.p.c4, ?_⟩
  rw [e8]
  by_cases q3 : o.s.size ≠ 8 * n
  · refine cond_true' (by simp; omega) (h.out ?_)
    unfold owed2
    rw [if_neg q1, if_neg q2, if_pos q3]
  refine cond_false' (by simp; omega) ⟨h.b.can1, letW_intro fun w20 hw20 => ?_⟩
  have h2 := h.trace eS
  have hw20' : w20 = w.setCell ⟨gb, 1, none⟩ (.string eS) := hw20
  rw [← hw20'] at h2
  refine ⟨_, h2.p.c0, ?_⟩
  by_cases k2 : o.kind = 2
  · refine cond_true' (by rw [k2]; rfl) ?_
    have er : ∀ x, owed2 T Tr o fuel n = x ↔ (if fuel < 3 then ((46, 0, eS), T, eS) else ((0, IntKind.wrap .i64 (fuel - 3), eS), T, logS o.s)) = x := fun x => by
      unfold owed2
      rw [if_neg q1, if_neg q2, if_neg q3, if_pos k2]
    by_cases f3 : fuel < 3
    · exact cond_true' (decide_eq_true f3) (h2.out ((er _).2 (by rw [if_pos f3])))
    · refine cond_false' (decide_eq_false f3) ⟨_, h2.p.c4, RunsQ.post (Word_spec o.s 0 w20 ho (by omega)) ?_⟩
      rintro v w29 ⟨rfl, hw29⟩
      subst hw29
      refine ⟨_, rfl, _, h2.p.c4, RunsQ.post (Word_spec o.s 1 w29 ho (by omega)) ?_⟩
      rintro v w33 ⟨rfl, hw33⟩
      subst hw33
      have wb0 := word_bd o.s 0
      have wb1 := word_bd o.s 1
      have hm : 0 ≤ bAnd .u64 (word o.s 0) 4294967295 ∧ bAnd .u64 (word o.s 0) 4294967295 < 18446744073709551616 := by
        rw [bAnd_u64_mask32 _ wb0.1 wb0.2]; omega
      refine ⟨_, rfl, RunsQ.post (Hex_spec _ 16 _ hm.1 hm.2 (by omega) (by omega)) ?_⟩
      rintro v w36 ⟨rfl, S36⟩
      refine ⟨_, rfl, RunsQ.post (Hex_spec _ 16 _ wb1.1 wb1.2 (by omega) (by omega)) ?_⟩
      rintro v w39 ⟨rfl, S39⟩
      have h39 := (h2.keep S36).keep S39
      have z1 := M.hexOf_size (bAnd .u64 (word o.s 0) 4294967295) 16
      have z2 := M.hexOf_size (word o.s 1) 16
      have y1 : (⟨#[32, 48, 40]⟩ : ByteArray).size = 3 := rfl
      have y2 : (⟨#[44]⟩ : ByteArray).size = 1 := rfl
      have y3 : (⟨#[44, 41]⟩ : ByteArray).size = 2 := rfl
      refine ⟨_, rfl, by omega, by rw [M.size_app]; omega, by rw [M.size_app, M.size_app]; omega, by rw [M.size_app, M.size_app, M.size_app]; omega, h39.b.can1, letW_intro fun w42 hw42 => ?_⟩
      have h42 := h39.trace (logS o.s)
      have hw42' : w42 = w39.setCell ⟨gb, 1, none⟩ (.string (logS o.s)) := hw42
      rw [← hw42'] at h42
      exact h42.out ((er _).2 (by rw [if_neg f3]))
  refine cond_false' (ne_beq k2) ⟨_, h2.p.c0, ?_⟩
  by_cases k6 : o.kind = 6
  · refine cond_true' (by rw [k6]; rfl) ?_
    have er : ∀ x, owed2 T Tr o fuel n = x ↔ (if fuel < 3 then ((46, 0, eS), T, eS) else ((0, IntKind.wrap .i64 (fuel - 3), (⟨#[55, 101, 58, 48, 48, 48, 48, 48, 48, 48, 48, 48, 48, 48, 48, 48, 48, 48, 50]⟩ : ByteArray)), T, eS)) = x := fun x => by
      unfold owed2
      rw [if_neg q1, if_neg q2, if_neg q3, if_neg k2, if_pos k6]
    by_cases f3 : fuel < 3
    · exact cond_true' (decide_eq_true f3) (h2.out ((er _).2 (by rw [if_pos f3])))
    · exact cond_false' (decide_eq_false f3) (h2.out ((er _).2 (by rw [if_neg f3])))
  refine cond_false' (ne_beq k6) ⟨_, h2.p.c0, ?_⟩
  have er : owed2 T Tr o fuel n = if o.kind = 3 then (if fuel < 1 then ((46, 0, eS), T, eS) else owed3 T o (IntKind.wrap .i64 (fuel - 1))) else owed3 T o fuel := by
    unfold owed2
    rw [if_neg q1, if_neg q2, if_neg q3, if_neg k2, if_neg k6]
  by_cases k3 : o.kind = 3
  · refine cond_true' (by rw [k3]; rfl) ?_
    by_cases f1 : fuel < 1
    · exact cond_true' (decide_eq_true f1) (h2.out (by rw [er, if_pos k3, if_pos f1]))
    · rw [er, if_pos k3, if_neg f1]
      exact cond_false' (decide_eq_false f1) (owed_L3 h2 hT _)
  · rw [er, if_neg k3]
    exact cond_false' (ne_beq k3) (owed_L3 h2 hT _)
theorem owed_L1 (h : OS w0 w gb t ob T Tr o) (hT : T.size ≤ 48 ∧ T.size % 8 = 0) (ho : o.s.size ≤ 9223372036854775807) (fuel : Int) : execlaw_Owed3.L1 (some ⟨gb, 0, none⟩) ob t fuel (OwOk w0 gb (owed1 T Tr o fuel)) (fun _ _ => False) w := by
  refine execlaw_Owed3.step1 _ _ _ _ _ _ _ ?_
  unfold execlaw_Owed3.V1
  refine ⟨_, h.p.c0, ?_⟩
  by_cases k1 : o.kind = 1
  · refine cond_true' (by rw [k1]; rfl) ⟨_, h.p.c4, ?_⟩
    by_cases q1 : 48 < o.s.size
    · refine cond_true' (decide_eq_true (by omega)) (h.out ?_)
      unfold owed1
      rw [if_pos k1, if_pos q1]
    refine cond_false' (decide_eq_false (by omega)) ⟨_, h.p.c4, ?_⟩
    have em : Int.tmod ((o.s.size : Nat) : Int) 8 = ((o.s.size % 8 : Nat) : Int) := rfl
    rw [em]
    by_cases q2 : o.s.size % 8 ≠ 0
    · refine cond_true' (by simp; omega) (h.out ?_)
      unfold owed1
      rw [if_pos k1, if_neg q1, if_pos q2]
    · refine cond_false' (by simp; omega) ⟨_, h.p.c4, h.b.can0, letW_intro fun w2 hw2 => ?_⟩
      have h2 := h.tape o.s
      have hw2' : w2 = w.setCell ⟨gb, 0, none⟩ (.string o.s) := hw2
      rw [← hw2'] at h2
      refine h2.out ?_
      unfold owed1
      rw [if_pos k1, if_neg q1, if_neg q2]
  refine cond_false' (ne_beq k1) ⟨_, h.p.c0, ?_⟩
  by_cases k5 : o.kind = 5
  · refine cond_true' (by rw [k5]; rfl) ⟨h.b.can1, letW_intro fun w2 hw2 => ?_⟩
    have h2 := h.trace eS
    have hw2' : w2 = w.setCell ⟨gb, 1, none⟩ (.string eS) := hw2
    rw [← hw2'] at h2
    refine h2.out ?_
    unfold owed1
    rw [if_neg k1, if_pos k5]
  refine cond_false' (ne_beq k5) ⟨_, h.p.c0, ?_⟩
  unfold owed1
  rw [if_neg k1, if_neg k5]
  by_cases k2 : o.kind = 2
  · rw [if_pos k2]
    exact cond_true' (by rw [k2]; rfl) (owed_L2 h hT ho fuel 2 (by rw [if_pos k2]))
  · rw [if_neg k2]
    exact cond_false' (ne_beq k2) (owed_L2 h hT ho fuel 0 (by rw [if_neg k2]))
theorem Owed3_spec (hb : BookAt w gb T Tr) (hT : T.size ≤ 48 ∧ T.size % 8 = 0) (ho : o.s.size ≤ 9223372036854775807) : Runs Tryz.prog execlaw_Owed3.id #[rp gb, .agg #[.int .i64 o.kind, .int .i64 o.a, .int .i64 o.b, .int .i64 o.c, .string o.s, .string o.t]] w (OwOk w gb (owed T Tr o)) := by
  refine execlaw_Owed3.enter _ _ _ _ _ _ _ _ _ _ ?_
  unfold execlaw_Owed3.V
  refine letB_intro fun ob hob => letW_intro fun w9 hw9 => letB_intro fun t ht => letW_intro fun w11 hw11 => ?_
  have S9 : Same [] w.heap.size w w9 := by rw [hw9]; exact (Same.refl _ _ _).alloc (Nat.le_refl _) _
  have z9 : w9.heap.size = w.heap.size + 1 := by rw [hw9]; simp
  have S11 : Same [] w9.heap.size w9 w11 := by rw [hw11]; exact (Same.refl _ _ _).alloc (Nat.le_refl _) _
  have p9 : OpAt w9 ob o := by rw [hw9, hob]; exact OpAt.new w o _
  have a11 : AnA w11 t 0 0 0 ⟨#[]⟩ := by rw [hw11, ht]; exact AnA.new w9 _
  have lg := hb.lt
  have T11 : Same [] w.heap.size w w11 := Same.more (B := 0) S9 S11
  have h : OS w w11 gb t ob T Tr o := ⟨hb.same T11 hb.lt (by simp), a11, p9.same S11 p9.lt (by simp), T11.mono (Nat.le_refl _) (by simp), by omega, by omega, by omega, by omega⟩
  refine ⟨_, h.p.c1, ?_⟩
  unfold owed
  by_cases f : o.a < 0
  · rw [if_pos f]
    exact cond_true' (decide_eq_true f) (owed_L1 h hT ho 0)
  · rw [if_neg f]
    exact cond_false' (decide_eq_false f) (owed_L1 h hT ho o.a)
end
end Go.Proofs.Qxb6500317aGreat
