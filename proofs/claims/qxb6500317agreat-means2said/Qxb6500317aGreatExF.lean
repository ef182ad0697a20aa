/-
  The loop: the steps.
-/
import Derived.Test.Qxb6500317aGreatExE
set_option linter.unusedSimpArgs false
set_option linter.unusedVariables false
set_option maxRecDepth 100000
set_option linter.unusedSectionVars false
set_option maxHeartbeats 1000000
namespace Go.Proofs.Qxb6500317aGreat
open Go Go.Vc

/-- The loop's head. -/
abbrev RL (E : RE) (c g r fi : Nat) (f : FF) (sp : Nat) (fuel w17 : Int) (pc base floor depth : Nat) (R : Value → World → Prop) (w : World) : Prop :=
  exec_Exec_run.L6 (some ⟨E.A.xb, 0, none⟩) (sp : Int) fuel (some ⟨E.A.kb, 0, none⟩) 120 120 (E.P.nIm : Int) (some ⟨E.nbs fi, 0, none⟩) f.cells.length f.cells.length (some ⟨E.fb, fi * 4, none⟩) c g r w17 (pc : Int) (base : Int) (floor : Int) (depth : Int) R (fun _ _ => False) w
/-- Behind the fuel. -/
abbrev RL9 (E : RE) (c g r fi : Nat) (f : FF) (sp : Nat) (fuel w17 : Int) (pc base floor depth : Nat) (R : Value → World → Prop) (w : World) : Prop :=
  exec_Exec_run.L9 (some ⟨E.A.xb, 0, none⟩) (sp : Int) fuel (some ⟨E.A.kb, 0, none⟩) 120 120 (E.P.nIm : Int) (some ⟨E.nbs fi, 0, none⟩) f.cells.length f.cells.length (some ⟨E.fb, fi * 4, none⟩) c g r w17 (pc : Int) (base : Int) (floor : Int) (depth : Int) R (fun _ _ => False) w
abbrev RL13 (E : RE) (c g r fi : Nat) (f : FF) (sp : Nat) (fuel w17 : Int) (pc base floor depth : Nat) (t : Int) (R : Value → World → Prop) (w : World) : Prop :=
  exec_Exec_run.L13 (some ⟨E.A.xb, 0, none⟩) (sp : Int) fuel (some ⟨E.A.kb, 0, none⟩) 120 120 (E.P.nIm : Int) (some ⟨E.nbs fi, 0, none⟩) f.cells.length f.cells.length (some ⟨E.fb, fi * 4, none⟩) c g r w17 (pc : Int) (base : Int) (floor : Int) (depth : Int) t R (fun _ _ => False) w
section
variable {E : RE} {c g r fi : Nat} {f : FF} {w w' : World} {F : List Nat} {ms : M.MS} {h : HS} {S fr : Nat → Int} {sp pc base floor depth : Nat} {fuel w17 : Int} {R : Value → World → Prop} {i : Ins}
theorem RS.ins (s : RS E c g r w F ms h S fr) (hf : E.fs[fi]? = some f) (hi : f.cells[pc]? = some i) : pc < f.cells.length ∧ w.cell? ⟨E.nbs fi, pc * 3, none⟩ = some (.int .u8 i.op) ∧ w.cell? ⟨E.nbs fi, pc * 3 + 1, none⟩ = some (.int .u32 i.x) ∧ w.cell? ⟨E.nbs fi, pc * 3 + 2, none⟩ = some (.int .u64 i.y) := by
  obtain ⟨_, _, e3⟩ := s.x.M.cd (by intro e; rw [e] at hf; cases hf)
  obtain ⟨_, _, _, _, a5, _⟩ := e3 fi f hf
  have lt : pc < f.cells.length := (List.getElem?_eq_some_iff.1 hi).1
  have e : f.cells.getD pc z0 = i := by rw [List.getD_eq_getElem?_getD, hi]; rfl
  have i0 := a5.i0 pc lt; have i1 := a5.i1 pc lt; have i2 := a5.i2 pc lt
  rw [e] at i0 i1 i2
  exact ⟨lt, i0, i1, i2⟩
/-- A cell that costs. -/
theorem fetch1 (s : RS E c g r w F ms h S fr) (hf : E.fs[fi]? = some f) (hi : f.cells[pc]? = some i) (o1 : i.op ≠ 224) (o2 : i.op ≠ 11) (hfu : 0 ≤ fuel ∧ fuel ≤ 9223372036854775807) (hpc : pc ≤ 100000)
    (h0 : fuel = 0 → ∀ w', RS E c g r w' F ms h S fr → R (.tuple #[.int .i64 0, .int .i64 46]) w')
    (h1 : 0 < fuel → ∀ w', RS E c g r w' F ms h S fr → CI w' c i → RL9 E c g r fi f sp (fuel - 1) w17 (pc + 1) base floor depth R w') : RL E c g r fi f sp fuel w17 pc base floor depth R w := by
  obtain ⟨lt, i0, i1, i2⟩ := s.ins hf hi
  refine exec_Exec_run.step6 _ _ _ _ _ _ _ _ _ _ _ _ _ _ _ _ _ _ _ _ _ _ ?_
  unfold exec_Exec_run.V6
  simp only [nilV_some, add_mk, Int.toNat_natCast, Nat.zero_add]
  refine ⟨by omega, _, _, _, i0, i1, i2, s.put i _ (fun w5 s5 c5 => ⟨_, c5.c0, cond_true' (by simpa using o1) ⟨_, c5.c0, ?_⟩⟩)⟩
  refine exec_Exec_run.step7 _ _ _ _ _ _ _ _ _ _ _ _ _ _ _ _ _ _ _ _ _ _ _ ?_
  unfold exec_Exec_run.V7
  refine cond_true' (by simpa using o2) ?_
  by_cases e : fuel = 0
  · subst e
    refine cond_true' rfl (exec_Exec_run.step8 _ _ _ _ _ ?_)
    exact h0 rfl w5 s5
  · refine cond_false' (by simpa using e) ?_
    rw [wrap_i64 (x := fuel - 1) (by omega) (by omega), nx pc (by omega)]
    exact h1 (by omega) w5 s5 c5
/-- A cell that costs nothing. -/
theorem fetch0 (s : RS E c g r w F ms h S fr) (hf : E.fs[fi]? = some f) (hi : f.cells[pc]? = some i) (o1 : i.op = 224 ∨ i.op = 11) (hpc : pc ≤ 100000)
    (h1 : ∀ w', RS E c g r w' F ms h S fr → CI w' c i → RL9 E c g r fi f sp fuel w17 (pc + 1) base floor depth R w') : RL E c g r fi f sp fuel w17 pc base floor depth R w := by
  obtain ⟨lt, i0, i1, i2⟩ := s.ins hf hi
  refine exec_Exec_run.step6 _ _ _ _ _ _ _ _ _ _ _ _ _ _ _ _ _ _ _ _ _ _ ?_
  unfold exec_Exec_run.V6
  simp only [nilV_some, add_mk, Int.toNat_natCast, Nat.zero_add]
  refine ⟨by omega, _, _, _, i0, i1, i2, s.put i _ (fun w5 s5 c5 => ⟨_, c5.c0, ?_⟩)⟩
  have fin : exec_Exec_run.L7 (some ⟨E.A.xb, 0, none⟩) (sp : Int) fuel (some ⟨E.A.kb, 0, none⟩) 120 120 (E.P.nIm : Int) (some ⟨E.nbs fi, 0, none⟩) f.cells.length f.cells.length (some ⟨E.fb, fi * 4, none⟩) c g r w17 (IntKind.wrap .i64 ((pc : Int) + 1)) (base : Int) (floor : Int) (depth : Int) false R (fun _ _ => False) w5 := by
    refine exec_Exec_run.step7 _ _ _ _ _ _ _ _ _ _ _ _ _ _ _ _ _ _ _ _ _ _ _ ?_
    unfold exec_Exec_run.V7
    refine cond_false' rfl ?_
    rw [nx pc (by omega)]
    exact h1 w5 s5 c5
  rcases o1 with o | o
  · exact cond_false' (by rw [o]; rfl) fin
  · refine cond_true' (by rw [o]; rfl) ⟨_, c5.c0, ?_⟩
    have : (i.op != (11 : Int)) = false := by rw [o]; rfl
    rw [this]
    exact fin
theorem to13 (ci : CI w c i) (ho : i.op ≠ 0 ∧ i.op ≠ 1 ∧ i.op ≠ 4 ∧ i.op ≠ 224 ∧ i.op ≠ 13 ∧ i.op ≠ 12 ∧ i.op ≠ 14 ∧ i.op ≠ 15 ∧ i.op ≠ 11) (h1 : RL13 E c g r fi f sp fuel w17 pc base floor depth i.op R w) : RL9 E c g r fi f sp fuel w17 pc base floor depth R w := by
  refine exec_Exec_run.step9 _ _ _ _ _ _ _ _ _ _ _ _ _ _ _ _ _ _ _ _ _ _ ?_
  unfold exec_Exec_run.V9
  obtain ⟨a1, a2, a3, a4, a5, a6, a7, a8, a9⟩ := ho
  exact ⟨_, ci.c0, cond_false' (ne_beq a1) (cond_false' (ne_beq a2) (cond_false' (ne_beq a3) (cond_false' (ne_beq a4) (cond_false' (ne_beq a5) (cond_false' (ne_beq a6) (cond_false' (ne_beq a7) (cond_false' (ne_beq a8) (cond_false' (ne_beq a9) h1))))))))⟩

/-! ### local.get, const -/
theorem op_get (s : RS E c g r w F ms h S fr) (hf : E.fs[fi]? = some f) {x y : Int} (hi : f.cells[pc]? = some ⟨32, x, y⟩) (hfu : 0 ≤ fuel ∧ fuel ≤ 9223372036854775807) (hpc : pc ≤ 100000) {n : Nat} (hx : x = (n : Int)) (hb : base + n < 120) (hsp : sp < 120)
    (h0 : fuel = 0 → ∀ w', RS E c g r w' F ms h S fr → R (.tuple #[.int .i64 0, .int .i64 46]) w')
    (h1 : 0 < fuel → ∀ w', RS E c g r w' F ms h (upd S sp (S (base + n))) fr → RL E c g r fi f (sp + 1) (fuel - 1) w17 (pc + 1) base floor depth R w') : RL E c g r fi f sp fuel w17 pc base floor depth R w := by
  refine fetch1 s hf hi (by simp) (by simp) hfu hpc h0 (fun hf0 w1 s1 c1 => to13 c1 (by simp) ?_)
  refine exec_Exec_run.step13 _ _ _ _ _ _ _ _ _ _ _ _ _ _ _ _ _ _ _ _ _ _ _ ?_
  unfold exec_Exec_run.V13
  refine cond_false' rfl (cond_false' rfl (cond_false' rfl (cond_false' rfl (cond_false' rfl (cond_true' rfl ⟨_, c1.c1, ?_⟩)))))
  have e1 : IntKind.wrap .i64 x = (n : Int) := by rw [hx, wrap_i64 (by omega) (by omega)]
  have e2 : IntKind.wrap .i64 ((base : Int) + (n : Int)) = ((base + n : Nat) : Int) := by rw [wrap_i64 (by omega) (by omega)]; omega
  simp only [e1, e2, nilV_some, add_mk, Int.toNat_natCast, Nat.mul_one, Nat.zero_add]
  refine ⟨by omega, _, s1.x.X.st _ hb, by omega, s1.x.X.canK hsp, letW_intro fun w2 hw2 => ?_⟩
  rw [nx sp (by omega)]
  refine h1 hf0 w2 ?_
  rw [hw2]
  exact s1.setSt hsp _
theorem op_const (s : RS E c g r w F ms h S fr) (hf : E.fs[fi]? = some f) {o x y : Int} (hi : f.cells[pc]? = some ⟨o, x, y⟩) (ho : o = 65 ∨ o = 66 ∨ o = 67 ∨ o = 68) (hfu : 0 ≤ fuel ∧ fuel ≤ 9223372036854775807) (hpc : pc ≤ 100000) (hsp : sp < 120)
    (h0 : fuel = 0 → ∀ w', RS E c g r w' F ms h S fr → R (.tuple #[.int .i64 0, .int .i64 46]) w')
    (h1 : 0 < fuel → ∀ w', RS E c g r w' F ms h (upd S sp y) fr → RL E c g r fi f (sp + 1) (fuel - 1) w17 (pc + 1) base floor depth R w') : RL E c g r fi f sp fuel w17 pc base floor depth R w := by
  refine fetch1 s hf hi (by show o ≠ 224; omega) (by show o ≠ 11; omega) hfu hpc h0 (fun hf0 w1 s1 c1 => to13 c1 (by show o ≠ 0 ∧ o ≠ 1 ∧ o ≠ 4 ∧ o ≠ 224 ∧ o ≠ 13 ∧ o ≠ 12 ∧ o ≠ 14 ∧ o ≠ 15 ∧ o ≠ 11; omega) ?_)
  refine exec_Exec_run.step13 _ _ _ _ _ _ _ _ _ _ _ _ _ _ _ _ _ _ _ _ _ _ _ ?_
  unfold exec_Exec_run.V13
  have fin : exec_Exec_run.L17 (some ⟨E.A.xb, 0, none⟩) (sp : Int) (fuel - 1) (some ⟨E.A.kb, 0, none⟩) 120 120 (E.P.nIm : Int) (some ⟨E.nbs fi, 0, none⟩) f.cells.length f.cells.length (some ⟨E.fb, fi * 4, none⟩) c g r w17 ((pc + 1 : Nat) : Int) (base : Int) (floor : Int) (depth : Int) R (fun _ _ => False) w1 := by
    refine exec_Exec_run.step17 _ _ _ _ _ _ _ _ _ _ _ _ _ _ _ _ _ _ _ _ _ _ ?_
    unfold exec_Exec_run.V17
    refine ⟨_, c1.c2, by omega, ?_⟩
    simp only [nilV_some, add_mk, Int.toNat_natCast, Nat.mul_one, Nat.zero_add]
    refine ⟨s1.x.X.canK hsp, letW_intro fun w2 hw2 => ?_⟩
    rw [nx sp (by omega)]
    refine h1 hf0 w2 ?_
    rw [hw2]
    exact s1.setSt hsp _
  rcases ho with rfl | rfl | rfl | rfl
  · exact cond_false' rfl (cond_false' rfl (cond_false' rfl (cond_false' rfl (cond_false' rfl (cond_false' rfl (cond_false' rfl (cond_false' rfl (cond_false' rfl (cond_false' rfl (cond_false' rfl (cond_true' rfl fin)))))))))))
  · exact cond_false' rfl (cond_false' rfl (cond_false' rfl (cond_false' rfl (cond_false' rfl (cond_false' rfl (cond_false' rfl (cond_false' rfl (cond_false' rfl (cond_false' rfl (cond_false' rfl (cond_false' rfl (cond_true' rfl fin))))))))))))
  · exact cond_false' rfl (cond_false' rfl (cond_false' rfl (cond_false' rfl (cond_false' rfl (cond_false' rfl (cond_false' rfl (cond_false' rfl (cond_false' rfl (cond_false' rfl (cond_false' rfl (cond_false' rfl (cond_false' rfl (cond_true' rfl fin)))))))))))))
  · exact cond_false' rfl (cond_false' rfl (cond_false' rfl (cond_false' rfl (cond_false' rfl (cond_false' rfl (cond_false' rfl (cond_false' rfl (cond_false' rfl (cond_false' rfl (cond_false' rfl (cond_false' rfl (cond_false' rfl (cond_false' rfl (cond_true' rfl fin))))))))))))))

/-! ### end, return: out of the outermost frame -/
theorem leave_out (s : RS E c g r w F ms h S fr) (hf : E.fs[fi]? = some f) (hre : f.re ≤ 1) (hsp : f.re = 1 → 1 ≤ sp ∧ sp ≤ 120) (hb : base < 120)
    (h1 : ∀ w', RS E c g r w' F ms h (if f.re = 1 then upd S base (S (sp - 1)) else S) fr → R (.tuple #[.int .i64 fuel, .int .i64 0]) w') :
    exec_Exec_run.L12 (some ⟨E.A.xb, 0, none⟩) (sp : Int) fuel (some ⟨E.A.kb, 0, none⟩) 120 120 (E.P.nIm : Int) (some ⟨E.fb, fi * 4, none⟩) c g r w17 (base : Int) ((0 : Nat) : Int) R (fun _ _ => False) w := by
  have rec_ : ∀ (w1 : World) {S1 : Nat → Int}, RS E c g r w1 F ms h S1 fr → w1.cell? ⟨E.fb, fi * 4 + 2, none⟩ = some (.int .i64 (f.re : Int)) := fun w1 S1 s1 => by
    obtain ⟨_, _, e3⟩ := s1.x.M.cd (by intro e; rw [e] at hf; cases hf)
    exact (e3 fi f hf).2.2.1
  have fin : ∀ (w1 : World) (S1 : Nat → Int), RS E c g r w1 F ms h S1 fr → R (.tuple #[.int .i64 fuel, .int .i64 0]) w1 → exec_Exec_run.L15 (some ⟨E.A.xb, 0, none⟩) fuel (some ⟨E.A.kb, 0, none⟩) 120 120 (E.P.nIm : Int) (some ⟨E.fb, fi * 4, none⟩) c g r w17 (base : Int) ((0 : Nat) : Int) R (fun _ _ => False) w1 := by
    intro w1 S1 s1 q
    refine exec_Exec_run.step15 _ _ _ _ _ _ _ _ _ _ _ _ _ _ _ _ ?_
    unfold exec_Exec_run.V15
    exact ⟨_, rec_ w1 s1, cond_true' rfl q⟩
  refine exec_Exec_run.step12 _ _ _ _ _ _ _ _ _ _ _ _ _ _ _ _ _ ?_
  unfold exec_Exec_run.V12
  refine ⟨_, rec_ w s, ?_⟩
  by_cases e : f.re = 1
  · obtain ⟨p1, p2⟩ := hsp e
    have e1 : IntKind.wrap .i64 ((sp : Int) - 1) = ((sp - 1 : Nat) : Int) := by rw [wrap_i64 (by omega) (by omega)]; omega
    simp only [e1, nilV_some, add_mk, Int.toNat_natCast, Nat.mul_one, Nat.zero_add]
    refine cond_true' (by rw [e]; rfl) ⟨by omega, _, s.x.X.st _ (by omega), by omega, s.x.X.canK hb, letW_intro fun w2 hw2 => ?_⟩
    have s2 : RS E c g r w2 F ms h (upd S base (S (sp - 1))) fr := by rw [hw2]; exact s.setSt hb _
    exact fin w2 _ s2 (h1 w2 (by rw [if_pos e]; exact s2))
  · refine cond_false' ?_ (fin w S s (h1 w (by rw [if_neg e]; exact s)))
    have : f.re = 0 := by omega
    rw [this]; rfl
theorem op_end_out (s : RS E c g r w F ms h S fr) (hf : E.fs[fi]? = some f) {x y : Int} (hi : f.cells[pc]? = some ⟨11, x, y⟩) (hpc : pc ≤ 100000) (hre : f.re ≤ 1) (hsp : f.re = 1 → 1 ≤ sp ∧ sp ≤ 120) (hb : base < 120)
    (h1 : ∀ w', RS E c g r w' F ms h (if f.re = 1 then upd S base (S (sp - 1)) else S) fr → R (.tuple #[.int .i64 fuel, .int .i64 0]) w') : RL E c g r fi f sp fuel w17 pc base floor 0 R w := by
  refine fetch0 s hf hi (.inr rfl) hpc (fun w1 s1 c1 => ?_)
  refine exec_Exec_run.step9 _ _ _ _ _ _ _ _ _ _ _ _ _ _ _ _ _ _ _ _ _ _ ?_
  unfold exec_Exec_run.V9
  exact ⟨_, c1.c0, cond_false' rfl (cond_false' rfl (cond_false' rfl (cond_false' rfl (cond_false' rfl (cond_false' rfl (cond_false' rfl (cond_false' rfl (cond_true' rfl (leave_out s1 hf hre hsp hb h1)))))))))⟩
end
end Go.Proofs.Qxb6500317aGreat
