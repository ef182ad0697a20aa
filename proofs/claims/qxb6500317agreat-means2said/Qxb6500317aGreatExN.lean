/-
  The loop: the other cells.
-/
import Derived.Test.Qxb6500317aGreatExI
set_option linter.unusedSimpArgs false
set_option linter.unusedVariables false
set_option maxRecDepth 100000
set_option linter.unusedSectionVars false
set_option maxHeartbeats 1000000
namespace Go.Proofs.Qxb6500317aGreat
open Go Go.Vc

section
variable {E : RE} {c g r fi : Nat} {f : FF} {w w' : World} {F : List Nat} {ms : M.MS} {h : HS} {S fr : Nat → Int} {sp pc base floor depth : Nat} {fuel w17 : Int} {R : Value → World → Prop} {i : Ins}
theorem pred1 {n : Nat} (h1 : 1 ≤ n) (h2 : n ≤ 120) : IntKind.wrap .i64 ((n : Int) - 1) = ((n - 1 : Nat) : Int) := by rw [wrap_i64 (by omega) (by omega)]; omega
theorem pred2 {n : Nat} (h1 : 2 ≤ n) (h2 : n ≤ 120) : IntKind.wrap .i64 ((n : Int) - 2) = ((n - 2 : Nat) : Int) := by rw [wrap_i64 (by omega) (by omega)]; omega
theorem wrapN {n : Nat} (h2 : n ≤ 100000) : IntKind.wrap .i64 (n : Int) = (n : Int) := wrap_i64 (by omega) (by omega)
theorem op_if (s : RS E c g r w F ms h S fr) (hf : E.fs[fi]? = some f) {x y : Int} (hi : f.cells[pc]? = some ⟨4, x, y⟩) (hfu : 0 ≤ fuel ∧ fuel ≤ 9223372036854775807) (hpc : pc ≤ 100000) {tgt : Nat} (hx : x = (tgt : Int)) (ht1 : tgt ≤ 100000) (hsp : 1 ≤ sp ∧ sp ≤ 120)
    (h0 : fuel = 0 → ∀ w', RS E c g r w' F ms h S fr → R (.tuple #[.int .i64 0, .int .i64 46]) w')
    (h1 : 0 < fuel → S (sp - 1) = 0 → ∀ w', RS E c g r w' F ms h S fr → RL E c g r fi f (sp - 1) (fuel - 1) w17 tgt base floor depth R w')
    (h2 : 0 < fuel → S (sp - 1) ≠ 0 → ∀ w', RS E c g r w' F ms h S fr → RL E c g r fi f (sp - 1) (fuel - 1) w17 (pc + 1) base floor depth R w') : RL E c g r fi f sp fuel w17 pc base floor depth R w := by
  refine fetch1 s hf hi (by simp) (by simp) hfu hpc h0 (fun hf0 w1 s1 c1 => ?_)
  refine exec_Exec_run.step9 _ _ _ _ _ _ _ _ _ _ _ _ _ _ _ _ _ _ _ _ _ _ ?_
  unfold exec_Exec_run.V9
  refine ⟨_, c1.c0, cond_false' rfl (cond_false' rfl (cond_true' rfl ?_))⟩
  have e3 : IntKind.wrap .i64 x = (tgt : Int) := by rw [hx, wrapN ht1]
  simp only [pred1 hsp.1 hsp.2, nilV_some, add_mk, Int.toNat_natCast, Nat.mul_one, Nat.zero_add]
  refine ⟨by omega, _, s1.x.X.st _ (by omega), ?_⟩
  by_cases q : S (sp - 1) = 0
  · refine cond_true' (by simpa using q) ⟨_, c1.c1, ?_⟩
    simp only [e3]
    exact h1 hf0 q w1 s1
  · exact cond_false' (by simpa using q) (h2 hf0 q w1 s1)
theorem op_jump (s : RS E c g r w F ms h S fr) (hf : E.fs[fi]? = some f) {x y : Int} (hi : f.cells[pc]? = some ⟨224, x, y⟩) (hpc : pc ≤ 100000) {tgt : Nat} (hx : x = (tgt : Int)) (ht1 : tgt ≤ 100000)
    (h1 : ∀ w', RS E c g r w' F ms h S fr → RL E c g r fi f sp fuel w17 tgt base floor depth R w') : RL E c g r fi f sp fuel w17 pc base floor depth R w := by
  refine fetch0 s hf hi (.inl rfl) hpc (fun w1 s1 c1 => ?_)
  refine exec_Exec_run.step9 _ _ _ _ _ _ _ _ _ _ _ _ _ _ _ _ _ _ _ _ _ _ ?_
  unfold exec_Exec_run.V9
  have e3 : IntKind.wrap .i64 x = (tgt : Int) := by rw [hx, wrapN ht1]
  refine ⟨_, c1.c0, cond_false' rfl (cond_false' rfl (cond_false' rfl (cond_true' rfl ⟨_, c1.c1, ?_⟩)))⟩
  simp only [e3]
  exact h1 w1 s1
theorem op_nop (s : RS E c g r w F ms h S fr) (hf : E.fs[fi]? = some f) {x y : Int} (hi : f.cells[pc]? = some ⟨1, x, y⟩) (hfu : 0 ≤ fuel ∧ fuel ≤ 9223372036854775807) (hpc : pc ≤ 100000)
    (h0 : fuel = 0 → ∀ w', RS E c g r w' F ms h S fr → R (.tuple #[.int .i64 0, .int .i64 46]) w')
    (h1 : 0 < fuel → ∀ w', RS E c g r w' F ms h S fr → RL E c g r fi f sp (fuel - 1) w17 (pc + 1) base floor depth R w') : RL E c g r fi f sp fuel w17 pc base floor depth R w := by
  refine fetch1 s hf hi (by simp) (by simp) hfu hpc h0 (fun hf0 w1 s1 c1 => ?_)
  refine exec_Exec_run.step9 _ _ _ _ _ _ _ _ _ _ _ _ _ _ _ _ _ _ _ _ _ _ ?_
  unfold exec_Exec_run.V9
  exact ⟨_, c1.c0, cond_false' rfl (cond_true' rfl (h1 hf0 w1 s1))⟩
theorem op_unreachable (s : RS E c g r w F ms h S fr) (hf : E.fs[fi]? = some f) {x y : Int} (hi : f.cells[pc]? = some ⟨0, x, y⟩) (hfu : 0 ≤ fuel ∧ fuel ≤ 9223372036854775807) (hpc : pc ≤ 100000)
    (h0 : fuel = 0 → ∀ w', RS E c g r w' F ms h S fr → R (.tuple #[.int .i64 0, .int .i64 46]) w')
    (h1 : 0 < fuel → ∀ w', RS E c g r w' F ms h S fr → R (.tuple #[.int .i64 (fuel - 1), .int .i64 38]) w') : RL E c g r fi f sp fuel w17 pc base floor depth R w := by
  refine fetch1 s hf hi (by simp) (by simp) hfu hpc h0 (fun hf0 w1 s1 c1 => ?_)
  refine exec_Exec_run.step9 _ _ _ _ _ _ _ _ _ _ _ _ _ _ _ _ _ _ _ _ _ _ ?_
  unfold exec_Exec_run.V9
  exact ⟨_, c1.c0, cond_true' rfl (exec_Exec_run.step8 _ _ _ _ _ (h1 hf0 w1 s1))⟩
/-! ### drop, tee -/
theorem op_drop (s : RS E c g r w F ms h S fr) (hf : E.fs[fi]? = some f) {x y : Int} (hi : f.cells[pc]? = some ⟨26, x, y⟩) (hfu : 0 ≤ fuel ∧ fuel ≤ 9223372036854775807) (hpc : pc ≤ 100000) (hsp : 1 ≤ sp ∧ sp ≤ 120)
    (h0 : fuel = 0 → ∀ w', RS E c g r w' F ms h S fr → R (.tuple #[.int .i64 0, .int .i64 46]) w')
    (h1 : 0 < fuel → ∀ w', RS E c g r w' F ms h S fr → RL E c g r fi f (sp - 1) (fuel - 1) w17 (pc + 1) base floor depth R w') : RL E c g r fi f sp fuel w17 pc base floor depth R w := by
  refine fetch1 s hf hi (by simp) (by simp) hfu hpc h0 (fun hf0 w1 s1 c1 => to13 c1 (by simp) ?_)
  refine exec_Exec_run.step13 _ _ _ _ _ _ _ _ _ _ _ _ _ _ _ _ _ _ _ _ _ _ _ ?_
  unfold exec_Exec_run.V13
  refine cond_false' rfl (cond_false' rfl (cond_false' rfl (cond_true' rfl ?_)))
  refine exec_Exec_run.step16 _ _ _ _ _ _ _ _ _ _ _ _ _ _ _ _ _ _ _ _ _ _ ?_
  unfold exec_Exec_run.V16
  rw [pred1 hsp.1 hsp.2]
  exact h1 hf0 w1 s1
theorem op_tee (s : RS E c g r w F ms h S fr) (hf : E.fs[fi]? = some f) {x y : Int} (hi : f.cells[pc]? = some ⟨34, x, y⟩) (hfu : 0 ≤ fuel ∧ fuel ≤ 9223372036854775807) (hpc : pc ≤ 100000) {n : Nat} (hx : x = (n : Int)) (hb : base + n < 120) (hsp : 1 ≤ sp ∧ sp ≤ 120)
    (h0 : fuel = 0 → ∀ w', RS E c g r w' F ms h S fr → R (.tuple #[.int .i64 0, .int .i64 46]) w')
    (h1 : 0 < fuel → ∀ w', RS E c g r w' F ms h (upd S (base + n) (S (sp - 1))) fr → RL E c g r fi f sp (fuel - 1) w17 (pc + 1) base floor depth R w') : RL E c g r fi f sp fuel w17 pc base floor depth R w := by
  refine fetch1 s hf hi (by simp) (by simp) hfu hpc h0 (fun hf0 w1 s1 c1 => to13 c1 (by simp) ?_)
  refine exec_Exec_run.step13 _ _ _ _ _ _ _ _ _ _ _ _ _ _ _ _ _ _ _ _ _ _ _ ?_
  unfold exec_Exec_run.V13
  refine cond_false' rfl (cond_false' rfl (cond_false' rfl (cond_false' rfl (cond_true' rfl ?_))))
  have sd := s1.drew
  have cd := c1.keep (Same.refl [] _ _).drew
  have e1 : IntKind.wrap .i64 x = (n : Int) := by rw [hx, wrap_i64 (by omega) (by omega)]
  have e2 : IntKind.wrap .i64 ((base : Int) + (n : Int)) = ((base + n : Nat) : Int) := by rw [wrap_i64 (by omega) (by omega)]; omega
  refine ⟨rfl, rfl, rfl, _, cd.c1, ?_⟩
  simp only [e1, e2, pred1 hsp.1 hsp.2, nilV_some, add_mk, Int.toNat_natCast, Nat.mul_one, Nat.zero_add, true_and]
  refine ⟨by omega, _, sd.x.X.st _ (by omega), by omega, sd.x.X.canK hb, letW_intro fun w2 hw2 => ?_⟩
  refine h1 hf0 w2 ?_
  rw [hw2]
  exact sd.setSt hb _
/-! ### Globals -/
theorem op_gget (s : RS E c g r w F ms h S fr) (hf : E.fs[fi]? = some f) {x y : Int} (hi : f.cells[pc]? = some ⟨35, x, y⟩) (hfu : 0 ≤ fuel ∧ fuel ≤ 9223372036854775807) (hpc : pc ≤ 100000) {n : Nat} (hx : x = (n : Int)) (hn : n < ms.ng) (hn4 : n ≤ 100000) (hsp : sp < 120)
    (h0 : fuel = 0 → ∀ w', RS E c g r w' F ms h S fr → R (.tuple #[.int .i64 0, .int .i64 46]) w')
    (h1 : 0 < fuel → ∀ w', RS E c g r w' F ms h (upd S sp (ms.glob n)) fr → RL E c g r fi f (sp + 1) (fuel - 1) (ms.glob n) (pc + 1) base floor depth R w') : RL E c g r fi f sp fuel w17 pc base floor depth R w := by
  refine fetch1 s hf hi (by simp) (by simp) hfu hpc h0 (fun hf0 w1 s1 c1 => to13 c1 (by simp) ?_)
  refine exec_Exec_run.step13 _ _ _ _ _ _ _ _ _ _ _ _ _ _ _ _ _ _ _ _ _ _ _ ?_
  unfold exec_Exec_run.V13
  refine cond_false' rfl (cond_false' rfl (cond_false' rfl (cond_false' rfl (cond_false' rfl (cond_false' rfl (cond_false' rfl (cond_true' rfl ?_)))))))
  have sd := s1.drew
  have cd := c1.keep (Same.refl [] _ _).drew
  have e1 : IntKind.wrap .i64 x = (n : Int) := by rw [hx, wrapN hn4]
  have k3 := sd.x.X.c3
  have k1 : _ = some (Value.int .u32 x) := cd.c1
  simp only [nilV_some, add_mk, Int.toNat_natCast, Nat.mul_one, Nat.zero_add, and_true]
  have tail : RunsQ Tryz.prog mem_Store_Global.id #[rp E.A.p, .int .i64 (IntKind.wrap .i64 x)] w1.drew (fun r114 w115 => (∃ x116 : Int, ∃ x117 : Int, (r114 = (.tuple #[(.int .u64 x116), (.int .i64 x117)]) ∧ ((0 ≤ (sp : Int) ∧ (sp : Int) < ((120 : Nat) : Int)) ∧ (can w115 ⟨E.A.kb, sp, none⟩ ∧ letW (World.setCell w115 ⟨E.A.kb, sp, none⟩ (.int .u64 x116)) fun w119 => (exec_Exec_run.L6 (some ⟨E.A.xb, 0, none⟩) (IntKind.wrap .i64 ((sp : Int) + (1 : Int))) (fuel - 1) (some ⟨E.A.kb, 0, none⟩) 120 120 (E.P.nIm : Int) (some ⟨E.nbs fi, 0, none⟩) f.cells.length f.cells.length (some ⟨E.fb, fi * 4, none⟩) c g r x116 ((pc + 1 : Nat) : Int) (base : Int) (floor : Int) (depth : Int) R (fun _ _ => False) w119)))))) (fun _ _ => False) := by
    rw [e1]
    refine RunsQ.post (M.Global_spec _ _ _ _ sd.x.X.mt sd.x.X.wf _) ?_
    rintro v w2 ⟨rfl, hw2⟩
    subst hw2
    rw [if_pos (by omega)]
    refine ⟨_, _, rfl, by omega, sd.x.X.canK hsp, letW_intro fun w3 hw3 => ?_⟩
    rw [nx sp (by omega), Int.toNat_natCast]
    refine h1 hf0 w3 ?_
    rw [hw3, Int.toNat_natCast]
    exact sd.setSt hsp _
  repeat' first
    | exact tail
    | refine ⟨_, k3, ?_⟩
    | refine ⟨_, k1, ?_⟩
    | refine And.intro ?_ ?_
theorem op_gset (s : RS E c g r w F ms h S fr) (hf : E.fs[fi]? = some f) {x y : Int} (hi : f.cells[pc]? = some ⟨36, x, y⟩) (hfu : 0 ≤ fuel ∧ fuel ≤ 9223372036854775807) (hpc : pc ≤ 100000) {n : Nat} (hx : x = (n : Int)) (hn4 : n ≤ 100000) (hsp : 1 ≤ sp ∧ sp ≤ 120) (hS : SW S)
    (h0 : fuel = 0 → ∀ w', RS E c g r w' F ms h S fr → R (.tuple #[.int .i64 0, .int .i64 46]) w')
    (h1 : 0 < fuel → ∀ w', RS E c g r w' F (ms.setGlobal (n : Int) (S (sp - 1))).2 h S fr → RL E c g r fi f (sp - 1) (fuel - 1) w17 (pc + 1) base floor depth R w') : RL E c g r fi f sp fuel w17 pc base floor depth R w := by
  refine fetch1 s hf hi (by simp) (by simp) hfu hpc h0 (fun hf0 w1 s1 c1 => to13 c1 (by simp) ?_)
  refine exec_Exec_run.step13 _ _ _ _ _ _ _ _ _ _ _ _ _ _ _ _ _ _ _ _ _ _ _ ?_
  unfold exec_Exec_run.V13
  refine cond_false' rfl (cond_false' rfl (cond_false' rfl (cond_false' rfl (cond_false' rfl (cond_false' rfl (cond_false' rfl (cond_false' rfl (cond_true' rfl ?_))))))))
  have sd := s1.drew
  have cd := c1.keep (Same.refl [] _ _).drew
  have e1 : IntKind.wrap .i64 x = (n : Int) := by rw [hx, wrapN hn4]
  simp only [pred1 hsp.1 hsp.2, nilV_some, add_mk, Int.toNat_natCast, Nat.mul_one, Nat.zero_add, true_and]
  have ws := hS (sp - 1)
  refine ⟨_, sd.x.X.c3, _, cd.c1, by omega, _, sd.x.X.st _ (by omega), ?_⟩
  show RunsQ _ _ #[_, .int .i64 (IntKind.wrap .i64 x), _] _ _ _
  rw [e1]
  refine RunsQ.post (M.SetGlobal_spec _ _ _ _ sd.x.X.mt sd.x.X.wf _ _) ?_
  rintro v w2 ⟨rfl, hm, S2⟩
  exact ⟨_, rfl, h1 hf0 w2 (sd.store S2 (by simp) hm (M.setGlobal_wf _ sd.x.X.wf _ _ ws.1 ws.2))⟩
/-! ### Memory -/
theorem op_msize (s : RS E c g r w F ms h S fr) (hf : E.fs[fi]? = some f) {x y : Int} (hi : f.cells[pc]? = some ⟨63, x, y⟩) (hfu : 0 ≤ fuel ∧ fuel ≤ 9223372036854775807) (hpc : pc ≤ 100000) (hsp : sp < 120)
    (h0 : fuel = 0 → ∀ w', RS E c g r w' F ms h S fr → R (.tuple #[.int .i64 0, .int .i64 46]) w')
    (h1 : 0 < fuel → ∀ w', RS E c g r w' F ms h (upd S sp ((ms.n / 64 : Nat) : Int)) fr → RL E c g r fi f (sp + 1) (fuel - 1) w17 (pc + 1) base floor depth R w') : RL E c g r fi f sp fuel w17 pc base floor depth R w := by
  refine fetch1 s hf hi (by simp) (by simp) hfu hpc h0 (fun hf0 w1 s1 c1 => to13 c1 (by simp) ?_)
  refine exec_Exec_run.step13 _ _ _ _ _ _ _ _ _ _ _ _ _ _ _ _ _ _ _ _ _ _ _ ?_
  unfold exec_Exec_run.V13
  refine cond_false' rfl (cond_false' rfl (cond_false' rfl (cond_false' rfl (cond_false' rfl (cond_false' rfl (cond_false' rfl (cond_false' rfl (cond_false' rfl (cond_true' rfl ?_)))))))))
  have hw1 := s1.x.X.wf.ncap; have hw2 := s1.x.X.wf.cap384
  simp only [nilV_some, add_mk, Int.toNat_natCast, Nat.mul_one, Nat.zero_add]
  refine ⟨_, s1.x.X.c3, RunsQ.post (M.Pages_spec _ _ _ _ s1.x.X.mt s1.x.X.wf) ?_⟩
  rintro v w2 ⟨rfl, hw2'⟩
  subst hw2'
  have e1 : IntKind.wrap .u64 ((ms.n / 64 : Nat) : Int) = ((ms.n / 64 : Nat) : Int) := wrap_u64 (by omega) (by omega)
  refine ⟨_, rfl, by omega, s1.x.X.canK hsp, letW_intro fun w3 hw3 => ?_⟩
  rw [nx sp (by omega)]
  refine h1 hf0 w3 ?_
  rw [hw3, e1]
  exact s1.setSt hsp _
theorem op_mgrow (s : RS E c g r w F ms h S fr) (hf : E.fs[fi]? = some f) {x y : Int} (hi : f.cells[pc]? = some ⟨64, x, y⟩) (hfu : 0 ≤ fuel ∧ fuel ≤ 9223372036854775807) (hpc : pc ≤ 100000) (hsp : 1 ≤ sp ∧ sp ≤ 120) {d : Int} (hd : S (sp - 1) = d) (hd0 : 0 ≤ d) (hd1 : d < 4294967296) (hg : 0 ≤ (ms.grow d).1 ∧ (ms.grow d).1 < 4294967296)
    (h0 : fuel = 0 → ∀ w', RS E c g r w' F ms h S fr → R (.tuple #[.int .i64 0, .int .i64 46]) w')
    (h1 : 0 < fuel → ∀ w', RS E c g r w' F (ms.grow d).2 h (upd S (sp - 1) (ms.grow d).1) fr → RL E c g r fi f sp (fuel - 1) (ms.grow d).1 (pc + 1) base floor depth R w') : RL E c g r fi f sp fuel w17 pc base floor depth R w := by
  refine fetch1 s hf hi (by simp) (by simp) hfu hpc h0 (fun hf0 w1 s1 c1 => to13 c1 (by simp) ?_)
  refine exec_Exec_run.step13 _ _ _ _ _ _ _ _ _ _ _ _ _ _ _ _ _ _ _ _ _ _ _ ?_
  unfold exec_Exec_run.V13
  refine cond_false' rfl (cond_false' rfl (cond_false' rfl (cond_false' rfl (cond_false' rfl (cond_false' rfl (cond_false' rfl (cond_false' rfl (cond_false' rfl (cond_false' rfl (cond_true' rfl ?_))))))))))
  have sd := s1.drew
  have e1 : IntKind.wrap .u32 (S (sp - 1)) = d := by rw [hd, wrap_u32 (by omega) (by omega)]
  simp only [pred1 hsp.1 hsp.2, nilV_some, add_mk, Int.toNat_natCast, Nat.mul_one, Nat.zero_add, true_and]
  refine ⟨_, sd.x.X.c3, by omega, _, sd.x.X.st _ (by omega), ?_⟩
  rw [e1]
  refine RunsQ.post (M.Grow_spec _ _ _ _ sd.x.X.mt sd.x.X.wf d hd0 hd1) ?_
  rintro v w2 ⟨rfl, hm, S2⟩
  have s2 := sd.store S2 (by simp) hm (M.grow_wf _ sd.x.X.wf d hd0)
  have e2 : IntKind.wrap .u64 (ms.grow d).1 = (ms.grow d).1 := wrap_u64 (by omega) (by omega)
  refine ⟨_, rfl, by omega, s2.x.X.canK (by omega), letW_intro fun w3 hw3 => ?_⟩
  rw [e2]
  refine h1 hf0 w3 ?_
  rw [hw3, e2]
  exact s2.setSt (by omega) _
end
end Go.Proofs.Qxb6500317aGreat
