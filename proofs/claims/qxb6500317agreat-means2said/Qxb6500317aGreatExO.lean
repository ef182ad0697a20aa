/-
  The loop: numbers of its own, loads and stores, calls and returns within.
-/
import Derived.Test.Qxb6500317aGreatExN
set_option linter.unusedSimpArgs false
set_option linter.unusedVariables false
set_option maxRecDepth 100000
set_option linter.unusedSectionVars false
set_option maxHeartbeats 1000000
namespace Go.Proofs.Qxb6500317aGreat
open Go Go.Vc

section
variable {E : RE} {c g r fi : Nat} {f : FF} {w w' : World} {F : List Nat} {ms : M.MS} {h : HS} {S fr : Nat → Int} {sp pc base floor depth : Nat} {fuel w17 : Int} {R : Value → World → Prop} {i : Ins}
theorem to18 (ci : CI w c i) (ho : i.op ≠ 0 ∧ i.op ≠ 1 ∧ i.op ≠ 4 ∧ i.op ≠ 224 ∧ i.op ≠ 13 ∧ i.op ≠ 12 ∧ i.op ≠ 14 ∧ i.op ≠ 15 ∧ i.op ≠ 11) (h2 : i.op ≠ 16 ∧ i.op ≠ 17 ∧ i.op ≠ 33 ∧ i.op ≠ 26 ∧ i.op ≠ 34 ∧ i.op ≠ 32 ∧ i.op ≠ 27 ∧ i.op ≠ 35 ∧ i.op ≠ 36 ∧ i.op ≠ 63 ∧ i.op ≠ 64 ∧ i.op ≠ 65 ∧ i.op ≠ 66 ∧ i.op ≠ 67 ∧ i.op ≠ 68)
    (h1 : exec_Exec_run.L18 (some ⟨E.A.xb, 0, none⟩) (sp : Int) fuel (some ⟨E.A.kb, 0, none⟩) 120 120 (E.P.nIm : Int) (some ⟨E.nbs fi, 0, none⟩) f.cells.length f.cells.length (some ⟨E.fb, fi * 4, none⟩) c g r w17 (pc : Int) (base : Int) (floor : Int) (depth : Int) i.op R (fun _ _ => False) w) : RL9 E c g r fi f sp fuel w17 pc base floor depth R w := by
  refine to13 ci ho ?_
  refine exec_Exec_run.step13 _ _ _ _ _ _ _ _ _ _ _ _ _ _ _ _ _ _ _ _ _ _ _ ?_
  unfold exec_Exec_run.V13
  obtain ⟨a1, a2, a3, a4, a5, a6, a7, a8, a9, a10, a11, a12, a13, a14, a15⟩ := h2
  exact cond_false' (ne_beq a1) (cond_false' (ne_beq a2) (cond_false' (ne_beq a3) (cond_false' (ne_beq a4) (cond_false' (ne_beq a5) (cond_false' (ne_beq a6) (cond_false' (ne_beq a7) (cond_false' (ne_beq a8) (cond_false' (ne_beq a9) (cond_false' (ne_beq a10) (cond_false' (ne_beq a11) (cond_false' (ne_beq a12) (cond_false' (ne_beq a13) (cond_false' (ne_beq a14) (cond_false' (ne_beq a15) h1))))))))))))))
theorem op_eqz (s : RS E c g r w F ms h S fr) (hf : E.fs[fi]? = some f) {x y : Int} (hi : f.cells[pc]? = some ⟨69, x, y⟩) (hfu : 0 ≤ fuel ∧ fuel ≤ 9223372036854775807) (hpc : pc ≤ 100000) (hsp : 1 ≤ sp ∧ sp ≤ 120)
    (h0 : fuel = 0 → ∀ w', RS E c g r w' F ms h S fr → R (.tuple #[.int .i64 0, .int .i64 46]) w')
    (h1 : 0 < fuel → ∀ w', RS E c g r w' F ms h (upd S (sp - 1) (if S (sp - 1) = 0 then 1 else 0)) fr → RL E c g r fi f sp (fuel - 1) w17 (pc + 1) base floor depth R w') : RL E c g r fi f sp fuel w17 pc base floor depth R w := by
  refine fetch1 s hf hi (by simp) (by simp) hfu hpc h0 (fun hf0 w1 s1 c1 => to18 c1 (by simp) (by simp) ?_)
  refine exec_Exec_run.step18 _ _ _ _ _ _ _ _ _ _ _ _ _ _ _ _ _ _ _ _ _ _ _ ?_
  unfold exec_Exec_run.V18
  refine cond_true' rfl ?_
  simp only [pred1 hsp.1 hsp.2, nilV_some, add_mk, Int.toNat_natCast, Nat.mul_one, Nat.zero_add]
  refine ⟨by omega, _, s1.x.X.st _ (by omega), ?_⟩
  have h1 := h1 hf0
  by_cases q : S (sp - 1) = 0
  · rw [if_pos q] at h1
    refine cond_true' (by simpa using q) ⟨by omega, s1.x.X.canK (by omega), letW_intro fun w2 hw2 => h1 w2 ?_⟩
    rw [hw2]
    exact s1.setSt (by omega) _
  · rw [if_neg q] at h1
    refine cond_false' (by simpa using q) ⟨by omega, s1.x.X.canK (by omega), letW_intro fun w2 hw2 => h1 w2 ?_⟩
    rw [hw2]
    exact s1.setSt (by omega) _
theorem op_add (s : RS E c g r w F ms h S fr) (hf : E.fs[fi]? = some f) {x y : Int} (hi : f.cells[pc]? = some ⟨106, x, y⟩) (hfu : 0 ≤ fuel ∧ fuel ≤ 9223372036854775807) (hpc : pc ≤ 100000) (hsp : 2 ≤ sp ∧ sp ≤ 120)
    (h0 : fuel = 0 → ∀ w', RS E c g r w' F ms h S fr → R (.tuple #[.int .i64 0, .int .i64 46]) w')
    (h1 : 0 < fuel → ∀ w', RS E c g r w' F ms h (upd S (sp - 2) (bAnd .u64 (IntKind.wrap .u64 (S (sp - 2) + S (sp - 1))) 4294967295)) fr → RL E c g r fi f (sp - 1) (fuel - 1) w17 (pc + 1) base floor depth R w') : RL E c g r fi f sp fuel w17 pc base floor depth R w := by
  refine fetch1 s hf hi (by simp) (by simp) hfu hpc h0 (fun hf0 w1 s1 c1 => to18 c1 (by simp) (by simp) ?_)
  refine exec_Exec_run.step18 _ _ _ _ _ _ _ _ _ _ _ _ _ _ _ _ _ _ _ _ _ _ _ ?_
  unfold exec_Exec_run.V18
  have sd := s1.drew
  refine cond_false' rfl (cond_true' rfl ?_)
  have e2 : IntKind.wrap .i64 (((sp - 1 : Nat) : Int) - 1) = ((sp - 2 : Nat) : Int) := by rw [wrap_i64 (by omega) (by omega)]; omega
  simp only [pred1 (show 1 ≤ sp by omega) hsp.2, e2, nilV_some, add_mk, Int.toNat_natCast, Nat.mul_one, Nat.zero_add, true_and]
  refine ⟨by omega, _, sd.x.X.st _ (by omega), by omega, _, sd.x.X.st _ (by omega), by omega, sd.x.X.canK (by omega), letW_intro fun w2 hw2 => h1 hf0 w2 ?_⟩
  rw [hw2]
  exact sd.setSt (by omega) _
theorem op_num1 (s : RS E c g r w F ms h S fr) (hf : E.fs[fi]? = some f) {o x y : Int} (hi : f.cells[pc]? = some ⟨o, x, y⟩) (ho : 70 ≤ o ∧ o ≤ 191 ∧ o ≠ 106) (ht : exec_two.F o = false) (hfu : 0 ≤ fuel ∧ fuel ≤ 9223372036854775807) (hpc : pc ≤ 100000) (hsp : 1 ≤ sp ∧ sp ≤ 120)
    (h0 : fuel = 0 → ∀ w', RS E c g r w' F ms h S fr → R (.tuple #[.int .i64 0, .int .i64 46]) w')
    (hE : 0 < fuel → (U.ap o (S (sp - 1)) 0).2 ≠ 0 → ∀ w', RS E c g r w' F ms h S fr → R (.tuple #[.int .i64 (fuel - 1), .int .i64 (U.ap o (S (sp - 1)) 0).2]) w')
    (h1 : 0 < fuel → (U.ap o (S (sp - 1)) 0).2 = 0 → ∀ w', RS E c g r w' F ms h (upd S (sp - 1) (U.ap o (S (sp - 1)) 0).1) fr → RL E c g r fi f sp (fuel - 1) (U.ap o (S (sp - 1)) 0).1 (pc + 1) base floor depth R w') : RL E c g r fi f sp fuel w17 pc base floor depth R w := by
  refine fetch1 s hf hi (by show o ≠ 224; omega) (by show o ≠ 11; omega) hfu hpc h0 (fun hf0 w1 s1 c1 => to18 c1 (by show o ≠ 0 ∧ o ≠ 1 ∧ o ≠ 4 ∧ o ≠ 224 ∧ o ≠ 13 ∧ o ≠ 12 ∧ o ≠ 14 ∧ o ≠ 15 ∧ o ≠ 11; omega) (by show o ≠ 16 ∧ o ≠ 17 ∧ o ≠ 33 ∧ o ≠ 26 ∧ o ≠ 34 ∧ o ≠ 32 ∧ o ≠ 27 ∧ o ≠ 35 ∧ o ≠ 36 ∧ o ≠ 63 ∧ o ≠ 64 ∧ o ≠ 65 ∧ o ≠ 66 ∧ o ≠ 67 ∧ o ≠ 68; omega) ?_)
  refine exec_Exec_run.step18 _ _ _ _ _ _ _ _ _ _ _ _ _ _ _ _ _ _ _ _ _ _ _ ?_
  unfold exec_Exec_run.V18
  show cond (o == 69) _ _
  refine cond_false' (ne_beq (by omega)) (cond_false' (ne_beq ho.2.2) ⟨_, c1.c0, cond_false' (decide_eq_false (by show ¬ o ≤ 53; omega)) ⟨_, c1.c0, cond_false' (decide_eq_false (by show ¬ o ≤ 62; omega)) ⟨_, c1.c0, RunsQ.post (exec_two.pure _ _) ?_⟩⟩⟩)
  rintro v w2 ⟨rfl, hw2⟩
  subst hw2
  have e3 : IntKind.wrap .i64 o = o := by rw [wrap_i64 (by omega) (by omega)]
  refine ⟨_, rfl, cond_false' ht ?_⟩
  simp only [pred1 hsp.1 hsp.2, e3, nilV_some, add_mk, Int.toNat_natCast, Nat.mul_one, Nat.zero_add, and_true]
  have sd := s1.drew
  have kc : _ = some (Value.int .u8 o) := (c1.keep (Same.refl [] _ _).drew).c0
  have ka := sd.x.X.st (sp - 1) (by omega)
  have tail : RunsQ Tryz.prog num_Apply.id #[.int .i64 (IntKind.wrap .i64 o), .int .u64 (S (sp - 1)), .int .u64 0] w2.drew (fun r101 w102 => (∃ x103 : Int, ∃ x104 : Int, (r101 = (.tuple #[(.int .u64 x103), (.int .i64 x104)]) ∧ exec_Exec_run.L19 (some ⟨E.A.xb, 0, none⟩) (sp : Int) (fuel - 1) (some ⟨E.A.kb, 0, none⟩) 120 120 (E.P.nIm : Int) (some ⟨E.nbs fi, 0, none⟩) f.cells.length f.cells.length (some ⟨E.fb, fi * 4, none⟩) c g r x103 x104 ((pc + 1 : Nat) : Int) (base : Int) (floor : Int) (depth : Int) R (fun _ _ => False) w102))) (fun _ _ => False) := by
    rw [e3]
    refine RunsQ.post (U.Apply_spec o (S (sp - 1)) 0 (by omega) (by omega) _) ?_
    rintro v w3 ⟨rfl, S3⟩
    have s3 := sd.keep S3
    exact ⟨_, _, rfl, num_end s3 (by omega) (by omega) (U.ap o (S (sp - 1)) 0) (fun q => hE hf0 q w3 s3) (fun q w4 s4 => h1 hf0 q w4 s4)⟩
  refine ⟨by omega, ?_⟩
  repeat' first
    | exact tail
    | refine ⟨_, kc, ?_⟩
    | refine ⟨_, ka, ?_⟩
    | refine And.intro ?_ ?_
/-! ### Loads and stores -/
def ldP (ms : M.MS) (b o : Int) : Int × Int := if b + o + 4 ≤ ms.n then (M.loadVal ms.back 40 (b + o).toNat, 0) else (0, 42)
theorem op_load (s : RS E c g r w F ms h S fr) (hf : E.fs[fi]? = some f) {x y : Int} (hi : f.cells[pc]? = some ⟨40, x, y⟩) (hfu : 0 ≤ fuel ∧ fuel ≤ 9223372036854775807) (hpc : pc ≤ 100000) (hsp : 1 ≤ sp ∧ sp ≤ 120) {b : Int} (hb : S (sp - 1) = b) (hb0 : 0 ≤ b) (hb1 : b < 4294967296) (hy : 0 ≤ y ∧ y < 4294967296)
    (h0 : fuel = 0 → ∀ w', RS E c g r w' F ms h S fr → R (.tuple #[.int .i64 0, .int .i64 46]) w')
    (hE : 0 < fuel → (ldP ms b y).2 ≠ 0 → ∀ w', RS E c g r w' F ms h S fr → R (.tuple #[.int .i64 (fuel - 1), .int .i64 (ldP ms b y).2]) w')
    (h1 : 0 < fuel → (ldP ms b y).2 = 0 → ∀ w', RS E c g r w' F ms h (upd S (sp - 1) (ldP ms b y).1) fr → RL E c g r fi f sp (fuel - 1) (ldP ms b y).1 (pc + 1) base floor depth R w') : RL E c g r fi f sp fuel w17 pc base floor depth R w := by
  refine fetch1 s hf hi (by simp) (by simp) hfu hpc h0 (fun hf0 w1 s1 c1 => to18 c1 (by simp) (by simp) ?_)
  refine exec_Exec_run.step18 _ _ _ _ _ _ _ _ _ _ _ _ _ _ _ _ _ _ _ _ _ _ _ ?_
  unfold exec_Exec_run.V18
  refine cond_false' rfl (cond_false' rfl ⟨_, c1.c0, cond_true' rfl ⟨fun w' => RS E c g r w' F ms h S fr ∧ CI w' c ⟨40, x, y⟩, ⟨s1.drew, c1.keep (Same.refl [] _ _).drew⟩, ?_⟩⟩)
  have e1 : IntKind.wrap .u32 b = b := wrap_u32 (by omega) (by omega)
  have e2 : IntKind.wrap .u32 y = y := wrap_u32 (by omega) (by omega)
  have e3 : IntKind.wrap .i64 40 = 40 := rfl
  simp only [pred1 hsp.1 hsp.2, nilV_some, add_mk, Int.toNat_natCast, Nat.mul_one, Nat.zero_add]
  refine ⟨_, fun w' q => q.1.x.X.c3, _, fun w' q => q.2.c0, by omega, _, fun w' q => q.1.x.X.st _ (by omega), _, fun w' q => q.2.c2, (ldP ms b y).1, (ldP ms b y).2, fun w' q => ?_, fun w' q => ?_⟩
  · show Runs _ _ #[_, .int .i64 (IntKind.wrap .i64 40), .int .u32 (IntKind.wrap .u32 (S (sp - 1))), .int .u32 (IntKind.wrap .u32 y)] _ _
    rw [hb, e1, e2, e3]
    refine RunsQ.post (M.Load_spec _ _ _ _ q.1.x.X.mt q.1.x.X.wf 40 b y hb0 hb1 hy.1 hy.2) ?_
    rintro v w2 ⟨rfl, S2⟩
    refine ⟨?_, q.1.keep S2, q.2.keep S2⟩
    rw [if_pos (by omega)]
    unfold ldP
    have : (memSig 40).1 = 4 := rfl
    rw [this]
    split <;> rfl
  · exact num_end q.1 (by omega) (by omega) (ldP ms b y) (fun k => hE hf0 k w' q.1) (fun k w4 s4 => h1 hf0 k w4 s4)
theorem op_store (s : RS E c g r w F ms h S fr) (hf : E.fs[fi]? = some f) {x y : Int} (hi : f.cells[pc]? = some ⟨54, x, y⟩) (hfu : 0 ≤ fuel ∧ fuel ≤ 9223372036854775807) (hpc : pc ≤ 100000) (hsp : 2 ≤ sp ∧ sp ≤ 120) (hS : SW S) {b : Int} (hb : S (sp - 2) = b) (hb0 : 0 ≤ b) (hb1 : b < 4294967296) (hy : 0 ≤ y ∧ y < 4294967296)
    (h0 : fuel = 0 → ∀ w', RS E c g r w' F ms h S fr → R (.tuple #[.int .i64 0, .int .i64 46]) w')
    (hE : 0 < fuel → (ms.save 54 (b + y) (S (sp - 1))).1 ≠ 0 → ∀ w', RS E c g r w' F (ms.save 54 (b + y) (S (sp - 1))).2 h S fr → R (.tuple #[.int .i64 (fuel - 1), .int .i64 (ms.save 54 (b + y) (S (sp - 1))).1]) w')
    (h1 : 0 < fuel → (ms.save 54 (b + y) (S (sp - 1))).1 = 0 → ∀ w', RS E c g r w' F (ms.save 54 (b + y) (S (sp - 1))).2 h S fr → RL E c g r fi f (sp - 2) (fuel - 1) w17 (pc + 1) base floor depth R w') : RL E c g r fi f sp fuel w17 pc base floor depth R w := by
  refine fetch1 s hf hi (by simp) (by simp) hfu hpc h0 (fun hf0 w1 s1 c1 => to18 c1 (by simp) (by simp) ?_)
  refine exec_Exec_run.step18 _ _ _ _ _ _ _ _ _ _ _ _ _ _ _ _ _ _ _ _ _ _ _ ?_
  unfold exec_Exec_run.V18
  have sd := s1.drew
  have cd := c1.keep (Same.refl [] _ _).drew
  refine cond_false' rfl (cond_false' rfl ⟨_, c1.c0, cond_false' rfl ⟨_, c1.c0, cond_true' rfl ?_⟩⟩)
  have e1 : IntKind.wrap .u32 b = b := wrap_u32 (by omega) (by omega)
  have e2 : IntKind.wrap .u32 y = y := wrap_u32 (by omega) (by omega)
  have e3 : IntKind.wrap .i64 54 = 54 := rfl
  have e4 : IntKind.wrap .i64 (((sp - 2 : Nat) : Int) + 1) = ((sp - 1 : Nat) : Int) := by rw [wrap_i64 (by omega) (by omega)]; omega
  have ws := hS (sp - 1)
  simp only [pred2 hsp.1 hsp.2, e4, nilV_some, add_mk, Int.toNat_natCast, Nat.mul_one, Nat.zero_add, true_and]
  refine ⟨_, sd.x.X.c3, _, cd.c0, by omega, _, sd.x.X.st _ (by omega), _, cd.c2, by omega, _, sd.x.X.st _ (by omega), ?_⟩
  show RunsQ _ _ #[_, .int .i64 (IntKind.wrap .i64 54), .int .u32 (IntKind.wrap .u32 (S (sp - 2))), .int .u32 (IntKind.wrap .u32 y), _] _ _ _
  rw [hb, e1, e2, e3]
  refine RunsQ.post (M.Save_spec _ _ _ _ sd.x.X.mt sd.x.X.wf 54 b y _ hb0 hb1 hy.1 hy.2 ws.1 ws.2) ?_
  rintro v w2 ⟨rfl, hm, S2⟩
  have s2 := sd.store S2 (by simp) hm (M.save_wf _ sd.x.X.wf _ _ _)
  refine ⟨_, rfl, ?_⟩
  by_cases q : (ms.save 54 (b + y) (S (sp - 1))).1 = 0
  · exact cond_true' (by simpa using q) (h1 hf0 q w2 s2)
  · refine cond_false' (by simpa using q) ?_
    refine exec_Exec_run.step19 _ _ _ _ _ _ _ _ _ _ _ _ _ _ _ _ _ _ _ _ _ _ _ ?_
    unfold exec_Exec_run.V19
    exact cond_true' (by simpa using q) (exec_Exec_run.step8 _ _ _ _ _ (hE hf0 q w2 s2))
/-! ### Calls within, returns -/
theorem op_call_own (s : RS E c g r w F ms h S fr) (hf : E.fs[fi]? = some f) {x y : Int} (hi : f.cells[pc]? = some ⟨16, x, y⟩) (hfu : 0 ≤ fuel ∧ fuel ≤ 9223372036854775807) (hpc : pc ≤ 100000) {fj : Nat} {fo : FF} (hx : x = ((E.P.nIm + fj : Nat) : Int)) (hfo : E.fs[fj]? = some fo) (hpa : fo.pa ≤ sp) (hlo : sp - fo.pa + fo.lo < 120) (hpl : fo.pa ≤ fo.lo) (hni : E.P.nIm ≤ 100) (hfi : fj ≤ 100) (hd : depth ≤ 5)
    (h0 : fuel = 0 → ∀ w', RS E c g r w' F ms h S fr → R (.tuple #[.int .i64 0, .int .i64 46]) w')
    (hD : 0 < fuel → depth = 5 → ∀ w', RS E c g r w' F ms h S fr → R (.tuple #[.int .i64 (fuel - 1), .int .i64 45]) w')
    (h1 : 0 < fuel → depth < 5 → ∀ w', RS E c g r w' F ms h (zeroS S sp (fo.lo - fo.pa)) (frIn fr (depth + 1) ((pc + 1 : Nat) : Int) fj (sp - fo.pa)) → RL E c g r fj fo (sp - fo.pa + fo.lo) (fuel - 1) w17 0 (sp - fo.pa) (sp - fo.pa + fo.lo) (depth + 1) R w') : RL E c g r fi f sp fuel w17 pc base floor depth R w := by
  refine fetch1 s hf hi (by simp) (by simp) hfu hpc h0 (fun hf0 w1 s1 c1 => to13 c1 (by simp) ?_)
  refine exec_Exec_run.step13 _ _ _ _ _ _ _ _ _ _ _ _ _ _ _ _ _ _ _ _ _ _ _ ?_
  unfold exec_Exec_run.V13
  refine cond_true' rfl ⟨_, c1.c1, ?_⟩
  have e1 : IntKind.wrap .i64 x = ((E.P.nIm + fj : Nat) : Int) := by rw [hx, wrapN (by omega)]
  show exec_Exec_run.L1 _ (IntKind.wrap .i64 x) _ _ _ _ _ _ _ _ _ _ _ _ _ _ _ _ _ _ _ _ _
  rw [e1]
  by_cases q : depth = 5
  · refine exec_Exec_run.step1 _ _ _ _ _ _ _ _ _ _ _ _ _ _ _ _ _ _ _ _ _ _ _ ?_
    unfold exec_Exec_run.V1
    have e6 : IntKind.wrap .i64 ((depth : Int) + 1) = 6 := by rw [q]; rfl
    rw [e6]
    exact cond_false' (decide_eq_false (by omega)) (cond_true' rfl (hD hf0 q w1 s1))
  · have ed : (depth : Int) = ((depth + 1 : Nat) : Int) - 1 := by omega
    rw [ed]
    exact enter_own s1 hfo hpa hlo hpl hni hfi (by omega) (h1 hf0 (by omega))
theorem RS.putR (s : RS E c g r w F ms h S fr) (a0 a1 a2 : Int) (K : World → Prop) (hK : ∀ w', RS E c g r w' F ms h S fr → w'.cell? ⟨r, 0, none⟩ = some (.int .i64 a0) → w'.cell? ⟨r, 1, none⟩ = some (.int .i64 a1) → w'.cell? ⟨r, 2, none⟩ = some (.int .i64 a2) → K w') : putCells w ⟨r, 0, none⟩ [.int .i64 a0, .int .i64 a1, .int .i64 a2] K := by
  refine putCells_intro r _ 0 w K (fun j hj => by rw [Nat.zero_add]; exact s.v.lr j (by simpa using hj)) (fun w' hF => ?_)
  have S1 : Same [r] w.heap.size w w' := hF.same _
  have cc : ∀ j, j < 3 → can w' ⟨r, j, none⟩ := fun j hj => by
    obtain ⟨⟨v, hv⟩, hf⟩ := s.v.lr j hj
    refine ⟨?_, by rw [hF.frozen]; exact hf⟩
    rw [hF.cell r j, if_pos ⟨rfl, by omega, by simp; omega⟩]
    exact ⟨_, List.getElem?_eq_getElem (by simp; omega)⟩
  refine hK w' ⟨s.x.mv S1 (by intro k hk; simp at hk; subst hk; exact s.v.zr), s.v.own S1 (fun j hj => can_mv (s.v.lc j hj) S1 (by simp; exact s.v.ne.2.1)) (fun j hj => can_mv (s.v.lg j hj) S1 (by simp; exact s.v.ne.2.2)) cc⟩ ?_ ?_ ?_
  · rw [hF.cell r 0, if_pos ⟨rfl, by omega, by simp⟩]; rfl
  · rw [hF.cell r 1, if_pos ⟨rfl, by omega, by simp⟩]; rfl
  · rw [hF.cell r 2, if_pos ⟨rfl, by omega, by simp⟩]; rfl
theorem leave_in (s : RS E c g r w F ms h S fr) (hf : E.fs[fi]? = some f) (hre : f.re ≤ 1) (hsp : f.re = 1 → 1 ≤ sp ∧ sp ≤ 120) (hb : base < 120) {d fj pj bj : Nat} {fo : FF} (hd : d ≤ 4) (hfo : E.fs[fj]? = some fo) (f0 : fr (d * 3) = (fj : Int)) (f1 : fr (d * 3 + 1) = (pj : Int)) (f2 : fr (d * 3 + 2) = (bj : Int)) (hbj : bj + fo.lo ≤ 1000)
    (h1 : ∀ w', RS E c g r w' F ms h (if f.re = 1 then upd S base (S (sp - 1)) else S) fr → RL E c g r fj fo (base + f.re) fuel w17 pj bj (bj + fo.lo) d R w') :
    exec_Exec_run.L12 (some ⟨E.A.xb, 0, none⟩) (sp : Int) fuel (some ⟨E.A.kb, 0, none⟩) 120 120 (E.P.nIm : Int) (some ⟨E.fb, fi * 4, none⟩) c g r w17 (base : Int) ((d + 1 : Nat) : Int) R (fun _ _ => False) w := by
  have ne0 : E.fs ≠ [] := by intro e; rw [e] at hf; cases hf
  have lt : fj < E.fs.length := (List.getElem?_eq_some_iff.1 hfo).1
  have rec_ : ∀ (w1 : World) {S1 : Nat → Int}, RS E c g r w1 F ms h S1 fr → w1.cell? ⟨E.fb, fi * 4 + 2, none⟩ = some (.int .i64 (f.re : Int)) := fun w1 S1 s1 => by
    obtain ⟨_, _, e3⟩ := s1.x.M.cd ne0
    exact (e3 fi f hf).2.2.1
  have ed : IntKind.wrap .i64 (((d + 1 : Nat) : Int) - 1) = (d : Int) := by rw [wrap_i64 (by omega) (by omega)]; omega
  have ebr : IntKind.wrap .i64 ((base : Int) + (f.re : Int)) = ((base + f.re : Nat) : Int) := by rw [wrap_i64 (by omega) (by omega)]; omega
  have ebl : IntKind.wrap .i64 ((bj : Int) + (fo.lo : Int)) = ((bj + fo.lo : Nat) : Int) := by rw [wrap_i64 (by omega) (by omega)]; omega
  have fin : ∀ (w1 : World) (S1 : Nat → Int), RS E c g r w1 F ms h S1 fr → (∀ w', RS E c g r w' F ms h S1 fr → RL E c g r fj fo (base + f.re) fuel w17 pj bj (bj + fo.lo) d R w') → exec_Exec_run.L15 (some ⟨E.A.xb, 0, none⟩) fuel (some ⟨E.A.kb, 0, none⟩) 120 120 (E.P.nIm : Int) (some ⟨E.fb, fi * 4, none⟩) c g r w17 (base : Int) ((d + 1 : Nat) : Int) R (fun _ _ => False) w1 := by
    intro w1 S1 s1 q
    refine exec_Exec_run.step15 _ _ _ _ _ _ _ _ _ _ _ _ _ _ _ _ ?_
    unfold exec_Exec_run.V15
    simp only [ed, nilV_some, add_mk, Int.toNat_natCast, Nat.zero_add]
    have k0 := s1.x.X.fr (d * 3) (by omega)
    have k1 := s1.x.X.fr (d * 3 + 1) (by omega)
    have k2 := s1.x.X.fr (d * 3 + 2) (by omega)
    rw [f0] at k0
    rw [f1] at k1
    rw [f2] at k2
    refine ⟨_, rec_ w1 s1, cond_false' (decide_eq_false (by omega)) ⟨by omega, _, _, _, k0, k1, k2, s1.putR _ _ _ _ (fun w2 s2 r0 r1 r2 => ?_)⟩⟩
    have sd := s2.drew
    have dS : Same [] w2.heap.size w2 w2.drew := (Same.refl [] _ _).drew
    obtain ⟨l1, l2, l3⟩ := s2.v.lts
    obtain ⟨e1, e2, e3⟩ := sd.x.M.cd ne0
    obtain ⟨a1, a2, a3, a4, a5, a6⟩ := e3 fj fo hfo
    refine ⟨trivial, trivial, trivial, _, sd.x.H.c6, trivial, ?_⟩
    simp only [ed, nilV_some, add_mk, Int.toNat_natCast, Nat.zero_add, true_and]
    refine ⟨_, _, _, e1, _, (dS.cell (p := ⟨r, 0, none⟩) l3 (by simp)).trans r0, by omega, ?_⟩
    simp only [nilV_some, add_mk, Int.toNat_natCast, Nat.zero_add]
    refine ⟨_, _, _, a4, _, (dS.cell (p := ⟨r, 1, none⟩) l3 (by simp)).trans r1, _, (dS.cell (p := ⟨r, 2, none⟩) l3 (by simp)).trans r2, _, a2, ?_⟩
    rw [ebr, ebl]
    refine exec_Exec_run.step4 _ _ _ _ _ _ _ _ _ _ _ _ _ _ _ _ _ _ _ _ _ _ ?_
    unfold exec_Exec_run.V4
    exact q _ sd
  refine exec_Exec_run.step12 _ _ _ _ _ _ _ _ _ _ _ _ _ _ _ _ _ ?_
  unfold exec_Exec_run.V12
  refine ⟨_, rec_ w s, ?_⟩
  by_cases e : f.re = 1
  · obtain ⟨p1, p2⟩ := hsp e
    simp only [pred1 p1 p2, nilV_some, add_mk, Int.toNat_natCast, Nat.mul_one, Nat.zero_add]
    refine cond_true' (by rw [e]; rfl) ⟨by omega, _, s.x.X.st _ (by omega), by omega, s.x.X.canK hb, letW_intro fun w2 hw2 => ?_⟩
    have s2 : RS E c g r w2 F ms h (upd S base (S (sp - 1))) fr := by rw [hw2]; exact s.setSt hb _
    refine fin w2 _ s2 ?_
    rw [if_pos e] at h1
    exact h1
  · rw [if_neg e] at h1
    refine cond_false' ?_ (fin w S s h1)
    have : f.re = 0 := by omega
    rw [this]; rfl
theorem op_end_in (s : RS E c g r w F ms h S fr) (hf : E.fs[fi]? = some f) {x y : Int} (hi : f.cells[pc]? = some ⟨11, x, y⟩) (hpc : pc ≤ 100000) (hre : f.re ≤ 1) (hsp : f.re = 1 → 1 ≤ sp ∧ sp ≤ 120) (hb : base < 120) {d fj pj bj : Nat} {fo : FF} (hd : d ≤ 4) (hfo : E.fs[fj]? = some fo) (f0 : fr (d * 3) = (fj : Int)) (f1 : fr (d * 3 + 1) = (pj : Int)) (f2 : fr (d * 3 + 2) = (bj : Int)) (hbj : bj + fo.lo ≤ 1000)
    (h1 : ∀ w', RS E c g r w' F ms h (if f.re = 1 then upd S base (S (sp - 1)) else S) fr → RL E c g r fj fo (base + f.re) fuel w17 pj bj (bj + fo.lo) d R w') : RL E c g r fi f sp fuel w17 pc base floor (d + 1) R w := by
  refine fetch0 s hf hi (.inr rfl) hpc (fun w1 s1 c1 => ?_)
  refine exec_Exec_run.step9 _ _ _ _ _ _ _ _ _ _ _ _ _ _ _ _ _ _ _ _ _ _ ?_
  unfold exec_Exec_run.V9
  exact ⟨_, c1.c0, cond_false' rfl (cond_false' rfl (cond_false' rfl (cond_false' rfl (cond_false' rfl (cond_false' rfl (cond_false' rfl (cond_false' rfl (cond_true' rfl (leave_in s1 hf hre hsp hb hd hfo f0 f1 f2 hbj h1)))))))))⟩
theorem op_ret_in (s : RS E c g r w F ms h S fr) (hf : E.fs[fi]? = some f) {x y : Int} (hi : f.cells[pc]? = some ⟨15, x, y⟩) (hfu : 0 ≤ fuel ∧ fuel ≤ 9223372036854775807) (hpc : pc ≤ 100000) (hre : f.re ≤ 1) (hsp : f.re = 1 → 1 ≤ sp ∧ sp ≤ 120) (hb : base < 120) {d fj pj bj : Nat} {fo : FF} (hd : d ≤ 4) (hfo : E.fs[fj]? = some fo) (f0 : fr (d * 3) = (fj : Int)) (f1 : fr (d * 3 + 1) = (pj : Int)) (f2 : fr (d * 3 + 2) = (bj : Int)) (hbj : bj + fo.lo ≤ 1000)
    (h0 : fuel = 0 → ∀ w', RS E c g r w' F ms h S fr → R (.tuple #[.int .i64 0, .int .i64 46]) w')
    (h1 : 0 < fuel → ∀ w', RS E c g r w' F ms h (if f.re = 1 then upd S base (S (sp - 1)) else S) fr → RL E c g r fj fo (base + f.re) (fuel - 1) w17 pj bj (bj + fo.lo) d R w') : RL E c g r fi f sp fuel w17 pc base floor (d + 1) R w := by
  refine fetch1 s hf hi (by simp) (by simp) hfu hpc h0 (fun hf0 w1 s1 c1 => ?_)
  refine exec_Exec_run.step9 _ _ _ _ _ _ _ _ _ _ _ _ _ _ _ _ _ _ _ _ _ _ ?_
  unfold exec_Exec_run.V9
  exact ⟨_, c1.c0, cond_false' rfl (cond_false' rfl (cond_false' rfl (cond_false' rfl (cond_false' rfl (cond_false' rfl (cond_false' rfl (cond_true' rfl (leave_in s1 hf hre hsp hb hd hfo f0 f1 f2 hbj (h1 hf0)))))))))⟩
theorem op_ret_out (s : RS E c g r w F ms h S fr) (hf : E.fs[fi]? = some f) {x y : Int} (hi : f.cells[pc]? = some ⟨15, x, y⟩) (hfu : 0 ≤ fuel ∧ fuel ≤ 9223372036854775807) (hpc : pc ≤ 100000) (hre : f.re ≤ 1) (hsp : f.re = 1 → 1 ≤ sp ∧ sp ≤ 120) (hb : base < 120)
    (h0 : fuel = 0 → ∀ w', RS E c g r w' F ms h S fr → R (.tuple #[.int .i64 0, .int .i64 46]) w')
    (h1 : 0 < fuel → ∀ w', RS E c g r w' F ms h (if f.re = 1 then upd S base (S (sp - 1)) else S) fr → R (.tuple #[.int .i64 (fuel - 1), .int .i64 0]) w') : RL E c g r fi f sp fuel w17 pc base floor 0 R w := by
  refine fetch1 s hf hi (by simp) (by simp) hfu hpc h0 (fun hf0 w1 s1 c1 => ?_)
  refine exec_Exec_run.step9 _ _ _ _ _ _ _ _ _ _ _ _ _ _ _ _ _ _ _ _ _ _ ?_
  unfold exec_Exec_run.V9
  exact ⟨_, c1.c0, cond_false' rfl (cond_false' rfl (cond_false' rfl (cond_false' rfl (cond_false' rfl (cond_false' rfl (cond_false' rfl (cond_true' rfl (leave_out s1 hf hre hsp hb (h1 hf0)))))))))⟩
end
end Go.Proofs.Qxb6500317aGreat
