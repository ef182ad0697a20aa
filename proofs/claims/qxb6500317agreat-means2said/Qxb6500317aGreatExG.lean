/-
  The loop: branches, numbers, the call of an import.
-/
import Derived.Test.Qxb6500317aGreatExF
import Derived.Test.Qxb6500317aGreatApA
set_option linter.unusedSimpArgs false
set_option linter.unusedVariables false
set_option maxRecDepth 100000
set_option linter.unusedSectionVars false
set_option maxHeartbeats 1000000
namespace Go.Proofs.Qxb6500317aGreat
open Go Go.Vc

section
variable {E : RE} {c g r fi : Nat} {f : FF} {w w' : World} {F : List Nat} {ms : M.MS} {h : HS} {S fr : Nat → Int} {sp pc base floor depth : Nat} {fuel w17 : Int} {R : Value → World → Prop} {i : Ins}
/-- The words of the stack are words. -/
def SW (S : Nat → Int) : Prop := ∀ j, 0 ≤ S j ∧ S j < 18446744073709551616
theorem SW.upd (h : SW S) {n : Nat} {v : Int} (h0 : 0 ≤ v) (h1 : v < 18446744073709551616) : SW (upd S n v) := fun j => by
  unfold Go.Proofs.Qxb6500317aGreat.upd
  split
  · exact ⟨h0, h1⟩
  · exact h j
/-! ### The branch -/
theorem branch_to (s : RS E c g r w F ms h S fr) (ci : CI w c i) {tgt ht : Nat} {keep : Bool} (hx : i.x = (tgt : Int)) (ht1 : tgt ≤ 100000) (hk : api_Keep.F i.y = if keep then 1 else 0) (hh : api_Height.F i.y = (ht : Int)) (hfl : floor + ht < 120) (hsp : keep = true → 1 ≤ sp ∧ sp ≤ 120)
    (h1 : ∀ w', RS E c g r w' F ms h (if keep then upd S (floor + ht) (S (sp - 1)) else S) fr → RL E c g r fi f (if keep then floor + ht + 1 else floor + ht) fuel w17 tgt base floor depth R w') :
    exec_Exec_run.L10 (some ⟨E.A.xb, 0, none⟩) (sp : Int) fuel (some ⟨E.A.kb, 0, none⟩) 120 120 (E.P.nIm : Int) (some ⟨E.nbs fi, 0, none⟩) f.cells.length f.cells.length (some ⟨E.fb, fi * 4, none⟩) c g r w17 (base : Int) (floor : Int) (depth : Int) R (fun _ _ => False) w := by
  obtain ⟨_, _, _, _, _, ⟨k1, k2, x1, x2, ne⟩, lt, z0⟩ := s.x.X.zone
  have zc := s.v.zc.1
  refine exec_Exec_run.step10 _ _ _ _ _ _ _ _ _ _ _ _ _ _ _ _ _ _ _ _ _ ?_
  unfold exec_Exec_run.V10
  refine ⟨_, ci.c2, RunsQ.post (api_Height.pure _ _) ?_⟩
  rintro v w1 ⟨rfl, rfl⟩
  refine ⟨_, rfl, _, ci.c2, RunsQ.post (api_Keep.pure _ _) ?_⟩
  rintro v w2 ⟨rfl, rfl⟩
  refine ⟨_, rfl, ?_⟩
  rw [hk, hh]
  have e1 : IntKind.wrap .i64 ((floor : Int) + (ht : Int)) = ((floor + ht : Nat) : Int) := by rw [wrap_i64 (by omega) (by omega)]; omega
  have e3 : IntKind.wrap .i64 i.x = (tgt : Int) := by rw [hx, wrap_i64 (by omega) (by omega)]
  cases keep with
  | true =>
    obtain ⟨p1, p2⟩ := hsp rfl
    have e2 : IntKind.wrap .i64 ((sp : Int) - 1) = ((sp - 1 : Nat) : Int) := by rw [wrap_i64 (by omega) (by omega)]; omega
    simp only [e1, e2, nilV_some, add_mk, Int.toNat_natCast, Nat.mul_one, Nat.zero_add]
    refine cond_true' rfl ⟨by omega, _, s.x.X.st _ (by omega), by omega, s.x.X.canK hfl, letW_intro fun w3 hw3 => ?_⟩
    refine exec_Exec_run.step14 _ _ _ _ _ _ _ _ _ _ _ _ _ _ _ _ _ _ _ _ _ ?_
    unfold exec_Exec_run.V14
    have s3 := s.setSt hfl (S (sp - 1))
    have c3 := ci.setCell (b := E.A.kb) (j := floor + ht) (by omega) (.int .u64 (S (sp - 1)))
    rw [← hw3] at s3 c3
    refine ⟨_, c3.c1, ?_⟩
    rw [e3, nx (floor + ht) (by omega)]
    refine exec_Exec_run.step4 _ _ _ _ _ _ _ _ _ _ _ _ _ _ _ _ _ _ _ _ _ _ ?_
    unfold exec_Exec_run.V4
    exact h1 w3 s3
  | false =>
    simp only [e1]
    refine cond_false' rfl ?_
    refine exec_Exec_run.step14 _ _ _ _ _ _ _ _ _ _ _ _ _ _ _ _ _ _ _ _ _ ?_
    unfold exec_Exec_run.V14
    refine ⟨_, ci.c1, ?_⟩
    rw [e3]
    refine exec_Exec_run.step4 _ _ _ _ _ _ _ _ _ _ _ _ _ _ _ _ _ _ _ _ _ _ ?_
    unfold exec_Exec_run.V4
    exact h1 _ s
theorem op_br (s : RS E c g r w F ms h S fr) (hf : E.fs[fi]? = some f) {x y : Int} (hi : f.cells[pc]? = some ⟨12, x, y⟩) (hfu : 0 ≤ fuel ∧ fuel ≤ 9223372036854775807) (hpc : pc ≤ 100000)
    {tgt ht : Nat} {keep : Bool} (hx : x = (tgt : Int)) (ht1 : tgt ≤ 100000) (hk : api_Keep.F y = if keep then 1 else 0) (hh : api_Height.F y = (ht : Int)) (hfl : floor + ht < 120) (hsp : keep = true → 1 ≤ sp ∧ sp ≤ 120)
    (h0 : fuel = 0 → ∀ w', RS E c g r w' F ms h S fr → R (.tuple #[.int .i64 0, .int .i64 46]) w')
    (h1 : 0 < fuel → ∀ w', RS E c g r w' F ms h (if keep then upd S (floor + ht) (S (sp - 1)) else S) fr → RL E c g r fi f (if keep then floor + ht + 1 else floor + ht) (fuel - 1) w17 tgt base floor depth R w') : RL E c g r fi f sp fuel w17 pc base floor depth R w := by
  refine fetch1 s hf hi (by simp) (by simp) hfu hpc h0 (fun hf0 w1 s1 c1 => ?_)
  refine exec_Exec_run.step9 _ _ _ _ _ _ _ _ _ _ _ _ _ _ _ _ _ _ _ _ _ _ ?_
  unfold exec_Exec_run.V9
  exact ⟨_, c1.c0, cond_false' rfl (cond_false' rfl (cond_false' rfl (cond_false' rfl (cond_false' rfl (cond_true' rfl (branch_to s1 c1 hx ht1 hk hh hfl hsp (h1 hf0)))))))⟩

/-! ### Numbers -/
theorem num_end (s : RS E c g r w F ms h S fr) {sp1 : Nat} (hs1 : 1 ≤ sp1) (hs2 : sp1 ≤ 120) (rv : Int × Int)
    (hE : rv.2 ≠ 0 → R (.tuple #[.int .i64 fuel, .int .i64 rv.2]) w)
    (hV : rv.2 = 0 → ∀ w', RS E c g r w' F ms h (upd S (sp1 - 1) rv.1) fr → RL E c g r fi f sp1 fuel rv.1 pc base floor depth R w') :
    exec_Exec_run.L19 (some ⟨E.A.xb, 0, none⟩) (sp1 : Int) fuel (some ⟨E.A.kb, 0, none⟩) 120 120 (E.P.nIm : Int) (some ⟨E.nbs fi, 0, none⟩) f.cells.length f.cells.length (some ⟨E.fb, fi * 4, none⟩) c g r rv.1 rv.2 (pc : Int) (base : Int) (floor : Int) (depth : Int) R (fun _ _ => False) w := by
  refine exec_Exec_run.step19 _ _ _ _ _ _ _ _ _ _ _ _ _ _ _ _ _ _ _ _ _ _ _ ?_
  unfold exec_Exec_run.V19
  by_cases e : rv.2 = 0
  · have e1 : IntKind.wrap .i64 ((sp1 : Int) - 1) = ((sp1 - 1 : Nat) : Int) := by rw [wrap_i64 (by omega) (by omega)]; omega
    simp only [e1, nilV_some, add_mk, Int.toNat_natCast, Nat.mul_one, Nat.zero_add]
    refine cond_false' (by rw [e]; rfl) ⟨by omega, s.x.X.canK (by omega), letW_intro fun w2 hw2 => hV e w2 ?_⟩
    rw [hw2]
    exact s.setSt (by omega) _
  · exact cond_true' (by simpa using e) (exec_Exec_run.step8 _ _ _ _ _ (hE e))
theorem op_num2 (s : RS E c g r w F ms h S fr) (hf : E.fs[fi]? = some f) {o x y : Int} (hi : f.cells[pc]? = some ⟨o, x, y⟩) (ho : 70 ≤ o ∧ o ≤ 191 ∧ o ≠ 106) (ht : exec_two.F o = true) (hfu : 0 ≤ fuel ∧ fuel ≤ 9223372036854775807) (hpc : pc ≤ 100000) (hsp : 2 ≤ sp ∧ sp ≤ 120) (hS : SW S)
    (h0 : fuel = 0 → ∀ w', RS E c g r w' F ms h S fr → R (.tuple #[.int .i64 0, .int .i64 46]) w')
    (hE : 0 < fuel → (U.ap o (S (sp - 2)) (S (sp - 1))).2 ≠ 0 → ∀ w', RS E c g r w' F ms h S fr → R (.tuple #[.int .i64 (fuel - 1), .int .i64 (U.ap o (S (sp - 2)) (S (sp - 1))).2]) w')
    (h1 : 0 < fuel → (U.ap o (S (sp - 2)) (S (sp - 1))).2 = 0 → ∀ w', RS E c g r w' F ms h (upd S (sp - 2) (U.ap o (S (sp - 2)) (S (sp - 1))).1) fr → RL E c g r fi f (sp - 1) (fuel - 1) (U.ap o (S (sp - 2)) (S (sp - 1))).1 (pc + 1) base floor depth R w') : RL E c g r fi f sp fuel w17 pc base floor depth R w := by
  refine fetch1 s hf hi (by show o ≠ 224; omega) (by show o ≠ 11; omega) hfu hpc h0 (fun hf0 w1 s1 c1 => to13 c1 (by show o ≠ 0 ∧ o ≠ 1 ∧ o ≠ 4 ∧ o ≠ 224 ∧ o ≠ 13 ∧ o ≠ 12 ∧ o ≠ 14 ∧ o ≠ 15 ∧ o ≠ 11; omega) ?_)
  refine exec_Exec_run.step13 _ _ _ _ _ _ _ _ _ _ _ _ _ _ _ _ _ _ _ _ _ _ _ ?_
  unfold exec_Exec_run.V13
  have nb : ∀ k : Int, k < 70 → (o == k) = false := fun k hk => ne_beq (by omega)
  show cond (o == 16) _ _
  refine cond_false' (nb _ (by omega)) (cond_false' (nb _ (by omega)) (cond_false' (nb _ (by omega)) (cond_false' (nb _ (by omega)) (cond_false' (nb _ (by omega)) (cond_false' (nb _ (by omega)) (cond_false' (nb _ (by omega)) (cond_false' (nb _ (by omega)) (cond_false' (nb _ (by omega)) (cond_false' (nb _ (by omega)) (cond_false' (nb _ (by omega)) (cond_false' (nb _ (by omega)) (cond_false' (nb _ (by omega)) (cond_false' (nb _ (by omega)) (cond_false' (nb _ (by omega)) ?_))))))))))))))
  refine exec_Exec_run.step18 _ _ _ _ _ _ _ _ _ _ _ _ _ _ _ _ _ _ _ _ _ _ _ ?_
  unfold exec_Exec_run.V18
  show cond (o == 69) _ _
  refine cond_false' (nb _ (by omega)) (cond_false' (ne_beq ho.2.2) ⟨_, c1.c0, cond_false' (decide_eq_false (by show ¬ o ≤ 53; omega)) ⟨_, c1.c0, cond_false' (decide_eq_false (by show ¬ o ≤ 62; omega)) ⟨_, c1.c0, RunsQ.post (exec_two.pure _ _) ?_⟩⟩⟩)
  rintro v w2 ⟨rfl, hw2⟩
  subst hw2
  have e1 : IntKind.wrap .i64 ((sp : Int) - 1) = ((sp - 1 : Nat) : Int) := by rw [wrap_i64 (by omega) (by omega)]; omega
  have e2 : IntKind.wrap .i64 (((sp - 1 : Nat) : Int) - 1) = ((sp - 2 : Nat) : Int) := by rw [wrap_i64 (by omega) (by omega)]; omega
  have e3 : IntKind.wrap .i64 o = o := by rw [wrap_i64 (by omega) (by omega)]
  refine ⟨_, rfl, cond_true' ht ?_⟩
  simp only [e1, e2, e3, nilV_some, add_mk, Int.toNat_natCast, Nat.mul_one, Nat.zero_add, and_true]
  have sd := s1.drew
  have kc : _ = some (Value.int .u8 o) := (c1.keep (Same.refl [] _ _).drew).c0
  have ka := sd.x.X.st (sp - 2) (by omega)
  have kb := sd.x.X.st (sp - 1) (by omega)
  have ws := hS (sp - 1)
  have tail : RunsQ Tryz.prog num_Apply.id #[.int .i64 (IntKind.wrap .i64 o), .int .u64 (S (sp - 2)), .int .u64 (S (sp - 1))] w2.drew (fun r101 w102 => (∃ x103 : Int, ∃ x104 : Int, (r101 = (.tuple #[(.int .u64 x103), (.int .i64 x104)]) ∧ exec_Exec_run.L19 (some ⟨E.A.xb, 0, none⟩) ((sp - 1 : Nat) : Int) (fuel - 1) (some ⟨E.A.kb, 0, none⟩) 120 120 (E.P.nIm : Int) (some ⟨E.nbs fi, 0, none⟩) f.cells.length f.cells.length (some ⟨E.fb, fi * 4, none⟩) c g r x103 x104 ((pc + 1 : Nat) : Int) (base : Int) (floor : Int) (depth : Int) R (fun _ _ => False) w102))) (fun _ _ => False) := by
    rw [e3]
    refine RunsQ.post (U.Apply_spec o (S (sp - 2)) (S (sp - 1)) ws.1 ws.2 _) ?_
    rintro v w3 ⟨rfl, S3⟩
    have s3 := sd.keep S3
    refine ⟨_, _, rfl, num_end s3 (by omega) (by omega) (U.ap o (S (sp - 2)) (S (sp - 1))) (fun q => hE hf0 q w3 s3) (fun q w4 s4 => ?_)⟩
    refine h1 hf0 q w4 ?_
    rw [show sp - 2 = sp - 1 - 1 by omega]
    exact s4
  refine ⟨by omega, by omega, ?_⟩
  repeat' first
    | exact tail
    | refine ⟨_, kc, ?_⟩
    | refine ⟨_, ka, ?_⟩
    | refine ⟨_, kb, ?_⟩
    | refine And.intro ?_ ?_
end
end Go.Proofs.Qxb6500317aGreat
