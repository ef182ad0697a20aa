/-
  The loop: an import is called; a function is entered from outside.
-/
import Derived.Test.Qxb6500317aGreatExG
set_option linter.unusedSimpArgs false
set_option linter.unusedVariables false
set_option maxRecDepth 100000
set_option linter.unusedSectionVars false
set_option maxHeartbeats 1000000
namespace Go.Proofs.Qxb6500317aGreat
open Go Go.Vc

section
variable {E : RE} {c g r fi : Nat} {f : FF} {w w' : World} {F : List Nat} {ms : M.MS} {h : HS} {S fr : Nat → Int} {sp pc base floor depth : Nat} {fuel w17 : Int} {R : Value → World → Prop} {i : Ins}
theorem RS.putG (s : RS E c g r w F ms h S fr) (G : Nat → Int) (K : World → Prop) (hK : ∀ w', RS E c g r w' F ms h S fr → SigAt w' g G → K w') : putCells w ⟨g, 0, none⟩ [.int .u8 (G 0), .int .u8 (G 1), .int .u8 (G 2), .int .u8 (G 3), .int .u8 (G 4), .int .u8 (G 5)] K := by
  refine putCells_intro g _ 0 w K (fun j hj => by rw [Nat.zero_add]; exact s.v.lg j (by simpa using hj)) (fun w' hF => ?_)
  have S1 : Same [g] w.heap.size w w' := hF.same _
  have G1 : SigAt w' g G := ⟨fun k hk => by
    rw [hF.cell g k, if_pos ⟨rfl, by omega, by simp; omega⟩, Nat.sub_zero]
    have : k = 0 ∨ k = 1 ∨ k = 2 ∨ k = 3 ∨ k = 4 ∨ k = 5 := by omega
    rcases this with rfl | rfl | rfl | rfl | rfl | rfl <;> rfl, fun k hk => by
    rw [hF.frozen]
    exact (s.v.lg k hk).2⟩
  exact hK w' ⟨s.x.mv S1 (by intro k hk; simp at hk; subst hk; exact s.v.zg), s.v.own S1 (fun j hj => can_mv (s.v.lc j hj) S1 (by simp; exact s.v.ne.1)) (fun j hj => G1.can hj) (fun j hj => can_mv (s.v.lr j hj) S1 (by simp; exact fun e => s.v.ne.2.2 e.symm))⟩ G1
/-- What the host answers to import k, handed the top words of the stack. -/
def callH (h : HS) (k np sp : Nat) (S : Nat → Int) (want pages : Int) : Int × Int × HS := (h.row k (fun j => (S (sp - np + j)).toNat) np).answer (h.k k) want pages
theorem enter_imp (s : RS E c g r w F ms h S fr) {k np : Nat} (hk : k < E.P.nIm) (hn : k < h.n) (hr : h.rows < 12) (hnp : fsG E.P k 0 = (np : Int)) (hnp4 : np ≤ 4) (hsp : np ≤ sp ∧ sp < 120) (hre : 0 ≤ fsG E.P k 5 ∧ fsG E.P k 5 ≤ 255) (hS : SW S) {ca fa : Option Addr} {cl cc : Nat} {pc base floor depth : Int}
    (hE : (callH h k np sp S (fsG E.P k 5) ((ms.n / 64 : Nat) : Int)).2.1 ≠ 0 → ∀ w' F', RS E c g r w' F' ms (callH h k np sp S (fsG E.P k 5) ((ms.n / 64 : Nat) : Int)).2.2 S fr → R (.tuple #[.int .i64 fuel, .int .i64 (callH h k np sp S (fsG E.P k 5) ((ms.n / 64 : Nat) : Int)).2.1]) w')
    (hV : (callH h k np sp S (fsG E.P k 5) ((ms.n / 64 : Nat) : Int)).2.1 = 0 → ∀ w' F', RS E c g r w' F' ms (callH h k np sp S (fsG E.P k 5) ((ms.n / 64 : Nat) : Int)).2.2 (if fsG E.P k 5 = 0 then S else upd S (sp - np) (callH h k np sp S (fsG E.P k 5) ((ms.n / 64 : Nat) : Int)).1) fr →
      exec_Exec_run.L2 (some ⟨E.A.xb, 0, none⟩) ((if fsG E.P k 5 = 0 then sp - np else sp - np + 1 : Nat) : Int) fuel (some ⟨E.A.kb, 0, none⟩) 120 120 (E.P.nIm : Int) ca cl cc fa c g r (callH h k np sp S (fsG E.P k 5) ((ms.n / 64 : Nat) : Int)).1 pc base floor depth R (fun _ _ => False) w') :
    exec_Exec_run.L1 (some ⟨E.A.xb, 0, none⟩) (k : Int) (sp : Int) fuel (some ⟨E.A.kb, 0, none⟩) 120 120 (E.P.nIm : Int) ca cl cc fa c g r w17 pc base floor depth R (fun _ _ => False) w := by
  obtain ⟨_, _, _, _, ⟨h1, h2⟩, ⟨k1, k2, x1, x2, ne⟩, lt, z0⟩ := s.x.X.zone
  have hw := s.x.X.wf
  have hw1 := hw.ncap; have hw2 := hw.cap384
  obtain ⟨gb, ega, eI, gc⟩ := s.x.G (by omega)
  have c8 := s.x.H.c8
  rw [ega] at c8
  refine exec_Exec_run.step1 _ _ _ _ _ _ _ _ _ _ _ _ _ _ _ _ _ _ _ _ _ _ _ ?_
  unfold exec_Exec_run.V1
  have gk := gc k (by omega)
  refine cond_true' (decide_eq_true (by omega)) ⟨_, _, _, c8, by omega, ?_⟩
  simp only [nilV_some, add_mk, Int.toNat_natCast, Nat.zero_add]
  refine ⟨_, _, _, _, _, _, gk 0 (by omega), gk 1 (by omega), gk 2 (by omega), gk 3 (by omega), gk 4 (by omega), gk 5 (by omega), s.putG (fsG E.P k) _ (fun w1 s1 g1 => ?_)⟩
  simp only [Int.toNat_zero, Nat.zero_mul]
  refine ⟨by omega, _, g1.c 0 (by omega), _, s1.x.X.c3, RunsQ.post (M.Pages_spec _ _ _ _ s1.x.X.mt s1.x.X.wf) ?_⟩
  rintro v w2 ⟨rfl, hw2'⟩
  subst hw2'
  refine ⟨_, rfl, ?_⟩
  have e1 : IntKind.wrap .i64 (fsG E.P k 0) = (np : Int) := by rw [hnp, wrap_i64 (by omega) (by omega)]
  have e2 : IntKind.wrap .i64 ((sp : Int) - (np : Int)) = ((sp - np : Nat) : Int) := by rw [wrap_i64 (by omega) (by omega)]; omega
  have e5 : Int.toNat 5 * 1 = 5 := rfl
  simp only [e1, e2, e5, Int.toNat_natCast]
  refine ⟨by omega, by omega, ?_⟩
  have sd := s1.drew
  have gd : SigAt w2.drew g (fsG E.P k) := g1.same (Same.refl [] _ _).drew g1.lt (by simp)
  have e6 : sp - (sp - np) = np := by omega
  rw [e6]
  have AA : ArgA w2.drew (E.A.hb :: F) (slAddr (some ⟨E.A.kb, 0, none⟩) (sp - np) sp 1) np (fun j => (S (sp - np + j)).toNat) := by
    refine ⟨fun h0 => ⟨E.A.kb, sp - np, ?_, by have := sd.x.X.lt; omega, ?_, fun j hj => ?_⟩, fun j => by have := hS (sp - np + j); omega, hnp4⟩
    · unfold slAddr
      rw [if_neg (by omega)]
      simp only [Option.map_some, add_mk, Nat.mul_one, Nat.zero_add]
    · intro q
      rcases List.mem_cons.1 q with e | e
      · omega
      · have := sd.x.X.zf _ e; omega
    · have := sd.x.X.st (sp - np + j) (by omega)
      have b := hS (sp - np + j)
      rw [this, show (((S (sp - np + j)).toNat : Nat) : Int) = S (sp - np + j) by omega]
  have tail : RunsQ Tryz.prog host_Host_Call.id #[rp E.A.hb, .int .i64 (k : Int), .slice (slAddr (some ⟨E.A.kb, 0, none⟩) (sp - np) sp 1) np np, .int .u8 (fsG E.P k 5), .int .i64 ((ms.n / 64 : Nat) : Int)] w2.drew (fun r47 w48 => (∃ x49 : Int, ∃ x50 : Int, (r47 = (.tuple #[(.int .u64 x49), (.int .i64 x50)]) ∧ (cond (x50 != (0 : Int))
      (R (.tuple #[(.int .i64 fuel), (.int .i64 x50)]) w48)
      ((0 ≤ (5 : Int) ∧ (5 : Int) < ((6 : Nat) : Int)) ∧ (∃ x51 : Int, World.cell? w48 ⟨g, 5, none⟩ = some (.int .u8 x51) ∧ (cond (x51 != (0 : Int))
      ((0 ≤ ((sp - np : Nat) : Int) ∧ ((sp - np : Nat) : Int) < ((120 : Nat) : Int)) ∧ (can w48 ⟨E.A.kb, (sp - np) * 1, none⟩ ∧ letW (World.setCell w48 ⟨E.A.kb, (sp - np) * 1, none⟩ (.int .u64 x49)) fun w53 => (exec_Exec_run.L2 (some ⟨E.A.xb, 0, none⟩) (IntKind.wrap .i64 (((sp - np : Nat) : Int) + (1 : Int))) fuel (some ⟨E.A.kb, 0, none⟩) 120 120 (E.P.nIm : Int) ca cl cc fa c g r x49 pc base floor depth R (fun _ _ => False) w53)))
      (exec_Exec_run.L2 (some ⟨E.A.xb, 0, none⟩) ((sp - np : Nat) : Int) fuel (some ⟨E.A.kb, 0, none⟩) 120 120 (E.P.nIm : Int) ca cl cc fa c g r x49 pc base floor depth R (fun _ _ => False) w48))))))) ) (fun _ _ => False) := by
    refine RunsQ.post (Call_spec sd.x.X.ho hn hr AA hre ⟨by omega, by omega⟩) ?_
    rintro v w3 ⟨rfl, F3, ho3, S3, hF3⟩
    have s3 := sd.host S3 (fun q hq => by simpa using hq) ho3 hF3
    have hF : g ∉ E.A.hb :: F := fun q => by
      rcases List.mem_cons.1 q with e | e
      · have := s.v.zg.1; omega
      · exact s.v.zg.2.1 e
    have g3 : SigAt w3 g (fsG E.P k) := gd.same S3 gd.lt hF
    refine ⟨_, _, rfl, ?_⟩
    by_cases q : (callH h k np sp S (fsG E.P k 5) ((ms.n / 64 : Nat) : Int)).2.1 = 0
    · have hV := hV q
      refine cond_false' ?_ ⟨by omega, _, g3.c 5 (by omega), ?_⟩
      · show ((callH h k np sp S (fsG E.P k 5) ((ms.n / 64 : Nat) : Int)).2.1 != 0) = false
        rw [q]; rfl
      · by_cases q5 : fsG E.P k 5 = 0
        · refine cond_false' (by rw [q5]; rfl) ?_
          rw [if_pos q5, if_pos q5] at hV
          exact hV w3 F3 s3
        · rw [if_neg q5, if_neg q5] at hV
          refine cond_true' (by simpa using q5) ⟨by omega, by rw [Nat.mul_one]; exact s3.x.X.canK (by omega), letW_intro fun w4 hw4 => ?_⟩
          rw [nx (sp - np) (by omega)]
          refine hV w4 F3 ?_
          rw [hw4, Nat.mul_one]
          exact s3.setSt (by omega) _
    · exact cond_true' (by show ((callH h k np sp S (fsG E.P k 5) ((ms.n / 64 : Nat) : Int)).2.1 != 0) = true; simpa using q) (hE q w3 F3 s3)
  have k4 := sd.x.X.c4
  have k5 := gd.c 5 (by omega)
  repeat' first
    | exact trivial
    | exact tail
    | refine ⟨_, k4, ?_⟩
    | refine ⟨_, k5, ?_⟩
    | refine And.intro ?_ ?_
end
end Go.Proofs.Qxb6500317aGreat
