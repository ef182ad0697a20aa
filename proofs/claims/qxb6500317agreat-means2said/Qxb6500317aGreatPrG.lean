/-
  A body compiled.
-/
import Derived.Test.Qxb6500317aGreatSmD
import Derived.Test.Qxb6500317aGreatVdH
set_option linter.unusedSimpArgs false
set_option linter.unusedVariables false
set_option maxRecDepth 100000
set_option linter.unusedSectionVars false
namespace Go.Proofs.Qxb6500317aGreat
open Go Go.Vc

def bdOf (P : PM) (f : FnP) : BD := ⟨f.nI, f.ins, f.nTab, f.tabs, effP P⟩
/-- The cells that the first i instructions may give. -/
def wsum (B : BD) : Nat → Nat
  | 0 => 0
  | i + 1 => wsum B i + (1 + (if (B.ins i).op = 14 ∧ (B.ins i).y ≤ (B.nt : Int) then (B.ins i).y.toNat else 0))
theorem wsum_succ (B : BD) (i : Nat) : wsum B (i + 1) = wsum B i + (1 + (if (B.ins i).op = 14 ∧ (B.ins i).y ≤ (B.nt : Int) then (B.ins i).y.toNat else 0)) := rfl
theorem wsum_mono (B : BD) : ∀ (k i : Nat), wsum B i ≤ wsum B (i + k)
  | 0, i => Nat.le_refl _
  | k + 1, i => by
    have := wsum_mono B k i
    rw [show i + (k + 1) = (i + k) + 1 by omega, wsum_succ]
    omega
theorem eff_small {P : PM} (B : PB P) {x : Ins} (hx : InsIn x) {a g : Nat} (h : effP P x = some (a, g)) : a ≤ 2000 ∧ g ≤ 2000 := by
  have ts : ∀ t : ByteArray, t.size ≤ 1024 → (splitP t).1.size ≤ 1024 ∧ (splitP t).2.size ≤ 1024 := fun t ht => ⟨Nat.le_trans (splitF_size t t.size 0).1 ht, Nat.le_trans (splitF_size t t.size 0).2 ht⟩
  have nl := num_le hx.o0 hx.o1
  have x0 := hx.x0
  unfold effP at h
  repeat' split at h
  all_goals first
    | (cases h; done)
    | (cases h; omega)
    | skip
  · rename_i t ht
    cases h
    unfold typeOf typeAt at ht
    split at ht
    · cases ht
    · rename_i q
      injection ht with ht
      have := ts t (by rw [← ht]; exact (B.ty _ (by omega)).1)
      omega
  · cases h
    have := ts (P.ty x.x.toNat) (B.ty _ (by omega)).1
    omega

theorem brS_fs {x : Ins} {S S' : SS} {f : SF} {r : List SF} (hfs : S.fs = f :: r) (h : brS x S = some S') : S'.fs = S.fs := by
  unfold brS at h
  rw [hfs] at h
  dsimp only at h
  split at h
  · cases h
  · by_cases q : S.h < f.fl + (if x.op = 13 then 1 else 0)
    · rw [if_pos q] at h; cases h
    · rw [if_neg q] at h; cases h; exact hfs.symm
section
variable {wd w w' : World} {L mb : Nat} {m : Nat → Value} {P : PM} {pb cb : Nat} {hg : Nat} {i fb : Nat} {res : Nat}
/-- What the compiling of a body leaves. -/
def FQ (w : World) (pb cb hg n : Nat) (z : Sum Nat SS) : Value → World → Prop := fun v w' =>
  match z with
  | .inl at_ => v = .tuple #[.int .i64 (at_ : Int), .int .i64 29] ∧ (∃ p : PS, PA w' pb cb p.cells hg p.k p.h p.dead ∧ p.cells[0]? = some z0) ∧ Same [pb, cb] w.heap.size w w'
  | .inr S => v = .tuple #[.int .i64 0, .int .i64 0] ∧ (∃ p : PS, PA w' pb cb p.cells hg p.k p.h p.dead ∧ RI n S p) ∧ Same [pb, cb] w.heap.size w w'
/-- The walk through a body. -/
structure FW (wd w0 w : World) (L mb : Nat) (m : Nat → Value) (P : PM) (pb cb hg i : Nat) (pc : Nat) (s0 : SS) (ps : PS) : Prop where
  H : HM wd w L mb m P
  p : PA w pb cb ps.cells hg ps.k ps.h ps.dead
  R : RI pc s0 ps
  l : s0.A.length ≤ wsum (bdOf P (P.fn i)) pc
  S : Same [pb, cb] w0.heap.size w0 w
theorem FW.keep {w0 : World} {pc : Nat} {S : SS} {p : PS} (F : FW wd w0 w L mb m P pb cb hg i pc S p) (hS : Same [] w.heap.size w w') : FW wd w0 w' L mb m P pb cb hg i pc S p :=
  ⟨F.H.keep hS, F.p.keep hS, F.R, F.l, F.S.nx (S2 pb cb hS)⟩
theorem HM.at2 (h : HM wd w L mb m P) (hS : Same [pb, cb] w.heap.size w w') (h1 : pb ≤ L ∨ wd.heap.size ≤ pb) (h2 : cb ≤ L ∨ wd.heap.size ≤ cb) : HM wd w' L mb m P := h.same hS h.size (by simp; omega)

/-- The rows of labels lie below. -/
def TLt (wd : World) (L mb : Nat) (m : Nat → Value) (P : PM) (fb : Nat) : Prop := ∀ w', HM wd w' L mb m P → ∀ (j tk n c : Nat), j < P.nf → w'.cell? ⟨fb, j * 4 + 3, none⟩ = some (.slice (some ⟨tk, 0, none⟩) n c) → tk < wd.heap.size
theorem HM.row2 (H : HM wd w L mb m P) (h0 : P.nf ≠ 0) : ∃ fb, (∀ w', HM wd w' L mb m P → FnRow w' (L + 1) fb P.nf P.nf P.fn) ∧ (∀ w', HM wd w' L mb m P → w'.cell? ⟨mb, 2, none⟩ = some (.slice (some ⟨fb, 0, none⟩) P.nf P.nf)) ∧ TLt wd L mb m P fb := by
  haveI := outNil
  rcases H.inv.f2 with ⟨g, _⟩ | ⟨_, fb, h1, h2, h3, h4⟩
  · exact absurd g h0
  · refine ⟨fb, fun w' H' => h2.same H'.st h4 (by rw [List.mem_range]; omega) (fun k hk => by rw [List.mem_range] at hk; omega), fun w' H' => ?_, fun w' H' j tk n c hj hc => ?_⟩
    · rw [← h1]; exact H'.modAt.c 2 (by decide)
    · rw [H'.st.cell (p := ⟨fb, j * 4 + 3, none⟩) h4 (by rw [List.mem_range]; show ¬ fb < L + 1; omega)] at hc
      rcases h2.c3 j hj with ⟨_, q⟩ | ⟨_, tk', q, _, _, q2, _⟩
      · rw [q] at hc; simp at hc
      · rw [q] at hc
        simp at hc
        omega
theorem flat_loop (B : PB P) (lp : pb ≤ L ∨ wd.heap.size ≤ pb) (lc : cb ≤ L ∨ wd.heap.size ≤ cb) (tlt : TLt wd L mb m P fb) (hi : i < P.nf) (row : ∀ w', HM wd w' L mb m P → FnRow w' (L + 1) fb P.nf P.nf P.fn) (hw : wsum (bdOf P (P.fn i)) (P.fn i).nI ≤ 120) {w0 : World} {z : Sum Nat SS} :
    ∀ (n pc : Nat) (S : SS) (p : PS) (w : World), pc + n = (P.fn i).nI → FW wd w0 w L mb m P pb cb hg i pc S p → (S.fs.length = 0 → n = 0) → z = goS (bdOf P (P.fn i)) n pc S →
      prep_Prep_flat.L1 (some ⟨pb, 0, none⟩) (some ⟨mb, 0, none⟩) (some ⟨fb, i * 4, none⟩) (pc : Int) (FQ w0 pb cb hg (P.fn i).nI z) (fun _ _ => False) w := by
  have hB := B.fn i hi
  have bnI := hB.nI
  intro n
  induction n with
  | zero =>
    intro pc S p w hpc F hS ez
    obtain ⟨nb, c2, _⟩ := (row w F.H).c2 i hi
    refine prep_Prep_flat.step1 _ _ _ _ _ _ _ ?_
    unfold prep_Prep_flat.V1
    simp only [nilV_some, Nat.zero_add]
    refine ⟨_, _, _, c2, cond_false' (decide_eq_false (by omega)) ⟨_, F.p.d, ?_⟩⟩
    have kl := F.R.kl
    have ez : z = if S.fs.length = 0 then .inr S else .inl pc := ez
    refine cond_intro (fun e => ?_) (fun e => ?_)
    · have e : ¬ p.k.length = 0 := by intro g; rw [g] at e; cases e
      rw [if_neg (by omega)] at ez
      rw [ez]
      refine ⟨_, _, _, c2, ?_, ⟨p, F.p, F.R.c0⟩, F.S⟩
      have : (P.fn i).nI = pc := by omega
      rw [this]
    · have e : p.k.length = 0 := by
        have e : ((p.k.length : Int) != 0) = false := e
        have : (p.k.length : Int) = 0 := by simpa using e
        omega
      rw [if_pos (by omega)] at ez
      rw [ez]
      refine ⟨rfl, ⟨p, F.p, ?_⟩, F.S⟩
      have : (P.fn i).nI = pc := by omega
      rw [this]
      exact F.R
  | succ n ih =>
    intro pc S p w hpc F hS ez
    have hS : S.fs.length ≠ 0 := fun g => by have := hS g; omega
    obtain ⟨f, r, hfs⟩ : ∃ f r, S.fs = f :: r := by
      cases h : S.fs with
      | nil => rw [h] at hS; simp at hS
      | cons f r => exact ⟨f, r, rfl⟩
    obtain ⟨nb, c2, Ir, nb1, nb2, nb3⟩ := (row w F.H).c2 i hi
    have hpl : pc < (P.fn i).nI := by omega
    have hin := hB.ins pc hpl
    obtain ⟨o0, o1, x0, x1, y0, y1⟩ := hin
    rw [goS_succ] at ez
    have lpb := F.p.lt; have lcb := F.p.B.lt
    have hd := F.R.dd; have hdd := F.R.dead
    have hlen := F.R.len; have hl := F.l
    have hws := wsum_mono (bdOf P (P.fn i)) n (pc + 1)
    rw [show pc + 1 + n = (P.fn i).nI by omega] at hws
    have hw1 := wsum_succ (bdOf P (P.fn i)) pc
    have hcl : p.cells.length < 121 := by omega
    -- the next round
    have nxt : ∀ (w1 : World) (S' : SS) (q : PS), PA w1 pb cb q.cells hg q.k q.h q.dead → RI (pc + 1) S' q → S'.A.length ≤ wsum (bdOf P (P.fn i)) (pc + 1) → Same [pb, cb] w0.heap.size w0 w1 → HM wd w1 L mb m P → (S'.fs.length = 0 → n = 0) → z = goS (bdOf P (P.fn i)) n (pc + 1) S' →
        prep_Prep_flat.L2 (some ⟨pb, 0, none⟩) (some ⟨mb, 0, none⟩) (some ⟨fb, i * 4, none⟩) (pc : Int) (FQ w0 pb cb hg (P.fn i).nI z) (fun _ _ => False) w1 := fun w1 S' q pq Rq lq Sq Hq hq eq => by
      refine prep_Prep_flat.step2 _ _ _ _ _ _ _ ?_
      unfold prep_Prep_flat.V2
      have e : IntKind.wrap .i64 ((pc : Int) + 1) = ((pc + 1 : Nat) : Int) := by rw [wrap_i64 (by omega) (by omega)]; omega
      rw [e]
      exact ih (pc + 1) S' q w1 (by omega) ⟨Hq, pq, Rq, lq, Sq⟩ hq eq
    refine prep_Prep_flat.step1 _ _ _ _ _ _ _ ?_
    unfold prep_Prep_flat.V1
    simp only [nilV_some, Nat.zero_add]
    refine ⟨_, _, _, c2, cond_true' (decide_eq_true (by omega)) ⟨_, _, _, c2, ⟨by omega, by omega⟩, ?_⟩⟩
    rw [nilV_some]
    simp only [add_mk, Nat.zero_add, Int.toNat_natCast]
    refine ⟨_, _, _, Ir.i0 pc hpl, Ir.i1 pc hpl, Ir.i2 pc hpl, letB_intro fun xb hxb => letW_intro fun w1 hw1' => ?_⟩
    have I0 : InsAt w1 xb ⟨0, 0, 0⟩ := by subst hxb hw1'; exact InsAt.new _ _
    have S01 : Same [] w.heap.size w w1 := by rw [hw1']; exact (Same.refl _ _ _).alloc (Nat.le_refl _) _
    refine putCells_intro xb _ 0 w1 _ (fun j hj => by rw [Nat.zero_add]; exact I0.can j hj) (fun w2 hF => ?_)
    have S02 : Same [] w.heap.size w w2 := S01.trans ((hF.same _).mono (Nat.le_refl _) (fun k hk hl => by simp at hk; omega))
    have I2 : InsAt w2 xb ((P.fn i).ins pc) := ⟨by rw [hF.cell, if_pos (by simp)]; rfl, by rw [hF.cell, if_pos (by simp)]; rfl, by rw [hF.cell, if_pos (by simp)]; rfl, fun j => by rw [hF.frozen]; exact I0.f j⟩
    have F2 := F.keep S02
    have nx : xb ∉ [pb, cb] := by simp; omega
    refine ⟨_, I2.c0, RunsQ.post (skip_spec F2.p ((P.fn i).ins pc).op (by omega)) ?_⟩
    rintro v w3 ⟨rfl, p3, S23⟩
    have I3 := I2.same S23 I2.lt nx
    have S3 := F2.S.nx S23
    have H3 := F2.H.at2 S23 lp lc
    have hst : stepS (bdOf P (P.fn i)) pc S = if (skipP ((P.fn i).ins pc).op S.dead).1 = true then some { S with dead := (skipP ((P.fn i).ins pc).op S.dead).2 } else liveS (bdOf P (P.fn i)) pc ((P.fn i).ins pc) S := rfl
    refine ⟨_, rfl, cond_intro (fun e => ?_) (fun e => ?_)⟩
    · -- dead code
      have e' : (skipP ((P.fn i).ins pc).op S.dead).1 = true := by rw [← hdd]; exact e
      rw [hst, if_pos e'] at ez
      dsimp only at ez
      have hd2 : (skipP ((P.fn i).ins pc).op S.dead).2 ≠ 0 ∧ (skipP ((P.fn i).ins pc).op S.dead).2 ≤ S.dead + 1 := by
        revert e'
        unfold skipP
        repeat' split
        all_goals intro e'
        all_goals first
          | (cases e'; done)
          | (dsimp only at e' ⊢; omega)
          | (dsimp only at e' ⊢; have := of_decide_eq_true e'; omega)
      have R3 := (F.R.nx).setHD (h' := S.h) (d' := (skipP ((P.fn i).ins pc).op S.dead).2) F.R.h10 (fun g => absurd g hd2.1) (by omega)
      refine nxt w3 _ _ ?_ R3 (by show S.A.length ≤ _; omega) S3 H3 (fun g => absurd g hS) ez
      have hh := F.R.h
      rw [hdd] at p3
      rw [← hh]
      exact p3
    · -- live
      have e' : ¬ (skipP ((P.fn i).ins pc).op S.dead).1 = true := by rw [← hdd, e]; decide
      rw [hst, if_neg e'] at ez
      have sk2 : (skipP ((P.fn i).ins pc).op p.dead).2 = p.dead := by
        revert e
        unfold skipP
        repeat' split
        all_goals intro e
        all_goals first
          | (cases e; done)
          | rfl
          | (dsimp only; omega)
      dsimp only at p3
      rw [sk2] at p3
      have live : ((P.fn i).ins pc).op ≠ 5 → ((P.fn i).ins pc).op ≠ 11 → S.dead = 0 := fun q5 q11 => by
        rw [← hdd]
        revert e
        unfold skipP
        repeat' split
        all_goals intro e
        all_goals first
          | assumption
          | (cases e; done)
          | (exfalso; omega)
      clear sk2 hst e e'
      -- what a step's answer gives
      have fin : ∀ (w4 : World) (ok : Bool) (q : PS) (o : Option SS) (wt : Nat), PA w4 pb cb q.cells hg q.k q.h q.dead → Same [pb, cb] w3.heap.size w3 w4 → LRes pc S wt o (ok, q) → wt ≤ 1 + (if ((bdOf P (P.fn i)).ins pc).op = 14 ∧ ((bdOf P (P.fn i)).ins pc).y ≤ ((bdOf P (P.fn i)).nt : Int) then ((bdOf P (P.fn i)).ins pc).y.toNat else 0) → (∀ S', o = some S' → S'.fs.length = 0 → n = 0) → z = (match o with | none => .inl pc | some S' => goS (bdOf P (P.fn i)) n (pc + 1) S') →
          prep_Prep_flat.L4 (some ⟨pb, 0, none⟩) (some ⟨mb, 0, none⟩) (some ⟨fb, i * 4, none⟩) (pc : Int) ok (FQ w0 pb cb hg (P.fn i).nI z) (fun _ _ => False) w4 := fun w4 ok q o wt p4 S34 hL hwt hn eo => by
        refine prep_Prep_flat.step4 _ _ _ _ _ _ _ _ ?_
        unfold prep_Prep_flat.V4
        cases o with
        | none =>
          obtain ⟨g1, g2⟩ := hL
          have g1 : ok = false := g1
          subst g1
          refine cond_true' rfl ?_
          rw [eo]
          exact ⟨rfl, ⟨q, p4, g2⟩, S3.nx S34⟩
        | some S' =>
          obtain ⟨g1, g2, g3⟩ := hL
          have g1 : ok = true := g1
          subst g1
          refine cond_false' rfl ?_
          exact nxt w4 S' q p4 g2 (by omega) (S3.nx S34) (H3.at2 S34 lp lc) (hn S' rfl) eo
      have L5 : ∀ t : Bool, t = decide (((P.fn i).ins pc).op = 12 ∨ ((P.fn i).ins pc).op = 13) → ¬ (((P.fn i).ins pc).op = 2 ∨ ((P.fn i).ins pc).op = 3 ∨ ((P.fn i).ins pc).op = 4) → ¬ ((P.fn i).ins pc).op = 5 → ¬ ((P.fn i).ins pc).op = 11 →
          prep_Prep_flat.L5 (some ⟨pb, 0, none⟩) (some ⟨mb, 0, none⟩) (some ⟨fb, i * 4, none⟩) (pc : Int) xb true ((P.fn i).ins pc).op t (FQ w0 pb cb hg (P.fn i).nI z) (fun _ _ => False) w3 := fun t ht g1 g2 g3 => by
        have h0 := live g2 g3
        have h10 := F.R.h10; have hh := F.R.h
        obtain ⟨c, d, hk, Fr, hdl⟩ := F.R.top hfs
        have p3' := p3
        rw [hk] at p3'
        have fok := F.R.fok (by omega)
        rw [hk] at fok
        have kb := F.p.kl
        have hne : ∀ S' : SS, S'.fs = S.fs → S'.fs.length = 0 → n = 0 := fun S' q1 q2 => by rw [q1] at q2; exact absurd q2 hS
        unfold liveS at ez
        rw [if_neg g1, if_neg g2, if_neg g3] at ez
        refine prep_Prep_flat.step5 _ _ _ _ _ _ _ _ _ _ _ ?_
        unfold prep_Prep_flat.V5
        refine cond_intro (fun e => ?_) (fun e => ?_)
        · have e : ((P.fn i).ins pc).op = 12 ∨ ((P.fn i).ins pc).op = 13 := of_decide_eq_true (ht ▸ e)
          rw [if_pos e] at ez
          refine ⟨_, _, _, I3.c0, I3.c1, I3.c2, RunsQ.post (br_spec p3' hcl (by omega) (by omega) ((P.fn i).ins pc) ⟨o0, o1, x0, x1, y0, y1⟩ fok e) ?_⟩
          rintro v w4 ⟨rfl, p4, S34⟩
          have hL := F.R.brL h0 hfs ((P.fn i).ins pc) x0 e
          rw [← hk] at p4
          refine ⟨_, rfl, fin w4 _ _ (brS ((P.fn i).ins pc) S) 1 p4 S34 ?_ (by omega) (fun S' q => hne S' ?_) ez⟩
          · rw [← hk]; exact hL
          · exact brS_fs hfs q
        have g4 : ¬ (((P.fn i).ins pc).op = 12 ∨ ((P.fn i).ins pc).op = 13) := of_decide_eq_false (ht ▸ e)
        rw [if_neg g4] at ez
        refine cond_intro (fun e => ?_) (fun e => ?_)
        · have e : ((P.fn i).ins pc).op = 14 := eq_of_beq e
          rw [if_pos e] at ez
          have Hd := H3.drew
          have pd := p3'.drew
          have rw3 := (row _ Hd).c3 i hi
          have hL := F.R.tabL h0 hfs (bdOf P (P.fn i)) ((P.fn i).ins pc) x0 (fun j hj => (hB.tabs j hj).1)
          simp only [true_and, nilV_some, Nat.zero_add]
          have run : ∀ (ta : Option Addr), (0 < (P.fn i).nTab → ∃ tk, ta = some ⟨tk, 0, none⟩ ∧ TabRow w3.drew tk (P.fn i).nTab (P.fn i).tabs ∧ tk ≠ pb ∧ tk ≠ cb ∧ tk < w3.drew.heap.size) → w3.drew.cell? ⟨fb, i * 4 + 3, none⟩ = some (.slice ta (P.fn i).nTab (P.fn i).nTab) →
              ∃ x7 : Int, ∃ x8 : Int, ∃ x9 : Int, World.cell? (World.drew w3) ⟨xb, 0, none⟩ = some (.int .u8 x7) ∧ World.cell? (World.drew w3) ⟨xb, 1, none⟩ = some (.int .u32 x8) ∧ World.cell? (World.drew w3) ⟨xb, 2, none⟩ = some (.int .u64 x9) ∧ (∃ x11 : Option Addr, ∃ x12 : Nat, ∃ x13 : Nat, World.cell? (World.drew w3) ⟨fb, i * 4 + 3, none⟩ = some (.slice x11 x12 x13) ∧ (RunsQ Tryz.prog prep_Prep_table.id #[(.pointer (some ⟨pb, 0, none⟩)), (.agg #[(.int .u8 x7), (.int .u32 x8), (.int .u64 x9)]), (.slice x11 x12 x13)] (World.drew w3) (fun r14 w15 => (∃ x16 : Bool, (r14 = (.bool x16) ∧ (prep_Prep_flat.L4 (some ⟨pb, 0, none⟩) (some ⟨mb, 0, none⟩) (some ⟨fb, i * 4, none⟩) (pc : Int) x16 (FQ w0 pb cb hg (P.fn i).nI z) (fun _ _ => False) w15)))) (fun _ _ => False))) := fun ta hta cta => by
            refine ⟨_, _, _, I3.drew.c0, I3.drew.c1, I3.drew.c2, _, _, _, cta, RunsQ.post (ctable_spec pd (by omega) (by omega) ((P.fn i).ins pc) ⟨o0, o1, x0, x1, y0, y1⟩ fok hB.nT (fun j hj => hB.tabs j hj) hta (fun hy => ?_)) ?_⟩
            · have : (bdOf P (P.fn i)).ins pc = (P.fn i).ins pc := rfl
              have : (bdOf P (P.fn i)).nt = (P.fn i).nTab := rfl
              rw [if_pos (show ((bdOf P (P.fn i)).ins pc).op = 14 ∧ ((bdOf P (P.fn i)).ins pc).y ≤ ((bdOf P (P.fn i)).nt : Int) from ⟨e, hy⟩)] at hw1
              have : ((bdOf P (P.fn i)).ins pc).y.toNat = ((P.fn i).ins pc).y.toNat := rfl
              omega
            rintro v w4 ⟨rfl, p4, S34⟩
            have S34 : Same [pb, cb] w3.heap.size w3 w4 := (S2 pb cb (Same.refl _ _ w3).drew).nx S34
            rw [← hk] at p4
            refine ⟨_, rfl, fin w4 _ _ (tabS (bdOf P (P.fn i)) ((P.fn i).ins pc) S) _ p4 S34 (by rw [← hk]; exact hL) ?_ (fun S' q => hne S' ?_) ez⟩
            · have e' : ((bdOf P (P.fn i)).ins pc).op = 14 := e
              have e1 : ((bdOf P (P.fn i)).ins pc).y = ((P.fn i).ins pc).y := rfl
              rw [e1]
              by_cases hy : ((P.fn i).ins pc).y ≤ ((bdOf P (P.fn i)).nt : Int)
              · rw [if_pos hy, if_pos ⟨e', hy⟩]; exact Nat.le_refl _
              · rw [if_neg hy]; omega
            · revert q
              unfold tabS
              rw [hfs]
              dsimp only
              intro q
              split at q
              · cases q
              · split at q
                · cases q
                · cases q; rfl
          rcases rw3 with ⟨t0, t1⟩ | ⟨t0, tk, t1, t2, t3, t4, t5⟩
          · refine run none (fun g => absurd g (by omega)) ?_
            rw [t0]; exact t1
          · have t6 := tlt _ (by assumption) i tk _ _ hi t1
            exact run (some ⟨tk, 0, none⟩) (fun _ => ⟨tk, rfl, t2, by omega, by omega, t4⟩) t1
        have g5 : ¬ ((P.fn i).ins pc).op = 14 := by simpa using e
        rw [if_neg g5] at ez
        simp only [nilV_some]
        refine cond_intro (fun e => ?_) (fun e => ?_)
        · have e : ((P.fn i).ins pc).op = 15 := eq_of_beq e
          rw [if_pos e] at ez
          refine ⟨_, _, _, p3.s, letB_intro fun b hb => letW_intro fun w4 hw4 => ?_⟩
          refine emit_in p3 hcl ⟨15, 0, 0⟩ hb hw4 (fun w5 p5 S35 => ?_)
          refine ⟨p5.can 53 (by decide), letW_intro fun w6 hw6 => ?_⟩
          have p6 : PA w6 pb cb (p.cells ++ [⟨15, 0, 0⟩]) hg p.k p.h 1 := by rw [hw6]; exact p5.setD 1
          exact fin w6 true { p with cells := p.cells ++ [⟨15, 0, 0⟩], dead := 1 } (some (retS S)) 1 p6 (S35.nx (by rw [hw6]; exact Same.pset _ _ _ _ _)) ⟨rfl, F.R.retL, by unfold retS; simp⟩ (by omega) (fun S' q => by cases q; exact hne _ rfl) ez
        · have g6 : ¬ ((P.fn i).ins pc).op = 15 := by simpa using e
          rw [if_neg g6] at ez
          refine ⟨_, _, _, I3.c0, I3.c1, I3.c2, RunsQ.post (cplain_spec H3 B p3' hcl (by omega) (by omega) (by have := Fr.fl; have := Fr.fl10; omega) ((P.fn i).ins pc) ⟨o0, o1, x0, x1, y0, y1⟩ (fun a g h => eff_small B ⟨o0, o1, x0, x1, y0, y1⟩ h)) ?_⟩
          rintro v w4 ⟨rfl, p4, S34⟩
          have hL := F.R.plainL h0 hfs (bdOf P (P.fn i)) ((P.fn i).ins pc)
          rw [← hk] at p4
          refine ⟨_, rfl, fin w4 _ _ (plainS (bdOf P (P.fn i)) ((P.fn i).ins pc) S) 1 p4 S34 (by rw [← hk]; exact hL) (by omega) (fun S' q => hne S' ?_) ez⟩
          revert q
          unfold plainS
          rw [hfs]
          dsimp only
          intro q
          split at q
          · cases q
          · split at q
            · cases q
            · cases q; rfl
      have L3 : ∀ t : Bool, t = decide (((P.fn i).ins pc).op = 2 ∨ ((P.fn i).ins pc).op = 3 ∨ ((P.fn i).ins pc).op = 4) →
          prep_Prep_flat.L3 (some ⟨pb, 0, none⟩) (some ⟨mb, 0, none⟩) (some ⟨fb, i * 4, none⟩) (pc : Int) xb true ((P.fn i).ins pc).op t (FQ w0 pb cb hg (P.fn i).nI z) (fun _ _ => False) w3 := fun t ht => by
        have h10 := F.R.h10; have hh := F.R.h
        obtain ⟨c, d, hk, Fr, hdl⟩ := F.R.top hfs
        have p3' := p3
        rw [hk] at p3'
        obtain ⟨n1, n2⟩ := F.R.cnl Fr
        have f1 := Fr.fl; have f2 := Fr.fl10; have f3 := Fr.ar; have f4 := Fr.ar10
        refine prep_Prep_flat.step3 _ _ _ _ _ _ _ _ _ _ _ ?_
        unfold prep_Prep_flat.V3
        refine cond_intro (fun e => ?_) (fun e => ?_)
        · have e : ((P.fn i).ins pc).op = 2 ∨ ((P.fn i).ins pc).op = 3 ∨ ((P.fn i).ins pc).op = 4 := of_decide_eq_true (ht ▸ e)
          unfold liveS at ez
          rw [if_pos e] at ez
          refine ⟨_, _, _, I3.c0, I3.c1, I3.c2, RunsQ.post (open_spec p3' rfl hcl (by omega) (by omega) ((P.fn i).ins pc)) ?_⟩
          rintro v w4 ⟨rfl, p4, S34⟩
          have hL := F.R.openL (live (by omega) (by omega)) hfs ((P.fn i).ins pc)
          rw [← hk] at p4
          refine ⟨_, rfl, fin w4 _ _ (openS pc ((P.fn i).ins pc) S) 1 p4 S34 (by rw [← hk]; exact hL) (by omega) (fun S' q q2 => ?_) ez⟩
          exfalso
          revert q
          unfold openS
          rw [hfs]
          dsimp only
          intro q
          split at q
          · cases q
          · split at q
            · split at q
              · cases q
              · cases q; simp at q2
            · cases q; simp at q2
        have g1 : ¬ (((P.fn i).ins pc).op = 2 ∨ ((P.fn i).ins pc).op = 3 ∨ ((P.fn i).ins pc).op = 4) := of_decide_eq_false (ht ▸ e)
        refine cond_intro (fun e => ?_) (fun e => ?_)
        · have e : ((P.fn i).ins pc).op = 5 := eq_of_beq e
          unfold liveS at ez
          rw [if_neg g1, if_pos e] at ez
          refine RunsQ.post (turn_spec p3' hcl n1 (by omega) (by omega)) ?_
          rintro v w4 ⟨rfl, p4, S34⟩
          have hL := F.R.turnL hfs
          rw [← hk] at p4
          refine ⟨_, rfl, fin w4 _ _ (turnS S) 1 p4 S34 (by rw [← hk]; exact hL) (by omega) (fun S' q q2 => ?_) ez⟩
          exfalso
          revert q
          unfold turnS
          rw [hfs]
          dsimp only
          intro q
          split at q
          · cases q
          · split at q
            · cases q
            · cases q; simp at q2
        have g2 : ¬ ((P.fn i).ins pc).op = 5 := by simpa using e
        refine cond_intro (fun e => ?_) (fun e => ?_)
        · have e : ((P.fn i).ins pc).op = 11 := eq_of_beq e
          unfold liveS at ez
          rw [if_neg g1, if_neg g2, if_pos e] at ez
          obtain ⟨ms, m1, hL, hfail⟩ := F.R.shutL hfs
          refine RunsQ.post (shut_spec p3' hcl F.R.c0 n1 n2 (by omega) (by omega) (m1 c d hk)) ?_
          rintro v w4 ⟨rfl, p4, S34⟩
          rw [← hk] at p4
          have hz : shutP ms ⟨p.cells, p.k, p.h, p.dead⟩ = shutP ms p := rfl
          rw [← hk]
          refine ⟨_, rfl, ?_⟩
          simp only [nilV_some, Nat.zero_add]
          have H4 := H3.at2 S34 lp lc
          obtain ⟨nb', c2', _⟩ := (row w4 H4).c2 i hi
          refine ⟨_, p4.d, ?_⟩
          rw [hz] at p4 ⊢
          cases hs : shutS S with
          | none =>
            rw [hs] at hL ez
            obtain ⟨q1, q2⟩ := hL
            have hk4 := hfail q1
            refine cond_intro (fun u => ?_) (fun u => ?_)
            · have u : (shutP ms p).2.k.length = 0 := by have := eq_of_beq u; omega
              rw [hk4, hk] at u
              cases u
            · rw [q1]
              exact fin w4 false _ none 1 p4 S34 ⟨rfl, q2⟩ (by omega) (fun S' q => by cases q) ez
          | some S' =>
            rw [hs] at hL ez
            obtain ⟨q1, q2, q3⟩ := hL
            have kl := q2.kl
            rw [q1]
            refine cond_intro (fun u => ?_) (fun u => ?_)
            · have u : (shutP ms p).2.k.length = 0 := by have := eq_of_beq u; omega
              refine ⟨_, _, _, c2', ?_⟩
              have e1 : IntKind.wrap .i64 (((P.fn i).nI : Int) - 1) = ((P.fn i).nI : Int) - 1 := wrap_i64 (by omega) (by omega)
              rw [e1]
              refine cond_intro (fun u2 => ?_) (fun u2 => ?_)
              · have u2 : ¬ (pc : Int) = ((P.fn i).nI : Int) - 1 := by simpa using u2
                dsimp only at ez
                rw [if_pos ⟨by omega, by show pc + 1 ≠ (P.fn i).nI; omega⟩] at ez
                exact fin w4 false _ none 1 p4 S34 ⟨rfl, q2.c0⟩ (by omega) (fun S' q => by cases q) ez
              · have u2 : (pc : Int) = ((P.fn i).nI : Int) - 1 := by simpa using u2
                dsimp only at ez
                rw [if_neg (fun q => q.2 (by show pc + 1 = (P.fn i).nI; omega))] at ez
                exact fin w4 true _ (some S') 1 p4 S34 ⟨rfl, q2, q3⟩ (by omega) (fun S'' q q' => by omega) ez
            · have u : ¬ (shutP ms p).2.k.length = 0 := by intro g; rw [g] at u; cases u
              dsimp only at ez
              rw [if_neg (fun q => by omega)] at ez
              exact fin w4 true _ (some S') 1 p4 S34 ⟨rfl, q2, q3⟩ (by omega) (fun S'' q q' => by cases q; omega) ez
        have g3 : ¬ ((P.fn i).ins pc).op = 11 := by simpa using e
        refine cond_intro (fun e => L5 true ?_ g1 g2 g3) (fun e => L5 _ ?_ g1 g2 g3)
        · have := eq_of_beq e; rw [decide_eq_true (by omega)]
        · have e12 : ¬ ((P.fn i).ins pc).op = 12 := by simpa using e
          by_cases q : ((P.fn i).ins pc).op = 13
          · rw [decide_eq_true (by omega), q]; rfl
          · rw [decide_eq_false (by omega)]; simpa using q
      refine ⟨_, I3.c0, cond_intro (fun e => L3 true ?_) (fun e2 => cond_intro (fun e => L3 true ?_) (fun e3 => L3 _ ?_))⟩
      · have := eq_of_beq e; rw [decide_eq_true (by omega)]
      · have := eq_of_beq e; rw [decide_eq_true (by omega)]
      · have e2 : ¬ ((P.fn i).ins pc).op = 2 := by simpa using e2
        have e3 : ¬ ((P.fn i).ins pc).op = 3 := by simpa using e3
        by_cases q : ((P.fn i).ins pc).op = 4
        · rw [decide_eq_true (by omega), q]; rfl
        · rw [decide_eq_false (by omega)]; simpa using q
end
end Go.Proofs.Qxb6500317aGreat
