/-
  The model reads one instruction (all but br_table), an initialiser.
-/
import Derived.Test.Qxb6500316aMdE
set_option linter.unusedSimpArgs false
set_option linter.unusedVariables false
set_option maxRecDepth 100000
set_option linter.unusedSectionVars false
namespace Go.Proofs.Qxb6500316a
open Go Go.Vc

theorem memS_all : ((List.range 256).all fun n => ((api_MemSig.F (n : Int)).1 == 0) == !(decide (40 ≤ n) && decide (n ≤ 62))) = true := by kernel_rfl
theorem memS_iff {op : Int} (h0 : 0 ≤ op) (h1 : op ≤ 255) : ((api_MemSig.F op).1 != 0) = decide (40 ≤ op ∧ op ≤ 62) := by
  have q := List.all_eq_true.1 memS_all op.toNat (List.mem_range.2 (by omega))
  rw [Int.toNat_of_nonneg h0] at q
  have q : ((api_MemSig.F op).1 == 0) = !(decide (40 ≤ op.toNat) && decide (op.toNat ≤ 62)) := eq_of_beq q
  unfold bne
  rw [q, Bool.not_not, ← Bool.decide_and]
  by_cases h : 40 ≤ op ∧ op ≤ 62
  · rw [decide_eq_true h, decide_eq_true (by omega)]
  · rw [decide_eq_false h, decide_eq_false (by omega)]
theorem numS_all : ((List.range 256).all fun n => ((api_NumSig.F (n : Int)).1 == 0) == !(decide (69 ≤ n) && decide (n ≤ 191))) = true := by kernel_rfl
theorem numS_iff {op : Int} (h0 : 0 ≤ op) (h1 : op ≤ 255) : ((api_NumSig.F op).1 != 0) = decide (69 ≤ op ∧ op ≤ 191) := by
  have q := List.all_eq_true.1 numS_all op.toNat (List.mem_range.2 (by omega))
  rw [Int.toNat_of_nonneg h0] at q
  have q : ((api_NumSig.F op).1 == 0) = !(decide (69 ≤ op.toNat) && decide (op.toNat ≤ 191)) := eq_of_beq q
  unfold bne
  rw [q, Bool.not_not, ← Bool.decide_and]
  by_cases h : 69 ≤ op ∧ op ≤ 191
  · rw [decide_eq_true h, decide_eq_true (by omega)]
  · rw [decide_eq_false h, decide_eq_false (by omega)]

theorem postQ {id : FuncId} {args : Array Value} {w : World} {R0 R Q : Value → World → Prop} (h : Runs Try.prog id args w R0) (hr : ∀ v w', R0 v w' → R v w') : RunsQ Try.prog id args w R Q := RunsQ.mono h hr (by rintro v w' ⟨⟩)
section
variable {SS : List Nat} {w0 w : World} {rb e lo tb xb : Nat} {s : ByteArray} {op at_ : Int} {f : Option Addr}

/-- The end of an instruction's reading. -/
def IEnd (SS : List Nat) (w0 : World) (rb : Nat) (s : ByteArray) (e lo : Nat) (rr : Res Ins) (R : Value → World → Prop) : Prop :=
  ∀ w' i, StR w' rb s e lo rr → Same SS w0.heap.size w0 w' → (∀ a q, rr = .ok a q → i = a) → R (insV i) w'

theorem IEnd.map {γ : Type} {r : Res γ} {i : Ins} {rr : Res Ins} {R Q : Value → World → Prop} (hE : IEnd SS w0 rb s e lo rr R) (c : MCtx SS w0 w rb s e lo tb xb r i) (g : γ → Ins) (hr : rr = r.bind fun y q => .ok (g y) q) (hi : ∀ y q, r = .ok y q → i = g y) : binm_rd_ins.L5 tb xb R Q w := by
  refine c.done fun w' hst hS _ => hE w' i (by rw [hr]; exact hst.map g) hS fun a q ha => ?_
  rw [hr] at ha
  obtain ⟨y, q', h1, h2⟩ := bind_ok ha
  (first | (injection h2 with z__; injection z__ with h2 h3) | injection h2 with h2 h3)
  rw [hi y q' h1, h2]

theorem ins_ops {n q : Nat} {rr : Res Ins} {R Q : Value → World → Prop} (c : MCtx SS w0 w rb s e lo tb xb (.ok op q : Res Int) ⟨op, 0, 0⟩) (he : e ≤ s.size) (hs : s.size ≤ 1024) (h0 : 0 ≤ op) (h255 : op ≤ 255) (h14 : op ≠ 14) (hrr : rr = restP s e op at_ q) (hE : IEnd SS w0 rb s e lo rr R) (t : Bool) (ht : t = decide (op = 2 ∨ op = 3 ∨ op = 4)) :
    binm_rd_ins.L1 (some ⟨rb, 0, none⟩) f tb at_ op xb (api_MemSig.F op).1 (api_NumSig.F op).1 t R Q w := by
  refine binm_rd_ins.step1 _ _ _ _ _ _ _ _ _ _ _ _ ?_
  unfold binm_rd_ins.V1
  simp only [nilV_some, Nat.zero_add]
  unfold restP at hrr
  refine cond_intro (fun e1 => ?_) (fun e1 => ?_)
  · -- a block's type
    have h2 : op = 2 ∨ op = 3 ∨ op = 4 := of_decide_eq_true (ht ▸ e1)
    rw [if_neg (by omega), if_pos h2] at hrr
    obtain ⟨p0, k1, hp0⟩ := c.st.c1
    have hp0 := hp0 op q rfl
    subst hp0
    refine ⟨_, k1, ?_⟩
    refine (byte_spec c.st he hs).into fun v w2 hv hst S2 => ⟨_, hv, ?_⟩
    have c2 := c.step hst S2
    rw [Res.bind_ok'] at c2 ⊢
    have L4 : ∀ (w3 : World) (r : Res Ins) (b : Int), MCtx SS w0 w3 rb s e lo tb xb r ⟨op, 0, 0⟩ → r = rr → (∀ a q', rr = .ok a q' → a = ⟨op, IntKind.wrap .u32 b, 0⟩) → binm_rd_ins.L4 tb xb b R Q w3 := fun w3 r b c3 hr hb => by
      refine binm_rd_ins.step4 _ _ _ _ _ _ ?_
      unfold binm_rd_ins.V4
      refine ⟨c3.x.can 1 (by decide), letW_intro fun w4 hw4 => ?_⟩
      have c4 := c3.setx (IntKind.wrap .u32 b)
      rw [← hw4] at c4
      refine c4.done fun w' hst hS _ => hE w' _ (by rw [← hr]; exact hst) hS fun a q' ha => (hb a q' ha).symm
    cases hz : nextP s e q using Res.cs with
    | err n x =>
      rw [hz] at c2 hrr
      rw [Res.bind_err'] at hrr
      have L2 : ∀ t, binm_rd_ins.L2 (some ⟨rb, 0, none⟩) tb xb (q : Int) 0 t R Q w2 := fun t => by
        refine binm_rd_ins.step2 _ _ _ _ _ _ _ _ _ ?_
        unfold binm_rd_ins.V2
        refine cond_intro (fun _ => ?_) (fun _ => L4 w2 (.err n x) 0 (c2.step c2.st (Same.refl _ _ _)) hrr.symm (fun a q' ha => by rw [hrr] at ha; cases ha))
        refine (fail_spec (β := Ins) c2.st 9 (q : Int) (by decide)).into fun v w3 hv hst3 S3 => ⟨hv, L4 w3 _ 0 (c2.step hst3 S3) hrr.symm (fun a q' ha => by rw [hrr] at ha; cases ha)⟩
      refine cond_true' (by show ((0 : Int) != 64) = true; decide) ?_
      rw [show numR (Res.err n x) = 0 from rfl]
      refine postQ (api_IsVal.pure _ _) ?_
      rintro _ w3 ⟨rfl, rfl⟩
      exact ⟨_, rfl, L2 _⟩
    | ok b q2 =>
      rw [hz] at c2 hrr
      rw [Res.bind_ok'] at hrr
      have hb := nextP_rng hz
      rw [show numR (Res.ok b q2) = b from rfl]
      have L2 : ∀ t, t = decide (b ≠ 64 ∧ (b < 124 ∨ 127 < b)) → binm_rd_ins.L2 (some ⟨rb, 0, none⟩) tb xb (q : Int) b t R Q w2 := fun t ht => by
        refine binm_rd_ins.step2 _ _ _ _ _ _ _ _ _ ?_
        unfold binm_rd_ins.V2
        refine cond_intro (fun e2 => ?_) (fun e2 => ?_)
        · have e2 : b ≠ 64 ∧ (b < 124 ∨ 127 < b) := of_decide_eq_true (ht ▸ e2)
          rw [if_pos e2] at hrr
          refine (fail_spec (β := Ins) c2.st 9 (q : Int) (by decide)).into fun v w3 hv hst3 S3 => ⟨hv, L4 w3 _ b (c2.step hst3 S3) hrr.symm (fun a q' ha => by rw [hrr] at ha; cases ha)⟩
        · have e2 : ¬ (b ≠ 64 ∧ (b < 124 ∨ 127 < b)) := of_decide_eq_false (ht ▸ e2)
          rw [if_neg e2] at hrr
          refine L4 w2 _ b (c2.step (c2.st.map (fun _ => (⟨op, IntKind.wrap .u32 b, 0⟩ : Ins))) (Same.refl _ _ _)) hrr.symm (fun a q' ha => by rw [hrr] at ha; (first | (injection ha with z__; injection z__ with h1 h2) | injection ha with h1 h2); exact h1.symm)
      refine cond_intro (fun e2 => ?_) (fun e2 => L2 false ?_)
      · rw [wrap_u8 (by omega) (by omega)]
        refine postQ (api_IsVal.pure _ _) ?_
        rintro _ w3 ⟨rfl, rfl⟩
        refine ⟨_, rfl, L2 _ ?_⟩
        have hi := isVal_iff hb.1 hb.2
        have e2 : b ≠ 64 := by simpa using e2
        by_cases hv : b < 124 ∨ 127 < b
        · rw [decide_eq_true ⟨e2, hv⟩]
          cases hF : api_IsVal.F b with
          | false => rfl
          | true => exact absurd hv (hi.1 hF)
        · rw [decide_eq_false (fun h => hv h.2), hi.2 hv]; rfl
      · have e2 : b = 64 := by simpa using e2
        rw [decide_eq_false (fun h => h.1 e2)]
  have h2 : ¬ (op = 2 ∨ op = 3 ∨ op = 4) := of_decide_eq_false (ht ▸ e1)
  -- the rest
  have U : ∀ (w2 : World) {γ : Type} (r : Res γ) (i : Ins) (g : γ → Ins), MCtx SS w0 w2 rb s e lo tb xb r i → rr = (r.bind fun y q => .ok (g y) q) → (∀ y q, r = .ok y q → i = g y) → binm_rd_ins.L5 tb xb R Q w2 := fun w2 γ r i g c2 hr hi => hE.map c2 g hr hi
  have w32 : ∀ (β : Type) (r0 : Res β) , IntKind.wrap .u32 (numR (r0.bind fun _ p => u32P s e p)) = numR (r0.bind fun _ p => u32P s e p) := fun β r0 => by
    have hr : 0 ≤ numR (r0.bind fun _ p => u32P s e p) ∧ numR (r0.bind fun _ p => u32P s e p) ≤ 4294967295 := by
      cases hz : r0.bind fun _ p => u32P s e p using Res.cs with
      | ok n q => 
        obtain ⟨a, q', _, h2⟩ := bind_ok hz
        exact u32P_rng h2
      | err n x => exact ⟨Int.le_refl 0, show (0 : Int) ≤ 4294967295 by decide⟩
    exact wrap_u32 hr.1 (by omega)
  have L9 : ∀ t, t = decide (op = 0 ∨ op = 1 ∨ op = 5 ∨ op = 11 ∨ op = 15 ∨ op = 26 ∨ op = 27 ∨ (69 ≤ op ∧ op ≤ 191)) → ¬ (op = 12 ∨ op = 13 ∨ op = 16 ∨ op = 32 ∨ op = 33 ∨ op = 34 ∨ op = 35 ∨ op = 36) → op ≠ 17 → ¬ (op = 63 ∨ op = 64) → op ≠ 65 → op ≠ 66 → op ≠ 67 → op ≠ 68 → ¬ (40 ≤ op ∧ op ≤ 62) → binm_rd_ins.L9 (some ⟨rb, 0, none⟩) tb at_ xb t R Q w := fun t ht n1 n2 n3 n4 n5 n6 n7 n8 => by
    refine binm_rd_ins.step9 _ _ _ _ _ _ _ _ ?_
    unfold binm_rd_ins.V9
    refine cond_intro (fun e2 => ?_) (fun e2 => ?_)
    · have e2 := of_decide_eq_true (ht ▸ e2)
      have hk : rr = .ok ⟨op, 0, 0⟩ q := by
        rw [hrr]
        by_cases k : op = 0 ∨ op = 1 ∨ op = 5 ∨ op = 11 ∨ op = 15 ∨ op = 26 ∨ op = 27
        · rw [if_pos k]
        · rw [if_neg k, if_neg h2, if_neg n1, if_neg n2, if_neg n3, if_neg n4, if_neg n5, if_neg n6, if_neg n7, if_neg n8, if_neg (by omega)]
      exact U w _ _ (fun _ => ⟨op, 0, 0⟩) c hk (fun _ _ _ => rfl)
    · have e2 := of_decide_eq_false (ht ▸ e2)
      have hk : rr = .err 10 at_ := by
        rw [hrr, if_neg (by omega), if_neg h2, if_neg n1, if_neg n2, if_neg n3, if_neg n4, if_neg n5, if_neg n6, if_neg n7, if_neg n8, if_pos (by omega)]
      refine (fail_spec (β := Ins) c.st 10 at_ (by decide)).into fun v w2 hv hst S2 => ⟨hv, ?_⟩
      exact (c.step hst S2).done fun w' hst' hS _ => hE w' _ (by rw [hk]; exact hst') hS (fun a q' ha => by rw [hk] at ha; cases ha)
  have L7 : ∀ t, t = decide (op = 63 ∨ op = 64) → ¬ (op = 12 ∨ op = 13 ∨ op = 16 ∨ op = 32 ∨ op = 33 ∨ op = 34 ∨ op = 35 ∨ op = 36) → op ≠ 17 → ¬ (40 ≤ op ∧ op ≤ 62) → binm_rd_ins.L7 (some ⟨rb, 0, none⟩) tb at_ op xb (api_NumSig.F op).1 t R Q w := fun t ht n1 n2 n8 => by
    refine binm_rd_ins.step7 _ _ _ _ _ _ _ _ _ _ ?_
    unfold binm_rd_ins.V7
    refine cond_intro (fun e2 => ?_) (fun e2 => ?_)
    · have e2 : op = 63 ∨ op = 64 := of_decide_eq_true (ht ▸ e2)
      rw [if_neg (by omega), if_neg h2, if_neg n1, if_neg n2, if_pos e2] at hrr
      refine (fixedm_spec c.st he hs 0).into fun v w2 hv hst S2 => ⟨hv, ?_⟩
      exact U w2 _ _ (fun _ => ⟨op, 0, 0⟩) (c.step hst S2) hrr (fun _ _ _ => rfl)
    have n3 : ¬ (op = 63 ∨ op = 64) := of_decide_eq_false (ht ▸ e2)
    refine cond_intro (fun e3 => ?_) (fun e3 => ?_)
    · have e3 : op = 65 := eq_of_beq e3
      rw [if_neg (by omega), if_neg h2, if_neg n1, if_neg n2, if_neg n3, if_pos e3] at hrr
      refine (leb_spec c.st he hs 32 true (slebP s e 32) (sleb32_leb s e) (.inl rfl) (by decide)).into fun v w2 hv hst S2 => ⟨_, hv, (c.step hst S2).x.can 2 (by decide), letW_intro fun w3 hw3 => ?_⟩
      have c3 := (c.step hst S2).sety (numR ((Res.ok op q : Res Int).bind fun _ p => slebP s e 32 p))
      rw [← hw3] at c3
      exact U w3 _ _ (fun y => ⟨op, 0, y⟩) c3 hrr (fun y q' hy => by rw [hy]; rfl)
    have e3 : ¬ op = 65 := by simpa using e3
    refine cond_intro (fun e4 => ?_) (fun e4 => ?_)
    · have e4 : op = 66 := eq_of_beq e4
      rw [if_neg (by omega), if_neg h2, if_neg n1, if_neg n2, if_neg n3, if_neg e3, if_pos e4] at hrr
      refine (leb_spec c.st he hs 64 true (slebP s e 64) (sleb64_leb s e) (.inr rfl) (by decide)).into fun v w2 hv hst S2 => ⟨_, hv, (c.step hst S2).x.can 2 (by decide), letW_intro fun w3 hw3 => ?_⟩
      have c3 := (c.step hst S2).sety (numR ((Res.ok op q : Res Int).bind fun _ p => slebP s e 64 p))
      rw [← hw3] at c3
      exact U w3 _ _ (fun y => ⟨op, 0, y⟩) c3 hrr (fun y q' hy => by rw [hy]; rfl)
    have e4 : ¬ op = 66 := by simpa using e4
    refine cond_intro (fun e5 => ?_) (fun e5 => ?_)
    · have e5 : op = 67 := eq_of_beq e5
      rw [if_neg (by omega), if_neg h2, if_neg n1, if_neg n2, if_neg n3, if_neg e3, if_neg e4, if_pos e5] at hrr
      refine (littlem_spec c.st he hs 4 (by decide)).into fun v w2 hv hst S2 => ⟨_, hv, (c.step hst S2).x.can 2 (by decide), letW_intro fun w3 hw3 => ?_⟩
      have c3 := (c.step hst S2).sety (numR ((Res.ok op q : Res Int).bind fun _ p => wordP s e 4 p))
      rw [← hw3] at c3
      exact U w3 _ _ (fun y => ⟨op, 0, y⟩) c3 hrr (fun y q' hy => by rw [hy]; rfl)
    have e5 : ¬ op = 67 := by simpa using e5
    refine cond_intro (fun e6 => ?_) (fun e6 => ?_)
    · have e6 : op = 68 := eq_of_beq e6
      rw [if_neg (by omega), if_neg h2, if_neg n1, if_neg n2, if_neg n3, if_neg e3, if_neg e4, if_neg e5, if_pos e6] at hrr
      refine (littlem_spec c.st he hs 8 (by decide)).into fun v w2 hv hst S2 => ⟨_, hv, (c.step hst S2).x.can 2 (by decide), letW_intro fun w3 hw3 => ?_⟩
      have c3 := (c.step hst S2).sety (numR ((Res.ok op q : Res Int).bind fun _ p => wordP s e 8 p))
      rw [← hw3] at c3
      exact U w3 _ _ (fun y => ⟨op, 0, y⟩) c3 hrr (fun y q' hy => by rw [hy]; rfl)
    have e6 : ¬ op = 68 := by simpa using e6
    rw [numS_iff h0 h255]
    refine cond_intro (fun e7 => L9 true ?_ n1 n2 n3 e3 e4 e5 e6 n8) (fun e7 => ?_)
    · have := of_decide_eq_true e7; rw [decide_eq_true (by omega)]
    have e7 : ¬ (69 ≤ op ∧ op ≤ 191) := of_decide_eq_false e7
    refine cond_intro (fun e8 => L9 true ?_ n1 n2 n3 e3 e4 e5 e6 n8) (fun e8 => ?_)
    · have := of_decide_eq_true e8; rw [decide_eq_true (by omega)]
    have e8 := of_decide_eq_false e8
    refine cond_intro (fun e9 => L9 true ?_ n1 n2 n3 e3 e4 e5 e6 n8) (fun e9 => ?_)
    · have := eq_of_beq e9; rw [decide_eq_true (by omega)]
    have e9 : ¬ op = 5 := by simpa using e9
    refine cond_intro (fun e10 => L9 true ?_ n1 n2 n3 e3 e4 e5 e6 n8) (fun e10 => ?_)
    · have := eq_of_beq e10; rw [decide_eq_true (by omega)]
    have e10 : ¬ op = 11 := by simpa using e10
    refine cond_intro (fun e11 => L9 true ?_ n1 n2 n3 e3 e4 e5 e6 n8) (fun e11 => ?_)
    · have := eq_of_beq e11; rw [decide_eq_true (by omega)]
    have e11 : ¬ op = 15 := by simpa using e11
    refine cond_intro (fun e12 => L9 true ?_ n1 n2 n3 e3 e4 e5 e6 n8) (fun e12 => L9 _ ?_ n1 n2 n3 e3 e4 e5 e6 n8)
    · have := eq_of_beq e12; rw [decide_eq_true (by omega)]
    have e12 : ¬ op = 26 := by simpa using e12
    by_cases h27 : op = 27
    · rw [decide_eq_true (by omega), h27]; rfl
    · rw [decide_eq_false (by omega)]; simpa using h27
  have L3 : ∀ t, t = decide (op = 12 ∨ op = 13 ∨ op = 16 ∨ op = 32 ∨ op = 33 ∨ op = 34 ∨ op = 35 ∨ op = 36) → binm_rd_ins.L3 (some ⟨rb, 0, none⟩) f tb at_ op xb (api_MemSig.F op).1 (api_NumSig.F op).1 t R Q w := fun t ht => by
    refine binm_rd_ins.step3 _ _ _ _ _ _ _ _ _ _ _ _ ?_
    unfold binm_rd_ins.V3
    refine cond_intro (fun e2 => ?_) (fun e2 => ?_)
    · have e2 := of_decide_eq_true (ht ▸ e2)
      rw [if_neg (by omega), if_neg h2, if_pos e2] at hrr
      refine (u32m_spec c.st he hs).into fun v w2 hv hst S2 => ⟨_, hv.1, (c.step hst S2).x.can 1 (by decide), letW_intro fun w3 hw3 => ?_⟩
      have c3 := (c.step hst S2).setx (numR ((Res.ok op q : Res Int).bind fun _ p => u32P s e p))
      rw [w32, ] at hw3
      rw [← hw3] at c3
      exact U w3 _ _ (fun y => ⟨op, y, 0⟩) c3 hrr (fun y q' hy => by rw [hy]; rfl)
    have n1 := of_decide_eq_false (ht ▸ e2)
    refine cond_false' (by simpa using h14) ?_
    refine cond_intro (fun e3 => ?_) (fun e3 => ?_)
    · have e3 : op = 17 := eq_of_beq e3
      rw [if_neg (by omega), if_neg h2, if_neg n1, if_pos e3] at hrr
      refine (u32m_spec c.st he hs).into fun v w2 hv hst S2 => ⟨_, hv.1, (c.step hst S2).x.can 1 (by decide), letW_intro fun w3 hw3 => ?_⟩
      have c3 := (c.step hst S2).setx (numR ((Res.ok op q : Res Int).bind fun _ p => u32P s e p))
      rw [w32] at hw3
      rw [← hw3] at c3
      refine (fixedm_spec c3.st he hs 0).into fun v w4 hv4 hst4 S4 => ⟨hv4, ?_⟩
      refine U w4 _ _ (fun _ => ⟨op, numR (u32P s e q), 0⟩) (c3.step hst4 S4) ?_ (fun y q' hy => rfl)
      rw [hrr, Res.bind_ok', Res.bind_bind]
      cases u32P s e q <;> rfl
    have n2 : ¬ op = 17 := by simpa using e3
    rw [memS_iff h0 h255]
    refine cond_intro (fun e4 => ?_) (fun e4 => ?_)
    · have e4 := of_decide_eq_true e4
      rw [if_neg (by omega), if_neg h2, if_neg n1, if_neg n2, if_neg (by omega), if_neg (by omega), if_neg (by omega), if_neg (by omega), if_neg (by omega), if_pos e4] at hrr
      refine (u32m_spec c.st he hs).into fun v w2 hv hst S2 => ⟨_, hv.1, (c.step hst S2).x.can 1 (by decide), letW_intro fun w3 hw3 => ?_⟩
      have c3 := (c.step hst S2).setx (numR ((Res.ok op q : Res Int).bind fun _ p => u32P s e p))
      rw [w32] at hw3
      rw [← hw3] at c3
      refine (u32m_spec c3.st he hs).into fun v w4 hv4 hst4 S4 => ⟨_, hv4.1, (c3.step hst4 S4).x.can 2 (by decide), letW_intro fun w5 hw5 => ?_⟩
      rw [wrap_u64 hv4.2.1 (by omega)] at hw5
      have c5 := (c3.step hst4 S4).sety (numR (((Res.ok op q : Res Int).bind fun _ p => u32P s e p).bind fun _ p => u32P s e p))
      rw [← hw5] at c5
      refine U w5 _ _ (fun y => ⟨op, numR (u32P s e q), y⟩) c5 ?_ (fun y q' hy => by rw [hy]; rfl)
      rw [hrr, Res.bind_ok', Res.bind_bind]
      cases u32P s e q <;> rfl
    have n8 := of_decide_eq_false e4
    refine cond_intro (fun e5 => L7 true ?_ n1 n2 n8) (fun e5 => L7 _ ?_ n1 n2 n8)
    · have := eq_of_beq e5; rw [decide_eq_true (by omega)]
    · have e5 : ¬ op = 63 := by simpa using e5
      by_cases h64 : op = 64
      · rw [decide_eq_true (by omega), h64]; rfl
      · rw [decide_eq_false (by omega)]; simpa using h64
  refine cond_intro (fun e2 => L3 true ?_) (fun e2 => cond_intro (fun e3 => L3 true ?_) (fun e3 => cond_intro (fun e4 => L3 true ?_) (fun e4 => cond_intro (fun e5 => L3 _ ?_) (fun e5 => L3 false ?_))))
  · have := eq_of_beq e2; rw [decide_eq_true (by omega)]
  · have := eq_of_beq e3; rw [decide_eq_true (by omega)]
  · have := eq_of_beq e4; rw [decide_eq_true (by omega)]
  · have e2 : ¬ op = 12 := by simpa using e2
    have e3 : ¬ op = 13 := by simpa using e3
    have e4 : ¬ op = 16 := by simpa using e4
    have := of_decide_eq_true e5
    by_cases h36 : op ≤ 36
    · rw [decide_eq_true h36, decide_eq_true (by omega)]
    · rw [decide_eq_false h36, decide_eq_false (by omega)]
  · have e2 : ¬ op = 12 := by simpa using e2
    have e3 : ¬ op = 13 := by simpa using e3
    have e4 : ¬ op = 16 := by simpa using e4
    have := of_decide_eq_false e5
    rw [decide_eq_false (by omega)]
end
end Go.Proofs.Qxb6500316a
