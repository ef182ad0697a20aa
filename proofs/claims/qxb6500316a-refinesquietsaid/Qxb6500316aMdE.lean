/-
  The model reads limits, words, instructions.
-/
import Derived.Test.Qxb6500316aMdD
set_option linter.unusedSimpArgs false
set_option linter.unusedVariables false
set_option maxRecDepth 100000
set_option linter.unusedSectionVars false
namespace Go.Proofs.Qxb6500316a
open Go Go.Vc

theorem StR.map {α β : Type} {w : World} {rb e lo : Nat} {s : ByteArray} {r : Res α} (h : StR w rb s e lo r) (g : α → β) : StR w rb s e lo (r.bind fun y q => .ok (g y) q) := by
  cases r using Res.cs with
  | ok a q => exact h
  | err n x => exact h
theorem map_num {β : Type} {r : Res Int} {g : Int → β} {a : β} {q : Nat} (h : (r.bind fun y q => .ok (g y) q) = .ok a q) : g (numR r) = a := by
  cases r using Res.cs with
  | ok y q' => (first | (injection h with z__; injection z__ with h1 h2) | injection h with h1 h2)
  | err n x => cases h
theorem map_unit {γ β : Type} {r : Res γ} {g : β} {a : β} {q : Nat} (h : (r.bind fun y q => .ok g q) = .ok a q) : g = a := by
  cases r using Res.cs with
  | ok y q' => (first | (injection h with z__; injection z__ with h1 h2) | injection h with h1 h2)
  | err n x => cases h

section
variable {α : Type} {w : World} {rb e lo : Nat} {s : ByteArray} {r0 : Res α}
theorem limitsm_spec (h : StR w rb s e lo r0) (he : e ≤ s.size) (hs : s.size ≤ 1024) : MRuns binm_rd_limits.id #[rp rb] w rb s e lo r0 (fun _ p => limitsP s e p) (fun r v => ∃ x : Int × Int, v = .tuple #[.int .i64 x.1, .int .i64 x.2] ∧ ∀ a q, r = .ok a q → x = a) := by
  refine binm_rd_limits.enter _ _ _ _ ?_
  unfold binm_rd_limits.V
  simp only [nilV_some, Nat.zero_add]
  obtain ⟨p0, h1, hp0⟩ := h.c1
  refine ⟨_, h1, ?_⟩
  refine (byte_spec h he hs).into fun v w2 hv hst S2 => ⟨_, hv, ?_⟩
  have L1 : ∀ (a b : Int) (w' : World) (r : Res (Int × Int)), r = (r0.bind fun _ p => limitsP s e p) → StR w' rb s e lo r → Same [rb] w.heap.size w w' → (∀ x q, r = .ok x q → (a, b) = x) → binm_rd_limits.L1 a b (fun v w' => (∃ x : Int × Int, v = .tuple #[.int .i64 x.1, .int .i64 x.2] ∧ ∀ a q, (r0.bind fun _ p => limitsP s e p) = .ok a q → x = a) ∧ StR w' rb s e lo (r0.bind fun _ p => limitsP s e p) ∧ Same [rb] w.heap.size w w') (fun _ _ => False) w' := fun a b w' r hr hst S hx => by
    refine binm_rd_limits.step1 _ _ _ _ _ ?_
    unfold binm_rd_limits.V1
    rw [← hr]
    exact ⟨⟨(a, b), rfl, hx⟩, hst, S⟩
  cases hz : r0.bind fun _ p => nextP s e p using Res.cs with
  | err n x =>
    rw [hz] at hst
    have hr : (r0.bind fun _ p => limitsP s e p) = .err n x := by
      have : (r0.bind fun _ p => limitsP s e p) = (r0.bind fun _ p => nextP s e p).bind fun c q => (if 1 < c then .err 8 (q - 1 : Nat) else .ok c q : Res Int).bind fun f q => (u32P s e q).bind fun lo q2 => if f = 0 then .ok (lo, -1) q2 else (u32P s e q2).bind fun hi q3 => .ok (lo, hi) q3 := by
        cases r0 using Res.cs with
        | ok a q =>
          simp only [Res.bind_ok']
          unfold limitsP flagP
          rw [Res.bind_bind]
          unfold nextP
          split <;> rfl
        | err n x => rfl
      rw [this, hz]; rfl
    refine cond_false' (by show decide ((0 : Int) > 1) = false; decide) ?_
    refine (u32m_spec hst he hs).into fun v w3 hv hst3 S3 => ⟨_, hv.1, ?_⟩
    refine cond_false' (by show ((0 : Int) == 1) = false; decide) ?_
    exact L1 _ _ w3 (.err n x) hr.symm hst3 (S2.app S3) (fun x q hx => by cases hx)
  | ok c q =>
    rw [hz] at hst
    obtain ⟨a, p, rfl, hz'⟩ := bind_ok hz
    obtain ⟨k1, k2, k3⟩ := nextP_ok hz'
    have hc := nextP_rng hz'
    have hr : ((Res.ok a p).bind fun _ p => limitsP s e p) = (if 1 < c then .err 8 p else .ok c q : Res Int).bind fun f q => (u32P s e q).bind fun lo q2 => if f = 0 then .ok (lo, -1) q2 else (u32P s e q2).bind fun hi q3 => .ok (lo, hi) q3 := by
      rw [Res.bind_ok']; unfold limitsP flagP; rw [hz']; rfl
    rw [hp0 a p rfl]
    rw [show numR (Res.ok c q) = c from rfl]
    by_cases hc1 : 1 < c
    · refine cond_true' (decide_eq_true hc1) ?_
      rw [if_pos hc1] at hr
      refine (fail_spec (β := Int × Int) hst 8 (p : Int) (by decide)).into fun v w3 hv hst3 S3 => ⟨hv, ?_⟩
      rw [hr]
      exact ⟨⟨(0, -1), rfl, fun a q hx => by cases hx⟩, hst3, S2.app S3⟩
    · refine cond_false' (decide_eq_false (by omega)) ?_
      rw [if_neg hc1, Res.bind_ok'] at hr
      refine (u32m_spec hst he hs).into fun v w3 hv hst3 S3 => ⟨_, hv.1, ?_⟩
      rw [Res.bind_ok'] at hst3 ⊢
      by_cases hc2 : c = 1
      · refine cond_true' (by rw [hc2]; rfl) ?_
        refine (u32m_spec hst3 he hs).into fun v w4 hv4 hst4 S4 => ⟨_, hv4.1, ?_⟩
        have hr2 : ((u32P s e q).bind fun lo q2 => if c = 0 then .ok (lo, -1) q2 else (u32P s e q2).bind fun hi q3 => .ok (lo, hi) q3) = ((u32P s e q).bind fun _ q2 => u32P s e q2).bind fun hi q3 => .ok (numR (u32P s e q), hi) q3 := by
          rw [Res.bind_bind]
          cases u32P s e q using Res.cs with
          | ok n q2 => simp only [Res.bind_ok']; rw [if_neg (by omega)]; rfl
          | err n x => rfl
        exact L1 _ _ w4 (((u32P s e q).bind fun _ q2 => u32P s e q2).bind fun hi q3 => .ok (numR (u32P s e q), hi) q3) (by rw [← hr2]; exact hr.symm) (hst4.map _) ((S2.app S3).app S4) (fun x q hx => map_num hx)
      · refine cond_false' (by simpa using hc2) ?_
        have hr2 : ((u32P s e q).bind fun lo q2 => if c = 0 then .ok (lo, -1) q2 else (u32P s e q2).bind fun hi q3 => .ok (lo, hi) q3) = (u32P s e q).bind fun lo q2 => .ok (lo, -1) q2 := by
          cases u32P s e q using Res.cs with
          | ok n q2 => simp only [Res.bind_ok']; rw [if_pos (show c = 0 by omega)]
          | err n x => rfl
        exact L1 _ _ w3 ((u32P s e q).bind fun lo q2 => .ok (lo, -1) q2) (by rw [← hr2]; exact hr.symm) (hst3.map _) (S2.app S3) (fun x q hx => map_num (g := fun y => (y, (-1 : Int))) hx)

/-! ### little -/
theorem wordL_succ (t : ByteArray) (k : Nat) (v : Int) : wordL t (k + 1) v = wordL t k (bOr .u64 (IntKind.wrap .u64 (v * 2 ^ (8 : Nat))) (IntKind.wrap .u64 (if k < t.size then byteAt t k else 0))) := rfl
theorem wordM_skip (t : ByteArray) : ∀ d, wordL t (t.size + d) 0 = wordL t t.size 0
  | 0 => rfl
  | d + 1 => by
    rw [← Nat.add_assoc, wordL_succ, if_neg (by omega), show bOr .u64 (IntKind.wrap .u64 (0 * 2 ^ (8 : Nat))) (IntKind.wrap .u64 0) = 0 by decide]
    exact wordM_skip t d
theorem littlem_loop {t : ByteArray} (ht : t.size ≤ 1000) {R Q : Value → World → Prop} {w : World} {z : Int} (hR : R (.int .u64 z) w) :
    ∀ (k : Nat) (v : Int), k ≤ t.size → 0 ≤ v → wordL t k v = z → binm_rd_little.L1 t v ((k : Int) - 1) R Q w := by
  intro k
  induction k with
  | zero =>
    intro v hk hv hz
    refine binm_rd_little.step1 _ _ _ _ _ _ ?_
    unfold binm_rd_little.V1
    refine cond_false' (decide_eq_false (by omega)) ?_
    have hz : v = z := hz
    rw [hz]; exact hR
  | succ k ih =>
    intro v hk hv hz
    refine binm_rd_little.step1 _ _ _ _ _ _ ?_
    unfold binm_rd_little.V1
    refine cond_true' (decide_eq_true (by omega)) ⟨⟨by omega, by omega⟩, ?_⟩
    rw [wordL_succ, if_pos (by omega)] at hz
    rw [show (((k + 1 : Nat) : Int) - 1) = (k : Int) by omega, Int.toNat_natCast, wrap_i64 (by omega) (by omega)]
    have hb := byte_rng t k
    have e1 : IntKind.wrap .u64 (IntKind.wrap .u64 (v * 256) + IntKind.wrap .u64 (byteAt t k)) = bOr .u64 (IntKind.wrap .u64 (v * 2 ^ (8 : Nat))) (IntKind.wrap .u64 (byteAt t k)) := by
      rw [bOr_u64_any v (byteAt t k) hv hb.1 (by omega), wrap_u64_mod, wrap_u64_mod, wrap_u64_mod]
      omega
    rw [e1]
    exact ih _ (by omega) (bOr64_rng _ _).1 hz
theorem littlem_spec (h : StR w rb s e lo r0) (he : e ≤ s.size) (hs : s.size ≤ 1024) (n : Nat) (hn : n ≤ 8) : MRuns binm_rd_little.id #[rp rb, .int .i64 (n : Int)] w rb s e lo r0 (fun _ p => wordP s e n p) (fun r v => v = .int .u64 (numR r)) := by
  refine binm_rd_little.enter _ _ _ _ _ ?_
  unfold binm_rd_little.V
  refine (takem_spec h he hs n (by omega)).into fun v w2 hv hst S2 => ⟨_, hv, ?_⟩
  have e0 : (r0.bind fun _ p => wordP s e n p) = (r0.bind fun _ p => takeP s e n p).bind fun t q => .ok (wordL t 8 0) q := by rw [Res.bind_bind]; rfl
  rw [e0]
  have hsz : (strR (r0.bind fun _ p => takeP s e n p)).size ≤ 8 := by
    cases hz : r0.bind fun _ p => takeP s e n p using Res.cs with
    | ok t q => 
      obtain ⟨a, p, _, hz⟩ := bind_ok hz
      exact Nat.le_trans (takeP_le hz) hn
    | err n x => exact (by decide : eB.size ≤ 8)
  have hN : numR ((r0.bind fun _ p => takeP s e n p).bind fun t q => .ok (wordL t 8 0) q) = wordL (strR (r0.bind fun _ p => takeP s e n p)) (strR (r0.bind fun _ p => takeP s e n p)).size 0 := by
    rw [← wordM_skip _ (8 - (strR (r0.bind fun _ p => takeP s e n p)).size), Nat.add_sub_cancel' hsz]
    cases r0.bind fun _ p => takeP s e n p using Res.cs with
    | ok t q => rfl
    | err n x => exact (by decide : (0 : Int) = wordL eB 8 0)
  have hst' := hst.map (fun t => wordL t 8 0)
  generalize hT : strR (r0.bind fun _ p => takeP s e n p) = T at *
  rw [wrap_i64 (by omega) (by omega)]
  refine littlem_loop (by omega) (z := numR ((r0.bind fun _ p => takeP s e n p).bind fun t q => .ok (wordL t 8 0) q)) ⟨rfl, hst', S2⟩ T.size 0 (Nat.le_refl _) (by omega) hN.symm

/-! ### What stands in memory while an instruction is read -/
structure MCtx {α : Type} (SS : List Nat) (w0 w : World) (rb : Nat) (s : ByteArray) (e lo tb xb : Nat) (r : Res α) (i : Ins) : Prop where
  st : StR w rb s e lo r
  x : InsAt w xb i
  t : InsAt w tb ⟨0, 0, 0⟩
  S : Same SS w0.heap.size w0 w
  lx : w0.heap.size ≤ xb
  lt : w0.heap.size ≤ tb
  ne : xb ≠ tb
  lr : rb < w0.heap.size
  ms : rb ∈ SS
end
section
variable {α β : Type} {SS : List Nat} {w0 w : World} {rb e lo tb xb : Nat} {s : ByteArray} {r : Res α} {i : Ins}
theorem MCtx.step (c : MCtx SS w0 w rb s e lo tb xb r i) {w' : World} {r' : Res β} (h : StR w' rb s e lo r') (hS : Same [rb] w.heap.size w w') : MCtx SS w0 w' rb s e lo tb xb r' i := by
  have l1 := c.lx; have l2 := c.lt; have l3 := c.lr; have l4 := c.ms
  exact ⟨h, c.x.same hS c.x.lt (by simp; omega), c.t.same hS c.t.lt (by simp; omega), c.S.trans (hS.mono c.S.size (by intro k hk _; simp at hk; subst hk; exact l4)), l1, l2, c.ne, l3, l4⟩
theorem MCtx.setx (c : MCtx SS w0 w rb s e lo tb xb r i) (x : Int) : MCtx SS w0 (w.setCell ⟨xb, 1, none⟩ (.int .u32 x)) rb s e lo tb xb r ⟨i.op, x, i.y⟩ := by
  have l1 := c.lx; have l2 := c.lt; have l3 := c.lr; have l4 := c.ne
  have hS : Same [xb] w.heap.size w (w.setCell ⟨xb, 1, none⟩ (.int .u32 x)) := same_set 1 _
  exact ⟨c.st.same hS c.st.lt (by simp; omega), c.x.setx x, c.t.same hS c.t.lt (by simp; omega), c.S.setCell (.inl l1) _, l1, l2, l4, l3, c.ms⟩
theorem MCtx.sety (c : MCtx SS w0 w rb s e lo tb xb r i) (y : Int) : MCtx SS w0 (w.setCell ⟨xb, 2, none⟩ (.int .u64 y)) rb s e lo tb xb r ⟨i.op, i.x, y⟩ := by
  have l1 := c.lx; have l2 := c.lt; have l3 := c.lr; have l4 := c.ne
  have hS : Same [xb] w.heap.size w (w.setCell ⟨xb, 2, none⟩ (.int .u64 y)) := same_set 2 _
  exact ⟨c.st.same hS c.st.lt (by simp; omega), c.x.sety y, c.t.same hS c.t.lt (by simp; omega), c.S.setCell (.inl l1) _, l1, l2, l4, l3, c.ms⟩
theorem MCtx.done (c : MCtx SS w0 w rb s e lo tb xb r i) {R Q : Value → World → Prop} (hR : ∀ w', StR w' rb s e lo r → Same SS w0.heap.size w0 w' → (∀ B, Same [tb] B w w') → R (insV i) w') : binm_rd_ins.L5 tb xb R Q w := by
  have l1 := c.lx; have l2 := c.lt; have l3 := c.lr; have l4 := c.ne
  refine binm_rd_ins.step5 _ _ _ _ _ ?_
  unfold binm_rd_ins.V5
  exact retIns c.x c.t (R := R) (fun w' hS => hR w' (c.st.same (hS w.heap.size) c.st.lt (by simp; omega)) (c.S.trans ((hS _).mono (Nat.le_refl _) (by intro k hk hlt; simp at hk; omega))) hS)
end
end Go.Proofs.Qxb6500316a
