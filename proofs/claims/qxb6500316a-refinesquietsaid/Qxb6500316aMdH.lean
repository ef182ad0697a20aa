/-
  The model reads an initialiser, a body.
-/
import Derived.Test.Qxb6500316aMdG
set_option linter.unusedSimpArgs false
set_option linter.unusedVariables false
set_option maxRecDepth 100000
set_option linter.unusedSectionVars false
namespace Go.Proofs.Qxb6500316a
open Go Go.Vc

/-! ### Reading goes forward -/
theorem u32P_ge {s : ByteArray} {e p q : Nat} {n : Int} (h : u32P s e p = .ok n q) : p ≤ q := by
  obtain ⟨i, hi⟩ := u32_inv s e p n q h
  omega
theorem slebP_ge {s : ByteArray} {e p q : Nat} {b n : Int} (hb : b ≤ 64) (h : slebP s e b p = .ok n q) : p ≤ q := by
  unfold slebP at h
  obtain ⟨x, q', h1, h2⟩ := bind_ok h
  obtain ⟨i, hi⟩ := sleb_inv s e p b hb x q' h1
  have : q' = q := by
    revert h2
    split
    · intro h2; (first | (injection h2 with z__; injection z__) | injection h2)
    · intro h2; cases h2
  omega
theorem fixedP_ge {s : ByteArray} {e p q : Nat} {n : Int} {u : Unit} (h : fixedP s e n p = .ok u q) : p ≤ q := by
  obtain ⟨x, q', h1, h2⟩ := bind_ok h
  have := nextP_ok h1
  split at h2
  · (first | (injection h2 with z__; injection z__ with _ h2) | injection h2 with _ h2); omega
  · cases h2
theorem takeP_ge {s : ByteArray} {e n p q : Nat} {x : ByteArray} (h : takeP s e n p = .ok x q) : p ≤ q := by
  unfold takeP at h
  split at h
  · cases h
  · (first | (injection h with z__; injection z__ with _ h) | injection h with _ h); omega
theorem wordP_ge {s : ByteArray} {e n p q : Nat} {x : Int} (h : wordP s e n p = .ok x q) : p ≤ q := by
  obtain ⟨x, q', h1, h2⟩ := bind_ok h
  have := takeP_ge h1
  (first | (injection h2 with z__; injection z__ with _ h2) | injection h2 with _ h2); omega
theorem countP_ge {s : ByteArray} {e n p q : Nat} {x : Int} (h : countP s e x p = .ok n q) : p ≤ q := by
  obtain ⟨x, q', h1, h2⟩ := bind_ok h
  have := u32P_ge h1
  split at h2
  · cases h2
  · (first | (injection h2 with z__; injection z__ with _ h2) | injection h2 with _ h2); omega
theorem restP_ge {s : ByteArray} {e p q : Nat} {op a : Int} {i : Ins} (h : restP s e op a p = .ok i q) : p ≤ q := by
  unfold restP at h
  split at h
  · (first | (injection h with z__; injection z__ with _ h) | injection h with _ h); omega
  split at h
  · obtain ⟨x, q', h1, h2⟩ := bind_ok h
    have := nextP_ok h1
    split at h2
    · cases h2
    · (first | (injection h2 with z__; injection z__ with _ h2) | injection h2 with _ h2); omega
  split at h
  · obtain ⟨x, q', h1, h2⟩ := bind_ok h
    have := u32P_ge h1
    (first | (injection h2 with z__; injection z__ with _ h2) | injection h2 with _ h2); omega
  split at h
  · obtain ⟨x, q', h1, h2⟩ := bind_ok h
    obtain ⟨x2, q2, h3, h4⟩ := bind_ok h2
    have := u32P_ge h1; have := fixedP_ge h3
    (first | (injection h4 with z__; injection z__ with _ h4) | injection h4 with _ h4); omega
  split at h
  · obtain ⟨x, q', h1, h2⟩ := bind_ok h
    have := fixedP_ge h1
    (first | (injection h2 with z__; injection z__ with _ h2) | injection h2 with _ h2); omega
  split at h
  · obtain ⟨x, q', h1, h2⟩ := bind_ok h
    have := slebP_ge (by decide) h1
    (first | (injection h2 with z__; injection z__ with _ h2) | injection h2 with _ h2); omega
  split at h
  · obtain ⟨x, q', h1, h2⟩ := bind_ok h
    have := slebP_ge (by decide) h1
    (first | (injection h2 with z__; injection z__ with _ h2) | injection h2 with _ h2); omega
  split at h
  · obtain ⟨x, q', h1, h2⟩ := bind_ok h
    have := wordP_ge h1
    (first | (injection h2 with z__; injection z__ with _ h2) | injection h2 with _ h2); omega
  split at h
  · obtain ⟨x, q', h1, h2⟩ := bind_ok h
    have := wordP_ge h1
    (first | (injection h2 with z__; injection z__ with _ h2) | injection h2 with _ h2); omega
  split at h
  · obtain ⟨x, q', h1, h2⟩ := bind_ok h
    obtain ⟨x2, q2, h3, h4⟩ := bind_ok h2
    have := u32P_ge h1; have := u32P_ge h3
    (first | (injection h4 with z__; injection z__ with _ h4) | injection h4 with _ h4); omega
  split at h
  · cases h
  · (first | (injection h with z__; injection z__ with _ h) | injection h with _ h); omega
theorem brL_ge {s : ByteArray} {e : Nat} : ∀ (k : Nat) (c : Sc) (p : Nat) {c' : Sc} {q : Nat}, brL s e k c p = .ok c' q → p ≤ q
  | 0, c, p, c', q, h => by (first | (injection h with z__; injection z__ with _ h) | injection h with _ h); omega
  | k + 1, c, p, c', q, h => by
    obtain ⟨x, q', h1, h2⟩ := bind_ok (show (u32P s e p).bind (fun x q' => brL s e k (c.tab x) q') = .ok c' q from h)
    have := u32P_ge h1
    have := brL_ge k _ _ h2
    omega
theorem restX_ge {s : ByteArray} {e p q : Nat} {c : Sc} {op a : Int} {x : Ins × Sc} (h : restX s e c op a p = .ok x q) : p ≤ q := by
  unfold restX at h
  split at h
  · obtain ⟨k, q', h1, h2⟩ := bind_ok h
    obtain ⟨c', q2, h3, h4⟩ := bind_ok h2
    have := countP_ge h1; have := brL_ge _ _ _ h3
    (first | (injection h4 with z__; injection z__ with _ h4) | injection h4 with _ h4); omega
  · obtain ⟨k, q', h1, h2⟩ := bind_ok h
    have := restP_ge h1
    (first | (injection h2 with z__; injection z__ with _ h2) | injection h2 with _ h2); omega

section
variable {w : World} {rb e lo : Nat} {s : ByteArray}
/-- An instruction outside a function: no br_table. -/
theorem ins0_spec {α : Type} {r0 : Res α} (h : StR w rb s e lo r0) (he : e ≤ s.size) (hs : s.size ≤ 1024) (hop : ∀ op q, (r0.bind fun _ p => nextP s e p) = .ok op q → op ≠ 14) :
    MRuns binm_rd_ins.id #[rp rb, .pointer none] w rb s e lo r0 (fun _ p => (nextP s e p).bind fun op q => restP s e op p q) (fun r v => ∃ i, v = insV i ∧ ∀ a q, r = .ok a q → i = a) := by
  refine binm_rd_ins.enter _ _ _ _ _ ?_
  unfold binm_rd_ins.V
  refine letB_intro fun tb htb => letW_intro fun w4 hw4 => ?_
  have hS4 : Same [] w.heap.size w w4 := by rw [hw4]; exact (Same.refl _ _ _).alloc (Nat.le_refl _) _
  have hT : InsAt w4 tb ⟨0, 0, 0⟩ := by rw [hw4, htb]; exact InsAt.new w _
  have htb' : w.heap.size ≤ tb := by rw [htb]; exact Nat.le_refl _
  clear hw4 htb
  simp only [nilV_some, Nat.zero_add]
  have hrl := h.lt
  have h4 := h.same hS4 hrl (by simp)
  obtain ⟨p0, k1, hp0⟩ := h4.c1
  refine ⟨_, k1, (byte_spec h4 he hs).into fun v w8 hv hst8 S8 => ⟨_, hv, ?_⟩⟩
  have hn := numR_next r0 s e
  rw [wrap_u8 hn.1 hn.2]
  have hT8 := hT.same S8 hT.lt (by simp; omega)
  have S48 : Same [rb] w.heap.size w w8 := (hS4.mono (Nat.le_refl _) (by simp) : Same [rb] w.heap.size w w4).app S8
  refine newIns (w := w8) (i := ⟨numR (r0.bind fun _ p => nextP s e p), 0, 0⟩) (fun xb w12 hxb hX hS12 => ?_)
  have hst12 := hst8.same hS12 hst8.lt (by simp)
  have t8 := hT8.lt
  have z8 := S48.size
  have hT12 := hT8.same hS12 t8 (by simp)
  have S12 : Same [rb] w.heap.size w w12 := S48.trans ((hS12.mono (Nat.le_refl _) (by simp) : Same [rb] w8.heap.size w8 w12).mono z8 (by simp))
  refine RunsQ.post (api_MemSig.pure _ _) ?_
  rintro _ w14 ⟨rfl, rfl⟩
  refine ⟨_, _, _, rfl, RunsQ.post (api_NumSig.pure _ _) ?_⟩
  rintro _ w19 ⟨rfl, rfl⟩
  refine ⟨_, _, _, rfl, ?_⟩
  have MC : MCtx [rb] w w19 rb s e lo tb xb (r0.bind fun _ p => nextP s e p) ⟨numR (r0.bind fun _ p => nextP s e p), 0, 0⟩ := ⟨hst12, hX, hT12, S12, by omega, htb', by omega, hrl, by simp⟩
  have e0 : (r0.bind fun _ p => (nextP s e p).bind fun op q => restP s e op p q) = (r0.bind fun _ p => nextP s e p).bind fun op q => restP s e op p0 q := by
    cases r0 using Res.cs with
    | ok a q => rw [hp0 a q rfl]; rfl
    | err n x => rfl
  rw [e0]
  clear e0 hv hX
  generalize (r0.bind fun _ p => nextP s e p) = r1 at *
  suffices H : ∀ t, t = decide (numR r1 = 2 ∨ numR r1 = 3 ∨ numR r1 = 4) → binm_rd_ins.L1 (some ⟨rb, 0, none⟩) none tb p0 (numR r1) xb (api_MemSig.F (numR r1)).1 (api_NumSig.F (numR r1)).1 t (fun v w' => (∃ i, v = insV i ∧ ∀ a q, (r1.bind fun op q => restP s e op p0 q) = .ok a q → i = a) ∧ StR w' rb s e lo (r1.bind fun op q => restP s e op p0 q) ∧ Same [rb] w.heap.size w w') (fun _ _ => False) w19 by
    refine cond_intro (fun e2 => H _ ?_) (fun e2 => cond_intro (fun e3 => H _ ?_) (fun e3 => H _ ?_))
    · have := eq_of_beq e2; rw [decide_eq_true (by omega)]
    · have := eq_of_beq e3; rw [decide_eq_true (by omega)]
    · have e2 : ¬ numR r1 = 2 := by simpa using e2
      have e3 : ¬ numR r1 = 3 := by simpa using e3
      by_cases h4 : numR r1 = 4
      · rw [h4]; rfl
      · rw [decide_eq_false (by omega)]; simpa using h4
  intro t ht
  have hE : IEnd [rb] w rb s e lo (r1.bind fun op q => restP s e op p0 q) (fun v w' => (∃ i, v = insV i ∧ ∀ a q, (r1.bind fun op q => restP s e op p0 q) = .ok a q → i = a) ∧ StR w' rb s e lo (r1.bind fun op q => restP s e op p0 q) ∧ Same [rb] w.heap.size w w') := fun w' i hst hS hi => ⟨⟨i, rfl, hi⟩, hst, hS⟩
  cases r1 using Res.cs with
  | err n x =>
    rw [show numR (Res.err n x) = 0 from rfl] at *
    refine binm_rd_ins.step1 _ _ _ _ _ _ _ _ _ _ _ _ ?_
    unfold binm_rd_ins.V1
    refine cond_false' ht ?_
    refine cond_false' rfl (cond_false' rfl (cond_false' rfl (cond_false' rfl ?_)))
    refine binm_rd_ins.step3 _ _ _ _ _ _ _ _ _ _ _ _ ?_
    unfold binm_rd_ins.V3
    refine cond_false' rfl (cond_false' rfl (cond_false' rfl ?_))
    rw [memS_iff (by decide) (by decide)]
    refine cond_false' rfl (cond_false' rfl ?_)
    refine binm_rd_ins.step7 _ _ _ _ _ _ _ _ _ _ ?_
    unfold binm_rd_ins.V7
    refine cond_false' rfl (cond_false' rfl (cond_false' rfl (cond_false' rfl (cond_false' rfl ?_))))
    rw [numS_iff (by decide) (by decide)]
    refine cond_false' rfl (cond_true' rfl ?_)
    refine binm_rd_ins.step9 _ _ _ _ _ _ _ _ ?_
    unfold binm_rd_ins.V9
    refine cond_true' rfl ?_
    exact hE.map MC (fun _ => (⟨0, 0, 0⟩ : Ins)) rfl (fun y q h => by cases h)
  | ok op q => exact ins_ops (n := 0) MC he hs hn.1 hn.2 (hop op q rfl) rfl hE t ht

theorem constm_spec {α : Type} {r0 : Res α} (h : StR w rb s e lo r0) (he : e ≤ s.size) (hs : s.size ≤ 1024) :
    MRuns binm_rd_constant.id #[rp rb] w rb s e lo r0 (fun _ p => constP s e p) (fun r v => ∃ i, v = insV i ∧ ∀ a q, r = .ok a q → i = a) := by
  refine binm_rd_constant.enter _ _ _ _ ?_
  unfold binm_rd_constant.V
  refine letB_intro fun tb htb => letW_intro fun w3 hw3 => ?_
  have hS3 : Same [] w.heap.size w w3 := by rw [hw3]; exact (Same.refl _ _ _).alloc (Nat.le_refl _) _
  have hT : InsAt w3 tb ⟨0, 0, 0⟩ := by rw [hw3, htb]; exact InsAt.new w _
  have htb' : w.heap.size ≤ tb := by rw [htb]; exact Nat.le_refl _
  clear hw3 htb
  have hrl := h.lt
  have h3 := h.same hS3 hrl (by simp)
  have hd := h3.drew
  have hTd := hT.drew
  have Sd : Same [rb] w.heap.size w w3.drew := (hS3.mono (Nat.le_refl _) (by simp) : Same [rb] w.heap.size w w3).drew
  simp only [nilV_some, Nat.zero_add, true_and]
  obtain ⟨p0, k1, hp0⟩ := h3.c1
  have LT : ∀ (hr : (r0.bind fun _ p => constP s e p) = r0.bind fun _ _ => .err 13 p0), binm_rd_constant.L1 (some ⟨rb, 0, none⟩) tb p0 true (fun v w' => (∃ i, v = insV i ∧ ∀ a q, (r0.bind fun _ p => constP s e p) = .ok a q → i = a) ∧ StR w' rb s e lo (r0.bind fun _ p => constP s e p) ∧ Same [rb] w.heap.size w w') (fun _ _ => False) w3.drew := fun hr => by
    refine binm_rd_constant.step1 _ _ _ _ _ _ _ ?_
    unfold binm_rd_constant.V1
    refine cond_true' rfl ?_
    refine (fail_spec (β := Ins) hd 13 p0 (by decide)).into fun v w5 hv hst S5 => ⟨hv, ?_⟩
    have hT5 := hTd.same S5 hTd.lt (by simp; omega)
    refine hT5.put_intro (i' := ⟨0, 0, 0⟩) fun w6 h6 hS6 => ⟨_, _, _, h6.c0, h6.c1, h6.c2, ⟨⟨0, 0, 0⟩, rfl, fun a q hh => ?_⟩, ?_, ?_⟩
    · rw [hr] at hh; cases r0 <;> cases hh
    · rw [hr]; exact hst.same (hS6 _) hst.lt (by simp; omega)
    · exact (Sd.trans (S5.mono Sd.size (by simp))).trans ((hS6 _).mono (Nat.le_refl _) (by intro k hk hlt; simp at hk; omega))
  have LF : ∀ (hop : ∀ op q, (r0.bind fun _ p => nextP s e p) = .ok op q → 65 ≤ op ∧ op ≤ 68), binm_rd_constant.L1 (some ⟨rb, 0, none⟩) tb p0 false (fun v w' => (∃ i, v = insV i ∧ ∀ a q, (r0.bind fun _ p => constP s e p) = .ok a q → i = a) ∧ StR w' rb s e lo (r0.bind fun _ p => constP s e p) ∧ Same [rb] w.heap.size w w') (fun _ _ => False) w3.drew := fun hop => by
    refine binm_rd_constant.step1 _ _ _ _ _ _ _ ?_
    unfold binm_rd_constant.V1
    refine cond_false' rfl ?_
    have hr : (r0.bind fun _ p => constP s e p) = (r0.bind fun _ p => (nextP s e p).bind fun op q => restP s e op p q).bind fun i q2 => (nextP s e q2).bind fun c q3 => if c = 11 then .ok i q3 else .err 13 q2 := by
      cases r0 using Res.cs with
      | err n x => rfl
      | ok a p =>
        rw [Res.bind_ok', Res.bind_ok', Res.bind_bind]
        unfold constP
        cases hz : nextP s e p using Res.cs with
        | err n x => rfl
        | ok op q =>
          have := hop op q hz
          rw [Res.bind_ok', Res.bind_ok', if_neg (by omega)]
    rw [hr]
    refine (ins0_spec hd he hs (fun op q hh => by have := hop op q hh; omega)).into fun v w8 hv hst8 S8 => ?_
    obtain ⟨i, rfl, hi⟩ := hv
    refine ⟨_, _, _, rfl, ?_⟩
    generalize (r0.bind fun _ p => (nextP s e p).bind fun op q => restP s e op p q) = r1 at *
    have hT8 := hTd.same S8 hTd.lt (by simp; omega)
    have S48 : Same [rb] w.heap.size w w8 := Sd.trans (S8.mono Sd.size (by simp))
    refine newIns (w := w8) (i := i) (fun xb w14 hxb hX hS14 => ?_)
    have hst14 := hst8.same hS14 hst8.lt (by simp)
    have t8 := hT8.lt
    have z8 := S48.size
    have hT14 := hT8.same hS14 t8 (by simp)
    have S14 : Same [rb] w.heap.size w w14 := S48.trans ((hS14.mono (Nat.le_refl _) (by simp) : Same [rb] w8.heap.size w8 w14).mono z8 (by simp))
    simp only [nilV_some, Nat.zero_add]
    obtain ⟨p1, g1, hp1⟩ := hst14.c1
    refine ⟨_, g1, (byte_spec hst14 he hs).into fun v w18 hv hst18 S18 => ⟨_, hv, ?_⟩⟩
    have x14 := hX.lt
    have t14 := hT14.lt
    have z14 := S14.size
    have hX18 := hX.same S18 x14 (by simp; omega)
    have hT18 := hT14.same S18 t14 (by simp; omega)
    have S018 : Same [rb] w.heap.size w w18 := S14.trans (S18.mono z14 (by simp))
    have L2 : ∀ (w' : World) (r : Res Ins), r = (r1.bind fun i q2 => (nextP s e q2).bind fun c q3 => if c = 11 then .ok i q3 else .err 13 q2) → StR w' rb s e lo r → InsAt w' xb i → InsAt w' tb ⟨0, 0, 0⟩ → Same [rb] w.heap.size w w' →
        binm_rd_constant.L2 tb xb (fun v w' => (∃ i, v = insV i ∧ ∀ a q, (r1.bind fun i q2 => (nextP s e q2).bind fun c q3 => if c = 11 then .ok i q3 else .err 13 q2) = .ok a q → i = a) ∧ StR w' rb s e lo (r1.bind fun i q2 => (nextP s e q2).bind fun c q3 => if c = 11 then .ok i q3 else .err 13 q2) ∧ Same [rb] w.heap.size w w') (fun _ _ => False) w' := fun w' r hr hst hx ht hS => by
      refine binm_rd_constant.step2 _ _ _ _ _ ?_
      unfold binm_rd_constant.V2
      refine retIns hx ht (R := fun v w' => (∃ i, v = insV i ∧ ∀ a q, (r1.bind fun i q2 => (nextP s e q2).bind fun c q3 => if c = 11 then .ok i q3 else .err 13 q2) = .ok a q → i = a) ∧ StR w' rb s e lo (r1.bind fun i q2 => (nextP s e q2).bind fun c q3 => if c = 11 then .ok i q3 else .err 13 q2) ∧ Same [rb] w.heap.size w w') (fun w'' hS'' => ⟨⟨i, rfl, fun a q hh => ?_⟩, ?_, ?_⟩)
      · obtain ⟨j, q1, g1, g2⟩ := bind_ok hh
        obtain ⟨c, q2, g3, g4⟩ := bind_ok g2
        have := hi j q1 g1
        split at g4
        · (first | (injection g4 with z__; injection z__ with g4 _) | injection g4 with g4 _); rw [this, g4]
        · cases g4
      · rw [← hr]; exact hst.same (hS'' _) hst.lt (by simp; omega)
      · exact hS.trans ((hS'' _).mono (Nat.le_refl _) (by intro k hk hlt; simp at hk; omega))
    cases hz : r1.bind fun _ p => nextP s e p using Res.cs with
    | err n x =>
      rw [hz] at hst18
      refine cond_true' (by show ((0 : Int) != 11) = true; decide) ?_
      refine (fail_spec (β := Ins) hst18 13 p1 (by decide)).into fun v w21 hv hst21 S21 => ⟨hv, L2 w21 (.err n x) ?_ hst21 (hX18.same S21 hX18.lt (by simp; omega)) (hT18.same S21 hT18.lt (by simp; omega)) (S018.trans (S21.mono S018.size (by simp)))⟩
      cases r1 using Res.cs with
      | err n' x' => (first | (injection hz with z__; injection z__ with z1 z2) | injection hz with z1 z2); rw [z1, z2]; rfl
      | ok j q =>
        have hz : nextP s e q = .err n x := hz
        rw [Res.bind_ok', hz]; rfl
    | ok c q3 =>
      rw [hz] at hst18
      obtain ⟨j, q2, rfl, hz'⟩ := bind_ok hz
      rw [show numR (Res.ok c q3) = c from rfl]
      by_cases hc : c = 11
      · refine cond_false' (by rw [hc]; rfl) ?_
        refine L2 w18 ((Res.ok c q3).bind fun _ q => .ok j q) ?_ (hst18.map _) hX18 hT18 S018
        rw [Res.bind_ok', Res.bind_ok', hz', Res.bind_ok', if_pos hc]
      · refine cond_true' (by simpa using hc) ?_
        refine (fail_spec (β := Ins) hst18 13 p1 (by decide)).into fun v w21 hv hst21 S21 => ⟨hv, L2 w21 _ ?_ hst21 (hX18.same S21 hX18.lt (by simp; omega)) (hT18.same S21 hT18.lt (by simp; omega)) (S018.trans (S21.mono S018.size (by simp)))⟩
        rw [Res.bind_ok', Res.bind_ok', hz', Res.bind_ok', if_neg hc, hp1 j q2 rfl]
  refine ⟨_, k1, ?_⟩
  cases r0 using Res.cs with
  | err n x =>
    have hX : RdX w3.drew rb s n x := hd
    refine ⟨_, hX.c3, cond_false' (by simpa using hX.n0) (LF fun op q hh => by cases hh)⟩
  | ok a p =>
    obtain ⟨_, hpe, hL⟩ := hd
    refine ⟨_, hL.c3, cond_true' rfl ⟨_, hL.c1, _, hL.c2, ?_⟩⟩
    by_cases hq : p < e
    · refine cond_true' (decide_eq_true (by omega)) ⟨_, hL.c0, _, hL.c1, ⟨by omega, by omega⟩, ?_⟩
      have hn := nextP_in (s := s) hq
      rw [Int.toNat_natCast]
      have hC : constP s e p = if byteAt s p < 65 ∨ 68 < byteAt s p then .err 13 p else (restP s e (byteAt s p) p (p + 1)).bind fun i q2 => (nextP s e q2).bind fun c q3 => if c = 11 then .ok i q3 else .err 13 q2 := by
        unfold constP; rw [hn]; rfl
      have hp := hp0 a p rfl
      by_cases hb : byteAt s p < 65
      · refine cond_true' (decide_eq_true hb) (LT ?_)
        rw [Res.bind_ok', Res.bind_ok', hC, if_pos (.inl hb), hp]
      · refine cond_false' (decide_eq_false hb) ⟨_, hL.c0, _, hL.c1, ⟨by omega, by omega⟩, ?_⟩
        rw [Int.toNat_natCast]
        by_cases hb2 : 68 < byteAt s p
        · rw [decide_eq_true (show byteAt s p > 68 from hb2)]
          refine LT ?_
          rw [Res.bind_ok', Res.bind_ok', hC, if_pos (.inr hb2), hp]
        · rw [decide_eq_false (show ¬ byteAt s p > 68 from hb2)]
          refine LF fun op q hh => ?_
          rw [Res.bind_ok', hn] at hh
          (first | (injection hh with z__; injection z__ with hh _) | injection hh with hh _)
          have : byteAt s p = op := hh
          omega
    · refine cond_false' (decide_eq_false (by omega)) (LF fun op q hh => ?_)
      rw [Res.bind_ok', nextP_out hq] at hh
      cases hh
end
end Go.Proofs.Qxb6500316a
