/-
  The compiler in memory: branches, tables, plain instructions.
-/
import Derived.Test.Qxb6500317aGreatPrC
import Derived.Test.Qxb6500317aGreatVdD
set_option linter.unusedSimpArgs false
set_option linter.unusedVariables false
set_option maxRecDepth 100000
set_option linter.unusedSectionVars false
namespace Go.Proofs.Qxb6500317aGreat
open Go Go.Vc

/-! ### Plain -/
def effP (P : PM) (x : Ins) : Option (Nat × Nat) :=
  if x.op = 0 ∨ x.op = 1 then some (0, 0)
  else if x.op = 26 ∨ x.op = 33 ∨ x.op = 36 then some (1, 0)
  else if x.op = 34 ∨ x.op = 64 then some (1, 1)
  else if x.op = 32 ∨ x.op = 35 ∨ x.op = 63 ∨ (65 ≤ x.op ∧ x.op ≤ 68) then some (0, 1)
  else if x.op = 27 then some (3, 1)
  else if x.op = 16 then (match typeOf P x.x with | none => none | some t => some ((splitP t).1.size, (splitP t).2.size))
  else if x.op = 17 then (if (P.nTy : Int) ≤ x.x then none else some ((splitP (P.ty x.x.toNat)).1.size + 1, (splitP (P.ty x.x.toNat)).2.size))
  else if 40 ≤ x.op ∧ x.op ≤ 53 then some (1, 1)
  else if 54 ≤ x.op ∧ x.op ≤ 62 then some (2, 0)
  else if (api_NumSig.F x.op).1 = 0 then none else some ((api_NumSig.F x.op).1.toNat, 1)
def EfR (o : Option (Nat × Nat)) (v : Value) : Prop :=
  match o with
  | none => ∃ t g : Int, v = .tuple #[.int .i64 t, .int .i64 g, .bool false]
  | some (a, r) => v = .tuple #[.int .i64 (a : Int), .int .i64 (r : Int), .bool true]
theorem num_rng : ((List.range 256).all fun n => decide (0 ≤ (api_NumSig.F (n : Int)).1) && decide ((api_NumSig.F (n : Int)).1 ≤ 2)) = true := by kernel_rfl
theorem num_le {op : Int} (h0 : 0 ≤ op) (h1 : op ≤ 255) : 0 ≤ (api_NumSig.F op).1 ∧ (api_NumSig.F op).1 ≤ 2 := by
  have h := List.all_eq_true.1 num_rng op.toNat (List.mem_range.2 (by omega))
  rw [show ((op.toNat : Nat) : Int) = op by omega] at h
  simpa using h

theorem nilV_inA {a : Addr} {K : Addr → Prop} (h : K a) : nilV (some a) K := h
section
variable {wd w w' : World} {L mb : Nat} {m : Nat → Value} {P : PM} {pb cb : Nat} {cells : List Ins} {hg : Nat} {k : List CT} {h : Int} {dead : Nat} {c : CT} {r : List CT}
structure TF (W0 W : World) (xb mb tb : Nat) (x : Int) (n : Nat) (t : ByteArray) : Prop where
  x : W.cell? ⟨xb, 1, none⟩ = some (.int .u32 x)
  t : W.cell? ⟨mb, 0, none⟩ = some (.slice (some ⟨tb, 0, none⟩) n n)

theorem effect_spec (H : HM wd w L mb m P) (B : PB P) (x : Ins) (hx : InsIn x) : Runs Tryz.prog prep_effect.id #[rp mb, .agg #[.int .u8 x.op, .int .u32 x.x, .int .u64 x.y]] w fun v w' => EfR (effP P x) v ∧ Same [] w.heap.size w w' := by
  obtain ⟨o0, o1, x0, x1, y0, y1⟩ := hx
  have bn := B.nTy
  generalize hR : (fun v w' => EfR (effP P x) v ∧ Same [] w.heap.size w w') = R
  have hR' : ∀ v w', EfR (effP P x) v → Same [] w.heap.size w w' → R v w' := fun v w' h1 h2 => by rw [← hR]; exact ⟨h1, h2⟩
  clear hR
  refine prep_effect.enter _ _ _ _ _ _ _ ?_
  unfold prep_effect.V
  refine letB_intro fun b hb => letW_intro fun w1 hw => ?_
  obtain ⟨I1, S1⟩ := ins_made hb hw
  have H1 := H.keep S1
  clear hw hb
  have L6 : ∀ t : Bool, t = decide (54 ≤ x.op ∧ x.op ≤ 62) → ¬ (x.op = 0 ∨ x.op = 1) → ¬ (x.op = 26 ∨ x.op = 33 ∨ x.op = 36) → ¬ (x.op = 34 ∨ x.op = 64) → ¬ (x.op = 32 ∨ x.op = 35 ∨ x.op = 63 ∨ (65 ≤ x.op ∧ x.op ≤ 68)) → ¬ x.op = 27 → ¬ x.op = 16 → ¬ x.op = 17 → ¬ (40 ≤ x.op ∧ x.op ≤ 53) →
      prep_effect.L6 b t R (fun _ _ => False) w1 := fun t ht g1 g2 g3 g4 g5 g6 g7 g8 => by
    refine prep_effect.step6 _ _ _ _ _ ?_
    unfold prep_effect.V6
    refine cond_intro (fun e => hR' _ _ ?_ S1) (fun e => ?_)
    · have e : 54 ≤ x.op ∧ x.op ≤ 62 := of_decide_eq_true (ht ▸ e)
      unfold effP
      rw [if_neg g1, if_neg g2, if_neg g3, if_neg g4, if_neg g5, if_neg g6, if_neg g7, if_neg g8, if_pos e]
      rfl
    · have e : ¬ (54 ≤ x.op ∧ x.op ≤ 62) := of_decide_eq_false (ht ▸ e)
      refine ⟨_, I1.c0, ?_⟩
      rw [wrap_i64 (by omega) (by omega)]
      refine RunsQ.post (api_NumSig.pure _ _) ?_
      rintro v w2 ⟨rfl, rfl⟩
      refine ⟨_, _, _, rfl, hR' _ _ ?_ S1⟩
      unfold effP
      rw [if_neg g1, if_neg g2, if_neg g3, if_neg g4, if_neg g5, if_neg g6, if_neg g7, if_neg g8, if_neg e]
      have nl := num_le o0 o1
      by_cases z : (api_NumSig.F x.op).1 = 0
      · rw [if_pos z, z]
        exact ⟨_, _, rfl⟩
      · rw [if_neg z]
        show _ = _
        have e1 : ((api_NumSig.F x.op).1.toNat : Int) = (api_NumSig.F x.op).1 := by omega
        have e2 : ((api_NumSig.F x.op).1 != 0) = true := by simpa using z
        rw [e1, e2]
        rfl
  have L5 : ∀ t : Bool, t = decide (40 ≤ x.op ∧ x.op ≤ 53) → ¬ (x.op = 0 ∨ x.op = 1) → ¬ (x.op = 26 ∨ x.op = 33 ∨ x.op = 36) → ¬ (x.op = 34 ∨ x.op = 64) → ¬ (x.op = 32 ∨ x.op = 35 ∨ x.op = 63 ∨ (65 ≤ x.op ∧ x.op ≤ 68)) → ¬ x.op = 27 → ¬ x.op = 16 → ¬ x.op = 17 →
      prep_effect.L5 b t R (fun _ _ => False) w1 := fun t ht g1 g2 g3 g4 g5 g6 g7 => by
    refine prep_effect.step5 _ _ _ _ _ ?_
    unfold prep_effect.V5
    refine cond_intro (fun e => hR' _ _ ?_ S1) (fun e => ?_)
    · have e : 40 ≤ x.op ∧ x.op ≤ 53 := of_decide_eq_true (ht ▸ e)
      unfold effP
      rw [if_neg g1, if_neg g2, if_neg g3, if_neg g4, if_neg g5, if_neg g6, if_neg g7, if_pos e]
      rfl
    · have e : ¬ (40 ≤ x.op ∧ x.op ≤ 53) := of_decide_eq_false (ht ▸ e)
      refine ⟨_, I1.c0, cond_intro (fun e2 => ⟨_, I1.c0, L6 _ ?_ g1 g2 g3 g4 g5 g6 g7 e⟩) (fun e2 => L6 _ ?_ g1 g2 g3 g4 g5 g6 g7 e)⟩
      · have e2 : x.op ≥ 54 := of_decide_eq_true e2
        by_cases q : x.op ≤ 62
        · rw [decide_eq_true q, decide_eq_true ⟨e2, q⟩]
        · rw [decide_eq_false q, decide_eq_false (by omega)]
      · have e2 : ¬ x.op ≥ 54 := of_decide_eq_false e2
        rw [decide_eq_false (by omega)]
  have L4 : ∀ t : Bool, t = decide (x.op = 32 ∨ x.op = 35 ∨ x.op = 63 ∨ (65 ≤ x.op ∧ x.op ≤ 68)) → ¬ (x.op = 0 ∨ x.op = 1) → ¬ (x.op = 26 ∨ x.op = 33 ∨ x.op = 36) → ¬ (x.op = 34 ∨ x.op = 64) →
      prep_effect.L4 (some ⟨mb, 0, none⟩) b x.op t R (fun _ _ => False) w1 := fun t ht g1 g2 g3 => by
    refine prep_effect.step4 _ _ _ _ _ _ _ ?_
    unfold prep_effect.V4
    refine cond_intro (fun e => hR' _ _ ?_ S1) (fun e => ?_)
    · have e : x.op = 32 ∨ x.op = 35 ∨ x.op = 63 ∨ (65 ≤ x.op ∧ x.op ≤ 68) := of_decide_eq_true (ht ▸ e)
      unfold effP
      rw [if_neg g1, if_neg g2, if_neg g3, if_pos e]
      rfl
    have g4 : ¬ (x.op = 32 ∨ x.op = 35 ∨ x.op = 63 ∨ (65 ≤ x.op ∧ x.op ≤ 68)) := of_decide_eq_false (ht ▸ e)
    refine cond_intro (fun e => hR' _ _ ?_ S1) (fun e => ?_)
    · have e : x.op = 27 := eq_of_beq e
      unfold effP
      rw [if_neg g1, if_neg g2, if_neg g3, if_neg g4, if_pos e]
      rfl
    have g5 : ¬ x.op = 27 := by simpa using e
    refine cond_intro (fun e => ?_) (fun e => ?_)
    · have e : x.op = 16 := eq_of_beq e
      have he : effP P x = (match typeOf P x.x with | none => none | some t => some ((splitP t).1.size, (splitP t).2.size)) := by
        unfold effP
        rw [if_neg g1, if_neg g2, if_neg g3, if_neg g4, if_neg g5, if_pos e]
      rw [he] at hR'
      refine ⟨_, I1.c1, ?_⟩
      rw [wrap_i64 (by omega) (by omega)]
      refine RunsQ.post (TypeOf_spec H1 B x.x (by omega) (by omega)) ?_
      rintro v w2 ⟨rfl, S2'⟩
      cases ht : typeOf P x.x with
      | none =>
        rw [ht] at hR'
        refine ⟨_, _, rfl, RunsQ.post (Split_spec _ (by decide) w2) ?_⟩
        rintro v w3 ⟨rfl, S3⟩
        exact ⟨_, _, rfl, hR' _ _ ⟨_, _, rfl⟩ ((S1.nx S2').nx S3)⟩
      | some t =>
        rw [ht] at hR'
        have hsz : t.size ≤ 1024 := by
          unfold typeOf typeAt at ht
          split at ht
          · cases ht
          · rename_i q
            injection ht with ht
            rw [← ht]
            exact (B.ty _ (by omega)).1
        refine ⟨_, _, rfl, RunsQ.post (Split_spec t hsz w2) ?_⟩
        rintro v w3 ⟨rfl, S3⟩
        exact ⟨_, _, rfl, hR' _ _ rfl ((S1.nx S2').nx S3)⟩
    have g6 : ¬ x.op = 16 := by simpa using e
    refine cond_intro (fun e => ?_) (fun e => ?_)
    · have e : x.op = 17 := eq_of_beq e
      have he : effP P x = if (P.nTy : Int) ≤ x.x then none else some ((splitP (P.ty x.x.toNat)).1.size + 1, (splitP (P.ty x.x.toNat)).2.size) := by
        unfold effP
        rw [if_neg g1, if_neg g2, if_neg g3, if_neg g4, if_neg g5, if_neg g6, if_pos e]
      rw [he] at hR'
      have I2 := I1.drew
      have H2 := H1.drew
      obtain ⟨a, c0, hr⟩ := H2.ty
      simp only [true_and, nilV_some]
      refine ⟨_, I2.c1, _, _, _, c0, ?_⟩
      rw [wrap_u64 (by omega) (by omega), wrap_u64 (by omega) (by omega)]
      refine cond_intro (fun q => ?_) (fun q => ?_)
      · have q : (P.nTy : Int) ≤ x.x := of_decide_eq_true q
        rw [if_pos q] at hR'
        exact hR' _ _ ⟨_, _, rfl⟩ S1.drew
      · have q : ¬ (P.nTy : Int) ≤ x.x := of_decide_eq_false q
        rw [if_neg q] at hR'
        obtain ⟨xn, hxn⟩ := Int.eq_ofNat_of_zero_le x0
        have hlt : xn < P.nTy := by omega
        obtain ⟨tb, rfl, row⟩ := hr (by omega)
        have tf : TF w1 w1.drew.drew b mb tb (xn : Int) P.nTy (P.ty xn) := ⟨by rw [← hxn]; exact I2.c1, c0⟩
        have hx0 : (0 : Int) ≤ (xn : Int) := by omega
        have hx1 : (xn : Int) < ((P.nTy : Nat) : Int) := by omega
        have row : w1.drew.drew.cell? ⟨tb, xn, none⟩ = some (.string (P.ty xn)) := row xn hlt
        have S3 : Same [] w.heap.size w w1.drew.drew := S1.drew.drew
        have hs := splitF_size (P.ty xn) (P.ty xn).size 0
        have hsz := (B.ty xn hlt).1
        have a1 : (splitP (P.ty xn)).1.size ≤ 1024 := Nat.le_trans hs.1 hsz
        have fin : RunsQ Tryz.prog api_Split.id #[(.string (P.ty xn))] w1.drew.drew (fun r32 w33 => (∃ x34 : ByteArray, ∃ x35 : ByteArray, (r32 = (.tuple #[(.string x34), (.string x35)]) ∧ (R (.tuple #[(.int .i64 (IntKind.wrap .i64 (((ByteArray.size x34 : Nat) : Int) + (1 : Int)))), (.int .i64 ((ByteArray.size x35 : Nat) : Int)), (.bool true)]) w33)))) (fun _ _ => False) := by
          refine RunsQ.post (Split_spec (P.ty xn) hsz _) ?_
          rintro v w3 ⟨rfl, S3'⟩
          refine ⟨_, _, rfl, ?_⟩
          have e1 : IntKind.wrap .i64 ((((splitP (P.ty xn)).1.size : Nat) : Int) + 1) = (((splitP (P.ty xn)).1.size + 1 : Nat) : Int) := by rw [wrap_i64 (by omega) (by omega)]; omega
          rw [e1]
          refine hR' _ _ ?_ (S3.nx S3')
          rw [hxn]
          rfl
        clear hr c0 H2 I2
        repeat' first
          | exact trivial
          | exact fin
          | refine ⟨_, _, _, TF.t tf, ?_⟩
          | refine ⟨_, TF.x tf, ?_⟩
          | refine ⟨⟨hx0, hx1⟩, nilV_inA ?_⟩
          | (simp only [add_mk, Int.toNat_natCast, Nat.zero_add, Nat.mul_one]; refine ⟨_, row, ?_⟩)
          | refine And.intro ?_ ?_
    have g7 : ¬ x.op = 17 := by simpa using e
    refine ⟨_, I1.c0, cond_intro (fun e2 => ⟨_, I1.c0, L5 _ ?_ g1 g2 g3 g4 g5 g6 g7⟩) (fun e2 => L5 _ ?_ g1 g2 g3 g4 g5 g6 g7)⟩
    · have e2 : x.op ≥ 40 := of_decide_eq_true e2
      by_cases q : x.op ≤ 53
      · rw [decide_eq_true q, decide_eq_true ⟨e2, q⟩]
      · rw [decide_eq_false q, decide_eq_false (by omega)]
    · have e2 : ¬ x.op ≥ 40 := of_decide_eq_false e2
      rw [decide_eq_false (by omega)]
  have L3 : ∀ t : Bool, t = decide (x.op = 34 ∨ x.op = 64) → ¬ (x.op = 0 ∨ x.op = 1) → ¬ (x.op = 26 ∨ x.op = 33 ∨ x.op = 36) → prep_effect.L3 (some ⟨mb, 0, none⟩) b x.op t R (fun _ _ => False) w1 := fun t ht g1 g2 => by
    refine prep_effect.step3 _ _ _ _ _ _ _ ?_
    unfold prep_effect.V3
    refine cond_intro (fun e => hR' _ _ ?_ S1) (fun e => ?_)
    · have e : x.op = 34 ∨ x.op = 64 := of_decide_eq_true (ht ▸ e)
      unfold effP
      rw [if_neg g1, if_neg g2, if_pos e]
      rfl
    have g3 : ¬ (x.op = 34 ∨ x.op = 64) := of_decide_eq_false (ht ▸ e)
    refine cond_intro (fun e => L4 true ?_ g1 g2 g3) (fun e32 => cond_intro (fun e => L4 true ?_ g1 g2 g3) (fun e35 => cond_intro (fun e => L4 true ?_ g1 g2 g3) (fun e63 => cond_intro (fun e => L4 true ?_ g1 g2 g3) (fun e65 => cond_intro (fun e => L4 true ?_ g1 g2 g3) (fun e66 => cond_intro (fun e => L4 true ?_ g1 g2 g3) (fun e67 => L4 _ ?_ g1 g2 g3))))))
    · have := eq_of_beq e; rw [decide_eq_true (by omega)]
    · have := eq_of_beq e; rw [decide_eq_true (by omega)]
    · have := eq_of_beq e; rw [decide_eq_true (by omega)]
    · have := eq_of_beq e; rw [decide_eq_true (by omega)]
    · have := eq_of_beq e; rw [decide_eq_true (by omega)]
    · have := eq_of_beq e; rw [decide_eq_true (by omega)]
    · have e32 : ¬ x.op = 32 := by simpa using e32
      have e35 : ¬ x.op = 35 := by simpa using e35
      have e63 : ¬ x.op = 63 := by simpa using e63
      have e65 : ¬ x.op = 65 := by simpa using e65
      have e66 : ¬ x.op = 66 := by simpa using e66
      have e67 : ¬ x.op = 67 := by simpa using e67
      by_cases q : x.op = 68
      · rw [decide_eq_true (by omega), q]; rfl
      · rw [decide_eq_false (by omega)]; simpa using q
  have L2 : ∀ t : Bool, t = decide (x.op = 26 ∨ x.op = 33 ∨ x.op = 36) → ¬ (x.op = 0 ∨ x.op = 1) → prep_effect.L2 (some ⟨mb, 0, none⟩) b x.op t R (fun _ _ => False) w1 := fun t ht g1 => by
    refine prep_effect.step2 _ _ _ _ _ _ _ ?_
    unfold prep_effect.V2
    refine cond_intro (fun e => hR' _ _ ?_ S1) (fun e => ?_)
    · have e : x.op = 26 ∨ x.op = 33 ∨ x.op = 36 := of_decide_eq_true (ht ▸ e)
      unfold effP
      rw [if_neg g1, if_pos e]
      rfl
    have g2 : ¬ (x.op = 26 ∨ x.op = 33 ∨ x.op = 36) := of_decide_eq_false (ht ▸ e)
    refine cond_intro (fun e => L3 true ?_ g1 g2) (fun e34 => L3 _ ?_ g1 g2)
    · have := eq_of_beq e; rw [decide_eq_true (by omega)]
    · have e34 : ¬ x.op = 34 := by simpa using e34
      by_cases q : x.op = 64
      · rw [decide_eq_true (by omega), q]; rfl
      · rw [decide_eq_false (by omega)]; simpa using q
  have L1 : ∀ t : Bool, t = decide (x.op = 0 ∨ x.op = 1) → prep_effect.L1 (some ⟨mb, 0, none⟩) b x.op t R (fun _ _ => False) w1 := fun t ht => by
    refine prep_effect.step1 _ _ _ _ _ _ _ ?_
    unfold prep_effect.V1
    refine cond_intro (fun e => hR' _ _ ?_ S1) (fun e => ?_)
    · have e : x.op = 0 ∨ x.op = 1 := of_decide_eq_true (ht ▸ e)
      unfold effP
      rw [if_pos e]
      rfl
    have g1 : ¬ (x.op = 0 ∨ x.op = 1) := of_decide_eq_false (ht ▸ e)
    refine cond_intro (fun e => L2 true ?_ g1) (fun e26 => cond_intro (fun e => L2 true ?_ g1) (fun e33 => L2 _ ?_ g1))
    · have := eq_of_beq e; rw [decide_eq_true (by omega)]
    · have := eq_of_beq e; rw [decide_eq_true (by omega)]
    · have e26 : ¬ x.op = 26 := by simpa using e26
      have e33 : ¬ x.op = 33 := by simpa using e33
      by_cases q : x.op = 36
      · rw [decide_eq_true (by omega), q]; rfl
      · rw [decide_eq_false (by omega)]; simpa using q
  refine ⟨_, I1.c0, cond_intro (fun e => L1 true ?_) (fun e0 => L1 _ ?_)⟩
  · have := eq_of_beq e; rw [decide_eq_true (by omega)]
  · have e0 : ¬ x.op = 0 := by simpa using e0
    by_cases q : x.op = 1
    · rw [decide_eq_true (by omega), q]; rfl
    · rw [decide_eq_false (by omega)]; simpa using q
end
end Go.Proofs.Qxb6500317aGreat
