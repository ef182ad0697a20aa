/-
  The model of the compiler: the effects of an instruction.
-/
import Derived.Test.Qxb6500321aMoA
import Derived.Test.Qxb6500321aPrD
set_option linter.unusedSimpArgs false
set_option linter.unusedVariables false
set_option maxRecDepth 100000
set_option linter.unusedSectionVars false
namespace Go.Proofs.Qxb6500321a
open Go Go.Vc
theorem num_nz : ((List.range 256).all fun n => decide ((api_NumSig.F (n : Int)).1 = 0) || decide (69 ≤ n)) = true := by kernel_rfl
theorem num_69 {op : Int} (h0 : 0 ≤ op) (h1 : op ≤ 255) (h : ¬ (api_NumSig.F op).1 = 0) : 69 ≤ op := by
  have q := List.all_eq_true.1 num_nz op.toNat (List.mem_range.2 (by omega))
  rw [show ((op.toNat : Nat) : Int) = op by omega] at q
  simp [h] at q
  omega
section
variable {wd w w' : World} {L mb : Nat} {m : Nat → Value} {P : PM}
theorem meffect_spec (H : HM wd w L mb m P) (B : PB P) (x : Ins) (hx : InsIn x) : Runs Try.prog prepm_effect.id #[rp mb, .agg #[.int .u8 x.op, .int .u32 x.x, .int .u64 x.y]] w fun v w' => EfR (effP P x) v ∧ Same [] w.heap.size w w' := by
  obtain ⟨o0, o1, x0, x1, y0, y1⟩ := hx
  have bn := B.nTy
  generalize hR : (fun v w' => EfR (effP P x) v ∧ Same [] w.heap.size w w') = R
  have hR' : ∀ v w', EfR (effP P x) v → Same [] w.heap.size w w' → R v w' := fun v w' h1 h2 => by rw [← hR]; exact ⟨h1, h2⟩
  clear hR
  refine prepm_effect.enter _ _ _ _ _ _ _ ?_
  unfold prepm_effect.V
  refine letB_intro fun b hb => letW_intro fun w1 hw => ?_
  obtain ⟨I1, S1⟩ := ins_made hb hw
  have H1 := H.keep S1
  clear hw hb
  refine ⟨_, I1.c0, ?_⟩
  rw [wrap_i64 (by omega) (by omega)]
  refine RunsQ.post (api_NumSig.pure _ _) ?_
  rintro v w1 ⟨rfl, rfl⟩
  refine ⟨_, _, _, rfl, ?_⟩
  have nl := num_le o0 o1
  have n69 := @num_69 x.op o0 o1
  refine cond_intro (fun z => hR' _ _ ?_ S1) (fun z => ?_)
  · have z : ¬ (api_NumSig.F x.op).1 = 0 := by simpa using z
    have := n69 z
    unfold effP
    rw [if_neg (by omega), if_neg (by omega), if_neg (by omega), if_neg (by omega), if_neg (by omega), if_neg (by omega), if_neg (by omega), if_neg (by omega), if_neg (by omega), if_neg z]
    show _ = _
    have e1 : ((api_NumSig.F x.op).1.toNat : Int) = (api_NumSig.F x.op).1 := by omega
    rw [e1]
    rfl
  have z : (api_NumSig.F x.op).1 = 0 := by simpa using z
  have L5 : ∀ t : Bool, t = decide (54 ≤ x.op ∧ x.op ≤ 62) → ¬ (x.op = 0 ∨ x.op = 1) → ¬ x.op = 16 → ¬ x.op = 17 → ¬ (x.op = 26 ∨ x.op = 33 ∨ x.op = 36) → ¬ x.op = 27 → ¬ (x.op = 32 ∨ x.op = 35 ∨ x.op = 63 ∨ (65 ≤ x.op ∧ x.op ≤ 68)) → ¬ (x.op = 34 ∨ x.op = 64 ∨ (40 ≤ x.op ∧ x.op ≤ 53)) →
      prepm_effect.L5 t R (fun _ _ => False) w1 := fun t ht g1 g2 g3 g4 g5 g6 g7 => by
    refine prepm_effect.step5 _ _ _ _ ?_
    unfold prepm_effect.V5
    refine cond_intro (fun e => hR' _ _ ?_ S1) (fun e => hR' _ _ ?_ S1)
    · have e : 54 ≤ x.op ∧ x.op ≤ 62 := of_decide_eq_true (ht ▸ e)
      unfold effP
      rw [if_neg (by omega), if_neg (by omega), if_neg (by omega), if_neg (by omega), if_neg (by omega), if_neg (by omega), if_neg (by omega), if_neg (by omega), if_pos (by omega)]
      rfl
    · have e : ¬ (54 ≤ x.op ∧ x.op ≤ 62) := of_decide_eq_false (ht ▸ e)
      unfold effP
      rw [if_neg (by omega), if_neg (by omega), if_neg (by omega), if_neg (by omega), if_neg (by omega), if_neg (by omega), if_neg (by omega), if_neg (by omega), if_neg (by omega), if_pos z]
      exact ⟨_, _, rfl⟩
  have L4 : ∀ t : Bool, t = decide (x.op = 34 ∨ x.op = 64 ∨ (40 ≤ x.op ∧ x.op ≤ 53)) → ¬ (x.op = 0 ∨ x.op = 1) → ¬ x.op = 16 → ¬ x.op = 17 → ¬ (x.op = 26 ∨ x.op = 33 ∨ x.op = 36) → ¬ x.op = 27 → ¬ (x.op = 32 ∨ x.op = 35 ∨ x.op = 63 ∨ (65 ≤ x.op ∧ x.op ≤ 68)) →
      prepm_effect.L4 x.op t R (fun _ _ => False) w1 := fun t ht g1 g2 g3 g4 g5 g6 => by
    refine prepm_effect.step4 _ _ _ _ _ ?_
    unfold prepm_effect.V4
    refine cond_intro (fun e => hR' _ _ ?_ S1) (fun e => ?_)
    · have e : x.op = 34 ∨ x.op = 64 ∨ (40 ≤ x.op ∧ x.op ≤ 53) := of_decide_eq_true (ht ▸ e)
      unfold effP
      by_cases q : x.op = 34 ∨ x.op = 64
      · rw [if_neg (by omega), if_neg (by omega), if_pos q]
        rfl
      · rw [if_neg (by omega), if_neg (by omega), if_neg q, if_neg (by omega), if_neg (by omega), if_neg (by omega), if_neg (by omega), if_pos (by omega)]
        rfl
    have g7 : ¬ (x.op = 34 ∨ x.op = 64 ∨ (40 ≤ x.op ∧ x.op ≤ 53)) := of_decide_eq_false (ht ▸ e)
    refine cond_intro (fun e2 => L5 _ ?_ g1 g2 g3 g4 g5 g6 g7) (fun e2 => L5 _ ?_ g1 g2 g3 g4 g5 g6 g7)
    · have e2 : x.op ≥ 54 := of_decide_eq_true e2
      by_cases q : x.op ≤ 62
      · rw [decide_eq_true q, decide_eq_true ⟨e2, q⟩]
      · rw [decide_eq_false q, decide_eq_false (by omega)]
    · have e2 : ¬ x.op ≥ 54 := of_decide_eq_false e2
      rw [decide_eq_false (by omega)]
  have L3 : ∀ t : Bool, t = decide (x.op = 32 ∨ x.op = 35 ∨ x.op = 63 ∨ (65 ≤ x.op ∧ x.op ≤ 68)) → ¬ (x.op = 0 ∨ x.op = 1) → ¬ x.op = 16 → ¬ x.op = 17 → ¬ (x.op = 26 ∨ x.op = 33 ∨ x.op = 36) → ¬ x.op = 27 →
      prepm_effect.L3 x.op t R (fun _ _ => False) w1 := fun t ht g1 g2 g3 g4 g5 => by
    refine prepm_effect.step3 _ _ _ _ _ ?_
    unfold prepm_effect.V3
    refine cond_intro (fun e => hR' _ _ ?_ S1) (fun e => ?_)
    · have e : x.op = 32 ∨ x.op = 35 ∨ x.op = 63 ∨ (65 ≤ x.op ∧ x.op ≤ 68) := of_decide_eq_true (ht ▸ e)
      unfold effP
      rw [if_neg (by omega), if_neg (by omega), if_neg (by omega), if_pos e]
      rfl
    have g6 : ¬ (x.op = 32 ∨ x.op = 35 ∨ x.op = 63 ∨ (65 ≤ x.op ∧ x.op ≤ 68)) := of_decide_eq_false (ht ▸ e)
    refine cond_intro (fun e => L4 true ?_ g1 g2 g3 g4 g5 g6) (fun e34 => cond_intro (fun e => L4 true ?_ g1 g2 g3 g4 g5 g6) (fun e64 => cond_intro (fun e => L4 _ ?_ g1 g2 g3 g4 g5 g6) (fun e => L4 _ ?_ g1 g2 g3 g4 g5 g6)))
    · have := eq_of_beq e; rw [decide_eq_true (by omega)]
    · have := eq_of_beq e; rw [decide_eq_true (by omega)]
    · have e34 : ¬ x.op = 34 := by simpa using e34
      have e64 : ¬ x.op = 64 := by simpa using e64
      have e : x.op ≥ 40 := of_decide_eq_true e
      by_cases q : x.op ≤ 53
      · rw [decide_eq_true q, decide_eq_true (by omega)]
      · rw [decide_eq_false q, decide_eq_false (by omega)]
    · have e34 : ¬ x.op = 34 := by simpa using e34
      have e64 : ¬ x.op = 64 := by simpa using e64
      have e : ¬ x.op ≥ 40 := of_decide_eq_false e
      rw [decide_eq_false (by omega)]
  have L2 : ∀ t : Bool, t = decide (x.op = 26 ∨ x.op = 33 ∨ x.op = 36) → ¬ (x.op = 0 ∨ x.op = 1) → ¬ x.op = 16 → ¬ x.op = 17 → prepm_effect.L2 x.op t R (fun _ _ => False) w1 := fun t ht g1 g2 g3 => by
    refine prepm_effect.step2 _ _ _ _ _ ?_
    unfold prepm_effect.V2
    refine cond_intro (fun e => hR' _ _ ?_ S1) (fun e => ?_)
    · have e : x.op = 26 ∨ x.op = 33 ∨ x.op = 36 := of_decide_eq_true (ht ▸ e)
      unfold effP
      rw [if_neg (by omega), if_pos e]
      rfl
    have g4 : ¬ (x.op = 26 ∨ x.op = 33 ∨ x.op = 36) := of_decide_eq_false (ht ▸ e)
    refine cond_intro (fun e => hR' _ _ ?_ S1) (fun e => ?_)
    · have e : x.op = 27 := eq_of_beq e
      unfold effP
      rw [if_neg (by omega), if_neg (by omega), if_neg (by omega), if_neg (by omega), if_pos e]
      rfl
    have g5 : ¬ x.op = 27 := by simpa using e
    refine cond_intro (fun e => L3 true ?_ g1 g2 g3 g4 g5) (fun e32 => cond_intro (fun e => L3 true ?_ g1 g2 g3 g4 g5) (fun e35 => cond_intro (fun e => L3 true ?_ g1 g2 g3 g4 g5) (fun e63 => cond_intro (fun e => L3 _ ?_ g1 g2 g3 g4 g5) (fun e => L3 _ ?_ g1 g2 g3 g4 g5))))
    · have := eq_of_beq e; rw [decide_eq_true (by omega)]
    · have := eq_of_beq e; rw [decide_eq_true (by omega)]
    · have := eq_of_beq e; rw [decide_eq_true (by omega)]
    · have e32 : ¬ x.op = 32 := by simpa using e32
      have e35 : ¬ x.op = 35 := by simpa using e35
      have e63 : ¬ x.op = 63 := by simpa using e63
      have e : x.op ≥ 65 := of_decide_eq_true e
      by_cases q : x.op ≤ 68
      · rw [decide_eq_true q, decide_eq_true (by omega)]
      · rw [decide_eq_false q, decide_eq_false (by omega)]
    · have e32 : ¬ x.op = 32 := by simpa using e32
      have e35 : ¬ x.op = 35 := by simpa using e35
      have e63 : ¬ x.op = 63 := by simpa using e63
      have e : ¬ x.op ≥ 65 := of_decide_eq_false e
      rw [decide_eq_false (by omega)]
  have L1 : ∀ t : Bool, t = decide (x.op = 0 ∨ x.op = 1) → prepm_effect.L1 (some ⟨mb, 0, none⟩) b x.op t R (fun _ _ => False) w1 := fun t ht => by
    refine prepm_effect.step1 _ _ _ _ _ _ _ ?_
    unfold prepm_effect.V1
    refine cond_intro (fun e => hR' _ _ ?_ S1) (fun e => ?_)
    · have e : x.op = 0 ∨ x.op = 1 := of_decide_eq_true (ht ▸ e)
      unfold effP
      rw [if_pos e]
      rfl
    have g1 : ¬ (x.op = 0 ∨ x.op = 1) := of_decide_eq_false (ht ▸ e)
    refine cond_intro (fun e => ?_) (fun e => ?_)
    · have e : x.op = 16 := eq_of_beq e
      have he : effP P x = (match typeOf P x.x with | none => none | some t => some ((splitP t).1.size, (splitP t).2.size)) := by
        unfold effP
        rw [if_neg g1, if_neg (by omega), if_neg (by omega), if_neg (by omega), if_neg (by omega), if_pos e]
        rfl
      rw [he] at hR'
      refine ⟨_, I1.c1, ?_⟩
      rw [wrap_i64 (by omega) (by omega)]
      refine RunsQ.post (TypeOf_spec H1 B x.x (by omega) (by omega)) ?_
      rintro v w2 ⟨rfl, S2'⟩
      cases ht : typeOf P x.x with
      | none =>
        rw [ht] at hR'
        refine ⟨_, _, rfl, RunsQ.post (Split_spec _ (by decide) w2) ?_⟩
        rintro v w3 ⟨rfl, S3⟩
        exact ⟨_, _, rfl, hR' _ _ ⟨_, _, rfl⟩ ((S1.nx S2').nx S3)⟩
      | some t =>
        rw [ht] at hR'
        have hsz : t.size ≤ 1024 := by
          unfold typeOf typeAt at ht
          split at ht
          · cases ht
          · rename_i q
            injection ht with ht
            rw [← ht]
            exact (B.ty _ (by omega)).1
        refine ⟨_, _, rfl, RunsQ.post (Split_spec t hsz w2) ?_⟩
        rintro v w3 ⟨rfl, S3⟩
        exact ⟨_, _, rfl, hR' _ _ rfl ((S1.nx S2').nx S3)⟩
    have g2 : ¬ x.op = 16 := by simpa using e
    refine cond_intro (fun e => ?_) (fun e => ?_)
    · have e : x.op = 17 := eq_of_beq e
      have he : effP P x = if (P.nTy : Int) ≤ x.x then none else some ((splitP (P.ty x.x.toNat)).1.size + 1, (splitP (P.ty x.x.toNat)).2.size) := by
        unfold effP
        rw [if_neg g1, if_neg (by omega), if_neg (by omega), if_neg (by omega), if_neg (by omega), if_neg g2, if_pos e]
      rw [he] at hR'
      have I2 := I1.drew
      have H2 := H1.drew
      obtain ⟨a, c0, hr⟩ := H2.ty
      simp only [true_and, nilV_some]
      refine ⟨_, I2.c1, _, _, _, c0, ?_⟩
      rw [wrap_u64 (by omega) (by omega), wrap_u64 (by omega) (by omega)]
      refine cond_intro (fun q => ?_) (fun q => ?_)
      · have q : (P.nTy : Int) ≤ x.x := of_decide_eq_true q
        rw [if_pos q] at hR'
        exact hR' _ _ ⟨_, _, rfl⟩ S1.drew
      · have q : ¬ (P.nTy : Int) ≤ x.x := of_decide_eq_false q
        rw [if_neg q] at hR'
        obtain ⟨xn, hxn⟩ := Int.eq_ofNat_of_zero_le x0
        have hlt : xn < P.nTy := by omega
        obtain ⟨tb, rfl, row⟩ := hr (by omega)
        have tf : TF w1 w1.drew.drew b mb tb (xn : Int) P.nTy (P.ty xn) := ⟨by rw [← hxn]; exact I2.c1, c0⟩
        have hx0 : (0 : Int) ≤ (xn : Int) := by omega
        have hx1 : (xn : Int) < ((P.nTy : Nat) : Int) := by omega
        have row : w1.drew.drew.cell? ⟨tb, xn, none⟩ = some (.string (P.ty xn)) := row xn hlt
        have S3 : Same [] w.heap.size w w1.drew.drew := S1.drew.drew
        have hs := splitF_size (P.ty xn) (P.ty xn).size 0
        have hsz := (B.ty xn hlt).1
        have a1 : (splitP (P.ty xn)).1.size ≤ 1024 := Nat.le_trans hs.1 hsz
        have fin : RunsQ Try.prog api_Split.id #[(.string (P.ty xn))] w1.drew.drew (fun r32 w33 => (∃ x34 : ByteArray, ∃ x35 : ByteArray, (r32 = (.tuple #[(.string x34), (.string x35)]) ∧ (R (.tuple #[(.int .i64 (IntKind.wrap .i64 (((ByteArray.size x34 : Nat) : Int) + (1 : Int)))), (.int .i64 ((ByteArray.size x35 : Nat) : Int)), (.bool true)]) w33)))) (fun _ _ => False) := by
          refine RunsQ.post (Split_spec (P.ty xn) hsz _) ?_
          rintro v w3 ⟨rfl, S3'⟩
          refine ⟨_, _, rfl, ?_⟩
          have e1 : IntKind.wrap .i64 ((((splitP (P.ty xn)).1.size : Nat) : Int) + 1) = (((splitP (P.ty xn)).1.size + 1 : Nat) : Int) := by rw [wrap_i64 (by omega) (by omega)]; omega
          rw [e1]
          refine hR' _ _ ?_ (S3.nx S3')
          rw [hxn]
          rfl
        clear hr c0 H2 I2
        repeat' first
          | exact trivial
          | exact fin
          | refine ⟨_, _, _, TF.t tf, ?_⟩
          | refine ⟨_, TF.x tf, ?_⟩
          | refine ⟨⟨hx0, hx1⟩, nilV_inA ?_⟩
          | (simp only [add_mk, Int.toNat_natCast, Nat.zero_add, Nat.mul_one]; refine ⟨_, row, ?_⟩)
          | refine And.intro ?_ ?_
    have g3 : ¬ x.op = 17 := by simpa using e
    refine cond_intro (fun e => L2 true ?_ g1 g2 g3) (fun e26 => cond_intro (fun e => L2 true ?_ g1 g2 g3) (fun e33 => L2 _ ?_ g1 g2 g3))
    · have := eq_of_beq e; rw [decide_eq_true (by omega)]
    · have := eq_of_beq e; rw [decide_eq_true (by omega)]
    · have e26 : ¬ x.op = 26 := by simpa using e26
      have e33 : ¬ x.op = 33 := by simpa using e33
      by_cases q : x.op = 36
      · rw [decide_eq_true (by omega), q]; rfl
      · rw [decide_eq_false (by omega)]; simpa using q
  refine cond_intro (fun e => L1 true ?_) (fun e0 => L1 _ ?_)
  · have := eq_of_beq e; rw [decide_eq_true (by omega)]
  · have e0 : ¬ x.op = 0 := by simpa using e0
    by_cases q : x.op = 1
    · rw [decide_eq_true (by omega), q]; rfl
    · rw [decide_eq_false (by omega)]; simpa using q
end
end Go.Proofs.Qxb6500321a
