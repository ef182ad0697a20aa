/-
  The road in memory: deal, fork.
-/
import Derived.Test.Qxb6500321aFoC
set_option linter.unusedSimpArgs false
set_option linter.unusedVariables false
set_option maxRecDepth 100000
set_option linter.unusedSectionVars false
set_option maxHeartbeats 1000000
namespace Go.Proofs.Qxb6500321a
open Go Go.Vc

theorem mem_nz : ((List.range 256).all fun n => ((api_MemSig.F (n : Int)).1 == 0) == !(decide (40 ≤ n) && decide (n ≤ 62))) = true := by kernel_rfl
theorem mem_iff {op : Int} (h0 : 0 ≤ op) (h1 : op ≤ 255) : ((api_MemSig.F op).1 ≠ 0) ↔ (40 ≤ op ∧ op ≤ 62) := by
  have q := List.all_eq_true.1 mem_nz op.toNat (List.mem_range.2 (by omega))
  rw [show ((op.toNat : Nat) : Int) = op by omega] at q
  have q : ((api_MemSig.F op).1 == 0) = !(decide (40 ≤ op.toNat) && decide (op.toNat ≤ 62)) := eq_of_beq q
  constructor
  · intro hz
    have e : ((api_MemSig.F op).1 == 0) = false := by simpa using hz
    rw [e] at q
    have : (decide (40 ≤ op.toNat) && decide (op.toNat ≤ 62)) = true := by
      cases hb : (decide (40 ≤ op.toNat) && decide (op.toNat ≤ 62)) with
      | true => rfl
      | false => rw [hb] at q; cases q
    simp at this
    omega
  · intro hz e
    have e : ((api_MemSig.F op).1 == 0) = true := by simpa using e
    rw [e, decide_eq_true (by omega), decide_eq_true (by omega)] at q
    cases q
section
variable {wd w w' : World} {L mb : Nat} {m : Nat → Value} {P : PM}
theorem deal_spec (H : HM wd w L mb m P) (B : PB P) (x : Ins) (hx : InsIn x) {ta ga : Nat} (he : effP P x = some (ta, ga)) : Runs Try.prog preplaw_deal.id #[rp mb, .agg #[.int .u8 x.op, .int .u32 x.x, .int .u64 x.y]] w fun v w' => v = .tuple #[.int .i64 (ta : Int), .int .i64 (ga : Int)] ∧ Same [] w.heap.size w w' := by
  obtain ⟨o0, o1, x0, x1, y0, y1⟩ := hx
  have bn := B.nTy
  generalize hR : (fun (v : Value) (w' : World) => v = .tuple #[.int .i64 (ta : Int), .int .i64 (ga : Int)] ∧ Same [] w.heap.size w w') = R
  have hR' : ∀ (a b : Nat) w', effP P x = some (a, b) → Same [] w.heap.size w w' → R (.tuple #[.int .i64 (a : Int), .int .i64 (b : Int)]) w' := fun a b w' h1 h2 => by
    rw [he] at h1
    cases h1
    rw [← hR]
    exact ⟨rfl, h2⟩
  clear hR
  refine preplaw_deal.enter _ _ _ _ _ _ _ ?_
  unfold preplaw_deal.V
  refine letB_intro fun b hb => letW_intro fun w1 hw => ?_
  obtain ⟨I1, S1⟩ := ins_made hb hw
  have H1 := H.keep S1
  clear hw hb
  refine ⟨_, I1.c0, ?_⟩
  rw [wrap_i64 (by omega) (by omega)]
  refine RunsQ.post (api_NumSig.pure _ _) ?_
  rintro v w1 ⟨rfl, rfl⟩
  refine ⟨_, _, _, rfl, RunsQ.post (api_MemSig.pure _ _) ?_⟩
  rintro v w1 ⟨rfl, rfl⟩
  refine ⟨_, _, _, rfl, ?_⟩
  have nl := num_le o0 o1
  have n69 := @num_69 x.op o0 o1
  have mi := mem_iff o0 o1
  refine cond_intro (fun z => ?_) (fun z => ?_)
  · have z : ¬ (api_NumSig.F x.op).1 = 0 := by simpa using z
    have := n69 z
    have e1 : ((api_NumSig.F x.op).1.toNat : Int) = (api_NumSig.F x.op).1 := by omega
    have := hR' (api_NumSig.F x.op).1.toNat 1 w1 (by
      unfold effP
      rw [if_neg (by omega), if_neg (by omega), if_neg (by omega), if_neg (by omega), if_neg (by omega), if_neg (by omega), if_neg (by omega), if_neg (by omega), if_neg (by omega), if_neg z]) S1
    rw [e1] at this
    exact this
  have z : (api_NumSig.F x.op).1 = 0 := by simpa using z
  have L5 : ∀ (t : Bool) (w2 : World), Same [] w1.heap.size w1 w2 → ¬ (x.op = 26 ∨ x.op = 33 ∨ x.op = 36) → ¬ (x.op = 34 ∨ x.op = 64) → ¬ (x.op = 32 ∨ x.op = 35 ∨ x.op = 63 ∨ (65 ≤ x.op ∧ x.op ≤ 68)) → ¬ x.op = 27 → ¬ x.op = 16 → ¬ (40 ≤ x.op ∧ x.op ≤ 62) → t = decide (x.op = 17 ∧ x.x < (P.nTy : Int)) →
      preplaw_deal.L5 (some ⟨mb, 0, none⟩) b t R (fun _ _ => False) w2 := fun t w2 S2 g1 g2 g3 g4 g5 g6 ht => by
    have S02 := S1.nx S2
    refine preplaw_deal.step5 _ _ _ _ _ _ ?_
    unfold preplaw_deal.V5
    refine cond_intro (fun e => ?_) (fun e => ?_)
    · obtain ⟨e17, ex⟩ := of_decide_eq_true (ht ▸ e)
      have I3 := (I1.mv S2 I1.ltA (by simp)).drew
      have H3 := (H1.keep S2).drew
      obtain ⟨a, c0, hr⟩ := H3.ty
      obtain ⟨xn, hxn⟩ := Int.eq_ofNat_of_zero_le x0
      have hlt : xn < P.nTy := by omega
      obtain ⟨tb, rfl, row⟩ := hr (by omega)
      have hx0 : (0 : Int) ≤ (xn : Int) := by omega
      have hx1 : (xn : Int) < ((P.nTy : Nat) : Int) := by omega
      have row : w2.drew.cell? ⟨tb, xn, none⟩ = some (.string (P.ty xn)) := row xn hlt
      have hs := splitF_size (P.ty xn) (P.ty xn).size 0
      have hsz := (B.ty xn hlt).1
      have a1 : (splitP (P.ty xn)).1.size ≤ 1024 := Nat.le_trans hs.1 hsz
      have cx : w2.drew.cell? ⟨b, 1, none⟩ = some (.int .u32 (xn : Int)) := by have := I3.c1; rw [hxn] at this; exact this
      have fin : RunsQ Try.prog api_Split.id #[(.string (P.ty xn))] w2.drew (fun r32 w33 => (∃ x34 : ByteArray, ∃ x35 : ByteArray, (r32 = (.tuple #[(.string x34), (.string x35)]) ∧ (R (.tuple #[(.int .i64 (IntKind.wrap .i64 (((ByteArray.size x34 : Nat) : Int) + (1 : Int)))), (.int .i64 ((ByteArray.size x35 : Nat) : Int))]) w33)))) (fun _ _ => False) := by
        refine RunsQ.post (Split_spec (P.ty xn) hsz _) ?_
        rintro v w3 ⟨rfl, S3'⟩
        refine ⟨_, _, rfl, ?_⟩
        have e1 : IntKind.wrap .i64 ((((splitP (P.ty xn)).1.size : Nat) : Int) + 1) = (((splitP (P.ty xn)).1.size + 1 : Nat) : Int) := by rw [wrap_i64 (by omega) (by omega)]; omega
        rw [e1]
        refine hR' _ _ _ ?_ (S02.drew.nx S3')
        unfold effP
        rw [if_neg (by omega), if_neg g1, if_neg g2, if_neg g3, if_neg g4, if_neg g5, if_pos e17, if_neg (by omega), hxn]
        rfl
      simp only [nilV_some]
      clear hr H3 I3
      repeat' first
        | exact trivial
        | exact fin
        | refine ⟨_, _, _, c0, ?_⟩
        | refine ⟨_, cx, ?_⟩
        | refine ⟨⟨hx0, hx1⟩, nilV_inA ?_⟩
        | (simp only [add_mk, Int.toNat_natCast, Nat.zero_add, Nat.mul_one]; refine ⟨_, row, ?_⟩)
        | refine And.intro ?_ ?_
    · have e := of_decide_eq_false (ht ▸ e)
      refine hR' 0 0 w2 ?_ S02
      by_cases e17 : x.op = 17
      · have hge : (P.nTy : Int) ≤ x.x := Decidable.byContradiction fun q => e ⟨e17, by omega⟩
        have : effP P x = none := by
          unfold effP
          rw [if_neg (by omega), if_neg g1, if_neg g2, if_neg g3, if_neg g4, if_neg g5, if_pos e17, if_pos hge]
        rw [this] at he
        cases he
      · by_cases e01 : x.op = 0 ∨ x.op = 1
        · unfold effP
          rw [if_pos e01]
        · have : effP P x = none := by
            unfold effP
            rw [if_neg e01, if_neg g1, if_neg g2, if_neg g3, if_neg g4, if_neg g5, if_neg e17, if_neg (by omega), if_neg (by omega), if_pos z]
          rw [this] at he
          cases he
  have L4 : ∀ t : Bool, t = decide (x.op = 32 ∨ x.op = 35 ∨ x.op = 63 ∨ (65 ≤ x.op ∧ x.op ≤ 68)) → ¬ (x.op = 26 ∨ x.op = 33 ∨ x.op = 36) → ¬ (x.op = 34 ∨ x.op = 64) → ¬ x.op = 27 → ¬ (40 ≤ x.op ∧ x.op ≤ 62) → preplaw_deal.L4 (some ⟨mb, 0, none⟩) b x.op t R (fun _ _ => False) w1 := fun t ht g1 g2 g4 g6 => by
    refine preplaw_deal.step4 _ _ _ _ _ _ _ ?_
    unfold preplaw_deal.V4
    refine cond_intro (fun e => ?_) (fun e => ?_)
    · have e := of_decide_eq_true (ht ▸ e)
      exact hR' 0 1 w1 (by unfold effP; rw [if_neg (by omega), if_neg g1, if_neg g2, if_pos e]) S1
    have g3 := of_decide_eq_false (ht ▸ e)
    refine cond_intro (fun e => ?_) (fun e => ?_)
    · have e : x.op = 16 := eq_of_beq e
      have hef : effP P x = (match typeOf P x.x with | none => none | some t => some ((splitP t).1.size, (splitP t).2.size)) := by
        unfold effP
        rw [if_neg (by omega), if_neg g1, if_neg g2, if_neg g3, if_neg g4, if_pos e]
        rfl
      refine ⟨_, I1.c1, ?_⟩
      rw [wrap_i64 (by omega) (by omega)]
      refine RunsQ.post (TypeOf_spec H1 B x.x (by omega) (by omega)) ?_
      rintro v w2 ⟨rfl, S2'⟩
      cases ht : typeOf P x.x with
      | none =>
        rw [ht] at hef
        rw [hef] at he
        cases he
      | some t =>
        rw [ht] at hef
        have hsz := typeOf_size B ht
        refine ⟨_, _, rfl, RunsQ.post (Split_spec t hsz w2) ?_⟩
        rintro v w3 ⟨rfl, S3⟩
        exact ⟨_, _, rfl, hR' _ _ _ hef ((S1.nx S2').nx S3)⟩
    have g5 : ¬ x.op = 16 := by simpa using e
    have Sd : Same [] w1.heap.size w1 w1.drew := (Same.refl _ _ _).drew
    simp only [true_and, nilV_some]
    refine cond_intro (fun e => ?_) (fun e => L5 false _ Sd g1 g2 g3 g4 g5 g6 ?_)
    · have e : x.op = 17 := eq_of_beq e
      have I2 := I1.drew
      obtain ⟨a, c0, _⟩ := H1.drew.ty
      refine ⟨_, I2.c1, _, _, _, c0, ?_⟩
      rw [wrap_i64 (by omega) (by omega)]
      refine L5 _ _ Sd g1 g2 g3 g4 g5 g6 ?_
      by_cases q : x.x < (P.nTy : Int)
      · rw [decide_eq_true q, decide_eq_true ⟨e, q⟩]
      · rw [decide_eq_false q, decide_eq_false (fun z => q z.2)]
    · have e : ¬ x.op = 17 := by simpa using e
      rw [decide_eq_false (fun z => e z.1)]
  have L3 : ∀ t : Bool, t = decide (x.op = 26 ∨ x.op = 33 ∨ x.op = 36) → ¬ (x.op = 34 ∨ x.op = 64) → ¬ (40 ≤ x.op ∧ x.op ≤ 62) → preplaw_deal.L3 (some ⟨mb, 0, none⟩) b x.op t R (fun _ _ => False) w1 := fun t ht g2 g6 => by
    refine preplaw_deal.step3 _ _ _ _ _ _ _ ?_
    unfold preplaw_deal.V3
    refine cond_intro (fun e => ?_) (fun e => ?_)
    · have e := of_decide_eq_true (ht ▸ e)
      exact hR' 1 0 w1 (by unfold effP; rw [if_neg (by omega), if_pos e]) S1
    have g1 := of_decide_eq_false (ht ▸ e)
    refine cond_intro (fun e => ?_) (fun e => ?_)
    · have e : x.op = 27 := eq_of_beq e
      exact hR' 3 1 w1 (by unfold effP; rw [if_neg (by omega), if_neg g1, if_neg g2, if_neg (by omega), if_pos e]) S1
    have g4 : ¬ x.op = 27 := by simpa using e
    refine cond_intro (fun e => L4 true ?_ g1 g2 g4 g6) (fun e32 => cond_intro (fun e => L4 true ?_ g1 g2 g4 g6) (fun e35 => cond_intro (fun e => L4 true ?_ g1 g2 g4 g6) (fun e63 => cond_intro (fun e => L4 _ ?_ g1 g2 g4 g6) (fun e => L4 _ ?_ g1 g2 g4 g6))))
    · have := eq_of_beq e; rw [decide_eq_true (by omega)]
    · have := eq_of_beq e; rw [decide_eq_true (by omega)]
    · have := eq_of_beq e; rw [decide_eq_true (by omega)]
    · have e32 : ¬ x.op = 32 := by simpa using e32
      have e35 : ¬ x.op = 35 := by simpa using e35
      have e63 : ¬ x.op = 63 := by simpa using e63
      have e : x.op ≥ 65 := of_decide_eq_true e
      by_cases q : x.op ≤ 68
      · rw [decide_eq_true q, decide_eq_true (by omega)]
      · rw [decide_eq_false q, decide_eq_false (by omega)]
    · have e32 : ¬ x.op = 32 := by simpa using e32
      have e35 : ¬ x.op = 35 := by simpa using e35
      have e63 : ¬ x.op = 63 := by simpa using e63
      have e : ¬ x.op ≥ 65 := of_decide_eq_false e
      rw [decide_eq_false (by omega)]
  have L2 : ∀ t : Bool, t = decide (x.op = 34 ∨ x.op = 64 ∨ (40 ≤ x.op ∧ x.op ≤ 53)) → ¬ (54 ≤ x.op ∧ x.op ≤ 62) → preplaw_deal.L2 (some ⟨mb, 0, none⟩) b x.op t R (fun _ _ => False) w1 := fun t ht g0 => by
    refine preplaw_deal.step2 _ _ _ _ _ _ _ ?_
    unfold preplaw_deal.V2
    refine cond_intro (fun e => ?_) (fun e => ?_)
    · have e := of_decide_eq_true (ht ▸ e)
      refine hR' 1 1 w1 ?_ S1
      unfold effP
      by_cases q : x.op = 34 ∨ x.op = 64
      · rw [if_neg (by omega), if_neg (by omega), if_pos q]
      · rw [if_neg (by omega), if_neg (by omega), if_neg q, if_neg (by omega), if_neg (by omega), if_neg (by omega), if_neg (by omega), if_pos (by omega)]
    have g := of_decide_eq_false (ht ▸ e)
    have g2 : ¬ (x.op = 34 ∨ x.op = 64) := by omega
    have g6 : ¬ (40 ≤ x.op ∧ x.op ≤ 62) := by omega
    refine cond_intro (fun e => L3 true ?_ g2 g6) (fun e26 => cond_intro (fun e => L3 true ?_ g2 g6) (fun e33 => L3 _ ?_ g2 g6))
    · have := eq_of_beq e; rw [decide_eq_true (by omega)]
    · have := eq_of_beq e; rw [decide_eq_true (by omega)]
    · have e26 : ¬ x.op = 26 := by simpa using e26
      have e33 : ¬ x.op = 33 := by simpa using e33
      by_cases q : x.op = 36
      · rw [decide_eq_true (by omega), q]; rfl
      · rw [decide_eq_false (by omega)]; simpa using q
  have L1 : ∀ t : Bool, t = decide (54 ≤ x.op ∧ x.op ≤ 62) → preplaw_deal.L1 (some ⟨mb, 0, none⟩) b x.op (api_MemSig.F x.op).1 t R (fun _ _ => False) w1 := fun t ht => by
    refine preplaw_deal.step1 _ _ _ _ _ _ _ _ ?_
    unfold preplaw_deal.V1
    refine cond_intro (fun e => ?_) (fun e => ?_)
    · have e := of_decide_eq_true (ht ▸ e)
      refine hR' 2 0 w1 ?_ S1
      unfold effP
      rw [if_neg (by omega), if_neg (by omega), if_neg (by omega), if_neg (by omega), if_neg (by omega), if_neg (by omega), if_neg (by omega), if_neg (by omega), if_pos e]
    have g0 := of_decide_eq_false (ht ▸ e)
    refine cond_intro (fun e => L2 true ?_ g0) (fun em => cond_intro (fun e => L2 true ?_ g0) (fun e34 => L2 _ ?_ g0))
    · have e : (api_MemSig.F x.op).1 ≠ 0 := by simpa using e
      have := mi.1 e
      rw [decide_eq_true (by omega)]
    · have := eq_of_beq e; rw [decide_eq_true (by omega)]
    · have em : (api_MemSig.F x.op).1 = 0 := by simpa using em
      have hm : ¬ (40 ≤ x.op ∧ x.op ≤ 62) := fun q => mi.2 q em
      have e34 : ¬ x.op = 34 := by simpa using e34
      by_cases q : x.op = 64
      · rw [decide_eq_true (by omega), q]; rfl
      · rw [decide_eq_false (by omega)]; simpa using q
  refine cond_intro (fun e => L1 _ ?_) (fun e => L1 _ ?_)
  · have e : (api_MemSig.F x.op).1 ≠ 0 := by simpa using e
    have := mi.1 e
    by_cases q : x.op ≥ 54
    · rw [decide_eq_true q, decide_eq_true (by omega)]
    · rw [decide_eq_false q, decide_eq_false (by omega)]
  · have e : (api_MemSig.F x.op).1 = 0 := by simpa using e
    have hm : ¬ (40 ≤ x.op ∧ x.op ≤ 62) := fun q => mi.2 q e
    rw [decide_eq_false (by omega)]
end
end Go.Proofs.Qxb6500321a
