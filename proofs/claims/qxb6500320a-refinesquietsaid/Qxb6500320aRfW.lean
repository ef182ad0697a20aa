/-
  The model's Apply is the program's.
-/
import Derived.Test.Qxb6500320aRfV
set_option linter.unusedSimpArgs false
set_option linter.unusedVariables false
set_option linter.unusedSectionVars false
set_option maxRecDepth 100000
namespace Go.Proofs.Qxb6500320a
open Go Go.Vc

theorem flag01 (c : Bool) : numm_flag.F c = num_flag.F c := rfl
theorem w_op (op k : Int) (h0 : 0 ≤ op) (h1 : op ≤ 191) (hk : 0 ≤ k) (hk2 : k ≤ 191) : IntKind.wrap .i64 (op - k) = op - k := wrap_i64 (by omega) (by omega)
theorem bnd32 (t : Int) (h : t = 127 ∨ t = 125) (a : Nat) (ha : (a : Int) < bnd t) : a < 4294967296 := by
  unfold bnd at ha; rw [if_pos h] at ha; omega
theorem bnd64 (t : Int) (a : Nat) (ha : (a : Int) < bnd t) : a < 18446744073709551616 := by
  unfold bnd at ha; split at ha <;> omega

/-- What is asked of the answer. -/
abbrev AnsR (op a b : Int) (w : World) : Value → World → Prop := fun v w' => v = .tuple #[.int .u64 (ap op a b).1, .int .i64 (ap op a b).2] ∧ w' = w

theorem nx1 (op a b : Int) (R : Value → World → Prop) (w : World) (h : numm_Apply.L2 op a b (decide (op ≥ 70) && decide (op ≤ 79)) R w) : numm_Apply.L1 op a b false R w := by
  refine numm_Apply.step1 _ _ _ _ _ _ ?_
  unfold numm_Apply.V1
  refine cond_false' rfl ?_
  refine cond_intro (fun g => ?_) (fun g => ?_)
  · rw [g, Bool.true_and] at h; exact h
  · rw [g, Bool.false_and] at h; exact h
theorem nx2 (op a b : Int) (R : Value → World → Prop) (w : World) (h : numm_Apply.L3 op a b (decide (op ≥ 81) && decide (op ≤ 90)) R w) : numm_Apply.L2 op a b false R w := by
  refine numm_Apply.step2 _ _ _ _ _ _ ?_
  unfold numm_Apply.V2
  refine cond_false' rfl ?_
  refine cond_intro (fun g => ?_) (fun g => ?_)
  · rw [g, Bool.true_and] at h; exact h
  · rw [g, Bool.false_and] at h; exact h
theorem nx3 (op a b : Int) (R : Value → World → Prop) (w : World) (h : numm_Apply.L4 op a b (decide (op ≥ 91) && decide (op ≤ 96)) R w) : numm_Apply.L3 op a b false R w := by
  refine numm_Apply.step3 _ _ _ _ _ _ ?_
  unfold numm_Apply.V3
  refine cond_false' rfl ?_
  refine cond_intro (fun g => ?_) (fun g => ?_)
  · rw [g, Bool.true_and] at h; exact h
  · rw [g, Bool.false_and] at h; exact h
theorem nx4 (op a b : Int) (R : Value → World → Prop) (w : World) (h : numm_Apply.L5 op a b (decide (op ≥ 97) && decide (op ≤ 102)) R w) : numm_Apply.L4 op a b false R w := by
  refine numm_Apply.step4 _ _ _ _ _ _ ?_
  unfold numm_Apply.V4
  refine cond_false' rfl ?_
  refine cond_intro (fun g => ?_) (fun g => ?_)
  · rw [g, Bool.true_and] at h; exact h
  · rw [g, Bool.false_and] at h; exact h
theorem nx5 (op a b : Int) (R : Value → World → Prop) (w : World) (h : numm_Apply.L6 op a b (decide (op ≥ 103) && decide (op ≤ 105)) R w) : numm_Apply.L5 op a b false R w := by
  refine numm_Apply.step5 _ _ _ _ _ _ ?_
  unfold numm_Apply.V5
  refine cond_false' rfl ?_
  refine cond_intro (fun g => ?_) (fun g => ?_)
  · rw [g, Bool.true_and] at h; exact h
  · rw [g, Bool.false_and] at h; exact h
theorem nx6 (op a b : Int) (R : Value → World → Prop) (w : World) (h : numm_Apply.L7 op a b (decide (op ≥ 106) && decide (op ≤ 120)) R w) : numm_Apply.L6 op a b false R w := by
  refine numm_Apply.step6 _ _ _ _ _ _ ?_
  unfold numm_Apply.V6
  refine cond_false' rfl ?_
  refine cond_intro (fun g => ?_) (fun g => ?_)
  · rw [g, Bool.true_and] at h; exact h
  · rw [g, Bool.false_and] at h; exact h
theorem nx7 (op a b : Int) (R : Value → World → Prop) (w : World) (h : numm_Apply.L8 op a b (decide (op ≥ 121) && decide (op ≤ 123)) R w) : numm_Apply.L7 op a b false R w := by
  refine numm_Apply.step7 _ _ _ _ _ _ ?_
  unfold numm_Apply.V7
  refine cond_false' rfl ?_
  refine cond_intro (fun g => ?_) (fun g => ?_)
  · rw [g, Bool.true_and] at h; exact h
  · rw [g, Bool.false_and] at h; exact h
theorem nx8 (op a b : Int) (R : Value → World → Prop) (w : World) (h : numm_Apply.L9 op a b (decide (op ≥ 124) && decide (op ≤ 138)) R w) : numm_Apply.L8 op a b false R w := by
  refine numm_Apply.step8 _ _ _ _ _ _ ?_
  unfold numm_Apply.V8
  refine cond_false' rfl ?_
  refine cond_intro (fun g => ?_) (fun g => ?_)
  · rw [g, Bool.true_and] at h; exact h
  · rw [g, Bool.false_and] at h; exact h
theorem nx9 (op a b : Int) (R : Value → World → Prop) (w : World) (h : numm_Apply.L10 op a b (decide (op ≥ 139) && decide (op ≤ 145)) R w) : numm_Apply.L9 op a b false R w := by
  refine numm_Apply.step9 _ _ _ _ _ _ ?_
  unfold numm_Apply.V9
  refine cond_false' rfl ?_
  refine cond_intro (fun g => ?_) (fun g => ?_)
  · rw [g, Bool.true_and] at h; exact h
  · rw [g, Bool.false_and] at h; exact h
theorem nx10 (op a b : Int) (R : Value → World → Prop) (w : World) (h : numm_Apply.L11 op a b (decide (op ≥ 146) && decide (op ≤ 152)) R w) : numm_Apply.L10 op a b false R w := by
  refine numm_Apply.step10 _ _ _ _ _ _ ?_
  unfold numm_Apply.V10
  refine cond_false' rfl ?_
  refine cond_intro (fun g => ?_) (fun g => ?_)
  · rw [g, Bool.true_and] at h; exact h
  · rw [g, Bool.false_and] at h; exact h
theorem nx11 (op a b : Int) (R : Value → World → Prop) (w : World) (h : numm_Apply.L12 op a b (decide (op ≥ 153) && decide (op ≤ 159)) R w) : numm_Apply.L11 op a b false R w := by
  refine numm_Apply.step11 _ _ _ _ _ _ ?_
  unfold numm_Apply.V11
  refine cond_false' rfl ?_
  refine cond_intro (fun g => ?_) (fun g => ?_)
  · rw [g, Bool.true_and] at h; exact h
  · rw [g, Bool.false_and] at h; exact h
theorem nx12 (op a b : Int) (R : Value → World → Prop) (w : World) (h : numm_Apply.L13 op a b (decide (op ≥ 160) && decide (op ≤ 166)) R w) : numm_Apply.L12 op a b false R w := by
  refine numm_Apply.step12 _ _ _ _ _ _ ?_
  unfold numm_Apply.V12
  refine cond_false' rfl ?_
  refine cond_intro (fun g => ?_) (fun g => ?_)
  · rw [g, Bool.true_and] at h; exact h
  · rw [g, Bool.false_and] at h; exact h

theorem rel_z32 (a b : Int) : num_rel32.F 69 a b = (a == 0) := rfl
theorem rel_z64 (a b : Int) : num_rel64.F 80 a b = (a == 0) := rfl

theorem at2 (op : Int) (h0 : 70 ≤ op) (h1 : op ≤ 79) (a b : Nat) (ha : a < 4294967296) (hb : b < 4294967296) (w : World) : numm_Apply.L2 op a b true (AnsR op a b w) w := by
  refine numm_Apply.step2 _ _ _ _ _ _ ?_
  unfold numm_Apply.V2
  refine cond_true' rfl ?_
  rw [w_op op 70 (by omega) (by omega) (by decide) (by decide)]
  refine Runs.pure_bind (iCmp32 op h0 h1 a b ha hb w) ⟨_, rfl, ?_, rfl⟩
  have e : ap op a b = (num_flag.F (num_rel32.F op a b), 0) := by
    rw [ap_rel32 op a b (by omega) (by omega), wrap32_n a ha, wrap32_n b hb]
  rw [e]

theorem at3 (op : Int) (h0 : 81 ≤ op) (h1 : op ≤ 90) (a b : Nat) (ha : a < 18446744073709551616) (hb : b < 18446744073709551616) (w : World) : numm_Apply.L3 op a b true (AnsR op a b w) w := by
  refine numm_Apply.step3 _ _ _ _ _ _ ?_
  unfold numm_Apply.V3
  refine cond_true' rfl ?_
  rw [w_op op 81 (by omega) (by omega) (by decide) (by decide)]
  refine Runs.pure_bind (iCmp64 op h0 h1 a b ha hb w) ⟨_, rfl, ?_, rfl⟩
  have e : ap op a b = (num_flag.F (num_rel64.F op a b), 0) := by
    rw [ap_rel64 op a b (by omega) (by omega)]
  rw [e]

theorem at4 (op : Int) (h0 : 91 ≤ op) (h1 : op ≤ 96) (a b : Nat) (ha : a < 4294967296) (hb : b < 4294967296) (w : World) : numm_Apply.L4 op a b true (AnsR op a b w) w := by
  refine numm_Apply.step4 _ _ _ _ _ _ ?_
  unfold numm_Apply.V4
  refine cond_true' rfl ?_
  rw [w_op op 91 (by omega) (by omega) (by decide) (by decide)]
  refine Runs.pure_bind (fCmp32 op h0 h1 a b ha hb w) ⟨_, rfl, ?_, rfl⟩
  have e : ap op a b = (num_flag.F (num_relF32.F op a b), 0) := by
    rw [ap_relF32 op a b (by omega) (by omega), wrap32_n a ha, wrap32_n b hb, Int.toNat_natCast, Int.toNat_natCast]
  rw [e]

theorem at5 (op : Int) (h0 : 97 ≤ op) (h1 : op ≤ 102) (a b : Nat) (ha : a < 18446744073709551616) (hb : b < 18446744073709551616) (w : World) : numm_Apply.L5 op a b true (AnsR op a b w) w := by
  refine numm_Apply.step5 _ _ _ _ _ _ ?_
  unfold numm_Apply.V5
  refine cond_true' rfl ?_
  rw [w_op op 97 (by omega) (by omega) (by decide) (by decide)]
  refine Runs.pure_bind (fCmp64 op h0 h1 a b ha hb w) ⟨_, rfl, ?_, rfl⟩
  have e : ap op a b = (num_flag.F (num_relF64.F op a b), 0) := by
    rw [ap_relF64 op a b (by omega) (by omega), Int.toNat_natCast, Int.toNat_natCast]
  rw [e]

theorem at6 (op : Int) (h0 : 103 ≤ op) (h1 : op ≤ 105) (a b : Nat) (ha : a < 4294967296) (hb : b < 4294967296) (w : World) : numm_Apply.L6 op a b true (AnsR op a b w) w := by
  refine numm_Apply.step6 _ _ _ _ _ _ ?_
  unfold numm_Apply.V6
  refine cond_true' rfl ?_
  rw [w_op op 103 (by omega) (by omega) (by decide) (by decide)]
  refine Runs.pure_bind (intUn32 op h0 h1 a ha w) ⟨_, rfl, ?_, rfl⟩
  have hs : (sg op).1 = 1 := by
    have : op = 103 ∨ op = 104 ∨ op = 105 := by omega
    rcases this with rfl | rfl | rfl <;> rfl
  rw [ap_un op a b 0 (by omega) (by omega) hs, unOk32 a ⟨by omega, by omega⟩ op (by omega)]

theorem at7 (op : Int) (h0 : 106 ≤ op) (h1 : op ≤ 120) (a b : Nat) (ha : a < 4294967296) (hb : b < 4294967296) (w : World) : numm_Apply.L7 op a b true (AnsR op a b w) w := by
  refine numm_Apply.step7 _ _ _ _ _ _ ?_
  unfold numm_Apply.V7
  refine cond_true' rfl ?_
  rw [w_op op 106 (by omega) (by omega) (by decide) (by decide)]
  exact Runs.pure_bind (iBin32 op h0 h1 a b ha hb w) ⟨_, _, rfl, rfl, rfl⟩

theorem at8 (op : Int) (h0 : 121 ≤ op) (h1 : op ≤ 123) (a b : Nat) (ha : a < 18446744073709551616) (hb : b < 18446744073709551616) (w : World) : numm_Apply.L8 op a b true (AnsR op a b w) w := by
  refine numm_Apply.step8 _ _ _ _ _ _ ?_
  unfold numm_Apply.V8
  refine cond_true' rfl ?_
  rw [w_op op 121 (by omega) (by omega) (by decide) (by decide)]
  refine Runs.pure_bind (intUn64 op h0 h1 a ha w) ⟨_, rfl, ?_, rfl⟩
  have hs : (sg op).1 = 1 := by
    have : op = 121 ∨ op = 122 ∨ op = 123 := by omega
    rcases this with rfl | rfl | rfl <;> rfl
  rw [ap_un op a b 0 (by omega) (by omega) hs, unOk64 a op (by omega)]

theorem at9 (op : Int) (h0 : 124 ≤ op) (h1 : op ≤ 138) (a b : Nat) (ha : a < 18446744073709551616) (hb : b < 18446744073709551616) (w : World) : numm_Apply.L9 op a b true (AnsR op a b w) w := by
  refine numm_Apply.step9 _ _ _ _ _ _ ?_
  unfold numm_Apply.V9
  refine cond_true' rfl ?_
  rw [w_op op 124 (by omega) (by omega) (by decide) (by decide)]
  exact Runs.pure_bind (iBin64 op h0 h1 a b ha hb w) ⟨_, _, rfl, rfl, rfl⟩

theorem at10 (op : Int) (h0 : 139 ≤ op) (h1 : op ≤ 145) (a b : Nat) (ha : a < 4294967296) (hb : b < 4294967296) (w : World) : numm_Apply.L10 op a b true (AnsR op a b w) w := by
  refine numm_Apply.step10 _ _ _ _ _ _ ?_
  unfold numm_Apply.V10
  refine cond_true' rfl ?_
  rw [w_op op 139 (by omega) (by omega) (by decide) (by decide)]
  refine Runs.pure_bind (fltUn32 op h0 h1 a ha w) ⟨_, rfl, ?_, rfl⟩
  have hs : (sg op).1 = 1 := by
    have : op = 139 ∨ op = 140 ∨ op = 141 ∨ op = 142 ∨ op = 143 ∨ op = 144 ∨ op = 145 := by omega
    rcases this with rfl | rfl | rfl | rfl | rfl | rfl | rfl <;> rfl
  rw [ap_un op a b 0 (by omega) (by omega) hs]
  have e : ap op a 0 = (fl32 op a 0, 0) := by
    rw [ap_flt32 op a 0 (by omega) (by omega), wrap32_n a ha]
    have e0 : IntKind.wrap .u32 0 = 0 := by decide
    rw [e0, wrap_small _ (fl32_rng op a 0 (by omega) (by omega))]
  rw [e]

theorem at11 (op : Int) (h0 : 146 ≤ op) (h1 : op ≤ 152) (a b : Nat) (ha : a < 4294967296) (hb : b < 4294967296) (w : World) : numm_Apply.L11 op a b true (AnsR op a b w) w := by
  refine numm_Apply.step11 _ _ _ _ _ _ ?_
  unfold numm_Apply.V11
  refine cond_true' rfl ?_
  rw [w_op op 146 (by omega) (by omega) (by decide) (by decide)]
  refine Runs.pure_bind (fBin32 op h0 h1 a b ha hb w) ⟨_, rfl, ?_, rfl⟩
  have e : ap op a b = (fl32 op a b, 0) := by
    rw [ap_flt32 op a b (by omega) (by omega), wrap32_n a ha, wrap32_n b hb]
    rw [wrap_small _ (fl32_rng op a b (by omega) (by omega))]
  rw [e]

theorem at12 (op : Int) (h0 : 153 ≤ op) (h1 : op ≤ 159) (a b : Nat) (ha : a < 18446744073709551616) (hb : b < 18446744073709551616) (w : World) : numm_Apply.L12 op a b true (AnsR op a b w) w := by
  refine numm_Apply.step12 _ _ _ _ _ _ ?_
  unfold numm_Apply.V12
  refine cond_true' rfl ?_
  rw [w_op op 153 (by omega) (by omega) (by decide) (by decide)]
  refine Runs.pure_bind (fltUn64 op h0 h1 a ha w) ⟨_, rfl, ?_, rfl⟩
  have hs : (sg op).1 = 1 := by
    have : op = 153 ∨ op = 154 ∨ op = 155 ∨ op = 156 ∨ op = 157 ∨ op = 158 ∨ op = 159 := by omega
    rcases this with rfl | rfl | rfl | rfl | rfl | rfl | rfl <;> rfl
  rw [ap_un op a b 0 (by omega) (by omega) hs]
  rw [ap_flt64 op a 0 (by omega) (by omega)]

theorem at13 (op : Int) (h0 : 160 ≤ op) (h1 : op ≤ 166) (a b : Nat) (ha : a < 18446744073709551616) (hb : b < 18446744073709551616) (w : World) : numm_Apply.L13 op a b true (AnsR op a b w) w := by
  refine numm_Apply.step13 _ _ _ _ _ _ ?_
  unfold numm_Apply.V13
  refine cond_true' rfl ?_
  rw [w_op op 160 (by omega) (by omega) (by decide) (by decide)]
  refine Runs.pure_bind (fBin64 op h0 h1 a b ha hb w) ⟨_, rfl, ?_, rfl⟩
  rw [ap_flt64 op a b (by omega) (by omega)]

theorem cv_all (op : Int) (h0 : 167 ≤ op) (h1 : op ≤ 191) (a : Nat) (ha : (a : Int) < bnd (sg op).2.1) (w : World) : Runs Try.prog numm_convert.id #[.int .i64 op, .int .u64 a] w fun v w' => v = .tuple #[.int .u64 (ap op a 0).1, .int .i64 (ap op a 0).2] ∧ w' = w := by
  rcases conv_cases op h0 h1 with rfl | rfl | rfl | rfl | rfl | rfl | rfl | rfl | rfl | rfl | rfl | rfl | rfl | rfl | rfl | rfl | rfl | rfl | rfl | rfl | rfl | rfl | rfl | rfl | rfl
  · exact cvt167 a (bnd64 _ a ha) w
  · exact cvt168 a (bnd32 _ (by decide) a ha) w
  · exact cvt169 a (bnd32 _ (by decide) a ha) w
  · exact cvt170 a (bnd64 _ a ha) w
  · exact cvt171 a (bnd64 _ a ha) w
  · exact cvt172 a (bnd32 _ (by decide) a ha) w
  · exact cvt173 a (bnd32 _ (by decide) a ha) w
  · exact cvt174 a (bnd32 _ (by decide) a ha) w
  · exact cvt175 a (bnd32 _ (by decide) a ha) w
  · exact cvt176 a (bnd64 _ a ha) w
  · exact cvt177 a (bnd64 _ a ha) w
  · exact cvt178 a (bnd32 _ (by decide) a ha) w
  · exact cvt179 a (bnd32 _ (by decide) a ha) w
  · exact cvt180 a (bnd64 _ a ha) w
  · exact cvt181 a (bnd64 _ a ha) w
  · exact cvt182 a (bnd64 _ a ha) w
  · exact cvt183 a (bnd32 _ (by decide) a ha) w
  · exact cvt184 a (bnd32 _ (by decide) a ha) w
  · exact cvt185 a (bnd64 _ a ha) w
  · exact cvt186 a (bnd64 _ a ha) w
  · exact cvt187 a (bnd32 _ (by decide) a ha) w
  · exact cvt188 a (bnd32 _ (by decide) a ha) w
  · exact cvt189 a (bnd64 _ a ha) w
  · exact cvt190 a (bnd32 _ (by decide) a ha) w
  · exact cvt191 a (bnd64 _ a ha) w

theorem at14 (op : Int) (h0 : 167 ≤ op) (h1 : op ≤ 191) (a b : Nat) (ha : (a : Int) < bnd (sg op).2.1) (w : World) : numm_Apply.L13 op a b false (AnsR op a b w) w := by
  refine numm_Apply.step13 _ _ _ _ _ _ ?_
  unfold numm_Apply.V13
  refine cond_false' rfl ?_
  refine Runs.pure_bind (cv_all op h0 h1 a ha w) ⟨_, _, rfl, ?_, rfl⟩
  have hs : (sg op).1 = 1 := by
    rcases conv_cases op h0 h1 with rfl | rfl | rfl | rfl | rfl | rfl | rfl | rfl | rfl | rfl | rfl | rfl | rfl | rfl | rfl | rfl | rfl | rfl | rfl | rfl | rfl | rfl | rfl | rfl | rfl <;> rfl
  rw [ap_un op a b 0 (by omega) (by omega) hs]

theorem sg_lo (op : Int) (h : op ≤ 79) : (sg op).2.1 = 127 := by unfold sg; rw [if_pos h]
theorem sg_f32 (op : Int) (h0 : 91 ≤ op) (h : op ≤ 96) : (sg op).2.1 = 125 := by unfold sg; rw [if_neg (by omega), if_neg (by omega), if_pos h]
theorem sg_i32 (op : Int) (h0 : 103 ≤ op) (h : op ≤ 120) : (sg op).2.1 = 127 := by unfold sg; rw [if_neg (by omega), if_neg (by omega), if_neg (by omega), if_neg (by omega), if_pos h]
theorem sg_o32 (op : Int) (h0 : 139 ≤ op) (h : op ≤ 152) : (sg op).2.1 = 125 := by unfold sg; rw [if_neg (by omega), if_neg (by omega), if_neg (by omega), if_neg (by omega), if_neg (by omega), if_neg (by omega), if_pos h]

theorem at1 (op : Int) (h0 : 69 ≤ op) (h1 : op ≤ 191) (a b : Nat) (ha : (a : Int) < bnd (sg op).2.1) (hb : (b : Int) < bnd (sg op).2.1) (w : World) : numm_Apply.L1 op a b (op == 69 || op == 80) (AnsR op a b w) w := by
  have a64 := bnd64 _ a ha
  have b64 := bnd64 _ b hb
  by_cases g1 : op = 69 ∨ op = 80
  · have e1 : (op == 69 || op == 80) = true := by
      rcases g1 with rfl | rfl <;> rfl
    rw [e1]
    refine numm_Apply.step1 _ _ _ _ _ _ ?_
    unfold numm_Apply.V1
    refine cond_true' rfl ?_
    refine Runs.pure_bind (numm_flag.pure _ w) ⟨_, rfl, ?_, rfl⟩
    rcases g1 with rfl | rfl
    · have a32 := bnd32 127 (.inl rfl) a ha
      have b32 := bnd32 127 (.inl rfl) b hb
      rw [ap_rel32 69 a b (by decide) (by decide), wrap32_n a a32, wrap32_n b b32, rel_z32, flag01]
    · rw [ap_rel64 80 a b (by decide) (by decide), rel_z64, flag01]
  · have e1 : (op == 69 || op == 80) = false := by
      rw [Bool.or_eq_false_iff]
      exact ⟨by rw [beq_eq_false_iff_ne]; omega, by rw [beq_eq_false_iff_ne]; omega⟩
    rw [e1]
    refine nx1 _ _ _ _ _ ?_
    by_cases g2 : 70 ≤ op ∧ op ≤ 79
    · rw [decide_eq_true (show op ≥ 70 from g2.1), decide_eq_true g2.2]
      have hs := sg_lo op (by omega)
      exact at2 op g2.1 g2.2 a b (bnd32 _ (.inl hs) a ha) (bnd32 _ (.inl hs) b hb) w
    have e2 : (decide (op ≥ 70) && decide (op ≤ 79)) = false := by
      rw [Bool.and_eq_false_iff, decide_eq_false_iff_not, decide_eq_false_iff_not]; omega
    rw [e2]
    refine nx2 _ _ _ _ _ ?_
    by_cases g3 : 81 ≤ op ∧ op ≤ 90
    · rw [decide_eq_true (show op ≥ 81 from g3.1), decide_eq_true g3.2]
      exact at3 op g3.1 g3.2 a b a64 b64 w
    have e3 : (decide (op ≥ 81) && decide (op ≤ 90)) = false := by
      rw [Bool.and_eq_false_iff, decide_eq_false_iff_not, decide_eq_false_iff_not]; omega
    rw [e3]
    refine nx3 _ _ _ _ _ ?_
    by_cases g4 : 91 ≤ op ∧ op ≤ 96
    · rw [decide_eq_true (show op ≥ 91 from g4.1), decide_eq_true g4.2]
      have hs := sg_f32 op (by omega) (by omega)
      exact at4 op g4.1 g4.2 a b (bnd32 _ (.inr hs) a ha) (bnd32 _ (.inr hs) b hb) w
    have e4 : (decide (op ≥ 91) && decide (op ≤ 96)) = false := by
      rw [Bool.and_eq_false_iff, decide_eq_false_iff_not, decide_eq_false_iff_not]; omega
    rw [e4]
    refine nx4 _ _ _ _ _ ?_
    by_cases g5 : 97 ≤ op ∧ op ≤ 102
    · rw [decide_eq_true (show op ≥ 97 from g5.1), decide_eq_true g5.2]
      exact at5 op g5.1 g5.2 a b a64 b64 w
    have e5 : (decide (op ≥ 97) && decide (op ≤ 102)) = false := by
      rw [Bool.and_eq_false_iff, decide_eq_false_iff_not, decide_eq_false_iff_not]; omega
    rw [e5]
    refine nx5 _ _ _ _ _ ?_
    by_cases g6 : 103 ≤ op ∧ op ≤ 105
    · rw [decide_eq_true (show op ≥ 103 from g6.1), decide_eq_true g6.2]
      have hs := sg_i32 op (by omega) (by omega)
      exact at6 op g6.1 g6.2 a b (bnd32 _ (.inl hs) a ha) (bnd32 _ (.inl hs) b hb) w
    have e6 : (decide (op ≥ 103) && decide (op ≤ 105)) = false := by
      rw [Bool.and_eq_false_iff, decide_eq_false_iff_not, decide_eq_false_iff_not]; omega
    rw [e6]
    refine nx6 _ _ _ _ _ ?_
    by_cases g7 : 106 ≤ op ∧ op ≤ 120
    · rw [decide_eq_true (show op ≥ 106 from g7.1), decide_eq_true g7.2]
      have hs := sg_i32 op (by omega) (by omega)
      exact at7 op g7.1 g7.2 a b (bnd32 _ (.inl hs) a ha) (bnd32 _ (.inl hs) b hb) w
    have e7 : (decide (op ≥ 106) && decide (op ≤ 120)) = false := by
      rw [Bool.and_eq_false_iff, decide_eq_false_iff_not, decide_eq_false_iff_not]; omega
    rw [e7]
    refine nx7 _ _ _ _ _ ?_
    by_cases g8 : 121 ≤ op ∧ op ≤ 123
    · rw [decide_eq_true (show op ≥ 121 from g8.1), decide_eq_true g8.2]
      exact at8 op g8.1 g8.2 a b a64 b64 w
    have e8 : (decide (op ≥ 121) && decide (op ≤ 123)) = false := by
      rw [Bool.and_eq_false_iff, decide_eq_false_iff_not, decide_eq_false_iff_not]; omega
    rw [e8]
    refine nx8 _ _ _ _ _ ?_
    by_cases g9 : 124 ≤ op ∧ op ≤ 138
    · rw [decide_eq_true (show op ≥ 124 from g9.1), decide_eq_true g9.2]
      exact at9 op g9.1 g9.2 a b a64 b64 w
    have e9 : (decide (op ≥ 124) && decide (op ≤ 138)) = false := by
      rw [Bool.and_eq_false_iff, decide_eq_false_iff_not, decide_eq_false_iff_not]; omega
    rw [e9]
    refine nx9 _ _ _ _ _ ?_
    by_cases g10 : 139 ≤ op ∧ op ≤ 145
    · rw [decide_eq_true (show op ≥ 139 from g10.1), decide_eq_true g10.2]
      have hs := sg_o32 op (by omega) (by omega)
      exact at10 op g10.1 g10.2 a b (bnd32 _ (.inr hs) a ha) (bnd32 _ (.inr hs) b hb) w
    have e10 : (decide (op ≥ 139) && decide (op ≤ 145)) = false := by
      rw [Bool.and_eq_false_iff, decide_eq_false_iff_not, decide_eq_false_iff_not]; omega
    rw [e10]
    refine nx10 _ _ _ _ _ ?_
    by_cases g11 : 146 ≤ op ∧ op ≤ 152
    · rw [decide_eq_true (show op ≥ 146 from g11.1), decide_eq_true g11.2]
      have hs := sg_o32 op (by omega) (by omega)
      exact at11 op g11.1 g11.2 a b (bnd32 _ (.inr hs) a ha) (bnd32 _ (.inr hs) b hb) w
    have e11 : (decide (op ≥ 146) && decide (op ≤ 152)) = false := by
      rw [Bool.and_eq_false_iff, decide_eq_false_iff_not, decide_eq_false_iff_not]; omega
    rw [e11]
    refine nx11 _ _ _ _ _ ?_
    by_cases g12 : 153 ≤ op ∧ op ≤ 159
    · rw [decide_eq_true (show op ≥ 153 from g12.1), decide_eq_true g12.2]
      exact at12 op g12.1 g12.2 a b a64 b64 w
    have e12 : (decide (op ≥ 153) && decide (op ≤ 159)) = false := by
      rw [Bool.and_eq_false_iff, decide_eq_false_iff_not, decide_eq_false_iff_not]; omega
    rw [e12]
    refine nx12 _ _ _ _ _ ?_
    by_cases g13 : 160 ≤ op ∧ op ≤ 166
    · rw [decide_eq_true (show op ≥ 160 from g13.1), decide_eq_true g13.2]
      exact at13 op g13.1 g13.2 a b a64 b64 w
    have e13 : (decide (op ≥ 160) && decide (op ≤ 166)) = false := by
      rw [Bool.and_eq_false_iff, decide_eq_false_iff_not, decide_eq_false_iff_not]; omega
    rw [e13]
    exact at14 op (by omega) h1 a b ha w

theorem cut_low (t : Int) (a : Nat) (ha : a < 18446744073709551616) : ∃ c : Nat, api_Cut.F t a = (c : Int) ∧ (c : Int) < bnd t ∧ ((t = 127 ∨ t = 125) → IntKind.wrap .u32 (a : Int) = IntKind.wrap .u32 (c : Int)) ∧ (¬ (t = 127 ∨ t = 125) → c = a) := by
  have e1 : bAnd .u64 (a : Int) 4294967295 = ((a % 4294967296 : Nat) : Int) := by
    have e : bAnd .u64 (a : Int) 4294967295 = ((a &&& 4294967295 : Nat) : Int) := bAnd64_n a 4294967295 ha (by decide)
    have e2 : a &&& 4294967295 = a % 4294967296 := Nat.and_two_pow_sub_one_eq_mod a 32
    rw [e, e2]
  by_cases h : t = 127 ∨ t = 125
  · refine ⟨a % 4294967296, ?_, ?_, fun _ => ?_, fun g => absurd h g⟩
    · unfold api_Cut.F api_Cut.F1
      rcases h with rfl | rfl
      · exact e1
      · exact e1
    · unfold bnd; rw [if_pos h]; omega
    · rw [wrap_u32_mod, wrap_u32_mod]; omega
  · refine ⟨a, ?_, ?_, fun g => absurd g h, fun _ => rfl⟩
    · unfold api_Cut.F api_Cut.F1
      have h1 : (t == (127 : Int)) = false := by rw [beq_eq_false_iff_ne]; exact fun g => h (.inl g)
      have h2 : (t == (125 : Int)) = false := by rw [beq_eq_false_iff_ne]; exact fun g => h (.inr g)
      rw [h1, h2]; rfl
    · unfold bnd; rw [if_neg h]; omega

theorem sg_some (op : Int) (h0 : 69 ≤ op) (h1 : op ≤ 191) : ((sg op).1 == (0 : Int)) = false := by
  have : (sg op).1 = 1 ∨ (sg op).1 = 2 := by
    by_cases g : 167 ≤ op
    · left
      rcases conv_cases op g h1 with rfl | rfl | rfl | rfl | rfl | rfl | rfl | rfl | rfl | rfl | rfl | rfl | rfl | rfl | rfl | rfl | rfl | rfl | rfl | rfl | rfl | rfl | rfl | rfl | rfl <;> rfl
    · unfold sg
      repeat' split
      all_goals first | (left; rfl) | (right; rfl) | omega
  rw [beq_eq_false_iff_ne]
  rcases this with h | h <;> rw [h] <;> decide

theorem mApply_spec (op : Int) (a b : Nat) (ha : a < 18446744073709551616) (hb : b < 18446744073709551616) (w : World) :
    Runs Try.prog numm_Apply.id #[.int .i64 op, .int .u64 a, .int .u64 b] w (AnsR op a b w) := by
  refine numm_Apply.enter _ _ _ _ _ ?_
  unfold numm_Apply.V
  refine Runs.pure_bind (api_NumSig.pure _ w) ⟨_, _, _, rfl, ?_⟩
  by_cases h : op < 69 ∨ 191 < op
  · rw [sig_none op h]
    refine cond_true' rfl ⟨?_, rfl⟩
    rw [ap_none op a b h]
  · have h0 : 69 ≤ op := by omega
    have h1 : op ≤ 191 := by omega
    rw [sig_eq op h0 h1]
    refine cond_false' (sg_some op h0 h1) ?_
    obtain ⟨c, c1, c2, c3, c4⟩ := cut_low (sg op).2.1 a ha
    obtain ⟨d, d1, d2, d3, d4⟩ := cut_low (sg op).2.1 b hb
    refine Runs.pure_bind (api_Cut.pure _ _ w) ⟨_, rfl, Runs.pure_bind (api_Cut.pure _ _ w) ⟨_, rfl, ?_⟩⟩
    rw [c1, d1]
    have e : ap op a b = ap op c d := by
      by_cases ht : (sg op).2.1 = 127 ∨ (sg op).2.1 = 125
      · exact ap_low op a b c d h0 h1 ht (c3 ht) (d3 ht)
      · rw [c4 ht, d4 ht]
    have key := at1 op h0 h1 c d c2 d2 w
    have eR : AnsR op a b w = AnsR op c d w := by unfold AnsR; rw [e]
    rw [eR]
    refine cond_intro (fun g => ?_) (fun g => ?_)
    · rw [g, Bool.true_or] at key; exact key
    · rw [g, Bool.false_or] at key; exact key

end Go.Proofs.Qxb6500320a
