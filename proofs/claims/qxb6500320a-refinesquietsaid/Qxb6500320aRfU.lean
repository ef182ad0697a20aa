/-
  The model's operators on one float; its comparisons and its operators on two floats as calls.
-/
import Derived.Test.Qxb6500320aRfT
set_option linter.unusedSimpArgs false
set_option linter.unusedVariables false
set_option linter.unusedSectionVars false
set_option maxRecDepth 100000
namespace Go.Proofs.Qxb6500320a
open Go Go.Vc

theorem root_num (d : Nat) (x r : Ieee.Datum) (h : x.root d = some r) : r.isNaN = false := by
  cases x with
  | nan s t => cases h
  | infinity s =>
    cases s
    · simp only [Ieee.Datum.root] at h
      injection h with h; subst h; rfl
    · cases h
  | number s m i =>
    unfold Ieee.Datum.root at h
    simp only at h
    by_cases hm : m = 0
    · rw [if_pos hm] at h
      injection h with h; subst h; rfl
    · rw [if_neg hm] at h
      cases s
      · rw [if_neg (by decide)] at h
        injection h with h; subst h; rfl
      · cases h

theorem rt64_once (x : Nat) : ar64 (Ieee.double.sqrt x) = (Ieee.double.sqrt x).getD 9221120237041090560 := by
  have e : Ieee.double.sqrt x = ((Ieee.double.read x).root (Ieee.double.fractionBits + 2)).map Ieee.double.write := rfl
  rw [e]
  exact ar64_map _ (fun r hr => root_num _ _ r hr)

theorem fltUn32 (op : Int) (h0 : 139 ≤ op) (h1 : op ≤ 145) (a : Nat) (ha : a < 4294967296) (w : World) :
    Runs Try.prog numm_fltUn.id #[.int .i64 (op - 139), .int .i64 32, .int .u64 a] w fun v w' => v = .int .u64 (fl32 op a 0) ∧ w' = w := by
  refine numm_fltUn.enter _ _ _ _ _ ?_
  unfold numm_fltUn.V
  have hc : op = 139 ∨ op = 140 ∨ op = 145 ∨ (op - 139 = 2 ∨ op - 139 = 3 ∨ op - 139 = 4 ∨ op - 139 = 5) := by omega
  rcases hc with rfl | rfl | rfl | hk
  · refine cond_true' (by decide) ?_
    refine Runs.pure_bind (numm_top.pure _ w fm32.topP) ⟨_, rfl, ?_, rfl⟩
    rw [fm32.andTop a (by omega), rung32]
    have e : fl32 139 a 0 = bAndNot .u32 (a : Int) 2147483648 := rfl
    rw [e, andnotu32 a ha]
  · refine cond_false' (by decide) (cond_true' (by decide) ?_)
    refine Runs.pure_bind (numm_top.pure _ w fm32.topP) ⟨_, rfl, ?_, rfl⟩
    have e : fl32 140 a 0 = bXor .u32 (a : Int) 2147483648 := rfl
    have q1 : bXor .u32 (a : Int) 2147483648 = ((a ^^^ 2147483648 : Nat) : Int) := bXor_n .u32 rfl a 2147483648 ha (by decide)
    have q2 : bXor .u64 (a : Int) 2147483648 = ((a ^^^ 2147483648 : Nat) : Int) := bXor_n .u64 rfl a 2147483648 (Nat.lt_trans ha (by decide)) (by decide)
    have q3 : ((Ieee.single.signWeight : Nat) : Int) = 2147483648 := by rw [sw32]; rfl
    rw [e, q1, fm32.topF, q3, q2]
  · refine cond_false' (by decide) (cond_false' (by decide) (cond_true' (by decide) ?_))
    refine Runs.pure_bind (fm32.sqrt_spec a ha w) ⟨_, rfl, ?_, rfl⟩
    have e : fl32 145 a 0 = ((rt32 a : Nat) : Int) := rfl
    rw [e, rt32_once a ha]
    rfl
  · have z0 : ((op - 139) == (0 : Int)) = false := by rw [beq_eq_false_iff_ne]; omega
    have z1 : ((op - 139) == (1 : Int)) = false := by rw [beq_eq_false_iff_ne]; omega
    have z6 : ((op - 139) == (6 : Int)) = false := by rw [beq_eq_false_iff_ne]; omega
    refine cond_false' z0 (cond_false' z1 (cond_false' z6 ?_))
    obtain ⟨t1, t2⟩ := wh32 (op - 139) hk a ha
    refine Runs.pure_bind (numm_whole.pure _ _ _ w t2) ⟨_, rfl, ?_, rfl⟩
    rw [t1, show 139 + (op - 139) = op by omega]

theorem fltUn64 (op : Int) (h0 : 153 ≤ op) (h1 : op ≤ 159) (a : Nat) (ha : a < 18446744073709551616) (w : World) :
    Runs Try.prog numm_fltUn.id #[.int .i64 (op - 153), .int .i64 64, .int .u64 a] w fun v w' => v = .int .u64 (fl64 op a 0) ∧ w' = w := by
  refine numm_fltUn.enter _ _ _ _ _ ?_
  unfold numm_fltUn.V
  have hc : op = 153 ∨ op = 154 ∨ op = 159 ∨ (op - 153 = 2 ∨ op - 153 = 3 ∨ op - 153 = 4 ∨ op - 153 = 5) := by omega
  rcases hc with rfl | rfl | rfl | hk
  · refine cond_true' (by decide) ?_
    refine Runs.pure_bind (numm_top.pure _ w fm64.topP) ⟨_, rfl, ?_, rfl⟩
    rw [fm64.andTop a (by omega), rung64]
    have e : fl64 153 a 0 = bAndNot .u64 (a : Int) 9223372036854775808 := rfl
    rw [e, andnot64 a ha]
  · refine cond_false' (by decide) (cond_true' (by decide) ?_)
    refine Runs.pure_bind (numm_top.pure _ w fm64.topP) ⟨_, rfl, ?_, rfl⟩
    have e : fl64 154 a 0 = bXor .u64 (a : Int) 9223372036854775808 := rfl
    have q3 : ((Ieee.double.signWeight : Nat) : Int) = 9223372036854775808 := by rw [sw64]; rfl
    rw [e, fm64.topF, q3]
  · refine cond_false' (by decide) (cond_false' (by decide) (cond_true' (by decide) ?_))
    refine Runs.pure_bind (fm64.sqrt_spec a ha w) ⟨_, rfl, ?_, rfl⟩
    have e : fl64 159 a 0 = ((ar64 (Ieee.double.sqrt a) : Nat) : Int) := rfl
    rw [e, rt64_once a]
    rfl
  · have z0 : ((op - 153) == (0 : Int)) = false := by rw [beq_eq_false_iff_ne]; omega
    have z1 : ((op - 153) == (1 : Int)) = false := by rw [beq_eq_false_iff_ne]; omega
    have z6 : ((op - 153) == (6 : Int)) = false := by rw [beq_eq_false_iff_ne]; omega
    refine cond_false' z0 (cond_false' z1 (cond_false' z6 ?_))
    obtain ⟨t1, t2⟩ := wh64 (op - 153) hk a ha
    refine Runs.pure_bind (numm_whole.pure _ _ _ w t2) ⟨_, rfl, ?_, rfl⟩
    rw [t1, show 153 + (op - 153) = op by omega]

theorem fBin32 (op : Int) (h0 : 146 ≤ op) (h1 : op ≤ 152) (a b : Nat) (ha : a < 4294967296) (hb : b < 4294967296) (w : World) :
    Runs Try.prog numm_fltBin.id #[.int .i64 (op - 146), .int .i64 32, .int .u64 a, .int .u64 b] w fun v w' => v = .int .u64 (fl32 op a b) ∧ w' = w := by
  rw [← fbin32 op h0 h1 a b ha hb]
  exact fm32.fltBin_spec (op - 146) (by omega) (by omega) a b ha hb w
theorem fBin64 (op : Int) (h0 : 160 ≤ op) (h1 : op ≤ 166) (a b : Nat) (ha : a < 18446744073709551616) (hb : b < 18446744073709551616) (w : World) :
    Runs Try.prog numm_fltBin.id #[.int .i64 (op - 160), .int .i64 64, .int .u64 a, .int .u64 b] w fun v w' => v = .int .u64 (fl64 op a b) ∧ w' = w := by
  rw [← fbin64 op h0 h1 a b ha hb]
  exact fm64.fltBin_spec (op - 160) (by omega) (by omega) a b ha hb w
theorem fCmp32 (op : Int) (h0 : 91 ≤ op) (h1 : op ≤ 96) (a b : Nat) (ha : a < 4294967296) (hb : b < 4294967296) (w : World) :
    Runs Try.prog numm_fltCmp.id #[.int .i64 (op - 91), .int .i64 32, .int .u64 a, .int .u64 b] w fun v w' => v = .int .u64 (num_flag.F (num_relF32.F op a b)) ∧ w' = w := by
  rw [← fltCmp32 op h0 h1 a b ha hb]
  exact numm_fltCmp.pure _ _ _ _ w (fm32.fltCmpP _ _ _)
theorem fCmp64 (op : Int) (h0 : 97 ≤ op) (h1 : op ≤ 102) (a b : Nat) (ha : a < 18446744073709551616) (hb : b < 18446744073709551616) (w : World) :
    Runs Try.prog numm_fltCmp.id #[.int .i64 (op - 97), .int .i64 64, .int .u64 a, .int .u64 b] w fun v w' => v = .int .u64 (num_flag.F (num_relF64.F op a b)) ∧ w' = w := by
  rw [← fltCmp64 op h0 h1 a b ha hb]
  exact numm_fltCmp.pure _ _ _ _ w (fm64.fltCmpP _ _ _)

end Go.Proofs.Qxb6500320a
