/-
  What KeptShape asks of Apply.
-/
import Derived.Test.Qxb6500317aGreatApB
set_option linter.unusedSimpArgs false
set_option linter.unusedVariables false
set_option maxRecDepth 100000
namespace Go.Proofs.Qxb6500317aGreat.U
open Go Go.Vc

theorem ap_none (op a b : Int) (h : op < 69 ∨ 191 < op) : ap op a b = (0, 35) := by
  unfold ap
  by_cases h1 : op < 69
  · rw [decide_eq_true h1]; rfl
  · rw [decide_eq_false h1, decide_eq_true (show op > 191 by omega)]; rfl

theorem ap_rel32 (op a b : Int) (h0 : 69 ≤ op) (h1 : op ≤ 79) : ap op a b = (num_flag.F (num_rel32.F op (IntKind.wrap .u32 a) (IntKind.wrap .u32 b)), 0) := by
  unfold ap ap1
  rw [decide_eq_false (show ¬ op < 69 by omega), decide_eq_false (show ¬ op > 191 by omega), decide_eq_true (show op ≤ 79 by omega)]
  rfl
theorem ap_rel64 (op a b : Int) (h0 : 80 ≤ op) (h1 : op ≤ 90) : ap op a b = (num_flag.F (num_rel64.F op a b), 0) := by
  unfold ap ap1
  rw [decide_eq_false (show ¬ op < 69 by omega), decide_eq_false (show ¬ op > 191 by omega), decide_eq_false (show ¬ op ≤ 79 by omega), decide_eq_true (show op ≤ 90 by omega)]
  rfl
theorem ap_relF32 (op a b : Int) (h0 : 91 ≤ op) (h1 : op ≤ 96) : ap op a b = (num_flag.F (num_relF32.F op (IntKind.wrap .u32 a).toNat (IntKind.wrap .u32 b).toNat), 0) := by
  unfold ap ap1
  rw [decide_eq_false (show ¬ op < 69 by omega), decide_eq_false (show ¬ op > 191 by omega), decide_eq_false (show ¬ op ≤ 79 by omega), decide_eq_false (show ¬ op ≤ 90 by omega), decide_eq_true (show op ≤ 96 by omega)]
  rfl
theorem ap_relF64 (op a b : Int) (h0 : 97 ≤ op) (h1 : op ≤ 102) : ap op a b = (num_flag.F (num_relF64.F op a.toNat b.toNat), 0) := by
  unfold ap ap1
  rw [decide_eq_false (show ¬ op < 69 by omega), decide_eq_false (show ¬ op > 191 by omega), decide_eq_false (show ¬ op ≤ 79 by omega), decide_eq_false (show ¬ op ≤ 90 by omega), decide_eq_false (show ¬ op ≤ 96 by omega), decide_eq_true (show op ≤ 102 by omega)]
  rfl
theorem ap_int32 (op a b : Int) (h0 : 103 ≤ op) (h1 : op ≤ 120) : ap op a b = wd (num_int32s.F op (IntKind.wrap .u32 a) (IntKind.wrap .u32 b)) := by
  unfold ap ap1
  rw [decide_eq_false (show ¬ op < 69 by omega), decide_eq_false (show ¬ op > 191 by omega), decide_eq_false (show ¬ op ≤ 79 by omega), decide_eq_false (show ¬ op ≤ 90 by omega), decide_eq_false (show ¬ op ≤ 96 by omega), decide_eq_false (show ¬ op ≤ 102 by omega), decide_eq_true (show op ≤ 120 by omega)]
  rfl
theorem ap_int64 (op a b : Int) (h0 : 121 ≤ op) (h1 : op ≤ 138) : ap op a b = num_int64s.F op a b := by
  unfold ap ap1
  rw [decide_eq_false (show ¬ op < 69 by omega), decide_eq_false (show ¬ op > 191 by omega), decide_eq_false (show ¬ op ≤ 79 by omega), decide_eq_false (show ¬ op ≤ 90 by omega), decide_eq_false (show ¬ op ≤ 96 by omega), decide_eq_false (show ¬ op ≤ 102 by omega), decide_eq_false (show ¬ op ≤ 120 by omega), decide_eq_true (show op ≤ 138 by omega)]
  rfl
theorem ap_flt32 (op a b : Int) (h0 : 139 ≤ op) (h1 : op ≤ 152) : ap op a b = (IntKind.wrap .u64 (fl32 op (IntKind.wrap .u32 a) (IntKind.wrap .u32 b)), 0) := by
  unfold ap ap1
  rw [decide_eq_false (show ¬ op < 69 by omega), decide_eq_false (show ¬ op > 191 by omega), decide_eq_false (show ¬ op ≤ 79 by omega), decide_eq_false (show ¬ op ≤ 90 by omega), decide_eq_false (show ¬ op ≤ 96 by omega), decide_eq_false (show ¬ op ≤ 102 by omega), decide_eq_false (show ¬ op ≤ 120 by omega), decide_eq_false (show ¬ op ≤ 138 by omega), decide_eq_true (show op ≤ 152 by omega)]
  rfl
theorem ap_flt64 (op a b : Int) (h0 : 153 ≤ op) (h1 : op ≤ 166) : ap op a b = (fl64 op a b, 0) := by
  unfold ap ap1
  rw [decide_eq_false (show ¬ op < 69 by omega), decide_eq_false (show ¬ op > 191 by omega), decide_eq_false (show ¬ op ≤ 79 by omega), decide_eq_false (show ¬ op ≤ 90 by omega), decide_eq_false (show ¬ op ≤ 96 by omega), decide_eq_false (show ¬ op ≤ 102 by omega), decide_eq_false (show ¬ op ≤ 120 by omega), decide_eq_false (show ¬ op ≤ 138 by omega), decide_eq_false (show ¬ op ≤ 152 by omega), decide_eq_true (show op ≤ 166 by omega)]
  rfl
theorem ap_conv (op a b : Int) (h0 : 167 ≤ op) (h1 : op ≤ 191) : ap op a b = cv op a := by
  unfold ap ap1
  rw [decide_eq_false (show ¬ op < 69 by omega), decide_eq_false (show ¬ op > 191 by omega), decide_eq_false (show ¬ op ≤ 79 by omega), decide_eq_false (show ¬ op ≤ 90 by omega), decide_eq_false (show ¬ op ≤ 96 by omega), decide_eq_false (show ¬ op ≤ 102 by omega), decide_eq_false (show ¬ op ≤ 120 by omega), decide_eq_false (show ¬ op ≤ 138 by omega), decide_eq_false (show ¬ op ≤ 152 by omega), decide_eq_false (show ¬ op ≤ 166 by omega)]
  rfl

/-- The operators' table. -/
def sg (op : Int) : Int × Int × Int :=
  if op ≤ 79 then (if op = 69 then 1 else 2, 127, 127)
  else if op ≤ 90 then (if op = 80 then 1 else 2, 126, 127)
  else if op ≤ 96 then (2, 125, 127)
  else if op ≤ 102 then (2, 124, 127)
  else if op ≤ 120 then (if op ≤ 105 then 1 else 2, 127, 127)
  else if op ≤ 138 then (if op ≤ 123 then 1 else 2, 126, 126)
  else if op ≤ 152 then (if op ≤ 145 then 1 else 2, 125, 125)
  else if op ≤ 166 then (if op ≤ 159 then 1 else 2, 124, 124)
  else ([(1, 126, 127), (1, 125, 127), (1, 125, 127), (1, 124, 127), (1, 124, 127), (1, 127, 126), (1, 127, 126), (1, 125, 126), (1, 125, 126), (1, 124, 126), (1, 124, 126), (1, 127, 125), (1, 127, 125), (1, 126, 125), (1, 126, 125), (1, 124, 125), (1, 127, 124), (1, 127, 124), (1, 126, 124), (1, 126, 124), (1, 125, 124), (1, 125, 127), (1, 124, 126), (1, 127, 125), (1, 126, 124)] : List (Int × Int × Int)).getD (op - 167).toNat (0, 0, 0)

theorem sig_all : ((List.range 123).all fun k => api_NumSig.F (69 + (k : Int)) == sg (69 + (k : Int))) = true := by decide +kernel
theorem sig_eq (op : Int) (h0 : 69 ≤ op) (h1 : op ≤ 191) : api_NumSig.F op = sg op := by
  obtain ⟨k, hk⟩ : ∃ k : Nat, op = 69 + (k : Int) := ⟨(op - 69).toNat, by omega⟩
  subst hk
  have := List.all_eq_true.1 sig_all k (List.mem_range.2 (by omega))
  exact eq_of_beq this

theorem sig_none (op : Int) (h : op < 69 ∨ 191 < op) : api_NumSig.F op = (0, 0, 0) := by
  unfold api_NumSig.F
  rw [show (op == (69 : Int)) = false from by rw [beq_eq_false_iff_ne]; omega, cond_false]
  have e1 : ∀ t : Int, (t < 69 ∨ 191 < t) → api_NumSig.F13 t false = (0, 0, 0) := by
    intro t ht
    have ne : ∀ k : Int, 69 ≤ k → k ≤ 191 → (t == k) = false := fun k h1 h2 => by rw [beq_eq_false_iff_ne]; omega
    simp only [api_NumSig.F13, api_NumSig.F14, api_NumSig.F15, api_NumSig.F16, api_NumSig.F17, api_NumSig.F18, api_NumSig.F19, api_NumSig.F20, api_NumSig.F21,
      ne 170 (by decide) (by decide), ne 171 (by decide) (by decide), ne 172 (by decide) (by decide), ne 173 (by decide) (by decide), ne 174 (by decide) (by decide), ne 175 (by decide) (by decide), ne 176 (by decide) (by decide), ne 177 (by decide) (by decide), ne 178 (by decide) (by decide), ne 179 (by decide) (by decide), ne 180 (by decide) (by decide), ne 181 (by decide) (by decide), ne 182 (by decide) (by decide), ne 183 (by decide) (by decide), ne 184 (by decide) (by decide), ne 185 (by decide) (by decide), ne 186 (by decide) (by decide), ne 187 (by decide) (by decide), ne 189 (by decide) (by decide), ne 190 (by decide) (by decide), ne 191 (by decide) (by decide), cond_false]
  have ne : ∀ k : Int, 69 ≤ k → k ≤ 191 → (op == k) = false := fun k h1 h2 => by rw [beq_eq_false_iff_ne]; omega
  have e12 : api_NumSig.F12 op false = (0, 0, 0) := by
    simp only [api_NumSig.F12, ne 167 (by decide) (by decide), ne 168 (by decide) (by decide), ne 169 (by decide) (by decide), ne 188 (by decide) (by decide), cond_false, e1 op h]
  by_cases h1 : op < 69
  · have ge : ∀ k : Int, 69 ≤ k → decide (op ≥ k) = false := fun k hk => decide_eq_false (by omega)
    simp only [api_NumSig.F1, api_NumSig.F2, api_NumSig.F3, api_NumSig.F4, api_NumSig.F5, api_NumSig.F6, api_NumSig.F7, api_NumSig.F8, api_NumSig.F9, api_NumSig.F10, api_NumSig.F11, ge 70 (by decide), ge 81 (by decide), ge 91 (by decide), ge 97 (by decide), ge 103 (by decide), ge 106 (by decide), ge 121 (by decide), ge 124 (by decide), ge 139 (by decide), ge 146 (by decide), ge 153 (by decide), ge 160 (by decide), ne 80 (by decide) (by decide), cond_false, e12]
  · have ge : ∀ k : Int, k ≤ 191 → decide (op ≥ k) = true := fun k hk => decide_eq_true (by omega)
    have le : ∀ k : Int, k ≤ 191 → decide (op ≤ k) = false := fun k hk => decide_eq_false (by omega)
    simp only [api_NumSig.F1, api_NumSig.F2, api_NumSig.F3, api_NumSig.F4, api_NumSig.F5, api_NumSig.F6, api_NumSig.F7, api_NumSig.F8, api_NumSig.F9, api_NumSig.F10, api_NumSig.F11, ge 70 (by decide), ge 81 (by decide), ge 91 (by decide), ge 97 (by decide), ge 103 (by decide), ge 106 (by decide), ge 121 (by decide), ge 124 (by decide), ge 139 (by decide), ge 146 (by decide), ge 153 (by decide), ge 160 (by decide), le 79 (by decide), le 90 (by decide), le 96 (by decide), le 102 (by decide), le 105 (by decide), le 120 (by decide), le 123 (by decide), le 138 (by decide), le 145 (by decide), le 152 (by decide), le 159 (by decide), le 166 (by decide), ne 80 (by decide) (by decide), cond_false, cond_true, e12]

/-- The bound of a type's words. -/
def bnd (u : Int) : Int := if u = 127 ∨ u = 125 then 4294967296 else 18446744073709551616

theorem cut_id (u r : Int) (h0 : 0 ≤ r) (h1 : r < bnd u) : api_Cut.F u r = r := by
  have low : r < 4294967296 → bAnd .u64 r 4294967295 = r := by
    intro hr
    obtain ⟨n, rfl⟩ : ∃ n : Nat, r = (n : Int) := ⟨r.toNat, by omega⟩
    have e : bAnd .u64 (n : Int) 4294967295 = ((n &&& 4294967295 : Nat) : Int) := bAnd64_n n 4294967295 (by omega) (by decide)
    rw [e]
    have e2 : n &&& 4294967295 = n % 2 ^ 32 := Nat.and_two_pow_sub_one_eq_mod n 32
    rw [e2]; omega
  unfold bnd at h1
  unfold api_Cut.F api_Cut.F1
  by_cases hu : u = 127
  · rw [if_pos (.inl hu)] at h1
    rw [show (u == (127 : Int)) = true from by rw [hu]; rfl]
    exact low h1
  · rw [show (u == (127 : Int)) = false from by rw [beq_eq_false_iff_ne]; exact hu]
    by_cases hv : u = 125
    · rw [if_pos (.inr hv)] at h1
      rw [show (u == (125 : Int)) = true from by rw [hv]; rfl]
      exact low h1
    · rw [show (u == (125 : Int)) = false from by rw [beq_eq_false_iff_ne]; exact hv]
      rfl

theorem conv_cases (op : Int) (h0 : 167 ≤ op) (h1 : op ≤ 191) : op = 167 ∨ op = 168 ∨ op = 169 ∨ op = 170 ∨ op = 171 ∨ op = 172 ∨ op = 173 ∨ op = 174 ∨ op = 175 ∨ op = 176 ∨ op = 177 ∨ op = 178 ∨ op = 179 ∨ op = 180 ∨ op = 181 ∨ op = 182 ∨ op = 183 ∨ op = 184 ∨ op = 185 ∨ op = 186 ∨ op = 187 ∨ op = 188 ∨ op = 189 ∨ op = 190 ∨ op = 191 := by omega

theorem conv_sh (op a : Int) (h0 : 167 ≤ op) (h1 : op ≤ 191) (ha : 0 ≤ a ∧ a < 18446744073709551616) : Sh (bnd (sg op).2.2) (cv op a) := by
  rcases conv_cases op h0 h1 with rfl | rfl | rfl | rfl | rfl | rfl | rfl | rfl | rfl | rfl | rfl | rfl | rfl | rfl | rfl | rfl | rfl | rfl | rfl | rfl | rfl | rfl | rfl | rfl | rfl
  · exact cv167_sh a ha
  · exact cv168_sh a ha
  · exact cv169_sh a ha
  · exact cv170_sh a ha
  · exact cv171_sh a ha
  · exact cv172_sh a ha
  · exact cv173_sh a ha
  · exact cv174_sh a ha
  · exact cv175_sh a ha
  · exact cv176_sh a ha
  · exact cv177_sh a ha
  · exact cv178_sh a ha
  · exact cv179_sh a ha
  · exact cv180_sh a ha
  · exact cv181_sh a ha
  · exact cv182_sh a ha
  · exact cv183_sh a ha
  · exact cv184_sh a ha
  · exact cv185_sh a ha
  · exact cv186_sh a ha
  · exact cv187_sh a ha
  · exact cv188_sh a ha
  · exact cv189_sh a ha
  · exact cv190_sh a ha
  · exact cv191_sh a ha

theorem conv_low (op a a' : Int) (h0 : 167 ≤ op) (h1 : op ≤ 191) (h : IntKind.wrap .u32 a = IntKind.wrap .u32 a') (ht : (sg op).2.1 = 127 ∨ (sg op).2.1 = 125) : cv op a = cv op a' := by
  rcases conv_cases op h0 h1 with rfl | rfl | rfl | rfl | rfl | rfl | rfl | rfl | rfl | rfl | rfl | rfl | rfl | rfl | rfl | rfl | rfl | rfl | rfl | rfl | rfl | rfl | rfl | rfl | rfl
  · exact absurd ht (by decide)
  · exact cv168_low a a' h
  · exact cv169_low a a' h
  · exact absurd ht (by decide)
  · exact absurd ht (by decide)
  · exact cv172_low a a' h
  · exact cv173_low a a' h
  · exact cv174_low a a' h
  · exact cv175_low a a' h
  · exact absurd ht (by decide)
  · exact absurd ht (by decide)
  · exact cv178_low a a' h
  · exact cv179_low a a' h
  · exact absurd ht (by decide)
  · exact absurd ht (by decide)
  · exact absurd ht (by decide)
  · exact cv183_low a a' h
  · exact cv184_low a a' h
  · exact absurd ht (by decide)
  · exact absurd ht (by decide)
  · exact cv187_low a a' h
  · exact cv188_low a a' h
  · exact absurd ht (by decide)
  · exact cv190_low a a' h
  · exact absurd ht (by decide)

theorem ap_sh (op a b : Int) (h0 : 69 ≤ op) (h1 : op ≤ 191) (ha : 0 ≤ a ∧ a < 18446744073709551616) (hb : 0 ≤ b ∧ b < 18446744073709551616) : Sh (bnd (sg op).2.2) (ap op a b) := by
  have wa := wrap_u32_rng a
  have wb := wrap_u32_rng b
  have b127 : bnd 127 = 4294967296 := by decide
  have b126 : bnd 126 = 18446744073709551616 := by decide
  have b125 : bnd 125 = 4294967296 := by decide
  have b124 : bnd 124 = 18446744073709551616 := by decide
  by_cases g1 : op ≤ 79
  · rw [ap_rel32 op a b h0 g1]; unfold sg; rw [if_pos g1, b127]; exact Sh.ok (flag_rng _)
  by_cases g2 : op ≤ 90
  · rw [ap_rel64 op a b (by omega) g2]; unfold sg; rw [if_neg g1, if_pos g2, b127]; exact Sh.ok (flag_rng _)
  by_cases g3 : op ≤ 96
  · rw [ap_relF32 op a b (by omega) g3]; unfold sg; rw [if_neg g1, if_neg g2, if_pos g3, b127]; exact Sh.ok (flag_rng _)
  by_cases g4 : op ≤ 102
  · rw [ap_relF64 op a b (by omega) g4]; unfold sg; rw [if_neg g1, if_neg g2, if_neg g3, if_pos g4, b127]; exact Sh.ok (flag_rng _)
  by_cases g5 : op ≤ 120
  · rw [ap_int32 op a b (by omega) g5]; unfold sg; rw [if_neg g1, if_neg g2, if_neg g3, if_neg g4, if_pos g5, b127]
    have hs := (int32_shape op _ _ wa.1 wa.2 wb.1 wb.2).sh
    generalize num_int32s.F op (IntKind.wrap .u32 a) (IntKind.wrap .u32 b) = p at hs
    obtain ⟨x, e⟩ := p
    have hx : IntKind.wrap .u64 x = x := wrap_small x ⟨hs.1, hs.2.1⟩
    unfold wd
    simp only [hx]
    exact hs
  by_cases g6 : op ≤ 138
  · rw [ap_int64 op a b (by omega) g6]; unfold sg; rw [if_neg g1, if_neg g2, if_neg g3, if_neg g4, if_neg g5, if_pos g6, b126]
    exact (int64_shape op _ _ ha.1 ha.2 hb.1 hb.2).sh
  by_cases g7 : op ≤ 152
  · rw [ap_flt32 op a b (by omega) g7]; unfold sg; rw [if_neg g1, if_neg g2, if_neg g3, if_neg g4, if_neg g5, if_neg g6, if_pos g7, b125]
    have := fl32_rng op _ _ wa wb
    rw [wrap_small _ this]
    exact Sh.ok this
  by_cases g8 : op ≤ 166
  · rw [ap_flt64 op a b (by omega) g8]; unfold sg; rw [if_neg g1, if_neg g2, if_neg g3, if_neg g4, if_neg g5, if_neg g6, if_neg g7, if_pos g8, b124]
    exact Sh.ok (fl64_rng op _ _ ha hb)
  rw [ap_conv op a b (by omega) h1]
  exact conv_sh op a (by omega) h1 ha

theorem ap_low (op a b a' b' : Int) (h0 : 69 ≤ op) (h1 : op ≤ 191) (ht : (sg op).2.1 = 127 ∨ (sg op).2.1 = 125) (ha : IntKind.wrap .u32 a = IntKind.wrap .u32 a') (hb : IntKind.wrap .u32 b = IntKind.wrap .u32 b') : ap op a b = ap op a' b' := by
  by_cases g1 : op ≤ 79
  · rw [ap_rel32 op a b h0 g1, ap_rel32 op a' b' h0 g1, ha, hb]
  by_cases g2 : op ≤ 90
  · unfold sg at ht; rw [if_neg g1, if_pos g2] at ht; simp at ht
  by_cases g3 : op ≤ 96
  · rw [ap_relF32 op a b (by omega) g3, ap_relF32 op a' b' (by omega) g3, ha, hb]
  by_cases g4 : op ≤ 102
  · unfold sg at ht; rw [if_neg g1, if_neg g2, if_neg g3, if_pos g4] at ht; simp at ht
  by_cases g5 : op ≤ 120
  · rw [ap_int32 op a b (by omega) g5, ap_int32 op a' b' (by omega) g5, ha, hb]
  by_cases g6 : op ≤ 138
  · unfold sg at ht; rw [if_neg g1, if_neg g2, if_neg g3, if_neg g4, if_neg g5, if_pos g6] at ht; simp at ht
  by_cases g7 : op ≤ 152
  · rw [ap_flt32 op a b (by omega) g7, ap_flt32 op a' b' (by omega) g7, ha, hb]
  by_cases g8 : op ≤ 166
  · unfold sg at ht; rw [if_neg g1, if_neg g2, if_neg g3, if_neg g4, if_neg g5, if_neg g6, if_neg g7, if_pos g8] at ht; simp at ht
  rw [ap_conv op a b (by omega) h1, ap_conv op a' b' (by omega) h1]
  exact conv_low op a a' (by omega) h1 ha ht

theorem int32_un (op x y y' : Int) (h : op = 103 ∨ op = 104 ∨ op = 105) : num_int32s.F op x y = num_int32s.F op x y' := by
  rcases h with rfl | rfl | rfl <;> rfl
theorem int64_un (op x y y' : Int) (h : op = 121 ∨ op = 122 ∨ op = 123) : num_int64s.F op x y = num_int64s.F op x y' := by
  rcases h with rfl | rfl | rfl <;> rfl
theorem flt32_un (op x y y' : Int) (h : op = 139 ∨ op = 140 ∨ op = 141 ∨ op = 142 ∨ op = 143 ∨ op = 144 ∨ op = 145) : fl32 op x y = fl32 op x y' := by
  rcases h with rfl | rfl | rfl | rfl | rfl | rfl | rfl <;> rfl
theorem flt64_un (op x y y' : Int) (h : op = 153 ∨ op = 154 ∨ op = 155 ∨ op = 156 ∨ op = 157 ∨ op = 158 ∨ op = 159) : fl64 op x y = fl64 op x y' := by
  rcases h with rfl | rfl | rfl | rfl | rfl | rfl | rfl <;> rfl

theorem one_of {c : Prop} [Decidable c] (h : (if c then (1 : Int) else 2) = 1) : c := by
  by_cases hc : c
  · exact hc
  · rw [if_neg hc] at h; exact absurd h (by decide)

theorem ap_un (op a b b' : Int) (h0 : 69 ≤ op) (h1 : op ≤ 191) (hn : (sg op).1 = 1) : ap op a b = ap op a b' := by
  by_cases g1 : op ≤ 79
  · unfold sg at hn; rw [if_pos g1] at hn
    have e : op = 69 := one_of hn
    subst e; rw [ap_rel32 69 a b (by decide) (by decide), ap_rel32 69 a b' (by decide) (by decide)]; rfl
  by_cases g2 : op ≤ 90
  · unfold sg at hn; rw [if_neg g1, if_pos g2] at hn
    have e : op = 80 := one_of hn
    subst e; rw [ap_rel64 80 a b (by decide) (by decide), ap_rel64 80 a b' (by decide) (by decide)]; rfl
  by_cases g3 : op ≤ 96
  · unfold sg at hn; rw [if_neg g1, if_neg g2, if_pos g3] at hn; exact absurd hn (by decide)
  by_cases g4 : op ≤ 102
  · unfold sg at hn; rw [if_neg g1, if_neg g2, if_neg g3, if_pos g4] at hn; exact absurd hn (by decide)
  by_cases g5 : op ≤ 120
  · unfold sg at hn; rw [if_neg g1, if_neg g2, if_neg g3, if_neg g4, if_pos g5] at hn
    have e : op ≤ 105 := one_of hn
    rw [ap_int32 op a b (by omega) g5, ap_int32 op a b' (by omega) g5, int32_un op _ _ (IntKind.wrap .u32 b') (by omega)]
  by_cases g6 : op ≤ 138
  · unfold sg at hn; rw [if_neg g1, if_neg g2, if_neg g3, if_neg g4, if_neg g5, if_pos g6] at hn
    have e : op ≤ 123 := one_of hn
    rw [ap_int64 op a b (by omega) g6, ap_int64 op a b' (by omega) g6, int64_un op _ _ b' (by omega)]
  by_cases g7 : op ≤ 152
  · unfold sg at hn; rw [if_neg g1, if_neg g2, if_neg g3, if_neg g4, if_neg g5, if_neg g6, if_pos g7] at hn
    have e : op ≤ 145 := one_of hn
    rw [ap_flt32 op a b (by omega) g7, ap_flt32 op a b' (by omega) g7, flt32_un op _ _ (IntKind.wrap .u32 b') (by omega)]
  by_cases g8 : op ≤ 166
  · unfold sg at hn; rw [if_neg g1, if_neg g2, if_neg g3, if_neg g4, if_neg g5, if_neg g6, if_neg g7, if_pos g8] at hn
    have e : op ≤ 159 := one_of hn
    rw [ap_flt64 op a b (by omega) g8, ap_flt64 op a b' (by omega) g8, flt64_un op _ _ b' (by omega)]
  rw [ap_conv op a b (by omega) h1, ap_conv op a b' (by omega) h1]

theorem sg_one (op : Int) (h0 : 69 ≤ op) (h1 : op ≤ 191) : (sg op).1 = 1 ∨ (sg op).1 = 2 := by
  have hall : ((List.range 123).all fun k => (sg (69 + (k : Int))).1 == 1 || (sg (69 + (k : Int))).1 == 2) = true := by decide +kernel
  obtain ⟨k, hk⟩ : ∃ k : Nat, op = 69 + (k : Int) := ⟨(op - 69).toNat, by omega⟩
  subst hk
  have := List.all_eq_true.1 hall k (List.mem_range.2 (by omega))
  rcases Bool.or_eq_true _ _ |>.mp this with h | h
  · exact .inl (eq_of_beq h)
  · exact .inr (eq_of_beq h)

theorem xor_high_low (a : Int) (ha : 0 ≤ a ∧ a < 18446744073709551616) : IntKind.wrap .u32 (bXor .u64 a 18446744069414584320) = IntKind.wrap .u32 a := by
  obtain ⟨n, rfl⟩ : ∃ n : Nat, a = (n : Int) := ⟨a.toNat, by omega⟩
  have hp : (2 : Nat) ^ IntKind.bits .u64 = 18446744073709551616 := by decide
  have e : bXor .u64 (n : Int) 18446744069414584320 = ((n ^^^ 18446744069414584320 : Nat) : Int) := bXor_n .u64 rfl n 18446744069414584320 (by omega) (by decide)
  rw [e, wrap_u32_mod, wrap_u32_mod]
  have e2 : (n ^^^ 18446744069414584320) % 2 ^ 32 = n % 2 ^ 32 := by
    rw [Nat.xor_mod_two_pow]
    have : 18446744069414584320 % 2 ^ 32 = 0 := by decide
    rw [this, Nat.xor_zero]
  omega

end Go.Proofs.Qxb6500317aGreat.U
