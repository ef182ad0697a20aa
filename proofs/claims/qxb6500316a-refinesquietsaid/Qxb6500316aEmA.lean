/-
  The model writes numbers.
-/
import Derived.Test.Qxb6500316aMdJ
import Derived.Test.Qxb6500316aRtB
import Derived.Test.Qxb6500316aWfF
set_option linter.unusedSimpArgs false
set_option linter.unusedVariables false
set_option maxRecDepth 100000
set_option linter.unusedSectionVars false
namespace Go.Proofs.Qxb6500316a
open Go Go.Vc

/-- A call that answers the bytes l. -/
def Txts (id : FuncId) (args : Array Value) (w : World) (l : List Int) : Prop := Runs Try.prog id args w fun v w' => v = .string (strOfNums l) ∧ Same [] w.heap.size w w'
theorem Txts.into {id : FuncId} {args : Array Value} {w : World} {l : List Int} (h : Txts id args w l) {R Q : Value → World → Prop} (hr : ∀ w', Same [] w.heap.size w w' → R (.string (strOfNums l)) w') : RunsQ Try.prog id args w R Q :=
  RunsQ.mono h (by rintro v w' ⟨rfl, hS⟩; exact hr w' hS) (by rintro v w' ⟨⟩)
theorem Same.nx {a b c : World} (h : Same [] a.heap.size a b) (k : Same [] b.heap.size b c) : Same [] a.heap.size a c := h.trans (k.mono h.size (by simp))
theorem tmod_nn {v : Int} (h : 0 ≤ v) (m : Int) : Int.tmod v m = v % m := Int.tmod_eq_emod_of_nonneg h
theorem tdiv_nn {v : Int} (h : 0 ≤ v) (m : Int) : Int.tdiv v m = v / m := Int.tdiv_eq_ediv_of_nonneg h
theorem one_cat (l : List Int) (x : Int) : strOfNums l ++ strOfNums [x] = strOfNums (l ++ [x]) := nums_app l [x]
theorem cat_size (l m : List Int) (h : l.length + m.length ≤ 1000000) : (((strOfNums l).size + (strOfNums m).size : Nat) : Int) ≤ 9223372036854775807 := by rw [strOfNums_size, strOfNums_size]; omega

/-! ### uleb -/
theorem uleb_mloop {R Q : Value → World → Prop} {w0 : World} {z : List Int} (hR : ∀ w', Same [] w0.heap.size w0 w' → R (.string (strOfNums z)) w') :
    ∀ (k : Nat) (v : Int) (l : List Int) (w : World), 1 ≤ k → 0 ≤ v → v < 128 ^ k → v ≤ 18446744073709551615 → l.length + k ≤ 10000 → l ++ ulebF k v = z → Same [] w0.heap.size w0 w → binm_uleb.L1 v (strOfNums l) R Q w
  | 0, _, _, _, hk, _, _, _, _, _, _ => by omega
  | k + 1, v, l, w, _, h0, hv, h64, hl, hz, S => by
    refine binm_uleb.step1 _ _ _ _ _ ?_
    unfold binm_uleb.V1
    rw [ulebF_succ] at hz
    by_cases h : 128 ≤ v
    · rw [if_pos h] at hz
      refine cond_true' (decide_eq_true (by omega)) ?_
      have hb : IntKind.wrap .u8 (IntKind.wrap .u64 (Int.tmod v 128 + 128)) = bOr .u8 (IntKind.wrap .u8 v) 128 := by
        rw [or128, tmod_nn h0, wrap_u64 (by omega) (by omega), wrapU8_mod]; omega
      have hd : IntKind.wrap .u64 (Int.tdiv v 128) = Int.fdiv v (2 ^ (7 : Nat)) := by
        rw [fdiv128, tdiv_nn h0, wrap_u64 (by omega) (by omega)]
      rw [hb, hd]
      refine letB_intro fun b hb => letW_intro fun w2 hw => ?_
      obtain ⟨hc, S2⟩ := run_one _ w hb hw
      refine ⟨_, w2, hc, cat_size _ _ (by simp; omega), ?_⟩
      rw [one_cat]
      have hk : 1 ≤ k := by
        rcases Nat.eq_zero_or_pos k with rfl | h'
        · simp at hv; omega
        · exact h'
      rw [fdiv128] at hz ⊢
      refine uleb_mloop hR k (v / 128) _ w2 hk (by omega) ?_ (by omega) (by simp; omega) (by rw [List.append_assoc]; exact hz) (Same.nx S S2)
      have e : (128 : Int) ^ (k + 1) = 128 ^ k * 128 := Int.pow_succ ..
      rw [e] at hv
      generalize (128 : Int) ^ k = K at *
      omega
    · rw [if_neg h] at hz
      refine cond_false' (decide_eq_false (by omega)) ?_
      refine letB_intro fun b hb => letW_intro fun w2 hw => ?_
      obtain ⟨hc, S2⟩ := run_one _ w hb hw
      refine ⟨_, w2, hc, cat_size _ _ (by simp; omega), ?_⟩
      rw [one_cat, hz]
      exact hR w2 (Same.nx S S2)
theorem ulebm (w : World) (v : Int) (h0 : 0 ≤ v) (h1 : v ≤ 18446744073709551615) : Txts binm_uleb.id #[.int .u64 v] w (uleb v) := by
  refine binm_uleb.enter _ _ _ _ ?_
  unfold binm_uleb.V
  have e : (128 : Int) ^ 10 = 1180591620717411303424 := by decide
  exact uleb_mloop (w0 := w) (fun w' S => ⟨rfl, S⟩) 10 v [] w (by omega) h0 (by rw [e]; omega) h1 (by simp) rfl (Same.refl _ _ _)

/-! ### little -/
theorem little_mloop {R Q : Value → World → Prop} {w0 : World} {z : List Int} {n : Nat} (hn : n ≤ 8) (hR : ∀ w', Same [] w0.heap.size w0 w' → R (.string (strOfNums z)) w') :
    ∀ (k j : Nat) (v : Int) (l : List Int) (w : World), j + k = n → 0 ≤ v → v ≤ 18446744073709551615 → l.length + k ≤ 10000 → l ++ littleF k v = z → Same [] w0.heap.size w0 w → binm_little.L1 (n : Int) v (strOfNums l) (j : Int) R Q w
  | 0, j, v, l, w, hj, h0, h1, hl, hz, S => by
    refine binm_little.step1 _ _ _ _ _ _ _ ?_
    unfold binm_little.V1
    have hz : l ++ [] = z := hz
    rw [List.append_nil] at hz
    rw [hz]
    exact cond_false' (decide_eq_false (by omega)) (hR w S)
  | k + 1, j, v, l, w, hj, h0, h1, hl, hz, S => by
    refine binm_little.step1 _ _ _ _ _ _ _ ?_
    unfold binm_little.V1
    refine cond_true' (decide_eq_true (by omega)) ?_
    have hz : l ++ (IntKind.wrap .u8 v :: littleF k (Int.fdiv v (2 ^ (8 : Nat)))) = z := hz
    have hb : IntKind.wrap .u8 (Int.tmod v 256) = IntKind.wrap .u8 v := by rw [tmod_nn h0, wrapU8_mod, wrapU8_mod]; omega
    have e8 : (2 : Int) ^ (8 : Nat) = 256 := by decide
    have hd : IntKind.wrap .u64 (Int.tdiv v 256) = Int.fdiv v (2 ^ (8 : Nat)) := by
      rw [e8, tdiv_nn h0, wrap_u64 (by omega) (by omega), Int.fdiv_eq_ediv_of_nonneg _ (by decide)]
    rw [hb, hd]
    refine letB_intro fun b hb => letW_intro fun w2 hw => ?_
    obtain ⟨hc, S2⟩ := run_one _ w hb hw
    refine ⟨_, w2, hc, cat_size _ _ (by simp; omega), ?_⟩
    rw [one_cat, wrap_i64 (by omega) (by omega), show (j : Int) + 1 = ((j + 1 : Nat) : Int) by omega]
    have e9 : Int.fdiv v (2 ^ (8 : Nat)) = v / 256 := by rw [e8, Int.fdiv_eq_ediv_of_nonneg _ (by decide)]
    exact little_mloop hn hR k (j + 1) _ _ w2 (by omega) (by rw [e9]; omega) (by rw [e9]; omega) (by simp; omega) (by rw [List.append_assoc]; exact hz) (Same.nx S S2)
theorem littlem (w : World) (n : Nat) (hn : n ≤ 8) (v : Int) (h0 : 0 ≤ v) (h1 : v ≤ 18446744073709551615) : Txts binm_little.id #[.int .i64 (n : Int), .int .u64 v] w (littleF n v) := by
  refine binm_little.enter _ _ _ _ _ ?_
  unfold binm_little.V
  exact little_mloop hn (w0 := w) (fun w' S => ⟨rfl, S⟩) n 0 v [] w (by omega) h0 h1 (by simp; omega) rfl (Same.refl _ _ _)

/-! ### vec, limits, sect -/
theorem vecm (w : World) (l : List Int) (h : l.length ≤ 500000) : Txts binm_vec.id #[.string (strOfNums l)] w (uleb (l.length : Int) ++ l) := by
  refine binm_vec.enter _ _ _ _ ?_
  unfold binm_vec.V
  rw [strOfNums_size, wrap_u64 (by omega) (by omega)]
  refine (ulebm w (l.length : Int) (by omega) (by omega)).into fun w' S => ⟨_, rfl, ?_, ?_⟩
  · have := uleb_len (l.length : Int); rw [strOfNums_size]; omega
  · rw [nums_app]; exact ⟨rfl, S⟩
theorem nums_bytes (t : ByteArray) : strOfNums (bytesOf t) = t := by
  apply ByteArray.ext
  apply Array.ext'
  show (bytesOf t).map (fun n => UInt8.ofNat n.toNat) = t.data.toList
  unfold bytesOf
  rw [List.map_map]
  conv => rhs; rw [← List.map_id t.data.toList]
  refine List.map_congr_left fun b _ => ?_
  simp
theorem vecm_raw (w : World) (t : ByteArray) (h : t.size ≤ 500000) : Txts binm_vec.id #[.string t] w (rawE t) := by
  have := vecm w (bytesOf t) (by rw [bytesOf_length]; exact h)
  rw [nums_bytes, bytesOf_length] at this
  exact this
theorem limitsm (w : World) (lo hi : Int) (hl : 0 ≤ lo ∧ lo ≤ 4294967295) (hh : -1 ≤ hi ∧ hi ≤ 4294967295) : Txts binm_limits.id #[.int .i64 lo, .int .i64 hi] w (limE lo hi) := by
  refine binm_limits.enter _ _ _ _ _ ?_
  unfold binm_limits.V
  rw [wrap_u64 hl.1 (by omega)]
  have u1 := uleb_len lo
  have u2 := uleb_len hi
  refine (ulebm w lo hl.1 (by omega)).into fun w1 S1 => ⟨_, rfl, ?_⟩
  unfold limE
  by_cases h : hi < 0
  · rw [if_pos h]
    refine cond_true' (decide_eq_true h) ⟨?_, ?_⟩
    · rw [strOfNums_size]; show ((1 + (uleb lo).length : Nat) : Int) ≤ _; omega
    · show Value.string (strOfNums [0] ++ strOfNums (uleb lo)) = _ ∧ _
      rw [nums_app]; exact ⟨rfl, S1⟩
  · rw [if_neg h]
    refine cond_false' (decide_eq_false h) ?_
    rw [wrap_u64 (by omega) (by omega)]
    refine (ulebm w1 hi (by omega) (by omega)).into fun w2 S2 => ⟨_, rfl, ?_, ?_, ?_⟩
    · rw [strOfNums_size]; show ((1 + (uleb lo).length : Nat) : Int) ≤ _; omega
    · rw [ByteArray.size_append, strOfNums_size, strOfNums_size]; show ((1 + (uleb lo).length + (uleb hi).length : Nat) : Int) ≤ _; omega
    · show Value.string ((strOfNums [1] ++ strOfNums (uleb lo)) ++ strOfNums (uleb hi)) = _ ∧ _
      rw [nums_app, nums_app]; exact ⟨rfl, Same.nx S1 S2⟩
theorem sectm (w : World) (id n : Int) (l : List Int) (hn : 0 ≤ n ∧ n ≤ 4294967295) (hl : l.length ≤ 400000) : Txts binm_sect.id #[.int .u8 id, .int .i64 n, .string (strOfNums l)] w (secE id n l) := by
  refine binm_sect.enter _ _ _ _ _ _ ?_
  unfold binm_sect.V secE
  by_cases h : n = 0
  · rw [if_neg (by omega)]
    refine cond_true' (by rw [h]; rfl) ⟨rfl, Same.refl _ _ _⟩
  · rw [if_pos (by omega)]
    refine cond_false' (by simpa using h) ?_
    rw [wrap_u64 hn.1 (by omega)]
    have u1 := uleb_len n
    refine (ulebm w n hn.1 (by omega)).into fun w1 S1 => ⟨_, rfl, ?_, ?_⟩
    · rw [strOfNums_size, strOfNums_size]; omega
    rw [nums_app]
    refine (vecm w1 (uleb n ++ l) (by rw [List.length_append]; omega)).into fun w2 S2 => ⟨_, rfl, letB_intro fun b hb => letW_intro fun w3 hw => ?_⟩
    obtain ⟨hc, S3⟩ := run_one _ w2 hb hw
    have u2 := uleb_len (((uleb n ++ l).length : Nat) : Int)
    refine ⟨_, w3, hc, ?_, ?_⟩
    · rw [strOfNums_size, strOfNums_size, List.length_append, List.length_append]; show ((1 + _ : Nat) : Int) ≤ _; rw [List.length_append] at u2; omega
    · rw [nums_app]
      refine ⟨?_, Same.nx (Same.nx S1 S2) S3⟩
      rw [ulen_uleb n hn.1 hn.2, List.length_append]
      have e : (((uleb n).length + l.length : Nat) : Int) = ((uleb n).length : Int) + (l.length : Int) := by omega
      rw [e]
      simp [List.append_assoc]
end Go.Proofs.Qxb6500316a
