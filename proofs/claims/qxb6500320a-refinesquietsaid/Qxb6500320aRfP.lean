/-
  The model's counts of bits; what the model's integer operators ask.
-/
import Derived.Test.Qxb6500320aRfO
set_option linter.unusedSimpArgs false
set_option linter.unusedVariables false
set_option linter.unusedSectionVars false
set_option maxRecDepth 100000
namespace Go.Proofs.Qxb6500320a
open Go Go.Vc

theorem ctzLoop (n a : Nat) (hn : n ≤ 64) (ha : a < 18446744073709551616) (R : Value → World → Prop) (w : World) :
    ∀ (j i : Nat), i + j = n → R (.int .u64 ((i + tz j (a / 2 ^ i) : Nat) : Int)) w → numm_intUn.L2 n a (i : Int) (i : Int) R w := by
  intro j
  induction j with
  | zero =>
    intro i hi hR
    refine numm_intUn.step2 _ _ _ _ _ _ ?_
    unfold numm_intUn.V2
    refine cond_false' (decide_eq_false (by omega)) ?_
    refine numm_intUn.step5 _ _ _ ?_
    exact hR
  | succ j ih =>
    intro i hi hR
    refine numm_intUn.step2 _ _ _ _ _ _ ?_
    unfold numm_intUn.V2
    refine cond_true' (decide_eq_true (by omega)) ?_
    have hd : a / 2 ^ i < 18446744073709551616 := Nat.lt_of_le_of_lt (Nat.div_le_self _ _) ha
    rw [wrap64_n i (by omega), fdivk a i (by omega), and1 _ hd]
    refine ⟨by omega, ?_⟩
    have hq : a / 2 ^ i / 2 = a / 2 ^ (i + 1) := by rw [Nat.div_div_eq_div_mul, Nat.pow_succ]
    by_cases hb : a / 2 ^ i % 2 = 1
    · refine cond_false' (by rw [beq_eq_false_iff_ne, hb]; decide) ?_
      refine numm_intUn.step5 _ _ _ ?_
      unfold numm_intUn.V5
      have e : i + tz (j + 1) (a / 2 ^ i) = i := by rw [tz, if_pos hb]; rfl
      rw [e] at hR; exact hR
    · have hb0 : a / 2 ^ i % 2 = 0 := by omega
      refine cond_true' (by rw [hb0]; rfl) ?_
      refine numm_intUn.step6 _ _ _ _ _ _ ?_
      unfold numm_intUn.V6
      have e1 : IntKind.wrap .u64 ((i : Int) + 1) = ((i + 1 : Nat) : Int) := by rw [wrap_u64 (by omega) (by omega)]; omega
      have e2 : IntKind.wrap .i64 ((i : Int) + 1) = ((i + 1 : Nat) : Int) := by rw [wrap_i64 (by omega) (by omega)]; omega
      rw [e1, e2]
      refine ih (i + 1) (by omega) ?_
      have e : i + tz (j + 1) (a / 2 ^ i) = i + 1 + tz j (a / 2 ^ (i + 1)) := by rw [tz, if_neg hb, hq]; omega
      rw [e] at hR; exact hR

theorem popLoop (n a : Nat) (hn : n ≤ 64) (ha : a < 18446744073709551616) (R : Value → World → Prop) (w : World) :
    ∀ (j i c : Nat), i + j = n → c ≤ i → R (.int .u64 ((c + ones j (a / 2 ^ i) : Nat) : Int)) w → numm_intUn.L3 n a (c : Int) (i : Int) R w := by
  intro j
  induction j with
  | zero =>
    intro i c hi hc hR
    refine numm_intUn.step3 _ _ _ _ _ _ ?_
    unfold numm_intUn.V3
    refine cond_false' (decide_eq_false (by omega)) ?_
    refine numm_intUn.step5 _ _ _ ?_
    exact hR
  | succ j ih =>
    intro i c hi hc hR
    refine numm_intUn.step3 _ _ _ _ _ _ ?_
    unfold numm_intUn.V3
    refine cond_true' (decide_eq_true (by omega)) ?_
    have hd : a / 2 ^ i < 18446744073709551616 := Nat.lt_of_le_of_lt (Nat.div_le_self _ _) ha
    rw [wrap64_n i (by omega), fdivk a i (by omega), and1 _ hd]
    refine ⟨by omega, ?_⟩
    have hq : a / 2 ^ i / 2 = a / 2 ^ (i + 1) := by rw [Nat.div_div_eq_div_mul, Nat.pow_succ]
    have e1 : IntKind.wrap .u64 ((c : Int) + ((a / 2 ^ i % 2 : Nat) : Int)) = ((c + a / 2 ^ i % 2 : Nat) : Int) := by
      rw [← Int.natCast_add, wrap64_n _ (by omega)]
    have e2 : IntKind.wrap .i64 ((i : Int) + 1) = ((i + 1 : Nat) : Int) := by rw [wrap_i64 (by omega) (by omega)]; omega
    rw [e1, e2]
    refine ih (i + 1) _ (by omega) (by omega) ?_
    have e : c + ones (j + 1) (a / 2 ^ i) = c + a / 2 ^ i % 2 + ones j (a / 2 ^ (i + 1)) := by rw [ones, hq]; omega
    rw [e] at hR; exact hR

theorem clzLoop (n a : Nat) (hn : n ≤ 64) (ha : a < 18446744073709551616) (R : Value → World → Prop) (w : World) (h0 : a = 0 → R (.int .u64 (n : Int)) w) (h1 : ∀ c : Nat, c < n → a / 2 ^ (n - 1 - c) = 1 → R (.int .u64 (c : Int)) w) :
    ∀ (j c : Nat), c + j = n → a < 2 ^ j → ∀ z : Int, z = (j : Int) - 1 → numm_intUn.L1 a (c : Int) z R w := by
  intro j
  induction j with
  | zero =>
    intro c hc hj z hz
    subst hz
    refine numm_intUn.step1 _ _ _ _ _ ?_
    unfold numm_intUn.V1
    refine cond_false' (decide_eq_false (by omega)) ?_
    refine numm_intUn.step5 _ _ _ ?_
    have : c = n := by omega
    subst this
    exact h0 (by simpa using hj)
  | succ j ih =>
    intro c hc hj z hz
    have hz' : z = (j : Int) := by omega
    subst hz'
    refine numm_intUn.step1 _ _ _ _ _ ?_
    unfold numm_intUn.V1
    refine cond_true' (decide_eq_true (by omega)) ?_
    have hd : a / 2 ^ j < 18446744073709551616 := Nat.lt_of_le_of_lt (Nat.div_le_self _ _) ha
    rw [wrap64_n j (by omega), fdivk a j (by omega), and1 _ hd]
    refine ⟨by omega, ?_⟩
    have hq : a / 2 ^ j < 2 := by rw [Nat.div_lt_iff_lt_mul (Nat.two_pow_pos j), Nat.mul_comm, ← Nat.pow_succ]; exact hj
    by_cases hb : a / 2 ^ j = 1
    · refine cond_false' (by rw [beq_eq_false_iff_ne, hb]; decide) ?_
      refine numm_intUn.step5 _ _ _ ?_
      refine h1 c (by omega) ?_
      have : n - 1 - c = j := by omega
      rw [this]; exact hb
    · have hb0 : a / 2 ^ j = 0 := by
        generalize a / 2 ^ j = z at hq hb
        omega
      refine cond_true' (by rw [hb0]; rfl) ?_
      refine numm_intUn.step4 _ _ _ _ _ ?_
      unfold numm_intUn.V4
      have e1 : IntKind.wrap .u64 ((c : Int) + 1) = ((c + 1 : Nat) : Int) := by rw [wrap_u64 (by omega) (by omega)]; omega
      have e2 : IntKind.wrap .i64 ((j : Int) - 1) = (j : Int) - 1 := by rw [wrap_i64 (by omega) (by omega)]
      rw [e1, e2]
      exact ih (c + 1) (by omega) ((Nat.div_eq_zero_iff_lt (Nat.two_pow_pos j)).1 hb0) _ rfl

theorem top_one (x p q : Nat) (hp : x / 2 ^ p = 1) (hq : x / 2 ^ q = 1) : p = q := by
  have key : ∀ p q : Nat, x / 2 ^ p = 1 → x / 2 ^ q = 1 → ¬ p < q := by
    intro p q hp hq h
    have e : q = p + (q - p) := by omega
    rw [e, Nat.pow_add, ← Nat.div_div_eq_div_mul, hp] at hq
    have h2 : 2 ≤ 2 ^ (q - p) := by
      have := Nat.pow_le_pow_right (show 0 < 2 by decide) (show 1 ≤ q - p by omega)
      simpa using this
    rw [Nat.div_eq_of_lt (by omega)] at hq
    omega
  have h1 := key p q hp hq
  have h2 := key q p hq hp
  omega

theorem unOk32 (x : Int) (hx : 0 ≤ x ∧ x < 4294967296) (k : Int) (hk : k = 103 ∨ k = 104 ∨ k = 105) : (ap k x 0).2 = 0 := by
  rw [ap32 k x 0 (by omega) (by omega) hx (by omega)]
  rcases hk with rfl | rfl | rfl <;> rfl
theorem unOk64 (x : Int) (k : Int) (hk : k = 121 ∨ k = 122 ∨ k = 123) : (ap k x 0).2 = 0 := by
  rw [ap64 k x 0 (by omega) (by omega)]
  rcases hk with rfl | rfl | rfl <;> rfl

theorem intUn32 (op : Int) (h0 : 103 ≤ op) (h1 : op ≤ 105) (a : Nat) (ha : a < 4294967296) (w : World) :
    Runs Try.prog numm_intUn.id #[.int .i64 (op - 103), .int .i64 32, .int .u64 a] w fun v w' => v = .int .u64 (ap op a 0).1 ∧ w' = w := by
  refine numm_intUn.enter _ _ _ _ _ ?_
  unfold numm_intUn.V
  have hc : op = 103 ∨ op = 104 ∨ op = 105 := by omega
  have e31 : IntKind.wrap .i64 ((32 : Int) - 1) = (32 : Nat) - 1 := by decide +kernel
  rw [e31]
  rcases hc with rfl | rfl | rfl
  · refine cond_true' (by decide) ?_
    refine clzLoop 32 a (by decide) (by omega) _ _ ?_ ?_ 32 0 rfl ha _ rfl
    · rintro rfl
      exact ⟨congrArg (Value.int .u64) zero32.1.symm, rfl⟩
    · intro c hc h
      have ha0 : a ≠ 0 := by
        rintro rfl
        rw [Nat.zero_div] at h; omega
      obtain ⟨d, d1, d2, d3⟩ := clzf32 a ha0 ha
      have e : 31 - d = 32 - 1 - c := top_one a _ _ d3 h
      have e' : d = c := by omega
      subst e'
      exact ⟨congrArg (Value.int .u64) d1.symm, rfl⟩
  · refine cond_false' (by decide) (cond_true' (by decide) ?_)
    refine ctzLoop 32 a (by decide) (by omega) _ _ 32 0 rfl ?_
    rw [Nat.pow_zero, Nat.div_one, Nat.zero_add, ctzf32 a ha]
    exact ⟨rfl, rfl⟩
  · refine cond_false' (by decide) (cond_false' (by decide) ?_)
    refine popLoop 32 a (by decide) (by omega) _ _ 32 0 0 rfl (Nat.le_refl 0) ?_
    rw [Nat.pow_zero, Nat.div_one, Nat.zero_add, popf32 a ha]
    exact ⟨rfl, rfl⟩

theorem intUn64 (op : Int) (h0 : 121 ≤ op) (h1 : op ≤ 123) (a : Nat) (ha : a < 18446744073709551616) (w : World) :
    Runs Try.prog numm_intUn.id #[.int .i64 (op - 121), .int .i64 64, .int .u64 a] w fun v w' => v = .int .u64 (ap op a 0).1 ∧ w' = w := by
  refine numm_intUn.enter _ _ _ _ _ ?_
  unfold numm_intUn.V
  have hc : op = 121 ∨ op = 122 ∨ op = 123 := by omega
  have e31 : IntKind.wrap .i64 ((64 : Int) - 1) = (64 : Nat) - 1 := by decide +kernel
  rw [e31]
  rcases hc with rfl | rfl | rfl
  · refine cond_true' (by decide) ?_
    refine clzLoop 64 a (by decide) (by omega) _ _ ?_ ?_ 64 0 rfl ha _ rfl
    · rintro rfl
      exact ⟨congrArg (Value.int .u64) zero64.1.symm, rfl⟩
    · intro c hc h
      have ha0 : a ≠ 0 := by
        rintro rfl
        rw [Nat.zero_div] at h; omega
      obtain ⟨d, d1, d2, d3⟩ := clzf64 a ha0 ha
      have e : 63 - d = 64 - 1 - c := top_one a _ _ d3 h
      have e' : d = c := by omega
      subst e'
      exact ⟨congrArg (Value.int .u64) d1.symm, rfl⟩
  · refine cond_false' (by decide) (cond_true' (by decide) ?_)
    refine ctzLoop 64 a (by decide) (by omega) _ _ 64 0 rfl ?_
    rw [Nat.pow_zero, Nat.div_one, Nat.zero_add, ctzf64 a ha]
    exact ⟨rfl, rfl⟩
  · refine cond_false' (by decide) (cond_false' (by decide) ?_)
    refine popLoop 64 a (by decide) (by omega) _ _ 64 0 0 rfl (Nat.le_refl 0) ?_
    rw [Nat.pow_zero, Nat.div_one, Nat.zero_add, popf64 a ha]
    exact ⟨rfl, rfl⟩

section
variable {ni : Int} {p bi : Nat} {g : Ieee.Format}
theorem Fm.intCmp_P (G : Fm ni p bi g) (k x y : Int) : numm_intCmp.Pre k ni x y := by
  unfold numm_intCmp.Pre numm_intCmp.Pre1
  refine cond_intro (fun _ => cond_intro (fun _ => ⟨G.topP, trivial⟩) (fun _ => trivial)) (fun _ => trivial)
theorem Fm.intBin_P (G : Fm ni p bi g) (k : Int) (a b : Nat) (ha : a < 2 * g.signWeight) (hb : b < 2 * g.signWeight) (hn : IntKind.wrap .u64 ni ≠ 0) (hn0 : 0 ≤ IntKind.wrap .u64 ni) : numm_intBin.Pre k ni a b := by
  have hc : 0 ≤ Int.tmod (b : Int) (IntKind.wrap .u64 ni) := Int.tmod_nonneg _ (by omega)
  have hw : ∀ z : Int, 0 ≤ IntKind.wrap .u64 z := fun z => by rw [wrap_u64_mod]; omega
  unfold numm_intBin.Pre
  refine ⟨rfl, hn, ?_⟩
  have h1 : ∀ (t : Bool), numm_intBin.Pre1 k ni a b (numm_mask.F ni) (Int.tmod (b : Int) (IntKind.wrap .u64 ni)) k t := by
    intro t
    unfold numm_intBin.Pre1
    refine cond_intro (fun _ => ⟨G.divS_P _ a b ha hb, trivial⟩) (fun _ => ?_)
    refine cond_intro (fun _ => cond_intro (fun _ => trivial) (fun h => ⟨rfl, ?_, trivial⟩)) (fun _ => ?_)
    · simpa using h
    refine cond_intro (fun _ => cond_intro (fun _ => trivial) (fun h => ⟨rfl, ?_, trivial⟩)) (fun _ => ?_)
    · simpa using h
    refine cond_intro (fun _ => trivial) (fun _ => ?_)
    refine cond_intro (fun _ => trivial) (fun _ => ?_)
    refine cond_intro (fun _ => trivial) (fun _ => ?_)
    refine cond_intro (fun _ => ⟨hc, trivial⟩) (fun _ => ?_)
    refine cond_intro (fun _ => ⟨hc, G.topP, cond_intro (fun _ => ⟨hc, trivial⟩) (fun _ => trivial)⟩) (fun _ => ?_)
    refine cond_intro (fun _ => ⟨hc, trivial⟩) (fun _ => ?_)
    refine cond_intro (fun _ => ⟨hc, hw _, trivial⟩) (fun _ => ⟨hc, hw _, trivial⟩)
  refine cond_intro (fun _ => trivial) (fun _ => ?_)
  refine cond_intro (fun _ => trivial) (fun _ => ?_)
  refine cond_intro (fun _ => trivial) (fun _ => ?_)
  exact cond_intro (fun _ => h1 _) (fun _ => h1 _)
end

theorem iBin32 (op : Int) (h0 : 106 ≤ op) (h1 : op ≤ 120) (a b : Nat) (ha : a < 4294967296) (hb : b < 4294967296) (w : World) :
    Runs Try.prog numm_intBin.id #[.int .i64 (op - 106), .int .i64 32, .int .u64 a, .int .u64 b] w fun v w' => v = .tuple #[.int .u64 (ap op a b).1, .int .i64 (ap op a b).2] ∧ w' = w := by
  rw [← intBin32 op h0 h1 a b ha hb]
  exact numm_intBin.pure _ _ _ _ w (fm32.intBin_P _ a b ha hb (by rw [n32]; decide) (by rw [n32]; decide))
theorem iBin64 (op : Int) (h0 : 124 ≤ op) (h1 : op ≤ 138) (a b : Nat) (ha : a < 18446744073709551616) (hb : b < 18446744073709551616) (w : World) :
    Runs Try.prog numm_intBin.id #[.int .i64 (op - 124), .int .i64 64, .int .u64 a, .int .u64 b] w fun v w' => v = .tuple #[.int .u64 (ap op a b).1, .int .i64 (ap op a b).2] ∧ w' = w := by
  rw [← intBin64 op h0 h1 a b ha hb]
  exact numm_intBin.pure _ _ _ _ w (fm64.intBin_P _ a b ha hb (by rw [n64]; decide) (by rw [n64]; decide))
theorem iCmp32 (op : Int) (h0 : 70 ≤ op) (h1 : op ≤ 79) (a b : Nat) (ha : a < 4294967296) (hb : b < 4294967296) (w : World) :
    Runs Try.prog numm_intCmp.id #[.int .i64 (op - 70), .int .i64 32, .int .u64 a, .int .u64 b] w fun v w' => v = .int .u64 (num_flag.F (num_rel32.F op a b)) ∧ w' = w := by
  rw [← intCmp32 op h0 h1 a b ha hb]
  exact numm_intCmp.pure _ _ _ _ w (fm32.intCmp_P _ _ _)
theorem iCmp64 (op : Int) (h0 : 81 ≤ op) (h1 : op ≤ 90) (a b : Nat) (ha : a < 18446744073709551616) (hb : b < 18446744073709551616) (w : World) :
    Runs Try.prog numm_intCmp.id #[.int .i64 (op - 81), .int .i64 64, .int .u64 a, .int .u64 b] w fun v w' => v = .int .u64 (num_flag.F (num_rel64.F op a b)) ∧ w' = w := by
  rw [← intCmp64 op h0 h1 a b ha hb]
  exact numm_intCmp.pure _ _ _ _ w (fm64.intCmp_P _ _ _)

end Go.Proofs.Qxb6500320a
