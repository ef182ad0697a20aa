/-
  The model's ceil, floor, trunc, nearest.
-/
import Derived.Test.Qxb6500320aRfR
set_option linter.unusedSimpArgs false
set_option linter.unusedVariables false
set_option linter.unusedSectionVars false
set_option maxRecDepth 100000
namespace Go.Proofs.Qxb6500320a
open Go Go.Vc

/-- Is the whole part's follower taken? -/
def upK (k : Int) (s near : Bool) : Bool := if k = 2 then !s else if k = 3 then s else if k = 5 then near else false

theorem w5 (fi unit base : Int) (s up : Bool) : numm_whole.F5 fi s unit base up = IntKind.wrap .u64 (numm_sign.F fi s + cond up (IntKind.wrap .u64 (base + unit)) base) := by cases up <;> rfl
theorem w2 (fi one : Int) (s up : Bool) : numm_whole.F2 fi s one up = cond up (IntKind.wrap .u64 (numm_sign.F fi s + one)) (numm_sign.F fi s) := rfl
theorem w3 (k fi unit frac base : Int) (s odd : Bool) (hk : k = 2 ∨ k = 3 ∨ k = 4 ∨ k = 5) :
    numm_whole.F3 k fi s unit frac base odd = numm_whole.F5 fi s unit base (upK k s (decide (frac > IntKind.wrap .u64 (Int.tdiv unit 2)) || (frac == IntKind.wrap .u64 (Int.tdiv unit 2) && odd))) := by
  unfold numm_whole.F3 numm_whole.F4
  generalize decide (frac > IntKind.wrap .u64 (Int.tdiv unit 2)) = b1
  generalize (frac == IntKind.wrap .u64 (Int.tdiv unit 2)) = b2
  rcases hk with rfl | rfl | rfl | rfl <;> cases s <;> cases b1 <;> cases b2 <;> cases odd <;> rfl

section
variable {fi : Int} {p bi : Nat} {f : Ieee.Format}

theorem Fm.w3P (F : Fm fi p bi f) (k unit frac base : Int) (s odd : Bool) : numm_whole.Pre3 k fi s unit frac base odd := by
  have h5 : ∀ up, numm_whole.Pre5 fi s unit base up := fun up => by
    unfold numm_whole.Pre5 numm_whole.Pre6
    exact cond_intro (fun _ => ⟨F.signP s, trivial⟩) (fun _ => ⟨F.signP s, trivial⟩)
  have h4 : ∀ up, numm_whole.Pre4 k fi s unit frac base odd up := fun up => by
    unfold numm_whole.Pre4
    exact cond_intro (fun _ => cond_intro (fun _ => h5 _) (fun _ => cond_intro (fun _ => h5 _) (fun _ => h5 _))) (fun _ => h5 _)
  unfold numm_whole.Pre3
  exact cond_intro (fun _ => cond_intro (fun _ => h4 _) (fun _ => cond_intro (fun _ => h4 _) (fun _ => h4 _))) (fun _ => cond_intro (fun _ => h4 _) (fun _ => h4 _))

theorem Fm.e_p1 (F : Fm fi p bi f) : IntKind.wrap .i64 ((p : Int) - 1) = ((p - 1 : Nat) : Int) := by
  have := F.p1; have := F.p2
  rw [wrap_i64 (by omega) (by omega)]; omega
theorem Fm.e_one (F : Fm fi p bi f) : IntKind.wrap .u64 (IntKind.wrap .u64 (numm_bias.F fi) * 2 ^ (min (Int.toNat (IntKind.wrap .u64 (IntKind.wrap .i64 ((p : Int) - 1)))) (IntKind.bits .u64))) = ((bi * f.binade : Nat) : Int) := by
  have h1 := F.p1; have h2 := F.p2; have h3 := F.b2; have h4 := F.sw; have h5 := F.sw2
  have hm : bi * f.binade ≤ (2 * bi + 2) * f.binade := Nat.mul_le_mul_right _ (by omega)
  rw [F.e_p1, wrap64_n _ (by omega), F.bias, wrap64_n bi (by omega), Int.toNat_natCast, shl64_n bi (p - 1) (by omega), ← F.bin, Nat.mod_eq_of_lt (by omega)]
theorem Fm.e_bin (F : Fm fi p bi f) : IntKind.wrap .u64 ((1 : Int) * 2 ^ (min (Int.toNat (IntKind.wrap .u64 (IntKind.wrap .i64 ((p : Int) - 1)))) (IntKind.bits .u64))) = ((f.binade : Nat) : Int) := by
  have h1 := F.p1; have h2 := F.p2
  rw [F.e_p1, wrap64_n _ (by omega), Int.toNat_natCast, shl1 (p - 1) (by omega), ← F.bin]

theorem Fm.w1_low (F : Fm fi p bi f) (k ex : Int) (s : Bool) (a r : Nat) (hk : k = 2 ∨ k = 3 ∨ k = 4 ∨ k = 5) (hex : ex < 0) :
    numm_whole.F1 k fi a p s r ex false = numm_whole.F2 fi s ((bi * f.binade : Nat) : Int) (upK k s (decide ((bi - 1) * f.binade < r))) ∧ numm_whole.Pre1 k fi a p s r ex false := by
  have h1 := F.p1; have h2 := F.p2; have h3 := F.b1; have h4 := F.sw; have h5 := F.sw2
  have hm : bi * f.binade ≤ (2 * bi + 2) * f.binade := Nat.mul_le_mul_right _ (by omega)
  have e3 : IntKind.wrap .u64 (((bi * f.binade : Nat) : Int) - ((f.binade : Nat) : Int)) = (((bi - 1) * f.binade : Nat) : Int) := by
    have e : bi * f.binade = (bi - 1) * f.binade + f.binade := by
      have : bi = (bi - 1) + 1 := by omega
      calc bi * f.binade = ((bi - 1) + 1) * f.binade := by rw [← this]
        _ = _ := by rw [Nat.succ_mul]
    have e4 : ((bi * f.binade : Nat) : Int) - ((f.binade : Nat) : Int) = (((bi - 1) * f.binade : Nat) : Int) := by rw [e]; omega
    rw [e4, wrap64_n _ (by omega)]
  have h2P : ∀ up, numm_whole.Pre2 fi s ((bi * f.binade : Nat) : Int) up := fun up => by
    unfold numm_whole.Pre2
    exact cond_intro (fun _ => ⟨F.signP s, trivial⟩) (fun _ => ⟨F.signP s, trivial⟩)
  have hc : decide ((r : Int) > (((bi - 1) * f.binade : Nat) : Int)) = decide ((bi - 1) * f.binade < r) := by
    by_cases h : (bi - 1) * f.binade < r
    · rw [decide_eq_true h, decide_eq_true (by omega)]
    · rw [decide_eq_false h, decide_eq_false (by omega)]
  constructor
  · unfold numm_whole.F1
    rw [F.e_one, F.e_bin, e3, hc, decide_eq_true hex]
    generalize decide ((bi - 1) * f.binade < r) = b1
    rcases hk with rfl | rfl | rfl | rfl <;> cases s <;> rfl
  · unfold numm_whole.Pre1
    rw [F.e_one, F.e_bin, e3, hc, decide_eq_true hex, F.e_p1, wrap64_n _ (by omega)]
    refine ⟨by omega, ?_⟩
    have hp : (0 : Int) ≤ ((p - 1 : Nat) : Int) := by omega
    generalize decide ((bi - 1) * f.binade < r) = b1 at *
    refine cond_true' rfl ?_
    refine cond_intro (fun _ => cond_intro (fun _ => h2P _) (fun _ => cond_intro (fun _ => cond_intro (fun _ => h2P _) (fun _ => cond_intro (fun _ => ⟨hp, h2P _⟩) (fun _ => h2P _))) (fun _ => cond_intro (fun _ => ⟨hp, h2P _⟩) (fun _ => h2P _)))) (fun _ => cond_intro (fun _ => cond_intro (fun _ => h2P _) (fun _ => cond_intro (fun _ => ⟨hp, h2P _⟩) (fun _ => h2P _))) (fun _ => cond_intro (fun _ => ⟨hp, h2P _⟩) (fun _ => h2P _)))

theorem Fm.w1_high (F : Fm fi p bi f) (k : Int) (s : Bool) (a r x : Nat) (hx : x < p - 1) (hr : r < f.signWeight) (U : Nat) (hU : U = 2 ^ (p - 1 - x)) :
    numm_whole.F1 k fi a p s r (x : Int) false = cond (r % U == 0) (a : Int) (numm_whole.F3 k fi s (U : Int) ((r % U : Nat) : Int) ((r - r % U : Nat) : Int) (x == 0 || (r - r % U) / U % 2 == 1)) ∧ numm_whole.Pre1 k fi a p s r (x : Int) false := by
  have h1 := F.p1; have h2 := F.p2; have h3 := F.b1; have h4 := F.sw; have h5 := F.sw2
  have e0 : IntKind.wrap .i64 (((p - 1 : Nat) : Int) - (x : Int)) = ((p - 1 - x : Nat) : Int) := by rw [wrap_i64 (by omega) (by omega)]; omega
  have eU : IntKind.wrap .u64 ((1 : Int) * 2 ^ (min (Int.toNat (IntKind.wrap .u64 (IntKind.wrap .i64 (IntKind.wrap .i64 ((p : Int) - 1) - (x : Int))))) (IntKind.bits .u64))) = (U : Int) := by
    rw [F.e_p1, e0, wrap64_n _ (by omega), Int.toNat_natCast, shl1 _ (by omega), hU]
  have hU0 : 0 < U := by rw [hU]; exact Nat.two_pow_pos _
  have hmod : r % U ≤ r := Nat.mod_le _ _
  have eb : IntKind.wrap .u64 ((r : Int) - ((r % U : Nat) : Int)) = ((r - r % U : Nat) : Int) := by
    have : (r : Int) - ((r % U : Nat) : Int) = ((r - r % U : Nat) : Int) := by omega
    rw [this, wrap64_n _ (by omega)]
  have hq : (r - r % U) / U < 18446744073709551616 := Nat.lt_of_le_of_lt (Nat.div_le_self _ _) (by omega)
  have eo : ((Int.tmod (IntKind.wrap .u64 (Int.tdiv ((r - r % U : Nat) : Int) (U : Int))) 2) == (1 : Int)) = ((r - r % U) / U % 2 == 1) := by
    rw [← Int.ofNat_tdiv, wrap64_n _ hq]
    have : Int.tmod (((r - r % U) / U : Nat) : Int) 2 = (((r - r % U) / U % 2 : Nat) : Int) := (Int.ofNat_tmod _ 2).symm
    rw [this]
    generalize (r - r % U) / U % 2 = z
    by_cases h : z = 1
    · subst h; rfl
    · have a1 : ((z : Int) == 1) = false := by rw [beq_eq_false_iff_ne]; omega
      have a2 : (z == 1) = false := by rw [beq_eq_false_iff_ne]; omega
      rw [a1, a2]
  have ez : (((r % U : Nat) : Int) == (0 : Int)) = (r % U == 0) := by
    generalize r % U = z
    by_cases h : z = 0
    · subst h; rfl
    · have a1 : ((z : Int) == 0) = false := by rw [beq_eq_false_iff_ne]; omega
      have a2 : (z == 0) = false := by rw [beq_eq_false_iff_ne]; omega
      rw [a1, a2]
  have ex : ((x : Int) == (0 : Int)) = (x == 0) := by
    by_cases h : x = 0
    · subst h; rfl
    · have a1 : ((x : Int) == 0) = false := by rw [beq_eq_false_iff_ne]; omega
      have a2 : (x == 0) = false := by rw [beq_eq_false_iff_ne]; omega
      rw [a1, a2]
  have hUn : (U : Int) ≠ 0 := by omega
  have hneg : decide ((x : Int) < 0) = false := decide_eq_false (by omega)
  constructor
  · unfold numm_whole.F1
    rw [eU, ← Int.ofNat_tmod, eb, eo, ez, ex, hneg]
    show cond (r % U == 0) _ _ = cond (r % U == 0) _ _
    generalize (r % U == 0) = b1
    generalize ((r - r % U) / U % 2 == 1) = b2
    generalize (x == 0) = b3
    cases b3 <;> rfl
  · unfold numm_whole.Pre1
    rw [eU, ← Int.ofNat_tmod, eb, eo, ez, ex, hneg, F.e_p1, wrap64_n (p - 1) (by omega), e0, wrap64_n (p - 1 - x) (by omega)]
    refine ⟨by omega, ?_⟩
    show _ ∧ _ ∧ _ ∧ _
    exact ⟨by omega, rfl, hUn, cond_intro (fun _ => trivial) (fun _ => cond_intro (fun _ => F.w3P _ _ _ _ _ _) (fun _ => ⟨rfl, hUn, F.w3P _ _ _ _ _ _⟩))⟩

theorem Fm.val_at (F : Fm fi p bi f) (E x : Nat) (hE : 1 ≤ E) (hx : x ≤ f.binade) : val f (E * f.binade + x) = (f.binade + x) * 2 ^ (E - 1) := by
  have hb : 0 < f.binade := Nat.two_pow_pos _
  have hEb : f.binade ≤ E * f.binade := Nat.le_mul_of_pos_left _ hE
  unfold val
  rw [if_neg (by omega)]
  rcases Nat.lt_or_eq_of_le hx with h | h
  · rw [Nat.mul_comm E, Nat.mul_add_mod, Nat.mod_eq_of_lt h, Nat.mul_add_div hb, Nat.div_eq_of_lt h, Nat.add_zero]
  · subst h
    have e1 : E * f.binade + f.binade = f.binade * (E + 1) := by rw [Nat.mul_comm, Nat.mul_add, Nat.mul_one]
    rw [e1, Nat.mul_mod_right, Nat.mul_div_cancel_left _ hb]
    have e2 : E + 1 - 1 = (E - 1) + 1 := by omega
    rw [e2, Nat.pow_succ, Nat.add_zero, ← Nat.two_mul, Nat.mul_comm (2 ^ (E - 1)) 2, ← Nat.mul_assoc, Nat.mul_comm f.binade 2]

theorem Fm.write_int (F : Fm fi p bi f) (s : Bool) (T R : Nat) (hR : R < f.infRung) (h : val f R = T * 2 ^ (bi + p - 2)) : f.write (.number s T 0) = f.word s R := by
  have hl := F.least; have h1 := F.p1; have h3 := F.b1
  refine write_rung f (2 * bi + 1) F.infR (by omega) s T 0 f.leastPlace R hR (by omega) (Int.le_refl _) ?_
  have e1 : (0 - f.leastPlace).toNat = bi + p - 2 := by omega
  have e2 : (f.leastPlace - f.leastPlace).toNat = 0 := by omega
  rw [e1, e2, Nat.pow_zero, Nat.mul_one, h]

/-- Below 1. -/
theorem Fm.low_spec (F : Fm fi p bi f) (r : Nat) (hr : r < bi * f.binade) (hr0 : r ≠ 0) (K : Nat) (hK : K = bi + p - 2) :
    0 < val f r ∧ val f r < 2 ^ K ∧ (2 ^ K < 2 * val f r ↔ (bi - 1) * f.binade < r) := by
  have h1 := F.p1; have h3 := F.b1
  have hbin := F.bin
  have v1 : val f (bi * f.binade) = 2 ^ K := by
    have := F.val_at bi 0 (by omega) (Nat.zero_le _)
    rw [Nat.add_zero, Nat.add_zero] at this
    rw [this, hbin, ← Nat.pow_add, hK]; congr 1; omega
  have v2 : 2 * val f ((bi - 1) * f.binade) = 2 ^ K := by
    have := F.val_at (bi - 1) 0 (by omega) (Nat.zero_le _)
    rw [Nat.add_zero, Nat.add_zero] at this
    rw [this, hbin, ← Nat.pow_add, Nat.mul_comm, ← Nat.pow_succ, hK]; congr 1; omega
  refine ⟨?_, ?_, ?_⟩
  · have := val_lt f (show 0 < r by omega)
    rw [val_zero] at this; exact this
  · rw [← v1]; exact val_lt f hr
  · constructor
    · intro h
      rcases Nat.lt_or_ge ((bi - 1) * f.binade) r with g | g
      · exact g
      · exfalso
        have : val f r ≤ val f ((bi - 1) * f.binade) := by
          rcases Nat.lt_or_eq_of_le g with g1 | g1
          · exact Nat.le_of_lt (val_lt f g1)
          · rw [g1]; exact Nat.le_refl _
        omega
    · intro h
      have := val_lt f h
      omega

/-- From 1 on. -/
theorem Fm.high_spec (F : Fm fi p bi f) (r x : Nat) (hx : x < p - 1) (hr : r / f.binade = bi + x) (U K : Nat) (hU : U = 2 ^ (p - 1 - x)) (hK : K = bi + p - 2) :
    ∃ T c : Nat, 0 < c ∧ T = val f r / 2 ^ K ∧ val f r % 2 ^ K = r % U * c ∧ 2 ^ K = U * c ∧ val f (r - r % U) = T * 2 ^ K ∧ val f (r - r % U + U) = (T + 1) * 2 ^ K ∧ r - r % U + U < f.infRung ∧ r % U ≤ r
      ∧ ((x = 0 ∨ (r - r % U) / U % 2 = 1) ↔ T % 2 = 1) ∧ (∃ H, U = 2 * H) := by
  have h1 := F.p1; have h2 := F.p2; have h3 := F.b1
  have hb : 0 < f.binade := Nat.two_pow_pos _
  have hbin := F.bin
  obtain ⟨Q, hQ⟩ : ∃ Q, Q = 2 ^ x := ⟨_, rfl⟩
  have hU0 : 0 < U := by rw [hU]; exact Nat.two_pow_pos _
  have hUQ : f.binade = U * Q := by rw [hbin, hU, hQ, ← Nat.pow_add]; congr 1; omega
  obtain ⟨fr, hfr⟩ : ∃ fr, fr = r % f.binade := ⟨_, rfl⟩
  have hfrlt : fr < f.binade := by rw [hfr]; exact Nat.mod_lt _ hb
  have hrE : r = (bi + x) * f.binade + fr := by
    have := Nat.div_add_mod r f.binade
    rw [hr, ← hfr, Nat.mul_comm] at this; exact this.symm
  obtain ⟨c, hc⟩ : ∃ c, c = 2 ^ (bi + x - 1) := ⟨_, rfl⟩
  have hc0 : 0 < c := by rw [hc]; exact Nat.two_pow_pos _
  have hKc : 2 ^ K = U * c := by rw [hU, hc, ← Nat.pow_add, hK]; congr 1; omega
  have hM : val f r = (f.binade + fr) * c := by
    rw [hrE, F.val_at (bi + x) fr (by omega) (by omega), hc]
  have hmodr : r % U = fr % U := by
    have e : r = U * ((bi + x) * Q) + fr := by
      rw [hrE, hUQ]; congr 1; rw [← Nat.mul_assoc, Nat.mul_comm (bi + x) U, Nat.mul_assoc]
    rw [e, Nat.mul_add_mod]
  have hfrd := Nat.div_add_mod fr U
  have hfq : fr / U < Q := by rw [Nat.div_lt_iff_lt_mul hU0, Nat.mul_comm, ← hUQ]; exact hfrlt
  have hbase : r - r % U = (bi + x) * f.binade + U * (fr / U) := by rw [hmodr]; omega
  have hTd : (f.binade + fr) / U = Q + fr / U := by rw [hUQ, Nat.mul_add_div hU0]
  have hT : val f r / 2 ^ K = Q + fr / U := by rw [hM, hKc, Nat.mul_div_mul_right _ _ hc0, hTd]
  have hUle : U * (fr / U) + U ≤ f.binade := by
    have : U * (fr / U + 1) ≤ U * Q := Nat.mul_le_mul_left _ hfq
    rw [Nat.mul_add, Nat.mul_one, ← hUQ] at this; exact this
  refine ⟨Q + fr / U, c, hc0, hT.symm, ?_, hKc, ?_, ?_, ?_, Nat.mod_le _ _, ?_, ?_⟩
  · rw [hM, hKc, Nat.mul_mod_mul_right, hUQ, Nat.mul_add_mod, hmodr]
  · rw [hbase, F.val_at (bi + x) _ (by omega) (by omega), ← hc, hKc, hUQ, ← Nat.mul_add, ← Nat.mul_assoc, Nat.mul_comm (Q + fr / U) U]
  · have e : r - r % U + U = (bi + x) * f.binade + (U * (fr / U) + U) := by rw [hbase, Nat.add_assoc]
    rw [e, F.val_at (bi + x) _ (by omega) hUle, ← hc, hKc]
    have e2 : f.binade + (U * (fr / U) + U) = (Q + fr / U + 1) * U := by
      rw [hUQ, Nat.add_mul, Nat.add_mul, Nat.one_mul, Nat.mul_comm Q U, Nat.mul_comm (fr / U) U, Nat.add_assoc]
    rw [e2, Nat.mul_assoc]
  · have h4 : r - r % U + U ≤ (bi + x + 1) * f.binade := by rw [hbase, Nat.succ_mul]; omega
    have h5 : (bi + x + 1) * f.binade < (2 * bi + 1) * f.binade := Nat.mul_lt_mul_of_pos_right (by omega) hb
    rw [F.infR]; omega
  · have e1 : (r - r % U) / U = (bi + x) * Q + fr / U := by
      have : r - r % U = U * ((bi + x) * Q + fr / U) := by
        rw [hbase, hUQ, Nat.mul_add]; congr 1; rw [← Nat.mul_assoc, Nat.mul_comm (bi + x) U, Nat.mul_assoc]
      rw [this, Nat.mul_div_cancel_left _ hU0]
    rw [e1]
    by_cases hx0 : x = 0
    · subst hx0
      have hQ1 : Q = 1 := hQ
      have hf0 : fr / U = 0 := by rw [hQ1] at hfq; exact Nat.lt_one_iff.1 hfq
      constructor
      · intro _; rw [hQ1, hf0]
      · intro _; exact .inl rfl
    · have e2 : Q = 2 * 2 ^ (x - 1) := by
        rw [hQ, Nat.mul_comm, ← Nat.pow_succ]; congr 1; omega
      have e3 : (bi + x) * Q = 2 * ((bi + x) * 2 ^ (x - 1)) := by rw [e2, Nat.mul_left_comm]
      rw [e3, e2]
      generalize (bi + x) * 2 ^ (x - 1) = y
      generalize 2 ^ (x - 1) = z
      generalize fr / U = u
      constructor
      · rintro (h | h)
        · exact absurd h hx0
        · omega
      · intro h; right; omega
  · refine ⟨2 ^ (p - 1 - x - 1), ?_⟩
    rw [hU, Nat.mul_comm, ← Nat.pow_succ]; congr 1; omega

/-- What the four answer. -/
def nearUp (M K : Nat) : Bool := decide (2 ^ K < 2 * (M % 2 ^ K)) || (2 ^ K == 2 * (M % 2 ^ K) && M / 2 ^ K % 2 == 1)

theorem Fm.word_wrap (F : Fm fi p bi f) (s : Bool) (R : Nat) (hR : R < f.signWeight) : IntKind.wrap .u64 (numm_sign.F fi s + (R : Int)) = ((f.word s R : Nat) : Int) := by
  rw [F.signF, ← Int.natCast_add, word_add, wrap64_n _ (F.word_lt s R hR)]

theorem Fm.whole_F (F : Fm fi p bi f) (k : Int) (hk : k = 2 ∨ k = 3 ∨ k = 4 ∨ k = 5) (a : Nat) (ha : a < 2 * f.signWeight) (K : Nat) (hK : K = bi + p - 2) :
    numm_whole.F k fi a = (if f.infRung < rung f a then ((nanOf f : Nat) : Int) else if (bi + p - 1) * f.binade ≤ rung f a ∨ val f (rung f a) % 2 ^ K = 0 then (a : Int)
      else ((f.write (.number (sgb f a) (val f (rung f a) / 2 ^ K + (upK k (sgb f a) (nearUp (val f (rung f a)) K)).toNat) 0) : Nat) : Int)) ∧ numm_whole.Pre k fi a := by
  have h1 := F.p1; have h2 := F.p2; have h3 := F.b1; have h32 := F.b2; have h4 := F.sw; have h5 := F.sw2
  have hb : 0 < f.binade := Nat.two_pow_pos _
  have hsw : 0 < f.signWeight := Nat.two_pow_pos _
  have ha64 : a < 18446744073709551616 := by omega
  obtain ⟨r, hr⟩ : ∃ r, r = rung f a := ⟨_, rfl⟩
  have hrs : r < f.signWeight := by rw [hr]; exact Nat.mod_lt _ hsw
  have hq : r / f.binade < 2 * bi + 2 := by rw [Nat.div_lt_iff_lt_mul hb, ← h4]; exact hrs
  have e2 : IntKind.wrap .u64 ((p - 1 : Nat) : Int) = ((p - 1 : Nat) : Int) := wrap64_n _ (by omega)
  have e3 : Int.fdiv (r : Int) (2 ^ (min (Int.toNat ((p - 1 : Nat) : Int)) (IntKind.bits .u64))) = ((r / f.binade : Nat) : Int) := by rw [fdivk r (p - 1) (by omega), ← F.bin]
  obtain ⟨E, hE⟩ : ∃ E, E = r / f.binade := ⟨_, rfl⟩
  have e4 : IntKind.wrap .i64 (IntKind.wrap .i64 ((r / f.binade : Nat) : Int) - (bi : Int)) = (E : Int) - (bi : Int) := by
    rw [← hE] at hq ⊢
    rw [wrap_i64 (x := (E : Int)) (by omega) (by omega), wrap_i64 (by omega) (by omega)]
  unfold numm_whole.F numm_whole.Pre
  rw [F.isNaNF a ha64, F.andTop a ha64, F.ge_top a ha, F.canon, F.prec, F.bias, F.e_p1, e2, ← hr, e3, e4]
  have hP0 : (0 : Int) ≤ ((p - 1 : Nat) : Int) := by omega
  by_cases hn : f.infRung < r
  · rw [if_pos hn, decide_eq_true hn]
    exact ⟨rfl, F.isNaNP _, trivial⟩
  · rw [if_neg hn, decide_eq_false hn]
    have fold : ∀ (b : Bool), ((E : Int) - (bi : Int) ≥ ((p - 1 : Nat) : Int) → b = true) → (¬ (E : Int) - (bi : Int) ≥ ((p - 1 : Nat) : Int) → b = ((r : Int) == 0)) → ∀ (X : Int), (numm_whole.F1 k fi a p (sgb f a) r ((E : Int) - (bi : Int)) b = X ∧ numm_whole.Pre1 k fi a p (sgb f a) r ((E : Int) - (bi : Int)) b) →
        (cond false ((nanOf f : Nat) : Int) (cond (decide ((E : Int) - (bi : Int) ≥ ((p - 1 : Nat) : Int))) (numm_whole.F1 k fi a p (sgb f a) r ((E : Int) - (bi : Int)) true) (numm_whole.F1 k fi a p (sgb f a) r ((E : Int) - (bi : Int)) ((r : Int) == 0))) = X
        ∧ numm_isNaN.Pre fi a ∧ cond false True (numm_top.Pre fi ∧ numm_top.Pre fi ∧ 0 ≤ ((p - 1 : Nat) : Int) ∧ cond (decide ((E : Int) - (bi : Int) ≥ ((p - 1 : Nat) : Int))) (numm_whole.Pre1 k fi a p (sgb f a) r ((E : Int) - (bi : Int)) true) (numm_whole.Pre1 k fi a p (sgb f a) r ((E : Int) - (bi : Int)) ((r : Int) == 0)))) := by
      intro b b1 b2 X hX
      by_cases h : (E : Int) - (bi : Int) ≥ ((p - 1 : Nat) : Int)
      · have := b1 h
        subst this
        rw [decide_eq_true h]
        exact ⟨hX.1, F.isNaNP _, F.topP, F.topP, hP0, hX.2⟩
      · have := b2 h
        rw [this] at hX
        rw [decide_eq_false h]
        exact ⟨hX.1, F.isNaNP _, F.topP, F.topP, hP0, hX.2⟩
    have hbig : (bi + p - 1) * f.binade ≤ r ↔ (E : Int) - (bi : Int) ≥ ((p - 1 : Nat) : Int) := by
      rw [← Nat.le_div_iff_mul_le hb, ← hE]; omega
    by_cases hge : (bi + p - 1) * f.binade ≤ r
    · rw [if_pos (.inl hge)]
      exact fold true (fun _ => rfl) (fun h => absurd (hbig.1 hge) h) _ ⟨rfl, trivial⟩
    · have hge' : ¬ (E : Int) - (bi : Int) ≥ ((p - 1 : Nat) : Int) := fun h => hge (hbig.2 h)
      by_cases hr0 : r = 0
      · have hv0 : val f r % 2 ^ K = 0 := by rw [hr0, val_zero]; exact Nat.zero_mod _
        rw [if_pos (.inr hv0)]
        exact fold true (fun _ => rfl) (fun _ => by rw [hr0]; rfl) _ ⟨rfl, trivial⟩
      · have hrb : ((r : Int) == 0) = false := by rw [beq_eq_false_iff_ne]; omega
        refine fold false (fun h => absurd h hge') (fun _ => hrb.symm) _ ?_
        by_cases hlow : E < bi
        · have hrl : r < bi * f.binade := by rw [← Nat.div_lt_iff_lt_mul hb, ← hE]; exact hlow
          obtain ⟨v1, v2, v3⟩ := F.low_spec r hrl hr0 K hK
          have hm : val f r % 2 ^ K = val f r := Nat.mod_eq_of_lt v2
          have hd : val f r / 2 ^ K = 0 := Nat.div_eq_of_lt v2
          rw [if_neg (by rintro (h | h); exact hge h; rw [hm] at h; omega)]
          obtain ⟨t1, t2⟩ := F.w1_low k ((E : Int) - (bi : Int)) (sgb f a) a r hk (by omega)
          refine ⟨?_, t2⟩
          rw [t1, w2]
          have hnu : nearUp (val f r) K = decide ((bi - 1) * f.binade < r) := by
            unfold nearUp
            rw [hd, hm]
            by_cases h : (bi - 1) * f.binade < r
            · rw [decide_eq_true h, decide_eq_true (v3.2 h)]; rfl
            · rw [decide_eq_false h, decide_eq_false (fun g => h (v3.1 g))]
              show (_ && (0 % 2 == 1)) = false
              simp
          rw [hnu, hd]
          have hone : val f (bi * f.binade) = 1 * 2 ^ (bi + p - 2) := by
            have := F.val_at bi 0 (by omega) (Nat.zero_le _)
            rw [Nat.add_zero, Nat.add_zero] at this
            rw [this, F.bin, ← Nat.pow_add, Nat.one_mul]; congr 1; omega
          have hoi : bi * f.binade < f.infRung := by rw [F.infR]; exact Nat.mul_lt_mul_of_pos_right (by omega) hb
          cases upK k (sgb f a) (decide ((bi - 1) * f.binade < r))
          · show numm_sign.F fi (sgb f a) = _
            rw [F.signF]
            have : f.write (.number (sgb f a) 0 0) = f.word (sgb f a) 0 := F.write_int _ 0 0 (by omega) (by rw [val_zero, Nat.zero_mul])
            show _ = ((f.write (.number (sgb f a) 0 0) : Nat) : Int)
            rw [this]
          · show IntKind.wrap .u64 _ = _
            rw [F.word_wrap _ _ (by have := F.infLt; omega)]
            show _ = ((f.write (.number (sgb f a) 1 0) : Nat) : Int)
            rw [F.write_int _ 1 _ hoi hone]
        · obtain ⟨x, hx⟩ : ∃ x, E = bi + x := ⟨E - bi, by omega⟩
          have hxp : x < p - 1 := by omega
          have hexi : (E : Int) - (bi : Int) = (x : Int) := by omega
          rw [hexi]
          obtain ⟨U, hU⟩ : ∃ U, U = 2 ^ (p - 1 - x) := ⟨_, rfl⟩
          obtain ⟨T, c, c0, c1, c2, c3, c4, c5, c6, c7, c8, ⟨H, c9⟩⟩ := F.high_spec r x hxp (by rw [← hE]; exact hx) U K hU hK
          obtain ⟨t1, t2⟩ := F.w1_high k (sgb f a) a r x hxp hrs U hU
          refine ⟨?_, t2⟩
          rw [t1]
          by_cases hz : r % U = 0
          · have : val f r % 2 ^ K = 0 := by rw [c2, hz, Nat.zero_mul]
            rw [if_pos (.inr this), hz]; rfl
          · have hne : val f r % 2 ^ K ≠ 0 := by
              rw [c2]; intro h
              rcases Nat.mul_eq_zero.1 h with h | h
              · exact hz h
              · omega
            rw [if_neg (by rintro (h | h); exact hge h; exact hne h)]
            have hzb : (r % U == 0) = false := by rw [beq_eq_false_iff_ne]; exact hz
            rw [hzb, cond_false, w3 _ _ _ _ _ _ _ hk, w5, ← c1]
            have hU64 : U ≤ 2 ^ 52 := by rw [hU]; exact Nat.pow_le_pow_right (by decide) (by omega)
            have eh : IntKind.wrap .u64 (Int.tdiv (U : Int) 2) = (H : Int) := by
              have : Int.tdiv (U : Int) 2 = ((U / 2 : Nat) : Int) := (Int.ofNat_tdiv U 2).symm
              rw [this, c9, Nat.mul_div_cancel_left _ (by decide)]
              refine wrap64_n H ?_
              have : (2 : Nat) ^ 52 = 4503599627370496 := by decide
              omega
            rw [eh]
            have hnu : (decide (((r % U : Nat) : Int) > (H : Int)) || (((r % U : Nat) : Int) == (H : Int) && (x == 0 || (r - r % U) / U % 2 == 1))) = nearUp (val f r) K := by
              unfold nearUp
              rw [← c1, c2, c3]
              have g1 : (U * c < 2 * (r % U * c)) ↔ H < r % U := by
                rw [← Nat.mul_assoc, Nat.mul_lt_mul_right c0, c9]; omega
              have g2 : (U * c = 2 * (r % U * c)) ↔ r % U = H := by
                rw [← Nat.mul_assoc]
                constructor
                · intro h
                  have := Nat.eq_of_mul_eq_mul_right c0 h
                  omega
                · intro h; rw [h, c9]
              have b1 : decide (((r % U : Nat) : Int) > (H : Int)) = decide (U * c < 2 * (r % U * c)) := by
                by_cases h : H < r % U
                · rw [decide_eq_true (g1.2 h), decide_eq_true (by omega)]
                · rw [decide_eq_false (fun g => h (g1.1 g)), decide_eq_false (by omega)]
              have b2 : (((r % U : Nat) : Int) == (H : Int)) = (U * c == 2 * (r % U * c)) := by
                by_cases h : r % U = H
                · rw [show (U * c == 2 * (r % U * c)) = true from beq_iff_eq.2 (g2.2 h), h]; exact beq_self_eq_true _
                · rw [show (U * c == 2 * (r % U * c)) = false from beq_eq_false_iff_ne.2 (fun g => h (g2.1 g))]
                  rw [beq_eq_false_iff_ne]; omega
              have b3 : (x == 0 || (r - r % U) / U % 2 == 1) = (T % 2 == 1) := by
                by_cases h : T % 2 = 1
                · rw [show (T % 2 == 1) = true from beq_iff_eq.2 h]
                  rcases c8.2 h with g | g
                  · rw [show (x == 0) = true from beq_iff_eq.2 g]; rfl
                  · rw [show ((r - r % U) / U % 2 == 1) = true from beq_iff_eq.2 g, Bool.or_true]
                · rw [show (T % 2 == 1) = false from beq_eq_false_iff_ne.2 h]
                  have g1 : x ≠ 0 := fun g => h (c8.1 (.inl g))
                  have g2 : (r - r % U) / U % 2 ≠ 1 := fun g => h (c8.1 (.inr g))
                  rw [show (x == 0) = false from beq_eq_false_iff_ne.2 g1, show ((r - r % U) / U % 2 == 1) = false from beq_eq_false_iff_ne.2 g2]; rfl
              rw [b1, b2, b3]
            rw [hnu]
            have hinf := F.infLt
            cases upK k (sgb f a) (nearUp (val f r) K)
            · show IntKind.wrap .u64 (numm_sign.F fi (sgb f a) + ((r - r % U : Nat) : Int)) = _
              rw [F.word_wrap _ _ (by omega)]
              show _ = ((f.write (.number (sgb f a) T 0) : Nat) : Int)
              rw [F.write_int _ T (r - r % U) (by omega) (by rw [← hK]; exact c4)]
            · show IntKind.wrap .u64 (numm_sign.F fi (sgb f a) + IntKind.wrap .u64 (((r - r % U : Nat) : Int) + (U : Int))) = _
              rw [← Int.natCast_add, wrap64_n _ (by omega), F.word_wrap _ _ (by omega)]
              show _ = ((f.write (.number (sgb f a) (T + 1) 0) : Nat) : Int)
              rw [F.write_int _ (T + 1) (r - r % U + U) c6 (by rw [← hK]; exact c5)]
end

end Go.Proofs.Qxb6500320a
