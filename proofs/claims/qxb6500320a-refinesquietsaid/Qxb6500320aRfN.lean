/-
  The model's signed division.
-/
import Derived.Test.Qxb6500320aRfM
set_option linter.unusedSimpArgs false
set_option linter.unusedVariables false
set_option linter.unusedSectionVars false
set_option maxRecDepth 100000
namespace Go.Proofs.Qxb6500320a
open Go Go.Vc

/-- The magnitude of a word read as a signed number. -/
def mg (S v : Nat) : Nat := if S ≤ v then 2 * S - v else v
theorem sgn_mg (S v : Nat) (h : v < 2 * S) : sgn (S : Int) (v : Int) = if S ≤ v then -((mg S v : Nat) : Int) else ((mg S v : Nat) : Int) := by
  unfold sgn mg
  by_cases hs : S ≤ v
  · rw [if_pos hs, if_pos hs, if_pos (by omega)]; omega
  · rw [if_neg hs, if_neg hs, if_neg (by omega)]

theorem emod_of (S : Nat) (q : Nat) (h : q < 2 * S) : ((q : Int)) % (2 * (S : Int)) = (q : Int) := Int.emod_eq_of_lt (by omega) (by omega)
theorem emod_neg (S : Nat) (q : Nat) (h : q < 2 * S) : (-(q : Int)) % (2 * (S : Int)) = (((2 * S - q) % (2 * S) : Nat) : Int) := by
  by_cases h0 : q = 0
  · subst h0; simp
  · rw [Nat.mod_eq_of_lt (by omega)]
    have e : (-(q : Int)) = ((2 * S - q : Nat) : Int) + (2 * (S : Int)) * (-1) := by omega
    rw [e, Int.add_mul_emod_self_left]
    exact emod_of S (2 * S - q) (by omega)

section
variable {ni : Int} {p bi : Nat} {g : Ieee.Format}

theorem Fm.magF (G : Fm ni p bi g) (v : Nat) (hv : v < 2 * g.signWeight) : numm_mag.F ni v = ((mg g.signWeight v : Nat) : Int) := by
  have hpos : 0 < g.signWeight := Nat.two_pow_pos _
  unfold numm_mag.F mg
  rw [G.topF, G.minusF v hv]
  by_cases h : g.signWeight ≤ v
  · rw [decide_eq_true (by omega), cond_true, if_pos h, Nat.mod_eq_of_lt (by omega)]
  · rw [decide_eq_false (by omega), cond_false, if_neg h]

theorem Fm.divS_F (G : Fm ni p bi g) (quo : Bool) (a b : Nat) (ha : a < 2 * g.signWeight) (hb : b < 2 * g.signWeight) :
    numm_divS.F quo ni a b = if b = 0 then (0, 39) else if quo then (if a = g.signWeight ∧ b = 2 * g.signWeight - 1 then (0, 40) else (Int.tdiv (sgn (g.signWeight : Int) a) (sgn (g.signWeight : Int) b) % (2 * (g.signWeight : Int)), 0)) else (Int.tmod (sgn (g.signWeight : Int) a) (sgn (g.signWeight : Int) b) % (2 * (g.signWeight : Int)), 0) := by
  have h1 := G.sw2
  have hpos : 0 < g.signWeight := Nat.two_pow_pos _
  unfold numm_divS.F
  rw [G.magF a ha, G.magF b hb, G.topF, sgn_mg _ a ha, sgn_mg _ b hb]
  by_cases h0 : b = 0
  · subst h0; rfl
  · rw [if_neg h0]
    have hbn : ((b : Int) == 0) = false := by rw [beq_eq_false_iff_ne]; omega
    rw [hbn, cond_false, ← Int.ofNat_tdiv, ← Int.ofNat_tmod]
    have hma : mg g.signWeight a ≤ g.signWeight := by unfold mg; split <;> omega
    have hmb : 0 < mg g.signWeight b := by unfold mg; split <;> omega
    have hq : mg g.signWeight a / mg g.signWeight b ≤ mg g.signWeight a := Nat.div_le_self _ _
    have hr : mg g.signWeight a % mg g.signWeight b ≤ mg g.signWeight a := Nat.mod_le _ _
    rw [wrap64_n _ (by omega)]
    have hone : g.signWeight ≤ mg g.signWeight a / mg g.signWeight b → mg g.signWeight a = g.signWeight ∧ mg g.signWeight b = 1 := by
      intro h
      refine ⟨by omega, ?_⟩
      have h2 := (Nat.le_div_iff_mul_le hmb).1 h
      rcases Nat.lt_or_ge 1 (mg g.signWeight b) with h3 | h3
      · have := Nat.mul_le_mul_left g.signWeight (show 2 ≤ mg g.signWeight b from h3)
        omega
      · omega
    have hcase : (a = g.signWeight ∧ b = 2 * g.signWeight - 1) → mg g.signWeight a / mg g.signWeight b = g.signWeight ∧ g.signWeight ≤ a ∧ g.signWeight ≤ b := by
      rintro ⟨h2, h3⟩
      have e1 : mg g.signWeight a = g.signWeight := by unfold mg; rw [if_pos (by omega)]; omega
      have e2 : mg g.signWeight b = 1 := by unfold mg; rw [if_pos (by omega)]; omega
      rw [e1, e2, Nat.div_one]; omega
    have hcase' : mg g.signWeight a = g.signWeight → mg g.signWeight b = 1 → g.signWeight ≤ a → g.signWeight ≤ b → (a = g.signWeight ∧ b = 2 * g.signWeight - 1) := by
      intro e1 e2 h3 h4
      unfold mg at e1 e2
      rw [if_pos h3] at e1
      rw [if_pos h4] at e2
      omega
    have hmaS : mg g.signWeight a = g.signWeight → g.signWeight ≤ a := by
      intro e; unfold mg at e; split at e <;> omega
    generalize hA : mg g.signWeight a = A at *
    generalize hB : mg g.signWeight b = B at *
    have hqlt : A / B < 2 * g.signWeight := by omega
    have hrlt : A % B < 2 * g.signWeight := by omega
    cases quo
    · rw [cond_false]
      simp only [Bool.false_eq_true, if_false]
      rw [G.minusF _ hrlt]
      by_cases ca : g.signWeight ≤ a
      · rw [decide_eq_true (by omega), cond_true, if_pos ca]
        have e : Int.tmod (-(A : Int)) (if g.signWeight ≤ b then -(B : Int) else (B : Int)) = -((A % B : Nat) : Int) := by
          split
          · rw [Int.tmod_neg, Int.neg_tmod, ← Int.ofNat_tmod]
          · rw [Int.neg_tmod, ← Int.ofNat_tmod]
        rw [e, emod_neg _ _ hrlt]
      · rw [decide_eq_false (by omega), cond_false, if_neg ca]
        have e : Int.tmod (A : Int) (if g.signWeight ≤ b then -(B : Int) else (B : Int)) = ((A % B : Nat) : Int) := by
          split
          · rw [Int.tmod_neg, ← Int.ofNat_tmod]
          · rw [← Int.ofNat_tmod]
        rw [e, emod_of _ _ hrlt]
    · rw [cond_true]
      simp only [if_true]
      rw [G.minusF _ hqlt]
      by_cases ca : g.signWeight ≤ a <;> by_cases cb : g.signWeight ≤ b
      · rw [decide_eq_true (show (a : Int) ≥ (g.signWeight : Int) by omega), decide_eq_true (show (b : Int) ≥ (g.signWeight : Int) by omega), if_pos ca, if_pos cb]
        have et : (true == true) = true := rfl
        rw [et, cond_true]
        by_cases hov : a = g.signWeight ∧ b = 2 * g.signWeight - 1
        · rw [if_pos hov, decide_eq_true (by have := (hcase hov).1; omega), cond_true]
        · rw [if_neg hov, decide_eq_false (by
            intro h
            obtain ⟨e1, e2⟩ := hone (by omega)
            exact hov (hcase' e1 e2 ca cb)), cond_false, Int.neg_tdiv, Int.tdiv_neg, Int.neg_neg, ← Int.ofNat_tdiv, emod_of _ _ hqlt]
      · rw [decide_eq_true (show (a : Int) ≥ (g.signWeight : Int) by omega), decide_eq_false (show ¬ (b : Int) ≥ (g.signWeight : Int) by omega), if_pos ca, if_neg cb]
        have et : (true == false) = false := rfl
        rw [et, cond_false, if_neg (fun h => cb (hcase h).2.2), Int.neg_tdiv, ← Int.ofNat_tdiv, emod_neg _ _ hqlt]
      · rw [decide_eq_false (show ¬ (a : Int) ≥ (g.signWeight : Int) by omega), decide_eq_true (show (b : Int) ≥ (g.signWeight : Int) by omega), if_neg ca, if_pos cb]
        have et : (false == true) = false := rfl
        rw [et, cond_false, if_neg (fun h => ca (hcase h).2.1), Int.tdiv_neg, ← Int.ofNat_tdiv, emod_neg _ _ hqlt]
      · rw [decide_eq_false (show ¬ (a : Int) ≥ (g.signWeight : Int) by omega), decide_eq_false (show ¬ (b : Int) ≥ (g.signWeight : Int) by omega), if_neg ca, if_neg cb]
        have et : (false == false) = true := rfl
        rw [et, cond_true, if_neg (fun h => ca (hcase h).2.1), decide_eq_false (by
          intro h
          obtain ⟨e1, e2⟩ := hone (by omega)
          exact ca (hmaS e1)), cond_false, ← Int.ofNat_tdiv, emod_of _ _ hqlt]

theorem Fm.divS_P (G : Fm ni p bi g) (quo : Bool) (a b : Nat) (ha : a < 2 * g.signWeight) (hb : b < 2 * g.signWeight) : numm_divS.Pre quo ni a b := by
  unfold numm_divS.Pre
  refine cond_intro (fun _ => trivial) fun h => ⟨G.topP, ⟨G.topP, trivial⟩, ⟨G.topP, trivial⟩, ?_⟩
  have hb0 : b ≠ 0 := by
    intro h'
    subst h'
    cases h
  have hmb : 0 < mg g.signWeight b := by unfold mg; split <;> omega
  rw [G.magF b hb]
  exact cond_intro (fun _ => ⟨rfl, by omega, trivial⟩) fun _ => ⟨rfl, by omega, trivial⟩
end

end Go.Proofs.Qxb6500320a
