/-
  The model of the validator: seq.
-/
import Derived.Test.Qxb6500322aMsH
set_option linter.unusedSimpArgs false
set_option linter.unusedVariables false
set_option maxRecDepth 100000
set_option linter.unusedSectionVars false
namespace Go.Proofs.Qxb6500322a
open Go Go.Vc

section
variable {wd w0 w w' : World} {L mb : Nat} {m : Nat → Value} {P : PM} {cb fb i : Nat} {ps : ByteArray} {lb : Nat} {k : List Fr} {f : Fr} {r : List Fr}
variable {n pc : Nat} {st : ByteArray} {o o0 : List Int} {may : Nat → Bool} {u : Nat} {z : Int × Int × List Int × List Fr} {xb NN : Nat}

theorem m_any (b : MB wd w0 w L mb m P cb fb i ps lb f r n pc st o o0 may u z xb NN) (t : Bool) (ht : t = true ↔ ((P.fn i).ins pc).op = 11 ∨ ((P.fn i).ins pc).op = 5) : M3 cb lb f r pc st xb ((P.fn i).ins pc).op t (PostB P i ps z w0 cb f r o0 NN) w := by
  by_cases hc : ((P.fn i).ins pc).op = 11 ∨ ((P.fn i).ins pc).op = 5
  · have : t = true := ht.2 hc
    rw [this]
    exact m_close b hc
  have tf : t = false := by cases t; · rfl
                            · exact absurd (ht.1 rfl) hc
  rw [tf]
  have hin := b.ins
  have q0 := hin.o0; have q1 := hin.o1
  refine validm_ck_seq.step3 _ _ _ _ _ _ _ _ _ _ _ _ _ _ _ _ _ _ ?_
  unfold validm_ck_seq.V3
  refine cond_false' rfl ?_
  by_cases hb : ((P.fn i).ins pc).op = 2 ∨ ((P.fn i).ins pc).op = 3 ∨ ((P.fn i).ins pc).op = 4
  · have B := m_blk b hb
    refine cond_intro (fun _ => B) (fun h2 => cond_intro (fun _ => B) (fun h3 => ?_))
    have h2 : ¬ ((P.fn i).ins pc).op = 2 := by simpa using h2
    have h3 : ¬ ((P.fn i).ins pc).op = 3 := by simpa using h3
    have h4 : (((P.fn i).ins pc).op == 4) = true := beq_iff_eq.2 (by omega)
    rw [h4]; exact B
  refine cond_false' (beq_eq_false_iff_ne.2 (by omega)) (cond_false' (beq_eq_false_iff_ne.2 (by omega)) ?_)
  rw [beq_eq_false_iff_ne.2 (show ((P.fn i).ins pc).op ≠ 4 by omega)]
  by_cases h01 : ((P.fn i).ins pc).op = 0 ∨ ((P.fn i).ins pc).op = 1
  · exact m_nop b h01
  refine validm_ck_seq.step5 _ _ _ _ _ _ _ _ _ _ _ _ _ _ _ _ _ _ ?_
  unfold validm_ck_seq.V5
  refine cond_false' rfl (cond_false' (beq_eq_false_iff_ne.2 (by omega)) (cond_false' (beq_eq_false_iff_ne.2 (by omega)) ?_))
  by_cases hbr : ((P.fn i).ins pc).op = 12 ∨ ((P.fn i).ins pc).op = 13
  · have B := m_br b hbr
    refine cond_intro (fun _ => B) (fun h2 => ?_)
    have h2 : ¬ ((P.fn i).ins pc).op = 12 := by simpa using h2
    have h4 : (((P.fn i).ins pc).op == 13) = true := beq_iff_eq.2 (by omega)
    rw [h4]; exact B
  refine cond_false' (beq_eq_false_iff_ne.2 (by omega)) ?_
  rw [beq_eq_false_iff_ne.2 (show ((P.fn i).ins pc).op ≠ 13 by omega)]
  by_cases h14 : ((P.fn i).ins pc).op = 14
  · exact m_tab b h14
  by_cases h15 : ((P.fn i).ins pc).op = 15
  · exact m_ret b h15
  have p : MP wd w0 w L mb m P cb fb i ps lb f r n pc st o o0 may u z xb NN := MP.of b (fun n hn e => by omega)
  refine validm_ck_seq.step9 _ _ _ _ _ _ _ _ _ _ _ _ _ _ _ _ _ _ ?_
  unfold validm_ck_seq.V9
  refine cond_false' rfl (cond_false' (beq_eq_false_iff_ne.2 (by omega)) (cond_false' (beq_eq_false_iff_ne.2 (by omega)) ?_))
  by_cases hca : ((P.fn i).ins pc).op = 16 ∨ ((P.fn i).ins pc).op = 17
  · have B := m_call p hca
    refine cond_intro (fun _ => B) (fun h2 => ?_)
    have h2 : ¬ ((P.fn i).ins pc).op = 16 := by simpa using h2
    have h4 : (((P.fn i).ins pc).op == 17) = true := beq_iff_eq.2 (by omega)
    rw [h4]; exact B
  refine cond_false' (beq_eq_false_iff_ne.2 (by omega)) ?_
  rw [beq_eq_false_iff_ne.2 (show ((P.fn i).ins pc).op ≠ 17 by omega)]
  by_cases h26 : ((P.fn i).ins pc).op = 26
  · exact m_drop p h26
  by_cases h27 : ((P.fn i).ins pc).op = 27
  · exact m_sel p h27
  refine validm_ck_seq.step12 _ _ _ _ _ _ _ _ _ _ _ _ _ _ _ _ _ _ ?_
  unfold validm_ck_seq.V12
  refine cond_false' rfl (cond_false' (beq_eq_false_iff_ne.2 h26) (cond_false' (beq_eq_false_iff_ne.2 h27) ?_))
  by_cases hlo : 32 ≤ ((P.fn i).ins pc).op ∧ ((P.fn i).ins pc).op ≤ 34
  · refine cond_true' (decide_eq_true (by omega)) ?_
    rw [decide_eq_true hlo.2]
    exact m_loc p hlo
  have F17 : M17 cb lb f r pc st xb ((P.fn i).ins pc).op false (PostB P i ps z w0 cb f r o0 NN) w := by
    refine validm_ck_seq.step17 _ _ _ _ _ _ _ _ _ _ _ _ _ _ _ _ _ _ ?_
    unfold validm_ck_seq.V17
    refine cond_false' rfl ?_
    by_cases hgl : ((P.fn i).ins pc).op = 35 ∨ ((P.fn i).ins pc).op = 36
    · have B := m_glo p hgl
      refine cond_intro (fun _ => B) (fun h2 => ?_)
      have h2 : ¬ ((P.fn i).ins pc).op = 35 := by simpa using h2
      have h4 : (((P.fn i).ins pc).op == 36) = true := beq_iff_eq.2 (by omega)
      rw [h4]; exact B
    refine cond_false' (beq_eq_false_iff_ne.2 (by omega)) ?_
    rw [beq_eq_false_iff_ne.2 (show ((P.fn i).ins pc).op ≠ 36 by omega)]
    refine validm_ck_seq.step24 _ _ _ _ _ _ _ _ _ _ _ _ _ _ _ _ _ _ ?_
    unfold validm_ck_seq.V24
    refine cond_false' rfl ?_
    by_cases hme : 40 ≤ ((P.fn i).ins pc).op ∧ ((P.fn i).ins pc).op ≤ 64
    · refine cond_true' (decide_eq_true (by omega)) ?_
      rw [decide_eq_true hme.2]
      exact m_mem p hme
    have F28 : M28 cb lb f r pc st xb ((P.fn i).ins pc).op false (PostB P i ps z w0 cb f r o0 NN) w := by
      refine validm_ck_seq.step28 _ _ _ _ _ _ _ _ _ _ _ _ _ _ _ _ _ _ ?_
      unfold validm_ck_seq.V28
      refine cond_false' rfl ?_
      by_cases hko : 65 ≤ ((P.fn i).ins pc).op ∧ ((P.fn i).ins pc).op ≤ 68
      · refine cond_true' (decide_eq_true (by omega)) ?_
        rw [decide_eq_true hko.2]
        exact m_kon p hko
      have hop : 69 ≤ ((P.fn i).ins pc).op ∧ ((P.fn i).ins pc).op ≤ 191 := by
        have hx := p.pl
        unfold Pln at hx
        rcases hx with g | g | g | g | g | g
        · omega
        · omega
        · omega
        · omega
        · have := g.o0; have := g.o1; omega
        · omega
      have B := m_num p hop
      refine cond_intro (fun _ => ?_) (fun _ => B)
      rw [decide_eq_false (show ¬ ((P.fn i).ins pc).op ≤ 68 by omega)]
      exact B
    refine cond_intro (fun h => ?_) (fun _ => F28)
    rw [decide_eq_false (fun e => hme ⟨of_decide_eq_true h, e⟩)]
    exact F28
  refine cond_intro (fun h => ?_) (fun _ => F17)
  rw [decide_eq_false (fun e => hlo ⟨of_decide_eq_true h, e⟩)]
  exact F17

theorem heads : ∀ (N : Nat), Heads wd L mb m P cb fb i ps N
  | 0 => fun n hn w0 w pc st o o0 f r may u lb z NN hN C D hz => by
    have : n = 0 := by omega
    subst this
    exact D.wf.elim
  | N + 1 => fun n hn w0 w pc st o o0 f r may u lb z NN hN C D hz => by
    by_cases hl : n ≤ N
    · exact heads N n hl w0 w pc st o o0 f r may u lb z NN hN C D hz
    · have : n = N + 1 := by omega
      subst this
      rw [runV_cont] at hz
      exact m1 C D (fun w' xb t C' I' nx ht => m_any ⟨C', D, heads N, hz, I', nx, hN⟩ t ht)
end
end Go.Proofs.Qxb6500322a
