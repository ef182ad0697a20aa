/-
  Place, Shape, Placed.
-/
import Derived.Test.Qxb6500321aKlD
set_option linter.unusedSimpArgs false
set_option linter.unusedVariables false
set_option maxRecDepth 100000
set_option linter.unusedSectionVars false
set_option maxHeartbeats 2000000
namespace Go.Proofs.Qxb6500321a
open Go Go.Vc

def iK : Ins := ⟨65, 0, 1⟩
def iD : Ins := ⟨26, 0, 0⟩
def iE : Ins := ⟨11, 0, 0⟩
def iN : Ins := ⟨1, 0, 0⟩
def iB : Ins := ⟨2, 64, 0⟩
def iO : Ins := ⟨2, 127, 0⟩
def placeL : List (List Ins × Int) := [
  ([iE], (-1)),
  ([iD, iE], (0)),
  ([iN, iD, iE], (1)),
  ([iK, iE], (1)),
  ([iK, iB, iD, iE, iE], (2)),
  ([iK, iB, ⟨13, 0, 0⟩, iE, iE], (2)),
  ([iO, iK, iK, iE, iD, iE], (3)),
  ([iO, iE, iD, iE], (1)),
  ([⟨12, 1, 0⟩, iE], (0)),
  ([⟨12, 0, 0⟩, iE], (-1)),
  ([⟨4, 64, 0⟩, iE, iE], (0)),
  ([iK, ⟨4, 127, 0⟩, ⟨5, 0, 0⟩, iK, iE, iD, iE], (2)),
  ([iK, ⟨4, 127, 0⟩, iK, ⟨5, 0, 0⟩, iE, iD, iE], (4)),
  ([⟨0, 0, 0⟩, iD, iD, iE], (-1)),
  ([iB, ⟨12, 0, 0⟩, iD, iE, iD, iE], (4)),
  ([⟨16, 2, 0⟩, iE], (0)),
  ([iK, ⟨14, 0, 1⟩, iE], (1)),
  ([⟨3, 64, 0⟩, ⟨12, 0, 0⟩, iE, iD, iE], (3)),
  ([iE], (0)),
  ([iB, iE], (2)),
  ([iE, iN], (0)),
  ([iK, iB, ⟨14, 0, 1⟩, iE, iE], (2)),
  ([iK, ⟨14, 0, 0⟩, iE], (1)),
  ([iK, ⟨14, 0, 1⟩, iE], (1)),
  ([iK, ⟨14, 0, 2⟩, iE], (1)),
  ([iK, ⟨14, 1, 1⟩, iE], (1)),
  ([iK, ⟨14, 0, 2⟩, iE], (-1)),
  ([iK, ⟨17, 9, 0⟩, iE], (1)),
  ([iK, iK, iK, iK, iK, iK, iK, iK, iK, iK, iK, iE], (10)),
  ([iK, iK, iK, iK, iK, iK, iK, iK, iK, iK, ⟨15, 0, 0⟩, iE], (-1)),
  ([iK, iK, iK, iK, iK, iK, iK, iK, iK, iK, iO, ⟨12, 0, 0⟩, iE, iE], (12)),
  ([iE], (0)),
  ([iK, iE], (-1)),
  ([iK, iK, iE], (2)),
  ([⟨12, 0, 0⟩, iE], (-1)),
  ([⟨6, 0, 0⟩, iE], (0)),
  ([⟨15, 0, 0⟩, iE], (-1))]
def shapeL : List (Int × List Int) := [(0, []), (0, []), (0, []), (0, []), (0, []), (0, []), (0, []), (0, []), (0, []), (0, []), (0, []), (0, []), (0, []), (0, []), (0, []), (0, []), (0, []), (0, []), (7, []), (0, []), (0, []), (0, [0]), (0, [0]), (0, [5]), (0, [0, 1]), (0, [0]), (0, [0, 0]), (0, []), (0, []), (0, []), (0, []), (1, []), (1, []), (1, []), (1, []), (0, []), (1, [])]
def nrm (i : Int) : Nat := if 1 ≤ i ∧ i ≤ 36 then i.toNat else 0
theorem nrm_lt (i : Int) : nrm i < 37 := by unfold nrm; split <;> omega
def placeN (n : Nat) : List Ins × Int := placeL.getD n ([iE], -1)
def shapeN (n : Nat) : Int × List Int := shapeL.getD n (0, [])
/-- A row of instructions, just laid. -/
theorem insRow_new {w w' : World} {b : Nat} {bd : List Ins} (hb : b = w.heap.size) (hw : w' = w.alloc (.cells (insVs bd).toArray T_api_Ins)) : InsRow w' b bd.length (fun q => bd.getD q z0) := by
  have c : ∀ j v, (insVs bd)[j]? = some v → w'.cell? ⟨b, j, none⟩ = some v := fun j v hj => by rw [hw, hb, World.cell?_alloc_new]; simpa using hj
  have g : ∀ j, j < bd.length → bd[j]? = some (bd.getD j z0) := fun j hj => by rw [List.getD_eq_getElem?_getD, List.getElem?_eq_getElem hj]; rfl
  exact ⟨fun j hj => c _ _ (insVs_get bd j _ 0 (by omega) (g j hj)), fun j hj => c _ _ (insVs_get bd j _ 1 (by omega) (g j hj)), fun j hj => c _ _ (insVs_get bd j _ 2 (by omega) (g j hj)), fun j => by rw [hw, hb, World.frozen?_alloc_new]⟩
def PcQ (w : World) (n : Nat) : Value → World → Prop := fun v w' => ∃ nb, v = .tuple #[.slice (some ⟨nb, 0, none⟩) (placeN n).1.length (placeN n).1.length, .int .i64 (placeN n).2] ∧ w.heap.size ≤ nb ∧ nb < w'.heap.size ∧ InsRow w' nb (placeN n).1.length (fun q => (placeN n).1.getD q z0) ∧ Same [] w.heap.size w w'
theorem Place_spec (w : World) (i : Int) : Runs Try.prog preplaw_Place.id #[.int .i64 i] w (PcQ w (nrm i)) := by
  generalize hR : PcQ w (nrm i) = R
  refine preplaw_Place.enter _ _ _ _ ?_
  unfold preplaw_Place.V
  refine newIns (i := iK) fun bK w1 hbK IK S1 => newIns (i := iD) fun bD w2 hbD ID S2 => newIns (i := iE) fun bE w3 hbE IE S3 => newIns (i := iN) fun bN w4 hbN IN S4 => newIns (i := iB) fun bB w5 hbB IB S5 => newIns (i := iO) fun bO w6 hbO Iox S6 => ?_
  have IK := ((((IK.mv S2 IK.ltA (by simp)).mv S3 (IK.mv S2 IK.ltA (by simp)).ltA (by simp)).mv S4 ((IK.mv S2 IK.ltA (by simp)).mv S3 (IK.mv S2 IK.ltA (by simp)).ltA (by simp)).ltA (by simp)))
  have IK := IK.mv S5 IK.ltA (by simp)
  have IK := IK.mv S6 IK.ltA (by simp)
  have ID := ID.mv S3 ID.ltA (by simp)
  have ID := ID.mv S4 ID.ltA (by simp)
  have ID := ID.mv S5 ID.ltA (by simp)
  have ID := ID.mv S6 ID.ltA (by simp)
  have IE := IE.mv S4 IE.ltA (by simp)
  have IE := IE.mv S5 IE.ltA (by simp)
  have IE := IE.mv S6 IE.ltA (by simp)
  have IN := IN.mv S5 IN.ltA (by simp)
  have IN := IN.mv S6 IN.ltA (by simp)
  have IB := IB.mv S6 IB.ltA (by simp)
  have S : Same [] w.heap.size w w6 := ((((S1.nx S2).nx S3).nx S4).nx S5).nx S6
  clear S1 S2 S3 S4 S5 S6 hbK hbD hbE hbN hbB hbO
  have fin : ∀ (bd : List Ins) (a : Int) (b : Nat) (w7 : World), placeN (nrm i) = (bd, a) → b = w6.heap.size → w7 = w6.alloc (.cells (insVs bd).toArray T_api_Ins) → R (.tuple #[.slice (some ⟨b, 0, none⟩) bd.length bd.length, .int .i64 a]) w7 := fun bd a b w7 hp hb hw => by
    rw [← hR]
    unfold PcQ
    rw [hp]
    have S7 : Same [] w6.heap.size w6 w7 := by rw [hw]; exact (Same.refl _ _ _).alloc (Nat.le_refl _) _
    have z7 : w7.heap.size = w6.heap.size + 1 := by rw [hw]; simp
    exact ⟨b, rfl, by have := S.size; omega, by omega, insRow_new hb hw, S.nx S7⟩
  clear hR
  have L1 : ∀ t : Bool, t = decide (i = 23 ∨ i = 24) → (∀ k : Int, 1 ≤ k → k ≤ 22 → ¬ i = k) → preplaw_Place.L1 i bK bE bO i t R (fun _ _ => False) w6 := fun t ht hk => by
    refine preplaw_Place.step1 _ _ _ _ _ _ _ _ _ ?_
    unfold preplaw_Place.V1
    refine cond_intro (fun h => ?_) (fun h => ?_)
    · have h : i = 23 ∨ i = 24 := of_decide_eq_true (ht ▸ h)
      rcases h with rfl | rfl
      · repeat (first | refine ⟨_, _, _, IK.c0, IK.c1, IK.c2, ?_⟩ | refine ⟨_, _, _, ID.c0, ID.c1, ID.c2, ?_⟩ | refine ⟨_, _, _, IE.c0, IE.c1, IE.c2, ?_⟩ | refine ⟨_, _, _, IN.c0, IN.c1, IN.c2, ?_⟩ | refine ⟨_, _, _, IB.c0, IB.c1, IB.c2, ?_⟩ | refine ⟨_, _, _, Iox.c0, Iox.c1, Iox.c2, ?_⟩)
        exact letB_intro fun b hb => letW_intro fun w7 hw => fin [iK, ⟨14, 0, 1⟩, iE] (1) b w7 rfl hb hw
      · repeat (first | refine ⟨_, _, _, IK.c0, IK.c1, IK.c2, ?_⟩ | refine ⟨_, _, _, ID.c0, ID.c1, ID.c2, ?_⟩ | refine ⟨_, _, _, IE.c0, IE.c1, IE.c2, ?_⟩ | refine ⟨_, _, _, IN.c0, IN.c1, IN.c2, ?_⟩ | refine ⟨_, _, _, IB.c0, IB.c1, IB.c2, ?_⟩ | refine ⟨_, _, _, Iox.c0, Iox.c1, Iox.c2, ?_⟩)
        exact letB_intro fun b hb => letW_intro fun w7 hw => fin [iK, ⟨14, 0, 2⟩, iE] (1) b w7 rfl hb hw
    have h23 : ¬ (i = 23 ∨ i = 24) := of_decide_eq_false (ht ▸ h)
    refine cond_intro (fun h => ?_) (fun h25 => ?_)
    · have h : i = 25 := eq_of_beq h
      subst h
      repeat (first | refine ⟨_, _, _, IK.c0, IK.c1, IK.c2, ?_⟩ | refine ⟨_, _, _, ID.c0, ID.c1, ID.c2, ?_⟩ | refine ⟨_, _, _, IE.c0, IE.c1, IE.c2, ?_⟩ | refine ⟨_, _, _, IN.c0, IN.c1, IN.c2, ?_⟩ | refine ⟨_, _, _, IB.c0, IB.c1, IB.c2, ?_⟩ | refine ⟨_, _, _, Iox.c0, Iox.c1, Iox.c2, ?_⟩)
      exact letB_intro fun b hb => letW_intro fun w7 hw => fin [iK, ⟨14, 1, 1⟩, iE] (1) b w7 rfl hb hw
    have h25 : ¬ i = 25 := by simpa using h25
    refine cond_intro (fun h => ?_) (fun h26 => ?_)
    · have h : i = 26 := eq_of_beq h
      subst h
      repeat (first | refine ⟨_, _, _, IK.c0, IK.c1, IK.c2, ?_⟩ | refine ⟨_, _, _, ID.c0, ID.c1, ID.c2, ?_⟩ | refine ⟨_, _, _, IE.c0, IE.c1, IE.c2, ?_⟩ | refine ⟨_, _, _, IN.c0, IN.c1, IN.c2, ?_⟩ | refine ⟨_, _, _, IB.c0, IB.c1, IB.c2, ?_⟩ | refine ⟨_, _, _, Iox.c0, Iox.c1, Iox.c2, ?_⟩)
      exact letB_intro fun b hb => letW_intro fun w7 hw => fin [iK, ⟨14, 0, 2⟩, iE] (-1) b w7 rfl hb hw
    have h26 : ¬ i = 26 := by simpa using h26
    refine cond_intro (fun h => ?_) (fun h27 => ?_)
    · have h : i = 27 := eq_of_beq h
      subst h
      repeat (first | refine ⟨_, _, _, IK.c0, IK.c1, IK.c2, ?_⟩ | refine ⟨_, _, _, ID.c0, ID.c1, ID.c2, ?_⟩ | refine ⟨_, _, _, IE.c0, IE.c1, IE.c2, ?_⟩ | refine ⟨_, _, _, IN.c0, IN.c1, IN.c2, ?_⟩ | refine ⟨_, _, _, IB.c0, IB.c1, IB.c2, ?_⟩ | refine ⟨_, _, _, Iox.c0, Iox.c1, Iox.c2, ?_⟩)
      exact letB_intro fun b hb => letW_intro fun w7 hw => fin [iK, ⟨17, 9, 0⟩, iE] (1) b w7 rfl hb hw
    have h27 : ¬ i = 27 := by simpa using h27
    refine cond_intro (fun h => ?_) (fun h28 => ?_)
    · have h : i = 28 := eq_of_beq h
      subst h
      repeat (first | refine ⟨_, _, _, IK.c0, IK.c1, IK.c2, ?_⟩ | refine ⟨_, _, _, ID.c0, ID.c1, ID.c2, ?_⟩ | refine ⟨_, _, _, IE.c0, IE.c1, IE.c2, ?_⟩ | refine ⟨_, _, _, IN.c0, IN.c1, IN.c2, ?_⟩ | refine ⟨_, _, _, IB.c0, IB.c1, IB.c2, ?_⟩ | refine ⟨_, _, _, Iox.c0, Iox.c1, Iox.c2, ?_⟩)
      exact letB_intro fun b hb => letW_intro fun w7 hw => fin [iK, iK, iK, iK, iK, iK, iK, iK, iK, iK, iK, iE] (10) b w7 rfl hb hw
    have h28 : ¬ i = 28 := by simpa using h28
    refine cond_intro (fun h => ?_) (fun h29 => ?_)
    · have h : i = 29 := eq_of_beq h
      subst h
      repeat (first | refine ⟨_, _, _, IK.c0, IK.c1, IK.c2, ?_⟩ | refine ⟨_, _, _, ID.c0, ID.c1, ID.c2, ?_⟩ | refine ⟨_, _, _, IE.c0, IE.c1, IE.c2, ?_⟩ | refine ⟨_, _, _, IN.c0, IN.c1, IN.c2, ?_⟩ | refine ⟨_, _, _, IB.c0, IB.c1, IB.c2, ?_⟩ | refine ⟨_, _, _, Iox.c0, Iox.c1, Iox.c2, ?_⟩)
      exact letB_intro fun b hb => letW_intro fun w7 hw => fin [iK, iK, iK, iK, iK, iK, iK, iK, iK, iK, ⟨15, 0, 0⟩, iE] (-1) b w7 rfl hb hw
    have h29 : ¬ i = 29 := by simpa using h29
    refine cond_intro (fun h => ?_) (fun h30 => ?_)
    · have h : i = 30 := eq_of_beq h
      subst h
      repeat (first | refine ⟨_, _, _, IK.c0, IK.c1, IK.c2, ?_⟩ | refine ⟨_, _, _, ID.c0, ID.c1, ID.c2, ?_⟩ | refine ⟨_, _, _, IE.c0, IE.c1, IE.c2, ?_⟩ | refine ⟨_, _, _, IN.c0, IN.c1, IN.c2, ?_⟩ | refine ⟨_, _, _, IB.c0, IB.c1, IB.c2, ?_⟩ | refine ⟨_, _, _, Iox.c0, Iox.c1, Iox.c2, ?_⟩)
      exact letB_intro fun b hb => letW_intro fun w7 hw => fin [iK, iK, iK, iK, iK, iK, iK, iK, iK, iK, iO, ⟨12, 0, 0⟩, iE, iE] (12) b w7 rfl hb hw
    have h30 : ¬ i = 30 := by simpa using h30
    refine cond_intro (fun h => ?_) (fun h31 => ?_)
    · have h : i = 31 := eq_of_beq h
      subst h
      repeat (first | refine ⟨_, _, _, IK.c0, IK.c1, IK.c2, ?_⟩ | refine ⟨_, _, _, ID.c0, ID.c1, ID.c2, ?_⟩ | refine ⟨_, _, _, IE.c0, IE.c1, IE.c2, ?_⟩ | refine ⟨_, _, _, IN.c0, IN.c1, IN.c2, ?_⟩ | refine ⟨_, _, _, IB.c0, IB.c1, IB.c2, ?_⟩ | refine ⟨_, _, _, Iox.c0, Iox.c1, Iox.c2, ?_⟩)
      exact letB_intro fun b hb => letW_intro fun w7 hw => fin [iE] (0) b w7 rfl hb hw
    have h31 : ¬ i = 31 := by simpa using h31
    refine cond_intro (fun h => ?_) (fun h32 => ?_)
    · have h : i = 32 := eq_of_beq h
      subst h
      repeat (first | refine ⟨_, _, _, IK.c0, IK.c1, IK.c2, ?_⟩ | refine ⟨_, _, _, ID.c0, ID.c1, ID.c2, ?_⟩ | refine ⟨_, _, _, IE.c0, IE.c1, IE.c2, ?_⟩ | refine ⟨_, _, _, IN.c0, IN.c1, IN.c2, ?_⟩ | refine ⟨_, _, _, IB.c0, IB.c1, IB.c2, ?_⟩ | refine ⟨_, _, _, Iox.c0, Iox.c1, Iox.c2, ?_⟩)
      exact letB_intro fun b hb => letW_intro fun w7 hw => fin [iK, iE] (-1) b w7 rfl hb hw
    have h32 : ¬ i = 32 := by simpa using h32
    refine cond_intro (fun h => ?_) (fun h33 => ?_)
    · have h : i = 33 := eq_of_beq h
      subst h
      repeat (first | refine ⟨_, _, _, IK.c0, IK.c1, IK.c2, ?_⟩ | refine ⟨_, _, _, ID.c0, ID.c1, ID.c2, ?_⟩ | refine ⟨_, _, _, IE.c0, IE.c1, IE.c2, ?_⟩ | refine ⟨_, _, _, IN.c0, IN.c1, IN.c2, ?_⟩ | refine ⟨_, _, _, IB.c0, IB.c1, IB.c2, ?_⟩ | refine ⟨_, _, _, Iox.c0, Iox.c1, Iox.c2, ?_⟩)
      exact letB_intro fun b hb => letW_intro fun w7 hw => fin [iK, iK, iE] (2) b w7 rfl hb hw
    have h33 : ¬ i = 33 := by simpa using h33
    refine cond_intro (fun h => ?_) (fun h34 => ?_)
    · have h : i = 34 := eq_of_beq h
      subst h
      repeat (first | refine ⟨_, _, _, IK.c0, IK.c1, IK.c2, ?_⟩ | refine ⟨_, _, _, ID.c0, ID.c1, ID.c2, ?_⟩ | refine ⟨_, _, _, IE.c0, IE.c1, IE.c2, ?_⟩ | refine ⟨_, _, _, IN.c0, IN.c1, IN.c2, ?_⟩ | refine ⟨_, _, _, IB.c0, IB.c1, IB.c2, ?_⟩ | refine ⟨_, _, _, Iox.c0, Iox.c1, Iox.c2, ?_⟩)
      exact letB_intro fun b hb => letW_intro fun w7 hw => fin [⟨12, 0, 0⟩, iE] (-1) b w7 rfl hb hw
    have h34 : ¬ i = 34 := by simpa using h34
    refine cond_intro (fun h => ?_) (fun h35 => ?_)
    · have h : i = 35 := eq_of_beq h
      subst h
      repeat (first | refine ⟨_, _, _, IK.c0, IK.c1, IK.c2, ?_⟩ | refine ⟨_, _, _, ID.c0, ID.c1, ID.c2, ?_⟩ | refine ⟨_, _, _, IE.c0, IE.c1, IE.c2, ?_⟩ | refine ⟨_, _, _, IN.c0, IN.c1, IN.c2, ?_⟩ | refine ⟨_, _, _, IB.c0, IB.c1, IB.c2, ?_⟩ | refine ⟨_, _, _, Iox.c0, Iox.c1, Iox.c2, ?_⟩)
      exact letB_intro fun b hb => letW_intro fun w7 hw => fin [⟨6, 0, 0⟩, iE] (0) b w7 rfl hb hw
    have h35 : ¬ i = 35 := by simpa using h35
    refine cond_intro (fun h => ?_) (fun h36 => ?_)
    · have h : i = 36 := eq_of_beq h
      subst h
      repeat (first | refine ⟨_, _, _, IK.c0, IK.c1, IK.c2, ?_⟩ | refine ⟨_, _, _, ID.c0, ID.c1, ID.c2, ?_⟩ | refine ⟨_, _, _, IE.c0, IE.c1, IE.c2, ?_⟩ | refine ⟨_, _, _, IN.c0, IN.c1, IN.c2, ?_⟩ | refine ⟨_, _, _, IB.c0, IB.c1, IB.c2, ?_⟩ | refine ⟨_, _, _, Iox.c0, Iox.c1, Iox.c2, ?_⟩)
      exact letB_intro fun b hb => letW_intro fun w7 hw => fin [⟨15, 0, 0⟩, iE] (-1) b w7 rfl hb hw
    have h36 : ¬ i = 36 := by simpa using h36
    have hn : nrm i = 0 := by
      unfold nrm
      rw [if_neg]
      rintro ⟨q1, q2⟩
      by_cases q : i ≤ 22
      · exact hk i q1 q rfl
      · omega
    repeat (first | refine ⟨_, _, _, IK.c0, IK.c1, IK.c2, ?_⟩ | refine ⟨_, _, _, ID.c0, ID.c1, ID.c2, ?_⟩ | refine ⟨_, _, _, IE.c0, IE.c1, IE.c2, ?_⟩ | refine ⟨_, _, _, IN.c0, IN.c1, IN.c2, ?_⟩ | refine ⟨_, _, _, IB.c0, IB.c1, IB.c2, ?_⟩ | refine ⟨_, _, _, Iox.c0, Iox.c1, Iox.c2, ?_⟩)
    exact letB_intro fun b hb => letW_intro fun w7 hw => fin [iE] (-1) b w7 (by rw [hn]; rfl) hb hw
  refine cond_intro (fun h => ?_) (fun h1 => ?_)
  · have h : i = 1 := eq_of_beq h
    subst h
    repeat (first | refine ⟨_, _, _, IK.c0, IK.c1, IK.c2, ?_⟩ | refine ⟨_, _, _, ID.c0, ID.c1, ID.c2, ?_⟩ | refine ⟨_, _, _, IE.c0, IE.c1, IE.c2, ?_⟩ | refine ⟨_, _, _, IN.c0, IN.c1, IN.c2, ?_⟩ | refine ⟨_, _, _, IB.c0, IB.c1, IB.c2, ?_⟩ | refine ⟨_, _, _, Iox.c0, Iox.c1, Iox.c2, ?_⟩)
    exact letB_intro fun b hb => letW_intro fun w7 hw => fin [iD, iE] (0) b w7 rfl hb hw
  have h1 : ¬ i = 1 := by simpa using h1
  refine cond_intro (fun h => ?_) (fun h2 => ?_)
  · have h : i = 2 := eq_of_beq h
    subst h
    repeat (first | refine ⟨_, _, _, IK.c0, IK.c1, IK.c2, ?_⟩ | refine ⟨_, _, _, ID.c0, ID.c1, ID.c2, ?_⟩ | refine ⟨_, _, _, IE.c0, IE.c1, IE.c2, ?_⟩ | refine ⟨_, _, _, IN.c0, IN.c1, IN.c2, ?_⟩ | refine ⟨_, _, _, IB.c0, IB.c1, IB.c2, ?_⟩ | refine ⟨_, _, _, Iox.c0, Iox.c1, Iox.c2, ?_⟩)
    exact letB_intro fun b hb => letW_intro fun w7 hw => fin [iN, iD, iE] (1) b w7 rfl hb hw
  have h2 : ¬ i = 2 := by simpa using h2
  refine cond_intro (fun h => ?_) (fun h3 => ?_)
  · have h : i = 3 := eq_of_beq h
    subst h
    repeat (first | refine ⟨_, _, _, IK.c0, IK.c1, IK.c2, ?_⟩ | refine ⟨_, _, _, ID.c0, ID.c1, ID.c2, ?_⟩ | refine ⟨_, _, _, IE.c0, IE.c1, IE.c2, ?_⟩ | refine ⟨_, _, _, IN.c0, IN.c1, IN.c2, ?_⟩ | refine ⟨_, _, _, IB.c0, IB.c1, IB.c2, ?_⟩ | refine ⟨_, _, _, Iox.c0, Iox.c1, Iox.c2, ?_⟩)
    exact letB_intro fun b hb => letW_intro fun w7 hw => fin [iK, iE] (1) b w7 rfl hb hw
  have h3 : ¬ i = 3 := by simpa using h3
  refine cond_intro (fun h => ?_) (fun h4 => ?_)
  · have h : i = 4 := eq_of_beq h
    subst h
    repeat (first | refine ⟨_, _, _, IK.c0, IK.c1, IK.c2, ?_⟩ | refine ⟨_, _, _, ID.c0, ID.c1, ID.c2, ?_⟩ | refine ⟨_, _, _, IE.c0, IE.c1, IE.c2, ?_⟩ | refine ⟨_, _, _, IN.c0, IN.c1, IN.c2, ?_⟩ | refine ⟨_, _, _, IB.c0, IB.c1, IB.c2, ?_⟩ | refine ⟨_, _, _, Iox.c0, Iox.c1, Iox.c2, ?_⟩)
    exact letB_intro fun b hb => letW_intro fun w7 hw => fin [iK, iB, iD, iE, iE] (2) b w7 rfl hb hw
  have h4 : ¬ i = 4 := by simpa using h4
  refine cond_intro (fun h => ?_) (fun h5 => ?_)
  · have h : i = 5 := eq_of_beq h
    subst h
    repeat (first | refine ⟨_, _, _, IK.c0, IK.c1, IK.c2, ?_⟩ | refine ⟨_, _, _, ID.c0, ID.c1, ID.c2, ?_⟩ | refine ⟨_, _, _, IE.c0, IE.c1, IE.c2, ?_⟩ | refine ⟨_, _, _, IN.c0, IN.c1, IN.c2, ?_⟩ | refine ⟨_, _, _, IB.c0, IB.c1, IB.c2, ?_⟩ | refine ⟨_, _, _, Iox.c0, Iox.c1, Iox.c2, ?_⟩)
    exact letB_intro fun b hb => letW_intro fun w7 hw => fin [iK, iB, ⟨13, 0, 0⟩, iE, iE] (2) b w7 rfl hb hw
  have h5 : ¬ i = 5 := by simpa using h5
  refine cond_intro (fun h => ?_) (fun h6 => ?_)
  · have h : i = 6 := eq_of_beq h
    subst h
    repeat (first | refine ⟨_, _, _, IK.c0, IK.c1, IK.c2, ?_⟩ | refine ⟨_, _, _, ID.c0, ID.c1, ID.c2, ?_⟩ | refine ⟨_, _, _, IE.c0, IE.c1, IE.c2, ?_⟩ | refine ⟨_, _, _, IN.c0, IN.c1, IN.c2, ?_⟩ | refine ⟨_, _, _, IB.c0, IB.c1, IB.c2, ?_⟩ | refine ⟨_, _, _, Iox.c0, Iox.c1, Iox.c2, ?_⟩)
    exact letB_intro fun b hb => letW_intro fun w7 hw => fin [iO, iK, iK, iE, iD, iE] (3) b w7 rfl hb hw
  have h6 : ¬ i = 6 := by simpa using h6
  refine cond_intro (fun h => ?_) (fun h7 => ?_)
  · have h : i = 7 := eq_of_beq h
    subst h
    repeat (first | refine ⟨_, _, _, IK.c0, IK.c1, IK.c2, ?_⟩ | refine ⟨_, _, _, ID.c0, ID.c1, ID.c2, ?_⟩ | refine ⟨_, _, _, IE.c0, IE.c1, IE.c2, ?_⟩ | refine ⟨_, _, _, IN.c0, IN.c1, IN.c2, ?_⟩ | refine ⟨_, _, _, IB.c0, IB.c1, IB.c2, ?_⟩ | refine ⟨_, _, _, Iox.c0, Iox.c1, Iox.c2, ?_⟩)
    exact letB_intro fun b hb => letW_intro fun w7 hw => fin [iO, iE, iD, iE] (1) b w7 rfl hb hw
  have h7 : ¬ i = 7 := by simpa using h7
  refine cond_intro (fun h => ?_) (fun h8 => ?_)
  · have h : i = 8 := eq_of_beq h
    subst h
    repeat (first | refine ⟨_, _, _, IK.c0, IK.c1, IK.c2, ?_⟩ | refine ⟨_, _, _, ID.c0, ID.c1, ID.c2, ?_⟩ | refine ⟨_, _, _, IE.c0, IE.c1, IE.c2, ?_⟩ | refine ⟨_, _, _, IN.c0, IN.c1, IN.c2, ?_⟩ | refine ⟨_, _, _, IB.c0, IB.c1, IB.c2, ?_⟩ | refine ⟨_, _, _, Iox.c0, Iox.c1, Iox.c2, ?_⟩)
    exact letB_intro fun b hb => letW_intro fun w7 hw => fin [⟨12, 1, 0⟩, iE] (0) b w7 rfl hb hw
  have h8 : ¬ i = 8 := by simpa using h8
  refine cond_intro (fun h => ?_) (fun h9 => ?_)
  · have h : i = 9 := eq_of_beq h
    subst h
    repeat (first | refine ⟨_, _, _, IK.c0, IK.c1, IK.c2, ?_⟩ | refine ⟨_, _, _, ID.c0, ID.c1, ID.c2, ?_⟩ | refine ⟨_, _, _, IE.c0, IE.c1, IE.c2, ?_⟩ | refine ⟨_, _, _, IN.c0, IN.c1, IN.c2, ?_⟩ | refine ⟨_, _, _, IB.c0, IB.c1, IB.c2, ?_⟩ | refine ⟨_, _, _, Iox.c0, Iox.c1, Iox.c2, ?_⟩)
    exact letB_intro fun b hb => letW_intro fun w7 hw => fin [⟨12, 0, 0⟩, iE] (-1) b w7 rfl hb hw
  have h9 : ¬ i = 9 := by simpa using h9
  refine cond_intro (fun h => ?_) (fun h10 => ?_)
  · have h : i = 10 := eq_of_beq h
    subst h
    repeat (first | refine ⟨_, _, _, IK.c0, IK.c1, IK.c2, ?_⟩ | refine ⟨_, _, _, ID.c0, ID.c1, ID.c2, ?_⟩ | refine ⟨_, _, _, IE.c0, IE.c1, IE.c2, ?_⟩ | refine ⟨_, _, _, IN.c0, IN.c1, IN.c2, ?_⟩ | refine ⟨_, _, _, IB.c0, IB.c1, IB.c2, ?_⟩ | refine ⟨_, _, _, Iox.c0, Iox.c1, Iox.c2, ?_⟩)
    exact letB_intro fun b hb => letW_intro fun w7 hw => fin [⟨4, 64, 0⟩, iE, iE] (0) b w7 rfl hb hw
  have h10 : ¬ i = 10 := by simpa using h10
  refine cond_intro (fun h => ?_) (fun h11 => ?_)
  · have h : i = 11 := eq_of_beq h
    subst h
    repeat (first | refine ⟨_, _, _, IK.c0, IK.c1, IK.c2, ?_⟩ | refine ⟨_, _, _, ID.c0, ID.c1, ID.c2, ?_⟩ | refine ⟨_, _, _, IE.c0, IE.c1, IE.c2, ?_⟩ | refine ⟨_, _, _, IN.c0, IN.c1, IN.c2, ?_⟩ | refine ⟨_, _, _, IB.c0, IB.c1, IB.c2, ?_⟩ | refine ⟨_, _, _, Iox.c0, Iox.c1, Iox.c2, ?_⟩)
    exact letB_intro fun b hb => letW_intro fun w7 hw => fin [iK, ⟨4, 127, 0⟩, ⟨5, 0, 0⟩, iK, iE, iD, iE] (2) b w7 rfl hb hw
  have h11 : ¬ i = 11 := by simpa using h11
  refine cond_intro (fun h => ?_) (fun h12 => ?_)
  · have h : i = 12 := eq_of_beq h
    subst h
    repeat (first | refine ⟨_, _, _, IK.c0, IK.c1, IK.c2, ?_⟩ | refine ⟨_, _, _, ID.c0, ID.c1, ID.c2, ?_⟩ | refine ⟨_, _, _, IE.c0, IE.c1, IE.c2, ?_⟩ | refine ⟨_, _, _, IN.c0, IN.c1, IN.c2, ?_⟩ | refine ⟨_, _, _, IB.c0, IB.c1, IB.c2, ?_⟩ | refine ⟨_, _, _, Iox.c0, Iox.c1, Iox.c2, ?_⟩)
    exact letB_intro fun b hb => letW_intro fun w7 hw => fin [iK, ⟨4, 127, 0⟩, iK, ⟨5, 0, 0⟩, iE, iD, iE] (4) b w7 rfl hb hw
  have h12 : ¬ i = 12 := by simpa using h12
  refine cond_intro (fun h => ?_) (fun h13 => ?_)
  · have h : i = 13 := eq_of_beq h
    subst h
    repeat (first | refine ⟨_, _, _, IK.c0, IK.c1, IK.c2, ?_⟩ | refine ⟨_, _, _, ID.c0, ID.c1, ID.c2, ?_⟩ | refine ⟨_, _, _, IE.c0, IE.c1, IE.c2, ?_⟩ | refine ⟨_, _, _, IN.c0, IN.c1, IN.c2, ?_⟩ | refine ⟨_, _, _, IB.c0, IB.c1, IB.c2, ?_⟩ | refine ⟨_, _, _, Iox.c0, Iox.c1, Iox.c2, ?_⟩)
    exact letB_intro fun b hb => letW_intro fun w7 hw => fin [⟨0, 0, 0⟩, iD, iD, iE] (-1) b w7 rfl hb hw
  have h13 : ¬ i = 13 := by simpa using h13
  refine cond_intro (fun h => ?_) (fun h14 => ?_)
  · have h : i = 14 := eq_of_beq h
    subst h
    repeat (first | refine ⟨_, _, _, IK.c0, IK.c1, IK.c2, ?_⟩ | refine ⟨_, _, _, ID.c0, ID.c1, ID.c2, ?_⟩ | refine ⟨_, _, _, IE.c0, IE.c1, IE.c2, ?_⟩ | refine ⟨_, _, _, IN.c0, IN.c1, IN.c2, ?_⟩ | refine ⟨_, _, _, IB.c0, IB.c1, IB.c2, ?_⟩ | refine ⟨_, _, _, Iox.c0, Iox.c1, Iox.c2, ?_⟩)
    exact letB_intro fun b hb => letW_intro fun w7 hw => fin [iB, ⟨12, 0, 0⟩, iD, iE, iD, iE] (4) b w7 rfl hb hw
  have h14 : ¬ i = 14 := by simpa using h14
  refine cond_intro (fun h => ?_) (fun h15 => ?_)
  · have h : i = 15 := eq_of_beq h
    subst h
    repeat (first | refine ⟨_, _, _, IK.c0, IK.c1, IK.c2, ?_⟩ | refine ⟨_, _, _, ID.c0, ID.c1, ID.c2, ?_⟩ | refine ⟨_, _, _, IE.c0, IE.c1, IE.c2, ?_⟩ | refine ⟨_, _, _, IN.c0, IN.c1, IN.c2, ?_⟩ | refine ⟨_, _, _, IB.c0, IB.c1, IB.c2, ?_⟩ | refine ⟨_, _, _, Iox.c0, Iox.c1, Iox.c2, ?_⟩)
    exact letB_intro fun b hb => letW_intro fun w7 hw => fin [⟨16, 2, 0⟩, iE] (0) b w7 rfl hb hw
  have h15 : ¬ i = 15 := by simpa using h15
  refine cond_intro (fun h => ?_) (fun h16 => ?_)
  · have h : i = 16 := eq_of_beq h
    subst h
    repeat (first | refine ⟨_, _, _, IK.c0, IK.c1, IK.c2, ?_⟩ | refine ⟨_, _, _, ID.c0, ID.c1, ID.c2, ?_⟩ | refine ⟨_, _, _, IE.c0, IE.c1, IE.c2, ?_⟩ | refine ⟨_, _, _, IN.c0, IN.c1, IN.c2, ?_⟩ | refine ⟨_, _, _, IB.c0, IB.c1, IB.c2, ?_⟩ | refine ⟨_, _, _, Iox.c0, Iox.c1, Iox.c2, ?_⟩)
    exact letB_intro fun b hb => letW_intro fun w7 hw => fin [iK, ⟨14, 0, 1⟩, iE] (1) b w7 rfl hb hw
  have h16 : ¬ i = 16 := by simpa using h16
  refine cond_intro (fun h => ?_) (fun h17 => ?_)
  · have h : i = 17 := eq_of_beq h
    subst h
    repeat (first | refine ⟨_, _, _, IK.c0, IK.c1, IK.c2, ?_⟩ | refine ⟨_, _, _, ID.c0, ID.c1, ID.c2, ?_⟩ | refine ⟨_, _, _, IE.c0, IE.c1, IE.c2, ?_⟩ | refine ⟨_, _, _, IN.c0, IN.c1, IN.c2, ?_⟩ | refine ⟨_, _, _, IB.c0, IB.c1, IB.c2, ?_⟩ | refine ⟨_, _, _, Iox.c0, Iox.c1, Iox.c2, ?_⟩)
    exact letB_intro fun b hb => letW_intro fun w7 hw => fin [⟨3, 64, 0⟩, ⟨12, 0, 0⟩, iE, iD, iE] (3) b w7 rfl hb hw
  have h17 : ¬ i = 17 := by simpa using h17
  refine cond_intro (fun h => ?_) (fun h18 => ?_)
  · have h : i = 18 := eq_of_beq h
    subst h
    repeat (first | refine ⟨_, _, _, IK.c0, IK.c1, IK.c2, ?_⟩ | refine ⟨_, _, _, ID.c0, ID.c1, ID.c2, ?_⟩ | refine ⟨_, _, _, IE.c0, IE.c1, IE.c2, ?_⟩ | refine ⟨_, _, _, IN.c0, IN.c1, IN.c2, ?_⟩ | refine ⟨_, _, _, IB.c0, IB.c1, IB.c2, ?_⟩ | refine ⟨_, _, _, Iox.c0, Iox.c1, Iox.c2, ?_⟩)
    exact letB_intro fun b hb => letW_intro fun w7 hw => fin [iE] (0) b w7 rfl hb hw
  have h18 : ¬ i = 18 := by simpa using h18
  refine cond_intro (fun h => ?_) (fun h19 => ?_)
  · have h : i = 19 := eq_of_beq h
    subst h
    repeat (first | refine ⟨_, _, _, IK.c0, IK.c1, IK.c2, ?_⟩ | refine ⟨_, _, _, ID.c0, ID.c1, ID.c2, ?_⟩ | refine ⟨_, _, _, IE.c0, IE.c1, IE.c2, ?_⟩ | refine ⟨_, _, _, IN.c0, IN.c1, IN.c2, ?_⟩ | refine ⟨_, _, _, IB.c0, IB.c1, IB.c2, ?_⟩ | refine ⟨_, _, _, Iox.c0, Iox.c1, Iox.c2, ?_⟩)
    exact letB_intro fun b hb => letW_intro fun w7 hw => fin [iB, iE] (2) b w7 rfl hb hw
  have h19 : ¬ i = 19 := by simpa using h19
  refine cond_intro (fun h => ?_) (fun h20 => ?_)
  · have h : i = 20 := eq_of_beq h
    subst h
    repeat (first | refine ⟨_, _, _, IK.c0, IK.c1, IK.c2, ?_⟩ | refine ⟨_, _, _, ID.c0, ID.c1, ID.c2, ?_⟩ | refine ⟨_, _, _, IE.c0, IE.c1, IE.c2, ?_⟩ | refine ⟨_, _, _, IN.c0, IN.c1, IN.c2, ?_⟩ | refine ⟨_, _, _, IB.c0, IB.c1, IB.c2, ?_⟩ | refine ⟨_, _, _, Iox.c0, Iox.c1, Iox.c2, ?_⟩)
    exact letB_intro fun b hb => letW_intro fun w7 hw => fin [iE, iN] (0) b w7 rfl hb hw
  have h20 : ¬ i = 20 := by simpa using h20
  refine cond_intro (fun h => ?_) (fun h21 => ?_)
  · have h : i = 21 := eq_of_beq h
    subst h
    repeat (first | refine ⟨_, _, _, IK.c0, IK.c1, IK.c2, ?_⟩ | refine ⟨_, _, _, ID.c0, ID.c1, ID.c2, ?_⟩ | refine ⟨_, _, _, IE.c0, IE.c1, IE.c2, ?_⟩ | refine ⟨_, _, _, IN.c0, IN.c1, IN.c2, ?_⟩ | refine ⟨_, _, _, IB.c0, IB.c1, IB.c2, ?_⟩ | refine ⟨_, _, _, Iox.c0, Iox.c1, Iox.c2, ?_⟩)
    exact letB_intro fun b hb => letW_intro fun w7 hw => fin [iK, iB, ⟨14, 0, 1⟩, iE, iE] (2) b w7 rfl hb hw
  have h21 : ¬ i = 21 := by simpa using h21
  refine cond_intro (fun h => ?_) (fun h22 => ?_)
  · have h : i = 22 := eq_of_beq h
    subst h
    repeat (first | refine ⟨_, _, _, IK.c0, IK.c1, IK.c2, ?_⟩ | refine ⟨_, _, _, ID.c0, ID.c1, ID.c2, ?_⟩ | refine ⟨_, _, _, IE.c0, IE.c1, IE.c2, ?_⟩ | refine ⟨_, _, _, IN.c0, IN.c1, IN.c2, ?_⟩ | refine ⟨_, _, _, IB.c0, IB.c1, IB.c2, ?_⟩ | refine ⟨_, _, _, Iox.c0, Iox.c1, Iox.c2, ?_⟩)
    exact letB_intro fun b hb => letW_intro fun w7 hw => fin [iK, ⟨14, 0, 0⟩, iE] (1) b w7 rfl hb hw
  have h22 : ¬ i = 22 := by simpa using h22
  have hk : ∀ k : Int, 1 ≤ k → k ≤ 22 → ¬ i = k := fun k q1 q2 e => by omega
  refine cond_intro (fun h => L1 true ?_ hk) (fun h => L1 _ ?_ hk)
  · have := eq_of_beq h; rw [decide_eq_true (by omega)]
  · have h : ¬ i = 23 := by simpa using h
    by_cases q : i = 24
    · rw [decide_eq_true (by omega), q]; rfl
    · rw [decide_eq_false (by omega)]; simpa using q
/-! ### Shape -/
def TbA (w : World) (lo : Nat) (a : Option Addr) (ts : List Int) : Prop := (ts = [] ∧ a = none) ∨ ∃ tk, a = some ⟨tk, 0, none⟩ ∧ ts ≠ [] ∧ TabRow w tk ts.length (fun q => ts.getD q 0) ∧ lo ≤ tk ∧ tk < w.heap.size
def ShQ (w : World) (n : Nat) : Value → World → Prop := fun v w' => ∃ a, v = .tuple #[.int .i64 (shapeN n).1, .slice a (shapeN n).2.length (shapeN n).2.length] ∧ TbA w' w.heap.size a (shapeN n).2 ∧ Same [] w.heap.size w w'
theorem Shape_spec (w : World) (i : Int) : Runs Try.prog preplaw_Shape.id #[.int .i64 i] w (ShQ w (nrm i)) := by
  generalize hR : ShQ w (nrm i) = R
  have non : ∀ t : Int, shapeN (nrm i) = (t, []) → R (.tuple #[.int .i64 t, .slice none 0 0]) w := fun t hp => by
    rw [← hR]
    unfold ShQ
    rw [hp]
    exact ⟨none, rfl, .inl ⟨rfl, rfl⟩, Same.refl _ _ _⟩
  have fin : ∀ (ts : List Int) (b : Nat) (w7 : World), ts ≠ [] → shapeN (nrm i) = (0, ts) → b = w.heap.size → w7 = w.alloc (.cells (ts.map (Value.int .u32)).toArray T_uint32) → R (.tuple #[.int .i64 0, .slice (some ⟨b, 0, none⟩) ts.length ts.length]) w7 := fun ts b w7 hne hp hb hw => by
    rw [← hR]
    unfold ShQ
    rw [hp]
    have S7 : Same [] w.heap.size w w7 := by rw [hw]; exact (Same.refl _ _ _).alloc (Nat.le_refl _) _
    have z7 : w7.heap.size = w.heap.size + 1 := by rw [hw]; simp
    refine ⟨_, rfl, .inr ⟨b, rfl, hne, ⟨fun j hj => ?_, fun j => by rw [hw, hb, World.frozen?_alloc_new]⟩, by omega, by omega⟩, S7⟩
    rw [hw, hb, World.cell?_alloc_new]
    have hj : j < ts.length := hj
    rw [List.getElem?_toArray, List.getElem?_map, List.getElem?_eq_getElem hj]
    show some (Value.int .u32 ts[j]) = some (Value.int .u32 (ts.getD j 0))
    rw [List.getD_eq_getElem?_getD, List.getElem?_eq_getElem hj]
    rfl
  clear hR
  refine preplaw_Shape.enter _ _ _ _ ?_
  unfold preplaw_Shape.V
  have L2 : ∀ t : Bool, t = decide (i = 31 ∨ i = 32 ∨ i = 33 ∨ i = 34 ∨ i = 36) → ¬ (i = 18 ∨ i = 21 ∨ i = 22 ∨ i = 25 ∨ i = 23 ∨ i = 24 ∨ i = 26) → preplaw_Shape.L2 t R (fun _ _ => False) w := fun t ht hn => by
    refine preplaw_Shape.step2 _ _ _ _ ?_
    unfold preplaw_Shape.V2
    refine cond_intro (fun h => ?_) (fun h => ?_)
    · have h := of_decide_eq_true (ht ▸ h)
      rcases h with rfl | rfl | rfl | rfl | rfl <;> exact non 1 rfl
    · have h := of_decide_eq_false (ht ▸ h)
      refine non 0 ?_
      by_cases q : 1 ≤ i ∧ i ≤ 36
      · obtain ⟨n, rfl⟩ := Int.eq_ofNat_of_zero_le (show 0 ≤ i by omega)
        have e : nrm (n : Int) = n := by unfold nrm; rw [if_pos q]; rfl
        rw [e]
        have hn' : n = 1 ∨ n = 2 ∨ n = 3 ∨ n = 4 ∨ n = 5 ∨ n = 6 ∨ n = 7 ∨ n = 8 ∨ n = 9 ∨ n = 10 ∨ n = 11 ∨ n = 12 ∨ n = 13 ∨ n = 14 ∨ n = 15 ∨ n = 16 ∨ n = 17 ∨ n = 19 ∨ n = 20 ∨ n = 27 ∨ n = 28 ∨ n = 29 ∨ n = 30 ∨ n = 35 := by omega
        rcases hn' with rfl | rfl | rfl | rfl | rfl | rfl | rfl | rfl | rfl | rfl | rfl | rfl | rfl | rfl | rfl | rfl | rfl | rfl | rfl | rfl | rfl | rfl | rfl | rfl <;> rfl
      · have e : nrm i = 0 := by unfold nrm; rw [if_neg q]
        rw [e]; rfl
  have L1 : ∀ t : Bool, t = decide (i = 21 ∨ i = 22 ∨ i = 25) → ¬ i = 18 → preplaw_Shape.L1 i t R (fun _ _ => False) w := fun t ht h18 => by
    refine preplaw_Shape.step1 _ _ _ _ _ ?_
    unfold preplaw_Shape.V1
    refine cond_intro (fun h => ?_) (fun h => ?_)
    · have h := of_decide_eq_true (ht ▸ h)
      rcases h with rfl | rfl | rfl <;> exact letB_intro fun b hb => letW_intro fun w7 hw => fin [0] b w7 (by simp) rfl hb hw
    have h1 := of_decide_eq_false (ht ▸ h)
    refine cond_intro (fun h => ?_) (fun h => ?_)
    · have h : i = 23 := eq_of_beq h
      subst h
      exact letB_intro fun b hb => letW_intro fun w7 hw => fin [5] b w7 (by simp) rfl hb hw
    have h23 : ¬ i = 23 := by simpa using h
    refine cond_intro (fun h => ?_) (fun h => ?_)
    · have h : i = 24 := eq_of_beq h
      subst h
      exact letB_intro fun b hb => letW_intro fun w7 hw => fin [0, 1] b w7 (by simp) rfl hb hw
    have h24 : ¬ i = 24 := by simpa using h
    refine cond_intro (fun h => ?_) (fun h => ?_)
    · have h : i = 26 := eq_of_beq h
      subst h
      exact letB_intro fun b hb => letW_intro fun w7 hw => fin [0, 0] b w7 (by simp) rfl hb hw
    have h26 : ¬ i = 26 := by simpa using h
    have hn : ¬ (i = 18 ∨ i = 21 ∨ i = 22 ∨ i = 25 ∨ i = 23 ∨ i = 24 ∨ i = 26) := by omega
    refine cond_intro (fun h => L2 true ?_ hn) (fun q1 => cond_intro (fun h => L2 true ?_ hn) (fun q2 => cond_intro (fun h => L2 true ?_ hn) (fun q3 => cond_intro (fun h => L2 true ?_ hn) (fun q4 => L2 _ ?_ hn))))
    · have := eq_of_beq h; rw [decide_eq_true (by omega)]
    · have := eq_of_beq h; rw [decide_eq_true (by omega)]
    · have := eq_of_beq h; rw [decide_eq_true (by omega)]
    · have := eq_of_beq h; rw [decide_eq_true (by omega)]
    · have q1 : ¬ i = 31 := by simpa using q1
      have q2 : ¬ i = 32 := by simpa using q2
      have q3 : ¬ i = 33 := by simpa using q3
      have q4 : ¬ i = 34 := by simpa using q4
      by_cases q : i = 36
      · rw [decide_eq_true (by omega), q]; rfl
      · rw [decide_eq_false (by omega)]; simpa using q
  refine cond_intro (fun h => ?_) (fun h => ?_)
  · have h : i = 18 := eq_of_beq h
    subst h
    exact non 7 rfl
  have h18 : ¬ i = 18 := by simpa using h
  refine cond_intro (fun h => L1 true ?_ h18) (fun q1 => cond_intro (fun h => L1 true ?_ h18) (fun q2 => L1 _ ?_ h18))
  · have := eq_of_beq h; rw [decide_eq_true (by omega)]
  · have := eq_of_beq h; rw [decide_eq_true (by omega)]
  · have q1 : ¬ i = 21 := by simpa using q1
    have q2 : ¬ i = 22 := by simpa using q2
    by_cases q : i = 25
    · rw [decide_eq_true (by omega), q]; rfl
    · rw [decide_eq_false (by omega)]; simpa using q
end Go.Proofs.Qxb6500321a
