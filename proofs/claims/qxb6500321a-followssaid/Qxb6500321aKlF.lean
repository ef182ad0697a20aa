/-
  Placed: the thirty-six facts.
-/
import Derived.Test.Qxb6500321aKlE
set_option linter.unusedSimpArgs false
set_option linter.unusedVariables false
set_option maxRecDepth 100000
set_option linter.unusedSectionVars false
set_option maxHeartbeats 2000000
namespace Go.Proofs.Qxb6500321a
open Go Go.Vc

def handN (n : Nat) : PM := { pm0 with nTy := 2, ty := fun j => if j = 0 then ⟨#[58]⟩ else ⟨#[58, 127]⟩, nf := 2, fn := fun j => if j = 0 then ⟨0, [], 1, fun _ => iE, 0, fun _ => 0⟩ else ⟨(shapeN n).1, [], (placeN n).1.length, fun q => (placeN n).1.getD q z0, (shapeN n).2.length, fun q => (shapeN n).2.getD q 0⟩ }
def insB (x : Ins) : Bool := decide (0 ≤ x.op) && decide (x.op ≤ 255) && decide (0 ≤ x.x) && decide (x.x ≤ 4294967295) && decide (0 ≤ x.y) && decide (x.y ≤ 18446744073709551615)
def okN (n : Nat) : Bool := match comp (handN n) with
  | .inl e => decide (0 ≤ (placeN n).2) && decide (e.1 = 1) && decide ((e.2 : Int) = (placeN n).2)
  | .inr _ => decide ((placeN n).2 < 0)
def hOk (n : Nat) : Bool := (placeN n).1.all insB && decide ((placeN n).1.length ≤ 96) && decide (1 ≤ (placeN n).1.length) && (shapeN n).2.all (fun t => decide (0 ≤ t) && decide (t ≤ 4294967295)) && decide ((shapeN n).2.length ≤ 24) && decide (0 ≤ (shapeN n).1) && decide ((shapeN n).1 ≤ 4294967295) && decide (wsum (bdOf (handN n) ((handN n).fn 1)) (placeN n).1.length ≤ 120) && okN n
theorem hOk_all : ((List.range 37).all hOk) = true := by kernel_rfl
theorem hOk_at {n : Nat} (h : n < 37) : hOk n = true := List.all_eq_true.1 hOk_all n (List.mem_range.2 h)
structure HO (n : Nat) : Prop where
  ins : ∀ x, x ∈ (placeN n).1 → InsIn x
  l1 : (placeN n).1.length ≤ 96
  l2 : 1 ≤ (placeN n).1.length
  tab : ∀ t, t ∈ (shapeN n).2 → 0 ≤ t ∧ t ≤ 4294967295
  t1 : (shapeN n).2.length ≤ 24
  s0 : 0 ≤ (shapeN n).1
  s1 : (shapeN n).1 ≤ 4294967295
  w : wsum (bdOf (handN n) ((handN n).fn 1)) (placeN n).1.length ≤ 120
  ok : okN n = true
theorem ho {n : Nat} (h : n < 37) : HO n := by
  have q := hOk_at h
  unfold hOk at q
  simp only [Bool.and_eq_true, decide_eq_true_eq, List.all_eq_true] at q
  obtain ⟨⟨⟨⟨⟨⟨⟨⟨a, b⟩, c⟩, d⟩, e⟩, f⟩, g⟩, i⟩, j⟩ := q
  refine ⟨fun x hx => ?_, b, c, fun t ht => d t ht, e, f, g, i, j⟩
  have := a x hx
  unfold insB at this
  simp only [Bool.and_eq_true, decide_eq_true_eq] at this
  obtain ⟨⟨⟨⟨⟨p1, p2⟩, p3⟩, p4⟩, p5⟩, p6⟩ := this
  exact ⟨p1, p2, p3, p4, p5, p6⟩
theorem hand_pb {n : Nat} (h : n < 37) : PB (handN n) := by
  have O := ho h
  have a0 : (splitP (⟨#[58]⟩ : ByteArray)).1.size = 0 := by kernel_rfl
  have a1 : (splitP (⟨#[58]⟩ : ByteArray)).2.size = 0 := by kernel_rfl
  have a2 : (splitP (⟨#[58, 127]⟩ : ByteArray)).1.size = 0 := by kernel_rfl
  have a3 : (splitP (⟨#[58, 127]⟩ : ByteArray)).2.size = 1 := by kernel_rfl
  have a4 : byteAt (splitP (⟨#[58, 127]⟩ : ByteArray)).2 0 = 127 := by kernel_rfl
  have none0 : ∀ {G : Nat → Prop} (j : Nat), j < 0 → G j := fun j hj => absurd hj (Nat.not_lt_zero j)
  refine ⟨by show 2 ≤ 8; omega, fun j hj => ?_, Nat.zero_le _, fun j hj => absurd hj (Nat.not_lt_zero j), by show 2 ≤ 8; omega, fun j hj => ?_, by show (-1 : Int) ≤ -1 ∧ (-1 : Int) ≤ 4294967295; omega, by show (-1 : Int) ≤ -1 ∧ (-1 : Int) ≤ 4294967295; omega, by show (-1 : Int) ≤ -1 ∧ (-1 : Int) ≤ 4294967295; omega, by show (-1 : Int) ≤ -1 ∧ (-1 : Int) ≤ 4294967295; omega, Nat.zero_le _, fun j hj => absurd hj (Nat.not_lt_zero j), Nat.zero_le _, fun j hj => absurd hj (Nat.not_lt_zero j), by show (-1 : Int) ≤ -1 ∧ (-1 : Int) ≤ 4294967295; omega, Nat.zero_le _, fun j hj => absurd hj (Nat.not_lt_zero j), Nat.zero_le _, fun j hj => absurd hj (Nat.not_lt_zero j)⟩
  · have hj : j < 2 := hj
    have : j = 0 ∨ j = 1 := by omega
    rcases this with rfl | rfl
    · show (⟨#[58]⟩ : ByteArray).size ≤ 1024 ∧ Asc (splitP (⟨#[58]⟩ : ByteArray)).1 ∧ Asc (splitP (⟨#[58]⟩ : ByteArray)).2
      exact ⟨by decide, fun k hk => by rw [a0] at hk; omega, fun k hk => by rw [a1] at hk; omega⟩
    · show (⟨#[58, 127]⟩ : ByteArray).size ≤ 1024 ∧ Asc (splitP (⟨#[58, 127]⟩ : ByteArray)).1 ∧ Asc (splitP (⟨#[58, 127]⟩ : ByteArray)).2
      refine ⟨by decide, fun k hk => by rw [a2] at hk; omega, fun k hk => ?_⟩
      rw [a3] at hk
      have : k = 0 := by omega
      rw [this, a4]
      decide
  · have hj : j < 2 := hj
    have : j = 0 ∨ j = 1 := by omega
    rcases this with rfl | rfl
    · exact ⟨by show (0 : Int) ≤ 0; omega, by show (0 : Int) ≤ 4294967295; omega, by show (strOfNums []).size ≤ 6; decide, fun k hk => absurd hk (by show ¬ k < 0; omega), by show 1 ≤ 96; omega, fun k _ => by show InsIn iE; exact ⟨by decide, by decide, by decide, by decide, by decide, by decide⟩, by show 0 ≤ 24; omega, fun k hk => absurd hk (Nat.not_lt_zero k)⟩
    · refine ⟨O.s0, O.s1, by show (strOfNums []).size ≤ 6; decide, fun k hk => absurd hk (by show ¬ k < 0; omega), O.l1, fun k hk => ?_, O.t1, fun k hk => ?_⟩
      · have hk : k < (placeN n).1.length := hk
        show InsIn ((placeN n).1.getD k z0)
        rw [List.getD_eq_getElem?_getD, List.getElem?_eq_getElem hk]
        exact O.ins _ (List.getElem_mem hk)
      · have hk : k < (shapeN n).2.length := hk
        show 0 ≤ (shapeN n).2.getD k 0 ∧ (shapeN n).2.getD k 0 ≤ 4294967295
        rw [List.getD_eq_getElem?_getD, List.getElem?_eq_getElem hk]
        exact O.tab _ (List.getElem_mem hk)
theorem hand_room {n : Nat} (h : n < 37) : ∀ i, i < (handN n).nf → wsum (bdOf (handN n) ((handN n).fn i)) ((handN n).fn i).nI ≤ 120 ∧ 1 ≤ ((handN n).fn i).nI := fun i hi => by
  have O := ho h
  have hi : i < 2 := hi
  have : i = 0 ∨ i = 1 := by omega
  rcases this with rfl | rfl
  · refine ⟨?_, by show 1 ≤ 1; omega⟩
    show wsum (bdOf (handN n) ((handN n).fn 0)) (0 + 1) ≤ 120
    rw [wsum_succ, if_neg (by rintro ⟨q, _⟩; exact absurd q (by show ¬ iE.op = 14; decide))]
    show 0 + (1 + 0) ≤ 120
    omega
  · exact ⟨O.w, O.l2⟩
theorem Placed_spec {w : World} {pb cb : Nat} (p : PZe w pb cb) (i : Int) : Runs Try.prog preplaw_Placed.id #[rp pb, .int .i64 i] w fun v w' => v = .bool true ∧ PZe w' pb cb ∧ Same [pb, cb] w.heap.size w w' := by
  obtain ⟨l1, l2, l3⟩ := p.lt
  have hn := nrm_lt i
  have O := ho hn
  refine preplaw_Placed.enter _ _ _ _ _ ?_
  unfold preplaw_Placed.V
  refine RunsQ.post (Place_spec w i) ?_
  rintro v w1 ⟨nb, rfl, lnb, lnb2, I1, S1⟩
  refine ⟨_, _, _, _, rfl, RunsQ.post (Shape_spec w1 i) ?_⟩
  rintro v w2 ⟨ta, rfl, TB, S2⟩
  generalize nrm i = n at *
  have z1 := S1.size; have z2 := S2.size
  refine ⟨_, _, _, _, rfl, letB_intro fun b15 hb15 => letW_intro fun w3 hw3 => letB_intro fun b17 hb17 => letW_intro fun w4 hw4 => ?_⟩
  have S3 : Same [] w2.heap.size w2 w3 := by rw [hw3]; exact (Same.refl _ _ _).alloc (Nat.le_refl _) _
  have z3 : w3.heap.size = w2.heap.size + 1 := by rw [hw3]; simp
  have S4 : Same [] w3.heap.size w3 w4 := by rw [hw4]; exact (Same.refl _ _ _).alloc (Nat.le_refl _) _
  have z4 : w4.heap.size = w3.heap.size + 1 := by rw [hw4]; simp
  have m3 : ∀ j v, #[(Value.slice none 0 0), (.slice none 0 0), (.slice none 0 0), (.int .i64 (-1)), (.int .i64 (-1)), (.int .i64 (-1)), (.int .i64 (-1)), (.slice none 0 0), (.slice none 0 0), (.int .i64 (-1)), (.slice none 0 0), (.slice none 0 0)][j]? = some v → w4.cell? ⟨b15, j, none⟩ = some v := fun j v hj => by
    rw [S4.cell (p := ⟨b15, j, none⟩) (by show b15 < _; omega) (by simp), hw3, hb15, World.cell?_alloc_new]; exact hj
  have mf : ∀ j, w4.frozen? ⟨b15, j, none⟩ = false := fun j => by
    rw [S4.frozen (p := ⟨b15, j, none⟩) (by show b15 < _; omega) (by simp), hw3, hb15, World.frozen?_alloc_new]
  have t0 : w4.cell? ⟨b17, 0, none⟩ = some (.string ⟨#[58]⟩) := by rw [hw4, hb17, World.cell?_alloc_new]; rfl
  have t1 : w4.cell? ⟨b17, 1, none⟩ = some (.string ⟨#[58, 127]⟩) := by rw [hw4, hb17, World.cell?_alloc_new]; rfl
  have tf : ∀ j, w4.frozen? ⟨b17, j, none⟩ = false := fun j => by rw [hw4, hb17, World.frozen?_alloc_new]
  clear hw3 hw4
  refine ⟨⟨⟨_, m3 0 _ rfl⟩, mf 0⟩, letW_intro fun w5 hw5 => letB_intro fun b20 hb20 => letW_intro fun w6 hw6 => letB_intro fun b22 hb22 => letW_intro fun w7 hw7 => ?_⟩
  have S5 : Same [b15] w4.heap.size w4 w5 := by rw [hw5]; exact (Same.refl _ _ _).setCell (.inr (by simp)) _
  have z5 : w5.heap.size = w4.heap.size := by rw [hw5]; simp
  have S6 : Same [] w5.heap.size w5 w6 := by rw [hw6]; exact (Same.refl _ _ _).alloc (Nat.le_refl _) _
  have z6 : w6.heap.size = w5.heap.size + 1 := by rw [hw6]; simp
  have S7 : Same [] w6.heap.size w6 w7 := by rw [hw7]; exact (Same.refl _ _ _).alloc (Nat.le_refl _) _
  have z7 : w7.heap.size = w6.heap.size + 1 := by rw [hw7]; simp
  have m5 : w5.cell? ⟨b15, 0, none⟩ = some (.slice (some ⟨b17, 0, none⟩) 2 2) := by rw [hw5, cell_setCell, if_pos ⟨rfl, rfl⟩, m3 0 _ rfl]; rfl
  have m5' : ∀ j v, j ≠ 0 → w4.cell? ⟨b15, j, none⟩ = some v → w5.cell? ⟨b15, j, none⟩ = some v := fun j v hj hv => by rw [hw5, cell_setCell, if_neg (by omega)]; exact hv
  have mf5 : ∀ j, w5.frozen? ⟨b15, j, none⟩ = false := fun j => by rw [hw5, World.frozen?_setCell]; exact mf j
  have I20 : InsRow w6 b20 1 (fun _ => iE) := by
    have := insRow_new (bd := [iE]) hb20 hw6
    exact ⟨fun j hj => by have q := this.i0 j hj; have : j = 0 := by omega
                          subst this; exact q, fun j hj => by have q := this.i1 j hj; have : j = 0 := by omega
                                                              subst this; exact q, fun j hj => by have q := this.i2 j hj; have : j = 0 := by omega
                                                                                                  subst this; exact q, this.fz⟩
  have f7 : ∀ j v, #[(Value.int .i64 0), (.string ⟨#[]⟩), (.slice (some ⟨b20, 0, none⟩) 1 1), (.slice none 0 0), (.int .i64 (shapeN n).1), (.string ⟨#[]⟩), (.slice (some ⟨nb, 0, none⟩) (placeN n).1.length (placeN n).1.length), (.slice ta (shapeN n).2.length (shapeN n).2.length)][j]? = some v → w7.cell? ⟨b22, j, none⟩ = some v := fun j v hj => by rw [hw7, hb22, World.cell?_alloc_new]; exact hj
  have ff7 : ∀ j, w7.frozen? ⟨b22, j, none⟩ = false := fun j => by rw [hw7, hb22, World.frozen?_alloc_new]
  clear hw5 hw6 hw7
  have m7 : ∀ j v, w5.cell? ⟨b15, j, none⟩ = some v → w7.cell? ⟨b15, j, none⟩ = some v := fun j v hv => by rw [(S6.nx S7).cell (p := ⟨b15, j, none⟩) (by show b15 < _; omega) (by simp)]; exact hv
  have mf7 : ∀ j, w7.frozen? ⟨b15, j, none⟩ = false := fun j => by rw [(S6.nx S7).frozen (p := ⟨b15, j, none⟩) (by show b15 < _; omega) (by simp)]; exact mf5 j
  have e2 := m7 2 _ (m5' 2 _ (by omega) (m3 2 _ rfl))
  refine ⟨⟨⟨_, e2⟩, mf7 2⟩, letW_intro fun w8 hw8 => ?_⟩
  have S8 : Same [b15] w7.heap.size w7 w8 := by rw [hw8]; exact (Same.refl _ _ _).setCell (.inr (by simp)) _
  have z8 : w8.heap.size = w7.heap.size := by rw [hw8]; simp
  have T58 : Same [b15] w5.heap.size w5 w8 := ((S6.nx S7).mono (Nat.le_refl _) (by simp)).trans (S8.mono (by omega) (fun _ h _ => h))
  have T48 : Same [b15] w4.heap.size w4 w8 := S5.trans (T58.mono (by omega) (fun _ h _ => h))
  have T28 : Same [] w2.heap.size w2 w8 := (S3.nx S4).trans (T48.mono (by omega) (fun k hk hl => by simp at hk; omega))
  have T8 : Same [] w.heap.size w w8 := (S1.nx S2).nx T28
  let m : Nat → Value := fun j => if j = 0 then .slice (some ⟨b17, 0, none⟩) 2 2 else if j = 2 then .slice (some ⟨b22, 0, none⟩) 2 2 else if j = 3 ∨ j = 4 ∨ j = 5 ∨ j = 6 ∨ j = 9 then .int .i64 (-1) else .slice none 0 0
  have md : ModAt w8 b15 m := by
    refine ⟨fun j hj => ?_, fun j => by rw [hw8, World.frozen?_setCell]; exact mf7 j⟩
    by_cases q2 : j = 2
    · subst q2
      rw [hw8, cell_setCell, if_pos ⟨rfl, rfl⟩, e2]; rfl
    · rw [hw8, cell_setCell, if_neg (by omega)]
      by_cases q0 : j = 0
      · subst q0
        exact m7 0 _ m5
      · refine m7 j _ (m5' j _ q0 (m3 j _ ?_))
        have : j = 1 ∨ j = 3 ∨ j = 4 ∨ j = 5 ∨ j = 6 ∨ j = 7 ∨ j = 8 ∨ j = 9 ∨ j = 10 ∨ j = 11 := by omega
        rcases this with rfl | rfl | rfl | rfl | rfl | rfl | rfl | rfl | rfl | rfl <;> rfl
  clear hw8
  have I1' : InsRow w8 nb (placeN n).1.length (fun q => (placeN n).1.getD q z0) := I1.mv (S2.nx T28) lnb2 (by simp)
  have I20' : InsRow w8 b20 1 (fun _ => iE) := I20.mv ((S7.mono (Nat.le_refl _) (by simp)).trans (S8.mono (by omega) (fun _ h _ => h)) : Same [b15] w6.heap.size w6 w8) (by omega) (by simp; omega)
  have f8 : ∀ j v, #[(Value.int .i64 0), (.string ⟨#[]⟩), (.slice (some ⟨b20, 0, none⟩) 1 1), (.slice none 0 0), (.int .i64 (shapeN n).1), (.string ⟨#[]⟩), (.slice (some ⟨nb, 0, none⟩) (placeN n).1.length (placeN n).1.length), (.slice ta (shapeN n).2.length (shapeN n).2.length)][j]? = some v → w8.cell? ⟨b22, j, none⟩ = some v := fun j v hj => by
    rw [S8.cell (p := ⟨b22, j, none⟩) (by show b22 < _; omega) (by simp; omega)]; exact f7 j v hj
  have ff8 : ∀ j, w8.frozen? ⟨b22, j, none⟩ = false := fun j => by rw [S8.frozen (p := ⟨b22, j, none⟩) (by show b22 < _; omega) (by simp; omega)]; exact ff7 j
  have ty : SlF strE 1 w8 (w.heap.size - 1) (m 0) 2 (handN n).ty := by
    refine .inr ⟨by omega, b17, rfl, ⟨fun j hj k v hk => ?_, fun j => ?_⟩, by omega, by omega⟩
    · cases k with
      | zero =>
        have hk : some (Value.string ((handN n).ty j)) = some v := hk
        cases hk
        rw [Nat.mul_one, Nat.add_zero, T48.cell (p := ⟨b17, j, none⟩) (by show b17 < _; omega) (by simp; omega)]
        have : j = 0 ∨ j = 1 := by omega
        rcases this with rfl | rfl
        · exact t0
        · exact t1
      | succ k => cases hk
    · rw [T48.frozen (p := ⟨b17, j, none⟩) (by show b17 < _; omega) (by simp; omega)]; exact tf j
  have fr : FnRow w8 (w.heap.size - 1 + 1) b22 2 2 (handN n).fn := by
    refine ⟨fun j hj => ?_, ff8, fun j hj => ?_, fun j hj => ?_, fun j hj => ?_, fun j hj => ?_, fun j h1 h2 => by omega⟩
    · have : j = 0 ∨ j = 1 ∨ j = 2 ∨ j = 3 ∨ j = 4 ∨ j = 5 ∨ j = 6 ∨ j = 7 := by omega
      rcases this with rfl | rfl | rfl | rfl | rfl | rfl | rfl | rfl <;> exact ⟨_, f8 _ _ rfl⟩
    · have : j = 0 ∨ j = 1 := by omega
      rcases this with rfl | rfl
      · exact f8 0 _ rfl
      · exact f8 4 _ rfl
    · have : j = 0 ∨ j = 1 := by omega
      rcases this with rfl | rfl
      · exact f8 1 _ rfl
      · exact f8 5 _ rfl
    · have : j = 0 ∨ j = 1 := by omega
      rcases this with rfl | rfl
      · exact ⟨b20, f8 2 _ rfl, I20', by omega, by omega, by omega⟩
      · exact ⟨nb, f8 6 _ rfl, I1', by omega, by omega, by omega⟩
    · have : j = 0 ∨ j = 1 := by omega
      rcases this with rfl | rfl
      · exact .inl ⟨rfl, f8 3 _ rfl⟩
      · have q := f8 7 _ rfl
        rcases TB with ⟨h1, h2⟩ | ⟨tk, h1, h2, h3, h4, h5⟩
        · subst h2
          have hl : (shapeN n).2.length = 0 := by rw [h1]; rfl
          rw [hl] at q
          exact .inl ⟨hl, q⟩
        · subst h1
          refine .inr ⟨List.length_pos_iff.2 h2, tk, q, ⟨fun k hk => ?_, fun k => ?_⟩, by omega, by omega, by omega⟩
          · rw [T28.cell (p := ⟨tk, k, none⟩) (by show tk < _; omega) (by simp)]; exact h3.1 k hk
          · rw [T28.frozen (p := ⟨tk, k, none⟩) (by show tk < _; omega) (by simp)]; exact h3.2 k
  have H : HM w8 w8 (w.heap.size - 1) b15 m (handN n) :=
    ⟨md, ⟨ty, .inl ⟨rfl, rfl⟩, .inr ⟨by show (2 : Nat) ≠ 0; omega, b22, rfl, fr, by omega, by omega⟩, rfl, rfl, rfl, rfl, .inl ⟨rfl, rfl⟩, .inl ⟨rfl, rfl⟩, rfl, .inl ⟨rfl, rfl⟩, .inl ⟨rfl, rfl⟩⟩, by omega, Same.refl _ _ _⟩
  refine RunsQ.post (Compile_spec H (hand_pb hn) (hand_room hn) (p.same T8 (Nat.le_refl _) (by simp) (by simp)) (by omega) (by omega)) ?_
  rintro v w9 ⟨Z9, S9, hv⟩
  have fin : Same [pb, cb] w.heap.size w w9 := (T8.mono (Nat.le_refl _) (by simp)).trans (S9.mono T8.size (fun _ h _ => h))
  have ok := O.ok
  unfold okN at ok
  cases hc : comp (handN n) with
  | inl e =>
    obtain ⟨k, at_⟩ := e
    rw [hc] at hv ok
    simp only [Bool.and_eq_true, decide_eq_true_eq] at ok
    obtain ⟨⟨o1, o2⟩, o3⟩ := ok
    subst o2
    have hv : v = _ := hv
    subst hv
    refine ⟨_, _, _, _, rfl, cond_false' (decide_eq_false (by omega)) (cond_true' rfl (cond_true' rfl (cond_true' (by rw [← o3]; simp) ⟨rfl, Z9, fin⟩)))⟩
  | inr fs =>
    rw [hc] at hv ok
    have ok := of_decide_eq_true ok
    obtain ⟨cdb, rfl, _⟩ := hv
    exact ⟨_, _, _, _, rfl, cond_true' (decide_eq_true ok) (cond_true' rfl (cond_true' rfl (cond_true' rfl ⟨rfl, Z9, fin⟩)))⟩
end Go.Proofs.Qxb6500321a
