/-
  The model's encoder: code and data.
-/
import Derived.Test.Qxb6500316aEmE
import Derived.Test.Qxb6500316aRtD
set_option linter.unusedSimpArgs false
set_option linter.unusedVariables false
set_option maxRecDepth 100000
set_option linter.unusedSectionVars false
namespace Go.Proofs.Qxb6500316a
open Go Go.Vc

/-- A function's block, as the encoder copied it. -/
structure FC (w : World) (fb : Nat) (x : FnP) (bd tb : Value) : Prop where
  c1 : w.cell? ⟨fb, 1, none⟩ = some (.string (strOfNums x.ls))
  c2 : w.cell? ⟨fb, 2, none⟩ = some bd
  c3 : w.cell? ⟨fb, 3, none⟩ = some tb
  bd : Lk insC 3 w bd x.nI x.ins
  tb : Lk u32E 1 w tb x.nTab x.tabs
theorem FC.keep {w w' : World} {fb : Nat} {x : FnP} {bd tb : Value} (h : FC w fb x bd tb) (S : Same [] w.heap.size w w') : FC w' fb x bd tb :=
  ⟨(S.cell (p := ⟨fb, 1, none⟩) (cell_lt h.c1) (by simp)).trans h.c1, (S.cell (p := ⟨fb, 2, none⟩) (cell_lt h.c2) (by simp)).trans h.c2, (S.cell (p := ⟨fb, 3, none⟩) (cell_lt h.c3) (by simp)).trans h.c3, h.bd.keep S, h.tb.keep S⟩
theorem one_byte (t : ByteArray) (j : Nat) (h : j < t.size) : t.extract j (j + 1) = strOfNums [byteAt t j] := by
  have e := ext_one t j 0 (by omega)
  have z0 : (t.extract j (j + 0)).size = 0 := by rw [ByteArray.size_extract]; omega
  have z : t.extract j (j + 0) = strOfNums [] := ByteArray.ext (Array.eq_empty_of_size_eq_zero z0)
  rw [z, nums_app] at e
  exact e.symm
section
variable {w0 : World} {mb : Nat} {m : Nat → Value} {P : PM} {R Q : Value → World → Prop}
/-- The locals of a function, in runs. -/
theorem em13 {fb : Nat} {x : FnP} (hF : FnB x) {bd tb : Value} {a t : List Int} {i : Int} (hQ : Q = fun _ _ => False)
    (hN : ∀ w', Same [] w0.heap.size w0 w' → FC w' fb x bd tb → binm_Bin_Encode.L16 (some ⟨mb, 0, none⟩) (strOfNums a) (strOfNums t) i fb (strOfNums (locE (strOfNums x.ls))) 0 R Q w') :
    ∀ (F f j gr : Nat) (g : List Int) (w : World), f ≤ F → j + f = (strOfNums x.ls).size → gr + ng (strOfNums x.ls) f j = ng (strOfNums x.ls) (strOfNums x.ls).size 0 → g ++ grpF (strOfNums x.ls) f j 0 = grpF (strOfNums x.ls) (strOfNums x.ls).size 0 0 → gr ≤ j → g.length ≤ 11 * j → FC w fb x bd tb → Same [] w0.heap.size w0 w →
      binm_Bin_Encode.L13 (some ⟨mb, 0, none⟩) (strOfNums a) (strOfNums t) i fb (gr : Int) (strOfNums g) (j : Int) R Q w := by
  haveI := outNil
  subst hQ
  have hs6 := hF.ls
  generalize hT : strOfNums x.ls = T at *
  have fin : ∀ (j gr : Nat) (g : List Int) (w : World), j = T.size → gr + ng T 0 j = ng T T.size 0 → g ++ grpF T 0 j 0 = grpF T T.size 0 0 → gr ≤ j → g.length ≤ 11 * j → FC w fb x bd tb → Same [] w0.heap.size w0 w → binm_Bin_Encode.L13 (some ⟨mb, 0, none⟩) (strOfNums a) (strOfNums t) i fb (gr : Int) (strOfNums g) (j : Int) R (fun _ _ => False) w := fun j gr g w hj hg1 hg2 hgr hgl hC S => by
    refine binm_Bin_Encode.step13 _ _ _ _ _ _ _ _ _ _ _ ?_
    unfold binm_Bin_Encode.V13
    have c1 := hC.c1
    rw [hT] at c1
    refine ⟨_, c1, cond_false' (decide_eq_false (by omega)) ?_⟩
    rw [wrap_u64 (x := (gr : Int)) (by omega) (by omega)]
    have q := uleb_len (gr : Int)
    refine (ulebm w (gr : Int) (by omega) (by omega)).into fun w1 S1 => ⟨_, rfl, cat_size _ _ (by omega), ?_⟩
    rw [nums_app]
    have e1 : ng T 0 j = 0 := rfl
    have e2 : grpF T 0 j 0 = [] := rfl
    rw [e1, Nat.add_zero] at hg1
    rw [e2, List.append_nil] at hg2
    have el : locE T = uleb (gr : Int) ++ g := by
      unfold locE
      rw [runs_ng, ← hg1, ← hg2]
    rw [← el]
    exact hN w1 (Same.nx S S1) (hC.keep S1)
  intro F
  induction F with
  | zero =>
    intro f j gr g w hf hj hg1 hg2 hgr hgl hC S
    obtain rfl : f = 0 := by omega
    exact fin j gr g w (by omega) hg1 hg2 hgr hgl hC S
  | succ F ih =>
    intro f j gr g w hf hj hg1 hg2 hgr hgl hC S
    rcases Nat.eq_zero_or_pos f with rfl | hpos
    · exact fin j gr g w (by omega) hg1 hg2 hgr hgl hC S
    -- the end of a run at p
    have L18 : ∀ (q p : Nat) (w : World), p + 1 + q = T.size → j ≤ p → byteAt T p = byteAt T j → grpF T f j 0 = grpF T (q + 1) p ((p : Int) - (j : Int)) → ng T f j = ng T (q + 1) p → (p + 1 = T.size ∨ byteAt T (p + 1) ≠ byteAt T p) → FC w fb x bd tb → Same [] w0.heap.size w0 w →
        binm_Bin_Encode.L18 (some ⟨mb, 0, none⟩) (strOfNums a) (strOfNums t) i fb (gr : Int) (strOfNums g) (j : Int) ((p + 1 : Nat) : Int) R (fun _ _ => False) w := fun q p w hp hjp hb hgf hng hend hC S => by
      refine binm_Bin_Encode.step18 _ _ _ _ _ _ _ _ _ _ _ _ ?_
      unfold binm_Bin_Encode.V18
      have ek : IntKind.wrap .i64 (((p + 1 : Nat) : Int) - (j : Int)) = (p : Int) - (j : Int) + 1 := by rw [wrap_i64 (by omega) (by omega)]; omega
      rw [ek, wrap_u64 (x := (p : Int) - (j : Int) + 1) (by omega) (by omega), nx' j (by omega), nx' gr (by omega)]
      simp only [Int.toNat_natCast]
      have q1 := uleb_len ((p : Int) - (j : Int) + 1)
      refine (ulebm w ((p : Int) - (j : Int) + 1) (by omega) (by omega)).into fun w1 S1 => ⟨_, rfl, cat_size _ _ (by omega), ?_⟩
      have hC1 := hC.keep S1
      have c1 := hC1.c1
      rw [hT] at c1
      refine ⟨_, c1, by omega, ?_⟩
      rw [one_byte T j (by omega)]
      simp only [nums_app]
      refine ⟨cat_size _ _ (by rw [List.length_append, List.length_cons, List.length_nil]; omega), ?_⟩
      rw [grpF_succ, if_pos hend] at hgf
      have e2 : ng T (q + 1) p = ng T q (p + 1) + 1 := by
        show (if p + 1 = T.size ∨ byteAt T (p + 1) ≠ byteAt T p then ng T q (p + 1) + 1 else ng T q (p + 1)) = _
        rw [if_pos hend]
      refine ih q (p + 1) (gr + 1) _ w1 (by omega) (by omega) (by omega) ?_ (by omega) (by rw [List.length_append, List.length_append, List.length_cons, List.length_nil]; omega) hC1 (Same.nx S S1)
      rw [← hg2, hgf, hb]
      simp only [List.append_assoc]
    have L15 : ∀ (q p : Nat) (w : World), p + 1 + q = T.size → j ≤ p → byteAt T p = byteAt T j → grpF T f j 0 = grpF T (q + 1) p ((p : Int) - (j : Int)) → ng T f j = ng T (q + 1) p → FC w fb x bd tb → Same [] w0.heap.size w0 w →
        binm_Bin_Encode.L15 (some ⟨mb, 0, none⟩) (strOfNums a) (strOfNums t) i fb (gr : Int) (strOfNums g) (j : Int) ((p + 1 : Nat) : Int) R (fun _ _ => False) w := by
      intro q
      induction q with
      | zero =>
        intro p w hp hjp hb hgf hng hC S
        refine binm_Bin_Encode.step15 _ _ _ _ _ _ _ _ _ _ _ _ ?_
        unfold binm_Bin_Encode.V15
        simp only [true_and, Int.toNat_natCast]
        have hC1 := hC.keep (Same.refl [] w.heap.size w).drew
        have c1 := hC1.c1
        rw [hT] at c1
        refine ⟨_, c1, cond_false' (decide_eq_false (by omega)) ?_⟩
        exact L18 0 p w.drew hp hjp hb hgf hng (.inl (by omega)) hC1 S.drew
      | succ q ihq =>
        intro p w hp hjp hb hgf hng hC S
        refine binm_Bin_Encode.step15 _ _ _ _ _ _ _ _ _ _ _ _ ?_
        unfold binm_Bin_Encode.V15
        simp only [true_and, Int.toNat_natCast]
        have hC1 := hC.keep (Same.refl [] w.heap.size w).drew
        have c1 := hC1.c1
        rw [hT] at c1
        refine ⟨_, c1, cond_true' (decide_eq_true (by omega)) ⟨_, c1, by omega, _, c1, by omega, ?_⟩⟩
        refine cond_intro (fun e => ?_) (fun e => ?_)
        · have e := eq_of_beq e
          refine binm_Bin_Encode.step17 _ _ _ _ _ _ _ _ _ _ _ _ ?_
          unfold binm_Bin_Encode.V17
          rw [nx' (p + 1) (by omega)]
          have hend : ¬ (p + 1 = T.size ∨ byteAt T (p + 1) ≠ byteAt T p) := by
            rintro (h | h)
            · omega
            · exact h (e.trans hb.symm)
          rw [grpF_succ, if_neg hend] at hgf
          have e2 : ng T (q + 1 + 1) p = ng T (q + 1) (p + 1) := by
            show (if p + 1 = T.size ∨ byteAt T (p + 1) ≠ byteAt T p then ng T (q + 1) (p + 1) + 1 else ng T (q + 1) (p + 1)) = _
            rw [if_neg hend]
          refine ihq (p + 1) w.drew (by omega) (by omega) e ?_ (by rw [hng, e2]) hC1 S.drew
          rw [hgf, show ((p + 1 : Nat) : Int) - (j : Int) = (p : Int) - (j : Int) + 1 by omega]
        · have e : ¬ byteAt T (p + 1) = byteAt T j := by simpa using e
          exact L18 (q + 1) p w.drew hp hjp hb hgf hng (.inr (by rw [hb]; exact e)) hC1 S.drew
    refine binm_Bin_Encode.step13 _ _ _ _ _ _ _ _ _ _ _ ?_
    unfold binm_Bin_Encode.V13
    have c1 := hC.c1
    rw [hT] at c1
    refine ⟨_, c1, cond_true' (decide_eq_true (by omega)) ?_⟩
    refine binm_Bin_Encode.step15 _ _ _ _ _ _ _ _ _ _ _ _ ?_
    unfold binm_Bin_Encode.V15
    simp only [true_and, Int.toNat_natCast]
    have hC1 := hC.keep (Same.refl [] w.heap.size w).drew
    have c1 := hC1.c1
    rw [hT] at c1
    refine ⟨_, c1, cond_true' (decide_eq_true (by omega)) ⟨_, c1, by omega, _, c1, by omega, cond_true' (by simp) ?_⟩⟩
    refine binm_Bin_Encode.step17 _ _ _ _ _ _ _ _ _ _ _ _ ?_
    unfold binm_Bin_Encode.V17
    rw [nx' j (by omega)]
    obtain ⟨q, rfl⟩ : ∃ q, f = q + 1 := ⟨f - 1, by omega⟩
    exact L15 q j w.drew (by omega) (Nat.le_refl _) rfl (by rw [Int.sub_self]) rfl hC1 S.drew
theorem em16 {fb : Nat} {x : FnP} (hF : FnB x) (hY : ∀ k, k < x.nI → Y32 (x.ins k)) {bd tb : Value} {a t : List Int} (ht : t.length ≤ 300000) {i : Int} (hQ : Q = fun _ _ => False)
    (hN : ∀ w', Same [] w0.heap.size w0 w' → binm_Bin_Encode.L12 (some ⟨mb, 0, none⟩) (strOfNums a) (strOfNums (t ++ codeE x)) (IntKind.wrap .i64 (i + 1)) R Q w') :
    ∀ (k j : Nat) (w : World), j + k = x.nI → FC w fb x bd tb → Same [] w0.heap.size w0 w → binm_Bin_Encode.L16 (some ⟨mb, 0, none⟩) (strOfNums a) (strOfNums t) i fb (strOfNums (locE (strOfNums x.ls) ++ insRow x j)) (j : Int) R Q w := by
  haveI := outNil
  subst hQ
  have hnI := hF.nI; have hls := hF.ls; have hnT := hF.nT
  have l1 := locE_len (strOfNums x.ls)
  have l2 := fun j => insRow_len x hF.nT j
  have l3 := fnText_len hF
  have l4 := codeE_len hF
  intro k
  induction k with
  | zero =>
    intro j w hj hC S
    obtain rfl : j = x.nI := by omega
    refine binm_Bin_Encode.step16 _ _ _ _ _ _ _ _ _ _ ?_
    unfold binm_Bin_Encode.V16
    obtain ⟨ba, bc, eb, hb⟩ := hC.bd
    have c2 := hC.c2
    rw [eb] at c2
    refine ⟨_, _, _, c2, cond_false' (decide_eq_false (by omega)) ?_⟩
    have ef : locE (strOfNums x.ls) ++ insRow x x.nI = fnText x := rfl
    rw [ef]
    refine (vecm w (fnText x) (by omega)).into fun w1 S1 => ⟨_, rfl, ?_⟩
    have ec : uleb ((fnText x).length : Int) ++ fnText x = codeE x := rfl
    rw [ec, nums_app]
    exact ⟨cat_size _ _ (by omega), hN w1 (Same.nx S S1)⟩
  | succ k ih =>
    intro j w hj hC S
    refine binm_Bin_Encode.step16 _ _ _ _ _ _ _ _ _ _ ?_
    unfold binm_Bin_Encode.V16
    have hC1 := hC.keep (Same.refl [] w.heap.size w).drew
    obtain ⟨ba, bc, eb, hb⟩ := hC1.bd
    have htb := hC1.tb
    obtain ⟨ta, tc, et, _⟩ := hC1.tb
    rw [et] at htb
    have c2 := hC.c2
    have c2' := hC1.c2
    have c3' := hC1.c3
    rw [eb] at c2 c2'
    rw [et] at c3'
    obtain ⟨b, rfl, lb, row, _⟩ := hb (by omega)
    simp only [true_and]
    refine ⟨_, _, _, c2, cond_true' (decide_eq_true (by omega)) ⟨_, _, _, c2', by omega, ?_⟩⟩
    simp only [nilV_some, add_mk, Nat.zero_add, Int.toNat_natCast]
    refine ⟨_, _, _, row j (by omega) 0 _ rfl, row j (by omega) 1 _ rfl, row j (by omega) 2 _ rfl, _, _, _, c3', ?_⟩
    have hq := insE_len (x.ins j) x.nTab hnT x.tabs
    refine (insm w.drew (x.ins j) (hF.ins j (by omega)) (hY j (by omega)) hnT hF.tabs htb).into fun w1 S1 => ⟨_, rfl, ?_⟩
    have l2j := l2 j
    rw [nums_app]
    refine ⟨cat_size _ _ (by rw [List.length_append]; omega), ?_⟩
    rw [nx' j (by omega), List.append_assoc]
    exact ih (j + 1) w1 (by omega) (hC1.keep S1) (Same.nx S.drew S1)
theorem em12 (x : Gx w0 mb m P) (B : PB P) (Y : YB P) (hQ : Q = fun _ _ => False) {a : List Int} (ha : a.length ≤ 400000) (hN : ∀ w', Same [] w0.heap.size w0 w' → binm_Bin_Encode.L14 (some ⟨mb, 0, none⟩) (strOfNums (a ++ secE 10 P.nf (rowsE codeE P.fn P.nf))) (strOfNums []) 0 R Q w') :
    ∀ (k i : Nat) (w : World), i + k = P.nf → Same [] w0.heap.size w0 w → binm_Bin_Encode.L12 (some ⟨mb, 0, none⟩) (strOfNums a) (strOfNums (rowsE codeE P.fn i)) (i : Int) R Q w := by
  haveI := outNil
  subst hQ
  obtain ⟨fr, ⟨aa, cc, ev, hrow⟩, hfn⟩ := x.inv.f2
  have hb := B.nf
  have hlen : ∀ i, i ≤ P.nf → (rowsE codeE P.fn i).length ≤ 26010 * i := fun i hi => rowsE_len _ _ _ _ (fun j hj => codeE_len (B.fn j (by omega)))
  intro k
  induction k with
  | zero =>
    intro i w hi S
    obtain rfl : i = P.nf := by omega
    refine binm_Bin_Encode.step12 _ _ _ _ _ _ _ ?_
    unfold binm_Bin_Encode.V12
    have c := x.mc S 2 (by decide)
    rw [ev] at c
    simp only [nilV_some, Nat.zero_add, true_and]
    have hl := hlen P.nf (Nat.le_refl _)
    refine ⟨_, _, _, c, cond_false' (decide_eq_false (by omega)) ⟨_, _, _, c, ?_⟩⟩
    have sl := secE_len 10 P.nf (rowsE codeE P.fn P.nf)
    refine (sectm w 10 _ _ ⟨by omega, by omega⟩ (by omega)).into fun w' S' => ⟨_, rfl, cat_size _ _ (by omega), ?_⟩
    rw [nums_app]
    exact hN w' (Same.nx S S')
  | succ k ih =>
    intro i w hi S
    refine binm_Bin_Encode.step12 _ _ _ _ _ _ _ ?_
    unfold binm_Bin_Encode.V12
    have c : ∀ {w : World}, Same [] w0.heap.size w0 w → w.cell? ⟨mb, 2, none⟩ = some (.slice aa _ cc) := fun S => by have c := x.mc S 2 (by decide); rw [ev] at c; exact c
    obtain ⟨b, rfl, lb, row, _⟩ := hrow (by omega)
    have row' : ∀ {w : World}, Same [] w0.heap.size w0 w → ∀ k u, (fnE (fr i))[k]? = some u → w.cell? ⟨b, i * 4 + k, none⟩ = some u := fun S k u hu => (S.cell (p := ⟨b, i * 4 + k, none⟩) lb (by simp)).trans (row i (by omega) k u hu)
    have hl := hlen i (by omega)
    simp only [nilV_some, Nat.zero_add, true_and]
    refine ⟨_, _, _, c S, cond_true' (decide_eq_true (by omega)) ⟨_, _, _, c S, by omega, ?_⟩⟩
    simp only [nilV_some, add_mk, Nat.zero_add, Int.toNat_natCast]
    have bd := B.fn i (by omega)
    obtain ⟨e1, e2, kb, kt⟩ := hfn i (by omega)
    have kb' := kb
    have kt' := kt
    obtain ⟨ba, bc, eb, _⟩ := kb
    obtain ⟨ta, tc, et, _⟩ := kt
    have r0 := row' S 0 _ rfl
    have r1 := row' S 1 _ rfl
    have r2 := row' S 2 _ rfl
    have r3 := row' S 3 _ rfl
    rw [e2] at r1
    rw [eb] at r2
    rw [et] at r3
    refine ⟨_, _, _, _, _, _, _, _, r0, r1, r2, r3, letB_intro fun xb hxb => letW_intro fun w1 hw1 => ?_⟩
    have S1 : Same [] w.heap.size w w1 := by rw [hw1]; exact (Same.refl _ _ _).alloc (Nat.le_refl _) _
    have can1 : ∀ j, j < 4 → can w1 ⟨xb, j, none⟩ := fun j hj => by
      refine ⟨?_, by rw [hw1, hxb, World.frozen?_alloc_new]⟩
      rw [hw1, hxb, World.cell?_alloc_new]
      have : j = 0 ∨ j = 1 ∨ j = 2 ∨ j = 3 := by omega
      rcases this with rfl | rfl | rfl | rfl <;> exact ⟨_, rfl⟩
    have z1 : w1.heap.size = w.heap.size + 1 := by rw [hw1]; simp
    clear hw1
    refine putCells_intro xb _ 0 w1 _ (fun j hj => by rw [Nat.zero_add]; exact can1 j (by simpa using hj)) (fun w2 hF => ?_)
    have S2 : Same [] w.heap.size w w2 := S1.trans ((hF.same w.heap.size).mono (Nat.le_refl _) (by intro k hk hl; simp at hk; omega))
    have T2 := Same.nx S S2
    have hC : FC w2 xb (P.fn i) (fr i).bd (fr i).tb := ⟨by rw [hF.cell, if_pos (by simp)]; rfl, by rw [hF.cell, if_pos (by simp), eb]; rfl, by rw [hF.cell, if_pos (by simp), et]; rfl, kb'.keep T2, kt'.keep T2⟩
    refine em13 (R := R) (Q := fun _ _ => False) (x := P.fn i) (bd := (fr i).bd) (tb := (fr i).tb) bd rfl (fun w3 S3 hC3 => ?_) (strOfNums (P.fn i).ls).size (strOfNums (P.fn i).ls).size 0 0 [] w2 (Nat.le_refl _) (by omega) (by omega) rfl (Nat.le_refl _) (by simp) hC T2
    have hz : insRow (P.fn i) 0 = [] := rfl
    have h16 := em16 (w0 := w0) (mb := mb) (R := R) (Q := fun _ _ => False) (fb := xb) (x := P.fn i) (bd := (fr i).bd) (tb := (fr i).tb) (a := a) (t := rowsE codeE P.fn i) bd (Y.fn i (by omega)) (by omega) (i := (i : Int)) rfl (fun w' S' => by
      rw [nx' i (by omega), ← rowsE_succ]
      exact ih (i + 1) w' (by omega) S') (P.fn i).nI 0 w3 (by omega) hC3 S3
    rw [hz, List.append_nil] at h16
    exact h16

theorem em14 (x : Gx w0 mb m P) (B : PB P) (Y : YB P) (hQ : Q = fun _ _ => False) {a : List Int} (ha : a.length ≤ 400000) (hN : ∀ w', Same [] w0.heap.size w0 w' → R (.string (strOfNums (a ++ secE 11 P.nD (rowsE datE' P.da P.nD)))) w') :
    ∀ (k i : Nat) (w : World), i + k = P.nD → Same [] w0.heap.size w0 w → binm_Bin_Encode.L14 (some ⟨mb, 0, none⟩) (strOfNums a) (strOfNums (rowsE datE' P.da i)) (i : Int) R Q w := by
  haveI := outNil
  subst hQ
  obtain ⟨aa, cc, ev, hrow⟩ := x.inv.d11
  have hb := B.nD
  have hlen : ∀ i, i ≤ P.nD → (rowsE datE' P.da i).length ≤ 1400 * i := fun i hi => rowsE_len _ _ _ _ (fun j hj => datE_len _ (B.da j (by omega)).2)
  intro k
  induction k with
  | zero =>
    intro i w hi S
    obtain rfl : i = P.nD := by omega
    refine binm_Bin_Encode.step14 _ _ _ _ _ _ _ ?_
    unfold binm_Bin_Encode.V14
    have c := x.mc S 11 (by decide)
    rw [ev] at c
    simp only [nilV_some, Nat.zero_add, true_and]
    have hl := hlen P.nD (Nat.le_refl _)
    refine ⟨_, _, _, c, cond_false' (decide_eq_false (by omega)) ⟨_, _, _, c, ?_⟩⟩
    have sl := secE_len 11 P.nD (rowsE datE' P.da P.nD)
    refine (sectm w 11 _ _ ⟨by omega, by omega⟩ (by omega)).into fun w' S' => ⟨_, rfl, cat_size _ _ (by omega), ?_⟩
    rw [nums_app]
    exact hN w' (Same.nx S S')
  | succ k ih =>
    intro i w hi S
    refine binm_Bin_Encode.step14 _ _ _ _ _ _ _ ?_
    unfold binm_Bin_Encode.V14
    have c : ∀ {w : World}, Same [] w0.heap.size w0 w → w.cell? ⟨mb, 11, none⟩ = some (.slice aa _ cc) := fun S => by have c := x.mc S 11 (by decide); rw [ev] at c; exact c
    obtain ⟨b, rfl, lb, row, _⟩ := hrow (by omega)
    have row' : ∀ {w : World}, Same [] w0.heap.size w0 w → ∀ k u, (datE (P.da i))[k]? = some u → w.cell? ⟨b, i * 4 + k, none⟩ = some u := fun S k u hu => (S.cell (p := ⟨b, i * 4 + k, none⟩) lb (by simp)).trans (row i (by omega) k u hu)
    have hl := hlen i (by omega)
    simp only [nilV_some, Nat.zero_add, true_and]
    refine ⟨_, _, _, c S, cond_true' (decide_eq_true (by omega)) ⟨_, _, _, c S, by omega, ?_⟩⟩
    simp only [nilV_some, add_mk, Nat.zero_add, Int.toNat_natCast]
    have bd := B.da i (by omega)
    have hq := insE_len (P.da i).off 0 (by omega) (fun _ => 0)
    have q1 := rawE_len (P.da i).bytes
    refine ⟨_, _, _, row' S 0 _ rfl, row' S 1 _ rfl, row' S 2 _ rfl, ?_⟩
    refine (kinsm w (P.da i).off bd.1 (Y.da i (by omega))).into fun w1 S1 => ⟨_, rfl, ?_⟩
    have T1 := Same.nx S S1
    refine ⟨_, _, _, c T1, by omega, ?_⟩
    simp only [nilV_some, add_mk, Nat.zero_add, Int.toNat_natCast]
    refine ⟨_, row' T1 3 _ rfl, ?_⟩
    refine (vecm_raw w1 _ (by omega)).into fun w2 S2 => ⟨_, rfl, ?_⟩
    simp only [str0, str11, nums_app]
    refine ⟨cat_size _ _ (by first | omega | (simp only [List.length_append, List.length_cons, List.length_nil]; omega)), cat_size _ _ (by first | omega | (simp only [List.length_append, List.length_cons, List.length_nil]; omega)), cat_size _ _ (by first | omega | (simp only [List.length_append, List.length_cons, List.length_nil]; omega)), cat_size _ _ (by first | omega | (simp only [List.length_append, List.length_cons, List.length_nil]; omega)), ?_⟩
    rw [nx' i (by omega)]
    have er : rowsE datE' P.da i ++ [0] ++ insE (P.da i).off 0 (fun _ => 0) ++ [11] ++ rawE (P.da i).bytes = rowsE datE' P.da (i + 1) := by rw [rowsE_succ]; unfold datE' konE; simp only [List.append_assoc]
    rw [er]
    exact ih (i + 1) w2 (by omega) (Same.nx T1 S2)

end
/-- The model writes a module as the plain encoder does. -/
theorem Encodem_spec {w : World} {B mb : Nat} {P : PM} (h : MG w B mb P) (hS : SB P) (hB : PB P) (Y : YB P) (b : Option Addr) : Txts binm_Bin_Encode.id #[.pointer b, rp mb] w (encP P) := by
  haveI := outNil
  obtain ⟨m, x⟩ := h.gx hS
  refine binm_Bin_Encode.enter _ _ _ _ _ ?_
  unfold binm_Bin_Encode.V
  refine cond_false' rfl ?_
  have h1 := rowsE_len typeE P.ty 2100 P.nTy (fun j hj => typeE_len _ (hB.ty j hj).1)
  have h2 := rowsE_len impE' P.im 2100 P.nIm (fun j hj => impE_len _ (hB.im j hj).1 (hB.im j hj).2.1)
  have h3 := rowsE_len (fun x : FnP => uleb x.ty) P.fn 10 P.nf (fun j _ => uleb_len _)
  have q1 := secE_len 1 P.nTy (rowsE typeE P.ty P.nTy)
  have q2 := secE_len 2 P.nIm (rowsE impE' P.im P.nIm)
  have q3 := secE_len 3 P.nf (rowsE (fun x : FnP => uleb x.ty) P.fn P.nf)
  have l1 := limE_len P.tmin P.tmax
  have l2 := limE_len P.mmin P.mmax
  have q4 := secE_len 4 1 ([112] ++ limE P.tmin P.tmax)
  have q5 := secE_len 5 1 (limE P.mmin P.mmax)
  have n1 := hB.nTy; have n2 := hB.nIm; have n3 := hB.nf
  have m0 : magicL.length = 8 := rfl
  have i1 : (if 0 ≤ P.tmin then secE 4 1 ([112] ++ limE P.tmin P.tmax) else []).length ≤ (secE 4 1 ([112] ++ limE P.tmin P.tmax)).length := by split <;> simp
  have i2 : (if 0 ≤ P.mmin then secE 5 1 (limE P.mmin P.mmax) else []).length ≤ (secE 5 1 (limE P.mmin P.mmax)).length := by split <;> simp
  have e4 : ([112] ++ limE P.tmin P.tmax).length = 1 + (limE P.tmin P.tmax).length := by rw [List.length_append]; rfl
  have h6 := rowsE_len globE' P.g 300 P.gn (fun j hj => globE_len _)
  have h7 := rowsE_len expE' P.ex 1100 P.nEx (fun j hj => expE_len _ (hB.ex j hj).1)
  have h9 := rowsE_len elE' P.el 400 P.nEl (fun j hj => elE_len _ (hB.el j hj).2.1)
  have h10 := rowsE_len codeE P.fn 26010 P.nf (fun j hj => codeE_len (hB.fn j hj))
  have q6 := secE_len 6 P.gn (rowsE globE' P.g P.gn)
  have q7 := secE_len 7 P.nEx (rowsE expE' P.ex P.nEx)
  have q9 := secE_len 9 P.nEl (rowsE elE' P.el P.nEl)
  have q10 := secE_len 10 P.nf (rowsE codeE P.fn P.nf)
  have n6 := hB.gn; have n7 := hB.nEx; have n9 := hB.nEl
  have us := uleb_len P.start
  have s1 : (startE P).length ≤ 12 := by
    unfold startE
    split
    · rw [List.length_append]
      have : [8, IntKind.wrap .u8 (ulenF 10 P.start 1)].length = 2 := rfl
      omega
    · simp
  refine em1 (w0 := w) x hB rfl (a := magicL) (by omega) (fun w1 S1 => ?_) P.nTy 0 w (by omega) (Same.refl _ _ _)
  refine em2 (w0 := w) x hB rfl (by simp only [List.length_append]; omega) (fun w2 S2 => ?_) P.nIm 0 w1 (by omega) S1
  refine em3 (w0 := w) x hB rfl (by simp only [List.length_append]; omega) (fun w3 S3 => ?_) P.nf 0 w2 (by omega) S2
  refine em6 (w0 := w) x hB Y rfl (by simp only [List.length_append]; omega) (fun w4 S4 => ?_) P.gn 0 w3 (by omega) S3
  refine em8 (w0 := w) x hB rfl (by simp only [List.length_append]; omega) (fun w5 S5 => ?_) P.nEx 0 w4 (by omega) S4
  refine em10 (w0 := w) x hB Y rfl (by simp only [List.length_append]; omega) (fun w6 S6 => ?_) P.nEl 0 w5 (by omega) S5
  refine em12 (w0 := w) x hB Y rfl (by simp only [List.length_append]; omega) (fun w7 S7 => ?_) P.nf 0 w6 (by omega) S6
  refine em14 (w0 := w) x hB Y rfl (by simp only [List.length_append]; omega) (fun w8 S8 => ?_) P.nD 0 w7 (by omega) S7
  refine ⟨?_, S8⟩
  unfold encP headE midE tailE
  simp only [List.append_assoc]
theorem Encodem_nil (w : World) (b : Option Addr) : Runs Try.prog binm_Bin_Encode.id #[.pointer b, .pointer none] w fun v w' => v = .string ⟨#[]⟩ ∧ w' = w := by
  refine binm_Bin_Encode.enter _ _ _ _ _ ?_
  unfold binm_Bin_Encode.V
  exact cond_true' rfl ⟨rfl, rfl⟩
end Go.Proofs.Qxb6500316a
