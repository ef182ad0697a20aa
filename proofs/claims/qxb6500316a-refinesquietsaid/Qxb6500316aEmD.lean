/-
  The model's encoder: sections 1 to 5.
-/
import Derived.Test.Qxb6500316aEmC
set_option linter.unusedSimpArgs false
set_option linter.unusedVariables false
set_option maxRecDepth 100000
set_option linter.unusedSectionVars false
namespace Go.Proofs.Qxb6500316a
open Go Go.Vc

theorem str0 : (⟨#[0]⟩ : ByteArray) = strOfNums [0] := rfl
theorem str1 : (⟨#[1]⟩ : ByteArray) = strOfNums [1] := rfl
theorem str8 : (⟨#[8]⟩ : ByteArray) = strOfNums [8] := rfl
theorem str11 : (⟨#[11]⟩ : ByteArray) = strOfNums [11] := rfl
theorem str96 : (⟨#[96]⟩ : ByteArray) = strOfNums [96] := rfl
theorem str112 : (⟨#[112]⟩ : ByteArray) = strOfNums [112] := rfl
theorem str_nil : (⟨#[]⟩ : ByteArray) = strOfNums [] := rfl
theorem nx' (i : Nat) (h : i ≤ 100000) : IntKind.wrap .i64 ((i : Int) + 1) = ((i + 1 : Nat) : Int) := by rw [wrap_i64 (by omega) (by omega)]; omega
section
variable {w0 : World} {mb : Nat} {m : Nat → Value} {P : PM} {R Q : Value → World → Prop}
theorem em1 (x : Gx w0 mb m P) (B : PB P) (hQ : Q = fun _ _ => False) {a : List Int} (ha : a.length ≤ 400000) (hN : ∀ w', Same [] w0.heap.size w0 w' → binm_Bin_Encode.L2 (some ⟨mb, 0, none⟩) (strOfNums (a ++ secE 1 P.nTy (rowsE typeE P.ty P.nTy))) (strOfNums []) 0 R Q w') :
    ∀ (k i : Nat) (w : World), i + k = P.nTy → Same [] w0.heap.size w0 w → binm_Bin_Encode.L1 (some ⟨mb, 0, none⟩) (strOfNums a) (strOfNums (rowsE typeE P.ty i)) (i : Int) R Q w := by
  haveI := outNil
  subst hQ
  obtain ⟨aa, cc, ev, hrow⟩ := x.inv.t0
  have hb := B.nTy
  have hlen : ∀ i, i ≤ P.nTy → (rowsE typeE P.ty i).length ≤ 2100 * i := fun i hi => rowsE_len _ _ _ _ (fun j hj => typeE_len _ (B.ty j (by omega)).1)
  intro k
  induction k with
  | zero =>
    intro i w hi S
    obtain rfl : i = P.nTy := by omega
    refine binm_Bin_Encode.step1 _ _ _ _ _ _ _ ?_
    unfold binm_Bin_Encode.V1
    have c := x.mc S 0 (by decide)
    rw [ev] at c
    simp only [nilV_some, Nat.zero_add, true_and]
    have hl := hlen P.nTy (Nat.le_refl _)
    refine ⟨_, _, _, c, cond_false' (decide_eq_false (by omega)) ⟨_, _, _, c, ?_⟩⟩
    have sl := secE_len 1 P.nTy (rowsE typeE P.ty P.nTy)
    refine (sectm w 1 _ _ ⟨by omega, by omega⟩ (by omega)).into fun w' S' => ⟨_, rfl, cat_size _ _ (by omega), ?_⟩
    rw [nums_app]
    exact hN w' (Same.nx S S')
  | succ k ih =>
    intro i w hi S
    refine binm_Bin_Encode.step1 _ _ _ _ _ _ _ ?_
    unfold binm_Bin_Encode.V1
    have c : ∀ {w : World}, Same [] w0.heap.size w0 w → w.cell? ⟨mb, 0, none⟩ = some (.slice aa _ cc) := fun S => by have c := x.mc S 0 (by decide); rw [ev] at c; exact c
    obtain ⟨b, rfl, lb, row, _⟩ := hrow (by omega)
    have row' : ∀ {w : World}, Same [] w0.heap.size w0 w → ∀ k u, (strE (P.ty i))[k]? = some u → w.cell? ⟨b, i * 1 + k, none⟩ = some u := fun S k u hu => (S.cell (p := ⟨b, i * 1 + k, none⟩) lb (by simp)).trans (row i (by omega) k u hu)
    have hl := hlen i (by omega)
    simp only [nilV_some, Nat.zero_add, true_and]
    refine ⟨_, _, _, c S, cond_true' (decide_eq_true (by omega)) ⟨_, _, _, c S, by omega, ?_⟩⟩
    simp only [nilV_some, add_mk, Nat.zero_add, Int.toNat_natCast]
    have bd := B.ty i (by omega)
    have hs := splitF_size (P.ty i) (P.ty i).size 0
    have es : splitP (P.ty i) = splitF (P.ty i) (P.ty i).size 0 := rfl
    have z1 : (splitP (P.ty i)).1.size ≤ 1024 := by rw [es]; omega
    have z2 : (splitP (P.ty i)).2.size ≤ 1024 := by rw [es]; omega
    have q1 := rawE_len (splitP (P.ty i)).1
    have q2 := rawE_len (splitP (P.ty i)).2
    refine ⟨_, row' S 0 _ rfl, RunsQ.post (Split_spec _ bd.1 w) ?_⟩
    rintro v w1 ⟨rfl, S1⟩
    refine ⟨_, _, rfl, ?_⟩
    refine (vecm_raw w1 _ (by omega)).into fun w2 S2 => ⟨_, rfl, ?_⟩
    refine (vecm_raw w2 _ (by omega)).into fun w3 S3 => ⟨_, rfl, ?_⟩
    simp only [str96, nums_app]
    refine ⟨cat_size _ _ (by first | omega | (simp only [List.length_append, List.length_cons, List.length_nil]; omega)), cat_size _ _ (by first | omega | (simp only [List.length_append, List.length_cons, List.length_nil]; omega)), cat_size _ _ (by first | omega | (simp only [List.length_append, List.length_cons, List.length_nil]; omega)), ?_⟩
    rw [nx' i (by omega)]
    have er : rowsE typeE P.ty i ++ [96] ++ rawE (splitP (P.ty i)).1 ++ rawE (splitP (P.ty i)).2 = rowsE typeE P.ty (i + 1) := by rw [rowsE_succ]; unfold typeE; simp only [List.append_assoc]
    rw [er]
    exact ih (i + 1) w3 (by omega) (Same.nx (Same.nx (Same.nx S S1) S2) S3)

theorem em2 (x : Gx w0 mb m P) (B : PB P) (hQ : Q = fun _ _ => False) {a : List Int} (ha : a.length ≤ 400000) (hN : ∀ w', Same [] w0.heap.size w0 w' → binm_Bin_Encode.L3 (some ⟨mb, 0, none⟩) (strOfNums (a ++ secE 2 P.nIm (rowsE impE' P.im P.nIm))) (strOfNums []) 0 R Q w') :
    ∀ (k i : Nat) (w : World), i + k = P.nIm → Same [] w0.heap.size w0 w → binm_Bin_Encode.L2 (some ⟨mb, 0, none⟩) (strOfNums a) (strOfNums (rowsE impE' P.im i)) (i : Int) R Q w := by
  haveI := outNil
  subst hQ
  obtain ⟨aa, cc, ev, hrow⟩ := x.inv.i1
  have hb := B.nIm
  have hlen : ∀ i, i ≤ P.nIm → (rowsE impE' P.im i).length ≤ 2100 * i := fun i hi => rowsE_len _ _ _ _ (fun j hj => impE_len _ (B.im j (by omega)).1 (B.im j (by omega)).2.1)
  intro k
  induction k with
  | zero =>
    intro i w hi S
    obtain rfl : i = P.nIm := by omega
    refine binm_Bin_Encode.step2 _ _ _ _ _ _ _ ?_
    unfold binm_Bin_Encode.V2
    have c := x.mc S 1 (by decide)
    rw [ev] at c
    simp only [nilV_some, Nat.zero_add, true_and]
    have hl := hlen P.nIm (Nat.le_refl _)
    refine ⟨_, _, _, c, cond_false' (decide_eq_false (by omega)) ⟨_, _, _, c, ?_⟩⟩
    have sl := secE_len 2 P.nIm (rowsE impE' P.im P.nIm)
    refine (sectm w 2 _ _ ⟨by omega, by omega⟩ (by omega)).into fun w' S' => ⟨_, rfl, cat_size _ _ (by omega), ?_⟩
    rw [nums_app]
    exact hN w' (Same.nx S S')
  | succ k ih =>
    intro i w hi S
    refine binm_Bin_Encode.step2 _ _ _ _ _ _ _ ?_
    unfold binm_Bin_Encode.V2
    have c : ∀ {w : World}, Same [] w0.heap.size w0 w → w.cell? ⟨mb, 1, none⟩ = some (.slice aa _ cc) := fun S => by have c := x.mc S 1 (by decide); rw [ev] at c; exact c
    obtain ⟨b, rfl, lb, row, _⟩ := hrow (by omega)
    have row' : ∀ {w : World}, Same [] w0.heap.size w0 w → ∀ k u, (impE (P.im i))[k]? = some u → w.cell? ⟨b, i * 3 + k, none⟩ = some u := fun S k u hu => (S.cell (p := ⟨b, i * 3 + k, none⟩) lb (by simp)).trans (row i (by omega) k u hu)
    have hl := hlen i (by omega)
    simp only [nilV_some, Nat.zero_add, true_and]
    refine ⟨_, _, _, c S, cond_true' (decide_eq_true (by omega)) ⟨_, _, _, c S, by omega, ?_⟩⟩
    simp only [nilV_some, add_mk, Nat.zero_add, Int.toNat_natCast]
    have bd := B.im i (by omega)
    have q1 := rawE_len (P.im i).md
    have q2 := rawE_len (P.im i).nm
    have q3 := uleb_len (P.im i).ty
    refine ⟨_, row' S 0 _ rfl, ?_⟩
    refine (vecm_raw w _ (by omega)).into fun w1 S1 => ⟨_, rfl, ?_⟩
    have T1 := Same.nx S S1
    refine ⟨_, _, _, c T1, by omega, ?_⟩
    simp only [nilV_some, add_mk, Nat.zero_add, Int.toNat_natCast]
    refine ⟨_, row' T1 1 _ rfl, ?_⟩
    refine (vecm_raw w1 _ (by omega)).into fun w2 S2 => ⟨_, rfl, ?_⟩
    have T2 := Same.nx T1 S2
    refine ⟨_, _, _, c T2, by omega, ?_⟩
    simp only [nilV_some, add_mk, Nat.zero_add, Int.toNat_natCast]
    refine ⟨_, row' T2 2 _ rfl, ?_⟩
    rw [wrap_u64 (x := (P.im i).ty) (by omega) (by omega)]
    refine (ulebm w2 _ (by omega) (by omega)).into fun w3 S3 => ⟨_, rfl, ?_⟩
    simp only [str0, nums_app]
    refine ⟨cat_size _ _ (by first | omega | (simp only [List.length_append, List.length_cons, List.length_nil]; omega)), cat_size _ _ (by first | omega | (simp only [List.length_append, List.length_cons, List.length_nil]; omega)), cat_size _ _ (by first | omega | (simp only [List.length_append, List.length_cons, List.length_nil]; omega)), cat_size _ _ (by first | omega | (simp only [List.length_append, List.length_cons, List.length_nil]; omega)), ?_⟩
    rw [nx' i (by omega)]
    have er : rowsE impE' P.im i ++ rawE (P.im i).md ++ rawE (P.im i).nm ++ [0] ++ uleb (P.im i).ty = rowsE impE' P.im (i + 1) := by rw [rowsE_succ]; unfold impE'; simp only [List.append_assoc]
    rw [er]
    exact ih (i + 1) w3 (by omega) (Same.nx T2 S3)

theorem em4 (x : Gx w0 mb m P) (B : PB P) (hQ : Q = fun _ _ => False) {a : List Int} (ha : a.length ≤ 400000) (hN : ∀ w', Same [] w0.heap.size w0 w' → binm_Bin_Encode.L6 (some ⟨mb, 0, none⟩) (strOfNums (a ++ if 0 ≤ P.mmin then secE 5 1 (limE P.mmin P.mmax) else [])) (strOfNums []) 0 R Q w') (w : World) (S : Same [] w0.heap.size w0 w) :
    binm_Bin_Encode.L4 (some ⟨mb, 0, none⟩) (strOfNums a) R Q w := by
  haveI := outNil
  subst hQ
  refine binm_Bin_Encode.step4 _ _ _ _ _ ?_
  unfold binm_Bin_Encode.V4
  have c5 : ∀ {w : World}, Same [] w0.heap.size w0 w → w.cell? ⟨mb, 5, none⟩ = some (.int .i64 P.mmin) := fun S => by have c := x.mc S 5 (by decide); rw [x.inv.v5] at c; exact c
  have c6 : ∀ {w : World}, Same [] w0.heap.size w0 w → w.cell? ⟨mb, 6, none⟩ = some (.int .i64 P.mmax) := fun S => by have c := x.mc S 6 (by decide); rw [x.inv.v6] at c; exact c
  have L5 : ∀ (l : List Int) (w : World), Same [] w0.heap.size w0 w → l = (a ++ if 0 ≤ P.mmin then secE 5 1 (limE P.mmin P.mmax) else []) → binm_Bin_Encode.L5 (some ⟨mb, 0, none⟩) (strOfNums l) R (fun _ _ => False) w := fun l w S hl => by
    refine binm_Bin_Encode.step5 _ _ _ _ _ ?_
    unfold binm_Bin_Encode.V5
    rw [hl]
    exact hN w S
  have q := limE_len P.mmin P.mmax
  have sl := secE_len 5 1 (limE P.mmin P.mmax)
  simp only [nilV_some, Nat.zero_add, true_and]
  have m0 := B.m0; have m1 := B.m1
  by_cases h : 0 ≤ P.mmin
  · refine ⟨_, c5 S, cond_true' (decide_eq_true h) ⟨_, c5 S.drew, _, c6 S.drew, ?_⟩⟩
    refine (limitsm w.drew _ _ ⟨h, by omega⟩ m1).into fun w1 S1 => ⟨_, rfl, ?_⟩
    refine (sectm w1 5 1 _ ⟨by omega, by omega⟩ (by omega)).into fun w2 S2 => ⟨_, rfl, cat_size _ _ (by omega), ?_⟩
    rw [nums_app]
    exact L5 _ w2 (Same.nx (Same.nx S.drew S1) S2) (by rw [if_pos h])
  · refine ⟨_, c5 S, cond_false' (decide_eq_false h) ?_⟩
    exact L5 _ w S (by rw [if_neg h, List.append_nil])

theorem em3 (x : Gx w0 mb m P) (B : PB P) (hQ : Q = fun _ _ => False) {a : List Int} (ha : a.length ≤ 300000) (hN : ∀ w', Same [] w0.heap.size w0 w' → binm_Bin_Encode.L6 (some ⟨mb, 0, none⟩) (strOfNums (a ++ secE 3 P.nf (rowsE (fun x : FnP => uleb x.ty) P.fn P.nf) ++ (if 0 ≤ P.tmin then secE 4 1 ([112] ++ limE P.tmin P.tmax) else []) ++ (if 0 ≤ P.mmin then secE 5 1 (limE P.mmin P.mmax) else []))) (strOfNums []) 0 R Q w') :
    ∀ (k i : Nat) (w : World), i + k = P.nf → Same [] w0.heap.size w0 w → binm_Bin_Encode.L3 (some ⟨mb, 0, none⟩) (strOfNums a) (strOfNums (rowsE (fun x : FnP => uleb x.ty) P.fn i)) (i : Int) R Q w := by
  haveI := outNil
  subst hQ
  obtain ⟨fr, ⟨aa, cc, ev, hrow⟩, hfn⟩ := x.inv.f2
  have hb := B.nf
  have hlen : ∀ i, i ≤ P.nf → (rowsE (fun x : FnP => uleb x.ty) P.fn i).length ≤ 10 * i := fun i hi => rowsE_len _ _ _ _ (fun j hj => uleb_len _)
  intro k
  induction k with
  | zero =>
    intro i w hi S
    obtain rfl : i = P.nf := by omega
    refine binm_Bin_Encode.step3 _ _ _ _ _ _ _ ?_
    unfold binm_Bin_Encode.V3
    have c := x.mc S 2 (by decide)
    rw [ev] at c
    simp only [nilV_some, Nat.zero_add, true_and]
    have hl := hlen P.nf (Nat.le_refl _)
    refine ⟨_, _, _, c, cond_false' (decide_eq_false (by omega)) ⟨_, _, _, c, ?_⟩⟩
    have sl := secE_len 3 P.nf (rowsE (fun x : FnP => uleb x.ty) P.fn P.nf)
    refine (sectm w 3 _ _ ⟨by omega, by omega⟩ (by omega)).into fun w' S' => ⟨_, rfl, cat_size _ _ (by omega), ?_⟩
    rw [nums_app]
    have T := Same.nx S S'
    have c3 : ∀ {w : World}, Same [] w0.heap.size w0 w → w.cell? ⟨mb, 3, none⟩ = some (.int .i64 P.tmin) := fun S => by have c := x.mc S 3 (by decide); rw [x.inv.v3] at c; exact c
    have c4 : ∀ {w : World}, Same [] w0.heap.size w0 w → w.cell? ⟨mb, 4, none⟩ = some (.int .i64 P.tmax) := fun S => by have c := x.mc S 4 (by decide); rw [x.inv.v4] at c; exact c
    have m0 := B.t0; have m1 := B.t1
    have q := limE_len P.tmin P.tmax
    have sl2 := secE_len 4 1 ([112] ++ limE P.tmin P.tmax)
    have sl3 : ([112] ++ limE P.tmin P.tmax).length = 1 + (limE P.tmin P.tmax).length := by rw [List.length_append]; rfl
    by_cases h : 0 ≤ P.tmin
    · rw [if_pos h] at hN
      refine ⟨_, c3 T, cond_true' (decide_eq_true h) ⟨_, c3 T.drew, _, c4 T.drew, ?_⟩⟩
      refine (limitsm w'.drew _ _ ⟨h, by omega⟩ m1).into fun w1 S1 => ⟨_, rfl, ?_⟩
      simp only [str112, nums_app]
      refine ⟨cat_size _ _ (by simp only [List.length_cons, List.length_nil]; omega), ?_⟩
      refine (sectm w1 4 1 _ ⟨by omega, by omega⟩ (by omega)).into fun w2 S2 => ⟨_, rfl, cat_size _ _ (by rw [List.length_append]; omega), ?_⟩
      rw [nums_app]
      exact em4 x B rfl (by rw [List.length_append, List.length_append]; omega) hN w2 (Same.nx (Same.nx T.drew S1) S2)
    · rw [if_neg h] at hN
      rw [List.append_nil] at hN
      refine ⟨_, c3 T, cond_false' (decide_eq_false h) ?_⟩
      exact em4 x B rfl (by rw [List.length_append]; omega) hN w' T
  | succ k ih =>
    intro i w hi S
    refine binm_Bin_Encode.step3 _ _ _ _ _ _ _ ?_
    unfold binm_Bin_Encode.V3
    have c : ∀ {w : World}, Same [] w0.heap.size w0 w → w.cell? ⟨mb, 2, none⟩ = some (.slice aa _ cc) := fun S => by have c := x.mc S 2 (by decide); rw [ev] at c; exact c
    obtain ⟨b, rfl, lb, row, _⟩ := hrow (by omega)
    have row' : ∀ {w : World}, Same [] w0.heap.size w0 w → ∀ k u, (fnE (fr i))[k]? = some u → w.cell? ⟨b, i * 4 + k, none⟩ = some u := fun S k u hu => (S.cell (p := ⟨b, i * 4 + k, none⟩) lb (by simp)).trans (row i (by omega) k u hu)
    have hl := hlen i (by omega)
    simp only [nilV_some, Nat.zero_add, true_and]
    refine ⟨_, _, _, c S, cond_true' (decide_eq_true (by omega)) ⟨_, _, _, c S, by omega, ?_⟩⟩
    simp only [nilV_some, add_mk, Nat.zero_add, Int.toNat_natCast]
    have bd := B.fn i (by omega)
    have bt := bd.t0; have bt1 := bd.t1
    have q1 := uleb_len (P.fn i).ty
    obtain ⟨e1, _⟩ := hfn i (by omega)
    have c0 := row' S 0 _ rfl
    rw [e1] at c0
    refine ⟨_, c0, ?_⟩
    rw [wrap_u64 (x := (P.fn i).ty) (by omega) (by omega)]
    refine (ulebm w _ (by omega) (by omega)).into fun w3 S3 => ⟨_, rfl, ?_⟩
    simp only [nums_app]
    refine ⟨cat_size _ _ (by first | omega | (simp only [List.length_append, List.length_cons, List.length_nil]; omega)), ?_⟩
    rw [nx' i (by omega)]
    exact ih (i + 1) w3 (by omega) (Same.nx S S3)

end
end Go.Proofs.Qxb6500316a
