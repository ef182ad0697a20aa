/-
  The model's encoder: sections 6 to 9.
-/
import Derived.Test.Qxb6500316aEmD
set_option linter.unusedSimpArgs false
set_option linter.unusedVariables false
set_option maxRecDepth 100000
set_option linter.unusedSectionVars false
namespace Go.Proofs.Qxb6500316a
open Go Go.Vc

/-- A 32-bit constant is no wider. -/
abbrev Y32 (i : Ins) : Prop := i.op = 65 → i.y ≤ 4294967295
structure YB (P : PM) : Prop where
  fn : ∀ j, j < P.nf → ∀ k, k < (P.fn j).nI → Y32 ((P.fn j).ins k)
  g : ∀ j, j < P.gn → Y32 (P.g j).init
  el : ∀ j, j < P.nEl → Y32 (P.el j).off
  da : ∀ j, j < P.nD → Y32 (P.da j).off
theorem kinsm (w : World) (i : Ins) (hi : InsIn i) (hy : Y32 i) : Txts binm_insText.id #[insV i, .slice none 0 0] w (insE i 0 (fun _ => 0)) := insm w i hi hy (by omega) (fun j hj => by omega) ⟨none, 0, rfl, fun h => absurd rfl h⟩
theorem startE_m {P : PM} (hs : 0 ≤ P.start ∧ P.start ≤ 4294967295) : startE P = [8] ++ (uleb ((uleb P.start).length : Int) ++ uleb P.start) := by
  haveI := outNil
  unfold startE
  have h5 := uleb5 P.start hs
  have hb : 0 ≤ ((uleb P.start).length : Int) ∧ ((uleb P.start).length : Int) < 256 := ⟨by omega, by omega⟩
  have us : uleb (((uleb P.start).length : Nat) : Int) = [(((uleb P.start).length : Nat) : Int)] := by
    show ulebF (9 + 1) _ = _
    rw [ulebF_succ, if_neg (by omega), wrapU8_mod, Int.emod_eq_of_lt (by omega) (by omega)]
  rw [if_pos hs.1, ulen_uleb _ hs.1 hs.2, wrapU8_mod, Int.emod_eq_of_lt hb.1 hb.2, us]
  rfl
section
variable {w0 : World} {mb : Nat} {m : Nat → Value} {P : PM} {R Q : Value → World → Prop}
theorem em6 (x : Gx w0 mb m P) (B : PB P) (Y : YB P) (hQ : Q = fun _ _ => False) {a : List Int} (ha : a.length ≤ 400000) (hN : ∀ w', Same [] w0.heap.size w0 w' → binm_Bin_Encode.L8 (some ⟨mb, 0, none⟩) (strOfNums (a ++ secE 6 P.gn (rowsE globE' P.g P.gn))) (strOfNums []) 0 R Q w') :
    ∀ (k i : Nat) (w : World), i + k = P.gn → Same [] w0.heap.size w0 w → binm_Bin_Encode.L6 (some ⟨mb, 0, none⟩) (strOfNums a) (strOfNums (rowsE globE' P.g i)) (i : Int) R Q w := by
  haveI := outNil
  subst hQ
  obtain ⟨aa, cc, ev, hrow⟩ := x.inv.g7
  have hb := B.gn
  have hlen : ∀ i, i ≤ P.gn → (rowsE globE' P.g i).length ≤ 300 * i := fun i hi => rowsE_len _ _ _ _ (fun j hj => globE_len _)
  intro k
  induction k with
  | zero =>
    intro i w hi S
    obtain rfl : i = P.gn := by omega
    refine binm_Bin_Encode.step6 _ _ _ _ _ _ _ ?_
    unfold binm_Bin_Encode.V6
    have c := x.mc S 7 (by decide)
    rw [ev] at c
    simp only [nilV_some, Nat.zero_add, true_and]
    have hl := hlen P.gn (Nat.le_refl _)
    refine ⟨_, _, _, c, cond_false' (decide_eq_false (by omega)) ⟨_, _, _, c, ?_⟩⟩
    have sl := secE_len 6 P.gn (rowsE globE' P.g P.gn)
    refine (sectm w 6 _ _ ⟨by omega, by omega⟩ (by omega)).into fun w' S' => ⟨_, rfl, cat_size _ _ (by omega), ?_⟩
    rw [nums_app]
    exact hN w' (Same.nx S S')
  | succ k ih =>
    intro i w hi S
    refine binm_Bin_Encode.step6 _ _ _ _ _ _ _ ?_
    unfold binm_Bin_Encode.V6
    have c : ∀ {w : World}, Same [] w0.heap.size w0 w → w.cell? ⟨mb, 7, none⟩ = some (.slice aa _ cc) := fun S => by have c := x.mc S 7 (by decide); rw [ev] at c; exact c
    obtain ⟨b, rfl, lb, row, _⟩ := hrow (by omega)
    have row' : ∀ {w : World}, Same [] w0.heap.size w0 w → ∀ k u, (globE (P.g i))[k]? = some u → w.cell? ⟨b, i * 5 + k, none⟩ = some u := fun S k u hu => (S.cell (p := ⟨b, i * 5 + k, none⟩) lb (by simp)).trans (row i (by omega) k u hu)
    have hl := hlen i (by omega)
    simp only [nilV_some, Nat.zero_add, true_and]
    refine ⟨_, _, _, c S, cond_true' (decide_eq_true (by omega)) ⟨_, _, _, c S, by omega, ?_⟩⟩
    simp only [nilV_some, add_mk, Nat.zero_add, Int.toNat_natCast]
    have bd := B.g i (by omega)
    have hq := insE_len (P.g i).init 0 (by omega) (fun _ => 0)
    refine ⟨_, _, _, _, _, row' S 0 _ rfl, row' S 1 _ rfl, row' S 2 _ rfl, row' S 3 _ rfl, row' S 4 _ rfl, letB_intro fun xb hxb => letW_intro fun w1 hw1 => ?_⟩
    have S1 : Same [] w.heap.size w w1 := by rw [hw1]; exact (Same.refl _ _ _).alloc (Nat.le_refl _) _
    have can1 : ∀ j, j < 5 → can w1 ⟨xb, j, none⟩ := fun j hj => by
      refine ⟨?_, by rw [hw1, hxb, World.frozen?_alloc_new]⟩
      rw [hw1, hxb, World.cell?_alloc_new]
      have : j = 0 ∨ j = 1 ∨ j = 2 ∨ j = 3 ∨ j = 4 := by omega
      rcases this with rfl | rfl | rfl | rfl | rfl <;> exact ⟨_, rfl⟩
    have z1 : w1.heap.size = w.heap.size + 1 := by rw [hw1]; simp
    clear hw1
    refine putCells_intro xb _ 0 w1 _ (fun j hj => by rw [Nat.zero_add]; exact can1 j (by simpa using hj)) (fun w2 hF => ?_)
    have S2 : Same [] w.heap.size w w2 := S1.trans ((hF.same w.heap.size).mono (Nat.le_refl _) (by intro k hk hl; simp at hk; omega))
    have k0 : w2.cell? ⟨xb, 0, none⟩ = some (.int .u8 (P.g i).ty) := by rw [hF.cell, if_pos (by simp)]; rfl
    have k1 : w2.cell? ⟨xb, 1, none⟩ = some (.bool (P.g i).mu) := by rw [hF.cell, if_pos (by simp)]; rfl
    have k2 : w2.cell? ⟨xb, 2, none⟩ = some (.int .u8 (P.g i).init.op) := by rw [hF.cell, if_pos (by simp)]; rfl
    have k3 : w2.cell? ⟨xb, 3, none⟩ = some (.int .u32 (P.g i).init.x) := by rw [hF.cell, if_pos (by simp)]; rfl
    have k4 : w2.cell? ⟨xb, 4, none⟩ = some (.int .u64 (P.g i).init.y) := by rw [hF.cell, if_pos (by simp)]; rfl
    have lx : xb < w2.heap.size := cell_lt k0
    refine ⟨_, _, _, k2, k3, k4, ?_⟩
    refine (kinsm w2 (P.g i).init bd.2.2 (Y.g i (by omega))).into fun w3 S3 => ⟨_, rfl, _, (S3.cell (p := ⟨xb, 1, none⟩) lx (by simp)).trans k1, ?_⟩
    have T3 := Same.nx (Same.nx S S2) S3
    have L7 : ∀ mu : Int, mu = (if (P.g i).mu = true then 1 else 0) → binm_Bin_Encode.L7 (some ⟨mb, 0, none⟩) (strOfNums a) (strOfNums (rowsE globE' P.g i)) (i : Int) xb (strOfNums (insE (P.g i).init 0 (fun _ => 0))) (strOfNums [mu]) R (fun _ _ => False) w3 := fun mu hmu => by
      refine binm_Bin_Encode.step7 _ _ _ _ _ _ _ _ _ _ ?_
      unfold binm_Bin_Encode.V7
      refine ⟨_, (S3.cell (p := ⟨xb, 0, none⟩) lx (by simp)).trans k0, letB_intro fun b' hb' => letW_intro fun w4 hw4 => ?_⟩
      obtain ⟨hc, S4⟩ := run_one _ w3 hb' hw4
      refine ⟨_, w4, hc, ?_⟩
      simp only [str11, nums_app]
      refine ⟨cat_size _ _ (by first | omega | (simp only [List.length_append, List.length_cons, List.length_nil]; omega)), cat_size _ _ (by first | omega | (simp only [List.length_append, List.length_cons, List.length_nil]; omega)), cat_size _ _ (by first | omega | (simp only [List.length_append, List.length_cons, List.length_nil]; omega)), cat_size _ _ (by first | omega | (simp only [List.length_append, List.length_cons, List.length_nil]; omega)), ?_⟩
      rw [nx' i (by omega)]
      have er : rowsE globE' P.g i ++ [(P.g i).ty] ++ [mu] ++ insE (P.g i).init 0 (fun _ => 0) ++ [11] = rowsE globE' P.g (i + 1) := by rw [rowsE_succ, hmu]; unfold globE' konE; simp only [List.append_assoc, List.cons_append, List.nil_append]
      rw [er]
      exact ih (i + 1) w4 (by omega) (Same.nx T3 S4)
    refine cond_intro (fun g => L7 1 (by rw [if_pos g])) (fun g => L7 0 (by rw [if_neg (by rw [g]; decide)]))

theorem em8 (x : Gx w0 mb m P) (B : PB P) (hQ : Q = fun _ _ => False) {a : List Int} (ha : a.length ≤ 400000) (hN : ∀ w', Same [] w0.heap.size w0 w' → binm_Bin_Encode.L10 (some ⟨mb, 0, none⟩) (strOfNums (a ++ secE 7 P.nEx (rowsE expE' P.ex P.nEx) ++ startE P)) (strOfNums []) 0 R Q w') :
    ∀ (k i : Nat) (w : World), i + k = P.nEx → Same [] w0.heap.size w0 w → binm_Bin_Encode.L8 (some ⟨mb, 0, none⟩) (strOfNums a) (strOfNums (rowsE expE' P.ex i)) (i : Int) R Q w := by
  haveI := outNil
  subst hQ
  obtain ⟨aa, cc, ev, hrow⟩ := x.inv.e8
  have hb := B.nEx
  have hlen : ∀ i, i ≤ P.nEx → (rowsE expE' P.ex i).length ≤ 1100 * i := fun i hi => rowsE_len _ _ _ _ (fun j hj => expE_len _ (B.ex j (by omega)).1)
  intro k
  induction k with
  | zero =>
    intro i w hi S
    obtain rfl : i = P.nEx := by omega
    refine binm_Bin_Encode.step8 _ _ _ _ _ _ _ ?_
    unfold binm_Bin_Encode.V8
    have c := x.mc S 8 (by decide)
    rw [ev] at c
    simp only [nilV_some, Nat.zero_add, true_and]
    have hl := hlen P.nEx (Nat.le_refl _)
    refine ⟨_, _, _, c, cond_false' (decide_eq_false (by omega)) ⟨_, _, _, c, ?_⟩⟩
    have sl := secE_len 7 P.nEx (rowsE expE' P.ex P.nEx)
    refine (sectm w 7 _ _ ⟨by omega, by omega⟩ (by omega)).into fun w' S' => ⟨_, rfl, cat_size _ _ (by omega), ?_⟩
    rw [nums_app]
    have T := Same.nx S S'
    have c9 : ∀ {w : World}, Same [] w0.heap.size w0 w → w.cell? ⟨mb, 9, none⟩ = some (.int .i64 P.start) := fun S => by have c := x.mc S 9 (by decide); rw [x.inv.s9] at c; exact c
    have s0 := B.s0
    have q1 := uleb_len P.start
    have q2 := uleb_len ((uleb P.start).length : Int)
    have L9 : ∀ (l : List Int) (w : World), Same [] w0.heap.size w0 w → l = (a ++ secE 7 P.nEx (rowsE expE' P.ex P.nEx) ++ startE P) → binm_Bin_Encode.L9 (some ⟨mb, 0, none⟩) (strOfNums l) R (fun _ _ => False) w := fun l w S hl => by
      refine binm_Bin_Encode.step9 _ _ _ _ _ ?_
      unfold binm_Bin_Encode.V9
      rw [hl]
      exact hN w S
    by_cases h : 0 ≤ P.start
    · refine ⟨_, c9 T, cond_true' (decide_eq_true h) ⟨_, c9 T, ?_⟩⟩
      rw [wrap_u64 (x := P.start) (by omega) (by omega)]
      refine (ulebm w' _ (by omega) (by omega)).into fun w1 S1 => ⟨_, rfl, ?_⟩
      refine (vecm w1 _ (by omega)).into fun w2 S2 => ⟨_, rfl, ?_⟩
      simp only [str8, nums_app]
      refine ⟨cat_size _ _ (by first | omega | (simp only [List.length_append, List.length_cons, List.length_nil]; omega)), cat_size _ _ (by first | omega | (simp only [List.length_append, List.length_cons, List.length_nil]; omega)), ?_⟩
      exact L9 _ w2 (Same.nx (Same.nx T S1) S2) (by rw [startE_m ⟨h, s0.2⟩]; simp only [List.append_assoc])
    · refine ⟨_, c9 T, cond_false' (decide_eq_false h) ?_⟩
      exact L9 _ w' T (by unfold startE; rw [if_neg h, List.append_nil])
  | succ k ih =>
    intro i w hi S
    refine binm_Bin_Encode.step8 _ _ _ _ _ _ _ ?_
    unfold binm_Bin_Encode.V8
    have c : ∀ {w : World}, Same [] w0.heap.size w0 w → w.cell? ⟨mb, 8, none⟩ = some (.slice aa _ cc) := fun S => by have c := x.mc S 8 (by decide); rw [ev] at c; exact c
    obtain ⟨b, rfl, lb, row, _⟩ := hrow (by omega)
    have row' : ∀ {w : World}, Same [] w0.heap.size w0 w → ∀ k u, (expE (P.ex i))[k]? = some u → w.cell? ⟨b, i * 3 + k, none⟩ = some u := fun S k u hu => (S.cell (p := ⟨b, i * 3 + k, none⟩) lb (by simp)).trans (row i (by omega) k u hu)
    have hl := hlen i (by omega)
    simp only [nilV_some, Nat.zero_add, true_and]
    refine ⟨_, _, _, c S, cond_true' (decide_eq_true (by omega)) ⟨_, _, _, c S, by omega, ?_⟩⟩
    simp only [nilV_some, add_mk, Nat.zero_add, Int.toNat_natCast]
    have bd := B.ex i (by omega)
    have q1 := rawE_len (P.ex i).nm
    have q3 := uleb_len (P.ex i).idx
    refine ⟨_, row' S 0 _ rfl, ?_⟩
    refine (vecm_raw w _ (by omega)).into fun w1 S1 => ⟨_, rfl, ?_⟩
    have T1 := Same.nx S S1
    refine ⟨_, _, _, c T1, by omega, ?_⟩
    simp only [nilV_some, add_mk, Nat.zero_add, Int.toNat_natCast]
    refine ⟨_, row' T1 2 _ rfl, ?_⟩
    rw [wrap_u64 (x := (P.ex i).idx) (by omega) (by omega)]
    refine (ulebm w1 _ (by omega) (by omega)).into fun w2 S2 => ⟨_, rfl, cat_size _ _ (by first | omega | (simp only [List.length_append, List.length_cons, List.length_nil]; omega)), ?_⟩
    have T2 := Same.nx T1 S2
    refine ⟨_, _, _, c T2, by omega, ?_⟩
    simp only [nilV_some, add_mk, Nat.zero_add, Int.toNat_natCast]
    refine ⟨_, row' T2 1 _ rfl, letB_intro fun b' hb' => letW_intro fun w3 hw3 => ?_⟩
    obtain ⟨hc, S3⟩ := run_one _ w2 hb' hw3
    refine ⟨_, w3, hc, ?_⟩
    simp only [nums_app]
    refine ⟨cat_size _ _ (by first | omega | (simp only [List.length_append, List.length_cons, List.length_nil]; omega)), cat_size _ _ (by first | omega | (simp only [List.length_append, List.length_cons, List.length_nil]; omega)), ?_⟩
    rw [nx' i (by omega)]
    have er : rowsE expE' P.ex i ++ rawE (P.ex i).nm ++ [(P.ex i).kind] ++ uleb (P.ex i).idx = rowsE expE' P.ex (i + 1) := by rw [rowsE_succ]; unfold expE'; simp only [List.append_assoc]
    rw [er]
    exact ih (i + 1) w3 (by omega) (Same.nx T2 S3)

theorem em11 (x : Gx w0 mb m P) {i : Nat} (hi : i < P.nEl) {fr : Nat → ElR} {b ec : Nat} (ev : m 10 = .slice (some ⟨b, 0, none⟩) P.nEl ec) (lb : b < w0.heap.size) (row : ∀ j, j < P.nEl → ∀ k u, (elE (fr j))[k]? = some u → w0.cell? ⟨b, j * 4 + k, none⟩ = some u) (hel : Lk u32E 1 w0 (fr i).sl (P.el i).n (P.el i).fns)
    (hfn : ∀ k, k < (P.el i).n → 0 ≤ (P.el i).fns k ∧ (P.el i).fns k ≤ 4294967295) (hn6 : (P.el i).n ≤ 6) (hQ : Q = fun _ _ => False) {a t : List Int} (ht : t.length ≤ 400000)
    (hN : ∀ w', Same [] w0.heap.size w0 w' → binm_Bin_Encode.L10 (some ⟨mb, 0, none⟩) (strOfNums a) (strOfNums (t ++ rowsE uleb (P.el i).fns (P.el i).n)) (IntKind.wrap .i64 ((i : Int) + 1)) R Q w') :
    ∀ (k j : Nat) (w : World), j + k = (P.el i).n → Same [] w0.heap.size w0 w → binm_Bin_Encode.L11 (some ⟨mb, 0, none⟩) (strOfNums a) (strOfNums (t ++ rowsE uleb (P.el i).fns j)) (i : Int) (j : Int) R Q w := by
  haveI := outNil
  subst hQ
  obtain ⟨ea, ecc, esl, erow⟩ := hel
  have c : ∀ {w : World}, Same [] w0.heap.size w0 w → w.cell? ⟨mb, 10, none⟩ = some (.slice (some ⟨b, 0, none⟩) P.nEl ec) := fun S => by have c := x.mc S 10 (by decide); rw [ev] at c; exact c
  have row3 : ∀ {w : World}, Same [] w0.heap.size w0 w → w.cell? ⟨b, i * 4 + 3, none⟩ = some (.slice ea (P.el i).n ecc) := fun S => (S.cell (p := ⟨b, i * 4 + 3, none⟩) lb (by simp)).trans (by rw [← esl]; exact row i hi 3 _ rfl)
  have hlen : ∀ j, (rowsE uleb (P.el i).fns j).length ≤ 10 * j := fun j => rowsE_len _ _ _ _ (fun k hk => uleb_len _)
  intro k
  induction k with
  | zero =>
    intro j w hj S
    obtain rfl : j = (P.el i).n := by omega
    refine binm_Bin_Encode.step11 _ _ _ _ _ _ _ _ ?_
    unfold binm_Bin_Encode.V11
    simp only [nilV_some, Nat.zero_add, true_and]
    refine ⟨_, _, _, c S, by omega, ?_⟩
    simp only [nilV_some, add_mk, Nat.zero_add, Int.toNat_natCast]
    exact ⟨_, _, _, row3 S, cond_false' (decide_eq_false (by omega)) (hN w S)⟩
  | succ k ih =>
    intro j w hj S
    refine binm_Bin_Encode.step11 _ _ _ _ _ _ _ _ ?_
    unfold binm_Bin_Encode.V11
    simp only [nilV_some, Nat.zero_add, true_and]
    refine ⟨_, _, _, c S, by omega, ?_⟩
    simp only [nilV_some, add_mk, Nat.zero_add, Int.toNat_natCast]
    refine ⟨_, _, _, row3 S, cond_true' (decide_eq_true (by omega)) ⟨_, _, _, c S, by omega, ?_⟩⟩
    simp only [nilV_some, add_mk, Nat.zero_add, Int.toNat_natCast]
    refine ⟨_, _, _, row3 S, by omega, ?_⟩
    obtain ⟨eb, rfl, elb, er, _⟩ := erow (by omega)
    simp only [nilV_some, add_mk, Nat.zero_add, Int.toNat_natCast]
    have hf := hfn j (by omega)
    have q1 := uleb_len ((P.el i).fns j)
    have hl := hlen j
    refine ⟨_, (S.cell (p := ⟨eb, j * 1 + 0, none⟩) elb (by simp)).trans (er j (by omega) 0 _ rfl), ?_⟩
    rw [wrap_u64 (x := (P.el i).fns j) (by omega) (by omega)]
    refine (ulebm w _ (by omega) (by omega)).into fun w1 S1 => ⟨_, rfl, ?_⟩
    simp only [nums_app]
    refine ⟨cat_size _ _ (by first | omega | (simp only [List.length_append, List.length_cons, List.length_nil]; omega)), ?_⟩
    rw [nx' j (by omega), List.append_assoc]
    exact ih (j + 1) w1 (by omega) (Same.nx S S1)
theorem em10 (x : Gx w0 mb m P) (B : PB P) (Y : YB P) (hQ : Q = fun _ _ => False) {a : List Int} (ha : a.length ≤ 400000) (hN : ∀ w', Same [] w0.heap.size w0 w' → binm_Bin_Encode.L12 (some ⟨mb, 0, none⟩) (strOfNums (a ++ secE 9 P.nEl (rowsE elE' P.el P.nEl))) (strOfNums []) 0 R Q w') :
    ∀ (k i : Nat) (w : World), i + k = P.nEl → Same [] w0.heap.size w0 w → binm_Bin_Encode.L10 (some ⟨mb, 0, none⟩) (strOfNums a) (strOfNums (rowsE elE' P.el i)) (i : Int) R Q w := by
  haveI := outNil
  subst hQ
  obtain ⟨fr, ⟨aa, cc, ev, hrow⟩, hel⟩ := x.inv.l10
  have hb := B.nEl
  have hlen : ∀ i, i ≤ P.nEl → (rowsE elE' P.el i).length ≤ 400 * i := fun i hi => rowsE_len _ _ _ _ (fun j hj => elE_len _ (B.el j (by omega)).2.1)
  intro k
  induction k with
  | zero =>
    intro i w hi S
    obtain rfl : i = P.nEl := by omega
    refine binm_Bin_Encode.step10 _ _ _ _ _ _ _ ?_
    unfold binm_Bin_Encode.V10
    have c := x.mc S 10 (by decide)
    rw [ev] at c
    simp only [nilV_some, Nat.zero_add, true_and]
    have hl := hlen P.nEl (Nat.le_refl _)
    refine ⟨_, _, _, c, cond_false' (decide_eq_false (by omega)) ⟨_, _, _, c, ?_⟩⟩
    have sl := secE_len 9 P.nEl (rowsE elE' P.el P.nEl)
    refine (sectm w 9 _ _ ⟨by omega, by omega⟩ (by omega)).into fun w' S' => ⟨_, rfl, cat_size _ _ (by omega), ?_⟩
    rw [nums_app]
    exact hN w' (Same.nx S S')
  | succ k ih =>
    intro i w hi S
    refine binm_Bin_Encode.step10 _ _ _ _ _ _ _ ?_
    unfold binm_Bin_Encode.V10
    have c : ∀ {w : World}, Same [] w0.heap.size w0 w → w.cell? ⟨mb, 10, none⟩ = some (.slice aa _ cc) := fun S => by have c := x.mc S 10 (by decide); rw [ev] at c; exact c
    obtain ⟨b, rfl, lb, row, _⟩ := hrow (by omega)
    have row' : ∀ {w : World}, Same [] w0.heap.size w0 w → ∀ k u, (elE (fr i))[k]? = some u → w.cell? ⟨b, i * 4 + k, none⟩ = some u := fun S k u hu => (S.cell (p := ⟨b, i * 4 + k, none⟩) lb (by simp)).trans (row i (by omega) k u hu)
    have hl := hlen i (by omega)
    simp only [nilV_some, Nat.zero_add, true_and]
    refine ⟨_, _, _, c S, cond_true' (decide_eq_true (by omega)) ⟨_, _, _, c S, by omega, ?_⟩⟩
    simp only [nilV_some, add_mk, Nat.zero_add, Int.toNat_natCast]
    have bd := B.el i (by omega)
    obtain ⟨g1, g2⟩ := hel i (by omega)
    have g2' := g2
    obtain ⟨ea, ecc, esl, erow⟩ := g2
    have hq := insE_len (P.el i).off 0 (by omega) (fun _ => 0)
    have q1 := uleb_len ((P.el i).n : Int)
    have r0 := row' S 0 _ rfl
    have r1 := row' S 1 _ rfl
    have r2 := row' S 2 _ rfl
    rw [g1] at r0 r1 r2
    refine ⟨_, _, _, r0, r1, r2, ?_⟩
    refine (kinsm w (P.el i).off bd.1 (Y.el i (by omega))).into fun w1 S1 => ⟨_, rfl, ?_⟩
    have T1 := Same.nx S S1
    refine ⟨_, _, _, c T1, by omega, ?_⟩
    simp only [nilV_some, add_mk, Nat.zero_add, Int.toNat_natCast]
    have r3 := row' T1 3 _ rfl
    rw [esl] at r3
    refine ⟨_, _, _, r3, ?_⟩
    rw [wrap_u64 (x := (((P.el i).n : Nat) : Int)) (by omega) (by omega)]
    refine (ulebm w1 _ (by omega) (by omega)).into fun w2 S2 => ⟨_, rfl, ?_⟩
    simp only [str0, str11, nums_app]
    refine ⟨cat_size _ _ (by first | omega | (simp only [List.length_append, List.length_cons, List.length_nil]; omega)), cat_size _ _ (by first | omega | (simp only [List.length_append, List.length_cons, List.length_nil]; omega)), cat_size _ _ (by first | omega | (simp only [List.length_append, List.length_cons, List.length_nil]; omega)), cat_size _ _ (by first | omega | (simp only [List.length_append, List.length_cons, List.length_nil]; omega)), ?_⟩
    have h := em11 (w0 := w0) (R := R) (Q := fun _ _ => False) x (i := i) (by omega) ev lb row g2' bd.2.2 bd.2.1 rfl (a := a) (t := rowsE elE' P.el i ++ [0] ++ insE (P.el i).off 0 (fun _ => 0) ++ [11] ++ uleb ((P.el i).n : Int)) (by simp only [List.length_append, List.length_cons, List.length_nil]; omega) (fun w' S' => by
      rw [nx' i (by omega)]
      have er : rowsE elE' P.el i ++ [0] ++ insE (P.el i).off 0 (fun _ => 0) ++ [11] ++ uleb ((P.el i).n : Int) ++ rowsE uleb (P.el i).fns (P.el i).n = rowsE elE' P.el (i + 1) := by rw [rowsE_succ]; unfold elE' konE; simp only [List.append_assoc]
      rw [er]
      exact ih (i + 1) w' (by omega) S') (P.el i).n 0 w2 (by omega) (Same.nx T1 S2)
    have e0 : rowsE uleb (P.el i).fns 0 = [] := rfl
    rw [e0, List.append_nil] at h
    exact h

end
end Go.Proofs.Qxb6500316a
