/-
  The machine: settle.
-/
import Derived.Test.Qxb6500317aGreatExC
import Derived.Test.Qxb6500317aGreatMemE
set_option linter.unusedSimpArgs false
set_option linter.unusedVariables false
set_option maxRecDepth 100000
set_option linter.unusedSectionVars false
set_option maxHeartbeats 1000000
namespace Go.Proofs.Qxb6500317aGreat
open Go Go.Vc

/-! ### The plain settling -/
def bindH (h : HS) (kk : Nat → Nat) : Nat → HS
  | 0 => h
  | i + 1 => { { bindH h kk i with n := (bindH h kk i).n + 1 } with k := upd (bindH h kk i).k (bindH h kk i).n (kk i) }
theorem bindH_n (h : HS) (kk : Nat → Nat) : ∀ i, (bindH h kk i).n = h.n + i
  | 0 => rfl
  | i + 1 => by
    show (bindH h kk i).n + 1 = _
    rw [bindH_n h kk i]; omega
def globM (P : PM) (s : M.MS) : Nat → M.MS
  | 0 => s
  | i + 1 => ((globM P s i).setGlobal (i : Int) (P.g i).init.y).2
def elBad (P : PM) (tl : Nat) (i : Nat) : Bool := decide (IntKind.wrap .u64 ((P.el i).off.y + IntKind.wrap .u64 ((P.el i).n : Int)) > IntKind.wrap .u64 (tl : Int))
def elFirst (P : PM) (tl : Nat) : Nat → Nat → Option Nat
  | 0, _ => none
  | f + 1, i => if elBad P tl i then some i else elFirst P tl f (i + 1)
def daBad (P : PM) (s : M.MS) (i : Nat) : Bool := !decide (0 ≤ (((P.da i).bytes.size : Nat) : Int) ∧ IntKind.wrap .u32 (P.da i).off.y + (((P.da i).bytes.size : Nat) : Int) ≤ s.n)
def daFirst (P : PM) (s : M.MS) : Nat → Nat → Option Nat
  | 0, _ => none
  | f + 1, i => if daBad P s i then some i else daFirst P s f (i + 1)
def elM1 (e : ElV) (s : M.MS) : Nat → M.MS
  | 0 => s
  | j + 1 => ((elM1 e s j).setElem (IntKind.wrap .u32 (IntKind.wrap .u32 e.off.y + IntKind.wrap .u32 (j : Int))) (IntKind.wrap .i64 (e.fns j))).2
def elM (P : PM) (s : M.MS) : Nat → M.MS
  | 0 => s
  | i + 1 => elM1 (P.el i) (elM P s i) (P.el i).n
def daM (P : PM) (s : M.MS) : Nat → M.MS
  | 0 => s
  | i + 1 => ((daM P s i).write (IntKind.wrap .u32 (P.da i).off.y) (P.da i).bytes).2
def settleP (P : PM) (nb : Nat) (s : M.MS) : Int × Int × Int × M.MS :=
  if nb < P.nIm then ((nb : Int), 0, 30, s) else
  if (s.reset P.mmin P.mmax P.tmin (P.gn : Int)).1 ≠ 0 then (0, 0, (s.reset P.mmin P.mmax P.tmin (P.gn : Int)).1, (s.reset P.mmin P.mmax P.tmin (P.gn : Int)).2) else
  match elFirst P (globM P (s.reset P.mmin P.mmax P.tmin (P.gn : Int)).2 P.gn).tl P.nEl 0 with
  | some i => ((i : Int), 0, 31, globM P (s.reset P.mmin P.mmax P.tmin (P.gn : Int)).2 P.gn)
  | none =>
    match daFirst P (globM P (s.reset P.mmin P.mmax P.tmin (P.gn : Int)).2 P.gn) P.nD 0 with
    | some i => ((i : Int), 1, 31, globM P (s.reset P.mmin P.mmax P.tmin (P.gn : Int)).2 P.gn)
    | none => (0, 0, 0, daM P (elM P (globM P (s.reset P.mmin P.mmax P.tmin (P.gn : Int)).2 P.gn) P.nEl) P.nD)

theorem wrap_u32_bd (x : Int) : 0 ≤ IntKind.wrap .u32 x ∧ IntKind.wrap .u32 x < 4294967296 := by
  have : IntKind.wrap .u32 x = x % 4294967296 := rfl
  omega
/-- The machine that settles. -/
structure Stl (W w0 w wd : World) (A : XA) (F0 F : List Nat) (ms : M.MS) (h : HS) (S fr : Nat → Int) (L mb : Nat) (m : Nat → Value) (P : PM) : Prop where
  X : XB W w A F ms h S fr
  H : HM wd w L mb m P
  T : Same (A.p :: A.q :: A.hb :: F0) w0.heap.size w0 w
  fF : ∀ d, d ∈ F → d ∈ F0 ∨ w0.heap.size ≤ d
  lL : A.n6 ≤ L
  lF : ∀ d, d ∈ F0 → d ≤ L
  wd : wd.heap.size ≤ w0.heap.size
section
variable {W w0 w w' wd : World} {A : XA} {F0 F : List Nat} {ms : M.MS} {h : HS} {S fr : Nat → Int} {L mb : Nat} {m : Nat → Value} {P : PM}
theorem Stl.keep (s : Stl W w0 w wd A F0 F ms h S fr L mb m P) (hs : Same [] w.heap.size w w') : Stl W w0 w' wd A F0 F ms h S fr L mb m P :=
  ⟨s.X.keep hs, s.H.keep hs, s.T.trans (hs.mono s.T.size (by simp)), s.fF, s.lL, s.lF, s.wd⟩
theorem Stl.store (s : Stl W w0 w wd A F0 F ms h S fr L mb m P) {ms' : M.MS} (hs : Same [A.p, A.q] w.heap.size w w') (hm : M.MSAt w' A.p A.q ms') (hw : ms'.Wf) : Stl W w0 w' wd A F0 F ms' h S fr L mb m P := by
  obtain ⟨_, _, _, ⟨p1, p2, q1, q2⟩, ⟨h1, h2⟩, ⟨k1, k2, x1, x2, ne⟩, lt, z0⟩ := s.X.zone
  have := s.lL
  refine ⟨s.X.store hs (by simp) hm hw, s.H.same hs s.H.size (fun k hk => ?_), s.T.trans (hs.mono s.T.size (fun k hk _ => ?_)), s.fF, s.lL, s.lF, s.wd⟩
  · simp at hk; left; omega
  · simp at hk ⊢; omega
theorem Stl.host (s : Stl W w0 w wd A F0 F ms h S fr L mb m P) {h' : HS} {F' : List Nat} (hs : Same (A.hb :: F) w.heap.size w w') (ho : HoAt w' A.hb F' h') (hF : ∀ d, d ∈ F' → d ∈ F ∨ w.heap.size ≤ d) : Stl W w0 w' wd A F0 F' ms h' S fr L mb m P := by
  obtain ⟨_, _, _, ⟨p1, p2, q1, q2⟩, ⟨h1, h2⟩, ⟨k1, k2, x1, x2, ne⟩, lt, z0⟩ := s.X.zone
  have lL := s.lL
  have sz := s.T.size
  have wd' := s.wd
  refine ⟨s.X.host hs (by simp) ho hF, s.H.same hs s.H.size (fun k hk => ?_), s.T.trans (hs.mono sz (fun k hk hl => ?_)), fun d hd => ?_, s.lL, s.lF, s.wd⟩
  · rcases List.mem_cons.1 hk with e | e
    · left; omega
    · rcases s.fF k e with g | g
      · exact .inl (s.lF k g)
      · right; omega
  · rcases List.mem_cons.1 hk with e | e
    · subst e; simp
    · rcases s.fF k e with g | g
      · simp [g]
      · omega
  · rcases hF d hd with g | g
    · exact s.fF d g
    · right; omega
theorem HM.elA (H : HM wd w L mb m P) {i : Nat} (hi : i < P.nEl) : ∃ b a, w.cell? ⟨mb, 10, none⟩ = some (.slice (some ⟨b, 0, none⟩) P.nEl P.nEl) ∧ w.cell? ⟨b, i * 4 + 2, none⟩ = some (.int .u64 (P.el i).off.y) ∧ w.cell? ⟨b, i * 4 + 3, none⟩ = some (.slice a (P.el i).n (P.el i).n) ∧ ((P.el i).n ≠ 0 → ∃ f, a = some ⟨f, 0, none⟩ ∧ ∀ j, j < (P.el i).n → w.cell? ⟨f, j, none⟩ = some (.int .u32 ((P.el i).fns j))) := by
  obtain ⟨a, e, hr⟩ := H.el
  obtain ⟨b, rfl, frr, R, hf⟩ := hr (by omega)
  obtain ⟨o, sl, _⟩ := hf i hi
  obtain ⟨fa, es, hs⟩ := sl.look
  have c2 := R.c i hi 2 _ rfl
  have c3 := R.c i hi 3 _ rfl
  rw [o] at c2
  rw [es] at c3
  refine ⟨b, fa, e, c2, c3, fun h0 => ?_⟩
  obtain ⟨f, e1, _, e2⟩ := hs h0
  exact ⟨f, e1, fun j hj => by have := e2 j hj 0 _ rfl; rwa [Nat.mul_one, Nat.add_zero] at this⟩
theorem settle_spec (s0 : Stl W w w wd A F F ms h S fr L mb m P) (B : PB P) (hn : h.n = 0) {kk : Nat → Nat} {nb : Nat} (hk : ∀ i, i < nb → nameK (P.im i).nm (kk i)) (hnb : nb = P.nIm ∨ (nb < P.nIm ∧ (P.im nb).nm = nNone)) :
    Runs Tryz.prog exec_Exec_settle.id #[rp A.xb, rp mb] w fun v w' => v = .tuple #[.int .i64 (settleP P nb ms).1, .int .i64 (settleP P nb ms).2.1, .int .i64 (settleP P nb ms).2.2.1] ∧ ∃ F', Stl W w w' wd A F F' (settleP P nb ms).2.2.2 (bindH h kk nb) S fr L mb m P := by
  have bIm := B.nIm; have bgn := B.gn; have bEl := B.nEl; have bD := B.nD
  refine exec_Exec_settle.enter _ _ _ _ _ ?_
  unfold exec_Exec_settle.V
  generalize hR : (fun (v : Value) (w' : World) => v = .tuple #[.int .i64 (settleP P nb ms).1, .int .i64 (settleP P nb ms).2.1, .int .i64 (settleP P nb ms).2.2.1] ∧ ∃ F', Stl W w w' wd A F F' (settleP P nb ms).2.2.2 (bindH h kk nb) S fr L mb m P) = R
  have hRi : ∀ (v : Value) (w' : World), (v = .tuple #[.int .i64 (settleP P nb ms).1, .int .i64 (settleP P nb ms).2.1, .int .i64 (settleP P nb ms).2.2.1] ∧ ∃ F', Stl W w w' wd A F F' (settleP P nb ms).2.2.2 (bindH h kk nb) S fr L mb m P) → R v w' := fun v w' q => by rw [← hR]; exact q
  clear hR
  obtain ⟨r0, hr0⟩ : ∃ r0, r0 = ms.reset P.mmin P.mmax P.tmin (P.gn : Int) := ⟨_, rfl⟩
  obtain ⟨m1, hm1⟩ : ∃ m1, m1 = globM P r0.2 P.gn := ⟨_, rfl⟩
  -- the bytes
  have loop7 : nb = P.nIm → r0.1 = 0 → elFirst P m1.tl P.nEl 0 = none → daFirst P m1 P.nD 0 = none → ∀ (f i : Nat) (w1 : World) (F1 : List Nat), i + f = P.nD → Stl W w w1 wd A F F1 (daM P (elM P m1 P.nEl) i) (bindH h kk nb) S fr L mb m P →
      exec_Exec_settle.L7 (some ⟨A.xb, 0, none⟩) (some ⟨mb, 0, none⟩) (i : Int) R (fun _ _ => False) w1 := by
    intro q1 q2 q3 q4 f
    induction f with
    | zero =>
      intro i w1 F1 hi s
      obtain rfl : i = P.nD := by omega
      refine exec_Exec_settle.step7 _ _ _ _ _ _ ?_
      unfold exec_Exec_settle.V7
      obtain ⟨fa, e, _⟩ := s.H.da
      have e2 : settleP P nb ms = (0, 0, 0, daM P (elM P m1 P.nEl) P.nD) := by
        unfold settleP
        rw [if_neg (by omega), ← hr0, if_neg (by simpa using q2), ← hm1, q3, q4]
      exact ⟨_, _, _, e, cond_false' (decide_eq_false (by omega)) (hRi _ _ ⟨by rw [e2], F1, by rw [e2]; exact s⟩)⟩
    | succ f ih =>
      intro i w1 F1 hi s
      refine exec_Exec_settle.step7 _ _ _ _ _ _ ?_
      unfold exec_Exec_settle.V7
      obtain ⟨fa, e, hfa⟩ := s.H.da
      obtain ⟨fb, rfl, FR⟩ := hfa (by omega)
      have o1 := (B.da i (by omega)).1.y0
      have o2 := (B.da i (by omega)).1.y1
      have sd := s.keep (Same.refl _ _ _).drew
      have c2 : w1.drew.cell? ⟨fb, 0 + i * 4 + 2, none⟩ = some (.int .u64 (P.da i).off.y) := by rw [Nat.zero_add]; exact FR i (by omega) 2 _ rfl
      have c3 : w1.drew.cell? ⟨fb, 0 + i * 4 + 3, none⟩ = some (.string (P.da i).bytes) := by rw [Nat.zero_add]; exact FR i (by omega) 3 _ rfl
      simp only [true_and, nilV_some, add_mk, Int.toNat_natCast]
      refine ⟨_, _, _, e, cond_true' (decide_eq_true (by omega)) ⟨_, sd.X.c3, _, _, _, e, by omega, ?_⟩⟩
      simp only [nilV_some, add_mk, Int.toNat_natCast]
      refine ⟨_, c2, _, _, _, e, by omega, ?_⟩
      simp only [nilV_some, add_mk, Int.toNat_natCast]
      refine ⟨_, c3, RunsQ.post (M.Write_spec _ _ _ _ sd.X.mt sd.X.wf _ _ (wrap_u32_bd _).1 (wrap_u32_bd _).2) ?_⟩
      rintro v w2 ⟨rfl, g1, g2⟩
      refine ⟨_, rfl, ?_⟩
      rw [nx i (by omega)]
      exact ih (i + 1) w2 F1 (by omega) (sd.store g2 g1 (M.write_wf _ sd.X.wf _ _))
  -- the elements of a segment
  have loop5 : nb = P.nIm → r0.1 = 0 → elFirst P m1.tl P.nEl 0 = none → daFirst P m1 P.nD 0 = none → ∀ (f i : Nat) (w1 : World) (F1 : List Nat), i + f = P.nEl → Stl W w w1 wd A F F1 (elM P m1 i) (bindH h kk nb) S fr L mb m P →
      exec_Exec_settle.L5 (some ⟨A.xb, 0, none⟩) (some ⟨mb, 0, none⟩) (i : Int) R (fun _ _ => False) w1 := by
    intro q1 q2 q3 q4 f
    induction f with
    | zero =>
      intro i w1 F1 hi s
      obtain rfl : i = P.nEl := by omega
      refine exec_Exec_settle.step5 _ _ _ _ _ _ ?_
      unfold exec_Exec_settle.V5
      obtain ⟨fa, e, _⟩ := s.H.el
      exact ⟨_, _, _, e, cond_false' (decide_eq_false (by omega)) (loop7 q1 q2 q3 q4 P.nD 0 w1 F1 (by omega) s)⟩
    | succ f ih =>
      intro i w1 F1 hi s
      refine exec_Exec_settle.step5 _ _ _ _ _ _ ?_
      unfold exec_Exec_settle.V5
      obtain ⟨b, a, e, e2, e3, e4⟩ := s.H.elA (i := i) (by omega)
      refine ⟨_, _, _, e, cond_true' (decide_eq_true (by omega)) ⟨_, _, _, e, by omega, ?_⟩⟩
      simp only [nilV_some, add_mk, Int.toNat_natCast, Nat.zero_add]
      refine ⟨_, e2, ?_⟩
      have bel := B.el i (by omega)
      have loop6 : ∀ (g j : Nat) (w2 : World) (F2 : List Nat), j + g = (P.el i).n → Stl W w w2 wd A F F2 (elM1 (P.el i) (elM P m1 i) j) (bindH h kk nb) S fr L mb m P →
          exec_Exec_settle.L6 (some ⟨A.xb, 0, none⟩) (some ⟨mb, 0, none⟩) (i : Int) (IntKind.wrap .u32 (P.el i).off.y) (j : Int) R (fun _ _ => False) w2 := by
        intro g
        induction g with
        | zero =>
          intro j w2 F2 hj s
          obtain rfl : j = (P.el i).n := by omega
          refine exec_Exec_settle.step6 _ _ _ _ _ _ _ _ ?_
          unfold exec_Exec_settle.V6
          obtain ⟨b, a, e, e2, e3, e4⟩ := s.H.elA (i := i) (by omega)
          refine ⟨_, _, _, e, by omega, ?_⟩
          simp only [nilV_some, add_mk, Int.toNat_natCast, Nat.zero_add]
          refine ⟨_, _, _, e3, cond_false' (decide_eq_false (by omega)) ?_⟩
          rw [nx i (by omega)]
          exact ih (i + 1) w2 F2 (by omega) s
        | succ g ihg =>
          intro j w2 F2 hj s
          refine exec_Exec_settle.step6 _ _ _ _ _ _ _ _ ?_
          unfold exec_Exec_settle.V6
          obtain ⟨b, a, e, e2, e3, e4⟩ := s.H.elA (i := i) (by omega)
          obtain ⟨fb, rfl, hfb⟩ := e4 (by omega)
          have sd := s.keep (Same.refl _ _ _).drew
          have cf : w2.drew.cell? ⟨fb, 0 + j * 1, none⟩ = some (.int .u32 ((P.el i).fns j)) := by rw [Nat.zero_add, Nat.mul_one]; exact hfb j (by omega)
          refine ⟨_, _, _, e, by omega, ?_⟩
          simp only [true_and, nilV_some, add_mk, Int.toNat_natCast, Nat.zero_add]
          refine ⟨_, _, _, e3, cond_true' (decide_eq_true (by omega)) ⟨_, sd.X.c3, _, _, _, e, by omega, ?_⟩⟩
          simp only [nilV_some, add_mk, Int.toNat_natCast, Nat.zero_add]
          refine ⟨_, _, _, e3, by omega, ?_⟩
          simp only [nilV_some, add_mk, Int.toNat_natCast]
          refine ⟨_, cf, RunsQ.post (M.SetElem_spec _ _ _ _ sd.X.mt sd.X.wf _ _ (wrap_u32_bd _).1 (wrap_u32_bd _).2) ?_⟩
          rintro v w3 ⟨rfl, g1, g2⟩
          refine ⟨_, rfl, ?_⟩
          rw [nx j (by omega)]
          have hb := bel.2.2 j (by omega)
          exact ihg (j + 1) w3 F2 (by omega) (sd.store g2 g1 (M.setElem_wf _ sd.X.wf _ _ (by rw [wrap_i64 (by omega) (by omega)]; omega)))
      exact loop6 (P.el i).n 0 w1 F1 (by omega) s
  -- the tests of the bytes
  have loop4 : nb = P.nIm → r0.1 = 0 → elFirst P m1.tl P.nEl 0 = none → ∀ (f i : Nat) (w1 : World) (F1 : List Nat), i + f = P.nD → daFirst P m1 P.nD 0 = daFirst P m1 f i → Stl W w w1 wd A F F1 m1 (bindH h kk nb) S fr L mb m P →
      exec_Exec_settle.L4 (some ⟨A.xb, 0, none⟩) (some ⟨mb, 0, none⟩) (i : Int) R (fun _ _ => False) w1 := by
    intro q1 q2 q3 f
    induction f with
    | zero =>
      intro i w1 F1 hi hd s
      obtain rfl : i = P.nD := by omega
      refine exec_Exec_settle.step4 _ _ _ _ _ _ ?_
      unfold exec_Exec_settle.V4
      obtain ⟨fa, e, _⟩ := s.H.da
      exact ⟨_, _, _, e, cond_false' (decide_eq_false (by omega)) (loop5 q1 q2 q3 hd P.nEl 0 w1 F1 (by omega) s)⟩
    | succ f ih =>
      intro i w1 F1 hi hd s
      refine exec_Exec_settle.step4 _ _ _ _ _ _ ?_
      unfold exec_Exec_settle.V4
      obtain ⟨fa, e, hfa⟩ := s.H.da
      obtain ⟨fb, rfl, FR⟩ := hfa (by omega)
      have bz := (B.da i (by omega)).2
      have sd := s.keep (Same.refl _ _ _).drew
      have c2 : w1.drew.cell? ⟨fb, 0 + i * 4 + 2, none⟩ = some (.int .u64 (P.da i).off.y) := by rw [Nat.zero_add]; exact FR i (by omega) 2 _ rfl
      have c3 : w1.drew.cell? ⟨fb, 0 + i * 4 + 3, none⟩ = some (.string (P.da i).bytes) := by rw [Nat.zero_add]; exact FR i (by omega) 3 _ rfl
      simp only [true_and, nilV_some, add_mk, Int.toNat_natCast]
      refine ⟨_, _, _, e, cond_true' (decide_eq_true (by omega)) ⟨_, sd.X.c3, _, _, _, e, by omega, ?_⟩⟩
      simp only [nilV_some, add_mk, Int.toNat_natCast]
      refine ⟨_, c2, _, _, _, e, by omega, ?_⟩
      simp only [nilV_some, add_mk, Int.toNat_natCast]
      refine ⟨_, c3, RunsQ.post (M.Fits_spec _ _ _ _ sd.X.mt sd.X.wf _ _ (wrap_u32_bd _).1 (wrap_u32_bd _).2 (by omega)) ?_⟩
      rintro v w2 ⟨rfl, rfl⟩
      refine ⟨_, rfl, ?_⟩
      by_cases hb : daBad P m1 i = true
      · refine cond_true' hb (hRi _ _ ?_)
        have e2 : settleP P nb ms = ((i : Int), 1, 31, m1) := by
          unfold settleP
          rw [if_neg (by omega), ← hr0, if_neg (by simpa using q2), ← hm1, q3, hd]
          show (match (if daBad P m1 i then some i else daFirst P m1 f (i + 1)) with | some i => ((i : Int), (1 : Int), (31 : Int), m1) | none => _) = _
          rw [if_pos hb]
        exact ⟨by rw [e2], F1, by rw [e2]; exact sd⟩
      · have hb' : daBad P m1 i = false := by simpa using hb
        refine cond_false' hb' ?_
        rw [nx i (by omega)]
        refine ih (i + 1) _ F1 (by omega) ?_ sd
        rw [hd]
        show (if daBad P m1 i then some i else daFirst P m1 f (i + 1)) = _
        rw [if_neg hb]
  -- the tests of the elements
  have loop3 : nb = P.nIm → r0.1 = 0 → ∀ (f i : Nat) (w1 : World) (F1 : List Nat), i + f = P.nEl → elFirst P m1.tl P.nEl 0 = elFirst P m1.tl f i → Stl W w w1 wd A F F1 m1 (bindH h kk nb) S fr L mb m P →
      exec_Exec_settle.L3 (some ⟨A.xb, 0, none⟩) (some ⟨mb, 0, none⟩) (m1.tl : Int) (i : Int) R (fun _ _ => False) w1 := by
    intro q1 q2 f
    induction f with
    | zero =>
      intro i w1 F1 hi hd s
      obtain rfl : i = P.nEl := by omega
      refine exec_Exec_settle.step3 _ _ _ _ _ _ _ ?_
      unfold exec_Exec_settle.V3
      obtain ⟨fa, e, _⟩ := s.H.el
      exact ⟨_, _, _, e, cond_false' (decide_eq_false (by omega)) (loop4 q1 q2 hd P.nD 0 w1 F1 (by omega) rfl s)⟩
    | succ f ih =>
      intro i w1 F1 hi hd s
      refine exec_Exec_settle.step3 _ _ _ _ _ _ _ ?_
      unfold exec_Exec_settle.V3
      have sd := s.keep (Same.refl _ _ _).drew
      obtain ⟨b, a, e, e2, e3, e4⟩ := sd.H.elA (i := i) (by omega)
      have e' : w1.cell? ⟨mb, 10, none⟩ = _ := e
      simp only [true_and, nilV_some, add_mk, Int.toNat_natCast]
      refine ⟨_, _, _, e', cond_true' (decide_eq_true (by omega)) ⟨_, _, _, e, by omega, ?_⟩⟩
      simp only [nilV_some, add_mk, Int.toNat_natCast, Nat.zero_add]
      refine ⟨_, e2, _, _, _, e, by omega, ?_⟩
      simp only [nilV_some, add_mk, Int.toNat_natCast, Nat.zero_add]
      refine ⟨_, _, _, e3, ?_⟩
      by_cases hb : elBad P m1.tl i = true
      · refine cond_true' hb (hRi _ _ ?_)
        have e2 : settleP P nb ms = ((i : Int), 0, 31, m1) := by
          unfold settleP
          rw [if_neg (by omega), ← hr0, if_neg (by simpa using q2), ← hm1, hd]
          show (match (if elBad P m1.tl i then some i else elFirst P m1.tl f (i + 1)) with | some i => ((i : Int), (0 : Int), (31 : Int), m1) | none => _) = _
          rw [if_pos hb]
        exact ⟨by rw [e2], F1, by rw [e2]; exact sd⟩
      · have hb' : elBad P m1.tl i = false := by simpa using hb
        refine cond_false' hb' ?_
        rw [nx i (by omega)]
        refine ih (i + 1) _ F1 (by omega) ?_ sd
        rw [hd]
        show (if elBad P m1.tl i then some i else elFirst P m1.tl f (i + 1)) = _
        rw [if_neg hb]
  -- the globals
  have loop2 : nb = P.nIm → r0.1 = 0 → ∀ (f i : Nat) (w1 : World) (F1 : List Nat), i + f = P.gn → Stl W w w1 wd A F F1 (globM P r0.2 i) (bindH h kk nb) S fr L mb m P →
      exec_Exec_settle.L2 (some ⟨A.xb, 0, none⟩) (some ⟨mb, 0, none⟩) (i : Int) R (fun _ _ => False) w1 := by
    intro q1 q2 f
    induction f with
    | zero =>
      intro i w1 F1 hi s
      obtain rfl : i = P.gn := by omega
      refine exec_Exec_settle.step2 _ _ _ _ _ _ ?_
      unfold exec_Exec_settle.V2
      obtain ⟨fa, e, _⟩ := s.H.gl
      rw [← hm1] at s
      refine ⟨_, _, _, e, cond_false' (decide_eq_false (by omega)) ⟨_, s.X.c3, RunsQ.post (M.TabLen_spec _ _ _ _ s.X.mt) ?_⟩⟩
      rintro v w2 ⟨rfl, rfl⟩
      exact ⟨_, rfl, loop3 q1 q2 P.nEl 0 _ F1 (by omega) rfl s⟩
    | succ f ih =>
      intro i w1 F1 hi s
      refine exec_Exec_settle.step2 _ _ _ _ _ _ ?_
      unfold exec_Exec_settle.V2
      obtain ⟨fa, e, hfa⟩ := s.H.gl
      obtain ⟨fb, rfl, FR⟩ := hfa (by omega)
      have bg := (B.g i (by omega)).2.2
      have y0 := bg.y0; have y1 := bg.y1
      have sd := s.keep (Same.refl _ _ _).drew
      have c4 : w1.drew.cell? ⟨fb, 0 + i * 5 + 2 + 2, none⟩ = some (.int .u64 (P.g i).init.y) := by rw [Nat.zero_add, Nat.add_assoc]; exact FR i (by omega) 4 _ rfl
      simp only [true_and, nilV_some, add_mk, Int.toNat_natCast]
      refine ⟨_, _, _, e, cond_true' (decide_eq_true (by omega)) ⟨_, sd.X.c3, _, _, _, e, by omega, ?_⟩⟩
      simp only [nilV_some, add_mk, Int.toNat_natCast]
      refine ⟨_, c4, RunsQ.post (M.SetGlobal_spec _ _ _ _ sd.X.mt sd.X.wf _ _) ?_⟩
      rintro v w2 ⟨rfl, g1, g2⟩
      refine ⟨_, rfl, ?_⟩
      rw [nx i (by omega)]
      exact ih (i + 1) w2 F1 (by omega) (sd.store g2 g1 (M.setGlobal_wf _ sd.X.wf _ _ y0 (by omega)))
  -- the imports
  have loop1 : ∀ (f i : Nat) (w1 : World) (F1 : List Nat), i + f = nb → Stl W w w1 wd A F F1 ms (bindH h kk i) S fr L mb m P →
      exec_Exec_settle.L1 (some ⟨A.xb, 0, none⟩) (some ⟨mb, 0, none⟩) (i : Int) R (fun _ _ => False) w1 := by
    intro f
    induction f with
    | zero =>
      intro i w1 F1 hi s
      obtain rfl : i = nb := by omega
      refine exec_Exec_settle.step1 _ _ _ _ _ _ ?_
      unfold exec_Exec_settle.V1
      obtain ⟨fa, e, hfa⟩ := s.H.im
      have sd := s.keep (Same.refl _ _ _).drew
      rcases hnb with q1 | ⟨q1, q2⟩
      · have m1' := B.m1
        obtain ⟨ga, eg, _⟩ := sd.H.gl
        simp only [true_and, nilV_some]
        refine ⟨_, _, _, e, cond_false' (decide_eq_false (by omega)) ⟨_, sd.X.c3, _, sd.H.c5, _, sd.H.c6, _, sd.H.c3, _, _, _, eg, RunsQ.post (M.Reset_spec _ _ _ _ sd.X.mt _ _ _ _ (by omega)) ?_⟩⟩
        rintro v w2 ⟨rfl, g1, g2⟩
        rw [← hr0] at g1
        have s2 := sd.store g2 g1 (by rw [hr0]; exact M.reset_wf _ sd.X.wf _ _ _ _)
        refine ⟨_, rfl, ?_⟩
        rw [← hr0]
        by_cases q2 : r0.1 = 0
        · exact cond_false' (by rw [q2]; rfl) (loop2 q1 q2 P.gn 0 w2 F1 (by omega) s2)
        · refine cond_true' (by simpa using q2) (hRi _ _ ?_)
          have e2 : settleP P i ms = (0, 0, r0.1, r0.2) := by
            unfold settleP
            rw [if_neg (by omega), ← hr0, if_pos q2]
          exact ⟨by rw [e2], F1, by rw [e2]; exact s2⟩
      · obtain ⟨fb, rfl, FR⟩ := hfa (by omega)
        have c1 : w1.drew.cell? ⟨fb, 0 + i * 3 + 1, none⟩ = some (.string nNone) := by rw [Nat.zero_add, ← q2]; exact FR i (by omega) 1 _ rfl
        simp only [true_and, nilV_some, add_mk, Int.toNat_natCast]
        refine ⟨_, _, _, e, cond_true' (decide_eq_true (by omega)) ⟨_, sd.X.c4, _, _, _, e, by omega, ?_⟩⟩
        simp only [nilV_some, add_mk, Int.toNat_natCast]
        refine ⟨_, c1, RunsQ.post (Bind_none sd.X.ho (by rw [bindH_n]; omega)) ?_⟩
        rintro v w2 ⟨rfl, g2⟩
        refine ⟨_, rfl, cond_true' rfl (hRi _ _ ?_)⟩
        have e2 : settleP P i ms = ((i : Int), 0, 30, ms) := by
          unfold settleP
          rw [if_pos q1]
        exact ⟨by rw [e2], F1, by rw [e2]; exact sd.keep g2⟩
    | succ f ih =>
      intro i w1 F1 hi s
      refine exec_Exec_settle.step1 _ _ _ _ _ _ ?_
      unfold exec_Exec_settle.V1
      obtain ⟨fa, e, hfa⟩ := s.H.im
      obtain ⟨fb, rfl, FR⟩ := hfa (by omega)
      have sd := s.keep (Same.refl _ _ _).drew
      have c1 : w1.drew.cell? ⟨fb, 0 + i * 3 + 1, none⟩ = some (.string (P.im i).nm) := by rw [Nat.zero_add]; exact FR i (by omega) 1 _ rfl
      simp only [true_and, nilV_some, add_mk, Int.toNat_natCast]
      refine ⟨_, _, _, e, cond_true' (decide_eq_true (by omega)) ⟨_, sd.X.c4, _, _, _, e, by omega, ?_⟩⟩
      simp only [nilV_some, add_mk, Int.toNat_natCast]
      refine ⟨_, c1, RunsQ.post (Bind_spec sd.X.ho (by rw [bindH_n]; omega) (hk i (by omega))) ?_⟩
      rintro v w2 ⟨rfl, F2, g1, g2, g3⟩
      refine ⟨_, rfl, cond_false' rfl ?_⟩
      rw [nx i (by omega)]
      exact ih (i + 1) w2 F2 (by omega) (sd.host g2 g1 g3)
  exact loop1 nb 0 w F (by omega) s0
end
end Go.Proofs.Qxb6500317aGreat
