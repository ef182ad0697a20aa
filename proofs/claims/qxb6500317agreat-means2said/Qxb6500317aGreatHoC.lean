/-
  The host: Tape, take, Clear, New.
-/
import Derived.Test.Qxb6500317aGreatHoB
set_option linter.unusedSimpArgs false
set_option linter.unusedVariables false
set_option maxRecDepth 100000
set_option linter.unusedSectionVars false
namespace Go.Proofs.Qxb6500317aGreat
open Go Go.Vc

/-- A host function's kind, by its tag. -/
def FnTag (k : Nat) (x : TypeId × Value) : Prop := (k = 1 ∧ ∃ tb, x = (T_p_host_tapeFn, .pointer (some ⟨tb, 0, none⟩))) ∨ (k = 2 ∧ x = (T_host_zeroFn, .agg #[])) ∨ (k = 3 ∧ x = (T_host_sizeFn, .func (.func host_word.id) #[] #[]))
section
variable {w w' : World} {hb : Nat} {F : List Nat} {h : HS}
theorem FnAt.tag {k : Nat} {x : TypeId × Value} (H : FnAt w hb F k x) : FnTag k x := by
  rcases H with ⟨h1, tb, h2, _⟩ | h | h
  · exact .inl ⟨h1, tb, h2⟩
  · exact .inr (.inl h)
  · exact .inr (.inr h)
theorem kind_tag {k : Nat} {x : TypeId × Value} (H : FnTag k x) (w : World) : Runs Tryz.prog host_kind.id #[.iface x.1 x.2] w fun v w' => v = .int .i64 (k : Int) ∧ w' = w := by
  refine host_kind.enter _ _ _ _ _ ?_
  unfold host_kind.V
  rcases H with ⟨rfl, tb, rfl⟩ | ⟨rfl, rfl⟩ | ⟨rfl, rfl⟩
  · exact ⟨_, _, _, as_tape tb w, cond_true' rfl ⟨rfl, rfl⟩⟩
  · exact ⟨_, _, _, as_zero1 w, cond_false' rfl ⟨_, _, as_zero2 w, cond_true' rfl ⟨rfl, rfl⟩⟩⟩
  · exact ⟨_, _, _, as_size1 w, cond_false' rfl ⟨_, _, as_size2 w, cond_false' rfl ⟨_, _, _, as_size3 w, cond_true' rfl ⟨rfl, rfl⟩⟩⟩⟩

/-- The tape has turned. -/
theorem HoAt.turn (H : HoAt w hb F h) {tp : Nat → Int} {hd lf : Nat} (S : Same [hb] w.heap.size w w') (c : ∀ j, j = 0 ∨ j = 9 ∨ j = 10 → w'.cell? ⟨hb, j, none⟩ = w.cell? ⟨hb, j, none⟩) (f : ∀ j, w'.frozen? ⟨hb, j, none⟩ = false)
    (h1 : ∀ j, j < 6 → w'.cell? ⟨hb, 1 + j, none⟩ = some (.int .u64 (tp j))) (h2 : w'.cell? ⟨hb, 7, none⟩ = some (.int .i64 (hd : Int))) (h3 : w'.cell? ⟨hb, 8, none⟩ = some (.int .i64 (lf : Int))) (h4 : hd + lf ≤ 6) (h5 : ∀ j, 0 ≤ tp j ∧ tp j < 18446744073709551616) :
    HoAt w' hb F { { { h with tape := tp } with head := hd } with left := lf } := by
  have nF : ∀ d, d ∈ F → d ∉ [hb] := fun d hd => by simp; rintro rfl; exact H.nF hd
  obtain ⟨a, cc, fns, b1, b2, b3, b4⟩ := H.bd
  obtain ⟨ta, tc, t1, t2, t3⟩ := H.tr
  exact ⟨⟨a, cc, fns, by rw [c 0 (by simp)]; exact b1, row_same b2 S (fun k hk => ⟨(b2.lt k hk).2, nF k (b3 k hk)⟩), b3, fun j hj => (b4 j hj).same S (fun d hd => ⟨H.lF d hd, nF d hd⟩)⟩, h1, h2, h3, ⟨ta, tc, by rw [c 9 (by simp)]; exact t1, row_same t2 S (fun k hk => ⟨(t2.lt k hk).2, nF k (t3 k hk)⟩), t3⟩, by rw [c 10 (by simp)]; exact H.rw, f, H.nF, fun k hk => by have := H.lF k hk; have := S.size; omega, h4, H.n4, h5, H.rk, H.tl⟩

/-! ### take -/
def HS.took (h : HS) : HS := { { h with head := h.head + 1 } with left := h.left - 1 }
theorem htake_spec (H : HoAt w hb F h) : Runs Tryz.prog host_Host_take.id #[rp hb] w fun v w' => if h.left = 0 then v = .tuple #[.int .u64 0, .bool false] ∧ w' = w else v = .tuple #[.int .u64 (h.tape h.head), .bool true] ∧ HoAt w' hb F h.took ∧ Same [hb] w.heap.size w w' := by
  refine host_Host_take.enter _ _ _ _ ?_
  unfold host_Host_take.V
  simp only [nilV_some, Nat.zero_add, true_and]
  have le := H.le
  by_cases e : h.left = 0
  · refine ⟨_, H.lf, cond_true' (by rw [e]; rfl) ?_⟩
    simp only [if_pos e]; try exact ⟨by trivial, by trivial⟩
  · refine ⟨_, H.lf, cond_false' (by simpa using e) ?_⟩
    have tp := H.tp h.head (by omega)
    rw [Nat.add_comm] at tp
    have ewr : IntKind.wrap .i64 ((h.head : Int) + 1) = ((h.head + 1 : Nat) : Int) := by rw [wrap_i64 (by omega) (by omega)]; omega
    have ewl : IntKind.wrap .i64 ((h.left : Int) - 1) = ((h.left - 1 : Nat) : Int) := by rw [wrap_i64 (by omega) (by omega)]; omega
    simp only [add_mk, Int.toNat_natCast, Nat.mul_one]
    rw [Nat.add_comm] at tp
    refine ⟨_, H.hd, by omega, _, tp, _, H.hd, ⟨⟨_, H.hd⟩, H.fz 7⟩, letW_intro fun w1 hw1 => ?_⟩
    rw [ewr] at hw1
    have c1 : ∀ j, w1.cell? ⟨hb, j, none⟩ = if j = 7 then some (.int .i64 ((h.head + 1 : Nat) : Int)) else w.cell? ⟨hb, j, none⟩ := fun j => by
      rw [hw1, cell_setCell]
      by_cases e : j = 7
      · subst e; rw [if_pos ⟨rfl, rfl⟩, if_pos rfl]; show (w.cell? ⟨hb, 7, none⟩).map _ = _; rw [H.hd]; rfl
      · rw [if_neg (by omega), if_neg e]; rfl
    have f1 : ∀ j, w1.frozen? ⟨hb, j, none⟩ = false := fun j => by rw [hw1, World.frozen?_setCell]; exact H.fz j
    have S1 : Same [hb] w.heap.size w w1 := by rw [hw1]; exact (Same.refl [hb] w.heap.size w).drew.setCell (.inr (by simp)) _
    clear hw1
    refine ⟨_, by rw [c1, if_neg (by decide)]; exact H.lf, ⟨⟨_, by rw [c1, if_neg (by decide)]; exact H.lf⟩, f1 8⟩, letW_intro fun w2 hw2 => ?_⟩
    rw [ewl] at hw2
    have c2 : ∀ j, w2.cell? ⟨hb, j, none⟩ = if j = 8 then some (.int .i64 ((h.left - 1 : Nat) : Int)) else w1.cell? ⟨hb, j, none⟩ := fun j => by
      rw [hw2, cell_setCell]
      by_cases e : j = 8
      · subst e; rw [if_pos ⟨rfl, rfl⟩, if_pos rfl, c1, if_neg (by decide), H.lf]; rfl
      · rw [if_neg (by omega), if_neg e]
    have f2 : ∀ j, w2.frozen? ⟨hb, j, none⟩ = false := fun j => by rw [hw2, World.frozen?_setCell]; exact f1 j
    have S2 : Same [hb] w.heap.size w w2 := by rw [hw2]; exact S1.setCell (.inr (by simp)) _
    clear hw2
    simp only [if_neg e]
    refine ⟨by trivial, H.turn S2 (fun j hj => by rw [c2, if_neg (by omega), c1, if_neg (by omega)]) f2 (fun j hj => by rw [c2, if_neg (by omega), c1, if_neg (by omega)]; exact H.tp j hj) (by rw [c2, if_neg (by decide), c1, if_pos rfl]) (by rw [c2, if_pos rfl]) (by omega) H.tw, S2⟩

/-! ### Tape -/
def HS.taped (h : HS) (s : ByteArray) (i : Nat) : HS := { { { h with tape := fun j => if j < i then word s j else h.tape j } with head := 0 } with left := s.size / 8 }
theorem word_bd (s : ByteArray) (i : Nat) : 0 ≤ word s i ∧ word s i < 18446744073709551616 := by
  unfold word
  split
  · have : ∀ (f : Nat) (v : Int), (0 ≤ v ∧ v < 18446744073709551616) → 0 ≤ wordFrom s (8 * i) f v ∧ wordFrom s (8 * i) f v < 18446744073709551616 := by
      intro f
      induction f with
      | zero => intro v hv; exact hv
      | succ f ih =>
        intro v hv
        refine ih _ ?_
        show 0 ≤ IntKind.wrap .u64 _ ∧ IntKind.wrap .u64 _ < _
        rw [wrap_u64_mod]; omega
    exact this 8 0 (by omega)
  · omega
theorem hTape_spec (H : HoAt w hb F h) (s : ByteArray) (hs : s.size ≤ 9223372036854775807) : Runs Tryz.prog host_Host_Tape.id #[rp hb, .string s] w fun v w' =>
    if 48 < s.size then v = .int .i64 1 ∧ w' = w else if s.size % 8 ≠ 0 then v = .int .i64 34 ∧ w' = w else v = .int .i64 0 ∧ HoAt w' hb F (h.taped s (s.size / 8)) ∧ Same [hb] w.heap.size w w' := by
  refine host_Host_Tape.enter _ _ _ _ _ ?_
  unfold host_Host_Tape.V
  by_cases e1 : 48 < s.size
  · refine cond_true' (decide_eq_true (by omega)) ?_
    simp only [if_pos e1]; try exact ⟨by trivial, by trivial⟩
  refine cond_false' (decide_eq_false (by omega)) ?_
  have et : Int.tmod ((s.size : Nat) : Int) 8 = ((s.size % 8 : Nat) : Int) := rfl
  rw [et]
  by_cases e2 : s.size % 8 ≠ 0
  · refine cond_true' (by simp; omega) ?_
    simp only [if_neg e1, if_pos e2]; try exact ⟨by trivial, by trivial⟩
  refine cond_false' (by simp; omega) ?_
  simp only [nilV_some, Nat.zero_add]
  have ed : IntKind.wrap .i64 (Int.tdiv ((s.size : Nat) : Int) 8) = ((s.size / 8 : Nat) : Int) := by
    have : Int.tdiv ((s.size : Nat) : Int) 8 = ((s.size / 8 : Nat) : Int) := rfl
    rw [this, wrap_i64 (by omega) (by omega)]
  rw [ed]
  refine ⟨⟨⟨_, H.hd⟩, H.fz 7⟩, letW_intro fun w1 hw1 => ?_⟩
  have c1 : ∀ j, w1.cell? ⟨hb, j, none⟩ = if j = 7 then some (.int .i64 0) else w.cell? ⟨hb, j, none⟩ := fun j => by
    rw [hw1, cell_setCell]
    by_cases e : j = 7
    · subst e; rw [if_pos ⟨rfl, rfl⟩, if_pos rfl, H.hd]; rfl
    · rw [if_neg (by omega), if_neg e]
  have f1 : ∀ j, w1.frozen? ⟨hb, j, none⟩ = false := fun j => by rw [hw1, World.frozen?_setCell]; exact H.fz j
  have S1 : Same [hb] w.heap.size w w1 := by rw [hw1]; exact same_set _ _
  clear hw1
  refine ⟨⟨⟨_, by rw [c1, if_neg (by decide)]; exact H.lf⟩, f1 8⟩, letW_intro fun w2 hw2 => ?_⟩
  have c2 : ∀ j, w2.cell? ⟨hb, j, none⟩ = if j = 8 then some (.int .i64 ((s.size / 8 : Nat) : Int)) else w1.cell? ⟨hb, j, none⟩ := fun j => by
    rw [hw2, cell_setCell]
    by_cases e : j = 8
    · subst e; rw [if_pos ⟨rfl, rfl⟩, if_pos rfl, c1, if_neg (by decide), H.lf]; rfl
    · rw [if_neg (by omega), if_neg e]
  have f2 : ∀ j, w2.frozen? ⟨hb, j, none⟩ = false := fun j => by rw [hw2, World.frozen?_setCell]; exact f1 j
  have S2 : Same [hb] w.heap.size w w2 := by rw [hw2]; exact S1.setCell (.inr (by simp)) _
  clear hw2
  have H2 : HoAt w2 hb F (h.taped s 0) := H.turn S2 (fun j hj => by rw [c2, if_neg (by omega), c1, if_neg (by omega)]) f2 (fun j hj => by rw [c2, if_neg (by omega), c1, if_neg (by omega), if_neg (by omega)]; exact H.tp j hj) (by rw [c2, if_neg (by decide), c1, if_pos rfl]; rfl) (by rw [c2, if_pos rfl]) (by omega) (fun j => by rw [if_neg (by omega)]; exact H.tw j)
  simp only [if_neg e1, if_neg e2]
  have loop : ∀ (f i : Nat) (w3 : World), i + f = s.size / 8 → HoAt w3 hb F (h.taped s i) → Same [hb] w.heap.size w w3 → host_Host_Tape.L1 (some ⟨hb, 0, none⟩) s (i : Int) (fun v w' => v = .int .i64 0 ∧ HoAt w' hb F (h.taped s (s.size / 8)) ∧ Same [hb] w.heap.size w w') (fun _ _ => False) w3 := by
    intro f
    induction f with
    | zero =>
      intro i w3 hi H3 S3
      obtain rfl : i = s.size / 8 := by omega
      refine host_Host_Tape.step1 _ _ _ _ _ _ ?_
      unfold host_Host_Tape.V1
      simp only [nilV_some, Nat.zero_add]
      exact ⟨_, H3.lf, cond_false' (decide_eq_false (by show ¬ ((_ : Int) < ((s.size / 8 : Nat) : Int)); omega)) ⟨by trivial, H3, S3⟩⟩
    | succ f ih =>
      intro i w3 hi H3 S3
      refine host_Host_Tape.step1 _ _ _ _ _ _ ?_
      unfold host_Host_Tape.V1
      simp only [nilV_some, Nat.zero_add, and_true]
      refine ⟨_, H3.lf, cond_true' (decide_eq_true (by show ((i : Int) < ((s.size / 8 : Nat) : Int)); omega)) (RunsQ.post (Word_spec s i w3.drew hs (by omega)) ?_)⟩
      rintro v w4 ⟨rfl, rfl⟩
      have H4 : HoAt w3.drew hb F (h.taped s i) := H3.keep (Same.refl [] w3.heap.size w3).drew
      simp only [add_mk, Int.toNat_natCast, Nat.mul_one]
      refine ⟨_, rfl, by omega, ⟨⟨_, H4.tp i (by omega)⟩, H4.fz _⟩, letW_intro fun w5 hw5 => ?_⟩
      rw [wrap_i64 (by omega) (by omega), show (i : Int) + 1 = ((i + 1 : Nat) : Int) by omega]
      have c5 : ∀ j, w5.cell? ⟨hb, j, none⟩ = if j = 1 + i then some (.int .u64 (word s i)) else w3.drew.cell? ⟨hb, j, none⟩ := fun j => by
        rw [hw5, cell_setCell]
        by_cases e : j = 1 + i
        · subst e; rw [if_pos ⟨rfl, rfl⟩, if_pos rfl, H4.tp i (by omega)]; rfl
        · rw [if_neg (by omega), if_neg e]
      have f5 : ∀ j, w5.frozen? ⟨hb, j, none⟩ = false := fun j => by rw [hw5, World.frozen?_setCell]; exact H4.fz j
      have S5 : Same [hb] w3.drew.heap.size w3.drew w5 := by rw [hw5]; exact same_set _ _
      clear hw5
      have H5 : HoAt w5 hb F (h.taped s (i + 1)) := H4.turn S5 (fun j hj => by rw [c5, if_neg (by omega)]) f5 (fun j hj => ?_) (by rw [c5, if_neg (by omega)]; exact H4.hd) (by rw [c5, if_neg (by omega)]; exact H4.lf) (by omega) (fun j => by split; exact word_bd s j; exact H.tw j)
      · exact ih (i + 1) w5 (by omega) H5 (S3.drew.trans (S5.mono S3.size (fun k hk _ => hk)))
      · rw [c5]
        by_cases e : j = i
        · subst e; rw [if_pos rfl, if_pos (by omega)]
        · rw [if_neg (by omega), H4.tp j hj]
          show some (Value.int .u64 (if j < i then word s j else h.tape j)) = some (Value.int .u64 (if j < i + 1 then word s j else h.tape j))
          by_cases e2 : j < i
          · rw [if_pos e2, if_pos (by omega)]
          · rw [if_neg e2, if_neg (by omega)]
  exact loop (s.size / 8) 0 w2 (by omega) H2 S2

/-! ### Clear -/
def HS.cleared (h : HS) : HS := { { { h with n := 0 } with tr := [] } with rows := 0 }
theorem assert_ptr (tb : Nat) (w : World) : Sem.run Tryz.prog (Instr.typeAssert (.iface T_p_host_tapeFn (.pointer (some ⟨tb, 0, none⟩))) T_host_Fn T_p_host_tapeFn false) w = .ok (.pointer (some ⟨tb, 0, none⟩)) w := by kernel_rfl
theorem Clear_spec (H : HoAt w hb F h) : Runs Tryz.prog host_Host_Clear.id #[rp hb] w fun v w' => v = .tuple #[] ∧ HoAt w' hb F h.cleared ∧ Same (hb :: F) w.heap.size w w' := by
  obtain ⟨a, cc, fns, b1, b2, b3, b4⟩ := H.bd
  have ow : ∀ (n m : Nat), (Value.slice a n cc).ownBlock = (Value.slice a m cc).ownBlock := fun n m => by cases a <;> rfl
  obtain ⟨ta, tc, t1, t2, t3⟩ := H.tr
  have lh := H.lt
  have n4 := H.n4
  refine host_Host_Clear.enter _ _ _ _ ?_
  unfold host_Host_Clear.V
  simp only [nilV_some]
  refine ⟨_, _, _, b1, ?_⟩
  -- the blocks of tape functions
  have TB : ∀ k, (k ∈ F ∧ ∃ cs q, w.heap[k]? = some (.cells cs T_host_tapeFn q)) → k ≠ hb ∧ k ∉ obk (.slice a h.n cc) ∧ k ∉ obk (.slice ta h.tr.length tc) := by
    rintro k ⟨hk, cs, q, he⟩
    refine ⟨fun e => H.nF (e ▸ hk), fun m => ?_, fun m => ?_⟩
    · obtain ⟨cu, q2⟩ := row_heap b2 (mem_obk.1 m)
      rw [he] at q2; injection q2 with q2; injection q2 with q3 q4 q5; exact absurd q4 (by decide)
    · obtain ⟨cu, q2⟩ := row_heap t2 (mem_obk.1 m)
      rw [he] at q2; injection q2 with q2; injection q2 with q3 q4 q5; exact absurd q4 (by decide)
  have loop : ∀ (f i : Nat) (w1 : World) (S : List Nat), i + f = h.n → Same S w.heap.size w w1 → (∀ k, k ∈ S → k ∈ F ∧ ∃ cs q, w.heap[k]? = some (.cells cs T_host_tapeFn q)) → (∀ tb, can w ⟨tb, 0, none⟩ → can w1 ⟨tb, 0, none⟩) →
      host_Host_Clear.L1 (some ⟨hb, 0, none⟩) a h.n cc ((h.n : Nat) : Int) (i : Int) (fun v w' => v = .tuple #[] ∧ HoAt w' hb F h.cleared ∧ Same (hb :: F) w.heap.size w w') (fun _ _ => False) w1 := by
    intro f
    induction f with
    | zero =>
      intro i w1 S hi S1 hS hc
      obtain rfl : i = h.n := by omega
      refine host_Host_Clear.step1 _ _ _ _ _ _ _ _ _ ?_
      unfold host_Host_Clear.V1
      have nS : hb ∉ S := fun q => (TB hb (hS hb q)).1 rfl
      have cS : ∀ j, w1.cell? ⟨hb, j, none⟩ = w.cell? ⟨hb, j, none⟩ := fun j => S1.cell (p := ⟨hb, j, none⟩) lh nS
      have fS : ∀ j, w1.frozen? ⟨hb, j, none⟩ = false := fun j => by rw [S1.frozen (p := ⟨hb, j, none⟩) lh nS]; exact H.fz j
      refine cond_false' (decide_eq_false (by omega)) ?_
      simp only [nilV_some]
      refine ⟨_, _, _, by rw [cS]; exact b1, by omega, ⟨⟨_, by rw [cS]; exact b1⟩, fS 0⟩, letW_intro fun w2 hw2 => ?_⟩
      rw [row_addr b2] at hw2
      have S2 : Same [hb] w1.heap.size w1 w2 := by rw [hw2]; exact same_set _ _
      have c2 : ∀ j, w2.cell? ⟨hb, j, none⟩ = if j = 0 then some (.slice a 0 cc) else w.cell? ⟨hb, j, none⟩ := fun j => by
        rw [hw2, cell_setCell]
        by_cases e : j = 0
        · subst e; rw [if_pos ⟨rfl, rfl⟩, if_pos rfl, cS, b1]; rfl
        · rw [if_neg (by omega), if_neg e, cS]
      have f2 : ∀ j, w2.frozen? ⟨hb, j, none⟩ = false := fun j => by rw [hw2, World.frozen?_setCell]; exact fS j
      clear hw2
      have z1 := S1.size; have z2 := S2.size
      have T2 : Same (hb :: S) w.heap.size w w2 := (S1.mono (Nat.le_refl _) (fun k hk _ => List.mem_cons_of_mem _ hk)).trans (S2.mono z1 (fun k hk _ => by simp at hk; subst hk; simp))
      have rn : ∀ k, k ∈ hb :: S → k ∉ obk (.slice a h.n cc) ∧ k ∉ obk (.slice ta h.tr.length tc) := fun k hk => by
        simp only [List.mem_cons] at hk
        rcases hk with rfl | hk
        · exact ⟨fun q => H.nF (b3 _ (mem_obk.1 q)), fun q => H.nF (t3 _ (mem_obk.1 q))⟩
        · exact (TB k (hS k hk)).2
      have H2 : HoAt w2 hb F { h with n := 0 } := ⟨⟨a, cc, fns, by rw [c2, if_pos rfl], row_same (row_cut b2) T2 (fun k hk => ⟨(b2.lt k ((ow _ _).trans hk)).2, fun q => (rn k q).1 (mem_obk.2 ((ow _ _).trans hk))⟩), fun d hd => b3 d ((ow _ _).trans hd), fun j hj => absurd hj (Nat.not_lt_zero _)⟩, fun j hj => by rw [c2, if_neg (by omega)]; exact H.tp j hj, by rw [c2, if_neg (by decide)]; exact H.hd, by rw [c2, if_neg (by decide)]; exact H.lf, ⟨ta, tc, by rw [c2, if_neg (by decide)]; exact t1, row_same t2 T2 (fun k hk => ⟨(t2.lt k hk).2, fun q => (rn k q).2 (mem_obk.2 hk)⟩), t3⟩, by rw [c2, if_neg (by decide)]; exact H.rw, f2, H.nF, fun k hk => by have := H.lF k hk; omega, H.le, Nat.zero_le _, H.tw, H.rk, H.tl⟩
      refine RunsQ.post (Fresh_spec H2) ?_
      rintro v w3 ⟨rfl, H3, S3⟩
      refine ⟨rfl, by trivial, H3, ?_⟩
      refine (T2.mono (Nat.le_refl _) (fun k hk _ => ?_)).trans (S3.mono T2.size (fun k hk _ => by simp at hk; subst hk; simp))
      simp only [List.mem_cons] at hk ⊢
      rcases hk with rfl | hk
      · exact .inl rfl
      · exact .inr (hS k hk).1
    | succ f ih =>
      intro i w1 S hi S1 hS hc
      refine host_Host_Clear.step1 _ _ _ _ _ _ _ _ _ ?_
      unfold host_Host_Clear.V1
      have hj := b4 i (by omega)
      have tg := hj.tag
      obtain ⟨b, rfl, _, lb, row⟩ := row_at (sz := 1) (fun _ => rfl) b2 (show i < h.n by omega)
      have nbS : b ∉ S := fun q => (TB b (hS b q)).2.1 (mem_obk.2 rfl)
      have cr := row 0 _ (show (fnC (fns i))[0]? = some (.iface (fns i).1 (fns i).2) from rfl)
      have cr1 : w1.cell? ⟨b, i * 1 + 0, none⟩ = some (.iface (fns i).1 (fns i).2) := by rw [S1.cell (p := ⟨b, i * 1 + 0, none⟩) lb nbS]; exact cr
      simp only [nilV_some, add_mk, Nat.zero_add, Int.toNat_natCast]
      refine cond_true' (decide_eq_true (by omega)) ⟨by omega, _, _, cr1, RunsQ.post (kind_tag tg w1) ?_⟩
      rintro v w1 ⟨rfl, rfl⟩
      have L2 : ∀ (w2 : World) (S' : List Nat), Same S' w.heap.size w w2 → (∀ k, k ∈ S' → k ∈ F ∧ ∃ cs q, w.heap[k]? = some (.cells cs T_host_tapeFn q)) → (∀ tb, can w ⟨tb, 0, none⟩ → can w2 ⟨tb, 0, none⟩) → host_Host_Clear.L2 (some ⟨hb, 0, none⟩) (some ⟨b, 0, none⟩) h.n cc ((h.n : Nat) : Int) (i : Int) (fun v w' => v = .tuple #[] ∧ HoAt w' hb F h.cleared ∧ Same (hb :: F) w.heap.size w w') (fun _ _ => False) w2 := fun w2 S' s1 s2 s3 => by
        refine host_Host_Clear.step2 _ _ _ _ _ _ _ _ _ ?_
        unfold host_Host_Clear.V2
        rw [wrap_i64 (by omega) (by omega), show (i : Int) + 1 = ((i + 1 : Nat) : Int) by omega]
        exact ih (i + 1) w2 S' (by omega) s1 s2 s3
      refine ⟨_, rfl, ?_⟩
      rcases hj with ⟨e1, tb, e2, e3, e4⟩ | ⟨e1, e2⟩ | ⟨e1, e2⟩
      · rw [e1, e2]
        refine cond_true' rfl ⟨_, _, assert_ptr tb w1, ?_⟩
        simp only [nilV_some]
        have cw : can w ⟨tb, 0, none⟩ := ⟨⟨.func (.func host_Host_take.id) #[.pointer (some ⟨hb, 0, none⟩)] #[], by simp [World.cell?, e4]⟩, by simp [World.frozen?, e4]⟩
        have cw1 := hc tb cw
        refine ⟨cw1, letW_intro fun w2 hw2 => L2 w2 (tb :: S) ?_ ?_ ?_⟩
        · rw [hw2]; exact (S1.mono (Nat.le_refl _) (fun k hk _ => List.mem_cons_of_mem _ hk)).setCell (.inr (by simp)) _
        · intro k hk
          simp only [List.mem_cons] at hk
          rcases hk with rfl | hk
          · exact ⟨e3, _, _, e4⟩
          · exact hS k hk
        · intro t ht
          obtain ⟨⟨u, hu⟩, hf⟩ := hc t ht
          refine ⟨?_, by rw [hw2, World.frozen?_setCell]; exact hf⟩
          rw [hw2, cell_setCell]
          by_cases e : t = tb ∧ 0 = 0
          · rw [if_pos e, hu]; exact ⟨_, rfl⟩
          · rw [if_neg e]; exact ⟨_, hu⟩
      · rw [e1]
        exact cond_false' rfl (L2 w1 S S1 hS hc)
      · rw [e1]
        exact cond_false' rfl (L2 w1 S S1 hS hc)
  exact loop h.n 0 w [] (by omega) (Same.refl _ _ _) (by simp) (fun _ hc => hc)
end
end Go.Proofs.Qxb6500317aGreat
