/-
  Package memm, third part: Grow, Reset, New.
-/
import Derived.Test.Qxb6500319aRefB
set_option linter.unusedSimpArgs false
set_option linter.unusedVariables false
set_option maxRecDepth 100000
namespace Go.Proofs.Qxb6500319a
open Go Go.Vc

theorem MM.congr {w : World} {p : Nat} {K : List Nat} {s s' : MS} (h : MM w p K s) (e1 : s'.has = s.has) (e2 : s'.n = s.n) (e3 : s'.cap = s.cap) (e4 : ∀ j, j < s.n → s'.back j = s.back j) (e5 : s'.tl = s.tl) (e6 : ∀ j, j < s.tl → s'.tab j = s.tab j) (e7 : s'.ng = s.ng) (e8 : ∀ j, j < s.ng → s'.glob j = s.glob j) : MM w p K s' := by
  obtain ⟨m, t, g, h⟩ := h
  have q1 : memRow s' = memRow s := by unfold memRow; rw [e2]; apply List.map_congr_left; intro j hj; rw [e4 j (by simpa using hj)]
  have q2 : tabRow s' = tabRow s := by unfold tabRow; rw [e5]; apply List.map_congr_left; intro j hj; rw [e6 j (by simpa using hj)]
  have q3 : globRow s' = globRow s := by unfold globRow; rw [e7]; apply List.map_congr_left; intro j hj; rw [e8 j (by simpa using hj)]
  exact ⟨m, t, g, by rw [e1, e3]; exact h.blk, by rw [q1, e2]; exact h.M, by rw [q2, e5]; exact h.T, by rw [q3, e7]; exact h.G, h.kM, h.kT, h.kG⟩

/-- The memory's row after one more byte. -/
theorem MMAt.push {w : World} {p : Nat} {K : List Nat} {s : MS} {t g : Value} {a : Option Addr} {c : Nat} (h : MMAt w p K s (.slice a s.n c) t g) (hn : s.n < 1000) (x : Int) :
    ∃ (a' : Option Addr) (c' : Nat) (w1 : World), (Builtin.append_ #[T_sl_uint8, T_sl_uint8] T_sl_uint8 #[.slice a s.n c, .slice (some ⟨w.heap.size, 0, none⟩) 1 1]).run Try.prog (w.alloc (.cells #[.int .u8 x] T_uint8)) = .ok (.slice a' (s.n + 1) c') w1 ∧
      Vc.can w1 ⟨p, 1, none⟩ ∧ ∃ K', MMAt (w1.setCell ⟨p, 1, none⟩ (.slice a' (s.n + 1) c')) p K' { s with n := s.n + 1, back := upd s.back s.n x } (.slice a' (s.n + 1) c') t g ∧ Same (p :: K) w.heap.size w (w1.setCell ⟨p, 1, none⟩ (.slice a' (s.n + 1) c')) ∧ ∀ k, k ∈ K' → k ∈ K ∨ w.heap.size ≤ k := by
  obtain ⟨q1, q2, q3, q4, q5, q6⟩ := ne_types
  obtain ⟨a', c', w1, hr, ho, hS, hf⟩ := own_append T_sl_uint8.el T_sl_uint8 w a s.n c _ h.M (.int .u8 x) rfl hn (by decide)
  have hb1 : w1.heap[p]? = some (.cells #[.bool s.has, .slice a s.n c, .int .i64 ((s.cap / 64 : Nat) : Int), t, g] T_memm_Store (0, 0)) := by
    rw [hS.block p h.plt (fun hx => own_ne_block h.M h.blk q4 (mem_ob.1 hx))]; exact h.blk
  have hT1 : w1.ownsRow 0 T_int 1 t s.tl (tabRow s) := own_same h.T hS (fun k hk => ⟨own_lt h.T hk, fun hx => own_ne h.M h.T q1 (mem_ob.1 hx) hk⟩)
  have hG1 : w1.ownsRow 0 T_uint64 1 g s.ng (globRow s) := own_same h.G hS (fun k hk => ⟨own_lt h.G hk, fun hx => own_ne h.M h.G q2 (mem_ob.1 hx) hk⟩)
  have hrow : (List.range (s.n + 1)).map (fun j => if j = s.n then Value.int .u8 x else .int .u8 (s.back j)) = memRow { s with n := s.n + 1, back := upd s.back s.n x } := by
    unfold memRow upd
    apply List.map_congr_left; intro i _
    by_cases hi : i = s.n
    · simp [hi]
    · simp [hi]
  rw [hrow] at ho
  refine ⟨a', c', w1, hr, ?_, K ++ ob (.slice a' (s.n + 1) c'), ?_, ?_, ?_⟩
  · refine ⟨⟨.slice a s.n c, ?_⟩, by simp [World.frozen?, hb1]⟩
    rw [cell_of_row w1 p 1 _ _ (0, 0) hb1]; rfl
  · have hM' := ownsRow_setCell_other (a := ⟨p, 1, none⟩) ho (own_ne_block ho hb1 q4) (.slice a' (s.n + 1) c')
    have hT' := ownsRow_setCell_other (a := ⟨p, 1, none⟩) hT1 (own_ne_block hT1 hb1 q5) (.slice a' (s.n + 1) c')
    have hG' := ownsRow_setCell_other (a := ⟨p, 1, none⟩) hG1 (own_ne_block hG1 hb1 q6) (.slice a' (s.n + 1) c')
    have hB' := heap_setCell_same w1 p 1 _ _ (.slice a' (s.n + 1) c') hb1
    exact ⟨hB', hM', hT', hG', fun k hk => List.mem_append_right _ (mem_ob.2 hk), fun k hk => List.mem_append_left _ (h.kT k hk), fun k hk => List.mem_append_left _ (h.kG k hk)⟩
  · refine (hS.mono (Nat.le_refl _) (fun k hk _ => List.mem_cons_of_mem _ (h.kM k (mem_ob.1 hk)))).setCell (.inr (by simp)) _
  · intro k hk
    rcases List.mem_append.1 hk with hk | hk
    · exact .inl hk
    · rcases hf k (mem_ob.1 hk) with hx | hx
      · exact .inl (h.kM k hx)
      · exact .inr hx

/-- The table's row after one more cell. -/
theorem MMAt.pusht {w : World} {p : Nat} {K : List Nat} {s : MS} {m g : Value} {a : Option Addr} {c : Nat} (h : MMAt w p K s m (.slice a s.tl c) g) (hn : s.tl < 1000) (x : Int) :
    ∃ (a' : Option Addr) (c' : Nat) (w1 : World), (Builtin.append_ #[T_sl_int, T_sl_int] T_sl_int #[.slice a s.tl c, .slice (some ⟨w.heap.size, 0, none⟩) 1 1]).run Try.prog (w.alloc (.cells #[.int .i64 x] T_int)) = .ok (.slice a' (s.tl + 1) c') w1 ∧
      Vc.can w1 ⟨p, 3, none⟩ ∧ ∃ K', MMAt (w1.setCell ⟨p, 3, none⟩ (.slice a' (s.tl + 1) c')) p K' { s with tl := s.tl + 1, tab := upd s.tab s.tl x } m (.slice a' (s.tl + 1) c') g ∧ Same (p :: K) w.heap.size w (w1.setCell ⟨p, 3, none⟩ (.slice a' (s.tl + 1) c')) ∧ ∀ k, k ∈ K' → k ∈ K ∨ w.heap.size ≤ k := by
  obtain ⟨q1, q2, q3, q4, q5, q6⟩ := ne_types
  obtain ⟨a', c', w1, hr, ho, hS, hf⟩ := own_append T_sl_int.el T_sl_int w a s.tl c _ h.T (.int .i64 x) rfl hn (by decide)
  have hb1 : w1.heap[p]? = some (.cells #[.bool s.has, m, .int .i64 ((s.cap / 64 : Nat) : Int), .slice a s.tl c, g] T_memm_Store (0, 0)) := by
    rw [hS.block p h.plt (fun hx => own_ne_block h.T h.blk q5 (mem_ob.1 hx))]; exact h.blk
  have hM1 : w1.ownsRow 0 T_uint8 1 m s.n (memRow s) := own_same h.M hS (fun k hk => ⟨own_lt h.M hk, fun hx => own_ne h.T h.M (Ne.symm q1) (mem_ob.1 hx) hk⟩)
  have hG1 : w1.ownsRow 0 T_uint64 1 g s.ng (globRow s) := own_same h.G hS (fun k hk => ⟨own_lt h.G hk, fun hx => own_ne h.T h.G q3 (mem_ob.1 hx) hk⟩)
  have hrow : (List.range (s.tl + 1)).map (fun j => if j = s.tl then Value.int .i64 x else .int .i64 (s.tab j)) = tabRow { s with tl := s.tl + 1, tab := upd s.tab s.tl x } := by
    unfold tabRow upd
    apply List.map_congr_left; intro i _
    by_cases hi : i = s.tl
    · simp [hi]
    · simp [hi]
  rw [hrow] at ho
  refine ⟨a', c', w1, hr, ?_, K ++ ob (.slice a' (s.tl + 1) c'), ?_, ?_, ?_⟩
  · refine ⟨⟨.slice a s.tl c, ?_⟩, by simp [World.frozen?, hb1]⟩
    rw [cell_of_row w1 p 3 _ _ (0, 0) hb1]; rfl
  · have hT' := ownsRow_setCell_other (a := ⟨p, 3, none⟩) ho (own_ne_block ho hb1 q5) (.slice a' (s.tl + 1) c')
    have hM' := ownsRow_setCell_other (a := ⟨p, 3, none⟩) hM1 (own_ne_block hM1 hb1 q4) (.slice a' (s.tl + 1) c')
    have hG' := ownsRow_setCell_other (a := ⟨p, 3, none⟩) hG1 (own_ne_block hG1 hb1 q6) (.slice a' (s.tl + 1) c')
    have hB' := heap_setCell_same w1 p 3 _ _ (.slice a' (s.tl + 1) c') hb1
    exact ⟨hB', hM', hT', hG', fun k hk => List.mem_append_left _ (h.kM k hk), fun k hk => List.mem_append_right _ (mem_ob.2 hk), fun k hk => List.mem_append_left _ (h.kG k hk)⟩
  · refine (hS.mono (Nat.le_refl _) (fun k hk _ => List.mem_cons_of_mem _ (h.kT k (mem_ob.1 hk)))).setCell (.inr (by simp)) _
  · intro k hk
    rcases List.mem_append.1 hk with hk | hk
    · exact .inl hk
    · rcases hf k (mem_ob.1 hk) with hx | hx
      · exact .inl (h.kT k hx)
      · exact .inr hx

theorem MMOut.trans {w w1 w2 : World} {p : Nat} {K K1 : List Nat} {s2 : MS} (hS : Same (p :: K) w.heap.size w w1) (hK : ∀ k, k ∈ K1 → k ∈ K ∨ w.heap.size ≤ k) (h : MMOut w1 p K1 s2 w2) : MMOut w p K s2 w2 := by
  obtain ⟨K2, h2, hS2, hK2⟩ := h
  refine ⟨K2, h2, hS.trans (hS2.mono hS.size (fun k hk hlt => ?_)), fun k hk => ?_⟩
  · rcases List.mem_cons.1 hk with rfl | hk
    · simp
    · rcases hK k hk with hx | hx
      · exact List.mem_cons_of_mem _ hx
      · omega
  · rcases hK2 k hk with hx | hx
    · exact hK k hx
    · exact .inr (Nat.le_trans hS.size hx)

theorem MMOut.congr {w w' : World} {p : Nat} {K : List Nat} {s s' : MS} (h : MMOut w p K s w') (e1 : s'.has = s.has) (e2 : s'.n = s.n) (e3 : s'.cap = s.cap) (e4 : ∀ j, j < s.n → s'.back j = s.back j) (e5 : s'.tl = s.tl) (e6 : ∀ j, j < s.tl → s'.tab j = s.tab j) (e7 : s'.ng = s.ng) (e8 : ∀ j, j < s.ng → s'.glob j = s.glob j) : MMOut w p K s' w' := by
  obtain ⟨K', h1, h2, h3⟩ := h
  exact ⟨K', h1.congr e1 e2 e3 e4 e5 e6 e7 e8, h2, h3⟩

/-! ### Grow -/
theorem MGrow_loop (p : Nat) (D : Nat) (d : Nat) (hd : d * 64 = D) (hD : D ≤ 384) (old : Int) :
    ∀ (f k : Nat) (K : List Nat) (s : MS) (w : World) (R : Value → World → Prop), k + f = D → s.n + f ≤ 384 → MM w p K s →
      (∀ w', MMOut w p K { s with n := s.n + f, back := fun j => if s.n ≤ j then 0 else s.back j } w' → R (.int .u32 (IntKind.wrap .u32 old)) w') → memm_Store_Grow.L2 (some ⟨p, 0, none⟩) d old k R w := by
  intro f
  induction f with
  | zero =>
    intro k K s w R hk hn h hR
    refine memm_Store_Grow.step2 _ _ _ _ _ _ ?_
    unfold memm_Store_Grow.V2
    rw [wrap_i64 (x := (d : Int)) (by omega) (by omega), wrap_i64 (x := (d : Int) * 64) (by omega) (by omega)]
    refine cond_false' (by simp; omega) (hR w ?_)
    exact (MMOut.refl h).congr rfl rfl rfl (fun j hj => by show (if s.n ≤ j then 0 else s.back j) = s.back j; rw [if_neg (by omega)]) rfl (fun _ _ => rfl) rfl (fun _ _ => rfl)
  | succ f ih =>
    intro k K s w R hk hn h hR
    refine memm_Store_Grow.step2 _ _ _ _ _ _ ?_
    unfold memm_Store_Grow.V2
    have e : IntKind.wrap .i64 ((k : Int) + 1) = ((k + 1 : Nat) : Int) := by rw [wrap_i64 (by omega) (by omega)]; omega
    rw [wrap_i64 (x := (d : Int)) (by omega) (by omega), wrap_i64 (x := (d : Int) * 64) (by omega) (by omega), e]
    refine cond_true' (by simp; omega) ?_
    obtain ⟨m, t, g, h⟩ := h
    obtain ⟨a, c, rfl, _⟩ := own_form h.M
    simp only [nilV_some, Nat.zero_add]
    obtain ⟨a', c', w7, hr, hcan, K', h', hS', hK'⟩ := h.push (by omega) 0
    refine ⟨_, _, _, h.c1, letB_intro (fun b5 hb5 => letW_intro (fun w6 hw6 => ?_))⟩
    rw [hb5, hw6]
    refine ⟨_, _, _, _, hr, hcan, letW_intro (fun w12 hw12 => ?_)⟩
    rw [← hw12] at h' hS'
    refine ih (k + 1) K' { s with n := s.n + 1, back := upd s.back s.n 0 } w12 R (by omega) (by show s.n + 1 + f ≤ 384; omega) ⟨_, _, _, h'⟩ (fun w' h1 => hR w' ?_)
    refine (MMOut.trans hS' hK' h1).congr rfl (by show s.n + (f + 1) = s.n + 1 + f; omega) rfl (fun j hj => ?_) rfl (fun _ _ => rfl) rfl (fun _ _ => rfl)
    show (if s.n ≤ j then 0 else s.back j) = (if s.n + 1 ≤ j then 0 else upd s.back s.n 0 j)
    unfold upd
    by_cases h1 : s.n + 1 ≤ j
    · rw [if_pos (by omega), if_pos h1]
    · rw [if_neg h1]
      by_cases h2 : j = s.n
      · rw [if_pos (by omega), if_pos h2]
      · rw [if_neg (by omega), if_neg h2]

theorem MGrow_spec (w : World) (p : Nat) (K : List Nat) (s : MS) (h : MM w p K s) (hw : s.Wf) (d : Int) (h0 : 0 ≤ d) (h1 : d < 4294967296) :
    Runs Try.prog memm_Store_Grow.id #[.pointer (some ⟨p, 0, none⟩), .int .u32 d] w fun r w' => r = .int .u32 (s.grow d).1 ∧ MMOut w p K (s.grow d).2 w' := by
  have := hw.ncap; have := hw.cap384; have hn64 := hw.n64; have hc64 := hw.cap64
  have hM := h
  obtain ⟨m, t, g, h⟩ := h
  obtain ⟨a, c, rfl, _⟩ := own_form h.M
  obtain ⟨k, rfl⟩ := Int.eq_ofNat_of_zero_le h0
  refine memm_Store_Grow.enter _ _ _ _ ?_
  unfold memm_Store_Grow.V
  simp only [nilV_some, Nat.zero_add]
  have e6 : ((Int.tdiv ((s.n : Nat) : Int) 64)) = ((s.n / 64 : Nat) : Int) := rfl
  refine ⟨_, _, _, h.c1, _, h.c0, ?_⟩
  refine cond_intro (fun hc => ?_) (fun hc => ⟨_, h.c2, ?_⟩)
  · have hh : ¬ (s.has = true ∧ (s.n : Int) + (k : Int) * 64 ≤ s.cap) := by intro hx; simp [hx.1] at hc
    have e : s.grow k = (4294967295, s) := by unfold MS.grow; rw [if_neg hh]
    rw [e]; exact ⟨rfl, .refl hM⟩
  · have hh : s.has = true := by simpa using hc
    rw [e6, wrap_i64 (x := ((s.n / 64 : Nat) : Int)) (by omega) (by omega), wrap_u64 (x := ((s.n / 64 : Nat) : Int)) (by omega) (by omega), wrap_u64 (x := (k : Int)) (by omega) (by omega), wrap_u64 (x := ((s.n / 64 : Nat) : Int) + (k : Int)) (by omega) (by omega), wrap_u64 (x := ((s.cap / 64 : Nat) : Int)) (by omega) (by omega)]
    refine cond_intro (fun hc => ?_) (fun hc => ?_)
    · have hn : ¬ (s.has = true ∧ (s.n : Int) + (k : Int) * 64 ≤ s.cap) := by intro hx; simp at hc; omega
      have e : s.grow k = (4294967295, s) := by unfold MS.grow; rw [if_neg hn]
      rw [e]; exact ⟨rfl, .refl hM⟩
    · have hi : s.has = true ∧ (s.n : Int) + (k : Int) * 64 ≤ s.cap := ⟨hh, by simp at hc; omega⟩
      have hi2 := hi.2
      have e : s.grow k = (((s.n / 64 : Nat) : Int), { s with n := s.n + k * 64, back := fun j => if s.n ≤ j ∧ j < s.n + k * 64 then 0 else s.back j }) := by unfold MS.grow; rw [if_pos hi, Int.toNat_natCast]
      rw [e]
      refine memm_Store_Grow.step1 _ _ _ _ _ ?_
      unfold memm_Store_Grow.V1
      refine MGrow_loop p (k * 64) k rfl (by omega) _ (k * 64) 0 K s w _ (by omega) (by omega) hM (fun w' h1 => ⟨?_, ?_⟩)
      · rw [wrap_u32 (by omega) (by omega)]
      · refine h1.congr rfl rfl rfl (fun j hj => ?_) rfl (fun _ _ => rfl) rfl (fun _ _ => rfl)
        show (if s.n ≤ j ∧ j < s.n + k * 64 then 0 else s.back j) = (if s.n ≤ j then 0 else s.back j)
        have hj' : j < s.n + k * 64 := hj
        by_cases h1 : s.n ≤ j
        · rw [if_pos ⟨h1, hj'⟩, if_pos h1]
        · rw [if_neg (fun hx => h1 hx.1), if_neg h1]

/-! ### New -/
theorem MNew_spec (w : World) : Runs Try.prog memm_New.id #[] w fun v w' => v = .pointer (some ⟨w.heap.size, 0, none⟩) ∧ MM w' w.heap.size [] ms0 ∧ Same [] w.heap.size w w' := by
  refine memm_New.enter _ _ ?_
  unfold memm_New.V
  refine letB_intro (fun b1 hb1 => letW_intro (fun w2 hw2 => ?_))
  rw [hb1, hw2]
  refine ⟨rfl, ⟨.slice none 0 0, .slice none 0 0, .slice none 0 0, heap_alloc_new w _, World.ownsRow_nil _ _ _ _, World.ownsRow_nil _ _ _ _, World.ownsRow_nil _ _ _ _, ?_, ?_, ?_⟩, (Same.refl _ _ _).alloc (Nat.le_refl _) _⟩ <;> (intro k hk; simp [Value.ownBlock] at hk)

/-! ### Reset -/
theorem MReset_end (p : Nat) (K : List Nat) (s : MS) (w : World) (h : MM w p K s) (g : Nat) (hg : g ≤ 4) (t k : Int) (hk : ¬ k < t) (R : Value → World → Prop)
    (hR : ∀ w', MMOut w p K { s with ng := g, glob := fun _ => 0 } w' → R (.int .i64 0) w') : memm_Store_Reset.L8 (some ⟨p, 0, none⟩) t g k R w := by
  obtain ⟨q1, q2, q3, q4, q5, q6⟩ := ne_types
  refine memm_Store_Reset.step8 _ _ _ _ _ _ ?_
  unfold memm_Store_Reset.V8
  refine cond_false' (by simpa using hk) ?_
  simp only [nilV_some, Nat.zero_add]
  obtain ⟨m, tt, gg, h⟩ := h
  obtain ⟨w13, hr, ho, hS⟩ := own_make T_sl_uint64.el rfl w .i64 .i64 g (by omega) (by decide)
  have h13 := h.keep hS
  refine ⟨_, _, _, _, hr, h13.can 4 (by omega), letW_intro (fun w18 hw18 => hR w18 ?_)⟩
  refine ⟨K ++ [w.heap.size], ⟨m, tt, .slice (some ⟨w.heap.size, 0, none⟩) g g, ?_⟩, ?_, ?_⟩
  · rw [hw18]
    refine h13.setp 4 _ (s' := { s with ng := g, glob := fun _ => 0 }) rfl h13.M h13.T ho (fun k hk => List.mem_append_left _ (h13.kM k hk)) (fun k hk => List.mem_append_left _ (h13.kT k hk)) (fun k hk => ?_)
    simp [Value.ownBlock] at hk
    simp [hk]
  · rw [hw18]; exact (hS.mono (Nat.le_refl _) (by simp)).setCell (.inr (by simp)) _
  · intro k hk
    rcases List.mem_append.1 hk with hk | hk
    · exact .inl hk
    · simp at hk; exact .inr (by omega)

theorem MReset_tab (p : Nat) (g : Nat) (hg : g ≤ 4) (t : Nat) (ht : t ≤ 8) :
    ∀ (f k : Nat) (K : List Nat) (s : MS) (w : World) (R : Value → World → Prop), k + f = t → s.tl = k → (∀ j, j < k → s.tab j = -1) → MM w p K s →
      (∀ w', MMOut w p K { s with tl := t, tab := fun _ => -1, ng := g, glob := fun _ => 0 } w' → R (.int .i64 0) w') → memm_Store_Reset.L8 (some ⟨p, 0, none⟩) t g k R w := by
  intro f
  induction f with
  | zero =>
    intro k K s w R hk htl htab h hR
    refine MReset_end p K s w h g hg t k (by omega) R (fun w' h1 => hR w' (h1.congr rfl rfl rfl (fun _ _ => rfl) (by show t = s.tl; omega) (fun j hj => ?_) rfl (fun _ _ => rfl)))
    have hj' : j < s.tl := hj
    show -1 = s.tab j
    rw [htab j (by omega)]
  | succ f ih =>
    intro k K s w R hk htl htab h hR
    refine memm_Store_Reset.step8 _ _ _ _ _ _ ?_
    unfold memm_Store_Reset.V8
    refine cond_true' (by simp; omega) ?_
    have e : IntKind.wrap .i64 ((k : Int) + 1) = ((k + 1 : Nat) : Int) := by rw [wrap_i64 (by omega) (by omega)]; omega
    obtain ⟨m, tt, gg, h⟩ := h
    obtain ⟨a, c, rfl, _⟩ := own_form h.T
    simp only [nilV_some, Nat.zero_add, e]
    obtain ⟨a', c', w7, hr, hcan, K', h', hS', hK'⟩ := h.pusht (by omega) (-1)
    refine ⟨_, _, _, h.c3, letB_intro (fun b5 hb5 => letW_intro (fun w6 hw6 => ?_))⟩
    rw [hb5, hw6]
    refine ⟨_, _, _, _, hr, hcan, letW_intro (fun w12 hw12 => ?_)⟩
    rw [← hw12] at h' hS'
    refine ih (k + 1) K' { s with tl := s.tl + 1, tab := upd s.tab s.tl (-1) } w12 R (by omega) (by show s.tl + 1 = k + 1; omega) (fun j hj => ?_) ⟨_, _, _, h'⟩ (fun w' h1 => hR w' (MMOut.trans hS' hK' h1))
    show upd s.tab s.tl (-1) j = -1
    unfold upd
    split
    · rfl
    · exact htab j (by omega)

theorem MReset_tabs (p : Nat) (K : List Nat) (s : MS) (w : World) (h : MM w p K s) (tb gl : Int) (ht1 : tb ≤ 8) (hg0 : 0 ≤ gl) (hg : gl ≤ 4) (R : Value → World → Prop)
    (hR : ∀ w', MMOut w p K { s with tl := tb.toNat, tab := fun _ => -1, ng := gl.toNat, glob := fun _ => 0 } w' → R (.int .i64 0) w') : memm_Store_Reset.L7 (some ⟨p, 0, none⟩) tb gl R w := by
  refine memm_Store_Reset.step7 _ _ _ _ _ ?_
  unfold memm_Store_Reset.V7
  simp only [nilV_some, Nat.zero_add]
  obtain ⟨g, rfl⟩ := Int.eq_ofNat_of_zero_le hg0
  obtain ⟨m, tt, gg, h⟩ := h
  refine ⟨h.can 3 (by omega), letW_intro (fun w2 hw2 => ?_)⟩
  have h2 : MM w2 p K { s with tl := 0 } := by
    rw [hw2]
    exact ⟨m, .slice none 0 0, gg, h.setp 3 _ (s' := { s with tl := 0 }) rfl h.M (World.ownsRow_nil _ _ _ _) h.G h.kM (fun k hk => by simp [Value.ownBlock] at hk) h.kG⟩
  have hS2 : Same (p :: K) w.heap.size w w2 := by rw [hw2]; exact (Same.refl _ _ _).setCell (.inr (by simp)) _
  rw [Int.toNat_natCast] at hR
  by_cases hn : 0 ≤ tb
  · obtain ⟨t, rfl⟩ := Int.eq_ofNat_of_zero_le hn
    rw [Int.toNat_natCast] at hR
    exact MReset_tab p g (by omega) t (by omega) t 0 K { s with tl := 0 } w2 R (by omega) rfl (fun j hj => by omega) h2 (fun w' h1 => hR w' (MMOut.trans hS2 (fun k hk => .inl hk) h1))
  · refine MReset_end p K { s with tl := 0 } w2 h2 g (by omega) tb 0 (by omega) R (fun w' h1 => hR w' ((MMOut.trans hS2 (fun k hk => .inl hk) h1).congr rfl rfl rfl (fun _ _ => rfl) (by show tb.toNat = 0; omega) (fun j hj => ?_) rfl (fun _ _ => rfl)))
    have : j < 0 := hj
    omega

theorem MReset_go (w : World) (p : Nat) (K : List Nat) (s : MS) (h : MM w p K s) (mi mx tb gl : Int) (hmi : -1 ≤ mi) (hmi6 : mi ≤ 6) (hmx : -1 ≤ mx) (hmm : mx ≠ -1 → mi ≤ mx) (hmn : mi = -1 → mx = -1) (ht1 : tb ≤ 8) (hg0 : 0 ≤ gl) (hg : gl ≤ 4) (R : Value → World → Prop)
    (hR : ∀ w', MMOut w p K { has := decide (0 ≤ mi), n := (mi * 64).toNat, cap := resetCap mi mx, back := fun _ => 0, tab := fun _ => -1, tl := tb.toNat, glob := fun _ => 0, ng := gl.toNat } w' → R (.int .i64 0) w') :
    memm_Store_Reset.L5 (some ⟨p, 0, none⟩) mi mx tb gl R w := by
  refine memm_Store_Reset.step5 _ _ _ _ _ _ _ ?_
  unfold memm_Store_Reset.V5
  simp only [nilV_some, Nat.zero_add]
  obtain ⟨m, tt, gg, h⟩ := h
  refine ⟨h.can 0 (by omega), letW_intro (fun w2 hw2 => ?_)⟩
  have h2 : MMAt w2 p K { s with has := decide (0 ≤ mi) } m tt gg := by
    rw [hw2]; exact h.setp 0 _ rfl h.M h.T h.G h.kM h.kT h.kG
  have hS2 : Same (p :: K) w.heap.size w w2 := by rw [hw2]; exact (Same.refl _ _ _).setCell (.inr (by simp)) _
  refine ⟨h2.can 1 (by omega), letW_intro (fun w4 hw4 => ?_)⟩
  have h4 : MMAt w4 p K { s with has := decide (0 ≤ mi), n := 0 } (.slice none 0 0) tt gg := by
    rw [hw4]; exact h2.setp 1 _ (s' := { s with has := decide (0 ≤ mi), n := 0 }) rfl (World.ownsRow_nil _ _ _ _) h2.T h2.G (fun k hk => by simp [Value.ownBlock] at hk) h2.kT h2.kG
  have hS4 : Same (p :: K) w.heap.size w w4 := by rw [hw4]; exact hS2.setCell (.inr (by simp)) _
  refine ⟨h4.can 2 (by omega), letW_intro (fun w6 hw6 => ?_)⟩
  have h6 : MMAt w6 p K { s with has := decide (0 ≤ mi), n := 0, cap := 0 } (.slice none 0 0) tt gg := by
    rw [hw6]; exact h4.setp 2 _ (s' := { s with has := decide (0 ≤ mi), n := 0, cap := 0 }) (by simp) h4.M h4.T h4.G h4.kM h4.kT h4.kG
  have hS6 : Same (p :: K) w.heap.size w w6 := by rw [hw6]; exact hS4.setCell (.inr (by simp)) _
  refine ⟨_, h6.c0, ?_⟩
  by_cases hn : 0 ≤ mi
  · refine cond_true' (by simpa using hn) ?_
    obtain ⟨k, rfl⟩ := Int.eq_ofNat_of_zero_le hn
    have e1 : IntKind.wrap .i64 ((k : Int) * 64) = ((k * 64 : Nat) : Int) := by rw [wrap_i64 (by omega) (by omega)]; omega
    rw [e1]
    obtain ⟨w9, hr, ho, hS9⟩ := own_make T_sl_uint8.el rfl w6 .i64 .i64 (k * 64) (by omega) (by decide)
    have h9 := h6.keep hS9
    refine ⟨_, _, _, _, hr, h9.can 1 (by omega), letW_intro (fun w14 hw14 => ?_)⟩
    have h14 : MMAt w14 p (K ++ [w6.heap.size]) { s with has := decide (0 ≤ (k : Int)), n := k * 64, cap := 0, back := fun _ => 0 } (.slice (some ⟨w6.heap.size, 0, none⟩) (k * 64) (k * 64)) tt gg := by
      rw [hw14]
      refine h9.setp 1 _ (s' := { s with has := decide (0 ≤ (k : Int)), n := k * 64, cap := 0, back := fun _ => 0 }) rfl ho h9.T h9.G (fun j hj => ?_) (fun j hj => List.mem_append_left _ (h9.kT j hj)) (fun j hj => List.mem_append_left _ (h9.kG j hj))
      simp [Value.ownBlock] at hj
      simp [hj]
    have hS14 : Same (p :: K) w.heap.size w w14 := by
      rw [hw14]; exact (hS6.trans (hS9.mono hS6.size (by simp))).setCell (.inr (by simp)) _
    have hK14 : ∀ j, j ∈ K ++ [w6.heap.size] → j ∈ K ∨ w.heap.size ≤ j := fun j hj => by
      rcases List.mem_append.1 hj with hj | hj
      · exact .inl hj
      · simp at hj; have := hS6.size; exact .inr (by omega)
    refine ⟨h14.can 2 (by omega), letW_intro (fun w16 hw16 => ?_)⟩
    have h16 : MMAt w16 p (K ++ [w6.heap.size]) { s with has := decide (0 ≤ (k : Int)), n := k * 64, cap := 384, back := fun _ => 0 } (.slice (some ⟨w6.heap.size, 0, none⟩) (k * 64) (k * 64)) tt gg := by
      rw [hw16]; exact h14.setp 2 _ (s' := { s with has := decide (0 ≤ (k : Int)), n := k * 64, cap := 384, back := fun _ => 0 }) (by simp) h14.M h14.T h14.G h14.kM h14.kT h14.kG
    have hS16 : Same (p :: K) w.heap.size w w16 := by rw [hw16]; exact hS14.setCell (.inr (by simp)) _
    have L7 : ∀ (cp : Nat) (w' : World), MM w' p (K ++ [w6.heap.size]) { s with has := decide (0 ≤ (k : Int)), n := k * 64, cap := cp, back := fun _ => 0 } → Same (p :: K) w.heap.size w w' → resetCap k mx = cp → memm_Store_Reset.L7 (some ⟨p, 0, none⟩) tb gl R w' := by
      intro cp w' hm hS hcp
      refine MReset_tabs p _ _ w' hm tb gl ht1 hg0 hg R (fun w'' h1 => hR w'' ((MMOut.trans hS hK14 h1).congr rfl (by show ((k : Int) * 64).toNat = k * 64; omega) hcp (fun _ _ => rfl) rfl (fun _ _ => rfl) rfl (fun _ _ => rfl)))
    have L6 : ∀ t : Bool, t = decide (mx ≠ -1 ∧ mx < 6) → memm_Store_Reset.L6 (some ⟨p, 0, none⟩) mx tb gl t R w16 := by
      intro t ht
      refine memm_Store_Reset.step6 _ _ _ _ _ _ _ ?_
      unfold memm_Store_Reset.V6
      simp only [nilV_some, Nat.zero_add]
      refine cond_intro (fun hc => ?_) (fun hc => ?_)
      · have hx : mx ≠ -1 ∧ mx < 6 := by rw [ht] at hc; exact of_decide_eq_true hc
        obtain ⟨x, rfl⟩ := Int.eq_ofNat_of_zero_le (show 0 ≤ mx by omega)
        refine ⟨h16.can 2 (by omega), letW_intro (fun w17 hw17 => ?_)⟩
        have h17 : MMAt w17 p (K ++ [w6.heap.size]) { s with has := decide (0 ≤ (k : Int)), n := k * 64, cap := x * 64, back := fun _ => 0 } (.slice (some ⟨w6.heap.size, 0, none⟩) (k * 64) (k * 64)) tt gg := by
          rw [hw17]
          refine h16.setp 2 _ (s' := { s with has := decide (0 ≤ (k : Int)), n := k * 64, cap := x * 64, back := fun _ => 0 }) ?_ h16.M h16.T h16.G h16.kM h16.kT h16.kG
          have ex : (x * 64 / 64 : Nat) = x := by omega
          show _ = #[_, _, Value.int .i64 ((x * 64 / 64 : Nat) : Int), _, _]
          rw [ex]; rfl
        exact L7 (x * 64) w17 ⟨_, _, _, h17⟩ (by rw [hw17]; exact hS16.setCell (.inr (by simp)) _) (by unfold resetCap; rw [if_pos (by omega), if_pos (by omega)]; omega)
      · have hx : ¬ (mx ≠ -1 ∧ mx < 6) := by rw [ht] at hc; exact of_decide_eq_false hc
        exact L7 384 w16 ⟨_, _, _, h16⟩ hS16 (by unfold resetCap; rw [if_pos (by omega), if_neg (by omega)])
    refine cond_intro (fun hc => L6 _ ?_) (fun hc => L6 _ ?_)
    · have : mx ≠ -1 := by simpa using hc
      simp [this]
    · have : mx = -1 := by simpa using hc
      simp [this]
  · refine cond_false' (by simpa using hn) ?_
    refine MReset_tabs p K _ w6 ⟨_, _, _, h6⟩ tb gl ht1 hg0 hg R (fun w' h1 => hR w' ((MMOut.trans hS6 (fun k hk => .inl hk) h1).congr rfl (by show (mi * 64).toNat = 0; omega) (by show resetCap mi mx = 0; unfold resetCap; rw [if_neg hn]) (fun j hj => ?_) rfl (fun _ _ => rfl) rfl (fun _ _ => rfl)))
    have : j < 0 := hj
    omega

theorem MReset_spec (w : World) (p : Nat) (K : List Nat) (s : MS) (h : MM w p K s) (mi mx tb gl : Int) :
    Runs Try.prog memm_Store_Reset.id #[.pointer (some ⟨p, 0, none⟩), .int .i64 mi, .int .i64 mx, .int .i64 tb, .int .i64 gl] w fun r w' =>
      r = .int .i64 (s.reset mi mx tb gl).1 ∧ MMOut w p K (s.reset mi mx tb gl).2 w' := by
  refine memm_Store_Reset.enter _ _ _ _ _ _ _ ?_
  generalize hRd : (fun (r : Value) (w' : World) => r = .int .i64 (s.reset mi mx tb gl).1 ∧ MMOut w p K (s.reset mi mx tb gl).2 w') = R
  have bad : badReset mi mx tb gl = true → R (.int .i64 36) w := fun hb => by
    subst hRd
    have e : s.reset mi mx tb gl = (36, s) := by simp only [MS.reset, if_pos hb]
    rw [e]; exact ⟨rfl, .refl h⟩
  have L5 : badReset mi mx tb gl = false → memm_Store_Reset.L5 (some ⟨p, 0, none⟩) mi mx tb gl R w := fun hb => by
    have hb' := hb
    simp only [badReset, Bool.or_eq_false_iff, Bool.and_eq_false_imp, decide_eq_false_iff_not, decide_eq_true_eq] at hb'
    refine MReset_go w p K s h mi mx tb gl (by omega) (by omega) (by omega) (fun hx => by have := hb'.1.1.1.1.1.2 hx; omega) (fun hx => by have := hb'.1.1.1.1.2 hx; omega) (by omega) (by omega) (by omega) R (fun w' h1 => ?_)
    subst hRd
    simp only [MS.reset, hb, Bool.false_eq_true, if_false]
    refine ⟨by trivial, h1.congr rfl rfl rfl (fun j hj => ?_) rfl (fun j hj => ?_) rfl (fun j hj => ?_)⟩
    · exact if_pos hj
    · exact if_pos hj
    · exact if_pos hj
  unfold memm_Store_Reset.V
  refine cond_intro (fun hc => bad ?_) (fun h1 => cond_intro (fun hc => bad ?_) (fun h2 => ?_))
  · simp at hc; simp [badReset, hc]
  · simp at hc; simp [badReset, hc]
  refine memm_Store_Reset.step1 _ _ _ _ _ _ _ ?_
  unfold memm_Store_Reset.V1
  have L2 : ¬ mx < -1 → ¬ (mx ≠ -1 ∧ mx < mi) → memm_Store_Reset.L2 (some ⟨p, 0, none⟩) mi mx tb gl R w := by
    intro h3 h4
    refine memm_Store_Reset.step2 _ _ _ _ _ _ _ ?_
    unfold memm_Store_Reset.V2
    have L3 : ¬ (mi = -1 ∧ mx ≠ -1) → memm_Store_Reset.L3 (some ⟨p, 0, none⟩) mi mx tb gl R w := by
      intro h5
      refine memm_Store_Reset.step3 _ _ _ _ _ _ _ ?_
      unfold memm_Store_Reset.V3
      refine cond_intro (fun hc => bad ?_) (fun h6 => cond_intro (fun hc => bad ?_) (fun h7 => ?_))
      · simp at hc; simp [badReset, hc]
      · simp at hc; simp [badReset, hc]
      refine memm_Store_Reset.step4 _ _ _ _ _ _ _ ?_
      unfold memm_Store_Reset.V4
      refine cond_intro (fun hc => bad ?_) (fun h8 => cond_intro (fun hc => bad ?_) (fun h9 => L5 ?_))
      · simp at hc; simp [badReset, hc]
      · simp at hc; simp [badReset, hc]
      · simp only [decide_eq_false_iff_not] at h1 h2 h6 h7 h8 h9
        simp only [badReset, Bool.or_eq_false_iff, Bool.and_eq_false_imp, decide_eq_false_iff_not, decide_eq_true_eq]
        refine ⟨⟨⟨⟨⟨⟨⟨⟨?_, ?_⟩, ?_⟩, ?_⟩, ?_⟩, ?_⟩, ?_⟩, ?_⟩, ?_⟩ <;> omega
    refine cond_intro (fun hc => cond_intro (fun hd => bad ?_) (fun hd => L3 ?_)) (fun hc => L3 ?_)
    · simp at hc hd; simp [badReset, hc, hd]
    · simp at hc hd; omega
    · simp at hc; omega
  refine cond_intro (fun hc => bad ?_) (fun h3 => cond_intro (fun hc => cond_intro (fun hd => bad ?_) (fun hd => L2 ?_ ?_)) (fun hc => L2 ?_ ?_))
  · simp at hc; simp [badReset, hc]
  · simp at hc hd; simp [badReset, hc, hd]
  · simp at h3; omega
  · simp at hd; omega
  · simp at h3; omega
  · simp at hc; omega

end Go.Proofs.Qxb6500319a
