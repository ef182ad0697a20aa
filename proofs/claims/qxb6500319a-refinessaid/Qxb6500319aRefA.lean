/-
  Package memm: the model's store in memory; its methods compute the same plain functions.
-/
import Derived.Test.Qxb6500319aMemJ
import Derived.Test.Qxb6500319aOwn
set_option linter.unusedSimpArgs false
set_option linter.unusedVariables false
set_option maxRecDepth 100000
namespace Go.Proofs.Qxb6500319a
open Go Go.Vc

def memRow (s : MS) : List Value := (List.range s.n).map fun j => .int .u8 (s.back j)
def tabRow (s : MS) : List Value := (List.range s.tl).map fun j => .int .i64 (s.tab j)
def globRow (s : MS) : List Value := (List.range s.ng).map fun j => .int .u64 (s.glob j)

/-- The model's store in block p; her rows lie in blocks of K. -/
structure MMAt (w : World) (p : Nat) (K : List Nat) (s : MS) (m t g : Value) : Prop where
  blk : w.heap[p]? = some (.cells #[.bool s.has, m, .int .i64 ((s.cap / 64 : Nat) : Int), t, g] T_memm_Store (0, 0))
  M : w.ownsRow 0 T_uint8 1 m s.n (memRow s)
  T : w.ownsRow 0 T_int 1 t s.tl (tabRow s)
  G : w.ownsRow 0 T_uint64 1 g s.ng (globRow s)
  kM : ∀ k, m.ownBlock = some k → k ∈ K
  kT : ∀ k, t.ownBlock = some k → k ∈ K
  kG : ∀ k, g.ownBlock = some k → k ∈ K

def MM (w : World) (p : Nat) (K : List Nat) (s : MS) : Prop := ∃ m t g, MMAt w p K s m t g

theorem lt_of_heap {w : World} {p : Nat} {o : Obj} (h : w.heap[p]? = some o) : p < w.heap.size := (Array.getElem?_eq_some_iff.1 h).1

section
variable {w : World} {p : Nat} {K : List Nat} {s : MS} {m t g : Value}
theorem MMAt.plt (h : MMAt w p K s m t g) : p < w.heap.size := lt_of_heap h.blk
theorem MMAt.cell (h : MMAt w p K s m t g) (j : Nat) : w.cell? ⟨p, j, none⟩ = (#[.bool s.has, m, .int .i64 ((s.cap / 64 : Nat) : Int), t, g] : Array Value)[j]? := by
  rw [cell_of_row w p j _ _ (0, 0) h.blk]
theorem MMAt.c0 (h : MMAt w p K s m t g) : w.cell? ⟨p, 0, none⟩ = some (.bool s.has) := h.cell 0
theorem MMAt.c1 (h : MMAt w p K s m t g) : w.cell? ⟨p, 1, none⟩ = some m := h.cell 1
theorem MMAt.c2 (h : MMAt w p K s m t g) : w.cell? ⟨p, 2, none⟩ = some (.int .i64 ((s.cap / 64 : Nat) : Int)) := h.cell 2
theorem MMAt.c3 (h : MMAt w p K s m t g) : w.cell? ⟨p, 3, none⟩ = some t := h.cell 3
theorem MMAt.c4 (h : MMAt w p K s m t g) : w.cell? ⟨p, 4, none⟩ = some g := h.cell 4
theorem MMAt.can (h : MMAt w p K s m t g) (j : Nat) (hj : j < 5) : Vc.can w ⟨p, j, none⟩ := by
  refine ⟨?_, by simp [World.frozen?, h.blk]⟩
  rw [h.cell]
  have : j = 0 ∨ j = 1 ∨ j = 2 ∨ j = 3 ∨ j = 4 := by omega
  rcases this with rfl | rfl | rfl | rfl | rfl <;> exact ⟨_, rfl⟩

theorem MMAt.same (h : MMAt w p K s m t g) {w' : World} {S : List Nat} {B : Nat} (hS : Same S B w w') (hp : p < B) (hpS : p ∉ S) (hK : ∀ k, k ∈ K → k < w.heap.size → k < B ∧ k ∉ S) : MMAt w' p K s m t g :=
  ⟨by rw [hS.block p hp hpS]; exact h.blk, own_same h.M hS (fun k hk => hK k (h.kM k hk) (own_lt h.M hk)), own_same h.T hS (fun k hk => hK k (h.kT k hk) (own_lt h.T hk)), own_same h.G hS (fun k hk => hK k (h.kG k hk) (own_lt h.G hk)), h.kM, h.kT, h.kG⟩

theorem MMAt.keep (h : MMAt w p K s m t g) {w' : World} (hS : Same [] w.heap.size w w') : MMAt w' p K s m t g := h.same hS h.plt (by simp) (fun k _ hk => ⟨hk, by simp⟩)
theorem MMAt.drew (h : MMAt w p K s m t g) : MMAt w.drew p K s m t g := h.keep (Same.refl _ _ _).drew
end

theorem ne_types : (T_uint8 : Nat) ≠ T_int ∧ (T_uint8 : Nat) ≠ T_uint64 ∧ (T_int : Nat) ≠ T_uint64 ∧ (T_uint8 : Nat) ≠ T_memm_Store ∧ (T_int : Nat) ≠ T_memm_Store ∧ (T_uint64 : Nat) ≠ T_memm_Store := by decide

/-- A field of the model's own block is written (no row turns). -/
theorem MMAt.setp {w : World} {p : Nat} {K K' : List Nat} {s s' : MS} {m t g m' t' g' : Value} (h : MMAt w p K s m t g) (j : Nat) (u : Value)
    (hc : (#[.bool s.has, m, .int .i64 ((s.cap / 64 : Nat) : Int), t, g] : Array Value).setIfInBounds j u = #[.bool s'.has, m', .int .i64 ((s'.cap / 64 : Nat) : Int), t', g'])
    (hM : w.ownsRow 0 T_uint8 1 m' s'.n (memRow s')) (hT : w.ownsRow 0 T_int 1 t' s'.tl (tabRow s')) (hG : w.ownsRow 0 T_uint64 1 g' s'.ng (globRow s'))
    (kM : ∀ k, m'.ownBlock = some k → k ∈ K') (kT : ∀ k, t'.ownBlock = some k → k ∈ K') (kG : ∀ k, g'.ownBlock = some k → k ∈ K') : MMAt (w.setCell ⟨p, j, none⟩ u) p K' s' m' t' g' := by
  obtain ⟨q1, q2, q3, q4, q5, q6⟩ := ne_types
  refine ⟨?_, ownsRow_setCell_other hM (own_ne_block hM h.blk q4) u, ownsRow_setCell_other hT (own_ne_block hT h.blk q5) u, ownsRow_setCell_other hG (own_ne_block hG h.blk q6) u, kM, kT, kG⟩
  rw [heap_setCell_same w p j _ _ u h.blk, hc]

/-- What a method of the model gives. -/
def MMOut (w : World) (p : Nat) (K : List Nat) (s' : MS) (w' : World) : Prop :=
  ∃ K', MM w' p K' s' ∧ Same (p :: K) w.heap.size w w' ∧ ∀ k, k ∈ K' → k ∈ K ∨ w.heap.size ≤ k

theorem MMOut.refl {w : World} {p : Nat} {K : List Nat} {s : MS} (h : MM w p K s) : MMOut w p K s w := ⟨K, h, Same.refl _ _ _, fun k hk => .inl hk⟩
theorem MMOut.mk' {w w' : World} {p : Nat} {K : List Nat} {s : MS} (h : MM w' p K s) (hS : Same (p :: K) w.heap.size w w') : MMOut w p K s w' := ⟨K, h, hS, fun k hk => .inl hk⟩

/-! ### Looking -/
theorem MPages_spec (w : World) (p : Nat) (K : List Nat) (s : MS) (h : MM w p K s) (hw : s.Wf) :
    Runs Try.prog memm_Store_Pages.id #[.pointer (some ⟨p, 0, none⟩)] w fun v w' => v = .int .i64 ((s.n / 64 : Nat) : Int) ∧ w' = w := by
  have := hw.ncap; have := hw.cap384
  obtain ⟨m, t, g, h⟩ := h
  obtain ⟨a, c, rfl, _⟩ := own_form h.M
  refine memm_Store_Pages.enter _ _ _ ?_
  unfold memm_Store_Pages.V
  simp only [nilV_some, Nat.zero_add]
  refine ⟨_, _, _, h.c1, ?_, by trivial⟩
  have e : Int.tdiv ((s.n : Nat) : Int) 64 = ((s.n / 64 : Nat) : Int) := rfl
  rw [e, wrap_i64 (by omega) (by omega)]

theorem MTabLen_spec (w : World) (p : Nat) (K : List Nat) (s : MS) (h : MM w p K s) :
    Runs Try.prog memm_Store_TabLen.id #[.pointer (some ⟨p, 0, none⟩)] w fun v w' => v = .int .i64 s.tl ∧ w' = w := by
  obtain ⟨m, t, g, h⟩ := h
  obtain ⟨a, c, rfl, _⟩ := own_form h.T
  refine memm_Store_TabLen.enter _ _ _ ?_
  unfold memm_Store_TabLen.V
  simp only [nilV_some, Nat.zero_add]
  exact ⟨_, _, _, h.c3, rfl, by trivial⟩

theorem MFits_spec (w : World) (p : Nat) (K : List Nat) (s : MS) (h : MM w p K s) (hw : s.Wf) (at_ n : Int) (h0 : 0 ≤ at_) (h1 : at_ < 4294967296) (hn : n ≤ 9223372036854775807) :
    Runs Try.prog memm_Store_Fits.id #[.pointer (some ⟨p, 0, none⟩), .int .u32 at_, .int .i64 n] w fun v w' => v = .bool (decide (0 ≤ n ∧ at_ + n ≤ s.n)) ∧ w' = w := by
  have := hw.ncap; have := hw.cap384
  obtain ⟨m, t, g, h⟩ := h
  obtain ⟨a, c, rfl, _⟩ := own_form h.M
  refine memm_Store_Fits.enter _ _ _ _ _ ?_
  unfold memm_Store_Fits.V
  simp only [nilV_some, Nat.zero_add]
  refine cond_intro (fun hc => ?_) (fun hc => ?_)
  · have hn0 : 0 ≤ n := by simpa using hc
    refine ⟨_, _, _, h.c1, ?_, by trivial⟩
    rw [wrap_u64 (x := at_) (by omega) (by omega), wrap_u64 (x := n) (by omega) (by omega), wrap_u64 (x := at_ + n) (by omega) (by omega), wrap_u64 (x := (s.n : Int)) (by omega) (by omega)]
    simp [hn0]
  · have hn0 : ¬ 0 ≤ n := by simpa using hc
    refine ⟨?_, by trivial⟩
    simp [hn0]

theorem MElem_spec (w : World) (p : Nat) (K : List Nat) (s : MS) (h : MM w p K s) (hw : s.Wf) (i : Int) (h0 : 0 ≤ i) (h1 : i < 4294967296) :
    Runs Try.prog memm_Store_Elem.id #[.pointer (some ⟨p, 0, none⟩), .int .u32 i] w fun v w' => v = .tuple #[.int .i64 (s.elem i).2, .int .i64 (s.elem i).1] ∧ w' = w := by
  have := hw.tl8
  obtain ⟨m, t, g, h⟩ := h
  obtain ⟨a, c, rfl, _⟩ := own_form h.T
  obtain ⟨k, rfl⟩ := Int.eq_ofNat_of_zero_le h0
  refine memm_Store_Elem.enter _ _ _ _ ?_
  unfold memm_Store_Elem.V
  simp only [nilV_some, Nat.zero_add]
  refine ⟨_, _, _, h.c3, ?_⟩
  rw [wrap_u64 (x := (k : Int)) (by omega) (by omega), wrap_u64 (x := (s.tl : Int)) (by omega) (by omega)]
  refine cond_intro (fun hc => ?_) (fun hc => ?_)
  · have hn : ¬ ((k : Int) < s.tl ∧ 0 ≤ s.tab k) := by simp at hc; omega
    exact ⟨by unfold MS.elem; rw [Int.toNat_natCast, if_neg hn], by trivial⟩
  · have hk : k < s.tl := by simp at hc; omega
    obtain ⟨b, rfl, hcell, hf⟩ := own_get h.T hk
    refine ⟨_, _, _, h.c3, by omega, ?_⟩
    simp only [nilV_some, add_mk, Int.toNat_natCast, Nat.mul_one, Nat.zero_add]
    refine ⟨_, hcell, cond_intro (fun hn => ?_) (fun hn => ?_)⟩
    · have hn : ¬ ((k : Int) < s.tl ∧ 0 ≤ s.tab k) := by simp at hn; omega
      exact ⟨by unfold MS.elem; rw [Int.toNat_natCast, if_neg hn], by trivial⟩
    · have hi : (k : Int) < s.tl ∧ 0 ≤ s.tab k := by simp at hn; omega
      refine ⟨_, _, _, h.c3, by omega, ?_⟩
      simp only [nilV_some, add_mk, Int.toNat_natCast, Nat.mul_one, Nat.zero_add]
      exact ⟨_, hcell, by unfold MS.elem; rw [Int.toNat_natCast, if_pos hi], by trivial⟩

theorem MGlobal_spec (w : World) (p : Nat) (K : List Nat) (s : MS) (h : MM w p K s) (hw : s.Wf) (i : Int) :
    Runs Try.prog memm_Store_Global.id #[.pointer (some ⟨p, 0, none⟩), .int .i64 i] w fun v w' =>
      v = (if 0 ≤ i ∧ i < s.ng then .tuple #[.int .u64 (s.glob i.toNat), .int .i64 0] else .tuple #[.int .u64 0, .int .i64 36]) ∧ w' = w := by
  have := hw.ng4
  obtain ⟨m, t, g, h⟩ := h
  obtain ⟨a, c, rfl, _⟩ := own_form h.G
  refine memm_Store_Global.enter _ _ _ _ ?_
  have L1 : ∀ t : Bool, t = decide (¬ (0 ≤ i ∧ i < s.ng)) → memm_Store_Global.L1 (some ⟨p, 0, none⟩) i t (fun v w' => v = (if 0 ≤ i ∧ i < s.ng then .tuple #[.int .u64 (s.glob i.toNat), .int .i64 0] else .tuple #[.int .u64 0, .int .i64 36]) ∧ w' = w) w := by
    intro t ht
    refine memm_Store_Global.step1 _ _ _ _ _ ?_
    unfold memm_Store_Global.V1
    refine cond_intro (fun hc => ?_) (fun hc => ?_)
    · have hn : ¬ (0 ≤ i ∧ i < s.ng) := by rw [ht] at hc; exact of_decide_eq_true hc
      exact ⟨by rw [if_neg hn], by trivial⟩
    · have hi : 0 ≤ i ∧ i < s.ng := by rw [ht] at hc; exact Decidable.not_not.1 (of_decide_eq_false hc)
      obtain ⟨b, rfl, hcell, hf⟩ := own_get h.G (show i.toNat < s.ng by omega)
      simp only [nilV_some, Nat.zero_add]
      refine ⟨_, _, _, h.c4, by omega, ?_⟩
      simp only [nilV_some, add_mk, Nat.mul_one, Nat.zero_add]
      exact ⟨_, hcell, by rw [if_pos hi], by trivial⟩
  unfold memm_Store_Global.V
  simp only [nilV_some, Nat.zero_add]
  refine cond_intro (fun hc => L1 _ ?_) (fun hc => ⟨_, _, _, h.c4, L1 _ ?_⟩)
  · symm; apply decide_eq_true; simp at hc; omega
  · apply decide_eq_decide.2; simp at hc; omega

/-! ### Writing into a row -/
theorem memRow_set (s : MS) (j : Nat) (v : Int) : (List.range s.n).map (fun i => if i = j then Value.int .u8 v else .int .u8 (s.back i)) = memRow { s with back := upd s.back j v } := by
  unfold memRow upd
  apply List.map_congr_left; intro i _
  by_cases h : i = j
  · simp [h]
  · simp [h]
theorem tabRow_set (s : MS) (j : Nat) (v : Int) : (List.range s.tl).map (fun i => if i = j then Value.int .i64 v else .int .i64 (s.tab i)) = tabRow { s with tab := upd s.tab j v } := by
  unfold tabRow upd
  apply List.map_congr_left; intro i _
  by_cases h : i = j
  · simp [h]
  · simp [h]
theorem globRow_set (s : MS) (j : Nat) (v : Int) : (List.range s.ng).map (fun i => if i = j then Value.int .u64 v else .int .u64 (s.glob i)) = globRow { s with glob := upd s.glob j v } := by
  unfold globRow upd
  apply List.map_congr_left; intro i _
  by_cases h : i = j
  · simp [h]
  · simp [h]

theorem MMAt.setm {w : World} {p : Nat} {K : List Nat} {s : MS} {t g : Value} {b c : Nat} (h : MMAt w p K s (.slice (some ⟨b, 0, none⟩) s.n c) t g) (j : Nat) (hj : j < s.n) (v : Int) :
    MMAt (w.setCell ⟨b, j, none⟩ (.int .u8 v)) p K { s with back := upd s.back j v } (.slice (some ⟨b, 0, none⟩) s.n c) t g := by
  obtain ⟨q1, q2, q3, q4, q5, q6⟩ := ne_types
  have hbp : p ≠ b := fun he => own_ne_block h.M h.blk q4 (by simp [Value.ownBlock, he])
  have hM := own_set h.M (g := b) rfl hj (.int .u8 v)
  rw [memRow_set] at hM
  have hT : (w.setCell ⟨b, j, none⟩ (.int .u8 v)).ownsRow 0 T_int 1 t s.tl (tabRow s) := ownsRow_setCell_other (a := ⟨b, j, none⟩) h.T (own_ne h.M h.T q1 (g := b) rfl) _
  have hG : (w.setCell ⟨b, j, none⟩ (.int .u8 v)).ownsRow 0 T_uint64 1 g s.ng (globRow s) := ownsRow_setCell_other (a := ⟨b, j, none⟩) h.G (own_ne h.M h.G q2 (g := b) rfl) _
  have hB : (w.setCell ⟨b, j, none⟩ (.int .u8 v)).heap[p]? = some (.cells #[.bool s.has, .slice (some ⟨b, 0, none⟩) s.n c, .int .i64 ((s.cap / 64 : Nat) : Int), t, g] T_memm_Store (0, 0)) := by rw [heap_setCell_other _ _ _ _ (by simpa using hbp)]; exact h.blk
  exact ⟨hB, hM, hT, hG, h.kM, h.kT, h.kG⟩

theorem MMAt.sett {w : World} {p : Nat} {K : List Nat} {s : MS} {m g : Value} {b c : Nat} (h : MMAt w p K s m (.slice (some ⟨b, 0, none⟩) s.tl c) g) (j : Nat) (hj : j < s.tl) (v : Int) :
    MMAt (w.setCell ⟨b, j, none⟩ (.int .i64 v)) p K { s with tab := upd s.tab j v } m (.slice (some ⟨b, 0, none⟩) s.tl c) g := by
  obtain ⟨q1, q2, q3, q4, q5, q6⟩ := ne_types
  have hbp : p ≠ b := fun he => own_ne_block h.T h.blk q5 (by simp [Value.ownBlock, he])
  have hT := own_set h.T (g := b) rfl hj (.int .i64 v)
  rw [tabRow_set] at hT
  have hM : (w.setCell ⟨b, j, none⟩ (.int .i64 v)).ownsRow 0 T_uint8 1 m s.n (memRow s) := ownsRow_setCell_other (a := ⟨b, j, none⟩) h.M (own_ne h.T h.M (Ne.symm q1) (g := b) rfl) _
  have hG : (w.setCell ⟨b, j, none⟩ (.int .i64 v)).ownsRow 0 T_uint64 1 g s.ng (globRow s) := ownsRow_setCell_other (a := ⟨b, j, none⟩) h.G (own_ne h.T h.G q3 (g := b) rfl) _
  have hB : (w.setCell ⟨b, j, none⟩ (.int .i64 v)).heap[p]? = some (.cells #[.bool s.has, m, .int .i64 ((s.cap / 64 : Nat) : Int), .slice (some ⟨b, 0, none⟩) s.tl c, g] T_memm_Store (0, 0)) := by rw [heap_setCell_other _ _ _ _ (by simpa using hbp)]; exact h.blk
  exact ⟨hB, hM, hT, hG, h.kM, h.kT, h.kG⟩

theorem MMAt.setg {w : World} {p : Nat} {K : List Nat} {s : MS} {m t : Value} {b c : Nat} (h : MMAt w p K s m t (.slice (some ⟨b, 0, none⟩) s.ng c)) (j : Nat) (hj : j < s.ng) (v : Int) :
    MMAt (w.setCell ⟨b, j, none⟩ (.int .u64 v)) p K { s with glob := upd s.glob j v } m t (.slice (some ⟨b, 0, none⟩) s.ng c) := by
  obtain ⟨q1, q2, q3, q4, q5, q6⟩ := ne_types
  have hbp : p ≠ b := fun he => own_ne_block h.G h.blk q6 (by simp [Value.ownBlock, he])
  have hG := own_set h.G (g := b) rfl hj (.int .u64 v)
  rw [globRow_set] at hG
  have hM : (w.setCell ⟨b, j, none⟩ (.int .u64 v)).ownsRow 0 T_uint8 1 m s.n (memRow s) := ownsRow_setCell_other (a := ⟨b, j, none⟩) h.M (own_ne h.G h.M (Ne.symm q2) (g := b) rfl) _
  have hT : (w.setCell ⟨b, j, none⟩ (.int .u64 v)).ownsRow 0 T_int 1 t s.tl (tabRow s) := ownsRow_setCell_other (a := ⟨b, j, none⟩) h.T (own_ne h.G h.T (Ne.symm q3) (g := b) rfl) _
  have hB : (w.setCell ⟨b, j, none⟩ (.int .u64 v)).heap[p]? = some (.cells #[.bool s.has, m, .int .i64 ((s.cap / 64 : Nat) : Int), t, .slice (some ⟨b, 0, none⟩) s.ng c] T_memm_Store (0, 0)) := by rw [heap_setCell_other _ _ _ _ (by simpa using hbp)]; exact h.blk
  exact ⟨hB, hM, hT, hG, h.kM, h.kT, h.kG⟩

theorem MSetElem_spec (w : World) (p : Nat) (K : List Nat) (s : MS) (h : MM w p K s) (hw : s.Wf) (i f : Int) (h0 : 0 ≤ i) (h1 : i < 4294967296) :
    Runs Try.prog memm_Store_SetElem.id #[.pointer (some ⟨p, 0, none⟩), .int .u32 i, .int .i64 f] w fun v w' => v = .int .i64 (s.setElem i f).1 ∧ MMOut w p K (s.setElem i f).2 w' := by
  have := hw.tl8
  have hM := h
  obtain ⟨m, t, g, h⟩ := h
  obtain ⟨a, c, rfl, _⟩ := own_form h.T
  obtain ⟨k, rfl⟩ := Int.eq_ofNat_of_zero_le h0
  refine memm_Store_SetElem.enter _ _ _ _ _ ?_
  unfold memm_Store_SetElem.V
  refine cond_intro (fun hc => ?_) (fun hc => ?_)
  · have hf : f < 0 := by simpa using hc
    have e : s.setElem k f = (36, s) := by simp [MS.setElem, hf]
    rw [e]; exact ⟨rfl, .refl hM⟩
  · have hf : ¬ f < 0 := by simpa using hc
    simp only [nilV_some, Nat.zero_add]
    refine ⟨_, _, _, h.c3, ?_⟩
    rw [wrap_u64 (x := (k : Int)) (by omega) (by omega), wrap_u64 (x := (s.tl : Int)) (by omega) (by omega)]
    refine cond_intro (fun hc => ?_) (fun hc => ?_)
    · have hn : ¬ (k : Int) < s.tl := by simp at hc; omega
      have e : s.setElem k f = (31, s) := by unfold MS.setElem; rw [if_neg hf, if_neg hn]
      rw [e]; exact ⟨rfl, .refl hM⟩
    · have hk : k < s.tl := by simp at hc; omega
      have e : s.setElem k f = (0, { s with tab := upd s.tab k f }) := by unfold MS.setElem; rw [if_neg hf, if_pos (by omega), Int.toNat_natCast]
      obtain ⟨b, rfl, hcell, hfz⟩ := own_get h.T hk
      refine ⟨_, _, _, h.c3, by omega, ?_⟩
      simp only [nilV_some, add_mk, Int.toNat_natCast, Nat.mul_one, Nat.zero_add]
      refine ⟨⟨⟨_, hcell⟩, hfz⟩, letW_intro (fun w1 hw1 => ?_)⟩
      rw [e, hw1]
      exact ⟨rfl, .mk' ⟨_, _, _, h.sett k hk f⟩ ((Same.refl _ _ _).setCell (.inr (List.mem_cons_of_mem _ (h.kT b rfl))) _)⟩

theorem MSetGlobal_spec (w : World) (p : Nat) (K : List Nat) (s : MS) (h : MM w p K s) (hw : s.Wf) (i v : Int) :
    Runs Try.prog memm_Store_SetGlobal.id #[.pointer (some ⟨p, 0, none⟩), .int .i64 i, .int .u64 v] w fun r w' => r = .int .i64 (s.setGlobal i v).1 ∧ MMOut w p K (s.setGlobal i v).2 w' := by
  have := hw.ng4
  have hM := h
  obtain ⟨m, t, g, h⟩ := h
  obtain ⟨a, c, rfl, _⟩ := own_form h.G
  refine memm_Store_SetGlobal.enter _ _ _ _ _ ?_
  unfold memm_Store_SetGlobal.V
  refine cond_intro (fun hc => ?_) (fun hc => ?_)
  · have hf : ¬ (0 ≤ i ∧ i < s.ng) := by simp at hc; omega
    have e : s.setGlobal i v = (36, s) := by unfold MS.setGlobal; rw [if_neg hf]
    rw [e]; exact ⟨rfl, .refl hM⟩
  · have hf : 0 ≤ i := by simpa using hc
    simp only [nilV_some, Nat.zero_add]
    refine ⟨_, _, _, h.c4, cond_intro (fun hc => ?_) (fun hc => ?_)⟩
    · have hf : ¬ (0 ≤ i ∧ i < s.ng) := by simp at hc; omega
      have e : s.setGlobal i v = (36, s) := by unfold MS.setGlobal; rw [if_neg hf]
      rw [e]; exact ⟨rfl, .refl hM⟩
    · have hi : 0 ≤ i ∧ i < s.ng := by simp at hc; omega
      have e : s.setGlobal i v = (0, { s with glob := upd s.glob i.toNat v }) := by unfold MS.setGlobal; rw [if_pos hi]
      obtain ⟨b, rfl, hcell, hfz⟩ := own_get h.G (show i.toNat < s.ng by omega)
      refine memm_Store_SetGlobal.step1 _ _ _ _ _ ?_
      unfold memm_Store_SetGlobal.V1
      simp only [nilV_some, Nat.zero_add]
      refine ⟨_, _, _, h.c4, by omega, ?_⟩
      simp only [nilV_some, add_mk, Nat.mul_one, Nat.zero_add]
      refine ⟨⟨⟨_, hcell⟩, hfz⟩, letW_intro (fun w1 hw1 => ?_)⟩
      rw [e, hw1]
      exact ⟨rfl, .mk' ⟨_, _, _, h.setg i.toNat (by omega) v⟩ ((Same.refl _ _ _).setCell (.inr (List.mem_cons_of_mem _ (h.kG b rfl))) _)⟩

theorem MWrite_loop (w0 : World) (p : Nat) (K : List Nat) (t g : Value) (b c : Nat) (d : ByteArray) (a : Nat) (R : Value → World → Prop) :
    ∀ (f k : Nat) (s : MS) (w : World), k + f = d.size → a + d.size ≤ s.n → s.n ≤ 384 → MMAt w p K s (.slice (some ⟨b, 0, none⟩) s.n c) t g → Same (p :: K) w0.heap.size w0 w →
      (∀ w', MM w' p K { s with back := fun j => if a + k ≤ j ∧ j < a + d.size then byteAt d (j - a) else s.back j } → Same (p :: K) w0.heap.size w0 w' → R (.int .i64 0) w') → memm_Store_Write.L1 (some ⟨p, 0, none⟩) a d k R w := by
  intro f
  induction f with
  | zero =>
    intro k s w hk ha hn h hS hR
    refine memm_Store_Write.step1 _ _ _ _ _ _ ?_
    unfold memm_Store_Write.V1
    refine cond_false' (by simp; omega) (hR w ?_ hS)
    have e : (fun j => if a + k ≤ j ∧ j < a + d.size then byteAt d (j - a) else s.back j) = s.back := by funext j; rw [if_neg (by omega)]
    rw [e]; exact ⟨_, _, _, h⟩
  | succ f ih =>
    intro k s w hk ha hn h hS hR
    refine memm_Store_Write.step1 _ _ _ _ _ _ ?_
    unfold memm_Store_Write.V1
    have e : IntKind.wrap .i64 ((k : Int) + 1) = ((k + 1 : Nat) : Int) := by rw [wrap_i64 (by omega) (by omega)]; omega
    have e2 : IntKind.wrap .i64 ((IntKind.wrap .i64 (a : Int)) + k) = ((a + k : Nat) : Int) := by rw [wrap_i64 (x := (a : Int)) (by omega) (by omega), wrap_i64 (by omega) (by omega)]; omega
    refine cond_true' (by simp; omega) ?_
    simp only [nilV_some, Nat.zero_add, e, e2, true_and]
    obtain ⟨b', hb', hcell, hfz⟩ := own_get h.drew.M (show a + k < s.n by omega)
    simp at hb'; subst hb'
    refine ⟨_, _, _, h.drew.c1, by omega, by omega, ?_⟩
    simp only [nilV_some, Nat.zero_add, add_mk, Int.toNat_natCast, Nat.mul_one]
    refine ⟨⟨⟨_, hcell⟩, hfz⟩, letW_intro (fun w1 hw1 => ?_)⟩
    have h1 : MMAt w1 p K { s with back := upd s.back (a + k) (byteAt d k) } (.slice (some ⟨b, 0, none⟩) s.n c) t g := by rw [hw1]; exact h.drew.setm (a + k) (by omega) _
    refine ih (k + 1) { s with back := upd s.back (a + k) (byteAt d k) } w1 (by omega) ha hn h1 (by rw [hw1]; exact hS.drew.setCell (.inr (List.mem_cons_of_mem _ (h.kM b rfl))) _) (fun w' h1 h2 => hR w' ?_ h2)
    have ef : (fun j => if a + (k + 1) ≤ j ∧ j < a + d.size then byteAt d (j - a) else upd s.back (a + k) (byteAt d k) j) = fun j => if a + k ≤ j ∧ j < a + d.size then byteAt d (j - a) else s.back j := by
      funext j
      simp only [upd]
      by_cases h1 : a + (k + 1) ≤ j ∧ j < a + d.size
      · rw [if_pos h1, if_pos (by omega)]
      · rw [if_neg h1]
        by_cases h2 : j = a + k
        · rw [if_pos h2, if_pos (by omega)]
          congr 1; omega
        · rw [if_neg h2, if_neg (by omega)]
    simp only [ef] at h1
    exact h1

theorem MWrite_spec (w : World) (p : Nat) (K : List Nat) (s : MS) (h : MM w p K s) (hw : s.Wf) (at_ : Int) (d : ByteArray) (h0 : 0 ≤ at_) (h1 : at_ < 4294967296) :
    Runs Try.prog memm_Store_Write.id #[.pointer (some ⟨p, 0, none⟩), .int .u32 at_, .string d] w fun r w' => r = .int .i64 (s.write at_ d).1 ∧ MMOut w p K (s.write at_ d).2 w' := by
  have := hw.ncap; have := hw.cap384
  have hM := h
  obtain ⟨m, t, g, h⟩ := h
  obtain ⟨a, c, rfl, _⟩ := own_form h.M
  refine memm_Store_Write.enter _ _ _ _ _ ?_
  unfold memm_Store_Write.V
  refine cond_intro (fun hc => ?_) (fun hc => ?_)
  · have hd : 24 < d.size := by simp at hc; omega
    have e : s.write at_ d = (1, s) := by unfold MS.write; rw [if_pos hd]
    rw [e]; exact ⟨rfl, .refl hM⟩
  · have hd : ¬ 24 < d.size := by simp at hc; omega
    simp only [nilV_some, Nat.zero_add]
    refine ⟨_, _, _, h.c1, ?_⟩
    rw [wrap_u64 (x := at_) (by omega) (by omega), wrap_u64 (x := (d.size : Int)) (by omega) (by omega), wrap_u64 (x := at_ + (d.size : Int)) (by omega) (by omega), wrap_u64 (x := (s.n : Int)) (by omega) (by omega)]
    refine cond_intro (fun hc => ?_) (fun hc => ?_)
    · have hn : ¬ at_ + (d.size : Nat) ≤ s.n := by simp at hc; omega
      have e : s.write at_ d = (31, s) := by unfold MS.write; rw [if_neg hd, if_neg hn]
      rw [e]; exact ⟨rfl, .refl hM⟩
    · have hi : at_ + (d.size : Nat) ≤ s.n := by simp at hc; omega
      have e : s.write at_ d = (0, { s with back := laid s.back at_.toNat d }) := by unfold MS.write; rw [if_neg hd, if_pos hi]
      obtain ⟨k, rfl⟩ := Int.eq_ofNat_of_zero_le h0
      rw [e, Int.toNat_natCast]
      by_cases hz : d.size = 0
      · refine memm_Store_Write.step1 _ _ _ _ _ _ ?_
        unfold memm_Store_Write.V1
        refine cond_false' (by simp [hz]) ⟨rfl, ?_⟩
        have el : laid s.back k d = s.back := by funext j; unfold laid; rw [if_neg (by omega)]
        rw [el]; exact .refl hM
      · obtain ⟨b, rfl, _, _⟩ := own_get h.M (show k < s.n by omega)
        exact MWrite_loop w p K t g b c d k _ d.size 0 s w (by omega) (by omega) (by omega) h (Same.refl _ _ _) (fun w' h1 h2 => ⟨rfl, .mk' (by simp only [Nat.add_zero] at h1; exact h1) h2⟩)

theorem MSave_loop (w0 : World) (p : Nat) (K : List Nat) (t g : Value) (b c : Nat) (a W : Nat) (R : Value → World → Prop) :
    ∀ (f k : Nat) (s : MS) (v : Int) (w : World), k + f = W → a + W ≤ s.n → s.n ≤ 384 → 0 ≤ v → v < 18446744073709551616 → MMAt w p K s (.slice (some ⟨b, 0, none⟩) s.n c) t g → Same (p :: K) w0.heap.size w0 w →
      (∀ w', MM w' p K { s with back := putB s.back (a + k) f v } → Same (p :: K) w0.heap.size w0 w' → R (.int .i64 0) w') → memm_Store_Save.L2 (some ⟨p, 0, none⟩) v W a k R w := by
  intro f
  induction f with
  | zero =>
    intro k s v w hk ha hn hv hv1 h hS hR
    refine memm_Store_Save.step2 _ _ _ _ _ _ _ ?_
    unfold memm_Store_Save.V2
    exact cond_false' (by simp; omega) (hR w ⟨_, _, _, h⟩ hS)
  | succ f ih =>
    intro k s v w hk ha hn hv hv1 h hS hR
    refine memm_Store_Save.step2 _ _ _ _ _ _ _ ?_
    unfold memm_Store_Save.V2
    have e : IntKind.wrap .i64 ((k : Int) + 1) = ((k + 1 : Nat) : Int) := by rw [wrap_i64 (by omega) (by omega)]; omega
    have e2 : IntKind.wrap .i64 ((IntKind.wrap .i64 (a : Int)) + k) = ((a + k : Nat) : Int) := by rw [wrap_i64 (x := (a : Int)) (by omega) (by omega), wrap_i64 (by omega) (by omega)]; omega
    have e3 : IntKind.wrap .u8 (Int.tmod v 256) = v % 256 := by rw [Int.tmod_eq_emod_of_nonneg hv, wrap_u8_mod]; omega
    have e4 : IntKind.wrap .u64 (Int.tdiv v 256) = v / 256 := by rw [Int.tdiv_eq_ediv_of_nonneg hv, wrap_u64 (by omega) (by omega)]
    refine cond_true' (by simp; omega) ?_
    simp only [nilV_some, Nat.zero_add, e, e2, e3, e4]
    obtain ⟨b', hb', hcell, hfz⟩ := own_get h.M (show a + k < s.n by omega)
    simp at hb'; subst hb'
    refine ⟨_, _, _, h.c1, by omega, ?_⟩
    simp only [nilV_some, Nat.zero_add, add_mk, Int.toNat_natCast, Nat.mul_one]
    refine ⟨⟨⟨_, hcell⟩, hfz⟩, letW_intro (fun w1 hw1 => ?_)⟩
    have h1 : MMAt w1 p K { s with back := upd s.back (a + k) (v % 256) } (.slice (some ⟨b, 0, none⟩) s.n c) t g := by rw [hw1]; exact h.setm (a + k) (by omega) _
    exact ih (k + 1) { s with back := upd s.back (a + k) (v % 256) } (v / 256) w1 (by omega) ha hn (by omega) (by omega) h1 (by rw [hw1]; exact hS.setCell (.inr (List.mem_cons_of_mem _ (h.kM b rfl))) _) (fun w' h1 h2 => hR w' (by simpa [putB, Nat.add_assoc] using h1) h2)

theorem MSave_spec (w : World) (p : Nat) (K : List Nat) (s : MS) (h : MM w p K s) (hw : s.Wf) (op b o v : Int) (hb0 : 0 ≤ b) (hb1 : b < 4294967296) (ho0 : 0 ≤ o) (ho1 : o < 4294967296) (hv0 : 0 ≤ v) (hv1 : v < 18446744073709551616) :
    Runs Try.prog memm_Store_Save.id #[.pointer (some ⟨p, 0, none⟩), .int .i64 op, .int .u32 b, .int .u32 o, .int .u64 v] w fun r w' => r = .int .i64 (s.save op (b + o) v).1 ∧ MMOut w p K (s.save op (b + o) v).2 w' := by
  have := hw.ncap; have := hw.cap384
  have hM := h
  obtain ⟨m, t, g, h⟩ := h
  obtain ⟨a, c, rfl, _⟩ := own_form h.M
  refine memm_Store_Save.enter _ _ _ _ _ _ _ ?_
  unfold memm_Store_Save.V
  refine (MemSig_spec op w).mono ?_
  rintro r w1 ⟨rfl, rfl⟩
  refine ⟨_, _, _, rfl, ?_⟩
  have bad : ¬ (54 ≤ op ∧ op ≤ 62) → s.save op (b + o) v = (35, s) := fun hn => by unfold MS.save; rw [if_neg hn]
  refine cond_intro (fun hz => ?_) (fun hz => cond_intro (fun hl => ?_) (fun hl => ?_))
  · have := (memSig_zero op).1 (by simpa using hz)
    rw [bad (by omega)]; exact ⟨rfl, .refl hM⟩
  · rw [bad (by simp at hl; omega)]; exact ⟨rfl, .refl hM⟩
  · have hz' : ¬ (memSig op).1 = 0 := by simpa using hz
    have h62 : ¬ ¬ (40 ≤ op ∧ op ≤ 62) := fun hx => hz' ((memSig_zero op).2 hx)
    have hop : 54 ≤ op ∧ op ≤ 62 := by simp at hl; omega
    have hsg := memSig_bd op (by omega)
    refine memm_Store_Save.step1 _ _ _ _ _ _ _ ?_
    unfold memm_Store_Save.V1
    simp only [nilV_some, Nat.zero_add]
    refine ⟨_, _, _, h.c1, ?_⟩
    rw [wrap_u64 (x := b) (by omega) (by omega), wrap_u64 (x := o) (by omega) (by omega), wrap_u64 (x := b + o) (by omega) (by omega), wrap_u64 (x := (memSig op).1) (by omega) (by omega), wrap_u64 (x := b + o + (memSig op).1) (by omega) (by omega), wrap_u64 (x := (s.n : Int)) (by omega) (by omega)]
    refine cond_intro (fun hc => ?_) (fun hc => ?_)
    · have hn : ¬ b + o + (memSig op).1 ≤ s.n := by simp at hc; omega
      have e : s.save op (b + o) v = (42, s) := by unfold MS.save; rw [if_pos hop, if_neg hn]
      rw [e]; exact ⟨rfl, .refl hM⟩
    · have hi : b + o + (memSig op).1 ≤ s.n := by simp at hc; omega
      have e : s.save op (b + o) v = (0, { s with back := putB s.back (b + o).toNat (memSig op).1.toNat v }) := by unfold MS.save; rw [if_pos hop, if_pos hi]
      obtain ⟨k, hk⟩ := Int.eq_ofNat_of_zero_le (show 0 ≤ b + o by omega)
      obtain ⟨W, hW⟩ := Int.eq_ofNat_of_zero_le (show 0 ≤ (memSig op).1 by omega)
      rw [hk, hW] at e hi ⊢
      rw [e]
      simp only [Int.toNat_natCast]
      obtain ⟨b', rfl, _, _⟩ := own_get h.M (show k < s.n by omega)
      exact MSave_loop w1 p K t g b' c k W _ W 0 s v w1 (by omega) (by omega) (by omega) hv0 hv1 h (Same.refl _ _ _) (fun w' h1 h2 => ⟨rfl, .mk' (by simp only [Nat.add_zero] at h1; exact h1) h2⟩)

end Go.Proofs.Qxb6500319a
