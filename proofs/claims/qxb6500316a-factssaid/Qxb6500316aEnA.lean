/-
  The encoder's writer: a buffer that grows.
-/
import Derived.Test.Qxb6500316aDcO
import Derived.Laws.AppendOwn
import Derived.OneCell
set_option linter.unusedSimpArgs false
set_option linter.unusedVariables false
set_option maxRecDepth 100000
namespace Go.Proofs.Qxb6500316a
open Go Go.Vc

abbrev nums (l : List Int) : List Value := l.map (Value.int .u8)
theorem nums_get {l : List Int} {j : Nat} {v : Value} (h : (nums l)[j]? = some v) : ∃ x, l[j]? = some x ∧ v = .int .u8 x := by
  rw [List.getElem?_map] at h
  cases hx : l[j]? with
  | none => rw [hx] at h; cases h
  | some x => rw [hx] at h; injection h with h; exact ⟨x, rfl, h.symm⟩

/-- The writer in block wb has written l; its bytes lie in block g. -/
structure EW (w : World) (wb : Nat) (l : List Int) (g : Option Nat) (v : Value) : Prop where
  c : w.cell? ⟨wb, 0, none⟩ = some v
  f : ∀ j, w.frozen? ⟨wb, j, none⟩ = false
  o : w.ownsRow 0 T_uint8 1 v l.length (nums l)
  og : v.ownBlock = g
  ne : g ≠ some wb
theorem EW.lt {w : World} {wb : Nat} {l : List Int} {g : Option Nat} {v : Value} (h : EW w wb l g v) : wb < w.heap.size := cell_lt h.c
theorem EW.glt {w : World} {wb : Nat} {l : List Int} {g : Option Nat} {v : Value} (h : EW w wb l g v) : ∀ k, g = some k → k < w.heap.size := fun k hk => (h.o.lt k (h.og.trans hk)).2
theorem owns_same {w w' : World} {base : Nat} {e : TypeId} {size : Nat} {v : Value} {n : Nat} {xs : List Value} (h : w.ownsRow base e size v n xs) {S : List Nat} (hs : Same S w.heap.size w w') (hS : ∀ k, v.ownBlock = some k → k ∉ S) : w'.ownsRow base e size v n xs := by
  refine ⟨h.1, ?_⟩
  rcases h.2 with hn | ⟨g, cap, cur, rfl, hb, hgg, rest⟩
  · exact .inl hn
  · refine .inr ⟨g, cap, cur, rfl, hb, ?_, rest⟩
    rw [hs.block g (Array.getElem?_eq_some_iff.1 hgg).1 (hS g rfl)]
    exact hgg
theorem EW.same {w w' : World} {wb : Nat} {l : List Int} {g : Option Nat} {v : Value} (h : EW w wb l g v) {S : List Nat} (hs : Same S w.heap.size w w') (h1 : wb ∉ S) (h2 : ∀ k, g = some k → k ∉ S) : EW w' wb l g v :=
  ⟨by rw [hs.cell h.lt h1]; exact h.c, fun j => by rw [hs.frozen h.lt h1]; exact h.f j, owns_same h.o hs (fun k hk => h2 k (h.og.symm.trans hk)), h.og, h.ne⟩
theorem EW.slice {w : World} {wb : Nat} {l : List Int} {g : Option Nat} {v : Value} (h : EW w wb l g v) : ∃ a c, v = .slice a l.length c ∧ (a = none ∧ c = 0 ∨ ∃ k, a = some ⟨k, 0, none⟩ ∧ g = some k) := by
  rcases h.o.2 with ⟨hv, hn⟩ | ⟨k, cap, cur, hv, _⟩
  · exact ⟨none, 0, by rw [hv, hn], .inl ⟨rfl, rfl⟩⟩
  · refine ⟨_, _, hv, .inr ⟨k, rfl, ?_⟩⟩
    rw [← h.og, hv]; rfl

/-- A step of the writer: its bytes lie where they lay, or in a new block; nothing else changes. -/
structure WS (w w' : World) (wb : Nat) (g g' : Option Nat) : Prop where
  og : g' = g ∨ ∃ k, g' = some k ∧ w.heap.size ≤ k
  S : Same (wb :: g.toList) w.heap.size w w'
theorem WS.refl (w : World) (wb : Nat) (g : Option Nat) : WS w w wb g g := ⟨.inl rfl, Same.refl _ _ _⟩
theorem WS.trans {w w1 w2 : World} {wb : Nat} {g g1 g2 : Option Nat} (h : WS w w1 wb g g1) (k : WS w1 w2 wb g1 g2) : WS w w2 wb g g2 := by
  refine ⟨?_, h.S.trans (k.S.mono h.S.size ?_)⟩
  · rcases k.og with rfl | ⟨x, hx, hl⟩
    · exact h.og
    · exact .inr ⟨x, hx, Nat.le_trans h.S.size hl⟩
  · intro j hj hlt
    simp only [List.mem_cons, Option.mem_toList] at hj ⊢
    rcases hj with hj | hj
    · exact .inl hj
    · rcases h.og with hg | ⟨x, hx, hl⟩
      · exact .inr (by rw [← hg]; exact hj)
      · exfalso
        rw [hx] at hj
        simp at hj
        omega
theorem WS.of {w w' : World} (wb : Nat) (g : Option Nat) (h : Same [] w.heap.size w w') : WS w w' wb g g := ⟨.inl rfl, h.mono (Nat.le_refl _) (by simp)⟩
theorem WS.not {w w' : World} {wb : Nat} {g g' : Option Nat} (h : WS w w' wb g g') {k : Nat} (h1 : k ≠ wb) (h2 : g ≠ some k) : k ∉ wb :: g.toList := by
  simp only [List.mem_cons, Option.mem_toList, not_or]
  exact ⟨h1, fun e => h2 e⟩
theorem WS.cell {w w' : World} {wb : Nat} {g g' : Option Nat} (h : WS w w' wb g g') {k j : Nat} (hk : k < w.heap.size) (h1 : k ≠ wb) (h2 : g ≠ some k) : w'.cell? ⟨k, j, none⟩ = w.cell? ⟨k, j, none⟩ := h.S.cell (p := ⟨k, j, none⟩) hk (h.not h1 h2)
/-- A block that the writer's bytes do not lie in, they never come to lie in. -/
theorem WS.gne {w w' : World} {wb : Nat} {g g' : Option Nat} (h : WS w w' wb g g') {k : Nat} (hk : k < w.heap.size) (h2 : g ≠ some k) : g' ≠ some k := by
  rcases h.og with rfl | ⟨x, rfl, hl⟩
  · exact h2
  · intro e; injection e with e; omega

def Writes (id : FuncId) (args : Array Value) (w : World) (wb : Nat) (l : List Int) (g : Option Nat) (app : List Int) : Prop :=
  Runs Try.prog id args w fun v w' => v = .tuple #[] ∧ ∃ g' u, EW w' wb (l ++ app) g' u ∧ WS w w' wb g g'
theorem Writes.into {id : FuncId} {args : Array Value} {w : World} {wb : Nat} {l : List Int} {g : Option Nat} {app : List Int} (h : Writes id args w wb l g app) {R Q : Value → World → Prop}
    (hR : ∀ w' g' u, EW w' wb (l ++ app) g' u → WS w w' wb g g' → R (.tuple #[]) w') : RunsQ Try.prog id args w R Q :=
  RunsQ.mono h (by rintro v w' ⟨rfl, g', u, h1, h2⟩; exact hR w' g' u h1 h2) (fun _ _ h => h.elim)

theorem bytes_spec {w : World} {wb : Nat} {l : List Int} {g : Option Nat} {v : Value} (h : EW w wb l g v) (a : Addr) (m c : Nat) (ns : List Int) (hl : ns.length = m) (hc : ∀ j u, (nums ns)[j]? = some u → w.cell? (a.add j) = some u) (hb : l.length + m ≤ 1000000) :
    Writes bin_writer_bytes.id #[rp wb, .slice (some a) m c] w wb l g ns := by
  refine bin_writer_bytes.enter _ _ _ _ _ _ _ ?_
  unfold bin_writer_bytes.V
  simp only [nilV_some]
  obtain ⟨va, vc, hv, _⟩ := h.slice
  have hcell := h.c
  rw [hv] at hcell
  refine ⟨_, _, _, hcell, ?_⟩
  have hE := T_sl_uint8.el
  obtain ⟨v', w', hr, ho, hg, _⟩ := run_append_own (P := Try.prog) w 0 T_sl_uint8 T_sl_uint8 T_uint8 _ _ 1 1 hE.ht hE.hi hE.hz hE.hsize hE.hby hE.hzs hE.hsz v l.length (nums l) h.o a m c (nums ns) (by simp [hl]) hc (fun u hu => by
    simp only [List.mem_map] at hu; obtain ⟨x, _, rfl⟩ := hu; rfl) (by simp only [maxLen]; omega) (by omega) (Nat.zero_le _)
  rw [hv] at hr
  have ho2 : w'.ownsRow 0 T_uint8 1 v' (l ++ ns).length (nums (l ++ ns)) := by
    have : nums (l ++ ns) = nums l ++ nums ns := List.map_append
    rw [this, List.length_append, hl]; exact ho
  have hshape : ∃ a2 l2 c2, v' = .slice a2 l2 c2 := by
    rcases ho.2 with ⟨h1, _⟩ | ⟨k, cap, cur, h1, _⟩
    · exact ⟨_, _, _, h1⟩
    · exact ⟨_, _, _, h1⟩
  obtain ⟨a2, l2, c2, hv2⟩ := hshape
  have hS : Same g.toList w.heap.size w w' := ⟨hg.os, hg.tape, hg.output, hg.size, fun k hk hn => hg.block k hk (fun e => hn (by rw [Option.mem_toList, ← h.og]; exact e.symm))⟩
  have hwb : wb ∉ g.toList := fun e => h.ne (by rw [Option.mem_toList] at e; exact e)
  have lw := h.lt
  have cw : can w' ⟨wb, 0, none⟩ := ⟨⟨v, by rw [hS.cell (p := ⟨wb, 0, none⟩) lw hwb]; exact h.c⟩, by rw [hS.frozen (p := ⟨wb, 0, none⟩) lw hwb]; exact h.f 0⟩
  have gv : v'.ownBlock = g ∨ ∃ k, v'.ownBlock = some k ∧ w.heap.size ≤ k := by
    by_cases hroom : v'.ownBlock = g
    · exact .inl hroom
    · -- a new block
      cases hk : v'.ownBlock with
      | none =>
        exfalso
        rw [hk] at hroom
        rcases ho.2 with ⟨h1, h2⟩ | ⟨k, cap, cur, h1, _⟩
        · have hm0 : l.length = 0 ∧ m = 0 := by omega
          rcases h.o.2 with ⟨g1, _⟩ | ⟨k, cap, cur, g1, _, gg, gc, _⟩
          · apply hroom
            rw [← h.og, g1]; rfl
          · have hr2 := run_append_room (P := Try.prog) w T_sl_uint8 T_sl_uint8 T_uint8 _ hE.ht hE.hi k l.length cap cur gg a m c (nums ns) (by rw [hE.hsize]; simp [hl]) hc (fun u hu => by
              simp only [List.mem_map] at hu; obtain ⟨x, _, rfl⟩ := hu; rfl) (by omega) (by rw [hE.hsize]; simp; omega)
            rw [← hv, g1] at hr
            rw [hr2] at hr
            (first | (injection hr with z__; injection z__ with e1 e2) | injection hr with e1 e2)
            rw [h1] at e1
            cases e1
        · rw [h1] at hk; cases hk
      | some k =>
        refine .inr ⟨k, rfl, ?_⟩
        rcases Nat.lt_or_ge k w.heap.size with hlt | hge
        · exfalso
          rcases h.o.2 with ⟨g1, g2⟩ | ⟨k1, cap, cur, g1, _, gg, gc, _, gs, _⟩
          · -- from nil: what is new is new
            by_cases hm0 : m = 0
            · have hn : ns = [] := List.eq_nil_of_length_eq_zero (by omega)
              have hr0 : (Builtin.append_ #[T_sl_uint8, T_sl_uint8] T_sl_uint8 #[.slice none 0 0, .slice (some a) 0 c]).run Try.prog w = .ok (.slice none 0 0) w := by
                simp [Builtin.append_, run_underlying hE.ht, sizeOf, typeInfo, hE.hi, Builtin.lenOf, Builtin.firstCells, loadCells, loadCellsFrom]
              rw [← hv, g1, hm0, hr0] at hr
              (first | (injection hr with z__; injection z__ with e1 e2) | injection hr with e1 e2)
              rw [← e1] at hk; cases hk
            · have hr0 := run_append_nil (P := Try.prog) w T_sl_uint8 T_sl_uint8 T_uint8 _ _ hE.ht hE.hi hE.hz a m c (nums ns) (by rw [hE.hsize]; simp [hl]) hc (by omega) (by omega) (by rw [hE.hby]; omega)
              rw [← hv, g1, hr0] at hr
              (first | (injection hr with z__; injection z__ with e1 e2) | injection hr with e1 e2)
              rw [← e1] at hk
              injection hk with hk
              simp at hk
              omega
          · by_cases hroom2 : l.length + m ≤ cap
            · have hr2 := run_append_room (P := Try.prog) w T_sl_uint8 T_sl_uint8 T_uint8 _ hE.ht hE.hi k1 l.length cap cur gg a m c (nums ns) (by rw [hE.hsize]; simp [hl]) hc (fun u hu => by
                simp only [List.mem_map] at hu; obtain ⟨x, _, rfl⟩ := hu; rfl) hroom2 (by rw [hE.hsize]; simp [hl]; omega)
              rw [← hv, g1, hr2] at hr
              (first | (injection hr with z__; injection z__ with e1 e2) | injection hr with e1 e2)
              apply hroom
              rw [hk, ← h.og, g1]
              rw [← e1] at hk
              exact hk.symm
            · have hr2 := run_append_grow (P := Try.prog) w T_sl_uint8 T_sl_uint8 T_uint8 _ _ hE.ht hE.hi hE.hz ⟨k1, 0, none⟩ l.length cap (nums l) (by rw [hE.hsize]; simp) (h.o.cells (by rw [g1]; rfl)) a m c (nums ns) (by rw [hE.hsize]; simp [hl]) hc (by omega) (by omega) (growslice_fits (by omega) (by rw [hE.hby]; omega))
              rw [← hv, g1, hr2] at hr
              (first | (injection hr with z__; injection z__ with e1 e2) | injection hr with e1 e2)
              rw [← e1] at hk
              injection hk with hk
              simp at hk
              omega
        · exact hge
  rw [hv2] at hr
  refine ⟨_, _, _, w', hr, cw, letW_intro fun w2 hw2 => ?_⟩
  have hne2 : v'.ownBlock ≠ some wb := by
    rcases gv with e | ⟨k, e, hk⟩
    · rw [e]; exact h.ne
    · rw [e]; intro e2; injection e2 with e2; omega
  have hw2' : w2 = w'.setCell ⟨wb, 0, none⟩ v' := by rw [hw2, hv2]
  refine ⟨by trivial, v'.ownBlock, v', ⟨?_, fun j => ?_, ?_, rfl, hne2⟩, ⟨gv, ?_⟩⟩
  · obtain ⟨⟨u, hu⟩, _⟩ := cw
    rw [hw2', cell_setCell, if_pos ⟨rfl, rfl⟩, hu]; rfl
  · rw [hw2', World.frozen?_setCell, hS.frozen (p := ⟨wb, j, none⟩) lw hwb]; exact h.f j
  · rw [hw2']; exact ownsRow_setCell_other ho2 hne2 v'
  · rw [hw2']
    exact (hS.mono (Nat.le_refl _) (by intro k hk _; exact List.mem_cons_of_mem _ hk)).setCell (.inr (by simp)) _

/-- Some bytes of the caller's own. -/
theorem puts {w : World} {wb : Nat} {l : List Int} {g : Option Nat} {v : Value} (h : EW w wb l g v) (ns : List Int) (hb : l.length + ns.length ≤ 1000000) {C : World → Prop} {Q : Value → World → Prop} (cs : Array Value) (hcs : cs = (nums ns).toArray) (n : Nat) (hn : n = ns.length)
    (hK : ∀ w' g' u, EW w' wb (l ++ ns) g' u → WS w w' wb g g' → C w') :
    letB (Array.size (World.heap w)) fun b1 => letW (World.alloc w (.cells cs T_uint8)) fun w2 => (RunsQ Try.prog bin_writer_bytes.id #[rp wb, (.slice (some ⟨b1, 0, none⟩) n n)] w2 (fun r w' => r = .tuple #[] ∧ C w') Q) := by
  refine letB_intro fun b1 hb1 => letW_intro fun w2 hw2 => ?_
  have S2 : Same [] w.heap.size w w2 := by rw [hw2]; exact (Same.refl _ _ _).alloc (Nat.le_refl _) _
  have h2 := h.same S2 (by simp) (by simp)
  subst hn
  refine (bytes_spec h2 ⟨b1, 0, none⟩ ns.length ns.length ns rfl (fun j u hu => ?_) hb).into (fun w' g' u hE hS => ⟨rfl, hK w' g' u hE ((WS.of wb g S2).trans hS)⟩)
  rw [add_mk, Nat.zero_add, hw2, hb1, World.cell?_alloc_new, hcs]
  simpa using hu
theorem put1 {w : World} {wb : Nat} {l : List Int} {g : Option Nat} {v : Value} (h : EW w wb l g v) (x : Int) (hb : l.length + 1 ≤ 1000000) {C : World → Prop} {Q : Value → World → Prop}
    (hK : ∀ w' g' u, EW w' wb (l ++ [x]) g' u → WS w w' wb g g' → C w') :
    letB (Array.size (World.heap w)) fun b1 => letW (World.alloc w (.cells #[(.int .u8 x)] T_uint8)) fun w2 => (RunsQ Try.prog bin_writer_bytes.id #[rp wb, (.slice (some ⟨b1, 0, none⟩) 1 1)] w2 (fun r w' => r = .tuple #[] ∧ C w') Q) :=
  puts h [x] hb _ rfl 1 rfl hK

end Go.Proofs.Qxb6500316a
