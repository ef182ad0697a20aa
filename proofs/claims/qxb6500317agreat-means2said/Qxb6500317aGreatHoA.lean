/-
  The host in memory; the functions that look at it.
-/
import Derived.Test.Qxb6500317aGreatRoA
import Derived.Test.Qxb6500317aGreatApi
set_option linter.unusedSimpArgs false
set_option linter.unusedVariables false
set_option maxRecDepth 100000
set_option linter.unusedSectionVars false
namespace Go.Proofs.Qxb6500317aGreat
open Go Go.Vc

/-! ### Rows -/
section
variable {w w' : World} {base sz n : Nat} {e : TypeId} {xs : List Value}
theorem row_cut {a : Option Addr} {c : Nat} (h : w.ownsRow base e sz (.slice a n c) n xs) : w.ownsRow base e sz (.slice a 0 c) 0 [] := by
  refine ⟨by simp, ?_⟩
  rcases h.2 with ⟨hv, hn⟩ | ⟨g, cap, cur, hv, hb, hh, hc, hm, hs, ht⟩
  · injection hv with h1 h2 h3
    subst h1 h3
    exact .inl ⟨rfl, rfl⟩
  · injection hv with h1 h2 h3
    subst h1 h3
    exact .inr ⟨g, c, cur, rfl, hb, hh, Nat.zero_le _, hm, hs, by simp⟩
theorem row_addr {a : Option Addr} {c : Nat} (h : w.ownsRow base e sz (.slice a n c) n xs) (s : Nat) : slAddr a 0 c s = a := by
  unfold slAddr
  rcases h.2 with ⟨hv, hn⟩ | ⟨g, cap, cur, hv, hb, hh, hc, hm, hs, ht⟩
  · injection hv with h1 h2 h3
    subst h1 h3
    rfl
  · injection hv with h1 h2 h3
    subst h1 h3
    split
    · rfl
    · simp only [Option.map_some, Nat.zero_mul, add_mk, Nat.add_zero]
/-- m elements more, out of a block that lies there. -/
theorem row_more {P : Program} {t : TypeId} {i : TypeInfo} {z : Value} {bytes : Nat} (hE : Elem P t e i z sz bytes) (ty : TypeId) {a : Option Addr} {l c : Nat} (h : w.ownsRow base e sz (.slice a l c) l xs) (us : List Value) (m cm : Nat) (ad : Addr) (hus : us.length = m * sz) (hu : ∀ u ∈ us, u.oneCell' = true) (hl : l ≤ 10000) (hm : m ≤ 1000) (hb : bytes ≤ 1000) (hbase : base ≤ w.heap.size)
    (hnews : ∀ j v, us[j]? = some v → w.cell? (ad.add j) = some v) :
    ∃ (a' : Option Addr) (c' : Nat) (w2 : World), Sem.run P (Builtin.append_ #[t, t] ty #[.slice a l c, .slice (some ad) m cm]) w = .ok (.slice a' (l + m) c') w2 ∧
      w2.ownsRow base e sz (.slice a' (l + m) c') (l + m) (xs ++ us) ∧ Same (obk (.slice a l c)) w.heap.size w w2 ∧ (∀ k, (Value.slice a' (l + m) c').ownBlock = some k → (Value.slice a l c).ownBlock = some k ∨ w.heap.size ≤ k) := by
  have hlb : (l + m) * bytes ≤ 11000 * 1000 := Nat.mul_le_mul (by omega) hb
  have h63 : l + m ≤ maxLen := by simp only [maxLen]; omega
  obtain ⟨v', w2, hr, ho, hg, _, hf⟩ := run_append_own_at (P := P) (w := w) base t ty e i z sz bytes hE.ht hE.hi hE.hz hE.hsize hE.hby hE.hzs hE.hsz (.slice a l c) l xs h
    ad m cm us hus hnews hu h63 (by omega) hbase
  have hS : Same (obk (.slice a l c)) w.heap.size w w2 := ⟨hg.os, hg.tape, hg.output, hg.size, fun k hk hs => hg.block k (by omega) (fun he => hs (mem_obk.2 he.symm))⟩
  obtain ⟨a', c', rfl, _⟩ := row_form ho
  refine ⟨a', c', w2, hr, ho, hS, fun k hk => ?_⟩
  rcases hf with q | q
  · rw [q] at hk; exact .inl hk
  · rw [q] at hk
    right
    injection hk with hk
    omega
end

/-! ### The host -/
structure HS where
  n : Nat
  k : Nat → Nat
  tape : Nat → Int
  head : Nat
  left : Nat
  tr : List Int
  rows : Nat
def fnC (x : TypeId × Value) : List Value := [.iface x.1 x.2]
def tbs (l : List Int) : List Value := l.map fun x => Value.int .u8 x
theorem tbs_app (l m : List Int) : tbs (l ++ m) = tbs l ++ tbs m := List.map_append
theorem tbs_len (l : List Int) : (tbs l).length = l.length := List.length_map ..
/-- A host function of kind k, that a host in block hb has bound. -/
def FnAt (w : World) (hb : Nat) (F : List Nat) (k : Nat) (x : TypeId × Value) : Prop :=
  (k = 1 ∧ ∃ tb, x = (T_p_host_tapeFn, .pointer (some ⟨tb, 0, none⟩)) ∧ tb ∈ F ∧ w.heap[tb]? = some (.cells #[.func (.func host_Host_take.id) #[.pointer (some ⟨hb, 0, none⟩)] #[]] T_host_tapeFn (0, 0)))
  ∨ (k = 2 ∧ x = (T_host_zeroFn, .agg #[])) ∨ (k = 3 ∧ x = (T_host_sizeFn, .func (.func host_word.id) #[] #[]))
/-- The host in block hb; F: the other blocks that are its own. -/
structure HoAt (w : World) (hb : Nat) (F : List Nat) (h : HS) : Prop where
  bd : ∃ a c fns, w.cell? ⟨hb, 0, none⟩ = some (.slice a h.n c) ∧ w.ownsRow 0 T_host_Fn 1 (.slice a h.n c) h.n (rowV fnC fns h.n) ∧ (∀ d, (Value.slice a h.n c).ownBlock = some d → d ∈ F) ∧ ∀ j, j < h.n → FnAt w hb F (h.k j) (fns j)
  tp : ∀ j, j < 6 → w.cell? ⟨hb, 1 + j, none⟩ = some (.int .u64 (h.tape j))
  hd : w.cell? ⟨hb, 7, none⟩ = some (.int .i64 (h.head : Int))
  lf : w.cell? ⟨hb, 8, none⟩ = some (.int .i64 (h.left : Int))
  tr : ∃ a c, w.cell? ⟨hb, 9, none⟩ = some (.slice a h.tr.length c) ∧ w.ownsRow 0 T_uint8 1 (.slice a h.tr.length c) h.tr.length (tbs h.tr) ∧ (∀ d, (Value.slice a h.tr.length c).ownBlock = some d → d ∈ F)
  rw : w.cell? ⟨hb, 10, none⟩ = some (.int .i64 (h.rows : Int))
  fz : ∀ j, w.frozen? ⟨hb, j, none⟩ = false
  nF : hb ∉ F
  lF : ∀ k, k ∈ F → k < w.heap.size
  le : h.head + h.left ≤ 6
  n4 : h.n ≤ 4
  tw : ∀ j, 0 ≤ h.tape j ∧ h.tape j < 18446744073709551616
  rk : h.rows ≤ 12
  tl : h.tr.length ≤ 72 * h.rows
section
variable {w w' : World} {hb : Nat} {F : List Nat} {h : HS}
theorem HoAt.lt (H : HoAt w hb F h) : hb < w.heap.size := cell_lt H.hd
theorem FnAt.same {k : Nat} {x : TypeId × Value} (H : FnAt w hb F k x) {S : List Nat} (hs : Same S w.heap.size w w') (hF : ∀ d, d ∈ F → d < w.heap.size ∧ d ∉ S) : FnAt w' hb F k x := by
  rcases H with ⟨h1, tb, h2, h3, h4⟩ | h | h
  · exact .inl ⟨h1, tb, h2, h3, by rw [hs.block tb (hF tb h3).1 (hF tb h3).2]; exact h4⟩
  · exact .inr (.inl h)
  · exact .inr (.inr h)
theorem HoAt.same (H : HoAt w hb F h) {S : List Nat} (hs : Same S w.heap.size w w') (h1 : hb ∉ S) (h2 : ∀ d, d ∈ F → d ∉ S) : HoAt w' hb F h := by
  have l := H.lt
  have c : ∀ j, w'.cell? ⟨hb, j, none⟩ = w.cell? ⟨hb, j, none⟩ := fun j => hs.cell (p := ⟨hb, j, none⟩) l h1
  obtain ⟨a, cc, fns, b1, b2, b3, b4⟩ := H.bd
  obtain ⟨ta, tc, t1, t2, t3⟩ := H.tr
  refine ⟨⟨a, cc, fns, by rw [c]; exact b1, row_same b2 hs (fun k hk => ⟨(b2.lt k hk).2, h2 k (b3 k hk)⟩), b3, fun j hj => (b4 j hj).same hs (fun d hd => ⟨H.lF d hd, h2 d hd⟩)⟩, fun j hj => by rw [c]; exact H.tp j hj, by rw [c]; exact H.hd, by rw [c]; exact H.lf, ⟨ta, tc, by rw [c]; exact t1, row_same t2 hs (fun k hk => ⟨(t2.lt k hk).2, h2 k (t3 k hk)⟩), t3⟩, by rw [c]; exact H.rw, fun j => by rw [hs.frozen (p := ⟨hb, j, none⟩) l h1]; exact H.fz j, H.nF, fun k hk => by have := H.lF k hk; have := hs.size; omega, H.le, H.n4, H.tw, H.rk, H.tl⟩
theorem HoAt.keep (H : HoAt w hb F h) (hs : Same [] w.heap.size w w') : HoAt w' hb F h := H.same hs (by simp) (by simp)

/-! ### kind -/
theorem as_tape (tb : Nat) (w : World) : Sem.run Tryz.prog (Instr.typeAssert (.iface T_p_host_tapeFn (.pointer (some ⟨tb, 0, none⟩))) T_host_Fn T_p_host_tapeFn true) w = .ok (.tuple #[.pointer (some ⟨tb, 0, none⟩), .bool true]) w := by kernel_rfl
theorem as_zero1 (w : World) : Sem.run Tryz.prog (Instr.typeAssert (.iface T_host_zeroFn (.agg #[])) T_host_Fn T_p_host_tapeFn true) w = .ok (.tuple #[.pointer none, .bool false]) w := by kernel_rfl
theorem as_zero2 (w : World) : Sem.run Tryz.prog (Instr.typeAssert (.iface T_host_zeroFn (.agg #[])) T_host_Fn T_host_zeroFn true) w = .ok (.tuple #[.agg #[], .bool true]) w := by kernel_rfl
theorem as_size1 (w : World) : Sem.run Tryz.prog (Instr.typeAssert (.iface T_host_sizeFn (.func (.func host_word.id) #[] #[])) T_host_Fn T_p_host_tapeFn true) w = .ok (.tuple #[.pointer none, .bool false]) w := by kernel_rfl
theorem as_size2 (w : World) : Sem.run Tryz.prog (Instr.typeAssert (.iface T_host_sizeFn (.func (.func host_word.id) #[] #[])) T_host_Fn T_host_zeroFn true) w = .ok (.tuple #[.agg #[], .bool false]) w := by kernel_rfl
theorem as_size3 (w : World) : Sem.run Tryz.prog (Instr.typeAssert (.iface T_host_sizeFn (.func (.func host_word.id) #[] #[])) T_host_Fn T_host_sizeFn true) w = .ok (.tuple #[.func (.func host_word.id) #[] #[], .bool true]) w := by kernel_rfl
theorem kind_spec {k : Nat} {x : TypeId × Value} (H : FnAt w hb F k x) : Runs Tryz.prog host_kind.id #[.iface x.1 x.2] w fun v w' => v = .int .i64 (k : Int) ∧ w' = w := by
  refine host_kind.enter _ _ _ _ _ ?_
  unfold host_kind.V
  rcases H with ⟨rfl, tb, rfl, _⟩ | ⟨rfl, rfl⟩ | ⟨rfl, rfl⟩
  · exact ⟨_, _, _, as_tape tb w, cond_true' rfl ⟨rfl, rfl⟩⟩
  · exact ⟨_, _, _, as_zero1 w, cond_false' rfl ⟨_, _, as_zero2 w, cond_true' rfl ⟨rfl, rfl⟩⟩⟩
  · exact ⟨_, _, _, as_size1 w, cond_false' rfl ⟨_, _, as_size2 w, cond_false' rfl ⟨_, _, _, as_size3 w, cond_true' rfl ⟨rfl, rfl⟩⟩⟩⟩

/-! ### Fresh, take, Tape -/
theorem Fresh_spec (H : HoAt w hb F h) : Runs Tryz.prog host_Host_Fresh.id #[rp hb] w fun v w' => v = .tuple #[] ∧ HoAt w' hb F { { h with tr := [] } with rows := 0 } ∧ Same [hb] w.heap.size w w' := by
  obtain ⟨a, cc, fns, b1, b2, b3, b4⟩ := H.bd
  obtain ⟨ta, tc, t1, t2, t3⟩ := H.tr
  refine host_Host_Fresh.enter _ _ _ _ ?_
  unfold host_Host_Fresh.V
  simp only [nilV_some, Nat.zero_add]
  refine ⟨_, _, _, t1, by omega, ⟨⟨_, t1⟩, H.fz 9⟩, letW_intro fun w1 hw1 => ?_⟩
  rw [row_addr t2] at hw1
  have S1 : Same [hb] w.heap.size w w1 := by rw [hw1]; exact same_set _ _
  have c1 : ∀ j, w1.cell? ⟨hb, j, none⟩ = if j = 9 then some (.slice ta 0 tc) else w.cell? ⟨hb, j, none⟩ := fun j => by
    rw [hw1, cell_setCell]
    by_cases e : j = 9
    · subst e; rw [if_pos ⟨rfl, rfl⟩, if_pos rfl, t1]; rfl
    · rw [if_neg (by omega), if_neg e]
  have f1 : ∀ j, w1.frozen? ⟨hb, j, none⟩ = false := fun j => by rw [hw1, World.frozen?_setCell]; exact H.fz j
  clear hw1
  refine ⟨⟨⟨_, by rw [c1, if_neg (by decide)]; exact H.rw⟩, f1 10⟩, letW_intro fun w2 hw2 => ?_⟩
  have S2 : Same [hb] w.heap.size w w2 := by rw [hw2]; exact S1.setCell (.inr (by simp)) _
  have c2 : ∀ j, w2.cell? ⟨hb, j, none⟩ = if j = 10 then some (.int .i64 0) else if j = 9 then some (.slice ta 0 tc) else w.cell? ⟨hb, j, none⟩ := fun j => by
    rw [hw2, cell_setCell]
    by_cases e : j = 10
    · subst e; rw [if_pos ⟨rfl, rfl⟩, if_pos rfl, c1, if_neg (by decide), H.rw]; rfl
    · rw [if_neg (by omega), if_neg e, c1]
  have f2 : ∀ j, w2.frozen? ⟨hb, j, none⟩ = false := fun j => by rw [hw2, World.frozen?_setCell]; exact f1 j
  clear hw2
  have nF : ∀ d, d ∈ F → d ∉ [hb] := fun d hd => by simp; rintro rfl; exact H.nF hd
  have lF := H.lF
  have ow : ∀ (n m : Nat), (Value.slice ta n tc).ownBlock = (Value.slice ta m tc).ownBlock := fun n m => by cases ta <;> rfl
  refine ⟨by trivial, ⟨⟨a, cc, fns, by rw [c2, if_neg (by decide), if_neg (by decide)]; exact b1, row_same b2 S2 (fun k hk => ⟨(b2.lt k hk).2, nF k (b3 k hk)⟩), b3, fun j hj => (b4 j hj).same S2 (fun d hd => ⟨lF d hd, nF d hd⟩)⟩, fun j hj => by rw [c2, if_neg (by omega), if_neg (by omega)]; exact H.tp j hj, by rw [c2, if_neg (by decide), if_neg (by decide)]; exact H.hd, by rw [c2, if_neg (by decide), if_neg (by decide)]; exact H.lf, ⟨ta, tc, by rw [c2, if_neg (by decide), if_pos rfl]; rfl, row_same (row_cut t2) S2 (fun k hk => ⟨(t2.lt k ((ow _ _).trans hk)).2, nF k (t3 k ((ow _ _).trans hk))⟩), fun d hd => t3 d ((ow _ _).trans hd)⟩, by rw [c2, if_pos rfl]; rfl, f2, H.nF, fun k hk => by have := lF k hk; have := S2.size; omega, H.le, H.n4, H.tw, Nat.zero_le _, by simp⟩, S2⟩
end
end Go.Proofs.Qxb6500317aGreat
