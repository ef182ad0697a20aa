/-
  Rows that grow.
-/
import Derived.Test.Qxb6500317aGreatDcO
import Derived.Maps.AppendAt
set_option linter.unusedSimpArgs false
set_option linter.unusedVariables false
set_option maxRecDepth 100000
set_option linter.unusedSectionVars false
namespace Go.Proofs.Qxb6500317aGreat
open Go Go.Vc

/-! ### Rows -/
def obk (v : Value) : List Nat := v.ownBlock.toList
theorem mem_obk {v : Value} {k : Nat} : k ∈ obk v ↔ v.ownBlock = some k := by
  unfold obk; cases v.ownBlock <;> simp [eq_comm]
section
variable {w w' : World} {base sz n : Nat} {e : TypeId} {v : Value} {xs : List Value}
theorem row_heap (h : w.ownsRow base e sz v n xs) {g : Nat} (hg : v.ownBlock = some g) : ∃ cur, w.heap[g]? = some (.cells cur e (0, 0)) := by
  rcases h.2 with ⟨rfl, _⟩ | ⟨g', cap, cur, rfl, _, hh, _⟩
  · simp [Value.ownBlock] at hg
  · simp [Value.ownBlock] at hg
    subst hg
    exact ⟨cur, hh⟩
theorem row_same (h : w.ownsRow base e sz v n xs) {S : List Nat} {B : Nat} (hS : Same S B w w') (hb : ∀ k, v.ownBlock = some k → k < B ∧ k ∉ S) : w'.ownsRow base e sz v n xs := by
  refine ⟨h.1, ?_⟩
  rcases h.2 with hn | ⟨g, cap, cur, rfl, hb', hh, rest⟩
  · exact .inl hn
  · have := hb g rfl
    exact .inr ⟨g, cap, cur, rfl, hb', by rw [hS.block g this.1 this.2]; exact hh, rest⟩
theorem row_keep (h : w.ownsRow base e sz v n xs) (hS : Same [] w.heap.size w w') : w'.ownsRow base e sz v n xs := row_same h hS (fun k hk => ⟨(h.lt k hk).2, by simp⟩)
theorem row_apart {e2 : TypeId} {sz2 n2 : Nat} {v2 : Value} {ys : List Value} (h1 : w.ownsRow base e sz v n xs) (h2 : w.ownsRow base e2 sz2 v2 n2 ys) (he : e ≠ e2) {g : Nat} (hg : v.ownBlock = some g) : v2.ownBlock ≠ some g := by
  intro hg2
  obtain ⟨c1, q1⟩ := row_heap h1 hg
  obtain ⟨c2, q2⟩ := row_heap h2 hg2
  rw [q1] at q2
  simp at q2
  exact he q2.2
theorem row_get {a : Option Addr} {c : Nat} (h : w.ownsRow base e sz (.slice a n c) n xs) (h0 : n ≠ 0) : ∃ g, a = some ⟨g, 0, none⟩ ∧ base ≤ g ∧ g < w.heap.size ∧ n ≤ c ∧ ∀ j u, xs[j]? = some u → w.cell? ⟨g, j, none⟩ = some u := by
  rcases h.2 with ⟨hv, hn⟩ | ⟨g, cap, cur, hv, hb, hh, hc, _⟩
  · exact absurd hn h0
  · simp at hv
    obtain ⟨rfl, rfl⟩ := hv
    refine ⟨g, rfl, hb, (h.lt g rfl).2, hc, fun j u hj => ?_⟩
    have := h.cells (g := g) rfl j u hj
    rwa [add_mk, Nat.zero_add] at this
theorem row_form (h : w.ownsRow base e sz v n xs) : ∃ a c, v = .slice a n c ∧ n ≤ c := by
  rcases h.2 with ⟨rfl, rfl⟩ | ⟨g, cap, cur, rfl, _, _, hc, _⟩
  · exact ⟨_, _, rfl, Nat.le_refl _⟩
  · exact ⟨_, _, rfl, hc⟩
/-- One element more. -/
theorem row_app {P : Program} {t : TypeId} {i : TypeInfo} {z : Value} {bytes : Nat} (hE : Elem P t e i z sz bytes) (ty : TypeId) {a : Option Addr} {l c : Nat} (h : w.ownsRow base e sz (.slice a l c) l xs) (us : List Value) (hus : us.length = sz) (hu : ∀ u ∈ us, u.oneCell' = true) (hl : l < 1000) (hb : bytes ≤ 1000) (hbase : base ≤ w.heap.size)
    {b : Nat} {w1 : World} (hb1 : b = w.heap.size) (hw : w1 = w.alloc (.cells us.toArray e)) :
    ∃ (a' : Option Addr) (c' : Nat) (w2 : World), Sem.run P (Builtin.append_ #[t, t] ty #[.slice a l c, .slice (some ⟨b, 0, none⟩) 1 1]) w1 = .ok (.slice a' (l + 1) c') w2 ∧
      w2.ownsRow base e sz (.slice a' (l + 1) c') (l + 1) (xs ++ us) ∧ Same (obk (.slice a l c)) w.heap.size w w2 ∧ (∀ k, (Value.slice a' (l + 1) c').ownBlock = some k → (Value.slice a l c).ownBlock = some k ∨ w.heap.size ≤ k) := by
  subst hb1 hw
  have hlb : (l + 1) * bytes ≤ 1000 * 1000 := Nat.mul_le_mul (by omega) hb
  have hnews : ∀ j v, us[j]? = some v → (w.alloc (.cells us.toArray e)).cell? ((⟨w.heap.size, 0, none⟩ : Addr).add j) = some v := fun j v hj => by
    rw [add_mk, Nat.zero_add, World.cell?_alloc_new]; simpa using hj
  have h63 : l + 1 ≤ maxLen := by simp only [maxLen]; omega
  obtain ⟨v', w2, hr, ho, hg, _, hf⟩ := run_append_own_at (P := P) (w := w.alloc (.cells us.toArray e)) base t ty e i z sz bytes hE.ht hE.hi hE.hz hE.hsize hE.hby hE.hzs hE.hsz (.slice a l c) l xs (h.alloc _)
    ⟨w.heap.size, 0, none⟩ 1 1 us (by rw [hus, Nat.one_mul]) hnews hu h63 (by omega) (by simp; omega)
  have hS : Same (obk (.slice a l c)) w.heap.size w w2 :=
    ((Same.refl _ _ _).alloc (Nat.le_refl _) _).trans ⟨hg.os, hg.tape, hg.output, hg.size, fun k hk hs => hg.block k (by simp; omega) (fun he => hs (mem_obk.2 he.symm))⟩
  obtain ⟨a', c', rfl, _⟩ := row_form ho
  refine ⟨a', c', w2, hr, ho, hS, fun k hk => ?_⟩
  rcases hf with q | q
  · rw [q] at hk; exact .inl hk
  · rw [q] at hk
    right
    injection hk with hk
    simp at hk
    omega
end


theorem ne_obk {w : World} {b1 b2 : Nat} {v v2 : Value} {e e2 : TypeId} {n n2 sz sz2 : Nat} {xs ys : List Value} (h1 : w.ownsRow b1 e sz v n xs) (h2 : w.ownsRow b2 e2 sz2 v2 n2 ys) (he : e ≠ e2) : ∀ k, v2.ownBlock = some k → k < w.heap.size ∧ k ∉ obk v :=
  fun k hk => ⟨(h2.lt k hk).2, fun hm => by
    obtain ⟨c1, q1⟩ := row_heap h1 (mem_obk.1 hm)
    obtain ⟨c2, q2⟩ := row_heap h2 hk
    rw [q1] at q2
    simp at q2
    exact he q2.2⟩
/-- The cells of a row of n. -/
def rowV {α : Type} (enc : α → List Value) (f : Nat → α) : Nat → List Value
  | 0 => []
  | n + 1 => rowV enc f n ++ enc (f n)
section
variable {α : Type} {enc : α → List Value} {f g : Nat → α} {sz : Nat}
theorem rowV_congr : ∀ n, (∀ j, j < n → f j = g j) → rowV enc f n = rowV enc g n
  | 0, _ => rfl
  | n + 1, h => by
    show rowV enc f n ++ enc (f n) = rowV enc g n ++ enc (g n)
    rw [rowV_congr n (fun j hj => h j (by omega)), h n (by omega)]
theorem rowV_upd (n : Nat) (x : α) : rowV enc (upd f n x) (n + 1) = rowV enc f n ++ enc x := by
  show rowV enc (upd f n x) n ++ enc (upd f n x n) = _
  rw [rowV_congr (g := f) n (fun j hj => by unfold upd; rw [if_neg (by omega)])]
  unfold upd; rw [if_pos rfl]
theorem rowV_len (h : ∀ a, (enc a).length = sz) : ∀ n, (rowV enc f n).length = n * sz
  | 0 => by simp [rowV]
  | n + 1 => by
    show (rowV enc f n ++ enc (f n)).length = _
    rw [List.length_append, rowV_len h n, h, Nat.succ_mul]
theorem rowV_get (h : ∀ a, (enc a).length = sz) : ∀ (n j k : Nat), j < n → k < sz → (rowV enc f n)[j * sz + k]? = (enc (f j))[k]?
  | n + 1, j, k, hj, hk => by
    show (rowV enc f n ++ enc (f n))[j * sz + k]? = _
    have hl := rowV_len (f := f) h n
    by_cases hjn : j = n
    · subst hjn
      rw [List.getElem?_append_right (by rw [hl]; omega), hl, Nat.add_sub_cancel_left]
    · have : (j + 1) * sz ≤ n * sz := Nat.mul_le_mul_right _ (by omega)
      rw [Nat.succ_mul] at this
      rw [List.getElem?_append_left (by rw [hl]; omega)]
      exact rowV_get h n j k (by omega) hk
/-- What a row of n holds. -/
theorem row_at {w : World} {base n : Nat} {e : TypeId} {a : Option Addr} {c : Nat} (h : ∀ a, (enc a).length = sz) (hr : w.ownsRow base e sz (.slice a n c) n (rowV enc f n)) {j : Nat} (hj : j < n) : ∃ b, a = some ⟨b, 0, none⟩ ∧ base ≤ b ∧ b < w.heap.size ∧ ∀ k v, (enc (f j))[k]? = some v → w.cell? ⟨b, j * sz + k, none⟩ = some v := by
  obtain ⟨b, rfl, h1, h2, _, h3⟩ := row_get hr (by omega)
  refine ⟨b, rfl, h1, h2, fun k v hk => h3 _ _ ?_⟩
  have : k < sz := by
    rw [← h (f j)]
    exact (List.getElem?_eq_some_iff.1 hk).1
  rw [rowV_get h n j k hj this]
  exact hk
end
end Go.Proofs.Qxb6500317aGreat
