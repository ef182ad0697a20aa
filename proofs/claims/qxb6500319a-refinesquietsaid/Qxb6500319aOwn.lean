/-
  Slices that a call has made for itself, element by element. Program-independent but for its name.
-/
import Derived.Test.Qxb6500319aLib
import Derived.OneCell
set_option linter.unusedSimpArgs false
set_option linter.unusedVariables false
namespace Go.Vc
open Go Go.RowKit

def ob (v : Value) : List Nat := v.ownBlock.toList

theorem mem_ob {v : Value} {k : Nat} : k ∈ ob v ↔ v.ownBlock = some k := by
  unfold ob; cases v.ownBlock <;> simp [eq_comm]

theorem own_heap {w : World} {base : Nat} {e : TypeId} {v : Value} {n : Nat} {xs : List Value} (h : w.ownsRow base e 1 v n xs) {g : Nat} (hg : v.ownBlock = some g) : ∃ cur, w.heap[g]? = some (.cells cur e (0, 0)) := by
  rcases h.2 with ⟨rfl, _⟩ | ⟨g', cap, cur, rfl, _, hh, _⟩
  · simp [Value.ownBlock] at hg
  · simp [Value.ownBlock] at hg
    subst hg
    exact ⟨cur, hh⟩

theorem own_lt {w : World} {base : Nat} {e : TypeId} {v : Value} {n : Nat} {xs : List Value} (h : w.ownsRow base e 1 v n xs) {g : Nat} (hg : v.ownBlock = some g) : g < w.heap.size := (h.lt g hg).2

/-- Rows of different element types lie in different blocks. -/
theorem own_ne {w : World} {b1 b2 : Nat} {e1 e2 : TypeId} {v1 v2 : Value} {n1 n2 : Nat} {xs ys : List Value} (h1 : w.ownsRow b1 e1 1 v1 n1 xs) (h2 : w.ownsRow b2 e2 1 v2 n2 ys) (he : e1 ≠ e2) {g : Nat} (hg : v1.ownBlock = some g) : v2.ownBlock ≠ some g := by
  intro hg2
  obtain ⟨c1, q1⟩ := own_heap h1 hg
  obtain ⟨c2, q2⟩ := own_heap h2 hg2
  rw [q1] at q2
  simp at q2
  exact he q2.2

theorem own_ne_block {w : World} {b1 : Nat} {e1 e2 : TypeId} {v1 : Value} {n1 : Nat} {xs : List Value} (h1 : w.ownsRow b1 e1 1 v1 n1 xs) {p : Nat} {cs : Array Value} (h2 : w.heap[p]? = some (.cells cs e2 (0, 0))) (he : e1 ≠ e2) : v1.ownBlock ≠ some p := by
  intro hg
  obtain ⟨c1, q1⟩ := own_heap h1 hg
  rw [q1] at h2
  simp at h2
  exact he h2.2

theorem own_form {w : World} {base : Nat} {e : TypeId} {v : Value} {n : Nat} {xs : List Value} (h : w.ownsRow base e 1 v n xs) : ∃ a c, v = .slice a n c ∧ n ≤ c := by
  rcases h.2 with ⟨rfl, rfl⟩ | ⟨g, cap, cur, rfl, _, _, hc, _⟩
  · exact ⟨_, _, rfl, Nat.le_refl _⟩
  · exact ⟨_, _, rfl, hc⟩

theorem own_get {w : World} {base : Nat} {e : TypeId} {a : Option Addr} {c n : Nat} {f : Nat → Value} (h : w.ownsRow base e 1 (.slice a n c) n ((List.range n).map f)) {j : Nat} (hj : j < n) :
    ∃ g, a = some ⟨g, 0, none⟩ ∧ w.cell? ⟨g, j, none⟩ = some (f j) ∧ w.frozen? ⟨g, j, none⟩ = false := by
  rcases h.2 with ⟨hv, rfl⟩ | ⟨g, cap, cur, hv, _, hh, _⟩
  · omega
  · simp at hv
    obtain ⟨rfl, rfl⟩ := hv
    refine ⟨g, rfl, ?_, by simp [World.frozen?, hh]⟩
    have := h.cells (g := g) rfl j (f j) (by simp [hj])
    rwa [add_mk, Nat.zero_add] at this

theorem own_set {w : World} {base : Nat} {e : TypeId} {v : Value} {n : Nat} {f : Nat → Value} (h : w.ownsRow base e 1 v n ((List.range n).map f)) {g : Nat} (hg : v.ownBlock = some g) {j : Nat} (hj : j < n) (u : Value) :
    (w.setCell ⟨g, j, none⟩ u).ownsRow base e 1 v n ((List.range n).map fun i => if i = j then u else f i) := by
  refine ⟨by simp, ?_⟩
  rcases h.2 with ⟨rfl, _⟩ | ⟨g', cap, cur, rfl, hb, hh, hc, hm, hs, ht⟩
  · simp [Value.ownBlock] at hg
  · simp [Value.ownBlock] at hg
    subst hg
    refine .inr ⟨g', cap, cur.setIfInBounds j u, rfl, hb, heap_setCell_same w g' j cur e u hh, hc, hm, by simpa using hs, ?_⟩
    rw [Array.toList_setIfInBounds, List.take_set, ht]
    apply List.ext_getElem
    · simp
    · intro i h1 h2
      simp only [List.length_map, List.length_range] at h2
      simp only [List.getElem_set, List.getElem_map, List.getElem_range]
      by_cases hij : j = i
      · subst hij; simp
      · rw [if_neg hij, if_neg (by omega)]

theorem own_same {w w' : World} {base : Nat} {e : TypeId} {v : Value} {n : Nat} {xs : List Value} (h : w.ownsRow base e 1 v n xs) {S : List Nat} {B : Nat} (hS : Same S B w w') (hb : ∀ k, v.ownBlock = some k → k < B ∧ k ∉ S) : w'.ownsRow base e 1 v n xs := by
  refine ⟨h.1, ?_⟩
  rcases h.2 with hn | ⟨g, cap, cur, rfl, hb', hh, rest⟩
  · exact .inl hn
  · have := hb g rfl
    exact .inr ⟨g, cap, cur, rfl, hb', by rw [hS.block g this.1 this.2]; exact hh, rest⟩

theorem own_make {P : Program} {t e : TypeId} {i : TypeInfo} {z : Value} {bytes : Nat} (hE : Elem P t e i z 1 bytes) (hz1 : z.cells = #[z]) (w : World) (kl kc : IntKind) (n : Nat) (hn : n ≤ 1000) (hb : bytes ≤ 8) :
    ∃ w1, (Instr.makeSlice t (.int kl n) (.int kc n)).run P w = .ok (.slice (some ⟨w.heap.size, 0, none⟩) n n) w1 ∧ w1.ownsRow 0 e 1 (.slice (some ⟨w.heap.size, 0, none⟩) n n) n ((List.range n).map fun _ => z) ∧ Same [] w.heap.size w w1 := by
  have hr := run_make (P := P) w t e i z hE.ht hE.hi hE.hz kl kc n n (by omega) (by omega) (by rw [hE.hby]; have : (bytes : Int) * n ≤ 8 * 1000 := Int.mul_le_mul (by omega) (by omega) (by omega) (by omega); omega) (by omega)
  rw [Int.toNat_natCast, hE.hsize, Nat.mul_one] at hr
  refine ⟨_, hr, ⟨by simp, .inr ⟨w.heap.size, n, _, rfl, Nat.zero_le _, heap_alloc_new w _, Nat.le_refl _, by simp only [maxLen]; omega, by simp [madeCells], ?_⟩⟩, (Same.refl _ _ _).alloc (Nat.le_refl _) _⟩
  apply List.ext_getElem
  · simp [madeCells]
  · intro j h1 h2
    simp [madeCells, hz1, Nat.mod_one]

theorem own_append {P : Program} {t e : TypeId} {i : TypeInfo} {z : Value} {bytes : Nat} (hE : Elem P t e i z 1 bytes) (ty : TypeId) (w : World) (a : Option Addr) (l c : Nat) (f : Nat → Value) (h : w.ownsRow 0 e 1 (.slice a l c) l ((List.range l).map f))
    (u : Value) (hu : u.oneCell' = true) (hl : l < 1000) (hb : bytes ≤ 8) :
    ∃ (a' : Option Addr) (c' : Nat) (w1 : World), (Builtin.append_ #[t, t] ty #[.slice a l c, .slice (some ⟨w.heap.size, 0, none⟩) 1 1]).run P (w.alloc (.cells #[u] e)) = .ok (.slice a' (l + 1) c') w1 ∧
      w1.ownsRow 0 e 1 (.slice a' (l + 1) c') (l + 1) ((List.range (l + 1)).map fun j => if j = l then u else f j) ∧ Same (ob (.slice a l c)) w.heap.size w w1 ∧
      (∀ k, (Value.slice a' (l + 1) c').ownBlock = some k → (Value.slice a l c).ownBlock = some k ∨ w.heap.size ≤ k) := by
  have hlb : (l + 1) * bytes ≤ 1000 * 8 := Nat.mul_le_mul (by omega) hb
  have hnews : ∀ j v, [u][j]? = some v → (w.alloc (.cells #[u] e)).cell? ((⟨w.heap.size, 0, none⟩ : Addr).add j) = some v := fun j v hj => by
    rw [add_mk, Nat.zero_add, World.cell?_alloc_new]; simpa using hj
  have h63 : l + 1 ≤ maxLen := by simp only [maxLen]; omega
  obtain ⟨v', w1, hr, ho, hg, _⟩ := run_append_own (P := P) (w.alloc (.cells #[u] e)) 0 t ty e i z 1 bytes hE.ht hE.hi hE.hz hE.hsize hE.hby hE.hzs hE.hsz (.slice a l c) l _ (h.alloc _)
    ⟨w.heap.size, 0, none⟩ 1 1 [u] rfl hnews (by simpa using hu) h63 (by omega) (by simp)
  have hS : Same (ob (.slice a l c)) w.heap.size w w1 := by
    refine ((Same.refl _ _ _).alloc (Nat.le_refl _) _).trans ⟨hg.os, hg.tape, hg.output, hg.size, fun k hk hs => hg.block k (by simp; omega) (fun he => hs (mem_ob.2 he.symm))⟩
  have hx : (List.range l).map f ++ [u] = (List.range (l + 1)).map fun j => if j = l then u else f j := by
    rw [List.range_succ, List.map_append]
    congr 1
    · apply List.map_congr_left
      intro j hj
      have : j < l := by simpa using hj
      rw [if_neg (by omega)]
    · simp
  rw [hx] at ho
  have hfresh : ∀ k, v'.ownBlock = some k → (Value.slice a l c).ownBlock = some k ∨ w.heap.size ≤ k := by
    intro k hk
    rcases h.2 with ⟨hv, rfl⟩ | ⟨g, cap, cur, hv, _, hh, hnc, hcm, hcs, htake⟩
    · simp at hv
      obtain ⟨rfl, rfl⟩ := hv
      have hr2 := run_append_nil (P := P) (w.alloc (.cells #[u] e)) t ty e i z hE.ht hE.hi hE.hz ⟨w.heap.size, 0, none⟩ 1 1 [u] (by rw [hE.hsize]; rfl) hnews (by omega) (by omega) (by rw [hE.hby]; omega)
      rw [hr] at hr2
      simp only [Result.ok.injEq] at hr2
      rw [hr2.1] at hk
      simp [Value.ownBlock] at hk
      right; omega
    · simp at hv
      obtain ⟨rfl, rfl⟩ := hv
      by_cases hroom : l + 1 ≤ c
      · have hh2 : (w.alloc (.cells #[u] e)).heap[g]? = some (.cells cur e (0, 0)) := by
          rw [heap_alloc_old w _ g (own_lt h rfl)]; exact hh
        have hr2 := run_append_room (P := P) (w.alloc (.cells #[u] e)) t ty e i hE.ht hE.hi g l c cur hh2 ⟨w.heap.size, 0, none⟩ 1 1 [u] (by rw [hE.hsize]; rfl) hnews (by simpa using hu) hroom (by rw [hE.hsize, hcs]; simp; omega)
        rw [hr] at hr2
        simp only [Result.ok.injEq] at hr2
        rw [hr2.1] at hk
        left
        simpa [Value.ownBlock] using hk
      · have hr2 := run_append_grow (P := P) (w.alloc (.cells #[u] e)) t ty e i z hE.ht hE.hi hE.hz ⟨g, 0, none⟩ l c ((List.range l).map f) (by rw [hE.hsize]; simp) ((h.alloc _).cells (g := g) rfl) ⟨w.heap.size, 0, none⟩ 1 1 [u] (by rw [hE.hsize]; rfl) hnews (by omega) (by simp only [maxLen] at h63; omega) (growslice_fits (by omega) (by rw [hE.hby]; omega))
        rw [hr] at hr2
        simp only [Result.ok.injEq] at hr2
        rw [hr2.1] at hk
        simp [Value.ownBlock] at hk
        right; omega
  obtain ⟨a', c', rfl, _⟩ := own_form ho
  exact ⟨a', c', w1, hr, ho, hS, hfresh⟩

end Go.Vc
