/-
  The model of the compiler: rows that grow, the search, the effects.
-/
import Derived.Test.Qxb6500321aTrB
import Derived.Test.Qxb6500321aPlA
import Derived.Maps.AppendAt
set_option linter.unusedSimpArgs false
set_option linter.unusedVariables false
set_option maxRecDepth 100000
set_option linter.unusedSectionVars false
namespace Go.Proofs.Qxb6500321a
open Go Go.Vc

/-! ### Rows -/
def obk (v : Value) : List Nat := v.ownBlock.toList
theorem mem_obk {v : Value} {k : Nat} : k ∈ obk v ↔ v.ownBlock = some k := by
  unfold obk; cases v.ownBlock <;> simp [eq_comm]
section
variable {w w' : World} {base sz n : Nat} {e : TypeId} {v : Value} {xs : List Value}
theorem row_heap (h : w.ownsRow base e sz v n xs) {g : Nat} (hg : v.ownBlock = some g) : ∃ cur, w.heap[g]? = some (.cells cur e (0, 0)) := by
  rcases h.2 with ⟨rfl, _⟩ | ⟨g', cap, cur, rfl, _, hh, _⟩
  · simp [Value.ownBlock] at hg
  · simp [Value.ownBlock] at hg
    subst hg
    exact ⟨cur, hh⟩
theorem row_same (h : w.ownsRow base e sz v n xs) {S : List Nat} {B : Nat} (hS : Same S B w w') (hb : ∀ k, v.ownBlock = some k → k < B ∧ k ∉ S) : w'.ownsRow base e sz v n xs := by
  refine ⟨h.1, ?_⟩
  rcases h.2 with hn | ⟨g, cap, cur, rfl, hb', hh, rest⟩
  · exact .inl hn
  · have := hb g rfl
    exact .inr ⟨g, cap, cur, rfl, hb', by rw [hS.block g this.1 this.2]; exact hh, rest⟩
theorem row_keep (h : w.ownsRow base e sz v n xs) (hS : Same [] w.heap.size w w') : w'.ownsRow base e sz v n xs := row_same h hS (fun k hk => ⟨(h.lt k hk).2, by simp⟩)
theorem row_apart {e2 : TypeId} {sz2 n2 : Nat} {v2 : Value} {ys : List Value} (h1 : w.ownsRow base e sz v n xs) (h2 : w.ownsRow base e2 sz2 v2 n2 ys) (he : e ≠ e2) {g : Nat} (hg : v.ownBlock = some g) : v2.ownBlock ≠ some g := by
  intro hg2
  obtain ⟨c1, q1⟩ := row_heap h1 hg
  obtain ⟨c2, q2⟩ := row_heap h2 hg2
  rw [q1] at q2
  simp at q2
  exact he q2.2
theorem row_get {a : Option Addr} {c : Nat} (h : w.ownsRow base e sz (.slice a n c) n xs) (h0 : n ≠ 0) : ∃ g, a = some ⟨g, 0, none⟩ ∧ base ≤ g ∧ g < w.heap.size ∧ n ≤ c ∧ ∀ j u, xs[j]? = some u → w.cell? ⟨g, j, none⟩ = some u := by
  rcases h.2 with ⟨hv, hn⟩ | ⟨g, cap, cur, hv, hb, hh, hc, _⟩
  · exact absurd hn h0
  · simp at hv
    obtain ⟨rfl, rfl⟩ := hv
    refine ⟨g, rfl, hb, (h.lt g rfl).2, hc, fun j u hj => ?_⟩
    have := h.cells (g := g) rfl j u hj
    rwa [add_mk, Nat.zero_add] at this
theorem row_form (h : w.ownsRow base e sz v n xs) : ∃ a c, v = .slice a n c ∧ n ≤ c := by
  rcases h.2 with ⟨rfl, rfl⟩ | ⟨g, cap, cur, rfl, _, _, hc, _⟩
  · exact ⟨_, _, rfl, Nat.le_refl _⟩
  · exact ⟨_, _, rfl, hc⟩
/-- One element more. -/
theorem row_app {P : Program} {t : TypeId} {i : TypeInfo} {z : Value} {bytes : Nat} (hE : Elem P t e i z sz bytes) (ty : TypeId) {a : Option Addr} {l c : Nat} (h : w.ownsRow base e sz (.slice a l c) l xs) (us : List Value) (hus : us.length = sz) (hu : ∀ u ∈ us, u.oneCell' = true) (hl : l < 1000) (hb : bytes ≤ 1000) (hbase : base ≤ w.heap.size)
    {b : Nat} {w1 : World} (hb1 : b = w.heap.size) (hw : w1 = w.alloc (.cells us.toArray e)) :
    ∃ (a' : Option Addr) (c' : Nat) (w2 : World), Sem.run P (Builtin.append_ #[t, t] ty #[.slice a l c, .slice (some ⟨b, 0, none⟩) 1 1]) w1 = .ok (.slice a' (l + 1) c') w2 ∧
      w2.ownsRow base e sz (.slice a' (l + 1) c') (l + 1) (xs ++ us) ∧ Same (obk (.slice a l c)) w.heap.size w w2 ∧ (∀ k, (Value.slice a' (l + 1) c').ownBlock = some k → (Value.slice a l c).ownBlock = some k ∨ w.heap.size ≤ k) := by
  subst hb1 hw
  have hlb : (l + 1) * bytes ≤ 1000 * 1000 := Nat.mul_le_mul (by omega) hb
  have hnews : ∀ j v, us[j]? = some v → (w.alloc (.cells us.toArray e)).cell? ((⟨w.heap.size, 0, none⟩ : Addr).add j) = some v := fun j v hj => by
    rw [add_mk, Nat.zero_add, World.cell?_alloc_new]; simpa using hj
  have h63 : l + 1 ≤ maxLen := by simp only [maxLen]; omega
  obtain ⟨v', w2, hr, ho, hg, _, hf⟩ := run_append_own_at (P := P) (w := w.alloc (.cells us.toArray e)) base t ty e i z sz bytes hE.ht hE.hi hE.hz hE.hsize hE.hby hE.hzs hE.hsz (.slice a l c) l xs (h.alloc _)
    ⟨w.heap.size, 0, none⟩ 1 1 us (by rw [hus, Nat.one_mul]) hnews hu h63 (by omega) (by simp; omega)
  have hS : Same (obk (.slice a l c)) w.heap.size w w2 :=
    ((Same.refl _ _ _).alloc (Nat.le_refl _) _).trans ⟨hg.os, hg.tape, hg.output, hg.size, fun k hk hs => hg.block k (by simp; omega) (fun he => hs (mem_obk.2 he.symm))⟩
  obtain ⟨a', c', rfl, _⟩ := row_form ho
  refine ⟨a', c', w2, hr, ho, hS, fun k hk => ?_⟩
  rcases hf with q | q
  · rw [q] at hk; exact .inl hk
  · rw [q] at hk
    right
    injection hk with hk
    simp at hk
    omega
end

/-! ### The search -/
def elsI : Option Nat → Int
  | none => -1
  | some q => (q : Int)
theorem mmatch_spec {w : World} {nb n : Nat} {ins : Nat → Ins} (hI : InsRow w nb n ins) (hn : n ≤ 1000) (c : Nat) (j0 : Nat) (hj : j0 ≤ n) :
    Runs Try.prog prepm_match.id #[.slice (some ⟨nb, 0, none⟩) n c, .int .i64 ((j0 : Int) - 1)] w fun v w' => v = .tuple #[.int .i64 ((mtc ins n (n - j0) j0 0 none).1 : Int), .int .i64 (elsI (mtc ins n (n - j0) j0 0 none).2)] ∧ w' = w := by
  refine prepm_match.enter _ _ _ _ _ _ _ ?_
  unfold prepm_match.V
  rw [wrap_i64 (by omega) (by omega), show (j0 : Int) - 1 + 1 = (j0 : Int) by omega]
  generalize hz : mtc ins n (n - j0) j0 0 none = z
  suffices H : ∀ (k j d : Nat) (els : Option Nat), j + k = n → d ≤ 2000 - k → mtc ins n k j d els = z → prepm_match.L1 (some ⟨nb, 0, none⟩) n c (d : Int) (elsI els) (j : Int) (fun v w' => v = .tuple #[.int .i64 (z.1 : Int), .int .i64 (elsI z.2)] ∧ w' = w) (fun _ _ => False) w from
    H (n - j0) j0 0 none (by omega) (by omega) hz
  clear hz hj
  intro k
  induction k with
  | zero =>
    intro j d els hj hd hz
    refine prepm_match.step1 _ _ _ _ _ _ _ _ _ ?_
    unfold prepm_match.V1
    refine cond_false' (decide_eq_false (by omega)) ?_
    have hz : (n, els) = z := hz
    rw [← hz]
    exact ⟨rfl, rfl⟩
  | succ k ih =>
    intro j d els hj hd hz
    rw [mtc_succ] at hz
    have nxt : ∀ (d' : Nat) (els' : Option Nat), d' ≤ 2000 - k → mtc ins n k (j + 1) d' els' = z → prepm_match.L3 (some ⟨nb, 0, none⟩) n c (d' : Int) (elsI els') (j : Int) (fun v w' => v = .tuple #[.int .i64 (z.1 : Int), .int .i64 (elsI z.2)] ∧ w' = w) (fun _ _ => False) w := fun d' els' hd' hz' => by
      refine prepm_match.step3 _ _ _ _ _ _ _ _ _ ?_
      unfold prepm_match.V3
      rw [wrap_i64 (by omega) (by omega), show (j : Int) + 1 = ((j + 1 : Nat) : Int) by omega]
      exact ih (j + 1) d' els' (by omega) hd' hz'
    have L2 : ∀ t : Bool, t = decide ((ins j).op = 2 ∨ (ins j).op = 3 ∨ (ins j).op = 4) → prepm_match.L2 (some ⟨nb, 0, none⟩) n c (d : Int) (elsI els) (j : Int) (ins j).op t (fun v w' => v = .tuple #[.int .i64 (z.1 : Int), .int .i64 (elsI z.2)] ∧ w' = w) (fun _ _ => False) w := fun t ht => by
      refine prepm_match.step2 _ _ _ _ _ _ _ _ _ _ _ ?_
      unfold prepm_match.V2
      refine cond_intro (fun e => ?_) (fun e => ?_)
      · have e : (ins j).op = 2 ∨ (ins j).op = 3 ∨ (ins j).op = 4 := of_decide_eq_true (ht ▸ e)
        rw [if_pos e] at hz
        rw [wrap_i64 (by omega) (by omega), show (d : Int) + 1 = ((d + 1 : Nat) : Int) by omega]
        exact nxt _ _ (by omega) hz
      have e : ¬ ((ins j).op = 2 ∨ (ins j).op = 3 ∨ (ins j).op = 4) := of_decide_eq_false (ht ▸ e)
      rw [if_neg e] at hz
      refine cond_intro (fun e5 => ?_) (fun e5 => ?_)
      · rw [if_pos (eq_of_beq e5)] at hz
        refine cond_intro (fun e0 => ?_) (fun e0 => ?_)
        · have e0 : d = 0 := by have := eq_of_beq e0; omega
          rw [if_pos e0] at hz
          exact nxt d (some j) (by omega) hz
        · have e0 : ¬ d = 0 := by rintro rfl; cases e0
          rw [if_neg e0] at hz
          exact nxt d els (by omega) hz
      have e5 : ¬ (ins j).op = 5 := by simpa using e5
      rw [if_neg e5] at hz
      refine cond_intro (fun e11 => ?_) (fun e11 => ?_)
      · rw [if_pos (eq_of_beq e11)] at hz
        refine cond_intro (fun e0 => ?_) (fun e0 => ?_)
        · have e0 : d = 0 := by have := eq_of_beq e0; omega
          rw [if_pos e0] at hz
          rw [← hz]
          exact ⟨rfl, rfl⟩
        · have e0 : ¬ d = 0 := by rintro rfl; cases e0
          rw [if_neg e0] at hz
          rw [wrap_i64 (by omega) (by omega), show (d : Int) - 1 = ((d - 1 : Nat) : Int) by omega]
          exact nxt _ _ (by omega) hz
      · have e11 : ¬ (ins j).op = 11 := by simpa using e11
        rw [if_neg e11] at hz
        exact nxt d els (by omega) hz
    refine prepm_match.step1 _ _ _ _ _ _ _ _ _ ?_
    unfold prepm_match.V1
    refine cond_true' (decide_eq_true (by omega)) ?_
    simp only [nilV_some, add_mk, Nat.zero_add, Int.toNat_natCast]
    refine ⟨⟨by omega, by omega⟩, _, hI.i0 j (by omega), cond_intro (fun e => L2 true ?_) (fun e2 => cond_intro (fun e => L2 true ?_) (fun e3 => L2 _ ?_))⟩
    · have := eq_of_beq e; rw [decide_eq_true (by omega)]
    · have := eq_of_beq e; rw [decide_eq_true (by omega)]
    · have e2 : ¬ (ins j).op = 2 := by simpa using e2
      have e3 : ¬ (ins j).op = 3 := by simpa using e3
      by_cases q : (ins j).op = 4
      · rw [decide_eq_true (by omega), q]; rfl
      · rw [decide_eq_false (by omega)]; simpa using q
end Go.Proofs.Qxb6500321a
