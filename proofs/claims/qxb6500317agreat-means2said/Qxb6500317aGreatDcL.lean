/-
  Decode's deferred literal runs; what Decode reads.
-/
import Derived.Test.Qxb6500317aGreatDcP
set_option linter.unusedSimpArgs false
set_option linter.unusedVariables false
set_option maxRecDepth 100000
set_option linter.unusedSectionVars false
namespace Go.Proofs.Qxb6500317aGreat
open Go Go.Vc
variable [OutOf]

theorem fLIT_body : Tryz.f55.body = some (bodyOf Tryz.f55) := by kernel_rfl
theorem fLIT_n : Tryz.f55.ntmps = 21 := by kernel_rfl
theorem fLIT_res (tmps : Array Value) (w : World) : (results Tryz.f55 tmps).run Tryz.prog w = .ok (.tuple #[]) w := by
  have : Tryz.f55.results = #[] := by kernel_rfl
  rw [results_eq, this, Sem.run_bind, Array.mapM_eq_mapM_toList, Sem.run_map]; rfl

def act0 (x y z : Value) : Act := { tmps := #[x, y, z] ++ Array.replicate 18 undef, defers := [] }
theorem act0_size (x y z : Value) : (act0 x y z).tmps.size = 21 := by simp [act0]
theorem act0_agrees (x y z v : Value) : Agrees N21 [(0, x), (1, y), (2, z), (3, v)] (((act0 x y z).put (some 6) v).put (some 3) v) := by
  refine ⟨by simp [Act.put, act0_size]; rfl, ⟨rfl, fun i u hi => by simp [nn, get?] at hi⟩, fun i u hi => ?_⟩
  simp only [get?, cond_eq_ite, Nat.beq_eq] at hi
  simp only [Act.put, act0]
  by_cases h0 : i = 0
  · subst h0; simp at hi; subst hi; simp
  by_cases h1 : i = 1
  · subst h1; simp at hi; subst hi; simp
  by_cases h2 : i = 2
  · subst h2; simp at hi; subst hi; simp
  by_cases h3 : i = 3
  · subst h3; simp at hi; subst hi; simp
  simp [h0, h1, h2, h3] at hi

theorem Agrees.restrict {N : NN} {e : Env} {a : Act} (h : Agrees N e a) (l : List Nat) : Agrees N (Vc.restrict l e) a := ⟨h.1, h.2.1, fun i v hi => h.2.2 i v (get?_restrict l e i v hi)⟩

theorem regWp {QQ : Exit → Act → List Frame → World → Prop} {id : Nat} {ops : Array Oper} {e : Env} {a : Act} {cs : List Frame} {w : World} (ha : Agrees N21 e a)
    (h : regV Tryz.prog N21 ops ops.toList e w (fun e' w' => ∀ a', Agrees N21 e' a' → QQ .normal a' cs w')) : (Code.region id ops false).wpS Tryz.prog QQ a cs w :=
  wpS_of_wp (regV_region (N := N21) good (fun e' a' w' ha' hk => hk a' ha') (fun a w v ha (hv : False) => hv.elim) ha h)

/-- Nothing was thrown. -/
theorem lit_ret (m4 p5 e6 : Nat) (w : World) : CallsD Tryz.prog 55 #[pv m4, pv p5, pv e6] .returning w (fun e u' w' => (∃ v, e = .returned v) ∧ u' = .returning ∧ w' = w) := by
  refine callsD_of_wpS Tryz.func55 fLIT_body (fun c₀ cs hu => ?_)
  have hc : ({ c₀ with mode := .returning } : Frame) = c₀ := by rw [← hu]
  have hrec : recoverD (c₀ :: cs) = none := by simp only [recoverD, hu]
  rw [fLIT_n]
  show (bodyOf Tryz.f55).wpS Tryz.prog _ (act0 (pv m4) (pv p5) (pv e6)) (c₀ :: cs) w
  rw [lit_body]
  refine wpS_seq (wpS_region (wp_l0_none (act0_size _ _ _) hrec ?_))
  show (sub (bodyOf Tryz.f55) [1]).wpS Tryz.prog _ _ _ _
  rw [lit_rest]
  refine wpS_seq (wpS_seq (regWp (act0_agrees _ _ _ _) ?_))
  rw [l1_nil]
  intro a ha
  refine wpS_cond (t := true) (ha.eval rfl) ?_
  refine wpS_of_wp (wp_ret ?_)
  exact ⟨ha.2.1.1, .returning, by rw [hc], .tuple #[], fLIT_res _ _, ⟨_, rfl⟩, rfl, rfl⟩

/-- A fault was thrown: it is caught and laid into the results. -/
theorem lit_pan (m4 p5 e6 : Nat) (n a : Int) (w : World) (h1 : can w ⟨m4, 0, none⟩) (h2 : can w ⟨p5, 0, none⟩) (h3 : can w ⟨e6, 0, none⟩) (d4 : m4 ≠ p5) (d5 : m4 ≠ e6) (d6 : p5 ≠ e6) :
    CallsD Tryz.prog 55 #[pv m4, pv p5, pv e6] (.panicking [{ v := faultV n a, recovered := false }]) w (fun e u' w' => (∃ v, e = .returned v) ∧ u' = .panicking [{ v := faultV n a, recovered := true }] ∧
      w'.cell? ⟨m4, 0, none⟩ = some (.pointer none) ∧ w'.cell? ⟨p5, 0, none⟩ = some (.int .i64 a) ∧ w'.cell? ⟨e6, 0, none⟩ = some (.int .i64 n) ∧ Same [m4, p5, e6] w.heap.size w w') := by
  refine callsD_of_wpS Tryz.func55 fLIT_body (fun c₀ cs hu => ?_)
  have hrec : recoverD (c₀ :: cs) = some (faultV n a, { c₀ with mode := .panicking [{ v := faultV n a, recovered := true }] } :: cs) := by simp only [recoverD, hu]
  rw [fLIT_n]
  show (bodyOf Tryz.f55).wpS Tryz.prog _ (act0 (pv m4) (pv p5) (pv e6)) (c₀ :: cs) w
  rw [lit_body]
  refine wpS_seq (wpS_region (wp_l0_some (act0_size _ _ _) hrec ?_))
  show (sub (bodyOf Tryz.f55) [1]).wpS Tryz.prog _ _ _ _
  rw [lit_rest]
  refine wpS_seq (wpS_seq (regWp (act0_agrees _ _ _ _) ?_))
  rw [l1_some]
  intro a1 ha1
  refine wpS_cond (t := false) (ha1.eval rfl) ?_
  refine wpS_of_wp (wp_skip ?_)
  refine wpS_seq (regWp (e := [(0, pv m4), (1, pv p5), (2, pv e6), (3, faultV n a)]) (Agrees.restrict ha1 [0, 1, 2, 3]) ?_)
  rw [l2_some]
  have lm : m4 < w.heap.size := by obtain ⟨⟨u, hu⟩, _⟩ := h1; exact cell_lt hu
  have lp : p5 < w.heap.size := by obtain ⟨⟨u, hu⟩, _⟩ := h2; exact cell_lt hu
  have le : e6 < w.heap.size := by obtain ⟨⟨u, hu⟩, _⟩ := h3; exact cell_lt hu
  have A0 : (w.alloc (.cells #[.int .i64 0, .int .i64 0] T_bin_fault)).cell? ⟨w.heap.size, 0, none⟩ = some (.int .i64 0) := by rw [World.cell?_alloc_new]; rfl
  have A1 : (w.alloc (.cells #[.int .i64 0, .int .i64 0] T_bin_fault)).cell? ⟨w.heap.size, 1, none⟩ = some (.int .i64 0) := by rw [World.cell?_alloc_new]; rfl
  have AF : ∀ j, (w.alloc (.cells #[.int .i64 0, .int .i64 0] T_bin_fault)).frozen? ⟨w.heap.size, j, none⟩ = false := fun j => by rw [World.frozen?_alloc_new]
  have S1 : Same [] w.heap.size w (w.alloc (.cells #[.int .i64 0, .int .i64 0] T_bin_fault)) := (Same.refl _ _ _).alloc (Nat.le_refl _) _
  generalize hw1 : w.alloc (.cells #[.int .i64 0, .int .i64 0] T_bin_fault) = w1 at A0 A1 AF S1 ⊢
  have sz1 : w.heap.size < w1.heap.size := cell_lt A0
  have B1 := cell_set w1 w.heap.size 0 1 (.int .i64 n) A1
  refine ⟨⟨⟨_, A0⟩, AF 0⟩, ⟨⟨_, by rw [B1]; rfl⟩, by simpa using AF 1⟩, ?_⟩
  generalize hw3 : (w1.setCell ⟨w.heap.size, 0, none⟩ (.int .i64 n)).setCell ⟨w.heap.size, 1, none⟩ (.int .i64 a) = w3
  have C0 : w3.cell? ⟨w.heap.size, 0, none⟩ = some (.int .i64 n) := by rw [← hw3, cell_setCell, if_neg (by omega), cell_setCell, if_pos ⟨rfl, rfl⟩, A0]; rfl
  have C1 : w3.cell? ⟨w.heap.size, 1, none⟩ = some (.int .i64 a) := by rw [← hw3, cell_setCell, if_pos ⟨rfl, rfl⟩, cell_setCell, if_neg (by omega), A1]; rfl
  have S3 : Same [] w.heap.size w w3 := by rw [← hw3]; exact (S1.setCell (.inl (Nat.le_refl _)) _).setCell (.inl (Nat.le_refl _)) _
  have can3 : ∀ k, k < w.heap.size → can w ⟨k, 0, none⟩ → can w3 ⟨k, 0, none⟩ := fun k hk h => by
    obtain ⟨⟨u, hu⟩, hf⟩ := h
    exact ⟨⟨u, by rw [S3.cell (p := ⟨k, 0, none⟩) hk (by simp)]; exact hu⟩, by rw [S3.frozen (p := ⟨k, 0, none⟩) hk (by simp)]; exact hf⟩
  intro a2 ha2
  refine wpS_seq (wpS_seq (regWp (e := [(0, pv m4), (1, pv p5), (2, pv e6), (4, pv w.heap.size), (5, .bool true)]) (Agrees.restrict ha2 [0, 1, 2, 4, 5]) ?_))
  rw [l3_some]
  intro a3 ha3
  refine wpS_cond (t := false) (ha3.eval rfl) ?_
  refine wpS_of_wp (wp_skip ?_)
  refine wpS_of_wp (anyV_region (N := N21) (e := [(0, pv m4), (1, pv p5), (2, pv e6), (4, pv w.heap.size)]) (K := fun _ w' => ∀ a', Agrees N21 [] a' → bodyPostS Tryz.prog Tryz.f55 c₀ cs _ .normal a' _ w') good mixed (fun e' a' w' ha' hk => hk a' ha'.nil) (fun a w v ha (hv : False) => hv.elim) (Agrees.restrict ha3 [0, 1, 2, 4]) ?_)
  refine l5_any m4 p5 e6 w.heap.size n a w3.drew (fun w' => ∀ a', Agrees N21 [] a' → bodyPostS Tryz.prog Tryz.f55 c₀ cs _ .normal a' _ w') C0 C1 (can3 m4 lm h1) (can3 p5 lp h2) (can3 e6 le h3) (by omega) (by omega) d4 d5 d6 ?_
  intro a4 ha4
  refine ⟨ha4.2.1.1, _, rfl, .tuple #[], fLIT_res _ _, ⟨_, rfl⟩, rfl, ?_, ?_, ?_, ?_⟩
  · obtain ⟨⟨u, hu⟩, _⟩ := can3 m4 lm h1
    rw [cell_set_ne _ _ _ _ _ _ d5, cell_set_ne _ _ _ _ _ _ d4, cell_setCell, if_pos ⟨rfl, rfl⟩]
    show (w3.cell? _).map _ = _
    rw [hu]; rfl
  · obtain ⟨⟨u, hu⟩, _⟩ := can3 p5 lp h2
    rw [cell_set_ne _ _ _ _ _ _ d6, cell_setCell, if_pos ⟨rfl, rfl⟩, cell_set_ne _ _ _ _ _ _ d4.symm]
    show (w3.cell? _).map _ = _
    rw [hu]; rfl
  · obtain ⟨⟨u, hu⟩, _⟩ := can3 e6 le h3
    rw [cell_setCell, if_pos ⟨rfl, rfl⟩, cell_set_ne _ _ _ _ _ _ d6.symm, cell_set_ne _ _ _ _ _ _ d5.symm]
    show (w3.cell? _).map _ = _
    rw [hu]; rfl
  · exact (((S3.drew.mono (Nat.le_refl _) (by simp) : Same [m4, p5, e6] w.heap.size w w3.drew).setCell (.inr (by simp)) _).setCell (.inr (by simp)) _).setCell (.inr (by simp)) _

end Go.Proofs.Qxb6500317aGreat
