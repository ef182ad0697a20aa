/-
  The road in memory: match, push, leap.
-/
import Derived.Test.Qxb6500321aFoA
import Derived.Test.Qxb6500321aKlC
set_option linter.unusedSimpArgs false
set_option linter.unusedVariables false
set_option maxRecDepth 100000
set_option linter.unusedSectionVars false
set_option maxHeartbeats 1000000
namespace Go.Proofs.Qxb6500321a
open Go Go.Vc

theorem pmatch_spec {w : World} {nb n : Nat} {ins : Nat → Ins} (hI : InsRow w nb n ins) (hn : n ≤ 1000) (c : Nat) (j0 : Nat) (hj : j0 ≤ n) :
    Runs Try.prog preplaw_match.id #[.slice (some ⟨nb, 0, none⟩) n c, .int .i64 ((j0 : Int) - 1)] w fun v w' => v = .tuple #[.int .i64 ((mtc ins n (n - j0) j0 0 none).1 : Int), .int .i64 (elsI (mtc ins n (n - j0) j0 0 none).2)] ∧ w' = w := by
  refine preplaw_match.enter _ _ _ _ _ _ _ ?_
  unfold preplaw_match.V
  rw [wrap_i64 (by omega) (by omega), show (j0 : Int) - 1 + 1 = (j0 : Int) by omega]
  generalize hz : mtc ins n (n - j0) j0 0 none = z
  generalize hR : (fun (v : Value) (w' : World) => v = .tuple #[.int .i64 (z.1 : Int), .int .i64 (elsI z.2)] ∧ w' = w) = R
  suffices H : ∀ (k j d : Nat) (els : Option Nat), j + k = n → d ≤ 2000 - k → mtc ins n k j d els = z → preplaw_match.L1 (some ⟨nb, 0, none⟩) n c (d : Int) (elsI els) (j : Int) R (fun _ _ => False) w from
    H (n - j0) j0 0 none (by omega) (by omega) hz
  clear hz hj
  intro k
  induction k with
  | zero =>
    intro j d els hj hd hz
    refine preplaw_match.step1 _ _ _ _ _ _ _ _ _ ?_
    unfold preplaw_match.V1
    refine cond_false' (decide_eq_false (by omega)) ?_
    have hz : (n, els) = z := hz
    rw [← hR, ← hz]
    exact ⟨rfl, rfl⟩
  | succ k ih =>
    intro j d els hj hd hz
    rw [mtc_succ] at hz
    have nxt : ∀ (d' : Nat) (els' : Option Nat), d' ≤ 2000 - k → mtc ins n k (j + 1) d' els' = z → preplaw_match.L3 (some ⟨nb, 0, none⟩) n c (d' : Int) (elsI els') (j : Int) R (fun _ _ => False) w := fun d' els' hd' hz' => by
      refine preplaw_match.step3 _ _ _ _ _ _ _ _ _ ?_
      unfold preplaw_match.V3
      rw [wrap_i64 (by omega) (by omega), show (j : Int) + 1 = ((j + 1 : Nat) : Int) by omega]
      exact ih (j + 1) d' els' (by omega) hd' hz'
    have L4 : ∀ t : Bool, ¬ ((ins j).op = 2 ∨ (ins j).op = 3 ∨ (ins j).op = 4) → t = decide ((ins j).op = 5 ∧ d = 0) → preplaw_match.L4 (some ⟨nb, 0, none⟩) n c (d : Int) (elsI els) (j : Int) (ins j).op t R (fun _ _ => False) w := fun t c2 ht => by
      rw [if_neg c2] at hz
      refine preplaw_match.step4 _ _ _ _ _ _ _ _ _ _ _ ?_
      unfold preplaw_match.V4
      refine cond_intro (fun e => ?_) (fun e => ?_)
      · have e := of_decide_eq_true (ht ▸ e)
        rw [if_pos e.1, if_pos e.2] at hz
        exact nxt d (some j) (by omega) hz
      have e := of_decide_eq_false (ht ▸ e)
      refine cond_intro (fun e11 => ?_) (fun e11 => ?_)
      · have e11 : (ins j).op = 11 := eq_of_beq e11
        rw [if_neg (by omega), if_pos e11] at hz
        refine cond_intro (fun e0 => ?_) (fun e0 => ?_)
        · have e0 : d = 0 := by have := eq_of_beq e0; omega
          rw [if_pos e0] at hz
          rw [← hR, ← hz]
          exact ⟨rfl, rfl⟩
        · have e0 : ¬ d = 0 := by rintro rfl; cases e0
          rw [if_neg e0] at hz
          rw [wrap_i64 (by omega) (by omega), show (d : Int) - 1 = ((d - 1 : Nat) : Int) by omega]
          exact nxt _ _ (by omega) hz
      · have e11 : ¬ (ins j).op = 11 := by simpa using e11
        rw [if_neg e11] at hz
        by_cases c5 : (ins j).op = 5
        · rw [if_pos c5, if_neg (fun q => e ⟨c5, q⟩)] at hz
          exact nxt d els (by omega) hz
        · rw [if_neg c5] at hz
          exact nxt d els (by omega) hz
    have L2 : ∀ t : Bool, t = decide ((ins j).op = 2 ∨ (ins j).op = 3 ∨ (ins j).op = 4) → preplaw_match.L2 (some ⟨nb, 0, none⟩) n c (d : Int) (elsI els) (j : Int) (ins j).op t R (fun _ _ => False) w := fun t ht => by
      refine preplaw_match.step2 _ _ _ _ _ _ _ _ _ _ _ ?_
      unfold preplaw_match.V2
      refine cond_intro (fun e => ?_) (fun e => ?_)
      · have e := of_decide_eq_true (ht ▸ e)
        rw [if_pos e] at hz
        rw [wrap_i64 (by omega) (by omega), show (d : Int) + 1 = ((d + 1 : Nat) : Int) by omega]
        exact nxt _ _ (by omega) hz
      have c2 := of_decide_eq_false (ht ▸ e)
      refine cond_intro (fun e5 => L4 _ c2 ?_) (fun e5 => L4 _ c2 ?_)
      · have e5 : (ins j).op = 5 := eq_of_beq e5
        by_cases q : d = 0
        · rw [decide_eq_true ⟨e5, q⟩, q]; rfl
        · rw [decide_eq_false (fun z => q z.2)]
          have : ¬ (d : Int) = 0 := by omega
          simpa using this
      · have e5 : ¬ (ins j).op = 5 := by simpa using e5
        rw [decide_eq_false (fun z => e5 z.1)]
    refine preplaw_match.step1 _ _ _ _ _ _ _ _ _ ?_
    unfold preplaw_match.V1
    refine cond_true' (decide_eq_true (by omega)) ?_
    simp only [nilV_some, add_mk, Nat.zero_add, Int.toNat_natCast]
    refine ⟨⟨by omega, by omega⟩, _, hI.i0 j (by omega), cond_intro (fun e => L2 true ?_) (fun e2 => cond_intro (fun e => L2 true ?_) (fun e3 => L2 _ ?_))⟩
    · have := eq_of_beq e; rw [decide_eq_true (by omega)]
    · have := eq_of_beq e; rw [decide_eq_true (by omega)]
    · have e2 : ¬ (ins j).op = 2 := by simpa using e2
      have e3 : ¬ (ins j).op = 3 := by simpa using e3
      by_cases q : (ins j).op = 4
      · rw [decide_eq_true (by omega), q]; rfl
      · rw [decide_eq_false (by omega)]; simpa using q
/-! ### The road in memory -/
structure RC where
  nb : Nat
  n : Nat
  bc : Nat
  ta : Option Addr
  nt : Nat
  tc : Nat
  kb : Nat
  kn : Nat
  kc : Nat
structure RM (w0 w : World) (rb : Nat) (K : RC) (fs : List SF) (la : Option Addr) (ll lc : Nat) (pc fc h : Int) (fell : Bool) : Prop where
  sm : Same [] w0.heap.size w0 w
  rl : w0.heap.size ≤ rb
  r0 : w.cell? ⟨rb, 0, none⟩ = some (.slice (some ⟨K.nb, 0, none⟩) K.n K.bc)
  r1 : w.cell? ⟨rb, 1, none⟩ = some (.slice K.ta K.nt K.tc)
  r2 : w.cell? ⟨rb, 2, none⟩ = some (.slice (some ⟨K.kb, 0, none⟩) K.kn K.kc)
  r3 : w.cell? ⟨rb, 3, none⟩ = some (.slice la ll lc)
  r4 : w.cell? ⟨rb, 4, none⟩ = some (.int .i64 pc)
  r5 : w.cell? ⟨rb, 5, none⟩ = some (.int .i64 fc)
  r6 : w.cell? ⟨rb, 6, none⟩ = some (.int .i64 h)
  r7 : w.cell? ⟨rb, 7, none⟩ = some (.bool fell)
  fz : ∀ j, w.frozen? ⟨rb, j, none⟩ = false
  row : w.ownsRow w0.heap.size T_preplaw_lab 3 (.slice la ll lc) ll (frVs fs)
  le : ll = fs.length
  ne : ∀ k, (Value.slice la ll lc).ownBlock = some k → k ≠ rb
section
variable {w0 w w' : World} {rb : Nat} {K : RC} {fs : List SF} {la : Option Addr} {ll lc : Nat} {pc fc h : Int} {fell : Bool}
theorem RM.lt (M : RM w0 w rb K fs la ll lc pc fc h fell) : rb < w.heap.size := cell_lt M.r0
theorem RM.can (M : RM w0 w rb K fs la ll lc pc fc h fell) (j : Nat) (hj : j < 8) : can w ⟨rb, j, none⟩ := by
  refine ⟨?_, M.fz j⟩
  have : j = 0 ∨ j = 1 ∨ j = 2 ∨ j = 3 ∨ j = 4 ∨ j = 5 ∨ j = 6 ∨ j = 7 := by omega
  rcases this with rfl | rfl | rfl | rfl | rfl | rfl | rfl | rfl
  · exact ⟨_, M.r0⟩
  · exact ⟨_, M.r1⟩
  · exact ⟨_, M.r2⟩
  · exact ⟨_, M.r3⟩
  · exact ⟨_, M.r4⟩
  · exact ⟨_, M.r5⟩
  · exact ⟨_, M.r6⟩
  · exact ⟨_, M.r7⟩
theorem RM.keep (M : RM w0 w rb K fs la ll lc pc fc h fell) (hs : Same [] w.heap.size w w') : RM w0 w' rb K fs la ll lc pc fc h fell := by
  have lt := M.lt
  have e : ∀ j, w'.cell? ⟨rb, j, none⟩ = w.cell? ⟨rb, j, none⟩ := fun j => hs.cell (p := ⟨rb, j, none⟩) lt (by simp)
  exact ⟨M.sm.nx hs, M.rl, by rw [e]; exact M.r0, by rw [e]; exact M.r1, by rw [e]; exact M.r2, by rw [e]; exact M.r3, by rw [e]; exact M.r4, by rw [e]; exact M.r5, by rw [e]; exact M.r6, by rw [e]; exact M.r7, fun j => by rw [hs.frozen (p := ⟨rb, j, none⟩) lt (by simp)]; exact M.fz j, row_keep M.row hs, M.le, M.ne⟩
theorem RM.drew (M : RM w0 w rb K fs la ll lc pc fc h fell) : RM w0 w.drew rb K fs la ll lc pc fc h fell := M.keep (Same.refl _ _ _).drew
theorem RM.congr (M : RM w0 w rb K fs la ll lc pc fc h fell) {fs' : List SF} (h1 : frVs fs' = frVs fs) (h2 : fs'.length = fs.length) : RM w0 w rb K fs' la ll lc pc fc h fell :=
  ⟨M.sm, M.rl, M.r0, M.r1, M.r2, M.r3, M.r4, M.r5, M.r6, M.r7, M.fz, by rw [h1]; exact M.row, by rw [h2]; exact M.le, M.ne⟩
theorem RM.setS (M : RM w0 w rb K fs la ll lc pc fc h fell) (q : Nat) (v : Value) (hw : w' = w.setCell ⟨rb, q, none⟩ v) : Same [rb] w.heap.size w w' ∧ Same [] w0.heap.size w0 w' ∧ (∀ j, w'.frozen? ⟨rb, j, none⟩ = false) ∧ w'.ownsRow w0.heap.size T_preplaw_lab 3 (.slice la ll lc) ll (frVs fs) := by
  have S : Same [rb] w.heap.size w w' := by rw [hw]; exact (Same.refl _ _ _).setCell (.inr (by simp)) _
  exact ⟨S, same_own M.sm S (by simp; exact M.rl), fun j => by rw [hw, World.frozen?_setCell]; exact M.fz j, row_same M.row S (fun k hk => ⟨(M.row.lt k hk).2, by simp; exact M.ne k hk⟩)⟩
theorem RM.set4 (M : RM w0 w rb K fs la ll lc pc fc h fell) (x : Int) (hw : w' = w.setCell ⟨rb, 4, none⟩ (.int .i64 x)) : RM w0 w' rb K fs la ll lc x fc h fell ∧ Same [rb] w.heap.size w w' := by
  obtain ⟨S, s1, s2, s3⟩ := M.setS 4 _ hw
  have o : ∀ j, j ≠ 4 → w'.cell? ⟨rb, j, none⟩ = w.cell? ⟨rb, j, none⟩ := fun j hj => by rw [hw, cell_setCell, if_neg (by omega)]
  exact ⟨⟨s1, M.rl, by rw [o 0 (by omega)]; exact M.r0, by rw [o 1 (by omega)]; exact M.r1, by rw [o 2 (by omega)]; exact M.r2, by rw [o 3 (by omega)]; exact M.r3, by rw [hw, cell_setCell, if_pos ⟨rfl, rfl⟩, M.r4]; rfl, by rw [o 5 (by omega)]; exact M.r5, by rw [o 6 (by omega)]; exact M.r6, by rw [o 7 (by omega)]; exact M.r7, s2, s3, M.le, M.ne⟩, S⟩
theorem RM.set5 (M : RM w0 w rb K fs la ll lc pc fc h fell) (x : Int) (hw : w' = w.setCell ⟨rb, 5, none⟩ (.int .i64 x)) : RM w0 w' rb K fs la ll lc pc x h fell ∧ Same [rb] w.heap.size w w' := by
  obtain ⟨S, s1, s2, s3⟩ := M.setS 5 _ hw
  have o : ∀ j, j ≠ 5 → w'.cell? ⟨rb, j, none⟩ = w.cell? ⟨rb, j, none⟩ := fun j hj => by rw [hw, cell_setCell, if_neg (by omega)]
  exact ⟨⟨s1, M.rl, by rw [o 0 (by omega)]; exact M.r0, by rw [o 1 (by omega)]; exact M.r1, by rw [o 2 (by omega)]; exact M.r2, by rw [o 3 (by omega)]; exact M.r3, by rw [o 4 (by omega)]; exact M.r4, by rw [hw, cell_setCell, if_pos ⟨rfl, rfl⟩, M.r5]; rfl, by rw [o 6 (by omega)]; exact M.r6, by rw [o 7 (by omega)]; exact M.r7, s2, s3, M.le, M.ne⟩, S⟩
theorem RM.set6 (M : RM w0 w rb K fs la ll lc pc fc h fell) (x : Int) (hw : w' = w.setCell ⟨rb, 6, none⟩ (.int .i64 x)) : RM w0 w' rb K fs la ll lc pc fc x fell ∧ Same [rb] w.heap.size w w' := by
  obtain ⟨S, s1, s2, s3⟩ := M.setS 6 _ hw
  have o : ∀ j, j ≠ 6 → w'.cell? ⟨rb, j, none⟩ = w.cell? ⟨rb, j, none⟩ := fun j hj => by rw [hw, cell_setCell, if_neg (by omega)]
  exact ⟨⟨s1, M.rl, by rw [o 0 (by omega)]; exact M.r0, by rw [o 1 (by omega)]; exact M.r1, by rw [o 2 (by omega)]; exact M.r2, by rw [o 3 (by omega)]; exact M.r3, by rw [o 4 (by omega)]; exact M.r4, by rw [o 5 (by omega)]; exact M.r5, by rw [hw, cell_setCell, if_pos ⟨rfl, rfl⟩, M.r6]; rfl, by rw [o 7 (by omega)]; exact M.r7, s2, s3, M.le, M.ne⟩, S⟩
theorem RM.set7 (M : RM w0 w rb K fs la ll lc pc fc h fell) (x : Bool) (hw : w' = w.setCell ⟨rb, 7, none⟩ (.bool x)) : RM w0 w' rb K fs la ll lc pc fc h x ∧ Same [rb] w.heap.size w w' := by
  obtain ⟨S, s1, s2, s3⟩ := M.setS 7 _ hw
  have o : ∀ j, j ≠ 7 → w'.cell? ⟨rb, j, none⟩ = w.cell? ⟨rb, j, none⟩ := fun j hj => by rw [hw, cell_setCell, if_neg (by omega)]
  exact ⟨⟨s1, M.rl, by rw [o 0 (by omega)]; exact M.r0, by rw [o 1 (by omega)]; exact M.r1, by rw [o 2 (by omega)]; exact M.r2, by rw [o 3 (by omega)]; exact M.r3, by rw [o 4 (by omega)]; exact M.r4, by rw [o 5 (by omega)]; exact M.r5, by rw [o 6 (by omega)]; exact M.r6, by rw [hw, cell_setCell, if_pos ⟨rfl, rfl⟩, M.r7]; rfl, s2, s3, M.le, M.ne⟩, S⟩
theorem RM.setL (M : RM w0 w rb K fs la ll lc pc fc h fell) {fs' : List SF} {la' : Option Addr} {ll' lc' : Nat} (hr : w.ownsRow w0.heap.size T_preplaw_lab 3 (.slice la' ll' lc') ll' (frVs fs')) (hl : ll' = fs'.length) (hn : ∀ k, (Value.slice la' ll' lc').ownBlock = some k → k ≠ rb) (hw : w' = w.setCell ⟨rb, 3, none⟩ (.slice la' ll' lc')) : RM w0 w' rb K fs' la' ll' lc' pc fc h fell ∧ Same [rb] w.heap.size w w' := by
  obtain ⟨S, s1, s2, _⟩ := M.setS 3 _ hw
  have o : ∀ j, j ≠ 3 → w'.cell? ⟨rb, j, none⟩ = w.cell? ⟨rb, j, none⟩ := fun j hj => by rw [hw, cell_setCell, if_neg (by omega)]
  exact ⟨⟨s1, M.rl, by rw [o 0 (by omega)]; exact M.r0, by rw [o 1 (by omega)]; exact M.r1, by rw [o 2 (by omega)]; exact M.r2, by rw [hw, cell_setCell, if_pos ⟨rfl, rfl⟩, M.r3]; rfl, by rw [o 4 (by omega)]; exact M.r4, by rw [o 5 (by omega)]; exact M.r5, by rw [o 6 (by omega)]; exact M.r6, by rw [o 7 (by omega)]; exact M.r7, s2, row_same hr S (fun k hk => ⟨(hr.lt k hk).2, by simp; exact hn k hk⟩), hl, hn⟩, S⟩
theorem lab_cell (M : RM w0 w rb K fs la ll lc pc fc h fell) {t : Nat} {g : SF} (hg : fs[t]? = some g) :
    ∃ gb, la = some ⟨gb, 0, none⟩ ∧ ll ≤ lc ∧ w.cell? ⟨gb, (ll - 1 - t) * 3, none⟩ = some (.int .i64 ((g.o : Int) - 1)) ∧ w.cell? ⟨gb, (ll - 1 - t) * 3 + 1, none⟩ = some (.int .i64 (g.fl : Int)) ∧ w.cell? ⟨gb, (ll - 1 - t) * 3 + 2, none⟩ = some (.int .i64 (g.ar : Int)) := by
  have hl := get_lt hg
  have le := M.le
  obtain ⟨gb, h1, _, _, h4, hc⟩ := row_get M.row (by omega)
  subst le
  exact ⟨gb, h1, h4, hc _ _ (frVs_get fs t g 0 (by omega) hg), hc _ _ (frVs_get fs t g 1 (by omega) hg), hc _ _ (frVs_get fs t g 2 (by omega) hg)⟩
theorem row_cut {base gb cap : Nat} : ∀ (t : Nat) (fs : List SF), t ≤ fs.length → w.ownsRow base T_preplaw_lab 3 (.slice (some ⟨gb, 0, none⟩) fs.length cap) fs.length (frVs fs) → w.ownsRow base T_preplaw_lab 3 (.slice (some ⟨gb, 0, none⟩) (fs.length - t) cap) (fs.length - t) (frVs (fs.drop t))
  | 0, fs, _, h => h
  | t + 1, [], hl, h => by simp at hl
  | t + 1, a :: r, hl, h => by
    have h' : w.ownsRow base T_preplaw_lab 3 (.slice (some ⟨gb, 0, none⟩) r.length cap) r.length (frVs r) := ownsRow_pop (frVs_len r) h
    have := row_cut t r (by simpa using hl) h'
    rw [show (a :: r).length - (t + 1) = r.length - t by simp]
    exact this
/-- A new label. -/
theorem rpush_spec {ins : Nat → Ins} (M : RM w0 w rb K fs la ll lc pc fc h fell) (hI : InsRow w0 K.nb K.n ins) {p hn : Nat} (hp : p < K.n) (ep : pc = (p : Int)) (eh : h = (hn : Int)) (hl : fs.length < 900) (g : SF) (e1 : g.o = p + 1) (e2 : g.fl = hn) (e3 : g.ar = arP (ins p)) :
    Runs Try.prog preplaw_road_push.id #[rp rb] w fun v w' => v = .tuple #[] ∧ (∃ la' lc', RM w0 w' rb K (g :: fs) la' (ll + 1) lc' pc fc h fell) ∧ (∀ b i, InsAt w b i → b ≠ rb → (∀ k, (Value.slice la ll lc).ownBlock = some k → k ≠ b) → InsAt w' b i) := by
  have ltb : K.nb < w0.heap.size := hI.ltn (by omega)
  have le := M.le
  generalize hR : (fun (v : Value) (w' : World) => v = .tuple #[] ∧ (∃ la' lc', RM w0 w' rb K (g :: fs) la' (ll + 1) lc' pc fc h fell) ∧ (∀ b i, InsAt w b i → b ≠ rb → (∀ k, (Value.slice la ll lc).ownBlock = some k → k ≠ b) → InsAt w' b i)) = R
  refine preplaw_road_push.enter _ _ _ _ ?_
  unfold preplaw_road_push.V
  have M1 := M.drew
  have I1 := hI.mv M1.sm ltb (by simp)
  simp only [true_and, nilV_some, Nat.zero_add]
  have x1 := I1.i1 p hp
  refine ⟨_, _, _, M1.r0, _, M1.r4, ?_⟩
  rw [ep]
  refine ⟨⟨by omega, by omega⟩, ?_⟩
  rw [nilV_some]
  simp only [add_mk, Nat.zero_add, Int.toNat_natCast]
  have L1 : ∀ a : Nat, a = arP (ins p) → preplaw_road_push.L1 (some ⟨rb, 0, none⟩) (a : Int) R (fun _ _ => False) w.drew := fun a ea => by
    refine preplaw_road_push.step1 _ _ _ _ _ ?_
    unfold preplaw_road_push.V1
    have M2 := M1.drew
    simp only [nilV_some, Nat.zero_add]
    have fin : ∀ b w1, b = w.drew.drew.heap.size → w1 = w.drew.drew.alloc (.cells #[.int .i64 pc, .int .i64 h, .int .i64 (a : Int)] T_preplaw_lab) →
        ∃ x5 : Option Addr, ∃ x6 : Nat, ∃ x7 : Nat, ∃ w2, Sem.run Try.prog (Builtin.append_ #[T_sl_preplaw_lab, T_sl_preplaw_lab] T_sl_preplaw_lab #[(.slice la ll lc), (.slice (some ⟨b, 0, none⟩) 1 1)]) w1 = .ok (.slice x5 x6 x7) w2 ∧ ((can w2 ⟨rb, 3, none⟩ ∧ letW (World.setCell w2 ⟨rb, 3, none⟩ (.slice x5 x6 x7)) fun w3 => R (.tuple #[]) w3) ∧ True) := fun b w1 hb hw => by
      have hus : [Value.int .i64 pc, .int .i64 h, .int .i64 (a : Int)] = frV g := by
        unfold frV
        rw [e1, e2, e3, ep, eh, ea]
        congr 2
        omega
      obtain ⟨a', c', w2, hr, ho, hs, hf⟩ := row_app T_sl_preplaw_lab.el T_sl_preplaw_lab M2.row [.int .i64 pc, .int .i64 h, .int .i64 (a : Int)] rfl (by intro u hu; simp at hu; rcases hu with rfl | rfl | rfl <;> rfl) (by omega) (by omega) M2.sm.size hb hw
      rw [hus] at ho
      have ltr := M2.lt
      have nin : rb ∉ obk (.slice la ll lc) := fun q => M.ne _ (mem_obk.1 q) rfl
      have e : ∀ j, w2.cell? ⟨rb, j, none⟩ = w.drew.drew.cell? ⟨rb, j, none⟩ := fun j => hs.cell (p := ⟨rb, j, none⟩) ltr nin
      have M3 : RM w0 w2 rb K (g :: fs) a' (ll + 1) c' pc fc h fell → True := fun _ => trivial
      have hn' : ∀ k, (Value.slice a' (ll + 1) c').ownBlock = some k → k ≠ rb := fun k hk => by
        rcases hf k hk with q | q
        · exact M.ne k q
        · omega
      have sm2 : Same [] w0.heap.size w0 w2 := same_own M2.sm hs (fun k hk => (M2.row.lt k (mem_obk.1 hk)).1)
      refine ⟨a', _, c', w2, hr, ⟨⟨⟨_, by rw [e]; exact M2.r3⟩, by rw [hs.frozen (p := ⟨rb, 3, none⟩) ltr nin]; exact M2.fz 3⟩, letW_intro fun w3 hw3 => ?_⟩, trivial⟩
      have S23 : Same [rb] w2.heap.size w2 w3 := by rw [hw3]; exact (Same.refl _ _ _).setCell (.inr (by simp)) _
      have o : ∀ j, j ≠ 3 → w3.cell? ⟨rb, j, none⟩ = w.drew.drew.cell? ⟨rb, j, none⟩ := fun j hj => by rw [hw3, cell_setCell, if_neg (by omega), e]
      rw [← hR]
      refine ⟨rfl, ⟨a', c', ⟨same_own sm2 S23 (by simp; exact M.rl), M.rl, by rw [o 0 (by omega)]; exact M2.r0, by rw [o 1 (by omega)]; exact M2.r1, by rw [o 2 (by omega)]; exact M2.r2, by rw [hw3, cell_setCell, if_pos ⟨rfl, rfl⟩, e, M2.r3]; rfl, by rw [o 4 (by omega)]; exact M2.r4, by rw [o 5 (by omega)]; exact M2.r5, by rw [o 6 (by omega)]; exact M2.r6, by rw [o 7 (by omega)]; exact M2.r7, fun j => by rw [hw3, World.frozen?_setCell, hs.frozen (p := ⟨rb, j, none⟩) ltr nin]; exact M2.fz j, row_same ho S23 (fun k hk => ⟨(ho.lt k hk).2, by simp; exact hn' k hk⟩), by simp [le], hn'⟩⟩, fun b' i' I hb' hk' => ?_⟩
      have hlt := I.ltA
      exact ((I.mv (Same.refl [] w.heap.size w).drew hlt (by simp)).mv (Same.refl [] w.drew.heap.size w.drew).drew hlt (by simp) |>.mv hs hlt (fun q => hk' b' (mem_obk.1 q) rfl)).mv S23 (by have := hs.size; exact Nat.lt_of_lt_of_le hlt this) (by simp; exact hb')
    have c3 : w.drew.drew.cell? ⟨rb, 3, none⟩ = some (.slice la ll lc) := M2.r3
    have c4 := M2.r4
    have c6 := M2.r6
    have c3' : ∀ w1, w1 = w.drew.drew.alloc (.cells #[.int .i64 pc, .int .i64 h, .int .i64 (a : Int)] T_preplaw_lab) → w1.cell? ⟨rb, 3, none⟩ = some (.slice la ll lc) := fun w1 hw => by
      have S : Same [] w.drew.drew.heap.size w.drew.drew w1 := by rw [hw]; exact (Same.refl _ _ _).alloc (Nat.le_refl _) _
      rw [S.cell (p := ⟨rb, 3, none⟩) M2.lt (by simp)]; exact c3
    clear hR
    repeat' first
      | exact trivial
      | exact fin _ _ (by assumption) (by assumption)
      | refine ⟨_, _, _, c3, ?_⟩
      | refine ⟨_, c4, ?_⟩
      | refine ⟨_, c6, ?_⟩
      | refine letB_intro fun b9 hb9 => letW_intro fun w9 hw9 => ?_
      | refine ⟨_, _, _, c3' _ (by assumption), ?_⟩
      | refine And.intro ?_ ?_
  refine ⟨_, x1, cond_intro (fun e => ?_) (fun e => ?_)⟩
  · have e : (ins p).x = 64 := eq_of_beq e
    exact L1 0 (by unfold arP; rw [if_pos e])
  · have e : ¬ (ins p).x = 64 := by simpa using e
    exact L1 1 (by unfold arP; rw [if_neg e])
end
end Go.Proofs.Qxb6500321a
