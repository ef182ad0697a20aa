/-
  Code is shown.
-/
import Derived.Test.Qxb6500321aMoH
import Derived.Test.Qxb6500321aShB
set_option linter.unusedSimpArgs false
set_option linter.unusedVariables false
set_option maxRecDepth 100000
set_option linter.unusedSectionVars false
set_option maxHeartbeats 1000000
namespace Go.Proofs.Qxb6500321a
open Go Go.Vc

structure FFk (f : FF) : Prop where
  pa : f.pa ≤ 1024
  lo : f.lo ≤ 4096
  re : f.re ≤ 1024
  cl : f.cells.length ≤ 130
  y : ∀ (q : Nat) (x : Ins), f.cells[q]? = some x → 0 ≤ x.y ∧ x.y ≤ 18446744073709551615
def showF (s : ByteArray) (f : FF) : ByteArray := ((((((s ++ (⟨#[10, 102, 108, 97, 116, 32]⟩ : ByteArray)) ++ itoa (f.pa : Int)) ++ (⟨#[32]⟩ : ByteArray)) ++ itoa (f.lo : Int)) ++ (⟨#[32]⟩ : ByteArray)) ++ itoa (f.re : Int)) ++ showB (fun q => f.cells.getD q z0) f.cells.length
def showC (s : ByteArray) : List FF → ByteArray
  | [] => s
  | f :: r => showC (showF s f) r
def showO : Option (List FF) → ByteArray
  | none => ⟨#[45]⟩
  | some fs => showC ⟨#[99, 111, 100, 101]⟩ fs
section
variable {w w' : World} {ok : Nat → Prop} {cdb : Nat} {fs : List FF}
theorem codeShow_loop {w0 : World} (h : CdM w0 ok cdb fs) (hk : ∀ (j : Nat) (f : FF), fs[j]? = some f → FFk f) (hl : fs.length ≤ 100) {R : Value → World → Prop} {r : ByteArray} (hR : ∀ w', Same [] w0.heap.size w0 w' → R (.string r) w') :
    ∀ (k i : Nat) (s : ByteArray) (w : World), i + k = fs.length → s.size ≤ 4 + i * 5000 → Same [] w0.heap.size w0 w → r = showC s (fs.drop i) → api_Code_Show.L1 (some ⟨cdb, 0, none⟩) s (i : Int) R (fun _ _ => False) w := by
  intro k
  induction k with
  | zero =>
    intro i s w hi hs S er
    have hw := h.same S (Nat.le_refl _) (by simp)
    obtain ⟨_, fa, c, h1, _⟩ := hw
    refine api_Code_Show.step1 _ _ _ _ _ _ ?_
    unfold api_Code_Show.V1
    simp only [nilV_some]
    refine ⟨_, _, _, h1, cond_false' (decide_eq_false (by omega)) ?_⟩
    rw [List.drop_eq_nil_of_le (by omega)] at er
    have er : r = s := er
    rw [← er]
    exact hR w S
  | succ k ih =>
    intro i s w hi hs S er
    have hw := h.same S (Nat.le_refl _) (by simp)
    obtain ⟨_, fa, c, h1, h2⟩ := hw
    have hil : i < fs.length := by omega
    obtain ⟨f, hf⟩ : ∃ f, fs[i]? = some f := ⟨_, List.getElem?_eq_getElem hil⟩
    obtain ⟨fb, rfl, h3, h4⟩ := h2 (by intro z; rw [z] at hil; simp at hil)
    obtain ⟨a1, a2, a3, ca, nc, a4, a5⟩ := h4 i f hf
    have K := hk i f hf
    have k1 := K.pa; have k2 := K.lo; have k3 := K.re; have k4 := K.cl
    refine api_Code_Show.step1 _ _ _ _ _ _ ?_
    unfold api_Code_Show.V1
    simp only [nilV_some]
    refine ⟨_, _, _, h1, cond_true' (decide_eq_true (by omega)) ⟨_, _, _, h1, ⟨by omega, by omega⟩, ?_⟩⟩
    rw [nilV_some]
    simp only [add_mk, Nat.zero_add, Int.toNat_natCast]
    refine ⟨_, _, _, _, _, _, a1, a2, a3, a4, newF4 fun b w1 hb F1 S1 l1 => ?_⟩
    refine ⟨_, F1.c0, RunsQ.post (Itoa_spec _ w1 (by omega) (by omega)) ?_⟩
    rintro v w2 ⟨rfl, S2⟩
    have F2 := F1.same S2 l1 (by simp)
    have l2 : b < w2.heap.size := by have := S2.size; omega
    refine ⟨_, rfl, _, F2.c1, RunsQ.post (Itoa_spec _ w2 (by omega) (by omega)) ?_⟩
    rintro v w3 ⟨rfl, S3⟩
    have F3 := F2.same S3 l2 (by simp)
    have l3 : b < w3.heap.size := by have := S3.size; omega
    refine ⟨_, rfl, _, F3.c2, RunsQ.post (Itoa_spec _ w3 (by omega) (by omega)) ?_⟩
    rintro v w4 ⟨rfl, S4⟩
    have F4' := F3.same S4 l3 (by simp)
    have S14 : Same [] w.heap.size w w4 := ((S1.nx S2).nx S3).nx S4
    have sb := showBody_spec (w := w4) (a := ca) (c := nc) (f := fun q => f.cells.getD q z0) (n := f.cells.length) (by omega) (fun q hq => by
        have e : f.cells[q]? = some (f.cells.getD q z0) := by rw [List.getD_eq_getElem?_getD, List.getElem?_eq_getElem hq]; rfl
        have ky := K.y q _ e
        exact ⟨ky.1, by omega⟩) (fun h0 => by
        obtain ⟨nb, b1, b2, b3⟩ := a5 h0
        have lt := b3.ltn (by omega)
        have b4 := b3.mv S14 lt (by simp)
        exact ⟨nb, b1, b4.ltn (by omega), b4⟩)
    refine ⟨_, rfl, _, _, _, F4'.c3, RunsQ.post sb ?_⟩
    rintro v w5 ⟨rfl, S5⟩
    have i1 := itoa_size (f.pa : Int)
    have i2 := itoa_size (f.lo : Int)
    have i3 := itoa_size (f.re : Int)
    have i4 := showB_size (fun q => f.cells.getD q z0) f.cells.length
    have e1 : IntKind.wrap .i64 ((i : Int) + 1) = ((i + 1 : Nat) : Int) := by rw [wrap_i64 (by omega) (by omega)]; omega
    rw [e1]
    refine ⟨_, rfl, by (simp only [ByteArray.size_append, bsz, List.size_toArray, List.length_cons, List.length_nil]; omega), by (simp only [ByteArray.size_append, bsz, List.size_toArray, List.length_cons, List.length_nil]; omega), by (simp only [ByteArray.size_append, bsz, List.size_toArray, List.length_cons, List.length_nil]; omega), by (simp only [ByteArray.size_append, bsz, List.size_toArray, List.length_cons, List.length_nil]; omega), by (simp only [ByteArray.size_append, bsz, List.size_toArray, List.length_cons, List.length_nil]; omega), by (simp only [ByteArray.size_append, bsz, List.size_toArray, List.length_cons, List.length_nil]; omega), by (simp only [ByteArray.size_append, bsz, List.size_toArray, List.length_cons, List.length_nil]; omega), ?_⟩
    refine ih (i + 1) _ w5 (by omega) (by (simp only [ByteArray.size_append, bsz, List.size_toArray, List.length_cons, List.length_nil]; omega)) (S.nx (S14.nx S5)) ?_
    rw [er, List.drop_eq_getElem_cons hil]
    have e2 : fs[i] = f := by rw [List.getElem?_eq_getElem hil] at hf; exact Option.some.inj hf
    rw [e2]
    rfl
/-- A register: no code, or code in memory. -/
def RgA (w : World) (ok : Nat → Prop) (v : Option Addr) (o : Option (List FF)) : Prop :=
  (v = none ∧ o = none) ∨ ∃ cdb fs, v = some ⟨cdb, 0, none⟩ ∧ o = some fs ∧ CdM w ok cdb fs ∧ (∀ (j : Nat) (f : FF), fs[j]? = some f → FFk f) ∧ fs.length ≤ 100
theorem RgA.same {v : Option Addr} {o : Option (List FF)} (h : RgA w ok v o) {S : List Nat} {B : Nat} (hs : Same S B w w') (hB : w.heap.size ≤ B) (hS : ∀ k, k ∈ S → ¬ ok k) : RgA w' ok v o := by
  rcases h with h | ⟨cdb, fs, h1, h2, h3, h4⟩
  · exact .inl h
  · exact .inr ⟨cdb, fs, h1, h2, h3.same hs hB hS, h4⟩
theorem RgA.weak {ok' : Nat → Prop} {v : Option Addr} {o : Option (List FF)} (h : RgA w ok v o) (hb : ∀ k, ok k → k < w.heap.size → ok' k) : RgA w ok' v o := by
  rcases h with h | ⟨cdb, fs, h1, h2, h3, h4⟩
  · exact .inl h
  · exact .inr ⟨cdb, fs, h1, h2, h3.weak hb, h4⟩
theorem codeShow_spec {v : Option Addr} {o : Option (List FF)} (h : RgA w ok v o) : Runs Try.prog api_Code_Show.id #[.pointer v] w fun r w' => r = .string (showO o) ∧ Same [] w.heap.size w w' := by
  refine api_Code_Show.enter _ _ _ _ ?_
  unfold api_Code_Show.V
  rcases h with ⟨rfl, rfl⟩ | ⟨cdb, fs, rfl, rfl, h3, h4, h5⟩
  · exact cond_true' rfl ⟨rfl, Same.refl _ _ _⟩
  · refine cond_false' rfl ?_
    exact codeShow_loop h3 h4 h5 (r := showO (some fs)) (fun w' S => ⟨rfl, S⟩) fs.length 0 _ w (by omega) (by show 4 ≤ _; omega) (Same.refl _ _ _) rfl
end

/-! ### What the compiler gives can be shown -/
theorem brC_y {op : Int} {g : SF} (h1 : g.fl ≤ 10) (h2 : g.ar ≤ 1024) : 0 ≤ (brC op g).y ∧ (brC op g).y ≤ 18446744073709551615 := by
  unfold brC
  split <;> dsimp only <;> omega
theorem rowsS_y (fs : List SF) (tab : Nat → Int) (hb : ∀ (t : Nat) (g : SF), fs[t]? = some g → g.fl ≤ 10 ∧ g.ar ≤ 1024) : ∀ (n a : Nat) {cs : List SC}, rowsS fs tab n a = some cs → ∀ c, c ∈ cs → 0 ≤ c.y ∧ c.y ≤ 18446744073709551615
  | 0, a, cs, h => by cases h; intro c hc; cases hc
  | n + 1, a, cs, h => by
    unfold rowsS at h
    split at h
    · cases h
    · rename_i g hg
      cases hr : rowsS fs tab n (a + 1) with
      | none => rw [hr] at h; cases h
      | some l =>
        rw [hr] at h
        cases h
        intro c hc
        rcases List.mem_cons.1 hc with rfl | hc
        · exact brC_y (hb _ _ hg).1 (hb _ _ hg).2
        · exact rowsS_y fs tab hb n (a + 1) hr c hc
def YA (A : List SC) : Prop := ∀ c, c ∈ A → 0 ≤ c.y ∧ c.y ≤ 18446744073709551615
theorem YA.app {A B : List SC} (h : YA A) (h' : YA B) : YA (A ++ B) := fun c hc => by
  rcases List.mem_append.1 hc with q | q
  · exact h c q
  · exact h' c q
theorem YA.one {c : SC} (h : 0 ≤ c.y ∧ c.y ≤ 18446744073709551615) : YA [c] := fun d hd => by simp at hd; subst hd; exact h
theorem ya_step {B : BD} {i : Nat} {S S' : SS} (hx : 0 ≤ (B.ins i).y ∧ (B.ins i).y ≤ 18446744073709551615) (hb : ∀ (t : Nat) (g : SF), S.fs[t]? = some g → g.fl ≤ 10 ∧ g.ar ≤ 1024) (h : stepS B i S = some S') (hy : YA S.A) : YA S'.A := by
  have z : ∀ (op : Int) (s : Sy), YA [⟨op, s, 0⟩] := fun op s => YA.one (by dsimp only; omega)
  unfold stepS at h
  split at h
  · cases h; exact hy
  · unfold liveS at h
    split at h
    · unfold openS at h
      split at h
      · cases h
      · split at h
        · cases h
        · split at h
          · split at h
            · cases h
            · cases h; exact hy.app (z _ _)
          · cases h; exact hy
    · split at h
      · unfold turnS at h
        split at h
        · cases h
        · split at h
          · cases h
          · split at h
            · cases h
            · cases h
              show YA (turnA S _)
              unfold turnA
              split
              · exact hy.app (z _ _)
              · exact hy
      · split at h
        · split at h
          · cases h
          · rename_i S1 hs
            split at h
            · cases h
            · cases h
              unfold shutS at hs
              split at hs
              · cases hs
              · split at hs
                · cases hs
                · split at hs
                  · cases hs
                  · cases hs
                    dsimp only
                    split
                    · exact hy.app (z _ _)
                    · exact hy
        · split at h
          · unfold brS at h
            split at h
            · cases h
            · split at h
              · cases h
              · rename_i f _ _ _ g hg
                by_cases q : S.h < f.fl + (if (B.ins i).op = 13 then 1 else 0)
                · rw [if_pos q] at h; cases h
                · rw [if_neg q] at h; cases h; exact hy.app (YA.one (brC_y (hb _ _ hg).1 (hb _ _ hg).2))
          · split at h
            · unfold tabS at h
              split at h
              · cases h
              · split at h
                · cases h
                · split at h
                  · cases h
                  · rename_i cs hcs
                    cases h
                    refine hy.app (fun c hc => ?_)
                    rcases List.mem_cons.1 hc with rfl | hc
                    · dsimp only; omega
                    · exact rowsS_y _ _ hb _ _ hcs c hc
            · split at h
              · cases h; exact hy.app (z _ _)
              · unfold plainS at h
                split at h
                · cases h
                · split at h
                  · cases h
                  · split at h
                    · cases h
                    · cases h; exact hy.app (YA.one hx)
theorem ya_tr {B : BD} {res : Nat} (hg : wfGo B.ins B.n B.nt B.n 0 0 (fun _ => false) 0) (hr : res ≤ 1024) (hB : BOkB B) (hx : ∀ i, i < B.n → InsIn (B.ins i)) : ∀ (j : Nat) (S : SS), j ≤ B.n → trS B res j = some S → YA S.A
  | 0, S, _, h => by
    have h : some (initS res) = some S := h
    cases h
    intro c hc; cases hc
  | j + 1, S, hj, h => by
    obtain ⟨S0, h0⟩ := trS_pre 1 j h
    have y0 := ya_tr hg hr hB hx j S0 (by omega) h0
    obtain ⟨p, R⟩ := (pi_tr hg hr hB j S0 (by omega) h0).R
    rw [trS_succ h0] at h
    refine ya_step ⟨(hx j (by omega)).y0, (hx j (by omega)).y1⟩ (fun t g hg => ?_) h y0
    have hl := get_lt hg
    have kl := R.kl
    have F := R.fr t g _ hg (List.getElem?_eq_getElem (by omega))
    exact ⟨F.fl10, F.ar10⟩
theorem compF_ok {P : PM} (W : WFP P) {k : Nat} (hk : k < P.nf) {f : FF} (h : compF P k = .inr f) : FFk f := by
  have F := W.fn k hk
  have B := F.b
  obtain ⟨ws, n1⟩ := wf_room W k hk
  unfold compF at h
  split at h
  · cases h
  · rename_i t ht
    split at h
    · cases h
    · rename_i S hgo
      cases h
      have hsz := typeOf_size W.pb ht
      have hs1 : (splitP t).1.size ≤ 1024 := Nat.le_trans (splitF_size t t.size 0).1 hsz
      have hs2 : (splitP t).2.size ≤ 1024 := Nat.le_trans (splitF_size t t.size 0).2 hsz
      have ls6 := B.ls
      have bo : BOkB (bdOf P (P.fn k)) := ⟨fun i hi => (B.ins i hi).x0, fun j hj => (B.tabs j hj).1⟩
      obtain ⟨h1, h2⟩ := go_tr (B := bdOf P (P.fn k)) (P.fn k).nI 0 _ S rfl hgo
      rw [Nat.zero_add] at h1
      have hl := (pi_tr (B := bdOf P (P.fn k)) F.go hs2 bo (P.fn k).nI S (Nat.le_refl _) h1).l
      have hy := ya_tr (B := bdOf P (P.fn k)) F.go hs2 bo (fun i hi => B.ins i hi) (P.fn k).nI S (Nat.le_refl _) h1
      refine ⟨hs1, by dsimp only; omega, hs2, by dsimp only [outC]; simp; omega, fun q x hq => ?_⟩
      simp only [outC, List.getElem?_map] at hq
      cases hA : S.A[q]? with
      | none => rw [hA] at hq; cases hq
      | some c =>
        rw [hA] at hq
        cases hq
        exact hy c (List.mem_of_getElem? hA)
theorem compG_ok {P : PM} (W : WFP P) : ∀ (n k : Nat) (acc fs : List FF), k + n = P.nf → acc.length = k → (∀ f, f ∈ acc → FFk f) → compG P n k acc = .inr fs → fs.length = P.nf ∧ ∀ f, f ∈ fs → FFk f
  | 0, k, acc, fs, hk, hl, ha, h => by
    have h : Sum.inr acc = Sum.inr fs := h
    cases h
    exact ⟨by omega, ha⟩
  | n + 1, k, acc, fs, hk, hl, ha, h => by
    rw [compG_succ] at h
    cases hf : compF P k with
    | inl e => rw [hf] at h; cases h
    | inr f =>
      rw [hf] at h
      refine compG_ok W n (k + 1) (acc ++ [f]) fs (by omega) (by simp [hl]) (fun g hg => ?_) h
      rcases List.mem_append.1 hg with q | q
      · exact ha g q
      · simp at q; subst q; exact compF_ok W (by omega) hf
theorem comp_ok {P : PM} (W : WFP P) {fs : List FF} (h : comp P = .inr fs) : fs.length = P.nf ∧ fs.length ≤ 100 ∧ ∀ (j : Nat) (f : FF), fs[j]? = some f → FFk f := by
  obtain ⟨h1, h2⟩ := compG_ok W P.nf 0 [] fs (by omega) rfl (fun f hf => by cases hf) h
  have := W.pb.nf
  exact ⟨h1, by omega, fun j f hf => h2 f (List.mem_of_getElem? hf)⟩
end Go.Proofs.Qxb6500321a
