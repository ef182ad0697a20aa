/-
  The model reads br_table, and so any instruction; an initialiser.
-/
import Derived.Test.Qxb6500316aRoA
set_option linter.unusedSimpArgs false
set_option linter.unusedVariables false
set_option maxRecDepth 100000
set_option linter.unusedSectionVars false
namespace Go.Proofs.Qxb6500316a
open Go Go.Vc

/-- A function that is being read. -/
structure FM (w : World) (B fb : Nat) (ty : Int) (ls : ByteArray) (c : Sc) : Prop where
  c0 : w.cell? ⟨fb, 0, none⟩ = some (.int .i64 ty)
  c1 : w.cell? ⟨fb, 1, none⟩ = some (.string ls)
  bd : ∃ a k, w.cell? ⟨fb, 2, none⟩ = some (.slice a c.nI k) ∧ w.ownsRow B T_api_Ins 3 (.slice a c.nI k) c.nI (rowV insC c.ins c.nI)
  tb : ∃ a k, w.cell? ⟨fb, 3, none⟩ = some (.slice a c.nTab k) ∧ w.ownsRow B T_uint32 1 (.slice a c.nTab k) c.nTab (rowV u32E c.tabs c.nTab)
  fz : ∀ j, w.frozen? ⟨fb, j, none⟩ = false
  lt : fb < B
  nT : c.nTab ≤ 24
  nI : c.nI ≤ 96
section
variable {w w' : World} {B fb : Nat} {ty : Int} {ls : ByteArray} {c : Sc}
theorem FM.same (h : FM w B fb ty ls c) {S : List Nat} (hs : Same S w.heap.size w w') (hS : ∀ k, k ∈ S → k < B ∧ k ≠ fb) : FM w' B fb ty ls c := by
  have hl : fb < w.heap.size := cell_lt h.c0
  have hf : fb ∉ S := fun hm => (hS fb hm).2 rfl
  obtain ⟨a, k, h2, r2⟩ := h.bd
  obtain ⟨a', k', h3, r3⟩ := h.tb
  exact ⟨by rw [hs.cell hl hf]; exact h.c0, by rw [hs.cell hl hf]; exact h.c1,
    ⟨a, k, by rw [hs.cell hl hf]; exact h2, row_same r2 hs (fun k hk => ⟨(r2.lt k hk).2, fun hm => by have := (r2.lt k hk).1; have := (hS k hm).1; omega⟩)⟩,
    ⟨a', k', by rw [hs.cell hl hf]; exact h3, row_same r3 hs (fun k hk => ⟨(r3.lt k hk).2, fun hm => by have := (r3.lt k hk).1; have := (hS k hm).1; omega⟩)⟩,
    fun j => by rw [hs.frozen hl hf]; exact h.fz j, h.lt, h.nT, h.nI⟩
theorem FM.keep (h : FM w B fb ty ls c) {S : List Nat} (hs : Same S w.heap.size w w') (hf : fb ∉ S) (hS : ∀ j v k, j < 4 → w.cell? ⟨fb, j, none⟩ = some v → v.ownBlock = some k → k ∉ S) : FM w' B fb ty ls c := by
  have hl : fb < w.heap.size := cell_lt h.c0
  obtain ⟨a, k, h2, r2⟩ := h.bd
  obtain ⟨a', k', h3, r3⟩ := h.tb
  exact ⟨by rw [hs.cell hl hf]; exact h.c0, by rw [hs.cell hl hf]; exact h.c1,
    ⟨a, k, by rw [hs.cell hl hf]; exact h2, row_same r2 hs (fun k hk => ⟨(r2.lt k hk).2, hS 2 _ k (by decide) h2 hk⟩)⟩,
    ⟨a', k', by rw [hs.cell hl hf]; exact h3, row_same r3 hs (fun k hk => ⟨(r3.lt k hk).2, hS 3 _ k (by decide) h3 hk⟩)⟩,
    fun j => by rw [hs.frozen hl hf]; exact h.fz j, h.lt, h.nT, h.nI⟩
theorem FM.drew (h : FM w B fb ty ls c) : FM w.drew B fb ty ls c := h.same (Same.refl [] w.heap.size w).drew (by simp)
/-- A row of the function is no newer than the world it stands in. -/
theorem FM.rows (h : FM w B fb ty ls c) {j : Nat} {v : Value} {k : Nat} (g1 : w.cell? ⟨fb, j, none⟩ = some v) (g2 : v.ownBlock = some k) (hk : w.heap.size ≤ k) (hj : j < 4) : False := by
  obtain ⟨a, m, h2, r2⟩ := h.bd
  obtain ⟨a', m', h3, r3⟩ := h.tb
  match j, hj with
  | 0, _ => rw [h.c0] at g1; injection g1 with g1; subst g1; cases g2
  | 1, _ => rw [h.c1] at g1; injection g1 with g1; subst g1; cases g2
  | 2, _ => rw [h2] at g1; injection g1 with g1; subst g1; have := (r2.lt k g2).2; omega
  | 3, _ => rw [h3] at g1; injection g1 with g1; subst g1; have := (r3.lt k g2).2; omega
theorem FM.ltw (h : FM w B fb ty ls c) : fb < w.heap.size := cell_lt h.c0
end

section
variable {SS : List Nat} {w0 w : World} {rb e lo tb xb : Nat} {s : ByteArray}
theorem brS_succ (s : ByteArray) (e k : Nat) (r : Res Sc) : (r.bind fun c q => brL s e (k + 1) c q) = (r.bind fun c q => (u32P s e q).bind fun x q' => .ok (c.tab x) q').bind fun c q => brL s e k c q := by
  cases r using Res.cs with
  | err n x => rfl
  | ok c q =>
    show (u32P s e q).bind (fun x q' => brL s e k (c.tab x) q') = _
    rw [Res.bind_ok', Res.bind_bind]
    rfl
theorem numR_u32 {α : Type} (r0 : Res α) (s : ByteArray) (e : Nat) : 0 ≤ numR (r0.bind fun _ p => u32P s e p) ∧ numR (r0.bind fun _ p => u32P s e p) ≤ 4294967295 := by
  cases hz : r0.bind fun _ p => u32P s e p using Res.cs with
  | ok n q => 
    obtain ⟨a, q', _, h2⟩ := bind_ok hz
    exact u32P_rng h2
  | err n x => exact ⟨Int.le_refl 0, show (0 : Int) ≤ 4294967295 by decide⟩

/-- The labels of a br_table. -/
theorem br_mloop {B fb : Nat} {ty : Int} {ls : ByteArray} {w1 : World} (he : e ≤ s.size) (hs : s.size ≤ 1024) (hrb : rb < B) (hrf : rb ≠ fb) (hB1 : B ≤ w1.heap.size) {R Q : Value → World → Prop} {k : Nat} (hk : k ≤ 1000) {fin : Res Sc}
    (hR : ∀ w (r : Res Sc) c, r = fin → StR w rb s e lo r → FM w B fb ty ls c → (∀ c' q, r = .ok c' q → c = c') → Same [rb, fb] B w1 w → (∀ d, B ≤ d → d < w1.heap.size → (∀ a n m, w1.cell? ⟨fb, 3, none⟩ = some (.slice a n m) → (Value.slice a n m).ownBlock ≠ some d) → w.heap[d]? = w1.heap[d]?) → (∀ a n m d, w.cell? ⟨fb, 3, none⟩ = some (.slice a n m) → (Value.slice a n m).ownBlock = some d → d < w1.heap.size → ∃ a' n' m', w1.cell? ⟨fb, 3, none⟩ = some (.slice a' n' m') ∧ (Value.slice a' n' m').ownBlock = some d) → (∀ j, j ≠ 3 → w.cell? ⟨fb, j, none⟩ = w1.cell? ⟨fb, j, none⟩) → binm_rd_ins.L5 tb xb R Q w) :
    ∀ (m i : Nat) (r : Res Sc) (c : Sc) (w : World), i + m = k + 1 → c.nTab + m ≤ 24 → StR w rb s e lo r → FM w B fb ty ls c → (∀ c' q, r = .ok c' q → c = c') → (r.bind fun c q => brL s e m c q) = fin → Same [rb, fb] B w1 w → 
      (∀ d, B ≤ d → d < w1.heap.size → (∀ a n m, w1.cell? ⟨fb, 3, none⟩ = some (.slice a n m) → (Value.slice a n m).ownBlock ≠ some d) → w.heap[d]? = w1.heap[d]?) →
      (∀ a n m d, w.cell? ⟨fb, 3, none⟩ = some (.slice a n m) → (Value.slice a n m).ownBlock = some d → d < w1.heap.size → ∃ a' n' m', w1.cell? ⟨fb, 3, none⟩ = some (.slice a' n' m') ∧ (Value.slice a' n' m').ownBlock = some d) → w1.heap.size ≤ w.heap.size → (∀ j, j ≠ 3 → w.cell? ⟨fb, j, none⟩ = w1.cell? ⟨fb, j, none⟩) →
      binm_rd_ins.L6 (some ⟨rb, 0, none⟩) (some ⟨fb, 0, none⟩) tb xb (k : Int) (i : Int) R Q w := by
  intro m
  induction m with
  | zero =>
    intro i r c w hi hn hst hF hc hfin hS hD hO hsz hC
    refine binm_rd_ins.step6 _ _ _ _ _ _ _ _ _ ?_
    unfold binm_rd_ins.V6
    refine cond_false' (decide_eq_false (by omega)) ?_
    have e1 : (r.bind fun c q => brL s e 0 c q) = r := by cases r <;> rfl
    exact hR w r c (by rw [← hfin, e1]) hst hF hc hS hD hO hC
  | succ m ih =>
    intro i r c w hi hn hst hF hc hfin hS hD hO hsz hC
    refine binm_rd_ins.step6 _ _ _ _ _ _ _ _ _ ?_
    unfold binm_rd_ins.V6
    simp only [nilV_some, Nat.zero_add]
    refine cond_true' (decide_eq_true (by omega)) ?_
    obtain ⟨x, hx, hx0, hx1⟩ := hst.c3
    refine ⟨_, hx, ?_⟩
    cases r using Res.cs with
    | err n' a' =>
      refine cond_false' (by simpa using (hx1 n' a' rfl).2) ?_
      exact hR w (.err n' a') c hfin hst hF (fun c' q h => by cases h) hS hD hO hC
    | ok c' q =>
      have hcc := hc c' q rfl
      subst hcc
      refine cond_true' (by simpa using hx0 c q rfl) ?_
      refine binm_rd_ins.step8 _ _ _ _ _ _ _ _ _ ?_
      unfold binm_rd_ins.V8
      simp only [nilV_some, Nat.zero_add]
      refine (u32m_spec hst he hs).into fun v w2 hv hst2 S2 => ⟨_, hv.1, ?_⟩
      have F2 := hF.same S2 (by intro k hk; simp at hk; subst hk; exact ⟨hrb, hrf⟩)
      obtain ⟨a, kc, h3, r3⟩ := F2.tb
      refine ⟨_, _, _, h3, letB_intro fun b8 hb8 => letW_intro fun w9 hw9 => ?_⟩
      have hu := numR_u32 (Res.ok c q) s e
      rw [wrap_u32 hu.1 (by omega)] at hw9
      have hBw : B ≤ w2.heap.size := by have := S2.size; omega
      obtain ⟨a', c', w10, hr, ho, hs10, hf10⟩ := row_app T_sl_uint32.el T_sl_uint32 r3 (u32E (numR ((Res.ok c q).bind fun _ p => u32P s e p))) rfl (by intro u hu; simp at hu; subst hu; rfl) (by omega) (by omega) hBw hb8 hw9
      refine ⟨a', _, c', w10, hr, ?_⟩
      have hfl := F2.lt
      have hfw := F2.ltw
      have hrw := hst2.lt
      have hob : ∀ d, d ∈ obk (.slice a c.nTab kc) → B ≤ d := fun d hd => (r3.lt d (mem_obk.1 hd)).1
      have nf : fb ∉ obk (.slice a c.nTab kc) := fun hm => by have := hob fb hm; omega
      have nr : rb ∉ obk (.slice a c.nTab kc) := fun hm => by have := hob rb hm; omega
      have hcan : can w10 ⟨fb, 3, none⟩ := ⟨⟨_, by rw [hs10.cell hfw nf]; exact h3⟩, by rw [hs10.frozen hfw nf]; exact F2.fz 3⟩
      refine ⟨hcan, letW_intro fun w15 hw15 => ?_⟩
      rw [wrap_i64 (by omega) (by omega), show (i : Int) + 1 = ((i + 1 : Nat) : Int) by omega]
      have S15 : Same [fb] w10.heap.size w10 w15 := by rw [hw15]; exact same_set 3 _
      have hst15 := (hst2.same hs10 hrw nr).same S15 (by have := hs10.size; omega) (by simp; omega)
      obtain ⟨ba, bk, h2, r2⟩ := F2.bd
      have k10 : w10.cell? ⟨fb, 3, none⟩ = some (.slice a c.nTab kc) := by rw [hs10.cell hfw nf]; exact h3
      have h0 : w10.cell? ⟨fb, 0, none⟩ = some (.int .i64 ty) := by rw [hs10.cell hfw nf]; exact F2.c0
      have h1 : w10.cell? ⟨fb, 1, none⟩ = some (.string ls) := by rw [hs10.cell hfw nf]; exact F2.c1
      have h2' : w10.cell? ⟨fb, 2, none⟩ = some (.slice ba c.nI bk) := by rw [hs10.cell hfw nf]; exact h2
      have r2' := row_same r2 hs10 (ne_obk r3 r2 (by decide))
      have sp10 := hs10.size
      have ne2 : ∀ {v : Value} {e : TypeId} {sz n : Nat} {xs : List Value}, w10.ownsRow B e sz v n xs → ∀ k, v.ownBlock = some k → k < w10.heap.size ∧ k ∉ [fb] := fun hh k hk => ⟨(hh.lt k hk).2, by have := (hh.lt k hk).1; simp; omega⟩
      have c15 : w15.cell? ⟨fb, 3, none⟩ = some (.slice a' (c.nTab + 1) c') := by rw [hw15, cell_set _ _ _ _ _ k10]; rfl
      have hn' := F2.nT
      have F15 : FM w15 B fb ty ls (c.tab (numR ((Res.ok c q).bind fun _ p => u32P s e p))) := by
        refine ⟨by rw [hw15, cell_set _ _ _ _ _ h0]; rfl, by rw [hw15, cell_set _ _ _ _ _ h1]; rfl, ⟨ba, bk, by rw [hw15, cell_set _ _ _ _ _ h2']; rfl, row_same r2' S15 (ne2 r2')⟩, ⟨a', c', c15, ?_⟩, fun j => by rw [hw15]; simpa using (show w10.frozen? ⟨fb, j, none⟩ = false by rw [hs10.frozen hfw nf]; exact F2.fz j), F2.lt, by show c.nTab + 1 ≤ 24; omega, F2.nI⟩
        have := row_same ho S15 (ne2 ho)
        show w15.ownsRow B T_uint32 1 (.slice a' (c.nTab + 1) c') (c.nTab + 1) (rowV u32E (upd c.tabs c.nTab _) (c.nTab + 1))
        rw [rowV_upd]
        exact this
      rw [brS_succ] at hfin
      have c3w : w.cell? ⟨fb, 3, none⟩ = some (.slice a c.nTab kc) := by
        rw [S2.cell (hF.ltw) (by simp; omega)] at h3; exact h3
      refine ih (i + 1) ((Res.ok c q).bind fun c q => (u32P s e q).bind fun x q' => .ok (c.tab x) q') _ w15 (by omega) (by show c.nTab + 1 + m ≤ 24; omega) ?_ F15 ?_ hfin ?_ ?_ ?_ ?_ ?_
      · refine hst15.re (fun a q' h => ?_) (fun n x h => ?_)
        · rw [Res.bind_ok'] at h ⊢; rw [h]; exact ⟨_, rfl⟩
        · rw [Res.bind_ok'] at h ⊢; rw [h]; rfl
      · intro c2 q2 h
        rw [Res.bind_ok'] at h ⊢
        exact map_num (g := fun x => c.tab x) h
      · refine hS.trans ?_
        refine (S2.mono (by omega) (by intro k hk _; simp at hk; subst hk; simp)).trans ?_
        refine (hs10.mono (by omega) (by intro k hk hlt; have := hob k hk; omega)).trans (S15.mono (by omega) (by intro k hk _; simp at hk; subst hk; simp))
      · intro d hd1 hd2 hd3
        have hd4 := hD d hd1 hd2 hd3
        have : d ∉ obk (.slice a c.nTab kc) := fun hm => by
          obtain ⟨a1, n1, m1, g1, g2⟩ := hO a c.nTab kc d c3w (mem_obk.1 hm) hd2
          exact hd3 a1 n1 m1 g1 g2
        have q2 := S2.block d (by omega) (by simp; omega)
        have q10 := hs10.block d (by have := S2.size; omega) this
        have q15 := S15.block d (by have := S2.size; omega) (by simp; omega)
        rw [q15, q10, q2, hd4]
      · intro a1 n1 m1 d g1 g2 hd
        rw [c15] at g1
        injection g1 with g1
        injection g1 with g1 g3 g4
        subst g1 g3 g4
        rcases hf10 d g2 with q | q
        · exact hO a c.nTab kc d c3w q hd
        · have := S2.size; omega
      · have := S2.size; have := S15.size; omega
      · intro j hj
        rw [hw15, World.cell?_setCell_other w10 _ _ _ (by intro he; simp at he; omega), hs10.cell hfw nf, S2.cell hF.ltw (by simp; omega)]
        exact hC j hj

/-- An instruction of a function's body. -/
def XPost (rb : Nat) (s : ByteArray) (e lo : Nat) (w0 : World) (B fb : Nat) (ty : Int) (ls : ByteArray) (r : Res (Ins × Sc)) : Value → World → Prop := fun v w' =>
  ∃ i c', v = insV i ∧ StR w' rb s e lo r ∧ FM w' B fb ty ls c' ∧ (∀ x q, r = .ok x q → i = x.1 ∧ c' = x.2) ∧ Same [rb, fb] B w0 w'
theorem insm_spec {α : Type} {r0 : Res α} {B fb : Nat} {ty : Int} {ls : ByteArray} {c : Sc} (h : StR w rb s e lo r0) (he : e ≤ s.size) (hs : s.size ≤ 1024) (hF : FM w B fb ty ls c) (hrb : rb < B) (hrf : rb ≠ fb) (hB : B ≤ w.heap.size) :
    Runs Try.prog binm_rd_ins.id #[rp rb, rp fb] w (XPost rb s e lo w B fb ty ls (r0.bind fun _ p => (nextP s e p).bind fun op q => restX s e c op p q)) := by
  refine binm_rd_ins.enter _ _ _ _ _ ?_
  unfold binm_rd_ins.V
  refine letB_intro fun tb htb => letW_intro fun w4 hw4 => ?_
  have hS4 : Same [] w.heap.size w w4 := by rw [hw4]; exact (Same.refl _ _ _).alloc (Nat.le_refl _) _
  have hT : InsAt w4 tb ⟨0, 0, 0⟩ := by rw [hw4, htb]; exact InsAt.new w _
  have htb' : w.heap.size ≤ tb := by rw [htb]; exact Nat.le_refl _
  clear hw4 htb
  simp only [nilV_some, Nat.zero_add]
  have hrl := h.lt
  have h4 := h.same hS4 hrl (by simp)
  obtain ⟨p0, k1, hp0⟩ := h4.c1
  refine ⟨_, k1, (byte_spec h4 he hs).into fun v w8 hv hst8 S8 => ⟨_, hv, ?_⟩⟩
  have hn := numR_next r0 s e
  rw [wrap_u8 hn.1 hn.2]
  have hT8 := hT.same S8 hT.lt (by simp; omega)
  have S48 : Same [rb] w.heap.size w w8 := (hS4.mono (Nat.le_refl _) (by simp) : Same [rb] w.heap.size w w4).app S8
  refine newIns (w := w8) (i := ⟨numR (r0.bind fun _ p => nextP s e p), 0, 0⟩) (fun xb w12 hxb hX hS12 => ?_)
  have hst12 := hst8.same hS12 hst8.lt (by simp)
  have t8 := hT8.lt
  have z8 := S48.size
  have hT12 := hT8.same hS12 t8 (by simp)
  have S12 : Same [rb] w.heap.size w w12 := S48.trans ((hS12.mono (Nat.le_refl _) (by simp) : Same [rb] w8.heap.size w8 w12).mono z8 (by simp))
  have F12 := hF.same S12 (by intro k hk; simp at hk; subst hk; exact ⟨hrb, hrf⟩)
  refine RunsQ.post (api_MemSig.pure _ _) ?_
  rintro _ w14 ⟨rfl, rfl⟩
  refine ⟨_, _, _, rfl, RunsQ.post (api_NumSig.pure _ _) ?_⟩
  rintro _ w19 ⟨rfl, rfl⟩
  refine ⟨_, _, _, rfl, ?_⟩
  have MC : MCtx [rb] w w19 rb s e lo tb xb (r0.bind fun _ p => nextP s e p) ⟨numR (r0.bind fun _ p => nextP s e p), 0, 0⟩ := ⟨hst12, hX, hT12, S12, by omega, htb', by omega, hrl, by simp⟩
  have e0 : (r0.bind fun _ p => (nextP s e p).bind fun op q => restX s e c op p q) = (r0.bind fun _ p => nextP s e p).bind fun op q => restX s e c op p0 q := by
    cases r0 using Res.cs with
    | ok a q => rw [hp0 a q rfl]; rfl
    | err n x => rfl
  rw [e0]
  clear e0 hv hX
  generalize (r0.bind fun _ p => nextP s e p) = r1 at *
  suffices H : ∀ t, t = decide (numR r1 = 2 ∨ numR r1 = 3 ∨ numR r1 = 4) → binm_rd_ins.L1 (some ⟨rb, 0, none⟩) (some ⟨fb, 0, none⟩) tb p0 (numR r1) xb (api_MemSig.F (numR r1)).1 (api_NumSig.F (numR r1)).1 t (XPost rb s e lo w B fb ty ls (r1.bind fun op q => restX s e c op p0 q)) (fun _ _ => False) w19 by
    refine cond_intro (fun e2 => H _ ?_) (fun e2 => cond_intro (fun e3 => H _ ?_) (fun e3 => H _ ?_))
    · have := eq_of_beq e2; rw [decide_eq_true (by omega)]
    · have := eq_of_beq e3; rw [decide_eq_true (by omega)]
    · have e2 : ¬ numR r1 = 2 := by simpa using e2
      have e3 : ¬ numR r1 = 3 := by simpa using e3
      by_cases h4 : numR r1 = 4
      · rw [h4]; rfl
      · rw [decide_eq_false (by omega)]; simpa using h4
  intro t ht
  have z12 := S12.size
  by_cases h14 : numR r1 ≠ 14
  · cases r1 using Res.cs with
    | err n x =>
      have hE : IEnd [rb] w rb s e lo (.err n x) (XPost rb s e lo w B fb ty ls ((Res.err n x : Res Int).bind fun op q => restX s e c op p0 q)) := fun w' i hst hS hi => ⟨i, c, rfl, hst, hF.same hS (by intro k hk; simp at hk; subst hk; exact ⟨hrb, hrf⟩), fun x q h => (by cases h), hS.mono hB (by simp)⟩
      rw [show numR (Res.err n x) = 0 from rfl] at *
      refine binm_rd_ins.step1 _ _ _ _ _ _ _ _ _ _ _ _ ?_
      unfold binm_rd_ins.V1
      refine cond_false' ht ?_
      refine cond_false' rfl (cond_false' rfl (cond_false' rfl (cond_false' rfl ?_)))
      refine binm_rd_ins.step3 _ _ _ _ _ _ _ _ _ _ _ _ ?_
      unfold binm_rd_ins.V3
      refine cond_false' rfl (cond_false' rfl (cond_false' rfl ?_))
      rw [memS_iff (by decide) (by decide)]
      refine cond_false' rfl (cond_false' rfl ?_)
      refine binm_rd_ins.step7 _ _ _ _ _ _ _ _ _ _ ?_
      unfold binm_rd_ins.V7
      refine cond_false' rfl (cond_false' rfl (cond_false' rfl (cond_false' rfl (cond_false' rfl ?_))))
      rw [numS_iff (by decide) (by decide)]
      refine cond_false' rfl (cond_true' rfl ?_)
      refine binm_rd_ins.step9 _ _ _ _ _ _ _ _ ?_
      unfold binm_rd_ins.V9
      refine cond_true' rfl ?_
      exact hE.map MC (fun _ => (⟨0, 0, 0⟩ : Ins)) rfl (fun y q h => by cases h)
    | ok op q =>
      have h14 : op ≠ 14 := h14
      have hE : IEnd [rb] w rb s e lo (restP s e op p0 q) (XPost rb s e lo w B fb ty ls ((Res.ok op q : Res Int).bind fun op q => restX s e c op p0 q)) := fun w' i hst hS hi => by
        rw [Res.bind_ok']
        unfold restX
        rw [if_neg h14]
        exact ⟨i, c, rfl, hst.map _, hF.same hS (by intro k hk; simp at hk; subst hk; exact ⟨hrb, hrf⟩), fun x q h => by
          obtain ⟨y, q', g1, g2⟩ := bind_ok h
          (first | (injection g2 with z__; injection z__ with g2 g3) | injection g2 with g2 g3)
          subst g2
          exact ⟨hi y q' g1, rfl⟩, hS.mono hB (by simp)⟩
      exact ins_ops (n := 0) MC he hs hn.1 hn.2 h14 rfl hE t ht
  · have h14 : numR r1 = 14 := by omega
    cases r1 using Res.cs with
    | err n x => cases h14
    | ok op q =>
      have h14 : op = 14 := h14
      subst h14
      rw [Res.bind_ok', show restX s e c 14 p0 q = brP s e c q from rfl]
      rw [show numR (Res.ok (14 : Int) q) = 14 from rfl] at *
      refine binm_rd_ins.step1 _ _ _ _ _ _ _ _ _ _ _ _ ?_
      unfold binm_rd_ins.V1
      refine cond_false' ht ?_
      refine cond_false' rfl (cond_false' rfl (cond_false' rfl (cond_false' rfl ?_)))
      refine binm_rd_ins.step3 _ _ _ _ _ _ _ _ _ _ _ _ ?_
      unfold binm_rd_ins.V3
      refine cond_false' rfl (cond_true' rfl ?_)
      simp only [nilV_some, Nat.zero_add]
      obtain ⟨a, kc, h3, r3⟩ := F12.tb
      have hn24 := F12.nT
      refine ⟨_, _, _, h3, ?_⟩
      rw [show IntKind.wrap .i64 (IntKind.wrap .i64 ((24 : Int) - ((c.nTab : Nat) : Int)) - 1) = 23 - (c.nTab : Int) by rw [wrap_i64 (x := (24 : Int) - _) (by omega) (by omega), wrap_i64 (by omega) (by omega)]; omega]
      refine (countm_spec MC.st he hs (23 - (c.nTab : Int))).into fun v w10 hv hst10 S10 => ⟨_, hv, ?_⟩
      have M10 := MC.step hst10 S10
      have F10 := F12.same S10 (by intro k hk; simp at hk; subst hk; exact ⟨hrb, hrf⟩)
      have h3' : w10.cell? ⟨fb, 3, none⟩ = some (.slice a c.nTab kc) := by rw [S10.cell F12.ltw (by simp; omega)]; exact h3
      refine ⟨_, _, _, h3', M10.x.can 1 (by decide), letW_intro fun w16 hw16 => ?_⟩
      rw [wrap_u32 (by omega) (by omega)] at hw16
      have M16 := M10.setx (c.nTab : Int)
      rw [← hw16] at M16
      refine ⟨M16.x.can 2 (by decide), letW_intro fun w17 hw17 => ?_⟩
      rw [Res.bind_ok'] at M16 M10 hw17 hst10 ⊢
      have hk24 : (natR (countP s e (23 - (c.nTab : Int)) q) : Int) ≤ 23 ∧ (∀ n q2, countP s e (23 - (c.nTab : Int)) q = .ok n q2 → c.nTab + n + 1 ≤ 24) := by
        cases hz : countP s e (23 - (c.nTab : Int)) q using Res.cs with
        | ok n q2 => have := countP_le hz; exact ⟨by show (n : Int) ≤ 23; omega, fun n' q' hh => by (first | (injection hh with z__; injection z__ with hh _) | injection hh with hh _); omega⟩
        | err n x => exact ⟨by show ((0 : Nat) : Int) ≤ 23; decide, fun n' q' hh => by cases hh⟩
      rw [wrap_i64 (x := (natR (countP s e (23 - (c.nTab : Int)) q) : Int) + 1) (by omega) (by omega), wrap_u64 (by omega) (by omega)] at hw17
      have M17 := M16.sety ((natR (countP s e (23 - (c.nTab : Int)) q) : Int) + 1)
      rw [← hw17] at M17
      have xl := M17.x.lt
      have S1617 : Same [xb] w10.heap.size w10 w17 := by rw [hw17, hw16]; exact ((Same.refl _ _ _).setCell (.inr (by simp)) _).setCell (.inr (by simp)) _
      -- the rows of the function are older than xb
      have rows : ∀ {v : Value} {e : TypeId} {sz n : Nat} {xs : List Value}, w.ownsRow B e sz v n xs → ∀ k, v.ownBlock = some k → k < w.heap.size := fun hh k hk => (hh.lt k hk).2
      have F17 : FM w17 B fb ty ls c := by
        refine hF.same (S := [rb]) ?_ (by intro k hk; simp at hk; subst hk; exact ⟨hrb, hrf⟩)
        exact M17.S
      have h17 : w17.cell? ⟨fb, 3, none⟩ = some (.slice a c.nTab kc) := by rw [S1617.cell (by have := F10.ltw; exact this) (by have := hF.ltw; have := MC.lx; simp; omega)]; exact h3'
      cases hz : countP s e (23 - (c.nTab : Int)) q using Res.cs with
      | err n x =>
        rw [hz] at M17
        rw [show natR (Res.err n x) = 0 from rfl]
        refine binm_rd_ins.step6 _ _ _ _ _ _ _ _ _ ?_
        unfold binm_rd_ins.V6
        refine cond_true' (by decide) ?_
        simp only [nilV_some, Nat.zero_add]
        have st17 : RdX w17 rb s n x := M17.st
        refine ⟨_, st17.c3, cond_false' (by simpa using st17.n0) ?_⟩
        refine M17.done fun w' hst hS hB' => ?_
        have hb : brP s e c q = .err n x := by unfold brP; rw [hz]; rfl
        rw [hb]
        exact ⟨_, c, rfl, hst, hF.same hS (by intro k hk; simp at hk; subst hk; exact ⟨hrb, hrf⟩), fun x q h => (by cases h), hS.mono hB (by simp)⟩
      | ok n q2 =>
        rw [hz] at M17
        rw [show natR (Res.ok n q2) = n from rfl] at *
        have hn1 := hk24.2 n q2 hz
        have hfin : brP s e c q = (brL s e (n + 1) c q2).bind fun c' q2 => .ok (⟨14, (c.nTab : Int), ((n + 1 : Nat) : Int)⟩, c') q2 := by unfold brP; rw [hz]; rfl
        have st17 : StR w17 rb s e lo (.ok c q2 : Res Sc) := M17.st
        have z17 := M17.S.size
        refine br_mloop (B := B) (fb := fb) (ty := ty) (ls := ls) (w1 := w17) he hs hrb hrf (by omega) (k := n) (by omega) (fin := brL s e (n + 1) c q2) (fun w' r c' hr hst F' hc' S' hD hO hC => ?_) (n + 1) 0 (.ok c q2) c w17 (by omega) (by omega) st17 F17 (fun c' q h => by (first | (injection h with z__; injection z__) | injection h)) rfl (Same.refl _ _ _) (fun d _ _ _ => rfl) (fun a1 n1 m1 d g1 g2 _ => ⟨a1, n1, m1, g1, g2⟩) (Nat.le_refl _) (fun j _ => rfl)
        have tl := M17.t.lt
        have nx : ∀ d, d = xb ∨ d = tb → w'.heap[d]? = w17.heap[d]? := fun d hd => by
          have l1 := MC.lx
          refine hD d (by omega) (by omega) (fun a1 n1 m1 g1 g2 => ?_)
          rw [h17] at g1
          injection g1 with g1
          injection g1 with g1 g3 g4
          subst g1 g3 g4
          obtain ⟨a2, k2, g5, g6⟩ := hF.tb
          have g7 : w17.cell? ⟨fb, 3, none⟩ = w.cell? ⟨fb, 3, none⟩ := M17.S.cell hF.ltw (by simp; omega)
          rw [h17, g5] at g7
          injection g7 with g7
          injection g7 with g7 g8 g9
          subst g7 g9
          have := (g6.lt d g2).2
          omega
        have cellOf : ∀ d j, d = xb ∨ d = tb → w'.cell? ⟨d, j, none⟩ = w17.cell? ⟨d, j, none⟩ := fun d j hd => World.cell?_of_block (w := w17) (nx d hd)
        have frOf : ∀ d j, d = xb ∨ d = tb → w'.frozen? ⟨d, j, none⟩ = w17.frozen? ⟨d, j, none⟩ := fun d j hd => World.frozen?_of_block (w := w17) (nx d hd)
        have xI : InsAt w' xb ⟨14, (c.nTab : Int), (n : Int) + 1⟩ := ⟨by rw [cellOf _ _ (.inl rfl)]; exact M17.x.c0, by rw [cellOf _ _ (.inl rfl)]; exact M17.x.c1, by rw [cellOf _ _ (.inl rfl)]; exact M17.x.c2, fun j => by rw [frOf _ _ (.inl rfl)]; exact M17.x.f j⟩
        have tI : InsAt w' tb ⟨0, 0, 0⟩ := ⟨by rw [cellOf _ _ (.inr rfl)]; exact M17.t.c0, by rw [cellOf _ _ (.inr rfl)]; exact M17.t.c1, by rw [cellOf _ _ (.inr rfl)]; exact M17.t.c2, fun j => by rw [frOf _ _ (.inr rfl)]; exact M17.t.f j⟩
        refine binm_rd_ins.step5 _ _ _ _ _ ?_
        unfold binm_rd_ins.V5
        refine retIns xI tI (R := XPost rb s e lo w B fb ty ls (brP s e c q)) (fun w'' hS'' => ?_)
        have hSt : Same [tb] w'.heap.size w' w'' := hS'' _
        refine ⟨⟨14, (c.nTab : Int), (n : Int) + 1⟩, c', rfl, ?_, ?_, ?_, ?_⟩
        · rw [hfin, ← hr]
          exact (hst.same hSt hst.lt (by simp; omega)).map _
        · have l2 := M17.lt
          have l3 := hF.ltw
          refine F'.keep hSt (by simp; omega) (fun j v k hj4 g1 g2 hk => ?_)
          have hk : k = tb := by simpa using hk
          subst hk
          by_cases hj : j = 3
          · subst hj
            obtain ⟨a2, k2, g5, g6⟩ := F'.tb
            rw [g5] at g1
            injection g1 with g1
            rw [← g1] at g2
            obtain ⟨a3, n3, m3, g7, g8⟩ := hO _ _ _ _ g5 g2 tl
            obtain ⟨a4, k4, g9, g10⟩ := hF.tb
            have g11 : w17.cell? ⟨fb, 3, none⟩ = w.cell? ⟨fb, 3, none⟩ := M17.S.cell hF.ltw (by simp; omega)
            rw [g7, g9] at g11
            injection g11 with g11
            rw [g11] at g8
            have := (g10.lt _ g8).2
            omega
          · rw [hC j hj, M17.S.cell hF.ltw (by simp; omega)] at g1
            exact hF.rows g1 g2 l2 hj4
        · intro x q' h
          rw [hfin, ← hr] at h
          obtain ⟨c2, q3, g1, g2⟩ := bind_ok h
          (first | (injection g2 with z__; injection z__ with g2 g3) | injection g2 with g2 g3)
          subst g2
          exact ⟨by show (⟨14, (c.nTab : Int), (n : Int) + 1⟩ : Ins) = ⟨14, (c.nTab : Int), ((n + 1 : Nat) : Int)⟩; rw [show ((n + 1 : Nat) : Int) = (n : Int) + 1 by omega], hc' c2 q3 g1⟩
        · exact (M17.S.mono hB (by simp)).trans (S'.trans (hSt.mono (by have := hst.lt; have := tI.lt; have := M17.lt; omega) (by intro k hk hlt; simp at hk; have := M17.lt; omega)))
end
end Go.Proofs.Qxb6500316a
