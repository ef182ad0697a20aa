/-
  The model reads the function section; a function's locals.
-/
import Derived.Test.Qxb6500316aMdI
set_option linter.unusedSimpArgs false
set_option linter.unusedVariables false
set_option maxRecDepth 100000
set_option linter.unusedSectionVars false
namespace Go.Proofs.Qxb6500316a
open Go Go.Vc

abbrev iE : Int → List Value := fun x => [.int .i64 x]
section
variable {w0 w : World} {rb e lo : Nat} {s : ByteArray}
theorem funcsS_succ (s : ByteArray) (e k i : Nat) (f : Nat → Int) (r : Res (Nat → Int)) : (r.bind fun f q => funcsL s e (k + 1) i f q) = (r.bind fun f q => (u32P s e q).bind fun t q' => .ok (upd f i t) q').bind fun f q => funcsL s e k (i + 1) f q := by
  cases r using Res.cs with
  | err n x => rfl
  | ok c q =>
    show (u32P s e q).bind (fun t q' => funcsL s e k (i + 1) (upd c i t) q') = _
    rw [Res.bind_ok', Res.bind_bind]
    rfl
def FPost (rb : Nat) (s : ByteArray) (e lo : Nat) (w0 : World) (r : Res (Nat × (Nat → Int))) : Value → World → Prop := fun v w' =>
  ∃ a l c f, v = .slice a l c ∧ w'.ownsRow w0.heap.size T_int 1 (.slice a l c) l (rowV iE f l) ∧ l ≤ 8 ∧ (∀ x q, r = .ok x q → l = x.1 ∧ f = x.2) ∧ StR w' rb s e lo r ∧ Same [rb] w0.heap.size w0 w'
theorem funcs_mloop (he : e ≤ s.size) (hs : s.size ≤ 1024) (hrb : rb < w0.heap.size) {n : Nat} (hn : n ≤ 8) {fin : Res (Nat × (Nat → Int))} :
    ∀ (k i : Nat) (r : Res (Nat → Int)) (f : Nat → Int) (a : Option Addr) (c : Nat) (w : World), i + k = n → StR w rb s e lo r → w.ownsRow w0.heap.size T_int 1 (.slice a i c) i (rowV iE f i) → (∀ f' q, r = .ok f' q → f = f') → ((r.bind fun f q => funcsL s e k i f q).bind fun t q2 => .ok (n, t) q2) = fin → Same [rb] w0.heap.size w0 w →
      binm_rd_funcs.L1 (some ⟨rb, 0, none⟩) a i c (n : Int) (i : Int) (FPost rb s e lo w0 fin) (fun _ _ => False) w := by
  intro k
  induction k with
  | zero =>
    intro i r f a c w hi hst ho hf hfin S0
    refine binm_rd_funcs.step1 _ _ _ _ _ _ _ _ _ ?_
    unfold binm_rd_funcs.V1
    refine cond_false' (decide_eq_false (by omega)) ?_
    refine binm_rd_funcs.step3 _ _ _ _ _ _ ?_
    unfold binm_rd_funcs.V3
    have e1 : (r.bind fun f q => funcsL s e 0 i f q) = r := by cases r <;> rfl
    rw [e1] at hfin
    refine ⟨a, i, c, f, rfl, ho, by omega, fun x q h => ?_, by rw [← hfin]; exact hst.map _, S0⟩
    rw [← hfin] at h
    obtain ⟨f', q', g1, g2⟩ := bind_ok h
    (first | (injection g2 with z__; injection z__ with g2 _) | injection g2 with g2 _)
    subst g2
    exact ⟨by show i = n; omega, hf f' q' g1⟩
  | succ k ih =>
    intro i r f a c w hi hst ho hf hfin S0
    refine binm_rd_funcs.step1 _ _ _ _ _ _ _ _ _ ?_
    unfold binm_rd_funcs.V1
    simp only [nilV_some, Nat.zero_add]
    refine cond_true' (decide_eq_true (by omega)) ?_
    obtain ⟨x, hx, hx0, hx1⟩ := hst.c3
    refine ⟨_, hx, ?_⟩
    cases r using Res.cs with
    | err n' a' =>
      refine cond_false' (by simpa using (hx1 n' a' rfl).2) ?_
      refine binm_rd_funcs.step3 _ _ _ _ _ _ ?_
      unfold binm_rd_funcs.V3
      exact ⟨a, i, c, f, rfl, ho, by omega, fun x q h => (by rw [← hfin] at h; cases h), by rw [← hfin]; exact hst, S0⟩
    | ok f' q =>
      have hff := hf f' q rfl
      subst hff
      refine cond_true' (by simpa using hx0 f q rfl) ?_
      refine binm_rd_funcs.step2 _ _ _ _ _ _ _ _ _ ?_
      unfold binm_rd_funcs.V2
      refine (u32m_spec hst he hs).into fun v w2 hv hst2 S2 => ⟨_, hv.1, letB_intro fun b4 hb4 => letW_intro fun w5 hw5 => ?_⟩
      have S02 := S0.app S2
      have z2 := S02.size
      have ho2 := row_same ho S2 (fun k hk => ⟨(ho.lt k hk).2, by have := (ho.lt k hk).1; simp; omega⟩)
      obtain ⟨a', c', w6, hr, ho6, hs6, hf6⟩ := row_app T_sl_int.el T_sl_int ho2 (iE (numR ((Res.ok f q).bind fun _ p => u32P s e p))) rfl (by intro u hu; simp at hu; subst hu; rfl) (by omega) (by omega) z2 hb4 hw5
      refine ⟨a', _, c', w6, hr, ?_⟩
      rw [wrap_i64 (by omega) (by omega), show (i : Int) + 1 = ((i + 1 : Nat) : Int) by omega]
      have hob : ∀ d, d ∈ obk (.slice a i c) → w0.heap.size ≤ d := fun d hd => (ho2.lt d (mem_obk.1 hd)).1
      rw [funcsS_succ s e k i f (.ok f q)] at hfin
      refine ih (i + 1) ((Res.ok f q).bind fun f q => (u32P s e q).bind fun t q' => .ok (upd f i t) q') (upd f i (numR ((Res.ok f q).bind fun _ p => u32P s e p))) a' c' w6 (by omega) ?_ (by rw [rowV_upd]; exact ho6) ?_ hfin ?_
      · refine (hst2.same hs6 hst2.lt (fun hm => by have := hob rb hm; omega)).re (fun a q' h => ?_) (fun n x h => ?_)
        · rw [Res.bind_ok'] at h ⊢; rw [h]; exact ⟨_, rfl⟩
        · rw [Res.bind_ok'] at h ⊢; rw [h]; rfl
      · intro c2 q2 h
        rw [Res.bind_ok'] at h ⊢
        exact map_num (g := fun x => upd f i x) h
      · exact S02.trans (hs6.mono z2 (by intro d hd hlt; have := hob d hd; omega))
theorem funcsm_spec {α : Type} {r0 : Res α} (h : StR w rb s e lo r0) (he : e ≤ s.size) (hs : s.size ≤ 1024) (ty : Nat → Int) :
    Runs Try.prog binm_rd_funcs.id #[rp rb] w (FPost rb s e lo w (r0.bind fun _ p => funcsP s e ty p)) := by
  refine binm_rd_funcs.enter _ _ _ _ ?_
  unfold binm_rd_funcs.V
  refine (countm_spec h he hs 8).into fun v w2 hv hst S2 => ⟨_, hv, ?_⟩
  have hn := natR_count r0 s e 8
  have e0 : (r0.bind fun _ p => funcsP s e ty p) = (r0.bind fun _ p => countP s e 8 p).bind fun n q => (funcsL s e n 0 ty q).bind fun t q2 => .ok (n, t) q2 := by rw [Res.bind_bind]; rfl
  rw [e0]
  have hrl := h.lt
  generalize r0.bind (fun _ p => countP s e 8 p) = r1 at *
  cases r1 using Res.cs with
  | ok n q =>
    have hn : n ≤ 8 := by have : natR (Res.ok n q) = n := rfl; rw [this] at hn; omega
    rw [Res.bind_ok']
    exact funcs_mloop he hs hrl hn n 0 (.ok ty q) ty none 0 w2 (by omega) hst (World.ownsRow_nil w2 w.heap.size T_int 1) (fun f' q h => by (first | (injection h with z__; injection z__) | injection h)) rfl S2
  | err n x =>
    rw [Res.bind_err']
    exact funcs_mloop (n := 0) he hs hrl (by omega) 0 0 (.err n x) ty none 0 w2 (by omega) hst (World.ownsRow_nil w2 w.heap.size T_int 1) (fun f' q h => by cases h) rfl S2
end

/-! ### Locals -/
section
variable {w : World} {B fb : Nat} {ty : Int} {ls : ByteArray} {c : Sc}
theorem FM.setLs (h : FM w B fb ty ls c) (t : ByteArray) : FM (w.setCell ⟨fb, 1, none⟩ (.string t)) B fb ty t c := by
  obtain ⟨a, k, h2, r2⟩ := h.bd
  obtain ⟨a', k', h3, r3⟩ := h.tb
  have S : Same [fb] w.heap.size w (w.setCell ⟨fb, 1, none⟩ (.string t)) := same_set 1 _
  have hl := h.lt
  exact ⟨by rw [cell_set _ _ _ _ _ h.c0]; rfl, by rw [cell_set _ _ _ _ _ h.c1]; rfl, ⟨a, k, by rw [cell_set _ _ _ _ _ h2]; rfl, row_same r2 S (fun k hk => ⟨(r2.lt k hk).2, by have := (r2.lt k hk).1; simp; omega⟩)⟩, ⟨a', k', by rw [cell_set _ _ _ _ _ h3]; rfl, row_same r3 S (fun k hk => ⟨(r3.lt k hk).2, by have := (r3.lt k hk).1; simp; omega⟩)⟩, fun j => by simpa using h.fz j, hl, h.nT, h.nI⟩
end
/-! ### A row of a record grows -/
structure MR (w : World) (B mb k : Nat) (e : TypeId) (sz : Nat) (a : Option Addr) (n c : Nat) (xs : List Value) : Prop where
  cell : w.cell? ⟨mb, k, none⟩ = some (.slice a n c)
  row : w.ownsRow B e sz (.slice a n c) n xs
  fz : ∀ j, w.frozen? ⟨mb, j, none⟩ = false
  lt : mb < B
section
variable {w : World} {B mb k : Nat} {e : TypeId} {sz : Nat} {a : Option Addr} {n c : Nat} {xs : List Value}
theorem MR.same (h : MR w B mb k e sz a n c xs) {w' : World} {S : List Nat} (hs : Same S w.heap.size w w') (hS : ∀ d, d ∈ S → d < B ∧ d ≠ mb) : MR w' B mb k e sz a n c xs := by
  have hl : mb < w.heap.size := cell_lt h.cell
  have hf : mb ∉ S := fun hm => (hS mb hm).2 rfl
  exact ⟨by rw [hs.cell hl hf]; exact h.cell, row_same h.row hs (fun d hd => ⟨(h.row.lt d hd).2, fun hm => by have := (h.row.lt d hd).1; have := (hS d hm).1; omega⟩), fun j => by rw [hs.frozen hl hf]; exact h.fz j, h.lt⟩
theorem MR.keep (h : MR w B mb k e sz a n c xs) {w' : World} {S : List Nat} (hs : Same S w.heap.size w w') (hm : mb ∉ S) (hr : ∀ d, (Value.slice a n c).ownBlock = some d → d ∉ S) : MR w' B mb k e sz a n c xs := by
  have hl : mb < w.heap.size := cell_lt h.cell
  exact ⟨by rw [hs.cell hl hm]; exact h.cell, row_same h.row hs (fun d hd => ⟨(h.row.lt d hd).2, hr d hd⟩), fun j => by rw [hs.frozen hl hm]; exact h.fz j, h.lt⟩
theorem MR.app (h : MR w B mb k e sz a n c xs) {P : Program} {t : TypeId} {i : TypeInfo} {z : Value} {bytes : Nat} (hE : Elem P t e i z sz bytes) (ty : TypeId) (us : List Value) (hus : us.length = sz) (hu : ∀ u ∈ us, u.oneCell' = true) (hn : n < 1000) (hby : bytes ≤ 1000) (hB : B ≤ w.heap.size)
    {b : Nat} {w1 : World} (hb : b = w.heap.size) (hw : w1 = w.alloc (.cells us.toArray e)) :
    ∃ (a' : Option Addr) (c' : Nat) (w2 : World), Sem.run P (Builtin.append_ #[t, t] ty #[.slice a n c, .slice (some ⟨b, 0, none⟩) 1 1]) w1 = .ok (.slice a' (n + 1) c') w2 ∧ Vc.can w2 ⟨mb, k, none⟩ ∧
      ∀ w3, w3 = w2.setCell ⟨mb, k, none⟩ (.slice a' (n + 1) c') → MR w3 B mb k e sz a' (n + 1) c' (xs ++ us) ∧ Same (mb :: obk (.slice a n c)) w.heap.size w w3 ∧ (∀ j, j ≠ k → w3.cell? ⟨mb, j, none⟩ = w.cell? ⟨mb, j, none⟩) := by
  obtain ⟨a', c', w2, hr, ho, hs, hf⟩ := row_app hE ty h.row us hus hu hn hby hB hb hw
  have hl : mb < w.heap.size := cell_lt h.cell
  have hob : ∀ d, d ∈ obk (.slice a n c) → B ≤ d := fun d hd => (h.row.lt d (mem_obk.1 hd)).1
  have hml := h.lt
  have nm : mb ∉ obk (.slice a n c) := fun hm => by have := hob mb hm; omega
  have q : w2.cell? ⟨mb, k, none⟩ = some (.slice a n c) := by rw [hs.cell hl nm]; exact h.cell
  have fz : ∀ j, w2.frozen? ⟨mb, j, none⟩ = false := fun j => by rw [hs.frozen hl nm]; exact h.fz j
  refine ⟨a', c', w2, hr, ⟨⟨_, q⟩, fz k⟩, fun w3 hw3 => ?_⟩
  have S3 : Same [mb] w2.heap.size w2 w3 := by rw [hw3]; exact same_set k _
  have sz := hs.size
  refine ⟨⟨by rw [hw3, cell_set _ _ _ _ _ q, if_pos rfl], row_same ho S3 (fun d hd => ⟨(ho.lt d hd).2, by have := (ho.lt d hd).1; simp; omega⟩), fun j => by rw [hw3]; simpa using fz j, hml⟩, ?_, fun j hj => ?_⟩
  · exact (hs.mono (Nat.le_refl _) (by intro d hd _; simp [hd])).trans (S3.mono sz (by intro d hd _; simp at hd; simp [hd]))
  · rw [hw3, World.cell?_setCell_other w2 _ _ _ (by intro he; simp at he; omega), hs.cell hl nm]
end
theorem nums_app (a b : List Int) : strOfNums a ++ strOfNums b = strOfNums (a ++ b) := by
  apply ByteArray.ext
  rw [ByteArray.data_append]
  simp [strOfNums]
end Go.Proofs.Qxb6500316a
