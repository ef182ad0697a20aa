/-
  The model reads a body.
-/
import Derived.Test.Qxb6500316aMdH
set_option linter.unusedSimpArgs false
set_option linter.unusedVariables false
set_option maxRecDepth 100000
set_option linter.unusedSectionVars false
namespace Go.Proofs.Qxb6500316a
open Go Go.Vc

theorem brL_kp {s : ByteArray} {e : Nat} : ∀ (k : Nat) (c : Sc) (p : Nat) {c' : Sc} {q : Nat}, brL s e k c p = .ok c' q → c'.opn = c.opn ∧ c'.nO = c.nO ∧ c'.types = c.types ∧ c'.nT = c.nT
  | 0, c, p, c', q, h => by (first | (injection h with z__; injection z__ with h _) | injection h with h _); subst h; exact ⟨rfl, rfl, rfl, rfl⟩
  | k + 1, c, p, c', q, h => by
    obtain ⟨x, q', h1, h2⟩ := bind_ok (show (u32P s e p).bind (fun x q' => brL s e k (c.tab x) q') = .ok c' q from h)
    exact brL_kp k (c.tab x) q' h2
theorem restP_op {s : ByteArray} {e p q : Nat} {op a : Int} {i : Ins} (h : restP s e op a p = .ok i q) : i.op = op := by
  unfold restP at h
  split at h
  · (first | (injection h with z__; injection z__ with h _) | injection h with h _); rw [← h]
  split at h
  · obtain ⟨x, q', h1, h2⟩ := bind_ok h
    split at h2
    · cases h2
    · (first | (injection h2 with z__; injection z__ with h2 _) | injection h2 with h2 _); rw [← h2]
  split at h
  · obtain ⟨x, q', h1, h2⟩ := bind_ok h
    (first | (injection h2 with z__; injection z__ with h2 _) | injection h2 with h2 _); rw [← h2]
  split at h
  · obtain ⟨x, q', h1, h2⟩ := bind_ok h
    obtain ⟨x2, q2, h3, h4⟩ := bind_ok h2
    (first | (injection h4 with z__; injection z__ with h4 _) | injection h4 with h4 _); rw [← h4]
  split at h
  · obtain ⟨x, q', h1, h2⟩ := bind_ok h
    (first | (injection h2 with z__; injection z__ with h2 _) | injection h2 with h2 _); rw [← h2]
  split at h
  · obtain ⟨x, q', h1, h2⟩ := bind_ok h
    (first | (injection h2 with z__; injection z__ with h2 _) | injection h2 with h2 _); rw [← h2]
  split at h
  · obtain ⟨x, q', h1, h2⟩ := bind_ok h
    (first | (injection h2 with z__; injection z__ with h2 _) | injection h2 with h2 _); rw [← h2]
  split at h
  · obtain ⟨x, q', h1, h2⟩ := bind_ok h
    (first | (injection h2 with z__; injection z__ with h2 _) | injection h2 with h2 _); rw [← h2]
  split at h
  · obtain ⟨x, q', h1, h2⟩ := bind_ok h
    (first | (injection h2 with z__; injection z__ with h2 _) | injection h2 with h2 _); rw [← h2]
  split at h
  · obtain ⟨x, q', h1, h2⟩ := bind_ok h
    obtain ⟨x2, q2, h3, h4⟩ := bind_ok h2
    (first | (injection h4 with z__; injection z__ with h4 _) | injection h4 with h4 _); rw [← h4]
  split at h
  · cases h
  · (first | (injection h with z__; injection z__ with h _) | injection h with h _); rw [← h]
theorem restX_kp {s : ByteArray} {e p q : Nat} {c : Sc} {op a : Int} {x : Ins × Sc} (h : restX s e c op a p = .ok x q) : x.1.op = op ∧ x.2.opn = c.opn ∧ x.2.nO = c.nO ∧ x.2.types = c.types ∧ x.2.nT = c.nT := by
  unfold restX at h
  split at h
  · rename_i h14
    obtain ⟨k, q', h1, h2⟩ := bind_ok h
    obtain ⟨c', q2, h3, h4⟩ := bind_ok h2
    have := brL_kp _ _ _ h3
    (first | (injection h4 with z__; injection z__ with h4 _) | injection h4 with h4 _)
    subst h4
    exact ⟨h14.symm, this⟩
  · obtain ⟨k, q', h1, h2⟩ := bind_ok h
    have := restP_op h1
    (first | (injection h2 with z__; injection z__ with h2 _) | injection h2 with h2 _)
    subst h2
    exact ⟨this, rfl, rfl, rfl, rfl⟩

/-- The open blocks, as a string. -/
structure OpS (o : ByteArray) (c : Sc) : Prop where
  sz : o.size = c.nO
  at_ : ∀ j, j < c.nO → byteAt o j = if c.opn j = 4 then 105 else 98
  le : c.nO ≤ 6
theorem OpS.push {o : ByteArray} {c : Sc} (h : OpS o c) (i : Ins) (op : Int) (hn : c.nO < 6) (x : ByteArray) (hx : x.size = 1) (hb : byteAt x 0 = if op = 4 then 105 else 98) : OpS (o ++ x) ((c.more i).opened op) := by
  refine ⟨by rw [ByteArray.size_append, h.sz, hx]; rfl, fun j hj => ?_, by show c.nO + 1 ≤ 6; omega⟩
  have hj : j < c.nO + 1 := hj
  rw [byteAt_append, h.sz]
  show _ = if upd c.opn c.nO op j = 4 then 105 else 98
  unfold upd
  by_cases hjn : j = c.nO
  · subst hjn; rw [if_neg (by omega), if_pos rfl, Nat.sub_self]; exact hb
  · rw [if_pos (by omega), if_neg hjn]; exact h.at_ j (by omega)
theorem OpS.pop {o : ByteArray} {c : Sc} (h : OpS o c) (i : Ins) (hn : c.nO ≠ 0) : OpS (o.extract 0 (c.nO - 1)) (c.more i).closed := by
  have hs := h.sz
  have hl := h.le
  refine ⟨by rw [ByteArray.size_extract, hs]; show min (c.nO - 1) c.nO - 0 = c.nO - 1; omega, fun j hj => ?_, by show c.nO - 1 ≤ 6; omega⟩
  have hj : j < c.nO - 1 := hj
  rw [byteAt_extract _ _ _ _ (by rw [ByteArray.size_extract, hs]; omega), Nat.zero_add]
  exact h.at_ j (by omega)
theorem OpS.els {o : ByteArray} {c : Sc} (h : OpS o c) (i : Ins) (hn : c.nO ≠ 0) : OpS (o.extract 0 (c.nO - 1) ++ (⟨#[98]⟩ : ByteArray)) (c.more i).elsed := by
  have hs := h.sz
  have hl := h.le
  have he : (o.extract 0 (c.nO - 1)).size = c.nO - 1 := by rw [ByteArray.size_extract, hs]; omega
  refine ⟨by rw [ByteArray.size_append, he]; show c.nO - 1 + 1 = c.nO; omega, fun j hj => ?_, hl⟩
  have hj : j < c.nO := hj
  rw [byteAt_append, he]
  show _ = if upd c.opn (c.nO - 1) 5 j = 4 then 105 else 98
  unfold upd
  by_cases hjn : j = c.nO - 1
  · subst hjn; rw [if_neg (by omega), if_pos rfl, Nat.sub_self]; rfl
  · rw [if_pos (by omega), if_neg hjn, byteAt_extract _ _ _ _ (by omega), Nat.zero_add]; exact h.at_ j (by omega)
theorem OpS.more {o : ByteArray} {c : Sc} (h : OpS o c) (i : Ins) : OpS o (c.more i) := ⟨h.sz, h.at_, h.le⟩

section
variable {w0 w : World} {rb e lo : Nat} {s : ByteArray} {B fb : Nat} {ty : Int} {ls : ByteArray} {c : Sc}
/-- One instruction more in the body. -/
theorem body_app {α : Type} {r : Res α} {xb : Nat} {i : Ins} (hF : FM w B fb ty ls c) (hst : StR w rb s e lo r) (hX : InsAt w xb i) (hn : c.nI < 96) (hrb : rb < B) (hrf : rb ≠ fb) (hB : B ≤ w.heap.size) (hxf : xb ≠ fb) (hx : ∀ v k, w.cell? ⟨fb, 2, none⟩ = some v → v.ownBlock = some k → k ≠ xb) 
    {a : Option Addr} {k : Nat} (h2 : w.cell? ⟨fb, 2, none⟩ = some (.slice a c.nI k)) {b : Nat} {w1 : World} (hb : b = w.heap.size) (hw : w1 = w.alloc (.cells #[.int .u8 i.op, .int .u32 i.x, .int .u64 i.y] T_api_Ins)) :
    ∃ (a' : Option Addr) (c' : Nat) (w2 : World), Sem.run Try.prog (Builtin.append_ #[T_sl_api_Ins, T_sl_api_Ins] T_sl_api_Ins #[.slice a c.nI k, .slice (some ⟨b, 0, none⟩) 1 1]) w1 = .ok (.slice a' (c.nI + 1) c') w2 ∧ can w2 ⟨fb, 2, none⟩ ∧
      ∀ w3, w3 = w2.setCell ⟨fb, 2, none⟩ (.slice a' (c.nI + 1) c') → FM w3 B fb ty ls (c.more i) ∧ StR w3 rb s e lo r ∧ InsAt w3 xb i ∧ Same [rb, fb] B w w3 ∧ B ≤ w3.heap.size := by
  obtain ⟨a0, k0, g2, r2⟩ := hF.bd
  rw [g2] at h2
  injection h2 with h2
  injection h2 with h2 _ h4
  subst h2 h4
  obtain ⟨a3, k3, g3, r3⟩ := hF.tb
  obtain ⟨a', c', w2, hr, ho, hs, hf⟩ := row_app T_sl_api_Ins.el T_sl_api_Ins r2 (insC i) rfl (by intro u hu; simp [insC] at hu; rcases hu with rfl | rfl | rfl <;> rfl) (by omega) (by omega) hB hb hw
  have hfl := hF.lt
  have hfw := hF.ltw
  have hrw := hst.lt
  have hob : ∀ d, d ∈ obk (.slice a0 c.nI k0) → B ≤ d := fun d hd => (r2.lt d (mem_obk.1 hd)).1
  have nf : fb ∉ obk (.slice a0 c.nI k0) := fun hm => by have := hob fb hm; omega
  have nr : rb ∉ obk (.slice a0 c.nI k0) := fun hm => by have := hob rb hm; omega
  have nx : xb ∉ obk (.slice a0 c.nI k0) := fun hm => hx _ xb g2 (mem_obk.1 hm) rfl
  have q0 : w2.cell? ⟨fb, 0, none⟩ = some (.int .i64 ty) := by rw [hs.cell hfw nf]; exact hF.c0
  have q1 : w2.cell? ⟨fb, 1, none⟩ = some (.string ls) := by rw [hs.cell hfw nf]; exact hF.c1
  have q2 : w2.cell? ⟨fb, 2, none⟩ = some (.slice a0 c.nI k0) := by rw [hs.cell hfw nf]; exact g2
  have q3 : w2.cell? ⟨fb, 3, none⟩ = some (.slice a3 c.nTab k3) := by rw [hs.cell hfw nf]; exact g3
  have fz : ∀ j, w2.frozen? ⟨fb, j, none⟩ = false := fun j => by rw [hs.frozen hfw nf]; exact hF.fz j
  refine ⟨a', c', w2, hr, ⟨⟨_, q2⟩, fz 2⟩, fun w3 hw3 => ?_⟩
  have S3 : Same [fb] w2.heap.size w2 w3 := by rw [hw3]; exact same_set 2 _
  have sz := hs.size
  have sz3 := S3.size
  have r3' := row_same r3 hs (ne_obk r2 r3 (by decide))
  have ne2 : ∀ {v : Value} {e : TypeId} {sz n : Nat} {xs : List Value}, w2.ownsRow B e sz v n xs → ∀ k, v.ownBlock = some k → k < w2.heap.size ∧ k ∉ [fb] := fun hh k hk => ⟨(hh.lt k hk).2, by have := (hh.lt k hk).1; simp; omega⟩
  refine ⟨⟨by rw [hw3, cell_set _ _ _ _ _ q0]; rfl, by rw [hw3, cell_set _ _ _ _ _ q1]; rfl, ⟨a', c', by rw [hw3, cell_set _ _ _ _ _ q2]; rfl, ?_⟩, ⟨a3, k3, by rw [hw3, cell_set _ _ _ _ _ q3]; rfl, row_same r3' S3 (ne2 r3')⟩, fun j => by rw [hw3]; simpa using fz j, hfl, hF.nT, by show c.nI + 1 ≤ 96; omega⟩, ?_, ?_, ?_, by omega⟩
  · have := row_same ho S3 (ne2 ho)
    show w3.ownsRow B T_api_Ins 3 (.slice a' (c.nI + 1) c') (c.nI + 1) (rowV insC (upd c.ins c.nI i) (c.nI + 1))
    rw [rowV_upd]
    exact this
  · exact (hst.same hs hrw nr).same S3 (by omega) (by simp; omega)
  · exact (hX.same hs hX.lt nx).same S3 (by have := hX.lt; omega) (by simp; omega)
  · exact (hs.mono hB (by intro d hd hlt; have := hob d hd; omega)).trans (S3.mono (by omega) (by intro d hd _; simp at hd; subst hd; simp))

def BPost (rb : Nat) (s : ByteArray) (e lo : Nat) (w0 : World) (B fb : Nat) (ty : Int) (ls : ByteArray) (r : Res Sc) : Value → World → Prop := fun v w' =>
  v = .tuple #[] ∧ StR w' rb s e lo r ∧ (∃ c', FM w' B fb ty ls c' ∧ ∀ x q, r = .ok x q → c' = x) ∧ Same [rb, fb] B w0 w'
theorem bodyL_succ' (s : ByteArray) (e k : Nat) (c : Sc) (p : Nat) : bodyL s e (k + 1) c p = (nextP s e p).bind fun op q => (restX s e c op p q).bind fun x q2 => bodyStep (bodyL s e k) p op x.1 x.2 q2 := rfl
theorem body_mloop (he : e ≤ s.size) (hs : s.size ≤ 1024) (hrb : rb < B) (hrf : rb ≠ fb) {r : Res Sc} :
    ∀ (k : Nat) (o : ByteArray) (c : Sc) (p : Nat) (w : World), e - p < k → RdL w rb s p e → lo ≤ p → p ≤ e → FM w B fb ty ls c → OpS o c → bodyL s e k c p = r → Same [rb, fb] B w0 w → B ≤ w.heap.size →
      binm_rd_body.L1 (some ⟨rb, 0, none⟩) (some ⟨fb, 0, none⟩) o (BPost rb s e lo w0 B fb ty ls r) (fun _ _ => False) w := by
  intro k
  induction k with
  | zero => intro o c p w hk; omega
  | succ k ih =>
    intro o c p w hk hL hlo hpe hF hO hr S0 hB
    refine binm_rd_body.step1 _ _ _ _ _ _ ?_
    unfold binm_rd_body.V1
    simp only [nilV_some, Nat.zero_add]
    refine ⟨_, hL.c3, cond_true' rfl ⟨_, hL.c1, ?_⟩⟩
    have H0 : StR w rb s e lo (.ok () p : Res Unit) := ⟨hlo, hpe, hL⟩
    refine RunsQ.post (insm_spec H0 he hs hF hrb hrf hB) ?_
    rintro v w6 ⟨i, c6, rfl, hst6, F6, hx6, S6⟩
    refine ⟨_, _, _, rfl, ?_⟩
    rw [Res.bind_ok'] at hst6 hx6
    rw [bodyL_succ'] at hr
    have hr : (((nextP s e p).bind fun op q => restX s e c op p q).bind fun x q2 => bodyStep (bodyL s e k) p x.1.op x.1 x.2 q2) = r := by
      rw [← hr, Res.bind_bind]
      cases nextP s e p using Res.cs with
      | err n x => rfl
      | ok op q =>
        simp only [Res.bind_ok']
        cases hz : restX s e c op p q using Res.cs with
        | err n x => rfl
        | ok x q2 => simp only [Res.bind_ok']; rw [(restX_kp hz).1]
    have S06 := S0.trans S6
    have hw6 := F6.ltw
    have hB6 : B ≤ w6.heap.size := by have := S6.size; omega
    refine newIns (w := w6) (i := i) (fun xb w12 hxb hX hS12 => ?_)
    have hst12 := hst6.same hS12 hst6.lt (by simp)
    have F12 := F6.same hS12 (by simp)
    have hB12 : B ≤ w12.heap.size := by have := hS12.size; omega
    have S012 : Same [rb, fb] B w0 w12 := S06.trans (hS12.mono hB6 (by simp))
    cases hz : (nextP s e p).bind fun op q => restX s e c op p q using Res.cs with
    | err n x =>
      rw [hz] at hst12 hr
      have hX12 : RdX w12 rb s n x := hst12
      refine ⟨_, hX12.c3, cond_true' (by simpa using hX12.n0) ?_⟩
      rw [← hr]
      exact ⟨rfl, hX12, ⟨c6, F12, fun x q h => by cases h⟩, S012⟩
    | ok x q2 =>
      rw [hz] at hst12 hr hx6
      rw [Res.bind_ok'] at hr
      obtain ⟨rfl, rfl⟩ := hx6 x q2 rfl
      obtain ⟨op, q, hz1, hz2⟩ := bind_ok hz
      have hp1 := nextP_ok hz1
      have hp2 := restX_ge hz2
      obtain ⟨ko, k2, k3, -, -⟩ := restX_kp hz2
      have hO6 : OpS o x.2 := ⟨by rw [k3]; exact hO.sz, by rw [k2, k3]; exact hO.at_, by rw [k3]; exact hO.le⟩
      clear k2 k3 ko hO hz hz1 hz2
      obtain ⟨_, hq2, hL12⟩ := hst12
      refine ⟨_, hL12.c3, cond_false' rfl ?_⟩
      obtain ⟨a2, kc, g2, r2⟩ := F12.bd
      have hnI := F12.nI
      refine ⟨_, _, _, g2, ?_⟩
      unfold bodyStep at hr
      by_cases h96 : 96 ≤ x.2.nI
      · rw [if_pos h96] at hr
        refine cond_true' (decide_eq_true (by omega)) ?_
        have H1 : StR w12 rb s e lo (.ok () q2 : Res Unit) := ⟨by omega, hq2, hL12⟩
        refine (fail_spec (β := Sc) H1 7 (p : Int) (by decide)).into fun v w20 hv hst20 S20 => ⟨hv, ?_⟩
        rw [← hr]
        exact ⟨rfl, hst20, ⟨x.2, F12.same S20 (by intro k hk; simp at hk; subst hk; exact ⟨hrb, hrf⟩), fun x q h => by cases h⟩, S012.trans (S20.mono hB12 (by simp))⟩
      rw [if_neg h96] at hr
      refine cond_false' (decide_eq_false (by omega)) ?_
      have Fd := F12.drew
      have gd : w12.drew.cell? ⟨fb, 2, none⟩ = some (.slice a2 x.2.nI kc) := g2
      have Xd := hX.drew
      have H1 : StR w12.drew rb s e lo (.ok () q2 : Res Unit) := ⟨by omega, hq2, hL12.drew⟩
      have hxb6 : xb ≠ fb := by have := F6.ltw; omega
      have hrow : ∀ v k, w12.drew.cell? ⟨fb, 2, none⟩ = some v → v.ownBlock = some k → k ≠ xb := fun v k g1 g2 hk => by
        have g1 : w12.cell? ⟨fb, 2, none⟩ = some v := g1
        rw [hS12.cell F6.ltw (by simp)] at g1
        subst hk
        exact F6.rows g1 g2 hxb (by decide)
      have S0d : Same [rb, fb] B w0 w12.drew := S012.drew
      -- behind the append
      have K : ∀ w3, FM w3 B fb ty ls (x.2.more x.1) ∧ StR w3 rb s e lo (.ok () q2 : Res Unit) ∧ InsAt w3 xb x.1 ∧ Same [rb, fb] B w12.drew w3 ∧ B ≤ w3.heap.size → ∀ t, t = decide (x.1.op = 2 ∨ x.1.op = 3 ∨ x.1.op = 4) →
          binm_rd_body.L2 (some ⟨rb, 0, none⟩) (some ⟨fb, 0, none⟩) o (p : Int) xb x.1.op t (BPost rb s e lo w0 B fb ty ls r) (fun _ _ => False) w3 := fun w3 ⟨F3, hst3, X3, S3, hB3⟩ t ht => by
        have S03 := S0d.trans S3
        have fin : ∀ (n : Int) (r' : Res Sc), n ≠ 0 → r = .err n (p : Int) → RunsQ Try.prog binm_rd_fail.id #[rp rb, .int .i64 n, .int .i64 (p : Int)] w3 (fun r1 w2 => r1 = .tuple #[] ∧ BPost rb s e lo w0 B fb ty ls r (.tuple #[]) w2) (fun _ _ => False) := fun n r' hn hrr => by
          refine (fail_spec (β := Sc) hst3 n (p : Int) hn).into fun v w20 hv hst20 S20 => ⟨hv, ?_⟩
          rw [hrr]
          exact ⟨rfl, hst20, ⟨_, F3.same S20 (by intro k hk; simp at hk; subst hk; exact ⟨hrb, hrf⟩), fun x q h => by cases h⟩, S03.trans (S20.mono hB3 (by simp))⟩
        have go : ∀ (o' : ByteArray) (c' : Sc), FM w3 B fb ty ls c' → OpS o' c' → bodyL s e k c' q2 = r → binm_rd_body.L1 (some ⟨rb, 0, none⟩) (some ⟨fb, 0, none⟩) o' (BPost rb s e lo w0 B fb ty ls r) (fun _ _ => False) w3 := fun o' c' F' O' hr' =>
          ih o' c' q2 w3 (by omega) hst3.2.2 (by omega) hq2 F' O' hr' S03 hB3
        have osz := hO6.sz
        have ole := hO6.le
        refine binm_rd_body.step2 _ _ _ _ _ _ _ _ _ _ ?_
        unfold binm_rd_body.V2
        rw [osz]
        refine cond_intro (fun e1 => ?_) (fun e1 => ?_)
        · have e1 : x.1.op = 2 ∨ x.1.op = 3 ∨ x.1.op = 4 := of_decide_eq_true (ht ▸ e1)
          rw [if_pos e1] at hr
          by_cases h6 : 6 ≤ x.2.nO
          · rw [if_pos h6] at hr
            exact cond_true' (decide_eq_true (by omega)) (fin 11 r (by decide) hr.symm)
          · rw [if_neg h6] at hr
            refine cond_false' (decide_eq_false (by omega)) ⟨_, X3.c0, ?_⟩
            refine cond_intro (fun e4 => ⟨by show (((x.2.nO + 1 : Nat) : Int) ≤ 9223372036854775807); omega, ?_⟩) (fun e4 => ⟨by show (((x.2.nO + 1 : Nat) : Int) ≤ 9223372036854775807); omega, ?_⟩)
            · have e4 : x.1.op = 4 := eq_of_beq e4
              exact go _ ((x.2.more x.1).opened x.1.op) ⟨F3.c0, F3.c1, F3.bd, F3.tb, F3.fz, F3.lt, F3.nT, F3.nI⟩ (hO6.push x.1 x.1.op (by omega) (⟨#[105]⟩ : ByteArray) rfl (by rw [if_pos e4]; rfl)) hr
            · have e4 : ¬ x.1.op = 4 := by simpa using e4
              exact go _ ((x.2.more x.1).opened x.1.op) ⟨F3.c0, F3.c1, F3.bd, F3.tb, F3.fz, F3.lt, F3.nT, F3.nI⟩ (hO6.push x.1 x.1.op (by omega) (⟨#[98]⟩ : ByteArray) rfl (by rw [if_neg e4]; rfl)) hr
        have e1 : ¬ (x.1.op = 2 ∨ x.1.op = 3 ∨ x.1.op = 4) := of_decide_eq_false (ht ▸ e1)
        rw [if_neg e1] at hr
        refine cond_intro (fun e5 => ?_) (fun e5 => ?_)
        · have e5 : x.1.op = 5 := eq_of_beq e5
          rw [if_pos e5] at hr
          have L3 : ∀ t, t = decide (x.2.nO = 0 ∨ x.2.opn (x.2.nO - 1) ≠ 4) → binm_rd_body.L3 (some ⟨rb, 0, none⟩) (some ⟨fb, 0, none⟩) o (p : Int) t (BPost rb s e lo w0 B fb ty ls r) (fun _ _ => False) w3 := fun t ht => by
            refine binm_rd_body.step3 _ _ _ _ _ _ _ _ ?_
            unfold binm_rd_body.V3
            rw [osz]
            refine cond_intro (fun e2 => ?_) (fun e2 => ?_)
            · have e2 := of_decide_eq_true (ht ▸ e2)
              rw [if_pos e2] at hr
              exact fin 11 r (by decide) hr.symm
            · have e2 := of_decide_eq_false (ht ▸ e2)
              rw [if_neg e2] at hr
              have hn0 : x.2.nO ≠ 0 := fun h => e2 (.inl h)
              have ew : IntKind.wrap .i64 ((x.2.nO : Int) - 1) = ((x.2.nO - 1 : Nat) : Int) := by rw [wrap_i64 (by omega) (by omega)]; omega
              rw [ew, Int.toNat_natCast]
              refine ⟨⟨by omega, by omega, by omega⟩, ?_, ?_⟩
              · rw [ByteArray.size_extract, osz]; show ((min (x.2.nO - 1) x.2.nO - 0 + 1 : Nat) : Int) ≤ 9223372036854775807; omega
              · exact go _ (x.2.more x.1).elsed ⟨F3.c0, F3.c1, F3.bd, F3.tb, F3.fz, F3.lt, F3.nT, F3.nI⟩ (hO6.els x.1 hn0) hr
          by_cases hn0 : x.2.nO = 0
          · refine cond_true' (by rw [hn0]; rfl) (L3 true (by rw [decide_eq_true (.inl hn0)]))
          · refine cond_false' (by simpa using hn0) ?_
            have ew : IntKind.wrap .i64 ((x.2.nO : Int) - 1) = ((x.2.nO - 1 : Nat) : Int) := by rw [wrap_i64 (by omega) (by omega)]; omega
            rw [ew, Int.toNat_natCast]
            refine ⟨⟨by omega, by omega⟩, L3 _ ?_⟩
            rw [hO6.at_ _ (by omega)]
            by_cases h4 : x.2.opn (x.2.nO - 1) = 4
            · rw [if_pos h4, decide_eq_false (by intro h; rcases h with h | h; exact hn0 h; exact h h4)]; rfl
            · rw [if_neg h4, decide_eq_true (.inr h4)]; rfl
        have e5 : ¬ x.1.op = 5 := by simpa using e5
        rw [if_neg e5] at hr
        refine cond_intro (fun e11 => ?_) (fun e11 => ?_)
        · have e11 : x.1.op = 11 := eq_of_beq e11
          rw [if_pos e11] at hr
          by_cases hn0 : x.2.nO = 0
          · rw [if_pos hn0] at hr
            refine cond_true' (by rw [hn0]; rfl) ?_
            rw [← hr]
            exact ⟨rfl, hst3.map (fun _ => x.2.more x.1), ⟨_, F3, fun y q h => by (first | (injection h with z__; injection z__) | injection h)⟩, S03⟩
          · rw [if_neg hn0] at hr
            refine cond_false' (by simpa using hn0) ?_
            have ew : IntKind.wrap .i64 ((x.2.nO : Int) - 1) = ((x.2.nO - 1 : Nat) : Int) := by rw [wrap_i64 (by omega) (by omega)]; omega
            rw [ew, Int.toNat_natCast]
            refine ⟨⟨by omega, by omega, by omega⟩, ?_⟩
            exact go _ (x.2.more x.1).closed ⟨F3.c0, F3.c1, F3.bd, F3.tb, F3.fz, F3.lt, F3.nT, F3.nI⟩ (hO6.pop x.1 hn0) hr
        · have e11 : ¬ x.1.op = 11 := by simpa using e11
          rw [if_neg e11] at hr
          exact go _ _ F3 (hO6.more x.1) hr
      have K' : ∀ w3, FM w3 B fb ty ls (x.2.more x.1) ∧ StR w3 rb s e lo (.ok () q2 : Res Unit) ∧ InsAt w3 xb x.1 ∧ Same [rb, fb] B w12.drew w3 ∧ B ≤ w3.heap.size → ∃ x54 : Int, w3.cell? ⟨xb, 0, none⟩ = some (.int .u8 x54) ∧ (cond (x54 == (2 : Int))
          (binm_rd_body.L2 (some ⟨rb, 0, none⟩) (some ⟨fb, 0, none⟩) o (p : Int) xb x54 true (BPost rb s e lo w0 B fb ty ls r) (fun _ _ => False) w3)
          (cond (x54 == (3 : Int)) (binm_rd_body.L2 (some ⟨rb, 0, none⟩) (some ⟨fb, 0, none⟩) o (p : Int) xb x54 true (BPost rb s e lo w0 B fb ty ls r) (fun _ _ => False) w3)
          (binm_rd_body.L2 (some ⟨rb, 0, none⟩) (some ⟨fb, 0, none⟩) o (p : Int) xb x54 (x54 == (4 : Int)) (BPost rb s e lo w0 B fb ty ls r) (fun _ _ => False) w3))) := fun w3 hh => by
        refine ⟨_, hh.2.2.1.c0, cond_intro (fun e2 => K w3 hh _ ?_) (fun e2 => cond_intro (fun e3 => K w3 hh _ ?_) (fun e3 => K w3 hh _ ?_))⟩
        · have := eq_of_beq e2; rw [decide_eq_true (by omega)]
        · have := eq_of_beq e3; rw [decide_eq_true (by omega)]
        · have e2 : ¬ x.1.op = 2 := by simpa using e2
          have e3 : ¬ x.1.op = 3 := by simpa using e3
          by_cases h4 : x.1.op = 4
          · rw [h4]; rfl
          · rw [decide_eq_false (by omega)]; simpa using h4
      have hBd : B ≤ w12.drew.heap.size := hB12
      refine ⟨⟨_, _, _, gd, ⟨_, _, _, Xd.c0, Xd.c1, Xd.c2, letB_intro fun b hb => letW_intro fun w1 hw => ?_, trivial⟩, trivial⟩, ⟨_, _, _, Xd.c0, Xd.c1, Xd.c2, ⟨_, _, _, gd, letB_intro fun b hb => letW_intro fun w1 hw => ?_, trivial⟩, letB_intro fun b hb => letW_intro fun w1 hw => ?_, trivial⟩, trivial⟩
      · obtain ⟨a', c', w2, hrun, hcan, hw2⟩ := body_app Fd H1 Xd (by omega) hrb hrf hBd hxb6 hrow gd hb hw
        exact ⟨⟨a', _, c', w2, hrun, ⟨hcan, letW_intro fun w3 hw3 => K' w3 (hw2 w3 hw3)⟩, trivial⟩, trivial⟩
      · obtain ⟨a', c', w2, hrun, hcan, hw2⟩ := body_app Fd H1 Xd (by omega) hrb hrf hBd hxb6 hrow gd hb hw
        exact ⟨⟨a', _, c', w2, hrun, ⟨hcan, letW_intro fun w3 hw3 => K' w3 (hw2 w3 hw3)⟩, trivial⟩, trivial⟩
      · obtain ⟨a', c', w2, hrun, hcan, hw2⟩ := body_app Fd H1 Xd (by omega) hrb hrf hBd hxb6 hrow gd hb hw
        have hal : Same [] w12.drew.heap.size w12.drew w1 := by rw [hw]; exact (Same.refl _ _ _).alloc (Nat.le_refl _) _
        exact ⟨⟨_, _, _, by rw [hal.cell Fd.ltw (by simp)]; exact gd, ⟨a', _, c', w2, hrun, ⟨hcan, letW_intro fun w3 hw3 => K' w3 (hw2 w3 hw3)⟩, trivial⟩, trivial⟩, trivial⟩

theorem bodym_spec {α : Type} {r0 : Res α} (h : StR w rb s e lo r0) (he : e ≤ s.size) (hs : s.size ≤ 1024) (hF : FM w B fb ty ls c.fresh) (hrb : rb < B) (hrf : rb ≠ fb) (hB : B ≤ w.heap.size) :
    Runs Try.prog binm_rd_body.id #[rp rb, rp fb] w (BPost rb s e lo w B fb ty ls (r0.bind fun _ p => bodyP s e c p)) := by
  refine binm_rd_body.enter _ _ _ _ _ ?_
  unfold binm_rd_body.V
  cases r0 using Res.cs with
  | err n x =>
    have hX : RdX w rb s n x := h
    refine binm_rd_body.step1 _ _ _ _ _ _ ?_
    unfold binm_rd_body.V1
    simp only [nilV_some, Nat.zero_add]
    exact ⟨_, hX.c3, cond_false' (by simpa using hX.n0) ⟨rfl, hX, ⟨_, hF, fun x q h => by cases h⟩, Same.refl _ _ _⟩⟩
  | ok a p =>
    exact body_mloop he hs hrb hrf (e - p + 1) eB c.fresh p w (by omega) h.2.2 h.1 h.2.1 hF ⟨rfl, fun j hj => by have hj : j < 0 := hj; omega, by show 0 ≤ 6; omega⟩ rfl (Same.refl _ _ _) hB
end
end Go.Proofs.Qxb6500316a
