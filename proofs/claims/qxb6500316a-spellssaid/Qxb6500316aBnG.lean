/-
  A body (one without br_table).
-/
import Derived.Test.Qxb6500316aBnF
set_option linter.unusedSimpArgs false
set_option linter.unusedVariables false
set_option maxRecDepth 100000
namespace Go.Proofs.Qxb6500316a
open Go Go.Vc

/-- One instruction more. -/
def Sc.more (c : Sc) (i : Ins) : Sc := { { c with ins := upd c.ins c.nI i } with nI := c.nI + 1 }
def Sc.opened (c : Sc) (op : Int) : Sc := { { c with opn := upd c.opn c.nO op } with nO := c.nO + 1 }
def Sc.elsed (c : Sc) : Sc := { c with opn := upd c.opn (c.nO - 1) 5 }
def Sc.closed (c : Sc) : Sc := { c with nO := c.nO - 1 }

/-- The body's instructions; -1: it holds a br_table. -/
def bodyL (s : ByteArray) (e : Nat) : Nat → Sc → Nat → Res Sc
  | 0, _, _ => .err (-1) 0
  | k + 1, c, p => (nextP s e p).bind fun op q => if op = 14 then .err (-1) 0 else (restP s e op p q).bind fun i q2 =>
    if 96 ≤ c.nI then .err 7 p
    else if op = 2 ∨ op = 3 ∨ op = 4 then (if 6 ≤ c.nO then .err 11 p else bodyL s e k ((c.more i).opened op) q2)
    else if op = 5 then (if c.nO = 0 ∨ c.opn (c.nO - 1) ≠ 4 then .err 11 p else bodyL s e k (c.more i).elsed q2)
    else if op = 11 then (if c.nO = 0 then .ok (c.more i) q2 else bodyL s e k (c.more i).closed q2)
    else bodyL s e k (c.more i) q2
theorem bodyL_succ (s : ByteArray) (e k : Nat) (c : Sc) (p : Nat) : bodyL s e (k + 1) c p = (nextP s e p).bind fun op q => if op = 14 then .err (-1) 0 else (restP s e op p q).bind fun i q2 =>
    if 96 ≤ c.nI then .err 7 p
    else if op = 2 ∨ op = 3 ∨ op = 4 then (if 6 ≤ c.nO then .err 11 p else bodyL s e k ((c.more i).opened op) q2)
    else if op = 5 then (if c.nO = 0 ∨ c.opn (c.nO - 1) ≠ 4 then .err 11 p else bodyL s e k (c.more i).elsed q2)
    else if op = 11 then (if c.nO = 0 then .ok (c.more i) q2 else bodyL s e k (c.more i).closed q2)
    else bodyL s e k (c.more i) q2 := rfl
def Sc.fresh (c : Sc) : Sc := { { { c with nI := 0 } with nTab := 0 } with nO := 0 }
def bodyP (s : ByteArray) (e : Nat) (c : Sc) (p : Nat) : Res Sc := bodyL s e (e - p + 1) c.fresh p

/-- A row of instructions. -/
structure InsRow (w : World) (b n : Nat) (ins : Nat → Ins) : Prop where
  i0 : ∀ j, j < n → w.cell? ⟨b, j * 3, none⟩ = some (.int .u8 (ins j).op)
  i1 : ∀ j, j < n → w.cell? ⟨b, j * 3 + 1, none⟩ = some (.int .u32 (ins j).x)
  i2 : ∀ j, j < n → w.cell? ⟨b, j * 3 + 2, none⟩ = some (.int .u64 (ins j).y)
theorem InsRow.same {w w' : World} {b n : Nat} {ins : Nat → Ins} (h : InsRow w b n ins) {S : List Nat} {B : Nat} (hs : Same S B w w') (hb : b < B) (hS : b ∉ S) : InsRow w' b n ins :=
  ⟨fun j hj => by rw [hs.cell hb hS]; exact h.i0 j hj, fun j hj => by rw [hs.cell hb hS]; exact h.i1 j hj, fun j hj => by rw [hs.cell hb hS]; exact h.i2 j hj⟩

structure Blk (rb b bi bt fb : Nat) : Prop where
  a1 : rb ≠ b
  a2 : rb ≠ bi
  a3 : rb ≠ bt
  a4 : fb ≠ rb
  a5 : fb ≠ b
  a6 : fb ≠ bi
  a7 : fb ≠ bt

structure BCtx (w0 w : World) (rb : Nat) (s : ByteArray) (p0 p e b bi bt fb fo : Nat) (c : Sc) : Prop where
  rd : RdAt w rb s p e b
  tx : Txt s p e
  le : p0 ≤ p
  bn : BinAt w b bi bt c
  S : Same [rb, b, bi] w0.heap.size w0 w
  k : Blk rb b bi bt fb
  lr : rb < w0.heap.size
  lb : b < w0.heap.size
  li : bi < w0.heap.size
  lt : bt < w0.heap.size
  lf : fb < w0.heap.size
  cf : can w0 ⟨fb, fo + 2, none⟩
  nt : c.nTab = 0
  nI : c.nI ≤ 96
  nO : c.nO ≤ 6

def BOk (w0 : World) (rb : Nat) (s : ByteArray) (p0 e b bi bt fb fo : Nat) (r : Res Sc) : Value → World → Prop := fun v w' =>
  ∃ (c : Sc) (q nb : Nat), r = .ok c q ∧ v = .tuple #[] ∧ p0 ≤ q ∧ q ≤ e ∧ RdAt w' rb s q e b ∧ BinAt w' b bi bt c ∧ InsRow w' nb c.nI c.ins ∧ w'.cell? ⟨fb, fo + 2, none⟩ = some (.slice (some ⟨nb, 0, none⟩) c.nI c.nI) ∧
    (∀ j, j ≠ fo + 2 → w'.cell? ⟨fb, j, none⟩ = w0.cell? ⟨fb, j, none⟩) ∧ (∀ j, w'.frozen? ⟨fb, j, none⟩ = w0.frozen? ⟨fb, j, none⟩) ∧ w0.heap.size ≤ nb ∧ nb < w'.heap.size ∧ Same [rb, b, bi, fb] w0.heap.size w0 w'
def BErr (w0 : World) (rb b bi bt fb : Nat) (r : Res Sc) : Value → World → Prop := fun v w' => ∃ c a, r = .err c a ∧ v = faultV c a ∧ (∃ c', BinAt w' b bi bt c') ∧ Same [rb, b, bi, fb] w0.heap.size w0 w'

section
variable {w0 w : World} {rb : Nat} {s : ByteArray} {p0 p e b bi bt fb fo : Nat} {c : Sc} {r : Res Sc}

theorem BCtx.err (x : BCtx w0 w rb s p0 p e b bi bt fb fo c) {n a : Int} (hr : r = .err n a) {w' : World} (hS : Same [rb] w.heap.size w w') : BErr w0 rb b bi bt fb r (faultV n a) w' :=
  ⟨n, a, hr, rfl, ⟨c, x.bn.keep hS (by simp; exact x.k.a1.symm) (by simp; exact x.k.a2.symm) (by simp; exact x.k.a3.symm)⟩, (x.S.trans (hS.mono x.S.size (by intro k hk _; simp at hk ⊢; omega))).mono (Nat.le_refl _) (by intro k hk _; simp at hk ⊢; omega)⟩
theorem BCtx.step (x : BCtx w0 w rb s p0 p e b bi bt fb fo c) {w' : World} {q : Nat} (hR : RdAt w' rb s q e b) (hS : Same [rb] w.heap.size w w') (h1 : p ≤ q) (h2 : q ≤ e) : BCtx w0 w' rb s p0 q e b bi bt fb fo c :=
  ⟨hR, ⟨h2, x.tx.es, x.tx.sz⟩, Nat.le_trans x.le h1, x.bn.keep hS (by simp; exact x.k.a1.symm) (by simp; exact x.k.a2.symm) (by simp; exact x.k.a3.symm), x.S.trans (hS.mono x.S.size (by intro k hk _; simp at hk ⊢; omega)), x.k, x.lr, x.lb, x.li, x.lt, x.lf, x.cf, x.nt, x.nI, x.nO⟩
theorem BCtx.setBin (x : BCtx w0 w rb s p0 p e b bi bt fb fo c) {k : Nat} {v : Value} {c' : Sc} (hB : BinAt (w.setCell ⟨b, k, none⟩ v) b bi bt c') (ht : c'.nTab = 0) (hI : c'.nI ≤ 96) (hO : c'.nO ≤ 6) : BCtx w0 (w.setCell ⟨b, k, none⟩ v) rb s p0 p e b bi bt fb fo c' :=
  ⟨x.rd.same (same_set k v) x.rd.lt (by simp; exact x.k.a1), x.tx, x.le, hB, x.S.setCell (.inr (by simp)) v, x.k, x.lr, x.lb, x.li, x.lt, x.lf, x.cf, ht, hI, hO⟩
theorem BCtx.drew (x : BCtx w0 w rb s p0 p e b bi bt fb fo c) : BCtx w0 w.drew rb s p0 p e b bi bt fb fo c :=
  ⟨x.rd.drew, x.tx, x.le, x.bn.drew, x.S.drew, x.k, x.lr, x.lb, x.li, x.lt, x.lf, x.cf, x.nt, x.nI, x.nO⟩

/-- The body's end. -/
theorem body_end (x : BCtx w0 w rb s p0 p e b bi bt fb fo c) (hr : r = .ok c p) (hO0 : c.nO = 0) (at_ : Int) :
    bin_reader_body.L3 (some ⟨rb, 0, none⟩) (some ⟨fb, fo, none⟩) (some ⟨b, 0, none⟩) at_ 11 11 false (BOk w0 rb s p0 e b bi bt fb fo r) (BErr w0 rb b bi bt fb r) w := by
  have k4 := x.k.a4; have k5 := x.k.a5; have k6 := x.k.a6; have k7 := x.k.a7
  have hI := x.nI
  refine bin_reader_body.step3 _ _ _ _ _ _ _ _ _ _ ?_
  unfold bin_reader_body.V3
  refine cond_false' rfl (cond_false' rfl (cond_true' rfl ?_))
  simp only [nilV_some, Nat.zero_add]
  refine ⟨_, x.bn.c15, cond_true' (by rw [hO0]; rfl) ⟨_, x.bn.c17, ?_⟩⟩
  obtain ⟨w22, hm, hc22, hf22, hS22, hl22⟩ := make_rows T_sl_api_Ins.el w c.nI (by omega) (by decide)
  refine ⟨_, _, _, w22, hm, ?_⟩
  have hsz0 := x.S.size
  have lf := x.lf
  have hfw : fb < w.heap.size := by omega
  have fcell : ∀ j, w.cell? ⟨fb, j, none⟩ = w0.cell? ⟨fb, j, none⟩ := fun j => x.S.cell lf (by simp; omega)
  have ffroz : ∀ j, w.frozen? ⟨fb, j, none⟩ = w0.frozen? ⟨fb, j, none⟩ := fun j => x.S.frozen lf (by simp; omega)
  have can22 : can w22 ⟨fb, fo + 2, none⟩ := by
    obtain ⟨⟨u, hu⟩, hf⟩ := x.cf
    exact ⟨⟨u, by rw [hS22.cell (p := ⟨fb, fo + 2, none⟩) hfw (by simp), fcell]; exact hu⟩, by rw [hS22.frozen (p := ⟨fb, fo + 2, none⟩) hfw (by simp), ffroz]; exact hf⟩
  refine ⟨can22, letW_intro fun w27 hw27 => ?_⟩
  have hS27 : Same [fb] w22.heap.size w22 w27 := by rw [hw27]; exact same_set _ _
  have c27 : w27.cell? ⟨fb, fo + 2, none⟩ = some (.slice (some ⟨w.heap.size, 0, none⟩) c.nI c.nI) := by
    obtain ⟨⟨u, hu⟩, _⟩ := can22
    rw [hw27, cell_setCell, if_pos ⟨rfl, rfl⟩, hu]; rfl
  have bn27 : BinAt w27 b bi bt c := (x.bn.keep hS22 (by simp) (by simp) (by simp)).keep hS27 (by simp; omega) (by simp; omega) (by simp; omega)
  have rd27 : RdAt w27 rb s p e b := (x.rd.same hS22 x.rd.lt (by simp)).same hS27 (by have := x.rd.lt; omega) (by simp; omega)
  have d27 := bn27.drew
  simp only [true_and]
  refine ⟨_, _, _, c27, _, _, _, d27.c16, _, d27.c17, ⟨by omega, by omega⟩, ?_⟩
  have esl : slAddr (some ⟨bi, 0, none⟩) 0 96 3 = some ⟨bi, 0, none⟩ := by rw [slAddr_lt (by decide)]
  rw [esl, Int.toNat_natCast, Nat.sub_zero, Nat.sub_zero]
  have hnb : w.heap.size ≠ fb := by omega
  have can27 : ∀ j, j < c.nI * 3 → can w27.drew ⟨w.heap.size, j, none⟩ := fun j hj => by
    have a1 : w27.cell? ⟨w.heap.size, j, none⟩ = _ := (hS27.cell (p := ⟨w.heap.size, j, none⟩) hl22 (by simp; exact hnb)).trans (hc22 j hj)
    have a2 : w27.frozen? ⟨w.heap.size, j, none⟩ = _ := (hS27.frozen (p := ⟨w.heap.size, j, none⟩) hl22 (by simp; exact hnb)).trans (hf22 j)
    exact ⟨⟨_, a1⟩, a2⟩
  let cs : List Value := (List.range (c.nI * 3)).map fun j => if j % 3 = 0 then .int .u8 (c.ins (j / 3)).op else if j % 3 = 1 then .int .u32 (c.ins (j / 3)).x else .int .u64 (c.ins (j / 3)).y
  have hcsl : cs.length = c.nI * 3 := by simp [cs]
  have hcsg : ∀ j, j < c.nI * 3 → cs[j]? = some (if j % 3 = 0 then .int .u8 (c.ins (j / 3)).op else if j % 3 = 1 then .int .u32 (c.ins (j / 3)).x else .int .u64 (c.ins (j / 3)).y) := fun j hj => by
    simp only [cs, List.getElem?_map, List.getElem?_range hj, Option.map_some]
  have src : ∀ j, j < 288 → w27.drew.cell? ⟨bi, j, none⟩ = some (if j % 3 = 0 then .int .u8 (c.ins (j / 3)).op else if j % 3 = 1 then .int .u32 (c.ins (j / 3)).x else .int .u64 (c.ins (j / 3)).y) := fun j hj => by
    have e : j = j / 3 * 3 + j % 3 := by omega
    have hr : j % 3 = 0 ∨ j % 3 = 1 ∨ j % 3 = 2 := by omega
    rcases hr with g | g | g
    · have e' : j = j / 3 * 3 := by omega
      rw [if_pos g]; conv => lhs; rw [e']
      exact d27.i0 (j / 3) (by omega)
    · have e' : j = j / 3 * 3 + 1 := by omega
      rw [if_neg (by omega), if_pos g]; conv => lhs; rw [e']
      exact d27.i1 (j / 3) (by omega)
    · have e' : j = j / 3 * 3 + 2 := by omega
      rw [if_neg (by omega), if_neg (by omega)]; conv => lhs; rw [e']
      exact d27.i2 (j / 3) (by omega)
  obtain ⟨w38, hcp, hF⟩ := copy_rows T_sl_api_Ins.el T_int w27.drew w.heap.size c.nI c.nI bi c.nI 96 cs (by rw [hcsl]; simp [Nat.min_def]) (fun j v hj => by
      have hjl : j < c.nI * 3 := by
        rcases Nat.lt_or_ge j (c.nI * 3) with g | g
        · exact g
        · rw [List.getElem?_eq_none (by omega)] at hj; cases hj
      rw [src j (by omega), ← hcsg j hjl]; exact hj) (fun j hj => can27 j (by omega)) (fun v hv => by
      simp only [cs, List.mem_map] at hv
      obtain ⟨j, _, rfl⟩ := hv
      split
      · rfl
      · split <;> rfl)
  refine ⟨_, w38, hcp, ?_⟩
  have S38 := hF.same w27.heap.size
  have hbsz : w.heap.size ∉ [b] := by simp; have := x.bn.ltb; omega
  have hlt27 : w22.heap.size ≤ w27.heap.size := hS27.size
  have lb := x.bn.ltb; have li := x.bn.lti; have lt' := x.bn.ltt; have lr := x.rd.lt
  have bn38 : BinAt w38 b bi bt c := bn27.drew.same S38 (by omega) (by omega) (by omega) (by simp; omega) (by simp; omega) (by simp; omega)
  have rd38 : RdAt w38 rb s p e b := rd27.drew.same S38 (by omega) (by simp; omega)
  refine ⟨_, bn38.c19, cond_false' (by rw [x.nt]; rfl) ?_⟩
  have fill : ∀ j, j < c.nI * 3 → w38.cell? ⟨w.heap.size, j, none⟩ = some (if j % 3 = 0 then .int .u8 (c.ins (j / 3)).op else if j % 3 = 1 then .int .u32 (c.ins (j / 3)).x else .int .u64 (c.ins (j / 3)).y) := fun j hj => by
    rw [hF.cell, if_pos ⟨rfl, by omega, by omega⟩, Nat.sub_zero, hcsg j hj]
  refine ⟨c, p, w.heap.size, hr, rfl, x.le, x.tx.pe, rd38, bn38, ⟨fun j hj => ?_, fun j hj => ?_, fun j hj => ?_⟩, ?_, fun j hj => ?_, fun j => ?_, by omega, by have := S38.size; have : w27.drew.heap.size = w27.heap.size := rfl; omega, ?_⟩
  · rw [fill _ (by omega), if_pos (by omega), show j * 3 / 3 = j by omega]
  · rw [fill _ (by omega), if_neg (by omega), if_pos (by omega), show (j * 3 + 1) / 3 = j by omega]
  · rw [fill _ (by omega), if_neg (by omega), if_neg (by omega), show (j * 3 + 2) / 3 = j by omega]
  · rw [S38.cell (p := ⟨fb, fo + 2, none⟩) (show fb < w27.heap.size by omega) (by simp; omega)]; exact c27
  · rw [S38.cell (p := ⟨fb, j, none⟩) (show fb < w27.heap.size by omega) (by simp; omega)]
    show w27.cell? _ = _
    rw [hw27, cell_setCell, if_neg (by omega), hS22.cell (p := ⟨fb, j, none⟩) hfw (by simp), fcell]
  · rw [S38.frozen (p := ⟨fb, j, none⟩) (show fb < w27.heap.size by omega) (by simp; omega)]
    show w27.frozen? _ = _
    rw [hw27, World.frozen?_setCell, hS22.frozen (p := ⟨fb, j, none⟩) hfw (by simp), ffroz]
  · have a1 : Same [rb, b, bi, fb] w0.heap.size w0 w := x.S.mono (Nat.le_refl _) (by intro k hk _; simp at hk ⊢; omega)
    have a2 := a1.trans (hS22.mono a1.size (by simp))
    have a3 := a2.trans (hS27.mono a2.size (by intro k hk _; simp at hk ⊢; omega))
    exact (a3.drew).trans ((hF.same w0.heap.size).mono (Nat.le_refl _) (by intro k hk hlt; simp at hk; omega))

theorem body_loop (hNo : r ≠ .err (-1) 0) : ∀ (k : Nat) (p : Nat) (c : Sc) (w : World), BCtx w0 w rb s p0 p e b bi bt fb fo c → e - p < k → r = bodyL s e k c p →
    bin_reader_body.L1 (some ⟨rb, 0, none⟩) (some ⟨fb, fo, none⟩) (some ⟨b, 0, none⟩) (BOk w0 rb s p0 e b bi bt fb fo r) (BErr w0 rb b bi bt fb r) w := by
  intro k
  induction k with
  | zero => intro p c w x hk; omega
  | succ k ih =>
    intro p c w x hk hr
    rw [bodyL_succ] at hr
    refine bin_reader_body.step1 _ _ _ _ _ _ ?_
    unfold bin_reader_body.V1
    simp only [nilV_some, Nat.zero_add]
    refine ⟨_, x.rd.c1, (next_spec x.rd x.tx).into (fun op q w1 hn h1 h2 hR hS => ⟨_, rfl, ?_⟩) (fun n a w1 hn hS => x.err (by rw [hr, hn]; rfl) hS)⟩
    have x1 := x.step hR hS h1 h2
    obtain ⟨n1, n2, n3⟩ := nextP_ok hn
    have h14 : op ≠ 14 := fun g => hNo (by rw [hr, hn]; simp only [Res.bind]; rw [if_pos g])
    have hr1 : r = (restP s e op p q).bind fun i q2 =>
      if 96 ≤ c.nI then .err 7 p
      else if op = 2 ∨ op = 3 ∨ op = 4 then (if 6 ≤ c.nO then .err 11 p else bodyL s e k ((c.more i).opened op) q2)
      else if op = 5 then (if c.nO = 0 ∨ c.opn (c.nO - 1) ≠ 4 then .err 11 p else bodyL s e k (c.more i).elsed q2)
      else if op = 11 then (if c.nO = 0 then .ok (c.more i) q2 else bodyL s e k (c.more i).closed q2)
      else bodyL s e k (c.more i) q2 := by rw [hr, hn]; simp only [Res.bind]; rw [if_neg h14]
    refine (rest_spec x1.rd x1.tx op p h14).into (fun i q2 w2 hi g1 g2 gR gS => ⟨_, _, _, rfl, ?_⟩) (fun n a w2 hi gS => x1.err (by rw [hr1, hi]; rfl) gS)
    have x2 := x1.step gR gS g1 g2
    have hr2 : r = if 96 ≤ c.nI then .err 7 p
      else if op = 2 ∨ op = 3 ∨ op = 4 then (if 6 ≤ c.nO then .err 11 p else bodyL s e k ((c.more i).opened op) q2)
      else if op = 5 then (if c.nO = 0 ∨ c.opn (c.nO - 1) ≠ 4 then .err 11 p else bodyL s e k (c.more i).elsed q2)
      else if op = 11 then (if c.nO = 0 then .ok (c.more i) q2 else bodyL s e k (c.more i).closed q2)
      else bodyL s e k (c.more i) q2 := by rw [hr1, hi]; rfl
    refine newIns (w := w2) (i := i) (fun xb w3 hxb hX hS3 => ?_)
    have x3 : BCtx w0 w3 rb s p0 q2 e b bi bt fb fo c := x2.step (x2.rd.same hS3 x2.rd.lt (by simp)) (hS3.mono (Nat.le_refl _) (by simp)) (Nat.le_refl _) g2
    refine ⟨_, x3.bn.c17, ?_⟩
    by_cases h96 : 96 ≤ c.nI
    · rw [if_pos h96] at hr2
      exact cond_true' (decide_eq_true (by omega)) (x3.err hr2 (Same.refl _ _ _))
    · rw [if_neg h96] at hr2
      refine cond_false' (decide_eq_false (by omega)) ?_
      refine bin_reader_body.step2 _ _ _ _ _ _ _ _ _ ?_
      unfold bin_reader_body.V2
      simp only [nilV_some, true_and, Nat.zero_add]
      have x4 := x3.drew
      have hX4 := hX.drew
      refine ⟨_, _, _, x4.bn.c16, _, x4.bn.c17, _, _, _, hX4.c0, hX4.c1, hX4.c2, by omega, ?_⟩
      rw [nilV_some, Int.toNat_natCast, add_mk, Nat.zero_add]
      refine x4.bn.putIns c.nI (by omega) i (fun w5 hB5 hS5 => ?_)
      have sz4 := x4.S.size
      have x5 : BCtx w0 w5 rb s p0 q2 e b bi bt fb fo { c with ins := upd c.ins c.nI i } :=
        ⟨x4.rd.same (hS5 _) x4.rd.lt (by simp; exact x4.k.a2), x4.tx, x4.le, hB5, x4.S.trans ((hS5 _).mono (Nat.le_refl _) (by intro k hk _; simp at hk ⊢; omega)), x4.k, x4.lr, x4.lb, x4.li, x4.lt, x4.lf, x4.cf, x4.nt, x4.nI, x4.nO⟩
      refine ⟨_, x5.bn.c17, x5.bn.can 17 (by decide), letW_intro fun w6 hw6 => ?_⟩
      have e1 : IntKind.wrap .i64 ((c.nI : Int) + 1) = ((c.nI + 1 : Nat) : Int) := by rw [wrap_i64 (by omega) (by omega)]; omega
      have x6 : BCtx w0 w6 rb s p0 q2 e b bi bt fb fo (c.more i) := by
        rw [hw6]
        have e2 : IntKind.wrap .i64 ((({ c with ins := upd c.ins c.nI i } : Sc).nI : Int) + 1) = ((c.nI + 1 : Nat) : Int) := e1
        rw [e2]
        exact x5.setBin (x5.bn.setI (c.nI + 1)) x.nt (show c.nI + 1 ≤ 96 by omega) x.nO
      clear hw6 x5 hB5 hS5
      have hk2 : e - q2 < k := by omega
      by_cases hbl : op = 2 ∨ op = 3 ∨ op = 4
      · rw [if_pos hbl] at hr2
        have L3 : bin_reader_body.L3 (some ⟨rb, 0, none⟩) (some ⟨fb, fo, none⟩) (some ⟨b, 0, none⟩) p op op true (BOk w0 rb s p0 e b bi bt fb fo r) (BErr w0 rb b bi bt fb r) w6 := by
          refine bin_reader_body.step3 _ _ _ _ _ _ _ _ _ _ ?_
          unfold bin_reader_body.V3
          refine cond_true' rfl ?_
          simp only [nilV_some, Nat.zero_add]
          refine ⟨_, x6.bn.c15, ?_⟩
          by_cases h6 : 6 ≤ c.nO
          · rw [if_pos h6] at hr2
            exact cond_true' (decide_eq_true (show ((c.nO : Nat) : Int) ≥ 6 by omega)) (x6.err hr2 (Same.refl _ _ _))
          · rw [if_neg h6] at hr2
            refine cond_false' (decide_eq_false (show ¬ ((c.nO : Nat) : Int) ≥ 6 by omega)) ?_
            refine bin_reader_body.step4 _ _ _ _ _ _ _ ?_
            unfold bin_reader_body.V4
            simp only [nilV_some, true_and, Nat.zero_add]
            have x7 := x6.drew
            refine ⟨_, x7.bn.c15, (show 0 ≤ ((c.nO : Nat) : Int) ∧ ((c.nO : Nat) : Int) < ((6 : Nat) : Int) by omega), ?_⟩
            have ea : Addr.add ⟨b, 9, none⟩ (Int.toNat ((c.more i).nO : Int) * 1) = ⟨b, 9 + c.nO, none⟩ := by rw [Int.toNat_natCast, add_mk, Nat.mul_one]; rfl
            rw [ea]
            refine ⟨x7.bn.can (9 + c.nO) (by omega), letW_intro fun w8 hw8 => ?_⟩
            have x8 : BCtx w0 w8 rb s p0 q2 e b bi bt fb fo { c.more i with opn := upd c.opn c.nO op } := by
              rw [hw8]; exact x7.setBin (x7.bn.setOp c.nO (by omega) op) x.nt (show c.nI + 1 ≤ 96 by omega) x.nO
            refine ⟨_, x8.bn.c15, x8.bn.can 15 (by decide), letW_intro fun w9 hw9 => ?_⟩
            have e3 : IntKind.wrap .i64 ((({ c.more i with opn := upd c.opn c.nO op } : Sc).nO : Int) + 1) = ((c.nO + 1 : Nat) : Int) := by
              show IntKind.wrap .i64 ((c.nO : Int) + 1) = _
              rw [wrap_i64 (by omega) (by omega)]; omega
            rw [e3] at hw9
            have x9 : BCtx w0 w9 rb s p0 q2 e b bi bt fb fo ((c.more i).opened op) := by
              rw [hw9]; exact x8.setBin (x8.bn.setO (c.nO + 1)) x.nt (show c.nI + 1 ≤ 96 by omega) (show c.nO + 1 ≤ 6 by omega)
            exact ih q2 _ w9 x9 hk2 hr2
        refine cond_intro (fun _ => L3) (fun a0 => cond_intro (fun _ => L3) (fun a1 => ?_))
        have a2 : op = 4 := by
          rw [beq_eq_false_iff_ne] at a0 a1
          rcases hbl with g | g | g
          · exact absurd g a0
          · exact absurd g a1
          · exact g
        rw [beq_eq' a2]; exact L3
      · rw [if_neg hbl] at hr2
        refine cond_false' (beq_ne (by omega)) (cond_false' (beq_ne (by omega)) ?_)
        rw [beq_ne (show op ≠ 4 by omega)]
        by_cases h5 : op = 5
        · rw [if_pos h5] at hr2
          refine bin_reader_body.step3 _ _ _ _ _ _ _ _ _ _ ?_
          unfold bin_reader_body.V3
          refine cond_false' rfl (cond_true' (beq_eq' h5) ?_)
          simp only [nilV_some, true_and, Nat.zero_add]
          have x7 := x6.drew
          refine ⟨_, x7.bn.c15, ?_⟩
          by_cases hO0 : c.nO = 0
          · rw [if_pos (.inl hO0)] at hr2
            refine cond_true' (show (((c.nO : Nat) : Int) == 0) = true by rw [hO0]; rfl) ?_
            refine bin_reader_body.step5 _ _ _ _ _ _ _ _ ?_
            unfold bin_reader_body.V5
            exact cond_true' rfl (x7.err hr2 (Same.refl _ _ _))
          · refine cond_false' (show (((c.nO : Nat) : Int) == 0) = false from beq_ne (by omega)) ?_
            have hO6 := x.nO
            have e3 : IntKind.wrap .i64 (((c.more i).nO : Int) - 1) = ((c.nO - 1 : Nat) : Int) := by
              show IntKind.wrap .i64 ((c.nO : Int) - 1) = _
              rw [wrap_i64 (by omega) (by omega)]; omega
            refine ⟨_, x7.bn.c15, ?_⟩
            rw [e3, Int.toNat_natCast, add_mk, Nat.mul_one]
            refine ⟨by omega, _, x7.bn.op (c.nO - 1) (by omega), ?_⟩
            have hopn : (c.more i).opn (c.nO - 1) = c.opn (c.nO - 1) := rfl
            rw [hopn]
            refine bin_reader_body.step5 _ _ _ _ _ _ _ _ ?_
            unfold bin_reader_body.V5
            by_cases hif : c.opn (c.nO - 1) = 4
            · rw [if_neg (by rintro (g | g); exact hO0 g; exact g hif)] at hr2
              refine cond_false' (by rw [hif]; rfl) ?_
              refine bin_reader_body.step6 _ _ _ _ _ _ ?_
              unfold bin_reader_body.V6
              simp only [nilV_some, true_and, Nat.zero_add]
              have x8 := x7.drew
              refine ⟨_, x8.bn.c15, ?_⟩
              rw [e3, Int.toNat_natCast, add_mk, Nat.mul_one]
              refine ⟨by omega, x8.bn.can (9 + (c.nO - 1)) (by omega), letW_intro fun w9 hw9 => ?_⟩
              have x9 : BCtx w0 w9 rb s p0 q2 e b bi bt fb fo (c.more i).elsed := by
                rw [hw9]; exact x8.setBin (x8.bn.setOp (c.nO - 1) (by omega) 5) x.nt (show c.nI + 1 ≤ 96 by omega) x.nO
              exact ih q2 _ w9 x9 hk2 hr2
            · rw [if_pos (.inr hif)] at hr2
              exact cond_true' (bne_iff_ne.2 hif) (x7.err hr2 (Same.refl _ _ _))
        · rw [if_neg h5] at hr2
          by_cases h11 : op = 11
          · rw [if_pos h11] at hr2
            subst h11
            by_cases hO0 : c.nO = 0
            · rw [if_pos hO0] at hr2
              exact body_end x6 hr2 hO0 p
            · rw [if_neg hO0] at hr2
              have hO6 := x.nO
              refine bin_reader_body.step3 _ _ _ _ _ _ _ _ _ _ ?_
              unfold bin_reader_body.V3
              refine cond_false' rfl (cond_false' rfl (cond_true' rfl ?_))
              simp only [nilV_some, Nat.zero_add]
              refine ⟨_, x6.bn.c15, cond_false' (show (((c.nO : Nat) : Int) == 0) = false from beq_ne (by omega)) ⟨_, x6.bn.c15, x6.bn.can 15 (by decide), letW_intro fun w9 hw9 => ?_⟩⟩
              have e3 : IntKind.wrap .i64 (((c.more i).nO : Int) - 1) = ((c.nO - 1 : Nat) : Int) := by
                show IntKind.wrap .i64 ((c.nO : Int) - 1) = _
                rw [wrap_i64 (by omega) (by omega)]; omega
              rw [e3] at hw9
              have x9 : BCtx w0 w9 rb s p0 q2 e b bi bt fb fo (c.more i).closed := by
                rw [hw9]; exact x6.setBin (x6.bn.setO (c.nO - 1)) x.nt (show c.nI + 1 ≤ 96 by omega) (show c.nO - 1 ≤ 6 by omega)
              exact ih q2 _ w9 x9 hk2 hr2
          · rw [if_neg h11] at hr2
            refine bin_reader_body.step3 _ _ _ _ _ _ _ _ _ _ ?_
            unfold bin_reader_body.V3
            refine cond_false' rfl (cond_false' (beq_ne h5) (cond_false' (beq_ne h11) ?_))
            exact ih q2 _ w6 x6 hk2 hr2
end

theorem body_spec {w : World} {rb : Nat} {s : ByteArray} {p e b bi bt fb fo : Nat} {c : Sc} (h : RdAt w rb s p e b) (t : Txt s p e) (hB : BinAt w b bi bt c) (k : Blk rb b bi bt fb) (cf : can w ⟨fb, fo + 2, none⟩) (hNo : bodyP s e c p ≠ .err (-1) 0) :
    RunsQ Try.prog bin_reader_body.id #[rp rb, .pointer (some ⟨fb, fo, none⟩)] w (BOk w rb s p e b bi bt fb fo (bodyP s e c p)) (BErr w rb b bi bt fb (bodyP s e c p)) := by
  refine bin_reader_body.enter _ _ _ _ _ ?_
  unfold bin_reader_body.V
  simp only [nilV_some, Nat.zero_add]
  refine ⟨_, h.c3, ?_⟩
  simp only [nilV_some, Nat.zero_add]
  have lf : fb < w.heap.size := by obtain ⟨⟨u, hu⟩, _⟩ := cf; exact cell_lt hu
  refine ⟨hB.can 17 (by decide), letW_intro fun w6 hw6 => ?_⟩
  have B6 : BinAt w6 b bi bt { c with nI := 0 } := by rw [hw6]; exact hB.setI 0
  refine ⟨B6.can 19 (by decide), letW_intro fun w8 hw8 => ?_⟩
  have B8 : BinAt w8 b bi bt { { c with nI := 0 } with nTab := 0 } := by rw [hw8]; exact B6.setB 0
  refine ⟨B8.can 15 (by decide), letW_intro fun w10 hw10 => ?_⟩
  have B10 : BinAt w10 b bi bt c.fresh := by rw [hw10]; exact B8.setO 0
  have S10 : Same [b] w.heap.size w w10 := by
    rw [hw10, hw8, hw6]
    exact (((Same.refl _ _ _).setCell (.inr (by simp)) _).setCell (.inr (by simp)) _).setCell (.inr (by simp)) _
  exact body_loop hNo (e - p + 1) p c.fresh w10 ⟨h.same S10 h.lt (by simp; exact k.a1), t, Nat.le_refl _, B10, S10.mono (Nat.le_refl _) (by intro x hx _; simp at hx ⊢; omega), k, h.lt, hB.ltb, hB.lti, hB.ltt, lf, cf, rfl, Nat.zero_le _, Nat.zero_le _⟩ (by omega) rfl

end Go.Proofs.Qxb6500316a
