/-
  A body (one without br_table).
-/
import Derived.Test.Qxb6500316aDcR
set_option linter.unusedSimpArgs false
set_option linter.unusedVariables false
set_option maxRecDepth 100000
set_option linter.unusedSectionVars false
namespace Go.Proofs.Qxb6500316a
open Go Go.Vc
variable [OutOf]

/-- One instruction more. -/
def Sc.more (c : Sc) (i : Ins) : Sc := { { c with ins := upd c.ins c.nI i } with nI := c.nI + 1 }
def Sc.opened (c : Sc) (op : Int) : Sc := { { c with opn := upd c.opn c.nO op } with nO := c.nO + 1 }
def Sc.elsed (c : Sc) : Sc := { c with opn := upd c.opn (c.nO - 1) 5 }
def Sc.closed (c : Sc) : Sc := { c with nO := c.nO - 1 }

/-- One instruction more. -/
def bodyStep (go : Sc → Nat → Res Sc) (p : Nat) (op : Int) (i : Ins) (c : Sc) (q2 : Nat) : Res Sc :=
  if 96 ≤ c.nI then .err 7 p
  else if op = 2 ∨ op = 3 ∨ op = 4 then (if 6 ≤ c.nO then .err 11 p else go ((c.more i).opened op) q2)
  else if op = 5 then (if c.nO = 0 ∨ c.opn (c.nO - 1) ≠ 4 then .err 11 p else go (c.more i).elsed q2)
  else if op = 11 then (if c.nO = 0 then .ok (c.more i) q2 else go (c.more i).closed q2)
  else go (c.more i) q2
/-- The body's instructions. -/
def bodyL (s : ByteArray) (e : Nat) : Nat → Sc → Nat → Res Sc
  | 0, _, _ => .err (-1) 0
  | k + 1, c, p => (nextP s e p).bind fun op q => (restX s e c op p q).bind fun x q2 => bodyStep (bodyL s e k) p op x.1 x.2 q2
theorem bodyL_succ (s : ByteArray) (e k : Nat) (c : Sc) (p : Nat) : bodyL s e (k + 1) c p = (nextP s e p).bind fun op q => (restX s e c op p q).bind fun x q2 => bodyStep (bodyL s e k) p op x.1 x.2 q2 := rfl
theorem brL_keep {s : ByteArray} {e : Nat} : ∀ (k : Nat) (c : Sc) (q : Nat) {c' : Sc} {q' : Nat}, brL s e k c q = .ok c' q' → c'.nI = c.nI ∧ c'.nO = c.nO ∧ c'.types = c.types ∧ c'.nT = c.nT
  | 0, c, q, c', q', h => by (first | (injection h with z__; injection z__ with h1 h2) | injection h with h1 h2); subst h1; exact ⟨rfl, rfl, rfl, rfl⟩
  | k + 1, c, q, c', q', h => by
    rw [brL_succ] at h
    cases hu : u32P s e q using Res.cs with
    | err n a => rw [hu] at h; cases h
    | ok x q2 =>
      rw [hu] at h
      exact brL_keep k (c.tab x) q2 h
theorem restX_keep {s : ByteArray} {e : Nat} {c : Sc} {op at_ : Int} {p : Nat} {x : Ins × Sc} {q : Nat} (h : restX s e c op at_ p = .ok x q) : x.2.nI = c.nI ∧ x.2.nO = c.nO ∧ x.2.types = c.types ∧ x.2.nT = c.nT := by
  unfold restX at h
  split at h
  · unfold brP at h
    cases hk : countP s e (23 - (c.nTab : Int)) p using Res.cs with
    | err n a => rw [hk] at h; cases h
    | ok k q1 =>
      rw [hk] at h
      simp only [Res.bind] at h
      cases hb : brL s e (k + 1) c q1 using Res.cs with
      | err n a => rw [hb] at h; cases h
      | ok c' q2 =>
        rw [hb] at h
        simp only at h
        (first | (injection h with z__; injection z__ with h1 h2) | injection h with h1 h2)
        subst h1
        exact brL_keep _ _ _ hb
  · cases hr : restP s e op at_ p using Res.cs with
    | err n a => rw [hr] at h; cases h
    | ok i q1 =>
      rw [hr] at h
      simp only [Res.bind] at h
      (first | (injection h with z__; injection z__ with h1 h2) | injection h with h1 h2)
      subst h1
      exact ⟨rfl, rfl, rfl, rfl⟩
def Sc.fresh (c : Sc) : Sc := { { { c with nI := 0 } with nTab := 0 } with nO := 0 }
def bodyP (s : ByteArray) (e : Nat) (c : Sc) (p : Nat) : Res Sc := bodyL s e (e - p + 1) c.fresh p

/-- A row of instructions. -/
structure InsRow (w : World) (b n : Nat) (ins : Nat → Ins) : Prop where
  i0 : ∀ j, j < n → w.cell? ⟨b, j * 3, none⟩ = some (.int .u8 (ins j).op)
  i1 : ∀ j, j < n → w.cell? ⟨b, j * 3 + 1, none⟩ = some (.int .u32 (ins j).x)
  i2 : ∀ j, j < n → w.cell? ⟨b, j * 3 + 2, none⟩ = some (.int .u64 (ins j).y)
theorem InsRow.same {w w' : World} {b n : Nat} {ins : Nat → Ins} (h : InsRow w b n ins) {S : List Nat} {B : Nat} (hs : Same S B w w') (hb : b < B) (hS : b ∉ S) : InsRow w' b n ins :=
  ⟨fun j hj => by rw [hs.cell hb hS]; exact h.i0 j hj, fun j hj => by rw [hs.cell hb hS]; exact h.i1 j hj, fun j hj => by rw [hs.cell hb hS]; exact h.i2 j hj⟩

/-- A row of labels. -/
def TabRow (w : World) (b n : Nat) (f : Nat → Int) : Prop := ∀ j, j < n → w.cell? ⟨b, j, none⟩ = some (.int .u32 (f j))
theorem TabRow.same {w w' : World} {b n : Nat} {f : Nat → Int} (h : TabRow w b n f) {S : List Nat} {B : Nat} (hs : Same S B w w') (hb : b < B) (hS : b ∉ S) : TabRow w' b n f := fun j hj => by rw [hs.cell hb hS]; exact h j hj

structure Blk (rb b bi bt fb : Nat) : Prop where
  a1 : rb ≠ b
  a2 : rb ≠ bi
  a3 : rb ≠ bt
  a4 : fb ≠ rb
  a5 : fb ≠ b
  a6 : fb ≠ bi
  a7 : fb ≠ bt
  a8 : b ≠ bi
  a9 : b ≠ bt
  a10 : bi ≠ bt
theorem Blk.apt {rb b bi bt fb : Nat} (k : Blk rb b bi bt fb) : Apt rb b bi bt := ⟨k.a1, k.a2, k.a3, k.a8, k.a9, k.a10⟩

structure BCtx (w0 w : World) (rb : Nat) (s : ByteArray) (p0 p e b bi bt fb fo : Nat) (c : Sc) : Prop where
  rd : RdAt w rb s p e b
  tx : Txt s p e
  le : p0 ≤ p
  bn : BinAt w b bi bt c
  S : Same [rb, b, bi, bt] w0.heap.size w0 w
  k : Blk rb b bi bt fb
  lr : rb < w0.heap.size
  lb : b < w0.heap.size
  li : bi < w0.heap.size
  lt : bt < w0.heap.size
  lf : fb < w0.heap.size
  cf : can w0 ⟨fb, fo + 2, none⟩
  cg : can w0 ⟨fb, fo + 3, none⟩
  nt : c.nTab ≤ 24
  nI : c.nI ≤ 96
  nO : c.nO ≤ 6

def TabsAt (w0 w' : World) (fb fo : Nat) (c : Sc) : Prop := (c.nTab = 0 ∧ w'.cell? ⟨fb, fo + 3, none⟩ = w0.cell? ⟨fb, fo + 3, none⟩) ∨ (0 < c.nTab ∧ ∃ tk, w'.cell? ⟨fb, fo + 3, none⟩ = some (.slice (some ⟨tk, 0, none⟩) c.nTab c.nTab) ∧ TabRow w' tk c.nTab c.tabs ∧ w0.heap.size ≤ tk ∧ tk < w'.heap.size)

def BOk (w0 : World) (rb : Nat) (s : ByteArray) (p0 e b bi bt fb fo : Nat) (r : Res Sc) : Value → World → Prop := fun v w' =>
  ∃ (c : Sc) (q nb : Nat), r = .ok c q ∧ v = .tuple #[] ∧ p0 ≤ q ∧ q ≤ e ∧ RdAt w' rb s q e b ∧ BinAt w' b bi bt c ∧ InsRow w' nb c.nI c.ins ∧ w'.cell? ⟨fb, fo + 2, none⟩ = some (.slice (some ⟨nb, 0, none⟩) c.nI c.nI) ∧ TabsAt w0 w' fb fo c ∧
    (∀ j, j ≠ fo + 2 → j ≠ fo + 3 → w'.cell? ⟨fb, j, none⟩ = w0.cell? ⟨fb, j, none⟩) ∧ (∀ j, w'.frozen? ⟨fb, j, none⟩ = w0.frozen? ⟨fb, j, none⟩) ∧ w0.heap.size ≤ nb ∧ nb < w'.heap.size ∧ Same [rb, b, bi, bt, fb] w0.heap.size w0 w'
def BErr (w0 : World) (rb b bi bt fb : Nat) (r : Res Sc) : Value → World → Prop := fun v w' => ∃ c a, r = .err c a ∧ v = faultV c a ∧ (∃ c', BinAt w' b bi bt c') ∧ Same [rb, b, bi, bt, fb] w0.heap.size w0 w'

section
variable {w0 w : World} {rb : Nat} {s : ByteArray} {p0 p e b bi bt fb fo : Nat} {c : Sc} {r : Res Sc}

theorem BCtx.err (x : BCtx w0 w rb s p0 p e b bi bt fb fo c) {n a : Int} (hr : r = .err n a) {w' : World} (hS : Same [rb] w.heap.size w w') : BErr w0 rb b bi bt fb r (faultV n a) w' :=
  ⟨n, a, hr, rfl, ⟨c, x.bn.keep hS (by simp; exact x.k.a1.symm) (by simp; exact x.k.a2.symm) (by simp; exact x.k.a3.symm)⟩, (x.S.trans (hS.mono x.S.size (by intro k hk _; simp at hk ⊢; omega))).mono (Nat.le_refl _) (by intro k hk _; simp at hk ⊢; omega)⟩
theorem BCtx.step (x : BCtx w0 w rb s p0 p e b bi bt fb fo c) {w' : World} {q : Nat} (hR : RdAt w' rb s q e b) (hS : Same [rb] w.heap.size w w') (h1 : p ≤ q) (h2 : q ≤ e) : BCtx w0 w' rb s p0 q e b bi bt fb fo c :=
  ⟨hR, ⟨h2, x.tx.es, x.tx.sz⟩, Nat.le_trans x.le h1, x.bn.keep hS (by simp; exact x.k.a1.symm) (by simp; exact x.k.a2.symm) (by simp; exact x.k.a3.symm), x.S.trans (hS.mono x.S.size (by intro k hk _; simp at hk ⊢; omega)), x.k, x.lr, x.lb, x.li, x.lt, x.lf, x.cf, x.cg, x.nt, x.nI, x.nO⟩
theorem BCtx.setBin (x : BCtx w0 w rb s p0 p e b bi bt fb fo c) {k : Nat} {v : Value} {c' : Sc} (hB : BinAt (w.setCell ⟨b, k, none⟩ v) b bi bt c') (ht : c'.nTab ≤ 24) (hI : c'.nI ≤ 96) (hO : c'.nO ≤ 6) : BCtx w0 (w.setCell ⟨b, k, none⟩ v) rb s p0 p e b bi bt fb fo c' :=
  ⟨x.rd.same (same_set k v) x.rd.lt (by simp; exact x.k.a1), x.tx, x.le, hB, x.S.setCell (.inr (by simp)) v, x.k, x.lr, x.lb, x.li, x.lt, x.lf, x.cf, x.cg, ht, hI, hO⟩
theorem BCtx.drew (x : BCtx w0 w rb s p0 p e b bi bt fb fo c) : BCtx w0 w.drew rb s p0 p e b bi bt fb fo c :=
  ⟨x.rd.drew, x.tx, x.le, x.bn.drew, x.S.drew, x.k, x.lr, x.lb, x.li, x.lt, x.lf, x.cf, x.cg, x.nt, x.nI, x.nO⟩

theorem BCtx.stepX (x : BCtx w0 w rb s p0 p e b bi bt fb fo c) {w' : World} {q : Nat} {c' : Sc} (hR : RdAt w' rb s q e b) (hB : BinAt w' b bi bt c') (hS : Same [rb, b, bt] w.heap.size w w') (h1 : p ≤ q) (h2 : q ≤ e) (ht : c'.nTab ≤ 24) (hI : c'.nI = c.nI) (hO : c'.nO = c.nO) : BCtx w0 w' rb s p0 q e b bi bt fb fo c' :=
  ⟨hR, ⟨h2, x.tx.es, x.tx.sz⟩, Nat.le_trans x.le h1, hB, x.S.trans (hS.mono x.S.size (by intro k hk _; simp at hk ⊢; omega)), x.k, x.lr, x.lb, x.li, x.lt, x.lf, x.cf, x.cg, ht, by have := x.nI; omega, by have := x.nO; omega⟩

/-- The body's end. -/
theorem body_end (x : BCtx w0 w rb s p0 p e b bi bt fb fo c) (hr : r = .ok c p) (hO0 : c.nO = 0) (at_ : Int) :
    bin_reader_body.L3 (some ⟨rb, 0, none⟩) (some ⟨fb, fo, none⟩) (some ⟨b, 0, none⟩) at_ 11 11 false (BOk w0 rb s p0 e b bi bt fb fo r) (BErr w0 rb b bi bt fb r) w := by
  have k4 := x.k.a4; have k5 := x.k.a5; have k6 := x.k.a6; have k7 := x.k.a7
  have hI := x.nI
  refine bin_reader_body.step3 _ _ _ _ _ _ _ _ _ _ ?_
  unfold bin_reader_body.V3
  refine cond_false' rfl (cond_false' rfl (cond_true' rfl ?_))
  simp only [nilV_some, Nat.zero_add]
  refine ⟨_, x.bn.c15, cond_true' (by rw [hO0]; rfl) ⟨_, x.bn.c17, ?_⟩⟩
  obtain ⟨w22, hm, hc22, hf22, hS22, hl22⟩ := make_rows T_sl_api_Ins.el w c.nI (by omega) (by decide)
  refine ⟨_, _, _, w22, hm, ?_⟩
  have hsz0 := x.S.size
  have lf := x.lf
  have hfw : fb < w.heap.size := by omega
  have fcell : ∀ j, w.cell? ⟨fb, j, none⟩ = w0.cell? ⟨fb, j, none⟩ := fun j => x.S.cell lf (by simp; omega)
  have ffroz : ∀ j, w.frozen? ⟨fb, j, none⟩ = w0.frozen? ⟨fb, j, none⟩ := fun j => x.S.frozen lf (by simp; omega)
  have can22 : can w22 ⟨fb, fo + 2, none⟩ := by
    obtain ⟨⟨u, hu⟩, hf⟩ := x.cf
    exact ⟨⟨u, by rw [hS22.cell (p := ⟨fb, fo + 2, none⟩) hfw (by simp), fcell]; exact hu⟩, by rw [hS22.frozen (p := ⟨fb, fo + 2, none⟩) hfw (by simp), ffroz]; exact hf⟩
  refine ⟨can22, letW_intro fun w27 hw27 => ?_⟩
  have hS27 : Same [fb] w22.heap.size w22 w27 := by rw [hw27]; exact same_set _ _
  have c27 : w27.cell? ⟨fb, fo + 2, none⟩ = some (.slice (some ⟨w.heap.size, 0, none⟩) c.nI c.nI) := by
    obtain ⟨⟨u, hu⟩, _⟩ := can22
    rw [hw27, cell_setCell, if_pos ⟨rfl, rfl⟩, hu]; rfl
  have bn27 : BinAt w27 b bi bt c := (x.bn.keep hS22 (by simp) (by simp) (by simp)).keep hS27 (by simp; omega) (by simp; omega) (by simp; omega)
  have rd27 : RdAt w27 rb s p e b := (x.rd.same hS22 x.rd.lt (by simp)).same hS27 (by have := x.rd.lt; omega) (by simp; omega)
  have d27 := bn27.drew
  simp only [true_and]
  refine ⟨_, _, _, c27, _, _, _, d27.c16, _, d27.c17, ⟨by omega, by omega⟩, ?_⟩
  have esl : slAddr (some ⟨bi, 0, none⟩) 0 96 3 = some ⟨bi, 0, none⟩ := by rw [slAddr_lt (by decide)]
  rw [esl, Int.toNat_natCast, Nat.sub_zero, Nat.sub_zero]
  have hnb : w.heap.size ≠ fb := by omega
  have can27 : ∀ j, j < c.nI * 3 → can w27.drew ⟨w.heap.size, j, none⟩ := fun j hj => by
    have a1 : w27.cell? ⟨w.heap.size, j, none⟩ = _ := (hS27.cell (p := ⟨w.heap.size, j, none⟩) hl22 (by simp; exact hnb)).trans (hc22 j hj)
    have a2 : w27.frozen? ⟨w.heap.size, j, none⟩ = _ := (hS27.frozen (p := ⟨w.heap.size, j, none⟩) hl22 (by simp; exact hnb)).trans (hf22 j)
    exact ⟨⟨_, a1⟩, a2⟩
  let cs : List Value := (List.range (c.nI * 3)).map fun j => if j % 3 = 0 then .int .u8 (c.ins (j / 3)).op else if j % 3 = 1 then .int .u32 (c.ins (j / 3)).x else .int .u64 (c.ins (j / 3)).y
  have hcsl : cs.length = c.nI * 3 := by simp [cs]
  have hcsg : ∀ j, j < c.nI * 3 → cs[j]? = some (if j % 3 = 0 then .int .u8 (c.ins (j / 3)).op else if j % 3 = 1 then .int .u32 (c.ins (j / 3)).x else .int .u64 (c.ins (j / 3)).y) := fun j hj => by
    simp only [cs, List.getElem?_map, List.getElem?_range hj, Option.map_some]
  have src : ∀ j, j < 288 → w27.drew.cell? ⟨bi, j, none⟩ = some (if j % 3 = 0 then .int .u8 (c.ins (j / 3)).op else if j % 3 = 1 then .int .u32 (c.ins (j / 3)).x else .int .u64 (c.ins (j / 3)).y) := fun j hj => by
    have e : j = j / 3 * 3 + j % 3 := by omega
    have hr : j % 3 = 0 ∨ j % 3 = 1 ∨ j % 3 = 2 := by omega
    rcases hr with g | g | g
    · have e' : j = j / 3 * 3 := by omega
      rw [if_pos g]; conv => lhs; rw [e']
      exact d27.i0 (j / 3) (by omega)
    · have e' : j = j / 3 * 3 + 1 := by omega
      rw [if_neg (by omega), if_pos g]; conv => lhs; rw [e']
      exact d27.i1 (j / 3) (by omega)
    · have e' : j = j / 3 * 3 + 2 := by omega
      rw [if_neg (by omega), if_neg (by omega)]; conv => lhs; rw [e']
      exact d27.i2 (j / 3) (by omega)
  obtain ⟨w38, hcp, hF⟩ := copy_rows T_sl_api_Ins.el T_int w27.drew w.heap.size c.nI c.nI bi c.nI 96 cs (by rw [hcsl]; simp [Nat.min_def]) (fun j v hj => by
      have hjl : j < c.nI * 3 := by
        rcases Nat.lt_or_ge j (c.nI * 3) with g | g
        · exact g
        · rw [List.getElem?_eq_none (by omega)] at hj; cases hj
      rw [src j (by omega), ← hcsg j hjl]; exact hj) (fun j hj => can27 j (by omega)) (fun v hv => by
      simp only [cs, List.mem_map] at hv
      obtain ⟨j, _, rfl⟩ := hv
      split
      · rfl
      · split <;> rfl)
  refine ⟨_, w38, hcp, ?_⟩
  have S38 := hF.same w27.heap.size
  have hbsz : w.heap.size ∉ [b] := by simp; have := x.bn.ltb; omega
  have hlt27 : w22.heap.size ≤ w27.heap.size := hS27.size
  have lb := x.bn.ltb; have li := x.bn.lti; have lt' := x.bn.ltt; have lr := x.rd.lt
  have bn38 : BinAt w38 b bi bt c := bn27.drew.same S38 (by omega) (by omega) (by omega) (by simp; omega) (by simp; omega) (by simp; omega)
  have rd38 : RdAt w38 rb s p e b := rd27.drew.same S38 (by omega) (by simp; omega)
  have fill : ∀ j, j < c.nI * 3 → w38.cell? ⟨w.heap.size, j, none⟩ = some (if j % 3 = 0 then .int .u8 (c.ins (j / 3)).op else if j % 3 = 1 then .int .u32 (c.ins (j / 3)).x else .int .u64 (c.ins (j / 3)).y) := fun j hj => by
    rw [hF.cell, if_pos ⟨rfl, by omega, by omega⟩, Nat.sub_zero, hcsg j hj]
  have row38 : InsRow w38 w.heap.size c.nI c.ins := ⟨fun j hj => by rw [fill _ (by omega), if_pos (by omega), show j * 3 / 3 = j by omega], fun j hj => by rw [fill _ (by omega), if_neg (by omega), if_pos (by omega), show (j * 3 + 1) / 3 = j by omega],
    fun j hj => by rw [fill _ (by omega), if_neg (by omega), if_neg (by omega), show (j * 3 + 2) / 3 = j by omega]⟩
  have f38 : w38.cell? ⟨fb, fo + 2, none⟩ = some (.slice (some ⟨w.heap.size, 0, none⟩) c.nI c.nI) := by
    rw [S38.cell (p := ⟨fb, fo + 2, none⟩) (show fb < w27.heap.size by omega) (by simp; omega)]; exact c27
  have g38 : ∀ j, j ≠ fo + 2 → w38.cell? ⟨fb, j, none⟩ = w0.cell? ⟨fb, j, none⟩ := fun j hj => by
    rw [S38.cell (p := ⟨fb, j, none⟩) (show fb < w27.heap.size by omega) (by simp; omega)]
    show w27.cell? _ = _
    rw [hw27, cell_setCell, if_neg (by omega), hS22.cell (p := ⟨fb, j, none⟩) hfw (by simp), fcell]
  have h38 : ∀ j, w38.frozen? ⟨fb, j, none⟩ = w0.frozen? ⟨fb, j, none⟩ := fun j => by
    rw [S38.frozen (p := ⟨fb, j, none⟩) (show fb < w27.heap.size by omega) (by simp; omega)]
    show w27.frozen? _ = _
    rw [hw27, World.frozen?_setCell, hS22.frozen (p := ⟨fb, j, none⟩) hfw (by simp), ffroz]
  have sz38 : w.heap.size < w38.heap.size := by have := S38.size; have : w27.drew.heap.size = w27.heap.size := rfl; omega
  have same38 : Same [rb, b, bi, bt, fb] w0.heap.size w0 w38 := by
    have a1 : Same [rb, b, bi, bt, fb] w0.heap.size w0 w := x.S.mono (Nat.le_refl _) (by intro k hk _; simp at hk ⊢; omega)
    have a2 := a1.trans (hS22.mono a1.size (by simp))
    have a3 := a2.trans (hS27.mono a2.size (by intro k hk _; simp at hk ⊢; omega))
    exact (a3.drew).trans ((hF.same w0.heap.size).mono (Nat.le_refl _) (by intro k hk hlt; simp at hk; omega))
  have ht24 := x.nt
  refine ⟨_, bn38.c19, ?_⟩
  by_cases hn0 : c.nTab = 0
  · refine cond_false' (by rw [hn0]; rfl) ?_
    exact ⟨c, p, w.heap.size, hr, rfl, x.le, x.tx.pe, rd38, bn38, row38, f38, .inl ⟨hn0, g38 _ (by omega)⟩, fun j h1 _ => g38 j h1, h38, by omega, sz38, same38⟩
  · refine cond_true' (decide_eq_true (by omega)) ⟨_, bn38.c19, ?_⟩
    obtain ⟨w44, hm4, hc44, hf44, hS44, hl44⟩ := make_rows T_sl_uint32.el w38 c.nTab (by omega) (by decide)
    refine ⟨_, _, _, w44, hm4, ?_⟩
    have hfw38 : fb < w38.heap.size := by omega
    have can44 : can w44 ⟨fb, fo + 3, none⟩ := by
      obtain ⟨⟨u, hu⟩, hf⟩ := x.cg
      exact ⟨⟨u, by rw [hS44.cell (p := ⟨fb, fo + 3, none⟩) hfw38 (by simp), g38 _ (by omega)]; exact hu⟩, by rw [hS44.frozen (p := ⟨fb, fo + 3, none⟩) hfw38 (by simp), h38]; exact hf⟩
    refine ⟨can44, letW_intro fun w49 hw49 => ?_⟩
    have hS49 : Same [fb] w44.heap.size w44 w49 := by rw [hw49]; exact same_set _ _
    have c49 : w49.cell? ⟨fb, fo + 3, none⟩ = some (.slice (some ⟨w38.heap.size, 0, none⟩) c.nTab c.nTab) := by
      obtain ⟨⟨u, hu⟩, _⟩ := can44
      rw [hw49, cell_setCell, if_pos ⟨rfl, rfl⟩, hu]; rfl
    have bn49 : BinAt w49 b bi bt c := (bn38.keep hS44 (by simp) (by simp) (by simp)).keep hS49 (by simp; omega) (by simp; omega) (by simp; omega)
    have rd49 : RdAt w49 rb s p e b := (rd38.same hS44 rd38.lt (by simp)).same hS49 (by have := rd38.lt; omega) (by simp; omega)
    have d49 := bn49.drew
    refine ⟨_, _, _, c49, _, _, _, d49.c18, _, d49.c19, ⟨by omega, by omega⟩, ?_⟩
    have esl2 : slAddr (some ⟨bt, 0, none⟩) 0 24 1 = some ⟨bt, 0, none⟩ := by rw [slAddr_lt (by decide)]
    rw [esl2, Int.toNat_natCast, Nat.sub_zero, Nat.sub_zero]
    have hnb2 : w38.heap.size ≠ fb := by omega
    have can49 : ∀ j, j < c.nTab * 1 → can w49.drew ⟨w38.heap.size, j, none⟩ := fun j hj => by
      have a1 : w49.cell? ⟨w38.heap.size, j, none⟩ = _ := (hS49.cell (p := ⟨w38.heap.size, j, none⟩) hl44 (by simp; exact hnb2)).trans (hc44 j hj)
      have a2 : w49.frozen? ⟨w38.heap.size, j, none⟩ = _ := (hS49.frozen (p := ⟨w38.heap.size, j, none⟩) hl44 (by simp; exact hnb2)).trans (hf44 j)
      exact ⟨⟨_, a1⟩, a2⟩
    let ds : List Value := (List.range c.nTab).map fun j => .int .u32 (c.tabs j)
    have hdsl : ds.length = c.nTab := by simp [ds]
    have hdsg : ∀ j, j < c.nTab → ds[j]? = some (.int .u32 (c.tabs j)) := fun j hj => by
      simp only [ds, List.getElem?_map, List.getElem?_range hj, Option.map_some]
    obtain ⟨w60, hcp2, hF2⟩ := copy_rows T_sl_uint32.el T_int w49.drew w38.heap.size c.nTab c.nTab bt c.nTab 24 ds (by rw [hdsl]; simp [Nat.min_def]) (fun j v hj => by
        have hjl : j < c.nTab := by
          rcases Nat.lt_or_ge j c.nTab with g | g
          · exact g
          · rw [List.getElem?_eq_none (by omega)] at hj; cases hj
        rw [hdsg j hjl] at hj
        rw [d49.tb j (by omega)]; exact hj) (fun j hj => can49 j (by omega)) (fun v hv => by
        simp only [ds, List.mem_map] at hv
        obtain ⟨j, _, rfl⟩ := hv
        rfl)
    refine ⟨_, w60, hcp2, ?_⟩
    have S60 := hF2.same w49.heap.size
    have hlt49 : w44.heap.size ≤ w49.heap.size := hS49.size
    have lb8 := bn38.ltb; have li8 := bn38.lti; have lt8 := bn38.ltt; have lr8 := rd38.lt
    have bn60 : BinAt w60 b bi bt c := d49.same S60 (by omega) (by omega) (by omega) (by simp; omega) (by simp; omega) (by simp; omega)
    have rd60 : RdAt w60 rb s p e b := rd49.drew.same S60 (by omega) (by simp; omega)
    have keep60 : ∀ k j, k < w38.heap.size → k ≠ fb → w60.cell? ⟨k, j, none⟩ = w38.cell? ⟨k, j, none⟩ := fun k j hk hkf => by
      rw [S60.cell (p := ⟨k, j, none⟩) (show k < w49.heap.size by omega) (by simp; omega)]
      show w49.cell? _ = _
      rw [hS49.cell (p := ⟨k, j, none⟩) (show k < w44.heap.size by omega) (by simp; exact hkf), hS44.cell (p := ⟨k, j, none⟩) hk (by simp)]
    refine ⟨c, p, w.heap.size, hr, rfl, x.le, x.tx.pe, rd60, bn60, ⟨fun j hj => ?_, fun j hj => ?_, fun j hj => ?_⟩, ?_, .inr ⟨by omega, w38.heap.size, ?_, fun j hj => ?_, by omega, ?_⟩, fun j hj hj3 => ?_, fun j => ?_, by omega, ?_, ?_⟩
    · rw [keep60 _ _ sz38 (by omega)]; exact row38.i0 j hj
    · rw [keep60 _ _ sz38 (by omega)]; exact row38.i1 j hj
    · rw [keep60 _ _ sz38 (by omega)]; exact row38.i2 j hj
    · rw [S60.cell (p := ⟨fb, fo + 2, none⟩) (show fb < w49.heap.size by omega) (by simp; omega)]
      show w49.cell? _ = _
      rw [hw49, cell_setCell, if_neg (by omega), hS44.cell (p := ⟨fb, fo + 2, none⟩) hfw38 (by simp)]; exact f38
    · rw [S60.cell (p := ⟨fb, fo + 3, none⟩) (show fb < w49.heap.size by omega) (by simp; omega)]; exact c49
    · rw [hF2.cell, if_pos ⟨rfl, by omega, by omega⟩, Nat.sub_zero, hdsg j hj]
    · have := S60.size; have : w49.drew.heap.size = w49.heap.size := rfl; omega
    · rw [S60.cell (p := ⟨fb, j, none⟩) (show fb < w49.heap.size by omega) (by simp; omega)]
      show w49.cell? _ = _
      rw [hw49, cell_setCell, if_neg (by omega), hS44.cell (p := ⟨fb, j, none⟩) hfw38 (by simp)]; exact g38 j hj
    · rw [S60.frozen (p := ⟨fb, j, none⟩) (show fb < w49.heap.size by omega) (by simp; omega)]
      show w49.frozen? _ = _
      rw [hw49, World.frozen?_setCell, hS44.frozen (p := ⟨fb, j, none⟩) hfw38 (by simp)]; exact h38 j
    · have := S60.size; have : w49.drew.heap.size = w49.heap.size := rfl; omega
    · have a2 := same38.trans (hS44.mono same38.size (by simp))
      have a3 := a2.trans (hS49.mono a2.size (by intro k hk _; simp at hk ⊢; omega))
      exact (a3.drew).trans ((hF2.same w0.heap.size).mono (Nat.le_refl _) (by intro k hk hlt; simp at hk; omega))

theorem body_loop : ∀ (k : Nat) (p : Nat) (c : Sc) (w : World), BCtx w0 w rb s p0 p e b bi bt fb fo c → e - p < k → r = bodyL s e k c p →
    bin_reader_body.L1 (some ⟨rb, 0, none⟩) (some ⟨fb, fo, none⟩) (some ⟨b, 0, none⟩) (BOk w0 rb s p0 e b bi bt fb fo r) (BErr w0 rb b bi bt fb r) w := by
  intro k
  induction k with
  | zero => intro p c w x hk; omega
  | succ k ih =>
    intro p c w x hk hr
    rw [bodyL_succ] at hr
    refine bin_reader_body.step1 _ _ _ _ _ _ ?_
    unfold bin_reader_body.V1
    simp only [nilV_some, Nat.zero_add]
    refine ⟨_, x.rd.c1, (next_spec x.rd x.tx).into (fun op q w1 hn h1 h2 hR hS => ⟨_, rfl, ?_⟩) (fun n a w1 hn hS => x.err (by rw [hr, hn]; rfl) hS)⟩
    have x1 := x.step hR hS h1 h2
    obtain ⟨n1, n2, n3⟩ := nextP_ok hn
    have hr1 : r = (restX s e c op p q).bind fun x q2 => bodyStep (bodyL s e k) p op x.1 x.2 q2 := by rw [hr, hn]; rfl
    refine RunsQ.mono (restX_spec x1.rd x1.tx x1.bn x1.k.apt x1.nt op p) ?_ ?_
    rotate_left
    · rintro v w2 ⟨n, a, hi, rfl, hB2, gS⟩
      exact ⟨n, a, by rw [hr1, hi]; rfl, rfl, hB2, (x1.S.trans (gS.mono x1.S.size (by intro k hk _; simp at hk ⊢; omega))).mono (Nat.le_refl _) (by intro k hk _; simp at hk ⊢; omega)⟩
    rintro v w2 ⟨⟨i, c'⟩, q2, hi, rfl, g1, g2, gR, gB, gT, gS⟩
    obtain ⟨kI, kO, _, _⟩ := restX_keep hi
    have x2 := x1.stepX gR gB gS g1 g2 gT kI kO
    have hr2 : r = bodyStep (bodyL s e k) p op i c' q2 := by rw [hr1, hi]; rfl
    refine ⟨_, _, _, rfl, ?_⟩
    clear x1 x hi hr1 hr kI kO gB gT
    unfold bodyStep at hr2
    have x : BCtx w0 w2 rb s p0 q2 e b bi bt fb fo c' := x2
    clear x2
    have x2 := x
    refine newIns (w := w2) (i := i) (fun xb w3 hxb hX hS3 => ?_)
    have x3 : BCtx w0 w3 rb s p0 q2 e b bi bt fb fo c' := x2.step (x2.rd.same hS3 x2.rd.lt (by simp)) (hS3.mono (Nat.le_refl _) (by simp)) (Nat.le_refl _) g2
    refine ⟨_, x3.bn.c17, ?_⟩
    by_cases h96 : 96 ≤ c'.nI
    · rw [if_pos h96] at hr2
      exact cond_true' (decide_eq_true (by omega)) (x3.err hr2 (Same.refl _ _ _))
    · rw [if_neg h96] at hr2
      refine cond_false' (decide_eq_false (by omega)) ?_
      refine bin_reader_body.step2 _ _ _ _ _ _ _ _ _ ?_
      unfold bin_reader_body.V2
      simp only [nilV_some, true_and, Nat.zero_add]
      have x4 := x3.drew
      have hX4 := hX.drew
      refine ⟨_, _, _, x4.bn.c16, _, x4.bn.c17, _, _, _, hX4.c0, hX4.c1, hX4.c2, by omega, ?_⟩
      rw [nilV_some, Int.toNat_natCast, add_mk, Nat.zero_add]
      refine x4.bn.putIns c'.nI (by omega) i (fun w5 hB5 hS5 => ?_)
      have sz4 := x4.S.size
      have x5 : BCtx w0 w5 rb s p0 q2 e b bi bt fb fo { c' with ins := upd c'.ins c'.nI i } :=
        ⟨x4.rd.same (hS5 _) x4.rd.lt (by simp; exact x4.k.a2), x4.tx, x4.le, hB5, x4.S.trans ((hS5 _).mono (Nat.le_refl _) (by intro k hk _; simp at hk ⊢; omega)), x4.k, x4.lr, x4.lb, x4.li, x4.lt, x4.lf, x4.cf, x4.cg, x4.nt, x4.nI, x4.nO⟩
      refine ⟨_, x5.bn.c17, x5.bn.can 17 (by decide), letW_intro fun w6 hw6 => ?_⟩
      have e1 : IntKind.wrap .i64 ((c'.nI : Int) + 1) = ((c'.nI + 1 : Nat) : Int) := by rw [wrap_i64 (by omega) (by omega)]; omega
      have x6 : BCtx w0 w6 rb s p0 q2 e b bi bt fb fo (c'.more i) := by
        rw [hw6]
        have e2 : IntKind.wrap .i64 ((({ c' with ins := upd c'.ins c'.nI i } : Sc).nI : Int) + 1) = ((c'.nI + 1 : Nat) : Int) := e1
        rw [e2]
        exact x5.setBin (x5.bn.setI (c'.nI + 1)) x.nt (show c'.nI + 1 ≤ 96 by omega) x.nO
      clear hw6 x5 hB5 hS5
      have hk2 : e - q2 < k := by omega
      by_cases hbl : op = 2 ∨ op = 3 ∨ op = 4
      · rw [if_pos hbl] at hr2
        have L3 : bin_reader_body.L3 (some ⟨rb, 0, none⟩) (some ⟨fb, fo, none⟩) (some ⟨b, 0, none⟩) p op op true (BOk w0 rb s p0 e b bi bt fb fo r) (BErr w0 rb b bi bt fb r) w6 := by
          refine bin_reader_body.step3 _ _ _ _ _ _ _ _ _ _ ?_
          unfold bin_reader_body.V3
          refine cond_true' rfl ?_
          simp only [nilV_some, Nat.zero_add]
          refine ⟨_, x6.bn.c15, ?_⟩
          by_cases h6 : 6 ≤ c'.nO
          · rw [if_pos h6] at hr2
            exact cond_true' (decide_eq_true (show ((c'.nO : Nat) : Int) ≥ 6 by omega)) (x6.err hr2 (Same.refl _ _ _))
          · rw [if_neg h6] at hr2
            refine cond_false' (decide_eq_false (show ¬ ((c'.nO : Nat) : Int) ≥ 6 by omega)) ?_
            refine bin_reader_body.step4 _ _ _ _ _ _ _ ?_
            unfold bin_reader_body.V4
            simp only [nilV_some, true_and, Nat.zero_add]
            have x7 := x6.drew
            refine ⟨_, x7.bn.c15, (show 0 ≤ ((c'.nO : Nat) : Int) ∧ ((c'.nO : Nat) : Int) < ((6 : Nat) : Int) by omega), ?_⟩
            have ea : Addr.add ⟨b, 9, none⟩ (Int.toNat ((c'.more i).nO : Int) * 1) = ⟨b, 9 + c'.nO, none⟩ := by rw [Int.toNat_natCast, add_mk, Nat.mul_one]; rfl
            rw [ea]
            refine ⟨x7.bn.can (9 + c'.nO) (by omega), letW_intro fun w8 hw8 => ?_⟩
            have x8 : BCtx w0 w8 rb s p0 q2 e b bi bt fb fo { c'.more i with opn := upd c'.opn c'.nO op } := by
              rw [hw8]; exact x7.setBin (x7.bn.setOp c'.nO (by omega) op) x.nt (show c'.nI + 1 ≤ 96 by omega) x.nO
            refine ⟨_, x8.bn.c15, x8.bn.can 15 (by decide), letW_intro fun w9 hw9 => ?_⟩
            have e3 : IntKind.wrap .i64 ((({ c'.more i with opn := upd c'.opn c'.nO op } : Sc).nO : Int) + 1) = ((c'.nO + 1 : Nat) : Int) := by
              show IntKind.wrap .i64 ((c'.nO : Int) + 1) = _
              rw [wrap_i64 (by omega) (by omega)]; omega
            rw [e3] at hw9
            have x9 : BCtx w0 w9 rb s p0 q2 e b bi bt fb fo ((c'.more i).opened op) := by
              rw [hw9]; exact x8.setBin (x8.bn.setO (c'.nO + 1)) x.nt (show c'.nI + 1 ≤ 96 by omega) (show c'.nO + 1 ≤ 6 by omega)
            exact ih q2 _ w9 x9 hk2 hr2
        refine cond_intro (fun _ => L3) (fun a0 => cond_intro (fun _ => L3) (fun a1 => ?_))
        have a2 : op = 4 := by
          rw [beq_eq_false_iff_ne] at a0 a1
          rcases hbl with g | g | g
          · exact absurd g a0
          · exact absurd g a1
          · exact g
        rw [beq_eq' a2]; exact L3
      · rw [if_neg hbl] at hr2
        refine cond_false' (beq_ne (by omega)) (cond_false' (beq_ne (by omega)) ?_)
        rw [beq_ne (show op ≠ 4 by omega)]
        by_cases h5 : op = 5
        · rw [if_pos h5] at hr2
          refine bin_reader_body.step3 _ _ _ _ _ _ _ _ _ _ ?_
          unfold bin_reader_body.V3
          refine cond_false' rfl (cond_true' (beq_eq' h5) ?_)
          simp only [nilV_some, true_and, Nat.zero_add]
          have x7 := x6.drew
          refine ⟨_, x7.bn.c15, ?_⟩
          by_cases hO0 : c'.nO = 0
          · rw [if_pos (.inl hO0)] at hr2
            refine cond_true' (show (((c'.nO : Nat) : Int) == 0) = true by rw [hO0]; rfl) ?_
            refine bin_reader_body.step5 _ _ _ _ _ _ _ _ ?_
            unfold bin_reader_body.V5
            exact cond_true' rfl (x7.err hr2 (Same.refl _ _ _))
          · refine cond_false' (show (((c'.nO : Nat) : Int) == 0) = false from beq_ne (by omega)) ?_
            have hO6 := x.nO
            have e3 : IntKind.wrap .i64 (((c'.more i).nO : Int) - 1) = ((c'.nO - 1 : Nat) : Int) := by
              show IntKind.wrap .i64 ((c'.nO : Int) - 1) = _
              rw [wrap_i64 (by omega) (by omega)]; omega
            refine ⟨_, x7.bn.c15, ?_⟩
            rw [e3, Int.toNat_natCast, add_mk, Nat.mul_one]
            refine ⟨by omega, _, x7.bn.op (c'.nO - 1) (by omega), ?_⟩
            have hopn : (c'.more i).opn (c'.nO - 1) = c'.opn (c'.nO - 1) := rfl
            rw [hopn]
            refine bin_reader_body.step5 _ _ _ _ _ _ _ _ ?_
            unfold bin_reader_body.V5
            by_cases hif : c'.opn (c'.nO - 1) = 4
            · rw [if_neg (by rintro (g | g); exact hO0 g; exact g hif)] at hr2
              refine cond_false' (by rw [hif]; rfl) ?_
              refine bin_reader_body.step6 _ _ _ _ _ _ ?_
              unfold bin_reader_body.V6
              simp only [nilV_some, true_and, Nat.zero_add]
              have x8 := x7.drew
              refine ⟨_, x8.bn.c15, ?_⟩
              rw [e3, Int.toNat_natCast, add_mk, Nat.mul_one]
              refine ⟨by omega, x8.bn.can (9 + (c'.nO - 1)) (by omega), letW_intro fun w9 hw9 => ?_⟩
              have x9 : BCtx w0 w9 rb s p0 q2 e b bi bt fb fo (c'.more i).elsed := by
                rw [hw9]; exact x8.setBin (x8.bn.setOp (c'.nO - 1) (by omega) 5) x.nt (show c'.nI + 1 ≤ 96 by omega) x.nO
              exact ih q2 _ w9 x9 hk2 hr2
            · rw [if_pos (.inr hif)] at hr2
              exact cond_true' (bne_iff_ne.2 hif) (x7.err hr2 (Same.refl _ _ _))
        · rw [if_neg h5] at hr2
          by_cases h11 : op = 11
          · rw [if_pos h11] at hr2
            subst h11
            by_cases hO0 : c'.nO = 0
            · rw [if_pos hO0] at hr2
              exact body_end x6 hr2 hO0 p
            · rw [if_neg hO0] at hr2
              have hO6 := x.nO
              refine bin_reader_body.step3 _ _ _ _ _ _ _ _ _ _ ?_
              unfold bin_reader_body.V3
              refine cond_false' rfl (cond_false' rfl (cond_true' rfl ?_))
              simp only [nilV_some, Nat.zero_add]
              refine ⟨_, x6.bn.c15, cond_false' (show (((c'.nO : Nat) : Int) == 0) = false from beq_ne (by omega)) ⟨_, x6.bn.c15, x6.bn.can 15 (by decide), letW_intro fun w9 hw9 => ?_⟩⟩
              have e3 : IntKind.wrap .i64 (((c'.more i).nO : Int) - 1) = ((c'.nO - 1 : Nat) : Int) := by
                show IntKind.wrap .i64 ((c'.nO : Int) - 1) = _
                rw [wrap_i64 (by omega) (by omega)]; omega
              rw [e3] at hw9
              have x9 : BCtx w0 w9 rb s p0 q2 e b bi bt fb fo (c'.more i).closed := by
                rw [hw9]; exact x6.setBin (x6.bn.setO (c'.nO - 1)) x.nt (show c'.nI + 1 ≤ 96 by omega) (show c'.nO - 1 ≤ 6 by omega)
              exact ih q2 _ w9 x9 hk2 hr2
          · rw [if_neg h11] at hr2
            refine bin_reader_body.step3 _ _ _ _ _ _ _ _ _ _ ?_
            unfold bin_reader_body.V3
            refine cond_false' rfl (cond_false' (beq_ne h5) (cond_false' (beq_ne h11) ?_))
            exact ih q2 _ w6 x6 hk2 hr2
end

theorem body_spec {w : World} {rb : Nat} {s : ByteArray} {p e b bi bt fb fo : Nat} {c : Sc} (h : RdAt w rb s p e b) (t : Txt s p e) (hB : BinAt w b bi bt c) (k : Blk rb b bi bt fb) (cf : can w ⟨fb, fo + 2, none⟩) (cg : can w ⟨fb, fo + 3, none⟩) :
    RunsQ Try.prog bin_reader_body.id #[rp rb, .pointer (some ⟨fb, fo, none⟩)] w (BOk w rb s p e b bi bt fb fo (bodyP s e c p)) (BErr w rb b bi bt fb (bodyP s e c p)) := by
  refine bin_reader_body.enter _ _ _ _ _ ?_
  unfold bin_reader_body.V
  simp only [nilV_some, Nat.zero_add]
  refine ⟨_, h.c3, ?_⟩
  simp only [nilV_some, Nat.zero_add]
  have lf : fb < w.heap.size := by obtain ⟨⟨u, hu⟩, _⟩ := cf; exact cell_lt hu
  refine ⟨hB.can 17 (by decide), letW_intro fun w6 hw6 => ?_⟩
  have B6 : BinAt w6 b bi bt { c with nI := 0 } := by rw [hw6]; exact hB.setI 0
  refine ⟨B6.can 19 (by decide), letW_intro fun w8 hw8 => ?_⟩
  have B8 : BinAt w8 b bi bt { { c with nI := 0 } with nTab := 0 } := by rw [hw8]; exact B6.setB 0
  refine ⟨B8.can 15 (by decide), letW_intro fun w10 hw10 => ?_⟩
  have B10 : BinAt w10 b bi bt c.fresh := by rw [hw10]; exact B8.setO 0
  have S10 : Same [b] w.heap.size w w10 := by
    rw [hw10, hw8, hw6]
    exact (((Same.refl _ _ _).setCell (.inr (by simp)) _).setCell (.inr (by simp)) _).setCell (.inr (by simp)) _
  exact body_loop (e - p + 1) p c.fresh w10 ⟨h.same S10 h.lt (by simp; exact k.a1), t, Nat.le_refl _, B10, S10.mono (Nat.le_refl _) (by intro x hx _; simp at hx ⊢; omega), k, h.lt, hB.ltb, hB.lti, hB.ltt, lf, cf, cg, Nat.zero_le _, Nat.zero_le _, Nat.zero_le _⟩ (by omega) rfl

end Go.Proofs.Qxb6500316a
