/-
  The immediates with the scratch: br_table.
-/
import Derived.Test.Qxb6500317aGreatDcF
set_option linter.unusedSimpArgs false
set_option linter.unusedVariables false
set_option maxRecDepth 100000
set_option linter.unusedSectionVars false
namespace Go.Proofs.Qxb6500317aGreat
open Go Go.Vc
variable [OutOf]

def Sc.tab (c : Sc) (x : Int) : Sc := { { c with tabs := upd c.tabs c.nTab x } with nTab := c.nTab + 1 }

section
variable {w : World} {b bi bt : Nat} {c : Sc}
theorem BinAt.setTb (h : BinAt w b bi bt c) (k : Nat) (hk : k < 24) (x : Int) : BinAt (w.setCell ⟨bt, k, none⟩ (.int .u32 x)) b bi bt { c with tabs := upd c.tabs k x } := by
  have n1 := h.n1; have n2 := h.n2; have n3 := h.n3
  refine ⟨fun j hj => by rw [cell_setCell, if_neg (by omega)]; exact h.ty j hj, by rw [cell_setCell, if_neg (by omega)]; exact h.c8, fun j hj => by rw [cell_setCell, if_neg (by omega)]; exact h.op j hj,
    by rw [cell_setCell, if_neg (by omega)]; exact h.c15, by rw [cell_setCell, if_neg (by omega)]; exact h.c16, by rw [cell_setCell, if_neg (by omega)]; exact h.c17, by rw [cell_setCell, if_neg (by omega)]; exact h.c18, by rw [cell_setCell, if_neg (by omega)]; exact h.c19,
    fun j hj => by rw [cell_setCell, if_neg (by omega)]; exact h.i0 j hj, fun j hj => by rw [cell_setCell, if_neg (by omega)]; exact h.i1 j hj, fun j hj => by rw [cell_setCell, if_neg (by omega)]; exact h.i2 j hj, fun j hj => ?_,
    fun j => by simpa using h.fb j, fun j => by simpa using h.fi j, fun j => by simpa using h.ft j, h.n1, h.n2, h.n3, by rw [cell_setCell, if_neg (by omega)]; exact h.c20, by rw [cell_setCell, if_neg (by omega)]; exact h.c21, by rw [cell_setCell, if_neg (by omega)]; exact h.c22⟩
  rw [cell_setCell]
  show _ = some (Value.int .u32 (upd c.tabs k x j))
  unfold upd
  by_cases hjk : j = k
  · rw [if_pos ⟨rfl, hjk⟩, if_pos hjk, h.tb j hj]; rfl
  · rw [if_neg (by omega), if_neg hjk]; exact h.tb j hj
theorem BinAt.cant (h : BinAt w b bi bt c) (k : Nat) (hk : k < 24) : Vc.can w ⟨bt, k, none⟩ := ⟨⟨_, h.tb k hk⟩, h.ft k⟩
end

def brL (s : ByteArray) (e : Nat) : Nat → Sc → Nat → Res Sc
  | 0, c, q => .ok c q
  | k + 1, c, q => (u32P s e q).bind fun x q' => brL s e k (c.tab x) q'
theorem brL_succ (s : ByteArray) (e k : Nat) (c : Sc) (q : Nat) : brL s e (k + 1) c q = (u32P s e q).bind fun x q' => brL s e k (c.tab x) q' := rfl
def brP (s : ByteArray) (e : Nat) (c : Sc) (p : Nat) : Res (Ins × Sc) := (countP s e (23 - (c.nTab : Int)) p).bind fun k q => (brL s e (k + 1) c q).bind fun c' q2 => .ok (⟨14, (c.nTab : Int), ((k + 1 : Nat) : Int)⟩, c') q2
/-- The immediates, a br_table's too. -/
def restX (s : ByteArray) (e : Nat) (c : Sc) (op at_ : Int) (p : Nat) : Res (Ins × Sc) := if op = 14 then brP s e c p else (restP s e op at_ p).bind fun i q => .ok (i, c) q

structure Apt (rb b bi bt : Nat) : Prop where
  a1 : rb ≠ b
  a2 : rb ≠ bi
  a3 : rb ≠ bt
  a4 : b ≠ bi
  a5 : b ≠ bt
  a6 : bi ≠ bt

abbrev XOk (r : Res (Ins × Sc)) (w0 : World) (rb : Nat) (s : ByteArray) (p0 e b bi bt : Nat) : Value → World → Prop := fun v w' => ∃ a q, r = .ok a q ∧ v = insV a.1 ∧ p0 ≤ q ∧ q ≤ e ∧ RdAt w' rb s q e b ∧ BinAt w' b bi bt a.2 ∧ a.2.nTab ≤ 24 ∧ Same [rb, b, bt] w0.heap.size w0 w'
abbrev XErr (r : Res (Ins × Sc)) (w0 : World) (rb b bi bt : Nat) : Value → World → Prop := fun v w' => ∃ n a, r = .err n a ∧ v = faultV n a ∧ (∃ c', BinAt w' b bi bt c') ∧ Same [rb, b, bt] w0.heap.size w0 w'

/-- While a br_table's labels are read. -/
structure BrC (w0 w : World) (rb : Nat) (s : ByteArray) (p0 q e b bi bt tb xb : Nat) (c : Sc) (i : Ins) : Prop where
  rd : RdAt w rb s q e b
  tx : Txt s q e
  le : p0 ≤ q
  bn : BinAt w b bi bt c
  x : InsAt w xb i
  t : InsAt w tb ⟨0, 0, 0⟩
  S : Same [rb, b, bt] w0.heap.size w0 w
  lx : w0.heap.size ≤ xb
  lt : w0.heap.size ≤ tb
  ne : xb ≠ tb
  lr : rb < w0.heap.size
  lb : b < w0.heap.size
  li : bi < w0.heap.size
  lq : bt < w0.heap.size
  ap : Apt rb b bi bt

section
variable {w0 w : World} {rb : Nat} {s : ByteArray} {p0 q e b bi bt tb xb : Nat} {c : Sc} {i : Ins}
theorem BrC.drew (x : BrC w0 w rb s p0 q e b bi bt tb xb c i) : BrC w0 w.drew rb s p0 q e b bi bt tb xb c i :=
  ⟨x.rd.drew, x.tx, x.le, x.bn.drew, x.x.drew, x.t.drew, x.S.drew, x.lx, x.lt, x.ne, x.lr, x.lb, x.li, x.lq, x.ap⟩
theorem BrC.step (x : BrC w0 w rb s p0 q e b bi bt tb xb c i) {w' : World} {q' : Nat} (hR : RdAt w' rb s q' e b) (hS : Same [rb] w.heap.size w w') (h1 : q ≤ q') (h2 : q' ≤ e) : BrC w0 w' rb s p0 q' e b bi bt tb xb c i := by
  have l1 := x.lx; have l2 := x.lt; have l3 := x.lr; have ap := x.ap
  exact ⟨hR, ⟨h2, x.tx.es, x.tx.sz⟩, Nat.le_trans x.le h1, x.bn.keep hS (by simp; exact ap.a1.symm) (by simp; exact ap.a2.symm) (by simp; exact ap.a3.symm), x.x.same hS x.x.lt (by simp; omega), x.t.same hS x.t.lt (by simp; omega), x.S.trans (hS.mono x.S.size (by intro k hk _; simp at hk ⊢; omega)), l1, l2, x.ne, l3, x.lb, x.li, x.lq, ap⟩
theorem BrC.err (x : BrC w0 w rb s p0 q e b bi bt tb xb c i) {r : Res (Ins × Sc)} {n a : Int} (hr : r = .err n a) {w' : World} (hS : Same [rb] w.heap.size w w') : XErr r w0 rb b bi bt (faultV n a) w' :=
  ⟨n, a, hr, rfl, ⟨c, x.bn.keep hS (by simp; exact x.ap.a1.symm) (by simp; exact x.ap.a2.symm) (by simp; exact x.ap.a3.symm)⟩, x.S.trans (hS.mono x.S.size (by intro k hk _; simp at hk ⊢; omega))⟩

def BrTail (r_0 : Option Addr) (t_6 x_7 : Nat) (b_10 : Option Addr) (k_11 i_12 : Int) (R Q : Value → World → Prop) (x51 : Option Addr) (x52 : Nat) (x64 x67 : Int) (w66 : World) : Prop :=
  (0 ≤ x64 ∧ x64 < ((x52 : Nat) : Int)) ∧ nilV x51 fun a68 => ((can w66 (Addr.add a68 (Int.toNat x64 * 1)) ∧ letW (World.setCell w66 (Addr.add a68 (Int.toNat x64 * 1)) (.int .u32 x67)) fun w69 => (nilV b_10 fun a70 => (∃ x71 : Int, World.cell? w69 ⟨(Addr.block a70), (Addr.off a70 + 19), none⟩ = some (.int .i64 x71) ∧ (nilV b_10 fun a72 => (can w69 ⟨(Addr.block a72), (Addr.off a72 + 19), none⟩ ∧ letW (World.setCell w69 ⟨(Addr.block a72), (Addr.off a72 + 19), none⟩ (.int .i64 (IntKind.wrap .i64 (x71 + (1 : Int))))) fun w73 => (bin_reader_rest.L9 r_0 t_6 x_7 b_10 k_11 (IntKind.wrap .i64 (i_12 + (1 : Int))) R Q w73)))))) ∧ True)

theorem br_tail (x : BrC w0 w rb s p0 q e b bi bt tb xb c i) (hn : c.nTab < 24) (k j : Nat) (hj : j ≤ 24) (v : Int) {R Q : Value → World → Prop}
    (h : ∀ w', BrC w0 w' rb s p0 q e b bi bt tb xb (c.tab v) i → bin_reader_rest.L9 (some ⟨rb, 0, none⟩) tb xb (some ⟨b, 0, none⟩) k ((j + 1 : Nat) : Int) R Q w') :
    BrTail (some ⟨rb, 0, none⟩) tb xb (some ⟨b, 0, none⟩) k j R Q (some ⟨bt, 0, none⟩) 24 c.nTab v w := by
  unfold BrTail
  have l1 := x.lx; have l2 := x.lt; have ap := x.ap
  have a1 := ap.a1; have a3 := ap.a3; have a5 := ap.a5; have a6 := ap.a6; have l5 := x.lb; have l6 := x.lq
  simp only [nilV_some, add_mk, Int.toNat_natCast, Nat.mul_one, Nat.zero_add, and_true]
  refine ⟨⟨by omega, by omega⟩, x.bn.cant c.nTab hn, letW_intro fun w1 hw1 => ?_⟩
  have hS1 : Same [bt] w.heap.size w w1 := by rw [hw1]; exact same_set _ _
  have hB1 := x.bn.setTb c.nTab hn v
  rw [← hw1] at hB1
  refine ⟨_, hB1.c19, hB1.can 19 (by decide), letW_intro fun w2 hw2 => ?_⟩
  have e1 : IntKind.wrap .i64 ((c.nTab : Int) + 1) = ((c.nTab + 1 : Nat) : Int) := by rw [wrap_i64 (by omega) (by omega)]; omega
  have e2 : IntKind.wrap .i64 ((j : Int) + 1) = ((j + 1 : Nat) : Int) := by rw [wrap_i64 (by omega) (by omega)]; omega
  have e1' : IntKind.wrap .i64 ((({ c with tabs := upd c.tabs c.nTab v } : Sc).nTab : Int) + 1) = ((c.nTab + 1 : Nat) : Int) := e1
  rw [e1'] at hw2
  have hS2 : Same [b] w1.heap.size w1 w2 := by rw [hw2]; exact same_set _ _
  have hB2 := hB1.setB (c.nTab + 1)
  rw [← hw2] at hB2
  rw [e2]
  refine h w2 ⟨(x.rd.same hS1 x.rd.lt (by simp; omega)).same hS2 (by have := hS1.size; have := x.rd.lt; omega) (by simp; omega), x.tx, x.le, hB2, ?_, ?_, ?_, l1, l2, x.ne, x.lr, x.lb, x.li, x.lq, ap⟩
  · exact (x.x.same hS1 x.x.lt (by simp; omega)).same hS2 (by have := hS1.size; have := x.x.lt; omega) (by simp; omega)
  · exact (x.t.same hS1 x.t.lt (by simp; omega)).same hS2 (by have := hS1.size; have := x.t.lt; omega) (by simp; omega)
  · have hT := x.S.trans (hS1.mono x.S.size (by intro k hk _; simp at hk ⊢; omega))
    exact hT.trans (hS2.mono hT.size (by intro k hk _; simp at hk ⊢; omega))

theorem br_loop (r : Res (Ins × Sc)) (k n0 : Nat) (hk : n0 + k + 1 ≤ 24) :
    ∀ (f j q : Nat) (c : Sc) (w : World), j + f = k + 1 → c.nTab = n0 + j → BrC w0 w rb s p0 q e b bi bt tb xb c i → (r = (brL s e f c q).bind fun c' q2 => .ok (i, c') q2) →
      bin_reader_rest.L9 (some ⟨rb, 0, none⟩) tb xb (some ⟨b, 0, none⟩) k j (XOk r w0 rb s p0 e b bi bt) (XErr r w0 rb b bi bt) w := by
  intro f
  induction f with
  | zero =>
    intro j q c w hj hc x hr
    refine bin_reader_rest.step9 _ _ _ _ _ _ _ _ _ ?_
    unfold bin_reader_rest.V9
    refine cond_false' (decide_eq_false (by omega)) ?_
    have l1 := x.lx; have l2 := x.lt; have l3 := x.lr; have l4 := x.ne; have l5 := x.lb; have l6 := x.li; have l7 := x.lq
    refine bin_reader_rest.step1 _ _ _ _ _ ?_
    unfold bin_reader_rest.V1
    refine retIns x.x x.t (R := XOk r w0 rb s p0 e b bi bt) (fun w' hS => ⟨(i, c), q, hr, rfl, x.le, x.tx.pe, x.rd.same (hS w.heap.size) x.rd.lt (by simp; omega), x.bn.keep (hS w.heap.size) (by simp; omega) (by simp; omega) (by simp; omega), by show c.nTab ≤ 24; omega, x.S.trans ((hS _).mono (Nat.le_refl _) (by intro k hk hlt; simp at hk; omega))⟩)
  | succ f ih =>
    intro j q c w hj hc x hr
    have hr2 : r = (u32P s e q).bind fun v q' => (brL s e f (c.tab v) q').bind fun c' q2 => .ok (i, c') q2 := by
      rw [hr, brL_succ]
      cases u32P s e q <;> rfl
    refine bin_reader_rest.step9 _ _ _ _ _ _ _ _ _ ?_
    unfold bin_reader_rest.V9
    refine cond_true' (decide_eq_true (by omega)) ?_
    have xd := x.drew
    have hcan : c.nTab < 24 := by omega
    have leaf : ∀ w' v q', u32P s e q = .ok v q' → q ≤ q' → q' ≤ e → RdAt w' rb s q' e b → Same [rb] w.drew.heap.size w.drew w' → BrTail (some ⟨rb, 0, none⟩) tb xb (some ⟨b, 0, none⟩) k j (XOk r w0 rb s p0 e b bi bt) (XErr r w0 rb b bi bt) (some ⟨bt, 0, none⟩) 24 c.nTab v w' := by
      intro w' v q' hv h1 h2 hR hS
      refine br_tail (xd.step hR hS h1 h2) hcan k j (by omega) v (fun w'' x'' => ?_)
      exact ih (j + 1) q' (c.tab v) w'' (by omega) (by show c.nTab + 1 = _; omega) x'' (by rw [hr2, hv]; rfl)
    have err : ∀ n a w', u32P s e q = .err n a → Same [rb] w.drew.heap.size w.drew w' → XErr r w0 rb b bi bt (faultV n a) w' := fun n a w' hv hS => xd.err (by rw [hr2, hv]; rfl) hS
    have leaf2 := leaf
    unfold BrTail at leaf2
    simp only [nilV_some, Nat.zero_add, and_true] at leaf2 ⊢
    have b1 : ∀ w', Same [rb] w.drew.heap.size w.drew w' → BinAt w' b bi bt c := fun w' hS => xd.bn.keep hS (by simp; exact xd.ap.a1.symm) (by simp; exact xd.ap.a2.symm) (by simp; exact xd.ap.a3.symm)
    refine ⟨⟨_, _, _, xd.bn.c18, ⟨_, xd.bn.c19, ?_⟩, ?_⟩, ⟨_, xd.bn.c19, ⟨_, _, _, xd.bn.c18, ?_⟩, ?_⟩, ?_⟩
    · exact (u32_spec xd.rd xd.tx).into (fun v q' w' hv h1 h2 hR hS => ⟨_, rfl, leaf2 w' v q' hv h1 h2 hR hS⟩) err
    · exact (u32_spec xd.rd xd.tx).into (fun v q' w' hv h1 h2 hR hS => ⟨_, rfl, _, (b1 w' hS).c19, leaf2 w' v q' hv h1 h2 hR hS⟩) err
    · exact (u32_spec xd.rd xd.tx).into (fun v q' w' hv h1 h2 hR hS => ⟨_, rfl, leaf2 w' v q' hv h1 h2 hR hS⟩) err
    · exact (u32_spec xd.rd xd.tx).into (fun v q' w' hv h1 h2 hR hS => ⟨_, rfl, _, _, _, (b1 w' hS).c18, leaf2 w' v q' hv h1 h2 hR hS⟩) err
    · exact (u32_spec xd.rd xd.tx).into (fun v q' w' hv h1 h2 hR hS => ⟨_, rfl, ⟨_, _, _, (b1 w' hS).c18, _, (b1 w' hS).c19, leaf2 w' v q' hv h1 h2 hR hS⟩, _, (b1 w' hS).c19, _, _, _, (b1 w' hS).c18, leaf2 w' v q' hv h1 h2 hR hS⟩) err
end

theorem restX_spec {w : World} {rb : Nat} {s : ByteArray} {p e b bi bt : Nat} {c : Sc} (h : RdAt w rb s p e b) (t : Txt s p e) (hB : BinAt w b bi bt c) (ap : Apt rb b bi bt) (hT : c.nTab ≤ 24) (op at_ : Int) :
    RunsQ Tryz.prog bin_reader_rest.id #[rp rb, .int .u8 op, .int .i64 at_] w (XOk (restX s e c op at_ p) w rb s p e b bi bt) (XErr (restX s e c op at_ p) w rb b bi bt) := by
  by_cases h14 : op = 14
  · subst h14
    have hX : restX s e c 14 at_ p = brP s e c p := rfl
    rw [hX]
    refine bin_reader_rest.enter _ _ _ _ _ _ ?_
    unfold bin_reader_rest.V
    refine letB_intro fun tb htb => letW_intro fun w5 hw5 => ?_
    have hS5 : Same [] w.heap.size w w5 := by rw [hw5]; exact (Same.refl _ _ _).alloc (Nat.le_refl _) _
    have hTm : InsAt w5 tb ⟨0, 0, 0⟩ := by rw [hw5, htb]; exact InsAt.new w _
    have htb' : w.heap.size ≤ tb := by rw [htb]; exact Nat.le_refl _
    clear hw5 htb
    refine newIns (w := w5) (i := ⟨14, 0, 0⟩) (fun xb w8 hxb hXi hS8 => ?_)
    have ht5 := hTm.lt
    have lb := hB.ltb; have li := hB.lti; have lq := hB.ltt; have lr := h.lt; have s5 := hS5.size
    have hS58 : Same [] w.heap.size w w8 := hS5.trans (hS8.mono hS5.size (by simp))
    have x : BrC w w8 rb s p p e b bi bt tb xb c ⟨14, 0, 0⟩ :=
      ⟨h.same hS58 lr (by simp), t, Nat.le_refl _, hB.keep hS58 (by simp) (by simp) (by simp), hXi, hTm.same hS8 ht5 (by simp), hS58.mono (Nat.le_refl _) (by simp), by omega, htb', by omega, lr, lb, li, lq, ap⟩
    refine cond_false' rfl (cond_false' rfl (cond_false' rfl (cond_false' rfl (cond_false' rfl (cond_false' rfl (cond_false' rfl ?_))))))
    refine bin_reader_rest.step2 _ _ _ _ _ _ _ _ _ ?_
    unfold bin_reader_rest.V2
    refine cond_false' rfl (cond_false' rfl (cond_false' rfl ?_))
    refine bin_reader_rest.step4 _ _ _ _ _ _ _ _ _ ?_
    unfold bin_reader_rest.V4
    refine cond_false' rfl (cond_false' rfl (cond_false' rfl (cond_false' rfl (cond_false' rfl (cond_false' rfl (cond_false' rfl (cond_false' rfl ?_)))))))
    refine bin_reader_rest.step7 _ _ _ _ _ _ _ _ _ ?_
    unfold bin_reader_rest.V7
    refine cond_true' rfl ?_
    simp only [nilV_some, Nat.zero_add]
    refine ⟨_, x.rd.c3, ?_⟩
    simp only [nilV_some, Nat.zero_add]
    have e0 : IntKind.wrap .i64 (IntKind.wrap .i64 (24 - (c.nTab : Int)) - 1) = 23 - (c.nTab : Int) := by
      rw [wrap_i64 (x := 24 - (c.nTab : Int)) (by omega) (by omega), wrap_i64 (by omega) (by omega)]; omega
    refine ⟨_, x.bn.c19, ?_⟩
    rw [e0]
    refine (count_spec x.rd x.tx _).into (fun k q w' hn h1 h2 hR hS => ⟨_, rfl, ?_⟩) (fun n a w' hn hS => x.err (by unfold brP; rw [hn]; rfl) hS)
    have hle := countP_le hn
    have x' := x.step hR hS h1 h2
    have l1 := x'.lx; have l2 := x'.lt; have l4 := x'.ne
    refine ⟨_, x'.bn.c19, x'.x.can 1 (by decide), letW_intro fun w9 hw9 => ?_⟩
    have e1 : IntKind.wrap .u32 (c.nTab : Int) = (c.nTab : Int) := wrap_u32 (by omega) (by omega)
    rw [e1] at hw9
    have hX9 := x'.x.setx (c.nTab : Int)
    rw [← hw9] at hX9
    have hS9 : Same [xb] w'.heap.size w' w9 := by rw [hw9]; exact same_set _ _
    refine ⟨hX9.can 2 (by decide), letW_intro fun w10 hw10 => ?_⟩
    have e2 : IntKind.wrap .u64 (IntKind.wrap .i64 ((k : Int) + 1)) = ((k + 1 : Nat) : Int) := by rw [wrap_i64 (by omega) (by omega), wrap_u64 (by omega) (by omega)]; omega
    rw [e2] at hw10
    have hX10 := hX9.sety ((k + 1 : Nat) : Int)
    rw [← hw10] at hX10
    have hS10 : Same [xb] w9.heap.size w9 w10 := by rw [hw10]; exact same_set _ _
    have hS' : Same [xb] w'.heap.size w' w10 := hS9.trans (hS10.mono hS9.size (by simp))
    have x10 : BrC w w10 rb s p q e b bi bt tb xb c ⟨14, (c.nTab : Int), ((k + 1 : Nat) : Int)⟩ :=
      ⟨x'.rd.same hS' x'.rd.lt (by simp; omega), x'.tx, x'.le, x'.bn.keep hS' (by simp; omega) (by simp; omega) (by simp; omega), hX10, x'.t.same hS' x'.t.lt (by simp; omega), x'.S.trans (hS'.mono x'.S.size (by intro k hk hl; simp at hk; omega)), l1, l2, l4, lr, lb, li, lq, ap⟩
    exact br_loop (brP s e c p) k c.nTab (by omega) (k + 1) 0 q c w10 (by omega) rfl x10 (by unfold brP; rw [hn]; rfl)
  · have hX : restX s e c op at_ p = (restP s e op at_ p).bind fun i q => .ok (i, c) q := by unfold restX; rw [if_neg h14]
    refine (rest_spec h t op at_ h14).into (fun i q w' hn h1 h2 hR hS => ?_) (fun n a w' hn hS => ?_)
    · exact ⟨(i, c), q, by rw [hX, hn]; rfl, rfl, h1, h2, hR, hB.keep hS (by simp; exact ap.a1.symm) (by simp; exact ap.a2.symm) (by simp; exact ap.a3.symm), hT, hS.mono (Nat.le_refl _) (by intro k hk _; simp at hk ⊢; omega)⟩
    · exact ⟨n, a, by rw [hX, hn]; rfl, rfl, ⟨c, hB.keep hS (by simp; exact ap.a1.symm) (by simp; exact ap.a2.symm) (by simp; exact ap.a3.symm)⟩, hS.mono (Nat.le_refl _) (by intro k hk _; simp at hk ⊢; omega)⟩

end Go.Proofs.Qxb6500317aGreat
