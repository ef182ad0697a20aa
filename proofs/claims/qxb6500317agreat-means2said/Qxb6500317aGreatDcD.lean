/-
  An instruction's immediates; an initialiser.
-/
import Derived.Test.Qxb6500317aGreatDcC
set_option linter.unusedSimpArgs false
set_option linter.unusedVariables false
set_option maxRecDepth 100000
namespace Go.Proofs.Qxb6500317aGreat
open Go Go.Vc

structure Ins where
  op : Int
  x : Int
  y : Int
def insV (i : Ins) : Value := .agg #[.int .u8 i.op, .int .u32 i.x, .int .u64 i.y]
def insC (i : Ins) : List Value := [.int .u8 i.op, .int .u32 i.x, .int .u64 i.y]

structure InsAt (w : World) (b : Nat) (i : Ins) : Prop where
  c0 : w.cell? ⟨b, 0, none⟩ = some (.int .u8 i.op)
  c1 : w.cell? ⟨b, 1, none⟩ = some (.int .u32 i.x)
  c2 : w.cell? ⟨b, 2, none⟩ = some (.int .u64 i.y)
  f : ∀ j, w.frozen? ⟨b, j, none⟩ = false

theorem InsAt.lt {w : World} {b : Nat} {i : Ins} (h : InsAt w b i) : b < w.heap.size := cell_lt h.c0
theorem InsAt.drew {w : World} {b : Nat} {i : Ins} (h : InsAt w b i) : InsAt w.drew b i := ⟨h.c0, h.c1, h.c2, h.f⟩
theorem InsAt.same {w w' : World} {b : Nat} {i : Ins} (h : InsAt w b i) {S : List Nat} {B : Nat} (hs : Same S B w w') (hb : b < B) (hS : b ∉ S) : InsAt w' b i :=
  ⟨by rw [hs.cell hb hS]; exact h.c0, by rw [hs.cell hb hS]; exact h.c1, by rw [hs.cell hb hS]; exact h.c2, fun j => by rw [hs.frozen hb hS]; exact h.f j⟩
theorem InsAt.new (w : World) (t : TypeId) : InsAt (w.alloc (.cells #[.int .u8 0, .int .u32 0, .int .u64 0] t)) w.heap.size ⟨0, 0, 0⟩ :=
  ⟨by rw [World.cell?_alloc_new]; rfl, by rw [World.cell?_alloc_new]; rfl, by rw [World.cell?_alloc_new]; rfl, fun j => by rw [World.frozen?_alloc_new]⟩
theorem InsAt.can {w : World} {b : Nat} {i : Ins} (h : InsAt w b i) (j : Nat) (hj : j < 3) : can w ⟨b, j, none⟩ := by
  refine ⟨?_, h.f j⟩
  have : j = 0 ∨ j = 1 ∨ j = 2 := by omega
  rcases this with rfl | rfl | rfl
  · exact ⟨_, h.c0⟩
  · exact ⟨_, h.c1⟩
  · exact ⟨_, h.c2⟩
theorem InsAt.setx {w : World} {b : Nat} {i : Ins} (h : InsAt w b i) (x : Int) : InsAt (w.setCell ⟨b, 1, none⟩ (.int .u32 x)) b ⟨i.op, x, i.y⟩ :=
  ⟨by rw [cell_set _ _ _ _ _ h.c0]; rfl, by rw [cell_set _ _ _ _ _ h.c1]; rfl, by rw [cell_set _ _ _ _ _ h.c2]; rfl, fun j => by simpa using h.f j⟩
theorem InsAt.sety {w : World} {b : Nat} {i : Ins} (h : InsAt w b i) (y : Int) : InsAt (w.setCell ⟨b, 2, none⟩ (.int .u64 y)) b ⟨i.op, i.x, y⟩ :=
  ⟨by rw [cell_set _ _ _ _ _ h.c0]; rfl, by rw [cell_set _ _ _ _ _ h.c1]; rfl, by rw [cell_set _ _ _ _ _ h.c2]; rfl, fun j => by simpa using h.f j⟩
theorem InsAt.put_intro {w : World} {b : Nat} {i : Ins} (h : InsAt w b i) {i' : Ins} {K : World → Prop} (hK : ∀ w', InsAt w' b i' → (∀ B, Same [b] B w w') → K w') :
    putCells w ⟨b, 0, none⟩ [.int .u8 i'.op, .int .u32 i'.x, .int .u64 i'.y] K :=
  putCells_intro b _ 0 w K (fun j hj => by rw [Nat.zero_add]; exact h.can j (by simpa using hj)) (fun w' hF => hK w'
    ⟨by rw [hF.cell, if_pos (by simp)]; rfl, by rw [hF.cell, if_pos (by simp)]; rfl, by rw [hF.cell, if_pos (by simp)]; rfl, fun j => by rw [hF.frozen]; exact h.f j⟩ hF.same)

/-- A value of Ins is laid into a new block. -/
theorem newIns {w : World} {i : Ins} {K : Nat → World → Prop} (hK : ∀ b w', w.heap.size ≤ b → InsAt w' b i → Same [] w.heap.size w w' → K b w') :
    letB (Array.size (World.heap w)) fun b => letW (World.alloc w (.cells #[.int .u8 0, .int .u32 0, .int .u64 0] T_api_Ins)) fun w7 => putCells w7 ⟨b, 0, none⟩ [.int .u8 i.op, .int .u32 i.x, .int .u64 i.y] fun w8 => K b w8 := by
  refine letB_intro fun b hb => letW_intro fun w7 hw7 => ?_
  have hS7 : Same [] w.heap.size w w7 := by rw [hw7]; exact (Same.refl _ _ _).alloc (Nat.le_refl _) _
  have hI : InsAt w7 b ⟨0, 0, 0⟩ := by rw [hw7, hb]; exact InsAt.new w _
  have hb' : w.heap.size ≤ b := by rw [hb]; exact Nat.le_refl _
  exact hI.put_intro (fun w8 h8 hS8 => hK b w8 hb' h8 (hS7.trans ((hS8 _).mono (Nat.le_refl _) (by intro k hk hlt; simp at hk; omega))))

/-- The record in xb is handed back by way of tb. -/
theorem retIns {w : World} {xb tb : Nat} {i j : Ins} (h : InsAt w xb i) (ht : InsAt w tb j) {R : Value → World → Prop} (hR : ∀ w', (∀ B, Same [tb] B w w') → R (insV i) w') :
    ∃ x1 : Int, ∃ x2 : Int, ∃ x3 : Int, World.cell? w ⟨xb, 0, none⟩ = some (.int .u8 x1) ∧ World.cell? w ⟨xb, 1, none⟩ = some (.int .u32 x2) ∧ World.cell? w ⟨xb, 2, none⟩ = some (.int .u64 x3) ∧ (putCells w ⟨tb, 0, none⟩ [(.int .u8 x1), (.int .u32 x2), (.int .u64 x3)] fun w4 => ((∃ x5 : Int, ∃ x6 : Int, ∃ x7 : Int, World.cell? w4 ⟨tb, 0, none⟩ = some (.int .u8 x5) ∧ World.cell? w4 ⟨tb, 1, none⟩ = some (.int .u32 x6) ∧ World.cell? w4 ⟨tb, 2, none⟩ = some (.int .u64 x7) ∧ R (.agg #[(.int .u8 x5), (.int .u32 x6), (.int .u64 x7)]) w4))) :=
  ⟨_, _, _, h.c0, h.c1, h.c2, ht.put_intro (i' := i) (fun w' ha hs => ⟨_, _, _, ha.c0, ha.c1, ha.c2, hR w' hs⟩)⟩

/-- The immediates, but for br_table's. -/
def restP (s : ByteArray) (e : Nat) (op : Int) (at_ : Int) (p : Nat) : Res Ins :=
  if op = 0 ∨ op = 1 ∨ op = 5 ∨ op = 11 ∨ op = 15 ∨ op = 26 ∨ op = 27 then .ok ⟨op, 0, 0⟩ p
  else if op = 2 ∨ op = 3 ∨ op = 4 then (nextP s e p).bind fun c q => if c ≠ 64 ∧ (c < 124 ∨ 127 < c) then .err 9 p else .ok ⟨op, IntKind.wrap .u32 c, 0⟩ q
  else if op = 12 ∨ op = 13 ∨ op = 16 ∨ op = 32 ∨ op = 33 ∨ op = 34 ∨ op = 35 ∨ op = 36 then (u32P s e p).bind fun n q => .ok ⟨op, n, 0⟩ q
  else if op = 17 then (u32P s e p).bind fun n q => (fixedP s e 0 q).bind fun _ q2 => .ok ⟨op, n, 0⟩ q2
  else if op = 63 ∨ op = 64 then (fixedP s e 0 p).bind fun _ q => .ok ⟨op, 0, 0⟩ q
  else if op = 65 then (slebP s e 32 p).bind fun y q => .ok ⟨op, 0, y⟩ q
  else if op = 66 then (slebP s e 64 p).bind fun y q => .ok ⟨op, 0, y⟩ q
  else if op = 67 then (wordP s e 4 p).bind fun y q => .ok ⟨op, 0, y⟩ q
  else if op = 68 then (wordP s e 8 p).bind fun y q => .ok ⟨op, 0, y⟩ q
  else if 40 ≤ op ∧ op ≤ 62 then (u32P s e p).bind fun x q => (u32P s e q).bind fun y q2 => .ok ⟨op, x, y⟩ q2
  else if op < 69 ∨ 191 < op then .err 10 at_
  else .ok ⟨op, 0, 0⟩ p

/-- What stands in memory while the immediates are read. -/
structure RCtx (w0 w : World) (rb : Nat) (s : ByteArray) (p0 q e b tb xb : Nat) (i : Ins) : Prop where
  rd : RdAt w rb s q e b
  tx : Txt s q e
  le : p0 ≤ q
  x : InsAt w xb i
  t : InsAt w tb ⟨0, 0, 0⟩
  S : Same [rb] w0.heap.size w0 w
  lx : w0.heap.size ≤ xb
  lt : w0.heap.size ≤ tb
  ne : xb ≠ tb
  lr : rb < w0.heap.size

theorem RCtx.step {w0 w w' : World} {rb : Nat} {s : ByteArray} {p0 q e b tb xb : Nat} {i : Ins} (c : RCtx w0 w rb s p0 q e b tb xb i) {q' : Nat} (hR : RdAt w' rb s q' e b) (hS : Same [rb] w.heap.size w w') (h1 : q ≤ q') (h2 : q' ≤ e) : RCtx w0 w' rb s p0 q' e b tb xb i := by
  have l1 := c.lx; have l2 := c.lt; have l3 := c.lr
  exact ⟨hR, ⟨h2, c.tx.es, c.tx.sz⟩, Nat.le_trans c.le h1, c.x.same hS c.x.lt (by simp; omega), c.t.same hS c.t.lt (by simp; omega), c.S.trans (hS.mono c.S.size (by simp)), l1, l2, c.ne, l3⟩
theorem RCtx.setx {w0 w : World} {rb : Nat} {s : ByteArray} {p0 q e b tb xb : Nat} {i : Ins} (c : RCtx w0 w rb s p0 q e b tb xb i) (x : Int) : RCtx w0 (w.setCell ⟨xb, 1, none⟩ (.int .u32 x)) rb s p0 q e b tb xb ⟨i.op, x, i.y⟩ := by
  have l1 := c.lx; have l2 := c.lt; have l3 := c.lr; have l4 := c.ne
  have hS : Same [xb] w.heap.size w (w.setCell ⟨xb, 1, none⟩ (.int .u32 x)) := same_set 1 _
  exact ⟨c.rd.same hS c.rd.lt (by simp; omega), c.tx, c.le, c.x.setx x, c.t.same hS c.t.lt (by simp; omega), c.S.setCell (.inl l1) _, l1, l2, l4, l3⟩
theorem RCtx.sety {w0 w : World} {rb : Nat} {s : ByteArray} {p0 q e b tb xb : Nat} {i : Ins} (c : RCtx w0 w rb s p0 q e b tb xb i) (y : Int) : RCtx w0 (w.setCell ⟨xb, 2, none⟩ (.int .u64 y)) rb s p0 q e b tb xb ⟨i.op, i.x, y⟩ := by
  have l1 := c.lx; have l2 := c.lt; have l3 := c.lr; have l4 := c.ne
  have hS : Same [xb] w.heap.size w (w.setCell ⟨xb, 2, none⟩ (.int .u64 y)) := same_set 2 _
  exact ⟨c.rd.same hS c.rd.lt (by simp; omega), c.tx, c.le, c.x.sety y, c.t.same hS c.t.lt (by simp; omega), c.S.setCell (.inl l1) _, l1, l2, l4, l3⟩

abbrev ROk (r : Res Ins) (w0 : World) (rb : Nat) (s : ByteArray) (p0 e b : Nat) : Value → World → Prop := fun v w' => ∃ a q, r = .ok a q ∧ v = insV a ∧ p0 ≤ q ∧ q ≤ e ∧ RdAt w' rb s q e b ∧ Same [rb] w0.heap.size w0 w'
abbrev RErr (r : Res Ins) (w0 : World) (rb : Nat) : Value → World → Prop := fun v w' => ∃ c a, r = .err c a ∧ v = faultV c a ∧ Same [rb] w0.heap.size w0 w'

theorem RCtx.done {w0 w : World} {rb : Nat} {s : ByteArray} {p0 q e b tb xb : Nat} {i : Ins} (c : RCtx w0 w rb s p0 q e b tb xb i) {r : Res Ins} (hr : r = .ok i q) : bin_reader_rest.L1 tb xb (ROk r w0 rb s p0 e b) (RErr r w0 rb) w := by
  have l1 := c.lx; have l2 := c.lt; have l3 := c.lr; have l4 := c.ne
  refine bin_reader_rest.step1 _ _ _ _ _ ?_
  unfold bin_reader_rest.V1
  refine retIns c.x c.t (R := ROk r w0 rb s p0 e b) (fun w' hS => ⟨i, q, hr, rfl, c.le, c.tx.pe, c.rd.same (hS w.heap.size) c.rd.lt (by simp; omega), c.S.trans ((hS _).mono (Nat.le_refl _) (by intro k hk hlt; simp at hk; omega))⟩)

section
variable {w0 : World} {rb : Nat} {s : ByteArray} {p0 e b tb xb : Nat} {op at_ : Int}

theorem restL3 {w : World} (c : RCtx w0 w rb s p0 p0 e b tb xb ⟨op, 0, 0⟩) {r : Res Ins} (hr : r = (nextP s e p0).bind fun c q => if c ≠ 64 ∧ (c < 124 ∨ 127 < c) then .err 9 p0 else .ok ⟨op, IntKind.wrap .u32 c, 0⟩ q) :
    bin_reader_rest.L3 (some ⟨rb, 0, none⟩) tb xb (ROk r w0 rb s p0 e b) (RErr r w0 rb) w := by
  refine bin_reader_rest.step3 _ _ _ _ _ _ ?_
  unfold bin_reader_rest.V3
  simp only [nilV_some, Nat.zero_add]
  refine ⟨_, c.rd.c1, (next_spec c.rd c.tx).into (fun n q w' hn h1 h2 hR hS => ⟨_, rfl, ?_⟩) (fun n a w' hn hS => ⟨n, a, by rw [hr, hn]; rfl, rfl, c.S.trans (hS.mono c.S.size (by simp))⟩)⟩
  have c' := c.step hR hS h1 h2
  have hr2 : r = if n ≠ 64 ∧ (n < 124 ∨ 127 < n) then .err 9 p0 else .ok ⟨op, IntKind.wrap .u32 n, 0⟩ q := by rw [hr, hn]; rfl
  have L5 : ∀ tt : Bool, (tt = true ↔ (n ≠ 64 ∧ (n < 124 ∨ 127 < n))) → bin_reader_rest.L5 tb xb p0 n tt (ROk r w0 rb s p0 e b) (RErr r w0 rb) w' := by
    intro tt htt
    refine bin_reader_rest.step5 _ _ _ _ _ _ _ _ ?_
    unfold bin_reader_rest.V5
    refine cond_intro (fun g => ?_) (fun g => ?_)
    · rw [if_pos (htt.1 g)] at hr2
      exact ⟨_, _, hr2, rfl, c'.S⟩
    · rw [if_neg (fun k => by rw [htt.2 k] at g; cases g)] at hr2
      refine bin_reader_rest.step8 _ _ _ _ _ _ ?_
      unfold bin_reader_rest.V8
      refine ⟨c'.x.can 1 (by decide), letW_intro fun w8 hw8 => ?_⟩
      rw [hw8]
      exact (c'.setx _).done hr2
  refine cond_intro (fun g => ?_) (fun g => ?_)
  · have g' : n ≠ 64 := bne_iff_ne.1 g
    refine cond_intro (fun k => L5 _ ?_) (fun k => L5 _ ?_)
    · have k' := of_decide_eq_true k
      exact ⟨fun _ => ⟨g', .inl k'⟩, fun _ => rfl⟩
    · have k' := of_decide_eq_false k
      constructor
      · intro u; exact ⟨g', .inr (of_decide_eq_true u)⟩
      · rintro ⟨_, u | u⟩
        · exact absurd u k'
        · exact decide_eq_true u
  · refine L5 _ ⟨fun u => (by cases u), fun u => ?_⟩
    rw [bne_iff_ne.2 u.1] at g; cases g

theorem restL6 {w : World} (c : RCtx w0 w rb s p0 p0 e b tb xb ⟨op, 0, 0⟩) {r : Res Ins} (hr : r = (u32P s e p0).bind fun n q => .ok ⟨op, n, 0⟩ q) :
    bin_reader_rest.L6 (some ⟨rb, 0, none⟩) tb xb (ROk r w0 rb s p0 e b) (RErr r w0 rb) w := by
  refine bin_reader_rest.step6 _ _ _ _ _ _ ?_
  unfold bin_reader_rest.V6
  refine (u32_spec c.rd c.tx).into (fun n q w' hn h1 h2 hR hS => ⟨_, rfl, ?_⟩) (fun n a w' hn hS => ⟨n, a, by rw [hr, hn]; rfl, rfl, c.S.trans (hS.mono c.S.size (by simp))⟩)
  have c' := c.step hR hS h1 h2
  refine ⟨c'.x.can 1 (by decide), letW_intro fun w8 hw8 => ?_⟩
  rw [hw8]
  exact (c'.setx _).done (by rw [hr, hn]; rfl)

theorem restL10 {w : World} {q : Nat} {i : Ins} (c : RCtx w0 w rb s p0 q e b tb xb i) {r : Res Ins} (hr : r = (fixedP s e 0 q).bind fun _ q2 => .ok i q2) :
    bin_reader_rest.L10 (some ⟨rb, 0, none⟩) tb xb (ROk r w0 rb s p0 e b) (RErr r w0 rb) w := by
  refine bin_reader_rest.step10 _ _ _ _ _ _ ?_
  unfold bin_reader_rest.V10
  refine (fixed_spec c.rd c.tx 0).into (fun n q w' hn h1 h2 hR hS => ⟨rfl, ?_⟩) (fun n a w' hn hS => ⟨n, a, by rw [hr, hn]; rfl, rfl, c.S.trans (hS.mono c.S.size (by simp))⟩)
  exact (c.step hR hS h1 h2).done (by rw [hr, hn]; rfl)

theorem restL13 {w : World} (c : RCtx w0 w rb s p0 p0 e b tb xb ⟨op, 0, 0⟩) (tt : Bool) (htt : tt = true ↔ (40 ≤ op ∧ op ≤ 62)) {r : Res Ins}
    (hr : r = if 40 ≤ op ∧ op ≤ 62 then (u32P s e p0).bind fun x q => (u32P s e q).bind fun y q2 => .ok ⟨op, x, y⟩ q2 else if op < 69 ∨ 191 < op then .err 10 at_ else .ok ⟨op, 0, 0⟩ p0) :
    bin_reader_rest.L12 (some ⟨rb, 0, none⟩) op at_ tb xb tt (ROk r w0 rb s p0 e b) (RErr r w0 rb) w := by
  refine bin_reader_rest.step12 _ _ _ _ _ _ _ _ _ ?_
  unfold bin_reader_rest.V12
  refine cond_intro (fun g => ?_) (fun g => ?_)
  · rw [if_pos (htt.1 g)] at hr
    refine (u32_spec c.rd c.tx).into (fun n q w' hn h1 h2 hR hS => ⟨_, rfl, ?_⟩) (fun n a w' hn hS => ⟨n, a, by rw [hr, hn]; rfl, rfl, c.S.trans (hS.mono c.S.size (by simp))⟩)
    have c' := c.step hR hS h1 h2
    have hr2 : r = (u32P s e q).bind fun y q2 => .ok ⟨op, n, y⟩ q2 := by rw [hr, hn]; rfl
    refine ⟨c'.x.can 1 (by decide), letW_intro fun w8 hw8 => ?_⟩
    have c8 : RCtx w0 w8 rb s p0 q e b tb xb ⟨op, n, 0⟩ := by rw [hw8]; exact c'.setx n
    refine (u32_spec c8.rd c8.tx).into (fun m q2 w2 hm g1 g2 gR gS => ⟨_, rfl, ?_⟩) (fun m a w2 hm gS => ⟨m, a, by rw [hr2, hm]; rfl, rfl, c8.S.trans (gS.mono c8.S.size (by simp))⟩)
    have c9 := c8.step gR gS g1 g2
    obtain ⟨r1, r2⟩ := u32P_rng hm
    have e1 : IntKind.wrap .u64 m = m := wrap_u64 r1 (by omega)
    rw [e1]
    refine ⟨c9.x.can 2 (by decide), letW_intro fun w9 hw9 => ?_⟩
    rw [hw9]
    exact (c9.sety m).done (by rw [hr2, hm]; rfl)
  · rw [if_neg (fun k => by rw [htt.2 k] at g; cases g)] at hr
    have L14 : ∀ t2 : Bool, (t2 = true ↔ (op < 69 ∨ 191 < op)) → bin_reader_rest.L13 at_ tb xb t2 (ROk r w0 rb s p0 e b) (RErr r w0 rb) w := by
      intro t2 ht2
      refine bin_reader_rest.step13 _ _ _ _ _ _ _ ?_
      unfold bin_reader_rest.V13
      refine cond_intro (fun u => ?_) (fun u => ?_)
      · rw [if_pos (ht2.1 u)] at hr; exact ⟨_, _, hr, rfl, c.S⟩
      · rw [if_neg (fun k => by rw [ht2.2 k] at u; cases u)] at hr; exact c.done hr
    refine cond_intro (fun u => L14 _ ?_) (fun u => L14 _ ?_)
    · have u' := of_decide_eq_true u
      exact ⟨fun _ => .inl u', fun _ => rfl⟩
    · have u' := of_decide_eq_false u
      constructor
      · intro k; exact .inr (of_decide_eq_true k)
      · rintro (k | k)
        · exact absurd k u'
        · exact decide_eq_true k
end

theorem beq_ne {a b : Int} (h : a ≠ b) : (a == b) = false := by rw [beq_eq_false_iff_ne]; exact h
theorem beq_eq' {a b : Int} (h : a = b) : (a == b) = true := by rw [h]; exact beq_self_eq_true b

theorem rest_spec {w : World} {rb : Nat} {s : ByteArray} {p e b : Nat} (h : RdAt w rb s p e b) (t : Txt s p e) (op at_ : Int) (h14 : op ≠ 14) :
    Reads bin_reader_rest.id #[rp rb, .int .u8 op, .int .i64 at_] w rb s p e b [] (restP s e op at_ p) insV := by
  refine bin_reader_rest.enter _ _ _ _ _ _ ?_
  unfold bin_reader_rest.V
  refine letB_intro fun tb htb => letW_intro fun w5 hw5 => ?_
  have hS5 : Same [] w.heap.size w w5 := by rw [hw5]; exact (Same.refl _ _ _).alloc (Nat.le_refl _) _
  have hT : InsAt w5 tb ⟨0, 0, 0⟩ := by rw [hw5, htb]; exact InsAt.new w _
  have htb' : w.heap.size ≤ tb := by rw [htb]; exact Nat.le_refl _
  clear hw5 htb
  refine newIns (w := w5) (i := ⟨op, 0, 0⟩) (fun xb w8 hxb hX hS8 => ?_)
  have ht5 := hT.lt
  have c : RCtx w w8 rb s p p e b tb xb ⟨op, 0, 0⟩ :=
    ⟨(h.same hS5 h.lt (by simp)).same hS8 (by have := hS5.size; have := h.lt; omega) (by simp), t, Nat.le_refl _, hX, hT.same hS8 ht5 (by simp), (hS5.trans (hS8.mono hS5.size (by simp))).mono (Nat.le_refl _) (by simp), by have := hS5.size; omega, htb', by omega, h.lt⟩
  by_cases g1 : op = 0 ∨ op = 1 ∨ op = 5 ∨ op = 11 ∨ op = 15 ∨ op = 26 ∨ op = 27
  · have hr : restP s e op at_ p = .ok ⟨op, 0, 0⟩ p := by unfold restP; rw [if_pos g1]
    have hd : bin_reader_rest.L1 tb xb (ROk (restP s e op at_ p) w rb s p e b) (RErr (restP s e op at_ p) w rb) w8 := c.done hr
    refine cond_intro (fun _ => hd) (fun a0 => cond_intro (fun _ => hd) (fun a1 => cond_intro (fun _ => hd) (fun a2 => cond_intro (fun _ => hd) (fun a3 => cond_intro (fun _ => hd) (fun a4 => cond_intro (fun _ => hd) (fun a5 => cond_intro (fun _ => hd) (fun a6 => ?_)))))))
    exfalso
    rw [beq_eq_false_iff_ne] at a0 a1 a2 a3 a4 a5 a6
    rcases g1 with k | k | k | k | k | k | k
    · exact a0 k
    · exact a1 k
    · exact a2 k
    · exact a3 k
    · exact a4 k
    · exact a5 k
    · exact a6 k
  · refine cond_false' (beq_ne (by omega)) (cond_false' (beq_ne (by omega)) (cond_false' (beq_ne (by omega)) (cond_false' (beq_ne (by omega)) (cond_false' (beq_ne (by omega)) (cond_false' (beq_ne (by omega)) (cond_false' (beq_ne (by omega)) ?_))))))
    have hr1 : restP s e op at_ p = restP s e op at_ p := rfl
    conv at hr1 => rhs; unfold restP
    rw [if_neg g1] at hr1
    refine bin_reader_rest.step2 _ _ _ _ _ _ _ _ _ ?_
    unfold bin_reader_rest.V2
    by_cases g2 : op = 2 ∨ op = 3 ∨ op = 4
    · rw [if_pos g2] at hr1
      have hd := restL3 c hr1
      refine cond_intro (fun _ => hd) (fun a0 => cond_intro (fun _ => hd) (fun a1 => cond_intro (fun _ => hd) (fun a2 => ?_)))
      exfalso
      rw [beq_eq_false_iff_ne] at a0 a1 a2
      rcases g2 with k | k | k
      · exact a0 k
      · exact a1 k
      · exact a2 k
    · rw [if_neg g2] at hr1
      refine cond_false' (beq_ne (by omega)) (cond_false' (beq_ne (by omega)) (cond_false' (beq_ne (by omega)) ?_))
      refine bin_reader_rest.step4 _ _ _ _ _ _ _ _ _ ?_
      unfold bin_reader_rest.V4
      by_cases g3 : op = 12 ∨ op = 13 ∨ op = 16 ∨ op = 32 ∨ op = 33 ∨ op = 34 ∨ op = 35 ∨ op = 36
      · rw [if_pos g3] at hr1
        have hd := restL6 c hr1
        refine cond_intro (fun _ => hd) (fun a0 => cond_intro (fun _ => hd) (fun a1 => cond_intro (fun _ => hd) (fun a2 => cond_intro (fun _ => hd) (fun a3 => cond_intro (fun _ => hd) (fun a4 => cond_intro (fun _ => hd) (fun a5 => cond_intro (fun _ => hd) (fun a6 => cond_intro (fun _ => hd) (fun a7 => ?_))))))))
        exfalso
        rw [beq_eq_false_iff_ne] at a0 a1 a2 a3 a4 a5 a6 a7
        rcases g3 with k | k | k | k | k | k | k | k
        · exact a0 k
        · exact a1 k
        · exact a2 k
        · exact a3 k
        · exact a4 k
        · exact a5 k
        · exact a6 k
        · exact a7 k
      · rw [if_neg g3] at hr1
        refine cond_false' (beq_ne (by omega)) (cond_false' (beq_ne (by omega)) (cond_false' (beq_ne (by omega)) (cond_false' (beq_ne (by omega)) (cond_false' (beq_ne (by omega)) (cond_false' (beq_ne (by omega)) (cond_false' (beq_ne (by omega)) (cond_false' (beq_ne (by omega)) ?_)))))))
        refine bin_reader_rest.step7 _ _ _ _ _ _ _ _ _ ?_
        unfold bin_reader_rest.V7
        refine cond_false' (beq_ne h14) ?_
        by_cases g4 : op = 17
        · rw [if_pos g4] at hr1
          refine cond_true' (beq_eq' g4) ?_
          refine (u32_spec c.rd c.tx).into (fun n q w' hn h1 h2 hR hS => ⟨_, rfl, ?_⟩) (fun n a w' hn hS => ⟨n, a, by rw [hr1, hn]; rfl, rfl, c.S.trans (hS.mono c.S.size (by simp))⟩)
          have c' := c.step hR hS h1 h2
          refine ⟨c'.x.can 1 (by decide), letW_intro fun w9 hw9 => ?_⟩
          rw [hw9]
          exact restL10 (c'.setx n) (by rw [hr1, hn]; rfl)
        · rw [if_neg g4] at hr1
          refine cond_false' (beq_ne g4) ?_
          by_cases g5 : op = 63 ∨ op = 64
          · rw [if_pos g5] at hr1
            have hd := restL10 c hr1
            refine cond_intro (fun _ => hd) (fun a0 => cond_intro (fun _ => hd) (fun a1 => ?_))
            exfalso
            rw [beq_eq_false_iff_ne] at a0 a1
            rcases g5 with k | k
            · exact a0 k
            · exact a1 k
          · rw [if_neg g5] at hr1
            refine cond_false' (beq_ne (by omega)) (cond_false' (beq_ne (by omega)) ?_)
            refine bin_reader_rest.step11 _ _ _ _ _ _ _ _ _ ?_
            unfold bin_reader_rest.V11
            by_cases g6 : op = 65
            · rw [if_pos g6] at hr1
              refine cond_true' (beq_eq' g6) ?_
              refine (sleb_spec c.rd c.tx 32 (by decide)).into (fun n q w' hn h1 h2 hR hS => ⟨_, rfl, ?_⟩) (fun n a w' hn hS => ⟨n, a, by rw [hr1, hn]; rfl, rfl, c.S.trans (hS.mono c.S.size (by simp))⟩)
              have c' := c.step hR hS h1 h2
              refine ⟨c'.x.can 2 (by decide), letW_intro fun w9 hw9 => ?_⟩
              rw [hw9]; exact (c'.sety n).done (by rw [hr1, hn]; rfl)
            rw [if_neg g6] at hr1
            refine cond_false' (beq_ne g6) ?_
            by_cases g7 : op = 66
            · rw [if_pos g7] at hr1
              refine cond_true' (beq_eq' g7) ?_
              refine (sleb_spec c.rd c.tx 64 (by decide)).into (fun n q w' hn h1 h2 hR hS => ⟨_, rfl, ?_⟩) (fun n a w' hn hS => ⟨n, a, by rw [hr1, hn]; rfl, rfl, c.S.trans (hS.mono c.S.size (by simp))⟩)
              have c' := c.step hR hS h1 h2
              refine ⟨c'.x.can 2 (by decide), letW_intro fun w9 hw9 => ?_⟩
              rw [hw9]; exact (c'.sety n).done (by rw [hr1, hn]; rfl)
            rw [if_neg g7] at hr1
            refine cond_false' (beq_ne g7) ?_
            by_cases g8 : op = 67
            · rw [if_pos g8] at hr1
              refine cond_true' (beq_eq' g8) ?_
              refine (word_spec c.rd c.tx 4 (by decide)).into (fun n q w' hn h1 h2 hR hS => ⟨_, rfl, ?_⟩) (fun n a w' hn hS => ⟨n, a, by rw [hr1, hn]; rfl, rfl, c.S.trans (hS.mono c.S.size (by simp))⟩)
              have c' := c.step hR hS h1 h2
              refine ⟨c'.x.can 2 (by decide), letW_intro fun w9 hw9 => ?_⟩
              rw [hw9]; exact (c'.sety n).done (by rw [hr1, hn]; rfl)
            rw [if_neg g8] at hr1
            refine cond_false' (beq_ne g8) ?_
            by_cases g9 : op = 68
            · rw [if_pos g9] at hr1
              refine cond_true' (beq_eq' g9) ?_
              refine (word_spec c.rd c.tx 8 (by decide)).into (fun n q w' hn h1 h2 hR hS => ⟨_, rfl, ?_⟩) (fun n a w' hn hS => ⟨n, a, by rw [hr1, hn]; rfl, rfl, c.S.trans (hS.mono c.S.size (by simp))⟩)
              have c' := c.step hR hS h1 h2
              refine ⟨c'.x.can 2 (by decide), letW_intro fun w9 hw9 => ?_⟩
              rw [hw9]; exact (c'.sety n).done (by rw [hr1, hn]; rfl)
            rw [if_neg g9] at hr1
            refine cond_false' (beq_ne g9) ?_
            refine cond_intro (fun k => restL13 c _ ?_ hr1) (fun k => restL13 c _ ?_ hr1)
            · have k' := of_decide_eq_true k
              exact ⟨fun u => ⟨k', of_decide_eq_true u⟩, fun u => decide_eq_true u.2⟩
            · have k' := of_decide_eq_false k
              exact ⟨fun u => (by cases u), fun u => absurd u.1 k'⟩

/-! ### constant -/
def constP (s : ByteArray) (e p : Nat) : Res Ins := (nextP s e p).bind fun op q =>
  if op < 65 ∨ 68 < op then .err 13 p else (restP s e op p q).bind fun i q2 => (nextP s e q2).bind fun c q3 => if c = 11 then .ok i q3 else .err 13 q2

theorem const_spec {w : World} {rb : Nat} {s : ByteArray} {p e b : Nat} (h : RdAt w rb s p e b) (t : Txt s p e) :
    Reads bin_reader_constant.id #[rp rb] w rb s p e b [] (constP s e p) insV := by
  refine bin_reader_constant.enter _ _ _ _ ?_
  unfold bin_reader_constant.V
  refine letB_intro fun tb htb => letW_intro fun w3 hw3 => ?_
  have hS3 : Same [] w.heap.size w w3 := by rw [hw3]; exact (Same.refl _ _ _).alloc (Nat.le_refl _) _
  have hT : InsAt w3 tb ⟨0, 0, 0⟩ := by rw [hw3, htb]; exact InsAt.new w _
  have htb' : w.heap.size ≤ tb := by rw [htb]; exact Nat.le_refl _
  clear hw3 htb
  have hrl := h.lt
  have h3 := h.same hS3 h.lt (by simp)
  have S3 : Same [rb] w.heap.size w w3 := hS3.mono (Nat.le_refl _) (by simp)
  simp only [nilV_some, Nat.zero_add]
  refine ⟨_, h3.c1, (next_spec h3 t).into (fun op q w' hn h1 h2 hR hS => ⟨_, rfl, ?_⟩) (fun n a w' hn hS => ⟨n, a, by unfold constP; rw [hn]; rfl, rfl, S3.trans (hS.mono S3.size (by simp))⟩)⟩
  have S4 := S3.trans (hS.mono S3.size (by simp))
  have hT4 := hT.same hS hT.lt (by simp; omega)
  have hP : constP s e p = if op < 65 ∨ 68 < op then .err 13 p else (restP s e op p q).bind fun i q2 => (nextP s e q2).bind fun c q3 => if c = 11 then .ok i q3 else .err 13 q2 := by unfold constP; rw [hn]; rfl
  have L1 : ∀ tt : Bool, (tt = true ↔ (op < 65 ∨ 68 < op)) → bin_reader_constant.L1 (some ⟨rb, 0, none⟩) tb p op tt (ROk (constP s e p) w rb s p e b) (RErr (constP s e p) w rb) w' := by
    intro tt htt
    refine bin_reader_constant.step1 _ _ _ _ _ _ _ _ ?_
    unfold bin_reader_constant.V1
    refine cond_intro (fun g => ?_) (fun g => ?_)
    · rw [if_pos (htt.1 g)] at hP; exact ⟨_, _, hP, rfl, S4⟩
    · have hop : ¬ (op < 65 ∨ 68 < op) := fun k => by rw [htt.2 k] at g; cases g
      rw [if_neg hop] at hP
      refine bin_reader_constant.step2 _ _ _ _ _ _ _ ?_
      unfold bin_reader_constant.V2
      refine (rest_spec hR ⟨h2, t.es, t.sz⟩ op p (by omega)).into (fun i q2 w2 hi g1 g2 gR gS => ⟨_, _, _, rfl, ?_⟩) (fun n a w2 hi gS => ⟨n, a, by rw [hP, hi]; rfl, rfl, S4.trans (gS.mono S4.size (by simp))⟩)
      have S5 := S4.trans (gS.mono S4.size (by simp))
      have hT5 := hT4.same gS hT4.lt (by simp; omega)
      refine newIns (w := w2) (i := i) (fun xb w8 hxb hX hS8 => ?_)
      have S8 := S5.trans ((hS8.mono (Nat.le_refl _) (by simp) : Same [rb] w2.heap.size w2 w8).mono S5.size (by simp))
      have h8 := gR.same hS8 gR.lt (by simp)
      have hT8 := hT5.same hS8 hT5.lt (by simp)
      simp only [nilV_some, Nat.zero_add]
      refine ⟨_, h8.c1, (next_spec h8 ⟨g2, t.es, t.sz⟩).into (fun c q3 w3 hc k1 k2 kR kS => ⟨_, rfl, ?_⟩) (fun n a w3 hc kS => ⟨n, a, by rw [hP, hi]; simp only [Res.bind]; rw [hc], rfl, S8.trans (kS.mono S8.size (by simp))⟩)⟩
      have S9 := S8.trans (kS.mono S8.size (by simp))
      have hT9 := hT8.same kS hT8.lt (by simp; omega)
      have htl5 := hT5.lt
      have hX9 := hX.same kS hX.lt (by have := S5.size; simp; omega)
      have hP2 : constP s e p = if c = 11 then .ok i q3 else .err 13 q2 := by rw [hP, hi]; simp only [Res.bind]; rw [hc]
      by_cases hc11 : c = 11
      · rw [if_pos hc11] at hP2
        refine cond_false' (by rw [hc11]; rfl) ?_
        refine bin_reader_constant.step3 _ _ _ _ _ ?_
        unfold bin_reader_constant.V3
        exact retIns hX9 hT9 (R := ROk (constP s e p) w rb s p e b) (fun w' hS' => ⟨i, q3, hP2, rfl, by omega, k2, kR.same (hS' _) kR.lt (by simp; omega), S9.trans ((hS' _).mono (Nat.le_refl _) (by intro k hk hlt; simp at hk; omega))⟩)
      · rw [if_neg hc11] at hP2
        exact cond_true' (bne_iff_ne.2 hc11) ⟨_, _, hP2, rfl, S9⟩
  refine cond_intro (fun k => L1 _ ?_) (fun k => L1 _ ?_)
  · have k' := of_decide_eq_true k
    exact ⟨fun _ => .inl k', fun _ => rfl⟩
  · have k' := of_decide_eq_false k
    constructor
    · intro u; exact .inr (of_decide_eq_true u)
    · rintro (u | u)
      · exact absurd u k'
      · exact decide_eq_true u

end Go.Proofs.Qxb6500317aGreat
