/-
  The validator: one instruction of a body.
-/
import Derived.Test.Qxb6500321aVdD
set_option linter.unusedSimpArgs false
set_option linter.unusedVariables false
set_option maxRecDepth 100000
set_option linter.unusedSectionVars false
namespace Go.Proofs.Qxb6500321a
open Go Go.Vc

/-! ### Plain -/
abbrev SR := Sum (Int × Int × List Int × List Fr) (List Int × List Fr)
@[match_pattern] abbrev SR.done (pc e : Int) (o : List Int) (k : List Fr) : SR := Sum.inl (pc, e, o, k)
@[match_pattern] abbrev SR.next (o : List Int) (k : List Fr) : SR := Sum.inr (o, k)
theorem SR.cs {motive : SR → Prop} (done : ∀ (pc e : Int) (o : List Int) (k : List Fr), motive (.done pc e o k)) (next : ∀ (o : List Int) (k : List Fr), motive (.next o k)) (r : SR) : motive r :=
  match r with
  | .inl (pc, e, o, k) => done pc e o k
  | .inr (o, k) => next o k
theorem SR.done.injEq (a b c d : Int) (o p : List Int) (k l : List Fr) : (SR.done a b o k = SR.done c d p l) = (a = c ∧ b = d ∧ o = p ∧ k = l) := by simp only [SR.done, Sum.inl.injEq, Prod.mk.injEq]
theorem SR.next.injEq (o p : List Int) (k l : List Fr) : (SR.next o k = SR.next p l) = (o = p ∧ k = l) := by simp only [SR.next, Sum.inr.injEq, Prod.mk.injEq]
def cutO (f : Fr) (o : List Int) : List Int := o.drop (o.length - f.fl)
def Fr.kill (f : Fr) : Fr := { f with dead := true }
def giveV (pc : Int) (g : Int) (o : List Int) (k : List Fr) : SR := if g = 64 then .next o k else if o.length < 10 then .next (g :: o) k else .done pc 28 o k
def tabL (tabs : Nat → Int) (k : List Fr) (o : List Int) (f : Fr) (d : Bool) : Nat → Nat → Int
  | 0, _ => 0
  | n + 1, i => if (k.length : Int) ≤ tabs i then 25 else if (labT k (tabs i).toNat == 64) = d then (if fitB (labT k (tabs i).toNat) f o = true then tabL tabs k o f d n (i + 1) else 27) else 27
theorem tabL_succ (tabs : Nat → Int) (k : List Fr) (o : List Int) (f : Fr) (d : Bool) (n i : Nat) : tabL tabs k o f d (n + 1) i = if (k.length : Int) ≤ tabs i then 25 else if (labT k (tabs i).toNat == 64) = d then (if fitB (labT k (tabs i).toNat) f o = true then tabL tabs k o f d n (i + 1) else 27) else 27 := rfl
def setl (f : Fr) (o : List Int) : Bool := carB f.res f o && decide ((carO f.res f o).length = f.fl)
def opnV (x : Ins) (pc : Int) (o : List Int) (f : Fr) (r : List Fr) : SR :=
  if 6 < r.length + 1 then .done (pc + 1) 11 o (f :: r) else .next o (⟨x.op, IntKind.wrap .u8 x.x, o.length, false⟩ :: f :: r)
def blkV (x : Ins) (pc : Int) (o : List Int) (f : Fr) (r : List Fr) : SR :=
  if x.op = 4 then (if carB 127 f o = true then opnV x pc (carO 127 f o) f r else .done pc 27 (carO 127 f o) (f :: r)) else opnV x pc o f r
def elsV (pc : Int) (o : List Int) (f : Fr) (r : List Fr) : SR :=
  if setl f o = true then
    (if r.length = 0 then .done (pc + 1) 11 (carO f.res f o) (f :: r)
     else if f.op = 4 then .next (carO f.res f o) ({ { f with op := 5 } with dead := false } :: r)
     else .done pc 11 (carO f.res f o) (f :: r))
  else .done pc 27 (carO f.res f o) (f :: r)
def endV (nI : Nat) (pc : Int) (o : List Int) (f : Fr) (r : List Fr) : SR :=
  if setl f o = true then
    (if f.op = 4 ∧ f.res ≠ 64 then .done pc 27 (carO f.res f o) (f :: r)
     else if r.length = 0 then (if pc + 1 = (nI : Int) then .done 0 0 (carO f.res f o) r else .done (pc + 1) 11 (carO f.res f o) r)
     else giveV pc f.res (carO f.res f o) r)
  else .done pc 27 (carO f.res f o) (f :: r)
def brV (x : Ins) (pc : Int) (o : List Int) (f : Fr) (r : List Fr) : SR :=
  if ((r.length + 1 : Nat) : Int) ≤ x.x then .done pc 25 o (f :: r)
  else if carB (labT (f :: r) x.x.toNat) f o = true then .next (cutO f (carO (labT (f :: r) x.x.toNat) f o)) (f.kill :: r)
  else .done pc 27 (carO (labT (f :: r) x.x.toNat) f o) (f :: r)
def brifV (x : Ins) (pc : Int) (o : List Int) (f : Fr) (r : List Fr) : SR :=
  if carB 127 f o = true then
    (if ((r.length + 1 : Nat) : Int) ≤ x.x then .done pc 25 (carO 127 f o) (f :: r)
     else if carB (labT (f :: r) x.x.toNat) f (carO 127 f o) = true then giveV pc (labT (f :: r) x.x.toNat) (carO (labT (f :: r) x.x.toNat) f (carO 127 f o)) (f :: r)
     else .done pc 27 (carO (labT (f :: r) x.x.toNat) f (carO 127 f o)) (f :: r))
  else .done pc 27 (carO 127 f o) (f :: r)
def tabV (fn : FnP) (x : Ins) (pc : Int) (o : List Int) (f : Fr) (r : List Fr) : SR :=
  if carB 127 f o = true then
    (if x.y < 1 ∨ (fn.nTab : Int) < x.y ∨ (fn.nTab : Int) - x.y < x.x then .done pc 11 (carO 127 f o) (f :: r)
     else if ((r.length + 1 : Nat) : Int) ≤ fn.tabs (x.x + x.y - 1).toNat then .done pc 25 (carO 127 f o) (f :: r)
     else if tabL fn.tabs (f :: r) (carO 127 f o) f (labT (f :: r) (fn.tabs (x.x + x.y - 1).toNat).toNat == 64) x.y.toNat x.x.toNat = 0 then .next (cutO f (carO 127 f o)) (f.kill :: r)
     else .done pc (tabL fn.tabs (f :: r) (carO 127 f o) f (labT (f :: r) (fn.tabs (x.x + x.y - 1).toNat).toNat == 64) x.y.toNat x.x.toNat) (carO 127 f o) (f :: r))
  else .done pc 27 (carO 127 f o) (f :: r)
def botT (f : Fr) : List Fr → Int
  | [] => f.res
  | g :: r => botT g r
def retV (pc : Int) (o : List Int) (f : Fr) (r : List Fr) : SR :=
  if carB (botT f r) f o = true then .next (cutO f (carO (botT f r) f o)) (f.kill :: r) else .done pc 27 (carO (botT f r) f o) (f :: r)
def plnV (P : PM) (ps ds : ByteArray) (x : Ins) (pc : Int) (o : List Int) (f : Fr) (r : List Fr) : SR :=
  if (plnP P ps ds x f o).2.1 = 0 then giveV pc (plnP P ps ds x f o).1 (plnP P ps ds x f o).2.2 (f :: r) else .done pc (plnP P ps ds x f o).2.1 (plnP P ps ds x f o).2.2 (f :: r)
def stepV (P : PM) (ps : ByteArray) (fn : FnP) (x : Ins) (pc : Int) (o : List Int) (f : Fr) (r : List Fr) : SR :=
  if x.op = 1 then .next o (f :: r)
  else if x.op = 0 then .next (cutO f o) (f.kill :: r)
  else if x.op = 2 ∨ x.op = 3 ∨ x.op = 4 then blkV x pc o f r
  else if x.op = 5 then elsV pc o f r
  else if x.op = 11 then endV fn.nI pc o f r
  else if x.op = 12 then brV x pc o f r
  else if x.op = 13 then brifV x pc o f r
  else if x.op = 14 then tabV fn x pc o f r
  else if x.op = 15 then retV pc o f r
  else plnV P ps (strOfNums fn.ls) x pc o f r

theorem cutO_len (f : Fr) (o : List Int) (h : f.fl ≤ o.length) : (cutO f o).length = f.fl := by unfold cutO; rw [List.length_drop]; omega
theorem botT_last : ∀ (f : Fr) (r : List Fr), ∃ g, (f :: r).reverse[0]? = some g ∧ botT f r = g.res
  | f, [] => ⟨f, rfl, rfl⟩
  | f, g :: r => by
    obtain ⟨z, h1, h2⟩ := botT_last g r
    refine ⟨z, ?_, h2⟩
    rw [rev_low f (g :: r) (by simp)]; exact h1

/-! ### The walk -/
/-- Where one instruction of function i is looked at. -/
structure BC (wd w0 w : World) (L mb : Nat) (m : Nat → Value) (P : PM) (vb : Nat) (o : List Int) (f : Fr) (r : List Fr) (i fb xb pc : Nat) : Prop where
  C : VC wd w L mb m P vb o f r
  I : InsAt w xb ((P.fn i).ins pc)
  nx : xb ≠ vb
  hi : i < P.nf
  hp : pc < (P.fn i).nI
  S : Same [vb] w0.heap.size w0 w
  row : ∀ w', HM wd w' L mb m P → FnRow w' (L + 1) fb P.nf P.nf P.fn
section
variable {wd w0 w w' : World} {L mb vb : Nat} {m : Nat → Value} {P : PM} {o : List Int} {f : Fr} {r k : List Fr} {i fb xb pc : Nat} {ps : ByteArray} {R Q : Value → World → Prop} {z : SR}
theorem BC.fn (c : BC wd w0 w L mb m P vb o f r i fb xb pc) : FnB (P.fn i) := c.C.B.fn i c.hi
theorem BC.ins (c : BC wd w0 w L mb m P vb o f r i fb xb pc) : InsIn ((P.fn i).ins pc) := c.fn.ins pc c.hp
theorem BC.step (c : BC wd w0 w L mb m P vb o f r i fb xb pc) {o' : List Int} (hS : Same [vb] w.heap.size w w') (V : VAt w' vb o' (f :: r)) (hf : f.fl ≤ o'.length) : BC wd w0 w' L mb m P vb o' f r i fb xb pc :=
  ⟨c.C.step hS V hf, c.I.same hS c.I.lt (by simp; exact c.nx), c.nx, c.hi, c.hp, c.S.trans (hS.mono c.S.size (by simp)), c.row⟩
theorem BC.drew (c : BC wd w0 w L mb m P vb o f r i fb xb pc) : BC wd w0 w.drew L mb m P vb o f r i fb xb pc := ⟨c.C.drew, c.I.drew, c.nx, c.hi, c.hp, c.S.drew, c.row⟩
def KN (w0 : World) (mb vb i fb pc : Nat) (ps : ByteArray) (R Q : Value → World → Prop) (z : SR) : Prop := ∀ w' o' k', z = .next o' k' → VAt w' vb o' k' → Same [vb] w0.heap.size w0 w' → valid_Valid_body.L4 (some ⟨vb, 0, none⟩) (some ⟨mb, 0, none⟩) (some ⟨fb, i * 4, none⟩) ps (pc : Int) R Q w'
def KD (w0 : World) (vb : Nat) (R : Value → World → Prop) (z : SR) : Prop := ∀ w' p e o' k', z = .done p e o' k' → VAt w' vb o' k' → Same [vb] w0.heap.size w0 w' → R (.tuple #[.int .i64 p, .int .i64 e]) w'

theorem give_walk (V : VAt w vb o k) (S : Same [vb] w0.heap.size w0 w) (g : Int) (hN : KN w0 mb vb i fb pc ps R (fun _ _ => False) (giveV pc g o k)) (hD : KD w0 vb R (giveV pc g o k)) :
    valid_Valid_body.L2 (some ⟨vb, 0, none⟩) (some ⟨mb, 0, none⟩) (some ⟨fb, i * 4, none⟩) ps (pc : Int) g 0 R (fun _ _ => False) w := by
  refine valid_Valid_body.step2 _ _ _ _ _ _ _ _ _ _ ?_
  unfold valid_Valid_body.V2
  refine cond_false' rfl (cond_intro (fun h => ?_) (fun h => ?_))
  · have h : g ≠ 64 := by simpa using h
    have e : giveV pc g o k = if o.length < 10 then .next (g :: o) k else .done pc 28 o k := by unfold giveV; rw [if_neg h]
    rw [e] at hN hD
    refine RunsQ.post (push_spec V g) ?_
    rintro v w2 ⟨rfl, V2, S2⟩
    have T2 := S.trans (S2.mono S.size (by simp))
    refine ⟨_, rfl, ?_⟩
    by_cases hl : o.length < 10
    · rw [if_pos hl] at hN hD V2
      rw [decide_eq_true hl]
      exact cond_false' rfl (hN _ _ _ rfl V2 T2)
    · rw [if_neg hl] at hN hD V2
      rw [decide_eq_false hl]
      exact cond_true' rfl (hD _ _ _ _ _ rfl V2 T2)
  · have h : g = 64 := by simpa using h
    have e : giveV pc g o k = .next o k := by unfold giveV; rw [if_pos h]
    rw [e] at hN
    exact hN _ _ _ rfl V S

theorem opn_walk (c : BC wd w0 w L mb m P vb o f r i fb xb pc) (hN : KN w0 mb vb i fb pc ps R (fun _ _ => False) (opnV ((P.fn i).ins pc) pc o f r)) (hD : KD w0 vb R (opnV ((P.fn i).ins pc) pc o f r)) :
    valid_Valid_body.L5 (some ⟨vb, 0, none⟩) (some ⟨mb, 0, none⟩) (some ⟨fb, i * 4, none⟩) ps (pc : Int) xb 64 0 R (fun _ _ => False) w := by
  have hp := c.hp; have hI := c.fn.nI
  have kl := c.C.v.kl; have ol := c.C.v.ol
  rw [List.length_cons] at kl
  refine valid_Valid_body.step5 _ _ _ _ _ _ _ _ _ _ _ ?_
  unfold valid_Valid_body.V5
  simp only [true_and, nilV_some, Nat.zero_add]
  refine ⟨_, c.C.v.d, cond_intro (fun h => ?_) (fun h => ?_)⟩
  · have h : 6 < r.length + 1 := by have := of_decide_eq_true h; simp at this; omega
    have e : opnV ((P.fn i).ins pc) pc o f r = .done (pc + 1) 11 o (f :: r) := by unfold opnV; rw [if_pos h]
    rw [e] at hD
    have := hD _ _ _ _ _ rfl c.C.v c.S
    rw [wrap_i64 (by omega) (by omega)]; exact this
  · have h : ¬ 6 < r.length + 1 := by have := of_decide_eq_false h; simp at this; omega
    have e : opnV ((P.fn i).ins pc) pc o f r = .next o (⟨((P.fn i).ins pc).op, IntKind.wrap .u8 ((P.fn i).ins pc).x, o.length, false⟩ :: f :: r) := by unfold opnV; rw [if_neg h]
    rw [e] at hN
    have D := c.C.v.drew
    refine ⟨_, D.d, _, c.I.drew.c0, _, c.I.drew.c1, _, D.h, ⟨by simp; omega, by simp; omega⟩, ?_⟩
    rw [Int.toNat_natCast, add_mk]
    refine putCells_intro vb _ _ _ _ (fun j hj => ?_) (fun w10 hF => ?_)
    · refine D.can _ ?_
      have hj : j < 4 := hj
      simp; omega
    have V14 := D.pushFr (by simp; omega) ⟨((P.fn i).ins pc).op, IntKind.wrap .u8 ((P.fn i).ins pc).x, o.length, false⟩ hF
    have c40 : w10.cell? ⟨vb, 40, none⟩ = some (.int .i64 (((f :: r).length : Nat) : Int)) := by rw [hF.cell, if_neg (by simp; omega)]; exact D.d
    refine ⟨_, c40, ⟨⟨_, c40⟩, by rw [hF.frozen]; exact D.f 40⟩, letW_intro fun w14 hw => ?_⟩
    have e2 : IntKind.wrap .i64 ((((f :: r).length : Nat) : Int) + 1) = (((f :: r).length + 1 : Nat) : Int) := by rw [wrap_i64 (by simp; omega) (by simp; omega)]; simp
    rw [e2] at hw
    rw [hw]
    have S14 : Same [vb] w0.heap.size w0 (w10.setCell ⟨vb, 40, none⟩ (.int .i64 (((f :: r).length + 1 : Nat) : Int))) := (c.S.drew.trans (hF.same _)).setCell (.inr (by simp)) _
    refine give_walk V14 S14 64 (fun w' o' k' h1 h2 h3 => ?_) (fun w' p e' o' k' h1 h2 h3 => ?_)
    · have h1 : SR.next _ _ = SR.next o' k' := h1
      exact hN w' o' k' h1 h2 h3
    · exact absurd h1 (fun g => by have g : SR.next _ _ = SR.done p e' o' k' := g; cases g)

theorem blk_walk (c : BC wd w0 w L mb m P vb o f r i fb xb pc) (t65 : Int) (hN : KN w0 mb vb i fb pc ps R (fun _ _ => False) (blkV ((P.fn i).ins pc) pc o f r)) (hD : KD w0 vb R (blkV ((P.fn i).ins pc) pc o f r)) :
    valid_Valid_body.L3 (some ⟨vb, 0, none⟩) (some ⟨mb, 0, none⟩) (some ⟨fb, i * 4, none⟩) ps (pc : Int) xb 64 0 t65 true R (fun _ _ => False) w := by
  refine valid_Valid_body.step3 _ _ _ _ _ _ _ _ _ _ _ _ _ ?_
  unfold valid_Valid_body.V3
  refine cond_true' rfl ⟨_, c.I.c0, cond_intro (fun h => ?_) (fun h => ?_)⟩
  · have h : ((P.fn i).ins pc).op = 4 := eq_of_beq h
    have e : blkV ((P.fn i).ins pc) pc o f r = if carB 127 f o = true then opnV ((P.fn i).ins pc) pc (carO 127 f o) f r else .done pc 27 (carO 127 f o) (f :: r) := by unfold blkV; rw [if_pos h]
    rw [e] at hN hD
    refine RunsQ.post (carry_spec c.C.v c.C.hf 127) ?_
    rintro v w3 ⟨rfl, V3, S3⟩
    have c3 := c.step S3 V3 (carO_len 127 f o c.C.hf).1
    refine ⟨_, rfl, ?_⟩
    cases hb : carB 127 f o
    · rw [hb, if_neg (by decide)] at hD
      exact cond_true' rfl (hD _ _ _ _ _ rfl V3 c3.S)
    · rw [hb, if_pos rfl] at hN hD
      exact cond_false' rfl (opn_walk c3 hN hD)
  · have h : ¬ ((P.fn i).ins pc).op = 4 := by simpa using h
    have e : blkV ((P.fn i).ins pc) pc o f r = opnV ((P.fn i).ins pc) pc o f r := by unfold blkV; rw [if_neg h]
    rw [e] at hN hD
    exact opn_walk c hN hD

theorem els_walk (c : BC wd w0 w L mb m P vb o f r i fb xb pc) (hN : KN w0 mb vb i fb pc ps R (fun _ _ => False) (elsV pc o f r)) (hD : KD w0 vb R (elsV pc o f r)) :
    valid_Valid_body.L3 (some ⟨vb, 0, none⟩) (some ⟨mb, 0, none⟩) (some ⟨fb, i * 4, none⟩) ps (pc : Int) xb 64 0 5 false R (fun _ _ => False) w := by
  have hp := c.hp; have hI := c.fn.nI
  have kl := c.C.v.kl
  rw [List.length_cons] at kl
  refine valid_Valid_body.step3 _ _ _ _ _ _ _ _ _ _ _ _ _ ?_
  unfold valid_Valid_body.V3
  refine cond_false' rfl (cond_true' rfl (RunsQ.post (settled_spec c.C.v c.C.hf) ?_))
  rintro v w13 ⟨rfl, V13, S13⟩
  have c3 := c.step S13 V13 (carO_len f.res f o c.C.hf).1
  have hs : (carB f.res f o && decide ((carO f.res f o).length = f.fl)) = setl f o := rfl
  rw [hs]
  unfold elsV at hN hD
  refine ⟨_, rfl, ?_⟩
  cases hb : setl f o
  · rw [hb, if_neg (by decide)] at hD
    exact cond_true' rfl (hD _ _ _ _ _ rfl V13 c3.S)
  rw [hb, if_pos rfl] at hN hD
  refine cond_false' rfl ?_
  simp only [true_and, nilV_some, Nat.zero_add]
  refine ⟨_, V13.d, cond_intro (fun h => ?_) (fun h => ?_)⟩
  · have h : r.length = 0 := by have := eq_of_beq h; rw [List.length_cons] at this; omega
    rw [if_pos h] at hD
    have := hD _ _ _ _ _ rfl V13 c3.S
    rw [wrap_i64 (by omega) (by omega)]; exact this
  · have h : ¬ r.length = 0 := fun g => by
      have h : ¬ (((f :: r).length : Nat) : Int) = 1 := by simpa using h
      simp [g] at h
    rw [if_neg h] at hN hD
    have D := V13.drew
    have e1 : IntKind.wrap .i64 ((((f :: r).length : Nat) : Int) - 1) = (r.length : Int) := pred_i64 r.length (by omega)
    refine ⟨_, D.d, ?_⟩
    rw [e1]
    simp only [add_mk, Int.toNat_natCast]
    refine ⟨⟨by omega, by omega⟩, _, D.f0 _ f (rev_top f r), cond_intro (fun h4 => ?_) (fun h4 => ?_)⟩
    · have h4 : ¬ f.op = 4 := by simpa using h4
      rw [if_neg h4] at hD
      exact hD _ _ _ _ _ rfl D c3.S.drew
    · have h4 : f.op = 4 := by simpa using h4
      rw [if_pos h4] at hN
      refine ⟨D.can _ (by omega), letW_intro fun w21 hw => ?_⟩
      have V21 : VAt w21 vb (carO f.res f o) ({ f with op := 5 } :: r) := by rw [hw]; exact D.setOp 5
      have S21 : Same [vb] w0.heap.size w0 w21 := by rw [hw]; exact c3.S.drew.setCell (.inr (by simp)) _
      clear hw
      refine ⟨V21.can _ (by omega), letW_intro fun w22 hw => ?_⟩
      rw [hw]
      refine give_walk (V21.setDead false) (S21.setCell (.inr (by simp)) _) 64 (fun w' o' k' h1 h2 h3 => ?_) (fun w' p e' o' k' h1 h2 h3 => ?_)
      · have h1 : SR.next _ _ = SR.next o' k' := h1
        exact hN w' o' k' h1 h2 h3
      · exact absurd h1 (fun g => by have g : SR.next _ _ = SR.done p e' o' k' := g; cases g)

theorem end_walk (c : BC wd w0 w L mb m P vb o f r i fb xb pc) (hN : KN w0 mb vb i fb pc ps R (fun _ _ => False) (endV (P.fn i).nI pc o f r)) (hD : KD w0 vb R (endV (P.fn i).nI pc o f r)) :
    valid_Valid_body.L3 (some ⟨vb, 0, none⟩) (some ⟨mb, 0, none⟩) (some ⟨fb, i * 4, none⟩) ps (pc : Int) xb 64 0 11 false R (fun _ _ => False) w := by
  have hp := c.hp; have hI := c.fn.nI
  have kl := c.C.v.kl
  rw [List.length_cons] at kl
  refine valid_Valid_body.step3 _ _ _ _ _ _ _ _ _ _ _ _ _ ?_
  unfold valid_Valid_body.V3
  refine cond_false' rfl (cond_false' rfl (cond_true' rfl (RunsQ.post (settled_spec c.C.v c.C.hf) ?_)))
  rintro v w13 ⟨rfl, V13, S13⟩
  have c3 := c.step S13 V13 (carO_len f.res f o c.C.hf).1
  have hs : (carB f.res f o && decide ((carO f.res f o).length = f.fl)) = setl f o := rfl
  rw [hs]
  unfold endV at hN hD
  refine ⟨_, rfl, ?_⟩
  cases hb : setl f o
  · rw [hb, if_neg (by decide)] at hD
    exact cond_true' rfl (hD _ _ _ _ _ rfl V13 c3.S)
  rw [hb, if_pos rfl] at hN hD
  refine cond_false' rfl ?_
  simp only [true_and, nilV_some, Nat.zero_add]
  have D := V13.drew
  have cD := c3.drew
  have e1 : IntKind.wrap .i64 ((((f :: r).length : Nat) : Int) - 1) = (r.length : Int) := pred_i64 r.length (by omega)
  refine ⟨_, D.d, ?_⟩
  rw [e1]
  simp only [add_mk, Int.toNat_natCast]
  refine ⟨⟨by omega, by omega⟩, _, D.f0 _ f (rev_top f r), ?_⟩
  have L6 : ∀ tt : Bool, (tt = true ↔ f.op = 4 ∧ f.res ≠ 64) → valid_Valid_body.L6 (some ⟨vb, 0, none⟩) (some ⟨mb, 0, none⟩) (some ⟨fb, i * 4, none⟩) ps (pc : Int) 0 (some ⟨vb, 12 + r.length * 4, none⟩) tt R (fun _ _ => False) w13.drew := fun tt htt => by
    refine valid_Valid_body.step6 _ _ _ _ _ _ _ _ _ _ _ ?_
    unfold valid_Valid_body.V6
    refine cond_intro (fun h => ?_) (fun h => ?_)
    · rw [if_pos (htt.1 h)] at hD
      exact hD _ _ _ _ _ rfl D cD.S
    · rw [if_neg (fun g => by rw [htt.2 g] at h; cases h)] at hN hD
      simp only [nilV_some, Nat.zero_add]
      refine ⟨_, D.f1 _ f (rev_top f r), _, D.d, D.can 40 (by decide), letW_intro fun w6 hw => ?_⟩
      rw [e1] at hw
      have V6 : VAt w6 vb (carO f.res f o) r := by rw [hw]; exact D.popFr
      have S6 : Same [vb] w13.drew.heap.size w13.drew w6 := by rw [hw]; exact (Same.refl _ _ _).setCell (.inr (by simp)) _
      have T6 := cD.S.trans (S6.mono cD.S.size (by simp))
      clear hw
      refine ⟨_, V6.d, cond_intro (fun h0 => ?_) (fun h0 => ?_)⟩
      · have h0 : r.length = 0 := by have := eq_of_beq h0; omega
        rw [if_pos h0] at hD
        have H6 := cD.C.hm.at1 S6 cD.C.lv
        obtain ⟨nb, b1, _⟩ := (c.row w6 H6).c2 i c.hi
        refine ⟨_, _, _, b1, ?_⟩
        rw [wrap_i64 (by omega) (by omega)]
        refine cond_intro (fun h1 => ?_) (fun h1 => ?_)
        · have h1 : ¬ ((pc : Int) + 1 = ((P.fn i).nI : Int)) := by simpa using h1
          rw [if_neg h1] at hD
          exact hD _ _ _ _ _ rfl V6 T6
        · have h1 : (pc : Int) + 1 = ((P.fn i).nI : Int) := by simpa using h1
          rw [if_pos h1] at hD
          exact hD _ _ _ _ _ rfl V6 T6
      · have h0 : ¬ r.length = 0 := by
          have : ¬ ((r.length : Nat) : Int) = 0 := by simpa using h0
          omega
        rw [if_neg h0] at hN hD
        exact give_walk V6 T6 f.res hN hD
  refine cond_intro (fun h => ⟨_, D.f1 _ f (rev_top f r), L6 _ ?_⟩) (fun h => L6 false ?_)
  · have h : f.op = 4 := eq_of_beq h
    constructor
    · intro g; exact ⟨h, by simpa using g⟩
    · intro g; simpa using g.2
  · have h : ¬ f.op = 4 := by simpa using h
    constructor
    · intro g; cases g
    · intro g; exact absurd g.1 h
end
end Go.Proofs.Qxb6500321a
