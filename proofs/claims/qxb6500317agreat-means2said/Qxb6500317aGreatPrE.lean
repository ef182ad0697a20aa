/-
  The compiler in memory: branches, tables, plain instructions.
-/
import Derived.Test.Qxb6500317aGreatPrD
set_option linter.unusedSimpArgs false
set_option linter.unusedVariables false
set_option maxRecDepth 100000
set_option linter.unusedSectionVars false
namespace Go.Proofs.Qxb6500317aGreat
open Go Go.Vc

section
variable {wd w w' : World} {L mb : Nat} {m : Nat → Value} {P : PM} {pb cb : Nat} {cells : List Ins} {hg : Nat} {k : List CT} {h : Int} {dead : Nat} {c : CT} {r : List CT}

/-- The frame at place n, counted from the body. -/
theorem PA.fr (p : PA w pb cb cells hg k h dead) {l : Nat} {g : CT} (hg' : k[l]? = some g) (q : Nat) (v : Value) (hv : (ctC g)[q]? = some v) : w.cell? ⟨pb, 2 + (k.length - 1 - l) * 7 + q, none⟩ = some v := by
  have hl := get_ltA hg'
  refine p.t (k.length - 1 - l) g ?_ q v hv
  rw [rev_at k hl]; exact hg'
theorem PA.setPt (p : PA w pb cb cells hg k h dead) {l : Nat} {g : CT} (hg' : k[l]? = some g) (n : Nat) : PA (w.setCell ⟨pb, 2 + (k.length - 1 - l) * 7 + 4, none⟩ (.int .i64 (n : Int))) pb cb cells hg (k.set l { g with pt := n }) h dead := by
  have hl := get_ltA hg'
  have := p.setF (n := k.length - 1 - l) (c := g) (c' := { g with pt := n }) (by rw [rev_at k hl]; exact hg') 4 (by decide) (.int .i64 (n : Int)) (fun j u hu => by
    rcases j with _ | _ | _ | _ | _ | _ | _ | j <;> simp_all [ctC])
  rwa [show k.length - 1 - (k.length - 1 - l) = l by omega] at this

theorem branch_spec (p : PA w pb cb cells hg k h dead) (hl : cells.length < 121) {l : Nat} {g : CT} (hk : k[l]? = some g) (hf : g.fl ≤ 1000) (ha : g.ar ≤ 1024) (hs : g.op = 3 → 1 ≤ g.st ∧ g.st ≤ 1000) (hp : g.pt ≤ 1000) (op : Int) :
    Runs Tryz.prog prep_Prep_branch.id #[rp pb, .int .u8 op, .int .i64 (l : Int)] w (PQ w pb cb hg (.tuple #[]) (branchP op l ⟨cells, k, h, dead⟩)) := by
  have kl := p.kl
  have hlk := get_ltA hk
  generalize hz : branchP op l ⟨cells, k, h, dead⟩ = z
  unfold branchP at hz
  dsimp only at hz
  rw [hk] at hz
  dsimp only at hz
  have ew : IntKind.wrap .i64 (IntKind.wrap .i64 ((k.length : Int) - 1) - (l : Int)) = ((k.length - 1 - l : Nat) : Int) := by
    rw [wrap_i64 (x := (k.length : Int) - 1) (by omega) (by omega), wrap_i64 (by omega) (by omega)]; omega
  refine prep_Prep_branch.enter _ _ _ _ _ _ ?_
  unfold prep_Prep_branch.V
  simp only [nilV_some, Nat.zero_add]
  refine ⟨_, p.d, ?_⟩
  rw [ew]
  simp only [add_mk, Int.toNat_natCast]
  refine ⟨⟨by omega, by omega⟩, _, _, _, _, _, _, _, p.fr hk 0 _ rfl, p.fr hk 1 _ rfl, p.fr hk 2 _ rfl, p.fr hk 3 _ rfl, p.fr hk 4 _ rfl, p.fr hk 5 _ rfl, p.fr hk 6 _ rfl, letB_intro fun fb hb => letW_intro fun w1 hw => ?_⟩
  refine ct_copy hb hw (fun w2 F2 S2' => ?_)
  have lpb := p.lt; have lcb := p.B.lt
  have p2 := p.keep S2'
  clear hw
  refine ⟨_, F2.c0, cond_intro (fun e => ?_) (fun e => ?_)⟩
  · have e : g.op = 3 := eq_of_beq e
    obtain ⟨s1, s2⟩ := hs e
    rw [if_pos e] at hz
    refine ⟨_, F2.c1, RunsQ.post (api_Pack.pure _ _ _) ?_⟩
    rintro v w3 ⟨rfl, rfl⟩
    refine ⟨_, rfl, ?_⟩
    have hpk := pack_eq 0 g.fl (by omega) (by omega)
    rw [Int.natCast_zero, Int.zero_mul, Int.zero_add] at hpk
    rw [hpk]
    have p3 := p2.drew
    have F3 := F2.drew
    have S3 : Same [] w.heap.size w w3.drew := S2'.drew
    have es : IntKind.wrap .u32 (IntKind.wrap .i64 ((g.st : Int) - 1)) = ((g.st - 1 : Nat) : Int) := by
      rw [wrap_i64 (by omega) (by omega), wrap_u32 (by omega) (by omega)]; omega
    have fin : ∀ w4, PA w4 pb cb (cells ++ [⟨op, ((g.st - 1 : Nat) : Int), (g.fl : Int)⟩]) hg k h dead → Same [pb, cb] w3.drew.heap.size w3.drew w4 → PQ w pb cb hg (.tuple #[]) z (.tuple #[]) w4 := fun w4 p4 S4 => by
      rw [← hz]
      exact ⟨rfl, p4, (S2 pb cb S3).nx S4⟩
    clear p2 F2 p
    repeat' first
      | exact trivial
      | exact emit_inT p3 hl ⟨_, _, _⟩ (by assumption) (by assumption) fin
      | refine ⟨_, _, _, p3.s, ?_⟩
      | refine ⟨_, F3.c3, ?_⟩
      | (rw [es]
         refine letB_intro fun b hb => letW_intro fun w' hw => ?_
         have pa := (p3.al hw).1
         have Fa := F3.same (p3.al hw).2 F3.lt (by simp))
      | refine ⟨_, _, _, PA.s (by assumption), ?_⟩
      | refine nilV_inA ?_
      | refine And.intro ?_ ?_
  · have e : ¬ g.op = 3 := by simpa using e
    rw [if_neg e] at hz
    refine ⟨_, F2.c2, _, F2.c1, RunsQ.post (api_Pack.pure _ _ _) ?_⟩
    rintro v w3 ⟨rfl, rfl⟩
    refine ⟨_, rfl, ?_⟩
    rw [pack_eq g.ar g.fl (by omega) (by omega)]
    simp only [true_and]
    have p3 := p2.drew
    refine ⟨_, _, _, p3.s, ⟨by omega, by omega⟩, p3.can _ (by omega), letW_intro fun w4 hw4 => ?_⟩
    have p4 : PA w4 pb cb cells hg (k.set l { g with pt := cells.length }) h dead := by rw [hw4]; exact p3.setPt hk _
    have S4 : Same [pb, cb] w3.heap.size w3 w4 := by rw [hw4]; exact (Same.refl _ _ _).drew.setCell (.inr (by simp)) _
    have F4 : CtAt w4 fb g := F2.same S4 F2.lt (by simp; omega)
    have p5 := p4.drew
    have F5 := F4.drew
    have S5 : Same [pb, cb] w.heap.size w w4.drew := ((S2 pb cb S2').nx S4).drew
    have es : IntKind.wrap .u32 (g.pt : Int) = (g.pt : Int) := wrap_u32 (by omega) (by omega)
    have fin : ∀ w6, PA w6 pb cb (cells ++ [⟨op, (g.pt : Int), (g.ar : Int) * 4294967296 + g.fl⟩]) hg (k.set l { g with pt := cells.length }) h dead → Same [pb, cb] w4.drew.heap.size w4.drew w6 → PQ w pb cb hg (.tuple #[]) z (.tuple #[]) w6 := fun w6 p6 S6 => by
      rw [← hz]
      exact ⟨rfl, p6, S5.nx S6⟩
    clear p2 F2 p p3 p4 F4
    repeat' first
      | exact trivial
      | exact emit_inT p5 hl ⟨_, _, _⟩ (by assumption) (by assumption) fin
      | refine ⟨_, _, _, p5.s, ?_⟩
      | refine ⟨_, F5.c4, ?_⟩
      | (rw [es]
         refine letB_intro fun b hb => letW_intro fun w' hw => ?_
         have pa := (p5.al hw).1
         have Fa := F5.same (p5.al hw).2 F5.lt (by simp))
      | refine ⟨_, _, _, PA.s (by assumption), ?_⟩
      | refine nilV_inA ?_
      | refine And.intro ?_ ?_

theorem br_spec (p : PA w pb cb cells hg (c :: r) h dead) (hl : cells.length < 121) (h0 : 0 ≤ h) (h1 : h ≤ 1000) (x : Ins) (hx : InsIn x)
    (hf : ∀ (l : Nat) (g : CT), (c :: r)[l]? = some g → g.fl ≤ 1000 ∧ g.ar ≤ 1024 ∧ (g.op = 3 → 1 ≤ g.st ∧ g.st ≤ 1000) ∧ g.pt ≤ 1000) (ho : x.op = 12 ∨ x.op = 13) :
    Runs Tryz.prog prep_Prep_br.id #[rp pb, .agg #[.int .u8 x.op, .int .u32 x.x, .int .u64 x.y]] w (PQ w pb cb hg (.bool (cbrP x ⟨cells, c :: r, h, dead⟩).1) (cbrP x ⟨cells, c :: r, h, dead⟩).2) := by
  obtain ⟨o0, o1, x0, x1, y0, y1⟩ := hx
  have kl := p.kl
  rw [List.length_cons] at kl
  generalize hz : cbrP x ⟨cells, c :: r, h, dead⟩ = z
  unfold cbrP at hz
  dsimp only at hz
  refine prep_Prep_br.enter _ _ _ _ _ _ _ ?_
  unfold prep_Prep_br.V
  refine letB_intro fun b hb => letW_intro fun w1 hw => ?_
  obtain ⟨I1, S1⟩ := ins_made hb hw
  have p1 := p.keep S1
  have lpb := p.lt; have lcb := p.B.lt
  clear hw
  simp only [nilV_some, Nat.zero_add]
  generalize hh : h - (if x.op = 13 then 1 else 0) = h' at hz
  have hh0 : -1 ≤ h' ∧ h' ≤ 1000 := by subst hh; split <;> omega
  have L1 : ∀ w2, PA w2 pb cb cells hg (c :: r) h' dead → InsAt w2 b x → Same [pb, cb] w.heap.size w w2 → prep_Prep_br.L1 (some ⟨pb, 0, none⟩) b (PQ w pb cb hg (.bool z.1) z.2) (fun _ _ => False) w2 := fun w2 p2 I2 S2' => by
    refine prep_Prep_br.step1 _ _ _ _ _ ?_
    unfold prep_Prep_br.V1
    simp only [true_and, nilV_some, Nat.zero_add]
    have p3 := p2.drew
    have I3 := I2.drew
    have S3 : Same [pb, cb] w.heap.size w w2.drew := S2'.drew
    refine ⟨_, I3.c1, _, p3.d, ?_⟩
    rw [wrap_u64 (x := x.x) (by omega) (by omega), wrap_u64 (x := (((c :: r).length : Nat) : Int)) (by omega) (by simp; omega)]
    refine cond_intro (fun e => ?_) (fun e => ?_)
    · have e : (((c :: r).length : Nat) : Int) ≤ x.x := of_decide_eq_true e
      rw [if_pos (.inl e)] at hz
      rw [← hz]
      exact ⟨rfl, p3, S3⟩
    have e : ¬ (((c :: r).length : Nat) : Int) ≤ x.x := of_decide_eq_false e
    have ew : IntKind.wrap .i64 (((c :: r).length : Int) - 1) = (r.length : Int) := by rw [List.length_cons, wrap_i64 (by omega) (by omega)]; omega
    refine ⟨_, p3.hh, _, p3.d, ?_⟩
    rw [ew]
    simp only [add_mk, Int.toNat_natCast]
    refine ⟨⟨by omega, by omega⟩, _, p3.top 1 _ rfl, cond_intro (fun e2 => ?_) (fun e2 => ?_)⟩
    · have e2 : h' < (c.fl : Int) := of_decide_eq_true e2
      rw [if_pos (.inr e2)] at hz
      rw [← hz]
      exact ⟨rfl, p3, S3⟩
    have e2 : ¬ h' < (c.fl : Int) := of_decide_eq_false e2
    rw [if_neg (fun q => q.elim e e2)] at hz
    obtain ⟨l, hxl⟩ := Int.eq_ofNat_of_zero_le x0
    have hll : l < (c :: r).length := by omega
    obtain ⟨g, hgl⟩ : ∃ g, (c :: r)[l]? = some g := ⟨_, List.getElem?_eq_getElem hll⟩
    obtain ⟨f1, f2, f3, f4⟩ := hf l g hgl
    refine prep_Prep_br.step2 _ _ _ _ _ ?_
    unfold prep_Prep_br.V2
    simp only [nilV_some, Nat.zero_add]
    refine ⟨_, I3.c0, _, I3.c1, ?_⟩
    rw [wrap_i64 (x := x.x) (by omega) (by omega), hxl]
    refine RunsQ.post (branch_spec p3 hl hgl f1 f2 f3 f4 x.op) ?_
    rintro v w4 ⟨rfl, p4, S4⟩
    have lb := I3.lt
    have I4 := I3.same S4 lb (by simp; omega)
    have S5 := S3.nx S4
    rw [hxl, Int.toNat_natCast] at hz
    refine ⟨rfl, _, I4.c0, cond_intro (fun q => ?_) (fun q => ?_)⟩
    · have q : x.op = 12 := eq_of_beq q
      rw [if_pos q] at hz
      refine ⟨p4.can 53 (by decide), letW_intro fun w5 hw5 => ?_⟩
      rw [← hz]
      refine ⟨rfl, by rw [hw5]; exact p4.setD 1, S5.nx (by rw [hw5]; exact Same.pset _ _ _ _ _)⟩
    · have q : ¬ x.op = 12 := by simpa using q
      rw [if_neg q] at hz
      rw [← hz]
      refine ⟨rfl, ?_, S5⟩
      have ed : (branchP x.op l ⟨cells, c :: r, h', dead⟩).dead = dead := by
        unfold branchP
        dsimp only
        rw [hgl]
        dsimp only
        split <;> rfl
      have := p4
      rw [ed] at this
      exact this
  refine ⟨_, I1.c0, cond_intro (fun e => ?_) (fun e => ?_)⟩
  · have e : x.op = 13 := eq_of_beq e
    rw [if_pos e] at hh
    refine ⟨_, p1.hh, p1.can 52 (by decide), letW_intro fun w2 hw2 => ?_⟩
    rw [wrap_i64 (by omega) (by omega), hh] at hw2
    have S12 : Same [pb, cb] w1.heap.size w1 w2 := by rw [hw2]; exact Same.pset _ _ _ _ _
    have lb := I1.lt
    exact L1 w2 (by rw [hw2]; exact p1.setH _) (I1.same S12 lb (by simp; omega)) ((S2 pb cb S1).nx S12)
  · have e : ¬ x.op = 13 := by simpa using e
    rw [if_neg e, Int.sub_zero] at hh
    subst hh
    exact L1 w1 p1 I1 (S2 pb cb S1)

theorem cplain_spec (H : HM wd w L mb m P) (B : PB P) (p : PA w pb cb cells hg (c :: r) h dead) (hl : cells.length < 121) (h0 : 0 ≤ h) (h1 : h ≤ 1000) (hfl : c.fl ≤ 1000) (x : Ins) (hx : InsIn x)
    (hb : ∀ a g, effP P x = some (a, g) → a ≤ 2000 ∧ g ≤ 2000) :
    Runs Tryz.prog prep_Prep_plain.id #[rp pb, rp mb, .agg #[.int .u8 x.op, .int .u32 x.x, .int .u64 x.y]] w (PQ w pb cb hg (.bool (plainP (effP P) x ⟨cells, c :: r, h, dead⟩).1) (plainP (effP P) x ⟨cells, c :: r, h, dead⟩).2) := by
  have kl := p.kl
  rw [List.length_cons] at kl
  generalize hz : plainP (effP P) x ⟨cells, c :: r, h, dead⟩ = z
  unfold plainP at hz
  dsimp only at hz
  refine prep_Prep_plain.enter _ _ _ _ _ _ _ _ ?_
  unfold prep_Prep_plain.V
  refine letB_intro fun b hb' => letW_intro fun w1 hw => ?_
  obtain ⟨I1, S1⟩ := ins_made hb' hw
  have p1 := p.keep S1
  have lpb := p.lt; have lcb := p.B.lt
  have H1 := H.keep S1
  clear hw
  refine ⟨_, _, _, I1.c0, I1.c1, I1.c2, RunsQ.post (effect_spec H1 B x hx) ?_⟩
  rintro v w2 ⟨hv, S12⟩
  have p2 := p1.keep S12
  have I2 := I1.same S12 I1.lt (by simp)
  have S02 := S2 pb cb (S1.nx S12)
  cases he : effP P x with
  | none =>
    rw [he] at hv hz
    obtain ⟨t, g, rfl⟩ := hv
    refine ⟨_, _, _, rfl, cond_true' rfl ?_⟩
    rw [← hz]
    exact ⟨rfl, p2, S02⟩
  | some ag =>
    obtain ⟨a, g⟩ := ag
    obtain ⟨b1, b2⟩ := hb a g he
    rw [he] at hv hz
    have hv : v = .tuple #[.int .i64 (a : Int), .int .i64 (g : Int), .bool true] := hv
    subst hv
    dsimp only at hz
    refine ⟨_, _, _, rfl, cond_false' rfl ?_⟩
    simp only [true_and, nilV_some, Nat.zero_add]
    have p3 := p2.drew
    have S03 : Same [pb, cb] w.heap.size w w2.drew := S02.drew
    have ew : IntKind.wrap .i64 (((c :: r).length : Int) - 1) = (r.length : Int) := by rw [List.length_cons, wrap_i64 (by omega) (by omega)]; omega
    refine ⟨_, p2.hh, _, p3.d, ?_⟩
    rw [ew, wrap_i64 (x := h - (a : Int)) (by omega) (by omega), wrap_i64 (x := h - (a : Int) + (g : Int)) (by omega) (by omega)]
    simp only [add_mk, Int.toNat_natCast]
    refine ⟨⟨by omega, by omega⟩, _, p3.top 1 _ rfl, cond_intro (fun e => ?_) (fun e => ?_)⟩
    · have e : h - (a : Int) < (c.fl : Int) := of_decide_eq_true e
      rw [if_pos (.inl e)] at hz
      rw [← hz]
      exact ⟨rfl, p3, S03⟩
    have e : ¬ h - (a : Int) < (c.fl : Int) := of_decide_eq_false e
    refine cond_intro (fun e2 => ?_) (fun e2 => ?_)
    · have e2 : h - (a : Int) + (g : Int) > 10 := of_decide_eq_true e2
      rw [if_pos (.inr e2)] at hz
      rw [← hz]
      exact ⟨rfl, p3, S03⟩
    have e2 : ¬ h - (a : Int) + (g : Int) > 10 := of_decide_eq_false e2
    rw [if_neg (fun q => q.elim e e2)] at hz
    refine prep_Prep_plain.step1 _ _ _ _ _ _ _ ?_
    unfold prep_Prep_plain.V1
    simp only [nilV_some, Nat.zero_add]
    refine ⟨p3.can 52 (by decide), letW_intro fun w4 hw4 => ?_⟩
    rw [wrap_i64 (x := h - (a : Int) + (g : Int)) (by omega) (by omega)] at hw4
    have p4 : PA w4 pb cb cells hg (c :: r) (h - (a : Int) + (g : Int)) dead := by rw [hw4]; exact p3.setH _
    have S34 : Same [pb, cb] w2.heap.size w2 w4 := by rw [hw4]; exact (Same.refl _ _ _).drew.setCell (.inr (by simp)) _
    have lb := I2.lt
    have lb1 := S1.size
    have nb : b ∉ [pb, cb] := by simp; omega
    have I4 : InsAt w4 b x := I2.same S34 lb nb
    have p5 := p4.drew
    have I5 := I4.drew
    have S05 : Same [pb, cb] w.heap.size w w4.drew := (S02.nx S34).drew
    have fin : ∀ w6, PA w6 pb cb (cells ++ [x]) hg (c :: r) (h - (a : Int) + (g : Int)) dead → Same [pb, cb] w4.drew.heap.size w4.drew w6 →
        (∃ x49 : Int, World.cell? w6 ⟨b, 0, none⟩ = some (.int .u8 x49) ∧ (cond (x49 == (0 : Int))
          (can w6 ⟨pb, 53, none⟩ ∧ letW (World.setCell w6 ⟨pb, 53, none⟩ (.int .i64 1)) fun w51 => (PQ w pb cb hg (.bool z.1) z.2 (.bool true) w51))
          (PQ w pb cb hg (.bool z.1) z.2 (.bool true) w6))) := fun w6 p6 S6 => by
      have I6 := I5.same S6 I5.lt nb
      refine ⟨_, I6.c0, cond_intro (fun q => ?_) (fun q => ?_)⟩
      · have q : x.op = 0 := eq_of_beq q
        rw [if_pos q] at hz
        refine ⟨p6.can 53 (by decide), letW_intro fun w7 hw7 => ?_⟩
        rw [← hz]
        exact ⟨rfl, by rw [hw7]; exact p6.setD 1, (S05.nx S6).nx (by rw [hw7]; exact Same.pset _ _ _ _ _)⟩
      · have q : ¬ x.op = 0 := by simpa using q
        rw [if_neg q] at hz
        rw [← hz]
        exact ⟨rfl, p6, S05.nx S6⟩
    clear p1 p2 p3 p4 p I1 I2 I4 hv
    repeat' first
      | exact trivial
      | exact emit_inT p5 hl x (by assumption) (by assumption) fin
      | refine ⟨_, _, _, p5.s, ?_⟩
      | refine ⟨_, _, _, I5.c0, I5.c1, I5.c2, ?_⟩
      | (refine letB_intro fun b' hb' => letW_intro fun w' hw => ?_
         have pa := (p5.al hw).1)
      | refine ⟨_, _, _, PA.s (by assumption), ?_⟩
      | refine nilV_inA ?_
      | refine And.intro ?_ ?_
end
end Go.Proofs.Qxb6500317aGreat
