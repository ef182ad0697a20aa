/-
  The validator's stacks: pop, push and their kin.
-/
import Derived.Test.Qxb6500317aGreatVdA
set_option linter.unusedSimpArgs false
set_option linter.unusedVariables false
set_option maxRecDepth 100000
set_option linter.unusedSectionVars false
namespace Go.Proofs.Qxb6500317aGreat
open Go Go.Vc

theorem pred_i64 (n : Nat) (h : n ≤ 1000000) : IntKind.wrap .i64 (((n + 1 : Nat) : Int) - 1) = (n : Int) := by rw [wrap_i64 (by omega) (by omega)]; omega

/-! ### Plain -/
def popT (want : Int) (f : Fr) (o : List Int) : Int := if o.length = f.fl then want else match o with | [] => want | g :: _ => if g = 0 then want else g
def popB (want : Int) (f : Fr) (o : List Int) : Bool := if o.length = f.fl then f.dead else match o with | [] => true | g :: _ => g == 0 || (want == 0 || g == want)
def popO (f : Fr) (o : List Int) : List Int := if o.length = f.fl then o else o.tail
theorem popO_len (f : Fr) (o : List Int) (h : f.fl ≤ o.length) : f.fl ≤ (popO f o).length ∧ (popO f o).length ≤ o.length := by
  unfold popO
  split
  · omega
  · rw [List.length_tail]; omega
def carB (t : Int) (f : Fr) (o : List Int) : Bool := t == 64 || popB t f o
def carO (t : Int) (f : Fr) (o : List Int) : List Int := if t = 64 then o else popO f o
theorem carO_len (t : Int) (f : Fr) (o : List Int) (h : f.fl ≤ o.length) : f.fl ≤ (carO t f o).length ∧ (carO t f o).length ≤ o.length := by
  unfold carO
  split
  · omega
  · exact popO_len f o h
def popsF (s : ByteArray) (f : Fr) : Nat → List Int → Bool × List Int
  | 0, o => (true, o)
  | k + 1, o => if popB (byteAt s k) f o = true then popsF s f k (popO f o) else (false, popO f o)
theorem popsF_succ (s : ByteArray) (f : Fr) (k : Nat) (o : List Int) : popsF s f (k + 1) o = if popB (byteAt s k) f o = true then popsF s f k (popO f o) else (false, popO f o) := rfl
theorem popsF_len (s : ByteArray) (f : Fr) : ∀ k o, f.fl ≤ o.length → f.fl ≤ (popsF s f k o).2.length ∧ (popsF s f k o).2.length ≤ o.length
  | 0, o, h => ⟨h, Nat.le_refl _⟩
  | k + 1, o, h => by
    rw [popsF_succ]
    have := popO_len f o h
    split
    · have := popsF_len s f k (popO f o) (by omega); omega
    · exact this
def labT (k : List Fr) (l : Nat) : Int := match k[l]? with | some f => if f.op = 3 then 64 else f.res | none => 64
def fitB (t : Int) (f : Fr) (o : List Int) : Bool := t == 64 || (if o.length = f.fl then f.dead else match o with | [] => true | g :: _ => g == 0 || g == t)

def VR (w : World) (vb : Nat) (v0 : Value) (o : List Int) (k : List Fr) : Value → World → Prop := fun v w' => v = v0 ∧ VAt w' vb o k ∧ Same [vb] w.heap.size w w'

section
variable {w w' : World} {vb : Nat} {o : List Int} {f : Fr} {r k : List Fr}
theorem pop_spec (V : VAt w vb o (f :: r)) (hf : f.fl ≤ o.length) (want : Int) : Runs Tryz.prog valid_Valid_pop.id #[rp vb, .int .u8 want] w (VR w vb (.tuple #[.int .u8 (popT want f o), .bool (popB want f o)]) (popO f o) (f :: r)) := by
  have kl := V.kl; have ol := V.ol
  rw [List.length_cons] at kl
  refine valid_Valid_pop.enter _ _ _ _ _ ?_
  unfold valid_Valid_pop.V
  simp only [true_and, nilV_some, Nat.zero_add]
  have D := V.drew
  have D2 := D.drew
  have e1 : IntKind.wrap .i64 ((((f :: r).length : Nat) : Int) - 1) = (r.length : Int) := pred_i64 r.length (by omega)
  refine ⟨_, D.d, ?_⟩
  rw [e1]
  simp only [add_mk, Int.toNat_natCast]
  refine ⟨⟨by omega, by omega⟩, _, D2.h, _, D2.f2 _ f (rev_top f r), ?_⟩
  by_cases he : o.length = f.fl
  · refine cond_true' (by rw [he]; exact beq_self_eq_true _) ⟨_, D2.drew.f3 _ f (rev_top f r), ?_⟩
    refine ⟨?_, ?_, ?_⟩
    · unfold popT popB; rw [if_pos he, if_pos he]
    · unfold popO; rw [if_pos he]; exact D2.drew
    · exact (Same.refl _ _ _).drew.drew.drew
  · refine cond_false' (beq_eq_false_iff_ne.2 (by omega)) ⟨_, D2.h, D2.can 11 (by decide), letW_intro fun w13 hw => ?_⟩
    cases ho : o with
    | nil => rw [ho] at he hf; simp at he hf; omega
    | cons g o' =>
      rw [ho] at hf he ol
      have e2 : IntKind.wrap .i64 ((((g :: o').length : Nat) : Int) - 1) = (o'.length : Int) := pred_i64 o'.length (by simp at ol; omega)
      have V3 : VAt w13 vb o' (f :: r) := by
        have := D2.cutTo o'.length (by rw [ho]; simp)
        rw [ho] at this
        simp only [List.length_cons, show o'.length + 1 - o'.length = 1 by omega, List.drop_succ_cons, List.drop_zero] at this
        rw [hw, ho, e2]; exact this
      have c0 : w13.cell? ⟨vb, o'.length, none⟩ = some (.int .u8 g) := by
        have a := D2.op o'.length g (by rw [ho]; exact rev_top g o')
        simp at ol
        rw [hw, D2.at 11 (by decide), if_neg (by omega)]; exact a
      have S3 : Same [vb] w.heap.size w w13 := by rw [hw]; exact (Same.refl _ _ _).drew.drew.setCell (.inr (by simp)) _
      clear hw
      simp at ol
      refine ⟨_, V3.drew.h, ⟨by omega, by omega⟩, ?_⟩
      rw [Int.toNat_natCast, Nat.mul_one, Nat.zero_add]
      refine ⟨_, c0, ?_⟩
      have eT : popT want f (g :: o') = if g = 0 then want else g := by unfold popT; rw [if_neg he]
      have eB : popB want f (g :: o') = (g == 0 || (want == 0 || g == want)) := by unfold popB; rw [if_neg he]
      have eO : popO f (g :: o') = o' := by unfold popO; rw [if_neg he]; rfl
      rw [eT, eB, eO]
      refine cond_intro (fun h0 => ?_) (fun h0 => ?_)
      · have h1 : g = 0 := eq_of_beq h0
        exact ⟨by rw [if_pos h1, h0, Bool.true_or], V3.drew, S3.drew⟩
      · have h1 : g ≠ 0 := by simpa using h0
        refine cond_intro (fun h2 => ?_) (fun h2 => ?_)
        · exact ⟨by rw [if_neg h1, h0, h2, Bool.false_or, Bool.true_or], V3.drew, S3.drew⟩
        · exact ⟨by rw [if_neg h1, h0, h2, Bool.false_or, Bool.false_or], V3.drew, S3.drew⟩

theorem carry_spec (V : VAt w vb o (f :: r)) (hf : f.fl ≤ o.length) (t : Int) : Runs Tryz.prog valid_Valid_carry.id #[rp vb, .int .u8 t] w (VR w vb (.bool (carB t f o)) (carO t f o) (f :: r)) := by
  refine valid_Valid_carry.enter _ _ _ _ _ ?_
  unfold valid_Valid_carry.V
  refine cond_intro (fun h => ?_) (fun h => ?_)
  · have ht : t = 64 := eq_of_beq h
    refine ⟨?_, ?_, Same.refl _ _ _⟩
    · unfold carB; rw [h, Bool.true_or]
    · unfold carO; rw [if_pos ht]; exact V
  · have ht : t ≠ 64 := by simpa using h
    refine RunsQ.post (pop_spec V hf t) ?_
    rintro v w1 ⟨rfl, V1, S1⟩
    refine ⟨_, _, rfl, ?_, ?_, S1⟩
    · unfold carB; rw [h, Bool.false_or]
    · unfold carO; rw [if_neg ht]; exact V1

theorem pops_spec (s : ByteArray) (hs : s.size ≤ 1024) (V : VAt w vb o (f :: r)) (hf : f.fl ≤ o.length) : Runs Tryz.prog valid_Valid_pops.id #[rp vb, .string s] w (VR w vb (.bool (popsF s f s.size o).1) (popsF s f s.size o).2 (f :: r)) := by
  refine valid_Valid_pops.enter _ _ _ _ _ ?_
  unfold valid_Valid_pops.V
  have L : ∀ (k : Nat) (w1 : World) (o1 : List Int), k ≤ s.size → VAt w1 vb o1 (f :: r) → f.fl ≤ o1.length → Same [vb] w.heap.size w w1 →
      valid_Valid_pops.L1 (some ⟨vb, 0, none⟩) s ((k : Int) - 1) (fun v w' => v = .bool (popsF s f k o1).1 ∧ VAt w' vb (popsF s f k o1).2 (f :: r) ∧ Same [vb] w.heap.size w w') (fun _ _ => False) w1 := by
    intro k
    induction k with
    | zero =>
      intro w1 o1 hk V1 h1 S1
      refine valid_Valid_pops.step1 _ _ _ _ _ _ ?_
      unfold valid_Valid_pops.V1
      exact cond_false' (decide_eq_false (by omega)) ⟨rfl, V1, S1⟩
    | succ k ih =>
      intro w1 o1 hk V1 h1 S1
      refine valid_Valid_pops.step1 _ _ _ _ _ _ ?_
      unfold valid_Valid_pops.V1
      have e : (((k + 1 : Nat) : Int) - 1) = (k : Int) := by omega
      rw [e]
      refine cond_true' (decide_eq_true (by omega)) ⟨⟨by omega, by omega⟩, ?_⟩
      rw [Int.toNat_natCast]
      refine RunsQ.post (pop_spec V1 h1 _) ?_
      rintro v w2 ⟨rfl, V2, S2⟩
      have S12 := S1.trans (S2.mono S1.size (by simp))
      rw [popsF_succ]
      refine ⟨_, _, rfl, ?_⟩
      cases hb : popB (byteAt s k) f o1
      · exact cond_true' rfl ⟨rfl, V2, S12⟩
      · refine cond_false' rfl ?_
        have e2 : IntKind.wrap .i64 ((k : Int) - 1) = (k : Int) - 1 := wrap_i64 (by omega) (by omega)
        rw [e2]
        exact ih w2 _ (by omega) V2 (popO_len f o1 h1).1 S12
  have e2 : IntKind.wrap .i64 (((s.size : Nat) : Int) - 1) = ((s.size : Nat) : Int) - 1 := wrap_i64 (by omega) (by omega)
  rw [e2]
  exact L s.size w o (Nat.le_refl _) V hf (Same.refl _ _ _)

theorem fits_spec (V : VAt w vb o (f :: r)) (hf : f.fl ≤ o.length) (t : Int) : Runs Tryz.prog valid_Valid_fits.id #[rp vb, .int .u8 t] w (VR w vb (.bool (fitB t f o)) o (f :: r)) := by
  have kl := V.kl; have ol := V.ol
  rw [List.length_cons] at kl
  refine valid_Valid_fits.enter _ _ _ _ _ ?_
  unfold valid_Valid_fits.V fitB
  refine cond_intro (fun h => ⟨by rw [h, Bool.true_or], V, Same.refl _ _ _⟩) (fun h => ?_)
  rw [h, Bool.false_or]
  simp only [true_and, nilV_some, Nat.zero_add]
  have D := V.drew
  have D2 := D.drew
  have e1 : IntKind.wrap .i64 ((((f :: r).length : Nat) : Int) - 1) = (r.length : Int) := pred_i64 r.length (by omega)
  refine ⟨_, D.d, ?_⟩
  rw [e1]
  simp only [add_mk, Int.toNat_natCast]
  refine ⟨⟨by omega, by omega⟩, _, D2.h, _, D2.f2 _ f (rev_top f r), ?_⟩
  by_cases he : o.length = f.fl
  · rw [if_pos he]
    exact cond_true' (by rw [he]; exact beq_self_eq_true _) ⟨_, D2.f3 _ f (rev_top f r), rfl, D2, (Same.refl _ _ _).drew.drew⟩
  · rw [if_neg he]
    refine cond_false' (beq_eq_false_iff_ne.2 (by omega)) ⟨_, D2.drew.h, ?_⟩
    cases ho : o with
    | nil => rw [ho] at he hf; simp at he hf; omega
    | cons g o' =>
      rw [ho] at ol
      have e2 : IntKind.wrap .i64 ((((g :: o').length : Nat) : Int) - 1) = (o'.length : Int) := pred_i64 o'.length (by simp at ol; omega)
      simp at ol
      rw [e2, Int.toNat_natCast, Nat.mul_one, Nat.zero_add]
      refine ⟨⟨by omega, by omega⟩, _, D2.drew.op o'.length g (by rw [ho]; exact rev_top g o'), ?_⟩
      have D3 : VAt w.drew.drew.drew vb (g :: o') (f :: r) := ho ▸ D2.drew
      refine cond_intro (fun h0 => ⟨by simp only [h0, Bool.true_or], D3, (Same.refl _ _ _).drew.drew.drew⟩) (fun h0 => ⟨by simp only [h0, Bool.false_or], D3, (Same.refl _ _ _).drew.drew.drew⟩)

theorem push_spec (V : VAt w vb o k) (t : Int) : Runs Tryz.prog valid_Valid_push.id #[rp vb, .int .u8 t] w (VR w vb (.bool (decide (o.length < 10))) (if o.length < 10 then t :: o else o) k) := by
  have ol := V.ol
  refine valid_Valid_push.enter _ _ _ _ _ ?_
  unfold valid_Valid_push.V
  simp only [true_and, nilV_some, Nat.zero_add]
  refine ⟨_, V.h, cond_intro (fun h => ?_) (fun h => ?_)⟩
  · have h : ¬ o.length < 10 := by have := of_decide_eq_true h; omega
    exact ⟨by rw [decide_eq_false h], by rw [if_neg h]; exact V, Same.refl _ _ _⟩
  · have h : o.length < 10 := by have := of_decide_eq_false h; omega
    have D := V.drew
    refine ⟨_, D.h, ⟨by omega, by omega⟩, ?_⟩
    rw [Int.toNat_natCast, Nat.mul_one]
    simp only [add_mk, Nat.zero_add]
    refine ⟨D.can _ (by omega), letW_intro fun w8 hw8 => ?_⟩
    obtain ⟨z, hz, hz1, hz2⟩ := D.hi
    have A8 := D.at o.length (by omega) (.int .u8 t)
    have c11 : w8.cell? ⟨vb, 11, none⟩ = some (.int .i64 ((o.length : Nat) : Int)) := by rw [hw8, A8, if_neg (by omega)]; exact D.h
    have f8 : ∀ j, w8.frozen? ⟨vb, j, none⟩ = false := fun j => by rw [hw8, World.frozen?_setCell]; exact D.f j
    have e2 : IntKind.wrap .i64 (((o.length : Nat) : Int) + 1) = ((o.length + 1 : Nat) : Int) := by rw [wrap_i64 (by omega) (by omega)]; omega
    refine ⟨_, c11, ⟨⟨_, c11⟩, f8 11⟩, letW_intro fun w12 hw12 => ?_⟩
    rw [e2] at hw12
    have A12 : ∀ j, w12.cell? ⟨vb, j, none⟩ = if j = 11 then (w8.cell? ⟨vb, j, none⟩).map (fun _ => .int .i64 ((o.length + 1 : Nat) : Int)) else w8.cell? ⟨vb, j, none⟩ := fun j => by
      rw [hw12, cell_setCell]
      by_cases g : j = 11
      · rw [if_pos ⟨rfl, g⟩, if_pos g]
      · rw [if_neg (by omega), if_neg g]
    have c11' : w12.cell? ⟨vb, 11, none⟩ = some (.int .i64 ((o.length + 1 : Nat) : Int)) := by rw [A12, if_pos rfl, c11]; rfl
    have c41 : w12.cell? ⟨vb, 41, none⟩ = some (.int .i64 z) := by rw [A12, if_neg (by decide), hw8, A8, if_neg (by omega)]; exact hz
    have f12 : ∀ j, w12.frozen? ⟨vb, j, none⟩ = false := fun j => by rw [hw12, World.frozen?_setCell]; exact f8 j
    refine ⟨_, c41, _, c11', ⟨⟨_, c41⟩, f12 41⟩, letW_intro fun w18 hw18 => ?_⟩
    refine ⟨by rw [decide_eq_true h], ?_, ?_⟩
    · rw [if_pos h]
      have := D.push h t (if z < ((o.length + 1 : Nat) : Int) then ((o.length + 1 : Nat) : Int) else z) (by split <;> omega) (by split <;> omega)
      rw [hw18, hw12, hw8]; exact this.drew
    · rw [hw18, hw12, hw8]
      exact ((((Same.refl _ _ _).drew.setCell (.inr (by simp)) _).setCell (.inr (by simp)) _).drew.setCell (.inr (by simp)) _)

theorem cut_spec (V : VAt w vb o (f :: r)) (hf : f.fl ≤ o.length) : Runs Tryz.prog valid_Valid_cut.id #[rp vb] w (VR w vb (.tuple #[]) (o.drop (o.length - f.fl)) ({ f with dead := true } :: r)) := by
  have kl := V.kl; have ol := V.ol
  rw [List.length_cons] at kl
  refine valid_Valid_cut.enter _ _ _ _ ?_
  unfold valid_Valid_cut.V
  simp only [true_and, nilV_some, Nat.zero_add]
  have D := V.drew
  have e1 : IntKind.wrap .i64 ((((f :: r).length : Nat) : Int) - 1) = (r.length : Int) := pred_i64 r.length (by omega)
  refine ⟨_, D.d, ?_⟩
  rw [e1]
  simp only [add_mk, Int.toNat_natCast]
  refine ⟨⟨by omega, by omega⟩, _, D.f2 _ f (rev_top f r), D.can 11 (by decide), letW_intro fun w7 hw7 => ?_⟩
  have V7 : VAt w7 vb (o.drop (o.length - f.fl)) (f :: r) := by rw [hw7]; exact D.cutTo f.fl hf
  have S7 : Same [vb] w.heap.size w w7 := by rw [hw7]; exact (Same.refl _ _ _).drew.setCell (.inr (by simp)) _
  clear hw7
  refine ⟨V7.can _ (by omega), letW_intro fun w8 hw8 => ?_⟩
  rw [hw8]
  exact ⟨rfl, V7.setDead true, S7.setCell (.inr (by simp)) _⟩

theorem label_spec (V : VAt w vb o k) (l : Nat) (hl : l < k.length) : Runs Tryz.prog valid_Valid_label.id #[rp vb, .int .i64 (l : Int)] w (VR w vb (.int .u8 (labT k l)) o k) := by
  have kl := V.kl
  refine valid_Valid_label.enter _ _ _ _ _ ?_
  unfold valid_Valid_label.V
  simp only [true_and, nilV_some, Nat.zero_add]
  have D := V.drew
  have e1 : IntKind.wrap .i64 (((k.length : Nat) : Int) - 1) = ((k.length - 1 : Nat) : Int) := by rw [wrap_i64 (by omega) (by omega)]; omega
  have e2 : IntKind.wrap .i64 (((k.length - 1 : Nat) : Int) - (l : Int)) = ((k.length - 1 - l : Nat) : Int) := by rw [wrap_i64 (by omega) (by omega)]; omega
  refine ⟨_, D.d, ?_⟩
  rw [e1, e2]
  simp only [add_mk, Int.toNat_natCast]
  have hk : k.reverse[k.length - 1 - l]? = some k[l] := by rw [rev_at k hl, List.getElem?_eq_getElem hl]
  refine ⟨⟨by omega, by omega⟩, _, D.f0 _ _ hk, ?_⟩
  have eL : labT k l = if k[l].op = 3 then 64 else k[l].res := by unfold labT; rw [List.getElem?_eq_getElem hl]
  rw [eL]
  refine cond_intro (fun h => ⟨by rw [if_pos (eq_of_beq h)], D, (Same.refl _ _ _).drew⟩) (fun h => ⟨_, D.f1 _ _ hk, by rw [if_neg (by simpa using h)], D, (Same.refl _ _ _).drew⟩)

theorem settled_spec (V : VAt w vb o (f :: r)) (hf : f.fl ≤ o.length) : Runs Tryz.prog valid_Valid_settled.id #[rp vb] w (VR w vb (.bool (carB f.res f o && decide ((carO f.res f o).length = f.fl))) (carO f.res f o) (f :: r)) := by
  have kl := V.kl; have ol := V.ol
  rw [List.length_cons] at kl
  refine valid_Valid_settled.enter _ _ _ _ ?_
  unfold valid_Valid_settled.V
  simp only [true_and, nilV_some, Nat.zero_add]
  have D := V.drew
  have e1 : IntKind.wrap .i64 ((((f :: r).length : Nat) : Int) - 1) = (r.length : Int) := pred_i64 r.length (by omega)
  refine ⟨_, D.d, ?_⟩
  rw [e1]
  simp only [add_mk, Int.toNat_natCast]
  refine ⟨⟨by omega, by omega⟩, _, D.f1 _ f (rev_top f r), RunsQ.post (carry_spec D hf _) ?_⟩
  rintro v w7 ⟨rfl, V7, S7⟩
  have S7' : Same [vb] w.heap.size w w7 := (Same.refl _ _ _).drew.trans S7
  refine ⟨_, rfl, ?_⟩
  cases hb : carB f.res f o
  · exact cond_true' rfl ⟨rfl, V7, S7'⟩
  · refine cond_false' rfl ⟨_, V7.drew.h, _, V7.drew.f2 _ f (rev_top f r), ?_, V7.drew, S7'.drew⟩
    rw [Bool.true_and]
    congr 1
    by_cases g : (carO f.res f o).length = f.fl
    · rw [decide_eq_true g, g]; exact beq_self_eq_true _
    · rw [decide_eq_false g]; exact beq_eq_false_iff_ne.2 (by omega)
end
end Go.Proofs.Qxb6500317aGreat
