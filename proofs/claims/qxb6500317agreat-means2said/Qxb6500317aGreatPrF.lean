/-
  The compiler in memory: tables.
-/
import Derived.Test.Qxb6500317aGreatPrE
set_option linter.unusedSimpArgs false
set_option linter.unusedVariables false
set_option maxRecDepth 100000
set_option linter.unusedSectionVars false
namespace Go.Proofs.Qxb6500317aGreat
open Go Go.Vc

def FOk (k : List CT) : Prop := ∀ (l : Nat) (g : CT), k[l]? = some g → g.fl ≤ 1000 ∧ g.ar ≤ 1024 ∧ (g.op = 3 → 1 ≤ g.st ∧ g.st ≤ 1000) ∧ g.pt ≤ 1000
theorem branchP_some {op : Int} {l : Nat} {p : PS} {g : CT} (h : p.k[l]? = some g) : branchP op l p = if g.op = 3 then { p with cells := p.cells ++ [⟨op, ((g.st - 1 : Nat) : Int), g.fl⟩] }
    else { p with cells := p.cells ++ [⟨op, g.pt, (g.ar : Int) * 4294967296 + g.fl⟩], k := p.k.set l { g with pt := p.cells.length } } := by
  unfold branchP
  rw [h]
theorem branchP_facts {op : Int} {l : Nat} {p : PS} {g : CT} (h : p.k[l]? = some g) : (branchP op l p).cells.length = p.cells.length + 1 ∧ (branchP op l p).k.length = p.k.length ∧ (branchP op l p).h = p.h ∧ (branchP op l p).dead = p.dead ∧ (FOk p.k → p.cells.length ≤ 1000 → FOk (branchP op l p).k) := by
  rw [branchP_some h]
  split
  · exact ⟨by simp, rfl, rfl, rfl, fun q _ => q⟩
  · refine ⟨by simp, by simp, rfl, rfl, fun q hc l' g' hg' => ?_⟩
    have hg' : (p.k.set l { g with pt := p.cells.length })[l']? = some g' := hg'
    rw [List.getElem?_set] at hg'
    split at hg'
    · split at hg'
      · cases hg'
        obtain ⟨a, b, c, d⟩ := q l g h
        exact ⟨a, b, c, hc⟩
      · cases hg'
    · exact q l' g' hg'

section
variable {wd w w' : World} {L mb : Nat} {m : Nat → Value} {P : PM} {pb cb : Nat} {cells : List Ins} {hg : Nat} {k : List CT} {h : Int} {dead : Nat} {c : CT} {r : List CT}

theorem ctable_spec (p : PA w pb cb cells hg (c :: r) h dead) (h0 : 0 ≤ h) (h1 : h ≤ 1000) (x : Ins) (hx : InsIn x) {nt : Nat} {tab : Nat → Int} {ta : Option Addr} (hf : FOk (c :: r))
    (hn : nt ≤ 24) (htab : ∀ j, j < nt → 0 ≤ tab j ∧ tab j ≤ 4294967295) (ht : 0 < nt → ∃ tk, ta = some ⟨tk, 0, none⟩ ∧ TabRow w tk nt tab ∧ tk ≠ pb ∧ tk ≠ cb ∧ tk < w.heap.size) (hl : x.y ≤ (nt : Int) → cells.length + 1 + x.y.toNat ≤ 121) :
    Runs Tryz.prog prep_Prep_table.id #[rp pb, .agg #[.int .u8 x.op, .int .u32 x.x, .int .u64 x.y], .slice ta nt nt] w (PQ w pb cb hg (.bool (ctabP nt tab x ⟨cells, c :: r, h, dead⟩).1) (ctabP nt tab x ⟨cells, c :: r, h, dead⟩).2) := by
  obtain ⟨o0, o1, x0, x1, y0, y1⟩ := hx
  have kl := p.kl
  rw [List.length_cons] at kl
  generalize hz : ctabP nt tab x ⟨cells, c :: r, h, dead⟩ = z
  unfold ctabP at hz
  dsimp only at hz
  rw [show topFl (c :: r) = c.fl from rfl] at hz
  refine prep_Prep_table.enter _ _ _ _ _ _ _ _ _ _ ?_
  unfold prep_Prep_table.V
  refine letB_intro fun b hb => letW_intro fun w1 hw => ?_
  obtain ⟨I1, S1⟩ := ins_made hb hw
  have p1 := p.keep S1
  have lpb := p.lt; have lcb := p.B.lt
  clear hw
  simp only [nilV_some, Nat.zero_add]
  refine ⟨_, p1.hh, p1.can 52 (by decide), letW_intro fun w2 hw2 => ?_⟩
  rw [wrap_i64 (x := h - 1) (by omega) (by omega)] at hw2
  have p2 : PA w2 pb cb cells hg (c :: r) (h - 1) dead := by rw [hw2]; exact p1.setH _
  have S12 : Same [pb, cb] w1.heap.size w1 w2 := by rw [hw2]; exact Same.pset _ _ _ _ _
  have lb := I1.lt
  have nb : b ∉ [pb, cb] := by simp; omega
  have I2 := I1.same S12 lb nb
  have S02 := (S2 pb cb S1).nx S12
  have p3 := p2.drew
  have I3 := I2.drew
  have S03 : Same [pb, cb] w.heap.size w w2.drew := S02.drew
  have ew : IntKind.wrap .i64 (((c :: r).length : Int) - 1) = (r.length : Int) := by rw [List.length_cons, wrap_i64 (by omega) (by omega)]; omega
  simp only [true_and, nilV_some, Nat.zero_add]
  refine ⟨_, p3.hh, _, p3.d, ?_⟩
  rw [ew]
  simp only [add_mk, Int.toNat_natCast]
  have no : ∀ {w'}, PA w' pb cb cells hg (c :: r) (h - 1) dead → Same [pb, cb] w.heap.size w w' → (h - 1 < (c.fl : Int) ∨ x.y < 1 ∨ (nt : Int) < x.y ∨ (nt : Int) - x.y < x.x) → PQ w pb cb hg (.bool z.1) z.2 (.bool false) w' := fun {w'} p' S' q => by
    rw [if_pos q] at hz
    rw [← hz]
    exact ⟨rfl, p', S'⟩
  refine ⟨⟨by omega, by omega⟩, _, p3.top 1 _ rfl, cond_intro (fun e => no p3 S03 (.inl (of_decide_eq_true e))) (fun e1 => ?_)⟩
  have e1 : ¬ h - 1 < (c.fl : Int) := of_decide_eq_false e1
  refine ⟨_, I3.c2, cond_intro (fun e => no p3 S03 (.inr (.inl (of_decide_eq_true e)))) (fun e2 => ?_)⟩
  have e2 : ¬ x.y < 1 := of_decide_eq_false e2
  have en : IntKind.wrap .u64 ((nt : Nat) : Int) = (nt : Int) := wrap_u64 (by omega) (by omega)
  refine ⟨_, I3.c2, ?_⟩
  rw [en]
  refine cond_intro (fun e => no p3 S03 (.inr (.inr (.inl (of_decide_eq_true e))))) (fun e3 => ?_)
  have e3 : ¬ x.y > (nt : Int) := of_decide_eq_false e3
  refine ⟨_, I3.c1, _, I3.c2, ?_⟩
  rw [wrap_u64 (x := x.x) (by omega) (by omega), wrap_u64 (x := (nt : Int) - x.y) (by omega) (by omega)]
  refine cond_intro (fun e => no p3 S03 (.inr (.inr (.inr (of_decide_eq_true e))))) (fun e4 => ?_)
  have e4 : ¬ x.x > (nt : Int) - x.y := of_decide_eq_false e4
  rw [if_neg (by omega)] at hz
  clear no
  obtain ⟨n, hyn⟩ := Int.eq_ofNat_of_zero_le y0
  obtain ⟨a, hxa⟩ := Int.eq_ofNat_of_zero_le x0
  rw [hyn, hxa, Int.toNat_natCast, Int.toNat_natCast] at hz
  have hl := hl (by omega)
  rw [hyn, Int.toNat_natCast] at hl
  obtain ⟨tk, rfl, T, t1, t2, t3⟩ := ht (by omega)
  have nt' : tk ∉ [pb, cb] := by simp; exact ⟨t1, t2⟩
  haveI := outNil
  -- the rows
  have LL : ∀ (rem j : Nat) (w1 : World) (q : PS), j + rem = n → PA w1 pb cb q.cells hg q.k q.h q.dead → q.cells.length + rem ≤ 121 → FOk q.k → Same [pb, cb] w.heap.size w w1 → z = crowsP tab rem (a + j) q →
      prep_Prep_table.L2 (some ⟨pb, 0, none⟩) (some ⟨tk, a, none⟩) n (nt - a) (j : Int) (PQ w pb cb hg (.bool z.1) z.2) (fun _ _ => False) w1 := by
    intro rem
    induction rem with
    | zero =>
      intro j w1 q hj pq hl hf S ez
      refine prep_Prep_table.step2 _ _ _ _ _ _ _ _ ?_
      unfold prep_Prep_table.V2
      refine cond_false' (decide_eq_false (by omega)) ?_
      simp only [nilV_some, Nat.zero_add]
      refine ⟨pq.can 53 (by decide), letW_intro fun w5 hw5 => ?_⟩
      have ez : z = (true, { q with dead := 1 }) := ez
      rw [ez]
      exact ⟨rfl, by rw [hw5]; exact pq.setD 1, S.nx (by rw [hw5]; exact Same.pset _ _ _ _ _)⟩
    | succ rem ih =>
      intro j w1 q hj pq hl hf S ez
      rw [crowsP_succ] at ez
      have pl := pq.kl
      refine prep_Prep_table.step2 _ _ _ _ _ _ _ _ ?_
      unfold prep_Prep_table.V2
      refine cond_true' (decide_eq_true (by omega)) ?_
      have T1 : TabRow w1.drew tk nt tab := (T.same S t3 nt').same (S := []) (B := w1.heap.size) (Same.refl _ _ w1).drew (by have := S.size; omega) (by simp)
      have tc := T1.1 (a + j) (by omega)
      have tb := htab (a + j) (by omega)
      obtain ⟨l, hl'⟩ := Int.eq_ofNat_of_zero_le tb.1
      have pd := pq.drew
      have Sd : Same [pb, cb] w.heap.size w w1.drew := S.drew
      simp only [true_and, nilV_some, Nat.zero_add, add_mk, Int.toNat_natCast, Nat.mul_one]
      refine ⟨⟨by omega, by omega⟩, _, tc, _, pd.d, ?_⟩
      rw [wrap_u64 (x := tab (a + j)) (by omega) (by omega), wrap_u64 (x := ((q.k.length : Nat) : Int)) (by omega) (by omega)]
      refine cond_intro (fun e => ?_) (fun e => ?_)
      · have e : (q.k.length : Int) ≤ tab (a + j) := of_decide_eq_true e
        rw [if_pos e] at ez
        rw [ez]
        exact ⟨rfl, pd, Sd⟩
      have e : ¬ (q.k.length : Int) ≤ tab (a + j) := of_decide_eq_false e
      rw [if_neg e] at ez
      refine ⟨⟨by omega, by omega⟩, _, tc, ?_⟩
      rw [wrap_i64 (x := tab (a + j)) (by omega) (by omega)]
      have hll : l < q.k.length := by omega
      obtain ⟨g, hgl⟩ : ∃ g, q.k[l]? = some g := ⟨_, List.getElem?_eq_getElem hll⟩
      obtain ⟨f1, f2, f3, f4⟩ := hf l g hgl
      rw [hl', Int.toNat_natCast] at ez
      rw [hl']
      refine RunsQ.post (branch_spec pd (by omega) hgl f1 f2 f3 f4 225) ?_
      rintro v w4 ⟨rfl, p4, S4⟩
      obtain ⟨b1, b2, b3, b4, b5⟩ := branchP_facts (op := 225) (p := q) hgl
      refine ⟨rfl, ?_⟩
      have ej : IntKind.wrap .i64 ((j : Int) + 1) = ((j + 1 : Nat) : Int) := by rw [wrap_i64 (by omega) (by omega)]; omega
      rw [ej]
      exact ih (j + 1) w4 (branchP 225 l q) (by omega) p4 (by omega) (b5 hf (by omega)) (Sd.nx S4) (by rw [ez, Nat.add_assoc])
  refine prep_Prep_table.step1 _ _ _ _ _ _ _ _ ?_
  unfold prep_Prep_table.V1
  have p5 := p3.drew
  have I5 := I3.drew
  have S05 : Same [pb, cb] w.heap.size w w2.drew.drew := S03.drew
  have ey : IntKind.wrap .u32 x.y = (n : Int) := by rw [hyn, wrap_u32 (by omega) (by omega)]
  have fin : ∀ w6, PA w6 pb cb (cells ++ [⟨14, (n : Int), 0⟩]) hg (c :: r) (h - 1) dead → Same [pb, cb] w2.drew.drew.heap.size w2.drew.drew w6 →
      (∃ x62 : Int, World.cell? w6 ⟨b, 1, none⟩ = some (.int .u32 x62) ∧ (∃ x63 : Int, World.cell? w6 ⟨b, 1, none⟩ = some (.int .u32 x63) ∧ (∃ x64 : Int, World.cell? w6 ⟨b, 2, none⟩ = some (.int .u64 x64) ∧ ((0 ≤ (IntKind.wrap .i64 x62) ∧ (IntKind.wrap .i64 x62) ≤ (IntKind.wrap .i64 ((IntKind.wrap .i64 x63) + (IntKind.wrap .i64 x64))) ∧ (IntKind.wrap .i64 ((IntKind.wrap .i64 x63) + (IntKind.wrap .i64 x64))) ≤ ((nt : Nat) : Int) ∧ ((nt : Nat) : Int) ≤ ((nt : Nat) : Int)) ∧
        (prep_Prep_table.L2 (some ⟨pb, 0, none⟩) (slAddr (some ⟨tk, 0, none⟩) (Int.toNat (IntKind.wrap .i64 x62)) nt 1) ((Int.toNat (IntKind.wrap .i64 ((IntKind.wrap .i64 x63) + (IntKind.wrap .i64 x64)))) - (Int.toNat (IntKind.wrap .i64 x62))) (nt - (Int.toNat (IntKind.wrap .i64 x62))) 0 (PQ w pb cb hg (.bool z.1) z.2) (fun _ _ => False) w6))))) := fun w6 p6 S6 => by
    have I6 := I5.same S6 I5.lt nb
    refine ⟨_, I6.c1, _, I6.c1, _, I6.c2, ?_⟩
    rw [hxa, hyn, wrap_i64 (x := (a : Int)) (by omega) (by omega), wrap_i64 (x := (n : Int)) (by omega) (by omega), wrap_i64 (x := (a : Int) + (n : Int)) (by omega) (by omega)]
    refine ⟨⟨by omega, by omega, by omega, by omega⟩, ?_⟩
    have en : ((a : Int) + (n : Int)).toNat - a = n := by omega
    rw [Int.toNat_natCast, en, slAddr_lt (by omega), Nat.zero_add, Nat.mul_one]
    exact LL n 0 w6 ⟨_, _, _, _⟩ (by omega) p6 (by simp; omega) hf (S05.nx S6) (by rw [← hz]; rfl)
  clear LL p1 p2 p3 p I1 I2 I3
  refine nilV_inA ?_
  repeat' first
    | exact trivial
    | exact emit_inT p5 (by omega) ⟨_, _, _⟩ (by assumption) (by assumption) fin
    | refine ⟨_, _, _, p5.s, ?_⟩
    | refine ⟨_, I5.c2, ?_⟩
    | (rw [ey]
       refine letB_intro fun b' hb' => letW_intro fun w' hw => ?_
       have pa := (p5.al hw).1
       have Ia := I5.same (p5.al hw).2 I5.lt (by simp))
    | refine ⟨_, _, _, PA.s (by assumption), ?_⟩
    | refine nilV_inA ?_
    | refine And.intro ?_ ?_
end
end Go.Proofs.Qxb6500317aGreat
