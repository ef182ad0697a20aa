/-
  Where a refusal points.
-/
import Derived.Test.Qxb6500317aGreatVdH
import Derived.Test.Qxb6500317aGreatIdA
set_option linter.unusedSimpArgs false
set_option linter.unusedVariables false
set_option maxRecDepth 100000
set_option linter.unusedSectionVars false
namespace Go.Proofs.Qxb6500317aGreat
open Go Go.Vc

def goodE (e : Int) : Prop := e = 14 ∨ e = 15 ∨ (20 ≤ e ∧ e ≤ 28)
theorem num_some : ((List.range 123).all fun n => (api_NumSig.F (69 + (n : Int))).1 != 0) = true := by kernel_rfl
theorem num_in {op : Int} (h0 : 69 ≤ op) (h1 : op ≤ 191) : (api_NumSig.F op).1 ≠ 0 := by
  have := List.all_eq_true.1 num_some (op - 69).toNat (List.mem_range.2 (by omega))
  have e : (69 + ((op - 69).toNat : Int)) = op := by omega
  rw [e] at this
  simpa using this
theorem tyE_good (b : Bool) : tyE b = 0 ∨ goodE (tyE b) := by
  cases b
  · exact .inr (.inr (.inr ⟨by decide, by decide⟩))
  · exact .inl rfl
section
variable {P : PM} {ps ds : ByteArray} {fn : FnP} {x : Ins} {pc : Int} {o : List Int} {f : Fr} {r k : List Fr}
theorem plnP_good (hx : Pln x) (hn : ∀ n : Int, n = 0 ∨ n = 1 ∨ n = 2 ∨ n = 3 ∨ n = 4 ∨ n = 5 ∨ n = 11 ∨ n = 12 ∨ n = 13 ∨ n = 15 → x.op ≠ n) : (plnP P ps ds x f o).2.1 = 0 ∨ goodE (plnP P ps ds x f o).2.1 := by
  have t := tyE_good
  have g : ∀ e : Int, (e = 14 ∨ e = 15 ∨ (20 ≤ e ∧ e ≤ 28)) → goodE e := fun e h => h
  unfold plnP
  split
  · unfold callP
    split
    · split
      · exact .inr (.inr (.inl rfl))
      · exact t _
    · split
      · exact .inr (g 21 (by omega))
      · split
        · exact .inr (g 14 (by omega))
        · split
          · exact t _
          · exact .inr (g 27 (by omega))
  split
  · exact t _
  split
  · unfold selP
    split
    · split
      · exact t _
      · exact .inr (g 27 (by omega))
    · exact .inr (g 27 (by omega))
  split
  · unfold locP
    split
    · exact .inr (g 22 (by omega))
    · split
      · exact .inl rfl
      · exact t _
  split
  · unfold gloP
    split
    · exact .inr (g 23 (by omega))
    · split
      · exact .inl rfl
      · split
        · exact t _
        · exact .inr (g 24 (by omega))
  split
  · unfold memP memL
    split
    · exact .inr (g 20 (by omega))
    split
    · exact .inl rfl
    split
    · split
      · exact .inr (g 26 (by omega))
      split
      · split
        · exact t _
        · exact .inr (g 27 (by omega))
      · exact t _
    · exact t _
  split
  · exact .inl rfl
  rename_i h1 h2 h3 h4 h5 h6 h7
  have hop : 69 ≤ x.op ∧ x.op ≤ 191 := by
    have a0 := hn 0 (by simp); have a1 := hn 1 (by simp); have a2 := hn 2 (by simp); have a3 := hn 3 (by simp); have a4 := hn 4 (by simp); have a5 := hn 5 (by simp)
    have a11 := hn 11 (by simp); have a12 := hn 12 (by simp); have a13 := hn 13 (by simp); have a15 := hn 15 (by simp)
    rcases hx with ⟨h, _⟩ | ⟨h, _⟩ | ⟨h, _⟩ | ⟨h, _⟩ | h | ⟨h, _⟩
    · omega
    · omega
    · omega
    · omega
    · have := h.o0; have := h.o1; omega
    · omega
  unfold numP
  rw [if_neg (num_in hop.1 hop.2)]
  split
  · exact t _
  · exact t _

/-- May an else still come to block j? Then it is an if. -/
def MayOk (k : List Fr) (may : Nat → Bool) : Prop := ∀ j g, k.reverse[j + 1]? = some g → may j = true → g.op = 4
theorem tabL_good (tabs : Nat → Int) (k : List Fr) (o : List Int) (f : Fr) (d : Bool) : ∀ n i, tabL tabs k o f d n i = 0 ∨ goodE (tabL tabs k o f d n i)
  | 0, i => .inl rfl
  | n + 1, i => by
    rw [tabL_succ]
    split
    · exact .inr (.inr (.inr ⟨by decide, by decide⟩))
    · split
      · split
        · exact tabL_good tabs k o f d n (i + 1)
        · exact .inr (.inr (.inr ⟨by decide, by decide⟩))
      · exact .inr (.inr (.inr ⟨by decide, by decide⟩))

/-- A body's answer is a place of the body. -/
def PlaceOk (nI : Nat) (z : Int × Int × List Int × List Fr) : Prop := (z.2.1 = 0 ∧ z.1 = 0) ∨ (goodE z.2.1 ∧ 0 ≤ z.1 ∧ z.1 < (nI : Int))

def contV (P : PM) (ps : ByteArray) (fn : FnP) (n pc : Nat) : SR → Int × Int × List Int × List Fr
  | .done p e o k => (p, e, o, k)
  | .next o k => runV P ps fn n (pc + 1) o k
theorem runV_cont (P : PM) (ps : ByteArray) (fn : FnP) (n pc : Nat) (o : List Int) (f : Fr) (r : List Fr) : runV P ps fn (n + 1) pc o (f :: r) = contV P ps fn n pc (stepV P ps fn (fn.ins pc) pc o f r) := by
  rw [runV_succ]
  cases stepV P ps fn (fn.ins pc) pc o f r <;> rfl
theorem run_place (P : PM) (ps : ByteArray) (fn : FnP) : ∀ (n pc d u : Nat) (may : Nat → Bool) (o : List Int) (k : List Fr), pc + n = fn.nI → wfGo fn.ins fn.nI fn.nTab n pc d may u → k.length = d + 1 → MayOk k may → PlaceOk fn.nI (runV P ps fn n pc o k)
  | 0, pc, d, u, may, o, k, hp, hw, hk, hm => hw.elim
  | n + 1, pc, d, u, may, o, k, hp, hw, hk, hm => by
    cases k with
    | nil => simp at hk
    | cons f r =>
      have hr : r.length = d := by simpa using hk
      have G : ∀ e : Int, goodE e → ∀ (o' : List Int) (k' : List Fr), PlaceOk fn.nI ((pc : Int), e, o', k') := fun e h o' k' => .inr ⟨h, by omega, by omega⟩
      have g27 : goodE 27 := .inr (.inr ⟨by decide, by decide⟩)
      have g25 : goodE 25 := .inr (.inr ⟨by decide, by decide⟩)
      have g28 : goodE 28 := .inr (.inr ⟨by decide, by decide⟩)
      rw [runV_cont]
      rw [wfGo_succ] at hw
      -- what comes next
      have N : ∀ (o' : List Int) (k' : List Fr) (d' u' : Nat) (may' : Nat → Bool), wfGo fn.ins fn.nI fn.nTab n (pc + 1) d' may' u' → k'.length = d' + 1 → MayOk k' may' → PlaceOk fn.nI (contV P ps fn n pc (.next o' k')) := fun o' k' d' u' may' h1 h2 h3 =>
        run_place P ps fn n (pc + 1) d' u' may' o' k' (by omega) h1 h2 h3
      have GV : ∀ (g : Int) (o' : List Int) (k' : List Fr) (d' u' : Nat) (may' : Nat → Bool), wfGo fn.ins fn.nI fn.nTab n (pc + 1) d' may' u' → k'.length = d' + 1 → MayOk k' may' → PlaceOk fn.nI (contV P ps fn n pc (giveV pc g o' k')) := fun g o' k' d' u' may' h1 h2 h3 => by
        unfold giveV
        split
        · exact N _ _ _ _ _ h1 h2 h3
        · split
          · exact N _ _ _ _ _ h1 h2 h3
          · exact G 28 g28 _ _
      have mk : ∀ (g : Fr), g.op = f.op → MayOk (g :: r) may := fun g hg j y hy hmay => by
        by_cases e : j + 1 = r.length
        · rw [e, rev_top] at hy; cases hy
          rw [hg]; exact hm j f (by rw [e]; exact rev_top f r) hmay
        · have hj := (List.getElem?_eq_some_iff.1 hy).1
          rw [List.length_reverse, List.length_cons] at hj
          rw [rev_low g r (by omega)] at hy
          exact hm j y (by rw [rev_low f r (by omega)]; exact hy) hmay
      have lk : ∀ (g : Fr), (g :: r).length = d + 1 := fun g => by simp [hr]
      by_cases i14 : (fn.ins pc).op = 14
      · rw [if_pos i14] at hw
        obtain ⟨w1, w2, w3, w4⟩ := hw
        have es : stepV P ps fn (fn.ins pc) pc o f r = tabV fn (fn.ins pc) pc o f r := by
          unfold stepV
          rw [if_neg (by omega), if_neg (by omega), if_neg (by omega), if_neg (by omega), if_neg (by omega), if_neg (by omega), if_neg (by omega), if_pos i14]
        rw [es]
        unfold tabV
        split
        · rw [if_neg (by omega)]
          split
          · exact G 25 g25 _ _
          · split
            · exact N _ _ _ _ _ w4 (lk _) (mk _ rfl)
            · rename_i h0
              exact G _ ((tabL_good _ _ _ _ _ _ _).resolve_left h0) _ _
        · exact G 27 g27 _ _
      rw [if_neg i14] at hw
      obtain ⟨hpl, hw⟩ := hw
      unfold stepV
      by_cases i1 : (fn.ins pc).op = 1
      · rw [if_pos i1]
        rw [if_neg (by omega), if_neg (by omega), if_neg (by omega)] at hw
        exact N _ _ _ _ _ hw hk hm
      rw [if_neg i1]
      by_cases i0 : (fn.ins pc).op = 0
      · rw [if_pos i0]
        rw [if_neg (by omega), if_neg (by omega), if_neg (by omega)] at hw
        exact N _ _ _ _ _ hw (lk _) (mk _ rfl)
      rw [if_neg i0]
      by_cases ib : (fn.ins pc).op = 2 ∨ (fn.ins pc).op = 3 ∨ (fn.ins pc).op = 4
      · rw [if_pos ib]
        rw [if_pos ib] at hw
        obtain ⟨hd, hw⟩ := hw
        have O : ∀ o' : List Int, PlaceOk fn.nI (contV P ps fn n pc (opnV (fn.ins pc) pc o' f r)) := fun o' => by
          unfold opnV
          rw [if_neg (by omega)]
          refine N _ _ _ _ _ hw (by simp [hr]) (fun j y hy hmay => ?_)
          have hj := (List.getElem?_eq_some_iff.1 hy).1
          rw [List.length_reverse, List.length_cons, List.length_cons] at hj
          unfold upd at hmay
          by_cases e : j = d
          · have e2 : j + 1 = (f :: r).length := by simp [hr]; exact e
            rw [e2, rev_top] at hy; cases hy
            rw [if_pos e] at hmay
            exact eq_of_beq hmay
          · rw [if_neg e] at hmay
            rw [rev_low _ (f :: r) (by simp; omega)] at hy
            exact hm j y hy hmay
        unfold blkV
        split
        · split
          · exact O _
          · exact G 27 g27 _ _
        · exact O _
      rw [if_neg ib]
      rw [if_neg ib] at hw
      by_cases i5 : (fn.ins pc).op = 5
      · rw [if_pos i5]
        rw [if_pos i5] at hw
        obtain ⟨hd, hma, hw⟩ := hw
        have hop : f.op = 4 := hm (d - 1) f (by rw [show d - 1 + 1 = r.length by omega]; exact rev_top f r) hma
        unfold elsV
        split
        · rw [if_neg (by omega)]
          refine N _ _ _ _ _ hw (lk _) (fun j y hy hmay => ?_)
          unfold upd at hmay
          by_cases e : j = d - 1
          · rw [if_pos e] at hmay; cases hmay
          · rw [if_neg e] at hmay
            have hj := (List.getElem?_eq_some_iff.1 hy).1
            rw [List.length_reverse, List.length_cons] at hj
            rw [rev_low _ r (by omega)] at hy
            exact hm j y (by rw [rev_low f r (by omega)]; exact hy) hmay
        · exact G 27 g27 _ _
      rw [if_neg i5]
      rw [if_neg i5] at hw
      by_cases i11 : (fn.ins pc).op = 11
      · rw [if_pos i11]
        rw [if_pos i11] at hw
        unfold endV
        split
        · split
          · exact G 27 g27 _ _
          · by_cases hd : d = 0
            · rw [if_pos hd] at hw
              rw [if_pos (show r.length = 0 by omega), if_pos (by omega)]
              exact .inl ⟨rfl, rfl⟩
            · rw [if_neg hd] at hw
              rw [if_neg (show ¬ r.length = 0 by omega)]
              refine GV _ _ _ _ _ _ hw (by omega) (fun j y hy hmay => ?_)
              have hj := (List.getElem?_eq_some_iff.1 hy).1
              rw [List.length_reverse] at hj
              exact hm j y (by rw [rev_low f r hj]; exact hy) hmay
        · exact G 27 g27 _ _
      rw [if_neg i11]
      rw [if_neg i11] at hw
      by_cases i12 : (fn.ins pc).op = 12
      · rw [if_pos i12]
        unfold brV
        split
        · exact G 25 g25 _ _
        · split
          · exact N _ _ _ _ _ hw (lk _) (mk _ rfl)
          · exact G 27 g27 _ _
      rw [if_neg i12]
      by_cases i13 : (fn.ins pc).op = 13
      · rw [if_pos i13]
        unfold brifV
        split
        · split
          · exact G 25 g25 _ _
          · split
            · exact GV _ _ _ _ _ _ hw hk hm
            · exact G 27 g27 _ _
        · exact G 27 g27 _ _
      rw [if_neg i13, if_neg i14]
      by_cases i15 : (fn.ins pc).op = 15
      · rw [if_pos i15]
        unfold retV
        split
        · exact N _ _ _ _ _ hw (lk _) (mk _ rfl)
        · exact G 27 g27 _ _
      rw [if_neg i15]
      unfold plnV
      have hg := plnP_good (P := P) (ps := ps) (ds := strOfNums fn.ls) (f := f) (o := o) hpl (fun n hn => by rcases hn with rfl | rfl | rfl | rfl | rfl | rfl | rfl | rfl | rfl | rfl <;> omega)
      split
      · exact GV _ _ _ _ _ _ hw hk hm
      · rename_i h0
        exact G _ (hg.resolve_left h0) _ _
theorem body_place (h : FnWF fn) : PlaceOk fn.nI (bodyV P fn) := by
  unfold bodyV
  refine run_place P _ fn fn.nI 0 0 0 (fun _ => false) [] _ (by omega) h.go rfl (fun j g hg hm => by cases hm)

/-! ### The rows of the parts -/
def rowsP (P : PM) (e : Int) : Int :=
  if e = 14 then ((P.nIm + P.nf : Nat) : Int) else if e = 16 then 2 else if e = 17 ∨ e = 18 then P.nEx else if e = 19 then 1 else if e = 21 then P.nEl else if e = 20 then P.nD
  else if e = 15 then (if (P.nEl : Int) < 1 then 1 else P.nEl) else if e = 27 then (if (if (P.gn : Int) < P.nEl then (P.nEl : Int) else P.gn) < P.nD then P.nD else (if (P.gn : Int) < P.nEl then (P.nEl : Int) else P.gn)) else 0
def RowOk (P : PM) (z : Int × Int) : Prop := 14 ≤ z.2 ∧ z.2 ≤ 28 ∧ 0 ≤ z.1 ∧ z.1 < rowsP P z.2
theorem tyRow_ok : ∀ (n i : Nat) (z : Int × Int), i + n ≤ P.nIm + P.nf → tyRow P n i = some z → RowOk P z
  | 0, i, z, _, h => by cases h
  | n + 1, i, z, hi, h => by
    rw [tyRow_succ] at h
    split at h
    · cases h
      exact ⟨by simp, by simp, by simp, by unfold rowsP; simp; omega⟩
    · exact tyRow_ok n (i + 1) z (by omega) h
theorem row27 {i : Nat} (h : i < P.gn ∨ i < P.nEl ∨ i < P.nD) : RowOk P ((i : Int), 27) := by
  refine ⟨by simp, by simp, by simp, ?_⟩
  show (i : Int) < rowsP P _
  unfold rowsP
  simp only [show ¬ ((27 : Int) = 14) by decide, show ¬ ((27 : Int) = 16) by decide, show ¬ ((27 : Int) = 17 ∨ (27 : Int) = 18) by decide, show ¬ ((27 : Int) = 19) by decide, show ¬ ((27 : Int) = 21) by decide, show ¬ ((27 : Int) = 20) by decide, show ¬ ((27 : Int) = 15) by decide, if_false, if_true]
  split <;> split at * <;> omega
theorem gloRow_ok : ∀ (n i : Nat) (z : Int × Int), i + n ≤ P.gn → gloRow P n i = some z → RowOk P z
  | 0, i, z, _, h => by cases h
  | n + 1, i, z, hi, h => by
    rw [gloRow_succ] at h
    split at h
    · exact gloRow_ok n (i + 1) z (by omega) h
    · cases h; exact row27 (.inl (by omega))
theorem expRow_ok : ∀ (n i : Nat) (z : Int × Int), i + n ≤ P.nEx → expRow P n i = some z → RowOk P z
  | 0, i, z, _, h => by cases h
  | n + 1, i, z, hi, h => by
    rw [expRow_succ] at h
    split at h
    · cases h
      exact ⟨by simp, by simp, by simp, by unfold rowsP; simp; omega⟩
    · split at h
      · cases h
        exact ⟨by simp, by simp, by simp, by unfold rowsP; simp; omega⟩
      · exact expRow_ok n (i + 1) z (by omega) h
theorem row15 {i : Nat} (h : i = 0 ∨ i < P.nEl) : RowOk P ((i : Int), 15) := by
  refine ⟨by simp, by simp, by simp, ?_⟩
  show (i : Int) < rowsP P _
  unfold rowsP
  simp only [show ¬ ((15 : Int) = 14) by decide, show ¬ ((15 : Int) = 16) by decide, show ¬ ((15 : Int) = 17 ∨ (15 : Int) = 18) by decide, show ¬ ((15 : Int) = 19) by decide, show ¬ ((15 : Int) = 21) by decide, show ¬ ((15 : Int) = 20) by decide, if_false, if_true]
  split <;> omega
theorem elRow_ok : ∀ (n i : Nat) (z : Int × Int), i + n ≤ P.nEl → elRow P n i = some z → RowOk P z
  | 0, i, z, _, h => by cases h
  | n + 1, i, z, hi, h => by
    rw [elRow_succ] at h
    split at h
    · cases h
      exact ⟨by simp, by simp, by simp, by unfold rowsP; simp; omega⟩
    · split at h
      · split at h
        · cases h; exact row15 (.inr (by omega))
        · exact elRow_ok n (i + 1) z (by omega) h
      · cases h; exact row27 (.inr (.inl (by omega)))
theorem daRow_ok : ∀ (n i : Nat) (z : Int × Int), i + n ≤ P.nD → daRow P n i = some z → RowOk P z
  | 0, i, z, _, h => by cases h
  | n + 1, i, z, hi, h => by
    rw [daRow_succ] at h
    split at h
    · cases h
      exact ⟨by simp, by simp, by simp, by unfold rowsP; simp; omega⟩
    · split at h
      · exact daRow_ok n (i + 1) z (by omega) h
      · cases h; exact row27 (.inr (.inr (by omega)))
theorem parts_ok : (partsV P).2 = 0 ∨ RowOk P (partsV P) := by
  have r16 : ∀ i : Int, i = 0 ∨ i = 1 → RowOk P (i, 16) := fun i hi => ⟨by simp, by simp, by show (0 : Int) ≤ i; omega, by show i < rowsP P 16; unfold rowsP; simp; omega⟩
  unfold partsV
  cases h1 : tyRow P (P.nIm + P.nf) 0 with
  | some z => exact .inr (tyRow_ok _ 0 z (by omega) h1)
  | none =>
    show (if _ then (if _ then _ else _) else _ : Int × Int).2 = 0 ∨ RowOk P (if _ then (if _ then _ else _) else _)
    split
    · split
      · cases h2 : gloRow P P.gn 0 with
        | some z => exact .inr (gloRow_ok _ 0 z (by omega) h2)
        | none =>
          cases h3 : expRow P P.nEx 0 with
          | some z => exact .inr (expRow_ok _ 0 z (by omega) h3)
          | none =>
            cases h4 : stE P with
            | some z =>
              refine .inr ?_
              show RowOk P z
              unfold stE at h4
              split at h4
              · cases h4
              · split at h4
                · cases h4; exact row15 (i := 0) (.inl rfl)
                · split at h4
                  · cases h4
                  · cases h4
                    exact ⟨by simp, by simp, by simp, by unfold rowsP; simp⟩
            | none =>
              show (segV P).2 = 0 ∨ RowOk P (segV P)
              unfold segV
              cases h5 : elRow P P.nEl 0 with
              | some z => exact .inr (elRow_ok _ 0 z (by omega) h5)
              | none =>
                cases h6 : daRow P P.nD 0 with
                | some z => exact .inr (daRow_ok _ 0 z (by omega) h6)
                | none => exact .inl rfl
      · exact .inr (r16 1 (.inr rfl))
    · exact .inr (r16 0 (.inl rfl))

/-- What K3 asks. -/
def ValOk (P : PM) (z : Int × Int × Int) : Prop :=
  (z.2.2 = 0 ∧ z.1 = (P.nf : Int) ∧ z.2.1 = 0) ∨ (z.2.2 ≠ 0 ∧ 14 ≤ z.2.2 ∧ z.2.2 ≤ 28 ∧ 0 ≤ z.2.1 ∧ ((z.1 = -1 ∧ z.2.1 < rowsP P z.2.2) ∨ ∃ i : Nat, z.1 = (i : Int) ∧ i < P.nf ∧ goodE z.2.2 ∧ z.2.1 < ((P.fn i).nI : Int)))
theorem fns_ok (F : WFP P) : ∀ (n j : Nat), j + n = P.nf → ValOk P (fnsV P n j)
  | 0, j, h => .inl ⟨rfl, rfl, rfl⟩
  | n + 1, j, h => by
    rw [fnsV_succ]
    split
    · exact fns_ok F n (j + 1) (by omega)
    · rename_i h0
      rcases body_place (P := P) (F.fn j (by omega)) with ⟨g1, _⟩ | ⟨g1, g2, g3⟩
      · exact absurd g1 h0
      · have g := g1
        unfold goodE at g
        refine .inr ⟨h0, ?_, ?_, g2, .inr ⟨j, rfl, by omega, g1, g3⟩⟩
        · show 14 ≤ (bodyV P (P.fn j)).2.1; omega
        · show (bodyV P (P.fn j)).2.1 ≤ 28; omega
theorem valid_ok (F : WFP P) : ValOk P (validV P) := by
  unfold validV
  split
  · exact fns_ok F P.nf 0 (by omega)
  · rename_i h0
    obtain ⟨h1, h2, h3, h4⟩ := (parts_ok (P := P)).resolve_left h0
    exact .inr ⟨h0, h1, h2, h3, .inl ⟨rfl, h4⟩⟩
end
end Go.Proofs.Qxb6500317aGreat
