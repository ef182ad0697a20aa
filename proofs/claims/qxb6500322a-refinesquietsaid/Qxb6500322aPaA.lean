/-
  A module that is taken stays taken with a nop ahead of a body's last end.
-/
import Derived.Test.Qxb6500322aVpA
set_option linter.unusedSimpArgs false
set_option linter.unusedVariables false
set_option maxRecDepth 100000
set_option linter.unusedSectionVars false
namespace Go.Proofs.Qxb6500322a
open Go Go.Vc

def nopI : Ins := ⟨1, 0, 0⟩
def padI (n : Nat) (ins : Nat → Ins) : Nat → Ins := fun j => if j + 1 < n then ins j else if j + 1 = n then nopI else ins (n - 1)
def padF (x : FnP) : FnP := { x with nI := x.nI + 1, ins := padI x.nI x.ins }
def padP (P : PM) (k : Nat) : PM := { P with fn := upd P.fn k (padF (P.fn k)) }

section
variable {P : PM} {k : Nat} {ps ds : ByteArray} {x : Ins} {f : Fr} {r : List Fr} {o : List Int} {pc : Int}
theorem padP_ty (j : Nat) : ((padP P k).fn j).ty = (P.fn j).ty := by
  show (upd P.fn k (padF (P.fn k)) j).ty = _
  unfold upd
  by_cases h : j = k
  · rw [if_pos h, h]; rfl
  · rw [if_neg h]
theorem padP_typeOf (g : Int) : typeOf (padP P k) g = typeOf P g := by
  have e : tyIdx (padP P k) g = tyIdx P g := by
    unfold tyIdx
    simp only [padP_ty]
    rfl
  unfold typeOf
  rw [e]
  rfl
theorem padP_pln : plnP (padP P k) ps ds x f o = plnP P ps ds x f o := by
  have e : ∀ y, callP (padP P k) y f o = callP P y f o := fun y => by
    unfold callP
    rw [padP_typeOf]
    rfl
  unfold plnP
  rw [e]
  rfl
theorem padP_tyRow : ∀ n i, tyRow (padP P k) n i = tyRow P n i
  | 0, i => rfl
  | n + 1, i => by
    rw [tyRow_succ, tyRow_succ, padP_typeOf, padP_tyRow n (i + 1)]
theorem padP_gloRow : ∀ n i, gloRow (padP P k) n i = gloRow P n i
  | 0, i => rfl
  | n + 1, i => by
    rw [gloRow_succ, gloRow_succ, padP_gloRow n (i + 1)]; rfl
theorem padP_expRow : ∀ n i, expRow (padP P k) n i = expRow P n i
  | 0, i => rfl
  | n + 1, i => by
    have e : ∀ nm q j, dupRow (padP P k) nm q j = dupRow P nm q j := fun nm q => by
      induction q with
      | zero => intro j; rfl
      | succ q ih =>
        intro j
        unfold dupRow
        rw [ih]; rfl
    rw [expRow_succ, expRow_succ, padP_expRow n (i + 1), e]; rfl
theorem padP_elRow : ∀ n i, elRow (padP P k) n i = elRow P n i
  | 0, i => rfl
  | n + 1, i => by
    rw [elRow_succ, elRow_succ, padP_elRow n (i + 1)]; rfl
theorem padP_daRow : ∀ n i, daRow (padP P k) n i = daRow P n i
  | 0, i => rfl
  | n + 1, i => by
    rw [daRow_succ, daRow_succ, padP_daRow n (i + 1)]; rfl
theorem padP_parts : partsV (padP P k) = partsV P := by
  have e1 : stE (padP P k) = stE P := by
    unfold stE
    rw [padP_typeOf]
    rfl
  have e2 : segV (padP P k) = segV P := by
    unfold segV
    rw [padP_elRow, padP_daRow]
    rfl
  unfold partsV
  rw [padP_tyRow, padP_gloRow, padP_expRow, e1, e2]
  rfl

/-- A step that ends well is the body's own end, at its place. -/
theorem step_zero {fn : FnP} {p : Int} {o' : List Int} {k' : List Fr} (h : stepV P ps fn x pc o f r = .done p 0 o' k') : x.op = 11 ∧ pc + 1 = (fn.nI : Int) ∧ setl f o = true ∧ ¬ (f.op = 4 ∧ f.res ≠ 64) ∧ r.length = 0 := by
  have no : ∀ {p q : Int} {e : Int} {a : List Int} {b : List Fr}, e ≠ 0 → SR.done q e a b = .done p 0 o' k' → False := fun he g => by
    (first | (injection g with z__; injection z__ with _ z__; injection z__ with g2 z__; injection z__ with _ _) | injection g with _ g2 _ _)
    exact he g2
  have nx : ∀ {a : List Int} {b : List Fr}, SR.next a b = .done p 0 o' k' → False := fun g => by cases g
  have gv : ∀ {g : Int} {a : List Int} {b : List Fr}, giveV pc g a b = .done p 0 o' k' → False := fun {g a b} e => by
    unfold giveV at e
    split at e
    · exact nx e
    · split at e
      · exact nx e
      · exact no (by decide) e
  have op : ∀ {a : List Int}, opnV x pc a f r = .done p 0 o' k' → False := fun {a} e => by
    unfold opnV at e
    split at e
    · exact no (by decide) e
    · exact nx e
  unfold stepV at h
  split at h
  · exact (nx h).elim
  split at h
  · exact (nx h).elim
  split at h
  · unfold blkV at h
    split at h
    · split at h
      · exact (op h).elim
      · exact (no (by decide) h).elim
    · exact (op h).elim
  split at h
  · unfold elsV at h
    split at h
    · split at h
      · exact (no (by decide) h).elim
      · split at h
        · exact (nx h).elim
        · exact (no (by decide) h).elim
    · exact (no (by decide) h).elim
  split at h
  · rename_i h11
    unfold endV at h
    split at h
    · rename_i hs
      split at h
      · exact (no (by decide) h).elim
      · rename_i hif
        split at h
        · rename_i hr
          split at h
          · rename_i hp
            exact ⟨h11, hp, hs, hif, hr⟩
          · exact (no (by decide) h).elim
        · exact (gv h).elim
    · exact (no (by decide) h).elim
  split at h
  · unfold brV at h
    split at h
    · exact (no (by decide) h).elim
    · split at h
      · exact (nx h).elim
      · exact (no (by decide) h).elim
  split at h
  · unfold brifV at h
    split at h
    · split at h
      · exact (no (by decide) h).elim
      · split at h
        · exact (gv h).elim
        · exact (no (by decide) h).elim
    · exact (no (by decide) h).elim
  split at h
  · unfold tabV at h
    split at h
    · split at h
      · exact (no (by decide) h).elim
      · split at h
        · exact (no (by decide) h).elim
        · split at h
          · exact (nx h).elim
          · rename_i hz
            exact (no hz h).elim
    · exact (no (by decide) h).elim
  split at h
  · unfold retV at h
    split at h
    · exact (nx h).elim
    · exact (no (by decide) h).elim
  · unfold plnV at h
    split at h
    · exact (gv h).elim
    · rename_i hz
      exact (no hz h).elim

/-- A step that goes on goes on alike. -/
theorem step_pad {fn : FnP} {o' : List Int} {k' : List Fr} (h : stepV P ps fn x pc o f r = .next o' k') : stepV (padP P k) ps (padF fn) x pc o f r = .next o' k' := by
  have et : tabV (padF fn) x pc o f r = tabV fn x pc o f r := rfl
  have ep : plnV (padP P k) ps (strOfNums (padF fn).ls) x pc o f r = plnV P ps (strOfNums fn.ls) x pc o f r := by
    unfold plnV
    rw [padP_pln]
    rfl
  unfold stepV at h ⊢
  rw [et, ep]
  by_cases h11 : x.op = 11
  · have n1 : ¬ x.op = 1 := by omega
    have n0 : ¬ x.op = 0 := by omega
    have nb : ¬ (x.op = 2 ∨ x.op = 3 ∨ x.op = 4) := by omega
    have n5 : ¬ x.op = 5 := by omega
    rw [if_neg n1, if_neg n0, if_neg nb, if_neg n5, if_pos h11] at h ⊢
    unfold endV at h ⊢
    split at h
    · rename_i hs
      rw [if_pos hs]
      split at h
      · cases h
      · rename_i hif
        rw [if_neg hif]
        split at h
        · split at h <;> cases h
        · rename_i hr
          rw [if_neg hr]; exact h
    · cases h
  · rw [if_neg h11] at h ⊢
    exact h

theorem pad_low {n j : Nat} {ins : Nat → Ins} (h : j + 1 < n) : padI n ins j = ins j := by unfold padI; rw [if_pos h]
theorem pad_nop {n j : Nat} {ins : Nat → Ins} (h : j + 1 = n) : padI n ins j = nopI := by unfold padI; rw [if_neg (by omega), if_pos h]
theorem pad_end {n j : Nat} {ins : Nat → Ins} (h : j = n) (h0 : 0 < n) : padI n ins j = ins (n - 1) := by unfold padI; rw [if_neg (by omega), if_neg (by omega)]

theorem run_pad (fn : FnP) : ∀ (n pc : Nat) (o : List Int) (k0 : List Fr), pc + (n + 1) = fn.nI → (runV P ps fn (n + 1) pc o k0).2.1 = 0 → (runV (padP P k) ps (padF fn) (n + 2) pc o k0).1 = 0 ∧ (runV (padP P k) ps (padF fn) (n + 2) pc o k0).2.1 = 0
  | n, pc, o, [], hp, h => by
    have h : (11 : Int) = 0 := h
    omega
  | 0, pc, o, f :: r, hp, h => by
    rw [runV_cont] at h
    cases hs : stepV P ps fn (fn.ins pc) pc o f r using SR.cs with
    | next o' k' =>
      rw [hs] at h
      have h : (11 : Int) = 0 := h
      omega
    | done p e o' k' =>
      rw [hs] at h
      have h : e = 0 := h
      subst h
      obtain ⟨h1, h2, h3, h4, h5⟩ := step_zero hs
      rw [runV_cont]
      have e1 : (padF fn).ins pc = nopI := pad_nop (by omega)
      have s1 : stepV (padP P k) ps (padF fn) ((padF fn).ins pc) pc o f r = .next o (f :: r) := by
        rw [e1]; rfl
      rw [s1]
      show (runV (padP P k) ps (padF fn) (0 + 1) (pc + 1) o (f :: r)).1 = 0 ∧ (runV (padP P k) ps (padF fn) (0 + 1) (pc + 1) o (f :: r)).2.1 = 0
      rw [runV_cont]
      have e2 : (padF fn).ins (pc + 1) = fn.ins pc := by
        have : (padF fn).ins (pc + 1) = fn.ins (fn.nI - 1) := pad_end (by omega) (by omega)
        rw [this]; congr 1; omega
      have s2 : stepV (padP P k) ps (padF fn) ((padF fn).ins (pc + 1)) ((pc + 1 : Nat) : Int) o f r = .done 0 0 (carO f.res f o) r := by
        rw [e2]
        unfold stepV
        rw [if_neg (by omega), if_neg (by omega), if_neg (by omega), if_neg (by omega), if_pos h1]
        unfold endV
        rw [if_pos h3, if_neg h4, if_pos h5, if_pos]
        show ((pc + 1 : Nat) : Int) + 1 = ((fn.nI + 1 : Nat) : Int)
        omega
      rw [s2]
      exact ⟨rfl, rfl⟩
  | n + 1, pc, o, f :: r, hp, h => by
    rw [runV_cont] at h ⊢
    cases hs : stepV P ps fn (fn.ins pc) pc o f r using SR.cs with
    | done p e o' k' =>
      rw [hs] at h
      have h : e = 0 := h
      subst h
      obtain ⟨h1, h2, h3, h4, h5⟩ := step_zero hs
      omega
    | next o' k' =>
      rw [hs] at h
      have e1 : (padF fn).ins pc = fn.ins pc := pad_low (by omega)
      rw [e1, step_pad hs]
      exact run_pad fn n (pc + 1) o' k' (by omega) h

theorem run_same (fn : FnP) : ∀ (n pc : Nat) (o : List Int) (k0 : List Fr), runV (padP P k) ps fn n pc o k0 = runV P ps fn n pc o k0
  | 0, pc, o, k0 => rfl
  | n + 1, pc, o, [] => rfl
  | n + 1, pc, o, f :: r => by
    rw [runV_cont, runV_cont]
    have es : stepV (padP P k) ps fn (fn.ins pc) pc o f r = stepV P ps fn (fn.ins pc) pc o f r := by
      have ep : plnV (padP P k) ps (strOfNums fn.ls) (fn.ins pc) pc o f r = plnV P ps (strOfNums fn.ls) (fn.ins pc) pc o f r := by
        unfold plnV
        rw [padP_pln]
      unfold stepV
      rw [ep]
    rw [es]
    cases stepV P ps fn (fn.ins pc) pc o f r using SR.cs with
    | done p e o' k' => rfl
    | next o' k' => exact run_same fn n (pc + 1) o' k'

theorem fns_zero : ∀ (n j : Nat), (fnsV P n j).2.2 = 0 → ∀ i, j ≤ i → i < j + n → (bodyV P (P.fn i)).2.1 = 0
  | 0, j, h, i, h1, h2 => by omega
  | n + 1, j, h, i, h1, h2 => by
    rw [fnsV_succ] at h
    split at h
    · rename_i h0
      by_cases e : i = j
      · rw [e]; exact h0
      · exact fns_zero n (j + 1) h i (by omega) (by omega)
    · rename_i h0
      exact absurd h h0
theorem fns_all : ∀ (n j : Nat), (∀ i, j ≤ i → i < j + n → (bodyV P (P.fn i)).2.1 = 0) → fnsV P n j = ((P.nf : Int), 0, 0)
  | 0, j, h => rfl
  | n + 1, j, h => by
    rw [fnsV_succ, if_pos (h j (by omega) (by omega))]
    exact fns_all n (j + 1) (fun i h1 h2 => h i (by omega) (by omega))

theorem body_pad (hn : 0 < (P.fn k).nI) (h : ∀ i, i < P.nf → (bodyV P (P.fn i)).2.1 = 0) (i : Nat) (hi : i < P.nf) : (bodyV (padP P k) ((padP P k).fn i)).2.1 = 0 := by
  have ht : tyF (padP P k) ((padP P k).fn i) = tyF P (P.fn i) := by
    unfold tyF
    rw [padP_ty]
    rfl
  have h := h i hi
  unfold bodyV at h ⊢
  rw [ht]
  by_cases e : i = k
  · subst e
    have ef : (padP P i).fn i = padF (P.fn i) := by
      show upd P.fn i (padF (P.fn i)) i = _
      unfold upd; rw [if_pos rfl]
    rw [ef]
    obtain ⟨n, hn'⟩ : ∃ n, (P.fn i).nI = n + 1 := ⟨(P.fn i).nI - 1, by omega⟩
    have en : (padF (P.fn i)).nI = n + 2 := by
      show (P.fn i).nI + 1 = n + 2
      omega
    rw [en]
    rw [hn'] at h
    exact (run_pad (P.fn i) n 0 _ _ (by omega) h).2
  · have ef : (padP P k).fn i = P.fn i := by
      show upd P.fn k (padF (P.fn k)) i = _
      unfold upd; rw [if_neg e]
    rw [ef, run_same]
    exact h

theorem valid_pad (hn : 0 < (P.fn k).nI) (h : (validV P).2.2 = 0) : validV (padP P k) = ((P.nf : Int), 0, 0) := by
  unfold validV at h ⊢
  rw [padP_parts]
  split at h
  · rename_i h0
    rw [if_pos h0]
    have hz := fns_zero P.nf 0 h
    exact fns_all (P := padP P k) P.nf 0 (fun i _ h2 => body_pad hn (fun i hi => hz i (by omega) (by omega)) i (by omega))
  · rename_i h0
    exact absurd h h0

theorem padP_pb (B : PB P) (hk : k < P.nf) (hn : (P.fn k).nI ≤ 96) (h0 : 0 < (P.fn k).nI) : PB (padP P k) := by
  refine { B with fn := fun j hj => ?_ }
  show FnB (upd P.fn k (padF (P.fn k)) j)
  unfold upd
  by_cases e : j = k
  · rw [if_pos e]
    have b := B.fn k hk
    refine { b with nI := (by show (P.fn k).nI + 1 ≤ 97; omega), ins := fun i hi => ?_ }
    have hi : i < (P.fn k).nI + 1 := hi
    show InsIn (padI (P.fn k).nI (P.fn k).ins i)
    by_cases g : i + 1 < (P.fn k).nI
    · rw [pad_low g]; exact b.ins i (by omega)
    · by_cases g2 : i + 1 = (P.fn k).nI
      · rw [pad_nop g2]
        exact ⟨by decide, by decide, by decide, by decide, by decide, by decide⟩
      · rw [pad_end (by omega) h0]; exact b.ins _ (by omega)
  · rw [if_neg e]; exact B.fn j hj
end
end Go.Proofs.Qxb6500322a
