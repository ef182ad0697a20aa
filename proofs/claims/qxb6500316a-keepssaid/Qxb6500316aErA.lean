/-
  Where a text is refused.
-/
import Derived.Test.Qxb6500316aCoC
set_option linter.unusedSimpArgs false
set_option linter.unusedVariables false
set_option maxRecDepth 100000
namespace Go.Proofs.Qxb6500316a
open Go Go.Vc

/-- A reading from p within the window that ends at e. -/
def Rg {α : Type} (e : Nat) (r : Res α) (p : Nat) : Prop := match r with
  | .ok _ q => p ≤ q ∧ q ≤ e
  | .err n a => 0 < n ∧ 0 ≤ a ∧ a ≤ (e : Int)
theorem Rg.bind {α β : Type} {e p : Nat} {r : Res α} {f : α → Nat → Res β} (h : Rg e r p) (hf : ∀ a q, r = .ok a q → p ≤ q → q ≤ e → Rg e (f a q) q) : Rg e (r.bind f) p := by
  cases r using Res.cs with
  | ok a q =>
    have h : p ≤ q ∧ q ≤ e := h
    have := hf a q rfl h.1 h.2
    show Rg e (f a q) p
    cases hr : f a q using Res.cs with
    | ok x q' => rw [hr] at this; have this : q ≤ q' ∧ q' ≤ e := this; exact ⟨by omega, this.2⟩
    | err n a => rw [hr] at this; exact this
  | err n a => exact h
theorem Rg.ok {α : Type} {e p q : Nat} (x : α) (h1 : p ≤ q) (h2 : q ≤ e) : Rg e (.ok x q) p := ⟨h1, h2⟩
theorem Rg.err {α : Type} {e p : Nat} {n a : Int} (h1 : 0 < n) (h2 : 0 ≤ a) (h3 : a ≤ (e : Int)) : Rg (α := α) e (.err n a) p := ⟨h1, h2, h3⟩
theorem Rg.wide {α : Type} {e e' p : Nat} {r : Res α} (h : Rg e r p) (he : e ≤ e') : Rg e' r p := by
  cases r using Res.cs with
  | ok x q => have h : p ≤ q ∧ q ≤ e := h; exact ⟨h.1, by omega⟩
  | err n a => have h : 0 < n ∧ 0 ≤ a ∧ a ≤ (e : Int) := h; exact ⟨h.1, h.2.1, by omega⟩
section
variable {s : ByteArray} {e p : Nat}
theorem next_rg (h : p ≤ e) : Rg e (nextP s e p) p := by
  unfold nextP
  split
  · exact Rg.ok _ (by omega) (by omega)
  · exact Rg.err (by decide) (by omega) (by omega)
theorem u32L_rg {st : Nat} (hst : st ≤ e) : ∀ (k : Nat) (v sh : Int) (p : Nat), p ≤ e → Rg e (u32L s e st k v sh p) p
  | 0, v, sh, p, h => Rg.err (by decide) (by omega) (by omega)
  | k + 1, v, sh, p, h => by
    rw [u32L_succ]
    refine (next_rg h).bind (fun c q _ h1 h2 => ?_)
    split
    · exact Rg.err (by decide) (by omega) (by omega)
    split
    · exact Rg.ok _ (Nat.le_refl _) h2
    · exact u32L_rg hst k _ _ q h2
theorem u32_rg (h : p ≤ e) : Rg e (u32P s e p) p := u32L_rg h 5 0 0 p h
theorem count_rg {m : Int} (h : p ≤ e) : Rg e (countP s e m p) p := by
  refine (u32_rg h).bind (fun n q _ h1 h2 => ?_)
  split
  · exact Rg.err (by decide) (by omega) (by omega)
  · exact Rg.ok _ (Nat.le_refl _) h2
theorem fixed_rg {x : Int} (h : p ≤ e) : Rg e (fixedP s e x p) p := by
  refine (next_rg h).bind (fun n q _ h1 h2 => ?_)
  split
  · exact Rg.ok _ (Nat.le_refl _) h2
  · exact Rg.err (by decide) (by omega) (by omega)
theorem flag_rg {x : Int} (h : p ≤ e) : Rg e (flagP s e x p) p := by
  refine (next_rg h).bind (fun n q _ h1 h2 => ?_)
  split
  · exact Rg.err (by decide) (by omega) (by omega)
  · exact Rg.ok _ (Nat.le_refl _) h2
theorem valtype_rg (h : p ≤ e) : Rg e (valtypeP s e p) p := by
  refine (next_rg h).bind (fun n q _ h1 h2 => ?_)
  split
  · exact Rg.err (by decide) (by omega) (by omega)
  · exact Rg.ok _ (Nat.le_refl _) h2
theorem take_rg {n : Nat} (h : p ≤ e) : Rg e (takeP s e n p) p := by
  unfold takeP
  split
  · exact Rg.err (by decide) (by omega) (by omega)
  · exact Rg.ok _ (by omega) (by omega)
theorem name_rg (h : p ≤ e) : Rg e (nameP s e p) p := (count_rg h).bind (fun n q _ h1 h2 => take_rg h2)
theorem limits_rg (h : p ≤ e) : Rg e (limitsP s e p) p := by
  refine (flag_rg h).bind (fun f q _ h1 h2 => (u32_rg h2).bind (fun lo q2 _ h3 h4 => ?_))
  split
  · exact Rg.ok _ (Nat.le_refl _) h4
  · exact (u32_rg h4).bind (fun hi q3 _ h5 h6 => Rg.ok _ (Nat.le_refl _) h6)
theorem valtypesL_rg : ∀ (k p : Nat), p ≤ e → Rg e (valtypesL s e k p) p
  | 0, p, h => Rg.ok _ (Nat.le_refl _) h
  | k + 1, p, h => (valtype_rg h).bind (fun _ q _ h1 h2 => valtypesL_rg k q h2)
theorem valtypes_rg {m : Int} (h : p ≤ e) : Rg e (valtypesP s e m p) p := (count_rg h).bind (fun n q _ h1 h2 => (valtypesL_rg n q h2).bind (fun _ q2 _ h3 h4 => Rg.ok _ (Nat.le_refl _) h4))
theorem slebL_rg {st : Nat} {bits : Int} (hst : st ≤ e) : ∀ (k : Nat) (v sh : Int) (p : Nat), p ≤ e → Rg e (slebL s e st bits k v sh p) p
  | 0, v, sh, p, h => Rg.err (by decide) (by omega) (by omega)
  | k + 1, v, sh, p, h => by
    rw [slebL_succ]
    split
    · exact Rg.err (by decide) (by omega) (by omega)
    refine (next_rg h).bind (fun c q _ h1 h2 => ?_)
    split
    · exact Rg.ok _ (Nat.le_refl _) h2
    · exact slebL_rg hst k _ _ q h2
theorem sleb_rg {bits : Int} (h : p ≤ e) : Rg e (slebP s e bits p) p := by
  refine (slebL_rg h 11 0 0 p h).bind (fun x q _ h1 h2 => ?_)
  split
  · exact Rg.ok _ (Nat.le_refl _) h2
  · exact Rg.err (by decide) (by omega) (by omega)
theorem word_rg {n : Nat} (h : p ≤ e) : Rg e (wordP s e n p) p := (take_rg h).bind (fun t q _ h1 h2 => Rg.ok _ (Nat.le_refl _) h2)
theorem rest_rg {op at_ : Int} (h : p ≤ e) (ha : 0 ≤ at_ ∧ at_ ≤ (e : Int)) : Rg e (restP s e op at_ p) p := by
  have fin : ∀ {q : Nat} (x : Ins), q ≤ e → Rg e (.ok x q) q := fun x hq => Rg.ok _ (Nat.le_refl _) hq
  unfold restP
  repeat' split
  · exact fin _ h
  · refine (next_rg h).bind (fun c q _ h1 h2 => ?_)
    split
    · exact Rg.err (by decide) (by omega) (by omega)
    · exact fin _ h2
  · exact (u32_rg h).bind (fun c q _ h1 h2 => fin _ h2)
  · exact (u32_rg h).bind (fun c q _ h1 h2 => (fixed_rg h2).bind (fun _ q2 _ h3 h4 => fin _ h4))
  · exact (fixed_rg h).bind (fun c q _ h1 h2 => fin _ h2)
  · exact (sleb_rg h).bind (fun c q _ h1 h2 => fin _ h2)
  · exact (sleb_rg h).bind (fun c q _ h1 h2 => fin _ h2)
  · exact (word_rg h).bind (fun c q _ h1 h2 => fin _ h2)
  · exact (word_rg h).bind (fun c q _ h1 h2 => fin _ h2)
  · exact (u32_rg h).bind (fun c q _ h1 h2 => (u32_rg h2).bind (fun _ q2 _ h3 h4 => fin _ h4))
  · exact Rg.err (by decide) ha.1 ha.2
  · exact fin _ h
theorem const_rg (h : p ≤ e) : Rg e (constP s e p) p := by
  refine (next_rg h).bind (fun op q _ h1 h2 => ?_)
  split
  · exact Rg.err (by decide) (by omega) (by omega)
  · refine (rest_rg h2 ⟨by omega, by omega⟩).bind (fun i q2 _ h3 h4 => (next_rg h4).bind (fun c q3 _ h5 h6 => ?_))
    split
    · exact Rg.ok _ (Nat.le_refl _) h6
    · exact Rg.err (by decide) (by omega) (by omega)
theorem enter_rg (h : p ≤ e) : Rg e (enterP s e p) p := by
  refine (u32_rg h).bind (fun n q _ h1 h2 => ?_)
  split
  · exact Rg.err (by decide) (by omega) (by omega)
  · exact Rg.ok _ (Nat.le_refl _) h2
theorem localsL_rg : ∀ (k : Nat) (acc : List Int) (p : Nat), p ≤ e → Rg e (localsL s e k acc p) p
  | 0, acc, p, h => Rg.ok _ (Nat.le_refl _) h
  | k + 1, acc, p, h => by
    rw [localsL_succ]
    exact (count_rg h).bind (fun n q _ h1 h2 => (valtype_rg h2).bind (fun t q2 _ h3 h4 => localsL_rg k _ q2 h4))
theorem locals_rg (h : p ≤ e) : Rg e (localsP s e p) p := (count_rg h).bind (fun n q _ h1 h2 => localsL_rg n [] q h2)
theorem brL_rg : ∀ (k : Nat) (c : Sc) (p : Nat), p ≤ e → Rg e (brL s e k c p) p
  | 0, c, p, h => Rg.ok _ (Nat.le_refl _) h
  | k + 1, c, p, h => (u32_rg h).bind (fun x q _ h1 h2 => brL_rg k _ q h2)
theorem restX_rg {c : Sc} {op at_ : Int} (h : p ≤ e) (ha : 0 ≤ at_ ∧ at_ ≤ (e : Int)) : Rg e (restX s e c op at_ p) p := by
  unfold restX
  split
  · exact (count_rg h).bind (fun k q _ h1 h2 => (brL_rg (k + 1) c q h2).bind (fun c' q2 _ h3 h4 => Rg.ok _ (Nat.le_refl _) h4))
  · exact (rest_rg h ha).bind (fun i q _ h1 h2 => Rg.ok _ (Nat.le_refl _) h2)
theorem bodyL_rg : ∀ (k : Nat) (c : Sc) (p : Nat), p ≤ e → e - p < k → Rg e (bodyL s e k c p) p
  | 0, c, p, h, hk => by omega
  | k + 1, c, p, h, hk => by
    haveI := outNil
    rw [bodyL_succ]
    refine (next_rg h).bind (fun op q hn h1 h2 => (restX_rg h2 ⟨by omega, by omega⟩).bind (fun x q2 _ h3 h4 => ?_))
    have hq := next_cost hn
    have go : ∀ d : Sc, Rg e (bodyL s e k d q2) q2 := fun d => bodyL_rg k d q2 h4 (by have := (nextP_ok hn).1; omega)
    unfold bodyStep
    split
    · exact Rg.err (by decide) (by omega) (by omega)
    split
    · split
      · exact Rg.err (by decide) (by omega) (by omega)
      · exact go _
    split
    · split
      · exact Rg.err (by decide) (by omega) (by omega)
      · exact go _
    split
    · split
      · exact Rg.ok _ (Nat.le_refl _) h4
      · exact go _
    · exact go _
theorem body_rg {c : Sc} (h : p ≤ e) : Rg e (bodyP s e c p) p := bodyL_rg _ _ p h (by omega)
theorem funcsL_rg : ∀ (k i : Nat) (f : Nat → Int) (p : Nat), p ≤ e → Rg e (funcsL s e k i f p) p
  | 0, i, f, p, h => Rg.ok _ (Nat.le_refl _) h
  | k + 1, i, f, p, h => (u32_rg h).bind (fun x q _ h1 h2 => funcsL_rg k _ _ q h2)
theorem typesL_rg : ∀ (k i : Nat) (f : Nat → ByteArray) (p : Nat), p ≤ e → Rg e (typesL s e k i f p) p
  | 0, i, f, p, h => Rg.ok _ (Nat.le_refl _) h
  | k + 1, i, f, p, h => (fixed_rg h).bind (fun _ q _ h1 h2 => (valtypes_rg h2).bind (fun _ q2 _ h3 h4 => (valtypes_rg h4).bind (fun _ q3 _ h5 h6 => typesL_rg k _ _ q3 h6)))
theorem importsL_rg : ∀ (k i : Nat) (f : Nat → ImpV) (p : Nat), p ≤ e → Rg e (importsL s e k i f p) p
  | 0, i, f, p, h => Rg.ok _ (Nat.le_refl _) h
  | k + 1, i, f, p, h => (name_rg h).bind (fun _ q _ h1 h2 => (name_rg h2).bind (fun _ q2 _ h3 h4 => (fixed_rg h4).bind (fun _ q3 _ h5 h6 => (u32_rg h6).bind (fun _ q4 _ h7 h8 => importsL_rg k _ _ q4 h8))))
theorem globsL_rg : ∀ (k i : Nat) (f : Nat → Glob) (p : Nat), p ≤ e → Rg e (globsL s e k i f p) p
  | 0, i, f, p, h => Rg.ok _ (Nat.le_refl _) h
  | k + 1, i, f, p, h => (valtype_rg h).bind (fun _ q _ h1 h2 => (flag_rg h2).bind (fun _ q2 _ h3 h4 => (const_rg h4).bind (fun _ q3 _ h5 h6 => globsL_rg k _ _ q3 h6)))
theorem exportsL_rg : ∀ (k i : Nat) (f : Nat → ExpV) (p : Nat), p ≤ e → Rg e (exportsL s e k i f p) p
  | 0, i, f, p, h => Rg.ok _ (Nat.le_refl _) h
  | k + 1, i, f, p, h => (name_rg h).bind (fun _ q _ h1 h2 => (flag_rg h2).bind (fun _ q2 _ h3 h4 => (u32_rg h4).bind (fun _ q3 _ h5 h6 => exportsL_rg k _ _ q3 h6)))
theorem datasL_rg : ∀ (k i : Nat) (f : Nat → DatV) (p : Nat), p ≤ e → Rg e (datasL s e k i f p) p
  | 0, i, f, p, h => Rg.ok _ (Nat.le_refl _) h
  | k + 1, i, f, p, h => (fixed_rg h).bind (fun _ q _ h1 h2 => (const_rg h2).bind (fun _ q2 _ h3 h4 => (count_rg h4).bind (fun _ q3 _ h5 h6 => (take_rg h6).bind (fun _ q4 _ h7 h8 => datasL_rg k _ _ q4 h8))))
theorem elemsL_rg : ∀ (k i : Nat) (f : Nat → ElV) (p : Nat), p ≤ e → Rg e (elemsL s e k i f p) p
  | 0, i, f, p, h => Rg.ok _ (Nat.le_refl _) h
  | k + 1, i, f, p, h => (fixed_rg h).bind (fun _ q _ h1 h2 => (const_rg h2).bind (fun _ q2 _ h3 h4 => (count_rg h4).bind (fun n q3 _ h5 h6 => (funcsL_rg n 0 _ q3 h6).bind (fun _ q4 _ h7 h8 => elemsL_rg k _ _ q4 h8))))
theorem codesL_rg : ∀ (k i : Nat) (c : Sc) (F : Nat → FnP) (p : Nat), p ≤ e → Rg e (codesL s e k i c F p) p
  | 0, i, c, F, p, h => Rg.ok _ (Nat.le_refl _) h
  | k + 1, i, c, F, p, h => by
    haveI := outNil
    rw [codesL_succ]
    refine (enter_rg h).bind (fun n q hn h1 h2 => ?_)
    have hf := enter_fit hn
    refine ((locals_rg (e := q + n) (by omega)).wide hf).bind (fun ls q1 hl h3 h4 => ?_)
    have l2 : q1 ≤ q + n := by
      have := locals_rg (s := s) (e := q + n) (p := q) (by omega)
      rw [hl] at this; exact this.2
    refine ((body_rg (e := q + n) l2).wide hf).bind (fun c' q2 _ h5 h6 => ?_)
    split
    · exact codesL_rg k _ _ _ q2 h6
    · exact Rg.err (by decide) (by omega) (by omega)
theorem sec_rg {id : Int} {c : Sc} {P : PM} (h : p ≤ e) : Rg e (secP s e id c P p) p := by
  have fin : ∀ {q : Nat} (x : Sc × PM), q ≤ e → Rg e (.ok x q) q := fun x hq => Rg.ok _ (Nat.le_refl _) hq
  unfold secP
  by_cases i1 : id = 1
  · rw [if_pos i1]
    exact Rg.bind ((count_rg h).bind (fun n q _ h1 h2 => (typesL_rg n 0 _ q h2).bind (fun f q2 _ h3 h4 => Rg.ok _ (Nat.le_refl _) h4))) (fun a q _ h1 h2 => fin _ h2)
  rw [if_neg i1]
  by_cases i2 : id = 2
  · rw [if_pos i2]
    exact Rg.bind ((count_rg h).bind (fun n q _ h1 h2 => (importsL_rg n 0 _ q h2).bind (fun f q2 _ h3 h4 => Rg.ok _ (Nat.le_refl _) h4))) (fun a q _ h1 h2 => fin _ h2)
  rw [if_neg i2]
  by_cases i3 : id = 3
  · rw [if_pos i3]
    exact Rg.bind ((count_rg h).bind (fun n q _ h1 h2 => (funcsL_rg n 0 _ q h2).bind (fun f q2 _ h3 h4 => Rg.ok _ (Nat.le_refl _) h4))) (fun a q _ h1 h2 => fin _ h2)
  rw [if_neg i3]
  by_cases i4 : id = 4
  · rw [if_pos i4]
    refine Rg.bind ((count_rg h).bind (fun n q _ h1 h2 => ?_)) (fun a q _ h1 h2 => fin _ h2)
    split
    · exact (fixed_rg h2).bind (fun _ q2 _ h3 h4 => (limits_rg h4).bind (fun x q3 _ h5 h6 => Rg.ok _ (Nat.le_refl _) h6))
    · exact Rg.ok _ (Nat.le_refl _) h2
  rw [if_neg i4]
  by_cases i5 : id = 5
  · rw [if_pos i5]
    refine Rg.bind ((count_rg h).bind (fun n q _ h1 h2 => ?_)) (fun a q _ h1 h2 => fin _ h2)
    split
    · exact (limits_rg h2).bind (fun x q3 _ h5 h6 => Rg.ok _ (Nat.le_refl _) h6)
    · exact Rg.ok _ (Nat.le_refl _) h2
  rw [if_neg i5]
  by_cases i6 : id = 6
  · rw [if_pos i6]
    exact Rg.bind ((count_rg h).bind (fun n q _ h1 h2 => (globsL_rg n 0 _ q h2).bind (fun f q2 _ h3 h4 => Rg.ok _ (Nat.le_refl _) h4))) (fun a q _ h1 h2 => fin _ h2)
  rw [if_neg i6]
  by_cases i7 : id = 7
  · rw [if_pos i7]
    exact Rg.bind ((count_rg h).bind (fun n q _ h1 h2 => (exportsL_rg n 0 _ q h2).bind (fun f q2 _ h3 h4 => Rg.ok _ (Nat.le_refl _) h4))) (fun a q _ h1 h2 => fin _ h2)
  rw [if_neg i7]
  by_cases i8 : id = 8
  · rw [if_pos i8]
    exact (u32_rg h).bind (fun a q _ h1 h2 => fin _ h2)
  rw [if_neg i8]
  by_cases i9 : id = 9
  · rw [if_pos i9]
    exact Rg.bind ((count_rg h).bind (fun n q _ h1 h2 => (elemsL_rg n 0 _ q h2).bind (fun f q2 _ h3 h4 => Rg.ok _ (Nat.le_refl _) h4))) (fun a q _ h1 h2 => fin _ h2)
  rw [if_neg i9]
  by_cases i10 : id = 10
  · rw [if_pos i10]
    refine Rg.bind ((count_rg h).bind (fun n q _ h1 h2 => ?_)) (fun a q _ h1 h2 => fin _ h2)
    split
    · exact (codesL_rg n 0 c _ q h2).bind (fun x q2 _ h3 h4 => Rg.ok _ (Nat.le_refl _) h4)
    · exact Rg.err (by decide) (by omega) (by omega)
  rw [if_neg i10]
  exact Rg.bind ((count_rg h).bind (fun n q _ h1 h2 => (datasL_rg n 0 _ q h2).bind (fun f q2 _ h3 h4 => Rg.ok _ (Nat.le_refl _) h4))) (fun a q _ h1 h2 => fin _ h2)
theorem decL_rg : ∀ (k : Nat) (last : Int) (c : Sc) (P : PM) (p : Nat), p ≤ s.size → s.size - p < k → Rg s.size (decL s k last c P p) p
  | 0, last, c, P, p, h, hk => by omega
  | k + 1, last, c, P, p, h, hk => by
    haveI := outNil
    rw [decL_succ]
    split
    · refine (next_rg h).bind (fun id q hn h1 h2 => ?_)
      split
      · exact Rg.err (by decide) (by omega) (by omega)
      refine (enter_rg h2).bind (fun n q1 he h3 h4 => ?_)
      have hf := enter_fit he
      refine ((sec_rg (e := q1 + n) (by omega)).wide hf).bind (fun cp q2 _ h5 h6 => ?_)
      split
      · exact decL_rg k _ _ _ q2 h6 (by have := next_cost hn; have := (nextP_ok hn).1; omega)
      · exact Rg.err (by decide) (by omega) (by omega)
    · split
      · exact Rg.ok _ (Nat.le_refl _) h
      · exact Rg.err (by decide) (by omega) (by omega)
theorem decA_err {c : Sc} {n a : Int} (h : decA s c = .err n a) : 0 < n ∧ 0 ≤ a ∧ a ≤ (s.size : Int) ∧ (1024 < s.size → n = 1 ∧ a = 0) := by
  unfold decA at h
  by_cases h1 : 1024 < s.size
  · rw [if_pos h1] at h
    (first | (injection h with z__; injection z__ with e1 e2) | injection h with e1 e2)
    exact ⟨by omega, by omega, by omega, fun _ => ⟨e1.symm, e2.symm⟩⟩
  rw [if_neg h1] at h
  by_cases h2 : s.size < 8
  · rw [if_pos h2] at h
    (first | (injection h with z__; injection z__ with e1 e2) | injection h with e1 e2)
    exact ⟨by omega, by omega, by omega, fun g => absurd g h1⟩
  rw [if_neg h2] at h
  split at h
  · have := decL_rg (s := s) (s.size - 8 + 1) 0 { c with nT := 0 } pm0 8 (by omega) (by omega)
    have h : decL s (s.size - 8 + 1) 0 { c with nT := 0 } pm0 8 = .err n a := h
    rw [h] at this
    exact ⟨this.1, this.2.1, this.2.2, fun g => absurd g h1⟩
  · (first | (injection h with z__; injection z__ with e1 e2) | injection h with e1 e2)
    exact ⟨by omega, by omega, by omega, fun g => absurd g h1⟩
end
theorem decA_ok {s : ByteArray} {c : Sc} {x : Sc × PM} {q : Nat} (h : decA s c = .ok x q) : 8 ≤ s.size ∧ s.size ≤ 1024 ∧ decP s c = .ok x q ∧ (ByteArray.toList (ByteArray.extract s 0 8) == ByteArray.toList ⟨#[0, 97, 115, 109, 1, 0, 0, 0]⟩) = true := by
  unfold decA at h
  by_cases h1 : 1024 < s.size
  · rw [if_pos h1] at h; cases h
  rw [if_neg h1] at h
  by_cases h2 : s.size < 8
  · rw [if_pos h2] at h; cases h
  rw [if_neg h2] at h
  split at h
  · rename_i h3
    exact ⟨by omega, by omega, h, h3⟩
  · cases h

end Go.Proofs.Qxb6500316a
