/-
  What was read cost no less than its shortest text: the module.
-/
import Derived.Test.Qxb6500316aCoA
import Derived.Test.Qxb6500316aRtF
set_option linter.unusedSimpArgs false
set_option linter.unusedVariables false
set_option maxRecDepth 100000
namespace Go.Proofs.Qxb6500316a
open Go Go.Vc

/-! ### Locals -/
def rn : List Int → Nat
  | [] => 0
  | [_] => 1
  | x :: y :: l => (if x = y then 0 else 1) + rn (y :: l)
theorem rn_rep (t : Int) : ∀ n, rn (List.replicate n t) ≤ 1
  | 0 => Nat.zero_le _
  | 1 => Nat.le_refl _
  | n + 2 => by
    show rn (t :: t :: List.replicate n t) ≤ 1
    have : rn (t :: t :: List.replicate n t) = (if t = t then 0 else 1) + rn (t :: List.replicate n t) := rfl
    rw [this, if_pos rfl, Nat.zero_add]
    exact rn_rep t (n + 1)
theorem rn_app (t : Int) (n : Nat) : ∀ l : List Int, rn (l ++ List.replicate n t) ≤ rn l + 1
  | [] => by rw [List.nil_append]; have := rn_rep t n; show _ ≤ 0 + 1; omega
  | [x] => by
    cases n with
    | zero => simp [rn]
    | succ n =>
      show rn (x :: t :: List.replicate n t) ≤ 1 + 1
      have e : rn (x :: t :: List.replicate n t) = (if x = t then 0 else 1) + rn (t :: List.replicate n t) := rfl
      have := rn_rep t (n + 1)
      rw [e]
      have h2 : rn (t :: List.replicate n t) ≤ 1 := this
      split <;> omega
  | x :: y :: l => by
    have ih := rn_app t n (y :: l)
    show (if x = y then 0 else 1) + rn (y :: l ++ List.replicate n t) ≤ (if x = y then 0 else 1) + rn (y :: l) + 1
    omega
theorem ng_rn {ls : List Int} (hv : ∀ x, x ∈ ls → VT x) : ∀ (k i : Nat), i + k = ls.length → ng (strOfNums ls) k i = rn (ls.drop i)
  | 0, i, h => by rw [List.drop_of_length_le (by omega)]; rfl
  | k + 1, i, h => by
    have e : ng (strOfNums ls) (k + 1) i = if i + 1 = (strOfNums ls).size ∨ byteAt (strOfNums ls) (i + 1) ≠ byteAt (strOfNums ls) i then ng (strOfNums ls) k (i + 1) + 1 else ng (strOfNums ls) k (i + 1) := rfl
    have esz : (strOfNums ls).size = ls.length := strOfNums_size ls
    rw [e, ng_rn hv k (i + 1) (by omega), List.drop_eq_getElem_cons (i := i) (by omega)]
    by_cases hl : i + 1 = ls.length
    · rw [if_pos (.inl (by omega)), List.drop_of_length_le (i := i + 1) (by omega)]; rfl
    · rw [List.drop_eq_getElem_cons (i := i + 1) (by omega), byteAt_nums ls hv i (by omega), byteAt_nums ls hv (i + 1) (by omega)]
      have e2 : rn (ls[i] :: ls[i + 1] :: ls.drop (i + 1 + 1)) = (if ls[i] = ls[i + 1] then 0 else 1) + rn (ls[i + 1] :: ls.drop (i + 1 + 1)) := rfl
      rw [e2]
      by_cases hq : ls[i] = ls[i + 1]
      · have n1 : ¬(i + 1 = (strOfNums ls).size ∨ ls[i + 1] ≠ ls[i]) := by
          intro g
          rcases g with g | g
          · omega
          · exact g hq.symm
        rw [if_pos hq, if_neg n1]; omega
      · rw [if_neg hq, if_pos (.inr (fun g => hq g.symm))]; omega
theorem grpF_len2 (t : ByteArray) : ∀ (k i n : Nat), n + k < 127 → (grpF t k i (n : Int)).length = 2 * ng t k i
  | 0, i, n, _ => rfl
  | k + 1, i, n, h => by
    haveI := outNil
    have e : ng t (k + 1) i = if i + 1 = t.size ∨ byteAt t (i + 1) ≠ byteAt t i then ng t k (i + 1) + 1 else ng t k (i + 1) := rfl
    rw [e, grpF_succ]
    have en : (n : Int) + 1 = ((n + 1 : Nat) : Int) := by omega
    split
    · rw [List.length_append, List.length_append, en, uleb_small (n + 1) (by omega)]
      have := grpF_len2 t k (i + 1) 0 (by omega)
      have this : (grpF t k (i + 1) 0).length = 2 * ng t k (i + 1) := this
      rw [this]
      show 1 + 1 + _ = _
      omega
    · rw [en]; exact grpF_len2 t k (i + 1) (n + 1) (by omega)
section
variable {s : ByteArray} {e p q : Nat}
theorem localsL_cost : ∀ (k : Nat) (acc : List Int) (p : Nat) {l : List Int} {q : Nat}, localsL s e k acc p = .ok l q → rn l ≤ rn acc + k ∧ p + 2 * k ≤ q
  | 0, acc, p, l, q, h => by (first | (injection h with z__; injection z__ with h1 h2) | injection h with h1 h2); subst h1; exact ⟨Nat.le_refl _, by omega⟩
  | k + 1, acc, p, l, q, h => by
    rw [localsL_succ] at h
    obtain ⟨n, q1, h1, h2⟩ := bind_ok h
    obtain ⟨t, q2, h3, h4⟩ := bind_ok h2
    obtain ⟨g1, g2⟩ := localsL_cost k _ _ h4
    have c1 := count_cost h1
    have c2 := (valtypeP_rng h3).2.2.1
    have c3 := uleb_pos (n : Int)
    have := rn_app t n acc
    exact ⟨by omega, by omega⟩
theorem locals_cost {ls : List Int} (h : localsP s e p = .ok ls q) : p + (locE (strOfNums ls)).length ≤ q := by
  have hv := localsP_vt h
  have h6 := (localsP_g h).1
  have esz : (strOfNums ls).size = ls.length := strOfNums_size ls
  obtain ⟨g, q1, h1, h2⟩ := bind_ok h
  obtain ⟨c1, c2⟩ := localsL_cost g [] q1 h2
  have c3 := count_cost h1
  have c4 := uleb_pos (g : Int)
  have hn := ng_le (strOfNums ls) (strOfNums ls).size 0
  have hr : ng (strOfNums ls) (strOfNums ls).size 0 = rn ls := by
    have := ng_rn hv ls.length 0 (by omega)
    rw [esz, this, List.drop_zero]
  have c1 : rn ls ≤ 0 + g := c1
  unfold locE
  rw [List.length_append, runs_ng, uleb_small _ (by omega)]
  have := grpF_len2 (strOfNums ls) (strOfNums ls).size 0 0 (by omega)
  have this : (grpF (strOfNums ls) (strOfNums ls).size 0 0).length = 2 * ng (strOfNums ls) (strOfNums ls).size 0 := this
  rw [this]
  show p + (1 + _) ≤ q
  omega

/-! ### Rows -/
theorem upd_keep {α : Type} {f : Nat → α} {i : Nat} {x : α} {f' : Nat → α} (h : ∀ j, j < i + 1 → f' j = upd f i x j) : (∀ j, j < i → f' j = f j) ∧ f' i = x := by
  refine ⟨fun j hj => ?_, ?_⟩
  · rw [h j (by omega)]; unfold upd; rw [if_neg (by omega)]
  · rw [h i (by omega)]; unfold upd; rw [if_pos rfl]
theorem funcsL_cost : ∀ (k i : Nat) (f : Nat → Int) (p : Nat) {f' : Nat → Int} {q : Nat}, funcsL s e k i f p = .ok f' q → (∀ j, j < i → f' j = f j) ∧ p + (rowsR uleb f' k i).length ≤ q
  | 0, i, f, p, f', q, h => by (first | (injection h with z__; injection z__ with h1 h2) | injection h with h1 h2); subst h1; exact ⟨fun j _ => rfl, by show p + 0 ≤ q; omega⟩
  | k + 1, i, f, p, f', q, h => by
    obtain ⟨t, q1, h1, h2⟩ := bind_ok h
    obtain ⟨g1, g2⟩ := funcsL_cost k (i + 1) _ _ h2
    obtain ⟨g3, g4⟩ := upd_keep g1
    have c1 := u32P_cost h1
    refine ⟨g3, ?_⟩
    rw [rowsR_succ, List.length_append, g4]; omega
theorem typesL_cost : ∀ (k i : Nat) (f : Nat → ByteArray) (p : Nat) {f' : Nat → ByteArray} {q : Nat}, typesL s e k i f p = .ok f' q → (∀ j, j < i → f' j = f j) ∧ p + (rowsR typeE f' k i).length ≤ q
  | 0, i, f, p, f', q, h => by (first | (injection h with z__; injection z__ with h1 h2) | injection h with h1 h2); subst h1; exact ⟨fun j _ => rfl, by show p + 0 ≤ q; omega⟩
  | k + 1, i, f, p, f', q, h => by
    obtain ⟨u, q1, h1, h2⟩ := bind_ok h
    obtain ⟨a, q2, h3, h4⟩ := bind_ok h2
    obtain ⟨z, q3, h5, h6⟩ := bind_ok h4
    obtain ⟨g1, g2⟩ := typesL_cost k (i + 1) _ _ h6
    obtain ⟨g3, g4⟩ := upd_keep g1
    have c1 := fixed_cost h1; have c2 := valtypes_cost h3; have c3 := valtypes_cost h5
    obtain ⟨sp, _⟩ := type_split (valtypesP_vals (max := 4) rfl h3) (valtypesP_vals (max := 1) rfl h5)
    refine ⟨g3, ?_⟩
    rw [rowsR_succ, List.length_append, g4]
    have el : (typeE ((a ++ (⟨#[58]⟩ : ByteArray)) ++ z)).length = 1 + (rawE a).length + (rawE z).length := by unfold typeE; rw [sp, List.length_append, List.length_append]; rfl
    omega
theorem importsL_cost : ∀ (k i : Nat) (f : Nat → ImpV) (p : Nat) {f' : Nat → ImpV} {q : Nat}, importsL s e k i f p = .ok f' q → (∀ j, j < i → f' j = f j) ∧ p + (rowsR impE' f' k i).length ≤ q
  | 0, i, f, p, f', q, h => by (first | (injection h with z__; injection z__ with h1 h2) | injection h with h1 h2); subst h1; exact ⟨fun j _ => rfl, by show p + 0 ≤ q; omega⟩
  | k + 1, i, f, p, f', q, h => by
    obtain ⟨v0, q1, h1, h2⟩ := bind_ok h
    obtain ⟨v1, q2, h3, h4⟩ := bind_ok h2
    obtain ⟨u, q3, h5, h6⟩ := bind_ok h4
    obtain ⟨v3, q4, h7, h8⟩ := bind_ok h6
    obtain ⟨g1, g2⟩ := importsL_cost k (i + 1) _ _ h8
    obtain ⟨g3, g4⟩ := upd_keep g1
    have c1 := name_cost h1; have c2 := name_cost h3; have c3 := fixed_cost h5; have c4 := u32P_cost h7
    refine ⟨g3, ?_⟩
    rw [rowsR_succ, List.length_append, g4]
    have el : (impE' ⟨v0, v1, v3⟩).length = (rawE v0).length + (rawE v1).length + 1 + (uleb v3).length := by unfold impE'; rw [List.length_append, List.length_append, List.length_append]; rfl
    omega
theorem globsL_cost : ∀ (k i : Nat) (f : Nat → Glob) (p : Nat) {f' : Nat → Glob} {q : Nat}, globsL s e k i f p = .ok f' q → (∀ j, j < i → f' j = f j) ∧ p + (rowsR globE' f' k i).length ≤ q
  | 0, i, f, p, f', q, h => by (first | (injection h with z__; injection z__ with h1 h2) | injection h with h1 h2); subst h1; exact ⟨fun j _ => rfl, by show p + 0 ≤ q; omega⟩
  | k + 1, i, f, p, f', q, h => by
    obtain ⟨v0, q1, h1, h2⟩ := bind_ok h
    obtain ⟨v1, q2, h3, h4⟩ := bind_ok h2
    obtain ⟨v2, q3, h5, h6⟩ := bind_ok h4
    obtain ⟨g1, g2⟩ := globsL_cost k (i + 1) _ _ h6
    obtain ⟨g3, g4⟩ := upd_keep g1
    have c1 := (valtypeP_rng h1).2.2.1; have c2 := flag_cost h3; have c3 := const_cost h5
    refine ⟨g3, ?_⟩
    rw [rowsR_succ, List.length_append, g4]
    have el : (globE' ⟨v0, v1 == 1, v2⟩).length = 2 + (konE v2).length := by unfold globE'; rw [List.length_append]; rfl
    omega
theorem exportsL_cost : ∀ (k i : Nat) (f : Nat → ExpV) (p : Nat) {f' : Nat → ExpV} {q : Nat}, exportsL s e k i f p = .ok f' q → (∀ j, j < i → f' j = f j) ∧ p + (rowsR expE' f' k i).length ≤ q
  | 0, i, f, p, f', q, h => by (first | (injection h with z__; injection z__ with h1 h2) | injection h with h1 h2); subst h1; exact ⟨fun j _ => rfl, by show p + 0 ≤ q; omega⟩
  | k + 1, i, f, p, f', q, h => by
    obtain ⟨v0, q1, h1, h2⟩ := bind_ok h
    obtain ⟨v1, q2, h3, h4⟩ := bind_ok h2
    obtain ⟨v2, q3, h5, h6⟩ := bind_ok h4
    obtain ⟨g1, g2⟩ := exportsL_cost k (i + 1) _ _ h6
    obtain ⟨g3, g4⟩ := upd_keep g1
    have c1 := name_cost h1; have c2 := flag_cost h3; have c3 := u32P_cost h5
    refine ⟨g3, ?_⟩
    rw [rowsR_succ, List.length_append, g4]
    have el : (expE' ⟨v0, v1, v2⟩).length = (rawE v0).length + 1 + (uleb v2).length := by unfold expE'; rw [List.length_append, List.length_append]; rfl
    omega
theorem datasL_cost : ∀ (k i : Nat) (f : Nat → DatV) (p : Nat) {f' : Nat → DatV} {q : Nat}, datasL s e k i f p = .ok f' q → (∀ j, j < i → f' j = f j) ∧ p + (rowsR datE' f' k i).length ≤ q
  | 0, i, f, p, f', q, h => by (first | (injection h with z__; injection z__ with h1 h2) | injection h with h1 h2); subst h1; exact ⟨fun j _ => rfl, by show p + 0 ≤ q; omega⟩
  | k + 1, i, f, p, f', q, h => by
    obtain ⟨u, q1, h1, h2⟩ := bind_ok h
    obtain ⟨v1, q2, h3, h4⟩ := bind_ok h2
    obtain ⟨v2, q3, h5, h6⟩ := bind_ok h4
    obtain ⟨v3, q4, h7, h8⟩ := bind_ok h6
    obtain ⟨g1, g2⟩ := datasL_cost k (i + 1) _ _ h8
    obtain ⟨g3, g4⟩ := upd_keep g1
    have c1 := fixed_cost h1; have c2 := const_cost h3; have c3 := count_cost h5; obtain ⟨c4, c5⟩ := take_cost h7
    have c6 := raw_le c5 (count_w32 h5)
    refine ⟨g3, ?_⟩
    rw [rowsR_succ, List.length_append, g4]
    have el : (datE' ⟨v1, v3⟩).length = 1 + (konE v1).length + (rawE v3).length := by unfold datE'; rw [List.length_append, List.length_append]; rfl
    omega
theorem elemsL_cost : ∀ (k i : Nat) (f : Nat → ElV) (p : Nat) {f' : Nat → ElV} {q : Nat}, elemsL s e k i f p = .ok f' q → (∀ j, j < i → f' j = f j) ∧ p + (rowsR elE' f' k i).length ≤ q
  | 0, i, f, p, f', q, h => by (first | (injection h with z__; injection z__ with h1 h2) | injection h with h1 h2); subst h1; exact ⟨fun j _ => rfl, by show p + 0 ≤ q; omega⟩
  | k + 1, i, f, p, f', q, h => by
    obtain ⟨u, q1, h1, h2⟩ := bind_ok h
    obtain ⟨x, q2, h3, h4⟩ := bind_ok h2
    obtain ⟨n, q3, h5, h6⟩ := bind_ok h4
    obtain ⟨g, q4, h7, h8⟩ := bind_ok h6
    obtain ⟨g1, g2⟩ := elemsL_cost k (i + 1) _ _ h8
    obtain ⟨g3, g4⟩ := upd_keep g1
    have c1 := fixed_cost h1; have c2 := const_cost h3; have c3 := count_cost h5; have c4 := (funcsL_cost n 0 _ _ h7).2
    refine ⟨g3, ?_⟩
    rw [rowsR_succ, List.length_append, g4]
    have el : (elE' ⟨x, n, g⟩).length = 1 + (konE x).length + (uleb (n : Int)).length + (rowsR uleb g n 0).length := by unfold elE'; rw [List.length_append, List.length_append, List.length_append, rowsE_eqR]; rfl
    omega
/-- A window of n bytes whose content has a shorter text. -/
theorem win_le {m n : Nat} (h : m ≤ n) (hn : W32 (n : Int)) : (uleb (m : Int)).length + m ≤ (uleb (n : Int)).length + n := by
  have := uleb_mono (a := (m : Int)) (b := (n : Int)) (by omega) (by omega) (by rw [pow128_10]; have := hn.2; omega)
  omega
theorem codesL_cost : ∀ (k i : Nat) (c : Sc) (F : Nat → FnP) (p : Nat) {x : Sc × (Nat → FnP)} {q : Nat}, codesL s e k i c F p = .ok x q → (∀ j, j < i → x.2 j = F j) ∧ (∀ j, i ≤ j → j < i + k → (x.2 j).ty = c.types j) ∧ p + (rowsR codeE x.2 k i).length ≤ q
  | 0, i, c, F, p, x, q, h => by (first | (injection h with z__; injection z__ with h1 h2) | injection h with h1 h2); subst h1; exact ⟨fun j _ => rfl, fun j h1 h2 => by omega, by show p + 0 ≤ q; omega⟩
  | k + 1, i, c, F, p, x, q, h => by
    haveI := outNil
    rw [codesL_succ] at h
    obtain ⟨n, q1, h1, h2⟩ := bind_ok h
    obtain ⟨ls, q2, h3, h4⟩ := bind_ok h2
    obtain ⟨c', q3, h5, h6⟩ := bind_ok h4
    split at h6
    · rename_i hq
      obtain ⟨g1, gt, g2⟩ := codesL_cost k (i + 1) _ _ _ h6
      obtain ⟨g3, g4⟩ := upd_keep g1
      obtain ⟨_, bt, _⟩ := bodyP_g h5
      obtain ⟨c1, c1w⟩ := enter_cost h1
      have c2 := locals_cost h3
      have c3 := bodyP_cost h5
      refine ⟨g3, fun j j1 j2 => ?_, ?_⟩
      · by_cases hj : j = i
        · rw [hj, g4]
        · rw [gt j (by omega) (by omega), bt]
      · rw [rowsR_succ, List.length_append, g4]
        have et : (fnText ⟨c.types i, ls, c'.nI, c'.ins, c'.nTab, c'.tabs⟩).length = (locE (strOfNums ls)).length + (rowsE (fun x => insE x c'.nTab c'.tabs) c'.ins c'.nI).length := by unfold fnText; rw [List.length_append]; rfl
        have el : (codeE ⟨c.types i, ls, c'.nI, c'.ins, c'.nTab, c'.tabs⟩).length = (uleb ((fnText ⟨c.types i, ls, c'.nI, c'.ins, c'.nTab, c'.tabs⟩).length : Int)).length + (fnText ⟨c.types i, ls, c'.nI, c'.ins, c'.nTab, c'.tabs⟩).length := by unfold codeE; rw [List.length_append]
        have := win_le (m := (fnText ⟨c.types i, ls, c'.nI, c'.ins, c'.nTab, c'.tabs⟩).length) (n := n) (by omega) c1w
        omega
    · cases h6
end

end Go.Proofs.Qxb6500316a
