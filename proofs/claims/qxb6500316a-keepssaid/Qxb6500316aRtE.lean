/-
  Rows of a section, written and read again.
-/
import Derived.Test.Qxb6500316aRtD
set_option linter.unusedSimpArgs false
set_option linter.unusedVariables false
set_option maxRecDepth 100000
namespace Go.Proofs.Qxb6500316a
open Go Go.Vc

theorem splitF_cases (t : ByteArray) : ∀ (k i : Nat), i + k = t.size → splitF t k i = (t, ⟨#[]⟩) ∨ ∃ a, a < t.size ∧ byteAt t a = 58 ∧ splitF t k i = (t.extract 0 a, t.extract (a + 1) t.size)
  | 0, i, _ => .inl rfl
  | k + 1, i, h => by
    rw [splitF_succ]
    by_cases hc : byteAt t i = 58
    · rw [if_pos hc]; exact .inr ⟨i, by omega, hc, rfl⟩
    · rw [if_neg hc]; exact splitF_cases t k (i + 1) (by omega)
theorem type_join {t : ByteArray} (h : TyW t) : ((splitP t).1 ++ (⟨#[58]⟩ : ByteArray)) ++ (splitP t).2 = t := by
  have h1 : (⟨#[58]⟩ : ByteArray).size = 1 := rfl
  have hs := h.1
  unfold splitP at hs ⊢
  rcases splitF_cases t t.size 0 (by omega) with e | ⟨a, ha, hc, e⟩
  · rw [e] at hs
    have : t.size + 0 + 1 = t.size := hs
    omega
  · rw [e]
    show (t.extract 0 a ++ (⟨#[58]⟩ : ByteArray)) ++ t.extract (a + 1) t.size = t
    have s1 : (t.extract 0 a).size = a := by rw [ByteArray.size_extract]; omega
    have s2 : (t.extract (a + 1) t.size).size = t.size - (a + 1) := by rw [ByteArray.size_extract]; omega
    refine bytes_ext (by rw [ByteArray.size_append, ByteArray.size_append, s1, s2, h1]; omega) (fun j hj => ?_)
    rw [ByteArray.size_append, ByteArray.size_append, s1, s2, h1] at hj
    rw [byteAt_append, ByteArray.size_append, s1, h1]
    by_cases j1 : j < a + 1
    · rw [if_pos j1, byteAt_append, s1]
      by_cases j2 : j < a
      · rw [if_pos j2, byteAt_extract _ _ _ _ (by omega), Nat.zero_add]
      · rw [if_neg j2, show j - a = 0 by omega]
        have : j = a := by omega
        rw [this, hc]; rfl
    · rw [if_neg j1, byteAt_extract _ _ _ _ (by omega)]
      congr 1; omega
/-- f' is g from i on, k of them; below i it is f. -/
def Got {α : Type} (f f' g : Nat → α) (i k : Nat) : Prop := (∀ j, j < i → f' j = f j) ∧ ∀ j, i ≤ j → j < i + k → f' j = g j
theorem Got.zero {α : Type} (f g : Nat → α) (i : Nat) : Got f f g i 0 := ⟨fun j _ => rfl, fun j h1 h2 => by omega⟩
theorem Got.step {α : Type} {f f' g : Nat → α} {i k : Nat} (h : Got (upd f i (g i)) f' g (i + 1) k) : Got f f' g i (k + 1) := by
  refine ⟨fun j hj => ?_, fun j h1 h2 => ?_⟩
  · rw [h.1 j (by omega)]; unfold upd; rw [if_neg (by omega)]
  · by_cases hj : j = i
    · rw [h.1 j (by omega), hj]; unfold upd; rw [if_pos rfl]
    · exact h.2 j (by omega) (by omega)
section
variable {s : ByteArray} {e : Nat}
theorem funcsL_at {g : Nat → Int} : ∀ (k i : Nat) (f : Nat → Int) (p : Nat), (∀ j, j < i + k → W32 (g j)) → At s p (rowsR uleb g k i) → p + (rowsR uleb g k i).length ≤ e →
    ∃ f', funcsL s e k i f p = .ok f' (p + (rowsR uleb g k i).length) ∧ Got f f' g i k
  | 0, i, f, p, _, _, _ => ⟨f, rfl, Got.zero _ _ _⟩
  | k + 1, i, f, p, hw, ha, he => by
    rw [rowsR_succ] at ha he ⊢
    rw [List.length_append] at he ⊢
    obtain ⟨f', h1, h2⟩ := funcsL_at k (i + 1) (upd f i (g i)) (p + (uleb (g i)).length) (fun j hj => hw j (by omega)) ha.right (by omega)
    refine ⟨f', ?_, h2.step⟩
    show (u32P s e p).bind _ = _
    rw [u32P_at (hw i (by omega)) ha.left (by omega)]
    simp only [Res.bind]
    rw [h1, Nat.add_assoc]
theorem typesL_at (hs : e ≤ s.size) {g : Nat → ByteArray} : ∀ (k i : Nat) (f : Nat → ByteArray) (p : Nat), (∀ j, j < i + k → TyW (g j)) → At s p (rowsR typeE g k i) → p + (rowsR typeE g k i).length ≤ e →
    ∃ f', typesL s e k i f p = .ok f' (p + (rowsR typeE g k i).length) ∧ Got f f' g i k
  | 0, i, f, p, _, _, _ => ⟨f, rfl, Got.zero _ _ _⟩
  | k + 1, i, f, p, hw, ha, he => by
    haveI := outNil
    rw [rowsR_succ] at ha he ⊢
    rw [List.length_append] at he ⊢
    obtain ⟨f', h1, h2⟩ := typesL_at hs k (i + 1) (upd f i (g i)) (p + (typeE (g i)).length) (fun j hj => hw j (by omega)) ha.right (by omega)
    refine ⟨f', ?_, h2.step⟩
    have hT := hw i (by omega)
    have a1 := ha.left
    have el : (typeE (g i)).length = 1 + (rawE (splitP (g i)).1).length + (rawE (splitP (g i)).2).length := by unfold typeE; rw [List.length_append, List.length_append]; rfl
    unfold typeE at a1
    have e1 : ([96] : List Int).length = 1 := rfl
    have a2 := a1.left.right
    have a3 := a1.right
    rw [List.length_append, e1] at a3
    rw [e1] at a2
    rw [typesL_succ, fixedP_at a1.left.left (by omega)]
    simp only [Res.bind]
    have v4 := valtypesP_at (e := e) hT.2.1 (by decide) a2 (by omega) hs
    have v1 := valtypesP_at (e := e) hT.2.2 (by decide) a3 (by omega) hs
    rw [show ((4 : Nat) : Int) = 4 from rfl] at v4
    rw [show ((1 : Nat) : Int) = 1 from rfl] at v1
    rw [v4]
    simp only []
    rw [show p + 1 + (rawE (splitP (g i)).1).length = p + (1 + (rawE (splitP (g i)).1).length) by omega, v1]
    simp only []
    rw [type_join hT, show p + (1 + (rawE (splitP (g i)).1).length) + (rawE (splitP (g i)).2).length = p + (typeE (g i)).length by omega, h1, Nat.add_assoc]
theorem importsL_at (hs : e ≤ s.size) {g : Nat → ImpV} : ∀ (k i : Nat) (f : Nat → ImpV) (p : Nat), (∀ j, j < i + k → ImW (g j) ∧ W32 (g j).ty) → At s p (rowsR impE' g k i) → p + (rowsR impE' g k i).length ≤ e →
    ∃ f', importsL s e k i f p = .ok f' (p + (rowsR impE' g k i).length) ∧ Got f f' g i k
  | 0, i, f, p, _, _, _ => ⟨f, rfl, Got.zero _ _ _⟩
  | k + 1, i, f, p, hw, ha, he => by
    rw [rowsR_succ] at ha he ⊢
    rw [List.length_append] at he ⊢
    obtain ⟨f', h1, h2⟩ := importsL_at hs k (i + 1) (upd f i (g i)) (p + (impE' (g i)).length) (fun j hj => hw j (by omega)) ha.right (by omega)
    refine ⟨f', ?_, h2.step⟩
    obtain ⟨⟨hT1, hT2⟩, hT3⟩ := hw i (by omega)
    have a1 := ha.left
    have el : (impE' (g i)).length = (rawE (g i).md).length + (rawE (g i).nm).length + 1 + (uleb (g i).ty).length := by unfold impE'; rw [List.length_append, List.length_append, List.length_append]; rfl
    unfold impE' at a1
    have e1 : ([0] : List Int).length = 1 := rfl
    have a2 := a1.left.left.right
    have a3 := a1.left.right
    rw [List.length_append] at a3
    have a4 := a1.right
    rw [List.length_append, List.length_append, e1] at a4
    show (nameP s e p).bind _ = _
    rw [nameP_at hT1 a1.left.left.left (by omega) hs]
    simp only [Res.bind]
    rw [nameP_at hT2 a2 (by omega) hs]
    simp only []
    rw [show p + (rawE (g i).md).length + (rawE (g i).nm).length = p + ((rawE (g i).md).length + (rawE (g i).nm).length) by omega, fixedP_at a3 (by omega)]
    simp only []
    rw [show p + ((rawE (g i).md).length + (rawE (g i).nm).length) + 1 = p + ((rawE (g i).md).length + (rawE (g i).nm).length + 1) by omega, u32P_at hT3 a4 (by omega)]
    simp only []
    rw [show p + ((rawE (g i).md).length + (rawE (g i).nm).length + 1) + (uleb (g i).ty).length = p + (impE' (g i)).length by omega, h1, Nat.add_assoc]
theorem globsL_at (hs : e ≤ s.size) {g : Nat → Glob} : ∀ (k i : Nat) (f : Nat → Glob) (p : Nat), (∀ j, j < i + k → GlW (g j) ∧ InsIn (g j).init) → At s p (rowsR globE' g k i) → p + (rowsR globE' g k i).length ≤ e →
    ∃ f', globsL s e k i f p = .ok f' (p + (rowsR globE' g k i).length) ∧ Got f f' g i k
  | 0, i, f, p, _, _, _ => ⟨f, rfl, Got.zero _ _ _⟩
  | k + 1, i, f, p, hw, ha, he => by
    rw [rowsR_succ] at ha he ⊢
    rw [List.length_append] at he ⊢
    obtain ⟨f', h1, h2⟩ := globsL_at hs k (i + 1) (upd f i (g i)) (p + (globE' (g i)).length) (fun j hj => hw j (by omega)) ha.right (by omega)
    refine ⟨f', ?_, h2.step⟩
    obtain ⟨⟨hT1, hT2⟩, hT3⟩ := hw i (by omega)
    have a1 := ha.left
    have el : (globE' (g i)).length = 2 + (konE (g i).init).length := by unfold globE'; rw [List.length_append]; rfl
    unfold globE' at a1
    have a2 := a1.right
    have e2 : ([(g i).ty, if (g i).mu = true then 1 else 0] : List Int).length = 2 := rfl
    rw [e2] at a2
    have a0 := a1.left
    have hf : (if (g i).mu = true then (1 : Int) else 0) ≤ 1 := by split <;> decide
    show (valtypeP s e p).bind _ = _
    rw [valtypeP_at a0 hT1 (by omega)]
    simp only [Res.bind]
    rw [flagP_at a0.tail hf (by omega)]
    simp only []
    rw [show p + 1 + 1 = p + 2 by omega, constP_at hT3 hT2 a2 (by omega) hs]
    simp only []
    have em : ((if (g i).mu = true then (1 : Int) else 0) == 1) = (g i).mu := by cases (g i).mu <;> rfl
    rw [em, show p + 2 + (konE (g i).init).length = p + (globE' (g i)).length by omega]
    rw [show (⟨(g i).ty, (g i).mu, (g i).init⟩ : Glob) = g i from rfl, h1, Nat.add_assoc]
theorem exportsL_at (hs : e ≤ s.size) {g : Nat → ExpV} : ∀ (k i : Nat) (f : Nat → ExpV) (p : Nat), (∀ j, j < i + k → ExW (g j) ∧ 0 ≤ (g j).kind ∧ W32 (g j).idx) → At s p (rowsR expE' g k i) → p + (rowsR expE' g k i).length ≤ e →
    ∃ f', exportsL s e k i f p = .ok f' (p + (rowsR expE' g k i).length) ∧ Got f f' g i k
  | 0, i, f, p, _, _, _ => ⟨f, rfl, Got.zero _ _ _⟩
  | k + 1, i, f, p, hw, ha, he => by
    rw [rowsR_succ] at ha he ⊢
    rw [List.length_append] at he ⊢
    obtain ⟨f', h1, h2⟩ := exportsL_at hs k (i + 1) (upd f i (g i)) (p + (expE' (g i)).length) (fun j hj => hw j (by omega)) ha.right (by omega)
    refine ⟨f', ?_, h2.step⟩
    obtain ⟨⟨hT1, hT2⟩, _, hT3⟩ := hw i (by omega)
    have a1 := ha.left
    have el : (expE' (g i)).length = (rawE (g i).nm).length + 1 + (uleb (g i).idx).length := by unfold expE'; rw [List.length_append, List.length_append]; rfl
    unfold expE' at a1
    have e1 : ([(g i).kind] : List Int).length = 1 := rfl
    have a3 := a1.right
    rw [List.length_append, e1] at a3
    show (nameP s e p).bind _ = _
    rw [nameP_at hT1 a1.left.left (by omega) hs]
    simp only [Res.bind]
    rw [flagP_at a1.left.right hT2 (by omega)]
    simp only []
    rw [show p + (rawE (g i).nm).length + 1 = p + ((rawE (g i).nm).length + 1) by omega, u32P_at hT3 a3 (by omega)]
    simp only []
    rw [show p + ((rawE (g i).nm).length + 1) + (uleb (g i).idx).length = p + (expE' (g i)).length by omega, h1, Nat.add_assoc]
theorem datasL_at (hs : e ≤ s.size) {g : Nat → DatV} : ∀ (k i : Nat) (f : Nat → DatV) (p : Nat), (∀ j, j < i + k → DaW (g j) ∧ InsIn (g j).off) → At s p (rowsR datE' g k i) → p + (rowsR datE' g k i).length ≤ e →
    ∃ f', datasL s e k i f p = .ok f' (p + (rowsR datE' g k i).length) ∧ Got f f' g i k
  | 0, i, f, p, _, _, _ => ⟨f, rfl, Got.zero _ _ _⟩
  | k + 1, i, f, p, hw, ha, he => by
    rw [rowsR_succ] at ha he ⊢
    rw [List.length_append] at he ⊢
    obtain ⟨f', h1, h2⟩ := datasL_at hs k (i + 1) (upd f i (g i)) (p + (datE' (g i)).length) (fun j hj => hw j (by omega)) ha.right (by omega)
    refine ⟨f', ?_, h2.step⟩
    obtain ⟨⟨hT1, hT2⟩, hT3⟩ := hw i (by omega)
    have a1 := ha.left
    have el : (datE' (g i)).length = 1 + (konE (g i).off).length + ((uleb ((g i).bytes.size : Int)).length + (g i).bytes.size) := by unfold datE'; rw [List.length_append, List.length_append, rawE_length]; rfl
    unfold datE' at a1
    have e1 : ([0] : List Int).length = 1 := rfl
    have a2 := a1.left.right
    rw [e1] at a2
    have a3 := a1.right
    rw [List.length_append, e1] at a3
    unfold rawE at a3
    show (fixedP s e 0 p).bind _ = _
    rw [fixedP_at a1.left.left (by omega)]
    simp only [Res.bind]
    rw [constP_at hT3 hT1 a2 (by omega) hs]
    simp only []
    rw [show p + 1 + (konE (g i).off).length = p + (1 + (konE (g i).off).length) by omega, countP_at (by omega) (by omega) a3.left (by omega)]
    simp only []
    rw [takeP_at a3.right (by omega) hs]
    simp only []
    rw [show p + (1 + (konE (g i).off).length) + (uleb ((g i).bytes.size : Int)).length + (g i).bytes.size = p + (datE' (g i)).length by omega, h1, Nat.add_assoc]
/-- Two segments of one text. -/
def ElQ (a b : ElV) : Prop := a.off = b.off ∧ a.n = b.n ∧ ∀ k, k < b.n → a.fns k = b.fns k
theorem elemsL_at (hs : e ≤ s.size) {g : Nat → ElV} : ∀ (k i : Nat) (f : Nat → ElV) (p : Nat), (∀ j, j < i + k → Kon (g j).off ∧ InsIn (g j).off ∧ (g j).n ≤ 6 ∧ ∀ r, r < (g j).n → W32 ((g j).fns r)) → At s p (rowsR elE' g k i) → p + (rowsR elE' g k i).length ≤ e →
    ∃ f', elemsL s e k i f p = .ok f' (p + (rowsR elE' g k i).length) ∧ (∀ j, j < i → f' j = f j) ∧ ∀ j, i ≤ j → j < i + k → ElQ (f' j) (g j)
  | 0, i, f, p, _, _, _ => ⟨f, rfl, fun j _ => rfl, fun j h1 h2 => by omega⟩
  | k + 1, i, f, p, hw, ha, he => by
    rw [rowsR_succ] at ha he ⊢
    rw [List.length_append] at he ⊢
    obtain ⟨hT1, hT2, hT3, hT4⟩ := hw i (by omega)
    have a1 := ha.left
    have el : (elE' (g i)).length = 1 + (konE (g i).off).length + (uleb ((g i).n : Int)).length + (rowsR uleb (g i).fns (g i).n 0).length := by unfold elE'; rw [List.length_append, List.length_append, List.length_append, rowsE_eqR]; rfl
    unfold elE' at a1
    rw [rowsE_eqR] at a1
    have e1 : ([0] : List Int).length = 1 := rfl
    have a2 := a1.left.left.right
    rw [e1] at a2
    have a3 := a1.left.right
    rw [List.length_append, e1] at a3
    have a4 := a1.right
    rw [List.length_append, List.length_append, e1] at a4
    obtain ⟨fn', f1, f2⟩ := funcsL_at (s := s) (e := e) (g := (g i).fns) (g i).n 0 (fun _ => 0) (p + (1 + (konE (g i).off).length + (uleb ((g i).n : Int)).length)) (fun j hj => hT4 j (by omega)) a4 (by omega)
    obtain ⟨f', h1, h2, h3⟩ := elemsL_at hs k (i + 1) (upd f i ⟨(g i).off, (g i).n, fn'⟩) (p + (elE' (g i)).length) (fun j hj => hw j (by omega)) ha.right (by omega)
    refine ⟨f', ?_, fun j hj => ?_, fun j j1 j2 => ?_⟩
    · show (fixedP s e 0 p).bind _ = _
      rw [fixedP_at a1.left.left.left (by omega)]
      simp only [Res.bind]
      rw [constP_at hT2 hT1 a2 (by omega) hs]
      simp only []
      rw [show p + 1 + (konE (g i).off).length = p + (1 + (konE (g i).off).length) by omega, countP_at (by omega) (by omega) a3 (by omega)]
      simp only []
      rw [show p + (1 + (konE (g i).off).length) + (uleb ((g i).n : Int)).length = p + (1 + (konE (g i).off).length + (uleb ((g i).n : Int)).length) by omega, f1]
      simp only []
      rw [show p + (1 + (konE (g i).off).length + (uleb ((g i).n : Int)).length) + (rowsR uleb (g i).fns (g i).n 0).length = p + (elE' (g i)).length by omega, h1, Nat.add_assoc]
    · rw [h2 j (by omega)]; unfold upd; rw [if_neg (by omega)]
    · by_cases hj : j = i
      · rw [h2 j (by omega), hj]; unfold upd; rw [if_pos rfl]
        exact ⟨rfl, rfl, fun r hr => f2.2 r (Nat.zero_le _) (by omega)⟩
      · exact h3 j (by omega) (by omega)
/-- Two functions of one text. -/
structure FnQ (a b : FnP) : Prop where
  ty : a.ty = b.ty
  ls : a.ls = b.ls
  nI : a.nI = b.nI
  ins : ∀ k, k < b.nI → a.ins k = b.ins k
  nT : a.nTab = b.nTab
  tabs : ∀ k, k < b.nTab → a.tabs k = b.tabs k
theorem codesL_at (hs : e ≤ s.size) (hs2 : s.size ≤ 4294967295) {g : Nat → FnP} : ∀ (k i : Nat) (c : Sc) (F : Nat → FnP) (p : Nat), (∀ j, j < i + k → FnWF (g j)) → (∀ j, i ≤ j → j < i + k → c.types j = (g j).ty) → At s p (rowsR codeE g k i) → p + (rowsR codeE g k i).length ≤ e →
    ∃ x, codesL s e k i c F p = .ok x (p + (rowsR codeE g k i).length) ∧ x.1.nT = c.nT ∧ (∀ j, j < i → x.2 j = F j) ∧ ∀ j, i ≤ j → j < i + k → FnQ (x.2 j) (g j)
  | 0, i, c, F, p, _, _, _, _ => ⟨(c, F), rfl, rfl, fun j _ => rfl, fun j h1 h2 => by omega⟩
  | k + 1, i, c, F, p, hw, hc, ha, he => by
    haveI := outNil
    rw [rowsR_succ] at ha he ⊢
    rw [List.length_append] at he ⊢
    have hT1 := hw i (by omega)
    have hT2 := hT1.lv
    have hT3 : (g i).ls.length ≤ 6 := by have := hT1.ls.1; rwa [strOfNums_size] at this
    have a1 := ha.left
    have el : (codeE (g i)).length = (uleb ((fnText (g i)).length : Int)).length + (fnText (g i)).length := by unfold codeE; rw [List.length_append]
    have et : (fnText (g i)).length = (locE (strOfNums (g i).ls)).length + (insRow (g i) (g i).nI).length := by unfold fnText; rw [List.length_append]
    unfold codeE at a1
    have a2 : At s (p + (uleb ((fnText (g i)).length : Int)).length) (locE (strOfNums (g i).ls) ++ insRow (g i) (g i).nI) := a1.right
    have hen : enterP s e p = .ok (fnText (g i)).length (p + (uleb ((fnText (g i)).length : Int)).length) := by
      unfold enterP
      rw [u32P_at ⟨by omega, by omega⟩ a1.left (by omega)]
      simp only [Res.bind]
      rw [if_neg (by omega), Int.toNat_natCast]
    have hlo := localsP_at (s := s) (e := p + (uleb ((fnText (g i)).length : Int)).length + (fnText (g i)).length) hT2 hT3 a2.left (by omega)
    obtain ⟨c', b1, b2, b3, b4, b5, b6, b7⟩ := bodyP_at (s := s) (e := p + (uleb ((fnText (g i)).length : Int)).length + (fnText (g i)).length) hT1 (by omega) c a2.right (by omega)
    obtain ⟨x, h1, h2, h3, h4⟩ := codesL_at hs hs2 k (i + 1) c' (upd F i ⟨c.types i, (g i).ls, c'.nI, c'.ins, c'.nTab, c'.tabs⟩) (p + (codeE (g i)).length) (fun j hj => hw j (by omega)) (fun j j1 j2 => by rw [b6]; exact hc j (by omega) (by omega)) ha.right (by omega)
    refine ⟨x, ?_, by rw [h2, b7], fun j hj => ?_, fun j j1 j2 => ?_⟩
    · rw [codesL_succ, hen]
      simp only [Res.bind]
      rw [hlo]
      simp only []
      rw [b1]
      simp only []
      rw [if_pos (by omega), show p + (uleb ((fnText (g i)).length : Int)).length + (locE (strOfNums (g i).ls)).length + (insRow (g i) (g i).nI).length = p + (codeE (g i)).length by omega, h1, Nat.add_assoc]
    · rw [h3 j (by omega)]; unfold upd; rw [if_neg (by omega)]
    · by_cases hj : j = i
      · rw [h3 j (by omega), hj]; unfold upd; rw [if_pos rfl]
        exact ⟨hc i (Nat.le_refl _) (by omega), rfl, b2, fun r hr => b4 r hr, b3, fun r hr => b5 r hr⟩
      · exact h4 j (by omega) (by omega)
end

end Go.Proofs.Qxb6500316a
