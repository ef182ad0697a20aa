/-
  Names, types, limits, constants: written and read again.
-/
import Derived.Test.Qxb6500316aRtB
import Derived.Test.Qxb6500316aWfF
set_option linter.unusedSimpArgs false
set_option linter.unusedVariables false
set_option maxRecDepth 100000
namespace Go.Proofs.Qxb6500316a
open Go Go.Vc

theorem bytes_ext {x y : ByteArray} (h1 : x.size = y.size) (h2 : ∀ j, j < x.size → byteAt x j = byteAt y j) : x = y := by
  apply ByteArray.ext
  apply Array.ext
  · exact h1
  · intro j hj hj'
    have := h2 j hj
    unfold byteAt at this
    rw [Array.getD_eq_getD_getElem?, Array.getD_eq_getD_getElem?, Array.getElem?_eq_getElem hj, Array.getElem?_eq_getElem hj'] at this
    simp only [Option.getD_some] at this
    exact UInt8.toNat_inj.1 (by omega)
theorem bytesOf_get (t : ByteArray) (j : Nat) (h : j < t.size) : (bytesOf t)[j]? = some (byteAt t j) := by
  have := bytesOf_getD t j h
  rw [List.getD_eq_getElem?_getD, List.getElem?_eq_getElem (by rw [bytesOf_length]; exact h), Option.getD_some] at this
  rw [List.getElem?_eq_getElem (by rw [bytesOf_length]; exact h), this]
theorem bytesOf_bytes (t : ByteArray) : Byt (bytesOf t) := fun x hx => by
  obtain ⟨j, hj, e⟩ := List.getElem_of_mem hx
  have h2 := bytesOf_get t j (by rw [bytesOf_length] at hj; exact hj)
  rw [List.getElem?_eq_getElem hj, e] at h2
  injection h2 with h2
  have := byte_rng t j
  omega
theorem rawE_bytes (t : ByteArray) : Byt (rawE t) := (uleb_bytes _).append (bytesOf_bytes t)
theorem rawE_length (t : ByteArray) : (rawE t).length = (uleb (t.size : Int)).length + t.size := by unfold rawE; rw [List.length_append, bytesOf_length]
section
variable {s : ByteArray} {e p : Nat}
theorem fixedP_at {x : Int} {l : List Int} (h : At s p (x :: l)) (he : p < e) : fixedP s e x p = .ok () (p + 1) := by
  unfold fixedP
  rw [next_at' h he]
  simp only [Res.bind, if_true]
theorem flagP_at {x max : Int} {l : List Int} (h : At s p (x :: l)) (hm : x ≤ max) (he : p < e) : flagP s e max p = .ok x (p + 1) := by
  unfold flagP
  rw [next_at' h he]
  simp only [Res.bind]
  rw [if_neg (by omega)]
theorem valtypeP_at {x : Int} {l : List Int} (h : At s p (x :: l)) (hv : VT x) (he : p < e) : valtypeP s e p = .ok x (p + 1) := by
  unfold valtypeP
  rw [next_at' h he]
  simp only [Res.bind]
  rw [if_neg (by have := hv.1; have := hv.2; omega)]
theorem countP_at {n : Nat} {max : Int} (hn : (n : Int) ≤ max) (hm : max ≤ 4294967295) (ha : At s p (uleb (n : Int))) (he : p + (uleb (n : Int)).length ≤ e) : countP s e max p = .ok n (p + (uleb (n : Int)).length) := by
  unfold countP
  rw [u32P_at ⟨by omega, by omega⟩ ha he]
  simp only [Res.bind]
  rw [if_neg (by omega), Int.toNat_natCast]
theorem takeP_at {t : ByteArray} (ha : At s p (bytesOf t)) (he : p + t.size ≤ e) (hs : e ≤ s.size) : takeP s e t.size p = .ok t (p + t.size) := by
  unfold takeP
  rw [if_neg (by omega)]
  congr 1
  refine bytes_ext (by rw [ByteArray.size_extract]; omega) (fun j hj => ?_)
  rw [byteAt_extract _ _ _ _ hj]
  rw [ByteArray.size_extract] at hj
  exact ha j _ (bytesOf_get t j (by omega))
theorem nameP_at {t : ByteArray} (ht : t.size ≤ 8) (ha : At s p (rawE t)) (he : p + (rawE t).length ≤ e) (hs : e ≤ s.size) : nameP s e p = .ok t (p + (rawE t).length) := by
  rw [rawE_length] at he ⊢
  unfold rawE at ha
  unfold nameP
  rw [countP_at (by omega) (by omega) ha.left (by omega)]
  simp only [Res.bind]
  rw [takeP_at ha.right (by omega) hs, Nat.add_assoc]
theorem valtypesL_at {t : ByteArray} (hv : ∀ j, j < t.size → VT (byteAt t j)) : ∀ (k i p : Nat), i + k = t.size → (∀ j, i ≤ j → j < t.size → byteAt s (p + (j - i)) = byteAt t j) → p + k ≤ e → valtypesL s e k p = .ok () (p + k)
  | 0, i, p, _, _, _ => rfl
  | k + 1, i, p, hi, hb, he => by
    show (valtypeP s e p).bind _ = _
    have h0 := hb i (Nat.le_refl _) (by omega)
    rw [Nat.sub_self, Nat.add_zero] at h0
    have hat : At s p [byteAt t i] := fun j x hj => by
      cases j with
      | zero => simp at hj; rw [← hj]; exact h0
      | succ j => simp at hj
    rw [valtypeP_at hat (hv i (by omega)) (by omega)]
    simp only [Res.bind]
    rw [valtypesL_at hv k (i + 1) (p + 1) (by omega) (fun j h1 h2 => by have := hb j (by omega) h2; rw [show p + 1 + (j - (i + 1)) = p + (j - i) by omega]; exact this) (by omega)]
    congr 1; omega
theorem valtypesP_at {t : ByteArray} {max : Nat} (hv : Vals t max) (hm : max ≤ 1000) (ha : At s p (rawE t)) (he : p + (rawE t).length ≤ e) (hs : e ≤ s.size) : valtypesP s e (max : Int) p = .ok t (p + (rawE t).length) := by
  have h1 := hv.1
  rw [rawE_length] at he ⊢
  unfold rawE at ha
  have hb : ∀ j, j < t.size → byteAt s (p + (uleb (t.size : Int)).length + j) = byteAt t j := fun j hj => ha.right j _ (bytesOf_get t j hj)
  unfold valtypesP
  rw [countP_at (by omega) (by omega) ha.left (by omega)]
  simp only [Res.bind]
  rw [valtypesL_at hv.2 t.size 0 _ (by omega) (fun j _ hj => by rw [Nat.sub_zero]; exact hb j hj) (by omega)]
  simp only []
  have e1 : s.extract (p + (uleb (t.size : Int)).length) (p + (uleb (t.size : Int)).length + t.size) = t := by
    refine bytes_ext (by rw [ByteArray.size_extract]; omega) (fun j hj => ?_)
    rw [byteAt_extract _ _ _ _ hj]
    rw [ByteArray.size_extract] at hj
    exact hb j (by omega)
  rw [e1, Nat.add_assoc]
theorem limE_bytes (lo hi : Int) : Byt (limE lo hi) := by
  unfold limE
  split
  · exact Byt.append (Byt.cons ⟨by decide, by decide⟩ Byt.nil) (uleb_bytes _)
  · exact Byt.append (Byt.append (Byt.cons ⟨by decide, by decide⟩ Byt.nil) (uleb_bytes _)) (uleb_bytes _)
theorem limitsP_at {lo hi : Int} (hl : W32 lo) (hh : hi = -1 ∨ W32 hi) (ha : At s p (limE lo hi)) (he : p + (limE lo hi).length ≤ e) : limitsP s e p = .ok (lo, hi) (p + (limE lo hi).length) := by
  unfold limE at ha he ⊢
  unfold limitsP
  rcases hh with rfl | hh
  · rw [if_pos (by decide)] at ha he ⊢
    rw [List.length_append] at he ⊢
    have e1 : ([0] : List Int).length = 1 := rfl
    rw [e1] at he ⊢
    rw [flagP_at (max := 1) ha.left (by decide) (by omega)]
    simp only [Res.bind]
    have h2 := ha.right
    rw [e1] at h2
    rw [u32P_at hl h2 (by omega)]
    simp only [if_true]
    rw [Nat.add_assoc]
  · have hh1 := hh.1
    rw [if_neg (by omega)] at ha he ⊢
    rw [List.length_append, List.length_append] at he ⊢
    have e1 : ([1] : List Int).length = 1 := rfl
    rw [e1] at he ⊢
    rw [flagP_at (max := 1) ha.left.left (by decide) (by omega)]
    simp only [Res.bind]
    have h2 := ha.left.right
    rw [e1] at h2
    rw [u32P_at hl h2 (by omega)]
    simp only []
    rw [if_neg (by decide)]
    have h3 := ha.right
    rw [List.length_append, e1] at h3
    rw [show p + 1 + (uleb lo).length = p + (1 + (uleb lo).length) by omega, u32P_at hh h3 (by omega)]
    simp only []
    congr 1; omega

/-! ### Instructions -/
theorem restP_at {i : Ins} {n : Nat} {tabs : Nat → Int} {at_ : Int} (hin : InsIn i) (hp : Pln i) (ha : At s p (insT i n tabs)) (he : p + (insT i n tabs).length ≤ e) (hs : e ≤ s.size) : restP s e i.op at_ p = .ok i (p + (insT i n tabs).length) := by
  have ho0 := hin.o0; have ho1 := hin.o1
  obtain ⟨op, x, y⟩ := i
  simp only at *
  rcases hp with ⟨ho, hy, hx⟩ | ⟨ho, hy⟩ | ⟨ho, hy⟩ | ⟨ho, hy⟩ | hk | ⟨ho, hx, hy⟩
  · -- blocks
    simp only at ho hy hx
    have et : insT ⟨op, x, y⟩ n tabs = [IntKind.wrap .u8 x] := by unfold insT; rw [if_pos ho]
    rw [et] at ha he ⊢
    have hx2 : 0 ≤ x ∧ x < 256 := by rcases hx with rfl | hx <;> omega
    have ew : IntKind.wrap .u8 x = x := by rw [wrapU8_mod, Int.emod_eq_of_lt hx2.1 hx2.2]
    rw [ew] at ha
    unfold restP
    rw [if_neg (by omega), if_pos ho, next_at' ha (by simp at he; omega)]
    simp only [Res.bind]
    rw [if_neg (by rcases hx with rfl | hx <;> omega), wrap_u32 hx2.1 (by omega), hy]
    rfl
  · simp only at ho hy
    subst hy
    have hx : W32 x := ⟨hin.x0, hin.x1⟩
    by_cases h17 : op = 17
    · have et : insT ⟨op, x, 0⟩ n tabs = uleb x ++ [0] := by unfold insT; simp only; rw [if_neg (by omega), if_neg (by omega), if_neg (by omega), if_pos h17]
      rw [et] at ha he ⊢
      rw [List.length_append] at he ⊢
      have e1 : ([0] : List Int).length = 1 := rfl
      rw [e1] at he ⊢
      unfold restP
      rw [if_neg (by omega), if_neg (by omega), if_neg (by omega), if_pos h17, u32P_at hx ha.left (by omega)]
      simp only [Res.bind]
      rw [fixedP_at ha.right (by omega)]
      rfl
    · have et : insT ⟨op, x, 0⟩ n tabs = uleb x := by unfold insT; simp only; rw [if_neg (by omega), if_pos (by omega)]
      rw [et] at ha he ⊢
      unfold restP
      rw [if_neg (by omega), if_neg (by omega), if_pos (by omega), u32P_at hx ha he]
      rfl
  · simp only at ho hy
    subst hy
    have hx : W32 x := ⟨hin.x0, hin.x1⟩
    have et : insT ⟨op, x, 0⟩ n tabs = uleb x := by unfold insT; simp only; rw [if_neg (by omega), if_pos (by omega)]
    rw [et] at ha he ⊢
    unfold restP
    rw [if_neg (by omega), if_neg (by omega), if_pos (by omega), u32P_at hx ha he]
    rfl
  · simp only at ho hy
    have hx : W32 x := ⟨hin.x0, hin.x1⟩
    have hy2 : W32 y := ⟨hin.y0, hy⟩
    have et : insT ⟨op, x, y⟩ n tabs = uleb x ++ uleb y := by
      unfold insT; simp only
      rw [if_neg (by omega), if_neg (by omega), if_neg (by omega), if_neg (by omega), if_neg (by omega), if_neg (by omega), if_neg (by omega), if_neg (by omega), if_neg (by omega), if_pos ho]
    rw [et] at ha he ⊢
    rw [List.length_append] at he ⊢
    unfold restP
    rw [if_neg (by omega), if_neg (by omega), if_neg (by omega), if_neg (by omega), if_neg (by omega), if_neg (by omega), if_neg (by omega), if_neg (by omega), if_neg (by omega), if_pos ho, u32P_at hx ha.left (by omega)]
    simp only [Res.bind]
    rw [u32P_at hy2 ha.right (by omega)]
    simp only []
    rw [Nat.add_assoc]
  · have h1 := hk.o0; have h2 := hk.o1; have hx := hk.x0; have hy := hk.y1
    have y0 := hin.y0; have y1 := hin.y1
    simp only at h1 h2 hx hy y0 y1
    subst hx
    by_cases h65 : op = 65
    · have hy := hy (.inl h65)
      have et : insT ⟨op, 0, y⟩ n tabs = sleb (sg32 y) := by
        unfold insT; simp only
        rw [if_neg (by omega), if_neg (by omega), if_neg (by omega), if_neg (by omega), if_neg (by omega), if_pos h65]; rfl
      rw [et] at ha he ⊢
      obtain ⟨r1, r2⟩ := sg32_rng y
      unfold restP
      rw [if_neg (by omega), if_neg (by omega), if_neg (by omega), if_neg (by omega), if_neg (by omega), if_pos h65, sleb32_at r1 r2 ha he, sg32_mod y y0 hy]
      rfl
    by_cases h66 : op = 66
    · have et : insT ⟨op, 0, y⟩ n tabs = sleb (IntKind.wrap .i64 y) := by
        unfold insT; simp only
        rw [if_neg (by omega), if_neg (by omega), if_neg (by omega), if_neg (by omega), if_neg (by omega), if_neg h65, if_pos h66]
      rw [et] at ha he ⊢
      obtain ⟨r1, r2⟩ := wrap_i64_rng y
      unfold restP
      rw [if_neg (by omega), if_neg (by omega), if_neg (by omega), if_neg (by omega), if_neg (by omega), if_neg h65, if_pos h66, sleb64_at r1 r2 ha he, sg64_mod y y0 y1]
      rfl
    by_cases h67 : op = 67
    · have hy := hy (.inr h67)
      have et : insT ⟨op, 0, y⟩ n tabs = littleF 4 y := by
        unfold insT; simp only
        rw [if_neg (by omega), if_neg (by omega), if_neg (by omega), if_neg (by omega), if_neg (by omega), if_neg h65, if_neg h66, if_pos h67]
      rw [et] at ha he ⊢
      rw [littleF_len] at he ⊢
      have e4 : (256 : Int) ^ 4 = 4294967296 := by decide
      unfold restP
      rw [if_neg (by omega), if_neg (by omega), if_neg (by omega), if_neg (by omega), if_neg (by omega), if_neg h65, if_neg h66, if_pos h67, wordP_at (by decide) y0 (by omega) (by rw [e4]; omega) ha he hs]
      rfl
    · have h68 : op = 68 := by omega
      have et : insT ⟨op, 0, y⟩ n tabs = littleF 8 y := by
        unfold insT; simp only
        rw [if_neg (by omega), if_neg (by omega), if_neg (by omega), if_neg (by omega), if_neg (by omega), if_neg h65, if_neg h66, if_neg h67, if_pos h68]
      rw [et] at ha he ⊢
      rw [littleF_len] at he ⊢
      have e8 : (256 : Int) ^ 8 = 18446744073709551616 := by decide
      unfold restP
      rw [if_neg (by omega), if_neg (by omega), if_neg (by omega), if_neg (by omega), if_neg (by omega), if_neg h65, if_neg h66, if_neg h67, if_pos h68, wordP_at (by decide) y0 (by omega) (by rw [e8]; omega) ha he hs]
      rfl
  · simp only at ho hx hy
    subst hx hy
    by_cases h63 : op = 63 ∨ op = 64
    · have et : insT ⟨op, 0, 0⟩ n tabs = [0] := by
        unfold insT; simp only
        rw [if_neg (by omega), if_neg (by omega), if_neg (by omega), if_neg (by omega), if_pos h63]
      rw [et] at ha he ⊢
      unfold restP
      rw [if_neg (by omega), if_neg (by omega), if_neg (by omega), if_neg (by omega), if_pos h63, fixedP_at ha (by simp at he; omega)]
      rfl
    · have et : insT ⟨op, 0, 0⟩ n tabs = [] := by
        unfold insT; simp only
        rw [if_neg (by omega), if_neg (by omega), if_neg (by omega), if_neg (by omega), if_neg h63, if_neg (by omega), if_neg (by omega), if_neg (by omega), if_neg (by omega), if_neg (by omega)]
      rw [et]
      unfold restP
      by_cases h69 : 69 ≤ op
      · rw [if_neg (by omega), if_neg (by omega), if_neg (by omega), if_neg (by omega), if_neg h63, if_neg (by omega), if_neg (by omega), if_neg (by omega), if_neg (by omega), if_neg (by omega), if_neg (by omega)]
        rfl
      · rw [if_pos (by omega)]; rfl
theorem constP_at {i : Ins} (hin : InsIn i) (hk : Kon i) (ha : At s p (konE i)) (he : p + (konE i).length ≤ e) (hs : e ≤ s.size) : constP s e p = .ok i (p + (konE i).length) := by
  have h1 := hk.o0; have h2 := hk.o1
  unfold konE insE at ha he ⊢
  rw [List.length_append, List.length_append] at he ⊢
  have e1 : ([i.op] : List Int).length = 1 := rfl
  have e2 : ([11] : List Int).length = 1 := rfl
  rw [e1, e2] at he ⊢
  have a1 := ha.left.right
  rw [e1] at a1
  have a2 := ha.right
  rw [List.length_append, e1] at a2
  unfold constP
  rw [next_at' ha.left.left (by omega)]
  simp only [Res.bind]
  rw [if_neg (by omega), restP_at (n := 0) (tabs := fun _ => 0) hin (.inr (.inr (.inr (.inr (.inl hk))))) a1 (by omega) hs]
  simp only []
  rw [show p + 1 + (insT i 0 fun _ => 0).length = p + (1 + (insT i 0 fun _ => 0).length) by omega, next_at' a2 (by omega)]
  simp only [if_true]
  rw [Nat.add_assoc]
theorem insT_bytes {i : Ins} (hin : InsIn i) (n : Nat) (tabs : Nat → Int) : Byt (insT i n tabs) := by
  have tb : ∀ k j, Byt (tabF n tabs i.x i.y k j) := by
    intro k
    induction k with
    | zero => intro j; exact Byt.nil
    | succ k ih =>
      intro j
      haveI := outNil
      rw [tabF_succ]
      split
      · exact (uleb_bytes _).append (ih _)
      · exact Byt.nil
  have z : Byt [0] := Byt.cons ⟨by decide, by decide⟩ Byt.nil
  unfold insT
  repeat' split
  · exact Byt.cons (wrapU8 _) Byt.nil
  · exact uleb_bytes _
  · exact (uleb_bytes _).append (tb _ _)
  · exact (uleb_bytes _).append z
  · exact z
  · exact sleb_bytes _
  · exact sleb_bytes _
  · exact littleF_bytes _ _
  · exact littleF_bytes _ _
  · exact (uleb_bytes _).append (uleb_bytes _)
  · exact Byt.nil
theorem insE_bytes {i : Ins} (hin : InsIn i) (n : Nat) (tabs : Nat → Int) : Byt (insE i n tabs) := Byt.append (Byt.cons ⟨hin.o0, by have := hin.o1; omega⟩ Byt.nil) (insT_bytes hin n tabs)
theorem konE_bytes {i : Ins} (hin : InsIn i) : Byt (konE i) := (insE_bytes hin 0 _).append (Byt.cons ⟨by decide, by decide⟩ Byt.nil)
end

end Go.Proofs.Qxb6500316a
