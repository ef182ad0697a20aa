/-
  Facts: the longest text is taken.
-/
import Derived.Test.Qxb6500316aFaI
set_option linter.unusedSimpArgs false
set_option linter.unusedVariables false
set_option maxRecDepth 100000
namespace Go.Proofs.Qxb6500316a
open Go Go.Vc

def brimC (c : Sc) : Sc := { c with nT := 0 }
def brimX1 (c : Sc) : Sc × PM := (secP brimB 14 1 (brimC c) pm0 10).got (brimC c, pm0)
def brimX2 (c : Sc) : Sc × PM := (secP brimB 18 3 (brimX1 c).1 (brimX1 c).2 16).got (brimC c, pm0)
theorem brim_s1 (c : Sc) : secP brimB 14 1 (brimC c) pm0 10 = .ok (brimX1 c) 14 := Res.okAt_eq (by kernel_rfl) _
theorem brim_s2 (c : Sc) : secP brimB 18 3 (brimX1 c).1 (brimX1 c).2 16 = .ok (brimX2 c) 18 := Res.okAt_eq (by kernel_rfl) _
theorem brim_nT (c : Sc) : (brimX2 c).1.nT = 1 := by kernel_rfl
theorem brim_nf (c : Sc) : (brimX2 c).2.nf = 0 := by kernel_rfl
theorem brim_magic : (ByteArray.toList (ByteArray.extract brimB 0 8) == ByteArray.toList ⟨#[0, 97, 115, 109, 1, 0, 0, 0]⟩) = true := by kernel_rfl
theorem brim_e9 : enterP brimB 1024 9 = .ok 4 10 := Res.okAt_eq (r := enterP brimB 1024 9) (by kernel_rfl) 4 |>.trans (by rw [show (enterP brimB 1024 9).got 4 = 4 by kernel_rfl])
theorem brim_e15 : enterP brimB 1024 15 = .ok 2 16 := Res.okAt_eq (r := enterP brimB 1024 15) (by kernel_rfl) 2 |>.trans (by rw [show (enterP brimB 1024 15).got 2 = 2 by kernel_rfl])
theorem brim_e19 : enterP brimB 1024 19 = .ok 1003 21 := Res.okAt_eq (r := enterP brimB 1024 19) (by kernel_rfl) 1003 |>.trans (by rw [show (enterP brimB 1024 19).got 1003 = 1003 by kernel_rfl])
theorem brim_e22 : enterP brimB 1024 22 = .ok 1000 24 := Res.okAt_eq (r := enterP brimB 1024 22) (by kernel_rfl) 1000 |>.trans (by rw [show (enterP brimB 1024 22).got 1000 = 1000 by kernel_rfl])
theorem brim_c21 : countP brimB 1024 8 21 = .ok 1 22 := Res.okAt_eq (r := countP brimB 1024 8 21) (by kernel_rfl) 1 |>.trans (by rw [show (countP brimB 1024 8 21).got 1 = 1 by kernel_rfl])
theorem brim_l24 : localsP brimB 1024 24 = .ok [] 25 := Res.okAt_eq (r := localsP brimB 1024 24) (by kernel_rfl) [] |>.trans (by rw [show (localsP brimB 1024 24).got [] = [] by kernel_rfl])
theorem sec_of {s : ByteArray} {X : Sc × PM} {c' : Sc} (hc21 : countP s 1024 8 21 = .ok 1 22) (he : enterP s 1024 22 = .ok 1000 24) (hl : localsP s 1024 24 = .ok [] 25) (hT : X.1.nT = 1) (hb : bodyP s 1024 X.1 25 = .ok c' 1024) (h92 : c'.nI = 92) (h3 : c'.nT = X.1.nT) :
    ∃ x : Sc × PM, secP s 1024 10 X.1 X.2 21 = .ok x 1024 ∧ x.1.nT = 1 ∧ x.2.nf = 1 ∧ (x.2.fn 0).nI = 92 := by
  haveI := outNil
  rw [hT] at h3
  have hs : secP s 1024 10 X.1 X.2 21 = (codesP s 1024 X.1 21).bind fun a q => .ok (a.2.1, if a.1 = 0 then X.2 else { { X.2 with nf := a.1 } with fn := a.2.2 }) q := rfl
  have hc : codesP s 1024 X.1 21 = .ok (1, c', upd fn0 0 ⟨X.1.types 0, [], c'.nI, c'.ins, c'.nTab, c'.tabs⟩) 1024 := by
    unfold codesP
    rw [hc21]
    simp only [Res.bind]
    rw [if_pos hT.symm, codesL_succ, he]
    simp only [Res.bind]
    have e : 24 + 1000 = 1024 := by decide
    rw [e, hl]
    simp only [Res.bind]
    rw [hb]
    simp only [if_true]
    rfl
  rw [hs, hc]
  exact ⟨_, rfl, h3, rfl, h92⟩
theorem dec_of {s : ByteArray} {c : Sc} {X1 X2 x : Sc × PM} (hz : s.size = 1024) (hm : (ByteArray.toList (ByteArray.extract s 0 8) == ByteArray.toList ⟨#[0, 97, 115, 109, 1, 0, 0, 0]⟩) = true) (b8 : byteAt s 8 = 1) (b14 : byteAt s 14 = 3) (b18 : byteAt s 18 = 10)
    (e9 : enterP s 1024 9 = .ok 4 10) (e15 : enterP s 1024 15 = .ok 2 16) (e19 : enterP s 1024 19 = .ok 1003 21)
    (s1 : secP s 14 1 { c with nT := 0 } pm0 10 = .ok X1 14) (s2 : secP s 18 3 X1.1 X1.2 16 = .ok X2 18) (s3 : secP s 1024 10 X2.1 X2.2 21 = .ok x 1024) (h2 : x.1.nT = x.2.nf) : decA s c = .ok x 1024 := by
  haveI := outNil
  unfold decA
  rw [hz, if_neg (by decide), if_neg (by decide), if_pos hm]
  unfold decP
  rw [hz]
  have e0 : 1024 - 8 + 1 = 1013 + 1 + 1 + 1 + 1 := by decide
  rw [e0, decL_succ, hz, if_pos (by decide), next_at (by decide) b8]
  simp only [Res.bind]
  rw [if_neg (by decide), e9]
  simp only [Res.bind]
  rw [s1]
  simp only [if_true]
  rw [decL_succ, hz, if_pos (by decide), next_at (by decide) b14]
  simp only [Res.bind]
  rw [if_neg (by decide), e15]
  simp only [Res.bind]
  rw [s2]
  simp only [if_true]
  rw [decL_succ, hz, if_pos (by decide), next_at (by decide) b18]
  simp only [Res.bind]
  rw [if_neg (by decide), e19]
  simp only [Res.bind]
  rw [s3]
  simp only [if_true]
  rw [decL_succ, hz, if_neg (by decide), if_pos h2]
theorem brim_dec (c : Sc) : ∃ x : Sc × PM, decA brimB c = .ok x 1024 ∧ x.2.nf = 1 ∧ (x.2.fn 0).nI = 92 := by
  obtain ⟨c', g1, g2, g3⟩ := brim_body (brimX2 c).1
  obtain ⟨x, h1, h2, h3, h4⟩ := sec_of (X := brimX2 c) brim_c21 brim_e22 brim_l24 (brim_nT c) g1 g2 g3
  have b8 := brim_head 8 (by decide)
  have b14 := brim_head 14 (by decide)
  have b18 := brim_head 18 (by decide)
  exact ⟨x, dec_of (X1 := brimX1 c) (X2 := brimX2 c) brim_size brim_magic b8 b14 b18 brim_e9 brim_e15 brim_e19 (brim_s1 c) (brim_s2 c) h1 (by rw [h2, h3]), h3, h4⟩

end Go.Proofs.Qxb6500316a
