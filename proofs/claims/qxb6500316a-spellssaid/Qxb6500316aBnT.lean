/-
  fill: a body of n nops, n blocks nested, one group of n locals.
-/
import Derived.Test.Qxb6500316aBnS
set_option linter.unusedSimpArgs false
set_option linter.unusedVariables false
set_option maxRecDepth 100000
namespace Go.Proofs.Qxb6500316a
open Go Go.Vc

/-! ### rep -/
def repB (t : ByteArray) : Nat → ByteArray
  | 0 => ⟨#[]⟩
  | n + 1 => repB t n ++ t
theorem repB_succ (t : ByteArray) (n : Nat) : repB t (n + 1) = repB t n ++ t := rfl
theorem repB_size (t : ByteArray) : ∀ n, (repB t n).size = n * t.size
  | 0 => by rw [Nat.zero_mul]; rfl
  | n + 1 => by rw [repB_succ, ByteArray.size_append, repB_size t n, Nat.add_mul, Nat.one_mul]
theorem repB_nb (t : ByteArray) (ht : 0 < t.size) : ∀ n i j, i < n → j < t.size → nb (repB t n) (i * t.size + j) = nb t j
  | 0, i, j, h, _ => by omega
  | n + 1, i, j, h, hj => by
    rw [repB_succ, nb_append, repB_size]
    by_cases hi : i < n
    · have h1 : (i + 1) * t.size ≤ n * t.size := Nat.mul_le_mul_right _ (by omega)
      rw [Nat.add_mul, Nat.one_mul] at h1
      rw [if_pos (by omega)]
      exact repB_nb t ht n i j hi hj
    · obtain rfl : i = n := by omega
      rw [if_neg (by omega)]
      congr 1; omega

theorem rep_loop (t : ByteArray) (ht : t.size ≤ 2) (n : Nat) (hn : n ≤ 1000) (R Q : Value → World → Prop) (w : World) (hR : R (.string (repB t n)) w) : ∀ k i, i + k = n → binlaw_rep.L1 t n (repB t i) (i : Int) R Q w
  | 0, i, h => by
    refine binlaw_rep.step1 _ _ _ _ _ _ _ ?_
    unfold binlaw_rep.V1
    obtain rfl : i = n := by omega
    exact cond_false' (decide_eq_false (by omega)) hR
  | k + 1, i, h => by
    refine binlaw_rep.step1 _ _ _ _ _ _ _ ?_
    unfold binlaw_rep.V1
    refine cond_true' (decide_eq_true (by omega)) ⟨?_, ?_⟩
    · rw [repB_size]
      have : i * t.size ≤ 1000 * 2 := Nat.mul_le_mul (by omega) ht
      omega
    · have e1 : IntKind.wrap .i64 ((i : Int) + 1) = ((i + 1 : Nat) : Int) := by rw [wrap_i64 (by omega) (by omega)]; omega
      rw [e1]
      exact rep_loop t ht n hn R Q w hR k (i + 1) (by omega)
theorem rep_spec (t : ByteArray) (ht : t.size ≤ 2) (n : Nat) (hn : n ≤ 1000) (w : World) : Runs Try.prog binlaw_rep.id #[.string t, .int .i64 (n : Int)] w fun v w' => v = .string (repB t n) ∧ w' = w := by
  refine binlaw_rep.enter _ _ _ _ _ ?_
  unfold binlaw_rep.V
  exact rep_loop t ht n hn _ _ w ⟨rfl, rfl⟩ n 0 (by omega)

/-! ### The text about a function's text -/
structure TxtF (s f : ByteArray) : Prop where
  sz : s.size = 22 + f.size
  h8 : nb s 8 = 1
  h9 : nb s 9 = 4
  h10 : nb s 10 = 1
  h11 : nb s 11 = 96
  h12 : nb s 12 = 0
  h13 : nb s 13 = 0
  h14 : nb s 14 = 3
  h15 : nb s 15 = 2
  h16 : nb s 16 = 1
  h17 : nb s 17 = 0
  h18 : nb s 18 = 10
  h19 : nb s 19 = f.size + 2
  h20 : nb s 20 = 1
  h21 : nb s 21 = f.size
  b : ∀ j, nb s (22 + j) = nb f j
  m : ∀ j, j < 8 → nb s j = nb magicB j

def litF : ByteArray := ⟨#[0, 97, 115, 109, 1, 0, 0, 0, 1, 4, 1, 96, 0, 0, 3, 2, 1, 0, 10]⟩
theorem litF_size : litF.size = 19 := rfl
theorem litF_m : ∀ j, j < 8 → nb litF j = nb magicB j := by
  intro j hj
  have : j = 0 ∨ j = 1 ∨ j = 2 ∨ j = 3 ∨ j = 4 ∨ j = 5 ∨ j = 6 ∨ j = 7 := by omega
  rcases this with rfl | rfl | rfl | rfl | rfl | rfl | rfl | rfl <;> rfl

theorem txtF (f : ByteArray) (h : f.size ≤ 120) : TxtF ((((litF ++ b1 ((f.size + 2 : Nat) : Int)) ++ (⟨#[1]⟩ : ByteArray)) ++ b1 (f.size : Int)) ++ f) f := by
  have y1 : (⟨#[1]⟩ : ByteArray).size = 1 := rfl
  have zl := litF_size
  have zb1 := b1_size ((f.size + 2 : Nat) : Int)
  have zb2 := b1_size (f.size : Int)
  have nb1 := b1_nb ((f.size + 2 : Nat) : Int) (by omega) (by omega)
  have nb2 := b1_nb (f.size : Int) (by omega) (by omega)
  rw [Int.toNat_natCast] at nb1 nb2
  generalize b1 ((f.size + 2 : Nat) : Int) = B1 at *
  generalize b1 (f.size : Int) = B2 at *
  have lo : ∀ j, j < 19 → nb ((((litF ++ B1) ++ (⟨#[1]⟩ : ByteArray)) ++ B2) ++ f) j = nb litF j := fun j hj => by
    simp only [nb_append, ByteArray.size_append, zl, y1, zb1, zb2]
    rw [if_pos (by omega), if_pos (by omega), if_pos (by omega), if_pos (by omega)]
  refine ⟨by simp only [ByteArray.size_append]; omega, lo 8 (by decide), lo 9 (by decide), lo 10 (by decide), lo 11 (by decide), lo 12 (by decide), lo 13 (by decide), lo 14 (by decide), lo 15 (by decide), lo 16 (by decide), lo 17 (by decide), lo 18 (by decide), ?_, ?_, ?_, fun j => ?_, fun j hj => (lo j (by omega)).trans (litF_m j hj)⟩
  · simp only [nb_append, ByteArray.size_append, zl, y1, zb1, zb2]
    rw [if_pos (by omega), if_pos (by omega), if_pos (by omega), if_neg (by omega)]; exact nb1
  · simp only [nb_append, ByteArray.size_append, zl, y1, zb1, zb2]
    rw [if_pos (by omega), if_pos (by omega), if_neg (by omega)]; rfl
  · simp only [nb_append, ByteArray.size_append, zl, y1, zb1, zb2]
    rw [if_pos (by omega), if_neg (by omega)]; exact nb2
  · simp only [nb_append, ByteArray.size_append, zl, y1, zb1, zb2]
    rw [if_neg (by omega)]; congr 1; omega

theorem count_one (s : ByteArray) (e a : Nat) (max : Int) (n : Nat) (he : a < e) (h : nb s a = n) (h128 : n < 128) (hm : (n : Int) ≤ max) : countP s e max a = .ok n (a + 1) := by
  unfold countP
  rw [u32_one s e a he (by omega), h]
  simp only [Res.bind]
  rw [if_neg (by omega), Int.toNat_natCast]
theorem enter_one (s : ByteArray) (e a n : Nat) (he : a < e) (h : nb s a = n) (h128 : n < 128) (hm : a + 1 + n ≤ e) : enterP s e a = .ok n (a + 1) := by
  unfold enterP
  rw [u32_one s e a he (by omega), h]
  simp only [Res.bind]
  rw [if_neg (by omega), Int.toNat_natCast]

def scT (c : Sc) : Sc := { { { c with nT := 0 } with types := upd c.types 0 0 } with nT := 1 }
theorem decF {s f : ByteArray} (h : TxtF s f) (hf : f.size ≤ 120) (c : Sc) : decP s c = (localsP s s.size 22).bind fun ls q1 => (bodyP s s.size (scT c) q1).bind fun c' q2 => if q2 = s.size then (if c'.nT = 1 then .ok (c', { pm0 with nf := 1 }) s.size else .err 12 s.size) else .err 6 22 := by
  have hz := h.sz
  have t1 : typesP s 14 10 = .ok (1, upd (fun _ => ⟨#[]⟩) 0 ((s.extract 13 13 ++ (⟨#[58]⟩ : ByteArray)) ++ s.extract 14 14)) 14 := by
    unfold typesP
    rw [count_one s 14 10 8 1 (by decide) h.h10 (by decide) (by decide)]
    simp only [Res.bind]
    have hfx : fixedP s 14 96 11 = .ok () 12 := by
      unfold fixedP
      rw [nextP_in (by decide), h.h11]; rfl
    have v1 : valtypesP s 14 4 12 = .ok (s.extract 13 13) 13 := by
      unfold valtypesP
      rw [count_one s 14 12 4 0 (by decide) h.h12 (by decide) (by decide)]
      rfl
    have v2 : valtypesP s 14 1 13 = .ok (s.extract 14 14) 14 := by
      unfold valtypesP
      rw [count_one s 14 13 1 0 (by decide) h.h13 (by decide) (by decide)]
      rfl
    have ht : typesL s 14 1 0 (fun _ => ⟨#[]⟩) (10 + 1) = (fixedP s 14 96 11).bind fun _ q => (valtypesP s 14 4 q).bind fun a q2 => (valtypesP s 14 1 q2).bind fun z q3 => typesL s 14 0 1 (upd (fun _ => ⟨#[]⟩) 0 ((a ++ (⟨#[58]⟩ : ByteArray)) ++ z)) q3 := rfl
    rw [ht, hfx]
    simp only [Res.bind]
    rw [v1]
    simp only [Res.bind]
    rw [v2]
    rfl
  have t3 : ∀ ty : Nat → Int, funcsP s 18 ty 16 = .ok (1, upd ty 0 0) 18 := by
    intro ty
    unfold funcsP
    rw [count_one s 18 16 8 1 (by decide) h.h16 (by decide) (by decide)]
    simp only [Res.bind]
    rw [funcsL_succ, u32_one s 18 17 (by decide) (by rw [h.h17]; decide), h.h17]
    rfl
  unfold decP
  rw [show s.size - 8 + 1 = (s.size - 22 + 11 + 1 + 1) + 1 + 1 by omega, decL_succ, if_pos (by omega), nextP_in (by omega), h.h8]
  simp only [Res.bind]
  rw [if_neg (by decide), enter_one s s.size 9 4 (by omega) h.h9 (by decide) (by omega)]
  simp only
  have s1 : ∀ (c : Sc) (P : PM), secP s (9 + 1 + 4) ((1 : Nat) : Int) c P (9 + 1) = (typesP s 14 10).bind fun _ q => .ok (c, P) q := fun _ _ => rfl
  rw [s1, t1]
  simp only [Res.bind]
  rw [if_pos True.intro, decL_succ, if_pos (by omega), nextP_in (by omega), h.h14]
  simp only [Res.bind]
  rw [if_neg (by decide), enter_one s s.size 15 2 (by omega) h.h15 (by decide) (by omega)]
  simp only
  have s3 : ∀ (c : Sc) (P : PM), secP s (15 + 1 + 2) ((3 : Nat) : Int) c P (15 + 1) = (funcsP s 18 c.types 16).bind fun a q => .ok ({ { c with types := a.2 } with nT := a.1 }, P) q := fun _ _ => rfl
  rw [s3, t3]
  simp only [Res.bind]
  rw [if_pos True.intro, decL_succ, if_pos (by omega), nextP_in (by omega), h.h18]
  simp only [Res.bind]
  rw [if_neg (by decide), enter_one s s.size 19 (f.size + 2) (by omega) h.h19 (by omega) (by omega)]
  simp only
  have hw : 19 + 1 + (f.size + 2) = s.size := by omega
  rw [hw]
  have s10 : ∀ (c : Sc) (P : PM), secP s s.size ((10 : Nat) : Int) c P (19 + 1) = (codesP s s.size c 20).bind fun a q => .ok (a.2.1, if a.1 = 0 then P else { P with nf := a.1 }) q := fun _ _ => rfl
  rw [s10]
  have hsc : ({ types := upd c.types 0 0, nT := 1, opn := c.opn, nO := c.nO, ins := c.ins, nI := c.nI, tabs := c.tabs, nTab := c.nTab } : Sc) = scT c := rfl
  have t10 : codesP s s.size (scT c) 20 = (localsP s s.size 22).bind fun ls q1 => (bodyP s s.size (scT c) q1).bind fun c' q2 => if q2 = s.size then .ok (1, c', upd fn0 0 ⟨(scT c).types 0, ls, c'.nI, c'.ins⟩) q2 else .err 6 22 := by
    unfold codesP
    rw [count_one s s.size 20 8 1 (by omega) h.h20 (by decide) (by decide)]
    simp only [Res.bind]
    rw [if_pos (show 1 = (scT c).nT from rfl), codesL_succ, enter_one s s.size 21 f.size (by omega) h.h21 (by omega) (by omega)]
    simp only [Res.bind]
    have hw2 : 20 + 1 + 1 + f.size = s.size := by omega
    have hw3 : 21 + 1 + f.size = s.size := by omega
    rw [hw3]
    cases localsP s s.size 22 using Res.cs with
    | err k a => rfl
    | ok ls q1 =>
      simp only
      cases bodyP s s.size (scT c) q1 using Res.cs with
      | err k a => rfl
      | ok c' q2 =>
        simp only
        by_cases hq : q2 = s.size
        · rw [if_pos hq, if_pos hq]; rfl
        · rw [if_neg hq, if_neg hq]; rfl
  rw [hsc, t10]
  cases localsP s s.size 22 using Res.cs with
  | err k a => rfl
  | ok ls q1 =>
    simp only [Res.bind]
    cases bodyP s s.size (scT c) q1 using Res.cs with
    | err k a => rfl
    | ok c' q2 =>
      simp only
      by_cases hq : q2 = s.size
      · rw [if_pos hq, if_pos hq]
        simp only
        rw [if_pos hq, decL_succ, if_neg (by omega), hq]
        rfl
      · rw [if_neg hq, if_neg hq]

end Go.Proofs.Qxb6500316a
