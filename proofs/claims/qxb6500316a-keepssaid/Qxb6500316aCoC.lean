/-
  The text of a decoded module is no longer than the text that was decoded.
-/
import Derived.Test.Qxb6500316aCoB
set_option linter.unusedSimpArgs false
set_option linter.unusedVariables false
set_option maxRecDepth 100000
namespace Go.Proofs.Qxb6500316a
open Go Go.Vc

def l1 (n : Nat) (f : Nat → ByteArray) : Nat := (secE 1 n (rowsE typeE f n)).length
def l2 (n : Nat) (f : Nat → ImpV) : Nat := (secE 2 n (rowsE impE' f n)).length
def l3 (n : Nat) (f : Nat → Int) : Nat := (secE 3 n (rowsE uleb f n)).length
def l4 (a b : Int) : Nat := (if 0 ≤ a then secE 4 1 ([112] ++ limE a b) else []).length
def l5 (a b : Int) : Nat := (if 0 ≤ a then secE 5 1 (limE a b) else []).length
def l6 (n : Nat) (f : Nat → Glob) : Nat := (secE 6 n (rowsE globE' f n)).length
def l7 (n : Nat) (f : Nat → ExpV) : Nat := (secE 7 n (rowsE expE' f n)).length
def l8 (a : Int) : Nat := (if 0 ≤ a then [8, IntKind.wrap .u8 (ulenF 10 a 1)] ++ uleb a else []).length
def l9 (n : Nat) (f : Nat → ElV) : Nat := (secE 9 n (rowsE elE' f n)).length
def l10 (n : Nat) (f : Nat → FnP) : Nat := (secE 10 n (rowsE codeE f n)).length
def l11 (n : Nat) (f : Nat → DatV) : Nat := (secE 11 n (rowsE datE' f n)).length
def eLen (P : PM) : Nat := 8 + l1 P.nTy P.ty + l2 P.nIm P.im + l3 P.nf (fun j => (P.fn j).ty) + l4 P.tmin P.tmax + l5 P.mmin P.mmax + l6 P.gn P.g + l7 P.nEx P.ex + l8 P.start + l9 P.nEl P.el + l10 P.nf P.fn + l11 P.nD P.da
theorem rowsE_ty (f : Nat → FnP) : ∀ n, rowsE (fun x : FnP => uleb x.ty) f n = rowsE uleb (fun j => (f j).ty) n
  | 0 => rfl
  | n + 1 => by
    haveI := outNil
    rw [rowsE_succ, rowsE_succ, rowsE_ty f n]
theorem encP_len (P : PM) : (encP P).length = eLen P := by
  unfold encP headE midE tailE startE
  rw [rowsE_ty]
  simp only [List.length_append]
  have : magicL.length = 8 := rfl
  unfold eLen l1 l2 l3 l4 l5 l6 l7 l8 l9 l10 l11
  try simp only [List.length_append]
  omega
theorem sec_le {id : Int} {n m w : Nat} {ls : List Int} (hn : n ≤ 1000) (h : (uleb (n : Int)).length + ls.length ≤ w) (hw : W32 (w : Int)) (hm : (uleb (w : Int)).length + 1 + w ≤ m) : (secE id (n : Int) ls).length ≤ m := by
  by_cases h0 : n = 0
  · rw [h0, secE_zero]; exact Nat.zero_le _
  · rw [secE_pos id n ls (by omega) hn]
    have el : ([id] ++ uleb ((uleb (n : Int) ++ ls).length : Int) ++ (uleb (n : Int) ++ ls)).length = 1 + (uleb ((uleb (n : Int) ++ ls).length : Int)).length + (uleb (n : Int) ++ ls).length := by rw [List.length_append, List.length_append]; rfl
    have ell : (uleb (n : Int) ++ ls).length = (uleb (n : Int)).length + ls.length := List.length_append
    have := win_le (m := (uleb (n : Int) ++ ls).length) (n := w) (by omega) hw
    omega
/-- What the module will cost, the functions' types ahead of their bodies too. -/
def phi (c : Sc) (P : PM) : Nat := eLen P + (if P.nf = 0 then l3 c.nT c.types else 0)
/-- Behind section last the later parts stand as at the start. -/
structure Fresh (last : Int) (c : Sc) (P : PM) : Prop where
  d1 : last < 1 → P.nTy = 0
  d2 : last < 2 → P.nIm = 0
  d3 : last < 3 → c.nT = 0
  d4 : last < 4 → P.tmin = -1
  d5 : last < 5 → P.mmin = -1
  d6 : last < 6 → P.gn = 0
  d7 : last < 7 → P.nEx = 0
  d8 : last < 8 → P.start = -1
  d9 : last < 9 → P.nEl = 0
  d10 : last < 10 → P.nf = 0
  d11 : last < 11 → P.nD = 0
theorem phi1 (c : Sc) (P : PM) (n : Nat) (f : Nat → ByteArray) : phi c (P.setTy n f) + l1 P.nTy P.ty = phi c P + l1 n f := by
  show (8 + l1 n f + l2 P.nIm P.im + l3 P.nf (fun j => (P.fn j).ty) + l4 P.tmin P.tmax + l5 P.mmin P.mmax + l6 P.gn P.g + l7 P.nEx P.ex + l8 P.start + l9 P.nEl P.el + l10 P.nf P.fn + l11 P.nD P.da + (if P.nf = 0 then l3 c.nT c.types else 0)) + _ = (8 + l1 P.nTy P.ty + l2 P.nIm P.im + l3 P.nf (fun j => (P.fn j).ty) + l4 P.tmin P.tmax + l5 P.mmin P.mmax + l6 P.gn P.g + l7 P.nEx P.ex + l8 P.start + l9 P.nEl P.el + l10 P.nf P.fn + l11 P.nD P.da + (if P.nf = 0 then l3 c.nT c.types else 0)) + _
  omega
theorem phi2 (c : Sc) (P : PM) (n : Nat) (f : Nat → ImpV) : phi c (P.setIm n f) + l2 P.nIm P.im = phi c P + l2 n f := by
  show (8 + l1 P.nTy P.ty + l2 n f + l3 P.nf (fun j => (P.fn j).ty) + l4 P.tmin P.tmax + l5 P.mmin P.mmax + l6 P.gn P.g + l7 P.nEx P.ex + l8 P.start + l9 P.nEl P.el + l10 P.nf P.fn + l11 P.nD P.da + (if P.nf = 0 then l3 c.nT c.types else 0)) + _ = (8 + l1 P.nTy P.ty + l2 P.nIm P.im + l3 P.nf (fun j => (P.fn j).ty) + l4 P.tmin P.tmax + l5 P.mmin P.mmax + l6 P.gn P.g + l7 P.nEx P.ex + l8 P.start + l9 P.nEl P.el + l10 P.nf P.fn + l11 P.nD P.da + (if P.nf = 0 then l3 c.nT c.types else 0)) + _
  omega
theorem phi4 (c : Sc) (P : PM) (a b : Int) : phi c (P.setTab a b) + l4 P.tmin P.tmax = phi c P + l4 a b := by
  show (8 + l1 P.nTy P.ty + l2 P.nIm P.im + l3 P.nf (fun j => (P.fn j).ty) + l4 a b + l5 P.mmin P.mmax + l6 P.gn P.g + l7 P.nEx P.ex + l8 P.start + l9 P.nEl P.el + l10 P.nf P.fn + l11 P.nD P.da + (if P.nf = 0 then l3 c.nT c.types else 0)) + _ = (8 + l1 P.nTy P.ty + l2 P.nIm P.im + l3 P.nf (fun j => (P.fn j).ty) + l4 P.tmin P.tmax + l5 P.mmin P.mmax + l6 P.gn P.g + l7 P.nEx P.ex + l8 P.start + l9 P.nEl P.el + l10 P.nf P.fn + l11 P.nD P.da + (if P.nf = 0 then l3 c.nT c.types else 0)) + _
  omega
theorem phi5 (c : Sc) (P : PM) (a b : Int) : phi c (P.setMem a b) + l5 P.mmin P.mmax = phi c P + l5 a b := by
  show (8 + l1 P.nTy P.ty + l2 P.nIm P.im + l3 P.nf (fun j => (P.fn j).ty) + l4 P.tmin P.tmax + l5 a b + l6 P.gn P.g + l7 P.nEx P.ex + l8 P.start + l9 P.nEl P.el + l10 P.nf P.fn + l11 P.nD P.da + (if P.nf = 0 then l3 c.nT c.types else 0)) + _ = (8 + l1 P.nTy P.ty + l2 P.nIm P.im + l3 P.nf (fun j => (P.fn j).ty) + l4 P.tmin P.tmax + l5 P.mmin P.mmax + l6 P.gn P.g + l7 P.nEx P.ex + l8 P.start + l9 P.nEl P.el + l10 P.nf P.fn + l11 P.nD P.da + (if P.nf = 0 then l3 c.nT c.types else 0)) + _
  omega
theorem phi6 (c : Sc) (P : PM) (n : Nat) (f : Nat → Glob) : phi c (P.setGl n f) + l6 P.gn P.g = phi c P + l6 n f := by
  show (8 + l1 P.nTy P.ty + l2 P.nIm P.im + l3 P.nf (fun j => (P.fn j).ty) + l4 P.tmin P.tmax + l5 P.mmin P.mmax + l6 n f + l7 P.nEx P.ex + l8 P.start + l9 P.nEl P.el + l10 P.nf P.fn + l11 P.nD P.da + (if P.nf = 0 then l3 c.nT c.types else 0)) + _ = (8 + l1 P.nTy P.ty + l2 P.nIm P.im + l3 P.nf (fun j => (P.fn j).ty) + l4 P.tmin P.tmax + l5 P.mmin P.mmax + l6 P.gn P.g + l7 P.nEx P.ex + l8 P.start + l9 P.nEl P.el + l10 P.nf P.fn + l11 P.nD P.da + (if P.nf = 0 then l3 c.nT c.types else 0)) + _
  omega
theorem phi7 (c : Sc) (P : PM) (n : Nat) (f : Nat → ExpV) : phi c (P.setEx n f) + l7 P.nEx P.ex = phi c P + l7 n f := by
  show (8 + l1 P.nTy P.ty + l2 P.nIm P.im + l3 P.nf (fun j => (P.fn j).ty) + l4 P.tmin P.tmax + l5 P.mmin P.mmax + l6 P.gn P.g + l7 n f + l8 P.start + l9 P.nEl P.el + l10 P.nf P.fn + l11 P.nD P.da + (if P.nf = 0 then l3 c.nT c.types else 0)) + _ = (8 + l1 P.nTy P.ty + l2 P.nIm P.im + l3 P.nf (fun j => (P.fn j).ty) + l4 P.tmin P.tmax + l5 P.mmin P.mmax + l6 P.gn P.g + l7 P.nEx P.ex + l8 P.start + l9 P.nEl P.el + l10 P.nf P.fn + l11 P.nD P.da + (if P.nf = 0 then l3 c.nT c.types else 0)) + _
  omega
theorem phi8 (c : Sc) (P : PM) (a : Int) : phi c (P.setSt a) + l8 P.start = phi c P + l8 a := by
  show (8 + l1 P.nTy P.ty + l2 P.nIm P.im + l3 P.nf (fun j => (P.fn j).ty) + l4 P.tmin P.tmax + l5 P.mmin P.mmax + l6 P.gn P.g + l7 P.nEx P.ex + l8 a + l9 P.nEl P.el + l10 P.nf P.fn + l11 P.nD P.da + (if P.nf = 0 then l3 c.nT c.types else 0)) + _ = (8 + l1 P.nTy P.ty + l2 P.nIm P.im + l3 P.nf (fun j => (P.fn j).ty) + l4 P.tmin P.tmax + l5 P.mmin P.mmax + l6 P.gn P.g + l7 P.nEx P.ex + l8 P.start + l9 P.nEl P.el + l10 P.nf P.fn + l11 P.nD P.da + (if P.nf = 0 then l3 c.nT c.types else 0)) + _
  omega
theorem phi9 (c : Sc) (P : PM) (n : Nat) (f : Nat → ElV) : phi c (P.setEl n f) + l9 P.nEl P.el = phi c P + l9 n f := by
  show (8 + l1 P.nTy P.ty + l2 P.nIm P.im + l3 P.nf (fun j => (P.fn j).ty) + l4 P.tmin P.tmax + l5 P.mmin P.mmax + l6 P.gn P.g + l7 P.nEx P.ex + l8 P.start + l9 n f + l10 P.nf P.fn + l11 P.nD P.da + (if P.nf = 0 then l3 c.nT c.types else 0)) + _ = (8 + l1 P.nTy P.ty + l2 P.nIm P.im + l3 P.nf (fun j => (P.fn j).ty) + l4 P.tmin P.tmax + l5 P.mmin P.mmax + l6 P.gn P.g + l7 P.nEx P.ex + l8 P.start + l9 P.nEl P.el + l10 P.nf P.fn + l11 P.nD P.da + (if P.nf = 0 then l3 c.nT c.types else 0)) + _
  omega
theorem phi11 (c : Sc) (P : PM) (n : Nat) (f : Nat → DatV) : phi c (P.setDa n f) + l11 P.nD P.da = phi c P + l11 n f := by
  show (8 + l1 P.nTy P.ty + l2 P.nIm P.im + l3 P.nf (fun j => (P.fn j).ty) + l4 P.tmin P.tmax + l5 P.mmin P.mmax + l6 P.gn P.g + l7 P.nEx P.ex + l8 P.start + l9 P.nEl P.el + l10 P.nf P.fn + l11 n f + (if P.nf = 0 then l3 c.nT c.types else 0)) + _ = (8 + l1 P.nTy P.ty + l2 P.nIm P.im + l3 P.nf (fun j => (P.fn j).ty) + l4 P.tmin P.tmax + l5 P.mmin P.mmax + l6 P.gn P.g + l7 P.nEx P.ex + l8 P.start + l9 P.nEl P.el + l10 P.nf P.fn + l11 P.nD P.da + (if P.nf = 0 then l3 c.nT c.types else 0)) + _
  omega
theorem l3_congr (n : Nat) {f g : Nat → Int} (h : ∀ j, j < n → f j = g j) : l3 n f = l3 n g := by
  unfold l3
  have : ∀ k, k ≤ n → rowsE uleb f k = rowsE uleb g k := by
    intro k
    induction k with
    | zero => intro _; rfl
    | succ k ih =>
      intro hk
      haveI := outNil
      rw [rowsE_succ, rowsE_succ, ih (by omega), h k (by omega)]
  rw [this n (Nat.le_refl _)]
theorem codesL_nT {s : ByteArray} {e : Nat} : ∀ (k i : Nat) (c : Sc) (F : Nat → FnP) (p : Nat) {x : Sc × (Nat → FnP)} {q : Nat}, codesL s e k i c F p = .ok x q → x.1.nT = c.nT
  | 0, i, c, F, p, x, q, h => by (first | (injection h with z__; injection z__ with h1 h2) | injection h with h1 h2); subst h1; rfl
  | k + 1, i, c, F, p, x, q, h => by
    haveI := outNil
    rw [codesL_succ] at h
    obtain ⟨n, q1, h1, h2⟩ := bind_ok h
    obtain ⟨ls, q2, h3, h4⟩ := bind_ok h2
    obtain ⟨c', q3, h5, h6⟩ := bind_ok h4
    split at h6
    · rw [codesL_nT k (i + 1) _ _ _ h6]; exact (bodyP_g h5).2.2
    · cases h6
theorem enter_fit {s : ByteArray} {e p n q : Nat} (h : enterP s e p = .ok n q) : q + n ≤ e := by
  obtain ⟨c, q', h1, h2⟩ := bind_ok h
  have hr := u32P_rng h1
  split at h2
  · cases h2
  · (first | (injection h2 with z__; injection z__ with h3 h4) | injection h2 with h3 h4)
    omega
theorem sec_cost {s : ByteArray} {w q1 q2 : Nat} {id last : Int} {c : Sc} {P : PM} {x : Sc × PM} (hid : last < id ∧ id ≤ 11 ∧ 1 ≤ id) (H : Fresh last c P) (h : secP s (q1 + w) id c P q1 = .ok x q2) (hq : q2 = q1 + w) (hw : W32 (w : Int)) :
    Fresh id x.1 x.2 ∧ phi x.1 x.2 ≤ phi c P + (1 + (uleb (w : Int)).length + w) := by
  unfold secP at h
  by_cases i1 : id = 1
  · rw [if_pos i1] at h
    obtain ⟨a, qa, h1, h2⟩ := bind_ok h
    obtain ⟨n, q2', h3, h4⟩ := bind_ok h1
    obtain ⟨f, q3, h5, h6⟩ := bind_ok h4
    have cn := countP_le h3; have c1 := count_cost h3; have c2 := (typesL_cost n 0 _ _ h5).2
    (first | (injection h6 with z__; injection z__ with h7 h8) | injection h6 with h7 h8); subst h7
    (first | (injection h2 with z__; injection z__ with h9 h10) | injection h2 with h9 h10); subst h9
    have hl : l1 n f ≤ 1 + (uleb (w : Int)).length + w := sec_le (n := n) (w := w) (by omega) (by rw [rowsE_eqR]; omega) hw (by omega)
    show Fresh id c (if n = 0 then P else P.setTy n f) ∧ phi c (if n = 0 then P else P.setTy n f) ≤ _
    by_cases n0 : n = 0
    · rw [if_pos n0]
      exact ⟨⟨fun g => by omega, fun g => H.d2 (by omega), fun g => H.d3 (by omega), fun g => H.d4 (by omega), fun g => H.d5 (by omega), fun g => H.d6 (by omega), fun g => H.d7 (by omega), fun g => H.d8 (by omega), fun g => H.d9 (by omega), fun g => H.d10 (by omega), fun g => H.d11 (by omega)⟩, by omega⟩
    · rw [if_neg n0]
      have := phi1 c P n f
      exact ⟨⟨fun g => by omega, fun g => H.d2 (by omega), fun g => H.d3 (by omega), fun g => H.d4 (by omega), fun g => H.d5 (by omega), fun g => H.d6 (by omega), fun g => H.d7 (by omega), fun g => H.d8 (by omega), fun g => H.d9 (by omega), fun g => H.d10 (by omega), fun g => H.d11 (by omega)⟩, by omega⟩
  rw [if_neg i1] at h
  by_cases i2 : id = 2
  · rw [if_pos i2] at h
    obtain ⟨a, qa, h1, h2⟩ := bind_ok h
    obtain ⟨n, q2', h3, h4⟩ := bind_ok h1
    obtain ⟨f, q3, h5, h6⟩ := bind_ok h4
    have cn := countP_le h3; have c1 := count_cost h3; have c2 := (importsL_cost n 0 _ _ h5).2
    (first | (injection h6 with z__; injection z__ with h7 h8) | injection h6 with h7 h8); subst h7
    (first | (injection h2 with z__; injection z__ with h9 h10) | injection h2 with h9 h10); subst h9
    have hl : l2 n f ≤ 1 + (uleb (w : Int)).length + w := sec_le (n := n) (w := w) (by omega) (by rw [rowsE_eqR]; omega) hw (by omega)
    show Fresh id c (if n = 0 then P else P.setIm n f) ∧ phi c (if n = 0 then P else P.setIm n f) ≤ _
    by_cases n0 : n = 0
    · rw [if_pos n0]
      exact ⟨⟨fun g => by omega, fun g => by omega, fun g => H.d3 (by omega), fun g => H.d4 (by omega), fun g => H.d5 (by omega), fun g => H.d6 (by omega), fun g => H.d7 (by omega), fun g => H.d8 (by omega), fun g => H.d9 (by omega), fun g => H.d10 (by omega), fun g => H.d11 (by omega)⟩, by omega⟩
    · rw [if_neg n0]
      have := phi2 c P n f
      exact ⟨⟨fun g => by omega, fun g => by omega, fun g => H.d3 (by omega), fun g => H.d4 (by omega), fun g => H.d5 (by omega), fun g => H.d6 (by omega), fun g => H.d7 (by omega), fun g => H.d8 (by omega), fun g => H.d9 (by omega), fun g => H.d10 (by omega), fun g => H.d11 (by omega)⟩, by omega⟩
  rw [if_neg i2] at h
  by_cases i3 : id = 3
  · rw [if_pos i3] at h
    obtain ⟨a, qa, h1, h2⟩ := bind_ok h
    obtain ⟨n, q2', h3, h4⟩ := bind_ok h1
    obtain ⟨f, q3, h5, h6⟩ := bind_ok h4
    have cn := countP_le h3; have c1 := count_cost h3; have c2 := (funcsL_cost n 0 _ _ h5).2
    (first | (injection h6 with z__; injection z__ with h7 h8) | injection h6 with h7 h8); subst h7
    (first | (injection h2 with z__; injection z__ with h9 h10) | injection h2 with h9 h10); subst h9
    have hl : l3 n f ≤ 1 + (uleb (w : Int)).length + w := sec_le (n := n) (w := w) (by omega) (by rw [rowsE_eqR]; omega) hw (by omega)
    refine ⟨⟨fun g => by omega, fun g => by omega, fun g => by omega, fun g => H.d4 (by omega), fun g => H.d5 (by omega), fun g => H.d6 (by omega), fun g => H.d7 (by omega), fun g => H.d8 (by omega), fun g => H.d9 (by omega), fun g => H.d10 (by omega), fun g => H.d11 (by omega)⟩, ?_⟩
    show eLen P + (if P.nf = 0 then l3 n f else 0) ≤ eLen P + (if P.nf = 0 then l3 c.nT c.types else 0) + _
    split <;> omega
  rw [if_neg i3] at h
  by_cases i4 : id = 4
  · rw [if_pos i4] at h
    obtain ⟨a, qa, h1, h2⟩ := bind_ok h
    obtain ⟨n, q2', h3, h4⟩ := bind_ok h1
    have c1 := count_cost h3
    (first | (injection h2 with z__; injection z__ with h9 h10) | injection h2 with h9 h10); subst h9
    split at h4
    · rename_i hn1
      obtain ⟨u, q3, h5, h6⟩ := bind_ok h4
      have c0 := fixed_cost h5
      obtain ⟨y, q4, h7, h8⟩ := bind_ok h6
      have c3 := limits_cost h7
      (first | (injection h8 with z__; injection z__ with h11 h12) | injection h8 with h11 h12); subst h11
      have hl : l4 y.1 y.2 ≤ 1 + (uleb (w : Int)).length + w := by
        unfold l4
        split
        · have e11 : (1 : Int) = ((1 : Nat) : Int) := rfl
          rw [e11]
          refine sec_le (n := 1) (w := w) (by omega) ?_ hw (by omega)
          rw [hn1] at c1
          rw [List.length_append]; have e1 : ([112] : List Int).length = 1 := rfl; omega
        · exact Nat.zero_le _
      have := phi4 c P y.1 y.2
      refine ⟨⟨fun g => by omega, fun g => by omega, fun g => by omega, fun g => by omega, fun g => H.d5 (by omega), fun g => H.d6 (by omega), fun g => H.d7 (by omega), fun g => H.d8 (by omega), fun g => H.d9 (by omega), fun g => H.d10 (by omega), fun g => H.d11 (by omega)⟩, ?_⟩
      show phi c (P.setTab y.1 y.2) ≤ _
      omega
    · (first | (injection h4 with z__; injection z__ with h11 h12) | injection h4 with h11 h12); subst h11
      exact ⟨⟨fun g => by omega, fun g => by omega, fun g => by omega, fun g => by omega, fun g => H.d5 (by omega), fun g => H.d6 (by omega), fun g => H.d7 (by omega), fun g => H.d8 (by omega), fun g => H.d9 (by omega), fun g => H.d10 (by omega), fun g => H.d11 (by omega)⟩, by show phi c P ≤ _; omega⟩
  rw [if_neg i4] at h
  by_cases i5 : id = 5
  · rw [if_pos i5] at h
    obtain ⟨a, qa, h1, h2⟩ := bind_ok h
    obtain ⟨n, q2', h3, h4⟩ := bind_ok h1
    have c1 := count_cost h3
    (first | (injection h2 with z__; injection z__ with h9 h10) | injection h2 with h9 h10); subst h9
    split at h4
    · rename_i hn1
      obtain ⟨y, q4, h7, h8⟩ := bind_ok h4
      have c3 := limits_cost h7
      (first | (injection h8 with z__; injection z__ with h11 h12) | injection h8 with h11 h12); subst h11
      have hl : l5 y.1 y.2 ≤ 1 + (uleb (w : Int)).length + w := by
        unfold l5
        split
        · have e11 : (1 : Int) = ((1 : Nat) : Int) := rfl
          rw [e11]
          refine sec_le (n := 1) (w := w) (by omega) ?_ hw (by omega)
          rw [hn1] at c1
          omega
        · exact Nat.zero_le _
      have := phi5 c P y.1 y.2
      refine ⟨⟨fun g => by omega, fun g => by omega, fun g => by omega, fun g => by omega, fun g => by omega, fun g => H.d6 (by omega), fun g => H.d7 (by omega), fun g => H.d8 (by omega), fun g => H.d9 (by omega), fun g => H.d10 (by omega), fun g => H.d11 (by omega)⟩, ?_⟩
      show phi c (P.setMem y.1 y.2) ≤ _
      omega
    · (first | (injection h4 with z__; injection z__ with h11 h12) | injection h4 with h11 h12); subst h11
      exact ⟨⟨fun g => by omega, fun g => by omega, fun g => by omega, fun g => by omega, fun g => by omega, fun g => H.d6 (by omega), fun g => H.d7 (by omega), fun g => H.d8 (by omega), fun g => H.d9 (by omega), fun g => H.d10 (by omega), fun g => H.d11 (by omega)⟩, by show phi c P ≤ _; omega⟩
  rw [if_neg i5] at h
  by_cases i6 : id = 6
  · rw [if_pos i6] at h
    obtain ⟨a, qa, h1, h2⟩ := bind_ok h
    obtain ⟨n, q2', h3, h4⟩ := bind_ok h1
    obtain ⟨f, q3, h5, h6⟩ := bind_ok h4
    have cn := countP_le h3; have c1 := count_cost h3; have c2 := (globsL_cost n 0 _ _ h5).2
    (first | (injection h6 with z__; injection z__ with h7 h8) | injection h6 with h7 h8); subst h7
    (first | (injection h2 with z__; injection z__ with h9 h10) | injection h2 with h9 h10); subst h9
    have hl : l6 n f ≤ 1 + (uleb (w : Int)).length + w := sec_le (n := n) (w := w) (by omega) (by rw [rowsE_eqR]; omega) hw (by omega)
    show Fresh id c (if n = 0 then P else P.setGl n f) ∧ phi c (if n = 0 then P else P.setGl n f) ≤ _
    by_cases n0 : n = 0
    · rw [if_pos n0]
      exact ⟨⟨fun g => by omega, fun g => by omega, fun g => by omega, fun g => by omega, fun g => by omega, fun g => by omega, fun g => H.d7 (by omega), fun g => H.d8 (by omega), fun g => H.d9 (by omega), fun g => H.d10 (by omega), fun g => H.d11 (by omega)⟩, by omega⟩
    · rw [if_neg n0]
      have := phi6 c P n f
      exact ⟨⟨fun g => by omega, fun g => by omega, fun g => by omega, fun g => by omega, fun g => by omega, fun g => by omega, fun g => H.d7 (by omega), fun g => H.d8 (by omega), fun g => H.d9 (by omega), fun g => H.d10 (by omega), fun g => H.d11 (by omega)⟩, by omega⟩
  rw [if_neg i6] at h
  by_cases i7 : id = 7
  · rw [if_pos i7] at h
    obtain ⟨a, qa, h1, h2⟩ := bind_ok h
    obtain ⟨n, q2', h3, h4⟩ := bind_ok h1
    obtain ⟨f, q3, h5, h6⟩ := bind_ok h4
    have cn := countP_le h3; have c1 := count_cost h3; have c2 := (exportsL_cost n 0 _ _ h5).2
    (first | (injection h6 with z__; injection z__ with h7 h8) | injection h6 with h7 h8); subst h7
    (first | (injection h2 with z__; injection z__ with h9 h10) | injection h2 with h9 h10); subst h9
    have hl : l7 n f ≤ 1 + (uleb (w : Int)).length + w := sec_le (n := n) (w := w) (by omega) (by rw [rowsE_eqR]; omega) hw (by omega)
    show Fresh id c (if n = 0 then P else P.setEx n f) ∧ phi c (if n = 0 then P else P.setEx n f) ≤ _
    by_cases n0 : n = 0
    · rw [if_pos n0]
      exact ⟨⟨fun g => by omega, fun g => by omega, fun g => by omega, fun g => by omega, fun g => by omega, fun g => by omega, fun g => by omega, fun g => H.d8 (by omega), fun g => H.d9 (by omega), fun g => H.d10 (by omega), fun g => H.d11 (by omega)⟩, by omega⟩
    · rw [if_neg n0]
      have := phi7 c P n f
      exact ⟨⟨fun g => by omega, fun g => by omega, fun g => by omega, fun g => by omega, fun g => by omega, fun g => by omega, fun g => by omega, fun g => H.d8 (by omega), fun g => H.d9 (by omega), fun g => H.d10 (by omega), fun g => H.d11 (by omega)⟩, by omega⟩
  rw [if_neg i7] at h
  by_cases i8 : id = 8
  · rw [if_pos i8] at h
    obtain ⟨n, q2', h1, h2⟩ := bind_ok h
    have c1 := u32P_cost h1
    have r1 := u32P_rng h1
    (first | (injection h2 with z__; injection z__ with h9 h10) | injection h2 with h9 h10); subst h9
    have hl : l8 n ≤ 1 + (uleb (w : Int)).length + w := by
      unfold l8
      split
      · rw [List.length_append]
        have e2 : ([8, IntKind.wrap .u8 (ulenF 10 n 1)] : List Int).length = 2 := rfl
        have := uleb_pos (w : Int)
        omega
      · exact Nat.zero_le _
    have := phi8 c P n
    refine ⟨⟨fun g => by omega, fun g => by omega, fun g => by omega, fun g => by omega, fun g => by omega, fun g => by omega, fun g => by omega, fun g => by omega, fun g => H.d9 (by omega), fun g => H.d10 (by omega), fun g => H.d11 (by omega)⟩, ?_⟩
    show phi c (P.setSt n) ≤ _
    omega
  rw [if_neg i8] at h
  by_cases i9 : id = 9
  · rw [if_pos i9] at h
    obtain ⟨a, qa, h1, h2⟩ := bind_ok h
    obtain ⟨n, q2', h3, h4⟩ := bind_ok h1
    obtain ⟨f, q3, h5, h6⟩ := bind_ok h4
    have cn := countP_le h3; have c1 := count_cost h3; have c2 := (elemsL_cost n 0 _ _ h5).2
    (first | (injection h6 with z__; injection z__ with h7 h8) | injection h6 with h7 h8); subst h7
    (first | (injection h2 with z__; injection z__ with h9 h10) | injection h2 with h9 h10); subst h9
    have hl : l9 n f ≤ 1 + (uleb (w : Int)).length + w := sec_le (n := n) (w := w) (by omega) (by rw [rowsE_eqR]; omega) hw (by omega)
    show Fresh id c (if n = 0 then P else P.setEl n f) ∧ phi c (if n = 0 then P else P.setEl n f) ≤ _
    by_cases n0 : n = 0
    · rw [if_pos n0]
      exact ⟨⟨fun g => by omega, fun g => by omega, fun g => by omega, fun g => by omega, fun g => by omega, fun g => by omega, fun g => by omega, fun g => by omega, fun g => by omega, fun g => H.d10 (by omega), fun g => H.d11 (by omega)⟩, by omega⟩
    · rw [if_neg n0]
      have := phi9 c P n f
      exact ⟨⟨fun g => by omega, fun g => by omega, fun g => by omega, fun g => by omega, fun g => by omega, fun g => by omega, fun g => by omega, fun g => by omega, fun g => by omega, fun g => H.d10 (by omega), fun g => H.d11 (by omega)⟩, by omega⟩
  rw [if_neg i9] at h
  by_cases i10 : id = 10
  · rw [if_pos i10] at h
    obtain ⟨a, qa, h1, h2⟩ := bind_ok h
    obtain ⟨n, q2', h3, h4⟩ := bind_ok h1
    split at h4
    · rename_i hnT
      obtain ⟨y, q3, h5, h6⟩ := bind_ok h4
      have cn := countP_le h3; have c1 := count_cost h3; obtain ⟨_, ct, c2⟩ := codesL_cost n 0 c _ _ h5
      (first | (injection h6 with z__; injection z__ with h7 h8) | injection h6 with h7 h8); subst h7
      (first | (injection h2 with z__; injection z__ with h9 h10) | injection h2 with h9 h10); subst h9
      obtain ⟨c', f⟩ := y
      have hl : l10 n f ≤ 1 + (uleb (w : Int)).length + w := sec_le (n := n) (w := w) (by omega) (by rw [rowsE_eqR]; simp only at c2; omega) hw (by omega)
      have hz := H.d10 (by omega)
      show Fresh id c' (if n = 0 then P else P.setFn n f) ∧ phi c' (if n = 0 then P else P.setFn n f) ≤ _
      have hty : l3 n (fun j => (f j).ty) = l3 c.nT c.types := by
        rw [← hnT]
        exact l3_congr n (fun j hj => ct j (Nat.zero_le _) (by omega))
      have e0 : phi c P = eLen P + l3 c.nT c.types := by unfold phi; rw [if_pos hz]
      by_cases n0 : n = 0
      · rw [if_pos n0]
        refine ⟨⟨fun g => by omega, fun g => by omega, fun g => by omega, fun g => by omega, fun g => by omega, fun g => by omega, fun g => by omega, fun g => by omega, fun g => by omega, fun g => by omega, fun g => H.d11 (by omega)⟩, ?_⟩
        have hk : c'.nT = c.nT := (codesL_nT n 0 c _ _ h5)
        unfold phi
        rw [if_pos hz, if_pos hz, hk, ← hnT, n0]
        show eLen P + l3 0 c'.types ≤ eLen P + l3 0 c.types + _
        have z0 : ∀ t, l3 0 t = 0 := fun t => rfl
        rw [z0, z0]; omega
      · rw [if_neg n0]
        refine ⟨⟨fun g => by omega, fun g => by omega, fun g => by omega, fun g => by omega, fun g => by omega, fun g => by omega, fun g => by omega, fun g => by omega, fun g => by omega, fun g => by omega, fun g => H.d11 (by omega)⟩, ?_⟩
        rw [e0]
        have l0 : l3 P.nf (fun j => (P.fn j).ty) = 0 ∧ l10 P.nf P.fn = 0 := by rw [hz]; exact ⟨rfl, rfl⟩
        show (8 + l1 P.nTy P.ty + l2 P.nIm P.im + l3 n (fun j => (f j).ty) + l4 P.tmin P.tmax + l5 P.mmin P.mmax + l6 P.gn P.g + l7 P.nEx P.ex + l8 P.start + l9 P.nEl P.el + l10 n f + l11 P.nD P.da) + (if n = 0 then l3 c'.nT c'.types else 0) ≤ (8 + l1 P.nTy P.ty + l2 P.nIm P.im + l3 P.nf (fun j => (P.fn j).ty) + l4 P.tmin P.tmax + l5 P.mmin P.mmax + l6 P.gn P.g + l7 P.nEx P.ex + l8 P.start + l9 P.nEl P.el + l10 P.nf P.fn + l11 P.nD P.da) + l3 c.nT c.types + _
        rw [if_neg n0, hty]
        omega
    · cases h4
  rw [if_neg i10] at h
  · obtain ⟨a, qa, h1, h2⟩ := bind_ok h
    obtain ⟨n, q2', h3, h4⟩ := bind_ok h1
    obtain ⟨f, q3, h5, h6⟩ := bind_ok h4
    have cn := countP_le h3; have c1 := count_cost h3; have c2 := (datasL_cost n 0 _ _ h5).2
    (first | (injection h6 with z__; injection z__ with h7 h8) | injection h6 with h7 h8); subst h7
    (first | (injection h2 with z__; injection z__ with h9 h10) | injection h2 with h9 h10); subst h9
    have hl : l11 n f ≤ 1 + (uleb (w : Int)).length + w := sec_le (n := n) (w := w) (by omega) (by rw [rowsE_eqR]; omega) hw (by omega)
    show Fresh id c (if n = 0 then P else P.setDa n f) ∧ phi c (if n = 0 then P else P.setDa n f) ≤ _
    by_cases n0 : n = 0
    · rw [if_pos n0]
      exact ⟨⟨fun g => by omega, fun g => by omega, fun g => by omega, fun g => by omega, fun g => by omega, fun g => by omega, fun g => by omega, fun g => by omega, fun g => by omega, fun g => by omega, fun g => by omega⟩, by omega⟩
    · rw [if_neg n0]
      have := phi11 c P n f
      exact ⟨⟨fun g => by omega, fun g => by omega, fun g => by omega, fun g => by omega, fun g => by omega, fun g => by omega, fun g => by omega, fun g => by omega, fun g => by omega, fun g => by omega, fun g => by omega⟩, by omega⟩
theorem dec_cost {s : ByteArray} : ∀ (k : Nat) (last : Int) (c : Sc) (P : PM) (p : Nat) {x : Sc × PM} {q : Nat}, decL s k last c P p = .ok x q → 0 ≤ last → Fresh last c P → phi c P ≤ p → p ≤ s.size → (encP x.2).length ≤ s.size
  | 0, last, c, P, p, x, q, h, _, _, _, _ => by cases h
  | k + 1, last, c, P, p, x, q, h, hl, H, hp, hs => by
    haveI := outNil
    rw [decL_succ] at h
    split at h
    · rename_i hlt
      obtain ⟨id, q1, h1, h2⟩ := bind_ok h
      split at h2
      · cases h2
      rename_i hid
      obtain ⟨n, q2, h3, h4⟩ := bind_ok h2
      obtain ⟨y, q3, h5, h6⟩ := bind_ok h4
      split at h6
      · rename_i hq
        obtain ⟨c1, cw⟩ := enter_cost h3
        have c0 := next_cost h1
        obtain ⟨g1, g2⟩ := sec_cost (last := last) ⟨by omega, by omega, by omega⟩ H h5 hq cw
        have he : q2 + n ≤ s.size := enter_fit h3
        exact dec_cost k id y.1 y.2 q3 h6 (by omega) g1 (by omega) (by omega)
      · cases h6
    · split at h
      · (first | (injection h with z__; injection z__ with h1 h2) | injection h with h1 h2); subst h1
        rw [encP_len]
        have : eLen P ≤ phi c P := by unfold phi; omega
        show eLen P ≤ _
        omega
      · cases h
theorem decP_short {s : ByteArray} {c : Sc} {x : Sc × PM} {q : Nat} (h8 : 8 ≤ s.size) (h : decP s c = .ok x q) : (encP x.2).length ≤ s.size := by
  refine dec_cost _ _ _ _ _ h (Int.le_refl _) ?_ ?_ h8
  · exact ⟨fun _ => rfl, fun _ => rfl, fun _ => rfl, fun _ => rfl, fun _ => rfl, fun _ => rfl, fun _ => rfl, fun _ => rfl, fun _ => rfl, fun _ => rfl, fun _ => rfl⟩
  · exact Nat.le_refl _

end Go.Proofs.Qxb6500316a
