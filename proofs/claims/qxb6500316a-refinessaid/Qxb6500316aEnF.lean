/-
  The encoder: sections 1 to 5.
-/
import Derived.Test.Qxb6500316aEnE
set_option linter.unusedSimpArgs false
set_option linter.unusedVariables false
set_option maxRecDepth 100000
set_option linter.unusedSectionVars false
namespace Go.Proofs.Qxb6500316a
open Go Go.Vc

/-! ### Split -/
def splitF (t : ByteArray) : Nat → Nat → ByteArray × ByteArray
  | 0, _ => (t, ⟨#[]⟩)
  | k + 1, i => if byteAt t i = 58 then (t.extract 0 i, t.extract (i + 1) t.size) else splitF t k (i + 1)
theorem splitF_succ (t : ByteArray) (k i : Nat) : splitF t (k + 1) i = if byteAt t i = 58 then (t.extract 0 i, t.extract (i + 1) t.size) else splitF t k (i + 1) := rfl
def splitP (t : ByteArray) : ByteArray × ByteArray := splitF t t.size 0
theorem splitF_size (t : ByteArray) : ∀ k i, (splitF t k i).1.size ≤ t.size ∧ (splitF t k i).2.size ≤ t.size
  | 0, i => ⟨Nat.le_refl _, Nat.zero_le _⟩
  | k + 1, i => by
    rw [splitF_succ]
    split
    · exact ⟨by rw [ByteArray.size_extract]; omega, by rw [ByteArray.size_extract]; omega⟩
    · exact splitF_size t k (i + 1)

theorem Split_loop (t : ByteArray) (ht : t.size ≤ 1024) (R Q : Value → World → Prop) (w0 : World) (hR : ∀ w', Same [] w0.heap.size w0 w' → R (.tuple #[.string (splitP t).1, .string (splitP t).2]) w') :
    ∀ (k i : Nat) (w : World), i + k = t.size → Same [] w0.heap.size w0 w → splitP t = splitF t k i → api_Split.L1 t i R Q w := by
  intro k
  induction k with
  | zero =>
    intro i w hi hS hu
    refine api_Split.step1 _ _ _ _ _ ?_
    unfold api_Split.V1
    refine cond_false' (decide_eq_false (by omega)) ?_
    have := hR w hS
    rw [hu] at this
    exact this
  | succ k ih =>
    intro i w hi hS hu
    rw [splitF_succ] at hu
    refine api_Split.step1 _ _ _ _ _ ?_
    unfold api_Split.V1
    have e1 : IntKind.wrap .i64 ((i : Int) + 1) = ((i + 1 : Nat) : Int) := by rw [wrap_i64 (by omega) (by omega)]; omega
    refine cond_true' (decide_eq_true (by omega)) ⟨by omega, ?_⟩
    rw [e1]
    simp only [Int.toNat_natCast, true_and]
    by_cases hc : byteAt t i = 58
    · rw [if_pos hc] at hu
      refine cond_true' (beq_eq' hc) ⟨by omega, by omega, ?_⟩
      have := hR w.drew hS.drew
      rw [hu] at this
      exact this
    · rw [if_neg hc] at hu
      exact cond_false' (beq_ne hc) (ih (i + 1) w (by omega) hS hu)
theorem Split_spec (t : ByteArray) (ht : t.size ≤ 1024) (w : World) : Runs Try.prog api_Split.id #[.string t] w fun v w' => v = .tuple #[.string (splitP t).1, .string (splitP t).2] ∧ Same [] w.heap.size w w' := by
  refine api_Split.enter _ _ _ _ ?_
  unfold api_Split.V
  exact Split_loop t ht _ _ w (fun w' hS => ⟨rfl, hS⟩) t.size 0 w (by omega) (Same.refl _ _ _) rfl

variable [OutOf]

/-! ### What a module must be for its text to be written -/
structure FnB (x : FnP) : Prop where
  t0 : 0 ≤ x.ty
  t1 : x.ty ≤ 4294967295
  ls : (strOfNums x.ls).size ≤ 6
  la : Asc (strOfNums x.ls)
  nI : x.nI ≤ 96
  ins : ∀ k, k < x.nI → InsIn (x.ins k)
  nT : x.nTab ≤ 24
  tabs : ∀ k, k < x.nTab → 0 ≤ x.tabs k ∧ x.tabs k ≤ 4294967295
structure PB (P : PM) : Prop where
  nTy : P.nTy ≤ 8
  ty : ∀ j, j < P.nTy → (P.ty j).size ≤ 1024 ∧ Asc (splitP (P.ty j)).1 ∧ Asc (splitP (P.ty j)).2
  nIm : P.nIm ≤ 4
  im : ∀ j, j < P.nIm → (P.im j).md.size ≤ 1024 ∧ (P.im j).nm.size ≤ 1024 ∧ 0 ≤ (P.im j).ty ∧ (P.im j).ty ≤ 4294967295
  nf : P.nf ≤ 8
  fn : ∀ j, j < P.nf → FnB (P.fn j)
  t0 : -1 ≤ P.tmin ∧ P.tmin ≤ 4294967295
  t1 : -1 ≤ P.tmax ∧ P.tmax ≤ 4294967295
  m0 : -1 ≤ P.mmin ∧ P.mmin ≤ 4294967295
  m1 : -1 ≤ P.mmax ∧ P.mmax ≤ 4294967295
  gn : P.gn ≤ 4
  g : ∀ j, j < P.gn → 0 ≤ (P.g j).ty ∧ (P.g j).ty ≤ 255 ∧ InsIn (P.g j).init
  nEx : P.nEx ≤ 6
  ex : ∀ j, j < P.nEx → (P.ex j).nm.size ≤ 1024 ∧ 0 ≤ (P.ex j).kind ∧ (P.ex j).kind ≤ 255 ∧ 0 ≤ (P.ex j).idx ∧ (P.ex j).idx ≤ 4294967295
  s0 : -1 ≤ P.start ∧ P.start ≤ 4294967295
  nEl : P.nEl ≤ 3
  el : ∀ j, j < P.nEl → InsIn (P.el j).off ∧ (P.el j).n ≤ 6 ∧ ∀ k, k < (P.el j).n → 0 ≤ (P.el j).fns k ∧ (P.el j).fns k ≤ 4294967295
  nD : P.nD ≤ 3
  da : ∀ j, j < P.nD → InsIn (P.da j).off ∧ (P.da j).bytes.size ≤ 1024

def rowsE {α : Type} (g : α → List Int) (f : Nat → α) : Nat → List Int
  | 0 => []
  | i + 1 => rowsE g f i ++ g (f i)
theorem rowsE_succ {α : Type} (g : α → List Int) (f : Nat → α) (i : Nat) : rowsE g f (i + 1) = rowsE g f i ++ g (f i) := rfl
theorem rowsE_len {α : Type} (g : α → List Int) (f : Nat → α) (B : Nat) : ∀ i, (∀ j, j < i → (g (f j)).length ≤ B) → (rowsE g f i).length ≤ B * i
  | 0, _ => by simp [rowsE]
  | i + 1, h => by
    rw [rowsE_succ, List.length_append]
    have h1 := rowsE_len g f B i (fun j hj => h j (by omega))
    have h2 := h i (by omega)
    rw [Nat.mul_add, Nat.mul_one]; omega
theorem rowsE_ne {α : Type} (g : α → List Int) (f : Nat → α) (i : Nat) (hi : 0 < i) (h : ∀ a, g a ≠ []) : rowsE g f i ≠ [] := by
  obtain ⟨k, rfl⟩ : ∃ k, i = k + 1 := ⟨i - 1, by omega⟩
  rw [rowsE_succ]
  intro e
  exact h _ (List.append_eq_nil_iff.1 e).2
theorem rawE_len (t : ByteArray) : (rawE t).length ≤ 10 + t.size := by
  unfold rawE
  have := uleb_len (t.size : Int)
  rw [List.length_append, bytesOf_length]; omega

def typeE (t : ByteArray) : List Int := [96] ++ rawE (splitP t).1 ++ rawE (splitP t).2
def impE' (x : ImpV) : List Int := rawE x.md ++ rawE x.nm ++ [0] ++ uleb x.ty
theorem typeE_len (t : ByteArray) (h : t.size ≤ 1024) : (typeE t).length ≤ 2100 := by
  unfold typeE
  have := splitF_size t t.size 0
  have h1 := rawE_len (splitP t).1
  have h2 := rawE_len (splitP t).2
  have e : splitP t = splitF t t.size 0 := rfl
  rw [e] at h1 h2
  simp only [List.length_append, List.length_cons, List.length_nil]
  rw [e]; omega
theorem impE_len (x : ImpV) (h1 : x.md.size ≤ 1024) (h2 : x.nm.size ≤ 1024) : (impE' x).length ≤ 2100 := by
  unfold impE'
  have := rawE_len x.md; have := rawE_len x.nm; have := uleb_len x.ty
  simp only [List.length_append, List.length_cons, List.length_nil]; omega

/-- The module stands while the encoder writes. -/
def MC (wE : World) (S0 : List Nat) (L mb : Nat) (m : Nat → Value) (P : PM) : Prop := ∀ w, Same S0 wE.heap.size wE w → MInv w L m P ∧ ModAt w mb m

section
variable {wE w : World} {S0 : List Nat} {o s f L mb : Nat} {lo ls lf : List Int} {go gs gf : Option Nat} {m : Nat → Value} {P : PM}

theorem sl_len {α : Type} {enc : α → List Value} {sz : Nat} {w : World} {lo : Nat} {v : Value} {n : Nat} {ff : Nat → α} (h : SlF enc sz w lo v n ff) : ∃ a, v = .slice a n n ∧ (n ≠ 0 → ∃ b, a = some ⟨b, 0, none⟩ ∧ RowF enc sz w b n ff) := by
  rcases h with ⟨h0, h⟩ | ⟨h0, b, h1, h2, _⟩
  · exact ⟨none, by rw [h, h0], fun g => absurd h0 g⟩
  · exact ⟨_, h1, fun _ => ⟨b, rfl, h2⟩⟩

theorem head4 (hM : MC wE S0 L mb m P) (B : PB P) (c : EC wE S0 w o s f lo [] lf go gs gf) (hb : lo.length ≤ 100000) (R Q : Value → World → Prop)
    (hN : ∀ w' go' gs', EC wE S0 w' o s f (lo ++ (if 0 ≤ P.mmin then secE 5 1 (limE P.mmin P.mmax) else [])) [] lf go' gs' gf → R (.tuple #[]) w') :
    bin_encodeHead.L4 (some ⟨o, 0, none⟩) (some ⟨s, 0, none⟩) (some ⟨mb, 0, none⟩) R Q w := by
  refine bin_encodeHead.step4 _ _ _ _ _ _ ?_
  unfold bin_encodeHead.V4
  simp only [nilV_some, true_and, Nat.zero_add]
  obtain ⟨inv, md⟩ := hM w c.fr
  have h5 := md.c 5 (by decide)
  rw [inv.v5] at h5
  refine ⟨_, h5, ?_⟩
  have m0 := B.m0; have m1 := B.m1
  by_cases hm : 0 ≤ P.mmin
  · rw [if_pos hm] at hN
    refine cond_true' (decide_eq_true hm) ?_
    have cd := c.drew
    have h6 := md.drew.c 6 (by decide)
    rw [inv.v6] at h6
    refine ⟨_, h5, _, h6, ?_⟩
    obtain ⟨us, es⟩ := cd.es
    refine (limits_enc es _ _ hm m0.2 m1.1 m1.2 (by simp)).into (fun w1 g1 u1 hE1 hS1 => ⟨rfl, ?_⟩)
    have c1 := cd.stepS ⟨u1, hE1⟩ hS1
    rw [List.nil_append] at c1
    have q := limE_len P.mmin P.mmax
    refine section_spec c1 5 1 (by decide) (by decide) (by decide) (fun _ => ?_) (by omega) (fun w2 go2 c2 => ⟨rfl, hN w2 go2 g1 c2⟩)
    unfold limE; split <;> simp
  · rw [if_neg hm, List.append_nil] at hN
    exact cond_false' (decide_eq_false hm) (hN w go gs c)

theorem head3 (hM : MC wE S0 L mb m P) (B : PB P) (lo0 : List Int) (hb : lo0.length ≤ 90000) (R Q : Value → World → Prop)
    (hN : ∀ w' go' gs', EC wE S0 w' o s f (lo0 ++ secE 3 P.nf (rowsE (fun x : FnP => uleb x.ty) P.fn P.nf) ++ (if 0 ≤ P.tmin then secE 4 1 ([112] ++ limE P.tmin P.tmax) else []) ++ (if 0 ≤ P.mmin then secE 5 1 (limE P.mmin P.mmax) else [])) [] lf go' gs' gf → R (.tuple #[]) w') :
    ∀ (k i : Nat) (w : World) (go gs : Option Nat), i + k = P.nf → EC wE S0 w o s f lo0 (rowsE (fun x : FnP => uleb x.ty) P.fn i) lf go gs gf → bin_encodeHead.L3 (some ⟨o, 0, none⟩) (some ⟨s, 0, none⟩) (some ⟨mb, 0, none⟩) i R Q w := by
  have hnf := B.nf
  have rl : ∀ i, (rowsE (fun x : FnP => uleb x.ty) P.fn i).length ≤ 10 * i := fun i => rowsE_len _ _ 10 i (fun j _ => uleb_len _)
  intro k
  induction k with
  | zero =>
    intro i w go gs hi c
    obtain rfl : i = P.nf := by omega
    have r0 := rl P.nf
    refine bin_encodeHead.step3 _ _ _ _ _ _ _ ?_
    unfold bin_encodeHead.V3
    simp only [nilV_some, true_and, Nat.zero_add]
    obtain ⟨inv, md⟩ := hM w c.fr
    have h2 := md.c 2 (by decide)
    obtain ⟨a, ha⟩ : ∃ a, m 2 = .slice a P.nf P.nf := by
      rcases inv.f2 with ⟨h0, h⟩ | ⟨_, fb, h, _⟩
      · exact ⟨none, by rw [h, h0]⟩
      · exact ⟨_, h⟩
    rw [ha] at h2
    refine ⟨_, _, _, h2, cond_false' (decide_eq_false (by omega)) ⟨_, _, _, h2, ?_⟩⟩
    refine section_spec c 3 P.nf (by decide) (by omega) (by omega) (fun hp => rowsE_ne _ _ _ (by omega) (fun x => ?_)) (by omega) (fun w2 go2 c2 => ⟨rfl, ?_⟩)
    · unfold uleb; rw [ulebF_succ]; split <;> simp
    have q := secE_len 3 P.nf (rowsE (fun x : FnP => uleb x.ty) P.fn P.nf)
    obtain ⟨inv2, md2⟩ := hM w2 c2.fr
    have h3 := md2.c 3 (by decide)
    rw [inv2.v3] at h3
    refine ⟨_, h3, ?_⟩
    have t0 := B.t0; have t1 := B.t1
    by_cases ht : 0 ≤ P.tmin
    · refine cond_true' (decide_eq_true ht) ?_
      obtain ⟨us, es⟩ := c2.es
      refine put1 es _ (by simp) (fun w3 g3 u3 hE3 hS3 => ?_)
      have c3 := c2.stepS ⟨u3, hE3⟩ hS3
      have cd := c3.drew
      obtain ⟨inv3, md3⟩ := hM _ cd.fr
      have h3' := md3.c 3 (by decide)
      rw [inv3.v3] at h3'
      have h4' := md3.c 4 (by decide)
      rw [inv3.v4] at h4'
      refine ⟨_, h3', _, h4', ?_⟩
      obtain ⟨us', es'⟩ := cd.es
      refine (limits_enc es' _ _ ht t0.2 t1.1 t1.2 (by simp)).into (fun w4 g4 u4 hE4 hS4 => ⟨rfl, ?_⟩)
      have c4 := cd.stepS ⟨u4, hE4⟩ hS4
      rw [List.nil_append] at c4
      have q2 := limE_len P.tmin P.tmax
      refine section_spec c4 4 1 (by decide) (by decide) (by decide) (fun _ => by simp) (by simp; omega) (fun w5 go5 c5 => ⟨rfl, ?_⟩)
      have q5 := secE_len 4 1 ([112] ++ limE P.tmin P.tmax)
      refine head4 hM B c5 (by simp at q5 ⊢; omega) R Q (fun w6 go6 gs6 c6 => hN w6 go6 gs6 ?_)
      rw [if_pos ht]; exact c6
    · refine cond_false' (decide_eq_false ht) ?_
      refine head4 hM B c2 (by simp; omega) R Q (fun w6 go6 gs6 c6 => hN w6 go6 gs6 ?_)
      rw [if_neg ht, List.append_nil]; exact c6
  | succ k ih =>
    intro i w go gs hi c
    have r0 := rl i
    refine bin_encodeHead.step3 _ _ _ _ _ _ _ ?_
    unfold bin_encodeHead.V3
    simp only [nilV_some, true_and, Nat.zero_add]
    obtain ⟨inv, md⟩ := hM w c.fr
    have h2 := md.c 2 (by decide)
    rcases inv.f2 with ⟨h0, _⟩ | ⟨_, fb, h, hrow, _⟩
    · omega
    rw [h] at h2
    refine ⟨_, _, _, h2, cond_true' (decide_eq_true (by omega)) ⟨_, _, _, h2, by omega, ?_⟩⟩
    rw [nilV_some, Int.toNat_natCast, add_mk, Nat.zero_add]
    refine ⟨_, hrow.c0 i (by omega), ?_⟩
    have hB := B.fn i (by omega)
    have b0 := hB.t0; have b1 := hB.t1
    rw [wrap_u64 (x := (P.fn i).ty) (by omega) (by omega)]
    obtain ⟨us, es⟩ := c.es
    refine (u_spec es _ (by omega) (by omega) (by omega)).into (fun w1 g1 u1 hE1 hS1 => ⟨rfl, ?_⟩)
    have e1 : IntKind.wrap .i64 ((i : Int) + 1) = ((i + 1 : Nat) : Int) := by rw [wrap_i64 (by omega) (by omega)]; omega
    rw [e1]
    exact ih (i + 1) w1 go g1 (by omega) (c.stepS ⟨u1, hE1⟩ hS1)

theorem head2 (hM : MC wE S0 L mb m P) (B : PB P) (lo0 : List Int) (hb : lo0.length ≤ 50000) (R Q : Value → World → Prop)
    (hN : ∀ w' go' gs', EC wE S0 w' o s f (lo0 ++ secE 2 P.nIm (rowsE impE' P.im P.nIm) ++ secE 3 P.nf (rowsE (fun x : FnP => uleb x.ty) P.fn P.nf) ++ (if 0 ≤ P.tmin then secE 4 1 ([112] ++ limE P.tmin P.tmax) else []) ++ (if 0 ≤ P.mmin then secE 5 1 (limE P.mmin P.mmax) else [])) [] lf go' gs' gf → R (.tuple #[]) w') :
    ∀ (k i : Nat) (w : World) (go gs : Option Nat), i + k = P.nIm → EC wE S0 w o s f lo0 (rowsE impE' P.im i) lf go gs gf → bin_encodeHead.L2 (some ⟨o, 0, none⟩) (some ⟨s, 0, none⟩) (some ⟨mb, 0, none⟩) i R Q w := by
  have hnf := B.nIm
  have rl : ∀ i, i ≤ P.nIm → (rowsE impE' P.im i).length ≤ 2100 * i := fun i hi => rowsE_len _ _ 2100 i (fun j hj => impE_len _ (B.im j (by omega)).1 (B.im j (by omega)).2.1)
  intro k
  induction k with
  | zero =>
    intro i w go gs hi c
    obtain rfl : i = P.nIm := by omega
    have r0 := rl P.nIm (Nat.le_refl _)
    refine bin_encodeHead.step2 _ _ _ _ _ _ _ ?_
    unfold bin_encodeHead.V2
    simp only [nilV_some, true_and, Nat.zero_add]
    obtain ⟨inv, md⟩ := hM w c.fr
    have h2 := md.c 1 (by decide)
    obtain ⟨a, ha, _⟩ := sl_len inv.i1
    rw [ha] at h2
    refine ⟨_, _, _, h2, cond_false' (decide_eq_false (by omega)) ⟨_, _, _, h2, ?_⟩⟩
    refine section_spec c 2 P.nIm (by decide) (by omega) (by omega) (fun hp => rowsE_ne _ _ _ (by omega) (fun x => ?_)) (by omega) (fun w2 go2 c2 => ⟨rfl, ?_⟩)
    · unfold impE'; simp
    have q := secE_len 2 P.nIm (rowsE impE' P.im P.nIm)
    exact head3 hM B _ (by simp; omega) R Q hN P.nf 0 w2 go2 gs (by omega) c2
  | succ k ih =>
    intro i w go gs hi c
    have r0 := rl i (by omega)
    refine bin_encodeHead.step2 _ _ _ _ _ _ _ ?_
    unfold bin_encodeHead.V2
    simp only [nilV_some, true_and, Nat.zero_add]
    obtain ⟨inv, md⟩ := hM w c.fr
    have h2 := md.c 1 (by decide)
    obtain ⟨a, ha, hro⟩ := sl_len inv.i1
    obtain ⟨b, rfl, hrow⟩ := hro (by omega)
    rw [ha] at h2
    have bd := B.im i (by omega)
    refine ⟨_, _, _, h2, cond_true' (decide_eq_true (by omega)) ⟨_, _, _, h2, by omega, ?_⟩⟩
    simp only [nilV_some, Int.toNat_natCast, add_mk, Nat.zero_add]
    refine ⟨_, hrow.c i (by omega) 0 _ rfl, ?_⟩
    obtain ⟨us, es⟩ := c.es
    refine (raw_spec es _ bd.1 (by omega)).into (fun w1 g1 u1 hE1 hS1 => ⟨rfl, ?_⟩)
    have c1 := c.stepS ⟨u1, hE1⟩ hS1
    have q1 := rawE_len (P.im i).md
    obtain ⟨inv1, md1⟩ := hM w1 c1.fr
    have h21 := md1.c 1 (by decide)
    obtain ⟨a1, ha1, hro1⟩ := sl_len inv1.i1
    obtain ⟨b1, rfl, hrow1⟩ := hro1 (by omega)
    rw [ha1] at h21
    refine ⟨_, _, _, h21, by omega, ?_⟩
    simp only [nilV_some, add_mk, Nat.zero_add]
    refine ⟨_, hrow1.c i (by omega) 1 _ rfl, ?_⟩
    refine (raw_spec hE1 _ bd.2.1 (by simp; omega)).into (fun w2 g2 u2 hE2 hS2 => ⟨rfl, ?_⟩)
    have c2 := c1.stepS ⟨u2, hE2⟩ hS2
    have q2 := rawE_len (P.im i).nm
    refine put1 hE2 _ (by simp; omega) (fun w3 g3 u3 hE3 hS3 => ?_)
    have c3 := c2.stepS ⟨u3, hE3⟩ hS3
    obtain ⟨inv3, md3⟩ := hM w3 c3.fr
    have h23 := md3.c 1 (by decide)
    obtain ⟨a3, ha3, hro3⟩ := sl_len inv3.i1
    obtain ⟨b3, rfl, hrow3⟩ := hro3 (by omega)
    rw [ha3] at h23
    refine ⟨_, _, _, h23, by omega, ?_⟩
    simp only [nilV_some, add_mk, Nat.zero_add]
    refine ⟨_, hrow3.c i (by omega) 2 _ rfl, ?_⟩
    rw [wrap_u64 (x := (P.im i).ty) (by omega) (by omega)]
    refine (u_spec hE3 _ (by omega) (by omega) (by simp; omega)).into (fun w4 g4 u4 hE4 hS4 => ⟨rfl, ?_⟩)
    have c4 := c3.stepS ⟨u4, hE4⟩ hS4
    have e1 : IntKind.wrap .i64 ((i : Int) + 1) = ((i + 1 : Nat) : Int) := by rw [wrap_i64 (by omega) (by omega)]; omega
    rw [e1]
    refine ih (i + 1) w4 go g4 (by omega) ?_
    rw [rowsE_succ]
    have : rowsE impE' P.im i ++ impE' (P.im i) = rowsE impE' P.im i ++ rawE (P.im i).md ++ rawE (P.im i).nm ++ [0] ++ uleb (P.im i).ty := by
      unfold impE'; simp only [List.append_assoc]
    rw [this]; exact c4

theorem head1 (hM : MC wE S0 L mb m P) (B : PB P) (lo0 : List Int) (hb : lo0.length ≤ 1000) (R Q : Value → World → Prop)
    (hN : ∀ w' go' gs', EC wE S0 w' o s f (lo0 ++ secE 1 P.nTy (rowsE typeE P.ty P.nTy) ++ secE 2 P.nIm (rowsE impE' P.im P.nIm) ++ secE 3 P.nf (rowsE (fun x : FnP => uleb x.ty) P.fn P.nf) ++ (if 0 ≤ P.tmin then secE 4 1 ([112] ++ limE P.tmin P.tmax) else []) ++ (if 0 ≤ P.mmin then secE 5 1 (limE P.mmin P.mmax) else [])) [] lf go' gs' gf → R (.tuple #[]) w') :
    ∀ (k i : Nat) (w : World) (go gs : Option Nat), i + k = P.nTy → EC wE S0 w o s f lo0 (rowsE typeE P.ty i) lf go gs gf → bin_encodeHead.L1 (some ⟨o, 0, none⟩) (some ⟨s, 0, none⟩) (some ⟨mb, 0, none⟩) i R Q w := by
  have hnf := B.nTy
  have rl : ∀ i, i ≤ P.nTy → (rowsE typeE P.ty i).length ≤ 2100 * i := fun i hi => rowsE_len _ _ 2100 i (fun j hj => typeE_len _ (B.ty j (by omega)).1)
  intro k
  induction k with
  | zero =>
    intro i w go gs hi c
    obtain rfl : i = P.nTy := by omega
    have r0 := rl P.nTy (Nat.le_refl _)
    refine bin_encodeHead.step1 _ _ _ _ _ _ _ ?_
    unfold bin_encodeHead.V1
    simp only [nilV_some, true_and, Nat.zero_add]
    obtain ⟨inv, md⟩ := hM w c.fr
    have h2 := md.c 0 (by decide)
    obtain ⟨a, ha, _⟩ := sl_len inv.t0
    rw [ha] at h2
    refine ⟨_, _, _, h2, cond_false' (decide_eq_false (by omega)) ⟨_, _, _, h2, ?_⟩⟩
    refine section_spec c 1 P.nTy (by decide) (by omega) (by omega) (fun hp => rowsE_ne _ _ _ (by omega) (fun x => ?_)) (by omega) (fun w2 go2 c2 => ⟨rfl, ?_⟩)
    · unfold typeE; simp
    have q := secE_len 1 P.nTy (rowsE typeE P.ty P.nTy)
    exact head2 hM B _ (by simp; omega) R Q hN P.nIm 0 w2 go2 gs (by omega) c2
  | succ k ih =>
    intro i w go gs hi c
    have r0 := rl i (by omega)
    refine bin_encodeHead.step1 _ _ _ _ _ _ _ ?_
    unfold bin_encodeHead.V1
    simp only [nilV_some, true_and, Nat.zero_add]
    obtain ⟨inv, md⟩ := hM w c.fr
    have h2 := md.c 0 (by decide)
    obtain ⟨a, ha, hro⟩ := sl_len inv.t0
    obtain ⟨b, rfl, hrow⟩ := hro (by omega)
    rw [ha] at h2
    have bd := B.ty i (by omega)
    have zz := splitF_size (P.ty i) (P.ty i).size 0
    have es0 : splitP (P.ty i) = splitF (P.ty i) (P.ty i).size 0 := rfl
    refine ⟨_, _, _, h2, cond_true' (decide_eq_true (by omega)) ⟨_, _, _, h2, by omega, ?_⟩⟩
    simp only [nilV_some, Int.toNat_natCast, add_mk, Nat.zero_add, Nat.mul_one]
    have hc := hrow.c i (by omega) 0 _ rfl
    rw [Nat.mul_one, Nat.add_zero] at hc
    refine ⟨_, hc, RunsQ.mono (Split_spec (P.ty i) bd.1 w) ?_ (fun _ _ h => h.elim)⟩
    rintro v w' ⟨rfl, hS'⟩
    refine ⟨_, _, rfl, ?_⟩
    obtain ⟨us, es⟩ := c.es
    have cs := c.stepS ⟨us, es.same hS' (by simp) (by simp)⟩ (WS.of s gs hS')
    obtain ⟨us', es'⟩ := cs.es
    refine put1 es' _ (by omega) (fun w1 g1 u1 hE1 hS1 => ?_)
    have c1 := cs.stepS ⟨u1, hE1⟩ hS1
    refine (vals_spec hE1 _ (by rw [es0]; omega) bd.2.1 (by rw [es0]; simp; omega)).into (fun w2 g2 u2 hE2 hS2 => ⟨rfl, ?_⟩)
    have c2 := c1.stepS ⟨u2, hE2⟩ hS2
    have q1 := rawE_len (splitP (P.ty i)).1
    have zz1 : (splitP (P.ty i)).1.size ≤ 1024 := by rw [es0]; omega
    have zz2 : (splitP (P.ty i)).2.size ≤ 1024 := by rw [es0]; omega
    refine (vals_spec hE2 _ zz2 bd.2.2 (by simp; omega)).into (fun w3 g3 u3 hE3 hS3 => ⟨rfl, ?_⟩)
    have c3 := c2.stepS ⟨u3, hE3⟩ hS3
    have e1 : IntKind.wrap .i64 ((i : Int) + 1) = ((i + 1 : Nat) : Int) := by rw [wrap_i64 (by omega) (by omega)]; omega
    rw [e1]
    refine ih (i + 1) w3 go g3 (by omega) ?_
    rw [rowsE_succ]
    have : rowsE typeE P.ty i ++ typeE (P.ty i) = rowsE typeE P.ty i ++ [96] ++ rawE (splitP (P.ty i)).1 ++ rawE (splitP (P.ty i)).2 := by
      unfold typeE; simp only [List.append_assoc]
    rw [this]; exact c3

def headE (P : PM) : List Int := secE 1 P.nTy (rowsE typeE P.ty P.nTy) ++ secE 2 P.nIm (rowsE impE' P.im P.nIm) ++ secE 3 P.nf (rowsE (fun x : FnP => uleb x.ty) P.fn P.nf) ++ (if 0 ≤ P.tmin then secE 4 1 ([112] ++ limE P.tmin P.tmax) else []) ++ (if 0 ≤ P.mmin then secE 5 1 (limE P.mmin P.mmax) else [])
theorem head_spec (hM : MC wE S0 L mb m P) (B : PB P) (c : EC wE S0 w o s f lo [] lf go gs gf) (hb : lo.length ≤ 1000) {R Q : Value → World → Prop} (hN : ∀ w' go' gs', EC wE S0 w' o s f (lo ++ headE P) [] lf go' gs' gf → R (.tuple #[]) w') :
    RunsQ Try.prog bin_encodeHead.id #[rp o, rp s, rp mb] w R Q := by
  refine bin_encodeHead.enter _ _ _ _ _ _ ?_
  unfold bin_encodeHead.V
  refine head1 hM B lo hb R Q (fun w' go' gs' c' => hN w' go' gs' ?_) P.nTy 0 w go gs (by omega) c
  unfold headE
  simp only [← List.append_assoc]
  exact c'
end

end Go.Proofs.Qxb6500316a
