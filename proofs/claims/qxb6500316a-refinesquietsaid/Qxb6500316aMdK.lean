/-
  The model's vector sections.
-/
import Derived.Test.Qxb6500316aMdJ
set_option linter.unusedSimpArgs false
set_option linter.unusedVariables false
set_option maxRecDepth 100000
set_option linter.unusedSectionVars false
namespace Go.Proofs.Qxb6500316a
open Go Go.Vc

/-- A section's row under way: i rows f stand in field k of the module. -/
structure VF {α : Type} (enc : α → List Value) (t : TypeId) (sz k : Nat) (w0 w : World) (rb mb i : Nat) (f : Nat → α) (a : Option Addr) (c : Nat) : Prop where
  mr : MR w w0.heap.size mb k t sz a i c (rowV enc f i)
  S : Same [rb, mb] w0.heap.size w0 w
  oth : ∀ j, j ≠ k → w.cell? ⟨mb, j, none⟩ = w0.cell? ⟨mb, j, none⟩
  rm : rb ≠ mb
  lr : rb < w0.heap.size
section
variable {α : Type} {enc : α → List Value} {t : TypeId} {sz k : Nat} {w0 w w' : World} {rb mb i : Nat} {f : Nat → α} {a : Option Addr} {c : Nat}
theorem VF.step (h : VF enc t sz k w0 w rb mb i f a c) (hs : Same [rb] w.heap.size w w') : VF enc t sz k w0 w' rb mb i f a c := by
  have l1 := h.lr; have l2 := h.rm
  have hl : mb < w.heap.size := cell_lt h.mr.cell
  exact ⟨h.mr.same hs (by intro d hd; simp at hd; subst hd; exact ⟨l1, l2⟩), h.S.trans (hs.mono h.S.size (by simp)), fun j hj => by rw [hs.cell hl (by simp; omega)]; exact h.oth j hj, l2, l1⟩
theorem VF.new (h : VF enc t sz k w0 w rb mb i f a c) (hs : Same [] w.heap.size w w') : VF enc t sz k w0 w' rb mb i f a c := h.step (hs.mono (Nat.le_refl _) (by simp))
theorem VF.drew (h : VF enc t sz k w0 w rb mb i f a c) : VF enc t sz k w0 w.drew rb mb i f a c := h.new (Same.refl [] w.heap.size w).drew
theorem VF.app (h : VF enc t sz k w0 w rb mb i f a c) {β : Type} {s : ByteArray} {e lo : Nat} {r : Res β} (hst : StR w rb s e lo r) {P : Program} {t1 : TypeId} {ti : TypeInfo} {z : Value} {bytes : Nat} (hE : Elem P t1 t ti z sz bytes) (ty : TypeId) (x : α) (us : List Value) (hx : us = enc x) (hus : us.length = sz) (hu : ∀ u ∈ us, u.oneCell' = true) (hn : i < 1000) (hby : bytes ≤ 1000)
    {b : Nat} {w1 : World} (hb : b = w.heap.size) (hw : w1 = w.alloc (.cells us.toArray t)) :
    ∃ (a' : Option Addr) (c' : Nat) (w2 : World), Sem.run P (Builtin.append_ #[t1, t1] ty #[.slice a i c, .slice (some ⟨b, 0, none⟩) 1 1]) w1 = .ok (.slice a' (i + 1) c') w2 ∧ Vc.can w2 ⟨mb, k, none⟩ ∧
      ∀ w3, w3 = w2.setCell ⟨mb, k, none⟩ (.slice a' (i + 1) c') → VF enc t sz k w0 w3 rb mb (i + 1) (upd f i x) a' c' ∧ StR w3 rb s e lo r ∧ Same (mb :: obk (.slice a i c)) w.heap.size w w3 := by
  subst hx
  have z0 := h.S.size
  obtain ⟨a', c', w2, hr, hc, h3⟩ := h.mr.app hE ty (enc x) hus hu hn hby z0 hb hw
  refine ⟨a', c', w2, hr, hc, fun w3 hw3 => ?_⟩
  obtain ⟨m3, S3, o3⟩ := h3 w3 hw3
  have hob : ∀ d, d ∈ obk (.slice a i c) → w0.heap.size ≤ d := fun d hd => (h.mr.row.lt d (mem_obk.1 hd)).1
  have l1 := h.lr; have l2 := h.rm
  refine ⟨⟨by rw [rowV_upd]; exact m3, h.S.trans (S3.mono z0 (by intro d hd hlt; simp at hd; rcases hd with rfl | hd; simp; exact absurd (hob d hd) (by omega))), fun j hj => by rw [o3 j hj]; exact h.oth j hj, l2, l1⟩, ?_, S3⟩
  exact hst.same S3 hst.lt (by intro hm; simp at hm; rcases hm with hm | hm; exact l2 hm; exact absurd (hob rb hm) (by omega))
end
/-- What a section's reading leaves. -/
def VPost {α : Type} (enc : α → List Value) (t : TypeId) (sz k : Nat) (w0 : World) (rb mb : Nat) (s : ByteArray) (e lo : Nat) (fin : Res (Nat × (Nat → α))) : Value → World → Prop := fun v w' =>
  v = .tuple #[] ∧ StR w' rb s e lo fin ∧ ∃ a c l f, VF enc t sz k w0 w' rb mb l f a c ∧ ∀ x q, fin = .ok x q → l = x.1 ∧ f = x.2

theorem use_str (r : Res ByteArray) (β : Type) (f : ByteArray → Nat → Res β) : (r.bind fun a q => f a q) = r.bind fun _ q => f (strR r) q := by cases r <;> rfl

/-- Where a reading stands. -/
def Res.pos {α : Type} : Res α → Res Unit
  | .ok _ q => .ok () q
  | .err n x => .err n x
theorem StR.as {α β : Type} {w : World} {rb e lo : Nat} {s : ByteArray} {r : Res α} {r' : Res β} (h : StR w rb s e lo r) (hp : r'.pos = r.pos) : StR w rb s e lo r' := by
  cases r using Res.cs with
  | ok a q =>
    cases r' using Res.cs with
    | ok b q' => (first | (injection hp with z__; injection z__ with _ hp) | injection hp with _ hp); subst hp; exact h
    | err n x => cases hp
  | err n x =>
    cases r' using Res.cs with
    | ok b q' => cases hp
    | err n' x' => (first | (injection hp with z__; injection z__ with h1 h2) | injection hp with h1 h2); subst h1 h2; exact h
section
variable {w0 w : World} {rb mb e lo : Nat} {s : ByteArray}
/-- The end of a round. -/
theorem vec_next {α : Type} {i n m : Nat} {f : Nat → α} {q : Nat} {row : Nat → Res α} {XL : Nat → Nat → (Nat → α) → Nat → Res (Nat → α)} (hXL : ∀ k i f q, XL (k + 1) i f q = (row q).bind fun x q' => XL k (i + 1) (upd f i x) q') {x : α} {fin : Res (Nat × (Nat → α))}
    (hx : ∀ y q', row q = .ok y q' → x = y) (hfin : (((Res.ok f q : Res (Nat → α)).bind fun f q => XL (m + 1) i f q).bind fun t q2 => .ok (n, t) q2) = fin) :
    ((((row q).bind fun x q' => .ok (upd f i x) q').bind fun f q => XL m (i + 1) f q).bind fun t q2 => .ok (n, t) q2) = fin ∧ ∀ f' q', ((row q).bind fun x q' => (.ok (upd f i x) q' : Res (Nat → α))) = .ok f' q' → upd f i x = f' := by
  constructor
  · rw [← hfin, Res.bind_ok', hXL, Res.bind_bind]
    cases row q <;> rfl
  · intro f' q' h
    obtain ⟨y, q2, g1, g2⟩ := bind_ok h
    (first | (injection g2 with z__; injection z__ with g2 _) | injection g2 with g2 _)
    rw [← g2, hx y q2 g1]

/-! ### types -/
def typeRow (s : ByteArray) (e p : Nat) : Res ByteArray := (fixedP s e 96 p).bind fun _ q => (valtypesP s e 4 q).bind fun a q2 => (valtypesP s e 1 q2).bind fun z q3 => .ok ((a ++ (⟨#[58]⟩ : ByteArray)) ++ z) q3
theorem typesL_row (s : ByteArray) (e k i : Nat) (f : Nat → ByteArray) (q : Nat) : typesL s e (k + 1) i f q = (typeRow s e q).bind fun x q' => typesL s e k (i + 1) (upd f i x) q' := by
  show (fixedP s e 96 q).bind (fun _ q => (valtypesP s e 4 q).bind fun a q2 => (valtypesP s e 1 q2).bind fun z q3 => typesL s e k (i + 1) (upd f i ((a ++ (⟨#[58]⟩ : ByteArray)) ++ z)) q3) = _
  unfold typeRow
  simp only [Res.bind_bind]
  rfl
theorem types_mloop (he : e ≤ s.size) (hs : s.size ≤ 1024) {n : Nat} (hn : n ≤ 8) {fin : Res (Nat × (Nat → ByteArray))} :
    ∀ (k i : Nat) (r : Res (Nat → ByteArray)) (f : Nat → ByteArray) (a : Option Addr) (c : Nat) (w : World), i + k = n → VF strE T_string 1 0 w0 w rb mb i f a c → StR w rb s e lo r → (∀ f' q, r = .ok f' q → f = f') → ((r.bind fun f q => typesL s e k i f q).bind fun t q2 => .ok (n, t) q2) = fin →
      binm_rd_section.L1 (some ⟨rb, 0, none⟩) (some ⟨mb, 0, none⟩) (n : Int) (i : Int) (VPost strE T_string 1 0 w0 rb mb s e lo fin) (fun _ _ => False) w := by
  intro k
  induction k with
  | zero =>
    intro i r f a c w hi hV hst hf hfin
    refine binm_rd_section.step1 _ _ _ _ _ _ _ ?_
    unfold binm_rd_section.V1
    refine cond_false' (decide_eq_false (by omega)) ?_
    have e1 : (r.bind fun f q => typesL s e 0 i f q) = r := by cases r <;> rfl
    rw [e1] at hfin
    refine ⟨rfl, by rw [← hfin]; exact hst.map _, a, c, i, f, hV, fun x q h => ?_⟩
    rw [← hfin] at h
    obtain ⟨f', q', g1, g2⟩ := bind_ok h
    (first | (injection g2 with z__; injection z__ with g2 _) | injection g2 with g2 _)
    subst g2
    exact ⟨by show i = n; omega, hf f' q' g1⟩
  | succ k ih =>
    intro i r f a c w hi hV hst hf hfin
    refine binm_rd_section.step1 _ _ _ _ _ _ _ ?_
    unfold binm_rd_section.V1
    simp only [nilV_some, Nat.zero_add]
    refine cond_true' (decide_eq_true (by omega)) ?_
    obtain ⟨x, hx, hx0, hx1⟩ := hst.c3
    refine ⟨_, hx, ?_⟩
    cases r using Res.cs with
    | err n' a' =>
      refine cond_false' (by simpa using (hx1 n' a' rfl).2) ?_
      exact ⟨rfl, by rw [← hfin]; exact hst, a, c, i, f, hV, fun x q h => by rw [← hfin] at h; cases h⟩
    | ok f' q =>
      have hff := hf f' q rfl
      subst hff
      refine cond_true' (by simpa using hx0 f q rfl) ?_
      refine binm_rd_section.step7 _ _ _ _ _ _ _ ?_
      unfold binm_rd_section.V7
      simp only [nilV_some, Nat.zero_add, and_true]
      refine (fixedm_spec hst he hs 96).into fun v w2 hv hst2 S2 => ⟨hv, ?_⟩
      refine (valtypesm_spec hst2 he hs 4 (by decide)).into fun v w4 hv4 hst4 S4 => ?_
      obtain ⟨t5, rfl, z5, g5⟩ := hv4
      refine ⟨_, rfl, ?_⟩
      refine (valtypesm_spec hst4 he hs 1 (by decide)).into fun v w7 hv7 hst7 S7 => ?_
      obtain ⟨t8, rfl, z8, g8⟩ := hv7
      refine ⟨_, rfl, ?_⟩
      have V7 := ((hV.step S2).step S4).step S7
      refine ⟨_, _, _, V7.mr.cell, by show ((t5.size + 1 : Nat) : Int) ≤ _; omega, by rw [ByteArray.size_append]; show ((t5.size + 1 + t8.size : Nat) : Int) ≤ _; omega, letB_intro fun b13 hb => letW_intro fun w14 hw => ?_⟩
      have hval : ∀ y q', typeRow s e q = .ok y q' → (t5 ++ (⟨#[58]⟩ : ByteArray)) ++ t8 = y := fun y q' h => by
        obtain ⟨u, q1, h1, h2⟩ := bind_ok h
        obtain ⟨a1, q2, h3, h4⟩ := bind_ok h2
        obtain ⟨z1, q3, h5, h6⟩ := bind_ok h4
        (first | (injection h6 with z__; injection z__ with h6 _) | injection h6 with h6 _)
        rw [g5 a1 q2 (by simp only [Res.bind_ok', h1, h3]), g8 z1 q3 (by simp only [Res.bind_ok', h1, h3, h5]), h6]
      have hst' : StR w7 rb s e lo (typeRow s e q) := hst7.as (by
        unfold typeRow
        simp only [Res.bind_ok']
        cases fixedP s e 96 q using Res.cs with
        | err n x => rfl
        | ok u q1 =>
          simp only [Res.bind_ok']
          cases valtypesP s e 4 q1 using Res.cs with
          | err n x => rfl
          | ok u q2 => simp only [Res.bind_ok']; cases valtypesP s e 1 q2 <;> rfl)
      obtain ⟨a', c', w15, hr, hc, h3⟩ := V7.app hst' T_sl_string.el T_sl_string ((t5 ++ (⟨#[58]⟩ : ByteArray)) ++ t8) _ rfl rfl (by intro u hu; simp at hu; subst hu; rfl) (by omega) (by omega) hb hw
      refine ⟨a', _, c', w15, hr, hc, letW_intro fun wz hwz => ?_⟩
      obtain ⟨Vz, stz, _⟩ := h3 wz hwz
      rw [wrap_i64 (by omega) (by omega), show (i : Int) + 1 = ((i + 1 : Nat) : Int) by omega]
      obtain ⟨hfin', hag⟩ := vec_next (fun k i f q => typesL_row s e k i f q) hval hfin
      exact ih (i + 1) _ _ a' c' wz (by omega) Vz (stz.map _) hag hfin'
/-! ### imports -/
def importRow (s : ByteArray) (e p : Nat) : Res ImpV := (nameP s e p).bind fun v0 q1 => (nameP s e q1).bind fun v1 q2 => (fixedP s e 0 q2).bind fun _ q3 => (u32P s e q3).bind fun v3 q4 => .ok ⟨v0, v1, v3⟩ q4
theorem importsL_row (s : ByteArray) (e k i : Nat) (f : Nat → ImpV) (q : Nat) : importsL s e (k + 1) i f q = (importRow s e q).bind fun x q' => importsL s e k (i + 1) (upd f i x) q' := by
  show (nameP s e q).bind (fun v0 q1 => (nameP s e q1).bind fun v1 q2 => (fixedP s e 0 q2).bind fun _ q3 => (u32P s e q3).bind fun v3 q4 => importsL s e k (i + 1) (upd f i ⟨v0, v1, v3⟩) q4) = _
  unfold importRow
  simp only [Res.bind_bind]
  rfl
theorem imports_mloop (he : e ≤ s.size) (hs : s.size ≤ 1024) {n : Nat} (hn : n ≤ 4) {fin : Res (Nat × (Nat → ImpV))} :
    ∀ (k i : Nat) (r : Res (Nat → ImpV)) (f : Nat → ImpV) (a : Option Addr) (c : Nat) (w : World), i + k = n → VF impE T_api_Import 3 1 w0 w rb mb i f a c → StR w rb s e lo r → (∀ f' q, r = .ok f' q → f = f') → ((r.bind fun f q => importsL s e k i f q).bind fun t q2 => .ok (n, t) q2) = fin →
      binm_rd_section.L2 (some ⟨rb, 0, none⟩) (some ⟨mb, 0, none⟩) (n : Int) (i : Int) (VPost impE T_api_Import 3 1 w0 rb mb s e lo fin) (fun _ _ => False) w := by
  intro k
  induction k with
  | zero =>
    intro i r f a c w hi hV hst hf hfin
    refine binm_rd_section.step2 _ _ _ _ _ _ _ ?_
    unfold binm_rd_section.V2
    refine cond_false' (decide_eq_false (by omega)) ?_
    have e1 : (r.bind fun f q => importsL s e 0 i f q) = r := by cases r <;> rfl
    rw [e1] at hfin
    refine ⟨rfl, by rw [← hfin]; exact hst.map _, a, c, i, f, hV, fun x q h => ?_⟩
    rw [← hfin] at h
    obtain ⟨f', q', g1, g2⟩ := bind_ok h
    (first | (injection g2 with z__; injection z__ with g2 _) | injection g2 with g2 _)
    subst g2
    exact ⟨by show i = n; omega, hf f' q' g1⟩
  | succ k ih =>
    intro i r f a c w hi hV hst hf hfin
    refine binm_rd_section.step2 _ _ _ _ _ _ _ ?_
    unfold binm_rd_section.V2
    simp only [nilV_some, Nat.zero_add]
    refine cond_true' (decide_eq_true (by omega)) ?_
    obtain ⟨x, hx, hx0, hx1⟩ := hst.c3
    refine ⟨_, hx, ?_⟩
    cases r using Res.cs with
    | err n' a' =>
      refine cond_false' (by simpa using (hx1 n' a' rfl).2) ?_
      exact ⟨rfl, by rw [← hfin]; exact hst, a, c, i, f, hV, fun x q h => by rw [← hfin] at h; cases h⟩
    | ok f' q =>
      have hff := hf f' q rfl
      subst hff
      refine cond_true' (by simpa using hx0 f q rfl) ?_
      refine binm_rd_section.step8 _ _ _ _ _ _ _ ?_
      unfold binm_rd_section.V8
      simp only [nilV_some, Nat.zero_add, and_true]
      refine (namem_spec hst he hs).into fun v w2 hv hst2 S2 => ⟨_, hv, ?_⟩
      refine (namem_spec hst2 he hs).into fun v w5 hv5 hst5 S5 => ⟨_, hv5, ?_⟩
      refine (fixedm_spec hst5 he hs 0).into fun v w8 hv8 hst8 S8 => ⟨hv8, ?_⟩
      refine (u32m_spec hst8 he hs).into fun v w10 hv10 hst10 S10 => ⟨_, hv10.1, ?_⟩
      have V10 := (((hV.step S2).step S5).step S8).step S10
      refine ⟨_, _, _, V10.mr.cell, letB_intro fun b16 hb => letW_intro fun w17 hw => ?_⟩
      have hval : ∀ y q', importRow s e q = .ok y q' → (⟨strR ((Res.ok f q).bind fun _ p => nameP s e p), strR (((Res.ok f q).bind fun _ p => nameP s e p).bind fun _ p => nameP s e p), numR (((((Res.ok f q).bind fun _ p => nameP s e p).bind fun _ p => nameP s e p).bind fun _ p => fixedP s e 0 p).bind fun _ p => u32P s e p)⟩ : ImpV) = y := fun y q' h => by
        obtain ⟨v0, q1, h1, h2⟩ := bind_ok h
        obtain ⟨v1, q2, h3, h4⟩ := bind_ok h2
        obtain ⟨u, q3, h5, h6⟩ := bind_ok h4
        obtain ⟨v3, q4, h7, h8⟩ := bind_ok h6
        (first | (injection h8 with z__; injection z__ with h8 _) | injection h8 with h8 _)
        simp only [Res.bind_ok', h1, h3, h5, h7]
        exact h8
      have hst' : StR w10 rb s e lo (importRow s e q) := hst10.as (by
        unfold importRow
        simp only [Res.bind_ok']
        cases nameP s e q using Res.cs with
        | err n x => rfl
        | ok u q1 =>
          simp only [Res.bind_ok']
          cases nameP s e q1 using Res.cs with
          | err n x => rfl
          | ok u q2 =>
            simp only [Res.bind_ok']
            cases fixedP s e 0 q2 using Res.cs with
            | err n x => rfl
            | ok u q3 => simp only [Res.bind_ok']; cases u32P s e q3 <;> rfl)
      obtain ⟨a', c', w15, hr, hc, h3⟩ := V10.app hst' T_sl_api_Import.el T_sl_api_Import (⟨strR ((Res.ok f q).bind fun _ p => nameP s e p), strR (((Res.ok f q).bind fun _ p => nameP s e p).bind fun _ p => nameP s e p), numR (((((Res.ok f q).bind fun _ p => nameP s e p).bind fun _ p => nameP s e p).bind fun _ p => fixedP s e 0 p).bind fun _ p => u32P s e p)⟩ : ImpV) _ rfl rfl (by intro u hu; simp at hu; rcases hu with rfl | rfl | rfl <;> rfl) (by omega) (by omega) hb hw
      refine ⟨a', _, c', w15, hr, hc, letW_intro fun wz hwz => ?_⟩
      obtain ⟨Vz, stz, _⟩ := h3 wz hwz
      rw [wrap_i64 (by omega) (by omega), show (i : Int) + 1 = ((i + 1 : Nat) : Int) by omega]
      obtain ⟨hfin', hag⟩ := vec_next (fun k i f q => importsL_row s e k i f q) hval hfin
      exact ih (i + 1) _ _ a' c' wz (by omega) Vz (stz.map _) hag hfin'
/-! ### exports -/
def exportRow (s : ByteArray) (e p : Nat) : Res ExpV := (nameP s e p).bind fun v0 q1 => (flagP s e 3 q1).bind fun v1 q2 => (u32P s e q2).bind fun v2 q3 => .ok ⟨v0, v1, v2⟩ q3
theorem exportsL_row (s : ByteArray) (e k i : Nat) (f : Nat → ExpV) (q : Nat) : exportsL s e (k + 1) i f q = (exportRow s e q).bind fun x q' => exportsL s e k (i + 1) (upd f i x) q' := by
  show (nameP s e q).bind (fun v0 q1 => (flagP s e 3 q1).bind fun v1 q2 => (u32P s e q2).bind fun v2 q3 => exportsL s e k (i + 1) (upd f i ⟨v0, v1, v2⟩) q3) = _
  unfold exportRow
  simp only [Res.bind_bind]
  rfl
/-- A byte that must be 0 .. max, as the model reads it. -/
theorem flag_next {α : Type} {r0 : Res α} (max : Int) (hm : 0 ≤ max) (hm2 : max ≤ 255) {w2 w7 : World} {p0 : Int} {L : World → Prop} (hst2 : StR w2 rb s e lo r0) (hp0 : ∀ a q, r0 = .ok a q → p0 = (q : Int)) (hst7 : StR w7 rb s e lo (r0.bind fun _ p => nextP s e p))
    (hL : ∀ (w' : World) (r' : Res Int), r'.pos = (r0.bind fun _ p => flagP s e max p).pos → StR w' rb s e lo r' → Same [rb] w7.heap.size w7 w' → L w') :
    cond (decide (numR (r0.bind fun _ p => nextP s e p) > max)) (RunsQ Try.prog binm_rd_fail.id #[rp rb, .int .i64 8, .int .i64 p0] w7 (fun r9 w10 => r9 = .tuple #[] ∧ L w10) (fun _ _ => False)) (L w7) := by
  cases hz : r0.bind fun _ p => nextP s e p using Res.cs with
  | err n x =>
    rw [hz] at hst7
    refine cond_false' (decide_eq_false (by show ¬ (0 : Int) > max; omega)) (hL w7 (.err n x) ?_ hst7 (Same.refl _ _ _))
    cases r0 using Res.cs with
    | err n' x' => (first | (injection hz with z__; injection z__ with h1 h2) | injection hz with h1 h2); subst h1 h2; rfl
    | ok a q =>
      have hz : nextP s e q = .err n x := hz
      rw [Res.bind_ok']; unfold flagP; rw [hz]; rfl
  | ok c q =>
    rw [hz] at hst7
    obtain ⟨a, p, rfl, hz'⟩ := bind_ok hz
    rw [show numR (Res.ok c q) = c from rfl]
    by_cases hc : max < c
    · refine cond_true' (decide_eq_true hc) ?_
      rw [hp0 a p rfl]
      refine (fail_spec (β := Int) hst7 8 (p : Int) (by decide)).into fun v w10 hv hst10 S10 => ⟨hv, hL w10 _ ?_ hst10 S10⟩
      rw [Res.bind_ok', Res.bind_ok']; unfold flagP; rw [hz', Res.bind_ok', if_pos hc]
    · refine cond_false' (decide_eq_false (by exact hc)) (hL w7 (.ok c q) ?_ hst7 (Same.refl _ _ _))
      rw [Res.bind_ok']; unfold flagP; rw [hz', Res.bind_ok', if_neg hc]
theorem exports_mloop (he : e ≤ s.size) (hs : s.size ≤ 1024) {n : Nat} (hn : n ≤ 6) {fin : Res (Nat × (Nat → ExpV))} :
    ∀ (k i : Nat) (r : Res (Nat → ExpV)) (f : Nat → ExpV) (a : Option Addr) (c : Nat) (w : World), i + k = n → VF expE T_api_Export 3 8 w0 w rb mb i f a c → StR w rb s e lo r → (∀ f' q, r = .ok f' q → f = f') → ((r.bind fun f q => exportsL s e k i f q).bind fun t q2 => .ok (n, t) q2) = fin →
      binm_rd_section.L4 (some ⟨rb, 0, none⟩) (some ⟨mb, 0, none⟩) (n : Int) (i : Int) (VPost expE T_api_Export 3 8 w0 rb mb s e lo fin) (fun _ _ => False) w := by
  intro k
  induction k with
  | zero =>
    intro i r f a c w hi hV hst hf hfin
    refine binm_rd_section.step4 _ _ _ _ _ _ _ ?_
    unfold binm_rd_section.V4
    refine cond_false' (decide_eq_false (by omega)) ?_
    have e1 : (r.bind fun f q => exportsL s e 0 i f q) = r := by cases r <;> rfl
    rw [e1] at hfin
    refine ⟨rfl, by rw [← hfin]; exact hst.map _, a, c, i, f, hV, fun x q h => ?_⟩
    rw [← hfin] at h
    obtain ⟨f', q', g1, g2⟩ := bind_ok h
    (first | (injection g2 with z__; injection z__ with g2 _) | injection g2 with g2 _)
    subst g2
    exact ⟨by show i = n; omega, hf f' q' g1⟩
  | succ k ih =>
    intro i r f a c w hi hV hst hf hfin
    refine binm_rd_section.step4 _ _ _ _ _ _ _ ?_
    unfold binm_rd_section.V4
    simp only [nilV_some, Nat.zero_add]
    refine cond_true' (decide_eq_true (by omega)) ?_
    obtain ⟨x, hx, hx0, hx1⟩ := hst.c3
    refine ⟨_, hx, ?_⟩
    cases r using Res.cs with
    | err n' a' =>
      refine cond_false' (by simpa using (hx1 n' a' rfl).2) ?_
      exact ⟨rfl, by rw [← hfin]; exact hst, a, c, i, f, hV, fun x q h => by rw [← hfin] at h; cases h⟩
    | ok f' q =>
      have hff := hf f' q rfl
      subst hff
      refine cond_true' (by simpa using hx0 f q rfl) ?_
      refine binm_rd_section.step10 _ _ _ _ _ _ _ ?_
      unfold binm_rd_section.V10
      simp only [nilV_some, Nat.zero_add, and_true]
      refine (namem_spec hst he hs).into fun v w2 hv hst2 S2 => ⟨_, hv, ?_⟩
      obtain ⟨p0, k1, hp0⟩ := hst2.c1
      refine ⟨_, k1, ?_⟩
      refine (byte_spec hst2 he hs).into fun v w7 hv7 hst7 S7 => ⟨_, hv7, ?_⟩
      have V7 := (hV.step S2).step S7
      have hnr := numR_next ((Res.ok f q).bind fun _ p => nameP s e p) s e
      have L14 : ∀ (w7 : World) (r7 : Res Int), r7.pos = (((Res.ok f q).bind fun _ p => nameP s e p).bind fun _ p => flagP s e 3 p).pos → StR w7 rb s e lo r7 → VF expE T_api_Export 3 8 w0 w7 rb mb i f a c →
          binm_rd_section.L14 (some ⟨rb, 0, none⟩) (some ⟨mb, 0, none⟩) (n : Int) (i : Int) (strR ((Res.ok f q).bind fun _ p => nameP s e p)) (numR (((Res.ok f q).bind fun _ p => nameP s e p).bind fun _ p => nextP s e p)) (VPost expE T_api_Export 3 8 w0 rb mb s e lo fin) (fun _ _ => False) w7 := fun w7 r7 hr7 hst7 V7 => by
        refine binm_rd_section.step14 _ _ _ _ _ _ _ _ _ ?_
        unfold binm_rd_section.V14
        simp only [nilV_some, Nat.zero_add, and_true]
        have hst7 := hst7.as hr7.symm
        refine (u32m_spec hst7 he hs).into fun v w10 hv10 hst10 S10 => ⟨_, hv10.1, ?_⟩
        have V10 := V7.step S10
        rw [wrap_u8 hnr.1 hnr.2, wrap_u32 hv10.2.1 (by omega)]
        refine ⟨_, _, _, V10.mr.cell, letB_intro fun b16 hb => letW_intro fun w17 hw => ?_⟩
        have hval : ∀ y q', exportRow s e q = .ok y q' → (⟨strR ((Res.ok f q).bind fun _ p => nameP s e p), numR (((Res.ok f q).bind fun _ p => nameP s e p).bind fun _ p => nextP s e p), numR ((((Res.ok f q).bind fun _ p => nameP s e p).bind fun _ p => flagP s e 3 p).bind fun _ p => u32P s e p)⟩ : ExpV) = y := fun y q' h => by
          obtain ⟨v0, q1, h1, h2⟩ := bind_ok h
          obtain ⟨v1, q2, h3, h4⟩ := bind_ok h2
          obtain ⟨v2, q3, h5, h6⟩ := bind_ok h4
          (first | (injection h6 with z__; injection z__ with h6 _) | injection h6 with h6 _)
          have h3' : nextP s e q1 = .ok v1 q2 := by
            obtain ⟨c, q5, g1, g2⟩ := bind_ok h3
            split at g2
            · cases g2
            · (first | (injection g2 with z__; injection z__ with g2 g3) | injection g2 with g2 g3); subst g2 g3; exact g1
          simp only [Res.bind_ok', h1, h3, h3', h5]
          exact h6
        have hst' : StR w10 rb s e lo (exportRow s e q) := hst10.as (by
          unfold exportRow
          simp only [Res.bind_ok']
          cases nameP s e q using Res.cs with
          | err n x => rfl
          | ok u q1 =>
            simp only [Res.bind_ok']
            cases flagP s e 3 q1 using Res.cs with
            | err n x => rfl
            | ok u q3 => simp only [Res.bind_ok']; cases u32P s e q3 <;> rfl)
        obtain ⟨a', c', w15, hr, hc, h3⟩ := V10.app hst' T_sl_api_Export.el T_sl_api_Export (⟨strR ((Res.ok f q).bind fun _ p => nameP s e p), numR (((Res.ok f q).bind fun _ p => nameP s e p).bind fun _ p => nextP s e p), numR ((((Res.ok f q).bind fun _ p => nameP s e p).bind fun _ p => flagP s e 3 p).bind fun _ p => u32P s e p)⟩ : ExpV) _ rfl rfl (by intro u hu; simp at hu; rcases hu with rfl | rfl | rfl <;> rfl) (by omega) (by omega) hb hw
        refine ⟨a', _, c', w15, hr, hc, letW_intro fun wz hwz => ?_⟩
        obtain ⟨Vz, stz, _⟩ := h3 wz hwz
        rw [wrap_i64 (by omega) (by omega), show (i : Int) + 1 = ((i + 1 : Nat) : Int) by omega]
        obtain ⟨hfin', hag⟩ := vec_next (fun k i f q => exportsL_row s e k i f q) hval hfin
        exact ih (i + 1) _ _ a' c' wz (by omega) Vz (stz.map _) hag hfin'
      exact flag_next 3 (by decide) (by decide) hst2 hp0 hst7 (fun w' r' hr' hst' S' => L14 w' r' hr' hst' (V7.step S'))
end
end Go.Proofs.Qxb6500316a
