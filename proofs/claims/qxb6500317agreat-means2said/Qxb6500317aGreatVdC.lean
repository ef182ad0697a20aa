/-
  The validator: the instructions that turn no control.
-/
import Derived.Test.Qxb6500317aGreatVdB
import Derived.Test.Qxb6500317aGreatHmA
import Derived.Test.Qxb6500317aGreatEnJ
set_option linter.unusedSimpArgs false
set_option linter.unusedVariables false
set_option maxRecDepth 100000
set_option linter.unusedSectionVars false
namespace Go.Proofs.Qxb6500317aGreat
open Go Go.Vc

/-! ### Plain -/
def tyIdx (P : PM) (f : Int) : Int := if 0 ≤ f ∧ f < (P.nIm : Int) then (P.im f.toNat).ty else if (P.nIm : Int) ≤ f ∧ f - P.nIm < (P.nf : Int) then (P.fn (f - P.nIm).toNat).ty else -1
def typeAt (P : PM) (t : Int) : Option ByteArray := if t < 0 ∨ (P.nTy : Int) ≤ t then none else some (P.ty t.toNat)
def typeOf (P : PM) (f : Int) : Option ByteArray := typeAt P (tyIdx P f)
def typeV : Option ByteArray → Value
  | some t => .tuple #[.string t, .bool true]
  | none => .tuple #[.string ⟨#[]⟩, .bool false]
def tyE (b : Bool) : Int := if b = true then 0 else 27
def fstT (q : ByteArray) : Int := if q.size = 0 then 64 else byteAt q 0

def callT (t : ByteArray) (f : Fr) (o : List Int) : Int × Int × List Int :=
  (fstT (splitP t).2, tyE (popsF (splitP t).1 f (splitP t).1.size o).1, (popsF (splitP t).1 f (splitP t).1.size o).2)
def callP (P : PM) (x : Ins) (f : Fr) (o : List Int) : Int × Int × List Int :=
  if x.op = 16 then (match typeOf P x.x with | none => (64, 15, o) | some t => callT t f o)
  else if P.tmin < 0 then (64, 21, o) else if (P.nTy : Int) ≤ x.x then (64, 14, o)
  else if carB 127 f o = true then callT (P.ty x.x.toNat) f (carO 127 f o) else (64, 27, carO 127 f o)
def selP (f : Fr) (o : List Int) : Int × Int × List Int :=
  if carB 127 f o = true then
    (if popB 0 f (carO 127 f o) = true then
      (popT (popT 0 f (carO 127 f o)) f (popO f (carO 127 f o)), tyE (popB (popT 0 f (carO 127 f o)) f (popO f (carO 127 f o))), popO f (popO f (carO 127 f o)))
     else (64, 27, popO f (carO 127 f o)))
  else (64, 27, carO 127 f o)
def memL (give : Int) (f : Fr) (o : List Int) : Int × Int × List Int := (give, tyE (carB 127 f o), carO 127 f o)
def alignBad (w x : Int) : Bool := decide (x > 3) || ((Int.fdiv w (2 ^ (min (Int.toNat x) (IntKind.bits .i64)))) == 0)
def memP (P : PM) (x : Ins) (f : Fr) (o : List Int) : Int × Int × List Int :=
  if P.mmin < 0 then (64, 20, o) else if x.op = 63 then (127, 0, o)
  else if x.op ≤ 62 then
    (if alignBad (api_MemSig.F x.op).1 x.x = true then (64, 26, o)
     else if 54 ≤ x.op then (if carB (api_MemSig.F x.op).2.1 f o = true then memL 64 f (carO (api_MemSig.F x.op).2.1 f o) else (64, 27, carO (api_MemSig.F x.op).2.1 f o))
     else memL (api_MemSig.F x.op).2.1 f o)
  else memL 127 f o
def numP (x : Ins) (f : Fr) (o : List Int) : Int × Int × List Int :=
  if (api_NumSig.F x.op).1 = 0 then (64, 10, o)
  else if carB (api_NumSig.F x.op).2.1 f o = true ∧ (api_NumSig.F x.op).1 = 2 then ((api_NumSig.F x.op).2.2, tyE (carB (api_NumSig.F x.op).2.1 f (carO (api_NumSig.F x.op).2.1 f o)), carO (api_NumSig.F x.op).2.1 f (carO (api_NumSig.F x.op).2.1 f o))
  else ((api_NumSig.F x.op).2.2, tyE (carB (api_NumSig.F x.op).2.1 f o), carO (api_NumSig.F x.op).2.1 f o)
/-- The type of local x. -/
def locT (ps ds : ByteArray) (x : Int) : Option Int := if x < (ps.size : Int) then some (byteAt ps x.toNat) else if x - ps.size < (ds.size : Int) then some (byteAt ds (x - ps.size).toNat) else none
def locP (ps ds : ByteArray) (x : Ins) (f : Fr) (o : List Int) : Int × Int × List Int :=
  match locT ps ds x.x with
  | none => (64, 22, o)
  | some t => if x.op = 32 then (t, 0, o) else ((if x.op = 33 then 64 else t), tyE (carB t f o), carO t f o)
def gloP (P : PM) (x : Ins) (f : Fr) (o : List Int) : Int × Int × List Int :=
  if (P.gn : Int) ≤ x.x then (64, 23, o) else if x.op = 35 then ((P.g x.x.toNat).ty, 0, o)
  else if (P.g x.x.toNat).mu = true then (64, tyE (carB (P.g x.x.toNat).ty f o), carO (P.g x.x.toNat).ty f o) else (64, 24, o)
def plnP (P : PM) (ps ds : ByteArray) (x : Ins) (f : Fr) (o : List Int) : Int × Int × List Int :=
  if x.op = 16 ∨ x.op = 17 then callP P x f o
  else if x.op = 26 then (64, tyE (popB 0 f o), popO f o)
  else if x.op = 27 then selP f o
  else if 32 ≤ x.op ∧ x.op ≤ 34 then locP ps ds x f o
  else if x.op = 35 ∨ x.op = 36 then gloP P x f o
  else if 40 ≤ x.op ∧ x.op ≤ 64 then memP P x f o
  else if 65 ≤ x.op ∧ x.op ≤ 68 then (127 - (x.op - 65), 0, o)
  else numP x f o

/-! ### The walks -/
structure VC (wd w : World) (L mb : Nat) (m : Nat → Value) (P : PM) (vb : Nat) (o : List Int) (f : Fr) (r : List Fr) : Prop where
  hm : HM wd w L mb m P
  v : VAt w vb o (f :: r)
  lv : vb ≤ L
  hf : f.fl ≤ o.length
  B : PB P
def PR (w : World) (vb : Nat) (k : List Fr) (z : Int × Int × List Int) : Value → World → Prop := VR w vb (.tuple #[.int .u8 z.1, .int .i64 z.2.1]) z.2.2 k

section
variable {wd w w' : World} {L mb vb : Nat} {m : Nat → Value} {P : PM} {o : List Int} {f : Fr} {r : List Fr}
theorem VC.keep (C : VC wd w L mb m P vb o f r) (hS : Same [] w.heap.size w w') : VC wd w' L mb m P vb o f r := ⟨C.hm.keep hS, C.v.keep hS, C.lv, C.hf, C.B⟩
theorem VC.drew (C : VC wd w L mb m P vb o f r) : VC wd w.drew L mb m P vb o f r := ⟨C.hm.drew, C.v.drew, C.lv, C.hf, C.B⟩
theorem VC.step (C : VC wd w L mb m P vb o f r) {o' : List Int} (hS : Same [vb] w.heap.size w w') (V : VAt w' vb o' (f :: r)) (hf : f.fl ≤ o'.length) : VC wd w' L mb m P vb o' f r := ⟨C.hm.at1 hS C.lv, V, C.lv, hf, C.B⟩

theorem ins_made {w w1 : World} {b : Nat} {i : Ins} {t : TypeId} (hb : b = w.heap.size) (hw : w1 = w.alloc (.cells #[.int .u8 i.op, .int .u32 i.x, .int .u64 i.y] t)) : InsAt w1 b i ∧ Same [] w.heap.size w w1 := by
  subst hb hw
  exact ⟨⟨by rw [World.cell?_alloc_new]; rfl, by rw [World.cell?_alloc_new]; rfl, by rw [World.cell?_alloc_new]; rfl, fun j => by rw [World.frozen?_alloc_new]⟩, (Same.refl _ _ _).alloc (Nat.le_refl _) _⟩

theorem typeAt_end (C : HM wd w L mb m P) (t : Int) (ht : t ≤ 1000000000000) {R Q : Value → World → Prop} (hR : ∀ w', Same [] w.heap.size w w' → R (typeV (typeAt P t)) w') : api_Module_TypeOf.L2 (some ⟨mb, 0, none⟩) t R Q w := by
  refine api_Module_TypeOf.step2 _ _ _ _ _ ?_
  unfold api_Module_TypeOf.V2
  obtain ⟨a, c0, hr⟩ := C.ty
  have bad : (t < 0 ∨ (P.nTy : Int) ≤ t) → api_Module_TypeOf.L4 (some ⟨mb, 0, none⟩) t true R Q w := fun h => by
    refine api_Module_TypeOf.step4 _ _ _ _ _ _ ?_
    unfold api_Module_TypeOf.V4
    refine cond_true' rfl ?_
    have : typeAt P t = none := by unfold typeAt; rw [if_pos h]
    have e := hR w (Same.refl _ _ _)
    rw [this] at e; exact e
  refine cond_intro (fun h => bad (.inl (of_decide_eq_true h))) (fun h => ?_)
  have h0 : 0 ≤ t := by have := of_decide_eq_false h; omega
  rw [nilV_some]
  refine ⟨_, _, _, c0, ?_⟩
  by_cases h1 : (P.nTy : Int) ≤ t
  · rw [decide_eq_true h1]; exact bad (.inr h1)
  · rw [decide_eq_false h1]
    obtain ⟨n, rfl⟩ := Int.eq_ofNat_of_zero_le h0
    obtain ⟨tb, rfl, e2⟩ := hr (by omega)
    refine api_Module_TypeOf.step4 _ _ _ _ _ _ ?_
    unfold api_Module_TypeOf.V4
    refine cond_false' rfl ?_
    rw [nilV_some]
    refine ⟨_, _, _, c0, ⟨by omega, by omega⟩, ?_⟩
    rw [nilV_some, add_mk, Int.toNat_natCast, Nat.mul_one, Nat.zero_add]
    refine ⟨_, e2 n (by omega), ?_⟩
    have : typeAt P (n : Int) = some (P.ty n) := by unfold typeAt; rw [if_neg (by omega), Int.toNat_natCast]
    have e := hR w (Same.refl _ _ _)
    rw [this] at e; exact e

theorem TypeOf_spec (C : HM wd w L mb m P) (B : PB P) (f : Int) (h0 : -1000000000000 ≤ f) (h1 : f ≤ 1000000000000) : Runs Tryz.prog api_Module_TypeOf.id #[rp mb, .int .i64 f] w fun v w' => v = typeV (typeOf P f) ∧ Same [] w.heap.size w w' := by
  have b1 := B.nIm; have b2 := B.nf
  obtain ⟨a, c1, hr⟩ := C.im
  obtain ⟨a2, c2, hr2⟩ := C.fn
  refine api_Module_TypeOf.enter _ _ _ _ _ ?_
  unfold api_Module_TypeOf.V
  have fin : ∀ (w1 : World) (t : Int), HM wd w1 L mb m P → Same [] w.heap.size w w1 → t = tyIdx P f → t ≤ 1000000000000 → api_Module_TypeOf.L2 (some ⟨mb, 0, none⟩) t (fun v w' => v = typeV (typeOf P f) ∧ Same [] w.heap.size w w') (fun _ _ => False) w1 := fun w1 t C1 S1 e ht => by
    refine typeAt_end C1 t ht (fun w' S' => ⟨?_, S1.trans (S'.mono S1.size (by simp))⟩)
    rw [e]; rfl
  have nope : ∀ (w1 : World), HM wd w1 L mb m P → Same [] w.heap.size w w1 → tyIdx P f = -1 → api_Module_TypeOf.L3 (some ⟨mb, 0, none⟩) f (-1) false (fun v w' => v = typeV (typeOf P f) ∧ Same [] w.heap.size w w') (fun _ _ => False) w1 := fun w1 C1 S1 e => by
    refine api_Module_TypeOf.step3 _ _ _ _ _ _ _ ?_
    unfold api_Module_TypeOf.V3
    exact cond_false' rfl (fin w1 _ C1 S1 e.symm (by omega))
  have C2 := C.drew
  have S2 : Same [] w.heap.size w w.drew := (Same.refl _ _ _).drew
  have other : ¬ (0 ≤ f ∧ f < (P.nIm : Int)) → api_Module_TypeOf.L1 (some ⟨mb, 0, none⟩) f (-1) false (fun v w' => v = typeV (typeOf P f) ∧ Same [] w.heap.size w w') (fun _ _ => False) w := fun hn => by
    refine api_Module_TypeOf.step1 _ _ _ _ _ _ _ ?_
    unfold api_Module_TypeOf.V1
    refine cond_false' rfl ?_
    simp only [true_and, nilV_some, Nat.zero_add]
    refine ⟨_, _, _, c1, cond_intro (fun h => ?_) (fun h => nope _ C2 S2 ?_)⟩
    · have h : (P.nIm : Int) ≤ f := of_decide_eq_true h
      refine ⟨_, _, _, c1, _, _, _, c2, ?_⟩
      rw [wrap_i64 (by omega) (by omega)]
      by_cases h3 : f - P.nIm < (P.nf : Int)
      · rw [decide_eq_true h3]
        refine api_Module_TypeOf.step3 _ _ _ _ _ _ _ ?_
        unfold api_Module_TypeOf.V3
        refine cond_true' rfl ?_
        simp only [true_and, nilV_some, Nat.zero_add]
        refine ⟨_, _, _, c2, _, _, _, c1, ?_⟩
        rw [wrap_i64 (by omega) (by omega)]
        refine ⟨⟨by omega, by omega⟩, ?_⟩
        obtain ⟨n, hn'⟩ := Int.eq_ofNat_of_zero_le (show 0 ≤ f - P.nIm by omega)
        obtain ⟨fb, rfl, _, _, row⟩ := hr2 (by omega)
        rw [hn', nilV_some, add_mk, Int.toNat_natCast, Nat.zero_add]
        have hb := B.fn n (by omega)
        have t1 := hb.t1
        refine ⟨_, row.c0 n (by omega), fin _ _ C2.drew S2.drew ?_ (by omega)⟩
        unfold tyIdx
        rw [if_neg hn, if_pos ⟨h, h3⟩, hn', Int.toNat_natCast]
      · rw [decide_eq_false h3]
        refine nope _ C2 S2 ?_
        unfold tyIdx
        rw [if_neg hn, if_neg (by omega)]
    · have h : ¬ (P.nIm : Int) ≤ f := by have := of_decide_eq_false h; omega
      unfold tyIdx
      rw [if_neg hn, if_neg (by omega)]
  refine cond_intro (fun h => ?_) (fun h => other (by have := of_decide_eq_false h; omega))
  have h : 0 ≤ f := of_decide_eq_true h
  simp only [nilV_some, Nat.zero_add]
  refine ⟨_, _, _, c1, ?_⟩
  by_cases h3 : f < (P.nIm : Int)
  · rw [decide_eq_true h3]
    refine api_Module_TypeOf.step1 _ _ _ _ _ _ _ ?_
    unfold api_Module_TypeOf.V1
    refine cond_true' rfl ?_
    simp only [nilV_some, Nat.zero_add]
    obtain ⟨n, rfl⟩ := Int.eq_ofNat_of_zero_le h
    obtain ⟨ib, rfl, row⟩ := hr (by omega)
    refine ⟨_, _, _, c1, ⟨by omega, by omega⟩, ?_⟩
    rw [nilV_some, add_mk, Int.toNat_natCast, Nat.zero_add]
    have hb := (B.im n (by omega)).2.2.2
    refine ⟨_, row n (by omega) 2 _ rfl, fin _ _ C (Same.refl _ _ _) ?_ (by omega)⟩
    unfold tyIdx
    rw [if_pos ⟨h, h3⟩, Int.toNat_natCast]
  · rw [decide_eq_false h3]
    exact other (by omega)

theorem tyE_eq (b : Bool) : valid_typed.F b = tyE b := by cases b <;> rfl
theorem fstT_spec (q : ByteArray) (w : World) : Runs Tryz.prog valid_first.id #[.string q] w fun v w' => v = .int .u8 (fstT q) ∧ w' = w := by
  have hp : valid_first.Pre q := by
    unfold valid_first.Pre
    refine cond_intro (fun _ => trivial) (fun h => ⟨⟨by decide, ?_⟩, trivial⟩)
    have : ¬ ((q.size : Nat) : Int) = 0 := by simpa using h
    omega
  refine RunsQ.post (valid_first.pure q w hp) ?_
  rintro v w1 ⟨rfl, rfl⟩
  refine ⟨?_, rfl⟩
  congr 1
  unfold valid_first.F fstT
  by_cases h : q.size = 0
  · rw [if_pos h, h]; rfl
  · rw [if_neg h]
    have : (((q.size : Nat) : Int) == 0) = false := beq_eq_false_iff_ne.2 (by omega)
    rw [this]; rfl

theorem callT_spec (C : VC wd w L mb m P vb o f r) (t : ByteArray) (ht : t.size ≤ 1024) {w0 : World} (S0 : Same [vb] w0.heap.size w0 w) : valid_Valid_call.L1 (some ⟨vb, 0, none⟩) t (PR w0 vb (f :: r) (callT t f o)) (fun _ _ => False) w := by
  refine valid_Valid_call.step1 _ _ _ _ _ ?_
  unfold valid_Valid_call.V1
  refine RunsQ.post (Split_spec t ht w) ?_
  rintro v w1 ⟨rfl, S1⟩
  have C1 := C.keep S1
  have hp : (splitP t).1.size ≤ 1024 := Nat.le_trans (splitF_size t t.size 0).1 ht
  refine ⟨_, _, rfl, RunsQ.post (pops_spec _ hp C1.v C1.hf) ?_⟩
  rintro v w2 ⟨rfl, V2, S2⟩
  refine ⟨_, rfl, RunsQ.post (fstT_spec _ w2) ?_⟩
  rintro v w3 ⟨rfl, rfl⟩
  refine ⟨_, rfl, RunsQ.post (valid_typed.pure _ w3) ?_⟩
  rintro v w4 ⟨rfl, rfl⟩
  refine ⟨_, rfl, ?_, V2, ?_⟩
  · rw [tyE_eq]; rfl
  · have a := S0.trans (S1.mono S0.size (by simp))
    exact a.trans (S2.mono a.size (by simp))

theorem call_spec (C : VC wd w L mb m P vb o f r) (x : Ins) (hx : InsIn x) (ho : x.op = 16 ∨ x.op = 17) : Runs Tryz.prog valid_Valid_call.id #[rp vb, rp mb, insV x] w (PR w vb (f :: r) (callP P x f o)) := by
  have hx0 := hx.x0; have hx1 := hx.x1
  refine valid_Valid_call.enter _ _ _ _ _ _ _ _ ?_
  unfold valid_Valid_call.V
  refine letB_intro fun b6 hb => letW_intro fun w7 hw => ?_
  obtain ⟨I, S7⟩ := ins_made (i := x) hb hw
  have S7' : Same [vb] w.heap.size w w7 := S7.mono (Nat.le_refl _) (by simp)
  clear hw
  have C7 := C.keep S7
  refine ⟨_, I.c0, cond_intro (fun h => ?_) (fun h => ?_)⟩
  · have h : x.op = 16 := eq_of_beq h
    refine ⟨_, I.c1, ?_⟩
    rw [wrap_i64 (by omega) (by omega)]
    refine RunsQ.post (TypeOf_spec C7.hm C7.B x.x (by omega) (by omega)) ?_
    rintro v w11 ⟨rfl, S11⟩
    have S11' := S7'.trans (S11.mono S7'.size (by simp))
    have C11 := C7.keep S11
    unfold callP
    rw [if_pos h]
    cases ht : typeOf P x.x with
    | none => exact ⟨_, _, rfl, cond_true' rfl ⟨rfl, C11.v, S11'⟩⟩
    | some t =>
      refine ⟨_, _, rfl, cond_false' rfl (callT_spec C11 t ?_ S11')⟩
      unfold typeOf typeAt at ht
      split at ht
      · cases ht
      · cases ht
        exact (C.B.ty _ (by omega)).1
  · have h : x.op ≠ 16 := by simpa using h
    unfold callP
    rw [if_neg h]
    simp only [nilV_some, Nat.zero_add]
    refine ⟨_, C7.hm.c3, cond_intro (fun h1 => ?_) (fun h1 => ?_)⟩
    · have h1 : P.tmin < 0 := of_decide_eq_true h1
      rw [if_pos h1]
      exact ⟨rfl, C7.v, S7'⟩
    · have h1 : ¬ P.tmin < 0 := of_decide_eq_false h1
      rw [if_neg h1]
      simp only [true_and]
      obtain ⟨a, c0, hr⟩ := C7.drew.hm.ty
      have b0 := C.B.nTy
      refine ⟨_, I.drew.c1, _, _, _, c0, ?_⟩
      rw [wrap_u64 (by omega) (by omega), wrap_u64 (by omega) (by omega)]
      refine cond_intro (fun h2 => ?_) (fun h2 => ?_)
      · have h2 : (P.nTy : Int) ≤ x.x := of_decide_eq_true h2
        rw [if_pos h2]
        exact ⟨rfl, C7.v.drew, S7'.drew⟩
      · have h2 : ¬ (P.nTy : Int) ≤ x.x := of_decide_eq_false h2
        rw [if_neg h2]
        obtain ⟨n, hn⟩ := Int.eq_ofNat_of_zero_le hx0
        obtain ⟨tb, rfl, e2⟩ := hr (by omega)
        refine ⟨_, _, _, c0, _, I.drew.drew.c1, ⟨by omega, by omega⟩, ?_⟩
        rw [nilV_some, add_mk, hn, Int.toNat_natCast, Nat.mul_one, Nat.zero_add]
        refine ⟨_, e2 n (by omega), RunsQ.post (carry_spec C7.drew.drew.v C7.hf 127) ?_⟩
        rintro v w31 ⟨rfl, V31, S31⟩
        have C31 : VC wd w31 L mb m P vb (carO 127 f o) f r := C7.drew.drew.step S31 V31 (carO_len 127 f o C.hf).1
        have S31' : Same [vb] w.heap.size w w31 := S7'.drew.drew.trans (S31.mono S7'.size (by simp))
        refine ⟨_, rfl, ?_⟩
        cases hb : carB 127 f o
        · exact cond_true' rfl ⟨rfl, V31, S31'⟩
        · refine cond_false' rfl ?_
          rw [if_pos rfl]
          exact callT_spec C31 _ (C.B.ty _ (by omega)).1 S31'

theorem sel_spec (C : VC wd w L mb m P vb o f r) : Runs Tryz.prog valid_Valid_sel.id #[rp vb] w (PR w vb (f :: r) (selP f o)) := by
  refine valid_Valid_sel.enter _ _ _ _ ?_
  unfold valid_Valid_sel.V selP
  refine RunsQ.post (carry_spec C.v C.hf 127) ?_
  rintro v w1 ⟨rfl, V1, S1⟩
  have h1 := (carO_len 127 f o C.hf).1
  refine ⟨_, rfl, ?_⟩
  cases hb : carB 127 f o
  · exact cond_true' rfl ⟨rfl, V1, S1⟩
  · refine cond_false' rfl ?_
    rw [if_pos rfl]
    refine RunsQ.post (pop_spec V1 h1 0) ?_
    rintro v w2 ⟨rfl, V2, S2⟩
    have T2 := S1.trans (S2.mono S1.size (by simp))
    refine ⟨_, _, rfl, ?_⟩
    cases hb2 : popB 0 f (carO 127 f o)
    · exact cond_true' rfl ⟨rfl, V2, T2⟩
    · refine cond_false' rfl ?_
      rw [if_pos rfl]
      refine RunsQ.post (pop_spec V2 (popO_len f _ h1).1 _) ?_
      rintro v w3 ⟨rfl, V3, S3⟩
      refine ⟨_, _, rfl, RunsQ.post (valid_typed.pure _ w3) ?_⟩
      rintro v w4 ⟨rfl, rfl⟩
      exact ⟨_, rfl, by rw [tyE_eq], V3, T2.trans (S3.mono T2.size (by simp))⟩

theorem memL_spec (C : VC wd w L mb m P vb o f r) (g : Int) {w0 : World} (S0 : Same [vb] w0.heap.size w0 w) : valid_Valid_memory.L2 (some ⟨vb, 0, none⟩) g (PR w0 vb (f :: r) (memL g f o)) (fun _ _ => False) w := by
  refine valid_Valid_memory.step2 _ _ _ _ _ ?_
  unfold valid_Valid_memory.V2
  refine RunsQ.post (carry_spec C.v C.hf 127) ?_
  rintro v w1 ⟨rfl, V1, S1⟩
  refine ⟨_, rfl, RunsQ.post (valid_typed.pure _ w1) ?_⟩
  rintro v w4 ⟨rfl, rfl⟩
  exact ⟨_, rfl, by rw [tyE_eq]; rfl, V1, S0.trans (S1.mono S0.size (by simp))⟩

theorem vmem_spec (C : VC wd w L mb m P vb o f r) (x : Ins) (hx : InsIn x) : Runs Tryz.prog valid_Valid_memory.id #[rp vb, rp mb, insV x] w (PR w vb (f :: r) (memP P x f o)) := by
  have hx0 := hx.x0; have hx1 := hx.x1; have ho0 := hx.o0; have ho1 := hx.o1
  refine valid_Valid_memory.enter _ _ _ _ _ _ _ _ ?_
  unfold valid_Valid_memory.V
  refine letB_intro fun b6 hb => letW_intro fun w7 hw => ?_
  obtain ⟨I, S7⟩ := ins_made (i := x) hb hw
  have S7' : Same [vb] w.heap.size w w7 := S7.mono (Nat.le_refl _) (by simp)
  clear hw
  have C7 := C.keep S7
  refine ⟨_, I.c0, ?_⟩
  rw [wrap_i64 (x := x.op) (by omega) (by omega)]
  simp only [nilV_some, Nat.zero_add]
  unfold memP
  refine ⟨_, C7.hm.c5, cond_intro (fun h1 => ?_) (fun h1 => ?_)⟩
  · rw [if_pos (of_decide_eq_true h1)]; exact ⟨rfl, C7.v, S7'⟩
  rw [if_neg (of_decide_eq_false h1)]
  refine cond_intro (fun h2 => ?_) (fun h2 => ?_)
  · rw [if_pos (eq_of_beq h2)]; exact ⟨rfl, C7.v, S7'⟩
  rw [if_neg (show ¬ x.op = 63 by simpa using h2)]
  refine cond_intro (fun h3 => ?_) (fun h3 => ?_)
  · rw [if_pos (of_decide_eq_true h3)]
    refine RunsQ.post (api_MemSig.pure _ w7) ?_
    rintro v w12 ⟨rfl, rfl⟩
    have L1 : ∀ tt : Bool, tt = alignBad (api_MemSig.F x.op).1 x.x → valid_Valid_memory.L1 (some ⟨vb, 0, none⟩) x.op (api_MemSig.F x.op).2.1 tt (PR w vb (f :: r) (if alignBad (api_MemSig.F x.op).1 x.x = true then (64, 26, o)
     else if 54 ≤ x.op then (if carB (api_MemSig.F x.op).2.1 f o = true then memL 64 f (carO (api_MemSig.F x.op).2.1 f o) else (64, 27, carO (api_MemSig.F x.op).2.1 f o))
     else memL (api_MemSig.F x.op).2.1 f o)) (fun _ _ => False) w12 := fun tt htt => by
      refine valid_Valid_memory.step1 _ _ _ _ _ _ _ ?_
      unfold valid_Valid_memory.V1
      rw [← htt]
      cases tt
      · refine cond_false' rfl ?_
        rw [if_neg (by decide)]
        refine cond_intro (fun h4 => ?_) (fun h4 => ?_)
        · rw [if_pos (of_decide_eq_true h4)]
          refine RunsQ.post (carry_spec C7.v C7.hf _) ?_
          rintro v w2 ⟨rfl, V2, S2⟩
          have T2 := S7'.trans (S2.mono S7'.size (by simp))
          refine ⟨_, rfl, ?_⟩
          cases hb : carB (api_MemSig.F x.op).2.1 f o
          · exact cond_true' rfl ⟨rfl, V2, T2⟩
          · refine cond_false' rfl ?_
            rw [if_pos rfl]
            exact memL_spec (C7.step S2 V2 (carO_len _ f o C.hf).1) _ T2
        · rw [if_neg (of_decide_eq_false h4)]
          exact memL_spec C7 _ S7'
      · refine cond_true' rfl ?_
        rw [if_pos rfl]
        exact ⟨rfl, C7.v, S7'⟩
    refine ⟨_, _, _, rfl, _, I.c1, cond_intro (fun h4 => L1 true ?_) (fun h4 => ⟨_, I.c1, hx0, L1 _ ?_⟩)⟩
    · unfold alignBad; rw [h4]; rfl
    · unfold alignBad; rw [h4]; rfl
  · rw [if_neg (of_decide_eq_false h3)]
    exact memL_spec C7 _ S7'
end
end Go.Proofs.Qxb6500317aGreat
