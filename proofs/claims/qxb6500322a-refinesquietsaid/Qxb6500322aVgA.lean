/-
  What the validator's stacks hold: value types, rising floors.
-/
import Derived.Test.Qxb6500322aVpA
set_option linter.unusedSimpArgs false
set_option linter.unusedVariables false
set_option maxRecDepth 100000
set_option linter.unusedSectionVars false
namespace Go.Proofs.Qxb6500322a
open Go Go.Vc

/-- An operand: unknown, or a value type. -/
def UT (x : Int) : Prop := x = 0 ∨ VT x
def OV (o : List Int) : Prop := ∀ x ∈ o, UT x
theorem UT.vt {x : Int} (h : VT x) : UT x := .inr h

theorem num_vals : ((List.range 123).all fun n => decide (124 ≤ (api_NumSig.F (69 + (n : Int))).2.1) && (decide ((api_NumSig.F (69 + (n : Int))).2.1 ≤ 127) && (decide (124 ≤ (api_NumSig.F (69 + (n : Int))).2.2) && decide ((api_NumSig.F (69 + (n : Int))).2.2 ≤ 127)))) = true := by kernel_rfl
theorem num_vt {op : Int} (h0 : 69 ≤ op) (h1 : op ≤ 191) : VT (api_NumSig.F op).2.1 ∧ VT (api_NumSig.F op).2.2 := by
  have := List.all_eq_true.1 num_vals (op - 69).toNat (List.mem_range.2 (by omega))
  have e : (69 + ((op - 69).toNat : Int)) = op := by omega
  rw [e] at this
  simp only [Bool.and_eq_true, decide_eq_true_eq] at this
  exact ⟨⟨this.1, this.2.1⟩, this.2.2⟩
theorem mem_vals : ((List.range 23).all fun n => decide (124 ≤ (api_MemSig.F (40 + (n : Int))).2.1) && (decide ((api_MemSig.F (40 + (n : Int))).2.1 ≤ 127) && ((api_MemSig.F (40 + (n : Int))).1 == 1 || (api_MemSig.F (40 + (n : Int))).1 == 2 || (api_MemSig.F (40 + (n : Int))).1 == 4 || (api_MemSig.F (40 + (n : Int))).1 == 8))) = true := by kernel_rfl
theorem mem_vt {op : Int} (h0 : 40 ≤ op) (h1 : op ≤ 62) : VT (api_MemSig.F op).2.1 ∧ ((api_MemSig.F op).1 = 1 ∨ (api_MemSig.F op).1 = 2 ∨ (api_MemSig.F op).1 = 4 ∨ (api_MemSig.F op).1 = 8) := by
  have := List.all_eq_true.1 mem_vals (op - 40).toNat (List.mem_range.2 (by omega))
  have e : (40 + ((op - 40).toNat : Int)) = op := by omega
  rw [e] at this
  simp only [Bool.and_eq_true, decide_eq_true_eq, Bool.or_eq_true, beq_iff_eq] at this
  exact ⟨⟨this.1, this.2.1⟩, by omega⟩

section
variable {P : PM} {ps ds : ByteArray} {fn : FnP} {x : Ins} {pc : Int} {o : List Int} {f : Fr} {r k : List Fr}
theorem popO_ov (h : OV o) : OV (popO f o) := by
  unfold popO
  split
  · exact h
  · exact fun x hx => h x (List.mem_of_mem_tail hx)
theorem carO_ov (h : OV o) (t : Int) : OV (carO t f o) := by
  unfold carO
  split
  · exact h
  · exact popO_ov h
theorem popsF_ov (s : ByteArray) : ∀ (n : Nat) {o : List Int}, OV o → OV (popsF s f n o).2
  | 0, o, h => h
  | n + 1, o, h => by
    rw [popsF_succ]
    split
    · exact popsF_ov s n (popO_ov h)
    · exact popO_ov h
theorem cutO_ov (h : OV o) : OV (cutO f o) := fun x hx => h x (List.mem_of_mem_drop hx)
theorem popT_ut (h : OV o) {t : Int} (ht : UT t) : UT (popT t f o) := by
  unfold popT
  split
  · exact ht
  · cases o with
    | nil => exact ht
    | cons g o' =>
      show UT (if g = 0 then t else g)
      split
      · exact ht
      · exact h g (List.mem_cons_self ..)
/-- What an instruction gives: nothing, or an operand. -/
def GT (g : Int) : Prop := g = 64 ∨ UT g
theorem fstT_gt {q : ByteArray} {n : Nat} (h : Vals q n) : fstT q = 64 ∨ VT (fstT q) := by
  unfold fstT
  split
  · exact .inl rfl
  · exact .inr (h.2 0 (by omega))
theorem typeOf_in {g : Int} {t : ByteArray} (h : typeOf P g = some t) : ∃ j, j < P.nTy ∧ t = P.ty j := by
  unfold typeOf typeAt at h
  split at h
  · cases h
  · cases h
    exact ⟨_, by omega, rfl⟩
theorem callT_ov (W : WFP P) {j : Nat} (hj : j < P.nTy) (h : OV o) : OV (callT (P.ty j) f o).2.2 ∧ GT (callT (P.ty j) f o).1 := by
  refine ⟨popsF_ov _ _ h, ?_⟩
  rcases fstT_gt (W.ty j hj).2.2 with g | g
  · exact .inl g
  · exact .inr (.inr g)
theorem locT_vt (hp : Vals ps 4) (hd : Vals ds 6) {y t : Int} (h0 : 0 ≤ y) (h : locT ps ds y = some t) : VT t := by
  unfold locT at h
  split at h
  · cases h; exact hp.2 _ (by omega)
  · split at h
    · cases h; exact hd.2 _ (by omega)
    · cases h
theorem plnP_ov (W : WFP P) (hp : Vals ps 4) (hd : Vals ds 6) (hx : Pln x) (hi : InsIn x) (hn : ∀ n : Int, n = 0 ∨ n = 1 ∨ n = 2 ∨ n = 3 ∨ n = 4 ∨ n = 5 ∨ n = 11 ∨ n = 12 ∨ n = 13 ∨ n = 15 → x.op ≠ n) (h : OV o) :
    OV (plnP P ps ds x f o).2.2 ∧ ((plnP P ps ds x f o).2.1 = 0 → GT (plnP P ps ds x f o).1) := by
  have c : ∀ t, OV (carO t f o) := fun t => carO_ov h t
  have bad : ∀ {e : Int} {g : Prop}, e ≠ 0 → e = 0 → g := fun a b => absurd b a
  have x0 := hi.x0
  unfold plnP
  split
  · unfold callP
    split
    · split
      · exact ⟨h, bad (by simp)⟩
      · rename_i t ht
        obtain ⟨j, hj, rfl⟩ := typeOf_in ht
        exact ⟨(callT_ov W hj h).1, fun _ => (callT_ov W hj h).2⟩
    · split
      · exact ⟨h, bad (by simp)⟩
      · split
        · exact ⟨h, bad (by simp)⟩
        · rename_i hb
          split
          · have := callT_ov (f := f) W (show x.x.toNat < P.nTy by omega) (c 127)
            exact ⟨this.1, fun _ => this.2⟩
          · exact ⟨c 127, bad (by simp)⟩
  split
  · exact ⟨popO_ov h, fun _ => .inl rfl⟩
  split
  · unfold selP
    split
    · split
      · exact ⟨popO_ov (popO_ov (c 127)), fun _ => .inr (popT_ut (popO_ov (c 127)) (popT_ut (c 127) (.inl rfl)))⟩
      · exact ⟨popO_ov (c 127), bad (by simp)⟩
    · exact ⟨c 127, bad (by simp)⟩
  split
  · unfold locP
    cases ht : locT ps ds x.x with
    | none => exact ⟨h, bad (by simp)⟩
    | some t =>
      have vt := locT_vt hp hd x0 ht
      show OV (if x.op = 32 then (t, (0 : Int), o) else _).2.2 ∧ _
      split
      · exact ⟨h, fun _ => .inr (.inr vt)⟩
      · refine ⟨c t, fun _ => ?_⟩
        show GT (if x.op = 33 then 64 else t)
        split
        · exact .inl rfl
        · exact .inr (.inr vt)
  split
  · unfold gloP
    split
    · exact ⟨h, bad (by simp)⟩
    · rename_i hg
      have vt := (W.g x.x.toNat (by omega)).1
      split
      · exact ⟨h, fun _ => .inr (.inr vt)⟩
      · split
        · exact ⟨c _, fun _ => .inl rfl⟩
        · exact ⟨h, bad (by simp)⟩
  split
  · unfold memP memL
    split
    · exact ⟨h, bad (by simp)⟩
    · split
      · exact ⟨h, fun _ => .inr (.inr ⟨by show (124 : Int) ≤ 127; decide, by show (127 : Int) ≤ 127; decide⟩)⟩
      · split
        · have vt := (mem_vt (op := x.op) (by omega) (by omega)).1
          split
          · exact ⟨h, bad (by simp)⟩
          · split
            · split
              · exact ⟨carO_ov (c _) 127, fun _ => .inl rfl⟩
              · exact ⟨c _, bad (by simp)⟩
            · exact ⟨c 127, fun _ => .inr (.inr vt)⟩
        · exact ⟨c 127, fun _ => .inr (.inr ⟨by show (124 : Int) ≤ 127; decide, by show (127 : Int) ≤ 127; decide⟩)⟩
  split
  · rename_i hc
    refine ⟨h, fun _ => .inr (.inr ⟨?_, ?_⟩)⟩
    · show (124 : Int) ≤ 127 - (x.op - 65); omega
    · show 127 - (x.op - 65) ≤ (127 : Int); omega
  · have hop : 69 ≤ x.op ∧ x.op ≤ 191 := by
      have m := fun n h => hn n h
      have a0 := m 0 (by omega); have a1 := m 1 (by omega); have a2 := m 2 (by omega); have a3 := m 3 (by omega); have a4 := m 4 (by omega); have a5 := m 5 (by omega)
      have a11 := m 11 (by omega); have a12 := m 12 (by omega); have a13 := m 13 (by omega); have a15 := m 15 (by omega)
      unfold Pln at hx
      rcases hx with g | g | g | g | g | g
      · omega
      · omega
      · omega
      · omega
      · have := g.o0; have := g.o1; omega
      · omega
    unfold numP
    have vt := num_vt hop.1 hop.2
    split
    · exact ⟨h, bad (by simp)⟩
    · split
      · exact ⟨carO_ov (c _) _, fun _ => .inr (.inr vt.2)⟩
      · exact ⟨c _, fun _ => .inr (.inr vt.2)⟩

/-! ### The open blocks -/
def Bot : List Fr → Prop
  | [] => True
  | [g] => g.op = 2 ∧ g.fl = 0
  | _ :: h :: r => Bot (h :: r)
structure VG (o : List Int) (k : List Fr) : Prop where
  ov : OV o
  fl : Floors o.length k
  op : ∀ g ∈ k, 2 ≤ g.op ∧ g.op ≤ 5
  rv : ∀ g ∈ k, g.res = 64 ∨ VT g.res
  bt : Bot k
def SRG : SR → Prop
  | .next o k => VG o k
  | .done _ _ o k => VG o k
theorem Bot.tail {f : Fr} {r : List Fr} (h : Bot (f :: r)) : Bot r := by
  cases r with
  | nil => trivial
  | cons g r => exact h
theorem Bot.turn {f g : Fr} {r : List Fr} (h : Bot (f :: r)) (h1 : r.length = 0 → g.op = f.op) (h2 : g.fl = f.fl) : Bot (g :: r) := by
  cases r with
  | nil => exact ⟨by rw [h1 rfl]; exact h.1, by rw [h2]; exact h.2⟩
  | cons a r => exact h
theorem VG.low (h : VG o (f :: r)) {o' : List Int} (ho : OV o') (hl : f.fl ≤ o'.length) : VG o' (f :: r) := ⟨ho, ⟨hl, h.fl.2⟩, h.op, h.rv, h.bt⟩
theorem VG.turn (h : VG o (f :: r)) {o' : List Int} {g : Fr} (ho : OV o') (hl : g.fl ≤ o'.length) (e1 : g.fl = f.fl) (e2 : g.res = f.res) (e3 : 2 ≤ g.op ∧ g.op ≤ 5) (e4 : r.length = 0 → g.op = f.op) : VG o' (g :: r) :=
  ⟨ho, ⟨hl, by rw [e1]; exact h.fl.2⟩, fun a ha => by
    rcases List.mem_cons.1 ha with rfl | ha
    · exact e3
    · exact h.op a (List.mem_cons_of_mem _ ha), fun a ha => by
    rcases List.mem_cons.1 ha with rfl | ha
    · rw [e2]; exact h.rv f (List.mem_cons_self ..)
    · exact h.rv a (List.mem_cons_of_mem _ ha), h.bt.turn e4 e1⟩
theorem VG.pop (h : VG o (f :: r)) {o' : List Int} (ho : OV o') (hl : f.fl ≤ o'.length) : VG o' r :=
  ⟨ho, h.fl.2.up hl, fun a ha => h.op a (List.mem_cons_of_mem _ ha), fun a ha => h.rv a (List.mem_cons_of_mem _ ha), h.bt.tail⟩
theorem VG.cons (h : VG o k) {g : Int} (hg : UT g) : VG (g :: o) k :=
  ⟨fun x hx => by
    rcases List.mem_cons.1 hx with rfl | hx
    · exact hg
    · exact h.ov x hx, h.fl.up (by simp), h.op, h.rv, h.bt⟩
theorem give_vg (pc g : Int) (h : VG o k) (hg : GT g) : SRG (giveV pc g o k) := by
  unfold giveV
  split
  · exact h
  · rename_i hn
    split
    · exact h.cons (hg.resolve_left hn)
    · exact h
theorem labT_gt (h : VG o k) (l : Nat) : labT k l = 64 ∨ VT (labT k l) := by
  unfold labT
  split
  · rename_i g hg
    split
    · exact .inl rfl
    · exact h.rv g (List.mem_of_getElem? hg)
  · exact .inl rfl
theorem gt_of {t : Int} (h : t = 64 ∨ VT t) : GT t := h.imp id UT.vt

/-- The instructions that a body may hold. -/
def InsOk (x : Ins) : Prop := x.op = 14 ∨ Pln x
theorem step_vg (W : WFP P) (hp : Vals ps 4) (hd : Vals (strOfNums fn.ls) 6) (hx : InsOk x) (hi : InsIn x) (h : VG o (f :: r)) : SRG (stepV P ps fn x pc o f r) := by
  have hf := h.fl.1
  have cr : ∀ t, VG (carO t f o) (f :: r) := fun t => h.low (carO_ov h.ov t) (carO_len t f o hf).1
  have cu : ∀ o' : List Int, OV o' → f.fl ≤ o'.length → VG (cutO f o') (f.kill :: r) := fun o' ho hl =>
    h.turn (g := f.kill) (cutO_ov ho) (by rw [cutO_len f o' hl]; exact Nat.le_refl _) rfl rfl (h.op f (List.mem_cons_self ..)) (fun _ => rfl)
  unfold stepV
  by_cases i1 : x.op = 1
  · rw [if_pos i1]; exact h
  rw [if_neg i1]
  by_cases i0 : x.op = 0
  · rw [if_pos i0]; exact cu o h.ov hf
  rw [if_neg i0]
  by_cases ib : x.op = 2 ∨ x.op = 3 ∨ x.op = 4
  · rw [if_pos ib]
    have hv : x.x = 64 ∨ VT x.x := by
      rcases hx with g | g
      · omega
      · unfold Pln at g
        rcases g with g | g | g | g | g | g
        · exact g.2.2
        · omega
        · omega
        · omega
        · have := g.o0; omega
        · omega
    have opn : ∀ (o' : List Int), VG o' (f :: r) → SRG (opnV x pc o' f r) := fun o' ho => by
      unfold opnV
      split
      · exact ho
      · have ew : IntKind.wrap .u8 x.x = x.x := wrap_u8 (by omega) (by omega)
        refine ⟨ho.ov, ⟨Nat.le_refl _, ho.fl⟩, fun a ha => ?_, fun a ha => ?_, ho.bt⟩
        · rcases List.mem_cons.1 ha with rfl | ha
          · show 2 ≤ x.op ∧ x.op ≤ 5; omega
          · exact ho.op a ha
        · rcases List.mem_cons.1 ha with rfl | ha
          · show IntKind.wrap .u8 x.x = 64 ∨ VT (IntKind.wrap .u8 x.x)
            rw [ew]; exact hv
          · exact ho.rv a ha
    unfold blkV
    split
    · split
      · exact opn _ (cr 127)
      · exact cr 127
    · exact opn _ h
  rw [if_neg ib]
  by_cases i5 : x.op = 5
  · rw [if_pos i5]
    unfold elsV
    split
    · split
      · exact cr _
      · rename_i hr0
        split
        · exact h.turn (g := { { f with op := 5 } with dead := false }) (carO_ov h.ov _) (carO_len f.res f o hf).1 rfl rfl ⟨by show (2 : Int) ≤ 5; decide, by show (5 : Int) ≤ 5; decide⟩ (fun g => absurd g hr0)
        · exact cr _
    · exact cr _
  rw [if_neg i5]
  by_cases i11 : x.op = 11
  · rw [if_pos i11]
    unfold endV
    have hr : VG (carO f.res f o) r := h.pop (carO_ov h.ov _) (carO_len f.res f o hf).1
    split
    · split
      · exact cr _
      · split
        · split
          · exact hr
          · exact hr
        · exact give_vg _ _ hr (gt_of (h.rv f (List.mem_cons_self ..)))
    · exact cr _
  rw [if_neg i11]
  by_cases i12 : x.op = 12
  · rw [if_pos i12]
    unfold brV
    split
    · exact h
    · split
      · exact cu _ (carO_ov h.ov _) (carO_len _ f o hf).1
      · exact cr _
  rw [if_neg i12]
  by_cases i13 : x.op = 13
  · rw [if_pos i13]
    unfold brifV
    have c2 : ∀ t, VG (carO t f (carO 127 f o)) (f :: r) := fun t => h.low (carO_ov (carO_ov h.ov _) _) (carO_len t f _ (carO_len 127 f o hf).1).1
    split
    · split
      · exact cr _
      · split
        · exact give_vg _ _ (c2 _) (gt_of (labT_gt h _))
        · exact c2 _
    · exact cr _
  rw [if_neg i13]
  by_cases i14 : x.op = 14
  · rw [if_pos i14]
    unfold tabV
    split
    · split
      · exact cr _
      · split
        · exact cr _
        · split
          · exact cu _ (carO_ov h.ov _) (carO_len _ f o hf).1
          · exact cr _
    · exact cr _
  rw [if_neg i14]
  by_cases i15 : x.op = 15
  · rw [if_pos i15]
    unfold retV
    split
    · exact cu _ (carO_ov h.ov _) (carO_len _ f o hf).1
    · exact cr _
  rw [if_neg i15]
  unfold plnV
  have hpl := plnP_ov (f := f) W hp hd (hx.resolve_left i14) hi (fun n hn => by rcases hn with rfl | rfl | rfl | rfl | rfl | rfl | rfl | rfl | rfl | rfl <;> omega) h.ov
  have hv : VG (plnP P ps (strOfNums fn.ls) x f o).2.2 (f :: r) := h.low hpl.1 (plnP_len ps (strOfNums fn.ls) x hf).1
  split
  · rename_i h0
    exact give_vg _ _ hv (hpl.2 h0)
  · exact hv

theorem wf_ins {ins : Nat → Ins} {nI nT : Nat} : ∀ (k i d : Nat) (may : Nat → Bool) (u : Nat), i + k = nI → wfGo ins nI nT k i d may u → ∀ j, i ≤ j → j < nI → InsOk (ins j)
  | 0, i, d, may, u, hk, h, j, h1, h2 => h.elim
  | k + 1, i, d, may, u, hk, h, j, h1, h2 => by
    rw [wfGo_succ] at h
    have N : ∀ d' may' u', wfGo ins nI nT k (i + 1) d' may' u' → j ≠ i → InsOk (ins j) := fun d' may' u' h' hj => wf_ins k (i + 1) d' may' u' (by omega) h' j (by omega) h2
    split at h
    · rename_i h14
      by_cases e : j = i
      · rw [e]; exact .inl h14
      · exact N _ _ _ h.2.2.2 e
    · obtain ⟨hp, h⟩ := h
      by_cases e : j = i
      · rw [e]; exact .inr hp
      · split at h
        · exact N _ _ _ h.2 e
        · split at h
          · exact N _ _ _ h.2.2 e
          · split at h
            · split at h
              · omega
              · exact N _ _ _ h e
            · exact N _ _ _ h e
theorem FnWF.insOk (h : FnWF fn) {j : Nat} (hj : j < fn.nI) : InsOk (fn.ins j) := wf_ins fn.nI 0 0 _ 0 (by omega) h.go j (by omega) hj

theorem run_vg (W : WFP P) (hp : Vals ps 4) (hw : FnWF fn) : ∀ (n pc : Nat) (o : List Int) (k : List Fr), pc + n = fn.nI → VG o k → VG (runV P ps fn n pc o k).2.2.1 (runV P ps fn n pc o k).2.2.2
  | 0, pc, o, k, hn, h => h
  | n + 1, pc, o, [], hn, h => h
  | n + 1, pc, o, f :: r, hn, h => by
    rw [runV_cont]
    have := step_vg (pc := (pc : Int)) W hp hw.ls (hw.insOk (j := pc) (by omega)) (hw.b.ins pc (by omega)) h
    cases hs : stepV P ps fn (fn.ins pc) pc o f r using SR.cs with
    | done p e o' k' => rw [hs] at this; exact this
    | next o' k' => rw [hs] at this; exact run_vg W hp hw n (pc + 1) o' k' (by omega) this
theorem tyF_vals (W : WFP P) {i : Nat} (hi : i < P.nf) (ht : (P.fn i).ty < (P.nTy : Int)) : Vals (tyF P (P.fn i)).1 4 ∧ Vals (tyF P (P.fn i)).2 1 := by
  have t0 := (W.fn i hi).b.t0
  exact (W.ty (P.fn i).ty.toNat (by omega)).2
theorem body_vg (W : WFP P) {i : Nat} (hi : i < P.nf) (ht : (P.fn i).ty < (P.nTy : Int)) : VG (bodyV P (P.fn i)).2.2.1 (bodyV P (P.fn i)).2.2.2 := by
  obtain ⟨h1, h2⟩ := tyF_vals W hi ht
  unfold bodyV
  refine run_vg W h1 (W.fn i hi) (P.fn i).nI 0 [] _ (by omega) ⟨fun x hx => (by cases hx), ⟨Nat.zero_le _, trivial⟩, fun g hg => ?_, fun g hg => ?_, ⟨rfl, rfl⟩⟩
  · rw [List.mem_singleton] at hg; rw [hg]; exact ⟨by show (2 : Int) ≤ 2; decide, by show (2 : Int) ≤ 5; decide⟩
  · rw [List.mem_singleton] at hg; rw [hg]; exact fstT_gt h2

theorem floors_at : ∀ (k : List Fr) (h : Nat), Floors h k → ∀ j g, k.reverse[j]? = some g → g.fl ≤ h ∧ ∀ g', k.reverse[j + 1]? = some g' → g.fl ≤ g'.fl
  | [], h, _, j, g, e => by simp at e
  | f :: r, h, hf, j, g, e => by
    by_cases hj : j < r.length
    · rw [rev_low f r hj] at e
      obtain ⟨a, b⟩ := floors_at r f.fl hf.2 j g e
      refine ⟨Nat.le_trans a hf.1, fun g' e' => ?_⟩
      by_cases hj2 : j + 1 < r.length
      · rw [rev_low f r hj2] at e'; exact b g' e'
      · have : j + 1 = r.length := by omega
        rw [this, rev_top] at e'; cases e'
        exact a
    · have hl := (List.getElem?_eq_some_iff.1 e).1
      rw [List.length_reverse, List.length_cons] at hl
      have : j = r.length := by omega
      rw [this, rev_top] at e; cases e
      refine ⟨hf.1, fun g' e' => ?_⟩
      have hl2 := (List.getElem?_eq_some_iff.1 e').1
      rw [List.length_reverse, List.length_cons] at hl2
      omega
theorem bot_at : ∀ (k : List Fr), Bot k → ∀ g, k.reverse[0]? = some g → g.op = 2 ∧ g.fl = 0
  | [], _, g, e => by simp at e
  | [f], h, g, e => by
    have e : some f = some g := e
    cases e; exact h
  | f :: a :: r, h, g, e => by
    rw [rev_low f (a :: r) (by simp)] at e
    exact bot_at (a :: r) h g e
end
end Go.Proofs.Qxb6500322a
