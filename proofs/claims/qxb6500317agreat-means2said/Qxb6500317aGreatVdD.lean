/-
  The validator: plain.
-/
import Derived.Test.Qxb6500317aGreatVdC
set_option linter.unusedSimpArgs false
set_option linter.unusedVariables false
set_option maxRecDepth 100000
set_option linter.unusedSectionVars false
namespace Go.Proofs.Qxb6500317aGreat
open Go Go.Vc

theorem constOf_eq {op : Int} (h0 : 65 ≤ op) (h1 : op ≤ 68) : valid_constOf.F op = 127 - (op - 65) := by
  unfold valid_constOf.F valid_constOf.F1
  rw [decide_eq_false (by omega), decide_eq_false (by omega), wrap_u8 (x := op - 65) (by omega) (by omega)]
  exact wrap_u8 (by omega) (by omega)

theorem local_spec (ps ds : ByteArray) (hp : ps.size ≤ 1024) (hd : ds.size ≤ 1024) (x : Int) (h0 : 0 ≤ x) (h1 : x ≤ 4294967295) (w : World) :
    Runs Tryz.prog valid_local.id #[.string ps, .string ds, .int .u32 x] w fun v w' => v = (match locT ps ds x with | some t => .tuple #[.int .u8 t, .bool true] | none => .tuple #[.int .u8 0, .bool false]) ∧ w' = w := by
  have e1 : IntKind.wrap .u64 x = x := wrap_u64 (by omega) (by omega)
  have e2 : IntKind.wrap .u64 ((ps.size : Nat) : Int) = ps.size := wrap_u64 (by omega) (by omega)
  have e3 : IntKind.wrap .u64 ((ds.size : Nat) : Int) = ds.size := wrap_u64 (by omega) (by omega)
  have hF : valid_local.F ps ds x = match locT ps ds x with | some t => (t, true) | none => (0, false) := by
    unfold valid_local.F locT
    rw [e1, e2, e3]
    by_cases g1 : x < (ps.size : Int)
    · rw [decide_eq_true g1, if_pos g1]; rfl
    · rw [decide_eq_false g1, if_neg g1, wrap_u64 (x := x - ps.size) (by omega) (by omega)]
      by_cases g2 : x - ps.size < (ds.size : Int)
      · rw [decide_eq_true g2, if_pos g2]; rfl
      · rw [decide_eq_false g2, if_neg g2]; rfl
  have hP : valid_local.Pre ps ds x := by
    unfold valid_local.Pre
    rw [e1, e2, e3]
    refine cond_intro (fun h => ⟨⟨h0, of_decide_eq_true h⟩, trivial⟩) (fun h => ?_)
    have h : ¬ x < (ps.size : Int) := of_decide_eq_false h
    rw [wrap_u64 (x := x - ps.size) (by omega) (by omega)]
    exact cond_intro (fun h => ⟨⟨by omega, of_decide_eq_true h⟩, trivial⟩) (fun _ => trivial)
  refine RunsQ.post (valid_local.pure ps ds x w hP) ?_
  rintro v w1 ⟨rfl, rfl⟩
  refine ⟨?_, rfl⟩
  rw [hF]
  cases locT ps ds x <;> rfl

section
variable {wd w w' : World} {L mb vb : Nat} {m : Nat → Value} {P : PM} {o : List Int} {f : Fr} {r : List Fr}
theorem plain_spec (C : VC wd w L mb m P vb o f r) (ps ds : ByteArray) (hp : ps.size ≤ 1024) (hd : ds.size ≤ 1024) (x : Ins) (hx : InsIn x) :
    Runs Tryz.prog valid_Valid_plain.id #[rp vb, rp mb, .string ps, .string ds, insV x] w (PR w vb (f :: r) (plnP P ps ds x f o)) := by
  have hx0 := hx.x0; have hx1 := hx.x1; have ho0 := hx.o0; have ho1 := hx.o1
  refine valid_Valid_plain.enter _ _ _ _ _ _ _ _ _ _ ?_
  unfold valid_Valid_plain.V
  refine letB_intro fun b8 hb => letW_intro fun w9 hw => ?_
  obtain ⟨I, S9⟩ := ins_made (i := x) hb hw
  have S9' : Same [vb] w.heap.size w w9 := S9.mono (Nat.le_refl _) (by simp)
  clear hw
  have C9 := C.keep S9
  refine ⟨_, I.c0, ?_⟩
  rw [wrap_i64 (x := x.op) (by omega) (by omega)]
  have n8 : b8 ≠ vb := by have := C.v.lt; omega
  have l9 := I.lt
  -- numbers
  have L6 : ¬ (65 ≤ x.op ∧ x.op ≤ 68) → ∀ tt : Bool, tt = false → valid_Valid_plain.L6 (some ⟨vb, 0, none⟩) b8 x.op tt (PR w vb (f :: r) (numP x f o)) (fun _ _ => False) w9 := fun hn tt htt => by
    subst htt
    refine valid_Valid_plain.step6 _ _ _ _ _ _ _ ?_
    unfold valid_Valid_plain.V6
    refine cond_false' rfl (RunsQ.post (api_NumSig.pure _ w9) ?_)
    rintro v w6 ⟨rfl, rfl⟩
    unfold numP
    refine ⟨_, _, _, rfl, cond_intro (fun h => ?_) (fun h => ?_)⟩
    · rw [if_pos (eq_of_beq h)]; exact ⟨rfl, C9.v, S9'⟩
    have h : ¬ (api_NumSig.F x.op).1 = 0 := by simpa using h
    rw [if_neg h]
    refine RunsQ.post (carry_spec C9.v C9.hf _) ?_
    rintro v w2 ⟨rfl, V2, S2⟩
    have T2 := S9'.trans (S2.mono S9'.size (by simp))
    have h2 := (carO_len (api_NumSig.F x.op).2.1 f o C.hf).1
    have L8 : ∀ (b : Bool) (w3 : World) (o3 : List Int), VAt w3 vb o3 (f :: r) → Same [vb] w.heap.size w w3 → valid_Valid_plain.L8 (api_NumSig.F x.op).2.2 b (PR w vb (f :: r) ((api_NumSig.F x.op).2.2, tyE b, o3)) (fun _ _ => False) w3 := fun b w3 o3 V3 S3 => by
      refine valid_Valid_plain.step8 _ _ _ _ _ ?_
      unfold valid_Valid_plain.V8
      refine RunsQ.post (valid_typed.pure _ w3) ?_
      rintro v w4 ⟨rfl, rfl⟩
      exact ⟨_, rfl, by rw [tyE_eq], V3, S3⟩
    refine ⟨_, rfl, ?_⟩
    cases hb : carB (api_NumSig.F x.op).2.1 f o
    · refine cond_false' rfl ?_
      rw [if_neg (fun g => Bool.noConfusion g.1)]
      refine valid_Valid_plain.step7 _ _ _ _ _ _ _ _ ?_
      unfold valid_Valid_plain.V7
      exact cond_false' rfl (L8 _ _ _ V2 T2)
    · refine cond_true' rfl ?_
      refine valid_Valid_plain.step7 _ _ _ _ _ _ _ _ ?_
      unfold valid_Valid_plain.V7
      refine cond_intro (fun h3 => ?_) (fun h3 => ?_)
      · rw [if_pos ⟨rfl, eq_of_beq h3⟩]
        refine RunsQ.post (carry_spec V2 h2 _) ?_
        rintro v w3 ⟨rfl, V3, S3⟩
        exact ⟨_, rfl, L8 _ _ _ V3 (T2.trans (S3.mono T2.size (by simp)))⟩
      · have h3 : ¬ (api_NumSig.F x.op).1 = 2 := by simpa using h3
        rw [if_neg (fun g => h3 g.2)]
        exact L8 _ _ _ V2 T2
  -- constants
  have L6' : ∀ tt : Bool, tt = decide (65 ≤ x.op ∧ x.op ≤ 68) → valid_Valid_plain.L6 (some ⟨vb, 0, none⟩) b8 x.op tt (PR w vb (f :: r) (if 65 ≤ x.op ∧ x.op ≤ 68 then (127 - (x.op - 65), 0, o) else numP x f o)) (fun _ _ => False) w9 := fun tt htt => by
    by_cases hc : 65 ≤ x.op ∧ x.op ≤ 68
    · rw [if_pos hc]
      rw [decide_eq_true hc] at htt
      subst htt
      refine valid_Valid_plain.step6 _ _ _ _ _ _ _ ?_
      unfold valid_Valid_plain.V6
      refine cond_true' rfl ⟨_, I.c0, RunsQ.post (valid_constOf.pure _ w9) ?_⟩
      rintro v w2 ⟨rfl, rfl⟩
      exact ⟨_, rfl, by rw [constOf_eq hc.1 hc.2], C9.v, S9'⟩
    · rw [if_neg hc]
      exact L6 hc tt (by rw [htt, decide_eq_false hc])
  have L5 : ∀ tt : Bool, tt = decide (40 ≤ x.op ∧ x.op ≤ 64) → valid_Valid_plain.L5 (some ⟨vb, 0, none⟩) (some ⟨mb, 0, none⟩) b8 x.op tt (PR w vb (f :: r) (if 40 ≤ x.op ∧ x.op ≤ 64 then memP P x f o else if 65 ≤ x.op ∧ x.op ≤ 68 then (127 - (x.op - 65), 0, o) else numP x f o)) (fun _ _ => False) w9 := fun tt htt => by
    refine valid_Valid_plain.step5 _ _ _ _ _ _ _ _ ?_
    unfold valid_Valid_plain.V5
    by_cases hc : 40 ≤ x.op ∧ x.op ≤ 64
    · rw [if_pos hc]
      rw [decide_eq_true hc] at htt
      subst htt
      refine cond_true' rfl ⟨_, _, _, I.c0, I.c1, I.c2, RunsQ.post (vmem_spec C9 x hx) ?_⟩
      rintro v w2 ⟨rfl, V2, S2⟩
      exact ⟨_, _, rfl, rfl, V2, S9'.trans (S2.mono S9'.size (by simp))⟩
    · rw [if_neg hc]
      rw [decide_eq_false hc] at htt
      subst htt
      refine cond_false' rfl (cond_intro (fun h => L6' _ ?_) (fun h => L6' false ?_))
      · have h : 65 ≤ x.op := of_decide_eq_true h
        by_cases h2 : x.op ≤ 68
        · rw [decide_eq_true h2, decide_eq_true ⟨h, h2⟩]
        · rw [decide_eq_false h2, decide_eq_false (fun g => h2 g.2)]
      · have h : ¬ 65 ≤ x.op := of_decide_eq_false h
        rw [decide_eq_false (fun g => h g.1)]
  have L4 : ∀ tt : Bool, tt = decide (x.op = 35 ∨ x.op = 36) → valid_Valid_plain.L4 (some ⟨vb, 0, none⟩) (some ⟨mb, 0, none⟩) b8 x.op tt (PR w vb (f :: r) (if x.op = 35 ∨ x.op = 36 then gloP P x f o else if 40 ≤ x.op ∧ x.op ≤ 64 then memP P x f o else if 65 ≤ x.op ∧ x.op ≤ 68 then (127 - (x.op - 65), 0, o) else numP x f o)) (fun _ _ => False) w9 := fun tt htt => by
    refine valid_Valid_plain.step4 _ _ _ _ _ _ _ _ ?_
    unfold valid_Valid_plain.V4
    by_cases hc : x.op = 35 ∨ x.op = 36
    · rw [if_pos hc]
      rw [decide_eq_true hc] at htt
      subst htt
      refine cond_true' rfl ?_
      simp only [true_and, nilV_some, Nat.zero_add]
      have D := C9.drew
      obtain ⟨a, c7, hr⟩ := D.hm.gl
      have bg := C.B.gn
      unfold gloP
      refine ⟨_, I.drew.c1, _, _, _, c7, ?_⟩
      rw [wrap_u64 (by omega) (by omega), wrap_u64 (by omega) (by omega)]
      refine cond_intro (fun h => ?_) (fun h => ?_)
      · rw [if_pos (of_decide_eq_true h)]; exact ⟨rfl, D.v, S9'.drew⟩
      have h : ¬ (P.gn : Int) ≤ x.x := of_decide_eq_false h
      rw [if_neg h]
      obtain ⟨n, hn⟩ := Int.eq_ofNat_of_zero_le hx0
      obtain ⟨gb, rfl, e2⟩ := hr (by omega)
      refine ⟨_, _, _, c7, _, I.drew.drew.c1, ⟨by omega, by omega⟩, ?_⟩
      have e0 := e2 n (by omega) 0 _ rfl
      have e1 := e2 n (by omega) 1 _ rfl
      rw [Nat.add_zero] at e0
      simp only [nilV_some, add_mk, hn, Int.toNat_natCast, Nat.zero_add]
      refine cond_intro (fun h2 => ?_) (fun h2 => ?_)
      · rw [if_pos (eq_of_beq h2)]
        exact ⟨_, e0, rfl, D.drew.v, S9'.drew.drew⟩
      · rw [if_neg (show ¬ x.op = 35 by simpa using h2)]
        refine ⟨_, e1, ?_⟩
        cases hm : (P.g n).mu
        · refine cond_true' rfl ?_
          rw [if_neg (by decide)]
          exact ⟨rfl, D.drew.v, S9'.drew.drew⟩
        · refine cond_false' rfl ⟨_, e0, ?_⟩
          rw [if_pos rfl]
          refine RunsQ.post (carry_spec D.drew.v C.hf _) ?_
          rintro v w2 ⟨rfl, V2, S2⟩
          refine ⟨_, rfl, RunsQ.post (valid_typed.pure _ w2) ?_⟩
          rintro v w3 ⟨rfl, rfl⟩
          exact ⟨_, rfl, by rw [tyE_eq], V2, S9'.drew.drew.trans (S2.mono S9'.size (by simp))⟩
    · rw [if_neg hc]
      rw [decide_eq_false hc] at htt
      subst htt
      refine cond_false' rfl (cond_intro (fun h => L5 _ ?_) (fun h => L5 false ?_))
      · have h : 40 ≤ x.op := of_decide_eq_true h
        by_cases h2 : x.op ≤ 64
        · rw [decide_eq_true h2, decide_eq_true ⟨h, h2⟩]
        · rw [decide_eq_false h2, decide_eq_false (fun g => h2 g.2)]
      · have h : ¬ 40 ≤ x.op := of_decide_eq_false h
        rw [decide_eq_false (fun g => h g.1)]
  have L2 : ∀ tt : Bool, tt = decide (32 ≤ x.op ∧ x.op ≤ 34) → valid_Valid_plain.L2 (some ⟨vb, 0, none⟩) (some ⟨mb, 0, none⟩) ps ds b8 x.op tt (PR w vb (f :: r) (if 32 ≤ x.op ∧ x.op ≤ 34 then locP ps ds x f o else if x.op = 35 ∨ x.op = 36 then gloP P x f o else if 40 ≤ x.op ∧ x.op ≤ 64 then memP P x f o else if 65 ≤ x.op ∧ x.op ≤ 68 then (127 - (x.op - 65), 0, o) else numP x f o)) (fun _ _ => False) w9 := fun tt htt => by
    refine valid_Valid_plain.step2 _ _ _ _ _ _ _ _ _ _ ?_
    unfold valid_Valid_plain.V2
    by_cases hc : 32 ≤ x.op ∧ x.op ≤ 34
    · rw [if_pos hc]
      rw [decide_eq_true hc] at htt
      subst htt
      refine cond_true' rfl ⟨_, I.c1, RunsQ.post (local_spec ps ds hp hd x.x hx0 hx1 w9) ?_⟩
      rintro v w3 ⟨rfl, rfl⟩
      cases ht : locT ps ds x.x with
      | none =>
        have eL : locP ps ds x f o = (64, 22, o) := by unfold locP; rw [ht]
        rw [eL]
        exact ⟨_, _, rfl, cond_true' rfl ⟨rfl, C9.v, S9'⟩⟩
      | some t =>
        have eL : locP ps ds x f o = if x.op = 32 then (t, 0, o) else ((if x.op = 33 then 64 else t), tyE (carB t f o), carO t f o) := by unfold locP; rw [ht]
        rw [eL]
        refine ⟨_, _, rfl, cond_false' rfl (cond_intro (fun h2 => ?_) (fun h2 => ?_))⟩
        · rw [if_pos (eq_of_beq h2)]
          exact ⟨rfl, C9.v, S9'⟩
        · rw [if_neg (show ¬ x.op = 32 by simpa using h2)]
          refine RunsQ.post (carry_spec C9.v C.hf t) ?_
          rintro v w2 ⟨rfl, V2, S2⟩
          have T2 := S9'.trans (S2.mono S9'.size (by simp))
          have L3 : ∀ g : Int, valid_Valid_plain.L3 g (carB t f o) (PR w vb (f :: r) (g, tyE (carB t f o), carO t f o)) (fun _ _ => False) w2 := fun g => by
            refine valid_Valid_plain.step3 _ _ _ _ _ ?_
            unfold valid_Valid_plain.V3
            refine RunsQ.post (valid_typed.pure _ w2) ?_
            rintro v w3 ⟨rfl, rfl⟩
            exact ⟨_, rfl, by rw [tyE_eq], V2, T2⟩
          refine ⟨_, rfl, cond_intro (fun h3 => ?_) (fun h3 => ?_)⟩
          · rw [if_pos (eq_of_beq h3)]; exact L3 64
          · rw [if_neg (show ¬ x.op = 33 by simpa using h3)]; exact L3 t
    · rw [if_neg hc]
      rw [decide_eq_false hc] at htt
      subst htt
      refine cond_false' rfl (cond_intro (fun h => L4 true ?_) (fun h => L4 _ ?_))
      · have h : x.op = 35 := eq_of_beq h
        rw [decide_eq_true (.inl h)]
      · have h : ¬ x.op = 35 := by simpa using h
        by_cases h2 : x.op = 36
        · rw [decide_eq_true (.inr h2), h2]; rfl
        · rw [decide_eq_false (by omega)]; exact beq_eq_false_iff_ne.2 h2
  have L1 : ∀ tt : Bool, tt = decide (x.op = 16 ∨ x.op = 17) → valid_Valid_plain.L1 (some ⟨vb, 0, none⟩) (some ⟨mb, 0, none⟩) ps ds b8 x.op tt (PR w vb (f :: r) (plnP P ps ds x f o)) (fun _ _ => False) w9 := fun tt htt => by
    refine valid_Valid_plain.step1 _ _ _ _ _ _ _ _ _ _ ?_
    unfold valid_Valid_plain.V1 plnP
    by_cases hc : x.op = 16 ∨ x.op = 17
    · rw [if_pos hc]
      rw [decide_eq_true hc] at htt
      subst htt
      refine cond_true' rfl ⟨_, _, _, I.c0, I.c1, I.c2, RunsQ.post (call_spec C9 x hx hc) ?_⟩
      rintro v w2 ⟨rfl, V2, S2⟩
      exact ⟨_, _, rfl, rfl, V2, S9'.trans (S2.mono S9'.size (by simp))⟩
    · rw [if_neg hc]
      rw [decide_eq_false hc] at htt
      subst htt
      refine cond_false' rfl (cond_intro (fun h => ?_) (fun h => ?_))
      · rw [if_pos (eq_of_beq h)]
        refine RunsQ.post (pop_spec C9.v C.hf 0) ?_
        rintro v w2 ⟨rfl, V2, S2⟩
        refine ⟨_, _, rfl, RunsQ.post (valid_typed.pure _ w2) ?_⟩
        rintro v w3 ⟨rfl, rfl⟩
        exact ⟨_, rfl, by rw [tyE_eq], V2, S9'.trans (S2.mono S9'.size (by simp))⟩
      rw [if_neg (show ¬ x.op = 26 by simpa using h)]
      refine cond_intro (fun h => ?_) (fun h => ?_)
      · rw [if_pos (eq_of_beq h)]
        refine RunsQ.post (sel_spec C9) ?_
        rintro v w2 ⟨rfl, V2, S2⟩
        exact ⟨_, _, rfl, rfl, V2, S9'.trans (S2.mono S9'.size (by simp))⟩
      rw [if_neg (show ¬ x.op = 27 by simpa using h)]
      refine cond_intro (fun h => L2 _ ?_) (fun h => L2 false ?_)
      · have h : 32 ≤ x.op := of_decide_eq_true h
        by_cases h2 : x.op ≤ 34
        · rw [decide_eq_true h2, decide_eq_true ⟨h, h2⟩]
        · rw [decide_eq_false h2, decide_eq_false (fun g => h2 g.2)]
      · have h : ¬ 32 ≤ x.op := of_decide_eq_false h
        rw [decide_eq_false (fun g => h g.1)]
  refine cond_intro (fun h => L1 true ?_) (fun h => L1 _ ?_)
  · rw [decide_eq_true (.inl (eq_of_beq h))]
  · have h : ¬ x.op = 16 := by simpa using h
    by_cases h2 : x.op = 17
    · rw [decide_eq_true (.inr h2), h2]; rfl
    · rw [decide_eq_false (by omega)]; exact beq_eq_false_iff_ne.2 h2

theorem callT_len (t : ByteArray) (hf : f.fl ≤ o.length) : f.fl ≤ (callT t f o).2.2.length ∧ (callT t f o).2.2.length ≤ o.length := popsF_len _ f _ o hf
theorem plnP_len (ps ds : ByteArray) (x : Ins) (hf : f.fl ≤ o.length) : f.fl ≤ (plnP P ps ds x f o).2.2.length ∧ (plnP P ps ds x f o).2.2.length ≤ o.length := by
  have c : ∀ t, f.fl ≤ (carO t f o).length ∧ (carO t f o).length ≤ o.length := fun t => carO_len t f o hf
  have p := popO_len f o hf
  have cc : ∀ t t', f.fl ≤ (carO t' f (carO t f o)).length ∧ (carO t' f (carO t f o)).length ≤ o.length := fun t t' => by
    have a := c t; have b := carO_len t' f (carO t f o) a.1; omega
  have s : ∀ (z : Int × Int × List Int), z.2.2 = o → f.fl ≤ z.2.2.length ∧ z.2.2.length ≤ o.length := fun z e => by rw [e]; exact ⟨hf, Nat.le_refl _⟩
  unfold plnP
  split
  · unfold callP
    split
    · split
      · exact ⟨hf, Nat.le_refl _⟩
      · exact callT_len _ hf
    · split
      · exact ⟨hf, Nat.le_refl _⟩
      · split
        · exact ⟨hf, Nat.le_refl _⟩
        · split
          · have a := c 127
            have b := callT_len (P.ty x.x.toNat) (f := f) (o := carO 127 f o) a.1
            omega
          · exact c 127
  split
  · exact p
  split
  · unfold selP
    have a := c 127
    have b := popO_len f (carO 127 f o) a.1
    have d := popO_len f (popO f (carO 127 f o)) b.1
    split
    · split
      · show _ ≤ (popO f (popO f (carO 127 f o))).length ∧ (popO f (popO f (carO 127 f o))).length ≤ _
        omega
      · show _ ≤ (popO f (carO 127 f o)).length ∧ (popO f (carO 127 f o)).length ≤ _
        omega
    · exact a
  split
  · unfold locP
    split
    · exact ⟨hf, Nat.le_refl _⟩
    · split
      · exact ⟨hf, Nat.le_refl _⟩
      · exact c _
  split
  · unfold gloP
    split
    · exact ⟨hf, Nat.le_refl _⟩
    · split
      · exact ⟨hf, Nat.le_refl _⟩
      · split
        · exact c _
        · exact ⟨hf, Nat.le_refl _⟩
  split
  · unfold memP memL
    split
    · exact ⟨hf, Nat.le_refl _⟩
    split
    · exact ⟨hf, Nat.le_refl _⟩
    split
    · split
      · exact ⟨hf, Nat.le_refl _⟩
      split
      · split
        · exact cc (api_MemSig.F x.op).2.1 127
        · exact c _
      · exact c 127
    · exact c 127
  split
  · exact ⟨hf, Nat.le_refl _⟩
  unfold numP
  split
  · exact ⟨hf, Nat.le_refl _⟩
  split
  · exact cc (api_NumSig.F x.op).2.1 (api_NumSig.F x.op).2.1
  · exact c _
end
end Go.Proofs.Qxb6500317aGreat
