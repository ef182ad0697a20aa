/-
  The model reads names, types, words.
-/
import Derived.Test.Qxb6500316aMdC
set_option linter.unusedSimpArgs false
set_option linter.unusedVariables false
set_option maxRecDepth 100000
set_option linter.unusedSectionVars false
namespace Go.Proofs.Qxb6500316a
open Go Go.Vc

theorem ext_one (s : ByteArray) (q k : Nat) (h : q + k < s.size) : s.extract q (q + k) ++ strOfNums [byteAt s (q + k)] = s.extract q (q + k + 1) := by
  apply ByteArray.ext
  rw [ByteArray.data_append, ByteArray.data_extract, ByteArray.data_extract]
  have hs : s.data.size = s.size := rfl
  have hb : (strOfNums [byteAt s (q + k)]).data = #[s.data.getD (q + k) 0] := by
    unfold byteAt strOfNums
    simp
  rw [hb]
  apply Array.ext_getElem?
  intro i
  rw [Array.getElem?_append, Array.getElem?_extract, Array.getElem?_extract, Array.size_extract]
  by_cases h1 : i < k
  · rw [if_pos (by omega), if_pos (by omega), if_pos (by omega)]
  · rw [if_neg (by omega)]
    by_cases h2 : i = k
    · subst h2
      rw [if_pos (by omega), show i - (min (q + i) s.data.size - q) = 0 by omega]
      rw [Array.getD_eq_getD_getElem?, Array.getElem?_eq_getElem (by omega : q + i < s.data.size)]
      rfl
    · rw [if_neg (by omega), Array.getElem?_eq_none (by simp; omega)]
theorem app_eB (t : ByteArray) : eB ++ t = t := by
  apply ByteArray.ext
  rw [ByteArray.data_append]
  exact Array.empty_append
theorem run_one (t : Int) (w : World) {b2 : Nat} {w3 : World} (hb : b2 = w.heap.size) (hw : w3 = w.alloc (.cells #[.int .u8 t] T_uint8)) : Sem.run Try.prog (Go.convert T_sl_uint8 T_string (.slice (some ⟨b2, 0, none⟩) 1 1)) w3 = .ok (.string (strOfNums [t])) w3 ∧ Same [] w.heap.size w w3 := by
  have c3 : w3.cell? ⟨b2, 0, none⟩ = some (.int .u8 t) := by rw [hw, hb, World.cell?_alloc_new]; rfl
  refine ⟨run_convert_bytes_arg w3 T_sl_uint8 T_uint8 (by kernel_rfl) (by kernel_rfl) b2 0 1 1 [t] rfl (fun j hj => by
      have : j = 0 := by omega
      subst this
      exact c3) T_string (by kernel_rfl), ?_⟩
  rw [hw]; exact (Same.refl _ _ _).alloc (Nat.le_refl _) _

section
variable {α : Type} {w : World} {rb e lo : Nat} {s : ByteArray} {r0 : Res α}

/-! ### take, name -/
theorem takem_spec (h : StR w rb s e lo r0) (he : e ≤ s.size) (hs : s.size ≤ 1024) (n : Nat) (hn : n ≤ 4294967295) : MRuns binm_rd_take.id #[rp rb, .int .i64 (n : Int)] w rb s e lo r0 (fun _ p => takeP s e n p) (fun r v => v = .string (strR r)) := by
  refine binm_rd_take.enter _ _ _ _ _ ?_
  unfold binm_rd_take.V
  simp only [nilV_some, Nat.zero_add, true_and]
  cases r0 using Res.cs with
  | ok a q =>
    obtain ⟨h1, h2, hL⟩ := h
    have hd := hL.drew
    refine ⟨_, hL.c3, cond_false' rfl ?_⟩
    refine ⟨_, hd.c2, _, hd.c1, ?_⟩
    rw [Res.bind_ok']
    have e1 : IntKind.wrap .i64 ((e : Int) - (q : Int)) = ((e - q : Nat) : Int) := by rw [wrap_i64 (by omega) (by omega)]; omega
    rw [e1]
    unfold takeP
    by_cases hq : e - q < n
    · refine cond_true' (decide_eq_true (by omega)) ⟨_, hd.c2, ?_⟩
      rw [if_pos hq]
      have H : StR w.drew rb s e lo (.ok a q : Res α) := ⟨h1, h2, hd⟩
      refine (fail_spec (β := ByteArray) H 3 (e : Int) (by decide)).into fun v w' hv hst hS => ⟨hv, rfl, hst, ((Same.refl _ _ _).drew).trans hS⟩
    · refine cond_false' (decide_eq_false (by omega)) ⟨_, hd.c1, ⟨⟨_, hd.c1⟩, hd.f 1⟩, letW_intro fun w16 hw16 => ?_⟩
      have e2 : IntKind.wrap .i64 ((q : Int) + (n : Int)) = ((q + n : Nat) : Int) := by rw [wrap_i64 (by omega) (by omega)]; omega
      rw [e2] at hw16
      have k : RdL w16 rb s (q + n) e := by rw [hw16]; exact hd.set1 (q + n)
      have kd := k.drew
      have e3 : IntKind.wrap .i64 (((q + n : Nat) : Int) - (n : Int)) = (q : Int) := by rw [wrap_i64 (by omega) (by omega)]; omega
      refine ⟨_, kd.c0, _, kd.c1, _, kd.c1, ?_⟩
      rw [e3, if_neg hq]
      refine ⟨⟨by omega, by omega, by omega⟩, ?_, ⟨by omega, by omega, kd⟩, ?_⟩
      · rw [Int.toNat_natCast, Int.toNat_natCast]; rfl
      · rw [hw16]; exact ((Same.refl _ _ _).drew.setCell (.inr (by simp)) _).drew
  | err n x =>
    have h : RdX w rb s n x := h
    refine ⟨_, h.c3, cond_true' (by simpa using h.n0) ⟨rfl, h, Same.refl _ _ _⟩⟩
theorem natR_count (r0 : Res α) (s : ByteArray) (e : Nat) (max : Int) : (natR (r0.bind fun _ p => countP s e max p) : Int) ≤ max ∨ natR (r0.bind fun _ p => countP s e max p) = 0 := by
  cases hz : r0.bind fun _ p => countP s e max p using Res.cs with
  | ok n q =>
    obtain ⟨a, q', _, h2⟩ := bind_ok hz
    exact .inl (countP_le h2)
  | err n x => exact .inr rfl
/-- A value read is used by what is read next. -/
theorem use_nat (r : Res Nat) (β : Type) (f : Nat → Nat → Res β) : (r.bind fun a q => f a q) = r.bind fun _ q => f (natR r) q := by cases r <;> rfl
theorem use_num (r : Res Int) (β : Type) (f : Int → Nat → Res β) : (r.bind fun a q => f a q) = r.bind fun _ q => f (numR r) q := by cases r <;> rfl
theorem namem_spec (h : StR w rb s e lo r0) (he : e ≤ s.size) (hs : s.size ≤ 1024) : MRuns binm_rd_name.id #[rp rb] w rb s e lo r0 (fun _ p => nameP s e p) (fun r v => v = .string (strR r)) := by
  refine binm_rd_name.enter _ _ _ _ ?_
  unfold binm_rd_name.V
  refine (countm_spec h he hs 8).into fun v w2 hv hst S2 => ⟨_, hv, ?_⟩
  have hn := natR_count r0 s e 8
  have e1 : (r0.bind fun _ p => nameP s e p) = (r0.bind fun _ p => countP s e 8 p).bind fun _ q => takeP s e (natR (r0.bind fun _ p => countP s e 8 p)) q := by
    rw [← use_nat (r0.bind fun _ p => countP s e 8 p) _ (fun n q => takeP s e n q), Res.bind_bind]; rfl
  refine (takem_spec hst he hs _ (by omega)).into fun v w3 hv hst3 S3 => ⟨_, hv, ?_⟩
  rw [e1]
  exact ⟨rfl, hst3, S2.app S3⟩

/-! ### fixed, valtype, valtypes -/
theorem fixedm_spec (h : StR w rb s e lo r0) (he : e ≤ s.size) (hs : s.size ≤ 1024) (want : Int) : MRuns binm_rd_fixed.id #[rp rb, .int .i64 want] w rb s e lo r0 (fun _ p => fixedP s e want p) (fun _ v => v = .tuple #[]) := by
  refine binm_rd_fixed.enter _ _ _ _ _ ?_
  unfold binm_rd_fixed.V
  simp only [nilV_some, Nat.zero_add]
  obtain ⟨p0, h1, hp0⟩ := h.c1
  refine ⟨_, h1, ?_⟩
  refine (byte_spec h he hs).into fun v w2 hv hst S2 => ⟨_, hv, ?_⟩
  cases r0 using Res.cs with
  | ok a q =>
    rw [Res.bind_ok'] at hst ⊢
    rw [Res.bind_ok']
    unfold fixedP
    cases hz : nextP s e q using Res.cs with
    | ok n q2 =>
      rw [hz] at hst
      rw [Res.bind_ok']
      by_cases hm : n = want
      · refine cond_false' (by simpa [numR] using hm) ?_
        rw [if_pos hm]
        exact ⟨by trivial, hst, S2⟩
      · refine cond_true' (by simpa [numR] using hm) ?_
        rw [if_neg hm, hp0 a q rfl]
        refine (fail_spec (β := Unit) hst 8 (q : Int) (by decide)).into fun v w3 hv hst3 S3 => ⟨hv, by trivial, hst3, S2.app S3⟩
    | err n x =>
      rw [hz] at hst
      rw [Res.bind_err']
      refine cond_intro (fun _ => ?_) (fun _ => ⟨by trivial, hst, S2⟩)
      refine (fail_spec (β := Unit) hst 8 p0 (by decide)).into fun v w3 hv hst3 S3 => ⟨hv, by trivial, hst3, S2.app S3⟩
  | err n x =>
    refine cond_intro (fun _ => ?_) (fun _ => ⟨by trivial, hst, S2⟩)
    refine (fail_spec (β := Unit) hst 8 p0 (by decide)).into fun v w3 hv hst3 S3 => ⟨hv, by trivial, hst3, S2.app S3⟩
theorem isVal_all : ((List.range 256).all fun n => api_IsVal.F (n : Int) == (decide (124 ≤ n) && decide (n ≤ 127))) = true := by kernel_rfl
theorem isVal_iff {c : Int} (h0 : 0 ≤ c) (h1 : c ≤ 255) : api_IsVal.F c = true ↔ ¬ (c < 124 ∨ 127 < c) := by
  have q := List.all_eq_true.1 isVal_all c.toNat (List.mem_range.2 (by omega))
  rw [Int.toNat_of_nonneg h0] at q
  have q := eq_of_beq q
  rw [q, Bool.and_eq_true, decide_eq_true_eq, decide_eq_true_eq]
  omega
theorem numR_next (r0 : Res α) (s : ByteArray) (e : Nat) : 0 ≤ numR (r0.bind fun _ p => nextP s e p) ∧ numR (r0.bind fun _ p => nextP s e p) ≤ 255 := by
  cases hz : r0.bind fun _ p => nextP s e p using Res.cs with
  | ok n q =>
    obtain ⟨a, q', _, h2⟩ := bind_ok hz
    exact nextP_rng h2
  | err n x => exact ⟨Int.le_refl 0, show (0 : Int) ≤ 255 by decide⟩
theorem valtypem_spec (h : StR w rb s e lo r0) (he : e ≤ s.size) (hs : s.size ≤ 1024) : MRuns binm_rd_valtype.id #[rp rb] w rb s e lo r0 (fun _ p => valtypeP s e p) (fun r v => v = .int .u8 (numR r)) := by
  refine binm_rd_valtype.enter _ _ _ _ ?_
  unfold binm_rd_valtype.V
  simp only [nilV_some, Nat.zero_add]
  obtain ⟨p0, h1, hp0⟩ := h.c1
  refine ⟨_, h1, ?_⟩
  refine (byte_spec h he hs).into fun v w2 hv hst S2 => ⟨_, hv, ?_⟩
  have hr := numR_next r0 s e
  rw [wrap_u8 (by omega) (by omega)]
  refine RunsQ.post (api_IsVal.pure _ _) ?_
  rintro _ w3 ⟨rfl, rfl⟩
  refine ⟨_, rfl, ?_⟩
  have hi := isVal_iff hr.1 hr.2
  cases r0 using Res.cs with
  | ok a q =>
    rw [Res.bind_ok'] at hst hi ⊢
    rw [Res.bind_ok']
    unfold valtypeP
    cases hz : nextP s e q using Res.cs with
    | ok n q2 =>
      rw [hz] at hst hi
      rw [Res.bind_ok']
      have hi : api_IsVal.F n = true ↔ ¬ (n < 124 ∨ 127 < n) := hi
      by_cases hm : n < 124 ∨ 127 < n
      · refine cond_true' ?_ ?_
        · show (!api_IsVal.F n) = true
          cases hb : api_IsVal.F n with
          | false => rfl
          | true => exact absurd hm (hi.1 hb)
        · rw [if_pos hm, hp0 a q rfl]
          refine (fail_spec (β := Int) hst 9 (q : Int) (by decide)).into fun v w3 hv hst3 S3 => ⟨hv, rfl, hst3, S2.app S3⟩
      · refine cond_false' ?_ ?_
        · show (!api_IsVal.F n) = false
          rw [hi.2 hm]; rfl
        · rw [if_neg hm]
          exact ⟨rfl, hst, S2⟩
    | err n x =>
      rw [hz] at hst
      rw [Res.bind_err']
      refine cond_intro (fun _ => ?_) (fun _ => ⟨rfl, hst, S2⟩)
      refine (fail_spec (β := Int) hst 9 p0 (by decide)).into fun v w3 hv hst3 S3 => ⟨hv, rfl, hst3, S2.app S3⟩
  | err n x =>
    refine cond_intro (fun _ => ?_) (fun _ => ⟨rfl, hst, S2⟩)
    refine (fail_spec (β := Int) hst 9 p0 (by decide)).into fun v w3 hv hst3 S3 => ⟨hv, rfl, hst3, S2.app S3⟩
theorem valtypesL_succ (s : ByteArray) (e k p : Nat) : valtypesL s e (k + 1) p = (valtypeP s e p).bind fun _ q => valtypesL s e k q := rfl
theorem valtypesm_loop (he : e ≤ s.size) (hs : s.size ≤ 1024) {w0 : World} {R Q : Value → World → Prop} {n from_ : Nat} (hn : n ≤ 1000)
    (hR : ∀ t w' (r : Res Unit), t.size ≤ 1000 → (∀ u q, r = .ok u q → t = s.extract from_ q) → r = valtypesL s e n from_ → StR w' rb s e lo r → Same [rb] w0.heap.size w0 w' → R (.string t) w') (hrb : rb < w0.heap.size) :
    ∀ (k i : Nat) (t : ByteArray) (w : World) (r : Res Unit), i + k = n → t.size ≤ i → (∀ u q, r = .ok u q → q = from_ + i ∧ t = s.extract from_ (from_ + i)) → (r.bind fun _ q => valtypesL s e k q) = valtypesL s e n from_ → StR w rb s e lo r → Same [rb] w0.heap.size w0 w →
      binm_rd_valtypes.L1 (some ⟨rb, 0, none⟩) (n : Int) t (i : Int) R Q w := by
  intro k
  induction k with
  | zero =>
    intro i t w r hi ht hr hL hst S0
    refine binm_rd_valtypes.step1 _ _ _ _ _ _ _ ?_
    unfold binm_rd_valtypes.V1
    refine cond_false' (decide_eq_false (by omega)) ?_
    refine binm_rd_valtypes.step3 _ _ _ _ ?_
    unfold binm_rd_valtypes.V3
    have e1 : (r.bind fun _ q => valtypesL s e 0 q) = r := by cases r <;> rfl
    rw [e1] at hL
    exact hR t w r (by omega) (fun u q hq => by rw [(hr u q hq).1]; exact (hr u q hq).2) hL hst S0
  | succ k ih =>
    intro i t w r hi ht hr hL hst S0
    refine binm_rd_valtypes.step1 _ _ _ _ _ _ _ ?_
    unfold binm_rd_valtypes.V1
    refine cond_true' (decide_eq_true (by omega)) ?_
    simp only [nilV_some, Nat.zero_add]
    obtain ⟨x, hx, hx0, hx1⟩ := hst.c3
    refine ⟨_, hx, ?_⟩
    cases r using Res.cs with
    | err n' a =>
      refine cond_false' (by simpa using (hx1 n' a rfl).2) ?_
      refine binm_rd_valtypes.step3 _ _ _ _ ?_
      unfold binm_rd_valtypes.V3
      exact hR t w (.err n' a) (by omega) (fun u q hq => by cases hq) hL hst S0
    | ok u q =>
      refine cond_true' (by simpa using hx0 u q rfl) ?_
      refine binm_rd_valtypes.step2 _ _ _ _ _ _ _ ?_
      unfold binm_rd_valtypes.V2
      refine (valtypem_spec hst he hs).into fun v w2 hv hst2 S2 => ⟨_, hv, letB_intro fun b4 hb => letW_intro fun w5 hw => ?_⟩
      obtain ⟨hc, S5⟩ := run_one _ w2 hb hw
      refine ⟨_, w5, hc, by rw [strOfNums_size]; simp; omega, ?_⟩
      rw [wrap_i64 (by omega) (by omega), show (i : Int) + 1 = ((i + 1 : Nat) : Int) by omega]
      have hrb2 : rb < w2.heap.size := hst2.lt
      have hst5 := hst2.same S5 hrb2 (by simp)
      rw [Res.bind_ok'] at hst5 hL ⊢
      obtain ⟨rfl, rfl⟩ := hr u q rfl
      refine ih (i + 1) _ w5 ((valtypeP s e (from_ + i)).bind fun _ q => .ok () q) (by omega) (by rw [ByteArray.size_append, strOfNums_size]; simp; omega) ?_ ?_ ?_ ?_
      · intro u' q' hq'
        obtain ⟨c, q2, h1, h2⟩ := bind_ok hq'
        (first | (injection h2 with z__; injection z__ with _ h2) | injection h2 with _ h2)
        subst h2
        obtain ⟨c1, c2, c3, c4⟩ := valtypeP_rng h1
        have : from_ + i < e := by
          unfold valtypeP at h1
          obtain ⟨c5, q5, h5, _⟩ := bind_ok h1
          exact (nextP_ok h5).1
        refine ⟨by omega, ?_⟩
        rw [h1]
        show _ ++ strOfNums [c] = _
        rw [c4, ext_one s from_ i (by omega), Nat.add_assoc]
      · rw [Res.bind_bind]; exact hL
      · exact hst5.re (fun a q h => ⟨(), by rw [h]; rfl⟩) (fun n x h => by rw [h]; rfl)
      · exact (S0.app S2).app (S5.mono (Nat.le_refl _) (by intro k hk; simp at hk))
theorem valtypesm_spec (h : StR w rb s e lo r0) (he : e ≤ s.size) (hs : s.size ≤ 1024) (max : Int) (hmax : max ≤ 1000) : MRuns binm_rd_valtypes.id #[rp rb, .int .i64 max] w rb s e lo r0 (fun _ p => valtypesP s e max p) (fun r v => ∃ t, v = .string t ∧ t.size ≤ 1000 ∧ ∀ a q, r = .ok a q → t = a) := by
  refine binm_rd_valtypes.enter _ _ _ _ _ ?_
  unfold binm_rd_valtypes.V
  refine (countm_spec h he hs max).into fun v w2 hv hst S2 => ⟨_, hv, ?_⟩
  have hn := natR_count r0 s e max
  have hrb := h.lt
  have e0 : (r0.bind fun _ p => valtypesP s e max p) = (r0.bind fun _ p => countP s e max p).bind fun n q => (valtypesL s e n q).bind fun _ q2 => .ok (s.extract q q2) q2 := by rw [Res.bind_bind]; rfl
  rw [e0]
  generalize r0.bind (fun _ p => countP s e max p) = r1 at *
  cases r1 using Res.cs with
  | ok n q =>
    have hn : n ≤ 1000 := by have : natR (Res.ok n q) = n := rfl; rw [this] at hn; omega
    rw [Res.bind_ok']
    refine valtypesm_loop (lo := lo) he hs (n := n) (from_ := q) hn (w0 := w) (fun t w' r ht1 ht hr hst' S' => ?_) hrb n 0 eB w2 (.ok () q) (by omega) (by decide) (fun u q' hq => by (first | (injection hq with z__; injection z__ with _ hq) | injection hq with _ hq); subst hq; exact ⟨rfl, by rw [Nat.add_zero, ByteArray.extract_same]; rfl⟩) rfl hst S2
    rw [← hr]
    refine ⟨⟨t, rfl, ht1, ?_⟩, ?_, S'⟩
    · intro a q2 hq2
      obtain ⟨u, q3, h1, h2⟩ := bind_ok hq2
      (first | (injection h2 with z__; injection z__ with h2 h3) | injection h2 with h2 h3)
      rw [ht u q3 h1, h2]
    · exact hst'.re (fun a q h => ⟨_, by rw [h]; rfl⟩) (fun n x h => by rw [h]; rfl)
  | err n x =>
    rw [Res.bind_err']
    refine binm_rd_valtypes.step1 _ _ _ _ _ _ _ ?_
    unfold binm_rd_valtypes.V1
    refine cond_false' (decide_eq_false (by show ¬ (0 : Int) < ((0 : Nat) : Int); decide)) ?_
    refine binm_rd_valtypes.step3 _ _ _ _ ?_
    unfold binm_rd_valtypes.V3
    exact ⟨⟨eB, rfl, by decide, fun a q h => by cases h⟩, hst, S2⟩
end
end Go.Proofs.Qxb6500316a
