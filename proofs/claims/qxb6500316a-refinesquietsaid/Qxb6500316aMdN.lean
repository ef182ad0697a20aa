/-
  The model's code section.
-/
import Derived.Test.Qxb6500316aMdM
set_option linter.unusedSimpArgs false
set_option linter.unusedVariables false
set_option maxRecDepth 100000
set_option linter.unusedSectionVars false
namespace Go.Proofs.Qxb6500316a
open Go Go.Vc

structure FnR where
  ty : Int
  ls : ByteArray
  bd : Value
  tb : Value
abbrev fnE : FnR → List Value := fun x => [.int .i64 x.ty, .string x.ls, x.bd, x.tb]
/-- The rows that functions bear. -/
def NF (w : World) (B : Nat) (fr : Nat → FnR) (F : Nat → FnP) (i : Nat) : Prop :=
  ∀ j, j < i → (fr j).ty = (F j).ty ∧ (fr j).ls = strOfNums (F j).ls ∧ (∃ a c, (fr j).bd = .slice a (F j).nI c ∧ w.ownsRow B T_api_Ins 3 (.slice a (F j).nI c) (F j).nI (rowV insC (F j).ins (F j).nI)) ∧ ∃ a c, (fr j).tb = .slice a (F j).nTab c ∧ w.ownsRow B T_uint32 1 (.slice a (F j).nTab c) (F j).nTab (rowV u32E (F j).tabs (F j).nTab)
theorem NF.same {w w' : World} {B : Nat} {fr : Nat → FnR} {f : Nat → FnP} {i : Nat} (h : NF w B fr f i) {S : List Nat} (hs : Same S w.heap.size w w') (hS : ∀ d, d ∈ S → d < B ∨ ∃ sz v n xs b, w.ownsRow b T_api_Func sz v n xs ∧ v.ownBlock = some d) : NF w' B fr f i := fun j hj => by
  obtain ⟨h1, h2, ⟨a, c, h3, h4⟩, a', c', h5, h6⟩ := h j hj
  refine ⟨h1, h2, ⟨a, c, h3, row_same h4 hs (fun d hd => ⟨(h4.lt d hd).2, fun hm => ?_⟩)⟩, a', c', h5, row_same h6 hs (fun d hd => ⟨(h6.lt d hd).2, fun hm => ?_⟩)⟩
  · rcases hS d hm with q | ⟨sz, v, n, xs, b, q1, q3⟩
    · have := (h4.lt d hd).1; omega
    · exact (ne_obk q1 h4 (by decide) d hd).2 (mem_obk.2 q3)
  · rcases hS d hm with q | ⟨sz, v, n, xs, b, q1, q3⟩
    · have := (h6.lt d hd).1; omega
    · exact (ne_obk q1 h6 (by decide) d hd).2 (mem_obk.2 q3)

def codeRow (s : ByteArray) (e : Nat) (c : Sc) (i p : Nat) : Res (Sc × FnP) := (enterP s e p).bind fun n q => (localsP s (q + n) q).bind fun ls q1 => (bodyP s (q + n) c q1).bind fun c' q2 =>
  if q2 = q + n then .ok (c', ⟨c.types i, ls, c'.nI, c'.ins, c'.nTab, c'.tabs⟩) q2 else .err 6 q
theorem codesL_row (s : ByteArray) (e k i : Nat) (c : Sc) (F : Nat → FnP) (p : Nat) : codesL s e (k + 1) i c F p = (codeRow s e c i p).bind fun x q => codesL s e k (i + 1) x.1 (upd F i x.2) q := by
  show (enterP s e p).bind (fun n q => (localsP s (q + n) q).bind fun ls q1 => (bodyP s (q + n) c q1).bind fun c' q2 => if q2 = q + n then codesL s e k (i + 1) c' (upd F i ⟨c.types i, ls, c'.nI, c'.ins, c'.nTab, c'.tabs⟩) q2 else .err 6 q) = _
  unfold codeRow
  cases enterP s e p using Res.cs with
  | err n x => rfl
  | ok n q =>
    simp only [Res.bind_ok']
    cases localsP s (q + n) q using Res.cs with
    | err n x => rfl
    | ok ls q1 =>
      simp only [Res.bind_ok']
      cases bodyP s (q + n) c q1 using Res.cs with
      | err n x => rfl
      | ok c' q2 =>
        simp only [Res.bind_ok']
        split <;> rfl

section
variable {w0 w : World} {rb mb e lo : Nat} {s : ByteArray}
theorem localsS_succ (s : ByteArray) (e k : Nat) (r : Res (List Int)) : (r.bind fun acc q => localsL s e (k + 1) acc q) = (r.bind fun acc q => (countP s e (6 - (acc.length : Int)) q).bind fun n q => (valtypeP s e q).bind fun t q2 => .ok (acc ++ List.replicate n t) q2).bind fun acc q => localsL s e k acc q := by
  cases r using Res.cs with
  | err n x => rfl
  | ok acc q =>
    show (countP s e (6 - (acc.length : Int)) q).bind (fun n q => (valtypeP s e q).bind fun t q2 => localsL s e k (acc ++ List.replicate n t) q2) = _
    simp only [Res.bind_ok', Res.bind_bind]
theorem rep_succ (acc : List Int) (j : Nat) (t : Int) : acc ++ List.replicate (j + 1) t = (acc ++ List.replicate j t) ++ [t] := by
  rw [List.append_assoc, ← List.replicate_succ']

/-- A group's locals are laid. -/
theorem group_mloop {B fb : Nat} {ty : Int} {c : Sc} {wA : World} {ta : Option Addr} {tl tc : Nat} {n7 o8 i9 f11 g13 g14 : Int} (hfb : wA.heap.size ≤ fb) (hrb : rb < wA.heap.size) {R Q : Value → World → Prop} {acc : List Int} {t : Int} {k : Nat} (hk : acc.length + k ≤ 6) {q : Nat}
    (hR : ∀ w, RdL w rb s q e → FM w B fb ty (strOfNums (acc ++ List.replicate k t)) c → Same [rb] wA.heap.size wA w → B ≤ w.heap.size → binm_rd_codes.L12 (some ⟨rb, 0, none⟩) (some ⟨mb, 0, none⟩) ta tl tc n7 o8 i9 f11 fb g13 g14 R Q w) :
    ∀ (m j : Nat) (w : World), j + m = k → RdL w rb s q e → FM w B fb ty (strOfNums (acc ++ List.replicate j t)) c → Same [rb] wA.heap.size wA w → B ≤ w.heap.size →
      binm_rd_codes.L9 (some ⟨rb, 0, none⟩) (some ⟨mb, 0, none⟩) ta tl tc n7 o8 i9 f11 fb g13 g14 (k : Int) t (j : Int) R Q w := by
  intro m
  induction m with
  | zero =>
    intro j w hj hL hF S0 hB
    obtain rfl : j = k := by omega
    refine binm_rd_codes.step9 _ _ _ _ _ _ _ _ _ _ _ _ _ _ _ _ _ _ ?_
    unfold binm_rd_codes.V9
    exact cond_false' (decide_eq_false (by omega)) (hR w hL hF S0 hB)
  | succ m ih =>
    intro j w hj hL hF S0 hB
    refine binm_rd_codes.step9 _ _ _ _ _ _ _ _ _ _ _ _ _ _ _ _ _ _ ?_
    unfold binm_rd_codes.V9
    simp only [nilV_some, Nat.zero_add]
    refine cond_true' (decide_eq_true (by omega)) ⟨_, hL.c3, cond_true' rfl ?_⟩
    refine binm_rd_codes.step11 _ _ _ _ _ _ _ _ _ _ _ _ _ _ _ _ _ _ ?_
    unfold binm_rd_codes.V11
    refine ⟨_, hF.c1, letB_intro fun b hb => letW_intro fun w3 hw => ?_⟩
    obtain ⟨hc, S3⟩ := run_one t w hb hw
    have F3 := hF.same S3 (by simp)
    have z3 := S3.size
    refine ⟨_, w3, hc, ?_, ⟨⟨_, F3.c1⟩, F3.fz 1⟩, letW_intro fun w6 hw6 => ?_⟩
    · rw [strOfNums_size, strOfNums_size]; simp; omega
    rw [wrap_i64 (by omega) (by omega), show (j : Int) + 1 = ((j + 1 : Nat) : Int) by omega]
    have F6 := F3.setLs (strOfNums (acc ++ List.replicate j t) ++ strOfNums [t])
    rw [← hw6, nums_app, ← rep_succ] at F6
    have S6 : Same [fb] w3.heap.size w3 w6 := by rw [hw6]; exact same_set 1 _
    have z6 := S6.size
    have hAw := S0.size
    exact ih (j + 1) w6 (by omega) ((hL.same S3 hL.lt (by simp)).same S6 (by have := hL.lt; omega) (by simp; omega)) F6 ((S0.trans (S3.mono hAw (by simp))).trans (S6.mono (by omega) (by intro d hd hlt; simp at hd; omega))) (by omega)

/-- The groups of locals. -/
theorem groups_mloop (he : e ≤ s.size) (hs : s.size ≤ 1024) {B fb : Nat} {ty : Int} {c : Sc} {wA : World} {ta : Option Addr} {tl tc : Nat} {n7 o8 i9 f11 : Int} (hfb : wA.heap.size ≤ fb) (hrb : rb < wA.heap.size) {R Q : Value → World → Prop} {gs : Nat} (hgs : gs ≤ 6) {fin : Res (List Int)}
    (hR : ∀ w (r : Res (List Int)) ls, r = fin → StR w rb s e lo r → FM w B fb ty ls c → (∀ l q, r = .ok l q → ls = strOfNums l) → Same [rb] wA.heap.size wA w → B ≤ w.heap.size → binm_rd_codes.L8 (some ⟨rb, 0, none⟩) (some ⟨mb, 0, none⟩) ta tl tc n7 o8 i9 f11 fb R Q w) :
    ∀ (m g : Nat) (r : Res (List Int)) (acc : List Int) (w : World), g + m = gs → acc.length ≤ 6 → StR w rb s e lo r → FM w B fb ty (strOfNums acc) c → (∀ l q, r = .ok l q → acc = l) → (r.bind fun acc q => localsL s e m acc q) = fin → Same [rb] wA.heap.size wA w → B ≤ w.heap.size →
      binm_rd_codes.L6 (some ⟨rb, 0, none⟩) (some ⟨mb, 0, none⟩) ta tl tc n7 o8 i9 f11 fb (gs : Int) (g : Int) R Q w := by
  intro m
  induction m with
  | zero =>
    intro g r acc w hg ha hst hF hac hfin S0 hB
    refine binm_rd_codes.step6 _ _ _ _ _ _ _ _ _ _ _ _ _ _ _ ?_
    unfold binm_rd_codes.V6
    have e1 : (r.bind fun acc q => localsL s e 0 acc q) = r := by cases r <;> rfl
    exact cond_false' (decide_eq_false (by omega)) (hR w r _ (by rw [← hfin, e1]) hst hF (fun l q h => by rw [hac l q h]) S0 hB)
  | succ m ih =>
    intro g r acc w hg ha hst hF hac hfin S0 hB
    refine binm_rd_codes.step6 _ _ _ _ _ _ _ _ _ _ _ _ _ _ _ ?_
    unfold binm_rd_codes.V6
    simp only [nilV_some, Nat.zero_add]
    refine cond_true' (decide_eq_true (by omega)) ?_
    obtain ⟨y, hy, hy0, hy1⟩ := hst.c3
    refine ⟨_, hy, ?_⟩
    cases r using Res.cs with
    | err n' a' =>
      refine cond_false' (by simpa using (hy1 n' a' rfl).2) ?_
      exact hR w (.err n' a') _ hfin hst hF (fun l q h => by cases h) S0 hB
    | ok l q =>
      have hll := hac l q rfl
      subst hll
      refine cond_true' (by simpa using hy0 acc q rfl) ?_
      refine binm_rd_codes.step7 _ _ _ _ _ _ _ _ _ _ _ _ _ _ _ ?_
      unfold binm_rd_codes.V7
      refine ⟨_, hF.c1, ?_⟩
      rw [strOfNums_size, wrap_i64 (by omega) (by omega)]
      have hfl := hF.lt
      have rbS : ∀ d, d ∈ [rb] → d < B ∧ d ≠ fb := fun d hd => by simp at hd; subst hd; exact ⟨by omega, by omega⟩
      refine (countm_spec hst he hs _).into fun v w3 hv3 hst3 S3 => ⟨_, hv3, ?_⟩
      refine (valtypem_spec hst3 he hs).into fun v w6 hv6 hst6 S6 => ⟨_, hv6, ?_⟩
      have F6 := (hF.same S3 rbS).same S6 rbS
      have S06 := (S0.trans (S3.mono S0.size (by simp))).trans (S6.mono (by have := S0.size; have := S3.size; omega) (by simp))
      have hB6 : B ≤ w6.heap.size := by have := S3.size; have := S6.size; omega
      rw [localsS_succ] at hfin
      have L12 : ∀ w (r : Res (List Int)) acc', r = ((Res.ok acc q).bind fun acc q => (countP s e (6 - (acc.length : Int)) q).bind fun n q => (valtypeP s e q).bind fun t q2 => .ok (acc ++ List.replicate n t) q2) → acc'.length ≤ 6 → StR w rb s e lo r → FM w B fb ty (strOfNums acc') c → (∀ l q, r = .ok l q → acc' = l) → Same [rb] wA.heap.size wA w → B ≤ w.heap.size →
          binm_rd_codes.L12 (some ⟨rb, 0, none⟩) (some ⟨mb, 0, none⟩) ta tl tc n7 o8 i9 f11 fb (gs : Int) (g : Int) R Q w := fun w r acc' hr ha' hst' hF' hac' S' hB' => by
        refine binm_rd_codes.step12 _ _ _ _ _ _ _ _ _ _ _ _ _ _ _ ?_
        unfold binm_rd_codes.V12
        rw [wrap_i64 (by omega) (by omega), show (g : Int) + 1 = ((g + 1 : Nat) : Int) by omega]
        exact ih (g + 1) r acc' w (by omega) ha' hst' hF' hac' (by rw [hr]; exact hfin) S' hB'
      rw [Res.bind_ok'] at hst3 hst6 hv3 hv6 ⊢
      cases hz : (countP s e (6 - (acc.length : Int)) q).bind fun _ p => valtypeP s e p using Res.cs with
      | err n x =>
        rw [hz] at hst6
        have hX : RdX w6 rb s n x := hst6
        have K := L12 w6 (.err n x) acc (by
          rw [Res.bind_ok']
          cases h1 : countP s e (6 - (acc.length : Int)) q using Res.cs with
          | err n' x' =>
            rw [h1] at hz
            have hz : (Res.err n' x' : Res Int) = .err n x := hz
            (first | (injection hz with z__; injection z__ with z1 z2) | injection hz with z1 z2)
            subst z1 z2
            rfl
          | ok k q3 =>
            rw [h1] at hz
            have hz : valtypeP s e q3 = .err n x := hz
            rw [Res.bind_ok', hz]; rfl) ha hX F6 (fun l q h => by cases h) S06 hB6
        refine binm_rd_codes.step9 _ _ _ _ _ _ _ _ _ _ _ _ _ _ _ _ _ _ ?_
        unfold binm_rd_codes.V9
        simp only [nilV_some, Nat.zero_add]
        exact cond_intro (fun _ => ⟨_, hX.c3, cond_false' (by simpa using hX.n0) K⟩) (fun _ => K)
      | ok t q2 =>
        rw [hz] at hst6
        obtain ⟨k, q3, h1, h2⟩ := bind_ok hz
        have hk := countP_le h1
        rw [h1, show natR (Res.ok k q3) = k from rfl, show numR (Res.ok t q2) = t from rfl]
        refine group_mloop (e := e) (q := q2) (acc := acc) (k := k) (t := t) hfb hrb (by omega) (fun w hL hF' S' hB' => L12 w (.ok (acc ++ List.replicate k t) q2) _ (by rw [Res.bind_ok', h1, Res.bind_ok', h2]; rfl) (by simp; omega) ⟨hst6.1, hst6.2.1, hL⟩ hF' (fun l q h => by (first | (injection h with z__; injection z__) | injection h)) S' hB') k 0 w6 (by omega) hst6.2.2 (by simpa using F6) S06 hB6
end
end Go.Proofs.Qxb6500316a
