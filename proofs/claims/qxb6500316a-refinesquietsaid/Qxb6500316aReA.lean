/-
  What one step owes, and the two sides between steps.
-/
import Derived.Test.Qxb6500316aEmF
import Derived.Test.Qxb6500316aIdA
import Derived.Test.Qxb6500316aHmA
import Derived.Test.Qxb6500316aSv
import Derived.Test.Qxb6500316aEnJ
set_option linter.unusedSimpArgs false
set_option linter.unusedVariables false
set_option maxRecDepth 100000
set_option linter.unusedSectionVars false
namespace Go.Proofs.Qxb6500316a
open Go Go.Vc

/-! ### 32-bit constants -/
theorem Pln.y32 {i : Ins} (h : Pln i) : Y32 i := fun e => by
  rcases h with ⟨h, _⟩ | ⟨h, _⟩ | ⟨h, _⟩ | ⟨h, _⟩ | h | ⟨h, _, h2⟩
  · omega
  · omega
  · omega
  · omega
  · exact h.y1 (.inl e)
  · omega
theorem wfGo_y {ins : Nat → Ins} {nI nTab : Nat} : ∀ (k i d : Nat) (may : Nat → Bool) (u : Nat), wfGo ins nI nTab k i d may u → ∀ j, i ≤ j → j < nI → Y32 (ins j)
  | 0, _, _, _, _, h, _, _, _ => by cases h
  | k + 1, i, d, may, u, h, j, hj, hn => by
    rw [wfGo_succ] at h
    by_cases h14 : (ins i).op = 14
    · rw [if_pos h14] at h
      by_cases e : j = i
      · subst e; intro q; omega
      · exact wfGo_y k (i + 1) _ _ _ h.2.2.2 j (by omega) hn
    · rw [if_neg h14] at h
      obtain ⟨hp, h⟩ := h
      by_cases e : j = i
      · subst e; exact hp.y32
      by_cases h2 : (ins i).op = 2 ∨ (ins i).op = 3 ∨ (ins i).op = 4
      · rw [if_pos h2] at h; exact wfGo_y k (i + 1) _ _ _ h.2 j (by omega) hn
      rw [if_neg h2] at h
      by_cases h5 : (ins i).op = 5
      · rw [if_pos h5] at h; exact wfGo_y k (i + 1) _ _ _ h.2.2 j (by omega) hn
      rw [if_neg h5] at h
      by_cases h11 : (ins i).op = 11
      · rw [if_pos h11] at h
        by_cases hd : d = 0
        · rw [if_pos hd] at h; omega
        · rw [if_neg hd] at h; exact wfGo_y k (i + 1) _ _ _ h j (by omega) hn
      · rw [if_neg h11] at h; exact wfGo_y k (i + 1) _ _ _ h j (by omega) hn
theorem Kon.y32 {i : Ins} (h : Kon i) : Y32 i := fun e => h.y1 (.inl e)
theorem WFP.yb {P : PM} (h : WFP P) : YB P :=
  ⟨fun j hj k hk => wfGo_y _ _ _ _ _ (h.fn j hj).go k (by omega) hk, fun j hj => (h.g j hj).2.y32, fun j hj => (h.el j hj).y32, fun j hj => (h.da j hj).1.y32⟩
/-- A module that was decoded. -/
structure Gd (P : PM) : Prop where
  pb : PB P
  yb : YB P
theorem gd_of {s : ByteArray} {c : Sc} {x : Sc × PM} {q : Nat} (h : decA s c = .ok x q) : Gd x.2 := ⟨decA_pb h, (decA_wf h).yb⟩

/-! ### Check -/
theorem Room.full {w : World} {v : Value} {g : Option Nat} (h : Room w v g) : ∃ a n, v = .slice a n n := by
  rcases h with ⟨h, _⟩ | ⟨k, cap, cur, h, _⟩
  · exact ⟨_, _, h⟩
  · exact ⟨_, _, h⟩
theorem BCheck_spec {I : OutOf} {w : World} {b bi bt : Nat} {c : Sc} {go gs gf : Option Nat} (h : BL I w b bi bt c go gs gf) : Runs Try.prog bin_Bin_Check.id #[rp b] w fun v w' => v = .bool true ∧ Same [] w.heap.size w w' := by
  obtain ⟨a0, n0, e0⟩ := h.o.full
  obtain ⟨a1, n1, e1⟩ := h.s.full
  obtain ⟨a2, n2, e2⟩ := h.f.full
  have p := h.ba
  have m1 := @BinAt.mT I _ _ _ _ _ p; have m2 := @BinAt.mO I _ _ _ _ _ p; have m3 := @BinAt.mI I _ _ _ _ _ p; have m4 := @BinAt.mB I _ _ _ _ _ p
  have k20 := @BinAt.c20 I _ _ _ _ _ p; have k21 := @BinAt.c21 I _ _ _ _ _ p; have k22 := @BinAt.c22 I _ _ _ _ _ p
  rw [e0] at k20; rw [e1] at k21; rw [e2] at k22
  refine bin_Bin_Check.enter _ _ _ _ ?_
  unfold bin_Bin_Check.V
  simp only [nilV_some, Nat.zero_add]
  refine ⟨_, @BinAt.c8 I _ _ _ _ _ p, cond_false' (decide_eq_false (by omega)) ⟨_, @BinAt.c8 I _ _ _ _ _ p, cond_false' (decide_eq_false (by omega)) ?_⟩⟩
  refine bin_Bin_Check.step1 _ _ _ _ ?_
  unfold bin_Bin_Check.V1
  simp only [nilV_some, Nat.zero_add]
  refine ⟨_, @BinAt.c15 I _ _ _ _ _ p, cond_false' (decide_eq_false (by omega)) ⟨_, @BinAt.c15 I _ _ _ _ _ p, cond_false' (decide_eq_false (by omega)) ?_⟩⟩
  refine bin_Bin_Check.step2 _ _ _ _ ?_
  unfold bin_Bin_Check.V2
  simp only [nilV_some, Nat.zero_add]
  refine ⟨_, _, _, @BinAt.c16 I _ _ _ _ _ p, cond_false' rfl ⟨_, @BinAt.c17 I _ _ _ _ _ p, cond_false' (decide_eq_false (by omega)) ⟨_, @BinAt.c17 I _ _ _ _ _ p, cond_false' (decide_eq_false (by omega)) ?_⟩⟩⟩
  refine bin_Bin_Check.step3 _ _ _ _ ?_
  unfold bin_Bin_Check.V3
  simp only [nilV_some, Nat.zero_add]
  refine ⟨_, _, _, @BinAt.c18 I _ _ _ _ _ p, cond_false' rfl ⟨_, @BinAt.c19 I _ _ _ _ _ p, cond_false' (decide_eq_false (by omega)) ⟨_, @BinAt.c19 I _ _ _ _ _ p, cond_false' (decide_eq_false (by omega)) ?_⟩⟩⟩
  refine bin_Bin_Check.step4 _ _ _ _ ?_
  unfold bin_Bin_Check.V4
  simp only [nilV_some, Nat.zero_add, true_and, and_true]
  have T : Same [] w.heap.size w w.drew := (Same.refl _ _ _).drew
  refine ⟨_, _, _, k20, _, _, _, k20, cond_true' (beq_self_eq_true _) ⟨_, _, _, k21, _, _, _, k21, cond_true' (beq_self_eq_true _) ⟨_, _, _, k22, _, _, _, k22, ?_⟩⟩⟩
  exact ⟨by rw [beq_self_eq_true], T⟩

/-! ### A module that is another's equal -/
section
variable {w : World} {lo : Nat} {m : Nat → Value} {P Q : PM}
theorem SlF.eqv [OutOf] {α : Type} {enc : α → List Value} {sz : Nat} {v : Value} {n n' : Nat} {f g : Nat → α} (h : SlF enc sz w lo v n f) (hn : n' = n) (hg : ∀ j, j < n → g j = f j) : SlF enc sz w lo v n' g := by
  subst hn
  rcases h with h | ⟨h0, b, h1, h2, h3, h4⟩
  · exact .inl h
  · exact .inr ⟨h0, b, h1, ⟨fun j hj k u hk => h2.c j hj k u (by rw [← hg j hj]; exact hk), h2.f⟩, h3, h4⟩
theorem MInv.eqv [OutOf] (h : MInv w lo m P) (E : PEq P Q) : MInv w lo m Q := by
  refine ⟨h.t0.eqv E.nTy E.ty, h.i1.eqv E.nIm E.im, ?_, by rw [E.t0]; exact h.v3, by rw [E.t1]; exact h.v4, by rw [E.m0]; exact h.v5, by rw [E.m1]; exact h.v6, h.g7.eqv E.gn E.g, h.e8.eqv E.nEx E.ex, by rw [E.start]; exact h.s9, ?_, h.d11.eqv E.nD E.da⟩
  · rw [E.nf]
    rcases h.f2 with h | ⟨h0, b, h1, h2, h3, h4⟩
    · exact .inl h
    · refine .inr ⟨h0, b, h1, ⟨h2.c, h2.f, fun j hj => by rw [(E.fn j hj).ty]; exact h2.c0 j hj, fun j hj => by rw [(E.fn j hj).ls]; exact h2.c1 j hj, fun j hj => ?_, fun j hj => ?_, h2.c4⟩, h3, h4⟩
      · obtain ⟨nb, a1, a2, a3⟩ := h2.c2 j hj
        have q := E.fn j hj
        refine ⟨nb, by rw [q.nI]; exact a1, ?_, a3⟩
        rw [q.nI]
        exact ⟨fun k hk => by rw [q.ins k hk]; exact a2.i0 k hk, fun k hk => by rw [q.ins k hk]; exact a2.i1 k hk, fun k hk => by rw [q.ins k hk]; exact a2.i2 k hk, a2.fz⟩
      · have q := E.fn j hj
        rw [q.nT]
        rcases h2.c3 j hj with a | ⟨a0, tk, a1, a2, a3⟩
        · exact .inl a
        · exact .inr ⟨a0, tk, a1, ⟨fun k hk => by rw [q.tabs k hk]; exact a2.1 k hk, a2.2⟩, a3⟩
  · rw [E.nEl]
    rcases h.l10 with h | ⟨h0, b, h1, ⟨fr, h2, h2'⟩, h3, h4⟩
    · exact .inl h
    · refine .inr ⟨h0, b, h1, ⟨fr, h2, fun j hj => ?_⟩, h3, h4⟩
      obtain ⟨a1, a2, a3⟩ := h2' j hj
      obtain ⟨q1, q2, q3⟩ := E.el j hj
      exact ⟨by rw [q1]; exact a1, a2.eqv q2 q3, a3⟩
theorem HM.eqv {wd : World} {L mb : Nat} (h : HM wd w L mb m P) (E : PEq P Q) : HM wd w L mb m Q := by
  haveI := outNil
  exact ⟨h.md, h.inv.eqv E, h.lm, h.st⟩
end

/-! ### The registers -/
def shO : Option PM → ByteArray
  | none => ⟨#[45]⟩
  | some P => showP P
def enO : Option PM → ByteArray
  | none => ⟨#[]⟩
  | some P => strOfNums (encP P)
/-- The real side's register: a module, or nothing; T are the blocks that may yet be written. -/
def RgR (w : World) (T : Nat → Prop) (v : Option Addr) (o : Option PM) : Prop := (v = none ∧ o = none) ∨ ∃ wd L mb m P, v = some ⟨mb, 0, none⟩ ∧ o = some P ∧ HM wd w L mb m P ∧ (∀ k, T k → k ≤ L ∨ wd.heap.size ≤ k) ∧ Gd P
def RgM (w : World) (T : Nat → Prop) (v : Option Addr) (o : Option PM) : Prop := (v = none ∧ o = none) ∨ ∃ wd B mb P, v = some ⟨mb, 0, none⟩ ∧ o = some P ∧ MG wd B mb P ∧ Same (List.range mb) wd.heap.size wd w ∧ (∀ k, T k → k < mb ∨ wd.heap.size ≤ k) ∧ Gd P
section
variable {w w' : World} {T T' : Nat → Prop} {v : Option Addr} {o : Option PM} {S : List Nat}
theorem RgR.same (h : RgR w T v o) (hS : Same S w.heap.size w w') (hs : ∀ k, k ∈ S → T k) : RgR w' T v o := by
  rcases h with h | ⟨wd, L, mb, m, P, h1, h2, h3, h4, h5⟩
  · exact .inl h
  · exact .inr ⟨wd, L, mb, m, P, h1, h2, h3.same hS h3.size (fun k hk => h4 k (hs k hk)), h4, h5⟩
theorem RgR.more (h : RgR w T v o) (hT : ∀ k, T' k → T k ∨ w.heap.size ≤ k) : RgR w T' v o := by
  rcases h with h | ⟨wd, L, mb, m, P, h1, h2, h3, h4, h5⟩
  · exact .inl h
  · refine .inr ⟨wd, L, mb, m, P, h1, h2, h3, fun k hk => ?_, h5⟩
    have := h3.size
    rcases hT k hk with g | g
    · exact h4 k g
    · exact .inr (by omega)
theorem RgM.same (h : RgM w T v o) (hS : Same S w.heap.size w w') (hs : ∀ k, k ∈ S → T k) : RgM w' T v o := by
  rcases h with h | ⟨wd, B, mb, P, h1, h2, h3, st, h4, h5⟩
  · exact .inl h
  · exact .inr ⟨wd, B, mb, P, h1, h2, h3, st.trans (hS.mono st.size (fun k hk hl => by rw [List.mem_range]; have := h4 k (hs k hk); omega)), h4, h5⟩
theorem RgM.more (h : RgM w T v o) (hT : ∀ k, T' k → T k ∨ w.heap.size ≤ k) : RgM w T' v o := by
  rcases h with h | ⟨wd, B, mb, P, h1, h2, h3, st, h4, h5⟩
  · exact .inl h
  · refine .inr ⟨wd, B, mb, P, h1, h2, h3, st, fun k hk => ?_, h5⟩
    have := st.size
    rcases hT k hk with g | g
    · exact h4 k g
    · exact .inr (by omega)
theorem show_nil (w : World) : Runs Try.prog api_Module_Show.id #[.pointer none] w fun v w' => v = .string ⟨#[45]⟩ ∧ Same [] w.heap.size w w' := by
  refine api_Module_Show.enter _ _ _ _ ?_
  unfold api_Module_Show.V
  exact cond_true' rfl ⟨rfl, Same.refl _ _ _⟩
theorem RgR.show (h : RgR w T v o) : Runs Try.prog api_Module_Show.id #[.pointer v] w fun v w' => v = .string (shO o) ∧ Same [] w.heap.size w w' := by
  rcases h with ⟨rfl, rfl⟩ | ⟨wd, L, mb, m, P, rfl, rfl, h3, h4, h5⟩
  · exact show_nil w
  · exact Show_spec (h3.sx h5.pb.sb)
theorem RgM.mg {wd : World} {B mb : Nat} {P : PM} (h : MG wd B mb P) (st : Same (List.range mb) wd.heap.size wd w) : MG w B mb P := h.same st (fun d hd => by rw [List.mem_range] at hd; have := h.lt; omega)
theorem RgM.show (h : RgM w T v o) : Runs Try.prog api_Module_Show.id #[.pointer v] w fun v w' => v = .string (shO o) ∧ Same [] w.heap.size w w' := by
  rcases h with ⟨rfl, rfl⟩ | ⟨wd, B, mb, P, rfl, rfl, h3, st, h4, h5⟩
  · exact show_nil w
  · obtain ⟨m, x⟩ := (RgM.mg h3 st).gx h5.pb.sb
    exact GShow_spec x
theorem RgM.enc (h : RgM w T v o) (mp : Option Addr) : Runs Try.prog binm_Bin_Encode.id #[.pointer mp, .pointer v] w fun v w' => v = .string (enO o) ∧ Same [] w.heap.size w w' := by
  rcases h with ⟨rfl, rfl⟩ | ⟨wd, B, mb, P, rfl, rfl, h3, st, h4, h5⟩
  · refine RunsQ.post (Encodem_nil w mp) ?_
    rintro v w1 ⟨rfl, rfl⟩
    exact ⟨rfl, Same.refl _ _ _⟩
  · exact Encodem_spec (RgM.mg h3 st) h5.pb.sb h5.pb h5.yb mp
theorem RgR.enc {I : OutOf} {b bi bt : Nat} {c : Sc} {go gs gf : Option Nat} (hB : BL I w b bi bt c go gs gf) (h : RgR w T v o) (hT : ∀ k, k ∈ bufs go gs gf → T k) : Runs Try.prog bin_Bin_Encode.id #[rp b, .pointer v] w fun v w' => v = .string (enO o) ∧ ∃ I' go' gs' gf', BL I' w' b bi bt c go' gs' gf' ∧ Same (b :: bufs go gs gf) w.heap.size w w' ∧ ∀ k, k ∈ bufs go' gs' gf' → k ∈ bufs go gs gf ∨ w.heap.size ≤ k := by
  rcases h with ⟨rfl, rfl⟩ | ⟨wd, L, mb, m, P, rfl, rfl, h3, h4, h5⟩
  · refine bin_Bin_Encode.enter _ _ _ _ _ ?_
    unfold bin_Bin_Encode.V
    exact cond_true' rfl ⟨rfl, I, go, gs, gf, hB, Same.refl _ _ _, fun k hk => .inl hk⟩
  · exact Encode_spec hB ⟨h3.inv, h3.md, h3.lm, h3.st, fun k hk => h4 k (hT k hk)⟩ h5.pb
end
end Go.Proofs.Qxb6500316a
