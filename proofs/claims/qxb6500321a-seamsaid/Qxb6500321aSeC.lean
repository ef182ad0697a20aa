/-
  What the validator takes, the compiler takes: dead code, a body, a module.
-/
import Derived.Test.Qxb6500321aSeB
set_option linter.unusedSimpArgs false
set_option linter.unusedVariables false
set_option maxRecDepth 100000
set_option linter.unusedSectionVars false
namespace Go.Proofs.Qxb6500321a
open Go Go.Vc

section
variable {P : PM} {ps : ByteArray} {fn : FnP} {S : SS} {o : List Int} {f : Fr} {r : List Fr} {x : Ins} {pc : Int}
theorem give_k {g : Int} {k : List Fr} {o' : List Int} {k' : List Fr} (h : giveV pc g o k = .next o' k') : k' = k := by
  unfold giveV at h
  split at h
  · cases h; rfl
  · split at h
    · cases h; rfl
    · cases h
/-- A step that is no mark leaves the blocks, or kills the innermost. -/
theorem next_k (hn : ¬ (x.op = 2 ∨ x.op = 3 ∨ x.op = 4)) (h5 : ¬ x.op = 5) (h11 : ¬ x.op = 11) {o' : List Int} {k' : List Fr} (h : stepV P ps fn x pc o f r = .next o' k') : k' = f :: r ∨ k' = f.kill :: r := by
  unfold stepV at h
  split at h
  · cases h; exact .inl rfl
  split at h
  · cases h; exact .inr rfl
  first
    | rw [if_neg hn, if_neg h5, if_neg h11] at h
    | skip
  split at h
  · unfold brV at h
    split at h
    · cases h
    · split at h
      · cases h; exact .inr rfl
      · cases h
  split at h
  · unfold brifV at h
    split at h
    · split at h
      · cases h
      · split at h
        · exact .inl (give_k h)
        · cases h
    · cases h
  split at h
  · unfold tabV at h
    split at h
    · split at h
      · cases h
      · split at h
        · cases h
        · split at h
          · cases h; exact .inr rfl
          · cases h
    · cases h
  split at h
  · unfold retV at h
    split at h
    · cases h; exact .inr rfl
    · cases h
  · unfold plnV at h
    split at h
    · exact .inl (give_k h)
    · cases h
theorem give_e {g : Int} {k : List Fr} {p : Int} {o' : List Int} {k' : List Fr} (h : giveV pc g o k = .done p 0 o' k') : False := by
  unfold giveV at h
  split at h
  · cases h
  · split at h
    · cases h
    · cases h
/-- Only the body's end is taken for good. -/
theorem done_k {p : Int} {o' : List Int} {k' : List Fr} (h : stepV P ps fn x pc o f r = .done p 0 o' k') : x.op = 11 ∧ setl f o = true ∧ r.length = 0 ∧ pc + 1 = (fn.nI : Int) := by
  unfold stepV at h
  split at h
  · cases h
  split at h
  · cases h
  split at h
  · exfalso
    unfold blkV at h
    have op : ∀ o1, opnV x pc o1 f r = .done p 0 o' k' → False := fun o1 ho => by
      unfold opnV at ho
      split at ho <;> cases ho
    split at h
    · split at h
      · exact op _ h
      · cases h
    · exact op _ h
  split at h
  · exfalso
    unfold elsV at h
    split at h
    · split at h
      · cases h
      · split at h <;> cases h
    · cases h
  split at h
  · rename_i h11
    unfold endV at h
    split at h
    · rename_i hs
      split at h
      · cases h
      · split at h
        · rename_i hr
          split at h
          · rename_i hp
            exact ⟨h11, hs, hr, hp⟩
          · cases h
        · exact (give_e h).elim
    · cases h
  exfalso
  split at h
  · unfold brV at h
    split at h
    · cases h
    · split at h <;> cases h
  split at h
  · unfold brifV at h
    split at h
    · split at h
      · cases h
      · split at h
        · exact give_e h
        · cases h
    · cases h
  split at h
  · unfold tabV at h
    split at h
    · split at h
      · cases h
      · split at h
        · cases h
        · split at h
          · cases h
          · rename_i hne
            (first | (injection h with z__; injection z__ with _ z__; injection z__ with h z__; injection z__ with _ _) | injection h with _ h _ _)
            exact hne h
    · cases h
  split at h
  · unfold retV at h
    split at h <;> cases h
  · unfold plnV at h
    split at h
    · exact give_e h
    · rename_i hne
      (first | (injection h with z__; injection z__ with _ z__; injection z__ with h z__; injection z__ with _ _) | injection h with _ h _ _)
      exact hne h

/-- The dead case. -/
theorem VS.deadK (V : VS S o (f :: r)) (h0 : S.dead ≠ 0) : (∃ ex k0, S.dead ≠ 1 ∧ r = ex ++ k0 ∧ ex.length + 2 = S.dead ∧ k0.length = S.fs.length ∧ (∀ (t : Nat) (a : Fr) (s : SF), k0[t]? = some a → S.fs[t]? = some s → FV a s) ∧ (∀ (t : Nat) (a : Fr), k0[t]? = some a → a.dead = decide (t = 0))) ∨
    (S.dead = 1 ∧ r.length + 1 = S.fs.length ∧ (∀ (t : Nat) (a : Fr) (s : SF), (f :: r)[t]? = some a → S.fs[t]? = some s → FV a s) ∧ (∀ (t : Nat) (a : Fr), (f :: r)[t]? = some a → a.dead = decide (t = 0))) := by
  obtain ⟨ex, k0, e1, e2, e3, e4, e5⟩ := V.fr
  have e5 : ∀ (t : Nat) (a : Fr), k0[t]? = some a → a.dead = decide (t = 0) := fun t a ha => by
    rw [e5 t a ha]
    by_cases q : t = 0
    · rw [decide_eq_true q, decide_eq_true ⟨q, h0⟩]
    · rw [decide_eq_false q, decide_eq_false (fun z => q z.1)]
  cases ex with
  | nil =>
    rw [List.nil_append] at e1
    subst e1
    have : S.dead - 1 = 0 := e2.symm
    exact .inr ⟨by omega, e3, e4, e5⟩
  | cons a ex =>
    (first | (injection e1 with z__; injection z__ with e6 e7) | injection e1 with e6 e7)
    have e2 : ex.length + 1 = S.dead - 1 := e2
    exact .inl ⟨ex, k0, by omega, e7, by omega, e3, e4, e5⟩

theorem dead_step (W : WFP P) (hw : FnWF fn) (hp : Vals ps 4) {pc : Nat} (hpc : pc < fn.nI) (V : VS S o (f :: r)) (h0 : S.dead ≠ 0) {o' : List Int} {k' : List Fr} (h : stepV P ps fn (fn.ins pc) pc o f r = .next o' k') :
    ∃ S', stepS (bdOf P fn) pc S = some S' ∧ VS S' o' k' := by
  have hB := hw.b
  have hin := hB.ins pc hpc
  have hg : VG o' k' := by
    have := step_vg (pc := (pc : Int)) W hp hw.ls (hw.insOk hpc) hin V.g
    rw [h] at this
    exact this
  have h10 := V.h10
  have hst : stepS (bdOf P fn) pc S = if (skipP (fn.ins pc).op S.dead).1 = true then some { S with dead := (skipP (fn.ins pc).op S.dead).2 } else liveS (bdOf P fn) pc (fn.ins pc) S := rfl
  rw [hst]
  clear hst
  generalize hx : fn.ins pc = x at *
  by_cases c2 : x.op = 2 ∨ x.op = 3 ∨ x.op = 4
  · have hk : ∃ n, k' = n :: f :: r := by
      have op : ∀ o1, opnV x pc o1 f r = .next o' k' → ∃ n, k' = n :: f :: r := fun o1 ho => by
        unfold opnV at ho
        split at ho
        · cases ho
        · (first | (injection ho with z__; injection z__ with _ b) | injection ho with _ b)
          exact ⟨_, b.symm⟩
      unfold stepV at h
      rw [if_neg (by omega), if_neg (by omega), if_pos c2] at h
      unfold blkV at h
      split at h
      · split at h
        · exact op _ h
        · cases h
      · exact op _ h
    obtain ⟨n, rfl⟩ := hk
    have hs : skipP x.op S.dead = (true, S.dead + 1) := by unfold skipP; rw [if_neg h0, if_pos c2]
    rw [hs, if_pos rfl]
    obtain ⟨ex, k0, e1, e2, e3, e4, e5⟩ := V.fr
    refine ⟨_, rfl, hg, h10, ⟨n :: ex, k0, by rw [e1]; rfl, ?_, e3, e4, fun t a ha => ?_⟩, (fun q => by cases q), V.ne⟩
    · show ex.length + 1 = S.dead + 1 - 1
      omega
    · rw [e5 t a ha]
      show decide (t = 0 ∧ S.dead ≠ 0) = decide (t = 0 ∧ S.dead + 1 ≠ 0)
      by_cases q : t = 0
      · rw [decide_eq_true ⟨q, h0⟩, decide_eq_true ⟨q, by omega⟩]
      · rw [decide_eq_false (fun z => q z.1), decide_eq_false (fun z => q z.1)]
  by_cases c5 : x.op = 5
  · have he : setl f o = true ∧ f.op = 4 ∧ o' = carO f.res f o ∧ k' = { { f with op := 5 } with dead := false } :: r := by
      unfold stepV at h
      rw [if_neg (by omega), if_neg (by omega), if_neg c2, if_pos c5] at h
      unfold elsV at h
      split at h
      · rename_i hs
        split at h
        · cases h
        · split at h
          · rename_i h4
            (first | (injection h with z__; injection z__ with a b) | injection h with a b)
            exact ⟨hs, h4, a.symm, b.symm⟩
          · cases h
      · cases h
    obtain ⟨hs, h4, rfl, rfl⟩ := he
    rcases V.deadK h0 with ⟨ex, k0, d1, e1, e2, e3, e4, e5⟩ | ⟨d1, e3, e4, e5⟩
    · have hsk : skipP x.op S.dead = (true, S.dead) := by unfold skipP; rw [if_neg h0, if_neg c2, if_pos c5, decide_eq_true (by omega)]
      rw [hsk, if_pos rfl]
      refine ⟨_, rfl, hg, h10, ⟨{ { f with op := 5 } with dead := false } :: ex, k0, by rw [e1]; rfl, by show ex.length + 1 = S.dead - 1; omega, e3, e4, fun t a ha => ?_⟩, fun q => absurd q h0, V.ne⟩
      rw [e5 t a ha]
      by_cases q : t = 0
      · rw [decide_eq_true q, decide_eq_true ⟨q, h0⟩]
      · rw [decide_eq_false q, decide_eq_false (fun z => q z.1)]
    · have hsk : skipP x.op S.dead = (false, S.dead) := by unfold skipP; rw [if_neg h0, if_neg c2, if_pos c5, decide_eq_false (by omega)]
      rw [hsk, if_neg (by simp)]
      unfold liveS
      rw [if_neg c2, if_pos c5]
      unfold turnS
      cases hS : S.fs with
      | nil => rw [hS] at e3; cases e3
      | cons s q =>
        have F := e4 0 f s rfl (by rw [hS]; rfl)
        dsimp only
        rw [if_neg (fun z => h0 z.1), if_neg (by rw [F.cn h4]; decide)]
        have sl := settled_len hs
        have hfl := F.fl
        have f10 : f.fl ≤ 10 := by have := F.b; omega
        refine ⟨_, rfl, VS.mk0 hg (by omega) (by omega) (by rw [hS] at e3; simpa using e3) (fun t a b ha hb => ?_) (fun t a ha => ?_) (by simp)⟩
        · cases t with
          | zero =>
            have ha : some _ = some a := ha
            have hb : some _ = some b := hb
            cases ha; cases hb
            exact ⟨F.fl, F.ar, fun g => absurd (show (5 : Int) = 4 from g) (by decide), F.b⟩
          | succ t => exact e4 (t + 1) a b ha (by rw [hS]; exact hb)
        · cases t with
          | zero =>
            have ha : some _ = some a := ha
            cases ha; rfl
          | succ t => rw [e5 (t + 1) a ha]; exact decide_eq_false (by omega)
  by_cases c11 : x.op = 11
  · have he : setl f o = true ∧ r.length ≠ 0 ∧ giveV pc f.res (carO f.res f o) r = .next o' k' := by
      unfold stepV at h
      rw [if_neg (by omega), if_neg (by omega), if_neg c2, if_neg c5, if_pos c11] at h
      unfold endV at h
      split at h
      · rename_i hs
        split at h
        · cases h
        · split at h
          · split at h <;> cases h
          · rename_i hr
            exact ⟨hs, hr, h⟩
      · cases h
    obtain ⟨hs, hr, hv⟩ := he
    have hk := give_k hv
    subst hk
    rcases V.deadK h0 with ⟨ex, k0, d1, e1, e2, e3, e4, e5⟩ | ⟨d1, e3, e4, e5⟩
    · have hsk : skipP x.op S.dead = (true, S.dead - 1) := by unfold skipP; rw [if_neg h0, if_neg c2, if_neg c5, if_pos c11, if_neg d1]
      rw [hsk, if_pos rfl]
      refine ⟨_, rfl, hg, h10, ⟨ex, k0, e1, by show ex.length = S.dead - 1 - 1; omega, e3, e4, fun t a ha => ?_⟩, (fun q => by have q : S.dead - 1 = 0 := q; omega), V.ne⟩
      rw [e5 t a ha]
      by_cases q : t = 0
      · rw [decide_eq_true q, decide_eq_true ⟨q, by show S.dead - 1 ≠ 0; omega⟩]
      · rw [decide_eq_false q, decide_eq_false (fun z => q z.1)]
    · have hsk : skipP x.op S.dead = (false, 1) := by unfold skipP; rw [if_neg h0, if_neg c2, if_neg c5, if_pos c11, if_pos d1]
      rw [hsk, if_neg (by decide)]
      unfold liveS
      rw [if_neg c2, if_neg c5, if_pos c11]
      unfold shutS
      cases hS : S.fs with
      | nil => rw [hS] at e3; cases e3
      | cons s q =>
        have F := e4 0 f s rfl (by rw [hS]; rfl)
        have sl := settled_len hs
        have ea := F.ar; have ef := F.fl
        have hqr : q.length = k'.length := by rw [hS] at e3; simpa using e3.symm
        have fin : o'.length = f.fl + (if f.res = 64 then 0 else 1) ∧ o'.length ≤ 10 := by
          unfold giveV at hv
          by_cases e64 : f.res = 64
          · rw [if_pos e64] at hv
            cases hv
            rw [if_pos e64]
            have := F.b
            exact ⟨by omega, by omega⟩
          · rw [if_neg e64] at hv
            split at hv
            · cases hv
              rw [if_neg e64]
              exact ⟨by simp; omega, by simp; omega⟩
            · cases hv
        obtain ⟨f1, f2⟩ := fin
        dsimp only
        rw [if_neg (fun z => h0 z.1), if_neg (by rw [ea]; omega)]
        dsimp only
        rw [if_neg (by omega)]
        refine ⟨_, rfl, VS.mk0 hg (by rw [ea]; omega) (by rw [ea]; omega) hqr.symm (fun t a b ha hb => e4 (t + 1) a b ha (by rw [hS]; exact hb)) (fun t a ha => by rw [e5 (t + 1) a ha]; exact decide_eq_false (by omega)) (by omega)⟩
  have hsk : skipP x.op S.dead = (true, S.dead) := by unfold skipP; rw [if_neg h0, if_neg c2, if_neg c5, if_neg c11]
  rw [hsk, if_pos rfl]
  have hk := next_k c2 c5 c11 h
  have hself : ({ S with dead := S.dead } : SS) = S := rfl
  rcases V.deadK h0 with ⟨ex, k0, d1, e1, e2, e3, e4, e5⟩ | ⟨d1, e3, e4, e5⟩
  · have hk' : ∃ n, k' = n :: r := by
      rcases hk with rfl | rfl
      · exact ⟨_, rfl⟩
      · exact ⟨_, rfl⟩
    obtain ⟨n, rfl⟩ := hk'
    refine ⟨_, rfl, hg, h10, ⟨n :: ex, k0, by rw [e1]; rfl, by show ex.length + 1 = S.dead - 1; omega, e3, e4, fun t a ha => ?_⟩, fun q => absurd q h0, V.ne⟩
    rw [e5 t a ha]
    by_cases q : t = 0
    · rw [decide_eq_true q, decide_eq_true ⟨q, h0⟩]
    · rw [decide_eq_false q, decide_eq_false (fun z => q z.1)]
  · have hfd : f.dead = true := by rw [e5 0 f rfl]; rfl
    have hk' : k' = f :: r := by
      rcases hk with q | q
      · exact q
      · rw [q]
        unfold Fr.kill
        rw [← hfd]
    subst hk'
    refine ⟨_, rfl, hg, h10, ⟨[], f :: r, rfl, by show 0 = S.dead - 1; omega, e3, e4, fun t a ha => ?_⟩, fun q => absurd q h0, V.ne⟩
    rw [e5 t a ha]
    by_cases q : t = 0
    · rw [decide_eq_true q, decide_eq_true ⟨q, h0⟩]
    · rw [decide_eq_false q, decide_eq_false (fun z => q z.1)]

theorem run_comp (W : WFP P) (hw : FnWF fn) (hp : Vals ps 4) : ∀ (n pc : Nat) (S : SS) (o : List Int) (k : List Fr), pc + n = fn.nI → VS S o k → (runV P ps fn n pc o k).2.1 = 0 → ∃ S', goS (bdOf P fn) n pc S = .inr S'
  | 0, pc, S, o, k, _, _, h => by cases h
  | n + 1, pc, S, o, [], _, _, h => by cases h
  | n + 1, pc, S, o, f :: r, hpc, V, h => by
    rw [runV_succ] at h
    rw [goS_succ]
    cases hs : stepV P ps fn (fn.ins pc) pc o f r using SR.cs with
    | next o' k' =>
      rw [hs] at h
      have : ∃ S', stepS (bdOf P fn) pc S = some S' ∧ VS S' o' k' := by
        by_cases h0 : S.dead = 0
        · obtain ⟨S', a, b⟩ := live_step W hw hp (by omega) V h0 hs
          refine ⟨S', ?_, b⟩
          unfold stepS
          have : skipP ((bdOf P fn).ins pc).op S.dead = (false, 0) := by unfold skipP; rw [if_pos h0]
          rw [this, if_neg (by decide)]
          exact a
        · exact dead_step W hw hp (by omega) V h0 hs
      obtain ⟨S', a, b⟩ := this
      rw [a]
      exact run_comp W hw hp n (pc + 1) S' o' k' (by omega) b h
    | done p e o' k' =>
      rw [hs] at h
      have h : e = 0 := h
      subst h
      obtain ⟨c11, hset, hr, hpe⟩ := done_k hs
      have hn : n = 0 := by omega
      subst hn
      have hrn : r = [] := List.length_eq_zero_iff.1 hr
      subst hrn
      have hb : f.fl = 0 := V.g.bt.2
      -- the block is the body's
      have key : ∃ s, S.fs = [s] ∧ FV f s ∧ (S.dead = 0 ∨ S.dead = 1) := by
        by_cases h0 : S.dead = 0
        · obtain ⟨s, q, hS, hq, F, _⟩ := V.live h0
          have : q = [] := List.length_eq_zero_iff.1 (by simpa using hq)
          subst this
          exact ⟨s, hS, F, .inl h0⟩
        · rcases V.deadK h0 with ⟨ex, k0, d1, e1, e2, e3, _⟩ | ⟨d1, e3, e4, _⟩
          · have l0 : ([] : List Fr).length = ex.length + k0.length := by rw [e1]; simp
            have l0 : 0 = ex.length + k0.length := l0
            have := V.ne
            omega
          · cases hS : S.fs with
            | nil => rw [hS] at e3; cases e3
            | cons s q =>
              rw [hS] at e3
              have : q = [] := List.length_eq_zero_iff.1 (by have e3 : 0 + 1 = q.length + 1 := e3; omega)
              subst this
              exact ⟨s, rfl, e4 0 f s rfl (by rw [hS]; rfl), .inr d1⟩
      obtain ⟨s, hS, F, hdd⟩ := key
      have ea := F.ar; have ef := F.fl
      have hsk : (skipP ((bdOf P fn).ins pc).op S.dead).1 = false := by
        have : ((bdOf P fn).ins pc).op = 11 := c11
        rw [this]
        unfold skipP
        rcases hdd with q | q
        · rw [if_pos q]
        · rw [if_neg (by omega), if_neg (by omega), if_neg (by omega), if_pos rfl, if_pos q]
      have hset2 : S.dead = 0 → S.h = s.fl + s.ar := fun h0 => by
        obtain ⟨s', q, hS', hq, F', hd, _⟩ := V.live h0
        have st := settled hd V.g.fl.1 hset
        have := V.ln h0
        rw [ea]
        omega
      have hst : stepS (bdOf P fn) pc S = some { A := S.A ++ [⟨11, .k 0, 0⟩], fs := [], h := s.fl + s.ar, dead := 0, en := up1 S.en s.o S.A.length, el := if s.cn = true then up1 S.el s.o S.A.length else S.el } := by
        unfold stepS
        rw [hsk, if_neg (by decide)]
        have e1 : (bdOf P fn).ins pc = fn.ins pc := rfl
        rw [e1]
        unfold liveS
        rw [if_neg (by omega), if_neg (by omega), if_pos c11]
        unfold shutS
        rw [hS]
        dsimp only
        have a1 : s.ar ≤ 1 := by rw [ea]; split <;> omega
        rw [if_neg (fun z => z.2 (hset2 z.1)), if_neg (by omega)]
        dsimp only
        have e2 : (bdOf P fn).n = fn.nI := rfl
        rw [if_neg (fun z => z.2 (by rw [e2]; omega))]
        rfl
      rw [hst]
      exact ⟨_, rfl⟩

theorem body_comp (W : WFP P) {i : Nat} (hi : i < P.nf) (ht : (P.fn i).ty < (P.nTy : Int)) (h : (bodyV P (P.fn i)).2.1 = 0) : ∃ S, goS (bdOf P (P.fn i)) (P.fn i).nI 0 (initS (tyF P (P.fn i)).2.size) = .inr S := by
  have hw := W.fn i hi
  obtain ⟨v1, v2⟩ := tyF_vals W hi ht
  refine run_comp W hw v1 (P.fn i).nI 0 _ [] [⟨2, fstT (tyF P (P.fn i)).2, 0, false⟩] (by omega) ?_ h
  have hres : fstT (tyF P (P.fn i)).2 = 64 ∨ VT (fstT (tyF P (P.fn i)).2) := fstT_gt v2
  have har : (tyF P (P.fn i)).2.size = if fstT (tyF P (P.fn i)).2 = 64 then 0 else 1 := by
    unfold fstT
    by_cases e : (tyF P (P.fn i)).2.size = 0
    · rw [if_pos e, if_pos rfl]; exact e
    · have := v2.1
      rw [if_neg e, if_neg (vt_ne (v2.2 0 (by omega)))]
      omega
  refine VS.mk0 ⟨(fun x hx => by cases hx), ⟨Nat.le_refl _, trivial⟩, fun g hg => ?_, fun g hg => ?_, ⟨rfl, rfl⟩⟩ (Nat.zero_le _) rfl rfl (fun t a s ha hs => ?_) (fun t a ha => ?_) (by show 1 ≠ 0; decide)
  · simp at hg; subst hg; exact ⟨by show (2 : Int) ≤ 2; decide, by show (2 : Int) ≤ 5; decide⟩
  · simp at hg; subst hg; exact hres
  · cases t with
    | zero =>
      have ha : some _ = some a := ha
      have hs : some _ = some s := hs
      cases ha; cases hs
      exact ⟨rfl, har, fun g => absurd (show (2 : Int) = 4 from g) (by decide), Nat.zero_le _⟩
    | succ t => exact absurd ha (by simp)
  · cases t with
    | zero =>
      have ha : some _ = some a := ha
      cases ha; rfl
    | succ t => exact absurd ha (by simp)

theorem fns_all : ∀ (n k : Nat), (fnsV P n k).2.2 = 0 → ∀ j, k ≤ j → j < k + n → (bodyV P (P.fn j)).2.1 = 0
  | 0, k, _, j, h1, h2 => by omega
  | n + 1, k, h, j, h1, h2 => by
    rw [fnsV_succ] at h
    by_cases e : (bodyV P (P.fn k)).2.1 = 0
    · rw [if_pos e] at h
      by_cases q : j = k
      · subst q; exact e
      · exact fns_all n (k + 1) h j (by omega) (by omega)
    · rw [if_neg e] at h
      exact absurd h e
/-- The seam: a module that the validator takes is compiled. -/
theorem seam_law (W : WFP P) (h : (validV P).2.2 = 0) : ∃ fs, comp P = .inr fs := by
  unfold validV at h
  by_cases hp : (partsV P).2 = 0
  · rw [if_pos hp] at h
    have hf := fns_all P.nf 0 h
    have one : ∀ k, k < P.nf → ∃ f, compF P k = .inr f := fun k hk => by
      have ht := fn_typed hp hk
      have t0 := (W.fn k hk).b.t0
      obtain ⟨S, hS⟩ := body_comp W hk ht (hf k (by omega) (by omega))
      have hty : typeOf P ((P.nIm + k : Nat) : Int) = some (P.ty (P.fn k).ty.toNat) := by
        unfold typeOf tyIdx
        rw [if_neg (by omega), if_pos (by omega)]
        have e : (((P.nIm + k : Nat) : Int) - (P.nIm : Int)).toNat = k := by omega
        rw [e]
        unfold typeAt
        rw [if_neg (by omega)]
      unfold compF
      rw [hty]
      dsimp only
      have hS' : goS (bdOf P (P.fn k)) (P.fn k).nI 0 (initS (splitP (P.ty (P.fn k).ty.toNat)).2.size) = .inr S := hS
      rw [hS']
      exact ⟨_, rfl⟩
    have all : ∀ (n k : Nat) (acc : List FF), k + n = P.nf → ∃ fs, compG P n k acc = .inr fs := by
      intro n
      induction n with
      | zero => intro k acc _; exact ⟨acc, rfl⟩
      | succ n ih =>
        intro k acc hk
        obtain ⟨f, hf⟩ := one k (by omega)
        rw [compG_succ, hf]
        exact ih (k + 1) _ (by omega)
    exact all P.nf 0 [] (by omega)
  · rw [if_neg hp] at h
    exact absurd h hp
end
end Go.Proofs.Qxb6500321a
