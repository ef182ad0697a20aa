/-
  The model of the validator: what stands in memory at an instruction.
-/
import Derived.Test.Qxb6500322aMsA
set_option linter.unusedSimpArgs false
set_option linter.unusedVariables false
set_option maxRecDepth 100000
set_option linter.unusedSectionVars false
namespace Go.Proofs.Qxb6500322a
open Go Go.Vc

/-- A label's type, as the model holds it. -/
def labF (x : Fr) : Int := if x.op = 3 then 64 else x.res
def botK : List Fr → Int
  | [] => 64
  | f :: r => botT f r
/-- The model at work on body i: the record at cb, the labels at lb. -/
structure MC (wd w0 w : World) (L mb : Nat) (m : Nat → Value) (P : PM) (cb fb i : Nat) (ps : ByteArray) (lb : Nat) (k : List Fr) : Prop where
  H : HM wd w L mb m P
  W : WFP P
  hi : i < P.nf
  row : ∀ w', HM wd w' L mb m P → FnRow w' (L + 1) fb P.nf P.nf P.fn
  c0 : w.cell? ⟨cb, 0, none⟩ = some (rp mb)
  c1 : w.cell? ⟨cb, 1, none⟩ = some (.pointer (some ⟨fb, i * 4, none⟩))
  c2 : w.cell? ⟨cb, 2, none⟩ = some (.string (ps ++ strOfNums (P.fn i).ls))
  c3 : w.cell? ⟨cb, 3, none⟩ = some (.string (resS (botK k)))
  c4 : w.cell? ⟨cb, 4, none⟩ = some (.int .i64 0)
  c5 : ∃ v, w.cell? ⟨cb, 5, none⟩ = some v
  fz : ∀ j, w.frozen? ⟨cb, j, none⟩ = false
  lab : ∀ j x, k.reverse[j]? = some x → w.cell? ⟨lb, j, none⟩ = some (.string (resS (labF x)))
  ln : lb ≠ cb
  ll : lb < w.heap.size
  hc : wd.heap.size ≤ cb
  S : Same [] w0.heap.size w0 w
  h0 : cb < w0.heap.size
  vp : Vals ps 4
  kv : ∀ g ∈ k, g.res = 64 ∨ VT g.res
section
variable {wd w0 w w' : World} {L mb : Nat} {m : Nat → Value} {P : PM} {cb fb i : Nat} {ps : ByteArray} {lb : Nat} {k : List Fr} {f : Fr} {r : List Fr}
theorem MC.keep (C : MC wd w0 w L mb m P cb fb i ps lb k) (hS : Same [] w.heap.size w w') : MC wd w0 w' L mb m P cb fb i ps lb k := by
  have hc : cb < w.heap.size := cell_lt C.c0
  have e : ∀ j, w'.cell? ⟨cb, j, none⟩ = w.cell? ⟨cb, j, none⟩ := fun j => hS.cell (p := ⟨cb, j, none⟩) hc (by simp)
  exact ⟨C.H.keep hS, C.W, C.hi, C.row, by rw [e]; exact C.c0, by rw [e]; exact C.c1, by rw [e]; exact C.c2, by rw [e]; exact C.c3, by rw [e]; exact C.c4, by rw [e]; exact C.c5, fun j => by rw [hS.frozen (p := ⟨cb, j, none⟩) hc (by simp)]; exact C.fz j,
    fun j x h => by rw [hS.cell (p := ⟨lb, j, none⟩) C.ll (by simp)]; exact C.lab j x h, C.ln, by have := hS.size; have := C.ll; omega, C.hc, C.S.trans (hS.mono C.S.size (by simp)), C.h0, C.vp, C.kv⟩
theorem MC.drew (C : MC wd w0 w L mb m P cb fb i ps lb k) : MC wd w0 w.drew L mb m P cb fb i ps lb k := C.keep (Same.refl _ _ _).drew
theorem MC.lt (C : MC wd w0 w L mb m P cb fb i ps lb k) : cb < w.heap.size := cell_lt C.c0
theorem MC.fn (C : MC wd w0 w L mb m P cb fb i ps lb k) : FnWF (P.fn i) := C.W.fn i C.hi
/-- The innermost block's flag turned. -/
theorem MC.turn (C : MC wd w0 w L mb m P cb fb i ps lb (f :: r)) {g : Fr} (h1 : g.res = f.res) (h2 : labF g = labF f) : MC wd w0 w L mb m P cb fb i ps lb (g :: r) := by
  have eb : botK (g :: r) = botK (f :: r) := by
    cases r with
    | nil => exact h1
    | cons a r => rfl
  refine { C with c3 := by rw [eb]; exact C.c3, lab := fun j x h => ?_, kv := fun a ha => ?_ }
  · by_cases hj : j < r.length
    · rw [rev_low g r hj] at h
      exact C.lab j x (by rw [rev_low f r hj]; exact h)
    · have hl := (List.getElem?_eq_some_iff.1 h).1
      rw [List.length_reverse, List.length_cons] at hl
      have : j = r.length := by omega
      subst this
      rw [rev_top] at h; cases h
      rw [h2]; exact C.lab _ f (rev_top f r)
  · rcases List.mem_cons.1 ha with rfl | ha
    · rw [h1]; exact C.kv f (List.mem_cons_self ..)
    · exact C.kv a (List.mem_cons_of_mem _ ha)
theorem MC.kill (C : MC wd w0 w L mb m P cb fb i ps lb (f :: r)) : MC wd w0 w L mb m P cb fb i ps lb (f.kill :: r) := C.turn rfl rfl
theorem MC.label (C : MC wd w0 w L mb m P cb fb i ps lb k) {l : Nat} (hl : l < k.length) : w.cell? ⟨lb, k.length - 1 - l, none⟩ = some (.string (resS (labT k l))) ∧ (labT k l = 64 ∨ VT (labT k l)) := by
  have e : k.reverse[k.length - 1 - l]? = some k[l] := by rw [rev_at k hl, List.getElem?_eq_getElem hl]
  have eL : labT k l = labF k[l] := by unfold labT labF; rw [List.getElem?_eq_getElem hl]
  refine ⟨by rw [eL]; exact C.lab _ _ e, ?_⟩
  rw [eL]
  unfold labF
  split
  · exact .inl rfl
  · exact C.kv _ (List.getElem_mem hl)
theorem MC.bot (C : MC wd w0 w L mb m P cb fb i ps lb (f :: r)) : botT f r = 64 ∨ VT (botT f r) := by
  obtain ⟨g, h1, h2⟩ := botT_last f r
  rw [h2]
  exact C.kv g (List.mem_reverse.1 (List.mem_of_getElem? h1))

/-- How far the two have come: o and f :: r are the real validator's, st the model's. -/
structure MH (fn : FnP) (n pc : Nat) (st : ByteArray) (o o0 : List Int) (f : Fr) (r : List Fr) (may : Nat → Bool) (u : Nat) : Prop where
  pn : pc + n = fn.nI
  ms : MS st o o0
  l0 : o0.length = f.fl
  ol : o.length ≤ 10
  ov : OV o
  wf : wfGo fn.ins fn.nI fn.nTab n pc r.length may u
  mo : MayOk (f :: r) may
  rl : r.length ≤ 6
theorem MH.hf {fn : FnP} {n pc : Nat} {st : ByteArray} {o o0 : List Int} {may : Nat → Bool} {u : Nat} (h : MH fn n pc st o o0 f r may u) : f.fl ≤ o.length := by have := h.ms.len; have := h.l0; omega

/-- The model met the error that z tells. -/
def SErr (z : Int × Int × List Int × List Fr) (cb : Nat) (w : World) : Prop := z.2.1 ≠ 0 ∧ w.cell? ⟨cb, 4, none⟩ = some (.int .i64 z.2.1) ∧ w.cell? ⟨cb, 5, none⟩ = some (.int .i64 z.1)
/-- What seq leaves: the error of z, or the place of the closer, before it is looked at. -/
def SPost (P : PM) (ps : ByteArray) (fn : FnP) (z : Int × Int × List Int × List Fr) (w0 : World) (cb : Nat) (f : Fr) (r : List Fr) (o0 : List Int) (NN : Nat) : Value → World → Prop := fun v w' =>
  (Same [cb] w0.heap.size w0 w' ∧ (∃ a b : Int, v = .tuple #[.int .i64 a, .int .u8 b]) ∧ SErr z cb w') ∨
  (Same [] w0.heap.size w0 w' ∧ ∃ (n' pc' : Nat) (o' : List Int) (f' : Fr) (may' : Nat → Bool) (u' : Nat), v = .tuple #[.int .i64 ((pc' + 1 : Nat) : Int), .int .u8 (fn.ins pc').op] ∧ ((fn.ins pc').op = 5 ∨ (fn.ins pc').op = 11) ∧
    z = runV P ps fn (n' + 1) pc' o' (f' :: r) ∧ pc' + (n' + 1) = fn.nI ∧ n' < NN ∧ setl f' o' = true ∧ f'.op = f.op ∧ f'.res = f.res ∧ f'.fl = f.fl ∧ carO f'.res f' o' = o0 ∧ wfGo fn.ins fn.nI fn.nTab (n' + 1) pc' r.length may' u' ∧ MayOk (f' :: r) may')

abbrev M1 (cb lb : Nat) (f : Fr) (r : List Fr) (pc : Nat) (st : ByteArray) (R : Value → World → Prop) (w : World) : Prop :=
  validm_ck_seq.L1 (some ⟨cb, 0, none⟩) (pc : Int) (some ⟨lb, 0, none⟩) (r.length + 1) (r.length + 1) (resS f.res) ((f.fl : Nat) : Int) ((7 - r.length : Nat) : Int) st f.dead R (fun _ _ => False) w
abbrev M8 (cb lb : Nat) (f : Fr) (r : List Fr) (pc : Nat) (st : ByteArray) (ok : Bool) (push : ByteArray) (R : Value → World → Prop) (w : World) : Prop :=
  validm_ck_seq.L8 (some ⟨cb, 0, none⟩) (pc : Int) (some ⟨lb, 0, none⟩) (r.length + 1) (r.length + 1) (resS f.res) ((f.fl : Nat) : Int) ((7 - r.length : Nat) : Int) st f.dead ok push R (fun _ _ => False) w
def Heads (wd : World) (L mb : Nat) (m : Nat → Value) (P : PM) (cb fb i : Nat) (ps : ByteArray) (N : Nat) : Prop :=
  ∀ (n : Nat), n ≤ N → ∀ (w0 w : World) (pc : Nat) (st : ByteArray) (o o0 : List Int) (f : Fr) (r : List Fr) (may : Nat → Bool) (u lb : Nat) (z : Int × Int × List Int × List Fr) (NN : Nat), n ≤ NN →
    MC wd w0 w L mb m P cb fb i ps lb (f :: r) → MH (P.fn i) n pc st o o0 f r may u → runV P ps (P.fn i) n pc o (f :: r) = z → M1 cb lb f r pc st (SPost P ps (P.fn i) z w0 cb f r o0 NN) w

variable {n pc : Nat} {st : ByteArray} {o o0 : List Int} {may : Nat → Bool} {u : Nat} {z : Int × Int × List Int × List Fr} {NN : Nat}
theorem fail_spec (C : MC wd w0 w L mb m P cb fb i ps lb k) (e a : Int) : Runs Try.prog validm_ck_fail.id #[rp cb, .int .i64 e, .int .i64 a] w fun v w' => v = .tuple #[] ∧ w'.cell? ⟨cb, 4, none⟩ = some (.int .i64 e) ∧ w'.cell? ⟨cb, 5, none⟩ = some (.int .i64 a) ∧ Same [cb] w.heap.size w w' := by
  obtain ⟨v5, c5⟩ := C.c5
  refine validm_ck_fail.enter _ _ _ _ _ _ ?_
  unfold validm_ck_fail.V
  simp only [nilV_some, Nat.zero_add]
  refine ⟨_, C.c4, cond_true' rfl ⟨⟨⟨_, C.c4⟩, C.fz 4⟩, letW_intro fun w7 hw7 => ?_⟩⟩
  have d4 : w7.cell? ⟨cb, 4, none⟩ = some (.int .i64 e) := by rw [hw7, cell_setCell, if_pos ⟨rfl, rfl⟩, C.c4]; rfl
  have d5 : w7.cell? ⟨cb, 5, none⟩ = some v5 := by rw [hw7, cell_setCell, if_neg (by omega)]; exact c5
  have S7 : Same [cb] w.heap.size w w7 := by rw [hw7]; exact (Same.refl _ _ _).setCell (.inr (by simp)) _
  have f7 : w7.frozen? ⟨cb, 5, none⟩ = false := by rw [hw7, World.frozen?_setCell]; exact C.fz 5
  clear hw7
  refine ⟨⟨⟨_, d5⟩, f7⟩, letW_intro fun w9 hw9 => ?_⟩
  refine ⟨trivial, ?_, ?_, ?_⟩
  · rw [hw9, cell_setCell, if_neg (by omega)]; exact d4
  · rw [hw9, cell_setCell, if_pos ⟨rfl, rfl⟩, d5]; rfl
  · rw [hw9]; exact S7.setCell (.inr (by simp)) _
theorem SPost.err (C : MC wd w0 w L mb m P cb fb i ps lb k) {w2 : World} {e a : Int} (h4 : w2.cell? ⟨cb, 4, none⟩ = some (.int .i64 e)) (h5 : w2.cell? ⟨cb, 5, none⟩ = some (.int .i64 a)) (S2 : Same [cb] w.heap.size w w2) (he : e ≠ 0) {o' : List Int} {k' : List Fr} (hz : (a, e, o', k') = z) (x y : Int) :
    SPost P ps (P.fn i) z w0 cb f r o0 NN (.tuple #[.int .i64 x, .int .u8 y]) w2 := by
  subst hz
  exact .inl ⟨(C.S.mono (Nat.le_refl _) (by simp)).trans (S2.mono C.S.size (by simp)), ⟨x, y, rfl⟩, he, h4, h5⟩
/-- A failure, and home. -/
theorem mfail (C : MC wd w0 w L mb m P cb fb i ps lb k) {e a : Int} (he : e ≠ 0) {o' : List Int} {k' : List Fr} (hz : (a, e, o', k') = z) (x y : Int) :
    RunsQ Try.prog validm_ck_fail.id #[rp cb, .int .i64 e, .int .i64 a] w (fun v w' => v = .tuple #[] ∧ SPost P ps (P.fn i) z w0 cb f r o0 NN (.tuple #[.int .i64 x, .int .u8 y]) w') (fun _ _ => False) := by
  refine RunsQ.post (fail_spec C e a) ?_
  rintro v w2 ⟨rfl, h4, h5, S2⟩
  exact ⟨rfl, SPost.err C h4 h5 S2 he hz x y⟩

theorem ba_nil (s : ByteArray) : s ++ (⟨#[]⟩ : ByteArray) = s := by
  apply ByteArray.ext
  rw [ByteArray.data_append]
  exact Array.append_empty
/-- Behind an instruction: what it gives is laid. -/
theorem m8 (C : MC wd w0 w L mb m P cb fb i ps lb (f :: r)) (IH : Heads wd L mb m P cb fb i ps n) (hN : n ≤ NN) (pn : pc + (n + 1) = (P.fn i).nI) (ms : MS st o o0) (l0 : o0.length = f.fl) (ol : o.length ≤ 10) (ov : OV o)
    (wf : wfGo (P.fn i).ins (P.fn i).nI (P.fn i).nTab n (pc + 1) r.length may u) (mo : MayOk (f :: r) may) (rl : r.length ≤ 6) {g : Int} (hg : GT g) {X : SR} (hz : contV P ps (P.fn i) n pc X = z) {ok : Bool}
    (hok : ok = true → X = giveV pc g o (f :: r)) (hno : ok = false → ∃ o' k', X = .done pc 27 o' k') : M8 cb lb f r pc st ok (resS g) (SPost P ps (P.fn i) z w0 cb f r o0 NN) w := by
  have hlen := ms.len
  have hnI := C.fn.b.nI
  refine validm_ck_seq.step8 _ _ _ _ _ _ _ _ _ _ _ _ _ _ _ ?_
  unfold validm_ck_seq.V8
  cases ok with
  | false =>
    obtain ⟨o', k', rfl⟩ := hno rfl
    exact cond_true' rfl (mfail C (by decide) hz _ _)
  | true =>
    have hX := hok rfl
    subst hX
    refine cond_false' rfl ?_
    have ew : IntKind.wrap .i64 ((pc : Int) + 1) = ((pc + 1 : Nat) : Int) := by rw [wrap_i64 (by omega) (by omega)]; omega
    have es : IntKind.wrap .i64 (((f.fl : Nat) : Int) + (((st ++ resS g).size : Nat) : Int)) = ((o.length + (resS g).size : Nat) : Int) := by
      have hs := resS_size g
      have h2 : (resS g).size ≤ 1 := by rw [hs]; split <;> omega
      rw [ByteArray.size_append, wrap_i64 (by omega) (by omega)]; omega
    rw [ew, es]
    have hs := resS_size g
    refine ⟨by split at hs <;> omega, ?_⟩
    by_cases g64 : g = 64
    · rw [if_pos g64] at hs
      have eX : giveV pc g o (f :: r) = .next o (f :: r) := by unfold giveV; rw [if_pos g64]
      rw [eX] at hz
      have er : st ++ resS g = st := by unfold resS; rw [if_pos g64]; exact ba_nil st
      rw [er]
      exact cond_false' (decide_eq_false (by omega)) (IH n (Nat.le_refl _) w0 w (pc + 1) st o o0 f r may u lb z NN hN C ⟨by omega, ms, l0, ol, ov, wf, mo, rl⟩ hz)
    · rw [if_neg g64] at hs
      have ut : UT g := hg.resolve_left g64
      have hb : 0 ≤ g ∧ g ≤ 255 := by
        rcases ut with rfl | h
        · omega
        · omega
      have er : resS g = strOfNums [g] := by unfold resS; rw [if_neg g64]
      by_cases hl : o.length < 10
      · have eX : giveV pc g o (f :: r) = .next (g :: o) (f :: r) := by unfold giveV; rw [if_neg g64, if_pos hl]
        rw [eX] at hz
        refine cond_false' (decide_eq_false (by omega)) ?_
        rw [er]
        exact IH n (Nat.le_refl _) w0 w (pc + 1) _ (g :: o) o0 f r may u lb z NN hN C ⟨by omega, ms.push hb.1 hb.2, l0, by simp; omega, fun x hx => by
          rcases List.mem_cons.1 hx with rfl | hx
          · exact ut
          · exact ov x hx, wf, mo, rl⟩ hz
      · have eX : giveV pc g o (f :: r) = .done pc 28 o (f :: r) := by unfold giveV; rw [if_neg g64, if_neg hl]
        rw [eX] at hz
        exact cond_true' (decide_eq_true (by omega)) (mfail C (by decide) hz _ _)

abbrev M3 (cb lb : Nat) (f : Fr) (r : List Fr) (pc : Nat) (st : ByteArray) (xb : Nat) (op : Int) (t : Bool) (R : Value → World → Prop) (w : World) : Prop :=
  validm_ck_seq.L3 (some ⟨cb, 0, none⟩) (pc : Int) (some ⟨lb, 0, none⟩) (r.length + 1) (r.length + 1) (resS f.res) ((f.fl : Nat) : Int) ((7 - r.length : Nat) : Int) st f.dead xb op true ⟨#[]⟩ t R (fun _ _ => False) w
/-- To the next instruction. -/
theorem m1 (C : MC wd w0 w L mb m P cb fb i ps lb (f :: r)) (D : MH (P.fn i) (n + 1) pc st o o0 f r may u) {R : Value → World → Prop}
    (K : ∀ (w' : World) (xb : Nat) (t : Bool), MC wd w0 w' L mb m P cb fb i ps lb (f :: r) → InsAt w' xb ((P.fn i).ins pc) → xb ≠ cb → (t = true ↔ ((P.fn i).ins pc).op = 11 ∨ ((P.fn i).ins pc).op = 5) → M3 cb lb f r pc st xb ((P.fn i).ins pc).op t R w') : M1 cb lb f r pc st R w := by
  have pn := D.pn; have rl := D.rl
  have hnI := C.fn.b.nI
  obtain ⟨nb, b1, b2, b3, b4, b5⟩ := (C.row w C.H).c2 i C.hi
  have hin := C.fn.b.ins pc (by omega)
  have o0' := hin.o0; have o1' := hin.o1
  refine validm_ck_seq.step1 _ _ _ _ _ _ _ _ _ _ _ _ _ ?_
  unfold validm_ck_seq.V1
  simp only [nilV_some, Nat.zero_add]
  refine ⟨_, C.c4, cond_true' rfl ⟨_, C.c1, ?_⟩⟩
  rw [nilV_some]
  refine ⟨_, _, _, b1, cond_false' (decide_eq_false (by omega)) ?_⟩
  rw [decide_eq_false (show ¬ ((7 - r.length : Nat) : Int) ≤ 0 by omega)]
  refine validm_ck_seq.step2 _ _ _ _ _ _ _ _ _ _ _ _ _ _ ?_
  unfold validm_ck_seq.V2
  simp only [nilV_some, Nat.zero_add]
  refine cond_false' rfl ⟨_, C.c1, ?_⟩
  rw [nilV_some]
  refine ⟨_, _, _, b1, ⟨by omega, by omega⟩, ?_⟩
  simp only [nilV_some, add_mk, Int.toNat_natCast, Nat.zero_add]
  refine ⟨_, _, _, b2.i0 pc (by omega), b2.i1 pc (by omega), b2.i2 pc (by omega), letB_intro fun b13 hb => letW_intro fun w14 hw => ?_⟩
  have I14 : InsAt w14 b13 ⟨0, 0, 0⟩ := by rw [hw, hb]; exact InsAt.new w T_api_Ins
  have S14 : Same [] w.heap.size w w14 := by rw [hw]; exact (Same.refl _ _ _).alloc (Nat.le_refl _) _
  clear hw
  refine I14.put_intro (i' := (P.fn i).ins pc) fun w15 I15 S15 => ?_
  have T15 : Same [] w.heap.size w w15 := S14.trans ((S15 w.heap.size).mono (Nat.le_refl _) (fun k hk hl => by simp at hk; omega))
  have C15 := C.keep T15
  have hl := C.lt
  refine ⟨_, I15.c0, ?_⟩
  rw [wrap_i64 (by omega) (by omega)]
  refine cond_intro (fun h => K w15 b13 true C15 I15 (by omega) ⟨fun _ => .inl (eq_of_beq h), fun _ => rfl⟩) (fun h => K w15 b13 _ C15 I15 (by omega) ⟨fun g => .inr (eq_of_beq g), fun g => ?_⟩)
  have h : ¬ ((P.fn i).ins pc).op = 11 := by simpa using h
  rcases g with g | g
  · exact absurd g h
  · rw [g]; rfl
end
end Go.Proofs.Qxb6500322a
