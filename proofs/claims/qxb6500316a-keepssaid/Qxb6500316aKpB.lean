/-
  Keeps.
-/
import Derived.Test.Qxb6500316aKpA
import Derived.Test.Qxb6500316aSv
import Derived.Test.Qxb6500316aWfD
set_option linter.unusedSimpArgs false
set_option linter.unusedVariables false
set_option maxRecDepth 100000
set_option linter.unusedSectionVars false
namespace Go.Proofs.Qxb6500316a
open Go Go.Vc

/-- The world without the blocks from n on. -/
def cut (w : World) (n : Nat) : World := { w with heap := w.heap.extract 0 n }
theorem cut_size {w : World} {n : Nat} (h : n ≤ w.heap.size) : (cut w n).heap.size = n := by
  show (w.heap.extract 0 n).size = n
  rw [Array.size_extract]; omega
theorem cut_block {w : World} {n k : Nat} (h : n ≤ w.heap.size) (hk : k < n) : w.heap[k]? = (cut w n).heap[k]? := by
  show _ = (w.heap.extract 0 n)[k]?
  rw [Array.getElem?_extract, if_pos (by omega), Nat.zero_add]
theorem cut_same {w : World} {n : Nat} (h : n ≤ w.heap.size) : Same [] n (cut w n) w := ⟨rfl, rfl, rfl, by rw [cut_size h]; exact h, fun k hk _ => cut_block h hk⟩
theorem cut_kin {d lo : Nat} {wd w : World} (h : Kin d lo wd w) : Kin d lo wd (cut w wd.heap.size) :=
  ⟨Nat.le_of_eq (cut_size h.size).symm, fun b k v hb hv => by
    have hl : b < wd.heap.size := cell_lt hv
    obtain ⟨v', h1, h2⟩ := h.cell b k v hb hv
    refine ⟨v', ?_, h2⟩
    rw [← (cut_same h.size).cell (p := ⟨b, k, none⟩) hl (by simp)]; exact h1,
   fun b k hb hl => by rw [← (cut_same h.size).frozen (p := ⟨b, k, none⟩) hl (by simp)]; exact h.froz b k hb hl⟩

theorem BL.c0 {I : OutOf} {w : World} {b bi bt : Nat} {c : Sc} {go gs gf : Option Nat} (h : BL I w b bi bt c go gs gf) : w.cell? ⟨b, 0, none⟩ = some (.int .i64 (c.types 0)) := h.ba.ty 0 (by decide)
theorem BL.fz {I : OutOf} {w : World} {b bi bt : Nat} {c : Sc} {go gs gf : Option Nat} (h : BL I w b bi bt c go gs gf) : ∀ j, w.frozen? ⟨b, j, none⟩ = false := h.ba.fb

/-- What text leaves. -/
def TextOk (w : World) (b bi bt : Nat) (go gs gf : Option Nat) : Value → World → Prop := fun v w' => ∃ I' c' go' gs' gf', BL I' w' b bi bt c' go' gs' gf' ∧ (∀ k, k ∈ bufs go' gs' gf' → k ∈ bufs go gs gf ∨ w.heap.size ≤ k) ∧ Same (b :: bi :: bt :: bufs go gs gf) w.heap.size w w' ∧
  (v = .tuple #[.pointer none, .bool true] ∨ ∃ mb wc m P, v = .tuple #[rp mb, .bool true] ∧ HM wc w' w.heap.size mb m P ∧ SB P ∧ ∀ k, k ∈ bufs go' gs' gf' → k ≤ w.heap.size ∨ wc.heap.size ≤ k)

theorem text_spec {I : OutOf} {w : World} {b bi bt : Nat} {c : Sc} {go gs gf : Option Nat} (hB : BL I w b bi bt c go gs gf) (s : ByteArray) : Runs Try.prog binlaw_text.id #[rp b, .string s] w (TextOk w b bi bt go gs gf) := by
  obtain ⟨lb, li, lt⟩ := hB.lts
  have low := hB.low
  refine binlaw_text.enter _ _ _ _ _ ?_
  unfold binlaw_text.V
  refine RunsQ.post (Decode_all hB s) ?_
  rintro v w1 (⟨x, q, mb, m, hd, rfl, hB1, A1, M1, l1, S1⟩ | ⟨n, a, hd, rfl, ⟨c', hB1⟩, S1⟩)
  · refine ⟨_, _, _, rfl, cond_false' rfl (cond_false' rfl (cond_false' (by simp) ?_))⟩
    haveI := outNil
    have F := decA_wf hd
    have PBx := decA_pb hd
    obtain ⟨_, h1k, _, _⟩ := decA_ok hd
    refine binlaw_text.step2 _ _ _ _ _ _ _ ?_
    unfold binlaw_text.V2
    refine cond_false' (decide_eq_false (by omega)) ?_
    have X : Wx w1 mb m w.heap.size x.2 := ⟨A1, M1, F⟩
    refine RunsQ.post (WellFormed_yes X) ?_
    rintro v w2 ⟨rfl, S2⟩
    refine ⟨_, rfl, cond_false' rfl (RunsQ.post (Bare_yes X S2) ?_)⟩
    rintro v w3 ⟨rfl, S3⟩
    refine ⟨_, rfl, cond_false' rfl (RunsQ.post (Tiled_yes hd w3) ?_)⟩
    rintro v w4 ⟨rfl, S4⟩
    have T4 := S3.trans (S4.mono S3.size (by simp))
    have hM : HM w1 w4 w.heap.size mb m x.2 := ⟨A1, M1, l1, T4.mono (Nat.le_refl _) (by simp)⟩
    refine ⟨_, rfl, cond_false' rfl (RunsQ.post (trip_spec (hB1.keep T4) hM hd (by omega) (by omega) (by omega) (fun k hk => Nat.le_of_lt (low k hk))) ?_)⟩
    rintro v w5 ⟨rfl, I', c', go', gs', gf', hB5, low5, S5, K5⟩
    refine ⟨_, rfl, cond_false' rfl ⟨I', c', go', gs', gf', hB5, fun k hk => ?_, ?_, .inr ?_⟩⟩
    · have := S1.size; have := T4.size
      rcases low5 k hk with g | g
      · exact .inl g
      · exact .inr (by omega)
    · have a1 : Same (b :: bi :: bt :: bufs go gs gf) w.heap.size w w1 := S1.mono (Nat.le_refl _) (fun k hk _ => by simp at hk ⊢; omega)
      have a4 := a1.trans (T4.mono a1.size (by simp))
      exact a4.trans (S5.mono a4.size (fun k hk hl => by
        simp only [List.mem_cons, List.mem_append, mem_bet] at hk ⊢
        rcases hk with g | g | g | g | g
        · simp [g]
        · simp [g]
        · simp [g]
        · simp [g]
        · omega))
    · obtain ⟨m', P', X'⟩ := (cut_kin K5).mod M1 A1 l1 PBx
      have hsz := K5.size
      refine ⟨mb, cut w5 w1.heap.size, m', P', rfl, ⟨X'.md, X'.inv, l1, ?_⟩, X'.B, fun k hk => ?_⟩
      · rw [cut_size hsz]; exact (cut_same hsz).mono (Nat.le_refl _) (by simp)
      · rw [cut_size hsz]
        have := T4.size
        rcases low5 k hk with g | g
        · exact .inl (Nat.le_of_lt (low k g))
        · exact .inr (by omega)
  · haveI := outNil
    obtain ⟨e1, e2, e3, e4⟩ := decA_err hd
    have fin : ∀ w', w' = w1 → TextOk w b bi bt go gs gf (.tuple #[.pointer none, .bool true]) w' := fun w' e => by
      rw [e]
      exact ⟨I, c', go, gs, gf, hB1, fun k hk => .inl hk, S1.mono (Nat.le_refl _) (fun k hk _ => by simp at hk ⊢; omega), .inl rfl⟩
    refine ⟨_, _, _, rfl, cond_true' (by simp; omega) (cond_false' rfl (cond_false' (decide_eq_false (by omega)) ?_))⟩
    refine binlaw_text.step1 _ _ _ _ _ _ _ ?_
    unfold binlaw_text.V1
    refine cond_false' (decide_eq_false (by omega)) ?_
    have L3 : binlaw_text.L3 false (TextOk w b bi bt go gs gf) (fun _ _ => False) w1 := by
      refine binlaw_text.step3 _ _ _ _ ?_
      unfold binlaw_text.V3
      exact cond_false' rfl (fin w1 rfl)
    refine cond_intro (fun g => ?_) (fun _ => L3)
    obtain ⟨rfl, rfl⟩ := e4 (by have := of_decide_eq_true g; omega)
    exact cond_false' rfl L3

/-- The register. -/
def Reg (w : World) (b bi bt : Nat) (go gs gf : Option Nat) (held : Option Addr) (was : ByteArray) : Prop :=
  held = none ∨ ∃ mb wc L m P, held = some ⟨mb, 0, none⟩ ∧ HM wc w L mb m P ∧ SB P ∧ was = showP P ∧ b ≤ L ∧ bi ≤ L ∧ bt ≤ L ∧ ∀ k, k ∈ bufs go gs gf → k ≤ L ∨ wc.heap.size ≤ k
theorem Reg.same {w w' : World} {b bi bt : Nat} {go gs gf go' gs' gf' : Option Nat} {held : Option Addr} {was : ByteArray} (h : Reg w b bi bt go gs gf held was) {S : List Nat} (hS : Same S w.heap.size w w') (hk : ∀ k, k ∈ S → k ∈ b :: bi :: bt :: bufs go gs gf) (hb : ∀ k, k ∈ bufs go' gs' gf' → k ∈ bufs go gs gf ∨ w.heap.size ≤ k) : Reg w' b bi bt go' gs' gf' held was := by
  rcases h with h | ⟨mb, wc, L, m, P, h1, h2, h3, h4, h5, h6, h7, h8⟩
  · exact .inl h
  · have hsz := h2.size
    refine .inr ⟨mb, wc, L, m, P, h1, h2.same hS hsz (fun k g => ?_), h3, h4, h5, h6, h7, fun k g => ?_⟩
    · have := hk k g
      simp only [List.mem_cons] at this
      rcases this with rfl | rfl | rfl | g
      · exact .inl h5
      · exact .inl h6
      · exact .inl h7
      · exact h8 k g
    · rcases hb k g with g | g
      · exact h8 k g
      · exact .inr (by omega)

/-- What holds between two steps. -/
structure KC (w0 w : World) (b bi bt : Nat) (held : Option Addr) (was : ByteArray) : Prop where
  l1 : w0.heap.size ≤ b
  l2 : w0.heap.size ≤ bi
  l3 : w0.heap.size ≤ bt
  S : Same [] w0.heap.size w0 w
  B : ∃ I c go gs gf, BL I w b bi bt c go gs gf ∧ (∀ k, k ∈ bufs go gs gf → w0.heap.size ≤ k) ∧ Reg w b bi bt go gs gf held was
theorem KC.keep {w0 w w' : World} {b bi bt : Nat} {held : Option Addr} {was : ByteArray} (h : KC w0 w b bi bt held was) (hS : Same [] w.heap.size w w') : KC w0 w' b bi bt held was := by
  obtain ⟨I, c, go, gs, gf, hB, hl, hr⟩ := h.B
  exact ⟨h.l1, h.l2, h.l3, h.S.trans (hS.mono h.S.size (by simp)), I, c, go, gs, gf, hB.keep hS, hl, hr.same hS (by simp) (fun k hk => .inl hk)⟩

theorem Keeps_loop (w0 : World) (a : Option Addr) (l c : Nat) (hs : ScriptAt w0 a l) (b bi bt : Nat) (R Q : Value → World → Prop) (hQ : Q = fun _ _ => False) (hR : ∀ w', Same [] w0.heap.size w0 w' → R (.int .i64 (-1)) w') :
    ∀ (f i : Nat) (w : World) (held : Option Addr) (was : ByteArray), i + f = l → KC w0 w b bi bt held was → binlaw_KeepsUpTo.L1 a l c (some ⟨b, 0, none⟩) held was i R Q w := by
  subst hQ
  intro f
  induction f with
  | zero =>
    intro i w held was hi C
    refine binlaw_KeepsUpTo.step1 _ _ _ _ _ _ _ _ _ _ ?_
    unfold binlaw_KeepsUpTo.V1
    exact cond_false' (by simp; omega) (hR w C.S)
  | succ f ih =>
    intro i w held was hi C
    refine binlaw_KeepsUpTo.step1 _ _ _ _ _ _ _ _ _ _ ?_
    unfold binlaw_KeepsUpTo.V1
    refine cond_true' (by simp; omega) ?_
    generalize hM : (4398046511104 : Int) = M
    refine cond_intro (fun hm => ?_) (fun hm => hR w C.S)
    subst hM
    have hm : (i : Int) < 4398046511104 := of_decide_eq_true hm
    rcases hs with h0 | ⟨sb, off, rfl, hs⟩
    · omega
    obtain ⟨o, hF, hO0⟩ := hs i (by omega)
    have hO := hO0.same C.S
    refine binlaw_KeepsUpTo.step2 _ _ _ _ _ _ _ _ _ _ ?_
    unfold binlaw_KeepsUpTo.V2
    simp only [nilV_some, add_mk, Int.toNat_natCast]
    refine ⟨by omega, _, _, _, _, _, _, hO.c0, hO.c1, hO.c2, hO.c3, hO.c4, hO.c5, ?_⟩
    refine letB_intro fun b8 hb8 => letW_intro fun w9 hw9 => ?_
    have S9 : Same [] w.heap.size w w9 := by rw [hw9]; exact (Same.refl _ _ _).alloc (Nat.le_refl _) _
    have A9 : ∀ j, j < 6 → can w9 ⟨b8, j, none⟩ := fun j hj => by
      have h9 : OpAt w9 b8 ⟨0, 0, 0, 0, ⟨#[]⟩, ⟨#[]⟩⟩ := by rw [hw9, hb8]; exact OpAt.new w ⟨0, 0, 0, 0, ⟨#[]⟩, ⟨#[]⟩⟩ T_api_Op
      have fz : w9.frozen? ⟨b8, j, none⟩ = false := by rw [hw9, hb8, World.frozen?_alloc_new]
      have : j = 0 ∨ j = 1 ∨ j = 2 ∨ j = 3 ∨ j = 4 ∨ j = 5 := by omega
      rcases this with rfl | rfl | rfl | rfl | rfl | rfl
      · exact ⟨⟨_, h9.c0⟩, fz⟩
      · exact ⟨⟨_, h9.c1⟩, fz⟩
      · exact ⟨⟨_, h9.c2⟩, fz⟩
      · exact ⟨⟨_, h9.c3⟩, fz⟩
      · exact ⟨⟨_, h9.c4⟩, fz⟩
      · exact ⟨⟨_, h9.c5⟩, fz⟩
    have sz9 : w9.heap.size = w.heap.size + 1 := by rw [hw9]; simp
    clear hw9
    refine putCells_intro b8 _ 0 w9 _ (fun j hj => by rw [Nat.zero_add]; exact A9 j (by simpa using hj)) (fun w10 hF10 => ?_)
    have O10 : OpAt w10 b8 o := OpAt.fill o hF10
    have S10 : Same [] w.heap.size w w10 := S9.trans ((hF10.same w.heap.size).mono (Nat.le_refl _) (by intro k hk hl; simp at hk; omega))
    have C10 := C.keep S10
    obtain ⟨I1, c1, go1, gs1, gf1, hB0, hl1, hr0⟩ := C.B
    obtain ⟨lb, li, lt⟩ := hB0.lts
    have BUFS : ∀ k, k ∈ bufs go1 gs1 gf1 → k ≠ b8 := fun k hk => by have := hB0.low k hk; omega
    have hB1 := hB0.keep S10
    have hr1 : Reg w10 b bi bt go1 gs1 gf1 held was := hr0.same S10 (by simp) (fun k hk => .inl hk)
    clear hF10 A9
    have L3 : ∀ w' held' was', KC w0 w' b bi bt held' was' → binlaw_KeepsUpTo.L3 (some ⟨sb, off, none⟩) l c (some ⟨b, 0, none⟩) held' was' i R (fun _ _ => False) w' := fun w' held' was' C' => by
      refine binlaw_KeepsUpTo.step3 _ _ _ _ _ _ _ _ _ _ ?_
      unfold binlaw_KeepsUpTo.V3
      have e : IntKind.wrap .i64 ((i : Int) + 1) = ((i + 1 : Nat) : Int) := by rw [wrap_i64 (by omega) (by omega)]; omega
      rw [e]
      exact ih (i + 1) w' held' was' (by omega) C'
    refine ⟨_, O10.c0, cond_intro (fun _ => L3 w10 held was C10) (fun _ => ⟨_, O10.c4, ?_⟩)⟩
    refine RunsQ.post (text_spec hB1 o.s) ?_
    rintro v w11 ⟨I2, c2, go2, gs2, gf2, hB2, low2, S11, hv⟩
    have hr2 : Reg w11 b bi bt go2 gs2 gf2 held was := hr1.same S11 (fun k hk => hk) low2
    have sz10 := C10.S.size
    have C11 : KC w0 w11 b bi bt held was := ⟨C.l1, C.l2, C.l3, C10.S.trans (S11.mono sz10 (fun k hk hl => by
        simp only [List.mem_cons] at hk
        have a1 := C.l1; have a2 := C.l2; have a3 := C.l3
        rcases hk with rfl | rfl | rfl | g
        · omega
        · omega
        · omega
        · have := hl1 k g; omega)), I2, c2, go2, gs2, gf2, hB2, fun k hk => by
        rcases low2 k hk with g | g
        · exact hl1 k g
        · omega, hr2⟩
    -- behind the register's test
    have N : ∀ w', Same [] w11.heap.size w11 w' → ∀ (mv : Option Addr), (mv = none ∨ ∃ mb wc m P, mv = some ⟨mb, 0, none⟩ ∧ HM wc w11 w10.heap.size mb m P ∧ SB P ∧ ∀ k, k ∈ bufs go2 gs2 gf2 → k ≤ w10.heap.size ∨ wc.heap.size ≤ k) →
        binlaw_KeepsUpTo.L4 (some ⟨sb, off, none⟩) l c (some ⟨b, 0, none⟩) held was i b8 mv R (fun _ _ => False) w' := fun w' S' mv hmv => by
      have C' := C11.keep S'
      have L5f : binlaw_KeepsUpTo.L5 (some ⟨sb, off, none⟩) l c (some ⟨b, 0, none⟩) held was i mv false R (fun _ _ => False) w' := by
        refine binlaw_KeepsUpTo.step5 _ _ _ _ _ _ _ _ _ _ _ _ ?_
        unfold binlaw_KeepsUpTo.V5
        exact cond_false' rfl (L3 w' held was C')
      refine binlaw_KeepsUpTo.step4 _ _ _ _ _ _ _ _ _ _ _ _ ?_
      unfold binlaw_KeepsUpTo.V4
      rcases hmv with rfl | ⟨mb, wc, m, P, rfl, hM, hS, hk⟩
      · exact cond_false' rfl L5f
      · refine cond_true' rfl ?_
        have O' : w'.cell? ⟨b8, 1, none⟩ = some (.int .i64 o.a) := by
          have hb10 : b8 < w10.heap.size := O10.lt
          rw [S'.cell (p := ⟨b8, 1, none⟩) (show b8 < w11.heap.size by have := S11.size; omega) (by simp), S11.cell (p := ⟨b8, 1, none⟩) hb10 (by
            simp only [List.mem_cons]
            rintro (g | g | g | g)
            · omega
            · omega
            · omega
            · exact BUFS _ g rfl)]
          exact O10.c1
        refine ⟨_, O', ?_⟩
        cases hz : (o.a == 0)
        · exact L5f
        · refine binlaw_KeepsUpTo.step5 _ _ _ _ _ _ _ _ _ _ _ _ ?_
          unfold binlaw_KeepsUpTo.V5
          refine cond_true' rfl ?_
          have hM' := hM.same S' hM.size (by simp)
          refine RunsQ.post (Show_spec (hM'.sx hS)) ?_
          rintro v w13 ⟨rfl, S13⟩
          refine ⟨_, rfl, L3 w13 _ _ ?_⟩
          have hM13 := hM'.same S13 hM'.size (by simp)
          have C13 := C'.keep S13
          have T13 := S'.trans (S13.mono S'.size (by simp))
          obtain ⟨q1, q2, q3⟩ := hB1.lts
          exact ⟨C.l1, C.l2, C.l3, C13.S, I2, c2, go2, gs2, gf2, hB2.keep T13, fun k hk => by
            rcases low2 k hk with g | g
            · exact hl1 k g
            · omega, .inr ⟨mb, wc, w10.heap.size, m, P, rfl, hM13, hS, rfl, by omega, by omega, by omega, hk⟩⟩
    have M : ∀ (mv : Option Addr), (mv = none ∨ ∃ mb wc m P, mv = some ⟨mb, 0, none⟩ ∧ HM wc w11 w10.heap.size mb m P ∧ SB P ∧ ∀ k, k ∈ bufs go2 gs2 gf2 → k ≤ w10.heap.size ∨ wc.heap.size ≤ k) →
        (cond (!(Option.isNone held)) (RunsQ Try.prog api_Module_Show.id #[(.pointer held)] w11 (fun r24 w25 => (∃ x26 : ByteArray, (r24 = (.string x26) ∧ (cond (!(ByteArray.toList x26 == ByteArray.toList was))
          (R (.int .i64 i) w25) (binlaw_KeepsUpTo.L4 (some ⟨sb, off, none⟩) l c (some ⟨b, 0, none⟩) held was i b8 mv R (fun _ _ => False) w25))))) (fun _ _ => False))
          (binlaw_KeepsUpTo.L4 (some ⟨sb, off, none⟩) l c (some ⟨b, 0, none⟩) held was i b8 mv R (fun _ _ => False) w11)) := fun mv hmv => by
      rcases hr2 with rfl | ⟨mb, wc, L, m, P, rfl, hM, hS, rfl, _⟩
      · exact cond_false' rfl (N w11 (Same.refl _ _ _) mv hmv)
      · refine cond_true' rfl (RunsQ.post (Show_spec (hM.sx hS)) ?_)
        rintro v w12 ⟨rfl, S12⟩
        exact ⟨_, rfl, cond_false' (by rw [ba_refl]; rfl) (N w12 S12 mv hmv)⟩
    rcases hv with rfl | ⟨mb, wc, m, P, rfl, hM, hS, hk⟩
    · exact ⟨_, _, rfl, cond_false' rfl (M none (.inl rfl))⟩
    · exact ⟨_, _, rfl, cond_false' rfl (M _ (.inr ⟨mb, wc, m, P, rfl, hM, hS, hk⟩))⟩

theorem Keeps_spec (w : World) (a : Option Addr) (l c : Nat) (hs : ScriptAt w a l) : Runs Try.prog binlaw_Keeps.id #[.slice a l c] w fun v w' => v = .bool true ∧ Same [] w.heap.size w w' := by
  refine binlaw_Keeps.enter _ _ _ _ _ _ ?_
  unfold binlaw_Keeps.V
  have h : Runs Try.prog binlaw_KeepsUpTo.id #[.slice a l c] w fun v w' => v = .int .i64 (-1) ∧ Same [] w.heap.size w w' := by
    refine binlaw_KeepsUpTo.enter _ _ _ _ _ _ ?_
    unfold binlaw_KeepsUpTo.V
    refine RunsQ.post (New_spec w) ?_
    rintro v w1 ⟨b, bi, bt, rfl, hB, hS, l1, l2, l3⟩
    refine ⟨_, rfl, RunsQ.post (New_spec w1) ?_⟩
    rintro v w2 ⟨b', bi', bt', rfl, hB', hS', l1', l2', l3'⟩
    have no : ∀ {G : Nat → Prop}, ∀ k, (none : Option Nat) = some k → G k := fun k hk => by cases hk
    have B1 : BL outNil w1 b bi bt sc0 none none none := ⟨hB, .inl ⟨rfl, rfl⟩, .inl ⟨rfl, rfl⟩, .inl ⟨rfl, rfl⟩, no, no, no, no, no, no⟩
    have B2 := B1.keep hS'
    have B' : BL outNil w2 b' bi' bt' sc0 none none none := ⟨hB', .inl ⟨rfl, rfl⟩, .inl ⟨rfl, rfl⟩, .inl ⟨rfl, rfl⟩, no, no, no, no, no, no⟩
    obtain ⟨e, ti, tu, tf, ts⟩ := binT
    have lb := B1.lts.1
    refine ⟨_, rfl, false, w2, run_ptr_ne (show b ≠ b' by omega) B2.c0 (BL.c0 B') B2.fz B'.fz tu tf ts _ _, cond_false' rfl ?_⟩
    exact Keeps_loop w a l c hs b bi bt _ _ rfl (fun w' h => ⟨rfl, h⟩) l 0 w2 none _ (by omega) ⟨l1, l2, l3, hS.trans (hS'.mono hS.size (by simp)), outNil, sc0, none, none, none, B2, fun k hk => by simp [bufs] at hk, .inl rfl⟩
  refine RunsQ.post h ?_
  rintro v w1 ⟨rfl, hS⟩
  exact ⟨_, rfl, rfl, hS⟩
end Go.Proofs.Qxb6500316a
