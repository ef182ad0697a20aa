/-
  Keeps.
-/
import Derived.Test.Qxb6500321aKlF
import Derived.Test.Qxb6500321aRwC
set_option linter.unusedSimpArgs false
set_option linter.unusedVariables false
set_option maxRecDepth 100000
set_option linter.unusedSectionVars false
set_option maxHeartbeats 2000000
namespace Go.Proofs.Qxb6500321a
open Go Go.Vc

theorem ModShow_nil (w : World) : Runs Try.prog api_Module_Show.id #[.pointer none] w fun v w' => v = .string ⟨#[45]⟩ ∧ w' = w := by
  refine api_Module_Show.enter _ _ _ _ ?_
  unfold api_Module_Show.V
  exact cond_true' rfl ⟨rfl, rfl⟩
/-! ### The stamping -/
structure SM (w : World) (mb tb nf lo hi : Nat) (nI : Nat → Nat) : Prop where
  c2 : ∃ a, w.cell? ⟨mb, 2, none⟩ = some (.slice a nf nf) ∧ (nf ≠ 0 → a = some ⟨tb, 0, none⟩)
  r : ∀ k, k < nf → ∃ nb, w.cell? ⟨tb, k * 4 + 2, none⟩ = some (.slice (some ⟨nb, 0, none⟩) (nI k) (nI k)) ∧ (∀ q, q < nI k * 3 → can w ⟨nb, q, none⟩) ∧ nb ≠ tb ∧ nb ≠ mb ∧ lo ≤ nb ∧ nb < hi
theorem SM.fill {w w' : World} {mb tb nf lo hi nb off : Nat} {nI : Nat → Nat} {vs : List Value} (h : SM w mb tb nf lo hi nI) (hF : Fill w w' nb off vs) (h1 : nb ≠ tb) (h2 : nb ≠ mb) : SM w' mb tb nf lo hi nI := by
  obtain ⟨a, c2, ha⟩ := h.c2
  have e : ∀ b j, b ≠ nb → w'.cell? ⟨b, j, none⟩ = w.cell? ⟨b, j, none⟩ := fun b j hb => by rw [hF.cell, if_neg (fun q => hb q.1)]
  refine ⟨⟨a, by rw [e mb 2 h2.symm]; exact c2, ha⟩, fun k hk => ?_⟩
  obtain ⟨nk, a1, a2, a3⟩ := h.r k hk
  refine ⟨nk, by rw [e tb _ h1.symm]; exact a1, fun q hq => ?_, a3⟩
  obtain ⟨⟨v, hv⟩, hf⟩ := a2 q hq
  refine ⟨?_, by rw [hF.frozen]; exact hf⟩
  rw [hF.cell]
  split
  · rename_i g
    exact ⟨_, List.getElem?_eq_getElem (by omega)⟩
  · exact ⟨v, hv⟩
theorem SM.of {wd w : World} {L mb : Nat} {m : Nat → Value} {P : PM} (H : HM wd w L mb m P) (W : WFP P) (hwd : wd.heap.size ≤ w.heap.size) : ∃ tb, SM w mb tb P.nf (L + 1) wd.heap.size (fun k => (P.fn k).nI) := by
  haveI := outNil
  have hmb : w.cell? ⟨mb, 0, none⟩ = some (m 0) := H.modAt.c 0 (by decide)
  by_cases h0 : P.nf = 0
  · obtain ⟨a, c2, _⟩ := H.fn
    exact ⟨0, ⟨a, c2, fun q => absurd h0 q⟩, fun k hk => by omega⟩
  · rcases H.inv.f2 with ⟨g, _⟩ | ⟨_, fb, h1, h2, h3, h4⟩
    · exact absurd g h0
    · have row : FnRow w (L + 1) fb P.nf P.nf P.fn := h2.same H.st h4 (by rw [List.mem_range]; omega) (fun k hk => by rw [List.mem_range] at hk; omega)
      refine ⟨fb, ⟨_, by rw [← h1]; exact H.modAt.c 2 (by decide), fun _ => rfl⟩, fun k hk => ?_⟩
      obtain ⟨nb, a1, a2, a3, a4, a5⟩ := h2.c2 k hk
      have n1 := (W.fn k hk).n0
      have st := H.st
      have lb : nb ∉ List.range (L + 1) := by rw [List.mem_range]; omega
      have c1 : w.cell? ⟨fb, k * 4 + 2, none⟩ = some (.slice (some ⟨nb, 0, none⟩) (P.fn k).nI (P.fn k).nI) := by
        rw [st.cell (p := ⟨fb, k * 4 + 2, none⟩) h4 (by rw [List.mem_range]; show ¬ fb < L + 1; omega)]; exact a1
      have I : InsRow w nb (P.fn k).nI (P.fn k).ins := a2.mv st a4 lb
      refine ⟨nb, c1, fun q hq => ?_, a5, fun e => ?_, a3, a4⟩
      · have hq : q < (P.fn k).nI * 3 := hq
        refine ⟨?_, I.fz q⟩
        have h3' : q % 3 = 0 ∨ q % 3 = 1 ∨ q % 3 = 2 := by omega
        rcases h3' with z | z | z
        · have := I.i0 (q / 3) (by omega)
          rw [show q / 3 * 3 = q by omega] at this
          exact ⟨_, this⟩
        · have := I.i1 (q / 3) (by omega)
          rw [show q / 3 * 3 + 1 = q by omega] at this
          exact ⟨_, this⟩
        · have := I.i2 (q / 3) (by omega)
          rw [show q / 3 * 3 + 2 = q by omega] at this
          exact ⟨_, this⟩
      · subst e
        have i0 := I.i0 0 (by omega)
        rw [Nat.zero_mul] at i0
        rw [hmb] at i0
        have t0 := H.inv.t0
        rcases t0 with ⟨_, q⟩ | ⟨_, b, q, _⟩
        · rw [q] at i0; cases i0
        · rw [q] at i0; cases i0
/-! ### The loop -/
structure KK (w0 w : World) (bs bb b bi bt pb cb : Nat) (old : Option Addr) (oo : Option (List FF)) : Prop where
  S : Same [] w0.heap.size w0 w
  B : ∃ c, BN w b bi bt c
  Z : PZe w pb cb
  c : w.cell? ⟨bb, 0, none⟩ = some (rp b)
  R : RgA w (bs ≤ ·) old oo
  lo : w0.heap.size ≤ b ∧ w0.heap.size ≤ bi ∧ w0.heap.size ≤ bt ∧ w0.heap.size ≤ pb ∧ w0.heap.size ≤ cb
  lt : b < bs ∧ bi < bs ∧ bt < bs ∧ pb < bs ∧ cb < bs ∧ bb < bs
  le : bs ≤ w.heap.size ∧ w0.heap.size ≤ bs
  ne : (b ≠ pb ∧ b ≠ cb ∧ b ≠ bb) ∧ (bi ≠ pb ∧ bi ≠ cb ∧ bi ≠ bb) ∧ (bt ≠ pb ∧ bt ≠ cb ∧ bt ≠ bb) ∧ pb ≠ bb ∧ cb ≠ bb
section
variable {w0 w w' : World} {bs bb b bi bt pb cb : Nat} {old : Option Addr} {oo : Option (List FF)}
theorem KK.keep (h : KK w0 w bs bb b bi bt pb cb old oo) (hS : Same [] w.heap.size w w') : KK w0 w' bs bb b bi bt pb cb old oo := by
  obtain ⟨c, hB⟩ := h.B
  have le := h.le
  exact ⟨h.S.nx hS, ⟨c, hB.keep hS⟩, h.Z.same hS (Nat.le_refl _) (by simp) (by simp), by rw [hS.cell (p := ⟨bb, 0, none⟩) (cell_lt h.c) (by simp)]; exact h.c, h.R.same hS (Nat.le_refl _) (by simp), h.lo, h.lt, by have := hS.size; omega, h.ne⟩
/-- The compiler has moved. -/
theorem KK.prep (h : KK w0 w bs bb b bi bt pb cb old oo) (hS : Same [pb, cb] w.heap.size w w') (hZ : PZe w' pb cb) : KK w0 w' bs bb b bi bt pb cb old oo := by
  obtain ⟨c, hB⟩ := h.B
  have le := h.le; have lt := h.lt; have lo := h.lo; have ne := h.ne
  exact ⟨h.S.trans (hS.mono h.S.size (fun k hk hl => by simp at hk; omega)), ⟨c, BN.go hB hS (by simp; omega) (by simp; omega) (by simp; omega)⟩, hZ, by rw [hS.cell (p := ⟨bb, 0, none⟩) (cell_lt h.c) (by simp; omega)]; exact h.c, h.R.same hS (Nat.le_refl _) (by simp; omega), lo, lt, by have := hS.size; omega, ne⟩
theorem KK.bin (h : KK w0 w bs bb b bi bt pb cb old oo) (hS : Same [b, bi, bt] w.heap.size w w') (hB : ∃ c, BN w' b bi bt c) : KK w0 w' bs bb b bi bt pb cb old oo := by
  have le := h.le; have lt := h.lt; have lo := h.lo; have ne := h.ne
  exact ⟨h.S.trans (hS.mono h.S.size (fun k hk hl => by simp at hk; omega)), hB, h.Z.same hS (Nat.le_refl _) (by simp; omega) (by simp; omega), by rw [hS.cell (p := ⟨bb, 0, none⟩) (cell_lt h.c) (by simp; omega)]; exact h.c, h.R.same hS (Nat.le_refl _) (by simp; omega), lo, lt, by have := hS.size; omega, ne⟩
/-- Blocks from lo to hi have moved; the old code lies below. -/
theorem KK.stamp (h : KK w0 w bs bb b bi bt pb cb old oo) {lo hi : Nat} (hS : Same (List.range' lo (hi - lo)) w.heap.size w w') (hlo : bs ≤ lo) (hR : RgA w (fun k => bs ≤ k ∧ k < lo) old oo) : KK w0 w' bs bb b bi bt pb cb old oo := by
  obtain ⟨c, hB⟩ := h.B
  have le := h.le; have lt := h.lt; have lo' := h.lo; have ne := h.ne
  have no : ∀ k, k < bs → k ∉ List.range' lo (hi - lo) := fun k hk q => by rw [List.mem_range'_1] at q; omega
  refine ⟨h.S.trans (hS.mono h.S.size (fun k hk hl => by rw [List.mem_range'_1] at hk; omega)), ⟨c, BN.go hB hS (no _ (by omega)) (no _ (by omega)) (no _ (by omega))⟩, h.Z.same hS (Nat.le_refl _) (no _ (by omega)) (no _ (by omega)), by rw [hS.cell (p := ⟨bb, 0, none⟩) (cell_lt h.c) (no bb (by omega))]; exact h.c, ?_, lo', lt, by have := hS.size; omega, ne⟩
  exact (hR.same hS (Nat.le_refl _) (fun k hk q => by rw [List.mem_range'_1] at hk; omega)).weak (fun k hk _ => hk.1)
theorem KK.reg (h : KK w0 w bs bb b bi bt pb cb old oo) {c : Option Addr} {oc : Option (List FF)} (hc : RgA w (bs ≤ ·) c oc) : KK w0 w bs bb b bi bt pb cb c oc := ⟨h.S, h.B, h.Z, h.c, hc, h.lo, h.lt, h.le, h.ne⟩
end
theorem Keeps_loop (w0 : World) (sa : Option Addr) (l c : Nat) (hs : ScriptAt w0 sa l) (bs bb b bi bt pb cb : Nat) (R : Value → World → Prop) (hR : ∀ w', Same [] w0.heap.size w0 w' → R (.int .i64 (-1)) w') :
    ∀ (f i : Nat) (w : World) (old : Option Addr) (oo : Option (List FF)), i + f = l → KK w0 w bs bb b bi bt pb cb old oo → preplaw_KeepsUpTo.L1 sa l c bb (some ⟨pb, 0, none⟩) old (showO oo) i R (fun _ _ => False) w := by
  intro f
  induction f with
  | zero =>
    intro i w old oo hi C
    refine preplaw_KeepsUpTo.step1 _ _ _ _ _ _ _ _ _ _ _ ?_
    unfold preplaw_KeepsUpTo.V1
    exact cond_false' (decide_eq_false (by omega)) (hR w C.S)
  | succ f ih =>
    intro i w old oo hi C
    refine preplaw_KeepsUpTo.step1 _ _ _ _ _ _ _ _ _ _ _ ?_
    unfold preplaw_KeepsUpTo.V1
    refine cond_true' (decide_eq_true (by omega)) ?_
    generalize hM : (4398046511104 : Int) = M
    refine cond_intro (fun hm => ?_) (fun hm => hR w C.S)
    subst hM
    have hm : (i : Int) < 4398046511104 := of_decide_eq_true hm
    rcases hs with h0 | ⟨sb, off, rfl, hs⟩
    · omega
    obtain ⟨o, hF, hO0⟩ := hs i (by omega)
    have L4 : ∀ w1 old1 oo1, KK w0 w1 bs bb b bi bt pb cb old1 oo1 → preplaw_KeepsUpTo.L4 (some ⟨sb, off, none⟩) l c bb (some ⟨pb, 0, none⟩) old1 (showO oo1) i R (fun _ _ => False) w1 := fun w1 old1 oo1 C1 => by
      refine preplaw_KeepsUpTo.step4 _ _ _ _ _ _ _ _ _ _ _ ?_
      unfold preplaw_KeepsUpTo.V4
      have e : IntKind.wrap .i64 ((i : Int) + 1) = ((i + 1 : Nat) : Int) := by rw [wrap_i64 (by omega) (by omega)]; omega
      rw [e]
      exact ih (i + 1) w1 old1 oo1 (by omega) C1
    clear ih
    -- the code is shown again
    have L8 : ∀ (w1 : World) (ca : Option Addr) (oc : Option (List FF)) (ok : Nat → Prop) (e : Int), KK w0 w1 bs bb b bi bt pb cb old oo → RgA w1 ok ca oc → (∀ k, ok k → bs ≤ k) → preplaw_KeepsUpTo.L8 (some ⟨sb, off, none⟩) l c bb (some ⟨pb, 0, none⟩) old (showO oo) i ca e (showO oc) R (fun _ _ => False) w1 := fun w1 ca oc ok e C1 rg hok => by
      refine preplaw_KeepsUpTo.step8 _ _ _ _ _ _ _ _ _ _ _ _ _ _ ?_
      unfold preplaw_KeepsUpTo.V8
      refine RunsQ.post (codeShow_spec rg) ?_
      rintro v w2 ⟨rfl, S2⟩
      refine ⟨_, rfl, cond_false' (by rw [beq_self_eq_true]; rfl) (cond_intro (fun _ => L4 w2 _ _ ?_) (fun _ => L4 w2 _ _ (C1.keep S2)))⟩
      exact (C1.keep S2).reg ((rg.weak (fun k hk _ => hok k hk)).same S2 (Nat.le_refl _) (by simp))
    -- the stamping
    have L7 : ∀ (w1 : World) (mb tb nf lo hi : Nat) (nI : Nat → Nat) (ca : Option Addr) (oc : Option (List FF)) (e : Int), nf ≤ 900 → (∀ k, k < nf → nI k ≤ 900) → bs ≤ lo → (∀ w2, Same (List.range' lo (hi - lo)) w1.heap.size w1 w2 → preplaw_KeepsUpTo.L8 (some ⟨sb, off, none⟩) l c bb (some ⟨pb, 0, none⟩) old (showO oo) i ca e (showO oc) R (fun _ _ => False) w2) →
        ∀ (n k : Nat) (w2 : World), k + n = nf → SM w2 mb tb nf lo hi nI → Same (List.range' lo (hi - lo)) w1.heap.size w1 w2 → preplaw_KeepsUpTo.L7 (some ⟨sb, off, none⟩) l c bb (some ⟨pb, 0, none⟩) old (showO oo) i (some ⟨mb, 0, none⟩) ca e (showO oc) (k : Int) R (fun _ _ => False) w2 := fun w1 mb tb nf lo hi nI ca oc e hnf hnI hlo fin => by
      intro n
      induction n with
      | zero =>
        intro k w2 hk M S2
        obtain ⟨a, c2, _⟩ := M.c2
        refine preplaw_KeepsUpTo.step7 _ _ _ _ _ _ _ _ _ _ _ _ _ _ _ _ ?_
        unfold preplaw_KeepsUpTo.V7
        simp only [nilV_some, Nat.zero_add]
        exact ⟨_, _, _, c2, cond_false' (decide_eq_false (by omega)) (fin w2 S2)⟩
      | succ n ihn =>
        intro k w2 hk M S2
        have hkn : k < nf := by omega
        have hnk := hnI k hkn
        have L9 : ∀ (q j : Nat) (w3 : World), j + q = nI k → SM w3 mb tb nf lo hi nI → Same (List.range' lo (hi - lo)) w1.heap.size w1 w3 → preplaw_KeepsUpTo.L9 (some ⟨sb, off, none⟩) l c bb (some ⟨pb, 0, none⟩) old (showO oo) i (some ⟨mb, 0, none⟩) ca e (showO oc) (k : Int) (j : Int) R (fun _ _ => False) w3 := by
          intro q
          induction q with
          | zero =>
            intro j w3 hj M3 S3
            obtain ⟨a, c2, ha⟩ := M3.c2
            obtain ⟨nb, r1, r2, r3, r4, r5, r6⟩ := M3.r k hkn
            have ha := ha (by omega)
            subst ha
            refine preplaw_KeepsUpTo.step9 _ _ _ _ _ _ _ _ _ _ _ _ _ _ _ _ _ ?_
            unfold preplaw_KeepsUpTo.V9
            simp only [nilV_some, Nat.zero_add]
            refine ⟨_, _, _, c2, ⟨by omega, by omega⟩, ?_⟩
            rw [nilV_some]
            simp only [add_mk, Nat.zero_add, Int.toNat_natCast]
            refine ⟨_, _, _, r1, cond_false' (decide_eq_false (by omega)) ?_⟩
            rw [wrap_i64 (by omega) (by omega), show (k : Int) + 1 = ((k + 1 : Nat) : Int) by omega]
            exact ihn (k + 1) w3 (by omega) M3 S3
          | succ q ihq =>
            intro j w3 hj M3 S3
            obtain ⟨a, c2, ha⟩ := M3.c2
            obtain ⟨nb, r1, r2, r3, r4, r5, r6⟩ := M3.r k hkn
            have ha := ha (by omega)
            subst ha
            refine preplaw_KeepsUpTo.step9 _ _ _ _ _ _ _ _ _ _ _ _ _ _ _ _ _ ?_
            unfold preplaw_KeepsUpTo.V9
            simp only [nilV_some, Nat.zero_add]
            refine ⟨_, _, _, c2, ⟨by omega, by omega⟩, ?_⟩
            rw [nilV_some]
            simp only [add_mk, Nat.zero_add, Int.toNat_natCast]
            refine ⟨_, _, _, r1, cond_true' (decide_eq_true (by omega)) ⟨_, _, _, c2, ⟨by omega, by omega⟩, ?_⟩⟩
            rw [nilV_some]
            simp only [add_mk, Nat.zero_add, Int.toNat_natCast]
            refine ⟨_, _, _, r1, ⟨by omega, by omega⟩, ?_⟩
            rw [nilV_some]
            simp only [add_mk, Nat.zero_add, Int.toNat_natCast]
            refine putCells_intro nb _ _ w3 _ (fun z hz => r2 _ (by simp only [List.length_cons, List.length_nil] at hz; omega)) (fun w4 hF => ?_)
            rw [wrap_i64 (by omega) (by omega), show (j : Int) + 1 = ((j + 1 : Nat) : Int) by omega]
            refine ihq (j + 1) w4 (by omega) (M3.fill hF r3 r4) (S3.trans ((hF.same _).mono (Nat.le_refl _) (fun z hz _ => ?_)))
            simp at hz
            rw [List.mem_range'_1]
            omega
        obtain ⟨a, c2, ha⟩ := M.c2
        refine preplaw_KeepsUpTo.step7 _ _ _ _ _ _ _ _ _ _ _ _ _ _ _ _ ?_
        unfold preplaw_KeepsUpTo.V7
        simp only [nilV_some, Nat.zero_add]
        exact ⟨_, _, _, c2, cond_true' (decide_eq_true (by omega)) (L9 (nI k) 0 w2 (by omega) M S2)⟩
    -- from the step on
    have L3 : ∀ (w1 : World) (ob : Nat), KK w0 w1 bs bb b bi bt pb cb old oo → OpAt w1 ob o → preplaw_KeepsUpTo.L3 (some ⟨sb, off, none⟩) l c bb (some ⟨pb, 0, none⟩) old (showO oo) i ob R (fun _ _ => False) w1 := fun w1 ob C1 O1 => by
      refine preplaw_KeepsUpTo.step3 _ _ _ _ _ _ _ _ _ _ _ _ ?_
      unfold preplaw_KeepsUpTo.V3
      refine ⟨_, O1.c0, cond_intro (fun _ => L4 w1 _ _ C1) (fun _ => ⟨_, C1.c, _, O1.c4, ?_⟩)⟩
      obtain ⟨cs, hB⟩ := C1.B
      have le := C1.le; have lt := C1.lt; have lo := C1.lo; have ne := C1.ne
      -- the old code lies below what is to come
      have Rold : RgA w1 (fun k => bs ≤ k ∧ k < w1.heap.size + 1) old oo := C1.R.weak (fun k hk hl => ⟨hk, by omega⟩)
      refine RunsQ.post (Read_spec hB o.s) ?_
      rintro v w2 (⟨x, q, mb, m, hd, rfl, B2, H2, S2⟩ | ⟨n, a, c', hd, rfl, B2, S2⟩)
      · have W := decA_wf hd
        have PBx := W.pb
        have C2 := C1.bin S2 ⟨_, B2⟩
        have R2 := Rold.same S2 (Nat.le_refl _) (by simp; omega)
        have z2 := S2.size
        refine ⟨_, rfl, RunsQ.post (Show_spec (H2.sx PBx.sb)) ?_⟩
        rintro v w3 ⟨rfl, S3⟩
        have z3 := S3.size
        have H3 := H2.keep S3
        have C3 := C2.keep S3
        have R3 := R2.same S3 (Nat.le_refl _) (by simp)
        refine ⟨_, rfl, RunsQ.post (Compile_spec H3 PBx (wf_room W) C3.Z (by omega) (by omega)) ?_⟩
        rintro v w4 ⟨Z4, S4, hv4⟩
        have z4 := S4.size
        have H4 := H3.at2 S4 (.inl (by omega)) (.inl (by omega))
        have C4 := C3.prep S4 Z4
        have R4 := R3.same S4 (Nat.le_refl _) (by simp; omega)
        cases hc : comp x.2 with
        | inl er =>
        obtain ⟨ek, eat⟩ := er
        rw [hc] at hv4
        have hv4 : v = _ := hv4
        subst hv4
        obtain ⟨q1, q2⟩ := compG_err x.2.nf 0 [] (ek, eat) (by omega) hc
        have rg4 : RgA w4 (fun k => w3.heap.size ≤ k) none none := .inl ⟨rfl, rfl⟩
        refine ⟨_, _, _, _, rfl, ?_⟩
        refine RunsQ.post (Show_spec (H4.sx PBx.sb)) ?_
        rintro v w5 ⟨rfl, S5⟩
        have H5 := H4.keep S5
        have C5 := C4.keep S5
        have z5 := S5.size
        refine ⟨_, rfl, cond_false' (by rw [beq_self_eq_true]; rfl) (RunsQ.post (codeShow_spec C5.R) ?_)⟩
        rintro v w6 ⟨rfl, S6⟩
        have H6 := H5.keep S6
        have C6 := C5.keep S6
        have z6 := S6.size
        refine ⟨_, rfl, cond_false' (by rw [beq_self_eq_true]; rfl) (RunsQ.post (PNew_spec w6) ?_)⟩
        rintro v w7 ⟨pb2, cb2, rfl, Z7, S7, lp2, lc2⟩
        have H7 := H6.keep S7
        have z7 := S7.size
        refine ⟨_, rfl, RunsQ.post (Compile_spec H7 PBx (wf_room W) Z7 (.inr (by omega)) (.inr (by omega))) ?_⟩
        rintro v w8 ⟨Z8, S8, hv8⟩
        have z8 := S8.size
        have H8 := H7.at2 S8 (.inr (by omega)) (.inr (by omega))
        have T68 : Same [] w6.heap.size w6 w8 := S7.trans (S8.mono S7.size (fun k hk hl => by simp at hk; omega))
        have C8 := C6.keep T68
        have T48 : Same [] w4.heap.size w4 w8 := (S5.nx S6).nx T68
        rw [hc] at hv8
        have hv8 : v = _ := hv8
        subst hv8
        have rgd : RgA w8 (fun k => w3.heap.size ≤ k) none none := .inl ⟨rfl, rfl⟩
        have rg8 := rg4.same T48 (Nat.le_refl _) (by simp)
        refine ⟨_, _, _, _, rfl, RunsQ.post (codeShow_spec rg8) ?_⟩
        rintro v w9 ⟨rfl, S9⟩
        refine ⟨_, rfl, RunsQ.post (codeShow_spec (rgd.same S9 (Nat.le_refl _) (by simp))) ?_⟩
        rintro v w10 ⟨rfl, S10⟩
        have T410 : Same [] w4.heap.size w4 w10 := (T48.nx S9).nx S10
        have T810 : Same [] w8.heap.size w8 w10 := S9.nx S10
        have H10 := H8.keep T810
        have C10 := C8.keep T810
        have z10 := T410.size
        refine ⟨_, rfl, cond_false' (by rw [beq_self_eq_true]; rfl) (cond_false' (by simp) (cond_false' (by simp) ?_))⟩
        refine preplaw_KeepsUpTo.step5 _ _ _ _ _ _ _ _ _ _ _ _ _ _ _ _ _ _ ?_
        unfold preplaw_KeepsUpTo.V5
        refine cond_false' (by simp) (RunsQ.post (placed_err H10 q1 q2) ?_)
        rintro v w10 ⟨rfl, rfl⟩
        refine ⟨_, rfl, cond_false' rfl ?_⟩
        refine cond_false' rfl ?_
        generalize e12 : w10 = w12 at *
        have H12 := H10
        have C12 := C10
        have T412 := T410
        have z12 := T412.size
        have fin : ∀ w13, Same (List.range' (w1.heap.size + 1) (w2.heap.size - (w1.heap.size + 1))) w12.heap.size w12 w13 → preplaw_KeepsUpTo.L8 (some ⟨sb, off, none⟩) l c bb (some ⟨pb, 0, none⟩) old (showO oo) i none 29 (showO none) R (fun _ _ => False) w13 := fun w13 S13 => by
          refine L8 w13 none none (fun k => w3.heap.size ≤ k) 29 (C12.stamp S13 (by omega) (R4.same T412 (Nat.le_refl _) (by simp))) ((rg4.same T412 (Nat.le_refl _) (by simp)).same S13 (Nat.le_refl _) (fun k hk q => ?_)) (fun k hk => by omega)
          rw [List.mem_range'_1] at hk
          omega
        obtain ⟨tb, sm⟩ := SM.of H12 W (by omega)
        refine preplaw_KeepsUpTo.step6 _ _ _ _ _ _ _ _ _ _ _ _ _ _ _ ?_
        unfold preplaw_KeepsUpTo.V6
        refine cond_true' rfl ?_
        exact L7 w12 mb tb x.2.nf (w1.heap.size + 1) w2.heap.size (fun k => (x.2.fn k).nI) none none 29 (by have := PBx.nf; omega) (fun k hk => by have := (PBx.fn k hk).nI; omega) (by omega) fin x.2.nf 0 w12 (by omega) sm (Same.refl _ _ _)
        | inr fs =>
        rw [hc] at hv4
        obtain ⟨cdb, rfl, cd4⟩ := hv4
        obtain ⟨o1, o2, o3⟩ := comp_ok W hc
        have rg4 : RgA w4 (w3.heap.size ≤ ·) (some ⟨cdb, 0, none⟩) (some fs) := .inr ⟨cdb, fs, rfl, rfl, cd4.toM, o3, o2⟩
        refine ⟨_, _, _, _, rfl, ?_⟩
        refine RunsQ.post (Show_spec (H4.sx PBx.sb)) ?_
        rintro v w5 ⟨rfl, S5⟩
        have H5 := H4.keep S5
        have C5 := C4.keep S5
        have z5 := S5.size
        refine ⟨_, rfl, cond_false' (by rw [beq_self_eq_true]; rfl) (RunsQ.post (codeShow_spec C5.R) ?_)⟩
        rintro v w6 ⟨rfl, S6⟩
        have H6 := H5.keep S6
        have C6 := C5.keep S6
        have z6 := S6.size
        refine ⟨_, rfl, cond_false' (by rw [beq_self_eq_true]; rfl) (RunsQ.post (PNew_spec w6) ?_)⟩
        rintro v w7 ⟨pb2, cb2, rfl, Z7, S7, lp2, lc2⟩
        have H7 := H6.keep S7
        have z7 := S7.size
        refine ⟨_, rfl, RunsQ.post (Compile_spec H7 PBx (wf_room W) Z7 (.inr (by omega)) (.inr (by omega))) ?_⟩
        rintro v w8 ⟨Z8, S8, hv8⟩
        have z8 := S8.size
        have H8 := H7.at2 S8 (.inr (by omega)) (.inr (by omega))
        have T68 : Same [] w6.heap.size w6 w8 := S7.trans (S8.mono S7.size (fun k hk hl => by simp at hk; omega))
        have C8 := C6.keep T68
        have T48 : Same [] w4.heap.size w4 w8 := (S5.nx S6).nx T68
        rw [hc] at hv8
        obtain ⟨cdb2, rfl, cd2⟩ := hv8
        have rgd : RgA w8 (w7.heap.size ≤ ·) (some ⟨cdb2, 0, none⟩) (some fs) := .inr ⟨cdb2, fs, rfl, rfl, cd2.toM, o3, o2⟩
        have rg8 := rg4.same T48 (Nat.le_refl _) (by simp)
        refine ⟨_, _, _, _, rfl, RunsQ.post (codeShow_spec rg8) ?_⟩
        rintro v w9 ⟨rfl, S9⟩
        refine ⟨_, rfl, RunsQ.post (codeShow_spec (rgd.same S9 (Nat.le_refl _) (by simp))) ?_⟩
        rintro v w10 ⟨rfl, S10⟩
        have T410 : Same [] w4.heap.size w4 w10 := (T48.nx S9).nx S10
        have T810 : Same [] w8.heap.size w8 w10 := S9.nx S10
        have H10 := H8.keep T810
        have C10 := C8.keep T810
        have z10 := T410.size
        refine ⟨_, rfl, cond_false' (by rw [beq_self_eq_true]; rfl) (cond_false' (by simp) (cond_false' (by simp) ?_))⟩
        refine preplaw_KeepsUpTo.step5 _ _ _ _ _ _ _ _ _ _ _ _ _ _ _ _ _ _ ?_
        unfold preplaw_KeepsUpTo.V5
        refine cond_false' (by simp) (RunsQ.post (placed_ok H10 ⟨cdb, 0, none⟩) ?_)
        rintro v w10 ⟨rfl, rfl⟩
        refine ⟨_, rfl, cond_false' rfl ?_⟩
        refine cond_true' rfl (RunsQ.post (WellFlat_spec H10 W hc (cd4.same T410 (Nat.le_refl _) (by simp))) ?_)
        rintro v w12 ⟨rfl, S12⟩
        refine ⟨_, rfl, cond_false' rfl ?_⟩
        have H12 := H10.keep S12
        have C12 := C10.keep S12
        have T412 := T410.nx S12
        have z12 := T412.size
        have fin : ∀ w13, Same (List.range' (w1.heap.size + 1) (w2.heap.size - (w1.heap.size + 1))) w12.heap.size w12 w13 → preplaw_KeepsUpTo.L8 (some ⟨sb, off, none⟩) l c bb (some ⟨pb, 0, none⟩) old (showO oo) i (some ⟨cdb, 0, none⟩) 0 (showO (some fs)) R (fun _ _ => False) w13 := fun w13 S13 => by
          refine L8 w13 (some ⟨cdb, 0, none⟩) (some fs) (fun k => w3.heap.size ≤ k) 0 (C12.stamp S13 (by omega) (R4.same T412 (Nat.le_refl _) (by simp))) ((rg4.same T412 (Nat.le_refl _) (by simp)).same S13 (Nat.le_refl _) (fun k hk q => ?_)) (fun k hk => by omega)
          rw [List.mem_range'_1] at hk
          omega
        obtain ⟨tb, sm⟩ := SM.of H12 W (by omega)
        refine preplaw_KeepsUpTo.step6 _ _ _ _ _ _ _ _ _ _ _ _ _ _ _ ?_
        unfold preplaw_KeepsUpTo.V6
        refine cond_true' rfl ?_
        exact L7 w12 mb tb x.2.nf (w1.heap.size + 1) w2.heap.size (fun k => (x.2.fn k).nI) (some ⟨cdb, 0, none⟩) (some fs) 0 (by have := PBx.nf; omega) (fun k hk => by have := (PBx.fn k hk).nI; omega) (by omega) fin x.2.nf 0 w12 (by omega) sm (Same.refl _ _ _)
      · have C2 := C1.bin S2 ⟨_, B2⟩
        refine ⟨_, rfl, RunsQ.post (ModShow_nil w2) ?_⟩
        rintro v w2 ⟨rfl, rfl⟩
        refine ⟨_, rfl, RunsQ.post (Compile_nil C2.Z) ?_⟩
        rintro v w2 ⟨rfl, rfl⟩
        refine ⟨_, _, _, _, rfl, RunsQ.post (ModShow_nil w2) ?_⟩
        rintro v w2 ⟨rfl, rfl⟩
        refine ⟨_, rfl, cond_false' (by rw [beq_self_eq_true]; rfl) (RunsQ.post (codeShow_spec C2.R) ?_)⟩
        rintro v w3 ⟨rfl, S3⟩
        have C3 := C2.keep S3
        refine ⟨_, rfl, cond_false' (by rw [beq_self_eq_true]; rfl) (RunsQ.post (PNew_spec w3) ?_)⟩
        rintro v w4 ⟨pb2, cb2, rfl, Z4, S4, _, _⟩
        have C4 := C3.keep S4
        refine ⟨_, rfl, RunsQ.post (Compile_nil Z4) ?_⟩
        rintro v w4 ⟨rfl, rfl⟩
        have rn : ∀ w', RgA w' (bs ≤ ·) none none := fun w' => .inl ⟨rfl, rfl⟩
        refine ⟨_, _, _, _, rfl, RunsQ.post (codeShow_spec (rn w4)) ?_⟩
        rintro v w5 ⟨rfl, S5⟩
        refine ⟨_, rfl, RunsQ.post (codeShow_spec (rn w5)) ?_⟩
        rintro v w6 ⟨rfl, S6⟩
        have C6 := (C4.keep S5).keep S6
        refine ⟨_, rfl, cond_false' (by rw [beq_self_eq_true]; rfl) (cond_false' rfl (cond_false' rfl ?_))⟩
        refine preplaw_KeepsUpTo.step5 _ _ _ _ _ _ _ _ _ _ _ _ _ _ _ _ _ _ ?_
        unfold preplaw_KeepsUpTo.V5
        refine cond_false' rfl (RunsQ.post placed_nil ?_)
        rintro v w6 ⟨rfl, rfl⟩
        refine ⟨_, rfl, cond_false' rfl (cond_false' rfl ?_)⟩
        refine preplaw_KeepsUpTo.step6 _ _ _ _ _ _ _ _ _ _ _ _ _ _ _ ?_
        unfold preplaw_KeepsUpTo.V6
        exact cond_false' rfl (L8 w6 none none _ 32 C6 (rn w6) (fun k hk => hk))
    have le := C.le; have lt := C.lt
    refine preplaw_KeepsUpTo.step2 _ _ _ _ _ _ _ _ _ _ _ ?_
    unfold preplaw_KeepsUpTo.V2
    have fo := hO0.same C.S
    simp only [nilV_some, add_mk, Int.toNat_natCast, Nat.zero_add]
    refine ⟨⟨by omega, by omega⟩, _, _, _, _, _, _, fo.c0, fo.c1, fo.c2, fo.c3, fo.c4, fo.c5, newOp (o := o) fun b8 w1 hb8 O1 S1 => ?_⟩
    have C1 := C.keep S1
    have z1 := S1.size
    refine ⟨_, O1.c0, cond_intro (fun _ => ⟨_, O1.c1, RunsQ.post (Placed_spec C1.Z o.a) ?_⟩) (fun _ => L3 w1 b8 C1 O1)⟩
    rintro v w2 ⟨rfl, Z2, S2⟩
    exact ⟨_, rfl, cond_false' rfl (L3 w2 b8 (C1.prep S2 Z2) (O1.same S2 O1.lt (by simp; omega)))⟩
theorem Keeps_spec (w : World) (a : Option Addr) (l c : Nat) (hs : ScriptAt w a l) : Runs Try.prog preplaw_Keeps.id #[.slice a l c] w fun v w' => v = .bool true ∧ Same [] w.heap.size w w' := by
  refine preplaw_Keeps.enter _ _ _ _ _ _ ?_
  unfold preplaw_Keeps.V
  have h : Runs Try.prog preplaw_KeepsUpTo.id #[.slice a l c] w fun v w' => v = .int .i64 (-1) ∧ Same [] w.heap.size w w' := by
    refine preplaw_KeepsUpTo.enter _ _ _ _ _ _ ?_
    unfold preplaw_KeepsUpTo.V
    refine RunsQ.post (Ground_spec w) ?_
    rintro v w5 ⟨b, bi, bt, rfl, hB, S5, l1, l2, l3⟩
    obtain ⟨q1, q2, q3⟩ := BL.lts hB
    refine ⟨_, rfl, letB_intro fun b7 hb7 => letW_intro fun w8 hw8 => ?_⟩
    have S8 : Same [] w5.heap.size w5 w8 := by rw [hw8]; exact (Same.refl _ _ _).alloc (Nat.le_refl _) _
    have z8 : w8.heap.size = w5.heap.size + 1 := by rw [hw8]; simp
    have c8 : w8.cell? ⟨b7, 0, none⟩ = some (.pointer none) := by rw [hw8, hb7, World.cell?_alloc_new]; rfl
    have f8 : w8.frozen? ⟨b7, 0, none⟩ = false := by rw [hw8, hb7, World.frozen?_alloc_new]
    clear hw8
    refine ⟨⟨⟨_, c8⟩, f8⟩, letW_intro fun w9 hw9 => ?_⟩
    have S9 : Same [b7] w8.heap.size w8 w9 := by rw [hw9]; exact (Same.refl _ _ _).setCell (.inr (by simp)) _
    have c9 : w9.cell? ⟨b7, 0, none⟩ = some (rp b) := by rw [hw9, cell_setCell, if_pos ⟨rfl, rfl⟩, c8]; rfl
    clear hw9
    have z9 := S9.size
    have z5 := S5.size
    have B9 : BN w9 b bi bt sc0 := BN.go (hB.keep S8) S9 (by simp; omega) (by simp; omega) (by simp; omega)
    have T9 : Same [] w.heap.size w w9 := (S5.nx S8).trans (S9.mono (by omega) (fun k hk hl => by simp at hk; omega))
    refine RunsQ.post (PNew_spec w9) ?_
    rintro v w11 ⟨pb, cb, rfl, Z11, S11, lp, lc⟩
    obtain ⟨p1, p2, p3⟩ := Z11.lt
    have z11 := S11.size
    have rn : RgA w11 (w11.heap.size ≤ ·) none none := .inl ⟨rfl, rfl⟩
    refine ⟨_, rfl, RunsQ.post (codeShow_spec rn) ?_⟩
    rintro v w12 ⟨rfl, S12⟩
    refine ⟨_, rfl, ?_⟩
    have z12 := S12.size
    have C11 : KK w w11 w11.heap.size b7 b bi bt pb cb none none := ⟨T9.nx S11, ⟨sc0, B9.keep S11⟩, Z11, by rw [S11.cell (p := ⟨b7, 0, none⟩) (show b7 < _ by omega) (by simp)]; exact c9, rn, by omega, by omega, by omega, by omega⟩
    exact Keeps_loop w a l c hs w11.heap.size b7 b bi bt pb cb _ (fun w' h => ⟨rfl, h⟩) l 0 w12 none none (by omega) (C11.keep S12)
  refine RunsQ.post h ?_
  rintro v w1 ⟨rfl, hS⟩
  exact ⟨_, rfl, rfl, hS⟩
end Go.Proofs.Qxb6500321a
