/-
  A module compiled.
-/
import Derived.Test.Qxb6500317aGreatPrH
set_option linter.unusedSimpArgs false
set_option linter.unusedVariables false
set_option maxRecDepth 100000
set_option linter.unusedSectionVars false
namespace Go.Proofs.Qxb6500317aGreat
open Go Go.Vc

/-! ### Plain -/
/-- A function's flat code. -/
structure FF where
  pa : Nat
  lo : Nat
  re : Nat
  cells : List Ins
def compF (P : PM) (k : Nat) : Sum (Nat × Nat) FF :=
  match typeOf P ((P.nIm + k : Nat) : Int) with
  | none => .inl (k, 0)
  | some t =>
    match goS (bdOf P (P.fn k)) (P.fn k).nI 0 (initS (splitP t).2.size) with
    | .inl at_ => .inl (k, at_)
    | .inr S => .inr ⟨(splitP t).1.size, (splitP t).1.size + (strOfNums (P.fn k).ls).size, (splitP t).2.size, outC S⟩
def compG (P : PM) : Nat → Nat → List FF → Sum (Nat × Nat) (List FF)
  | 0, _, acc => .inr acc
  | n + 1, k, acc => match compF P k with
    | .inl e => .inl e
    | .inr f => compG P n (k + 1) (acc ++ [f])
theorem compG_succ (P : PM) (n k : Nat) (acc : List FF) : compG P (n + 1) k acc = match compF P k with | .inl e => .inl e | .inr f => compG P n (k + 1) (acc ++ [f]) := rfl
def comp (P : PM) : Sum (Nat × Nat) (List FF) := compG P P.nf 0 []

/-! ### The code in memory -/
/-- The rows of the code's functions, as far as they are filled. -/
structure CdR (w : World) (base cdb fb nf : Nat) (acc : List FF) : Prop where
  c0 : w.cell? ⟨cdb, 0, none⟩ = some (.slice (some ⟨fb, 0, none⟩) nf nf)
  r0 : ∀ (j : Nat) (f : FF), acc[j]? = some f → w.cell? ⟨fb, j * 4, none⟩ = some (.int .i64 (f.pa : Int)) ∧ w.cell? ⟨fb, j * 4 + 1, none⟩ = some (.int .i64 (f.lo : Int)) ∧ w.cell? ⟨fb, j * 4 + 2, none⟩ = some (.int .i64 (f.re : Int)) ∧
    ∃ nb, w.cell? ⟨fb, j * 4 + 3, none⟩ = some (.slice (some ⟨nb, 0, none⟩) f.cells.length f.cells.length) ∧ InsRow w nb f.cells.length (fun q => f.cells.getD q z0) ∧ base ≤ nb ∧ nb < w.heap.size ∧ nb ≠ fb
  cn : ∀ j, j < nf * 4 → can w ⟨fb, j, none⟩
  b1 : base ≤ cdb ∧ base ≤ fb ∧ cdb < w.heap.size ∧ fb < w.heap.size ∧ cdb ≠ fb
theorem CdR.same {w w' : World} {base cdb fb nf : Nat} {acc : List FF} (h : CdR w base cdb fb nf acc) {S : List Nat} {B : Nat} (hs : Same S B w w') (hB : w.heap.size ≤ B) (hS : ∀ k, k ∈ S → k < base) : CdR w' base cdb fb nf acc := by
  haveI := outNil
  obtain ⟨b1, b2, b3, b4, b5⟩ := h.b1
  have n1 : cdb ∉ S := fun g => by have := hS _ g; omega
  have n2 : fb ∉ S := fun g => by have := hS _ g; omega
  have e : ∀ j, w'.cell? ⟨fb, j, none⟩ = w.cell? ⟨fb, j, none⟩ := fun j => hs.cell (p := ⟨fb, j, none⟩) (show fb < B by omega) n2
  refine ⟨by rw [hs.cell (p := ⟨cdb, 0, none⟩) (show cdb < B by omega) n1]; exact h.c0, fun j f hf => ?_, fun j hj => ?_, b1, b2, by have := hs.size; omega, by have := hs.size; omega, b5⟩
  · obtain ⟨a1, a2, a3, nb, a4, a5, a6, a7, a8⟩ := h.r0 j f hf
    exact ⟨by rw [e]; exact a1, by rw [e]; exact a2, by rw [e]; exact a3, nb, by rw [e]; exact a4, a5.same hs (by omega) (fun g => by have := hS _ g; omega), a6, by have := hs.size; omega, a8⟩
  · obtain ⟨⟨v, hv⟩, hf⟩ := h.cn j hj
    exact ⟨⟨v, by rw [e]; exact hv⟩, by rw [hs.frozen (p := ⟨fb, j, none⟩) (show fb < B by omega) n2]; exact hf⟩
/-- The code of the functions fs, all of it from base on. -/
def CdAt (w : World) (base cdb : Nat) (fs : List FF) : Prop :=
  (fs = [] ∧ w.cell? ⟨cdb, 0, none⟩ = some (.slice none 0 0) ∧ base ≤ cdb) ∨ (fs ≠ [] ∧ ∃ fb, CdR w base cdb fb fs.length fs)
theorem CdAt.same {w w' : World} {base cdb : Nat} {fs : List FF} (h : CdAt w base cdb fs) {S : List Nat} {B : Nat} (hs : Same S B w w') (hB : w.heap.size ≤ B) (hS : ∀ k, k ∈ S → k < base) : CdAt w' base cdb fs := by
  rcases h with ⟨h1, h2, h3⟩ | ⟨h1, fb, h2⟩
  · refine .inl ⟨h1, ?_, h3⟩
    have lt2 : cdb < w.heap.size := cell_lt h2
    rw [hs.cell (p := ⟨cdb, 0, none⟩) (by show cdb < B; omega) (fun g => by have q : cdb < base := hS _ g; omega)]; exact h2
  · exact .inr ⟨h1, fb, h2.same hs hB hS⟩

section
variable {wd w w' : World} {L mb : Nat} {m : Nat → Value} {P : PM} {pb cb : Nat}
/-- What the compiling of a module leaves. -/
def CQ (w : World) (pb cb : Nat) (n : Nat) (z : Sum (Nat × Nat) (List FF)) : Value → World → Prop := fun v w' =>
  PZe w' pb cb ∧ Same [pb, cb] w.heap.size w w' ∧
  match z with
  | .inl (k, at_) => v = .tuple #[.pointer none, .int .i64 (k : Int), .int .i64 (at_ : Int), .int .i64 29]
  | .inr fs => ∃ cdb, v = .tuple #[rp cdb, .int .i64 (n : Int), .int .i64 0, .int .i64 0] ∧ CdAt w' w.heap.size cdb fs
theorem typeOf_size {P : PM} (B : PB P) {f : Int} {t : ByteArray} (h : typeOf P f = some t) : t.size ≤ 1024 := by
  unfold typeOf typeAt at h
  split at h
  · cases h
  · injection h with h
    rw [← h]
    exact (B.ty _ (by omega)).1

/-- The functions one by one. -/
structure CW (wd w0 w : World) (L mb : Nat) (m : Nat → Value) (P : PM) (pb cb cdb fb : Nat) (acc : List FF) : Prop where
  H : HM wd w L mb m P
  p : PZe w pb cb
  c : CdR w w0.heap.size cdb fb P.nf acc
  S : Same [pb, cb] w0.heap.size w0 w
theorem comp_loop (B : PB P) (lp : pb ≤ L ∨ wd.heap.size ≤ pb) (lc : cb ≤ L ∨ wd.heap.size ≤ cb) (hws : ∀ i, i < P.nf → wsum (bdOf P (P.fn i)) (P.fn i).nI ≤ 120 ∧ 1 ≤ (P.fn i).nI) {w0 : World} (lw : wd.heap.size ≤ w0.heap.size) {cdb fb : Nat} {z : Sum (Nat × Nat) (List FF)} {tb : Nat} (tlt : TLt wd L mb m P tb)
    (row : ∀ w', HM wd w' L mb m P → FnRow w' (L + 1) tb P.nf P.nf P.fn) (c2 : ∀ w', HM wd w' L mb m P → w'.cell? ⟨mb, 2, none⟩ = some (.slice (some ⟨tb, 0, none⟩) P.nf P.nf)) (hp0 : pb < w0.heap.size) (hc0 : cb < w0.heap.size) :
    ∀ (n k : Nat) (acc : List FF) (w : World), k + n = P.nf → acc.length = k → CW wd w0 w L mb m P pb cb cdb fb acc → P.nf ≠ 0 → z = compG P n k acc →
      prep_Prep_Compile.L2 (some ⟨pb, 0, none⟩) (some ⟨mb, 0, none⟩) (some ⟨cdb, 0, none⟩) (k : Int) (CQ w0 pb cb P.nf z) (fun _ _ => False) w := by
  haveI := outNil
  have bnf := B.nf; have bim := B.nIm
  intro n
  induction n with
  | zero =>
    intro k acc w hk ha C h0 ez
    refine prep_Prep_Compile.step2 _ _ _ _ _ _ _ ?_
    unfold prep_Prep_Compile.V2
    simp only [true_and, nilV_some, Nat.zero_add]
    refine ⟨_, _, _, c2 w C.H, cond_false' (decide_eq_false (by omega)) ⟨_, _, _, c2 _ C.H.drew, ?_⟩⟩
    have ez : z = .inr acc := ez
    rw [ez]
    refine ⟨C.p.keep (Same.refl _ _ _).drew, C.S.drew, cdb, rfl, .inr ⟨fun g => by rw [g] at ha; simp at ha; omega, fb, ?_⟩⟩
    have hl : acc.length = P.nf := by omega
    rw [hl]
    exact C.c.same (Same.refl [] w.heap.size _).drew (Nat.le_refl _) (by simp)
  | succ n ih =>
    intro k acc w hk ha C h0 ez
    have hkn : k < P.nf := by omega
    have hB := B.fn k hkn
    obtain ⟨hw1, hn1⟩ := hws k hkn
    rw [compG_succ] at ez
    obtain ⟨ai, ci, _⟩ := C.H.im
    refine prep_Prep_Compile.step2 _ _ _ _ _ _ _ ?_
    unfold prep_Prep_Compile.V2
    simp only [true_and, nilV_some, Nat.zero_add]
    refine ⟨_, _, _, c2 w C.H, cond_true' (decide_eq_true (by omega)) ⟨_, _, _, c2 w C.H, ⟨by omega, by omega⟩, ?_⟩⟩
    rw [nilV_some]
    simp only [add_mk, Nat.zero_add, Int.toNat_natCast]
    have ew : IntKind.wrap .i64 ((P.nIm : Int) + (k : Int)) = ((P.nIm + k : Nat) : Int) := by rw [wrap_i64 (by omega) (by omega)]; omega
    refine ⟨_, _, _, ci, ?_⟩
    rw [ew]
    refine RunsQ.post (TypeOf_spec C.H B _ (by omega) (by omega)) ?_
    rintro v w1 ⟨rfl, S1⟩
    have H1 := C.H.keep S1
    have p1 := C.p.keep S1
    have c1 := C.c.same S1 (Nat.le_refl _) (by simp)
    have T1 : Same [pb, cb] w0.heap.size w0 w1 := C.S.nx (S2 pb cb S1)
    obtain ⟨nb, d2, _⟩ := (row w1 H1).c2 k hkn
    have d3 : ∃ ta, w1.cell? ⟨tb, k * 4 + 3, none⟩ = some (.slice ta (P.fn k).nTab (P.fn k).nTab) := by
      rcases (row w1 H1).c3 k hkn with ⟨t0, t1⟩ | ⟨t0, tk, t1, _⟩
      · exact ⟨none, by rw [t0]; exact t1⟩
      · exact ⟨_, t1⟩
    obtain ⟨ta, d3⟩ := d3
    have bI := hB.nI; have bT := hB.nT
    cases ht : typeOf P ((P.nIm + k : Nat) : Int) with
    | none =>
      have hf : compF P k = .inl (k, 0) := by unfold compF; rw [ht]
      rw [hf] at ez
      refine ⟨_, _, rfl, cond_true' rfl ?_⟩
      refine prep_Prep_Compile.step3 _ _ _ _ _ _ _ _ _ _ ?_
      unfold prep_Prep_Compile.V3
      refine cond_true' rfl ?_
      rw [ez]
      exact ⟨p1, T1, rfl⟩
    | some t =>
      have hsz := typeOf_size B ht
      have hs1 : (splitP t).1.size ≤ 1024 := Nat.le_trans (splitF_size t t.size 0).1 hsz
      have hs2 : (splitP t).2.size ≤ 1024 := Nat.le_trans (splitF_size t t.size 0).2 hsz
      have k1 : ¬ (((P.fn k).nI : Nat) : Int) > 96 := by omega
      have k2 : ¬ (((P.fn k).nTab : Nat) : Int) > 24 := by omega
      refine ⟨_, _, rfl, cond_false' rfl ⟨_, _, _, d2, cond_false' (decide_eq_false k1) ⟨_, _, _, d3, ?_⟩⟩⟩
      rw [decide_eq_false k2]
      refine prep_Prep_Compile.step3 _ _ _ _ _ _ _ _ _ _ ?_
      unfold prep_Prep_Compile.V3
      refine cond_false' rfl (RunsQ.post (Split_spec t hsz w1) ?_)
      rintro v w2 ⟨rfl, S12⟩
      have H2 := H1.keep S12
      obtain ⟨cells, hg, hh, dead, pz⟩ := p1.keep S12
      have c2' := c1.same S12 (Nat.le_refl _) (by simp)
      have T2 : Same [pb, cb] w0.heap.size w0 w2 := T1.nx (S2 pb cb S12)
      refine ⟨_, _, rfl, RunsQ.post (flat_spec H2 B pz lp lc tlt hkn row hw1 hn1 hs2) ?_⟩
      -- behind the body: the mark, the depth
      have after : ∀ (w3 : World) (q : PS), PA w3 pb cb q.cells hg q.k q.h q.dead → q.cells[0]? = some z0 → ∀ {K : World → Prop}, (∀ w5, PZ w5 pb cb q.cells (max hg q.cells.length) q.h q.dead → Same [pb, cb] w3.heap.size w3 w5 → K w5) →
          ∃ x10 : Int, World.cell? (World.drew w3) ⟨pb, 1, none⟩ = some (.int .i64 x10) ∧ (∃ x12 : Option Addr, ∃ x13 : Nat, ∃ x14 : Nat, World.cell? (World.drew w3) ⟨pb, 0, none⟩ = some (.slice x12 x13 x14) ∧ (can (World.drew w3) ⟨pb, 1, none⟩ ∧ letW (World.setCell (World.drew w3) ⟨pb, 1, none⟩ (.int .i64 (if x10 < ((x13 : Nat) : Int) then ((x13 : Nat) : Int) else x10))) fun w16 => (can w16 ⟨pb, 51, none⟩ ∧ letW (World.setCell w16 ⟨pb, 51, none⟩ (.int .i64 0)) K))) := fun w3 q pq q0 {K} hK => by
        have pd := pq.drew
        refine ⟨_, pd.hi, _, _, _, pd.s, pd.can 1 (by decide), letW_intro fun w4 hw4 => ?_⟩
        have em : (if (hg : Int) < (q.cells.length : Int) then (q.cells.length : Int) else (hg : Int)) = ((max hg q.cells.length : Nat) : Int) := by
          split <;> omega
        rw [em] at hw4
        have p4 : PA w4 pb cb q.cells (max hg q.cells.length) q.k q.h q.dead := by rw [hw4]; exact pd.setHi
        refine ⟨p4.can 51 (by decide), letW_intro fun w5 hw5 => ?_⟩
        have p5 : PA w5 pb cb q.cells (max hg q.cells.length) [] q.h q.dead := by
          have := p4.cutK 0 (Nat.zero_le _)
          rw [Nat.sub_zero, List.drop_length] at this
          rw [hw5]
          exact this
        have ll := pq.B.le; have lg := pz.g
        refine hK w5 ⟨p5, q0, by omega, by omega⟩ ?_
        rw [hw5, hw4]
        exact ((Same.refl _ _ _).drew.setCell (.inr (by simp)) _).setCell (.inr (by simp)) _
      have hf : compF P k = match goS (bdOf P (P.fn k)) (P.fn k).nI 0 (initS (splitP t).2.size) with
          | .inl at_ => .inl (k, at_)
          | .inr S => .inr ⟨(splitP t).1.size, (splitP t).1.size + (strOfNums (P.fn k).ls).size, (splitP t).2.size, outC S⟩ := by unfold compF; rw [ht]
      cases hgo : goS (bdOf P (P.fn k)) (P.fn k).nI 0 (initS (splitP t).2.size) with
      | inl at_ =>
        rw [hgo] at hf
        rw [hf] at ez
        rintro v w3 ⟨rfl, ⟨q, pq, q0⟩, S23⟩
        refine ⟨_, _, rfl, ?_⟩
        simp only [true_and, nilV_some, Nat.zero_add]
        refine after w3 q pq q0 (fun w5 p5 S35 => ?_)
        refine cond_true' rfl ?_
        rw [ez]
        exact ⟨⟨_, _, _, _, p5⟩, (T2.nx S23).nx S35, rfl⟩
      | inr S =>
        rw [hgo] at hf
        dsimp only at hf
        rw [hf] at ez
        dsimp only at ez
        rintro v w3 ⟨rfl, ⟨q, pq, Rq⟩, S23⟩
        refine ⟨_, _, rfl, ?_⟩
        simp only [true_and, nilV_some, Nat.zero_add]
        refine after w3 q pq Rq.c0 (fun w5 p5 S35 => ?_)
        refine cond_false' rfl ?_
        have hout := Rq.out (goS_inr _ _ _ _ _ hgo)
        have hlq : q.cells.length = (outC S).length + 1 := by rw [hout]; rfl
        have lle := p5.a.B.le
        have S25 := S23.nx S35
        have T5 : Same [pb, cb] w0.heap.size w0 w5 := T2.nx S25
        have H5 : HM wd w5 L mb m P := H2.at2 S25 lp lc
        have c5 := c2'.same S25 (Nat.le_refl _) (by simp; omega)
        refine ⟨_, _, _, p5.a.s, ?_⟩
        have el : IntKind.wrap .i64 ((q.cells.length : Int) - 1) = (((outC S).length : Nat) : Int) := by rw [wrap_i64 (by omega) (by omega)]; omega
        rw [el]
        obtain ⟨w6, hm, hc6, hf6, S56, hl6⟩ := make_rows T_sl_api_Ins.el w5 (outC S).length (by omega) (by decide)
        refine ⟨_, _, _, w6, hm, ?_⟩
        have lpb := p5.a.lt; have lcb := p5.a.B.lt
        have p6 := p5.same S56 (Nat.le_refl _) (by simp) (by simp)
        refine ⟨_, _, _, p6.a.s, ⟨by omega, by omega, by omega, by omega⟩, ?_⟩
        rw [slAddr_lt (by decide)]
        let cs : List Value := (List.range ((outC S).length * 3)).map fun j => inC ((outC S).getD (j / 3) z0) (j % 3)
        have hcsl : cs.length = (outC S).length * 3 := by simp [cs]
        have hcsg : ∀ j, j < (outC S).length * 3 → cs[j]? = some (inC ((outC S).getD (j / 3) z0) (j % 3)) := fun j hj => by
          simp only [cs, List.getElem?_map, List.getElem?_range hj, Option.map_some]
        have getq : ∀ j, j < (outC S).length → q.cells[j + 1]? = some ((outC S).getD j z0) := fun j hj => by
          rw [hout]
          show (outC S)[j]? = _
          rw [List.getElem?_eq_getElem hj, List.getD_eq_getElem?_getD, List.getElem?_eq_getElem hj]; rfl
        obtain ⟨w7, hcp, hF⟩ := copy_rowsO T_sl_api_Ins.el T_int w6 w5.heap.size (outC S).length (outC S).length cb (0 + 1 * 3) (outC S).length 120 cs (by rw [hcsl]; simp [Nat.min_def]) (fun j v hj => by
            have hjl : j < (outC S).length * 3 := by have := get_ltA hj; omega
            rw [hcsg j hjl] at hj
            cases hj
            have := p6.a.B.cell (getq (j / 3) (by omega)) (r := j % 3) (by omega)
            rw [show 0 + 1 * 3 + j = (j / 3 + 1) * 3 + j % 3 by omega]
            exact this) (fun j hj => ⟨⟨_, hc6 j (by omega)⟩, hf6 j⟩) (fun v hv => by
            simp only [cs, List.mem_map] at hv
            obtain ⟨j, _, rfl⟩ := hv
            unfold inC
            split
            · rfl
            · split <;> rfl)
        rw [show q.cells.length - Int.toNat 1 = (outC S).length by rw [hlq]; rfl, show 121 - Int.toNat 1 = 120 from rfl]
        refine ⟨_, w7, hcp, ?_⟩
        have S67 : Same [w5.heap.size] w6.heap.size w6 w7 := hF.same _
        have T57 : Same [] w5.heap.size w5 w7 := S56.trans ((hF.same _).mono (Nat.le_refl _) (fun k hk hl => by simp at hk; omega))
        have H7 := H5.keep T57
        have p7 := p5.same T57 (Nat.le_refl _) (by simp) (by simp)
        have c7 := c5.same T57 (Nat.le_refl _) (by simp)
        have fill : ∀ j, j < (outC S).length * 3 → w7.cell? ⟨w5.heap.size, j, none⟩ = some (inC ((outC S).getD (j / 3) z0) (j % 3)) := fun j hj => by
          rw [hF.cell, if_pos ⟨rfl, by omega, by omega⟩, Nat.sub_zero, hcsg j hj]
        have row7 : InsRow w7 w5.heap.size (outC S).length (fun q => (outC S).getD q z0) := by
          refine ⟨fun j hj => ?_, fun j hj => ?_, fun j hj => ?_, fun j => by rw [hF.frozen]; exact hf6 j⟩
          · rw [fill _ (by omega), show j * 3 / 3 = j by omega, show j * 3 % 3 = 0 by omega]; rfl
          · rw [fill _ (by omega), show (j * 3 + 1) / 3 = j by omega, show (j * 3 + 1) % 3 = 1 by omega]; rfl
          · rw [fill _ (by omega), show (j * 3 + 2) / 3 = j by omega, show (j * 3 + 2) % 3 = 2 by omega]; rfl
        have H8 := H7.drew
        have c8 := c7.same (Same.refl [] w7.heap.size w7).drew (Nat.le_refl _) (by simp)
        obtain ⟨g1, g2, g3, g4, g5⟩ := c8.b1
        obtain ⟨_, _, h3', h4', _⟩ := c5.b1
        have e1 := (row _ H8).c1 k hkn
        simp only [add_mk, Nat.zero_add, Int.toNat_natCast]
        refine ⟨_, _, _, c8.c0, _, e1, ⟨by omega, by omega⟩, ?_⟩
        rw [nilV_some, add_mk, Nat.zero_add]
        have ls6 := hB.ls
        have elo : IntKind.wrap .i64 ((((splitP t).1.size : Nat) : Int) + (((strOfNums (P.fn k).ls).size : Nat) : Int)) = (((splitP t).1.size + (strOfNums (P.fn k).ls).size : Nat) : Int) := by rw [wrap_i64 (by omega) (by omega)]; omega
        rw [elo]
        refine putCells_intro fb _ _ _ _ (fun j hj => c8.cn _ (by simp only [List.length_cons, List.length_nil] at hj; omega)) (fun w9 hF9 => ?_)
        have sz7 : w5.heap.size < w7.heap.size := by have := S67.size; omega
        have hdr : w7.drew.heap.size = w7.heap.size := rfl
        have S89 : Same [fb] w7.drew.heap.size w7.drew w9 := hF9.same _
        have hw0 := T5.size
        have S59 : Same [fb] w5.heap.size w5 w9 := ((T57.mono (Nat.le_refl _) (by simp)).drew).trans ((hF9.same _).mono (Nat.le_refl _) (by simp))
        have cells9 : ∀ j, w9.cell? ⟨fb, j, none⟩ = if k * 4 ≤ j ∧ j < k * 4 + 4 then [(Value.int .i64 (((splitP t).1.size : Nat) : Int)), (.int .i64 (((splitP t).1.size + (strOfNums (P.fn k).ls).size : Nat) : Int)), (.int .i64 (((splitP t).2.size : Nat) : Int)), (.slice (some ⟨w5.heap.size, 0, none⟩) (outC S).length (outC S).length)][j - k * 4]? else w7.cell? ⟨fb, j, none⟩ := fun j => by
          rw [hF9.cell]
          by_cases q : k * 4 ≤ j ∧ j < k * 4 + 4
          · rw [if_pos ⟨rfl, by simpa using q⟩, if_pos q]
          · rw [if_neg (fun z => q (by simpa using z.2)), if_neg q]; rfl
        have C9 : CW wd w0 w9 L mb m P pb cb cdb fb (acc ++ [⟨(splitP t).1.size, (splitP t).1.size + (strOfNums (P.fn k).ls).size, (splitP t).2.size, outC S⟩]) := by
          refine ⟨H5.same S59 H5.size (by simp; omega), ⟨_, _, _, _, p5.same S59 (Nat.le_refl _) (by simp; omega) (by simp; omega)⟩, ⟨?_, fun j f hj => ?_, fun j hj => ?_, g1, g2, ?_, ?_, g5⟩, T5.trans (S59.mono hw0 (fun k hk hl => by simp at hk; omega))⟩
          · rw [S89.cell (p := ⟨cdb, 0, none⟩) (by show cdb < _; omega) (by simp; omega)]; exact c8.c0
          · rcases app_get hj with hj | ⟨rfl, rfl⟩
            · have jl := get_ltA hj
              obtain ⟨a1, a2, a3, nb', a4, a5, a6, a7, a8⟩ := c7.r0 j f hj
              refine ⟨by rw [cells9, if_neg (by omega)]; exact a1, by rw [cells9, if_neg (by omega)]; exact a2, by rw [cells9, if_neg (by omega)]; exact a3, nb', by rw [cells9, if_neg (by omega)]; exact a4, ?_, a6, ?_, a8⟩
              · exact (a5.same (Same.refl [] w7.heap.size w7).drew a7 (by simp)).same S89 (by omega) (by simp; omega)
              · have := S89.size; omega
            · rw [ha]
              refine ⟨by rw [cells9, if_pos (by omega), Nat.sub_self]; rfl, by rw [cells9, if_pos (by omega), show k * 4 + 1 - k * 4 = 1 by omega]; rfl, by rw [cells9, if_pos (by omega), show k * 4 + 2 - k * 4 = 2 by omega]; rfl, w5.heap.size, by rw [cells9, if_pos (by omega), show k * 4 + 3 - k * 4 = 3 by omega]; rfl, ?_, hw0, by have := S89.size; omega, by omega⟩
              exact (row7.same (Same.refl [] w7.heap.size w7).drew sz7 (by simp)).same S89 (by omega) (by simp; omega)
          · obtain ⟨⟨v, hv⟩, hf⟩ := c8.cn j hj
            refine ⟨?_, by rw [hF9.frozen]; exact hf⟩
            rw [cells9]
            split
            · exact ⟨_, List.getElem?_eq_getElem (by simp; omega)⟩
            · exact ⟨v, hv⟩
          · have := S89.size; omega
          · have := S89.size; omega
        have ek : IntKind.wrap .i64 ((k : Int) + 1) = ((k + 1 : Nat) : Int) := by rw [wrap_i64 (by omega) (by omega)]; omega
        rw [ek]
        exact ih (k + 1) _ w9 (by omega) (by simp [ha]) C9 h0 ez
theorem Compile_nil (p : PZe w pb cb) : Runs Tryz.prog prep_Prep_Compile.id #[rp pb, .pointer none] w fun v w' => v = .tuple #[.pointer none, .int .i64 (-1), .int .i64 0, .int .i64 32] ∧ w' = w := by
  refine prep_Prep_Compile.enter _ _ _ _ _ ?_
  unfold prep_Prep_Compile.V
  exact cond_true' rfl ⟨rfl, rfl⟩
theorem Compile_spec (H : HM wd w L mb m P) (B : PB P) (hws : ∀ i, i < P.nf → wsum (bdOf P (P.fn i)) (P.fn i).nI ≤ 120 ∧ 1 ≤ (P.fn i).nI) (p : PZe w pb cb) (lp : pb ≤ L ∨ wd.heap.size ≤ pb) (lc : cb ≤ L ∨ wd.heap.size ≤ cb) :
    Runs Tryz.prog prep_Prep_Compile.id #[rp pb, rp mb] w (CQ w pb cb P.nf (comp P)) := by
  have bnf := B.nf
  obtain ⟨l1, l2, l3⟩ := p.lt
  refine prep_Prep_Compile.enter _ _ _ _ _ ?_
  unfold prep_Prep_Compile.V
  refine cond_false' rfl (letB_intro fun cdb hb => letW_intro fun w1 hw => ?_)
  have S1 : Same [] w.heap.size w w1 := by rw [hw]; exact (Same.refl _ _ _).alloc (Nat.le_refl _) _
  have hs1 : w1.heap.size = w.heap.size + 1 := by rw [hw]; simp
  have H1 := H.keep S1
  have p1 := p.keep S1
  have cd1 : w1.cell? ⟨cdb, 0, none⟩ = some (.slice none 0 0) := by rw [hw, hb, World.cell?_alloc_new]; rfl
  have cf1 : ∀ j, w1.frozen? ⟨cdb, j, none⟩ = false := fun j => by rw [hw, hb, World.frozen?_alloc_new]
  simp only [nilV_some, Nat.zero_add]
  by_cases h0 : P.nf = 0
  · obtain ⟨a, c2, _⟩ := H1.fn
    refine ⟨_, _, _, c2, cond_false' (decide_eq_false (by omega)) ?_⟩
    refine prep_Prep_Compile.step1 _ _ _ _ _ _ ?_
    unfold prep_Prep_Compile.V1
    refine prep_Prep_Compile.step2 _ _ _ _ _ _ _ ?_
    unfold prep_Prep_Compile.V2
    simp only [true_and, nilV_some, Nat.zero_add]
    refine ⟨_, _, _, c2, cond_false' (decide_eq_false (by omega)) ⟨_, _, _, c2, ?_⟩⟩
    have hc : comp P = .inr [] := by unfold comp; rw [h0]; rfl
    rw [hc]
    exact ⟨p1.keep (Same.refl _ _ _).drew, (S2 pb cb S1).drew, cdb, rfl, .inl ⟨rfl, cd1, by omega⟩⟩
  · obtain ⟨tb, row, c2, tlt⟩ := H1.row2 h0
    refine ⟨_, _, _, c2 w1 H1, cond_true' (decide_eq_true (by omega)) ⟨_, _, _, c2 w1 H1, ?_⟩⟩
    obtain ⟨w2, hm, hc2, hf2, S12, hl2⟩ := make_rows T_sl_api_FlatFunc.el w1 P.nf (by omega) (by decide)
    have e2 : w2.cell? ⟨cdb, 0, none⟩ = some (.slice none 0 0) := by rw [S12.cell (p := ⟨cdb, 0, none⟩) (by show cdb < _; omega) (by simp)]; exact cd1
    refine ⟨_, _, _, w2, hm, ⟨⟨_, e2⟩, by rw [S12.frozen (p := ⟨cdb, 0, none⟩) (by show cdb < _; omega) (by simp)]; exact cf1 0⟩, letW_intro fun w3 hw3 => ?_⟩
    have S23 : Same [cdb] w2.heap.size w2 w3 := by rw [hw3]; exact (Same.refl _ _ _).setCell (.inr (by simp)) _
    have S13 : Same [cdb] w1.heap.size w1 w3 := (S12.mono (Nat.le_refl _) (by simp)).trans (S23.mono S12.size (by simp))
    have e3 : w3.cell? ⟨cdb, 0, none⟩ = some (.slice (some ⟨w1.heap.size, 0, none⟩) P.nf P.nf) := by rw [hw3, cell_setCell, if_pos ⟨rfl, rfl⟩, e2]; rfl
    have hwd := H.size
    have H3 : HM wd w3 L mb m P := H1.same S13 H1.size (by simp; omega)
    refine prep_Prep_Compile.step1 _ _ _ _ _ _ ?_
    unfold prep_Prep_Compile.V1
    have S03 : Same [pb, cb] w.heap.size w w3 := (S2 pb cb S1).trans (S13.mono S1.size (fun k hk hl => by simp at hk; omega))
    refine comp_loop B lp lc hws hwd tlt row c2 l1 l2 P.nf 0 [] w3 (by omega) rfl ⟨H3, p1.same S13 (Nat.le_refl _) (by simp; omega) (by simp; omega), ⟨e3, fun j f hj => by simp at hj, fun j hj => ?_, by omega, by omega, ?_, ?_, by omega⟩, S03⟩ h0 rfl
    · exact ⟨⟨_, by rw [S23.cell (p := ⟨w1.heap.size, j, none⟩) hl2 (by simp; omega)]; exact hc2 j hj⟩, by rw [S23.frozen (p := ⟨w1.heap.size, j, none⟩) hl2 (by simp; omega)]; exact hf2 j⟩
    · have := S13.size; omega
    · have := S23.size; omega
end
end Go.Proofs.Qxb6500317aGreat
