/-
  The road and the machine's trace.
-/
import Derived.Test.Qxb6500321aKlB
import Derived.Test.Qxb6500321aMoF
set_option linter.unusedSimpArgs false
set_option linter.unusedVariables false
set_option maxRecDepth 100000
set_option linter.unusedSectionVars false
set_option maxHeartbeats 1000000
namespace Go.Proofs.Qxb6500321a
open Go Go.Vc

theorem step_live {B : BD} {i : Nat} {S : SS} (h : (skipP (B.ins i).op S.dead).1 = false) : stepS B i S = liveS B i (B.ins i) S := by
  unfold stepS
  rw [if_neg (by rw [h]; simp)]
theorem skip0 {op : Int} {d : Nat} (h : d = 0) : (skipP op d).1 = false := by unfold skipP; rw [if_pos h]
theorem skip1 {op : Int} {d : Nat} (h : d ≤ 1) (ho : op = 11) : (skipP op d).1 = false := by
  unfold skipP
  by_cases q : d = 0
  · rw [if_pos q]
  · rw [if_neg q, if_neg (by omega), if_neg (by omega), if_pos ho, if_pos (by omega)]
section
variable {B : BD} {i res : Nat} {S S' : SS} {f : SF} {r : List SF}
theorem open_law (hfs : S.fs = f :: r) (h0 : S.dead = 0) (ho : (B.ins i).op = 2 ∨ (B.ins i).op = 3 ∨ (B.ins i).op = 4) (h : stepS B i S = some S') :
    ∃ g, S'.fs = g :: S.fs ∧ g.o = i + 1 ∧ g.op = (B.ins i).op ∧ g.fl = S'.h ∧ g.ar = arP (B.ins i) ∧ g.cn = ((B.ins i).op == 4) ∧ S'.dead = 0 ∧ ((B.ins i).op ≠ 4 → S'.h = S.h ∧ S'.A = S.A) ∧ ((B.ins i).op = 4 → S'.h + 1 = S.h ∧ f.fl < S.h ∧ S'.A = S.A ++ [⟨4, .c (i + 1), 0⟩]) ∧ ((B.ins i).op = 3 → g.st = S.A.length) := by
  rw [step_live (skip0 h0)] at h
  unfold liveS at h
  rw [if_pos ho, openS_eq hfs] at h
  by_cases q7 : S.fs.length = 7
  · rw [if_pos q7] at h; cases h
  rw [if_neg q7] at h
  by_cases q4 : (B.ins i).op = 4
  · rw [if_pos q4] at h
    by_cases q : S.h ≤ f.fl
    · rw [if_pos q] at h; cases h
    rw [if_neg q] at h
    cases h
    exact ⟨_, rfl, rfl, rfl, rfl, rfl, by rw [q4]; rfl, h0, fun z => absurd q4 z, fun _ => ⟨by dsimp only; omega, by omega, rfl⟩, fun z => by omega⟩
  · rw [if_neg q4] at h
    cases h
    exact ⟨_, rfl, rfl, rfl, rfl, rfl, by simpa using q4, h0, fun _ => ⟨rfl, rfl⟩, fun z => absurd z q4, fun _ => rfl⟩
theorem end_law (hfs : S.fs = f :: r) (hd : S.dead ≤ 1) (ho : (B.ins i).op = 11) (h : stepS B i S = some S') :
    (S.dead = 0 → S.h = f.fl + f.ar) ∧ f.fl + f.ar ≤ 10 ∧ S'.fs = r ∧ S'.h = f.fl + f.ar ∧ S'.dead = 0 ∧ S'.A = (if r.length = 0 then S.A ++ [⟨11, .k 0, 0⟩] else S.A) := by
  rw [step_live (skip1 hd ho)] at h
  unfold liveS at h
  rw [if_neg (by omega), if_neg (by omega), if_pos ho, shutS_eq hfs] at h
  by_cases q1 : S.dead = 0 ∧ S.h ≠ f.fl + f.ar
  · rw [if_pos q1] at h; cases h
  rw [if_neg q1] at h
  by_cases q2 : 10 < f.fl + f.ar
  · rw [if_pos q2] at h; cases h
  rw [if_neg q2] at h
  dsimp only at h
  by_cases q3 : r.length = 0 ∧ i + 1 ≠ B.n
  · rw [if_pos q3] at h; cases h
  rw [if_neg q3] at h
  cases h
  exact ⟨fun z => Decidable.byContradiction fun w => q1 ⟨z, w⟩, by omega, rfl, rfl, rfl, rfl⟩
theorem else_law (hfs : S.fs = f :: r) (h0 : S.dead = 0) (ho : (B.ins i).op = 5) (h : stepS B i S = some S') : S.h = f.fl + f.ar ∧ S'.A = S.A ++ [⟨224, .e f.o, 0⟩] := by
  rw [step_live (skip0 h0)] at h
  unfold liveS at h
  rw [if_neg (by omega), if_pos ho, turnS_eq hfs] at h
  by_cases q1 : S.dead = 0 ∧ S.h ≠ f.fl + f.ar
  · rw [if_pos q1] at h; cases h
  rw [if_neg q1] at h
  by_cases q2 : f.cn = false
  · rw [if_pos q2] at h; cases h
  rw [if_neg q2] at h
  cases h
  refine ⟨Decidable.byContradiction fun w => q1 ⟨h0, w⟩, ?_⟩
  show turnA S f = _
  unfold turnA
  rw [if_pos h0]
theorem br_law (hfs : S.fs = f :: r) (h0 : S.dead = 0) (ho : (B.ins i).op = 12 ∨ (B.ins i).op = 13) (h : stepS B i S = some S') :
    ∃ g, S.fs[(B.ins i).x.toNat]? = some g ∧ f.fl + (if (B.ins i).op = 13 then 1 else 0) ≤ S.h ∧ S'.A = S.A ++ [brC (B.ins i).op g] ∧ ((B.ins i).op = 13 → S'.fs = S.fs ∧ S'.h + 1 = S.h ∧ S'.dead = 0) := by
  rw [step_live (skip0 h0)] at h
  unfold liveS at h
  rw [if_neg (by omega), if_neg (by omega), if_neg (by omega), if_pos ho] at h
  cases hg : S.fs[(B.ins i).x.toNat]? with
  | none => rw [brS_none hfs hg] at h; cases h
  | some g =>
    rw [brS_eq hfs hg] at h
    by_cases q : S.h < f.fl + (if (B.ins i).op = 13 then 1 else 0)
    · rw [if_pos q] at h; cases h
    rw [if_neg q] at h
    cases h
    refine ⟨g, rfl, by omega, rfl, fun e => ⟨rfl, ?_, ?_⟩⟩
    · rw [if_pos e] at q
      dsimp only
      rw [if_pos e]
      omega
    · dsimp only
      rw [if_neg (by omega)]
      exact h0
theorem tab_law (hfs : S.fs = f :: r) (h0 : S.dead = 0) (ho : (B.ins i).op = 14) (h : stepS B i S = some S') :
    f.fl < S.h ∧ 1 ≤ (B.ins i).y ∧ (B.ins i).y ≤ (B.nt : Int) ∧ (B.ins i).x ≤ (B.nt : Int) - (B.ins i).y ∧ ∃ cs, rowsS S.fs B.tab (B.ins i).y.toNat (B.ins i).x.toNat = some cs ∧ S'.A = S.A ++ (⟨14, .k (B.ins i).y, 0⟩ :: cs) := by
  rw [step_live (skip0 h0)] at h
  unfold liveS at h
  rw [if_neg (by omega), if_neg (by omega), if_neg (by omega), if_neg (by omega), if_pos ho, tabS_eq hfs] at h
  by_cases q : S.h ≤ f.fl ∨ (B.ins i).y < 1 ∨ (B.nt : Int) < (B.ins i).y ∨ (B.nt : Int) - (B.ins i).y < (B.ins i).x
  · rw [if_pos q] at h; cases h
  rw [if_neg q] at h
  cases hr : rowsS S.fs B.tab (B.ins i).y.toNat (B.ins i).x.toNat with
  | none => rw [hr] at h; cases h
  | some cs =>
    rw [hr] at h
    cases h
    exact ⟨by omega, by omega, by omega, by omega, cs, rfl, rfl⟩
theorem rowsS_get (fs : List SF) (tab : Nat → Int) : ∀ (n a : Nat) {cs : List SC}, rowsS fs tab n a = some cs → ∀ q, q < n → ∃ g, fs[(tab (a + q)).toNat]? = some g ∧ cs[q]? = some (brC 225 g)
  | 0, a, cs, h, q, hq => by omega
  | n + 1, a, cs, h, q, hq => by
    unfold rowsS at h
    split at h
    · cases h
    · rename_i g hg
      cases hr : rowsS fs tab n (a + 1) with
      | none => rw [hr] at h; cases h
      | some l =>
        rw [hr] at h
        cases h
        cases q with
        | zero => exact ⟨g, hg, rfl⟩
        | succ q =>
          obtain ⟨g', h1, h2⟩ := rowsS_get fs tab n (a + 1) hr q (by omega)
          exact ⟨g', by rw [show a + (q + 1) = a + 1 + q by omega]; exact h1, h2⟩
theorem ret_law (h0 : S.dead = 0) (ho : (B.ins i).op = 15) (h : stepS B i S = some S') : S'.A = S.A ++ [⟨15, .k 0, 0⟩] := by
  rw [step_live (skip0 h0)] at h
  unfold liveS at h
  rw [if_neg (by omega), if_neg (by omega), if_neg (by omega), if_neg (by omega), if_neg (by omega), if_pos ho] at h
  cases h
  rfl
theorem pln_law (hfs : S.fs = f :: r) (h0 : S.dead = 0) (hn : ¬ ((B.ins i).op = 2 ∨ (B.ins i).op = 3 ∨ (B.ins i).op = 4 ∨ (B.ins i).op = 5 ∨ (B.ins i).op = 11 ∨ (B.ins i).op = 12 ∨ (B.ins i).op = 13 ∨ (B.ins i).op = 14 ∨ (B.ins i).op = 15)) (h : stepS B i S = some S') :
    ∃ t g, B.ef (B.ins i) = some (t, g) ∧ f.fl + t ≤ S.h ∧ S.h + g ≤ 10 + t ∧ S'.A = S.A ++ [⟨(B.ins i).op, .k (B.ins i).x, (B.ins i).y⟩] ∧ S'.fs = S.fs ∧ S'.h = S.h + g - t ∧ ((B.ins i).op ≠ 0 → S'.dead = 0) := by
  rw [step_live (skip0 h0)] at h
  unfold liveS at h
  rw [if_neg (by omega), if_neg (by omega), if_neg (by omega), if_neg (by omega), if_neg (by omega), if_neg (by omega)] at h
  cases he : B.ef (B.ins i) with
  | none => rw [plainS_none hfs he] at h; cases h
  | some tg =>
    obtain ⟨t, g⟩ := tg
    rw [plainS_eq hfs he] at h
    by_cases q : S.h < f.fl + t ∨ 10 + t < S.h + g
    · rw [if_pos q] at h; cases h
    rw [if_neg q] at h
    cases h
    exact ⟨t, g, rfl, by omega, by omega, rfl, rfl, rfl, fun e => by dsimp only; rw [if_neg e]; exact h0⟩
end
/-! ### Open blocks, and where they were opened -/
structure FrL (B : BD) (res i : Nat) (rest : List SF) (g : SF) : Prop where
  le : g.o ≤ i
  at_ : ∃ S0 g0, trS B res g.o = some S0 ∧ S0.dead = 0 ∧ S0.fs = g0 :: rest ∧ g0.o = g.o ∧ g0.fl = g.fl ∧ g0.ar = g.ar ∧ S0.h = g.fl ∧ (g.op = 3 → S0.A.length = g.st)
  bo : g.o = 0 → g.op ≠ 3
  bl : g.o ≠ 0 → (B.ins (g.o - 1)).op = g.op
def FrLA (B : BD) (res i : Nat) (S : SS) : Prop := ∀ (t : Nat) (g : SF), S.fs[t]? = some g → FrL B res i (S.fs.drop (t + 1)) g
theorem FrL.up {B : BD} {res i : Nat} {rest : List SF} {g : SF} (F : FrL B res i rest g) : FrL B res (i + 1) rest g := ⟨by have := F.le; omega, F.at_, F.bo, F.bl⟩
theorem frl_step {B : BD} {res i : Nat} {S S' : SS} (hS : trS B res i = some S) (F : FrLA B res i S) (h : stepS B i S = some S') : FrLA B res (i + 1) S' := by
  have hS' : trS B res (i + 1) = some S' := by rw [trS_succ hS]; exact h
  cases stp_of h using Stp.cs with
  | skip d h0 hd => exact fun t g hg => (F t g hg).up
  | pln A h' d h0 _ _ _ _ hA => exact fun t g hg => (F t g hg).up
  | opn f A h' h0 ho hf hl hA =>
    obtain ⟨f0, r, hfs⟩ := stp_ne h0 ho h
    obtain ⟨g', e1, e2, e3, e4, e5, e6, e7, e8, e9, e10⟩ := open_law hfs h0 ho h
    have e1 : f :: S.fs = g' :: S.fs := e1
    injection e1 with e1
    subst e1
    intro t g hg
    cases t with
    | zero =>
      have hg : some f = some g := hg
      cases hg
      refine ⟨by omega, ⟨_, f, by rw [e2]; exact hS', e7, rfl, rfl, rfl, rfl, e4.symm, fun z => ?_⟩, fun z => by omega, fun _ => by rw [e2, e3]; rfl⟩
      have z' : (B.ins i).op = 3 := by rw [← e3]; exact z
      rw [e10 z', (e8 (by omega)).2]
    | succ t => exact (F t g hg).up
  | trn f r ho hd hfs hc _ =>
    intro t g hg
    cases t with
    | zero =>
      have hg : some { f with cn := false } = some g := hg
      cases hg
      have K := F 0 f (by rw [hfs]; rfl)
      rw [hfs] at K
      exact ⟨by have := K.le; show f.o ≤ i + 1; omega, K.at_, K.bo, K.bl⟩
    | succ t =>
      have K := F (t + 1) g (by rw [hfs]; exact hg)
      rw [hfs] at K
      exact K.up
  | sht f r ho hd hfs hn =>
    intro t g hg
    have K := F (t + 1) g (by rw [hfs]; exact hg)
    rw [hfs] at K
    exact K.up
theorem frl_tr {B : BD} {res : Nat} : ∀ (j : Nat) (S : SS), trS B res j = some S → FrLA B res j S
  | 0, S, h => by
    have h : some (initS res) = some S := h
    cases h
    intro t g hg
    cases t with
    | zero =>
      have hg : some (⟨0, 11, 0, res, 0, false⟩ : SF) = some g := hg
      cases hg
      exact ⟨Nat.le_refl _, ⟨initS res, _, rfl, rfl, rfl, rfl, rfl, rfl, rfl, fun z => by cases z⟩, fun _ => by simp, fun z => absurd rfl z⟩
    | succ t => cases hg
  | j + 1, S, h => by
    obtain ⟨S0, h0⟩ := trS_pre 1 j h
    have ih := frl_tr j S0 h0
    rw [trS_succ h0] at h
    exact frl_step h0 ih h
theorem frVs_cons {g0 g : SF} {rest : List SF} (h1 : g0.o = g.o) (h2 : g0.fl = g.fl) (h3 : g0.ar = g.ar) : frVs (g0 :: rest) = frVs (g :: rest) := by
  show frVs rest ++ frV g0 = frVs rest ++ frV g
  unfold frV
  rw [h1, h2, h3]
/-- A body that compiles. -/
structure CT2 (B : BD) (res : Nat) (Sn : SS) : Prop where
  m : M2 B res Sn
  g : wfGo B.ins B.n B.nt B.n 0 0 (fun _ => false) 0
  r1 : res ≤ 1
  f : ∀ x : Ins, B.ef x ≠ none → x.op ≠ 224 ∧ x.op ≠ 225
  n1 : 1 ≤ B.n
theorem CT2.fs {B : BD} {res : Nat} {Sn : SS} (C : CT2 B res Sn) : Sn.fs = [] := List.length_eq_zero_iff.1 C.m.f0
section
variable {B : BD} {res : Nat} {Sn : SS}
theorem CT2.nx (C : CT2 B res Sn) {i : Nat} {S : SS} (hi : i < B.n) (hS : trS B res i = some S) : ∃ S', trS B res (i + 1) = some S' ∧ stepS B i S = some S' := by
  obtain ⟨S', hS'⟩ := trS_pre (B.n - (i + 1)) (i + 1) (show trS B res _ = some Sn by rw [show i + 1 + (B.n - (i + 1)) = B.n by omega]; exact C.m.hn)
  have := hS'
  rw [trS_succ hS] at this
  exact ⟨S', hS', this⟩
theorem CT2.ne (C : CT2 B res Sn) {i : Nat} {S : SS} (hi : i < B.n) (hS : trS B res i = some S) : S.fs ≠ [] := by
  rcases (pi_tr C.g (by have := C.r1; omega) C.m.hB i S (by omega) hS).W with ⟨e, _⟩ | ⟨q, _⟩
  · omega
  · exact q
theorem CT2.lt (C : CT2 B res Sn) {i : Nat} {S : SS} (hi : i ≤ B.n) (hS : trS B res i = some S) (hne : S.fs ≠ []) : i < B.n := by
  by_cases q : i = B.n
  · rw [q, C.m.hn] at hS
    cases hS
    exact absurd C.fs hne
  · omega
theorem tr_mono : ∀ (k i : Nat) (S S' : SS), trS B res i = some S → trS B res (i + k) = some S' → S.A.length ≤ S'.A.length
  | 0, i, S, S', h, h' => by rw [Nat.add_zero, h] at h'; cases h'; exact Nat.le_refl _
  | k + 1, i, S, S', h, h' => by
    rw [show i + (k + 1) = (i + k) + 1 by omega] at h'
    obtain ⟨S1, h1⟩ := trS_pre 1 (i + k) h'
    have ih := tr_mono k i S S1 h h1
    rw [trS_succ h1] at h'
    obtain ⟨N, eA, _⟩ := nc_of h'
    rw [eA]
    simp
    omega
/-- The cells behind. -/
theorem CT2.room (C : CT2 B res Sn) {i : Nat} {S : SS} (hi : i < B.n) (hS : trS B res i = some S) : S.A.length < Sn.A.length := by
  obtain ⟨m, hm⟩ : ∃ m, B.n = m + 1 := ⟨B.n - 1, by omega⟩
  obtain ⟨S1, h1⟩ := trS_pre 1 m (show trS B res (m + 1) = some Sn by rw [← hm]; exact C.m.hn)
  have hn := C.m.hn
  rw [hm, trS_succ h1] at hn
  have eA := (fin_step (ti_tr C.g C.r1 C.m.hB C.f m S1 (by omega) h1) (C.ne (by omega) h1) hn C.fs).1
  have := tr_mono (m - i) i S S1 hS (by rw [show i + (m - i) = m by omega]; exact h1)
  rw [eA]
  simp
  omega
theorem CT2.cell (C : CT2 B res Sn) {i : Nat} {S S' : SS} (hi : i < B.n) (hS : trS B res i = some S) (hS' : trS B res (i + 1) = some S') {N : List SC} (eA : S'.A = S.A ++ N) {q : Nat} {c : SC} (hq : N[q]? = some c) : (outC Sn)[S.A.length + q]? = some (rsN Sn c) := by
  have hc : S'.A[S.A.length + q]? = some c := by
    rw [eA, List.getElem?_append_right (by omega), show S.A.length + q - S.A.length = q by omega]; exact hq
  have K := (keep_tr C.m.hB C.m.hr (B.n - (i + 1)) (i + 1) S' Sn (by omega) hS' (by rw [show i + 1 + (B.n - (i + 1)) = B.n by omega]; exact C.m.hn)).2.2 _ _ hc
  unfold outC
  rw [List.getElem?_map, K]
  rfl
/-- A leap to a loop. -/
theorem CT2.loop (C : CT2 B res Sn) {i : Nat} {rest : List SF} {g : SF} (F : FrL B res i rest g) (hi : i ≤ B.n) (h3 : g.op = 3) : ∃ S0, trS B res g.o = some S0 ∧ S0.dead = 0 ∧ S0.h = g.fl ∧ S0.A.length = g.st ∧ frVs S0.fs = frVs (g :: rest) ∧ S0.fs.length = rest.length + 1 ∧ g.o < B.n := by
  obtain ⟨S0, g0, a1, a2, a3, a4, a5, a6, a7, a8⟩ := F.at_
  have le := F.le
  refine ⟨S0, a1, a2, a7, a8 h3, by rw [a3]; exact frVs_cons a4 a5 a6, by rw [a3]; rfl, C.lt (by omega) a1 (by rw [a3]; simp)⟩
/-- A leap to an end. -/
theorem CT2.far (C : CT2 B res Sn) {i : Nat} {rest : List SF} {g : SF} (F : FrL B res i rest g) (hi : i ≤ B.n) :
    ∃ e Se, (mtc B.ins B.n (B.n - g.o) g.o 0 none).1 = e ∧ e < B.n ∧ (B.ins e).op = 11 ∧ trS B res e = some Se ∧ Se.dead ≤ 1 ∧ frVs Se.fs = frVs (g :: rest) ∧ Se.fs.length = rest.length + 1 ∧ syX Sn (.e g.o) = (Se.A.length : Int) := by
  obtain ⟨S0, g0, a1, a2, a3, a4, a5, a6, a7, a8⟩ := F.at_
  have le := F.le
  have Cl := close C.m.hB C.m.hr C.m.hn C.m.f0 (B.n - g.o) g.o S0 0 g0 none (by omega) a1 (by rw [a3]; rfl) (fun q e => by cases e)
  rw [a2, show 0 + (0 - 1) = 0 from rfl, show S0.fs.drop (0 + 1) = rest by rw [a3]; rfl] at Cl
  obtain ⟨Se, f', b1, b2, b3, b4, b5, b6, b7, b8, _⟩ := Cl.at_
  refine ⟨_, Se, rfl, Cl.hi, Cl.op, b1, b2, by rw [b3]; exact frVs_cons (by omega) (by omega) (by omega), by rw [b3]; rfl, ?_⟩
  show (((Sn.en g.o).getD 0 : Nat) : Int) = _
  rw [← a4, b8]
  rfl
/-- An if's other road. -/
theorem CT2.other (C : CT2 B res Sn) {i : Nat} {S S' : SS} {g : SF} (hi : i < B.n) (hS : trS B res i = some S) (hS' : trS B res (i + 1) = some S') (h0 : S'.dead = 0) (hfs : S'.fs = g :: S.fs) (ho : g.o = i + 1) (hcn : g.cn = true) :
    ∃ e els, mtc B.ins B.n (B.n - (i + 1)) (i + 1) 0 none = (e, els) ∧ e < B.n ∧
      match els with
      | some q => q + 1 < B.n ∧ ∃ Sq, trS B res (q + 1) = some Sq ∧ Sq.dead = 0 ∧ Sq.h = g.fl ∧ frVs Sq.fs = frVs (g :: S.fs) ∧ Sq.fs.length = S.fs.length + 1 ∧ syX Sn (.c (i + 1)) = (Sq.A.length : Int)
      | none => (B.ins e).op = 11 ∧ ∃ Se, trS B res e = some Se ∧ Se.dead ≤ 1 ∧ frVs Se.fs = frVs (g :: S.fs) ∧ Se.fs.length = S.fs.length + 1 ∧ syX Sn (.c (i + 1)) = (Se.A.length : Int) := by
  have Cl := close C.m.hB C.m.hr C.m.hn C.m.f0 (B.n - (i + 1)) (i + 1) S' 0 g none (by omega) hS' (by rw [hfs]; rfl) (fun q e => by cases e)
  rw [h0, show 0 + (0 - 1) = 0 from rfl, show S'.fs.drop (0 + 1) = S.fs by rw [hfs]; rfl] at Cl
  generalize hz : mtc B.ins B.n (B.n - (i + 1)) (i + 1) 0 none = z at Cl
  obtain ⟨e, els⟩ := z
  have hhi : e < B.n := Cl.hi
  refine ⟨e, els, rfl, hhi, ?_⟩
  dsimp only at Cl
  rcases Cl.ye hcn with q | ⟨q, Sq, q1, q2, q3, q4, q5, q6, q7, q8, q9⟩
  · subst q
    obtain ⟨Se, f', b1, b2, b3, b4, b5, b6, b7, b8, b9⟩ := Cl.at_
    have b9 := b9 hcn rfl
    refine ⟨Cl.op, Se, b1, b2, by rw [b3]; exact frVs_cons b4 b6 b7, by rw [b3]; rfl, ?_⟩
    show (((Sn.el (i + 1)).getD 0 : Nat) : Int) = _
    rw [← ho, b9]
    rfl
  · subst q1
    refine ⟨by omega, Sq, q5, q8, q9, by rw [q7]; exact frVs_cons rfl rfl rfl, by rw [q7]; rfl, ?_⟩
    show (((Sn.el (i + 1)).getD 0 : Nat) : Int) = _
    rw [← ho, q6]
    rfl
end
end Go.Proofs.Qxb6500321a
