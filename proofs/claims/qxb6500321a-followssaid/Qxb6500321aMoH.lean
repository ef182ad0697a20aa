/-
  The model's compiler: a module.
-/
import Derived.Test.Qxb6500321aMoG
set_option linter.unusedSimpArgs false
set_option linter.unusedVariables false
set_option maxRecDepth 100000
set_option linter.unusedSectionVars false
set_option maxHeartbeats 1000000
namespace Go.Proofs.Qxb6500321a
open Go Go.Vc

structure F4 (w : World) (b : Nat) (x y z : Int) (v : Value) : Prop where
  c0 : w.cell? ⟨b, 0, none⟩ = some (.int .i64 x)
  c1 : w.cell? ⟨b, 1, none⟩ = some (.int .i64 y)
  c2 : w.cell? ⟨b, 2, none⟩ = some (.int .i64 z)
  c3 : w.cell? ⟨b, 3, none⟩ = some v
theorem F4.same {w w' : World} {b : Nat} {x y z : Int} {v : Value} (h : F4 w b x y z v) {S : List Nat} {B : Nat} (hs : Same S B w w') (hb : b < B) (hS : b ∉ S) : F4 w' b x y z v :=
  ⟨by rw [hs.cell hb hS]; exact h.c0, by rw [hs.cell hb hS]; exact h.c1, by rw [hs.cell hb hS]; exact h.c2, by rw [hs.cell hb hS]; exact h.c3⟩
theorem newF4 {w : World} {x y z : Int} {v : Value} {K : Nat → World → Prop} (hK : ∀ b w', w.heap.size ≤ b → F4 w' b x y z v → Same [] w.heap.size w w' → b < w'.heap.size → K b w') :
    letB (Array.size (World.heap w)) fun b => letW (World.alloc w (.cells #[.int .i64 0, .int .i64 0, .int .i64 0, .slice none 0 0] T_api_FlatFunc)) fun w7 => putCells w7 ⟨b, 0, none⟩ [.int .i64 x, .int .i64 y, .int .i64 z, v] fun w8 => K b w8 := by
  refine letB_intro fun b hb => letW_intro fun w7 hw7 => ?_
  have hS7 : Same [] w.heap.size w w7 := by rw [hw7]; exact (Same.refl _ _ _).alloc (Nat.le_refl _) _
  have hb' : w.heap.size ≤ b := by rw [hb]; exact Nat.le_refl _
  refine putCells_intro b _ 0 w7 _ (fun j hj => ?_) (fun w' hF => ?_)
  · rw [hw7, hb, Nat.zero_add]
    refine ⟨?_, by rw [World.frozen?_alloc_new]⟩
    rw [World.cell?_alloc_new]
    have hj : j < 4 := by simpa using hj
    have : j = 0 ∨ j = 1 ∨ j = 2 ∨ j = 3 := by omega
    rcases this with rfl | rfl | rfl | rfl <;> exact ⟨_, rfl⟩
  · have c0 : w'.cell? ⟨b, 0, none⟩ = some (.int .i64 x) := by rw [hF.cell, if_pos (by simp)]; rfl
    exact hK b w' hb' ⟨c0, by rw [hF.cell, if_pos (by simp)]; rfl, by rw [hF.cell, if_pos (by simp)]; rfl, by rw [hF.cell, if_pos (by simp)]; rfl⟩ (hS7.trans ((hF.same _).mono (Nat.le_refl _) (by intro k hk hlt; simp at hk; omega))) (cell_lt c0)
theorem row_weak {w : World} {base base' sz n : Nat} {e : TypeId} {v : Value} {xs : List Value} (h : w.ownsRow base e sz v n xs) (hb : base' ≤ base) : w.ownsRow base' e sz v n xs := by
  refine ⟨h.1, ?_⟩
  rcases h.2 with hn | ⟨g, cap, cur, h1, h2, rest⟩
  · exact .inl hn
  · exact .inr ⟨g, cap, cur, h1, by omega, rest⟩
/-- What the model's compiling leaves. -/
def MQ (w : World) (n : Nat) (z : Sum (Nat × Nat) (List FF)) : Value → World → Prop := fun v w' => Same [] w.heap.size w w' ∧
  match z with
  | .inl (k, at_) => v = .tuple #[.pointer none, .int .i64 (k : Int), .int .i64 (at_ : Int), .int .i64 29]
  | .inr fs => ∃ cdb, v = .tuple #[rp cdb, .int .i64 (n : Int), .int .i64 0, .int .i64 0] ∧ CdM w' (w.heap.size ≤ ·) cdb fs
section
variable {wd w w' : World} {L mb : Nat} {m : Nat → Value} {P : PM}
theorem mcomp_loop (W : WFP P) {w0 : World} (H0 : HM wd w0 L mb m P) {cdb : Nat} {z : Sum (Nat × Nat) (List FF)} :
    ∀ (n k : Nat) (acc : List FS) (w : World) (fa : Option Addr) (fl fc : Nat), k + n = P.nf → acc.length = k → CM w0 w cdb fa fl fc acc → z = compG P n k (acc.map (·.1)) →
      prepm_Prep_Compile.L1 (some ⟨mb, 0, none⟩) (some ⟨cdb, 0, none⟩) (k : Int) (MQ w0 P.nf z) (fun _ _ => False) w := by
  have B := W.pb
  have bnf := B.nf; have bim := B.nIm
  intro n
  induction n with
  | zero =>
    intro k acc w fa fl fc hk ha C ez
    have H := H0.keep C.sm
    obtain ⟨a, c2, _⟩ := H.fn
    obtain ⟨a', c2', _⟩ := H.drew.fn
    refine prepm_Prep_Compile.step1 _ _ _ _ _ _ ?_
    unfold prepm_Prep_Compile.V1
    simp only [true_and, nilV_some, Nat.zero_add]
    refine ⟨_, _, _, c2, cond_false' (decide_eq_false (by omega)) ⟨_, _, _, c2', ?_⟩⟩
    have ez : z = .inr (acc.map (·.1)) := ez
    rw [ez]
    exact ⟨C.sm.drew, cdb, rfl, C.out.drew⟩
  | succ n ih =>
    intro k acc w fa fl fc hk ha C ez
    have H := H0.keep C.sm
    have hkn : k < P.nf := by omega
    obtain ⟨tb, row, c2⟩ := H.row (by omega)
    obtain ⟨ai, ci, _⟩ := H.im
    have hB := B.fn k hkn
    have hfl := C.fL
    rw [compG_succ] at ez
    refine prepm_Prep_Compile.step1 _ _ _ _ _ _ ?_
    unfold prepm_Prep_Compile.V1
    simp only [true_and, nilV_some, Nat.zero_add]
    refine ⟨_, _, _, c2 w H, cond_true' (decide_eq_true (by omega)) ⟨_, _, _, c2 w H, ⟨by omega, by omega⟩, ?_⟩⟩
    rw [nilV_some]
    simp only [add_mk, Nat.zero_add, Int.toNat_natCast]
    have ew : IntKind.wrap .i64 ((P.nIm : Int) + (k : Int)) = ((P.nIm + k : Nat) : Int) := by rw [wrap_i64 (by omega) (by omega)]; omega
    refine ⟨_, _, _, ci, ?_⟩
    rw [ew]
    refine RunsQ.post (TypeOf_spec H B _ (by omega) (by omega)) ?_
    rintro v w1 ⟨rfl, S1⟩
    have H1 := H.keep S1
    have C1 := C.keep S1
    cases ht : typeOf P ((P.nIm + k : Nat) : Int) with
    | none =>
      have hf : compF P k = .inl (k, 0) := by unfold compF; rw [ht]
      rw [hf] at ez
      refine ⟨_, _, rfl, cond_true' rfl ?_⟩
      rw [ez]
      exact ⟨C1.sm, rfl⟩
    | some t =>
      have hsz := typeOf_size B ht
      have hs1 : (splitP t).1.size ≤ 1024 := Nat.le_trans (splitF_size t t.size 0).1 hsz
      have hs2 : (splitP t).2.size ≤ 1024 := Nat.le_trans (splitF_size t t.size 0).2 hsz
      refine ⟨_, _, rfl, cond_false' rfl (RunsQ.post (Split_spec t hsz w1) ?_)⟩
      rintro v w2 ⟨rfl, S12⟩
      have H2 := H1.keep S12
      have C2 := C1.keep S12
      obtain ⟨nb, ta, tc, wb⟩ := wb_of W (row w2 H2) hkn
      have hD : (bdOf P (P.fn k)).n = (P.fn k).nI := rfl
      have ad0 : AD False w2 none 0 (bdOf P (P.fn k)) (splitP t).2.size (initS 0) := .inl ⟨not_false, rfl⟩
      refine ⟨_, _, rfl, RunsQ.post (mwalk_spec B H2 wb hs2 ad0) ?_⟩
      have hf : compF P k = match goS (bdOf P (P.fn k)) (P.fn k).nI 0 (initS (splitP t).2.size) with
          | .inl at_ => .inl (k, at_)
          | .inr S => .inr ⟨(splitP t).1.size, (splitP t).1.size + (strOfNums (P.fn k).ls).size, (splitP t).2.size, outC S⟩ := by (unfold compF; rw [ht]) <;> rfl
      cases hgo : goS (bdOf P (P.fn k)) (P.fn k).nI 0 (initS (splitP t).2.size) with
      | inl at_ =>
        rw [hgo] at hf
        rw [hf] at ez
        rw [hD, hgo]
        rintro v w3 ⟨rfl, S23⟩
        refine ⟨_, _, _, _, _, _, _, _, rfl, cond_true' rfl ?_⟩
        rw [ez]
        exact ⟨(C2.keep S23).sm, rfl⟩
      | inr S =>
        rw [hgo] at hf
        dsimp only at hf
        rw [hf] at ez
        dsimp only at ez
        rw [hD, hgo]
        rintro v w3 ⟨ca, cl, cc, wa, wc, fa', fl', fc', rfl, mw⟩
        refine ⟨_, _, _, _, _, _, _, _, rfl, cond_false' rfl ?_⟩
        have S23 := mw.sm
        have H3 := H2.keep S23
        have C3 := C2.keep S23
        have wb3 := wb.keep S23
        have m2 : M2 (bdOf P (P.fn k)) (splitP t).2.size S := m2_of wb3 hs2 (by rw [hD]; exact hgo)
        obtain ⟨ab, ea, _, _, _, hc⟩ := row_get mw.wh (by omega)
        have ad1 : AD True w3 wa ((bdOf P (P.fn k)).n + 1) (bdOf P (P.fn k)) (splitP t).2.size S :=
          .inr ⟨trivial, m2, ab, ea, rfl, fun j hj => hc j _ (ivs_get _ _ j (by omega))⟩
        clear mw
        refine RunsQ.post (mwalk_spec B H3 wb3 hs2 ad1) ?_
        rw [hD, hgo]
        rintro v w4 ⟨ca, cl, cc, wa', wc', fa', fl', fc', rfl, mw⟩
        refine ⟨_, _, _, _, _, _, _, _, rfl, ?_⟩
        have S34 := mw.sm
        have H4 := H3.keep S34
        have C4 := C3.keep S34
        obtain ⟨ls, r1, r2, r3⟩ := mw.cs
        have r3 : ls = outC S := r3 trivial
        subst r3
        have lc : cdb < w3.heap.size := cell_lt C3.c0
        have rn : ∀ q, (Value.slice ca cl cc).ownBlock = some q → q ≠ cdb := fun q hq => by have := (r1.lt q hq).1; omega
        have r1 := row_weak r1 C3.sm.size
        clear mw
        subst r2
        have e1 := (row _ H4).c1 k hkn
        refine ⟨_, e1, ?_⟩
        have ls6 := hB.ls
        have elo : IntKind.wrap .i64 ((((splitP t).1.size : Nat) : Int) + (((strOfNums (P.fn k).ls).size : Nat) : Int)) = (((splitP t).1.size + (strOfNums (P.fn k).ls).size : Nat) : Int) := by rw [wrap_i64 (by omega) (by omega)]; omega
        have ek : IntKind.wrap .i64 ((k : Int) + 1) = ((k + 1 : Nat) : Int) := by rw [wrap_i64 (by omega) (by omega)]; omega
        rw [elo, ek]
        refine newF4 fun b43 w5 hb43 F5 S45 l5 => ?_
        have S46 : Same [] w4.heap.size w4 w5.drew := S45.drew
        have H6 := H4.keep S46
        have C6 := C4.keep S46
        have r6 := row_keep r1 S46
        have F6 : F4 w5.drew b43 _ _ _ _ := ⟨F5.c0, F5.c1, F5.c2, F5.c3⟩
        let ft : FS := (⟨(splitP t).1.size, (splitP t).1.size + (strOfNums (P.fn k).ls).size, (splitP t).2.size, outC S⟩, ca, cc)
        have fin : ∀ w9 a' c', CM w0 w9 cdb a' (fl + 1) c' (acc ++ [ft]) → prepm_Prep_Compile.L1 (some ⟨mb, 0, none⟩) (some ⟨cdb, 0, none⟩) ((k + 1 : Nat) : Int) (MQ w0 P.nf z) (fun _ _ => False) w9 := fun w9 a' c' C9 => by
          exact ih (k + 1) _ w9 a' _ c' (by omega) (by simp [ha]) C9 (by rw [ez]; simp [ft])
        have one : ∀ b w1, b = w5.drew.heap.size → w1 = w5.drew.alloc (.cells #[.int .i64 (ft.1.pa : Int), .int .i64 (ft.1.lo : Int), .int .i64 (ft.1.re : Int), .slice ft.2.1 ft.1.cells.length ft.2.2] T_api_FlatFunc) →
            ∃ x5 : Option Addr, ∃ x6 : Nat, ∃ x7 : Nat, ∃ w2, Sem.run Try.prog (Builtin.append_ #[T_sl_api_FlatFunc, T_sl_api_FlatFunc] T_sl_api_FlatFunc #[(.slice fa fl fc), (.slice (some ⟨b, 0, none⟩) 1 1)]) w1 = .ok (.slice x5 x6 x7) w2 ∧ (can w2 ⟨cdb, 0, none⟩ ∧ letW (World.setCell w2 ⟨cdb, 0, none⟩ (.slice x5 x6 x7)) fun w9 => prepm_Prep_Compile.L1 (some ⟨mb, 0, none⟩) (some ⟨cdb, 0, none⟩) ((k + 1 : Nat) : Int) (MQ w0 P.nf z) (fun _ _ => False) w9) := fun b w1 hb hw =>
          C6.app ft r6 rn (by omega) hb hw fin
        have c6 : w5.drew.cell? ⟨cdb, 0, none⟩ = some (.slice fa fl fc) := C6.c0
        have c7 : ∀ w1, w1 = w5.drew.alloc (.cells #[.int .i64 (ft.1.pa : Int), .int .i64 (ft.1.lo : Int), .int .i64 (ft.1.re : Int), .slice ft.2.1 ft.1.cells.length ft.2.2] T_api_FlatFunc) → w1.cell? ⟨cdb, 0, none⟩ = some (.slice fa fl fc) := fun w1 hw => by
          have S : Same [] w5.drew.heap.size w5.drew w1 := by rw [hw]; exact (Same.refl _ _ _).alloc (Nat.le_refl _) _
          rw [S.cell (p := ⟨cdb, 0, none⟩) (cell_lt c6) (by simp)]; exact c6
        clear ih fin
        repeat' first
          | exact trivial
          | exact one _ _ (by assumption) (by assumption)
          | refine ⟨_, _, _, c6, ?_⟩
          | refine ⟨_, _, _, _, _, _, F6.c0, F6.c1, F6.c2, F6.c3, ?_⟩
          | refine letB_intro fun b9 hb9 => letW_intro fun w9 hw9 => ?_
          | refine ⟨_, _, _, c7 _ (by assumption), ?_⟩
          | refine And.intro ?_ ?_
theorem mCompile_nil (p : Option Addr) : Runs Try.prog prepm_Prep_Compile.id #[.pointer p, .pointer none] w fun v w' => v = .tuple #[.pointer none, .int .i64 (-1), .int .i64 0, .int .i64 32] ∧ w' = w := by
  refine prepm_Prep_Compile.enter _ _ _ _ _ ?_
  unfold prepm_Prep_Compile.V
  exact cond_true' rfl ⟨rfl, rfl⟩
theorem mCompile_spec (W : WFP P) (H : HM wd w L mb m P) (p : Option Addr) : Runs Try.prog prepm_Prep_Compile.id #[.pointer p, rp mb] w (MQ w P.nf (comp P)) := by
  refine prepm_Prep_Compile.enter _ _ _ _ _ ?_
  unfold prepm_Prep_Compile.V
  refine cond_false' rfl (letB_intro fun cdb hb => letW_intro fun w1 hw => ?_)
  have S1 : Same [] w.heap.size w w1 := by rw [hw]; exact (Same.refl _ _ _).alloc (Nat.le_refl _) _
  have cd1 : w1.cell? ⟨cdb, 0, none⟩ = some (.slice none 0 0) := by rw [hw, hb, World.cell?_alloc_new]; rfl
  have cf1 : w1.frozen? ⟨cdb, 0, none⟩ = false := by rw [hw, hb, World.frozen?_alloc_new]
  exact mcomp_loop W H P.nf 0 [] w1 none 0 0 (by omega) rfl ⟨S1, by omega, cd1, cf1, World.ownsRow_nil _ _ _ _, rfl, fun k hk => by simp [Value.ownBlock] at hk, fun t ht => by cases ht⟩ rfl
end
end Go.Proofs.Qxb6500321a
