/-
  The model's sections.
-/
import Derived.Test.Qxb6500316aMdQ
set_option linter.unusedSimpArgs false
set_option linter.unusedVariables false
set_option maxRecDepth 100000
set_option linter.unusedSectionVars false
namespace Go.Proofs.Qxb6500316a
open Go Go.Vc
section
variable {α : Type} {w : World} {rb mb e lo : Nat} {s : ByteArray} {r0 : Res α}
theorem VF.zero {β : Type} {enc : β → List Value} {t : TypeId} {sz k : Nat} {f : Nat → β} (hm : w.cell? ⟨mb, k, none⟩ = some (.slice none 0 0)) (hf : ∀ j, w.frozen? ⟨mb, j, none⟩ = false) (hrm : rb ≠ mb) (hmw : mb < w.heap.size) (hr : rb < w.heap.size) : VF enc t sz k w w rb mb 0 f none 0 :=
  ⟨⟨hm, World.ownsRow_nil w _ t sz, hf, hmw⟩, Same.refl _ _ _, fun _ _ => rfl, hrm, hr⟩
theorem sec1_spec (h : StR w rb s e lo r0) (he : e ≤ s.size) (hs : s.size ≤ 1024) (hm : w.cell? ⟨mb, 0, none⟩ = some (.slice none 0 0)) (hf : ∀ j, w.frozen? ⟨mb, j, none⟩ = false) (hrm : rb ≠ mb) (hmw : mb < w.heap.size) :
    Runs Try.prog binm_rd_section.id #[rp rb, .int .i64 1, rp mb] w (VPost strE T_string 1 0 w rb mb s e lo (r0.bind fun _ p => typesP s e p)) := by
  refine binm_rd_section.enter _ _ _ _ _ _ ?_
  unfold binm_rd_section.V
  refine cond_true' rfl ?_
  refine (countm_spec h he hs 8).into fun v w5 hv hst S5 => ⟨_, hv, ?_⟩
  have hn := natR_count r0 s e 8
  have V5 := (VF.zero (enc := strE) (t := T_string) (sz := 1) (f := (fun _ => ⟨#[]⟩)) hm hf hrm hmw h.lt).step S5
  have e0 : (r0.bind fun _ p => typesP s e p) = (r0.bind fun _ p => countP s e 8 p).bind fun n q => (typesL s e n 0 (fun _ => ⟨#[]⟩) q).bind fun f q2 => .ok (n, f) q2 := by rw [Res.bind_bind]; rfl
  rw [e0]
  generalize (r0.bind fun _ p => countP s e 8 p) = r1 at *
  cases r1 using Res.cs with
  | ok n q =>
    have hn : n ≤ 8 := by have : natR (Res.ok n q) = n := rfl; rw [this] at hn; omega
    rw [Res.bind_ok']
    exact types_mloop he hs hn n 0 (.ok (fun _ => ⟨#[]⟩) q) (fun _ => ⟨#[]⟩) none 0 w5 (by omega) V5 hst (fun f' q h => by (first | (injection h with z__; injection z__) | injection h)) rfl
  | err n x =>
    rw [Res.bind_err']
    exact types_mloop (n := 0) he hs (by omega) 0 0 (.err n x) (fun _ => ⟨#[]⟩) none 0 w5 (by omega) V5 hst (fun f' q h => by cases h) rfl
theorem sec2_spec (h : StR w rb s e lo r0) (he : e ≤ s.size) (hs : s.size ≤ 1024) (hm : w.cell? ⟨mb, 1, none⟩ = some (.slice none 0 0)) (hf : ∀ j, w.frozen? ⟨mb, j, none⟩ = false) (hrm : rb ≠ mb) (hmw : mb < w.heap.size) :
    Runs Try.prog binm_rd_section.id #[rp rb, .int .i64 2, rp mb] w (VPost impE T_api_Import 3 1 w rb mb s e lo (r0.bind fun _ p => importsP s e p)) := by
  refine binm_rd_section.enter _ _ _ _ _ _ ?_
  unfold binm_rd_section.V
  refine cond_false' rfl (cond_true' rfl ?_)
  refine (countm_spec h he hs 4).into fun v w5 hv hst S5 => ⟨_, hv, ?_⟩
  have hn := natR_count r0 s e 4
  have V5 := (VF.zero (enc := impE) (t := T_api_Import) (sz := 3) (f := imports0) hm hf hrm hmw h.lt).step S5
  have e0 : (r0.bind fun _ p => importsP s e p) = (r0.bind fun _ p => countP s e 4 p).bind fun n q => (importsL s e n 0 imports0 q).bind fun f q2 => .ok (n, f) q2 := by rw [Res.bind_bind]; rfl
  rw [e0]
  generalize (r0.bind fun _ p => countP s e 4 p) = r1 at *
  cases r1 using Res.cs with
  | ok n q =>
    have hn : n ≤ 4 := by have : natR (Res.ok n q) = n := rfl; rw [this] at hn; omega
    rw [Res.bind_ok']
    exact imports_mloop he hs hn n 0 (.ok imports0 q) imports0 none 0 w5 (by omega) V5 hst (fun f' q h => by (first | (injection h with z__; injection z__) | injection h)) rfl
  | err n x =>
    rw [Res.bind_err']
    exact imports_mloop (n := 0) he hs (by omega) 0 0 (.err n x) imports0 none 0 w5 (by omega) V5 hst (fun f' q h => by cases h) rfl
theorem sec6_spec (h : StR w rb s e lo r0) (he : e ≤ s.size) (hs : s.size ≤ 1024) (hm : w.cell? ⟨mb, 7, none⟩ = some (.slice none 0 0)) (hf : ∀ j, w.frozen? ⟨mb, j, none⟩ = false) (hrm : rb ≠ mb) (hmw : mb < w.heap.size) :
    Runs Try.prog binm_rd_section.id #[rp rb, .int .i64 6, rp mb] w (VPost globE T_api_Global 5 7 w rb mb s e lo (r0.bind fun _ p => globsP s e p)) := by
  refine binm_rd_section.enter _ _ _ _ _ _ ?_
  unfold binm_rd_section.V
  refine cond_false' rfl (cond_false' rfl (cond_false' rfl (cond_false' rfl (cond_true' rfl ?_))))
  refine (countm_spec h he hs 4).into fun v w5 hv hst S5 => ⟨_, hv, ?_⟩
  have hn := natR_count r0 s e 4
  have V5 := (VF.zero (enc := globE) (t := T_api_Global) (sz := 5) (f := globs0) hm hf hrm hmw h.lt).step S5
  have e0 : (r0.bind fun _ p => globsP s e p) = (r0.bind fun _ p => countP s e 4 p).bind fun n q => (globsL s e n 0 globs0 q).bind fun f q2 => .ok (n, f) q2 := by rw [Res.bind_bind]; rfl
  rw [e0]
  generalize (r0.bind fun _ p => countP s e 4 p) = r1 at *
  cases r1 using Res.cs with
  | ok n q =>
    have hn : n ≤ 4 := by have : natR (Res.ok n q) = n := rfl; rw [this] at hn; omega
    rw [Res.bind_ok']
    exact globs_mloop he hs hn n 0 (.ok globs0 q) globs0 none 0 w5 (by omega) V5 hst (fun f' q h => by (first | (injection h with z__; injection z__) | injection h)) rfl
  | err n x =>
    rw [Res.bind_err']
    exact globs_mloop (n := 0) he hs (by omega) 0 0 (.err n x) globs0 none 0 w5 (by omega) V5 hst (fun f' q h => by cases h) rfl
theorem sec7_spec (h : StR w rb s e lo r0) (he : e ≤ s.size) (hs : s.size ≤ 1024) (hm : w.cell? ⟨mb, 8, none⟩ = some (.slice none 0 0)) (hf : ∀ j, w.frozen? ⟨mb, j, none⟩ = false) (hrm : rb ≠ mb) (hmw : mb < w.heap.size) :
    Runs Try.prog binm_rd_section.id #[rp rb, .int .i64 7, rp mb] w (VPost expE T_api_Export 3 8 w rb mb s e lo (r0.bind fun _ p => exportsP s e p)) := by
  refine binm_rd_section.enter _ _ _ _ _ _ ?_
  unfold binm_rd_section.V
  refine cond_false' rfl (cond_false' rfl (cond_false' rfl (cond_false' rfl (cond_false' rfl (cond_true' rfl ?_)))))
  refine (countm_spec h he hs 6).into fun v w5 hv hst S5 => ⟨_, hv, ?_⟩
  have hn := natR_count r0 s e 6
  have V5 := (VF.zero (enc := expE) (t := T_api_Export) (sz := 3) (f := exports0) hm hf hrm hmw h.lt).step S5
  have e0 : (r0.bind fun _ p => exportsP s e p) = (r0.bind fun _ p => countP s e 6 p).bind fun n q => (exportsL s e n 0 exports0 q).bind fun f q2 => .ok (n, f) q2 := by rw [Res.bind_bind]; rfl
  rw [e0]
  generalize (r0.bind fun _ p => countP s e 6 p) = r1 at *
  cases r1 using Res.cs with
  | ok n q =>
    have hn : n ≤ 6 := by have : natR (Res.ok n q) = n := rfl; rw [this] at hn; omega
    rw [Res.bind_ok']
    exact exports_mloop he hs hn n 0 (.ok exports0 q) exports0 none 0 w5 (by omega) V5 hst (fun f' q h => by (first | (injection h with z__; injection z__) | injection h)) rfl
  | err n x =>
    rw [Res.bind_err']
    exact exports_mloop (n := 0) he hs (by omega) 0 0 (.err n x) exports0 none 0 w5 (by omega) V5 hst (fun f' q h => by cases h) rfl
theorem sec9_spec (h : StR w rb s e lo r0) (he : e ≤ s.size) (hs : s.size ≤ 1024) (hm : w.cell? ⟨mb, 10, none⟩ = some (.slice none 0 0)) (hf : ∀ j, w.frozen? ⟨mb, j, none⟩ = false) (hrm : rb ≠ mb) (hmw : mb < w.heap.size) :
    Runs Try.prog binm_rd_section.id #[rp rb, .int .i64 9, rp mb] w (EPost w rb mb s e lo (r0.bind fun _ p => elemsP s e p)) := by
  refine binm_rd_section.enter _ _ _ _ _ _ ?_
  unfold binm_rd_section.V
  refine cond_false' rfl (cond_false' rfl (cond_false' rfl (cond_false' rfl (cond_false' rfl (cond_false' rfl (cond_false' rfl (cond_true' rfl ?_)))))))
  refine (countm_spec h he hs 3).into fun v w5 hv hst S5 => ⟨_, hv, ?_⟩
  have hn := natR_count r0 s e 3
  have V5 := (VF.zero (enc := elE) (t := T_api_Elem) (sz := 4) (f := fun _ => (⟨⟨0, 0, 0⟩, .slice none 0 0⟩ : ElR)) hm hf hrm hmw h.lt).step S5
  have e0 : (r0.bind fun _ p => elemsP s e p) = (r0.bind fun _ p => countP s e 3 p).bind fun n q => (elemsL s e n 0 el0 q).bind fun f q2 => .ok (n, f) q2 := by rw [Res.bind_bind]; rfl
  rw [e0]
  generalize (r0.bind fun _ p => countP s e 3 p) = r1 at *
  cases r1 using Res.cs with
  | ok n q =>
    have hn : n ≤ 3 := by have : natR (Res.ok n q) = n := rfl; rw [this] at hn; omega
    rw [Res.bind_ok']
    exact elems_mloop he hs hn n 0 (.ok el0 q) el0 (fun _ => ⟨⟨0, 0, 0⟩, .slice none 0 0⟩) none 0 w5 (by omega) V5 (fun j hj => by omega) hst (fun f' q h => by (first | (injection h with z__; injection z__) | injection h)) rfl
  | err n x =>
    rw [Res.bind_err']
    exact elems_mloop (n := 0) he hs (by omega) 0 0 (.err n x) el0 (fun _ => ⟨⟨0, 0, 0⟩, .slice none 0 0⟩) none 0 w5 (by omega) V5 (fun j hj => by omega) hst (fun f' q h => by cases h) rfl
theorem sec11_spec (h : StR w rb s e lo r0) (he : e ≤ s.size) (hs : s.size ≤ 1024) (hm : w.cell? ⟨mb, 11, none⟩ = some (.slice none 0 0)) (hf : ∀ j, w.frozen? ⟨mb, j, none⟩ = false) (hrm : rb ≠ mb) (hmw : mb < w.heap.size) :
    Runs Try.prog binm_rd_section.id #[rp rb, .int .i64 11, rp mb] w (VPost datE T_api_Data 4 11 w rb mb s e lo (r0.bind fun _ p => datasP s e p)) := by
  refine binm_rd_section.enter _ _ _ _ _ _ ?_
  unfold binm_rd_section.V
  refine cond_false' rfl (cond_false' rfl (cond_false' rfl (cond_false' rfl (cond_false' rfl (cond_false' rfl (cond_false' rfl (cond_false' rfl (cond_true' rfl ?_))))))))
  refine (countm_spec h he hs 3).into fun v w5 hv hst S5 => ⟨_, hv, ?_⟩
  have hn := natR_count r0 s e 3
  have V5 := (VF.zero (enc := datE) (t := T_api_Data) (sz := 4) (f := datas0) hm hf hrm hmw h.lt).step S5
  have e0 : (r0.bind fun _ p => datasP s e p) = (r0.bind fun _ p => countP s e 3 p).bind fun n q => (datasL s e n 0 datas0 q).bind fun f q2 => .ok (n, f) q2 := by rw [Res.bind_bind]; rfl
  rw [e0]
  generalize (r0.bind fun _ p => countP s e 3 p) = r1 at *
  cases r1 using Res.cs with
  | ok n q =>
    have hn : n ≤ 3 := by have : natR (Res.ok n q) = n := rfl; rw [this] at hn; omega
    rw [Res.bind_ok']
    exact datas_mloop he hs hn n 0 (.ok datas0 q) datas0 none 0 w5 (by omega) V5 hst (fun f' q h => by (first | (injection h with z__; injection z__) | injection h)) rfl
  | err n x =>
    rw [Res.bind_err']
    exact datas_mloop (n := 0) he hs (by omega) 0 0 (.err n x) datas0 none 0 w5 (by omega) V5 hst (fun f' q h => by cases h) rfl
def LPost4 (w0 : World) (rb mb : Nat) (s : ByteArray) (e lo : Nat) (r : Res (Option (Int × Int))) : Value → World → Prop := fun v w' =>
  v = .tuple #[] ∧ StR w' rb s e lo r ∧ Same [rb, mb] w0.heap.size w0 w' ∧ (∀ j, j ≠ 3 → j ≠ 4 → w'.cell? ⟨mb, j, none⟩ = w0.cell? ⟨mb, j, none⟩) ∧ (∀ j, w'.frozen? ⟨mb, j, none⟩ = false) ∧ ∀ x q, r = .ok x q → match x with | none => w'.cell? ⟨mb, 3, none⟩ = w0.cell? ⟨mb, 3, none⟩ ∧ w'.cell? ⟨mb, 4, none⟩ = w0.cell? ⟨mb, 4, none⟩ | some y => w'.cell? ⟨mb, 3, none⟩ = some (.int .i64 y.1) ∧ w'.cell? ⟨mb, 4, none⟩ = some (.int .i64 y.2)
theorem sec4_spec (h : StR w rb s e lo r0) (he : e ≤ s.size) (hs : s.size ≤ 1024) {a1 a2 : Value} (hm1 : w.cell? ⟨mb, 3, none⟩ = some a1) (hm2 : w.cell? ⟨mb, 4, none⟩ = some a2) (hf : ∀ j, w.frozen? ⟨mb, j, none⟩ = false) (hrm : rb ≠ mb) :
    Runs Try.prog binm_rd_section.id #[rp rb, .int .i64 4, rp mb] w (LPost4 w rb mb s e lo (r0.bind fun _ p => tableP s e p)) := by
  refine binm_rd_section.enter _ _ _ _ _ _ ?_
  unfold binm_rd_section.V
  refine cond_false' rfl (cond_false' rfl (cond_true' rfl ?_))
  refine (countm_spec h he hs 1).into fun v w5 hv hst S5 => ⟨_, hv, ?_⟩
  have hmw : mb < w.heap.size := cell_lt hm1
  have c5 : ∀ j, w5.cell? ⟨mb, j, none⟩ = w.cell? ⟨mb, j, none⟩ := fun j => S5.cell hmw (by simp; omega)
  have f5 : ∀ j, w5.frozen? ⟨mb, j, none⟩ = false := fun j => by rw [S5.frozen hmw (by simp; omega)]; exact hf j
  generalize hr : (r0.bind fun _ p => tableP s e p) = r
  have hr : r = (r0.bind fun _ p => countP s e 1 p).bind fun n q => if n = 1 then (fixedP s e 112 q).bind fun _ q2 => (limitsP s e q2).bind fun x q3 => .ok (some x) q3 else .ok none q := by rw [← hr, Res.bind_bind]; rfl
  have hn := natR_count r0 s e 1
  generalize (r0.bind fun _ p => countP s e 1 p) = r1 at *
  have dn : (∀ x q, r = .ok x q → x = none) → StR w5 rb s e lo r → LPost4 w rb mb s e lo r (.tuple #[]) w5 := fun hx hst => ⟨rfl, hst, S5.mono (Nat.le_refl _) (by simp), fun j _ _ => c5 j, f5, fun x q h => by rw [hx x q h]; exact ⟨c5 _, c5 _⟩⟩
  cases r1 using Res.cs with
  | err n x =>
    refine cond_false' (by show ((((0 : Nat) : Int)) == 1) = false; decide) ?_
    exact dn (fun x q h => by rw [hr] at h; cases h) (by rw [hr]; exact hst)
  | ok n q =>
    rw [show natR (Res.ok n q) = n from rfl] at *
    by_cases hn1 : n = 1
    · refine cond_true' (by rw [hn1]; rfl) ?_
      refine (fixedm_spec hst he hs 112).into fun v w22 hv22 hst22 S22 => ⟨hv22, ?_⟩
      refine (limitsm_spec hst22 he hs).into fun v w24 hv24 hst24 S24 => ?_
      have S19 : Same [rb] w.heap.size w w24 := (S5.app S22).app S24
      have hrr : r = ((((Res.ok n q).bind fun _ p => fixedP s e 112 p).bind fun _ p => limitsP s e p).bind fun x q => .ok (some x) q) := by
        rw [hr, Res.bind_ok', if_pos hn1, Res.bind_ok', Res.bind_bind]
      obtain ⟨x, rfl, hx⟩ := hv24
      refine ⟨_, _, rfl, ?_⟩
      simp only [nilV_some, Nat.zero_add]
      have d1 : w24.cell? ⟨mb, 3, none⟩ = some a1 := by rw [S19.cell hmw (by simp; omega)]; exact hm1
      have d2 : w24.cell? ⟨mb, 4, none⟩ = some a2 := by rw [S19.cell hmw (by simp; omega)]; exact hm2
      have df : ∀ j, w24.frozen? ⟨mb, j, none⟩ = false := fun j => by rw [S19.frozen hmw (by simp; omega)]; exact hf j
      refine ⟨⟨⟨_, d1⟩, df 3⟩, letW_intro fun w28 hw28 => ?_⟩
      have g1 : w28.cell? ⟨mb, 3, none⟩ = some (.int .i64 x.1) := by rw [hw28, cell_set _ _ _ _ _ d1]; rfl
      have g2 : w28.cell? ⟨mb, 4, none⟩ = some a2 := by rw [hw28, cell_set _ _ _ _ _ d2]; rfl
      refine ⟨⟨⟨_, g2⟩, by rw [hw28]; simpa using df 4⟩, letW_intro fun w30 hw30 => ?_⟩
      have k1' : w30.cell? ⟨mb, 3, none⟩ = some (.int .i64 x.1) := by rw [hw30, cell_set _ _ _ _ _ g1]; rfl
      have k2' : w30.cell? ⟨mb, 4, none⟩ = some (.int .i64 x.2) := by rw [hw30, cell_set _ _ _ _ _ g2]; rfl
      have S30 : Same [mb] w24.heap.size w24 w30 := by rw [hw30, hw28]; exact ((Same.refl _ _ _).setCell (.inr (by simp)) _).setCell (.inr (by simp)) _
      refine ⟨rfl, ?_, ?_, fun j j1 j2 => ?_, fun j => by rw [hw30, hw28]; simpa using df j, fun y q' hy => ?_⟩
      · rw [hrr]; exact (hst24.same S30 hst24.lt (by simp; omega)).map _
      · exact (S19.mono (Nat.le_refl _) (by simp)).trans (S30.mono S19.size (by simp))
      · rw [hw30, World.cell?_setCell_other w28 _ _ _ (by intro he; simp at he; omega), hw28, World.cell?_setCell_other w24 _ _ _ (by intro he; simp at he; omega)]
        exact S19.cell hmw (by simp; omega)
      · rw [hrr] at hy
        obtain ⟨z, q2, z1, z2⟩ := bind_ok hy
        (first | (injection z2 with z__; injection z__ with z2 _) | injection z2 with z2 _)
        rw [← z2]
        have := hx z q2 z1
        subst this
        exact ⟨k1', k2'⟩
    · refine cond_false' (by simpa using (fun h => hn1 (by omega) : ¬ (n : Int) = 1)) ?_
      have hrr : r = .ok none q := by rw [hr, Res.bind_ok', if_neg hn1]
      exact dn (fun x q' h => by rw [hrr] at h; (first | (injection h with z__; injection z__ with h _) | injection h with h _); exact h.symm) (by rw [hrr]; exact hst)
def LPost5 (w0 : World) (rb mb : Nat) (s : ByteArray) (e lo : Nat) (r : Res (Option (Int × Int))) : Value → World → Prop := fun v w' =>
  v = .tuple #[] ∧ StR w' rb s e lo r ∧ Same [rb, mb] w0.heap.size w0 w' ∧ (∀ j, j ≠ 5 → j ≠ 6 → w'.cell? ⟨mb, j, none⟩ = w0.cell? ⟨mb, j, none⟩) ∧ (∀ j, w'.frozen? ⟨mb, j, none⟩ = false) ∧ ∀ x q, r = .ok x q → match x with | none => w'.cell? ⟨mb, 5, none⟩ = w0.cell? ⟨mb, 5, none⟩ ∧ w'.cell? ⟨mb, 6, none⟩ = w0.cell? ⟨mb, 6, none⟩ | some y => w'.cell? ⟨mb, 5, none⟩ = some (.int .i64 y.1) ∧ w'.cell? ⟨mb, 6, none⟩ = some (.int .i64 y.2)
theorem sec5_spec (h : StR w rb s e lo r0) (he : e ≤ s.size) (hs : s.size ≤ 1024) {a1 a2 : Value} (hm1 : w.cell? ⟨mb, 5, none⟩ = some a1) (hm2 : w.cell? ⟨mb, 6, none⟩ = some a2) (hf : ∀ j, w.frozen? ⟨mb, j, none⟩ = false) (hrm : rb ≠ mb) :
    Runs Try.prog binm_rd_section.id #[rp rb, .int .i64 5, rp mb] w (LPost5 w rb mb s e lo (r0.bind fun _ p => memoryP s e p)) := by
  refine binm_rd_section.enter _ _ _ _ _ _ ?_
  unfold binm_rd_section.V
  refine cond_false' rfl (cond_false' rfl (cond_false' rfl (cond_true' rfl ?_)))
  refine (countm_spec h he hs 1).into fun v w5 hv hst S5 => ⟨_, hv, ?_⟩
  have hmw : mb < w.heap.size := cell_lt hm1
  have c5 : ∀ j, w5.cell? ⟨mb, j, none⟩ = w.cell? ⟨mb, j, none⟩ := fun j => S5.cell hmw (by simp; omega)
  have f5 : ∀ j, w5.frozen? ⟨mb, j, none⟩ = false := fun j => by rw [S5.frozen hmw (by simp; omega)]; exact hf j
  generalize hr : (r0.bind fun _ p => memoryP s e p) = r
  have hr : r = (r0.bind fun _ p => countP s e 1 p).bind fun n q => if n = 1 then (limitsP s e q).bind fun x q3 => .ok (some x) q3 else .ok none q := by rw [← hr, Res.bind_bind]; rfl
  have hn := natR_count r0 s e 1
  generalize (r0.bind fun _ p => countP s e 1 p) = r1 at *
  have dn : (∀ x q, r = .ok x q → x = none) → StR w5 rb s e lo r → LPost5 w rb mb s e lo r (.tuple #[]) w5 := fun hx hst => ⟨rfl, hst, S5.mono (Nat.le_refl _) (by simp), fun j _ _ => c5 j, f5, fun x q h => by rw [hx x q h]; exact ⟨c5 _, c5 _⟩⟩
  cases r1 using Res.cs with
  | err n x =>
    refine cond_false' (by show ((((0 : Nat) : Int)) == 1) = false; decide) ?_
    exact dn (fun x q h => by rw [hr] at h; cases h) (by rw [hr]; exact hst)
  | ok n q =>
    rw [show natR (Res.ok n q) = n from rfl] at *
    by_cases hn1 : n = 1
    · refine cond_true' (by rw [hn1]; rfl) ?_
      refine (limitsm_spec hst he hs).into fun v w24 hv24 hst24 S24 => ?_
      have S19 : Same [rb] w.heap.size w w24 := S5.app S24
      have hrr : r = (((Res.ok n q).bind fun _ p => limitsP s e p).bind fun x q => .ok (some x) q) := by
        rw [hr, Res.bind_ok', if_pos hn1, Res.bind_ok']
      obtain ⟨x, rfl, hx⟩ := hv24
      refine ⟨_, _, rfl, ?_⟩
      simp only [nilV_some, Nat.zero_add]
      have d1 : w24.cell? ⟨mb, 5, none⟩ = some a1 := by rw [S19.cell hmw (by simp; omega)]; exact hm1
      have d2 : w24.cell? ⟨mb, 6, none⟩ = some a2 := by rw [S19.cell hmw (by simp; omega)]; exact hm2
      have df : ∀ j, w24.frozen? ⟨mb, j, none⟩ = false := fun j => by rw [S19.frozen hmw (by simp; omega)]; exact hf j
      refine ⟨⟨⟨_, d1⟩, df 5⟩, letW_intro fun w28 hw28 => ?_⟩
      have g1 : w28.cell? ⟨mb, 5, none⟩ = some (.int .i64 x.1) := by rw [hw28, cell_set _ _ _ _ _ d1]; rfl
      have g2 : w28.cell? ⟨mb, 6, none⟩ = some a2 := by rw [hw28, cell_set _ _ _ _ _ d2]; rfl
      refine ⟨⟨⟨_, g2⟩, by rw [hw28]; simpa using df 6⟩, letW_intro fun w30 hw30 => ?_⟩
      have k1' : w30.cell? ⟨mb, 5, none⟩ = some (.int .i64 x.1) := by rw [hw30, cell_set _ _ _ _ _ g1]; rfl
      have k2' : w30.cell? ⟨mb, 6, none⟩ = some (.int .i64 x.2) := by rw [hw30, cell_set _ _ _ _ _ g2]; rfl
      have S30 : Same [mb] w24.heap.size w24 w30 := by rw [hw30, hw28]; exact ((Same.refl _ _ _).setCell (.inr (by simp)) _).setCell (.inr (by simp)) _
      refine ⟨rfl, ?_, ?_, fun j j1 j2 => ?_, fun j => by rw [hw30, hw28]; simpa using df j, fun y q' hy => ?_⟩
      · rw [hrr]; exact (hst24.same S30 hst24.lt (by simp; omega)).map _
      · exact (S19.mono (Nat.le_refl _) (by simp)).trans (S30.mono S19.size (by simp))
      · rw [hw30, World.cell?_setCell_other w28 _ _ _ (by intro he; simp at he; omega), hw28, World.cell?_setCell_other w24 _ _ _ (by intro he; simp at he; omega)]
        exact S19.cell hmw (by simp; omega)
      · rw [hrr] at hy
        obtain ⟨z, q2, z1, z2⟩ := bind_ok hy
        (first | (injection z2 with z__; injection z__ with z2 _) | injection z2 with z2 _)
        rw [← z2]
        have := hx z q2 z1
        subst this
        exact ⟨k1', k2'⟩
    · refine cond_false' (by simpa using (fun h => hn1 (by omega) : ¬ (n : Int) = 1)) ?_
      have hrr : r = .ok none q := by rw [hr, Res.bind_ok', if_neg hn1]
      exact dn (fun x q' h => by rw [hrr] at h; (first | (injection h with z__; injection z__ with h _) | injection h with h _); exact h.symm) (by rw [hrr]; exact hst)
theorem sec8_spec (h : StR w rb s e lo r0) (he : e ≤ s.size) (hs : s.size ≤ 1024) {a1 : Value} (hm1 : w.cell? ⟨mb, 9, none⟩ = some a1) (hf : ∀ j, w.frozen? ⟨mb, j, none⟩ = false) (hrm : rb ≠ mb) :
    Runs Try.prog binm_rd_section.id #[rp rb, .int .i64 8, rp mb] w fun v w' => v = .tuple #[] ∧ StR w' rb s e lo (r0.bind fun _ p => u32P s e p) ∧ Same [rb, mb] w.heap.size w w' ∧ (∀ j, j ≠ 9 → w'.cell? ⟨mb, j, none⟩ = w.cell? ⟨mb, j, none⟩) ∧ (∀ j, w'.frozen? ⟨mb, j, none⟩ = false) ∧ w'.cell? ⟨mb, 9, none⟩ = some (.int .i64 (numR (r0.bind fun _ p => u32P s e p))) := by
  refine binm_rd_section.enter _ _ _ _ _ _ ?_
  unfold binm_rd_section.V
  refine cond_false' rfl (cond_false' rfl (cond_false' rfl (cond_false' rfl (cond_false' rfl (cond_false' rfl (cond_true' rfl ?_))))))
  refine (u32m_spec h he hs).into fun v w24 hv hst S19 => ⟨_, hv.1, ?_⟩
  simp only [nilV_some, Nat.zero_add]
  have hmw : mb < w.heap.size := cell_lt hm1
  have d1 : w24.cell? ⟨mb, 9, none⟩ = some a1 := by rw [S19.cell hmw (by simp; omega)]; exact hm1
  have df : ∀ j, w24.frozen? ⟨mb, j, none⟩ = false := fun j => by rw [S19.frozen hmw (by simp; omega)]; exact hf j
  refine ⟨⟨⟨_, d1⟩, df 9⟩, letW_intro fun w28 hw28 => ?_⟩
  have S30 : Same [mb] w24.heap.size w24 w28 := by rw [hw28]; exact same_set 9 _
  refine ⟨by trivial, hst.same S30 hst.lt (by simp; omega), (S19.mono (Nat.le_refl _) (by simp)).trans (S30.mono S19.size (by simp)), fun j j1 => ?_, fun j => by rw [hw28]; simpa using df j, by rw [hw28, cell_set _ _ _ _ _ d1]; rfl⟩
  rw [hw28, World.cell?_setCell_other w24 _ _ _ (by intro he; simp at he; omega)]
  exact S19.cell hmw (by simp; omega)

/-- What a section's reading leaves. -/
def SPM (w0 : World) (rb mb : Nat) (s : ByteArray) (e lo B : Nat) (id : Int) (c : Sc) (r : Res (Sc × PM)) : Value → World → Prop := fun v w' =>
  v = .tuple #[] ∧ StR w' rb s e lo r ∧ Same [rb, mb] w0.heap.size w0 w' ∧ ∀ x q, r = .ok x q → x.1 = c ∧ MG w' B mb x.2 ∧ Fr w' mb id x.2
theorem sectm_spec {B : Nat} {P : PM} {c : Sc} {last id : Int} (h : StR w rb s e lo r0) (he : e ≤ s.size) (hs : s.size ≤ 1024) (M : MG w B mb P) (g : Fr w mb last P) (hl : last < id) (hrb : rb < B) (hB : B ≤ w.heap.size) (hrm : rb ≠ mb) (hid : id = 1 ∨ id = 2 ∨ id = 4 ∨ id = 5 ∨ id = 6 ∨ id = 7 ∨ id = 8 ∨ id = 9 ∨ id = 11) :
    Runs Try.prog binm_rd_section.id #[rp rb, .int .i64 id, rp mb] w (SPM w rb mb s e lo B id c (r0.bind fun _ p => secP s e id c P p)) := by
  have hmw := M.ltw
  have hfz := M.fz
  rcases hid with rfl | rfl | rfl | rfl | rfl | rfl | rfl | rfl | rfl
  · refine RunsQ.post (sec1_spec h he hs (g.a1 (by omega)).2 hfz hrm hmw) ?_
    rintro v w' ⟨rfl, st, a, k, l, f, hV, hx⟩
    have e0 : (r0.bind fun _ p => secP s e 1 c P p) = (r0.bind fun _ p => typesP s e p).bind fun a q => .ok (c, if a.1 = 0 then P else { { P with nTy := a.1 } with ty := a.2 }) q := by rw [Res.bind_bind]; rfl
    rw [e0]
    refine ⟨rfl, st.map _, hV.S, fun x q hq => ?_⟩
    obtain ⟨y, q', g1, g2⟩ := bind_ok hq
    (first | (injection g2 with z__; injection z__ with g2 _) | injection g2 with g2 _)
    subst g2
    obtain ⟨rfl, rfl⟩ := hx y q' g1
    exact ⟨rfl, M.put1 g (by omega) hV hrb hB⟩
  · refine RunsQ.post (sec2_spec h he hs (g.a2 (by omega)).2 hfz hrm hmw) ?_
    rintro v w' ⟨rfl, st, a, k, l, f, hV, hx⟩
    have e0 : (r0.bind fun _ p => secP s e 2 c P p) = (r0.bind fun _ p => importsP s e p).bind fun a q => .ok (c, if a.1 = 0 then P else { { P with nIm := a.1 } with im := a.2 }) q := by rw [Res.bind_bind]; rfl
    rw [e0]
    refine ⟨rfl, st.map _, hV.S, fun x q hq => ?_⟩
    obtain ⟨y, q', g1, g2⟩ := bind_ok hq
    (first | (injection g2 with z__; injection z__ with g2 _) | injection g2 with g2 _)
    subst g2
    obtain ⟨rfl, rfl⟩ := hx y q' g1
    exact ⟨rfl, M.put2 g (by omega) hV hrb hB⟩
  · refine RunsQ.post (sec4_spec h he hs M.v3 M.v4 hfz hrm) ?_
    rintro v w' ⟨rfl, st, S, oth, fz, hx⟩
    have e0 : (r0.bind fun _ p => secP s e 4 c P p) = (r0.bind fun _ p => tableP s e p).bind fun a q => .ok (c, match a with | none => P | some y => { { P with tmin := y.1 } with tmax := y.2 }) q := by rw [Res.bind_bind]; rfl
    rw [e0]
    refine ⟨rfl, st.map _, S, fun x q hq => ?_⟩
    obtain ⟨y, q', g1, g2⟩ := bind_ok hq
    (first | (injection g2 with z__; injection z__ with g2 _) | injection g2 with g2 _)
    subst g2
    have hy := hx y q' g1
    refine ⟨rfl, ?_⟩
    cases y with
    | none => exact M.int4 g (by omega) S oth (by rw [hy.1]; exact M.v3) (by rw [hy.2]; exact M.v4) fz hrb
    | some z => exact M.int4 g (by omega) S oth hy.1 hy.2 fz hrb
  · refine RunsQ.post (sec5_spec h he hs M.v5 M.v6 hfz hrm) ?_
    rintro v w' ⟨rfl, st, S, oth, fz, hx⟩
    have e0 : (r0.bind fun _ p => secP s e 5 c P p) = (r0.bind fun _ p => memoryP s e p).bind fun a q => .ok (c, match a with | none => P | some y => { { P with mmin := y.1 } with mmax := y.2 }) q := by rw [Res.bind_bind]; rfl
    rw [e0]
    refine ⟨rfl, st.map _, S, fun x q hq => ?_⟩
    obtain ⟨y, q', g1, g2⟩ := bind_ok hq
    (first | (injection g2 with z__; injection z__ with g2 _) | injection g2 with g2 _)
    subst g2
    have hy := hx y q' g1
    refine ⟨rfl, ?_⟩
    cases y with
    | none => exact M.int5 g (by omega) S oth (by rw [hy.1]; exact M.v5) (by rw [hy.2]; exact M.v6) fz hrb
    | some z => exact M.int5 g (by omega) S oth hy.1 hy.2 fz hrb
  · refine RunsQ.post (sec6_spec h he hs (g.a6 (by omega)).2 hfz hrm hmw) ?_
    rintro v w' ⟨rfl, st, a, k, l, f, hV, hx⟩
    have e0 : (r0.bind fun _ p => secP s e 6 c P p) = (r0.bind fun _ p => globsP s e p).bind fun a q => .ok (c, if a.1 = 0 then P else { { P with gn := a.1 } with g := a.2 }) q := by rw [Res.bind_bind]; rfl
    rw [e0]
    refine ⟨rfl, st.map _, hV.S, fun x q hq => ?_⟩
    obtain ⟨y, q', g1, g2⟩ := bind_ok hq
    (first | (injection g2 with z__; injection z__ with g2 _) | injection g2 with g2 _)
    subst g2
    obtain ⟨rfl, rfl⟩ := hx y q' g1
    exact ⟨rfl, M.put6 g (by omega) hV hrb hB⟩
  · refine RunsQ.post (sec7_spec h he hs (g.a7 (by omega)).2 hfz hrm hmw) ?_
    rintro v w' ⟨rfl, st, a, k, l, f, hV, hx⟩
    have e0 : (r0.bind fun _ p => secP s e 7 c P p) = (r0.bind fun _ p => exportsP s e p).bind fun a q => .ok (c, if a.1 = 0 then P else { { P with nEx := a.1 } with ex := a.2 }) q := by rw [Res.bind_bind]; rfl
    rw [e0]
    refine ⟨rfl, st.map _, hV.S, fun x q hq => ?_⟩
    obtain ⟨y, q', g1, g2⟩ := bind_ok hq
    (first | (injection g2 with z__; injection z__ with g2 _) | injection g2 with g2 _)
    subst g2
    obtain ⟨rfl, rfl⟩ := hx y q' g1
    exact ⟨rfl, M.put7 g (by omega) hV hrb hB⟩
  · refine RunsQ.post (sec8_spec h he hs M.s9 hfz hrm) ?_
    rintro v w' ⟨rfl, st, S, oth, fz, hc⟩
    have e0 : (r0.bind fun _ p => secP s e 8 c P p) = (r0.bind fun _ p => u32P s e p).bind fun n q => .ok (c, { P with start := n }) q := by rw [Res.bind_bind]; rfl
    rw [e0]
    refine ⟨rfl, st.map _, S, fun x q hq => ?_⟩
    obtain ⟨y, q', g1, g2⟩ := bind_ok hq
    (first | (injection g2 with z__; injection z__ with g2 _) | injection g2 with g2 _)
    subst g2
    rw [g1] at hc
    exact ⟨rfl, M.int8 g (by omega) S oth hc fz hrb⟩
  · refine RunsQ.post (sec9_spec h he hs (g.a9 (by omega)).2 hfz hrm hmw) ?_
    rintro v w' ⟨rfl, st, a, k, l, fr, f, hV, hN, hx⟩
    have e0 : (r0.bind fun _ p => secP s e 9 c P p) = (r0.bind fun _ p => elemsP s e p).bind fun a q => .ok (c, if a.1 = 0 then P else { { P with nEl := a.1 } with el := a.2 }) q := by rw [Res.bind_bind]; rfl
    rw [e0]
    refine ⟨rfl, st.map _, hV.S, fun x q hq => ?_⟩
    obtain ⟨y, q', g1, g2⟩ := bind_ok hq
    (first | (injection g2 with z__; injection z__ with g2 _) | injection g2 with g2 _)
    subst g2
    obtain ⟨rfl, rfl⟩ := hx y q' g1
    exact ⟨rfl, M.put9 g (by omega) hV hN hrb hB⟩
  · refine RunsQ.post (sec11_spec h he hs (g.a11 (by omega)).2 hfz hrm hmw) ?_
    rintro v w' ⟨rfl, st, a, k, l, f, hV, hx⟩
    have e0 : (r0.bind fun _ p => secP s e 11 c P p) = (r0.bind fun _ p => datasP s e p).bind fun a q => .ok (c, if a.1 = 0 then P else { { P with nD := a.1 } with da := a.2 }) q := by rw [Res.bind_bind]; rfl
    rw [e0]
    refine ⟨rfl, st.map _, hV.S, fun x q hq => ?_⟩
    obtain ⟨y, q', g1, g2⟩ := bind_ok hq
    (first | (injection g2 with z__; injection z__ with g2 _) | injection g2 with g2 _)
    subst g2
    obtain ⟨rfl, rfl⟩ := hx y q' g1
    exact ⟨rfl, M.put11 g (by omega) hV hrb hB⟩
end
end Go.Proofs.Qxb6500316a
