/-
  The model: its frames in memory; the target of a branch.
-/
import Derived.Test.Qxb6500321aMoC
import Derived.Test.Qxb6500321aMoB
set_option linter.unusedSimpArgs false
set_option linter.unusedVariables false
set_option maxRecDepth 100000
set_option linter.unusedSectionVars false
namespace Go.Proofs.Qxb6500321a
open Go Go.Vc

/-! ### Frames -/
structure FAt (w : World) (b : Nat) (o fl ar : Int) : Prop where
  c0 : w.cell? ⟨b, 0, none⟩ = some (.int .i64 o)
  c1 : w.cell? ⟨b, 1, none⟩ = some (.int .i64 fl)
  c2 : w.cell? ⟨b, 2, none⟩ = some (.int .i64 ar)
theorem FAt.lt {w : World} {b : Nat} {o fl ar : Int} (h : FAt w b o fl ar) : b < w.heap.size := cell_lt h.c0
theorem FAt.drew {w : World} {b : Nat} {o fl ar : Int} (h : FAt w b o fl ar) : FAt w.drew b o fl ar := ⟨h.c0, h.c1, h.c2⟩
theorem FAt.same {w w' : World} {b : Nat} {o fl ar : Int} (h : FAt w b o fl ar) {S : List Nat} {B : Nat} (hs : Same S B w w') (hb : b < B) (hS : b ∉ S) : FAt w' b o fl ar :=
  ⟨by rw [hs.cell hb hS]; exact h.c0, by rw [hs.cell hb hS]; exact h.c1, by rw [hs.cell hb hS]; exact h.c2⟩
theorem newFr {w : World} {o fl ar : Int} {K : Nat → World → Prop} (hK : ∀ b w', w.heap.size ≤ b → FAt w' b o fl ar → Same [] w.heap.size w w' → K b w') :
    letB (Array.size (World.heap w)) fun b => letW (World.alloc w (.cells #[.int .i64 0, .int .i64 0, .int .i64 0] T_prepm_frame)) fun w7 => putCells w7 ⟨b, 0, none⟩ [.int .i64 o, .int .i64 fl, .int .i64 ar] fun w8 => K b w8 := by
  refine letB_intro fun b hb => letW_intro fun w7 hw7 => ?_
  have hS7 : Same [] w.heap.size w w7 := by rw [hw7]; exact (Same.refl _ _ _).alloc (Nat.le_refl _) _
  have hb' : w.heap.size ≤ b := by rw [hb]; exact Nat.le_refl _
  refine putCells_intro b _ 0 w7 _ (fun j hj => ?_) (fun w' hF => hK b w' hb' ⟨by rw [hF.cell, if_pos (by simp)]; rfl, by rw [hF.cell, if_pos (by simp)]; rfl, by rw [hF.cell, if_pos (by simp)]; rfl⟩ (hS7.trans ((hF.same _).mono (Nat.le_refl _) (by intro k hk hlt; simp at hk; omega))))
  rw [hw7, hb, Nat.zero_add]
  refine ⟨?_, by rw [World.frozen?_alloc_new]⟩
  rw [World.cell?_alloc_new]
  have hj : j < 3 := by simpa using hj
  have : j = 0 ∨ j = 1 ∨ j = 2 := by omega
  rcases this with rfl | rfl | rfl <;> exact ⟨_, rfl⟩
def frV (g : SF) : List Value := [.int .i64 ((g.o : Int) - 1), .int .i64 (g.fl : Int), .int .i64 (g.ar : Int)]
def frVs : List SF → List Value
  | [] => []
  | g :: r => frVs r ++ frV g
theorem frVs_len : ∀ fs : List SF, (frVs fs).length = fs.length * 3
  | [] => rfl
  | g :: r => by simp [frVs, frV, frVs_len r]; omega
theorem frVs_get : ∀ (fs : List SF) (t : Nat) (g : SF) (j : Nat), j < 3 → fs[t]? = some g → (frVs fs)[(fs.length - 1 - t) * 3 + j]? = (frV g)[j]?
  | [], t, g, j, hj, h => by cases h
  | a :: r, 0, g, j, hj, h => by
    have h : some a = some g := h
    cases h
    show (frVs r ++ frV a)[_]? = _
    rw [List.getElem?_append_right (by rw [frVs_len]; simp), frVs_len]
    congr 1
    simp
  | a :: r, t + 1, g, j, hj, h => by
    have h : r[t]? = some g := h
    have hl := get_lt h
    show (frVs r ++ frV a)[_]? = _
    rw [List.getElem?_append_left (by rw [frVs_len]; simp; omega)]
    have := frVs_get r t g j hj h
    rw [← this]
    congr 3
    simp
    omega
theorem fr_cell {w : World} {base : Nat} {fa : Option Addr} {fl fc : Nat} {fs : List SF} (hF : w.ownsRow base T_prepm_frame 3 (.slice fa fl fc) fl (frVs fs)) (hfl : fl = fs.length) {t : Nat} {g : SF} (hg : fs[t]? = some g) :
    ∃ gb, fa = some ⟨gb, 0, none⟩ ∧ w.cell? ⟨gb, (fl - 1 - t) * 3, none⟩ = some (.int .i64 ((g.o : Int) - 1)) ∧ w.cell? ⟨gb, (fl - 1 - t) * 3 + 1, none⟩ = some (.int .i64 (g.fl : Int)) ∧ w.cell? ⟨gb, (fl - 1 - t) * 3 + 2, none⟩ = some (.int .i64 (g.ar : Int)) := by
  have hl := get_lt hg
  obtain ⟨gb, rfl, _, _, _, hc⟩ := row_get hF (by omega)
  subst hfl
  exact ⟨gb, rfl, hc _ _ (frVs_get fs t g 0 (by omega) hg), hc _ _ (frVs_get fs t g 1 (by omega) hg), hc _ _ (frVs_get fs t g 2 (by omega) hg)⟩

theorem InsRow.mv {w w' : World} {b n : Nat} {ins : Nat → Ins} (h : InsRow w b n ins) {S : List Nat} {B : Nat} (hs : Same S B w w') (hb : b < B) (hS : b ∉ S) : InsRow w' b n ins :=
  ⟨fun j hj => by rw [hs.cell hb hS]; exact h.i0 j hj, fun j hj => by rw [hs.cell hb hS]; exact h.i1 j hj, fun j hj => by rw [hs.cell hb hS]; exact h.i2 j hj, fun j => by rw [hs.frozen hb hS]; exact h.fz j⟩
theorem InsRow.ltn {w : World} {b n : Nat} {ins : Nat → Ins} (h : InsRow w b n ins) (hn : 1 ≤ n) : b < w.heap.size := cell_lt (h.i0 0 hn)
/-! ### Targets -/
structure M2 (B : BD) (res : Nat) (Sn : SS) : Prop where
  hB : BOkB B
  hr : res ≤ 1024
  hn : trS B res B.n = some Sn
  f0 : Sn.fs.length = 0
  wb : ∀ j, j ≤ B.n → wl B res j ≤ 1000
/-- The places of the second play. -/
def AD (M : Prop) (w : World) (aa : Option Addr) (al : Nat) (B : BD) (res : Nat) (Sn : SS) : Prop :=
  (¬ M ∧ aa = none) ∨ (M ∧ M2 B res Sn ∧ ∃ ab, aa = some ⟨ab, 0, none⟩ ∧ al = B.n + 1 ∧ ∀ j, j ≤ B.n → w.cell? ⟨ab, j, none⟩ = some (.int .i64 (wl B res j : Int)))
theorem AD.keep {M : Prop} {w w' : World} {aa : Option Addr} {al : Nat} {B : BD} {res : Nat} {Sn : SS} (h : AD M w aa al B res Sn) {S : List Nat} {b0 : Nat} (hs : Same S b0 w w') (hb : ∀ ab, aa = some ⟨ab, 0, none⟩ → ab < b0 ∧ ab ∉ S) : AD M w' aa al B res Sn := by
  rcases h with h | ⟨h1, h2, ab, h3, h4, h5⟩
  · exact .inl h
  · exact .inr ⟨h1, h2, ab, h3, h4, fun j hj => by rw [hs.cell (hb ab h3).1 (hb ab h3).2]; exact h5 j hj⟩
def TgP (M : Prop) (Sn : SS) (fs : List SF) (l : Int) (v : Value) : Prop :=
  match fs[l.toNat]? with
  | none => v = .tuple #[.int .u32 0, .int .u64 0, .bool false]
  | some g => ∃ X Y, v = .tuple #[.int .u32 X, .int .u64 Y, .bool true] ∧ (M → X = syX Sn (brC 0 g).s ∧ Y = (brC 0 g).y)
theorem target_spec {w : World} {nb c base fl fc al ac res i : Nat} {fa aa : Option Addr} {fs : List SF} {B : BD} {M : Prop} {Sn : SS} (hI : InsRow w nb B.n B.ins) (hn : B.n ≤ 900) (hn1 : 1 ≤ B.n) (hF : w.ownsRow base T_prepm_frame 3 (.slice fa fl fc) fl (frVs fs)) (hfl : fl = fs.length) (hfs : fs.length ≤ 1000)
    (hA : AD M w aa al B res Sn) (l : Int) (l0 : 0 ≤ l) (l1 : l ≤ 4294967295) (hi : i ≤ B.n) (hK : M → ∀ t g, fs[t]? = some g → FrK B res i (fs.drop (t + 1)) g ∧ g.fl ≤ 10 ∧ g.ar ≤ 1024) :
    Runs Try.prog prepm_target.id #[.slice (some ⟨nb, 0, none⟩) B.n c, .slice fa fl fc, .int .u32 l, .slice aa al ac] w fun v w' => TgP M Sn fs l v ∧ Same [] w.heap.size w w' := by
  generalize hR : (fun v w' => TgP M Sn fs l v ∧ Same [] w.heap.size w w') = R
  have hR' : ∀ v w', TgP M Sn fs l v → Same [] w.heap.size w w' → R v w' := fun v w' h1 h2 => by rw [← hR]; exact ⟨h1, h2⟩
  clear hR
  refine prepm_target.enter _ _ _ _ _ _ _ _ _ _ _ _ _ ?_
  unfold prepm_target.V
  rw [wrap_u64 (by omega) (by omega), wrap_u64 (by omega) (by omega)]
  refine cond_intro (fun e => ?_) (fun e => ?_)
  · have e : l ≥ (fl : Int) := of_decide_eq_true e
    refine hR' _ _ ?_ (Same.refl _ _ _)
    unfold TgP
    rw [List.getElem?_eq_none (by omega)]
  have e : ¬ l ≥ (fl : Int) := of_decide_eq_false e
  obtain ⟨t, rfl⟩ := Int.eq_ofNat_of_zero_le l0
  have ht : t < fs.length := by omega
  obtain ⟨g, hg⟩ : ∃ g, fs[t]? = some g := ⟨_, List.getElem?_eq_getElem ht⟩
  have hR2 : ∀ X Y w', (M → X = syX Sn (brC 0 g).s ∧ Y = (brC 0 g).y) → Same [] w.heap.size w w' → R (.tuple #[.int .u32 X, .int .u64 Y, .bool true]) w' := fun X Y w' h1 h2 => by
    refine hR' _ _ ?_ h2
    unfold TgP
    rw [show ((t : Int)).toNat = t from rfl, hg]
    exact ⟨X, Y, rfl, h1⟩
  clear hR'
  obtain ⟨gb, rfl, g0, g1, g2⟩ := fr_cell hF hfl hg
  rw [wrap_i64 (x := (t : Int)) (by omega) (by omega), wrap_i64 (x := (fl : Int) - 1) (by omega) (by omega), wrap_i64 (by omega) (by omega), show ((fl : Int) - 1 - (t : Int)) = ((fl - 1 - t : Nat) : Int) by omega]
  simp only [nilV_some, add_mk, Nat.zero_add, Int.toNat_natCast]
  refine ⟨⟨by omega, by omega⟩, _, _, _, g0, g1, g2, newFr fun b w1 hb F1 S1 => ?_⟩
  rcases hA with ⟨hM, rfl⟩ | ⟨hM, m2, ab, rfl, rfl, hc⟩
  · exact hR2 _ _ _ (fun m => absurd m hM) S1
  obtain ⟨K, kfl, kar⟩ := hK hM t g hg
  have hI1 : InsRow w1 nb B.n B.ins := hI.mv S1 (hI.ltn hn1) (by simp)
  have lab : ab < w.heap.size := cell_lt (hc 0 (by omega))
  have hc1 : ∀ j, j ≤ B.n → w1.cell? ⟨ab, j, none⟩ = some (.int .i64 (wl B res j : Int)) := fun j hj => by rw [S1.cell lab (by simp)]; exact hc j hj
  clear hc hI g0 g1 g2 hF
  have hle := K.le
  have hu : ∀ j, j ≤ B.n → IntKind.wrap .u32 (wl B res j : Int) = (wl B res j : Int) := fun j hj => by have := m2.wb j hj; exact wrap_u32 (by omega) (by omega)
  -- the loop
  have L1t : g.op = 3 → prepm_target.L1 (some ⟨nb, 0, none⟩) B.n c (some ⟨ab, 0, none⟩) (B.n + 1) ac b true R (fun _ _ => False) w1 := fun h3 => by
    refine prepm_target.step1 _ _ _ _ _ _ _ _ _ _ _ ?_
    unfold prepm_target.V1
    refine cond_true' rfl ?_
    have ho : g.o ≠ 0 := fun z => (K.bo z).2 h3
    have F2 := F1.drew
    have hx0 : (0 : Int) ≤ (g.o : Int) - 1 := by omega
    have hx1 : (g.o : Int) - 1 < ((B.n + 1 : Nat) : Int) := by omega
    have ha : w1.drew.cell? (Addr.add ⟨ab, 0, none⟩ (Int.toNat ((g.o : Int) - 1) * 1)) = some (.int .i64 (wl B res (g.o - 1) : Int)) := by
      rw [add_mk, Nat.zero_add, Nat.mul_one, show Int.toNat ((g.o : Int) - 1) = g.o - 1 by omega]
      exact hc1 _ (by omega)
    have fin : R (.tuple #[.int .u32 (IntKind.wrap .u32 (wl B res (g.o - 1) : Int)), .int .u64 (api_Pack.F 0 (g.fl : Int)), .bool true]) w1.drew := by
      refine hR2 _ _ _ (fun _ => ?_) S1.drew
      have hpk := pack_eq 0 g.fl (by omega) (by omega)
      rw [Int.natCast_zero, Int.zero_mul, Int.zero_add] at hpk
      rw [hu _ (by omega), hpk, K.lp h3]
      unfold brC
      rw [if_pos h3]
      exact ⟨rfl, rfl⟩
    clear F1 hR2 hK hc1 hI1
    repeat' first
      | exact trivial
      | exact fin
      | refine ⟨_, F2.c0, ?_⟩
      | refine ⟨_, F2.c1, ?_⟩
      | refine ⟨⟨hx0, hx1⟩, nilV_inA ?_⟩
      | refine ⟨_, ha, ?_⟩
      | (refine RunsQ.post (api_Pack.pure _ _ _) ?_
         rintro v w3 ⟨rfl, rfl⟩
         refine ⟨_, rfl, ?_⟩)
      | refine And.intro ?_ ?_
  have L1f : g.op ≠ 3 → prepm_target.L1 (some ⟨nb, 0, none⟩) B.n c (some ⟨ab, 0, none⟩) (B.n + 1) ac b false R (fun _ _ => False) w1 := fun h3 => by
    refine prepm_target.step1 _ _ _ _ _ _ _ _ _ _ _ ?_
    unfold prepm_target.V1
    refine cond_false' rfl ⟨_, F1.c0, RunsQ.post (mmatch_spec hI1 (by omega) c g.o (by omega)) ?_⟩
    rintro v w3 ⟨rfl, rfl⟩
    refine ⟨_, _, rfl, _, F1.c0, ?_⟩
    obtain ⟨T1, T2⟩ := tg_end m2.hB m2.hr m2.hn m2.f0 K hi
    generalize hz : mtc B.ins B.n (B.n - g.o) g.o 0 none = z at T1 T2 ⊢
    obtain ⟨e, els⟩ := z
    dsimp only at T1 T2 ⊢
    have F2 := F1.drew
    have fin : ∀ j, j ≤ B.n → syX Sn (.e g.o) = (wl B res j : Int) → R (.tuple #[.int .u32 (IntKind.wrap .u32 (wl B res j : Int)), .int .u64 (api_Pack.F (g.ar : Int) (g.fl : Int)), .bool true]) w3.drew := fun j hj hs => by
      refine hR2 _ _ _ (fun _ => ?_) S1.drew
      rw [hu _ hj, pack_eq _ _ kar (by omega), ← hs]
      unfold brC
      rw [if_neg h3]
      exact ⟨rfl, rfl⟩
    refine cond_intro (fun q => ?_) (fun q => ?_)
    · have q : (g.o : Int) - 1 < 0 := of_decide_eq_true q
      rw [if_pos (by omega)] at T2
      have hx0 : (0 : Int) ≤ (e : Int) := by omega
      have hx1 : (e : Int) < ((B.n + 1 : Nat) : Int) := by omega
      have ha : w3.drew.cell? (Addr.add ⟨ab, 0, none⟩ (Int.toNat (e : Int) * 1)) = some (.int .i64 (wl B res e : Int)) := by
        rw [add_mk, Nat.zero_add, Nat.mul_one, Int.toNat_natCast]
        exact hc1 _ (by omega)
      have fin := fin e (by omega) T2
      clear F1 hR2 hK hc1 hI1
      repeat' first
        | exact trivial
        | exact fin
        | refine ⟨_, F2.c1, ?_⟩
        | refine ⟨_, F2.c2, ?_⟩
        | refine ⟨⟨hx0, hx1⟩, nilV_inA ?_⟩
        | refine ⟨_, ha, ?_⟩
        | (refine RunsQ.post (api_Pack.pure _ _ _) ?_
           rintro v w4 ⟨rfl, rfl⟩
           refine ⟨_, rfl, ?_⟩)
        | refine And.intro ?_ ?_
    · have q : ¬ (g.o : Int) - 1 < 0 := of_decide_eq_false q
      rw [if_neg (by omega)] at T2
      rw [wrap_i64 (by omega) (by omega), show (e : Int) + 1 = ((e + 1 : Nat) : Int) by omega]
      have hx0 : (0 : Int) ≤ ((e + 1 : Nat) : Int) := by omega
      have hx1 : ((e + 1 : Nat) : Int) < ((B.n + 1 : Nat) : Int) := by omega
      have ha : w3.drew.cell? (Addr.add ⟨ab, 0, none⟩ (Int.toNat ((e + 1 : Nat) : Int) * 1)) = some (.int .i64 (wl B res (e + 1) : Int)) := by
        rw [add_mk, Nat.zero_add, Nat.mul_one, Int.toNat_natCast]
        exact hc1 _ (by omega)
      have fin := fin (e + 1) (by omega) T2
      clear F1 hR2 hK hc1 hI1
      repeat' first
        | exact trivial
        | exact fin
        | refine ⟨_, F2.c1, ?_⟩
        | refine ⟨_, F2.c2, ?_⟩
        | refine ⟨⟨hx0, hx1⟩, nilV_inA ?_⟩
        | refine ⟨_, ha, ?_⟩
        | (refine RunsQ.post (api_Pack.pure _ _ _) ?_
           rintro v w4 ⟨rfl, rfl⟩
           refine ⟨_, rfl, ?_⟩)
        | refine And.intro ?_ ?_
  refine cond_false' rfl ⟨_, F1.c0, cond_intro (fun q => ⟨_, F1.c0, ?_⟩) (fun q => ?_)⟩
  · have q : (g.o : Int) - 1 ≥ 0 := of_decide_eq_true q
    have hop := (K.bl (by omega)).2
    have hi0 := hI1.i0 (g.o - 1) (by omega)
    simp only [nilV_some, add_mk, Nat.zero_add, show Int.toNat ((g.o : Int) - 1) = g.o - 1 by omega]
    refine ⟨⟨by omega, by omega⟩, _, hi0, ?_⟩
    rw [hop]
    by_cases h3 : g.op = 3
    · rw [h3]; exact L1t h3
    · rw [show (g.op == (3 : Int)) = false by simpa using h3]; exact L1f h3
  · have q : ¬ (g.o : Int) - 1 ≥ 0 := of_decide_eq_false q
    exact L1f (K.bo (by omega)).2
end Go.Proofs.Qxb6500321a
