/-
  The model's module in memory; a section.
-/
import Derived.Test.Qxb6500316aMdP
set_option linter.unusedSimpArgs false
set_option linter.unusedVariables false
set_option maxRecDepth 100000
set_option linter.unusedSectionVars false
namespace Go.Proofs.Qxb6500316a
open Go Go.Vc

/-- A list of the module. -/
def Fld {α : Type} (w : World) (B mb k : Nat) (t : TypeId) (sz : Nat) (enc : α → List Value) (n : Nat) (f : Nat → α) : Prop := ∃ a c, w.cell? ⟨mb, k, none⟩ = some (.slice a n c) ∧ w.ownsRow B t sz (.slice a n c) n (rowV enc f n)
def FldF (w : World) (B mb : Nat) (n : Nat) (F : Nat → FnP) : Prop := ∃ fr, Fld w B mb 2 T_api_Func 4 fnE n fr ∧ NF w B fr F n
def FldE (w : World) (B mb : Nat) (n : Nat) (f : Nat → ElV) : Prop := ∃ fr, Fld w B mb 10 T_api_Elem 4 elE n fr ∧ NE w B fr f n
/-- The module as the model keeps it. -/
structure MG (w : World) (B mb : Nat) (P : PM) : Prop where
  t0 : Fld w B mb 0 T_string 1 strE P.nTy P.ty
  i1 : Fld w B mb 1 T_api_Import 3 impE P.nIm P.im
  f2 : FldF w B mb P.nf P.fn
  v3 : w.cell? ⟨mb, 3, none⟩ = some (.int .i64 P.tmin)
  v4 : w.cell? ⟨mb, 4, none⟩ = some (.int .i64 P.tmax)
  v5 : w.cell? ⟨mb, 5, none⟩ = some (.int .i64 P.mmin)
  v6 : w.cell? ⟨mb, 6, none⟩ = some (.int .i64 P.mmax)
  g7 : Fld w B mb 7 T_api_Global 5 globE P.gn P.g
  e8 : Fld w B mb 8 T_api_Export 3 expE P.nEx P.ex
  s9 : w.cell? ⟨mb, 9, none⟩ = some (.int .i64 P.start)
  l10 : FldE w B mb P.nEl P.el
  d11 : Fld w B mb 11 T_api_Data 4 datE P.nD P.da
  fz : ∀ j, w.frozen? ⟨mb, j, none⟩ = false
  lt : mb < B
section
variable {α : Type} {w w' : World} {B mb k : Nat} {t : TypeId} {sz : Nat} {enc : α → List Value} {n : Nat} {f : Nat → α} {S : List Nat}
theorem Fld.keep (h : Fld w B mb k t sz enc n f) (hs : Same S w.heap.size w w') (hS : ∀ d, d ∈ S → d < B) (hc : w'.cell? ⟨mb, k, none⟩ = w.cell? ⟨mb, k, none⟩) : Fld w' B mb k t sz enc n f := by
  obtain ⟨a, c, h1, h2⟩ := h
  exact ⟨a, c, by rw [hc]; exact h1, row_same h2 hs (fun d hd => ⟨(h2.lt d hd).2, fun hm => by have := (h2.lt d hd).1; have := hS d hm; omega⟩)⟩
theorem FldF.keep {F : Nat → FnP} (h : FldF w B mb n F) (hs : Same S w.heap.size w w') (hS : ∀ d, d ∈ S → d < B) (hc : w'.cell? ⟨mb, 2, none⟩ = w.cell? ⟨mb, 2, none⟩) : FldF w' B mb n F := by
  obtain ⟨fr, h1, h2⟩ := h
  exact ⟨fr, h1.keep hs hS hc, h2.same hs (fun d hd => .inl (hS d hd))⟩
theorem FldE.keep {f : Nat → ElV} (h : FldE w B mb n f) (hs : Same S w.heap.size w w') (hS : ∀ d, d ∈ S → d < B) (hc : w'.cell? ⟨mb, 10, none⟩ = w.cell? ⟨mb, 10, none⟩) : FldE w' B mb n f := by
  obtain ⟨fr, h1, h2⟩ := h
  exact ⟨fr, h1.keep hs hS hc, h2.same hs (fun d hd => .inl (hS d hd))⟩
theorem Fld.zero {f' : Nat → α} (h : Fld w B mb k t sz enc 0 f) : Fld w B mb k t sz enc 0 f' := h
theorem MG.ltw {P : PM} (h : MG w B mb P) : mb < w.heap.size := cell_lt h.v3
theorem MG.same {P : PM} (h : MG w B mb P) (hs : Same S w.heap.size w w') (hS : ∀ d, d ∈ S → d < B ∧ d ≠ mb) : MG w' B mb P := by
  have hS1 : ∀ d, d ∈ S → d < B := fun d hd => (hS d hd).1
  have hm : mb ∉ S := fun hm => (hS mb hm).2 rfl
  have hc : ∀ j, w'.cell? ⟨mb, j, none⟩ = w.cell? ⟨mb, j, none⟩ := fun j => hs.cell h.ltw hm
  exact ⟨h.t0.keep hs hS1 (hc _), h.i1.keep hs hS1 (hc _), h.f2.keep hs hS1 (hc _), by rw [hc]; exact h.v3, by rw [hc]; exact h.v4, by rw [hc]; exact h.v5, by rw [hc]; exact h.v6, h.g7.keep hs hS1 (hc _), h.e8.keep hs hS1 (hc _), by rw [hc]; exact h.s9, h.l10.keep hs hS1 (hc _), h.d11.keep hs hS1 (hc _), fun j => by rw [hs.frozen h.ltw hm]; exact h.fz j, h.lt⟩
theorem MG.drew {P : PM} (h : MG w B mb P) : MG w.drew B mb P := h.same (Same.refl [] w.heap.size w).drew (by simp)
end
/-- What no section has filled yet. -/
structure Fr (w : World) (mb : Nat) (last : Int) (P : PM) : Prop where
  a1 : last < 1 → P.nTy = 0 ∧ w.cell? ⟨mb, 0, none⟩ = some (.slice none 0 0)
  a2 : last < 2 → P.nIm = 0 ∧ w.cell? ⟨mb, 1, none⟩ = some (.slice none 0 0)
  a6 : last < 6 → P.gn = 0 ∧ w.cell? ⟨mb, 7, none⟩ = some (.slice none 0 0)
  a7 : last < 7 → P.nEx = 0 ∧ w.cell? ⟨mb, 8, none⟩ = some (.slice none 0 0)
  a9 : last < 9 → P.nEl = 0 ∧ w.cell? ⟨mb, 10, none⟩ = some (.slice none 0 0)
  a10 : last < 10 → P.nf = 0 ∧ w.cell? ⟨mb, 2, none⟩ = some (.slice none 0 0)
  a11 : last < 11 → P.nD = 0 ∧ w.cell? ⟨mb, 11, none⟩ = some (.slice none 0 0)
section
variable {w w' : World} {B mb rb : Nat} {P : PM}
theorem Fr.same {S : List Nat} {last : Int} (h : Fr w mb last P) (hs : Same S w.heap.size w w') (hm : mb < w.heap.size) (hS : mb ∉ S) : Fr w' mb last P := by
  have hc : ∀ j, w'.cell? ⟨mb, j, none⟩ = w.cell? ⟨mb, j, none⟩ := fun j => hs.cell hm hS
  exact ⟨fun z => by rw [hc]; exact h.a1 z, fun z => by rw [hc]; exact h.a2 z, fun z => by rw [hc]; exact h.a6 z, fun z => by rw [hc]; exact h.a7 z, fun z => by rw [hc]; exact h.a9 z, fun z => by rw [hc]; exact h.a10 z, fun z => by rw [hc]; exact h.a11 z⟩
theorem MG.put1 (h : MG w B mb P) {last : Int} (g : Fr w mb last P) (hl : last < 1) {l : Nat} {f : Nat → ByteArray} {a : Option Addr} {c : Nat} (hV : VF strE T_string 1 0 w w' rb mb l f a c) (hrb : rb < B) (hBw : B ≤ w.heap.size) :
    MG w' B mb (if l = 0 then P else { { P with nTy := l } with ty := f }) ∧ Fr w' mb 1 (if l = 0 then P else { { P with nTy := l } with ty := f }) := by
  have hlt := h.lt
  have hs : Same [rb, mb] w.heap.size w w' := hV.S
  have hS1 : ∀ d, d ∈ [rb, mb] → d < B := fun d hd => by simp at hd; rcases hd with rfl | rfl <;> omega
  have hc : ∀ j, j ≠ 0 → w'.cell? ⟨mb, j, none⟩ = w.cell? ⟨mb, j, none⟩ := hV.oth
  have hfz := hV.mr.fz
  have hk : Fld w' B mb 0 T_string 1 strE l f := ⟨a, c, hV.mr.cell, row_base hV.mr.row hBw⟩
  have hz := (g.a1 hl).1
  by_cases h0 : l = 0
  · rw [if_pos h0]
    subst h0
    refine ⟨⟨by rw [hz]; exact hk, h.i1.keep hs hS1 (hc 1 (by decide)), h.f2.keep hs hS1 (hc 2 (by decide)), by rw [hc 3 (by decide)]; exact h.v3, by rw [hc 4 (by decide)]; exact h.v4, by rw [hc 5 (by decide)]; exact h.v5, by rw [hc 6 (by decide)]; exact h.v6, h.g7.keep hs hS1 (hc 7 (by decide)), h.e8.keep hs hS1 (hc 8 (by decide)), by rw [hc 9 (by decide)]; exact h.s9, h.l10.keep hs hS1 (hc 10 (by decide)), h.d11.keep hs hS1 (hc 11 (by decide)), hfz, h.lt⟩, ⟨fun z => absurd z (by omega), fun z => by rw [hc 1 (by decide)]; exact g.a2 (by omega), fun z => by rw [hc 7 (by decide)]; exact g.a6 (by omega), fun z => by rw [hc 8 (by decide)]; exact g.a7 (by omega), fun z => by rw [hc 10 (by decide)]; exact g.a9 (by omega), fun z => by rw [hc 2 (by decide)]; exact g.a10 (by omega), fun z => by rw [hc 11 (by decide)]; exact g.a11 (by omega)⟩⟩
  · rw [if_neg h0]
    refine ⟨⟨hk, h.i1.keep hs hS1 (hc 1 (by decide)), h.f2.keep hs hS1 (hc 2 (by decide)), by rw [hc 3 (by decide)]; exact h.v3, by rw [hc 4 (by decide)]; exact h.v4, by rw [hc 5 (by decide)]; exact h.v5, by rw [hc 6 (by decide)]; exact h.v6, h.g7.keep hs hS1 (hc 7 (by decide)), h.e8.keep hs hS1 (hc 8 (by decide)), by rw [hc 9 (by decide)]; exact h.s9, h.l10.keep hs hS1 (hc 10 (by decide)), h.d11.keep hs hS1 (hc 11 (by decide)), hfz, h.lt⟩, ⟨fun z => absurd z (by omega), fun z => by rw [hc 1 (by decide)]; exact g.a2 (by omega), fun z => by rw [hc 7 (by decide)]; exact g.a6 (by omega), fun z => by rw [hc 8 (by decide)]; exact g.a7 (by omega), fun z => by rw [hc 10 (by decide)]; exact g.a9 (by omega), fun z => by rw [hc 2 (by decide)]; exact g.a10 (by omega), fun z => by rw [hc 11 (by decide)]; exact g.a11 (by omega)⟩⟩
theorem MG.put2 (h : MG w B mb P) {last : Int} (g : Fr w mb last P) (hl : last < 2) {l : Nat} {f : Nat → ImpV} {a : Option Addr} {c : Nat} (hV : VF impE T_api_Import 3 1 w w' rb mb l f a c) (hrb : rb < B) (hBw : B ≤ w.heap.size) :
    MG w' B mb (if l = 0 then P else { { P with nIm := l } with im := f }) ∧ Fr w' mb 2 (if l = 0 then P else { { P with nIm := l } with im := f }) := by
  have hlt := h.lt
  have hs : Same [rb, mb] w.heap.size w w' := hV.S
  have hS1 : ∀ d, d ∈ [rb, mb] → d < B := fun d hd => by simp at hd; rcases hd with rfl | rfl <;> omega
  have hc : ∀ j, j ≠ 1 → w'.cell? ⟨mb, j, none⟩ = w.cell? ⟨mb, j, none⟩ := hV.oth
  have hfz := hV.mr.fz
  have hk : Fld w' B mb 1 T_api_Import 3 impE l f := ⟨a, c, hV.mr.cell, row_base hV.mr.row hBw⟩
  have hz := (g.a2 hl).1
  by_cases h0 : l = 0
  · rw [if_pos h0]
    subst h0
    refine ⟨⟨h.t0.keep hs hS1 (hc 0 (by decide)), by rw [hz]; exact hk, h.f2.keep hs hS1 (hc 2 (by decide)), by rw [hc 3 (by decide)]; exact h.v3, by rw [hc 4 (by decide)]; exact h.v4, by rw [hc 5 (by decide)]; exact h.v5, by rw [hc 6 (by decide)]; exact h.v6, h.g7.keep hs hS1 (hc 7 (by decide)), h.e8.keep hs hS1 (hc 8 (by decide)), by rw [hc 9 (by decide)]; exact h.s9, h.l10.keep hs hS1 (hc 10 (by decide)), h.d11.keep hs hS1 (hc 11 (by decide)), hfz, h.lt⟩, ⟨fun z => by rw [hc 0 (by decide)]; exact g.a1 (by omega), fun z => absurd z (by omega), fun z => by rw [hc 7 (by decide)]; exact g.a6 (by omega), fun z => by rw [hc 8 (by decide)]; exact g.a7 (by omega), fun z => by rw [hc 10 (by decide)]; exact g.a9 (by omega), fun z => by rw [hc 2 (by decide)]; exact g.a10 (by omega), fun z => by rw [hc 11 (by decide)]; exact g.a11 (by omega)⟩⟩
  · rw [if_neg h0]
    refine ⟨⟨h.t0.keep hs hS1 (hc 0 (by decide)), hk, h.f2.keep hs hS1 (hc 2 (by decide)), by rw [hc 3 (by decide)]; exact h.v3, by rw [hc 4 (by decide)]; exact h.v4, by rw [hc 5 (by decide)]; exact h.v5, by rw [hc 6 (by decide)]; exact h.v6, h.g7.keep hs hS1 (hc 7 (by decide)), h.e8.keep hs hS1 (hc 8 (by decide)), by rw [hc 9 (by decide)]; exact h.s9, h.l10.keep hs hS1 (hc 10 (by decide)), h.d11.keep hs hS1 (hc 11 (by decide)), hfz, h.lt⟩, ⟨fun z => by rw [hc 0 (by decide)]; exact g.a1 (by omega), fun z => absurd z (by omega), fun z => by rw [hc 7 (by decide)]; exact g.a6 (by omega), fun z => by rw [hc 8 (by decide)]; exact g.a7 (by omega), fun z => by rw [hc 10 (by decide)]; exact g.a9 (by omega), fun z => by rw [hc 2 (by decide)]; exact g.a10 (by omega), fun z => by rw [hc 11 (by decide)]; exact g.a11 (by omega)⟩⟩
theorem MG.put6 (h : MG w B mb P) {last : Int} (g : Fr w mb last P) (hl : last < 6) {l : Nat} {f : Nat → Glob} {a : Option Addr} {c : Nat} (hV : VF globE T_api_Global 5 7 w w' rb mb l f a c) (hrb : rb < B) (hBw : B ≤ w.heap.size) :
    MG w' B mb (if l = 0 then P else { { P with gn := l } with g := f }) ∧ Fr w' mb 6 (if l = 0 then P else { { P with gn := l } with g := f }) := by
  have hlt := h.lt
  have hs : Same [rb, mb] w.heap.size w w' := hV.S
  have hS1 : ∀ d, d ∈ [rb, mb] → d < B := fun d hd => by simp at hd; rcases hd with rfl | rfl <;> omega
  have hc : ∀ j, j ≠ 7 → w'.cell? ⟨mb, j, none⟩ = w.cell? ⟨mb, j, none⟩ := hV.oth
  have hfz := hV.mr.fz
  have hk : Fld w' B mb 7 T_api_Global 5 globE l f := ⟨a, c, hV.mr.cell, row_base hV.mr.row hBw⟩
  have hz := (g.a6 hl).1
  by_cases h0 : l = 0
  · rw [if_pos h0]
    subst h0
    refine ⟨⟨h.t0.keep hs hS1 (hc 0 (by decide)), h.i1.keep hs hS1 (hc 1 (by decide)), h.f2.keep hs hS1 (hc 2 (by decide)), by rw [hc 3 (by decide)]; exact h.v3, by rw [hc 4 (by decide)]; exact h.v4, by rw [hc 5 (by decide)]; exact h.v5, by rw [hc 6 (by decide)]; exact h.v6, by rw [hz]; exact hk, h.e8.keep hs hS1 (hc 8 (by decide)), by rw [hc 9 (by decide)]; exact h.s9, h.l10.keep hs hS1 (hc 10 (by decide)), h.d11.keep hs hS1 (hc 11 (by decide)), hfz, h.lt⟩, ⟨fun z => by rw [hc 0 (by decide)]; exact g.a1 (by omega), fun z => by rw [hc 1 (by decide)]; exact g.a2 (by omega), fun z => absurd z (by omega), fun z => by rw [hc 8 (by decide)]; exact g.a7 (by omega), fun z => by rw [hc 10 (by decide)]; exact g.a9 (by omega), fun z => by rw [hc 2 (by decide)]; exact g.a10 (by omega), fun z => by rw [hc 11 (by decide)]; exact g.a11 (by omega)⟩⟩
  · rw [if_neg h0]
    refine ⟨⟨h.t0.keep hs hS1 (hc 0 (by decide)), h.i1.keep hs hS1 (hc 1 (by decide)), h.f2.keep hs hS1 (hc 2 (by decide)), by rw [hc 3 (by decide)]; exact h.v3, by rw [hc 4 (by decide)]; exact h.v4, by rw [hc 5 (by decide)]; exact h.v5, by rw [hc 6 (by decide)]; exact h.v6, hk, h.e8.keep hs hS1 (hc 8 (by decide)), by rw [hc 9 (by decide)]; exact h.s9, h.l10.keep hs hS1 (hc 10 (by decide)), h.d11.keep hs hS1 (hc 11 (by decide)), hfz, h.lt⟩, ⟨fun z => by rw [hc 0 (by decide)]; exact g.a1 (by omega), fun z => by rw [hc 1 (by decide)]; exact g.a2 (by omega), fun z => absurd z (by omega), fun z => by rw [hc 8 (by decide)]; exact g.a7 (by omega), fun z => by rw [hc 10 (by decide)]; exact g.a9 (by omega), fun z => by rw [hc 2 (by decide)]; exact g.a10 (by omega), fun z => by rw [hc 11 (by decide)]; exact g.a11 (by omega)⟩⟩
theorem MG.put7 (h : MG w B mb P) {last : Int} (g : Fr w mb last P) (hl : last < 7) {l : Nat} {f : Nat → ExpV} {a : Option Addr} {c : Nat} (hV : VF expE T_api_Export 3 8 w w' rb mb l f a c) (hrb : rb < B) (hBw : B ≤ w.heap.size) :
    MG w' B mb (if l = 0 then P else { { P with nEx := l } with ex := f }) ∧ Fr w' mb 7 (if l = 0 then P else { { P with nEx := l } with ex := f }) := by
  have hlt := h.lt
  have hs : Same [rb, mb] w.heap.size w w' := hV.S
  have hS1 : ∀ d, d ∈ [rb, mb] → d < B := fun d hd => by simp at hd; rcases hd with rfl | rfl <;> omega
  have hc : ∀ j, j ≠ 8 → w'.cell? ⟨mb, j, none⟩ = w.cell? ⟨mb, j, none⟩ := hV.oth
  have hfz := hV.mr.fz
  have hk : Fld w' B mb 8 T_api_Export 3 expE l f := ⟨a, c, hV.mr.cell, row_base hV.mr.row hBw⟩
  have hz := (g.a7 hl).1
  by_cases h0 : l = 0
  · rw [if_pos h0]
    subst h0
    refine ⟨⟨h.t0.keep hs hS1 (hc 0 (by decide)), h.i1.keep hs hS1 (hc 1 (by decide)), h.f2.keep hs hS1 (hc 2 (by decide)), by rw [hc 3 (by decide)]; exact h.v3, by rw [hc 4 (by decide)]; exact h.v4, by rw [hc 5 (by decide)]; exact h.v5, by rw [hc 6 (by decide)]; exact h.v6, h.g7.keep hs hS1 (hc 7 (by decide)), by rw [hz]; exact hk, by rw [hc 9 (by decide)]; exact h.s9, h.l10.keep hs hS1 (hc 10 (by decide)), h.d11.keep hs hS1 (hc 11 (by decide)), hfz, h.lt⟩, ⟨fun z => by rw [hc 0 (by decide)]; exact g.a1 (by omega), fun z => by rw [hc 1 (by decide)]; exact g.a2 (by omega), fun z => by rw [hc 7 (by decide)]; exact g.a6 (by omega), fun z => absurd z (by omega), fun z => by rw [hc 10 (by decide)]; exact g.a9 (by omega), fun z => by rw [hc 2 (by decide)]; exact g.a10 (by omega), fun z => by rw [hc 11 (by decide)]; exact g.a11 (by omega)⟩⟩
  · rw [if_neg h0]
    refine ⟨⟨h.t0.keep hs hS1 (hc 0 (by decide)), h.i1.keep hs hS1 (hc 1 (by decide)), h.f2.keep hs hS1 (hc 2 (by decide)), by rw [hc 3 (by decide)]; exact h.v3, by rw [hc 4 (by decide)]; exact h.v4, by rw [hc 5 (by decide)]; exact h.v5, by rw [hc 6 (by decide)]; exact h.v6, h.g7.keep hs hS1 (hc 7 (by decide)), hk, by rw [hc 9 (by decide)]; exact h.s9, h.l10.keep hs hS1 (hc 10 (by decide)), h.d11.keep hs hS1 (hc 11 (by decide)), hfz, h.lt⟩, ⟨fun z => by rw [hc 0 (by decide)]; exact g.a1 (by omega), fun z => by rw [hc 1 (by decide)]; exact g.a2 (by omega), fun z => by rw [hc 7 (by decide)]; exact g.a6 (by omega), fun z => absurd z (by omega), fun z => by rw [hc 10 (by decide)]; exact g.a9 (by omega), fun z => by rw [hc 2 (by decide)]; exact g.a10 (by omega), fun z => by rw [hc 11 (by decide)]; exact g.a11 (by omega)⟩⟩
theorem MG.put11 (h : MG w B mb P) {last : Int} (g : Fr w mb last P) (hl : last < 11) {l : Nat} {f : Nat → DatV} {a : Option Addr} {c : Nat} (hV : VF datE T_api_Data 4 11 w w' rb mb l f a c) (hrb : rb < B) (hBw : B ≤ w.heap.size) :
    MG w' B mb (if l = 0 then P else { { P with nD := l } with da := f }) ∧ Fr w' mb 11 (if l = 0 then P else { { P with nD := l } with da := f }) := by
  have hlt := h.lt
  have hs : Same [rb, mb] w.heap.size w w' := hV.S
  have hS1 : ∀ d, d ∈ [rb, mb] → d < B := fun d hd => by simp at hd; rcases hd with rfl | rfl <;> omega
  have hc : ∀ j, j ≠ 11 → w'.cell? ⟨mb, j, none⟩ = w.cell? ⟨mb, j, none⟩ := hV.oth
  have hfz := hV.mr.fz
  have hk : Fld w' B mb 11 T_api_Data 4 datE l f := ⟨a, c, hV.mr.cell, row_base hV.mr.row hBw⟩
  have hz := (g.a11 hl).1
  by_cases h0 : l = 0
  · rw [if_pos h0]
    subst h0
    refine ⟨⟨h.t0.keep hs hS1 (hc 0 (by decide)), h.i1.keep hs hS1 (hc 1 (by decide)), h.f2.keep hs hS1 (hc 2 (by decide)), by rw [hc 3 (by decide)]; exact h.v3, by rw [hc 4 (by decide)]; exact h.v4, by rw [hc 5 (by decide)]; exact h.v5, by rw [hc 6 (by decide)]; exact h.v6, h.g7.keep hs hS1 (hc 7 (by decide)), h.e8.keep hs hS1 (hc 8 (by decide)), by rw [hc 9 (by decide)]; exact h.s9, h.l10.keep hs hS1 (hc 10 (by decide)), by rw [hz]; exact hk, hfz, h.lt⟩, ⟨fun z => by rw [hc 0 (by decide)]; exact g.a1 (by omega), fun z => by rw [hc 1 (by decide)]; exact g.a2 (by omega), fun z => by rw [hc 7 (by decide)]; exact g.a6 (by omega), fun z => by rw [hc 8 (by decide)]; exact g.a7 (by omega), fun z => by rw [hc 10 (by decide)]; exact g.a9 (by omega), fun z => by rw [hc 2 (by decide)]; exact g.a10 (by omega), fun z => absurd z (by omega)⟩⟩
  · rw [if_neg h0]
    refine ⟨⟨h.t0.keep hs hS1 (hc 0 (by decide)), h.i1.keep hs hS1 (hc 1 (by decide)), h.f2.keep hs hS1 (hc 2 (by decide)), by rw [hc 3 (by decide)]; exact h.v3, by rw [hc 4 (by decide)]; exact h.v4, by rw [hc 5 (by decide)]; exact h.v5, by rw [hc 6 (by decide)]; exact h.v6, h.g7.keep hs hS1 (hc 7 (by decide)), h.e8.keep hs hS1 (hc 8 (by decide)), by rw [hc 9 (by decide)]; exact h.s9, h.l10.keep hs hS1 (hc 10 (by decide)), hk, hfz, h.lt⟩, ⟨fun z => by rw [hc 0 (by decide)]; exact g.a1 (by omega), fun z => by rw [hc 1 (by decide)]; exact g.a2 (by omega), fun z => by rw [hc 7 (by decide)]; exact g.a6 (by omega), fun z => by rw [hc 8 (by decide)]; exact g.a7 (by omega), fun z => by rw [hc 10 (by decide)]; exact g.a9 (by omega), fun z => by rw [hc 2 (by decide)]; exact g.a10 (by omega), fun z => absurd z (by omega)⟩⟩
theorem MG.put10 (h : MG w B mb P) {last : Int} (g : Fr w mb last P) (hl : last < 10) {l : Nat} {F : Nat → FnP} {fr : Nat → FnR} {a : Option Addr} {c : Nat} (hV : VF fnE T_api_Func 4 2 w w' rb mb l fr a c) (hN : NF w' w.heap.size fr F l) (hrb : rb < B) (hBw : B ≤ w.heap.size) :
    MG w' B mb (if l = 0 then P else { { P with nf := l } with fn := F }) ∧ Fr w' mb 10 (if l = 0 then P else { { P with nf := l } with fn := F }) := by
  have hlt := h.lt
  have hs : Same [rb, mb] w.heap.size w w' := hV.S
  have hS1 : ∀ d, d ∈ [rb, mb] → d < B := fun d hd => by simp at hd; rcases hd with rfl | rfl <;> omega
  have hc : ∀ j, j ≠ 2 → w'.cell? ⟨mb, j, none⟩ = w.cell? ⟨mb, j, none⟩ := hV.oth
  have hfz := hV.mr.fz
  have hk : FldF w' B mb l F := ⟨fr, ⟨a, c, hV.mr.cell, row_base hV.mr.row hBw⟩, fun j hj => by
    obtain ⟨h1, h2, ⟨a, c, h3, h4⟩, a', c', h5, h6⟩ := hN j hj
    exact ⟨h1, h2, ⟨a, c, h3, row_base h4 hBw⟩, a', c', h5, row_base h6 hBw⟩⟩
  have hz := (g.a10 hl).1
  by_cases h0 : l = 0
  · rw [if_pos h0]
    subst h0
    have hk' : FldF w' B mb 0 P.fn := ⟨fr, hk.elim fun fr' h => ⟨a, c, hV.mr.cell, row_base hV.mr.row hBw⟩, fun j hj => by omega⟩
    refine ⟨⟨h.t0.keep hs hS1 (hc 0 (by decide)), h.i1.keep hs hS1 (hc 1 (by decide)), by rw [hz]; exact hk', by rw [hc 3 (by decide)]; exact h.v3, by rw [hc 4 (by decide)]; exact h.v4, by rw [hc 5 (by decide)]; exact h.v5, by rw [hc 6 (by decide)]; exact h.v6, h.g7.keep hs hS1 (hc 7 (by decide)), h.e8.keep hs hS1 (hc 8 (by decide)), by rw [hc 9 (by decide)]; exact h.s9, h.l10.keep hs hS1 (hc 10 (by decide)), h.d11.keep hs hS1 (hc 11 (by decide)), hfz, h.lt⟩, ⟨fun z => by rw [hc 0 (by decide)]; exact g.a1 (by omega), fun z => by rw [hc 1 (by decide)]; exact g.a2 (by omega), fun z => by rw [hc 7 (by decide)]; exact g.a6 (by omega), fun z => by rw [hc 8 (by decide)]; exact g.a7 (by omega), fun z => by rw [hc 10 (by decide)]; exact g.a9 (by omega), fun z => absurd z (by omega), fun z => by rw [hc 11 (by decide)]; exact g.a11 (by omega)⟩⟩
  · rw [if_neg h0]
    refine ⟨⟨h.t0.keep hs hS1 (hc 0 (by decide)), h.i1.keep hs hS1 (hc 1 (by decide)), hk, by rw [hc 3 (by decide)]; exact h.v3, by rw [hc 4 (by decide)]; exact h.v4, by rw [hc 5 (by decide)]; exact h.v5, by rw [hc 6 (by decide)]; exact h.v6, h.g7.keep hs hS1 (hc 7 (by decide)), h.e8.keep hs hS1 (hc 8 (by decide)), by rw [hc 9 (by decide)]; exact h.s9, h.l10.keep hs hS1 (hc 10 (by decide)), h.d11.keep hs hS1 (hc 11 (by decide)), hfz, h.lt⟩, ⟨fun z => by rw [hc 0 (by decide)]; exact g.a1 (by omega), fun z => by rw [hc 1 (by decide)]; exact g.a2 (by omega), fun z => by rw [hc 7 (by decide)]; exact g.a6 (by omega), fun z => by rw [hc 8 (by decide)]; exact g.a7 (by omega), fun z => by rw [hc 10 (by decide)]; exact g.a9 (by omega), fun z => absurd z (by omega), fun z => by rw [hc 11 (by decide)]; exact g.a11 (by omega)⟩⟩
theorem MG.put9 (h : MG w B mb P) {last : Int} (g : Fr w mb last P) (hl : last < 9) {l : Nat} {f : Nat → ElV} {fr : Nat → ElR} {a : Option Addr} {c : Nat} (hV : VF elE T_api_Elem 4 10 w w' rb mb l fr a c) (hN : NE w' w.heap.size fr f l) (hrb : rb < B) (hBw : B ≤ w.heap.size) :
    MG w' B mb (if l = 0 then P else { { P with nEl := l } with el := f }) ∧ Fr w' mb 9 (if l = 0 then P else { { P with nEl := l } with el := f }) := by
  have hlt := h.lt
  have hs : Same [rb, mb] w.heap.size w w' := hV.S
  have hS1 : ∀ d, d ∈ [rb, mb] → d < B := fun d hd => by simp at hd; rcases hd with rfl | rfl <;> omega
  have hc : ∀ j, j ≠ 10 → w'.cell? ⟨mb, j, none⟩ = w.cell? ⟨mb, j, none⟩ := hV.oth
  have hfz := hV.mr.fz
  have hk : FldE w' B mb l f := ⟨fr, ⟨a, c, hV.mr.cell, row_base hV.mr.row hBw⟩, fun j hj => by
    obtain ⟨h1, a', c', h5, h6⟩ := hN j hj
    exact ⟨h1, a', c', h5, row_base h6 hBw⟩⟩
  have hz := (g.a9 hl).1
  by_cases h0 : l = 0
  · rw [if_pos h0]
    subst h0
    have hk' : FldE w' B mb 0 P.el := ⟨fr, ⟨a, c, hV.mr.cell, row_base hV.mr.row hBw⟩, fun j hj => by omega⟩
    refine ⟨⟨h.t0.keep hs hS1 (hc 0 (by decide)), h.i1.keep hs hS1 (hc 1 (by decide)), h.f2.keep hs hS1 (hc 2 (by decide)), by rw [hc 3 (by decide)]; exact h.v3, by rw [hc 4 (by decide)]; exact h.v4, by rw [hc 5 (by decide)]; exact h.v5, by rw [hc 6 (by decide)]; exact h.v6, h.g7.keep hs hS1 (hc 7 (by decide)), h.e8.keep hs hS1 (hc 8 (by decide)), by rw [hc 9 (by decide)]; exact h.s9, by rw [hz]; exact hk', h.d11.keep hs hS1 (hc 11 (by decide)), hfz, h.lt⟩, ⟨fun z => by rw [hc 0 (by decide)]; exact g.a1 (by omega), fun z => by rw [hc 1 (by decide)]; exact g.a2 (by omega), fun z => by rw [hc 7 (by decide)]; exact g.a6 (by omega), fun z => by rw [hc 8 (by decide)]; exact g.a7 (by omega), fun z => absurd z (by omega), fun z => by rw [hc 2 (by decide)]; exact g.a10 (by omega), fun z => by rw [hc 11 (by decide)]; exact g.a11 (by omega)⟩⟩
  · rw [if_neg h0]
    refine ⟨⟨h.t0.keep hs hS1 (hc 0 (by decide)), h.i1.keep hs hS1 (hc 1 (by decide)), h.f2.keep hs hS1 (hc 2 (by decide)), by rw [hc 3 (by decide)]; exact h.v3, by rw [hc 4 (by decide)]; exact h.v4, by rw [hc 5 (by decide)]; exact h.v5, by rw [hc 6 (by decide)]; exact h.v6, h.g7.keep hs hS1 (hc 7 (by decide)), h.e8.keep hs hS1 (hc 8 (by decide)), by rw [hc 9 (by decide)]; exact h.s9, hk, h.d11.keep hs hS1 (hc 11 (by decide)), hfz, h.lt⟩, ⟨fun z => by rw [hc 0 (by decide)]; exact g.a1 (by omega), fun z => by rw [hc 1 (by decide)]; exact g.a2 (by omega), fun z => by rw [hc 7 (by decide)]; exact g.a6 (by omega), fun z => by rw [hc 8 (by decide)]; exact g.a7 (by omega), fun z => absurd z (by omega), fun z => by rw [hc 2 (by decide)]; exact g.a10 (by omega), fun z => by rw [hc 11 (by decide)]; exact g.a11 (by omega)⟩⟩
theorem MG.int4 (h : MG w B mb P) {last : Int} (g : Fr w mb last P) (hl : last < 4) {x y : Int} (hs : Same [rb, mb] w.heap.size w w') (hc : ∀ j, j ≠ 3 → j ≠ 4 → w'.cell? ⟨mb, j, none⟩ = w.cell? ⟨mb, j, none⟩) (e3 : w'.cell? ⟨mb, 3, none⟩ = some (.int .i64 x)) (e4 : w'.cell? ⟨mb, 4, none⟩ = some (.int .i64 y)) (hfz : ∀ j, w'.frozen? ⟨mb, j, none⟩ = false) (hrb : rb < B) :
    MG w' B mb { { P with tmin := x } with tmax := y } ∧ Fr w' mb 4 { { P with tmin := x } with tmax := y } := by
  have hlt := h.lt
  have hS1 : ∀ d, d ∈ [rb, mb] → d < B := fun d hd => by simp at hd; rcases hd with rfl | rfl <;> omega
  exact ⟨⟨h.t0.keep hs hS1 (hc 0 (by decide) (by decide)), h.i1.keep hs hS1 (hc 1 (by decide) (by decide)), h.f2.keep hs hS1 (hc 2 (by decide) (by decide)), e3, e4, by rw [hc 5 (by decide) (by decide)]; exact h.v5, by rw [hc 6 (by decide) (by decide)]; exact h.v6, h.g7.keep hs hS1 (hc 7 (by decide) (by decide)), h.e8.keep hs hS1 (hc 8 (by decide) (by decide)), by rw [hc 9 (by decide) (by decide)]; exact h.s9, h.l10.keep hs hS1 (hc 10 (by decide) (by decide)), h.d11.keep hs hS1 (hc 11 (by decide) (by decide)), hfz, h.lt⟩, ⟨fun z => by rw [hc 0 (by decide) (by decide)]; exact g.a1 (by omega), fun z => by rw [hc 1 (by decide) (by decide)]; exact g.a2 (by omega), fun z => by rw [hc 7 (by decide) (by decide)]; exact g.a6 (by omega), fun z => by rw [hc 8 (by decide) (by decide)]; exact g.a7 (by omega), fun z => by rw [hc 10 (by decide) (by decide)]; exact g.a9 (by omega), fun z => by rw [hc 2 (by decide) (by decide)]; exact g.a10 (by omega), fun z => by rw [hc 11 (by decide) (by decide)]; exact g.a11 (by omega)⟩⟩
theorem MG.int5 (h : MG w B mb P) {last : Int} (g : Fr w mb last P) (hl : last < 5) {x y : Int} (hs : Same [rb, mb] w.heap.size w w') (hc : ∀ j, j ≠ 5 → j ≠ 6 → w'.cell? ⟨mb, j, none⟩ = w.cell? ⟨mb, j, none⟩) (e5 : w'.cell? ⟨mb, 5, none⟩ = some (.int .i64 x)) (e6 : w'.cell? ⟨mb, 6, none⟩ = some (.int .i64 y)) (hfz : ∀ j, w'.frozen? ⟨mb, j, none⟩ = false) (hrb : rb < B) :
    MG w' B mb { { P with mmin := x } with mmax := y } ∧ Fr w' mb 5 { { P with mmin := x } with mmax := y } := by
  have hlt := h.lt
  have hS1 : ∀ d, d ∈ [rb, mb] → d < B := fun d hd => by simp at hd; rcases hd with rfl | rfl <;> omega
  exact ⟨⟨h.t0.keep hs hS1 (hc 0 (by decide) (by decide)), h.i1.keep hs hS1 (hc 1 (by decide) (by decide)), h.f2.keep hs hS1 (hc 2 (by decide) (by decide)), by rw [hc 3 (by decide) (by decide)]; exact h.v3, by rw [hc 4 (by decide) (by decide)]; exact h.v4, e5, e6, h.g7.keep hs hS1 (hc 7 (by decide) (by decide)), h.e8.keep hs hS1 (hc 8 (by decide) (by decide)), by rw [hc 9 (by decide) (by decide)]; exact h.s9, h.l10.keep hs hS1 (hc 10 (by decide) (by decide)), h.d11.keep hs hS1 (hc 11 (by decide) (by decide)), hfz, h.lt⟩, ⟨fun z => by rw [hc 0 (by decide) (by decide)]; exact g.a1 (by omega), fun z => by rw [hc 1 (by decide) (by decide)]; exact g.a2 (by omega), fun z => by rw [hc 7 (by decide) (by decide)]; exact g.a6 (by omega), fun z => by rw [hc 8 (by decide) (by decide)]; exact g.a7 (by omega), fun z => by rw [hc 10 (by decide) (by decide)]; exact g.a9 (by omega), fun z => by rw [hc 2 (by decide) (by decide)]; exact g.a10 (by omega), fun z => by rw [hc 11 (by decide) (by decide)]; exact g.a11 (by omega)⟩⟩
theorem MG.int8 (h : MG w B mb P) {last : Int} (g : Fr w mb last P) (hl : last < 8) {x : Int} (hs : Same [rb, mb] w.heap.size w w') (hc : ∀ j, j ≠ 9 → w'.cell? ⟨mb, j, none⟩ = w.cell? ⟨mb, j, none⟩) (e9 : w'.cell? ⟨mb, 9, none⟩ = some (.int .i64 x)) (hfz : ∀ j, w'.frozen? ⟨mb, j, none⟩ = false) (hrb : rb < B) :
    MG w' B mb { P with start := x } ∧ Fr w' mb 8 { P with start := x } := by
  have hlt := h.lt
  have hS1 : ∀ d, d ∈ [rb, mb] → d < B := fun d hd => by simp at hd; rcases hd with rfl | rfl <;> omega
  exact ⟨⟨h.t0.keep hs hS1 (hc 0 (by decide)), h.i1.keep hs hS1 (hc 1 (by decide)), h.f2.keep hs hS1 (hc 2 (by decide)), by rw [hc 3 (by decide)]; exact h.v3, by rw [hc 4 (by decide)]; exact h.v4, by rw [hc 5 (by decide)]; exact h.v5, by rw [hc 6 (by decide)]; exact h.v6, h.g7.keep hs hS1 (hc 7 (by decide)), h.e8.keep hs hS1 (hc 8 (by decide)), e9, h.l10.keep hs hS1 (hc 10 (by decide)), h.d11.keep hs hS1 (hc 11 (by decide)), hfz, h.lt⟩, ⟨fun z => by rw [hc 0 (by decide)]; exact g.a1 (by omega), fun z => by rw [hc 1 (by decide)]; exact g.a2 (by omega), fun z => by rw [hc 7 (by decide)]; exact g.a6 (by omega), fun z => by rw [hc 8 (by decide)]; exact g.a7 (by omega), fun z => by rw [hc 10 (by decide)]; exact g.a9 (by omega), fun z => by rw [hc 2 (by decide)]; exact g.a10 (by omega), fun z => by rw [hc 11 (by decide)]; exact g.a11 (by omega)⟩⟩
end
end Go.Proofs.Qxb6500316a
