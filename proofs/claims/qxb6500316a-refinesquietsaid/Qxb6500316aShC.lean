/-
  Show of a module: the walk.
-/
import Derived.Test.Qxb6500316aShB
set_option linter.unusedSimpArgs false
set_option linter.unusedVariables false
set_option maxRecDepth 100000
set_option linter.unusedSectionVars false
namespace Go.Proofs.Qxb6500316a
open Go Go.Vc

abbrev I64 (y : Int) : Prop := -9223372036854775808 ≤ y ∧ y ≤ 9223372036854775807
theorem wrapI64 (x : Int) : I64 (IntKind.wrap .i64 x) := by
  have e : IntKind.wrap .i64 x = if x % 18446744073709551616 ≥ 9223372036854775808 then x % 18446744073709551616 - 18446744073709551616 else x % 18446744073709551616 := by
    unfold IntKind.wrap
    simp [IntKind.bits, IntKind.signed]
  rw [e]
  split <;> exact ⟨by omega, by omega⟩
/-- What Show leans on. -/
structure SB (P : PM) : Prop where
  nTy : P.nTy ≤ 8
  ty : ∀ j, j < P.nTy → (P.ty j).size ≤ 2000
  nIm : P.nIm ≤ 4
  im : ∀ j, j < P.nIm → (P.im j).md.size ≤ 2000 ∧ (P.im j).nm.size ≤ 2000 ∧ I64 (P.im j).ty
  nf : P.nf ≤ 8
  fn : ∀ j, j < P.nf → I64 (P.fn j).ty ∧ (strOfNums (P.fn j).ls).size ≤ 2000 ∧ (P.fn j).nI ≤ 97 ∧ (∀ k, k < (P.fn j).nI → U64 ((P.fn j).ins k).y) ∧ (P.fn j).nTab ≤ 24
  t0 : I64 P.tmin
  t1 : I64 P.tmax
  m0 : I64 P.mmin
  m1 : I64 P.mmax
  s0 : I64 P.start
  gn : P.gn ≤ 4
  g : ∀ j, j < P.gn → U64 (P.g j).init.y
  nEx : P.nEx ≤ 6
  ex : ∀ j, j < P.nEx → (P.ex j).nm.size ≤ 2000
  nEl : P.nEl ≤ 3
  el : ∀ j, j < P.nEl → U64 (P.el j).off.y ∧ (P.el j).n ≤ 6
  nD : P.nD ≤ 3
  da : ∀ j, j < P.nD → U64 (P.da j).off.y ∧ (P.da j).bytes.size ≤ 2000

def sh1 (P : PM) : Nat → ByteArray
  | 0 => ⟨#[116, 121, 112, 101, 115]⟩
  | k + 1 => (sh1 P k ++ (⟨#[32]⟩ : ByteArray)) ++ hexStr (P.ty k)
def sh2 (P : PM) : Nat → ByteArray
  | 0 => sh1 P P.nTy ++ (⟨#[10, 105, 109, 112, 111, 114, 116, 115]⟩ : ByteArray)
  | k + 1 => (((((sh2 P k ++ (⟨#[32]⟩ : ByteArray)) ++ hexStr (P.im k).md) ++ (⟨#[46]⟩ : ByteArray)) ++ hexStr (P.im k).nm) ++ (⟨#[46]⟩ : ByteArray)) ++ itoa (P.im k).ty
def sh3 (P : PM) : Nat → ByteArray
  | 0 => sh2 P P.nIm
  | k + 1 => (((((((sh3 P k ++ (⟨#[10, 102, 117, 110, 99, 32]⟩ : ByteArray)) ++ itoa (P.fn k).ty) ++ (⟨#[32, 91]⟩ : ByteArray)) ++ hexStr (strOfNums (P.fn k).ls)) ++ (⟨#[93]⟩ : ByteArray)) ++ showB (P.fn k).ins (P.fn k).nI) ++ (⟨#[32, 124]⟩ : ByteArray)) ++ showU (P.fn k).tabs (P.fn k).nTab
def globT (x : Glob) : ByteArray := if x.mu = true then hexOf (IntKind.wrap .u64 x.ty) 2 ++ (⟨#[33]⟩ : ByteArray) else hexOf (IntKind.wrap .u64 x.ty) 2
def sh4 (P : PM) : Nat → ByteArray
  | 0 => ((((((((((sh3 P P.nf ++ (⟨#[10, 116, 97, 98, 108, 101, 32]⟩ : ByteArray)) ++ itoa P.tmin) ++ (⟨#[32]⟩ : ByteArray)) ++ itoa P.tmax) ++ (⟨#[32, 109, 101, 109, 111, 114, 121, 32]⟩ : ByteArray)) ++ itoa P.mmin) ++ (⟨#[32]⟩ : ByteArray)) ++ itoa P.mmax) ++ (⟨#[32, 115, 116, 97, 114, 116, 32]⟩ : ByteArray)) ++ itoa P.start) ++ (⟨#[10, 103, 108, 111, 98, 97, 108, 115]⟩ : ByteArray)
  | k + 1 => (((sh4 P k ++ (⟨#[32]⟩ : ByteArray)) ++ globT (P.g k)) ++ (⟨#[61]⟩ : ByteArray)) ++ showI (P.g k).init
def sh6 (P : PM) : Nat → ByteArray
  | 0 => sh4 P P.gn ++ (⟨#[10, 101, 120, 112, 111, 114, 116, 115]⟩ : ByteArray)
  | k + 1 => (((((sh6 P k ++ (⟨#[32]⟩ : ByteArray)) ++ hexStr (P.ex k).nm) ++ (⟨#[46]⟩ : ByteArray)) ++ itoa (IntKind.wrap .i64 (P.ex k).kind)) ++ (⟨#[46]⟩ : ByteArray)) ++ hexOf (IntKind.wrap .u64 (P.ex k).idx) 8
def sh7 (P : PM) : Nat → ByteArray
  | 0 => sh6 P P.nEx
  | k + 1 => ((sh7 P k ++ (⟨#[10, 101, 108, 101, 109, 32]⟩ : ByteArray)) ++ showI (P.el k).off) ++ showU (P.el k).fns (P.el k).n
def sh8 (P : PM) : Nat → ByteArray
  | 0 => sh7 P P.nEl
  | k + 1 => (((sh8 P k ++ (⟨#[10, 100, 97, 116, 97, 32]⟩ : ByteArray)) ++ showI (P.da k).off) ++ (⟨#[32]⟩ : ByteArray)) ++ hexStr (P.da k).bytes
/-- A module's Show. -/
def showP (P : PM) : ByteArray := sh8 P P.nD

theorem sh1_size {P : PM} (B : SB P) : ∀ k, k ≤ P.nTy → (sh1 P k).size ≤ 5 + 4001 * k
  | 0, _ => by show (⟨#[116, 121, 112, 101, 115]⟩ : ByteArray).size ≤ _; decide
  | k + 1, h => by
    have h1 := sh1_size B k (by omega); have h2 := hexStr_size (P.ty k); have h3 := B.ty k (by omega)
    show ((sh1 P k ++ (⟨#[32]⟩ : ByteArray)) ++ hexStr (P.ty k)).size ≤ _
    (simp only [ByteArray.size_append, bsz, List.size_toArray, List.length_cons, List.length_nil]; omega)
theorem sh2_size {P : PM} (B : SB P) : ∀ k, k ≤ P.nIm → (sh2 P k).size ≤ 40000 + 9000 * k
  | 0, _ => by
    have h1 := sh1_size B P.nTy (Nat.le_refl _); have := B.nTy
    show (sh1 P P.nTy ++ (⟨#[10, 105, 109, 112, 111, 114, 116, 115]⟩ : ByteArray)).size ≤ _
    (simp only [ByteArray.size_append, bsz, List.size_toArray, List.length_cons, List.length_nil]; omega)
  | k + 1, h => by
    have h1 := sh2_size B k (by omega); have h2 := hexStr_size (P.im k).md; have h3 := hexStr_size (P.im k).nm; have h4 := itoa_size (P.im k).ty; obtain ⟨h5, h6, _⟩ := B.im k (by omega)
    show ((((((sh2 P k ++ (⟨#[32]⟩ : ByteArray)) ++ hexStr (P.im k).md) ++ (⟨#[46]⟩ : ByteArray)) ++ hexStr (P.im k).nm) ++ (⟨#[46]⟩ : ByteArray)) ++ itoa (P.im k).ty).size ≤ _
    (simp only [ByteArray.size_append, bsz, List.size_toArray, List.length_cons, List.length_nil]; omega)
theorem sh3_size {P : PM} (B : SB P) : ∀ k, k ≤ P.nf → (sh3 P k).size ≤ 80000 + 9000 * k
  | 0, _ => by
    have h1 := sh2_size B P.nIm (Nat.le_refl _); have := B.nIm
    show (sh2 P P.nIm).size ≤ _
    omega
  | k + 1, h => by
    have h1 := sh3_size B k (by omega); have h2 := hexStr_size (strOfNums (P.fn k).ls); have h3 := itoa_size (P.fn k).ty; obtain ⟨_, h4, h5, _, h6⟩ := B.fn k (by omega); have h7 := showB_size (P.fn k).ins (P.fn k).nI; have h8 := showU_size (P.fn k).tabs (P.fn k).nTab
    show ((((((((sh3 P k ++ (⟨#[10, 102, 117, 110, 99, 32]⟩ : ByteArray)) ++ itoa (P.fn k).ty) ++ (⟨#[32, 91]⟩ : ByteArray)) ++ hexStr (strOfNums (P.fn k).ls)) ++ (⟨#[93]⟩ : ByteArray)) ++ showB (P.fn k).ins (P.fn k).nI) ++ (⟨#[32, 124]⟩ : ByteArray)) ++ showU (P.fn k).tabs (P.fn k).nTab).size ≤ _
    (simp only [ByteArray.size_append, bsz, List.size_toArray, List.length_cons, List.length_nil]; omega)
theorem globT_size (x : Glob) : (globT x).size ≤ 3 := by
  have := hexOf_size (IntKind.wrap .u64 x.ty) 2 (by decide)
  unfold globT
  split
  · (simp only [ByteArray.size_append, bsz, List.size_toArray, List.length_cons, List.length_nil]; omega)
  · omega
theorem sh4_size {P : PM} (B : SB P) : ∀ k, k ≤ P.gn → (sh4 P k).size ≤ 160000 + 100 * k
  | 0, _ => by
    have h1 := sh3_size B P.nf (Nat.le_refl _); have := B.nf; have i1 := itoa_size P.tmin; have i2 := itoa_size P.tmax; have i3 := itoa_size P.mmin; have i4 := itoa_size P.mmax; have i5 := itoa_size P.start
    show (((((((((((sh3 P P.nf ++ (⟨#[10, 116, 97, 98, 108, 101, 32]⟩ : ByteArray)) ++ itoa P.tmin) ++ (⟨#[32]⟩ : ByteArray)) ++ itoa P.tmax) ++ (⟨#[32, 109, 101, 109, 111, 114, 121, 32]⟩ : ByteArray)) ++ itoa P.mmin) ++ (⟨#[32]⟩ : ByteArray)) ++ itoa P.mmax) ++ (⟨#[32, 115, 116, 97, 114, 116, 32]⟩ : ByteArray)) ++ itoa P.start) ++ (⟨#[10, 103, 108, 111, 98, 97, 108, 115]⟩ : ByteArray)).size ≤ _
    (simp only [ByteArray.size_append, bsz, List.size_toArray, List.length_cons, List.length_nil]; omega)
  | k + 1, h => by
    have h1 := sh4_size B k (by omega); have h2 := globT_size (P.g k); have h3 := showI_size (P.g k).init
    show ((((sh4 P k ++ (⟨#[32]⟩ : ByteArray)) ++ globT (P.g k)) ++ (⟨#[61]⟩ : ByteArray)) ++ showI (P.g k).init).size ≤ _
    (simp only [ByteArray.size_append, bsz, List.size_toArray, List.length_cons, List.length_nil]; omega)
theorem sh6_size {P : PM} (B : SB P) : ∀ k, k ≤ P.nEx → (sh6 P k).size ≤ 170000 + 5000 * k
  | 0, _ => by
    have h1 := sh4_size B P.gn (Nat.le_refl _); have := B.gn
    show (sh4 P P.gn ++ (⟨#[10, 101, 120, 112, 111, 114, 116, 115]⟩ : ByteArray)).size ≤ _
    (simp only [ByteArray.size_append, bsz, List.size_toArray, List.length_cons, List.length_nil]; omega)
  | k + 1, h => by
    have h1 := sh6_size B k (by omega); have h2 := hexStr_size (P.ex k).nm; have h3 := itoa_size (IntKind.wrap .i64 (P.ex k).kind); have h4 := hexOf_size (IntKind.wrap .u64 (P.ex k).idx) 8 (by decide); have h5 := B.ex k (by omega)
    show ((((((sh6 P k ++ (⟨#[32]⟩ : ByteArray)) ++ hexStr (P.ex k).nm) ++ (⟨#[46]⟩ : ByteArray)) ++ itoa (IntKind.wrap .i64 (P.ex k).kind)) ++ (⟨#[46]⟩ : ByteArray)) ++ hexOf (IntKind.wrap .u64 (P.ex k).idx) 8).size ≤ _
    (simp only [ByteArray.size_append, bsz, List.size_toArray, List.length_cons, List.length_nil]; omega)
theorem sh7_size {P : PM} (B : SB P) : ∀ k, k ≤ P.nEl → (sh7 P k).size ≤ 210000 + 200 * k
  | 0, _ => by
    have h1 := sh6_size B P.nEx (Nat.le_refl _); have := B.nEx
    show (sh6 P P.nEx).size ≤ _
    omega
  | k + 1, h => by
    have h1 := sh7_size B k (by omega); have h2 := showI_size (P.el k).off; have h3 := showU_size (P.el k).fns (P.el k).n; obtain ⟨_, h4⟩ := B.el k (by omega)
    show (((sh7 P k ++ (⟨#[10, 101, 108, 101, 109, 32]⟩ : ByteArray)) ++ showI (P.el k).off) ++ showU (P.el k).fns (P.el k).n).size ≤ _
    (simp only [ByteArray.size_append, bsz, List.size_toArray, List.length_cons, List.length_nil]; omega)
theorem sh8_size {P : PM} (B : SB P) : ∀ k, k ≤ P.nD → (sh8 P k).size ≤ 220000 + 5000 * k
  | 0, _ => by
    have h1 := sh7_size B P.nEl (Nat.le_refl _); have := B.nEl
    show (sh7 P P.nEl).size ≤ _
    omega
  | k + 1, h => by
    have h1 := sh8_size B k (by omega); have h2 := showI_size (P.da k).off; have h3 := hexStr_size (P.da k).bytes; obtain ⟨_, h4⟩ := B.da k (by omega)
    show ((((sh8 P k ++ (⟨#[10, 100, 97, 116, 97, 32]⟩ : ByteArray)) ++ showI (P.da k).off) ++ (⟨#[32]⟩ : ByteArray)) ++ hexStr (P.da k).bytes).size ≤ _
    (simp only [ByteArray.size_append, bsz, List.size_toArray, List.length_cons, List.length_nil]; omega)

theorem nil_j {a : Addr} {K : Addr → Prop} (h : K a) : nilV (some a) K := by rw [nilV_some]; exact h
theorem SlF.look {α : Type} {enc : α → List Value} {sz : Nat} {w : World} {lo : Nat} {v : Value} {n : Nat} {f : Nat → α} (h : SlF enc sz w lo v n f) : ∃ a, v = .slice a n n ∧ (n ≠ 0 → ∃ b, a = some ⟨b, 0, none⟩ ∧ b < w.heap.size ∧ ∀ j, j < n → ∀ k u, (enc (f j))[k]? = some u → w.cell? ⟨b, j * sz + k, none⟩ = some u) := by
  rcases h with ⟨h0, hv⟩ | ⟨h0, b, h1, h2, h3, h4⟩
  · exact ⟨none, by rw [hv, h0], fun g => absurd h0 g⟩
  · exact ⟨_, h1, fun _ => ⟨b, rfl, h4, h2.c⟩⟩

/-- The module, as Show walks over it. -/
structure Sx (w0 : World) (mb : Nat) (m : Nat → Value) (lo : Nat) (P : PM) : Prop where
  md : ModAt w0 mb m
  inv : MInv w0 lo m P
  B : SB P
section
variable {w0 w : World} {mb lo : Nat} {m : Nat → Value} {P : PM} {R Q : Value → World → Prop}
theorem Sx.mc (x : Sx w0 mb m lo P) (S : Same [] w0.heap.size w0 w) (j : Nat) (hj : j < 12) : w.cell? ⟨mb, j, none⟩ = some (m j) := (S.cell (p := ⟨mb, j, none⟩) (cell_lt (x.md.c j hj)) (by simp)).trans (x.md.c j hj)
theorem nx (i : Nat) (h : i ≤ 1000000) : IntKind.wrap .i64 ((i : Int) + 1) = ((i + 1 : Nat) : Int) := by rw [wrap_i64 (by omega) (by omega)]; omega
theorem Same.more {B : Nat} {a b c : World} (h : Same [] a.heap.size a b) (k : Same [] b.heap.size b c) : Same [] a.heap.size a c := h.trans (k.mono h.size (by simp))

theorem shL8 (x : Sx w0 mb m lo P) (hQ : Q = fun _ _ => False) (hR : ∀ w', Same [] w0.heap.size w0 w' → R (.string (showP P)) w') : ∀ (k i : Nat) (w : World), i + k = P.nD → Same [] w0.heap.size w0 w → api_Module_Show.L8 (some ⟨mb, 0, none⟩) (sh8 P i) (i : Int) R Q w := by
  subst hQ
  obtain ⟨a, ev, hrow⟩ := x.inv.d11.look
  intro k
  induction k with
  | zero =>
    intro i w hi S
    obtain rfl : i = P.nD := by omega
    refine api_Module_Show.step8 _ _ _ _ _ _ ?_
    unfold api_Module_Show.V8
    have c := x.mc S 11 (by decide)
    rw [ev] at c
    simp only [nilV_some, Nat.zero_add]
    exact ⟨_, _, _, c, cond_false' (decide_eq_false (by omega)) (hR w S)⟩
  | succ k ih =>
    intro i w hi S
    have hb := x.B.nD
    refine api_Module_Show.step8 _ _ _ _ _ _ ?_
    unfold api_Module_Show.V8
    have c := x.mc S 11 (by decide)
    rw [ev] at c
    obtain ⟨b, rfl, lb, row⟩ := hrow (by omega)
    have row' : ∀ {w : World}, Same [] w0.heap.size w0 w → ∀ k u, (datE (P.da i))[k]? = some u → w.cell? ⟨b, i * 4 + k, none⟩ = some u := fun S k u hu => (S.cell (p := ⟨b, i * 4 + k, none⟩) lb (by simp)).trans (row i (by omega) k u hu)
    obtain ⟨hy, hz⟩ := x.B.da i (by omega)
    simp only [nilV_some, Nat.zero_add]
    refine ⟨_, _, _, c, cond_true' (decide_eq_true (by omega)) ⟨_, _, _, c, by omega, ?_⟩⟩
    simp only [nilV_some, add_mk, Nat.zero_add, Int.toNat_natCast]
    refine ⟨_, _, _, row' S 0 _ rfl, row' S 1 _ rfl, row' S 2 _ rfl, RunsQ.post (showIns_spec (P.da i).off hy w) ?_⟩
    rintro v w1 ⟨rfl, S1⟩
    have T1 := Same.more (B := 0) S S1
    have c1 := x.mc T1 11 (by decide)
    rw [ev] at c1
    refine ⟨_, rfl, _, _, _, c1, by omega, ?_⟩
    simp only [nilV_some, add_mk, Nat.zero_add, Int.toNat_natCast]
    refine ⟨_, row' T1 3 _ rfl, RunsQ.post (HexStr_spec _ w1 (by omega)) ?_⟩
    rintro v w2 ⟨rfl, S2⟩
    have h1 := sh8_size x.B i (by omega); have h2 := showI_size (P.da i).off; have h3 := hexStr_size (P.da i).bytes
    refine ⟨_, rfl, by (simp only [ByteArray.size_append, bsz, List.size_toArray, List.length_cons, List.length_nil]; omega), by (simp only [ByteArray.size_append, bsz, List.size_toArray, List.length_cons, List.length_nil]; omega), by (simp only [ByteArray.size_append, bsz, List.size_toArray, List.length_cons, List.length_nil]; omega), by (simp only [ByteArray.size_append, bsz, List.size_toArray, List.length_cons, List.length_nil]; omega), ?_⟩
    rw [nx i (by omega)]
    exact ih (i + 1) w2 (by omega) (Same.more (B := 0) T1 S2)

theorem shL7 (x : Sx w0 mb m lo P) (hQ : Q = fun _ _ => False) (hN : ∀ w', Same [] w0.heap.size w0 w' → api_Module_Show.L8 (some ⟨mb, 0, none⟩) (sh8 P 0) 0 R Q w') : ∀ (k i : Nat) (w : World), i + k = P.nEl → Same [] w0.heap.size w0 w → api_Module_Show.L7 (some ⟨mb, 0, none⟩) (sh7 P i) (i : Int) R Q w := by
  subst hQ
  obtain ⟨a, ev, hrow⟩ : ∃ a, m 10 = .slice a P.nEl P.nEl ∧ (P.nEl ≠ 0 → ∃ tb, a = some ⟨tb, 0, none⟩ ∧ tb < w0.heap.size ∧ ElRow w0 lo tb P.nEl P.el) := by
    rcases x.inv.l10 with ⟨h0, hv⟩ | ⟨h0, b, h1, h2, h3, h4⟩
    · exact ⟨none, by rw [hv, h0], fun g => absurd h0 g⟩
    · exact ⟨_, h1, fun _ => ⟨b, rfl, h4, h2⟩⟩
  intro k
  induction k with
  | zero =>
    intro i w hi S
    obtain rfl : i = P.nEl := by omega
    refine api_Module_Show.step7 _ _ _ _ _ _ ?_
    unfold api_Module_Show.V7
    have c := x.mc S 10 (by decide)
    rw [ev] at c
    simp only [nilV_some, Nat.zero_add]
    exact ⟨_, _, _, c, cond_false' (decide_eq_false (by omega)) (hN w S)⟩
  | succ k ih =>
    intro i w hi S
    have hb := x.B.nEl
    refine api_Module_Show.step7 _ _ _ _ _ _ ?_
    unfold api_Module_Show.V7
    have c := x.mc S 10 (by decide)
    rw [ev] at c
    obtain ⟨b, rfl, lb, fr, row, hel⟩ := hrow (by omega)
    obtain ⟨g1, g2, _⟩ := hel i (by omega)
    have row' : ∀ {w : World}, Same [] w0.heap.size w0 w → ∀ k u, (elE (fr i))[k]? = some u → w.cell? ⟨b, i * 4 + k, none⟩ = some u := fun S k u hu => (S.cell (p := ⟨b, i * 4 + k, none⟩) lb (by simp)).trans (row.c i (by omega) k u hu)
    obtain ⟨hy, hz⟩ := x.B.el i (by omega)
    obtain ⟨fa, fe, frow⟩ := g2.look
    have k0 := row' S 0 _ rfl; have k1 := row' S 1 _ rfl; have k2 := row' S 2 _ rfl
    rw [g1] at k0 k1 k2
    simp only [nilV_some, Nat.zero_add]
    refine ⟨_, _, _, c, cond_true' (decide_eq_true (by omega)) ⟨_, _, _, c, by omega, ?_⟩⟩
    simp only [nilV_some, add_mk, Nat.zero_add, Int.toNat_natCast]
    refine ⟨_, _, _, k0, k1, k2, RunsQ.post (showIns_spec (P.el i).off hy w) ?_⟩
    rintro v w1 ⟨rfl, S1⟩
    have T1 := Same.more (B := 0) S S1
    have c1 := x.mc T1 10 (by decide)
    rw [ev] at c1
    have k3 := row' T1 3 _ rfl
    rw [fe] at k3
    refine ⟨_, rfl, _, _, _, c1, by omega, ?_⟩
    simp only [nilV_some, add_mk, Nat.zero_add, Int.toNat_natCast]
    refine ⟨_, _, _, k3, RunsQ.post (showU32s_spec (f := (P.el i).fns) (by omega) (fun h0 => ?_)) ?_⟩
    · obtain ⟨fb, rfl, lf, fc⟩ := frow h0
      refine ⟨fb, rfl, Nat.lt_of_lt_of_le lf T1.size, fun j hj => ?_⟩
      have := fc j hj 0 _ rfl
      rw [Nat.mul_one, Nat.add_zero] at this
      exact (T1.cell (p := ⟨fb, j, none⟩) lf (by simp)).trans this
    rintro v w2 ⟨rfl, S2⟩
    have h1 := sh7_size x.B i (by omega); have h2 := showI_size (P.el i).off; have h3 := showU_size (P.el i).fns (P.el i).n
    refine ⟨_, rfl, by (simp only [ByteArray.size_append, bsz, List.size_toArray, List.length_cons, List.length_nil]; omega), by (simp only [ByteArray.size_append, bsz, List.size_toArray, List.length_cons, List.length_nil]; omega), by (simp only [ByteArray.size_append, bsz, List.size_toArray, List.length_cons, List.length_nil]; omega), ?_⟩
    rw [nx i (by omega)]
    exact ih (i + 1) w2 (by omega) (Same.more (B := 0) T1 S2)

theorem shL6 (x : Sx w0 mb m lo P) (hQ : Q = fun _ _ => False) (hN : ∀ w', Same [] w0.heap.size w0 w' → api_Module_Show.L7 (some ⟨mb, 0, none⟩) (sh7 P 0) 0 R Q w') : ∀ (k i : Nat) (w : World), i + k = P.nEx → Same [] w0.heap.size w0 w → api_Module_Show.L6 (some ⟨mb, 0, none⟩) (sh6 P i) (i : Int) R Q w := by
  subst hQ
  obtain ⟨a, ev, hrow⟩ := x.inv.e8.look
  intro k
  induction k with
  | zero =>
    intro i w hi S
    obtain rfl : i = P.nEx := by omega
    refine api_Module_Show.step6 _ _ _ _ _ _ ?_
    unfold api_Module_Show.V6
    have c := x.mc S 8 (by decide)
    rw [ev] at c
    simp only [nilV_some, Nat.zero_add]
    exact ⟨_, _, _, c, cond_false' (decide_eq_false (by omega)) (hN w S)⟩
  | succ k ih =>
    intro i w hi S
    have hb := x.B.nEx
    refine api_Module_Show.step6 _ _ _ _ _ _ ?_
    unfold api_Module_Show.V6
    have c := x.mc S 8 (by decide)
    rw [ev] at c
    obtain ⟨b, rfl, lb, row⟩ := hrow (by omega)
    have row' : ∀ k u, (expE (P.ex i))[k]? = some u → w.cell? ⟨b, i * 3 + k, none⟩ = some u := fun k u hu => (S.cell (p := ⟨b, i * 3 + k, none⟩) lb (by simp)).trans (row i (by omega) k u hu)
    have hz := x.B.ex i (by omega)
    simp only [nilV_some, Nat.zero_add]
    refine ⟨_, _, _, c, cond_true' (decide_eq_true (by omega)) ⟨_, _, _, c, by omega, ?_⟩⟩
    simp only [nilV_some, add_mk, Nat.zero_add, Int.toNat_natCast]
    refine ⟨_, _, _, row' 0 _ rfl, row' 1 _ rfl, row' 2 _ rfl, letB_intro fun xb hxb => letW_intro fun w1 hw1 => ?_⟩
    have S1 : Same [] w.heap.size w w1 := by rw [hw1]; exact (Same.refl _ _ _).alloc (Nat.le_refl _) _
    have can1 : ∀ j, j < 3 → can w1 ⟨xb, j, none⟩ := fun j hj => by
      refine ⟨?_, by rw [hw1, hxb, World.frozen?_alloc_new]⟩
      rw [hw1, hxb, World.cell?_alloc_new]
      have : j = 0 ∨ j = 1 ∨ j = 2 := by omega
      rcases this with rfl | rfl | rfl <;> exact ⟨_, rfl⟩
    have z1 : w1.heap.size = w.heap.size + 1 := by rw [hw1]; simp
    clear hw1
    refine putCells_intro xb _ 0 w1 _ (fun j hj => by rw [Nat.zero_add]; exact can1 j (by simpa using hj)) (fun w2 hF => ?_)
    have S2 : Same [] w.heap.size w w2 := S1.trans ((hF.same w.heap.size).mono (Nat.le_refl _) (by intro k hk hl; simp at hk; omega))
    have k0 : w2.cell? ⟨xb, 0, none⟩ = some (.string (P.ex i).nm) := by rw [hF.cell, if_pos (by simp)]; rfl
    have k1 : w2.cell? ⟨xb, 1, none⟩ = some (.int .u8 (P.ex i).kind) := by rw [hF.cell, if_pos (by simp)]; rfl
    have k2 : w2.cell? ⟨xb, 2, none⟩ = some (.int .u32 (P.ex i).idx) := by rw [hF.cell, if_pos (by simp)]; rfl
    have lx : xb < w2.heap.size := cell_lt k0
    refine ⟨_, k0, RunsQ.post (HexStr_spec _ w2 (by omega)) ?_⟩
    rintro v w3 ⟨rfl, S3⟩
    have hk := wrapI64 (P.ex i).kind
    refine ⟨_, rfl, _, (S3.cell (p := ⟨xb, 1, none⟩) lx (by simp)).trans k1, RunsQ.post (Itoa_spec _ w3 hk.1 hk.2) ?_⟩
    rintro v w4 ⟨rfl, S4⟩
    have S24 := Same.more (B := 0) S3 S4
    have u1 := wrapU64 (P.ex i).idx
    refine ⟨_, rfl, _, (S24.cell (p := ⟨xb, 2, none⟩) lx (by simp)).trans k2, RunsQ.post (Hex_spec _ 8 w4 u1.1 u1.2 (by decide) (by decide)) ?_⟩
    rintro v w5 ⟨rfl, S5⟩
    have h1 := sh6_size x.B i (by omega); have h2 := hexStr_size (P.ex i).nm; have h3 := itoa_size (IntKind.wrap .i64 (P.ex i).kind); have h4 := hexOf_size (IntKind.wrap .u64 (P.ex i).idx) 8 (by decide)
    refine ⟨_, rfl, by (simp only [ByteArray.size_append, bsz, List.size_toArray, List.length_cons, List.length_nil]; omega), by (simp only [ByteArray.size_append, bsz, List.size_toArray, List.length_cons, List.length_nil]; omega), by (simp only [ByteArray.size_append, bsz, List.size_toArray, List.length_cons, List.length_nil]; omega), by (simp only [ByteArray.size_append, bsz, List.size_toArray, List.length_cons, List.length_nil]; omega), by (simp only [ByteArray.size_append, bsz, List.size_toArray, List.length_cons, List.length_nil]; omega), by (simp only [ByteArray.size_append, bsz, List.size_toArray, List.length_cons, List.length_nil]; omega), ?_⟩
    rw [nx i (by omega)]
    exact ih (i + 1) w5 (by omega) (Same.more (B := 0) S (Same.more (B := 0) S2 (Same.more (B := 0) S24 S5)))

theorem shL4 (x : Sx w0 mb m lo P) (hQ : Q = fun _ _ => False) (hN : ∀ w', Same [] w0.heap.size w0 w' → api_Module_Show.L6 (some ⟨mb, 0, none⟩) (sh6 P 0) 0 R Q w') : ∀ (k i : Nat) (w : World), i + k = P.gn → Same [] w0.heap.size w0 w → api_Module_Show.L4 (some ⟨mb, 0, none⟩) (sh4 P i) (i : Int) R Q w := by
  subst hQ
  obtain ⟨a, ev, hrow⟩ := x.inv.g7.look
  intro k
  induction k with
  | zero =>
    intro i w hi S
    obtain rfl : i = P.gn := by omega
    refine api_Module_Show.step4 _ _ _ _ _ _ ?_
    unfold api_Module_Show.V4
    have c := x.mc S 7 (by decide)
    rw [ev] at c
    have h1 := sh4_size x.B P.gn (Nat.le_refl _); have hb := x.B.gn
    simp only [nilV_some, Nat.zero_add]
    exact ⟨_, _, _, c, cond_false' (decide_eq_false (by omega)) ⟨by (simp only [ByteArray.size_append, bsz, List.size_toArray, List.length_cons, List.length_nil]; omega), hN w S⟩⟩
  | succ k ih =>
    intro i w hi S
    have hb := x.B.gn
    refine api_Module_Show.step4 _ _ _ _ _ _ ?_
    unfold api_Module_Show.V4
    have c := x.mc S 7 (by decide)
    rw [ev] at c
    obtain ⟨b, rfl, lb, row⟩ := hrow (by omega)
    have row' : ∀ k u, (globE (P.g i))[k]? = some u → w.cell? ⟨b, i * 5 + k, none⟩ = some u := fun k u hu => (S.cell (p := ⟨b, i * 5 + k, none⟩) lb (by simp)).trans (row i (by omega) k u hu)
    have hy := x.B.g i (by omega)
    simp only [nilV_some, Nat.zero_add]
    refine ⟨_, _, _, c, cond_true' (decide_eq_true (by omega)) ⟨_, _, _, c, by omega, ?_⟩⟩
    simp only [nilV_some, add_mk, Nat.zero_add, Int.toNat_natCast]
    refine ⟨_, _, _, _, _, row' 0 _ rfl, row' 1 _ rfl, row' 2 _ rfl, row' 3 _ rfl, row' 4 _ rfl, letB_intro fun xb hxb => letW_intro fun w1 hw1 => ?_⟩
    have S1 : Same [] w.heap.size w w1 := by rw [hw1]; exact (Same.refl _ _ _).alloc (Nat.le_refl _) _
    have can1 : ∀ j, j < 5 → can w1 ⟨xb, j, none⟩ := fun j hj => by
      refine ⟨?_, by rw [hw1, hxb, World.frozen?_alloc_new]⟩
      rw [hw1, hxb, World.cell?_alloc_new]
      have : j = 0 ∨ j = 1 ∨ j = 2 ∨ j = 3 ∨ j = 4 := by omega
      rcases this with rfl | rfl | rfl | rfl | rfl <;> exact ⟨_, rfl⟩
    have z1 : w1.heap.size = w.heap.size + 1 := by rw [hw1]; simp
    clear hw1
    refine putCells_intro xb _ 0 w1 _ (fun j hj => by rw [Nat.zero_add]; exact can1 j (by simpa using hj)) (fun w2 hF => ?_)
    have S2 : Same [] w.heap.size w w2 := S1.trans ((hF.same w.heap.size).mono (Nat.le_refl _) (by intro k hk hl; simp at hk; omega))
    have k0 : w2.cell? ⟨xb, 0, none⟩ = some (.int .u8 (P.g i).ty) := by rw [hF.cell, if_pos (by simp)]; rfl
    have k1 : w2.cell? ⟨xb, 1, none⟩ = some (.bool (P.g i).mu) := by rw [hF.cell, if_pos (by simp)]; rfl
    have k2 : w2.cell? ⟨xb, 2, none⟩ = some (.int .u8 (P.g i).init.op) := by rw [hF.cell, if_pos (by simp)]; rfl
    have k3 : w2.cell? ⟨xb, 3, none⟩ = some (.int .u32 (P.g i).init.x) := by rw [hF.cell, if_pos (by simp)]; rfl
    have k4 : w2.cell? ⟨xb, 4, none⟩ = some (.int .u64 (P.g i).init.y) := by rw [hF.cell, if_pos (by simp)]; rfl
    have lx : xb < w2.heap.size := cell_lt k0
    have u1 := wrapU64 (P.g i).ty
    refine ⟨_, k0, RunsQ.post (Hex_spec _ 2 w2 u1.1 u1.2 (by decide) (by decide)) ?_⟩
    rintro v w3 ⟨rfl, S3⟩
    refine ⟨_, rfl, _, _, _, (S3.cell (p := ⟨xb, 2, none⟩) lx (by simp)).trans k2, (S3.cell (p := ⟨xb, 3, none⟩) lx (by simp)).trans k3, (S3.cell (p := ⟨xb, 4, none⟩) lx (by simp)).trans k4, RunsQ.post (showIns_spec (P.g i).init hy w3) ?_⟩
    rintro v w4 ⟨rfl, S4⟩
    have S24 := Same.more (B := 0) S3 S4
    have T4 := Same.more (B := 0) S (Same.more (B := 0) S2 S24)
    have h1 := sh4_size x.B i (by omega); have h2 := hexOf_size (IntKind.wrap .u64 (P.g i).ty) 2 (by decide); have h3 := showI_size (P.g i).init; have h4 := globT_size (P.g i)
    have L5 : api_Module_Show.L5 (some ⟨mb, 0, none⟩) (sh4 P i) (i : Int) (globT (P.g i)) (showI (P.g i).init) R (fun _ _ => False) w4 := by
      refine api_Module_Show.step5 _ _ _ _ _ _ _ _ ?_
      unfold api_Module_Show.V5
      refine ⟨by (simp only [ByteArray.size_append, bsz, List.size_toArray, List.length_cons, List.length_nil]; omega), by (simp only [ByteArray.size_append, bsz, List.size_toArray, List.length_cons, List.length_nil]; omega), by (simp only [ByteArray.size_append, bsz, List.size_toArray, List.length_cons, List.length_nil]; omega), by (simp only [ByteArray.size_append, bsz, List.size_toArray, List.length_cons, List.length_nil]; omega), ?_⟩
      rw [nx i (by omega)]
      exact ih (i + 1) w4 (by omega) T4
    refine ⟨_, rfl, _, (S24.cell (p := ⟨xb, 1, none⟩) lx (by simp)).trans k1, ?_⟩
    unfold globT at L5
    refine cond_intro (fun g => ?_) (fun g => ?_)
    · rw [if_pos g] at L5
      exact ⟨by (simp only [ByteArray.size_append, bsz, List.size_toArray, List.length_cons, List.length_nil]; omega), L5⟩
    · rw [if_neg (by rw [g]; decide)] at L5
      exact L5

theorem shL3 (x : Sx w0 mb m lo P) (hQ : Q = fun _ _ => False) (hN : ∀ w', Same [] w0.heap.size w0 w' → api_Module_Show.L4 (some ⟨mb, 0, none⟩) (sh4 P 0) 0 R Q w') : ∀ (k i : Nat) (w : World), i + k = P.nf → Same [] w0.heap.size w0 w → api_Module_Show.L3 (some ⟨mb, 0, none⟩) (sh3 P i) (i : Int) R Q w := by
  subst hQ
  obtain ⟨a, ev, hrow⟩ : ∃ a, m 2 = .slice a P.nf P.nf ∧ (P.nf ≠ 0 → ∃ fb, a = some ⟨fb, 0, none⟩ ∧ fb < w0.heap.size ∧ FnRow w0 (lo + 1) fb P.nf P.nf P.fn) := by
    rcases x.inv.f2 with ⟨h0, hv⟩ | ⟨h0, b, h1, h2, h3, h4⟩
    · exact ⟨none, by rw [hv, h0], fun g => absurd h0 g⟩
    · exact ⟨_, h1, fun _ => ⟨b, rfl, h4, h2⟩⟩
  intro k
  induction k with
  | zero =>
    intro i w hi S
    obtain rfl : i = P.nf := by omega
    refine api_Module_Show.step3 _ _ _ _ _ _ ?_
    unfold api_Module_Show.V3
    have c := x.mc S 2 (by decide)
    rw [ev] at c
    have hB := x.B
    simp only [nilV_some, Nat.zero_add]
    have c3 := x.mc S 3 (by decide)
    rw [x.inv.v3] at c3
    refine ⟨_, _, _, c, cond_false' (decide_eq_false (by omega)) ⟨_, c3, RunsQ.post (Itoa_spec _ w hB.t0.1 hB.t0.2) ?_⟩⟩
    rintro v w1 ⟨rfl, S1⟩
    have T1 := Same.more (B := 0) S S1
    have c4 := x.mc T1 4 (by decide)
    rw [x.inv.v4] at c4
    refine ⟨_, rfl, _, c4, RunsQ.post (Itoa_spec _ w1 hB.t1.1 hB.t1.2) ?_⟩
    rintro v w2 ⟨rfl, S2⟩
    have T2 := Same.more (B := 0) T1 S2
    have c5 := x.mc T2 5 (by decide)
    rw [x.inv.v5] at c5
    refine ⟨_, rfl, _, c5, RunsQ.post (Itoa_spec _ w2 hB.m0.1 hB.m0.2) ?_⟩
    rintro v w3 ⟨rfl, S3⟩
    have T3 := Same.more (B := 0) T2 S3
    have c6 := x.mc T3 6 (by decide)
    rw [x.inv.v6] at c6
    refine ⟨_, rfl, _, c6, RunsQ.post (Itoa_spec _ w3 hB.m1.1 hB.m1.2) ?_⟩
    rintro v w4 ⟨rfl, S4⟩
    have T4 := Same.more (B := 0) T3 S4
    have c9 := x.mc T4 9 (by decide)
    rw [x.inv.s9] at c9
    refine ⟨_, rfl, _, c9, RunsQ.post (Itoa_spec _ w4 hB.s0.1 hB.s0.2) ?_⟩
    rintro v w5 ⟨rfl, S5⟩
    have T5 := Same.more (B := 0) T4 S5
    have h1 := sh3_size x.B P.nf (Nat.le_refl _); have := x.B.nf; have i1 := itoa_size P.tmin; have i2 := itoa_size P.tmax; have i3 := itoa_size P.mmin; have i4 := itoa_size P.mmax; have i5 := itoa_size P.start
    exact ⟨_, rfl, by (simp only [ByteArray.size_append, bsz, List.size_toArray, List.length_cons, List.length_nil]; omega), by (simp only [ByteArray.size_append, bsz, List.size_toArray, List.length_cons, List.length_nil]; omega), by (simp only [ByteArray.size_append, bsz, List.size_toArray, List.length_cons, List.length_nil]; omega), by (simp only [ByteArray.size_append, bsz, List.size_toArray, List.length_cons, List.length_nil]; omega), by (simp only [ByteArray.size_append, bsz, List.size_toArray, List.length_cons, List.length_nil]; omega), by (simp only [ByteArray.size_append, bsz, List.size_toArray, List.length_cons, List.length_nil]; omega), by (simp only [ByteArray.size_append, bsz, List.size_toArray, List.length_cons, List.length_nil]; omega), by (simp only [ByteArray.size_append, bsz, List.size_toArray, List.length_cons, List.length_nil]; omega), by (simp only [ByteArray.size_append, bsz, List.size_toArray, List.length_cons, List.length_nil]; omega), by (simp only [ByteArray.size_append, bsz, List.size_toArray, List.length_cons, List.length_nil]; omega), by (simp only [ByteArray.size_append, bsz, List.size_toArray, List.length_cons, List.length_nil]; omega), hN w5 T5⟩
  | succ k ih =>
    intro i w hi S
    have hb := x.B.nf
    refine api_Module_Show.step3 _ _ _ _ _ _ ?_
    unfold api_Module_Show.V3
    have c := x.mc S 2 (by decide)
    rw [ev] at c
    obtain ⟨b, rfl, lb, row⟩ := hrow (by omega)
    have cf : ∀ {w : World}, Same [] w0.heap.size w0 w → ∀ j, w.cell? ⟨b, j, none⟩ = w0.cell? ⟨b, j, none⟩ := fun S j => S.cell (p := ⟨b, j, none⟩) lb (by simp)
    obtain ⟨f1, f2, f3, f4, f5⟩ := x.B.fn i (by omega)
    obtain ⟨nb, q1, q2, _, q4, _⟩ := row.c2 i (by omega)
    simp only [nilV_some, Nat.zero_add]
    refine ⟨_, _, _, c, cond_true' (decide_eq_true (by omega)) ⟨_, _, _, c, by omega, ?_⟩⟩
    simp only [nilV_some, add_mk, Nat.zero_add, Int.toNat_natCast]
    refine ⟨_, (cf S _).trans (row.c0 i (by omega)), RunsQ.post (Itoa_spec _ w f1.1 f1.2) ?_⟩
    rintro v w1 ⟨rfl, S1⟩
    have T1 := Same.more (B := 0) S S1
    have c1 := x.mc T1 2 (by decide)
    rw [ev] at c1
    refine ⟨_, rfl, _, _, _, c1, by omega, ?_⟩
    simp only [nilV_some, add_mk, Nat.zero_add, Int.toNat_natCast]
    refine ⟨_, (cf T1 _).trans (row.c1 i (by omega)), RunsQ.post (HexStr_spec _ w1 (by omega)) ?_⟩
    rintro v w2 ⟨rfl, S2⟩
    have T2 := Same.more (B := 0) T1 S2
    have c2 := x.mc T2 2 (by decide)
    rw [ev] at c2
    refine ⟨_, rfl, _, _, _, c2, by omega, ?_⟩
    simp only [nilV_some, add_mk, Nat.zero_add, Int.toNat_natCast]
    refine ⟨_, _, _, (cf T2 _).trans q1, RunsQ.post (showBody_spec (f := (P.fn i).ins) (by omega) f4 (fun _ => ⟨nb, rfl, Nat.lt_of_lt_of_le q4 T2.size, ?_⟩)) ?_⟩
    · exact ⟨fun j hj => (T2.cell (p := ⟨nb, _, none⟩) q4 (by simp)).trans (q2.i0 j hj), fun j hj => (T2.cell (p := ⟨nb, _, none⟩) q4 (by simp)).trans (q2.i1 j hj), fun j hj => (T2.cell (p := ⟨nb, _, none⟩) q4 (by simp)).trans (q2.i2 j hj), fun j => (T2.frozen (p := ⟨nb, j, none⟩) q4 (by simp)).trans (q2.fz j)⟩
    rintro v w3 ⟨rfl, S3⟩
    have T3 := Same.more (B := 0) T2 S3
    have c3 := x.mc T3 2 (by decide)
    rw [ev] at c3
    refine ⟨_, rfl, _, _, _, c3, by omega, ?_⟩
    simp only [nilV_some, add_mk, Nat.zero_add, Int.toNat_natCast]
    obtain ⟨ta, te, trow⟩ : ∃ ta, w0.cell? ⟨b, i * 4 + 3, none⟩ = some (.slice ta (P.fn i).nTab (P.fn i).nTab) ∧ ((P.fn i).nTab ≠ 0 → ∃ tb, ta = some ⟨tb, 0, none⟩ ∧ tb < w0.heap.size ∧ TabRow w0 tb (P.fn i).nTab (P.fn i).tabs) := by
      rcases row.c3 i (by omega) with ⟨e0, e1⟩ | ⟨e0, tk, e1, e2, _, e4, _⟩
      · exact ⟨none, by rw [e1, e0], fun g => absurd e0 g⟩
      · exact ⟨_, e1, fun _ => ⟨tk, rfl, e4, e2⟩⟩
    refine ⟨_, _, _, (cf T3 _).trans te, RunsQ.post (showU32s_spec (f := (P.fn i).tabs) (by omega) (fun h0 => ?_)) ?_⟩
    · obtain ⟨tb, rfl, lt', tr⟩ := trow h0
      exact ⟨tb, rfl, Nat.lt_of_lt_of_le lt' T3.size, fun j hj => (T3.cell (p := ⟨tb, j, none⟩) lt' (by simp)).trans (tr.1 j hj)⟩
    rintro v w4 ⟨rfl, S4⟩
    have T4 := Same.more (B := 0) T3 S4
    have h1 := sh3_size x.B i (by omega); have h2 := hexStr_size (strOfNums (P.fn i).ls); have h3 := itoa_size (P.fn i).ty; have h7 := showB_size (P.fn i).ins (P.fn i).nI; have h8 := showU_size (P.fn i).tabs (P.fn i).nTab
    refine ⟨_, rfl, by (simp only [ByteArray.size_append, bsz, List.size_toArray, List.length_cons, List.length_nil]; omega), by (simp only [ByteArray.size_append, bsz, List.size_toArray, List.length_cons, List.length_nil]; omega), by (simp only [ByteArray.size_append, bsz, List.size_toArray, List.length_cons, List.length_nil]; omega), by (simp only [ByteArray.size_append, bsz, List.size_toArray, List.length_cons, List.length_nil]; omega), by (simp only [ByteArray.size_append, bsz, List.size_toArray, List.length_cons, List.length_nil]; omega), by (simp only [ByteArray.size_append, bsz, List.size_toArray, List.length_cons, List.length_nil]; omega), by (simp only [ByteArray.size_append, bsz, List.size_toArray, List.length_cons, List.length_nil]; omega), by (simp only [ByteArray.size_append, bsz, List.size_toArray, List.length_cons, List.length_nil]; omega), ?_⟩
    rw [nx i (by omega)]
    exact ih (i + 1) w4 (by omega) T4

theorem shL2 (x : Sx w0 mb m lo P) (hQ : Q = fun _ _ => False) (hN : ∀ w', Same [] w0.heap.size w0 w' → api_Module_Show.L3 (some ⟨mb, 0, none⟩) (sh3 P 0) 0 R Q w') : ∀ (k i : Nat) (w : World), i + k = P.nIm → Same [] w0.heap.size w0 w → api_Module_Show.L2 (some ⟨mb, 0, none⟩) (sh2 P i) (i : Int) R Q w := by
  subst hQ
  obtain ⟨a, ev, hrow⟩ := x.inv.i1.look
  intro k
  induction k with
  | zero =>
    intro i w hi S
    obtain rfl : i = P.nIm := by omega
    refine api_Module_Show.step2 _ _ _ _ _ _ ?_
    unfold api_Module_Show.V2
    have c := x.mc S 1 (by decide)
    rw [ev] at c
    simp only [nilV_some, Nat.zero_add]
    exact ⟨_, _, _, c, cond_false' (decide_eq_false (by omega)) (hN w S)⟩
  | succ k ih =>
    intro i w hi S
    have hb := x.B.nIm
    refine api_Module_Show.step2 _ _ _ _ _ _ ?_
    unfold api_Module_Show.V2
    have c := x.mc S 1 (by decide)
    rw [ev] at c
    obtain ⟨b, rfl, lb, row⟩ := hrow (by omega)
    have row' : ∀ {w : World}, Same [] w0.heap.size w0 w → ∀ k u, (impE (P.im i))[k]? = some u → w.cell? ⟨b, i * 3 + k, none⟩ = some u := fun S k u hu => (S.cell (p := ⟨b, i * 3 + k, none⟩) lb (by simp)).trans (row i (by omega) k u hu)
    obtain ⟨z1, z2, z3⟩ := x.B.im i (by omega)
    simp only [nilV_some, Nat.zero_add]
    refine ⟨_, _, _, c, cond_true' (decide_eq_true (by omega)) ⟨_, _, _, c, by omega, ?_⟩⟩
    simp only [nilV_some, add_mk, Nat.zero_add, Int.toNat_natCast]
    refine ⟨_, row' S 0 _ rfl, RunsQ.post (HexStr_spec _ w (by omega)) ?_⟩
    rintro v w1 ⟨rfl, S1⟩
    have T1 := Same.more (B := 0) S S1
    have c1 := x.mc T1 1 (by decide)
    rw [ev] at c1
    refine ⟨_, rfl, _, _, _, c1, by omega, ?_⟩
    simp only [nilV_some, add_mk, Nat.zero_add, Int.toNat_natCast]
    refine ⟨_, row' T1 1 _ rfl, RunsQ.post (HexStr_spec _ w1 (by omega)) ?_⟩
    rintro v w2 ⟨rfl, S2⟩
    have T2 := Same.more (B := 0) T1 S2
    have c2 := x.mc T2 1 (by decide)
    rw [ev] at c2
    refine ⟨_, rfl, _, _, _, c2, by omega, ?_⟩
    simp only [nilV_some, add_mk, Nat.zero_add, Int.toNat_natCast]
    refine ⟨_, row' T2 2 _ rfl, RunsQ.post (Itoa_spec _ w2 z3.1 z3.2) ?_⟩
    rintro v w3 ⟨rfl, S3⟩
    have h1 := sh2_size x.B i (by omega); have h2 := hexStr_size (P.im i).md; have h3 := hexStr_size (P.im i).nm; have h4 := itoa_size (P.im i).ty
    refine ⟨_, rfl, by (simp only [ByteArray.size_append, bsz, List.size_toArray, List.length_cons, List.length_nil]; omega), by (simp only [ByteArray.size_append, bsz, List.size_toArray, List.length_cons, List.length_nil]; omega), by (simp only [ByteArray.size_append, bsz, List.size_toArray, List.length_cons, List.length_nil]; omega), by (simp only [ByteArray.size_append, bsz, List.size_toArray, List.length_cons, List.length_nil]; omega), by (simp only [ByteArray.size_append, bsz, List.size_toArray, List.length_cons, List.length_nil]; omega), by (simp only [ByteArray.size_append, bsz, List.size_toArray, List.length_cons, List.length_nil]; omega), ?_⟩
    rw [nx i (by omega)]
    exact ih (i + 1) w3 (by omega) (Same.more (B := 0) T2 S3)

theorem shL1 (x : Sx w0 mb m lo P) (hQ : Q = fun _ _ => False) (hN : ∀ w', Same [] w0.heap.size w0 w' → api_Module_Show.L2 (some ⟨mb, 0, none⟩) (sh2 P 0) 0 R Q w') : ∀ (k i : Nat) (w : World), i + k = P.nTy → Same [] w0.heap.size w0 w → api_Module_Show.L1 (some ⟨mb, 0, none⟩) (sh1 P i) (i : Int) R Q w := by
  subst hQ
  obtain ⟨a, ev, hrow⟩ := x.inv.t0.look
  intro k
  induction k with
  | zero =>
    intro i w hi S
    obtain rfl : i = P.nTy := by omega
    refine api_Module_Show.step1 _ _ _ _ _ _ ?_
    unfold api_Module_Show.V1
    have c := x.mc S 0 (by decide)
    rw [ev] at c
    have h1 := sh1_size x.B P.nTy (Nat.le_refl _); have hb := x.B.nTy
    simp only [nilV_some, Nat.zero_add]
    exact ⟨_, _, _, c, cond_false' (decide_eq_false (by omega)) ⟨by (simp only [ByteArray.size_append, bsz, List.size_toArray, List.length_cons, List.length_nil]; omega), hN w S⟩⟩
  | succ k ih =>
    intro i w hi S
    have hb := x.B.nTy
    refine api_Module_Show.step1 _ _ _ _ _ _ ?_
    unfold api_Module_Show.V1
    have c := x.mc S 0 (by decide)
    rw [ev] at c
    obtain ⟨b, rfl, lb, row⟩ := hrow (by omega)
    have row' := (S.cell (p := ⟨b, i * 1 + 0, none⟩) lb (by simp)).trans (row i (by omega) 0 _ rfl)
    rw [Nat.mul_one, Nat.add_zero] at row'
    have z1 := x.B.ty i (by omega)
    simp only [nilV_some, Nat.zero_add]
    refine ⟨_, _, _, c, cond_true' (decide_eq_true (by omega)) ⟨_, _, _, c, by omega, ?_⟩⟩
    simp only [nilV_some, add_mk, Nat.zero_add, Int.toNat_natCast, Nat.mul_one]
    refine ⟨_, row', RunsQ.post (HexStr_spec _ w (by omega)) ?_⟩
    rintro v w1 ⟨rfl, S1⟩
    have h1 := sh1_size x.B i (by omega); have h2 := hexStr_size (P.ty i)
    refine ⟨_, rfl, by (simp only [ByteArray.size_append, bsz, List.size_toArray, List.length_cons, List.length_nil]; omega), by (simp only [ByteArray.size_append, bsz, List.size_toArray, List.length_cons, List.length_nil]; omega), ?_⟩
    rw [nx i (by omega)]
    exact ih (i + 1) w1 (by omega) (Same.more (B := 0) S S1)

theorem Show_spec (x : Sx w0 mb m lo P) : Runs Try.prog api_Module_Show.id #[rp mb] w0 fun v w' => v = .string (showP P) ∧ Same [] w0.heap.size w0 w' := by
  refine api_Module_Show.enter _ _ _ _ ?_
  unfold api_Module_Show.V
  refine cond_false' rfl ?_
  refine shL1 x rfl (fun w1 S1 => shL2 x rfl (fun w2 S2 => shL3 x rfl (fun w3 S3 => shL4 x rfl (fun w4 S4 => shL6 x rfl (fun w5 S5 => shL7 x rfl (fun w6 S6 => shL8 x rfl (fun w7 S7 => ⟨rfl, S7⟩) P.nD 0 w6 (by omega) S6) P.nEl 0 w5 (by omega) S5) P.nEx 0 w4 (by omega) S4) P.gn 0 w3 (by omega) S3) P.nf 0 w2 (by omega) S2) P.nIm 0 w1 (by omega) S1) P.nTy 0 w0 (by omega) (Same.refl _ _ _)
end

end Go.Proofs.Qxb6500316a
