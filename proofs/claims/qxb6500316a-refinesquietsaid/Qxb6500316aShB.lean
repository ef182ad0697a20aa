/-
  Show of a module.
-/
import Derived.Test.Qxb6500316aShA
import Derived.Test.Qxb6500316aDcM
set_option linter.unusedSimpArgs false
set_option linter.unusedVariables false
set_option maxRecDepth 100000
set_option linter.unusedSectionVars false
namespace Go.Proofs.Qxb6500316a
open Go Go.Vc

theorem bsz (a : Array UInt8) : ByteArray.size (ByteArray.mk a) = a.size := rfl
theorem hexOf_size (v : Int) (n : Nat) (h : n ≤ 16) : (hexOf v n).size = n := by
  unfold hexOf
  rw [strOfNums_size, List.length_drop, hexs_length]
  simp only [List.length_nil]; omega
theorem hexStr_size (s : ByteArray) : (hexStr s).size = 2 * s.size := by
  unfold hexStr
  rw [strOfNums_size, hexL_length]
  simp
theorem itoa_size (n : Int) : (itoa n).size ≤ 21 := by
  have h := digs_length 20 n []
  simp only [List.length_nil] at h
  unfold itoa
  split
  · exact (by decide : 1 ≤ 21)
  · split
    · rw [ByteArray.size_append, strOfNums_size, bsz]
      have : (#[45] : Array UInt8).size = 1 := rfl
      omega
    · rw [strOfNums_size]; omega
abbrev U64 (y : Int) : Prop := 0 ≤ y ∧ y < 18446744073709551616
theorem wrapU64 (x : Int) : U64 (IntKind.wrap .u64 x) := by rw [wrap_u64_mod]; exact ⟨by omega, by omega⟩

/-! ### showIns, showBody, showU32s -/
def showI (i : Ins) : ByteArray := (((hexOf (IntKind.wrap .u64 i.op) 2 ++ (⟨#[46]⟩ : ByteArray)) ++ hexOf (IntKind.wrap .u64 i.x) 8) ++ (⟨#[46]⟩ : ByteArray)) ++ hexOf i.y 16
theorem showI_size (i : Ins) : (showI i).size = 28 := by
  unfold showI
  have h1 := hexOf_size (IntKind.wrap .u64 i.op) 2 (by decide)
  have h2 := hexOf_size (IntKind.wrap .u64 i.x) 8 (by decide)
  have h3 := hexOf_size i.y 16 (by decide)
  (simp only [ByteArray.size_append, bsz, List.size_toArray, List.length_cons, List.length_nil]; omega)
theorem showIns_spec (i : Ins) (hy : U64 i.y) (w : World) : Runs Try.prog api_showIns.id #[insV i] w fun v w' => v = .string (showI i) ∧ Same [] w.heap.size w w' := by
  refine api_showIns.enter _ _ _ _ _ _ ?_
  unfold api_showIns.V
  refine letB_intro fun b hb => letW_intro fun w1 hw1 => ?_
  have I1 : InsAt w1 b i := ⟨by rw [hw1, hb, World.cell?_alloc_new]; rfl, by rw [hw1, hb, World.cell?_alloc_new]; rfl, by rw [hw1, hb, World.cell?_alloc_new]; rfl, fun j => by rw [hw1, hb, World.frozen?_alloc_new]⟩
  have S1 : Same [] w.heap.size w w1 := by rw [hw1]; exact (Same.refl _ _ _).alloc (Nat.le_refl _) _
  clear hw1
  have u1 := wrapU64 i.op
  have u2 := wrapU64 i.x
  refine ⟨_, I1.c0, RunsQ.post (Hex_spec _ 2 w1 u1.1 u1.2 (by decide) (by decide)) ?_⟩
  rintro v w2 ⟨rfl, S2⟩
  have I2 := I1.same S2 I1.lt (by simp)
  refine ⟨_, rfl, _, I2.c1, RunsQ.post (Hex_spec _ 8 w2 u2.1 u2.2 (by decide) (by decide)) ?_⟩
  rintro v w3 ⟨rfl, S3⟩
  have I3 := I2.same S3 I2.lt (by simp)
  refine ⟨_, rfl, _, I3.c2, RunsQ.post (Hex_spec _ 16 w3 hy.1 hy.2 (by decide) (by decide)) ?_⟩
  rintro v w4 ⟨rfl, S4⟩
  have T2 := S1.trans (S2.mono S1.size (by simp))
  have T3 := T2.trans (S3.mono T2.size (by simp))
  have T4 := T3.trans (S4.mono T3.size (by simp))
  have h1 := hexOf_size (IntKind.wrap .u64 i.op) 2 (by decide)
  have h2 := hexOf_size (IntKind.wrap .u64 i.x) 8 (by decide)
  have h3 := hexOf_size i.y 16 (by decide)
  exact ⟨_, rfl, by (simp only [ByteArray.size_append, bsz, List.size_toArray, List.length_cons, List.length_nil]; omega), by (simp only [ByteArray.size_append, bsz, List.size_toArray, List.length_cons, List.length_nil]; omega), by (simp only [ByteArray.size_append, bsz, List.size_toArray, List.length_cons, List.length_nil]; omega), by (simp only [ByteArray.size_append, bsz, List.size_toArray, List.length_cons, List.length_nil]; omega), rfl, T4⟩
def showB (f : Nat → Ins) : Nat → ByteArray
  | 0 => ⟨#[]⟩
  | k + 1 => (showB f k ++ (⟨#[32]⟩ : ByteArray)) ++ showI (f k)
theorem showB_size (f : Nat → Ins) : ∀ k, (showB f k).size = 29 * k
  | 0 => rfl
  | k + 1 => by
    have h1 := showB_size f k
    have h2 := showI_size (f k)
    show ((showB f k ++ (⟨#[32]⟩ : ByteArray)) ++ showI (f k)).size = _
    (simp only [ByteArray.size_append, bsz, List.size_toArray, List.length_cons, List.length_nil]; omega)
theorem showBody_loop {w0 : World} {a : Option Addr} {n c : Nat} {f : Nat → Ins} (hn : n ≤ 1000) (hy : ∀ k, k < n → U64 (f k).y) (hr : n ≠ 0 → ∃ b, a = some ⟨b, 0, none⟩ ∧ b < w0.heap.size ∧ InsRow w0 b n f) (R Q : Value → World → Prop) (hQ : Q = fun _ _ => False) (hR : ∀ w', Same [] w0.heap.size w0 w' → R (.string (showB f n)) w') :
    ∀ (k i : Nat) (w : World), i + k = n → Same [] w0.heap.size w0 w → api_showBody.L1 a n c (showB f i) (i : Int) R Q w
  | 0, i, w, hi, S => by
    refine api_showBody.step1 _ _ _ _ _ _ _ _ ?_
    unfold api_showBody.V1
    obtain rfl : i = n := by omega
    exact cond_false' (decide_eq_false (by omega)) (hR w S)
  | k + 1, i, w, hi, S => by
    subst hQ
    refine api_showBody.step1 _ _ _ _ _ _ _ _ ?_
    unfold api_showBody.V1
    refine cond_true' (decide_eq_true (by omega)) ?_
    obtain ⟨b, rfl, lb, row⟩ := hr (by omega)
    have g : InsRow w b n f := ⟨fun j hj => by rw [S.cell (p := ⟨b, _, none⟩) lb (by simp)]; exact row.i0 j hj, fun j hj => by rw [S.cell (p := ⟨b, _, none⟩) lb (by simp)]; exact row.i1 j hj, fun j hj => by rw [S.cell (p := ⟨b, _, none⟩) lb (by simp)]; exact row.i2 j hj, fun j => by rw [S.frozen (p := ⟨b, j, none⟩) lb (by simp)]; exact row.fz j⟩
    have e1 : IntKind.wrap .i64 ((i : Int) + 1) = ((i + 1 : Nat) : Int) := by rw [wrap_i64 (by omega) (by omega)]; omega
    simp only [nilV_some, add_mk, Nat.zero_add, Int.toNat_natCast]
    refine ⟨by omega, _, _, _, g.i0 i (by omega), g.i1 i (by omega), g.i2 i (by omega), RunsQ.post (showIns_spec (f i) (hy i (by omega)) w) ?_⟩
    rintro v w1 ⟨rfl, S1⟩
    have h1 := showB_size f i
    have h2 := showI_size (f i)
    refine ⟨_, rfl, by (simp only [ByteArray.size_append, bsz, List.size_toArray, List.length_cons, List.length_nil]; omega), by (simp only [ByteArray.size_append, bsz, List.size_toArray, List.length_cons, List.length_nil]; omega), ?_⟩
    rw [e1]
    exact showBody_loop hn hy hr R _ rfl hR k (i + 1) w1 (by omega) (S.trans (S1.mono S.size (by simp)))
theorem showBody_spec {w : World} {a : Option Addr} {n c : Nat} {f : Nat → Ins} (hn : n ≤ 1000) (hy : ∀ k, k < n → U64 (f k).y) (hr : n ≠ 0 → ∃ b, a = some ⟨b, 0, none⟩ ∧ b < w.heap.size ∧ InsRow w b n f) :
    Runs Try.prog api_showBody.id #[.slice a n c] w fun v w' => v = .string (showB f n) ∧ Same [] w.heap.size w w' := by
  refine api_showBody.enter _ _ _ _ _ _ ?_
  unfold api_showBody.V
  exact showBody_loop hn hy hr _ _ rfl (fun w' S => ⟨rfl, S⟩) n 0 w (by omega) (Same.refl _ _ _)
def showU (f : Nat → Int) : Nat → ByteArray
  | 0 => ⟨#[]⟩
  | k + 1 => (showU f k ++ (⟨#[32]⟩ : ByteArray)) ++ hexOf (IntKind.wrap .u64 (f k)) 8
theorem showU_size (f : Nat → Int) : ∀ k, (showU f k).size = 9 * k
  | 0 => rfl
  | k + 1 => by
    have h1 := showU_size f k
    have h2 := hexOf_size (IntKind.wrap .u64 (f k)) 8 (by decide)
    show ((showU f k ++ (⟨#[32]⟩ : ByteArray)) ++ hexOf (IntKind.wrap .u64 (f k)) 8).size = _
    (simp only [ByteArray.size_append, bsz, List.size_toArray, List.length_cons, List.length_nil]; omega)
theorem showU32s_loop {w0 : World} {a : Option Addr} {n c : Nat} {f : Nat → Int} (hn : n ≤ 1000) (hr : n ≠ 0 → ∃ b, a = some ⟨b, 0, none⟩ ∧ b < w0.heap.size ∧ ∀ j, j < n → w0.cell? ⟨b, j, none⟩ = some (.int .u32 (f j))) (R Q : Value → World → Prop) (hQ : Q = fun _ _ => False) (hR : ∀ w', Same [] w0.heap.size w0 w' → R (.string (showU f n)) w') :
    ∀ (k i : Nat) (w : World), i + k = n → Same [] w0.heap.size w0 w → api_showU32s.L1 a n c (showU f i) (i : Int) R Q w
  | 0, i, w, hi, S => by
    refine api_showU32s.step1 _ _ _ _ _ _ _ _ ?_
    unfold api_showU32s.V1
    obtain rfl : i = n := by omega
    exact cond_false' (decide_eq_false (by omega)) (hR w S)
  | k + 1, i, w, hi, S => by
    subst hQ
    refine api_showU32s.step1 _ _ _ _ _ _ _ _ ?_
    unfold api_showU32s.V1
    refine cond_true' (decide_eq_true (by omega)) ?_
    obtain ⟨b, rfl, lb, row⟩ := hr (by omega)
    have e1 : IntKind.wrap .i64 ((i : Int) + 1) = ((i + 1 : Nat) : Int) := by rw [wrap_i64 (by omega) (by omega)]; omega
    simp only [nilV_some, add_mk, Nat.zero_add, Int.toNat_natCast, Nat.mul_one]
    have u1 := wrapU64 (f i)
    refine ⟨by omega, _, (S.cell (p := ⟨b, i, none⟩) lb (by simp)).trans (row i (by omega)), RunsQ.post (Hex_spec _ 8 w u1.1 u1.2 (by decide) (by decide)) ?_⟩
    rintro v w1 ⟨rfl, S1⟩
    have h1 := showU_size f i
    have h2 := hexOf_size (IntKind.wrap .u64 (f i)) 8 (by decide)
    refine ⟨_, rfl, by (simp only [ByteArray.size_append, bsz, List.size_toArray, List.length_cons, List.length_nil]; omega), by (simp only [ByteArray.size_append, bsz, List.size_toArray, List.length_cons, List.length_nil]; omega), ?_⟩
    rw [e1]
    exact showU32s_loop hn hr R _ rfl hR k (i + 1) w1 (by omega) (S.trans (S1.mono S.size (by simp)))
theorem showU32s_spec {w : World} {a : Option Addr} {n c : Nat} {f : Nat → Int} (hn : n ≤ 1000) (hr : n ≠ 0 → ∃ b, a = some ⟨b, 0, none⟩ ∧ b < w.heap.size ∧ ∀ j, j < n → w.cell? ⟨b, j, none⟩ = some (.int .u32 (f j))) :
    Runs Try.prog api_showU32s.id #[.slice a n c] w fun v w' => v = .string (showU f n) ∧ Same [] w.heap.size w w' := by
  refine api_showU32s.enter _ _ _ _ _ _ ?_
  unfold api_showU32s.V
  exact showU32s_loop hn hr _ _ rfl (fun w' S => ⟨rfl, S⟩) n 0 w (by omega) (Same.refl _ _ _)

end Go.Proofs.Qxb6500316a
