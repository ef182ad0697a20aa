/-
  Rows made and copied; the locals; a body.
-/
import Derived.Test.Qxb6500317aGreatDcE
set_option linter.unusedSimpArgs false
set_option linter.unusedVariables false
set_option maxRecDepth 100000
namespace Go.Proofs.Qxb6500317aGreat
open Go Go.Vc

theorem make_rows {P : Program} {t e : TypeId} {i : TypeInfo} {z : Value} {size bytes : Nat} (hE : Elem P t e i z size bytes) (w : World) (n : Nat) (hn : n ≤ 1000) (hb : bytes ≤ 1000) :
    ∃ w1, (Instr.makeSlice t (.int .i64 (n : Int)) (.int .i64 (n : Int))).run P w = .ok (.slice (some ⟨w.heap.size, 0, none⟩) n n) w1 ∧ (∀ j, j < n * size → w1.cell? ⟨w.heap.size, j, none⟩ = some (z.cells[j % size]!)) ∧
      (∀ j, w1.frozen? ⟨w.heap.size, j, none⟩ = false) ∧ Same [] w.heap.size w w1 ∧ w.heap.size < w1.heap.size := by
  have hmul : bytes * n ≤ 1000 * 1000 := Nat.mul_le_mul hb hn
  have hr := run_make (P := P) w t e i z hE.ht hE.hi hE.hz .i64 .i64 (n : Int) (n : Int) (by omega) (Int.le_refl _) (by
    rw [hE.hby]
    have : ((bytes * n : Nat) : Int) ≤ 1000000 := by omega
    rw [Int.natCast_mul] at this; omega) (by omega)
  refine ⟨_, by rw [hr, Int.toNat_natCast], fun j hj => ?_, fun j => by rw [World.frozen?_alloc_new], (Same.refl _ _ _).alloc (Nat.le_refl _) _, by simp⟩
  rw [World.cell?_alloc_new, hE.hsize]
  have h1 : j < (madeCells z.cells (n * size)).size := by rw [size_madeCells]; exact hj
  show (madeCells z.cells (n * size))[j]? = _
  rw [Array.getElem?_eq_getElem h1]
  simp [madeCells, hE.hzs]

theorem copy_rows {P : Program} {t e : TypeId} {i : TypeInfo} {z : Value} {size bytes : Nat} (hE : Elem P t e i z size bytes) (ty : TypeId) (w : World) (b dl dc sb sl sc : Nat) (cs : List Value) (hn : cs.length = Nat.min sl dl * size)
    (hsrc : ∀ j v, cs[j]? = some v → w.cell? ⟨sb, j, none⟩ = some v) (hc : ∀ j, j < cs.length → can w ⟨b, j, none⟩) (h1 : ∀ v ∈ cs, v.oneCell' = true) :
    ∃ w', (Builtin.copy_ #[t, t] ty #[.slice (some ⟨b, 0, none⟩) dl dc, .slice (some ⟨sb, 0, none⟩) sl sc]).run P w = .ok (.int .i64 ((Nat.min sl dl : Nat) : Int)) w' ∧ Fill w w' b 0 cs := by
  obtain ⟨w', hr, hF⟩ := storeCells_fill (P := P) b 0 cs 0 w h1 (fun j hj => by simpa using hc j hj)
  rw [Nat.add_zero] at hF
  refine ⟨w', ?_, hF⟩
  have hl := run_loadCells_list (P := P) w ⟨sb, 0, none⟩ cs (fun j v hj => by rw [add_mk, Nat.zero_add]; exact hsrc j v hj)
  rw [hn] at hl
  simp [Builtin.copy_, run_underlying hE.ht, Builtin.lenOf, Builtin.firstCells, sizeOf, typeInfo, hE.hi, hE.hsize, hl, hr, goInt]

/-! ### locals -/
def localsL (s : ByteArray) (e : Nat) : Nat → List Int → Nat → Res (List Int)
  | 0, acc, p => .ok acc p
  | k + 1, acc, p => (countP s e (6 - (acc.length : Int)) p).bind fun n q => (valtypeP s e q).bind fun t q2 => localsL s e k (acc ++ List.replicate n t) q2
theorem localsL_succ (s : ByteArray) (e k : Nat) (acc : List Int) (p : Nat) : localsL s e (k + 1) acc p = (countP s e (6 - (acc.length : Int)) p).bind fun n q => (valtypeP s e q).bind fun t q2 => localsL s e k (acc ++ List.replicate n t) q2 := rfl
def localsP (s : ByteArray) (e p : Nat) : Res (List Int) := (countP s e 6 p).bind fun g q => localsL s e g [] q

/-- The locals gathered so far. -/
structure LsAt (w : World) (lb : Nat) (acc : List Int) : Prop where
  c : ∀ j, j < 6 → ∃ x, w.cell? ⟨lb, j, none⟩ = some (.int .u8 x) ∧ (j < acc.length → x = acc.getD j 0)
  f : ∀ j, w.frozen? ⟨lb, j, none⟩ = false
theorem LsAt.lt {w : World} {lb : Nat} {acc : List Int} (h : LsAt w lb acc) : lb < w.heap.size := by obtain ⟨x, hx, _⟩ := h.c 0 (by decide); exact cell_lt hx
theorem LsAt.same {w w' : World} {lb : Nat} {acc : List Int} (h : LsAt w lb acc) {S : List Nat} {B : Nat} (hs : Same S B w w') (hb : lb < B) (hS : lb ∉ S) : LsAt w' lb acc :=
  ⟨fun j hj => by rw [hs.cell hb hS]; exact h.c j hj, fun j => by rw [hs.frozen hb hS]; exact h.f j⟩
theorem LsAt.set {w : World} {lb : Nat} {acc : List Int} (h : LsAt w lb acc) (hl : acc.length < 6) (t : Int) : LsAt (w.setCell ⟨lb, acc.length, none⟩ (.int .u8 t)) lb (acc ++ [t]) := by
  refine ⟨fun j hj => ?_, fun j => by simpa using h.f j⟩
  obtain ⟨x, hx, hx2⟩ := h.c j hj
  rw [cell_setCell]
  by_cases hjk : j = acc.length
  · refine ⟨t, by rw [if_pos ⟨rfl, hjk⟩, hx]; rfl, fun _ => ?_⟩
    subst hjk; simp [List.getD]
  · refine ⟨x, by rw [if_neg (by omega)]; exact hx, fun h2 => ?_⟩
    have : j < acc.length := by simp at h2; omega
    rw [hx2 this]; simp [List.getD, List.getElem?_append_left this]

theorem locals_inner {w0 : World} {rb lb : Nat} {s : ByteArray} {p e b g gs : Nat} (R Q : Value → World → Prop) (k : Nat) (t : Int) (acc0 : List Int) (hk : acc0.length + k ≤ 6)
    (next : ∀ w, LsAt w lb (acc0 ++ List.replicate k t) → Same [lb] w0.heap.size w0 w → bin_reader_locals.L1 (some ⟨rb, 0, none⟩) lb ((acc0 ++ List.replicate k t).length : Int) gs ((g + 1 : Nat) : Int) R Q w) (hg : g ≤ 100) :
    ∀ (m j : Nat) (w : World), j + m = k → LsAt w lb (acc0 ++ List.replicate j t) → Same [lb] w0.heap.size w0 w → bin_reader_locals.L2 (some ⟨rb, 0, none⟩) lb ((acc0 ++ List.replicate j t).length : Int) gs g k t j R Q w := by
  intro m
  induction m with
  | zero =>
    intro j w hj hL hS
    have : j = k := by omega
    subst this
    refine bin_reader_locals.step2 _ _ _ _ _ _ _ _ _ _ _ ?_
    unfold bin_reader_locals.V2
    refine cond_false' (decide_eq_false (by omega)) ?_
    have e1 : IntKind.wrap .i64 ((g : Int) + 1) = ((g + 1 : Nat) : Int) := by rw [wrap_i64 (by omega) (by omega)]; omega
    rw [e1]
    exact next w hL hS
  | succ m ih =>
    intro j w hj hL hS
    have hlen : (acc0 ++ List.replicate j t).length = acc0.length + j := by simp
    refine bin_reader_locals.step2 _ _ _ _ _ _ _ _ _ _ _ ?_
    unfold bin_reader_locals.V2
    refine cond_true' (decide_eq_true (by omega)) ⟨by rw [hlen]; omega, ?_⟩
    rw [Int.toNat_natCast, add_mk, Nat.zero_add, Nat.mul_one]
    obtain ⟨x, hx, _⟩ := hL.c (acc0 ++ List.replicate j t).length (by rw [hlen]; omega)
    refine ⟨⟨⟨_, hx⟩, hL.f _⟩, letW_intro fun w1 hw1 => ?_⟩
    have hL1 : LsAt w1 lb (acc0 ++ List.replicate (j + 1) t) := by
      rw [hw1]
      have := hL.set (by rw [hlen]; omega) t
      rwa [List.append_assoc, ← List.replicate_succ'] at this
    have e1 : IntKind.wrap .i64 (((acc0 ++ List.replicate j t).length : Int) + 1) = ((acc0 ++ List.replicate (j + 1) t).length : Int) := by
      have : (acc0 ++ List.replicate (j + 1) t).length = acc0.length + (j + 1) := by simp
      rw [hlen, this, wrap_i64 (by omega) (by omega)]; omega
    have e2 : IntKind.wrap .i64 ((j : Int) + 1) = ((j + 1 : Nat) : Int) := by rw [wrap_i64 (by omega) (by omega)]; omega
    rw [e1, e2]
    exact ih (j + 1) w1 (by omega) hL1 (by rw [hw1]; exact hS.setCell (.inr (by simp)) _)

theorem locals_loop {w0 : World} {rb lb : Nat} {s : ByteArray} {p0 e b gs : Nat} (r : Res (List Int)) (hrb : rb < w0.heap.size) (hlb : w0.heap.size ≤ lb) (hgs : gs ≤ 100) :
    ∀ (k : Nat) (acc : List Int) (p : Nat) (w : World), k ≤ gs → acc.length ≤ 6 → RdAt w rb s p e b → Txt s p e → p0 ≤ p → LsAt w lb acc → Same [rb] w0.heap.size w0 w → r = localsL s e k acc p →
      bin_reader_locals.L1 (some ⟨rb, 0, none⟩) lb (acc.length : Int) gs ((gs - k : Nat) : Int) (fun v w' => ∃ a q, r = .ok a q ∧ v = Value.string (strOfNums a) ∧ p0 ≤ q ∧ q ≤ e ∧ RdAt w' rb s q e b ∧ Same [rb] w0.heap.size w0 w')
        (fun v w' => ∃ c a, r = .err c a ∧ v = faultV c a ∧ Same [rb] w0.heap.size w0 w') w := by
  intro k
  induction k with
  | zero =>
    intro acc p w _ hacc h t hp hL hS hr
    refine bin_reader_locals.step1 _ _ _ _ _ _ _ _ ?_
    unfold bin_reader_locals.V1
    refine cond_false' (decide_eq_false (by omega)) ⟨by omega, ?_⟩
    have esl : slAddr (some ⟨lb, 0, none⟩) 0 6 1 = some ⟨lb, 0, none⟩ := by rw [slAddr_lt (by decide)]
    rw [esl, Int.toNat_natCast, Nat.sub_zero]
    refine ⟨_, w, run_convert_bytes_arg w T_sl_uint8 (5 : Nat) (by kernel_rfl) (by kernel_rfl) lb 0 acc.length 6 acc rfl (fun j hj => ?_) T_string (by kernel_rfl), acc, p, hr, rfl, hp, t.pe, h, hS⟩
    obtain ⟨x, hx, hx2⟩ := hL.c j (by omega)
    rw [Nat.zero_add, hx, hx2 hj]
  | succ k ih =>
    intro acc p w hk hacc h t hp hL hS hr
    rw [localsL_succ] at hr
    refine bin_reader_locals.step1 _ _ _ _ _ _ _ _ ?_
    unfold bin_reader_locals.V1
    refine cond_true' (decide_eq_true (by omega)) ?_
    have e1 : IntKind.wrap .i64 (6 - (acc.length : Int)) = 6 - (acc.length : Int) := wrap_i64 (by omega) (by omega)
    rw [e1]
    refine (count_spec h t _).into (fun n q w1 hn h1 h2 hR hS1 => ⟨_, rfl, ?_⟩) (fun c a w1 hn hS1 => ⟨c, a, by rw [hr, hn]; rfl, rfl, hS.trans (hS1.mono hS.size (by simp))⟩)
    have hle := countP_le hn
    have S1 := hS.trans (hS1.mono hS.size (by simp))
    have hL1 := hL.same hS1 hL.lt (by simp; omega)
    refine (valtype_spec hR ⟨h2, t.es, t.sz⟩).into (fun ty q2 w2 hy g1 g2 gR gS => ⟨_, rfl, ?_⟩) (fun c a w2 hy gS => ⟨c, a, by rw [hr, hn]; simp only [Res.bind]; rw [hy], rfl, S1.trans (gS.mono S1.size (by simp))⟩)
    have S2 := S1.trans (gS.mono S1.size (by simp))
    have hL2 := hL1.same gS hL1.lt (by simp; omega)
    have hr2 : r = localsL s e k (acc ++ List.replicate n ty) q2 := by rw [hr, hn]; simp only [Res.bind]; rw [hy]
    have hll := hL2.lt
    have key := locals_inner (w0 := w2) (rb := rb) (lb := lb) (s := s) (p := p) (e := e) (b := b) (g := gs - (k + 1)) (gs := gs) (fun v w' => ∃ a q, r = .ok a q ∧ v = Value.string (strOfNums a) ∧ p0 ≤ q ∧ q ≤ e ∧ RdAt w' rb s q e b ∧ Same [rb] w0.heap.size w0 w')
        (fun v w' => ∃ c a, r = .err c a ∧ v = faultV c a ∧ Same [rb] w0.heap.size w0 w') n ty acc (by omega) (fun w3 hL3 hS3 => by
          have eg : gs - (k + 1) + 1 = gs - k := by omega
          rw [eg]
          exact ih _ q2 w3 (by omega) (by simp; omega) (gR.same hS3 gR.lt (by simp; omega)) ⟨g2, t.es, t.sz⟩ (by omega) hL3 (S2.trans (hS3.mono S2.size (by intro x hx hlt; simp at hx; omega))) hr2) (by omega) n 0 w2 (by omega) (by simpa using hL2) (Same.refl _ _ _)
    have e0 : (acc ++ List.replicate 0 ty).length = acc.length := by simp
    rw [e0] at key
    exact key

theorem locals_spec {w : World} {rb : Nat} {s : ByteArray} {p e b : Nat} (h : RdAt w rb s p e b) (t : Txt s p e) : Reads bin_reader_locals.id #[rp rb] w rb s p e b [] (localsP s e p) (fun a => Value.string (strOfNums a)) := by
  refine bin_reader_locals.enter _ _ _ _ ?_
  unfold bin_reader_locals.V
  refine letB_intro fun lb hlb => letW_intro fun w3 hw3 => ?_
  have hS3 : Same [] w.heap.size w w3 := by rw [hw3]; exact (Same.refl _ _ _).alloc (Nat.le_refl _) _
  have hL : LsAt w3 lb [] := by
    refine ⟨fun j hj => ⟨0, ?_, fun g => absurd g (by simp)⟩, fun j => by rw [hw3, hlb, World.frozen?_alloc_new]⟩
    rw [hw3, hlb, World.cell?_alloc_new]
    have : j = 0 ∨ j = 1 ∨ j = 2 ∨ j = 3 ∨ j = 4 ∨ j = 5 := by omega
    rcases this with rfl | rfl | rfl | rfl | rfl | rfl <;> rfl
  have hlb' : w.heap.size ≤ lb := by omega
  clear hw3 hlb
  have hrl := h.lt
  have h3 := h.same hS3 h.lt (by simp)
  have S3 : Same [rb] w.heap.size w w3 := hS3.mono (Nat.le_refl _) (by simp)
  refine (count_spec h3 t 6).into (fun n q w' hn h1 h2 hR hS => ⟨_, rfl, ?_⟩) (fun c a w' hn hS => ⟨c, a, by unfold localsP; rw [hn]; rfl, rfl, S3.trans (hS.mono S3.size (by simp))⟩)
  have hle := countP_le hn
  have S4 := S3.trans (hS.mono S3.size (by simp))
  have key := locals_loop (w0 := w) (p0 := p) (gs := n) (b := b) (localsP s e p) hrl hlb' (by omega) n [] q w' (Nat.le_refl _) (by simp) hR ⟨h2, t.es, t.sz⟩ h1 (hL.same hS hL.lt (by simp; omega)) S4 (by unfold localsP; rw [hn]; rfl)
  rw [Nat.sub_self] at key
  exact key

end Go.Proofs.Qxb6500317aGreat
