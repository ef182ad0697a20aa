/-
  The encoder's value types, locals, instructions.
-/
import Derived.Test.Qxb6500316aEnB
set_option linter.unusedSimpArgs false
set_option linter.unusedVariables false
set_option maxRecDepth 100000
namespace Go.Proofs.Qxb6500316a
open Go Go.Vc

/-! ### A range over a string of ASCII bytes -/
def Asc (t : ByteArray) : Prop := ∀ j, j < t.size → byteAt t j < 128
theorem decode_asc (t : ByteArray) (p : Nat) (h : p < t.size) (ha : byteAt t p < 128) : Utf8.decode t p = ((byteAt t p).toNat, 1) := by
  have hp : p < t.data.size := h
  have e : (t.get! p).toNat = (byteAt t p).toNat := by
    unfold byteAt
    rw [Int.toNat_natCast]
    simp only [ByteArray.get!, Array.getD_eq_getD_getElem?]
    rw [Array.getElem!_eq_getD, Array.getD_eq_getD_getElem?]
    rfl
  unfold Utf8.decode
  simp only [Nat.add_zero, e]
  rw [if_pos (by omega)]
theorem same_iter (w : World) (r : Nat) (s : ByteArray) (p : Nat) : Same [r] w.heap.size w (Go.Vc.World.iterAt w r s p) :=
  ⟨rfl, rfl, rfl, by simp [World.iterAt], fun k hk hn => by
    simp only [World.iterAt]
    rw [Array.getElem?_setIfInBounds_ne (by simp at hn; omega)]⟩
theorem iter_get (w : World) (r : Nat) (s : ByteArray) (p : Nat) (h : r < w.heap.size) : (Go.Vc.World.iterAt w r s p).heap[r]? = some (.stringIter s p) := by
  simp [World.iterAt, h]

/-! ### vals -/
theorem vals_loop {w0 : World} {wb ib : Nat} {g0 : Option Nat} {L : List Int} (t : ByteArray) (ht : t.size ≤ 1024) (ha : Asc t) (h0 : w0.heap.size ≤ ib) (R Q : Value → World → Prop) (hR : ∀ w' g' u, EW w' wb L g' u → WS w0 w' wb g0 g' → R (.tuple #[]) w') :
    ∀ (k p : Nat) (w : World) (l : List Int) (g : Option Nat) (ev : Value), p + k = t.size → EW w wb l g ev → WS w0 w wb g0 g → w.heap[ib]? = some (.stringIter t p) → ib < w.heap.size → ib ≠ wb → g ≠ some ib → l.length + k ≤ 1000000 → L = l ++ (bytesOf t).drop p → bin_writer_vals.L1 (some ⟨wb, 0, none⟩) ib R Q w := by
  intro k
  induction k with
  | zero =>
    intro p w l g ev hp h hS hi hl hn hg hb hL
    refine bin_writer_vals.step1 _ _ _ _ _ ?_
    unfold bin_writer_vals.V1
    refine ⟨_, _, hi, cond_false' (by rw [← Bool.not_eq_true, Nat.blt_eq]; omega) ?_⟩
    have : L = l := by rw [hL, List.drop_eq_nil_of_le (by rw [bytesOf_length]; omega), List.append_nil]
    rw [← this] at h
    exact hR w g ev h hS
  | succ k ih =>
    intro p w l g ev hp h hS hi hl hn hg hb hL
    refine bin_writer_vals.step1 _ _ _ _ _ ?_
    unfold bin_writer_vals.V1
    refine ⟨_, _, hi, cond_true' (by rw [Nat.blt_eq]; omega) ?_⟩
    have hbr := byte_rng t p
    have hd := decode_asc t p (by omega) (ha p (by omega))
    rw [hd]
    refine letW_intro fun w3 hw3 => ?_
    have S3 : Same [ib] w.heap.size w w3 := by rw [hw3]; exact same_iter _ _ _ _
    have i3 : w3.heap[ib]? = some (.stringIter t (p + 1)) := by rw [hw3]; exact iter_get _ _ _ _ hl
    have h3 := h.same S3 (by simp; omega) (fun k hk => by simp; rintro rfl; exact hg hk)
    have W3 : WS w0 w3 wb g0 g := ⟨hS.og, hS.S.trans (S3.mono hS.S.size (by intro j hj hlt; simp at hj; omega))⟩
    have e0 : IntKind.wrap .u8 ((((byteAt t p).toNat, 1).1 : Nat) : Int) = byteAt t p := by
      show IntKind.wrap .u8 (((byteAt t p).toNat : Nat) : Int) = _
      rw [Int.toNat_of_nonneg hbr.1, wrap_u8 hbr.1 hbr.2]
    rw [e0]
    refine put1 h3 _ (by omega) (fun w' g' u hE hS' => ?_)
    have l3 : ib < w3.heap.size := by have := S3.size; omega
    refine ih (p + 1) w' _ g' u (by omega) hE (W3.trans hS') ?_ (by have := hS'.S.size; omega) hn (hS'.gne l3 hg) (by simp; omega) ?_
    · rw [hS'.S.block ib l3 (hS'.not hn hg)]; exact i3
    · rw [hL, bytesOf_drop t p (by omega), List.append_assoc]
      rfl
theorem vals_spec {w : World} {wb : Nat} {l : List Int} {g : Option Nat} {ev : Value} (h : EW w wb l g ev) (t : ByteArray) (ht : t.size ≤ 1024) (ha : Asc t) (hb : l.length + 10 + t.size ≤ 1000000) : Writes bin_writer_vals.id #[rp wb, .string t] w wb l g (rawE t) := by
  refine bin_writer_vals.enter _ _ _ _ _ ?_
  unfold bin_writer_vals.V
  rw [wrap_u64 (x := ((ByteArray.size t : Nat) : Int)) (by omega) (by omega)]
  refine (u_spec h _ (by omega) (by omega) (by omega)).into (fun w1 g1 u1 hE1 hS1 => ⟨rfl, letB_intro fun ib hib => letW_intro fun w2 hw2 => ?_⟩)
  have hl := uleb_len (t.size : Int)
  have S2 : Same [] w1.heap.size w1 w2 := by rw [hw2]; exact (Same.refl _ _ _).alloc (Nat.le_refl _) _
  have sz := hS1.S.size
  have hE2 := hE1.same S2 (by simp) (by simp)
  have l1 := hE1.lt
  refine vals_loop t ht ha (ib := ib) (w0 := w) (by omega) _ _ (fun w' g' u hE hS => ⟨rfl, g', u, hE, hS⟩) t.size 0 w2 _ g1 u1 (by omega) hE2 (hS1.trans (WS.of wb g1 S2)) ?_ ?_ (by omega) ?_ (by simp; omega) (by unfold rawE; rw [List.drop_zero, List.append_assoc])
  · rw [hw2, hib]; exact heap_alloc_new w1 _
  · rw [hw2, hib]; simp
  · intro e
    have := hE1.glt _ e
    omega

/-! ### locals -/
def runsF (t : ByteArray) : Nat → Nat → Int → Int
  | 0, _, r => r
  | k + 1, i, r => runsF t k (i + 1) (if i = 0 ∨ byteAt t (i - 1) ≠ byteAt t i then r + 1 else r)
theorem runsF_succ (t : ByteArray) (k i : Nat) (r : Int) : runsF t (k + 1) i r = runsF t k (i + 1) (if i = 0 ∨ byteAt t (i - 1) ≠ byteAt t i then r + 1 else r) := rfl
def grpF (t : ByteArray) : Nat → Nat → Int → List Int
  | 0, _, _ => []
  | k + 1, i, n => if i + 1 = t.size ∨ byteAt t (i + 1) ≠ byteAt t i then uleb (n + 1) ++ [byteAt t i] ++ grpF t k (i + 1) 0 else grpF t k (i + 1) (n + 1)
theorem grpF_succ (t : ByteArray) (k i : Nat) (n : Int) : grpF t (k + 1) i n = if i + 1 = t.size ∨ byteAt t (i + 1) ≠ byteAt t i then uleb (n + 1) ++ [byteAt t i] ++ grpF t k (i + 1) 0 else grpF t k (i + 1) (n + 1) := rfl
def locE (t : ByteArray) : List Int := uleb (runsF t t.size 0 0) ++ grpF t t.size 0 0
theorem runsF_rng (t : ByteArray) : ∀ (k i : Nat) (r : Int), r ≤ runsF t k i r ∧ runsF t k i r ≤ r + k
  | 0, i, r => by simp [runsF]
  | k + 1, i, r => by
    rw [runsF_succ]
    split
    · have := runsF_rng t k (i + 1) (r + 1)
      omega
    · have := runsF_rng t k (i + 1) r
      omega
theorem grpF_len (t : ByteArray) : ∀ (k i : Nat) (n : Int), (grpF t k i n).length ≤ 11 * k
  | 0, _, _ => by simp [grpF]
  | k + 1, i, n => by
    rw [grpF_succ]
    split
    · have := grpF_len t k (i + 1) 0
      have := uleb_len (n + 1)
      simp only [List.length_append, List.length_cons, List.length_nil]; omega
    · have := grpF_len t k (i + 1) (n + 1)
      omega

theorem locals_loop2 {w0 : World} {wb ib : Nat} {g0 : Option Nat} {L : List Int} (t : ByteArray) (ht : t.size ≤ 1024) (ha : Asc t) (h0 : w0.heap.size ≤ ib) (R Q : Value → World → Prop) (hR : ∀ w' g' u, EW w' wb L g' u → WS w0 w' wb g0 g' → R (.tuple #[]) w') :
    ∀ (k p : Nat) (n : Int) (w : World) (l : List Int) (g : Option Nat) (ev : Value), p + k = t.size → 0 ≤ n → n ≤ p → EW w wb l g ev → WS w0 w wb g0 g → w.heap[ib]? = some (.stringIter t p) → ib < w.heap.size → ib ≠ wb → g ≠ some ib → l.length + 11 * k ≤ 1000000 → L = l ++ grpF t k p n → bin_writer_locals.L3 (some ⟨wb, 0, none⟩) t n ib R Q w := by
  intro k
  induction k with
  | zero =>
    intro p n w l g ev hp _ _ h hS hi hl hn hg hb hL
    refine bin_writer_locals.step3 _ _ _ _ _ _ _ ?_
    unfold bin_writer_locals.V3
    refine ⟨_, _, hi, cond_false' (by rw [← Bool.not_eq_true, Nat.blt_eq]; omega) ?_⟩
    have : L = l := by rw [hL]; simp [grpF]
    rw [← this] at h
    exact hR w g ev h hS
  | succ k ih =>
    intro p n w l g ev hp n0 n1 h hS hi hl hn hg hb hL
    refine bin_writer_locals.step3 _ _ _ _ _ _ _ ?_
    unfold bin_writer_locals.V3
    refine ⟨_, _, hi, cond_true' (by rw [Nat.blt_eq]; omega) ?_⟩
    have hbr := byte_rng t p
    have hd := decode_asc t p (by omega) (ha p (by omega))
    rw [hd]
    refine letW_intro fun w3 hw3 => ?_
    have S3 : Same [ib] w.heap.size w w3 := by rw [hw3]; exact same_iter _ _ _ _
    have i3 : w3.heap[ib]? = some (.stringIter t (p + 1)) := by rw [hw3]; exact iter_get _ _ _ _ hl
    have h3 := h.same S3 (by simp; omega) (fun k hk => by simp; rintro rfl; exact hg hk)
    have W3 : WS w0 w3 wb g0 g := ⟨hS.og, hS.S.trans (S3.mono hS.S.size (by intro j hj hlt; simp at hj; omega))⟩
    have l3 : ib < w3.heap.size := by have := S3.size; omega
    have e0 : ((((byteAt t p).toNat, 1).1 : Nat) : Int) = byteAt t p := by
      show (((byteAt t p).toNat : Nat) : Int) = _
      rw [Int.toNat_of_nonneg hbr.1]
    have e1 : IntKind.wrap .i64 (((p : Nat) : Int) + 1) = ((p + 1 : Nat) : Int) := by rw [wrap_i64 (by omega) (by omega)]; omega
    have e2 : IntKind.wrap .i64 (n + 1) = n + 1 := wrap_i64 (by omega) (by omega)
    have eb : IntKind.wrap .u8 (byteAt t p) = byteAt t p := wrap_u8 hbr.1 hbr.2
    rw [e0, e1, e2, eb, Int.toNat_natCast]
    rw [grpF_succ] at hL
    have go : (p + 1 = t.size ∨ byteAt t (p + 1) ≠ byteAt t p) → bin_writer_locals.L4 (some ⟨wb, 0, none⟩) t (n + 1) (byteAt t p) ib true R Q w3 := by
      intro hc
      rw [if_pos hc] at hL
      refine bin_writer_locals.step4 _ _ _ _ _ _ _ _ _ ?_
      unfold bin_writer_locals.V4
      refine cond_true' rfl ?_
      rw [wrap_u64 (x := n + 1) (by omega) (by omega), eb]
      refine (u_spec h3 (n + 1) (by omega) (by omega) (by omega)).into (fun w4 g4 u4 hE4 hS4 => ⟨rfl, ?_⟩)
      have q := uleb_len (n + 1)
      refine put1 hE4 _ (by simp; omega) (fun w5 g5 u5 hE5 hS5 => ?_)
      have S35 := hS4.trans hS5
      have W5 := W3.trans S35
      refine ih (p + 1) 0 w5 _ g5 u5 (by omega) (Int.le_refl _) (by omega) hE5 W5 ?_ (by have := S35.S.size; omega) hn (S35.gne l3 hg) (by simp; omega) ?_
      · rw [S35.S.block ib l3 (S35.not hn hg)]; exact i3
      · rw [hL]; simp [List.append_assoc]
    by_cases c1 : p + 1 = t.size
    · refine cond_true' (beq_eq' (by omega)) (go (.inl c1))
    · refine cond_false' (beq_ne (by omega)) ⟨by omega, ?_⟩
      by_cases c2 : byteAt t (p + 1) = byteAt t p
      · rw [if_neg (by rintro (g1 | g1); exact c1 g1; exact g1 c2)] at hL
        have : (byteAt t (p + 1) != byteAt t p) = false := by rw [c2]; simp
        rw [this]
        refine bin_writer_locals.step4 _ _ _ _ _ _ _ _ _ ?_
        unfold bin_writer_locals.V4
        refine cond_false' rfl ?_
        exact ih (p + 1) (n + 1) w3 l g ev (by omega) (by omega) (by omega) h3 W3 i3 l3 hn hg (by omega) hL
      · have : (byteAt t (p + 1) != byteAt t p) = true := bne_iff_ne.2 c2
        rw [this]
        exact go (.inr c2)

theorem locals_loop1 {w0 : World} {wb ib : Nat} {g0 : Option Nat} {rr : Int} (t : ByteArray) (ht : t.size ≤ 1024) (ha : Asc t) (h0 : w0.heap.size ≤ ib) (R Q : Value → World → Prop)
    {l : List Int} {ev : Value} (hR : ∀ w', EW w' wb l g0 ev → Same [] w0.heap.size w0 w' → RunsQ Try.prog bin_writer_u.id #[rp wb, .int .u64 (IntKind.wrap .u64 rr)] w' (fun r8 w9 => (r8 = (.tuple #[]) ∧ (letB (Array.size (World.heap w9)) fun b10 => letW (World.alloc w9 (.stringIter t 0)) fun w11 => (bin_writer_locals.L3 (some ⟨wb, 0, none⟩) t 0 b10 R Q w11)))) Q) :
    ∀ (k p : Nat) (n : Int) (w : World), p + k = t.size → 0 ≤ n → n ≤ p → EW w wb l g0 ev → Same [] w0.heap.size w0 w → w.heap[ib]? = some (.stringIter t p) → ib < w.heap.size → ib ≠ wb → g0 ≠ some ib → rr = runsF t k p n → bin_writer_locals.L1 (some ⟨wb, 0, none⟩) t n ib R Q w := by
  intro k
  induction k with
  | zero =>
    intro p n w hp _ _ h hS hi hl hn hg hr
    refine bin_writer_locals.step1 _ _ _ _ _ _ _ ?_
    unfold bin_writer_locals.V1
    refine ⟨_, _, hi, cond_false' (by rw [← Bool.not_eq_true, Nat.blt_eq]; omega) ?_⟩
    have : rr = n := hr
    rw [← this]
    exact hR w h hS
  | succ k ih =>
    intro p n w hp n0 n1 h hS hi hl hn hg hr
    refine bin_writer_locals.step1 _ _ _ _ _ _ _ ?_
    unfold bin_writer_locals.V1
    refine ⟨_, _, hi, cond_true' (by rw [Nat.blt_eq]; omega) ?_⟩
    have hbr := byte_rng t p
    have hd := decode_asc t p (by omega) (ha p (by omega))
    rw [hd]
    refine letW_intro fun w3 hw3 => ?_
    have S3 : Same [ib] w.heap.size w w3 := by rw [hw3]; exact same_iter _ _ _ _
    have i3 : w3.heap[ib]? = some (.stringIter t (p + 1)) := by rw [hw3]; exact iter_get _ _ _ _ hl
    have h3 := h.same S3 (by simp; omega) (fun k hk => by simp; rintro rfl; exact hg hk)
    have W3 : Same [] w0.heap.size w0 w3 := hS.trans (S3.mono hS.size (by intro j hj hlt; simp at hj; omega))
    have l3 : ib < w3.heap.size := by have := S3.size; omega
    have e0 : IntKind.wrap .u8 ((((byteAt t p).toNat, 1).1 : Nat) : Int) = byteAt t p := by
      show IntKind.wrap .u8 (((byteAt t p).toNat : Nat) : Int) = _
      rw [Int.toNat_of_nonneg hbr.1, wrap_u8 hbr.1 hbr.2]
    rw [e0]
    rw [runsF_succ] at hr
    have L2 : ∀ tt : Bool, (tt = true ↔ (p = 0 ∨ byteAt t (p - 1) ≠ byteAt t p)) → bin_writer_locals.L2 (some ⟨wb, 0, none⟩) t n ib tt R Q w3 := by
      intro tt htt
      refine bin_writer_locals.step2 _ _ _ _ _ _ _ _ ?_
      unfold bin_writer_locals.V2
      refine cond_intro (fun gt => ?_) (fun gt => ?_)
      · rw [if_pos (htt.1 gt)] at hr
        rw [wrap_i64 (x := n + 1) (by omega) (by omega)]
        exact ih (p + 1) (n + 1) w3 (by omega) (by omega) (by omega) h3 W3 i3 l3 hn hg hr
      · rw [if_neg (fun u => by rw [htt.2 u] at gt; cases gt)] at hr
        exact ih (p + 1) n w3 (by omega) (by omega) (by omega) h3 W3 i3 l3 hn hg hr
    by_cases c0 : p = 0
    · exact cond_true' (beq_eq' (by omega)) (L2 true ⟨fun _ => .inl c0, fun _ => rfl⟩)
    · have e1 : IntKind.wrap .i64 (((p : Nat) : Int) - 1) = ((p - 1 : Nat) : Int) := by rw [wrap_i64 (by omega) (by omega)]; omega
      rw [e1, Int.toNat_natCast]
      refine cond_false' (beq_ne (by omega)) ⟨by omega, L2 _ ?_⟩
      constructor
      · intro u; exact .inr (bne_iff_ne.1 u)
      · rintro (u | u)
        · exact absurd u c0
        · exact bne_iff_ne.2 u

theorem locals_enc {w : World} {wb : Nat} {l : List Int} {g : Option Nat} {ev : Value} (h : EW w wb l g ev) (t : ByteArray) (ht : t.size ≤ 1024) (ha : Asc t) (hb : l.length + 10 + 11 * t.size ≤ 1000000) : Writes bin_writer_locals.id #[rp wb, .string t] w wb l g (locE t) := by
  refine bin_writer_locals.enter _ _ _ _ _ ?_
  unfold bin_writer_locals.V
  refine letB_intro fun ib hib => letW_intro fun w2 hw2 => ?_
  have S2 : Same [] w.heap.size w w2 := by rw [hw2]; exact (Same.refl _ _ _).alloc (Nat.le_refl _) _
  have h2 := h.same S2 (by simp) (by simp)
  have l1 := h.lt
  have hgi : g ≠ some ib := fun e => by have := h.glt _ e; omega
  obtain ⟨r0, r1⟩ := runsF_rng t t.size 0 0
  refine locals_loop1 (rr := runsF t t.size 0 0) (w0 := w) t ht ha (by omega) _ _ (l := l) (ev := ev) (fun w' hE hS => ?_) t.size 0 0 w2 (by omega) (Int.le_refl _) (by omega) h2 S2 (by rw [hw2, hib]; exact heap_alloc_new w _) (by rw [hw2, hib]; simp) (by omega) hgi rfl
  rw [wrap_u64 (x := runsF t t.size 0 0) (by omega) (by omega)]
  refine (u_spec hE _ (by omega) (by omega) (by omega)).into (fun w3 g3 u3 hE3 hS3 => ⟨rfl, letB_intro fun jb hjb => letW_intro fun w4 hw4 => ?_⟩)
  have q := uleb_len (runsF t t.size 0 0)
  have S4 : Same [] w3.heap.size w3 w4 := by rw [hw4]; exact (Same.refl _ _ _).alloc (Nat.le_refl _) _
  have hE4 := hE3.same S4 (by simp) (by simp)
  have W3 : WS w w3 wb g g3 := (WS.of wb g hS).trans hS3
  have sz3 := W3.S.size
  have l3 := hE3.lt
  refine locals_loop2 t ht ha (ib := jb) (w0 := w) (by omega) _ _ (fun w' g' u hE hS => ⟨rfl, g', u, hE, hS⟩) t.size 0 0 w4 _ g3 u3 (by omega) (Int.le_refl _) (by omega) hE4 (W3.trans (WS.of wb g3 S4)) (by rw [hw4, hjb]; exact heap_alloc_new w3 _) (by rw [hw4, hjb]; simp) (by omega) (fun e => by have := hE3.glt _ e; omega) (by simp; omega) (by unfold locE; rw [List.append_assoc])

end Go.Proofs.Qxb6500316a
