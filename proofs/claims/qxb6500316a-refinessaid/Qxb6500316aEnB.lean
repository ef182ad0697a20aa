/-
  The encoder's numbers and strings.
-/
import Derived.Test.Qxb6500316aEnA
set_option linter.unusedSimpArgs false
set_option linter.unusedVariables false
set_option maxRecDepth 100000
namespace Go.Proofs.Qxb6500316a
open Go Go.Vc

/-! ### u -/
def ulebF : Nat → Int → List Int
  | 0, _ => []
  | k + 1, v => if 128 ≤ v then bOr .u8 (IntKind.wrap .u8 v) 128 :: ulebF k (Int.fdiv v (2 ^ (7 : Nat))) else [IntKind.wrap .u8 v]
theorem ulebF_succ (k : Nat) (v : Int) : ulebF (k + 1) v = if 128 ≤ v then bOr .u8 (IntKind.wrap .u8 v) 128 :: ulebF k (Int.fdiv v (2 ^ (7 : Nat))) else [IntKind.wrap .u8 v] := rfl
def uleb (v : Int) : List Int := ulebF 10 v
theorem ulebF_len : ∀ k v, (ulebF k v).length ≤ k
  | 0, _ => Nat.le_refl _
  | k + 1, v => by
    rw [ulebF_succ]
    split
    · have := ulebF_len k (Int.fdiv v (2 ^ (7 : Nat)))
      rw [List.length_cons]; omega
    · simp
theorem uleb_len (v : Int) : (uleb v).length ≤ 10 := ulebF_len 10 v
theorem fdiv128 (v : Int) : Int.fdiv v (2 ^ (7 : Nat)) = v / 128 := by
  have e : (2 : Int) ^ (7 : Nat) = 128 := by decide
  rw [e, Int.fdiv_eq_ediv_of_nonneg _ (by decide)]

theorem u_loop {w0 : World} {wb : Nat} {g0 : Option Nat} {L : List Int} (R Q : Value → World → Prop) (hR : ∀ w' g' u, EW w' wb L g' u → WS w0 w' wb g0 g' → R (.tuple #[]) w') :
    ∀ (k : Nat) (v : Int) (w : World) (l : List Int) (g : Option Nat) (ev : Value), EW w wb l g ev → WS w0 w wb g0 g → 0 ≤ v → v < 128 ^ k → 1 ≤ k → l.length + k ≤ 1000000 → L = l ++ ulebF k v → bin_writer_u.L1 (some ⟨wb, 0, none⟩) v R Q w := by
  intro k
  induction k with
  | zero => intro v w l g ev _ _ _ _ h; omega
  | succ k ih =>
    intro v w l g ev h hS h0 hv _ hb hL
    refine bin_writer_u.step1 _ _ _ _ _ ?_
    unfold bin_writer_u.V1
    rw [ulebF_succ] at hL
    by_cases hc : 128 ≤ v
    · rw [if_pos hc] at hL
      refine cond_true' (decide_eq_true hc) ?_
      refine put1 h _ (by omega) (fun w' g' u hE hS' => ?_)
      have hk : k ≠ 0 := by rintro rfl; simp at hv; omega
      refine ih _ w' _ g' u hE (hS.trans hS') ?_ ?_ (by omega) (by simp; omega) (by rw [hL, List.append_assoc]; rfl)
      · rw [fdiv128]; omega
      · rw [fdiv128]
        rw [Int.pow_succ] at hv
        omega
    · rw [if_neg hc] at hL
      refine cond_false' (decide_eq_false hc) ?_
      refine put1 h _ (by omega) (fun w' g' u hE hS' => ?_)
      rw [← hL] at hE
      exact hR w' g' u hE (hS.trans hS')
theorem u_spec {w : World} {wb : Nat} {l : List Int} {g : Option Nat} {ev : Value} (h : EW w wb l g ev) (v : Int) (h0 : 0 ≤ v) (h1 : v ≤ 18446744073709551615) (hb : l.length + 10 ≤ 1000000) : Writes bin_writer_u.id #[rp wb, .int .u64 v] w wb l g (uleb v) := by
  refine bin_writer_u.enter _ _ _ _ _ ?_
  unfold bin_writer_u.V
  refine u_loop _ _ (fun w' g' u hE hS => ⟨rfl, g', u, hE, hS⟩) 10 v w l g ev h (WS.refl _ _ _) h0 ?_ (by decide) hb rfl
  have e : (128 : Int) ^ 10 = 1180591620717411303424 := by decide
  rw [e]; omega

/-! ### ulen -/
def ulenF : Nat → Int → Int → Int
  | 0, _, n => n
  | k + 1, v, n => if 128 ≤ v then ulenF k (Int.fdiv v (2 ^ (7 : Nat))) (n + 1) else n
theorem ulenF_succ (k : Nat) (v n : Int) : ulenF (k + 1) v n = if 128 ≤ v then ulenF k (Int.fdiv v (2 ^ (7 : Nat))) (n + 1) else n := rfl
theorem ulen_loop (R Q : Value → World → Prop) (w : World) : ∀ (k : Nat) (v n : Int), 0 ≤ v → v < 128 ^ k → 1 ≤ k → 0 ≤ n → n + k ≤ 100 → R (.int .i64 (ulenF k v n)) w → bin_ulen.L1 v n R Q w := by
  intro k
  induction k with
  | zero => intro v n _ _ h; omega
  | succ k ih =>
    intro v n h0 hv _ hn hnk hR
    refine bin_ulen.step1 _ _ _ _ _ ?_
    unfold bin_ulen.V1
    rw [ulenF_succ] at hR
    by_cases hc : 128 ≤ v
    · rw [if_pos hc] at hR
      refine cond_true' (decide_eq_true hc) ?_
      have hk : k ≠ 0 := by rintro rfl; simp at hv; omega
      rw [wrap_i64 (x := n + 1) (by omega) (by omega)]
      refine ih _ _ ?_ ?_ (by omega) (by omega) (by omega) hR
      · rw [fdiv128]; omega
      · rw [fdiv128]
        rw [Int.pow_succ] at hv
        omega
    · rw [if_neg hc] at hR
      exact cond_false' (decide_eq_false hc) hR
theorem ulen_spec (w : World) (v : Int) (h0 : 0 ≤ v) (h1 : v ≤ 18446744073709551615) : Runs Try.prog bin_ulen.id #[.int .u64 v] w fun r w' => r = .int .i64 (ulenF 10 v 1) ∧ w' = w := by
  refine bin_ulen.enter _ _ _ _ ?_
  unfold bin_ulen.V
  refine ulen_loop _ _ w 10 v 1 h0 ?_ (by decide) (by decide) (by decide) ⟨rfl, rfl⟩
  have e : (128 : Int) ^ 10 = 1180591620717411303424 := by decide
  rw [e]; omega
theorem ulenF_rng : ∀ (k : Nat) (v n : Int), n ≤ ulenF k v n ∧ ulenF k v n ≤ n + k
  | 0, _, n => by simp [ulenF]
  | k + 1, v, n => by
    rw [ulenF_succ]
    split
    · have := ulenF_rng k (Int.fdiv v (2 ^ (7 : Nat))) (n + 1)
      omega
    · omega

/-! ### s -/
def slebF : Nat → Int → List Int
  | 0, _ => []
  | k + 1, x => if (Int.fdiv x (2 ^ (7 : Nat)) = 0 ∧ bAnd .u8 (IntKind.wrap .u8 x) 127 < 64) ∨ (Int.fdiv x (2 ^ (7 : Nat)) = -1 ∧ 64 ≤ bAnd .u8 (IntKind.wrap .u8 x) 127) then [bAnd .u8 (IntKind.wrap .u8 x) 127] else bOr .u8 (bAnd .u8 (IntKind.wrap .u8 x) 127) 128 :: slebF k (Int.fdiv x (2 ^ (7 : Nat)))
theorem slebF_succ (k : Nat) (x : Int) : slebF (k + 1) x = if (Int.fdiv x (2 ^ (7 : Nat)) = 0 ∧ bAnd .u8 (IntKind.wrap .u8 x) 127 < 64) ∨ (Int.fdiv x (2 ^ (7 : Nat)) = -1 ∧ 64 ≤ bAnd .u8 (IntKind.wrap .u8 x) 127) then [bAnd .u8 (IntKind.wrap .u8 x) 127] else bOr .u8 (bAnd .u8 (IntKind.wrap .u8 x) 127) 128 :: slebF k (Int.fdiv x (2 ^ (7 : Nat))) := rfl
def sleb (x : Int) : List Int := slebF 10 x
theorem slebF_len : ∀ k v, (slebF k v).length ≤ k
  | 0, _ => Nat.le_refl _
  | k + 1, v => by
    rw [slebF_succ]
    split
    · simp
    · have := slebF_len k (Int.fdiv v (2 ^ (7 : Nat)))
      rw [List.length_cons]; omega
theorem sleb_len (v : Int) : (sleb v).length ≤ 10 := slebF_len 10 v

theorem and127 (x : Int) : bAnd .u8 (IntKind.wrap .u8 x) 127 = x % 128 := by
  rw [wrap_u8_mod]
  obtain ⟨n, hn⟩ : ∃ n : Nat, x % 256 = (n : Int) := ⟨(x % 256).toNat, by omega⟩
  have hlt : n < 256 := by omega
  rw [hn]
  have key : ∀ n : Fin 256, bAnd .u8 ((n.val : Nat) : Int) 127 = ((n.val % 128 : Nat) : Int) := by decide +kernel
  have := key ⟨n, hlt⟩
  rw [this]
  show ((n % 128 : Nat) : Int) = _
  omega

theorem s_loop {w0 : World} {wb : Nat} {g0 : Option Nat} {L : List Int} (R Q : Value → World → Prop) (hR : ∀ w' g' u, EW w' wb L g' u → WS w0 w' wb g0 g' → R (.tuple #[]) w') :
    ∀ (k : Nat) (x : Int) (w : World) (l : List Int) (g : Option Nat) (ev : Value), EW w wb l g ev → WS w0 w wb g0 g → -(64 * 128 ^ k) ≤ x → x < 64 * 128 ^ k → l.length + (k + 1) ≤ 1000000 → L = l ++ slebF (k + 1) x → bin_writer_s.L1 (some ⟨wb, 0, none⟩) x R Q w := by
  intro k
  induction k with
  | zero =>
    intro x w l g ev h hS h0 h1 hb hL
    simp at h0 h1
    have hcond : (Int.fdiv x (2 ^ (7 : Nat)) = 0 ∧ bAnd .u8 (IntKind.wrap .u8 x) 127 < 64) ∨ (Int.fdiv x (2 ^ (7 : Nat)) = -1 ∧ 64 ≤ bAnd .u8 (IntKind.wrap .u8 x) 127) := by
      rw [and127, fdiv128]; omega
    rw [slebF_succ, if_pos hcond] at hL
    have L2 : bin_writer_s.L2 (some ⟨wb, 0, none⟩) (Int.fdiv x (2 ^ (7 : Nat))) (bAnd .u8 (IntKind.wrap .u8 x) 127) true R Q w := by
      refine bin_writer_s.step2 _ _ _ _ _ _ _ ?_
      unfold bin_writer_s.V2
      refine cond_true' rfl (put1 h _ (by omega) (fun w' g' u hE hS' => ?_))
      rw [← hL] at hE
      exact hR w' g' u hE (hS.trans hS')
    refine bin_writer_s.step1 _ _ _ _ _ ?_
    unfold bin_writer_s.V1
    rcases hcond with ⟨c1, c2⟩ | ⟨c1, c2⟩
    · exact cond_true' (beq_eq' c1) (cond_true' (decide_eq_true c2) L2)
    · refine cond_false' (beq_ne (by omega)) (cond_true' (beq_eq' c1) ?_)
      rw [decide_eq_true c2]; exact L2
  | succ k ih =>
    intro x w l g ev h hS h0 h1 hb hL
    refine bin_writer_s.step1 _ _ _ _ _ ?_
    unfold bin_writer_s.V1
    rw [slebF_succ] at hL
    have done : ((Int.fdiv x (2 ^ (7 : Nat)) = 0 ∧ bAnd .u8 (IntKind.wrap .u8 x) 127 < 64) ∨ (Int.fdiv x (2 ^ (7 : Nat)) = -1 ∧ 64 ≤ bAnd .u8 (IntKind.wrap .u8 x) 127)) → bin_writer_s.L2 (some ⟨wb, 0, none⟩) (Int.fdiv x (2 ^ (7 : Nat))) (bAnd .u8 (IntKind.wrap .u8 x) 127) true R Q w := by
      intro hcond
      rw [if_pos hcond] at hL
      refine bin_writer_s.step2 _ _ _ _ _ _ _ ?_
      unfold bin_writer_s.V2
      refine cond_true' rfl (put1 h _ (by omega) (fun w' g' u hE hS' => ?_))
      rw [← hL] at hE
      exact hR w' g' u hE (hS.trans hS')
    have more : ¬ ((Int.fdiv x (2 ^ (7 : Nat)) = 0 ∧ bAnd .u8 (IntKind.wrap .u8 x) 127 < 64) ∨ (Int.fdiv x (2 ^ (7 : Nat)) = -1 ∧ 64 ≤ bAnd .u8 (IntKind.wrap .u8 x) 127)) → bin_writer_s.L2 (some ⟨wb, 0, none⟩) (Int.fdiv x (2 ^ (7 : Nat))) (bAnd .u8 (IntKind.wrap .u8 x) 127) false R Q w := by
      intro hcond
      rw [if_neg hcond] at hL
      refine bin_writer_s.step2 _ _ _ _ _ _ _ ?_
      unfold bin_writer_s.V2
      refine cond_false' rfl (put1 h _ (by omega) (fun w' g' u hE hS' => ?_))
      refine ih _ w' _ g' u hE (hS.trans hS') ?_ ?_ (by simp; omega) (by rw [hL, List.append_assoc]; rfl)
      · rw [fdiv128]
        rw [Int.pow_succ] at h0
        omega
      · rw [fdiv128]
        rw [Int.pow_succ] at h1
        omega
    by_cases c1 : Int.fdiv x (2 ^ (7 : Nat)) = 0
    · refine cond_true' (beq_eq' c1) ?_
      by_cases c2 : bAnd .u8 (IntKind.wrap .u8 x) 127 < 64
      · exact cond_true' (decide_eq_true c2) (done (.inl ⟨c1, c2⟩))
      · exact cond_false' (decide_eq_false c2) (cond_false' (beq_ne (by omega)) (more (by omega)))
    · refine cond_false' (beq_ne c1) ?_
      by_cases c3 : Int.fdiv x (2 ^ (7 : Nat)) = -1
      · refine cond_true' (beq_eq' c3) ?_
        by_cases c2 : 64 ≤ bAnd .u8 (IntKind.wrap .u8 x) 127
        · rw [decide_eq_true c2]; exact done (.inr ⟨c3, c2⟩)
        · rw [decide_eq_false c2]; exact more (by omega)
      · exact cond_false' (beq_ne c3) (more (by omega))
theorem s_spec {w : World} {wb : Nat} {l : List Int} {g : Option Nat} {ev : Value} (h : EW w wb l g ev) (x : Int) (h0 : -9223372036854775808 ≤ x) (h1 : x ≤ 9223372036854775807) (hb : l.length + 10 ≤ 1000000) : Writes bin_writer_s.id #[rp wb, .int .i64 x] w wb l g (sleb x) := by
  refine bin_writer_s.enter _ _ _ _ _ ?_
  unfold bin_writer_s.V
  have e : (64 : Int) * 128 ^ 9 = 590295810358705651712 := by decide
  exact s_loop _ _ (fun w' g' u hE hS => ⟨rfl, g', u, hE, hS⟩) 9 x w l g ev h (WS.refl _ _ _) (by rw [e]; omega) (by rw [e]; omega) hb rfl

/-! ### little -/
def littleF : Nat → Int → List Int
  | 0, _ => []
  | k + 1, v => IntKind.wrap .u8 v :: littleF k (Int.fdiv v (2 ^ (8 : Nat)))
theorem little_loop {w0 : World} {wb : Nat} {g0 : Option Nat} {L : List Int} {n : Nat} (hn : n ≤ 8) (R Q : Value → World → Prop) (hR : ∀ w' g' u, EW w' wb L g' u → WS w0 w' wb g0 g' → R (.tuple #[]) w') :
    ∀ (k i : Nat) (v : Int) (w : World) (l : List Int) (g : Option Nat) (ev : Value), i + k = n → EW w wb l g ev → WS w0 w wb g0 g → l.length + k ≤ 1000000 → L = l ++ littleF k v → bin_writer_little.L1 (some ⟨wb, 0, none⟩) n v i R Q w := by
  intro k
  induction k with
  | zero =>
    intro i v w l g ev hi h hS hb hL
    refine bin_writer_little.step1 _ _ _ _ _ _ _ ?_
    unfold bin_writer_little.V1
    refine cond_false' (decide_eq_false (by omega)) ?_
    have : L = l := by rw [hL]; simp [littleF]
    rw [← this] at h
    exact hR w g ev h hS
  | succ k ih =>
    intro i v w l g ev hi h hS hb hL
    refine bin_writer_little.step1 _ _ _ _ _ _ _ ?_
    unfold bin_writer_little.V1
    refine cond_true' (decide_eq_true (by omega)) (put1 h _ (by omega) (fun w' g' u hE hS' => ?_))
    have e1 : IntKind.wrap .i64 ((i : Int) + 1) = ((i + 1 : Nat) : Int) := by rw [wrap_i64 (by omega) (by omega)]; omega
    rw [e1]
    exact ih (i + 1) _ w' _ g' u (by omega) hE (hS.trans hS') (by simp; omega) (by rw [hL, List.append_assoc]; rfl)
theorem littleF_len : ∀ k v, (littleF k v).length = k
  | 0, _ => rfl
  | k + 1, v => by simp [littleF, littleF_len k]
theorem little_spec {w : World} {wb : Nat} {l : List Int} {g : Option Nat} {ev : Value} (h : EW w wb l g ev) (n : Nat) (hn : n ≤ 8) (v : Int) (hb : l.length + n ≤ 1000000) : Writes bin_writer_little.id #[rp wb, .int .i64 (n : Int), .int .u64 v] w wb l g (littleF n v) := by
  refine bin_writer_little.enter _ _ _ _ _ _ ?_
  unfold bin_writer_little.V
  exact little_loop hn _ _ (fun w' g' u hE hS => ⟨rfl, g', u, hE, hS⟩) n 0 v w l g ev (by omega) h (WS.refl _ _ _) hb rfl

/-! ### raw -/
theorem bytesOf_drop (t : ByteArray) (i : Nat) (h : i < t.size) : (bytesOf t).drop i = byteAt t i :: (bytesOf t).drop (i + 1) := by
  have hl := bytesOf_length t
  rw [List.drop_eq_getElem_cons (by omega)]
  congr 1
  have := bytesOf_getD t i h
  rw [← this, List.getD_eq_getElem?_getD, List.getElem?_eq_getElem (by omega)]
  rfl
theorem raw_loop {w0 : World} {wb : Nat} {g0 : Option Nat} {L : List Int} (t : ByteArray) (ht : t.size ≤ 1024) (R Q : Value → World → Prop) (hR : ∀ w' g' u, EW w' wb L g' u → WS w0 w' wb g0 g' → R (.tuple #[]) w') :
    ∀ (k i : Nat) (w : World) (l : List Int) (g : Option Nat) (ev : Value), i + k = t.size → EW w wb l g ev → WS w0 w wb g0 g → l.length + k ≤ 1000000 → L = l ++ (bytesOf t).drop i → bin_writer_raw.L1 (some ⟨wb, 0, none⟩) t i R Q w := by
  intro k
  induction k with
  | zero =>
    intro i w l g ev hi h hS hb hL
    refine bin_writer_raw.step1 _ _ _ _ _ _ ?_
    unfold bin_writer_raw.V1
    refine cond_false' (decide_eq_false (by omega)) ?_
    have : L = l := by rw [hL, List.drop_eq_nil_of_le (by rw [bytesOf_length]; omega), List.append_nil]
    rw [← this] at h
    exact hR w g ev h hS
  | succ k ih =>
    intro i w l g ev hi h hS hb hL
    refine bin_writer_raw.step1 _ _ _ _ _ _ ?_
    unfold bin_writer_raw.V1
    refine cond_true' (decide_eq_true (by omega)) ⟨by omega, ?_⟩
    refine put1 h _ (by omega) (fun w' g' u hE hS' => ?_)
    have e1 : IntKind.wrap .i64 ((i : Int) + 1) = ((i + 1 : Nat) : Int) := by rw [wrap_i64 (by omega) (by omega)]; omega
    rw [e1]
    refine ih (i + 1) w' _ g' u (by omega) hE (hS.trans hS') (by simp; omega) ?_
    rw [hL, bytesOf_drop t i (by omega), List.append_assoc]
    rfl
def rawE (t : ByteArray) : List Int := uleb (t.size : Int) ++ bytesOf t
theorem raw_spec {w : World} {wb : Nat} {l : List Int} {g : Option Nat} {ev : Value} (h : EW w wb l g ev) (t : ByteArray) (ht : t.size ≤ 1024) (hb : l.length + 10 + t.size ≤ 1000000) : Writes bin_writer_raw.id #[rp wb, .string t] w wb l g (rawE t) := by
  refine bin_writer_raw.enter _ _ _ _ _ ?_
  unfold bin_writer_raw.V
  rw [wrap_u64 (x := ((ByteArray.size t : Nat) : Int)) (by omega) (by omega)]
  refine (u_spec h _ (by omega) (by omega) (by omega)).into (fun w1 g1 u1 hE1 hS1 => ⟨rfl, ?_⟩)
  have hl := uleb_len (t.size : Int)
  exact raw_loop t ht _ _ (fun w' g' u hE hS => ⟨rfl, g', u, hE, hS⟩) t.size 0 w1 _ g1 u1 (by omega) hE1 hS1 (by simp; omega) (by unfold rawE; rw [List.drop_zero, List.append_assoc])

/-! ### limits -/
def limE (lo hi : Int) : List Int := if hi < 0 then [0] ++ uleb lo else [1] ++ uleb lo ++ uleb hi
theorem limE_len (lo hi : Int) : (limE lo hi).length ≤ 21 := by
  unfold limE
  have := uleb_len lo; have := uleb_len hi
  split <;> simp <;> omega
theorem limits_enc {w : World} {wb : Nat} {l : List Int} {g : Option Nat} {ev : Value} (h : EW w wb l g ev) (lo hi : Int) (h0 : 0 ≤ lo) (h1 : lo ≤ 4294967295) (h2 : -1 ≤ hi) (h3 : hi ≤ 4294967295) (hb : l.length + 30 ≤ 1000000) : Writes bin_writer_limits.id #[rp wb, .int .i64 lo, .int .i64 hi] w wb l g (limE lo hi) := by
  refine bin_writer_limits.enter _ _ _ _ _ _ ?_
  unfold bin_writer_limits.V
  have q1 := uleb_len lo
  rw [wrap_u64 (x := lo) (by omega) (by omega)]
  by_cases hn : hi < 0
  · refine cond_true' (decide_eq_true hn) (put1 h _ (by omega) (fun w1 g1 u1 hE1 hS1 => ?_))
    refine (u_spec hE1 lo h0 (by omega) (by simp; omega)).into (fun w2 g2 u2 hE2 hS2 => ⟨rfl, rfl, g2, u2, ?_, hS1.trans hS2⟩)
    unfold limE; rw [if_pos hn, ← List.append_assoc]; exact hE2
  · refine cond_false' (decide_eq_false hn) (put1 h _ (by omega) (fun w1 g1 u1 hE1 hS1 => ?_))
    refine (u_spec hE1 lo h0 (by omega) (by simp; omega)).into (fun w2 g2 u2 hE2 hS2 => ⟨rfl, ?_⟩)
    rw [wrap_u64 (x := hi) (by omega) (by omega)]
    refine (u_spec hE2 hi (by omega) (by omega) (by simp; omega)).into (fun w3 g3 u3 hE3 hS3 => ⟨rfl, rfl, g3, u3, ?_, (hS1.trans hS2).trans hS3⟩)
    unfold limE; rw [if_neg hn, ← List.append_assoc, ← List.append_assoc]; exact hE3

end Go.Proofs.Qxb6500316a
