/-
  The reader's small methods.
-/
import Derived.Test.Qxb6500316aDcA
set_option linter.unusedSimpArgs false
set_option linter.unusedVariables false
set_option maxRecDepth 100000
namespace Go.Proofs.Qxb6500316a
open Go Go.Vc

def Res.bind {α β : Type} (r : Res α) (f : α → Nat → Res β) : Res β := match r with
  | .ok a q => f a q
  | .err c a => .err c a

theorem byte_rng (s : ByteArray) (i : Nat) : 0 ≤ byteAt s i ∧ byteAt s i ≤ 255 := by
  unfold byteAt
  have := (s.data.getD i 0).toNat_lt
  omega

theorem nextP_ok {s : ByteArray} {e p : Nat} {c : Int} {q : Nat} (h : nextP s e p = .ok c q) : p < e ∧ q = p + 1 ∧ c = byteAt s p := by
  unfold nextP at h
  by_cases hp : p < e
  · rw [if_pos hp] at h
    (first | (injection h with z__; injection z__ with h1 h2) | injection h with h1 h2)
    exact ⟨hp, h2.symm, h1.symm⟩
  · rw [if_neg hp] at h; cases h

/-! ### u32 -/
def u32L (s : ByteArray) (e start : Nat) : Nat → Int → Int → Nat → Res Int
  | 0, _, _, _ => .err 4 start
  | k + 1, v, sh, p => (nextP s e p).bind fun c q =>
    if sh = 28 ∧ 15 < c then .err 4 start
    else if c < 128 then .ok (bOr .u32 v (IntKind.wrap .u32 (IntKind.wrap .u32 (Int.tmod c 128) * 2 ^ (min (Int.toNat sh) (IntKind.bits .u32))))) q
    else u32L s e start k (bOr .u32 v (IntKind.wrap .u32 (IntKind.wrap .u32 (Int.tmod c 128) * 2 ^ (min (Int.toNat sh) (IntKind.bits .u32))))) (sh + 7) q
def u32P (s : ByteArray) (e p : Nat) : Res Int := u32L s e p 5 0 0 p

theorem u32L_succ (s : ByteArray) (e start k : Nat) (v sh : Int) (p : Nat) : u32L s e start (k + 1) v sh p = (nextP s e p).bind fun c q =>
    if sh = 28 ∧ 15 < c then .err 4 start
    else if c < 128 then .ok (bOr .u32 v (IntKind.wrap .u32 (IntKind.wrap .u32 (Int.tmod c 128) * 2 ^ (min (Int.toNat sh) (IntKind.bits .u32))))) q
    else u32L s e start k (bOr .u32 v (IntKind.wrap .u32 (IntKind.wrap .u32 (Int.tmod c 128) * 2 ^ (min (Int.toNat sh) (IntKind.bits .u32))))) (sh + 7) q := rfl

theorem u32_loop {s : ByteArray} {e b rb start : Nat} (R Q : Value → World → Prop) (w0 : World)
    (hr : ∀ a q w', u32P s e start = .ok a q → start ≤ q → q ≤ e → RdAt w' rb s q e b → Same [rb] w0.heap.size w0 w' → R (.int .u32 a) w')
    (hq : ∀ c a w', u32P s e start = .err c a → Same [rb] w0.heap.size w0 w' → Q (faultV c a) w') :
    ∀ (k : Nat) (v sh : Int) (p : Nat) (w : World), sh = 7 * ((5 : Int) - k) → k ≤ 5 → 1 ≤ k → RdAt w rb s p e b → Txt s p e → start ≤ p → Same [rb] w0.heap.size w0 w → rb < w0.heap.size → u32P s e start = u32L s e start k v sh p →
      bin_reader_u32.L1 (some ⟨rb, 0, none⟩) start v sh R Q w := by
  intro k
  induction k with
  | zero => intro v sh p w _ _ h1; omega
  | succ k ih =>
    intro v sh p w hsh hk _ h t hp hS hrb hu
    have t1 := t.pe; have t2 := t.es; have t3 := t.sz
    refine bin_reader_u32.step1 _ _ _ _ _ _ _ ?_
    unfold bin_reader_u32.V1
    refine (next_spec h t).into (fun c q w' hn h1 h2 hR hS' => ⟨_, rfl, ?_⟩) (fun c a w' hn hS' => hq c a w' (by rw [hu, u32L_succ, hn]; rfl) (hS.trans (hS'.mono hS.size (by simp))))
    have hS2 := hS.trans (hS'.mono hS.size (by simp))
    obtain ⟨n1, n2, n3⟩ := nextP_ok hn
    have hb := byte_rng s p
    rw [← n3] at hb
    have hu2 : u32P s e start = (if sh = 28 ∧ 15 < c then .err 4 start
      else if c < 128 then .ok (bOr .u32 v (IntKind.wrap .u32 (IntKind.wrap .u32 (Int.tmod c 128) * 2 ^ (min (Int.toNat sh) (IntKind.bits .u32))))) q
      else u32L s e start k (bOr .u32 v (IntKind.wrap .u32 (IntKind.wrap .u32 (Int.tmod c 128) * 2 ^ (min (Int.toNat sh) (IntKind.bits .u32))))) (sh + 7) q) := by
      rw [hu, u32L_succ, hn]; rfl
    have go : ¬ (sh = 28 ∧ 15 < c) → bin_reader_u32.L2 (some ⟨rb, 0, none⟩) start v sh c false R Q w' := by
      intro hbad
      rw [if_neg hbad] at hu2
      refine bin_reader_u32.step2 _ _ _ _ _ _ _ _ _ ?_
      unfold bin_reader_u32.V2
      refine cond_false' rfl ?_
      refine bin_reader_u32.step3 _ _ _ _ _ _ _ _ ?_
      unfold bin_reader_u32.V3
      refine ⟨by omega, ?_⟩
      by_cases hc : c < 128
      · rw [if_pos hc] at hu2
        refine cond_true' (by rw [decide_eq_false (by omega)]; rfl) ?_
        exact hr _ _ w' hu2 (by omega) h2 hR hS2
      · rw [if_neg hc] at hu2
        refine cond_false' (by rw [decide_eq_true (by omega)]; rfl) ?_
        have hk0 : k ≠ 0 := by
          rintro rfl
          exact hbad ⟨by omega, by omega⟩
        have e1 : IntKind.wrap .u64 (sh + 7) = sh + 7 := wrap_u64 (by omega) (by omega)
        rw [e1]
        exact ih _ _ q w' (by omega) (by omega) (by omega) hR ⟨h2, t2, t3⟩ (by omega) hS2 hrb hu2
    by_cases h28 : sh = 28
    · refine cond_true' (by rw [h28]; rfl) ?_
      by_cases hc : 15 < c
      · rw [decide_eq_true (show c > 15 from hc)]
        refine bin_reader_u32.step2 _ _ _ _ _ _ _ _ _ ?_
        unfold bin_reader_u32.V2
        rw [if_pos ⟨h28, hc⟩] at hu2
        exact cond_true' rfl (hq _ _ w' hu2 hS2)
      · rw [decide_eq_false (show ¬ c > 15 from hc)]
        exact go (fun g => hc g.2)
    · refine cond_false' (by rw [beq_eq_false_iff_ne]; exact h28) (go fun g => h28 g.1)

theorem u32_spec {w : World} {rb : Nat} {s : ByteArray} {p e b : Nat} (h : RdAt w rb s p e b) (t : Txt s p e) : Reads bin_reader_u32.id #[rp rb] w rb s p e b [] (u32P s e p) (Value.int .u32) := by
  refine bin_reader_u32.enter _ _ _ _ ?_
  unfold bin_reader_u32.V
  simp only [nilV_some, Nat.zero_add]
  refine ⟨_, h.c1, ?_⟩
  exact u32_loop _ _ w (fun a q w' h1 h2 h3 h4 h5 => ⟨a, q, h1, rfl, h2, h3, h4, h5⟩) (fun c a w' h1 h2 => ⟨c, a, h1, rfl, h2⟩) 5 0 0 p w (by decide) (by decide) (by decide) h t (Nat.le_refl _) (Same.refl _ _ _) h.lt rfl

theorem bOr32_rng (x y : Int) : 0 ≤ bOr .u32 x y ∧ bOr .u32 x y ≤ 4294967295 := by
  unfold bOr; rw [wrap_u32_mod]; omega
theorem u32L_rng {s : ByteArray} {e start : Nat} : ∀ (k : Nat) (v sh : Int) (p : Nat) {n : Int} {q : Nat}, u32L s e start k v sh p = .ok n q → 0 ≤ n ∧ n ≤ 4294967295
  | 0, v, sh, p, n, q, h => by cases h
  | k + 1, v, sh, p, n, q, h => by
    rw [u32L_succ] at h
    cases hn : nextP s e p using Res.cs with
    | err c a => rw [hn] at h; cases h
    | ok c q' =>
      rw [hn] at h
      simp only [Res.bind] at h
      split at h
      · cases h
      · split at h
        · (first | (injection h with z__; injection z__ with h1 h2) | injection h with h1 h2)
          rw [← h1]; exact bOr32_rng _ _
        · exact u32L_rng k _ _ _ h
theorem u32P_rng {s : ByteArray} {e p : Nat} {n : Int} {q : Nat} (h : u32P s e p = .ok n q) : 0 ≤ n ∧ n ≤ 4294967295 := u32L_rng 5 0 0 p h

/-! ### count -/
def countP (s : ByteArray) (e : Nat) (max : Int) (p : Nat) : Res Nat := (u32P s e p).bind fun n q => if max < n then .err 7 p else .ok n.toNat q

theorem count_spec {w : World} {rb : Nat} {s : ByteArray} {p e b : Nat} (h : RdAt w rb s p e b) (t : Txt s p e) (max : Int) : Reads bin_reader_count.id #[rp rb, .int .i64 max] w rb s p e b [] (countP s e max p) (fun n => Value.int .i64 (n : Int)) := by
  refine bin_reader_count.enter _ _ _ _ _ ?_
  unfold bin_reader_count.V
  simp only [nilV_some, Nat.zero_add]
  refine ⟨_, h.c1, (u32_spec h t).into (fun n q w' hn h1 h2 hR hS => ⟨_, rfl, ?_⟩) (fun c a w' hn hS => ⟨c, a, by unfold countP; rw [hn]; rfl, rfl, hS⟩)⟩
  obtain ⟨r1, r2⟩ := u32P_rng hn
  have e1 : IntKind.wrap .i64 n = n := wrap_i64 (by omega) (by omega)
  have hc : countP s e max p = if max < n then .err 7 p else .ok n.toNat q := by unfold countP; rw [hn]; rfl
  rw [e1]
  by_cases hm : max < n
  · rw [if_pos hm] at hc
    exact cond_true' (decide_eq_true (by omega)) ⟨_, _, hc, rfl, hS⟩
  · rw [if_neg hm] at hc
    refine cond_false' (decide_eq_false (by omega)) ?_
    refine bin_reader_count.step1 _ _ _ _ ?_
    exact ⟨_, _, hc, by rw [Int.toNat_of_nonneg r1], h1, h2, hR, hS⟩
theorem countP_le {s : ByteArray} {e p : Nat} {max : Int} {n q : Nat} (h : countP s e max p = .ok n q) : (n : Int) ≤ max := by
  unfold countP at h
  cases hn : u32P s e p using Res.cs with
  | err c a => rw [hn] at h; cases h
  | ok m q' =>
    rw [hn] at h
    simp only [Res.bind] at h
    have := u32P_rng hn
    split at h
    · cases h
    · (first | (injection h with z__; injection z__ with h1 h2) | injection h with h1 h2); omega

/-! ### fixed, flag, valtype -/
def fixedP (s : ByteArray) (e : Nat) (want : Int) (p : Nat) : Res Unit := (nextP s e p).bind fun c q => if c = want then .ok () q else .err 8 p
theorem fixed_spec {w : World} {rb : Nat} {s : ByteArray} {p e b : Nat} (h : RdAt w rb s p e b) (t : Txt s p e) (want : Int) : Reads bin_reader_fixed.id #[rp rb, .int .u8 want] w rb s p e b [] (fixedP s e want p) (fun _ => Value.tuple #[]) := by
  refine bin_reader_fixed.enter _ _ _ _ _ ?_
  unfold bin_reader_fixed.V
  simp only [nilV_some, Nat.zero_add]
  refine ⟨_, h.c1, (next_spec h t).into (fun c q w' hn h1 h2 hR hS => ⟨_, rfl, ?_⟩) (fun c a w' hn hS => ⟨c, a, by unfold fixedP; rw [hn]; rfl, rfl, hS⟩)⟩
  have hc : fixedP s e want p = if c = want then .ok () q else .err 8 p := by unfold fixedP; rw [hn]; rfl
  by_cases hm : c = want
  · rw [if_pos hm] at hc
    exact cond_false' (by rw [hm]; simp) ⟨(), q, hc, by trivial, h1, h2, hR, hS⟩
  · rw [if_neg hm] at hc
    exact cond_true' (bne_iff_ne.2 hm) ⟨_, _, hc, rfl, hS⟩

def flagP (s : ByteArray) (e : Nat) (max : Int) (p : Nat) : Res Int := (nextP s e p).bind fun c q => if max < c then .err 8 p else .ok c q
theorem flag_spec {w : World} {rb : Nat} {s : ByteArray} {p e b : Nat} (h : RdAt w rb s p e b) (t : Txt s p e) (max : Int) : Reads bin_reader_flag.id #[rp rb, .int .u8 max] w rb s p e b [] (flagP s e max p) (Value.int .u8) := by
  refine bin_reader_flag.enter _ _ _ _ _ ?_
  unfold bin_reader_flag.V
  simp only [nilV_some, Nat.zero_add]
  refine ⟨_, h.c1, (next_spec h t).into (fun c q w' hn h1 h2 hR hS => ⟨_, rfl, ?_⟩) (fun c a w' hn hS => ⟨c, a, by unfold flagP; rw [hn]; rfl, rfl, hS⟩)⟩
  have hc : flagP s e max p = if max < c then .err 8 p else .ok c q := by unfold flagP; rw [hn]; rfl
  by_cases hm : max < c
  · rw [if_pos hm] at hc
    exact cond_true' (decide_eq_true hm) ⟨_, _, hc, rfl, hS⟩
  · rw [if_neg hm] at hc
    refine cond_false' (decide_eq_false hm) ?_
    refine bin_reader_flag.step1 _ _ _ _ ?_
    exact ⟨_, _, hc, rfl, h1, h2, hR, hS⟩

def valtypeP (s : ByteArray) (e p : Nat) : Res Int := (nextP s e p).bind fun c q => if c < 124 ∨ 127 < c then .err 9 p else .ok c q
theorem valtype_spec {w : World} {rb : Nat} {s : ByteArray} {p e b : Nat} (h : RdAt w rb s p e b) (t : Txt s p e) : Reads bin_reader_valtype.id #[rp rb] w rb s p e b [] (valtypeP s e p) (Value.int .u8) := by
  refine bin_reader_valtype.enter _ _ _ _ ?_
  unfold bin_reader_valtype.V
  simp only [nilV_some, Nat.zero_add]
  refine ⟨_, h.c1, (next_spec h t).into (fun c q w' hn h1 h2 hR hS => ⟨_, rfl, ?_⟩) (fun c a w' hn hS => ⟨c, a, by unfold valtypeP; rw [hn]; rfl, rfl, hS⟩)⟩
  have hc : valtypeP s e p = if c < 124 ∨ 127 < c then .err 9 p else .ok c q := by unfold valtypeP; rw [hn]; rfl
  by_cases h124 : c < 124
  · rw [if_pos (.inl h124)] at hc
    refine cond_true' (decide_eq_true h124) ?_
    refine bin_reader_valtype.step1 _ _ _ _ _ _ ?_
    unfold bin_reader_valtype.V1
    exact cond_true' rfl ⟨_, _, hc, rfl, hS⟩
  · refine cond_false' (decide_eq_false h124) ?_
    refine bin_reader_valtype.step1 _ _ _ _ _ _ ?_
    unfold bin_reader_valtype.V1
    by_cases h127 : 127 < c
    · rw [if_pos (.inr h127)] at hc
      exact cond_true' (decide_eq_true h127) ⟨_, _, hc, rfl, hS⟩
    · rw [if_neg (by omega)] at hc
      refine cond_false' (decide_eq_false h127) ?_
      refine bin_reader_valtype.step2 _ _ _ _ ?_
      exact ⟨_, _, hc, rfl, h1, h2, hR, hS⟩

/-! ### take, name -/
def takeP (s : ByteArray) (e : Nat) (n : Nat) (p : Nat) : Res ByteArray := if e - p < n then .err 3 e else .ok (s.extract p (p + n)) (p + n)
theorem take_spec {w : World} {rb : Nat} {s : ByteArray} {p e b : Nat} (h : RdAt w rb s p e b) (t : Txt s p e) (n : Nat) (hn : n ≤ 4294967295) : Reads bin_reader_take.id #[rp rb, .int .i64 (n : Int)] w rb s p e b [] (takeP s e n p) Value.string := by
  have t1 := t.pe; have t2 := t.es; have t3 := t.sz
  refine bin_reader_take.enter _ _ _ _ _ ?_
  unfold bin_reader_take.V
  simp only [nilV_some, true_and, Nat.zero_add]
  have hd := h.drew
  refine ⟨_, hd.c2, _, hd.c1, ?_⟩
  have e1 : IntKind.wrap .i64 ((e : Int) - (p : Int)) = (e : Int) - (p : Int) := wrap_i64 (by omega) (by omega)
  rw [e1]
  unfold takeP
  by_cases hm : e - p < n
  · rw [if_pos hm]
    exact cond_true' (decide_eq_true (by omega)) ⟨_, hd.c2, _, _, rfl, rfl, (Same.refl _ _ _).drew⟩
  · rw [if_neg hm]
    refine cond_false' (decide_eq_false (by omega)) ?_
    refine bin_reader_take.step1 _ _ _ _ _ ?_
    unfold bin_reader_take.V1
    simp only [nilV_some, true_and, Nat.zero_add]
    refine ⟨_, hd.c1, hd.can1, letW_intro fun w4 hw4 => ?_⟩
    have e2 : IntKind.wrap .i64 ((p : Int) + (n : Int)) = ((p + n : Nat) : Int) := by rw [wrap_i64 (by omega) (by omega)]; omega
    rw [e2] at hw4
    have h4 : RdAt w4 rb s (p + n) e b := by rw [hw4]; exact hd.set1 (p + n)
    have hS4 : Same [rb] w.heap.size w w4 := by rw [hw4]; exact (Same.refl _ _ _).drew.setCell (.inr (by simp)) _
    have h5 := h4.drew
    have e3 : IntKind.wrap .i64 (((p + n : Nat) : Int) - (n : Int)) = (p : Int) := by rw [wrap_i64 (by omega) (by omega)]; omega
    refine ⟨_, h5.c0, _, h5.c1, _, h5.c1, ?_⟩
    rw [e3]
    refine ⟨by omega, ?_⟩
    rw [Int.toNat_natCast, Int.toNat_natCast]
    exact ⟨_, _, rfl, rfl, by omega, by omega, h5, hS4.drew⟩

def nameP (s : ByteArray) (e p : Nat) : Res ByteArray := (countP s e 8 p).bind fun n q => takeP s e n q
theorem name_spec {w : World} {rb : Nat} {s : ByteArray} {p e b : Nat} (h : RdAt w rb s p e b) (t : Txt s p e) : Reads bin_reader_name.id #[rp rb] w rb s p e b [] (nameP s e p) Value.string := by
  refine bin_reader_name.enter _ _ _ _ ?_
  unfold bin_reader_name.V
  refine (count_spec h t 8).into (fun n q w' hn h1 h2 hR hS => ⟨_, rfl, ?_⟩) (fun c a w' hn hS => ⟨c, a, by unfold nameP; rw [hn]; rfl, rfl, hS⟩)
  have hle := countP_le hn
  have hc : nameP s e p = takeP s e n q := by unfold nameP; rw [hn]; rfl
  refine (take_spec hR ⟨h2, t.es, t.sz⟩ n (by omega)).into (fun x q2 w2 hx g1 g2 gR gS => ⟨_, rfl, ?_⟩) (fun c a w2 hx gS => ?_)
  · exact ⟨x, q2, by rw [hc, hx], rfl, by omega, g2, gR, hS.trans (gS.mono hS.size (by simp))⟩
  · exact ⟨c, a, by rw [hc, hx], rfl, hS.trans (gS.mono hS.size (by simp))⟩

/-! ### limits -/
def limitsP (s : ByteArray) (e p : Nat) : Res (Int × Int) := (flagP s e 1 p).bind fun f q => (u32P s e q).bind fun lo q2 => if f = 0 then .ok (lo, -1) q2 else (u32P s e q2).bind fun hi q3 => .ok (lo, hi) q3
theorem limits_spec {w : World} {rb : Nat} {s : ByteArray} {p e b : Nat} (h : RdAt w rb s p e b) (t : Txt s p e) : Reads bin_reader_limits.id #[rp rb] w rb s p e b [] (limitsP s e p) (fun x => Value.tuple #[.int .i64 x.1, .int .i64 x.2]) := by
  refine bin_reader_limits.enter _ _ _ _ ?_
  unfold bin_reader_limits.V
  refine (flag_spec h t 1).into (fun f q w' hn h1 h2 hR hS => ⟨_, rfl, ?_⟩) (fun c a w' hn hS => ⟨c, a, by unfold limitsP; rw [hn]; rfl, rfl, hS⟩)
  refine (u32_spec hR ⟨h2, t.es, t.sz⟩).into (fun lo q2 w2 hx g1 g2 gR gS => ⟨_, rfl, ?_⟩) (fun c a w2 hx gS => ⟨c, a, by unfold limitsP; rw [hn]; simp only [Res.bind]; rw [hx], rfl, hS.trans (gS.mono hS.size (by simp))⟩)
  have hS2 := hS.trans (gS.mono hS.size (by simp))
  obtain ⟨r1, r2⟩ := u32P_rng hx
  have e1 : IntKind.wrap .i64 lo = lo := wrap_i64 (by omega) (by omega)
  have hc : limitsP s e p = if f = 0 then .ok (lo, -1) q2 else (u32P s e q2).bind fun hi q3 => .ok (lo, hi) q3 := by unfold limitsP; rw [hn]; simp only [Res.bind]; rw [hx]
  rw [e1]
  by_cases hf : f = 0
  · rw [if_pos hf] at hc
    exact cond_true' (by rw [hf]; rfl) ⟨_, _, hc, rfl, by omega, g2, gR, hS2⟩
  · rw [if_neg hf] at hc
    refine cond_false' (by rw [beq_eq_false_iff_ne]; exact hf) ?_
    refine (u32_spec gR ⟨g2, t.es, t.sz⟩).into (fun hi q3 w3 hy k1 k2 kR kS => ⟨_, rfl, ?_⟩) (fun c a w3 hy kS => ⟨c, a, by rw [hc, hy]; rfl, rfl, hS2.trans (kS.mono hS2.size (by simp))⟩)
    obtain ⟨r3, r4⟩ := u32P_rng hy
    have e2 : IntKind.wrap .i64 hi = hi := wrap_i64 (by omega) (by omega)
    rw [e2]
    exact ⟨(lo, hi), q3, by rw [hc, hy]; rfl, rfl, by omega, k2, kR, hS2.trans (kS.mono hS2.size (by simp))⟩

/-! ### enter, leave -/
def enterP (s : ByteArray) (e p : Nat) : Res Nat := (u32P s e p).bind fun n q => if ((e : Int) - (q : Int)) < n then .err 3 p else .ok n.toNat q
theorem enter_spec {w : World} {rb : Nat} {s : ByteArray} {p e b : Nat} (h : RdAt w rb s p e b) (t : Txt s p e) :
    RunsQ Try.prog bin_reader_enter.id #[rp rb] w (fun v w' => ∃ n q : Nat, enterP s e p = .ok n q ∧ v = .int .i64 (q : Int) ∧ p ≤ q ∧ q + n ≤ e ∧ RdAt w' rb s q (q + n) b ∧ Same [rb] w.heap.size w w')
      (fun v w' => ∃ c a, enterP s e p = .err c a ∧ v = faultV c a ∧ Same [rb] w.heap.size w w') := by
  have t1 := t.pe; have t2 := t.es; have t3 := t.sz
  refine bin_reader_enter.enter _ _ _ _ ?_
  unfold bin_reader_enter.V
  simp only [nilV_some, true_and, Nat.zero_add]
  refine ⟨_, h.c1, (u32_spec h t).into (fun n q w' hn h1 h2 hR hS => ⟨_, rfl, ?_⟩) (fun c a w' hn hS => ⟨c, a, by unfold enterP; rw [hn]; rfl, rfl, hS⟩)⟩
  obtain ⟨r1, r2⟩ := u32P_rng hn
  have hd := hR.drew
  refine ⟨_, hd.c2, _, hd.c1, ?_⟩
  have e1 : IntKind.wrap .i64 n = n := wrap_i64 (by omega) (by omega)
  have e2 : IntKind.wrap .i64 ((e : Int) - (q : Int)) = (e : Int) - (q : Int) := wrap_i64 (by omega) (by omega)
  have hc : enterP s e p = if ((e : Int) - (q : Int)) < n then .err 3 p else .ok n.toNat q := by unfold enterP; rw [hn]; rfl
  rw [e1, e2]
  by_cases hm : ((e : Int) - (q : Int)) < n
  · rw [if_pos hm] at hc
    exact cond_true' (decide_eq_true (by omega)) ⟨_, _, hc, rfl, hS.drew⟩
  · rw [if_neg hm] at hc
    refine cond_false' (decide_eq_false (by omega)) ?_
    refine bin_reader_enter.step1 _ _ _ _ _ ?_
    unfold bin_reader_enter.V1
    simp only [nilV_some, Nat.zero_add]
    refine ⟨_, hd.c1, hd.can2, letW_intro fun w4 hw4 => ?_⟩
    have e3 : IntKind.wrap .i64 ((q : Int) + n) = ((q + n.toNat : Nat) : Int) := by rw [wrap_i64 (by omega) (by omega)]; omega
    rw [e3] at hw4
    have h4 : RdAt w4 rb s q (q + n.toNat) b := by rw [hw4]; exact hd.set2 (q + n.toNat)
    refine ⟨_, h4.c1, _, _, hc, rfl, h1, by omega, h4, ?_⟩
    rw [hw4]; exact hS.drew.setCell (.inr (by simp)) _

theorem leave_spec {w : World} {rb : Nat} {s : ByteArray} {p e b : Nat} (h : RdAt w rb s p e b) (from_ outer : Nat) :
    RunsQ Try.prog bin_reader_leave.id #[rp rb, .int .i64 (from_ : Int), .int .i64 (outer : Int)] w (fun v w' => p = e ∧ v = .tuple #[] ∧ RdAt w' rb s p outer b ∧ Same [rb] w.heap.size w w')
      (fun v w' => p ≠ e ∧ v = faultV 6 from_ ∧ Same [rb] w.heap.size w w') := by
  refine bin_reader_leave.enter _ _ _ _ _ _ ?_
  unfold bin_reader_leave.V
  simp only [nilV_some, true_and, Nat.zero_add]
  have hd := h.drew
  refine ⟨_, hd.c1, _, hd.c2, ?_⟩
  by_cases hm : p = e
  · refine cond_false' (by rw [hm]; simp) ?_
    refine bin_reader_leave.step1 _ _ _ _ _ ?_
    unfold bin_reader_leave.V1
    simp only [nilV_some, Nat.zero_add]
    refine ⟨hd.can2, letW_intro fun w4 hw4 => ⟨hm, by trivial, ?_, ?_⟩⟩
    · rw [hw4]; exact hd.set2 outer
    · rw [hw4]; exact (Same.refl _ _ _).drew.setCell (.inr (by simp)) _
  · exact cond_true' (bne_iff_ne.2 (by omega)) ⟨hm, rfl, (Same.refl _ _ _).drew⟩

end Go.Proofs.Qxb6500316a
