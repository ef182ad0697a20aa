/-
  The model reads numbers.
-/
import Derived.Test.Qxb6500316aMdB
set_option linter.unusedSimpArgs false
set_option linter.unusedVariables false
set_option maxRecDepth 100000
set_option linter.unusedSectionVars false
namespace Go.Proofs.Qxb6500316a
open Go Go.Vc

theorem _root_.Go.Vc.Same.app {S : List Nat} {a b c : World} (h : Same S a.heap.size a b) (h2 : Same S b.heap.size b c) : Same S a.heap.size a c := h.trans (h2.mono h.size (fun _ hk _ => hk))
theorem sh_pow (k : Nat) (hk : k ≤ 63) : (2 : Int) ^ (min (Int.toNat (IntKind.wrap .u64 ((k : Nat) : Int))) (IntKind.bits .u64)) = ((2 ^ k : Nat) : Int) := by
  have h1 : IntKind.wrap .u64 ((k : Nat) : Int) = ((k : Nat) : Int) := wrap_u64 (by omega) (by omega)
  have h2 : min k (IntKind.bits .u64) = k := by show min k 64 = k; omega
  rw [h1, Int.toNat_natCast, h2]
  push_cast
  rfl
theorem leb_add (s : ByteArray) (a i : Nat) (hi : i ≤ 8) : IntKind.wrap .u64 (((gs s a i : Nat) : Int) + IntKind.wrap .u64 (IntKind.wrap .u64 (Int.tmod (nb s (a + i) : Int) 128) * 2 ^ (min (Int.toNat (IntKind.wrap .u64 ((7 * i : Nat) : Int))) (IntKind.bits .u64)))) = ((gs s a (i + 1) : Nat) : Int) := by
  rw [sh_pow (7 * i) (by omega), tmod128, gs_succ]
  have h2 := gs_lt s a (i + 1)
  rw [gs_succ] at h2
  have h3 : (2 : Nat) ^ (7 * (i + 1)) ≤ 2 ^ 63 := Nat.pow_le_pow_right (by decide) (by omega)
  have e3 : (2 : Nat) ^ 63 = 9223372036854775808 := by decide
  rw [e3] at h3
  generalize (2 : Nat) ^ (7 * (i + 1)) = K at *
  rw [wrap_u64 (x := ((nb s (a + i) % 128 : Nat) : Int)) (by omega) (by omega)]
  have e4 : ((nb s (a + i) % 128 : Nat) : Int) * ((2 ^ (7 * i) : Nat) : Int) = ((nb s (a + i) % 128 * 2 ^ (7 * i) : Nat) : Int) := by push_cast; rfl
  rw [e4]
  generalize nb s (a + i) % 128 * 2 ^ (7 * i) = X at *
  generalize gs s a i = g at *
  rw [wrap_u64 (x := ((X : Nat) : Int)) (by omega) (by omega), wrap_u64 (by omega) (by omega)]
  omega
theorem one_pow (k : Nat) (hk : k ≤ 63) : IntKind.wrap .u64 ((1 : Int) * 2 ^ (min (Int.toNat (IntKind.wrap .u64 (IntKind.wrap .i64 ((k : Nat) : Int)))) (IntKind.bits .u64))) = ((2 ^ k : Nat) : Int) := by
  have h0 : IntKind.wrap .i64 ((k : Nat) : Int) = ((k : Nat) : Int) := wrap_i64 (by omega) (by omega)
  have h3 : (2 : Nat) ^ k ≤ 2 ^ 63 := Nat.pow_le_pow_right (by decide) hk
  have e3 : (2 : Nat) ^ 63 = 9223372036854775808 := by decide
  rw [e3] at h3
  rw [h0, sh_pow k hk, Int.one_mul]
  generalize (2 : Nat) ^ k = K at *
  exact wrap_u64 (by omega) (by omega)
theorem ones_eq (g M K : Nat) (hM : 1 ≤ M) (hK : M ≤ 2 * K) (hK2 : K ≤ 9223372036854775808) (hg : g < M) (hK1 : 1 ≤ K) :
    IntKind.wrap .u64 ((g : Int) + IntKind.wrap .u64 (IntKind.wrap .u64 (IntKind.wrap .u64 ((K : Int) - 1) + (K : Int)) - IntKind.wrap .u64 ((M : Int) - 1))) = (g : Int) + ((2 * K : Nat) : Int) - (M : Int) := by
  rw [wrap_u64 (x := (K : Int) - 1) (by omega) (by omega), wrap_u64 (x := (K : Int) - 1 + (K : Int)) (by omega) (by omega), wrap_u64 (x := (M : Int) - 1) (by omega) (by omega), wrap_u64 (x := (K : Int) - 1 + (K : Int) - ((M : Int) - 1)) (by omega) (by omega), wrap_u64 (by omega) (by omega)]
  omega

section
variable {α : Type} {w : World} {rb e lo : Nat} {s : ByteArray} {r0 : Res α}

theorem leb_loop {r : Res Int} {a N : Nat} {sg : Bool} (H : Leb s e a N sg r) (hN : N = 32 ∨ N = 64) (h64 : N = 64 → sg = true) (he : e ≤ s.size) (hs : s.size ≤ 1024) (hla : lo ≤ a) {R Q : Value → World → Prop} {w0 : World} 
    (hR : ∀ w', Same [rb] w0.heap.size w0 w' → StR w' rb s e lo r → R (.int .u64 (numR r)) w') :
    ∀ (k i : Nat) (w : World), i + k = 10 → 7 * i < N → (∀ j, j < i → 128 ≤ nb s (a + j)) → a + i ≤ e → Same [rb] w0.heap.size w0 w → RdL w rb s (a + i) e → rb < w0.heap.size →
      binm_rd_leb.L1 (some ⟨rb, 0, none⟩) (N : Int) sg (a : Int) ((gs s a i : Nat) : Int) ((7 * i : Nat) : Int) R Q w := by
  intro k
  induction k with
  | zero => intro i w hi h7; omega
  | succ k ih =>
    intro i w hi h7 hp hae S0 hr hrb
    refine binm_rd_leb.step1 _ _ _ _ _ _ _ _ _ ?_
    unfold binm_rd_leb.V1
    refine cond_true' (decide_eq_true (by omega)) ?_
    have H0 : StR w rb s e lo (.ok () (a + i) : Res Unit) := ⟨by omega, hae, hr⟩
    refine (byte_spec H0 he hs).into fun v w2 hv hst S2 => ⟨_, hv, ?_⟩
    have S02 : Same [rb] w0.heap.size w0 w2 := S0.app S2
    rw [Res.bind_ok'] at hst ⊢
    simp only [nilV_some, Nat.zero_add]
    by_cases hq' : ¬ a + i < e
    · rw [nextP_out hq'] at hst ⊢
      have hst : RdX w2 rb s 3 e := hst
      have hr : r = .err 3 e := H.eof i h7 hp (by omega)
      refine ⟨_, hst.c3, cond_true' rfl ?_⟩
      have := hR w2 S02 (by rw [hr]; exact hst)
      rw [hr] at this
      exact this
    have hq : a + i < e := by omega
    rw [nextP_in hq] at hst ⊢
    obtain ⟨_, _, hL⟩ := hst
    have hb := nb_lt s (a + i)
    refine ⟨_, hL.c3, cond_false' rfl ?_⟩
    rw [show numR (Res.ok ((nb s (a + i) : Nat) : Int) (a + i + 1)) = ((nb s (a + i) : Nat) : Int) from rfl]
    have hsub : IntKind.wrap .i64 ((N : Int) - ((7 * i : Nat) : Int)) = ((N - 7 * i : Nat) : Int) := by rw [wrap_i64 (by omega) (by omega)]; omega
    rw [hsub]
    by_cases hleft : N - 7 * i < 7
    · refine cond_true' (decide_eq_true (by omega)) ?_
      have fin : ∀ (rest want v : Int) (pay : Int), rest = want ∨ rest ≠ want → (rest ≠ want → r = .err 4 a) → (rest = want → r = .ok (IntKind.wrap .u64 (v + IntKind.wrap .u64 (IntKind.wrap .u64 pay * 2 ^ (min (Int.toNat (IntKind.wrap .u64 ((7 * i : Nat) : Int))) (IntKind.bits .u64))))) (a + i + 1)) →
          binm_rd_leb.L4 (some ⟨rb, 0, none⟩) (a : Int) v ((7 * i : Nat) : Int) pay rest want R Q w2 := fun rest want v pay hd h1 h2 => by
        refine binm_rd_leb.step4 _ _ _ _ _ _ _ _ _ _ ?_
        unfold binm_rd_leb.V4
        by_cases hrw : rest = want
        · refine cond_false' (by simpa using hrw) ⟨(wrap64_rng _).1, ?_⟩
          have e1 := h2 hrw
          have := hR w2 S02 (by rw [e1]; exact ⟨by omega, by omega, hL⟩)
          rw [e1] at this
          exact this
        · refine cond_true' (by simpa using hrw) ?_
          have H1 : StR w2 rb s e lo (.ok () (a + i + 1) : Res Unit) := ⟨by omega, by omega, hL⟩
          refine (fail_spec (β := Int) H1 4 (a : Int) (by decide)).into fun v w3 hv hst S3 => ⟨hv, ?_⟩
          have e1 := h1 hrw
          have S03 : Same [rb] w0.heap.size w0 w3 := S02.app S3
          have := hR w3 S03 (by rw [e1]; exact hst)
          rw [e1] at this
          exact this
      rcases hN with rfl | rfl
      · obtain rfl : i = 4 := by omega
        have hl := H.l32 rfl hp hq
        have hg := gs_lt s a 4
        have e28 : (2 : Nat) ^ (7 * 4) = 268435456 := by decide
        rw [e28] at hg
        have k1 : IntKind.wrap .i64 ((1 : Int) * 2 ^ (min (Int.toNat (IntKind.wrap .u64 ((32 - 7 * 4 : Nat) : Int))) (IntKind.bits .i64))) = 16 := rfl
        have k2 : (2 : Int) ^ (min (Int.toNat (IntKind.wrap .u64 ((32 - 7 * 4 : Nat) : Int))) (IntKind.bits .i64)) = 16 := rfl
        have k3 : (2 : Int) ^ (min (Int.toNat (IntKind.wrap .u64 (IntKind.wrap .i64 (((32 - 7 * 4 : Nat) : Int) - 1)))) (IntKind.bits .i64)) = 8 := rfl
        have k4 : IntKind.wrap .i64 (IntKind.wrap .i64 ((1 : Int) * 2 ^ (min (Int.toNat (IntKind.wrap .u64 (IntKind.wrap .i64 ((7 : Int) - ((32 - 7 * 4 : Nat) : Int))))) (IntKind.bits .i64))) - 1) = 7 := rfl
        have m1 : Int.tmod ((nb s (a + 4) : Nat) : Int) 16 = ((nb s (a + 4) % 16 : Nat) : Int) := rfl
        have m2 : Int.fdiv ((nb s (a + 4) : Nat) : Int) 16 = ((nb s (a + 4) / 16 : Nat) : Int) := by rw [Int.fdiv_eq_ediv_of_nonneg _ (by decide)]; omega
        have m3 : Int.fdiv ((nb s (a + 4) % 16 : Nat) : Int) 8 = ((nb s (a + 4) % 16 / 8 : Nat) : Int) := by rw [Int.fdiv_eq_ediv_of_nonneg _ (by decide)]; omega
        have m4 : IntKind.wrap .u64 (((gs s a 4 : Nat) : Int) + IntKind.wrap .u64 (IntKind.wrap .u64 ((nb s (a + 4) % 16 : Nat) : Int) * 2 ^ (min (Int.toNat (IntKind.wrap .u64 ((7 * 4 : Nat) : Int))) (IntKind.bits .u64)))) = ((gs s a 4 + nb s (a + 4) % 16 * 268435456 : Nat) : Int) := by
          rw [sh_pow (7 * 4) (by omega), e28, wrap_u64 (x := ((nb s (a + 4) % 16 : Nat) : Int)) (by omega) (by omega), wrap_u64 (x := ((nb s (a + 4) % 16 : Nat) : Int) * ((268435456 : Nat) : Int)) (by omega) (by omega), wrap_u64 (by omega) (by omega)]
          omega
        rw [k1, k2, k3, m1, m2, m3]
        have F := fun (want : Nat) (hw : want = (if sg = true ∧ 8 ≤ nb s (a + 4) % 16 then 7 else 0)) => fin ((nb s (a + 4) / 16 : Nat) : Int) (want : Int) ((gs s a 4 : Nat) : Int) ((nb s (a + 4) % 16 : Nat) : Int) (by omega)
          (fun hne => by rw [hl, if_pos (by rw [← hw]; omega)]) (fun heq => by rw [hl, if_neg (by rw [← hw]; omega), m4])
        have L2 : ∀ t : Bool, (t = true ↔ sg = true ∧ 8 ≤ nb s (a + 4) % 16) → binm_rd_leb.L2 (some ⟨rb, 0, none⟩) (a : Int) ((gs s a 4 : Nat) : Int) ((7 * 4 : Nat) : Int) ((32 - 7 * 4 : Nat) : Int) ((nb s (a + 4) % 16 : Nat) : Int) ((nb s (a + 4) / 16 : Nat) : Int) 0 t R Q w2 := fun t ht => by
          refine binm_rd_leb.step2 _ _ _ _ _ _ _ _ _ _ _ _ ?_
          unfold binm_rd_leb.V2
          rw [k4]
          refine cond_intro (fun e1 => ⟨by decide, F 7 (by rw [if_pos (ht.1 e1)])⟩) (fun e1 => F 0 (by rw [if_neg (fun hh => by rw [ht.2 hh] at e1; cases e1)]))
        refine ⟨by decide, by trivial, by decide, by decide, cond_intro (fun e1 => ⟨by decide, L2 _ ?_⟩) (fun e1 => L2 _ ?_)⟩
        · rw [e1]
          have : ((((nb s (a + 4) % 16 / 8 : Nat) : Int) == 1) = true) ↔ 8 ≤ nb s (a + 4) % 16 := by rw [beq_iff_eq]; omega
          rw [this]; simp
        · rw [e1]; simp
      · obtain rfl : i = 9 := by omega
        have hsg := h64 rfl
        subst hsg
        have hl := H.l64 rfl hp hq
        have hg := gs_lt s a 9
        have e63 : (2 : Nat) ^ (7 * 9) = 9223372036854775808 := by decide
        rw [e63] at hg
        have k1 : IntKind.wrap .i64 ((1 : Int) * 2 ^ (min (Int.toNat (IntKind.wrap .u64 ((64 - 7 * 9 : Nat) : Int))) (IntKind.bits .i64))) = 2 := rfl
        have k2 : (2 : Int) ^ (min (Int.toNat (IntKind.wrap .u64 ((64 - 7 * 9 : Nat) : Int))) (IntKind.bits .i64)) = 2 := rfl
        have k3 : (2 : Int) ^ (min (Int.toNat (IntKind.wrap .u64 (IntKind.wrap .i64 (((64 - 7 * 9 : Nat) : Int) - 1)))) (IntKind.bits .i64)) = 1 := rfl
        have k4 : IntKind.wrap .i64 (IntKind.wrap .i64 ((1 : Int) * 2 ^ (min (Int.toNat (IntKind.wrap .u64 (IntKind.wrap .i64 ((7 : Int) - ((64 - 7 * 9 : Nat) : Int))))) (IntKind.bits .i64))) - 1) = 63 := rfl
        have m1 : Int.tmod ((nb s (a + 9) : Nat) : Int) 2 = ((nb s (a + 9) % 2 : Nat) : Int) := rfl
        have m2 : Int.fdiv ((nb s (a + 9) : Nat) : Int) 2 = ((nb s (a + 9) / 2 : Nat) : Int) := by rw [Int.fdiv_eq_ediv_of_nonneg _ (by decide)]; omega
        have m3 : Int.fdiv ((nb s (a + 9) % 2 : Nat) : Int) 1 = ((nb s (a + 9) % 2 : Nat) : Int) := by rw [Int.fdiv_eq_ediv_of_nonneg _ (by decide)]; omega
        have m4 : IntKind.wrap .u64 (((gs s a 9 : Nat) : Int) + IntKind.wrap .u64 (IntKind.wrap .u64 ((nb s (a + 9) % 2 : Nat) : Int) * 2 ^ (min (Int.toNat (IntKind.wrap .u64 ((7 * 9 : Nat) : Int))) (IntKind.bits .u64)))) = ((gs s a 9 + nb s (a + 9) % 2 * 9223372036854775808 : Nat) : Int) := by
          rw [sh_pow (7 * 9) (by omega), e63, wrap_u64 (x := ((nb s (a + 9) % 2 : Nat) : Int)) (by omega) (by omega)]
          have hz : ((nb s (a + 9) % 2 : Nat) : Int) * ((9223372036854775808 : Nat) : Int) = ((nb s (a + 9) % 2 * 9223372036854775808 : Nat) : Int) := (Int.natCast_mul _ _).symm
          have hb2 : nb s (a + 9) % 2 * 9223372036854775808 ≤ 9223372036854775808 := by omega
          rw [hz]
          generalize nb s (a + 9) % 2 * 9223372036854775808 = X at *
          rw [wrap_u64 (x := (X : Int)) (by omega) (by omega), wrap_u64 (by omega) (by omega)]
          omega
        rw [k1, k2, k3, m1, m2, m3]
        have F := fun (want : Nat) (hw : want = (if true = true ∧ nb s (a + 9) % 2 = 1 then 63 else 0)) => fin ((nb s (a + 9) / 2 : Nat) : Int) (want : Int) ((gs s a 9 : Nat) : Int) ((nb s (a + 9) % 2 : Nat) : Int) (by omega)
          (fun hne => by rw [hl, if_pos (by rw [← hw]; omega)]) (fun heq => by rw [hl, if_neg (by rw [← hw]; omega), m4])
        have L2 : ∀ t : Bool, (t = true ↔ true = true ∧ nb s (a + 9) % 2 = 1) → binm_rd_leb.L2 (some ⟨rb, 0, none⟩) (a : Int) ((gs s a 9 : Nat) : Int) ((7 * 9 : Nat) : Int) ((64 - 7 * 9 : Nat) : Int) ((nb s (a + 9) % 2 : Nat) : Int) ((nb s (a + 9) / 2 : Nat) : Int) 0 t R Q w2 := fun t ht => by
          refine binm_rd_leb.step2 _ _ _ _ _ _ _ _ _ _ _ _ ?_
          unfold binm_rd_leb.V2
          rw [k4]
          refine cond_intro (fun e1 => ⟨by decide, F 63 (by rw [if_pos (ht.1 e1)])⟩) (fun e1 => F 0 (by rw [if_neg (fun hh => by rw [ht.2 hh] at e1; cases e1)]))
        refine ⟨by decide, by trivial, by decide, by decide, cond_intro (fun e1 => ⟨by decide, L2 _ ?_⟩) (fun e1 => by cases e1)⟩
        have : ((((nb s (a + 9) % 2 : Nat) : Int) == 1) = true) ↔ nb s (a + 9) % 2 = 1 := by rw [beq_iff_eq]; omega
        rw [this]; simp
    · refine cond_false' (decide_eq_false (by omega)) ⟨(wrap64_rng _).1, ?_⟩
      rw [leb_add s a i (by omega)]
      by_cases hb128 : nb s (a + i) < 128
      · refine cond_true' (decide_eq_true (by omega)) ?_
        have hm := H.mid i (by omega) hp hq hb128
        have L5 : ∀ v : Int, r = .ok v (a + i + 1) → binm_rd_leb.L5 v R Q w2 := fun v hv => by
          refine binm_rd_leb.step5 _ _ _ _ ?_
          unfold binm_rd_leb.V5
          have := hR w2 S02 (by rw [hv]; exact ⟨by omega, by omega, hL⟩)
          rw [hv] at this
          exact this
        have L3 : ∀ t : Bool, (t = true ↔ sg = true ∧ 64 ≤ nb s (a + i)) → binm_rd_leb.L3 (N : Int) ((gs s a (i + 1) : Nat) : Int) ((7 * i : Nat) : Int) t R Q w2 := fun t ht => by
          refine binm_rd_leb.step3 _ _ _ _ _ _ _ ?_
          unfold binm_rd_leb.V3
          refine cond_intro (fun e1 => ⟨(wrap64_rng _).1, (wrap64_rng _).1, (wrap64_rng _).1, L5 _ ?_⟩) (fun e1 => L5 _ ?_)
          · rw [hm, if_pos (ht.1 e1)]
            rw [show (N : Int) - 1 = ((N - 1 : Nat) : Int) by omega, show ((7 * i : Nat) : Int) + 7 = ((7 * i + 7 : Nat) : Int) by omega, one_pow (N - 1) (by omega), one_pow (7 * i + 7) (by omega)]
            have hg := gs_lt s a (i + 1)
            have e1 : 2 * 2 ^ (N - 1) = 2 ^ N := by conv => rhs; rw [show N = N - 1 + 1 by omega, Nat.pow_succ]
                                                    omega
            have e2 : (2 : Nat) ^ (7 * i + 7) ≤ 2 * 2 ^ (N - 1) := by rw [e1]; exact Nat.pow_le_pow_right (by decide) (by omega)
            have e3 : (2 : Nat) ^ (N - 1) ≤ 2 ^ 63 := Nat.pow_le_pow_right (by decide) (by omega)
            have e4 : (2 : Nat) ^ 63 = 9223372036854775808 := by decide
            rw [ones_eq _ _ _ (Nat.two_pow_pos _) e2 (by omega) (by rw [show 7 * i + 7 = 7 * (i + 1) by omega]; exact hg) (Nat.two_pow_pos _), e1]
          · rw [hm, if_neg (fun hh => by rw [ht.2 hh] at e1; cases e1)]
        refine cond_intro (fun e1 => L3 _ ?_) (fun e1 => L3 _ ?_)
        · rw [e1, decide_eq_true_eq]; simp; omega
        · rw [e1]; simp
      · refine cond_false' (decide_eq_false (by omega)) ?_
        have hsh : IntKind.wrap .i64 (((7 * i : Nat) : Int) + 7) = ((7 * (i + 1) : Nat) : Int) := by rw [wrap_i64 (by omega) (by omega)]; omega
        rw [hsh]
        exact ih (i + 1) w2 (by omega) (by omega) (fun j hj => by
          by_cases hji : j = i
          · rw [hji]; omega
          · exact hp j (by omega)) (by omega) S02 hL hrb

theorem leb_spec (h : StR w rb s e lo r0) (he : e ≤ s.size) (hs : s.size ≤ 1024) (N : Nat) (sg : Bool) (P : Nat → Res Int) (H : ∀ a, Leb s e a N sg (P a)) (hN : N = 32 ∨ N = 64) (h64 : N = 64 → sg = true) :
    MRuns binm_rd_leb.id #[rp rb, .int .i64 (N : Int), .bool sg] w rb s e lo r0 (fun _ p => P p) (fun r v => v = .int .u64 (numR r)) := by
  refine binm_rd_leb.enter _ _ _ _ _ _ ?_
  unfold binm_rd_leb.V
  simp only [nilV_some, Nat.zero_add]
  cases r0 using Res.cs with
  | ok a q =>
    obtain ⟨h1, h2, hL⟩ := h
    refine ⟨_, hL.c1, ?_⟩
    exact leb_loop (H q) hN h64 he hs h1 (w0 := w) (fun w' S' hst => ⟨rfl, hst, S'⟩) 10 0 w rfl (by omega) (fun j hj => by omega) (by omega) (Same.refl _ _ _) hL hL.lt
  | err n x =>
    have hX : RdX w rb s n x := h
    obtain ⟨p, h1⟩ := hX.c1
    refine ⟨_, h1, ?_⟩
    refine binm_rd_leb.step1 _ _ _ _ _ _ _ _ _ ?_
    unfold binm_rd_leb.V1
    refine cond_true' (decide_eq_true (by omega)) ?_
    refine (byte_spec h he hs).into fun v w2 hv hst S2 => ⟨_, hv, ?_⟩
    have hst : RdX w2 rb s n x := hst
    simp only [nilV_some, Nat.zero_add]
    refine ⟨_, hst.c3, cond_true' (by simpa using hst.n0) ⟨rfl, hst, S2⟩⟩

/-! ### u32, count -/
theorem u32m_spec (h : StR w rb s e lo r0) (he : e ≤ s.size) (hs : s.size ≤ 1024) : MRuns binm_rd_u32.id #[rp rb] w rb s e lo r0 (fun _ p => u32P s e p) (fun r v => v = .int .i64 (numR r) ∧ 0 ≤ numR r ∧ numR r ≤ 4294967295) := by
  refine binm_rd_u32.enter _ _ _ _ ?_
  unfold binm_rd_u32.V
  refine (leb_spec h he hs 32 false (u32P s e) (u32_leb s e) (.inl rfl) (by decide)).into fun v w2 hv hst S2 => ⟨_, hv, ?_⟩
  have hr : 0 ≤ numR (r0.bind fun _ p => u32P s e p) ∧ numR (r0.bind fun _ p => u32P s e p) ≤ 4294967295 := by
    cases hz : r0.bind fun _ p => u32P s e p using Res.cs with
    | ok n q => 
      obtain ⟨a, q', _, h2⟩ := bind_ok hz
      exact u32P_rng h2
    | err n x => exact ⟨Int.le_refl 0, show (0 : Int) ≤ 4294967295 by decide⟩
  rw [wrap_i64 (by omega) (by omega)]
  exact ⟨⟨rfl, hr⟩, hst, S2⟩
theorem countm_spec (h : StR w rb s e lo r0) (he : e ≤ s.size) (hs : s.size ≤ 1024) (max : Int) : MRuns binm_rd_count.id #[rp rb, .int .i64 max] w rb s e lo r0 (fun _ p => countP s e max p) (fun r v => v = .int .i64 (natR r : Int)) := by
  refine binm_rd_count.enter _ _ _ _ _ ?_
  unfold binm_rd_count.V
  simp only [nilV_some, Nat.zero_add]
  obtain ⟨p0, h1, hp0⟩ := h.c1
  refine ⟨_, h1, ?_⟩
  refine (u32m_spec h he hs).into fun v w2 hv hst S2 => ⟨_, hv.1, ?_⟩
  obtain ⟨-, hr⟩ := hv
  cases r0 using Res.cs with
  | ok a q =>
    rw [Res.bind_ok'] at hst hr ⊢
    rw [Res.bind_ok']
    unfold countP
    cases hz : u32P s e q using Res.cs with
    | ok n q2 =>
      rw [hz] at hst hr
      rw [Res.bind_ok']
      have hr : 0 ≤ n ∧ n ≤ 4294967295 := hr
      by_cases hm : max < n
      · refine cond_true' (decide_eq_true hm) ?_
        rw [if_pos hm, hp0 a q rfl]
        refine (fail_spec (β := Nat) hst 7 (q : Int) (by decide)).into fun v w3 hv hst3 S3 => ⟨hv, rfl, hst3, S2.app S3⟩
      · refine cond_false' (decide_eq_false (by exact hm)) ?_
        rw [if_neg hm]
        refine ⟨?_, hst, S2⟩
        show Value.int .i64 n = .int .i64 ((n.toNat : Nat) : Int)
        rw [Int.toNat_of_nonneg hr.1]
    | err n x =>
      rw [hz] at hst hr
      rw [Res.bind_err']
      refine cond_intro (fun _ => ?_) (fun _ => ⟨rfl, hst, S2⟩)
      refine (fail_spec (β := Nat) hst 7 p0 (by decide)).into fun v w3 hv hst3 S3 => ⟨hv, rfl, hst3, S2.app S3⟩
  | err n x =>
    refine cond_intro (fun _ => ?_) (fun _ => ⟨rfl, hst, S2⟩)
    refine (fail_spec (β := Nat) hst 7 p0 (by decide)).into fun v w3 hv hst3 S3 => ⟨hv, rfl, hst3, S2.app S3⟩
end
end Go.Proofs.Qxb6500316a
