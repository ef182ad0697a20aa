/-
  What was decoded is well formed.
-/
import Derived.Test.Qxb6500316aWfA
set_option linter.unusedSimpArgs false
set_option linter.unusedVariables false
set_option maxRecDepth 100000
namespace Go.Proofs.Qxb6500316a
open Go Go.Vc

/-! ### Constants -/
theorem slebL_sh {s : ByteArray} {e start : Nat} {bits : Int} : ∀ (k : Nat) (v sh : Int) (p : Nat) {x : Int × Int × Int} {q : Nat}, slebL s e start bits k v sh p = .ok x q → x.2.2 < bits + 7
  | 0, v, sh, p, x, q, h => by cases h
  | k + 1, v, sh, p, x, q, h => by
    rw [slebL_succ] at h
    split at h
    · cases h
    · obtain ⟨c, q', h1, h2⟩ := bind_ok h
      split at h2
      · (first | (injection h2 with z__; injection z__ with h3 h4) | injection h2 with h3 h4); subst h3; show sh + 7 < _; omega
      · exact slebL_sh k _ _ _ h2
theorem sleb32_le {s : ByteArray} {e p q : Nat} {y : Int} (h : slebP s e 32 p = .ok y q) : y ≤ 4294967295 := by
  obtain ⟨x, q', h1, h2⟩ := bind_ok h
  have g := slebL_sh _ _ _ _ h1
  cases hf : slebFin 32 x.1 x.2.1 x.2.2 with
  | none => rw [hf] at h2; cases h2
  | some z =>
    rw [hf] at h2
    (first | (injection h2 with z__; injection z__ with h3 h4) | injection h2 with h3 h4); subst h3
    unfold slebFin at hf
    rw [if_neg (by omega), if_pos rfl] at hf
    split at hf
    · cases hf
    · injection hf with hf
      rw [← hf]
      have := wrap32_rng (slebX x.1 x.2.2)
      rw [wrap_u64 (by omega) (by omega)]; omega
theorem bOr_lt {x y : Int} {n : Nat} (hn : n ≤ 64) (hx : 0 ≤ x ∧ x < 2 ^ n) (hy : 0 ≤ y ∧ y < 2 ^ n) : bOr .u64 x y < 2 ^ n := by
  obtain ⟨a, rfl⟩ := Int.eq_ofNat_of_zero_le hx.1
  obtain ⟨b, rfl⟩ := Int.eq_ofNat_of_zero_le hy.1
  have ha : a < 2 ^ n := by have := hx.2; exact_mod_cast this
  have hb : b < 2 ^ n := by have := hy.2; exact_mod_cast this
  have h64 : 2 ^ n ≤ 2 ^ 64 := Nat.pow_le_pow_right (by decide) hn
  have e1 : (BitVec.ofInt 64 (a : Int)).toNat = a := by rw [BitVec.ofInt_natCast, BitVec.toNat_ofNat]; exact Nat.mod_eq_of_lt (by omega)
  have e2 : (BitVec.ofInt 64 (b : Int)).toNat = b := by rw [BitVec.ofInt_natCast, BitVec.toNat_ofNat]; exact Nat.mod_eq_of_lt (by omega)
  have hor : a ||| b < 2 ^ n := Nat.or_lt_two_pow ha hb
  show IntKind.wrap .u64 (((BitVec.ofInt 64 (a : Int) ||| BitVec.ofInt 64 (b : Int)).toNat : Nat) : Int) < _
  rw [BitVec.toNat_or, e1, e2, wrap_u64 (by omega) (by omega)]
  exact_mod_cast hor
theorem wordL_bd (t : ByteArray) : ∀ (k m : Nat) (v : Int), m + k ≤ 8 → 0 ≤ v ∧ v < 2 ^ (8 * m) → wordL t k v < 2 ^ (8 * (m + k))
  | 0, m, v, _, h => h.2
  | k + 1, m, v, hm, h => by
    have e8 : (2 : Int) ^ (8 * (m + 1)) = 2 ^ (8 * m) * 256 := by rw [Nat.mul_add, Int.pow_add]; rfl
    have h64 : (2 : Int) ^ (8 * (m + 1)) ≤ 2 ^ 64 := by
      have : (2 : Nat) ^ (8 * (m + 1)) ≤ 2 ^ 64 := Nat.pow_le_pow_right (by decide) (by omega)
      exact_mod_cast this
    have hb := byte_rng t k
    have hv : 0 ≤ v * 2 ^ (8 : Nat) ∧ v * 2 ^ (8 : Nat) < 2 ^ (8 * (m + 1)) := by
      have e256 : (2 : Int) ^ (8 : Nat) = 256 := by decide
      rw [e256, e8]
      exact ⟨Int.mul_nonneg h.1 (by decide), Int.mul_lt_mul_of_pos_right h.2 (by decide)⟩
    have p64 : (2 : Int) ^ 64 = 18446744073709551616 := by decide
    have hpos : (256 : Int) ≤ 2 ^ (8 * (m + 1)) := by
      have : (2 : Nat) ^ 8 ≤ 2 ^ (8 * (m + 1)) := Nat.pow_le_pow_right (by decide) (by omega)
      have h2 : (2 : Nat) ^ 8 = 256 := by decide
      rw [h2] at this
      exact_mod_cast this
    have hy : 0 ≤ (if k < t.size then byteAt t k else 0) ∧ (if k < t.size then byteAt t k else 0) < 256 := by
      split
      · omega
      · omega
    have hlt := bOr_lt (x := IntKind.wrap .u64 (v * 2 ^ (8 : Nat))) (y := IntKind.wrap .u64 (if k < t.size then byteAt t k else 0)) (n := 8 * (m + 1)) (by omega) (by rw [wrap_u64 hv.1 (by omega)]; exact hv) (by rw [wrap_u64 hy.1 (by omega)]; exact ⟨hy.1, by omega⟩)
    have := wordL_bd t k (m + 1) _ (by omega) ⟨(bOr64_rng _ _).1, hlt⟩
    rw [show m + 1 + k = m + (k + 1) by omega] at this
    exact this
theorem wordL_skip (t : ByteArray) (k : Nat) (h : t.size ≤ k) : wordL t (k + 1) 0 = wordL t k 0 := by
  show wordL t k (bOr .u64 (IntKind.wrap .u64 (0 * 2 ^ (8 : Nat))) (IntKind.wrap .u64 (if k < t.size then byteAt t k else 0))) = _
  rw [if_neg (by omega), Int.zero_mul]; rfl
theorem word4_le {s : ByteArray} {e p q : Nat} {y : Int} (h : wordP s e 4 p = .ok y q) : y ≤ 4294967295 := by
  obtain ⟨x, q', h1, h2⟩ := bind_ok h
  have hx := takeP_le h1
  (first | (injection h2 with z__; injection z__ with h3 h4) | injection h2 with h3 h4); subst h3
  rw [wordL_skip x 7 (by omega), wordL_skip x 6 (by omega), wordL_skip x 5 (by omega), wordL_skip x 4 (by omega)]
  have := wordL_bd x 4 0 0 (by decide) ⟨by decide, by decide⟩
  have e : (2 : Int) ^ (8 * (0 + 4)) = 4294967296 := by decide
  rw [e] at this; omega
theorem restP_kon {s : ByteArray} {e p q : Nat} {op at_ : Int} {i : Ins} (h1 : 65 ≤ op) (h2 : op ≤ 68) (h : restP s e op at_ p = .ok i q) : Kon i := by
  unfold restP at h
  rw [if_neg (by omega), if_neg (by omega), if_neg (by omega), if_neg (by omega), if_neg (by omega)] at h
  split at h
  · obtain ⟨c, q', g1, g2⟩ := bind_ok h
    (first | (injection g2 with z__; injection z__ with g3 g4) | injection g2 with g3 g4); subst g3
    exact ⟨h1, h2, rfl, fun _ => sleb32_le g1⟩
  split at h
  · rename_i ho
    obtain ⟨c, q', g1, g2⟩ := bind_ok h
    (first | (injection g2 with z__; injection z__ with g3 g4) | injection g2 with g3 g4); subst g3
    exact ⟨h1, h2, rfl, fun g => by have g : op = 65 ∨ op = 67 := g; omega⟩
  split at h
  · obtain ⟨c, q', g1, g2⟩ := bind_ok h
    (first | (injection g2 with z__; injection z__ with g3 g4) | injection g2 with g3 g4); subst g3
    exact ⟨h1, h2, rfl, fun _ => word4_le g1⟩
  split at h
  · rename_i ho
    obtain ⟨c, q', g1, g2⟩ := bind_ok h
    (first | (injection g2 with z__; injection z__ with g3 g4) | injection g2 with g3 g4); subst g3
    exact ⟨h1, h2, rfl, fun g => by have g : op = 65 ∨ op = 67 := g; omega⟩
  · omega
theorem constP_kon {s : ByteArray} {e p q : Nat} {i : Ins} (h : constP s e p = .ok i q) : Kon i := by
  obtain ⟨op, q1, h1, h2⟩ := bind_ok h
  split at h2
  · cases h2
  · rename_i ho
    obtain ⟨i', q2, h3, h4⟩ := bind_ok h2
    obtain ⟨c, q3, h5, h6⟩ := bind_ok h4
    split at h6
    · (first | (injection h6 with z__; injection z__ with h7 h8) | injection h6 with h7 h8); subst h7; exact restP_kon (by omega) (by omega) h3
    · cases h6
/-- The instruction that was read bears its opcode; but br_table it is plain. -/
theorem restP_pln {s : ByteArray} {e p q : Nat} {op at_ : Int} {i : Ins} (ho : 0 ≤ op ∧ op ≤ 255) (h : restP s e op at_ p = .ok i q) : i.op = op ∧ Pln i := by
  by_cases hk : 65 ≤ op ∧ op ≤ 68
  · have k := restP_kon hk.1 hk.2 h
    refine ⟨?_, .inr (.inr (.inr (.inr (.inl k))))⟩
    unfold restP at h
    rw [if_neg (by omega), if_neg (by omega), if_neg (by omega), if_neg (by omega), if_neg (by omega)] at h
    split at h
    · obtain ⟨c, q', g1, g2⟩ := bind_ok h
      (first | (injection g2 with z__; injection z__ with g3 g4) | injection g2 with g3 g4); subst g3; rfl
    split at h
    · obtain ⟨c, q', g1, g2⟩ := bind_ok h
      (first | (injection g2 with z__; injection z__ with g3 g4) | injection g2 with g3 g4); subst g3; rfl
    split at h
    · obtain ⟨c, q', g1, g2⟩ := bind_ok h
      (first | (injection g2 with z__; injection z__ with g3 g4) | injection g2 with g3 g4); subst g3; rfl
    split at h
    · obtain ⟨c, q', g1, g2⟩ := bind_ok h
      (first | (injection g2 with z__; injection z__ with g3 g4) | injection g2 with g3 g4); subst g3; rfl
    · omega
  unfold restP at h
  split at h
  · rename_i g
    (first | (injection h with z__; injection z__ with h1 h2) | injection h with h1 h2); subst h1
    exact ⟨rfl, .inr (.inr (.inr (.inr (.inr ⟨by simp only; omega, rfl, rfl⟩))))⟩
  split at h
  · rename_i g
    obtain ⟨c, q', h1, h2⟩ := bind_ok h
    have hc := nextP_rng h1
    split at h2
    · cases h2
    · rename_i g2
      (first | (injection h2 with z__; injection z__ with h3 h4) | injection h2 with h3 h4); subst h3
      have ec : IntKind.wrap .u32 c = c := wrap_u32 hc.1 (by omega)
      refine ⟨rfl, .inl ⟨g, rfl, ?_⟩⟩
      show IntKind.wrap .u32 c = 64 ∨ VT (IntKind.wrap .u32 c)
      rw [ec]
      by_cases h64 : c = 64
      · exact .inl h64
      · exact .inr ⟨by omega, by omega⟩
  split at h
  · rename_i g
    obtain ⟨c, q', h1, h2⟩ := bind_ok h
    (first | (injection h2 with z__; injection z__ with h3 h4) | injection h2 with h3 h4); subst h3
    refine ⟨rfl, ?_⟩
    by_cases hl : 32 ≤ op
    · exact .inr (.inr (.inl ⟨⟨hl, by show op ≤ 36; omega⟩, rfl⟩))
    · exact .inr (.inl ⟨by simp only; omega, rfl⟩)
  split at h
  · rename_i g
    obtain ⟨c, q', h1, h2⟩ := bind_ok h
    obtain ⟨_, q2, h3, h4⟩ := bind_ok h2
    (first | (injection h4 with z__; injection z__ with h5 h6) | injection h4 with h5 h6); subst h5
    exact ⟨rfl, .inr (.inl ⟨.inr (.inr (.inr g)), rfl⟩)⟩
  split at h
  · rename_i g
    obtain ⟨c, q', h1, h2⟩ := bind_ok h
    (first | (injection h2 with z__; injection z__ with h3 h4) | injection h2 with h3 h4); subst h3
    exact ⟨rfl, .inr (.inr (.inr (.inr (.inr ⟨by simp only; omega, rfl, rfl⟩))))⟩
  rw [if_neg (by omega), if_neg (by omega), if_neg (by omega), if_neg (by omega)] at h
  split at h
  · rename_i g
    obtain ⟨c, q', h1, h2⟩ := bind_ok h
    obtain ⟨y, q2, h3, h4⟩ := bind_ok h2
    (first | (injection h4 with z__; injection z__ with h5 h6) | injection h4 with h5 h6); subst h5
    exact ⟨rfl, .inr (.inr (.inr (.inl ⟨g, (u32P_rng h3).2⟩)))⟩
  split at h
  · cases h
  · rename_i g
    (first | (injection h with z__; injection z__ with h1 h2) | injection h with h1 h2); subst h1
    exact ⟨rfl, .inr (.inr (.inr (.inr (.inr ⟨by simp only; omega, rfl, rfl⟩))))⟩

/-! ### Bodies -/
theorem wfGo_congr {ins : Nat → Ins} {nI nTab : Nat} : ∀ (k i d : Nat) (may may' : Nat → Bool) (u : Nat), (∀ j, j < d → may j = may' j) → wfGo ins nI nTab k i d may u → wfGo ins nI nTab k i d may' u
  | 0, i, d, may, may', u, _, h => h
  | k + 1, i, d, may, may', u, hm, h => by
    rw [wfGo_succ] at h ⊢
    split at h
    · rename_i g
      rw [if_pos g]
      exact ⟨h.1, h.2.1, h.2.2.1, wfGo_congr k _ _ _ _ _ hm h.2.2.2⟩
    · rename_i g
      rw [if_neg g]
      refine ⟨h.1, ?_⟩
      have h := h.2
      split at h
      · rename_i g2
        rw [if_pos g2]
        refine ⟨h.1, wfGo_congr k _ _ _ _ _ (fun j hj => ?_) h.2⟩
        unfold upd
        split
        · rfl
        · exact hm j (by omega)
      rename_i g2
      rw [if_neg g2]
      split at h
      · rename_i g5
        rw [if_pos g5]
        refine ⟨h.1, by rw [← hm (d - 1) (by omega)]; exact h.2.1, wfGo_congr k _ _ _ _ _ (fun j hj => ?_) h.2.2⟩
        unfold upd
        split
        · rfl
        · exact hm j hj
      rename_i g5
      rw [if_neg g5]
      split at h
      · rename_i g11
        rw [if_pos g11]
        split at h
        · rename_i g0
          rw [if_pos g0]; exact h
        · rename_i g0
          rw [if_neg g0]
          exact wfGo_congr k _ _ _ _ _ (fun j hj => hm j (by omega)) h
      · rename_i g11
        rw [if_neg g11]
        exact wfGo_congr k _ _ _ _ _ hm h
theorem brL_nTab {s : ByteArray} {e : Nat} : ∀ (k : Nat) (c : Sc) (q : Nat) {c' : Sc} {q' : Nat}, brL s e k c q = .ok c' q' → c'.nTab = c.nTab + k ∧ c'.nI = c.nI ∧ c'.ins = c.ins ∧ c'.nO = c.nO ∧ c'.opn = c.opn
  | 0, c, q, c', q', h => by (first | (injection h with z__; injection z__ with h1 h2) | injection h with h1 h2); subst h1; exact ⟨rfl, rfl, rfl, rfl, rfl⟩
  | k + 1, c, q, c', q', h => by
    obtain ⟨x, q1, h1, h2⟩ := bind_ok h
    obtain ⟨e1, e2, e3, e4, e5⟩ := brL_nTab k (c.tab x) q1 h2
    exact ⟨by rw [e1]; show c.nTab + 1 + k = _; omega, e2, e3, e4, e5⟩
abbrev mayOf (c : Sc) : Nat → Bool := fun j => c.opn j == 4
theorem bodyL_wf {s : ByteArray} {e : Nat} : ∀ (k : Nat) (c : Sc) (p : Nat) {c' : Sc} {q : Nat}, bodyL s e k c p = .ok c' q → c.nO ≤ 6 →
    (∀ j, j < c.nI → c'.ins j = c.ins j) ∧ c.nI < c'.nI ∧ c.nTab ≤ c'.nTab ∧ wfGo c'.ins c'.nI c'.nTab (c'.nI - c.nI) c.nI c.nO (mayOf c) c.nTab
  | 0, c, p, c', q, h, _ => by cases h
  | k + 1, c, p, c', q, h, hO => by
    haveI := outNil
    rw [bodyL_succ] at h
    obtain ⟨op, q1, h1, h2⟩ := bind_ok h
    obtain ⟨x, q2, h3, h4⟩ := bind_ok h2
    have hop := nextP_rng h1
    -- what was read
    have key : x.1.op = op ∧ x.2.nI = c.nI ∧ x.2.ins = c.ins ∧ x.2.nO = c.nO ∧ x.2.opn = c.opn ∧ c.nTab ≤ x.2.nTab ∧
        ((op = 14 ∧ x.1.x = c.nTab ∧ 1 ≤ x.1.y ∧ x.1.y = (x.2.nTab : Int) - c.nTab) ∨ (op ≠ 14 ∧ x.2.nTab = c.nTab ∧ Pln x.1)) := by
      unfold restX at h3
      split at h3
      · rename_i g
        obtain ⟨n, q3, h5, h6⟩ := bind_ok h3
        obtain ⟨c1, q4, h7, h8⟩ := bind_ok h6
        obtain ⟨e1, e2, e3, e4, e5⟩ := brL_nTab (n + 1) c q3 h7
        (first | (injection h8 with z__; injection z__ with h9 h10) | injection h8 with h9 h10); subst h9
        exact ⟨g.symm, e2, e3, e4, e5, by show c.nTab ≤ c1.nTab; omega, .inl ⟨g, rfl, by show (1 : Int) ≤ ((n + 1 : Nat) : Int); omega, by show ((n + 1 : Nat) : Int) = (c1.nTab : Int) - c.nTab; omega⟩⟩
      · rename_i g
        obtain ⟨i', q3, h5, h6⟩ := bind_ok h3
        (first | (injection h6 with z__; injection z__ with h9 h10) | injection h6 with h9 h10); subst h9
        obtain ⟨p1, p2⟩ := restP_pln hop h5
        exact ⟨p1, rfl, rfl, rfl, rfl, Nat.le_refl _, .inr ⟨g, rfl, p2⟩⟩
    obtain ⟨k1, k2, k3, k4, k5, k6, k7⟩ := key
    -- one step more
    have more_ins : ∀ j, j < c.nI → (x.2.more x.1).ins j = c.ins j := fun j hj => by
      show upd x.2.ins x.2.nI x.1 j = _
      unfold upd
      rw [k2, if_neg (by omega), k3]
    have more_at : (x.2.more x.1).ins c.nI = x.1 := by
      show upd x.2.ins x.2.nI x.1 c.nI = _
      unfold upd
      rw [k2, if_pos rfl]
    have more_n : (x.2.more x.1).nI = c.nI + 1 := by show x.2.nI + 1 = _; omega
    -- going on with the scratch d
    have go : ∀ (d : Sc), bodyL s e k d q2 = .ok c' q → d.nO ≤ 6 → d.nI = c.nI + 1 → (∀ j, j < c.nI + 1 → d.ins j = (x.2.more x.1).ins j) → d.nTab = x.2.nTab →
        (wfGo c'.ins c'.nI c'.nTab (c'.nI - (c.nI + 1)) (c.nI + 1) d.nO (mayOf d) x.2.nTab → x.2.nTab ≤ c'.nTab → c'.ins c.nI = x.1 → wfGo c'.ins c'.nI c'.nTab (c'.nI - (c.nI + 1) + 1) c.nI c.nO (mayOf c) c.nTab) →
        (∀ j, j < c.nI → c'.ins j = c.ins j) ∧ c.nI < c'.nI ∧ c.nTab ≤ c'.nTab ∧ wfGo c'.ins c'.nI c'.nTab (c'.nI - c.nI) c.nI c.nO (mayOf c) c.nTab := by
      intro d hb hd hn hi ht hw
      obtain ⟨g1, g2, g3, g4⟩ := bodyL_wf k d q2 hb hd
      rw [hn, ht] at g4
      rw [hn] at g1 g2
      rw [ht] at g3
      have hx : c'.ins c.nI = x.1 := by rw [g1 c.nI (by omega), hi c.nI (by omega), more_at]
      refine ⟨fun j hj => by rw [g1 j (by omega), hi j (by omega), more_ins j hj], by omega, by omega, ?_⟩
      have := hw g4 g3 hx
      rwa [show c'.nI - (c.nI + 1) + 1 = c'.nI - c.nI by omega] at this
    unfold bodyStep at h4
    split at h4
    · cases h4
    split at h4
    · rename_i g
      split at h4
      · cases h4
      · rename_i g6
        refine go _ h4 (by show x.2.nO + 1 ≤ 6; omega) more_n (fun j _ => rfl) rfl (fun hw hn hx => ?_)
        rcases k7 with ⟨e14, _⟩ | ⟨e14, et, pl⟩
        · omega
        · rw [wfGo_succ, hx, k1, if_neg e14]
          refine ⟨pl, ?_⟩
          rw [if_pos g]
          refine ⟨by omega, ?_⟩
          have em : mayOf ((x.2.more x.1).opened op) = upd (mayOf c) c.nO (op == 4) := by
            funext j
            show (upd x.2.opn x.2.nO op j == 4) = _
            unfold upd
            rw [k4, k5]
            split <;> rfl
          rw [em] at hw
          have hw' : wfGo c'.ins c'.nI c'.nTab (c'.nI - (c.nI + 1)) (c.nI + 1) (x.2.nO + 1) (upd (mayOf c) c.nO (op == 4)) x.2.nTab := hw
          rw [k4, et] at hw'
          exact hw'
    rename_i g
    split at h4
    · rename_i g5
      split at h4
      · cases h4
      · rename_i g6
        refine go _ h4 (by show x.2.nO ≤ 6; omega) more_n (fun j _ => rfl) rfl (fun hw hn hx => ?_)
        rcases k7 with ⟨e14, _⟩ | ⟨e14, et, pl⟩
        · omega
        · rw [wfGo_succ, hx, k1, if_neg e14]
          refine ⟨pl, ?_⟩
          rw [if_neg g, if_pos g5]
          have hno : ¬(x.2.nO = 0 ∨ x.2.opn (x.2.nO - 1) ≠ 4) := g6
          have em : mayOf ((x.2.more x.1).elsed) = upd (mayOf c) (c.nO - 1) false := by
            funext j
            show (upd x.2.opn (x.2.nO - 1) 5 j == 4) = _
            unfold upd
            rw [k4, k5]
            split <;> rfl
          rw [em] at hw
          have hw' : wfGo c'.ins c'.nI c'.nTab (c'.nI - (c.nI + 1)) (c.nI + 1) x.2.nO (upd (mayOf c) (c.nO - 1) false) x.2.nTab := hw
          rw [k4, et] at hw'
          refine ⟨by omega, ?_, hw'⟩
          show (c.opn (c.nO - 1) == 4) = true
          rw [← k5, ← k4]
          simpa using fun h => hno (.inr h)
    rename_i g5
    split at h4
    · rename_i g11
      rcases k7 with ⟨e14, _⟩ | ⟨e14, et, pl⟩
      · omega
      split at h4
      · rename_i g0
        (first | (injection h4 with z__; injection z__ with h5 h6) | injection h4 with h5 h6); subst h5
        refine ⟨more_ins, by rw [more_n]; omega, by show c.nTab ≤ x.2.nTab; omega, ?_⟩
        rw [more_n, show c.nI + 1 - c.nI = 0 + 1 by omega, wfGo_succ, more_at, k1, if_neg e14]
        refine ⟨pl, ?_⟩
        rw [if_neg g, if_neg g5, if_pos g11, if_pos (by omega)]
        exact ⟨rfl, by show c.nTab = x.2.nTab; omega⟩
      · rename_i g0
        refine go _ h4 (by show x.2.nO - 1 ≤ 6; omega) more_n (fun j _ => rfl) rfl (fun hw hn hx => ?_)
        rw [wfGo_succ, hx, k1, if_neg e14]
        refine ⟨pl, ?_⟩
        rw [if_neg g, if_neg g5, if_pos g11, if_neg (by omega)]
        have em : mayOf ((x.2.more x.1).closed) = mayOf c := by
          funext j
          show (x.2.opn j == 4) = _
          rw [k5]
        rw [em] at hw
        have hw' : wfGo c'.ins c'.nI c'.nTab (c'.nI - (c.nI + 1)) (c.nI + 1) (x.2.nO - 1) (mayOf c) x.2.nTab := hw
        rw [k4, et] at hw'
        exact hw'
    · rename_i g11
      have em : mayOf (x.2.more x.1) = mayOf c := by
        funext j
        show (x.2.opn j == 4) = _
        rw [k5]
      refine go _ h4 (by show x.2.nO ≤ 6; omega) more_n (fun j _ => rfl) rfl (fun hw hn hx => ?_)
      rw [em] at hw
      have hw' : wfGo c'.ins c'.nI c'.nTab (c'.nI - (c.nI + 1)) (c.nI + 1) x.2.nO (mayOf c) x.2.nTab := hw
      rw [k4] at hw'
      rcases k7 with ⟨e14, ex, ey, ez⟩ | ⟨e14, et, pl⟩
      · rw [wfGo_succ, hx, k1, if_pos e14]
        refine ⟨ex, ey, by omega, ?_⟩
        rw [show c.nTab + x.1.y.toNat = x.2.nTab by omega]
        exact hw'
      · rw [wfGo_succ, hx, k1, if_neg e14]
        refine ⟨pl, ?_⟩
        rw [if_neg g, if_neg g5, if_neg g11]
        rw [et] at hw'
        exact hw'
theorem bodyP_wf {s : ByteArray} {e p q : Nat} {c c' : Sc} (h : bodyP s e c p = .ok c' q) : 1 ≤ c'.nI ∧ wfGo c'.ins c'.nI c'.nTab c'.nI 0 0 (fun _ => false) 0 := by
  obtain ⟨_, h2, _, h4⟩ := bodyL_wf _ _ _ h (Nat.zero_le 6)
  have h2 : 0 < c'.nI := h2
  refine ⟨h2, ?_⟩
  have h4 : wfGo c'.ins c'.nI c'.nTab (c'.nI - 0) 0 0 (mayOf c.fresh) 0 := h4
  rw [Nat.sub_zero] at h4
  exact wfGo_congr _ _ _ _ _ _ (fun j hj => absurd hj (Nat.not_lt_zero j)) h4

end Go.Proofs.Qxb6500316a
