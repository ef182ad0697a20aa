/-
  Package memm, second part: Load, Show, Grow, Reset, New.
-/
import Derived.Test.Qxb6500319aRefA
set_option linter.unusedSimpArgs false
set_option linter.unusedVariables false
set_option maxRecDepth 100000
namespace Go.Proofs.Qxb6500319a
open Go Go.Vc

/-! ### Load -/
theorem pow256_lt (k : Nat) (hk : k ≤ 7) : (256 : Int) ^ k ≤ 72057594037927936 := by
  have key : ∀ k : Fin 8, (256 : Int) ^ k.val ≤ 72057594037927936 := by decide
  exact key ⟨k, by omega⟩

theorem halfOf_loop (W : Nat) (hW : W ≤ 8) (R : Value → World → Prop) (w : World) (hR : R (.int .u64 (128 * 256 ^ (W - 1))) w) : ∀ (f k : Nat), k + f = W → 1 ≤ k → memm_halfOf.L1 W (128 * 256 ^ (k - 1)) k R w := by
  intro f
  induction f with
  | zero =>
    intro k hk h1
    refine memm_halfOf.step1 _ _ _ _ _ ?_
    unfold memm_halfOf.V1
    refine cond_false' (by simp; omega) ?_
    have : k = W := by omega
    subst this; exact hR
  | succ f ih =>
    intro k hk h1
    refine memm_halfOf.step1 _ _ _ _ _ ?_
    unfold memm_halfOf.V1
    refine cond_true' (by simp; omega) ?_
    have e : IntKind.wrap .i64 ((k : Int) + 1) = ((k + 1 : Nat) : Int) := by rw [wrap_i64 (by omega) (by omega)]; omega
    obtain ⟨j, rfl⟩ : ∃ j, k = j + 1 := ⟨k - 1, by omega⟩
    have hp := pow256_lt j (by omega)
    have hp0 : (0 : Int) < 256 ^ j := Int.pow_pos (by decide)
    have hj6 : (256 : Int) ^ j ≤ 281474976710656 := by
      have key : ∀ k : Fin 7, (256 : Int) ^ k.val ≤ 281474976710656 := by decide
      exact key ⟨j, by omega⟩
    have e2 : IntKind.wrap .u64 (128 * 256 ^ (j + 1 - 1) * 256) = 128 * 256 ^ (j + 1 + 1 - 1) := by
      rw [show j + 1 - 1 = j from by omega, show j + 1 + 1 - 1 = j + 1 from by omega, Int.pow_succ]
      generalize (256 : Int) ^ j = P at *
      rw [wrap_u64 (by omega) (by omega)]; omega
    rw [e, e2]
    exact ih (j + 1 + 1) (by omega) (by omega)

theorem halfOf_spec (w : World) (W : Nat) (h1 : 1 ≤ W) (hW : W ≤ 8) : Runs Try.prog memm_halfOf.id #[.int .i64 W] w fun v w' => v = .int .u64 (128 * 256 ^ (W - 1)) ∧ w' = w := by
  refine memm_halfOf.enter _ _ _ ?_
  unfold memm_halfOf.V
  exact halfOf_loop W hW _ w ⟨rfl, rfl⟩ (W - 1) 1 (by omega) (by omega)

theorem MLoad_loop (p : Nat) (K : List Nat) (s : MS) (hw : s.Wf) (t g : Value) (b c : Nat) (a W : Nat) (hW : W ≤ 8) (ha : a + W ≤ s.n) (ty : Int) (sg : Bool) (w : World) (h : MMAt w p K s (.slice (some ⟨b, 0, none⟩) s.n c) t g) (R : Value → World → Prop)
    (hR : memm_Store_Load.L2 (some ⟨p, 0, none⟩) W ty sg a (rd s.back a W) (256 ^ W % 18446744073709551616) W R w) :
    ∀ (f k : Nat), k + f = W → memm_Store_Load.L2 (some ⟨p, 0, none⟩) W ty sg a (rd s.back a k) (256 ^ k % 18446744073709551616) k R w := by
  have := hw.ncap; have := hw.cap384
  intro f
  induction f with
  | zero =>
    intro k hk
    have : k = W := by omega
    subst this; exact hR
  | succ f ih =>
    intro k hk
    refine memm_Store_Load.step2 _ _ _ _ _ _ _ _ _ _ ?_
    unfold memm_Store_Load.V2
    refine cond_true' (by simp; omega) ?_
    have e : IntKind.wrap .i64 ((k : Int) + 1) = ((k + 1 : Nat) : Int) := by rw [wrap_i64 (by omega) (by omega)]; omega
    have e2 : IntKind.wrap .i64 ((IntKind.wrap .i64 (a : Int)) + k) = ((a + k : Nat) : Int) := by rw [wrap_i64 (x := (a : Int)) (by omega) (by omega), wrap_i64 (by omega) (by omega)]; omega
    simp only [nilV_some, Nat.zero_add, e, e2]
    obtain ⟨b', hb', hcell, hfz⟩ := own_get h.M (show a + k < s.n by omega)
    simp at hb'; subst hb'
    refine ⟨_, _, _, h.c1, by omega, ?_⟩
    simp only [nilV_some, Nat.zero_add, add_mk, Int.toNat_natCast, Nat.mul_one]
    refine ⟨_, hcell, ?_⟩
    have hbk := hw.back (a + k)
    have hp := pow256_lt k (by omega)
    have hp0 : (0 : Int) < 256 ^ k := Int.pow_pos (by decide)
    have hr1 := rd_bd s.back hw.back (k + 1) a
    have h256 := pow256_bd (k + 1) (by omega)
    have hr0 := rd_bd s.back hw.back k a
    have e3 : IntKind.wrap .u64 (rd s.back a k + IntKind.wrap .u64 (IntKind.wrap .u64 (s.back (a + k)) * (256 ^ k % 18446744073709551616))) = rd s.back a (k + 1) := by
      rw [wrap_u64 (x := s.back (a + k)) (by omega) (by omega), Int.emod_eq_of_lt (a := (256 : Int) ^ k) (by omega) (by omega)]
      have hs := rd_succ s.back k a
      have hm : 0 ≤ (256 : Int) ^ k * s.back (a + k) := Int.mul_nonneg (by omega) hbk.1
      rw [Int.mul_comm (s.back (a + k)), wrap_u64 (x := (256 : Int) ^ k * s.back (a + k)) hm (by omega), ← hs, wrap_u64 (by omega) (by omega)]
    have e4 : IntKind.wrap .u64 (256 ^ k % 18446744073709551616 * 256) = 256 ^ (k + 1) % 18446744073709551616 := by
      rw [wrap_u64_mod, Int.pow_succ]
      generalize (256 : Int) ^ k = P
      omega
    rw [e3, e4]
    exact ih (k + 1) (by omega)

theorem MLoad_spec (w : World) (p : Nat) (K : List Nat) (s : MS) (h : MM w p K s) (hw : s.Wf) (op b o : Int) (hb0 : 0 ≤ b) (hb1 : b < 4294967296) (ho0 : 0 ≤ o) (ho1 : o < 4294967296) :
    Runs Try.prog memm_Store_Load.id #[.pointer (some ⟨p, 0, none⟩), .int .i64 op, .int .u32 b, .int .u32 o] w fun v w' =>
      v = (if 40 ≤ op ∧ op ≤ 53 then (if b + o + (memSig op).1 ≤ s.n then .tuple #[.int .u64 (loadVal s.back op (b + o).toNat), .int .i64 0] else .tuple #[.int .u64 0, .int .i64 42]) else .tuple #[.int .u64 0, .int .i64 35]) ∧ w' = w := by
  have := hw.ncap; have := hw.cap384
  obtain ⟨m, t, g, h⟩ := h
  obtain ⟨a, c, rfl, _⟩ := own_form h.M
  refine memm_Store_Load.enter _ _ _ _ _ _ ?_
  generalize hRd : (fun (v : Value) (w' : World) => v = (if 40 ≤ op ∧ op ≤ 53 then (if b + o + (memSig op).1 ≤ s.n then Value.tuple #[.int .u64 (loadVal s.back op (b + o).toNat), .int .i64 0] else .tuple #[.int .u64 0, .int .i64 42]) else .tuple #[.int .u64 0, .int .i64 35]) ∧ w' = w) = R
  unfold memm_Store_Load.V
  refine (MemSig_spec op w).mono ?_
  rintro r w1 ⟨rfl, rfl⟩
  refine ⟨_, _, _, rfl, ?_⟩
  have L1 : ∀ t : Bool, (t = false → 40 ≤ op ∧ op ≤ 53) → (t = true → ¬ (40 ≤ op ∧ op ≤ 53)) → memm_Store_Load.L1 (some ⟨p, 0, none⟩) b o (memSig op).1 (memSig op).2.1 (memSig op).2.2 t R w1 := by
    intro t ht hf
    refine memm_Store_Load.step1 _ _ _ _ _ _ _ _ _ ?_
    unfold memm_Store_Load.V1
    refine cond_intro (fun hc => ?_) (fun hc => ?_)
    · subst hRd; exact ⟨by rw [if_neg (hf hc)], rfl⟩
    · have hop := ht hc
      have hsg := memSig_bd op (by omega)
      simp only [nilV_some, Nat.zero_add]
      refine ⟨_, _, _, h.c1, ?_⟩
      rw [wrap_u64 (x := b) (by omega) (by omega), wrap_u64 (x := o) (by omega) (by omega), wrap_u64 (x := b + o) (by omega) (by omega), wrap_u64 (x := (memSig op).1) (by omega) (by omega), wrap_u64 (x := b + o + (memSig op).1) (by omega) (by omega), wrap_u64 (x := (s.n : Int)) (by omega) (by omega)]
      refine cond_intro (fun hn => ?_) (fun hn => ?_)
      · have hn' : ¬ b + o + (memSig op).1 ≤ s.n := by simp at hn; omega
        subst hRd; exact ⟨by rw [if_pos hop, if_neg hn'], rfl⟩
      · have hi : b + o + (memSig op).1 ≤ s.n := by simp at hn; omega
        obtain ⟨k, hk⟩ := Int.eq_ofNat_of_zero_le (show 0 ≤ b + o by omega)
        obtain ⟨W, hW⟩ := Int.eq_ofNat_of_zero_le (show 0 ≤ (memSig op).1 by omega)
        have fin : ∀ v, v = loadVal s.back op k → R (.tuple #[.int .u64 v, .int .i64 0]) w1 := fun v hv => by
          subst hRd; subst hv; exact ⟨by rw [if_pos hop, if_pos hi, hk, Int.toNat_natCast], rfl⟩
        rw [hk, hW] at hi ⊢
        obtain ⟨b', rfl, _, _⟩ := own_get h.M (show k < s.n by omega)
        have hrd := rd_bd s.back hw.back W k
        have h256 := pow256_bd W (by omega)
        have hlv : loadVal s.back op k = cut (memSig op).2.1 (if (memSig op).2.2 = true ∧ 256 ^ W ≤ 2 * rd s.back k W then rd s.back k W + (18446744073709551616 - 256 ^ W) else rd s.back k W) := by
          simp only [loadVal, hW, Int.toNat_natCast]
        have L4 : ∀ v, 0 ≤ v → v < 18446744073709551616 → v = (if (memSig op).2.2 = true ∧ 256 ^ W ≤ 2 * rd s.back k W then rd s.back k W + (18446744073709551616 - 256 ^ W) else rd s.back k W) → memm_Store_Load.L4 (memSig op).2.1 v R w1 := by
          intro v hv0 hv1 hv
          refine memm_Store_Load.step4 _ _ _ _ ?_
          unfold memm_Store_Load.V4
          refine (Cut_spec _ _ w1 hv0 hv1).mono ?_
          rintro r w2 ⟨rfl, rfl⟩
          exact ⟨_, rfl, fin _ (by rw [hlv, ← hv])⟩
        have hhalf : ∃ j, W = j + 1 := ⟨W - 1, by omega⟩
        obtain ⟨j, hj⟩ := hhalf
        have e256 : (256 : Int) ^ W = 256 * 256 ^ (W - 1) := by rw [hj, Int.pow_succ, Int.mul_comm, show j + 1 - 1 = j from by omega]
        have L3 : ∀ q : Bool, q = decide ((memSig op).2.2 = true ∧ 256 ^ W ≤ 2 * rd s.back k W) → memm_Store_Load.L3 W (memSig op).2.1 (rd s.back k W) q R w1 := by
          intro q hq
          refine memm_Store_Load.step3 _ _ _ _ _ _ ?_
          unfold memm_Store_Load.V3
          refine cond_intro (fun hc => ?_) (fun hc => ?_)
          · have hc' : (memSig op).2.2 = true ∧ 256 ^ W ≤ 2 * rd s.back k W := by rw [hq] at hc; exact of_decide_eq_true hc
            have hs4 := hsg.2.2 hc'.1
            have h32 : (256 : Int) ^ W ≤ 4294967296 := by
              have key : ∀ k : Fin 5, (256 : Int) ^ k.val ≤ 4294967296 := by decide
              exact key ⟨W, by omega⟩
            have hp0 : (0 : Int) < 256 ^ (W - 1) := Int.pow_pos (by decide)
            refine (halfOf_spec w1 W (by omega) (by omega)).mono ?_
            rintro r w2 ⟨rfl, rfl⟩
            refine ⟨_, rfl, ?_⟩
            have ev : IntKind.wrap .u64 (rd s.back k W + IntKind.wrap .u64 (0 - IntKind.wrap .u64 (2 * (128 * 256 ^ (W - 1))))) = rd s.back k W + (18446744073709551616 - 256 ^ W) := by
              rw [wrap_u64_mod, wrap_u64_mod, wrap_u64_mod]
              generalize (256 : Int) ^ W = P at *
              generalize (256 : Int) ^ (W - 1) = Q at *
              generalize rd s.back k W = Y at *
              omega
            rw [ev]
            exact L4 _ (by omega) (by omega) (by rw [if_pos hc'])
          · have hc' : ¬ ((memSig op).2.2 = true ∧ 256 ^ W ≤ 2 * rd s.back k W) := by rw [hq] at hc; exact of_decide_eq_false hc
            exact L4 _ (by omega) (by omega) (by rw [if_neg hc'])
        have hl := MLoad_loop p K s hw _ g b' c k W (by omega) (by omega) (memSig op).2.1 (memSig op).2.2 w1 h R ?_ W 0 (by omega)
        · have e0 : (256 : Int) ^ 0 % 18446744073709551616 = 1 := by decide
          rw [e0] at hl
          exact hl
        · refine memm_Store_Load.step2 _ _ _ _ _ _ _ _ _ _ ?_
          unfold memm_Store_Load.V2
          refine cond_false' (by simp) (cond_intro (fun hs => ?_) (fun hs => L3 _ ?_))
          · refine (halfOf_spec w1 W (by omega) (by omega)).mono ?_
            rintro r w2 ⟨rfl, rfl⟩
            refine ⟨_, rfl, L3 _ ?_⟩
            apply decide_eq_decide.2
            rw [e256]
            constructor
            · intro hx; exact ⟨hs, by omega⟩
            · intro hx; omega
          · symm; apply decide_eq_false; rw [hs]; simp
  refine cond_intro (fun hz => L1 true (fun h => by cases h) (fun _ => ?_)) (fun hz => L1 _ (fun hd => ?_) (fun hd => ?_))
  · have := (memSig_zero op).1 (by simpa using hz); omega
  · have hz' : ¬ (memSig op).1 = 0 := by simpa using hz
    have : ¬ ¬ (40 ≤ op ∧ op ≤ 62) := fun hx => hz' ((memSig_zero op).2 hx)
    simp at hd; omega
  · simp at hd; omega

/-! ### Show -/
theorem MShow_glob (s : MS) (w0 : World) (p : Nat) (K : List Nat) (m tt : Value) (a : Option Addr) (c : Nat) (t : ByteArray) (ht : t.size ≤ 10000) (hng : s.ng ≤ 4) (hgl : ∀ j, 0 ≤ s.glob j ∧ s.glob j < 18446744073709551616) (R : Value → World → Prop)
    (hR : ∀ w, Same [] w0.heap.size w0 w → R (.string (tabText (fun j => hexOf (s.glob j) 16) s.ng t)) w) :
    ∀ (f k : Nat) (w : World), k + f = s.ng → MMAt w p K s m tt (.slice a s.ng c) → Same [] w0.heap.size w0 w →
      memm_Store_Show.L3 (some ⟨p, 0, none⟩) (tabText (fun j => hexOf (s.glob j) 16) k t) k R w := by
  intro f
  induction f with
  | zero =>
    intro k w hk hm hS
    refine memm_Store_Show.step3 _ _ _ _ _ ?_
    unfold memm_Store_Show.V3
    simp only [nilV_some, Nat.zero_add]
    refine ⟨_, _, _, hm.c4, cond_false' (by simp; omega) ?_⟩
    have : k = s.ng := by omega
    subst this
    exact hR w hS
  | succ f ih =>
    intro k w hk hm hS
    refine memm_Store_Show.step3 _ _ _ _ _ ?_
    unfold memm_Store_Show.V3
    obtain ⟨b, rfl, hcell, _⟩ := own_get hm.G (show k < s.ng by omega)
    simp only [nilV_some, Nat.zero_add]
    refine ⟨_, _, _, hm.c4, cond_true' (by simp; omega) ⟨_, _, _, hm.c4, by omega, ?_⟩⟩
    simp only [nilV_some, add_mk, Int.toNat_natCast, Nat.mul_one, Nat.zero_add]
    refine ⟨_, hcell, ?_⟩
    refine (Hex_spec (s.glob k) 16 w (hgl k).1 (hgl k).2 (by omega) (by omega)).mono ?_
    rintro v w1 ⟨rfl, hS1⟩
    have e : IntKind.wrap .i64 ((k : Int) + 1) = ((k + 1 : Nat) : Int) := by rw [wrap_i64 (by omega) (by omega)]; omega
    have h1 : ByteArray.size ⟨#[32]⟩ = 1 := rfl
    have h2 := hexOf_size (s.glob k) 16
    have h3 := tabText_size (fun j => hexOf (s.glob j) 16) 16 (fun j => hexOf_size _ _) k t
    have h4 : k * (16 + 1) ≤ 4 * 17 := Nat.mul_le_mul (by omega) (by omega)
    refine ⟨_, rfl, by rw [h1]; omega, by rw [size_app, h1]; omega, ?_⟩
    rw [e, ByteArray.append_assoc]
    exact ih (k + 1) w1 (by omega) (hm.keep hS1) (hS.trans (hS1.mono hS.size (by simp)))

theorem MShow_tab (s : MS) (w0 : World) (p : Nat) (K : List Nat) (m g : Value) (a : Option Addr) (c : Nat) (t : ByteArray) (ht : t.size ≤ 9000) (hw : s.Wf) (R : Value → World → Prop)
    (hR : ∀ w, Same [] w0.heap.size w0 w → R (.string (tabText (fun j => hexOf (s.glob j) 16) s.ng (tabText (fun j => itoa (s.tab j)) s.tl t ++ (⟨#[32, 103, 108, 111, 98]⟩ : ByteArray)))) w) :
    ∀ (f k : Nat) (w : World), k + f = s.tl → MMAt w p K s m (.slice a s.tl c) g → Same [] w0.heap.size w0 w →
      memm_Store_Show.L2 (some ⟨p, 0, none⟩) (tabText (fun j => itoa (s.tab j)) k t) k R w := by
  have := hw.tl8; have := hw.ng4
  have h3 : ∀ k, k ≤ 8 → (tabText (fun j => itoa (s.tab j)) k t).size ≤ 9000 + 8 * 22 := fun k hk => by
    have := tabText_size (fun j => itoa (s.tab j)) 21 (fun j => itoa_size _) k t
    have h4 : k * (21 + 1) ≤ 8 * 22 := Nat.mul_le_mul (by omega) (by omega)
    omega
  intro f
  induction f with
  | zero =>
    intro k w hk hm hS
    refine memm_Store_Show.step2 _ _ _ _ _ ?_
    unfold memm_Store_Show.V2
    simp only [nilV_some, Nat.zero_add]
    refine ⟨_, _, _, hm.c3, cond_false' (by simp; omega) ?_⟩
    have : k = s.tl := by omega
    subst this
    have h5 : ByteArray.size ⟨#[32, 103, 108, 111, 98]⟩ = 5 := rfl
    have := h3 s.tl (by omega)
    refine ⟨by rw [h5]; omega, ?_⟩
    obtain ⟨ag, cg, rfl, _⟩ := own_form hm.G
    exact MShow_glob s w0 p K m _ ag cg _ (by rw [size_app, h5]; omega) hw.ng4 hw.glob R hR s.ng 0 w (by omega) hm hS
  | succ f ih =>
    intro k w hk hm hS
    refine memm_Store_Show.step2 _ _ _ _ _ ?_
    unfold memm_Store_Show.V2
    obtain ⟨b, rfl, hcell, _⟩ := own_get hm.T (show k < s.tl by omega)
    simp only [nilV_some, Nat.zero_add]
    refine ⟨_, _, _, hm.c3, cond_true' (by simp; omega) ⟨_, _, _, hm.c3, by omega, ?_⟩⟩
    simp only [nilV_some, add_mk, Int.toNat_natCast, Nat.mul_one, Nat.zero_add]
    refine ⟨_, hcell, ?_⟩
    have htb := hw.tab k
    refine (Itoa_spec (s.tab k) w (by omega) (by omega)).mono ?_
    rintro v w1 ⟨rfl, hS1⟩
    have e : IntKind.wrap .i64 ((k : Int) + 1) = ((k + 1 : Nat) : Int) := by rw [wrap_i64 (by omega) (by omega)]; omega
    have h1 : ByteArray.size ⟨#[32]⟩ = 1 := rfl
    have h2 := itoa_size (s.tab k)
    have := h3 k (by omega)
    refine ⟨_, rfl, by rw [h1]; omega, by rw [size_app, h1]; omega, ?_⟩
    rw [e, ByteArray.append_assoc]
    exact ih (k + 1) w1 (by omega) (hm.keep hS1) (hS.trans (hS1.mono hS.size (by simp)))

theorem memRow_map (s : MS) : memRow s = ((List.range s.n).map s.back).map (Value.int .u8) := by simp [memRow]

theorem MShow_spec (w : World) (p : Nat) (K : List Nat) (s : MS) (h : MM w p K s) (hw : s.Wf) :
    Runs Try.prog memm_Store_Show.id #[.pointer (some ⟨p, 0, none⟩)] w fun v w' => v = .string s.show ∧ Same [] w.heap.size w w' := by
  have := hw.ncap; have := hw.cap384; have := hw.tl8
  obtain ⟨m, t, g, h⟩ := h
  obtain ⟨am, cm, rfl, _⟩ := own_form h.M
  obtain ⟨at_, ct, rfl, _⟩ := own_form h.T
  refine memm_Store_Show.enter _ _ _ ?_
  unfold memm_Store_Show.V
  simp only [nilV_some, Nat.zero_add]
  refine ⟨_, h.c0, ?_⟩
  have key : ∀ (w1 : World) (x : ByteArray), x = showMem s.has s.n s.cap s.back → MMAt w1 p K s (.slice am s.n cm) (.slice at_ s.tl ct) g → Same [] w.heap.size w w1 →
      memm_Store_Show.L1 (some ⟨p, 0, none⟩) x (fun v w' => v = .string s.show ∧ Same [] w.heap.size w w') w1 := by
    intro w1 x hx hm hS
    refine memm_Store_Show.step1 _ _ _ _ ?_
    unfold memm_Store_Show.V1
    have h4 : ByteArray.size ⟨#[32, 116, 97, 98]⟩ = 4 := rfl
    have hsz := showMem_size s hw
    rw [← hx] at hsz
    refine ⟨by rw [h4]; omega, ?_⟩
    exact MShow_tab s w p K _ g at_ ct _ (by rw [size_app, h4]; omega) hw _ (fun w' hw' => ⟨by rw [MS.show, hx], hw'⟩) s.tl 0 w1 (by omega) hm hS
  refine cond_intro (fun hh => ?_) (fun hh => ?_)
  · refine ⟨_, h.c2, ?_⟩
    refine (Itoa_spec ((s.cap / 64 : Nat) : Int) w (by omega) (by omega)).mono ?_
    rintro v w1 ⟨rfl, hS1⟩
    have hm1 := h.keep hS1
    have hown := hm1.M
    rw [memRow_map] at hown
    refine ⟨_, rfl, _, _, _, hm1.c1, strOfNums ((List.range s.n).map s.back), w1, convert_own T_sl_uint8 T_uint8 T_string (by kernel_rfl) (by kernel_rfl) (by kernel_rfl) w1 0 am s.n cm _ hown, ?_⟩
    have hsz : (strOfNums ((List.range s.n).map s.back)).size = s.n := by rw [strOfNums_size]; simp
    refine (HexStr_spec _ w1 (by omega)).mono ?_
    rintro v w2 ⟨rfl, hS2⟩
    have h1 : ByteArray.size ⟨#[109, 101, 109, 32]⟩ = 4 := rfl
    have h2 : ByteArray.size ⟨#[32]⟩ = 1 := rfl
    have h3 := itoa_size ((s.cap / 64 : Nat) : Int)
    have h4 := hexStr_size (strOfNums ((List.range s.n).map s.back))
    refine ⟨_, rfl, by rw [h1]; omega, by rw [size_app, h1, h2]; omega, by rw [size_app, size_app, h1, h2]; omega, ?_⟩
    exact key w2 _ (by simp [showMem, hh]) (hm1.keep hS2) (hS1.trans (hS2.mono hS1.size (by simp)))
  · exact key w _ (by simp [showMem, hh]) h (Same.refl _ _ _)

end Go.Proofs.Qxb6500319a
