/-
  Package mem, second part: loads, Check.
-/
import Derived.Test.Qxb6500317aGreatMemA
import Derived.Laws.StructEq
set_option linter.unusedSimpArgs false
set_option linter.unusedVariables false
set_option maxRecDepth 100000
namespace Go.Proofs.Qxb6500317aGreat.M
open Go Go.Vc

/-! ### Bytes, the low one first -/
def rd (f : Nat → Int) (a : Nat) : Nat → Int
  | 0 => 0
  | k + 1 => f a + 256 * rd f (a + 1) k

theorem rd_bd (f : Nat → Int) (hf : ∀ j, 0 ≤ f j ∧ f j < 256) : ∀ (k a : Nat), 0 ≤ rd f a k ∧ rd f a k < 256 ^ k
  | 0, a => by simp [rd]
  | k + 1, a => by
    have h1 := hf a
    have h2 := rd_bd f hf k (a + 1)
    have e : (256 : Int) ^ (k + 1) = 256 * 256 ^ k := by rw [Int.pow_succ]; omega
    simp only [rd, e]
    omega

theorem rd_succ (f : Nat → Int) : ∀ (k a : Nat), rd f a (k + 1) = rd f a k + 256 ^ k * f (a + k)
  | 0, a => by simp [rd]
  | k + 1, a => by
    rw [rd, rd_succ f k (a + 1), rd, Int.pow_succ, show a + 1 + k = a + (k + 1) by omega, Int.mul_add, Int.mul_comm (256 ^ k) 256, Int.mul_assoc]
    omega

theorem ofInt_toNat (n : Nat) (k : Nat) (h : n < 2 ^ k) : (BitVec.ofInt k (n : Int)).toNat = n := by
  rw [BitVec.ofInt_natCast, BitVec.toNat_ofNat, Nat.mod_eq_of_lt h]

theorem bOr_nat (k : IntKind) (hk : k.signed = false) (a b : Nat) (ha : a < 2 ^ k.bits) (hb : b < 2 ^ k.bits) : bOr k (a : Int) (b : Int) = ((a ||| b : Nat) : Int) := by
  have hlt : a ||| b < 2 ^ k.bits := Nat.or_lt_two_pow ha hb
  unfold bOr
  rw [BitVec.toNat_or, ofInt_toNat a _ ha, ofInt_toNat b _ hb]
  unfold IntKind.wrap
  have e : ((a ||| b : Nat) : Int) % (2 ^ k.bits : Int) = ((a ||| b : Nat) : Int) := by
    have : ((a ||| b : Nat) : Int) < (2 ^ k.bits : Int) := by exact_mod_cast hlt
    exact Int.emod_eq_of_lt (by omega) this
  simp only [hk, Bool.false_and, Bool.false_eq_true, if_false]
  exact e

/-- x | y << i, where x lies below 2^i. -/
theorem bOr_shl (k : IntKind) (hk : k.signed = false) (x y i : Nat) (hx : x < 2 ^ i) (h : x + y * 2 ^ i < 2 ^ k.bits) : bOr k (x : Int) ((y * 2 ^ i : Nat) : Int) = ((x + y * 2 ^ i : Nat) : Int) := by
  rw [bOr_nat k hk _ _ (by omega) (by omega)]
  congr 1
  have := Nat.shiftLeft_add_eq_or_of_lt hx y
  rw [Nat.shiftLeft_eq] at this
  rw [Nat.or_comm, ← this]
  omega
theorem bOr_shl' (k : IntKind) (hk : k.signed = false) (x y i : Nat) (hx : x < 2 ^ i) (h : x + y * 2 ^ i < 2 ^ k.bits) : bOr k ((y * 2 ^ i : Nat) : Int) (x : Int) = ((x + y * 2 ^ i : Nat) : Int) := by
  rw [← bOr_shl k hk x y i hx h]
  unfold bOr
  rw [BitVec.or_comm]

theorem bOr_u64_byte (v x : Int) (hv0 : 0 ≤ v) (hx0 : 0 ≤ x) (hx : x < 256) (hv : v < 72057594037927936) : bOr .u64 (IntKind.wrap .u64 (v * 2 ^ (8 : Nat))) x = x + 256 * v := by
  obtain ⟨n, rfl⟩ := Int.eq_ofNat_of_zero_le hv0
  obtain ⟨m, rfl⟩ := Int.eq_ofNat_of_zero_le hx0
  have e : IntKind.wrap .u64 ((n : Int) * 2 ^ (8 : Nat)) = ((n * 2 ^ 8 : Nat) : Int) := by
    rw [wrap_u64 (by omega) (by omega)]; omega
  rw [e, bOr_shl' .u64 rfl m n 8 (by omega) (by simp [IntKind.bits]; omega)]
  omega

theorem bOr_u16 (x y : Int) (hx0 : 0 ≤ x) (hx : x < 256) (hy0 : 0 ≤ y) (hy : y < 256) : bOr .u16 (IntKind.wrap .u16 x) (IntKind.wrap .u16 ((IntKind.wrap .u16 y) * 2 ^ (8 : Nat))) = x + 256 * y := by
  obtain ⟨n, rfl⟩ := Int.eq_ofNat_of_zero_le hx0
  obtain ⟨m, rfl⟩ := Int.eq_ofNat_of_zero_le hy0
  rw [wrap_u16 (x := (n : Int)) (by omega) (by omega), wrap_u16 (x := (m : Int)) (by omega) (by omega)]
  have e : IntKind.wrap .u16 ((m : Int) * 2 ^ (8 : Nat)) = ((m * 2 ^ 8 : Nat) : Int) := by
    rw [wrap_u16 (by omega) (by omega)]; omega
  rw [e, bOr_shl .u16 rfl n m 8 (by omega) (by simp [IntKind.bits]; omega)]
  omega

theorem bOr_u32 (x y : Int) (i : Nat) (hi : i = 8 ∨ i = 16 ∨ i = 24) (hx0 : 0 ≤ x) (hx : x < 2 ^ i) (hy0 : 0 ≤ y) (hy : y < 256) : bOr .u32 x (IntKind.wrap .u32 ((IntKind.wrap .u32 y) * 2 ^ i)) = x + 2 ^ i * y := by
  obtain ⟨n, rfl⟩ := Int.eq_ofNat_of_zero_le hx0
  obtain ⟨m, rfl⟩ := Int.eq_ofNat_of_zero_le hy0
  rw [wrap_u32 (x := (m : Int)) (by omega) (by omega)]
  have e : IntKind.wrap .u32 ((m : Int) * 2 ^ i) = ((m * 2 ^ i : Nat) : Int) := by
    rcases hi with rfl | rfl | rfl <;> rw [wrap_u32 (by omega) (by omega)] <;> omega
  rw [e, bOr_shl .u32 rfl n m i (by rcases hi with rfl | rfl | rfl <;> omega) (by rcases hi with rfl | rfl | rfl <;> simp [IntKind.bits] <;> omega)]
  rcases hi with rfl | rfl | rfl <;> omega

/-! ### Cells behind stores -/
theorem cell_setCell (w : World) (b i b' j : Nat) (v : Value) : (w.setCell ⟨b, i, none⟩ v).cell? ⟨b', j, none⟩ = if b' = b ∧ j = i then (w.cell? ⟨b', j, none⟩).map (fun _ => v) else w.cell? ⟨b', j, none⟩ := by
  by_cases h : b' = b ∧ j = i
  · obtain ⟨rfl, rfl⟩ := h
    rw [if_pos ⟨rfl, rfl⟩]
    cases hc : w.cell? ⟨b', j, none⟩ with
    | none =>
      simp only [World.setCell, World.cell?, Array.getElem?_modify, if_true] at hc ⊢
      cases hh : w.heap[b']? with
      | none => simp [hh]
      | some o =>
        cases o <;> simp_all
    | some u => simp [World.cell?_setCell_same w _ v hc]
  · rw [if_neg h, World.cell?_setCell_other w _ _ v (by intro he; simp at he; exact h ⟨he.1.symm, he.2.symm⟩)]

theorem half_spec (w : World) (p q : Nat) (s : MS) (h : MSAt w p q s) (hw : s.Wf) (hh : s.has = true) (a : Nat) (ha : a + 2 ≤ s.n) :
    Runs Tryz.prog mem_Store_half.id #[.pointer (some ⟨p, 0, none⟩), .int .i64 a] w fun v w' => v = .int .u16 (rd s.back a 2) ∧ Same [] w.heap.size w w' := by
  have := hw.ncap; have := hw.cap384
  have hma : s.ma q = some ⟨q, 0, none⟩ := by simp [MS.ma, hh]
  refine mem_Store_half.enter _ _ _ _ ?_
  unfold mem_Store_half.V
  have e : IntKind.wrap .i64 ((a : Int) + 2) = ((a + 2 : Nat) : Int) := by rw [wrap_i64 (by omega) (by omega)]; omega
  rw [e]
  simp only [nilV_some, Nat.zero_add, Int.toNat_natCast, add_mk, h.c2, hma]
  refine ⟨_, _, _, rfl, by omega, by omega, ?_⟩
  rw [slAddr_lt (by omega), nilV_some]
  simp only [Nat.zero_add, Nat.mul_one]
  refine ⟨_, _, h.cb a (by omega), h.cb (a + 1) (by omega), ⟨⟨_, World.cell?_alloc_new w _ _ 0⟩, World.frozen?_alloc_new w _ _ 0⟩, ?_, by omega, s.back a, ?_, by omega, s.back (a + 1), ?_, ?_, ?_⟩
  · exact ⟨⟨.int .u8 0, by rw [cell_setCell, if_neg (by simp), World.cell?_alloc_new]; rfl⟩, by rw [World.frozen?_setCell, World.frozen?_alloc_new]⟩
  · rw [cell_setCell, if_neg (by simp), cell_setCell, if_pos (by simp), World.cell?_alloc_new]; rfl
  · rw [cell_setCell, if_pos (by simp), cell_setCell, if_neg (by simp), World.cell?_alloc_new]; rfl
  · have h1 := hw.back a; have h2 := hw.back (a + 1)
    rw [bOr_u16 _ _ h1.1 h1.2 h2.1 h2.2]
    simp [rd]
  · exact (((Same.refl _ _ _).alloc (Nat.le_refl _) _).setCell (.inl (by simp)) _).setCell (.inl (by simp)) _

theorem long_spec (w : World) (p q : Nat) (s : MS) (h : MSAt w p q s) (hw : s.Wf) (hh : s.has = true) (a : Nat) (ha : a + 4 ≤ s.n) :
    Runs Tryz.prog mem_Store_long.id #[.pointer (some ⟨p, 0, none⟩), .int .i64 a] w fun v w' => v = .int .u32 (rd s.back a 4) ∧ Same [] w.heap.size w w' := by
  have := hw.ncap; have := hw.cap384
  have hma : s.ma q = some ⟨q, 0, none⟩ := by simp [MS.ma, hh]
  refine mem_Store_long.enter _ _ _ _ ?_
  unfold mem_Store_long.V
  have e : IntKind.wrap .i64 ((a : Int) + 4) = ((a + 4 : Nat) : Int) := by rw [wrap_i64 (by omega) (by omega)]; omega
  rw [e]
  simp only [nilV_some, Nat.zero_add, Int.toNat_natCast, add_mk, h.c2, hma]
  refine ⟨_, _, _, rfl, by omega, by omega, ?_⟩
  rw [slAddr_lt (by omega), nilV_some]
  simp only [Nat.zero_add, Nat.mul_one]
  refine ⟨_, _, _, _, h.cb a (by omega), h.cb (a + 1) (by omega), h.cb (a + 2) (by omega), h.cb (a + 3) (by omega),
    ⟨⟨_, World.cell?_alloc_new w _ _ 0⟩, World.frozen?_alloc_new w _ _ 0⟩, ?_, ?_, ?_, by omega, s.back a, ?_, by omega, s.back (a + 1), ?_, by omega, s.back (a + 2), ?_, by omega, s.back (a + 3), ?_, ?_, ?_⟩
  · exact ⟨⟨.int .u8 0, by simp [cell_setCell]⟩, by simp⟩
  · exact ⟨⟨.int .u8 0, by simp [cell_setCell]⟩, by simp⟩
  · exact ⟨⟨.int .u8 0, by simp [cell_setCell]⟩, by simp⟩
  · simp [cell_setCell]
  · simp [cell_setCell]
  · simp [cell_setCell]
  · simp [cell_setCell]
  · have h1 := hw.back a; have h2 := hw.back (a + 1); have h3 := hw.back (a + 2); have h4 := hw.back (a + 3)
    rw [wrap_u32 (x := s.back a) (by omega) (by omega), bOr_u32 _ _ 8 (.inl rfl) h1.1 h1.2 h2.1 h2.2, bOr_u32 _ _ 16 (.inr (.inl rfl)) (by omega) (by omega) h3.1 h3.2, bOr_u32 _ _ 24 (.inr (.inr rfl)) (by omega) (by omega) h4.1 h4.2]
    congr 1
    simp only [rd, Nat.add_assoc, Nat.reduceAdd]
    omega
  · exact (((((Same.refl _ _ _).alloc (Nat.le_refl _) _).setCell (.inl (by simp)) _).setCell (.inl (by simp)) _).setCell (.inl (by simp)) _).setCell (.inl (by simp)) _

theorem word_loop (w : World) (q a : Nat) (f : Nat → Int) (hf : ∀ j, 0 ≤ f j ∧ f j < 256) (hc : ∀ j, j < 8 → w.cell? ⟨q, a + j, none⟩ = some (.int .u8 (f (a + j)))) (R : Value → World → Prop) (hR : R (.int .u64 (rd f a 8)) w) :
    ∀ (k t : Nat), t + k = 8 → mem_word.L1 (some ⟨q, a, none⟩) (rd f (a + 8 - t) t) t R w := by
  intro k
  induction k with
  | zero =>
    intro t ht
    refine mem_word.step1 _ _ _ _ _ ?_
    unfold mem_word.V1
    have : t = 8 := by omega
    subst this
    exact cond_false' (by simp) (by simpa using hR)
  | succ k ih =>
    intro t ht
    refine mem_word.step1 _ _ _ _ _ ?_
    unfold mem_word.V1
    refine cond_true' (by simp; omega) ?_
    have e1 : IntKind.wrap .i64 ((7 : Int) - (t : Int)) = ((7 - t : Nat) : Int) := by rw [wrap_i64 (by omega) (by omega)]; omega
    have e2 : IntKind.wrap .i64 ((t : Int) + 1) = ((t + 1 : Nat) : Int) := by rw [wrap_i64 (by omega) (by omega)]; omega
    rw [e1, e2]
    simp only [nilV_some, add_mk, Int.toNat_natCast, Nat.mul_one]
    refine ⟨by omega, _, hc (7 - t) (by omega), ?_⟩
    have hb := rd_bd f hf t (a + 8 - t)
    have hx := hf (a + (7 - t))
    have hp : (256 : Int) ^ t ≤ 256 ^ 7 := by exact_mod_cast Nat.pow_le_pow_right (n := 256) (by decide) (show t ≤ 7 by omega)
    rw [wrap_u64 (x := f (a + (7 - t))) (by omega) (by omega), bOr_u64_byte _ _ hb.1 hx.1 hx.2 (by omega)]
    have := ih (t + 1) (by omega)
    rw [show a + 8 - (t + 1) = a + (7 - t) by omega, rd, show a + (7 - t) + 1 = a + 8 - t by omega] at this
    exact this

theorem word_spec (w : World) (q a : Nat) (f : Nat → Int) (hf : ∀ j, 0 ≤ f j ∧ f j < 256) (hc : ∀ j, j < 8 → w.cell? ⟨q, a + j, none⟩ = some (.int .u8 (f (a + j)))) :
    Runs Tryz.prog mem_word.id #[.pointer (some ⟨q, a, none⟩)] w fun v w' => v = .int .u64 (rd f a 8) ∧ w' = w := by
  refine mem_word.enter _ _ _ ?_
  unfold mem_word.V
  exact word_loop w q a f hf hc _ ⟨rfl, rfl⟩ 8 0 (by omega)

/-! ### Load -/
/-- The value of a load: the bytes, the sign extended, cut to the type. -/
def loadVal (f : Nat → Int) (op : Int) (a : Nat) : Int :=
  let k := (memSig op).1.toNat
  let v := rd f a k
  cut (memSig op).2.1 (if (memSig op).2.2 = true ∧ 256 ^ k ≤ 2 * v then v + (18446744073709551616 - 256 ^ k) else v)

theorem wrap_i8 {x : Int} (h0 : 0 ≤ x) (h1 : x < 256) : IntKind.wrap .i8 x = if 128 ≤ x then x - 256 else x := by
  have : IntKind.wrap .i8 x = (let m := x % 256; if (m : Int) ≥ 128 then m - 256 else m) := by simp [IntKind.wrap, IntKind.bits, IntKind.signed]
  rw [this]; simp only; split <;> split <;> omega
theorem wrap_i16 {x : Int} (h0 : 0 ≤ x) (h1 : x < 65536) : IntKind.wrap .i16 x = if 32768 ≤ x then x - 65536 else x := by
  have : IntKind.wrap .i16 x = (let m := x % 65536; if (m : Int) ≥ 32768 then m - 65536 else m) := by simp [IntKind.wrap, IntKind.bits, IntKind.signed]
  rw [this]; simp only; split <;> split <;> omega
theorem wrap_i32 {x : Int} (h0 : 0 ≤ x) (h1 : x < 4294967296) : IntKind.wrap .i32 x = if 2147483648 ≤ x then x - 4294967296 else x := by
  have : IntKind.wrap .i32 x = (let m := x % 4294967296; if (m : Int) ≥ 2147483648 then m - 4294967296 else m) := by simp [IntKind.wrap, IntKind.bits, IntKind.signed]
  rw [this]; simp only; split <;> split <;> omega

/-- The last label of Load: what stands in v is answered. -/
theorem Load_end (v : Int) (w : World) (R : Value → World → Prop) (h : R (.tuple #[.int .u64 v, .int .i64 0]) w) : mem_Store_Load.L6 v R w := mem_Store_Load.step6 _ _ _ h

theorem Load_width (op : Int) (h : 40 ≤ op ∧ op ≤ 53) : (memSig op).1 = (if op = 44 ∨ op = 45 ∨ op = 48 ∨ op = 49 then 1 else if op = 46 ∨ op = 47 ∨ op = 50 ∨ op = 51 then 2 else if op = 41 ∨ op = 43 then 8 else 4) := by
  obtain ⟨n, rfl⟩ := Int.eq_ofNat_of_zero_le (show 0 ≤ op by omega)
  have key : ∀ n : Fin 54, 40 ≤ n.val → (memSig (n.val : Int)).1 = (if (n.val : Int) = 44 ∨ (n.val : Int) = 45 ∨ (n.val : Int) = 48 ∨ (n.val : Int) = 49 then 1 else if (n.val : Int) = 46 ∨ (n.val : Int) = 47 ∨ (n.val : Int) = 50 ∨ (n.val : Int) = 51 then 2 else if (n.val : Int) = 41 ∨ (n.val : Int) = 43 then 8 else 4) := by decide
  exact key ⟨n, by omega⟩ (by show 40 ≤ n; omega)

/-- Behind the width: the place, then the bytes. -/
theorem Load_at (w : World) (p q : Nat) (s : MS) (h : MSAt w p q s) (hw : s.Wf) (op b o : Int) (hop : 40 ≤ op ∧ op ≤ 53) (hb0 : 0 ≤ b) (hb1 : b < 4294967296) (ho0 : 0 ≤ o) (ho1 : o < 4294967296) (z : Int) (hz : z = (memSig op).1)
    (R : Value → World → Prop) (hR : ∀ w', Same [] w.heap.size w w' → R (if b + o + (memSig op).1 ≤ s.n then .tuple #[.int .u64 (loadVal s.back op (b + o).toNat), .int .i64 0] else .tuple #[.int .u64 0, .int .i64 42]) w') :
    mem_Store_Load.L2 (some ⟨p, 0, none⟩) op b o z R w := by
  have := hw.ncap; have := hw.cap384
  have hwid := Load_width op hop
  have hz8 : 1 ≤ z ∧ z ≤ 8 := by rw [hz, hwid]; split <;> (try split) <;> (try split) <;> omega
  refine mem_Store_Load.step2 _ _ _ _ _ _ _ ?_
  unfold mem_Store_Load.V2
  refine (place_spec w p q s h hw b o z hb0 hb1 ho0 ho1 (by omega) (by omega)).mono ?_
  rintro v w1 ⟨rfl, rfl⟩
  by_cases hin : b + o + z ≤ s.n
  · rw [if_pos hin]
    refine ⟨_, _, rfl, ?_⟩
    simp only [Bool.not_true, cond_false]
    have hh : s.has = true := by
      cases hc : s.has with
      | true => rfl
      | false => have := (hw.none hc).1; omega
    have hma : s.ma q = some ⟨q, 0, none⟩ := by simp [MS.ma, hh]
    obtain ⟨a, ha⟩ := Int.eq_ofNat_of_zero_le (show 0 ≤ b + o by omega)
    have hR' : ∀ w', Same [] w1.heap.size w1 w' → R (.tuple #[.int .u64 (loadVal s.back op a), .int .i64 0]) w' := fun w' hs => by
      have := hR w' hs
      rw [if_pos (by rw [← hz]; exact hin), ha] at this
      simpa using this
    have haz : a + z.toNat ≤ s.n := by omega
    rw [ha]
    have fin : ∀ (v : Int) (w' : World), Same [] w1.heap.size w1 w' → v = loadVal s.back op a → mem_Store_Load.L6 v R w' := fun v w' hs hv => Load_end v w' R (by rw [hv]; exact hR' w' hs)
    have hbk := hw.back
    have hr2 := rd_bd s.back hbk 2 a
    have hr4 := rd_bd s.back hbk 4 a
    have byte : ∀ (K : Int → Prop), K (s.back a) → (z = 1) → (∃ x2 : Option Addr, ∃ x3 : Nat, ∃ x4 : Nat, World.cell? w1 ⟨p, 2, none⟩ = some (.slice x2 x3 x4) ∧ ((0 ≤ (a : Int) ∧ (a : Int) < ((x3 : Nat) : Int)) ∧ nilV x2 fun a5 => (∃ x6 : Int, World.cell? w1 (Addr.add a5 (Int.toNat (a : Int) * 1)) = some (.int .u8 x6) ∧ K x6))) := by
      intro K hK hz1
      refine ⟨_, _, _, h.c2, by omega, ?_⟩
      rw [hma, nilV_some]
      refine ⟨_, ?_, hK⟩
      rw [add_mk, Int.toNat_natCast, Nat.zero_add, Nat.mul_one]
      exact h.cb a (by omega)
    have L4 : ∀ (t : Bool), t = (op == 45 || op == 49) → mem_Store_Load.L4 (some ⟨p, 0, none⟩) a 0 op t R w1 := by
      intro t ht
      refine mem_Store_Load.step4 _ _ _ _ _ _ _ ?_
      unfold mem_Store_Load.V4
      simp only [nilV_some, Nat.zero_add]
      have hb := hbk a
      refine cond_intro (fun hc => ?_) (fun hc => ?_)
      · rw [ht] at hc
        have hop' : op = 45 ∨ op = 49 := by simpa using hc
        refine byte _ (fin _ _ (Same.refl _ _ _) ?_) (by rw [hz, hwid]; rcases hop' with rfl | rfl <;> simp)
        rw [wrap_u64 (by omega) (by omega)]
        rcases hop' with rfl | rfl <;> simp [loadVal, memSig, rd, cut] <;> omega
      · rw [ht] at hc
        have hop' : op ≠ 45 ∧ op ≠ 49 := by simpa using hc
        refine cond_intro (fun h44 => ?_) (fun h44 => ?_)
        · have h44 : op = 44 := by simpa using h44
          subst h44
          refine byte _ (fin _ _ (Same.refl _ _ _) ?_) (by rw [hz, hwid]; simp)
          rw [wrap_i8 hb.1 hb.2]
          have e : loadVal s.back 44 a = cut 127 (if 256 ≤ 2 * s.back a then s.back a + (18446744073709551616 - 256) else s.back a) := by simp [loadVal, memSig, rd]
          rw [e]
          split
          · rw [wrap_i64 (by omega) (by omega), wrap_u64_mod, bAnd_u64_mask32 _ (by omega) (by omega), if_pos (by omega)]
            simp only [cut, true_or, if_true]; omega
          · rw [wrap_i64 (by omega) (by omega), wrap_u64 (by omega) (by omega), bAnd_u64_mask32 _ (by omega) (by omega), if_neg (by omega)]
            simp [cut]
        · have h44 : op ≠ 44 := by simpa using h44
          refine cond_intro (fun h48 => ?_) (fun h48 => ?_)
          · have h48 : op = 48 := by simpa using h48
            subst h48
            refine byte _ (fin _ _ (Same.refl _ _ _) ?_) (by rw [hz, hwid]; simp)
            rw [wrap_i8 hb.1 hb.2]
            have e : loadVal s.back 48 a = (if 256 ≤ 2 * s.back a then s.back a + (18446744073709551616 - 256) else s.back a) := by simp [loadVal, memSig, rd, cut]
            rw [e]
            split
            · rw [wrap_i64 (by omega) (by omega), wrap_u64_mod, if_pos (by omega)]; omega
            · rw [wrap_i64 (by omega) (by omega), wrap_u64 (by omega) (by omega), if_neg (by omega)]
          · have h48 : op ≠ 48 := by simpa using h48
            have L7 : ∀ (t : Bool), t = (op == 47 || op == 51) → mem_Store_Load.L7 (some ⟨p, 0, none⟩) a 0 op t R w1 := by
              intro t ht
              refine mem_Store_Load.step7 _ _ _ _ _ _ _ ?_
              unfold mem_Store_Load.V7
              refine cond_intro (fun hc => ?_) (fun hc => ?_)
              · rw [ht] at hc
                have hop'' : op = 47 ∨ op = 51 := by simpa using hc
                have hz2 : z = 2 := by rw [hz, hwid]; rcases hop'' with rfl | rfl <;> simp
                refine (half_spec w1 p q s h hw hh a (by omega)).mono ?_
                rintro v w2 ⟨rfl, hS⟩
                refine ⟨_, rfl, fin _ _ hS ?_⟩
                rw [wrap_u64 (by omega) (by omega)]
                rcases hop'' with rfl | rfl <;> simp [loadVal, memSig, cut] <;> omega
              · rw [ht] at hc
                have hop'' : op ≠ 47 ∧ op ≠ 51 := by simpa using hc
                refine cond_intro (fun h46 => ?_) (fun h46 => ?_)
                · have h46 : op = 46 := by simpa using h46
                  subst h46
                  have hz2 : z = 2 := by rw [hz, hwid]; simp
                  refine (half_spec w1 p q s h hw hh a (by omega)).mono ?_
                  rintro v w2 ⟨rfl, hS⟩
                  refine ⟨_, rfl, fin _ _ hS ?_⟩
                  have e : loadVal s.back 46 a = cut 127 (if 65536 ≤ 2 * rd s.back a 2 then rd s.back a 2 + (18446744073709551616 - 65536) else rd s.back a 2) := by simp [loadVal, memSig]
                  rw [e, wrap_i16 (by omega) (by omega)]
                  split
                  · rw [wrap_i64 (by omega) (by omega), wrap_u64_mod (rd s.back a 2 - 65536), wrap_u32_mod, wrap_u64 (by omega) (by omega), if_pos (by omega)]
                    simp only [cut, true_or, if_true]; omega
                  · rw [wrap_i64 (by omega) (by omega), wrap_u64 (x := rd s.back a 2) (by omega) (by omega), wrap_u32_mod, wrap_u64 (by omega) (by omega), if_neg (by omega)]
                    simp [cut]
                · have h46 : op ≠ 46 := by simpa using h46
                  refine cond_intro (fun h50 => ?_) (fun h50 => ?_)
                  · have h50 : op = 50 := by simpa using h50
                    subst h50
                    have hz2 : z = 2 := by rw [hz, hwid]; simp
                    refine (half_spec w1 p q s h hw hh a (by omega)).mono ?_
                    rintro v w2 ⟨rfl, hS⟩
                    refine ⟨_, rfl, fin _ _ hS ?_⟩
                    have e : loadVal s.back 50 a = (if 65536 ≤ 2 * rd s.back a 2 then rd s.back a 2 + (18446744073709551616 - 65536) else rd s.back a 2) := by simp [loadVal, memSig, cut]
                    rw [e, wrap_i16 (by omega) (by omega)]
                    split
                    · rw [wrap_i64 (by omega) (by omega), wrap_u64_mod, if_pos (by omega)]; omega
                    · rw [wrap_i64 (by omega) (by omega), wrap_u64 (by omega) (by omega), if_neg (by omega)]
                  · have h50 : op ≠ 50 := by simpa using h50
                    have L9 : ∀ (t : Bool), t = (op == 40 || op == 42 || op == 53) → mem_Store_Load.L9 (some ⟨p, 0, none⟩) a 0 op t R w1 := by
                      intro t ht
                      refine mem_Store_Load.step9 _ _ _ _ _ _ _ ?_
                      unfold mem_Store_Load.V9
                      refine cond_intro (fun hc => ?_) (fun hc => ?_)
                      · rw [ht] at hc
                        have hop3 : op = 40 ∨ op = 42 ∨ op = 53 := by simp at hc; omega
                        have hz4 : z = 4 := by rw [hz, hwid]; rcases hop3 with rfl | rfl | rfl <;> simp
                        refine (long_spec w1 p q s h hw hh a (by omega)).mono ?_
                        rintro v w2 ⟨rfl, hS⟩
                        refine ⟨_, rfl, fin _ _ hS ?_⟩
                        rw [wrap_u64 (by omega) (by omega)]
                        rcases hop3 with rfl | rfl | rfl <;> simp [loadVal, memSig, cut] <;> omega
                      · rw [ht] at hc
                        have hop3 : op ≠ 40 ∧ op ≠ 42 ∧ op ≠ 53 := by simp at hc; omega
                        refine cond_intro (fun h52 => ?_) (fun h52 => ?_)
                        · have h52 : op = 52 := by simpa using h52
                          subst h52
                          have hz4 : z = 4 := by rw [hz, hwid]; simp
                          refine (long_spec w1 p q s h hw hh a (by omega)).mono ?_
                          rintro v w2 ⟨rfl, hS⟩
                          refine ⟨_, rfl, fin _ _ hS ?_⟩
                          have e : loadVal s.back 52 a = (if 4294967296 ≤ 2 * rd s.back a 4 then rd s.back a 4 + (18446744073709551616 - 4294967296) else rd s.back a 4) := by simp [loadVal, memSig, cut]
                          rw [e, wrap_i32 (by omega) (by omega)]
                          split
                          · rw [wrap_i64 (by omega) (by omega), wrap_u64_mod, if_pos (by omega)]; omega
                          · rw [wrap_i64 (by omega) (by omega), wrap_u64 (by omega) (by omega), if_neg (by omega)]
                        · have h52 : op ≠ 52 := by simpa using h52
                          have hop4 : op = 41 ∨ op = 43 := by omega
                          have hz8 : z = 8 := by rw [hz, hwid]; rcases hop4 with rfl | rfl <;> simp
                          have L10 : mem_Store_Load.L10 (some ⟨p, 0, none⟩) a 0 true R w1 := by
                            refine mem_Store_Load.step10 _ _ _ _ _ _ ?_
                            unfold mem_Store_Load.V10
                            simp only [cond_true, nilV_some, Nat.zero_add, Int.toNat_natCast, h.c2, hma]
                            refine ⟨_, _, _, rfl, by omega, by omega, ?_⟩
                            rw [slAddr_lt (by omega), Nat.zero_add, Nat.mul_one]
                            refine (word_spec w1 q a s.back hbk (fun j hj => h.cb (a + j) (by omega))).mono ?_
                            rintro v w2 ⟨rfl, rfl⟩
                            refine ⟨_, rfl, fin _ _ (Same.refl _ _ _) ?_⟩
                            rcases hop4 with rfl | rfl <;> simp [loadVal, memSig, cut]
                          rcases hop4 with rfl | rfl
                          · exact L10
                          · exact L10
                    refine cond_intro (fun hc => ?_) (fun hc => ?_)
                    · exact L9 _ (by simp at hc; simp [hc])
                    · refine cond_intro (fun hc' => ?_) (fun hc' => ?_)
                      · exact L9 _ (by simp at hc'; simp [hc'])
                      · exact L9 _ (by rw [hc, hc']; simp)
            refine cond_intro (fun hc => ?_) (fun hc => ?_)
            · exact L7 _ (by simp at hc; simp [hc])
            · exact L7 _ (by rw [hc]; simp)
    refine cond_intro (fun hc => ?_) (fun hc => ?_)
    · exact L4 _ (by simp at hc; simp [hc])
    · exact L4 _ (by rw [hc]; simp)
  · rw [if_neg hin]
    refine ⟨_, _, rfl, ?_⟩
    have := hR w1 (Same.refl _ _ _)
    rw [if_neg (by rw [← hz]; exact hin)] at this
    exact this

theorem Load_spec (w : World) (p q : Nat) (s : MS) (h : MSAt w p q s) (hw : s.Wf) (op b o : Int) (hb0 : 0 ≤ b) (hb1 : b < 4294967296) (ho0 : 0 ≤ o) (ho1 : o < 4294967296) :
    Runs Tryz.prog mem_Store_Load.id #[.pointer (some ⟨p, 0, none⟩), .int .i64 op, .int .u32 b, .int .u32 o] w fun v w' =>
      v = (if 40 ≤ op ∧ op ≤ 53 then (if b + o + (memSig op).1 ≤ s.n then .tuple #[.int .u64 (loadVal s.back op (b + o).toNat), .int .i64 0] else .tuple #[.int .u64 0, .int .i64 42]) else .tuple #[.int .u64 0, .int .i64 35]) ∧ Same [] w.heap.size w w' := by
  refine mem_Store_Load.enter _ _ _ _ _ _ ?_
  generalize hRd : (fun (v : Value) (w' : World) => v = (if 40 ≤ op ∧ op ≤ 53 then (if b + o + (memSig op).1 ≤ s.n then Value.tuple #[.int .u64 (loadVal s.back op (b + o).toNat), .int .i64 0] else .tuple #[.int .u64 0, .int .i64 42]) else .tuple #[.int .u64 0, .int .i64 35]) ∧ Same [] w.heap.size w w') = R
  have at_ : (40 ≤ op ∧ op ≤ 53) → ∀ z, z = (memSig op).1 → mem_Store_Load.L2 (some ⟨p, 0, none⟩) op b o z R w := fun hop z hz =>
    Load_at w p q s h hw op b o hop hb0 hb1 ho0 ho1 z hz R (fun w' hs => by subst hRd; exact ⟨by rw [if_pos hop], hs⟩)
  have bad : ¬ (40 ≤ op ∧ op ≤ 53) → R (.tuple #[.int .u64 0, .int .i64 35]) w := fun hn => by subst hRd; exact ⟨by rw [if_neg hn], Same.refl _ _ _⟩
  unfold mem_Store_Load.V
  have L1 : ∀ t : Bool, t = (op == 44 || op == 45 || op == 48 || op == 49) → mem_Store_Load.L1 (some ⟨p, 0, none⟩) op b o op t R w := by
    intro t ht
    refine mem_Store_Load.step1 _ _ _ _ _ _ _ _ ?_
    unfold mem_Store_Load.V1
    refine cond_intro (fun hc => ?_) (fun hc => ?_)
    · rw [ht] at hc
      have hop : op = 44 ∨ op = 45 ∨ op = 48 ∨ op = 49 := by simp at hc; omega
      exact at_ (by omega) 1 (by rcases hop with rfl | rfl | rfl | rfl <;> rfl)
    · rw [ht] at hc
      have hop : op ≠ 44 ∧ op ≠ 45 ∧ op ≠ 48 ∧ op ≠ 49 := by simp at hc; omega
      have L3 : ∀ t : Bool, t = (op == 46 || op == 47 || op == 50 || op == 51) → mem_Store_Load.L3 (some ⟨p, 0, none⟩) op b o op t R w := by
        intro t ht
        refine mem_Store_Load.step3 _ _ _ _ _ _ _ _ ?_
        unfold mem_Store_Load.V3
        refine cond_intro (fun hc => ?_) (fun hc => ?_)
        · rw [ht] at hc
          have hop : op = 46 ∨ op = 47 ∨ op = 50 ∨ op = 51 := by simp at hc; omega
          exact at_ (by omega) 2 (by rcases hop with rfl | rfl | rfl | rfl <;> rfl)
        · rw [ht] at hc
          have hop2 : op ≠ 46 ∧ op ≠ 47 ∧ op ≠ 50 ∧ op ≠ 51 := by simp at hc; omega
          have L5 : ∀ t : Bool, t = (op == 40 || op == 42 || op == 52 || op == 53) → mem_Store_Load.L5 (some ⟨p, 0, none⟩) op b o op t R w := by
            intro t ht
            refine mem_Store_Load.step5 _ _ _ _ _ _ _ _ ?_
            unfold mem_Store_Load.V5
            refine cond_intro (fun hc => ?_) (fun hc => ?_)
            · rw [ht] at hc
              have hop : op = 40 ∨ op = 42 ∨ op = 52 ∨ op = 53 := by simp at hc; omega
              exact at_ (by omega) 4 (by rcases hop with rfl | rfl | rfl | rfl <;> rfl)
            · rw [ht] at hc
              have hop3 : op ≠ 40 ∧ op ≠ 42 ∧ op ≠ 52 ∧ op ≠ 53 := by simp at hc; omega
              have L8 : ∀ t : Bool, t = (op == 41 || op == 43) → mem_Store_Load.L8 (some ⟨p, 0, none⟩) op b o t R w := by
                intro t ht
                refine mem_Store_Load.step8 _ _ _ _ _ _ _ ?_
                unfold mem_Store_Load.V8
                refine cond_intro (fun hc => ?_) (fun hc => ?_)
                · rw [ht] at hc
                  have hop : op = 41 ∨ op = 43 := by simpa using hc
                  exact at_ (by omega) 8 (by rcases hop with rfl | rfl <;> rfl)
                · rw [ht] at hc
                  have hop4 : op ≠ 41 ∧ op ≠ 43 := by simpa using hc
                  exact bad (by omega)
              refine cond_intro (fun hc => L8 _ (by simp at hc; simp [hc])) (fun hc => L8 _ (by rw [hc]; simp))
          refine cond_intro (fun hc => L5 _ (by simp at hc; simp [hc])) (fun hc => cond_intro (fun hc' => L5 _ (by simp at hc'; simp [hc'])) (fun hc' => cond_intro (fun hc2 => L5 _ (by simp at hc2; simp [hc2])) (fun hc2 => L5 _ (by rw [hc, hc', hc2]; simp))))
      refine cond_intro (fun hc => L3 _ (by simp at hc; simp [hc])) (fun hc => cond_intro (fun hc' => L3 _ (by simp at hc'; simp [hc'])) (fun hc' => cond_intro (fun hc2 => L3 _ (by simp at hc2; simp [hc2])) (fun hc2 => L3 _ (by rw [hc, hc', hc2]; simp))))
  refine cond_intro (fun hc => L1 _ (by simp at hc; simp [hc])) (fun hc => cond_intro (fun hc' => L1 _ (by simp at hc'; simp [hc'])) (fun hc' => cond_intro (fun hc2 => L1 _ (by simp at hc2; simp [hc2])) (fun hc2 => L1 _ (by rw [hc, hc', hc2]; simp))))

/-! ### Check -/

end Go.Proofs.Qxb6500317aGreat.M
