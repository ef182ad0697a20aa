/-
  Package api: signs for numbers and bytes.
-/
import Derived.Test.Qxb6500317aGreatGen
import Derived.Test.Qxb6500317aGreatLib
import Derived.Laws.BytesArg
set_option linter.unusedSimpArgs false
set_option linter.unusedVariables false
set_option maxRecDepth 100000
namespace Go.Proofs.Qxb6500317aGreat
open Go Go.Vc

/-! ### Itoa -/
def digs : Nat → Int → List Int → List Int
  | 0, _, acc => acc
  | f + 1, n, acc => if n = 0 then acc else digs f (n.tdiv 10) ((48 + (n.tmod 10).natAbs : Int) :: acc)

def itoa (n : Int) : ByteArray :=
  if n = 0 then ⟨#[48]⟩ else if n < 0 then (⟨#[45]⟩ : ByteArray) ++ strOfNums (digs 20 n []) else strOfNums (digs 20 n [])

theorem tdiv10 (m : Int) : (m.tdiv 10).natAbs = m.natAbs / 10 := by rw [Int.natAbs_tdiv]; rfl
theorem tmod10_lt (m : Int) : (m.tmod 10).natAbs < 10 := by rw [Int.natAbs_tmod]; exact Nat.mod_lt _ (by decide)

theorem Itoa_loop (w0 : World) (neg : Bool) (D : List Int) (hD : D.length ≤ 20) (b B : Nat) (hB : B ≤ b) (R Q : Value → World → Prop)
    (hR : ∀ w, Same [] B w0 w → R (.string (if neg then (⟨#[45]⟩ : ByteArray) ++ strOfNums D else strOfNums D)) w) :
    ∀ (f : Nat) (m : Int) (acc : List Int) (w : World), acc.length + f = 20 → 1 ≤ f → m.natAbs < 10 ^ (f - 1) → -9223372036854775808 ≤ m → m ≤ 9223372036854775807 → digs f m acc = D →
      (∀ j, j < acc.length → w.cell? ⟨b, 20 - acc.length + j, none⟩ = some (.int .u8 (acc.getD j 0))) → (∀ j, j < 20 → can w ⟨b, j, none⟩) → Same [] B w0 w →
      api_Itoa.L1 m b (20 - acc.length) neg R Q w := by
  intro f
  induction f with
  | zero => intro m acc w _ h1; omega
  | succ f ih =>
    intro m acc w hl _ hm hm1 hm2 hd hc hcan hs
    refine api_Itoa.step1 _ _ _ _ _ _ _ ?_
    unfold api_Itoa.V1
    refine cond_intro (fun hne => ?_) (fun heq => ?_)
    · have hm0 : m ≠ 0 := by simpa using hne
      have hf : f ≠ 0 := by
        rintro rfl
        simp at hm
        omega
      have key : ∀ d : Int, d = (m.tmod 10).natAbs → api_Itoa.L2 m b (20 - acc.length) neg d R Q w := by
        intro d hdd
        have hlt := tmod10_lt m
        have e1 : IntKind.wrap .i64 ((20 - (acc.length : Int)) - 1) = 20 - ((acc.length + 1 : Nat) : Int) := by rw [wrap_i64 (by omega) (by omega)]; omega
        have e2 : IntKind.wrap .u8 (IntKind.wrap .i64 (48 + d)) = 48 + (m.tmod 10).natAbs := by rw [wrap_i64 (by omega) (by omega), wrap_u8 (by omega) (by omega), hdd]
        have e3 : IntKind.wrap .i64 (Int.tdiv m 10) = m.tdiv 10 := by
          have := tdiv10 m
          rw [wrap_i64 (by omega) (by omega)]
        refine api_Itoa.step2 _ _ _ _ _ _ _ _ ?_
        unfold api_Itoa.V2
        simp only [e1, e2, e3]
        have e4 : (20 - ((acc.length + 1 : Nat) : Int)).toNat = 20 - (acc.length + 1) := by omega
        rw [e4, Nat.mul_one, add_mk, Nat.zero_add]
        have hin : 20 - (acc.length + 1) < 20 := by omega
        obtain ⟨⟨u, hu⟩, hfz⟩ := hcan _ hin
        refine ⟨by omega, ⟨⟨u, hu⟩, hfz⟩, ?_⟩
        have := ih (m.tdiv 10) ((48 + (m.tmod 10).natAbs : Int) :: acc) (w.setCell ⟨b, 20 - (acc.length + 1), none⟩ (.int .u8 (48 + (m.tmod 10).natAbs))) (by simp; omega) (by omega) ?_ ?_ ?_ ?_ ?_ ?_ ?_
        · simpa using this
        · rw [tdiv10]
          have h10 : 10 ^ (f + 1 - 1) = 10 * 10 ^ (f - 1) := by rw [← Nat.pow_succ']; congr 1; omega
          rw [h10] at hm
          exact Nat.div_lt_of_lt_mul hm
        · have := tdiv10 m; omega
        · have := tdiv10 m; omega
        · rw [← hd]; conv => rhs; unfold digs
          rw [if_neg hm0]
        · intro j hj
          simp only [List.length_cons] at hj ⊢
          cases j with
          | zero =>
            have := cell_set w b (20 - (acc.length + 1)) (20 - (acc.length + 1)) (.int .u8 (48 + (m.tmod 10).natAbs)) hu
            rw [if_pos rfl] at this
            simpa using this
          | succ j =>
            have hcj := hc j (by omega)
            rw [show 20 - (acc.length + 1) + (j + 1) = 20 - acc.length + j by omega, cell_set w b _ _ _ hcj, if_neg (by omega)]
            simp
        · intro j hj
          obtain ⟨⟨x, hx⟩, hfj⟩ := hcan j hj
          refine ⟨?_, by simpa using hfj⟩
          rw [cell_set w b _ _ _ hx]
          split <;> exact ⟨_, rfl⟩
        · exact hs.setCell (.inl (by simpa using hB)) _
      refine cond_intro (fun hn => ?_) (fun hp => ?_)
      · have : m.tmod 10 < 0 := by simpa using hn
        have hlt := tmod10_lt m
        exact key _ (by rw [wrap_i64 (by omega) (by omega)]; omega)
      · have : ¬ m.tmod 10 < 0 := by simpa using hp
        exact key _ (by omega)
    · have hm0 : m = 0 := by simpa using heq
      subst hm0
      have hD' : acc = D := by rw [← hd]; unfold digs; simp
      subst hD'
      have e4 : (20 - (acc.length : Int)).toNat = 20 - acc.length := by omega
      refine ⟨by omega, strOfNums acc, w, ?_, ?_⟩
      · rw [e4]
        have hsl : slAddr (some ⟨b, 0, none⟩) (20 - acc.length) 20 1 = some ⟨b, if acc.length = 0 then 0 else 20 - acc.length, none⟩ := by
          by_cases h0 : acc.length = 0
          · rw [h0]; simp [slAddr]
          · rw [slAddr_lt (by omega), if_neg h0]; simp
        rw [hsl, show 20 - (20 - acc.length) = acc.length by omega]
        refine run_convert_bytes_arg w T_sl_uint8 T_uint8 (by kernel_rfl) (by kernel_rfl) b _ acc.length acc.length acc rfl (fun i hi => ?_) T_string (by kernel_rfl)
        rw [if_neg (by omega)]
        exact hc i hi
      · have := hR w hs
        have hsz : (strOfNums acc).size = acc.length := strOfNums_size acc
        refine cond_intro (fun hn => ?_) (fun hp => ?_)
        · subst hn
          refine ⟨?_, by simpa using this⟩
          rw [hsz]
          have : ByteArray.size ⟨#[45]⟩ = 1 := rfl
          rw [this]
          omega
        · subst hp
          simpa using this

theorem digs_length : ∀ (f : Nat) (m : Int) (acc : List Int), (digs f m acc).length ≤ acc.length + f
  | 0, _, _ => by simp [digs]
  | f + 1, m, acc => by
    unfold digs
    split
    · omega
    · have := digs_length f (m.tdiv 10) ((48 + (m.tmod 10).natAbs : Int) :: acc)
      rw [List.length_cons] at this
      omega

theorem can_alloc (w : World) (cs : List Value) (t : TypeId) (j : Nat) (hj : j < cs.length) : can (w.alloc (.cells cs.toArray t)) ⟨w.heap.size, j, none⟩ := by
  refine ⟨⟨cs[j], ?_⟩, by simp⟩
  rw [World.cell?_alloc_new]
  simp [hj]

theorem Itoa_spec (n : Int) (w : World) (h1 : -9223372036854775808 ≤ n) (h2 : n ≤ 9223372036854775807) :
    Runs Tryz.prog api_Itoa.id #[.int .i64 n] w fun v w' => v = .string (itoa n) ∧ Same [] w.heap.size w w' := by
  refine api_Itoa.enter _ _ _ _ ?_
  unfold api_Itoa.V
  refine cond_intro (fun h => ?_) (fun h => ?_)
  · have : n = 0 := by simpa using h
    subst this
    exact ⟨by simp [itoa], Same.refl _ _ _⟩
  · have hn : n ≠ 0 := by simpa using h
    have := Itoa_loop w (decide (n < 0)) (digs 20 n []) (by simpa using digs_length 20 n []) w.heap.size w.heap.size (Nat.le_refl _)
      (fun v w' => v = .string (itoa n) ∧ Same [] w.heap.size w w') (fun _ _ => False) (fun w' hs => ⟨by simp only [itoa, if_neg hn, decide_eq_true_eq], hs⟩)
      20 n [] (w.alloc (.cells [(.int .u8 0), (.int .u8 0), (.int .u8 0), (.int .u8 0), (.int .u8 0), (.int .u8 0), (.int .u8 0), (.int .u8 0), (.int .u8 0), (.int .u8 0), (.int .u8 0), (.int .u8 0), (.int .u8 0), (.int .u8 0), (.int .u8 0), (.int .u8 0), (.int .u8 0), (.int .u8 0), (.int .u8 0), (.int .u8 0)].toArray T__20_uint8))
      rfl (by omega) (by simp only [Nat.reduceSub, Nat.reducePow]; omega) h1 h2 rfl (fun j hj => by simp at hj) (fun j hj => can_alloc w _ _ j (by simpa using hj)) ((Same.refl _ _ _).alloc (Nat.le_refl _) _)
    simpa using this

/-! ### Hex -/
/-- The sixteen signs. -/
def hexd (n : Nat) : Int := byteAt ⟨#[48, 49, 50, 51, 52, 53, 54, 55, 56, 57, 97, 98, 99, 100, 101, 102]⟩ n

/-- The signs of v, f of them, ahead of acc. -/
def hexs : Nat → Nat → List Int → List Int
  | 0, _, acc => acc
  | f + 1, v, acc => hexs f (v / 16) (hexd (v % 16) :: acc)

theorem hexs_length : ∀ (f v : Nat) (acc : List Int), (hexs f v acc).length = f + acc.length
  | 0, _, _ => by simp [hexs]
  | f + 1, v, acc => by rw [hexs, hexs_length f, List.length_cons]; omega

/-- v in n signs. -/
def hexOf (v : Int) (n : Nat) : ByteArray := strOfNums ((hexs 16 v.toNat []).drop (16 - n))

theorem bAnd15 (k : IntKind) (hk : k = .u64 ∨ k = .u8) (n : Nat) (h : n < 2 ^ k.bits) : bAnd k (n : Int) 15 = ((n % 16 : Nat) : Int) := by
  rcases hk with rfl | rfl
  · have e : (BitVec.ofInt 64 (n : Int) &&& BitVec.ofInt 64 15).toNat = n % 16 := by
      have e1 : (BitVec.ofInt 64 (n : Int)).toNat = n := by
        rw [BitVec.ofInt_natCast, BitVec.toNat_ofNat]; simp only [IntKind.bits] at h; omega
      have e2 : (BitVec.ofInt 64 15).toNat = 2 ^ 4 - 1 := by decide
      rw [BitVec.toNat_and, e1, e2, Nat.and_two_pow_sub_one_eq_mod]
    show IntKind.wrap .u64 (((BitVec.ofInt 64 (n : Int) &&& BitVec.ofInt 64 15).toNat : Nat) : Int) = _
    rw [e, wrap_u64 (by omega) (by omega)]
  · have e : (BitVec.ofInt 8 (n : Int) &&& BitVec.ofInt 8 15).toNat = n % 16 := by
      have e1 : (BitVec.ofInt 8 (n : Int)).toNat = n := by
        rw [BitVec.ofInt_natCast, BitVec.toNat_ofNat]; simp only [IntKind.bits] at h; omega
      have e2 : (BitVec.ofInt 8 15).toNat = 2 ^ 4 - 1 := by decide
      rw [BitVec.toNat_and, e1, e2, Nat.and_two_pow_sub_one_eq_mod]
    show IntKind.wrap .u8 (((BitVec.ofInt 8 (n : Int) &&& BitVec.ofInt 8 15).toNat : Nat) : Int) = _
    rw [e, wrap_u8 (by omega) (by omega)]

theorem fdiv_pow4 (n : Nat) : Int.fdiv (n : Int) (2 ^ (4 : Nat)) = ((n / 16 : Nat) : Int) := by
  rw [Int.fdiv_eq_ediv_of_nonneg _ (by decide)]
  rfl

theorem Hex_loop (w0 : World) (dg : Nat) (h1 : 1 ≤ dg) (h16 : dg ≤ 16) (D : List Int) (hD : D.length = 16) (b B : Nat) (hB : B ≤ b) (R Q : Value → World → Prop)
    (hR : ∀ w, Same [] B w0 w → R (.string (strOfNums (D.drop (16 - dg)))) w) :
    ∀ (f v : Nat) (acc : List Int) (w : World), acc.length + f = 16 → v < 18446744073709551616 → hexs f v acc = D →
      (∀ j, j < acc.length → w.cell? ⟨b, f + j, none⟩ = some (.int .u8 (acc.getD j 0))) → (∀ j, j < 16 → can w ⟨b, j, none⟩) → Same [] B w0 w →
      api_Hex.L2 v dg b ((f : Int) - 1) R Q w := by
  intro f
  induction f with
  | zero =>
    intro v acc w hl hv hd hc hcan hs
    refine api_Hex.step2 _ _ _ _ _ _ _ ?_
    unfold api_Hex.V2
    refine cond_false' (by simp) ?_
    simp only [hexs] at hd
    subst hd
    have e1 : IntKind.wrap .i64 ((16 : Int) - (dg : Int)) = ((16 - dg : Nat) : Int) := by rw [wrap_i64 (by omega) (by omega)]; omega
    simp only [e1, Int.toNat_natCast]
    refine ⟨by omega, strOfNums (acc.drop (16 - dg)), w, ?_, hR w hs⟩
    rw [slAddr_lt (by omega)]
    refine run_convert_bytes_arg w T_sl_uint8 T_uint8 (by kernel_rfl) (by kernel_rfl) b _ _ _ (acc.drop (16 - dg)) (by simp; omega) (fun i hi => ?_) T_string (by kernel_rfl)
    have := hc (16 - dg + i) (by omega)
    rw [Nat.zero_add] at this
    rw [Nat.zero_add, Nat.mul_one, this]
    simp [List.getD]
  | succ f ih =>
    intro v acc w hl hv hd hc hcan hs
    refine api_Hex.step2 _ _ _ _ _ _ _ ?_
    unfold api_Hex.V2
    refine cond_true' (by simp <;> omega) ?_
    have e0 : (((f + 1 : Nat) : Int) - 1) = (f : Int) := by omega
    have e1 : bAnd .u64 (v : Int) 15 = ((v % 16 : Nat) : Int) := bAnd15 .u64 (.inl rfl) v (by simpa [IntKind.bits] using hv)
    have e2 : IntKind.wrap .i64 ((f : Int) - 1) = (f : Int) - 1 := wrap_i64 (by omega) (by omega)
    simp only [e0, e1, e2, fdiv_pow4, Int.toNat_natCast, Nat.mul_one, add_mk, Nat.zero_add]
    have hlt : v % 16 < 16 := Nat.mod_lt _ (by decide)
    have hsz : ByteArray.size ⟨#[48, 49, 50, 51, 52, 53, 54, 55, 56, 57, 97, 98, 99, 100, 101, 102]⟩ = 16 := rfl
    obtain ⟨⟨u, hu⟩, hfz⟩ := hcan f (by omega)
    refine ⟨by rw [hsz]; omega, by omega, ⟨⟨u, hu⟩, hfz⟩, ?_⟩
    refine ih (v / 16) (hexd (v % 16) :: acc) _ (by simp; omega) (by omega) (by rw [← hd]; rfl) ?_ ?_ (hs.setCell (.inl (by simpa using hB)) _)
    · intro j hj
      cases j with
      | zero =>
        have := cell_set w b f f (.int .u8 (hexd (v % 16))) hu
        rw [if_pos rfl] at this
        exact this
      | succ j =>
        have hcj := hc j (by simpa using hj)
        rw [show f + (j + 1) = f + 1 + j by omega, cell_set w b _ _ _ hcj, if_neg (by omega)]
        simp
    · intro j hj
      obtain ⟨⟨x, hx⟩, hfj⟩ := hcan j hj
      refine ⟨?_, by simpa using hfj⟩
      rw [cell_set w b _ _ _ hx]
      split <;> exact ⟨_, rfl⟩

theorem Hex_spec (v : Int) (dg : Nat) (w : World) (h0 : 0 ≤ v) (h1 : v < 18446744073709551616) (hd1 : 1 ≤ dg) (hd2 : dg ≤ 16) :
    Runs Tryz.prog api_Hex.id #[.int .u64 v, .int .i64 dg] w fun r w' => r = .string (hexOf v dg) ∧ Same [] w.heap.size w w' := by
  obtain ⟨n, rfl⟩ := Int.eq_ofNat_of_zero_le h0
  refine api_Hex.enter _ _ _ _ _ ?_
  unfold api_Hex.V
  refine cond_false' (by simp; omega) (cond_false' (by simp; omega) ?_)
  refine api_Hex.step1 _ _ _ _ _ ?_
  unfold api_Hex.V1
  have := Hex_loop w dg hd1 hd2 (hexs 16 n []) (by rw [hexs_length]; rfl) w.heap.size w.heap.size (Nat.le_refl _) (fun r w' => r = .string (hexOf n dg) ∧ Same [] w.heap.size w w') (fun _ _ => False)
    (fun w' hs => ⟨by simp [hexOf], hs⟩) 16 n [] (w.alloc (.cells [(.int .u8 0), (.int .u8 0), (.int .u8 0), (.int .u8 0), (.int .u8 0), (.int .u8 0), (.int .u8 0), (.int .u8 0), (.int .u8 0), (.int .u8 0), (.int .u8 0), (.int .u8 0), (.int .u8 0), (.int .u8 0), (.int .u8 0), (.int .u8 0)].toArray T__16_uint8))
    rfl (by omega) rfl (fun j hj => by simp at hj) (fun j hj => can_alloc w _ _ j (by simpa using hj)) ((Same.refl _ _ _).alloc (Nat.le_refl _) _)
  simpa using this

/-! ### HexStr -/
def hexL : List UInt8 → List Int
  | [] => []
  | b :: l => hexd (b.toNat / 16) :: hexd (b.toNat % 16) :: hexL l

theorem hexL_append (a b : List UInt8) : hexL (a ++ b) = hexL a ++ hexL b := by
  induction a with
  | nil => rfl
  | cons x a ih => simp [hexL, ih]
theorem hexL_length (a : List UInt8) : (hexL a).length = 2 * a.length := by
  induction a with
  | nil => rfl
  | cons x a ih => simp [hexL, ih]; omega

def hexStr (s : ByteArray) : ByteArray := strOfNums (hexL s.data.toList)

theorem take_snoc (s : ByteArray) (k : Nat) (h : k < s.size) : s.data.toList.take (k + 1) = s.data.toList.take k ++ [s.data.getD k 0] := by
  have h' : k < s.data.size := h
  rw [List.take_succ_eq_append_getElem (by simpa using h)]
  simp only [Array.getD, dif_pos h', Array.getElem_toList]
  rfl

theorem HexStr_loop (s : ByteArray) (hs : s.size ≤ 1000000) (w0 : World) (B : Nat) (R Q : Value → World → Prop) (hR : ∀ w, Same [] B w0 w → R (.string (hexStr s)) w) :
    ∀ (f k : Nat) (a : Option Addr) (l c : Nat) (w : World), k + f = s.size → l = 2 * k → w.ownsRow B T_uint8 1 (.slice a l c) l ((hexL (s.data.toList.take k)).map (Value.int .u8)) → B ≤ w.heap.size → Same [] B w0 w →
      api_HexStr.L1 s a l c k R Q w := by
  intro f
  induction f with
  | zero =>
    intro k a l c w hk hl ho hB hS
    refine api_HexStr.step1 _ _ _ _ _ _ _ _ ?_
    unfold api_HexStr.V1
    refine cond_false' (by simp; omega) ?_
    refine ⟨hexStr s, w, ?_, hR w hS⟩
    have e : s.data.toList.take k = s.data.toList := List.take_of_length_le (by
      have : s.data.toList.length = s.size := by simp
      omega)
    rw [e] at ho
    exact convert_own T_sl_uint8 T_uint8 T_string (by kernel_rfl) (by kernel_rfl) (by kernel_rfl) w B a l c _ ho
  | succ f ih =>
    intro k a l c w hk hl ho hB hS
    refine api_HexStr.step1 _ _ _ _ _ _ _ _ ?_
    unfold api_HexStr.V1
    refine cond_true' (by simp; omega) ?_
    have hks : k < s.size := by omega
    have hsz : ByteArray.size ⟨#[48, 49, 50, 51, 52, 53, 54, 55, 56, 57, 97, 98, 99, 100, 101, 102]⟩ = 16 := rfl
    have hbt : (s.data.getD k 0).toNat < 256 := UInt8.toNat_lt _
    have e1 : Int.fdiv (byteAt s (Int.toNat (k : Int))) (2 ^ (4 : Nat)) = (((s.data.getD k 0).toNat / 16 : Nat) : Int) := by
      rw [Int.toNat_natCast]; exact fdiv_pow4 _
    have e2 : bAnd .u8 (byteAt s (Int.toNat (k : Int))) 15 = (((s.data.getD k 0).toNat % 16 : Nat) : Int) := by
      rw [Int.toNat_natCast]; exact bAnd15 .u8 (.inr rfl) _ (by simpa [IntKind.bits] using hbt)
    have e3 : IntKind.wrap .i64 ((k : Int) + 1) = ((k + 1 : Nat) : Int) := by rw [wrap_i64 (by omega) (by omega)]; omega
    rw [e1, e2, e3, hsz, Int.toNat_natCast, Int.toNat_natCast]
    refine ⟨by omega, by omega, ?_⟩
    obtain ⟨a1, c1, w1, hr1, ho1, hS1, hz1⟩ := append_one T_sl_uint8.el T_sl_uint8 w B a l c _ ho [.int .u8 (hexd ((s.data.getD k 0).toNat / 16))] rfl (by simp [Value.oneCell']) (by omega) (by simp only [maxLen]; omega) hB
    refine ⟨a1, l + 1, c1, w1, hr1, by omega, by omega, ?_⟩
    obtain ⟨a2, c2, w2, hr2, ho2, hS2, hz2⟩ := append_one T_sl_uint8.el T_sl_uint8 w1 B a1 (l + 1) c1 _ ho1 [.int .u8 (hexd ((s.data.getD k 0).toNat % 16))] rfl (by simp [Value.oneCell']) (by omega) (by simp only [maxLen]; omega) (by omega)
    refine ⟨a2, l + 1 + 1, c2, w2, hr2, ih (k + 1) a2 _ c2 w2 (by omega) (by omega) ?_ (by omega) ((hS.trans hS1).trans hS2)⟩
    rw [take_snoc s k hks, hexL_append]
    simpa [hexL, List.append_assoc] using ho2

theorem HexStr_spec (s : ByteArray) (w : World) (hs : s.size ≤ 1000000) :
    Runs Tryz.prog api_HexStr.id #[.string s] w fun r w' => r = .string (hexStr s) ∧ Same [] w.heap.size w w' := by
  refine api_HexStr.enter _ _ _ _ ?_
  unfold api_HexStr.V
  have e1 : IntKind.wrap .i64 ((2 : Int) * ((s.size : Nat) : Int)) = ((2 * s.size : Nat) : Int) := by rw [wrap_i64 (by omega) (by omega)]; omega
  rw [e1]
  obtain ⟨w1, hr, ho, hS⟩ := make_own T_sl_uint8.el w w.heap.size (2 * s.size) .i64 .i64 (by omega) (by simp only [maxLen]; omega) (Nat.le_refl _)
  refine ⟨_, _, _, w1, hr, ?_⟩
  exact HexStr_loop s hs w w.heap.size _ _ (fun w' h => ⟨rfl, h⟩) s.size 0 _ 0 _ w1 (by omega) rfl (by simpa [hexL] using ho) hS.size hS

end Go.Proofs.Qxb6500317aGreat
