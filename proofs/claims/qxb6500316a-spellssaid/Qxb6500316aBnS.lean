/-
  number: for every text of at most eleven bytes it holds.
-/
import Derived.Test.Qxb6500316aBnR
set_option linter.unusedSimpArgs false
set_option linter.unusedVariables false
set_option maxRecDepth 100000
namespace Go.Proofs.Qxb6500316a
open Go Go.Vc

theorem sv_at {s t : ByteArray} {a : Nat} (hb : ∀ j, j < t.size → nb s (a + j) = nb t j) (i : Nat) (hi : i < t.size) : sv s a i = sv t 0 i := by
  unfold sv
  rw [gs_at hb (i + 1) (by omega), hb i hi, Nat.zero_add]

theorem fin32 (s : ByteArray) (a i : Nat) (hi : i < 5) (c : Int) : slebFin 32 (slebV s a i) c ((7 * i + 7 : Nat) : Int) = if sv s a i < -2147483648 ∨ 2147483647 < sv s a i then none else some (sv s a i % 4294967296) := by
  unfold slebFin
  rw [if_neg (by omega), if_pos rfl, slebX_eq s a i (by omega)]
  by_cases h : sv s a i < -2147483648 ∨ 2147483647 < sv s a i
  · rw [if_pos h, if_pos h]
  · rw [if_neg h, if_neg h, wrap_u32_mod, wrap_u64 (by omega) (by omega)]
theorem fin64 (s : ByteArray) (a i : Nat) (hi : i ≤ 8) (c : Int) : slebFin 64 (slebV s a i) c ((7 * i + 7 : Nat) : Int) = some (sv s a i % 18446744073709551616) := by
  unfold slebFin
  rw [if_neg (by omega), if_neg (by decide), slebX_eq s a i (by omega), wrap_u64_mod]
theorem fin64_9 (s : ByteArray) (a : Nat) (c : Int) : slebFin 64 (slebV s a 9) c ((7 * 9 + 7 : Nat) : Int) = if c ≠ 0 ∧ c ≠ 127 then none else some ((gs s a 9 : Int) + ((nb s (a + 9) % 2 : Nat) : Int) * 9223372036854775808) := by
  unfold slebFin
  rw [if_pos (by decide)]
  unfold slebV
  rw [sleb_step9, Int.natCast_add, Int.natCast_mul]
  rfl

theorem sp_of {s t : ByteArray} {op : Nat} (h : Txt6 s t op) {i : Nat} (hz : t.size = i + 1) (hp : ∀ j, j < i → 128 ≤ nb s (14 + j)) (hl : nb s (14 + i) < 128) : SpAt t i :=
  ⟨hz, fun j hj => by rw [← h.b j (by omega)]; exact hp j hj, by rw [← h.b i (by omega)]; exact hl⟩

theorem num65_ok {s t : ByteArray} (h : Txt6 s t 65) (h11 : t.size ≤ 11) (c : Sc) (hO : ∃ i, SpAt t i ∧ i < 5 ∧ -2147483648 ≤ sv t 0 i ∧ sv t 0 i ≤ 2147483647) :
    decP s c = .ok ({ c with nT := 0 }, pmG 65 ⟨65, 0, sv t 0 (t.size - 1) % 4294967296⟩) s.size := by
  obtain ⟨i, hS, h5, hl, hu⟩ := hO
  have hz := hS.sz
  have hsz := h.sz
  refine dec6_ok h (by decide) (by decide) h11 c ?_
  have hP : slebP s s.size 32 14 = .ok (sv t 0 i % 4294967296) (14 + i + 1) := by
    unfold slebP
    rw [sleb_last s s.size 14 32 i (by omega) (by omega) (fun j hj => by rw [h.b j (by omega)]; exact hS.pre j hj) (by omega) (by rw [h.b i (by omega)]; exact hS.last)]
    simp only [Res.bind]
    rw [fin32 s 14 i h5, sv_at h.b i (by omega), if_neg (by omega)]
  rw [(rest_sleb _ _ _ _).1, hP, show t.size - 1 = i by omega]
  simp only [Res.bind]
  congr 1; omega
theorem num65_inv {s t : ByteArray} (h : Txt6 s t 65) (h11 : t.size ≤ 11) (c : Sc) {cp : Sc × PM} {q : Nat} (hd : decP s c = .ok cp q) : ∃ i, SpAt t i ∧ i < 5 ∧ -2147483648 ≤ sv t 0 i ∧ sv t 0 i ≤ 2147483647 := by
  obtain ⟨x, hx⟩ := dec6_inv h (by decide) (by decide) h11 c hd
  rw [(rest_sleb _ _ _ _).1] at hx
  unfold slebP at hx
  cases hL : slebL s s.size 14 32 11 0 0 14 using Res.cs with
  | err k a => rw [hL] at hx; cases hx
  | ok y q =>
    rw [hL] at hx
    simp only [Res.bind] at hx
    obtain ⟨i, h9, hb, hp, he, hl, rfl, rfl⟩ := sleb_inv s s.size 14 32 (by decide) y q hL
    simp only at hx
    rw [fin32 s 14 i (by omega)] at hx
    by_cases hr : sv s 14 i < -2147483648 ∨ 2147483647 < sv s 14 i
    · rw [if_pos hr] at hx; cases hx
    · rw [if_neg hr] at hx
      simp only at hx
      (first | (injection hx with z__; injection z__ with g1 g2) | injection hx with g1 g2)
      have hS := sp_of h (i := i) (by omega) hp hl
      rw [sv_at h.b i (by omega)] at hr
      exact ⟨i, hS, by omega, by omega, by omega⟩

theorem num66_ok {s t : ByteArray} (h : Txt6 s t 66) (h11 : t.size ≤ 11) (c : Sc) (hO : ∃ i, SpAt t i ∧ i < 10 ∧ (i = 9 → nb t 9 = 0 ∨ nb t 9 = 127)) :
    decP s c = .ok ({ c with nT := 0 }, pmG 66 ⟨66, 0, ow66 t (t.size - 1)⟩) s.size := by
  obtain ⟨i, hS, h10, h9⟩ := hO
  have hz := hS.sz
  have hsz := h.sz
  refine dec6_ok h (by decide) (by decide) h11 c ?_
  have hP : slebP s s.size 64 14 = .ok (ow66 t i) (14 + i + 1) := by
    unfold slebP
    rw [sleb_last s s.size 14 64 i (by omega) (by omega) (fun j hj => by rw [h.b j (by omega)]; exact hS.pre j hj) (by omega) (by rw [h.b i (by omega)]; exact hS.last)]
    simp only [Res.bind]
    by_cases h8 : i ≤ 8
    · rw [fin64 s 14 i h8, sv_at h.b i (by omega)]
      unfold ow66
      rw [if_pos h8]
    · obtain rfl : i = 9 := by omega
      have hb9 := h.b 9 (by omega)
      rw [fin64_9, hb9, if_neg (by have := h9 rfl; omega), gs_at h.b 9 (by omega)]
      unfold ow66
      rw [if_neg (by decide)]
  rw [(rest_sleb _ _ _ _).2.1, hP, show t.size - 1 = i by omega]
  simp only [Res.bind]
  congr 1; omega
theorem num66_inv {s t : ByteArray} (h : Txt6 s t 66) (h11 : t.size ≤ 11) (c : Sc) {cp : Sc × PM} {q : Nat} (hd : decP s c = .ok cp q) : ∃ i, SpAt t i ∧ i < 10 ∧ (i = 9 → nb t 9 = 0 ∨ nb t 9 = 127) := by
  obtain ⟨x, hx⟩ := dec6_inv h (by decide) (by decide) h11 c hd
  rw [(rest_sleb _ _ _ _).2.1] at hx
  unfold slebP at hx
  cases hL : slebL s s.size 14 64 11 0 0 14 using Res.cs with
  | err k a => rw [hL] at hx; cases hx
  | ok y q =>
    rw [hL] at hx
    simp only [Res.bind] at hx
    obtain ⟨i, h9, hb, hp, he, hl, rfl, rfl⟩ := sleb_inv s s.size 14 64 (by decide) y q hL
    simp only at hx
    by_cases h8 : i ≤ 8
    · rw [fin64 s 14 i h8] at hx
      simp only at hx
      (first | (injection hx with z__; injection z__ with g1 g2) | injection hx with g1 g2)
      exact ⟨i, sp_of h (i := i) (by omega) hp hl, by omega, fun g => by omega⟩
    · obtain rfl : i = 9 := by omega
      rw [fin64_9] at hx
      by_cases hr : (nb s (14 + 9) : Int) ≠ 0 ∧ (nb s (14 + 9) : Int) ≠ 127
      · rw [if_pos hr] at hx; cases hx
      · rw [if_neg hr] at hx
        simp only at hx
        (first | (injection hx with z__; injection z__ with g1 g2) | injection hx with g1 g2)
        have hS := sp_of h (i := 9) (by omega) hp hl
        rw [h.b 9 (by omega)] at hr
        exact ⟨9, hS, by omega, fun _ => by omega⟩

/-! ### Floats -/
theorem wordL_succ (t : ByteArray) (k : Nat) (v : Int) : wordL t (k + 1) v = wordL t k (bOr .u64 (IntKind.wrap .u64 (v * 2 ^ (8 : Nat))) (IntKind.wrap .u64 (if k < t.size then byteAt t k else 0))) := rfl
theorem wordL_le (x t : ByteArray) : ∀ (k : Nat) (v : Int), 0 ≤ v → k ≤ x.size → (∀ j, j < k → nb x j = nb t j) → wordL x k v = leF t k v
  | 0, v, _, _, _ => rfl
  | k + 1, v, h0, hk, hb => by
    have hlt := nb_lt x k
    rw [wordL_succ, leF_succ, if_pos (by omega), byteAt_nb, bOr_u64_any _ _ h0 (by omega) (by omega), hb k (by omega)]
    exact wordL_le x t k _ (by omega) (by omega) (fun j hj => hb j (by omega))
theorem wordL_zero (x : ByteArray) (k : Nat) (h : x.size ≤ k) : wordL x (k + 1) 0 = wordL x k 0 := by
  rw [wordL_succ, if_neg (by omega), bOr_u64_any _ _ (by decide) (by decide) (by decide)]
  rfl
theorem nb_extract (s : ByteArray) (a n : Nat) (h : a + n ≤ s.size) (j : Nat) (hj : j < n) : nb (s.extract a (a + n)) j = nb s (a + j) := by
  have hs : s.size = s.data.size := rfl
  unfold nb
  rw [ByteArray.data_extract]
  simp only [Array.getD_eq_getD_getElem?, Array.getElem?_extract]
  rw [if_pos (by omega)]

theorem word_ok {s t : ByteArray} {op : Nat} (h : Txt6 s t op) (n : Nat) (hn : n = 4 ∨ n = 8) (ht : t.size = n) : wordP s s.size n 14 = .ok (leF t t.size 0) (14 + t.size) := by
  have hz := h.sz
  unfold wordP takeP
  rw [if_neg (by omega)]
  simp only [Res.bind]
  have hx : (s.extract 14 (14 + n)).size = n := by rw [ByteArray.size_extract]; omega
  have hw : wordL (s.extract 14 (14 + n)) 8 0 = leF t t.size 0 := by
    have hk := wordL_le (s.extract 14 (14 + n)) t n 0 (by decide) (by omega) (fun j hj => by rw [nb_extract s 14 n (by omega) j hj, h.b j (by omega)])
    rcases hn with rfl | rfl
    · rw [wordL_zero _ 7 (by omega), wordL_zero _ 6 (by omega), wordL_zero _ 5 (by omega), wordL_zero _ 4 (by omega), hk, ht]
    · rw [hk, ht]
  rw [hw, ht]
theorem word_inv {s : ByteArray} {n q : Nat} {y : Int} (h : wordP s s.size n 14 = .ok y q) : q = 14 + n := by
  unfold wordP takeP at h
  by_cases g : s.size - 14 < n
  · rw [if_pos g] at h; cases h
  · rw [if_neg g] at h
    simp only [Res.bind] at h
    (first | (injection h with z__; injection z__ with g1 g2) | injection h with g1 g2)
    exact g2.symm

theorem restF (s : ByteArray) (op : Nat) (hop : op = 67 ∨ op = 68) : restP s s.size (op : Int) 13 14 = (wordP s s.size (4 * (op - 66)) 14).bind (fun y q => .ok ⟨(op : Int), 0, y⟩ q) := by
  rcases hop with rfl | rfl
  · exact (rest_sleb _ _ _ _).2.2.1
  · exact (rest_sleb _ _ _ _).2.2.2
theorem numF_ok {s t : ByteArray} {op : Nat} (hop : op = 67 ∨ op = 68) (h : Txt6 s t op) (h11 : t.size ≤ 11) (c : Sc) (hO : (t.size : Int) = 4 * ((op : Int) - 66)) :
    decP s c = .ok ({ c with nT := 0 }, pmG op ⟨op, 0, leF t t.size 0⟩) s.size := by
  refine dec6_ok h (by omega) (by omega) h11 c ?_
  rw [restF s op hop, word_ok h (4 * (op - 66)) (by omega) (by omega)]
  rfl
theorem numF_inv {s t : ByteArray} {op : Nat} (hop : op = 67 ∨ op = 68) (h : Txt6 s t op) (h11 : t.size ≤ 11) (c : Sc) {cp : Sc × PM} {q : Nat} (hd : decP s c = .ok cp q) : (t.size : Int) = 4 * ((op : Int) - 66) := by
  obtain ⟨x, hx⟩ := dec6_inv h (by omega) (by omega) h11 c hd
  rw [restF s op hop] at hx
  cases hw : wordP s s.size (4 * (op - 66)) 14 using Res.cs with
  | err k a => rw [hw] at hx; cases hx
  | ok y q =>
    rw [hw] at hx
    simp only [Res.bind] at hx
    (first | (injection hx with z__; injection z__ with g1 g2) | injection hx with g1 g2)
    have := word_inv hw
    omega

/-! ### The equality of two instructions -/
theorem run_eqIns (w : World) (x y : Operand) (a b c : Int) :
    Sem.run Try.prog ((do eqGuard .eql T_api_Ins x y (.agg #[.int .u8 a, .int .u32 b, .int .u64 c]) (.agg #[.int .u8 a, .int .u32 b, .int .u64 c]); Go.binOp .eql T_api_Ins (.agg #[.int .u8 a, .int .u32 b, .int .u64 c]) (.agg #[.int .u8 a, .int .u32 b, .int .u64 c]))) w = .ok (.bool true) w := by
  have hm : Try.prog.eqGuardType Try.prog.depth T_api_Ins = false := by kernel_rfl
  have ht : Try.prog.underlying T_api_Ins = some (.struct (Try.prog.fieldsOf T_api_Ins)) := by kernel_rfl
  have hp : Try.prog.stoodInHeld T_api_Ins = false := by kernel_rfl
  have hf : (Try.prog.fieldsOf T_api_Ins).toList = [⟨"Op", (5 : Nat), 0, false, "", "", 0⟩, ⟨"X", (72 : Nat), 1, false, "", "", 4⟩, ⟨"Y", (73 : Nat), 2, false, "", "", 8⟩] := by kernel_rfl
  have q8 : ∀ (cs : Array Value) (i : Nat) (v : Value) (w : World), cs[i]? = some v → (part (5 : Nat) cs i).run Try.prog w = .ok v w := fun cs i v w hv => by
    have hia : (isAgg (5 : Nat)).run Try.prog w = .ok false w := by kernel_rfl
    simp [part, hia, hv]
  have q32 : ∀ (cs : Array Value) (i : Nat) (v : Value) (w : World), cs[i]? = some v → (part (72 : Nat) cs i).run Try.prog w = .ok v w := fun cs i v w hv => by
    have hia : (isAgg (72 : Nat)).run Try.prog w = .ok false w := by kernel_rfl
    simp [part, hia, hv]
  have q64 : ∀ (cs : Array Value) (i : Nat) (v : Value) (w : World), cs[i]? = some v → (part (73 : Nat) cs i).run Try.prog w = .ok v w := fun cs i v w hv => by
    have hia : (isAgg (73 : Nat)).run Try.prog w = .ok false w := by kernel_rfl
    simp [part, hia, hv]
  have e8 : ∀ (a : Int) (w : World), (Op.equalIn 9999 (5 : Nat) (.int .u8 a) (.int .u8 a)).run Try.prog w = .ok true w := fun a w => by
    have := run_equalIn_int (P := Try.prog) w 9998 (5 : Nat) .u8 .u8 a a (by kernel_rfl)
    simpa using this
  have e32 : ∀ (a : Int) (w : World), (Op.equalIn 9999 (72 : Nat) (.int .u32 a) (.int .u32 a)).run Try.prog w = .ok true w := fun a w => by
    have := run_equalIn_int (P := Try.prog) w 9998 (72 : Nat) .u32 .u32 a a (by kernel_rfl)
    simpa using this
  have e64 : ∀ (a : Int) (w : World), (Op.equalIn 9999 (73 : Nat) (.int .u64 a) (.int .u64 a)).run Try.prog w = .ok true w := fun a w => by
    have := run_equalIn_int (P := Try.prog) w 9998 (73 : Nat) .u64 .u64 a a (by kernel_rfl)
    simpa using this
  have p0 : ∀ w, (part (5 : Nat) #[.int .u8 a, .int .u32 b, .int .u64 c] 0).run Try.prog w = .ok (.int .u8 a) w := fun w => q8 _ _ _ w rfl
  have p1 : ∀ w, (part (72 : Nat) #[.int .u8 a, .int .u32 b, .int .u64 c] 1).run Try.prog w = .ok (.int .u32 b) w := fun w => q32 _ _ _ w rfl
  have p2 : ∀ w, (part (73 : Nat) #[.int .u8 a, .int .u32 b, .int .u64 c] 2).run Try.prog w = .ok (.int .u64 c) w := fun w => q64 _ _ _ w rfl
  rw [Sem.run_bind, run_eqGuard_agg (P := Try.prog) w .eql T_api_Ins x y _ _ hm, Result.andThen_ok, run_eql_struct, show (10000 : Nat) = 9999 + 1 from rfl, run_equalIn_struct w _ T_api_Ins _ _ ht hp, hf]
  simp [Op.eqFields, p0, p1, p2, e8, e32, e64]

/-! ### numberText, number -/
theorem numberText0 (t : ByteArray) (h11 : t.size ≤ 11) (w : World) : Runs Try.prog binlaw_numberText.id #[.int .i64 0, .string t] w fun v w' => (∃ s, Txt0 s t ∧ v = .string s) ∧ Same [] w.heap.size w w' := by
  refine binlaw_numberText.enter _ _ _ _ _ ?_
  unfold binlaw_numberText.V
  refine cond_true' rfl ?_
  refine RunsQ.post (one_spec _ (by omega) (by omega) w) ?_
  rintro v w' ⟨rfl, hS⟩
  have h := txt0 t h11
  have hz := h.sz
  refine ⟨_, rfl, ?_, ?_, ⟨_, h, rfl⟩, hS⟩
  · rw [b1_size]; decide
  · have : ((⟨#[0, 97, 115, 109, 1, 0, 0, 0, 8]⟩ : ByteArray) ++ b1 (t.size : Int)).size + t.size = 10 + t.size := ByteArray.size_append.symm.trans hz
    rw [this]; omega

theorem numberText6 (op : Nat) (ho : 65 ≤ op) (ho2 : op ≤ 68) (t : ByteArray) (h11 : t.size ≤ 11) (w : World) : Runs Try.prog binlaw_numberText.id #[.int .i64 (op : Int), .string t] w fun v w' => (∃ s, Txt6 s t op ∧ v = .string s) ∧ Same [] w.heap.size w w' := by
  refine binlaw_numberText.enter _ _ _ _ _ ?_
  unfold binlaw_numberText.V
  refine cond_false' (by rw [beq_eq_false_iff_ne]; omega) ?_
  have h := txt6 t h11 op ho ho2
  have e1 : IntKind.wrap .i64 (((ByteArray.size t : Nat) : Int) + 5) = ((t.size + 5 : Nat) : Int) := by rw [wrap_i64 (by omega) (by omega)]; omega
  have e2 : IntKind.wrap .i64 (127 - IntKind.wrap .i64 ((op : Int) - 65)) = ((192 - op : Nat) : Int) := by rw [wrap_i64 (x := (op : Int) - 65) (by omega) (by omega), wrap_i64 (by omega) (by omega)]; omega
  rw [e1, e2]
  refine RunsQ.post (one_spec _ (by omega) (by omega) w) ?_
  rintro v w1 ⟨rfl, hS1⟩
  refine ⟨_, rfl, RunsQ.post (one_spec _ (by omega) (by omega) w1) ?_⟩
  rintro v w2 ⟨rfl, hS2⟩
  refine ⟨_, rfl, RunsQ.post (one_spec _ (by omega) (by omega) w2) ?_⟩
  rintro v w3 ⟨rfl, hS3⟩
  have hT2 := hS1.trans (hS2.mono hS1.size (by simp))
  have hT3 := hT2.trans (hS3.mono hT2.size (by simp))
  have z9 : (⟨#[0, 97, 115, 109, 1, 0, 0, 0, 6]⟩ : ByteArray).size = 9 := rfl
  have y1 : (⟨#[1]⟩ : ByteArray).size = 1 := rfl
  have y0 : (⟨#[0]⟩ : ByteArray).size = 1 := rfl
  have y11 : (⟨#[11]⟩ : ByteArray).size = 1 := rfl
  have zb1 := b1_size ((t.size + 5 : Nat) : Int)
  have zb2 := b1_size ((192 - op : Nat) : Int)
  have zb3 := b1_size (op : Int)
  refine ⟨_, rfl, ?_, ?_, ?_, ?_, ?_, ?_, ?_, ⟨_, h, rfl⟩, hT3⟩ <;> (simp only [ByteArray.size_append, z9, y1, y0, y11, zb1, zb2, zb3]; omega)

def NumR (w : World) (b bi bt : Nat) (v : Value) (w' : World) : Prop := v = .bool true ∧ (∃ c', BinAt w' b bi bt c') ∧ Same [b, bi] w.heap.size w w'

theorem number0 {w : World} {b bi bt : Nat} {c : Sc} (hB : BinAt w b bi bt c) (t : ByteArray) (h11 : t.size ≤ 11) : Runs Try.prog binlaw_number.id #[rp b, .int .i64 0, .string t] w (NumR w b bi bt) := by
  refine binlaw_number.enter _ _ _ _ _ _ ?_
  unfold binlaw_number.V
  refine RunsQ.post (numberText0 t h11 w) ?_
  rintro v w1 ⟨⟨s, hs, rfl⟩, hS1⟩
  have hsz := hs.sz
  refine ⟨_, rfl, RunsQ.post (Owed0 t h11 w1) ?_⟩
  rintro v w2 ⟨hO, rfl⟩
  have hB1 := hB.keep hS1 (by simp) (by simp) (by simp)
  have hpos := dec0_pos hs h11 c
  have hD := Decode_spec hB1 s (by omega) (by omega) (magic_of s (by omega) hs.m) (fun g => by have := hpos _ _ g; omega)
  have fin : ∀ {w' : World}, Same [b, bi] w2.heap.size w2 w' → Same [b, bi] w.heap.size w w' := fun h => (hS1.mono (Nat.le_refl _) (by simp)).trans (h.mono hS1.size (fun k hk _ => hk))
  rcases hO with ⟨hok, rfl⟩ | ⟨hno, y, rfl⟩
  · refine ⟨_, _, rfl, RunsQ.post hD ?_⟩
    obtain ⟨i, hSp, h5, hl⟩ := hok
    have hd := num0_ok hs h11 c i hSp h5 hl
    rintro v w3 (⟨cp, q, mb, m, hr, rfl, hB3, hM, hI, hS3⟩ | ⟨n, a, hr, rfl, _⟩)
    · refine ⟨_, _, _, rfl, cond_false' rfl (cond_false' rfl (cond_true' rfl ?_))⟩
      simp only [nilV_some, Nat.zero_add]
      rw [hd] at hr
      (first | (injection hr with z__; injection z__ with g1 g2) | injection hr with g1 g2)
      have h9 := hM.c 9 (by decide)
      rw [hI.s9, ← g1] at h9
      have hgz := gs_lt t 0 t.size
      have hz := hSp.sz
      rw [← hz] at hl
      refine ⟨_, h9, ?_, ⟨_, hB3⟩, fin hS3⟩
      show Value.bool (((gs t 0 t.size : Nat) : Int) == IntKind.wrap .i64 ((gs t 0 t.size : Nat) : Int)) = .bool true
      rw [wrap_i64 (by omega) (by omega), beq_self_eq_true]
    · rw [hd] at hr; cases hr
  · refine ⟨_, _, rfl, RunsQ.post hD ?_⟩
    rintro v w3 (⟨cp, q, mb, m, hr, rfl, hB3, hM, hI, hS3⟩ | ⟨n, a, hr, rfl, hB3, hS3⟩)
    · exact absurd (num0_inv hs h11 c hr) hno
    · refine ⟨_, _, _, rfl, cond_true' rfl ⟨?_, hB3, fin hS3⟩⟩
      have := hpos _ _ hr
      have e : (n != (0 : Int)) = true := bne_iff_ne.2 (by omega)
      rw [e]

theorem number6 {w : World} {b bi bt : Nat} {c : Sc} (hB : BinAt w b bi bt c) (op : Nat) (ho : 65 ≤ op) (ho2 : op ≤ 68) (t : ByteArray) (h11 : t.size ≤ 11) (OK : Prop) (x : Int)
    (hOw : ∀ w, Runs Try.prog binlaw_Owed.id #[.int .i64 (op : Int), .string t] w fun v w' => OwRes OK x v ∧ w' = w)
    (hok : ∀ s, Txt6 s t op → OK → decP s c = .ok ({ c with nT := 0 }, pmG op ⟨op, 0, x⟩) s.size) (hinv : ∀ s, Txt6 s t op → ∀ {cp : Sc × PM} {q : Nat}, decP s c = .ok cp q → OK) :
    Runs Try.prog binlaw_number.id #[rp b, .int .i64 (op : Int), .string t] w (NumR w b bi bt) := by
  refine binlaw_number.enter _ _ _ _ _ _ ?_
  unfold binlaw_number.V
  refine RunsQ.post (numberText6 op ho ho2 t h11 w) ?_
  rintro v w1 ⟨⟨s, hs, rfl⟩, hS1⟩
  have hsz := hs.sz
  refine ⟨_, rfl, RunsQ.post (hOw w1) ?_⟩
  rintro v w2 ⟨hO, rfl⟩
  have hB1 := hB.keep hS1 (by simp) (by simp) (by simp)
  have hpos := dec6_pos hs ho ho2 h11 c
  have hD := Decode_spec hB1 s (by omega) (by omega) (magic_of s (by omega) hs.m) (fun g => by have := hpos _ _ g; omega)
  have fin : ∀ {w' : World}, Same [b, bi] w2.heap.size w2 w' → Same [b, bi] w.heap.size w w' := fun h => (hS1.mono (Nat.le_refl _) (by simp)).trans (h.mono hS1.size (fun k hk _ => hk))
  rcases hO with ⟨hK, rfl⟩ | ⟨hno, y, rfl⟩
  · refine ⟨_, _, rfl, RunsQ.post hD ?_⟩
    have hd := hok s hs hK
    rintro v w3 (⟨cp, q, mb, m, hr, rfl, hB3, hM, hI, hS3⟩ | ⟨n, a, hr, rfl, _⟩)
    · refine ⟨_, _, _, rfl, cond_false' rfl (cond_false' rfl (cond_false' (by rw [beq_eq_false_iff_ne]; omega) ?_))⟩
      simp only [nilV_some, Nat.zero_add]
      rw [hd] at hr
      (first | (injection hr with z__; injection z__ with g1 g2) | injection hr with g1 g2)
      have h7 := hM.c 7 (by decide)
      rcases hI.g7 with ⟨g0, _⟩ | ⟨gb, hm7, hG, _, _⟩
      · rw [← g1] at g0
        exact absurd (show (1 : Nat) = 0 from g0) (by decide)
      · rw [hm7] at h7
        rw [← g1] at hG h7
        have hG : GlobRow w3 gb 1 (upd glob0 0 ⟨((192 - op : Nat) : Int), false, ⟨op, 0, x⟩⟩) := hG
        have h7 : w3.cell? ⟨mb, 7, none⟩ = some (.slice (some ⟨gb, 0, none⟩) 1 1) := h7
        refine ⟨_, _, _, h7, cond_true' rfl ?_⟩
        refine ⟨_, _, _, h7, ⟨by decide, by decide⟩, ?_⟩
        refine ⟨(op : Int), 0, x, hG.c2 0 (by decide), hG.c3 0 (by decide), hG.c4 0 (by decide), true, w3, ?_, rfl, ⟨_, hB3⟩, fin hS3⟩
        rw [wrap_u8 (x := (op : Int)) (by omega) (by omega)]
        exact run_eqIns w3 _ _ _ _ _
    · rw [hd] at hr; cases hr
  · refine ⟨_, _, rfl, RunsQ.post hD ?_⟩
    rintro v w3 (⟨cp, q, mb, m, hr, rfl, hB3, hM, hI, hS3⟩ | ⟨n, a, hr, rfl, hB3, hS3⟩)
    · exact absurd (hinv s hs hr) hno
    · refine ⟨_, _, _, rfl, cond_true' rfl ⟨?_, hB3, fin hS3⟩⟩
      have := hpos _ _ hr
      have e : (n != (0 : Int)) = true := bne_iff_ne.2 (by omega)
      rw [e]

theorem number_spec {w : World} {b bi bt : Nat} {c : Sc} (hB : BinAt w b bi bt c) (op : Int) (hop : op = 0 ∨ (65 ≤ op ∧ op ≤ 68)) (t : ByteArray) (h11 : t.size ≤ 11) : Runs Try.prog binlaw_number.id #[rp b, .int .i64 op, .string t] w (NumR w b bi bt) := by
  have : op = 0 ∨ op = 65 ∨ op = 66 ∨ op = 67 ∨ op = 68 := by omega
  rcases this with rfl | rfl | rfl | rfl | rfl
  · exact number0 hB t h11
  · exact number6 hB 65 (by decide) (by decide) t h11 _ _ (fun w => Owed65 t h11 w) (fun s hs h => num65_ok hs h11 c h) (fun s hs _ _ h => num65_inv hs h11 c h)
  · exact number6 hB 66 (by decide) (by decide) t h11 _ _ (fun w => Owed66 t h11 w) (fun s hs h => num66_ok hs h11 c h) (fun s hs _ _ h => num66_inv hs h11 c h)
  · exact number6 hB 67 (by decide) (by decide) t h11 _ _ (fun w => OwedF 67 (.inl rfl) t h11 w) (fun s hs h => numF_ok (.inl rfl) hs h11 c h) (fun s hs _ _ h => numF_inv (.inl rfl) hs h11 c h)
  · exact number6 hB 68 (by decide) (by decide) t h11 _ _ (fun w => OwedF 68 (.inr rfl) t h11 w) (fun s hs h => numF_ok (.inr rfl) hs h11 c h) (fun s hs _ _ h => numF_inv (.inr rfl) hs h11 c h)

end Go.Proofs.Qxb6500316a
