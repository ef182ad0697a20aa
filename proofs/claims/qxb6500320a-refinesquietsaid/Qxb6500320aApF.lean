/-
  The words of a step; Kept; the walk over the script; Keeps.
-/
import Derived.Test.Qxb6500320aApE
import Derived.Test.Qxb6500320aOp
set_option linter.unusedSimpArgs false
set_option linter.unusedVariables false
set_option maxRecDepth 100000
namespace Go.Proofs.Qxb6500320a
open Go Go.Vc

def U64 (x : Int) : Prop := 0 ≤ x ∧ x < 18446744073709551616

theorem Word_loop (s : ByteArray) (i : Int) (R : Value → World → Prop) (w : World) (hs : s.size ≤ 9223372036854775807) (hi0 : 0 ≤ i) (hi1 : 8 * i + 7 < s.size) (hR : ∀ v, U64 v → R (.int .u64 v) w) :
    ∀ (n : Nat) (v : Int), n ≤ 8 → U64 v → api_Word.L2 s i v ((n : Int) - 1) R w := by
  intro n
  induction n with
  | zero =>
    intro v _ hv
    refine api_Word.step2 _ _ _ _ _ _ ?_
    unfold api_Word.V2
    exact cond_false' (by decide) (hR v hv)
  | succ n ih =>
    intro v hn hv
    refine api_Word.step2 _ _ _ _ _ _ ?_
    unfold api_Word.V2
    refine cond_true' (decide_eq_true (by omega)) ?_
    have e1 : IntKind.wrap .i64 (8 * i) = 8 * i := wrap_i64 (by omega) (by omega)
    have e2 : IntKind.wrap .i64 (8 * i + (((n + 1 : Nat) : Int) - 1)) = 8 * i + (((n + 1 : Nat) : Int) - 1) := wrap_i64 (by omega) (by omega)
    have e3 : IntKind.wrap .i64 ((((n + 1 : Nat) : Int) - 1) - 1) = (n : Int) - 1 := by rw [wrap_i64 (by omega) (by omega)]; omega
    rw [e1, e2, e3]
    exact ⟨⟨by omega, by omega⟩, ih _ (by omega) (wrap_u64_rng _)⟩

theorem Word_spec (s : ByteArray) (i : Int) (hs : s.size ≤ 9223372036854775807) (w : World) : Runs Try.prog api_Word.id #[.string s, .int .i64 i] w fun v w' => (∃ x : Int, v = .int .u64 x ∧ U64 x) ∧ w' = w := by
  refine api_Word.enter _ _ _ _ ?_
  unfold api_Word.V
  refine cond_intro (fun _ => ⟨⟨0, rfl, by unfold U64; decide⟩, rfl⟩) (fun h1 => ?_)
  refine cond_intro (fun _ => ⟨⟨0, rfl, by unfold U64; decide⟩, rfl⟩) (fun h2 => ?_)
  have h1' : ¬ i < 0 := of_decide_eq_false h1
  have h2' := of_decide_eq_false h2
  have e : IntKind.wrap .i64 (Int.tdiv ((ByteArray.size s : Nat) : Int) 8) = ((s.size / 8 : Nat) : Int) := by
    have : Int.tdiv ((ByteArray.size s : Nat) : Int) 8 = ((s.size / 8 : Nat) : Int) := by
      have := Int.ofNat_tdiv s.size 8
      rw [this]; rfl
    rw [this, wrap_i64 (by omega) (by omega)]
  rw [e] at h2'
  refine api_Word.step1 _ _ _ _ ?_
  unfold api_Word.V1
  exact Word_loop s i _ w hs (by omega) (by omega) (fun v hv => ⟨⟨v, rfl, hv⟩, rfl⟩) 8 0 (by omega) (by unfold U64; decide)

theorem Words_spec (o : OpV) (hs : o.s.size ≤ 9223372036854775807) (w : World) : Runs Try.prog numlaw_Words.id #[o.val] w fun v w' => (∃ x y : Int, v = .tuple #[.int .u64 x, .int .u64 y] ∧ U64 x ∧ U64 y) ∧ Same [] w.heap.size w w' := by
  refine numlaw_Words.enter o.kind o.a o.b o.c o.s o.t _ _ ?_
  unfold numlaw_Words.V
  refine letB_intro fun b hb => letW_intro fun w1 hw1 => ?_
  have hO : OpAt w1 b o := by rw [hw1, hb]; exact OpAt.new w o T_api_Op
  have hS : Same [] w.heap.size w w1 := by rw [hw1]; exact (Same.refl _ _ _).alloc (Nat.le_refl _) _
  clear hw1 hb
  refine ⟨_, hO.c0, cond_intro (fun _ => ?_) (fun _ => ?_)⟩
  · refine ⟨_, hO.c4, (Word_spec o.s 0 hs w1).mono ?_⟩
    rintro v w2 ⟨⟨x, rfl, hx⟩, rfl⟩
    refine ⟨_, rfl, _, hO.c4, (Word_spec o.s 1 hs w2).mono ?_⟩
    rintro v w3 ⟨⟨y, rfl, hy⟩, rfl⟩
    exact ⟨_, rfl, ⟨x, y, rfl, hx, hy⟩, hS⟩
  · exact ⟨rfl, _, hO.drew.c2, rfl, rfl, rfl, _, hO.drew.c3, rfl, rfl, rfl, rfl, ⟨_, _, rfl, wrap_u64_rng _, wrap_u64_rng _⟩, hS.drew⟩

theorem andnot_low (a : Int) (ha : U64 a) : ∃ n : Nat, bAndNot .u64 a 18446744069414584320 = (n : Int) ∧ n < 4294967296 := by
  unfold U64 at ha
  obtain ⟨n, rfl⟩ : ∃ n : Nat, a = (n : Int) := ⟨a.toNat, by omega⟩
  unfold bAndNot
  have e : (BitVec.ofInt (IntKind.bits .u64) (n : Int) &&& ~~~(BitVec.ofInt (IntKind.bits .u64) 18446744069414584320)).toNat = n &&& 4294967295 := by
    rw [BitVec.toNat_and]
    have e1 : (BitVec.ofInt (IntKind.bits .u64) (n : Int)).toNat = n := ofInt_nat n 64 (by omega)
    have e2 : (~~~(BitVec.ofInt (IntKind.bits .u64) 18446744069414584320)).toNat = 4294967295 := by decide +kernel
    rw [e1, e2]
  rw [e]
  have e2 : n &&& 4294967295 = n % 2 ^ 32 := Nat.and_two_pow_sub_one_eq_mod n 32
  rw [e2]
  exact ⟨n % 2 ^ 32, wrap64_n _ (by omega), by omega⟩

theorem Kept_spec (o : OpV) (hs : o.s.size ≤ 9223372036854775807) (w : World) : Runs Try.prog numlaw_Kept.id #[o.val] w fun v w' => v = .bool true ∧ Same [] w.heap.size w w' := by
  refine numlaw_Kept.enter o.kind o.a o.b o.c o.s o.t _ _ ?_
  unfold numlaw_Kept.V
  refine letB_intro fun b hb => letW_intro fun w1 hw1 => ?_
  have hO : OpAt w1 b o := by rw [hw1, hb]; exact OpAt.new w o T_api_Op
  have hS : Same [] w.heap.size w w1 := by rw [hw1]; exact (Same.refl _ _ _).alloc (Nat.le_refl _) _
  clear hw1 hb
  have main : numlaw_Kept.L1 b (fun v w' => v = .bool true ∧ Same [] w.heap.size w w') w1 := by
    refine numlaw_Kept.step1 _ _ _ ?_
    unfold numlaw_Kept.V1
    refine ⟨_, _, _, _, _, _, hO.c0, hO.c1, hO.c2, hO.c3, hO.c4, hO.c5, (Words_spec o hs w1).mono ?_⟩
    rintro v w2 ⟨⟨x, y, rfl, hx, hy⟩, hS2⟩
    have hO2 := hO.same hS2 hO.lt (by simp)
    refine ⟨_, _, rfl, _, hO2.c1, (KeptShape_spec o.a x y hx hy w2).mono ?_⟩
    rintro v w3 ⟨rfl, hS3⟩
    have hO3 := hO2.same hS3 hO2.lt (by simp)
    have hT2 := hS.trans (hS2.mono hS.size (by simp))
    have hT3 := hT2.trans (hS3.mono hT2.size (by simp))
    refine ⟨_, rfl, _, hO3.c1, (api_NumSig.pure _ w3).mono ?_⟩
    rintro v w4 ⟨rfl, rfl⟩
    refine ⟨_, _, _, rfl, cond_false' rfl ?_⟩
    generalize api_NumSig.F o.a = sg0
    obtain ⟨n, t, u⟩ := sg0
    simp only
    refine cond_intro (fun h1 => ?_) (fun h1 => ?_)
    · refine numlaw_Kept.step2 _ _ _ _ _ _ _ ?_
      unfold numlaw_Kept.V2
      refine cond_intro (fun _ => ⟨rfl, hT3⟩) (fun h2 => ?_)
      have ht : (t == (127 : Int)) = false := by rw [beq_eq_false_iff_ne]; exact bne_iff_ne.1 h1
      rw [ht]
      obtain ⟨X, rfl⟩ : ∃ n : Nat, x = (n : Int) := ⟨x.toNat, by unfold U64 at hx; omega⟩
      obtain ⟨Y, rfl⟩ : ∃ n : Nat, y = (n : Int) := ⟨y.toNat, by unfold U64 at hy; omega⟩
      unfold U64 at hx hy
      refine (KeptInt64_spec X Y (by omega) (by omega) w4).mono ?_
      rintro v w5 ⟨rfl, hS5⟩
      have hT5 := hT3.trans (hS5.mono hT3.size (by simp))
      refine ⟨_, rfl, (KeptDiv64_spec X Y (by omega) (by omega) w5).mono ?_⟩
      rintro v w6 ⟨rfl, hS6⟩
      exact ⟨_, rfl, rfl, hT5.trans (hS6.mono hT5.size (by simp))⟩
    · have ht : (t == (127 : Int)) = true := by simpa using h1
      refine numlaw_Kept.step2 _ _ _ _ _ _ _ ?_
      unfold numlaw_Kept.V2
      refine cond_false' rfl ?_
      rw [ht]
      obtain ⟨X, hX, hX1⟩ := andnot_low x hx
      obtain ⟨Y, hY, hY1⟩ := andnot_low y hy
      rw [hX, hY]
      refine (KeptInt32_spec X Y hX1 hY1 w4).mono ?_
      rintro v w5 ⟨rfl, hS5⟩
      have hT5 := hT3.trans (hS5.mono hT3.size (by simp))
      refine ⟨_, rfl, (KeptDiv32_spec X Y hX1 hY1 w5).mono ?_⟩
      rintro v w6 ⟨rfl, hS6⟩
      exact ⟨_, rfl, rfl, hT5.trans (hS6.mono hT5.size (by simp))⟩
  refine ⟨_, hO.c0, cond_intro (fun _ => ?_) (fun _ => main)⟩
  exact ⟨_, hO.c0, cond_intro (fun _ => ⟨rfl, hS⟩) (fun _ => main)⟩

theorem KeepsUpTo_loop (w0 : World) (a : Option Addr) (l c : Nat) (hs : ScriptAt w0 a l) (R : Value → World → Prop) (hR : ∀ w', Same [] w0.heap.size w0 w' → R (.int .i64 (-1)) w') :
    ∀ (f i : Nat) (w : World), i + f = l → Same [] w0.heap.size w0 w → numlaw_KeepsUpTo.L1 a l c i R w := by
  intro f
  induction f with
  | zero =>
    intro i w hi C
    refine numlaw_KeepsUpTo.step1 _ _ _ _ _ _ ?_
    unfold numlaw_KeepsUpTo.V1
    exact cond_false' (by simp; omega) (hR w C)
  | succ f ih =>
    intro i w hi C
    refine numlaw_KeepsUpTo.step1 _ _ _ _ _ _ ?_
    unfold numlaw_KeepsUpTo.V1
    refine cond_true' (by simp; omega) ?_
    generalize hM : (4398046511104 : Int) = M
    refine cond_intro (fun hm => ?_) (fun hm => hR w C)
    subst hM
    have hm : (i : Int) < 4398046511104 := of_decide_eq_true hm
    rcases hs with h0 | ⟨b, off, rfl, hs⟩
    · omega
    obtain ⟨o, hF, hO0⟩ := hs i (by omega)
    have hO := hO0.same C
    refine numlaw_KeepsUpTo.step2 _ _ _ _ _ _ ?_
    unfold numlaw_KeepsUpTo.V2
    simp only [nilV_some, add_mk, Int.toNat_natCast]
    refine ⟨by omega, _, _, _, _, _, _, hO.c0, hO.c1, hO.c2, hO.c3, hO.c4, hO.c5, ?_⟩
    refine (Kept_spec o hF.s w).mono ?_
    rintro v w1 ⟨rfl, hS1⟩
    refine ⟨_, rfl, cond_false' rfl ?_⟩
    have e : IntKind.wrap .i64 ((i : Int) + 1) = ((i + 1 : Nat) : Int) := by rw [wrap_i64 (by omega) (by omega)]; omega
    rw [e]
    exact ih (i + 1) w1 (by omega) (C.trans (hS1.mono C.size (by simp)))

theorem Keeps_spec (w : World) (a : Option Addr) (l c : Nat) (hs : ScriptAt w a l) : Runs Try.prog numlaw_Keeps.id #[.slice a l c] w fun v w' => v = .bool true ∧ Same [] w.heap.size w w' := by
  refine numlaw_Keeps.enter _ _ _ _ _ ?_
  unfold numlaw_Keeps.V
  have h : Runs Try.prog numlaw_KeepsUpTo.id #[.slice a l c] w fun v w' => v = .int .i64 (-1) ∧ Same [] w.heap.size w w' := by
    refine numlaw_KeepsUpTo.enter _ _ _ _ _ ?_
    unfold numlaw_KeepsUpTo.V
    exact KeepsUpTo_loop w a l c hs _ (fun w' h => ⟨rfl, h⟩) l 0 w (by omega) (Same.refl _ _ _)
  refine h.mono ?_
  rintro v w1 ⟨rfl, hS⟩
  exact ⟨_, rfl, rfl, hS⟩

end Go.Proofs.Qxb6500320a
