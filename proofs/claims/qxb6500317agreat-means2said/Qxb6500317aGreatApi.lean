/-
  Package api: what its functions compute.
-/
import Derived.Test.Qxb6500317aGreatShA
set_option linter.unusedSimpArgs false
set_option linter.unusedVariables false
set_option maxRecDepth 100000
namespace Go.Proofs.Qxb6500317aGreat
open Go Go.Vc

/-! ### MemSig, Cut -/
def memSig (op : Int) : Int × Int × Bool :=
  if op = 40 ∨ op = 54 then (4, 127, false) else if op = 41 ∨ op = 55 then (8, 126, false) else if op = 42 ∨ op = 56 then (4, 125, false)
  else if op = 43 ∨ op = 57 then (8, 124, false) else if op = 44 then (1, 127, true) else if op = 45 ∨ op = 58 then (1, 127, false)
  else if op = 46 then (2, 127, true) else if op = 47 ∨ op = 59 then (2, 127, false) else if op = 48 then (1, 126, true)
  else if op = 49 ∨ op = 60 then (1, 126, false) else if op = 50 then (2, 126, true) else if op = 51 ∨ op = 61 then (2, 126, false)
  else if op = 52 then (4, 126, true) else if op = 53 ∨ op = 62 then (4, 126, false) else (0, 0, false)

theorem ne_beq {a b : Int} (h : a ≠ b) : (a == b) = false := by simpa using h

theorem memSig_F_in : ∀ n : Fin 63, api_MemSig.F (n.val : Int) = memSig (n.val : Int) := by decide

theorem memSig_F (op : Int) : api_MemSig.F op = memSig op := by
  by_cases h : 40 ≤ op ∧ op ≤ 62
  · obtain ⟨n, rfl⟩ := Int.eq_ofNat_of_zero_le (show 0 ≤ op by omega)
    exact memSig_F_in ⟨n, by omega⟩
  · unfold api_MemSig.F api_MemSig.F1 api_MemSig.F2 api_MemSig.F3 api_MemSig.F4 api_MemSig.F5 api_MemSig.F6 api_MemSig.F7 api_MemSig.F8 api_MemSig.F9 memSig
    simp only [ne_beq (show op ≠ 40 by omega), ne_beq (show op ≠ 41 by omega), ne_beq (show op ≠ 42 by omega), ne_beq (show op ≠ 43 by omega), ne_beq (show op ≠ 44 by omega), ne_beq (show op ≠ 45 by omega), ne_beq (show op ≠ 46 by omega), ne_beq (show op ≠ 47 by omega), ne_beq (show op ≠ 48 by omega), ne_beq (show op ≠ 49 by omega), ne_beq (show op ≠ 50 by omega), ne_beq (show op ≠ 51 by omega), ne_beq (show op ≠ 52 by omega), ne_beq (show op ≠ 53 by omega), ne_beq (show op ≠ 54 by omega), ne_beq (show op ≠ 55 by omega), ne_beq (show op ≠ 56 by omega), ne_beq (show op ≠ 57 by omega), ne_beq (show op ≠ 58 by omega), ne_beq (show op ≠ 59 by omega), ne_beq (show op ≠ 60 by omega), ne_beq (show op ≠ 61 by omega), ne_beq (show op ≠ 62 by omega), cond_false]
    simp only [(show ¬ op = 40 by omega), (show ¬ op = 41 by omega), (show ¬ op = 42 by omega), (show ¬ op = 43 by omega), (show ¬ op = 44 by omega), (show ¬ op = 45 by omega), (show ¬ op = 46 by omega), (show ¬ op = 47 by omega), (show ¬ op = 48 by omega), (show ¬ op = 49 by omega), (show ¬ op = 50 by omega), (show ¬ op = 51 by omega), (show ¬ op = 52 by omega), (show ¬ op = 53 by omega), (show ¬ op = 54 by omega), (show ¬ op = 55 by omega), (show ¬ op = 56 by omega), (show ¬ op = 57 by omega), (show ¬ op = 58 by omega), (show ¬ op = 59 by omega), (show ¬ op = 60 by omega), (show ¬ op = 61 by omega), (show ¬ op = 62 by omega), or_self, if_false]

theorem MemSig_spec (op : Int) (w : World) :
    Runs Tryz.prog api_MemSig.id #[.int .i64 op] w fun v w' => v = .tuple #[.int .i64 (memSig op).1, .int .u8 (memSig op).2.1, .bool (memSig op).2.2] ∧ w' = w := by
  have := api_MemSig.pure op w
  rwa [memSig_F] at this

def cut (t v : Int) : Int := if t = 127 ∨ t = 125 then v % 4294967296 else v

theorem bAnd_u64_mask32 (v : Int) (h0 : 0 ≤ v) (h1 : v < 18446744073709551616) : bAnd .u64 v 4294967295 = v % 4294967296 := by
  obtain ⟨n, rfl⟩ := Int.eq_ofNat_of_zero_le h0
  have hn : n < 18446744073709551616 := by omega
  have e : (BitVec.ofInt 64 (n : Int) &&& BitVec.ofInt 64 4294967295).toNat = n % 4294967296 := by
    have e1 : (BitVec.ofInt 64 (n : Int)).toNat = n := by
      rw [BitVec.ofInt_natCast, BitVec.toNat_ofNat]; omega
    have e2 : (BitVec.ofInt 64 4294967295).toNat = 2 ^ 32 - 1 := by decide
    rw [BitVec.toNat_and, e1, e2, Nat.and_two_pow_sub_one_eq_mod]
  show IntKind.wrap .u64 (((BitVec.ofInt 64 (n : Int) &&& BitVec.ofInt 64 4294967295).toNat : Nat) : Int) = _
  rw [e, wrap_u64 (by omega) (by omega)]
  omega

theorem Cut_spec (t v : Int) (w : World) (h0 : 0 ≤ v) (h1 : v < 18446744073709551616) :
    Runs Tryz.prog api_Cut.id #[.int .u8 t, .int .u64 v] w fun r w' => r = .int .u64 (cut t v) ∧ w' = w := by
  have := api_Cut.pure t v w
  have e : api_Cut.F t v = cut t v := by
    unfold api_Cut.F api_Cut.F1 cut
    rw [bAnd_u64_mask32 v h0 h1]
    by_cases h1 : t = 127 <;> by_cases h2 : t = 125 <;> simp [cond_eq_ite, h1, h2]
  rwa [e] at this


def wordFrom (s : ByteArray) (at_ : Nat) : Nat → Int → Int
  | 0, v => v
  | f + 1, v => wordFrom s at_ f (bOr .u64 (IntKind.wrap .u64 (v * 2 ^ (8 : Nat))) (byteAt s (at_ + f)))

/-- The i-th word of eight bytes. -/
def word (s : ByteArray) (i : Nat) : Int := if i < s.size / 8 then wordFrom s (8 * i) 8 0 else 0

theorem byteAt_bd (s : ByteArray) (i : Nat) : 0 ≤ byteAt s i ∧ byteAt s i < 256 := by
  unfold byteAt
  have : (s.data.getD i 0).toNat < 256 := UInt8.toNat_lt _
  omega

theorem Word_loop (s : ByteArray) (i : Nat) (hi : 8 * i + 8 ≤ s.size) (hs : s.size ≤ 9223372036854775807) (R Q : Value → World → Prop) (w : World) :
    ∀ (f : Nat) (v : Int), f ≤ 8 → R (.int .u64 (wordFrom s (8 * i) f v)) w → api_Word.L2 s i v ((f : Int) - 1) R Q w := by
  intro f
  induction f with
  | zero =>
    intro v _ h
    refine api_Word.step2 _ _ _ _ _ _ _ ?_
    unfold api_Word.V2
    exact cond_false' (by simp) h
  | succ f ih =>
    intro v hf h
    refine api_Word.step2 _ _ _ _ _ _ _ ?_
    unfold api_Word.V2
    refine cond_true' (by simp <;> omega) ?_
    have e0 : (((f + 1 : Nat) : Int) - 1) = (f : Int) := by omega
    have e1 : IntKind.wrap .i64 ((IntKind.wrap .i64 ((8 : Int) * (i : Int))) + (f : Int)) = ((8 * i + f : Nat) : Int) := by
      rw [wrap_i64 (x := 8 * (i : Int)) (by omega) (by omega), wrap_i64 (by omega) (by omega)]; omega
    have e2 : IntKind.wrap .i64 ((f : Int) - 1) = (f : Int) - 1 := wrap_i64 (by omega) (by omega)
    have hb := byteAt_bd s (8 * i + f)
    have e3 : IntKind.wrap .u64 (byteAt s (8 * i + f)) = byteAt s (8 * i + f) := wrap_u64 (by omega) (by omega)
    simp only [e0, e1, e2, Int.toNat_natCast, e3]
    exact ⟨by omega, ih _ (by omega) h⟩

theorem Word_spec (s : ByteArray) (i : Nat) (w : World) (hs : s.size ≤ 9223372036854775807) (hi : i < 1000) :
    Runs Tryz.prog api_Word.id #[.string s, .int .i64 i] w fun r w' => r = .int .u64 (word s i) ∧ w' = w := by
  refine api_Word.enter _ _ _ _ _ ?_
  unfold api_Word.V
  have e1 : IntKind.wrap .i64 (Int.tdiv ((s.size : Nat) : Int) 8) = ((s.size / 8 : Nat) : Int) := by
    have : Int.tdiv ((s.size : Nat) : Int) 8 = ((s.size / 8 : Nat) : Int) := rfl
    rw [this, wrap_i64 (by omega) (by omega)]
  refine cond_false' (by simp) ?_
  rw [e1]
  refine cond_intro (fun h => ?_) (fun h => ?_)
  · have : ¬ i < s.size / 8 := by simp at h; omega
    exact ⟨by simp [word, this], rfl⟩
  · have hlt : i < s.size / 8 := by simp at h; omega
    refine api_Word.step1 _ _ _ _ _ ?_
    unfold api_Word.V1
    have := Word_loop s i (by omega) hs (fun r w' => r = .int .u64 (word s i) ∧ w' = w) (fun _ _ => False) w 8 0 (by omega) ⟨by simp [word, hlt], rfl⟩
    simpa using this



end Go.Proofs.Qxb6500317aGreat
