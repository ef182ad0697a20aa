/-
  The model's operators on two floats.
-/
import Derived.Test.Qxb6500320aRfI
set_option linter.unusedSimpArgs false
set_option linter.unusedVariables false
set_option linter.unusedSectionVars false
set_option maxRecDepth 100000
namespace Go.Proofs.Qxb6500320a
open Go Go.Vc

/-- The model's key. -/
def nk (f : Ieee.Format) (v : Nat) : Int := if sgb f v then (f.signWeight : Int) - 1 - rung f v else (f.signWeight : Int) + rung f v
/-- A word with its sign turned. -/
def flip (f : Ieee.Format) (v : Nat) : Nat := f.word (!sgb f v) (rung f v)

def binF (f : Ieee.Format) (k : Int) (a b : Nat) : Nat :=
  if k = 6 then f.word (sgb f b) (rung f a)
  else if f.infRung < rung f a ∨ f.infRung < rung f b then nanOf f
  else if k = 0 then (f.add a b).getD (nanOf f)
  else if k = 1 then (f.sub a b).getD (nanOf f)
  else if k = 2 then (f.mul a b).getD (nanOf f)
  else if k = 3 then (f.div a b).getD (nanOf f)
  else if decide (nk f a < nk f b) = (k == 4) then a else b

theorem read_flip (f : Ieee.Format) (v : Nat) : f.read (flip f v) = (f.read v).opposite := by
  have hpos : 0 < f.signWeight := Nat.two_pow_pos _
  have hr : rung f v < f.signWeight := Nat.mod_lt _ hpos
  have hread : ∀ v, f.read v = (if rung f v < f.binade then .number (sgb f v) (rung f v) f.leastPlace else if rung f v < f.infRung then .number (sgb f v) (f.binade + rung f v % f.binade) (f.leastPlace + (rung f v / f.binade - 1 : Nat)) else if rung f v = f.infRung then .infinity (sgb f v) else .nan (sgb f v) (rung f v - f.infRung)) := fun _ => rfl
  rw [hread (flip f v), hread v]
  unfold flip
  rw [rung_word f _ _ hr, sgb_word f _ _ hr]
  by_cases c1 : rung f v < f.binade
  · rw [if_pos c1, if_pos c1]; rfl
  · rw [if_neg c1, if_neg c1]
    by_cases c2 : rung f v < f.infRung
    · rw [if_pos c2, if_pos c2]; rfl
    · rw [if_neg c2, if_neg c2]
      by_cases c3 : rung f v = f.infRung
      · rw [if_pos c3, if_pos c3]; rfl
      · rw [if_neg c3, if_neg c3]; rfl

theorem xor_topf (e v : Nat) (h : v < 2 * 2 ^ e) : v ^^^ 2 ^ e = if v / 2 ^ e % 2 = 1 then v % 2 ^ e else 2 ^ e + v % 2 ^ e := by
  have hp := Nat.two_pow_pos e
  have h1 : (v ^^^ 2 ^ e) % 2 ^ e = v % 2 ^ e := by rw [Nat.xor_mod_two_pow, Nat.mod_self, Nat.xor_zero]
  have h2 : (v ^^^ 2 ^ e) / 2 ^ e = v / 2 ^ e ^^^ 1 := by rw [Nat.xor_div_two_pow, Nat.div_self hp]
  have hd := Nat.div_add_mod (v ^^^ 2 ^ e) (2 ^ e)
  rw [h1, h2] at hd
  have hq : v / 2 ^ e < 2 := Nat.div_lt_of_lt_mul (by rw [Nat.mul_comm]; exact h)
  rw [← hd]
  generalize v / 2 ^ e = q at *
  have hc : q = 0 ∨ q = 1 := by omega
  rcases hc with rfl | rfl
  · rw [if_neg (by decide)]; simp
  · rw [if_pos (by decide)]; simp

section
variable {fi : Int} {p bi : Nat} {f : Ieee.Format}

theorem Fm.xorTop (F : Fm fi p bi f) (v : Nat) (hv : v < 2 * f.signWeight) : bXor .u64 (v : Int) (numm_top.F fi) = ((flip f v : Nat) : Int) := by
  have h1 := F.sw2
  rw [F.topF, bXor64_n _ _ (by omega) (by omega)]
  have := xor_topf (f.exponentBits + f.fractionBits) v hv
  have e : v ^^^ f.signWeight = flip f v := by
    show v ^^^ 2 ^ (f.exponentBits + f.fractionBits) = _
    rw [this]
    unfold flip sgb rung Ieee.Format.word
    show (if v / f.signWeight % 2 = 1 then v % f.signWeight else f.signWeight + v % f.signWeight) = _
    by_cases h : v / f.signWeight % 2 = 1
    · rw [if_pos h, h]; rfl
    · rw [if_neg h]
      have hb : (v / f.signWeight % 2 == 1) = false := by rw [beq_eq_false_iff_ne]; exact h
      rw [hb]; rfl
  rw [e]
theorem Fm.andSign (F : Fm fi p bi f) (v : Nat) (hv : v < 18446744073709551616) : bAnd .u64 (v : Int) (numm_top.F fi) = ((f.word (sgb f v) 0 : Nat) : Int) := by
  have h1 := F.sw2
  rw [F.topF, bAnd64_n _ _ hv (by omega)]
  have e : v &&& f.signWeight = f.word (sgb f v) 0 := by
    show v &&& 2 ^ (f.exponentBits + f.fractionBits) = _
    have hp := Nat.two_pow_pos (f.exponentBits + f.fractionBits)
    rw [and_split v _ (f.exponentBits + f.fractionBits), Nat.mod_self, Nat.and_zero, Nat.div_self hp, Nat.and_one_is_mod, Nat.zero_add]
    unfold sgb Ieee.Format.word
    show f.signWeight * (v / f.signWeight % 2) = _
    have hm := Nat.mod_lt (v / f.signWeight) (show 0 < 2 by decide)
    generalize v / f.signWeight % 2 = q at *
    have hc : q = 0 ∨ q = 1 := by omega
    rcases hc with rfl | rfl <;> simp
  rw [e]
theorem Fm.rungLt (F : Fm fi p bi f) (v : Nat) : rung f v < f.signWeight := Nat.mod_lt _ (Nat.two_pow_pos _)
theorem Fm.wordLt (F : Fm fi p bi f) (s : Bool) (r : Nat) (h : r < f.signWeight) : f.word s r < 2 * f.signWeight := by
  unfold Ieee.Format.word; split <;> omega
theorem Fm.orSign (F : Fm fi p bi f) (s : Bool) (r : Nat) (h : r < f.signWeight) : bOr .u64 (r : Int) ((f.word s 0 : Nat) : Int) = ((f.word s r : Nat) : Int) := by
  have h1 := F.sw2
  have h2 := F.wordLt s 0 (by omega)
  rw [bOr64_n _ _ (by omega) (by omega), Nat.or_comm]
  have e : f.word s 0 ||| r = f.word s r := by
    unfold Ieee.Format.word
    cases s
    · simp
    · have := or_add 1 r (f.exponentBits + f.fractionBits) h
      rw [Nat.one_mul] at this
      exact this
  rw [e]

theorem Fm.fltBin_spec (F : Fm fi p bi f) (k : Int) (hk0 : 0 ≤ k) (hk1 : k ≤ 6) (a b : Nat) (ha : a < 2 * f.signWeight) (hb : b < 2 * f.signWeight) (w : World) :
    Runs Try.prog numm_fltBin.id #[.int .i64 k, .int .i64 fi, .int .u64 (a : Int), .int .u64 (b : Int)] w fun v w' => v = .int .u64 ((binF f k a b : Nat) : Int) ∧ w' = w := by
  have h1 := F.sw2
  have ha64 : a < 18446744073709551616 := by omega
  have hb64 : b < 18446744073709551616 := by omega
  refine numm_fltBin.enter _ _ _ _ _ _ ?_
  unfold numm_fltBin.V
  refine Runs.pure_bind (numm_top.pure fi w F.topP) ⟨_, rfl, ?_⟩
  unfold binF
  by_cases k6 : k = 6
  · subst k6
    refine cond_true' rfl ⟨?_, rfl⟩
    rw [F.andTop a ha64, F.andSign b hb64, F.orSign _ _ (F.rungLt a), if_pos rfl]
  · refine cond_false' (beq_eq_false_iff_ne.2 k6) ?_
    rw [if_neg k6]
    refine Runs.pure_bind (numm_isNaN.pure fi a w (F.isNaNP a)) ⟨_, rfl, ?_⟩
    rw [F.isNaNF a ha64]
    by_cases na : f.infRung < rung f a
    · refine cond_true' (decide_eq_true na) ?_
      refine Runs.pure_bind (numm_canon.pure fi w) ⟨_, rfl, ?_, rfl⟩
      rw [F.canon, if_pos (.inl na)]
    · refine cond_false' (decide_eq_false na) ?_
      refine Runs.pure_bind (numm_isNaN.pure fi b w (F.isNaNP b)) ⟨_, rfl, ?_⟩
      rw [F.isNaNF b hb64]
      by_cases nb : f.infRung < rung f b
      · refine cond_true' (decide_eq_true nb) ?_
        refine Runs.pure_bind (numm_canon.pure fi w) ⟨_, rfl, ?_, rfl⟩
        rw [F.canon, if_pos (.inr nb)]
      · refine cond_false' (decide_eq_false nb) ?_
        rw [if_neg (by omega)]
        by_cases k0 : k = 0
        · subst k0
          refine cond_true' rfl ?_
          refine Runs.pure_bind (F.add_spec a b ha hb (by omega) (by omega) w) ⟨_, rfl, ?_, rfl⟩
          rw [if_pos rfl]
        · refine cond_false' (beq_eq_false_iff_ne.2 k0) ?_
          rw [if_neg k0]
          by_cases k1 : k = 1
          · subst k1
            refine cond_true' rfl ?_
            rw [F.xorTop b hb]
            have hfl : flip f b < 2 * f.signWeight := F.wordLt _ _ (F.rungLt b)
            have hfr : rung f (flip f b) = rung f b := rung_word f _ _ (F.rungLt b)
            refine Runs.pure_bind (F.add_spec a (flip f b) ha hfl (by omega) (by rw [hfr]; omega) w) ⟨_, rfl, ?_, rfl⟩
            rw [if_pos rfl]
            have : f.add a (flip f b) = f.sub a b := by
              show ((f.read a).sum (f.read (flip f b))).map f.write = ((f.read a).sum (f.read b).opposite).map f.write
              rw [read_flip]
            rw [this]
          · refine cond_false' (beq_eq_false_iff_ne.2 k1) ?_
            rw [if_neg k1]
            by_cases k2 : k = 2
            · subst k2
              refine cond_true' rfl ?_
              refine Runs.pure_bind (F.mul_spec a b ha hb (by omega) (by omega) w) ⟨_, rfl, ?_, rfl⟩
              rw [if_pos rfl]
            · refine cond_false' (beq_eq_false_iff_ne.2 k2) ?_
              rw [if_neg k2]
              by_cases k3 : k = 3
              · subst k3
                refine cond_true' rfl ?_
                refine Runs.pure_bind (F.div_spec a b ha hb (by omega) (by omega) w) ⟨_, rfl, ?_, rfl⟩
                rw [if_pos rfl]
              · refine cond_false' (beq_eq_false_iff_ne.2 k3) ?_
                rw [if_neg k3]
                refine Runs.pure_bind (numm_key.pure fi a w (F.keyP a)) ⟨_, rfl, ?_⟩
                refine Runs.pure_bind (numm_key.pure fi b w (F.keyP b)) ⟨_, rfl, ?_⟩
                rw [F.keyF a ha, F.keyF b hb]
                show cond (decide (nk f a < nk f b) == (k == (4 : Int))) (Value.int .u64 (a : Int) = _ ∧ w = w) (Value.int .u64 (b : Int) = _ ∧ w = w)
                refine cond_intro (fun h => ⟨?_, rfl⟩) (fun h => ⟨?_, rfl⟩)
                · rw [if_pos (beq_iff_eq.1 h)]
                · rw [if_neg (beq_eq_false_iff_ne.1 h)]
end

/-! ### As the layer answers -/
theorem sum_nn (d e r : Ieee.Datum) (h : d.sum e = some r) : r.isNaN = false := by
  cases d <;> cases e <;> simp only [Ieee.Datum.sum, reduceCtorEq, Option.some.injEq] at h <;> first | (subst h; rfl) | (split at h <;> cases h <;> rfl)
theorem product_nn (d e r : Ieee.Datum) (h : d.product e = some r) : r.isNaN = false := by
  cases d <;> cases e <;> simp only [Ieee.Datum.product, reduceCtorEq, Option.some.injEq] at h <;> first | (subst h; rfl) | (split at h <;> cases h <;> rfl)
theorem quotient_nn (n : Nat) (d e r : Ieee.Datum) (h : d.quotient n e = some r) : r.isNaN = false := by
  cases d with
  | nan s t => cases e <;> cases h
  | infinity s => cases e with
    | nan _ _ => cases h
    | infinity _ => cases h
    | number t m i => cases h; rfl
  | number s m i => cases e with
    | nan _ _ => cases h
    | infinity _ => cases h; rfl
    | number t n j =>
      simp only [Ieee.Datum.quotient] at h
      split at h
      · split at h
        · cases h
        · cases h; rfl
      · cases h; rfl
theorem ar32_map (o : Option Ieee.Datum) (h : ∀ r, o = some r → r.isNaN = false) : ar32 (o.map Ieee.single.write) = (o.map Ieee.single.write).getD 2143289344 := by
  cases o with
  | none => rfl
  | some r =>
    show cn32 (Ieee.single.write r) = Ieee.single.write r
    unfold cn32
    rw [write_not_nan Ieee.single single_bi r (h r rfl)]; rfl
theorem ar64_map (o : Option Ieee.Datum) (h : ∀ r, o = some r → r.isNaN = false) : ar64 (o.map Ieee.double.write) = (o.map Ieee.double.write).getD 9221120237041090560 := by
  cases o with
  | none => rfl
  | some r =>
    show cn64 (Ieee.double.write r) = Ieee.double.write r
    unfold cn64
    rw [write_not_nan Ieee.double double_bi r (h r rfl)]; rfl

theorem read_zero (f : Ieee.Format) (v : Nat) (h : rung f v = 0) : f.read v = .number (sgb f v) 0 f.leastPlace := by
  have hread : f.read v = (if rung f v < f.binade then .number (sgb f v) (rung f v) f.leastPlace else if rung f v < f.infRung then .number (sgb f v) (f.binade + rung f v % f.binade) (f.leastPlace + (rung f v / f.binade - 1 : Nat)) else if rung f v = f.infRung then .infinity (sgb f v) else .nan (sgb f v) (rung f v - f.infRung)) := rfl
  have hb : 0 < f.binade := Nat.two_pow_pos _
  rw [hread, h, if_pos hb]
theorem bXor32_n (a b : Nat) (ha : a < 4294967296) (hb : b < 4294967296) : bXor .u32 (a : Int) (b : Int) = ((a ^^^ b : Nat) : Int) := bXor_n .u32 rfl a b ha hb

end Go.Proofs.Qxb6500320a
