/-
  Floats: min, max; cutting to a whole number.
-/
import Derived.Test.Qxb6500317aGreatFltA
set_option linter.unusedSimpArgs false
set_option linter.unusedVariables false
set_option maxRecDepth 100000
namespace Go.Proofs.Qxb6500317aGreat.U
open Go Go.Vc

def least (f : Ieee.Format) (k : IntKind) (N a b : Int) : Int :=
  cond (f.order a.toNat a.toNat != some .eq) N (cond (f.order b.toNat b.toNat != some .eq) N (cond (f.order a.toNat b.toNat == some .eq) (bOr k a b) (cond (f.order a.toNat b.toNat == some .lt) a b)))
def most (f : Ieee.Format) (k : IntKind) (N a b : Int) : Int :=
  cond (f.order a.toNat a.toNat != some .eq) N (cond (f.order b.toNat b.toNat != some .eq) N (cond (f.order a.toNat b.toNat == some .eq) (bAnd k a b) (cond (f.order a.toNat b.toNat == some .gt) a b)))

theorem least32_spec (a b : Int) (w : World) : Runs Tryz.prog num_least32.id #[.int .u32 a, .int .u32 b] w fun v w' => v = .int .u32 (least Ieee.single .u32 2143289344 a b) ∧ w' = w := by
  refine num_least32.enter _ _ _ _ ?_
  unfold num_least32.V
  refine ⟨_, _, run_f32from a w, _, _, run_f32from b w, ?_⟩
  have e : least Ieee.single .u32 2143289344 a b = least (FloatKind.format .f32) .u32 2143289344 a b := rfl
  rw [e]; unfold least
  refine cond_intro (fun h => ?_) (fun h => cond_intro (fun h2 => ?_) (fun h2 => ?_))
  · exact ⟨by rw [h]; rfl, rfl⟩
  · exact ⟨by rw [h, h2]; rfl, rfl⟩
  · refine num_least32.step1 _ _ _ _ _ _ ?_
    unfold num_least32.V1
    refine cond_intro (fun h3 => ?_) (fun h3 => cond_intro (fun h4 => ?_) (fun h4 => ?_))
    · exact ⟨by rw [h, h2, h3]; rfl, rfl⟩
    · exact ⟨by rw [h, h2, h3, h4]; rfl, rfl⟩
    · exact ⟨by rw [h, h2, h3, h4]; rfl, rfl⟩
theorem most32_spec (a b : Int) (w : World) : Runs Tryz.prog num_most32.id #[.int .u32 a, .int .u32 b] w fun v w' => v = .int .u32 (most Ieee.single .u32 2143289344 a b) ∧ w' = w := by
  refine num_most32.enter _ _ _ _ ?_
  unfold num_most32.V
  refine ⟨_, _, run_f32from a w, _, _, run_f32from b w, ?_⟩
  have e : most Ieee.single .u32 2143289344 a b = most (FloatKind.format .f32) .u32 2143289344 a b := rfl
  rw [e]; unfold most
  refine cond_intro (fun h => ?_) (fun h => cond_intro (fun h2 => ?_) (fun h2 => ?_))
  · exact ⟨by rw [h]; rfl, rfl⟩
  · exact ⟨by rw [h, h2]; rfl, rfl⟩
  · refine num_most32.step1 _ _ _ _ _ _ ?_
    unfold num_most32.V1
    refine cond_intro (fun h3 => ?_) (fun h3 => cond_intro (fun h4 => ?_) (fun h4 => ?_))
    · exact ⟨by rw [h, h2, h3]; rfl, rfl⟩
    · exact ⟨by rw [h, h2, h3, h4]; rfl, rfl⟩
    · exact ⟨by rw [h, h2, h3, h4]; rfl, rfl⟩
theorem least64_spec (a b : Int) (w : World) : Runs Tryz.prog num_least64.id #[.int .u64 a, .int .u64 b] w fun v w' => v = .int .u64 (least Ieee.double .u64 9221120237041090560 a b) ∧ w' = w := by
  refine num_least64.enter _ _ _ _ ?_
  unfold num_least64.V
  refine ⟨_, _, run_f64from a w, _, _, run_f64from b w, ?_⟩
  have e : least Ieee.double .u64 9221120237041090560 a b = least (FloatKind.format .f64) .u64 9221120237041090560 a b := rfl
  rw [e]; unfold least
  refine cond_intro (fun h => ?_) (fun h => cond_intro (fun h2 => ?_) (fun h2 => ?_))
  · exact ⟨by rw [h]; rfl, rfl⟩
  · exact ⟨by rw [h, h2]; rfl, rfl⟩
  · refine num_least64.step1 _ _ _ _ _ _ ?_
    unfold num_least64.V1
    refine cond_intro (fun h3 => ?_) (fun h3 => cond_intro (fun h4 => ?_) (fun h4 => ?_))
    · exact ⟨by rw [h, h2, h3]; rfl, rfl⟩
    · exact ⟨by rw [h, h2, h3, h4]; rfl, rfl⟩
    · exact ⟨by rw [h, h2, h3, h4]; rfl, rfl⟩
theorem most64_spec (a b : Int) (w : World) : Runs Tryz.prog num_most64.id #[.int .u64 a, .int .u64 b] w fun v w' => v = .int .u64 (most Ieee.double .u64 9221120237041090560 a b) ∧ w' = w := by
  refine num_most64.enter _ _ _ _ ?_
  unfold num_most64.V
  refine ⟨_, _, run_f64from a w, _, _, run_f64from b w, ?_⟩
  have e : most Ieee.double .u64 9221120237041090560 a b = most (FloatKind.format .f64) .u64 9221120237041090560 a b := rfl
  rw [e]; unfold most
  refine cond_intro (fun h => ?_) (fun h => cond_intro (fun h2 => ?_) (fun h2 => ?_))
  · exact ⟨by rw [h]; rfl, rfl⟩
  · exact ⟨by rw [h, h2]; rfl, rfl⟩
  · refine num_most64.step1 _ _ _ _ _ _ ?_
    unfold num_most64.V1
    refine cond_intro (fun h3 => ?_) (fun h3 => cond_intro (fun h4 => ?_) (fun h4 => ?_))
    · exact ⟨by rw [h, h2, h3]; rfl, rfl⟩
    · exact ⟨by rw [h, h2, h3, h4]; rfl, rfl⟩
    · exact ⟨by rw [h, h2, h3, h4]; rfl, rfl⟩

/-! ### Cutting towards zero -/
theorem cut_zero (s : Bool) (n d : Nat) : Ieee.Toward.zero.cut s n d = n / 2 ^ d := by
  unfold Ieee.Toward.cut
  simp only [Nat.shiftLeft_eq, Nat.one_mul, Bool.toNat_false, Nat.add_zero]
  rcases Nat.le_total d (n.log2 + 2) with h | h
  · rw [Nat.min_eq_left h]
  · rw [Nat.min_eq_right h]
    have h1 : n < 2 ^ (n.log2 + 1) := Nat.lt_log2_self
    have h2 : 2 ^ (n.log2 + 1) ≤ 2 ^ (n.log2 + 2) := Nat.pow_le_pow_right (by omega) (by omega)
    have h3 : 2 ^ (n.log2 + 2) ≤ 2 ^ d := Nat.pow_le_pow_right (by omega) h
    rw [Nat.div_eq_of_lt (by omega), Nat.div_eq_of_lt (by omega)]

/-- A finite number cut towards zero. -/
theorem toInt_number (s : Bool) (m : Nat) (i : Int) : (Ieee.Datum.number s m i).toInt .zero = some (if s then -((m * 2 ^ i.toNat / 2 ^ (-i).toNat : Nat) : Int) else ((m * 2 ^ i.toNat / 2 ^ (-i).toNat : Nat) : Int)) := by
  simp only [Ieee.Datum.toInt, Ieee.Datum.integral, cut_zero, Ieee.signed, Nat.shiftLeft_eq, Nat.pow_zero, Nat.mul_one]

/-- v = m * 2^i lies below c * 2^j: what order says, written out. -/
theorem order_lt (s t : Bool) (m n : Nat) (i j : Int) (h : (Ieee.Datum.number s m i).order (.number t n j) = some .lt) :
    Ieee.signed s m (i - min i j).toNat < Ieee.signed t n (j - min i j).toNat := by
  simp only [Ieee.Datum.order, Option.some.injEq] at h
  exact Int.compare_eq_lt.1 h
theorem order_gt (s t : Bool) (m n : Nat) (i j : Int) (h : (Ieee.Datum.number s m i).order (.number t n j) = some .gt) :
    Ieee.signed t n (j - min i j).toNat < Ieee.signed s m (i - min i j).toNat := by
  simp only [Ieee.Datum.order, Option.some.injEq] at h
  exact Int.compare_eq_gt.1 h

/-- The cut at a common scale. -/
theorem floor_scale (m : Nat) (i : Int) (K I : Nat) (h : (I : Int) = i + K) : m * 2 ^ i.toNat / 2 ^ (-i).toNat = m * 2 ^ I / 2 ^ K := by
  rcases Int.le_total 0 i with hi | hi
  · have e1 : (-i).toNat = 0 := by omega
    have e2 : I = i.toNat + K := by omega
    rw [e1, e2, Nat.pow_zero, Nat.div_one, Nat.pow_add, ← Nat.mul_assoc, Nat.mul_div_cancel _ (Nat.two_pow_pos K)]
  · have e1 : i.toNat = 0 := by omega
    have e2 : K = (-i).toNat + I := by omega
    rw [e1, e2, Nat.pow_zero, Nat.mul_one, Nat.pow_add, Nat.mul_div_mul_right _ _ (Nat.two_pow_pos I)]

theorem scale_lt (m n : Nat) (i j : Int) (K I J : Nat) (hI : (I : Int) = i + K) (hJ : (J : Int) = j + K) (h : m * 2 ^ (i - min i j).toNat < n * 2 ^ (j - min i j).toNat) : m * 2 ^ I < n * 2 ^ J := by
  obtain ⟨t, ht⟩ : ∃ t : Nat, (t : Int) = min i j + K := ⟨(min i j + K).toNat, by omega⟩
  have e1 : I = (i - min i j).toNat + t := by omega
  have e2 : J = (j - min i j).toNat + t := by omega
  rw [e1, e2, Nat.pow_add, Nat.pow_add, ← Nat.mul_assoc, ← Nat.mul_assoc]
  exact Nat.mul_lt_mul_of_pos_right h (Nat.two_pow_pos t)

/-- Below a whole number C > 0 (n * 2^j = C): the cut is below it too. -/
theorem cut_below (s : Bool) (m n : Nat) (i j : Int) (C K J : Nat) (hJ : (J : Int) = j + K) (hi : 0 ≤ i + K) (hC : n * 2 ^ J = C * 2 ^ K) (hC0 : 0 < C)
    (h : (Ieee.Datum.number s m i).order (.number false n j) = some .lt) (q : Int) (hq : (Ieee.Datum.number s m i).toInt .zero = some q) : q < C := by
  have h1 := order_lt _ _ _ _ _ _ h
  rw [toInt_number, Option.some.injEq] at hq
  cases s with
  | true =>
    simp only [if_true] at hq
    generalize m * 2 ^ i.toNat / 2 ^ (-i).toNat = z at hq
    omega
  | false =>
    simp only [Bool.false_eq_true, if_false] at hq
    simp only [Ieee.signed, Bool.false_eq_true, if_false, Nat.shiftLeft_eq] at h1
    have h2 : m * 2 ^ (i - min i j).toNat < n * 2 ^ (j - min i j).toNat := by exact_mod_cast h1
    obtain ⟨I, hI⟩ : ∃ I : Nat, (I : Int) = i + K := ⟨(i + K).toNat, by omega⟩
    have h3 := scale_lt m n i j K I J hI hJ h2
    rw [floor_scale m i K I hI] at hq
    rw [hC] at h3
    have h4 : m * 2 ^ I / 2 ^ K < C := by rw [Nat.div_lt_iff_lt_mul (Nat.two_pow_pos K)]; exact h3
    generalize m * 2 ^ I / 2 ^ K = z at hq h4
    omega

/-- Above a negative whole number -C (n * 2^j = C): the cut is above it too. -/
theorem cut_above (s : Bool) (m n : Nat) (i j : Int) (C K J : Nat) (hJ : (J : Int) = j + K) (hi : 0 ≤ i + K) (hC : n * 2 ^ J = C * 2 ^ K) (hC0 : 0 < C)
    (h : (Ieee.Datum.number s m i).order (.number true n j) = some .gt) (q : Int) (hq : (Ieee.Datum.number s m i).toInt .zero = some q) : -(C : Int) < q := by
  have h1 := order_gt _ _ _ _ _ _ h
  rw [toInt_number, Option.some.injEq] at hq
  cases s with
  | false =>
    simp only [Bool.false_eq_true, if_false] at hq
    generalize m * 2 ^ i.toNat / 2 ^ (-i).toNat = z at hq
    omega
  | true =>
    simp only [if_true] at hq
    simp only [Ieee.signed, if_true, Nat.shiftLeft_eq] at h1
    have h2 : m * 2 ^ (i - min i j).toNat < n * 2 ^ (j - min i j).toNat := by
      have : ((m * 2 ^ (i - min i j).toNat : Nat) : Int) < ((n * 2 ^ (j - min i j).toNat : Nat) : Int) := by omega
      exact_mod_cast this
    obtain ⟨I, hI⟩ : ∃ I : Nat, (I : Int) = i + K := ⟨(i + K).toNat, by omega⟩
    have h3 := scale_lt m n i j K I J hI hJ h2
    rw [floor_scale m i K I hI] at hq
    rw [hC] at h3
    have h4 : m * 2 ^ I / 2 ^ K < C := by rw [Nat.div_lt_iff_lt_mul (Nat.two_pow_pos K)]; exact h3
    generalize m * 2 ^ I / 2 ^ K = z at hq h4
    omega

/-- The place of a finite number is never below the least one. -/
theorem read_place (f : Ieee.Format) (x : Nat) (s : Bool) (m : Nat) (i : Int) (h : f.read x = .number s m i) : f.leastPlace ≤ i := by
  unfold Ieee.Format.read at h
  simp only at h
  split at h
  · simp only [Ieee.Datum.number.injEq] at h; omega
  · split at h
    · simp only [Ieee.Datum.number.injEq] at h; omega
    · split at h <;> simp at h

/-- Between the ends -D and C, both left out, a float is a number, and its cut lies between them. -/
theorem trunc_in (f : Ieee.Format) (x c d n1 n2 : Nat) (j1 j2 : Int) (C D K J1 J2 : Nat) (hc : f.read c = .number false n1 j1) (hd : f.read d = .number true n2 j2) (hK : 0 ≤ f.leastPlace + K)
    (hJ1 : (J1 : Int) = j1 + K) (hJ2 : (J2 : Int) = j2 + K) (hC : n1 * 2 ^ J1 = C * 2 ^ K) (hD : n2 * 2 ^ J2 = D * 2 ^ K) (hC0 : 0 < C) (hD0 : 0 < D)
    (h1 : f.order x c = some .lt) (h2 : f.order x d = some .gt) : ∃ q : Int, (f.read x).toInt .zero = some q ∧ -(D : Int) < q ∧ q < C := by
  unfold Ieee.Format.order at h1 h2
  rw [hc] at h1
  rw [hd] at h2
  cases hx : f.read x with
  | nan s t => rw [hx] at h1; simp [Ieee.Datum.order] at h1
  | infinity s =>
    rw [hx] at h1 h2
    cases s <;> simp [Ieee.Datum.order] at h1 h2
  | number s m i =>
    rw [hx] at h1 h2
    have hp := read_place f x s m i hx
    refine ⟨_, toInt_number s m i, ?_, ?_⟩
    · exact cut_above s m n2 i j2 D K J2 hJ2 (by omega) hD hD0 h2 _ (toInt_number s m i)
    · exact cut_below s m n1 i j1 C K J1 hJ1 (by omega) hC hC0 h1 _ (toInt_number s m i)

end Go.Proofs.Qxb6500317aGreat.U
