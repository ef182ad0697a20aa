/-
  Floats: the ends of the truncations.
-/
import Derived.Test.Qxb6500317aGreatFltE
set_option linter.unusedSimpArgs false
set_option linter.unusedVariables false
set_option maxRecDepth 100000
namespace Go.Proofs.Qxb6500317aGreat.U
open Go Go.Vc

theorem scale_eq (m n : Nat) (i j : Int) (K I J : Nat) (hI : (I : Int) = i + K) (hJ : (J : Int) = j + K) (h : m * 2 ^ (i - min i j).toNat = n * 2 ^ (j - min i j).toNat) : m * 2 ^ I = n * 2 ^ J := by
  obtain ⟨t, ht⟩ : ∃ t : Nat, (t : Int) = min i j + K := ⟨(min i j + K).toNat, by omega⟩
  have e1 : I = (i - min i j).toNat + t := by omega
  have e2 : J = (j - min i j).toNat + t := by omega
  rw [e1, e2, Nat.pow_add, Nat.pow_add, ← Nat.mul_assoc, ← Nat.mul_assoc, h]

/-- At a negative whole number itself. -/
theorem cut_at (s : Bool) (m n : Nat) (i j : Int) (C K J : Nat) (hJ : (J : Int) = j + K) (hi : 0 ≤ i + K) (hC : n * 2 ^ J = C * 2 ^ K) (hC0 : 0 < C)
    (h : (Ieee.Datum.number s m i).order (.number true n j) = some .eq) (q : Int) (hq : (Ieee.Datum.number s m i).toInt .zero = some q) : q = -(C : Int) := by
  simp only [Ieee.Datum.order, Option.some.injEq] at h
  have h1 := Int.compare_eq_eq.1 h
  rw [toInt_number, Option.some.injEq] at hq
  have hn : 0 < n := by
    rcases Nat.eq_zero_or_pos n with h0 | h0
    · rw [h0, Nat.zero_mul] at hC
      have := Nat.mul_pos hC0 (Nat.two_pow_pos K)
      omega
    · exact h0
  have hpos : 0 < n * 2 ^ (j - min i j).toNat := Nat.mul_pos hn (Nat.two_pow_pos _)
  simp only [Ieee.signed, if_true, Nat.shiftLeft_eq] at h1
  cases s with
  | false =>
    simp only [Bool.false_eq_true, if_false] at h1
    generalize n * 2 ^ (j - min i j).toNat = U at *
    generalize m * 2 ^ (i - min i j).toNat = V at *
    omega
  | true =>
    simp only [if_true] at h1 hq
    have h2 : m * 2 ^ (i - min i j).toNat = n * 2 ^ (j - min i j).toNat := by
      generalize n * 2 ^ (j - min i j).toNat = U at *
      generalize m * 2 ^ (i - min i j).toNat = V at *
      omega
    obtain ⟨I, hI⟩ : ∃ I : Nat, (I : Int) = i + K := ⟨(i + K).toNat, by omega⟩
    have h3 := scale_eq m n i j K I J hI hJ h2
    rw [floor_scale m i K I hI, h3, hC, Nat.mul_div_cancel _ (Nat.two_pow_pos K)] at hq
    omega

/-- As trunc_in, the lower end taken in. -/
theorem trunc_ge (f : Ieee.Format) (x c d n1 n2 : Nat) (j1 j2 : Int) (C D K J1 J2 : Nat) (hc : f.read c = .number false n1 j1) (hd : f.read d = .number true n2 j2) (hK : 0 ≤ f.leastPlace + K)
    (hJ1 : (J1 : Int) = j1 + K) (hJ2 : (J2 : Int) = j2 + K) (hC : n1 * 2 ^ J1 = C * 2 ^ K) (hD : n2 * 2 ^ J2 = D * 2 ^ K) (hC0 : 0 < C) (hD0 : 0 < D)
    (h1 : f.order x c = some .lt) (h2 : f.order x d = some .gt ∨ f.order x d = some .eq) : ∃ q : Int, (f.read x).toInt .zero = some q ∧ -(D : Int) ≤ q ∧ q < C := by
  rcases h2 with h2 | h2
  · obtain ⟨q, a1, a2, a3⟩ := trunc_in f x c d n1 n2 j1 j2 C D K J1 J2 hc hd hK hJ1 hJ2 hC hD hC0 hD0 h1 h2
    exact ⟨q, a1, by omega, a3⟩
  · unfold Ieee.Format.order at h1 h2
    rw [hc] at h1
    rw [hd] at h2
    cases hx : f.read x with
    | nan s t => rw [hx] at h1; simp [Ieee.Datum.order] at h1
    | infinity s =>
      rw [hx] at h1 h2
      cases s <;> simp [Ieee.Datum.order] at h1 h2
    | number s m i =>
      rw [hx] at h1 h2
      have hp := read_place f x s m i hx
      have e := cut_at s m n2 i j2 D K J2 hJ2 (by omega) hD hD0 h2 _ (toInt_number s m i)
      refine ⟨_, toInt_number s m i, by omega, ?_⟩
      exact cut_below s m n1 i j1 C K J1 hJ1 (by omega) hC hC0 h1 _ (toInt_number s m i)

end Go.Proofs.Qxb6500317aGreat.U
