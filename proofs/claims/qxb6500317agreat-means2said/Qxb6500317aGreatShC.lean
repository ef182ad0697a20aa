/-
  Small laws that other seats keep beside Show.
-/
import Derived.Test.Qxb6500317aGreatShA
import Derived.Test.Qxb6500317aGreatDcM
set_option linter.unusedSimpArgs false
set_option linter.unusedVariables false
set_option maxRecDepth 100000
set_option linter.unusedSectionVars false
namespace Go.Proofs.Qxb6500317aGreat
open Go Go.Vc
abbrev U64 (y : Int) : Prop := 0 ≤ y ∧ y < 18446744073709551616
abbrev I64 (y : Int) : Prop := -9223372036854775808 ≤ y ∧ y ≤ 9223372036854775807
theorem wrapU64 (x : Int) : U64 (IntKind.wrap .u64 x) := by rw [wrap_u64_mod]; exact ⟨by omega, by omega⟩

theorem wrapI64 (x : Int) : I64 (IntKind.wrap .i64 x) := by
  have e : IntKind.wrap .i64 x = if x % 18446744073709551616 ≥ 9223372036854775808 then x % 18446744073709551616 - 18446744073709551616 else x % 18446744073709551616 := by
    unfold IntKind.wrap
    simp [IntKind.bits, IntKind.signed]
  rw [e]
  split <;> exact ⟨by omega, by omega⟩
theorem nil_j {a : Addr} {K : Addr → Prop} (h : K a) : nilV (some a) K := by rw [nilV_some]; exact h
theorem SlF.look {α : Type} {enc : α → List Value} {sz : Nat} {w : World} {lo : Nat} {v : Value} {n : Nat} {f : Nat → α} (h : SlF enc sz w lo v n f) : ∃ a, v = .slice a n n ∧ (n ≠ 0 → ∃ b, a = some ⟨b, 0, none⟩ ∧ b < w.heap.size ∧ ∀ j, j < n → ∀ k u, (enc (f j))[k]? = some u → w.cell? ⟨b, j * sz + k, none⟩ = some u) := by
  rcases h with ⟨h0, hv⟩ | ⟨h0, b, h1, h2, h3, h4⟩
  · exact ⟨none, by rw [hv, h0], fun g => absurd h0 g⟩
  · exact ⟨_, h1, fun _ => ⟨b, rfl, h4, h2.c⟩⟩

theorem nx (i : Nat) (h : i ≤ 1000000) : IntKind.wrap .i64 ((i : Int) + 1) = ((i + 1 : Nat) : Int) := by rw [wrap_i64 (by omega) (by omega)]; omega
theorem Same.more {B : Nat} {a b c : World} (h : Same [] a.heap.size a b) (k : Same [] b.heap.size b c) : Same [] a.heap.size a c := h.trans (k.mono h.size (by simp))

end Go.Proofs.Qxb6500317aGreat
