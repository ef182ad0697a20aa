/-
  Package num: the integers' operators: their shape.
-/
import Derived.Test.Qxb6500317aGreatIntA
set_option linter.unusedSimpArgs false
set_option linter.unusedVariables false
set_option maxRecDepth 100000
namespace Go.Proofs.Qxb6500317aGreat.U
open Go Go.Vc

theorem cond_all {α : Type} {P : α → Prop} {b : Bool} {x y : α} (hx : b = true → P x) (hy : b = false → P y) : P (cond b x y) := by
  cases b
  · exact hy rfl
  · exact hx rfl

theorem wrap_u32_rng (x : Int) : 0 ≤ IntKind.wrap .u32 x ∧ IntKind.wrap .u32 x < 4294967296 := by rw [wrap_u32_mod]; omega
theorem wrap_u64_rng (x : Int) : 0 ≤ IntKind.wrap .u64 x ∧ IntKind.wrap .u64 x < 18446744073709551616 := by rw [wrap_u64_mod]; omega
theorem fdiv_rng (x : Int) (h : 0 ≤ x) (k : Nat) : 0 ≤ Int.fdiv x (2 ^ k) ∧ Int.fdiv x (2 ^ k) ≤ x := by
  obtain ⟨n, rfl⟩ := Int.eq_ofNat_of_zero_le h
  rw [fdiv_n]
  exact ⟨Int.natCast_nonneg _, by exact_mod_cast Nat.div_le_self n (2 ^ k)⟩
theorem tmod_rng (x y : Int) (h : 0 ≤ x) (hy : 0 ≤ y) : 0 ≤ Int.tmod x y ∧ Int.tmod x y ≤ x := by
  obtain ⟨n, rfl⟩ := Int.eq_ofNat_of_zero_le h
  obtain ⟨m, rfl⟩ := Int.eq_ofNat_of_zero_le hy
  have e : Int.tmod (n : Int) (m : Int) = ((n % m : Nat) : Int) := rfl
  rw [e]
  have := Nat.mod_le n m
  omega
theorem pop32_rng (x : Int) (h0 : 0 ≤ x) (h1 : x < 4294967296) : 0 ≤ num_pop32.F x ∧ num_pop32.F x < 4294967296 := by
  obtain ⟨n, rfl⟩ := Int.eq_ofNat_of_zero_le h0
  rw [pop32_F n (by omega)]
  have := ones_le 32 n
  omega
theorem pop64_rng (x : Int) (h0 : 0 ≤ x) (h1 : x < 18446744073709551616) : 0 ≤ num_pop64.F x ∧ num_pop64.F x < 18446744073709551616 := by
  obtain ⟨n, rfl⟩ := Int.eq_ofNat_of_zero_le h0
  rw [pop64_F n (by omega)]
  have := ones_le 64 n
  omega
theorem clz32_rng (x : Int) (h0 : 0 ≤ x) (h1 : x < 4294967296) : 0 ≤ num_clz32.F x ∧ num_clz32.F x ≤ 32 := by
  obtain ⟨n, rfl⟩ := Int.eq_ofNat_of_zero_le h0
  by_cases hz : n = 0
  · subst hz; exact ⟨by decide, by decide⟩
  · obtain ⟨c, q1, q2, _⟩ := clz32_F n hz (by omega)
    rw [q1]; omega

/-- An answer of an integer operator of w bits' bound M. -/
def Shape (M : Int) (r : Int × Int) : Prop := 0 ≤ r.1 ∧ r.1 < M ∧ (r.2 = 0 ∨ ((r.2 = 39 ∨ r.2 = 40) ∧ r.1 = 0))

theorem shape_ok {M x : Int} (h : 0 ≤ x ∧ x < M) : Shape M (x, 0) := ⟨h.1, h.2, .inl rfl⟩
theorem shape_39 {M : Int} (h : 0 < M) : Shape M (0, 39) := ⟨Int.le_refl _, h, .inr ⟨.inl rfl, rfl⟩⟩
theorem shape_40 {M : Int} (h : 0 < M) : Shape M (0, 40) := ⟨Int.le_refl _, h, .inr ⟨.inr rfl, rfl⟩⟩

theorem int32_shape (op x y : Int) (hx0 : 0 ≤ x) (hx1 : x < 4294967296) (hy0 : 0 ≤ y) (hy1 : y < 4294967296) : Shape 4294967296 (num_int32s.F op x y) := by
  have hM : (0 : Int) < 4294967296 := by omega
  unfold num_int32s.F
  repeat' (first | (refine cond_all (fun _ => ?_) (fun _ => ?_)) | (unfold num_int32s.F1) | (unfold num_int32s.F2))
  all_goals first
    | exact shape_39 hM
    | exact shape_40 hM
    | exact shape_ok (wrap_u32_rng _)
    | (refine shape_ok ?_; have := clz32_rng x hx0 hx1; omega)
    | exact shape_ok (pop32_rng _ (wrap_u32_rng _).1 (wrap_u32_rng _).2)
    | exact shape_ok (pop32_rng x hx0 hx1)
    | (refine shape_ok ?_; have := tmod_rng x y hx0 hy0; omega)
    | (refine shape_ok ?_; have := fdiv_rng x hx0 (min (Int.toNat (Int.tmod y 32)) (IntKind.bits .u32)); omega)

theorem int64_shape (op x y : Int) (hx0 : 0 ≤ x) (hx1 : x < 18446744073709551616) (hy0 : 0 ≤ y) (hy1 : y < 18446744073709551616) : Shape 18446744073709551616 (num_int64s.F op x y) := by
  have hM : (0 : Int) < 18446744073709551616 := by omega
  unfold num_int64s.F
  repeat' (first | (refine cond_all (fun _ => ?_) (fun _ => ?_)) | (unfold num_int64s.F1) | (unfold num_int64s.F2))
  all_goals first
    | exact shape_39 hM
    | exact shape_40 hM
    | exact shape_ok (wrap_u64_rng _)
    | (refine shape_ok ?_; unfold num_clz64.F; exact cond_all (P := fun r => 0 ≤ r ∧ r < (18446744073709551616 : Int)) (fun _ => wrap_u64_rng _) (fun _ => wrap_u64_rng _))
    | exact shape_ok (pop64_rng _ (wrap_u64_rng _).1 (wrap_u64_rng _).2)
    | exact shape_ok (pop64_rng x hx0 hx1)
    | (refine shape_ok ?_; have := tmod_rng x y hx0 hy0; omega)
    | (refine shape_ok ?_; have := fdiv_rng x hx0 (min (Int.toNat (bAnd .u64 y 63)) (IntKind.bits .u64)); omega)

theorem i32_ne (y : Int) (h0 : 0 ≤ y) (h1 : y < 4294967296) (hy : y ≠ 0) : IntKind.wrap .i32 y ≠ 0 := by
  have e : IntKind.wrap .i32 y = (let m := y % 4294967296; if (m : Int) ≥ 2147483648 then m - 4294967296 else m) := by simp [IntKind.wrap, IntKind.bits, IntKind.signed]
  rw [e]; simp only; split <;> omega
theorem i64_ne (y : Int) (h0 : 0 ≤ y) (h1 : y < 18446744073709551616) (hy : y ≠ 0) : IntKind.wrap .i64 y ≠ 0 := by
  have e : IntKind.wrap .i64 y = (let m := y % 18446744073709551616; if (m : Int) ≥ 9223372036854775808 then m - 18446744073709551616 else m) := by simp [IntKind.wrap, IntKind.bits, IntKind.signed]
  rw [e]; simp only; split <;> omega

theorem beq_false_ne {y : Int} (h : (y == 0) = false) : y ≠ 0 := by simpa using h

theorem int32_pre (op x y : Int) (hy0 : 0 ≤ y) (hy1 : y < 4294967296) : num_int32s.Pre op x y := by
  unfold num_int32s.Pre
  repeat' (first | trivial | (refine cond_intro (fun _ => ?_) (fun _ => ?_)) | (unfold num_int32s.Pre1) | (unfold num_int32s.Pre2))
  all_goals first
    | (have hne : y ≠ 0 := beq_false_ne (by assumption); first | exact ⟨rfl, i32_ne y hy0 hy1 hne, trivial⟩ | exact ⟨rfl, hne, trivial⟩)
    | exact ⟨(tmod_rng y 32 hy0 (by decide)).1, trivial⟩
    | exact ⟨(tmod_rng y 32 hy0 (by decide)).1, (wrap_u32_rng _).1, trivial⟩

theorem int64_pre (op x y : Int) (hy0 : 0 ≤ y) (hy1 : y < 18446744073709551616) : num_int64s.Pre op x y := by
  unfold num_int64s.Pre
  repeat' (first | trivial | (refine cond_intro (fun _ => ?_) (fun _ => ?_)) | (unfold num_int64s.Pre1) | (unfold num_int64s.Pre2))
  all_goals first
    | (have hne : y ≠ 0 := beq_false_ne (by assumption); first | exact ⟨rfl, i64_ne y hy0 hy1 hne, trivial⟩ | exact ⟨rfl, hne, trivial⟩)
    | exact ⟨(wrap_u64_rng _).1, trivial⟩
    | exact ⟨(wrap_u64_rng _).1, (wrap_u64_rng _).1, trivial⟩

end Go.Proofs.Qxb6500317aGreat.U
