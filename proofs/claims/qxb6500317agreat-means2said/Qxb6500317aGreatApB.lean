/-
  The shape of Apply's answers.
-/
import Derived.Test.Qxb6500317aGreatApA
set_option linter.unusedSimpArgs false
set_option linter.unusedVariables false
set_option maxRecDepth 100000
namespace Go.Proofs.Qxb6500317aGreat.U
open Go Go.Vc

def Sh (M : Int) (r : Int × Int) : Prop := 0 ≤ r.1 ∧ r.1 < M ∧ (r.2 = 0 ∨ (39 ≤ r.2 ∧ r.2 ≤ 41 ∧ r.1 = 0))
theorem Shape.sh {M : Int} {r : Int × Int} (h : Shape M r) : Sh M r := ⟨h.1, h.2.1, by rcases h.2.2 with h | ⟨h, h'⟩ <;> omega⟩
theorem Sh.ok {M x : Int} (h : 0 ≤ x ∧ x < M) : Sh M (x, 0) := ⟨h.1, h.2, .inl rfl⟩
theorem Sh.err {M e : Int} (h : 0 < M) (h1 : 39 ≤ e) (h2 : e ≤ 41) : Sh M (0, e) := ⟨Int.le_refl _, h, .inr ⟨h1, h2, rfl⟩⟩
theorem Sh.mono {M N : Int} {r : Int × Int} (h : Sh M r) (hMN : M ≤ N) : Sh N r := ⟨h.1, by have := h.2.1; omega, h.2.2⟩

theorem flag_rng (c : Bool) : 0 ≤ num_flag.F c ∧ num_flag.F c < 4294967296 := by cases c <;> decide
theorem wrap_small (x : Int) (h : 0 ≤ x ∧ x < 4294967296) : IntKind.wrap .u64 x = x := wrap_u64 (by omega) (by omega)
theorem W3264_rng (x : Int) : 0 ≤ W3264 x ∧ W3264 x < 4294967296 := by
  unfold W3264; rw [wrap_small _ (wrap_u32_rng x)]; exact wrap_u32_rng x

theorem near_lt32 (n : Int) : FloatKind.nearest .f32 n < 4294967296 := Ieee.single.write_lt (.number (n < 0) n.natAbs 0)
theorem cn32_lt (x : Nat) (h : x < 4294967296) : cn32 x < 4294967296 := by unfold cn32; split <;> omega
theorem ar32_lt (o : Option Nat) (h : ∀ r, o = some r → r < 4294967296) : ar32 o < 4294967296 := by
  cases o with
  | none => show 2143289344 < 4294967296; omega
  | some r => exact cn32_lt r (h r rfl)
theorem fb32_lt (op : BinOp) (a b r : Nat) (h : floatBits op .f32 a b = some r) : r < 4294967296 := by
  have := floatBits_wf h
  simp only [Lit.wf, decide_eq_true_eq] at this
  exact this
theorem cut32_lt (x : Nat) (h : x < 4294967296) : cut32 x < 4294967296 := by
  unfold cut32
  refine cond_all (P := fun y => y < 4294967296) (fun _ => cond_all (P := fun y => y < 4294967296) (fun _ => cond_all (P := fun y => y < 4294967296) (fun _ => ?_) (fun _ => near_lt32 _)) (fun _ => h)) (fun _ => h)
  have := wrap_u32_rng ((BitVec.ofInt (IntKind.bits .u32) (x : Int) &&& BitVec.ofInt (IntKind.bits .u32) 2147483648).toNat : Int)
  have e : bAnd .u32 (x : Int) 2147483648 = IntKind.wrap .u32 ((BitVec.ofInt (IntKind.bits .u32) (x : Int) &&& BitVec.ofInt (IntKind.bits .u32) 2147483648).toNat : Int) := rfl
  rw [e]; omega
theorem ceil32_lt (x : Nat) (h : x < 4294967296) : ceil32 x < 4294967296 := by
  unfold ceil32
  exact cond_all (P := fun y => y < 4294967296) (fun _ => ar32_lt _ fun r hr => fb32_lt _ _ _ _ hr) (fun _ => cn32_lt _ (cut32_lt x h))
theorem floor32_lt (x : Nat) (h : x < 4294967296) : floor32 x < 4294967296 := by
  unfold floor32
  exact cond_all (P := fun y => y < 4294967296) (fun _ => ar32_lt _ fun r hr => fb32_lt _ _ _ _ hr) (fun _ => cn32_lt _ (cut32_lt x h))
theorem up32_lt (x : Nat) : up32 x < 4294967296 := by
  unfold up32
  generalize ho : Ieee.single.sub _ _ = o
  cases o with
  | none => show 0 < 4294967296; omega
  | some r => exact Ieee.single.sub_lt ho
theorem neg32_lt (x : Nat) (h : x < 4294967296) : Op.negFloat .f32 x < 4294967296 := by
  have e : Op.negFloat .f32 x = x ^^^ 2 ^ 31 := rfl
  rw [e]
  exact Nat.xor_lt_two_pow (n := 32) h (by decide)
theorem near32_lt (x : Nat) (h : x < 4294967296) : near32 x < 4294967296 := by
  unfold near32
  exact cond_all (P := fun y => y < 4294967296) (fun _ => cond_all (P := fun y => y < 4294967296) (fun _ => cond_all (P := fun y => y < 4294967296) (fun _ => neg32_lt _ (up32_lt _)) (fun _ => up32_lt _)) (fun _ => h)) (fun _ => h)
theorem nat_rng32 (n : Nat) (h : n < 4294967296) : (0 : Int) ≤ (n : Int) ∧ (n : Int) < 4294967296 := by omega

theorem near_lt64 (n : Int) : FloatKind.nearest .f64 n < 18446744073709551616 := Ieee.double.write_lt (.number (n < 0) n.natAbs 0)
theorem cn64_lt (x : Nat) (h : x < 18446744073709551616) : cn64 x < 18446744073709551616 := by unfold cn64; split <;> omega
theorem ar64_lt (o : Option Nat) (h : ∀ r, o = some r → r < 18446744073709551616) : ar64 o < 18446744073709551616 := by
  cases o with
  | none => show 9221120237041090560 < 18446744073709551616; omega
  | some r => exact cn64_lt r (h r rfl)
theorem fb64_lt (op : BinOp) (a b r : Nat) (h : floatBits op .f64 a b = some r) : r < 18446744073709551616 := by
  have := floatBits_wf h
  simp only [Lit.wf, decide_eq_true_eq] at this
  exact this
theorem cut64_lt (x : Nat) (h : x < 18446744073709551616) : cut64 x < 18446744073709551616 := by
  unfold cut64
  refine cond_all (P := fun y => y < 18446744073709551616) (fun _ => cond_all (P := fun y => y < 18446744073709551616) (fun _ => cond_all (P := fun y => y < 18446744073709551616) (fun _ => ?_) (fun _ => near_lt64 _)) (fun _ => h)) (fun _ => h)
  have := wrap_u64_rng ((BitVec.ofInt (IntKind.bits .u64) (x : Int) &&& BitVec.ofInt (IntKind.bits .u64) 9223372036854775808).toNat : Int)
  have e : bAnd .u64 (x : Int) 9223372036854775808 = IntKind.wrap .u64 ((BitVec.ofInt (IntKind.bits .u64) (x : Int) &&& BitVec.ofInt (IntKind.bits .u64) 9223372036854775808).toNat : Int) := rfl
  rw [e]; omega
theorem ceil64_lt (x : Nat) (h : x < 18446744073709551616) : ceil64 x < 18446744073709551616 := by
  unfold ceil64
  exact cond_all (P := fun y => y < 18446744073709551616) (fun _ => ar64_lt _ fun r hr => fb64_lt _ _ _ _ hr) (fun _ => cn64_lt _ (cut64_lt x h))
theorem floor64_lt (x : Nat) (h : x < 18446744073709551616) : floor64 x < 18446744073709551616 := by
  unfold floor64
  exact cond_all (P := fun y => y < 18446744073709551616) (fun _ => ar64_lt _ fun r hr => fb64_lt _ _ _ _ hr) (fun _ => cn64_lt _ (cut64_lt x h))
theorem up64_lt (x : Nat) : up64 x < 18446744073709551616 := by
  unfold up64
  generalize ho : Ieee.double.sub _ _ = o
  cases o with
  | none => show 0 < 18446744073709551616; omega
  | some r => exact Ieee.double.sub_lt ho
theorem neg64_lt (x : Nat) (h : x < 18446744073709551616) : Op.negFloat .f64 x < 18446744073709551616 := by
  have e : Op.negFloat .f64 x = x ^^^ 2 ^ 63 := rfl
  rw [e]
  exact Nat.xor_lt_two_pow (n := 64) h (by decide)
theorem near64_lt (x : Nat) (h : x < 18446744073709551616) : near64 x < 18446744073709551616 := by
  unfold near64
  exact cond_all (P := fun y => y < 18446744073709551616) (fun _ => cond_all (P := fun y => y < 18446744073709551616) (fun _ => cond_all (P := fun y => y < 18446744073709551616) (fun _ => neg64_lt _ (up64_lt _)) (fun _ => up64_lt _)) (fun _ => h)) (fun _ => h)
theorem nat_rng64 (n : Nat) (h : n < 18446744073709551616) : (0 : Int) ≤ (n : Int) ∧ (n : Int) < 18446744073709551616 := by omega

theorem ftf32_lt (x r : Nat) (h : floatToFloatBits .f64 x .f32 = some r) : r < 4294967296 := by
  unfold floatToFloatBits at h
  rw [if_neg (by decide)] at h
  split at h
  · cases h
  · cases h; exact Ieee.single.write_lt _
  · split at h
    · cases h
    · cases h; exact Ieee.single.write_lt _
theorem ftf64_lt (x r : Nat) (h : floatToFloatBits .f32 x .f64 = some r) : r < 18446744073709551616 := by
  unfold floatToFloatBits at h
  rw [if_neg (by decide)] at h
  split at h
  · cases h
  · cases h; exact Ieee.double.write_lt _
  · split at h
    · cases h
    · cases h; exact Ieee.double.write_lt _
theorem rt32_lt (x : Nat) : rt32 x < 4294967296 := by
  unfold rt32
  apply ar32_lt
  intro r hr
  simp only [Option.bind_eq_some_iff] at hr
  obtain ⟨q, _, hq⟩ := hr
  exact ftf32_lt q r hq
theorem rt64_lt (x : Nat) : ar64 (Ieee.double.sqrt x) < 18446744073709551616 := ar64_lt _ fun r hr => Ieee.double.sqrt_lt hr

theorem fl32_rng (op a b : Int) (ha : 0 ≤ a ∧ a < 4294967296) (hb : 0 ≤ b ∧ b < 4294967296) : 0 ≤ fl32 op a b ∧ fl32 op a b < 4294967296 := by
  have hx : a.toNat < 4294967296 := by omega
  unfold fl32
  refine cond_all (P := fun y : Int => 0 ≤ y ∧ y < 4294967296) (fun _ => wrap_u32_rng _) (fun _ => ?_)
  refine cond_all (P := fun y : Int => 0 ≤ y ∧ y < 4294967296) (fun _ => wrap_u32_rng _) (fun _ => ?_)
  refine cond_all (P := fun y : Int => 0 ≤ y ∧ y < 4294967296) (fun _ => nat_rng32 _ (ceil32_lt _ hx)) (fun _ => ?_)
  refine cond_all (P := fun y : Int => 0 ≤ y ∧ y < 4294967296) (fun _ => nat_rng32 _ (floor32_lt _ hx)) (fun _ => ?_)
  refine cond_all (P := fun y : Int => 0 ≤ y ∧ y < 4294967296) (fun _ => nat_rng32 _ (cn32_lt _ (cut32_lt _ hx))) (fun _ => ?_)
  refine cond_all (P := fun y : Int => 0 ≤ y ∧ y < 4294967296) (fun _ => nat_rng32 _ (cn32_lt _ (near32_lt _ hx))) (fun _ => ?_)
  refine cond_all (P := fun y : Int => 0 ≤ y ∧ y < 4294967296) (fun _ => nat_rng32 _ (rt32_lt _)) (fun _ => ?_)
  refine cond_all (P := fun y : Int => 0 ≤ y ∧ y < 4294967296) (fun _ => nat_rng32 _ (ar32_lt _ fun r hr => fb32_lt _ _ _ _ hr)) (fun _ => ?_)
  refine cond_all (P := fun y : Int => 0 ≤ y ∧ y < 4294967296) (fun _ => nat_rng32 _ (ar32_lt _ fun r hr => fb32_lt _ _ _ _ hr)) (fun _ => ?_)
  refine cond_all (P := fun y : Int => 0 ≤ y ∧ y < 4294967296) (fun _ => nat_rng32 _ (ar32_lt _ fun r hr => fb32_lt _ _ _ _ hr)) (fun _ => ?_)
  refine cond_all (P := fun y : Int => 0 ≤ y ∧ y < 4294967296) (fun _ => ?_) (fun _ => ?_)
  · refine cond_all (P := fun y : Int => 0 ≤ y ∧ y < 4294967296) (fun _ => ?_) (fun _ => nat_rng32 _ (ar32_lt _ fun r hr => fb32_lt _ _ _ _ hr))
    exact cond_all (P := fun y : Int => 0 ≤ y ∧ y < 4294967296) (fun _ => by decide) (fun _ => cond_all (P := fun y : Int => 0 ≤ y ∧ y < 4294967296) (fun _ => by decide) (fun _ => wrap_u32_rng _))
  refine cond_all (P := fun y : Int => 0 ≤ y ∧ y < 4294967296) (fun _ => ?_) (fun _ => ?_)
  · unfold least
    exact cond_all (P := fun y : Int => 0 ≤ y ∧ y < 4294967296) (fun _ => by decide) (fun _ => cond_all (P := fun y : Int => 0 ≤ y ∧ y < 4294967296) (fun _ => by decide) (fun _ => cond_all (P := fun y : Int => 0 ≤ y ∧ y < 4294967296) (fun _ => wrap_u32_rng _) (fun _ => cond_all (P := fun y : Int => 0 ≤ y ∧ y < 4294967296) (fun _ => ha) (fun _ => hb))))
  refine cond_all (P := fun y : Int => 0 ≤ y ∧ y < 4294967296) (fun _ => ?_) (fun _ => wrap_u32_rng _)
  · unfold most
    exact cond_all (P := fun y : Int => 0 ≤ y ∧ y < 4294967296) (fun _ => by decide) (fun _ => cond_all (P := fun y : Int => 0 ≤ y ∧ y < 4294967296) (fun _ => by decide) (fun _ => cond_all (P := fun y : Int => 0 ≤ y ∧ y < 4294967296) (fun _ => wrap_u32_rng _) (fun _ => cond_all (P := fun y : Int => 0 ≤ y ∧ y < 4294967296) (fun _ => ha) (fun _ => hb))))

theorem fl64_rng (op a b : Int) (ha : 0 ≤ a ∧ a < 18446744073709551616) (hb : 0 ≤ b ∧ b < 18446744073709551616) : 0 ≤ fl64 op a b ∧ fl64 op a b < 18446744073709551616 := by
  have hx : a.toNat < 18446744073709551616 := by omega
  unfold fl64
  refine cond_all (P := fun y : Int => 0 ≤ y ∧ y < 18446744073709551616) (fun _ => wrap_u64_rng _) (fun _ => ?_)
  refine cond_all (P := fun y : Int => 0 ≤ y ∧ y < 18446744073709551616) (fun _ => wrap_u64_rng _) (fun _ => ?_)
  refine cond_all (P := fun y : Int => 0 ≤ y ∧ y < 18446744073709551616) (fun _ => nat_rng64 _ (ceil64_lt _ hx)) (fun _ => ?_)
  refine cond_all (P := fun y : Int => 0 ≤ y ∧ y < 18446744073709551616) (fun _ => nat_rng64 _ (floor64_lt _ hx)) (fun _ => ?_)
  refine cond_all (P := fun y : Int => 0 ≤ y ∧ y < 18446744073709551616) (fun _ => nat_rng64 _ (cn64_lt _ (cut64_lt _ hx))) (fun _ => ?_)
  refine cond_all (P := fun y : Int => 0 ≤ y ∧ y < 18446744073709551616) (fun _ => nat_rng64 _ (cn64_lt _ (near64_lt _ hx))) (fun _ => ?_)
  refine cond_all (P := fun y : Int => 0 ≤ y ∧ y < 18446744073709551616) (fun _ => nat_rng64 _ (rt64_lt _)) (fun _ => ?_)
  refine cond_all (P := fun y : Int => 0 ≤ y ∧ y < 18446744073709551616) (fun _ => nat_rng64 _ (ar64_lt _ fun r hr => fb64_lt _ _ _ _ hr)) (fun _ => ?_)
  refine cond_all (P := fun y : Int => 0 ≤ y ∧ y < 18446744073709551616) (fun _ => nat_rng64 _ (ar64_lt _ fun r hr => fb64_lt _ _ _ _ hr)) (fun _ => ?_)
  refine cond_all (P := fun y : Int => 0 ≤ y ∧ y < 18446744073709551616) (fun _ => nat_rng64 _ (ar64_lt _ fun r hr => fb64_lt _ _ _ _ hr)) (fun _ => ?_)
  refine cond_all (P := fun y : Int => 0 ≤ y ∧ y < 18446744073709551616) (fun _ => ?_) (fun _ => ?_)
  · refine cond_all (P := fun y : Int => 0 ≤ y ∧ y < 18446744073709551616) (fun _ => ?_) (fun _ => nat_rng64 _ (ar64_lt _ fun r hr => fb64_lt _ _ _ _ hr))
    exact cond_all (P := fun y : Int => 0 ≤ y ∧ y < 18446744073709551616) (fun _ => by decide) (fun _ => cond_all (P := fun y : Int => 0 ≤ y ∧ y < 18446744073709551616) (fun _ => by decide) (fun _ => wrap_u64_rng _))
  refine cond_all (P := fun y : Int => 0 ≤ y ∧ y < 18446744073709551616) (fun _ => ?_) (fun _ => ?_)
  · unfold least
    exact cond_all (P := fun y : Int => 0 ≤ y ∧ y < 18446744073709551616) (fun _ => by decide) (fun _ => cond_all (P := fun y : Int => 0 ≤ y ∧ y < 18446744073709551616) (fun _ => by decide) (fun _ => cond_all (P := fun y : Int => 0 ≤ y ∧ y < 18446744073709551616) (fun _ => wrap_u64_rng _) (fun _ => cond_all (P := fun y : Int => 0 ≤ y ∧ y < 18446744073709551616) (fun _ => ha) (fun _ => hb))))
  refine cond_all (P := fun y : Int => 0 ≤ y ∧ y < 18446744073709551616) (fun _ => ?_) (fun _ => wrap_u64_rng _)
  · unfold most
    exact cond_all (P := fun y : Int => 0 ≤ y ∧ y < 18446744073709551616) (fun _ => by decide) (fun _ => cond_all (P := fun y : Int => 0 ≤ y ∧ y < 18446744073709551616) (fun _ => by decide) (fun _ => cond_all (P := fun y : Int => 0 ≤ y ∧ y < 18446744073709551616) (fun _ => wrap_u64_rng _) (fun _ => cond_all (P := fun y : Int => 0 ≤ y ∧ y < 18446744073709551616) (fun _ => ha) (fun _ => hb))))

theorem tr1_sh (s : Nat) : Sh 4294967296 (tr1 s) := by
  unfold tr1
  refine cond_all (P := Sh 4294967296) (fun _ => Sh.err (by decide) (by decide) (by decide)) (fun _ => ?_)
  refine cond_all (P := Sh 4294967296) (fun hlo => ?_) (fun _ => Sh.err (by decide) (by decide) (by decide))
  refine cond_all (P := Sh 4294967296) (fun _ => Sh.err (by decide) (by decide) (by decide)) (fun hhi => ?_)
  exact Sh.ok (W3264_rng _)

theorem tr2_sh (s : Nat) : Sh 4294967296 (tr2 s) := by
  unfold tr2
  refine cond_all (P := Sh 4294967296) (fun _ => Sh.err (by decide) (by decide) (by decide)) (fun _ => ?_)
  refine cond_all (P := Sh 4294967296) (fun hlo => ?_) (fun _ => Sh.err (by decide) (by decide) (by decide))
  refine cond_all (P := Sh 4294967296) (fun _ => Sh.err (by decide) (by decide) (by decide)) (fun hhi => ?_)
  obtain ⟨q, a1, a2, a3⟩ := tr2_in s (lt_of_not hhi) (gt_of hlo)
  apply Sh.ok
  have e : cutV Ieee.single s = q := by unfold cutV; rw [a1]; rfl
  rw [e]; unfold W64
  rw [wrap_u64 (by omega) (by omega)]; omega

theorem tr3_sh (s : Nat) : Sh 4294967296 (tr3 s) := by
  unfold tr3
  refine cond_all (P := Sh 4294967296) (fun _ => Sh.err (by decide) (by decide) (by decide)) (fun _ => ?_)
  refine cond_all (P := Sh 4294967296) (fun hlo => ?_) (fun _ => Sh.err (by decide) (by decide) (by decide))
  refine cond_all (P := Sh 4294967296) (fun _ => Sh.err (by decide) (by decide) (by decide)) (fun hhi => ?_)
  exact Sh.ok (W3264_rng _)

theorem tr4_sh (s : Nat) : Sh 4294967296 (tr4 s) := by
  unfold tr4
  refine cond_all (P := Sh 4294967296) (fun _ => Sh.err (by decide) (by decide) (by decide)) (fun _ => ?_)
  refine cond_all (P := Sh 4294967296) (fun hlo => ?_) (fun _ => Sh.err (by decide) (by decide) (by decide))
  refine cond_all (P := Sh 4294967296) (fun _ => Sh.err (by decide) (by decide) (by decide)) (fun hhi => ?_)
  obtain ⟨q, a1, a2, a3⟩ := tr4_in s (lt_of_not hhi) (gt_of hlo)
  apply Sh.ok
  have e : cutV Ieee.double s = q := by unfold cutV; rw [a1]; rfl
  rw [e]; unfold W64
  rw [wrap_u64 (by omega) (by omega)]; omega

theorem tr5_sh (s : Nat) : Sh 18446744073709551616 (tr5 s) := by
  unfold tr5
  refine cond_all (P := Sh 18446744073709551616) (fun _ => Sh.err (by decide) (by decide) (by decide)) (fun _ => ?_)
  refine cond_all (P := Sh 18446744073709551616) (fun hlo => ?_) (fun _ => Sh.err (by decide) (by decide) (by decide))
  refine cond_all (P := Sh 18446744073709551616) (fun _ => Sh.err (by decide) (by decide) (by decide)) (fun hhi => ?_)
  exact Sh.ok (wrap_u64_rng _)

theorem tr6_sh (s : Nat) : Sh 18446744073709551616 (tr6 s) := by
  unfold tr6
  refine cond_all (P := Sh 18446744073709551616) (fun _ => Sh.err (by decide) (by decide) (by decide)) (fun _ => ?_)
  refine cond_all (P := Sh 18446744073709551616) (fun hlo => ?_) (fun _ => Sh.err (by decide) (by decide) (by decide))
  refine cond_all (P := Sh 18446744073709551616) (fun _ => Sh.err (by decide) (by decide) (by decide)) (fun hhi => ?_)
  exact cond_all (P := Sh 18446744073709551616) (fun _ => Sh.ok (wrap_u64_rng _)) (fun _ => Sh.ok (wrap_u64_rng _))

theorem tr7_sh (s : Nat) : Sh 18446744073709551616 (tr7 s) := by
  unfold tr7
  refine cond_all (P := Sh 18446744073709551616) (fun _ => Sh.err (by decide) (by decide) (by decide)) (fun _ => ?_)
  refine cond_all (P := Sh 18446744073709551616) (fun hlo => ?_) (fun _ => Sh.err (by decide) (by decide) (by decide))
  refine cond_all (P := Sh 18446744073709551616) (fun _ => Sh.err (by decide) (by decide) (by decide)) (fun hhi => ?_)
  exact Sh.ok (wrap_u64_rng _)

theorem tr8_sh (s : Nat) : Sh 18446744073709551616 (tr8 s) := by
  unfold tr8
  refine cond_all (P := Sh 18446744073709551616) (fun _ => Sh.err (by decide) (by decide) (by decide)) (fun _ => ?_)
  refine cond_all (P := Sh 18446744073709551616) (fun hlo => ?_) (fun _ => Sh.err (by decide) (by decide) (by decide))
  refine cond_all (P := Sh 18446744073709551616) (fun _ => Sh.err (by decide) (by decide) (by decide)) (fun hhi => ?_)
  exact cond_all (P := Sh 18446744073709551616) (fun _ => Sh.ok (wrap_u64_rng _)) (fun _ => Sh.ok (wrap_u64_rng _))

theorem W64_small (n : Nat) (h : n < 4294967296) : 0 ≤ W64 (n : Int) ∧ W64 (n : Int) < 4294967296 := by
  unfold W64; rw [wrap_u64 (by omega) (by omega)]; omega
theorem dem_sh (d : Nat) : Sh 4294967296 (dem d) := by
  unfold dem
  exact cond_all (P := Sh 4294967296) (fun _ => Sh.ok (by decide)) (fun _ => cond_all (P := Sh 4294967296) (fun _ => Sh.ok (by decide)) (fun _ => Sh.ok (W64_small _ (ar32_lt _ fun r hr => ftf32_lt _ r hr))))

theorem cv167_sh (a : Int) (ha : 0 ≤ a ∧ a < 18446744073709551616) : Sh 4294967296 (cv 167 a) := Sh.ok (W3264_rng _)
theorem cv168_sh (a : Int) (ha : 0 ≤ a ∧ a < 18446744073709551616) : Sh 4294967296 (cv 168 a) := tr1_sh _
theorem cv169_sh (a : Int) (ha : 0 ≤ a ∧ a < 18446744073709551616) : Sh 4294967296 (cv 169 a) := tr2_sh _
theorem cv170_sh (a : Int) (ha : 0 ≤ a ∧ a < 18446744073709551616) : Sh 4294967296 (cv 170 a) := tr3_sh _
theorem cv171_sh (a : Int) (ha : 0 ≤ a ∧ a < 18446744073709551616) : Sh 4294967296 (cv 171 a) := tr4_sh _
theorem cv172_sh (a : Int) (ha : 0 ≤ a ∧ a < 18446744073709551616) : Sh 18446744073709551616 (cv 172 a) := Sh.ok (wrap_u64_rng _)
theorem cv173_sh (a : Int) (ha : 0 ≤ a ∧ a < 18446744073709551616) : Sh 18446744073709551616 (cv 173 a) := (Sh.ok (W3264_rng _) : Sh 4294967296 _).mono (by decide)
theorem cv174_sh (a : Int) (ha : 0 ≤ a ∧ a < 18446744073709551616) : Sh 18446744073709551616 (cv 174 a) := tr5_sh _
theorem cv175_sh (a : Int) (ha : 0 ≤ a ∧ a < 18446744073709551616) : Sh 18446744073709551616 (cv 175 a) := tr6_sh _
theorem cv176_sh (a : Int) (ha : 0 ≤ a ∧ a < 18446744073709551616) : Sh 18446744073709551616 (cv 176 a) := tr7_sh _
theorem cv177_sh (a : Int) (ha : 0 ≤ a ∧ a < 18446744073709551616) : Sh 18446744073709551616 (cv 177 a) := tr8_sh _
theorem cv178_sh (a : Int) (ha : 0 ≤ a ∧ a < 18446744073709551616) : Sh 4294967296 (cv 178 a) := Sh.ok (W64_small _ (near_lt32 _))
theorem cv179_sh (a : Int) (ha : 0 ≤ a ∧ a < 18446744073709551616) : Sh 4294967296 (cv 179 a) := Sh.ok (W64_small _ (near_lt32 _))
theorem cv180_sh (a : Int) (ha : 0 ≤ a ∧ a < 18446744073709551616) : Sh 4294967296 (cv 180 a) := Sh.ok (W64_small _ (near_lt32 _))
theorem cv181_sh (a : Int) (ha : 0 ≤ a ∧ a < 18446744073709551616) : Sh 4294967296 (cv 181 a) := Sh.ok (W64_small _ (near_lt32 _))
theorem cv182_sh (a : Int) (ha : 0 ≤ a ∧ a < 18446744073709551616) : Sh 4294967296 (cv 182 a) := dem_sh _
theorem cv183_sh (a : Int) (ha : 0 ≤ a ∧ a < 18446744073709551616) : Sh 18446744073709551616 (cv 183 a) := Sh.ok (nat_rng64 _ (near_lt64 _))
theorem cv184_sh (a : Int) (ha : 0 ≤ a ∧ a < 18446744073709551616) : Sh 18446744073709551616 (cv 184 a) := Sh.ok (nat_rng64 _ (near_lt64 _))
theorem cv185_sh (a : Int) (ha : 0 ≤ a ∧ a < 18446744073709551616) : Sh 18446744073709551616 (cv 185 a) := Sh.ok (nat_rng64 _ (near_lt64 _))
theorem cv186_sh (a : Int) (ha : 0 ≤ a ∧ a < 18446744073709551616) : Sh 18446744073709551616 (cv 186 a) := Sh.ok (nat_rng64 _ (near_lt64 _))
theorem cv187_sh (a : Int) (ha : 0 ≤ a ∧ a < 18446744073709551616) : Sh 18446744073709551616 (cv 187 a) := Sh.ok (nat_rng64 _ (ar64_lt _ fun r hr => ftf64_lt _ r hr))
theorem cv188_sh (a : Int) (ha : 0 ≤ a ∧ a < 18446744073709551616) : Sh 4294967296 (cv 188 a) := Sh.ok (W3264_rng _)
theorem cv189_sh (a : Int) (ha : 0 ≤ a ∧ a < 18446744073709551616) : Sh 18446744073709551616 (cv 189 a) := Sh.ok ha
theorem cv190_sh (a : Int) (ha : 0 ≤ a ∧ a < 18446744073709551616) : Sh 4294967296 (cv 190 a) := Sh.ok (W3264_rng _)
theorem cv191_sh (a : Int) (ha : 0 ≤ a ∧ a < 18446744073709551616) : Sh 18446744073709551616 (cv 191 a) := Sh.ok ha
theorem cv168_low (a a' : Int) (h : IntKind.wrap .u32 a = IntKind.wrap .u32 a') : cv 168 a = cv 168 a' := by
  show tr1 (IntKind.wrap .u32 a).toNat = tr1 (IntKind.wrap .u32 a').toNat
  rw [h]
theorem cv169_low (a a' : Int) (h : IntKind.wrap .u32 a = IntKind.wrap .u32 a') : cv 169 a = cv 169 a' := by
  show tr2 (IntKind.wrap .u32 a).toNat = tr2 (IntKind.wrap .u32 a').toNat
  rw [h]
theorem cv172_low (a a' : Int) (h : IntKind.wrap .u32 a = IntKind.wrap .u32 a') : cv 172 a = cv 172 a' := by
  show (IntKind.wrap .u64 (IntKind.wrap .i64 (IntKind.wrap .i32 (IntKind.wrap .u32 a))), (0 : Int)) = (IntKind.wrap .u64 (IntKind.wrap .i64 (IntKind.wrap .i32 (IntKind.wrap .u32 a'))), (0 : Int))
  rw [h]
theorem cv173_low (a a' : Int) (h : IntKind.wrap .u32 a = IntKind.wrap .u32 a') : cv 173 a = cv 173 a' := by
  show (IntKind.wrap .u64 (IntKind.wrap .u32 a), (0 : Int)) = (IntKind.wrap .u64 (IntKind.wrap .u32 a'), (0 : Int))
  rw [h]
theorem cv174_low (a a' : Int) (h : IntKind.wrap .u32 a = IntKind.wrap .u32 a') : cv 174 a = cv 174 a' := by
  show tr5 (IntKind.wrap .u32 a).toNat = tr5 (IntKind.wrap .u32 a').toNat
  rw [h]
theorem cv175_low (a a' : Int) (h : IntKind.wrap .u32 a = IntKind.wrap .u32 a') : cv 175 a = cv 175 a' := by
  show tr6 (IntKind.wrap .u32 a).toNat = tr6 (IntKind.wrap .u32 a').toNat
  rw [h]
theorem cv178_low (a a' : Int) (h : IntKind.wrap .u32 a = IntKind.wrap .u32 a') : cv 178 a = cv 178 a' := by
  show (W64 ((FloatKind.nearest .f32 (IntKind.wrap .i32 (IntKind.wrap .u32 a)) : Nat) : Int), (0 : Int)) = (W64 ((FloatKind.nearest .f32 (IntKind.wrap .i32 (IntKind.wrap .u32 a')) : Nat) : Int), (0 : Int))
  rw [h]
theorem cv179_low (a a' : Int) (h : IntKind.wrap .u32 a = IntKind.wrap .u32 a') : cv 179 a = cv 179 a' := by
  show (W64 ((FloatKind.nearest .f32 (IntKind.wrap .u32 a) : Nat) : Int), (0 : Int)) = (W64 ((FloatKind.nearest .f32 (IntKind.wrap .u32 a') : Nat) : Int), (0 : Int))
  rw [h]
theorem cv187_low (a a' : Int) (h : IntKind.wrap .u32 a = IntKind.wrap .u32 a') : cv 187 a = cv 187 a' := by
  show (((ar64 (floatToFloatBits .f32 (IntKind.wrap .u32 a).toNat .f64) : Nat) : Int), (0 : Int)) = (((ar64 (floatToFloatBits .f32 (IntKind.wrap .u32 a').toNat .f64) : Nat) : Int), (0 : Int))
  rw [h]
theorem cv188_low (a a' : Int) (h : IntKind.wrap .u32 a = IntKind.wrap .u32 a') : cv 188 a = cv 188 a' := by
  show (IntKind.wrap .u64 (IntKind.wrap .u32 a), (0 : Int)) = (IntKind.wrap .u64 (IntKind.wrap .u32 a'), (0 : Int))
  rw [h]
theorem cv190_low (a a' : Int) (h : IntKind.wrap .u32 a = IntKind.wrap .u32 a') : cv 190 a = cv 190 a' := by
  show (IntKind.wrap .u64 (IntKind.wrap .u32 a), (0 : Int)) = (IntKind.wrap .u64 (IntKind.wrap .u32 a'), (0 : Int))
  rw [h]
theorem cv183_low (a a' : Int) (h : IntKind.wrap .u32 a = IntKind.wrap .u32 a') : cv 183 a = cv 183 a' := by
  show (((FloatKind.nearest .f64 (IntKind.wrap .i32 (IntKind.wrap .u32 a)) : Nat) : Int), (0 : Int)) = (((FloatKind.nearest .f64 (IntKind.wrap .i32 (IntKind.wrap .u32 a')) : Nat) : Int), (0 : Int))
  rw [h]
theorem cv184_low (a a' : Int) (h : IntKind.wrap .u32 a = IntKind.wrap .u32 a') : cv 184 a = cv 184 a' := by
  show (((FloatKind.nearest .f64 (IntKind.wrap .u32 a) : Nat) : Int), (0 : Int)) = (((FloatKind.nearest .f64 (IntKind.wrap .u32 a') : Nat) : Int), (0 : Int))
  rw [h]

end Go.Proofs.Qxb6500317aGreat.U
