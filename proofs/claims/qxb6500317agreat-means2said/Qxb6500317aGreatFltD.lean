/-
  Floats: where no NaN comes of it; nearest.
-/
import Derived.Test.Qxb6500317aGreatFltC
set_option linter.unusedSimpArgs false
set_option linter.unusedVariables false
set_option maxRecDepth 100000
namespace Go.Proofs.Qxb6500317aGreat.U
open Go Go.Vc

theorem isNaN_rung (f : Ieee.Format) (hb : f.binade ≤ f.infRung) (x : Nat) : (f.read x).isNaN = decide (f.infRung < x % f.signWeight) := by
  unfold Ieee.Format.read
  simp only
  split
  · rw [decide_eq_false (by omega)]; rfl
  · split
    · rw [decide_eq_false (by omega)]; rfl
    · split
      · rw [decide_eq_false (by omega)]; rfl
      · rw [decide_eq_true (by omega)]; rfl

theorem word_rung (f : Ieee.Format) (s : Bool) (r : Nat) (hr : r < f.signWeight) : f.word s r % f.signWeight = r := by
  unfold Ieee.Format.word
  split
  · rw [Nat.add_mod_left, Nat.mod_eq_of_lt hr]
  · exact Nat.mod_eq_of_lt hr

theorem write_not_nan (f : Ieee.Format) (hb : f.binade ≤ f.infRung) (d : Ieee.Datum) (hd : d.isNaN = false) : (f.read (f.write d)).isNaN = false := by
  have hi := f.infRung_lt
  rw [isNaN_rung f hb]
  apply decide_eq_false
  cases d with
  | nan s t => simp [Ieee.Datum.isNaN] at hd
  | infinity s => rw [Ieee.Format.write, word_rung f s _ hi]; omega
  | number s m i =>
    rw [Ieee.Format.write]
    unfold Ieee.Format.nearest
    simp only
    split
    · rw [word_rung f s 0 (by omega)]; omega
    · rw [word_rung f s _ (Nat.lt_of_le_of_lt (Nat.min_le_right _ _) hi)]
      have := Nat.min_le_right ((max (i + ↑m.log2 - ↑f.fractionBits) f.leastPlace - f.leastPlace).toNat * f.binade + Ieee.Toward.even.cut s (m <<< (i - max (i + ↑m.log2 - ↑f.fractionBits) f.leastPlace).toNat) (max (i + ↑m.log2 - ↑f.fractionBits) f.leastPlace - i).toNat) f.infRung
      omega

/-- A sum with a finite number is a NaN only of a NaN. -/
theorem sum_finite (d : Ieee.Datum) (hd : d.isNaN = false) (s : Bool) (m : Nat) (i : Int) : ∃ r, d.sum (.number s m i) = some r ∧ r.isNaN = false := by
  cases d with
  | nan s t => simp [Ieee.Datum.isNaN] at hd
  | infinity t => exact ⟨_, rfl, rfl⟩
  | number t n j => exact ⟨_, rfl, rfl⟩

theorem add_finite (f : Ieee.Format) (hb : f.binade ≤ f.infRung) (x c : Nat) (hx : (f.read x).isNaN = false) (s : Bool) (m : Nat) (i : Int) (hc : f.read c = .number s m i) : ∃ r, f.add x c = some r ∧ (f.read r).isNaN = false := by
  obtain ⟨r, h1, h2⟩ := sum_finite (f.read x) hx s m i
  exact ⟨f.write r, by unfold Ieee.Format.add; rw [hc, h1]; rfl, write_not_nan f hb r h2⟩
theorem sub_finite (f : Ieee.Format) (hb : f.binade ≤ f.infRung) (x c : Nat) (hx : (f.read x).isNaN = false) (s : Bool) (m : Nat) (i : Int) (hc : f.read c = .number s m i) : ∃ r, f.sub x c = some r ∧ (f.read r).isNaN = false := by
  obtain ⟨r, h1, h2⟩ := sum_finite (f.read x) hx (!s) m i
  refine ⟨f.write r, ?_, write_not_nan f hb r h2⟩
  unfold Ieee.Format.sub
  rw [hc]
  show ((f.read x).sum (.number (!s) m i)).map f.write = _
  rw [h1]; rfl

theorem single_bi : Ieee.single.binade ≤ Ieee.single.infRung := by decide
theorem double_bi : Ieee.double.binade ≤ Ieee.double.infRung := by decide

theorem neg32_nan (x : Nat) : (Ieee.single.read (Op.negFloat .f32 x)).isNaN = (Ieee.single.read x).isNaN := by
  rw [isNaN_rung _ single_bi, isNaN_rung _ single_bi]
  have h1 : Ieee.single.signWeight = 2 ^ 31 := by decide
  have e : Op.negFloat .f32 x = x ^^^ 2 ^ 31 := rfl
  rw [h1, e, Nat.xor_mod_two_pow]
  simp
theorem neg64_nan (x : Nat) : (Ieee.double.read (Op.negFloat .f64 x)).isNaN = (Ieee.double.read x).isNaN := by
  rw [isNaN_rung _ double_bi, isNaN_rung _ double_bi]
  have h1 : Ieee.double.signWeight = 2 ^ 63 := by decide
  have e : Op.negFloat .f64 x = x ^^^ 2 ^ 63 := rfl
  rw [h1, e, Nat.xor_mod_two_pow]
  simp

/-! ### nearest -/
theorem order_not_nan (f : Ieee.Format) (x c : Nat) (o : Ordering) (h : f.order x c = some o) : (f.read x).isNaN = false := by
  unfold Ieee.Format.order at h
  cases hx : f.read x with
  | nan s t => rw [hx] at h; simp [Ieee.Datum.order] at h
  | infinity s => rfl
  | number s m i => rfl

theorem guarded_run {P : Program} (op : BinOp) (t : TypeId) (x y : Operand) (k : FloatKind) (a b r : Nat) (w : World) (h : floatBits op k a b = some r) :
    Sem.run P ((do eqGuard op t x y (.float k a) (.float k b); Go.binOp op t (.float k a) (.float k b))) w = .ok (.float k r) w := by
  rw [Sem.run_bind, eqGuard_float, Result.andThen_ok]
  exact run_float_arith w op t k a b r h

def up32 (x : Nat) : Nat := (Ieee.single.sub ((Ieee.single.add x 1258291200).getD 0) 1258291200).getD 0
def near32 (x : Nat) : Nat :=
  cond (Ieee.single.order x 3405774848 == some .gt) (cond (Ieee.single.order x 1258291200 == some .lt)
    (cond ((bAnd .u32 (x : Int) 2147483648) != (0 : Int)) (Op.negFloat .f32 (up32 (Op.negFloat .f32 x))) (up32 x)) x) x

theorem up32_ok (x : Nat) (hx : (Ieee.single.read x).isNaN = false) : ∃ r1 r2, floatBits .add .f32 x 1258291200 = some r1 ∧ floatBits .sub .f32 r1 1258291200 = some r2 ∧ up32 x = r2 := by
  have hc : Ieee.single.read 1258291200 = .number false 8388608 0 := by decide
  obtain ⟨r1, h1, h2⟩ := add_finite Ieee.single single_bi x 1258291200 hx _ _ _ hc
  obtain ⟨r2, h3, h4⟩ := sub_finite Ieee.single single_bi r1 1258291200 h2 _ _ _ hc
  refine ⟨r1, r2, h1, h3, ?_⟩
  unfold up32; rw [h1, Option.getD_some, h3, Option.getD_some]

theorem near32_spec (x : Nat) (w : World) : Runs Tryz.prog num_near32.id #[.float .f32 x] w fun v w' => v = .float .f32 (near32 x) ∧ w' = w := by
  refine num_near32.enter _ _ _ ?_
  unfold num_near32.V
  have e : ∀ a b, Ieee.Format.order (FloatKind.format .f32) a b = Ieee.single.order a b := fun a b => rfl
  simp only [e]
  have out : (near32 x = x) → num_near32.L1 x true (fun v w' => v = .float .f32 (near32 x) ∧ w' = w) w := fun h => by
    refine num_near32.step1 _ _ _ _ ?_
    unfold num_near32.V1
    exact cond_true' rfl ⟨by rw [h], rfl⟩
  refine cond_intro (fun h1 => ?_) (fun h1 => out (by unfold near32; rw [h1]; rfl))
  by_cases h2 : (Ieee.single.order x 1258291200 == some .lt) = true
  · rw [h2]
    have hn := order_not_nan Ieee.single x 1258291200 .lt (by simpa using h2)
    refine num_near32.step1 _ _ _ _ ?_
    unfold num_near32.V1
    refine cond_false' rfl ?_
    refine ⟨_, _, run_f32bits x w, ?_⟩
    refine cond_intro (fun h3 => ?_) (fun h3 => ?_)
    · obtain ⟨r1, r2, q1, q2, q3⟩ := up32_ok (Op.negFloat .f32 x) (by rw [neg32_nan]; exact hn)
      refine ⟨_, _, guarded_run _ _ _ _ _ _ _ _ w q1, _, _, guarded_run _ _ _ _ _ _ _ _ w q2, ?_, rfl⟩
      unfold near32; rw [h1, h2, h3, q3]; rfl
    · obtain ⟨r1, r2, q1, q2, q3⟩ := up32_ok x hn
      refine ⟨_, _, guarded_run _ _ _ _ _ _ _ _ w q1, _, _, guarded_run _ _ _ _ _ _ _ _ w q2, ?_, rfl⟩
      unfold near32; rw [h1, h2, h3, q3]; rfl
  · have h2' : (Ieee.single.order x 1258291200 == some .lt) = false := by simpa using h2
    rw [h2']
    exact out (by unfold near32; rw [h1, h2']; rfl)

def up64 (x : Nat) : Nat := (Ieee.double.sub ((Ieee.double.add x 4841369599423283200).getD 0) 4841369599423283200).getD 0
def near64 (x : Nat) : Nat :=
  cond (Ieee.double.order x 14064741636278059008 == some .gt) (cond (Ieee.double.order x 4841369599423283200 == some .lt)
    (cond ((bAnd .u64 (x : Int) 9223372036854775808) != (0 : Int)) (Op.negFloat .f64 (up64 (Op.negFloat .f64 x))) (up64 x)) x) x

theorem up64_ok (x : Nat) (hx : (Ieee.double.read x).isNaN = false) : ∃ r1 r2, floatBits .add .f64 x 4841369599423283200 = some r1 ∧ floatBits .sub .f64 r1 4841369599423283200 = some r2 ∧ up64 x = r2 := by
  have hc : Ieee.double.read 4841369599423283200 = .number false 4503599627370496 0 := by decide
  obtain ⟨r1, h1, h2⟩ := add_finite Ieee.double double_bi x 4841369599423283200 hx _ _ _ hc
  obtain ⟨r2, h3, h4⟩ := sub_finite Ieee.double double_bi r1 4841369599423283200 h2 _ _ _ hc
  refine ⟨r1, r2, h1, h3, ?_⟩
  unfold up64; rw [h1, Option.getD_some, h3, Option.getD_some]

theorem near64_spec (x : Nat) (w : World) : Runs Tryz.prog num_near64.id #[.float .f64 x] w fun v w' => v = .float .f64 (near64 x) ∧ w' = w := by
  refine num_near64.enter _ _ _ ?_
  unfold num_near64.V
  have e : ∀ a b, Ieee.Format.order (FloatKind.format .f64) a b = Ieee.double.order a b := fun a b => rfl
  simp only [e]
  have out : (near64 x = x) → num_near64.L1 x true (fun v w' => v = .float .f64 (near64 x) ∧ w' = w) w := fun h => by
    refine num_near64.step1 _ _ _ _ ?_
    unfold num_near64.V1
    exact cond_true' rfl ⟨by rw [h], rfl⟩
  refine cond_intro (fun h1 => ?_) (fun h1 => out (by unfold near64; rw [h1]; rfl))
  by_cases h2 : (Ieee.double.order x 4841369599423283200 == some .lt) = true
  · rw [h2]
    have hn := order_not_nan Ieee.double x 4841369599423283200 .lt (by simpa using h2)
    refine num_near64.step1 _ _ _ _ ?_
    unfold num_near64.V1
    refine cond_false' rfl ?_
    refine ⟨_, _, run_f64bits x w, ?_⟩
    refine cond_intro (fun h3 => ?_) (fun h3 => ?_)
    · obtain ⟨r1, r2, q1, q2, q3⟩ := up64_ok (Op.negFloat .f64 x) (by rw [neg64_nan]; exact hn)
      refine ⟨_, _, guarded_run _ _ _ _ _ _ _ _ w q1, _, _, guarded_run _ _ _ _ _ _ _ _ w q2, ?_, rfl⟩
      unfold near64; rw [h1, h2, h3, q3]; rfl
    · obtain ⟨r1, r2, q1, q2, q3⟩ := up64_ok x hn
      refine ⟨_, _, guarded_run _ _ _ _ _ _ _ _ w q1, _, _, guarded_run _ _ _ _ _ _ _ _ w q2, ?_, rfl⟩
      unfold near64; rw [h1, h2, h3, q3]; rfl
  · have h2' : (Ieee.double.order x 4841369599423283200 == some .lt) = false := by simpa using h2
    rw [h2']
    exact out (by unfold near64; rw [h1, h2']; rfl)

end Go.Proofs.Qxb6500317aGreat.U
