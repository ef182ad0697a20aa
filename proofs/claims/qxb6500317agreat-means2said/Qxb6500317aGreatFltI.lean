/-
  Floats: the operators of float32 and of float64 as plain functions.
-/
import Derived.Test.Qxb6500317aGreatFltH
set_option linter.unusedSimpArgs false
set_option linter.unusedVariables false
set_option maxRecDepth 100000
namespace Go.Proofs.Qxb6500317aGreat.U
open Go Go.Vc

theorem cond_q {α : Type} (Q : α → Prop) {c : Bool} {x y : α} {A B : Prop} (hR : Q (cond c x y)) (ht : c = true → Q x → A) (hf : c = false → Q y → B) : cond c A B := by
  cases c with
  | true => exact ht rfl hR
  | false => exact hf rfl hR

theorem leave32 {x c : Nat} {R : Value → World → Prop} {w : World} (hc : cn32 x = c) (h : R (.int .u32 (c : Int)) w) : Runs Tryz.prog num_canon32.id #[.float .f32 x] w fun r w' => ∃ y : Int, r = .int .u32 y ∧ R (.int .u32 y) w' := by
  refine (canon32_spec x w).mono ?_
  rintro v w1 ⟨rfl, rfl⟩
  exact ⟨_, rfl, by rw [hc]; exact h⟩
theorem leave64 {x c : Nat} {R : Value → World → Prop} {w : World} (hc : cn64 x = c) (h : R (.int .u64 (c : Int)) w) : Runs Tryz.prog num_canon64.id #[.float .f64 x] w fun r w' => ∃ y : Int, r = .int .u64 y ∧ R (.int .u64 y) w' := by
  refine (canon64_spec x w).mono ?_
  rintro v w1 ⟨rfl, rfl⟩
  exact ⟨_, rfl, by rw [hc]; exact h⟩

/-! ### demote as it runs -/
theorem run_demote (x : Nat) (hx : (Ieee.double.read x).isNaN = true ∨ ∃ r, floatToFloatBits .f64 x .f32 = some r) (w : World) : ∃ r w', Sem.run Tryz.prog (Go.convert T_float64 T_float32 (.float .f64 x)) w = .ok (.float .f32 r) w' ∧ Same [] w.heap.size w w' ∧ cn32 r = ar32 (floatToFloatBits .f64 x .f32) := by
  rcases hx with hn | ⟨r, hr⟩
  · obtain ⟨s, t, hd⟩ : ∃ s t, FloatKind.decode .f64 x = .nan s t := by
      cases h : Ieee.double.read x with
      | nan s t => exact ⟨s, t, h⟩
      | infinity s => rw [h] at hn; cases hn
      | number s m i => rw [h] at hn; cases hn
    have hs : Tryz.prog.underlying T_float64 = some (.float .f64) := by kernel_rfl
    have hd2 : Tryz.prog.underlying T_float32 = some (.float .f32) := by kernel_rfl
    refine ⟨Question.cut (.nanConv .f32 x) (w.tape w.drawn (.nanConv .f32 x)), w.drew, ?_, (Same.refl _ _ _).drew, ?_⟩
    · simp [Go.convert, run_underlying hs, run_underlying hd2, Conv.floatToFloat, hd, Question.forced]
    · have e : floatToFloatBits .f64 x .f32 = none := by
        unfold floatToFloatBits; rw [if_neg (by decide), hd]
      rw [e]
      show cn32 _ = 2143289344
      unfold cn32
      have := nan32_read (w.tape w.drawn (.nanConv .f32 x))
      rw [if_pos]
      exact this
  · refine ⟨r, w, run_convert_float_float w T_float64 T_float32 .f64 .f32 x r (by kernel_rfl) (by kernel_rfl) hr, Same.refl _ _ _, ?_⟩
    rw [hr]; rfl

/-- The root of a float32: a NaN, or it fits. -/
theorem root32_fits (x p q : Nat) (hp : floatToFloatBits .f32 x .f64 = some p) (hq : Ieee.double.sqrt p = some q) : ∃ r, floatToFloatBits .f64 q .f32 = some r := by
  have h3 : Ieee.double.leastPlace = -1074 := by decide
  have h4 : Ieee.double.fractionBits = 52 := rfl
  unfold Ieee.Format.sqrt at hq
  cases hd : Ieee.double.read p with
  | nan s t => rw [hd] at hq; simp [Ieee.Datum.root] at hq
  | infinity s =>
    rw [hd] at hq
    cases s with
    | true => simp [Ieee.Datum.root] at hq
    | false =>
      simp [Ieee.Datum.root] at hq
      subst hq
      exact ⟨_, rfl⟩
  | number s m i =>
    rw [hd] at hq
    -- the operand
    have hpb : i + m.log2 ≤ 128 := by
      unfold floatToFloatBits at hp
      rw [if_neg (by decide)] at hp
      have hp' : (match Ieee.single.read x with | .nan _ _ => none | .infinity s => some (FloatKind.encode .f64 (.infinity s)) | .number s m e => if (FloatKind.decode .f64 (FloatKind.encode .f64 (.number s m e))).isInfinity then none else some (FloatKind.encode .f64 (.number s m e))) = some p := hp
      cases hx : Ieee.single.read x with
      | nan s t => rw [hx] at hp'; cases hp'
      | infinity s' =>
        rw [hx] at hp'
        simp only [Option.some.injEq] at hp'
        subst hp'
        have : Ieee.double.read (FloatKind.encode .f64 (.infinity s')) = .infinity s' := by cases s' <;> decide
        rw [this] at hd; cases hd
      | number s' m' i' =>
        rw [hx] at hp'
        simp only at hp'
        split at hp'
        · cases hp'
        · simp only [Option.some.injEq] at hp'
          obtain ⟨b1, b2, b3⟩ := single_bd x s' m' i' hx
          have hl := log2_lt m' 23 (by omega)
          have hd' : Ieee.double.read (Ieee.double.write (.number s' m' i')) = .number s m i := by rw [← hd, ← hp']; rfl
          exact write_top Ieee.double s' s m' m i' i 127 (by rw [h3, h4]; decide) (by omega) hd'
    by_cases hm : m = 0
    · subst hm
      have hr : (Ieee.Datum.number s 0 i).root (Ieee.double.fractionBits + 2) = some (.number s 0 i) := by simp [Ieee.Datum.root]
      rw [hr] at hq
      simp only [Option.map_some, Option.some.injEq] at hq
      subst hq
      have : ∀ i, Ieee.double.write (.number s 0 i) = Ieee.double.word s 0 := fun i => by rw [write_number, if_pos rfl]
      rw [this]
      cases s with
      | false => exact ⟨0, rfl⟩
      | true => exact ⟨2147483648, rfl⟩
    · cases hr : (Ieee.Datum.number s m i).root (Ieee.double.fractionBits + 2) with
      | none => rw [hr] at hq; cases hq
      | some d =>
        rw [hr] at hq
        simp only [Option.map_some, Option.some.injEq] at hq
        subst hq
        have hnum : ∃ t n j, d = .number t n j := by
          unfold Ieee.Datum.root at hr
          simp only [if_neg hm] at hr
          split at hr
          · cases hr
          · simp only [Option.some.injEq] at hr; exact ⟨_, _, _, hr.symm⟩
        obtain ⟨t, n, j, rfl⟩ := hnum
        have ht := root_top _ s t m n i j hm hr
        apply demote_some
        · exact write_not_nan Ieee.double double_bi _ rfl
        · intro s2 m2 i2 h2
          apply demote_low
          have := write_top Ieee.double t s2 n m2 j i2 65 (by rw [h3, h4]; decide) (by omega) h2
          omega

def rt32 (x : Nat) : Nat := ar32 (((floatToFloatBits .f32 x .f64).bind fun p => Ieee.double.sqrt p).bind fun q => floatToFloatBits .f64 q .f32)


theorem nan_demote {x : Nat} (h : (Ieee.double.read x).isNaN = true) : floatToFloatBits .f64 x .f32 = none := by
  unfold floatToFloatBits
  rw [if_neg (by decide)]
  have : FloatKind.decode .f64 x = Ieee.double.read x := rfl
  rw [this]
  cases hd : Ieee.double.read x with
  | nan s t => rfl
  | infinity s => rw [hd] at h; cases h
  | number s m i => rw [hd] at h; cases h

theorem nan_sqrt {x : Nat} (h : (Ieee.double.read x).isNaN = true) : Ieee.double.sqrt x = none := by
  unfold Ieee.Format.sqrt
  cases hd : Ieee.double.read x with
  | nan s t => rfl
  | infinity s => rw [hd] at h; cases h
  | number s m i => rw [hd] at h; cases h

theorem root32_walk {R : Value → World → Prop} (x : Nat) (w : World) (hQ : ∀ w', Same [] w.heap.size w w' → R (.int .u32 ((rt32 x : Nat) : Int)) w') :
    ∃ x33 : Nat, ∃ w32, Sem.run Tryz.prog (Go.convert T_float32 T_float64 (.float .f32 x)) w = .ok (.float .f64 x33) w32 ∧ (Runs Tryz.prog math_Sqrt.id #[(.float .f64 x33)] w32 fun r34 w35 => (∃ x36 : Nat, (r34 = (.float .f64 x36) ∧ (∃ x38 : Nat, ∃ w37, Sem.run Tryz.prog (Go.convert T_float64 T_float32 (.float .f64 x36)) w35 = .ok (.float .f32 x38) w37 ∧ (Runs Tryz.prog num_canon32.id #[(.float .f32 x38)] w37 fun r39 w40 => (∃ x41 : Int, (r39 = (.int .u32 x41) ∧ (R (.int .u32 x41) w40)))))))) := by
  obtain ⟨p, w1, h1, hS1, hp⟩ := run_promote x w
  refine ⟨p, w1, h1, ?_⟩
  refine (Sqrt_spec p w1).mono ?_
  rintro v w2 ⟨q, rfl, hS2, hq⟩
  have fin : (∃ r, floatToFloatBits .f64 q .f32 = some r) ∨ (Ieee.double.read q).isNaN = true := by
    cases hp0 : floatToFloatBits .f32 x .f64 with
    | none =>
      rw [hp0] at hp
      right
      rw [nan_sqrt hp.1] at hq
      exact hq
    | some p' =>
      rw [hp0] at hp
      simp only at hp
      subst hp
      cases hq0 : Ieee.double.sqrt p with
      | none => rw [hq0] at hq; exact .inr hq
      | some q' =>
        rw [hq0] at hq
        simp only at hq
        subst hq
        exact .inl (root32_fits x p q hp0 hq0)
  obtain ⟨r, w3, h3, hS3, hc⟩ := run_demote q fin.symm w2
  refine ⟨q, rfl, r, w3, h3, leave32 ?_ (hQ w3 ?_)⟩
  · rw [hc]
    unfold rt32
    cases hp0 : floatToFloatBits .f32 x .f64 with
    | none =>
      rw [hp0] at hp
      rw [nan_sqrt hp.1] at hq
      rw [nan_demote hq]
      rfl
    | some p' =>
      rw [hp0] at hp
      simp only at hp
      subst hp
      cases hq0 : Ieee.double.sqrt p with
      | none =>
        rw [hq0] at hq
        rw [nan_demote hq]
        simp only [Option.bind_some, hq0]
        rfl
      | some q' =>
        rw [hq0] at hq
        simp only at hq
        subst hq
        simp only [Option.bind_some, hq0]
  · exact (hS1.trans (hS2.mono hS1.size (by simp))).trans (hS3.mono (Nat.le_trans hS1.size hS2.size) (by simp))

theorem root64_walk {R : Value → World → Prop} (x : Nat) (w : World) (hQ : ∀ w', Same [] w.heap.size w w' → R (.int .u64 ((ar64 (Ieee.double.sqrt x) : Nat) : Int)) w') :
    Runs Tryz.prog math_Sqrt.id #[.float .f64 x] w fun r w' => ∃ y : Nat, r = .float .f64 y ∧ (Runs Tryz.prog num_canon64.id #[.float .f64 y] w' fun r2 w2 => ∃ z : Int, r2 = .int .u64 z ∧ R (.int .u64 z) w2) := by
  refine (Sqrt_spec x w).mono ?_
  rintro v w1 ⟨r, rfl, hS, hq⟩
  refine ⟨r, rfl, leave64 ?_ (hQ w1 hS)⟩
  cases hq0 : Ieee.double.sqrt x with
  | none =>
    rw [hq0] at hq
    simp only at hq
    show cn64 r = 9221120237041090560
    unfold cn64; rw [if_pos hq]
  | some q =>
    rw [hq0] at hq
    simp only at hq
    subst hq; rfl

def fl32 (op a b : Int) : Int :=
  cond (op == (139 : Int)) (bAndNot .u32 a 2147483648)
  (cond (op == (140 : Int)) (bXor .u32 a 2147483648)
  (cond (op == (141 : Int)) ((ceil32 a.toNat : Nat) : Int)
  (cond (op == (142 : Int)) ((floor32 a.toNat : Nat) : Int)
  (cond (op == (143 : Int)) ((cn32 (cut32 a.toNat) : Nat) : Int)
  (cond (op == (144 : Int)) ((cn32 (near32 a.toNat) : Nat) : Int)
  (cond (op == (145 : Int)) ((rt32 a.toNat : Nat) : Int)
  (cond (op == (146 : Int)) ((ar32 (floatBits .add .f32 a.toNat b.toNat) : Nat) : Int)
  (cond (op == (147 : Int)) ((ar32 (floatBits .sub .f32 a.toNat b.toNat) : Nat) : Int)
  (cond (op == (148 : Int)) ((ar32 (floatBits .mul .f32 a.toNat b.toNat) : Nat) : Int)
  (cond (op == (149 : Int))
    (cond (Ieee.single.order b.toNat 0 == some .eq)
      (cond (Ieee.single.order a.toNat a.toNat != some .eq) 2143289344
        (cond (Ieee.single.order a.toNat 0 == some .eq) 2143289344 (bOr .u32 2139095040 (bAnd .u32 (bXor .u32 a b) 2147483648))))
      ((ar32 (floatBits .quo .f32 a.toNat b.toNat) : Nat) : Int))
  (cond (op == (150 : Int)) (least Ieee.single .u32 2143289344 a b)
  (cond (op == (151 : Int)) (most Ieee.single .u32 2143289344 a b)
  (bOr .u32 (bAndNot .u32 a 2147483648) (bAnd .u32 b 2147483648))))))))))))))

theorem float32s_spec (op a b : Int) (w : World) : Runs Tryz.prog num_float32s.id #[.int .i64 op, .int .u32 a, .int .u32 b] w fun v w' => v = .int .u32 (fl32 op a b) ∧ Same [] w.heap.size w w' := by
  refine num_float32s.enter _ _ _ _ _ ?_
  have H : ∀ R : Value → World → Prop, (∀ w', Same [] w.heap.size w w' → R (.int .u32 (fl32 op a b)) w') → num_float32s.V op a b R w := by
    intro R hR
    unfold num_float32s.V
    have e : ∀ a b, Ieee.Format.order (FloatKind.format .f32) a b = Ieee.single.order a b := fun a b => rfl
    simp only [e]
    refine ⟨_, _, run_f32from a w, _, _, run_f32from b w, ?_⟩
    let Q : Int → Prop := fun r => ∀ w', Same [] w.heap.size w w' → R (.int .u32 r) w'
    have hQ : Q (fl32 op a b) := hR
    unfold fl32 at hQ
    clear hR
    refine cond_q Q hQ (fun _ hQ => hQ w (Same.refl _ _ _)) (fun _ hQ => ?_)
    refine cond_q Q hQ (fun _ hQ => hQ w (Same.refl _ _ _)) (fun _ hQ => ?_)
    refine cond_q Q hQ (fun _ hQ => ?_) (fun _ hQ => ?_)
    · refine (ceil32_spec a.toNat w).mono ?_
      rintro v w1 ⟨r, rfl, hc, hS⟩
      exact ⟨_, rfl, leave32 hc (hQ w1 hS)⟩
    refine cond_q Q hQ (fun _ hQ => ?_) (fun _ hQ => ?_)
    · refine (floor32_spec a.toNat w).mono ?_
      rintro v w1 ⟨r, rfl, hc, hS⟩
      exact ⟨_, rfl, leave32 hc (hQ w1 hS)⟩
    refine cond_q Q hQ (fun _ hQ => ?_) (fun _ hQ => ?_)
    · refine (cut32_spec a.toNat w).mono ?_
      rintro v w1 ⟨rfl, rfl⟩
      exact ⟨_, rfl, leave32 rfl (hQ w1 (Same.refl _ _ _))⟩
    refine cond_q Q hQ (fun _ hQ => ?_) (fun _ hQ => ?_)
    · refine (near32_spec a.toNat w).mono ?_
      rintro v w1 ⟨rfl, rfl⟩
      exact ⟨_, rfl, leave32 rfl (hQ w1 (Same.refl _ _ _))⟩
    refine cond_q Q hQ (fun _ hQ => ?_) (fun _ hQ => ?_)
    · exact root32_walk a.toNat w hQ
    refine cond_q Q hQ (fun _ hQ => ?_) (fun _ hQ => ?_)
    · obtain ⟨r, w2, hr, hS, hc⟩ := arith32 .add (.inl rfl) T_float32 (.tmp 51) (.tmp 52) a.toNat b.toNat w
      exact ⟨_, _, hr, leave32 hc (hQ w2 hS)⟩
    refine cond_q Q hQ (fun _ hQ => ?_) (fun _ hQ => ?_)
    · obtain ⟨r, w2, hr, hS, hc⟩ := arith32 .sub (.inr (.inl rfl)) T_float32 (.tmp 57) (.tmp 58) a.toNat b.toNat w
      exact ⟨_, _, hr, leave32 hc (hQ w2 hS)⟩
    refine cond_q Q hQ (fun _ hQ => ?_) (fun _ hQ => ?_)
    · obtain ⟨r, w2, hr, hS, hc⟩ := arith32 .mul (.inr (.inr (.inl rfl))) T_float32 (.tmp 63) (.tmp 64) a.toNat b.toNat w
      exact ⟨_, _, hr, leave32 hc (hQ w2 hS)⟩
    refine cond_q Q hQ (fun _ hQ => ?_) (fun _ hQ => ?_)
    · refine cond_q Q hQ (fun _ hQ => ?_) (fun _ hQ => ?_)
      · refine cond_q Q hQ (fun _ hQ => hQ w (Same.refl _ _ _)) (fun _ hQ => ?_)
        refine cond_q Q hQ (fun _ hQ => hQ w (Same.refl _ _ _)) (fun _ hQ => ?_)
        refine num_float32s.step1 _ _ _ _ ?_
        unfold num_float32s.V1
        exact hQ w (Same.refl _ _ _)
      · obtain ⟨r, w2, hr, hS, hc⟩ := arith32 .quo (.inr (.inr (.inr rfl))) T_float32 (.tmp 83) (.tmp 84) a.toNat b.toNat w
        exact ⟨_, _, hr, leave32 hc (hQ w2 hS)⟩
    refine cond_q Q hQ (fun _ hQ => ?_) (fun _ hQ => ?_)
    · refine (least32_spec a b w).mono ?_
      rintro v w1 ⟨rfl, rfl⟩
      exact ⟨_, rfl, hQ w1 (Same.refl _ _ _)⟩
    refine cond_q Q hQ (fun _ hQ => ?_) (fun _ hQ => ?_)
    · refine (most32_spec a b w).mono ?_
      rintro v w1 ⟨rfl, rfl⟩
      exact ⟨_, rfl, hQ w1 (Same.refl _ _ _)⟩
    exact hQ w (Same.refl _ _ _)
  exact H _ fun w' hS => ⟨rfl, hS⟩

def fl64 (op a b : Int) : Int :=
  cond (op == (153 : Int)) (bAndNot .u64 a 9223372036854775808)
  (cond (op == (154 : Int)) (bXor .u64 a 9223372036854775808)
  (cond (op == (155 : Int)) ((ceil64 a.toNat : Nat) : Int)
  (cond (op == (156 : Int)) ((floor64 a.toNat : Nat) : Int)
  (cond (op == (157 : Int)) ((cn64 (cut64 a.toNat) : Nat) : Int)
  (cond (op == (158 : Int)) ((cn64 (near64 a.toNat) : Nat) : Int)
  (cond (op == (159 : Int)) ((ar64 (Ieee.double.sqrt a.toNat) : Nat) : Int)
  (cond (op == (160 : Int)) ((ar64 (floatBits .add .f64 a.toNat b.toNat) : Nat) : Int)
  (cond (op == (161 : Int)) ((ar64 (floatBits .sub .f64 a.toNat b.toNat) : Nat) : Int)
  (cond (op == (162 : Int)) ((ar64 (floatBits .mul .f64 a.toNat b.toNat) : Nat) : Int)
  (cond (op == (163 : Int))
    (cond (Ieee.double.order b.toNat 0 == some .eq)
      (cond (Ieee.double.order a.toNat a.toNat != some .eq) 9221120237041090560
        (cond (Ieee.double.order a.toNat 0 == some .eq) 9221120237041090560 (bOr .u64 9218868437227405312 (bAnd .u64 (bXor .u64 a b) 9223372036854775808))))
      ((ar64 (floatBits .quo .f64 a.toNat b.toNat) : Nat) : Int))
  (cond (op == (164 : Int)) (least Ieee.double .u64 9221120237041090560 a b)
  (cond (op == (165 : Int)) (most Ieee.double .u64 9221120237041090560 a b)
  (bOr .u64 (bAndNot .u64 a 9223372036854775808) (bAnd .u64 b 9223372036854775808))))))))))))))

theorem float64s_spec (op a b : Int) (w : World) : Runs Tryz.prog num_float64s.id #[.int .i64 op, .int .u64 a, .int .u64 b] w fun v w' => v = .int .u64 (fl64 op a b) ∧ Same [] w.heap.size w w' := by
  refine num_float64s.enter _ _ _ _ _ ?_
  have H : ∀ R : Value → World → Prop, (∀ w', Same [] w.heap.size w w' → R (.int .u64 (fl64 op a b)) w') → num_float64s.V op a b R w := by
    intro R hR
    unfold num_float64s.V
    have e : ∀ a b, Ieee.Format.order (FloatKind.format .f64) a b = Ieee.double.order a b := fun a b => rfl
    simp only [e]
    refine ⟨_, _, run_f64from a w, _, _, run_f64from b w, ?_⟩
    let Q : Int → Prop := fun r => ∀ w', Same [] w.heap.size w w' → R (.int .u64 r) w'
    have hQ : Q (fl64 op a b) := hR
    unfold fl64 at hQ
    clear hR
    refine cond_q Q hQ (fun _ hQ => hQ w (Same.refl _ _ _)) (fun _ hQ => ?_)
    refine cond_q Q hQ (fun _ hQ => hQ w (Same.refl _ _ _)) (fun _ hQ => ?_)
    refine cond_q Q hQ (fun _ hQ => ?_) (fun _ hQ => ?_)
    · refine (ceil64_spec a.toNat w).mono ?_
      rintro v w1 ⟨r, rfl, hc, hS⟩
      exact ⟨_, rfl, leave64 hc (hQ w1 hS)⟩
    refine cond_q Q hQ (fun _ hQ => ?_) (fun _ hQ => ?_)
    · refine (floor64_spec a.toNat w).mono ?_
      rintro v w1 ⟨r, rfl, hc, hS⟩
      exact ⟨_, rfl, leave64 hc (hQ w1 hS)⟩
    refine cond_q Q hQ (fun _ hQ => ?_) (fun _ hQ => ?_)
    · refine (cut64_spec a.toNat w).mono ?_
      rintro v w1 ⟨rfl, rfl⟩
      exact ⟨_, rfl, leave64 rfl (hQ w1 (Same.refl _ _ _))⟩
    refine cond_q Q hQ (fun _ hQ => ?_) (fun _ hQ => ?_)
    · refine (near64_spec a.toNat w).mono ?_
      rintro v w1 ⟨rfl, rfl⟩
      exact ⟨_, rfl, leave64 rfl (hQ w1 (Same.refl _ _ _))⟩
    refine cond_q Q hQ (fun _ hQ => ?_) (fun _ hQ => ?_)
    · exact root64_walk a.toNat w hQ
    refine cond_q Q hQ (fun _ hQ => ?_) (fun _ hQ => ?_)
    · obtain ⟨r, w2, hr, hS, hc⟩ := arith64 .add (.inl rfl) T_float64 (.tmp 49) (.tmp 50) a.toNat b.toNat w
      exact ⟨_, _, hr, leave64 hc (hQ w2 hS)⟩
    refine cond_q Q hQ (fun _ hQ => ?_) (fun _ hQ => ?_)
    · obtain ⟨r, w2, hr, hS, hc⟩ := arith64 .sub (.inr (.inl rfl)) T_float64 (.tmp 55) (.tmp 56) a.toNat b.toNat w
      exact ⟨_, _, hr, leave64 hc (hQ w2 hS)⟩
    refine cond_q Q hQ (fun _ hQ => ?_) (fun _ hQ => ?_)
    · obtain ⟨r, w2, hr, hS, hc⟩ := arith64 .mul (.inr (.inr (.inl rfl))) T_float64 (.tmp 61) (.tmp 62) a.toNat b.toNat w
      exact ⟨_, _, hr, leave64 hc (hQ w2 hS)⟩
    refine cond_q Q hQ (fun _ hQ => ?_) (fun _ hQ => ?_)
    · refine cond_q Q hQ (fun _ hQ => ?_) (fun _ hQ => ?_)
      · refine cond_q Q hQ (fun _ hQ => hQ w (Same.refl _ _ _)) (fun _ hQ => ?_)
        refine cond_q Q hQ (fun _ hQ => hQ w (Same.refl _ _ _)) (fun _ hQ => ?_)
        refine num_float64s.step1 _ _ _ _ ?_
        unfold num_float64s.V1
        exact hQ w (Same.refl _ _ _)
      · obtain ⟨r, w2, hr, hS, hc⟩ := arith64 .quo (.inr (.inr (.inr rfl))) T_float64 (.tmp 81) (.tmp 82) a.toNat b.toNat w
        exact ⟨_, _, hr, leave64 hc (hQ w2 hS)⟩
    refine cond_q Q hQ (fun _ hQ => ?_) (fun _ hQ => ?_)
    · refine (least64_spec a b w).mono ?_
      rintro v w1 ⟨rfl, rfl⟩
      exact ⟨_, rfl, hQ w1 (Same.refl _ _ _)⟩
    refine cond_q Q hQ (fun _ hQ => ?_) (fun _ hQ => ?_)
    · refine (most64_spec a b w).mono ?_
      rintro v w1 ⟨rfl, rfl⟩
      exact ⟨_, rfl, hQ w1 (Same.refl _ _ _)⟩
    exact hQ w (Same.refl _ _ _)
  exact H _ fun w' hS => ⟨rfl, hS⟩

end Go.Proofs.Qxb6500317aGreat.U
