/-
  Floats: the root of a float32, by way of float64, lies within half a unit too.
-/
import Derived.Test.Qxb6500320aVaE
set_option linter.unusedSimpArgs false
set_option linter.unusedVariables false
set_option maxRecDepth 100000
namespace Go.Proofs.Qxb6500320a
open Go Go.Vc

theorem pow_shift (a b A B A' B' : Nat) (h : a * 2 ^ A = b * 2 ^ B) (hd : (A' : Int) - A = B' - B) : a * 2 ^ A' = b * 2 ^ B' := by
  rcases Nat.le_total A A' with hA | hA
  · obtain ⟨c, hc⟩ : ∃ c, A' = A + c := ⟨A' - A, by omega⟩
    have hB : B' = B + c := by omega
    rw [hc, hB, Nat.pow_add, Nat.pow_add, ← Nat.mul_assoc, ← Nat.mul_assoc, h]
  · obtain ⟨c, hc⟩ : ∃ c, A = A' + c := ⟨A - A', by omega⟩
    have hB : B = B' + c := by omega
    rw [hc, hB, Nat.pow_add, Nat.pow_add, ← Nat.mul_assoc, ← Nat.mul_assoc] at h
    exact Nat.eq_of_mul_eq_mul_right (Nat.two_pow_pos c) h

theorem mult_gap (a b g : Nat) (h : a * g < b * g) : a * g + g ≤ b * g := by
  have h1 : a < b := Nat.lt_of_mul_lt_mul_right h
  have h2 : (a + 1) * g ≤ b * g := Nat.mul_le_mul_right _ h1
  rw [Nat.add_mul, Nat.one_mul] at h2
  exact h2

theorem dbl_lo (z ms T c : Nat) (hT : T ≤ 18014398509481984) (hT0 : 1 ≤ T) (hc : 4 * (T * T) = c * 288230376151711744) (z1 : (2 * ms - 1) * (2 * ms - 1) ≤ z * 288230376151711744) (h : T ≤ ms) : 4 * (T * T) ≤ z * 288230376151711744 := by
  rcases Nat.lt_or_ge (z * 288230376151711744) (4 * (T * T)) with hlt | hge
  · exfalso
    rw [hc] at hlt
    have hg := mult_gap z c _ hlt
    have h2 : (2 * T - 1) * (2 * T - 1) ≤ (2 * ms - 1) * (2 * ms - 1) := sq_le (by omega)
    obtain ⟨t, rfl⟩ : ∃ t, T = t + 1 := ⟨T - 1, by omega⟩
    have e1 : 2 * (t + 1) - 1 = 2 * t + 1 := by omega
    have e2 : (2 * t + 1) * (2 * t + 1) + 4 * (t + 1) = 4 * ((t + 1) * (t + 1)) + 1 := by
      simp only [Nat.add_mul, Nat.mul_add, Nat.mul_one, Nat.one_mul]
      have : 2 * t * (2 * t) = 4 * (t * t) := by rw [Nat.mul_mul_mul_comm]
      omega
    rw [e1] at h2
    generalize (2 * t + 1) * (2 * t + 1) = P at *
    generalize (t + 1) * (t + 1) = Q at *
    generalize (2 * ms - 1) * (2 * ms - 1) = S at *
    omega
  · exact hge
theorem dbl_hi (z ms T c : Nat) (hT : T ≤ 18014398509481984) (hc : 4 * (T * T) = c * 288230376151711744) (z2 : z * 288230376151711744 ≤ (2 * ms + 1) * (2 * ms + 1)) (h : ms ≤ T) : z * 288230376151711744 ≤ 4 * (T * T) := by
  rcases Nat.lt_or_ge (4 * (T * T)) (z * 288230376151711744) with hlt | hge
  · exfalso
    rw [hc] at hlt
    have hg := mult_gap c z _ hlt
    have h2 : (2 * ms + 1) * (2 * ms + 1) ≤ (2 * T + 1) * (2 * T + 1) := sq_le (by omega)
    have e2 : (2 * T + 1) * (2 * T + 1) = 4 * (T * T) + 4 * T + 1 := by
      simp only [Nat.add_mul, Nat.mul_add, Nat.mul_one, Nat.one_mul]
      have : 2 * T * (2 * T) = 4 * (T * T) := by rw [Nat.mul_mul_mul_comm]
      omega
    rw [e2] at h2
    generalize T * T = Q at *
    generalize (2 * ms + 1) * (2 * ms + 1) = S at *
    omega
  · exact hge

theorem sq28 (a : Nat) : 4 * (a * 268435456 * (a * 268435456)) = a * a * 288230376151711744 := by
  rw [Nat.mul_mul_mul_comm a 268435456 a 268435456]
  generalize a * a = z
  omega

theorem half_lo (k ms K : Nat) (b1 : k * 536870912 ≤ ms + 268435456) (hK : K + 1 = 2 * k) : K * 268435456 ≤ ms := by
  have h : (K + 1) * 268435456 ≤ ms + 268435456 := by
    rw [hK]
    have e : 2 * k * 268435456 = k * 536870912 := by omega
    rw [e]; exact b1
  rw [Nat.add_mul, Nat.one_mul] at h
  exact Nat.le_of_add_le_add_right h
theorem half_hi (k ms L : Nat) (b2 : ms ≤ k * 536870912 + 268435456) (hL : L = 2 * k + 1) : ms ≤ L * 268435456 := by
  rw [hL, Nat.add_mul, Nat.one_mul]
  have e : 2 * k * 268435456 = k * 536870912 := by omega
  rw [e]; exact b2
theorem lo32 (Y ms a : Nat) (h0 : 1 ≤ a) (h1 : a ≤ 67108864) (h2 : a * 268435456 ≤ ms) (z1 : (2 * ms - 1) * (2 * ms - 1) ≤ Y * 288230376151711744) : a * a ≤ Y := by
  have e1 : a * 268435456 ≤ 18014398509481984 := by clear z1; omega
  have e2 : 1 ≤ a * 268435456 := by clear z1; omega
  have h := dbl_lo Y ms (a * 268435456) (a * a) e1 e2 (sq28 a) z1 h2
  rw [sq28] at h
  clear z1 e1 e2 h2
  generalize a * a = z at *
  omega
theorem hi32 (Y ms a : Nat) (h1 : a ≤ 67108864) (h2 : ms ≤ a * 268435456) (z2 : Y * 288230376151711744 ≤ (2 * ms + 1) * (2 * ms + 1)) : Y ≤ a * a := by
  have e1 : a * 268435456 ≤ 18014398509481984 := by clear z2; omega
  have h := dbl_hi Y ms (a * 268435456) (a * a) e1 (sq28 a) z2 h2
  rw [sq28] at h
  clear z2 e1 h2
  generalize a * a = z at *
  omega

theorem root32_arith (m E ms k : Nat) (i es : Int) (hE : (E : Int) = i - 2 * es + 2) (hE60 : 60 ≤ E) (z1 : (2 * ms - 1) * (2 * ms - 1) ≤ m * 2 ^ E) (z2 : m * 2 ^ E ≤ (2 * ms + 1) * (2 * ms + 1)) (hms0 : 4503599627370496 ≤ ms) (hms : ms < 9007199254740992)
    (b1 : k * 536870912 ≤ ms + 268435456) (b2 : ms ≤ k * 536870912 + 268435456) (hk0 : 8388608 ≤ k) (hk1 : k ≤ 16777216) (mr : Nat) (er : Int)
    (hc : (mr = k ∧ er = es + (29 : Nat)) ∨ (mr = 8388608 ∧ k = 2 * 8388608 ∧ er = es + (29 : Nat) + 1)) : RootOk 8388608 m i mr er := by
  obtain ⟨F, hF⟩ : ∃ F, E = F + 58 := ⟨E - 58, by omega⟩
  have eZ : m * 2 ^ E = m * 2 ^ F * 288230376151711744 := by rw [hF, Nat.pow_add, ← Nat.mul_assoc]
  rw [eZ] at z1 z2
  have lo : ∀ a : Nat, 1 ≤ a → a ≤ 67108864 → a * 268435456 ≤ ms → a * a ≤ m * 2 ^ F := fun a h0 h1 h2 => lo32 (m * 2 ^ F) ms a h0 h1 h2 z1
  have hi : ∀ a : Nat, a ≤ 67108864 → ms ≤ a * 268435456 → m * 2 ^ F ≤ a * a := fun a h1 h2 => hi32 (m * 2 ^ F) ms a h1 h2 z2
  clear z1 z2 eZ
  obtain ⟨K, hK⟩ : ∃ K, K = 2 * k - 1 := ⟨_, rfl⟩
  obtain ⟨L, hL⟩ : ∃ L, L = 2 * k + 1 := ⟨_, rfl⟩
  obtain ⟨H, hH⟩ : ∃ H, H = 16777216 := ⟨_, rfl⟩
  have l1 := lo K (by omega) (by omega) (half_lo k ms K b1 (by omega))
  have h1 := hi L (by omega) (half_hi k ms L b2 hL)
  have l2 := lo H (by omega) (by omega) (by rw [hH]; exact Nat.le_trans (Nat.le_of_eq (by decide)) hms0)
  clear lo hi
  rcases hc with ⟨rfl, rfl⟩ | ⟨hmr, hk, rfl⟩
  · refine ⟨F, by omega, by rw [← hK]; exact l1, by rw [← hL]; exact h1, fun h => ?_⟩
    obtain ⟨J, hJ⟩ : ∃ J, J = 4 * mr - 1 := ⟨_, rfl⟩
    rw [← hJ, Nat.pow_add, ← Nat.mul_assoc]
    have h5 : J * J ≤ (2 * H) * (2 * H) := sq_le (by omega)
    rw [Nat.mul_mul_mul_comm] at h5
    have e4 : (2 : Nat) ^ 2 = 4 := by decide
    rw [e4]
    generalize m * 2 ^ F = y at *
    clear b1 b2
    generalize H * H = hh at *
    generalize J * J = jj at *
    omega
  · obtain ⟨G, hG⟩ : ∃ G, F = G + 2 := ⟨F - 2, by omega⟩
    have eG : m * 2 ^ F = m * 2 ^ G * 4 := by rw [hG, Nat.pow_add, ← Nat.mul_assoc]
    rw [eG] at l1 h1
    obtain ⟨A, hA⟩ : ∃ A, A = 2 * mr - 1 := ⟨_, rfl⟩
    obtain ⟨C, hC⟩ : ∃ C, C = 2 * mr + 1 := ⟨_, rfl⟩
    have eK : 4 * mr - 1 = K := by omega
    have hA2 : (2 * A) * (2 * A) ≤ K * K := sq_le (by omega)
    have hC2 : L * L ≤ (2 * C) * (2 * C) := sq_le (by omega)
    rw [Nat.mul_mul_mul_comm] at hA2 hC2
    refine ⟨G, by omega, ?_, ?_, fun _ => ?_⟩
    · rw [← hA]
      generalize m * 2 ^ G = y at *
      generalize A * A = aa at *
      generalize K * K = kk at *
      omega
    · rw [← hC]
      generalize m * 2 ^ G = y at *
      generalize C * C = cc at *
      generalize L * L = ll at *
      omega
    · rw [eK, Nat.pow_add, ← Nat.mul_assoc m]
      exact l1

theorem log2_pos (a A b B : Nat) (ha : a ≠ 0) (hb : b ≠ 0) (h : a * 2 ^ A = b * 2 ^ B) : a.log2 + A = b.log2 + B := by
  have h1 := log2_scale a A ha
  have h2 := log2_scale b B hb
  rw [h] at h1
  omega

theorem root32_ok (x : Nat) (hx : x < 2139095040) (hx0 : 0 < x) : ∃ m i mr er, Ieee.single.read x = .number false m i ∧ 0 < rt32 x ∧ rt32 x < 2139095040 ∧ Ieee.single.read (rt32 x) = .number false mr er ∧ 8388608 ≤ mr ∧ mr < 16777216 ∧ -200 ≤ er ∧ er ≤ 100 ∧ m < 16777216 ∧ -149 ≤ i ∧ i ≤ 104 ∧ RootOk 8388608 m i mr er := by
  have hmod : x % 2147483648 = x := by omega
  obtain ⟨m, i, r, h1, b1, b2, b3, h3, g1, g2, hp⟩ := promote_word x (by omega) (by omega)
  have hs : sgb Ieee.single x = false := by rw [sgb32 x (by omega)]; exact decide_eq_false (by omega)
  rw [hs] at h1 hp
  have hm0 : m ≠ 0 := by
    intro h0
    subst h0
    rw [Nat.zero_mul, rung32] at h3
    have : x % 2147483648 = 0 := val_inj Ieee.single (by rw [← h3, val_zero])
    omega
  have hsw : r < Ieee.double.signWeight := Nat.lt_trans g1 Ieee.double.infRung_lt
  obtain ⟨mX, eX, q1, q2, q3⟩ := read_val Ieee.double (Ieee.double.word false r) (by rw [rung_word _ _ _ hsw]; exact g1)
  rw [rung_word _ _ _ hsw, g2] at q3
  rw [sgb_word _ _ _ hsw] at q1
  rw [dlp] at q2 q3
  have hX0 : mX ≠ 0 := by
    intro h0
    subst h0
    rw [Nat.zero_mul] at q3
    have := Nat.mul_pos (Nat.pos_of_ne_zero hm0) (Nat.two_pow_pos (i - -1074).toNat)
    omega
  obtain ⟨hXb, _⟩ := double_bd _ _ _ _ q1
  have hlm := log2_lt m 23 (by omega)
  have hlX := log2_lt mX 52 (by omega)
  have hlog := log2_pos _ _ _ _ hX0 hm0 q3
  obtain ⟨r2, ms, es, s1, s2, s3, s4, s5, s6, s7, s8, sh, k1, k2, k3, k4⟩ := sqrt_word mX eX hX0 hXb q2 (by omega)
  -- the same product, said of the float32
  have hZ0 : mX * 2 ^ sh ≠ 0 := Nat.mul_ne_zero hX0 (by have := Nat.two_pow_pos sh; omega)
  have hZlog : 105 ≤ (mX * 2 ^ sh).log2 := by
    have hbig : 2 ^ 105 ≤ mX * 2 ^ sh := by
      have : (2 * 4503599627370496 - 1) * (2 * 4503599627370496 - 1) ≤ (2 * ms - 1) * (2 * ms - 1) := sq_le (by omega)
      have : (2 : Nat) ^ 105 ≤ (2 * 4503599627370496 - 1) * (2 * 4503599627370496 - 1) := by decide
      generalize (2 * ms - 1) * (2 * ms - 1) = A at *
      generalize mX * 2 ^ sh = Z at *
      omega
    exact (Nat.le_log2 hZ0).2 hbig
  have hZlog2 : (mX * 2 ^ sh).log2 ≤ 107 := by
    apply log2_lt
    have : (2 * ms + 1) * (2 * ms + 1) ≤ (2 * 9007199254740992 - 1) * (2 * 9007199254740992 - 1) := sq_le (by omega)
    have : (2 * 9007199254740992 - 1) * (2 * 9007199254740992 - 1) < 2 ^ (107 + 1) := by decide
    generalize (2 * ms + 1) * (2 * ms + 1) = A at *
    generalize mX * 2 ^ sh = Z at *
    omega
  rw [log2_scale mX sh hX0] at hZlog hZlog2
  obtain ⟨E, hE⟩ : ∃ E : Nat, (E : Int) = i - 2 * es + 2 := ⟨(i - 2 * es + 2).toNat, by omega⟩
  have hZE : mX * 2 ^ sh = m * 2 ^ E := pow_shift mX m (eX - -1074).toNat (i - -1074).toNat sh E q3 (by omega)
  rw [hZE] at k2 k3
  -- demoted
  have slp' := slp
  have sfb : Ieee.single.fractionBits = 23 := rfl
  have sbin : Ieee.single.binade = 8388608 := by decide
  obtain ⟨rr, k, j, w1, w2, w3, w4, w5, w6, w7⟩ := write_digits Ieee.single ms 28 es (es + 29 + 149).toNat (by rw [slp]; omega) (by rw [sfb]; omega) (by rw [sfb]; omega) (by rw [sE]; exact Nat.mul_le_mul_right _ (by omega))
  have hd : floatToFloatBits .f64 (Ieee.double.word false r2) .f32 = some (Ieee.single.word false rr) := by
    unfold floatToFloatBits
    rw [if_neg (by decide)]
    have hd : FloatKind.decode .f64 (Ieee.double.word false r2) = .number false ms es := s4
    rw [hd]
    simp only
    have e : FloatKind.encode .f32 (.number false ms es) = Ieee.single.word false rr := w1
    rw [e]
    have hf : (FloatKind.decode .f32 (Ieee.single.word false rr)).isInfinity = false := read_finite Ieee.single false rr w3
    rw [hf]; rfl
  have hsq : Ieee.double.sqrt (Ieee.double.word false r) = some (Ieee.double.word false r2) := by
    unfold Ieee.Format.sqrt; rw [q1]; exact s1
  have hrt : rt32 x = rr := by
    unfold rt32
    rw [hp]
    simp only [Option.bind_some]
    rw [hsq]
    simp only [Option.bind_some]
    rw [hd]
    show cn32 rr = rr
    unfold cn32
    have : Ieee.single.read rr = .number false k j := w4
    rw [this]; rfl
  rw [sbin] at w5 w6 w7
  rw [ir32] at w3
  obtain ⟨c1, c2⟩ := cut_bd ms 28
  obtain ⟨c3, c4⟩ := cut_range ms 28 23 (Nat.le_trans (Nat.le_of_eq (by decide)) s5) (Nat.lt_of_lt_of_le s6 (Nat.le_of_eq (by decide)))
  refine ⟨m, i, k, j, h1, by rw [hrt]; exact w2, by rw [hrt]; exact w3, by rw [hrt]; exact w4, w5, w6, by omega, by omega, b1, b2, b3, ?_⟩
  exact root32_arith m E ms (cutE ms (28 + 1)) i es hE (by omega) k2 k3 s5 s6 c1 c2 c3 c4 k j w7

theorem root64_ok (x : Nat) (hx : x < 9218868437227405312) (hx0 : 0 < x) : ∃ m i mr er, Ieee.double.read x = .number false m i ∧ 0 < ar64 (Ieee.double.sqrt x) ∧ ar64 (Ieee.double.sqrt x) < 9218868437227405312 ∧ Ieee.double.read (ar64 (Ieee.double.sqrt x)) = .number false mr er ∧ 4503599627370496 ≤ mr ∧ mr < 9007199254740992 ∧ -700 ≤ er ∧ er ≤ 600 ∧ m < 9007199254740992 ∧ -1074 ≤ i ∧ i ≤ 971 ∧ RootOk 4503599627370496 m i mr er := by
  obtain ⟨m, i, h1, h2, h3⟩ := read_val Ieee.double x (by rw [rung64, ir64]; omega)
  have hs : sgb Ieee.double x = false := by rw [sgb64 x (by omega)]; exact decide_eq_false (by omega)
  rw [hs] at h1
  have hm0 : m ≠ 0 := by
    intro h0
    subst h0
    rw [Nat.zero_mul, rung64] at h3
    have : x % 9223372036854775808 = 0 := val_inj Ieee.double (by rw [← h3, val_zero])
    omega
  obtain ⟨hb, hi0⟩ := double_bd _ _ _ _ h1
  have hi1 : i ≤ 971 := by
    have e1 : Ieee.double.signWeight = 9223372036854775808 := by decide
    have e2 : Ieee.double.binade = 4503599627370496 := by decide
    have e3 : Ieee.double.infRung = 9218868437227405312 := by decide
    have e4 : Ieee.double.leastPlace = -1074 := by decide
    have hr := h1
    unfold Ieee.Format.read at hr
    simp only [e1, e2, e3, e4] at hr
    split at hr
    · simp only [Ieee.Datum.number.injEq] at hr; omega
    · split at hr
      · simp only [Ieee.Datum.number.injEq] at hr; omega
      · split at hr <;> simp at hr
  obtain ⟨r, mr, er, s1, s2, s3, s4, s5, s6, s7, s8, ok⟩ := sqrt_word m i hm0 hb hi0 hi1
  have hsq : Ieee.double.sqrt x = some (Ieee.double.word false r) := by
    unfold Ieee.Format.sqrt; rw [h1]; exact s1
  have hrt : ar64 (Ieee.double.sqrt x) = r := by
    rw [hsq]
    show cn64 r = r
    unfold cn64
    have : Ieee.double.read r = .number false mr er := s4
    rw [this]; rfl
  rw [ir64] at s3
  exact ⟨m, i, mr, er, h1, by rw [hrt]; exact s2, by rw [hrt]; exact s3, by rw [hrt]; exact s4, s5, s6, s7, s8, hb, hi0, hi1, ok⟩

/-- Of a zero, of an infinity, of no number, of a negative number. -/
theorem root32_zero : rt32 0 = 0 ∧ rt32 2147483648 = 2147483648 ∧ rt32 2139095040 = 2139095040 := by decide +kernel
theorem root64_zero : ar64 (Ieee.double.sqrt 0) = 0 ∧ ar64 (Ieee.double.sqrt 9223372036854775808) = 9223372036854775808 ∧ ar64 (Ieee.double.sqrt 9218868437227405312) = 9218868437227405312 := by decide +kernel

theorem sqrt_none (f : Ieee.Format) (x : Nat) (h : (f.read x).isNaN = true ∨ (∃ m i, f.read x = .number true m i ∧ m ≠ 0) ∨ f.read x = .infinity true) : f.sqrt x = none := by
  unfold Ieee.Format.sqrt
  rcases h with h | ⟨m, i, h, hm⟩ | h
  · cases hd : f.read x with
    | nan s t => rfl
    | infinity s => rw [hd] at h; cases h
    | number s m i => rw [hd] at h; cases h
  · rw [h]; simp [Ieee.Datum.root, hm]
  · rw [h]; rfl

theorem root64_none (x : Nat) (hx : x < 18446744073709551616) (h : 9218868437227405312 < x) (hz : x ≠ 9223372036854775808) : ar64 (Ieee.double.sqrt x) = 9221120237041090560 := by
  have e : Ieee.double.sqrt x = none := by
    apply sqrt_none
    by_cases hn : 9218868437227405312 < x % 9223372036854775808
    · left; rw [nan64]; exact decide_eq_true hn
    · have hs : sgb Ieee.double x = true := by rw [sgb64 x hx]; exact decide_eq_true (by omega)
      right
      by_cases hi : x % 9223372036854775808 = 9218868437227405312
      · right
        rw [read_inf Ieee.double double_bi x (by rw [rung64, ir64]; exact hi), hs]
      · left
        obtain ⟨m, i, h1, h2, h3⟩ := read_val Ieee.double x (by rw [rung64, ir64]; omega)
        rw [hs] at h1
        refine ⟨m, i, h1, fun h0 => ?_⟩
        subst h0
        rw [Nat.zero_mul, rung64] at h3
        have : x % 9223372036854775808 = 0 := val_inj Ieee.double (by rw [← h3, val_zero])
        omega
  rw [e]; rfl

theorem root32_none (x : Nat) (hx : x < 4294967296) (h : 2139095040 < x) (hz : x ≠ 2147483648) : rt32 x = 2143289344 := by
  unfold rt32
  by_cases hn : 2139095040 < x % 2147483648
  · have hnan := nan32 x
    rw [decide_eq_true hn] at hnan
    have e : floatToFloatBits .f32 x .f64 = none := by
      unfold floatToFloatBits
      rw [if_neg (by decide)]
      have : FloatKind.decode .f32 x = Ieee.single.read x := rfl
      rw [this]
      cases hd : Ieee.single.read x with
      | nan s t => rfl
      | infinity s => rw [hd] at hnan; cases hnan
      | number s m i => rw [hd] at hnan; cases hnan
    rw [e]; rfl
  · have hs : sgb Ieee.single x = true := by rw [sgb32 x hx]; exact decide_eq_true (by omega)
    by_cases hi : x % 2147483648 = 2139095040
    · have : x = 4286578688 := by omega
      subst this
      decide +kernel
    · obtain ⟨m, i, r, h1, b1, b2, b3, h3, g1, g2, hp⟩ := promote_word x hx (by omega)
      rw [hs] at hp
      have hm0 : m ≠ 0 := by
        intro h0
        subst h0
        rw [Nat.zero_mul, rung32] at h3
        have : x % 2147483648 = 0 := val_inj Ieee.single (by rw [← h3, val_zero])
        omega
      have hsw : r < Ieee.double.signWeight := Nat.lt_trans g1 Ieee.double.infRung_lt
      obtain ⟨mX, eX, q1, q2, q3⟩ := read_val Ieee.double (Ieee.double.word true r) (by rw [rung_word _ _ _ hsw]; exact g1)
      rw [rung_word _ _ _ hsw, g2] at q3
      rw [sgb_word _ _ _ hsw] at q1
      have hX0 : mX ≠ 0 := by
        intro h0
        subst h0
        rw [Nat.zero_mul] at q3
        have := Nat.mul_pos (Nat.pos_of_ne_zero hm0) (Nat.two_pow_pos (i - Ieee.double.leastPlace).toNat)
        omega
      have e := sqrt_none Ieee.double (Ieee.double.word true r) (.inr (.inl ⟨mX, eX, q1, hX0⟩))
      rw [hp]
      simp only [Option.bind_some]
      rw [e]; rfl

end Go.Proofs.Qxb6500320a
