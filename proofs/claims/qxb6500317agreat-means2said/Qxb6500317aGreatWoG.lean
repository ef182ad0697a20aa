/-
  The law World: the invocations.
-/
import Derived.Test.Qxb6500317aGreatWoF
set_option linter.unusedSimpArgs false
set_option linter.unusedVariables false
set_option maxRecDepth 100000
set_option linter.unusedSectionVars false
set_option maxHeartbeats 2000000
namespace Go.Proofs.Qxb6500317aGreat
open Go Go.Vc

/-- What an invocation leaves. -/
def InvOk (E : RE) (r : OwR) : Value → World → Prop := fun v w' => v = .tuple #[.string r.1.2.2, .int .i64 r.1.2.1, .int .i64 r.1.1] ∧ ∃ F ms h S fr, XL E w' F ms h S fr ∧ SW S ∧ ms.show = litM ∧ BK r.2.1 r.2.2 h
def fuelN (a : Int) : Int := if a < 0 then 0 else a
section
variable {E : RE} {w : World} {F : List Nat} {ms : M.MS} {h : HS} {S fr : Nat → Int} {T Tr : ByteArray} {o : OpV}
theorem BK.size (B : BK T Tr h) : T.size / 8 = h.left := by have := B.t; omega
theorem BK.fresh (B : BK T Tr h) : BK T eS h.fresh := ⟨B.n, B.k0, B.k1, B.t, B.w, rfl⟩
theorem word_tail (T : ByteArray) (hT : T.size ≤ 48) (h8 : 8 ≤ T.size) (i : Nat) (hi : i + 1 < T.size / 8) : word (T.extract 8 T.size) i = word T (i + 1) := by
  have es : (T.extract 8 T.size).size = T.size - 8 := by rw [ByteArray.size_extract]; omega
  unfold word
  rw [if_pos (by rw [es]; omega), if_pos hi]
  have go : ∀ f v, f ≤ 8 → wordFrom (T.extract 8 T.size) (8 * i) f v = wordFrom T (8 * (i + 1)) f v := by
    intro f
    induction f with
    | zero => intro v _; rfl
    | succ f ih =>
      intro v hf
      show wordFrom _ _ f (bOr .u64 _ (byteAt (T.extract 8 T.size) (8 * i + f))) = wordFrom _ _ f (bOr .u64 _ (byteAt T (8 * (i + 1) + f)))
      rw [ih _ (by omega), byteAt_extract _ _ _ _ (by rw [es]; omega), show 8 + (8 * i + f) = 8 * (i + 1) + f by omega]
  exact go 8 0 (by omega)
theorem BK.took (B : BK T Tr h) (hT : T.size ≤ 48) (hl : h.left ≠ 0) : BK (T.extract 8 T.size) rowS (h.fresh.row 1 (fun _ => 0) 0).took := by
  have t := B.t
  refine ⟨B.n, B.k0, B.k1, ?_, fun i hi => ?_, rfl⟩
  · show (T.extract 8 T.size).size = 8 * (h.left - 1)
    rw [ByteArray.size_extract]; omega
  · have hi : i < h.left - 1 := hi
    rw [word_tail T hT (by omega) i (by omega), B.w (i + 1) (by omega)]
    show h.tape (h.head + (i + 1)) = h.tape (h.head + 1 + i)
    rw [show h.head + (i + 1) = h.head + 1 + i by omega]
theorem BK.rowed (B : BK T Tr h) : BK T rowS (h.fresh.row 1 (fun _ => 0) 0) := ⟨B.n, B.k0, B.k1, B.t, B.w, rfl⟩
theorem owed2_ref {fu : Int} {n : Nat} : (32 < o.s.size → owed2 T Tr o fu n = ((1, 0, eS), T, Tr)) ∧ (¬ 32 < o.s.size → o.kind ≠ 7 → o.s.size ≠ 8 * n → owed2 T Tr o fu n = ((34, 0, eS), T, Tr)) := by
  refine ⟨fun q => ?_, fun q1 q2 q3 => ?_⟩
  · unfold owed2; rw [if_pos q]
  · unfold owed2; rw [if_neg q1, if_neg q2, if_pos q3]
/-- A refusal, or nothing yet: the state is as it was. -/
theorem inv_keep {e : Int} (x : XL E w F ms h S fr) (hS : SW S) (hm : ms.show = litM) (B : BK T Tr h) {r : OwR} (hr : r = ((e, 0, eS), T, Tr)) : InvOk E r (.tuple #[.string ⟨#[]⟩, .int .i64 0, .int .i64 e]) w := by
  subst hr
  exact ⟨rfl, F, ms, h, S, fr, x, hS, hm, B⟩
theorem inv_none (hP : E.P = okP tProbe) (x : XL E w F ms h S fr) (hS : SW S) (hm : ms.show = litM) (B : BK T Tr h) (hs : o.s.size ≤ 9223372036854775807) (hk : o.kind = 7) :
    Runs Tryz.prog exec_Exec_Invoke.id #[rp E.A.xb, .string ⟨#[103]⟩, .string o.s, .int .i64 o.a] w (InvOk E (owed2 T Tr o (fuelN o.a) 0)) := by
  obtain ⟨n1, n2, n3, n4⟩ := n6
  obtain ⟨_, _, _, _, f5⟩ := nx6
  have ef : findP E.P ⟨#[103]⟩ = -1 := by rw [hP]; exact f5
  have no : ¬ 0 ≤ findP E.P ⟨#[103]⟩ := by rw [ef]; decide
  refine Invoke_spec x hS ⟨#[103]⟩ o.s (by decide) hs o.a (by rw [hP, n3]; omega) (by rw [hP, n1, n2]; omega) (k := 0) (np := 0) (fun _ _ _ _ _ => True) (fun q => ?_) (fun q _ => ?_) (fun q => absurd q no) (fun _ q => absurd q no) (fun q => absurd q no) (fun q => absurd q no)
  · have e1 : (⟨#[103]⟩ : ByteArray).size = 1 := rfl
    exact inv_keep x hS hm B (owed2_ref.1 (by omega))
  · refine inv_keep x hS hm B ?_
    unfold owed2
    rw [if_neg (by omega), if_pos hk]
theorem fuel_bd (ho : o.a ≤ 9223372036854775807) : 0 ≤ fuelN o.a ∧ fuelN o.a ≤ 9223372036854775807 := by
  unfold fuelN
  split <;> omega
theorem logS_eq {S : Nat → Int} {s : ByteArray} (B : BK T Tr h) (h0 : S 0 = bAnd .u64 (word s 0) 4294967295) (h1 : S 1 = word s 1) : BK T (logS s) (h.fresh.row 0 (fun j => (S j).toNat) 2) := by
  refine ⟨B.n, B.k0, B.k1, B.t, B.w, ?_⟩
  show logS s = strOfNums ([] ++ [32, 48 + ((0 : Nat) : Int), 40] ++ (([] ++ h16 16 (S 0).toNat ++ [44]) ++ h16 16 (S 1).toNat ++ [44]) ++ [41])
  unfold logS
  rw [hexOf_16, hexOf_16, ← h0, ← h1, show (⟨#[32, 48, 40]⟩ : ByteArray) = strOfNums [32, 48, 40] from rfl, show (⟨#[44]⟩ : ByteArray) = strOfNums [44] from rfl, show (⟨#[44, 41]⟩ : ByteArray) = strOfNums [44, 41] from rfl, ← str_app, ← str_app, ← str_app, ← str_app]
  congr 1
theorem inv_log (hP : E.P = okP tProbe) (hfs : E.fs = fs6) (x : XL E w F ms h S fr) (hS : SW S) (hm : ms.show = litM) (B : BK T Tr h) (hs : o.s.size ≤ 9223372036854775807) (ha : o.a ≤ 9223372036854775807) (hk : o.kind = 2) :
    Runs Tryz.prog exec_Exec_Invoke.id #[rp E.A.xb, .string ⟨#[108, 111, 103]⟩, .string o.s, .int .i64 o.a] w (InvOk E (owed2 T Tr o (fuelN o.a) 2)) := by
  obtain ⟨n1, n2, n3, n4⟩ := n6
  obtain ⟨f1, _, _, _, _⟩ := nx6
  have ef : findP E.P ⟨#[108, 111, 103]⟩ = ((2 : Nat) : Int) := by rw [hP]; exact f1
  have fb := fuel_bd ha
  have e3 : (⟨#[108, 111, 103]⟩ : ByteArray).size = 3 := rfl
  have G : ∀ j, j < 6 → fsG E.P 2 j = sg 2 127 126 0 j := fun j hj => by rw [hP]; exact g62 j hj
  have wb0 := word_bd o.s 0
  have wb1 := word_bd o.s 1
  have a0 : argS S o.s (fsG E.P 2) 2 0 = bAnd .u64 (word o.s 0) 4294967295 := by
    show cut (fsG E.P 2 1) (word o.s 0) = _
    rw [G 1 (by omega), bAnd_u64_mask32 _ wb0.1 wb0.2]; rfl
  have a1 : argS S o.s (fsG E.P 2) 2 1 = word o.s 1 := by
    show cut (fsG E.P 2 2) (word o.s 1) = _
    rw [G 2 (by omega)]; rfl
  refine Invoke_spec x hS ⟨#[108, 111, 103]⟩ o.s (by decide) hs o.a (by rw [hP, n3]; omega) (by rw [hP, n1, n2]; omega) (k := 2) (np := 2) (fun left e ms' h' S' => ms' = ms ∧ (if fuelN o.a < 3 then left = 0 ∧ e = 46 ∧ h' = h.fresh else left = fuelN o.a - 3 ∧ e = 0 ∧ h' = h.fresh.row 0 (fun j => (argS S o.s (fsG E.P 2) 2 j).toNat) 2)) (fun q => ?_) (fun _ q => ?_) (fun _ => ?_) (fun q _ q3 w' x' => ?_) (fun _ q w1 x1 => ?_) (fun _ q left e w2 F' ms' h' S' fr' x2 hS' po => ?_)
  · exact inv_keep x hS hm B (owed2_ref.1 (by omega))
  · rw [ef] at q; exact absurd q (by decide)
  · exact ⟨ef, by rw [hP, n1, n2]; omega, by rw [G 0 (by omega)]; rfl, by omega, by rw [G 5 (by omega)]; decide, by rw [G 5 (by omega)]; decide⟩
  · exact inv_keep x' hS hm B (owed2_ref.2 (by omega) (by omega) q3)
  · exact run_log (E := E.at w1 F) hP hfs x1 (argS_sw hS _ _ _) fb B.n B.k0 rfl
  · obtain ⟨rfl, po⟩ := po
    have g5 : fsG E.P 2 5 = 0 := by rw [G 5 (by omega)]; rfl
    have eo : outS e (fsG E.P 2 5) (S' 0) = eS := by
      unfold outS
      rw [if_pos (.inr g5)]
    have er : owed2 T Tr o (fuelN o.a) 2 = if fuelN o.a < 3 then ((46, 0, eS), T, eS) else ((0, IntKind.wrap .i64 (fuelN o.a - 3), eS), T, logS o.s) := by
      unfold owed2
      rw [if_neg (by omega), if_neg (by omega), if_neg (by omega), if_pos hk]
    rw [eo, er]
    by_cases f3 : fuelN o.a < 3
    · rw [if_pos f3] at po ⊢
      obtain ⟨rfl, rfl, rfl⟩ := po
      exact ⟨rfl, F', ms', _, S', fr', x2, hS', hm, B.fresh⟩
    · rw [if_neg f3] at po ⊢
      obtain ⟨rfl, rfl, rfl⟩ := po
      rw [wrap_i64 (by omega) (by omega)]
      exact ⟨rfl, F', ms', _, S', fr', x2, hS', hm, logS_eq B a0 a1⟩
theorem inv_carry (hP : E.P = okP tProbe) (hfs : E.fs = fs6) (x : XL E w F ms h S fr) (hS : SW S) (hm : ms.show = litM) (B : BK T Tr h) (hs : o.s.size ≤ 9223372036854775807) (ha : o.a ≤ 9223372036854775807) (hk : o.kind = 6) :
    Runs Tryz.prog exec_Exec_Invoke.id #[rp E.A.xb, .string ⟨#[99, 97, 114, 114, 121]⟩, .string o.s, .int .i64 o.a] w (InvOk E (owed2 T Tr o (fuelN o.a) 0)) := by
  obtain ⟨n1, n2, n3, n4⟩ := n6
  obtain ⟨_, _, _, f4, _⟩ := nx6
  have ef : findP E.P ⟨#[99, 97, 114, 114, 121]⟩ = ((4 : Nat) : Int) := by rw [hP]; exact f4
  have fb := fuel_bd ha
  have e3 : (⟨#[99, 97, 114, 114, 121]⟩ : ByteArray).size = 5 := rfl
  have G : ∀ j, j < 6 → fsG E.P 4 j = sg 0 0 0 126 j := fun j hj => by rw [hP]; exact g64 j hj
  refine Invoke_spec x hS ⟨#[99, 97, 114, 114, 121]⟩ o.s (by decide) hs o.a (by rw [hP, n3]; omega) (by rw [hP, n1, n2]; omega) (k := 4) (np := 0) (fun left e ms' h' S' => ms' = ms ∧ h' = h.fresh ∧ (if fuelN o.a < 3 then left = 0 ∧ e = 46 else left = fuelN o.a - 3 ∧ e = 0 ∧ S' 0 = 2)) (fun q => ?_) (fun _ q => ?_) (fun _ => ?_) (fun q _ q3 w' x' => ?_) (fun _ q w1 x1 => ?_) (fun _ q left e w2 F' ms' h' S' fr' x2 hS' po => ?_)
  · exact inv_keep x hS hm B (owed2_ref.1 (by omega))
  · rw [ef] at q; exact absurd q (by decide)
  · exact ⟨ef, by rw [hP, n1, n2]; omega, by rw [G 0 (by omega)]; rfl, by omega, by rw [G 5 (by omega)]; decide, by rw [G 5 (by omega)]; decide⟩
  · exact inv_keep x' hS hm B (owed2_ref.2 (by omega) (by omega) q3)
  · exact run_carry (E := E.at w1 F) hP hfs x1 (argS_sw hS _ _ _) fb
  · obtain ⟨rfl, rfl, po⟩ := po
    have g5 : fsG E.P 4 5 = 126 := by rw [G 5 (by omega)]; rfl
    have er : owed2 T Tr o (fuelN o.a) 0 = if fuelN o.a < 3 then ((46, 0, eS), T, eS) else ((0, IntKind.wrap .i64 (fuelN o.a - 3), ⟨#[55, 101, 58, 48, 48, 48, 48, 48, 48, 48, 48, 48, 48, 48, 48, 48, 48, 48, 50]⟩), T, eS) := by
      unfold owed2
      rw [if_neg (by omega), if_neg (by omega), if_neg (by omega), if_neg (by omega), if_pos hk]
    rw [er, g5]
    by_cases f3 : fuelN o.a < 3
    · rw [if_pos f3] at po ⊢
      obtain ⟨rfl, rfl⟩ := po
      refine ⟨?_, F', ms', _, S', fr', x2, hS', hm, B.fresh⟩
      unfold outS
      rw [if_pos (.inl (by decide))]
    · rw [if_neg f3] at po ⊢
      obtain ⟨rfl, rfl, es⟩ := po
      rw [wrap_i64 (by omega) (by omega), es]
      refine ⟨?_, F', ms', _, S', fr', x2, hS', hm, B.fresh⟩
      have : outS 0 126 2 = ⟨#[55, 101, 58, 48, 48, 48, 48, 48, 48, 48, 48, 48, 48, 48, 48, 48, 48, 48, 50]⟩ := by kernel_rfl
      rw [this]
theorem out_7e (v : Int) : outS 0 126 v = (⟨#[55, 101, 58]⟩ : ByteArray) ++ hexOf v 16 := by
  unfold outS
  rw [if_neg (by decide)]
  have : hexOf 126 2 ++ (⟨#[58]⟩ : ByteArray) = (⟨#[55, 101, 58]⟩ : ByteArray) := by kernel_rfl
  rw [this]
theorem inv_take (hP : E.P = okP tProbe) (hfs : E.fs = fs6) (x : XL E w F ms h S fr) (hS : SW S) (hm : ms.show = litM) (B : BK T Tr h) (hT : T.size ≤ 48) (hs : o.s.size ≤ 9223372036854775807) (ha : o.a ≤ 9223372036854775807) (hk : o.kind = 3) :
    Runs Tryz.prog exec_Exec_Invoke.id #[rp E.A.xb, .string ⟨#[116, 97, 107, 101]⟩, .string o.s, .int .i64 o.a] w (InvOk E (owed2 T Tr o (fuelN o.a) 0)) := by
  obtain ⟨n1, n2, n3, n4⟩ := n6
  obtain ⟨_, f2, _, _, _⟩ := nx6
  have ef : findP E.P ⟨#[116, 97, 107, 101]⟩ = ((3 : Nat) : Int) := by rw [hP]; exact f2
  have fb := fuel_bd ha
  have t := B.t
  have e3 : (⟨#[116, 97, 107, 101]⟩ : ByteArray).size = 4 := rfl
  have G : ∀ j, j < 6 → fsG E.P 3 j = sg 0 0 0 126 j := fun j hj => by rw [hP]; exact g63 j hj
  refine Invoke_spec x hS ⟨#[116, 97, 107, 101]⟩ o.s (by decide) hs o.a (by rw [hP, n3]; omega) (by rw [hP, n1, n2]; omega) (k := 3) (np := 0) (fun left e ms' h' S' => ms' = ms ∧ (if fuelN o.a < 1 then left = 0 ∧ e = 46 ∧ h' = h.fresh else if h.fresh.left = 0 then left = fuelN o.a - 1 ∧ e = 47 ∧ h' = h.fresh.row 1 (fun _ => 0) 0 else if fuelN o.a < 3 then left = 0 ∧ e = 46 ∧ h' = (h.fresh.row 1 (fun _ => 0) 0).took else left = fuelN o.a - 3 ∧ e = 0 ∧ h' = (h.fresh.row 1 (fun _ => 0) 0).took ∧ S' 0 = IntKind.wrap .u64 (h.fresh.tape h.fresh.head + 5))) (fun q => ?_) (fun _ q => ?_) (fun _ => ?_) (fun q _ q3 w' x' => ?_) (fun _ q w1 x1 => ?_) (fun _ q left e w2 F' ms' h' S' fr' x2 hS' po => ?_)
  · exact inv_keep x hS hm B (owed2_ref.1 (by omega))
  · rw [ef] at q; exact absurd q (by decide)
  · exact ⟨ef, by rw [hP, n1, n2]; omega, by rw [G 0 (by omega)]; rfl, by omega, by rw [G 5 (by omega)]; decide, by rw [G 5 (by omega)]; decide⟩
  · exact inv_keep x' hS hm B (owed2_ref.2 (by omega) (by omega) q3)
  · exact run_take (E := E.at w1 F) hP hfs x1 (argS_sw hS _ _ _) fb B.n B.k1 rfl
  · obtain ⟨rfl, po⟩ := po
    have g5 : fsG E.P 3 5 = 126 := by rw [G 5 (by omega)]; rfl
    have er : owed2 T Tr o (fuelN o.a) 0 = if fuelN o.a < 1 then ((46, 0, eS), T, eS) else owed3 T o (IntKind.wrap .i64 (fuelN o.a - 1)) := by
      unfold owed2
      rw [if_neg (by omega), if_neg (by omega), if_neg (by omega), if_neg (by omega), if_neg (by omega), if_pos hk]
    have hl : h.fresh.left = h.left := rfl
    rw [er, g5]
    rw [hl] at po
    have bare : ∀ {e : Int}, e ≠ 0 → outS e 126 (S' 0) = eS := fun he => by
      unfold outS
      rw [if_pos (.inl he)]
    by_cases f1 : fuelN o.a < 1
    · rw [if_pos f1] at po ⊢
      obtain ⟨rfl, rfl, rfl⟩ := po
      rw [bare (by decide)]
      exact ⟨rfl, F', ms', _, S', fr', x2, hS', hm, B.fresh⟩
    rw [if_neg f1] at po ⊢
    rw [wrap_i64 (x := fuelN o.a - 1) (by omega) (by omega)]
    by_cases l0 : h.left = 0
    · rw [if_pos l0] at po
      obtain ⟨rfl, rfl, rfl⟩ := po
      rw [bare (by decide)]
      have : owed3 T o (fuelN o.a - 1) = ((47, fuelN o.a - 1, eS), T, rowS) := by
        unfold owed3
        rw [if_pos (by omega)]
      rw [this]
      exact ⟨rfl, F', ms', _, S', fr', x2, hS', hm, B.rowed⟩
    rw [if_neg l0] at po
    by_cases f3 : fuelN o.a < 3
    · rw [if_pos f3] at po
      obtain ⟨rfl, rfl, rfl⟩ := po
      rw [bare (by decide)]
      have : owed3 T o (fuelN o.a - 1) = ((46, 0, eS), T.extract 8 T.size, rowS) := by
        unfold owed3
        rw [if_neg (by omega), if_pos hk, if_pos (by omega)]
      rw [this]
      exact ⟨rfl, F', ms', _, S', fr', x2, hS', hm, B.took hT l0⟩
    · rw [if_neg f3] at po
      obtain ⟨rfl, rfl, rfl, es⟩ := po
      have w0 := B.w 0 (by omega)
      rw [Nat.add_zero] at w0
      have : owed3 T o (fuelN o.a - 1) = owed4 (T.extract 8 T.size) (fuelN o.a - 3) (IntKind.wrap .u64 (word T 0 + 5)) := by
        unfold owed3
        rw [if_neg (by omega), if_pos hk, if_neg (by omega), wrap_i64 (by omega) (by omega), show fuelN o.a - 1 - 2 = fuelN o.a - 3 by omega]
      rw [this, es, out_7e]
      refine ⟨?_, F', ms', _, S', fr', x2, hS', hm, B.took hT l0⟩
      rw [w0]; rfl
theorem inv_tape (hP : E.P = okP tProbe) (x : XL E w F ms h S fr) (hS : SW S) (hm : ms.show = litM) (B : BK T Tr h) (hT : T.size ≤ 48) (hs : o.s.size ≤ 9223372036854775807) (ha : o.a ≤ 9223372036854775807) (hk : o.kind = 4) :
    Runs Tryz.prog exec_Exec_Invoke.id #[rp E.A.xb, .string ⟨#[116, 97, 112, 101]⟩, .string o.s, .int .i64 o.a] w (InvOk E (owed2 T Tr o (fuelN o.a) 0)) := by
  obtain ⟨n1, n2, n3, n4⟩ := n6
  obtain ⟨_, _, f3, _, _⟩ := nx6
  have ef : findP E.P ⟨#[116, 97, 112, 101]⟩ = ((1 : Nat) : Int) := by rw [hP]; exact f3
  have t := B.t
  have e3 : (⟨#[116, 97, 112, 101]⟩ : ByteArray).size = 4 := rfl
  have G : ∀ j, j < 6 → fsG E.P 1 j = sg 0 0 0 126 j := fun j hj => by rw [hP]; exact g61 j hj
  refine Invoke_spec x hS ⟨#[116, 97, 112, 101]⟩ o.s (by decide) hs o.a (by rw [hP, n3]; omega) (by rw [hP, n1, n2]; omega) (k := 1) (np := 0) (fun left e ms' h' S' => ms' = ms ∧ left = fuelN o.a ∧ (if h.fresh.left = 0 then e = 47 ∧ h' = h.fresh.row 1 (fun _ => 0) 0 else e = 0 ∧ h' = (h.fresh.row 1 (fun _ => 0) 0).took ∧ S' 0 = h.fresh.tape h.fresh.head)) (fun q => ?_) (fun _ q => ?_) (fun _ => ?_) (fun q _ q3 w' x' => ?_) (fun _ q w1 x1 => ?_) (fun _ q left e w2 F' ms' h' S' fr' x2 hS' po => ?_)
  · exact inv_keep x hS hm B (owed2_ref.1 (by omega))
  · rw [ef] at q; exact absurd q (by decide)
  · exact ⟨ef, by rw [hP, n1, n2]; omega, by rw [G 0 (by omega)]; rfl, by omega, by rw [G 5 (by omega)]; decide, by rw [G 5 (by omega)]; decide⟩
  · exact inv_keep x' hS hm B (owed2_ref.2 (by omega) (by omega) q3)
  · exact run_tape (E := E.at w1 F) hP x1 (argS_sw hS _ _ _) B.n B.k1 rfl
  · obtain ⟨rfl, rfl, po⟩ := po
    have g5 : fsG E.P 1 5 = 126 := by rw [G 5 (by omega)]; rfl
    have er : owed2 T Tr o (fuelN o.a) 0 = owed3 T o (fuelN o.a) := by
      unfold owed2
      rw [if_neg (by omega), if_neg (by omega), if_neg (by omega), if_neg (by omega), if_neg (by omega), if_neg (by omega)]
    have hl : h.fresh.left = h.left := rfl
    rw [er, g5]
    rw [hl] at po
    by_cases l0 : h.left = 0
    · rw [if_pos l0] at po
      obtain ⟨rfl, rfl⟩ := po
      have : owed3 T o (fuelN o.a) = ((47, fuelN o.a, eS), T, rowS) := by
        unfold owed3
        rw [if_pos (by omega)]
      rw [this]
      refine ⟨?_, F', ms', _, S', fr', x2, hS', hm, B.rowed⟩
      unfold outS
      rw [if_pos (.inl (by decide))]
    · rw [if_neg l0] at po
      obtain ⟨rfl, rfl, es⟩ := po
      have w0 := B.w 0 (by omega)
      rw [Nat.add_zero] at w0
      have : owed3 T o (fuelN o.a) = owed4 (T.extract 8 T.size) (fuelN o.a) (word T 0) := by
        unfold owed3
        rw [if_neg (by omega), if_neg (by omega)]
      rw [this, es, out_7e]
      refine ⟨?_, F', ms', _, S', fr', x2, hS', hm, B.took hT l0⟩
      rw [w0]; rfl
end
end Go.Proofs.Qxb6500317aGreat
