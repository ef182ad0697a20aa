/-
  The model's globals, data.
-/
import Derived.Test.Qxb6500316aMdK
set_option linter.unusedSimpArgs false
set_option linter.unusedVariables false
set_option maxRecDepth 100000
set_option linter.unusedSectionVars false
namespace Go.Proofs.Qxb6500316a
open Go Go.Vc
section
variable {w0 w : World} {rb mb e lo : Nat} {s : ByteArray}
/-! ### globs -/
def globRow (s : ByteArray) (e p : Nat) : Res Glob := (valtypeP s e p).bind fun v0 q1 => (flagP s e 1 q1).bind fun v1 q2 => (constP s e q2).bind fun v2 q3 => .ok ⟨v0, v1 == 1, v2⟩ q3
theorem globsL_row (s : ByteArray) (e k i : Nat) (f : Nat → Glob) (q : Nat) : globsL s e (k + 1) i f q = (globRow s e q).bind fun x q' => globsL s e k (i + 1) (upd f i x) q' := by
  show (valtypeP s e q).bind (fun v0 q1 => (flagP s e 1 q1).bind fun v1 q2 => (constP s e q2).bind fun v2 q3 => globsL s e k (i + 1) (upd f i ⟨v0, v1 == 1, v2⟩) q3) = _
  unfold globRow
  simp only [Res.bind_bind]
  rfl
theorem globs_mloop (he : e ≤ s.size) (hs : s.size ≤ 1024) {n : Nat} (hn : n ≤ 4) {fin : Res (Nat × (Nat → Glob))} :
    ∀ (k i : Nat) (r : Res (Nat → Glob)) (f : Nat → Glob) (a : Option Addr) (c : Nat) (w : World), i + k = n → VF globE T_api_Global 5 7 w0 w rb mb i f a c → StR w rb s e lo r → (∀ f' q, r = .ok f' q → f = f') → ((r.bind fun f q => globsL s e k i f q).bind fun t q2 => .ok (n, t) q2) = fin →
      binm_rd_section.L3 (some ⟨rb, 0, none⟩) (some ⟨mb, 0, none⟩) (n : Int) (i : Int) (VPost globE T_api_Global 5 7 w0 rb mb s e lo fin) (fun _ _ => False) w := by
  intro k
  induction k with
  | zero =>
    intro i r f a c w hi hV hst hf hfin
    refine binm_rd_section.step3 _ _ _ _ _ _ _ ?_
    unfold binm_rd_section.V3
    refine cond_false' (decide_eq_false (by omega)) ?_
    have e1 : (r.bind fun f q => globsL s e 0 i f q) = r := by cases r <;> rfl
    rw [e1] at hfin
    refine ⟨rfl, by rw [← hfin]; exact hst.map _, a, c, i, f, hV, fun x q h => ?_⟩
    rw [← hfin] at h
    obtain ⟨f', q', g1, g2⟩ := bind_ok h
    (first | (injection g2 with z__; injection z__ with g2 _) | injection g2 with g2 _)
    subst g2
    exact ⟨by show i = n; omega, hf f' q' g1⟩
  | succ k ih =>
    intro i r f a c w hi hV hst hf hfin
    refine binm_rd_section.step3 _ _ _ _ _ _ _ ?_
    unfold binm_rd_section.V3
    simp only [nilV_some, Nat.zero_add]
    refine cond_true' (decide_eq_true (by omega)) ?_
    obtain ⟨x, hx, hx0, hx1⟩ := hst.c3
    refine ⟨_, hx, ?_⟩
    cases r using Res.cs with
    | err n' a' =>
      refine cond_false' (by simpa using (hx1 n' a' rfl).2) ?_
      exact ⟨rfl, by rw [← hfin]; exact hst, a, c, i, f, hV, fun x q h => by rw [← hfin] at h; cases h⟩
    | ok f' q =>
      have hff := hf f' q rfl
      subst hff
      refine cond_true' (by simpa using hx0 f q rfl) ?_
      refine binm_rd_section.step9 _ _ _ _ _ _ _ ?_
      unfold binm_rd_section.V9
      simp only [nilV_some, Nat.zero_add, and_true]
      refine (valtypem_spec hst he hs).into fun v w2 hv hst2 S2 => ⟨_, hv, ?_⟩
      obtain ⟨p0, k1, hp0⟩ := hst2.c1
      refine ⟨_, k1, ?_⟩
      refine (byte_spec hst2 he hs).into fun v w7 hv7 hst7 S7 => ⟨_, hv7, ?_⟩
      have V7 := (hV.step S2).step S7
      have L13 : ∀ (w7 : World) (r7 : Res Int), r7.pos = (((Res.ok f q).bind fun _ p => valtypeP s e p).bind fun _ p => flagP s e 1 p).pos → StR w7 rb s e lo r7 → VF globE T_api_Global 5 7 w0 w7 rb mb i f a c →
          binm_rd_section.L13 (some ⟨rb, 0, none⟩) (some ⟨mb, 0, none⟩) (n : Int) (i : Int) (numR ((Res.ok f q).bind fun _ p => valtypeP s e p)) (numR (((Res.ok f q).bind fun _ p => valtypeP s e p).bind fun _ p => nextP s e p)) (VPost globE T_api_Global 5 7 w0 rb mb s e lo fin) (fun _ _ => False) w7 := fun w7 r7 hr7 hst7 V7 => by
        refine binm_rd_section.step13 _ _ _ _ _ _ _ _ _ ?_
        unfold binm_rd_section.V13
        simp only [nilV_some, Nat.zero_add, and_true]
        have hst7 := hst7.as hr7.symm
        refine (constm_spec hst7 he hs).into fun v w2 hv2 hst2 S2 => ?_
        obtain ⟨x, rfl, hxi⟩ := hv2
        refine ⟨_, _, _, rfl, ?_⟩
        refine newIns (w := w2) (i := x) (fun xb w8 hxb hX hS8 => ?_)
        have Vd := ((V7.step S2).new hS8).drew
        have Xd := hX.drew
        have gS := Vd.mr.cell
        have hval : ∀ y q', globRow s e q = .ok y q' → (⟨numR ((Res.ok f q).bind fun _ p => valtypeP s e p), numR (((Res.ok f q).bind fun _ p => valtypeP s e p).bind fun _ p => nextP s e p) == 1, x⟩ : Glob) = y := fun y q' h => by
          obtain ⟨v0, q1, h1, h2⟩ := bind_ok h
          obtain ⟨v1, q2, h3, h4⟩ := bind_ok h2
          obtain ⟨v2, q3, h5, h6⟩ := bind_ok h4
          (first | (injection h6 with z__; injection z__ with h6 _) | injection h6 with h6 _)
          have h3' : nextP s e q1 = .ok v1 q2 := by
            obtain ⟨c, q5, g1, g2⟩ := bind_ok h3
            split at g2
            · cases g2
            · (first | (injection g2 with z__; injection z__ with g2 g3) | injection g2 with g2 g3); subst g2 g3; exact g1
          have hx := hxi v2 q3 (by simp only [Res.bind_ok', h1, h3, h5])
          simp only [Res.bind_ok', h1, h3']
          rw [hx]
          exact h6
        have hst' : StR w8.drew rb s e lo (globRow s e q) := ((hst2.same hS8 hst2.lt (by simp)).drew).as (by
          unfold globRow
          simp only [Res.bind_ok']
          cases valtypeP s e q using Res.cs with
          | err n x => rfl
          | ok u q1 =>
            simp only [Res.bind_ok']
            cases flagP s e 1 q1 using Res.cs with
            | err n x => rfl
            | ok u q3 => simp only [Res.bind_ok']; cases constP s e q3 <;> rfl)
        have fin' : ∀ (b : Nat) (w1 : World), b = w8.drew.heap.size → w1 = w8.drew.alloc (.cells #[.int .u8 (numR ((Res.ok f q).bind fun _ p => valtypeP s e p)), .bool (numR (((Res.ok f q).bind fun _ p => valtypeP s e p).bind fun _ p => nextP s e p) == 1), .int .u8 x.op, .int .u32 x.x, .int .u64 x.y] T_api_Global) → 
            ∃ (x1 : Option Addr) (x2 x3 : Nat) (w2 : World), Sem.run Try.prog (Builtin.append_ #[T_sl_api_Global, T_sl_api_Global] T_sl_api_Global #[.slice a i c, .slice (some ⟨b, 0, none⟩) 1 1]) w1 = .ok (.slice x1 x2 x3) w2 ∧ can w2 ⟨mb, 7, none⟩ ∧ letW (World.setCell w2 ⟨mb, 7, none⟩ (.slice x1 x2 x3)) fun w3 => binm_rd_section.L3 (some ⟨rb, 0, none⟩) (some ⟨mb, 0, none⟩) (n : Int) (IntKind.wrap .i64 ((i : Int) + 1)) (VPost globE T_api_Global 5 7 w0 rb mb s e lo fin) (fun _ _ => False) w3 := fun b w1 hb hw => by
          obtain ⟨a', c', w15, hr, hc, h3⟩ := Vd.app hst' T_sl_api_Global.el T_sl_api_Global (⟨numR ((Res.ok f q).bind fun _ p => valtypeP s e p), numR (((Res.ok f q).bind fun _ p => valtypeP s e p).bind fun _ p => nextP s e p) == 1, x⟩ : Glob) _ rfl rfl (by intro u hu; simp at hu; rcases hu with rfl | rfl | rfl | rfl | rfl <;> rfl) (by omega) (by omega) hb hw
          refine ⟨a', _, c', w15, hr, hc, letW_intro fun wz hwz => ?_⟩
          obtain ⟨Vz, stz, _⟩ := h3 wz hwz
          rw [wrap_i64 (by omega) (by omega), show (i : Int) + 1 = ((i + 1 : Nat) : Int) by omega]
          obtain ⟨hfin', hag⟩ := vec_next (fun k i f q => globsL_row s e k i f q) hval hfin
          exact ih (i + 1) _ _ a' c' wz (by omega) Vz (stz.map _) hag hfin'
        refine ⟨⟨_, _, _, gS, _, _, _, Xd.c0, Xd.c1, Xd.c2, letB_intro fun b hb => letW_intro fun w1 hw => fin' b w1 hb hw⟩, _, _, _, Xd.c0, Xd.c1, Xd.c2, ⟨_, _, _, gS, letB_intro fun b hb => letW_intro fun w1 hw => fin' b w1 hb hw⟩, ⟨_, _, _, gS, letB_intro fun b hb => letW_intro fun w1 hw => fin' b w1 hb hw⟩, letB_intro fun b hb => letW_intro fun w1 hw => ⟨_, _, _, ?_, fin' b w1 hb hw⟩⟩
        have hal : Same [] w8.drew.heap.size w8.drew w1 := by rw [hw]; exact (Same.refl _ _ _).alloc (Nat.le_refl _) _
        rw [hal.cell (cell_lt gS) (by simp)]; exact gS
      exact flag_next 1 (by decide) (by decide) hst2 hp0 hst7 (fun w' r' hr' hst' S' => L13 w' r' hr' hst' (V7.step S'))
/-! ### datas -/
def dataRow (s : ByteArray) (e p : Nat) : Res DatV := (fixedP s e 0 p).bind fun _ q1 => (constP s e q1).bind fun v1 q2 => (countP s e 24 q2).bind fun v2 q3 => (takeP s e v2 q3).bind fun v3 q4 => .ok ⟨v1, v3⟩ q4
theorem datasL_row (s : ByteArray) (e k i : Nat) (f : Nat → DatV) (q : Nat) : datasL s e (k + 1) i f q = (dataRow s e q).bind fun x q' => datasL s e k (i + 1) (upd f i x) q' := by
  show (fixedP s e 0 q).bind (fun _ q1 => (constP s e q1).bind fun v1 q2 => (countP s e 24 q2).bind fun v2 q3 => (takeP s e v2 q3).bind fun v3 q4 => datasL s e k (i + 1) (upd f i ⟨v1, v3⟩) q4) = _
  unfold dataRow
  simp only [Res.bind_bind]
  rfl
theorem datas_mloop (he : e ≤ s.size) (hs : s.size ≤ 1024) {n : Nat} (hn : n ≤ 3) {fin : Res (Nat × (Nat → DatV))} :
    ∀ (k i : Nat) (r : Res (Nat → DatV)) (f : Nat → DatV) (a : Option Addr) (c : Nat) (w : World), i + k = n → VF datE T_api_Data 4 11 w0 w rb mb i f a c → StR w rb s e lo r → (∀ f' q, r = .ok f' q → f = f') → ((r.bind fun f q => datasL s e k i f q).bind fun t q2 => .ok (n, t) q2) = fin →
      binm_rd_section.L6 (some ⟨rb, 0, none⟩) (some ⟨mb, 0, none⟩) (n : Int) (i : Int) (VPost datE T_api_Data 4 11 w0 rb mb s e lo fin) (fun _ _ => False) w := by
  intro k
  induction k with
  | zero =>
    intro i r f a c w hi hV hst hf hfin
    refine binm_rd_section.step6 _ _ _ _ _ _ _ ?_
    unfold binm_rd_section.V6
    refine cond_false' (decide_eq_false (by omega)) ?_
    have e1 : (r.bind fun f q => datasL s e 0 i f q) = r := by cases r <;> rfl
    rw [e1] at hfin
    refine ⟨rfl, by rw [← hfin]; exact hst.map _, a, c, i, f, hV, fun x q h => ?_⟩
    rw [← hfin] at h
    obtain ⟨f', q', g1, g2⟩ := bind_ok h
    (first | (injection g2 with z__; injection z__ with g2 _) | injection g2 with g2 _)
    subst g2
    exact ⟨by show i = n; omega, hf f' q' g1⟩
  | succ k ih =>
    intro i r f a c w hi hV hst hf hfin
    refine binm_rd_section.step6 _ _ _ _ _ _ _ ?_
    unfold binm_rd_section.V6
    simp only [nilV_some, Nat.zero_add]
    refine cond_true' (decide_eq_true (by omega)) ?_
    obtain ⟨x, hx, hx0, hx1⟩ := hst.c3
    refine ⟨_, hx, ?_⟩
    cases r using Res.cs with
    | err n' a' =>
      refine cond_false' (by simpa using (hx1 n' a' rfl).2) ?_
      exact ⟨rfl, by rw [← hfin]; exact hst, a, c, i, f, hV, fun x q h => by rw [← hfin] at h; cases h⟩
    | ok f' q =>
      have hff := hf f' q rfl
      subst hff
      refine cond_true' (by simpa using hx0 f q rfl) ?_
      refine binm_rd_section.step12 _ _ _ _ _ _ _ ?_
      unfold binm_rd_section.V12
      simp only [nilV_some, Nat.zero_add, and_true]
      refine (fixedm_spec hst he hs 0).into fun v w2 hv hst2 S2 => ⟨hv, ?_⟩
      refine (constm_spec hst2 he hs).into fun v w4 hv4 hst4 S4 => ?_
      obtain ⟨x, rfl, hxi⟩ := hv4
      refine ⟨_, _, _, rfl, ?_⟩
      refine newIns (w := w4) (i := x) (fun xb w10 hxb hX hS10 => ?_)
      have V10 := ((hV.step S2).step S4).new hS10
      have hst10 := hst4.same hS10 hst4.lt (by simp)
      have hrx : xb ∉ [rb] := by have := hst4.lt; simp; omega
      refine (countm_spec hst10 he hs 24).into fun v w12 hv12 hst12 S12 => ⟨_, hv12, ?_⟩
      have hn24 := natR_count (((Res.ok f q).bind fun _ p => fixedP s e 0 p).bind fun _ p => constP s e p) s e 24
      refine (takem_spec hst12 he hs _ (by omega)).into fun v w15 hv15 hst15 S15 => ⟨_, hv15, ?_⟩
      have Vd := ((V10.step S12).step S15).drew
      have Xd := ((hX.same S12 hX.lt hrx).same S15 (by have := hX.lt; have := S12.size; omega) hrx).drew
      have gS := Vd.mr.cell
      have hval : ∀ y q', dataRow s e q = .ok y q' → (⟨x, strR (((((Res.ok f q).bind fun _ p => fixedP s e 0 p).bind fun _ p => constP s e p).bind fun _ p => countP s e 24 p).bind fun _ p => takeP s e (natR ((((Res.ok f q).bind fun _ p => fixedP s e 0 p).bind fun _ p => constP s e p).bind fun _ p => countP s e 24 p)) p)⟩ : DatV) = y := fun y q' h => by
        obtain ⟨u, q1, h1, h2⟩ := bind_ok h
        obtain ⟨v1, q2, h3, h4⟩ := bind_ok h2
        obtain ⟨v2, q3, h5, h6⟩ := bind_ok h4
        obtain ⟨v3, q4, h7, h8⟩ := bind_ok h6
        (first | (injection h8 with z__; injection z__ with h8 _) | injection h8 with h8 _)
        have hx := hxi v1 q2 (by simp only [Res.bind_ok', h1, h3])
        simp only [Res.bind_ok', h1, h3, h5, natR, h7]
        rw [hx]
        exact h8
      have hst' : StR w15.drew rb s e lo (dataRow s e q) := (hst15.drew).as (by
        unfold dataRow
        simp only [Res.bind_ok']
        cases fixedP s e 0 q using Res.cs with
        | err n x => rfl
        | ok u q1 =>
          simp only [Res.bind_ok']
          cases constP s e q1 using Res.cs with
          | err n x => rfl
          | ok u q2 =>
            simp only [Res.bind_ok']
            cases countP s e 24 q2 using Res.cs with
            | err n x => rfl
            | ok v q3 => simp only [Res.bind_ok', natR]; cases takeP s e v q3 <;> rfl)
      generalize hT : strR (((((Res.ok f q).bind fun _ p => fixedP s e 0 p).bind fun _ p => constP s e p).bind fun _ p => countP s e 24 p).bind fun _ p => takeP s e (natR ((((Res.ok f q).bind fun _ p => fixedP s e 0 p).bind fun _ p => constP s e p).bind fun _ p => countP s e 24 p)) p) = T at *
      have fin' : ∀ (b : Nat) (w1 : World), b = w15.drew.heap.size → w1 = w15.drew.alloc (.cells #[.int .u8 x.op, .int .u32 x.x, .int .u64 x.y, .string T] T_api_Data) → 
          ∃ (x1 : Option Addr) (x2 x3 : Nat) (w2 : World), Sem.run Try.prog (Builtin.append_ #[T_sl_api_Data, T_sl_api_Data] T_sl_api_Data #[.slice a i c, .slice (some ⟨b, 0, none⟩) 1 1]) w1 = .ok (.slice x1 x2 x3) w2 ∧ can w2 ⟨mb, 11, none⟩ ∧ letW (World.setCell w2 ⟨mb, 11, none⟩ (.slice x1 x2 x3)) fun w3 => binm_rd_section.L6 (some ⟨rb, 0, none⟩) (some ⟨mb, 0, none⟩) (n : Int) (IntKind.wrap .i64 ((i : Int) + 1)) (VPost datE T_api_Data 4 11 w0 rb mb s e lo fin) (fun _ _ => False) w3 := fun b w1 hb hw => by
        obtain ⟨a', c', w15, hr, hc, h3⟩ := Vd.app hst' T_sl_api_Data.el T_sl_api_Data (⟨x, T⟩ : DatV) _ rfl rfl (by intro u hu; simp at hu; rcases hu with rfl | rfl | rfl | rfl <;> rfl) (by omega) (by omega) hb hw
        refine ⟨a', _, c', w15, hr, hc, letW_intro fun wz hwz => ?_⟩
        obtain ⟨Vz, stz, _⟩ := h3 wz hwz
        rw [wrap_i64 (by omega) (by omega), show (i : Int) + 1 = ((i + 1 : Nat) : Int) by omega]
        obtain ⟨hfin', hag⟩ := vec_next (fun k i f q => datasL_row s e k i f q) hval hfin
        exact ih (i + 1) _ _ a' c' wz (by omega) Vz (stz.map _) hag hfin'
      refine ⟨⟨_, _, _, gS, _, _, _, Xd.c0, Xd.c1, Xd.c2, letB_intro fun b hb => letW_intro fun w1 hw => fin' b w1 hb hw⟩, _, _, _, Xd.c0, Xd.c1, Xd.c2, ⟨_, _, _, gS, letB_intro fun b hb => letW_intro fun w1 hw => fin' b w1 hb hw⟩, ⟨_, _, _, gS, letB_intro fun b hb => letW_intro fun w1 hw => fin' b w1 hb hw⟩, letB_intro fun b hb => letW_intro fun w1 hw => ⟨_, _, _, ?_, fin' b w1 hb hw⟩⟩
      have hal : Same [] w15.drew.heap.size w15.drew w1 := by rw [hw]; exact (Same.refl _ _ _).alloc (Nat.le_refl _) _
      rw [hal.cell (cell_lt gS) (by simp)]; exact gS
end
end Go.Proofs.Qxb6500316a
