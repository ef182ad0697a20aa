/-
  Package memlaw, fifth part: Kept.
-/
import Derived.Test.Qxb6500319aMemH
import Derived.Laws.StructEq
set_option linter.unusedSimpArgs false
set_option linter.unusedVariables false
set_option maxRecDepth 100000
namespace Go.Proofs.Qxb6500319a
open Go Go.Vc

/-! ### Two equal answers -/
theorem run_neqAns (w : World) (x y : Operand) (e n : Int) (t : ByteArray) :
    Sem.run Try.prog ((do eqGuard .neq T_api_Ans x y (ansV e n t) (ansV e n t); Go.binOp .neq T_api_Ans (ansV e n t) (ansV e n t))) w = .ok (.bool false) w := by
  have hm : Try.prog.eqGuardType Try.prog.depth T_api_Ans = false := by kernel_rfl
  have ht : Try.prog.underlying T_api_Ans = some (.struct (Try.prog.fieldsOf T_api_Ans)) := by kernel_rfl
  have hp : Try.prog.stoodInHeld T_api_Ans = false := by kernel_rfl
  have hf : (Try.prog.fieldsOf T_api_Ans).toList = [⟨"E", (27 : Nat), 0, false, "", "", 0⟩, ⟨"N", (3 : Nat), 1, false, "", "", 8⟩, ⟨"M", (3 : Nat), 2, false, "", "", 16⟩, ⟨"S", (9 : Nat), 3, false, "", "", 24⟩] := by kernel_rfl
  have q27 : ∀ (cs : Array Value) (i : Nat) (v : Value) (w : World), cs[i]? = some v → (part (27 : Nat) cs i).run Try.prog w = .ok v w := fun cs i v w hv => by
    have hia : (isAgg (27 : Nat)).run Try.prog w = .ok false w := by kernel_rfl
    simp [part, hia, hv]
  have q3 : ∀ (cs : Array Value) (i : Nat) (v : Value) (w : World), cs[i]? = some v → (part (3 : Nat) cs i).run Try.prog w = .ok v w := fun cs i v w hv => by
    have hia : (isAgg (3 : Nat)).run Try.prog w = .ok false w := by kernel_rfl
    simp [part, hia, hv]
  have q9 : ∀ (cs : Array Value) (i : Nat) (v : Value) (w : World), cs[i]? = some v → (part (9 : Nat) cs i).run Try.prog w = .ok v w := fun cs i v w hv => by
    have hia : (isAgg (9 : Nat)).run Try.prog w = .ok false w := by kernel_rfl
    simp [part, hia, hv]
  have e27 : ∀ (a : Int) (w : World), (Op.equalIn 9999 (27 : Nat) (.int .i64 a) (.int .i64 a)).run Try.prog w = .ok true w := fun a w => by
    have := run_equalIn_int (P := Try.prog) w 9998 (27 : Nat) .i64 .i64 a a (by kernel_rfl)
    simpa using this
  have e3 : ∀ (a : Int) (w : World), (Op.equalIn 9999 (3 : Nat) (.int .i64 a) (.int .i64 a)).run Try.prog w = .ok true w := fun a w => by
    have := run_equalIn_int (P := Try.prog) w 9998 (3 : Nat) .i64 .i64 a a (by kernel_rfl)
    simpa using this
  have e9 : ∀ (a : ByteArray) (w : World), (Op.equalIn 9999 (9 : Nat) (.string a) (.string a)).run Try.prog w = .ok true w := fun a w => by
    have := run_equalIn_string (P := Try.prog) w 9998 (9 : Nat) a a (by kernel_rfl)
    simpa using this
  have p0 : ∀ w, (part (27 : Nat) #[.int .i64 e, .int .i64 n, .int .i64 0, .string t] 0).run Try.prog w = .ok (.int .i64 e) w := fun w => q27 _ _ _ w rfl
  have p1 : ∀ w, (part (3 : Nat) #[.int .i64 e, .int .i64 n, .int .i64 0, .string t] 1).run Try.prog w = .ok (.int .i64 n) w := fun w => q3 _ _ _ w rfl
  have p2 : ∀ w, (part (3 : Nat) #[.int .i64 e, .int .i64 n, .int .i64 0, .string t] 2).run Try.prog w = .ok (.int .i64 0) w := fun w => q3 _ _ _ w rfl
  have p3 : ∀ w, (part (9 : Nat) #[.int .i64 e, .int .i64 n, .int .i64 0, .string t] 3).run Try.prog w = .ok (.string t) w := fun w => q9 _ _ _ w rfl
  unfold ansV
  rw [Sem.run_bind, run_eqGuard_agg (P := Try.prog) w .neq T_api_Ans x y _ _ hm, Result.andThen_ok, run_neq_struct, show (10000 : Nat) = 9999 + 1 from rfl, run_equalIn_struct w _ T_api_Ans _ _ ht hp, hf]
  simp [Op.eqFields, p0, p1, p2, p3, e27, e3, e9]

/-! ### The step keeps the store in order -/
theorem putB_bd : ∀ (k : Nat) (f : Nat → Int) (a : Nat) (v : Int), (∀ j, 0 ≤ f j ∧ f j < 256) → ∀ j, 0 ≤ putB f a k v j ∧ putB f a k v j < 256
  | 0, f, a, v, h => h
  | k + 1, f, a, v, h => putB_bd k (upd f a (v % 256)) (a + 1) (v / 256) (fun j => by
      unfold upd; split
      · omega
      · exact h j)

theorem reset_wf (s : MS) (hw : s.Wf) (mi mx tb gl : Int) : (s.reset mi mx tb gl).2.Wf := by
  unfold MS.reset
  split
  · exact hw
  · rename_i hb
    have hb : badReset mi mx tb gl = false := by simpa using hb
    simp only [badReset, Bool.or_eq_false_iff, Bool.and_eq_false_imp, decide_eq_false_iff_not, decide_eq_true_eq] at hb
    have h1 : mx ≠ -1 → mi ≤ mx := fun hx => by have := hb.1.1.1.1.1.2 hx; omega
    have h2 : mi = -1 → mx = -1 := fun hx => by have := hb.1.1.1.1.2 hx; omega
    have h3 : -1 ≤ mi ∧ mi ≤ 6 ∧ -1 ≤ mx ∧ -1 ≤ tb ∧ tb ≤ 8 ∧ 0 ≤ gl ∧ gl ≤ 4 := by omega
    refine ⟨?_, ?_, ?_, ?_, ?_, ?_, ?_, ?_, ?_, ?_⟩
    · show (mi * 64).toNat ≤ resetCap mi mx
      unfold resetCap
      by_cases hm : 0 ≤ mi
      · rw [if_pos hm]; split <;> omega
      · rw [if_neg hm]; omega
    · show resetCap mi mx ≤ 384
      unfold resetCap; split
      · split <;> omega
      · omega
    · show (mi * 64).toNat % 64 = 0; omega
    · show resetCap mi mx % 64 = 0
      unfold resetCap; split
      · split <;> omega
      · rfl
    · intro hh
      have hh : ¬ 0 ≤ mi := by simpa using hh
      refine ⟨?_, ?_⟩
      · show (mi * 64).toNat = 0; omega
      · show resetCap mi mx = 0; rw [resetCap, if_neg hh]
    · show tb.toNat ≤ 8; omega
    · show gl.toNat ≤ 4; omega
    · intro j; have := hw.back j
      show 0 ≤ (if j < (mi * 64).toNat then 0 else s.back j) ∧ (if j < (mi * 64).toNat then 0 else s.back j) < 256
      split <;> omega
    · intro j; have := hw.tab j
      show -1 ≤ (if j < tb.toNat then -1 else s.tab j) ∧ (if j < tb.toNat then -1 else s.tab j) ≤ 9223372036854775807
      split <;> omega
    · intro j; have := hw.glob j
      show 0 ≤ (if j < gl.toNat then 0 else s.glob j) ∧ (if j < gl.toNat then 0 else s.glob j) < 18446744073709551616
      split <;> omega

theorem grow_wf (s : MS) (hw : s.Wf) (d : Int) (hd : 0 ≤ d) : (s.grow d).2.Wf := by
  unfold MS.grow
  split
  · rename_i hi
    have hi2 := hi.2
    have := hw.n64
    refine ⟨?_, hw.cap384, ?_, hw.cap64, ?_, hw.tl8, hw.ng4, ?_, hw.tab, hw.glob⟩
    · show s.n + d.toNat * 64 ≤ s.cap; omega
    · show (s.n + d.toNat * 64) % 64 = 0; omega
    · intro hh; rw [hi.1] at hh; cases hh
    · intro j; have := hw.back j
      show 0 ≤ (if s.n ≤ j ∧ j < s.n + d.toNat * 64 then 0 else s.back j) ∧ (if s.n ≤ j ∧ j < s.n + d.toNat * 64 then 0 else s.back j) < 256
      split <;> omega
  · exact hw

theorem save_wf (s : MS) (hw : s.Wf) (op ea v : Int) : (s.save op ea v).2.Wf := by
  unfold MS.save
  split
  · split
    · exact ⟨hw.ncap, hw.cap384, hw.n64, hw.cap64, hw.none, hw.tl8, hw.ng4, putB_bd _ _ _ _ hw.back, hw.tab, hw.glob⟩
    · exact hw
  · exact hw

theorem write_wf (s : MS) (hw : s.Wf) (a : Int) (d : ByteArray) : (s.write a d).2.Wf := by
  unfold MS.write
  split
  · exact hw
  · split
    · refine ⟨hw.ncap, hw.cap384, hw.n64, hw.cap64, hw.none, hw.tl8, hw.ng4, fun j => ?_, hw.tab, hw.glob⟩
      show 0 ≤ laid s.back a.toNat d j ∧ laid s.back a.toNat d j < 256
      unfold laid; split
      · exact byteAt_bd _ _
      · exact hw.back j
    · exact hw

theorem setElem_wf (s : MS) (hw : s.Wf) (i f : Int) (hf : f ≤ 9223372036854775807) : (s.setElem i f).2.Wf := by
  unfold MS.setElem
  split
  · exact hw
  · split
    · refine ⟨hw.ncap, hw.cap384, hw.n64, hw.cap64, hw.none, hw.tl8, hw.ng4, hw.back, fun j => ?_, hw.glob⟩
      show -1 ≤ upd s.tab i.toNat f j ∧ upd s.tab i.toNat f j ≤ 9223372036854775807
      unfold upd; split
      · omega
      · exact hw.tab j
    · exact hw

theorem setGlobal_wf (s : MS) (hw : s.Wf) (i v : Int) (h0 : 0 ≤ v) (h1 : v < 18446744073709551616) : (s.setGlobal i v).2.Wf := by
  unfold MS.setGlobal
  split
  · refine ⟨hw.ncap, hw.cap384, hw.n64, hw.cap64, hw.none, hw.tl8, hw.ng4, hw.back, hw.tab, fun j => ?_⟩
    show 0 ≤ upd s.glob i.toNat v j ∧ upd s.glob i.toNat v j < 18446744073709551616
    unfold upd; split
    · omega
    · exact hw.glob j
  · exact hw

theorem act_wf (s : MS) (hw : s.Wf) (r : Int) (o : OpV) (ho : o.In) : (s.act r o).2.Wf := by
  have hA := u32_bd o.a
  have hwd := word_bd o.s
  unfold MS.act
  by_cases k1 : o.kind = 1
  · rw [if_pos k1]; exact reset_wf s hw _ _ _ _
  rw [if_neg k1]
  by_cases k2 : o.kind = 2
  · rw [if_pos k2]; exact hw
  rw [if_neg k2]
  by_cases k3 : o.kind = 3
  · rw [if_pos k3]; exact grow_wf s hw _ hA.1
  rw [if_neg k3]
  by_cases k4 : o.kind = 4
  · rw [if_pos k4]; exact hw
  rw [if_neg k4]
  by_cases k5 : o.kind = 5
  · rw [if_pos k5]; exact save_wf s hw _ _ _
  rw [if_neg k5]
  by_cases k6 : o.kind = 6
  · rw [if_pos k6]; exact hw
  rw [if_neg k6]
  by_cases k7 : o.kind = 7
  · rw [if_pos k7]; exact write_wf s hw _ _
  rw [if_neg k7]
  by_cases k8 : o.kind = 8
  · rw [if_pos k8]; exact hw
  rw [if_neg k8]
  by_cases k9 : o.kind = 9
  · rw [if_pos k9]; exact hw
  rw [if_neg k9]
  by_cases k10 : o.kind = 10
  · rw [if_pos k10]; exact setElem_wf s hw _ _ ho.b
  rw [if_neg k10]
  by_cases k11 : o.kind = 11
  · rw [if_pos k11]; exact hw
  rw [if_neg k11]
  by_cases k13 : o.kind = 13
  · rw [if_pos k13]; exact setGlobal_wf s hw _ _ hwd.1 hwd.2
  rw [if_neg k13]
  by_cases k14 : o.kind = 14
  · rw [if_pos k14]; exact hw
  rw [if_neg k14]
  by_cases k15 : o.kind = 15
  · rw [if_pos k15]; exact hw
  rw [if_neg k15]
  exact hw

theorem reset_same (s : MS) (mi mx tb gl : Int) (h : (s.reset mi mx tb gl).1 ≠ 0) : (s.reset mi mx tb gl).2 = s := by
  unfold MS.reset at *; split
  · rfl
  · rename_i hb; rw [if_neg hb] at h; exact absurd rfl h
theorem save_same (s : MS) (op ea v : Int) (h : (s.save op ea v).1 ≠ 0) : (s.save op ea v).2 = s := by
  unfold MS.save at *; split
  · split
    · rename_i h1 h2; rw [if_pos h1, if_pos h2] at h; exact absurd rfl h
    · rfl
  · rfl
theorem write_same (s : MS) (a : Int) (d : ByteArray) (h : (s.write a d).1 ≠ 0) : (s.write a d).2 = s := by
  unfold MS.write at *; split
  · rfl
  · split
    · rename_i h1 h2; rw [if_neg h1, if_pos h2] at h; exact absurd rfl h
    · rfl
theorem setElem_same (s : MS) (i f : Int) (h : (s.setElem i f).1 ≠ 0) : (s.setElem i f).2 = s := by
  unfold MS.setElem at *; split
  · rfl
  · split
    · rename_i h1 h2; rw [if_neg h1, if_pos h2] at h; exact absurd rfl h
    · rfl
theorem setGlobal_same (s : MS) (i v : Int) (h : (s.setGlobal i v).1 ≠ 0) : (s.setGlobal i v).2 = s := by
  unfold MS.setGlobal at *; split
  · rename_i h1; rw [if_pos h1] at h; exact absurd rfl h
  · rfl

/-- A step that is none of the turning ones, or answers an error, turns nothing. -/
theorem act_same (s : MS) (r : Int) (o : OpV) (h : ¬ (o.kind = 1 ∨ o.kind = 3 ∨ o.kind = 5 ∨ o.kind = 7 ∨ o.kind = 10 ∨ o.kind = 13) ∨ (s.act r o).1.1 ≠ 0) : (s.act r o).2 = s := by
  unfold MS.act at *
  by_cases k1 : o.kind = 1
  · rw [if_pos k1] at h ⊢
    exact reset_same s _ _ _ _ (by rcases h with h | h; exact absurd (by omega) h; exact h)
  rw [if_neg k1] at h ⊢
  by_cases k2 : o.kind = 2
  · rw [if_pos k2] at h ⊢
  rw [if_neg k2] at h ⊢
  by_cases k3 : o.kind = 3
  · rw [if_pos k3] at h ⊢
    rcases h with h | h
    · exact absurd (by omega) h
    · exact absurd rfl h
  rw [if_neg k3] at h ⊢
  by_cases k4 : o.kind = 4
  · rw [if_pos k4] at h ⊢
  rw [if_neg k4] at h ⊢
  by_cases k5 : o.kind = 5
  · rw [if_pos k5] at h ⊢
    exact save_same s _ _ _ (by rcases h with h | h; exact absurd (by omega) h; exact h)
  rw [if_neg k5] at h ⊢
  by_cases k6 : o.kind = 6
  · rw [if_pos k6] at h ⊢
  rw [if_neg k6] at h ⊢
  by_cases k7 : o.kind = 7
  · rw [if_pos k7] at h ⊢
    exact write_same s _ _ (by rcases h with h | h; exact absurd (by omega) h; exact h)
  rw [if_neg k7] at h ⊢
  by_cases k8 : o.kind = 8
  · rw [if_pos k8] at h ⊢
  rw [if_neg k8] at h ⊢
  by_cases k9 : o.kind = 9
  · rw [if_pos k9] at h ⊢
  rw [if_neg k9] at h ⊢
  by_cases k10 : o.kind = 10
  · rw [if_pos k10] at h ⊢
    exact setElem_same s _ _ (by rcases h with h | h; exact absurd (by omega) h; exact h)
  rw [if_neg k10] at h ⊢
  by_cases k11 : o.kind = 11
  · rw [if_pos k11] at h ⊢
  rw [if_neg k11] at h ⊢
  by_cases k13 : o.kind = 13
  · rw [if_pos k13] at h ⊢
    exact setGlobal_same s _ _ (by rcases h with h | h; exact absurd (by omega) h; exact h)
  rw [if_neg k13] at h ⊢
  by_cases k14 : o.kind = 14
  · rw [if_pos k14] at h ⊢
  rw [if_neg k14] at h ⊢
  by_cases k15 : o.kind = 15
  · rw [if_pos k15] at h ⊢
  rw [if_neg k15] at h ⊢

/-! ### Kept -/
structure KCtx (w0 w : World) (p q gp gq bo : Nat) (s g : MS) (o : OpV) : Prop where
  m : MSAt w p q s
  G : GAt w gp gq g
  O : OpAt w bo o
  S : Same [p, q, gp, gq] w0.heap.size w0 w
  po : p < w0.heap.size
  qo : q < w0.heap.size
  gpo : gp < w0.heap.size
  gqo : gq < w0.heap.size
  lo : w0.heap.size ≤ bo
  n1 : p ≠ gp
  n2 : p ≠ gq
  n3 : q ≠ gp
  n4 : q ≠ gq

theorem KCtx.keep {w0 w w1 : World} {p q gp gq bo : Nat} {s g : MS} {o : OpV} (h : KCtx w0 w p q gp gq bo s g o) (hS : Same [] w.heap.size w w1) : KCtx w0 w1 p q gp gq bo s g o :=
  ⟨h.m.keep hS, h.G.keep hS, h.O.same hS h.O.lt (by simp), h.S.trans (hS.mono h.S.size (by simp)), h.po, h.qo, h.gpo, h.gqo, h.lo, h.n1, h.n2, h.n3, h.n4⟩

theorem KCtx.drew {w0 w : World} {p q gp gq bo : Nat} {s g : MS} {o : OpV} (h : KCtx w0 w p q gp gq bo s g o) : KCtx w0 w.drew p q gp gq bo s g o := h.keep (Same.refl _ _ _).drew

theorem KCtx.real {w0 w w1 : World} {p q gp gq bo : Nat} {s s' g : MS} {o : OpV} (h : KCtx w0 w p q gp gq bo s g o) (hm : MSAt w1 p q s') (hS : Same [p, q] w.heap.size w w1) : KCtx w0 w1 p q gp gq bo s' g o := by
  have h1 := h.po; have h2 := h.qo; have h3 := h.lo; have h4 := h.n1; have h5 := h.n2; have h6 := h.n3; have h7 := h.n4
  exact ⟨hm, h.G.same hS h.G.plt h.G.qlt (by simp; omega) (by simp; omega), h.O.same hS h.O.lt (by simp; omega), h.S.trans (hS.mono h.S.size (by intro k hk _; simp at hk ⊢; omega)), h.po, h.qo, h.gpo, h.gqo, h.lo, h.n1, h.n2, h.n3, h.n4⟩

theorem KCtx.ghost {w0 w w1 : World} {p q gp gq bo : Nat} {s g g' : MS} {o : OpV} (h : KCtx w0 w p q gp gq bo s g o) (hm : GAt w1 gp gq g') (hS : Same [gp, gq] w.heap.size w w1) : KCtx w0 w1 p q gp gq bo s g' o := by
  have h1 := h.gpo; have h2 := h.gqo; have h3 := h.lo; have h4 := h.n1; have h5 := h.n2; have h6 := h.n3; have h7 := h.n4
  exact ⟨h.m.same hS h.m.plt h.m.qlt (by simp; omega) (by simp; omega), hm, h.O.same hS h.O.lt (by simp; omega), h.S.trans (hS.mono h.S.size (by intro k hk _; simp at hk ⊢; omega)), h.po, h.qo, h.gpo, h.gqo, h.lo, h.n1, h.n2, h.n3, h.n4⟩

/-- A block made behind the start is written. -/
theorem KCtx.side {w0 w w1 : World} {p q gp gq bo b : Nat} {s g : MS} {o : OpV} (h : KCtx w0 w p q gp gq bo s g o) (hb : w0.heap.size ≤ b) (hbo : b ≠ bo) (hS : ∀ B, Same [b] B w w1) : KCtx w0 w1 p q gp gq bo s g o := by
  have h1 := h.po; have h2 := h.qo; have h1' := h.gpo; have h2' := h.gqo; have h3 := h.lo
  exact ⟨h.m.same (hS _) h.m.plt h.m.qlt (by simp; omega) (by simp; omega), h.G.same (hS _) h.G.plt h.G.qlt (by simp; omega) (by simp; omega), h.O.same (hS _) h.O.lt (by simp; omega),
    h.S.trans ((hS w0.heap.size).mono (Nat.le_refl _) (by intro k hk hlt; simp at hk; omega)), h.po, h.qo, h.gpo, h.gqo, h.lo, h.n1, h.n2, h.n3, h.n4⟩

theorem toList_beq (a : ByteArray) : (ByteArray.toList a == ByteArray.toList a) = true := by simp

theorem Kept_L8 (w0 : World) (p q gp gq bo : Nat) (s g : MS) (o : OpV) (hw : s.Wf) (R : Value → World → Prop) (w : World) (C : KCtx w0 w p q gp gq bo s g o)
    (hR : ∀ w', KCtx w0 w' p q gp gq bo s g o → R (.bool true) w') : memlaw_Kept.L8 (some ⟨p, 0, none⟩) s.show R w := by
  refine memlaw_Kept.step8 _ _ _ _ ?_
  unfold memlaw_Kept.V8
  refine (Check_spec w p q s C.m hw).mono ?_
  rintro v w1 ⟨rfl, hS1⟩
  have C1 := C.keep hS1
  refine ⟨_, rfl, ?_⟩
  refine (Show_spec w1 p q s C1.m hw).mono ?_
  rintro v w2 ⟨rfl, hS2⟩
  refine ⟨_, rfl, cond_true' rfl ?_⟩
  rw [toList_beq]
  exact hR w2 (C1.keep hS2)

theorem load_act (s : MS) (r op b c : Int) : s.act r ⟨4, op, b, c, eps, eps⟩ = (((s.load op (u32 b + u32 c)).1, (s.load op (u32 b + u32 c)).2, eps), s) := by
  unfold MS.act
  rw [if_neg (by show ¬ (4 : Int) = 1; decide), if_neg (by show ¬ (4 : Int) = 2; decide), if_neg (by show ¬ (4 : Int) = 3; decide), if_pos rfl]

theorem Kept_loads (w0 : World) (p q gp gq bo : Nat) (s : MS) (o : OpV) (hw : s.Wf) (ho : o.In) (r : Int) (R : Value → World → Prop) (hR : ∀ w', KCtx w0 w' p q gp gq bo s s o → R (.bool true) w') :
    ∀ (f : Nat) (op : Int) (w : World), op + f = 54 → 40 ≤ op → KCtx w0 w p q gp gq bo s s o → memlaw_Kept.L6 (some ⟨p, 0, none⟩) (some ⟨gp, 0, none⟩) r bo (u32 o.b + u32 o.c) s.show op R w := by
  have hB := u32_bd o.b; have hC := u32_bd o.c
  intro f
  induction f with
  | zero =>
    intro op w hk h40 C
    refine memlaw_Kept.step6 _ _ _ _ _ _ _ _ _ ?_
    unfold memlaw_Kept.V6
    refine ⟨_, C.O.c0, cond_intro (fun _ => cond_false' (by simp; omega) (Kept_L8 w0 p q gp gq bo s s o hw R w C hR)) (fun _ => Kept_L8 w0 p q gp gq bo s s o hw R w C hR)⟩
  | succ f ih =>
    intro op w hk h40 C
    refine memlaw_Kept.step6 _ _ _ _ _ _ _ _ _ ?_
    unfold memlaw_Kept.V6
    refine ⟨_, C.O.c0, cond_intro (fun _ => cond_true' (by simp; omega) ?_) (fun _ => Kept_L8 w0 p q gp gq bo s s o hw R w C hR)⟩
    refine memlaw_Kept.step7 _ _ _ _ _ _ _ _ _ ?_
    unfold memlaw_Kept.V7
    refine ⟨_, C.O.c2, _, C.O.c3, ?_⟩
    refine (Do_spec w p q s C.m hw r ⟨4, op, o.b, o.c, eps, eps⟩ ⟨by show op ≤ _; omega, ho.b, by show ByteArray.size ⟨#[]⟩ ≤ _; decide⟩).mono ?_
    rintro v w4 ⟨rfl, hm4, hS4⟩
    rw [load_act] at hm4 ⊢
    have C4 := C.real hm4 hS4
    simp only at C4
    refine ⟨_, _, _, _, rfl, letB_intro (fun b9 hb9 => letW_intro (fun w10 hw10 => ?_))⟩
    have hS10 : Same [] w4.heap.size w4 w10 := by rw [hw10]; exact (Same.refl _ _ _).alloc (Nat.le_refl _) _
    have hA10 : AnsAt w10 b9 0 0 eps := by rw [hb9, hw10]; exact AnsAt.new w4 _
    have C10 := C4.keep hS10
    have hb : w0.heap.size ≤ b9 := by have := C4.S.size; omega
    have hbo : b9 ≠ bo := by have := C4.O.lt; omega
    refine hA10.put_intro (fun w11 hA11 hS11 => ?_)
    have C11 := C10.side hb hbo hS11
    refine ⟨fun w' => KCtx w0 w' p q gp gq bo s s o ∧ AnsAt w' b9 (s.load op (u32 o.b + u32 o.c)).1 (s.load op (u32 o.b + u32 o.c)).2 eps, ⟨C11.drew, hA11.drew⟩, _, _, _, _, fun w' hw' => ⟨hw'.2.c0, hw'.2.c1, hw'.2.c2, hw'.2.c3, trivial⟩,
      (s.load op (u32 o.b + u32 o.c)).1, (s.load op (u32 o.b + u32 o.c)).2, 0, eps, fun w' hw' => ?_, false, fun w' _ => run_neqAns w' _ _ _ _ _, fun w' hw' => ?_⟩
    · refine (Owes_spec w' gp gq s hw'.1.G hw op (u32 o.b + u32 o.c) (by omega) (by omega)).mono ?_
      rintro v w2 ⟨rfl, hS2⟩
      exact ⟨rfl, hw'.1.keep hS2, hw'.2.same hS2 hw'.2.lt (by simp)⟩
    · refine cond_false' rfl ?_
      rw [wrap_i64 (x := op + 1) (by omega) (by omega)]
      exact ih (op + 1) w' (by omega) (by omega) hw'.1

theorem act_show (s : MS) (r : Int) (o : OpV) (h : o.kind = 14) : (s.act r o).1.2.2 = s.show ∧ (s.act r o).2 = s := by
  unfold MS.act
  rw [if_neg (by omega), if_neg (by omega), if_neg (by omega), if_neg (by omega), if_neg (by omega), if_neg (by omega), if_neg (by omega), if_neg (by omega), if_neg (by omega), if_neg (by omega), if_neg (by omega), if_neg (by omega), if_pos h]
  exact ⟨rfl, rfl⟩

theorem Kept_L1 (w0 : World) (p q gp gq bo : Nat) (s : MS) (o : OpV) (hw : s.Wf) (ho : o.In) (r : Int) (R : Value → World → Prop) (w : World) (C : KCtx w0 w p q gp gq bo s s o)
    (hR : ∀ w', KCtx w0 w' p q gp gq bo (s.act r o).2 (s.act r o).2 o → R (.bool true) w') :
    memlaw_Kept.L1 (some ⟨p, 0, none⟩) (some ⟨gp, 0, none⟩) r bo (u32 o.a) (u32 o.b + u32 o.c) s.show R w := by
  have hw' := act_wf s hw r o ho
  refine memlaw_Kept.step1 _ _ _ _ _ _ _ _ _ ?_
  unfold memlaw_Kept.V1
  refine ⟨_, _, _, _, _, _, C.O.c0, C.O.c1, C.O.c2, C.O.c3, C.O.c4, C.O.c5, ?_⟩
  refine (Do_spec w p q s C.m hw r o ho).mono ?_
  rintro v w8 ⟨rfl, hm8, hS8⟩
  have C8 := C.real hm8 hS8
  refine ⟨_, _, _, _, rfl, letB_intro (fun b13 hb13 => letW_intro (fun w14 hw14 => ?_))⟩
  have hS14 : Same [] w8.heap.size w8 w14 := by rw [hw14]; exact (Same.refl _ _ _).alloc (Nat.le_refl _) _
  have hA14 : AnsAt w14 b13 0 0 eps := by rw [hb13, hw14]; exact AnsAt.new w8 _
  have C14 := C8.keep hS14
  have hb : w0.heap.size ≤ b13 := by have := C8.S.size; omega
  have hbo : b13 ≠ bo := by have := C8.O.lt; omega
  refine hA14.put_intro (fun w15 hA15 hS15 => ?_)
  have C15 := C14.side hb hbo hS15
  refine (Show_spec w15 p q _ C15.m hw').mono ?_
  rintro v w17 ⟨rfl, hS17⟩
  have C17 := C15.keep hS17
  have hA17 := hA15.same hS17 hA15.lt (by simp)
  refine ⟨_, rfl, _, _, _, _, _, _, C17.O.c0, C17.O.c1, C17.O.c2, C17.O.c3, C17.O.c4, C17.O.c5, ?_⟩
  refine (Owed_spec w17 gp gq s C17.G hw r o ho).mono ?_
  rintro v w26 ⟨rfl, hm26, hS26⟩
  have C26 := C17.ghost hm26 hS26
  have g1 := C.gpo; have g2 := C.gqo
  have hA26 := hA17.same hS26 hA17.lt (by simp; omega)
  refine ⟨_, _, _, _, rfl, letB_intro (fun b31 hb31 => letW_intro (fun w32 hw32 => ?_))⟩
  have hS32 : Same [] w26.heap.size w26 w32 := by rw [hw32]; exact (Same.refl _ _ _).alloc (Nat.le_refl _) _
  have hA32 : AnsAt w32 b31 0 0 eps := by rw [hb31, hw32]; exact AnsAt.new w26 _
  have hb31' : w0.heap.size ≤ b31 := by have := C26.S.size; omega
  have hbo31 : b31 ≠ bo := by have := C26.O.lt; omega
  have hne : b13 ≠ b31 := by have := hA26.lt; omega
  refine hA32.put_intro (fun w33 hA33 hS33 => ?_)
  have C33 := (C26.keep hS32).side hb31' hbo31 hS33
  have hB33 := (hA26.same hS32 hA26.lt (by simp)).same (hS33 _) (by have := hA26.lt; have := hS32.size; exact Nat.lt_of_lt_of_le hA26.lt hS32.size) (by simp; omega)
  refine ⟨_, hB33.c0, _, hA33.c0, cond_false' (by simp) ⟨_, hB33.c1, _, hA33.c1, cond_false' (by simp) ?_⟩⟩
  clear hw14 hw32
  have L5 : ∀ w', KCtx w0 w' p q gp gq bo (s.act r o).2 (s.act r o).2 o → memlaw_Kept.L5 (some ⟨p, 0, none⟩) (some ⟨gp, 0, none⟩) r bo (u32 o.b + u32 o.c) (s.act r o).2.show R w' := by
    intro w' C'
    refine memlaw_Kept.step5 _ _ _ _ _ _ _ _ ?_
    unfold memlaw_Kept.V5
    exact Kept_loads w0 p q gp gq bo _ o hw' ho r R hR 14 40 w' (by omega) (by omega) C'
  have L4 : memlaw_Kept.L4 (some ⟨p, 0, none⟩) (some ⟨gp, 0, none⟩) r bo (u32 o.b + u32 o.c) b13 (s.act r o).2.show R w33 := by
    refine memlaw_Kept.step4 _ _ _ _ _ _ _ _ _ ?_
    unfold memlaw_Kept.V4
    refine (Shown_spec w33 gp gq _ C33.G hw').mono ?_
    rintro v w2 ⟨rfl, hS2⟩
    have C2 := C33.keep hS2
    have hB2 := hB33.same hS2 hB33.lt (by simp)
    refine ⟨_, rfl, cond_false' (by rw [toList_beq]; rfl) ⟨_, C2.O.c0, cond_intro (fun hk => ?_) (fun hk => L5 w2 C2)⟩⟩
    have hk : o.kind = 14 := by simpa using hk
    have h14 := act_show s r o hk
    refine ⟨_, hB2.c3, cond_false' (by rw [h14.1, h14.2, toList_beq]; rfl) (L5 w2 C2)⟩
  have L3 : ∀ t : Bool, t = decide (o.kind = 1 ∨ o.kind = 3 ∨ o.kind = 5 ∨ o.kind = 7 ∨ o.kind = 10 ∨ o.kind = 13) → memlaw_Kept.L3 (some ⟨p, 0, none⟩) (some ⟨gp, 0, none⟩) r bo (u32 o.b + u32 o.c) s.show b13 (s.act r o).2.show t R w33 := by
    intro t ht
    refine memlaw_Kept.step3 _ _ _ _ _ _ _ _ _ _ _ ?_
    unfold memlaw_Kept.V3
    refine cond_intro (fun hc => ?_) (fun hc => ⟨_, hB33.c0, cond_intro (fun he => ?_) (fun he => L4)⟩)
    · have hn : ¬ (o.kind = 1 ∨ o.kind = 3 ∨ o.kind = 5 ∨ o.kind = 7 ∨ o.kind = 10 ∨ o.kind = 13) := by
        have hf : t = false := by simpa using hc
        rw [ht] at hf; exact of_decide_eq_false hf
      have e := act_same s r o (.inl hn)
      refine cond_false' ?_ L4
      rw [e, toList_beq]; rfl
    · have e := act_same s r o (.inr (by simpa using he))
      refine cond_false' ?_ L4
      rw [e, toList_beq]; rfl
  refine memlaw_Kept.step2 _ _ _ _ _ _ _ _ _ _ ?_
  unfold memlaw_Kept.V2
  refine ⟨_, C33.O.c0, cond_intro (fun h1 => L3 _ ?_) (fun h1 => ⟨_, C33.O.c0, cond_intro (fun h3 => L3 _ ?_) (fun h3 => ⟨_, C33.O.c0, cond_intro (fun h5 => L3 _ ?_) (fun h5 => ⟨_, C33.O.c0, cond_intro (fun h7 => L3 _ ?_) (fun h7 => ⟨_, C33.O.c0, cond_intro (fun h10 => L3 _ ?_) (fun h10 => ⟨_, C33.O.c0, L3 _ ?_⟩)⟩)⟩)⟩)⟩)⟩
  · have : o.kind = 1 := by simpa using h1
    symm; apply decide_eq_true; omega
  · have : o.kind = 3 := by simpa using h3
    symm; apply decide_eq_true; omega
  · have : o.kind = 5 := by simpa using h5
    symm; apply decide_eq_true; omega
  · have : o.kind = 7 := by simpa using h7
    symm; apply decide_eq_true; omega
  · have : o.kind = 10 := by simpa using h10
    symm; apply decide_eq_true; omega
  · have a1 : ¬ o.kind = 1 := by simpa using h1
    have a3 : ¬ o.kind = 3 := by simpa using h3
    have a5 : ¬ o.kind = 5 := by simpa using h5
    have a7 : ¬ o.kind = 7 := by simpa using h7
    have a10 : ¬ o.kind = 10 := by simpa using h10
    rw [Bool.eq_iff_iff, decide_eq_true_iff, beq_iff_eq]
    omega

theorem Kept_spec (w : World) (p q gp gq : Nat) (s : MS) (h : MSAt w p q s) (hg : GAt w gp gq s) (hw : s.Wf) (r : Int) (o : OpV) (ho : o.In) (n1 : p ≠ gp) (n2 : p ≠ gq) (n3 : q ≠ gp) (n4 : q ≠ gq) :
    Runs Try.prog memlaw_Kept.id #[.pointer (some ⟨p, 0, none⟩), .pointer (some ⟨gp, 0, none⟩), .int .i64 r, o.val] w fun v w' =>
      v = .bool true ∧ MSAt w' p q (s.act r o).2 ∧ GAt w' gp gq (s.act r o).2 ∧ Same [p, q, gp, gq] w.heap.size w w' := by
  have := hw.ncap; have := hw.cap384
  have hA := u32_bd o.a; have hB := u32_bd o.b; have hC := u32_bd o.c
  refine memlaw_Kept.enter _ _ _ _ _ _ _ _ _ _ _ ?_
  generalize hRd : (fun (v : Value) (w' : World) => v = .bool true ∧ MSAt w' p q (s.act r o).2 ∧ GAt w' gp gq (s.act r o).2 ∧ Same [p, q, gp, gq] w.heap.size w w') = R
  unfold memlaw_Kept.V
  refine letB_intro (fun bo hbo => letW_intro (fun w11 hw11 => ?_))
  have hS11 : Same [] w.heap.size w w11 := by rw [hw11]; exact (Same.refl _ _ _).alloc (Nat.le_refl _) _
  have hO11 : OpAt w11 bo o := by rw [hbo, hw11]; exact OpAt.new w o _
  have C : KCtx w w11 p q gp gq bo s s o := ⟨h.keep hS11, hg.keep hS11, hO11, hS11.mono (Nat.le_refl _) (by simp), h.plt, h.qlt, hg.plt, hg.qlt, by omega, n1, n2, n3, n4⟩
  clear hw11
  refine ⟨_, C.O.c1, _, C.O.c2, _, C.O.c3, ?_⟩
  refine (Show_spec w11 p q s C.m hw).mono ?_
  rintro v w16 ⟨rfl, hS16⟩
  have C16 := C.keep hS16
  refine ⟨_, rfl, _, C16.O.c1, _, C16.O.c4, ?_⟩
  have hos := ho.s
  simp only [wrap_u32']
  refine (Fits_spec w16 p q s C16.m hw (u32 o.a) o.s.size hA.1 hA.2 (by omega)).mono ?_
  rintro v w21 ⟨rfl, rfl⟩
  have D := C16.drew
  rw [wrap_i64 (x := u32 o.a) (by omega) (by omega), wrap_i64 (x := u32 o.b) (by omega) (by omega), wrap_i64 (x := u32 o.c) (by omega) (by omega), wrap_i64 (x := u32 o.b + u32 o.c) (by omega) (by omega)]
  simp only [nilV_some, Nat.zero_add, true_and]
  have fin := Kept_L1 w p q gp gq bo s o hw ho r R w21.drew D (fun w' C' => by subst hRd; exact ⟨rfl, C'.m, C'.G, C'.S⟩)
  refine ⟨_, rfl, _, D.O.c4, _, D.G.c1, cond_intro (fun hc => ⟨_, D.O.c4, _, D.G.c1, cond_false' ?_ fin⟩) (fun hc => cond_false' ?_ fin)⟩
  · have hc : (o.s.size : Int) ≤ s.n := by simpa using hc
    rw [wrap_i64 (x := u32 o.a + (o.s.size : Nat)) (by omega) (by omega)]
    simp
  · have hc : ¬ (o.s.size : Int) ≤ s.n := by simpa using hc
    have : ¬ (0 ≤ ((o.s.size : Nat) : Int) ∧ u32 o.a + ((o.s.size : Nat) : Int) ≤ s.n) := by omega
    rw [decide_eq_false this]; rfl

end Go.Proofs.Qxb6500319a
