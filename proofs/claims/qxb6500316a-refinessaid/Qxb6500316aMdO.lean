/-
  The model's code section: a function.
-/
import Derived.Test.Qxb6500316aMdN
set_option linter.unusedSimpArgs false
set_option linter.unusedVariables false
set_option maxRecDepth 100000
set_option linter.unusedSectionVars false
namespace Go.Proofs.Qxb6500316a
open Go Go.Vc

theorem StR.set2 {α : Type} {w : World} {rb e lo : Nat} {s : ByteArray} {a : α} {q : Nat} (h : StR w rb s e lo (.ok a q : Res α)) {e' : Nat} (hq : q ≤ e') : StR (w.setCell ⟨rb, 2, none⟩ (.int .i64 (e' : Int))) rb s e' lo (.ok a q : Res α) := ⟨h.1, hq, h.2.2.set2 e'⟩
theorem fn_one {x : FnR} (h : x.bd.oneCell' = true) (h2 : x.tb.oneCell' = true) : ∀ u ∈ fnE x, u.oneCell' = true := by
  intro u hu
  simp at hu
  rcases hu with rfl | rfl | rfl | rfl
  · rfl
  · rfl
  · exact h
  · exact h2

def CPost (w0 : World) (rb mb : Nat) (s : ByteArray) (e lo : Nat) (fin : Res (Nat × Sc × (Nat → FnP))) : Value → World → Prop := fun v w' =>
  v = .tuple #[] ∧ StR w' rb s e lo fin ∧ ∃ a c l fr, VF fnE T_api_Func 4 2 w0 w' rb mb l fr a c ∧ ∀ x q, fin = .ok x q → l = x.1 ∧ NF w' w0.heap.size fr x.2.2 l
section
variable {w0 w : World} {rb mb e lo : Nat} {s : ByteArray}
/-- The function is laid into the module. -/
theorem code_put {i n : Nat} {ta : Option Addr} {tl tc : Nat} {fb B : Nat} {fr : Nat → FnR} {a : Option Addr} {k : Nat} {ty : Int} {ls : ByteArray} {c' : Sc} {r : Res (Sc × FnP)} {R : Value → World → Prop} (hi : i < 8) (hV : VF fnE T_api_Func 4 2 w0 w rb mb i fr a k) (hF : FM w B fb ty ls c') (hrf : rb ≠ fb) (hfb : w0.heap.size ≤ fb) (hB0 : w0.heap.size ≤ B)
    (hst : ∀ w', w' = w.setCell ⟨rb, 2, none⟩ (.int .i64 (e : Int)) → StR w' rb s e lo r) (hcan : can w ⟨rb, 2, none⟩)
    (hrow : ∀ d, (Value.slice a i k).ownBlock = some d → d < B ∧ d ≠ fb)
    (hK : ∀ w3 fn a' k', fn.ty = ty → fn.ls = ls → (∃ a c, fn.bd = .slice a c'.nI c ∧ w3.ownsRow w0.heap.size T_api_Ins 3 (.slice a c'.nI c) c'.nI (rowV insC c'.ins c'.nI)) → (∃ a c, fn.tb = .slice a c'.nTab c ∧ w3.ownsRow w0.heap.size T_uint32 1 (.slice a c'.nTab c) c'.nTab (rowV u32E c'.tabs c'.nTab)) →
      VF fnE T_api_Func 4 2 w0 w3 rb mb (i + 1) (upd fr i fn) a' k' → StR w3 rb s e lo r → (∀ F, NF w w0.heap.size fr F i → NF w3 w0.heap.size fr F i) → binm_rd_codes.L3 (some ⟨rb, 0, none⟩) (some ⟨mb, 0, none⟩) ta tl tc (n : Int) (e : Int) ((i + 1 : Nat) : Int) R (fun _ _ => False) w3) :
    binm_rd_codes.L13 (some ⟨rb, 0, none⟩) (some ⟨mb, 0, none⟩) ta tl tc (n : Int) (e : Int) (i : Int) fb R (fun _ _ => False) w := by
  refine binm_rd_codes.step13 _ _ _ _ _ _ _ _ _ _ _ _ ?_
  unfold binm_rd_codes.V13
  simp only [nilV_some, Nat.zero_add, and_true]
  refine ⟨hcan, letW_intro fun w2 hw2 => ?_⟩
  have st2 := hst w2 hw2
  have S2 : Same [rb] w.heap.size w w2 := by rw [hw2]; exact same_set 2 _
  have l1 := hV.lr; have l2 := hV.rm
  have hml := hV.mr.lt
  have V2 := (hV.step S2).drew
  have F2 := (hF.same S2 (by intro d hd; simp at hd; subst hd; exact ⟨by omega, hrf⟩)).drew
  have gS := V2.mr.cell
  obtain ⟨ba, bk, gb, rbw⟩ := F2.bd
  obtain ⟨ta', tk, gt, rtw⟩ := F2.tb
  have std := st2.drew
  have fin' : ∀ (b : Nat) (w1 : World), b = w2.drew.heap.size → w1 = w2.drew.alloc (.cells #[.int .i64 ty, .string ls, .slice ba c'.nI bk, .slice ta' c'.nTab tk] T_api_Func) → 
      ∃ (x1 : Option Addr) (x2 x3 : Nat) (w3 : World), Sem.run Try.prog (Builtin.append_ #[T_sl_api_Func, T_sl_api_Func] T_sl_api_Func #[.slice a i k, .slice (some ⟨b, 0, none⟩) 1 1]) w1 = .ok (.slice x1 x2 x3) w3 ∧ can w3 ⟨mb, 2, none⟩ ∧ letW (World.setCell w3 ⟨mb, 2, none⟩ (.slice x1 x2 x3)) fun w4 => binm_rd_codes.L3 (some ⟨rb, 0, none⟩) (some ⟨mb, 0, none⟩) ta tl tc (n : Int) (e : Int) (IntKind.wrap .i64 ((i : Int) + 1)) R (fun _ _ => False) w4 := fun b w1 hb hw => by
    obtain ⟨a2, c2, w15, hr, hc, h3⟩ := V2.app std T_sl_api_Func.el T_sl_api_Func (⟨ty, ls, .slice ba c'.nI bk, .slice ta' c'.nTab tk⟩ : FnR) _ rfl rfl (fn_one rfl rfl) (by omega) (by omega) hb hw
    refine ⟨a2, _, c2, w15, hr, hc, letW_intro fun wz hwz => ?_⟩
    obtain ⟨Vz, stz, Sz⟩ := h3 wz hwz
    rw [wrap_i64 (by omega) (by omega), show (i : Int) + 1 = ((i + 1 : Nat) : Int) by omega]
    have out : ∀ {v : Value} {e : TypeId} {sz n : Nat} {xs : List Value} {b : Nat}, w0.heap.size ≤ b → e ≠ T_api_Func → w2.drew.ownsRow b e sz v n xs → ∀ d, v.ownBlock = some d → d < w2.drew.heap.size ∧ d ∉ mb :: obk (.slice a i k) := fun hb0 hne hh d hd => by
      have h1 := hh.lt d hd
      refine ⟨h1.2, fun hm => ?_⟩
      simp at hm
      rcases hm with rfl | hm
      · omega
      · exact (ne_obk V2.mr.row hh (fun he => hne he.symm) d hd).2 hm
    refine hK wz _ a2 c2 rfl rfl ⟨ba, bk, rfl, row_base (row_same rbw Sz (out hB0 (by decide) rbw)) hB0⟩ ⟨ta', tk, rfl, row_base (row_same rtw Sz (out hB0 (by decide) rtw)) hB0⟩ Vz stz (fun F hN => ?_)
    have N2 := (hN.same S2 (fun d hd => by simp at hd; subst hd; exact .inl l1)).same (Same.refl [] w2.heap.size w2).drew (by simp)
    exact N2.same Sz (fun d hd => by
      simp at hd
      rcases hd with rfl | hd
      · exact .inl hml
      · exact .inr ⟨_, _, _, _, _, V2.mr.row, mem_obk.1 hd⟩)
  refine ⟨⟨_, _, _, gS, _, _, _, _, _, _, _, _, F2.c0, F2.c1, gb, gt, letB_intro fun b hb => letW_intro fun w1 hw => fin' b w1 hb hw⟩, _, _, _, _, _, _, _, _, F2.c0, F2.c1, gb, gt, ⟨_, _, _, gS, letB_intro fun b hb => letW_intro fun w1 hw => fin' b w1 hb hw⟩, letB_intro fun b hb => letW_intro fun w1 hw => ⟨_, _, _, ?_, fin' b w1 hb hw⟩⟩
  have hal : Same [] w2.drew.heap.size w2.drew w1 := by rw [hw]; exact (Same.refl _ _ _).alloc (Nat.le_refl _) _
  rw [hal.cell (cell_lt gS) (by simp)]; exact gS
end
end Go.Proofs.Qxb6500316a
