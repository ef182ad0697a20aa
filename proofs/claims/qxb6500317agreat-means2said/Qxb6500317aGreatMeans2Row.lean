/-
  The given statement, out of the walk.
-/
import Derived.Test.Qxb6500317aGreatMnM
import Derived.Test.Qxb6500317aGreatScript
set_option linter.unusedSimpArgs false
set_option linter.unusedVariables false
set_option maxRecDepth 100000
namespace Go.Proofs.Qxb6500317aGreat
open Go Go.Vc
open Go.ChangeShapes Go.WideShapes Go.ChangeAt Go.RowKit

theorem means2_own : ownKnob Tryz.prog.godebug = none := by kernel_rfl
theorem means2_laid : laidOutB Tryz.prog = true := by kernel_rfl

theorem means2_lifted (os : Os) (started : os.Started) (H : Type) (enc : TypeId × Value → H) :
    ReturnsInHanded {} Tryz.checked os 3 .any (Rows.means2Spec.pre6 enc Tryz.prog Tryz.f3 Rows.means2Row.domain false) (Rows.means2Spec.post enc Tryz.prog Tryz.f3 false true false false) := by
  refine returnsInHanded_of_change (C := Tryz.checked) means2_own started (by kernel_rfl) Tryz.func3
    (ChangeSpec.witness6 (enc := enc) (C := Tryz.checked) false ⟨#[], #[.slice none 0 0], []⟩ 8 (by kernel_rfl) (by kernel_rfl) (by kernel_rfl) (by kernel_rfl)) ?_
  intro W base args ds gs before hval0 hW hcnd _
  have hW' := hW
  obtain ⟨p, q, hA0, hV, rfl, hfz, hnd⟩ := hW
  have hA : DataW.TrodAll enc Tryz.prog W 0 (fun _ => true) true [(22 : Nat)] args.toList ds p := hA0
  obtain ⟨v0, d0, rfl, rfl, h0⟩ := trodAll_one hA
  obtain ⟨rfl, rfl⟩ := trodVars_none hV
  have h0k := h0
  obtain ⟨fuel, hf⟩ := h0
  obtain ⟨a, l, c, hcs, hs, hl⟩ := script_open hf
  have hv : v0 = .slice a l c := by
    have hval : Value.okWide Tryz.prog W .any base (22 : Nat) v0 := hval0 0 _ v0 rfl rfl
    obtain ⟨a0, l0, c0, rfl⟩ := okWide_slice opUnder hval
    simpa [Value.cells] using hcs
  subst hv
  clear hA0 hval0 hA
  simp only [List.append_nil] at hW'
  have hlt : ∀ x ∈ p, x.block < W.heap.size := fun x hx => hW'.lt x hx
  refine Calls.mono (Means2_spec W a l c hs) fun e W' he => ?_
  cases e with
  | returned v =>
    obtain ⟨rfl, hS⟩ := he
    have hb := hS.below
    refine ⟨_, rfl, _, _, _, [], p, [], hW', ?_, ?_, ?_, hb.frame _, fun h => by cases h⟩
    · exact trodAll_mk1 (shut_bool (by kernel_rfl : Tryz.prog.underlying (4 : Nat) = some .bool) true)
    · exact trodAll_mk1 (Below.trod means2_laid (by kernel_rfl) (of_decide_eq_true (by kernel_rfl)) h0k hb hlt)
    · rfl
  | _ => first | exact he.elim | (obtain ⟨_, _, hx⟩ := he; exact hx.elim)

theorem means2_holds : Rows.Means2Said :=
  OpenClaim.holds_of_wide 3 Tryz.f3 rfl rfl rfl rfl rfl rfl rfl ⟨rfl, rfl, rfl, rfl, rfl⟩ rfl rfl rfl rfl rfl (by kernel_rfl) Tryz.func3 (by kernel_rfl)
    (of_decide_eq_true (by kernel_rfl)) (by unfold Func.isWrapper; first | (rw [if_pos (by decide +kernel)]; kernel_rfl) | (rw [if_neg (by decide +kernel)]; exact ⟨rfl, rfl⟩))
    (fun os started H enc _ => means2_lifted os started H enc)

end Go.Proofs.Qxb6500317aGreat
