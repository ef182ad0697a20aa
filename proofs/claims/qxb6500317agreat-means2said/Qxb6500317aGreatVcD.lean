/-
  The calculus, fourth part: a region that draws its order, every order walked.
-/
import Derived.Test.Qxb6500317aGreatLib
import Derived.Orders
set_option linter.unusedSimpArgs false
set_option linter.unusedVariables false
namespace Go.Vc

/-- Every order: the operations that may come next, one by one. -/
def anyV (P : Program) (N : NN) (ops : Array Oper) (K : Env → World → Prop) : Nat → Array Bool → Env → World → Prop
  | 0, l, e, w => Region.ready .any ops l = [] ∧ K e w
  | f + 1, l, e, w =>
    match Region.ready .any ops l with
    | [] => K e w
    | i :: is => conjL (fun i => match ops[i]? with
      | none => False
      | some o => match o.guard with
        | none => opVc P N o e w fun v w' => anyV P N ops K f (l.setIfInBounds i true) (put e o.dst v) w'
        | some _ => False) (i :: is)

theorem anyV_sound {P : Program} (hG : Good P) {N : NN} {ops : Array Oper} {Q : Exit → Act → World → Prop} {K : Env → World → Prop}
    (hQ : ∀ e a w, Agrees N e a → K e w → Q .normal a w) (hP : ∀ a w v, Agrees N [] a → N.pan v w → Q (.panic [{ v := v, recovered := false }]) a w) :
    ∀ (f : Nat) (l : Array Bool) (e : Env) (a : Act) (w : World), Agrees N e a → anyV P N ops K f l e w → wpAny P .any ops Q f l a w
  | 0, l, e, a, w, ha, h => ⟨h.1, hQ e a w ha h.2⟩
  | f + 1, l, e, a, w, ha, h => by
    have ih := anyV_sound (ops := ops) hG hQ hP f
    unfold anyV at h
    unfold wpAny
    cases hr : Region.ready .any ops l with
    | nil =>
      rw [hr] at h
      exact ⟨fun _ => hQ e a w ha h, fun i hi => by cases hi⟩
    | cons j js =>
      rw [hr] at h
      refine ⟨fun g => (by cases g), fun i hi => ?_⟩
      have hi' := conjL_mem h i hi
      unfold wpOp
      cases ho : ops[i]? with
      | none => rw [ho] at hi'; exact hi'.elim
      | some o =>
        rw [ho] at hi'
        simp only at hi'
        cases hg : o.guard with
        | some x => rw [hg] at hi'; exact hi'.elim
        | none =>
          rw [hg] at hi'
          simp only at hi'
          have hw : Region.wanted o (yielded ops a.tmps) = true := by simp [Region.wanted, hg]
          simp only [hw, if_true]
          obtain ⟨hy, hd⟩ := opVc_yields hG ha hi'
          exact .inl (hy.upon (fun v w' hk => ih _ _ _ _ (ha.put o.dst hd v) hk) fun v w' hv => hP _ _ _ ha.nil hv)

theorem anyV_region {P : Program} (hG : Good P) (hm : P.follows .mixedOrders = true) {N : NN} {id : Nat} {ops : Array Oper} {Q : Exit → Act → World → Prop} {K : Env → World → Prop}
    (hQ : ∀ e a w, Agrees N e a → K e w → Q .normal a w) (hP : ∀ a w v, Agrees N [] a → N.pan v w → Q (.panic [{ v := v, recovered := false }]) a w) {e : Env} {a : Act} {w : World} (ha : Agrees N e a)
    (h : anyV P N ops K ops.size (Array.replicate ops.size false) e w.drew) : (Code.region id ops true).wp P Q a w :=
  wp_region_any hm (anyV_sound hG hQ hP _ _ _ _ _ ha h)

end Go.Vc
