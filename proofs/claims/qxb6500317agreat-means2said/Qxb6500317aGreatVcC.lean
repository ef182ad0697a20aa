/-
  The calculus, third part: a segment of a function's code, from one cut to the next.
-/
import Derived.Test.Qxb6500317aGreatVcB
set_option linter.unusedSimpArgs false
set_option linter.unusedVariables false
namespace Go.Vc

def firstReg : Code → Option Nat
  | .region id _ _ => some id
  | .seq (.goto _) _ => none
  | .seq a b => match firstReg a with | some i => some i | none => firstReg b
  | .cond _ a b => match firstReg a with | some i => some i | none => firstReg b
  | .block _ c => firstReg c
  | .loop c => firstReg c
  | .scope c => firstReg c
  | _ => none

def key : Item → Option Nat
  | .code c => match firstReg c with | some i => some (2 * i) | none => none
  | .inLoop c => match firstReg c with | some i => some (2 * i + 1) | none => none
  | _ => none

def look : List (Nat × List Nat) → Nat → Option (List Nat)
  | [], _ => none
  | (i, l) :: r, k => bif Nat.beq k i then some l else look r k

def cutOf (cuts : List (Nat × List Nat)) : List Item → Option (List Nat)
  | it :: _ => match key it with | some k => look cuts k | none => none
  | [] => none

def setc (e : Env) (x : Operand) (b : Bool) : Env :=
  match x with
  | .tmp t => set e t (.bool b)
  | _ => e

def seg (P : Program) (f : FuncId) (N : NN) (rs : List ResultVar) (cuts : List (Nat × List Nat)) (R : Value → World → Prop) : Nat → Bool → List Item → Env → World → Prop
  | 0, _, _, _, _ => False
  | n + 1, chk, todo, e, w =>
    match (bif chk then cutOf cuts todo else none) with
    | some live => T P f N todo (restrict live e) w R
    | none =>
      match todo with
      | [] => retV P rs e w R
      | .code c :: k =>
        match c with
        | .skip => seg P f N rs cuts R n true k e w
        | .label _ => seg P f N rs cuts R n true k e w
        | .seq a b => seg P f N rs cuts R n false (.code a :: .code b :: k) e w
        | .region _ ops d =>
          bif d then drawV P N ops e w fun e' w' => seg P f N rs cuts R n true k e' w'
          else regV P N ops ops.toList e w fun e' w' => seg P f N rs cuts R n true k e' w'
        | .cond x a b =>
          match ev e x with
          | some (.bool t) => cond t (seg P f N rs cuts R n false (.code a :: k) (setc e x true) w) (seg P f N rs cuts R n false (.code b :: k) (setc e x false) w)
          | _ => False
        | .block id c => seg P f N rs cuts R n false (.code c :: .inBlock id :: k) e w
        | .loop c => seg P f N rs cuts R n true (.inLoop c :: k) e w
        | .exit id => match exitTo id k with | some k' => seg P f N rs cuts R n true k' e w | none => False
        | .scope c => seg P f N rs cuts R n false (.code c :: .inScope c :: k) e w
        | .goto l => match gotoIn l k with | some k' => seg P f N rs cuts R n false k' e w | none => False
        | .ret => retV P rs e w R
        | _ => False
      | .inBlock _ :: k => seg P f N rs cuts R n true k e w
      | .inScope _ :: k => seg P f N rs cuts R n true k e w
      | .inLoop c :: k => seg P f N rs cuts R n false (.code c :: .inLoop c :: k) e w
      | _ => False

theorem step_scope' {P : Program} {b : Frame} {a : Act} {k : List Item} {cs : List Frame} {w : World} {c : Code} :
    step P (lone (b.at a (.code (.scope c) :: k)) cs w) = .next (lone (b.at a (.code c :: .inScope c :: k)) cs w) :=
  step_lone_go (by simp [stepG, stepG.exec, Frame.at])
theorem step_inScope' {P : Program} {b : Frame} {a : Act} {k : List Item} {cs : List Frame} {w : World} {c : Code} :
    step P (lone (b.at a (.inScope c :: k)) cs w) = .next (lone (b.at a k) cs w) :=
  step_lone_go (by simp [stepG, stepG.exec, Frame.at])

theorem seg_T {P : Program} (hG : Good P) (hm : P.follows .mixedOrders = true) {f : FuncId} {fn : Func} (hf : P.funcs[f]? = some fn) {N : NN} {cuts : List (Nat × List Nat)} {R : Value → World → Prop} :
    ∀ (n : Nat) (chk : Bool) (todo : List Item) (e : Env) (w : World), seg P f N fn.results.toList cuts R n chk todo e w → T P f N todo e w R
  | 0, _, _, _, _, h => h.elim
  | n + 1, chk, todo, e, w, h => by
    have ih := seg_T (N := N) (cuts := cuts) (R := R) hG hm hf n
    unfold seg at h
    split at h
    · rename_i live _
      exact T.forget live h
    · split at h
      · exact T.end hf h
      · rename_i c k _
        split at h
        · exact T.step (fun a cs _ => step_skip) (ih _ _ _ _ h)
        · exact T.step (fun a cs _ => step_label) (ih _ _ _ _ h)
        · exact T.step (fun a cs _ => step_seq) (ih _ _ _ _ h)
        · rename_i id ops d _
          refine T.code hf fun a ha => ?_
          cases d with
          | true => exact drawV_region hG hm (fun e' a' w' ha' hk => .inl ⟨rfl, e', ha', ih _ _ _ _ hk⟩) (fun a w v ha hv => .inr ⟨v, rfl, hv, ha⟩) (fun c a w d v hd hq => After.unput hd hq) ha h
          | false => exact regV_region hG (fun e' a' w' ha' hk => .inl ⟨rfl, e', ha', ih _ _ _ _ hk⟩) (fun a w v ha hv => .inr ⟨v, rfl, hv, ha⟩) ha h
        · rename_i x a b _
          split at h
          · rename_i t ht
            have hset : ∀ act, Agrees N e act → Agrees N (setc e x t) act := fun act ha => by
              cases x with
              | tmp i => exact ha.set_same ht
              | _ => exact ha
            have tset : ∀ todo', T P f N todo' (setc e x t) w R → T P f N todo' e w R := fun todo' hT a ha cs => hT a (hset a ha) cs
            cases t with
            | true => exact T.step (fun a cs ha => step_cond (t := true) (ha.eval ht)) (tset _ (ih _ _ _ _ h))
            | false => exact T.step (fun a cs ha => step_cond (t := false) (ha.eval ht)) (tset _ (ih _ _ _ _ h))
          · exact h.elim
        · exact T.step (fun a cs _ => step_block) (ih _ _ _ _ h)
        · rename_i c _
          exact T.step (fun a cs _ => step_loop) (by
            intro a ha cs
            obtain ⟨v, w', fr, hR, hst, hfn, hl⟩ := ih _ _ _ _ h a ha cs
            obtain ⟨m, hm'⟩ := hst
            cases m with
            | zero =>
              simp only [runN, Stepped.next.injEq] at hm'
              have := congrArg (fun (m : Machine) => (m.gs[0]?).map (fun g => g.frame.mode)) hm'
              simp [lone, Frame.at] at this
              cases v with
              | returned v => have hmode := hl.1; rw [← this] at hmode; cases hmode
              | panicked v => have hmode := hl.1; rw [← this] at hmode; cases hmode
              | outgrown => exact hR.elim
            | succ m =>
              simp only [runN, step_inLoop] at hm'
              exact ⟨v, w', fr, hR, ⟨m, hm'⟩, hfn, hl⟩)
        · rename_i id _
          split at h
          · rename_i k' hk'
            exact T.step (fun a cs _ => step_exit hk') (ih _ _ _ _ h)
          · exact h.elim
        · exact T.step (fun a cs _ => step_scope') (ih _ _ _ _ h)
        · rename_i l _
          split at h
          · rename_i k' hk'
            exact T.step (fun a cs _ => step_goto hk') (ih _ _ _ _ h)
          · exact h.elim
        · exact T.ret hf h
        · exact h.elim
      · exact T.step (fun a cs _ => step_inBlock) (ih _ _ _ _ h)
      · exact T.step (fun a cs _ => step_inScope') (ih _ _ _ _ h)
      · exact T.step (fun a cs _ => step_inLoop) (ih _ _ _ _ h)
      · exact h.elim

/-- What stands behind a label. -/
def labOf (c : Code) (l : Nat) : Code := match findLabel c l with | some r => r | none => .skip
/-- A piece of a body, by its way from the root. -/
def sub : Code → List Nat → Code
  | c, [] => c
  | .seq a b, i :: r => match i with | 0 => sub a r | _ => sub b r
  | .cond _ a b, i :: r => match i with | 0 => sub a r | _ => sub b r
  | .block _ c, _ :: r => sub c r
  | .loop c, _ :: r => sub c r
  | .scope c, _ :: r => sub c r
  | c, _ => c

def bodyOf (f : Func) : Code := match f.body with | some c => c | none => .skip

def bAnd (k : IntKind) (x y : Int) : Int := k.wrap ((BitVec.ofInt k.bits x &&& BitVec.ofInt k.bits y).toNat : Int)
def bOr (k : IntKind) (x y : Int) : Int := k.wrap ((BitVec.ofInt k.bits x ||| BitVec.ofInt k.bits y).toNat : Int)
def bXor (k : IntKind) (x y : Int) : Int := k.wrap ((BitVec.ofInt k.bits x ^^^ BitVec.ofInt k.bits y).toNat : Int)
def bAndNot (k : IntKind) (x y : Int) : Int := k.wrap ((BitVec.ofInt k.bits x &&& ~~~(BitVec.ofInt k.bits y)).toNat : Int)

theorem cond_intro {b : Bool} {A B : Prop} (h1 : b = true → A) (h2 : b = false → B) : cond b A B := by
  cases b
  · exact h2 rfl
  · exact h1 rfl

theorem cond_mapT {α : Type} {b : Bool} {x y : α} {S : α → Prop} {A B : Prop} (h : S (cond b x y)) (f : S x → A) (g : S y → B) : cond b A B := by
  cases b
  · exact g h
  · exact f h
theorem cond_mapP {α : Type} {b : Bool} {x y : α} {S : α → Prop} {A B C D : Prop} (h : S (cond b x y)) (hp : cond b C D) (f : S x → C → A) (g : S y → D → B) : cond b A B := by
  cases b
  · exact g h hp
  · exact f h hp
theorem RunsQ.pure_bind {P : Program} {f : FuncId} {args : Array Value} {w : World} {v : Value} {K Q : Value → World → Prop}
    (h : Runs P f args w fun r w' => r = v ∧ w' = w) (hk : K v w) : RunsQ P f args w K Q := h.to (by rintro _ _ ⟨rfl, rfl⟩; exact hk)
theorem Runs.pure_bind {P : Program} {f : FuncId} {args : Array Value} {w : World} {v : Value} {K : Value → World → Prop}
    (h : Runs P f args w fun r w' => r = v ∧ w' = w) (hk : K v w) : Runs P f args w K := h.mono (by rintro _ _ ⟨rfl, rfl⟩; exact hk)

end Go.Vc
