/-
  A weakest-precondition calculus over short environments (slot, value), on top of the kit's machine steps. Program-independent.
-/
import Derived.Calls
import Derived.Tactics
import Derived.Still
import Derived.StillTail
import Derived.Deep.Quiet
import Derived.Laws.World
import Derived.Laws.Entries
import Derived.Laws.Cells
import Derived.Laws.Slices
import Derived.Laws.Strings
import Derived.Laws.Concat
import Derived.KernelRfl
set_option linter.unusedSimpArgs false
set_option linter.unusedVariables false
namespace Go.Vc

abbrev Env := List (Nat × Value)

def get? : Env → Nat → Option Value
  | [], _ => none
  | (i, v) :: e, k => bif Nat.beq k i then some v else get? e k

def set : Env → Nat → Value → Env
  | [], k, v => [(k, v)]
  | (i, u) :: e, k, v => bif Nat.beq k i then (i, v) :: e else (i, u) :: set e k v

def put (e : Env) : Option Nat → Value → Env
  | some d, v => set e d v
  | none, _ => e

/-- A frame's shape: how many slots it has, what it has deferred, slots that nothing writes any more, and what is owed if it panics. -/
structure NN where
  n : Nat
  d : List Deferred
  keep : Env
  pan : Value → World → Prop
def nn (n : Nat) (Q : Value → World → Prop) : NN := ⟨n, [], [], Q⟩
def NN.calm (N : NN) : NN := ⟨N.n, N.d, N.keep, fun _ _ => False⟩
def keepHas : Env → Nat → Bool
  | [], _ => false
  | (i, _) :: e, k => bif Nat.beq k i then true else keepHas e k
theorem keepHas_none : ∀ (e : Env) (k : Nat), keepHas e k = false → get? e k = none
  | [], _, _ => rfl
  | (i, v) :: e, k, h => by
    simp only [keepHas, cond_eq_ite, Nat.beq_eq] at h
    simp only [get?, cond_eq_ite, Nat.beq_eq]
    by_cases hk : k = i
    · simp [hk] at h
    · simp only [hk, if_false] at h ⊢; exact keepHas_none e k h

/-- The slots of a frame that an environment names hold what it says. -/
def Agrees (N : NN) (e : Env) (a : Act) : Prop :=
  a.tmps.size = N.n ∧ (a.defers = N.d ∧ ∀ i v, get? N.keep i = some v → a.tmps[i]? = some v) ∧ ∀ i v, get? e i = some v → a.tmps[i]? = some v

def slotOk (N : NN) (k : Nat) : Prop := k < N.n ∧ keepHas N.keep k = false

theorem get?_set (e : Env) (k : Nat) (v : Value) (i : Nat) : get? (set e k v) i = if i = k then some v else get? e i := by
  induction e with
  | nil => simp only [set, get?]; by_cases h : i = k <;> simp [h, cond_eq_ite]
  | cons p e ih =>
    obtain ⟨j, u⟩ := p
    simp only [set, cond_eq_ite, Nat.beq_eq]
    by_cases hk : k = j
    · subst hk
      simp only [if_true, get?, cond_eq_ite, Nat.beq_eq]
      by_cases h : i = k <;> simp [h]
    · simp only [hk, if_false, get?, cond_eq_ite, Nat.beq_eq, ih]
      by_cases h : i = j
      · subst h; simp; intro h; exact absurd h.symm hk
      · simp [h]

theorem Agrees.put {n : NN} {e : Env} {a : Act} (h : Agrees n e a) (d : Option Nat) (hd : ∀ k, d = some k → slotOk n k) (v : Value) :
    Agrees n (Vc.put e d v) (a.put d v) := by
  obtain ⟨h1, h2, h3⟩ := h
  cases d with
  | none => exact ⟨h1, h2, h3⟩
  | some d =>
    refine ⟨by simp [Act.put, h1], ⟨h2.1, fun i u hi => ?_⟩, fun i u hi => ?_⟩
    · simp only [Act.put]
      have hne : i ≠ d := by
        rintro rfl
        rw [keepHas_none _ _ (hd i rfl).2] at hi; cases hi
      rw [Array.getElem?_setIfInBounds_ne (by omega)]
      exact h2.2 i u hi
    simp only [Vc.put, get?_set] at hi
    simp only [Act.put]
    by_cases he : i = d
    · subst he
      simp only [if_true, Option.some.injEq] at hi
      subst hi
      have := (hd i rfl).1
      simp [h1, this]
    · simp only [he, if_false] at hi
      rw [Array.getElem?_setIfInBounds_ne (by omega)]
      exact h3 i u hi

def ev (e : Env) : Operand → Option Value
  | .tmp t => get? e t
  | .const v => some v
  | .global g => some (.pointer (some ⟨g, 0, none⟩))
  | .func f => some (.func (.func f) #[] #[])

def ρ (e : Env) (x : Operand) : Value := match ev e x with | some v => v | none => undef

def has (e : Env) : List Operand → Bool
  | [] => true
  | x :: xs => match ev e x with | some _ => has e xs | none => false

theorem Agrees.eval {n : NN} {e : Env} {a : Act} (h : Agrees n e a) {x : Operand} {v : Value} (hx : ev e x = some v) : a.eval x = v := by
  cases x with
  | tmp t =>
    have := h.2.2 t v hx
    simp [Act.eval, Array.getD_eq_getD_getElem?, this]
  | const u => simpa [ev, Act.eval] using hx
  | global g => simpa [ev, Act.eval] using hx
  | func f => simpa [ev, Act.eval] using hx

theorem has_eval {n : NN} {e : Env} {a : Act} (h : Agrees n e a) : ∀ {l : List Operand}, has e l = true → ∀ x ∈ l, a.eval x = ρ e x := by
  intro l
  induction l with
  | nil => intro _ x hx; cases hx
  | cons y l ih =>
    intro hh x hx
    simp only [has] at hh
    cases hy : ev e y with
    | none => simp [hy] at hh
    | some v =>
      simp only [hy] at hh
      rcases List.mem_cons.1 hx with rfl | hx
      · rw [h.eval hy]; simp [ρ, hy]
      · exact ih hh x hx

theorem map_congr_mem {α β : Type} {f g : α → β} {xs : Array α} (h : ∀ x ∈ xs, f x = g x) : xs.map f = xs.map g := by
  apply Array.map_congr_left; exact h

theorem execOp_congr (f g : Operand → Value) (o : Oper) (hs : ∀ cs b, o.op ≠ .select cs b) (h : ∀ x ∈ o.op.operands.toList, f x = g x) : execOp f o = execOp g o := by
  have h' : ∀ x ∈ o.op.operands, f x = g x := fun x hx => h x (by simpa using hx)
  clear h
  obtain ⟨dst, op, type, pos, after, guard⟩ := o
  cases op
  case build t ps =>
    simp only [Op.operands, List.mem_toArray, List.mem_map] at h'
    simp only [execOp]
    congr 2
    apply Array.map_congr_left
    rintro ⟨i, x⟩ hx
    simp only [Prod.mk.injEq, true_and]
    exact h' x ⟨(i, x), by simpa using hx, rfl⟩
  case buildSlice t n ps =>
    simp only [Op.operands, List.mem_toArray, List.mem_map] at h'
    simp only [execOp]
    congr 2
    apply Array.map_congr_left
    rintro ⟨i, x⟩ hx
    simp only [Prod.mk.injEq, true_and]
    exact h' x ⟨(i, x), by simpa using hx, rfl⟩
  case makeFunc fn fs cs =>
    simp only [Op.operands, Array.mem_append] at h'
    simp only [execOp, map_congr_mem fun x hx => h' x (.inl hx), map_congr_mem fun x hx => h' x (.inr hx)]
  case makeMap t r =>
    cases r <;> simp_all [execOp, Op.operands]
  case slice t x l hh m =>
    cases l <;> cases hh <;> cases m <;> simp_all [execOp, Op.operands]
  case call c =>
    simp only [Op.operands, Call.operands, Array.mem_append] at h'
    have ha : c.args.map f = c.args.map g := map_congr_mem fun x hx => h' x (.inr hx)
    simp only [execOp, resolve, ha]
    cases hc : c.callee with
    | value y => rw [hc] at h'; simp [h' y (.inl (by simp))]
    | invoke r m => rw [hc] at h'; simp [h' r (.inl (by simp))]
    | builtin b => rfl
  case go c =>
    simp only [Op.operands, Call.operands, Array.mem_append] at h'
    have ha : c.args.map f = c.args.map g := map_congr_mem fun x hx => h' x (.inr hx)
    simp only [execOp, resolve, ha]
    cases hc : c.callee with
    | value y => rw [hc] at h'; simp [h' y (.inl (by simp))]
    | invoke r m => rw [hc] at h'; simp [h' r (.inl (by simp))]
    | builtin b => rfl
  case defer c =>
    simp only [Op.operands, Call.operands, Array.mem_append] at h'
    have ha : c.args.map f = c.args.map g := map_congr_mem fun x hx => h' x (.inr hx)
    simp only [execOp, resolve, ha]
    cases hc : c.callee with
    | value y => rw [hc] at h'; simp [h' y (.inl (by simp))]
    | invoke r m => rw [hc] at h'; simp [h' r (.inl (by simp))]
    | builtin b => rfl
  case select cs b => exact absurd rfl (hs cs b)
  all_goals simp_all [execOp, Op.operands]


/-! ### Calls, and a frame on its way -/

def RunsQ (P : Program) (f : FuncId) (args : Array Value) (w : World) (R Q : Value → World → Prop) : Prop :=
  Calls P f args w fun e w' => match e with | .returned v => R v w' | .panicked chain => ∃ v, chain = [{ v := v, recovered := false }] ∧ Q v w' | .outgrown => False

/-- The call returns. -/
def Runs (P : Program) (f : FuncId) (args : Array Value) (w : World) (R : Value → World → Prop) : Prop := RunsQ P f args w R fun _ _ => False

theorem RunsQ.mono {P : Program} {f : FuncId} {args : Array Value} {w : World} {R R' Q Q' : Value → World → Prop} (h : RunsQ P f args w R Q) (hr : ∀ v w', R v w' → R' v w') (hq : ∀ v w', Q v w' → Q' v w') : RunsQ P f args w R' Q' :=
  Calls.mono h fun e w' he => by
    cases e with
    | returned v => exact hr _ _ he
    | panicked c => obtain ⟨v, hc, hv⟩ := he; exact ⟨v, hc, hq _ _ hv⟩
    | outgrown => exact he
theorem RunsQ.post {P : Program} {f : FuncId} {args : Array Value} {w : World} {R R' Q : Value → World → Prop} (h : RunsQ P f args w R Q) (hr : ∀ v w', R v w' → R' v w') : RunsQ P f args w R' Q := h.mono hr fun _ _ h => h
theorem Runs.mono {P : Program} {f : FuncId} {args : Array Value} {w : World} {R R' : Value → World → Prop} (h : Runs P f args w R) (hr : ∀ v w', R v w' → R' v w') : Runs P f args w R' :=
  RunsQ.mono h hr fun _ _ h => h
/-- A call that returns, where a panic would be let by. -/
theorem Runs.to {P : Program} {f : FuncId} {args : Array Value} {w : World} {R R' Q : Value → World → Prop} (h : Runs P f args w R) (hr : ∀ v w', R v w' → R' v w') : RunsQ P f args w R' Q :=
  RunsQ.mono h hr fun _ _ h => h.elim

def bf (f : FuncId) : Frame := { (default : Frame) with fn := f, kind := .normal }

def Owes (N : NN) (R : Value → World → Prop) : Ending → World → Prop
  | .returned v, w => R v w
  | .panicked chain, w => ∃ v, chain = [{ v := v, recovered := false }] ∧ N.pan v w
  | .outgrown, _ => False

/-- The frame is about to run what it has deferred. -/
def goes (N : NN) (P : Program) (fr : Frame) (w : World) : Ending → Prop
  | .returned v => fr.mode = .returning ∧ fr.defers = N.d ∧ fr.kind = .normal ∧ (∃ fn, P.funcs[fr.fn]? = some fn ∧ (results fn fr.tmps).run P w = .ok v w) ∧ ∀ i v, get? N.keep i = some v → fr.tmps[i]? = some v
  | .panicked chain => fr.mode = .panicking chain ∧ fr.defers = N.d ∧ fr.kind = .normal ∧ (∃ fn, P.funcs[fr.fn]? = some fn) ∧ ∀ i v, get? N.keep i = some v → fr.tmps[i]? = some v
  | .outgrown => False

/-- From the frame of 'f' that has 'todo' ahead of it, its slots as 'e' says, the frame comes to its end, and 'R' holds (or it panics, and what is owed then holds). -/
def T (P : Program) (f : FuncId) (N : NN) (todo : List Item) (e : Env) (w : World) (R : Value → World → Prop) : Prop :=
  ∀ a, Agrees N e a → ∀ cs, ∃ en w' fr, Owes N R en w' ∧ Steps P (lone ((bf f).at a todo) cs w) (lone fr cs w') ∧ fr.fn = f ∧ goes N P fr w' en

theorem T.step {P : Program} {f : FuncId} {N : NN} {todo todo' : List Item} {e : Env} {w : World} {R : Value → World → Prop}
    (hs : ∀ a cs, Agrees N e a → step P (lone ((bf f).at a todo) cs w) = .next (lone ((bf f).at a todo') cs w)) (h : T P f N todo' e w R) : T P f N todo e w R := by
  intro a ha cs
  obtain ⟨v, w', fr, hR, hst, hfn, hl⟩ := h a ha cs
  exact ⟨v, w', fr, hR, .head (hs a cs ha) hst, hfn, hl⟩

/-- What a piece of code may come to. -/
def After (P : Program) (f : FuncId) (N : NN) (k : List Item) (R : Value → World → Prop) (ex : Exit) (a' : Act) (w' : World) : Prop :=
  (ex = .normal ∧ ∃ e', Agrees N e' a' ∧ T P f N k e' w' R) ∨ (∃ v, ex = .panic [{ v := v, recovered := false }] ∧ N.pan v w' ∧ Agrees N [] a')

theorem T.code {P : Program} {f : FuncId} {fn : Func} (hf : P.funcs[f]? = some fn) {N : NN} {k : List Item} {c : Code} {e : Env} {w : World} {R : Value → World → Prop}
    (h : ∀ a, Agrees N e a → c.wp P (After P f N k R) a w) : T P f N (.code c :: k) e w R := by
  intro a ha cs
  obtain ⟨ex, a', w', hQ, harr⟩ := h a ha (bf f) k cs
  rcases hQ with ⟨rfl, e', ha', hT⟩ | ⟨v, rfl, hp, ha'⟩
  · obtain ⟨v, w'', fr, hR, hst, hfn, hl⟩ := hT a' ha' cs
    exact ⟨v, w'', fr, hR, Steps.trans harr hst, hfn, hl⟩
  · obtain ⟨todo, hst⟩ := harr
    exact ⟨.panicked [{ v := v, recovered := false }], w', _, ⟨v, rfl, hp⟩, hst, rfl, rfl, ha'.2.1.1, rfl, ⟨fn, hf⟩, ha'.2.1.2⟩

def argEnv : Nat → List Value → Env
  | _, [] => []
  | i, v :: vs => (i, v) :: argEnv (i + 1) vs

theorem get?_argEnv : ∀ (vs : List Value) (k i : Nat) (v : Value), get? (argEnv k vs) i = some v → k ≤ i ∧ vs[i - k]? = some v
  | [], _, _, _, h => by simp [argEnv, get?] at h
  | u :: vs, k, i, v, h => by
    simp only [argEnv, get?, cond_eq_ite, Nat.beq_eq] at h
    by_cases hi : i = k
    · subst hi; simp at h; subst h; simp
    · simp only [hi, if_false] at h
      obtain ⟨h1, h2⟩ := get?_argEnv vs (k + 1) i v h
      refine ⟨by omega, ?_⟩
      rw [show i - k = (i - (k + 1)) + 1 by omega]
      simpa using h2

theorem Runs.enter {P : Program} {f : FuncId} {fn : Func} {c : Code} {N : Nat} {args : Array Value} {w : World} {R Q : Value → World → Prop}
    (hf : P.funcs[f]? = some fn) (hb : fn.body = some c) (hN : fn.ntmps = N) (hsz : Nat.ble args.size N = true)
    (h : T P f (nn N Q) [.code c] (argEnv 0 args.toList) w R) : RunsQ P f args w R Q := by
  intro cs
  have hsz' : args.size ≤ N := Nat.le_of_ble_eq_true hsz
  have henter : Frame.enter P f args .normal = (bf f).at { tmps := args ++ Array.replicate (fn.ntmps - args.size) undef, defers := [] } [.code c] := by
    simp [Frame.enter, Frame.at, hf, hb, bf]
  have hag : Agrees (nn N Q) (argEnv 0 args.toList) { tmps := args ++ Array.replicate (fn.ntmps - args.size) undef, defers := [] } := by
    refine ⟨by simp [hN, nn]; omega, ⟨rfl, fun i v hi => by simp [nn, get?] at hi⟩, fun i v hi => ?_⟩
    obtain ⟨_, h2⟩ := get?_argEnv _ _ _ _ hi
    simp only [Nat.sub_zero, Array.getElem?_toList] at h2
    have hlt : i < args.size := by
      rcases Nat.lt_or_ge i args.size with h' | h'
      · exact h'
      · simp [Array.getElem?_eq_none h'] at h2
    rw [Array.getElem?_append_left hlt]; exact h2
  obtain ⟨en, w', fr, hR, hst, hfn, hl⟩ := h _ hag cs
  rw [← henter] at hst
  cases en with
  | returned v =>
    obtain ⟨h1, h2, h3, h4, _⟩ := hl
    exact ⟨.returned v, w', fr, hR, hst, hfn, h1, h2, h3, h4⟩
  | panicked c =>
    obtain ⟨h1, h2, h3, h4, _⟩ := hl
    exact ⟨.panicked c, w', fr, hR, hst, hfn, h1, h2, h4⟩
  | outgrown => exact hR.elim

/-- Forgetting slots. -/
def restrict : List Nat → Env → Env
  | [], _ => []
  | i :: is, e => match get? e i with | some v => (i, v) :: restrict is e | none => restrict is e

theorem get?_restrict : ∀ (l : List Nat) (e : Env) (i : Nat) (v : Value), get? (restrict l e) i = some v → get? e i = some v
  | [], _, _, _, h => by simp [restrict, get?] at h
  | j :: l, e, i, v, h => by
    simp only [restrict] at h
    cases hj : get? e j with
    | none => rw [hj] at h; exact get?_restrict l e i v h
    | some u =>
      rw [hj] at h
      simp only [get?, cond_eq_ite, Nat.beq_eq] at h
      by_cases hi : i = j
      · subst hi; simp at h; subst h; exact hj
      · simp only [hi, if_false] at h; exact get?_restrict l e i v h

theorem T.forget {P : Program} {f : FuncId} {N : NN} {todo : List Item} {e : Env} {w : World} {R : Value → World → Prop} (l : List Nat)
    (h : T P f N todo (restrict l e) w R) : T P f N todo e w R :=
  fun a ha cs => h a ⟨ha.1, ha.2.1, fun i v hi => ha.2.2 i v (get?_restrict l e i v hi)⟩ cs

/-! ### What an operation asks -/

def nilV (p : Option Addr) (K : Addr → Prop) : Prop := match p with | some a => K a | none => False

def can (w : World) (x : Addr) : Prop := (∃ u, w.cell? x = some u) ∧ w.frozen? x = false

def bindLeaf (P : Program) (t : TypeId) (K : Value → Prop) : Prop :=
  match P.underlying t with
  | some (.int k) => ∃ n : Int, K (.int k n)
  | some .bool => ∃ b : Bool, K (.bool b)
  | some .string => ∃ s : ByteArray, K (.string s)
  | some (.pointer _) => ∃ p : Option Addr, K (.pointer p)
  | some (.slice _) => ∃ (a : Option Addr) (l c : Nat), K (.slice a l c)
  | some (.float k) => ∃ n : Nat, K (.float k n)
  | some (.tuple _) => K (.tuple #[])
  | some (.func _ rs _) => bif rs.isEmpty then ∃ g : FuncId, K (.func (.func g) #[] #[]) else ∃ v : Value, K v
  | some (.interface _) => ∃ (t : TypeId) (v : Value), K (.iface t v)
  | some (.map _ _) => ∃ v : Value, K v
  | _ => False

theorem bindLeaf_elim {P : Program} {t : TypeId} {K : Value → Prop} (h : bindLeaf P t K) : ∃ v, K v ∧ ∃ d, P.underlying t = some d := by
  unfold bindLeaf at h
  cases hu : P.underlying t with
  | none => simp [hu] at h
  | some d =>
    simp only [hu] at h
    cases d with
    | func ps rs v =>
      cases hr : rs.isEmpty with
      | true => simp only [hr, cond_true] at h; obtain ⟨x, hk⟩ := h; exact ⟨_, hk, _, rfl⟩
      | false => simp only [hr, cond_false] at h; obtain ⟨x, hk⟩ := h; exact ⟨_, hk, _, rfl⟩
    | _ => first | (obtain ⟨x, y, z, hk⟩ := h; exact ⟨_, hk, _, rfl⟩) | (obtain ⟨x, y, hk⟩ := h; exact ⟨_, hk, _, rfl⟩) | (obtain ⟨x, hk⟩ := h; exact ⟨_, hk, _, rfl⟩) | exact ⟨_, h, _, rfl⟩ | exact h.elim

def leaves (P : Program) : Nat → TypeId → List TypeId
  | 0, _ => []
  | n + 1, t =>
    match P.underlying t with
    | some (.struct fs) => (fs.toList.map fun f => leaves P n f.type).flatten
    | some (.array len e) => (List.replicate len (leaves P n e)).flatten
    | _ => [t]

def bindLeaves (P : Program) : List TypeId → (List Value → Prop) → Prop
  | [], K => K []
  | t :: ts, K => bindLeaf P t fun v => bindLeaves P ts fun vs => K (v :: vs)

theorem bindLeaves_elim {P : Program} : ∀ {ts : List TypeId} {K : List Value → Prop}, bindLeaves P ts K → ∃ vs, vs.length = ts.length ∧ K vs
  | [], _, h => ⟨[], rfl, h⟩
  | t :: ts, K, h => by
    obtain ⟨v, h, _⟩ := bindLeaf_elim h
    obtain ⟨vs, hl, hk⟩ := bindLeaves_elim h
    exact ⟨v :: vs, by simp [hl], hk⟩

def isAggB (P : Program) (t : TypeId) : Bool :=
  match P.underlying t with
  | some (.struct _) => true
  | some (.array _ _) => true
  | _ => false

def bindT (P : Program) (t : TypeId) (K : Value → Prop) : Prop :=
  bif isAggB P t then bindLeaves P (leaves P 20 t) fun vs => K (.agg vs.toArray) else bindLeaf P t K

theorem bindT_elim {P : Program} {t : TypeId} {K : Value → Prop} (h : bindT P t K) : ∃ v, K v := by
  unfold bindT at h
  cases hb : isAggB P t with
  | true => simp only [hb, cond_true] at h; obtain ⟨vs, _, hk⟩ := bindLeaves_elim h; exact ⟨_, hk⟩
  | false => simp only [hb, cond_false] at h; obtain ⟨v, hk, _⟩ := bindLeaf_elim h; exact ⟨_, hk⟩

def bindTs (P : Program) : List TypeId → (List Value → Prop) → Prop
  | [], K => K []
  | t :: ts, K => bindT P t fun v => bindTs P ts fun vs => K (v :: vs)

theorem bindTs_elim {P : Program} : ∀ {ts : List TypeId} {K : List Value → Prop}, bindTs P ts K → ∃ vs, K vs
  | [], _, h => ⟨[], h⟩
  | t :: ts, K, h => by
    obtain ⟨v, h⟩ := bindT_elim h
    obtain ⟨vs, hk⟩ := bindTs_elim h
    exact ⟨v :: vs, hk⟩

def shapeR (P : Program) (ts : List TypeId) (v : Value) (K : Value → Prop) : Prop :=
  match ts with
  | [t] => bindT P t fun u => v = u ∧ K u
  | ts => bindTs P ts fun vs => v = .tuple vs.toArray ∧ K (.tuple vs.toArray)

theorem shapeR_elim {P : Program} {ts : List TypeId} {v : Value} {K : Value → Prop} (h : shapeR P ts v K) : K v := by
  unfold shapeR at h
  split at h
  · obtain ⟨u, rfl, hk⟩ := bindT_elim h; exact hk
  · obtain ⟨vs, rfl, hk⟩ := bindTs_elim h; exact hk

def cellsK (w : World) (a : Addr) : Nat → List Value → Prop → Prop
  | _, [], K => K
  | i, v :: vs, K => w.cell? (a.add i) = some v ∧ cellsK w a (i + 1) vs K

theorem cellsK_elim {w : World} {a : Addr} : ∀ {vs : List Value} {i : Nat} {K : Prop}, cellsK w a i vs K → K ∧ ∀ j v, vs[j]? = some v → w.cell? (a.add (i + j)) = some v
  | [], _, _, h => ⟨h, fun j v hj => by simp at hj⟩
  | u :: vs, i, K, h => by
    obtain ⟨h1, h2⟩ := h
    obtain ⟨hk, hc⟩ := cellsK_elim h2
    refine ⟨hk, fun j v hj => ?_⟩
    cases j with
    | zero => simp at hj; subst hj; exact h1
    | succ j =>
      have := hc j v (by simpa using hj)
      rwa [show i + 1 + j = i + (j + 1) by omega] at this

def loadV (P : Program) (t : TypeId) (v : Value) (w : World) (K : Value → Prop) : Prop :=
  match v with
  | .pointer p => nilV p fun a =>
    bif isAggB P t then
      match P.info? t with
      | some i => bif Nat.beq (leaves P 20 t).length i.size then bindLeaves P (leaves P 20 t) fun vs => cellsK w a 0 vs (K (.agg vs.toArray)) else False
      | none => False
    else bindLeaf P t fun v => w.cell? a = some v ∧ K v
  | _ => False

theorem run_isAgg {P : Program} {t : TypeId} {d : TypeDesc} (h : P.underlying t = some d) (w : World) : (isAgg t).run P w = .ok (isAggB P t) w := by
  unfold isAgg isAggB
  simp only [Sem.run_bind, run_underlying h, Result.andThen_ok, h]
  cases d <;> rfl

theorem loadV_var {P : Program} {t : TypeId} {a : Addr} {w : World} {K : Value → Prop} (h : loadV P t (.pointer (some a)) w K) : ∃ u, (loadVar t a).run P w = .ok u w ∧ K u := by
  unfold loadV nilV at h
  cases hb : isAggB P t with
  | true =>
    simp only [hb, cond_true] at h
    have hu : ∃ d, P.underlying t = some d := by
      unfold isAggB at hb
      cases hu : P.underlying t with
      | none => simp [hu] at hb
      | some d => exact ⟨d, rfl⟩
    obtain ⟨d, hu⟩ := hu
    cases hi : P.info? t with
    | none => simp [hi] at h
    | some i =>
      simp only [hi] at h
      cases hs : Nat.beq (leaves P 20 t).length i.size with
      | false => simp [hs] at h
      | true =>
        simp only [hs, cond_true] at h
        obtain ⟨vs, hl, hk⟩ := bindLeaves_elim h
        obtain ⟨hk, hc⟩ := cellsK_elim hk
        have hsz : vs.length = i.size := by rw [hl]; exact Nat.eq_of_beq_eq_true hs
        refine ⟨.agg vs.toArray, ?_, hk⟩
        have := run_loadCells_list (P := P) w a vs (fun j v hj => by simpa using hc j v hj)
        simp [loadVar, run_isAgg hu, hb, sizeOf, typeInfo, hi, ← hsz, this]
  | false =>
    simp only [hb, cond_false] at h
    obtain ⟨v, ⟨hc, hk⟩, d, hu⟩ := bindLeaf_elim h
    refine ⟨v, ?_, hk⟩
    simp [loadVar, run_isAgg hu, hb, hc]

def storesK (a : Addr) : Nat → List Value → World → (World → Prop) → Prop
  | _, [], w, K => K w
  | i, v :: vs, w, K => bif v.oneCell' then can w (a.add i) ∧ storesK a (i + 1) vs (w.setCell (a.add i) v) K else False

theorem storesK_run {P : Program} {a : Addr} : ∀ {vs : List Value} {i : Nat} {w : World} {K : World → Prop}, storesK a i vs w K → ∃ w', (storeCells a vs i).run P w = .ok () w' ∧ K w'
  | [], _, w, _, h => ⟨w, rfl, h⟩
  | v :: vs, i, w, K, h => by
    unfold storesK at h
    cases hv : v.oneCell' with
    | false => simp [hv] at h
    | true =>
      simp only [hv, cond_true] at h
      obtain ⟨⟨⟨u, hc⟩, hf⟩, h⟩ := h
      obtain ⟨w', hr, hk⟩ := storesK_run (P := P) h
      refine ⟨w', ?_, hk⟩
      unfold storeCells
      simp only [Sem.run_bind, run_store P w _ v _ hv, hc, hf, Bool.false_eq_true, if_false, Result.andThen_ok, hr]

def storeV (P : Program) (t : TypeId) (v x : Value) (w : World) (K : World → Prop) : Prop :=
  match v with
  | .pointer p => nilV p fun a =>
    match P.info? t with
    | some i => bif Nat.beq x.cells.size i.size then storesK a 0 x.cells.toList w K else False
    | none => False
  | _ => False

theorem storeV_run {P : Program} {t : TypeId} {v x : Value} {w : World} {K : World → Prop} (h : storeV P t v x w K) : ∃ w', (Instr.storeAt t v x).run P w = .ok () w' ∧ K w' := by
  unfold storeV at h
  split at h
  · rename_i p
    cases p with
    | none => exact h.elim
    | some a =>
    simp only [nilV] at h
    cases hi : P.info? t with
    | none => simp [hi] at h
    | some i =>
      simp only [hi] at h
      cases hs : Nat.beq x.cells.size i.size with
      | false => simp [hs] at h
      | true =>
        simp only [hs, cond_true] at h
        obtain ⟨w', hr, hk⟩ := storesK_run (P := P) h
        have hs' := Nat.eq_of_beq_eq_true hs
        refine ⟨w', ?_, hk⟩
        simp [Instr.storeAt, Instr.sureAddr, storeVar, sizeOf, typeInfo, hi, hs', hr]
  · exact h.elim

def idxV (P : Program) (t : TypeId) (x i : Value) (K : Value → Prop) : Prop :=
  match i with
  | .int _ n =>
    match P.underlying t, x with
    | some (.array len e), .pointer (some a) =>
      match P.info? e with
      | some j => (0 ≤ n ∧ n < (len : Int)) ∧ K (.pointer (some (a.add (n.toNat * j.size))))
      | none => False
    | some (.slice e), .slice base len _ =>
      match P.info? e with
      | some j => (0 ≤ n ∧ n < (len : Int)) ∧ nilV base fun a => K (.pointer (some (a.add (n.toNat * j.size))))
      | none => False
    | _, _ => False
  | _ => False

theorem idxV_run {P : Program} {t : TypeId} {x i : Value} {K : Value → Prop} (h : idxV P t x i K) : ∃ u, (∀ w, (Instr.indexAt t x i).run P w = .ok u w) ∧ K u := by
  unfold idxV at h
  split at h
  · rename_i k n
    split at h
    · rename_i len e a hu
      split at h
      · rename_i j hj
        obtain ⟨hn, hk⟩ := h
        exact ⟨_, fun w => by simp [Instr.indexAt, asIntOf, run_underlying hu, Instr.sureAddr, hn, sizeOf, typeInfo, hj], hk⟩
      · exact h.elim
    · rename_i e base len cap hu
      split at h
      · rename_i j hj
        obtain ⟨hn, hk⟩ := h
        cases base with
        | none => exact hk.elim
        | some a => exact ⟨_, fun w => by simp [Instr.indexAt, asIntOf, run_underlying hu, hn, sizeOf, typeInfo, hj], hk⟩
      · exact h.elim
    · exact h.elim
  · exact h.elim

def slAddr (a : Option Addr) (l m s : Nat) : Option Addr := if m = l then a else a.map fun x => x.add (l * s)

/-- A bound of a slice expression: what is said, or else d. -/
def bnd (v : Option Value) (d : Int) : Int := match v with | some (.int _ n) => n | _ => d

def bndOk (v : Option Value) : Bool := match v with | some (.int _ _) => true | none => true | _ => false

def sliceV (P : Program) (t : TypeId) (x : Value) (lo hi mx : Option Value) (K : Value → Prop) : Prop :=
  bif bndOk lo && bndOk hi && bndOk mx && (hi.isSome || mx.isNone) then
    match P.underlying t, x with
    | some (.slice e), .slice a len cap =>
      match P.info? e with
      | some j => (0 ≤ bnd lo 0 ∧ bnd lo 0 ≤ bnd hi len ∧ bnd hi len ≤ bnd mx cap ∧ bnd mx cap ≤ (cap : Int)) ∧
          K (.slice (slAddr a (bnd lo 0).toNat (bnd mx cap).toNat j.size) ((bnd hi len).toNat - (bnd lo 0).toNat) ((bnd mx cap).toNat - (bnd lo 0).toNat))
      | none => False
    | some (.array n e), .pointer (some a) =>
      match P.info? e with
      | some j => (0 ≤ bnd lo 0 ∧ bnd lo 0 ≤ bnd hi n ∧ bnd hi n ≤ bnd mx n ∧ bnd mx n ≤ (n : Int)) ∧
          K (.slice (slAddr (some a) (bnd lo 0).toNat (bnd mx n).toNat j.size) ((bnd hi n).toNat - (bnd lo 0).toNat) ((bnd mx n).toNat - (bnd lo 0).toNat))
      | none => False
    | some .string, .string s =>
      bif mx.isNone then (0 ≤ bnd lo 0 ∧ bnd lo 0 ≤ bnd hi s.size ∧ bnd hi s.size ≤ (s.size : Int)) ∧ K (.string (s.extract (bnd lo 0).toNat (bnd hi s.size).toNat)) else False
    | _, _ => False
  else False

theorem run_sliceBounds {P : Program} {w : World} (isS : Bool) (len cap : Nat) (lo hi mx : Option Value) (ho : (bndOk lo && bndOk hi && bndOk mx && (hi.isSome || mx.isNone)) = true)
    (h : 0 ≤ bnd lo 0 ∧ bnd lo 0 ≤ bnd hi len ∧ bnd hi len ≤ bnd mx cap ∧ bnd mx cap ≤ (cap : Int)) (hl : hi.isNone = true → len ≤ cap ∧ mx = none) :
    (Instr.sliceBounds isS len cap lo hi mx).run P w = .ok ((bnd lo 0).toNat, (bnd hi len).toNat, (bnd mx cap).toNat) w := by
  obtain ⟨h0, h1, h2, h3⟩ := h
  simp only [Bool.and_eq_true] at ho
  obtain ⟨⟨⟨o1, o2⟩, o3⟩, o4⟩ := ho
  have key : ∀ (k : IntKind) (n : Int) (y : Nat) (c : BoundsCode), 0 ≤ n → n ≤ (y : Int) → (Instr.sliceBound (.int k n) y c).run P w = .ok n.toNat w := fun k n y c a b => by
    simp [Instr.sliceBound, asIntOf, a, b]
  unfold Instr.sliceBounds
  cases mx with
  | none =>
    cases hi with
    | none =>
      cases lo with
      | none => simp [bnd]
      | some l =>
        cases l <;> simp [bndOk] at o1
        rename_i k n
        simp only [bnd] at *
        simp [key k n len _ h0 (by simpa using h1)]
    | some hv =>
      cases hv <;> simp [bndOk] at o2
      rename_i kh nh
      simp only [bnd] at *
      cases lo with
      | none => simp only [bnd] at *; simp [key kh nh cap _ (by omega) (by simpa using h2)]
      | some l =>
        cases l <;> simp [bndOk] at o1
        rename_i k n
        simp only [bnd] at *
        simp [key kh nh cap _ (by omega) (by simpa using h2), key k n nh.toNat _ h0 (by omega)]
  | some mv =>
    cases mv <;> simp [bndOk] at o3
    rename_i km nm
    cases hi with
    | none => simp at o4
    | some hv =>
      cases hv <;> simp [bndOk] at o2
      rename_i kh nh
      simp only [bnd] at *
      cases lo with
      | none => simp only [bnd] at *; simp [key km nm cap _ (by omega) h3, key kh nh nm.toNat _ (by omega) (by omega)]
      | some l =>
        cases l <;> simp [bndOk] at o1
        rename_i k n
        simp only [bnd] at *
        simp [key km nm cap _ (by omega) h3, key kh nh nm.toNat _ (by omega) (by omega), key k n nh.toNat _ h0 (by omega)]

theorem sliceV_run {P : Program} {t : TypeId} {x : Value} {lo hi mx : Option Value} {K : Value → Prop} (h : sliceV P t x lo hi mx K) :
    ∃ u, (∀ w, (Instr.sliceAt t x lo hi mx).run P w = .ok u w) ∧ K u := by
  unfold sliceV at h
  cases ho : bndOk lo && bndOk hi && bndOk mx && (hi.isSome || mx.isNone) with
  | false => rw [ho] at h; exact h.elim
  | true =>
    rw [ho, cond_true] at h
    have hmx : hi.isNone = true → mx = none := fun hn => by
      simp only [Bool.and_eq_true, Bool.or_eq_true] at ho
      rcases ho.2 with h' | h'
      · cases hi <;> simp at hn h'
      · cases mx <;> simp at h' ⊢
    split at h
    · rename_i e a len cap hu
      split at h
      · rename_i j hj
        obtain ⟨hb, hk⟩ := h
        refine ⟨_, fun w => ?_, hk⟩
        have hs := run_sliceBounds (P := P) (w := w) true len cap lo hi mx ho hb (fun hn => by
          have := hmx hn; subst this
          cases hi <;> simp at hn
          simp only [bnd] at hb
          exact ⟨by omega, rfl⟩)
        simp only [Instr.sliceAt, Instr.slice, Sem.run_bind, run_underlying hu, Result.andThen_ok, hs, sizeOf, typeInfo, run_program, hj, Sem.run_pure, slAddr]
      · exact h.elim
    · rename_i n e a hu
      split at h
      · rename_i j hj
        obtain ⟨hb, hk⟩ := h
        refine ⟨_, fun w => ?_, hk⟩
        have hs := run_sliceBounds (P := P) (w := w) false n n lo hi mx ho hb (fun hn => ⟨Nat.le_refl _, hmx hn⟩)
        simp only [Instr.sliceAt, Instr.sureAddr, Sem.run_bind, run_underlying hu, Result.andThen_ok, hs, sizeOf, typeInfo, run_program, hj, Sem.run_pure, slAddr, Option.map_some]
        split <;> rfl
      · exact h.elim
    · rename_i s hu
      cases mx with
      | some m => exact h.elim
      | none =>
        simp only [Option.isNone_none, cond_true] at h
        obtain ⟨hb, hk⟩ := h
        refine ⟨_, fun w => ?_, hk⟩
        have hs := run_sliceBounds (P := P) (w := w) false s.size s.size lo hi none ho ⟨hb.1, hb.2.1, hb.2.2, Int.le_refl _⟩ (fun _ => ⟨Nat.le_refl _, rfl⟩)
        simp [Instr.sliceAt, Instr.slice, run_underlying hu, hs]
    · exact h.elim

/-- The byte at i. -/
def byteAt (s : ByteArray) (i : Nat) : Int := ((s.data.getD i 0).toNat : Int)

def idxStrV (P : Program) (t : TypeId) (x i : Value) (K : Value → Prop) : Prop :=
  match P.underlying t, x, i with
  | some .string, .string s, .int _ n => (0 ≤ n ∧ n < (s.size : Int)) ∧ K (.int .u8 (byteAt s n.toNat))
  | _, _, _ => False

theorem idxStrV_run {P : Program} {t : TypeId} {x i : Value} {K : Value → Prop} (h : idxStrV P t x i K) : ∃ u, (∀ w, (Instr.index t x i).run P w = .ok u w) ∧ K u := by
  unfold idxStrV at h
  split at h
  · rename_i s k n hu
    obtain ⟨⟨h0, h1⟩, hk⟩ := h
    refine ⟨_, fun w => ?_, hk⟩
    have hlt : n.toNat < s.size := by omega
    simp only [Instr.index, asIntOf, Sem.run_bind, Sem.run_pure, Result.andThen_ok, run_underlying hu, h0, if_true, ByteArray.getElem?_lt' s n.toNat hlt, byteAt]
    congr 3
    have : n.toNat < s.data.size := hlt
    simp only [Array.getD]
    rw [dif_pos this]
    rfl
  · exact h.elim

def rawV (P : Program) (f : Operand → Value) (o : Oper) (w : World) (K : Value → World → Prop) : Prop :=
  match (execOp f o).run P w with
  | .ok (.value v) w' => K v w'
  | .ok .skip w' => K undef w'
  | _ => False

def isConst : Operand → Bool
  | .const _ => true
  | _ => false

def isAggV : Value → Bool
  | .agg _ => true
  | _ => false

/-- Two structs or arrays compared: cell by cell, by the law on '=='. -/
def heavyV (P : Program) (s : Sem Value) (t : TypeId) (w : World) (K : Value → World → Prop) : Prop :=
  bindT P t fun u => ∃ w', s.run P w = .ok u w' ∧ K u w'

def binV (P : Program) (f : Operand → Value) (o : Oper) (op : BinOp) (t : TypeId) (x y : Operand) (w : World) (K : Value → World → Prop) : Prop :=
  bif isConst y && !(isAggV (f x)) then
    match op, f x, f y with
    | .eql, .pointer p, .pointer none => match P.underlying t with | some (.pointer _) => K (.bool p.isNone) w | _ => False
    | .neq, .pointer p, .pointer none => match P.underlying t with | some (.pointer _) => K (.bool !p.isNone) w | _ => False
    | .eql, .slice a _ _, .slice none _ _ => match P.underlying t with | some (.slice _) => K (.bool a.isNone) w | _ => False
    | .neq, .slice a _ _, .slice none _ _ => match P.underlying t with | some (.slice _) => K (.bool !a.isNone) w | _ => False
    | .add, .string a, .string b => ((a.size + b.size : Nat) : Int) ≤ 9223372036854775807 ∧ K (.string (a ++ b)) w
    | .add, .float k a, .float k' b => heavyV P (do eqGuard .add t x y (.float k a) (.float k' b); Go.binOp .add t (.float k a) (.float k' b)) o.type w K
    | .sub, .float k a, .float k' b => heavyV P (do eqGuard .sub t x y (.float k a) (.float k' b); Go.binOp .sub t (.float k a) (.float k' b)) o.type w K
    | .mul, .float k a, .float k' b => heavyV P (do eqGuard .mul t x y (.float k a) (.float k' b); Go.binOp .mul t (.float k a) (.float k' b)) o.type w K
    | .quo, .float k a, .float k' b => heavyV P (do eqGuard .quo t x y (.float k a) (.float k' b); Go.binOp .quo t (.float k a) (.float k' b)) o.type w K
    | _, _, _ => rawV P f o w K
  else
    match op, f x, f y with
    | .quo, .int k a, .int k' b => k = k' ∧ b ≠ 0 ∧ K (.int k (k.wrap (a.tdiv b))) w
    | .rem, .int k a, .int k' b => k = k' ∧ b ≠ 0 ∧ K (.int k (a.tmod b)) w
    | .shl, .int k a, .int _ b => 0 ≤ b ∧ K (.int k (k.wrap (a * 2 ^ (min b.toNat k.bits)))) w
    | .shr, .int k a, .int _ b => 0 ≤ b ∧ K (.int k (a.fdiv (2 ^ (min b.toNat k.bits)))) w
    | .add, .string a, .string b => ((a.size + b.size : Nat) : Int) ≤ 9223372036854775807 ∧ K (.string (a ++ b)) w
    | .eql, .agg a, .agg b => heavyV P (do eqGuard .eql t x y (.agg a) (.agg b); Go.binOp .eql t (.agg a) (.agg b)) o.type w K
    | .neq, .agg a, .agg b => heavyV P (do eqGuard .neq t x y (.agg a) (.agg b); Go.binOp .neq t (.agg a) (.agg b)) o.type w K
    | .eql, .pointer a, .pointer b => heavyV P (do eqGuard .eql t x y (.pointer a) (.pointer b); Go.binOp .eql t (.pointer a) (.pointer b)) o.type w K
    | .neq, .pointer a, .pointer b => heavyV P (do eqGuard .neq t x y (.pointer a) (.pointer b); Go.binOp .neq t (.pointer a) (.pointer b)) o.type w K
    | .add, .float k a, .float k' b => heavyV P (do eqGuard .add t x y (.float k a) (.float k' b); Go.binOp .add t (.float k a) (.float k' b)) o.type w K
    | .sub, .float k a, .float k' b => heavyV P (do eqGuard .sub t x y (.float k a) (.float k' b); Go.binOp .sub t (.float k a) (.float k' b)) o.type w K
    | .mul, .float k a, .float k' b => heavyV P (do eqGuard .mul t x y (.float k a) (.float k' b); Go.binOp .mul t (.float k a) (.float k' b)) o.type w K
    | .quo, .float k a, .float k' b => heavyV P (do eqGuard .quo t x y (.float k a) (.float k' b); Go.binOp .quo t (.float k a) (.float k' b)) o.type w K
    | _, _, _ => rawV P f o w K

/-- A function without a Go body: what its entry says. -/
def extV (P : Program) (g : FuncId) (args : Array Value) (ts : List TypeId) (w : World) (K : Value → World → Prop) : Prop :=
  match ts with
  | [t] => bindT P t fun u => ∃ w', (callFunc g args).run P w = .ok (.value u) w' ∧ K u w'
  | _ => False

def callV (P : Program) (Q : Value → World → Prop) (g : FuncId) (args : Array Value) (w : World) (K : Value → World → Prop) : Prop :=
  match P.funcs[g]? with
  | some fn => bif fn.body.isSome then RunsQ P g args w (fun v w' => shapeR P fn.resultTypes.toList v fun u => K u w') Q else extV P g args fn.resultTypes.toList w K
  | none => False

/-- A call by a function value. -/
def dynV (P : Program) (Q : Value → World → Prop) (g : FuncId) (args : Array Value) (w : World) (K : Value → World → Prop) : Prop :=
  ∃ fn, P.funcs[g]? = some fn ∧ fn.body.isSome = true ∧ RunsQ P g args w K Q

/-- The types of a call's results. -/
def tysOf (P : Program) (t : TypeId) : List TypeId := match P.underlying t with | some (.tuple ts) => ts.toList | _ => [t]
/-- A result that a value's caller sees. -/
def resd (P : Program) (t : TypeId) : Bool := match P.underlying t with | some (.interface _) => true | some (.int _) => true | some (.bool) => true | some (.tuple ts) => !ts.isEmpty | _ => false
/-- A call by a function value that hands back. -/
def dynF (P : Program) (Q : Value → World → Prop) (fv : Value) (args : Array Value) (t : TypeId) (w : World) (K : Value → World → Prop) : Prop :=
  ∃ (g : FuncId) (as cs : Array Value) (fn : Func), fv = .func (.func g) as cs ∧ P.funcs[g]? = some fn ∧ fn.body.isSome = true ∧ RunsQ P g (as ++ args ++ cs) w (fun v w' => shapeR P (tysOf P t) v fun u => K u w') Q
/-- A call through an interface. -/
def dynI (P : Program) (Q : Value → World → Prop) (recv : Value) (name : String) (args : Array Value) (t : TypeId) (w : World) (K : Value → World → Prop) : Prop :=
  ∃ (g : FuncId) (as : Array Value), (callMethod recv name ((#[recv] ++ args).extract 1 (#[recv] ++ args).size)).run P w = .ok (.enter g as) w ∧ RunsQ P g as w (fun v w' => shapeR P (tysOf P t) v fun u => K u w') Q
/-- A struct of fields is asserted: what stands there is known. -/
def rawAssert (P : Program) (t : TypeId) : Bool := match P.underlying t with | some (.struct fs) => !fs.isEmpty | _ => false
def assertV (P : Program) (x : Value) (xt at_ : TypeId) (ok : Bool) (w : World) (K : Value → World → Prop) : Prop :=
  bif ok then
    (match P.underlying at_ with
      | some (.interface _) => ∃ (u : Value) (b : Bool) (w' : World), (Instr.typeAssert x xt at_ true).run P w = .ok (.tuple #[u, .bool b]) w' ∧ K (.tuple #[u, .bool b]) w'
      | _ => bindT P at_ fun u => ∃ (b : Bool) (w' : World), (Instr.typeAssert x xt at_ true).run P w = .ok (.tuple #[u, .bool b]) w' ∧ K (.tuple #[u, .bool b]) w')
  else bindT P at_ fun u => ∃ w' : World, (Instr.typeAssert x xt at_ false).run P w = .ok u w' ∧ K u w'
def lookupV (P : Program) (t : TypeId) (x i : Value) (w : World) (K : Value → World → Prop) : Prop :=
  match P.underlying t with
  | some (.map _ e) => bindT P e fun u => ∃ (b : Bool) (w' : World), (Instr.lookup t x i true).run P w = .ok (.tuple #[u, .bool b]) w' ∧ K (.tuple #[u, .bool b]) w'
  | _ => False
def makeMapV (P : Program) (t : TypeId) (w : World) (K : Value → World → Prop) : Prop := ∃ (u : Value) (w' : World), (Instr.makeMap t none).run P w = .ok u w' ∧ K u w'
def insertV (P : Program) (t : TypeId) (m k x : Value) (w : World) (K : Value → World → Prop) : Prop := ∃ w' : World, (Instr.mapUpdate t m k x).run P w = .ok () w' ∧ K undef w'

/-- The world with the iterator in block r set on to pos. -/
def World.iterAt (w : World) (r : Nat) (s : ByteArray) (pos : Nat) : World := { w with heap := w.heap.setIfInBounds r (.stringIter s pos) }
/-- One step of a range over a string. -/
def iterV (v : Value) (w : World) (K : Value → World → Prop) : Prop :=
  match v with
  | .pointer (some ⟨r, 0, none⟩) => ∃ (s : ByteArray) (pos : Nat), w.heap[r]? = some (.stringIter s pos) ∧
      cond (Nat.blt pos s.size) (K (.tuple #[.bool true, .int .i64 ((pos : Nat) : Int), .int .i32 (((Utf8.decode s pos).1 : Nat) : Int)]) (World.iterAt w r s (pos + (Utf8.decode s pos).2))) (K (.tuple #[.bool false]) w)
  | _ => False
theorem iterV_run {P : Program} {v : Value} {w : World} {K : Value → World → Prop} {ty : TypeId} (h : iterV v w K) : ∃ u w', (Instr.next v true ty).run P w = .ok u w' ∧ K u w' := by
  unfold iterV at h
  split at h
  · rename_i r
    obtain ⟨s, pos, hr, h⟩ := h
    cases hb : Nat.blt pos s.size with
    | true =>
      rw [hb] at h
      have hlt : pos < s.size := by simpa [Nat.blt_eq] using hb
      refine ⟨_, _, ?_, h⟩
      simp [Instr.next, getObj, setObj, Sem.run, Sem.bind, hr, hlt, goInt, World.iterAt, bind]
    | false =>
      rw [hb] at h
      have hlt : ¬ pos < s.size := by
        intro g
        rw [← Nat.blt_eq] at g
        rw [g] at hb; cases hb
      refine ⟨_, _, ?_, h⟩
      simp [Instr.next, getObj, Sem.run, Sem.bind, hr, hlt, bind]
  · exact h.elim

def opV (P : Program) (Q : Value → World → Prop) (f : Operand → Value) (o : Oper) (w : World) (K : Value → World → Prop) : Prop :=
  match o.op with
  | .move x => K (f x) w
  | .assign x => K (f x) w
  | .pick c a b => match f c with | .bool t => K (cond t (f a) (f b)) w | _ => False
  | .load t x => loadV P t (f x) w fun v => K v w
  | .store t x y => storeV P t (f x) (f y) w fun w' => K undef w'
  | .nilCheck x => match f x with | .pointer p => nilV p fun a => K (.pointer (some a)) w | _ => False
  | .indexAddr t x i => idxV P t (f x) (f i) fun v => K v w
  | .index t x i => idxStrV P t (f x) (f i) fun v => K v w
  | .slice t x l h m => sliceV P t (f x) (l.map f) (h.map f) (m.map f) fun v => K v w
  | .sliceToArrayPointer t x => match P.underlying t, f x with | some (.array n _), .slice a len _ => n ≤ len ∧ K (.pointer a) w | _, _ => False
  | .binOp op t x y _ => binV P f o op t x y w K
  | .makeSlice t l c => heavyV P (Instr.makeSlice t (f l) (f c)) o.type w K
  | .convert s d x => match P.underlying s with | some (.slice _) => heavyV P (Go.convert s d (f x)) o.type w K | some (.float _) => heavyV P (Go.convert s d (f x)) o.type w K | _ => rawV P f o w K
  | .call c =>
    match c.callee with
    | .value (.func g) => callV P Q g (c.args.map f) w K
    | .value x => bif resd P o.type then dynF P Q (f x) (c.args.map f) o.type w K else match f x with | .func (.func g) fs cs => bif fs.isEmpty && cs.isEmpty then dynV P Q g (c.args.map f) w K else dynV P Q g (fs ++ c.args.map f ++ cs) w K | _ => False
    | .invoke r name => dynI P Q (f r) name (c.args.map f) o.type w K
    | .builtin .append => heavyV P (Builtin.append_ c.argTypes o.type (c.args.map f)) o.type w K
    | .builtin .copy => heavyV P (Builtin.copy_ c.argTypes o.type (c.args.map f)) o.type w K
    | .builtin .clear => heavyV P (Builtin.clear_ c.argTypes o.type (c.args.map f)) o.type w K
    | .builtin _ => rawV P f o w K
  | .typeAssert x xt at_ ok => bif rawAssert P at_ then rawV P f o w K else assertV P (f x) xt at_ ok w K
  | .lookup t x i true => lookupV P t (f x) (f i) w K
  | .makeMap t none => makeMapV P t w K
  | .insert t m k x => insertV P t (f m) (f k) (f x) w K
  | .panic x => match f x with | .iface t v => Q (.iface t v) w | _ => False
  | .select _ _ => False
  | .next x true => iterV (f x) w K
  | _ => rawV P f o w K

/-- No function of the program is the one that the machine counts goroutines by. -/
def Good (P : Program) : Prop := ∀ (f : FuncId) (fn : Func), P.funcs[f]? = some fn → (fn.name == "runtime.NumGoroutine") = false

/-- What an operation may come to. -/
def Yields (P : Program) (Q : Value → World → Prop) (r : Result Next) (K : Value → World → Prop) : Prop :=
  (∃ v w', r = .ok (.value v) w' ∧ K v w') ∨ (∃ w', r = .ok .skip w' ∧ K undef w') ∨ (∃ g args w', r = .ok (.enter g args) w' ∧ RunsQ P g args w' K Q) ∨ (∃ v w', r = .halt (.panic v) w' ∧ Q v w')

theorem rawV_yields {P : Program} {Q : Value → World → Prop} {f : Operand → Value} {o : Oper} {w : World} {K : Value → World → Prop} (h : rawV P f o w K) : Yields P Q ((execOp f o).run P w) K := by
  unfold rawV at h
  split at h
  · rename_i v w' hr; exact .inl ⟨v, w', hr, h⟩
  · rename_i w' hr; exact .inr (.inl ⟨w', hr, h⟩)
  · exact h.elim

theorem yields_value {P : Program} {Q : Value → World → Prop} {s : Sem Value} {w : World} {K : Value → World → Prop} {u : Value} {w' : World} (hr : s.run P w = .ok u w') (hk : K u w') :
    Yields P Q ((do pure (.value (← s)) : Sem Next).run P w) K := .inl ⟨u, w', by simp [hr], hk⟩

theorem heavyV_yields {P : Program} {Q : Value → World → Prop} {s : Sem Value} {t : TypeId} {w : World} {K : Value → World → Prop} (h : heavyV P s t w K) : Yields P Q ((do pure (.value (← s)) : Sem Next).run P w) K := by
  obtain ⟨u, w', hr, hk⟩ := bindT_elim h
  exact yields_value hr hk

theorem eqGuard_int (op : BinOp) (t : TypeId) (x y : Operand) (k k' : IntKind) (a b : Int) (P : Program) (w : World) : (eqGuard op t x y (.int k a) (.int k' b)).run P w = .ok () w := by
  unfold eqGuard; split <;> rfl
theorem eqGuard_str (op : BinOp) (t : TypeId) (x y : Operand) (a b : ByteArray) (P : Program) (w : World) : (eqGuard op t x y (.string a) (.string b)).run P w = .ok () w := by
  unfold eqGuard; split <;> rfl
theorem eqGuard_ptr (op : BinOp) (t : TypeId) (x y : Operand) (a b : Option Addr) (P : Program) (w : World) : (eqGuard op t x y (.pointer a) (.pointer b)).run P w = .ok () w := by
  unfold eqGuard; split <;> rfl
theorem eqGuard_slice (op : BinOp) (t : TypeId) (x y : Operand) (a b : Option Addr) (l c l' c' : Nat) (P : Program) (w : World) : (eqGuard op t x y (.slice a l c) (.slice b l' c')).run P w = .ok () w := by
  unfold eqGuard; split <;> rfl

theorem run_equal_ptr_nil {P : Program} {t e : TypeId} (hu : P.underlying t = some (.pointer e)) (p : Option Addr) (w : World) : (Op.equal t (.pointer p) (.pointer none)).run P w = .ok p.isNone w := by
  rw [Op.equal, show Op.maxDepth = 9999 + 1 from rfl, Op.equalIn]
  cases p <;> simp only [Sem.run_bind, run_underlying hu, Result.andThen_ok, Sem.run_pure, Option.isNone]
theorem run_equal_slice_nil {P : Program} {t e : TypeId} (hu : P.underlying t = some (.slice e)) (a : Option Addr) (l c l' c' : Nat) (w : World) : (Op.equal t (.slice a l c) (.slice none l' c')).run P w = .ok a.isNone w := by
  rw [Op.equal, show Op.maxDepth = 9999 + 1 from rfl, Op.equalIn]
  cases a <;> simp only [Sem.run_bind, run_underlying hu, Result.andThen_ok, Sem.run_pure, Option.isNone]

theorem run_strAdd {P : Program} (w : World) (a b : ByteArray) (h : ((a.size + b.size : Nat) : Int) ≤ 9223372036854775807) : (Op.stringOp .add a b).run P w = .ok (.string (a ++ b)) w :=
  run_string_add_sum w a b (by omega)

theorem binV_yields {P : Program} {Q : Value → World → Prop} {f : Operand → Value} {dst : Option Tmp} {op : BinOp} {t u : TypeId} {x y : Operand} {type : TypeId} {pos : String} {after : Array Edge} {guard : Option (Nat × Bool)} {w : World} {K : Value → World → Prop}
    (h : binV P f ⟨dst, .binOp op t x y u, type, pos, after, guard⟩ op t x y w K) : Yields P Q ((execOp f ⟨dst, .binOp op t x y u, type, pos, after, guard⟩).run P w) K := by
  unfold binV at h
  have strAdd : ∀ a b : ByteArray, f x = .string a → f y = .string b → ((a.size + b.size : Nat) : Int) ≤ 9223372036854775807 ∧ K (.string (a ++ b)) w → op = .add →
      Yields P Q ((execOp f ⟨dst, .binOp op t x y u, type, pos, after, guard⟩).run P w) K := by
    rintro a b hx hy ⟨hb, hk⟩ rfl
    exact .inl ⟨_, _, by simp only [execOp, hx, hy, Sem.run_bind, eqGuard_str, Result.andThen_ok, Go.binOp, run_strAdd w a b hb, Sem.run_pure], hk⟩
  cases hc : isConst y && !(isAggV (f x)) with
  | true =>
    rw [hc, cond_true] at h
    split at h
    · rename_i p hx hy
      split at h
      · rename_i e hu
        exact .inl ⟨_, _, by simp only [execOp, hx, hy, Sem.run_bind, eqGuard_ptr, Result.andThen_ok, Go.binOp, run_equal_ptr_nil hu, Sem.run_pure], h⟩
      · exact h.elim
    · rename_i p hx hy
      split at h
      · rename_i e hu
        exact .inl ⟨_, _, by simp only [execOp, hx, hy, Sem.run_bind, eqGuard_ptr, Result.andThen_ok, Go.binOp, run_equal_ptr_nil hu, Sem.run_pure], h⟩
      · exact h.elim
    · rename_i a l c l' c' hx hy
      split at h
      · rename_i e hu
        exact .inl ⟨_, _, by simp only [execOp, hx, hy, Sem.run_bind, eqGuard_slice, Result.andThen_ok, Go.binOp, run_equal_slice_nil hu, Sem.run_pure], h⟩
      · exact h.elim
    · rename_i a l c l' c' hx hy
      split at h
      · rename_i e hu
        exact .inl ⟨_, _, by simp only [execOp, hx, hy, Sem.run_bind, eqGuard_slice, Result.andThen_ok, Go.binOp, run_equal_slice_nil hu, Sem.run_pure], h⟩
      · exact h.elim
    · rename_i a b hx hy; exact strAdd a b hx hy h rfl
    · rename_i k a k' b hx hy
      have := heavyV_yields (Q := Q) h
      simpa only [execOp, hx, hy] using this
    · rename_i k a k' b hx hy
      have := heavyV_yields (Q := Q) h
      simpa only [execOp, hx, hy] using this
    · rename_i k a k' b hx hy
      have := heavyV_yields (Q := Q) h
      simpa only [execOp, hx, hy] using this
    · rename_i k a k' b hx hy
      have := heavyV_yields (Q := Q) h
      simpa only [execOp, hx, hy] using this
    · exact rawV_yields h
  | false =>
    rw [hc, cond_false] at h
    split at h
    · rename_i k a k' b hx hy
      obtain ⟨rfl, hb, hk⟩ := h
      exact .inl ⟨_, _, by simp [execOp, hx, hy, eqGuard_int, Go.binOp, Op.intDiv, hb], hk⟩
    · rename_i k a k' b hx hy
      obtain ⟨rfl, hb, hk⟩ := h
      exact .inl ⟨_, _, by simp [execOp, hx, hy, eqGuard_int, Go.binOp, Op.intDiv, hb], hk⟩
    · rename_i k a k' b hx hy
      obtain ⟨hb, hk⟩ := h
      exact .inl ⟨_, _, by simp [execOp, hx, hy, eqGuard_int, Go.binOp, Op.shift, Int.not_lt.2 hb], hk⟩
    · rename_i k a k' b hx hy
      obtain ⟨hb, hk⟩ := h
      exact .inl ⟨_, _, by simp [execOp, hx, hy, eqGuard_int, Go.binOp, Op.shift, Int.not_lt.2 hb], hk⟩
    · rename_i a b hx hy; exact strAdd a b hx hy h rfl
    · rename_i a b hx hy
      have := heavyV_yields (Q := Q) h
      simpa only [execOp, hx, hy] using this
    · rename_i a b hx hy
      have := heavyV_yields (Q := Q) h
      simpa only [execOp, hx, hy] using this
    · rename_i a b hx hy
      have := heavyV_yields (Q := Q) h
      simpa only [execOp, hx, hy] using this
    · rename_i a b hx hy
      have := heavyV_yields (Q := Q) h
      simpa only [execOp, hx, hy] using this
    · rename_i k a k' b hx hy
      have := heavyV_yields (Q := Q) h
      simpa only [execOp, hx, hy] using this
    · rename_i k a k' b hx hy
      have := heavyV_yields (Q := Q) h
      simpa only [execOp, hx, hy] using this
    · rename_i k a k' b hx hy
      have := heavyV_yields (Q := Q) h
      simpa only [execOp, hx, hy] using this
    · rename_i k a k' b hx hy
      have := heavyV_yields (Q := Q) h
      simpa only [execOp, hx, hy] using this
    · exact rawV_yields h

theorem callV_yields {P : Program} {Q : Value → World → Prop} (hG : Good P) {g : FuncId} {args : Array Value} {w : World} {K : Value → World → Prop} (h : callV P Q g args w K) : Yields P Q ((callFunc g args).run P w) K := by
  unfold callV at h
  split at h
  · rename_i fn hf
    cases hb : fn.body.isSome with
    | false =>
      rw [hb, cond_false] at h
      unfold extV at h
      split at h
      · obtain ⟨u, w', hr, hk⟩ := bindT_elim h
        exact .inl ⟨u, w', hr, hk⟩
      · exact h.elim
    | true =>
      rw [hb, cond_true] at h
      refine .inr (.inr (.inl ⟨g, args, w, ?_, RunsQ.post h fun v w' hv => shapeR_elim hv⟩))
      have hn := hG g fn hf
      have hnone : fn.body.isNone = false := by cases hbb : fn.body <;> simp_all
      simp only [callFunc, Sem.run_bind, run_program, Result.andThen_ok, hf, hn, hnone, Bool.false_eq_true, if_false, Sem.run_pure]
  · exact h.elim

theorem opV_yields {P : Program} {Q : Value → World → Prop} (hG : Good P) {f : Operand → Value} (hF : ∀ g, f (.func g) = .func (.func g) #[] #[]) {o : Oper} {w : World} {K : Value → World → Prop} (h : opV P Q f o w K) : Yields P Q ((execOp f o).run P w) K := by
  obtain ⟨dst, op, type, pos, after, guard⟩ := o
  unfold opV at h
  split at h <;> rename_i hop <;> (try (simp only at hop; subst hop))
  · exact .inl ⟨_, _, rfl, h⟩
  · exact .inl ⟨_, _, rfl, h⟩
  · rename_i c a b
    split at h
    · rename_i t ht
      refine .inl ⟨_, _, ?_, h⟩
      cases t <;> simp [execOp, asBool, ht]
    · exact h.elim
  · rename_i t x
    cases hx : f x with
    | pointer p =>
      cases p with
      | none => rw [hx] at h; exact h.elim
      | some a =>
        rw [hx] at h
        obtain ⟨u, hr, hk⟩ := loadV_var h
        exact .inl ⟨u, w, by simp [execOp, hx, Instr.loadAt, Instr.sureAddr, hr], hk⟩
    | _ => rw [hx] at h; exact h.elim
  · rename_i t x y
    obtain ⟨w', hr, hk⟩ := storeV_run h
    exact .inr (.inl ⟨w', by simp [execOp, hr], hk⟩)
  · rename_i x
    split at h
    · rename_i p hx
      cases p with
      | none => exact h.elim
      | some a => exact .inl ⟨_, _, by simp [execOp, hx], h⟩
    · exact h.elim
  · obtain ⟨u, hr, hk⟩ := idxV_run h
    exact .inl ⟨u, w, by simp [execOp, hr], hk⟩
  · obtain ⟨u, hr, hk⟩ := idxStrV_run h
    exact .inl ⟨u, w, by simp [execOp, hr], hk⟩
  · obtain ⟨u, hr, hk⟩ := sliceV_run h
    exact .inl ⟨u, w, by simp [execOp, hr], hk⟩
  · rename_i t x
    split at h
    · rename_i n e a len c hu hx
      obtain ⟨hn, hk⟩ := h
      exact .inl ⟨_, _, by simp [execOp, Instr.arrayAt, run_underlying hu, hx, Nat.not_lt.2 hn], hk⟩
    · exact h.elim
  · exact binV_yields h
  · exact heavyV_yields h
  · split at h
    · exact heavyV_yields h
    · exact heavyV_yields h
    · exact rawV_yields h
  · rename_i c
    obtain ⟨callee, args, ats⟩ := c
    simp only at h
    split at h
    · have := callV_yields (Q := Q) hG h
      simpa [execOp, resolve, hF, Deferred.ofValue, invoke] using this
    · rename_i x _
      cases hrs : resd P type with
      | true =>
        rw [hrs, cond_true] at h
        obtain ⟨g, as, cs, fn, hx, hf, hb, hr⟩ := h
        have hn := hG g fn hf
        have hnone : fn.body.isNone = false := by cases hbb : fn.body <;> simp_all
        have e : (callFunc g (as ++ args.map f ++ cs)).run P w = .ok (.enter g (as ++ args.map f ++ cs)) w := by
          simp only [callFunc, Sem.run_bind, run_program, Result.andThen_ok, hf, hn, hnone, Bool.false_eq_true, if_false, Sem.run_pure]
        refine .inr (.inr (.inl ⟨g, as ++ args.map f ++ cs, w, ?_, RunsQ.post hr fun v w' hv => shapeR_elim hv⟩))
        simpa [execOp, resolve, hx, Deferred.ofValue, invoke] using e
      | false =>
      rw [hrs, cond_false] at h
      split at h
      · rename_i g fs cs hx
        cases hc : fs.isEmpty && cs.isEmpty with
        | false =>
          rw [hc, cond_false] at h
          obtain ⟨fn, hf, hb, hr⟩ := h
          have hn := hG g fn hf
          have hnone : fn.body.isNone = false := by cases hbb : fn.body <;> simp_all
          have e : (callFunc g (fs ++ args.map f ++ cs)).run P w = .ok (.enter g (fs ++ args.map f ++ cs)) w := by
            simp only [callFunc, Sem.run_bind, run_program, Result.andThen_ok, hf, hn, hnone, Bool.false_eq_true, if_false, Sem.run_pure]
          refine .inr (.inr (.inl ⟨g, fs ++ args.map f ++ cs, w, ?_, hr⟩))
          simpa [execOp, resolve, hx, Deferred.ofValue, invoke] using e
        | true =>
          rw [hc, cond_true] at h
          simp only [Bool.and_eq_true, Array.isEmpty_iff] at hc
          obtain ⟨rfl, rfl⟩ := hc
          obtain ⟨fn, hf, hb, hr⟩ := h
          have hn := hG g fn hf
          have hnone : fn.body.isNone = false := by cases hbb : fn.body <;> simp_all
          have e : (callFunc g (args.map f)).run P w = .ok (.enter g (args.map f)) w := by
            simp only [callFunc, Sem.run_bind, run_program, Result.andThen_ok, hf, hn, hnone, Bool.false_eq_true, if_false, Sem.run_pure]
          refine .inr (.inr (.inl ⟨g, args.map f, w, ?_, hr⟩))
          simpa [execOp, resolve, hx, Deferred.ofValue, invoke] using e
      · exact h.elim
    · rename_i r name
      obtain ⟨g, as, hr, hk⟩ := h
      refine .inr (.inr (.inl ⟨g, as, w, ?_, RunsQ.post hk fun v w' hv => shapeR_elim hv⟩))
      have e0 : (#[f r] ++ args.map f)[0]? = some (f r) := by rw [Array.getElem?_append_left (show 0 < (#[f r] : Array Value).size from Nat.zero_lt_one)]; rfl
      show (do let d ← resolve f ⟨.invoke r name, args, ats⟩ type; invoke d.target d.args : Sem Next).run P w = _
      simp only [resolve, Sem.run_bind, Sem.run_pure, Result.andThen_ok, invoke, e0]
      exact hr
    · have := heavyV_yields (Q := Q) h
      simpa [execOp, resolve, invoke, builtin] using this
    · have := heavyV_yields (Q := Q) h
      simpa [execOp, resolve, invoke, builtin] using this
    · have := heavyV_yields (Q := Q) h
      simpa [execOp, resolve, invoke, builtin] using this
    · exact rawV_yields h
  · rename_i x xt at_ ok
    cases hra : rawAssert P at_ with
    | true => rw [hra, cond_true] at h; exact rawV_yields h
    | false =>
    rw [hra, cond_false] at h
    unfold assertV at h
    cases ok with
    | true =>
      rw [cond_true] at h
      split at h
      · obtain ⟨u, b, w', hr, hk⟩ := h
        exact yields_value hr hk
      · obtain ⟨u, b, w', hr, hk⟩ := bindT_elim h
        exact yields_value hr hk
    | false =>
      rw [cond_false] at h
      obtain ⟨u, w', hr, hk⟩ := bindT_elim h
      exact yields_value hr hk
  · unfold lookupV at h
    split at h
    · obtain ⟨u, b, w', hr, hk⟩ := bindT_elim h
      exact yields_value hr hk
    · exact h.elim
  · obtain ⟨u, w', hr, hk⟩ := h
    exact yields_value hr hk
  · obtain ⟨w', hr, hk⟩ := h
    exact .inr (.inl ⟨w', by simp [execOp, hr], hk⟩)
  · rename_i x
    split at h
    · rename_i t v hx
      refine .inr (.inr (.inr ⟨_, _, ?_, h⟩))
      simp [execOp, Instr.panic, hx, goPanic]
    · exact h.elim
  · exact h.elim
  · rename_i x
    obtain ⟨u, w', hr, hk⟩ := iterV_run (P := P) (ty := type) h
    exact yields_value hr hk
  · exact rawV_yields h

/-! ### Regions -/

def dstOk (N : NN) : Option Nat → Bool
  | some d => Nat.blt d N.n && !(keepHas N.keep d)
  | none => true

theorem dstOk_slot {N : NN} {o : Option Nat} (h : dstOk N o = true) (k : Nat) (hk : o = some k) : slotOk N k := by
  subst hk
  simp only [dstOk, Bool.and_eq_true, Bool.not_eq_true', Nat.blt_eq] at h
  exact h

def opVc (P : Program) (N : NN) (o : Oper) (e : Env) (w : World) (K : Value → World → Prop) : Prop :=
  bif has e o.op.operands.toList && dstOk N o.dst then opV P N.pan (ρ e) o w K else False

/-- The operations in the order of the text. -/
def regV (P : Program) (N : NN) (ops : Array Oper) : List Oper → Env → World → (Env → World → Prop) → Prop
  | [], e, w, K => K e w
  | o :: rest, e, w, K =>
    match o.guard with
    | none => opVc P N o e w fun v w' => regV P N ops rest (put e o.dst v) w' K
    | some (j, want) =>
      bif dstOk N o.dst then
        match (ops[j]?).bind (·.dst) with
        | some d =>
          match get? e d with
          | some (.bool b) =>
            cond b
              (bif want then opVc P N o (set e d (.bool true)) w fun v w' => regV P N ops rest (put (set e d (.bool true)) o.dst v) w' K
                else regV P N ops rest (put (set e d (.bool true)) o.dst undef) w K)
              (bif want then regV P N ops rest (put (set e d (.bool false)) o.dst undef) w K
                else opVc P N o (set e d (.bool false)) w fun v w' => regV P N ops rest (put (set e d (.bool false)) o.dst v) w' K)
          | some (.tuple _) => regV P N ops rest (put e o.dst undef) w K
          | _ => False
        | none => False
      else False

theorem opV_noSelect {P : Program} {Q : Value → World → Prop} {f : Operand → Value} {o : Oper} {w : World} {K : Value → World → Prop} (h : opV P Q f o w K) : ∀ cs b, o.op ≠ .select cs b := by
  intro cs b hs
  unfold opV at h
  rw [hs] at h
  exact h

theorem opVc_yields {P : Program} (hG : Good P) {N : NN} {o : Oper} {e : Env} {a : Act} (ha : Agrees N e a) {w : World} {K : Value → World → Prop} (h : opVc P N o e w K) :
    Yields P N.pan ((execOp a.eval o).run P w) K ∧ ∀ k, o.dst = some k → slotOk N k := by
  unfold opVc at h
  cases hc : has e o.op.operands.toList && dstOk N o.dst with
  | false => rw [hc] at h; exact h.elim
  | true =>
    rw [hc, cond_true] at h
    simp only [Bool.and_eq_true] at hc
    refine ⟨?_, fun k hk => ?_⟩
    · rw [execOp_congr a.eval (ρ e) o (opV_noSelect h) (has_eval ha hc.1)]
      exact opV_yields hG (fun g => rfl) h
    · exact dstOk_slot hc.2 k hk

theorem Yields.upon {P : Program} {QV : Value → World → Prop} {o : Oper} {a : Act} {next : Act → World → Prop} {Q : Exit → Act → World → Prop} {r : Result Next} {K : Value → World → Prop}
    (h : Yields P QV r K) (hn : ∀ v w', K v w' → next (a.put o.dst v) w') (hp : ∀ v w', QV v w' → Q (.panic [{ v := v, recovered := false }]) a w') : o.upon P a next Q r := by
  rcases h with ⟨v, w', rfl, hk⟩ | ⟨w', rfl, hk⟩ | ⟨g, args, w', rfl, hk⟩ | ⟨v, w', rfl, hk⟩
  · exact hn _ _ hk
  · exact hn _ _ hk
  · simp only [Oper.upon]
    refine Calls.mono hk fun e w'' he => ?_
    cases e with
    | returned v => exact hn _ _ he
    | panicked c => obtain ⟨v, rfl, hv⟩ := he; exact hp _ _ hv
    | outgrown => exact he.elim
  · exact hp _ _ hk

theorem yielded_of {ops : Array Oper} {N : NN} {e : Env} {a : Act} (ha : Agrees N e a) {j d : Nat} {v : Value} (hd : (ops[j]?).bind (·.dst) = some d) (hv : get? e d = some v) :
    yielded ops a.tmps j = match v with | .bool b => some b | _ => none := by
  unfold yielded
  rw [hd]
  simp only [Option.bind_some, ha.2.2 d v hv]
  cases v <;> rfl

theorem Agrees.set_same {N : NN} {e : Env} {a : Act} (ha : Agrees N e a) {d : Nat} {v : Value} (hv : get? e d = some v) : Agrees N (set e d v) a := by
  refine ⟨ha.1, ha.2.1, fun i u hi => ?_⟩
  rw [get?_set] at hi
  by_cases h : i = d
  · subst h; simp at hi; subst hi; exact ha.2.2 _ _ hv
  · simp only [h, if_false] at hi; exact ha.2.2 _ _ hi

theorem Agrees.nil {N : NN} {e : Env} {a : Act} (h : Agrees N e a) : Agrees N [] a := ⟨h.1, h.2.1, fun i v hi => by simp [get?] at hi⟩

theorem regV_list {P : Program} (hG : Good P) {N : NN} {ops : Array Oper} {Q : Exit → Act → World → Prop} {K : Env → World → Prop}
    (hQ : ∀ e a w, Agrees N e a → K e w → Q .normal a w) (hP : ∀ a w v, Agrees N [] a → N.pan v w → Q (.panic [{ v := v, recovered := false }]) a w) : ∀ (l : List Oper) (e : Env) (a : Act) (w : World), Agrees N e a → regV P N ops l e w K → wpList P ops Q l a w
  | [], e, a, w, ha, h => hQ e a w ha h
  | o :: rest, e, a, w, ha, h => by
    have ih := regV_list (ops := ops) hG hQ hP rest
    have run : ∀ e', Agrees N e' a → opVc P N o e' w (fun v w' => regV P N ops rest (Vc.put e' o.dst v) w' K) → Region.wanted o (yielded ops a.tmps) = true → wpList P ops Q (o :: rest) a w := by
      intro e' ha' h' hw
      obtain ⟨hy, hd⟩ := opVc_yields hG ha' h'
      unfold wpList
      rw [if_pos hw]
      exact .inl (hy.upon (fun v w' hk => ih _ _ _ (ha'.put o.dst hd v) hk) fun v w' hv => hP _ _ _ ha'.nil hv)
    have skip : ∀ e', Agrees N e' a → dstOk N o.dst = true → regV P N ops rest (Vc.put e' o.dst undef) w K → Region.wanted o (yielded ops a.tmps) = false → wpList P ops Q (o :: rest) a w := by
      intro e' ha' hd h' hw
      unfold wpList
      rw [hw, if_neg (by simp)]
      exact ih _ _ _ (ha'.put o.dst (dstOk_slot hd) undef) h'
    unfold regV at h
    split at h
    · rename_i hg
      exact run e ha h (by simp [Region.wanted, hg])
    · rename_i j want hg
      cases hd : dstOk N o.dst with
      | false => rw [hd] at h; exact h.elim
      | true =>
        rw [hd, cond_true] at h
        split at h
        · rename_i d hdj
          split at h
          · rename_i b hb
            have hy := yielded_of ha hdj hb
            cases b with
            | true =>
              simp only [cond_true] at h
              cases want with
              | true => exact run _ (ha.set_same hb) h (by simp [Region.wanted, hg, hy])
              | false => exact skip _ (ha.set_same hb) hd h (by simp [Region.wanted, hg, hy])
            | false =>
              simp only [cond_false] at h
              cases want with
              | true => exact skip _ (ha.set_same hb) hd h (by simp [Region.wanted, hg, hy])
              | false => exact run _ (ha.set_same hb) h (by simp [Region.wanted, hg, hy])
          · rename_i vs hb
            have hy := yielded_of ha hdj hb
            exact skip e ha hd h (by simp [Region.wanted, hg, hy])
          · exact h.elim
        · exact h.elim

theorem regV_region {P : Program} (hG : Good P) {N : NN} {id : Nat} {ops : Array Oper} {Q : Exit → Act → World → Prop} {K : Env → World → Prop}
    (hQ : ∀ e a w, Agrees N e a → K e w → Q .normal a w) (hP : ∀ a w v, Agrees N [] a → N.pan v w → Q (.panic [{ v := v, recovered := false }]) a w) {e : Env} {a : Act} {w : World} (ha : Agrees N e a) (h : regV P N ops ops.toList e w K) : (Code.region id ops false).wp P Q a w :=
  wp_region_list (regV_list hG hQ hP _ _ _ _ ha h)

end Go.Vc
