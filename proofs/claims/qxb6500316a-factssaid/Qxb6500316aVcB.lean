/-
  The calculus, second part: regions that draw their order, results, and a segment of a function's code.
-/
import Derived.Test.Qxb6500316aVcA
import Derived.BigFrame
import Derived.Orders
set_option linter.unusedSimpArgs false
set_option linter.unusedVariables false
namespace Go.Vc

def isQuiet : Op → Bool
  | .move _ => true
  | .assign _ => true
  | .pick _ _ _ => true
  | .build _ _ => true
  | .load _ _ => true
  | .nilCheck _ => true
  | .binOp _ _ _ _ _ => true
  | .unOp _ _ _ => true
  | .convert _ _ _ => true
  | .sliceToArrayPointer _ _ => true
  | .slice _ _ _ _ _ => true
  | .fieldAddr _ _ _ => true
  | .field _ _ _ => true
  | .indexAddr _ _ _ => true
  | .index _ _ _ => true
  | .extract _ _ => true
  | .call c => match c.callee with | .builtin .len => true | .builtin .cap => true | .builtin .min => true | .builtin .max => true | _ => false
  | _ => false

theorem value_form {P : Program} {s : Sem Value} {w w' : World} {n : Next} (h : (do pure (.value (← s)) : Sem Next).run P w = .ok n w') : ∃ v, n = .value v := by
  rw [Sem.run_bind] at h
  cases hs : s.run P w with
  | ok a w1 => rw [hs] at h; simp at h; exact ⟨a, h.1.symm⟩
  | halt x w1 => rw [hs] at h; simp at h

theorem quiet_form {P : Program} {f : Operand → Value} {o : Oper} (hq : isQuiet o.op = true) {w w' : World} {n : Next} (h : (execOp f o).run P w = .ok n w') : ∃ v, n = .value v := by
  obtain ⟨dst, op, type, pos, after, guard⟩ := o
  cases op <;> simp only [isQuiet, Bool.false_eq_true] at hq
  case move x => simp [execOp] at h; exact ⟨_, h.1.symm⟩
  case assign x => simp [execOp] at h; exact ⟨_, h.1.symm⟩
  case pick c a b =>
    simp only [execOp, Sem.run_bind] at h
    cases hs : (asBool (f c)).run P w with
    | ok t w1 => rw [hs] at h; simp at h; exact ⟨_, h.1.symm⟩
    | halt x w1 => rw [hs] at h; simp at h
  case nilCheck x =>
    simp only [execOp] at h
    split at h
    · simp [runtimePanic] at h
    · simp [runtimePanic] at h
    · simp [runtimePanic] at h
    · split at h
      · simp [runtimePanic] at h
      · rename_i first _ _ t v _
        rw [Sem.run_bind] at h
        simp only [run_program, Result.andThen_ok, Sem.run_bind] at h
        generalize (nilAhead (P.types.size + Made.depth) t v _).run P w = r at h
        cases r with
        | halt x w1 => simp at h
        | ok b w1 =>
          simp only [Result.andThen_ok] at h
          split at h <;> simp at h
          exact ⟨_, h.1.symm⟩
      · simp at h; exact ⟨_, h.1.symm⟩
    · simp at h; exact ⟨_, h.1.symm⟩
  case call c =>
    obtain ⟨callee, args, ats⟩ := c
    cases callee with
    | builtin b => cases b <;> simp only [Bool.false_eq_true] at hq <;> (rw [BigFrame.execOp_builtin] at h; exact value_form h)
    | value x => simp at hq
    | invoke r m => simp at hq
  all_goals exact value_form h

/-- The operations in the order of the text, in one world. -/
def regS (P : Program) (N : NN) (ops : Array Oper) (w : World) : List Oper → Env → (Env → Prop) → Prop
  | [], e, K => K e
  | o :: rest, e, K =>
    bif isQuiet o.op then
      match o.guard with
      | none => opVc P N.calm o e w fun v w' => w' = w ∧ regS P N ops w rest (put e o.dst v) K
      | some (j, want) =>
        bif dstOk N o.dst then
          match (ops[j]?).bind (·.dst) with
          | some d =>
            match get? e d with
            | some (.bool b) =>
              cond b
                (bif want then opVc P N.calm o (set e d (.bool true)) w fun v w' => w' = w ∧ regS P N ops w rest (put (set e d (.bool true)) o.dst v) K
                  else regS P N ops w rest (put (set e d (.bool true)) o.dst undef) K)
                (bif want then regS P N ops w rest (put (set e d (.bool false)) o.dst undef) K
                  else opVc P N.calm o (set e d (.bool false)) w fun v w' => w' = w ∧ regS P N ops w rest (put (set e d (.bool false)) o.dst v) K)
            | some (.tuple _) => regS P N ops w rest (put e o.dst undef) K
            | _ => False
          | none => False
        else False
    else False

theorem regS_still {P : Program} (hG : Good P) {N : NN} {ops : Array Oper} {w : World} {Q : Act → Prop} {K : Env → Prop}
    (hQ : ∀ e a, Agrees N e a → K e → Q a) : ∀ (l : List Oper) (e : Env) (a : Act), Agrees N e a → regS P N ops w l e K → wpStill P ops w Q l a
  | [], e, a, ha, h => hQ e a ha h
  | o :: rest, e, a, ha, h => by
    have ih := regS_still (ops := ops) (w := w) hG hQ rest
    unfold regS at h
    cases hq : isQuiet o.op with
    | false => rw [hq] at h; exact h.elim
    | true =>
    rw [hq, cond_true] at h
    have run : ∀ e', Agrees N e' a → opVc P N.calm o e' w (fun v w' => w' = w ∧ regS P N ops w rest (Vc.put e' o.dst v) K) → Region.wanted o (yielded ops a.tmps) = true → wpStill P ops w Q (o :: rest) a := by
      intro e' ha' h' hw
      obtain ⟨hy, hd⟩ := opVc_yields hG (N := N.calm) ha' h'
      have hd : ∀ k, o.dst = some k → slotOk N k := hd
      unfold wpStill
      rw [if_pos hw]
      unfold Oper.still
      rcases hy with ⟨v, w', hr, hw', hk⟩ | ⟨w', hr, _⟩ | ⟨g, args, w', hr, _⟩ | ⟨v, w', hr, hx⟩
      · rw [hr]; exact ⟨hw', ih _ _ (ha'.put o.dst hd v) hk⟩
      · obtain ⟨v, hv⟩ := quiet_form hq hr; simp at hv
      · obtain ⟨v, hv⟩ := quiet_form hq hr; simp at hv
      · exact hx.elim
    have skip : ∀ e', Agrees N e' a → dstOk N o.dst = true → regS P N ops w rest (Vc.put e' o.dst undef) K → Region.wanted o (yielded ops a.tmps) = false → wpStill P ops w Q (o :: rest) a := by
      intro e' ha' hd h' hw
      unfold wpStill
      rw [hw, if_neg (by simp)]
      exact ih _ _ (ha'.put o.dst (dstOk_slot hd) undef) h'
    split at h
    · rename_i hg
      exact run e ha h (by simp [Region.wanted, hg])
    · rename_i j want hg
      cases hd : dstOk N o.dst with
      | false => rw [hd] at h; exact h.elim
      | true =>
        rw [hd, cond_true] at h
        split at h
        · rename_i d hdj
          split at h
          · rename_i b hb
            have hy := yielded_of ha hdj hb
            cases b with
            | true =>
              simp only [cond_true] at h
              cases want with
              | true => exact run _ (ha.set_same hb) h (by simp [Region.wanted, hg, hy])
              | false => exact skip _ (ha.set_same hb) hd h (by simp [Region.wanted, hg, hy])
            | false =>
              simp only [cond_false] at h
              cases want with
              | true => exact skip _ (ha.set_same hb) hd h (by simp [Region.wanted, hg, hy])
              | false => exact run _ (ha.set_same hb) h (by simp [Region.wanted, hg, hy])
          · rename_i vs hb
            have hy := yielded_of ha hdj hb
            exact skip e ha hd h (by simp [Region.wanted, hg, hy])
          · exact h.elim
        · exact h.elim

/-! ### A region in a class of worlds: every operation gives one value in every world of the class -/

/-- A computation that asks the program alone. -/
def Static {α : Type} (P : Program) (s : Sem α) : Prop :=
  (∃ a, ∀ w, s.run P w = .ok a w) ∨ (∃ h, ∀ w, ∃ w', s.run P w = .halt h w')

theorem Static.pure {α : Type} {P : Program} (a : α) : Static P (Pure.pure a : Sem α) := .inl ⟨a, fun _ => rfl⟩
theorem Static.halt {α : Type} {P : Program} (h : Halt) : Static P (Sem.halt h : Sem α) := .inr ⟨h, fun w => ⟨w, rfl⟩⟩
theorem Static.bind {α β : Type} {P : Program} {s : Sem α} {f : α → Sem β} (h : Static P s) (hf : ∀ a, Static P (f a)) : Static P (s >>= f) := by
  rcases h with ⟨a, ha⟩ | ⟨x, hx⟩
  · rcases hf a with ⟨b, hb⟩ | ⟨y, hy⟩
    · exact .inl ⟨b, fun w => by simp [ha, hb]⟩
    · exact .inr ⟨y, fun w => by obtain ⟨w', hw'⟩ := hy w; exact ⟨w', by simp [ha, hw']⟩⟩
  · exact .inr ⟨x, fun w => by obtain ⟨w', hw'⟩ := hx w; exact ⟨w', by simp [hw']⟩⟩
theorem Static.program {P : Program} : Static P Go.program := .inl ⟨P, fun _ => rfl⟩
theorem Static.stuck {α : Type} {P : Program} (x : String) : Static P (Go.stuck x : Sem α) := .halt _
theorem Static.unsup {α : Type} {P : Program} (x : Unsupported) : Static P (Go.unsupported x : Sem α) := .halt _
theorem Static.typeInfo {P : Program} (t : TypeId) : Static P (Go.typeInfo t) := by
  refine Static.bind .program fun p => ?_
  split <;> first | exact .pure _ | exact .stuck _
theorem Static.underlying {P : Program} (t : TypeId) : Static P (Go.underlying t) := by
  refine Static.bind .program fun p => ?_
  split <;> first | exact .pure _ | exact .stuck _
theorem Static.value {P : Program} {s : Sem Value} (h : Static P s) : Static P (do Pure.pure (.value (← s)) : Sem Next) := Static.bind h fun a => .pure _
theorem Static.nilDeref {α : Type} {P : Program} : Static P (Go.runtimePanic .nilDeref : Sem α) := by
  refine Static.bind .program fun p => ?_
  exact .halt _
theorem Static.error {α : Type} {P : Program} (m : String) : Static P (Go.runtimePanic (.error m) : Sem α) := by
  refine Static.bind .program fun p => ?_
  exact .halt _

theorem static_of {P : Program} {s : Sem Next} (hs : Static P s) {w0 w0' : World} {v : Value} (h : s.run P w0 = .ok (.value v) w0') : ∀ w, s.run P w = .ok (.value v) w := by
  rcases hs with ⟨a, ha⟩ | ⟨x, hx⟩
  · rw [ha] at h; simp at h; intro w; rw [ha, h.1]
  · obtain ⟨w', hw'⟩ := hx w0; rw [hw'] at h; simp at h

def binPure : Value → Value → Bool
  | .int _ _, .int _ _ => true
  | .string _, .string _ => true
  | .bool _, .bool _ => true
  | _, _ => false

def pureOp (P : Program) (f : Operand → Value) (o : Oper) : Bool :=
  match o.op with
  | .move _ => true
  | .assign _ => true
  | .pick _ _ _ => true
  | .nilCheck _ => true
  | .indexAddr _ _ _ => true
  | .index _ _ _ => true
  | .slice _ _ _ _ _ => true
  | .sliceToArrayPointer _ _ => true
  | .extract _ _ => true
  | .unOp _ _ _ => true
  | .fieldAddr t _ i =>
    match P.underlying t with
    | some (.struct fs) =>
      match fs[i]? with
      | some d => match P.info? d.type with | some j => !(Nat.beq j.size 0) | none => false
      | none => false
    | _ => false
  | .binOp _ t x y _ => binPure (f x) (f y) || (isConst y && !(isAggV (f x)) && (match f x, f y with | .pointer _, .pointer none => true | .slice _ _ _, .slice none _ _ => true | _, _ => false))
  | .convert _ d x => match P.underlying d, f x with | some (.int _), .int _ _ => true | _, _ => false
  | .call c =>
    match c.callee, (c.args.toList.map f), c.argTypes.toList with
    | .builtin .len, [.slice _ _ _], [t] => match P.underlying t with | some (.slice _) => true | _ => false
    | .builtin .len, [.string _], [t] => match P.underlying t with | some .string => true | _ => false
    | .builtin .cap, [.slice _ _ _], [t] => match P.underlying t with | some (.slice _) => true | _ => false
    | _, _, _ => false
  | _ => false

theorem static_unary {P : Program} (op : UnOp) (x : Value) : Static P (Op.unary op x) := by
  unfold Op.unary
  split
  · exact .pure _
  · exact .pure _
  · exact .pure _
  · exact .pure _
  · exact .pure _
  · exact .unsup _
  · exact .unsup _
  · exact .stuck _

theorem static_intOps {P : Program} (op : BinOp) (t : TypeId) (k k' : IntKind) (a b : Int) : Static P (Go.binOp op t (.int k a) (.int k' b)) := by
  cases op <;> simp only [Go.binOp]
  case shl => unfold Op.shift; split <;> first | exact .error _ | exact .pure _
  case shr => unfold Op.shift; split <;> first | exact .error _ | exact .pure _
  all_goals
    split
    · exact .stuck _
    · first
        | exact .pure _
        | (unfold Op.intDiv; split <;> first | exact .error _ | exact .pure _)
        | exact .stuck _

theorem static_strOps {P : Program} (op : BinOp) (t : TypeId) (a b : ByteArray) : Static P (Go.binOp op t (.string a) (.string b)) := by
  cases op <;> simp only [Go.binOp, Op.stringOp] <;> first
    | exact .pure _
    | (split <;> first | exact .unsup _ | exact .pure _)
    | exact .stuck _

theorem static_boolEq {P : Program} (t : TypeId) (a b : Bool) : Static P (Op.equal t (.bool a) (.bool b)) := by
  rw [Op.equal, show Op.maxDepth = 9999 + 1 from rfl, Op.equalIn]
  refine Static.bind (.underlying t) fun d => ?_
  cases d <;> first | exact .pure _ | exact .stuck _

theorem static_boolOps {P : Program} (op : BinOp) (t : TypeId) (a b : Bool) : Static P (Go.binOp op t (.bool a) (.bool b)) := by
  cases op <;> simp only [Go.binOp] <;> first
    | exact Static.bind (static_boolEq t a b) fun _ => .pure _
    | exact .stuck _

theorem static_guard {P : Program} (op : BinOp) (t : TypeId) (x y : Operand) (a b : Value) (h : binPure a b = true) : Static P (eqGuard op t x y a b) := by
  have : eqGuard op t x y a b = Pure.pure () := by
    unfold eqGuard
    cases a <;> cases b <;> simp [binPure] at h <;> (split <;> rfl)
  rw [this]; exact .pure _

theorem static_bin {P : Program} (op : BinOp) (t : TypeId) (x y : Operand) (a b : Value) (h : binPure a b = true) : Static P (do eqGuard op t x y a b; Go.binOp op t a b) := by
  refine Static.bind (static_guard op t x y a b h) fun _ => ?_
  cases a <;> cases b <;> simp [binPure] at h
  · exact static_boolOps ..
  · exact static_intOps ..
  · exact static_strOps ..

theorem pureOp_run {P : Program} {f : Operand → Value} {o : Oper} (hp : pureOp P f o = true) {w0 : World} {K : Value → Prop} (h : opV P (fun _ _ => False) f o w0 fun v _ => K v) :
    ∃ v, (∀ w, (execOp f o).run P w = .ok (.value v) w) ∧ K v := by
  have raw : Static P (execOp f o) → rawV P f o w0 (fun v _ => K v) → isQuiet o.op = true → ∃ v, (∀ w, (execOp f o).run P w = .ok (.value v) w) ∧ K v := by
    intro hs hr hq
    rcases rawV_yields (Q := fun _ _ => False) hr with ⟨v, w', hv, hk⟩ | ⟨w', hv, _⟩ | ⟨g, args, w', hv, _⟩ | ⟨v, w', _, hx⟩
    · exact ⟨v, static_of hs hv, hk⟩
    · obtain ⟨v, hv'⟩ := quiet_form hq hv; simp at hv'
    · obtain ⟨v, hv'⟩ := quiet_form hq hv; simp at hv'
    · exact hx.elim
  obtain ⟨dst, op, type, pos, after, guard⟩ := o
  cases op <;> simp only [pureOp, Bool.false_eq_true] at hp
  case move x => exact ⟨_, fun w => rfl, h⟩
  case assign x => exact ⟨_, fun w => rfl, h⟩
  case pick c a b =>
    simp only [opV] at h
    split at h
    · rename_i t ht
      exact ⟨_, fun w => by cases t <;> simp [execOp, asBool, ht], h⟩
    · exact h.elim
  case nilCheck x =>
    simp only [opV] at h
    split at h
    · rename_i p hx
      cases p with
      | none => exact h.elim
      | some a => exact ⟨_, fun w => by simp [execOp, hx], h⟩
    · exact h.elim
  case indexAddr t x i =>
    obtain ⟨u, hr, hk⟩ := idxV_run h
    exact ⟨u, fun w => by simp [execOp, hr], hk⟩
  case index t x i =>
    obtain ⟨u, hr, hk⟩ := idxStrV_run h
    exact ⟨u, fun w => by simp [execOp, hr], hk⟩
  case slice t x l hh m =>
    obtain ⟨u, hr, hk⟩ := sliceV_run h
    exact ⟨u, fun w => by simp [execOp, hr], hk⟩
  case sliceToArrayPointer t x =>
    simp only [opV] at h
    split at h
    · rename_i n e a len c hu hx
      obtain ⟨hn, hk⟩ := h
      exact ⟨_, fun w => by simp [execOp, Instr.arrayAt, run_underlying hu, hx, Nat.not_lt.2 hn], hk⟩
    · exact h.elim
  case extract x i =>
    refine raw ?_ h rfl
    refine Static.value ?_
    unfold Instr.extract
    split
    · split <;> first | exact .pure _ | exact .stuck _
    · exact .stuck _
  case unOp op t x =>
    refine raw ?_ h rfl
    exact Static.value (static_unary _ _)
  case fieldAddr t x i =>
    refine raw ?_ h rfl
    split at hp
    · rename_i fs hu
      split at hp
      · rename_i d hd
        split at hp
        · rename_i j hj
          refine Static.value ?_
          have e1 : ∀ w, (Instr.fieldAt t (f x) i).run P w = (do let a ← Instr.sureAddr (f x); pure (.pointer (some (a.add d.offset))) : Sem Value).run P w := by
            intro w
            have hs : ¬ j.size = 0 := by
              simp only [Bool.not_eq_true'] at hp
              intro h0; rw [h0] at hp; simp at hp
            have hfp : ∀ a w, (fieldPlace a d).run P w = .ok (a.add d.offset) w := fun a w => by simp [fieldPlace, sizeOf, Go.typeInfo, hj, hs]
            unfold Instr.fieldAt
            simp only [Sem.run_bind, run_underlying hu, Result.andThen_ok, hd]
            cases hx : f x with
            | pointer p => cases p <;> simp [Instr.sureAddr, hfp]
            | _ => simp [Instr.sureAddr]
          have e2 : Static P (do let a ← Instr.sureAddr (f x); Pure.pure (.pointer (some (a.add d.offset))) : Sem Value) := by
            refine Static.bind ?_ fun a => .pure _
            unfold Instr.sureAddr
            split <;> first | exact .pure _ | exact .stuck _
          rcases e2 with ⟨a, ha⟩ | ⟨y, hy⟩
          · exact .inl ⟨a, fun w => by rw [e1, ha]⟩
          · exact .inr ⟨y, fun w => by obtain ⟨w', hw'⟩ := hy w; exact ⟨w', by rw [e1, hw']⟩⟩
        · simp at hp
      · simp at hp
    · simp at hp
  case binOp op t x y u =>
    simp only [Bool.or_eq_true, Bool.and_eq_true] at hp
    have hy := binV_yields (Q := fun _ _ => False) (show binV P f ⟨dst, .binOp op t x y u, type, pos, after, guard⟩ op t x y w0 (fun v _ => K v) from h)
    cases hbp : binPure (f x) (f y) with
    | true =>
      rcases hy with ⟨v, w', hv, hk⟩ | ⟨w', hv, _⟩ | ⟨g, args, w', hv, _⟩ | ⟨v, w', _, hx⟩
      · exact ⟨v, static_of (Static.value (static_bin _ _ _ _ _ _ hbp)) hv, hk⟩
      · obtain ⟨v, hv'⟩ := quiet_form rfl hv; simp at hv'
      · obtain ⟨v, hv'⟩ := quiet_form rfl hv; simp at hv'
      · exact hx.elim
    | false =>
      rw [hbp] at hp
      simp only [Bool.false_eq_true, false_or] at hp
      obtain ⟨⟨hc, hna⟩, hm⟩ := hp
      simp only [opV, binV, hc, hna, Bool.and_self, cond_true] at h
      split at hm
      · rename_i p hx hyy
        simp only [hx, hyy] at h
        cases op <;> simp only at h
        case eql =>
          split at h
          · rename_i e hu; exact ⟨_, fun w => by simp only [execOp, hx, hyy, Sem.run_bind, eqGuard_ptr, Result.andThen_ok, Go.binOp, run_equal_ptr_nil hu, Sem.run_pure], h⟩
          · exact h.elim
        case neq =>
          split at h
          · rename_i e hu; exact ⟨_, fun w => by simp only [execOp, hx, hyy, Sem.run_bind, eqGuard_ptr, Result.andThen_ok, Go.binOp, run_equal_ptr_nil hu, Sem.run_pure], h⟩
          · exact h.elim
        all_goals
          exfalso
          unfold rawV at h
          simp [execOp, hx, hyy, eqGuard_ptr, Go.binOp] at h
      · rename_i a l c l' c' hx hyy
        simp only [hx, hyy] at h
        cases op <;> simp only at h
        case eql =>
          split at h
          · rename_i e hu; exact ⟨_, fun w => by simp only [execOp, hx, hyy, Sem.run_bind, eqGuard_slice, Result.andThen_ok, Go.binOp, run_equal_slice_nil hu, Sem.run_pure], h⟩
          · exact h.elim
        case neq =>
          split at h
          · rename_i e hu; exact ⟨_, fun w => by simp only [execOp, hx, hyy, Sem.run_bind, eqGuard_slice, Result.andThen_ok, Go.binOp, run_equal_slice_nil hu, Sem.run_pure], h⟩
          · exact h.elim
        all_goals
          exfalso
          unfold rawV at h
          simp [execOp, hx, hyy, eqGuard_slice, Go.binOp] at h
      · simp at hm
  case convert s d x =>
    split at hp
    · rename_i k k' n hu hx
      simp only [opV] at h
      have hall : (∃ d', P.underlying s = some d') → ∀ w, (execOp f ⟨dst, .convert s d x, type, pos, after, guard⟩).run P w = .ok (.value (.int k (k.wrap n))) w := by
        rintro ⟨d', hd'⟩ w
        simp only [execOp, Go.convert, Sem.run_bind, run_underlying hd', run_underlying hu, hx, Result.andThen_ok, Conv.intToInt, Sem.run_pure]
      split at h
      · rename_i e hs
        obtain ⟨v, w', hr, hk⟩ := bindT_elim h
        have h1 := hall ⟨_, hs⟩ w0
        have h2 : (Go.convert s d (f x)).run P w0 = .ok v w' := hr
        have h3 : (execOp f ⟨dst, .convert s d x, type, pos, after, guard⟩).run P w0 = .ok (.value v) w' := by
          simp only [execOp, Sem.run_bind, h2, Result.andThen_ok, Sem.run_pure]
        rw [h3] at h1
        simp at h1
        exact ⟨_, hall ⟨_, hs⟩, h1.1 ▸ hk⟩
      · rename_i e hs
        obtain ⟨v, w', hr, hk⟩ := bindT_elim h
        have h1 := hall ⟨_, hs⟩ w0
        have h2 : (Go.convert s d (f x)).run P w0 = .ok v w' := hr
        have h3 : (execOp f ⟨dst, .convert s d x, type, pos, after, guard⟩).run P w0 = .ok (.value v) w' := by
          simp only [execOp, Sem.run_bind, h2, Result.andThen_ok, Sem.run_pure]
        rw [h3] at h1
        simp at h1
        exact ⟨_, hall ⟨_, hs⟩, h1.1 ▸ hk⟩
      · cases hs : P.underlying s with
        | none =>
          exfalso
          unfold rawV at h
          simp [execOp, Go.convert, Go.underlying, hs] at h
        | some d' =>
          unfold rawV at h
          rw [hall ⟨_, hs⟩ w0] at h
          exact ⟨_, hall ⟨_, hs⟩, h⟩
    · simp at hp
  case call c =>
    obtain ⟨callee, args, ats⟩ := c
    split at hp
    · rename_i a l cc t hcal ha ht
      have hcal' : callee = _ := hcal
      subst hcal'
      split at hp
      · rename_i e hu
        obtain ⟨la, rfl⟩ : ∃ l, args = l.toArray := ⟨args.toList, by simp⟩
        obtain ⟨lt, rfl⟩ : ∃ l, ats = l.toArray := ⟨ats.toList, by simp⟩
        have ht' : lt = [t] := by simpa using ht
        subst ht'
        have hall : ∀ w, (execOp f ⟨dst, .call ⟨.builtin .len, la.toArray, [t].toArray⟩, type, pos, after, guard⟩).run P w = .ok (.value (.int .i64 l)) w := by
          intro w
          simp only [execOp, resolve, invoke, builtin, Sem.run_bind, Sem.run_pure, Result.andThen_ok, List.map_toArray, ha, Builtin.len_]
          simp [run_underlying hu, goInt]
        simp only [opV] at h
        unfold rawV at h
        rw [hall w0] at h
        exact ⟨_, hall, h⟩
      · simp at hp
    · rename_i s t hcal ha ht
      have hcal' : callee = _ := hcal
      subst hcal'
      split at hp
      · rename_i hu
        obtain ⟨la, rfl⟩ : ∃ l, args = l.toArray := ⟨args.toList, by simp⟩
        obtain ⟨lt, rfl⟩ : ∃ l, ats = l.toArray := ⟨ats.toList, by simp⟩
        have ht' : lt = [t] := by simpa using ht
        subst ht'
        have hall : ∀ w, (execOp f ⟨dst, .call ⟨.builtin .len, la.toArray, [t].toArray⟩, type, pos, after, guard⟩).run P w = .ok (.value (.int .i64 s.size)) w := by
          intro w
          simp only [execOp, resolve, invoke, builtin, Sem.run_bind, Sem.run_pure, Result.andThen_ok, List.map_toArray, ha, Builtin.len_]
          simp [run_underlying hu, goInt]
        simp only [opV] at h
        unfold rawV at h
        rw [hall w0] at h
        exact ⟨_, hall, h⟩
      · simp at hp
    · rename_i a l cc t hcal ha ht
      have hcal' : callee = _ := hcal
      subst hcal'
      split at hp
      · rename_i e hu
        obtain ⟨la, rfl⟩ : ∃ l, args = l.toArray := ⟨args.toList, by simp⟩
        obtain ⟨lt, rfl⟩ : ∃ l, ats = l.toArray := ⟨ats.toList, by simp⟩
        have ht' : lt = [t] := by simpa using ht
        subst ht'
        have hall : ∀ w, (execOp f ⟨dst, .call ⟨.builtin .cap, la.toArray, [t].toArray⟩, type, pos, after, guard⟩).run P w = .ok (.value (.int .i64 cc)) w := by
          intro w
          simp only [execOp, resolve, invoke, builtin, Sem.run_bind, Sem.run_pure, Result.andThen_ok, List.map_toArray, ha, Builtin.cap_]
          simp [run_underlying hu, goInt]
        simp only [opV] at h
        unfold rawV at h
        rw [hall w0] at h
        exact ⟨_, hall, h⟩
      · simp at hp
    · simp at hp

def bindR (P : Program) (ts : List TypeId) (K : Value → Prop) : Prop :=
  match ts with
  | [t] => bindT P t K
  | ts => bindTs P ts fun vs => K (.tuple vs.toArray)

theorem bindR_elim {P : Program} {ts : List TypeId} {K : Value → Prop} (h : bindR P ts K) : ∃ u, K u := by
  unfold bindR at h
  split at h
  · exact bindT_elim h
  · obtain ⟨vs, hk⟩ := bindTs_elim h; exact ⟨_, hk⟩

def loadQ (P : Program) (t : TypeId) (v : Value) (C : World → Prop) (K : Value → Prop) : Prop :=
  match v with
  | .pointer p => nilV p fun a =>
    bif isAggB P t then
      match P.info? t with
      | some i => bif Nat.beq (leaves P 20 t).length i.size then bindLeaves P (leaves P 20 t) fun vs => (∀ w, C w → cellsK w a 0 vs True) ∧ K (.agg vs.toArray) else False
      | none => False
    else bindLeaf P t fun v => (∀ w, C w → w.cell? a = some v) ∧ K v
  | _ => False

theorem loadQ_run {P : Program} {t : TypeId} {v : Value} {C : World → Prop} {K : Value → Prop} (h : loadQ P t v C K) : ∃ u, (∀ w, C w → (Instr.loadAt t v).run P w = .ok u w) ∧ K u := by
  unfold loadQ at h
  split at h
  · rename_i p
    cases p with
    | none => exact h.elim
    | some a =>
      simp only [nilV] at h
      cases hb : isAggB P t with
      | true =>
        simp only [hb, cond_true] at h
        have hu : ∃ d, P.underlying t = some d := by
          unfold isAggB at hb
          cases hu : P.underlying t with
          | none => simp [hu] at hb
          | some d => exact ⟨d, rfl⟩
        obtain ⟨d, hu⟩ := hu
        cases hi : P.info? t with
        | none => simp [hi] at h
        | some i =>
          simp only [hi] at h
          cases hs : Nat.beq (leaves P 20 t).length i.size with
          | false => simp [hs] at h
          | true =>
            simp only [hs, cond_true] at h
            obtain ⟨vs, hl, hc, hk⟩ := bindLeaves_elim h
            have hsz : vs.length = i.size := by rw [hl]; exact Nat.eq_of_beq_eq_true hs
            refine ⟨.agg vs.toArray, fun w hw => ?_, hk⟩
            have := run_loadCells_list (P := P) w a vs (fun j v hj => by simpa using (cellsK_elim (hc w hw)).2 j v hj)
            simp [Instr.loadAt, Instr.sureAddr, loadVar, run_isAgg hu, hb, sizeOf, Go.typeInfo, hi, ← hsz, this]
      | false =>
        simp only [hb, cond_false] at h
        obtain ⟨v, ⟨hc, hk⟩, d, hu⟩ := bindLeaf_elim h
        exact ⟨v, fun w hw => by simp [Instr.loadAt, Instr.sureAddr, loadVar, run_isAgg hu, hb, hc w hw], hk⟩
  · exact h.elim

def heavyQ (P : Program) (s : Sem Value) (t : TypeId) (C : World → Prop) (K : Value → Prop) : Prop :=
  bindT P t fun u => (∀ w, C w → s.run P w = .ok u w) ∧ K u

def callQ (P : Program) (g : FuncId) (args : Array Value) (C : World → Prop) (K : Value → Prop) : Prop :=
  match P.funcs[g]? with
  | some fn => bif fn.body.isSome then bindR P fn.resultTypes.toList fun u => (∀ w, C w → Runs P g args w fun v w' => v = u ∧ C w') ∧ K u else False
  | none => False

def opQ (P : Program) (f : Operand → Value) (o : Oper) (C : World → Prop) (w0 : World) (K : Value → Prop) : Prop :=
  bif pureOp P f o then opV P (fun _ _ => False) f o w0 fun v _ => K v
  else
    match o.op with
    | .load t x => loadQ P t (f x) C K
    | .binOp op t x y _ => heavyQ P (do eqGuard op t x y (f x) (f y); Go.binOp op t (f x) (f y)) o.type C K
    | .convert s d x => heavyQ P (Go.convert s d (f x)) o.type C K
    | .call c => match c.callee with | .value (.func g) => callQ P g (c.args.map f) C K | _ => False
    | _ => False

theorem opQ_quiet {P : Program} (hG : Good P) {f : Operand → Value} (hF : ∀ g, f (.func g) = .func (.func g) #[] #[]) {o : Oper} {C : World → Prop} {w0 : World} {K : Value → Prop} (h : opQ P f o C w0 K) :
    ∃ v, (∀ w, C w → Oper.quietUpon P C w v ((execOp f o).run P w)) ∧ K v := by
  unfold opQ at h
  cases hp : pureOp P f o with
  | true =>
    rw [hp, cond_true] at h
    obtain ⟨v, hr, hk⟩ := pureOp_run hp h
    exact ⟨v, fun w _ => by rw [hr]; exact ⟨rfl, rfl⟩, hk⟩
  | false =>
    rw [hp, cond_false] at h
    obtain ⟨dst, op, type, pos, after, guard⟩ := o
    simp only at h
    split at h
    · obtain ⟨u, hr, hk⟩ := loadQ_run h
      exact ⟨u, fun w hw => by simp [execOp, hr w hw, Oper.quietUpon], hk⟩
    · obtain ⟨u, hr, hk⟩ := bindT_elim h
      exact ⟨u, fun w hw => by
        have := hr w hw
        simp only [execOp]
        rw [Sem.run_bind, this]
        exact ⟨rfl, rfl⟩, hk⟩
    · obtain ⟨u, hr, hk⟩ := bindT_elim h
      exact ⟨u, fun w hw => by simp [execOp, hr w hw, Oper.quietUpon], hk⟩
    · rename_i c
      obtain ⟨callee, args, ats⟩ := c
      simp only at h
      split at h
      · rename_i g
        unfold callQ at h
        split at h
        · rename_i fn hf
          cases hb : fn.body.isSome with
          | false => rw [hb] at h; exact h.elim
          | true =>
            rw [hb, cond_true] at h
            obtain ⟨u, hr, hk⟩ := bindR_elim h
            refine ⟨u, fun w hw => ?_, hk⟩
            have hn := hG g fn hf
            have hnone : fn.body.isNone = false := by cases hbb : fn.body <;> simp_all
            have e : (execOp f ⟨dst, .call ⟨.value (.func g), args, ats⟩, type, pos, after, guard⟩).run P w = .ok (.enter g (args.map f)) w := by
              have : (callFunc g (args.map f)).run P w = .ok (.enter g (args.map f)) w := by
                simp only [callFunc, Sem.run_bind, run_program, Result.andThen_ok, hf, hn, hnone, Bool.false_eq_true, if_false, Sem.run_pure]
              simpa [execOp, resolve, hF, Deferred.ofValue, invoke] using this
            rw [e]
            refine ⟨rfl, Calls.mono (hr w hw) fun e w' he => ?_⟩
            cases e with
            | returned v => obtain ⟨rfl, hc⟩ := he; exact ⟨rfl, hc⟩
            | panicked c => obtain ⟨v, _, hv⟩ := he; exact hv.elim
            | outgrown => exact he.elim
        · exact h.elim
      · exact h.elim
    · exact h.elim

def opQc (P : Program) (N : NN) (o : Oper) (e : Env) (C : World → Prop) (w0 : World) (K : Value → Prop) : Prop :=
  bif has e o.op.operands.toList && dstOk N o.dst then opQ P (ρ e) o C w0 K else False

def regQ (P : Program) (N : NN) (ops : Array Oper) (C : World → Prop) (w0 : World) : List Oper → Env → (Env → Prop) → Prop
  | [], e, K => K e
  | o :: rest, e, K =>
    match o.guard with
    | none => opQc P N o e C w0 fun v => regQ P N ops C w0 rest (put e o.dst v) K
    | some (j, want) =>
      bif dstOk N o.dst then
        match (ops[j]?).bind (·.dst) with
        | some d =>
          match get? e d with
          | some (.bool b) =>
            cond b
              (bif want then opQc P N o (set e d (.bool true)) C w0 fun v => regQ P N ops C w0 rest (put (set e d (.bool true)) o.dst v) K
                else regQ P N ops C w0 rest (put (set e d (.bool true)) o.dst undef) K)
              (bif want then regQ P N ops C w0 rest (put (set e d (.bool false)) o.dst undef) K
                else opQc P N o (set e d (.bool false)) C w0 fun v => regQ P N ops C w0 rest (put (set e d (.bool false)) o.dst v) K)
          | some (.tuple _) => regQ P N ops C w0 rest (put e o.dst undef) K
          | _ => False
        | none => False
      else False

theorem opQ_noSelect {P : Program} {f : Operand → Value} {o : Oper} {C : World → Prop} {w0 : World} {K : Value → Prop} (h : opQ P f o C w0 K) : ∀ cs b, o.op ≠ .select cs b := by
  intro cs b hs
  unfold opQ pureOp at h
  rw [hs] at h
  exact h

theorem regQ_quiet {P : Program} (hG : Good P) {N : NN} {ops : Array Oper} {C : World → Prop} {w0 : World} {Q : Act → Prop} {K : Env → Prop}
    (hQ : ∀ e a, Agrees N e a → K e → Q a) : ∀ (l : List Oper) (e : Env) (a : Act), Agrees N e a → regQ P N ops C w0 l e K → wpQuiet P ops C Q l a
  | [], e, a, ha, h => hQ e a ha h
  | o :: rest, e, a, ha, h => by
    have ih := regQ_quiet (ops := ops) (C := C) (w0 := w0) hG hQ rest
    unfold regQ at h
    have run : ∀ e', Agrees N e' a → opQc P N o e' C w0 (fun v => regQ P N ops C w0 rest (Vc.put e' o.dst v) K) → Region.wanted o (yielded ops a.tmps) = true → wpQuiet P ops C Q (o :: rest) a := by
      intro e' ha' h' hw
      unfold opQc at h'
      cases hc : has e' o.op.operands.toList && dstOk N o.dst with
      | false => rw [hc] at h'; exact h'.elim
      | true =>
        rw [hc, cond_true] at h'
        simp only [Bool.and_eq_true] at hc
        obtain ⟨v, hv, hk⟩ := opQ_quiet hG (fun g => rfl) h'
        unfold wpQuiet
        rw [if_pos hw]
        refine ⟨v, fun w hw' => ?_, ih _ _ (ha'.put o.dst (dstOk_slot hc.2) v) hk⟩
        unfold Oper.quietAt
        rw [execOp_congr a.eval (ρ e') o (opQ_noSelect h') (has_eval ha' hc.1)]
        exact hv w hw'
    have skip : ∀ e', Agrees N e' a → dstOk N o.dst = true → regQ P N ops C w0 rest (Vc.put e' o.dst undef) K → Region.wanted o (yielded ops a.tmps) = false → wpQuiet P ops C Q (o :: rest) a := by
      intro e' ha' hd h' hw
      unfold wpQuiet
      rw [hw, if_neg (by simp)]
      exact ih _ _ (ha'.put o.dst (dstOk_slot hd) undef) h'
    split at h
    · rename_i hg
      exact run e ha h (by simp [Region.wanted, hg])
    · rename_i j want hg
      cases hd : dstOk N o.dst with
      | false => rw [hd] at h; exact h.elim
      | true =>
        rw [hd, cond_true] at h
        split at h
        · rename_i d hdj
          split at h
          · rename_i b hb
            have hy := yielded_of ha hdj hb
            cases b with
            | true =>
              simp only [cond_true] at h
              cases want with
              | true => exact run _ (ha.set_same hb) h (by simp [Region.wanted, hg, hy])
              | false => exact skip _ (ha.set_same hb) hd h (by simp [Region.wanted, hg, hy])
            | false =>
              simp only [cond_false] at h
              cases want with
              | true => exact skip _ (ha.set_same hb) hd h (by simp [Region.wanted, hg, hy])
              | false => exact run _ (ha.set_same hb) h (by simp [Region.wanted, hg, hy])
          · rename_i vs hb
            have hy := yielded_of ha hdj hb
            exact skip e ha hd h (by simp [Region.wanted, hg, hy])
          · exact h.elim
        · exact h.elim

def lead : List Oper → Nat
  | [] => 0
  | o :: l => bif isQuiet o.op then lead l + 1 else 0

/-! ### A region that draws its order, with few operations that the order matters to -/
def conjL (p : Nat → Prop) : List Nat → Prop
  | [] => True
  | i :: r => p i ∧ conjL p r
theorem conjL_mem {p : Nat → Prop} : ∀ {l : List Nat}, conjL p l → ∀ i ∈ l, p i
  | [], _, i, hi => by cases hi
  | j :: r, h, i, hi => by
    rcases List.mem_cons.1 hi with rfl | hi
    · exact h.1
    · exact conjL_mem h.2 i hi

def noisy (o : Oper) : Bool := match o.op with | .load _ _ => true | x => !(isQuiet x)

def firstOf (p : Nat → Bool) : List Nat → Option Nat
  | [] => none
  | i :: r => bif p i then some i else firstOf p r
theorem firstOf_some {p : Nat → Bool} : ∀ {l : List Nat} {i : Nat}, firstOf p l = some i → i ∈ l ∧ p i = true
  | [], i, h => by cases h
  | j :: r, i, h => by
    unfold firstOf at h
    cases hp : p j with
    | true => rw [hp] at h; simp at h; subst h; exact ⟨by simp, hp⟩
    | false =>
      rw [hp] at h
      obtain ⟨h1, h2⟩ := firstOf_some (l := r) h
      exact ⟨by simp [h1], h2⟩

def calmAt (P : Program) (N : NN) (ops : Array Oper) (l : Array Bool) (e : Env) (i : Nat) : Bool :=
  Region.free .any ops l i && (match ops[i]? with | some o => o.guard.isNone && (has e o.op.operands.toList && dstOk N o.dst) && pureOp P (ρ e) o | none => false)

def anyW (P : Program) (N : NN) (ops : Array Oper) (K : Env → World → Prop) : Nat → Array Bool → Env → World → Prop
  | 0, l, e, w => match Region.ready .any ops l with | [] => K e w | _ => False
  | f + 1, l, e, w =>
    match Region.ready .any ops l with
    | [] => K e w
    | i :: is =>
      match firstOf (calmAt P N ops l e) (i :: is) with
      | some j => (match ops[j]? with
        | none => False
        | some o => opV P (fun _ _ => False) (ρ e) o w fun v _ => anyW P N ops K f (l.setIfInBounds j true) (put e o.dst v) w)
      | none => conjL (fun i => match ops[i]? with
        | none => False
        | some o => match o.guard with
          | none => opVc P N o e w fun v w' => anyW P N ops K f (l.setIfInBounds i true) (put e o.dst v) w'
          | some _ => False) (i :: is)

theorem Agrees.unput {N : NN} {a : Act} {d : Option Tmp} {v : Value} (hd : ∀ k, d = some k → slotOk N k) (h : Agrees N [] (a.put d v)) : Agrees N [] a := by
  cases d with
  | none => exact h
  | some k =>
    obtain ⟨h1, ⟨h2, h3⟩, _⟩ := h
    obtain ⟨_, hk⟩ := hd k rfl
    refine ⟨by simpa [Act.put] using h1, ⟨by simpa [Act.put] using h2, fun i u hi => ?_⟩, fun i u hi => by simp [get?] at hi⟩
    have := h3 i u hi
    have hne : k ≠ i := by
      rintro rfl
      rw [keepHas_none _ _ hk] at hi; cases hi
    simpa [Act.put, Array.getElem?_setIfInBounds_ne hne] using this

theorem After.unput {P : Program} {f : FuncId} {N : NN} {k : List Item} {R : Value → World → Prop} {a : Act} {w : World} {d : Option Tmp} {v : Value} (hd : ∀ k, d = some k → slotOk N k) {c} (h : After P f N k R (.panic c) (a.put d v) w) : After P f N k R (.panic c) a w := by
  rcases h with ⟨h, _⟩ | ⟨v', h1, h2, h3⟩
  · cases h
  · exact .inr ⟨v', h1, h2, h3.unput hd⟩

theorem anyW_sound {P : Program} (hG : Good P) {N : NN} {ops : Array Oper} (hs : Region.noSelect ops = true) {Q : Exit → Act → World → Prop} {K : Env → World → Prop}
    (hQ : ∀ e a w, Agrees N e a → K e w → Q .normal a w) (hP : ∀ a w v, Agrees N [] a → N.pan v w → Q (.panic [{ v := v, recovered := false }]) a w)
    (hU : ∀ c a w d v, (∀ k, d = some k → slotOk N k) → Q (.panic c) (a.put d v) w → Q (.panic c) a w) :
    ∀ (f : Nat) (l : Array Bool) (e : Env) (a : Act) (w : World), Agrees N e a → anyW P N ops K f l e w → wpAny P .any ops Q f l a w
  | 0, l, e, a, w, ha, h => by
    unfold anyW at h
    unfold wpAny
    cases hr : Region.ready .any ops l with
    | nil => rw [hr] at h; exact ⟨rfl, hQ e a w ha h⟩
    | cons j js => rw [hr] at h; exact h.elim
  | f + 1, l, e, a, w, ha, h => by
    have ih := anyW_sound (ops := ops) hG hs hQ hP hU f
    unfold anyW at h
    cases hr : Region.ready .any ops l with
    | nil =>
      rw [hr] at h
      exact wpAny_done hr (hQ e a w ha h) _
    | cons j js =>
      rw [hr] at h
      simp only at h
      cases hf : firstOf (calmAt P N ops l e) (j :: js) with
      | some i =>
        rw [hf] at h
        simp only at h
        obtain ⟨hm, hc⟩ := firstOf_some hf
        cases ho : ops[i]? with
        | none => rw [ho] at h; exact h.elim
        | some o =>
          rw [ho] at h
          simp only at h
          unfold calmAt at hc
          rw [ho] at hc
          simp only [Bool.and_eq_true, Option.isNone_iff_eq_none] at hc
          obtain ⟨hfree, ⟨hg, hhas, hd⟩, hp⟩ := hc
          obtain ⟨v, hv, hk⟩ := pureOp_run (K := fun v => anyW P N ops K f (l.setIfInBounds i true) (put e o.dst v) w) hp h
          have hsel : ∀ cs b, o.op ≠ .select cs b := fun cs b => Region.noSelect_spec hs i o cs b ho
          have hw : Region.wanted o (yielded ops a.tmps) = true := by simp [Region.wanted, hg]
          have hslot : ∀ k, o.dst = some k → slotOk N k := dstOk_slot hd
          refine wpAny_take ho hs hfree (by rw [hr]; simpa using hm) (fun c a w hq => hU c a w _ _ hslot hq) (v := v) (.inl ⟨hw, fun w' => ?_⟩) (ih _ _ _ _ (ha.put o.dst hslot v) hk)
          rw [execOp_congr a.eval (ρ e) o hsel (has_eval ha hhas)]
          exact hv w'
      | none =>
        rw [hf] at h
        simp only at h
        refine wpAny_all hr (by simp) fun i hi => ?_
        have hi' := conjL_mem h i hi
        unfold wpOp
        cases ho : ops[i]? with
        | none => rw [ho] at hi'; exact hi'.elim
        | some o =>
          rw [ho] at hi'
          simp only at hi'
          cases hg : o.guard with
          | some x => rw [hg] at hi'; exact hi'.elim
          | none =>
            rw [hg] at hi'
            simp only at hi'
            have hw : Region.wanted o (yielded ops a.tmps) = true := by simp [Region.wanted, hg]
            simp only [hw, if_true]
            obtain ⟨hy, hd⟩ := opVc_yields hG ha hi'
            exact .inl (hy.upon (fun v w' hk => ih _ _ _ _ (ha.put o.dst hd v) hk) fun v w' hv => hP _ _ _ ha.nil hv)

def drawV (P : Program) (N : NN) (ops : Array Oper) (e : Env) (w : World) (K : Env → World → Prop) : Prop :=
  bif Nat.beq (lead ops.toList) ops.size then
    bif Region.lexB .any ops then regS P N ops w.drew ops.toList e fun e' => K e' w.drew else False
  else
    bif Region.lexTailB .any ops (lead ops.toList) then
      regS P N ops w.drew (ops.toList.take (lead ops.toList)) e fun e' => regV P N ops (ops.toList.drop (lead ops.toList)) e' w.drew K
    else
      bif Nat.ble (ops.toList.filter noisy).length 4 then
        bif Region.noSelect ops then anyW P N ops K ops.size (Array.replicate ops.size false) e w.drew else False
      else
        bif Region.lexB .any ops then ∃ C : World → Prop, C w.drew ∧ regQ P N ops C w.drew ops.toList e fun e' => ∀ w', C w' → K e' w' else False

theorem drawV_region {P : Program} (hG : Good P) (hm : P.follows .mixedOrders = true) {N : NN} {id : Nat} {ops : Array Oper} {Q : Exit → Act → World → Prop} {K : Env → World → Prop}
    (hQ : ∀ e a w, Agrees N e a → K e w → Q .normal a w) (hP : ∀ a w v, Agrees N [] a → N.pan v w → Q (.panic [{ v := v, recovered := false }]) a w)
    (hU : ∀ c a w d v, (∀ k, d = some k → slotOk N k) → Q (.panic c) (a.put d v) w → Q (.panic c) a w) {e : Env} {a : Act} {w : World} (ha : Agrees N e a) (h : drawV P N ops e w K) : (Code.region id ops true).wp P Q a w := by
  unfold drawV at h
  cases hn : Nat.beq (lead ops.toList) ops.size with
  | true =>
    rw [hn, cond_true] at h
    cases hB : Region.lexB .any ops with
    | false => rw [hB] at h; exact h.elim
    | true =>
      rw [hB, cond_true] at h
      exact wp_region_still hm hB (regS_still hG (fun e a ha hk => hQ e a _ ha hk) _ _ _ ha h)
  | false =>
    rw [hn, cond_false] at h
    cases hB : Region.lexTailB .any ops (lead ops.toList) with
    | false =>
      rw [hB, cond_false] at h
      cases h4 : Nat.ble (ops.toList.filter noisy).length 4 with
      | true =>
        rw [h4, cond_true] at h
        cases hs : Region.noSelect ops with
        | false => rw [hs] at h; exact h.elim
        | true =>
          rw [hs, cond_true] at h
          exact wp_region_any hm (anyW_sound hG hs hQ hP hU _ _ _ _ _ ha h)
      | false =>
      rw [h4, cond_false] at h
      cases hL : Region.lexB .any ops with
      | false => rw [hL] at h; exact h.elim
      | true =>
        rw [hL, cond_true] at h
        obtain ⟨C, hC, h⟩ := h
        exact wp_region_quiet (C := C) hm hL hC (regQ_quiet hG (fun e a ha hk w' hw' => hQ e a w' ha (hk w' hw')) _ _ _ ha h)
    | true =>
      rw [hB, cond_true] at h
      have := wp_region_still_tail (P := P) (id := id) (Q := Q) (a := a) (w := w) (l := ops.toList) (lead ops.toList) hm (by simpa using hB)
        (by simpa using regS_still hG (Q := fun a' => wpList P ops Q (ops.toList.drop (lead ops.toList)) a' w.drew) (fun e a ha hk => regV_list hG hQ hP _ _ _ _ ha hk) _ _ _ ha h)
      simpa using this

/-! ### What a function hands back -/

def resL (P : Program) (e : Env) (w : World) : List ResultVar → (List Value → Prop) → Prop
  | [], K => K []
  | .tmp t :: rs, K => match get? e t with | some v => resL P e w rs fun vs => K (v :: vs) | none => False
  | .cell a t :: rs, K => match get? e a with | some v => loadV P t v w fun u => resL P e w rs fun vs => K (u :: vs) | none => False

def pack : List Value → Value
  | [v] => v
  | vs => .tuple vs.toArray

def retV (P : Program) (rs : List ResultVar) (e : Env) (w : World) (R : Value → World → Prop) : Prop :=
  resL P e w rs fun vs => R (pack vs) w

def resSem (tmps : Array Value) : ResultVar → Sem Value
  | .tmp t => pure (tmps.getD t undef)
  | .cell b t => do loadVar t (← asAddr (tmps.getD b undef))

theorem results_eq (fn : Func) (tmps : Array Value) : results fn tmps = (do let vs ← fn.results.mapM (resSem tmps); pure (if h : vs.size = 1 then vs[0] else .tuple vs)) := by
  unfold results
  congr 1

theorem resL_run {P : Program} {N : NN} {e : Env} {a : Act} (ha : Agrees N e a) {w : World} : ∀ {rs : List ResultVar} {K : List Value → Prop}, resL P e w rs K →
    ∃ vs, (rs.mapM (resSem a.tmps)).run P w = .ok vs w ∧ K vs
  | [], _, h => ⟨[], rfl, h⟩
  | .tmp t :: rs, K, h => by
    unfold resL at h
    split at h
    · rename_i v hv
      obtain ⟨vs, hr, hk⟩ := resL_run ha h
      refine ⟨v :: vs, ?_, hk⟩
      have : a.tmps.getD t undef = v := by simp [Array.getD_eq_getD_getElem?, ha.2.2 t v hv]
      simp only [List.mapM_cons, Sem.run_bind, resSem, Sem.run_pure, Result.andThen_ok, hr, this]
    · exact h.elim
  | .cell b t :: rs, K, h => by
    unfold resL at h
    split at h
    · rename_i v hv
      have hb : a.tmps.getD b undef = v := by simp [Array.getD_eq_getD_getElem?, ha.2.2 b v hv]
      cases v with
      | pointer p =>
        cases p with
        | none => exact h.elim
        | some ad =>
          obtain ⟨u, hl, h⟩ := loadV_var h
          obtain ⟨vs, hr, hk⟩ := resL_run ha h
          refine ⟨u :: vs, ?_, hk⟩
          simp only [List.mapM_cons, Sem.run_bind, resSem, hb, asAddr, Sem.run_pure, Result.andThen_ok, hl, hr]
      | _ => exact h.elim
    · exact h.elim

theorem retV_leaving {P : Program} {f : FuncId} {fn : Func} {N : NN} {e : Env} {a : Act} (hf : P.funcs[f]? = some fn) (ha : Agrees N e a) {w : World} {R : Value → World → Prop}
    (h : retV P fn.results.toList e w R) : ∃ v, R v w ∧ (results fn a.tmps).run P w = .ok v w := by
  obtain ⟨vs, hr, hk⟩ := resL_run ha h
  refine ⟨pack vs, hk, ?_⟩
  rw [results_eq, Sem.run_bind, Array.mapM_eq_mapM_toList, Sem.run_map, hr]
  simp only [Result.andThen_ok, Sem.run_pure]
  match vs with
  | [] => rfl
  | [v] => rfl
  | v :: u :: vs => simp [pack]

theorem T.ret {P : Program} {f : FuncId} {fn : Func} {N : NN} {k : List Item} {e : Env} {w : World} {R : Value → World → Prop} (hf : P.funcs[f]? = some fn)
    (h : retV P fn.results.toList e w R) : T P f N (.code .ret :: k) e w R := by
  intro a ha cs
  obtain ⟨v, hR, hr⟩ := retV_leaving hf ha h
  exact ⟨.returned v, w, _, hR, .one step_ret, rfl, rfl, ha.2.1.1, rfl, ⟨fn, hf, hr⟩, ha.2.1.2⟩

theorem T.end {P : Program} {f : FuncId} {fn : Func} {N : NN} {e : Env} {w : World} {R : Value → World → Prop} (hf : P.funcs[f]? = some fn)
    (h : retV P fn.results.toList e w R) : T P f N [] e w R := by
  intro a ha cs
  obtain ⟨v, hR, hr⟩ := retV_leaving hf ha h
  exact ⟨.returned v, w, _, hR, .one step_end, rfl, rfl, ha.2.1.1, rfl, ⟨fn, hf, hr⟩, ha.2.1.2⟩

end Go.Vc
