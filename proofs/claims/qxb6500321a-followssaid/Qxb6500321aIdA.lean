/-
  What the scratch held does not show.
-/
import Derived.Test.Qxb6500321aPeA
set_option linter.unusedSimpArgs false
set_option linter.unusedVariables false
set_option maxRecDepth 100000
set_option linter.unusedSectionVars false
namespace Go.Proofs.Qxb6500321a
open Go Go.Vc

/-- Two readings that end alike. -/
def RR {α β : Type} (R : α → β → Prop) (x : Res α) (y : Res β) : Prop := (∃ (a : α) (b : β) (q : Nat), R a b ∧ x = .ok a q ∧ y = .ok b q) ∨ ∃ n a : Int, x = .err n a ∧ y = .err n a
theorem RR.ok {α β : Type} {R : α → β → Prop} {a : α} {b : β} {q : Nat} (h : R a b) : RR R (.ok a q) (.ok b q) := .inl ⟨a, b, q, h, rfl, rfl⟩
theorem RR.err {α β : Type} {R : α → β → Prop} {n a : Int} : RR R (.err n a) (.err n a) := .inr ⟨n, a, rfl, rfl⟩
theorem RR.cs {α β : Type} {R : α → β → Prop} {motive : (x : Res α) → (y : Res β) → RR R x y → Prop} (ok : ∀ {a : α} {b : β} {q : Nat} (h : R a b), motive (.ok a q) (.ok b q) (.ok h)) (err : ∀ {n a : Int}, motive (.err n a) (.err n a) .err) {x : Res α} {y : Res β} (h : RR R x y) : motive x y h := by
  rcases h with ⟨a, b, q, h, rfl, rfl⟩ | ⟨n, a, rfl, rfl⟩
  · exact ok h
  · exact err
theorem RR.refl {α : Type} (x : Res α) : RR Eq x x := by
  cases x using Res.cs with
  | ok a q => exact .ok rfl
  | err n a => exact .err
theorem RR.bind {α β γ δ : Type} {R : α → β → Prop} {T : γ → δ → Prop} {x : Res α} {y : Res β} {f : α → Nat → Res γ} {g : β → Nat → Res δ} (h : RR R x y) (hf : ∀ a b q, R a b → RR T (f a q) (g b q)) : RR T (x.bind f) (y.bind g) := by
  cases h using RR.cs with
  | ok h => exact hf _ _ _ h
  | err => exact .err
theorem RR.same {α γ δ : Type} {T : γ → δ → Prop} (x : Res α) {f : α → Nat → Res γ} {g : α → Nat → Res δ} (hf : ∀ a q, RR T (f a q) (g a q)) : RR T (x.bind f) (x.bind g) :=
  RR.bind (RR.refl x) (fun a b q h => by subst h; exact hf a q)

structure TA (c d : Sc) : Prop where
  nT : d.nT = c.nT
  ty : ∀ j, j < c.nT → d.types j = c.types j
structure SA (c d : Sc) : Prop where
  t : TA c d
  nO : d.nO = c.nO
  op : ∀ j, j < c.nO → d.opn j = c.opn j
  nI : d.nI = c.nI
  ins : ∀ j, j < c.nI → d.ins j = c.ins j
  nTab : d.nTab = c.nTab
  tabs : ∀ j, j < c.nTab → d.tabs j = c.tabs j
theorem upd_agree {α : Type} {f g : Nat → α} {n : Nat} (h : ∀ j, j < n → g j = f j) (x : α) : ∀ j, j < n + 1 → upd g n x j = upd f n x j := fun j hj => by
  unfold upd
  by_cases e : j = n
  · rw [if_pos e, if_pos e]
  · rw [if_neg e, if_neg e]; exact h j (by omega)
theorem upd_in {α : Type} {f g : Nat → α} {n : Nat} (h : ∀ j, j < n → g j = f j) (i : Nat) (x : α) : ∀ j, j < n → upd g i x j = upd f i x j := fun j hj => by
  unfold upd
  by_cases e : j = i
  · rw [if_pos e, if_pos e]
  · rw [if_neg e, if_neg e]; exact h j hj
section
variable {c d : Sc} {s : ByteArray} {e : Nat}
theorem SA.more (h : SA c d) (i : Ins) : SA (c.more i) (d.more i) := by
  refine ⟨⟨h.t.nT, h.t.ty⟩, h.nO, h.op, ?_, ?_, h.nTab, h.tabs⟩
  · show d.nI + 1 = c.nI + 1
    rw [h.nI]
  · show ∀ j, j < c.nI + 1 → upd d.ins d.nI i j = upd c.ins c.nI i j
    rw [h.nI]; exact upd_agree h.ins i
theorem SA.tab (h : SA c d) (x : Int) : SA (c.tab x) (d.tab x) := by
  refine ⟨⟨h.t.nT, h.t.ty⟩, h.nO, h.op, h.nI, h.ins, ?_, ?_⟩
  · show d.nTab + 1 = c.nTab + 1
    rw [h.nTab]
  · show ∀ j, j < c.nTab + 1 → upd d.tabs d.nTab x j = upd c.tabs c.nTab x j
    rw [h.nTab]; exact upd_agree h.tabs x
theorem SA.opened (h : SA c d) (x : Int) : SA (c.opened x) (d.opened x) := by
  refine ⟨⟨h.t.nT, h.t.ty⟩, ?_, ?_, h.nI, h.ins, h.nTab, h.tabs⟩
  · show d.nO + 1 = c.nO + 1
    rw [h.nO]
  · show ∀ j, j < c.nO + 1 → upd d.opn d.nO x j = upd c.opn c.nO x j
    rw [h.nO]; exact upd_agree h.op x
theorem SA.elsed (h : SA c d) : SA c.elsed d.elsed := by
  refine ⟨⟨h.t.nT, h.t.ty⟩, h.nO, ?_, h.nI, h.ins, h.nTab, h.tabs⟩
  show ∀ j, j < c.nO → upd d.opn (d.nO - 1) 5 j = upd c.opn (c.nO - 1) 5 j
  rw [h.nO]; exact upd_in h.op _ 5
theorem SA.closed (h : SA c d) : SA c.closed d.closed := by
  refine ⟨⟨h.t.nT, h.t.ty⟩, ?_, ?_, h.nI, h.ins, h.nTab, h.tabs⟩
  · show d.nO - 1 = c.nO - 1
    rw [h.nO]
  · show ∀ j, j < c.nO - 1 → d.opn j = c.opn j
    intro j hj; exact h.op j (by omega)
theorem TA.fresh (h : TA c d) : SA c.fresh d.fresh := ⟨⟨h.nT, h.ty⟩, rfl, fun j hj => absurd hj (Nat.not_lt_zero _), rfl, fun j hj => absurd hj (Nat.not_lt_zero _), rfl, fun j hj => absurd hj (Nat.not_lt_zero _)⟩

theorem brL_ind : ∀ (k : Nat) {c d : Sc} (q : Nat), SA c d → RR SA (brL s e k c q) (brL s e k d q)
  | 0, c, d, q, h => .ok h
  | k + 1, c, d, q, h => RR.same _ (fun a q' => brL_ind k q' (h.tab a))
theorem restX_ind (h : SA c d) (op at_ : Int) (p : Nat) : RR (fun x y => x.1 = y.1 ∧ SA x.2 y.2) (restX s e c op at_ p) (restX s e d op at_ p) := by
  unfold restX
  split
  · unfold brP
    rw [h.nTab]
    exact RR.same _ (fun k q => RR.bind (brL_ind (k + 1) q h) (fun a b q2 hab => .ok ⟨rfl, hab⟩))
  · exact RR.same _ (fun i q => .ok ⟨rfl, h⟩)
theorem bodyL_ind : ∀ (k : Nat) {c d : Sc} (p : Nat), SA c d → RR SA (bodyL s e k c p) (bodyL s e k d p)
  | 0, c, d, p, h => .err
  | k + 1, c, d, p, h => by
    haveI := outNil
    rw [bodyL_succ, bodyL_succ]
    refine RR.same _ (fun op q => RR.bind (restX_ind h op p q) (fun x y q2 hxy => ?_))
    obtain ⟨h1, h2⟩ := hxy
    rw [← h1]
    unfold bodyStep
    rw [h2.nI]
    split
    · exact .err
    split
    · rw [h2.nO]
      split
      · exact .err
      · exact bodyL_ind k q2 ((h2.more _).opened _)
    split
    · have : (y.2.nO = 0 ∨ y.2.opn (y.2.nO - 1) ≠ 4) ↔ (x.2.nO = 0 ∨ x.2.opn (x.2.nO - 1) ≠ 4) := by
        rw [h2.nO]
        by_cases g : x.2.nO = 0
        · exact ⟨fun _ => .inl g, fun _ => .inl g⟩
        · rw [h2.op (x.2.nO - 1) (by omega)]
      by_cases g : x.2.nO = 0 ∨ x.2.opn (x.2.nO - 1) ≠ 4
      · rw [if_pos g, if_pos (this.2 g)]; exact .err
      · rw [if_neg g, if_neg (fun h => g (this.1 h))]
        exact bodyL_ind k q2 (h2.more _).elsed
    split
    · rw [h2.nO]
      split
      · exact .ok (h2.more _)
      · exact bodyL_ind k q2 (h2.more _).closed
    · exact bodyL_ind k q2 (h2.more _)
theorem codesL_ind : ∀ (k i : Nat) {c d : Sc} {F G : Nat → FnP} (p : Nat), TA c d → i + k ≤ c.nT → (∀ j, j < i → FnQ (G j) (F j)) →
    RR (fun x y => TA x.1 y.1 ∧ x.1.nT = c.nT ∧ ∀ j, j < i + k → FnQ (y.2 j) (x.2 j)) (codesL s e k i c F p) (codesL s e k i d G p)
  | 0, i, c, d, F, G, p, h, hk, hF => .ok ⟨h, rfl, hF⟩
  | k + 1, i, c, d, F, G, p, h, hk, hF => by
    haveI := outNil
    rw [codesL_succ, codesL_succ]
    refine RR.same _ (fun n q => RR.same _ (fun ls q1 => ?_))
    have hb : RR SA (bodyP s (q + n) c q1) (bodyP s (q + n) d q1) := bodyL_ind _ _ h.fresh
    have hnT : ∀ x q', bodyP s (q + n) c q1 = .ok x q' → x.nT = c.nT := fun x q' hx => (bodyP_g hx).2.2
    revert hb hnT
    generalize bodyP s (q + n) c q1 = X
    generalize bodyP s (q + n) d q1 = Y
    intro hb hnT
    cases hb using RR.cs with
    | err => exact .err
    | @ok x y q2 hxy =>
      show RR _ (if q2 = q + n then _ else _) (if q2 = q + n then _ else _)
      split
      · have e1 := hnT x q2 rfl
        have := codesL_ind k (i + 1) (F := upd F i ⟨c.types i, ls, x.nI, x.ins, x.nTab, x.tabs⟩) (G := upd G i ⟨d.types i, ls, y.nI, y.ins, y.nTab, y.tabs⟩) q2 hxy.t (by omega) (fun j hj => by
          unfold upd
          by_cases ej : j = i
          · rw [if_pos ej, if_pos ej]
            exact ⟨h.ty i (by omega), rfl, hxy.nI, hxy.ins, hxy.nTab, hxy.tabs⟩
          · rw [if_neg ej, if_neg ej]; exact hF j (by omega))
        rw [e1] at this
        have ek : i + (k + 1) = i + 1 + k := by omega
        rw [ek]; exact this
      · exact .err
theorem funcsL_ind : ∀ (k i : Nat) {f g : Nat → Int} (p : Nat), (∀ j, j < i → g j = f j) → RR (fun x y : Nat → Int => ∀ j, j < i + k → y j = x j) (funcsL s e k i f p) (funcsL s e k i g p)
  | 0, i, f, g, p, h => .ok h
  | k + 1, i, f, g, p, h => by
    haveI := outNil
    rw [funcsL_succ, funcsL_succ]
    refine RR.same _ (fun a q => ?_)
    have := funcsL_ind k (i + 1) q (upd_agree h a)
    have ek : i + (k + 1) = i + 1 + k := by omega
    rw [ek]; exact this

theorem secP_ind {P Q : PM} (id : Int) (h : TA c d) (E : PEq P Q) (p : Nat) : RR (fun x y => TA x.1 y.1 ∧ PEq x.2 y.2) (secP s e id c P p) (secP s e id d Q p) := by
  by_cases i1 : id = 1
  · subst i1
    change RR _ ((typesP s e p).bind _) ((typesP s e p).bind _)
    refine RR.same _ (fun a q => .ok ⟨h, ?_⟩)
    split
    · exact E
    · exact { E with nTy := rfl, ty := fun _ _ => rfl }
  by_cases i2 : id = 2
  · subst i2
    change RR _ ((importsP s e p).bind _) ((importsP s e p).bind _)
    refine RR.same _ (fun a q => .ok ⟨h, ?_⟩)
    split
    · exact E
    · exact { E with nIm := rfl, im := fun _ _ => rfl }
  by_cases i3 : id = 3
  · subst i3
    change RR _ ((funcsP s e c.types p).bind _) ((funcsP s e d.types p).bind _)
    refine RR.bind (R := fun a b => b.1 = a.1 ∧ ∀ j, j < a.1 → b.2 j = a.2 j) ?_ (fun a b q hab => .ok ⟨⟨hab.1, hab.2⟩, E⟩)
    unfold funcsP
    refine RR.same _ (fun n q => RR.bind (funcsL_ind n 0 q (fun j hj => absurd hj (Nat.not_lt_zero _))) (fun a b q2 hab => .ok ⟨rfl, fun j hj => hab j (by simpa using hj)⟩))
  by_cases i4 : id = 4
  · subst i4
    change RR _ ((tableP s e p).bind _) ((tableP s e p).bind _)
    refine RR.same _ (fun a q => .ok ⟨h, ?_⟩)
    cases a with
    | none => exact E
    | some y => exact { E with t0 := rfl, t1 := rfl }
  by_cases i5 : id = 5
  · subst i5
    change RR _ ((memoryP s e p).bind _) ((memoryP s e p).bind _)
    refine RR.same _ (fun a q => .ok ⟨h, ?_⟩)
    cases a with
    | none => exact E
    | some y => exact { E with m0 := rfl, m1 := rfl }
  by_cases i6 : id = 6
  · subst i6
    change RR _ ((globsP s e p).bind _) ((globsP s e p).bind _)
    refine RR.same _ (fun a q => .ok ⟨h, ?_⟩)
    split
    · exact E
    · exact { E with gn := rfl, g := fun _ _ => rfl }
  by_cases i7 : id = 7
  · subst i7
    change RR _ ((exportsP s e p).bind _) ((exportsP s e p).bind _)
    refine RR.same _ (fun a q => .ok ⟨h, ?_⟩)
    split
    · exact E
    · exact { E with nEx := rfl, ex := fun _ _ => rfl }
  by_cases i8 : id = 8
  · subst i8
    change RR _ ((u32P s e p).bind _) ((u32P s e p).bind _)
    exact RR.same _ (fun a q => .ok ⟨h, { E with start := rfl }⟩)
  by_cases i9 : id = 9
  · subst i9
    change RR _ ((elemsP s e p).bind _) ((elemsP s e p).bind _)
    refine RR.same _ (fun a q => .ok ⟨h, ?_⟩)
    split
    · exact E
    · exact { E with nEl := rfl, el := fun _ _ => ⟨rfl, rfl, fun _ _ => rfl⟩ }
  by_cases i10 : id = 10
  · subst i10
    change RR _ ((codesP s e c p).bind _) ((codesP s e d p).bind _)
    refine RR.bind (R := fun a b => b.1 = a.1 ∧ TA a.2.1 b.2.1 ∧ ∀ j, j < a.1 → FnQ (b.2.2 j) (a.2.2 j)) ?_ (fun a b q hab => .ok ⟨hab.2.1, ?_⟩)
    · unfold codesP
      refine RR.same _ (fun n q => ?_)
      rw [h.nT]
      split
      · rename_i hn
        refine RR.bind (codesL_ind n 0 q h (by omega) (fun j hj => absurd hj (Nat.not_lt_zero _))) (fun a b q2 hab => .ok ⟨rfl, hab.1, fun j hj => hab.2.2 j (by simpa using hj)⟩)
      · exact .err
    · show PEq (if a.1 = 0 then P else _) (if b.1 = 0 then Q else _)
      rw [hab.1]
      split
      · exact E
      · exact { E with nf := rfl, fn := hab.2.2 }
  have eL : ∀ (c : Sc) (P : PM), secP s e id c P p = (datasP s e p).bind fun a q => .ok (c, if a.1 = 0 then P else { { P with nD := a.1 } with da := a.2 }) q := fun c P => by
    unfold secP
    rw [if_neg i1, if_neg i2, if_neg i3, if_neg i4, if_neg i5, if_neg i6, if_neg i7, if_neg i8, if_neg i9, if_neg i10]
  rw [eL, eL]
  refine RR.same _ (fun a q => .ok ⟨h, ?_⟩)
  split
  · exact E
  · exact { E with nD := rfl, da := fun _ _ => rfl }
theorem decL_ind : ∀ (k : Nat) (last : Int) {c d : Sc} {P Q : PM} (p : Nat), TA c d → PEq P Q → RR (fun x y => TA x.1 y.1 ∧ PEq x.2 y.2) (decL s k last c P p) (decL s k last d Q p)
  | 0, last, c, d, P, Q, p, h, E => .err
  | k + 1, last, c, d, P, Q, p, h, E => by
    haveI := outNil
    rw [decL_succ, decL_succ]
    split
    · refine RR.same _ (fun id q => ?_)
      split
      · exact .err
      · refine RR.same _ (fun n q1 => RR.bind (secP_ind id h E q1) (fun a b q2 hab => ?_))
        split
        · exact decL_ind k id q2 hab.1 hab.2
        · exact .err
    · rw [h.nT, E.nf]
      split
      · exact .ok ⟨h, E⟩
      · exact .err
theorem PEq.refl (P : PM) : PEq P P := ⟨rfl, fun _ _ => rfl, rfl, fun _ _ => rfl, rfl, fun _ _ => ⟨rfl, rfl, rfl, fun _ _ => rfl, rfl, fun _ _ => rfl⟩, rfl, rfl, rfl, rfl, rfl, fun _ _ => rfl, rfl, fun _ _ => rfl, rfl, rfl, fun _ _ => ⟨rfl, rfl, fun _ _ => rfl⟩, rfl, fun _ _ => rfl⟩
theorem decA_ind (s : ByteArray) (c d : Sc) : RR (fun x y : Sc × PM => PEq x.2 y.2) (decA s c) (decA s d) := by
  unfold decA
  split
  · exact .err
  split
  · exact .err
  split
  · have := decL_ind (s := s) (s.size - 8 + 1) 0 (c := { c with nT := 0 }) (d := { d with nT := 0 }) 8 ⟨rfl, fun j hj => absurd hj (Nat.not_lt_zero _)⟩ (PEq.refl pm0)
    unfold decP
    revert this
    generalize decL s (s.size - 8 + 1) 0 { c with nT := 0 } pm0 8 = X
    generalize decL s (s.size - 8 + 1) 0 { d with nT := 0 } pm0 8 = Y
    intro h
    cases h using RR.cs with
    | ok h => exact .ok h.2
    | err => exact .err
  · exact .err
/-- A text that is taken is taken with every scratch, and alike. -/
theorem decA_again {s : ByteArray} {c : Sc} {x : Sc × PM} {q : Nat} (h : decA s c = .ok x q) (d : Sc) : ∃ y, decA s d = .ok y q ∧ PEq x.2 y.2 := by
  have := decA_ind s c d
  rw [h] at this
  generalize hY : decA s d = Y at this
  cases this using RR.cs with
  | ok h => exact ⟨_, rfl, h⟩
theorem decA_refused {s : ByteArray} {c : Sc} {n a : Int} (h : decA s c = .err n a) (d : Sc) : decA s d = .err n a := by
  have := decA_ind s c d
  rw [h] at this
  generalize hY : decA s d = Y at this
  cases this using RR.cs with
  | err => rfl
end
end Go.Proofs.Qxb6500321a
