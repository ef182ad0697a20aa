/-
  The law World: one step on the machine.
-/
import Derived.Test.Qxb6500317aGreatWoG
set_option linter.unusedSimpArgs false
set_option linter.unusedVariables false
set_option maxRecDepth 100000
set_option linter.unusedSectionVars false
set_option maxHeartbeats 2000000
namespace Go.Proofs.Qxb6500317aGreat
open Go Go.Vc

/-- What is the law's own stays. -/
def Prt (A : XA) (F : List Nat) (w : World) (F' : List Nat) (w' : World) : Prop := ∀ k, k < w.heap.size → A.n6 ≤ k → k ∉ F → w'.heap[k]? = w.heap[k]? ∧ k ∉ F'
/-- The machine holds the probe, as the book says. -/
def WS (W w : World) (A : XA) (gb : Nat) (F : List Nat) (T Tr : ByteArray) : Prop := ∃ E ms h S fr, E.A = A ∧ E.W = W ∧ ¬ E.I gb ∧ E.P = okP tProbe ∧ E.fs = fs6 ∧ XL E w F ms h S fr ∧ SW S ∧ ms.show = litM ∧ BK T Tr h
section
variable {W w w' : World} {A : XA} {gb : Nat} {F : List Nat} {T Tr : ByteArray} {o : OpV}
theorem Frm.prt {F' : List Nat} (f : Frm A F w F' w') : Prt A F w F' w' := fun k h1 h2 h3 => ⟨f.b k h1 h2 h3, fun g => by
  rcases f.f k g with e | e
  · exact h3 e
  · omega⟩
theorem Prt.keep {F' : List Nat} {w1 : World} (f : Prt A F w1 F' w') (hs : Same [] w.heap.size w w1) : Prt A F w F' w' := fun k h1 h2 h3 => by
  have sz := hs.size
  obtain ⟨a, b⟩ := f k (by omega) h2 h3
  exact ⟨a.trans (hs.block k h1 (by simp)), b⟩
/-- The step's end. -/
theorem do_end {W w w1 : World} {A : XA} {F F' : List Nat} {E : RE} {ms : M.MS} {h : HS} {S fr : Nat → Int} {T Tr : ByteArray} {t a : Nat} {e n k : Int} {s : ByteArray} (eA : E.A = A) (eW : E.W = W) (eG : ¬ E.I gb) (eP : E.P = okP tProbe) (ef : E.fs = fs6) (x : XL E w1 F' ms h S fr) (hS : SW S) (hm : ms.show = litM) (B : BK T Tr h)
    (at_ : AnA w1 t 0 0 0 ⟨#[]⟩) (aa : AnA w1 a e n k s) (lt : w.heap.size ≤ t) (zt : A.n6 ≤ t ∧ t ∉ F' ∧ ¬ E.I t) (p : Prt A F w F' w1) :
    execlaw_Do3.L1 t a (fun v w' => v = .agg #[.int .i64 e, .int .i64 n, .int .i64 k, .string s] ∧ ∃ F', WS W w' A gb F' T Tr ∧ Prt A F w F' w') (fun _ _ => False) w1 := by
  refine execlaw_Do3.step1 _ _ _ _ _ ?_
  unfold execlaw_Do3.V1
  refine ⟨_, _, _, _, aa.c0, aa.c1, aa.c2, aa.c3, putCells_intro t _ 0 w1 _ (fun j hj => by rw [Nat.zero_add]; exact at_.cans j hj) (fun w2 hF => ?_)⟩
  have A2 := at_.fill hF
  have hs : Same [t] w1.heap.size w1 w2 := hF.same _
  refine ⟨_, _, _, _, A2.c0, A2.c1, A2.c2, A2.c3, rfl, F', ⟨E, ms, h, S, fr, eA, eW, eG, eP, ef, x.mv hs (by intro q hq; simp at hq; subst hq; rw [eA]; exact zt), hS, hm, B⟩, fun q h1 h2 h3 => ?_⟩
  obtain ⟨p1, p2⟩ := p q h1 h2 h3
  have : w2.heap[q]? = w1.heap[q]? := by
    by_cases hl : q < w1.heap.size
    · exact hs.block q hl (by simp; omega)
    · rw [Array.getElem?_eq_none (by omega)] at p1
      rw [Array.getElem?_eq_getElem h1] at p1
      cases p1
  exact ⟨this.trans p1, p2⟩
theorem XL.law {E : RE} {ms : M.MS} {h : HS} {S fr : Nat → Int} (x : XL E w F ms h S fr) {b : Nat} (zb : E.A.n6 ≤ b ∧ b ∉ F ∧ ¬ E.I b) (i : Nat) (v : Value) : XL E (w.setCell ⟨b, i, none⟩ v) F ms h S fr :=
  x.mv (T := [b]) ((Same.refl _ _ _).setCell (.inr (by simp)) _) (by intro q hq; simp at hq; subst hq; exact zb)
theorem Prt.set {F' : List Nat} (p : Prt A F w F' w') {b : Nat} (hb : w.heap.size ≤ b) (i : Nat) (v : Value) : Prt A F w F' (w'.setCell ⟨b, i, none⟩ v) := fun q h1 h2 h3 => by
  obtain ⟨p1, p2⟩ := p q h1 h2 h3
  have hs : Same [b] w'.heap.size w' (w'.setCell ⟨b, i, none⟩ v) := (Same.refl _ _ _).setCell (.inr (by simp)) _
  have hl : q < w'.heap.size := by
    by_cases hl : q < w'.heap.size
    · exact hl
    · rw [Array.getElem?_eq_none (by omega), Array.getElem?_eq_getElem h1] at p1
      cases p1
  exact ⟨(hs.block q hl (by simp; omega)).trans p1, p2⟩
theorem AnA.other {w : World} {a b i : Nat} {e n k : Int} {s : ByteArray} (h : AnA w a e n k s) (hn : a ≠ b) (v : Value) : AnA (w.setCell ⟨b, i, none⟩ v) a e n k s :=
  h.same (S := [b]) ((Same.refl _ _ _).setCell (.inr (by simp)) _) h.lt (by simp; exact hn)
theorem AnA.blk {w w' : World} {a : Nat} {e n k : Int} {s : ByteArray} (h : AnA w a e n k s) (hb : w'.heap[a]? = w.heap[a]?) : AnA w' a e n k s := by
  have c : ∀ j, w'.cell? ⟨a, j, none⟩ = w.cell? ⟨a, j, none⟩ := fun j => World.cell?_of_block (w := w) hb
  have f : ∀ j, w'.frozen? ⟨a, j, none⟩ = w.frozen? ⟨a, j, none⟩ := fun j => World.frozen?_of_block (w := w) hb
  exact ⟨by rw [c]; exact h.c0, by rw [c]; exact h.c1, by rw [c]; exact h.c2, by rw [c]; exact h.c3, fun j => by rw [f]; exact h.f j⟩
theorem Do3_spec (ws : WS W w A gb F T Tr) (lgb : gb < w.heap.size) (hT : T.size ≤ 48 ∧ T.size % 8 = 0) (ho : o.Full) (k1 : 1 ≤ o.kind) (k7 : o.kind ≤ 7) :
    Runs Tryz.prog execlaw_Do3.id #[rp A.xb, .agg #[.int .i64 o.kind, .int .i64 o.a, .int .i64 o.b, .int .i64 o.c, .string o.s, .string o.t]] w (fun v w' => v = .agg #[.int .i64 (owed T Tr o).1.1, .int .i64 (owed T Tr o).1.2.1, .int .i64 0, .string (owed T Tr o).1.2.2] ∧ ∃ F', WS W w' A gb F' (owed T Tr o).2.1 (owed T Tr o).2.2 ∧ Prt A F w F' w') := by
  obtain ⟨E, ms, h, S, fr, eA, eW, eG, eP, ef, x, hS, hm, B⟩ := ws
  subst eA eW
  have hs := ho.s
  have ha := ho.a1
  refine execlaw_Do3.enter _ _ _ _ _ _ _ _ _ _ ?_
  unfold execlaw_Do3.V
  refine letB_intro fun ob hob => letW_intro fun w9 hw9 => letB_intro fun t ht => letW_intro fun w11 hw11 => letB_intro fun a hat => letW_intro fun w13 hw13 => ?_
  have S9 : Same [] w.heap.size w w9 := by rw [hw9]; exact (Same.refl _ _ _).alloc (Nat.le_refl _) _
  have z9 : w9.heap.size = w.heap.size + 1 := by rw [hw9]; simp
  have S11 : Same [] w9.heap.size w9 w11 := by rw [hw11]; exact (Same.refl _ _ _).alloc (Nat.le_refl _) _
  have z11 : w11.heap.size = w9.heap.size + 1 := by rw [hw11]; simp
  have S13 : Same [] w11.heap.size w11 w13 := by rw [hw13]; exact (Same.refl _ _ _).alloc (Nat.le_refl _) _
  have z13 : w13.heap.size = w11.heap.size + 1 := by rw [hw13]; simp
  have p9 : OpAt w9 ob o := by rw [hw9, hob]; exact OpAt.new w o _
  have t11 : AnA w11 t 0 0 0 ⟨#[]⟩ := by rw [hw11, ht]; exact AnA.new w9 _
  have a13 : AnA w13 a 0 0 0 ⟨#[]⟩ := by rw [hw13, hat]; exact AnA.new w11 _
  refine putCells_intro a _ 0 w13 _ (fun j hj => by rw [Nat.zero_add]; exact a13.cans j hj) (fun w14 hF => ?_)
  have a14 : AnA w14 a 0 0 0 ⟨#[]⟩ := a13.fill hF
  have T13 : Same [] w.heap.size w w13 := Same.more (B := 0) (Same.more (B := 0) S9 S11) S13
  have S14a : Same [a] w13.heap.size w13 w14 := hF.same _
  have z14 := S14a.size
  have S14 : Same [] w.heap.size w w14 := T13.trans (S14a.mono (by omega) (fun k hk hl => by simp at hk; omega))
  have p14 : OpAt w14 ob o := (p9.same (Same.more (B := 0) S11 S13) (by omega) (by simp)).same S14a (by omega) (by simp; omega)
  have t14 : AnA w14 t 0 0 0 ⟨#[]⟩ := (t11.same S13 (by omega) (by simp)).same S14a (by omega) (by simp; omega)
  have x14 := x.keep S14
  have lF := x.X.ho.lF
  have lt6 := x.X.lt
  have zz : ∀ k, w.heap.size ≤ k → E.A.n6 ≤ k ∧ k ∉ F ∧ ¬ E.I k := fun k hk => ⟨by omega, fun q => by have := lF k q; omega, fun q => by have := (x.iI k q).2.2; omega⟩
  have up : ∀ k, E.I k → (E.at w14 F).I k := fun k hk => ⟨(x14.iI k hk).2.2, (x14.iI k hk).1, (x14.iI k hk).2.1⟩
  have lta := a14.lt
  have ltt := t14.lt
  -- behind an invocation
  have inv : ∀ (r : OwR) (w1 : World), owed T Tr o = r → InvOk (E.at w14 F) r (.tuple #[.string r.1.2.2, .int .i64 r.1.2.1, .int .i64 r.1.1]) w1 →
      (can w1 ⟨a, 3, none⟩ ∧ letW (World.setCell w1 ⟨a, 3, none⟩ (.string r.1.2.2)) fun w28 => (can w28 ⟨a, 1, none⟩ ∧ letW (World.setCell w28 ⟨a, 1, none⟩ (.int .i64 r.1.2.1)) fun w29 => (can w29 ⟨a, 0, none⟩ ∧ letW (World.setCell w29 ⟨a, 0, none⟩ (.int .i64 r.1.1)) fun w30 => (execlaw_Do3.L1 t a (fun v w' => v = .agg #[.int .i64 (owed T Tr o).1.1, .int .i64 (owed T Tr o).1.2.1, .int .i64 0, .string (owed T Tr o).1.2.2] ∧ ∃ F', WS E.W w' E.A gb F' (owed T Tr o).2.1 (owed T Tr o).2.2 ∧ Prt E.A F w F' w') (fun _ _ => False) w30)))) := by
    rintro r w1 er ⟨_, F', ms', h', S', fr', xi, hS', hm', B'⟩
    rw [er]
    have x1 : XL E w1 F' ms' h' S' fr' := x14.lower xi up (fun j hj => xi.zx j (up j hj))
    have law : ∀ k, k < w14.heap.size → w.heap.size ≤ k → w1.heap[k]? = w14.heap[k]? ∧ (E.A.n6 ≤ k ∧ k ∉ F' ∧ ¬ E.I k) := fun k hk hl => by
      have z := zz k hl
      have i := xi.iI k ⟨hk, z.1, z.2.1⟩
      exact ⟨xi.zx k ⟨hk, z.1, z.2.1⟩, z.1, i.2.1, z.2.2⟩
    obtain ⟨ba, za⟩ := law a lta (by omega)
    obtain ⟨bt, zt⟩ := law t ltt (by omega)
    have pr : Prt E.A F w F' w1 := Prt.keep (w1 := w14) (fun k h1 h2 h3 => ⟨xi.zx k ⟨h1, h2, h3⟩, (xi.iI k ⟨h1, h2, h3⟩).2.1⟩) S14
    have a1 := a14.blk ba
    have t1 := t14.blk bt
    refine ⟨a1.cans 3 (by omega), letW_intro fun w28 hw28 => ?_⟩
    have a2 := a1.set3 r.1.2.2
    have x2 := x1.law za 3 (.string r.1.2.2)
    have t2 := t1.other (b := a) (i := 3) (by omega) (.string r.1.2.2)
    have pr2 := pr.set (b := a) (by omega) 3 (.string r.1.2.2)
    rw [← hw28] at a2 x2 t2 pr2
    refine ⟨a2.cans 1 (by omega), letW_intro fun w29 hw29 => ?_⟩
    have a3 := a2.set1 r.1.2.1
    have x3 := x2.law za 1 (.int .i64 r.1.2.1)
    have t3 := t2.other (b := a) (i := 1) (by omega) (.int .i64 r.1.2.1)
    have pr3 := pr2.set (b := a) (by omega) 1 (.int .i64 r.1.2.1)
    rw [← hw29] at a3 x3 t3 pr3
    refine ⟨a3.cans 0 (by omega), letW_intro fun w30 hw30 => ?_⟩
    have a4 := a3.set0 r.1.1
    have x4 := x3.law za 0 (.int .i64 r.1.1)
    have t4 := t3.other (b := a) (i := 0) (by omega) (.int .i64 r.1.1)
    have pr4 := pr3.set (b := a) (by omega) 0 (.int .i64 r.1.1)
    rw [← hw30] at a4 x4 t4 pr4
    exact do_end rfl rfl eG eP ef x4 hS' hm' B' t4 a4 (by omega) zt pr4
  have er : ∀ n, o.kind ≠ 1 → o.kind ≠ 5 → n = (if o.kind = 2 then 2 else 0) → owed T Tr o = owed2 T Tr o (fuelN o.a) n := fun n q1 q5 qn => by
    unfold owed owed1
    rw [if_neg q1, if_neg q5, qn]
    rfl
  have fin : ∀ {nm : ByteArray} {r : OwR}, owed T Tr o = r → Runs Tryz.prog exec_Exec_Invoke.id #[rp E.A.xb, .string nm, .string o.s, .int .i64 o.a] w14 (InvOk (E.at w14 F) r) →
      RunsQ Tryz.prog exec_Exec_Invoke.id #[rp E.A.xb, .string nm, .string o.s, .int .i64 o.a] w14 (fun r23 w24 => (∃ x25 : ByteArray, ∃ x26 : Int, ∃ x27 : Int, (r23 = (.tuple #[(.string x25), (.int .i64 x26), (.int .i64 x27)]) ∧ (can w24 ⟨a, 3, none⟩ ∧ letW (World.setCell w24 ⟨a, 3, none⟩ (.string x25)) fun w28 => (can w28 ⟨a, 1, none⟩ ∧ letW (World.setCell w28 ⟨a, 1, none⟩ (.int .i64 x26)) fun w29 => (can w29 ⟨a, 0, none⟩ ∧ letW (World.setCell w29 ⟨a, 0, none⟩ (.int .i64 x27)) fun w30 => (execlaw_Do3.L1 t a (fun v w' => v = .agg #[.int .i64 (owed T Tr o).1.1, .int .i64 (owed T Tr o).1.2.1, .int .i64 0, .string (owed T Tr o).1.2.2] ∧ ∃ F', WS E.W w' E.A gb F' (owed T Tr o).2.1 (owed T Tr o).2.2 ∧ Prt E.A F w F' w') (fun _ _ => False) w30))))))) (fun _ _ => False) := fun e hr => by
    refine RunsQ.post hr ?_
    intro v w1 q
    obtain ⟨rfl, q2⟩ := q
    exact ⟨_, _, _, rfl, inv _ w1 e ⟨rfl, q2⟩⟩
  refine ⟨_, p14.c0, ?_⟩
  have kk : o.kind = 1 ∨ o.kind = 2 ∨ o.kind = 3 ∨ o.kind = 4 ∨ o.kind = 5 ∨ o.kind = 6 ∨ o.kind = 7 := by omega
  rcases kk with q | q | q | q | q | q | q
  · refine cond_true' (by rw [q]; rfl) ⟨_, p14.c4, RunsQ.post (xTape_spec x14.X x14.H o.s hs) ?_⟩
    intro v w18 hv
    have tape : ∀ (e : Int) (w1 : World) (T' : ByteArray) (h' : HS), owed T Tr o = ((e, 0, eS), T', Tr) → XL E w1 F ms h' S fr → BK T' Tr h' → (∀ k, k < w14.heap.size → E.A.n6 ≤ k → k ∉ F → w1.heap[k]? = w14.heap[k]?) → (can w1 ⟨a, 0, none⟩ ∧ letW (World.setCell w1 ⟨a, 0, none⟩ (.int .i64 e)) fun w20 => (execlaw_Do3.L1 t a (fun v w' => v = .agg #[.int .i64 (owed T Tr o).1.1, .int .i64 (owed T Tr o).1.2.1, .int .i64 0, .string (owed T Tr o).1.2.2] ∧ ∃ F', WS E.W w' E.A gb F' (owed T Tr o).2.1 (owed T Tr o).2.2 ∧ Prt E.A F w F' w') (fun _ _ => False) w20)) := by
      intro e w1 T' h' er x1 B' kp
      rw [er]
      have za := zz a (by omega)
      have zt := zz t (by omega)
      have a1 := a14.blk (kp a lta za.1 za.2.1)
      have t1 := t14.blk (kp t ltt zt.1 zt.2.1)
      have pr : Prt E.A F w F w1 := Prt.keep (w1 := w14) (fun k h1 h2 h3 => ⟨kp k h1 h2 h3, h3⟩) S14
      refine ⟨a1.cans 0 (by omega), letW_intro fun w20 hw20 => ?_⟩
      have a2 := a1.set0 e
      have x2 := x1.law za 0 (.int .i64 e)
      have t2 := t1.other (b := a) (i := 0) (by omega) (.int .i64 e)
      have pr2 := pr.set (b := a) (by omega) 0 (.int .i64 e)
      rw [← hw20] at a2 x2 t2 pr2
      exact do_end rfl rfl eG eP ef x2 hS hm B' t2 a2 (by omega) zt pr2
    have eo : owed T Tr o = if 48 < o.s.size then ((1, 0, eS), T, Tr) else if o.s.size % 8 ≠ 0 then ((34, 0, eS), T, Tr) else ((0, 0, eS), o.s, Tr) := by
      unfold owed owed1
      rw [if_pos q]
    by_cases e1 : 48 < o.s.size
    · rw [if_pos e1] at hv eo
      obtain ⟨rfl, rfl⟩ := hv
      exact ⟨_, rfl, tape 1 _ T h eo x14 B (fun _ _ _ _ => rfl)⟩
    rw [if_neg e1] at hv eo
    by_cases e2 : o.s.size % 8 ≠ 0
    · rw [if_pos e2] at hv eo
      obtain ⟨rfl, rfl⟩ := hv
      exact ⟨_, rfl, tape 34 _ T h eo x14 B (fun _ _ _ _ => rfl)⟩
    rw [if_neg e2] at hv eo
    obtain ⟨rfl, X18, H18, S18⟩ := hv
    obtain ⟨_, _, _, _, ⟨h1, h2⟩, ⟨k1, k2, x1, x2, ne⟩, lt, z0⟩ := x14.X.zone
    refine ⟨_, rfl, tape 0 _ o.s _ eo (x14.host S18 (by simp) X18.ho (fun d hd => .inl hd)) ⟨B.n, B.k0, B.k1, ?_, fun i hi => ?_, B.tr⟩ (fun k h1 h2 h3 => S18.block k h1 (by simp; omega))⟩
    · show o.s.size = 8 * (o.s.size / 8)
      omega
    · have hi : i < o.s.size / 8 := hi
      show word o.s i = if 0 + i < o.s.size / 8 then word o.s (0 + i) else h.tape (0 + i)
      rw [Nat.zero_add, if_pos hi]
  · refine cond_false' (by rw [q]; rfl) (cond_true' (by rw [q]; rfl) ⟨_, p14.c4, _, p14.c1, fin (er 2 (by omega) (by omega) (by rw [if_pos q])) (inv_log (E := E.at w14 F) eP ef x14.rebase hS hm B hs ha q)⟩)
  · refine cond_false' (by rw [q]; rfl) (cond_false' (by rw [q]; rfl) (cond_true' (by rw [q]; rfl) ⟨_, p14.c4, _, p14.c1, fin (er 0 (by omega) (by omega) (by rw [if_neg (by omega)])) (inv_take (E := E.at w14 F) eP ef x14.rebase hS hm B hT.1 hs ha q)⟩))
  · refine cond_false' (by rw [q]; rfl) (cond_false' (by rw [q]; rfl) (cond_false' (by rw [q]; rfl) (cond_true' (by rw [q]; rfl) ⟨_, p14.c4, _, p14.c1, fin (er 0 (by omega) (by omega) (by rw [if_neg (by omega)])) (inv_tape (E := E.at w14 F) eP x14.rebase hS hm B hT.1 hs ha q)⟩)))
  · refine cond_false' (by rw [q]; rfl) (cond_false' (by rw [q]; rfl) (cond_false' (by rw [q]; rfl) (cond_false' (by rw [q]; rfl) (cond_true' (by rw [q]; rfl) ⟨_, p14.c1, ?_⟩))))
    have eo : owed T Tr o = ((0, fuelN o.a, eS), T, eS) := by
      unfold owed owed1
      rw [if_neg (by omega), if_pos q]
      rfl
    obtain ⟨n1, n2, n3, n4⟩ := n6
    refine Load_spec (kk := fun i => if i = 0 then 2 else 1) (nb := 2) x14.X x14.H tk6 o.a (fun i hi => ?_) (.inl (by rw [n1])) (fun g => absurd (st6 ms) g) (fun _ _ w0 I mb cdb fb nbs v7 ga gc w53 F' x53 nI fr53 => ?_) (fun _ g => absurd g (by rw [n4]; decide))
    · have : i = 0 ∨ i = 1 := by omega
      rcases this with rfl | rfl
      · exact .inr (.inl ⟨by kernel_rfl, rfl⟩)
      · exact .inl ⟨by kernel_rfl, rfl⟩
    rw [eo]
    have z53 := fr53.s
    have law : ∀ k, k < w14.heap.size → w.heap.size ≤ k → w53.heap[k]? = w14.heap[k]? ∧ (E.A.n6 ≤ k ∧ k ∉ F' ∧ ¬ I k) := fun k hk hl => by
      have z := zz k hl
      obtain ⟨p1, p2⟩ := fr53.prt k hk z.1 z.2.1
      exact ⟨p1, z.1, p2, fun g => by have := nI k g; omega⟩
    obtain ⟨ba, za⟩ := law a lta (by omega)
    obtain ⟨bt, zt⟩ := law t ltt (by omega)
    have pr : Prt E.A F w F' w53 := Prt.keep fr53.prt S14
    have a1 := a14.blk ba
    have t1 := t14.blk bt
    have B' : BK T eS (bindH h.cleared (fun i => if i = 0 then 2 else 1) 2) := ⟨rfl, rfl, rfl, B.t, B.w, rfl⟩
    refine ⟨_, _, _, rfl, a1.cans 1 (by omega), letW_intro fun w57 hw57 => ?_⟩
    have a2 := a1.set1 (fuelN o.a)
    have x2 := x53.law za 1 (.int .i64 (fuelN o.a))
    have t2 := t1.other (b := a) (i := 1) (by omega) (.int .i64 (fuelN o.a))
    have pr2 := pr.set (b := a) (by omega) 1 (.int .i64 (fuelN o.a))
    have hw57' : w57 = w53.setCell ⟨a, 1, none⟩ (.int .i64 (fuelN o.a)) := hw57
    rw [← hw57'] at a2 x2 t2 pr2
    refine ⟨a2.cans 2 (by omega), letW_intro fun w58 hw58 => ?_⟩
    have a3 := a2.set2 0
    have x3 := x2.law za 2 (.int .i64 0)
    have t3 := t2.other (b := a) (i := 2) (by omega) (.int .i64 0)
    have pr3 := pr2.set (b := a) (by omega) 2 (.int .i64 0)
    rw [← hw58] at a3 x3 t3 pr3
    refine ⟨a3.cans 0 (by omega), letW_intro fun w59 hw59 => ?_⟩
    have a4 := a3.set0 0
    have x4 := x3.law za 0 (.int .i64 0)
    have t4 := t3.other (b := a) (i := 0) (by omega) (.int .i64 0)
    have pr4 := pr3.set (b := a) (by omega) 0 (.int .i64 0)
    rw [← hw59] at a4 x4 t4 pr4
    exact do_end (E := ⟨E.W, w0, E.A, I, mb, cdb, fb, nbs, okP tProbe, fs6, v7, ga, gc⟩) rfl rfl (fun g => by have := nI gb g; omega) rfl rfl x4 hS (sh6 ms) B' t4 a4 (by omega) zt pr4
  · refine cond_false' (by rw [q]; rfl) (cond_false' (by rw [q]; rfl) (cond_false' (by rw [q]; rfl) (cond_false' (by rw [q]; rfl) (cond_false' (by rw [q]; rfl) (cond_true' (by rw [q]; rfl) ⟨_, p14.c4, _, p14.c1, fin (er 0 (by omega) (by omega) (by rw [if_neg (by omega)])) (inv_carry (E := E.at w14 F) eP ef x14.rebase hS hm B hs ha q)⟩)))))
  · refine cond_false' (by rw [q]; rfl) (cond_false' (by rw [q]; rfl) (cond_false' (by rw [q]; rfl) (cond_false' (by rw [q]; rfl) (cond_false' (by rw [q]; rfl) (cond_false' (by rw [q]; rfl) (cond_true' (by rw [q]; rfl) ⟨_, p14.c4, _, p14.c1, fin (er 0 (by omega) (by omega) (by rw [if_neg (by omega)])) (inv_none (E := E.at w14 F) eP x14.rebase hS hm B hs q)⟩))))))
end
end Go.Proofs.Qxb6500317aGreat
