/-
  The law Means2: what a step wants.
-/
import Derived.Test.Qxb6500317aGreatWoB
set_option linter.unusedSimpArgs false
set_option linter.unusedVariables false
set_option maxRecDepth 100000
set_option linter.unusedSectionVars false
set_option maxHeartbeats 1000000
namespace Go.Proofs.Qxb6500317aGreat
open Go Go.Vc

/-- The ghosts in memory. -/
structure GhAt (w : World) (gb : Nat) (G P : Int) : Prop where
  c0 : w.cell? ⟨gb, 0, none⟩ = some (.int .u64 G)
  c1 : w.cell? ⟨gb, 1, none⟩ = some (.int .u64 P)
  f : ∀ j, w.frozen? ⟨gb, j, none⟩ = false
section
variable {w w' : World} {gb : Nat} {G P : Int}
theorem GhAt.lt (h : GhAt w gb G P) : gb < w.heap.size := cell_lt h.c0
theorem GhAt.same (h : GhAt w gb G P) {S : List Nat} {B : Nat} (hs : Same S B w w') (hb : gb < B) (hn : gb ∉ S) : GhAt w' gb G P :=
  ⟨by rw [hs.cell (p := ⟨gb, 0, none⟩) hb hn]; exact h.c0, by rw [hs.cell (p := ⟨gb, 1, none⟩) hb hn]; exact h.c1, fun j => by rw [hs.frozen (p := ⟨gb, j, none⟩) hb hn]; exact h.f j⟩
theorem GhAt.set0 (h : GhAt w gb G P) (x : Int) : GhAt (w.setCell ⟨gb, 0, none⟩ (.int .u64 x)) gb x P :=
  ⟨by rw [cell_setCell, if_pos ⟨rfl, rfl⟩, h.c0]; rfl, by rw [cell_setCell, if_neg (by omega)]; exact h.c1, fun j => by rw [World.frozen?_setCell]; exact h.f j⟩
theorem GhAt.set1 (h : GhAt w gb G P) (x : Int) : GhAt (w.setCell ⟨gb, 1, none⟩ (.int .u64 x)) gb G x :=
  ⟨by rw [cell_setCell, if_neg (by omega)]; exact h.c0, by rw [cell_setCell, if_pos ⟨rfl, rfl⟩, h.c1]; rfl, fun j => by rw [World.frozen?_setCell]; exact h.f j⟩
theorem GhAt.can0 (h : GhAt w gb G P) : can w ⟨gb, 0, none⟩ := ⟨⟨_, h.c0⟩, h.f 0⟩
theorem GhAt.can1 (h : GhAt w gb G P) : can w ⟨gb, 1, none⟩ := ⟨⟨_, h.c1⟩, h.f 1⟩
end

/-! ### The answer's end -/
abbrev An3 := Int × Int × ByteArray
def endsP (fuel cost e : Int) (t : ByteArray) (x : Int) : An3 :=
  if fuel < cost then (46, 0, eS) else if e ≠ 0 then (e, IntKind.wrap .i64 (fuel - cost), eS) else (0, IntKind.wrap .i64 (fuel - cost), (t ++ (⟨#[58]⟩ : ByteArray)) ++ hexOf x 16)
theorem ends_spec (fuel cost e : Int) (t : ByteArray) (x : Int) (ht : t.size ≤ 100) (hx : 0 ≤ x ∧ x < 18446744073709551616) (w : World) :
    Runs Tryz.prog execlaw_ends.id #[.int .i64 fuel, .int .i64 cost, .int .i64 e, .string t, .int .u64 x] w fun v w' => v = .agg #[.int .i64 (endsP fuel cost e t x).1, .int .i64 (endsP fuel cost e t x).2.1, .int .i64 0, .string (endsP fuel cost e t x).2.2] ∧ Same [] w.heap.size w w' := by
  refine execlaw_ends.enter _ _ _ _ _ _ _ _ ?_
  unfold execlaw_ends.V
  generalize hR : (fun (v : Value) (w' : World) => v = .agg #[.int .i64 (endsP fuel cost e t x).1, .int .i64 (endsP fuel cost e t x).2.1, .int .i64 0, .string (endsP fuel cost e t x).2.2] ∧ Same [] w.heap.size w w') = R
  refine letB_intro fun b hb => letW_intro fun w7 hw7 => ?_
  have S7 : Same [] w.heap.size w w7 := by rw [hw7]; exact (Same.refl _ _ _).alloc (Nat.le_refl _) _
  have A7 : AnA w7 b 0 0 0 ⟨#[]⟩ := by rw [hw7, hb]; exact AnA.new w _
  clear hw7
  have out : ∀ (e' n : Int) (s : ByteArray) (w1 : World), AnA w1 b 0 0 0 ⟨#[]⟩ → Same [] w.heap.size w w1 → endsP fuel cost e t x = (e', n, s) → putCells w1 ⟨b, 0, none⟩ [.int .i64 e', .int .i64 n, .int .i64 0, .string s] fun w3 => ((∃ x4 : Int, ∃ x5 : Int, ∃ x6 : Int, ∃ x7 : ByteArray, World.cell? w3 ⟨b, 0, none⟩ = some (.int .i64 x4) ∧ World.cell? w3 ⟨b, 1, none⟩ = some (.int .i64 x5) ∧ World.cell? w3 ⟨b, 2, none⟩ = some (.int .i64 x6) ∧ World.cell? w3 ⟨b, 3, none⟩ = some (.string x7) ∧ R (.agg #[(.int .i64 x4), (.int .i64 x5), (.int .i64 x6), (.string x7)]) w3)) := by
    intro e' n s w1 A1 S1 he
    refine putCells_intro b _ 0 w1 _ (fun j hj => by rw [Nat.zero_add]; exact A1.cans j hj) (fun w' hF => ?_)
    have A' := A1.fill hF
    have hs : Same [b] w1.heap.size w1 w' := hF.same _
    refine ⟨_, _, _, _, A'.c0, A'.c1, A'.c2, A'.c3, ?_⟩
    rw [← hR, he]
    exact ⟨rfl, S1.trans (hs.mono S1.size (fun k hk hl => by simp at hk; omega))⟩
  by_cases q1 : fuel < cost
  · refine cond_true' (decide_eq_true q1) (out _ _ _ w7 A7 S7 ?_)
    unfold endsP
    rw [if_pos q1]
  refine cond_false' (decide_eq_false q1) ?_
  by_cases q2 : e = 0
  · refine cond_false' (by rw [q2]; rfl) (RunsQ.post (Hex_spec x 16 w7 hx.1 hx.2 (by omega) (by omega)) ?_)
    rintro v w9 ⟨rfl, S9⟩
    have l := M.hexOf_size x 16
    have e1 : (⟨#[58]⟩ : ByteArray).size = 1 := rfl
    refine ⟨_, rfl, by omega, by rw [M.size_app]; omega, out _ _ _ w9 (A7.same S9 A7.lt (by simp)) (Same.more (B := 0) S7 S9) ?_⟩
    unfold endsP
    rw [if_neg q1, if_neg (by simpa using q2)]
  · refine cond_true' (by simpa using q2) (out _ _ _ w7 A7 S7 ?_)
    unfold endsP
    rw [if_neg q1, if_pos q2]

/-! ### What a step wants -/
abbrev t7f : ByteArray := ⟨#[55, 102]⟩
abbrev t7e : ByteArray := ⟨#[55, 101]⟩
def grownW (old now : Int) : Int := bAnd .u64 (bOr .u64 (bOr .u64 (IntKind.wrap .u64 (old * 2 ^ (16 : Nat))) (IntKind.wrap .u64 (now * 2 ^ (8 : Nat)))) now) 4294967295
def parN (k : Int) : Nat := if k = 4 ∨ k = 5 then 1 else 2
abbrev WaR := An3 × Int × Int
def want3 (G P : Int) (o : OpV) (a b : Int) : WaR :=
  if o.kind = 1 then (if 6 ≤ b then (endsP o.a 60 45 eS 0, G, P) else (endsP o.a (10 * b + 7) 0 t7f ((a - b) % 4294967296), G, P)) else
  if o.kind = 2 then (if a = 0 then (endsP o.a 4 0 t7f 1144201745, G, P) else if b = 0 then (endsP o.a 7 38 eS 0, G, P) else (endsP o.a 7 0 t7f b, G, P)) else
  if o.kind = 3 then (if 64 * P < a + 8 then (endsP o.a 3 42 eS 0, G, P) else (endsP o.a 7 0 t7f b, G, P)) else
  if o.kind = 4 then (endsP o.a 6 0 t7f ((G + a) % 4294967296), if 5 ≤ o.a then (G + a) % 4294967296 else G, P) else
  if 2 < P + a then (endsP o.a 10 0 t7f (grownW 4294967295 P), G, P) else (endsP o.a 10 0 t7f (grownW P (P + a)), G, if 2 ≤ o.a then P + a else P)
def want2 (G P : Int) (o : OpV) : WaR :=
  if o.kind = 6 then (endsP o.a 1 0 t7e (word o.s 0), G, P) else
  if 32 < o.s.size then ((1, 0, eS), G, P) else if o.s.size ≠ 8 * parN o.kind then ((34, 0, eS), G, P) else
  want3 G P o (word o.s 0 % 4294967296) (word o.s 1 % 4294967296)
def WaOk (w0 : World) (gb : Nat) (r : WaR) : Value → World → Prop := fun v w' => v = .agg #[.int .i64 r.1.1, .int .i64 r.1.2.1, .int .i64 0, .string r.1.2.2] ∧ GhAt w' gb r.2.1 r.2.2 ∧ Same [gb] w0.heap.size w0 w'
section
variable {w0 w w' : World} {gb t ob : Nat} {G P : Int} {o : OpV}
/-- Where Want2 stands. -/
structure OG (w0 w : World) (gb t ob : Nat) (G P : Int) (o : OpV) : Prop where
  b : GhAt w gb G P
  a : AnA w t 0 0 0 ⟨#[]⟩
  p : OpAt w ob o
  s : Same [gb] w0.heap.size w0 w
  l : gb < w0.heap.size ∧ w0.heap.size ≤ t ∧ w0.heap.size ≤ ob ∧ t ≠ ob
theorem OG.keep (h : OG w0 w gb t ob G P o) (hs : Same [] w.heap.size w w') : OG w0 w' gb t ob G P o :=
  ⟨h.b.same hs h.b.lt (by simp), h.a.same hs h.a.lt (by simp), h.p.same hs h.p.lt (by simp), h.s.trans (hs.mono h.s.size (by simp)), h.l⟩
theorem OG.set0 (h : OG w0 w gb t ob G P o) (x : Int) : OG w0 (w.setCell ⟨gb, 0, none⟩ (.int .u64 x)) gb t ob x P o := by
  obtain ⟨l1, l2, l3, l4⟩ := h.l
  have hs : Same [gb] w.heap.size w (w.setCell ⟨gb, 0, none⟩ (.int .u64 x)) := (Same.refl _ _ _).setCell (.inr (by simp)) _
  exact ⟨h.b.set0 x, h.a.same hs h.a.lt (by simp; omega), h.p.same hs h.p.lt (by simp; omega), h.s.trans (hs.mono h.s.size (fun _ h _ => h)), h.l⟩
theorem OG.set1 (h : OG w0 w gb t ob G P o) (x : Int) : OG w0 (w.setCell ⟨gb, 1, none⟩ (.int .u64 x)) gb t ob G x o := by
  obtain ⟨l1, l2, l3, l4⟩ := h.l
  have hs : Same [gb] w.heap.size w (w.setCell ⟨gb, 1, none⟩ (.int .u64 x)) := (Same.refl _ _ _).setCell (.inr (by simp)) _
  exact ⟨h.b.set1 x, h.a.same hs h.a.lt (by simp; omega), h.p.same hs h.p.lt (by simp; omega), h.s.trans (hs.mono h.s.size (fun _ h _ => h)), h.l⟩
theorem OG.out (h : OG w0 w gb t ob G P o) {r : WaR} {e n : Int} {s : ByteArray} (hr : r = ((e, n, s), G, P)) : putCells w ⟨t, 0, none⟩ [(.int .i64 e), (.int .i64 n), (.int .i64 0), (.string s)] fun w3 => ((∃ x4 : Int, ∃ x5 : Int, ∃ x6 : Int, ∃ x7 : ByteArray, World.cell? w3 ⟨t, 0, none⟩ = some (.int .i64 x4) ∧ World.cell? w3 ⟨t, 1, none⟩ = some (.int .i64 x5) ∧ World.cell? w3 ⟨t, 2, none⟩ = some (.int .i64 x6) ∧ World.cell? w3 ⟨t, 3, none⟩ = some (.string x7) ∧ WaOk w0 gb r (.agg #[(.int .i64 x4), (.int .i64 x5), (.int .i64 x6), (.string x7)]) w3)) := by
  obtain ⟨l1, l2, l3, l4⟩ := h.l
  subst hr
  refine putCells_intro t _ 0 w _ (fun j hj => by rw [Nat.zero_add]; exact h.a.cans j hj) (fun w' hF => ?_)
  have A' := h.a.fill hF
  have hs : Same [t] w.heap.size w w' := hF.same _
  exact ⟨_, _, _, _, A'.c0, A'.c1, A'.c2, A'.c3, rfl, h.b.same hs h.b.lt (by simp; omega), h.s.trans (hs.mono h.s.size (fun k hk hl => by simp at hk; omega))⟩
/-- ends, and its answer is handed out. -/
theorem OG.ends (h : OG w0 w gb t ob G P o) {fuel cost e x : Int} {tt : ByteArray} (ht : tt.size ≤ 100) (hx : 0 ≤ x ∧ x < 18446744073709551616) {r : WaR} (hr : r = (endsP fuel cost e tt x, G, P)) :
    RunsQ Tryz.prog execlaw_ends.id #[(.int .i64 fuel), (.int .i64 cost), (.int .i64 e), (.string tt), (.int .u64 x)] w (fun r2 w3 => (∃ x4 : Int, ∃ x5 : Int, ∃ x6 : Int, ∃ x7 : ByteArray, (r2 = (.agg #[(.int .i64 x4), (.int .i64 x5), (.int .i64 x6), (.string x7)]) ∧ (putCells w3 ⟨t, 0, none⟩ [(.int .i64 x4), (.int .i64 x5), (.int .i64 x6), (.string x7)] fun w8 => ((∃ x9 : Int, ∃ x10 : Int, ∃ x11 : Int, ∃ x12 : ByteArray, World.cell? w8 ⟨t, 0, none⟩ = some (.int .i64 x9) ∧ World.cell? w8 ⟨t, 1, none⟩ = some (.int .i64 x10) ∧ World.cell? w8 ⟨t, 2, none⟩ = some (.int .i64 x11) ∧ World.cell? w8 ⟨t, 3, none⟩ = some (.string x12) ∧ WaOk w0 gb r (.agg #[(.int .i64 x9), (.int .i64 x10), (.int .i64 x11), (.string x12)]) w8)))))) (fun _ _ => False) := by
  refine RunsQ.post (ends_spec fuel cost e tt x ht hx w) ?_
  rintro v w3 ⟨rfl, S3⟩
  exact ⟨_, _, _, _, rfl, (h.keep S3).out hr⟩
theorem want_L1 (h : OG w0 w gb t ob G P o) (x : Int) (hx : 0 ≤ x ∧ x < 18446744073709551616) : execlaw_Want2.L1 ob t x (WaOk w0 gb (endsP o.a 6 0 t7f x, G, P)) (fun _ _ => False) w := by
  refine execlaw_Want2.step1 _ _ _ _ _ _ ?_
  unfold execlaw_Want2.V1
  exact ⟨_, h.p.c1, h.ends (by decide) hx rfl⟩
theorem want_L3 (h : OG w0 w gb t ob G P o) (old now : Int) (hx : 0 ≤ grownW old now ∧ grownW old now < 18446744073709551616) : execlaw_Want2.L3 ob t old now (WaOk w0 gb (endsP o.a 10 0 t7f (grownW old now), G, P)) (fun _ _ => False) w := by
  refine execlaw_Want2.step3 _ _ _ _ _ _ _ ?_
  unfold execlaw_Want2.V3
  exact ⟨_, h.p.c1, h.ends (by decide) hx rfl⟩
theorem want_L2 (h : OG w0 w gb t ob G P o) (old now : Int) (hx : 0 ≤ grownW old now ∧ grownW old now < 18446744073709551616) : execlaw_Want2.L2 (some ⟨gb, 0, none⟩) ob t old now (WaOk w0 gb (endsP o.a 10 0 t7f (grownW old now), G, if 2 ≤ o.a then now else P)) (fun _ _ => False) w := by
  refine execlaw_Want2.step2 _ _ _ _ _ _ _ _ ?_
  unfold execlaw_Want2.V2
  refine ⟨_, h.p.c1, ?_⟩
  by_cases q : 2 ≤ o.a
  · rw [if_pos q]
    refine cond_true' (decide_eq_true q) ⟨h.b.can1, letW_intro fun w3 hw3 => ?_⟩
    have h3 := h.set1 now
    have hw3' : w3 = w.setCell ⟨gb, 1, none⟩ (.int .u64 now) := hw3
    rw [← hw3'] at h3
    exact want_L3 h3 old now hx
  · rw [if_neg q]
    exact cond_false' (decide_eq_false q) (want_L3 h old now hx)
theorem grown_bd (old now : Int) : 0 ≤ grownW old now ∧ grownW old now < 18446744073709551616 := by
  unfold grownW bAnd
  rw [wrap_u64_mod]
  omega
theorem mask_sum (x : Int) : bAnd .u64 (IntKind.wrap .u64 x) 4294967295 = x % 4294967296 := by
  rw [bAnd_u64_mask32 _ (by rw [wrap_u64_mod]; omega) (by rw [wrap_u64_mod]; omega), wrap_u64_mod]
  omega
theorem Want2_spec (hg : GhAt w gb G P) (hP : 1 ≤ P ∧ P ≤ 2) (hG : 0 ≤ G ∧ G < 4294967296) (ho : o.Full) (k1 : 1 ≤ o.kind) (k6 : o.kind ≤ 6) :
    Runs Tryz.prog execlaw_Want2.id #[.agg #[.int .i64 o.kind, .int .i64 o.a, .int .i64 o.b, .int .i64 o.c, .string o.s, .string o.t], rp gb] w (WaOk w gb (want2 G P o)) := by
  have hs := ho.s
  refine execlaw_Want2.enter _ _ _ _ _ _ _ _ _ _ ?_
  unfold execlaw_Want2.V
  refine letB_intro fun ob hob => letW_intro fun w9 hw9 => letB_intro fun t ht => letW_intro fun w11 hw11 => ?_
  have S9 : Same [] w.heap.size w w9 := by rw [hw9]; exact (Same.refl _ _ _).alloc (Nat.le_refl _) _
  have z9 : w9.heap.size = w.heap.size + 1 := by rw [hw9]; simp
  have S11 : Same [] w9.heap.size w9 w11 := by rw [hw11]; exact (Same.refl _ _ _).alloc (Nat.le_refl _) _
  have p9 : OpAt w9 ob o := by rw [hw9, hob]; exact OpAt.new w o _
  have t11 : AnA w11 t 0 0 0 ⟨#[]⟩ := by rw [hw11, ht]; exact AnA.new w9 _
  have T11 : Same [] w.heap.size w w11 := Same.more (B := 0) S9 S11
  have lg := hg.lt
  have h : OG w w11 gb t ob G P o := ⟨hg.same T11 lg (by simp), t11, p9.same S11 p9.lt (by simp), T11.mono (Nat.le_refl _) (by simp), lg, by omega, by omega, by omega⟩
  clear hw9 hw11
  refine ⟨_, h.p.c4, RunsQ.post (Word_spec o.s 0 w11 hs (by omega)) ?_⟩
  rintro v w14 ⟨rfl, hw14⟩
  subst hw14
  have wb0 := word_bd o.s 0
  have wb1 := word_bd o.s 1
  refine ⟨_, rfl, _, h.p.c0, ?_⟩
  by_cases q6 : o.kind = 6
  · refine cond_true' (by rw [q6]; rfl) ⟨_, h.p.c1, h.ends (by decide) wb0 ?_⟩
    unfold want2
    rw [if_pos q6]
  have e2 : want2 G P o = if 32 < o.s.size then ((1, 0, eS), G, P) else if o.s.size ≠ 8 * parN o.kind then ((34, 0, eS), G, P) else want3 G P o (word o.s 0 % 4294967296) (word o.s 1 % 4294967296) := by
    unfold want2
    rw [if_neg q6]
  rw [e2]
  refine cond_false' (ne_beq q6) ⟨_, h.p.c0, RunsQ.post (execlaw_named2.pure _ _) ?_⟩
  rintro v w31 ⟨rfl, hw31⟩
  subst hw31
  have e8 : IntKind.wrap .i64 ((8 : Int) * (execlaw_named2.F o.kind).2) = ((8 * parN o.kind : Nat) : Int) := by
    have : o.kind = 1 ∨ o.kind = 2 ∨ o.kind = 3 ∨ o.kind = 4 ∨ o.kind = 5 := by omega
    rcases this with q | q | q | q | q <;> rw [q] <;> rfl
  refine ⟨_, _, rfl, _, h.p.c4, ?_⟩
  by_cases q1 : 32 < o.s.size
  · exact cond_true' (decide_eq_true (by omega)) (h.out (by rw [if_pos q1]))
  refine cond_false' (decide_eq_false (by omega)) ⟨_, h.p.c4, ?_⟩
  rw [e8, if_neg q1]
  by_cases q2 : o.s.size ≠ 8 * parN o.kind
  · exact cond_true' (by simp; omega) (h.out (by rw [if_pos q2]))
  refine cond_false' (by simp; omega) ⟨_, h.p.c4, RunsQ.post (Word_spec o.s 1 w31 hs (by omega)) ?_⟩
  rintro v w48 ⟨rfl, hw48⟩
  subst hw48
  rw [if_neg q2]
  refine ⟨_, rfl, _, h.p.c0, ?_⟩
  rw [bAnd_u64_mask32 _ wb0.1 wb0.2, bAnd_u64_mask32 _ wb1.1 wb1.2]
  obtain ⟨a, ha⟩ : ∃ a, word o.s 0 % 4294967296 = a := ⟨_, rfl⟩
  obtain ⟨b, hb⟩ : ∃ b, word o.s 1 % 4294967296 = b := ⟨_, rfl⟩
  rw [ha, hb]
  have a0 : 0 ≤ a ∧ a < 4294967296 := by omega
  have b0 : 0 ≤ b ∧ b < 4294967296 := by omega
  clear ha hb
  unfold want3
  have md : ∀ x : Int, 0 ≤ x % 4294967296 ∧ x % 4294967296 < 18446744073709551616 := fun x => by omega
  by_cases k1 : o.kind = 1
  · refine cond_true' (by rw [k1]; rfl) ?_
    rw [if_pos k1]
    by_cases q : 6 ≤ b
    · exact cond_true' (decide_eq_true q) ⟨_, h.p.c1, h.ends (by decide) (by decide) (by rw [if_pos q])⟩
    · refine cond_false' (decide_eq_false q) ⟨_, h.p.c1, ?_⟩
      have e : IntKind.wrap .i64 (IntKind.wrap .i64 ((10 : Int) * IntKind.wrap .i64 b) + (7 : Int)) = 10 * b + 7 := by
        rw [wrap_i64 (x := b) (by omega) (by omega), wrap_i64 (x := 10 * b) (by omega) (by omega), wrap_i64 (by omega) (by omega)]
      rw [e, mask_sum]
      exact h.ends (by decide) (md _) (by rw [if_neg q])
  refine cond_false' (ne_beq k1) ?_
  rw [if_neg k1]
  by_cases k2 : o.kind = 2
  · refine cond_true' (by rw [k2]; rfl) ?_
    rw [if_pos k2]
    by_cases q : a = 0
    · exact cond_true' (by rw [q]; rfl) ⟨_, h.p.c1, h.ends (by decide) (by decide) (by rw [if_pos q])⟩
    · refine cond_false' (ne_beq q) ?_
      rw [if_neg q]
      by_cases q' : b = 0
      · exact cond_true' (by rw [q']; rfl) ⟨_, h.p.c1, h.ends (by decide) (by decide) (by rw [if_pos q'])⟩
      · exact cond_false' (ne_beq q') ⟨_, h.p.c1, h.ends (by decide) (by omega) (by rw [if_neg q'])⟩
  refine cond_false' (ne_beq k2) ?_
  rw [if_neg k2]
  by_cases k3 : o.kind = 3
  · refine cond_true' (by rw [k3]; rfl) ⟨_, h.b.c1, ?_⟩
    rw [if_pos k3, wrap_u64 (x := a + 8) (by omega) (by omega), wrap_u64 (x := 64 * P) (by omega) (by omega)]
    by_cases q : 64 * P < a + 8
    · exact cond_true' (decide_eq_true q) ⟨_, h.p.c1, h.ends (by decide) (by decide) (by rw [if_pos q])⟩
    · exact cond_false' (decide_eq_false q) ⟨_, h.p.c1, h.ends (by decide) (by omega) (by rw [if_neg q])⟩
  refine cond_false' (ne_beq k3) ?_
  rw [if_neg k3]
  by_cases k4 : o.kind = 4
  · refine cond_true' (by rw [k4]; rfl) ⟨_, h.b.c0, _, h.p.c1, ?_⟩
    rw [if_pos k4, mask_sum]
    by_cases q : 5 ≤ o.a
    · rw [if_pos q]
      refine cond_true' (decide_eq_true q) ⟨h.b.can0, letW_intro fun w3 hw3 => ?_⟩
      have h3 := h.set0 ((G + a) % 4294967296)
      have hw3' : w3 = w48.setCell ⟨gb, 0, none⟩ (.int .u64 ((G + a) % 4294967296)) := hw3
      rw [← hw3'] at h3
      exact want_L1 h3 _ (md _)
    · rw [if_neg q]
      exact cond_false' (decide_eq_false q) (want_L1 h _ (md _))
  refine cond_false' (ne_beq k4) ⟨_, h.b.c1, _, h.b.c1, _, h.b.c1, ?_⟩
  rw [if_neg k4, wrap_u64 (x := P + a) (by omega) (by omega)]
  by_cases q : 2 < P + a
  · rw [if_pos q]
    have := want_L2 h 4294967295 P (grown_bd _ _)
    rw [ite_self] at this
    exact cond_true' (decide_eq_true q) this
  · rw [if_neg q]
    refine cond_false' (decide_eq_false q) ⟨_, h.b.c1, ?_⟩
    rw [wrap_u64 (x := P + a) (by omega) (by omega)]
    exact want_L2 h P (P + a) (grown_bd _ _)
end
end Go.Proofs.Qxb6500317aGreat
