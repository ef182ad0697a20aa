/-
  The model of the validator: globals, memory, constants, numbers.
-/
import Derived.Test.Qxb6500322aMsE
set_option linter.unusedSimpArgs false
set_option linter.unusedVariables false
set_option maxRecDepth 100000
set_option linter.unusedSectionVars false
namespace Go.Proofs.Qxb6500322a
open Go Go.Vc

section
variable {wd w0 w w' : World} {L mb : Nat} {m : Nat → Value} {P : PM} {cb fb i : Nat} {ps : ByteArray} {lb : Nat} {k : List Fr} {f : Fr} {r : List Fr}
variable {n pc : Nat} {st : ByteArray} {o o0 : List Int} {may : Nat → Bool} {u : Nat} {z : Int × Int × List Int × List Fr} {xb NN : Nat}

theorem nilV_in {a : Addr} {K : Addr → Prop} (h : K a) : nilV (some a) K := h
/-- What the reading of a global finds, in whatever order it is made. -/
structure GF (W2 W : World) (xb cb mb gb xn gn : Nat) (G : Glob) : Prop where
  S : Same [] W2.heap.size W2 W
  x : W.cell? ⟨xb, 1, none⟩ = some (.int .u32 (xn : Int))
  c : W.cell? ⟨cb, 0, none⟩ = some (rp mb)
  g : W.cell? ⟨mb, 7, none⟩ = some (.slice (some ⟨gb, 0, none⟩) gn gn)
  r0 : W.cell? ⟨gb, xn * 5, none⟩ = some (.int .u8 G.ty)
  r1 : W.cell? ⟨gb, xn * 5 + 1, none⟩ = some (.bool G.mu)
  r2 : W.cell? ⟨gb, xn * 5 + 2, none⟩ = some (.int .u8 G.init.op)
  r3 : W.cell? ⟨gb, xn * 5 + 3, none⟩ = some (.int .u32 G.init.x)
  r4 : W.cell? ⟨gb, xn * 5 + 4, none⟩ = some (.int .u64 G.init.y)
structure GB (W2 W : World) (b : Nat) : Prop where
  c : ∀ j, j < 5 → can W ⟨b, j, none⟩
  l : W2.heap.size ≤ b
theorem GF.alloc {W2 W W' : World} {mb gb xn gn b : Nat} {G : Glob} (h : GF W2 W xb cb mb gb xn gn G) (hb : b = W.heap.size) (hw : W' = W.alloc (.cells #[(.int .u8 0), (.bool false), (.int .u8 0), (.int .u32 0), (.int .u64 0)] T_api_Global)) :
    GF W2 W' xb cb mb gb xn gn G ∧ GB W2 W' b := by
  have S : Same [] W.heap.size W W' := by rw [hw]; exact (Same.refl _ _ _).alloc (Nat.le_refl _) _
  have e : ∀ {q j : Nat} {v : Value}, W.cell? ⟨q, j, none⟩ = some v → W'.cell? ⟨q, j, none⟩ = some v := fun {q j v} hv => by
    rw [S.cell (p := ⟨q, j, none⟩) (show q < W.heap.size from cell_lt hv) (by simp)]; exact hv
  refine ⟨⟨h.S.trans (S.mono h.S.size (by simp)), e h.x, e h.c, e h.g, e h.r0, e h.r1, e h.r2, e h.r3, e h.r4⟩, ⟨fun j hj => ?_, by rw [hb]; exact h.S.size⟩⟩
  have : j = 0 ∨ j = 1 ∨ j = 2 ∨ j = 3 ∨ j = 4 := by omega
  refine ⟨?_, by rw [hw, hb, World.frozen?_alloc_new]⟩
  rw [hw, hb, World.cell?_alloc_new]
  rcases this with rfl | rfl | rfl | rfl | rfl <;> exact ⟨_, rfl⟩

abbrev M24 (cb lb : Nat) (f : Fr) (r : List Fr) (pc : Nat) (st : ByteArray) (xb : Nat) (op : Int) (t : Bool) (R : Value → World → Prop) (w : World) : Prop :=
  validm_ck_seq.L24 (some ⟨cb, 0, none⟩) (pc : Int) (some ⟨lb, 0, none⟩) (r.length + 1) (r.length + 1) (resS f.res) ((f.fl : Nat) : Int) ((7 - r.length : Nat) : Int) st f.dead xb op true ⟨#[]⟩ t R (fun _ _ => False) w
theorem m_glo (p : MP wd w0 w L mb m P cb fb i ps lb f r n pc st o o0 may u z xb NN) (ho : ((P.fn i).ins pc).op = 35 ∨ ((P.fn i).ins pc).op = 36) : M24 cb lb f r pc st xb ((P.fn i).ins pc).op true (PostB P i ps z w0 cb f r o0 NN) w := by
  have D := p.b.D
  have hlen := D.ms.len; have ol := D.ol
  have hin := p.b.ins
  have x0 := hin.x0; have x1 := hin.x1
  have hp : plnB P i ps pc f o = gloP P ((P.fn i).ins pc) f o := by
    show plnP P ps (strOfNums (P.fn i).ls) ((P.fn i).ins pc) f o = _
    unfold plnP
    rw [if_neg (by omega), if_neg (by omega), if_neg (by omega), if_neg (by omega), if_pos ho]
  obtain ⟨xn, hx⟩ := Int.eq_ofNat_of_zero_le x0
  have hq : plnB P i ps pc f o = if (P.gn : Int) ≤ (xn : Int) then (64, 23, o) else if ((P.fn i).ins pc).op = 35 then ((P.g xn).ty, 0, o)
      else if (P.g xn).mu = true then (64, tyE (carB (P.g xn).ty f o), carO (P.g xn).ty f o) else (64, 24, o) := by
    rw [hp]; unfold gloP; rw [hx, Int.toNat_natCast]
  have bg := p.b.C.W.pb.gn
  refine validm_ck_seq.step24 _ _ _ _ _ _ _ _ _ _ _ _ _ _ _ _ _ _ ?_
  unfold validm_ck_seq.V24
  refine cond_true' rfl ?_
  have p1 := p.drew
  have c1 := p1.b.I.c1
  rw [hx] at c1
  obtain ⟨a7, c7, hr⟩ := p1.b.C.H.gl
  refine ⟨rfl, _, c1, rfl, rfl, rfl, nilV_in ⟨rfl, rfl, _, p1.b.C.c0, rfl, nilV_in ⟨rfl, rfl, _, _, _, c7, rfl, rfl, rfl, rfl, ?_⟩⟩⟩
  rw [wrap_u64 (by omega) (by omega), wrap_u64 (by omega) (by omega)]
  refine cond_intro (fun h => p1.fail (by decide) (by rw [hq, if_pos (of_decide_eq_true h)]) _ _) (fun h => ?_)
  have hg : ¬ (P.gn : Int) ≤ (xn : Int) := of_decide_eq_false h
  rw [if_neg hg] at hq
  obtain ⟨gb, rfl, row⟩ := hr (by omega)
  have vt := (p.b.C.W.g xn (by omega)).1
  have p2 := p1.drew
  have e0 := row xn (by omega) 0 _ rfl
  rw [Nat.add_zero] at e0
  have gf : GF w.drew.drew w.drew.drew xb cb mb gb xn P.gn (P.g xn) := ⟨Same.refl _ _ _, c1, p2.b.C.c0, c7, e0, row xn (by omega) 1 _ rfl, row xn (by omega) 2 _ rfl, row xn (by omega) 3 _ rfl, row xn (by omega) 4 _ rfl⟩
  have fin : ∀ (W : World) (b : Nat), GF w.drew.drew W xb cb mb gb xn P.gn (P.g xn) → GB w.drew.drew W b →
      putCells W ⟨b, 0, none⟩ [(.int .u8 (P.g xn).ty), (.bool (P.g xn).mu), (.int .u8 (P.g xn).init.op), (.int .u32 (P.g xn).init.x), (.int .u64 (P.g xn).init.y)] fun w201 =>
        validm_ck_seq.L27 (some ⟨cb, 0, none⟩) (pc : Int) (some ⟨lb, 0, none⟩) (r.length + 1) (r.length + 1) (resS f.res) ((f.fl : Nat) : Int) ((7 - r.length : Nat) : Int) st f.dead ((P.fn i).ins pc).op true ⟨#[]⟩ b (PostB P i ps z w0 cb f r o0 NN) (fun _ _ => False) w201 := fun W b gf' gb' => by
    refine putCells_intro b _ 0 W _ (fun j hj => by rw [Nat.zero_add]; exact gb'.c j hj) (fun w3 hF => ?_)
    have d0 : w3.cell? ⟨b, 0, none⟩ = some (.int .u8 (P.g xn).ty) := by rw [hF.cell, if_pos (by simp)]; rfl
    have d1 : w3.cell? ⟨b, 1, none⟩ = some (.bool (P.g xn).mu) := by rw [hF.cell, if_pos (by simp)]; rfl
    have S3 : Same [] w.drew.drew.heap.size w.drew.drew w3 := gf'.S.trans ((hF.same _).mono (Nat.le_refl _) (fun k hk hl => by simp at hk; have := gb'.l; omega))
    have p3 := p2.keep S3
    refine validm_ck_seq.step27 _ _ _ _ _ _ _ _ _ _ _ _ _ _ _ _ _ ?_
    unfold validm_ck_seq.V27
    refine cond_intro (fun h => ⟨_, d0, RunsQ.post (one_spec _ w3) ?_⟩) (fun h => ⟨_, d1, ?_⟩)
    · have h : ((P.fn i).ins pc).op = 35 := eq_of_beq h
      rintro v w4 ⟨rfl, S4⟩
      rw [if_pos h] at hq
      exact ⟨_, rfl, (p3.keep S4).fin D.ms (ok := true) (.inl hq) _ (fun _ => by unfold resS; rw [if_neg (by omega)])⟩
    · have h : ¬ ((P.fn i).ins pc).op = 35 := by simpa using h
      rw [if_neg h] at hq
      cases hmu : (P.g xn).mu with
      | false =>
        rw [hmu, if_neg (by decide)] at hq
        exact cond_true' rfl (p3.fail (by decide) (by rw [hq]) _ _)
      | true =>
        rw [hmu, if_pos rfl] at hq
        refine cond_false' rfl ⟨_, d0, RunsQ.post (mpop_car _ vt D.l0 D.ms (by omega) w3) ?_⟩
        rintro v w4 ⟨rfl, st4, y, rfl, ms4⟩
        exact ⟨_, _, _, rfl, p3.fin ms4 (.inl hq) _ (fun _ => rfl)⟩
  have hxl : (xn : Int) < ((P.gn : Nat) : Int) := by omega
  have hx0 : (0 : Int) ≤ (xn : Int) := by omega
  clear hr row p1 p2 p c7 c1 hq hp
  repeat' first
    | exact trivial
    | exact fin _ _ (by assumption) (by assumption)
    | (simp only [add_mk, Int.toNat_natCast, Nat.zero_add])
    | refine nilV_in ?_
    | refine ⟨⟨hx0, hxl⟩, ?_⟩
    | refine ⟨_, GF.x (by assumption), ?_⟩
    | refine ⟨_, GF.c (by assumption), ?_⟩
    | refine ⟨_, _, _, GF.g (by assumption), ?_⟩
    | refine ⟨_, _, _, _, _, GF.r0 (by assumption), GF.r1 (by assumption), GF.r2 (by assumption), GF.r3 (by assumption), GF.r4 (by assumption), ?_⟩
    | (refine letB_intro fun b hb => letW_intro fun w' hw => ?_
       obtain ⟨gf', gb'⟩ := GF.alloc (by assumption) hb hw
       clear hb hw)
    | refine And.intro ?_ ?_
end
end Go.Proofs.Qxb6500322a
