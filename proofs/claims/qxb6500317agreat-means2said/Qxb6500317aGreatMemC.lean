/-
  Package mem, third part: the methods that write.
-/
import Derived.Test.Qxb6500317aGreatMemB
set_option linter.unusedSimpArgs false
set_option linter.unusedVariables false
set_option maxRecDepth 100000
namespace Go.Proofs.Qxb6500317aGreat.M
open Go Go.Vc

/-! ### A run of stores -/
/-- In w' the cells of block b from o on hold vs; all else is as in w. -/
structure Fill (w w' : World) (b o : Nat) (vs : List Value) : Prop where
  cell : ∀ b' j, w'.cell? ⟨b', j, none⟩ = if b' = b ∧ o ≤ j ∧ j < o + vs.length then vs[j - o]? else w.cell? ⟨b', j, none⟩
  frozen : ∀ a, w'.frozen? a = w.frozen? a
  same : ∀ B, Same [b] B w w'

theorem storeCells_fill {P : Program} (b o : Nat) : ∀ (vs : List Value) (i : Nat) (w : World), (∀ u ∈ vs, u.oneCell' = true) → (∀ j, j < vs.length → can w ⟨b, o + i + j, none⟩) →
    ∃ w', (storeCells ⟨b, o, none⟩ vs i).run P w = .ok () w' ∧ Fill w w' b (o + i) vs
  | [], i, w, _, _ => ⟨w, rfl, fun b' j => by rw [if_neg (by simp <;> omega)], fun _ => rfl, fun B => Same.refl _ _ _⟩
  | v :: vs, i, w, h1, hc => by
    obtain ⟨⟨u, hu⟩, hf⟩ := hc 0 (by simp)
    rw [Nat.add_zero] at hu hf
    have ih := storeCells_fill (P := P) b o vs (i + 1) (w.setCell ⟨b, o + i, none⟩ v) (fun u hu => h1 u (by simp [hu])) (fun j hj => by
      obtain ⟨⟨x, hx⟩, hfx⟩ := hc (j + 1) (by simp; omega)
      refine ⟨⟨x, ?_⟩, by simpa [show o + (i + 1) + j = o + i + (j + 1) by omega] using hfx⟩
      rw [cell_setCell, if_neg (by omega), show o + (i + 1) + j = o + i + (j + 1) by omega, hx])
    obtain ⟨w', hr, hF⟩ := ih
    refine ⟨w', ?_, ?_, fun a => by rw [hF.frozen]; simp, fun B => ((Same.refl _ _ _).setCell (.inr (by simp)) _).trans (hF.same B)⟩
    · unfold storeCells
      simp only [add_mk, Sem.run_bind, run_store P w _ v _ (h1 v (by simp)), hu, hf, Bool.false_eq_true, if_false, Result.andThen_ok, hr]
    · intro b' j
      rw [hF.cell, cell_setCell]
      simp only [List.length_cons]
      by_cases hb : b' = b
      · subst hb
        by_cases hj : j = o + i
        · subst hj
          rw [if_neg (by omega), if_pos ⟨rfl, rfl⟩, if_pos (by omega), hu]
          simp
        · by_cases hin : o + (i + 1) ≤ j ∧ j < o + (i + 1) + vs.length
          · rw [if_pos ⟨rfl, hin⟩, if_pos (by omega)]
            have : j - (o + i) = (j - (o + (i + 1))) + 1 := by omega
            rw [this]; simp
          · rw [if_neg (by omega), if_neg (by omega), if_neg (by omega)]
      · rw [if_neg (by simp [hb]), if_neg (by simp [hb]), if_neg (by simp [hb])]

theorem clear_fill {P : Program} {t e : TypeId} {i : TypeInfo} {z : Value} {bytes : Nat} (hE : Elem P t e i z 1 bytes) (hz1 : z.cells = #[z]) (ho : z.oneCell' = true) (ty : TypeId) (w : World) (b o n c : Nat) (hc : ∀ j, j < n → can w ⟨b, o + j, none⟩) :
    ∃ w', (Builtin.clear_ #[t] ty #[.slice (some ⟨b, o, none⟩) n c]).run P w = .ok (.tuple #[]) w' ∧ Fill w w' b o (List.replicate n z) := by
  cases n with
  | zero =>
    refine ⟨w, ?_, fun b' j => by rw [if_neg (by simp <;> omega)], fun _ => rfl, fun B => Same.refl _ _ _⟩
    simp [Builtin.clear_, run_underlying hE.ht]
  | succ n =>
    obtain ⟨w', hr, hF⟩ := storeCells_fill (P := P) b o (List.replicate (n + 1) z) 0 w (fun u hu => by rw [List.eq_of_mem_replicate hu]; exact ho) (fun j hj => by simpa using hc j (by simpa using hj))
    rw [Nat.add_zero] at hF
    refine ⟨w', ?_, hF⟩
    have hzc : (Builtin.zeroCells z.cells (n + 1)).toList = List.replicate (n + 1) z := by
      apply List.ext_getElem
      · simp [Builtin.zeroCells, hz1]
      · intro j h1 h2
        simp [Builtin.zeroCells, hz1, Nat.mod_one]
    simp [Builtin.clear_, run_underlying hE.ht, zeroValue, typeInfo, hE.hi, hE.hz, hzc, hr]

theorem MSAt.fillq {w w' : World} {p q : Nat} {s : MS} (h : MSAt w p q s) {o : Nat} {xs : List Int} (hF : Fill w w' q o (xs.map (Value.int .u8))) :
    MSAt w' p q { s with back := fun j => if o ≤ j ∧ j < o + xs.length then xs.getD (j - o) 0 else s.back j } := by
  have hne := h.ne
  have hp : ∀ j, w'.cell? ⟨p, j, none⟩ = w.cell? ⟨p, j, none⟩ := fun j => by rw [hF.cell, if_neg (by simp [hne])]
  exact { c0 := by rw [hp]; exact h.c0, c1 := by rw [hp]; exact h.c1, c2 := by rw [hp]; exact h.c2, ct := fun j hj => by rw [hp]; exact h.ct j hj, c11 := by rw [hp]; exact h.c11,
          cg := fun j hj => by rw [hp]; exact h.cg j hj, c16 := by rw [hp]; exact h.c16,
          cb := fun j hj => by
            rw [hF.cell]
            simp only [List.length_map, true_and]
            by_cases hin : o ≤ j ∧ j < o + xs.length
            · rw [if_pos hin, if_pos hin]
              have : j - o < xs.length := by omega
              simp [List.getD, this]
            · rw [if_neg hin, if_neg hin]; exact h.cb j hj
          fp := fun j => by rw [hF.frozen]; exact h.fp j, fq := fun j => by rw [hF.frozen]; exact h.fq j, ne := hne }

/-- One cell of the store's own block is written. -/
theorem MSAt.setp {w : World} {p q : Nat} {s s' : MS} (h : MSAt w p q s) (i : Nat) (v : Value)
    (h1 : (if 1 = i then some v else some (.bool s.has)) = some (.bool s'.has))
    (h2 : (if 2 = i then some v else some (.slice (s.ma q) s.n s.cap)) = some (.slice (s'.ma q) s'.n s'.cap))
    (h0 : i ≠ 0)
    (ht : ∀ j, j < 8 → (if 3 + j = i then some v else some (.int .i64 (s.tab j))) = some (.int .i64 (s'.tab j)))
    (h11 : (if 11 = i then some v else some (.int .i64 s.tl)) = some (.int .i64 s'.tl))
    (hg : ∀ j, j < 4 → (if 12 + j = i then some v else some (.int .u64 (s.glob j))) = some (.int .u64 (s'.glob j)))
    (h16 : (if 16 = i then some v else some (.int .i64 s.ng)) = some (.int .i64 s'.ng))
    (hb : s'.back = s.back) : MSAt (w.setCell ⟨p, i, none⟩ v) p q s' := by
  have hne := h.ne
  have key : ∀ j u, w.cell? ⟨p, j, none⟩ = some u → (w.setCell ⟨p, i, none⟩ v).cell? ⟨p, j, none⟩ = if j = i then some v else some u := fun j u hu => cell_set w p i j v hu
  exact { c0 := by rw [key 0 _ h.c0, if_neg (by omega)], c1 := by rw [key 1 _ h.c1]; exact h1, c2 := by rw [key 2 _ h.c2]; exact h2, ct := fun j hj => by rw [key _ _ (h.ct j hj)]; exact ht j hj,
          c11 := by rw [key _ _ h.c11]; exact h11, cg := fun j hj => by rw [key _ _ (h.cg j hj)]; exact hg j hj, c16 := by rw [key _ _ h.c16]; exact h16,
          cb := fun j hj => by rw [cell_set_ne _ _ _ _ _ _ (Ne.symm hne), hb]; exact h.cb j hj,
          fp := fun j => by simpa using h.fp j, fq := fun j => by simpa using h.fq j, ne := hne }

theorem MSAt.canp {w : World} {p q : Nat} {s : MS} (h : MSAt w p q s) (i : Nat) (hi : i < 17) : can w ⟨p, i, none⟩ := by
  refine ⟨?_, h.fp i⟩
  have : i = 0 ∨ i = 1 ∨ i = 2 ∨ (3 ≤ i ∧ i < 11) ∨ i = 11 ∨ (12 ≤ i ∧ i < 16) ∨ i = 16 := by omega
  rcases this with rfl | rfl | rfl | hh | rfl | hh | rfl
  · exact ⟨_, h.c0⟩
  · exact ⟨_, h.c1⟩
  · exact ⟨_, h.c2⟩
  · obtain ⟨j, rfl⟩ : ∃ j, i = 3 + j := ⟨i - 3, by omega⟩
    exact ⟨_, h.ct j (by omega)⟩
  · exact ⟨_, h.c11⟩
  · obtain ⟨j, rfl⟩ : ∃ j, i = 12 + j := ⟨i - 12, by omega⟩
    exact ⟨_, h.cg j (by omega)⟩
  · exact ⟨_, h.c16⟩

theorem MSAt.canq {w : World} {p q : Nat} {s : MS} (h : MSAt w p q s) (i : Nat) (hi : i < 384) : can w ⟨q, i, none⟩ := ⟨⟨_, h.cb i hi⟩, h.fq i⟩

/-! ### New -/
def ms0 : MS := { has := false, n := 0, cap := 0, back := fun _ => 0, tab := fun _ => 0, tl := 0, glob := fun _ => 0, ng := 0 }

theorem ms0_wf : ms0.Wf := ⟨by simp [ms0], by simp [ms0], rfl, rfl, fun _ => ⟨rfl, rfl⟩, by simp [ms0], by simp [ms0], fun _ => by simp [ms0], fun _ => by simp [ms0], fun _ => by simp [ms0]⟩

theorem made_get (v : Value) (n j : Nat) (h : j < n) : (madeCells #[v] n)[j]? = some v := by
  simp [madeCells, h, Nat.mod_one]

theorem New_spec (w : World) : Runs Tryz.prog mem_New.id #[] w fun v w' => v = .pointer (some ⟨w.heap.size + 1, 0, none⟩) ∧ MSAt w' (w.heap.size + 1) w.heap.size ms0 ∧ Same [] w.heap.size w w' ∧ w'.heap.size = w.heap.size + 2 := by
  refine mem_New.enter _ _ ?_
  unfold mem_New.V
  have hE := T_sl_uint8.el
  have hr := run_make (P := Tryz.prog) w T_sl_uint8 T_uint8 _ _ hE.ht hE.hi hE.hz .i64 .i64 384 384 (by omega) (by omega) (by rw [hE.hby]; omega) (by omega)
  refine ⟨_, _, _, _, hr, ?_⟩
  rw [hE.hsize]
  have e384 : (Int.toNat 384) = 384 := rfl
  simp only [e384, Nat.mul_one]
  generalize hc : (Obj.cells (madeCells (Value.cells (.int .u8 0)) 384) T_uint8) = o1
  have hcell : ∀ j, j < 384 → (w.alloc o1).cell? ⟨w.heap.size, j, none⟩ = some (.int .u8 0) := fun j hj => by
    rw [← hc, World.cell?_alloc_new]; exact made_get _ _ _ hj
  have hfz : ∀ j, (w.alloc o1).frozen? ⟨w.heap.size, j, none⟩ = false := fun j => by rw [← hc, World.frozen?_alloc_new]
  refine ⟨by simp, ?_, ((Same.refl _ _ _).alloc (Nat.le_refl _) _).alloc (by simp) _, by simp⟩
  have e1 : w.heap.size + 1 = (w.alloc o1).heap.size := by simp
  have hn : ∀ (cs : Array Value) (t : TypeId) (j : Nat), ((w.alloc o1).alloc (.cells cs t)).cell? ⟨w.heap.size + 1, j, none⟩ = cs[j]? := fun cs t j => by rw [e1, World.cell?_alloc_new]
  have ho : ∀ (o : Obj) (j : Nat), ((w.alloc o1).alloc o).cell? ⟨w.heap.size, j, none⟩ = (w.alloc o1).cell? ⟨w.heap.size, j, none⟩ := fun o j => cell_alloc_old (by simp)
  exact { c0 := by rw [hn]; rfl, c1 := by rw [hn]; rfl, c2 := by rw [hn]; rfl
          ct := fun j hj => by
            rw [hn]
            have : j = 0 ∨ j = 1 ∨ j = 2 ∨ j = 3 ∨ j = 4 ∨ j = 5 ∨ j = 6 ∨ j = 7 := by omega
            rcases this with rfl | rfl | rfl | rfl | rfl | rfl | rfl | rfl <;> rfl
          c11 := by rw [hn]; rfl
          cg := fun j hj => by
            rw [hn]
            have : j = 0 ∨ j = 1 ∨ j = 2 ∨ j = 3 := by omega
            rcases this with rfl | rfl | rfl | rfl <;> rfl
          c16 := by rw [hn]; rfl
          cb := fun j hj => by rw [ho]; exact hcell j hj
          fp := fun j => by rw [e1, World.frozen?_alloc_new]
          fq := fun j => by rw [frozen_alloc_old (by simp)]; exact hfz j
          ne := by omega }

/-! ### SetElem, SetGlobal -/
def upd (f : Nat → Int) (i : Nat) (v : Int) : Nat → Int := fun j => if j = i then v else f j

def MS.setElem (s : MS) (i f : Int) : Int × MS :=
  if f < 0 then (36, s) else if i < s.tl then (0, { s with tab := upd s.tab i.toNat f }) else (31, s)

theorem SetElem_spec (w : World) (p q : Nat) (s : MS) (h : MSAt w p q s) (hw : s.Wf) (i f : Int) (h0 : 0 ≤ i) (h1 : i < 4294967296) :
    Runs Tryz.prog mem_Store_SetElem.id #[.pointer (some ⟨p, 0, none⟩), .int .u32 i, .int .i64 f] w fun v w' =>
      v = .int .i64 (s.setElem i f).1 ∧ MSAt w' p q (s.setElem i f).2 ∧ Same [p, q] w.heap.size w w' := by
  have := hw.tl8
  obtain ⟨k, rfl⟩ := Int.eq_ofNat_of_zero_le h0
  refine mem_Store_SetElem.enter _ _ _ _ _ ?_
  unfold mem_Store_SetElem.V
  refine cond_intro (fun hc => ?_) (fun hc => ?_)
  · have hf : f < 0 := by simpa using hc
    have e : s.setElem k f = (36, s) := by simp [MS.setElem, hf]
    rw [e]; exact ⟨rfl, h, Same.refl _ _ _⟩
  · have hf : ¬ f < 0 := by simpa using hc
    rw [wrap_u64 (x := (k : Int)) (by omega) (by omega)]
    refine ⟨_, by rw [Nat.zero_add]; exact h.c11, ?_⟩
    rw [wrap_u64 (x := (s.tl : Int)) (by omega) (by omega)]
    refine cond_intro (fun hn => ?_) (fun hn => ?_)
    · have hk : ¬ k < s.tl := by simp at hn; omega
      have e : s.setElem k f = (31, s) := by simp [MS.setElem, hf]; omega
      rw [e]; exact ⟨rfl, h, Same.refl _ _ _⟩
    · have hk : k < s.tl := by simp at hn; omega
      have e : s.setElem k f = (0, { s with tab := upd s.tab k f }) := by simp [MS.setElem, hf, hk]
      rw [e, nilV_some, Nat.zero_add, add_mk, Int.toNat_natCast, Nat.mul_one]
      refine ⟨by omega, h.canp (3 + k) (by omega), rfl, ?_, (Same.refl _ _ _).setCell (.inr (by simp)) _⟩
      refine h.setp (3 + k) _ (by rw [if_neg (by omega)]) (by rw [if_neg (by omega)]; rfl) (by omega) (fun j hj => ?_) (by rw [if_neg (by omega)]) (fun j hj => by rw [if_neg (by omega)]) (by rw [if_neg (by omega)]) rfl
      simp only [upd]
      by_cases hj' : j = k
      · subst hj'; simp
      · rw [if_neg (by omega), if_neg hj']

def MS.setGlobal (s : MS) (i v : Int) : Int × MS :=
  if 0 ≤ i ∧ i < s.ng then (0, { s with glob := upd s.glob i.toNat v }) else (36, s)

theorem SetGlobal_spec (w : World) (p q : Nat) (s : MS) (h : MSAt w p q s) (hw : s.Wf) (i v : Int) :
    Runs Tryz.prog mem_Store_SetGlobal.id #[.pointer (some ⟨p, 0, none⟩), .int .i64 i, .int .u64 v] w fun r w' =>
      r = .int .i64 (s.setGlobal i v).1 ∧ MSAt w' p q (s.setGlobal i v).2 ∧ Same [p, q] w.heap.size w w' := by
  have := hw.ng4
  refine mem_Store_SetGlobal.enter _ _ _ _ _ ?_
  unfold mem_Store_SetGlobal.V
  refine cond_intro (fun hc => ?_) (fun hc => ?_)
  · have hf : i < 0 := by simpa using hc
    have e : s.setGlobal i v = (36, s) := by unfold MS.setGlobal; rw [if_neg (by omega)]
    rw [e]; exact ⟨rfl, h, Same.refl _ _ _⟩
  · have hf : 0 ≤ i := by simpa using hc
    obtain ⟨k, rfl⟩ := Int.eq_ofNat_of_zero_le hf
    refine ⟨_, by rw [Nat.zero_add]; exact h.c16, ?_⟩
    refine cond_intro (fun hn => ?_) (fun hn => ?_)
    · have hk : ¬ k < s.ng := by simp at hn; omega
      have e : s.setGlobal k v = (36, s) := by unfold MS.setGlobal; rw [if_neg (by omega)]
      rw [e]; exact ⟨rfl, h, Same.refl _ _ _⟩
    · have hk : k < s.ng := by simp at hn; omega
      have e : s.setGlobal k v = (0, { s with glob := upd s.glob k v }) := by unfold MS.setGlobal; rw [if_pos (by omega)]; rfl
      refine mem_Store_SetGlobal.step1 _ _ _ _ _ ?_
      unfold mem_Store_SetGlobal.V1
      rw [e, nilV_some, Nat.zero_add, add_mk, Int.toNat_natCast, Nat.mul_one]
      refine ⟨by omega, h.canp (12 + k) (by omega), rfl, ?_, (Same.refl _ _ _).setCell (.inr (by simp)) _⟩
      refine h.setp (12 + k) _ (by rw [if_neg (by omega)]) (by rw [if_neg (by omega)]; rfl) (by omega) (fun j hj => by rw [if_neg (by omega)]) (by rw [if_neg (by omega)]) (fun j hj => ?_) (by rw [if_neg (by omega)]) rfl
      simp only [upd]
      by_cases hj' : j = k
      · subst hj'; simp
      · rw [if_neg (by omega), if_neg hj']

/-! ### Save -/
/-- The k low bytes of v, the low one first, from a on. -/
def putB (f : Nat → Int) (a : Nat) : Nat → Int → Nat → Int
  | 0, _ => f
  | k + 1, v => putB (upd f a (v % 256)) (a + 1) k (v / 256)

def MS.save (s : MS) (op ea v : Int) : Int × MS :=
  if 54 ≤ op ∧ op ≤ 62 then (if ea + (memSig op).1 ≤ s.n then (0, { s with back := putB s.back ea.toNat (memSig op).1.toNat v }) else (42, s)) else (35, s)

theorem MSAt.setq {w : World} {p q : Nat} {s : MS} (h : MSAt w p q s) (i : Nat) (v : Int) : MSAt (w.setCell ⟨q, i, none⟩ (.int .u8 v)) p q { s with back := upd s.back i v } := by
  have hne := h.ne
  have hp : ∀ j, (w.setCell ⟨q, i, none⟩ (.int .u8 v)).cell? ⟨p, j, none⟩ = w.cell? ⟨p, j, none⟩ := fun j => cell_set_ne _ _ _ _ _ _ hne
  exact { c0 := by rw [hp]; exact h.c0, c1 := by rw [hp]; exact h.c1, c2 := by rw [hp]; exact h.c2, ct := fun j hj => by rw [hp]; exact h.ct j hj, c11 := by rw [hp]; exact h.c11,
          cg := fun j hj => by rw [hp]; exact h.cg j hj, c16 := by rw [hp]; exact h.c16,
          cb := fun j hj => by
            rw [cell_set w q i j _ (h.cb j hj)]
            simp only [upd]
            split <;> rfl
          fp := fun j => by simpa using h.fp j, fq := fun j => by simpa using h.fq j, ne := hne }

theorem fdiv8 (v : Int) : Int.fdiv v (2 ^ (8 : Nat)) = v / 256 := by
  rw [Int.fdiv_eq_ediv_of_nonneg _ (by decide)]; rfl

theorem Save_loop4 (p q : Nat) (w0 : World) (a : Nat) (ha : a + 4 ≤ 384) (R : Value → World → Prop) :
    ∀ (f t : Nat) (s : MS) (u : Int) (w : World), t + f = 4 → MSAt w p q s → 0 ≤ u → Same [p, q] w0.heap.size w0 w →
      (∀ w', MSAt w' p q { s with back := putB s.back (a + t) f u } → Same [p, q] w0.heap.size w0 w' → R (.int .i64 0) w') → mem_Store_Save.L4 u (some ⟨q, a, none⟩) t R w := by
  intro f
  induction f with
  | zero =>
    intro t s u w ht hm hu hS hR
    refine mem_Store_Save.step4 _ _ _ _ _ ?_
    unfold mem_Store_Save.V4
    exact cond_false' (by simp; omega) (hR w hm hS)
  | succ f ih =>
    intro t s u w ht hm hu hS hR
    refine mem_Store_Save.step4 _ _ _ _ _ ?_
    unfold mem_Store_Save.V4
    refine cond_true' (by simp; omega) ?_
    have e : IntKind.wrap .i64 ((t : Int) + 1) = ((t + 1 : Nat) : Int) := by rw [wrap_i64 (by omega) (by omega)]; omega
    rw [nilV_some, add_mk, Int.toNat_natCast, Nat.mul_one, e, fdiv8, wrap_u8_mod]
    refine ⟨by omega, hm.canq (a + t) (by omega), ?_⟩
    exact ih (t + 1) _ _ _ (by omega) (hm.setq (a + t) (u % 256)) (by omega) (hS.setCell (.inr (by simp)) _) (fun w' h1 h2 => hR w' (by simpa [putB, Nat.add_assoc] using h1) h2)

theorem Save_loop8 (p q : Nat) (w0 : World) (a : Nat) (ha : a + 8 ≤ 384) (R : Value → World → Prop) :
    ∀ (f t : Nat) (s : MS) (u : Int) (w : World), t + f = 8 → MSAt w p q s → 0 ≤ u → Same [p, q] w0.heap.size w0 w →
      (∀ w', MSAt w' p q { s with back := putB s.back (a + t) f u } → Same [p, q] w0.heap.size w0 w' → R (.int .i64 0) w') → mem_Store_Save.L5 u (some ⟨q, a, none⟩) t R w := by
  intro f
  induction f with
  | zero =>
    intro t s u w ht hm hu hS hR
    refine mem_Store_Save.step5 _ _ _ _ _ ?_
    unfold mem_Store_Save.V5
    exact cond_false' (by simp; omega) (hR w hm hS)
  | succ f ih =>
    intro t s u w ht hm hu hS hR
    refine mem_Store_Save.step5 _ _ _ _ _ ?_
    unfold mem_Store_Save.V5
    refine cond_true' (by simp; omega) ?_
    have e : IntKind.wrap .i64 ((t : Int) + 1) = ((t + 1 : Nat) : Int) := by rw [wrap_i64 (by omega) (by omega)]; omega
    rw [nilV_some, add_mk, Int.toNat_natCast, Nat.mul_one, e, fdiv8, wrap_u8_mod]
    refine ⟨by omega, hm.canq (a + t) (by omega), ?_⟩
    exact ih (t + 1) _ _ _ (by omega) (hm.setq (a + t) (u % 256)) (by omega) (hS.setCell (.inr (by simp)) _) (fun w' h1 h2 => hR w' (by simpa [putB, Nat.add_assoc] using h1) h2)

theorem putB4_mod (f : Nat → Int) (a : Nat) (v : Int) : putB f a 4 (v % 4294967296) = putB f a 4 v := by
  simp only [putB]
  have e1 : v % 4294967296 % 256 = v % 256 := by omega
  have e2 : v % 4294967296 / 256 % 256 = v / 256 % 256 := by omega
  have e3 : v % 4294967296 / 256 / 256 % 256 = v / 256 / 256 % 256 := by omega
  have e4 : v % 4294967296 / 256 / 256 / 256 % 256 = v / 256 / 256 / 256 % 256 := by omega
  rw [e1, e2, e3, e4]

theorem Save_at (w : World) (p q : Nat) (s : MS) (h : MSAt w p q s) (hw : s.Wf) (b o v z : Int) (hb0 : 0 ≤ b) (hb1 : b < 4294967296) (ho0 : 0 ≤ o) (ho1 : o < 4294967296) (hv0 : 0 ≤ v) (hv1 : v < 18446744073709551616)
    (hz : z = 1 ∨ z = 2 ∨ z = 4 ∨ z = 8) (R : Value → World → Prop)
    (hout : ¬ b + o + z ≤ s.n → R (.int .i64 42) w)
    (hin : b + o + z ≤ s.n → ∀ w', MSAt w' p q { s with back := putB s.back (b + o).toNat z.toNat v } → Same [p, q] w.heap.size w w' → R (.int .i64 0) w') :
    mem_Store_Save.L2 (some ⟨p, 0, none⟩) b o v z R w := by
  have := hw.ncap; have := hw.cap384
  refine mem_Store_Save.step2 _ _ _ _ _ _ _ ?_
  unfold mem_Store_Save.V2
  refine (place_spec w p q s h hw b o z hb0 hb1 ho0 ho1 (by omega) (by omega)).mono ?_
  rintro r w1 ⟨rfl, rfl⟩
  by_cases hi : b + o + z ≤ s.n
  · rw [if_pos hi]
    refine ⟨_, _, rfl, ?_⟩
    have hh : s.has = true := by
      cases hc : s.has with
      | true => rfl
      | false => have := (hw.none hc).1; omega
    have hma : s.ma q = some ⟨q, 0, none⟩ := by simp [MS.ma, hh]
    obtain ⟨a, ha⟩ := Int.eq_ofNat_of_zero_le (show 0 ≤ b + o by omega)
    have hR := hin hi
    rw [ha] at hR ⊢
    rw [Int.toNat_natCast] at hR
    simp only [Bool.not_true, cond_false, nilV_some, Nat.zero_add, Int.toNat_natCast, Nat.mul_one, h.c2]
    rcases hz with rfl | rfl | rfl | rfl
    · refine cond_true' rfl ⟨_, _, _, rfl, by omega, ?_⟩
      rw [hma, nilV_some, add_mk, Nat.zero_add, wrap_u8_mod]
      exact ⟨h.canq a (by omega), hR _ (h.setq a (v % 256)) ((Same.refl _ _ _).setCell (.inr (by simp)) _)⟩
    · refine cond_false' rfl (cond_true' rfl ⟨_, _, _, rfl, by omega, ?_⟩)
      have e : IntKind.wrap .i64 ((a : Int) + 1) = ((a + 1 : Nat) : Int) := by rw [wrap_i64 (by omega) (by omega)]; omega
      have e1 : IntKind.wrap .u8 (IntKind.wrap .u16 v) = v % 256 := by rw [wrap_u16_mod, wrap_u8_mod]; omega
      have e2 : IntKind.wrap .u8 (Int.fdiv (IntKind.wrap .u16 v) (2 ^ (8 : Nat))) = v / 256 % 256 := by rw [wrap_u16_mod, fdiv8, wrap_u8_mod]; omega
      rw [hma, nilV_some, add_mk, Nat.zero_add, e, e1, e2]
      have hm1 := h.setq a (v % 256)
      refine ⟨h.canq a (by omega), _, _, _, hm1.c2, by simp only; omega, ?_⟩
      simp only [MS.ma, hh, if_true, nilV_some, add_mk, Nat.zero_add, Int.toNat_natCast]
      exact ⟨hm1.canq (a + 1) (by omega), hR _ (hm1.setq (a + 1) (v / 256 % 256)) (((Same.refl _ _ _).setCell (.inr (by simp)) _).setCell (.inr (by simp)) _)⟩
    · refine cond_false' rfl (cond_false' rfl (cond_true' rfl ⟨_, _, _, rfl, by omega, by omega, ?_⟩))
      rw [hma, slAddr_lt (by omega), Nat.zero_add, Nat.mul_one, wrap_u32_mod]
      exact Save_loop4 p q w1 a (by omega) R 4 0 s _ w1 (by omega) h (by omega) (Same.refl _ _ _) (fun w' h1 h2 => hR w' (by
        rw [Nat.add_zero, putB4_mod] at h1; exact h1) h2)
    · refine cond_false' rfl (cond_false' rfl (cond_false' rfl (cond_true' rfl ⟨_, _, _, rfl, by omega, by omega, ?_⟩)))
      rw [hma, slAddr_lt (by omega), Nat.zero_add, Nat.mul_one]
      exact Save_loop8 p q w1 a (by omega) R 8 0 s _ w1 (by omega) h (by omega) (Same.refl _ _ _) (fun w' h1 h2 => hR w' (by simpa using h1) h2)
  · rw [if_neg hi]
    exact ⟨_, _, rfl, hout hi⟩

theorem Save_width (op : Int) (h : 54 ≤ op ∧ op ≤ 62) : (memSig op).1 = (if op = 58 ∨ op = 60 then 1 else if op = 59 ∨ op = 61 then 2 else if op = 55 ∨ op = 57 then 8 else 4) := by
  obtain ⟨n, rfl⟩ := Int.eq_ofNat_of_zero_le (show 0 ≤ op by omega)
  have key : ∀ n : Fin 63, 54 ≤ n.val → (memSig (n.val : Int)).1 = (if (n.val : Int) = 58 ∨ (n.val : Int) = 60 then 1 else if (n.val : Int) = 59 ∨ (n.val : Int) = 61 then 2 else if (n.val : Int) = 55 ∨ (n.val : Int) = 57 then 8 else 4) := by decide
  exact key ⟨n, by omega⟩ (by show 54 ≤ n; omega)

theorem Save_spec (w : World) (p q : Nat) (s : MS) (h : MSAt w p q s) (hw : s.Wf) (op b o v : Int) (hb0 : 0 ≤ b) (hb1 : b < 4294967296) (ho0 : 0 ≤ o) (ho1 : o < 4294967296) (hv0 : 0 ≤ v) (hv1 : v < 18446744073709551616) :
    Runs Tryz.prog mem_Store_Save.id #[.pointer (some ⟨p, 0, none⟩), .int .i64 op, .int .u32 b, .int .u32 o, .int .u64 v] w fun r w' =>
      r = .int .i64 (s.save op (b + o) v).1 ∧ MSAt w' p q (s.save op (b + o) v).2 ∧ Same [p, q] w.heap.size w w' := by
  refine mem_Store_Save.enter _ _ _ _ _ _ _ ?_
  generalize hRd : (fun (r : Value) (w' : World) => r = .int .i64 (s.save op (b + o) v).1 ∧ MSAt w' p q (s.save op (b + o) v).2 ∧ Same [p, q] w.heap.size w w') = R
  have at_ : (54 ≤ op ∧ op ≤ 62) → ∀ z, z = (memSig op).1 → mem_Store_Save.L2 (some ⟨p, 0, none⟩) b o v z R w := fun hop z hz => by
    have hwd := Save_width op hop
    refine Save_at w p q s h hw b o v z hb0 hb1 ho0 ho1 hv0 hv1 (by rw [hz, hwd]; split <;> (try split) <;> (try split) <;> simp) R (fun hn => ?_) (fun hi w' h1 h2 => ?_)
    · subst hRd
      have e : s.save op (b + o) v = (42, s) := by simp only [MS.save, if_pos hop, ← hz, if_neg hn]
      rw [e]; exact ⟨rfl, h, Same.refl _ _ _⟩
    · subst hRd
      have e : s.save op (b + o) v = (0, { s with back := putB s.back (b + o).toNat z.toNat v }) := by simp only [MS.save, if_pos hop, ← hz, if_pos hi]
      rw [e]; exact ⟨rfl, h1, h2⟩
  have bad : ¬ (54 ≤ op ∧ op ≤ 62) → R (.int .i64 35) w := fun hn => by
    subst hRd
    have e : s.save op (b + o) v = (35, s) := by simp only [MS.save, if_neg hn]
    rw [e]; exact ⟨rfl, h, Same.refl _ _ _⟩
  unfold mem_Store_Save.V
  have L1 : ∀ t : Bool, t = (op == 58 || op == 60) → mem_Store_Save.L1 (some ⟨p, 0, none⟩) b o v op t R w := by
    intro t ht
    refine mem_Store_Save.step1 _ _ _ _ _ _ _ _ ?_
    unfold mem_Store_Save.V1
    refine cond_intro (fun hc => ?_) (fun hc => ?_)
    · rw [ht] at hc
      have hop : op = 58 ∨ op = 60 := by simpa using hc
      exact at_ (by omega) 1 (by rcases hop with rfl | rfl <;> rfl)
    · rw [ht] at hc
      have hop : op ≠ 58 ∧ op ≠ 60 := by simpa using hc
      have L3 : ∀ t : Bool, t = (op == 59 || op == 61) → mem_Store_Save.L3 (some ⟨p, 0, none⟩) b o v op t R w := by
        intro t ht
        refine mem_Store_Save.step3 _ _ _ _ _ _ _ _ ?_
        unfold mem_Store_Save.V3
        refine cond_intro (fun hc => ?_) (fun hc => ?_)
        · rw [ht] at hc
          have hop : op = 59 ∨ op = 61 := by simpa using hc
          exact at_ (by omega) 2 (by rcases hop with rfl | rfl <;> rfl)
        · rw [ht] at hc
          have hop2 : op ≠ 59 ∧ op ≠ 61 := by simpa using hc
          have L6 : ∀ t : Bool, t = (op == 54 || op == 56 || op == 62) → mem_Store_Save.L6 (some ⟨p, 0, none⟩) b o v op t R w := by
            intro t ht
            refine mem_Store_Save.step6 _ _ _ _ _ _ _ _ ?_
            unfold mem_Store_Save.V6
            refine cond_intro (fun hc => ?_) (fun hc => ?_)
            · rw [ht] at hc
              have hop : op = 54 ∨ op = 56 ∨ op = 62 := by simp at hc; omega
              exact at_ (by omega) 4 (by rcases hop with rfl | rfl | rfl <;> rfl)
            · rw [ht] at hc
              have hop3 : op ≠ 54 ∧ op ≠ 56 ∧ op ≠ 62 := by simp at hc; omega
              have L7 : ∀ t : Bool, t = (op == 55 || op == 57) → mem_Store_Save.L7 (some ⟨p, 0, none⟩) b o v t R w := by
                intro t ht
                refine mem_Store_Save.step7 _ _ _ _ _ _ _ ?_
                unfold mem_Store_Save.V7
                refine cond_intro (fun hc => ?_) (fun hc => ?_)
                · rw [ht] at hc
                  have hop : op = 55 ∨ op = 57 := by simpa using hc
                  exact at_ (by omega) 8 (by rcases hop with rfl | rfl <;> rfl)
                · rw [ht] at hc
                  have hop4 : op ≠ 55 ∧ op ≠ 57 := by simpa using hc
                  exact bad (by omega)
              exact cond_intro (fun hc => L7 _ (by simp at hc; simp [hc])) (fun hc => L7 _ (by rw [hc]; simp))
          exact cond_intro (fun hc => L6 _ (by simp at hc; simp [hc])) (fun hc => cond_intro (fun hc' => L6 _ (by simp at hc'; simp [hc'])) (fun hc' => L6 _ (by rw [hc, hc']; simp)))
      exact cond_intro (fun hc => L3 _ (by simp at hc; simp [hc])) (fun hc => L3 _ (by rw [hc]; simp))
  exact cond_intro (fun hc => L1 _ (by simp at hc; simp [hc])) (fun hc => L1 _ (by rw [hc]; simp))

end Go.Proofs.Qxb6500317aGreat.M
