/-
  The host: what is bound.
-/
import Derived.Test.Qxb6500317aGreatHoA
import Derived.MapKept
set_option linter.unusedSimpArgs false
set_option linter.unusedVariables false
set_option maxRecDepth 100000
set_option linter.unusedSectionVars false
namespace Go.Proofs.Qxb6500317aGreat
open Go Go.Vc

/-! ### The registry -/
def nTape : ByteArray := ⟨#[116, 97, 112, 101]⟩
def nZero : ByteArray := ⟨#[122, 101, 114, 111]⟩
def nSize : ByteArray := ⟨#[115, 105, 122, 101]⟩
def nTrap : ByteArray := ⟨#[116, 114, 97, 112]⟩
def nNone : ByteArray := ⟨#[110, 111, 110, 101]⟩
abbrev mE (n : ByteArray) (g : Nat) (b : Nat) : MapEntry := { key := .string n, val := .func (.func g) #[] #[], born := b }
abbrev regE : Array MapEntry := #[mE nTape host_makeTape.id 0, mE nZero host_makeZero.id 1, mE nSize host_makeSize.id 2, mE nTrap host_makers_1.id 3]
theorem run_upd {w : World} {r clock : Nat} {es : Array MapEntry} (s : ByteArray) (v : Value) (hb : w.heap[r]? = some (.map es clock)) (hf : Instr.findNow .string (.string s) es.toList 0 = some none) :
    Sem.run Tryz.prog (Instr.mapUpdate T_map_string_host_maker (.map (some r)) (.string s) v) w = .ok () { w with heap := w.heap.setIfInBounds r (.map (es.push { key := .string s, val := v, born := clock }) (clock + 1)) } := by
  have hm : Tryz.prog.underlying T_map_string_host_maker = some (.map (9 : Nat) (244 : Nat)) := by kernel_rfl
  have hk : Tryz.prog.underlying (9 : Nat) = some .string := by kernel_rfl
  have hc : (Instr.checkKey false 10000 (9 : Nat) (.string s)).run Tryz.prog w = .ok () w := MapKept.run_checkKey (k := .string s) hk (by simp [MapKept.IsKey]) false 9999
  simp [Instr.mapUpdate, run_underlying hm, MapKept.run_getObj_map hb, hc, MapKept.run_findKey hk hf, MapKept.run_setObj_map _ hb, Result.andThen]
theorem heap_set {w : World} {r : Nat} {o x : Obj} (h : w.heap[r]? = some x) : ({ w with heap := w.heap.setIfInBounds r o } : World).heap[r]? = some o := by
  have hl : r < w.heap.size := by
    rcases Nat.lt_or_ge r w.heap.size with g | g
    · exact g
    · rw [Array.getElem?_eq_none g] at h; cases h
  show (w.heap.setIfInBounds r o)[r]? = some o
  rw [Array.getElem?_setIfInBounds_self_of_lt hl]
theorem same_obj (w : World) (r : Nat) (o : Obj) : Same [r] w.heap.size w { w with heap := w.heap.setIfInBounds r o } :=
  ⟨rfl, rfl, rfl, by simp, fun k hk hs => by
    show (w.heap.setIfInBounds r o)[k]? = w.heap[k]?
    rw [Array.getElem?_setIfInBounds_ne (by simp at hs; omega)]⟩
theorem make_map (w : World) : Sem.run Tryz.prog (Instr.makeMap T_map_string_host_maker none) w = .ok (.map (some w.heap.size)) (w.alloc (.map #[] 0)) := rfl
theorem makers_spec (w : World) : Runs Tryz.prog host_makers.id #[] w fun v w' => ∃ r, v = .map (some r) ∧ w'.heap[r]? = some (.map regE 4) ∧ Same [] w.heap.size w w' := by
  refine host_makers.enter _ _ _ ?_
  unfold host_makers.V
  refine ⟨_, _, make_map w, ?_⟩
  have S0 : Same [] w.heap.size w (w.alloc (.map #[] 0)) := (Same.refl _ _ _).alloc (Nat.le_refl _) _
  have h0 : (w.alloc (.map #[] 0)).heap[w.heap.size]? = some (.map #[] 0) := heap_alloc_new w _
  generalize hr : w.heap.size = r at *
  generalize w.alloc (.map #[] 0) = w0 at *
  have z : ∀ {a b : World}, Same [] r w a → Same [r] a.heap.size a b → Same [] r w b := fun s t => s.trans (t.mono (by rw [← hr]; rw [← hr] at s; exact s.size) (fun k hk hl => by simp at hk; omega))
  refine ⟨_, run_upd nTape _ h0 rfl, ?_⟩
  have h1 := heap_set (o := .map #[mE nTape host_makeTape.id 0] 1) h0
  have S1 := z S0 (same_obj w0 r (.map #[mE nTape host_makeTape.id 0] 1))
  refine ⟨_, run_upd nZero _ h1 rfl, ?_⟩
  have h2 := heap_set (o := .map #[mE nTape host_makeTape.id 0, mE nZero host_makeZero.id 1] 2) h1
  have S2 := z S1 (same_obj _ r (.map #[mE nTape host_makeTape.id 0, mE nZero host_makeZero.id 1] 2))
  refine ⟨_, run_upd nSize _ h2 rfl, ?_⟩
  have h3 := heap_set (o := .map #[mE nTape host_makeTape.id 0, mE nZero host_makeZero.id 1, mE nSize host_makeSize.id 2] 3) h2
  have S3 := z S2 (same_obj _ r (.map #[mE nTape host_makeTape.id 0, mE nZero host_makeZero.id 1, mE nSize host_makeSize.id 2] 3))
  refine ⟨_, run_upd nTrap _ h3 rfl, ?_⟩
  have h4 := heap_set (o := .map regE 4) h3
  have S4 := z S3 (same_obj _ r (.map regE 4))
  exact ⟨r, rfl, h4, S4⟩
theorem run_look {w : World} {r : Nat} (s : ByteArray) (x : Option (Nat × Value)) (hb : w.heap[r]? = some (.map regE 4)) (hf : Instr.findNow .string (.string s) regE.toList 0 = some x) :
    Sem.run Tryz.prog (Instr.lookup T_map_string_host_maker (.map (some r)) (.string s) true) w = .ok (.tuple #[match x with | some (_, v) => v | none => .nilFunc, .bool x.isSome]) w := by
  have hm : Tryz.prog.underlying T_map_string_host_maker = some (.map (9 : Nat) (244 : Nat)) := by kernel_rfl
  have hk : Tryz.prog.underlying (9 : Nat) = some .string := by kernel_rfl
  have hc : (Instr.checkKey false 10000 (9 : Nat) (.string s)).run Tryz.prog w = .ok () w := MapKept.run_checkKey (k := .string s) hk (by simp [MapKept.IsKey]) false 9999
  have hz : (zeroValue (244 : Nat)).run Tryz.prog w = .ok .nilFunc w := by kernel_rfl
  have he : regE.isEmpty = false := rfl
  cases x with
  | none => simp [Instr.lookup, run_underlying hm, MapKept.run_getObj_map hb, he, hc, MapKept.run_findKey hk hf, hz, Result.andThen]
  | some p => simp [Instr.lookup, run_underlying hm, MapKept.run_getObj_map hb, he, hc, MapKept.run_findKey hk hf, Result.andThen]

/-! ### Bind -/
def nameK (s : ByteArray) (k : Nat) : Prop := (s = nTape ∧ k = 1) ∨ (s = nZero ∧ k = 2) ∨ (s = nSize ∧ k = 3)
section
variable {w w' : World} {hb : Nat} {F : List Nat} {h : HS}
theorem make_spec {s : ByteArray} {k : Nat} (hk : nameK s k) (w : World) (hb : Nat) : ∃ (g : FuncId) (fn : Func) (i : Nat), Instr.findNow .string (.string s) regE.toList 0 = some (some (i, .func (.func g) #[] #[])) ∧ (Program.funcs Tryz.prog)[g]? = some fn ∧ fn.body.isSome = true ∧
    Runs Tryz.prog g #[rp hb] w fun v w' => ∃ x : TypeId × Value, v = .iface x.1 x.2 ∧ Same [] w.heap.size w w' ∧ ∃ F', FnAt w' hb F' k x ∧ ∀ d, d ∈ F' → w.heap.size ≤ d ∧ d < w'.heap.size := by
  rcases hk with ⟨rfl, rfl⟩ | ⟨rfl, rfl⟩ | ⟨rfl, rfl⟩
  · refine ⟨host_makeTape.id, _, 0, rfl, Tryz.func178, rfl, ?_⟩
    refine host_makeTape.enter _ _ _ _ ?_
    unfold host_makeTape.V
    refine letB_intro fun b hb' => letW_intro fun w1 hw1 => ?_
    refine ⟨(T_p_host_tapeFn, .pointer (some ⟨b, 0, none⟩)), rfl, by rw [hw1]; exact (Same.refl _ _ _).alloc (Nat.le_refl _) _, [b], .inl ⟨rfl, b, rfl, by simp, ?_⟩, fun d hd => ?_⟩
    · rw [hw1, hb']; exact heap_alloc_new w _
    · simp at hd; subst hd; rw [hw1, hb']; simp
  · refine ⟨host_makeZero.id, _, 1, rfl, Tryz.func179, rfl, ?_⟩
    refine host_makeZero.enter _ _ _ _ ?_
    unfold host_makeZero.V
    exact ⟨(T_host_zeroFn, .agg #[]), rfl, Same.refl _ _ _, [], .inr (.inl ⟨rfl, rfl⟩), by simp⟩
  · refine ⟨host_makeSize.id, _, 2, rfl, Tryz.func180, rfl, ?_⟩
    refine host_makeSize.enter _ _ _ _ ?_
    unfold host_makeSize.V
    exact ⟨(T_host_sizeFn, .func (.func host_word.id) #[] #[]), rfl, Same.refl _ _ _, [], .inr (.inr ⟨rfl, rfl⟩), by simp⟩
theorem FnAt.mono {k : Nat} {x : TypeId × Value} {F' : List Nat} (H : FnAt w hb F k x) (hF : ∀ d, d ∈ F → d ∈ F') : FnAt w hb F' k x := by
  rcases H with ⟨h1, tb, h2, h3, h4⟩ | h | h
  · exact .inl ⟨h1, tb, h2, hF _ h3, h4⟩
  · exact .inr (.inl h)
  · exact .inr (.inr h)
theorem Bind_none (H : HoAt w hb F h) (hn : h.n < 4) : Runs Tryz.prog host_Host_Bind.id #[rp hb, .string nNone] w fun v w' => v = .int .i64 30 ∧ Same [] w.heap.size w w' := by
  obtain ⟨a, cc, fns, b1, b2, b3, b4⟩ := H.bd
  refine host_Host_Bind.enter _ _ _ _ _ ?_
  unfold host_Host_Bind.V
  simp only [nilV_some]
  refine cond_false' rfl ⟨_, _, _, b1, cond_false' (decide_eq_false (by omega)) (RunsQ.post (makers_spec w) ?_)⟩
  rintro v w1 ⟨r, rfl, hr, S1⟩
  refine ⟨_, rfl, _, _, _, run_look nNone none hr rfl, cond_true' rfl ⟨by trivial, S1⟩⟩
theorem Bind_spec (H : HoAt w hb F h) (hn : h.n < 4) {s : ByteArray} {k : Nat} (hk : nameK s k) : Runs Tryz.prog host_Host_Bind.id #[rp hb, .string s] w fun v w' => v = .int .i64 0 ∧ ∃ F', HoAt w' hb F' { { h with n := h.n + 1 } with k := upd h.k h.n k } ∧ Same (hb :: F) w.heap.size w w' ∧ ∀ d, d ∈ F' → d ∈ F ∨ w.heap.size ≤ d := by
  obtain ⟨a, cc, fns, b1, b2, b3, b4⟩ := H.bd
  refine host_Host_Bind.enter _ _ _ _ _ ?_
  unfold host_Host_Bind.V
  simp only [nilV_some]
  have hsz : s.size = 4 := by rcases hk with ⟨rfl, _⟩ | ⟨rfl, _⟩ | ⟨rfl, _⟩ <;> rfl
  refine cond_false' (decide_eq_false (by omega)) ⟨_, _, _, b1, cond_false' (decide_eq_false (by omega)) (RunsQ.post (makers_spec w) ?_)⟩
  rintro v w1 ⟨r, rfl, hr, S1⟩
  have H1 := H.keep S1
  obtain ⟨g, fn, i, hf, hfn, hbd, hrun⟩ := make_spec hk w1 hb
  refine ⟨_, rfl, _, _, _, run_look s _ hr hf, cond_false' rfl ⟨g, #[], #[], fn, rfl, hfn, hbd, ?_⟩⟩
  simp only [Array.empty_append, Array.append_empty]
  refine RunsQ.post hrun ?_
  rintro v w2 ⟨x, rfl, S2, F2, hx, hF2⟩
  have H2 := H1.keep S2
  obtain ⟨a, cc, fns, b1, b2, b3, b4⟩ := H2.bd
  refine ⟨_, _, rfl, _, _, _, b1, letB_intro fun b25 hb25 => letW_intro fun w26 hw26 => ?_⟩
  obtain ⟨a', c', w3, hr3, ho3, S3, hf3⟩ := row_app T_sl_host_Fn.el T_sl_host_Fn b2 (fnC x) rfl (by intro u hu; simp [fnC] at hu; subst hu; rfl) (by omega) (by decide) (Nat.zero_le _) hb25 hw26
  refine ⟨a', _, c', w3, hr3, ?_⟩
  have l2 := H2.lt
  have nb : hb ∉ obk (.slice a h.n cc) := fun q => H2.nF (b3 hb (mem_obk.1 q))
  have c3 : ∀ j, w3.cell? ⟨hb, j, none⟩ = w2.cell? ⟨hb, j, none⟩ := fun j => S3.cell (p := ⟨hb, j, none⟩) l2 nb
  have f3 : ∀ j, w3.frozen? ⟨hb, j, none⟩ = false := fun j => by rw [S3.frozen (p := ⟨hb, j, none⟩) l2 nb]; exact H2.fz j
  refine ⟨⟨⟨_, by rw [c3]; exact b1⟩, f3 0⟩, letW_intro fun w4 hw4 => ?_⟩
  have S4 : Same [hb] w3.heap.size w3 w4 := by rw [hw4]; exact same_set _ _
  have c4 : ∀ j, w4.cell? ⟨hb, j, none⟩ = if j = 0 then some (.slice a' (h.n + 1) c') else w2.cell? ⟨hb, j, none⟩ := fun j => by
    rw [hw4, cell_setCell]
    by_cases e : j = 0
    · subst e; rw [if_pos ⟨rfl, rfl⟩, if_pos rfl, c3, b1]; rfl
    · rw [if_neg (by omega), if_neg e, c3]
  have f4 : ∀ j, w4.frozen? ⟨hb, j, none⟩ = false := fun j => by rw [hw4, World.frozen?_setCell]; exact f3 j
  clear hw4
  have z1 := S1.size; have z2 := S2.size; have z3 := S3.size; have z4 := S4.size
  have T24 : Same (hb :: obk (.slice a h.n cc)) w2.heap.size w2 w4 := (S3.mono (Nat.le_refl _) (fun k hk _ => List.mem_cons_of_mem _ hk)).trans (S4.mono z3 (fun k hk _ => by simp at hk; subst hk; simp))
  have ob : ∀ d, d ∈ obk (.slice a h.n cc) → d ∈ F := fun d hd => b3 d (mem_obk.1 hd)
  obtain ⟨ta, tc, t1, t2, t3⟩ := H2.tr
  have hne := ne_obk b2 t2 (by decide)
  have r3 := ho3
  have lF2 : ∀ d, d ∈ F2 → d < w2.heap.size := fun d hd => (hF2 d hd).2
  have nob : ∀ d, d ∈ F2 → d ∉ hb :: obk (.slice a h.n cc) := fun d hd q => by
    have := (hF2 d hd).1
    simp only [List.mem_cons] at q
    rcases q with rfl | q
    · have := H1.lt; omega
    · have := H1.lF d (ob d q); omega
  refine ⟨by trivial, F ++ F2 ++ obk (.slice a' (h.n + 1) c'), ⟨⟨a', c', upd fns h.n x, by rw [c4, if_pos rfl], ?_, fun d hd => by simp [mem_obk, hd], fun j hj => ?_⟩, fun j hj => by rw [c4, if_neg (by omega)]; exact H2.tp j hj, by rw [c4, if_neg (by decide)]; exact H2.hd, by rw [c4, if_neg (by decide)]; exact H2.lf, ⟨ta, tc, by rw [c4, if_neg (by decide)]; exact t1, row_same t2 T24 (fun k hk => ⟨(t2.lt k hk).2, ?_⟩), fun d hd => by simp [t3 d hd]⟩, by rw [c4, if_neg (by decide)]; exact H2.rw, f4, ?_, ?_, H2.le, by show h.n + 1 ≤ 4; omega, H2.tw, H2.rk, H2.tl⟩, ?_, ?_⟩
  · show w4.ownsRow 0 T_host_Fn 1 (.slice a' (h.n + 1) c') (h.n + 1) (rowV fnC (upd fns h.n x) (h.n + 1))
    rw [rowV_upd]
    refine row_same ho3 S4 (fun k hk => ⟨(ho3.lt k hk).2, ?_⟩)
    simp
    rintro rfl
    rcases hf3 _ hk with q | q
    · exact nb (mem_obk.2 q)
    · omega
  · show FnAt w4 hb _ (upd h.k h.n k j) (upd fns h.n x j)
    unfold upd
    by_cases e : j = h.n
    · rw [if_pos e, if_pos e]
      exact (hx.same T24 (fun d hd => ⟨lF2 d hd, nob d hd⟩)).mono (fun d hd => by simp [hd])
    · rw [if_neg e, if_neg e]
      have q := b4 j (by have : j < h.n + 1 := hj; omega)
      rcases q with ⟨e1, tb, e2, e3, e4⟩ | q | q
      · refine .inl ⟨e1, tb, e2, by simp [e3], ?_⟩
        rw [T24.block tb (H2.lF tb e3) ?_]
        · exact e4
        · simp only [List.mem_cons]
          rintro (rfl | q)
          · exact H2.nF e3
          · obtain ⟨cu, q2⟩ := row_heap b2 (mem_obk.1 q)
            rw [e4] at q2
            injection q2 with q2
            injection q2 with q3 q4 q5
            exact absurd q4 (by decide)
      · exact .inr (.inl q)
      · exact .inr (.inr q)
  · simp only [List.mem_cons]
    rintro (rfl | q)
    · exact H2.nF (t3 _ hk)
    · exact (hne k hk).2 q
  · simp only [List.mem_append]
    rintro ((q | q) | q)
    · exact H2.nF q
    · exact nob _ q (by simp)
    · rcases hf3 _ (mem_obk.1 q) with q | q
      · exact nb (mem_obk.2 q)
      · omega
  · intro d hd
    simp only [List.mem_append] at hd
    rcases hd with (q | q) | q
    · have := H2.lF d q; omega
    · have := lF2 d q; omega
    · have := (ho3.lt d (mem_obk.1 q)).2; omega
  · have T2 : Same [] w.heap.size w w2 := S1.trans (S2.mono z1 (by simp))
    refine (T2.mono (Nat.le_refl _) (by simp)).trans (T24.mono T2.size (fun k hk hl => ?_))
    simp only [List.mem_cons] at hk ⊢
    rcases hk with rfl | q
    · exact .inl rfl
    · exact .inr (ob k q)
  · intro d hd
    simp only [List.mem_append] at hd
    rcases hd with (q | q) | q
    · exact .inl q
    · have := (hF2 d q).1; exact .inr (by omega)
    · rcases hf3 d (mem_obk.1 q) with q | q
      · exact .inl (ob d (mem_obk.2 q))
      · exact .inr (by omega)
end
end Go.Proofs.Qxb6500317aGreat
