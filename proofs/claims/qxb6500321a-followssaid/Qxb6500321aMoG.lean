/-
  The model's compiler.
-/
import Derived.Test.Qxb6500321aMoF
set_option linter.unusedSimpArgs false
set_option linter.unusedVariables false
set_option maxRecDepth 100000
set_option linter.unusedSectionVars false
set_option maxHeartbeats 1000000
namespace Go.Proofs.Qxb6500321a
open Go Go.Vc

section
variable {wd w w' : World} {L mb : Nat} {m : Nat → Value} {P : PM} {fb kf nb bc tc res al ac : Nat} {ta aa : Option Addr} {D : BD} {M : Prop} {Sn : SS}
/-- One play. -/
theorem mwalk_spec (PBk : PB P) (H : HM wd w L mb m P) (hb : WB P w fb kf nb bc ta tc D) (hres : res ≤ 1024) (hA : AD M w aa al D res Sn) :
    Runs Try.prog prepm_walk.id #[rp mb, .pointer (some ⟨fb, kf * 4, none⟩), .int .i64 (res : Int), .slice aa al ac] w (WQ M w D res Sn (goS D D.n 0 (initS res))) := by
  have n1 := hb.n1; have n9 := hb.n9
  generalize hz : goS D D.n 0 (initS res) = z
  refine prepm_walk.enter _ _ _ _ _ _ _ _ _ ?_
  unfold prepm_walk.V
  simp only [nilV_some]
  refine ⟨_, _, _, hb.c2, ?_⟩
  have e1 : IntKind.wrap .i64 (((D.n : Nat) : Int) + 1) = ((D.n + 1 : Nat) : Int) := by rw [wrap_i64 (by omega) (by omega)]; omega
  rw [e1]
  obtain ⟨w1, hm, ho, S1⟩ := make_own T_sl_int.el w w.heap.size (D.n + 1) .i64 .i64 (by omega) (by simp only [maxLen]; omega) (Nat.le_refl _)
  refine ⟨_, _, _, w1, hm, letB_intro fun b15 hb15 => letW_intro fun w2 hw2 => ?_⟩
  have z1 := S1.size
  have S2 : Same [] w1.heap.size w1 w2 := by rw [hw2]; exact (Same.refl _ _ _).alloc (Nat.le_refl _) _
  have mw : MW M (rsN Sn) w w2 (initS res).A (initS res).fs (wl D res) none 0 0 (some ⟨w.heap.size, 0, none⟩) 0 (D.n + 1) (some ⟨b15, 0, none⟩) 1 1 := by
    refine ⟨S1.nx S2, ⟨[], World.ownsRow_nil _ _ _ _, rfl, fun _ => rfl⟩, rfl, row_keep ho S2, ⟨rfl, .inr ⟨b15, 1, #[.int .i64 (-1), .int .i64 0, .int .i64 (res : Int)], rfl, by omega, by rw [hw2, hb15]; exact Array.getElem?_push_size .., by omega, by simp only [maxLen]; omega, rfl, rfl⟩⟩, rfl⟩
  exact mwalk_loop PBk H hb hres hA D.n 0 (initS res) w2 none 0 0 _ _ _ _ _ (by omega) mw (PI.init hb.go hres) hz.symm
end
theorem pi_tr {B : BD} {res : Nat} (hg : wfGo B.ins B.n B.nt B.n 0 0 (fun _ => false) 0) (hr : res ≤ 1024) (hB : BOkB B) : ∀ (j : Nat) (S : SS), j ≤ B.n → trS B res j = some S → PI B res j S
  | 0, S, _, h => by
    have h : some (initS res) = some S := h
    cases h
    exact PI.init hg hr
  | j + 1, S, hj, h => by
    obtain ⟨S0, h0⟩ := trS_pre 1 j h
    have := pi_tr hg hr hB j S0 (by omega) h0
    rw [trS_succ h0] at h
    exact this.step hB (by omega) h
theorem m2_of {P : PM} {w : World} {fb kf nb bc tc res : Nat} {ta : Option Addr} {D : BD} {S : SS} (hb : WB P w fb kf nb bc ta tc D) (hr : res ≤ 1024) (hg : goS D D.n 0 (initS res) = .inr S) : M2 D res S := by
  obtain ⟨h1, h2⟩ := go_tr D.n 0 (initS res) S rfl hg
  rw [Nat.zero_add] at h1
  refine ⟨hb.okB, hr, h1, h2, fun j hj => ?_⟩
  obtain ⟨Sj, hj'⟩ := trS_pre (D.n - j) j (show trS D res (j + (D.n - j)) = some S by rw [show j + (D.n - j) = D.n by omega]; exact h1)
  rw [wl_of hj']
  have p := (pi_tr hb.go hr hb.okB j Sj hj hj').l
  have q := wsum_mono D (D.n - j) j
  rw [show j + (D.n - j) = D.n by omega] at q
  have := hb.ws
  omega
theorem wb_of {P : PM} (W : WFP P) {w : World} {base fb k : Nat} (row : FnRow w base fb P.nf P.nf P.fn) (hk : k < P.nf) : ∃ nb ta tc, WB P w fb k nb (P.fn k).nI ta tc (bdOf P (P.fn k)) := by
  obtain ⟨nb, c2, I, _⟩ := row.c2 k hk
  have F := W.fn k hk
  have B := F.b
  obtain ⟨ws, n1⟩ := wf_room W k hk
  have b1 := B.nI; have b2 := B.nT
  rcases row.c3 k hk with ⟨t0, t1⟩ | ⟨t0, tk, t1, T, _⟩
  · exact ⟨nb, none, 0, c2, I, by show w.cell? ⟨fb, k * 4 + 3, none⟩ = some (Value.slice none (P.fn k).nTab 0); rw [t0]; exact t1, fun q => absurd q (by show ¬ 0 < (P.fn k).nTab; omega), n1, (by show (P.fn k).nI ≤ 900; omega), (by show (P.fn k).nTab ≤ 900; omega), fun i hi => B.ins i hi, fun j hj => B.tabs j hj, rfl, F.go, ws⟩
  · exact ⟨nb, _, _, c2, I, t1, fun _ => ⟨tk, rfl, fun j hj => T.1 j hj⟩, n1, (by show (P.fn k).nI ≤ 900; omega), (by show (P.fn k).nTab ≤ 900; omega), fun i hi => B.ins i hi, fun j hj => B.tabs j hj, rfl, F.go, ws⟩

/-! ### Code with room to spare -/
structure CdM (w : World) (ok : Nat → Prop) (cdb : Nat) (fs : List FF) : Prop where
  lb : ok cdb
  ex : ∃ fa c, w.cell? ⟨cdb, 0, none⟩ = some (.slice fa fs.length c) ∧ (fs ≠ [] → ∃ fb, fa = some ⟨fb, 0, none⟩ ∧ ok fb ∧ ∀ (j : Nat) (f : FF), fs[j]? = some f → w.cell? ⟨fb, j * 4, none⟩ = some (.int .i64 (f.pa : Int)) ∧ w.cell? ⟨fb, j * 4 + 1, none⟩ = some (.int .i64 (f.lo : Int)) ∧ w.cell? ⟨fb, j * 4 + 2, none⟩ = some (.int .i64 (f.re : Int)) ∧
    ∃ ca nc, w.cell? ⟨fb, j * 4 + 3, none⟩ = some (.slice ca f.cells.length nc) ∧ (f.cells.length ≠ 0 → ∃ nb, ca = some ⟨nb, 0, none⟩ ∧ ok nb ∧ InsRow w nb f.cells.length (fun q => f.cells.getD q z0)))
theorem CdM.same {w w' : World} {ok : Nat → Prop} {cdb : Nat} {fs : List FF} (h : CdM w ok cdb fs) {S : List Nat} {B : Nat} (hs : Same S B w w') (hB : w.heap.size ≤ B) (hS : ∀ k, k ∈ S → ¬ ok k) : CdM w' ok cdb fs := by
  obtain ⟨lb, fa, c, h1, h2⟩ := h
  have e : ∀ (b j : Nat) (v : Value), ok b → w.cell? ⟨b, j, none⟩ = some v → w'.cell? ⟨b, j, none⟩ = some v := fun b j v hb hv => by
    have lt : b < w.heap.size := cell_lt hv
    rw [hs.cell (p := ⟨b, j, none⟩) (by show b < B; omega) (fun g => hS b g hb)]; exact hv
  refine ⟨lb, fa, c, e _ _ _ lb h1, fun hf => ?_⟩
  obtain ⟨fb, h3, h4, h5⟩ := h2 hf
  refine ⟨fb, h3, h4, fun j f hj => ?_⟩
  obtain ⟨a1, a2, a3, ca, nc, a4, a5⟩ := h5 j f hj
  refine ⟨e _ _ _ h4 a1, e _ _ _ h4 a2, e _ _ _ h4 a3, ca, nc, e _ _ _ h4 a4, fun hl => ?_⟩
  obtain ⟨nb, b1, b2, b3⟩ := a5 hl
  have lt := b3.ltn (by omega)
  exact ⟨nb, b1, b2, b3.mv hs (by omega) (fun g => hS nb g b2)⟩
theorem CdM.weak {w : World} {ok ok' : Nat → Prop} {cdb : Nat} {fs : List FF} (h : CdM w ok cdb fs) (hb : ∀ k, ok k → k < w.heap.size → ok' k) : CdM w ok' cdb fs := by
  obtain ⟨lb, fa, c, h1, h2⟩ := h
  refine ⟨hb _ lb (cell_lt h1), fa, c, h1, fun hf => ?_⟩
  obtain ⟨fb, h3, h4, h5⟩ := h2 hf
  refine ⟨fb, h3, hb _ h4 ?_, fun j f hj => ?_⟩
  · obtain ⟨f, hf'⟩ : ∃ f, fs[0]? = some f := ⟨_, List.getElem?_eq_getElem (List.length_pos_iff.2 hf)⟩
    exact cell_lt (h5 0 f hf').1
  · obtain ⟨a1, a2, a3, ca, nc, a4, a5⟩ := h5 j f hj
    refine ⟨a1, a2, a3, ca, nc, a4, fun hl => ?_⟩
    obtain ⟨nb, b1, b2, b3⟩ := a5 hl
    exact ⟨nb, b1, hb _ b2 (b3.ltn (by omega)), b3⟩
theorem CdM.drew {w : World} {ok : Nat → Prop} {cdb : Nat} {fs : List FF} (h : CdM w ok cdb fs) : CdM w.drew ok cdb fs := h.same (Same.refl [] w.heap.size w).drew (Nat.le_refl _) (by simp)
theorem CdAt.toM {w : World} {base cdb : Nat} {fs : List FF} (h : CdAt w base cdb fs) : CdM w (base ≤ ·) cdb fs := by
  rcases h with ⟨h1, h2, h3⟩ | ⟨h1, fb, h2⟩
  · subst h1
    exact ⟨h3, none, 0, h2, fun q => absurd rfl q⟩
  · obtain ⟨b1, b2, b3, b4, b5⟩ := h2.b1
    refine ⟨b1, _, _, h2.c0, fun _ => ⟨fb, rfl, b2, fun j f hj => ?_⟩⟩
    obtain ⟨a1, a2, a3, nb, a4, a5, a6, _⟩ := h2.r0 j f hj
    exact ⟨a1, a2, a3, _, _, a4, fun _ => ⟨nb, rfl, a6, a5⟩⟩
/-- A function of the code, with its slice. -/
abbrev FS := FF × Option Addr × Nat
def ffV (t : FS) : List Value := [.int .i64 (t.1.pa : Int), .int .i64 (t.1.lo : Int), .int .i64 (t.1.re : Int), .slice t.2.1 t.1.cells.length t.2.2]
def ffVs : List FS → List Value
  | [] => []
  | t :: r => ffV t ++ ffVs r
theorem ffVs_app : ∀ (l : List FS) (t : FS), ffVs (l ++ [t]) = ffVs l ++ ffV t
  | [], t => by simp [ffVs]
  | a :: r, t => by simp [ffVs, ffVs_app r t]
theorem ffVs_get : ∀ (l : List FS) (t : Nat) (x : FS) (j : Nat), j < 4 → l[t]? = some x → (ffVs l)[t * 4 + j]? = (ffV x)[j]?
  | [], t, x, j, hj, h => by cases h
  | a :: r, 0, x, j, hj, h => by
    have h : some a = some x := h
    cases h
    show (ffV a ++ ffVs r)[_]? = _
    rw [Nat.zero_mul, Nat.zero_add, List.getElem?_append_left (by simp [ffV]; omega)]
  | a :: r, t + 1, x, j, hj, h => by
    show (ffV a ++ ffVs r)[_]? = _
    rw [List.getElem?_append_right (by simp [ffV]; omega), show (t + 1) * 4 + j - (ffV a).length = t * 4 + j by simp [ffV]; omega]
    exact ffVs_get r t x j hj h
theorem row_ins {w : World} {base : Nat} {ca : Option Addr} {n cc : Nat} {ls : List Ins} (h : w.ownsRow base T_api_Ins 3 (.slice ca n cc) n (insVs ls)) (hl : ls.length = n) (h0 : n ≠ 0) : ∃ nb, ca = some ⟨nb, 0, none⟩ ∧ base ≤ nb ∧ InsRow w nb n (fun q => ls.getD q z0) := by
  obtain ⟨nb, rfl, b1, b2, _, hc⟩ := row_get h h0
  obtain ⟨cur, hh⟩ := row_heap h (g := nb) rfl
  have g : ∀ j, j < n → ls[j]? = some (ls.getD j z0) := fun j hj => by
    rw [List.getD_eq_getElem?_getD, List.getElem?_eq_getElem (by omega)]; rfl
  refine ⟨nb, rfl, b1, fun j hj => hc _ _ (insVs_get ls j _ 0 (by omega) (g j hj)), fun j hj => hc _ _ (insVs_get ls j _ 1 (by omega) (g j hj)), fun j hj => hc _ _ (insVs_get ls j _ 2 (by omega) (g j hj)), fun j => ?_⟩
  simp [World.frozen?, hh]
structure CM (w0 w : World) (cdb : Nat) (fa : Option Addr) (fl fc : Nat) (acc : List FS) : Prop where
  sm : Same [] w0.heap.size w0 w
  cb : w0.heap.size ≤ cdb
  c0 : w.cell? ⟨cdb, 0, none⟩ = some (.slice fa fl fc)
  cf : w.frozen? ⟨cdb, 0, none⟩ = false
  row : w.ownsRow w0.heap.size T_api_FlatFunc 4 (.slice fa fl fc) fl (ffVs acc)
  fL : fl = acc.length
  rn : ∀ k, (Value.slice fa fl fc).ownBlock = some k → k ≠ cdb
  cs : ∀ t, t ∈ acc → w.ownsRow w0.heap.size T_api_Ins 3 (.slice t.2.1 t.1.cells.length t.2.2) t.1.cells.length (insVs t.1.cells) ∧ ∀ k, (Value.slice t.2.1 t.1.cells.length t.2.2).ownBlock = some k → k ≠ cdb
section
variable {w0 w w' : World} {cdb : Nat} {fa : Option Addr} {fl fc : Nat} {acc : List FS}
theorem CM.keep (h : CM w0 w cdb fa fl fc acc) (hs : Same [] w.heap.size w w') : CM w0 w' cdb fa fl fc acc := by
  have lt : cdb < w.heap.size := cell_lt h.c0
  exact ⟨h.sm.nx hs, h.cb, by rw [hs.cell (p := ⟨cdb, 0, none⟩) lt (by simp)]; exact h.c0, by rw [hs.frozen (p := ⟨cdb, 0, none⟩) lt (by simp)]; exact h.cf, row_keep h.row hs, h.fL, h.rn, fun t ht => ⟨row_keep (h.cs t ht).1 hs, (h.cs t ht).2⟩⟩
theorem CM.out (h : CM w0 w cdb fa fl fc acc) : CdM w (w0.heap.size ≤ ·) cdb (acc.map (·.1)) := by
  refine ⟨h.cb, fa, fc, by rw [h.c0, h.fL]; simp, fun hf => ?_⟩
  have hl : acc.length ≠ 0 := by intro z; apply hf; rw [List.length_eq_zero_iff.1 z]; rfl
  have hfl := h.fL
  obtain ⟨fb, rfl, b1, _, _, hc⟩ := row_get h.row (by omega)
  refine ⟨fb, rfl, b1, fun j f hj => ?_⟩
  rw [List.getElem?_map] at hj
  cases ha : acc[j]? with
  | none => rw [ha] at hj; cases hj
  | some t =>
    rw [ha] at hj
    have hj : some t.1 = some f := hj
    cases hj
    have mem : t ∈ acc := List.mem_of_getElem? ha
    refine ⟨hc _ _ (ffVs_get acc j t 0 (by omega) ha), hc _ _ (ffVs_get acc j t 1 (by omega) ha), hc _ _ (ffVs_get acc j t 2 (by omega) ha), _, _, hc _ _ (ffVs_get acc j t 3 (by omega) ha), fun hn => ?_⟩
    exact row_ins (h.cs t mem).1 rfl hn
/-- One function more. -/
theorem CM.app (h : CM w0 w cdb fa fl fc acc) (t : FS) (ht : w.ownsRow w0.heap.size T_api_Ins 3 (.slice t.2.1 t.1.cells.length t.2.2) t.1.cells.length (insVs t.1.cells)) (hn : ∀ k, (Value.slice t.2.1 t.1.cells.length t.2.2).ownBlock = some k → k ≠ cdb) (hl : fl < 900) {b : Nat} {w1 : World} (hb : b = w.heap.size) (hw : w1 = w.alloc (.cells #[.int .i64 (t.1.pa : Int), .int .i64 (t.1.lo : Int), .int .i64 (t.1.re : Int), .slice t.2.1 t.1.cells.length t.2.2] T_api_FlatFunc)) {K : World → Prop}
    (hK : ∀ w2 a' c', CM w0 w2 cdb a' (fl + 1) c' (acc ++ [t]) → K w2) :
    ∃ x5 : Option Addr, ∃ x6 : Nat, ∃ x7 : Nat, ∃ w2, Sem.run Try.prog (Builtin.append_ #[T_sl_api_FlatFunc, T_sl_api_FlatFunc] T_sl_api_FlatFunc #[(.slice fa fl fc), (.slice (some ⟨b, 0, none⟩) 1 1)]) w1 = .ok (.slice x5 x6 x7) w2 ∧ (can w2 ⟨cdb, 0, none⟩ ∧ letW (World.setCell w2 ⟨cdb, 0, none⟩ (.slice x5 x6 x7)) K) := by
  obtain ⟨a', c', w2, hr, ho, hs, hf⟩ := row_app T_sl_api_FlatFunc.el T_sl_api_FlatFunc h.row (ffV t) rfl (by intro u hu; simp [ffV] at hu; rcases hu with rfl | rfl | rfl | rfl <;> rfl) (by omega) (by omega) h.sm.size hb hw
  have lt : cdb < w.heap.size := cell_lt h.c0
  have nin : cdb ∉ obk (.slice fa fl fc) := fun q => h.rn _ (mem_obk.1 q) rfl
  have hsm : Same [] w0.heap.size w0 w2 := same_own h.sm hs (fun k hk => (h.row.lt k (mem_obk.1 hk)).1)
  have c2 : w2.cell? ⟨cdb, 0, none⟩ = some (.slice fa fl fc) := by rw [hs.cell (p := ⟨cdb, 0, none⟩) lt nin]; exact h.c0
  have f2 : w2.frozen? ⟨cdb, 0, none⟩ = false := by rw [hs.frozen (p := ⟨cdb, 0, none⟩) lt nin]; exact h.cf
  refine ⟨a', _, c', w2, hr, ⟨⟨_, c2⟩, f2⟩, letW_intro fun w3 hw3 => hK w3 a' c' ?_⟩
  have S23 : Same [cdb] w2.heap.size w2 w3 := by rw [hw3]; exact (Same.refl _ _ _).setCell (.inr (by simp)) _
  have l2 := hs.size
  have rn2 : ∀ k, (Value.slice a' (fl + 1) c').ownBlock = some k → k ≠ cdb := fun k hk => by
    rcases hf k hk with q | q
    · exact h.rn k q
    · omega
  have k2 : ∀ t', w.ownsRow w0.heap.size T_api_Ins 3 (.slice t'.2.1 t'.1.cells.length t'.2.2) t'.1.cells.length (insVs t'.1.cells) → (∀ k, (Value.slice t'.2.1 t'.1.cells.length t'.2.2).ownBlock = some k → k ≠ cdb) → w3.ownsRow w0.heap.size T_api_Ins 3 (.slice (t' : FS).2.1 t'.1.cells.length t'.2.2) t'.1.cells.length (insVs t'.1.cells) := fun t' h1 h2 => by
    have r2 := row_same h1 hs (ne_obk h.row h1 (by decide))
    exact row_same r2 S23 (fun k hk => ⟨(r2.lt k hk).2, by simp; exact h2 k hk⟩)
  refine ⟨same_own hsm S23 (by simp; exact h.cb), h.cb, by rw [hw3, cell_setCell, if_pos ⟨rfl, rfl⟩, c2]; rfl, by rw [hw3, World.frozen?_setCell]; exact f2, ?_, by simp [h.fL], rn2, fun t' ht' => ?_⟩
  · rw [ffVs_app]
    exact row_same ho S23 (fun k hk => ⟨(ho.lt k hk).2, by simp; exact rn2 k hk⟩)
  · rcases List.mem_append.1 ht' with q | q
    · exact ⟨k2 t' (h.cs t' q).1 (h.cs t' q).2, (h.cs t' q).2⟩
    · simp at q
      subst q
      exact ⟨k2 t' ht hn, hn⟩
end
end Go.Proofs.Qxb6500321a
