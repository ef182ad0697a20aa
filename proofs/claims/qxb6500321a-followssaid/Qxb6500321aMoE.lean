/-
  The model's walk: its memory.
-/
import Derived.Test.Qxb6500321aMoD
import Derived.WalkSmall
set_option linter.unusedSimpArgs false
set_option linter.unusedVariables false
set_option maxRecDepth 100000
set_option linter.unusedSectionVars false
namespace Go.Proofs.Qxb6500321a
open Go Go.Vc

def insCl (x : Ins) : List Value := [.int .u8 x.op, .int .u32 x.x, .int .u64 x.y]
def insVs : List Ins → List Value
  | [] => []
  | x :: r => insCl x ++ insVs r
theorem insVs_app : ∀ (l : List Ins) (x : Ins), insVs (l ++ [x]) = insVs l ++ insCl x
  | [], x => by simp [insVs]
  | a :: r, x => by simp [insVs, insVs_app r x]
theorem insVs_len : ∀ l : List Ins, (insVs l).length = l.length * 3
  | [] => rfl
  | x :: r => by simp [insVs, insCl, insVs_len r]; omega
theorem insVs_get : ∀ (l : List Ins) (t : Nat) (x : Ins) (j : Nat), j < 3 → l[t]? = some x → (insVs l)[t * 3 + j]? = (insCl x)[j]?
  | [], t, x, j, hj, h => by cases h
  | a :: r, 0, x, j, hj, h => by
    have h : some a = some x := h
    cases h
    show (insCl a ++ insVs r)[_]? = _
    rw [Nat.zero_mul, Nat.zero_add, List.getElem?_append_left (by simp [insCl]; omega)]
  | a :: r, t + 1, x, j, hj, h => by
    show (insCl a ++ insVs r)[_]? = _
    rw [List.getElem?_append_right (by simp [insCl]; omega), show (t + 1) * 3 + j - (insCl a).length = t * 3 + j by simp [insCl]; omega]
    exact insVs_get r t x j hj h
def rsN (Sn : SS) (c : SC) : Ins := ⟨c.op, syX Sn c.s, c.y⟩
def ivs (f : Nat → Nat) : Nat → List Value
  | 0 => []
  | n + 1 => ivs f n ++ [.int .i64 (f n : Int)]
theorem ivs_get (f : Nat → Nat) : ∀ (n j : Nat), j < n → (ivs f n)[j]? = some (.int .i64 (f j : Int))
  | 0, j, h => by omega
  | n + 1, j, h => by
    have hl : ∀ n, (ivs f n).length = n := fun n => by induction n with
      | zero => rfl
      | succ n ih => simp [ivs, ih]
    show (ivs f n ++ [_])[j]? = _
    by_cases q : j < n
    · rw [List.getElem?_append_left (by rw [hl]; exact q)]; exact ivs_get f n j q
    · have : j = n := by omega
      subst this
      rw [List.getElem?_append_right (by rw [hl]; exact Nat.le_refl _), hl]
      simp
/-- The rows of the walk. -/
structure MW (M : Prop) (rs : SC → Ins) (w0 w : World) (A : List SC) (fs : List SF) (f : Nat → Nat) (ca : Option Addr) (cl cc : Nat) (wa : Option Addr) (wn wc : Nat) (fa : Option Addr) (fl fc : Nat) : Prop where
  sm : Same [] w0.heap.size w0 w
  cs : ∃ ls : List Ins, w.ownsRow w0.heap.size T_api_Ins 3 (.slice ca cl cc) cl (insVs ls) ∧ ls.length = cl ∧ (M → ls = A.map rs)
  cA : cl = A.length
  wh : w.ownsRow w0.heap.size T_int 1 (.slice wa wn wc) wn (ivs f wn)
  fr : w.ownsRow w0.heap.size T_prepm_frame 3 (.slice fa fl fc) fl (frVs fs)
  fA : fl = fs.length
section
variable {M : Prop} {rs : SC → Ins} {w0 w w' : World} {A : List SC} {fs : List SF} {f : Nat → Nat} {ca : Option Addr} {cl cc : Nat} {wa : Option Addr} {wn wc : Nat} {fa : Option Addr} {fl fc : Nat}
theorem MW.keep (h : MW M rs w0 w A fs f ca cl cc wa wn wc fa fl fc) (hs : Same [] w.heap.size w w') : MW M rs w0 w' A fs f ca cl cc wa wn wc fa fl fc := by
  obtain ⟨ls, c1, c2, c3⟩ := h.cs
  exact ⟨h.sm.nx hs, ⟨ls, row_keep c1 hs, c2, c3⟩, h.cA, row_keep h.wh hs, row_keep h.fr hs, h.fA⟩
theorem same_own {S : List Nat} (h : Same [] w0.heap.size w0 w) (hs : Same S w.heap.size w w') (hS : ∀ k, k ∈ S → w0.heap.size ≤ k) : Same [] w0.heap.size w0 w' :=
  h.trans (hs.mono h.size (fun k hk hlt => by have := hS k hk; omega))
theorem insCl_one (x : Ins) : ∀ u ∈ insCl x, u.oneCell' = true := by
  intro u hu
  simp [insCl] at hu
  rcases hu with rfl | rfl | rfl <;> rfl
theorem ne_obk {v v2 : Value} {e e2 : TypeId} {n n2 sz sz2 : Nat} {xs ys : List Value} (h1 : w.ownsRow w0.heap.size e sz v n xs) (h2 : w.ownsRow w0.heap.size e2 sz2 v2 n2 ys) (he : e ≠ e2) : ∀ k, v2.ownBlock = some k → k < w.heap.size ∧ k ∉ obk v :=
  fun k hk => ⟨(h2.lt k hk).2, fun hm => row_apart h1 h2 he (mem_obk.1 hm) hk⟩
/-- One cell more. -/
theorem MW.app (h : MW M rs w0 w A fs f ca cl cc wa wn wc fa fl fc) (x : Ins) (c : SC) (hx : M → x = rs c) (hl : cl < 900) {K : Option Addr → Nat → Nat → World → Prop}
    (hK : ∀ a' c' w2, MW M rs w0 w2 (A ++ [c]) fs f a' (cl + 1) c' wa wn wc fa fl fc → Same (obk (.slice ca cl cc)) w.heap.size w w2 → (∀ k, (Value.slice a' (cl + 1) c').ownBlock = some k → (Value.slice ca cl cc).ownBlock = some k ∨ w.heap.size ≤ k) → K a' (cl + 1) c' w2) :
    letB (Array.size (World.heap w)) fun b => letW (World.alloc w (.cells #[.int .u8 x.op, .int .u32 x.x, .int .u64 x.y] T_api_Ins)) fun w1 => ∃ x5 : Option Addr, ∃ x6 : Nat, ∃ x7 : Nat, ∃ w2, Sem.run Try.prog (Builtin.append_ #[T_sl_api_Ins, T_sl_api_Ins] T_sl_api_Ins #[(.slice ca cl cc), (.slice (some ⟨b, 0, none⟩) 1 1)]) w1 = .ok (.slice x5 x6 x7) w2 ∧ K x5 x6 x7 w2 := by
  refine letB_intro fun b hb => letW_intro fun w1 hw => ?_
  obtain ⟨ls, c1, c2, c3⟩ := h.cs
  obtain ⟨a', c', w2, hr, ho, hs, hf⟩ := row_app T_sl_api_Ins.el T_sl_api_Ins c1 (insCl x) rfl (insCl_one x) (by omega) (by omega) h.sm.size hb hw
  have hsm : Same [] w0.heap.size w0 w2 := same_own h.sm hs (fun k hk => (c1.lt k (mem_obk.1 hk)).1)
  refine ⟨a', _, c', w2, hr, hK a' c' w2 ⟨hsm, ⟨ls ++ [x], by rw [insVs_app]; exact ho, by simp [c2], fun m => by rw [c3 m, hx m]; simp⟩, by simp [h.cA], row_same h.wh hs (ne_obk c1 h.wh (by decide)), row_same h.fr hs (ne_obk c1 h.fr (by decide)), h.fA⟩ hs hf⟩
/-- One place more. -/
theorem MW.whr (h : MW M rs w0 w A fs f ca cl cc wa wn wc fa fl fc) (hf : (cl : Nat) = f wn) (hl : wn < 950) {K : Option Addr → Nat → Nat → World → Prop}
    (hK : ∀ a' c' w2, MW M rs w0 w2 A fs f ca cl cc a' (wn + 1) c' fa fl fc → K a' (wn + 1) c' w2) :
    letB (Array.size (World.heap w)) fun b => letW (World.alloc w (.cells #[.int .i64 ((cl : Nat) : Int)] T_int)) fun w1 => ∃ x5 : Option Addr, ∃ x6 : Nat, ∃ x7 : Nat, ∃ w2, Sem.run Try.prog (Builtin.append_ #[T_sl_int, T_sl_int] T_sl_int #[(.slice wa wn wc), (.slice (some ⟨b, 0, none⟩) 1 1)]) w1 = .ok (.slice x5 x6 x7) w2 ∧ K x5 x6 x7 w2 := by
  refine letB_intro fun b hb => letW_intro fun w1 hw => ?_
  obtain ⟨ls, c1, c2, c3⟩ := h.cs
  obtain ⟨a', c', w2, hr, ho, hs, _⟩ := row_app T_sl_int.el T_sl_int h.wh [.int .i64 ((cl : Nat) : Int)] rfl (by intro u hu; simp at hu; subst hu; rfl) (by omega) (by omega) h.sm.size hb hw
  have hsm : Same [] w0.heap.size w0 w2 := same_own h.sm hs (fun k hk => (h.wh.lt k (mem_obk.1 hk)).1)
  refine ⟨a', _, c', w2, hr, hK a' c' w2 ⟨hsm, ⟨ls, row_same c1 hs (ne_obk h.wh c1 (by decide)), c2, c3⟩, h.cA, ?_, row_same h.fr hs (ne_obk h.wh h.fr (by decide)), h.fA⟩⟩
  rw [hf] at ho
  exact ho
/-- One frame more. -/
theorem MW.frm (h : MW M rs w0 w A fs f ca cl cc wa wn wc fa fl fc) (g : SF) (o' fl' ar' : Int) (e1 : o' = (g.o : Int) - 1) (e2 : fl' = (g.fl : Int)) (e3 : ar' = (g.ar : Int)) (hl : fl < 900) {K : Option Addr → Nat → Nat → World → Prop}
    (hK : ∀ a' c' w2, MW M rs w0 w2 A (g :: fs) f ca cl cc wa wn wc a' (fl + 1) c' → K a' (fl + 1) c' w2) :
    letB (Array.size (World.heap w)) fun b => letW (World.alloc w (.cells #[.int .i64 o', .int .i64 fl', .int .i64 ar'] T_prepm_frame)) fun w1 => ∃ x5 : Option Addr, ∃ x6 : Nat, ∃ x7 : Nat, ∃ w2, Sem.run Try.prog (Builtin.append_ #[T_sl_prepm_frame, T_sl_prepm_frame] T_sl_prepm_frame #[(.slice fa fl fc), (.slice (some ⟨b, 0, none⟩) 1 1)]) w1 = .ok (.slice x5 x6 x7) w2 ∧ K x5 x6 x7 w2 := by
  refine letB_intro fun b hb => letW_intro fun w1 hw => ?_
  subst e1 e2 e3
  obtain ⟨ls, c1, c2, c3⟩ := h.cs
  obtain ⟨a', c', w2, hr, ho, hs, _⟩ := row_app T_sl_prepm_frame.el T_sl_prepm_frame h.fr (frV g) rfl (by intro u hu; simp [frV] at hu; rcases hu with rfl | rfl | rfl <;> rfl) (by omega) (by omega) h.sm.size hb hw
  have hsm : Same [] w0.heap.size w0 w2 := same_own h.sm hs (fun k hk => (h.fr.lt k (mem_obk.1 hk)).1)
  exact ⟨a', _, c', w2, hr, hK a' c' w2 ⟨hsm, ⟨ls, row_same c1 hs (ne_obk h.fr c1 (by decide)), c2, c3⟩, h.cA, row_same h.wh hs (ne_obk h.fr h.wh (by decide)), ho, by simp [h.fA]⟩⟩
/-- The top frame goes. -/
theorem MW.pop {g : SF} {r : List SF} (h : MW M rs w0 w A (g :: r) f ca cl cc wa wn wc fa fl fc) : ∃ gb, fa = some ⟨gb, 0, none⟩ ∧ fl = r.length + 1 ∧ fl ≤ fc ∧ MW M rs w0 w A r f ca cl cc wa wn wc fa r.length fc := by
  have hA := h.fA
  have hA : fl = r.length + 1 := hA
  subst hA
  obtain ⟨gb, rfl, _, _, hc, _⟩ := row_get h.fr (by omega)
  exact ⟨gb, rfl, rfl, hc, h.sm, h.cs, h.cA, h.wh, ownsRow_pop (frVs_len r) h.fr, rfl⟩
/-- A round: the instruction and the top frame lie copied. -/
structure RD (M : Prop) (rs : SC → Ins) (w0 w : World) (A : List SC) (fs : List SF) (f : Nat → Nat) (ca : Option Addr) (cl cc : Nat) (wa : Option Addr) (wn wc : Nat) (fa : Option Addr) (fl fc : Nat) (xb tb : Nat) (x : Ins) (g : SF) : Prop where
  m : MW M rs w0 w A fs f ca cl cc wa wn wc fa fl fc
  x : InsAt w xb x
  t : FAt w tb ((g.o : Int) - 1) (g.fl : Int) (g.ar : Int)
  n : ∀ k, (Value.slice ca cl cc).ownBlock = some k → k ≠ xb ∧ k ≠ tb
variable {xb tb : Nat} {x : Ins} {g : SF}
theorem InsAt.mv {b : Nat} {i : Ins} (h : InsAt w b i) {S : List Nat} {B : Nat} (hs : Same S B w w') (hb : b < B) (hS : b ∉ S) : InsAt w' b i :=
  ⟨by rw [hs.cell hb hS]; exact h.c0, by rw [hs.cell hb hS]; exact h.c1, by rw [hs.cell hb hS]; exact h.c2, fun j => by rw [hs.frozen hb hS]; exact h.f j⟩
theorem InsAt.ltA {b : Nat} {i : Ins} (h : InsAt w b i) : b < w.heap.size := cell_lt h.c0
theorem RD.keep (h : RD M rs w0 w A fs f ca cl cc wa wn wc fa fl fc xb tb x g) (hs : Same [] w.heap.size w w') : RD M rs w0 w' A fs f ca cl cc wa wn wc fa fl fc xb tb x g :=
  ⟨h.m.keep hs, h.x.mv hs h.x.ltA (by simp), h.t.same hs h.t.lt (by simp), h.n⟩
theorem RD.app (h : RD M rs w0 w A fs f ca cl cc wa wn wc fa fl fc xb tb x g) (y : Ins) (c : SC) (hx : M → y = rs c) (hl : cl < 900) {K : Option Addr → Nat → Nat → World → Prop}
    (hK : ∀ a' c' w2, RD M rs w0 w2 (A ++ [c]) fs f a' (cl + 1) c' wa wn wc fa fl fc xb tb x g → K a' (cl + 1) c' w2) :
    letB (Array.size (World.heap w)) fun b => letW (World.alloc w (.cells #[.int .u8 y.op, .int .u32 y.x, .int .u64 y.y] T_api_Ins)) fun w1 => ∃ x5 : Option Addr, ∃ x6 : Nat, ∃ x7 : Nat, ∃ w2, Sem.run Try.prog (Builtin.append_ #[T_sl_api_Ins, T_sl_api_Ins] T_sl_api_Ins #[(.slice ca cl cc), (.slice (some ⟨b, 0, none⟩) 1 1)]) w1 = .ok (.slice x5 x6 x7) w2 ∧ K x5 x6 x7 w2 := by
  refine h.m.app y c hx hl (fun a' c' w2 h2 hs hf => hK a' c' w2 ⟨h2, h.x.mv hs h.x.ltA (fun q => (h.n xb (mem_obk.1 q)).1 rfl), h.t.same hs h.t.lt (fun q => (h.n tb (mem_obk.1 q)).2 rfl), fun k hk => ?_⟩)
  have l1 := h.x.ltA; have l2 := h.t.lt
  rcases hf k hk with q | q
  · exact h.n k q
  · omega
end
/-- The body in memory. -/
structure WB (P : PM) (w : World) (fb kf nb bc : Nat) (ta : Option Addr) (tc : Nat) (B : BD) : Prop where
  c2 : w.cell? ⟨fb, kf * 4 + 2, none⟩ = some (.slice (some ⟨nb, 0, none⟩) B.n bc)
  I : InsRow w nb B.n B.ins
  c3 : w.cell? ⟨fb, kf * 4 + 3, none⟩ = some (.slice ta B.nt tc)
  tb : 0 < B.nt → ∃ tk, ta = some ⟨tk, 0, none⟩ ∧ ∀ j, j < B.nt → w.cell? ⟨tk, j, none⟩ = some (.int .u32 (B.tab j))
  n1 : 1 ≤ B.n
  n9 : B.n ≤ 900
  nt : B.nt ≤ 900
  xs : ∀ i, i < B.n → InsIn (B.ins i)
  ts : ∀ j, j < B.nt → 0 ≤ B.tab j ∧ B.tab j ≤ 4294967295
  ef : B.ef = effP P
  go : wfGo B.ins B.n B.nt B.n 0 0 (fun _ => false) 0
  ws : wsum B B.n ≤ 120
theorem WB.keep {P : PM} {w w' : World} {fb kf nb bc : Nat} {ta : Option Addr} {tc : Nat} {B : BD} (h : WB P w fb kf nb bc ta tc B) (hs : Same [] w.heap.size w w') : WB P w' fb kf nb bc ta tc B := by
  refine ⟨by rw [hs.cell (cell_lt h.c2) (by simp)]; exact h.c2, h.I.mv hs (h.I.ltn h.n1) (by simp), by rw [hs.cell (cell_lt h.c3) (by simp)]; exact h.c3, fun q => ?_, h.n1, h.n9, h.nt, h.xs, h.ts, h.ef, h.go, h.ws⟩
  obtain ⟨tk, e, ht⟩ := h.tb q
  exact ⟨tk, e, fun j hj => by rw [hs.cell (cell_lt (ht j hj)) (by simp)]; exact ht j hj⟩
theorem WB.okB {P : PM} {w : World} {fb kf nb bc : Nat} {ta : Option Addr} {tc : Nat} {B : BD} (h : WB P w fb kf nb bc ta tc B) : BOkB B := ⟨fun i hi => (h.xs i hi).x0, fun j hj => (h.ts j hj).1⟩
/-- What is known of the state ahead of instruction i. -/
structure PI (B : BD) (res i : Nat) (S : SS) : Prop where
  t : trS B res i = some S
  F : FrA B res i S
  W : WI B.ins B.n B.nt i S
  l : S.A.length ≤ wsum B i
  R : ∃ p, RI i S p
  f7 : S.fs.length ≤ 7
theorem f7_step {B : BD} {i : Nat} {S S' : SS} (hs : stepS B i S = some S') (h : S.fs.length ≤ 7) : S'.fs.length ≤ 7 := by
  cases stp_of hs using Stp.cs with
  | skip d h0 hd => exact h
  | pln A h' d h0 _ _ _ _ hA => exact h
  | opn f A h' h0 ho hf hl hA =>
    obtain ⟨f0, r, hfs⟩ := stp_ne h0 ho hs
    obtain ⟨g', e1, e2, e3, e4, e5, e6, e7⟩ := open_info hfs h0 ho hs
    show S.fs.length + 1 ≤ 7
    omega
  | trn f r ho hd hfs hc _ => rw [hfs] at h; exact h
  | sht f r ho hd hfs hn =>
    rw [hfs] at h
    have h : r.length + 1 ≤ 7 := h
    show r.length ≤ 7
    omega
theorem PI.step {B : BD} {res i : Nat} {S S' : SS} (h : PI B res i S) (hB : BOkB B) (hi : i < B.n) (hs : stepS B i S = some S') : PI B res (i + 1) S' := by
  obtain ⟨p, R⟩ := h.R
  exact ⟨by rw [trS_succ h.t]; exact hs, frA_step h.t h.F hs, wi_step h.W hi hs, len_step (hB.x i hi) hs h.l, ri_step R (hB.x i hi) hB.t hs, f7_step hs h.f7⟩
theorem PI.init {B : BD} {res : Nat} (hg : wfGo B.ins B.n B.nt B.n 0 0 (fun _ => false) 0) (hr : res ≤ 1024) : PI B res 0 (initS res) :=
  ⟨rfl, frA_init B res, wi_init hg, Nat.zero_le _, ⟨_, ri_init res hr⟩, by simp [initS]⟩
end Go.Proofs.Qxb6500321a
