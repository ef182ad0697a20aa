/-
  The machine: adopt.
-/
import Derived.Test.Qxb6500317aGreatExB
set_option linter.unusedSimpArgs false
set_option linter.unusedVariables false
set_option maxRecDepth 100000
set_option linter.unusedSectionVars false
set_option maxHeartbeats 2000000
namespace Go.Proofs.Qxb6500317aGreat
open Go Go.Vc

theorem sigE_len (g : Nat → Int) : (sigE g).length = 6 := rfl
theorem sigE_one (g : Nat → Int) : ∀ u ∈ sigE g, u.oneCell' = true := by
  intro u hu
  simp [sigE] at hu
  rcases hu with rfl | rfl | rfl | rfl | rfl | rfl <;> rfl
/-- A machine that adopts: n types and k functions are packed. -/
structure AS (W w0 w : World) (A : XA) (F : List Nat) (ms : M.MS) (h : HS) (S fr : Nat → Int) (mb cdb : Nat) (n7 n8 : Nat) (f7 f8 : Nat → Nat → Int) (a7 : Option Addr) (c7 : Nat) (a8 : Option Addr) (c8 : Nat) : Prop where
  X : XB W w A F ms h S fr
  H : X58 w A.xb (rp mb) (rp cdb) (.slice a7 n7 c7) (.slice a8 n8 c8)
  r7 : w.ownsRow w0.heap.size T_exec_sig 6 (.slice a7 n7 c7) n7 (rowV sigE f7 n7)
  r8 : w.ownsRow w0.heap.size T_exec_sig 6 (.slice a8 n8 c8) n8 (rowV sigE f8 n8)
  ap : ∀ k, (Value.slice a7 n7 c7).ownBlock = some k → (Value.slice a8 n8 c8).ownBlock ≠ some k
  fF : ∀ d, d ∈ F → d < w0.heap.size
  z6 : A.n6 ≤ w0.heap.size
  S0 : Same [A.xb] w0.heap.size w0 w
section
variable {W w0 w w' : World} {A : XA} {F : List Nat} {ms : M.MS} {h : HS} {S fr : Nat → Int} {mb cdb n7 n8 : Nat} {f7 f8 : Nat → Nat → Int} {a7 a8 : Option Addr} {c7 c8 : Nat}
theorem AS.keep (a : AS W w0 w A F ms h S fr mb cdb n7 n8 f7 f8 a7 c7 a8 c8) (hs : Same [] w.heap.size w w') : AS W w0 w' A F ms h S fr mb cdb n7 n8 f7 f8 a7 c7 a8 c8 := by
  obtain ⟨_, _, _, _, _, ⟨k1, k2, x1, x2, ne⟩, lt, z0⟩ := a.X.zone
  exact ⟨a.X.keep hs, a.H.same hs (by omega) (by simp), row_keep a.r7 hs, row_keep a.r8 hs, a.ap, a.fF, a.z6, a.S0.trans (hs.mono a.S0.size (by simp))⟩
/-- One sig more, in the types' row. -/
theorem AS.add7 (a : AS W w0 w A F ms h S fr mb cdb n7 n8 f7 f8 a7 c7 a8 c8) (hn : n7 < 100) (g : Nat → Int) (K : World → Prop) (hK : ∀ w' a' c', AS W w0 w' A F ms h S fr mb cdb (n7 + 1) n8 (upd f7 n7 g) f8 a' c' a8 c8 → K w') {b : Nat} {w1 : World} (hb : b = w.heap.size) (hw : w1 = w.alloc (.cells (sigE g).toArray T_exec_sig)) :
    ∃ (x : Option Addr) (y z : Nat) (w2 : World), Sem.run Tryz.prog (Builtin.append_ #[T_sl_exec_sig, T_sl_exec_sig] T_sl_exec_sig #[.slice a7 n7 c7, .slice (some ⟨b, 0, none⟩) 1 1]) w1 = .ok (.slice x y z) w2 ∧ ((can w2 ⟨A.xb, 7, none⟩ ∧ letW (World.setCell w2 ⟨A.xb, 7, none⟩ (.slice x y z)) fun w3 => K w3) ∧ True) := by
  obtain ⟨_, _, _, _, _, ⟨k1, k2, x1, x2, ne⟩, lt, z0⟩ := a.X.zone
  obtain ⟨a', c', w2, hr, ho, hS, hf⟩ := row_app T_sl_exec_sig.el T_sl_exec_sig a.r7 (sigE g) rfl (sigE_one g) (by omega) (by omega) a.S0.size hb hw
  have sz := a.S0.size
  have hz : ∀ k, k ∈ obk (Value.slice a7 n7 c7) → w0.heap.size ≤ k := fun k hk => (a.r7.lt k (mem_obk.1 hk)).1
  have X2 : XB W w2 A F ms h S fr := a.X.mv hS (fun k hk => ⟨by have := hz k hk; have := a.z6; omega, fun g => by have := a.fF k g; have := hz k hk; omega⟩)
  have H2 := a.H.same hS (by omega) (fun g => by have := hz _ g; have := a.z6; omega)
  refine ⟨a', n7 + 1, c', w2, hr, ⟨(X2.nofz H2).2.2.1, letW_intro fun w3 hw3 => hK w3 a' c' ?_⟩, trivial⟩
  have X3 : XB W w3 A F ms h S fr := by rw [hw3]; exact X2.setV (i := 7) (by omega) _
  have H3 := H2.set7 (.slice a' (n7 + 1) c')
  rw [← hw3] at H3
  have z2 := hS.size
  have Q : Same [A.xb] w2.heap.size w2 w3 := by rw [hw3]; exact (Same.refl _ _ _).setCell (.inr (by simp)) _
  have low : ∀ k, (Value.slice a' (n7 + 1) c').ownBlock = some k → w0.heap.size ≤ k := fun k hk => (ho.lt k hk).1
  refine ⟨X3, H3, ?_, ?_, fun k hk => ?_, a.fF, a.z6, ?_⟩
  · rw [rowV_upd]
    exact row_same ho Q (fun k hk => ⟨(ho.lt k hk).2, by have := low k hk; have := a.z6; simp; omega⟩)
  · have r8' := row_same a.r8 hS (fun k hk => ⟨(a.r8.lt k hk).2, fun g => a.ap k (mem_obk.1 g) hk⟩)
    exact row_same r8' Q (fun k hk => ⟨(r8'.lt k hk).2, by have := (a.r8.lt k hk).1; have := a.z6; simp; omega⟩)
  · rcases hf k hk with g | g
    · exact a.ap k g
    · intro e; have := (a.r8.lt k e).2; omega
  · refine a.S0.trans ((hS.mono sz (fun k hk hl => by have := hz k hk; omega)).trans (Q.mono (by omega) (fun _ h _ => h)))
/-- One sig more, in the functions' row. -/
theorem AS.add8 (a : AS W w0 w A F ms h S fr mb cdb n7 n8 f7 f8 a7 c7 a8 c8) (hn : n8 < 100) (g : Nat → Int) (K : World → Prop) (hK : ∀ w' a' c', AS W w0 w' A F ms h S fr mb cdb n7 (n8 + 1) f7 (upd f8 n8 g) a7 c7 a' c' → K w') {b : Nat} {w1 : World} (hb : b = w.heap.size) (hw : w1 = w.alloc (.cells (sigE g).toArray T_exec_sig)) :
    ∃ (x : Option Addr) (y z : Nat) (w2 : World), Sem.run Tryz.prog (Builtin.append_ #[T_sl_exec_sig, T_sl_exec_sig] T_sl_exec_sig #[.slice a8 n8 c8, .slice (some ⟨b, 0, none⟩) 1 1]) w1 = .ok (.slice x y z) w2 ∧ ((can w2 ⟨A.xb, 8, none⟩ ∧ letW (World.setCell w2 ⟨A.xb, 8, none⟩ (.slice x y z)) fun w3 => K w3) ∧ True) := by
  obtain ⟨_, _, _, _, _, ⟨k1, k2, x1, x2, ne⟩, lt, z0⟩ := a.X.zone
  obtain ⟨a', c', w2, hr, ho, hS, hf⟩ := row_app T_sl_exec_sig.el T_sl_exec_sig a.r8 (sigE g) rfl (sigE_one g) (by omega) (by omega) a.S0.size hb hw
  have sz := a.S0.size
  have hz : ∀ k, k ∈ obk (Value.slice a8 n8 c8) → w0.heap.size ≤ k := fun k hk => (a.r8.lt k (mem_obk.1 hk)).1
  have X2 : XB W w2 A F ms h S fr := a.X.mv hS (fun k hk => ⟨by have := hz k hk; have := a.z6; omega, fun g => by have := a.fF k g; have := hz k hk; omega⟩)
  have H2 := a.H.same hS (by omega) (fun g => by have := hz _ g; have := a.z6; omega)
  refine ⟨a', n8 + 1, c', w2, hr, ⟨(X2.nofz H2).2.2.2, letW_intro fun w3 hw3 => hK w3 a' c' ?_⟩, trivial⟩
  have X3 : XB W w3 A F ms h S fr := by rw [hw3]; exact X2.setV (i := 8) (by omega) _
  have H3 := H2.set8 (.slice a' (n8 + 1) c')
  rw [← hw3] at H3
  have z2 := hS.size
  have Q : Same [A.xb] w2.heap.size w2 w3 := by rw [hw3]; exact (Same.refl _ _ _).setCell (.inr (by simp)) _
  have low : ∀ k, (Value.slice a' (n8 + 1) c').ownBlock = some k → w0.heap.size ≤ k := fun k hk => (ho.lt k hk).1
  refine ⟨X3, H3, ?_, ?_, fun k hk => ?_, a.fF, a.z6, ?_⟩
  · have r7' := row_same a.r7 hS (fun k hk => ⟨(a.r7.lt k hk).2, fun g => a.ap k hk (mem_obk.1 g)⟩)
    exact row_same r7' Q (fun k hk => ⟨(r7'.lt k hk).2, by have := (a.r7.lt k hk).1; have := a.z6; simp; omega⟩)
  · rw [rowV_upd]
    exact row_same ho Q (fun k hk => ⟨(ho.lt k hk).2, by have := low k hk; have := a.z6; simp; omega⟩)
  · intro e
    rcases hf k e with g | g
    · exact a.ap k hk g
    · have := (a.r7.lt k hk).2; omega
  · refine a.S0.trans ((hS.mono sz (fun k hk hl => by have := hz k hk; omega)).trans (Q.mono (by omega) (fun _ h _ => h)))

/-- The sig of function i: of the types tys, the function's type is ft i. -/
def fsG (P : PM) (i : Nat) : Nat → Int := packG (P.ty (if i < P.nIm then (P.im i).ty else (P.fn (i - P.nIm)).ty).toNat)
theorem AS.sig (a : AS W w0 w A F ms h S fr mb cdb n7 n8 f7 f8 a7 c7 a8 c8) {j : Nat} (hj : j < n7) : ∃ b, a7 = some ⟨b, 0, none⟩ ∧ ∀ k, k < 6 → w.cell? ⟨b, j * 6 + k, none⟩ = some (.int .u8 (f7 j k)) := by
  obtain ⟨b, e, _, _, hc⟩ := row_at sigE_len a.r7 hj
  refine ⟨b, e, fun k hk => hc k _ ?_⟩
  have : k = 0 ∨ k = 1 ∨ k = 2 ∨ k = 3 ∨ k = 4 ∨ k = 5 := by omega
  rcases this with rfl | rfl | rfl | rfl | rfl | rfl <;> rfl
theorem sig_al (g : Nat → Int) : #[(Value.int .u8 (g 0)), (.int .u8 (g 1)), (.int .u8 (g 2)), (.int .u8 (g 3)), (.int .u8 (g 4)), (.int .u8 (g 5))] = (sigE g).toArray := rfl
theorem adopt_spec {wd : World} {L : Nat} {m : Nat → Value} {P : PM} (X : XB W w A F ms h S fr) (E : XE w A.xb) (H : HM wd w L mb m P) (B : PB P) (lx : A.n6 ≤ L) (ti : ∀ i, i < P.nIm → 0 ≤ (P.im i).ty ∧ (P.im i).ty < P.nTy) (tf : ∀ i, i < P.nf → 0 ≤ (P.fn i).ty ∧ (P.fn i).ty < P.nTy) :
    Runs Tryz.prog exec_Exec_adopt.id #[rp A.xb, rp mb, rp cdb] w fun v w' => v = .tuple #[] ∧ ∃ f7 f8 a7 c7 a8 c8, AS W w w' A F ms h S fr mb cdb P.nTy (P.nIm + P.nf) f7 f8 a7 c7 a8 c8 ∧ ∀ i, i < P.nIm + P.nf → f8 i = fsG P i := by
  obtain ⟨_, _, _, _, _, ⟨k1, k2, x1, x2, ne⟩, lt, z0⟩ := X.zone
  have bty := B.nTy; have bim := B.nIm; have bnf := B.nf
  refine exec_Exec_adopt.enter _ _ _ _ _ _ ?_
  unfold exec_Exec_adopt.V
  refine ⟨(X.nofz E).1, letW_intro fun w5 hw5 => ?_⟩
  have X5 : XB W w5 A F ms h S fr := by rw [hw5]; exact X.setV (i := 5) (by omega) _
  have H5 := X58.set5 E (rp mb)
  have S5 : Same [A.xb] w.heap.size w w5 := by rw [hw5]; exact (Same.refl _ _ _).setCell (.inr (by simp)) _
  have hw5' : w5 = w.setCell ⟨A.xb, 5, none⟩ (rp mb) := hw5
  rw [← hw5'] at H5
  refine ⟨(X5.nofz H5).2.1, letW_intro fun w7 hw7 => ?_⟩
  have X7 : XB W w7 A F ms h S fr := by rw [hw7]; exact X5.setV (i := 6) (by omega) _
  have H7 := H5.set6 (rp cdb)
  have hw7' : w7 = w5.setCell ⟨A.xb, 6, none⟩ (rp cdb) := hw7
  rw [← hw7'] at H7
  have S7 : Same [A.xb] w.heap.size w w7 := S5.trans (by rw [hw7]; exact (Same.refl _ _ _).setCell (.inr (by simp)) _)
  have a0 : AS W w w7 A F ms h S fr mb cdb 0 0 (fun _ _ => 0) (fun _ _ => 0) none 0 none 0 := ⟨X7, H7, ⟨rfl, .inl ⟨rfl, rfl⟩⟩, ⟨rfl, .inl ⟨rfl, rfl⟩⟩, fun k hk => (by cases hk), X.ho.lF, X.lt, S7⟩
  have HMv : ∀ {w1 : World} {n7 n8 : Nat} {f7 f8 : Nat → Nat → Int} {a7 a8 : Option Addr} {c7 c8 : Nat}, AS W w w1 A F ms h S fr mb cdb n7 n8 f7 f8 a7 c7 a8 c8 → HM wd w1 L mb m P := fun a => H.same a.S0 H.size (by intro k hk; simp at hk; left; omega)
  -- the functions
  have loop3 : ∀ (f i : Nat) (w1 : World) (f7 f8 : Nat → Nat → Int) (a7 a8 : Option Addr) (c7 c8 : Nat), i + f = P.nf → AS W w w1 A F ms h S fr mb cdb P.nTy (P.nIm + i) f7 f8 a7 c7 a8 c8 → (∀ j, j < P.nTy → f7 j = packG (P.ty j)) → (∀ j, j < P.nIm + i → f8 j = fsG P j) →
      exec_Exec_adopt.L3 (some ⟨A.xb, 0, none⟩) (some ⟨mb, 0, none⟩) (i : Int) (fun v w' => v = .tuple #[] ∧ ∃ f7 f8 a7 c7 a8 c8, AS W w w' A F ms h S fr mb cdb P.nTy (P.nIm + P.nf) f7 f8 a7 c7 a8 c8 ∧ ∀ i, i < P.nIm + P.nf → f8 i = fsG P i) (fun _ _ => False) w1 := by
    intro f
    induction f with
    | zero =>
      intro i w1 f7 f8 a7 a8 c7 c8 hi a e7 e8
      obtain rfl : i = P.nf := by omega
      refine exec_Exec_adopt.step3 _ _ _ _ _ _ ?_
      unfold exec_Exec_adopt.V3
      obtain ⟨fa, e, _⟩ := (HMv a).fn
      exact ⟨_, _, _, e, cond_false' (decide_eq_false (by omega)) ⟨rfl, f7, f8, a7, c7, a8, c8, a, e8⟩⟩
    | succ f ih =>
      intro i w1 f7 f8 a7 a8 c7 c8 hi a e7 e8
      refine exec_Exec_adopt.step3 _ _ _ _ _ _ ?_
      unfold exec_Exec_adopt.V3
      obtain ⟨c8', hc8⟩ : ∃ c, c = c8 := ⟨_, rfl⟩
      subst hc8
      obtain ⟨fa, e, hfn⟩ := (HMv a).fn
      obtain ⟨fb, rfl, _, _, FR⟩ := hfn (by omega)
      refine ⟨_, _, _, e, cond_true' (decide_eq_true (by omega)) ?_⟩
      have ad := a.keep (Same.refl _ _ _).drew
      have tfi := tf i (by omega)
      obtain ⟨sb, rfl, sc⟩ := ad.sig (j := (P.fn i).ty.toNat) (by omega)
      have ct : w1.drew.cell? (Addr.add ⟨fb, 0, none⟩ (Int.toNat (i : Int) * 4)) = some (.int .i64 (P.fn i).ty) := by rw [add_mk, Nat.zero_add, Int.toNat_natCast]; exact FR.c0 i (by omega)
      have c1 : w1.drew.cell? ⟨mb, 2, none⟩ = some (.slice (some ⟨fb, 0, none⟩) P.nf P.nf) := e
      have c7 := ad.H.c7
      have c8 := ad.H.c8
      have g0 : w1.drew.cell? (Addr.add ⟨sb, 0, none⟩ (Int.toNat (P.fn i).ty * 6)) = some (.int .u8 (f7 (P.fn i).ty.toNat 0)) := by rw [add_mk, Nat.zero_add]; exact sc 0 (by omega)
      have gk : ∀ k, k < 6 → w1.drew.cell? ⟨(Addr.add ⟨sb, 0, none⟩ (Int.toNat (P.fn i).ty * 6)).block, (Addr.add ⟨sb, 0, none⟩ (Int.toNat (P.fn i).ty * 6)).off + k, none⟩ = some (.int .u8 (f7 (P.fn i).ty.toNat k)) := fun k hk => by rw [add_mk, Nat.zero_add]; exact sc k hk
      have g1 := gk 1 (by omega)
      have g2 := gk 2 (by omega)
      have g3 := gk 3 (by omega)
      have g4 := gk 4 (by omega)
      have g5 := gk 5 (by omega)
      have tail : ∀ (b : Nat) (w2 : World), b = w1.drew.heap.size → w2 = w1.drew.alloc (.cells (sigE (f7 (P.fn i).ty.toNat)).toArray T_exec_sig) → _ := fun b w2 hb hw => ad.add8 (by omega) (f7 (P.fn i).ty.toNat) (fun w3 => exec_Exec_adopt.L3 (some ⟨A.xb, 0, none⟩) (some ⟨mb, 0, none⟩) (IntKind.wrap .i64 ((i : Int) + 1)) (fun v w' => v = .tuple #[] ∧ ∃ f7 f8 a7 c7 a8 c8, AS W w w' A F ms h S fr mb cdb P.nTy (P.nIm + P.nf) f7 f8 a7 c7 a8 c8 ∧ ∀ i, i < P.nIm + P.nf → f8 i = fsG P i) (fun _ _ => False) w3) (fun w' a' c' a1 => by
        rw [nx i (by omega)]
        refine ih (i + 1) w' _ _ _ _ _ _ (by omega) a1 e7 (fun j hj => ?_)
        by_cases q : j = P.nIm + i
        · subst q
          rw [upd_same, e7 _ (by omega)]
          unfold fsG
          rw [if_neg (by omega), Nat.add_sub_cancel_left]
        · rw [upd_ne _ _ q]
          exact e8 j (by omega)) hb hw
      have al : ∀ (b : Nat) (w2 : World), b = w1.drew.heap.size → w2 = w1.drew.alloc (.cells (sigE (f7 (P.fn i).ty.toNat)).toArray T_exec_sig) → w2.cell? ⟨A.xb, 8, none⟩ = some (.slice a8 (P.nIm + i) c8') := fun b w2 hb hw => by
        rw [hw]; exact Lib.cell?_alloc_marked _ c8
      repeat' first
        | exact trivial
        | refine ⟨_, _, _, c8, ?_⟩
        | refine ⟨_, _, _, c7, ?_⟩
        | refine ⟨_, _, _, c1, ?_⟩
        | refine ⟨_, ct, ?_⟩
        | refine ⟨_, _, _, _, _, _, g0, g1, g2, g3, g4, g5, ?_⟩
        | refine ⟨⟨by omega, by omega⟩, ?_⟩
        | exact tail _ _ rfl rfl
        | refine ⟨_, _, _, al _ _ rfl rfl, ?_⟩
        | refine And.intro ?_ ?_
  -- the imports
  have loop2 : ∀ (f i : Nat) (w1 : World) (f7 f8 : Nat → Nat → Int) (a7 a8 : Option Addr) (c7 c8 : Nat), i + f = P.nIm → AS W w w1 A F ms h S fr mb cdb P.nTy (i) f7 f8 a7 c7 a8 c8 → (∀ j, j < P.nTy → f7 j = packG (P.ty j)) → (∀ j, j < i → f8 j = fsG P j) →
      exec_Exec_adopt.L2 (some ⟨A.xb, 0, none⟩) (some ⟨mb, 0, none⟩) (i : Int) (fun v w' => v = .tuple #[] ∧ ∃ f7 f8 a7 c7 a8 c8, AS W w w' A F ms h S fr mb cdb P.nTy (P.nIm + P.nf) f7 f8 a7 c7 a8 c8 ∧ ∀ i, i < P.nIm + P.nf → f8 i = fsG P i) (fun _ _ => False) w1 := by
    intro f
    induction f with
    | zero =>
      intro i w1 f7 f8 a7 a8 c7 c8 hi a e7 e8
      obtain rfl : i = P.nIm := by omega
      refine exec_Exec_adopt.step2 _ _ _ _ _ _ ?_
      unfold exec_Exec_adopt.V2
      obtain ⟨fa, e, _⟩ := (HMv a).im
      exact ⟨_, _, _, e, cond_false' (decide_eq_false (by omega)) (loop3 P.nf 0 w1 f7 f8 a7 a8 c7 c8 (by omega) a e7 e8)⟩
    | succ f ih =>
      intro i w1 f7 f8 a7 a8 c7 c8 hi a e7 e8
      refine exec_Exec_adopt.step2 _ _ _ _ _ _ ?_
      unfold exec_Exec_adopt.V2
      obtain ⟨c8', hc8⟩ : ∃ c, c = c8 := ⟨_, rfl⟩
      subst hc8
      obtain ⟨fa, e, hfn⟩ := (HMv a).im
      obtain ⟨fb, rfl, FR⟩ := hfn (by omega)
      refine ⟨_, _, _, e, cond_true' (decide_eq_true (by omega)) ?_⟩
      have ad := a.keep (Same.refl _ _ _).drew
      have tfi := ti i (by omega)
      obtain ⟨sb, rfl, sc⟩ := ad.sig (j := (P.im i).ty.toNat) (by omega)
      have ct : w1.drew.cell? ⟨(Addr.add ⟨fb, 0, none⟩ (Int.toNat (i : Int) * 3)).block, (Addr.add ⟨fb, 0, none⟩ (Int.toNat (i : Int) * 3)).off + 2, none⟩ = some (.int .i64 (P.im i).ty) := by rw [add_mk, Nat.zero_add, Int.toNat_natCast]; exact FR i (by omega) 2 _ rfl
      have c1 : w1.drew.cell? ⟨mb, 1, none⟩ = some (.slice (some ⟨fb, 0, none⟩) P.nIm P.nIm) := e
      have c7 := ad.H.c7
      have c8 := ad.H.c8
      have g0 : w1.drew.cell? (Addr.add ⟨sb, 0, none⟩ (Int.toNat (P.im i).ty * 6)) = some (.int .u8 (f7 (P.im i).ty.toNat 0)) := by rw [add_mk, Nat.zero_add]; exact sc 0 (by omega)
      have gk : ∀ k, k < 6 → w1.drew.cell? ⟨(Addr.add ⟨sb, 0, none⟩ (Int.toNat (P.im i).ty * 6)).block, (Addr.add ⟨sb, 0, none⟩ (Int.toNat (P.im i).ty * 6)).off + k, none⟩ = some (.int .u8 (f7 (P.im i).ty.toNat k)) := fun k hk => by rw [add_mk, Nat.zero_add]; exact sc k hk
      have g1 := gk 1 (by omega)
      have g2 := gk 2 (by omega)
      have g3 := gk 3 (by omega)
      have g4 := gk 4 (by omega)
      have g5 := gk 5 (by omega)
      have tail : ∀ (b : Nat) (w2 : World), b = w1.drew.heap.size → w2 = w1.drew.alloc (.cells (sigE (f7 (P.im i).ty.toNat)).toArray T_exec_sig) → _ := fun b w2 hb hw => ad.add8 (by omega) (f7 (P.im i).ty.toNat) (fun w3 => exec_Exec_adopt.L2 (some ⟨A.xb, 0, none⟩) (some ⟨mb, 0, none⟩) (IntKind.wrap .i64 ((i : Int) + 1)) (fun v w' => v = .tuple #[] ∧ ∃ f7 f8 a7 c7 a8 c8, AS W w w' A F ms h S fr mb cdb P.nTy (P.nIm + P.nf) f7 f8 a7 c7 a8 c8 ∧ ∀ i, i < P.nIm + P.nf → f8 i = fsG P i) (fun _ _ => False) w3) (fun w' a' c' a1 => by
        rw [nx i (by omega)]
        refine ih (i + 1) w' _ _ _ _ _ _ (by omega) a1 e7 (fun j hj => ?_)
        by_cases q : j = i
        · subst q
          rw [upd_same, e7 _ (by omega)]
          unfold fsG
          rw [if_pos (by omega)]
        · rw [upd_ne _ _ q]
          exact e8 j (by omega)) hb hw
      have al : ∀ (b : Nat) (w2 : World), b = w1.drew.heap.size → w2 = w1.drew.alloc (.cells (sigE (f7 (P.im i).ty.toNat)).toArray T_exec_sig) → w2.cell? ⟨A.xb, 8, none⟩ = some (.slice a8 (i) c8') := fun b w2 hb hw => by
        rw [hw]; exact Lib.cell?_alloc_marked _ c8
      repeat' first
        | exact trivial
        | refine ⟨_, _, _, c8, ?_⟩
        | refine ⟨_, _, _, c7, ?_⟩
        | refine ⟨_, _, _, c1, ?_⟩
        | refine ⟨_, ct, ?_⟩
        | refine ⟨_, _, _, _, _, _, g0, g1, g2, g3, g4, g5, ?_⟩
        | refine ⟨⟨by omega, by omega⟩, ?_⟩
        | exact tail _ _ rfl rfl
        | refine ⟨_, _, _, al _ _ rfl rfl, ?_⟩
        | refine And.intro ?_ ?_
  -- the types
  have loop1 : ∀ (f i : Nat) (w1 : World) (f7 f8 : Nat → Nat → Int) (a7 a8 : Option Addr) (c7 c8 : Nat), i + f = P.nTy → AS W w w1 A F ms h S fr mb cdb i 0 f7 f8 a7 c7 a8 c8 → (∀ j, j < i → f7 j = packG (P.ty j)) →
      exec_Exec_adopt.L1 (some ⟨A.xb, 0, none⟩) (some ⟨mb, 0, none⟩) (i : Int) (fun v w' => v = .tuple #[] ∧ ∃ f7 f8 a7 c7 a8 c8, AS W w w' A F ms h S fr mb cdb P.nTy (P.nIm + P.nf) f7 f8 a7 c7 a8 c8 ∧ ∀ i, i < P.nIm + P.nf → f8 i = fsG P i) (fun _ _ => False) w1 := by
    intro f
    induction f with
    | zero =>
      intro i w1 f7 f8 a7 a8 c7 c8 hi a e7
      obtain rfl : i = P.nTy := by omega
      refine exec_Exec_adopt.step1 _ _ _ _ _ _ ?_
      unfold exec_Exec_adopt.V1
      obtain ⟨fa, e, _⟩ := (HMv a).ty
      exact ⟨_, _, _, e, cond_false' (decide_eq_false (by omega)) (loop2 P.nIm 0 w1 f7 f8 a7 a8 c7 c8 (by omega) a e7 (fun j hj => by omega))⟩
    | succ f ih =>
      intro i w1 f7 f8 a7 a8 c7 c8 hi a e7
      refine exec_Exec_adopt.step1 _ _ _ _ _ _ ?_
      unfold exec_Exec_adopt.V1
      obtain ⟨fa, e, hfn⟩ := (HMv a).ty
      obtain ⟨fb, rfl, FR⟩ := hfn (by omega)
      have ct : w1.cell? (Addr.add ⟨fb, 0, none⟩ (Int.toNat (i : Int) * 1)) = some (.string (P.ty i)) := by rw [add_mk, Nat.zero_add, Int.toNat_natCast, Nat.mul_one]; exact FR i (by omega)
      refine ⟨_, _, _, e, cond_true' (decide_eq_true (by omega)) ⟨_, _, _, e, by omega, _, ct, RunsQ.post (pack_spec w1 (P.ty i) (B.ty i (by omega)).1) ?_⟩⟩
      rintro v w12 ⟨rfl, S12⟩
      refine ⟨_, _, _, _, _, _, rfl, letB_intro fun b19 hb19 => letW_intro fun w20 hw20 => ?_⟩
      have a12 := a.keep S12
      have S20 : Same [] w12.heap.size w12 w20 := by rw [hw20]; exact (Same.refl _ _ _).alloc (Nat.le_refl _) _
      have z20 : w20.heap.size = w12.heap.size + 1 := by rw [hw20]; simp
      have G20 : SigAt w20 b19 (fun _ => 0) := by rw [hw20, hb19]; exact sig_new w12
      refine sig_put G20 (packG (P.ty i)) _ (fun w21 G21 S21 => ?_)
      have S21' : Same [] w12.heap.size w12 w21 := S20.trans (S21.mono (by omega) (fun k hk hl => by simp at hk; omega))
      have ad := (a12.keep S21').keep (Same.refl _ _ _).drew
      have k7 := ad.H.c7
      have g0 : w21.drew.cell? ⟨b19, 0, none⟩ = _ := G21.c 0 (by omega)
      have g1 : w21.drew.cell? ⟨b19, 1, none⟩ = _ := G21.c 1 (by omega)
      have g2 : w21.drew.cell? ⟨b19, 2, none⟩ = _ := G21.c 2 (by omega)
      have g3 : w21.drew.cell? ⟨b19, 3, none⟩ = _ := G21.c 3 (by omega)
      have g4 : w21.drew.cell? ⟨b19, 4, none⟩ = _ := G21.c 4 (by omega)
      have g5 : w21.drew.cell? ⟨b19, 5, none⟩ = _ := G21.c 5 (by omega)
      have tail : ∀ (b : Nat) (w2 : World), b = w21.drew.heap.size → w2 = w21.drew.alloc (.cells (sigE (packG (P.ty i))).toArray T_exec_sig) → _ := fun b w2 hb hw => ad.add7 (by omega) (packG (P.ty i)) (fun w3 => exec_Exec_adopt.L1 (some ⟨A.xb, 0, none⟩) (some ⟨mb, 0, none⟩) (IntKind.wrap .i64 ((i : Int) + 1)) (fun v w' => v = .tuple #[] ∧ ∃ f7 f8 a7 c7 a8 c8, AS W w w' A F ms h S fr mb cdb P.nTy (P.nIm + P.nf) f7 f8 a7 c7 a8 c8 ∧ ∀ i, i < P.nIm + P.nf → f8 i = fsG P i) (fun _ _ => False) w3) (fun w' a' c' a1 => by
        rw [nx i (by omega)]
        refine ih (i + 1) w' _ _ _ _ _ _ (by omega) a1 (fun j hj => ?_)
        by_cases q : j = i
        · subst q
          rw [upd_same]
        · rw [upd_ne _ _ q]
          exact e7 j (by omega)) hb hw
      have al : ∀ (b : Nat) (w2 : World), b = w21.drew.heap.size → w2 = w21.drew.alloc (.cells (sigE (packG (P.ty i))).toArray T_exec_sig) → w2.cell? ⟨A.xb, 7, none⟩ = some (.slice a7 i c7) := fun b w2 hb hw => by
        rw [hw]; exact Lib.cell?_alloc_marked _ k7
      repeat' first
        | exact trivial
        | refine ⟨_, _, _, k7, ?_⟩
        | refine ⟨_, _, _, _, _, _, g0, g1, g2, g3, g4, g5, ?_⟩
        | exact tail _ _ rfl rfl
        | refine ⟨_, _, _, al _ _ rfl rfl, ?_⟩
        | refine And.intro ?_ ?_
  exact loop1 P.nTy 0 w7 _ _ _ _ _ _ (by omega) a0 (fun j hj => by omega)
end
end Go.Proofs.Qxb6500317aGreat
