/-
  The model's elements.
-/
import Derived.Test.Qxb6500316aMdL
set_option linter.unusedSimpArgs false
set_option linter.unusedVariables false
set_option maxRecDepth 100000
set_option linter.unusedSectionVars false
namespace Go.Proofs.Qxb6500316a
open Go Go.Vc

theorem row_base {w : World} {b b' : Nat} {e : TypeId} {sz n : Nat} {v : Value} {xs : List Value} (h : w.ownsRow b e sz v n xs) (hb : b' ≤ b) : w.ownsRow b' e sz v n xs := by
  refine ⟨h.1, ?_⟩
  rcases h.2 with h2 | ⟨g, cap, cur, h2, h3, rest⟩
  · exact .inl h2
  · exact .inr ⟨g, cap, cur, h2, by omega, rest⟩
/-- The rows that elements bear. -/
def NE (w : World) (B : Nat) (fr : Nat → ElR) (f : Nat → ElV) (i : Nat) : Prop :=
  ∀ j, j < i → (fr j).off = (f j).off ∧ ∃ a c, (fr j).sl = .slice a (f j).n c ∧ w.ownsRow B T_uint32 1 (.slice a (f j).n c) (f j).n (rowV u32E (f j).fns (f j).n)
theorem NE.same {w w' : World} {B : Nat} {fr : Nat → ElR} {f : Nat → ElV} {i : Nat} (h : NE w B fr f i) {S : List Nat} (hs : Same S w.heap.size w w') (hS : ∀ d, d ∈ S → d < B ∨ ∃ e sz v n xs b, w.ownsRow b e sz v n xs ∧ e ≠ T_uint32 ∧ v.ownBlock = some d) : NE w' B fr f i := fun j hj => by
  obtain ⟨h1, a, c, h2, h3⟩ := h j hj
  refine ⟨h1, a, c, h2, row_same h3 hs (fun d hd => ⟨(h3.lt d hd).2, fun hm => ?_⟩)⟩
  rcases hS d hm with q | ⟨e, sz, v, n, xs, b, q1, q2, q3⟩
  · have := (h3.lt d hd).1; omega
  · exact (ne_obk q1 h3 q2 d hd).2 (mem_obk.2 q3)

section
variable {w0 w : World} {rb mb e lo : Nat} {s : ByteArray}
/-- The element that is being read. -/
structure EL (w : World) (B eb : Nat) (x : Ins) (g : Nat → Int) (j : Nat) (a : Option Addr) (c : Nat) : Prop where
  c0 : w.cell? ⟨eb, 0, none⟩ = some (.int .u8 x.op)
  c1 : w.cell? ⟨eb, 1, none⟩ = some (.int .u32 x.x)
  c2 : w.cell? ⟨eb, 2, none⟩ = some (.int .u64 x.y)
  mr : MR w B eb 3 T_uint32 1 a j c (rowV u32E g j)
theorem EL.same {B eb : Nat} {x : Ins} {g : Nat → Int} {j : Nat} {a : Option Addr} {c : Nat} (h : EL w B eb x g j a c) {w' : World} {S : List Nat} (hs : Same S w.heap.size w w') (hS : ∀ d, d ∈ S → d < B ∧ d ≠ eb) : EL w' B eb x g j a c := by
  have hl : eb < w.heap.size := cell_lt h.c0
  have hf : eb ∉ S := fun hm => (hS eb hm).2 rfl
  exact ⟨by rw [hs.cell hl hf]; exact h.c0, by rw [hs.cell hl hf]; exact h.c1, by rw [hs.cell hl hf]; exact h.c2, h.mr.same hs hS⟩

/-- The functions of an element. -/
theorem fns_mloop (he : e ≤ s.size) (hs : s.size ≤ 1024) {B eb n i k : Nat} {x : Ins} {w1 : World} (hrb : rb < w1.heap.size) (hB1 : w1.heap.size ≤ eb) (hk : k ≤ 6) {R Q : Value → World → Prop} {fin : Res (Nat → Int)}
    (hR : ∀ w (r : Res (Nat → Int)) g l a c, r = fin → StR w rb s e lo r → EL w B eb x g l a c → l ≤ 6 → (∀ g' q, r = .ok g' q → g = g' ∧ l = k) → Same [rb] w1.heap.size w1 w → B ≤ w.heap.size → binm_rd_section.L17 (some ⟨rb, 0, none⟩) (some ⟨mb, 0, none⟩) (n : Int) (i : Int) eb R Q w) :
    ∀ (m j : Nat) (r : Res (Nat → Int)) (g : Nat → Int) (a : Option Addr) (c : Nat) (w : World), j + m = k → StR w rb s e lo r → EL w B eb x g j a c → (∀ g' q, r = .ok g' q → g = g') → (r.bind fun g q => funcsL s e m j g q) = fin → Same [rb] w1.heap.size w1 w → B ≤ w.heap.size →
      binm_rd_section.L15 (some ⟨rb, 0, none⟩) (some ⟨mb, 0, none⟩) (n : Int) (i : Int) (k : Int) eb (j : Int) R Q w := by
  intro m
  induction m with
  | zero =>
    intro j r g a c w hj hst hE hg hfin S0 hB
    refine binm_rd_section.step15 _ _ _ _ _ _ _ _ _ _ ?_
    unfold binm_rd_section.V15
    refine cond_false' (decide_eq_false (by omega)) ?_
    have e1 : (r.bind fun g q => funcsL s e 0 j g q) = r := by cases r <;> rfl
    exact hR w r g j a c (by rw [← hfin, e1]) hst hE (by omega) (fun g' q h => ⟨hg g' q h, by omega⟩) S0 hB
  | succ m ih =>
    intro j r g a c w hj hst hE hg hfin S0 hB
    refine binm_rd_section.step15 _ _ _ _ _ _ _ _ _ _ ?_
    unfold binm_rd_section.V15
    simp only [nilV_some, Nat.zero_add]
    refine cond_true' (decide_eq_true (by omega)) ?_
    obtain ⟨y, hy, hy0, hy1⟩ := hst.c3
    refine ⟨_, hy, ?_⟩
    cases r using Res.cs with
    | err n' a' =>
      refine cond_false' (by simpa using (hy1 n' a' rfl).2) ?_
      exact hR w (.err n' a') g j a c hfin hst hE (by omega) (fun g' q h => by cases h) S0 hB
    | ok g' q =>
      have hgg := hg g' q rfl
      subst hgg
      refine cond_true' (by simpa using hy0 g q rfl) ?_
      refine binm_rd_section.step16 _ _ _ _ _ _ _ _ _ _ ?_
      unfold binm_rd_section.V16
      refine (u32m_spec hst he hs).into fun v w2 hv hst2 S2 => ⟨_, hv.1, ?_⟩
      have hel := hE.mr.lt
      have E2 := hE.same S2 (by intro d hd; simp at hd; subst hd; exact ⟨by omega, by omega⟩)
      refine ⟨_, _, _, E2.mr.cell, letB_intro fun b7 hb => letW_intro fun w8 hw => ?_⟩
      rw [wrap_u32 hv.2.1 (by omega)] at hw
      have z2 := S2.size
      obtain ⟨a', c', w9, hr, hc, h3⟩ := E2.mr.app T_sl_uint32.el T_sl_uint32 (u32E (numR ((Res.ok g q).bind fun _ p => u32P s e p))) rfl (by intro u hu; simp at hu; subst hu; rfl) (by omega) (by omega) (by omega) hb hw
      refine ⟨a', _, c', w9, hr, hc, letW_intro fun w13 hw13 => ?_⟩
      obtain ⟨m3, S3, o3⟩ := h3 w13 hw13
      rw [wrap_i64 (by omega) (by omega), show (j : Int) + 1 = ((j + 1 : Nat) : Int) by omega]
      rw [funcsS_succ s e m j g (.ok g q)] at hfin
      have hob : ∀ d, d ∈ obk (.slice a j c) → B ≤ d := fun d hd => (E2.mr.row.lt d (mem_obk.1 hd)).1
      have hmem : ∀ d, d ∈ eb :: obk (.slice a j c) → w1.heap.size ≤ d := fun d hd => by
        simp at hd
        rcases hd with rfl | hd
        · exact hB1
        · have := hob d hd; omega
      refine ih (j + 1) ((Res.ok g q).bind fun f q => (u32P s e q).bind fun t q' => .ok (upd f j t) q') (upd g j (numR ((Res.ok g q).bind fun _ p => u32P s e p))) a' c' w13 (by omega) ?_ ⟨by rw [o3 0 (by decide)]; exact E2.c0, by rw [o3 1 (by decide)]; exact E2.c1, by rw [o3 2 (by decide)]; exact E2.c2, by rw [rowV_upd]; exact m3⟩ ?_ hfin ?_ ?_
      · refine (hst2.same S3 hst2.lt (fun hm => by have := hmem rb hm; omega)).re (fun a q' h => ?_) (fun n x h => ?_)
        · rw [Res.bind_ok'] at h ⊢; rw [h]; exact ⟨_, rfl⟩
        · rw [Res.bind_ok'] at h ⊢; rw [h]; rfl
      · intro c2 q2 h
        rw [Res.bind_ok'] at h ⊢
        exact map_num (g := fun x => upd g j x) h
      · exact (S0.app S2).trans (S3.mono (by have := S0.size; omega) (by intro d hd hlt; have := hmem d hd; omega))
      · have := S3.size; omega

def elemRow (s : ByteArray) (e p : Nat) : Res ElV := (fixedP s e 0 p).bind fun _ q => (constP s e q).bind fun x q2 => (countP s e 6 q2).bind fun n q3 => (funcsL s e n 0 (fun _ => 0) q3).bind fun g q4 => .ok ⟨x, n, g⟩ q4
theorem elemsL_row (s : ByteArray) (e k i : Nat) (f : Nat → ElV) (q : Nat) : elemsL s e (k + 1) i f q = (elemRow s e q).bind fun x q' => elemsL s e k (i + 1) (upd f i x) q' := by
  show (fixedP s e 0 q).bind (fun _ q => (constP s e q).bind fun x q2 => (countP s e 6 q2).bind fun n q3 => (funcsL s e n 0 (fun _ => 0) q3).bind fun g q4 => elemsL s e k (i + 1) (upd f i ⟨x, n, g⟩) q4) = _
  unfold elemRow
  simp only [Res.bind_bind]
  rfl
def EPost (w0 : World) (rb mb : Nat) (s : ByteArray) (e lo : Nat) (fin : Res (Nat × (Nat → ElV))) : Value → World → Prop := fun v w' =>
  v = .tuple #[] ∧ StR w' rb s e lo fin ∧ ∃ a c l fr f, VF elE T_api_Elem 4 10 w0 w' rb mb l fr a c ∧ NE w' w0.heap.size fr f l ∧ ∀ x q, fin = .ok x q → l = x.1 ∧ f = x.2
theorem elems_mloop (he : e ≤ s.size) (hs : s.size ≤ 1024) {n : Nat} (hn : n ≤ 3) {fin : Res (Nat × (Nat → ElV))} :
    ∀ (k i : Nat) (r : Res (Nat → ElV)) (f : Nat → ElV) (fr : Nat → ElR) (a : Option Addr) (c : Nat) (w : World), i + k = n → VF elE T_api_Elem 4 10 w0 w rb mb i fr a c → NE w w0.heap.size fr f i → StR w rb s e lo r → (∀ f' q, r = .ok f' q → f = f') → ((r.bind fun f q => elemsL s e k i f q).bind fun t q2 => .ok (n, t) q2) = fin →
      binm_rd_section.L5 (some ⟨rb, 0, none⟩) (some ⟨mb, 0, none⟩) (n : Int) (i : Int) (EPost w0 rb mb s e lo fin) (fun _ _ => False) w := by
  intro k
  induction k with
  | zero =>
    intro i r f fr a c w hi hV hN hst hf hfin
    refine binm_rd_section.step5 _ _ _ _ _ _ _ ?_
    unfold binm_rd_section.V5
    refine cond_false' (decide_eq_false (by omega)) ?_
    have e1 : (r.bind fun f q => elemsL s e 0 i f q) = r := by cases r <;> rfl
    rw [e1] at hfin
    refine ⟨rfl, by rw [← hfin]; exact hst.map _, a, c, i, fr, f, hV, hN, fun x q h => ?_⟩
    rw [← hfin] at h
    obtain ⟨f', q', g1, g2⟩ := bind_ok h
    (first | (injection g2 with z__; injection z__ with g2 _) | injection g2 with g2 _)
    subst g2
    exact ⟨by show i = n; omega, hf f' q' g1⟩
  | succ k ih =>
    intro i r f fr a c w hi hV hN hst hf hfin
    refine binm_rd_section.step5 _ _ _ _ _ _ _ ?_
    unfold binm_rd_section.V5
    simp only [nilV_some, Nat.zero_add]
    refine cond_true' (decide_eq_true (by omega)) ?_
    obtain ⟨y, hy, hy0, hy1⟩ := hst.c3
    refine ⟨_, hy, ?_⟩
    cases r using Res.cs with
    | err n' a' =>
      refine cond_false' (by simpa using (hy1 n' a' rfl).2) ?_
      exact ⟨rfl, by rw [← hfin]; exact hst, a, c, i, fr, f, hV, hN, fun x q h => by rw [← hfin] at h; cases h⟩
    | ok f' q =>
      have hff := hf f' q rfl
      subst hff
      refine cond_true' (by simpa using hy0 f q rfl) ?_
      refine binm_rd_section.step11 _ _ _ _ _ _ _ ?_
      unfold binm_rd_section.V11
      refine (fixedm_spec hst he hs 0).into fun v w2 hv hst2 S2 => ⟨hv, ?_⟩
      refine (constm_spec hst2 he hs).into fun v w4 hv4 hst4 S4 => ?_
      obtain ⟨x, rfl, hxi⟩ := hv4
      refine ⟨_, _, _, rfl, ?_⟩
      refine newIns (w := w4) (i := x) (fun xb w10 hxb hX hS10 => ?_)
      have hst10 := hst4.same hS10 hst4.lt (by simp)
      have hrx : xb ∉ [rb] := by have := hst4.lt; simp; omega
      refine (countm_spec hst10 he hs 6).into fun v w12 hv12 hst12 S12 => ⟨_, hv12, ?_⟩
      have hn6 := natR_count (((Res.ok f q).bind fun _ p => fixedP s e 0 p).bind fun _ p => constP s e p) s e 6
      have X12 := hX.same S12 hX.lt hrx
      have V12 := (((hV.step S2).step S4).new hS10).step S12
      have l1 := hV.lr; have l2 := hV.rm
      have ml := hV.mr.lt
      have rbS : ∀ {w : World}, ∀ d, d ∈ [rb] → d < w0.heap.size ∨ ∃ e sz v n xs b, w.ownsRow b e sz v n xs ∧ e ≠ T_uint32 ∧ v.ownBlock = some d := fun d hd => by simp at hd; subst hd; exact .inl l1
      have N12 : NE w12 w0.heap.size fr f i := (((hN.same S2 rbS).same S4 rbS).same hS10 (by simp)).same S12 rbS
      refine ⟨_, _, _, X12.c0, X12.c1, X12.c2, letB_intro fun eb heb => letW_intro fun w18 hw18 => ?_⟩
      have S18 : Same [] w12.heap.size w12 w18 := by rw [hw18]; exact (Same.refl _ _ _).alloc (Nat.le_refl _) _
      have z18 : w18.heap.size = w12.heap.size + 1 := by rw [hw18]; simp
      have e18 : ∀ j (hj : j < 4), w18.cell? ⟨eb, j, none⟩ = some ([Value.int .u8 0, .int .u32 0, .int .u64 0, .slice none 0 0][j]) := fun j hj => by
        rw [hw18, heb, World.cell?_alloc_new]
        match j, hj with
        | 0, _ => rfl
        | 1, _ => rfl
        | 2, _ => rfl
        | 3, _ => rfl
      have f18 : ∀ j, w18.frozen? ⟨eb, j, none⟩ = false := fun j => by rw [hw18, heb, World.frozen?_alloc_new]
      refine putCells_intro eb _ 0 w18 _ (fun j hj => by rw [Nat.zero_add]; exact ⟨⟨_, e18 j (by simpa using hj)⟩, f18 j⟩) (fun w19 hF19 => ?_)
      have E19 : EL w19 w18.heap.size eb x (fun _ => 0) 0 none 0 := by
        refine ⟨by rw [hF19.cell, if_pos (by simp)]; rfl, by rw [hF19.cell, if_pos (by simp)]; rfl, by rw [hF19.cell, if_pos (by simp)]; rfl, ⟨by rw [hF19.cell, if_pos (by simp)]; rfl, World.ownsRow_nil w19 _ T_uint32 1, fun j => by rw [hF19.frozen]; exact f18 j, by rw [z18, heb]; omega⟩⟩
      have S19 : Same [rb] w12.heap.size w12 w19 := (S18.mono (Nat.le_refl _) (by simp)).trans ((hF19.same w12.heap.size).mono (Nat.le_refl _) (by intro d hd hlt; simp at hd; omega))
      have hst19 := hst12.same (S := []) (B := w12.heap.size) (w' := w19) (S18.trans ((hF19.same w12.heap.size).mono (Nat.le_refl _) (by intro d hd hlt; simp at hd; omega))) hst12.lt (by simp)
      have hr6 : (natR ((((Res.ok f q).bind fun _ p => fixedP s e 0 p).bind fun _ p => constP s e p).bind fun _ p => countP s e 6 p)) ≤ 6 := by omega
      -- behind the functions
      have L17 : ∀ w (r : Res (Nat → Int)) g l a' c', r = (((((Res.ok f q).bind fun _ p => fixedP s e 0 p).bind fun _ p => constP s e p).bind fun _ p => countP s e 6 p).bind fun n q3 => funcsL s e n 0 (fun _ => 0) q3) → StR w rb s e lo r → EL w w18.heap.size eb x g l a' c' → l ≤ 6 → (∀ g' q', r = .ok g' q' → g = g' ∧ l = natR ((((Res.ok f q).bind fun _ p => fixedP s e 0 p).bind fun _ p => constP s e p).bind fun _ p => countP s e 6 p)) → Same [rb] w12.heap.size w12 w → w18.heap.size ≤ w.heap.size →
          binm_rd_section.L17 (some ⟨rb, 0, none⟩) (some ⟨mb, 0, none⟩) (n : Int) (i : Int) eb (EPost w0 rb mb s e lo fin) (fun _ _ => False) w := fun w r g l a' c' hr hst hE hl hg S17 hB => by
        refine binm_rd_section.step17 _ _ _ _ _ _ _ _ ?_
        unfold binm_rd_section.V17
        simp only [nilV_some, Nat.zero_add, and_true]
        have V17 := V12.step S17
        have N17 := N12.same S17 rbS
        have Vd := V17.drew
        have gS := Vd.mr.cell
        have Ed := hE.same (Same.refl [] w.heap.size w).drew (by simp)
        have Nd := N17.same (Same.refl [] w.heap.size w).drew (by simp)
        have hval : ∀ y q', elemRow s e q = .ok y q' → (⟨x, l, g⟩ : ElV) = y := fun y q' h => by
          obtain ⟨u, q1, h1, h2⟩ := bind_ok h
          obtain ⟨v1, q2, h3, h4⟩ := bind_ok h2
          obtain ⟨v2, q3, h5, h6⟩ := bind_ok h4
          obtain ⟨v3, q4, h7, h8⟩ := bind_ok h6
          (first | (injection h8 with z__; injection z__ with h8 _) | injection h8 with h8 _)
          have hx := hxi v1 q2 (by simp only [Res.bind_ok', h1, h3])
          obtain ⟨g1, g2⟩ := hg v3 q4 (by rw [hr]; simp only [Res.bind_ok', h1, h3, h5, h7])
          simp only [Res.bind_ok', h1, h3, h5, natR] at g2
          rw [hx, g1, g2]
          exact h8
        have hst' : StR w.drew rb s e lo (elemRow s e q) := (hst.drew).as (by
          rw [hr]
          unfold elemRow
          simp only [Res.bind_ok']
          cases fixedP s e 0 q using Res.cs with
          | err n x => rfl
          | ok u q1 =>
            simp only [Res.bind_ok']
            cases constP s e q1 using Res.cs with
            | err n x => rfl
            | ok u q2 =>
              simp only [Res.bind_ok']
              cases countP s e 6 q2 using Res.cs with
              | err n x => rfl
              | ok v q3 => simp only [Res.bind_ok']; cases funcsL s e v 0 (fun _ => 0) q3 <;> rfl)
        have fin' : ∀ (b : Nat) (w1 : World), b = w.drew.heap.size → w1 = w.drew.alloc (.cells #[.int .u8 x.op, .int .u32 x.x, .int .u64 x.y, .slice a' l c'] T_api_Elem) → 
            ∃ (x1 : Option Addr) (x2 x3 : Nat) (w2 : World), Sem.run Try.prog (Builtin.append_ #[T_sl_api_Elem, T_sl_api_Elem] T_sl_api_Elem #[.slice a i c, .slice (some ⟨b, 0, none⟩) 1 1]) w1 = .ok (.slice x1 x2 x3) w2 ∧ can w2 ⟨mb, 10, none⟩ ∧ letW (World.setCell w2 ⟨mb, 10, none⟩ (.slice x1 x2 x3)) fun w3 => binm_rd_section.L5 (some ⟨rb, 0, none⟩) (some ⟨mb, 0, none⟩) (n : Int) (IntKind.wrap .i64 ((i : Int) + 1)) (EPost w0 rb mb s e lo fin) (fun _ _ => False) w3 := fun b w1 hb hw => by
          obtain ⟨a2, c2, w15, hr, hc, h3⟩ := Vd.app hst' T_sl_api_Elem.el T_sl_api_Elem (⟨x, .slice a' l c'⟩ : ElR) _ rfl rfl (by intro u hu; simp at hu; rcases hu with rfl | rfl | rfl | rfl <;> rfl) (by omega) (by omega) hb hw
          refine ⟨a2, _, c2, w15, hr, hc, letW_intro fun wz hwz => ?_⟩
          obtain ⟨Vz, stz, Sz⟩ := h3 wz hwz
          rw [wrap_i64 (by omega) (by omega), show (i : Int) + 1 = ((i + 1 : Nat) : Int) by omega]
          obtain ⟨hfin', hag⟩ := vec_next (fun k i f q => elemsL_row s e k i f q) hval hfin
          have z12 := V12.S.size
          have rowE : w.drew.ownsRow w0.heap.size T_uint32 1 (.slice a' l c') l (rowV u32E g l) := row_base Ed.mr.row (by omega)
          have Nz' : NE w.drew w0.heap.size (upd fr i ⟨x, .slice a' l c'⟩) (upd f i ⟨x, l, g⟩) (i + 1) := fun j hj => by
            unfold upd
            by_cases hji : j = i
            · rw [if_pos hji, if_pos hji]
              exact ⟨rfl, a', c', rfl, rowE⟩
            · rw [if_neg hji, if_neg hji]
              exact Nd j (by omega)
          have Nz := Nz'.same Sz (fun d hd => by
            simp at hd
            rcases hd with rfl | hd
            · exact .inl ml
            · exact .inr ⟨_, _, _, _, _, _, Vd.mr.row, by decide, mem_obk.1 hd⟩)
          exact ih (i + 1) _ _ _ a2 c2 wz (by omega) Vz Nz (stz.map _) hag hfin'
        refine ⟨⟨_, _, _, gS, _, _, _, _, _, _, Ed.c0, Ed.c1, Ed.c2, Ed.mr.cell, letB_intro fun b hb => letW_intro fun w1 hw => fin' b w1 hb hw⟩, _, _, _, _, _, _, Ed.c0, Ed.c1, Ed.c2, Ed.mr.cell, ⟨_, _, _, gS, letB_intro fun b hb => letW_intro fun w1 hw => fin' b w1 hb hw⟩, letB_intro fun b hb => letW_intro fun w1 hw => ⟨_, _, _, ?_, fin' b w1 hb hw⟩⟩
        have hal : Same [] w.drew.heap.size w.drew w1 := by rw [hw]; exact (Same.refl _ _ _).alloc (Nat.le_refl _) _
        rw [hal.cell (cell_lt gS) (by simp)]; exact gS
      have hB19 : w18.heap.size ≤ w19.heap.size := (hF19.same 0).size
      generalize hr1 : ((((Res.ok f q).bind fun _ p => fixedP s e 0 p).bind fun _ p => constP s e p).bind fun _ p => countP s e 6 p) = r1 at *
      cases r1 using Res.cs with
      | err n' x' => exact fns_mloop (mb := mb) he hs (B := w18.heap.size) (k := 0) hst12.lt (by omega) (by omega) (fin := .err n' x') (fun w r g l a c hr hst hE hl hg S hB => L17 w r g l a c hr hst hE hl (fun g' q' h => by rw [hr] at h; cases h) S hB) 0 0 (.err n' x') (fun _ => 0) none 0 w19 rfl hst19 E19 (fun g' q h => by cases h) rfl S19 hB19
      | ok k6 q3 => exact fns_mloop (mb := mb) he hs (B := w18.heap.size) (k := k6) hst12.lt (by omega) hr6 (fin := funcsL s e k6 0 (fun _ => 0) q3) (fun w r g l a c hr hst hE hl hg S hB => L17 w r g l a c hr hst hE hl hg S hB) k6 0 (.ok (fun _ => 0) q3) (fun _ => 0) none 0 w19 (by omega) hst19 E19 (fun g' q h => by (first | (injection h with z__; injection z__) | injection h)) rfl S19 hB19
end
end Go.Proofs.Qxb6500316a
