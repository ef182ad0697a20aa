/-
  The model's code section: the loop.
-/
import Derived.Test.Qxb6500316aMdO
set_option linter.unusedSimpArgs false
set_option linter.unusedVariables false
set_option maxRecDepth 100000
set_option linter.unusedSectionVars false
namespace Go.Proofs.Qxb6500316a
open Go Go.Vc

/-- A new function. -/
theorem FM.new {w12 w13 : World} {fb : Nat} {ty : Int} {c : Sc} (hc : ∀ j, j < 4 → ∃ v, w12.cell? ⟨fb, j, none⟩ = some v) (hf : ∀ j, w12.frozen? ⟨fb, j, none⟩ = false) (hl : fb < w12.heap.size) (hF : Fill w12 w13 fb 0 [.int .i64 ty, .string eB, .slice none 0 0, .slice none 0 0]) : FM w13 w12.heap.size fb ty eB c.fresh := by
  refine ⟨by rw [hF.cell, if_pos (by simp)]; rfl, by rw [hF.cell, if_pos (by simp)]; rfl, ⟨none, 0, by rw [hF.cell, if_pos (by simp)]; rfl, World.ownsRow_nil w13 _ T_api_Ins 3⟩, ⟨none, 0, by rw [hF.cell, if_pos (by simp)]; rfl, World.ownsRow_nil w13 _ T_uint32 1⟩, fun j => by rw [hF.frozen]; exact hf j, hl, ?_, ?_⟩
  · show 0 ≤ 24; omega
  · show 0 ≤ 96; omega

section
variable {w0 w : World} {rb mb e lo : Nat} {s : ByteArray}
/-- One function, from its window on. -/
theorem code_one (he : e ≤ s.size) (hs : s.size ≤ 1024) {i n : Nat} {ta : Option Addr} {tl tc Bt : Nat} {fr : Nat → FnR} {a : Option Addr} {k : Nat} {c : Sc} {r : Res (Sc × FnP)} {R : Value → World → Prop} (hi : i < 8) (hitl : i < tl) (hV : VF fnE T_api_Func 4 2 w0 w rb mb i fr a k)
    (hT : w0.ownsRow Bt T_int 1 (.slice ta tl tc) tl (rowV iE c.types tl)) (hrT : rb < Bt) (hmT : mb < Bt)
    {ri : Res Unit} {ei : Nat} {at_ size : Int} (hei : ei ≤ s.size) (hst : StR w rb s e lo ri) (hlive : ∀ u p, ri = .ok u p → p ≤ ei ∧ ei ≤ e ∧ IntKind.wrap .i64 ((p : Int) + size) = (ei : Int))
    (hr : r = ri.bind fun _ p => (localsP s ei p).bind fun ls q1 => (bodyP s ei c q1).bind fun c' q2 => if q2 = ei then .ok (c', ⟨c.types i, ls, c'.nI, c'.ins, c'.nTab, c'.tabs⟩) q2 else .err 6 p)
    (hK : ∀ w3 fr' a' k', VF fnE T_api_Func 4 2 w0 w3 rb mb (i + 1) fr' a' k' → StR w3 rb s e lo r → (∀ F x q, NF w w0.heap.size fr F i → r = .ok x q → NF w3 w0.heap.size fr' (upd F i x.2) (i + 1)) → binm_rd_codes.L3 (some ⟨rb, 0, none⟩) (some ⟨mb, 0, none⟩) ta tl tc (n : Int) (e : Int) ((i + 1 : Nat) : Int) R (fun _ _ => False) w3) :
    binm_rd_codes.L5 (some ⟨rb, 0, none⟩) (some ⟨mb, 0, none⟩) ta tl tc at_ (n : Int) (e : Int) (i : Int) size false R (fun _ _ => False) w := by
  refine binm_rd_codes.step5 _ _ _ _ _ _ _ _ _ _ _ _ _ _ ?_
  unfold binm_rd_codes.V5
  refine cond_false' rfl ?_
  simp only [nilV_some, Nat.zero_add]
  obtain ⟨p0, k1, hp0⟩ := hst.c1
  have hcan2 : can w ⟨rb, 2, none⟩ := by
    cases ri using Res.cs with
    | ok u p => exact ⟨⟨_, hst.2.2.c2⟩, hst.2.2.f 2⟩
    | err n x => have hX : RdX w rb s n x := hst; obtain ⟨z, hz⟩ := hX.c2; exact ⟨⟨_, hz⟩, hX.f 2⟩
  refine ⟨_, k1, _, k1, hcan2, letW_intro fun w8 hw8 => ⟨⟨by omega, by omega⟩, ?_⟩⟩
  have S8 : Same [rb] w.heap.size w w8 := by rw [hw8]; exact same_set 2 _
  have st8 : StR w8 rb s ei lo ri := by
    cases ri using Res.cs with
    | ok u p =>
      obtain ⟨g1, g2, g3⟩ := hlive u p rfl
      have := hst.set2 g1
      rw [← g3, ← hp0 u p rfl, ← hw8] at this
      exact this
    | err n x => 
      have hX : RdX w rb s n x := hst
      have := hX.set2 (IntKind.wrap .i64 (p0 + size))
      rw [← hw8] at this
      exact this
  have V8 := hV.step S8
  have z8 := V8.S.size
  have l1 := V8.lr; have l2 := V8.rm; have l3 := V8.mr.lt
  have T8 := row_same hT V8.S (fun d hd => ⟨(hT.lt d hd).2, by have := (hT.lt d hd).1; simp; omega⟩)
  obtain ⟨tb, rfl, _, _, hcell⟩ := row_at (enc := iE) (sz := 1) (fun _ => rfl) T8 hitl
  have hc8 := hcell 0 (.int .i64 (c.types i)) rfl
  simp only [nilV_some, add_mk, Nat.zero_add, Int.toNat_natCast]
  refine ⟨_, hc8, letB_intro fun fb hfb => letW_intro fun w12 hw12 => ?_⟩
  have S12 : Same [] w8.heap.size w8 w12 := by rw [hw12]; exact (Same.refl _ _ _).alloc (Nat.le_refl _) _
  have z12 : w12.heap.size = w8.heap.size + 1 := by rw [hw12]; simp
  have e12 : ∀ j, j < 4 → ∃ v, w12.cell? ⟨fb, j, none⟩ = some v := fun j hj => by
    rw [hw12, hfb, World.cell?_alloc_new]
    match j, hj with
    | 0, _ => exact ⟨_, rfl⟩
    | 1, _ => exact ⟨_, rfl⟩
    | 2, _ => exact ⟨_, rfl⟩
    | 3, _ => exact ⟨_, rfl⟩
  have f12 : ∀ j, w12.frozen? ⟨fb, j, none⟩ = false := fun j => by rw [hw12, hfb, World.frozen?_alloc_new]
  refine putCells_intro fb _ 0 w12 _ (fun j hj => by rw [Nat.zero_add]; exact ⟨e12 j (by simpa using hj), f12 j⟩) (fun w13 hF13 => ?_)
  have F13 : FM w13 w12.heap.size fb (c.types i) eB c.fresh := FM.new e12 f12 (by omega) hF13
  have S13' : Same [] w8.heap.size w8 w13 := S12.trans ((hF13.same w8.heap.size).mono (Nat.le_refl _) (by intro d hd hlt; simp at hd; omega))
  have S13 : Same [rb] w8.heap.size w8 w13 := S13'.mono (Nat.le_refl _) (by simp)
  have st13 := st8.same S13' st8.lt (by simp)
  have hB13 : w12.heap.size ≤ w13.heap.size := (hF13.same 0).size
  have rbB : rb < w12.heap.size := by have := st8.lt; omega
  have rbf : rb ≠ fb := by have := st8.lt; omega
  have rbS : ∀ d, d ∈ [rb] → d < w12.heap.size ∧ d ≠ fb := fun d hd => by simp at hd; subst hd; exact ⟨rbB, rbf⟩
  refine (countm_spec st13 hei hs 6).into fun v w15 hv15 st15 S15 => ⟨_, hv15, ?_⟩
  have F15 := F13.same S15 rbS
  have S8_15 : Same [rb] w8.heap.size w8 w15 := S13.trans (S15.mono S13.size (by simp))
  have hn6 := natR_count ri s ei 6
  have rowlt : ∀ d, (Value.slice a i k).ownBlock = some d → d < w12.heap.size ∧ d ≠ fb := fun d hd => by have := (V8.mr.row.lt d hd).2; omega
  -- behind the locals
  have L8 : ∀ w (r' : Res (List Int)) ls, r' = (ri.bind fun _ p => localsP s ei p) → StR w rb s ei lo r' → FM w w12.heap.size fb (c.types i) ls c.fresh → (∀ l q, r' = .ok l q → ls = strOfNums l) → Same [rb] w8.heap.size w8 w → w12.heap.size ≤ w.heap.size →
      binm_rd_codes.L8 (some ⟨rb, 0, none⟩) (some ⟨mb, 0, none⟩) (some ⟨tb, 0, none⟩) tl tc (n : Int) (e : Int) (i : Int) p0 fb R (fun _ _ => False) w := fun w r' ls hr' st' F' hls S' hB' => by
    refine binm_rd_codes.step8 _ _ _ _ _ _ _ _ _ _ _ _ _ ?_
    unfold binm_rd_codes.V8
    refine RunsQ.post (bodym_spec st' hei hs F' rbB rbf hB') ?_
    rintro v w2 ⟨rfl, st2, ⟨c', F2, hc'⟩, S2⟩
    refine ⟨rfl, ?_⟩
    simp only [nilV_some, Nat.zero_add, true_and]
    have S82 : Same [rb] w8.heap.size w8 w2.drew := (S'.trans (S2.mono (by omega) (by intro d hd hlt; simp at hd ⊢; omega))).drew
    have Vd := V8.step S82
    have Fd := F2.drew
    have std := st2.drew
    have hfin : r = (r'.bind fun ls q1 => (bodyP s ei c q1).bind fun c' q2 => if q2 = ei then .ok (c', ⟨c.types i, ls, c'.nI, c'.ins, c'.nTab, c'.tabs⟩) q2 else .err 6 p0) := by
      rw [hr, hr']
      cases ri using Res.cs with
      | err n x => rfl
      | ok u p => rw [hp0 u p rfl]; rfl
    -- the end of the round
    have fin : ∀ (w : World), Same [rb] w2.drew.heap.size w2.drew w → (∀ w', w' = w.setCell ⟨rb, 2, none⟩ (.int .i64 (e : Int)) → StR w' rb s e lo r) → can w ⟨rb, 2, none⟩ → binm_rd_codes.L13 (some ⟨rb, 0, none⟩) (some ⟨mb, 0, none⟩) (some ⟨tb, 0, none⟩) tl tc (n : Int) (e : Int) (i : Int) fb R (fun _ _ => False) w := fun w Sw hw hcan => by
      have Vw := Vd.step Sw
      have Fw := Fd.same Sw rbS
      refine code_put (r := r) hi Vw Fw rbf (by omega) (by omega) hw hcan rowlt (fun w3 fn a' k' t1 t2 t3 t4 V3 st3 hN => ?_)
      refine hK w3 _ a' k' V3 st3 (fun F x q hNF hx => ?_)
      have S0w : Same [rb] w8.heap.size w8 w := S82.trans (Sw.mono S82.size (by simp))
      have NFw : NF w w0.heap.size fr F i := (hNF.same S8 (fun d hd => by simp at hd; subst hd; exact .inl l1)).same S0w (fun d hd => by simp at hd; subst hd; exact .inl l1)
      have NF3 := hN F NFw
      rw [hfin] at hx
      obtain ⟨l, q1, g1, g2⟩ := bind_ok hx
      obtain ⟨c2, q2, g3, g4⟩ := bind_ok g2
      have hcc := hc' c2 q2 (by rw [g1]; exact g3)
      subst hcc
      split at g4
      · (first | (injection g4 with z__; injection z__ with g4 _) | injection g4 with g4 _)
        intro j hj
        unfold upd
        by_cases hji : j = i
        · rw [if_pos hji, if_pos hji, ← g4]
          exact ⟨t1, by rw [t2]; exact hls l q1 g1, t3, t4⟩
        · rw [if_neg hji, if_neg hji]
          exact NF3 j (by omega)
      · cases g4
    cases hz : r'.bind fun _ p => bodyP s ei c p using Res.cs with
    | err n' x' =>
      rw [hz] at std
      have hX : RdX w2.drew rb s n' x' := std
      have hr0 : r = .err n' x' := by
        rw [hfin]
        cases r' using Res.cs with
        | err n x =>
          have hz : (Res.err n x : Res Sc) = .err n' x' := hz
          (first | (injection hz with z__; injection z__ with z1 z2) | injection hz with z1 z2)
          subst z1 z2
          rfl
        | ok l q1 =>
          have hz : bodyP s ei c q1 = .err n' x' := hz
          rw [Res.bind_ok', hz]; rfl
      refine ⟨_, hX.c3, cond_false' (by simpa using hX.n0) ?_⟩
      refine binm_rd_codes.step10 _ _ _ _ _ _ _ _ _ _ _ _ _ _ ?_
      unfold binm_rd_codes.V10
      refine cond_false' rfl (fin _ (Same.refl _ _ _) (fun w' hw' => ?_) ?_)
      · rw [hr0, hw']; exact hX.set2 _
      · obtain ⟨z, hz⟩ := hX.c2; exact ⟨⟨_, hz⟩, hX.f 2⟩
    | ok c2 q2 =>
      rw [hz] at std
      obtain ⟨l, q1, h1, h2⟩ := bind_ok hz
      obtain ⟨g1, g2, g3⟩ := std
      refine ⟨_, g3.c3, cond_true' rfl ⟨_, g3.c1, _, g3.c2, ?_⟩⟩
      refine binm_rd_codes.step10 _ _ _ _ _ _ _ _ _ _ _ _ _ _ ?_
      unfold binm_rd_codes.V10
      have hri : ∃ u p, ri = .ok u p := by
        cases ri using Res.cs with
        | ok u p => exact ⟨u, p, rfl⟩
        | err n x => rw [h1] at hr'; cases hr'
      obtain ⟨u, p, hri⟩ := hri
      obtain ⟨v1, v2, v3⟩ := hlive u p hri
      have hr0 : r = if q2 = ei then .ok (c2, ⟨c.types i, l, c2.nI, c2.ins, c2.nTab, c2.tabs⟩) q2 else .err 6 p0 := by rw [hfin, h1, Res.bind_ok', h2]; rfl
      by_cases hq : q2 = ei
      · rw [if_pos hq] at hr0
        refine cond_false' (by rw [hq]; simp) (fin _ (Same.refl _ _ _) (fun w' hw' => ?_) ⟨⟨_, g3.c2⟩, g3.f 2⟩)
        rw [hr0, hw']
        exact ⟨g1, by omega, g3.set2 e⟩
      · rw [if_neg hq] at hr0
        refine cond_true' (by simpa using (fun h => hq (by omega) : ¬ (q2 : Int) = (ei : Int))) ?_
        have H1 : StR w2.drew rb s ei lo (.ok c2 q2 : Res Sc) := ⟨g1, g2, g3⟩
        refine (fail_spec (β := Sc × FnP) H1 6 p0 (by decide)).into fun v w20 hv st20 S20 => ⟨hv, fin w20 S20 (fun w' hw' => ?_) ?_⟩
        · have hX : RdX w20 rb s 6 p0 := st20
          rw [hr0, hw']; exact hX.set2 _
        · have hX : RdX w20 rb s 6 p0 := st20
          obtain ⟨z, hz⟩ := hX.c2; exact ⟨⟨_, hz⟩, hX.f 2⟩
  have hfbw : w8.heap.size ≤ fb := by omega
  have e0 : (ri.bind fun _ p => localsP s ei p) = (ri.bind fun _ p => countP s ei 6 p).bind fun g q => localsL s ei g [] q := by rw [Res.bind_bind]; rfl
  rw [e0] at L8
  have hB15 : w12.heap.size ≤ w15.heap.size := by have := S15.size; omega
  generalize (ri.bind fun _ p => countP s ei 6 p) = r2 at *
  cases r2 using Res.cs with
  | err n' x' => exact groups_mloop (mb := mb) hei hs hfbw st8.lt (gs := 0) (by omega) (fin := .err n' x') (fun w r ls h1 h2 h3 h4 h5 h6 => L8 w r ls h1 h2 h3 h4 h5 h6) 0 0 (.err n' x') [] w15 rfl (by simp) st15 F15 (fun l q h => by cases h) rfl S8_15 hB15
  | ok g q => exact groups_mloop (mb := mb) hei hs hfbw st8.lt (gs := g) (by have : natR (Res.ok g q) = g := rfl; rw [this] at hn6; omega) (fin := localsL s ei g [] q) (fun w r ls h1 h2 h3 h4 h5 h6 => L8 w r ls h1 h2 h3 h4 h5 h6) g 0 (.ok [] q) [] w15 (by omega) (by simp) st15 F15 (fun l q h => by (first | (injection h with z__; injection z__) | injection h)) rfl S8_15 hB15

theorem codes_mloop (he : e ≤ s.size) (hs : s.size ≤ 1024) {n : Nat} (hn : n ≤ 8) {ta : Option Addr} {tl tc Bt : Nat} {T : Nat → Int} (hnt : n = tl) (hT : w0.ownsRow Bt T_int 1 (.slice ta tl tc) tl (rowV iE T tl)) (hrT : rb < Bt) (hmT : mb < Bt) {fin : Res (Nat × Sc × (Nat → FnP))} :
    ∀ (k i : Nat) (r : Res (Sc × (Nat → FnP))) (fr : Nat → FnR) (a : Option Addr) (ck : Nat) (w : World), i + k = n → VF fnE T_api_Func 4 2 w0 w rb mb i fr a ck → StR w rb s e lo r → (∀ x q, r = .ok x q → NF w w0.heap.size fr x.2 i ∧ x.1.types = T) → ((r.bind fun x q => codesL s e k i x.1 x.2 q).bind fun x q2 => .ok (n, x.1, x.2) q2) = fin →
      binm_rd_codes.L3 (some ⟨rb, 0, none⟩) (some ⟨mb, 0, none⟩) ta tl tc (n : Int) (e : Int) (i : Int) (CPost w0 rb mb s e lo fin) (fun _ _ => False) w := by
  intro k
  induction k with
  | zero =>
    intro i r fr a ck w hi hV hst hx hfin
    refine binm_rd_codes.step3 _ _ _ _ _ _ _ _ _ _ _ ?_
    unfold binm_rd_codes.V3
    refine cond_false' (decide_eq_false (by omega)) ?_
    have e1 : (r.bind fun x q => codesL s e 0 i x.1 x.2 q) = r := by cases r <;> rfl
    rw [e1] at hfin
    refine ⟨rfl, by rw [← hfin]; exact hst.map _, a, ck, i, fr, hV, fun x q h => ?_⟩
    rw [← hfin] at h
    obtain ⟨y, q', g1, g2⟩ := bind_ok h
    (first | (injection g2 with z__; injection z__ with g2 _) | injection g2 with g2 _)
    subst g2
    exact ⟨by show i = n; omega, (hx y q' g1).1⟩
  | succ k ih =>
    intro i r fr a ck w hi hV hst hx hfin
    refine binm_rd_codes.step3 _ _ _ _ _ _ _ _ _ _ _ ?_
    unfold binm_rd_codes.V3
    simp only [nilV_some, Nat.zero_add]
    refine cond_true' (decide_eq_true (by omega)) ?_
    obtain ⟨y, hy, hy0, hy1⟩ := hst.c3
    refine ⟨_, hy, ?_⟩
    cases r using Res.cs with
    | err n' a' =>
      refine cond_false' (by simpa using (hy1 n' a' rfl).2) ?_
      exact ⟨rfl, by rw [← hfin]; exact hst, a, ck, i, fr, hV, fun x q h => by rw [← hfin] at h; cases h⟩
    | ok x q =>
      obtain ⟨c, F⟩ := x
      obtain ⟨hNF, hty⟩ := hx (c, F) q rfl
      have hty : c.types = T := hty
      refine cond_true' (by simpa using hy0 (c, F) q rfl) ?_
      refine binm_rd_codes.step4 _ _ _ _ _ _ _ _ _ _ _ ?_
      unfold binm_rd_codes.V4
      simp only [nilV_some, Nat.zero_add]
      obtain ⟨glo, gqe, gL⟩ := hst
      refine ⟨_, gL.c1, ?_⟩
      have H0 : StR w rb s e lo (.ok () q : Res Unit) := ⟨glo, gqe, gL⟩
      refine (u32m_spec H0 he hs).into fun v w4 hv hst4 S4 => ⟨_, hv.1, ?_⟩
      have V4 := hV.step S4
      rw [Res.bind_ok'] at hst4 hv ⊢
      have l1 := hV.lr
      have NF4 := hNF.same S4 (fun d hd => by simp at hd; subst hd; exact .inl l1)
      have hT' : w0.ownsRow Bt T_int 1 (.slice ta tl tc) tl (rowV iE c.types tl) := by rw [hty]; exact hT
      have hfin2 : (((codeRow s e c i q).bind fun x q => (.ok (x.1, upd F i x.2) q : Res (Sc × (Nat → FnP)))).bind fun x q => codesL s e k (i + 1) x.1 x.2 q).bind (fun x q2 => .ok (n, x.1, x.2) q2) = fin := by
        rw [← hfin, Res.bind_ok', codesL_row, Res.bind_bind]
        cases codeRow s e c i q <;> rfl
      -- the next round
      have nxt : ∀ w3 fr' a' k', VF fnE T_api_Func 4 2 w0 w3 rb mb (i + 1) fr' a' k' → StR w3 rb s e lo (codeRow s e c i q) → (∀ F x q', NF w4 w0.heap.size fr F i → codeRow s e c i q = .ok x q' → NF w3 w0.heap.size fr' (upd F i x.2) (i + 1)) → binm_rd_codes.L3 (some ⟨rb, 0, none⟩) (some ⟨mb, 0, none⟩) ta tl tc (n : Int) (e : Int) ((i + 1 : Nat) : Int) (CPost w0 rb mb s e lo fin) (fun _ _ => False) w3 := fun w3 fr' a' k' V3 st3 hN => by
        refine ih (i + 1) ((codeRow s e c i q).bind fun x q => .ok (x.1, upd F i x.2) q) fr' a' k' w3 (by omega) V3 (st3.map _) (fun x q' h => ?_) hfin2
        obtain ⟨z, q2, g1, g2⟩ := bind_ok h
        (first | (injection g2 with z__; injection z__ with g2 _) | injection g2 with g2 _)
        subst g2
        refine ⟨hN F z q2 NF4 g1, ?_⟩
        unfold codeRow at g1
        obtain ⟨z1, q3, g3, g4⟩ := bind_ok g1
        obtain ⟨z2, q4, g5, g6⟩ := bind_ok g4
        obtain ⟨z3, q5, g7, g8⟩ := bind_ok g6
        split at g8
        · (first | (injection g8 with z__; injection z__ with g8 _) | injection g8 with g8 _)
          rw [← g8]
          show z3.types = T
          rw [(bodyP_g g7).2.1, hty]
        · cases g8
      cases hz : u32P s e q using Res.cs with
      | err n' x' =>
        rw [hz] at hst4
        have hX : RdX w4 rb s n' x' := hst4
        refine ⟨_, hX.c3, cond_false' (by simpa using hX.n0) ?_⟩
        refine code_one (ri := .err n' x') (ei := e) (r := codeRow s e c i q) (c := c) he hs (by omega) (by omega) V4 hT' hrT hmT he hst4 (fun u p h => by cases h) ?_ nxt
        unfold codeRow enterP
        rw [hz]; rfl
      | ok m p1 =>
        rw [hz] at hst4 hv
        have hm : 0 ≤ m ∧ m ≤ 4294967295 := hv.2
        obtain ⟨j1, j2, j3⟩ := hst4
        rw [show numR (Res.ok m p1) = m from rfl]
        refine ⟨_, j3.c3, cond_true' rfl ⟨_, j3.c1, ?_⟩⟩
        have ew : IntKind.wrap .i64 ((e : Int) - (p1 : Int)) = (e : Int) - (p1 : Int) := wrap_i64 (by omega) (by omega)
        rw [ew]
        have H1 : StR w4 rb s e lo (.ok () p1 : Res Unit) := ⟨j1, j2, j3⟩
        by_cases hbig : (e : Int) - (p1 : Int) < m
        · rw [decide_eq_true (show m > (e : Int) - (p1 : Int) from hbig)]
          have hrow : codeRow s e c i q = .err 3 q := by
            unfold codeRow enterP
            rw [hz, Res.bind_ok', if_pos hbig]; rfl
          refine binm_rd_codes.step5 _ _ _ _ _ _ _ _ _ _ _ _ _ _ ?_
          unfold binm_rd_codes.V5
          refine cond_true' rfl ?_
          refine (fail_spec (β := Nat × Sc × (Nat → FnP)) H1 3 (q : Int) (by decide)).into fun v w9 hv st9 S9 => ⟨hv, ?_⟩
          rw [← hfin2, hrow]
          exact ⟨rfl, st9, a, ck, i, fr, V4.step S9, fun x q h => by cases h⟩
        · rw [decide_eq_false (show ¬ m > (e : Int) - (p1 : Int) from hbig)]
          refine code_one (ri := .ok () p1) (ei := p1 + m.toNat) (r := codeRow s e c i q) (c := c) he hs (by omega) (by omega) V4 hT' hrT hmT (by omega) H1 (fun u p h => ?_) ?_ nxt
          · (first | (injection h with z__; injection z__ with _ h) | injection h with _ h)
            subst h
            refine ⟨by omega, by omega, ?_⟩
            rw [wrap_i64 (by omega) (by omega)]
            omega
          · unfold codeRow enterP
            rw [hz, Res.bind_ok', if_neg hbig]; rfl

theorem codesm_spec {α : Type} {r0 : Res α} (h : StR w rb s e lo r0) (he : e ≤ s.size) (hs : s.size ≤ 1024) {ta : Option Addr} {tl tc Bt : Nat} {c : Sc} (hT : w.ownsRow Bt T_int 1 (.slice ta tl tc) tl (rowV iE c.types tl)) (hrT : rb < Bt) (hmT : mb < Bt) (hc : c.nT = tl) (htl : tl ≤ 8)
    (hm : w.cell? ⟨mb, 2, none⟩ = some (.slice none 0 0)) (hf : ∀ j, w.frozen? ⟨mb, j, none⟩ = false) (hrm : rb ≠ mb) (hmw : mb < w.heap.size) :
    Runs Try.prog binm_rd_codes.id #[rp rb, rp mb, .slice ta tl tc] w (CPost w rb mb s e lo (r0.bind fun _ p => codesP s e c p)) := by
  refine binm_rd_codes.enter _ _ _ _ _ _ _ _ ?_
  unfold binm_rd_codes.V
  simp only [nilV_some, Nat.zero_add]
  obtain ⟨p0, k1, hp0⟩ := h.c1
  refine ⟨_, k1, (countm_spec h he hs 8).into fun v w9 hv hst S9 => ⟨_, hv, ?_⟩⟩
  have hn := natR_count r0 s e 8
  have hrl := h.lt
  have e0 : (r0.bind fun _ p => codesP s e c p) = (r0.bind fun _ p => countP s e 8 p).bind fun n q => if n = c.nT then (codesL s e n 0 c fn0 q).bind fun x q2 => .ok (n, x.1, x.2) q2 else .err 12 p0 := by
    cases r0 using Res.cs with
    | err n x => rfl
    | ok a q => rw [hp0 a q rfl]; rfl
  rw [e0]
  have V9 : VF fnE T_api_Func 4 2 w w9 rb mb 0 (fun _ => ⟨0, eB, .slice none 0 0, .slice none 0 0⟩) none 0 := by
    have V0 : VF fnE T_api_Func 4 2 w w rb mb 0 (fun _ => ⟨0, eB, .slice none 0 0, .slice none 0 0⟩) none 0 := ⟨⟨hm, World.ownsRow_nil w _ T_api_Func 4, hf, hmw⟩, Same.refl _ _ _, fun _ _ => rfl, hrm, hrl⟩
    exact V0.step S9
  generalize (r0.bind fun _ p => countP s e 8 p) = r1 at *
  have L2 : ∀ (w' : World) (n : Nat) (hn8 : n ≤ 8) (r : Res (Sc × (Nat → FnP))) (fin : Res (Nat × Sc × (Nat → FnP))), VF fnE T_api_Func 4 2 w w' rb mb 0 (fun _ => ⟨0, eB, .slice none 0 0, .slice none 0 0⟩) none 0 → StR w' rb s e lo r → (∀ x q, r = .ok x q → x.1.types = c.types ∧ n = tl) → ((r.bind fun x q => codesL s e n 0 x.1 x.2 q).bind fun x q2 => .ok (n, x.1, x.2) q2) = fin → 
      binm_rd_codes.L2 (some ⟨rb, 0, none⟩) (some ⟨mb, 0, none⟩) ta tl tc (n : Int) (CPost w rb mb s e lo fin) (fun _ _ => False) w' := fun w' n hn8 r fin V' st' hx hfin => by
    refine binm_rd_codes.step2 _ _ _ _ _ _ _ _ _ ?_
    unfold binm_rd_codes.V2
    simp only [nilV_some, Nat.zero_add]
    cases r using Res.cs with
    | err n' x' =>
      have hX : RdX w' rb s n' x' := st'
      obtain ⟨z, hz⟩ := hX.c2
      refine ⟨_, hz, ?_⟩
      refine binm_rd_codes.step3 _ _ _ _ _ _ _ _ _ _ _ ?_
      unfold binm_rd_codes.V3
      simp only [nilV_some, Nat.zero_add]
      have out : CPost w rb mb s e lo fin (.tuple #[]) w' := ⟨rfl, by rw [← hfin]; exact hX, none, 0, 0, _, V', fun x q h => by rw [← hfin] at h; cases h⟩
      exact cond_intro (fun _ => ⟨_, hX.c3, cond_false' (by simpa using hX.n0) out⟩) (fun _ => out)
    | ok x q =>
      obtain ⟨h1, h2⟩ := hx x q rfl
      refine ⟨_, st'.2.2.c2, ?_⟩
      exact codes_mloop he hs hn8 (T := c.types) h2 hT hrT hmT n 0 (.ok x q) _ none 0 w' (by omega) V' st' (fun y q' h => by (first | (injection h with z__; injection z__ with h _) | injection h with h _); subst h; exact ⟨fun j hj => by omega, h1⟩) hfin
  cases r1 using Res.cs with
  | err n' x' =>
    have hX : RdX w9 rb s n' x' := hst
    refine ⟨_, hX.c3, cond_false' (by simpa using hX.n0) ?_⟩
    refine binm_rd_codes.step1 _ _ _ _ _ _ _ _ _ _ _ ?_
    unfold binm_rd_codes.V1
    refine cond_false' rfl ?_
    exact L2 w9 0 (by omega) (.err n' x') _ V9 hX (fun x q h => by cases h) rfl
  | ok n q =>
    rw [show natR (Res.ok n q) = n from rfl] at *
    refine ⟨_, hst.2.2.c3, cond_true' rfl ?_⟩
    refine binm_rd_codes.step1 _ _ _ _ _ _ _ _ _ _ _ ?_
    unfold binm_rd_codes.V1
    rw [Res.bind_ok']
    by_cases hnt : n = tl
    · refine cond_false' (by rw [hnt]; simp) ?_
      rw [if_pos (by omega)]
      exact L2 w9 n (by omega) (.ok (c, fn0) q) _ V9 hst (fun x q h => by (first | (injection h with z__; injection z__ with h _) | injection h with h _); subst h; exact ⟨rfl, hnt⟩) rfl
    · refine cond_true' (by simpa using (fun h => hnt (by omega) : ¬ (n : Int) = (tl : Int))) ?_
      rw [if_neg (by omega)]
      refine (fail_spec (β := Sc × (Nat → FnP)) hst 12 p0 (by decide)).into fun v w10 hv10 st10 S10 => ⟨hv10, ?_⟩
      exact L2 w10 n (by omega) (.err 12 p0) _ (V9.step S10) st10 (fun x q h => by cases h) rfl
end
end Go.Proofs.Qxb6500316a
