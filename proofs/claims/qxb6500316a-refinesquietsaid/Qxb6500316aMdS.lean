/-
  The model's decoder.
-/
import Derived.Test.Qxb6500316aMdR
import Derived.Test.Qxb6500316aEnJ
set_option linter.unusedSimpArgs false
set_option linter.unusedVariables false
set_option maxRecDepth 100000
set_option linter.unusedSectionVars false
namespace Go.Proofs.Qxb6500316a
open Go Go.Vc

theorem codesL_ty {s : ByteArray} {e : Nat} : ∀ (k i : Nat) (c : Sc) (F : Nat → FnP) (p : Nat) {x : Sc × (Nat → FnP)} {q : Nat}, codesL s e k i c F p = .ok x q → x.1.types = c.types ∧ x.1.nT = c.nT
  | 0, i, c, F, p, x, q, h => by (first | (injection h with z__; injection z__ with h _) | injection h with h _); subst h; exact ⟨rfl, rfl⟩
  | k + 1, i, c, F, p, x, q, h => by
    rw [codesL_row] at h
    obtain ⟨y, q1, h1, h2⟩ := bind_ok h
    have := codesL_ty k (i + 1) y.1 _ q1 h2
    unfold codeRow at h1
    obtain ⟨z1, q3, g3, g4⟩ := bind_ok h1
    obtain ⟨z2, q4, g5, g6⟩ := bind_ok g4
    obtain ⟨z3, q5, g7, g8⟩ := bind_ok g6
    split at g8
    · (first | (injection g8 with z__; injection z__ with g8 _) | injection g8 with g8 _)
      subst g8
      have hb := bodyP_g g7
      exact ⟨this.1.trans hb.2.1, this.2.trans hb.2.2⟩
    · cases g8

/-- What the model's decoder answers. -/
def DMA (w0 : World) (s : ByteArray) (r : Res (Sc × PM)) : Value → World → Prop := fun v w' => Same [] w0.heap.size w0 w' ∧
  ((∃ cp q B mb, r = .ok cp q ∧ v = .tuple #[rp mb, .int .i64 ((s.size : Nat) : Int), .int .i64 0] ∧ MG w' B mb cp.2 ∧ w0.heap.size ≤ mb) ∨ ∃ n a, r = .err n a ∧ v = .tuple #[.pointer none, .int .i64 a, .int .i64 n])

section
variable {w0 w : World} {rb mb B : Nat} {s : ByteArray}
theorem dec_stuck {ta : Option Addr} {tl tc : Nat} {last : Int} {r : Res (Sc × PM)} {n x : Int} (hr : r = .err n x) (hX : RdX w rb s n x) (S0 : Same [] w0.heap.size w0 w) :
    binm_Bin_Decode.L1 s (some ⟨rb, 0, none⟩) (some ⟨mb, 0, none⟩) last ta tl tc (DMA w0 s r) (fun _ _ => False) w := by
  have L3 : binm_Bin_Decode.L3 s (some ⟨rb, 0, none⟩) (some ⟨mb, 0, none⟩) ta tl tc (DMA w0 s r) (fun _ _ => False) w := by
    refine binm_Bin_Decode.step3 _ _ _ _ _ _ _ _ _ ?_
    unfold binm_Bin_Decode.V3
    simp only [nilV_some, Nat.zero_add, true_and]
    have hd := hX.drew
    exact ⟨_, hX.c3, cond_true' (by simpa using hX.n0) ⟨_, hd.c4, _, hd.c3, S0.drew, .inr ⟨n, x, hr, rfl⟩⟩⟩
  refine binm_Bin_Decode.step1 _ _ _ _ _ _ _ _ _ _ ?_
  unfold binm_Bin_Decode.V1
  simp only [nilV_some, Nat.zero_add]
  obtain ⟨p, h1⟩ := hX.c1
  exact ⟨_, h1, cond_intro (fun _ => ⟨_, hX.c3, cond_false' (by simpa using hX.n0) L3⟩) (fun _ => L3)⟩

theorem decL_succ' (s : ByteArray) (k : Nat) (last : Int) (c : Sc) (P : PM) (p : Nat) : decL s (k + 1) last c P p = if p < s.size then (nextP s s.size p).bind fun id q => if id ≤ last ∨ 11 < id then .err 5 p else (enterP s s.size q).bind fun n q1 =>
      (secP s (q1 + n) id c P q1).bind fun cp q2 => if q2 = q1 + n then decL s k id cp.1 cp.2 q2 else .err 6 q1
    else if c.nT = P.nf then .ok (c, P) p else .err 12 s.size := rfl

theorem dec_mloop (hs : s.size ≤ 1024) (hrm : rb ≠ mb) (hrb : rb < B) (hr0 : w0.heap.size ≤ rb) (hm0 : w0.heap.size ≤ mb) {r : Res (Sc × PM)} :
    ∀ (k : Nat) (last : Int) (c : Sc) (P : PM) (p : Nat) (ta : Option Addr) (tl tc : Nat) (w : World), s.size - p < k → RdL w rb s p s.size → p ≤ s.size → MG w B mb P → Fr w mb last P → 0 ≤ last → w.ownsRow B T_int 1 (.slice ta tl tc) tl (rowV iE c.types tl) → c.nT = tl → tl ≤ 8 → decL s k last c P p = r → Same [] w0.heap.size w0 w → B ≤ w.heap.size →
      binm_Bin_Decode.L1 s (some ⟨rb, 0, none⟩) (some ⟨mb, 0, none⟩) last ta tl tc (DMA w0 s r) (fun _ _ => False) w := by
  intro k
  induction k with
  | zero => intro last c P p ta tl tc w hk; omega
  | succ k ih =>
    intro last c P p ta tl tc w hk hL hp M G hl hT hc htl hr S0 hB
    have hml := M.lt
    have hmw := M.ltw
    rw [decL_succ'] at hr
    refine binm_Bin_Decode.step1 _ _ _ _ _ _ _ _ _ _ ?_
    unfold binm_Bin_Decode.V1
    simp only [nilV_some, Nat.zero_add]
    refine ⟨_, hL.c1, ?_⟩
    by_cases hps : ¬ p < s.size
    · rw [if_neg hps] at hr
      refine cond_false' (decide_eq_false (by omega)) ?_
      refine binm_Bin_Decode.step3 _ _ _ _ _ _ _ _ _ ?_
      unfold binm_Bin_Decode.V3
      simp only [nilV_some, Nat.zero_add, true_and]
      refine ⟨_, hL.c3, cond_false' rfl ?_⟩
      obtain ⟨fr, ⟨fa, fc, f1, f2⟩, f3⟩ := M.f2
      refine ⟨_, _, _, f1, ?_⟩
      by_cases hn : c.nT = P.nf
      · rw [if_pos hn] at hr
        refine cond_false' (by rw [← hn, hc]; simp) ⟨S0, .inl ⟨_, _, B, mb, hr.symm, rfl, M, hm0⟩⟩
      · rw [if_neg hn] at hr
        refine cond_true' (by simpa using (fun h => hn (by omega) : ¬ (tl : Int) = (P.nf : Int))) ⟨S0, .inr ⟨_, _, hr.symm, rfl⟩⟩
    have hps : p < s.size := by omega
    rw [if_pos hps, nextP_in hps, Res.bind_ok'] at hr
    refine cond_true' (decide_eq_true (by omega)) ⟨_, hL.c3, cond_true' rfl ?_⟩
    refine binm_Bin_Decode.step2 _ _ _ _ _ _ _ _ _ _ ?_
    unfold binm_Bin_Decode.V2
    simp only [nilV_some, Nat.zero_add]
    refine ⟨_, hL.c1, ?_⟩
    have H0 : StR w rb s s.size 0 (.ok () p : Res Unit) := ⟨by omega, hp, hL⟩
    refine (byte_spec H0 (Nat.le_refl _) hs).into fun v w4 hv st4 S4 => ⟨_, hv, ?_⟩
    rw [Res.bind_ok', nextP_in hps] at st4
    rw [Res.bind_ok', nextP_in hps, show numR (Res.ok ((nb s p : Nat) : Int) (p + 1)) = ((nb s p : Nat) : Int) from rfl]
    obtain ⟨_, _, L4'⟩ := st4
    have rbS : ∀ d, d ∈ [rb] → d < B ∧ d ≠ mb := fun d hd => by simp at hd; subst hd; exact ⟨hrb, hrm⟩
    have rowS : ∀ {w w' : World} {v : Value} {e : TypeId} {sz n : Nat} {xs : List Value}, w.ownsRow B e sz v n xs → Same [rb] w.heap.size w w' → w'.ownsRow B e sz v n xs := fun hh hS => row_same hh hS (fun d hd => ⟨(hh.lt d hd).2, by have := (hh.lt d hd).1; simp; omega⟩)
    have S04 : Same [] w0.heap.size w0 w4 := S0.trans (S4.mono S0.size (by intro d hd hlt; simp at hd; omega))
    have M4 := M.same S4 rbS
    have G4 := G.same S4 hmw (by simp; omega)
    have T4 := rowS hT S4
    have hB4 : B ≤ w4.heap.size := by have := S4.size; omega
    have hbyte := nb_lt s p
    have L4 : ∀ t, t = decide (((nb s p : Nat) : Int) ≤ last ∨ 11 < ((nb s p : Nat) : Int)) → binm_Bin_Decode.L4 s (some ⟨rb, 0, none⟩) (some ⟨mb, 0, none⟩) ta tl tc (p : Int) ((nb s p : Nat) : Int) t (DMA w0 s r) (fun _ _ => False) w4 := fun t ht => by
      refine binm_Bin_Decode.step4 _ _ _ _ _ _ _ _ _ _ _ _ ?_
      unfold binm_Bin_Decode.V4
      refine cond_intro (fun e1 => ?_) (fun e1 => ?_)
      · have e1 := of_decide_eq_true (ht ▸ e1)
        rw [if_pos e1] at hr
        exact ⟨S04, .inr ⟨_, _, hr.symm, rfl⟩⟩
      have e1 := of_decide_eq_false (ht ▸ e1)
      rw [if_neg e1] at hr
      simp only [nilV_some, Nat.zero_add]
      refine ⟨_, L4'.c1, ?_⟩
      have H4 : StR w4 rb s s.size 0 (.ok () (p + 1) : Res Unit) := ⟨by omega, by omega, L4'⟩
      refine (u32m_spec H4 (Nat.le_refl _) hs).into fun v w5 hv5 st5 S5 => ⟨_, hv5.1, ?_⟩
      have S05 : Same [] w0.heap.size w0 w5 := S04.trans (S5.mono S04.size (by intro d hd hlt; simp at hd; omega))
      have M5 := M4.same S5 rbS
      have G5 := G4.same S5 M4.ltw (by simp; omega)
      have T5 := rowS T4 S5
      have hB5 : B ≤ w5.heap.size := by have := S5.size; omega
      rw [Res.bind_ok'] at st5 hv5 ⊢
      generalize hid : ((nb s p : Nat) : Int) = id at *
      -- behind the size
      have L5 : ∀ (ri : Res Unit) (ei : Nat) (size : Int), ei ≤ s.size → StR w5 rb s s.size 0 ri → (∀ u p1, ri = .ok u p1 → p + 1 ≤ p1 ∧ p1 ≤ ei ∧ IntKind.wrap .i64 ((p1 : Int) + size) = (ei : Int)) → (ri.bind fun _ p1 => (secP s ei id c P p1).bind fun cp q2 => if q2 = ei then decL s k id cp.1 cp.2 q2 else .err 6 p1) = r →
          binm_Bin_Decode.L5 s (some ⟨rb, 0, none⟩) (some ⟨mb, 0, none⟩) id ta tl tc ((p + 1 : Nat) : Int) id size false (DMA w0 s r) (fun _ _ => False) w5 := fun ri ei size hei hst hlive hrr => by
        refine binm_Bin_Decode.step5 _ _ _ _ _ _ _ _ _ _ _ _ _ _ ?_
        unfold binm_Bin_Decode.V5
        refine cond_false' rfl ?_
        simp only [nilV_some, Nat.zero_add]
        obtain ⟨p0, k1, hp0⟩ := hst.c1
        have hcan2 : can w5 ⟨rb, 2, none⟩ := by
          cases ri using Res.cs with
          | ok u p => exact ⟨⟨_, hst.2.2.c2⟩, hst.2.2.f 2⟩
          | err n x => have hX : RdX w5 rb s n x := hst; obtain ⟨z, hz⟩ := hX.c2; exact ⟨⟨_, hz⟩, hX.f 2⟩
        refine ⟨_, k1, _, k1, hcan2, letW_intro fun w6 hw6 => ?_⟩
        have S6 : Same [rb] w5.heap.size w5 w6 := by rw [hw6]; exact same_set 2 _
        have st6 : StR w6 rb s ei 0 ri := by
          cases ri using Res.cs with
          | ok u p1 =>
            obtain ⟨g1, g2, g3⟩ := hlive u p1 rfl
            have := hst.set2 g2
            rw [← g3, ← hp0 u p1 rfl, ← hw6] at this
            exact this
          | err n x => 
            have hX : RdX w5 rb s n x := hst
            have := hX.set2 (IntKind.wrap .i64 (p0 + size))
            rw [← hw6] at this
            exact this
        have S06 : Same [] w0.heap.size w0 w6 := S05.trans (S6.mono S05.size (by intro d hd hlt; simp at hd; omega))
        have M6 := M5.same S6 rbS
        have G6 := G5.same S6 M5.ltw (by simp; omega)
        have T6 := rowS T5 S6
        have hB6 : B ≤ w6.heap.size := by have := S6.size; omega
        -- behind the section
        have L6 : ∀ (w7 : World) (ta' : Option Addr) (tl' tc' : Nat), StR w7 rb s ei 0 (ri.bind fun _ p1 => secP s ei id c P p1) → Same [rb, mb] w6.heap.size w6 w7 → (∀ cp q, (ri.bind fun _ p1 => secP s ei id c P p1) = .ok cp q → MG w7 B mb cp.2 ∧ Fr w7 mb id cp.2 ∧ w7.ownsRow B T_int 1 (.slice ta' tl' tc') tl' (rowV iE cp.1.types tl') ∧ cp.1.nT = tl' ∧ tl' ≤ 8) →
            binm_Bin_Decode.L6 s (some ⟨rb, 0, none⟩) (some ⟨mb, 0, none⟩) id ta' tl' tc' p0 (DMA w0 s r) (fun _ _ => False) w7 := fun w7 ta' tl' tc' st7 S7 hcp => by
          refine binm_Bin_Decode.step6 _ _ _ _ _ _ _ _ _ _ _ ?_
          unfold binm_Bin_Decode.V6
          simp only [nilV_some, Nat.zero_add, true_and]
          have S07 : Same [] w0.heap.size w0 w7.drew := (S06.trans (S7.mono S06.size (by intro d hd hlt; simp at hd; omega))).drew
          have hB7 : B ≤ w7.drew.heap.size := by have := S7.size; show B ≤ w7.heap.size; omega
          have std := st7.drew
          cases hz : ri.bind fun _ p1 => secP s ei id c P p1 using Res.cs with
          | err n x =>
            rw [hz] at std
            have hX : RdX w7.drew rb s n x := std
            have hre : r = .err n x := by
              rw [← hrr]
              cases ri using Res.cs with
              | err n' x' =>
                exact hz
              | ok u p1 =>
                have hz : secP s ei id c P p1 = .err n x := hz
                rw [Res.bind_ok', hz]; rfl
            refine ⟨_, hX.c3, cond_false' (by simpa using hX.n0) ?_⟩
            refine binm_Bin_Decode.step7 _ _ _ _ _ _ _ _ _ _ _ _ ?_
            unfold binm_Bin_Decode.V7
            simp only [nilV_some, Nat.zero_add]
            obtain ⟨z, hz2⟩ := hX.c2
            refine cond_false' rfl ⟨⟨⟨_, hz2⟩, hX.f 2⟩, letW_intro fun w9 hw9 => ?_⟩
            refine dec_stuck hre (by rw [hw9]; exact hX.set2 _) ?_
            rw [hw9]
            exact S07.setCell (.inl hr0) _
          | ok cp q2 =>
            rw [hz] at std
            obtain ⟨M7, G7, T7, c7, l7⟩ := hcp cp q2 hz
            obtain ⟨u, p1, hri, hz'⟩ := bind_ok hz
            subst hri
            obtain ⟨v1, v2, v3⟩ := hlive u p1 rfl
            obtain ⟨_, j2, j3⟩ := std
            have hre : r = if q2 = ei then decL s k id cp.1 cp.2 q2 else .err 6 p1 := by rw [← hrr, Res.bind_ok', hz']; rfl
            refine ⟨_, j3.c3, cond_true' rfl ⟨_, j3.c1, _, j3.c2, ?_⟩⟩
            refine binm_Bin_Decode.step7 _ _ _ _ _ _ _ _ _ _ _ _ ?_
            unfold binm_Bin_Decode.V7
            simp only [nilV_some, Nat.zero_add]
            by_cases hq : q2 = ei
            · rw [if_pos hq] at hre
              refine cond_false' (by rw [hq]; simp) ⟨⟨⟨_, j3.c2⟩, j3.f 2⟩, letW_intro fun w9 hw9 => ?_⟩
              have S9 : Same [rb] w7.drew.heap.size w7.drew w9 := by rw [hw9]; exact same_set 2 _
              have L9 : RdL w9 rb s q2 s.size := by rw [hw9]; exact j3.set2 s.size
              have hd0 : Same [rb] w7.heap.size w7 w7.drew := (Same.refl _ _ _).drew
              refine ih id cp.1 cp.2 q2 ta' tl' tc' w9 (by omega) L9 (by omega) (M7.drew.same S9 rbS) ((G7.same hd0 M7.ltw (by simp; omega)).same S9 M7.drew.ltw (by simp; omega)) (by omega) (rowS (rowS T7 hd0) S9) c7 l7 hre.symm (S07.trans (S9.mono S07.size (by intro d hd hlt; simp at hd; omega))) (by have := S9.size; omega)
            · rw [if_neg hq] at hre
              refine cond_true' (by simpa using (fun h => hq (by omega) : ¬ (q2 : Int) = (ei : Int))) ⟨S07, .inr ⟨_, _, hre, by rw [hp0 u p1 rfl]⟩⟩
        by_cases h3 : id = 3
        · refine cond_true' (by rw [h3]; rfl) ?_
          refine RunsQ.post (funcsm_spec st6 hei hs c.types) ?_
          rintro v w8 ⟨a8, l8, c8, f8, rfl, ho8, hl8, hx8, st8, S8⟩
          refine ⟨_, _, _, rfl, ?_⟩
          have e0 : (ri.bind fun _ p1 => secP s ei id c P p1) = (ri.bind fun _ p1 => funcsP s ei c.types p1).bind fun a q => .ok ({ { c with types := a.2 } with nT := a.1 }, P) q := by rw [h3, Res.bind_bind]; rfl
          refine L6 w8 a8 l8 c8 (by rw [e0]; exact st8.map _) (S8.mono (Nat.le_refl _) (by simp)) (fun cp q hq => ?_)
          rw [e0] at hq
          obtain ⟨y, q', g1, g2⟩ := bind_ok hq
          (first | (injection g2 with z__; injection z__ with g2 _) | injection g2 with g2 _)
          subst g2
          obtain ⟨rfl, rfl⟩ := hx8 y q' g1
          have G8 := G6.same S8 M6.ltw (by simp; omega)
          refine ⟨M6.same S8 rbS, ⟨fun z => G8.a1 (by omega), fun z => G8.a2 (by omega), fun z => G8.a6 (by omega), fun z => G8.a7 (by omega), fun z => G8.a9 (by omega), fun z => G8.a10 (by omega), fun z => G8.a11 (by omega)⟩, row_base ho8 hB6, rfl, hl8⟩
        refine cond_false' (by simpa using h3) ?_
        have mS : ∀ {w w' : World} {v : Value} {e : TypeId} {sz n : Nat} {xs : List Value}, w.ownsRow B e sz v n xs → Same [rb, mb] w.heap.size w w' → w'.ownsRow B e sz v n xs := fun hh hS => row_same hh hS (fun d hd => ⟨(hh.lt d hd).2, by have := (hh.lt d hd).1; simp; omega⟩)
        by_cases h10 : id = 10
        · refine cond_true' (by rw [h10]; rfl) ?_
          refine RunsQ.post (codesm_spec (mb := mb) st6 hei hs T6 hrb hml hc htl (G6.a10 (by omega)).2 M6.fz hrm M6.ltw) ?_
          rintro v w8 ⟨rfl, st8, a8, c8, l8, fr8, V8, hx8⟩
          refine ⟨rfl, ?_⟩
          have e0 : (ri.bind fun _ p1 => secP s ei id c P p1) = (ri.bind fun _ p1 => codesP s ei c p1).bind fun a q => .ok (a.2.1, if a.1 = 0 then P else { { P with nf := a.1 } with fn := a.2.2 }) q := by rw [h10, Res.bind_bind]; rfl
          refine L6 w8 ta tl tc (by rw [e0]; exact st8.map _) V8.S (fun cp q hq => ?_)
          rw [e0] at hq
          obtain ⟨y, q', g1, g2⟩ := bind_ok hq
          (first | (injection g2 with z__; injection z__ with g2 _) | injection g2 with g2 _)
          subst g2
          obtain ⟨h1, h2⟩ := hx8 y q' g1
          have hty : y.2.1.types = c.types ∧ y.2.1.nT = c.nT := by
            obtain ⟨u, p1, _, g4⟩ := bind_ok g1
            obtain ⟨n, q5, g5, g6⟩ := bind_ok g4
            split at g6
            · obtain ⟨z, q6, g7, g8⟩ := bind_ok g6
              (first | (injection g8 with z__; injection z__ with g8 _) | injection g8 with g8 _)
              subst g8
              exact codesL_ty _ _ _ _ _ g7
            · cases g6
          have := M6.put10 G6 (by omega) V8 h2 hrb hB6
          rw [h1] at this
          refine ⟨this.1, by rw [h10]; exact this.2, by show w8.ownsRow B T_int 1 (.slice ta tl tc) tl (rowV iE y.2.1.types tl); rw [hty.1]; exact mS T6 V8.S, hty.2.trans hc, htl⟩
        · refine cond_false' (by simpa using h10) ?_
          refine RunsQ.post (sectm_spec (c := c) st6 hei hs M6 G6 (by omega) hrb hB6 hrm (by omega)) ?_
          rintro v w8 ⟨rfl, st8, S8, hx8⟩
          refine ⟨rfl, L6 w8 ta tl tc st8 S8 (fun cp q hq => ?_)⟩
          obtain ⟨h1, h2, h3⟩ := hx8 cp q hq
          exact ⟨h2, h3, by rw [h1]; exact mS T6 S8, by rw [h1]; exact hc, htl⟩
      cases hz : u32P s s.size (p + 1) using Res.cs with
      | err n x =>
        rw [hz] at st5
        have hX : RdX w5 rb s n x := st5
        refine ⟨_, hX.c3, cond_false' (by simpa using hX.n0) ?_⟩
        refine L5 (.err n x) s.size _ (Nat.le_refl _) hX (fun u p1 h => by cases h) ?_
        rw [← hr]
        unfold enterP
        rw [hz]; rfl
      | ok m p1 =>
        rw [hz] at st5 hv5
        have hm : 0 ≤ m ∧ m ≤ 4294967295 := hv5.2
        have hge := u32P_ge hz
        obtain ⟨_, j2, j3⟩ := st5
        rw [show numR (Res.ok m p1) = m from rfl]
        refine ⟨_, j3.c3, cond_true' rfl ⟨_, j3.c1, ?_⟩⟩
        have ew : IntKind.wrap .i64 ((s.size : Int) - (p1 : Int)) = (s.size : Int) - (p1 : Int) := wrap_i64 (by omega) (by omega)
        rw [ew]
        by_cases hbig : (s.size : Int) - (p1 : Int) < m
        · rw [decide_eq_true (show m > (s.size : Int) - (p1 : Int) from hbig)]
          refine binm_Bin_Decode.step5 _ _ _ _ _ _ _ _ _ _ _ _ _ _ ?_
          unfold binm_Bin_Decode.V5
          refine cond_true' rfl ⟨S05, .inr ⟨3, _, ?_, rfl⟩⟩
          rw [← hr]
          unfold enterP
          rw [hz, Res.bind_ok', if_pos hbig]; rfl
        · rw [decide_eq_false (show ¬ m > (s.size : Int) - (p1 : Int) from hbig)]
          refine L5 (.ok () p1) (p1 + m.toNat) m (by omega) ⟨by omega, j2, j3⟩ (fun u p2 h => ?_) ?_
          · (first | (injection h with z__; injection z__ with _ h) | injection h with _ h)
            subst h
            refine ⟨hge, by omega, ?_⟩
            rw [wrap_i64 (by omega) (by omega)]
            omega
          · rw [← hr]
            unfold enterP
            rw [hz, Res.bind_ok', Res.bind_ok', if_neg hbig, Res.bind_ok']
    refine cond_intro (fun e1 => L4 true ?_) (fun e1 => L4 _ ?_)
    · have := of_decide_eq_true e1; rw [decide_eq_true (.inl this)]
    · have := of_decide_eq_false e1
      by_cases h11 : 11 < ((nb s p : Nat) : Int)
      · rw [decide_eq_true (show ((nb s p : Nat) : Int) > 11 from h11), decide_eq_true (.inr h11)]
      · rw [decide_eq_false (show ¬ ((nb s p : Nat) : Int) > 11 from h11), decide_eq_false (by omega)]

theorem Decodem_spec (b : Option Addr) (s : ByteArray) (c : Sc) (w : World) : Runs Try.prog binm_Bin_Decode.id #[.pointer b, .string s] w (DMA w s (decA s c)) := by
  refine binm_Bin_Decode.enter _ _ _ _ _ ?_
  unfold binm_Bin_Decode.V decA
  by_cases h1 : 1024 < s.size
  · rw [if_pos h1]
    exact cond_true' (decide_eq_true (by omega)) ⟨Same.refl _ _ _, .inr ⟨1, 0, rfl, rfl⟩⟩
  rw [if_neg h1]
  refine cond_false' (decide_eq_false (by omega)) ?_
  by_cases h8 : s.size < 8
  · rw [if_pos h8]
    exact cond_true' (decide_eq_true (by omega)) ⟨Same.refl _ _ _, .inr ⟨3, _, rfl, rfl⟩⟩
  rw [if_neg h8]
  refine cond_false' (decide_eq_false (by omega)) ⟨⟨by decide, by decide, by omega⟩, ?_⟩
  rw [show Int.toNat 8 = 8 from rfl]
  refine cond_intro (fun e1 => ?_) (fun e1 => ?_)
  · rw [if_neg (by simpa using e1)]
    exact ⟨Same.refl _ _ _, .inr ⟨2, 0, rfl, rfl⟩⟩
  rw [if_pos (by simpa using e1)]
  refine letB_intro fun rb hrb => letW_intro fun w4 hw4 => letB_intro fun mb hmb => letW_intro fun w6 hw6 => ?_
  have z4 : w4.heap.size = w.heap.size + 1 := by rw [hw4]; simp
  have z6 : w6.heap.size = w4.heap.size + 1 := by rw [hw6]; simp
  have S4 : Same [] w.heap.size w w4 := by rw [hw4]; exact (Same.refl _ _ _).alloc (Nat.le_refl _) _
  have S6 : Same [] w4.heap.size w4 w6 := by rw [hw6]; exact (Same.refl _ _ _).alloc (Nat.le_refl _) _
  have L4 : RdL w4 rb s 8 s.size := by
    rw [hw4, hrb]
    exact ⟨by rw [World.cell?_alloc_new]; rfl, by rw [World.cell?_alloc_new]; rfl, by rw [World.cell?_alloc_new]; rfl, by rw [World.cell?_alloc_new]; rfl, ⟨0, by rw [World.cell?_alloc_new]; rfl⟩, fun j => by rw [World.frozen?_alloc_new]⟩
  have L6 := L4.same S6 (by omega) (by simp)
  have cm : ∀ j v, [Value.slice none 0 0, .slice none 0 0, .slice none 0 0, .int .i64 (-1), .int .i64 (-1), .int .i64 (-1), .int .i64 (-1), .slice none 0 0, .slice none 0 0, .int .i64 (-1), .slice none 0 0, .slice none 0 0][j]? = some v → w6.cell? ⟨mb, j, none⟩ = some v := fun j v hj => by
    rw [hw6, hmb, World.cell?_alloc_new]
    simpa using hj
  have M6 : MG w6 w6.heap.size mb pm0 := by
    refine ⟨⟨none, 0, cm 0 _ rfl, World.ownsRow_nil w6 _ T_string 1⟩, ⟨none, 0, cm 1 _ rfl, World.ownsRow_nil w6 _ T_api_Import 3⟩, ⟨fun _ => ⟨0, eB, .slice none 0 0, .slice none 0 0⟩, ⟨none, 0, cm 2 _ rfl, World.ownsRow_nil w6 _ T_api_Func 4⟩, fun j hj => by have hj : j < 0 := hj; omega⟩, cm 3 _ rfl, cm 4 _ rfl, cm 5 _ rfl, cm 6 _ rfl, ⟨none, 0, cm 7 _ rfl, World.ownsRow_nil w6 _ T_api_Global 5⟩, ⟨none, 0, cm 8 _ rfl, World.ownsRow_nil w6 _ T_api_Export 3⟩, cm 9 _ rfl, ⟨fun _ => ⟨⟨0, 0, 0⟩, .slice none 0 0⟩, ⟨none, 0, cm 10 _ rfl, World.ownsRow_nil w6 _ T_api_Elem 4⟩, fun j hj => by have hj : j < 0 := hj; omega⟩, ⟨none, 0, cm 11 _ rfl, World.ownsRow_nil w6 _ T_api_Data 4⟩, fun j => by rw [hw6, hmb, World.frozen?_alloc_new], by omega⟩
  have G6 : Fr w6 mb 0 pm0 := ⟨fun _ => ⟨rfl, cm 0 _ rfl⟩, fun _ => ⟨rfl, cm 1 _ rfl⟩, fun _ => ⟨rfl, cm 7 _ rfl⟩, fun _ => ⟨rfl, cm 8 _ rfl⟩, fun _ => ⟨rfl, cm 10 _ rfl⟩, fun _ => ⟨rfl, cm 2 _ rfl⟩, fun _ => ⟨rfl, cm 11 _ rfl⟩⟩
  have S06 : Same [] w.heap.size w w6 := S4.trans (S6.mono (by omega) (by simp))
  have main := dec_mloop (w0 := w) (rb := rb) (mb := mb) (B := w6.heap.size) (s := s) (by omega) (by omega) (by omega) (by omega) (by omega) (r := decP s c) (s.size - 8 + 1) 0 { c with nT := 0 } pm0 8 none 0 0 w6 (by omega) L6 (by omega) M6 G6 (by omega) (World.ownsRow_nil w6 _ T_int 1) rfl (by omega) rfl S06 (Nat.le_refl _)
  exact main
end
end Go.Proofs.Qxb6500316a
