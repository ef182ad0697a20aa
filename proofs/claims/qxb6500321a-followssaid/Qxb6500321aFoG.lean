/-
  Follows.
-/
import Derived.Test.Qxb6500321aFoF
import Derived.Test.Qxb6500321aKlG
set_option linter.unusedSimpArgs false
set_option linter.unusedVariables false
set_option maxRecDepth 100000
set_option linter.unusedSectionVars false
set_option maxHeartbeats 2000000
namespace Go.Proofs.Qxb6500321a
open Go Go.Vc

section
variable {P : PM} {wd w w' : World} {L mb : Nat} {m : Nat → Value} {fb kf nb bc tc res kb kc : Nat} {ta : Option Addr} {D : BD} {Sn : SS}
theorem follow_spec (PBk : PB P) (H : HM wd w L mb m P) (wb : WB P w fb kf nb bc ta tc D) (hgo : goS D D.n 0 (initS res) = .inr Sn) (hres : res ≤ 1) (kI : InsRow w kb (outC Sn).length (fun q => (outC Sn).getD q z0)) (kl : (outC Sn).length ≤ 130) (or_ : ByteArray) (hor : or_.size ≤ 9223372036854775807) :
    Runs Try.prog preplaw_follow.id #[rp mb, .pointer (some ⟨fb, kf * 4, none⟩), .int .i64 (res : Int), .slice (some ⟨kb, 0, none⟩) (outC Sn).length kc, .string or_] w fun v w' => v = .bool true ∧ Same [] w.heap.size w w' := by
  have mm := m2_of wb (by omega) hgo
  have hef : ∀ x : Ins, D.ef x ≠ none → x.op ≠ 224 ∧ x.op ≠ 225 := fun x hx => ef_ops P x (by rw [← wb.ef]; exact hx)
  have C : CT2 D res Sn := ⟨mm, wb.go, hres, hef, wb.n1⟩
  have n1 := wb.n1
  let K : RC := ⟨nb, D.n, bc, ta, D.nt, tc, kb, (outC Sn).length, kc⟩
  have X : FX P w K D res Sn := ⟨C, wb.I, rfl, wb.n9, kI, rfl, kl, rfl, wb.tb, wb.nt, wb.xs, wb.ts, wb.ws, wb.ef⟩
  generalize hR : (fun (v : Value) (w' : World) => v = .bool true ∧ Same [] w.heap.size w w') = R
  have hR' : ∀ w', Same [] w.heap.size w w' → R (.bool true) w' := fun w' h => by rw [← hR]; exact ⟨rfl, h⟩
  clear hR
  refine preplaw_follow.enter _ _ _ _ _ _ _ _ _ _ ?_
  unfold preplaw_follow.V
  refine preplaw_follow.step1 _ _ _ _ _ _ _ _ _ _ ?_
  unfold preplaw_follow.V1
  have Sd : Same [] w.heap.size w w.drew := (Same.refl _ _ _).drew
  have b1 := wb.keep Sd
  simp only [true_and, nilV_some, Nat.zero_add]
  refine ⟨_, _, _, b1.c2, _, _, _, b1.c3, letB_intro fun rb hrb => letW_intro fun w1 hw1 => ?_⟩
  have S1 : Same [] w.drew.heap.size w.drew w1 := by rw [hw1]; exact (Same.refl _ _ _).alloc (Nat.le_refl _) _
  have z1 : w1.heap.size = w.heap.size + 1 := by rw [hw1]; simp
  have hrb' : rb = w.heap.size := hrb
  have r : ∀ j v, #[(Value.slice (some ⟨nb, 0, none⟩) D.n bc), (.slice ta D.nt tc), (.slice (some ⟨kb, 0, none⟩) (outC Sn).length kc), (.slice none 0 0), (.int .i64 0), (.int .i64 0), (.int .i64 0), (.bool false)][j]? = some v → w1.cell? ⟨rb, j, none⟩ = some v := fun j v hj => by rw [hw1, hrb, World.cell?_alloc_new]; exact hj
  have rf : ∀ j, w1.frozen? ⟨rb, j, none⟩ = false := fun j => by rw [hw1, hrb, World.frozen?_alloc_new]
  clear hw1
  have T1 : Same [] w.heap.size w w1 := Sd.nx S1
  refine preplaw_follow.step2 _ _ _ _ _ _ _ ?_
  unfold preplaw_follow.V2
  simp only [nilV_some, Nat.zero_add]
  refine ⟨_, _, _, r 3 _ rfl, letB_intro fun b5 hb5 => letW_intro fun w2 hw2 => ?_⟩
  obtain ⟨a', c', w3, hr, ho, hs, hf⟩ := row_app T_sl_preplaw_lab.el T_sl_preplaw_lab (World.ownsRow_nil w1 w.heap.size T_preplaw_lab 3) [.int .i64 (-1), .int .i64 0, .int .i64 (res : Int)] rfl (by intro u hu; simp at hu; rcases hu with rfl | rfl | rfl <;> rfl) (by omega) (by omega) T1.size hb5 hw2
  have hs : Same [] w1.heap.size w1 w3 := hs
  have e : ∀ j, w3.cell? ⟨rb, j, none⟩ = w1.cell? ⟨rb, j, none⟩ := fun j => hs.cell (p := ⟨rb, j, none⟩) (by show rb < _; omega) (by simp)
  have T3 := T1.nx hs
  have own : ∀ k, (Value.slice a' (0 + 1) c').ownBlock = some k → k ≠ rb := fun k hk => by
    rcases hf k hk with q | q
    · cases q
    · omega
  refine ⟨a', _, c', w3, hr, ⟨⟨_, by rw [e]; exact r 3 _ rfl⟩, by rw [hs.frozen (p := ⟨rb, 3, none⟩) (by show rb < _; omega) (by simp)]; exact rf 3⟩, letW_intro fun w4 hw4 => ?_⟩
  have S4 : Same [rb] w3.heap.size w3 w4 := by rw [hw4]; exact (Same.refl _ _ _).setCell (.inr (by simp)) _
  have o : ∀ j v, j ≠ 3 → #[(Value.slice (some ⟨nb, 0, none⟩) D.n bc), (.slice ta D.nt tc), (.slice (some ⟨kb, 0, none⟩) (outC Sn).length kc), (.slice none 0 0), (.int .i64 0), (.int .i64 0), (.int .i64 0), (.bool false)][j]? = some v → w4.cell? ⟨rb, j, none⟩ = some v := fun j v hj hv => by rw [hw4, cell_setCell, if_neg (by omega), e]; exact r j v hv
  have M4 : RM w w4 rb K (initS res).fs a' 1 c' 0 0 0 false := by
    refine ⟨same_own T3 S4 (by simp; omega), by omega, o 0 _ (by omega) rfl, o 1 _ (by omega) rfl, o 2 _ (by omega) rfl, by rw [hw4, cell_setCell, if_pos ⟨rfl, rfl⟩, e, r 3 _ rfl]; rfl, o 4 _ (by omega) rfl, o 5 _ (by omega) rfl, o 6 _ (by omega) rfl, o 7 _ (by omega) rfl, fun j => by rw [hw4, World.frozen?_setCell, hs.frozen (p := ⟨rb, j, none⟩) (by show rb < _; omega) (by simp)]; exact rf j, ?_, rfl, own⟩
    exact row_same ho S4 (fun k hk => ⟨(ho.lt k hk).2, by simp; exact own k hk⟩)
  refine preplaw_follow.step3 _ _ _ _ _ _ ?_
  unfold preplaw_follow.V3
  simp only [nilV_some, Nat.zero_add]
  refine ⟨M4.can 7 (by omega), letW_intro fun w5 hw5 => ?_⟩
  obtain ⟨M5, _⟩ := M4.set7 _ hw5
  refine preplaw_follow.step4 _ _ _ _ _ _ ?_
  unfold preplaw_follow.V4
  refine preplaw_follow.step5 _ _ _ _ _ _ _ ?_
  unfold preplaw_follow.V5
  exact follow_loop PBk H X or_ hor hR' _ 0 w5 0 (initS res) a' c' 0 true (Nat.le_refl _) (Nat.zero_le _) M5 rfl (by omega) (fun _ => ⟨rfl, rfl⟩) (fun z => by cases z) (by omega) (by omega)
end
/-! ### The loop -/
theorem Follows_loop (w0 : World) (sa : Option Addr) (l c : Nat) (hs : ScriptAt w0 sa l) (bs bb b bi bt pb cb : Nat) (R : Value → World → Prop) (hR : ∀ w', Same [] w0.heap.size w0 w' → R (.int .i64 (-1)) w') :
    ∀ (f i : Nat) (w : World), i + f = l → KK w0 w bs bb b bi bt pb cb none none → preplaw_FollowsUpTo.L1 sa l c bb (some ⟨pb, 0, none⟩) i R (fun _ _ => False) w := by
  intro f
  induction f with
  | zero =>
    intro i w hi C
    refine preplaw_FollowsUpTo.step1 _ _ _ _ _ _ _ _ _ ?_
    unfold preplaw_FollowsUpTo.V1
    exact cond_false' (decide_eq_false (by omega)) (hR w C.S)
  | succ f ih =>
    intro i w hi C
    refine preplaw_FollowsUpTo.step1 _ _ _ _ _ _ _ _ _ ?_
    unfold preplaw_FollowsUpTo.V1
    refine cond_true' (decide_eq_true (by omega)) ?_
    generalize hM : (4398046511104 : Int) = M
    refine cond_intro (fun hm => ?_) (fun hm => hR w C.S)
    subst hM
    have hm : (i : Int) < 4398046511104 := of_decide_eq_true hm
    rcases hs with h0 | ⟨sb, off, rfl, hs⟩
    · omega
    obtain ⟨o, hF, hO0⟩ := hs i (by omega)
    have L3 : ∀ w1, KK w0 w1 bs bb b bi bt pb cb none none → preplaw_FollowsUpTo.L3 (some ⟨sb, off, none⟩) l c bb (some ⟨pb, 0, none⟩) i R (fun _ _ => False) w1 := fun w1 C1 => by
      refine preplaw_FollowsUpTo.step3 _ _ _ _ _ _ _ _ _ ?_
      unfold preplaw_FollowsUpTo.V3
      have e : IntKind.wrap .i64 ((i : Int) + 1) = ((i + 1 : Nat) : Int) := by rw [wrap_i64 (by omega) (by omega)]; omega
      rw [e]
      exact ih (i + 1) w1 (by omega) C1
    clear ih
    have L4 : ∀ (w1 : World) (ob : Nat), KK w0 w1 bs bb b bi bt pb cb none none → OpAt w1 ob o → bs ≤ ob → preplaw_FollowsUpTo.L4 (some ⟨sb, off, none⟩) l c bb (some ⟨pb, 0, none⟩) i ob R (fun _ _ => False) w1 := fun w1 ob C1 O1 lob => by
      refine preplaw_FollowsUpTo.step4 _ _ _ _ _ _ _ _ _ _ ?_
      unfold preplaw_FollowsUpTo.V4
      obtain ⟨cs, hB⟩ := C1.B
      have le := C1.le; have lt := C1.lt
      refine ⟨_, C1.c, _, O1.c4, RunsQ.post (Read_spec hB o.s) ?_⟩
      rintro v w2 (⟨x, q, mb, m, hd, rfl, B2, H2, S2⟩ | ⟨n, a, c', hd, rfl, B2, S2⟩)
      · have W := decA_wf hd
        have PBx := W.pb
        have bnf := PBx.nf; have bim := PBx.nIm
        have C2 := C1.bin S2 ⟨_, B2⟩
        have z2 := S2.size
        have O2 := O1.same S2 O1.lt (by simp; omega)
        refine ⟨_, rfl, RunsQ.post (Compile_spec H2 PBx (wf_room W) C2.Z (by omega) (by omega)) ?_⟩
        rintro v w4 ⟨Z4, S4, hv4⟩
        have z4 := S4.size
        have H4 := H2.at2 S4 (.inl (by omega)) (.inl (by omega))
        have C4 := C2.prep S4 Z4
        have O4 := O2.same S4 O2.lt (by simp; omega)
        have Sd : Same [] w4.heap.size w4 w4.drew := (Same.refl _ _ _).drew
        have C5 := C4.keep Sd
        have O5 := O4.drew
        have H5 := H4.drew
        have l3 := L3 _ C5
        cases hc : comp x.2 with
        | inl er =>
          obtain ⟨ek, eat⟩ := er
          rw [hc] at hv4
          have hv4 : v = _ := hv4
          subst hv4
          simp only [true_and, nilV_some, Nat.zero_add]
          exact ⟨_, _, _, _, rfl, _, O5.c0, cond_intro (fun _ => l3) (fun _ => cond_true' rfl l3)⟩
        | inr fs =>
          rw [hc] at hv4
          obtain ⟨cdb, rfl, cd4⟩ := hv4
          obtain ⟨o1, o2, o3⟩ := comp_ok W hc
          have cd5 := cd4.same Sd (Nat.le_refl _) (by simp)
          have cc : ∃ fa, w4.drew.cell? ⟨cdb, 0, none⟩ = some (.slice fa fs.length fs.length) := by
            rcases cd5 with ⟨h1, h2, _⟩ | ⟨_, fb, h2⟩
            · exact ⟨none, by rw [h2, h1]; rfl⟩
            · exact ⟨_, h2.c0⟩
          obtain ⟨fa, cc⟩ := cc
          obtain ⟨ft, cf, _⟩ := H5.fn
          simp only [true_and, nilV_some, Nat.zero_add]
          refine ⟨_, _, _, _, rfl, _, O5.c0, cond_intro (fun _ => l3) (fun _ => cond_false' rfl ⟨_, O5.c1, cond_intro (fun _ => l3) (fun qa => ⟨_, O5.c1, _, _, _, cc, cond_intro (fun _ => l3) (fun qb => ⟨_, O5.c1, _, _, _, cf, cond_intro (fun _ => l3) (fun qc => ?_)⟩)⟩)⟩)⟩
          have qa := of_decide_eq_false qa
          have qb := of_decide_eq_false qb
          have qc := of_decide_eq_false qc
          obtain ⟨k, hk⟩ := Int.eq_ofNat_of_zero_le (show 0 ≤ o.a by omega)
          have hkn : k < x.2.nf := by omega
          obtain ⟨ff, hff⟩ : ∃ ff, fs[k]? = some ff := ⟨_, List.getElem?_eq_getElem (by omega)⟩
          have hcf := comp_get hc hff
          have K3 := o3 k ff hff
          rcases cd5 with ⟨h1, _⟩ | ⟨_, fb, h2⟩
          · rw [h1] at hff; cases hff
          refine preplaw_FollowsUpTo.step5 _ _ _ _ _ _ _ _ _ _ _ _ ?_
          unfold preplaw_FollowsUpTo.V5
          have S6 : Same [] w4.drew.heap.size w4.drew w4.drew.drew := (Same.refl _ _ _).drew
          have H6 := H5.drew
          have O6 := O5.drew
          obtain ⟨tb, row, c2⟩ := H6.row (by omega)
          obtain ⟨ai, ci, _⟩ := H6.im
          have hBk := PBx.fn k hkn
          have hFW := W.fn k hkn
          unfold compF at hcf
          cases ht : typeOf x.2 ((x.2.nIm + k : Nat) : Int) with
          | none => rw [ht] at hcf; cases hcf
          | some t =>
            rw [ht] at hcf
            dsimp only at hcf
            cases hgo : goS (bdOf x.2 (x.2.fn k)) (x.2.fn k).nI 0 (initS (splitP t).2.size) with
            | inl a => rw [hgo] at hcf; cases hcf
            | inr S =>
              rw [hgo] at hcf
              have hcf : Sum.inr _ = Sum.inr ff := hcf
              injection hcf with hcf
              have hsz := typeOf_size PBx ht
              have hs2 : (splitP t).2.size ≤ 1 := by
                unfold typeOf typeAt at ht
                split at ht
                · cases ht
                · rename_i q
                  injection ht with ht
                  rw [← ht]
                  exact (W.ty _ (by omega)).2.2.1
              have ecl : ff.cells = outC S := by rw [← hcf]
              have ki := ci
              have ko := O6.c1
              simp only [true_and, nilV_some, Nat.zero_add]
              refine ⟨⟨_, _, _, ki, ⟨_, ko, ?_, trivial⟩, trivial⟩, ⟨_, ko, ⟨_, _, _, ki, ?_, trivial⟩, trivial⟩, trivial⟩
              all_goals
                have ew : IntKind.wrap .i64 ((x.2.nIm : Int) + o.a) = ((x.2.nIm + k : Nat) : Int) := by rw [wrap_i64 (by omega) (by omega)]; omega
                rw [ew]
                refine RunsQ.post (TypeOf_spec H6 PBx _ (by omega) (by omega)) ?_
                rintro v w7 ⟨rfl, S7⟩
                rw [ht]
                refine ⟨_, _, rfl, RunsQ.post (Split_spec t hsz w7) ?_⟩
                rintro v w8 ⟨rfl, S8⟩
                have S49 : Same [] w4.drew.heap.size w4.drew w8.drew := ((S6.nx S7).nx S8).drew
                have S69 : Same [] w4.drew.drew.heap.size w4.drew.drew w8.drew := (S7.nx S8).drew
                have H9 := H6.keep S69
                have O9 := O6.same S69 O6.lt (by simp)
                have h9 := h2.same S49 (Nat.le_refl _) (by simp)
                have C9 := C5.keep S49
                obtain ⟨a1, a2, a3, nb, a4, a5, _⟩ := h9.r0 k ff hff
                have oc := O9.c1
                rw [hk] at oc
                refine ⟨_, _, rfl, _, _, _, c2 _ H9, _, oc, ⟨by omega, by omega⟩, ?_⟩
                rw [nilV_some]
                refine ⟨_, _, _, h9.c0, _, oc, ⟨by omega, by omega⟩, ?_⟩
                rw [nilV_some]
                simp only [add_mk, Nat.zero_add, Int.toNat_natCast]
                rw [ecl] at a4 a5
                obtain ⟨nb', ta, tc, wb⟩ := wb_of W (row _ H9) hkn
                have k130 : (outC S).length ≤ 130 := by rw [← ecl]; exact K3.cl
                refine ⟨_, _, _, a4, _, O9.c5, RunsQ.post (follow_spec PBx H9 wb hgo hs2 a5 k130 o.t hF.t) ?_⟩
                rintro v w10 ⟨rfl, S10⟩
                exact ⟨_, rfl, cond_false' rfl (L3 w10 (C9.keep S10))⟩
      · have C2 := C1.bin S2 ⟨_, B2⟩
        have O2 := O1.same S2 O1.lt (by simp; omega)
        refine ⟨_, rfl, RunsQ.post (Compile_nil C2.Z) ?_⟩
        rintro v w2 ⟨rfl, rfl⟩
        have C3 := C2.keep (Same.refl [] w2.heap.size w2).drew
        have l3 := L3 _ C3
        simp only [true_and, nilV_some, Nat.zero_add]
        exact ⟨_, _, _, _, rfl, _, O2.drew.c0, cond_intro (fun _ => l3) (fun _ => cond_true' rfl l3)⟩
    have le := C.le
    refine preplaw_FollowsUpTo.step2 _ _ _ _ _ _ _ _ _ ?_
    unfold preplaw_FollowsUpTo.V2
    have fo := hO0.same C.S
    simp only [nilV_some, add_mk, Int.toNat_natCast, Nat.zero_add]
    refine ⟨⟨by omega, by omega⟩, _, _, _, _, _, _, fo.c0, fo.c1, fo.c2, fo.c3, fo.c4, fo.c5, newOp (o := o) fun b8 w1 hb8 O1 S1 => ?_⟩
    have C1 := C.keep S1
    have l4 := L4 w1 b8 C1 O1 (by omega)
    exact ⟨_, O1.c0, cond_intro (fun _ => ⟨_, O1.c0, cond_intro (fun _ => L3 w1 C1) (fun _ => l4)⟩) (fun _ => l4)⟩
theorem Follows_spec (w : World) (a : Option Addr) (l c : Nat) (hs : ScriptAt w a l) : Runs Try.prog preplaw_Follows.id #[.slice a l c] w fun v w' => v = .bool true ∧ Same [] w.heap.size w w' := by
  refine preplaw_Follows.enter _ _ _ _ _ _ ?_
  unfold preplaw_Follows.V
  have h : Runs Try.prog preplaw_FollowsUpTo.id #[.slice a l c] w fun v w' => v = .int .i64 (-1) ∧ Same [] w.heap.size w w' := by
    refine preplaw_FollowsUpTo.enter _ _ _ _ _ _ ?_
    unfold preplaw_FollowsUpTo.V
    refine RunsQ.post (Ground_spec w) ?_
    rintro v w5 ⟨b, bi, bt, rfl, hB, S5, l1, l2, l3⟩
    obtain ⟨q1, q2, q3⟩ := BL.lts hB
    refine ⟨_, rfl, letB_intro fun b7 hb7 => letW_intro fun w8 hw8 => ?_⟩
    have S8 : Same [] w5.heap.size w5 w8 := by rw [hw8]; exact (Same.refl _ _ _).alloc (Nat.le_refl _) _
    have z8 : w8.heap.size = w5.heap.size + 1 := by rw [hw8]; simp
    have c8 : w8.cell? ⟨b7, 0, none⟩ = some (.pointer none) := by rw [hw8, hb7, World.cell?_alloc_new]; rfl
    have f8 : w8.frozen? ⟨b7, 0, none⟩ = false := by rw [hw8, hb7, World.frozen?_alloc_new]
    clear hw8
    refine ⟨⟨⟨_, c8⟩, f8⟩, letW_intro fun w9 hw9 => ?_⟩
    have S9 : Same [b7] w8.heap.size w8 w9 := by rw [hw9]; exact (Same.refl _ _ _).setCell (.inr (by simp)) _
    have c9 : w9.cell? ⟨b7, 0, none⟩ = some (rp b) := by rw [hw9, cell_setCell, if_pos ⟨rfl, rfl⟩, c8]; rfl
    clear hw9
    have z9 := S9.size
    have z5 := S5.size
    have B9 : BN w9 b bi bt sc0 := BN.go (hB.keep S8) S9 (by simp; omega) (by simp; omega) (by simp; omega)
    have T9 : Same [] w.heap.size w w9 := (S5.nx S8).trans (S9.mono (by omega) (fun k hk hl => by simp at hk; omega))
    refine RunsQ.post (PNew_spec w9) ?_
    rintro v w11 ⟨pb, cb, rfl, Z11, S11, lp, lc⟩
    obtain ⟨p1, p2, p3⟩ := Z11.lt
    have z11 := S11.size
    have rn : RgA w11 (w11.heap.size ≤ ·) none none := .inl ⟨rfl, rfl⟩
    refine ⟨_, rfl, ?_⟩
    have C11 : KK w w11 w11.heap.size b7 b bi bt pb cb none none := ⟨T9.nx S11, ⟨sc0, B9.keep S11⟩, Z11, by rw [S11.cell (p := ⟨b7, 0, none⟩) (show b7 < _ by omega) (by simp)]; exact c9, rn, by omega, by omega, by omega, by omega⟩
    exact Follows_loop w a l c hs w11.heap.size b7 b bi bt pb cb _ (fun w' h => ⟨rfl, h⟩) l 0 w11 (by omega) C11
  refine RunsQ.post h ?_
  rintro v w1 ⟨rfl, hS⟩
  exact ⟨_, rfl, rfl, hS⟩
end Go.Proofs.Qxb6500321a
