/-
  Facts.
-/
import Derived.Test.Qxb6500316aFaG
import Derived.Test.Qxb6500316aFaJ
import Derived.Test.Qxb6500316aSv
set_option linter.unusedSimpArgs false
set_option linter.unusedVariables false
set_option maxRecDepth 100000
namespace Go.Proofs.Qxb6500316a
open Go Go.Vc

/-- The Bin, all of it behind n0. -/
def FC (n0 : Nat) (w : World) (b bi bt : Nat) : Prop := n0 ≤ b ∧ n0 ≤ bi ∧ n0 ≤ bt ∧ ∃ I c go gs gf, BL I w b bi bt c go gs gf ∧ ∀ k, k ∈ bufs go gs gf → n0 ≤ k
def FOk (n0 : Nat) (w : World) (b bi bt : Nat) : Value → World → Prop := fun v w' => v = .bool true ∧ FC n0 w' b bi bt ∧ Same [] n0 w w'
theorem FC.keep {n0 : Nat} {w w' : World} {b bi bt : Nat} (h : FC n0 w b bi bt) (hS : Same [] w.heap.size w w') : FC n0 w' b bi bt := by
  obtain ⟨h1, h2, h3, I, c, go, gs, gf, hB, hk⟩ := h
  exact ⟨h1, h2, h3, I, c, go, gs, gf, hB.keep hS, hk⟩
theorem FC.le {n0 : Nat} {w : World} {b bi bt : Nat} (h : FC n0 w b bi bt) : n0 ≤ w.heap.size := by
  obtain ⟨h1, h2, h3, I, c, go, gs, gf, hB, hk⟩ := h
  have := hB.ba.ltb; omega

/-- What Decode leaves, of a text that is taken. -/
structure DOk (n0 : Nat) (w1 w : World) (b bi bt mb : Nat) (m : Nat → Value) (P : PM) : Prop where
  fc : FC n0 w b bi bt
  md : ModAt w mb m
  inv : MInv w w1.heap.size m P
  lm : w1.heap.size < mb
  fr : Same [] n0 w1 w
  low : ∃ I c go gs gf, BL I w b bi bt c go gs gf ∧ (∀ k, k ∈ bufs go gs gf → n0 ≤ k) ∧ ∀ k, k ∈ bufs go gs gf → k < w1.heap.size
  pb : PB P
  fr2 : Same [b, bi, bt] w1.heap.size w1 w
theorem dec_ok {n0 : Nat} {w : World} {b bi bt : Nat} (h : FC n0 w b bi bt) (s : ByteArray) (ck : PM → Bool) (hck : ∀ c, okAnd (decA s c) ck = true) :
    Runs Try.prog bin_Bin_Decode.id #[rp b, .string s] w fun v w' => ∃ mb m P, v = .tuple #[rp mb, .int .i64 ((s.size : Nat) : Int), .int .i64 0] ∧ ck P = true ∧ DOk n0 w w' b bi bt mb m P := by
  obtain ⟨h1, h2, h3, I, c, go, gs, gf, hB, hk⟩ := h
  obtain ⟨cp, q, hd, hc⟩ := okAnd_ok (hck c)
  refine RunsQ.post (Decode_all hB s) ?_
  rintro v w' (⟨cp', q', mb, m, k1, k2, k3, k4, k5, k6, k7⟩ | ⟨n, a, k1, _⟩)
  · have e : cp' = cp := by rw [hd] at k1; (first | (injection k1 with z__; injection z__ with k1 _) | injection k1 with k1 _); exact k1.symm
    subst e
    refine ⟨mb, m, cp'.2, k2, hc, ⟨⟨h1, h2, h3, I, _, go, gs, gf, k3, hk⟩, k4, k5, k6, ?_, ⟨I, _, go, gs, gf, k3, hk, hB.low⟩, decA_pb hd, k7⟩⟩
    have lb := hB.ba.ltb
    exact k7.mono (by omega) (by intro k hk hl; simp at hk; omega)
  · rw [hd] at k1; cases k1
theorem dec_err {n0 : Nat} {w : World} {b bi bt : Nat} (h : FC n0 w b bi bt) (s : ByteArray) (n a : Int) (hck : ∀ c, errIs (decA s c) n a = true) :
    Runs Try.prog bin_Bin_Decode.id #[rp b, .string s] w fun v w' => v = .tuple #[.pointer none, .int .i64 a, .int .i64 n] ∧ FC n0 w' b bi bt ∧ Same [] n0 w w' := by
  obtain ⟨h1, h2, h3, I, c, go, gs, gf, hB, hk⟩ := h
  have hd := errIs_err (hck c)
  refine RunsQ.post (Decode_all hB s) ?_
  rintro v w' (⟨cp', q', mb, m, k1, _⟩ | ⟨n', a', k1, k2, ⟨c', k3⟩, k4⟩)
  · rw [hd] at k1; cases k1
  · rw [hd] at k1; (first | (injection k1 with z__; injection z__ with e1 e2) | injection k1 with e1 e2); subst e1 e2
    have lb := hB.ba.ltb
    exact ⟨k2, ⟨h1, h2, h3, I, _, go, gs, gf, k3, hk⟩, k4.mono (by omega) (by intro k hk hl; simp at hk; omega)⟩
theorem enc_ok {n0 : Nat} {w1 wd w : World} {b bi bt mb : Nat} {m : Nat → Value} {P : PM} (D : DOk n0 w1 wd b bi bt mb m P) (hS : Same [] wd.heap.size wd w) :
    Runs Try.prog bin_Bin_Encode.id #[rp b, rp mb] w fun v w' => v = .string (strOfNums (encP P)) ∧ FC n0 w' b bi bt ∧ Same [] n0 w w' := by
  obtain ⟨I, c, go, gs, gf, hB, hk, hlow⟩ := D.low
  obtain ⟨f1, f2, f3, _⟩ := D.fc
  have hle := D.fc.le
  have hW : MW wd w (bufs go gs gf) w1.heap.size mb m P := ⟨D.inv, D.md, D.lm, hS.mono (Nat.le_refl _) (by simp), fun k hk => .inl (by have := hlow k hk; omega)⟩
  have sz := hS.size
  refine RunsQ.post (Encode_spec (hB.keep hS) hW D.pb) ?_
  rintro v w' ⟨rfl, I', go', gs', gf', g1, g2, g3⟩
  refine ⟨rfl, ⟨f1, f2, f3, I', c, go', gs', gf', g1, fun k hk' => ?_⟩, g2.mono (by omega) (fun k hk' hl => ?_)⟩
  · rcases g3 k hk' with g | g
    · exact hk k g
    · omega
  · rw [List.mem_cons] at hk'
    rcases hk' with rfl | g
    · omega
    · have := hk k g; omega
theorem enc_text {P : PM} {l : List UInt8} (h : (encP P == bytesOf (ofL l)) = true) : strOfNums (encP P) = ofL l := by
  rw [eq_of_beq h]
  apply ByteArray.ext
  show ((bytesOf (ofL l)).map fun n => UInt8.ofNat n.toNat).toArray = l.toArray
  unfold bytesOf
  rw [List.map_map]
  congr 1
  show l.map _ = l
  conv => rhs; rw [← List.map_id l]
  apply List.map_congr_left
  intro a _
  show UInt8.ofNat ((a.toNat : Int)).toNat = a
  simp

/-! ### One instruction alone -/
theorem lone_spec {n0 : Nat} {w : World} {b bi bt : Nat} (h : FC n0 w b bi bt) (cI : Int) (c : Nat) (ec : cI = (c : Int)) (hc : c < 256) : Runs Try.prog binlaw_lone.id #[rp b, .int .i64 cI] w (FOk n0 w b bi bt) := by
  subst ec
  have hle := h.le
  have ck : ∀ sc, loneChk c sc = true := fun sc => List.all_eq_true.1 (lone_all sc) c (List.mem_range.2 hc)
  refine binlaw_lone.enter _ _ _ _ _ ?_
  unfold binlaw_lone.V
  refine RunsQ.post (Lone_spec (c : Int) w) ?_
  rintro v w1 ⟨rfl, S1⟩
  unfold loneChk at ck
  have hT : loneT c = bodyT ([0] ++ oneL c ++ (loneV c).1 ++ [11]) := rfl
  have himm : (loneV c).1.length ≤ 8 := by
    unfold loneV
    cases lT1 c
    · cases lT2 c
      · cases lT3 c
        · cases lT4 c
          · cases ((c : Int) == 17)
            · cases lT5 c
              · cases lT6 c
                · cases lT7 c
                  · cases ((c : Int) == 67)
                    · cases ((c : Int) == 68)
                      · exact Nat.zero_le _
                      · exact Nat.le_refl _
                    · exact (by decide : 4 ≤ 8)
                  · exact (by decide : 1 ≤ 8)
                · exact (by decide : 1 ≤ 8)
              · exact (by decide : 2 ≤ 8)
            · exact (by decide : 2 ≤ 8)
          · exact (by decide : 1 ≤ 8)
        · exact (by decide : 2 ≤ 8)
      · exact Nat.zero_le _
    · exact Nat.zero_le _
  generalize loneV c = L at ck hT himm
  obtain ⟨imm, cell, kind⟩ := L
  simp only at ck hT himm ⊢
  refine ⟨_, _, _, _, _, rfl, letB_intro fun xb hxb => letW_intro fun w2 hw2 => ?_⟩
  have Ix2 : InsAt w2 xb ⟨0, 0, 0⟩ := by rw [hw2, hxb]; exact InsAt.new w1 _
  have S2 : Same [] w1.heap.size w1 w2 := by rw [hw2]; exact (Same.refl _ _ _).alloc (Nat.le_refl _) _
  have S02 := S1.trans (S2.mono S1.size (by simp))
  have sz1 := S1.size
  clear hw2
  refine Ix2.put_intro (i' := cell) (fun w3 Ix S3 => ?_)
  have S03 : Same [] w.heap.size w w3 := S02.trans ((S3 w.heap.size).mono (Nat.le_refl _) (by intro k hk hl; simp at hk; omega))
  refine cond_intro (fun h0 => ⟨rfl, h.keep S03, S03.mono hle (by simp)⟩) (fun h0 => ?_)
  refine RunsQ.post (one_spec _ w3) ?_
  rintro v w4 ⟨rfl, S4⟩
  refine ⟨_, rfl, by (simp only [mk_ofL, ofL_append, ofL_size, List.length_append, List.length_cons, List.length_nil, oneL_len, repL_len]; omega), by (simp only [mk_ofL, ofL_append, ofL_size, List.length_append, List.length_cons, List.length_nil, oneL_len, repL_len]; omega), by (simp only [mk_ofL, ofL_append, ofL_size, List.length_append, List.length_cons, List.length_nil, oneL_len, repL_len]; omega), ?_⟩
  simp only [mk_ofL, ofL_append]
  refine RunsQ.post (one_spec _ w4) ?_
  rintro v w5 ⟨rfl, S5⟩
  refine ⟨_, rfl, RunsQ.post (one_spec _ w5) ?_⟩
  rintro v w6 ⟨rfl, S6⟩
  have T4 := S4
  have T5 := T4.trans (S5.mono T4.size (by simp))
  have T6 := T5.trans (S6.mono T5.size (by simp))
  have S06 := S03.trans (T6.mono S03.size (by simp))
  have Ix6 := Ix.same T6 Ix.lt (by simp)
  have hf19 : fnL.length = 19 := rfl
  refine ⟨_, rfl, by (simp only [mk_ofL, ofL_append, ofL_size, List.length_append, List.length_cons, List.length_nil, oneL_len, repL_len]; omega), by (simp only [mk_ofL, ofL_append, ofL_size, List.length_append, List.length_cons, List.length_nil, oneL_len, repL_len]; omega), by (simp only [mk_ofL, ofL_append, ofL_size, List.length_append, List.length_cons, List.length_nil, oneL_len, repL_len]; omega), by (simp only [mk_ofL, ofL_append, ofL_size, List.length_append, List.length_cons, List.length_nil, oneL_len, repL_len]; omega), ?_⟩
  simp only [mk_ofL, ofL_append]
  have etxt : [0, 97, 115, 109, 1, 0, 0, 0, 1, 4, 1, 96, 0, 0, 3, 2, 1, 0, 10] ++ oneL (IntKind.wrap .i64 (((ofL ([0] ++ oneL (c : Int) ++ imm ++ [11])).size : Nat) + 2 : Int)) ++ [1] ++ oneL ((ofL ([0] ++ oneL (c : Int) ++ imm ++ [11])).size : Nat) ++ ([0] ++ oneL (c : Int) ++ imm ++ [11]) = loneT c := hT.symm
  rw [etxt]
  have h6 := h.keep S06
  rw [h0] at ck
  by_cases k2 : (kind == 2) = true
  · rw [k2] at ck
    refine RunsQ.post (dec_err h6 _ 10 23 ck) ?_
    rintro v w7 ⟨rfl, F7, S7⟩
    exact ⟨_, _, _, rfl, cond_true' k2 (cond_true' rfl (cond_true' rfl ⟨rfl, F7, (S06.mono hle (by simp)).trans S7⟩))⟩
  · have k2 := Bool.eq_false_iff.2 k2
    rw [k2] at ck
    have ck : ∀ sc, okAnd (decA (ofL (loneT c)) sc) (fun P => P.nf == 1 && (decide (2 ≤ (P.fn 0).nI) && (insB ((P.fn 0).ins 0) cell && encP P == bytesOf (ofL (loneT c))))) = true := ck
    refine RunsQ.post (dec_ok h6 _ _ ck) ?_
    rintro v w7 ⟨mb, m, P, rfl, hP, D⟩
    simp only [Bool.and_eq_true, beq_iff_eq, decide_eq_true_eq] at hP
    obtain ⟨p1, p2, p3, p4⟩ := hP
    have p3 := insB_eq p3
    obtain ⟨fb, c2, row⟩ := fnC' D.md D.inv.f2 p1 (by decide)
    obtain ⟨nb, c3, ir, _⟩ := bodyC row 0 (by decide) rfl
    have i0 := ir.i0 0 (by omega); have i1 := ir.i1 0 (by omega); have i2 := ir.i2 0 (by omega)
    rw [p3] at i0 i1 i2
    have sz6 := S06.size
    have n0x : w1.heap.size ≤ xb := by omega
    refine ⟨_, _, _, rfl, cond_false' k2 (cond_false' rfl (cond_false' (by simp) (cond_false' rfl (nil_i ⟨_, _, _, c2, cond_false' rfl ?_⟩))))⟩
    refine binlaw_lone.step1 _ _ _ _ _ _ _ ?_
    unfold binlaw_lone.V1
    have lows : b < w.heap.size ∧ bi < w.heap.size ∧ bt < w.heap.size := by
      obtain ⟨_, _, _, I, cc, go, gs, gf, hB, _⟩ := h
      exact ⟨hB.ba.ltb, hB.ba.lti, hB.ba.ltt⟩
    have Ix7 := Ix6.same D.fr2 Ix6.lt (by simp; omega)
    simp only [true_and]
    refine nil_i ⟨_, _, _, c2, ⟨by decide, by decide⟩, nil_i ⟨_, _, _, c3, cond_false' (decide_eq_false (by omega)) (nil_i ⟨_, _, _, c2, ⟨by decide, by decide⟩, nil_i ⟨_, _, _, c3, ⟨by omega, by omega⟩, nil_i ⟨_, _, _, i0, i1, i2, _, _, _, Ix7.c0, Ix7.c1, Ix7.c2, false, _, run_neqIns _ _ _ _ _ _, rfl, cond_false' rfl ?_⟩⟩⟩)⟩⟩
    refine binlaw_lone.step2 _ _ _ _ _ _ ?_
    unfold binlaw_lone.V2
    refine RunsQ.post (enc_ok D ((Same.refl _ _ _).drew)) ?_
    rintro v w8 ⟨rfl, F8, S8⟩
    refine ⟨_, rfl, ?_, F8, (S06.mono hle (by simp)).trans (D.fr.drew.trans S8)⟩
    rw [enc_text (beq_iff_eq.2 p4), beq_self_eq_true]


/-! ### fact -/
theorem fact_spec {n0 : Nat} {w : World} {b bi bt : Nat} (h : FC n0 w b bi bt) (i : Int) : Runs Try.prog binlaw_fact.id #[rp b, .int .i64 i] w (FOk n0 w b bi bt) := by
  have hle := h.le
  refine binlaw_fact.enter _ _ _ _ _ ?_
  unfold binlaw_fact.V
  refine cond_intro (fun h90 => ?_) (fun h90 => ?_)
  · refine RunsQ.post (Brim_spec w) ?_
    rintro v w1 ⟨rfl, S1⟩
    have ck : ∀ c, okAnd (decA (ofL brimL) c) (fun P => P.nf == 1 && (P.fn 0).nI == 92) = true := fun c => by
      obtain ⟨x, e1, e2, e3⟩ := brim_dec c
      rw [show decA (ofL brimL) c = .ok x 1024 from e1]
      simp only [okAnd, e2, e3, beq_self_eq_true, Bool.and_self]
    refine ⟨_, rfl, RunsQ.post (dec_ok (h.keep S1) _ _ ck) ?_⟩
    rintro v w2 ⟨mb, m, P, rfl, hP, D⟩
    simp only [Bool.and_eq_true, beq_iff_eq] at hP
    obtain ⟨p1, p2⟩ := hP
    obtain ⟨fb, c2, row⟩ := fnC' D.md D.inv.f2 p1 (by decide)
    obtain ⟨nb, c3, ir, _⟩ := bodyC row 0 (by decide) p2
    have hz : (ofL brimL).size = 1024 := brim_size
    refine ⟨_, _, _, rfl, cond_true' (by rw [hz]; rfl) (cond_true' rfl (cond_true' (by simp) (cond_true' rfl (nil_i ⟨_, _, _, c2, cond_true' rfl (nil_i ⟨_, _, _, c2, ⟨by decide, by decide⟩, nil_i ⟨_, _, _, c3, rfl, D.fc, (S1.mono hle (by simp)).trans D.fr⟩⟩)⟩))))⟩
  -- the refused
  have L4 : ∀ tt : Bool, (tt = true → 100 ≤ i ∧ i < 142) → binlaw_fact.L4 (some ⟨b, 0, none⟩) i tt (FOk n0 w b bi bt) (fun _ _ => False) w := by
    intro tt htt
    refine binlaw_fact.step4 _ _ _ _ _ _ ?_
    unfold binlaw_fact.V4
    refine cond_intro (fun g => ?_) (fun g => ⟨rfl, h, Same.refl _ _ _⟩)
    obtain ⟨g1, g2⟩ := htt g
    obtain ⟨n, hn⟩ : ∃ n : Nat, i = 100 + (n : Int) := ⟨(i - 100).toNat, by omega⟩
    have e : IntKind.wrap .i64 (i - 100) = (n : Int) := by rw [wrap_i64 (by omega) (by omega)]; omega
    have ck : ∀ sc, refChk n sc = true := fun sc => List.all_eq_true.1 (ref_all sc) n (List.mem_range.2 (by omega))
    refine RunsQ.post (Refused_spec _ n e (by omega) w) ?_
    rintro v w1 ⟨rfl, S1⟩
    refine ⟨_, _, _, rfl, RunsQ.post (dec_err (h.keep S1) _ _ _ ck) ?_⟩
    rintro v w2 ⟨rfl, F2, S2⟩
    exact ⟨_, _, _, rfl, cond_true' rfl (cond_true' (beq_self_eq_true _) ⟨by rw [beq_self_eq_true], F2, (S1.mono hle (by simp)).trans S2⟩)⟩
  -- the taken
  have L2 : ∀ tt : Bool, (tt = true → 0 ≤ i ∧ i < 27) → binlaw_fact.L2 (some ⟨b, 0, none⟩) i tt (FOk n0 w b bi bt) (fun _ _ => False) w := by
    intro tt htt
    refine binlaw_fact.step2 _ _ _ _ _ _ ?_
    unfold binlaw_fact.V2
    refine cond_intro (fun g => ?_) (fun g => ?_)
    · obtain ⟨g1, g2⟩ := htt g
      obtain ⟨n, rfl⟩ : ∃ n : Nat, i = (n : Int) := ⟨i.toNat, by omega⟩
      have ck : ∀ sc, takChk n sc = true := fun sc => List.all_eq_true.1 (tak_all sc) n (List.mem_range.2 (by omega))
      refine RunsQ.post (Taken_spec n (by omega) w) ?_
      rintro v w1 ⟨rfl, S1⟩
      refine ⟨_, rfl, RunsQ.post (dec_ok (h.keep S1) _ _ ck) ?_⟩
      rintro v w2 ⟨mb, m, P, rfl, hP, D⟩
      rw [Bool.and_eq_true] at hP
      obtain ⟨p1, p2⟩ := hP
      refine ⟨_, _, _, rfl, cond_false' rfl (cond_false' (by simp) (cond_false' rfl ?_))⟩
      refine binlaw_fact.step3 _ _ _ _ _ _ _ ?_
      unfold binlaw_fact.V3
      refine RunsQ.post (Holds_spec D.md D.inv n (by omega) p1) ?_
      rintro v w3 ⟨rfl, S3⟩
      refine ⟨_, rfl, cond_false' rfl (RunsQ.post (enc_ok D S3) ?_)⟩
      rintro v w4 ⟨rfl, F4, S4⟩
      have hl2 := D.fc.le
      refine ⟨_, rfl, ?_, F4, (S1.mono hle (by simp)).trans (D.fr.trans ((S3.mono hl2 (by simp)).trans S4))⟩
      rw [enc_text p2, beq_self_eq_true]
    · exact cond_intro (fun k => L4 _ (fun k2 => ⟨of_decide_eq_true k, of_decide_eq_true k2⟩)) (fun k => L4 false (fun k2 => by cases k2))
  have L1 : ∀ tt : Bool, (tt = true → 200 ≤ i ∧ i ≤ 455) → binlaw_fact.L1 (some ⟨b, 0, none⟩) i tt (FOk n0 w b bi bt) (fun _ _ => False) w := by
    intro tt htt
    refine binlaw_fact.step1 _ _ _ _ _ _ ?_
    unfold binlaw_fact.V1
    refine cond_intro (fun g => ?_) (fun g => ?_)
    · obtain ⟨g1, g2⟩ := htt g
      obtain ⟨n, hn⟩ : ∃ n : Nat, i = 200 + (n : Int) := ⟨(i - 200).toNat, by omega⟩
      have e : IntKind.wrap .i64 (i - 200) = (n : Int) := by rw [wrap_i64 (by omega) (by omega)]; omega
      refine RunsQ.post (lone_spec h _ n e (by omega)) ?_
      rintro v w1 ⟨rfl, F1, S1⟩
      exact ⟨_, rfl, rfl, F1, S1⟩
    · exact cond_intro (fun k => L2 _ (fun k2 => ⟨of_decide_eq_true k, of_decide_eq_true k2⟩)) (fun k => L2 false (fun k2 => by cases k2))
  exact cond_intro (fun k => L1 _ (fun k2 => ⟨of_decide_eq_true k, of_decide_eq_true k2⟩)) (fun k => L1 false (fun k2 => by cases k2))

/-! ### Facts -/
theorem Facts_loop (w0 : World) (a : Option Addr) (l c : Nat) (hs : ScriptAt w0 a l) (b bi bt : Nat) (R Q : Value → World → Prop) (hQ : Q = fun _ _ => False) (hR : ∀ w', Same [] w0.heap.size w0 w' → R (.int .i64 (-1)) w') :
    ∀ (f i : Nat) (w : World), i + f = l → FC w0.heap.size w b bi bt → Same [] w0.heap.size w0 w → binlaw_FactsUpTo.L1 a l c (some ⟨b, 0, none⟩) i R Q w := by
  subst hQ
  intro f
  induction f with
  | zero =>
    intro i w hi C S
    refine binlaw_FactsUpTo.step1 _ _ _ _ _ _ _ _ ?_
    unfold binlaw_FactsUpTo.V1
    exact cond_false' (by simp; omega) (hR w S)
  | succ f ih =>
    intro i w hi C S
    refine binlaw_FactsUpTo.step1 _ _ _ _ _ _ _ _ ?_
    unfold binlaw_FactsUpTo.V1
    refine cond_true' (by simp; omega) ?_
    generalize hM : (4398046511104 : Int) = M
    refine cond_intro (fun hm => ?_) (fun hm => hR w S)
    subst hM
    have hm : (i : Int) < 4398046511104 := of_decide_eq_true hm
    rcases hs with h0 | ⟨sb, off, rfl, hs⟩
    · omega
    obtain ⟨o, hF, hO0⟩ := hs i (by omega)
    have hO := hO0.same S
    have L3 : ∀ w', FC w0.heap.size w' b bi bt → Same [] w0.heap.size w0 w' → binlaw_FactsUpTo.L3 (some ⟨sb, off, none⟩) l c (some ⟨b, 0, none⟩) i R (fun _ _ => False) w' := fun w' C' S' => by
      refine binlaw_FactsUpTo.step3 _ _ _ _ _ _ _ _ ?_
      unfold binlaw_FactsUpTo.V3
      have e : IntKind.wrap .i64 ((i : Int) + 1) = ((i + 1 : Nat) : Int) := by rw [wrap_i64 (by omega) (by omega)]; omega
      rw [e]
      exact ih (i + 1) w' (by omega) C' S'
    refine binlaw_FactsUpTo.step2 _ _ _ _ _ _ _ _ ?_
    unfold binlaw_FactsUpTo.V2
    simp only [nilV_some, add_mk, Int.toNat_natCast]
    refine ⟨by omega, _, hO.c0, cond_intro (fun hk => ?_) (fun hk => L3 w C S)⟩
    refine ⟨by omega, _, hO.c1, RunsQ.post (fact_spec C o.a) ?_⟩
    rintro v w1 ⟨rfl, C1, S1⟩
    exact ⟨_, rfl, cond_false' rfl (L3 w1 C1 (S.trans S1))⟩

theorem Facts_spec (w : World) (a : Option Addr) (l c : Nat) (hs : ScriptAt w a l) : Runs Try.prog binlaw_Facts.id #[.slice a l c] w fun v w' => v = .bool true ∧ Same [] w.heap.size w w' := by
  refine binlaw_Facts.enter _ _ _ _ _ _ ?_
  unfold binlaw_Facts.V
  have h : Runs Try.prog binlaw_FactsUpTo.id #[.slice a l c] w fun v w' => v = .int .i64 (-1) ∧ Same [] w.heap.size w w' := by
    refine binlaw_FactsUpTo.enter _ _ _ _ _ _ ?_
    unfold binlaw_FactsUpTo.V
    refine RunsQ.post (New_spec w) ?_
    rintro v w1 ⟨b, bi, bt, rfl, hB, hS, l1, l2, l3⟩
    have no : ∀ {G : Nat → Prop}, ∀ k, (none : Option Nat) = some k → G k := fun k hk => by cases hk
    have C : FC w.heap.size w1 b bi bt := ⟨l1, l2, l3, outNil, _, none, none, none, ⟨hB, .inl ⟨rfl, rfl⟩, .inl ⟨rfl, rfl⟩, .inl ⟨rfl, rfl⟩, no, no, no, no, no, no⟩, fun k hk => by simp [bufs] at hk⟩
    exact ⟨_, rfl, Facts_loop w a l c hs b bi bt _ _ rfl (fun w' h => ⟨rfl, h⟩) l 0 w1 (by omega) C hS⟩
  refine RunsQ.post h ?_
  rintro v w1 ⟨rfl, hS⟩
  exact ⟨_, rfl, rfl, hS⟩

end Go.Proofs.Qxb6500316a
