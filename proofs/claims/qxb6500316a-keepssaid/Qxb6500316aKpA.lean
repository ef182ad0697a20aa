/-
  The round trip of one text.
-/
import Derived.Test.Qxb6500316aPtA
import Derived.Test.Qxb6500316aEqA
set_option linter.unusedSimpArgs false
set_option linter.unusedVariables false
set_option maxRecDepth 100000
set_option linter.unusedSectionVars false
namespace Go.Proofs.Qxb6500316a
open Go Go.Vc

theorem BL.go {I : OutOf} {w w' : World} {b bi bt : Nat} {c : Sc} {go gs gf : Option Nat} (h : BL I w b bi bt c go gs gf) {S : List Nat} (hS : Same S w.heap.size w w') (h1 : b ∉ S) (h2 : bi ∉ S) (h3 : bt ∉ S) (h4 : ∀ k, k ∈ bufs go gs gf → k ∉ S) : BL I w' b bi bt c go gs gf :=
  ⟨h.ba.keep hS h1 h2 h3, h.o.same hS (Nat.le_refl _) (fun k hk => h4 k (mem_bufs.2 (.inl hk))), h.s.same hS (Nat.le_refl _) (fun k hk => h4 k (mem_bufs.2 (.inr (.inl hk)))), h.f.same hS (Nat.le_refl _) (fun k hk => h4 k (mem_bufs.2 (.inr (.inr hk)))), h.xo, h.xs, h.xf, h.y1, h.y2, h.y3⟩

theorem BL.lts {I : OutOf} {w : World} {b bi bt : Nat} {c : Sc} {go gs gf : Option Nat} (h : BL I w b bi bt c go gs gf) : b < w.heap.size ∧ bi < w.heap.size ∧ bt < w.heap.size := ⟨h.ba.ltb, h.ba.lti, h.ba.ltt⟩

/-- A module that was decoded at wd, above L; now it is w. -/
structure HM (wd w : World) (L mb : Nat) (m : Nat → Value) (P : PM) : Prop where
  md : ModAt wd mb m
  inv : MInv wd L m P
  lm : L < mb
  st : Same (List.range (L + 1)) wd.heap.size wd w
section
variable {wd w w' : World} {L mb : Nat} {m : Nat → Value} {P : PM}
theorem HM.same (h : HM wd w L mb m P) {S : List Nat} {B : Nat} (hS : Same S B w w') (hB : wd.heap.size ≤ B) (hk : ∀ k, k ∈ S → k ≤ L ∨ wd.heap.size ≤ k) : HM wd w' L mb m P :=
  ⟨h.md, h.inv, h.lm, h.st.trans (hS.mono hB (fun k g hl => by rw [List.mem_range]; have := hk k g; omega))⟩
theorem HM.mlt (h : HM wd w L mb m P) : mb < wd.heap.size := by
  haveI := outNil
  exact h.md.lt
theorem HM.modAt (h : HM wd w L mb m P) : ModAt w mb m := by
  haveI := outNil
  exact h.md.same h.st h.md.lt (by rw [List.mem_range]; have := h.lm; omega)
theorem HM.minv [OutOf] (h : HM wd w L mb m P) : MInv w L m P := h.inv.same h.st (fun k hk => by rw [List.mem_range] at hk; omega)
theorem HM.sx (h : HM wd w L mb m P) (B : SB P) : Sx w mb m L P := by
  haveI := outNil
  exact ⟨h.modAt, h.minv, B⟩
theorem HM.size (h : HM wd w L mb m P) : wd.heap.size ≤ w.heap.size := h.st.size
end

/-- What trip leaves. -/
def TripOk (wd w : World) (L b bi bt : Nat) (go gs gf : Option Nat) : Value → World → Prop := fun v w' => v = .bool true ∧ ∃ I' c' go' gs' gf', BL I' w' b bi bt c' go' gs' gf' ∧ (∀ k, k ∈ bufs go' gs' gf' → k ∈ bufs go gs gf ∨ w.heap.size ≤ k) ∧ Same (b :: bi :: bt :: (bufs go gs gf ++ bet L wd.heap.size)) w.heap.size w w' ∧ Kin 1 L wd w'

theorem ba_refl (x : ByteArray) : (ByteArray.toList x == ByteArray.toList x) = true := beq_self_eq_true _

theorem trip_spec {I : OutOf} {wd w : World} {b bi bt L mb : Nat} {c c0 : Sc} {go gs gf : Option Nat} {m : Nat → Value} {s : ByteArray} {x : Sc × PM} {q : Nat} (hB : BL I w b bi bt c go gs gf) (hM : HM wd w L mb m x.2) (hd : decA s c0 = .ok x q)
    (lb : b ≤ L) (li : bi ≤ L) (lt : bt ≤ L) (lo : ∀ k, k ∈ bufs go gs gf → k ≤ L) :
    Runs Try.prog binlaw_trip.id #[rp b, .string s, rp mb] w (TripOk wd w L b bi bt go gs gf) := by
  haveI := outNil
  have PBx := decA_pb hd
  have F := decA_wf hd
  obtain ⟨hts, hag⟩ := again hd
  refine binlaw_trip.enter _ _ _ _ _ _ ?_
  unfold binlaw_trip.V
  refine RunsQ.post (Show_spec (hM.sx PBx.sb)) ?_
  rintro v w5 ⟨rfl, S5⟩
  refine ⟨_, rfl, ?_⟩
  have hB5 := hB.keep S5
  have hM5 := hM.same S5 hM.size (by simp)
  refine RunsQ.post (Encode_spec hB5 ⟨hM5.inv, hM5.md, hM5.lm, hM5.st, fun k hk => .inl (lo k hk)⟩ PBx) ?_
  rintro v w8 ⟨rfl, I1, go1, gs1, gf1, hB8, S8, low1⟩
  refine ⟨_, rfl, ?_⟩
  generalize ht : strOfNums (encP x.2) = t at hts hag
  refine cond_false' (decide_eq_false (by omega)) ?_
  have hM8 := hM5.same S8 hM5.size (fun k hk => by
    rw [List.mem_cons] at hk
    rcases hk with rfl | hk
    · exact .inl lb
    · exact .inl (lo k hk))
  have hb1 : ∀ k, k ∈ bufs go1 gs1 gf1 → k ≤ L ∨ wd.heap.size ≤ k := fun k hk => by
    rcases low1 k hk with g | g
    · exact .inl (lo k g)
    · have := hM5.size; exact .inr (by omega)
  refine RunsQ.post (Decode_all hB8 t) ?_
  obtain ⟨y, hy, E⟩ := hag c
  rintro v w11 (⟨cp, q', mb2, m2, k1, rfl, hB11, A11, M11, l2, S11⟩ | ⟨n, a, k1, _⟩)
  rotate_left
  · rw [hy] at k1; cases k1
  have ecp : cp = y := by rw [hy] at k1; (first | (injection k1 with z__; injection z__ with k1 _) | injection k1 with k1 _); exact k1.symm
  subst ecp
  have PBy := decA_pb hy
  refine ⟨_, _, _, rfl, cond_false' rfl (cond_false' (by simp) ?_)⟩
  have sz8 := hM8.size
  have hM11 := hM8.same S11 sz8 (fun k hk => by simp at hk; omega)
  have hN11 : HM w11 w11 w8.heap.size mb2 m2 cp.2 := ⟨A11, M11, l2, Same.refl _ _ _⟩
  refine binlaw_trip.step1 _ _ _ _ _ _ _ _ ?_
  unfold binlaw_trip.V1
  refine RunsQ.post (Show_spec (hN11.sx PBy.sb)) ?_
  rintro v w12 ⟨rfl, S12⟩
  refine ⟨_, rfl, cond_false' (by rw [showP_eq E, ba_refl]; rfl) ?_⟩
  have hB12 := hB11.keep S12
  have hN12 := hN11.same S12 (Nat.le_refl _) (by simp)
  have hM12 := hM11.same S12 hM11.size (by simp)
  have sz11 := S11.size
  refine RunsQ.post (Encode_spec hB12 ⟨hN12.inv, hN12.md, hN12.lm, hN12.st, fun k hk => .inl (Nat.le_of_lt (hB8.low k hk))⟩ PBy) ?_
  rintro v w13 ⟨rfl, I2, go2, gs2, gf2, hB13, S13, low2⟩
  refine ⟨_, rfl, cond_false' (by rw [encP_eq E F, ht, ba_refl]; rfl) ?_⟩
  have lb8 := hB8.lts.1
  have hN13 := hN12.same S13 hN12.size (fun k hk => by
    rw [List.mem_cons] at hk
    rcases hk with rfl | hk
    · exact .inl (Nat.le_of_lt lb8)
    · exact .inl (Nat.le_of_lt (hB8.low k hk)))
  have hM13 := hM12.same S13 hM12.size (fun k hk => by
    rw [List.mem_cons] at hk
    rcases hk with rfl | hk
    · exact .inl lb
    · exact hb1 k hk)
  refine RunsQ.post (Show_spec (hM13.sx PBx.sb)) ?_
  rintro v w14 ⟨rfl, S14⟩
  refine ⟨_, rfl, cond_false' (by rw [ba_refl]; rfl) ?_⟩
  have hN14 := hN13.same S14 hN13.size (by simp)
  have hM14 := hM13.same S14 hM13.size (by simp)
  have hB14 := hB13.keep S14
  obtain ⟨te, ti, tu, tf, ts⟩ := modT
  have hml := hM.md.lt
  have A2 := hN14.modAt
  have A1 := hM14.modAt
  refine ⟨false, w14, run_ptr_ne (show mb2 ≠ mb by omega) (A2.c 0 (by decide)) (A1.c 0 (by decide)) A2.f A1.f tu tf ts _ _, cond_false' rfl ?_⟩
  refine binlaw_trip.step2 _ _ _ _ _ _ ?_
  unfold binlaw_trip.V2
  have X : StX wd mb L m x.2 := ⟨hM.md, hM.inv, PBx, hM.lm⟩
  have K0 : Kin 0 L wd w14 := (Kin.refl (by decide)).same hM14.st (Nat.le_refl _) (fun k hk hl => by rw [List.mem_range] at hk; omega)
  refine RunsQ.post (Stamp_spec X K0) ?_
  rintro v w15 ⟨rfl, K15⟩
  refine ⟨rfl, ?_⟩
  have hN15 := hN14.same K15.S hN14.size (fun k hk => by rw [mem_bet] at hk; exact .inl (by omega))
  refine RunsQ.post (Show_spec (hN15.sx PBy.sb)) ?_
  rintro v w16 ⟨rfl, S16⟩
  refine ⟨_, rfl, ?_, I2, cp.1, go2, gs2, gf2, ?_, ?_, ?_, ?_⟩
  · rw [showP_eq E, ba_refl]
  · refine (hB14.go K15.S ?_ ?_ ?_ ?_).keep S16
    · rw [mem_bet]; omega
    · rw [mem_bet]; omega
    · rw [mem_bet]; omega
    · intro k hk
      rw [mem_bet]
      rcases low2 k hk with g | g
      · have := hb1 k g; omega
      · have := hM12.size; omega
  · intro k hk
    have s5 := S5.size; have s8 := S8.size; have s12 := S12.size
    rcases low2 k hk with g | g
    · rcases low1 k g with g | g
      · exact .inl g
      · exact .inr (by omega)
    · exact .inr (by omega)
  · have s5 := S5.size; have s8 := S8.size; have s12 := S12.size; have s13 := S13.size; have s14 := S14.size; have s15 := K15.S.size
    have a5 : Same (b :: bi :: bt :: (bufs go gs gf ++ bet L wd.heap.size)) w.heap.size w w5 := S5.mono (Nat.le_refl _) (by simp)
    have a8 := a5.trans (S8.mono s5 (fun k hk _ => by simp only [List.mem_cons, List.mem_append] at hk ⊢; rcases hk with rfl | hk <;> simp [*]))
    have a11 := a8.trans (S11.mono a8.size (fun k hk _ => by simp at hk ⊢; omega))
    have a12 := a11.trans (S12.mono a11.size (by simp))
    have a13 := a12.trans (S13.mono a12.size (fun k hk hl => by
      simp only [List.mem_cons, List.mem_append] at hk ⊢
      rcases hk with rfl | hk
      · simp
      · rcases low1 k hk with g | g
        · simp [g]
        · omega))
    have a14 := a13.trans (S14.mono a13.size (by simp))
    have a15 := a14.trans (K15.S.mono a14.size (fun k hk _ => by simp [hk]))
    exact a15.trans (S16.mono a15.size (by simp))
  · have := K15.K.size
    exact K15.K.same S16 (by omega) (by simp)
end Go.Proofs.Qxb6500316a
