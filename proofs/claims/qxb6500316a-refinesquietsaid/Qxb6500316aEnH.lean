/-
  The encoder: sections 10 and 11.
-/
import Derived.Test.Qxb6500316aEnG
set_option linter.unusedSimpArgs false
set_option linter.unusedVariables false
set_option maxRecDepth 100000
set_option linter.unusedSectionVars false
namespace Go.Proofs.Qxb6500316a
open Go Go.Vc
variable [OutOf]

def insRow (x : FnP) (j : Nat) : List Int := rowsE (fun i => insE i x.nTab x.tabs) x.ins j
def fnText (x : FnP) : List Int := locE (strOfNums x.ls) ++ insRow x x.nI
def codeE (x : FnP) : List Int := uleb ((fnText x).length : Int) ++ fnText x
def datE' (x : DatV) : List Int := [0] ++ konE x.off ++ rawE x.bytes
theorem locE_len (t : ByteArray) : (locE t).length ≤ 10 + 11 * t.size := by
  unfold locE
  have := uleb_len (runsF t t.size 0 0)
  have := grpF_len t t.size 0 0
  rw [List.length_append]; omega
theorem insRow_len (x : FnP) (h : x.nTab ≤ 24) (j : Nat) : (insRow x j).length ≤ 270 * j := rowsE_len _ _ 270 j (fun k _ => insE_len _ _ h _)
theorem fnText_len {x : FnP} (B : FnB x) : (fnText x).length ≤ 26000 := by
  unfold fnText
  have h1 := locE_len (strOfNums x.ls)
  have h2 := insRow_len x B.nT x.nI
  have h3 := B.nI; have h4 := B.ls
  rw [List.length_append]
  have : 270 * x.nI ≤ 270 * 96 := Nat.mul_le_mul_left _ h3
  omega
theorem codeE_len {x : FnP} (B : FnB x) : (codeE x).length ≤ 26010 := by
  unfold codeE
  have := fnText_len B
  have := uleb_len ((fnText x).length : Int)
  rw [List.length_append]; omega
theorem datE_len (x : DatV) (h : x.bytes.size ≤ 1024) : (datE' x).length ≤ 1400 := by
  unfold datE'
  have := konE_len x.off; have := rawE_len x.bytes
  simp only [List.length_append, List.length_cons, List.length_nil]; omega

section
variable {wd wE w : World} {S0 : List Nat} {o s f L mb : Nat} {lo ls lf : List Int} {go gs gf : Option Nat} {m : Nat → Value} {P : PM}

theorem tail3 (hW : MW wd wE S0 L mb m P) (B : PB P) (lo0 : List Int) (hb : lo0.length ≤ 500000) (R Q : Value → World → Prop)
    (hN : ∀ w' go' gs' lf' gf', EC wE S0 w' o s f (lo0 ++ secE 11 P.nD (rowsE datE' P.da P.nD)) [] lf' go' gs' gf' → R (.tuple #[]) w') :
    ∀ (k i : Nat) (w : World) (go gs : Option Nat), i + k = P.nD → EC wE S0 w o s f lo0 (rowsE datE' P.da i) lf go gs gf → bin_encodeTail.L3 (some ⟨o, 0, none⟩) (some ⟨s, 0, none⟩) (some ⟨mb, 0, none⟩) i R Q w := by
  have hnf := B.nD
  have rl : ∀ i, i ≤ P.nD → (rowsE datE' P.da i).length ≤ 1400 * i := fun i hi => rowsE_len _ _ 1400 i (fun j hj => datE_len _ (B.da j (by omega)).2)
  obtain ⟨a, ha, hrows⟩ := hW.row hW.inv.d11
  intro k
  induction k with
  | zero =>
    intro i w go gs hi c
    obtain rfl : i = P.nD := by omega
    have r0 := rl P.nD (Nat.le_refl _)
    refine bin_encodeTail.step3 _ _ _ _ _ _ _ ?_
    unfold bin_encodeTail.V3
    simp only [nilV_some, true_and, Nat.zero_add]
    have h2 := hW.cell c.fr 11 (by decide)
    rw [ha] at h2
    refine ⟨_, _, _, h2, cond_false' (decide_eq_false (by omega)) ⟨_, _, _, h2, ?_⟩⟩
    refine section_spec c 11 P.nD (by decide) (by omega) (by omega) (fun hp => rowsE_ne _ _ _ (by omega) (fun x => ?_)) (by omega) (fun w2 go2 c2 => ⟨rfl, hN w2 go2 gs lf gf c2⟩)
    unfold datE'; simp
  | succ k ih =>
    intro i w go gs hi c
    have r0 := rl i (by omega)
    obtain ⟨b, rfl, hrow⟩ := hrows (by omega)
    have bd := B.da i (by omega)
    refine bin_encodeTail.step3 _ _ _ _ _ _ _ ?_
    unfold bin_encodeTail.V3
    simp only [nilV_some, true_and, Nat.zero_add]
    have h2 := hW.cell c.fr 11 (by decide)
    rw [ha] at h2
    refine ⟨_, _, _, h2, cond_true' (decide_eq_true (by omega)) ?_⟩
    obtain ⟨us, es⟩ := c.es
    refine put1 es _ (by omega) (fun w1 g1 u1 hE1 hS1 => ?_)
    have c1 := c.stepS ⟨u1, hE1⟩ hS1
    have h21 := hW.cell c1.fr 11 (by decide)
    rw [ha] at h21
    refine ⟨_, _, _, h21, by omega, ?_⟩
    simp only [nilV_some, Int.toNat_natCast, add_mk, Nat.zero_add]
    have k0 := (hrow w1 c1.fr).c i (by omega) 0 _ rfl
    rw [Nat.add_zero] at k0
    refine ⟨_, _, _, k0, (hrow w1 c1.fr).c i (by omega) 1 _ rfl, (hrow w1 c1.fr).c i (by omega) 2 _ rfl, ?_⟩
    have qk := konE_len (P.da i).off
    refine (konst_spec hE1 _ bd.1 (by simp; omega)).into (fun w2 g2 u2 hE2 hS2 => ⟨rfl, ?_⟩)
    have c2 := c1.stepS ⟨u2, hE2⟩ hS2
    have h22 := hW.cell c2.fr 11 (by decide)
    rw [ha] at h22
    refine ⟨_, _, _, h22, by omega, ?_⟩
    simp only [nilV_some, add_mk, Nat.zero_add]
    refine ⟨_, (hrow w2 c2.fr).c i (by omega) 3 _ rfl, ?_⟩
    refine (raw_spec hE2 _ bd.2 (by simp; omega)).into (fun w3 g3 u3 hE3 hS3 => ⟨rfl, ?_⟩)
    have c3 := c2.stepS ⟨u3, hE3⟩ hS3
    have e1 : IntKind.wrap .i64 ((i : Int) + 1) = ((i + 1 : Nat) : Int) := by rw [wrap_i64 (by omega) (by omega)]; omega
    rw [e1]
    refine ih (i + 1) w3 go g3 (by omega) ?_
    rw [rowsE_succ]
    have : rowsE datE' P.da i ++ datE' (P.da i) = rowsE datE' P.da i ++ [0] ++ konE (P.da i).off ++ rawE (P.da i).bytes := by
      unfold datE'; simp only [List.append_assoc]
    rw [this]; exact c3

theorem InsRow.at {w : World} {nb n : Nat} {ins : Nat → Ins} (h : InsRow w nb n ins) (j : Nat) (hj : j < n) : w.cell? ⟨nb, j * 3, none⟩ = some (.int .u8 (ins j).op) ∧ w.cell? ⟨nb, j * 3 + 1, none⟩ = some (.int .u32 (ins j).x) ∧ w.cell? ⟨nb, j * 3 + 2, none⟩ = some (.int .u64 (ins j).y) := ⟨h.i0 j hj, h.i1 j hj, h.i2 j hj⟩

/-- One function's text. -/
theorem tail2 (hW : MW wd wE S0 L mb m P) (B : PB P) {i fb : Nat} (hi : i < P.nf) (hfb : L < fb) (hfl : fb < wd.heap.size) (hrow : FnRow wd (L + 1) fb P.nf P.nf P.fn) (ls0 : List Int) (hls : ls0.length ≤ 300000) (R Q : Value → World → Prop)
    (hN : ∀ w' gs' gf', EC wE S0 w' o s f lo (ls0 ++ codeE (P.fn i)) (fnText (P.fn i)) go gs' gf' → bin_encodeTail.L1 (some ⟨o, 0, none⟩) (some ⟨s, 0, none⟩) (some ⟨f, 0, none⟩) (some ⟨mb, 0, none⟩) (IntKind.wrap .i64 ((i : Int) + 1)) R Q w') :
    ∀ (k j : Nat) (w : World) (gf : Option Nat), j + k = (P.fn i).nI → EC wE S0 w o s f lo ls0 (locE (strOfNums (P.fn i).ls) ++ insRow (P.fn i) j) go gs gf →
      bin_encodeTail.L2 (some ⟨o, 0, none⟩) (some ⟨s, 0, none⟩) (some ⟨f, 0, none⟩) (some ⟨mb, 0, none⟩) i (some ⟨fb, i * 4, none⟩) j R Q w := by
  have hB := B.fn i hi
  have hI := hB.nI; have hT := hB.nT; have hl6 := hB.ls
  have lc := locE_len (strOfNums (P.fn i).ls)
  obtain ⟨nb, hb1, hb2, hb3, hb4, hb5⟩ := hrow.c2 i hi
  have tb := hrow.c3 i hi
  have cellf : ∀ w, Same S0 wE.heap.size wE w → ∀ j, w.cell? ⟨fb, j, none⟩ = wd.cell? ⟨fb, j, none⟩ := fun w fr j => (hW.at fr).cell (p := ⟨fb, j, none⟩) hfl (not_low hfb)
  have insw : ∀ w, Same S0 wE.heap.size wE w → InsRow w nb (P.fn i).nI (P.fn i).ins := fun w fr => hb2.same (hW.at fr) hb4 (not_low (by omega))
  intro k
  induction k with
  | zero =>
    intro j w gf hj c
    obtain rfl : j = (P.fn i).nI := by omega
    have ft := fnText_len hB
    have efn : locE (strOfNums (P.fn i).ls) ++ insRow (P.fn i) (P.fn i).nI = fnText (P.fn i) := rfl
    rw [efn] at c
    refine bin_encodeTail.step2 _ _ _ _ _ _ _ _ _ _ ?_
    unfold bin_encodeTail.V2
    simp only [nilV_some, true_and, Nat.zero_add]
    have h2 : w.cell? ⟨fb, i * 4 + 2, none⟩ = _ := (cellf w c.fr _).trans hb1
    refine ⟨_, _, _, h2, cond_false' (decide_eq_false (by omega)) ?_⟩
    obtain ⟨uf, ef⟩ := c.ef
    obtain ⟨a, cc, hv, _⟩ := ef.slice
    have hcell := ef.c
    rw [hv] at hcell
    refine ⟨_, _, _, hcell, ?_⟩
    rw [wrap_u64 (x := (((fnText (P.fn i)).length : Nat) : Int)) (by omega) (by omega)]
    obtain ⟨us, es⟩ := c.es
    refine (u_spec es _ (by omega) (by omega) (by omega)).into (fun w1 g1 u1 hE1 hS1 => ⟨rfl, ?_⟩)
    have c1 := c.stepS ⟨u1, hE1⟩ hS1
    have qn := uleb_len (((fnText (P.fn i)).length : Nat) : Int)
    obtain ⟨uf1, ef1⟩ := c1.ef
    obtain ⟨a1, cc1, hv1, hsh1⟩ := ef1.slice
    have hcell1 := ef1.c
    rw [hv1] at hcell1
    refine ⟨_, _, _, hcell1, ?_⟩
    have hne : fnText (P.fn i) ≠ [] := by
      unfold fnText locE uleb
      rw [ulebF_succ]
      split <;> simp
    rcases hsh1 with ⟨ha1, hc1⟩ | ⟨k1, ha1, _⟩
    · exfalso
      apply hne
      rcases ef1.o.2 with ⟨_, h0⟩ | ⟨k, cap, cur, h1, _⟩
      · exact List.eq_nil_of_length_eq_zero h0
      · rw [hv1, ha1] at h1; cases h1
    · subst ha1
      have hrd := (own_read ef1 hv1).2
      refine (bytes_spec hE1 ⟨k1, 0, none⟩ _ cc1 (fnText (P.fn i)) rfl hrd (by simp; omega)).into (fun w2 g2 u2 hE2 hS2 => ⟨rfl, ?_⟩)
      have c2 := c1.stepS ⟨u2, hE2⟩ hS2
      refine hN w2 g2 gf ?_
      have : ls0 ++ codeE (P.fn i) = ls0 ++ uleb (((fnText (P.fn i)).length : Nat) : Int) ++ fnText (P.fn i) := by
        unfold codeE; simp only [List.append_assoc]
      rw [this]; exact c2
  | succ k ih =>
    intro j w gf hj c
    have rl := insRow_len (P.fn i) hT j
    have rl2 : 270 * j ≤ 270 * 96 := Nat.mul_le_mul_left _ (by omega)
    refine bin_encodeTail.step2 _ _ _ _ _ _ _ _ _ _ ?_
    unfold bin_encodeTail.V2
    simp only [nilV_some, true_and, Nat.zero_add]
    have h2 : w.cell? ⟨fb, i * 4 + 2, none⟩ = _ := (cellf w c.fr _).trans hb1
    refine ⟨_, _, _, h2, cond_true' (decide_eq_true (by omega)) ?_⟩
    have cd := c.drew
    have h2d : w.drew.cell? ⟨fb, i * 4 + 2, none⟩ = _ := (cellf _ cd.fr _).trans hb1
    refine ⟨_, _, _, h2d, by omega, ?_⟩
    simp only [nilV_some, Int.toNat_natCast, add_mk, Nat.zero_add]
    obtain ⟨z0, z1, z2⟩ := (insw _ cd.fr).at j (by omega)
    refine ⟨_, _, _, z0, z1, z2, ?_⟩
    obtain ⟨uf, ef⟩ := cd.ef
    have goT : ∀ (ta : Option Addr), w.drew.cell? ⟨fb, i * 4 + 3, none⟩ = some (.slice ta (P.fn i).nTab (P.fn i).nTab) → TabsV w.drew f gf ta (P.fn i).nTab (P.fn i).tabs → ∃ x14 x15 x16, w.drew.cell? ⟨fb, i * 4 + 3, none⟩ = some (.slice x14 x15 x16) ∧ RunsQ Try.prog bin_writer_ins.id #[.pointer (some ⟨f, 0, none⟩), .agg #[.int .u8 ((P.fn i).ins j).op, .int .u32 ((P.fn i).ins j).x, .int .u64 ((P.fn i).ins j).y], .slice x14 x15 x16] w.drew (fun r17 w18 => (r17 = (.tuple #[]) ∧ (bin_encodeTail.L2 (some ⟨o, 0, none⟩) (some ⟨s, 0, none⟩) (some ⟨f, 0, none⟩) (some ⟨mb, 0, none⟩) i (some ⟨fb, i * 4, none⟩) (IntKind.wrap .i64 ((j : Int) + 1)) R Q w18))) Q := by
      intro ta hta hTv
      refine ⟨_, _, _, hta, ?_⟩
      refine (ins_spec ef ((P.fn i).ins j) (hB.ins j (by omega)) hT hB.tabs hTv (by simp; omega)).into (fun w1 g1 u1 hE1 hS1 => ⟨rfl, ?_⟩)
      have c1 := cd.stepF ⟨u1, hE1⟩ hS1
      have e1 : IntKind.wrap .i64 ((j : Int) + 1) = ((j + 1 : Nat) : Int) := by rw [wrap_i64 (by omega) (by omega)]; omega
      rw [e1]
      refine ih (j + 1) w1 g1 (by omega) ?_
      have : locE (strOfNums (P.fn i).ls) ++ insRow (P.fn i) (j + 1) = locE (strOfNums (P.fn i).ls) ++ insRow (P.fn i) j ++ insE ((P.fn i).ins j) (P.fn i).nTab (P.fn i).tabs := by
        rw [List.append_assoc]; rfl
      rw [this]; exact c1
    rcases tb with ⟨t0, t1⟩ | ⟨t0, tk, t1, t2, t3, t4, t5⟩
    · refine goT none ?_ (.inl ⟨t0, rfl⟩)
      rw [(cellf _ cd.fr _), t1, t0]
    · refine goT _ ((cellf _ cd.fr _).trans t1) (.inr ⟨tk, rfl, t2.same (hW.at cd.fr) t4 (not_low (by omega)), ?_, ?_, ?_⟩)
      · have := cd.r3; have := hW.st.size; omega
      · intro e
        rcases cd.q3 tk e with g | g
        · rcases hW.ss tk g with h | h <;> omega
        · have := hW.st.size; omega
      · have := (hW.at cd.fr).size; omega

theorem tail1 (hW : MW wd wE S0 L mb m P) (B : PB P) (lo0 : List Int) (hb : lo0.length ≤ 200000) (R Q : Value → World → Prop)
    (hN : ∀ w' go' gs' lf' gf', EC wE S0 w' o s f (lo0 ++ secE 10 P.nf (rowsE codeE P.fn P.nf) ++ secE 11 P.nD (rowsE datE' P.da P.nD)) [] lf' go' gs' gf' → R (.tuple #[]) w') :
    ∀ (k i : Nat) (w : World) (go gs gf : Option Nat) (lf : List Int), i + k = P.nf → EC wE S0 w o s f lo0 (rowsE codeE P.fn i) lf go gs gf → bin_encodeTail.L1 (some ⟨o, 0, none⟩) (some ⟨s, 0, none⟩) (some ⟨f, 0, none⟩) (some ⟨mb, 0, none⟩) i R Q w := by
  have hnf := B.nf
  have rl : ∀ i, i ≤ P.nf → (rowsE codeE P.fn i).length ≤ 26010 * i := fun i hi => rowsE_len _ _ 26010 i (fun j hj => codeE_len (B.fn j (by omega)))
  intro k
  induction k with
  | zero =>
    intro i w go gs gf lf hi c
    obtain rfl : i = P.nf := by omega
    have r0 := rl P.nf (Nat.le_refl _)
    have r1 : 26010 * P.nf ≤ 26010 * 8 := Nat.mul_le_mul_left _ hnf
    refine bin_encodeTail.step1 _ _ _ _ _ _ _ _ ?_
    unfold bin_encodeTail.V1
    simp only [nilV_some, true_and, Nat.zero_add]
    have h2 := hW.cell c.fr 2 (by decide)
    obtain ⟨a, ha⟩ : ∃ a, m 2 = .slice a P.nf P.nf := by
      rcases hW.inv.f2 with ⟨h0, h⟩ | ⟨_, fb, h, _⟩
      · exact ⟨none, by rw [h, h0]⟩
      · exact ⟨_, h⟩
    rw [ha] at h2
    refine ⟨_, _, _, h2, cond_false' (decide_eq_false (by omega)) ⟨_, _, _, h2, ?_⟩⟩
    refine section_spec c 10 P.nf (by decide) (by omega) (by omega) (fun hp => rowsE_ne _ _ _ (by omega) (fun x => ?_)) (by omega) (fun w2 go2 c2 => ⟨rfl, ?_⟩)
    · unfold codeE uleb; rw [ulebF_succ]; split <;> simp
    have q := secE_len 10 P.nf (rowsE codeE P.fn P.nf)
    exact tail3 hW B _ (by simp; omega) R Q hN P.nD 0 w2 go2 gs (by omega) c2
  | succ k ih =>
    intro i w go gs gf lf hi c
    have r0 := rl i (by omega)
    have r1 : 26010 * i ≤ 26010 * 8 := Nat.mul_le_mul_left _ (by omega)
    rcases hW.inv.f2 with ⟨h0, _⟩ | ⟨_, fb, hm2, hrow, hfb, hfl⟩
    · omega
    have hB := B.fn i (by omega)
    refine bin_encodeTail.step1 _ _ _ _ _ _ _ _ ?_
    unfold bin_encodeTail.V1
    simp only [nilV_some, true_and, Nat.zero_add]
    have h2 := hW.cell c.fr 2 (by decide)
    rw [hm2] at h2
    refine ⟨_, _, _, h2, cond_true' (decide_eq_true (by omega)) ⟨_, _, _, h2, by omega, ?_⟩⟩
    simp only [nilV_some, Int.toNat_natCast, add_mk, Nat.zero_add]
    obtain ⟨uf, ef⟩ := c.ef
    obtain ⟨a, cc, hv, _⟩ := ef.slice
    have hcell := ef.c
    rw [hv] at hcell
    refine ⟨_, _, _, hcell, by omega, ef.cut hv (fun w1 u1 hE1 hS1 => ?_)⟩
    have c1 := c.stepF ⟨u1, hE1⟩ hS1
    have h1 : w1.cell? ⟨fb, i * 4 + 1, none⟩ = _ := ((hW.at c1.fr).cell (p := ⟨fb, i * 4 + 1, none⟩) hfl (not_low hfb)).trans (hrow.c1 i (by omega))
    refine ⟨_, h1, ?_⟩
    have hl6 := hB.ls
    refine (locals_enc hE1 _ (by omega) hB.la (by simp; omega)).into (fun w2 g2 u2 hE2 hS2 => ⟨rfl, ?_⟩)
    have c2 := c1.stepF ⟨u2, hE2⟩ hS2
    rw [List.nil_append] at c2
    refine tail2 (gs := gs) (go := go) hW B (by omega) hfb hfl hrow (rowsE codeE P.fn i) (by omega) R Q (fun w3 gs3 gf3 c3 => ?_) (P.fn i).nI 0 w2 g2 (by omega) (by rw [show insRow (P.fn i) 0 = [] from rfl, List.append_nil]; exact c2)
    have e1 : IntKind.wrap .i64 ((i : Int) + 1) = ((i + 1 : Nat) : Int) := by rw [wrap_i64 (by omega) (by omega)]; omega
    rw [e1]
    exact ih (i + 1) w3 go gs3 gf3 _ (by omega) c3

def tailE (P : PM) : List Int := secE 10 P.nf (rowsE codeE P.fn P.nf) ++ secE 11 P.nD (rowsE datE' P.da P.nD)
theorem tail_spec (hW : MW wd wE S0 L mb m P) (B : PB P) (c : EC wE S0 w o s f lo [] lf go gs gf) (hb : lo.length ≤ 200000) {R Q : Value → World → Prop} (hN : ∀ w' go' gs' lf' gf', EC wE S0 w' o s f (lo ++ tailE P) [] lf' go' gs' gf' → R (.tuple #[]) w') :
    RunsQ Try.prog bin_encodeTail.id #[rp o, rp s, rp f, rp mb] w R Q := by
  refine bin_encodeTail.enter _ _ _ _ _ _ _ ?_
  unfold bin_encodeTail.V
  refine tail1 hW B lo hb R Q (fun w' go' gs' lf' gf' c' => hN w' go' gs' lf' gf' ?_) P.nf 0 w go gs gf lf (by omega) c
  unfold tailE
  simp only [← List.append_assoc]
  exact c'
end

end Go.Proofs.Qxb6500316a
