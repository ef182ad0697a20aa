/-
  The encoder: sections 6 to 9.
-/
import Derived.Test.Qxb6500316aEnF
set_option linter.unusedSimpArgs false
set_option linter.unusedVariables false
set_option maxRecDepth 100000
set_option linter.unusedSectionVars false
namespace Go.Proofs.Qxb6500316a
open Go Go.Vc
variable [OutOf]

/-- The module as it stood when it was made (in the world wd): its blocks lie above L, and below wd's end; none of S0 is among them. -/
structure MW (wd wE : World) (S0 : List Nat) (L mb : Nat) (m : Nat → Value) (P : PM) : Prop where
  inv : MInv wd L m P
  md : ModAt wd mb m
  lm : L < mb
  st : Same (List.range (L + 1)) wd.heap.size wd wE
  ss : ∀ k, k ∈ S0 → k ≤ L ∨ wd.heap.size ≤ k
theorem MW.at {wd wE w : World} {S0 : List Nat} {L mb : Nat} {m : Nat → Value} {P : PM} (h : MW wd wE S0 L mb m P) (fr : Same S0 wE.heap.size wE w) : Same (List.range (L + 1)) wd.heap.size wd w :=
  h.st.trans (fr.mono h.st.size (by
    intro k hk hlt
    rw [List.mem_range]
    rcases h.ss k hk with g | g <;> omega))
theorem MW.mc {wd wE : World} {S0 : List Nat} {L mb : Nat} {m : Nat → Value} {P : PM} (h : MW wd wE S0 L mb m P) : MC wE S0 L mb m P := fun w fr => by
  have hS := h.at fr
  have hl := h.md.lt
  have hlm := h.lm
  exact ⟨h.inv.same hS (fun k hk => by rw [List.mem_range] at hk; omega), h.md.same hS hl (by rw [List.mem_range]; omega)⟩
theorem not_low {L b : Nat} (h : L < b) : b ∉ List.range (L + 1) := by rw [List.mem_range]; omega

def globE' (x : Glob) : List Int := [x.ty, if x.mu = true then 1 else 0] ++ konE x.init
def expE' (x : ExpV) : List Int := rawE x.nm ++ [x.kind] ++ uleb x.idx
def elE' (x : ElV) : List Int := [0] ++ konE x.off ++ uleb x.n ++ rowsE uleb x.fns x.n
def startE (P : PM) : List Int := if 0 ≤ P.start then [8, IntKind.wrap .u8 (ulenF 10 P.start 1)] ++ uleb P.start else []
theorem globE_len (x : Glob) : (globE' x).length ≤ 300 := by
  unfold globE'
  have := konE_len x.init
  simp only [List.length_append, List.length_cons, List.length_nil]; omega
theorem expE_len (x : ExpV) (h : x.nm.size ≤ 1024) : (expE' x).length ≤ 1100 := by
  unfold expE'
  have := rawE_len x.nm; have := uleb_len x.idx
  simp only [List.length_append, List.length_cons, List.length_nil]; omega
theorem elE_len (x : ElV) (h : x.n ≤ 6) : (elE' x).length ≤ 400 := by
  unfold elE'
  have := konE_len x.off; have := uleb_len x.n
  have h3 := rowsE_len uleb x.fns 10 x.n (fun j _ => uleb_len _)
  simp only [List.length_append, List.length_cons, List.length_nil]; omega

section
variable {wd wE w : World} {S0 : List Nat} {o s f L mb : Nat} {lo ls lf : List Int} {go gs gf : Option Nat} {m : Nat → Value} {P : PM}

/-- The row of a list, wherever the encoder has come to. -/
theorem MW.row (h : MW wd wE S0 L mb m P) {α : Type} {enc : α → List Value} {sz : Nat} {v : Value} {n : Nat} {ff : Nat → α} (hs : SlF enc sz wd L v n ff) : ∃ a, v = .slice a n n ∧ (n ≠ 0 → ∃ b, a = some ⟨b, 0, none⟩ ∧ ∀ w, Same S0 wE.heap.size wE w → RowF enc sz w b n ff) := by
  rcases hs with ⟨h0, hv⟩ | ⟨h0, b, h1, h2, h3, h4⟩
  · exact ⟨none, by rw [hv, h0], fun g => absurd h0 g⟩
  · exact ⟨_, h1, fun _ => ⟨b, rfl, fun w fr => h2.same (h.at fr) h4 (not_low h3)⟩⟩
theorem MW.cell (h : MW wd wE S0 L mb m P) (fr : Same S0 wE.heap.size wE w) (j : Nat) (hj : j < 12) : w.cell? ⟨mb, j, none⟩ = some (m j) := (h.mc w fr).2.c j hj

theorem fns_enc {i : Nat} {fa : Option Addr} {fc n : Nat} (hn : n ≤ 6) (fns : Nat → Int) (hr : ∀ k, k < n → 0 ≤ fns k ∧ fns k ≤ 4294967295) (hrow : n ≠ 0 → ∃ b, fa = some ⟨b, 0, none⟩ ∧ ∀ w, Same S0 wE.heap.size wE w → RowF u32E 1 w b n fns) (ls0 : List Int) (hb : ls0.length ≤ 10000) (R Q : Value → World → Prop)
    (hN : ∀ w' gs', EC wE S0 w' o s f lo (ls0 ++ rowsE uleb fns n) lf go gs' gf → bin_encodeMid.L5 (some ⟨o, 0, none⟩) (some ⟨s, 0, none⟩) (some ⟨mb, 0, none⟩) (IntKind.wrap .i64 ((i : Int) + 1)) R Q w') :
    ∀ (k j : Nat) (w : World) (gs : Option Nat), j + k = n → EC wE S0 w o s f lo (ls0 ++ rowsE uleb fns j) lf go gs gf → bin_encodeMid.L6 (some ⟨o, 0, none⟩) (some ⟨s, 0, none⟩) (some ⟨mb, 0, none⟩) i fa n fc j R Q w := by
  have rl : ∀ j, (rowsE uleb fns j).length ≤ 10 * j := fun j => rowsE_len _ _ 10 j (fun j _ => uleb_len _)
  intro k
  induction k with
  | zero =>
    intro j w gs hj c
    obtain rfl : j = n := by omega
    refine bin_encodeMid.step6 _ _ _ _ _ _ _ _ _ _ _ ?_
    unfold bin_encodeMid.V6
    exact cond_false' (decide_eq_false (by omega)) (hN w gs c)
  | succ k ih =>
    intro j w gs hj c
    have r0 := rl j
    refine bin_encodeMid.step6 _ _ _ _ _ _ _ _ _ _ _ ?_
    unfold bin_encodeMid.V6
    obtain ⟨b, rfl, hrow'⟩ := hrow (by omega)
    refine cond_true' (decide_eq_true (by omega)) ⟨by omega, ?_⟩
    simp only [nilV_some, Int.toNat_natCast, add_mk, Nat.zero_add]
    have hc := (hrow' w c.fr).c j (by omega) 0 _ rfl
    rw [Nat.add_zero] at hc
    refine ⟨_, hc, ?_⟩
    have hj' := hr j (by omega)
    rw [wrap_u64 (x := fns j) (by omega) (by omega)]
    obtain ⟨us, es⟩ := c.es
    refine (u_spec es _ (by omega) (by omega) (by simp; omega)).into (fun w1 g1 u1 hE1 hS1 => ⟨rfl, ?_⟩)
    have e1 : IntKind.wrap .i64 ((j : Int) + 1) = ((j + 1 : Nat) : Int) := by rw [wrap_i64 (by omega) (by omega)]; omega
    rw [e1]
    refine ih (j + 1) w1 g1 (by omega) ?_
    rw [rowsE_succ, ← List.append_assoc]
    exact c.stepS ⟨u1, hE1⟩ hS1

theorem mid5 (hW : MW wd wE S0 L mb m P) (B : PB P) (lo0 : List Int) (hb : lo0.length ≤ 200000) (R Q : Value → World → Prop)
    (hN : ∀ w' go' gs', EC wE S0 w' o s f (lo0 ++ secE 9 P.nEl (rowsE elE' P.el P.nEl)) [] lf go' gs' gf → R (.tuple #[]) w') :
    ∀ (k i : Nat) (w : World) (go gs : Option Nat), i + k = P.nEl → EC wE S0 w o s f lo0 (rowsE elE' P.el i) lf go gs gf → bin_encodeMid.L5 (some ⟨o, 0, none⟩) (some ⟨s, 0, none⟩) (some ⟨mb, 0, none⟩) i R Q w := by
  have hnf := B.nEl
  have rl : ∀ i, i ≤ P.nEl → (rowsE elE' P.el i).length ≤ 400 * i := fun i hi => rowsE_len _ _ 400 i (fun j hj => elE_len _ (B.el j (by omega)).2.1)
  have hsh : ∃ a, m 10 = .slice a P.nEl P.nEl ∧ (P.nEl ≠ 0 → ∃ (b : Nat) (fr : Nat → ElR), a = some ⟨b, 0, none⟩ ∧ (∀ w, Same S0 wE.heap.size wE w → RowF elE 4 w b P.nEl fr) ∧ ∀ j, j < P.nEl → (fr j).off = (P.el j).off ∧ SlF u32E 1 wd L (fr j).sl (P.el j).n (P.el j).fns) := by
    rcases hW.inv.l10 with ⟨h0, h⟩ | ⟨h0, b, h1, ⟨fr, h2, h3⟩, h4, h5⟩
    · exact ⟨none, by rw [h, h0], fun g => absurd h0 g⟩
    · exact ⟨_, h1, fun _ => ⟨b, fr, rfl, fun w f => h2.same (hW.at f) h5 (not_low h4), fun j hj => ⟨(h3 j hj).1, (h3 j hj).2.1⟩⟩⟩
  obtain ⟨a, ha, hrows⟩ := hsh
  intro k
  induction k with
  | zero =>
    intro i w go gs hi c
    obtain rfl : i = P.nEl := by omega
    have r0 := rl P.nEl (Nat.le_refl _)
    refine bin_encodeMid.step5 _ _ _ _ _ _ _ ?_
    unfold bin_encodeMid.V5
    simp only [nilV_some, true_and, Nat.zero_add]
    have h2 := hW.cell c.fr 10 (by decide)
    rw [ha] at h2
    refine ⟨_, _, _, h2, cond_false' (decide_eq_false (by omega)) ⟨_, _, _, h2, ?_⟩⟩
    refine section_spec c 9 P.nEl (by decide) (by omega) (by omega) (fun hp => rowsE_ne _ _ _ (by omega) (fun x => ?_)) (by omega) (fun w2 go2 c2 => ⟨rfl, hN w2 go2 gs c2⟩)
    unfold elE'; simp
  | succ k ih =>
    intro i w go gs hi c
    have r0 := rl i (by omega)
    obtain ⟨b, fr, rfl, hrow, hin⟩ := hrows (by omega)
    obtain ⟨hoff, hsl⟩ := hin i (by omega)
    have bd := B.el i (by omega)
    obtain ⟨fa, hfa, hfr⟩ := hW.row hsl
    refine bin_encodeMid.step5 _ _ _ _ _ _ _ ?_
    unfold bin_encodeMid.V5
    simp only [nilV_some, true_and, Nat.zero_add]
    have h2 := hW.cell c.fr 10 (by decide)
    rw [ha] at h2
    refine ⟨_, _, _, h2, cond_true' (decide_eq_true (by omega)) ⟨_, _, _, h2, by omega, ?_⟩⟩
    simp only [nilV_some, Int.toNat_natCast, add_mk, Nat.zero_add]
    have hc3 := (hrow w c.fr).c i (by omega) 3 _ rfl
    rw [hfa] at hc3
    refine ⟨_, _, _, hc3, ?_⟩
    obtain ⟨us, es⟩ := c.es
    refine put1 es _ (by omega) (fun w1 g1 u1 hE1 hS1 => ?_)
    have c1 := c.stepS ⟨u1, hE1⟩ hS1
    have h21 := hW.cell c1.fr 10 (by decide)
    rw [ha] at h21
    refine ⟨_, _, _, h21, by omega, ?_⟩
    simp only [nilV_some, add_mk, Nat.zero_add]
    have k0 := (hrow w1 c1.fr).c i (by omega) 0 _ rfl
    rw [Nat.add_zero] at k0
    refine ⟨_, _, _, k0, (hrow w1 c1.fr).c i (by omega) 1 _ rfl, (hrow w1 c1.fr).c i (by omega) 2 _ rfl, ?_⟩
    rw [hoff]
    have qk := konE_len (P.el i).off
    refine (konst_spec hE1 _ bd.1 (by simp; omega)).into (fun w2 g2 u2 hE2 hS2 => ⟨rfl, ?_⟩)
    have c2 := c1.stepS ⟨u2, hE2⟩ hS2
    rw [wrap_u64 (x := (((P.el i).n : Nat) : Int)) (by omega) (by omega)]
    refine (u_spec hE2 _ (by omega) (by omega) (by simp; omega)).into (fun w3 g3 u3 hE3 hS3 => ⟨rfl, ?_⟩)
    have c3 := c2.stepS ⟨u3, hE3⟩ hS3
    have qn := uleb_len (P.el i).n
    refine fns_enc bd.2.1 (P.el i).fns bd.2.2 hfr (rowsE elE' P.el i ++ [0] ++ konE (P.el i).off ++ uleb (P.el i).n) (by simp only [List.length_append, List.length_cons, List.length_nil]; omega) R Q (fun w4 g4 c4 => ?_) (P.el i).n 0 w3 g3 (by omega) (by rw [show rowsE uleb (P.el i).fns 0 = [] from rfl, List.append_nil]; exact c3)
    have e1 : IntKind.wrap .i64 ((i : Int) + 1) = ((i + 1 : Nat) : Int) := by rw [wrap_i64 (by omega) (by omega)]; omega
    rw [e1]
    refine ih (i + 1) w4 go g4 (by omega) ?_
    rw [rowsE_succ]
    have : rowsE elE' P.el i ++ elE' (P.el i) = rowsE elE' P.el i ++ [0] ++ konE (P.el i).off ++ uleb (P.el i).n ++ rowsE uleb (P.el i).fns (P.el i).n := by
      unfold elE'; simp only [List.append_assoc]
    rw [this]; exact c4

theorem mid3 (hW : MW wd wE S0 L mb m P) (B : PB P) (lo0 : List Int) (hb : lo0.length ≤ 120000) (R Q : Value → World → Prop)
    (hN : ∀ w' go' gs', EC wE S0 w' o s f (lo0 ++ secE 7 P.nEx (rowsE expE' P.ex P.nEx) ++ startE P ++ secE 9 P.nEl (rowsE elE' P.el P.nEl)) [] lf go' gs' gf → R (.tuple #[]) w') :
    ∀ (k i : Nat) (w : World) (go gs : Option Nat), i + k = P.nEx → EC wE S0 w o s f lo0 (rowsE expE' P.ex i) lf go gs gf → bin_encodeMid.L3 (some ⟨o, 0, none⟩) (some ⟨s, 0, none⟩) (some ⟨mb, 0, none⟩) i R Q w := by
  have hnf := B.nEx
  have rl : ∀ i, i ≤ P.nEx → (rowsE expE' P.ex i).length ≤ 1100 * i := fun i hi => rowsE_len _ _ 1100 i (fun j hj => expE_len _ (B.ex j (by omega)).1)
  obtain ⟨a, ha, hrows⟩ := hW.row hW.inv.e8
  intro k
  induction k with
  | zero =>
    intro i w go gs hi c
    obtain rfl : i = P.nEx := by omega
    have r0 := rl P.nEx (Nat.le_refl _)
    refine bin_encodeMid.step3 _ _ _ _ _ _ _ ?_
    unfold bin_encodeMid.V3
    simp only [nilV_some, true_and, Nat.zero_add]
    have h2 := hW.cell c.fr 8 (by decide)
    rw [ha] at h2
    refine ⟨_, _, _, h2, cond_false' (decide_eq_false (by omega)) ⟨_, _, _, h2, ?_⟩⟩
    refine section_spec c 7 P.nEx (by decide) (by omega) (by omega) (fun hp => rowsE_ne _ _ _ (by omega) (fun x => ?_)) (by omega) (fun w2 go2 c2 => ⟨rfl, ?_⟩)
    · unfold expE'; simp
    have q := secE_len 7 P.nEx (rowsE expE' P.ex P.nEx)
    have h9 := hW.cell c2.fr 9 (by decide)
    rw [hW.inv.s9] at h9
    refine ⟨_, h9, ?_⟩
    have s0 := B.s0
    have L4 : ∀ w3 go3 lo3, lo3 = lo0 ++ secE 7 P.nEx (rowsE expE' P.ex P.nEx) ++ startE P → lo3.length ≤ 130000 → EC wE S0 w3 o s f lo3 [] lf go3 gs gf → bin_encodeMid.L4 (some ⟨o, 0, none⟩) (some ⟨s, 0, none⟩) (some ⟨mb, 0, none⟩) R Q w3 := by
      intro w3 go3 lo3 hlo hlen c3
      refine bin_encodeMid.step4 _ _ _ _ _ _ ?_
      unfold bin_encodeMid.V4
      subst hlo
      exact mid5 hW B _ (by omega) R Q hN P.nEl 0 w3 go3 gs (by omega) c3
    by_cases hst : 0 ≤ P.start
    · have hsE : startE P = [8, IntKind.wrap .u8 (ulenF 10 P.start 1)] ++ uleb P.start := by unfold startE; rw [if_pos hst]
      refine cond_true' (decide_eq_true hst) ⟨_, h9, ?_⟩
      rw [wrap_u64 (x := P.start) (by omega) (by omega)]
      refine RunsQ.mono (ulen_spec w2 P.start hst (by omega)) ?_ (fun _ _ h => h.elim)
      rintro v w' ⟨rfl, rfl⟩
      refine ⟨_, rfl, ?_⟩
      obtain ⟨uo, eo⟩ := c2.eo
      refine puts eo [8, IntKind.wrap .u8 (ulenF 10 P.start 1)] (by simp; omega) _ rfl 2 rfl (fun w3 g3 u3 hE3 hS3 => ?_)
      have c3 := c2.stepO ⟨u3, hE3⟩ hS3
      have h93 := hW.cell c3.fr 9 (by decide)
      rw [hW.inv.s9] at h93
      refine ⟨_, h93, ?_⟩
      rw [wrap_u64 (x := P.start) (by omega) (by omega)]
      have qs := uleb_len P.start
      refine (u_spec hE3 _ (by omega) (by omega) (by simp; omega)).into (fun w4 g4 u4 hE4 hS4 => ⟨rfl, ?_⟩)
      refine L4 w4 g4 _ ?_ ?_ (c3.stepO ⟨u4, hE4⟩ hS4)
      · rw [hsE]; simp only [List.append_assoc]
      · simp; omega
    · have hsE : startE P = [] := by unfold startE; rw [if_neg hst]
      refine cond_false' (decide_eq_false hst) (L4 w2 go2 _ (by rw [hsE, List.append_nil]) (by simp; omega) c2)
  | succ k ih =>
    intro i w go gs hi c
    have r0 := rl i (by omega)
    obtain ⟨b, rfl, hrow⟩ := hrows (by omega)
    have bd := B.ex i (by omega)
    refine bin_encodeMid.step3 _ _ _ _ _ _ _ ?_
    unfold bin_encodeMid.V3
    simp only [nilV_some, true_and, Nat.zero_add]
    have h2 := hW.cell c.fr 8 (by decide)
    rw [ha] at h2
    refine ⟨_, _, _, h2, cond_true' (decide_eq_true (by omega)) ⟨_, _, _, h2, by omega, ?_⟩⟩
    simp only [nilV_some, Int.toNat_natCast, add_mk, Nat.zero_add]
    have k0 := (hrow w c.fr).c i (by omega) 0 _ rfl
    rw [Nat.add_zero] at k0
    refine ⟨_, k0, ?_⟩
    obtain ⟨us, es⟩ := c.es
    refine (raw_spec es _ bd.1 (by omega)).into (fun w1 g1 u1 hE1 hS1 => ⟨rfl, ?_⟩)
    have c1 := c.stepS ⟨u1, hE1⟩ hS1
    have q1 := rawE_len (P.ex i).nm
    have h21 := hW.cell c1.fr 8 (by decide)
    rw [ha] at h21
    refine ⟨_, _, _, h21, by omega, ?_⟩
    simp only [nilV_some, add_mk, Nat.zero_add]
    refine ⟨_, (hrow w1 c1.fr).c i (by omega) 1 _ rfl, ?_⟩
    refine put1 hE1 _ (by simp; omega) (fun w2 g2 u2 hE2 hS2 => ?_)
    have c2 := c1.stepS ⟨u2, hE2⟩ hS2
    have h22 := hW.cell c2.fr 8 (by decide)
    rw [ha] at h22
    refine ⟨_, _, _, h22, by omega, ?_⟩
    simp only [nilV_some, add_mk, Nat.zero_add]
    refine ⟨_, (hrow w2 c2.fr).c i (by omega) 2 _ rfl, ?_⟩
    rw [wrap_u64 (x := (P.ex i).idx) (by omega) (by omega)]
    refine (u_spec hE2 _ (by omega) (by omega) (by simp; omega)).into (fun w3 g3 u3 hE3 hS3 => ⟨rfl, ?_⟩)
    have c3 := c2.stepS ⟨u3, hE3⟩ hS3
    have e1 : IntKind.wrap .i64 ((i : Int) + 1) = ((i + 1 : Nat) : Int) := by rw [wrap_i64 (by omega) (by omega)]; omega
    rw [e1]
    refine ih (i + 1) w3 go g3 (by omega) ?_
    rw [rowsE_succ]
    have : rowsE expE' P.ex i ++ expE' (P.ex i) = rowsE expE' P.ex i ++ rawE (P.ex i).nm ++ [(P.ex i).kind] ++ uleb (P.ex i).idx := by
      unfold expE'; simp only [List.append_assoc]
    rw [this]; exact c3

theorem mid1 (hW : MW wd wE S0 L mb m P) (B : PB P) (lo0 : List Int) (hb : lo0.length ≤ 110000) (R Q : Value → World → Prop)
    (hN : ∀ w' go' gs', EC wE S0 w' o s f (lo0 ++ secE 6 P.gn (rowsE globE' P.g P.gn) ++ secE 7 P.nEx (rowsE expE' P.ex P.nEx) ++ startE P ++ secE 9 P.nEl (rowsE elE' P.el P.nEl)) [] lf go' gs' gf → R (.tuple #[]) w') :
    ∀ (k i : Nat) (w : World) (go gs : Option Nat), i + k = P.gn → EC wE S0 w o s f lo0 (rowsE globE' P.g i) lf go gs gf → bin_encodeMid.L1 (some ⟨o, 0, none⟩) (some ⟨s, 0, none⟩) (some ⟨mb, 0, none⟩) i R Q w := by
  have hnf := B.gn
  have rl : ∀ i, i ≤ P.gn → (rowsE globE' P.g i).length ≤ 300 * i := fun i hi => rowsE_len _ _ 300 i (fun j hj => globE_len _)
  obtain ⟨a, ha, hrows⟩ := hW.row hW.inv.g7
  intro k
  induction k with
  | zero =>
    intro i w go gs hi c
    obtain rfl : i = P.gn := by omega
    have r0 := rl P.gn (Nat.le_refl _)
    refine bin_encodeMid.step1 _ _ _ _ _ _ _ ?_
    unfold bin_encodeMid.V1
    simp only [nilV_some, true_and, Nat.zero_add]
    have h2 := hW.cell c.fr 7 (by decide)
    rw [ha] at h2
    refine ⟨_, _, _, h2, cond_false' (decide_eq_false (by omega)) ⟨_, _, _, h2, ?_⟩⟩
    refine section_spec c 6 P.gn (by decide) (by omega) (by omega) (fun hp => rowsE_ne _ _ _ (by omega) (fun x => ?_)) (by omega) (fun w2 go2 c2 => ⟨rfl, ?_⟩)
    · unfold globE'; simp
    have q := secE_len 6 P.gn (rowsE globE' P.g P.gn)
    exact mid3 hW B _ (by simp; omega) R Q hN P.nEx 0 w2 go2 gs (by omega) c2
  | succ k ih =>
    intro i w go gs hi c
    have r0 := rl i (by omega)
    obtain ⟨b, rfl, hrow⟩ := hrows (by omega)
    have bd := B.g i (by omega)
    refine bin_encodeMid.step1 _ _ _ _ _ _ _ ?_
    unfold bin_encodeMid.V1
    simp only [nilV_some, true_and, Nat.zero_add]
    have h2 := hW.cell c.fr 7 (by decide)
    rw [ha] at h2
    refine ⟨_, _, _, h2, cond_true' (decide_eq_true (by omega)) ⟨_, _, _, h2, by omega, ?_⟩⟩
    simp only [nilV_some, Int.toNat_natCast, add_mk, Nat.zero_add]
    refine ⟨_, (hrow w c.fr).c i (by omega) 1 _ rfl, ?_⟩
    have L2 : ∀ mt : Int, mt = (if (P.g i).mu = true then 1 else 0) → bin_encodeMid.L2 (some ⟨o, 0, none⟩) (some ⟨s, 0, none⟩) (some ⟨mb, 0, none⟩) i mt R Q w := by
      intro mt hmut
      refine bin_encodeMid.step2 _ _ _ _ _ _ _ _ ?_
      unfold bin_encodeMid.V2
      simp only [nilV_some, true_and, Nat.zero_add]
      refine ⟨_, _, _, h2, by omega, ?_⟩
      simp only [nilV_some, Int.toNat_natCast, add_mk, Nat.zero_add]
      have k0 := (hrow w c.fr).c i (by omega) 0 _ rfl
      rw [Nat.add_zero] at k0
      refine ⟨_, k0, ?_⟩
      obtain ⟨us, es⟩ := c.es
      refine puts es [(P.g i).ty, mt] (by simp; omega) _ rfl 2 rfl (fun w1 g1 u1 hE1 hS1 => ?_)
      have c1 := c.stepS ⟨u1, hE1⟩ hS1
      have h21 := hW.cell c1.fr 7 (by decide)
      rw [ha] at h21
      refine ⟨_, _, _, h21, by omega, ?_⟩
      simp only [nilV_some, add_mk, Nat.zero_add]
      refine ⟨_, _, _, (hrow w1 c1.fr).c i (by omega) 2 _ rfl, (hrow w1 c1.fr).c i (by omega) 3 _ rfl, (hrow w1 c1.fr).c i (by omega) 4 _ rfl, ?_⟩
      refine (konst_spec hE1 _ bd.2.2 (by simp; omega)).into (fun w2 g2 u2 hE2 hS2 => ⟨rfl, ?_⟩)
      have c2 := c1.stepS ⟨u2, hE2⟩ hS2
      have e1 : IntKind.wrap .i64 ((i : Int) + 1) = ((i + 1 : Nat) : Int) := by rw [wrap_i64 (by omega) (by omega)]; omega
      rw [e1]
      refine ih (i + 1) w2 go g2 (by omega) ?_
      rw [rowsE_succ]
      have : rowsE globE' P.g i ++ globE' (P.g i) = rowsE globE' P.g i ++ [(P.g i).ty, mt] ++ konE (P.g i).init := by
        unfold globE'; rw [hmut]; simp only [List.append_assoc]
      rw [this]; exact c2
    refine cond_intro (fun hmu => L2 1 (by rw [if_pos hmu])) (fun hmu => L2 0 (by rw [hmu]; rfl))

def midE (P : PM) : List Int := secE 6 P.gn (rowsE globE' P.g P.gn) ++ secE 7 P.nEx (rowsE expE' P.ex P.nEx) ++ startE P ++ secE 9 P.nEl (rowsE elE' P.el P.nEl)
theorem mid_spec (hW : MW wd wE S0 L mb m P) (B : PB P) (c : EC wE S0 w o s f lo [] lf go gs gf) (hb : lo.length ≤ 110000) {R Q : Value → World → Prop} (hN : ∀ w' go' gs', EC wE S0 w' o s f (lo ++ midE P) [] lf go' gs' gf → R (.tuple #[]) w') :
    RunsQ Try.prog bin_encodeMid.id #[rp o, rp s, rp mb] w R Q := by
  refine bin_encodeMid.enter _ _ _ _ _ _ ?_
  unfold bin_encodeMid.V
  refine mid1 hW B lo hb R Q (fun w' go' gs' c' => hN w' go' gs' ?_) P.gn 0 w go gs (by omega) c
  unfold midE
  simp only [← List.append_assoc]
  exact c'
end

end Go.Proofs.Qxb6500316a
