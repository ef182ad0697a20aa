/-
  The encoder's three writers; a section.
-/
import Derived.Test.Qxb6500316aEnD
set_option linter.unusedSimpArgs false
set_option linter.unusedVariables false
set_option maxRecDepth 100000
set_option linter.unusedSectionVars false
namespace Go.Proofs.Qxb6500316a
open Go Go.Vc
variable [OutOf]

/-- The three writers, each with its bytes in a block of its own; of the blocks that were there when Encode began none but S0 has changed. -/
structure EC (wE : World) (S0 : List Nat) (w : World) (o s f : Nat) (lo ls lf : List Int) (go gs gf : Option Nat) : Prop where
  eo : ∃ u, EW w o lo go u
  es : ∃ u, EW w s ls gs u
  ef : ∃ u, EW w f lf gf u
  d1 : o ≠ s
  d2 : o ≠ f
  d3 : s ≠ f
  x1 : go ≠ some s
  x2 : go ≠ some f
  x3 : gs ≠ some o
  x4 : gs ≠ some f
  x5 : gf ≠ some o
  x6 : gf ≠ some s
  y1 : ∀ k, go = some k → gs ≠ some k
  y2 : ∀ k, go = some k → gf ≠ some k
  y3 : ∀ k, gs = some k → gf ≠ some k
  fr : Same S0 wE.heap.size wE w
  r1 : wE.heap.size ≤ o
  r2 : wE.heap.size ≤ s
  r3 : wE.heap.size ≤ f
  q1 : ∀ k, go = some k → k ∈ S0 ∨ wE.heap.size ≤ k
  q2 : ∀ k, gs = some k → k ∈ S0 ∨ wE.heap.size ≤ k
  q3 : ∀ k, gf = some k → k ∈ S0 ∨ wE.heap.size ≤ k

section
variable {wE w w' : World} {S0 : List Nat} {o s f : Nat} {lo ls lf l' : List Int} {go gs gf g' : Option Nat}

theorem fr_step {wE w w' : World} {S0 : List Nat} {wb : Nat} {g g' : Option Nat} (fr : Same S0 wE.heap.size wE w) (hr : wE.heap.size ≤ wb) (hq : ∀ k, g = some k → k ∈ S0 ∨ wE.heap.size ≤ k) (hS : WS w w' wb g g') : Same S0 wE.heap.size wE w' :=
  fr.trans (hS.S.mono fr.size (by
    intro k hk hlt
    simp only [List.mem_cons, Option.mem_toList] at hk
    rcases hk with rfl | hk
    · omega
    · rcases hq k hk with h | h
      · exact h
      · omega))
theorem q_step {wE w w' : World} {S0 : List Nat} {wb : Nat} {g g' : Option Nat} (fr : Same S0 wE.heap.size wE w) (hq : ∀ k, g = some k → k ∈ S0 ∨ wE.heap.size ≤ k) (hS : WS w w' wb g g') : ∀ k, g' = some k → k ∈ S0 ∨ wE.heap.size ≤ k := by
  intro k hk
  rcases hS.og with rfl | ⟨x, hx, hl⟩
  · exact hq k hk
  · rw [hx] at hk; injection hk with hk; subst hk
    exact .inr (Nat.le_trans fr.size hl)
/-- What is apart from the writer's bytes stays so. -/
theorem apart_step {w w' : World} {wb : Nat} {g g' h : Option Nat} (hS : WS w w' wb g g') (hh : ∀ k, h = some k → k < w.heap.size) (ha : ∀ k, g = some k → h ≠ some k) : ∀ k, g' = some k → h ≠ some k := by
  intro k hk e
  rcases hS.og with rfl | ⟨x, hx, hl⟩
  · exact ha k hk e
  · have := hh k e
    rw [hx] at hk; injection hk with hk; omega

theorem EC.stepS (c : EC wE S0 w o s f lo ls lf go gs gf) (hE : ∃ u, EW w' s l' g' u) (hS : WS w w' s gs g') : EC wE S0 w' o s f lo l' lf go g' gf := by
  obtain ⟨uo, eo⟩ := c.eo
  obtain ⟨uf, ef⟩ := c.ef
  have lo' := eo.lt; have lf' := ef.lt
  refine ⟨⟨uo, eo.same hS.S (hS.not c.d1 c.x3) (fun k hk => hS.not (fun e => c.x1 (by rw [hk, e])) (c.y1 k hk))⟩, hE, ⟨uf, ef.same hS.S (hS.not c.d3.symm c.x4) (fun k hk => hS.not (fun e => c.x6 (by rw [hk, e])) (fun e => c.y3 k e hk))⟩,
    c.d1, c.d2, c.d3, c.x1, c.x2, hS.gne lo' c.x3, hS.gne lf' c.x4, c.x5, c.x6, ?_, c.y2, apart_step hS ef.glt c.y3, fr_step c.fr c.r2 c.q2 hS, c.r1, c.r2, c.r3, c.q1, q_step c.fr c.q2 hS, c.q3⟩
  intro k hk e
  exact apart_step hS eo.glt (fun j hj e2 => c.y1 j e2 hj) k e hk
theorem EC.stepO (c : EC wE S0 w o s f lo ls lf go gs gf) (hE : ∃ u, EW w' o l' g' u) (hS : WS w w' o go g') : EC wE S0 w' o s f l' ls lf g' gs gf := by
  obtain ⟨us, es⟩ := c.es
  obtain ⟨uf, ef⟩ := c.ef
  have ls' := es.lt; have lf' := ef.lt
  exact ⟨hE, ⟨us, es.same hS.S (hS.not c.d1.symm c.x1) (fun k hk => hS.not (fun e => c.x3 (by rw [hk, e])) (fun e => c.y1 k e hk))⟩, ⟨uf, ef.same hS.S (hS.not c.d2.symm c.x2) (fun k hk => hS.not (fun e => c.x5 (by rw [hk, e])) (fun e => c.y2 k e hk))⟩,
    c.d1, c.d2, c.d3, hS.gne ls' c.x1, hS.gne lf' c.x2, c.x3, c.x4, c.x5, c.x6, apart_step hS es.glt c.y1, apart_step hS ef.glt c.y2, c.y3, fr_step c.fr c.r1 c.q1 hS, c.r1, c.r2, c.r3, q_step c.fr c.q1 hS, c.q2, c.q3⟩
theorem EC.stepF (c : EC wE S0 w o s f lo ls lf go gs gf) (hE : ∃ u, EW w' f l' g' u) (hS : WS w w' f gf g') : EC wE S0 w' o s f lo ls l' go gs g' := by
  obtain ⟨uo, eo⟩ := c.eo
  obtain ⟨us, es⟩ := c.es
  have lo' := eo.lt; have ls' := es.lt
  refine ⟨⟨uo, eo.same hS.S (hS.not c.d2 c.x5) (fun k hk => hS.not (fun e => c.x2 (by rw [hk, e])) (c.y2 k hk))⟩, ⟨us, es.same hS.S (hS.not c.d3 c.x6) (fun k hk => hS.not (fun e => c.x4 (by rw [hk, e])) (c.y3 k hk))⟩, hE,
    c.d1, c.d2, c.d3, c.x1, c.x2, c.x3, c.x4, hS.gne lo' c.x5, hS.gne ls' c.x6, c.y1, ?_, ?_, fr_step c.fr c.r3 c.q3 hS, c.r1, c.r2, c.r3, c.q1, c.q2, q_step c.fr c.q3 hS⟩
  · intro k hk e
    exact apart_step hS eo.glt (fun j hj e2 => c.y2 j e2 hj) k e hk
  · intro k hk e
    exact apart_step hS es.glt (fun j hj e2 => c.y3 j e2 hj) k e hk
theorem EC.drew (c : EC wE S0 w o s f lo ls lf go gs gf) : EC wE S0 w.drew o s f lo ls lf go gs gf := by
  have hS : Same [] w.heap.size w w.drew := (Same.refl _ _ _).drew
  obtain ⟨us, es⟩ := c.es
  exact c.stepS ⟨us, es.same hS (by simp) (by simp)⟩ (WS.of s gs hS)

/-- A writer's bytes are forgotten; their room stays. -/
theorem EW.cut {w : World} {wb : Nat} {l : List Int} {g : Option Nat} {v : Value} (h : EW w wb l g v) {a : Option Addr} {n c : Nat} (hv : v = .slice a n c) {K : World → Prop}
    (hK : ∀ w' u, EW w' wb [] g u → WS w w' wb g g → K w') : can w ⟨wb, 0, none⟩ ∧ letW (World.setCell w ⟨wb, 0, none⟩ (.slice (slAddr a 0 c 1) ((Int.toNat 0) - 0) (c - 0))) fun w' => K w' := by
  refine ⟨⟨⟨v, h.c⟩, h.f 0⟩, letW_intro fun w' hw' => ?_⟩
  have e : (Value.slice (slAddr a 0 c 1) ((Int.toNat 0) - 0) (c - 0)) = .slice a 0 c := by
    have e1 : slAddr a 0 c 1 = a := by
      unfold slAddr
      split
      · rfl
      · cases a with
        | none => rfl
        | some x =>
          rcases h.o.2 with ⟨h1, _⟩ | ⟨k, cap, cur, h1, _⟩
          · rw [hv] at h1; cases h1
          · rw [hv] at h1; injection h1 with h2 h3 h4
            injection h2 with h2
            subst h2
            simp only [Option.map_some, Nat.zero_mul, add_mk, Nat.add_zero]
    rw [e1]; rfl
  rw [e] at hw'
  have hn : (Value.slice a 0 c).ownBlock = g := by
    rw [← h.og, hv]
    cases a <;> rfl
  have hown : w.ownsRow 0 T_uint8 1 (.slice a 0 c) ([] : List Int).length (nums []) := by
    refine ⟨rfl, ?_⟩
    rcases h.o.2 with ⟨h1, _⟩ | ⟨k, cap, cur, h1, h2, h3, h4, h5, h6, h7⟩
    · rw [hv] at h1; injection h1 with e1 e2 e3
      subst e1; subst e3
      exact .inl ⟨rfl, rfl⟩
    · rw [hv] at h1; injection h1 with e1 e2 e3
      subst e1; subst e3
      exact .inr ⟨k, c, cur, rfl, h2, h3, Nat.zero_le _, h5, h6, by simp⟩
  have hne : (Value.slice a 0 c).ownBlock ≠ some wb := by rw [hn]; exact h.ne
  refine hK w' (.slice a 0 c) ⟨?_, fun j => ?_, ?_, hn, h.ne⟩ ⟨.inl rfl, ?_⟩
  · rw [hw', cell_setCell, if_pos ⟨rfl, rfl⟩, h.c]; rfl
  · rw [hw', World.frozen?_setCell]; exact h.f j
  · rw [hw']; exact ownsRow_setCell_other hown hne _
  · rw [hw']; exact (Same.refl _ _ _).setCell (.inr (by simp)) _

/-! ### section -/
def secE (id n : Int) (ls : List Int) : List Int := if 0 < n then [id] ++ uleb (ulenF 10 n 1 + (ls.length : Int)) ++ uleb n ++ ls else []
theorem secE_len (id n : Int) (ls : List Int) : (secE id n ls).length ≤ 21 + ls.length := by
  unfold secE
  have := uleb_len (ulenF 10 n 1 + (ls.length : Int))
  have := uleb_len n
  split
  · simp only [List.length_append, List.length_cons, List.length_nil]; omega
  · simp

theorem own_read {w : World} {wb : Nat} {l : List Int} {g : Option Nat} {v : Value} (h : EW w wb l g v) {a : Addr} {n c : Nat} (hv : v = .slice (some a) n c) : n = l.length ∧ ∀ j u, (nums l)[j]? = some u → w.cell? (a.add j) = some u := by
  rcases h.o.2 with ⟨h1, _⟩ | ⟨k, cap, cur, h1, _⟩
  · rw [hv] at h1; cases h1
  · have hc := h.o.cells (g := k) (by rw [h1]; rfl)
    rw [hv] at h1; injection h1 with e1 e2 e3
    injection e1 with e1
    subst e1
    exact ⟨e2, hc⟩

theorem section_spec (c : EC wE S0 w o s f lo ls lf go gs gf) (id n : Int) (hid : 0 ≤ id ∧ id ≤ 255) (hn0 : 0 ≤ n) (hn1 : n ≤ 1000) (hne : 0 < n → ls ≠ []) (hb : lo.length + ls.length + 30 ≤ 1000000) {R Q : Value → World → Prop}
    (hR : ∀ w' go', EC wE S0 w' o s f (lo ++ secE id n ls) [] lf go' gs gf → R (.tuple #[]) w') :
    RunsQ Try.prog bin_writer_section.id #[rp o, .int .u8 id, .int .i64 n, rp s] w R Q := by
  refine bin_writer_section.enter _ _ _ _ _ _ _ ?_
  unfold bin_writer_section.V
  have L1 : ∀ w1 go1 lo1, EC wE S0 w1 o s f lo1 ls lf go1 gs gf → lo1 = lo ++ secE id n ls → bin_writer_section.L1 (some ⟨s, 0, none⟩) R Q w1 := by
    intro w1 go1 lo1 c1 hlo
    refine bin_writer_section.step1 _ _ _ _ ?_
    unfold bin_writer_section.V1
    simp only [nilV_some]
    obtain ⟨us, es⟩ := c1.es
    obtain ⟨a, cc, hv, _⟩ := es.slice
    have hcell := es.c
    rw [hv] at hcell
    refine ⟨_, _, _, hcell, by omega, es.cut hv (fun w2 u2 hE2 hS2 => ?_)⟩
    rw [hlo] at c1
    exact hR w2 go1 (c1.stepS ⟨u2, hE2⟩ hS2)
  by_cases hn : 0 < n
  · refine cond_true' (decide_eq_true hn) ?_
    rw [wrap_u64 (x := n) (by omega) (by omega)]
    refine RunsQ.mono (ulen_spec w n hn0 (by omega)) ?_ (fun _ _ h => h.elim)
    rintro v w' ⟨rfl, rfl⟩
    obtain ⟨k0, k1⟩ := ulenF_rng 10 n 1
    refine ⟨_, rfl, ?_⟩
    obtain ⟨uo, eo⟩ := c.eo
    refine put1 eo _ (by omega) (fun w1 g1 u1 hE1 hS1 => ?_)
    have c1 := c.stepO ⟨u1, hE1⟩ hS1
    simp only [nilV_some]
    obtain ⟨us, es⟩ := c1.es
    obtain ⟨a, cc, hv, hsh⟩ := es.slice
    have hcell := es.c
    rw [hv] at hcell
    refine ⟨_, _, _, hcell, ?_⟩
    have e1 : IntKind.wrap .u64 (IntKind.wrap .i64 (ulenF 10 n 1 + ((ls.length : Nat) : Int))) = ulenF 10 n 1 + (ls.length : Int) := by rw [wrap_i64 (by omega) (by omega), wrap_u64 (by omega) (by omega)]
    rw [e1]
    refine (u_spec hE1 _ (by omega) (by omega) (by simp; omega)).into (fun w2 g2 u2 hE2 hS2 => ⟨rfl, ?_⟩)
    have c2 := c1.stepO ⟨u2, hE2⟩ hS2
    have q2 := uleb_len (ulenF 10 n 1 + (ls.length : Int))
    refine (u_spec hE2 _ (by omega) (by omega) (by simp; omega)).into (fun w3 g3 u3 hE3 hS3 => ⟨rfl, ?_⟩)
    have c3 := c2.stepO ⟨u3, hE3⟩ hS3
    have q3 := uleb_len n
    obtain ⟨us3, es3⟩ := c3.es
    obtain ⟨a3, cc3, hv3, hsh3⟩ := es3.slice
    have hcell3 := es3.c
    rw [hv3] at hcell3
    refine ⟨_, _, _, hcell3, ?_⟩
    have hls := hne hn
    rcases hsh3 with ⟨ha, hc0⟩ | ⟨k, ha, _⟩
    · exfalso
      apply hls
      have := es3.o.2
      rcases this with ⟨_, h0⟩ | ⟨k, cap, cur, h1, _⟩
      · exact List.eq_nil_of_length_eq_zero h0
      · rw [hv3, ha] at h1; cases h1
    · subst ha
      have hrd := (own_read es3 hv3).2
      refine (bytes_spec hE3 ⟨k, 0, none⟩ ls.length cc3 ls rfl hrd (by simp; omega)).into (fun w4 g4 u4 hE4 hS4 => ⟨rfl, ?_⟩)
      refine L1 w4 g4 _ (c3.stepO ⟨u4, hE4⟩ hS4) ?_
      unfold secE
      rw [if_pos hn]
      simp only [List.append_assoc]
  · refine cond_false' (decide_eq_false hn) (L1 w go lo c ?_)
    unfold secE
    rw [if_neg hn, List.append_nil]
end

end Go.Proofs.Qxb6500316a
