/-
  The two roads.
-/
import Derived.Test.Qxb6500321aFoE
set_option linter.unusedSimpArgs false
set_option linter.unusedVariables false
set_option maxRecDepth 100000
set_option linter.unusedSectionVars false
set_option maxHeartbeats 2000000
namespace Go.Proofs.Qxb6500321a
open Go Go.Vc

theorem wi_pln {ins : Nat → Ins} {n nt i : Nat} {S : SS} (W : WI ins n nt i S) (hi : i < n) (h14 : (ins i).op ≠ 14) : Pln (ins i) := by
  rcases W with ⟨e, _⟩ | ⟨_, may, u, hw, _⟩
  · omega
  obtain ⟨k, hk⟩ : ∃ k, n - i = k + 1 := ⟨n - i - 1, by omega⟩
  rw [hk, wfGo_succ, if_neg h14] at hw
  exact hw.1
theorem pln_zero {x : Ins} (h : Pln x) (h0 : x.op = 0) : x = ⟨0, 0, 0⟩ := by
  have : x.x = 0 ∧ x.y = 0 := by
    unfold Pln at h
    rcases h with ⟨q, _⟩ | ⟨q, _⟩ | ⟨q, _⟩ | ⟨q, _⟩ | q | ⟨_, q⟩
    · omega
    · omega
    · omega
    · omega
    · have := q.o0; omega
    · exact q
  obtain ⟨op, xx, y⟩ := x
  simp at this h0
  simp [this, h0]
/-- The end of a block lies behind its else. -/
theorem CT2.past {B : BD} {res : Nat} {Sn : SS} (C : CT2 B res Sn) {p e : Nat} {S Se : SS} {f f' : SF} {r r' : List SF} (hp : p < B.n) (hS : trS B res p = some S) (hfs : S.fs = f :: r) (h5 : (B.ins p).op = 5) (he : e < B.n) (h11 : (B.ins e).op = 11) (hSe : trS B res e = some Se) (hd : Se.dead ≤ 1) (hfe : Se.fs = f' :: r') (ho : f'.o = f.o) : p < e := by
  apply Decidable.byContradiction
  intro q
  have hne : e ≠ p := fun z => by rw [z] at h11; omega
  obtain ⟨S1, h1, hst⟩ := C.nx he hSe
  have en1 : S1.en f'.o = some Se.A.length := by
    cases stp_of hst using Stp.cs with
    | skip d h0 hd' =>
      rcases hd' with ⟨c2, _⟩ | ⟨c5, _⟩ | ⟨_, c, _⟩ | ⟨_, _, c, _⟩
      · omega
      · omega
      · omega
      · exact absurd h11 c
    | pln A h' d h0 _ _ c11 _ hA => exact absurd h11 c11
    | opn g A h' h0 ho' hf hl hA => omega
    | trn g s ho' _ _ _ _ => omega
    | sht g s ho' _ hg _ =>
      rw [hfe] at hg
      cases hg
      exact up1_same _ _ _
  have hB := C.m.hB
  have K := (keep_tr hB C.m.hr (p - (e + 1)) (e + 1) S1 S (by omega) h1 (by rw [show e + 1 + (p - (e + 1)) = p by omega]; exact hS)).1 _ _ en1
  obtain ⟨pp, R⟩ := (pi_tr C.g C.m.hr hB p S (by omega) hS).R
  obtain ⟨_, _, _, F, _⟩ := R.top hfs
  have := F.en
  rw [← ho, K] at this
  cases this
section
variable {P : PM} {wd w0 w w' : World} {L mb : Nat} {m : Nat → Value} {rb : Nat} {K : RC} {la : Option Addr} {ll lc : Nat} {D : BD} {res : Nat} {S Sn : SS} {fs : List SF} {pc fc h : Int} {fell : Bool}
theorem RM.allocI (M : RM w0 w rb K fs la ll lc pc fc h fell) {b : Nat} (hb : b = w.heap.size) (hw : w' = w.alloc (.cells #[.int .u8 0, .int .u32 0, .int .u64 0] T_api_Ins)) : RM w0 w' rb K fs la ll lc pc fc h fell ∧ InsAt w' b ⟨0, 0, 0⟩ ∧ Same [] w.heap.size w w' ∧ w.heap.size ≤ b := by
  have S : Same [] w.heap.size w w' := by rw [hw]; exact (Same.refl _ _ _).alloc (Nat.le_refl _) _
  exact ⟨M.keep S, by rw [hw, hb]; exact InsAt.new w _, S, by omega⟩
/-- The road, with copies that stand beside it. -/
structure RY (w0 w : World) (rb : Nat) (K : RC) (fs : List SF) (la : Option Addr) (ll lc : Nat) (pc fc h : Int) (fell : Bool) (xs : List (Nat × Ins)) : Prop where
  m : RM w0 w rb K fs la ll lc pc fc h fell
  x : ∀ b i, (b, i) ∈ xs → InsAt w b i ∧ b ≠ rb ∧ ∀ k, (Value.slice la ll lc).ownBlock = some k → k ≠ b
variable {xs : List (Nat × Ins)}
theorem RY.keep (Y : RY w0 w rb K fs la ll lc pc fc h fell xs) (hs : Same [] w.heap.size w w') : RY w0 w' rb K fs la ll lc pc fc h fell xs :=
  ⟨Y.m.keep hs, fun b i hb => ⟨(Y.x b i hb).1.mv hs (Y.x b i hb).1.ltA (by simp), (Y.x b i hb).2⟩⟩
/-- A block just made. -/
structure BI (w : World) (rb b : Nat) (la : Option Addr) (ll lc : Nat) : Prop where
  i : InsAt w b ⟨0, 0, 0⟩
  n : b ≠ rb
  o : ∀ k, (Value.slice la ll lc).ownBlock = some k → k ≠ b
structure BL3 (w : World) (rb b : Nat) (la : Option Addr) (ll lc : Nat) (xs : List (Nat × Ins)) : Prop where
  i : ∀ j, j < 3 → can w ⟨b, j, none⟩
  n : b ≠ rb
  o : ∀ k, (Value.slice la ll lc).ownBlock = some k → k ≠ b
  x : ∀ b' i, (b', i) ∈ xs → b ≠ b'
theorem RY.al (Y : RY w0 w rb K fs la ll lc pc fc h fell xs) {b : Nat} (hb : b = w.heap.size) (hw : w' = w.alloc (.cells #[.int .u8 0, .int .u32 0, .int .u64 0] T_api_Ins)) : RY w0 w' rb K fs la ll lc pc fc h fell xs ∧ BI w' rb b la ll lc ∧ (∀ b' i, (b', i) ∈ xs → b ≠ b') := by
  have S : Same [] w.heap.size w w' := by rw [hw]; exact (Same.refl _ _ _).alloc (Nat.le_refl _) _
  have lt := Y.m.lt
  exact ⟨Y.keep S, ⟨by rw [hw, hb]; exact InsAt.new w _, by omega, fun k hk => by have := (Y.m.row.lt k hk).2; omega⟩, fun b' i hb' => by have := (Y.x b' i hb').1.ltA; omega⟩
theorem RY.al3 (Y : RY w0 w rb K fs la ll lc pc fc h fell xs) {b : Nat} (hb : b = w.heap.size) (hw : w' = w.alloc (.cells #[.int .i64 0, .int .i64 0, .int .i64 0] T_preplaw_lab)) : RY w0 w' rb K fs la ll lc pc fc h fell xs ∧ BL3 w' rb b la ll lc xs := by
  have S : Same [] w.heap.size w w' := by rw [hw]; exact (Same.refl _ _ _).alloc (Nat.le_refl _) _
  have lt := Y.m.lt
  refine ⟨Y.keep S, ⟨fun j hj => ?_, by omega, fun k hk => by have := (Y.m.row.lt k hk).2; omega, fun b' i hb' => by have := (Y.x b' i hb').1.ltA; omega⟩⟩
  rw [hw, hb]
  refine ⟨?_, by rw [World.frozen?_alloc_new]⟩
  rw [World.cell?_alloc_new]
  have : j = 0 ∨ j = 1 ∨ j = 2 := by omega
  rcases this with rfl | rfl | rfl <;> exact ⟨_, rfl⟩
theorem RY.fill (Y : RY w0 w rb K fs la ll lc pc fc h fell xs) {b : Nat} {vs : List Value} (hF : Fill w w' b 0 vs) (h0 : w0.heap.size ≤ b) (hn : b ≠ rb) (ho : ∀ k, (Value.slice la ll lc).ownBlock = some k → k ≠ b) (hx : ∀ b' i, (b', i) ∈ xs → b ≠ b') : RY w0 w' rb K fs la ll lc pc fc h fell xs := by
  have S : Same [b] w.heap.size w w' := hF.same _
  have M := Y.m
  have lt := M.lt
  have e : ∀ j, w'.cell? ⟨rb, j, none⟩ = w.cell? ⟨rb, j, none⟩ := fun j => S.cell (p := ⟨rb, j, none⟩) lt (by simp; omega)
  exact ⟨⟨same_own M.sm S (by simp; exact h0), M.rl, by rw [e]; exact M.r0, by rw [e]; exact M.r1, by rw [e]; exact M.r2, by rw [e]; exact M.r3, by rw [e]; exact M.r4, by rw [e]; exact M.r5, by rw [e]; exact M.r6, by rw [e]; exact M.r7, fun j => by rw [S.frozen (p := ⟨rb, j, none⟩) lt (by simp; omega)]; exact M.fz j, row_same M.row S (fun k hk => ⟨(M.row.lt k hk).2, by simp; exact ho k hk⟩), M.le, M.ne⟩, fun b' i hb' => ⟨(Y.x b' i hb').1.mv S (Y.x b' i hb').1.ltA (by simp; exact (hx b' i hb').symm), (Y.x b' i hb').2⟩⟩
theorem follow_loop (PBk : PB P) (H0 : HM wd w0 L mb m P) (X : FX P w0 K D res Sn) (or_ : ByteArray) (hor : or_.size ≤ 9223372036854775807) {R : Value → World → Prop} (hR : ∀ w', Same [] w0.heap.size w0 w' → R (.bool true) w') :
    ∀ (N j : Nat) (w : World) (p : Nat) (S : SS) (la : Option Addr) (lc : Nat) (h : Int) (fell : Bool), (or_.size - j) * (D.n + 1) + (D.n - p) ≤ N → j ≤ or_.size → RM w0 w rb K S.fs la S.fs.length lc (p : Int) (S.A.length : Int) h fell → trS D res p = some S → p < D.n → (fell = true → S.dead = 0 ∧ h = (S.h : Int)) → (fell = false → S.dead ≤ 1 ∧ (D.ins p).op = 11) → 0 ≤ h → h ≤ 2000 →
      preplaw_follow.L6 (some ⟨mb, 0, none⟩) or_ (some ⟨rb, 0, none⟩) (j : Int) R (fun _ _ => False) w := by
  have C := X.C
  have hK := X.hK; have n9 := X.n9; have kn := X.kn; have kl := X.kl
  have ltb : K.nb < w0.heap.size := X.hI.ltn C.n1
  have hI' : InsRow w0 K.nb K.n D.ins := by rw [hK]; exact X.hI
  intro N
  induction N with
  | zero =>
    intro j w p S la lc h fell hN hj M hS hp
    omega
  | succ N ih =>
    intro j w p S la lc h fell hN hj M hS hp hfl hnf hh0 hh1
    obtain ⟨f, r, hfs, hh, hA, hl7, hlv, hbd⟩ := X.at_ hp hS
    obtain ⟨S', hS', hst⟩ := C.nx hp hS
    obtain ⟨o0, o1, x0, x1, y0, y1⟩ := X.xs p hp
    have room := C.room hp hS
    have hcl : S.A.length < (outC Sn).length := by unfold outC; simpa using room
    obtain ⟨c, hc⟩ : ∃ c, (outC Sn)[S.A.length]? = some c := ⟨_, List.getElem?_eq_getElem hcl⟩
    have gd : (outC Sn).getD S.A.length z0 = c := by rw [List.getD_eq_getElem?_getD, hc]; rfl
    have lkb : K.kb < w0.heap.size := X.kI.ltn (by omega)
    have g0 : S.fs[0]? = some f := by rw [hfs]; rfl
    obtain ⟨b1, b2, b3⟩ := hbd 0 f g0
    have hll : 1 ≤ S.fs.length := by rw [hfs]; simp
    have lrb := M.lt
    -- again, at a place further on
    have nxt : ∀ (w1 : World) (p1 : Nat) (S1 : SS) (la1 : Option Addr) (lc1 : Nat) (h1 : Int) (fell1 : Bool), p < p1 → p1 < D.n → RM w0 w1 rb K S1.fs la1 S1.fs.length lc1 (p1 : Int) (S1.A.length : Int) h1 fell1 → trS D res p1 = some S1 → (fell1 = true → S1.dead = 0 ∧ h1 = (S1.h : Int)) → (fell1 = false → S1.dead ≤ 1 ∧ (D.ins p1).op = 11) → 0 ≤ h1 → h1 ≤ 2000 → preplaw_follow.L6 (some ⟨mb, 0, none⟩) or_ (some ⟨rb, 0, none⟩) (j : Int) R (fun _ _ => False) w1 := fun w1 p1 S1 la1 lc1 h1 fell1 q1 q2 M1 t1 a1 a2 a3 a4 =>
      ih j w1 p1 S1 la1 lc1 h1 fell1 (by omega) hj M1 t1 q2 a1 a2 a3 a4
    refine preplaw_follow.step6 _ _ _ _ _ _ _ ?_
    unfold preplaw_follow.V6
    have M1 := M.drew
    simp only [true_and, nilV_some, Nat.zero_add]
    refine ⟨_, M1.r4, _, _, _, M1.r0, cond_true' (decide_eq_true (by omega)) ⟨_, M1.r5, _, _, _, M1.r2, cond_true' (decide_eq_true (by omega)) ?_⟩⟩
    -- the round's own copies
    have L12 : ∀ (w5 : World) (xb cb tb : Nat), RM w0 w5 rb K S.fs la S.fs.length lc (p : Int) (S.A.length : Int) h true → InsAt w5 xb (D.ins p) → InsAt w5 cb c → FAt w5 tb ((f.o : Int) - 1) (f.fl : Int) (f.ar : Int) → xb ≠ rb → cb ≠ rb → tb ≠ rb → (∀ k, (Value.slice la S.fs.length lc).ownBlock = some k → k ≠ xb ∧ k ≠ cb ∧ k ≠ tb) → preplaw_follow.L12 (some ⟨mb, 0, none⟩) or_ (some ⟨rb, 0, none⟩) (j : Int) xb cb tb fell R (fun _ _ => False) w5 := fun w5 xb cb tb M5 I5 J5 F5 nxr ncr ntr own => by
      have live : (D.ins p).op ≠ 11 → S.dead = 0 ∧ h = (S.h : Int) ∧ fell = true := fun q => by
        cases fell with
        | true => exact ⟨(hfl rfl).1, (hfl rfl).2, rfl⟩
        | false => exact absurd (hnf rfl).2 q
      refine preplaw_follow.step12 _ _ _ _ _ _ _ _ _ _ _ ?_
      unfold preplaw_follow.V12
      have L19 : ∀ t : Bool, t = decide ((D.ins p).op = 4 ∨ (D.ins p).op = 12 ∨ (D.ins p).op = 13 ∨ (D.ins p).op = 14) → ¬ ((D.ins p).op = 2 ∨ (D.ins p).op = 3) → ¬ (D.ins p).op = 11 → ¬ (D.ins p).op = 5 → ¬ ((D.ins p).op = 15 ∨ (D.ins p).op = 0) → preplaw_follow.L19 (some ⟨mb, 0, none⟩) or_ (some ⟨rb, 0, none⟩) (j : Int) xb cb tb t R (fun _ _ => False) w5 := fun t ht n2 n11 n5 n15 => by
        obtain ⟨h0, eh, _⟩ := live n11
        refine preplaw_follow.step19 _ _ _ _ _ _ _ _ _ _ _ ?_
        unfold preplaw_follow.V19
        refine cond_intro (fun e => ?_) (fun e => ?_)
        · have e := of_decide_eq_true (ht ▸ e)
          refine cond_intro (fun q => hR w5 M5.sm) (fun q => ?_)
          have hjl : j < or_.size := by
            have : ¬ (j : Int) = ((or_.size : Nat) : Int) := by simpa using q
            omega
          have M6 := M5.drew
          have I6 := I5.drew
          have J6 := J5.drew
          simp only [true_and]
          refine ⟨_, _, _, I6.c0, I6.c1, I6.c2, _, _, _, J6.c0, J6.c1, J6.c2, ⟨by omega, by omega⟩, ?_⟩
          rw [eh] at M6
          have bb := byte_rng or_ j
          rw [Int.toNat_natCast]
          refine RunsQ.post (fork_spec X hp hS h0 M6 e hc (byteAt or_ j) bb.1 bb.2) ?_
          rintro v w7 ⟨rfl, p1, S1, la1, lc1, h1, fell1, M7, t1, t2, t3, t4, t5, t6⟩
          refine ⟨_, rfl, ?_⟩
          refine preplaw_follow.step21 _ _ _ _ _ _ _ _ ?_
          unfold preplaw_follow.V21
          refine preplaw_follow.step24 _ _ _ _ _ _ _ _ ?_
          unfold preplaw_follow.V24
          refine cond_false' rfl ?_
          rw [wrap_i64 (by omega) (by omega), show (j : Int) + 1 = ((j + 1 : Nat) : Int) by omega]
          refine ih (j + 1) w7 p1 S1 la1 lc1 h1 fell1 ?_ (by omega) M7 t1 t2 t3 t4 t5 t6
          obtain ⟨a, ha⟩ : ∃ a, or_.size - j = a + 1 := ⟨or_.size - j - 1, by omega⟩
          rw [ha, Nat.succ_mul] at hN
          rw [show or_.size - (j + 1) = a by omega]
          omega
        · have e := of_decide_eq_false (ht ▸ e)
          obtain ⟨ta, ga, p1, p2, p3, p4, p5, p6, p7⟩ := pln_law hfs h0 (by omega) hst
          have hcc := C.cell hp hS hS' p4 (q := 0) rfl
          rw [Nat.add_zero, hc] at hcc
          have hcc : c = D.ins p := Option.some.inj hcc
          have J5' := J5
          rw [hcc] at J5'
          have hef : effP P (D.ins p) = some (ta, ga) := by rw [← X.ef]; exact p1
          have hxin := X.xs p hp
          obtain ⟨s1, s2⟩ := eff_small PBk hxin hef
          refine ⟨_, _, _, J5'.c0, J5'.c1, J5'.c2, _, _, _, I5.c0, I5.c1, I5.c2, _, _, neq_ins _ _ _ (D.ins p) (D.ins p), cond_false' (by simp) ⟨_, _, _, I5.c0, I5.c1, I5.c2, RunsQ.post (deal_spec (H0.keep M5.sm) PBk (D.ins p) hxin hef) ?_⟩⟩
          rintro v w6 ⟨rfl, S6⟩
          have M6 := M5.keep S6
          have F6 := F5.same S6 F5.lt (by simp)
          refine ⟨_, _, rfl, ?_⟩
          refine preplaw_follow.step22 _ _ _ _ _ _ _ _ _ _ ?_
          unfold preplaw_follow.V22
          have M7 := M6.drew
          have F7 := F6.drew
          rw [eh] at M7
          simp only [true_and, nilV_some, Nat.zero_add]
          refine ⟨_, M7.r6, _, F7.c1, ?_⟩
          rw [wrap_i64 (x := (S.h : Int) - (ta : Int)) (by omega) (by omega)]
          refine cond_false' (decide_eq_false (by omega)) ⟨_, M7.r6, ?_⟩
          rw [wrap_i64 (x := (S.h : Int) - (ta : Int)) (by omega) (by omega), wrap_i64 (by omega) (by omega)]
          refine cond_false' (decide_eq_false (by omega)) ?_
          refine preplaw_follow.step25 _ _ _ _ _ _ _ _ _ ?_
          unfold preplaw_follow.V25
          simp only [nilV_some, Nat.zero_add]
          refine ⟨_, M7.r6, M7.can 6 (by omega), letW_intro fun w8 hw8 => ?_⟩
          rw [wrap_i64 (x := (S.h : Int) - (ta : Int)) (by omega) (by omega), wrap_i64 (by omega) (by omega), show (S.h : Int) - (ta : Int) + (ga : Int) = ((S'.h : Nat) : Int) by omega] at hw8
          obtain ⟨M8, _⟩ := M7.set6 _ hw8
          refine preplaw_follow.step26 _ _ _ _ _ _ _ ?_
          unfold preplaw_follow.V26
          simp only [nilV_some, Nat.zero_add]
          refine ⟨_, M8.r4, M8.can 4 (by omega), letW_intro fun w9 hw9 => ?_⟩
          rw [wrap_i64 (by omega) (by omega), show (p : Int) + 1 = ((p + 1 : Nat) : Int) by omega] at hw9
          obtain ⟨M9, _⟩ := M8.set4 _ hw9
          refine ⟨_, M9.r5, M9.can 5 (by omega), letW_intro fun w10 hw10 => ?_⟩
          have ea : S'.A.length = S.A.length + 1 := by rw [p4]; simp
          rw [wrap_i64 (by omega) (by omega), show (S.A.length : Int) + 1 = ((S'.A.length : Nat) : Int) by omega] at hw10
          obtain ⟨M10, _⟩ := M9.set5 _ hw10
          have hlt : p + 1 < D.n := C.lt (by omega) hS' (by rw [p5, hfs]; simp)
          refine nxt w10 (p + 1) S' la lc _ true (by omega) hlt ?_ hS' (fun _ => ⟨p7 (by omega), rfl⟩) (fun z => by cases z) (by omega) (by omega)
          rw [p5]
          exact M10
      have L16 : ∀ t : Bool, t = decide ((D.ins p).op = 15 ∨ (D.ins p).op = 0) → ¬ ((D.ins p).op = 2 ∨ (D.ins p).op = 3) → ¬ (D.ins p).op = 11 → ¬ (D.ins p).op = 5 → preplaw_follow.L16 (some ⟨mb, 0, none⟩) or_ (some ⟨rb, 0, none⟩) (j : Int) xb cb tb (D.ins p).op t R (fun _ _ => False) w5 := fun t ht n2 n11 n5 => by
        obtain ⟨h0, eh, _⟩ := live n11
        refine preplaw_follow.step16 _ _ _ _ _ _ _ _ _ _ _ _ ?_
        unfold preplaw_follow.V16
        refine cond_intro (fun e => ?_) (fun e => ?_)
        · have e := of_decide_eq_true (ht ▸ e)
          have hcc : c = ⟨(D.ins p).op, 0, 0⟩ := by
            rcases e with e | e
            · have p4 := ret_law h0 e hst
              have hcc := C.cell hp hS hS' p4 (q := 0) rfl
              rw [Nat.add_zero, hc] at hcc
              rw [Option.some.inj hcc, e]
              rfl
            · obtain ⟨ta, ga, _, _, _, p4, _⟩ := pln_law hfs h0 (by omega) hst
              have hcc := C.cell hp hS hS' p4 (q := 0) rfl
              rw [Nat.add_zero, hc] at hcc
              have pz := pln_zero (wi_pln (pi_tr C.g C.m.hr C.m.hB p S (by omega) hS).W hp (by omega)) e
              rw [Option.some.inj hcc]
              rw [pz]
              rfl
          have J5' := J5
          rw [hcc] at J5'
          refine ⟨_, _, _, J5'.c0, J5'.c1, J5'.c2, _, I5.c0, _, _, eql_ins _ _ _ ⟨(D.ins p).op, 0, 0⟩ ⟨(D.ins p).op, 0, 0⟩, ?_⟩
          have := hR w5 M5.sm
          simpa using this
        have n15 := of_decide_eq_false (ht ▸ e)
        refine cond_intro (fun e => L19 true ?_ n2 n11 n5 n15) (fun q4 => cond_intro (fun e => L19 true ?_ n2 n11 n5 n15) (fun q12 => cond_intro (fun e => L19 true ?_ n2 n11 n5 n15) (fun q13 => L19 _ ?_ n2 n11 n5 n15)))
        · have := eq_of_beq e; rw [decide_eq_true (by omega)]
        · have := eq_of_beq e; rw [decide_eq_true (by omega)]
        · have := eq_of_beq e; rw [decide_eq_true (by omega)]
        · have q4 : ¬ (D.ins p).op = 4 := by simpa using q4
          have q12 : ¬ (D.ins p).op = 12 := by simpa using q12
          have q13 : ¬ (D.ins p).op = 13 := by simpa using q13
          by_cases q : (D.ins p).op = 14
          · rw [decide_eq_true (by omega), q]; rfl
          · rw [decide_eq_false (by omega)]; simpa using q
      -- an end
      have L14 : ∀ w6, (D.ins p).op = 11 → RM w0 w6 rb K S.fs la S.fs.length lc (p : Int) (S.A.length : Int) h true → FAt w6 tb ((f.o : Int) - 1) (f.fl : Int) (f.ar : Int) → InsAt w6 cb c → preplaw_follow.L14 (some ⟨mb, 0, none⟩) or_ (some ⟨rb, 0, none⟩) (j : Int) cb tb R (fun _ _ => False) w6 := fun w6 e11 M6 F6 J6 => by
        have hd1 : S.dead ≤ 1 := by
          cases fell with
          | true => have := (hfl rfl).1; omega
          | false => exact (hnf rfl).1
        obtain ⟨q1, q2, q3, q4, q5, q6⟩ := end_law hfs hd1 e11 hst
        refine preplaw_follow.step14 _ _ _ _ _ _ _ _ _ ?_
        unfold preplaw_follow.V14
        simp only [nilV_some, Nat.zero_add]
        refine ⟨_, F6.c1, _, F6.c2, M6.can 6 (by omega), letW_intro fun w7 hw7 => ?_⟩
        rw [wrap_i64 (by omega) (by omega), show (f.fl : Int) + (f.ar : Int) = ((S'.h : Nat) : Int) by omega] at hw7
        obtain ⟨M7, S7⟩ := M6.set6 _ hw7
        have J7 := J6.mv S7 J6.ltA (by simp; omega)
        refine preplaw_follow.step17 _ _ _ _ _ _ _ _ ?_
        unfold preplaw_follow.V17
        simp only [true_and, nilV_some, Nat.zero_add]
        have M8 := M7.drew
        have J8 := J7.drew
        obtain ⟨gb, ela, llc, _, _, _⟩ := lab_cell M8 g0
        subst ela
        refine ⟨_, M7.r6, cond_false' (decide_eq_false (by omega)) ⟨_, _, _, M8.r3, _, _, _, M8.r3, ?_⟩⟩
        have ew : IntKind.wrap .i64 (((S.fs.length : Nat) : Int) - 1) = ((r.length : Nat) : Int) := by
          rw [wrap_i64 (by omega) (by omega), hfs]; simp
        have hrl : S.fs.length = r.length + 1 := by rw [hfs]; rfl
        rw [ew]
        refine ⟨⟨by omega, by omega, by omega, by omega⟩, M8.can 3 (by omega), letW_intro fun w9 hw9 => ?_⟩
        rw [slAddr_lt (by omega), Int.toNat_natCast, Nat.sub_zero, Nat.sub_zero, Nat.zero_mul, Nat.zero_add] at hw9
        have hrow : w7.drew.ownsRow w0.heap.size T_preplaw_lab 3 (.slice (some ⟨gb, 0, none⟩) r.length lc) r.length (frVs r) := by
          have := row_cut 1 S.fs (by omega) M8.row
          rw [hfs] at this
          simpa using this
        obtain ⟨M9, S9⟩ := M8.setL (fs' := r) hrow rfl (fun k hk => M8.ne k hk) hw9
        have J9 := J8.mv S9 J8.ltA (by simp; omega)
        refine preplaw_follow.step20 _ _ _ _ _ _ _ _ ?_
        unfold preplaw_follow.V20
        simp only [nilV_some, Nat.zero_add]
        refine ⟨_, M9.r4, M9.can 4 (by omega), letW_intro fun w10 hw10 => ?_⟩
        rw [wrap_i64 (by omega) (by omega), show (p : Int) + 1 = ((p + 1 : Nat) : Int) by omega] at hw10
        obtain ⟨M10, S10⟩ := M9.set4 _ hw10
        have J10 := J9.mv S10 J9.ltA (by simp; omega)
        refine preplaw_follow.step23 _ _ _ _ _ _ _ _ ?_
        unfold preplaw_follow.V23
        simp only [true_and, nilV_some, Nat.zero_add]
        refine ⟨_, _, _, M10.r3, cond_intro (fun e => ?_) (fun e => ?_)⟩
        · have e : r.length = 0 := by have := eq_of_beq e; omega
          rw [if_pos e] at q6
          have hcc := C.cell hp hS hS' q6 (q := 0) rfl
          rw [Nat.add_zero, hc] at hcc
          have hcc : c = ⟨11, 0, 0⟩ := Option.some.inj hcc
          have J11 := J10.drew
          have M11 := M10.drew
          rw [hcc] at J11
          have hend : p + 1 = D.n := by
            apply Decidable.byContradiction
            intro z
            exact C.ne (show p + 1 < D.n by omega) hS' (by rw [q3]; exact List.length_eq_zero_iff.1 e)
          have hlen : (outC Sn).length = S.A.length + 1 := by
            rw [hend, C.m.hn] at hS'
            cases hS'
            unfold outC
            rw [q6]
            simp
          refine ⟨_, _, _, J11.c0, J11.c1, J11.c2, _, _, eql_ins _ _ _ ⟨11, 0, 0⟩ ⟨11, 0, 0⟩, by trivial, cond_true' rfl ⟨_, M11.r5, _, _, _, M11.r2, ?_⟩⟩
          rw [wrap_i64 (by omega) (by omega), show ((K.kn : Nat) : Int) - 1 = (S.A.length : Int) by omega]
          have := hR _ M11.sm
          simpa using this
        · have e : ¬ r.length = 0 := by rintro q; rw [q] at e; cases e
          rw [if_neg e] at q6
          have hlt : p + 1 < D.n := C.lt (by omega) hS' (by rw [q3]; intro z; rw [z] at e; simp at e)
          refine nxt w10 (p + 1) S' (some ⟨gb, 0, none⟩) lc _ true (by omega) hlt ?_ hS' (fun _ => ⟨q5, rfl⟩) (fun z => by cases z) (by omega) (by omega)
          rw [q3, q6]
          exact M10
      have L13 : ∀ t : Bool, t = decide ((D.ins p).op = 2 ∨ (D.ins p).op = 3) → preplaw_follow.L13 (some ⟨mb, 0, none⟩) or_ (some ⟨rb, 0, none⟩) (j : Int) xb cb tb fell (D.ins p).op t R (fun _ _ => False) w5 := fun t ht => by
        refine preplaw_follow.step13 _ _ _ _ _ _ _ _ _ _ _ _ _ ?_
        unfold preplaw_follow.V13
        refine cond_intro (fun e => ?_) (fun e => ?_)
        · have e := of_decide_eq_true (ht ▸ e)
          obtain ⟨h0, eh, _⟩ := live (by omega)
          obtain ⟨g, a1, a2, a3, a4, a5, a6, a7, a8, _, _⟩ := open_law hfs h0 (by omega) hst
          obtain ⟨c1, c2⟩ := a8 (by omega)
          refine RunsQ.post (rpush_spec M5 hI' (p := p) (hn := S'.h) (by omega) rfl (by rw [eh, c1]) (by omega) g a2 a4 a5) ?_
          rintro v w6 ⟨rfl, ⟨la6, lc6, M6⟩, _⟩
          simp only [nilV_some, Nat.zero_add]
          refine ⟨by trivial, _, M6.r4, M6.can 4 (by omega), letW_intro fun w7 hw7 => ?_⟩
          rw [wrap_i64 (by omega) (by omega), show (p : Int) + 1 = ((p + 1 : Nat) : Int) by omega] at hw7
          obtain ⟨M7, _⟩ := M6.set4 _ hw7
          have hlt : p + 1 < D.n := C.lt (by omega) hS' (by rw [a1]; simp)
          refine nxt w7 (p + 1) S' la6 lc6 h true (by omega) hlt ?_ hS' (fun _ => ⟨a7, by rw [eh, c1]⟩) (fun z => by cases z) (by omega) (by omega)
          rw [a1, c2]
          exact M7
        have n2 := of_decide_eq_false (ht ▸ e)
        refine cond_intro (fun e11 => ?_) (fun e11 => ?_)
        · have e11 : (D.ins p).op = 11 := eq_of_beq e11
          have M6 := M5.drew
          have F6 := F5.drew
          have J6 := J5.drew
          simp only [true_and, nilV_some, Nat.zero_add]
          refine cond_intro (fun ef => ⟨_, M6.r6, _, F6.c1, _, F6.c2, ?_⟩) (fun ef => L14 _ e11 M6 F6 J6)
          obtain ⟨d0, eh⟩ := hfl ef
          have q1 := (end_law hfs (by omega) e11 hst).1 d0
          rw [wrap_i64 (by omega) (by omega)]
          refine cond_false' ?_ (L14 _ e11 M6 F6 J6)
          rw [eh, q1]
          simp
        have n11 : ¬ (D.ins p).op = 11 := by simpa using e11
        refine cond_intro (fun e5 => ?_) (fun e5 => ?_)
        · have e5 : (D.ins p).op = 5 := eq_of_beq e5
          obtain ⟨h0, eh, _⟩ := live n11
          obtain ⟨u1, u2⟩ := else_law hfs h0 e5 hst
          have hcc := C.cell hp hS hS' u2 (q := 0) rfl
          rw [Nat.add_zero, hc] at hcc
          have hcc := Option.some.inj hcc
          have c0 : c.op = 224 := by rw [hcc]; rfl
          have cx : c.x = syX Sn (.e f.o) := by rw [hcc]; rfl
          obtain ⟨s0, s1⟩ := X.sy (.e f.o) (fun v hv => by cases hv)
          have FL := frl_tr p S hS 0 f g0
          rw [show S.fs.drop (0 + 1) = r by rw [hfs]; rfl] at FL
          obtain ⟨en, Se, a1, a2, a3, a4, a5, a6, a7, a8⟩ := C.far FL (by omega)
          obtain ⟨fe, re, hfe⟩ : ∃ fe re, Se.fs = fe :: re := by
            cases hz : Se.fs with
            | nil => rw [hz] at a7; simp at a7
            | cons fe re => exact ⟨fe, re, rfl⟩
          have M6 := M5.drew
          have F6 := F5.drew
          have J6 := J5.drew
          simp only [true_and, nilV_some, Nat.zero_add]
          refine ⟨_, J6.c0, cond_false' (by rw [c0]; rfl) ⟨_, M6.r6, _, F6.c1, _, F6.c2, ?_⟩⟩
          rw [wrap_i64 (by omega) (by omega)]
          refine cond_false' (by rw [eh, u1]; simp) ?_
          refine preplaw_follow.step15 _ _ _ _ _ _ _ _ _ ?_
          unfold preplaw_follow.V15
          have M7 := M6.drew
          have F7 := F6.drew
          have J7 := J6.drew
          have I7 := hI'.mv M7.sm ltb (by simp)
          simp only [nilV_some, Nat.zero_add]
          have ple := FL.le
          have run : RunsQ Try.prog preplaw_match.id #[(.slice (some ⟨K.nb, 0, none⟩) K.n K.bc), (.int .i64 ((f.o : Int) - 1))] w5.drew.drew (fun r20 w21 => (∃ x22 : Int, ∃ x23 : Int, (r20 = (.tuple #[(.int .i64 x22), (.int .i64 x23)]) ∧ ((can w21 ⟨rb, 4, none⟩ ∧ letW (World.setCell w21 ⟨rb, 4, none⟩ (.int .i64 x22)) fun w25 => (preplaw_follow.L18 (some ⟨mb, 0, none⟩) or_ (some ⟨rb, 0, none⟩) (j : Int) cb R (fun _ _ => False) w25)) ∧ True)))) (fun _ _ => False) := by
            refine RunsQ.post (pmatch_spec I7 (by omega) K.bc f.o (by omega)) ?_
            rintro v w8 ⟨rfl, rfl⟩
            rw [hK, a1]
            refine ⟨_, _, rfl, ⟨M7.can 4 (by omega), letW_intro fun w9 hw9 => ?_⟩, trivial⟩
            obtain ⟨M9, S9⟩ := M7.set4 _ hw9
            have J9 := J7.mv S9 J7.ltA (by simp; omega)
            refine preplaw_follow.step18 _ _ _ _ _ _ _ _ ?_
            unfold preplaw_follow.V18
            simp only [nilV_some, Nat.zero_add]
            refine ⟨_, J9.c1, M9.can 5 (by omega), letW_intro fun w10 hw10 => ?_⟩
            rw [wrap_i64 (by omega) (by omega), cx, a8] at hw10
            obtain ⟨M10, _⟩ := M9.set5 _ hw10
            refine ⟨M10.can 7 (by omega), letW_intro fun w11 hw11 => ?_⟩
            obtain ⟨M11, _⟩ := M10.set7 _ hw11
            have M12 := M11.congr (fs' := Se.fs) (by rw [a6, hfs]) (by rw [a7, hfs]; rfl)
            rw [show S.fs.length = Se.fs.length by rw [a7, hfs]; rfl] at M12
            have fo : fe.o = f.o := by
              have q := a6
              rw [hfe] at q
              have q1 : frVs re ++ frV fe = frVs r ++ frV f := q
              have q2 := List.append_inj_right' q1 rfl
              unfold frV at q2
              simp at q2
              omega
            have hpe := C.past hp hS hfs e5 a2 a3 a4 a5 hfe fo
            exact nxt w11 en Se la lc h false hpe a2 M12 a4 (fun z => by cases z) (fun _ => ⟨a5, a3⟩) (by omega) (by omega)
          have k0 := M7.r0
          have k1 := F7.c0
          repeat' first
            | exact trivial
            | exact run
            | refine ⟨_, _, _, k0, ?_⟩
            | refine ⟨_, k1, ?_⟩
            | refine And.intro ?_ ?_
        have n5 : ¬ (D.ins p).op = 5 := by simpa using e5
        refine cond_intro (fun e => L16 true ?_ n2 n11 n5) (fun q15 => L16 _ ?_ n2 n11 n5)
        · have := eq_of_beq e; rw [decide_eq_true (by omega)]
        · have q15 : ¬ (D.ins p).op = 15 := by simpa using q15
          by_cases q : (D.ins p).op = 0
          · rw [decide_eq_true (by omega), q]; rfl
          · rw [decide_eq_false (by omega)]; simpa using q
      refine ⟨_, I5.c0, cond_intro (fun e => L13 true ?_) (fun e => L13 _ ?_)⟩
      · have := eq_of_beq e; rw [decide_eq_true (by omega)]
      · have e : ¬ (D.ins p).op = 2 := by simpa using e
        by_cases q : (D.ins p).op = 3
        · rw [decide_eq_true (by omega), q]; rfl
        · rw [decide_eq_false (by omega)]; simpa using q
    clear ih nxt
    have ew : IntKind.wrap .i64 (((S.fs.length : Nat) : Int) - 1) = ((S.fs.length - 1 : Nat) : Int) := by rw [wrap_i64 (by omega) (by omega)]; omega
    have gel : w0.heap.size ≤ w.heap.size := M.sm.size
    have L9 : ∀ (w4 : World) (xb cb : Nat), RY w0 w4 rb K S.fs la S.fs.length lc (p : Int) (S.A.length : Int) h fell [(cb, c), (xb, D.ins p)] → w0.heap.size ≤ w4.heap.size → preplaw_follow.L9 (some ⟨mb, 0, none⟩) or_ (some ⟨rb, 0, none⟩) (j : Int) xb cb R (fun _ _ => False) w4 := fun w4 xb cb Y4 gs => by
      refine preplaw_follow.step9 _ _ _ _ _ _ _ _ _ ?_
      unfold preplaw_follow.V9
      have Y5 := Y4.keep (Same.refl [] w4.heap.size w4).drew
      obtain ⟨gb, ela, llc, _, _, _⟩ := lab_cell Y5.m g0
      have fin : ∀ W tb, RY w0 W rb K S.fs la S.fs.length lc (p : Int) (S.A.length : Int) h fell [(cb, c), (xb, D.ins p)] → BL3 W rb tb la S.fs.length lc [(cb, c), (xb, D.ins p)] ∧ w0.heap.size ≤ tb → putCells W ⟨tb, 0, none⟩ [(.int .i64 ((f.o : Int) - 1)), (.int .i64 (f.fl : Int)), (.int .i64 (f.ar : Int))] fun w88 => (preplaw_follow.L10 (some ⟨mb, 0, none⟩) or_ (some ⟨rb, 0, none⟩) (j : Int) xb cb tb R (fun _ _ => False) w88) := fun W tb YW bl => by
        obtain ⟨bl, lo⟩ := bl
        refine putCells_intro tb _ 0 W _ (fun z hz => by rw [Nat.zero_add]; exact bl.i z (by simpa using hz)) (fun w6 hF => ?_)
        have Y6 := YW.fill hF lo bl.n bl.o bl.x
        have F6 : FAt w6 tb ((f.o : Int) - 1) (f.fl : Int) (f.ar : Int) := ⟨by rw [hF.cell, if_pos (by simp)]; rfl, by rw [hF.cell, if_pos (by simp)]; rfl, by rw [hF.cell, if_pos (by simp)]; rfl⟩
        refine preplaw_follow.step10 _ _ _ _ _ _ _ _ _ _ ?_
        unfold preplaw_follow.V10
        simp only [nilV_some, Nat.zero_add]
        refine ⟨_, Y6.m.r7, ?_⟩
        refine preplaw_follow.step11 _ _ _ _ _ _ _ _ _ _ _ ?_
        unfold preplaw_follow.V11
        simp only [nilV_some, Nat.zero_add]
        refine ⟨Y6.m.can 7 (by omega), letW_intro fun w7 hw7 => ?_⟩
        obtain ⟨M7, S7⟩ := Y6.m.set7 _ hw7
        obtain ⟨jc, jn, jo⟩ := Y6.x cb c (by simp)
        obtain ⟨ic, in_, io⟩ := Y6.x xb (D.ins p) (by simp)
        exact L12 w7 xb cb tb M7 (ic.mv S7 ic.ltA (by simp; omega)) (jc.mv S7 jc.ltA (by simp; omega)) (F6.same S7 F6.lt (by simp; exact bl.n)) in_ jn bl.n (fun k hk => ⟨io k hk, jo k hk, bl.o k hk⟩)
      have k3 : ∀ {W : World}, RY w0 W rb K S.fs la S.fs.length lc (p : Int) (S.A.length : Int) h fell [(cb, c), (xb, D.ins p)] → W.cell? ⟨rb, 3, none⟩ = some (.slice (some ⟨gb, 0, none⟩) S.fs.length lc) := fun Y => by rw [← ela]; exact Y.m.r3
      have kc : ∀ {W : World}, RY w0 W rb K S.fs la S.fs.length lc (p : Int) (S.A.length : Int) h fell [(cb, c), (xb, D.ins p)] → W.cell? ⟨gb, (S.fs.length - 1) * 3, none⟩ = some (.int .i64 ((f.o : Int) - 1)) ∧ W.cell? ⟨gb, (S.fs.length - 1) * 3 + 1, none⟩ = some (.int .i64 (f.fl : Int)) ∧ W.cell? ⟨gb, (S.fs.length - 1) * 3 + 2, none⟩ = some (.int .i64 (f.ar : Int)) := fun Y => by
        obtain ⟨gb', e', _, q0, q1, q2⟩ := lab_cell Y.m g0
        rw [ela] at e'
        cases e'
        simp only [Nat.sub_zero] at q0 q1 q2
        exact ⟨q0, q1, q2⟩
      have al : ∀ {W W' : World} {b : Nat}, RY w0 W rb K S.fs la S.fs.length lc (p : Int) (S.A.length : Int) h fell [(cb, c), (xb, D.ins p)] → b = W.heap.size → W' = W.alloc (.cells #[.int .i64 0, .int .i64 0, .int .i64 0] T_preplaw_lab) → RY w0 W' rb K S.fs la S.fs.length lc (p : Int) (S.A.length : Int) h fell [(cb, c), (xb, D.ins p)] ∧ (BL3 W' rb b la S.fs.length lc [(cb, c), (xb, D.ins p)] ∧ w0.heap.size ≤ b) := fun Y hb hw => by
        obtain ⟨a1, a2⟩ := Y.al3 hb hw
        exact ⟨a1, a2, by have := Y.m.sm.size; omega⟩
      have hi0 : (0 : Int) ≤ ((S.fs.length - 1 : Nat) : Int) := by omega
      have hi1 : ((S.fs.length - 1 : Nat) : Int) < ((S.fs.length : Nat) : Int) := by omega
      simp only [nilV_some, Nat.zero_add]
      clear Y4
      repeat' first
        | exact trivial
        | exact fin _ _ (by assumption) (by assumption)
        | refine ⟨_, _, _, k3 (by assumption), ?_⟩
        | (rw [ew]; refine ⟨⟨hi0, hi1⟩, nilV_inA ?_⟩)
        | refine ⟨⟨hi0, hi1⟩, nilV_inA ?_⟩
        | (simp only [add_mk, Nat.zero_add, Int.toNat_natCast]; refine ⟨_, _, _, (kc (by assumption)).1, (kc (by assumption)).2.1, (kc (by assumption)).2.2, ?_⟩)
        | (refine letB_intro fun b9 hb9 => letW_intro fun w9 hw9 => ?_
           obtain ⟨y9, bl9⟩ := al (by assumption) hb9 hw9
           clear hb9 hw9)
        | refine And.intro ?_ ?_
    have L8 : ∀ (w4 : World) (xb : Nat), RY w0 w4 rb K S.fs la S.fs.length lc (p : Int) (S.A.length : Int) h fell [(xb, D.ins p)] → preplaw_follow.L8 (some ⟨mb, 0, none⟩) or_ (some ⟨rb, 0, none⟩) (j : Int) xb R (fun _ _ => False) w4 := fun w4 xb Y4 => by
      refine preplaw_follow.step8 _ _ _ _ _ _ _ _ ?_
      unfold preplaw_follow.V8
      have Y5 := Y4.keep (Same.refl [] w4.heap.size w4).drew
      have fin : ∀ W b, RY w0 W rb K S.fs la S.fs.length lc (p : Int) (S.A.length : Int) h fell [(xb, D.ins p)] → (BI W rb b la S.fs.length lc ∧ (∀ b' i, (b', i) ∈ [(xb, D.ins p)] → b ≠ b') ∧ w0.heap.size ≤ b) → putCells W ⟨b, 0, none⟩ [(.int .u8 c.op), (.int .u32 c.x), (.int .u64 c.y)] fun w88 => (preplaw_follow.L9 (some ⟨mb, 0, none⟩) or_ (some ⟨rb, 0, none⟩) (j : Int) xb b R (fun _ _ => False) w88) := fun W b YW bl => by
        obtain ⟨bl, bx, lo⟩ := bl
        refine putCells_intro b _ 0 W _ (fun z hz => by rw [Nat.zero_add]; exact bl.i.can z (by simpa using hz)) (fun w6 hF => ?_)
        have Y6 := YW.fill hF lo bl.n bl.o bx
        refine L9 w6 xb b ⟨Y6.m, fun b' i' hb' => ?_⟩ Y6.m.sm.size
        rcases List.mem_cons.1 hb' with q | q
        · cases q
          exact ⟨⟨by rw [hF.cell, if_pos (by simp)]; rfl, by rw [hF.cell, if_pos (by simp)]; rfl, by rw [hF.cell, if_pos (by simp)]; rfl, fun z => by rw [hF.frozen]; exact bl.i.f z⟩, bl.n, bl.o⟩
        · exact Y6.x b' i' q
      have k2 : ∀ {W : World}, RY w0 W rb K S.fs la S.fs.length lc (p : Int) (S.A.length : Int) h fell [(xb, D.ins p)] → W.cell? ⟨rb, 2, none⟩ = some (.slice (some ⟨K.kb, 0, none⟩) K.kn K.kc) := fun Y => Y.m.r2
      have k5 : ∀ {W : World}, RY w0 W rb K S.fs la S.fs.length lc (p : Int) (S.A.length : Int) h fell [(xb, D.ins p)] → W.cell? ⟨rb, 5, none⟩ = some (.int .i64 (S.A.length : Int)) := fun Y => Y.m.r5
      have kc : ∀ {W : World}, RY w0 W rb K S.fs la S.fs.length lc (p : Int) (S.A.length : Int) h fell [(xb, D.ins p)] → W.cell? ⟨K.kb, S.A.length * 3, none⟩ = some (.int .u8 c.op) ∧ W.cell? ⟨K.kb, S.A.length * 3 + 1, none⟩ = some (.int .u32 c.x) ∧ W.cell? ⟨K.kb, S.A.length * 3 + 2, none⟩ = some (.int .u64 c.y) := fun Y => by
        have I := X.kI.mv Y.m.sm lkb (by simp)
        have a0 := I.i0 _ hcl
        have a1 := I.i1 _ hcl
        have a2 := I.i2 _ hcl
        rw [gd] at a0 a1 a2
        exact ⟨a0, a1, a2⟩
      have al : ∀ {W W' : World} {b : Nat}, RY w0 W rb K S.fs la S.fs.length lc (p : Int) (S.A.length : Int) h fell [(xb, D.ins p)] → b = W.heap.size → W' = W.alloc (.cells #[.int .u8 0, .int .u32 0, .int .u64 0] T_api_Ins) → RY w0 W' rb K S.fs la S.fs.length lc (p : Int) (S.A.length : Int) h fell [(xb, D.ins p)] ∧ (BI W' rb b la S.fs.length lc ∧ (∀ b' i, (b', i) ∈ [(xb, D.ins p)] → b ≠ b') ∧ w0.heap.size ≤ b) := fun Y hb hw => by
        obtain ⟨a1, a2, a3⟩ := Y.al hb hw
        exact ⟨a1, a2, a3, by have := Y.m.sm.size; omega⟩
      have hi0 : (0 : Int) ≤ (S.A.length : Int) := by omega
      have hi1 : (S.A.length : Int) < ((K.kn : Nat) : Int) := by omega
      simp only [nilV_some, Nat.zero_add]
      clear Y4
      repeat' first
        | exact trivial
        | exact fin _ _ (by assumption) (by assumption)
        | refine ⟨_, _, _, k2 (by assumption), ?_⟩
        | refine ⟨_, k5 (by assumption), ?_⟩
        | refine ⟨⟨hi0, hi1⟩, nilV_inA ?_⟩
        | (simp only [add_mk, Nat.zero_add, Int.toNat_natCast]; refine ⟨_, _, _, (kc (by assumption)).1, (kc (by assumption)).2.1, (kc (by assumption)).2.2, ?_⟩)
        | (refine letB_intro fun b9 hb9 => letW_intro fun w9 hw9 => ?_
           obtain ⟨y9, bl9⟩ := al (by assumption) hb9 hw9
           clear hb9 hw9)
        | refine And.intro ?_ ?_
    refine preplaw_follow.step7 _ _ _ _ _ _ _ ?_
    unfold preplaw_follow.V7
    have Y5 : RY w0 w.drew.drew rb K S.fs la S.fs.length lc (p : Int) (S.A.length : Int) h fell [] := ⟨M1.drew, fun b i hb => by cases hb⟩
    have fin : ∀ W b, RY w0 W rb K S.fs la S.fs.length lc (p : Int) (S.A.length : Int) h fell [] → (BI W rb b la S.fs.length lc ∧ w0.heap.size ≤ b) → putCells W ⟨b, 0, none⟩ [(.int .u8 (D.ins p).op), (.int .u32 (D.ins p).x), (.int .u64 (D.ins p).y)] fun w88 => (preplaw_follow.L8 (some ⟨mb, 0, none⟩) or_ (some ⟨rb, 0, none⟩) (j : Int) b R (fun _ _ => False) w88) := fun W b YW bl => by
      obtain ⟨bl, lo⟩ := bl
      refine putCells_intro b _ 0 W _ (fun z hz => by rw [Nat.zero_add]; exact bl.i.can z (by simpa using hz)) (fun w6 hF => ?_)
      have Y6 := YW.fill hF lo bl.n bl.o (fun b' i hb' => by cases hb')
      refine L8 w6 b ⟨Y6.m, fun b' i' hb' => ?_⟩
      rcases List.mem_cons.1 hb' with q | q
      · cases q
        exact ⟨⟨by rw [hF.cell, if_pos (by simp)]; rfl, by rw [hF.cell, if_pos (by simp)]; rfl, by rw [hF.cell, if_pos (by simp)]; rfl, fun z => by rw [hF.frozen]; exact bl.i.f z⟩, bl.n, bl.o⟩
      · cases q
    have k0 : ∀ {W : World}, RY w0 W rb K S.fs la S.fs.length lc (p : Int) (S.A.length : Int) h fell [] → W.cell? ⟨rb, 0, none⟩ = some (.slice (some ⟨K.nb, 0, none⟩) K.n K.bc) := fun Y => Y.m.r0
    have k4 : ∀ {W : World}, RY w0 W rb K S.fs la S.fs.length lc (p : Int) (S.A.length : Int) h fell [] → W.cell? ⟨rb, 4, none⟩ = some (.int .i64 (p : Int)) := fun Y => Y.m.r4
    have kc : ∀ {W : World}, RY w0 W rb K S.fs la S.fs.length lc (p : Int) (S.A.length : Int) h fell [] → W.cell? ⟨K.nb, p * 3, none⟩ = some (.int .u8 (D.ins p).op) ∧ W.cell? ⟨K.nb, p * 3 + 1, none⟩ = some (.int .u32 (D.ins p).x) ∧ W.cell? ⟨K.nb, p * 3 + 2, none⟩ = some (.int .u64 (D.ins p).y) := fun Y => by
      have I := X.hI.mv Y.m.sm ltb (by simp)
      exact ⟨I.i0 p hp, I.i1 p hp, I.i2 p hp⟩
    have al : ∀ {W W' : World} {b : Nat}, RY w0 W rb K S.fs la S.fs.length lc (p : Int) (S.A.length : Int) h fell [] → b = W.heap.size → W' = W.alloc (.cells #[.int .u8 0, .int .u32 0, .int .u64 0] T_api_Ins) → RY w0 W' rb K S.fs la S.fs.length lc (p : Int) (S.A.length : Int) h fell [] ∧ (BI W' rb b la S.fs.length lc ∧ w0.heap.size ≤ b) := fun Y hb hw => by
      obtain ⟨a1, a2, a3⟩ := Y.al hb hw
      exact ⟨a1, a2, by have := Y.m.sm.size; omega⟩
    have hi0 : (0 : Int) ≤ (p : Int) := by omega
    have hi1 : (p : Int) < ((K.n : Nat) : Int) := by omega
    simp only [nilV_some, Nat.zero_add]
    clear M1 M
    repeat' first
      | exact trivial
      | exact fin _ _ (by assumption) (by assumption)
      | refine ⟨_, _, _, k0 (by assumption), ?_⟩
      | refine ⟨_, k4 (by assumption), ?_⟩
      | refine ⟨⟨hi0, hi1⟩, nilV_inA ?_⟩
      | (simp only [add_mk, Nat.zero_add, Int.toNat_natCast]; refine ⟨_, _, _, (kc (by assumption)).1, (kc (by assumption)).2.1, (kc (by assumption)).2.2, ?_⟩)
      | (refine letB_intro fun b9 hb9 => letW_intro fun w9 hw9 => ?_
         obtain ⟨y9, bl9⟩ := al (by assumption) hb9 hw9
         clear hb9 hw9)
      | refine And.intro ?_ ?_
end
end Go.Proofs.Qxb6500321a
