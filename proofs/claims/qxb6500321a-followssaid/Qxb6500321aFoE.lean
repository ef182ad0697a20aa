/-
  The road in memory: fork.
-/
import Derived.Test.Qxb6500321aFoD
set_option linter.unusedSimpArgs false
set_option linter.unusedVariables false
set_option maxRecDepth 100000
set_option linter.unusedSectionVars false
set_option maxHeartbeats 1000000
namespace Go.Proofs.Qxb6500321a
open Go Go.Vc

structure FX (P : PM) (w0 : World) (K : RC) (D : BD) (res : Nat) (Sn : SS) : Prop where
  C : CT2 D res Sn
  hI : InsRow w0 K.nb D.n D.ins
  hK : K.n = D.n
  n9 : D.n ≤ 900
  kI : InsRow w0 K.kb (outC Sn).length (fun q => (outC Sn).getD q z0)
  kn : K.kn = (outC Sn).length
  kl : (outC Sn).length ≤ 130
  tt : K.nt = D.nt
  tb : 0 < D.nt → ∃ tk, K.ta = some ⟨tk, 0, none⟩ ∧ ∀ j, j < D.nt → w0.cell? ⟨tk, j, none⟩ = some (.int .u32 (D.tab j))
  nt9 : D.nt ≤ 900
  xs : ∀ i, i < D.n → InsIn (D.ins i)
  ts : ∀ j, j < D.nt → 0 ≤ D.tab j ∧ D.tab j ≤ 4294967295
  ws : wsum D D.n ≤ 120
  ef : D.ef = effP P
section
variable {P : PM} {w0 w w' : World} {rb : Nat} {K : RC} {la : Option Addr} {ll lc : Nat} {D : BD} {res : Nat} {S Sn : SS}
theorem FX.an (X : FX P w0 K D res Sn) : Sn.A.length ≤ 130 := by
  have := X.kl
  unfold outC at this
  simpa using this
theorem FX.at_ (X : FX P w0 K D res Sn) {p : Nat} (hp : p < D.n) (hS : trS D res p = some S) : ∃ f r, S.fs = f :: r ∧ S.h ≤ 10 ∧ S.A.length ≤ 120 ∧ S.fs.length ≤ 7 ∧ (S.dead = 0 → f.fl ≤ S.h) ∧ ∀ (t : Nat) (g : SF), S.fs[t]? = some g → g.fl ≤ 10 ∧ g.ar ≤ 1 ∧ g.st ≤ 120 := by
  have C := X.C
  have pi := pi_tr C.g (by have := C.r1; omega) C.m.hB p S (by omega) hS
  have T := ti_tr C.g C.r1 C.m.hB C.f p S (by omega) hS
  obtain ⟨q, R⟩ := pi.R
  have hl := pi.l
  have q1 := wsum_mono D (D.n - p) p
  rw [show p + (D.n - p) = D.n by omega] at q1
  have hw := X.ws
  cases hfs : S.fs with
  | nil => exact absurd hfs (C.ne hp hS)
  | cons f r =>
    refine ⟨f, r, rfl, R.h10, by omega, by rw [← hfs]; exact pi.f7, fun h0 => R.live h0 f r hfs, fun t g hg => ?_⟩
    rw [← hfs] at hg
    have hlt := get_lt hg
    have kl := R.kl
    have F := R.fr t g _ hg (List.getElem?_eq_getElem (by omega))
    exact ⟨F.fl10, T.ar t g hg, by have := F.stl; omega⟩
theorem FX.sy (X : FX P w0 K D res Sn) (s : Sy) (hs : ∀ v, s = .k v → 0 ≤ v ∧ v ≤ 4000) : 0 ≤ syX Sn s ∧ syX Sn s ≤ 4000 := by
  have T := ti_tr X.C.g X.C.r1 X.C.m.hB X.C.f D.n Sn (Nat.le_refl _) X.C.m.hn
  have an := X.an
  cases s using Sy.cs with
  | k v => exact hs v rfl
  | e o =>
    show (0 : Int) ≤ (((Sn.en o).getD 0 : Nat) : Int) ∧ (((Sn.en o).getD 0 : Nat) : Int) ≤ 4000
    cases h : Sn.en o with
    | none => exact ⟨by omega, by show ((0 : Nat) : Int) ≤ 4000; omega⟩
    | some a => have := T.enl o a h; exact ⟨by omega, by show ((a : Nat) : Int) ≤ 4000; omega⟩
  | c o =>
    show (0 : Int) ≤ (((Sn.el o).getD 0 : Nat) : Int) ∧ (((Sn.el o).getD 0 : Nat) : Int) ≤ 4000
    cases h : Sn.el o with
    | none => exact ⟨by omega, by show ((0 : Nat) : Int) ≤ 4000; omega⟩
    | some a => have := T.ell o a h; exact ⟨by omega, by show ((a : Nat) : Int) ≤ 4000; omega⟩
theorem FX.br (X : FX P w0 K D res Sn) {g : SF} (hst : g.st ≤ 120) : 0 ≤ syX Sn (brC 0 g).s ∧ syX Sn (brC 0 g).s ≤ 4000 := by
  refine X.sy _ (fun v hv => ?_)
  unfold brC at hv
  split at hv
  · cases hv; omega
  · cases hv
theorem fork_spec (X : FX P w0 K D res Sn) {p : Nat} (hp : p < D.n) (hS : trS D res p = some S) (h0 : S.dead = 0) (M : RM w0 w rb K S.fs la ll lc (p : Int) (S.A.length : Int) (S.h : Int) true)
    (ho : (D.ins p).op = 4 ∨ (D.ins p).op = 12 ∨ (D.ins p).op = 13 ∨ (D.ins p).op = 14) {c : Ins} (hc : (outC Sn)[S.A.length]? = some c) (v : Int) (v0 : 0 ≤ v) (v1 : v ≤ 255) :
    Runs Try.prog preplaw_road_fork.id #[rp rb, .agg #[.int .u8 (D.ins p).op, .int .u32 (D.ins p).x, .int .u64 (D.ins p).y], .agg #[.int .u8 c.op, .int .u32 c.x, .int .u64 c.y], .int .u8 v] w fun r w' => r = .bool true ∧ RG w0 w' rb K D res := by
  have C := X.C
  have hK := X.hK; have n9 := X.n9; have nt9 := X.nt9; have kl := X.kl; have kn := X.kn
  obtain ⟨f, r, hfs, hh, hA, hl7, hlv, hbd⟩ := X.at_ hp hS
  have hlv := hlv h0
  obtain ⟨S', hS', hst⟩ := C.nx hp hS
  obtain ⟨o0, o1, x0, x1, y0, y1⟩ := X.xs p hp
  have FA := frl_tr p S hS
  have le := M.le
  have g0 : S.fs[0]? = some f := by rw [hfs]; rfl
  have lrb := M.lt
  have ltb : K.nb < w0.heap.size := X.hI.ltn C.n1
  generalize hR : (fun (r : Value) (w' : World) => r = .bool true ∧ RG w0 w' rb K D res) = R
  refine preplaw_road_fork.enter _ _ _ _ _ _ _ _ _ _ _ ?_
  unfold preplaw_road_fork.V
  refine letB_intro fun xb hxb => letW_intro fun w1 hw1 => letB_intro fun cb hcb => letW_intro fun w2 hw2 => ?_
  obtain ⟨I1, S1⟩ := ins_made (i := D.ins p) hxb hw1
  obtain ⟨J2, S2⟩ := ins_made (i := c) hcb hw2
  have z1 := S1.size; have z2 := S2.size
  have lx1 := I1.ltA
  have I2 := I1.mv S2 lx1 (by simp)
  have M2 := (M.keep S1).keep S2
  have lx := I2.ltA; have lcb := J2.ltA
  have nx : xb ≠ rb ∧ cb ≠ rb ∧ xb ≠ cb := ⟨by omega, by omega, by omega⟩
  have ownl : ∀ k, (Value.slice la ll lc).ownBlock = some k → k ≠ xb ∧ k ≠ cb := fun k hk => by have := (M.row.lt k hk).2; omega
  clear hw1 hw2
  -- the next instruction
  have L2 : ∀ (w3 : World) (la3 : Option Addr) (lc3 : Nat), S'.dead = 0 → S'.A.length = S.A.length + 1 → p + 1 < D.n → RM w0 w3 rb K S'.fs la3 S'.fs.length lc3 (p : Int) (S.A.length : Int) (S'.h : Int) true → S'.h ≤ 10 → preplaw_road_fork.L2 (some ⟨rb, 0, none⟩) R (fun _ _ => False) w3 := fun w3 la3 lc3 d' a' p' M3 h' => by
    refine preplaw_road_fork.step2 _ _ _ _ ?_
    unfold preplaw_road_fork.V2
    simp only [nilV_some, Nat.zero_add]
    refine ⟨_, M3.r4, M3.can 4 (by omega), letW_intro fun w4 hw4 => ?_⟩
    rw [wrap_i64 (by omega) (by omega), show (p : Int) + 1 = ((p + 1 : Nat) : Int) by omega] at hw4
    obtain ⟨M4, _⟩ := M3.set4 _ hw4
    refine ⟨_, M4.r5, M4.can 5 (by omega), letW_intro fun w5 hw5 => ?_⟩
    rw [wrap_i64 (by omega) (by omega), show (S.A.length : Int) + 1 = ((S'.A.length : Nat) : Int) by omega] at hw5
    obtain ⟨M5, _⟩ := M4.set5 _ hw5
    rw [← hR]
    exact ⟨rfl, p + 1, S', _, _, _, true, M5, hS', p', fun _ => ⟨d', rfl⟩, fun z => (by cases z), by omega, by omega⟩
  -- a leap
  have LP : ∀ (w3 : World) (la3 : Option Addr) (ll3 lc3 : Nat) (h3 : Int) (l : Int) (g : SF) (e : Ins), RM w0 w3 rb K S.fs la3 ll3 lc3 (p : Int) (S.A.length : Int) h3 true → 0 ≤ l → l ≤ 4294967295 → S.fs[l.toNat]? = some g → e.x = syX Sn (brC 0 g).s → e.y = (brC 0 g).y →
      RunsQ Try.prog preplaw_road_leap.id #[(.pointer (some ⟨rb, 0, none⟩)), (.agg #[(.int .u8 e.op), (.int .u32 e.x), (.int .u64 e.y)]), (.int .u32 l)] w3 (fun r19 w20 => (∃ x21 : Bool, (r19 = (.bool x21) ∧ (R (.bool x21) w20)))) (fun _ _ => False) := fun w3 la3 ll3 lc3 h3 l g e M3 l0 l1 hg ex ey => by
    obtain ⟨b1, b2, b3⟩ := hbd _ g hg
    obtain ⟨s0, s1⟩ := X.br b3
    refine RunsQ.post (leap_spec C X.hI hK n9 M3 (by omega) FA (by omega) l0 l1 hg b1 b2 (by omega) e.op ex ey (by omega) (by omega)) ?_
    rintro r w4 ⟨rfl, rg⟩
    refine ⟨_, rfl, ?_⟩
    rw [← hR]
    exact ⟨rfl, rg⟩
  -- from the height on
  have L1 : ∀ (w3 : World) (h3 : Int), RM w0 w3 rb K S.fs la ll lc (p : Int) (S.A.length : Int) h3 true → InsAt w3 xb (D.ins p) → InsAt w3 cb c → h3 = (S.h : Int) - (if (D.ins p).op = 12 then 0 else 1) → preplaw_road_fork.L1 (some ⟨rb, 0, none⟩) v xb cb R (fun _ _ => False) w3 := fun w3 h3 M3 I3 J3 eh => by
    have hfl : (f.fl : Int) ≤ h3 := by
      by_cases q12 : (D.ins p).op = 12
      · rw [if_pos q12] at eh; omega
      · rw [if_neg q12] at eh
        have : f.fl < S.h := by
          by_cases q4 : (D.ins p).op = 4
          · obtain ⟨g, _, _, _, _, _, _, _, _, e9, _⟩ := open_law hfs h0 (by omega) hst
            exact (e9 q4).2.1
          · by_cases q13 : (D.ins p).op = 13
            · obtain ⟨g, _, e2, _⟩ := br_law hfs h0 (by omega) hst
              rw [if_pos q13] at e2
              omega
            · exact (tab_law hfs h0 (by omega) hst).1
        omega
    refine preplaw_road_fork.step1 _ _ _ _ _ _ _ ?_
    unfold preplaw_road_fork.V1
    have M4 := M3.drew
    have I4 := I3.drew
    have J4 := J3.drew
    obtain ⟨gb, ela, llc, q0, q1, q2⟩ := lab_cell M4 g0
    subst ela
    simp only [Nat.sub_zero] at q0 q1 q2
    simp only [true_and, nilV_some, Nat.zero_add]
    have ew : IntKind.wrap .i64 (((ll : Nat) : Int) - 1) = ((ll - 1 : Nat) : Int) := by
      have : 1 ≤ ll := by rw [le, hfs]; simp
      rw [wrap_i64 (by omega) (by omega)]; omega
    have hll : 1 ≤ ll := by rw [le, hfs]; simp
    refine ⟨_, M4.r6, _, _, _, M4.r3, _, _, _, M4.r3, ?_⟩
    rw [ew]
    refine ⟨⟨by omega, by omega⟩, ?_⟩
    rw [nilV_some]
    simp only [add_mk, Nat.zero_add, Int.toNat_natCast]
    refine ⟨_, q1, cond_false' (decide_eq_false (by omega)) ⟨_, I4.c0, cond_intro (fun e => ?_) (fun e => ?_)⟩⟩
    · -- br
      have e : (D.ins p).op = 12 := eq_of_beq e
      obtain ⟨g, e1, e2, e3, _⟩ := br_law hfs h0 (by omega) hst
      have hcc := C.cell hp hS hS' e3 (q := 0) rfl
      rw [Nat.add_zero, hc] at hcc
      have hcc := Option.some.inj hcc
      rw [brC_rs] at hcc
      have c0 : c.op = 12 := by rw [hcc]; exact e
      refine ⟨_, J4.c0, cond_false' (by rw [c0]; rfl) ⟨_, _, _, J4.c0, J4.c1, J4.c2, _, I4.c1, LP _ _ _ _ _ _ g c M4 x0 x1 e1 (by rw [hcc]) (by rw [hcc])⟩⟩
    have n12 : ¬ (D.ins p).op = 12 := by simpa using e
    rw [if_neg n12] at eh
    refine cond_intro (fun e => ?_) (fun e => ?_)
    · -- br_if
      have e : (D.ins p).op = 13 := eq_of_beq e
      obtain ⟨g, e1, e2, e3, e4⟩ := br_law hfs h0 (by omega) hst
      obtain ⟨e5, e6, e7⟩ := e4 e
      have hcc := C.cell hp hS hS' e3 (q := 0) rfl
      rw [Nat.add_zero, hc] at hcc
      have hcc := Option.some.inj hcc
      rw [brC_rs] at hcc
      have c0 : c.op = 13 := by rw [hcc]; exact e
      refine ⟨_, J4.c0, cond_false' (by rw [c0]; rfl) (cond_intro (fun _ => ⟨_, _, _, J4.c0, J4.c1, J4.c2, _, I4.c1, LP _ _ _ _ _ _ g c M4 x0 x1 e1 (by rw [hcc]) (by rw [hcc])⟩) (fun _ => ?_))⟩
      have hlt : p + 1 < D.n := C.lt (by omega) hS' (by rw [e5, hfs]; simp)
      refine L2 _ (some ⟨gb, 0, none⟩) lc e7 (by rw [e3]; simp) hlt ?_ (by omega)
      rw [e5, ← le]
      rw [show h3 = (S'.h : Int) by omega] at M4
      exact M4
    refine cond_intro (fun e4 => ?_) (fun e4 => ?_)
    · -- if
      have e4 : (D.ins p).op = 4 := eq_of_beq e4
      obtain ⟨g, a1, a2, a3, a4, a5, a6, a7, _, a9, _⟩ := open_law hfs h0 (by omega) hst
      obtain ⟨b1, b2, b3⟩ := a9 e4
      have hcc := C.cell hp hS hS' b3 (q := 0) rfl
      rw [Nat.add_zero, hc] at hcc
      have hcc := Option.some.inj hcc
      have c0 : c.op = 4 := by rw [hcc]; rfl
      have cx : c.x = syX Sn (.c (p + 1)) := by rw [hcc]; rfl
      obtain ⟨s0, s1⟩ := X.sy (.c (p + 1)) (fun v hv => by cases hv)
      refine ⟨_, J4.c0, cond_false' (by rw [c0]; rfl) ?_⟩
      have hI' : InsRow w0 K.nb K.n D.ins := by rw [hK]; exact X.hI
      refine RunsQ.post (rpush_spec M4 hI' (p := p) (hn := S'.h) (by omega) rfl (by omega) (by omega) g a2 a4 a5) ?_
      rintro r w5 ⟨rfl, ⟨la5, lc5, M5⟩, keepI⟩
      have J5 := keepI cb c J4 nx.2.1 (fun k hk => (ownl k hk).2)
      have hh5 : h3 = (S'.h : Int) := by omega
      rw [hh5] at M5
      have M5 : RM w0 w5 rb K S'.fs la5 S'.fs.length lc5 (p : Int) (S.A.length : Int) (S'.h : Int) true := by
        rw [a1, show (g :: S.fs).length = ll + 1 by simp [le]]
        exact M5
      have ownl5 : cb ≠ rb := nx.2.1
      refine ⟨rfl, cond_intro (fun _ => ?_) (fun _ => ?_)⟩
      · obtain ⟨en, els, hz, hen, hm⟩ := C.other hp hS hS' a7 a1 a2 (by rw [a6, e4]; rfl)
        have M6 := M5.drew
        have J6 := J5.drew
        have I6 := hI'.mv M6.sm ltb (by simp)
        have L3 : ∀ w7 (pc7 : Nat) (ei : Int), RM w0 w7 rb K S'.fs la5 S'.fs.length lc5 (pc7 : Int) (S.A.length : Int) (S'.h : Int) true → InsAt w7 cb c → ei = elsI els → (match els with | some q => pc7 = q + 1 | none => pc7 = en) → preplaw_road_fork.L3 (some ⟨rb, 0, none⟩) cb ei R (fun _ _ => False) w7 := fun w7 pc7 ei M7 J7 hei hpc => by
          refine preplaw_road_fork.step3 _ _ _ _ _ _ ?_
          unfold preplaw_road_fork.V3
          simp only [nilV_some, Nat.zero_add]
          refine ⟨_, J7.c1, M7.can 5 (by omega), letW_intro fun w8 hw8 => ?_⟩
          rw [wrap_i64 (by omega) (by omega), cx] at hw8
          obtain ⟨M8, _⟩ := M7.set5 _ hw8
          refine ⟨M8.can 7 (by omega), letW_intro fun w9 hw9 => ?_⟩
          obtain ⟨M9, _⟩ := M8.set7 _ hw9
          rw [← hR]
          refine ⟨rfl, ?_⟩
          cases els with
          | none =>
            obtain ⟨m1, Se, m2, m3, m4, m5, m6⟩ := hm
            have hpc : pc7 = en := hpc
            subst hpc
            have e10 : decide (ei ≥ 0) = false := by rw [hei]; rfl
            rw [e10, m6] at M9
            have M10 := M9.congr (by rw [m4, a1]) (by rw [m5, a1]; rfl)
            rw [show S'.fs.length = Se.fs.length by rw [m5, a1]; rfl] at M10
            exact ⟨pc7, Se, _, _, _, false, M10, m2, hen, fun z => (by cases z), fun _ => ⟨m3, m1⟩, by omega, by omega⟩
          | some q =>
            obtain ⟨m1, Sq, m2, m3, m4, m5, m6, m7⟩ := hm
            have hpc : pc7 = q + 1 := hpc
            subst hpc
            have e10 : decide (ei ≥ 0) = true := by rw [hei]; exact decide_eq_true (by show (q : Int) ≥ 0; omega)
            rw [e10, m7] at M9
            have M10 := M9.congr (by rw [m5, a1]) (by rw [m6, a1]; rfl)
            rw [show S'.fs.length = Sq.fs.length by rw [m6, a1]; rfl] at M10
            exact ⟨q + 1, Sq, _, _, _, true, M10, m2, m1, fun _ => ⟨m3, by rw [m4, a4]⟩, fun z => (by cases z), by omega, by omega⟩
        have fin : ∀ w7, w7 = w5.drew → (can w7 ⟨rb, 4, none⟩ ∧ letW (World.setCell w7 ⟨rb, 4, none⟩ (.int .i64 ((en : Nat) : Int))) fun w59 => (cond (decide ((elsI els) ≥ (0 : Int)))
            (can w59 ⟨rb, 4, none⟩ ∧ letW (World.setCell w59 ⟨rb, 4, none⟩ (.int .i64 (IntKind.wrap .i64 ((elsI els) + (1 : Int))))) fun w61 => (preplaw_road_fork.L3 (some ⟨rb, 0, none⟩) cb (elsI els) R (fun _ _ => False) w61))
            (preplaw_road_fork.L3 (some ⟨rb, 0, none⟩) cb (elsI els) R (fun _ _ => False) w59))) := fun w7 e7 => by
          subst e7
          refine ⟨M6.can 4 (by omega), letW_intro fun w8 hw8 => ?_⟩
          obtain ⟨M8, S8⟩ := M6.set4 _ hw8
          have J8 := J6.mv S8 J6.ltA (by simp; omega)
          cases els with
          | none => exact cond_false' rfl (L3 w8 en _ M8 J8 rfl rfl)
          | some q =>
            have hq : q + 1 < D.n := hm.1
            refine cond_true' (decide_eq_true (by show (q : Int) ≥ 0; omega)) ⟨M8.can 4 (by omega), letW_intro fun w9 hw9 => ?_⟩
            rw [show elsI (some q) = (q : Int) from rfl, wrap_i64 (by omega) (by omega), show (q : Int) + 1 = ((q + 1 : Nat) : Int) by omega] at hw9
            obtain ⟨M9, S9⟩ := M8.set4 _ hw9
            exact L3 w9 (q + 1) _ M9 (J8.mv S9 J8.ltA (by simp; omega)) rfl rfl
        have run : RunsQ Try.prog preplaw_match.id #[(.slice (some ⟨K.nb, 0, none⟩) K.n K.bc), (.int .i64 (p : Int))] w5.drew (fun r54 w55 => (∃ x56 : Int, ∃ x57 : Int, (r54 = (.tuple #[(.int .i64 x56), (.int .i64 x57)]) ∧ (can w55 ⟨rb, 4, none⟩ ∧ letW (World.setCell w55 ⟨rb, 4, none⟩ (.int .i64 x56)) fun w59 => (cond (decide (x57 ≥ (0 : Int)))
            (can w59 ⟨rb, 4, none⟩ ∧ letW (World.setCell w59 ⟨rb, 4, none⟩ (.int .i64 (IntKind.wrap .i64 (x57 + (1 : Int))))) fun w61 => (preplaw_road_fork.L3 (some ⟨rb, 0, none⟩) cb x57 R (fun _ _ => False) w61))
            (preplaw_road_fork.L3 (some ⟨rb, 0, none⟩) cb x57 R (fun _ _ => False) w59)))))) (fun _ _ => False) := by
          have hmt := pmatch_spec I6 (by omega) K.bc (p + 1) (by omega)
          rw [show (((p + 1 : Nat) : Int) - 1) = (p : Int) by omega, hK, hz] at hmt
          rw [hK]
          refine RunsQ.post hmt ?_
          rintro r w7 ⟨rfl, e7⟩
          exact ⟨_, _, rfl, fin w7 e7⟩
        have k0 := M6.r0
        have k4 := M6.r4
        clear hR
        repeat' first
          | exact trivial
          | exact run
          | refine ⟨_, _, _, k0, ?_⟩
          | refine ⟨_, k4, ?_⟩
          | refine And.intro ?_ ?_
      · have hlt : p + 1 < D.n := C.lt (by omega) hS' (by rw [a1]; simp)
        exact L2 _ _ lc5 a7 (by rw [b3]; simp) hlt M5 (by omega)
    -- br_table
    have e14 : (D.ins p).op = 14 := by
      have n13 : ¬ (D.ins p).op = 13 := by simpa using e
      have n4 : ¬ (D.ins p).op = 4 := by simpa using e4
      omega
    obtain ⟨t1, t2, t3, t4, cs, t5, t6⟩ := tab_law hfs h0 e14 hst
    have hcc := C.cell hp hS hS' t6 (q := 0) rfl
    rw [Nat.add_zero, hc] at hcc
    have hcc := Option.some.inj hcc
    have hcc : c = ⟨14, (D.ins p).y, 0⟩ := hcc
    have L4 : ∀ (row : Nat) (w5 : World), w5 = w3.drew → (row : Int) < (D.ins p).y → preplaw_road_fork.L4 (some ⟨rb, 0, none⟩) xb cb (row : Int) R (fun _ _ => False) w5 := fun row w5 e5 hrow => by
      subst e5
      obtain ⟨g, u1, u2⟩ := rowsS_get _ _ _ _ t5 row (by omega)
      have hcr := C.cell hp hS hS' t6 (q := row + 1) (c := brC 225 g) u2
      have hcl := get_lt hcr
      have rs := brC_rs Sn 225 g
      refine preplaw_road_fork.step4 _ _ _ _ _ _ _ ?_
      unfold preplaw_road_fork.V4
      have M5 := M4.drew
      have I5 := I4.drew
      have J5 := J4.drew
      simp only [true_and, nilV_some, Nat.zero_add]
      have ey : IntKind.wrap .u32 (D.ins p).y = (D.ins p).y := wrap_u32 (by omega) (by omega)
      have j0 := J5.c0; have j1 := J5.c1; have j2 := J5.c2
      rw [hcc] at j0 j1 j2
      refine ⟨_, _, _, j0, j1, j2, _, I5.c2, _, _, neq_ins _ _ _ ⟨14, (D.ins p).y, 0⟩ ⟨14, IntKind.wrap .u32 (D.ins p).y, 0⟩, by trivial, ?_⟩
      refine cond_false' (by rw [ey]; simp) ⟨_, I5.c2, cond_false' (decide_eq_false (by omega)) ⟨_, I5.c1, _, _, _, M5.r1, ?_⟩⟩
      rw [wrap_u64 (x := (D.ins p).x) (by omega) (by omega), wrap_u64 (x := (D.ins p).x + (row : Int)) (by omega) (by omega), X.tt, wrap_u64 (by omega) (by omega)]
      refine cond_false' (decide_eq_false (by omega)) ?_
      refine preplaw_road_fork.step5 _ _ _ _ _ _ ?_
      unfold preplaw_road_fork.V5
      have kI5 := X.kI.mv M5.sm (X.kI.ltn (by omega)) (by simp)
      have e1 : IntKind.wrap .i64 (IntKind.wrap .i64 ((S.A.length : Int) + 1) + IntKind.wrap .i64 (row : Int)) = ((S.A.length + (row + 1) : Nat) : Int) := by
        rw [wrap_i64 (x := (S.A.length : Int) + 1) (by omega) (by omega), wrap_i64 (x := (row : Int)) (by omega) (by omega), wrap_i64 (by omega) (by omega)]; omega
      have gd : (outC Sn).getD (S.A.length + (row + 1)) z0 = rsN Sn (brC 225 g) := by rw [List.getD_eq_getElem?_getD, hcr]; rfl
      have a0 := kI5.i0 _ hcl
      have a1 := kI5.i1 _ hcl
      have a2 := kI5.i2 _ hcl
      rw [gd, rs] at a0 a1 a2
      simp only [nilV_some, Nat.zero_add]
      refine ⟨_, M5.r5, _, _, _, M5.r2, ?_⟩
      rw [e1]
      refine cond_false' (decide_eq_false (by omega)) ⟨_, _, _, M5.r2, ⟨by omega, by omega⟩, ?_⟩
      rw [nilV_some]
      simp only [add_mk, Nat.zero_add, Int.toNat_natCast]
      refine ⟨_, a0, cond_false' rfl ?_⟩
      refine preplaw_road_fork.step6 _ _ _ _ _ _ _ ?_
      unfold preplaw_road_fork.V6
      have M6 := M5.drew
      have I6 := I5.drew
      obtain ⟨tk, eta, htab⟩ := X.tb (by omega)
      have hlt : (D.ins p).x.toNat + row < D.nt := by omega
      have tc := htab _ hlt
      have tc6 : w3.drew.drew.drew.cell? ⟨tk, (D.ins p).x.toNat + row, none⟩ = some (.int .u32 (D.tab ((D.ins p).x.toNat + row))) := by
        rw [M6.sm.cell (p := ⟨tk, (D.ins p).x.toNat + row, none⟩) (cell_lt tc) (by simp)]; exact tc
      have ts := X.ts _ hlt
      have ei : IntKind.wrap .i64 (IntKind.wrap .i64 (D.ins p).x + IntKind.wrap .i64 (row : Int)) = (((D.ins p).x.toNat + row : Nat) : Int) := by
        rw [wrap_i64 (x := (D.ins p).x) (by omega) (by omega), wrap_i64 (x := (row : Int)) (by omega) (by omega), wrap_i64 (by omega) (by omega)]; omega
      have r1 := M6.r1
      rw [eta, X.tt] at r1
      simp only [true_and, nilV_some, Nat.zero_add]
      refine ⟨_, _, _, M6.r2, ⟨by omega, by omega⟩, ?_⟩
      rw [nilV_some]
      simp only [add_mk, Nat.zero_add, Int.toNat_natCast]
      refine ⟨_, _, _, a0, a1, a2, _, _, _, r1, _, I6.c1, ?_⟩
      rw [ei]
      refine ⟨⟨by omega, by omega⟩, ?_⟩
      rw [nilV_some]
      simp only [add_mk, Nat.zero_add, Nat.mul_one, Int.toNat_natCast]
      exact ⟨_, tc6, LP _ _ _ _ _ _ g ⟨225, syX Sn (brC 0 g).s, (brC 0 g).y⟩ M6 ts.1 ts.2 u1 rfl rfl⟩
    have ev : IntKind.wrap .u64 v = v := wrap_u64 (by omega) (by omega)
    refine ⟨_, I4.c2, ?_⟩
    rw [ev]
    refine cond_intro (fun q => ⟨_, I4.c2, ?_⟩) (fun q => ?_)
    · rw [wrap_u64 (by omega) (by omega), show (D.ins p).y - 1 = (((D.ins p).y.toNat - 1 : Nat) : Int) by omega]
      exact L4 _ _ rfl (by omega)
    · have q := of_decide_eq_false q
      obtain ⟨vn, rfl⟩ := Int.eq_ofNat_of_zero_le v0
      exact L4 vn _ rfl (by omega)
  refine ⟨_, I2.c0, cond_intro (fun e => ?_) (fun e => ?_)⟩
  · have e : ¬ (D.ins p).op = 12 := by simpa using e
    simp only [nilV_some, Nat.zero_add]
    refine ⟨_, M2.r6, M2.can 6 (by omega), letW_intro fun w3 hw3 => ?_⟩
    rw [wrap_i64 (by omega) (by omega)] at hw3
    obtain ⟨M3, S3⟩ := M2.set6 _ hw3
    exact L1 w3 _ M3 (I2.mv S3 lx (by simp; omega)) (J2.mv S3 lcb (by simp; omega)) (by rw [if_neg e])
  · have e : (D.ins p).op = 12 := by simpa using e
    exact L1 w2 _ M2 I2 J2 (by rw [if_pos e]; omega)
end
end Go.Proofs.Qxb6500321a
