/-
  The road in memory: leap.
-/
import Derived.Test.Qxb6500321aFoB
set_option linter.unusedSimpArgs false
set_option linter.unusedVariables false
set_option maxRecDepth 100000
set_option linter.unusedSectionVars false
set_option maxHeartbeats 1000000
namespace Go.Proofs.Qxb6500321a
open Go Go.Vc

theorem newLab {w : World} {o fl ar : Int} {K : Nat → World → Prop} (hK : ∀ b w', w.heap.size ≤ b → FAt w' b o fl ar → Same [] w.heap.size w w' → K b w') :
    letB (Array.size (World.heap w)) fun b => letW (World.alloc w (.cells #[.int .i64 0, .int .i64 0, .int .i64 0] T_preplaw_lab)) fun w7 => putCells w7 ⟨b, 0, none⟩ [.int .i64 o, .int .i64 fl, .int .i64 ar] fun w8 => K b w8 := by
  refine letB_intro fun b hb => letW_intro fun w7 hw7 => ?_
  have hS7 : Same [] w.heap.size w w7 := by rw [hw7]; exact (Same.refl _ _ _).alloc (Nat.le_refl _) _
  have hb' : w.heap.size ≤ b := by rw [hb]; exact Nat.le_refl _
  refine putCells_intro b _ 0 w7 _ (fun j hj => ?_) (fun w' hF => hK b w' hb' ⟨by rw [hF.cell, if_pos (by simp)]; rfl, by rw [hF.cell, if_pos (by simp)]; rfl, by rw [hF.cell, if_pos (by simp)]; rfl⟩ (hS7.trans ((hF.same _).mono (Nat.le_refl _) (by intro k hk hlt; simp at hk; omega))))
  rw [hw7, hb, Nat.zero_add]
  refine ⟨?_, by rw [World.frozen?_alloc_new]⟩
  rw [World.cell?_alloc_new]
  have hj : j < 3 := by simpa using hj
  have : j = 0 ∨ j = 1 ∨ j = 2 := by omega
  rcases this with rfl | rfl | rfl <;> exact ⟨_, rfl⟩
/-- The road stands at a place of the trace. -/
def RG (w0 w : World) (rb : Nat) (K : RC) (D : BD) (res : Nat) : Prop :=
  ∃ (p : Nat) (S : SS) (la : Option Addr) (lc : Nat) (h : Int) (fell : Bool), RM w0 w rb K S.fs la S.fs.length lc (p : Int) (S.A.length : Int) h fell ∧ trS D res p = some S ∧ p < D.n ∧ (fell = true → S.dead = 0 ∧ h = (S.h : Int)) ∧ (fell = false → S.dead ≤ 1 ∧ (D.ins p).op = 11) ∧ 0 ≤ h ∧ h ≤ 2000
theorem brC_yk {g : SF} (h1 : g.fl ≤ 10) (h2 : g.ar ≤ 1) : (g.op = 3 → YK 0 g.fl (brC 0 g).y ∧ (brC 0 g).s = .k (g.st : Int)) ∧ (g.op ≠ 3 → YK g.ar g.fl (brC 0 g).y ∧ (brC 0 g).s = .e g.o) := by
  constructor
  · intro q
    unfold brC
    rw [if_pos q]
    exact ⟨⟨by dsimp only; omega, by omega, h1⟩, rfl⟩
  · intro q
    unfold brC
    rw [if_neg q]
    exact ⟨⟨rfl, h2, h1⟩, rfl⟩
section
variable {w0 w w' : World} {rb : Nat} {K : RC} {la : Option Addr} {ll lc : Nat} {pc fc h : Int} {D : BD} {res : Nat} {S Sn : SS}
theorem leap_spec (C : CT2 D res Sn) (hI : InsRow w0 K.nb D.n D.ins) (hK : K.n = D.n) (hn : D.n ≤ 900) (M : RM w0 w rb K S.fs la ll lc pc fc h true) {p : Nat} (hp : p ≤ D.n) (F : FrLA D res p S) (hl7 : S.fs.length ≤ 900) {l : Int} (l0 : 0 ≤ l) (l1 : l ≤ 4294967295) {g : SF} (hg : S.fs[l.toNat]? = some g) (g1 : g.fl ≤ 10) (g2 : g.ar ≤ 1) (hst : g.st ≤ 4000) (op : Int) {X Y : Int} (hX : X = syX Sn (brC 0 g).s) (hY : Y = (brC 0 g).y) (x1 : X ≤ 4294967295) (x0 : 0 ≤ X) :
    Runs Try.prog preplaw_road_leap.id #[rp rb, .agg #[.int .u8 op, .int .u32 X, .int .u64 Y], .int .u32 l] w fun v w' => v = .bool true ∧ RG w0 w' rb K D res := by
  have le := M.le
  have ltb : K.nb < w0.heap.size := hI.ltn C.n1
  generalize hR : (fun (v : Value) (w' : World) => v = .bool true ∧ RG w0 w' rb K D res) = R
  obtain ⟨t, rfl⟩ := Int.eq_ofNat_of_zero_le l0
  have hg : S.fs[t]? = some g := hg
  have htl := get_lt hg
  have FL := F t g hg
  obtain ⟨yk3, ykn⟩ := brC_yk (g := g) g1 g2
  refine preplaw_road_leap.enter _ _ _ _ _ _ _ _ ?_
  unfold preplaw_road_leap.V
  refine letB_intro fun b6 hb6 => letW_intro fun w1 hw1 => ?_
  obtain ⟨I1, S1⟩ := ins_made (i := ⟨op, X, Y⟩) hb6 hw1
  have z1 : b6 < w1.heap.size := I1.ltA
  have M1 := M.keep S1
  have lrb := M.lt
  clear hw1
  simp only [nilV_some, Nat.zero_add]
  refine ⟨_, _, _, M1.r3, ?_⟩
  rw [wrap_u64 (by omega) (by omega), wrap_u64 (by omega) (by omega)]
  refine cond_false' (decide_eq_false (by omega)) ⟨_, _, _, M1.r3, _, _, _, M1.r3, ?_⟩
  obtain ⟨gb, rfl, llc, q0, q1, q2⟩ := lab_cell M1 hg
  rw [wrap_i64 (x := (t : Int)) (by omega) (by omega), wrap_i64 (x := ((ll : Nat) : Int) - 1) (by omega) (by omega), wrap_i64 (x := ((ll : Nat) : Int) - 1 - (t : Int)) (by omega) (by omega), show ((ll : Nat) : Int) - 1 - (t : Int) = ((ll - 1 - t : Nat) : Int) by omega]
  refine ⟨⟨by omega, by omega⟩, ?_⟩
  rw [nilV_some]
  simp only [add_mk, Nat.zero_add, Int.toNat_natCast]
  refine ⟨_, _, _, q0, q1, q2, newLab fun tb w2 htb F2 S2 => ?_⟩
  have M2 := M1.keep S2
  have I2 := I1.mv S2 z1 (by simp)
  have ltt := F2.lt
  refine ⟨_, I2.c2, RunsQ.post (api_Keep.pure _ _) ?_⟩
  rintro v w2 ⟨rfl, rfl⟩
  refine ⟨_, rfl, _, I2.c2, RunsQ.post (api_Height.pure _ _) ?_⟩
  rintro v w2 ⟨rfl, rfl⟩
  refine ⟨_, rfl, _, _, _, M2.r3, ?_⟩
  rw [wrap_i64 (x := ((ll - 1 - t : Nat) : Int) + 1) (by omega) (by omega), show ((ll - 1 - t : Nat) : Int) + 1 = ((ll - t : Nat) : Int) by omega]
  refine ⟨⟨by omega, by omega, by omega, by omega⟩, M2.can 3 (by omega), letW_intro fun w3 hw3 => ?_⟩
  rw [slAddr_lt (by omega), Int.toNat_natCast, Nat.sub_zero, Nat.sub_zero, Nat.zero_mul, Nat.zero_add] at hw3
  have hrow : w2.ownsRow w0.heap.size T_preplaw_lab 3 (.slice (some ⟨gb, 0, none⟩) (ll - t) lc) (ll - t) (frVs (S.fs.drop t)) := by
    have := M2.row
    rw [le] at this ⊢
    exact row_cut t S.fs (by omega) this
  obtain ⟨M3, S3⟩ := M2.setL (fs' := S.fs.drop t) hrow (by rw [List.length_drop]; omega) (fun k hk => M.ne k hk) hw3
  clear hw3
  have I3 := I2.mv S3 I2.ltA (by simp; omega)
  have F3 := F2.same S3 ltt (by simp; omega)
  refine ⟨_, I3.c1, M3.can 5 (by omega), letW_intro fun w4 hw4 => ?_⟩
  rw [wrap_i64 (x := X) (by omega) (by omega)] at hw4
  obtain ⟨M4, S4⟩ := M3.set5 _ hw4
  clear hw4
  have F4 := F3.same S4 F3.lt (by simp; omega)
  refine ⟨_, F4.c1, M4.can 6 (by omega), letW_intro fun w5 hw5 => ?_⟩
  obtain ⟨M5, S5⟩ := M4.set6 _ hw5
  clear hw5
  have F5 := F4.same S5 F4.lt (by simp; omega)
  have drp : S.fs.drop t = g :: S.fs.drop (t + 1) := by
    rw [List.drop_eq_getElem_cons htl]
    congr 1
    rw [List.getElem?_eq_getElem htl] at hg
    exact Option.some.inj hg
  rw [drp] at M5
  have lle : ll - t = (S.fs.drop (t + 1)).length + 1 := by rw [List.length_drop]; omega
  -- a loop
  have L1t : ∀ w6, g.op = 3 → RM w0 w6 rb K (g :: S.fs.drop (t + 1)) (some ⟨gb, 0, none⟩) (ll - t) lc pc X (g.fl : Int) true → FAt w6 tb ((g.o : Int) - 1) (g.fl : Int) (g.ar : Int) → preplaw_road_leap.L1 (some ⟨rb, 0, none⟩) tb (api_Keep.F Y) (api_Height.F Y) true R (fun _ _ => False) w6 := fun w6 h3 M6 F6 => by
    refine preplaw_road_leap.step1 _ _ _ _ _ _ _ _ ?_
    unfold preplaw_road_leap.V1
    obtain ⟨yk, es⟩ := yk3 h3
    rw [← hY] at yk
    obtain ⟨k1, k2⟩ := kh_eq yk
    simp only [nilV_some, Nat.zero_add]
    refine cond_true' rfl ⟨_, F6.c0, M6.can 4 (by omega), letW_intro fun w7 hw7 => ?_⟩
    have hle := FL.le
    rw [wrap_i64 (by omega) (by omega), show (g.o : Int) - 1 + 1 = (g.o : Int) by omega] at hw7
    obtain ⟨M7, S7⟩ := M6.set4 _ hw7
    have F7 := F6.same S7 F6.lt (by simp; omega)
    rw [k1, k2]
    refine cond_true' rfl ⟨_, F7.c1, ?_⟩
    rw [← hR]
    refine ⟨by simp, ?_⟩
    obtain ⟨S0, a1, a2, a3, a4, a5, a6, a7⟩ := C.loop FL hp h3
    have hX' : X = (S0.A.length : Int) := by rw [hX, es, a4]; rfl
    have M8 := M7.congr a5 (by rw [a6]; rfl)
    rw [hX', lle, ← a6] at M8
    exact ⟨g.o, S0, _, lc, _, true, M8, a1, a7, fun _ => ⟨a2, by rw [a3]⟩, fun z => (by cases z), by omega, by omega⟩
  have L1f : ∀ w6, g.op ≠ 3 → RM w0 w6 rb K (g :: S.fs.drop (t + 1)) (some ⟨gb, 0, none⟩) (ll - t) lc pc X (g.fl : Int) true → FAt w6 tb ((g.o : Int) - 1) (g.fl : Int) (g.ar : Int) → preplaw_road_leap.L1 (some ⟨rb, 0, none⟩) tb (api_Keep.F Y) (api_Height.F Y) false R (fun _ _ => False) w6 := fun w6 h3 M6 F6 => by
    refine preplaw_road_leap.step1 _ _ _ _ _ _ _ _ ?_
    unfold preplaw_road_leap.V1
    obtain ⟨yk, es⟩ := ykn h3
    rw [← hY] at yk
    obtain ⟨k1, k2⟩ := kh_eq yk
    obtain ⟨e, Se, a1, a2, a3, a4, a5, a6, a7, a8⟩ := C.far FL hp
    have hle := FL.le
    have M7 := M6.drew
    have F7 := F6.drew
    have I7 := hI.mv M7.sm ltb (by simp)
    rw [← hK] at I7
    simp only [nilV_some, Nat.zero_add]
    refine cond_false' rfl ?_
    have run : RunsQ Try.prog preplaw_match.id #[(.slice (some ⟨K.nb, 0, none⟩) K.n K.bc), (.int .i64 ((g.o : Int) - 1))] w6.drew (fun r24 w25 => (∃ x26 : Int, ∃ x27 : Int, (r24 = (.tuple #[(.int .i64 x26), (.int .i64 x27)]) ∧ ((can w25 ⟨rb, 4, none⟩ ∧ letW (World.setCell w25 ⟨rb, 4, none⟩ (.int .i64 x26)) fun w29 => (can w29 ⟨rb, 7, none⟩ ∧ letW (World.setCell w29 ⟨rb, 7, none⟩ (.bool false)) fun w31 => (∃ x32 : Int, World.cell? w31 ⟨tb, 2, none⟩ = some (.int .i64 x32) ∧ (cond ((api_Keep.F Y) == x32)
        (∃ x33 : Int, World.cell? w31 ⟨tb, 1, none⟩ = some (.int .i64 x33) ∧ (R (.bool ((api_Height.F Y) == x33)) w31))
        (R (.bool false) w31))))) ∧ True)))) (fun _ _ => False) := by
      refine RunsQ.post (pmatch_spec I7 (by omega) K.bc g.o (by omega)) ?_
      rintro v w8 ⟨rfl, rfl⟩
      rw [hK, a1]
      refine ⟨_, _, rfl, ⟨M7.can 4 (by omega), letW_intro fun w9 hw9 => ?_⟩, trivial⟩
      obtain ⟨M9, S9⟩ := M7.set4 _ hw9
      have F9 := F7.same S9 F7.lt (by simp; omega)
      refine ⟨M9.can 7 (by omega), letW_intro fun w10 hw10 => ?_⟩
      obtain ⟨M10, S10⟩ := M9.set7 _ hw10
      have F10 := F9.same S10 F9.lt (by simp; omega)
      rw [k1, k2]
      refine ⟨_, F10.c2, cond_true' (by simp) ⟨_, F10.c1, ?_⟩⟩
      rw [← hR]
      refine ⟨by simp, ?_⟩
      have hX' : X = (Se.A.length : Int) := by rw [hX, es, a8]
      have M11 := M10.congr a6 (by rw [a7]; rfl)
      rw [hX', lle, ← a7] at M11
      exact ⟨e, Se, _, lc, _, false, M11, a4, a2, fun z => (by cases z), fun _ => ⟨a5, a3⟩, by omega, by omega⟩
    have c0 := M7.r0
    have c1 := F7.c0
    clear hR
    repeat' first
      | exact trivial
      | exact run
      | refine ⟨_, _, _, c0, ?_⟩
      | refine ⟨_, c1, ?_⟩
      | refine And.intro ?_ ?_
  have M6 := M5.drew
  have F6 := F5.drew
  simp only [true_and, nilV_some, Nat.zero_add]
  refine ⟨_, F6.c0, cond_intro (fun q => ?_) (fun q => ?_)⟩
  · have q : (g.o : Int) - 1 ≥ 0 := of_decide_eq_true q
    have hle := FL.le
    have I6 := hI.mv M6.sm ltb (by simp)
    have hop := FL.bl (by omega)
    have i0 := I6.i0 (g.o - 1) (by omega)
    refine ⟨_, _, _, M6.r0, _, F6.c0, ⟨by omega, by omega⟩, ?_⟩
    rw [nilV_some]
    simp only [add_mk, Nat.zero_add, show Int.toNat ((g.o : Int) - 1) = g.o - 1 by omega]
    refine ⟨_, i0, ?_⟩
    rw [hop]
    by_cases h3 : g.op = 3
    · rw [h3]
      exact L1t _ h3 M6 F6
    · rw [show (g.op == (3 : Int)) = false by simpa using h3]
      exact L1f _ h3 M6 F6
  · have q : ¬ (g.o : Int) - 1 ≥ 0 := of_decide_eq_false q
    exact L1f _ (FL.bo (by omega)) M6 F6
end
end Go.Proofs.Qxb6500321a
