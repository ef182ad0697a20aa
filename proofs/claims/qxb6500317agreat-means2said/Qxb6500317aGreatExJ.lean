/-
  The machine: find, Invoke.
-/
import Derived.Test.Qxb6500317aGreatExI
set_option linter.unusedSimpArgs false
set_option linter.unusedVariables false
set_option maxRecDepth 100000
set_option linter.unusedSectionVars false
set_option maxHeartbeats 1000000
namespace Go.Proofs.Qxb6500317aGreat
open Go Go.Vc

def findG (P : PM) (nm : ByteArray) : Nat → Nat → Int
  | 0, _ => -1
  | f + 1, i => if ((P.ex i).kind == 0 && (ByteArray.toList (P.ex i).nm == ByteArray.toList nm)) = true then IntKind.wrap .i64 (P.ex i).idx else findG P nm f (i + 1)
def findP (P : PM) (nm : ByteArray) : Int := findG P nm P.nEx 0
def HS.fresh (h : HS) : HS := { { h with tr := [] } with rows := 0 }
def argS (S : Nat → Int) (args : ByteArray) (g : Nat → Int) : Nat → Nat → Int
  | 0 => S
  | i + 1 => upd (argS S args g i) i (cut (g (1 + i)) (word args i))
def outS (e re w0 : Int) : ByteArray := if e ≠ 0 ∨ re = 0 then ⟨#[]⟩ else hexOf re 2 ++ (⟨#[58]⟩ : ByteArray) ++ hexOf w0 16
/-- What a run leaves. -/
def ROK (E : RE) (Post : Int → Int → M.MS → HS → (Nat → Int) → Prop) : Value → World → Prop := fun v w' => ∃ left e F ms h S fr, v = .tuple #[.int .i64 left, .int .i64 e] ∧ XL E w' F ms h S fr ∧ SW S ∧ Post left e ms h S
section
variable {E : RE} {w w' : World} {F : List Nat} {ms : M.MS} {h : HS} {S fr : Nat → Int} {R : Value → World → Prop}
theorem cut_bd (t v : Int) (h0 : 0 ≤ v) (h1 : v < 18446744073709551616) : 0 ≤ cut t v ∧ cut t v < 18446744073709551616 := by
  unfold cut
  split <;> omega
theorem argS_sw (hS : SW S) (args : ByteArray) (g : Nat → Int) : ∀ n, SW (argS S args g n)
  | 0 => hS
  | n + 1 => by
    have b := word_bd args n
    have := cut_bd (g (1 + n)) (word args n) b.1 b.2
    exact (argS_sw hS args g n).upd this.1 this.2
theorem XL.lower {F1 F' : List Nat} {w1 w' : World} {ms' : M.MS} {h' : HS} {S' fr' : Nat → Int} (x : XL E w F ms h S fr) (x' : XL (E.at w1 F1) w' F' ms' h' S' fr') (up : ∀ k, E.I k → (E.at w1 F1).I k) (hI : ∀ k, E.I k → w'.heap[k]? = w.heap[k]?) : XL E w' F' ms' h' S' fr' :=
  ⟨x'.X, x'.H, x.M.mv hI, x.G.mv hI, fun k hk => x'.iI k (up k hk), fun k hk => (hI k hk).trans (x.zx k hk)⟩
theorem find_spec (x : XL E w F ms h S fr) (nm : ByteArray) (hx : E.P.nEx ≤ 6) : Runs Tryz.prog exec_Exec_find.id #[rp E.A.xb, .string nm] w fun v w' => v = .int .i64 (findP E.P nm) ∧ w' = w := by
  refine exec_Exec_find.enter _ _ _ _ _ ?_
  unfold exec_Exec_find.V
  obtain ⟨a, ea, ha⟩ := x.M.ex
  have loop : ∀ (f i : Nat), i + f = E.P.nEx → findP E.P nm = findG E.P nm f i → exec_Exec_find.L1 (some ⟨E.A.xb, 0, none⟩) nm (i : Int) (fun v w' => v = .int .i64 (findP E.P nm) ∧ w' = w) (fun _ _ => False) w := by
    intro f
    induction f with
    | zero =>
      intro i hi hp
      refine exec_Exec_find.step1 _ _ _ _ _ _ ?_
      unfold exec_Exec_find.V1
      refine ⟨_, x.H.c5, _, _, _, ea, cond_false' (decide_eq_false (by omega)) ⟨by rw [hp]; rfl, rfl⟩⟩
    | succ f ih =>
      intro i hi hp
      refine exec_Exec_find.step1 _ _ _ _ _ _ ?_
      unfold exec_Exec_find.V1
      obtain ⟨b, rfl, bI, hb⟩ := ha (by omega)
      have c0 := hb i (by omega) 0 _ rfl
      have c1 := hb i (by omega) 1 _ rfl
      have c2 := hb i (by omega) 2 _ rfl
      rw [Nat.add_zero] at c0
      refine ⟨_, x.H.c5, _, _, _, ea, cond_true' (decide_eq_true (by omega)) ⟨_, x.H.c5, _, _, _, ea, by omega, ?_⟩⟩
      simp only [nilV_some, add_mk, Int.toNat_natCast, Nat.zero_add]
      refine ⟨_, c1, ?_⟩
      have stp : ∀ t : Bool, t = ((E.P.ex i).kind == 0 && (ByteArray.toList (E.P.ex i).nm == ByteArray.toList nm)) → exec_Exec_find.L2 (some ⟨E.A.xb, 0, none⟩) nm (i : Int) t (fun v w' => v = .int .i64 (findP E.P nm) ∧ w' = w) (fun _ _ => False) w := by
        intro t ht
        have hp' : findP E.P nm = if t = true then IntKind.wrap .i64 (E.P.ex i).idx else findG E.P nm f (i + 1) := by rw [hp, ht]; rfl
        refine exec_Exec_find.step2 _ _ _ _ _ _ _ ?_
        unfold exec_Exec_find.V2
        cases t with
        | true =>
          refine cond_true' rfl ⟨_, x.H.c5, _, _, _, ea, by omega, ?_⟩
          simp only [nilV_some, add_mk, Int.toNat_natCast, Nat.zero_add]
          exact ⟨_, c2, by rw [hp']; rfl, by trivial⟩
        | false =>
          refine cond_false' rfl ?_
          rw [nx i (by omega)]
          exact ih (i + 1) (by omega) (by rw [hp']; rfl)
      cases hk : ((E.P.ex i).kind == 0) with
      | true =>
        refine cond_true' rfl ⟨_, x.H.c5, _, _, _, ea, by omega, _, by rw [add_mk, Nat.zero_add]; exact c0, stp _ ?_⟩
        rw [hk]; rfl
      | false =>
        refine cond_false' rfl (stp _ ?_)
        rw [hk]; rfl
  exact loop E.P.nEx 0 (by omega) rfl
theorem Invoke_spec (x : XL E w F ms h S fr) (hS : SW S) (nm args : ByteArray) (hns : nm.size ≤ 9223372036854775807) (has : args.size ≤ 9223372036854775807) (fuel : Int) (hx : E.P.nEx ≤ 6) (hP : E.P.nIm + E.P.nf ≤ 100) {k np : Nat} (Post : Int → Int → M.MS → HS → (Nat → Int) → Prop)
    (r1 : 8 < nm.size ∨ 32 < args.size → R (.tuple #[.string ⟨#[]⟩, .int .i64 0, .int .i64 1]) w)
    (r2 : ¬ (8 < nm.size ∨ 32 < args.size) → findP E.P nm < 0 → R (.tuple #[.string ⟨#[]⟩, .int .i64 0, .int .i64 33]) w)
    (hk : 0 ≤ findP E.P nm → findP E.P nm = (k : Int) ∧ k < E.P.nIm + E.P.nf ∧ fsG E.P k 0 = (np : Int) ∧ np ≤ 4 ∧ 0 ≤ fsG E.P k 5 ∧ fsG E.P k 5 ≤ 255)
    (r3 : ¬ (8 < nm.size ∨ 32 < args.size) → 0 ≤ findP E.P nm → args.size ≠ 8 * np → ∀ w', XL E w' F ms h S fr → R (.tuple #[.string ⟨#[]⟩, .int .i64 0, .int .i64 34]) w')
    (r4 : 0 ≤ findP E.P nm → args.size = 8 * np → ∀ w1 : World, XL (E.at w1 F) w1 F ms h.fresh (argS S args (fsG E.P k) np) fr → Runs Tryz.prog exec_Exec_run.id #[rp E.A.xb, .int .i64 (k : Int), .int .i64 (np : Int), .int .i64 (if fuel < 0 then 0 else fuel)] w1 (ROK (E.at w1 F) Post))
    (r5 : 0 ≤ findP E.P nm → args.size = 8 * np → ∀ left e w2 F' ms' h' S' fr', XL E w2 F' ms' h' S' fr' → SW S' → Post left e ms' h' S' → R (.tuple #[.string (outS e (fsG E.P k 5) (S' 0)), .int .i64 left, .int .i64 e]) w2) :
    Runs Tryz.prog exec_Exec_Invoke.id #[rp E.A.xb, .string nm, .string args, .int .i64 fuel] w R := by
  obtain ⟨_, _, _, _, ⟨h1, h2⟩, ⟨k1, k2, x1, x2, ne⟩, lt, z0⟩ := x.X.zone
  refine exec_Exec_Invoke.enter _ _ _ _ _ _ _ ?_
  unfold exec_Exec_Invoke.V
  have out : ∀ (t : Bool), t = true → (8 < nm.size ∨ 32 < args.size) → exec_Exec_Invoke.L1 (some ⟨E.A.xb, 0, none⟩) nm args fuel t R (fun _ _ => False) w := by
    rintro t rfl q
    refine exec_Exec_Invoke.step1 _ _ _ _ _ _ _ _ ?_
    unfold exec_Exec_Invoke.V1
    exact cond_true' rfl (r1 q)
  by_cases q1 : 8 < nm.size
  · exact cond_true' (decide_eq_true (by omega)) (out true rfl (.inl q1))
  refine cond_false' (decide_eq_false (by omega)) ?_
  by_cases q2 : 32 < args.size
  · exact out _ (decide_eq_true (by omega)) (.inr q2)
  rw [show decide (((ByteArray.size args : Nat) : Int) > (32 : Int)) = false from decide_eq_false (by omega)]
  refine exec_Exec_Invoke.step1 _ _ _ _ _ _ _ _ ?_
  unfold exec_Exec_Invoke.V1
  refine cond_false' rfl ⟨_, x.H.c5, cond_false' rfl (RunsQ.post (find_spec x nm hx) ?_)⟩
  rintro v w4 ⟨rfl, hw4⟩
  subst hw4
  refine ⟨_, rfl, ?_⟩
  by_cases q3 : findP E.P nm < 0
  · exact cond_true' (decide_eq_true q3) (r2 (by omega) q3)
  have q0 : 0 ≤ findP E.P nm := by omega
  have r3 := r3 (by omega) q0
  have r4 := r4 q0
  have r5 := r5 q0
  obtain ⟨ek, kl, enp, np4, re0, re1⟩ := hk q0
  rw [ek]
  obtain ⟨gb, ega, gI, gc⟩ := x.G (by omega)
  have gk := gc k kl
  have c8 := x.H.c8
  rw [ega] at c8
  refine cond_false' (decide_eq_false (by omega)) ⟨_, _, _, c8, by omega, ?_⟩
  simp only [nilV_some, add_mk, Int.toNat_natCast, Nat.zero_add, Int.toNat_zero, Nat.zero_mul]
  refine ⟨_, _, _, _, _, _, gk 0 (by omega), gk 1 (by omega), gk 2 (by omega), gk 3 (by omega), gk 4 (by omega), gk 5 (by omega), letB_intro fun b hb => letW_intro fun w18 hw18 => ?_⟩
  have S18 : Same [] w4.heap.size w4 w18 := by rw [hw18]; exact (Same.refl _ _ _).alloc (Nat.le_refl _) _
  have z18 : w18.heap.size = w4.heap.size + 1 := by rw [hw18]; simp
  have G18 : SigAt w18 b (fun _ => 0) := by rw [hw18, hb]; exact sig_new w4
  have x18 := x.keep S18
  have zb : E.A.n6 ≤ b ∧ b ∉ F ∧ ¬ E.I b := ⟨by omega, fun q => by have := x.X.ho.lF b q; omega, fun q => by have := (x.iI b q).2.2; omega⟩
  refine sig_put G18 (fsG E.P k) _ (fun w19 G19 S19 => ?_)
  have x19 : XL E w19 F ms h S fr := x18.mv S19 (by intro q hq; simp at hq; subst hq; exact zb)
  have z19 := S19.size
  refine ⟨by omega, _, G19.c 0 (by omega), ?_⟩
  have e1 : IntKind.wrap .i64 (fsG E.P k 0) = (np : Int) := by rw [enp, wrap_i64 (by omega) (by omega)]
  have e2 : IntKind.wrap .i64 ((8 : Int) * (np : Int)) = ((8 * np : Nat) : Int) := by rw [wrap_i64 (by omega) (by omega)]; omega
  rw [e1, e2]
  by_cases q4 : args.size = 8 * np
  · refine cond_false' (by rw [q4]; simp) ⟨_, x19.X.c4, RunsQ.post (Fresh_spec x19.X.ho) ?_⟩
    rintro v w24 ⟨rfl, ho24, S24⟩
    have x24 : XL E w24 F ms h.fresh S fr := x19.host S24 (by simp) ho24 (fun d hd => .inl hd)
    have G24 : SigAt w24 b (fsG E.P k) := G19.same S24 G19.lt (by simp; omega)
    refine ⟨rfl, ?_⟩
    -- the run and what comes behind it
    have fin : ∀ (w1 : World) (fu : Int), fu = (if fuel < 0 then 0 else fuel) → XL E w1 F ms h.fresh (argS S args (fsG E.P k) np) fr → SigAt w1 b (fsG E.P k) → exec_Exec_Invoke.L3 (some ⟨E.A.xb, 0, none⟩) fu (k : Int) b (np : Int) R (fun _ _ => False) w1 := by
      rintro w1 fu rfl xa Ga
      refine exec_Exec_Invoke.step3 _ _ _ _ _ _ _ _ ?_
      unfold exec_Exec_Invoke.V3
      have up : ∀ k, E.I k → (E.at w1 F).I k := fun k hk => ⟨(xa.iI k hk).2.2, (xa.iI k hk).1, (xa.iI k hk).2.1⟩
      refine RunsQ.post (r4 q4 w1 xa.rebase) ?_
      rintro v w2 ⟨left, e, F', ms', h', S', fr', rfl, xb, hS', po⟩
      have xc : XL E w2 F' ms' h' S' fr' := xa.lower xb up (fun j hj => xb.zx j (up j hj))
      have bI : (E.at w1 F).I b := ⟨Ga.lt, zb.1, zb.2.1⟩
      have blk : w2.heap[b]? = w1.heap[b]? := xb.zx b bI
      have Gb : SigAt w2 b (fsG E.P k) := ⟨fun j hj => by
        have : w2.cell? ⟨b, j, none⟩ = w1.cell? ⟨b, j, none⟩ := World.cell?_of_block (w := w1) blk
        rw [this]; exact Ga.c j hj, fun j hj => by
        have : w2.frozen? ⟨b, j, none⟩ = w1.frozen? ⟨b, j, none⟩ := World.frozen?_of_block (w := w1) blk
        rw [this]; exact Ga.f j hj⟩
      have bare : (e ≠ 0 ∨ fsG E.P k 5 = 0) → ∀ t : Bool, t = true → exec_Exec_Invoke.L4 (some ⟨E.A.xb, 0, none⟩) b left e t R (fun _ _ => False) w2 := by
        rintro q t rfl
        refine exec_Exec_Invoke.step4 _ _ _ _ _ _ _ _ ?_
        unfold exec_Exec_Invoke.V4
        refine cond_true' rfl ?_
        have := r5 q4 left e w2 F' ms' h' S' fr' xc hS' po
        unfold outS at this
        rw [if_pos q] at this
        exact this
      refine ⟨_, _, rfl, ?_⟩
      by_cases qe : e = 0
      · have e5 : Int.toNat 5 * 1 = 5 := rfl
        simp only [add_mk, e5, Nat.zero_add]
        refine cond_false' (by rw [qe]; rfl) ⟨by omega, _, Gb.c 5 (by omega), ?_⟩
        by_cases q5 : fsG E.P k 5 = 0
        · exact bare (.inr q5) _ (by rw [q5]; rfl)
        · have hb5 : (fsG E.P k 5 == 0) = false := ne_beq q5
          rw [hb5]
          refine exec_Exec_Invoke.step4 _ _ _ _ _ _ _ _ ?_
          unfold exec_Exec_Invoke.V4
          have eu : IntKind.wrap .u64 (fsG E.P k 5) = fsG E.P k 5 := wrap_u64 (by omega) (by omega)
          simp only [add_mk, e5, Nat.zero_add]
          refine cond_false' rfl ⟨by omega, _, Gb.c 5 (by omega), ?_⟩
          rw [eu]
          refine RunsQ.post (Hex_spec _ 2 _ re0 (by omega) (by omega) (by omega)) ?_
          rintro v w3 ⟨rfl, S3⟩
          have xd := xc.keep S3
          refine ⟨_, rfl, _, _, _, xd.X.c9, by omega, ?_⟩
          simp only [nilV_some, add_mk, Nat.zero_add, Int.toNat_zero, Nat.zero_mul]
          have ws := hS' 0
          refine ⟨_, xd.X.st 0 (by omega), RunsQ.post (Hex_spec _ 16 _ ws.1 ws.2 (by omega) (by omega)) ?_⟩
          rintro v w5 ⟨rfl, S5⟩
          have l1 := M.hexOf_size (fsG E.P k 5) 2
          have l2 := M.hexOf_size (S' 0) 16
          have l3 : (⟨#[58]⟩ : ByteArray).size = 1 := rfl
          refine ⟨_, rfl, by omega, by rw [M.size_app]; omega, ?_⟩
          have := r5 q4 left e w5 F' ms' h' S' fr' (xd.keep S5) hS' po
          unfold outS at this
          rw [if_neg (fun q => q.elim (fun q => q qe) (fun q => q5 q))] at this
          rw [← qe]
          exact this
      · exact cond_true' (by simpa using qe) (bare (.inl qe) true rfl)
    have loop : ∀ (n i : Nat) (w1 : World), i + n = np → XL E w1 F ms h.fresh (argS S args (fsG E.P k) i) fr → SigAt w1 b (fsG E.P k) → exec_Exec_Invoke.L2 (some ⟨E.A.xb, 0, none⟩) args fuel (k : Int) b (np : Int) (i : Int) R (fun _ _ => False) w1 := by
      intro n
      induction n with
      | zero =>
        intro i w1 hi xa Ga
        obtain rfl : i = np := by omega
        refine exec_Exec_Invoke.step2 _ _ _ _ _ _ _ _ _ _ ?_
        unfold exec_Exec_Invoke.V2
        refine cond_false' (decide_eq_false (by omega)) ?_
        by_cases qf : fuel < 0
        · exact cond_true' (decide_eq_true qf) (fin w1 0 (by rw [if_pos qf]) xa Ga)
        · exact cond_false' (decide_eq_false qf) (fin w1 fuel (by rw [if_neg qf]) xa Ga)
      | succ n ih =>
        intro i w1 hi xa Ga
        refine exec_Exec_Invoke.step2 _ _ _ _ _ _ _ _ _ _ ?_
        unfold exec_Exec_Invoke.V2
        refine cond_true' (decide_eq_true (by omega)) (RunsQ.post (Word_spec args i w1 has (by omega)) ?_)
        rintro v w2 ⟨rfl, hw2⟩
        subst hw2
        have ei : IntKind.wrap .i64 ((1 : Int) + (i : Int)) = ((1 + i : Nat) : Int) := by rw [wrap_i64 (by omega) (by omega)]; omega
        have wb := word_bd args i
        simp only [ei, add_mk, Int.toNat_natCast, Nat.zero_add, Nat.mul_one]
        refine ⟨_, rfl, by omega, _, Ga.c (1 + i) (by omega), RunsQ.post (Cut_spec _ _ _ wb.1 wb.2) ?_⟩
        rintro v w3 ⟨rfl, hw3⟩
        subst hw3
        refine ⟨_, rfl, _, _, _, xa.X.c9, by omega, ?_⟩
        simp only [nilV_some, add_mk, Int.toNat_natCast, Nat.zero_add, Nat.mul_one]
        refine ⟨xa.X.canK (by omega), letW_intro fun w5 hw5 => ?_⟩
        rw [nx i (by omega)]
        have Q : Same [E.A.kb] w3.heap.size w3 w5 := by rw [hw5]; exact (Same.refl _ _ _).setCell (.inr (by simp)) _
        refine ih (i + 1) w5 (by omega) ?_ (Ga.same Q Ga.lt (by simp; omega))
        rw [hw5]
        exact xa.setSt (by omega) _
    exact loop np 0 w24 (by omega) x24 G24
  · refine cond_true' (by simp; omega) (r3 q4 w19 x19)
end
end Go.Proofs.Qxb6500317aGreat
