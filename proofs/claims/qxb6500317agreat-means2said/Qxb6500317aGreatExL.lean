/-
  The machine: Load.
-/
import Derived.Test.Qxb6500317aGreatExK
set_option linter.unusedSimpArgs false
set_option linter.unusedVariables false
set_option maxRecDepth 100000
set_option linter.unusedSectionVars false
set_option maxHeartbeats 1000000
namespace Go.Proofs.Qxb6500317aGreat
open Go Go.Vc

section
variable {W w w' : World} {A : XA} {F : List Nat} {ms : M.MS} {h : HS} {S fr : Nat → Int} {v5 v6 v7 v8 : Value} {R : Value → World → Prop}
theorem Load_spec (X : XB W w A F ms h S fr) (H : X58 w A.xb v5 v6 v7 v8) {s : ByteArray} {P : PM} {fs : List FF} (T : Taken s P fs) (fuel : Int) {kk : Nat → Nat} {nb : Nat} (hk : ∀ i, i < nb → nameK (P.im i).nm (kk i)) (hnb : nb = P.nIm ∨ (nb < P.nIm ∧ (P.im nb).nm = nNone))
    (rE : (settleP P nb ms).2.2.1 ≠ 0 → ∀ w' F', XB W w' A F' (settleP P nb ms).2.2.2 (bindH h.cleared kk nb).cleared S fr → XE w' A.xb → Frm A F w F' w' → R (.tuple #[.int .i64 (settleP P nb ms).1, .int .i64 (settleP P nb ms).2.1, .int .i64 (settleP P nb ms).2.2.1]) w')
    (rO : (settleP P nb ms).2.2.1 = 0 → P.start < 0 → ∀ w0 I mb cdb fb nbs v7 ga gc w' F', XL ⟨W, w0, A, I, mb, cdb, fb, nbs, P, fs, v7, ga, gc⟩ w' F' (settleP P nb ms).2.2.2 (bindH h.cleared kk nb) S fr → (∀ k, I k → w.heap.size ≤ k) → Frm A F w F' w' → R (.tuple #[.int .i64 (if fuel < 0 then 0 else fuel), .int .i64 0, .int .i64 0]) w')
    (rS : (settleP P nb ms).2.2.1 = 0 → 0 ≤ P.start → ∀ w0 I mb cdb fb nbs v7 ga gc w' F', XL ⟨W, w0, A, I, mb, cdb, fb, nbs, P, fs, v7, ga, gc⟩ w' F' (settleP P nb ms).2.2.2 (bindH h.cleared kk nb) S fr → (∀ k, I k → w.heap.size ≤ k) → Frm A F w F' w' →
      Runs Tryz.prog exec_Exec_run.id #[rp A.xb, .int .i64 P.start, .int .i64 0, .int .i64 (if fuel < 0 then 0 else fuel)] w' (fun v w2 => ∃ left, v = .tuple #[.int .i64 left, .int .i64 0] ∧ R (.tuple #[.int .i64 left, .int .i64 0, .int .i64 0]) w2)) :
    Runs Tryz.prog exec_Exec_Load.id #[rp A.xb, .string s, .int .i64 fuel] w R := by
  obtain ⟨⟨a1, a2, a3, a4, a5, a6⟩, ⟨b1, b2⟩, ⟨d1, d2, d3, d4⟩, ⟨p1, p2, q1, q2⟩, ⟨h1, h2⟩, ⟨k1, k2, x1, x2, ne⟩, lt, z0⟩ := X.zone
  refine exec_Exec_Load.enter _ _ _ _ _ _ ?_
  unfold exec_Exec_Load.V
  refine RunsQ.post (empty_spec X H) ?_
  rintro v w5 ⟨rfl, X5, E5, S5⟩
  have lF5 := X5.ho.lF
  have z5 := S5.size
  have lt5 := X5.lt
  have fr5 : Frm A F w F w5 := Frm.of S5 (fun k hk => by
    rcases List.mem_cons.1 hk with e | e
    · left; omega
    · rcases List.mem_cons.1 e with e | e
      · left; omega
      · exact .inr e) (fun d hd => .inl hd)
  obtain ⟨c5, bn5⟩ := X5.bn
  refine ⟨rfl, _, X5.c0, RunsQ.post (Decode_all bn5 s) ?_⟩
  rintro v w9 (⟨cp, q, mb, m, r1, rfl, bn9, md9, mi9, lm9, S9⟩ | ⟨n, a, r1, _⟩)
  rotate_left
  · obtain ⟨c, q, e⟩ := T.dec
    have := decA_refused r1 sc0
    rw [e] at this
    cases this
  have z9 := S9.size
  obtain ⟨c0, q0, dec⟩ := T.dec
  have H9 : HM w9 w9 w5.heap.size mb m P := (HM.eqv ⟨md9, mi9, lm9, Same.refl _ _ _⟩ (decA_like dec r1) : HM w9 w9 w5.heap.size mb m P)
  have B : PB P := decA_pb dec
  have X9 := X5.bin S9 bn9
  have E9 : XE w9 A.xb := E5.same S9 (by omega) (by simp; omega)
  have fr9 : Frm A F w F w9 := fr5.trans (Frm.of S9 (by simp; omega) (fun d hd => .inl hd))
  refine ⟨_, _, _, rfl, cond_false' rfl ⟨_, X9.c1, RunsQ.post (Validate_spec H9 B X9.va (by omega)) ?_⟩⟩
  rintro v w16 ⟨rfl, va16, S16⟩
  have z16 := S16.size
  have X16 := X9.valid S16 va16
  have E16 : XE w16 A.xb := E9.same S16 (by omega) (by simp; omega)
  have H16 := H9.at1 S16 (by omega)
  have fr16 := fr9.trans (Frm.of (A := A) (F := F) (F' := F) S16 (by simp; omega) (fun d hd => .inl hd))
  refine ⟨_, _, _, rfl, cond_false' (by rw [T.val]; rfl) ⟨_, X16.c2, RunsQ.post (Compile_spec H16 B T.room X16.pz (by omega) (by omega)) ?_⟩⟩
  intro v w23 CQ23
  unfold CQ at CQ23
  rw [T.cmp] at CQ23
  obtain ⟨pz23, S23, cdb, rfl, CD23⟩ := CQ23
  have z23 := S23.size
  have X23 := X16.prep S23 pz23
  have E23 : XE w23 A.xb := E16.same S23 (by omega) (by simp; omega)
  have H23 : HM w9 w23 w5.heap.size mb m P := H16.same S23 H16.size (by intro k hk; simp at hk; left; omega)
  have fr23 := fr16.trans (Frm.of (A := A) (F := F) (F' := F) S23 (by simp; omega) (fun d hd => .inl hd))
  have s0 : Stl W w23 w23 w9 A F F ms h.cleared S fr w5.heap.size mb m P := ⟨X23, H23, Same.refl _ _ _, fun d hd => .inl hd, by omega, fun d hd => by have := lF5 d hd; omega, by omega⟩
  refine ⟨_, _, _, _, rfl, cond_false' rfl (RunsQ.post (settle_spec s0 B rfl hk hnb) ?_)⟩
  rintro v w29 ⟨rfl, F', s29⟩
  have z29 := s29.T.size
  have nT : ∀ k, A.n5 ≤ k → k < w23.heap.size → k ∉ F → k ∉ A.p :: A.q :: A.hb :: F := fun k hk hl hf g => by
    simp at g
    rcases g with e | e | e | e
    · omega
    · omega
    · omega
    · exact hf e
  have xF : A.xb ∉ F := fun g => by have := X23.zf _ g; omega
  have E29 : XE w29 A.xb := E23.same s29.T (by omega) (nT _ (by omega) (by omega) xF)
  have fr29 : Frm A F w F' w29 := fr23.trans (Frm.of s29.T (fun k hk => by
    simp at hk
    rcases hk with e | e | e | e
    · left; omega
    · left; omega
    · left; omega
    · exact .inr e) s29.fF)
  refine ⟨_, _, _, rfl, ?_⟩
  by_cases qe : (settleP P nb ms).2.2.1 = 0
  rotate_left
  · refine cond_true' (by simpa using qe) ⟨_, s29.X.c4, RunsQ.post (Clear_spec s29.X.ho) ?_⟩
    rintro v w36 ⟨rfl, ho36, S36⟩
    have x29 := s29.X.lt
    refine ⟨rfl, rE qe w36 F' (s29.X.host S36 (fun k hk => by simpa using hk) ho36 (fun d hd => .inl hd)) (E29.same S36 (by omega) (fun g => ?_)) (fr29.trans (Frm.of S36 (fun k hk => ?_) (fun d hd => .inl hd)))⟩
    · rcases List.mem_cons.1 g with e | e
      · omega
      · have := s29.X.zf _ e; omega
    · rcases List.mem_cons.1 hk with e | e
      · left; omega
      · exact .inr e
  refine cond_false' (by rw [qe]; rfl) (RunsQ.post (adopt_spec (cdb := cdb) s29.X E29 s29.H B (by omega) T.ti T.tf) ?_)
  rintro v w38 ⟨rfl, f7, f8, a7, c7, a8, c8, aS, hf8⟩
  refine ⟨rfl, ?_⟩
  have z38 := aS.S0.size
  have fr38 : Frm A F w F' w38 := fr29.trans (Frm.of aS.S0 (by simp; omega) (fun d hd => .inl hd))
  -- the code's rows
  have hrow : ∃ (fb : Nat) (nbs : Nat → Nat), fs ≠ [] → CdR w23 w16.heap.size cdb fb fs.length fs ∧ ∀ j f, fs[j]? = some f → w23.cell? ⟨fb, j * 4 + 3, none⟩ = some (.slice (some ⟨nbs j, 0, none⟩) f.cells.length f.cells.length) := by
    rcases CD23 with ⟨e, _⟩ | ⟨e, fb, CR⟩
    · exact ⟨0, fun _ => 0, fun g => absurd e g⟩
    · have : ∀ j, ∃ nb, ∀ f, fs[j]? = some f → w23.cell? ⟨fb, j * 4 + 3, none⟩ = some (.slice (some ⟨nb, 0, none⟩) f.cells.length f.cells.length) := fun j => by
        cases hj : fs[j]? with
        | none => exact ⟨0, fun f hf => by cases hf⟩
        | some f =>
          obtain ⟨_, _, _, nb, r3, _⟩ := CR.r0 j f hj
          exact ⟨nb, fun g hg => by cases hg; exact r3⟩
      obtain ⟨nbs, hn⟩ := Classical.axiomOfChoice this
      exact ⟨fb, nbs, fun _ => ⟨CR, fun j f hf => hn j f hf⟩⟩
  obtain ⟨fb, nbs, hrow⟩ := hrow
  have M23 : Lm ⟨W, w23, A, fun k => w5.heap.size < k ∧ k < w23.heap.size, mb, cdb, fb, nbs, P, fs, .slice a7 P.nTy c7, a8, c8⟩ w23 :=
    Lm.made (base := w16.heap.size) H23 CD23 (by have := H16.mlt; have := H16.lm; omega) rfl (fun h0 => ⟨fb, (hrow h0).1, rfl, (hrow h0).2⟩)
  have M38 : Lm ⟨W, w23, A, fun k => w5.heap.size < k ∧ k < w23.heap.size, mb, cdb, fb, nbs, P, fs, .slice a7 P.nTy c7, a8, c8⟩ w38 := M23.mv (fun k hk => by
    have hk : w5.heap.size < k ∧ k < w23.heap.size := hk
    rw [aS.S0.block k (by omega) (by simp; omega), s29.T.block k hk.2 (nT k (by omega) hk.2 (fun g => by have := lF5 k g; omega))])
  have X38 : XL ⟨W, w38, A, fun k => w.heap.size ≤ k ∧ k < w38.heap.size ∧ A.n6 ≤ k ∧ k ∉ F', mb, cdb, fb, nbs, P, fs, .slice a7 P.nTy c7, a8, c8⟩ w38 F' (settleP P nb ms).2.2.2 (bindH h.cleared kk nb) S fr := by
    refine ⟨aS.X, aS.H, M38.mono rfl rfl rfl rfl rfl rfl (fun k hk => ?_), fun h0 => ?_, fun k hk => ⟨hk.2.2.1, hk.2.2.2, hk.2.1⟩, fun k hk => rfl⟩
    · have hk : w5.heap.size < k ∧ k < w23.heap.size := hk
      refine ⟨by omega, by omega, by omega, fun g => ?_⟩
      rcases s29.fF k g with e | e
      · have := lF5 k e; omega
      · omega
    · have h0 : P.nIm + P.nf ≠ 0 := h0
      obtain ⟨b, e1, e2, e3, _⟩ := row_get aS.r8 h0
      refine ⟨b, e1, ⟨by omega, e3, by have := aS.z6; omega, fun g => by have := aS.fF b g; omega⟩, fun i hi k hk => ?_⟩
      obtain ⟨b', e1', _, _, hc⟩ := row_at sigE_len aS.r8 hi
      rw [e1] at e1'
      have : b = b' := by simpa using e1'
      subst this
      have e8 := hf8 i hi
      show w38.cell? _ = some (.int .u8 (fsG P i k))
      rw [← e8]
      refine hc k _ ?_
      have : k = 0 ∨ k = 1 ∨ k = 2 ∨ k = 3 ∨ k = 4 ∨ k = 5 := by omega
      rcases this with rfl | rfl | rfl | rfl | rfl | rfl <;> rfl
  have H38 : HM w9 w38 w5.heap.size mb m P := s29.H.same aS.S0 s29.H.size (by intro k hk; simp at hk; left; omega)
  have fin : ∀ fu : Int, fu = (if fuel < 0 then 0 else fuel) → exec_Exec_Load.L1 (some ⟨A.xb, 0, none⟩) fu (some ⟨mb, 0, none⟩) R (fun _ _ => False) w38 := by
    rintro fu rfl
    refine exec_Exec_Load.step1 _ _ _ _ _ _ ?_
    unfold exec_Exec_Load.V1
    by_cases qs : P.start < 0
    · exact ⟨_, H38.c9, cond_true' (decide_eq_true qs) (rO qe qs _ _ _ _ _ _ _ _ _ w38 F' X38 (fun k hk => hk.1) fr38)⟩
    · refine ⟨_, H38.c9, cond_false' (decide_eq_false qs) ⟨_, H38.c9, RunsQ.post (rS qe (by omega) _ _ _ _ _ _ _ _ _ w38 F' X38 (fun k hk => hk.1) fr38) ?_⟩⟩
      rintro v w6 ⟨left, rfl, hR⟩
      refine ⟨_, _, rfl, cond_false' rfl ?_⟩
      refine exec_Exec_Load.step2 _ _ _ _ _ ?_
      exact hR
  by_cases qf : fuel < 0
  · exact cond_true' (decide_eq_true qf) (fin 0 (by rw [if_pos qf]))
  · exact cond_false' (decide_eq_false qf) (fin fuel (by rw [if_neg qf]))
end
end Go.Proofs.Qxb6500317aGreat
