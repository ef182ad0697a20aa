/-
  Seam.
-/
import Derived.Test.Qxb6500321aSeC
set_option linter.unusedSimpArgs false
set_option linter.unusedVariables false
set_option maxRecDepth 100000
set_option linter.unusedSectionVars false
namespace Go.Proofs.Qxb6500321a
open Go Go.Vc

/-- What holds between two steps. -/
structure KS (w0 w : World) (bb jb b bi bt vb pb cb : Nat) : Prop where
  S : Same [] w0.heap.size w0 w
  B : ∃ c, BN w b bi bt c
  V : ∃ o k, VAt w vb o k
  Z : PZe w pb cb
  c : w.cell? ⟨bb, 0, none⟩ = some (rp b)
  j : w.cell? ⟨jb, 0, none⟩ = some (rp vb)
  l1 : w0.heap.size ≤ b
  l2 : w0.heap.size ≤ bi
  l3 : w0.heap.size ≤ bt
  o1 : b < bb
  o2 : bi < bb
  o3 : bt < bb
  o4 : bb < vb
  o5 : vb < jb
  o6 : jb < pb
  o7 : jb < cb
section
variable {w0 w w' : World} {bb jb b bi bt vb pb cb : Nat}
theorem KS.move (K : KS w0 w bb jb b bi bt vb pb cb) (hS : Same [] w0.heap.size w0 w') (hB : ∃ c, BN w' b bi bt c) (hV : ∃ o k, VAt w' vb o k) (hZ : PZe w' pb cb) (hc : w'.cell? ⟨bb, 0, none⟩ = some (rp b)) (hj : w'.cell? ⟨jb, 0, none⟩ = some (rp vb)) : KS w0 w' bb jb b bi bt vb pb cb :=
  ⟨hS, hB, hV, hZ, hc, hj, K.l1, K.l2, K.l3, K.o1, K.o2, K.o3, K.o4, K.o5, K.o6, K.o7⟩
theorem KS.keep (K : KS w0 w bb jb b bi bt vb pb cb) (hS : Same [] w.heap.size w w') : KS w0 w' bb jb b bi bt vb pb cb := by
  obtain ⟨c, hB⟩ := K.B
  obtain ⟨o, k, v⟩ := K.V
  exact K.move (K.S.trans (hS.mono K.S.size (by simp))) ⟨c, hB.keep hS⟩ ⟨o, k, v.keep hS⟩ (K.Z.keep hS) (by rw [hS.cell (p := ⟨bb, 0, none⟩) (cell_lt K.c) (by simp)]; exact K.c) (by rw [hS.cell (p := ⟨jb, 0, none⟩) (cell_lt K.j) (by simp)]; exact K.j)

theorem Seam_loop (w0 : World) (a : Option Addr) (l c : Nat) (hs : ScriptAt w0 a l) (bb jb b bi bt vb pb cb : Nat) (R Q : Value → World → Prop) (hQ : Q = fun _ _ => False) (hR : ∀ w', Same [] w0.heap.size w0 w' → R (.int .i64 (-1)) w') :
    ∀ (f i : Nat) (w : World), i + f = l → KS w0 w bb jb b bi bt vb pb cb → preplaw_SeamUpTo.L1 a l c bb jb (some ⟨pb, 0, none⟩) i R Q w := by
  subst hQ
  intro f
  induction f with
  | zero =>
    intro i w hi C
    refine preplaw_SeamUpTo.step1 _ _ _ _ _ _ _ _ _ _ ?_
    unfold preplaw_SeamUpTo.V1
    exact cond_false' (by simp; omega) (hR w C.S)
  | succ f ih =>
    intro i w hi C
    refine preplaw_SeamUpTo.step1 _ _ _ _ _ _ _ _ _ _ ?_
    unfold preplaw_SeamUpTo.V1
    refine cond_true' (by simp; omega) ?_
    generalize hM : (4398046511104 : Int) = M
    refine cond_intro (fun hm => ?_) (fun hm => hR w C.S)
    subst hM
    have hm : (i : Int) < 4398046511104 := of_decide_eq_true hm
    rcases hs with h0 | ⟨sb, off, rfl, hs⟩
    · omega
    obtain ⟨o, hF, hO0⟩ := hs i (by omega)
    have hO := hO0.same C.S
    have L3 : ∀ w', KS w0 w' bb jb b bi bt vb pb cb → preplaw_SeamUpTo.L3 (some ⟨sb, off, none⟩) l c bb jb (some ⟨pb, 0, none⟩) i R (fun _ _ => False) w' := fun w' C' => by
      refine preplaw_SeamUpTo.step3 _ _ _ _ _ _ _ _ _ _ ?_
      unfold preplaw_SeamUpTo.V3
      have e : IntKind.wrap .i64 ((i : Int) + 1) = ((i + 1 : Nat) : Int) := by rw [wrap_i64 (by omega) (by omega)]; omega
      rw [e]
      exact ih (i + 1) w' (by omega) C'
    have L4 : ∀ (w' : World) (t : Bool), t = false → KS w0 w' bb jb b bi bt vb pb cb → preplaw_SeamUpTo.L4 (some ⟨sb, off, none⟩) l c bb jb (some ⟨pb, 0, none⟩) i t R (fun _ _ => False) w' := fun w' t ht C' => by
      refine preplaw_SeamUpTo.step4 _ _ _ _ _ _ _ _ _ _ _ ?_
      unfold preplaw_SeamUpTo.V4
      exact cond_false' ht (L3 w' C')
    refine preplaw_SeamUpTo.step2 _ _ _ _ _ _ _ _ _ _ ?_
    unfold preplaw_SeamUpTo.V2
    simp only [nilV_some, add_mk, Int.toNat_natCast]
    refine ⟨⟨by omega, by omega⟩, _, _, _, _, _, _, hO.c0, hO.c1, hO.c2, hO.c3, hO.c4, hO.c5, letB_intro fun ob hob => letW_intro fun w1 hw1 => ?_⟩
    have S1 : Same [] w.heap.size w w1 := by rw [hw1]; exact (Same.refl _ _ _).alloc (Nat.le_refl _) _
    have cn1 : ∀ j, j < 6 → can w1 ⟨ob, j, none⟩ := fun j hj => by
      have e : w1.cell? ⟨ob, j, none⟩ = some (#[(.int .i64 0), (.int .i64 0), (.int .i64 0), (.int .i64 0), (.string ⟨#[]⟩), (.string ⟨#[]⟩)][j]'hj) := by
        rw [hw1, hob, World.cell?_alloc_new]
        exact Array.getElem?_eq_getElem hj
      exact ⟨⟨_, e⟩, by rw [hw1, hob, World.frozen?_alloc_new]⟩
    refine putCells_intro ob _ 0 w1 _ (fun j hj => by rw [Nat.zero_add]; exact cn1 j (by simpa using hj)) (fun w2 hF2 => ?_)
    have O2 : OpAt w2 ob o := OpAt.fill o hF2
    have S2' : Same [] w.heap.size w w2 := S1.trans ((hF2.same _).mono (Nat.le_refl _) (fun k hk hl => by simp at hk; omega))
    have C2 := C.keep S2'
    have hwz := S2'.size
    have lob := O2.lt
    clear hw1
    refine ⟨_, O2.c0, cond_intro (fun _ => L3 w2 C2) (fun _ => ⟨_, C2.c, _, O2.c4, ?_⟩)⟩
    obtain ⟨c0, B2⟩ := C2.B
    obtain ⟨q1, q2, q3⟩ := BL.lts B2
    have lz := C2.Z.lt
    have lj : jb < w2.heap.size := cell_lt C2.j
    have k1 := C.l1; have k2 := C.l2; have k3 := C.l3
    have p1 := C.o1; have p2 := C.o2; have p3 := C.o3; have p4 := C.o4; have p5 := C.o5; have p6 := C.o6; have p7 := C.o7
    refine RunsQ.post (Read_spec B2 o.s) ?_
    rintro v w3 (⟨x, q, mb, m, hd, rfl, B3, H3, S3⟩ | ⟨n, ea, c', hd, rfl, B3, S3⟩)
    · have PBx := decA_pb hd
      have F := decA_wf hd
      have z3 := S3.size
      have V3 : ∃ o k, VAt w3 vb o k := by obtain ⟨o, k, v⟩ := C2.V; exact ⟨o, k, v.same S3 v.lt (by simp; omega)⟩
      have Z3 := C2.Z.same S3 (Nat.le_refl _) (by simp; omega) (by simp; omega)
      have c3 : w3.cell? ⟨bb, 0, none⟩ = some (rp b) := by rw [S3.cell (p := ⟨bb, 0, none⟩) (by show bb < _; omega) (by simp; omega)]; exact C2.c
      have j3 : w3.cell? ⟨jb, 0, none⟩ = some (rp vb) := by rw [S3.cell (p := ⟨jb, 0, none⟩) lj (by simp; omega)]; exact C2.j
      refine ⟨_, rfl, _, j3, RunsQ.post (Taken_spec H3 PBx V3 (by omega)) ?_⟩
      rintro v w4 ⟨rfl, V4, S4⟩
      have H4 := H3.at1 S4 (by omega)
      have Z4 := Z3.same S4 (Nat.le_refl _) (by simp; omega) (by simp; omega)
      have c4 : w4.cell? ⟨bb, 0, none⟩ = some (rp b) := by rw [S4.cell (p := ⟨bb, 0, none⟩) (by show bb < _; omega) (by simp; omega)]; exact c3
      have j4 : w4.cell? ⟨jb, 0, none⟩ = some (rp vb) := by rw [S4.cell (p := ⟨jb, 0, none⟩) (by show jb < _; omega) (by simp; omega)]; exact j3
      have B4 : BN w4 b bi bt x.1 := B3.go S4 (by simp; omega) (by simp; omega) (by simp; omega)
      refine ⟨_, rfl, RunsQ.post (Compile_spec H4 PBx (wf_room F) Z4 (by omega) (by omega)) ?_⟩
      rintro v w5 ⟨Z5, S5, hv⟩
      have z4 := S4.size
      have K5 : KS w0 w5 bb jb b bi bt vb pb cb := by
        refine C.move ?_ ⟨x.1, B4.go S5 (by simp; omega) (by simp; omega) (by simp; omega)⟩ ?_ Z5 (by rw [S5.cell (p := ⟨bb, 0, none⟩) (by show bb < _; omega) (by simp; omega)]; exact c4) (by rw [S5.cell (p := ⟨jb, 0, none⟩) (by show jb < _; omega) (by simp; omega)]; exact j4)
        · have hsz := C2.S.size
          exact ((C2.S.trans (S3.mono hsz (fun k hk hl => by simp at hk; omega))).trans (S4.mono (by omega) (fun k hk hl => by simp at hk; omega))).trans (S5.mono (by omega) (fun k hk hl => by simp at hk; omega))
        · obtain ⟨o, k, v⟩ := V4
          exact ⟨o, k, v.same S5 v.lt (by simp; omega)⟩
      cases hz : comp x.2 with
      | inl e =>
        obtain ⟨k, at_⟩ := e
        rw [hz] at hv
        have hv : v = .tuple #[.pointer none, .int .i64 (k : Int), .int .i64 (at_ : Int), .int .i64 29] := hv
        subst hv
        refine ⟨_, _, _, _, rfl, cond_intro (fun g => ?_) (fun _ => L4 w5 false rfl K5)⟩
        obtain ⟨fs, hfs⟩ := seam_law F (eq_of_beq g)
        rw [hz] at hfs
        cases hfs
      | inr fs =>
        rw [hz] at hv
        obtain ⟨cdb, rfl, _⟩ := hv
        exact ⟨_, _, _, _, rfl, cond_intro (fun _ => L4 w5 _ rfl K5) (fun _ => L4 w5 false rfl K5)⟩
    · have z3 := S3.size
      have V3 : ∃ o k, VAt w3 vb o k := by obtain ⟨o, k, v⟩ := C2.V; exact ⟨o, k, v.same S3 v.lt (by simp; omega)⟩
      have Z3 := C2.Z.same S3 (Nat.le_refl _) (by simp; omega) (by simp; omega)
      have c3 : w3.cell? ⟨bb, 0, none⟩ = some (rp b) := by rw [S3.cell (p := ⟨bb, 0, none⟩) (by show bb < _; omega) (by simp; omega)]; exact C2.c
      have j3 : w3.cell? ⟨jb, 0, none⟩ = some (rp vb) := by rw [S3.cell (p := ⟨jb, 0, none⟩) lj (by simp; omega)]; exact C2.j
      refine ⟨_, rfl, _, j3, RunsQ.post (Taken_nil V3) ?_⟩
      rintro v w4 ⟨rfl, V4, S4⟩
      have Z4 := Z3.same S4 (Nat.le_refl _) (by simp; omega) (by simp; omega)
      have c4 : w4.cell? ⟨bb, 0, none⟩ = some (rp b) := by rw [S4.cell (p := ⟨bb, 0, none⟩) (by show bb < _; omega) (by simp; omega)]; exact c3
      have j4 : w4.cell? ⟨jb, 0, none⟩ = some (rp vb) := by rw [S4.cell (p := ⟨jb, 0, none⟩) (by show jb < _; omega) (by simp; omega)]; exact j3
      refine ⟨_, rfl, RunsQ.post (Compile_nil Z4) ?_⟩
      rintro v w5 ⟨rfl, rfl⟩
      have hsz := C2.S.size
      have K5 : KS w0 w5 bb jb b bi bt vb pb cb := C.move ((C2.S.trans (S3.mono hsz (fun k hk hl => by simp at hk; omega))).trans (S4.mono (by omega) (fun k hk hl => by simp at hk; omega))) ⟨c', B3.go S4 (by simp; omega) (by simp; omega) (by simp; omega)⟩ V4 Z4 c4 j4
      exact ⟨_, _, _, _, rfl, cond_false' rfl (L4 w5 false rfl K5)⟩

theorem Seam_spec (w : World) (a : Option Addr) (l c : Nat) (hs : ScriptAt w a l) : Runs Try.prog preplaw_Seam.id #[.slice a l c] w fun v w' => v = .bool true ∧ Same [] w.heap.size w w' := by
  refine preplaw_Seam.enter _ _ _ _ _ _ ?_
  unfold preplaw_Seam.V
  have h : Runs Try.prog preplaw_SeamUpTo.id #[.slice a l c] w fun v w' => v = .int .i64 (-1) ∧ Same [] w.heap.size w w' := by
    refine preplaw_SeamUpTo.enter _ _ _ _ _ _ ?_
    unfold preplaw_SeamUpTo.V
    refine RunsQ.post (Ground_spec w) ?_
    rintro v w5 ⟨b, bi, bt, rfl, hB, S5, l1, l2, l3⟩
    obtain ⟨q1, q2, q3⟩ := BL.lts hB
    refine ⟨_, rfl, letB_intro fun b7 hb7 => letW_intro fun w8 hw8 => ?_⟩
    have S8 : Same [] w5.heap.size w5 w8 := by rw [hw8]; exact (Same.refl _ _ _).alloc (Nat.le_refl _) _
    have z8 : w8.heap.size = w5.heap.size + 1 := by rw [hw8]; simp
    have c8 : w8.cell? ⟨b7, 0, none⟩ = some (.pointer none) := by rw [hw8, hb7, World.cell?_alloc_new]; rfl
    have f8 : w8.frozen? ⟨b7, 0, none⟩ = false := by rw [hw8, hb7, World.frozen?_alloc_new]
    clear hw8
    refine ⟨⟨⟨_, c8⟩, f8⟩, letW_intro fun w9 hw9 => ?_⟩
    have S9 : Same [b7] w8.heap.size w8 w9 := by rw [hw9]; exact (Same.refl _ _ _).setCell (.inr (by simp)) _
    have c9 : w9.cell? ⟨b7, 0, none⟩ = some (rp b) := by rw [hw9, cell_setCell, if_pos ⟨rfl, rfl⟩, c8]; rfl
    clear hw9
    have z9 := S9.size
    have z5 := S5.size
    have B9 : BN w9 b bi bt sc0 := BN.go (hB.keep S8) S9 (by simp; omega) (by simp; omega) (by simp; omega)
    refine RunsQ.post (Bench_spec w9) ?_
    rintro v w11 ⟨vb, rfl, V11, S11, lv⟩
    have z11 := S11.size
    have lvb : vb < w11.heap.size := by obtain ⟨o, k, v⟩ := V11; exact v.lt
    have c11 : w11.cell? ⟨b7, 0, none⟩ = some (rp b) := by rw [S11.cell (p := ⟨b7, 0, none⟩) (show b7 < _ by omega) (by simp)]; exact c9
    refine ⟨_, rfl, letB_intro fun jb hjb => letW_intro fun w14 hw14 => ?_⟩
    have S14 : Same [] w11.heap.size w11 w14 := by rw [hw14]; exact (Same.refl _ _ _).alloc (Nat.le_refl _) _
    have z14 : w14.heap.size = w11.heap.size + 1 := by rw [hw14]; simp
    have c14 : w14.cell? ⟨jb, 0, none⟩ = some (.pointer none) := by rw [hw14, hjb, World.cell?_alloc_new]; rfl
    have f14 : w14.frozen? ⟨jb, 0, none⟩ = false := by rw [hw14, hjb, World.frozen?_alloc_new]
    clear hw14
    refine ⟨⟨⟨_, c14⟩, f14⟩, letW_intro fun w15 hw15 => ?_⟩
    have S15 : Same [jb] w14.heap.size w14 w15 := by rw [hw15]; exact (Same.refl _ _ _).setCell (.inr (by simp)) _
    have c15 : w15.cell? ⟨jb, 0, none⟩ = some (rp vb) := by rw [hw15, cell_setCell, if_pos ⟨rfl, rfl⟩, c14]; rfl
    clear hw15
    have z15 := S15.size
    refine RunsQ.post (PNew_spec w15) ?_
    rintro v w17 ⟨pb, cb, rfl, Z17, S17, lp, lc⟩
    refine ⟨_, rfl, ?_⟩
    have T1115 : Same [jb] w11.heap.size w11 w15 := (S14.mono (Nat.le_refl _) (by simp)).trans (S15.mono (by omega) (fun _ h _ => h))
    have T1117 : Same [jb] w11.heap.size w11 w17 := T1115.trans (S17.mono (by omega) (by simp))
    have T17 : Same [] w.heap.size w w17 := (((S5.trans (S8.mono z5 (by simp))).trans (S9.mono (by omega) (fun k hk hl => by simp at hk; omega))).trans (S11.mono (by omega) (by simp))).trans (T1117.mono (by omega) (fun k hk hl => by simp at hk; omega))
    refine Seam_loop w a l c hs b7 jb b bi bt vb pb cb _ _ rfl (fun w' h => ⟨rfl, h⟩) l 0 w17 (by omega) ⟨T17, ⟨sc0, ?_⟩, ?_, Z17, ?_, ?_, l1, l2, l3, by omega, by omega, by omega, by omega, by omega, by omega, by omega⟩
    · exact BN.go (B9.keep S11) T1117 (by simp; omega) (by simp; omega) (by simp; omega)
    · obtain ⟨o, k, v⟩ := V11
      exact ⟨o, k, v.same T1117 v.lt (by simp; omega)⟩
    · rw [T1117.cell (p := ⟨b7, 0, none⟩) (by show b7 < _; omega) (by simp; omega)]; exact c11
    · rw [S17.cell (p := ⟨jb, 0, none⟩) (by show jb < _; omega) (by simp)]; exact c15
  refine RunsQ.post h ?_
  rintro v w1 ⟨rfl, hS⟩
  exact ⟨_, rfl, rfl, hS⟩
end
end Go.Proofs.Qxb6500321a
