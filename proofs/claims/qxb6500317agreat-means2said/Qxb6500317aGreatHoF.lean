/-
  The host: Call, whole.
-/
import Derived.Test.Qxb6500317aGreatHoE
set_option linter.unusedSimpArgs false
set_option linter.unusedVariables false
set_option maxRecDepth 100000
set_option linter.unusedSectionVars false
set_option maxHeartbeats 1000000
namespace Go.Proofs.Qxb6500317aGreat
open Go Go.Vc

def HS.row (h : HS) (k : Nat) (vs : Nat → Nat) (n : Nat) : HS := { { h with tr := h.tr ++ [32, 48 + (k : Int), 40] ++ argT vs n ++ [41] } with rows := h.rows + 1 }
def HS.answer (h : HS) (kk : Nat) (want pages : Int) : Int × Int × HS :=
  if kk = 1 then (if want = 0 then (0, 0, h) else if h.left = 0 then (0, 47, h) else (cut want (h.tape h.head), 0, h.took))
  else if kk = 2 then (0, 0, h) else if want = 0 then (0, 0, h) else (cut want pages, 0, h)

/-! ### Dispatch -/
theorem want_tape (tb : Nat) (w : World) : Sem.run Tryz.prog (Instr.typeAssert (.iface T_p_host_tapeFn (.pointer (some ⟨tb, 0, none⟩))) T_host_Fn T_host_wanter true) w = .ok (.tuple #[.iface T_p_host_tapeFn (.pointer (some ⟨tb, 0, none⟩)), .bool true]) w := by kernel_rfl
theorem miss_some {want : Array (String × TypeId)} {got : Array Method} {n : String} (hm : (want.toList.filter fun (name, sig) => !got.any fun m => m.name == name && m.sig == sig).map (·.1) = [n]) : ∃ m, Instr.missingMethod want got = some m := by
  unfold Instr.missingMethod
  simp only [hm]
  cases hc : n.contains '.' <;> simp [List.partition, List.partition.loop, hc, Instr.least]
theorem want_not {t : TypeId} {i : TypeInfo} (hi : Tryz.prog.info? t = some i) (hm : (((#[("Wants", 226)] : Array (String × TypeId)).toList.filter fun (name, sig) => !i.methods.any fun m => m.name == name && m.sig == sig).map (·.1) = ["Wants"])) (v : Value) (w : World) :
    Sem.run Tryz.prog (Instr.typeAssert (.iface t v) T_host_Fn T_host_wanter true) w = .ok (.tuple #[.nilIface, .bool false]) w := by
  have hu : Tryz.prog.underlying T_host_wanter = some (.interface #[("Wants", 226)]) := by kernel_rfl
  have hz : (zeroValue T_host_wanter).run Tryz.prog w = .ok .nilIface w := by kernel_rfl
  have ht : (typeInfo t).run Tryz.prog w = .ok i w := by simp [typeInfo, Sem.run_bind, run_program, hi, Result.andThen]
  obtain ⟨m, hs⟩ := miss_some hm
  simp [Instr.typeAssert, run_underlying hu, ht, hs, hz, Result.andThen]
theorem want_zero (w : World) : Sem.run Tryz.prog (Instr.typeAssert (.iface T_host_zeroFn (.agg #[])) T_host_Fn T_host_wanter true) w = .ok (.tuple #[.nilIface, .bool false]) w := want_not (i := Tryz.t247) (by kernel_rfl) (by kernel_rfl) _ w
theorem want_size (w : World) : Sem.run Tryz.prog (Instr.typeAssert (.iface T_host_sizeFn (.func (.func host_word.id) #[] #[])) T_host_Fn T_host_wanter true) w = .ok (.tuple #[.nilIface, .bool false]) w := want_not (i := Tryz.t249) (by kernel_rfl) (by kernel_rfl) _ w
theorem wants_tape (tb : Nat) (w : World) : Sem.run Tryz.prog (Go.callMethod (.iface T_p_host_tapeFn (.pointer (some ⟨tb, 0, none⟩))) "Wants" (((#[(.iface T_p_host_tapeFn (.pointer (some ⟨tb, 0, none⟩)))] : Array Value) ++ (#[] : Array Value)).extract 1 ((#[(.iface T_p_host_tapeFn (.pointer (some ⟨tb, 0, none⟩)))] : Array Value) ++ (#[] : Array Value)).size)) w = .ok (.enter host_tapeFn_Wants.id #[.pointer (some ⟨tb, 0, none⟩)]) w := by kernel_rfl
theorem call_tape (tb : Nat) (s p : Value) (w : World) : Sem.run Tryz.prog (Go.callMethod (.iface T_p_host_tapeFn (.pointer (some ⟨tb, 0, none⟩))) "Call" (((#[(.iface T_p_host_tapeFn (.pointer (some ⟨tb, 0, none⟩)))] : Array Value) ++ (#[s, p] : Array Value)).extract 1 ((#[(.iface T_p_host_tapeFn (.pointer (some ⟨tb, 0, none⟩)))] : Array Value) ++ (#[s, p] : Array Value)).size)) w = .ok (.enter host_tapeFn_Call.id #[.pointer (some ⟨tb, 0, none⟩), s, p]) w := by kernel_rfl
theorem call_zero (s p : Value) (w : World) : Sem.run Tryz.prog (Go.callMethod (.iface T_host_zeroFn (.agg #[])) "Call" (((#[(.iface T_host_zeroFn (.agg #[]))] : Array Value) ++ (#[s, p] : Array Value)).extract 1 ((#[(.iface T_host_zeroFn (.agg #[]))] : Array Value) ++ (#[s, p] : Array Value)).size)) w = .ok (.enter host_zeroFn_Call.id #[.agg #[], s, p]) w := by kernel_rfl
theorem call_size (s p : Value) (w : World) : Sem.run Tryz.prog (Go.callMethod (.iface T_host_sizeFn (.func (.func host_word.id) #[] #[])) "Call" (((#[(.iface T_host_sizeFn (.func (.func host_word.id) #[] #[]))] : Array Value) ++ (#[s, p] : Array Value)).extract 1 ((#[(.iface T_host_sizeFn (.func (.func host_word.id) #[] #[]))] : Array Value) ++ (#[s, p] : Array Value)).size)) w = .ok (.enter host_sizeFn_Call.id #[.func (.func host_word.id) #[] #[], s, p]) w := by kernel_rfl
section
variable {w w' : World} {hb : Nat} {F : List Nat} {h : HS}
/-- A function of the host answers. -/
theorem fn_spec (H : HoAt w hb F h) {kk : Nat} {x : TypeId × Value} (hx : FnAt w hb F kk x) (s : Option Addr) (l c : Nat) (pages : Int) (hp : 0 ≤ pages ∧ pages < 18446744073709551616) : ∃ (g : FuncId) (ars : Array Value), Sem.run Tryz.prog (Go.callMethod (.iface x.1 x.2) "Call" (((#[(.iface x.1 x.2)] : Array Value) ++ (#[.slice s l c, .int .i64 pages] : Array Value)).extract 1 ((#[(.iface x.1 x.2)] : Array Value) ++ (#[.slice s l c, .int .i64 pages] : Array Value)).size)) w = .ok (.enter g ars) w ∧
    Runs Tryz.prog g ars w fun v w' => Same [hb] w.heap.size w w' ∧ (
      (kk = 1 ∧ h.left = 0 ∧ v = .tuple #[.int .u64 0, .int .i64 47] ∧ HoAt w' hb F h) ∨ (kk = 1 ∧ h.left ≠ 0 ∧ v = .tuple #[.int .u64 (h.tape h.head), .int .i64 0] ∧ HoAt w' hb F h.took)
      ∨ (kk = 2 ∧ v = .tuple #[.int .u64 0, .int .i64 0] ∧ HoAt w' hb F h) ∨ (kk = 3 ∧ v = .tuple #[.int .u64 pages, .int .i64 0] ∧ HoAt w' hb F h)) := by
  rcases hx with ⟨rfl, tb, rfl, e3, e4⟩ | ⟨rfl, rfl⟩ | ⟨rfl, rfl⟩
  · refine ⟨_, _, call_tape tb _ _ w, ?_⟩
    refine host_tapeFn_Call.enter _ _ _ _ _ _ _ _ ?_
    unfold host_tapeFn_Call.V
    simp only [nilV_some]
    have ct : w.cell? ⟨tb, 0, none⟩ = some (.func (.func host_Host_take.id) #[.pointer (some ⟨hb, 0, none⟩)] #[]) := by simp [World.cell?, e4]
    refine ⟨_, ct, host_Host_take.id, #[.pointer (some ⟨hb, 0, none⟩)], #[], _, rfl, Tryz.func218, rfl, ?_⟩
    simp only [Array.append_empty]
    refine RunsQ.post (htake_spec H) ?_
    intro v w1 hv
    by_cases e : h.left = 0
    · rw [if_pos e] at hv
      obtain ⟨rfl, rfl⟩ := hv
      exact ⟨_, _, rfl, cond_true' rfl ⟨Same.refl _ _ _, .inl ⟨by trivial, e, by trivial, H⟩⟩⟩
    · rw [if_neg e] at hv
      obtain ⟨rfl, H1, S1⟩ := hv
      exact ⟨_, _, rfl, cond_false' rfl ⟨S1, .inr (.inl ⟨by trivial, e, by trivial, H1⟩)⟩⟩
  · refine ⟨_, _, call_zero _ _ w, ?_⟩
    refine host_zeroFn_Call.enter _ _ _ _ _ _ _ ?_
    unfold host_zeroFn_Call.V
    refine letB_intro fun b hb' => letW_intro fun w1 hw1 => ?_
    have S1 : Same [] w.heap.size w w1 := by rw [hw1]; exact (Same.refl _ _ _).alloc (Nat.le_refl _) _
    exact ⟨S1.mono (Nat.le_refl _) (by simp), .inr (.inr (.inl ⟨rfl, rfl, H.keep S1⟩))⟩
  · refine ⟨_, _, call_size _ _ w, ?_⟩
    refine host_sizeFn_Call.enter _ _ _ _ _ _ _ _ ?_
    unfold host_sizeFn_Call.V
    refine ⟨host_word.id, #[], #[], _, rfl, Tryz.func219, rfl, ?_⟩
    simp only [Array.empty_append, Array.append_empty]
    refine RunsQ.post (host_word.pure pages w) ?_
    rintro v w1 ⟨rfl, rfl⟩
    refine ⟨_, rfl, Same.refl _ _ _, .inr (.inr (.inr ⟨by trivial, ?_, H⟩))⟩
    show Value.tuple #[.int .u64 (IntKind.wrap .u64 pages), .int .i64 0] = _
    rw [wrap_u64 hp.1 (by omega)]
theorem Call_spec (H : HoAt w hb F h) {k n cd : Nat} {ad : Option Addr} {vs : Nat → Nat} (hk : k < h.n) (hr : h.rows < 12) (A : ArgA w (hb :: F) ad n vs) {want pages : Int} (hw : 0 ≤ want ∧ want ≤ 255) (hp : 0 ≤ pages ∧ pages < 1000) :
    Runs Tryz.prog host_Host_Call.id #[rp hb, .int .i64 (k : Int), .slice ad n cd, .int .u8 want, .int .i64 pages] w fun v w' => v = .tuple #[.int .u64 ((h.row k vs n).answer (h.k k) want pages).1, .int .i64 ((h.row k vs n).answer (h.k k) want pages).2.1] ∧
      ∃ F', HoAt w' hb F' ((h.row k vs n).answer (h.k k) want pages).2.2 ∧ Same (hb :: F) w.heap.size w w' ∧ ∀ d, d ∈ F' → d ∈ F ∨ w.heap.size ≤ d := by
  have n4 := A.n4
  have h4 := H.n4
  have htl := H.tl
  refine host_Host_Call.enter _ _ _ _ _ _ _ _ _ _ ?_
  unfold host_Host_Call.V
  refine letB_intro fun b8 hb8 => letW_intro fun w1 hw1 => ?_
  have S1 : Same [] w.heap.size w w1 := by rw [hw1]; exact (Same.refl _ _ _).alloc (Nat.le_refl _) _
  have z1 : w1.heap.size = w.heap.size + 1 := by rw [hw1]; simp
  have k8 : w1.cell? ⟨b8, 0, none⟩ = some (.slice ad n cd) := by rw [hw1, hb8, World.cell?_alloc_new]; rfl
  clear hw1
  have H1 := H.keep S1
  have l1 := H1.lt
  obtain ⟨a, cc, fns, b1, b2, b3, b4⟩ := H1.bd
  refine ⟨_, _, _, k8, cond_false' (decide_eq_false (by omega)) (cond_false' (decide_eq_false (by omega)) ?_)⟩
  simp only [nilV_some]
  refine ⟨_, _, _, b1, ?_⟩
  refine host_Host_Call.step1 _ _ _ _ _ _ _ _ _ ?_
  unfold host_Host_Call.V1
  refine cond_false' (decide_eq_false (by omega)) ?_
  simp only [nilV_some, Nat.zero_add]
  have er : IntKind.wrap .i64 ((h.rows : Int) + 1) = ((h.rows + 1 : Nat) : Int) := by rw [wrap_i64 (by omega) (by omega)]; omega
  refine ⟨_, H1.rw, cond_false' (decide_eq_false (by omega)) ⟨_, H1.rw, ⟨⟨_, H1.rw⟩, H1.fz 10⟩, letW_intro fun w2 hw2 => ?_⟩⟩
  rw [er] at hw2
  have S2 : Same [hb] w1.heap.size w1 w2 := by rw [hw2]; exact same_set _ _
  have c2 : ∀ j, w2.cell? ⟨hb, j, none⟩ = if j = 10 then some (.int .i64 ((h.rows + 1 : Nat) : Int)) else w1.cell? ⟨hb, j, none⟩ := fun j => by
    rw [hw2, cell_setCell]
    by_cases e : j = 10
    · subst e; rw [if_pos ⟨rfl, rfl⟩, if_pos rfl, H1.rw]; rfl
    · rw [if_neg (by omega), if_neg e]
  have f2 : ∀ j, w2.frozen? ⟨hb, j, none⟩ = false := fun j => by rw [hw2, World.frozen?_setCell]; exact H1.fz j
  clear hw2
  obtain ⟨ta, tc, t1, t2, t3⟩ := H1.tr
  have z2 := S2.size
  have nF : ∀ d, d ∈ F → d ≠ hb := fun d hd e => H.nF (e ▸ hd)
  have t2' := row_same t2 S2 (fun k hk => ⟨(t2.lt k hk).2, by simp; exact nF k (t3 k hk)⟩)
  have tF : ∀ d, d ∈ obk (.slice ta h.tr.length tc) → d ∈ F := fun d hd => t3 d (mem_obk.1 hd)
  refine ⟨_, _, _, by rw [c2, if_neg (by decide)]; exact t1, letB_intro fun b11 hb11 => letW_intro fun w3 hw3 => ?_⟩
  have ek : IntKind.wrap .u8 (IntKind.wrap .i64 ((48 : Int) + (k : Int))) = 48 + (k : Int) := by rw [wrap_i64 (by omega) (by omega), wrap_u8 (by omega) (by omega)]
  rw [ek] at hw3
  obtain ⟨a4, c4, w4, hr4, o4, S4, p4⟩ := row_apps t2' [32, 48 + (k : Int), 40] (by omega) (by simp) hb11 hw3
  refine ⟨a4, _, c4, w4, hr4, letB_intro fun b17 hb17 => letW_intro fun w5 hw5 => ?_⟩
  have z4 := S4.size
  have S5 : Same [] w4.heap.size w4 w5 := by rw [hw5]; exact (Same.refl _ _ _).alloc (Nat.le_refl _) _
  have z5 : w5.heap.size = w4.heap.size + 1 := by rw [hw5]; simp
  have c5 : w5.cell? ⟨b17, 0, none⟩ = some (.slice none 0 0) := by rw [hw5, hb17, World.cell?_alloc_new]; rfl
  have f5 : w5.frozen? ⟨b17, 0, none⟩ = false := by rw [hw5, hb17, World.frozen?_alloc_new]
  clear hw5
  refine ⟨⟨⟨_, c5⟩, f5⟩, letW_intro fun w6 hw6 => ?_⟩
  have S6 : Same [b17] w5.heap.size w5 w6 := by rw [hw6]; exact same_set _ _
  have c6 : w6.cell? ⟨b17, 0, none⟩ = some (.slice a4 (h.tr ++ [32, 48 + (k : Int), 40]).length c4) := by rw [hw6, cell_setCell, if_pos ⟨rfl, rfl⟩, c5]; rfl
  have f6 : w6.frozen? ⟨b17, 0, none⟩ = false := by rw [hw6, World.frozen?_setCell]; exact f5
  clear hw6
  have z6 := S6.size
  -- blocks
  have q4 : ∀ d, d ∈ obk (.slice a4 (h.tr ++ [32, 48 + (k : Int), 40]).length c4) → d ∈ F ∨ w2.heap.size ≤ d := fun d hd => (p4 d (mem_obk.1 hd)).imp (fun g => t3 d g) id
  have nb17 : ∀ d, d ∈ obk (.slice a4 (h.tr ++ [32, 48 + (k : Int), 40]).length c4) → d < w4.heap.size := fun d hd => (o4.lt d (mem_obk.1 hd)).2
  have o6 := row_same (row_keep o4 S5) S6 (fun d hd => ⟨by have := nb17 d (mem_obk.2 hd); omega, fun q => by simp at q; have := nb17 d (mem_obk.2 hd); omega⟩)
  have T16 : Same (hb :: F) w1.heap.size w1 w6 := by
    have a1 : Same (hb :: F) w1.heap.size w1 w2 := S2.mono (Nat.le_refl _) (fun d hd _ => by simp at hd; subst hd; simp)
    have a2 := a1.trans (S4.mono z2 (fun d hd _ => List.mem_cons_of_mem _ (tF d hd)))
    have a3 := a2.trans (S5.mono (by omega) (by simp))
    exact a3.trans (S6.mono (by omega) (fun d hd hl => by simp at hd; omega))
  have T06 : Same (hb :: F) w.heap.size w w6 := (S1.mono (Nat.le_refl _) (by simp)).trans (T16.mono (by omega) (fun d hd _ => hd))
  have lb8 : b8 < w1.heap.size := by omega
  have n8 : b8 ∉ hb :: F := fun q => by
    simp only [List.mem_cons] at q
    rcases q with q | q
    · have := H.lt; omega
    · have := H.lF b8 q; omega
  have k8' : w6.cell? ⟨b8, 0, none⟩ = some (.slice ad n cd) := by rw [T16.cell (p := ⟨b8, 0, none⟩) lb8 n8]; exact k8
  have A6 : ArgA w6 (b17 :: obk (.slice a4 (h.tr ++ [32, 48 + (k : Int), 40]).length c4)) ad n vs := by
    refine ⟨fun h0 => ?_, A.v, A.n4⟩
    obtain ⟨ab, ao, e, l, x, c⟩ := A.c h0
    refine ⟨ab, ao, e, by omega, fun q => ?_, fun j hj => by rw [T06.cell (p := ⟨ab, ao + j, none⟩) l x]; exact c j hj⟩
    simp only [List.mem_cons] at q x
    rcases q with q | q
    · omega
    · rcases q4 ab q with g | g
      · exact x (.inr g)
      · omega
  refine ⟨_, Tryz.func161, rfl, ?_⟩
  simp only [Array.empty_append]
  have hl3 : (h.tr ++ [32, 48 + (k : Int), 40]).length ≤ 900 := by rw [List.length_append]; simp; omega
  refine RunsQ.post (Call1_spec k8' c6 f6 o6 A6 (by omega) (fun q => by have := nb17 b17 q; omega)) ?_
  rintro v w7 ⟨rfl, a7, c7, k7, o7, S7, p7⟩
  have z7 := S7.size
  have hl7 : (h.tr ++ [32, 48 + (k : Int), 40] ++ argT vs n).length ≤ 1000 := by rw [List.length_append, argT_len]; omega
  refine ⟨_, _, _, k7, letB_intro fun b25 hb25 => letW_intro fun w8 hw8 => ?_⟩
  obtain ⟨a9, c9, w9, hr9, o9, S9, p9⟩ := row_apps o7 [41] (by omega) (by simp) hb25 hw8
  have z9 := S9.size
  refine ⟨a9, _, c9, w9, hr9, ?_⟩
  have q7 : ∀ d, d ∈ obk (.slice a7 (h.tr ++ [32, 48 + (k : Int), 40] ++ argT vs n).length c7) → d ∈ F ∨ w2.heap.size ≤ d := fun d hd => by
    rcases p7 d (mem_obk.1 hd) with g | g
    · exact q4 d (mem_obk.2 g)
    · exact .inr (by omega)
  have q9 : ∀ d, (Value.slice a9 (h.tr ++ [32, 48 + (k : Int), 40] ++ argT vs n ++ [41]).length c9).ownBlock = some d → d ∈ F ∨ w2.heap.size ≤ d := fun d hd => by
    rcases p9 d hd with g | g
    · exact q7 d (mem_obk.2 g)
    · exact .inr (by omega)
  have T19 : Same (hb :: F) w1.heap.size w1 w9 := by
    have a1 := T16.trans (S7.mono T16.size (fun d hd hl => by
      simp only [List.mem_cons] at hd
      rcases hd with rfl | hd
      · omega
      · rcases q4 d hd with g | g
        · exact List.mem_cons_of_mem _ g
        · omega))
    exact a1.trans (S9.mono (by omega) (fun d hd hl => by
      rcases q7 d hd with g | g
      · exact List.mem_cons_of_mem _ g
      · omega))
  -- what the host's own cells are
  have tb2 : ∀ d, d ∈ hb :: (obk (.slice ta h.tr.length tc)) → True := fun _ _ => trivial
  have e29 : Same (b17 :: (obk (.slice ta h.tr.length tc))) w2.heap.size w2 w9 := by
    have a1 : Same (b17 :: (obk (.slice ta h.tr.length tc))) w2.heap.size w2 w4 := S4.mono (Nat.le_refl _) (fun d hd _ => List.mem_cons_of_mem _ hd)
    have a2 := a1.trans (S5.mono (by omega) (by simp))
    have a3 := a2.trans (S6.mono (by omega) (fun d hd _ => by simp at hd; subst hd; simp))
    have a4 := a3.trans (S7.mono (by omega) (fun d hd hl => by
      simp only [List.mem_cons] at hd ⊢
      rcases hd with rfl | hd
      · exact .inl rfl
      · rcases p4 d (mem_obk.1 hd) with g | g
        · exact .inr (mem_obk.2 g)
        · omega))
    exact a4.trans (S9.mono (by omega) (fun d hd hl => by
      rcases p7 d (mem_obk.1 hd) with g | g
      · rcases p4 d g with g | g
        · exact List.mem_cons_of_mem _ (mem_obk.2 g)
        · omega
      · omega))
  have l2 : hb < w2.heap.size := by omega
  have nh : hb ∉ b17 :: (obk (.slice ta h.tr.length tc)) := fun q => by
    simp only [List.mem_cons] at q
    rcases q with q | q
    · omega
    · exact nF hb (tF hb q) rfl
  have c9' : ∀ j, w9.cell? ⟨hb, j, none⟩ = w2.cell? ⟨hb, j, none⟩ := fun j => e29.cell (p := ⟨hb, j, none⟩) l2 nh
  have f9 : ∀ j, w9.frozen? ⟨hb, j, none⟩ = false := fun j => by rw [e29.frozen (p := ⟨hb, j, none⟩) l2 nh]; exact f2 j
  refine ⟨⟨⟨_, by rw [c9', c2, if_neg (by decide)]; exact t1⟩, f9 9⟩, letW_intro fun w10 hw10 => ?_⟩
  have S10 : Same [hb] w9.heap.size w9 w10 := by rw [hw10]; exact same_set _ _
  have c10 : ∀ j, w10.cell? ⟨hb, j, none⟩ = if j = 9 then some (.slice a9 (h.tr ++ [32, 48 + (k : Int), 40] ++ argT vs n ++ [41]).length c9) else w2.cell? ⟨hb, j, none⟩ := fun j => by
    rw [hw10, cell_setCell]
    by_cases e : j = 9
    · subst e; rw [if_pos ⟨rfl, rfl⟩, if_pos rfl, c9', c2, if_neg (by decide), t1]; rfl
    · rw [if_neg (by omega), if_neg e, c9']
  have f10 : ∀ j, w10.frozen? ⟨hb, j, none⟩ = false := fun j => by rw [hw10, World.frozen?_setCell]; exact f9 j
  clear hw10
  have z10 := S10.size
  have T110 : Same (hb :: F) w1.heap.size w1 w10 := T19.trans (S10.mono T19.size (fun d hd _ => by simp at hd; subst hd; simp))
  have T010 : Same (hb :: F) w.heap.size w w10 := (S1.mono (Nat.le_refl _) (by simp)).trans (T110.mono (by omega) (fun d hd _ => hd))
  -- the rows that stay
  have e110 : Same (hb :: b17 :: (obk (.slice ta h.tr.length tc))) w1.heap.size w1 w10 := by
    have a1 : Same (hb :: b17 :: (obk (.slice ta h.tr.length tc))) w1.heap.size w1 w2 := S2.mono (Nat.le_refl _) (fun d hd _ => by simp at hd; subst hd; simp)
    have a2 := a1.trans (e29.mono z2 (fun d hd _ => List.mem_cons_of_mem _ hd))
    exact a2.trans (S10.mono (by omega) (fun d hd _ => by simp at hd; subst hd; simp))
  have hne := ne_obk t2 b2 (by decide)
  have H10 : HoAt w10 hb (F ++ obk (.slice a9 (h.tr ++ [32, 48 + (k : Int), 40] ++ argT vs n ++ [41]).length c9)) (h.row k vs n) := by
    refine ⟨⟨a, cc, fns, by rw [c10, if_neg (by decide), c2, if_neg (by decide)]; exact b1, row_same b2 e110 (fun d hd => ⟨(b2.lt d hd).2, fun q => ?_⟩), fun d hd => List.mem_append_left _ (b3 d hd), fun j hj => ?_⟩, fun j hj => by rw [c10, if_neg (by omega), c2, if_neg (by omega)]; exact H1.tp j hj, by rw [c10, if_neg (by decide), c2, if_neg (by decide)]; exact H1.hd, by rw [c10, if_neg (by decide), c2, if_neg (by decide)]; exact H1.lf, ⟨a9, c9, by rw [c10, if_pos rfl]; rfl, row_same o9 S10 (fun d hd => ⟨(o9.lt d hd).2, fun q => ?_⟩), fun d hd => List.mem_append_right _ (mem_obk.2 hd)⟩, by rw [c10, if_neg (by decide), c2, if_pos rfl]; rfl, f10, fun q => ?_, fun d hd => ?_, H1.le, H1.n4, H1.tw, by show h.rows + 1 ≤ 12; omega, ?_⟩
    · simp only [List.mem_cons] at q
      rcases q with rfl | q | q
      · exact nF _ (b3 _ hd) rfl
      · have := (b2.lt d hd).2; omega
      · exact (hne d hd).2 q
    · have q := b4 j hj
      rcases q with ⟨e1, tb, e2, e3, e4⟩ | q | q
      · refine .inl ⟨e1, tb, e2, List.mem_append_left _ e3, ?_⟩
        rw [e110.block tb (H1.lF tb e3) ?_]
        · exact e4
        · simp only [List.mem_cons]
          rintro (rfl | rfl | q)
          · exact nF _ e3 rfl
          · have := H1.lF _ e3; omega
          · obtain ⟨cu, q2⟩ := row_heap t2 (mem_obk.1 q)
            rw [e4] at q2; injection q2 with q2; injection q2 with q3 q4 q5; exact absurd q4 (by decide)
      · exact .inr (.inl q)
      · exact .inr (.inr q)
    · simp at q; subst q
      rcases q9 _ hd with g | g
      · exact nF _ g rfl
      · omega
    · simp only [List.mem_append] at q
      rcases q with q | q
      · exact nF _ q rfl
      · rcases q9 _ (mem_obk.1 q) with g | g
        · exact nF _ g rfl
        · omega
    · simp only [List.mem_append] at hd
      rcases hd with q | q
      · have := H1.lF d q; omega
      · have := (o9.lt d (mem_obk.1 q)).2; omega
    · show (h.tr ++ [32, 48 + (k : Int), 40] ++ argT vs n ++ [41]).length ≤ 72 * (h.rows + 1)
      rw [List.length_append, List.length_append, List.length_append, argT_len]
      simp
      omega
  have dF : ∀ d, d ∈ F ++ obk (.slice a9 (h.tr ++ [32, 48 + (k : Int), 40] ++ argT vs n ++ [41]).length c9) → d ∈ F ∨ w.heap.size ≤ d := fun d hd => by
    simp only [List.mem_append] at hd
    rcases hd with q | q
    · exact .inl q
    · rcases q9 d (mem_obk.1 q) with g | g
      · exact .inl g
      · exact .inr (by omega)
  have k10 : w10.cell? ⟨b8, 0, none⟩ = some (.slice ad n cd) := by rw [T110.cell (p := ⟨b8, 0, none⟩) lb8 n8]; exact k8
  generalize F ++ obk (.slice a9 (h.tr ++ [32, 48 + (k : Int), 40] ++ argT vs n ++ [41]).length c9) = F1 at H10 dF
  clear e110 c10 f10 S10 hne c9' f9 e29 T19 q9 q7 o9 S9 p9 o7 S7 p7 k7 A6 k8' T06 T16 o6 q4 nb17 S6 c6 f6 S5 c5 f5 o4 S4 p4
  obtain ⟨ba, bc, bf, d1, d2, d3, d4⟩ := H10.bd
  obtain ⟨bb, rfl, _, lbb, brow⟩ := row_at (sz := 1) (fun _ => rfl) d2 (show k < h.n from hk)
  have cr := brow 0 _ (show (fnC (bf k))[0]? = some (.iface (bf k).1 (bf k).2) from rfl)
  have fk : FnAt w10 hb F1 (h.k k) (bf k) := d4 k hk
  refine ⟨_, _, _, d1, ⟨by omega, by show (k : Int) < ((h.n : Nat) : Int); omega⟩, ?_⟩
  simp only [nilV_some, add_mk, Nat.zero_add, Int.toNat_natCast]
  refine ⟨_, _, cr, ?_⟩
  -- how the answer goes home
  have L3 : ∀ (v e : Int) (t : Bool) (w1 : World) (h1 : HS), t = decide (e ≠ 0 ∨ want = 0) → 0 ≤ v ∧ v < 18446744073709551616 → HoAt w1 hb F1 h1 → Same (hb :: F) w.heap.size w w1 → (if e ≠ 0 ∨ want = 0 then (0, e, h1) else (cut want v, 0, h1)) = (h.row k vs n).answer (h.k k) want pages →
      host_Host_Call.L3 want v e t (fun v w' => v = .tuple #[.int .u64 ((h.row k vs n).answer (h.k k) want pages).1, .int .i64 ((h.row k vs n).answer (h.k k) want pages).2.1] ∧ ∃ F', HoAt w' hb F' ((h.row k vs n).answer (h.k k) want pages).2.2 ∧ Same (hb :: F) w.heap.size w w' ∧ ∀ d, d ∈ F' → d ∈ F ∨ w.heap.size ≤ d) (fun _ _ => False) w1 := fun v e t w1 h1 ht hv H1 S1 ha => by
    refine host_Host_Call.step3 _ _ _ _ _ _ _ ?_
    unfold host_Host_Call.V3
    by_cases he : e ≠ 0 ∨ want = 0
    · rw [if_pos he] at ha
      refine cond_true' (by rw [ht]; exact decide_eq_true he) ?_
      rw [← ha]
      exact ⟨rfl, F1, H1, S1, dF⟩
    · rw [if_neg he] at ha
      refine cond_false' (by rw [ht]; exact decide_eq_false he) (RunsQ.post (Cut_spec want v w1 hv.1 hv.2) ?_)
      rintro r w2 ⟨rfl, rfl⟩
      rw [← ha]
      exact ⟨_, rfl, rfl, F1, H1, S1, dF⟩
  have L2 : (want = 0 → h.k k ≠ 1) → host_Host_Call.L2 want pages b8 (bf k).1 (bf k).2 false (fun v w' => v = .tuple #[.int .u64 ((h.row k vs n).answer (h.k k) want pages).1, .int .i64 ((h.row k vs n).answer (h.k k) want pages).2.1] ∧ ∃ F', HoAt w' hb F' ((h.row k vs n).answer (h.k k) want pages).2.2 ∧ Same (hb :: F) w.heap.size w w' ∧ ∀ d, d ∈ F' → d ∈ F ∨ w.heap.size ≤ d) (fun _ _ => False) w10 := fun hw1 => by
    refine host_Host_Call.step2 _ _ _ _ _ _ _ _ _ ?_
    unfold host_Host_Call.V2
    obtain ⟨g, ars, hrun, hcall⟩ := fn_spec H10 fk ad n cd pages ⟨hp.1, by omega⟩
    refine cond_false' rfl ⟨_, _, _, k10, g, ars, hrun, RunsQ.post hcall ?_⟩
    rintro v w11 ⟨S11, hv⟩
    have T : Same (hb :: F) w.heap.size w w11 := T010.trans (S11.mono T010.size (fun d hd _ => by simp at hd; subst hd; simp))
    have go : ∀ (x e : Int) (h1 : HS), 0 ≤ x ∧ x < 18446744073709551616 → HoAt w11 hb F1 h1 → (if e ≠ 0 ∨ want = 0 then (0, e, h1) else (cut want x, 0, h1)) = (h.row k vs n).answer (h.k k) want pages → (cond (e != 0) (host_Host_Call.L3 want x e true (fun v w' => v = .tuple #[.int .u64 ((h.row k vs n).answer (h.k k) want pages).1, .int .i64 ((h.row k vs n).answer (h.k k) want pages).2.1] ∧ ∃ F', HoAt w' hb F' ((h.row k vs n).answer (h.k k) want pages).2.2 ∧ Same (hb :: F) w.heap.size w w' ∧ ∀ d, d ∈ F' → d ∈ F ∨ w.heap.size ≤ d) (fun _ _ => False) w11)
        (host_Host_Call.L3 want x e (want == 0) (fun v w' => v = .tuple #[.int .u64 ((h.row k vs n).answer (h.k k) want pages).1, .int .i64 ((h.row k vs n).answer (h.k k) want pages).2.1] ∧ ∃ F', HoAt w' hb F' ((h.row k vs n).answer (h.k k) want pages).2.2 ∧ Same (hb :: F) w.heap.size w w' ∧ ∀ d, d ∈ F' → d ∈ F ∨ w.heap.size ≤ d) (fun _ _ => False) w11)) := fun x e h1 hx H1 ha => by
      refine cond_intro (fun q => L3 x e true w11 h1 ?_ hx H1 T ha) (fun q => L3 x e _ w11 h1 ?_ hx H1 T ha)
      · have q : e ≠ 0 := by simpa using q
        rw [decide_eq_true (.inl q)]
      · have q : e = 0 := by simpa using q
        by_cases e0 : want = 0
        · rw [decide_eq_true (.inr e0)]; simpa using e0
        · rw [decide_eq_false (by omega)]; simpa using e0
    have tw := H10.tw
    rcases hv with ⟨e1, e2, rfl, Hn⟩ | ⟨e1, e2, rfl, Hn⟩ | ⟨e1, rfl, Hn⟩ | ⟨e1, rfl, Hn⟩
    · refine ⟨_, _, rfl, go 0 47 _ (by omega) Hn ?_⟩
      unfold HS.answer
      rw [if_pos (.inl (by decide)), if_pos e1]
      have : want ≠ 0 := fun q => hw1 q e1
      rw [if_neg this, if_pos e2]
    · have hw2 : want ≠ 0 := fun q => hw1 q e1
      have ha : (h.row k vs n).answer (h.k k) want pages = (cut want ((h.row k vs n).tape (h.row k vs n).head), 0, (h.row k vs n).took) := by unfold HS.answer; rw [if_pos e1, if_neg hw2, if_neg e2]
      refine ⟨_, _, rfl, go _ 0 _ (tw _) Hn ?_⟩
      rw [ha, if_neg (by omega)]
    · have ha : (h.row k vs n).answer (h.k k) want pages = (0, 0, h.row k vs n) := by unfold HS.answer; rw [if_neg (by omega), if_pos e1]
      refine ⟨_, _, rfl, go 0 0 _ (by omega) Hn ?_⟩
      rw [ha]
      by_cases q : want = 0
      · rw [if_pos (.inr q)]
      · rw [if_neg (by omega)]
        have : cut want 0 = 0 := by unfold cut; split <;> rfl
        rw [this]
    · have ha : (h.row k vs n).answer (h.k k) want pages = if want = 0 then (0, 0, h.row k vs n) else (cut want pages, 0, h.row k vs n) := by unfold HS.answer; rw [if_neg (by omega), if_neg (by omega)]
      refine ⟨_, _, rfl, go pages 0 _ ⟨hp.1, by omega⟩ Hn ?_⟩
      rw [ha]
      by_cases q : want = 0
      · rw [if_pos (.inr q), if_pos q]
      · rw [if_neg (by omega), if_neg q]
  rcases fk with ⟨e1, tb, e2, e3, e4⟩ | ⟨e1, e2⟩ | ⟨e1, e2⟩
  · rw [e2] at L2 ⊢
    refine ⟨_, _, _, want_tape tb w10, cond_true' rfl (cond_intro (fun q => ?_) (fun q => ?_))⟩
    · have q : want = 0 := eq_of_beq q
      refine ⟨_, _, wants_tape tb w10, RunsQ.post (host_tapeFn_Wants.pure _ w10) ?_⟩
      rintro v w11 ⟨rfl, rfl⟩
      refine ⟨_, rfl, ?_⟩
      refine host_Host_Call.step2 _ _ _ _ _ _ _ _ _ ?_
      unfold host_Host_Call.V2
      refine cond_true' rfl ⟨?_, F1, ?_, T010, dF⟩
      · unfold HS.answer; rw [if_pos e1, if_pos q]
      · unfold HS.answer; rw [if_pos e1, if_pos q]; exact H10
    · have q : ¬ want = 0 := by simpa using q
      exact L2 (fun z => absurd z q)
  · rw [e2] at L2 ⊢
    exact ⟨_, _, _, want_zero w10, cond_false' rfl (L2 (fun _ => by omega))⟩
  · rw [e2] at L2 ⊢
    exact ⟨_, _, _, want_size w10, cond_false' rfl (L2 (fun _ => by omega))⟩
end
end Go.Proofs.Qxb6500317aGreat
