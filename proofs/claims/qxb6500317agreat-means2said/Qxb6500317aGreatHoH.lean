/-
  The host: Show.
-/
import Derived.Test.Qxb6500317aGreatHoG
import Derived.Lib.SlBytesConst
set_option linter.unusedSimpArgs false
set_option linter.unusedVariables false
set_option maxRecDepth 100000
set_option linter.unusedSectionVars false
set_option maxHeartbeats 1000000
namespace Go.Proofs.Qxb6500317aGreat
open Go Go.Vc

/-- A row in a marked block, full: the next append lays a new one. -/
structure Txt0 (w0 w : World) (a : Option Addr) (c : Nat) (l : List Int) : Prop where
  S : Same [] w0.heap.size w0 w
  r : ∃ g, a = some ⟨g, 0, none⟩ ∧ c = l.length ∧ ∀ j v, (tbs l)[j]? = some v → w.cell? ⟨g, j, none⟩ = some v
theorem Txt0.more {w0 w : World} {a : Option Addr} {c : Nat} {l : List Int} (h : Txt0 w0 w a c l) {tx : TypeId} {x : Value} (us : List Int) (hs : Src Tryz.prog 1 tx x us.length (tbs us) w) (h0 : 0 < us.length) (hl : l.length ≤ 10000) (hm : us.length ≤ 1000) :
    ∃ (a' : Option Addr) (c' : Nat) (w2 : World), Sem.run Tryz.prog (Builtin.append_ #[T_sl_uint8, tx] T_sl_uint8 #[.slice a l.length c, x]) w = .ok (.slice a' (l ++ us).length c') w2 ∧ Txt1 w0 w2 a' c' (l ++ us) := by
  have hE := T_sl_uint8.el
  obtain ⟨g, rfl, rfl, hc⟩ := h.r
  have hold : (Builtin.firstCells 1 l.length (.slice (some ⟨g, 0, none⟩) l.length l.length)).run Tryz.prog w.drew = .ok (tbs l).toArray w.drew :=
    run_firstCells_some w.drew 1 l.length ⟨g, 0, none⟩ _ _ (tbs l) (by rw [tbs_len, Nat.mul_one]) (fun j v hj => by rw [add_mk, Nat.zero_add]; exact hc j v hj)
  have hr := run_append_grow_src (P := Tryz.prog) w T_sl_uint8 tx T_sl_uint8 T_uint8 _ _ hE.ht hE.hi hE.hz (some ⟨g, 0, none⟩) l.length l.length (tbs l) (by rw [hE.hsize]; exact hold) x us.length (tbs us) (by rw [hE.hsize]; exact hs) (by omega) (by omega) (growslice_fits (by omega) (by rw [hE.hby]; omega))
  rw [List.length_append]
  refine ⟨_, _, _, hr, ⟨?_, ?_⟩⟩
  · rw [List.length_append]
    refine ⟨by rw [tbs_len, List.length_append, Nat.mul_one], .inr ⟨_, _, _, rfl, h.S.size, heap_alloc_new w.drew _, grownCap_ge _ _ _ _, grownCap_le_maxLen _ _ _ _ (by simp only [maxLen]; omega), ?_, ?_⟩⟩
    · have hzs := hE.hzs
      have hge := grownCap_ge w (l.length + us.length) l.length T_uint8
      simp only [Array.size_append, List.size_toArray, List.length_append, tbs_len, size_zeroCells, hzs]
      omega
    · rw [Nat.mul_one, tbs_app, Array.toList_append]
      exact List.take_left' (by rw [List.length_append, tbs_len, tbs_len])
  · exact h.S.trans ((Same.refl [] w.heap.size w).drew.alloc (Nat.le_refl _) _ |>.mono h.S.size (by simp))
theorem Txt0.push {w0 w : World} {a : Option Addr} {c : Nat} {l : List Int} (h : Txt0 w0 w a c l) (us : List Int) (h0 : 0 < us.length) (hl : l.length ≤ 10000) (hm : us.length ≤ 1000) {b : Nat} {w1 : World} (hb : b = w.heap.size) (hw : w1 = w.alloc (.cells (tbs us).toArray T_uint8)) :
    ∃ (a' : Option Addr) (c' : Nat) (w2 : World), Sem.run Tryz.prog (Builtin.append_ #[T_sl_uint8, T_sl_uint8] T_sl_uint8 #[.slice a l.length c, .slice (some ⟨b, 0, none⟩) us.length us.length]) w1 = .ok (.slice a' (l ++ us).length c') w2 ∧ Txt1 w0 w2 a' c' (l ++ us) := by
  have h1 : Txt0 w0 w1 a c l := by
    refine ⟨?_, ?_⟩
    · rw [hw]; exact h.S.alloc h.S.size _
    · obtain ⟨g, rfl, rfl, hc⟩ := h.r
      exact ⟨g, rfl, rfl, fun j v hj => by rw [hw]; exact Lib.cell?_alloc_marked _ (hc j v hj)⟩
  refine h1.more us (Src.ofSlice w1 T_sl_uint8.el.ht ⟨b, 0, none⟩ _ _ _ (by rw [tbs_len, Nat.mul_one]) (fun j v hj => ?_) tbs_one) h0 hl hm
  rw [hw, hb, add_mk, Nat.zero_add, World.cell?_alloc_new]; simpa using hj
theorem Txt0.str {w0 w : World} {a : Option Addr} {c : Nat} {l : List Int} (h : Txt0 w0 w a c l) (us : List Int) (h0 : 0 < us.length) (hu : ∀ x, x ∈ us → 0 ≤ x ∧ x < 256) (hl : l.length ≤ 10000) (hm : us.length ≤ 1000) :
    ∃ (a' : Option Addr) (c' : Nat) (w2 : World), Sem.run Tryz.prog (Builtin.append_ #[T_sl_uint8, T_string] T_sl_uint8 #[.slice a l.length c, .string (strOfNums us)]) w = .ok (.slice a' (l ++ us).length c') w2 ∧ Txt1 w0 w2 a' c' (l ++ us) := by
  have hs := Src.ofString (P := Tryz.prog) w (tx := T_string) (by kernel_rfl) (strOfNums us)
  have e1 : byteCells (strOfNums us) = tbs us := strCells_tbs us hu
  rw [strOfNums_size, e1] at hs
  exact h.more us hs h0 hl hm
theorem cell_marked (w : World) (C : Array Value) (e : TypeId) (f : Nat × Nat) (j : Nat) : (w.alloc (.cells C e f)).cell? ⟨w.heap.size, j, none⟩ = C[j]? := by
  have : (w.alloc (.cells C e f)).heap[w.heap.size]? = some (.cells C e f) := heap_alloc_new w _
  unfold World.cell?
  simp only [this]
  rfl
def Txt2 (w0 w : World) (a : Option Addr) (c : Nat) (l : List Int) : Prop := Txt0 w0 w a c l ∨ Txt1 w0 w a c l
theorem Txt2.S {w0 w : World} {a : Option Addr} {c : Nat} {l : List Int} (h : Txt2 w0 w a c l) : Same [] w0.heap.size w0 w := by
  rcases h with h | h
  · exact h.S
  · exact h.S
theorem Txt2.push {w0 w : World} {a : Option Addr} {c : Nat} {l : List Int} (h : Txt2 w0 w a c l) (us : List Int) (h0 : 0 < us.length) (hl : l.length ≤ 10000) (hm : us.length ≤ 1000) {b : Nat} {w1 : World} (hb : b = w.heap.size) (hw : w1 = w.alloc (.cells (tbs us).toArray T_uint8)) :
    ∃ (a' : Option Addr) (c' : Nat) (w2 : World), Sem.run Tryz.prog (Builtin.append_ #[T_sl_uint8, T_sl_uint8] T_sl_uint8 #[.slice a l.length c, .slice (some ⟨b, 0, none⟩) us.length us.length]) w1 = .ok (.slice a' (l ++ us).length c') w2 ∧ Txt1 w0 w2 a' c' (l ++ us) := by
  rcases h with h | h
  · exact h.push us h0 hl hm hb hw
  · exact h.push us hl hm hb hw
theorem Txt2.str {w0 w : World} {a : Option Addr} {c : Nat} {l : List Int} (h : Txt2 w0 w a c l) (us : List Int) (h0 : 0 < us.length) (hu : ∀ x, x ∈ us → 0 ≤ x ∧ x < 256) (hl : l.length ≤ 10000) (hm : us.length ≤ 1000) :
    ∃ (a' : Option Addr) (c' : Nat) (w2 : World), Sem.run Tryz.prog (Builtin.append_ #[T_sl_uint8, T_string] T_sl_uint8 #[.slice a l.length c, .string (strOfNums us)]) w = .ok (.slice a' (l ++ us).length c') w2 ∧ Txt1 w0 w2 a' c' (l ++ us) := by
  rcases h with h | h
  · exact h.str us h0 hu hl hm
  · exact h.str us hu hl hm
theorem row_str {w : World} {B : Nat} {a : Option Addr} {c : Nat} {l : List Int} (h : w.ownsRow B T_uint8 1 (.slice a l.length c) l.length (tbs l)) (h0 : l.length ≠ 0) : Sem.run Tryz.prog (Go.convert T_sl_uint8 T_string (.slice a l.length c)) w = .ok (.string (strOfNums l)) w := by
  obtain ⟨g, rfl, _, _, _, hc⟩ := row_get h h0
  refine run_convert_bytes_arg w T_sl_uint8 T_uint8 (by kernel_rfl) (by kernel_rfl) g 0 l.length c l rfl (fun j hj => ?_) T_string (by kernel_rfl)
  rw [Nat.zero_add]
  refine hc j _ ?_
  unfold tbs
  rw [List.getElem?_map, List.getD_eq_getElem?_getD, List.getElem?_eq_getElem hj]
  rfl
theorem hShow_spec {w : World} {hb : Nat} {F : List Nat} {h : HS} (H : HoAt w hb F h) : Runs Tryz.prog host_Host_Show.id #[rp hb] w fun v w' => v = .string (strOfNums h.show) ∧ Same [] w.heap.size w w' := by
  have n4 := H.n4
  have hle := H.le
  have htl := H.tl
  have hrk := H.rk
  refine host_Host_Show.enter _ _ _ _ ?_
  unfold host_Host_Show.V
  refine letB_intro fun b2 hb2 => letW_intro fun w3 hw3 => ?_
  have hcv := Lib.run_convert_bytes_const (P := Tryz.prog) w T_sl_uint8 T_uint8 #[(.int .u8 98), (.int .u8 111), (.int .u8 117), (.int .u8 110), (.int .u8 100)] 5 5 T_sl_uint8.el.ht (by kernel_rfl)
  rw [← hw3, ← hb2] at hcv
  refine ⟨_, _, _, _, hcv, ?_⟩
  obtain ⟨w4, hw4⟩ : ∃ w4, w4 = w.alloc (.cells #[(.int .u8 98), (.int .u8 111), (.int .u8 117), (.int .u8 110), (.int .u8 100)] T_uint8 (5, 6)) := ⟨_, rfl⟩
  have S3 : Same [] w.heap.size w w4 := by rw [hw4]; exact (Same.refl _ _ _).alloc (Nat.le_refl _) _
  have T3 : Txt0 w w4 (some ⟨b2, 0, none⟩) 5 [98, 111, 117, 110, 100] := ⟨S3, b2, rfl, rfl, fun j v hj => by rw [hw4, hb2, cell_marked]; simpa [tbs] using hj⟩
  show nilV _ fun a8 => _
  rw [show w.alloc (.cells #[(.int .u8 98), (.int .u8 111), (.int .u8 117), (.int .u8 110), (.int .u8 100)] T_uint8 ((#[(Value.int .u8 98), (.int .u8 111), (.int .u8 117), (.int .u8 110), (.int .u8 100)] : Array Value).size, (#[(Value.int .u8 98), (.int .u8 111), (.int .u8 117), (.int .u8 110), (.int .u8 100)] : Array Value).size + 1)) = w4 from hw4.symm]
  clear hw3 hcv hw4
  simp only [nilV_some]
  obtain ⟨a, cc, fns, b1, b2', b3, b4⟩ := (H.keep S3).bd
  refine ⟨_, _, _, b1, ?_⟩
  -- the trace
  have fin : ∀ (w1 : World) (a1 : Option Addr) (c1 : Nat), Txt1 w w1 a1 c1 ([98, 111, 117, 110, 100] ++ kindsT h.k h.n ++ [32, 116, 97, 112, 101] ++ wordsT h.tape h.head h.left) →
      (∃ x15 : Option Addr, ∃ x16 : Nat, ∃ x17 : Nat, ∃ w14, Sem.run Tryz.prog (Builtin.append_ #[T_sl_uint8, T_string] T_sl_uint8 #[(.slice a1 ([98, 111, 117, 110, 100] ++ kindsT h.k h.n ++ [32, 116, 97, 112, 101] ++ wordsT h.tape h.head h.left).length c1), (.string ⟨#[32, 116, 114, 97, 99, 101]⟩)]) w1 = .ok (.slice x15 x16 x17) w14 ∧ (∃ x19 : Option Addr, ∃ x20 : Nat, ∃ x21 : Nat, World.cell? w14 ⟨hb, 9, none⟩ = some (.slice x19 x20 x21) ∧ (∃ x23 : Option Addr, ∃ x24 : Nat, ∃ x25 : Nat, ∃ w22, Sem.run Tryz.prog (Builtin.append_ #[T_sl_uint8, T_sl_uint8] T_sl_uint8 #[(.slice x15 x16 x17), (.slice x19 x20 x21)]) w14 = .ok (.slice x23 x24 x25) w22 ∧ (∃ x27 : ByteArray, ∃ w26, Sem.run Tryz.prog (Go.convert T_sl_uint8 T_string (.slice x23 x24 x25)) w22 = .ok (.string x27) w26 ∧ (((Value.string x27) = .string (strOfNums h.show) ∧ Same [] w.heap.size w w26)))))) := fun w1 a1 c1 T1 => by
    have hl : ([98, 111, 117, 110, 100] ++ kindsT h.k h.n ++ [32, 116, 97, 112, 101] ++ wordsT h.tape h.head h.left).length ≤ 1000 := by
      rw [List.length_append, List.length_append, List.length_append, kindsT_len, wordsT_len]; simp; omega
    have hsh : h.show = [98, 111, 117, 110, 100] ++ kindsT h.k h.n ++ [32, 116, 97, 112, 101] ++ wordsT h.tape h.head h.left ++ [32, 116, 114, 97, 99, 101] ++ h.tr := rfl
    rw [hsh]
    generalize [98, 111, 117, 110, 100] ++ kindsT h.k h.n ++ [32, 116, 97, 112, 101] ++ wordsT h.tape h.head h.left = l at T1 hl
    obtain ⟨a2, c2, w2, hr2, T2⟩ := T1.str [32, 116, 114, 97, 99, 101] (by intro x hx; simp at hx; omega) (by omega) (by simp)
    obtain ⟨ta, tc, t1, t2, t3⟩ := (H.keep T2.S).tr
    refine ⟨a2, _, c2, w2, hr2, ta, _, tc, t1, ?_⟩
    have hl2 : (l ++ [32, 116, 114, 97, 99, 101]).length ≤ 1010 := by rw [List.length_append]; simp; omega
    have hn0 : (l ++ [32, 116, 114, 97, 99, 101] ++ h.tr).length ≠ 0 := by rw [List.length_append, List.length_append]; simp
    have last : ∀ (a3 : Option Addr) (c3 : Nat) (w3 : World), Txt1 w w3 a3 c3 (l ++ [32, 116, 114, 97, 99, 101] ++ h.tr) → (∃ x27 : ByteArray, ∃ w26, Sem.run Tryz.prog (Go.convert T_sl_uint8 T_string (.slice a3 (l ++ [32, 116, 114, 97, 99, 101] ++ h.tr).length c3)) w3 = .ok (.string x27) w26 ∧ (((Value.string x27) = .string (strOfNums (l ++ [32, 116, 114, 97, 99, 101] ++ h.tr)) ∧ Same [] w.heap.size w w26))) := fun a3 c3 w3 T3 => ⟨_, _, row_str T3.o hn0, rfl, T3.S⟩
    by_cases e : h.tr.length = 0
    · have et : h.tr = [] := List.eq_nil_of_length_eq_zero e
      have hE := T_sl_uint8.el
      have hcap : (l ++ [32, 116, 114, 97, 99, 101]).length ≤ c2 := by
        obtain ⟨a', c', hv, hc⟩ := row_form T2.o
        injection hv with h1 h2 h3
        omega
      have hsrc : Src Tryz.prog 1 T_sl_uint8 (.slice ta h.tr.length tc) 0 [] w2 := by
        rw [e]
        exact ⟨.inl ⟨_, hE.ht⟩, fun w' => rfl, by cases ta <;> rfl, by cases ta <;> rfl, rfl, by simp⟩
      have hr3 := run_append_nothing (P := Tryz.prog) w2 T_sl_uint8 T_sl_uint8 T_sl_uint8 T_uint8 _ hE.ht hE.hi a2 _ c2 hcap (.slice ta h.tr.length tc) (by rw [hE.hsize]; exact hsrc)
      have q := last a2 c2 w2 (by rw [et, List.append_nil]; exact T2)
      rw [et, List.append_nil] at q ⊢
      rw [et] at hr3
      exact ⟨a2, _, c2, w2, hr3, q⟩
    · obtain ⟨g, rfl, _, lg, _, hc⟩ := row_get t2 e
      have ng : ∀ k, k ∈ obk (.slice a2 (l ++ [32, 116, 114, 97, 99, 101]).length c2) → w.heap.size ≤ k := fun k hk => T2.low k (mem_obk.1 hk)
      obtain ⟨a3, c3, w3, hr3, o3, S3, p3⟩ := row_more T_sl_uint8.el T_sl_uint8 (row_low T2.o) (tbs h.tr) h.tr.length tc ⟨g, 0, none⟩ (by rw [tbs_len, Nat.mul_one]) tbs_one (by omega) (by omega) (by decide) (Nat.zero_le _) (fun j v hj => by rw [add_mk, Nat.zero_add]; exact hc j v hj)
      rw [← tbs_app] at o3
      have ee : (l ++ [32, 116, 114, 97, 99, 101] ++ h.tr).length = (l ++ [32, 116, 114, 97, 99, 101]).length + h.tr.length := List.length_append
      rw [← ee] at hr3 o3 p3
      exact ⟨a3, _, c3, w3, hr3, last a3 c3 w3 (T2.next o3 S3 p3)⟩
  -- the tape
  have loop2 : ∀ (f i : Nat) (w1 : World) (a1 : Option Addr) (c1 : Nat) (ta : Option Addr) (tc : Nat), i + f = h.left → (h.left ≠ 0 → ta = some ⟨hb, 1 + h.head, none⟩) → Txt1 w w1 a1 c1 ([98, 111, 117, 110, 100] ++ kindsT h.k h.n ++ [32, 116, 97, 112, 101] ++ wordsT h.tape h.head i) →
      host_Host_Show.L2 (some ⟨hb, 0, none⟩) a1 ([98, 111, 117, 110, 100] ++ kindsT h.k h.n ++ [32, 116, 97, 112, 101] ++ wordsT h.tape h.head i).length c1 ta h.left tc ((h.left : Nat) : Int) (i : Int) (fun v w' => v = .string (strOfNums h.show) ∧ Same [] w.heap.size w w') (fun _ _ => False) w1 := by
    intro f
    induction f with
    | zero =>
      intro i w1 a1 c1 ta tc hi hta T1
      obtain rfl : i = h.left := by omega
      refine host_Host_Show.step2 _ _ _ _ _ _ _ _ _ _ _ _ ?_
      unfold host_Host_Show.V2
      simp only [nilV_some, Nat.zero_add]
      exact cond_false' (decide_eq_false (by omega)) (fin w1 a1 c1 T1)
    | succ f ih =>
      intro i w1 a1 c1 ta tc hi hta T1
      refine host_Host_Show.step2 _ _ _ _ _ _ _ _ _ _ _ _ ?_
      unfold host_Host_Show.V2
      have hta := hta (by omega)
      subst hta
      have tp := (H.keep T1.S).tp (h.head + i) (by omega)
      have tw := H.tw (h.head + i)
      simp only [nilV_some, Nat.zero_add, add_mk, Int.toNat_natCast, Nat.mul_one]
      refine cond_true' (decide_eq_true (by omega)) ⟨by omega, _, by rw [Nat.add_assoc]; exact tp, letB_intro fun b3 hb3 => letW_intro fun w4 hw4 => ?_⟩
      have hl : ([98, 111, 117, 110, 100] ++ kindsT h.k h.n ++ [32, 116, 97, 112, 101] ++ wordsT h.tape h.head i).length ≤ 1000 := by
        rw [List.length_append, List.length_append, List.length_append, kindsT_len, wordsT_len]; simp; omega
      obtain ⟨a5, c5, w5, hr5, T5⟩ := T1.push [32] (by omega) (by simp) hb3 hw4
      refine ⟨a5, _, c5, w5, hr5, ?_⟩
      have hl5 : ([98, 111, 117, 110, 100] ++ kindsT h.k h.n ++ [32, 116, 97, 112, 101] ++ wordsT h.tape h.head i ++ [32]).length ≤ 1001 := by rw [List.length_append]; simp at hl ⊢; omega
      have ev : h.tape (h.head + i) = (((h.tape (h.head + i)).toNat : Nat) : Int) := by omega
      have hx := hex16_spec (row_low T5.o) (by omega) (h.tape (h.head + i)).toNat (by omega)
      rw [← ev] at hx
      refine RunsQ.post hx ?_
      rintro v w6 ⟨a6, c6, rfl, o6, G6⟩
      have T6 := T5.next o6 G6.S G6.o
      refine ⟨_, _, _, rfl, ?_⟩
      rw [wrap_i64 (by omega) (by omega), show (i : Int) + 1 = ((i + 1 : Nat) : Int) by omega]
      have ee : [98, 111, 117, 110, 100] ++ kindsT h.k h.n ++ [32, 116, 97, 112, 101] ++ wordsT h.tape h.head i ++ [32] ++ h16 16 (h.tape (h.head + i)).toNat = [98, 111, 117, 110, 100] ++ kindsT h.k h.n ++ [32, 116, 97, 112, 101] ++ wordsT h.tape h.head (i + 1) := by
        show _ = _ ++ (wordsT h.tape h.head i ++ [32] ++ h16 16 (h.tape (h.head + i)).toNat)
        simp only [List.append_assoc]
      rw [ee] at T6 ⊢
      exact ih (i + 1) w6 a6 c6 _ tc (by omega) (fun _ => rfl) T6
  -- what is bound
  have loop1 : ∀ (f i : Nat) (w1 : World) (a1 : Option Addr) (c1 : Nat), i + f = h.n → Txt2 w w1 a1 c1 ([98, 111, 117, 110, 100] ++ kindsT h.k i) →
      host_Host_Show.L1 (some ⟨hb, 0, none⟩) a1 ([98, 111, 117, 110, 100] ++ kindsT h.k i).length c1 a h.n cc ((h.n : Nat) : Int) (i : Int) (fun v w' => v = .string (strOfNums h.show) ∧ Same [] w.heap.size w w') (fun _ _ => False) w1 := by
    intro f
    induction f with
    | zero =>
      intro i w1 a1 c1 hi T1
      obtain rfl : i = h.n := by omega
      refine host_Host_Show.step1 _ _ _ _ _ _ _ _ _ _ _ _ ?_
      unfold host_Host_Show.V1
      have hl : ([98, 111, 117, 110, 100] ++ kindsT h.k h.n).length ≤ 1000 := by rw [List.length_append, kindsT_len]; simp; omega
      obtain ⟨a2, c2, w2, hr2, T2⟩ := T1.str [32, 116, 97, 112, 101] (by simp) (by intro x hx; simp at hx; omega) (by omega) (by simp)
      have H2 := (H.keep T2.S).keep (Same.refl [] w2.heap.size w2).drew
      have T2d := T2.keep (Same.refl [] w2.heap.size w2).drew
      simp only [nilV_some, Nat.zero_add, true_and]
      refine cond_false' (decide_eq_false (by omega)) ⟨a2, _, c2, w2, hr2, _, H2.hd, _, H2.hd, _, H2.lf, ?_⟩
      rw [wrap_i64 (by omega) (by omega), show (h.head : Int) + (h.left : Int) = ((h.head + h.left : Nat) : Int) by omega]
      refine ⟨by omega, ?_⟩
      simp only [Int.toNat_natCast]
      rw [show h.head + h.left - h.head = h.left by omega]
      have e0 : wordsT h.tape h.head 0 = [] := rfl
      have q := loop2 h.left 0 w2.drew a2 c2 (slAddr (some ⟨hb, 1, none⟩) h.head 6 1) (6 - h.head) (by omega) (fun h0 => by
        unfold slAddr
        rw [if_neg (by omega)]
        simp only [Option.map_some, add_mk, Nat.mul_one]) (by rw [e0, List.append_nil]; exact T2d)
      rw [e0, List.append_nil] at q
      exact q
    | succ f ih =>
      intro i w1 a1 c1 hi T1
      refine host_Host_Show.step1 _ _ _ _ _ _ _ _ _ _ _ _ ?_
      unfold host_Host_Show.V1
      have z3 := S3.size
      obtain ⟨bb, rfl, _, lbb, brow⟩ := row_at (sz := 1) (fun _ => rfl) b2' (show i < h.n by omega)
      have lw : bb < w.heap.size := by
        have := H.lF bb (b3 bb rfl); exact this
      have cr := brow 0 _ (show (fnC (fns i))[0]? = some (.iface (fns i).1 (fns i).2) from rfl)
      have cr0 : w.cell? ⟨bb, i * 1 + 0, none⟩ = some (.iface (fns i).1 (fns i).2) := by rw [← S3.cell (p := ⟨bb, i * 1 + 0, none⟩) lw (by simp)]; exact cr
      have cr1 : w1.cell? ⟨bb, i * 1 + 0, none⟩ = some (.iface (fns i).1 (fns i).2) := by rw [T1.S.cell (p := ⟨bb, i * 1 + 0, none⟩) lw (by simp)]; exact cr0
      have hk3 : h.k i ≤ 3 := by
        rcases (b4 i (by omega)).tag with ⟨e, _⟩ | ⟨e, _⟩ | ⟨e, _⟩ <;> omega
      simp only [nilV_some, add_mk, Nat.zero_add, Int.toNat_natCast]
      refine cond_true' (decide_eq_true (by omega)) ⟨by omega, _, _, cr1, RunsQ.post (kind_tag (b4 i (by omega)).tag w1) ?_⟩
      rintro v w2 ⟨rfl, rfl⟩
      refine ⟨_, rfl, letB_intro fun b7 hb7 => letW_intro fun w8 hw8 => ?_⟩
      have ek : IntKind.wrap .u8 (IntKind.wrap .i64 ((48 : Int) + (h.k i : Int))) = 48 + (h.k i : Int) := by rw [wrap_i64 (by omega) (by omega), wrap_u8 (by omega) (by omega)]
      rw [ek] at hw8
      have hl : ([98, 111, 117, 110, 100] ++ kindsT h.k i).length ≤ 1000 := by rw [List.length_append, kindsT_len]; simp; omega
      obtain ⟨a5, c5, w5, hr5, T5⟩ := T1.push [32, 48 + (h.k i : Int)] (by simp) (by omega) (by simp) hb7 hw8
      refine ⟨a5, _, c5, w5, hr5, ?_⟩
      rw [wrap_i64 (by omega) (by omega), show (i : Int) + 1 = ((i + 1 : Nat) : Int) by omega]
      have ee : [98, 111, 117, 110, 100] ++ kindsT h.k i ++ [32, 48 + (h.k i : Int)] = [98, 111, 117, 110, 100] ++ kindsT h.k (i + 1) := by
        show _ = _ ++ (kindsT h.k i ++ [32, 48 + (h.k i : Int)])
        simp only [List.append_assoc]
      rw [ee] at T5 ⊢
      exact ih (i + 1) w5 a5 c5 (by omega) (.inr T5)
  have e0 : kindsT h.k 0 = [] := rfl
  have q := loop1 h.n 0 w4 (some ⟨b2, 0, none⟩) 5 (by omega) (by rw [e0, List.append_nil]; exact .inl T3)
  rw [e0, List.append_nil] at q
  exact q
end Go.Proofs.Qxb6500317aGreat
