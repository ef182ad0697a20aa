/-
  The host: New, Show.
-/
import Derived.Test.Qxb6500317aGreatHoF
import Derived.Lib.AppendStr
import Derived.Deep.Upon
set_option linter.unusedSimpArgs false
set_option linter.unusedVariables false
set_option maxRecDepth 100000
set_option linter.unusedSectionVars false
set_option maxHeartbeats 1000000
namespace Go.Proofs.Qxb6500317aGreat
open Go Go.Vc

def hs0 : HS := ⟨0, fun _ => 0, fun _ => 0, 0, 0, [], 0⟩
theorem make_row0 {t e : TypeId} {i : TypeInfo} {z : Value} {bytes : Nat} (hE : Elem Tryz.prog t e i z 1 bytes) (hz1 : z.cells.size = 1) (w : World) (c : Nat) (hc : c ≤ 100000) (hb : bytes ≤ 1000) :
    ∃ w', Sem.run Tryz.prog (Instr.makeSlice t (.int .i64 0) (.int .i64 (c : Int))) w = .ok (.slice (some ⟨w.heap.size, 0, none⟩) 0 c) w' ∧ w'.ownsRow 0 e 1 (.slice (some ⟨w.heap.size, 0, none⟩) 0 c) 0 [] ∧ Same [] w.heap.size w w' ∧ w'.heap.size = w.heap.size + 1 := by
  have hr := run_make (P := Tryz.prog) w t e i z hE.ht hE.hi hE.hz .i64 .i64 0 (c : Int) (by omega) (by omega) (by
    have q : bytes * c ≤ 1000 * 100000 := Nat.mul_le_mul hb hc
    have e : (bytes : Int) * (c : Int) = ((bytes * c : Nat) : Int) := (Int.natCast_mul bytes c).symm
    rw [hE.hby, e]
    omega) (by omega)
  rw [hE.hsize, Int.toNat_natCast, Nat.mul_one] at hr
  refine ⟨_, hr, ⟨rfl, .inr ⟨w.heap.size, c, _, rfl, Nat.zero_le _, heap_alloc_new w _, Nat.zero_le _, by simp only [maxLen]; omega, by simp [madeCells], by simp⟩⟩, (Same.refl _ _ _).alloc (Nat.le_refl _) _, by simp⟩
theorem hNew_spec (w : World) : Runs Tryz.prog host_New.id #[] w fun v w' => ∃ hb F, v = rp hb ∧ HoAt w' hb F hs0 ∧ Same [] w.heap.size w w' ∧ w.heap.size ≤ hb ∧ ∀ d, d ∈ F → w.heap.size ≤ d := by
  refine host_New.enter _ _ _ ?_
  unfold host_New.V
  have S0 : Same [] w.heap.size w w.drew := (Same.refl _ _ _).drew
  have fin : ∀ (w2 w3 : World) (b g1 g2 : Nat), b = w2.heap.size → w2.ownsRow 0 T_host_Fn 1 (.slice (some ⟨g1, 0, none⟩) 0 4) 0 [] → w2.ownsRow 0 T_uint8 1 (.slice (some ⟨g2, 0, none⟩) 0 864) 0 [] → w.heap.size ≤ g1 → w.heap.size ≤ g2 → Same [] w.heap.size w w2 → w3 = w2.alloc (.cells #[(.slice (some ⟨g1, 0, none⟩) 0 4), (.int .u64 0), (.int .u64 0), (.int .u64 0), (.int .u64 0), (.int .u64 0), (.int .u64 0), (.int .i64 0), (.int .i64 0), (.slice (some ⟨g2, 0, none⟩) 0 864), (.int .i64 0)] T_host_Host) →
      ∃ hb F, (.pointer (some ⟨b, 0, none⟩)) = rp hb ∧ HoAt w3 hb F hs0 ∧ Same [] w.heap.size w w3 ∧ w.heap.size ≤ hb ∧ ∀ d, d ∈ F → w.heap.size ≤ d := fun w2 w3 b g1 g2 hb r1 r2 l1 l2 S2 hw => by
    have S3 : Same [] w2.heap.size w2 w3 := by rw [hw]; exact (Same.refl _ _ _).alloc (Nat.le_refl _) _
    have c3 : ∀ j v, (#[(.slice (some ⟨g1, 0, none⟩) 0 4), (.int .u64 0), (.int .u64 0), (.int .u64 0), (.int .u64 0), (.int .u64 0), (.int .u64 0), (.int .i64 0), (.int .i64 0), (.slice (some ⟨g2, 0, none⟩) 0 864), (.int .i64 0)] : Array Value)[j]? = some v → w3.cell? ⟨b, j, none⟩ = some v := fun j v hj => by rw [hw, hb, World.cell?_alloc_new]; exact hj
    have z2 := S2.size; have z3 := S3.size
    refine ⟨b, [g1, g2], rfl, ⟨⟨_, _, fun _ => (0, .nilIface), c3 0 _ rfl, row_keep r1 S3, fun d hd => by simp [Value.ownBlock] at hd; simp [hd], fun j hj => absurd hj (Nat.not_lt_zero _)⟩, fun j hj => ?_, c3 7 _ rfl, c3 8 _ rfl, ⟨_, _, c3 9 _ rfl, row_keep r2 S3, fun d hd => by simp [Value.ownBlock] at hd; simp [hd]⟩, c3 10 _ rfl, fun j => by rw [hw, hb, World.frozen?_alloc_new], ?_, ?_, by decide, by decide, fun j => ⟨Int.le_refl 0, by show (0 : Int) < 18446744073709551616; decide⟩, by decide, by decide⟩, S2.trans (S3.mono z2 (by simp)), by omega, ?_⟩
    · apply c3
      have : j = 0 ∨ j = 1 ∨ j = 2 ∨ j = 3 ∨ j = 4 ∨ j = 5 := by omega
      rcases this with rfl | rfl | rfl | rfl | rfl | rfl <;> rfl
    · have a1 := (r1.lt g1 rfl).2; have a2 := (r2.lt g2 rfl).2
      simp; omega
    · intro k hk
      have a1 := (r1.lt g1 rfl).2; have a2 := (r2.lt g2 rfl).2
      simp at hk; omega
    · intro k hk
      simp at hk; omega
  refine ⟨?_, ?_, trivial⟩
  · obtain ⟨w1, r1, o1, S1, z1⟩ := make_row0 T_sl_host_Fn.el rfl w.drew 4 (by decide) (by decide)
    obtain ⟨w2, r2, o2, S2, z2⟩ := make_row0 T_sl_uint8.el rfl w1 864 (by decide) (by decide)
    have zd : w.drew.heap.size = w.heap.size := rfl
    refine ⟨_, _, _, w1, r1, ⟨_, _, _, w2, r2, ⟨letB_intro fun b hb => letW_intro fun w3 hw3 => ?_, trivial⟩, trivial⟩, trivial⟩
    exact fin w2 w3 b _ _ hb (row_keep o1 S2) o2 (by omega) (by omega) ((S0.trans (S1.mono (by omega) (by simp))).trans (S2.mono (by omega) (by simp))) hw3
  · obtain ⟨w1, r1, o1, S1, z1⟩ := make_row0 T_sl_uint8.el rfl w.drew 864 (by decide) (by decide)
    obtain ⟨w2, r2, o2, S2, z2⟩ := make_row0 T_sl_host_Fn.el rfl w1 4 (by decide) (by decide)
    have zd : w.drew.heap.size = w.heap.size := rfl
    refine ⟨_, _, _, w1, r1, ⟨_, _, _, w2, r2, ⟨letB_intro fun b hb => letW_intro fun w3 hw3 => ?_, trivial⟩, trivial⟩, trivial⟩
    exact fin w2 w3 b _ _ hb o2 (row_keep o1 S2) (by omega) (by omega) ((S0.trans (S1.mono (by omega) (by simp))).trans (S2.mono (by omega) (by simp))) hw3

/-! ### Show -/
def kindsT (k : Nat → Nat) : Nat → List Int
  | 0 => []
  | n + 1 => kindsT k n ++ [32, 48 + (k n : Int)]
def wordsT (tp : Nat → Int) (hd : Nat) : Nat → List Int
  | 0 => []
  | n + 1 => wordsT tp hd n ++ [32] ++ h16 16 (tp (hd + n)).toNat
def HS.show (h : HS) : List Int := [98, 111, 117, 110, 100] ++ kindsT h.k h.n ++ [32, 116, 97, 112, 101] ++ wordsT h.tape h.head h.left ++ [32, 116, 114, 97, 99, 101] ++ h.tr
theorem kindsT_len (k : Nat → Nat) : ∀ n, (kindsT k n).length = 2 * n
  | 0 => rfl
  | n + 1 => by show (kindsT k n ++ [32, 48 + (k n : Int)]).length = _; rw [List.length_append, kindsT_len k n]; simp; omega
theorem wordsT_len (tp : Nat → Int) (hd : Nat) : ∀ n, (wordsT tp hd n).length = 17 * n
  | 0 => rfl
  | n + 1 => by show (wordsT tp hd n ++ [32] ++ h16 16 (tp (hd + n)).toNat).length = _; rw [List.length_append, List.length_append, wordsT_len tp hd n, h16_len]; simp; omega
theorem row_rebase {w : World} {B n sz : Nat} {e : TypeId} {v : Value} {xs : List Value} (h : w.ownsRow 0 e sz v n xs) (hb : ∀ k, v.ownBlock = some k → B ≤ k) : w.ownsRow B e sz v n xs := by
  refine ⟨h.1, ?_⟩
  rcases h.2 with g | ⟨g, cap, cur, rfl, _, rest⟩
  · exact .inl g
  · exact .inr ⟨g, cap, cur, rfl, hb g rfl, rest⟩
theorem row_low {w : World} {B n sz : Nat} {e : TypeId} {v : Value} {xs : List Value} (h : w.ownsRow B e sz v n xs) : w.ownsRow 0 e sz v n xs := by
  refine ⟨h.1, ?_⟩
  rcases h.2 with g | ⟨g, cap, cur, rfl, _, rest⟩
  · exact .inl g
  · exact .inr ⟨g, cap, cur, rfl, Nat.zero_le _, rest⟩
/-- A text of one's own, in a world that has but grown. -/
structure Txt1 (w0 w : World) (a : Option Addr) (c : Nat) (l : List Int) : Prop where
  o : w.ownsRow w0.heap.size T_uint8 1 (.slice a l.length c) l.length (tbs l)
  S : Same [] w0.heap.size w0 w
theorem Txt1.low {w0 w : World} {a : Option Addr} {c : Nat} {l : List Int} (h : Txt1 w0 w a c l) : ∀ k, (Value.slice a l.length c).ownBlock = some k → w0.heap.size ≤ k := fun k hk => (h.o.lt k hk).1
theorem Txt1.next {w0 w w' : World} {a a' : Option Addr} {c c' : Nat} {l l' : List Int} (h : Txt1 w0 w a c l) (o : w'.ownsRow 0 T_uint8 1 (.slice a' l'.length c') l'.length (tbs l')) (S : Same (obk (.slice a l.length c)) w.heap.size w w') (p : ∀ k, (Value.slice a' l'.length c').ownBlock = some k → (Value.slice a l.length c).ownBlock = some k ∨ w.heap.size ≤ k) : Txt1 w0 w' a' c' l' := by
  have z := h.S.size
  refine ⟨row_rebase o (fun k hk => ?_), h.S.trans (S.mono z (fun k hk hl => ?_))⟩
  · rcases p k hk with g | g
    · exact h.low k g
    · omega
  · have := h.low k (mem_obk.1 hk); omega
theorem Txt1.keep {w0 w w' : World} {a : Option Addr} {c : Nat} {l : List Int} (h : Txt1 w0 w a c l) (S : Same [] w.heap.size w w') : Txt1 w0 w' a c l := ⟨row_keep h.o S, h.S.trans (S.mono h.S.size (by simp))⟩
theorem Txt1.push {w0 w : World} {a : Option Addr} {c : Nat} {l : List Int} (h : Txt1 w0 w a c l) (us : List Int) (hl : l.length ≤ 10000) (hm : us.length ≤ 1000) {b : Nat} {w1 : World} (hb : b = w.heap.size) (hw : w1 = w.alloc (.cells (tbs us).toArray T_uint8)) :
    ∃ (a' : Option Addr) (c' : Nat) (w2 : World), Sem.run Tryz.prog (Builtin.append_ #[T_sl_uint8, T_sl_uint8] T_sl_uint8 #[.slice a l.length c, .slice (some ⟨b, 0, none⟩) us.length us.length]) w1 = .ok (.slice a' (l ++ us).length c') w2 ∧ Txt1 w0 w2 a' c' (l ++ us) := by
  obtain ⟨a', c', w2, hr, ho, hS, hf⟩ := row_apps (row_low h.o) us hl hm hb hw
  exact ⟨a', c', w2, hr, h.next ho hS hf⟩
theorem strCells_tbs (l : List Int) (h : ∀ x, x ∈ l → 0 ≤ x ∧ x < 256) : Lib.strCells (strOfNums l) = tbs l := by
  unfold Lib.strCells tbs strOfNums
  simp only [List.map_map]
  refine List.map_congr_left fun x hx => ?_
  have := h x hx
  simp
  omega
theorem Txt1.str {w0 w : World} {a : Option Addr} {c : Nat} {l : List Int} (h : Txt1 w0 w a c l) (us : List Int) (hu : ∀ x, x ∈ us → 0 ≤ x ∧ x < 256) (hl : l.length ≤ 10000) (hm : us.length ≤ 1000) :
    ∃ (a' : Option Addr) (c' : Nat) (w2 : World), Sem.run Tryz.prog (Builtin.append_ #[T_sl_uint8, T_string] T_sl_uint8 #[.slice a l.length c, .string (strOfNums us)]) w = .ok (.slice a' (l ++ us).length c') w2 ∧ Txt1 w0 w2 a' c' (l ++ us) := by
  have hE := T_sl_uint8.el
  have hs : (strOfNums us).size = us.length := strOfNums_size us
  obtain ⟨v', w2, hr, ho, hg, _⟩ := Lib.run_append_own_string (P := Tryz.prog) w w0.heap.size T_sl_uint8 T_string T_sl_uint8 T_uint8 _ hE.ht (by kernel_rfl) hE.hi hE.hz hE.hsize hE.hby (.slice a l.length c) l.length (tbs l) h.o (strOfNums us) (by simp only [maxLen]; omega) (by omega) h.S.size
  rw [hs, strCells_tbs us hu, ← tbs_app] at ho
  obtain ⟨a', c', rfl, _⟩ := row_form ho
  have e : (l ++ us).length = l.length + us.length := List.length_append
  rw [← e] at ho hr
  refine ⟨a', c', w2, hr, ho, h.S.trans ⟨hg.os, hg.tape, hg.output, by have := hg.size; exact hg.size, fun k hk hs => hg.block k (by have := h.S.size; omega) (fun he => ?_)⟩⟩
  have := h.low k he.symm
  omega
end Go.Proofs.Qxb6500317aGreat
