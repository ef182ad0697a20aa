/-
  Small facts that the proofs over the conditions want. Program-independent.
-/
import Derived.Test.Qxb6500317aGreatVcC
import Derived.Below
import Derived.Laws.BytesArg
import Derived.Laws.MakeOwn
set_option linter.unusedSimpArgs false
set_option linter.unusedVariables false
namespace Go.Vc
open Go.RowKit

/-- A name for a world on the way. -/
def letW (w : World) (K : World → Prop) : Prop := K w
theorem letW_intro {w : World} {K : World → Prop} (h : ∀ w', w' = w → K w') : letW w K := h w rfl
def letB (b : Nat) (K : Nat → Prop) : Prop := K b
theorem letB_intro {b : Nat} {K : Nat → Prop} (h : ∀ b', b' = b → K b') : letB b K := h b rfl
/-- Cell by cell. -/
def putCells : World → Addr → List Value → (World → Prop) → Prop
  | w, _, [], K => K w
  | w, a, v :: vs, K => can w a ∧ putCells (w.setCell a v) ⟨a.block, a.off + 1, none⟩ vs K

theorem nilV_some (a : Addr) (K : Addr → Prop) : nilV (some a) K = K a := rfl
theorem add_mk (b o n : Nat) : Addr.add ⟨b, o, none⟩ n = ⟨b, o + n, none⟩ := by
  unfold Addr.add; split
  · rename_i h; subst h; rfl
  · rfl

/-- All blocks below B but those of S are as they were. -/
structure Same (S : List Nat) (B : Nat) (w w' : World) : Prop where
  os : w'.os = w.os
  tape : w'.tape = w.tape
  output : w'.output = w.output
  size : w.heap.size ≤ w'.heap.size
  block : ∀ k, k < B → k ∉ S → w'.heap[k]? = w.heap[k]?

theorem Same.refl (S : List Nat) (B : Nat) (w : World) : Same S B w w := ⟨rfl, rfl, rfl, Nat.le_refl _, fun _ _ _ => rfl⟩
theorem Same.trans {S : List Nat} {B : Nat} {a b c : World} (h : Same S B a b) (k : Same S B b c) : Same S B a c :=
  ⟨k.os.trans h.os, k.tape.trans h.tape, k.output.trans h.output, Nat.le_trans h.size k.size, fun i hi hs => (k.block i hi hs).trans (h.block i hi hs)⟩
theorem Same.mono {S S' : List Nat} {B B' : Nat} {w w' : World} (h : Same S B w w') (hB : B' ≤ B) (hS : ∀ k, k ∈ S → k < B' → k ∈ S') : Same S' B' w w' :=
  ⟨h.os, h.tape, h.output, h.size, fun k hk hs => h.block k (by omega) (fun hm => hs (hS k hm hk))⟩
theorem Same.drew {S : List Nat} {B : Nat} {a w : World} (h : Same S B a w) : Same S B a w.drew := ⟨h.os, h.tape, h.output, h.size, h.block⟩
theorem Same.alloc {S : List Nat} {B : Nat} {a w : World} (h : Same S B a w) (hB : B ≤ w.heap.size) (o : Obj) : Same S B a (w.alloc o) :=
  h.trans ⟨rfl, rfl, rfl, by simp, fun k hk _ => Below.heap_alloc _ _ _ (by omega)⟩
theorem Same.setCell {S : List Nat} {B : Nat} {a w : World} (h : Same S B a w) {p : Addr} (hp : B ≤ p.block ∨ p.block ∈ S) (u : Value) : Same S B a (w.setCell p u) :=
  h.trans ⟨rfl, rfl, rfl, by simp [World.setCell], fun k hk hs => Below.heap_setCell _ _ _ _ (by
    rcases hp with hp | hp
    · omega
    · intro he; subst he; exact hs hp)⟩
theorem Same.cell {S : List Nat} {B : Nat} {w w' : World} (h : Same S B w w') {p : Addr} (hp : p.block < B) (hs : p.block ∉ S) : w'.cell? p = w.cell? p := World.cell?_of_block (w := w) (h.block p.block hp hs)
theorem Same.frozen {S : List Nat} {B : Nat} {w w' : World} (h : Same S B w w') {p : Addr} (hp : p.block < B) (hs : p.block ∉ S) : w'.frozen? p = w.frozen? p := World.frozen?_of_block (w := w) (h.block p.block hp hs)
theorem Same.below {B : Nat} {w w' : World} (h : Same [] B w w') : Below B w w' := ⟨h.os, h.tape, h.output, h.size, fun k hk => h.block k hk (by simp)⟩

theorem cell_lt {w : World} {a : Addr} {v : Value} (h : w.cell? a = some v) : a.block < w.heap.size := World.block_lt_of_cell? w a h

theorem cell_alloc_old {w : World} {o : Obj} {a : Addr} (h : a.block < w.heap.size) : (w.alloc o).cell? a = w.cell? a := World.cell?_alloc_lt w o a h
theorem frozen_alloc_old {w : World} {o : Obj} {a : Addr} (h : a.block < w.heap.size) : (w.alloc o).frozen? a = w.frozen? a := World.frozen?_alloc_old w o a (by omega)

theorem cell_set (w : World) (b i j : Nat) (v : Value) {u : Value} (h : w.cell? ⟨b, j, none⟩ = some u) : (w.setCell ⟨b, i, none⟩ v).cell? ⟨b, j, none⟩ = if j = i then some v else some u := by
  by_cases hij : j = i
  · subst hij; simp [World.cell?_setCell_same w _ v h]
  · rw [if_neg hij, World.cell?_setCell_other w _ _ v (by intro he; simp at he; omega), h]
theorem cell_set_ne (w : World) (b i b' j : Nat) (v : Value) (h : b' ≠ b) : (w.setCell ⟨b, i, none⟩ v).cell? ⟨b', j, none⟩ = w.cell? ⟨b', j, none⟩ :=
  World.cell?_setCell_other w _ _ v (by intro he; simp at he; exact h he.1.symm)

/-! ### Numbers -/
theorem wrap_i64 {x : Int} (h1 : -9223372036854775808 ≤ x) (h2 : x ≤ 9223372036854775807) : IntKind.wrap .i64 x = x := by
  have : IntKind.wrap .i64 x = (let m := x % 18446744073709551616; if (m : Int) ≥ 9223372036854775808 then m - 18446744073709551616 else m) := by
    simp [IntKind.wrap, IntKind.bits, IntKind.signed]
  rw [this]; simp only; split <;> omega
theorem wrap_u64 {x : Int} (h1 : 0 ≤ x) (h2 : x ≤ 18446744073709551615) : IntKind.wrap .u64 x = x := by
  have : IntKind.wrap .u64 x = x % 18446744073709551616 := by simp [IntKind.wrap, IntKind.bits, IntKind.signed]
  rw [this]; omega
theorem wrap_u32 {x : Int} (h1 : 0 ≤ x) (h2 : x ≤ 4294967295) : IntKind.wrap .u32 x = x := by
  have : IntKind.wrap .u32 x = x % 4294967296 := by simp [IntKind.wrap, IntKind.bits, IntKind.signed]
  rw [this]; omega
theorem wrap_u16 {x : Int} (h1 : 0 ≤ x) (h2 : x ≤ 65535) : IntKind.wrap .u16 x = x := by
  have : IntKind.wrap .u16 x = x % 65536 := by simp [IntKind.wrap, IntKind.bits, IntKind.signed]
  rw [this]; omega
theorem wrap_u8 {x : Int} (h1 : 0 ≤ x) (h2 : x ≤ 255) : IntKind.wrap .u8 x = x := by
  have : IntKind.wrap .u8 x = x % 256 := by simp [IntKind.wrap, IntKind.bits, IntKind.signed]
  rw [this]; omega
theorem wrap_u64_mod (x : Int) : IntKind.wrap .u64 x = x % 18446744073709551616 := by simp [IntKind.wrap, IntKind.bits, IntKind.signed]
theorem wrap_u32_mod (x : Int) : IntKind.wrap .u32 x = x % 4294967296 := by simp [IntKind.wrap, IntKind.bits, IntKind.signed]
theorem wrap_u16_mod (x : Int) : IntKind.wrap .u16 x = x % 65536 := by simp [IntKind.wrap, IntKind.bits, IntKind.signed]
theorem wrap_u8_mod (x : Int) : IntKind.wrap .u8 x = x % 256 := by simp [IntKind.wrap, IntKind.bits, IntKind.signed]

theorem slAddr_lt {b o l m s : Nat} (h : l < m) : slAddr (some ⟨b, o, none⟩) l m s = some ⟨b, o + l * s, none⟩ := by
  simp [slAddr, Nat.ne_of_gt h, add_mk]
theorem slAddr_eq (a : Option Addr) (l s : Nat) : slAddr a l l s = a := by simp [slAddr]

theorem cond_true' {b : Bool} {A B : Prop} (h : b = true) (hA : A) : cond b A B := by subst h; exact hA
theorem cond_false' {b : Bool} {A B : Prop} (h : b = false) (hB : B) : cond b A B := by subst h; exact hB

/-! ### Slices that the call itself makes -/
theorem Same.grown {B : Nat} {a w w' : World} {row : Option Nat} (h : Same [] B a w) (hg : w.grownBy w' row) (hB : B ≤ w.heap.size) (hr : ∀ k, row = some k → B ≤ k) : Same [] B a w' :=
  h.trans ⟨hg.os, hg.tape, hg.output, hg.size, fun k hk _ => hg.block k (by omega) (fun e => by have := hr k e.symm; omega)⟩

theorem owns_alloc {w : World} {base : Nat} {e : TypeId} {size : Nat} {v : Value} {n : Nat} {xs : List Value} (h : w.ownsRow base e size v n xs) (o : Obj) : (w.alloc o).ownsRow base e size v n xs := h.alloc o

/-- A slice type t of elements e: so many cells, so many bytes, the zero value. -/
structure Elem (P : Program) (t e : TypeId) (i : TypeInfo) (z : Value) (size bytes : Nat) : Prop where
  ht : P.underlying t = some (.slice e)
  hi : P.info? e = some i
  hz : i.zero = some z
  hsize : i.size = size
  hby : i.bytes = bytes
  hzs : z.cells.size = size
  hsz : 0 < size

/-- One element more. -/
theorem append_one {P : Program} {t e : TypeId} {i : TypeInfo} {z : Value} {size bytes : Nat} (hE : Elem P t e i z size bytes) (ty : TypeId) (w : World) (base : Nat) (a : Option Addr) (l c : Nat) (xs : List Value)
    (hown : w.ownsRow base e size (.slice a l c) l xs) (cs : List Value) (hcs : cs.length = size) (h1 : ∀ u ∈ cs, u.oneCell' = true) (hb : (l + 1) * bytes ≤ 140737488355328) (hl : l + 1 ≤ maxLen) (hbase : base ≤ w.heap.size) :
    ∃ (a' : Option Addr) (c' : Nat) (w1 : World), (Builtin.append_ #[t, t] ty #[.slice a l c, .slice (some ⟨w.heap.size, 0, none⟩) 1 1]).run P (w.alloc (.cells cs.toArray e)) = .ok (.slice a' (l + 1) c') w1 ∧
      w1.ownsRow base e size (.slice a' (l + 1) c') (l + 1) (xs ++ cs) ∧ Same [] base w w1 ∧ w.heap.size ≤ w1.heap.size := by
  obtain ⟨v', w1, hr, ho, hg, _⟩ := run_append_own (P := P) (w.alloc (.cells cs.toArray e)) base t ty e i z size bytes hE.ht hE.hi hE.hz hE.hsize hE.hby hE.hzs hE.hsz (.slice a l c) l xs (hown.alloc _)
    ⟨w.heap.size, 0, none⟩ 1 1 cs (by omega) (fun j u hj => by rw [add_mk, Nat.zero_add, World.cell?_alloc_new]; simpa using hj) h1 hl hb (by simp; omega)
  have hrow : ∀ k, (Value.slice a l c).ownBlock = some k → base ≤ k := fun k hk => (hown.lt k hk).1
  have hS : Same [] base w w1 := ((Same.refl [] base w).alloc hbase _).grown hg (by simp; omega) hrow
  rcases ho.2 with ⟨hv, h0⟩ | ⟨g, cap, cur, hv, rest⟩
  · omega
  · subst hv
    exact ⟨_, _, w1, hr, ho, hS, hS.size⟩

theorem make_own {P : Program} {t e : TypeId} {i : TypeInfo} {z : Value} {size bytes : Nat} (hE : Elem P t e i z size bytes)
    (w : World) (base c : Nat) (kl kc : IntKind) (hb : bytes * c ≤ 281474976710656) (h63 : c ≤ maxLen) (hbase : base ≤ w.heap.size) :
    ∃ w1, (Instr.makeSlice t (.int kl 0) (.int kc (c : Int))).run P w = .ok (.slice (some ⟨w.heap.size, 0, none⟩) 0 c) w1 ∧ w1.ownsRow base e size (.slice (some ⟨w.heap.size, 0, none⟩) 0 c) 0 [] ∧ Same [] base w w1 := by
  obtain ⟨w1, hr, ho, hg⟩ := run_make_own (P := P) w base t e i z size hE.ht hE.hi hE.hz hE.hsize kl kc c (hE.hby ▸ hb) h63 hbase
  exact ⟨w1, hr, ho, (Same.refl [] base w).grown hg hbase (fun k hk => by cases hk)⟩

theorem convert_own {P : Program} (src e dst : TypeId) (hs : P.underlying src = some (.slice e)) (he : P.underlying e = some (.int .u8)) (hd : P.underlying dst = some .string) (w : World) (base : Nat) (a : Option Addr) (l c : Nat) (xs : List Int)
    (hown : w.ownsRow base e 1 (.slice a l c) l (xs.map (Value.int .u8))) : (Go.convert src dst (.slice a l c)).run P w = .ok (.string (strOfNums xs)) w := by
  have hl : xs.length = l := by have := hown.1; simpa using this
  rcases hown.2 with ⟨hv, h0⟩ | ⟨g, cap, cur, hv, _, _, _⟩
  · simp at hv
    obtain ⟨rfl, rfl, rfl⟩ := hv
    have hx : xs = [] := List.eq_nil_of_length_eq_zero hl
    subst hx
    have := run_convert_bytes_nil (P := P) w src e hs he 0 0 dst hd
    rw [this]; rfl
  · simp at hv
    obtain ⟨rfl, rfl⟩ := hv
    refine run_convert_bytes_arg w src e hs he g 0 l c xs hl (fun j hj => ?_) dst hd
    have := hown.cells (g := g) rfl j (.int .u8 (xs.getD j 0)) (by simp [List.getD, hl ▸ hj])
    rwa [add_mk] at this

end Go.Vc
