/-
  Package mem, first part: the store in memory; the methods that only look.
-/
import Derived.Test.Qxb6500317aGreatApi
set_option linter.unusedSimpArgs false
set_option linter.unusedVariables false
set_option maxRecDepth 100000
namespace Go.Proofs.Qxb6500317aGreat.M
open Go Go.Vc

/-- The abstract store: there is a memory, its bytes, the cap, the reserve, the table, the globals. -/
structure MS where
  has : Bool
  n : Nat
  cap : Nat
  back : Nat → Int
  tab : Nat → Int
  tl : Nat
  glob : Nat → Int
  ng : Nat

def MS.ma (s : MS) (q : Nat) : Option Addr := if s.has then some ⟨q, 0, none⟩ else none

structure MS.Wf (s : MS) : Prop where
  ncap : s.n ≤ s.cap
  cap384 : s.cap ≤ 384
  n64 : s.n % 64 = 0
  cap64 : s.cap % 64 = 0
  none : s.has = false → s.n = 0 ∧ s.cap = 0
  tl8 : s.tl ≤ 8
  ng4 : s.ng ≤ 4
  back : ∀ j, 0 ≤ s.back j ∧ s.back j < 256
  tab : ∀ j, -1 ≤ s.tab j ∧ s.tab j ≤ 9223372036854775807
  glob : ∀ j, 0 ≤ s.glob j ∧ s.glob j < 18446744073709551616

/-- The store lies in block p, its reserve in block q. -/
structure MSAt (w : World) (p q : Nat) (s : MS) : Prop where
  c0 : w.cell? ⟨p, 0, none⟩ = some (.slice (some ⟨q, 0, none⟩) 384 384)
  c1 : w.cell? ⟨p, 1, none⟩ = some (.bool s.has)
  c2 : w.cell? ⟨p, 2, none⟩ = some (.slice (s.ma q) s.n s.cap)
  ct : ∀ j, j < 8 → w.cell? ⟨p, 3 + j, none⟩ = some (.int .i64 (s.tab j))
  c11 : w.cell? ⟨p, 11, none⟩ = some (.int .i64 s.tl)
  cg : ∀ j, j < 4 → w.cell? ⟨p, 12 + j, none⟩ = some (.int .u64 (s.glob j))
  c16 : w.cell? ⟨p, 16, none⟩ = some (.int .i64 s.ng)
  cb : ∀ j, j < 384 → w.cell? ⟨q, j, none⟩ = some (.int .u8 (s.back j))
  fp : ∀ j, w.frozen? ⟨p, j, none⟩ = false
  fq : ∀ j, w.frozen? ⟨q, j, none⟩ = false
  ne : p ≠ q

theorem MSAt.plt {w : World} {p q : Nat} {s : MS} (h : MSAt w p q s) : p < w.heap.size := cell_lt h.c0
theorem MSAt.qlt {w : World} {p q : Nat} {s : MS} (h : MSAt w p q s) : q < w.heap.size := cell_lt (h.cb 0 (by omega))

theorem MSAt.same {w w' : World} {p q : Nat} {s : MS} {S : List Nat} {B : Nat} (h : MSAt w p q s) (hs : Same S B w w') (hp : p < B) (hq : q < B) (hpS : p ∉ S) (hqS : q ∉ S) : MSAt w' p q s where
  c0 := by rw [hs.cell hp hpS]; exact h.c0
  c1 := by rw [hs.cell hp hpS]; exact h.c1
  c2 := by rw [hs.cell hp hpS]; exact h.c2
  ct := fun j hj => by rw [hs.cell hp hpS]; exact h.ct j hj
  c11 := by rw [hs.cell hp hpS]; exact h.c11
  cg := fun j hj => by rw [hs.cell hp hpS]; exact h.cg j hj
  c16 := by rw [hs.cell hp hpS]; exact h.c16
  cb := fun j hj => by rw [hs.cell hq hqS]; exact h.cb j hj
  fp := fun j => by rw [hs.frozen hp hpS]; exact h.fp j
  fq := fun j => by rw [hs.frozen hq hqS]; exact h.fq j
  ne := h.ne

theorem MSAt.keep {w w' : World} {p q : Nat} {s : MS} (h : MSAt w p q s) (hs : Same [] w.heap.size w w') : MSAt w' p q s := h.same hs h.plt h.qlt (by simp) (by simp)

theorem MSAt.drew {w : World} {p q : Nat} {s : MS} (h : MSAt w p q s) : MSAt w.drew p q s := h.keep (Same.refl _ _ _).drew

/-! ### Looking -/
theorem Pages_spec (w : World) (p q : Nat) (s : MS) (h : MSAt w p q s) (hw : s.Wf) :
    Runs Tryz.prog mem_Store_Pages.id #[.pointer (some ⟨p, 0, none⟩)] w fun v w' => v = .int .i64 ((s.n / 64 : Nat) : Int) ∧ w' = w := by
  have := hw.ncap; have := hw.cap384
  refine mem_Store_Pages.enter _ _ _ ?_
  unfold mem_Store_Pages.V
  simp only [nilV_some, Nat.zero_add, h.c2]
  refine ⟨_, _, _, rfl, ?_, by trivial⟩
  have e : Int.tdiv ((s.n : Nat) : Int) 64 = ((s.n / 64 : Nat) : Int) := rfl
  rw [e, wrap_i64 (by omega) (by omega)]

theorem TabLen_spec (w : World) (p q : Nat) (s : MS) (h : MSAt w p q s) :
    Runs Tryz.prog mem_Store_TabLen.id #[.pointer (some ⟨p, 0, none⟩)] w fun v w' => v = .int .i64 s.tl ∧ w' = w := by
  refine mem_Store_TabLen.enter _ _ _ ?_
  unfold mem_Store_TabLen.V
  simp only [nilV_some, Nat.zero_add, h.c11]
  exact ⟨_, rfl, rfl, by trivial⟩

theorem Fits_spec (w : World) (p q : Nat) (s : MS) (h : MSAt w p q s) (hw : s.Wf) (at_ n : Int) (h0 : 0 ≤ at_) (h1 : at_ < 4294967296) (hn : n ≤ 9223372036854775807) :
    Runs Tryz.prog mem_Store_Fits.id #[.pointer (some ⟨p, 0, none⟩), .int .u32 at_, .int .i64 n] w fun v w' => v = .bool (decide (0 ≤ n ∧ at_ + n ≤ s.n)) ∧ w' = w := by
  have := hw.ncap; have := hw.cap384
  refine mem_Store_Fits.enter _ _ _ _ _ ?_
  unfold mem_Store_Fits.V
  simp only [nilV_some, Nat.zero_add, h.c2]
  refine cond_intro (fun hc => ?_) (fun hc => ?_)
  · have hn0 : 0 ≤ n := by simpa using hc
    refine ⟨_, _, _, rfl, ?_, by trivial⟩
    rw [wrap_u64 (x := at_) (by omega) (by omega), wrap_u64 (x := n) (by omega) (by omega), wrap_u64 (x := at_ + n) (by omega) (by omega), wrap_u64 (x := (s.n : Int)) (by omega) (by omega)]
    simp [hn0]
  · have hn0 : ¬ 0 ≤ n := by simpa using hc
    refine ⟨?_, by trivial⟩
    simp [hn0]

theorem place_spec (w : World) (p q : Nat) (s : MS) (h : MSAt w p q s) (hw : s.Wf) (b o z : Int) (hb0 : 0 ≤ b) (hb1 : b < 4294967296) (ho0 : 0 ≤ o) (ho1 : o < 4294967296) (hz0 : 0 ≤ z) (hz1 : z ≤ 8) :
    Runs Tryz.prog mem_Store_place.id #[.pointer (some ⟨p, 0, none⟩), .int .u32 b, .int .u32 o, .int .u64 z] w fun v w' =>
      v = (if b + o + z ≤ s.n then .tuple #[.int .i64 (b + o), .bool true] else .tuple #[.int .i64 0, .bool false]) ∧ w' = w := by
  have := hw.ncap; have := hw.cap384
  refine mem_Store_place.enter _ _ _ _ _ _ ?_
  unfold mem_Store_place.V
  simp only [nilV_some, Nat.zero_add, h.c2]
  rw [wrap_u64 (x := b) (by omega) (by omega), wrap_u64 (x := o) (by omega) (by omega), wrap_u64 (x := b + o) (by omega) (by omega), wrap_u64 (x := b + o + z) (by omega) (by omega), wrap_i64 (by omega) (by omega)]
  refine ⟨_, _, _, rfl, ?_⟩
  rw [wrap_u64 (x := (s.n : Int)) (by omega) (by omega)]
  refine cond_intro (fun hc => ?_) (fun hc => ?_)
  · have : ¬ b + o + z ≤ s.n := by simp at hc; omega
    exact ⟨by rw [if_neg this], by trivial⟩
  · have : b + o + z ≤ s.n := by simp at hc; omega
    exact ⟨by rw [if_pos this], by trivial⟩

theorem Elem_spec (w : World) (p q : Nat) (s : MS) (h : MSAt w p q s) (hw : s.Wf) (i : Int) (h0 : 0 ≤ i) (h1 : i < 4294967296) :
    Runs Tryz.prog mem_Store_Elem.id #[.pointer (some ⟨p, 0, none⟩), .int .u32 i] w fun v w' =>
      v = (if i < s.tl ∧ 0 ≤ s.tab i.toNat then .tuple #[.int .i64 (s.tab i.toNat), .int .i64 0] else .tuple #[.int .i64 0, .int .i64 43]) ∧ w' = w := by
  have := hw.tl8
  obtain ⟨k, rfl⟩ := Int.eq_ofNat_of_zero_le h0
  refine mem_Store_Elem.enter _ _ _ _ ?_
  unfold mem_Store_Elem.V
  simp only [nilV_some, Nat.zero_add, h.c11, add_mk, Int.toNat_natCast, Nat.mul_one]
  refine ⟨_, rfl, ?_⟩
  rw [wrap_u64 (x := (k : Int)) (by omega) (by omega), wrap_u64 (x := (s.tl : Int)) (by omega) (by omega)]
  refine cond_intro (fun hc => ?_) (fun hc => ?_)
  · have : ¬ k < s.tl := by simp at hc; omega
    exact ⟨by rw [if_neg (by omega)], by trivial⟩
  · have hk : k < s.tl := by simp at hc; omega
    refine ⟨by omega, _, h.ct k (by omega), ?_⟩
    refine cond_intro (fun hn => ?_) (fun hn => ?_)
    · have : s.tab k < 0 := by simpa using hn
      exact ⟨by rw [if_neg (by omega)], by trivial⟩
    · have : ¬ s.tab k < 0 := by simpa using hn
      exact ⟨by omega, _, h.ct k (by omega), by rw [if_pos (by omega)], by trivial⟩

theorem Global_spec (w : World) (p q : Nat) (s : MS) (h : MSAt w p q s) (hw : s.Wf) (i : Int) :
    Runs Tryz.prog mem_Store_Global.id #[.pointer (some ⟨p, 0, none⟩), .int .i64 i] w fun v w' =>
      v = (if 0 ≤ i ∧ i < s.ng then .tuple #[.int .u64 (s.glob i.toNat), .int .i64 0] else .tuple #[.int .u64 0, .int .i64 36]) ∧ w' = w := by
  have := hw.ng4
  refine mem_Store_Global.enter _ _ _ _ ?_
  unfold mem_Store_Global.V
  simp only [nilV_some, Nat.zero_add, h.c16]
  refine cond_intro (fun hc => ?_) (fun hc => ?_)
  · have : i < 0 := by simpa using hc
    refine mem_Store_Global.step1 _ _ _ _ _ ?_
    exact ⟨by rw [if_neg (by omega)], by trivial⟩
  · have h0 : 0 ≤ i := by simpa using hc
    obtain ⟨k, rfl⟩ := Int.eq_ofNat_of_zero_le h0
    refine ⟨_, rfl, ?_⟩
    refine mem_Store_Global.step1 _ _ _ _ _ ?_
    unfold mem_Store_Global.V1
    simp only [nilV_some, Nat.zero_add, add_mk, Int.toNat_natCast, Nat.mul_one]
    refine cond_intro (fun hn => ?_) (fun hn => ?_)
    · have : ¬ k < s.ng := by simp at hn; omega
      exact ⟨by rw [if_neg (by omega)], by trivial⟩
    · have : k < s.ng := by simp at hn; omega
      exact ⟨by omega, _, h.cg k (by omega), by rw [if_pos (by omega)], by trivial⟩

/-! ### Show -/
/-- ' ' and each number's text. -/
def tabText (f : Nat → ByteArray) : Nat → ByteArray → ByteArray
  | 0, t => t
  | k + 1, t => tabText f k t ++ ((⟨#[32]⟩ : ByteArray) ++ f k)

def showMem (has : Bool) (n cap : Nat) (back : Nat → Int) : ByteArray :=
  if has then ((((⟨#[109, 101, 109, 32]⟩ : ByteArray) ++ itoa ((cap / 64 : Nat) : Int)) ++ (⟨#[32]⟩ : ByteArray)) ++ hexStr (strOfNums ((List.range n).map back))) else ⟨#[109, 101, 109, 32, 45]⟩

def MS.show (s : MS) : ByteArray :=
  tabText (fun j => hexOf (s.glob j) 16) s.ng (tabText (fun j => itoa (s.tab j)) s.tl (showMem s.has s.n s.cap s.back ++ (⟨#[32, 116, 97, 98]⟩ : ByteArray)) ++ (⟨#[32, 103, 108, 111, 98]⟩ : ByteArray))

theorem size_app (a b : ByteArray) : (a ++ b).size = a.size + b.size := ByteArray.size_append

theorem itoa_size (n : Int) : (itoa n).size ≤ 21 := by
  unfold itoa
  have h := digs_length 20 n []
  simp only [List.length_nil, Nat.zero_add] at h
  split
  · decide
  · split
    · rw [size_app, strOfNums_size]
      have : ByteArray.size ⟨#[45]⟩ = 1 := rfl
      omega
    · rw [strOfNums_size]; omega
theorem hexOf_size (v : Int) (n : Nat) : (hexOf v n).size ≤ 16 := by
  unfold hexOf
  rw [strOfNums_size, List.length_drop, hexs_length]
  simp
theorem tabText_size (f : Nat → ByteArray) (m : Nat) (hf : ∀ j, (f j).size ≤ m) : ∀ (k : Nat) (t : ByteArray), (tabText f k t).size ≤ t.size + k * (m + 1)
  | 0, t => by simp [tabText]
  | k + 1, t => by
    rw [tabText, size_app, size_app]
    have := tabText_size f m hf k t
    have h1 : ByteArray.size ⟨#[32]⟩ = 1 := rfl
    have := hf k
    rw [Nat.succ_mul]
    omega

theorem Show_glob (s : MS) (w0 : World) (B : Nat) (p q : Nat) (hp : p < B) (t : ByteArray) (ht : t.size ≤ 10000) (hng : s.ng ≤ 4) (hgl : ∀ j, 0 ≤ s.glob j ∧ s.glob j < 18446744073709551616) (R : Value → World → Prop)
    (hR : ∀ w, Same [] B w0 w → R (.string (tabText (fun j => hexOf (s.glob j) 16) s.ng t)) w) :
    ∀ (f k : Nat) (w : World), k + f = s.ng → MSAt w p q s → Same [] B w0 w → B ≤ w.heap.size →
      mem_Store_Show.L3 (tabText (fun j => hexOf (s.glob j) 16) k t) (some ⟨p, 12, none⟩) s.ng 4 s.ng k R w := by
  intro f
  induction f with
  | zero =>
    intro k w hk hm hS hB
    refine mem_Store_Show.step3 _ _ _ _ _ _ _ _ ?_
    unfold mem_Store_Show.V3
    refine cond_false' (by simp; omega) ?_
    have : k = s.ng := by omega
    subst this
    exact hR w hS
  | succ f ih =>
    intro k w hk hm hS hB
    refine mem_Store_Show.step3 _ _ _ _ _ _ _ _ ?_
    unfold mem_Store_Show.V3
    refine cond_true' (by simp; omega) ?_
    simp only [nilV_some, add_mk, Int.toNat_natCast, Nat.mul_one]
    refine ⟨by omega, _, hm.cg k (by omega), ?_⟩
    refine (Hex_spec (s.glob k) 16 w (hgl k).1 (hgl k).2 (by omega) (by omega)).mono ?_
    rintro v w1 ⟨rfl, hS1⟩
    have hb := hm.plt
    have e : IntKind.wrap .i64 ((k : Int) + 1) = ((k + 1 : Nat) : Int) := by rw [wrap_i64 (by omega) (by omega)]; omega
    have h1 : ByteArray.size ⟨#[32]⟩ = 1 := rfl
    have h2 := hexOf_size (s.glob k) 16
    have h3 := tabText_size (fun j => hexOf (s.glob j) 16) 16 (fun j => hexOf_size _ _) k t
    have h4 : k * (16 + 1) ≤ 4 * 17 := Nat.mul_le_mul (by omega) (by omega)
    refine ⟨_, rfl, by rw [h1]; omega, by rw [size_app, h1]; omega, ?_⟩
    rw [e]
    exact ih (k + 1) w1 (by omega) (hm.keep hS1) (hS.trans (hS1.mono (by omega) (by simp))) (by have := hS1.size; omega)

theorem Show_tab (s : MS) (w0 : World) (B : Nat) (p q : Nat) (hp : p < B) (t : ByteArray) (ht : t.size ≤ 9000) (hw : s.Wf) (R : Value → World → Prop)
    (hR : ∀ w, Same [] B w0 w → R (.string (tabText (fun j => hexOf (s.glob j) 16) s.ng (tabText (fun j => itoa (s.tab j)) s.tl t ++ (⟨#[32, 103, 108, 111, 98]⟩ : ByteArray)))) w) :
    ∀ (f k : Nat) (w : World), k + f = s.tl → MSAt w p q s → Same [] B w0 w → B ≤ w.heap.size →
      mem_Store_Show.L2 (some ⟨p, 0, none⟩) (tabText (fun j => itoa (s.tab j)) k t) (some ⟨p, 3, none⟩) s.tl 8 s.tl k R w := by
  have := hw.tl8; have := hw.ng4
  have h3 : ∀ k, k ≤ 8 → (tabText (fun j => itoa (s.tab j)) k t).size ≤ 9000 + 8 * 22 := fun k hk => by
    have := tabText_size (fun j => itoa (s.tab j)) 21 (fun j => itoa_size _) k t
    have h4 : k * (21 + 1) ≤ 8 * 22 := Nat.mul_le_mul (by omega) (by omega)
    omega
  intro f
  induction f with
  | zero =>
    intro k w hk hm hS hB
    refine mem_Store_Show.step2 _ _ _ _ _ _ _ _ _ ?_
    unfold mem_Store_Show.V2
    refine cond_false' (by simp; omega) ?_
    have : k = s.tl := by omega
    subst this
    have h5 : ByteArray.size ⟨#[32, 103, 108, 111, 98]⟩ = 5 := rfl
    have := h3 s.tl (by omega)
    refine ⟨by rw [h5]; omega, ?_⟩
    simp only [nilV_some, true_and, World.cell?_drew, Nat.zero_add, hm.c16]
    refine ⟨_, rfl, by omega, ?_⟩
    have := Show_glob s w0 B p q hp _ (by rw [size_app, h5]; omega) hw.ng4 hw.glob R hR s.ng 0 w.drew (by omega) hm.drew hS.drew hB
    simpa [slAddr_lt, tabText] using this
  | succ f ih =>
    intro k w hk hm hS hB
    refine mem_Store_Show.step2 _ _ _ _ _ _ _ _ _ ?_
    unfold mem_Store_Show.V2
    refine cond_true' (by simp; omega) ?_
    simp only [nilV_some, add_mk, Int.toNat_natCast, Nat.mul_one]
    have htb := hw.tab k
    refine ⟨by omega, _, hm.ct k (by omega), ?_⟩
    refine (Itoa_spec (s.tab k) w (by omega) (by omega)).mono ?_
    rintro v w1 ⟨rfl, hS1⟩
    have hb := hm.plt
    have e : IntKind.wrap .i64 ((k : Int) + 1) = ((k + 1 : Nat) : Int) := by rw [wrap_i64 (by omega) (by omega)]; omega
    have h1 : ByteArray.size ⟨#[32]⟩ = 1 := rfl
    have h2 := itoa_size (s.tab k)
    have := h3 k (by omega)
    refine ⟨_, rfl, by rw [h1]; omega, by rw [size_app, h1]; omega, ?_⟩
    rw [e]
    exact ih (k + 1) w1 (by omega) (hm.keep hS1) (hS.trans (hS1.mono (by omega) (by simp))) (by have := hS1.size; omega)

theorem hexStr_size (s : ByteArray) : (hexStr s).size = 2 * s.size := by
  unfold hexStr
  rw [strOfNums_size, hexL_length]
  simp

theorem Show_spec (w : World) (p q : Nat) (s : MS) (h : MSAt w p q s) (hw : s.Wf) :
    Runs Tryz.prog mem_Store_Show.id #[.pointer (some ⟨p, 0, none⟩)] w fun v w' => v = .string s.show ∧ Same [] w.heap.size w w' := by
  have := hw.ncap; have := hw.cap384; have := hw.tl8
  refine mem_Store_Show.enter _ _ _ ?_
  unfold mem_Store_Show.V
  simp only [nilV_some, Nat.zero_add, h.c1, h.c2]
  refine ⟨_, rfl, ?_⟩
  have hp := h.plt
  have key : ∀ (w1 : World) (t : ByteArray), t = showMem s.has s.n s.cap s.back → t.size ≤ 8000 → MSAt w1 p q s → Same [] w.heap.size w w1 →
      mem_Store_Show.L1 (some ⟨p, 0, none⟩) t (fun v w' => v = .string s.show ∧ Same [] w.heap.size w w') w1 := by
    intro w1 t ht hsz hm hS
    refine mem_Store_Show.step1 _ _ _ _ ?_
    unfold mem_Store_Show.V1
    have h4 : ByteArray.size ⟨#[32, 116, 97, 98]⟩ = 4 := rfl
    refine ⟨by rw [h4]; omega, ?_⟩
    simp only [nilV_some, true_and, World.cell?_drew, Nat.zero_add, hm.c11]
    refine ⟨_, rfl, by omega, ?_⟩
    have := Show_tab s w w.heap.size p q hp (t ++ (⟨#[32, 116, 97, 98]⟩ : ByteArray)) (by rw [size_app, h4]; omega) hw (fun v w' => v = .string s.show ∧ Same [] w.heap.size w w')
      (fun w' hw' => ⟨by rw [MS.show, ht], hw'⟩) s.tl 0 w1.drew (by omega) hm.drew hS.drew hS.size
    simpa [slAddr_lt, tabText] using this
  refine cond_intro (fun hh => ?_) (fun hh => ?_)
  · have hma : s.ma q = some ⟨q, 0, none⟩ := by simp [MS.ma, hh]
    refine ⟨_, _, _, rfl, ?_⟩
    have e : Int.tdiv ((s.cap : Nat) : Int) 64 = ((s.cap / 64 : Nat) : Int) := rfl
    rw [e, wrap_i64 (by omega) (by omega)]
    refine (Itoa_spec ((s.cap / 64 : Nat) : Int) w (by omega) (by omega)).mono ?_
    rintro v w1 ⟨rfl, hS1⟩
    have hm1 := h.keep hS1
    refine ⟨_, rfl, _, _, _, hm1.c2, strOfNums ((List.range s.n).map s.back), w1, ?_, ?_⟩
    · rw [hma]
      refine run_convert_bytes_arg w1 T_sl_uint8 T_uint8 (by kernel_rfl) (by kernel_rfl) q 0 s.n s.cap _ (by simp) (fun i hi => ?_) T_string (by kernel_rfl)
      rw [Nat.zero_add, hm1.cb i (by omega)]
      simp [List.getD, hi]
    · have hsz : (strOfNums ((List.range s.n).map s.back)).size = s.n := by rw [strOfNums_size]; simp
      refine (HexStr_spec _ w1 (by omega)).mono ?_
      rintro v w2 ⟨rfl, hS2⟩
      have h1 : ByteArray.size ⟨#[109, 101, 109, 32]⟩ = 4 := rfl
      have h2 : ByteArray.size ⟨#[32]⟩ = 1 := rfl
      have h3 := itoa_size ((s.cap / 64 : Nat) : Int)
      have h4 := hexStr_size (strOfNums ((List.range s.n).map s.back))
      refine ⟨_, rfl, by rw [h1]; omega, by rw [size_app, h1, h2]; omega, by rw [size_app, size_app, h1, h2]; omega, ?_⟩
      exact key w2 _ (by simp [showMem, hh]) (by rw [size_app, size_app, size_app, h1, h2]; omega) (hm1.keep hS2) (hS1.trans (hS2.mono hS1.size (by simp)))
  · exact key w _ (by simp [showMem, hh]) (by decide) h (Same.refl _ _ _)

end Go.Proofs.Qxb6500317aGreat.M
