/-
  Package memlaw, first part: records on the way; the ghost and the functions that only look at her.
-/
import Derived.Test.Qxb6500319aMemD
set_option linter.unusedSimpArgs false
set_option linter.unusedVariables false
set_option maxRecDepth 100000
namespace Go.Proofs.Qxb6500319a
open Go Go.Vc

/-! ### Records -/
theorem putCells_intro (b : Nat) : ∀ (vs : List Value) (o : Nat) (w : World) (K : World → Prop), (∀ j, j < vs.length → can w ⟨b, o + j, none⟩) → (∀ w', Fill w w' b o vs → K w') → putCells w ⟨b, o, none⟩ vs K
  | [], o, w, K, _, hK => hK w ⟨fun b' j => by rw [if_neg (by simp <;> omega)], fun _ => rfl, fun B => Same.refl _ _ _⟩
  | v :: vs, o, w, K, hc, hK => by
    have hc0 := hc 0 (by simp)
    rw [Nat.add_zero] at hc0
    obtain ⟨⟨u, hu⟩, hf⟩ := hc0
    refine ⟨⟨⟨u, hu⟩, hf⟩, putCells_intro b vs (o + 1) _ K (fun j hj => ?_) (fun w' hF => hK w' ⟨?_, fun a => by rw [hF.frozen]; simp, fun B => ((Same.refl _ _ _).setCell (.inr (by simp)) _).trans (hF.same B)⟩)⟩
    · obtain ⟨⟨x, hx⟩, hfx⟩ := hc (j + 1) (by simp; omega)
      refine ⟨⟨x, ?_⟩, by simpa [show o + 1 + j = o + (j + 1) by omega] using hfx⟩
      rw [cell_setCell, if_neg (by omega), show o + 1 + j = o + (j + 1) by omega, hx]
    · intro b' j
      rw [hF.cell, cell_setCell]
      simp only [List.length_cons]
      by_cases hb : b' = b
      · subst hb
        by_cases hj : j = o
        · subst hj
          rw [if_neg (by omega), if_pos ⟨rfl, rfl⟩, if_pos (by omega), hu]
          simp
        · by_cases hin : o + 1 ≤ j ∧ j < o + 1 + vs.length
          · rw [if_pos ⟨rfl, hin⟩, if_pos (by omega)]
            have : j - o = (j - (o + 1)) + 1 := by omega
            rw [this]; simp
          · rw [if_neg (by omega), if_neg (by omega), if_neg (by omega)]
      · rw [if_neg (by simp [hb]), if_neg (by simp [hb]), if_neg (by simp [hb])]

/-- An answer stands in block b. -/
structure AnsAt (w : World) (b : Nat) (e n : Int) (s : ByteArray) : Prop where
  c0 : w.cell? ⟨b, 0, none⟩ = some (.int .i64 e)
  c1 : w.cell? ⟨b, 1, none⟩ = some (.int .i64 n)
  c2 : w.cell? ⟨b, 2, none⟩ = some (.int .i64 0)
  c3 : w.cell? ⟨b, 3, none⟩ = some (.string s)
  f : ∀ j, w.frozen? ⟨b, j, none⟩ = false

def ansV (e n : Int) (s : ByteArray) : Value := .agg #[.int .i64 e, .int .i64 n, .int .i64 0, .string s]

theorem AnsAt.lt {w : World} {b : Nat} {e n : Int} {s : ByteArray} (h : AnsAt w b e n s) : b < w.heap.size := cell_lt h.c0

theorem AnsAt.same {w w' : World} {b : Nat} {e n : Int} {s : ByteArray} (h : AnsAt w b e n s) {S : List Nat} {B : Nat} (hs : Same S B w w') (hb : b < B) (hS : b ∉ S) : AnsAt w' b e n s :=
  ⟨by rw [hs.cell hb hS]; exact h.c0, by rw [hs.cell hb hS]; exact h.c1, by rw [hs.cell hb hS]; exact h.c2, by rw [hs.cell hb hS]; exact h.c3, fun j => by rw [hs.frozen hb hS]; exact h.f j⟩

theorem AnsAt.can {w : World} {b : Nat} {e n : Int} {s : ByteArray} (h : AnsAt w b e n s) (j : Nat) (hj : j < 4) : can w ⟨b, j, none⟩ := by
  refine ⟨?_, h.f j⟩
  have : j = 0 ∨ j = 1 ∨ j = 2 ∨ j = 3 := by omega
  rcases this with rfl | rfl | rfl | rfl
  · exact ⟨_, h.c0⟩
  · exact ⟨_, h.c1⟩
  · exact ⟨_, h.c2⟩
  · exact ⟨_, h.c3⟩

theorem AnsAt.put {w w' : World} {b : Nat} {e n : Int} {s : ByteArray} (h : AnsAt w b e n s) {e' n' : Int} {s' : ByteArray} (hF : Fill w w' b 0 [.int .i64 e', .int .i64 n', .int .i64 0, .string s']) : AnsAt w' b e' n' s' :=
  ⟨by rw [hF.cell, if_pos (by simp)]; rfl, by rw [hF.cell, if_pos (by simp)]; rfl, by rw [hF.cell, if_pos (by simp)]; rfl, by rw [hF.cell, if_pos (by simp)]; rfl, fun j => by rw [hF.frozen]; exact h.f j⟩

theorem AnsAt.put_intro {w : World} {b : Nat} {e n : Int} {s : ByteArray} (h : AnsAt w b e n s) {e' n' : Int} {s' : ByteArray} {K : World → Prop} (hK : ∀ w', AnsAt w' b e' n' s' → (∀ B, Same [b] B w w') → K w') :
    putCells w ⟨b, 0, none⟩ [.int .i64 e', .int .i64 n', .int .i64 0, .string s'] K :=
  putCells_intro b _ 0 w K (fun j hj => by rw [Nat.zero_add]; exact h.can j (by simpa using hj)) (fun w' hF => hK w' (h.put hF) hF.same)

/-- An answer is laid down and handed back. -/
theorem AnsAt.ret {w : World} {b : Nat} {e n : Int} {s : ByteArray} (h : AnsAt w b e n s) {e' n' : Int} {s' : ByteArray} {R : Value → World → Prop} (hR : ∀ w', (∀ B, Same [b] B w w') → R (ansV e' n' s') w') :
    putCells w ⟨b, 0, none⟩ [.int .i64 e', .int .i64 n', .int .i64 0, .string s'] fun w1 => ((∃ x2 : Int, ∃ x3 : Int, ∃ x4 : Int, ∃ x5 : ByteArray, World.cell? w1 ⟨b, 0, none⟩ = some (.int .i64 x2) ∧ World.cell? w1 ⟨b, 1, none⟩ = some (.int .i64 x3) ∧ World.cell? w1 ⟨b, 2, none⟩ = some (.int .i64 x4) ∧ World.cell? w1 ⟨b, 3, none⟩ = some (.string x5) ∧ R (.agg #[(.int .i64 x2), (.int .i64 x3), (.int .i64 x4), (.string x5)]) w1)) :=
  h.put_intro (fun w' ha hs => ⟨_, _, _, _, ha.c0, ha.c1, ha.c2, ha.c3, hR w' hs⟩)

theorem AnsAt.new (w : World) (t : TypeId) : AnsAt (w.alloc (.cells #[.int .i64 0, .int .i64 0, .int .i64 0, .string ⟨#[]⟩] t)) w.heap.size 0 0 ⟨#[]⟩ :=
  ⟨by rw [World.cell?_alloc_new]; rfl, by rw [World.cell?_alloc_new]; rfl, by rw [World.cell?_alloc_new]; rfl, by rw [World.cell?_alloc_new]; rfl, fun j => by rw [World.frozen?_alloc_new]⟩

theorem AnsAt.sete {w : World} {b : Nat} {e n : Int} {s : ByteArray} (h : AnsAt w b e n s) (e' : Int) : AnsAt (w.setCell ⟨b, 0, none⟩ (.int .i64 e')) b e' n s :=
  ⟨by rw [cell_set _ _ _ _ _ h.c0]; rfl, by rw [cell_set _ _ _ _ _ h.c1]; rfl, by rw [cell_set _ _ _ _ _ h.c2]; rfl, by rw [cell_set _ _ _ _ _ h.c3]; rfl, fun j => by simpa using h.f j⟩
theorem AnsAt.setn {w : World} {b : Nat} {e n : Int} {s : ByteArray} (h : AnsAt w b e n s) (n' : Int) : AnsAt (w.setCell ⟨b, 1, none⟩ (.int .i64 n')) b e n' s :=
  ⟨by rw [cell_set _ _ _ _ _ h.c0]; rfl, by rw [cell_set _ _ _ _ _ h.c1]; rfl, by rw [cell_set _ _ _ _ _ h.c2]; rfl, by rw [cell_set _ _ _ _ _ h.c3]; rfl, fun j => by simpa using h.f j⟩
theorem AnsAt.sets {w : World} {b : Nat} {e n : Int} {s : ByteArray} (h : AnsAt w b e n s) (s' : ByteArray) : AnsAt (w.setCell ⟨b, 3, none⟩ (.string s')) b e n s' :=
  ⟨by rw [cell_set _ _ _ _ _ h.c0]; rfl, by rw [cell_set _ _ _ _ _ h.c1]; rfl, by rw [cell_set _ _ _ _ _ h.c2]; rfl, by rw [cell_set _ _ _ _ _ h.c3]; rfl, fun j => by simpa using h.f j⟩

/-- A step of the script. -/
structure OpV where
  kind : Int
  a : Int
  b : Int
  c : Int
  s : ByteArray
  t : ByteArray

def OpV.val (o : OpV) : Value := .agg #[.int .i64 o.kind, .int .i64 o.a, .int .i64 o.b, .int .i64 o.c, .string o.s, .string o.t]

structure OpV.In (o : OpV) : Prop where
  a : o.a ≤ 9223372036854775807
  b : o.b ≤ 9223372036854775807
  s : o.s.size ≤ 9223372036854775807

structure OpAt (w : World) (b : Nat) (o : OpV) : Prop where
  c0 : w.cell? ⟨b, 0, none⟩ = some (.int .i64 o.kind)
  c1 : w.cell? ⟨b, 1, none⟩ = some (.int .i64 o.a)
  c2 : w.cell? ⟨b, 2, none⟩ = some (.int .i64 o.b)
  c3 : w.cell? ⟨b, 3, none⟩ = some (.int .i64 o.c)
  c4 : w.cell? ⟨b, 4, none⟩ = some (.string o.s)
  c5 : w.cell? ⟨b, 5, none⟩ = some (.string o.t)

theorem OpAt.lt {w : World} {b : Nat} {o : OpV} (h : OpAt w b o) : b < w.heap.size := cell_lt h.c0
theorem OpAt.same {w w' : World} {b : Nat} {o : OpV} (h : OpAt w b o) {S : List Nat} {B : Nat} (hs : Same S B w w') (hb : b < B) (hS : b ∉ S) : OpAt w' b o :=
  ⟨by rw [hs.cell hb hS]; exact h.c0, by rw [hs.cell hb hS]; exact h.c1, by rw [hs.cell hb hS]; exact h.c2, by rw [hs.cell hb hS]; exact h.c3, by rw [hs.cell hb hS]; exact h.c4, by rw [hs.cell hb hS]; exact h.c5⟩
theorem OpAt.drew {w : World} {b : Nat} {o : OpV} (h : OpAt w b o) : OpAt w.drew b o := ⟨h.c0, h.c1, h.c2, h.c3, h.c4, h.c5⟩
theorem AnsAt.drew {w : World} {b : Nat} {e n : Int} {s : ByteArray} (h : AnsAt w b e n s) : AnsAt w.drew b e n s := ⟨h.c0, h.c1, h.c2, h.c3, h.f⟩
theorem OpAt.new (w : World) (o : OpV) (t : TypeId) : OpAt (w.alloc (.cells #[.int .i64 o.kind, .int .i64 o.a, .int .i64 o.b, .int .i64 o.c, .string o.s, .string o.t] t)) w.heap.size o :=
  ⟨by rw [World.cell?_alloc_new]; rfl, by rw [World.cell?_alloc_new]; rfl, by rw [World.cell?_alloc_new]; rfl, by rw [World.cell?_alloc_new]; rfl, by rw [World.cell?_alloc_new]; rfl, by rw [World.cell?_alloc_new]; rfl⟩

/-! ### The ghost -/
structure GAt (w : World) (p q : Nat) (s : MS) : Prop where
  c0 : w.cell? ⟨p, 0, none⟩ = some (.bool s.has)
  c1 : w.cell? ⟨p, 1, none⟩ = some (.int .i64 s.n)
  c2 : w.cell? ⟨p, 2, none⟩ = some (.int .i64 s.cap)
  c3 : w.cell? ⟨p, 3, none⟩ = some (.int .i64 s.tl)
  c4 : w.cell? ⟨p, 4, none⟩ = some (.int .i64 s.ng)
  c5 : w.cell? ⟨p, 5, none⟩ = some (.slice (some ⟨q, 0, none⟩) 384 384)
  ct : ∀ j, j < 8 → w.cell? ⟨p, 6 + j, none⟩ = some (.int .i64 (s.tab j))
  cg : ∀ j, j < 4 → w.cell? ⟨p, 14 + j, none⟩ = some (.int .u64 (s.glob j))
  cb : ∀ j, j < 384 → w.cell? ⟨q, j, none⟩ = some (.int .u8 (s.back j))
  fp : ∀ j, w.frozen? ⟨p, j, none⟩ = false
  fq : ∀ j, w.frozen? ⟨q, j, none⟩ = false
  ne : p ≠ q

theorem GAt.plt {w : World} {p q : Nat} {s : MS} (h : GAt w p q s) : p < w.heap.size := cell_lt h.c0
theorem GAt.qlt {w : World} {p q : Nat} {s : MS} (h : GAt w p q s) : q < w.heap.size := cell_lt (h.cb 0 (by omega))

theorem GAt.same {w w' : World} {p q : Nat} {s : MS} {S : List Nat} {B : Nat} (h : GAt w p q s) (hs : Same S B w w') (hp : p < B) (hq : q < B) (hpS : p ∉ S) (hqS : q ∉ S) : GAt w' p q s where
  c0 := by rw [hs.cell hp hpS]; exact h.c0
  c1 := by rw [hs.cell hp hpS]; exact h.c1
  c2 := by rw [hs.cell hp hpS]; exact h.c2
  c3 := by rw [hs.cell hp hpS]; exact h.c3
  c4 := by rw [hs.cell hp hpS]; exact h.c4
  c5 := by rw [hs.cell hp hpS]; exact h.c5
  ct := fun j hj => by rw [hs.cell hp hpS]; exact h.ct j hj
  cg := fun j hj => by rw [hs.cell hp hpS]; exact h.cg j hj
  cb := fun j hj => by rw [hs.cell hq hqS]; exact h.cb j hj
  fp := fun j => by rw [hs.frozen hp hpS]; exact h.fp j
  fq := fun j => by rw [hs.frozen hq hqS]; exact h.fq j
  ne := h.ne

theorem GAt.keep {w w' : World} {p q : Nat} {s : MS} (h : GAt w p q s) (hs : Same [] w.heap.size w w') : GAt w' p q s := h.same hs h.plt h.qlt (by simp) (by simp)
theorem GAt.drew {w : World} {p q : Nat} {s : MS} (h : GAt w p q s) : GAt w.drew p q s := h.keep (Same.refl _ _ _).drew

theorem GAt.setp {w : World} {p q : Nat} {s s' : MS} (h : GAt w p q s) (i : Nat) (v : Value)
    (h0 : (if 0 = i then some v else some (.bool s.has)) = some (.bool s'.has))
    (h1 : (if 1 = i then some v else some (.int .i64 s.n)) = some (.int .i64 s'.n))
    (h2 : (if 2 = i then some v else some (.int .i64 s.cap)) = some (.int .i64 s'.cap))
    (h3 : (if 3 = i then some v else some (.int .i64 s.tl)) = some (.int .i64 s'.tl))
    (h4 : (if 4 = i then some v else some (.int .i64 s.ng)) = some (.int .i64 s'.ng))
    (h5 : i ≠ 5)
    (ht : ∀ j, j < 8 → (if 6 + j = i then some v else some (.int .i64 (s.tab j))) = some (.int .i64 (s'.tab j)))
    (hg : ∀ j, j < 4 → (if 14 + j = i then some v else some (.int .u64 (s.glob j))) = some (.int .u64 (s'.glob j)))
    (hb : s'.back = s.back) : GAt (w.setCell ⟨p, i, none⟩ v) p q s' := by
  have hne := h.ne
  have key : ∀ j u, w.cell? ⟨p, j, none⟩ = some u → (w.setCell ⟨p, i, none⟩ v).cell? ⟨p, j, none⟩ = if j = i then some v else some u := fun j u hu => cell_set w p i j v hu
  exact { c0 := by rw [key 0 _ h.c0]; exact h0, c1 := by rw [key 1 _ h.c1]; exact h1, c2 := by rw [key 2 _ h.c2]; exact h2, c3 := by rw [key _ _ h.c3]; exact h3, c4 := by rw [key _ _ h.c4]; exact h4,
          c5 := by rw [key _ _ h.c5, if_neg (by omega)], ct := fun j hj => by rw [key _ _ (h.ct j hj)]; exact ht j hj, cg := fun j hj => by rw [key _ _ (h.cg j hj)]; exact hg j hj,
          cb := fun j hj => by rw [cell_set_ne _ _ _ _ _ _ (Ne.symm hne), hb]; exact h.cb j hj,
          fp := fun j => by simpa using h.fp j, fq := fun j => by simpa using h.fq j, ne := hne }

theorem GAt.setq {w : World} {p q : Nat} {s : MS} (h : GAt w p q s) (i : Nat) (v : Int) : GAt (w.setCell ⟨q, i, none⟩ (.int .u8 v)) p q { s with back := upd s.back i v } := by
  have hne := h.ne
  have hp : ∀ j, (w.setCell ⟨q, i, none⟩ (.int .u8 v)).cell? ⟨p, j, none⟩ = w.cell? ⟨p, j, none⟩ := fun j => cell_set_ne _ _ _ _ _ _ hne
  exact { c0 := by rw [hp]; exact h.c0, c1 := by rw [hp]; exact h.c1, c2 := by rw [hp]; exact h.c2, c3 := by rw [hp]; exact h.c3, c4 := by rw [hp]; exact h.c4, c5 := by rw [hp]; exact h.c5,
          ct := fun j hj => by rw [hp]; exact h.ct j hj, cg := fun j hj => by rw [hp]; exact h.cg j hj,
          cb := fun j hj => by
            rw [cell_set w q i j _ (h.cb j hj)]
            simp only [upd]
            split <;> rfl
          fp := fun j => by simpa using h.fp j, fq := fun j => by simpa using h.fq j, ne := hne }

theorem GAt.canp {w : World} {p q : Nat} {s : MS} (h : GAt w p q s) (i : Nat) (hi : i < 18) : can w ⟨p, i, none⟩ := by
  refine ⟨?_, h.fp i⟩
  have : i = 0 ∨ i = 1 ∨ i = 2 ∨ i = 3 ∨ i = 4 ∨ i = 5 ∨ (6 ≤ i ∧ i < 14) ∨ (14 ≤ i ∧ i < 18) := by omega
  rcases this with rfl | rfl | rfl | rfl | rfl | rfl | hh | hh
  · exact ⟨_, h.c0⟩
  · exact ⟨_, h.c1⟩
  · exact ⟨_, h.c2⟩
  · exact ⟨_, h.c3⟩
  · exact ⟨_, h.c4⟩
  · exact ⟨_, h.c5⟩
  · obtain ⟨j, rfl⟩ : ∃ j, i = 6 + j := ⟨i - 6, by omega⟩
    exact ⟨_, h.ct j (by omega)⟩
  · obtain ⟨j, rfl⟩ : ∃ j, i = 14 + j := ⟨i - 14, by omega⟩
    exact ⟨_, h.cg j (by omega)⟩

theorem GAt.canq {w : World} {p q : Nat} {s : MS} (h : GAt w p q s) (i : Nat) (hi : i < 384) : can w ⟨q, i, none⟩ := ⟨⟨_, h.cb i hi⟩, h.fq i⟩

/-! ### Mem, Shown -/
theorem Mem_spec (w : World) (p q : Nat) (s : MS) (h : GAt w p q s) (hw : s.Wf) :
    Runs Try.prog memlaw_Mem.id #[.pointer (some ⟨p, 0, none⟩)] w fun v w' => v = .string (showMem s.has s.n s.cap s.back ++ (⟨#[32, 116, 97, 98]⟩ : ByteArray)) ∧ Same [] w.heap.size w w' := by
  have := hw.ncap; have := hw.cap384
  refine memlaw_Mem.enter _ _ _ ?_
  unfold memlaw_Mem.V
  simp only [nilV_some, Nat.zero_add, true_and, World.cell?_drew]
  refine ⟨_, h.c0, ?_⟩
  refine cond_intro (fun hh => ?_) (fun hh => ?_)
  · have hh' : s.has = false := by simpa using hh
    refine ⟨?_, Same.refl _ _ _⟩
    simp only [showMem, hh', Bool.false_eq_true, if_false]
    congr 1
  · have hh' : s.has = true := by simpa using hh
    refine ⟨_, h.c2, ?_⟩
    have e : Int.tdiv ((s.cap : Nat) : Int) 64 = ((s.cap / 64 : Nat) : Int) := rfl
    rw [e, wrap_i64 (by omega) (by omega)]
    refine (Itoa_spec ((s.cap / 64 : Nat) : Int) w (by omega) (by omega)).mono ?_
    rintro v w1 ⟨rfl, hS1⟩
    have hm1 := h.keep hS1
    refine ⟨_, rfl, _, _, _, hm1.c5, _, hm1.c1, by omega, strOfNums ((List.range s.n).map s.back), w1.drew, ?_, rfl, ?_⟩
    · rw [slAddr_lt (by omega), Nat.zero_add, Nat.zero_mul, Int.toNat_natCast]
      refine run_convert_bytes_arg w1.drew T_sl_uint8 T_uint8 (by kernel_rfl) (by kernel_rfl) q 0 (s.n - 0) (384 - 0) _ (by simp) (fun i hi => ?_) T_string (by kernel_rfl)
      rw [Nat.zero_add, hm1.drew.cb i (by omega)]
      simp [List.getD, show i < s.n by omega]
    · have hsz : (strOfNums ((List.range s.n).map s.back)).size = s.n := by rw [strOfNums_size]; simp
      refine (HexStr_spec _ w1.drew (by omega)).mono ?_
      rintro v w2 ⟨rfl, hS2⟩
      have h1 : ByteArray.size ⟨#[109, 101, 109, 32]⟩ = 4 := rfl
      have h2 : ByteArray.size ⟨#[32]⟩ = 1 := rfl
      have h5 : ByteArray.size ⟨#[32, 116, 97, 98]⟩ = 4 := rfl
      have h3 := itoa_size ((s.cap / 64 : Nat) : Int)
      have h4 := hexStr_size (strOfNums ((List.range s.n).map s.back))
      refine ⟨_, rfl, by rw [h1]; omega, by rw [size_app, h1, h2]; omega, by rw [size_app, size_app, h1, h2]; omega, by rw [size_app, size_app, size_app, h1, h2, h5]; omega, ?_, hS1.drew.trans (hS2.mono hS1.size (by simp))⟩
      simp only [showMem, hh', if_true]

theorem Shown_glob (s : MS) (w0 : World) (p q : Nat) (t : ByteArray) (ht : t.size ≤ 10000) (hng : s.ng ≤ 4) (hgl : ∀ j, 0 ≤ s.glob j ∧ s.glob j < 18446744073709551616) (R : Value → World → Prop)
    (hR : ∀ w, Same [] w0.heap.size w0 w → R (.string (tabText (fun j => hexOf (s.glob j) 16) s.ng t)) w) :
    ∀ (f k : Nat) (w : World), k + f = s.ng → GAt w p q s → Same [] w0.heap.size w0 w →
      memlaw_Shown.L2 (some ⟨p, 0, none⟩) (tabText (fun j => hexOf (s.glob j) 16) k t) k R w := by
  intro f
  induction f with
  | zero =>
    intro k w hk hm hS
    refine memlaw_Shown.step2 _ _ _ _ _ ?_
    unfold memlaw_Shown.V2
    simp only [nilV_some, Nat.zero_add]
    refine ⟨_, hm.c4, cond_false' (by simp; omega) ?_⟩
    have : k = s.ng := by omega
    subst this
    exact hR w hS
  | succ f ih =>
    intro k w hk hm hS
    refine memlaw_Shown.step2 _ _ _ _ _ ?_
    unfold memlaw_Shown.V2
    simp only [nilV_some, add_mk, Int.toNat_natCast, Nat.mul_one, Nat.zero_add]
    refine ⟨_, hm.c4, cond_true' (by simp; omega) ?_⟩
    refine ⟨by omega, _, hm.cg k (by omega), ?_⟩
    refine (Hex_spec (s.glob k) 16 w (hgl k).1 (hgl k).2 (by omega) (by omega)).mono ?_
    rintro v w1 ⟨rfl, hS1⟩
    have e : IntKind.wrap .i64 ((k : Int) + 1) = ((k + 1 : Nat) : Int) := by rw [wrap_i64 (by omega) (by omega)]; omega
    have h1 : ByteArray.size ⟨#[32]⟩ = 1 := rfl
    have h2 := hexOf_size (s.glob k) 16
    have h3 := tabText_size (fun j => hexOf (s.glob j) 16) 16 (fun j => hexOf_size _ _) k t
    have h4 : k * (16 + 1) ≤ 4 * 17 := Nat.mul_le_mul (by omega) (by omega)
    refine ⟨_, rfl, by rw [h1]; omega, by rw [size_app, h1]; omega, ?_⟩
    rw [e, ByteArray.append_assoc]
    exact ih (k + 1) w1 (by omega) (hm.keep hS1) (hS.trans (hS1.mono hS.size (by simp)))

theorem Shown_tab (s : MS) (w0 : World) (p q : Nat) (t : ByteArray) (ht : t.size ≤ 9000) (hw : s.Wf) (R : Value → World → Prop)
    (hR : ∀ w, Same [] w0.heap.size w0 w → R (.string (tabText (fun j => hexOf (s.glob j) 16) s.ng (tabText (fun j => itoa (s.tab j)) s.tl t ++ (⟨#[32, 103, 108, 111, 98]⟩ : ByteArray)))) w) :
    ∀ (f k : Nat) (w : World), k + f = s.tl → GAt w p q s → Same [] w0.heap.size w0 w →
      memlaw_Shown.L1 (some ⟨p, 0, none⟩) (tabText (fun j => itoa (s.tab j)) k t) k R w := by
  have := hw.tl8; have := hw.ng4
  have h3 : ∀ k, k ≤ 8 → (tabText (fun j => itoa (s.tab j)) k t).size ≤ 9000 + 8 * 22 := fun k hk => by
    have := tabText_size (fun j => itoa (s.tab j)) 21 (fun j => itoa_size _) k t
    have h4 : k * (21 + 1) ≤ 8 * 22 := Nat.mul_le_mul (by omega) (by omega)
    omega
  intro f
  induction f with
  | zero =>
    intro k w hk hm hS
    refine memlaw_Shown.step1 _ _ _ _ _ ?_
    unfold memlaw_Shown.V1
    simp only [nilV_some, Nat.zero_add]
    refine ⟨_, hm.c3, cond_false' (by simp; omega) ?_⟩
    have : k = s.tl := by omega
    subst this
    have h5 : ByteArray.size ⟨#[32, 103, 108, 111, 98]⟩ = 5 := rfl
    have := h3 s.tl (by omega)
    refine ⟨by rw [h5]; omega, ?_⟩
    exact Shown_glob s w0 p q _ (by rw [size_app, h5]; omega) hw.ng4 hw.glob R hR s.ng 0 w (by omega) hm hS
  | succ f ih =>
    intro k w hk hm hS
    refine memlaw_Shown.step1 _ _ _ _ _ ?_
    unfold memlaw_Shown.V1
    simp only [nilV_some, add_mk, Int.toNat_natCast, Nat.mul_one, Nat.zero_add]
    refine ⟨_, hm.c3, cond_true' (by simp; omega) ?_⟩
    have htb := hw.tab k
    refine ⟨by omega, _, hm.ct k (by omega), ?_⟩
    refine (Itoa_spec (s.tab k) w (by omega) (by omega)).mono ?_
    rintro v w1 ⟨rfl, hS1⟩
    have e : IntKind.wrap .i64 ((k : Int) + 1) = ((k + 1 : Nat) : Int) := by rw [wrap_i64 (by omega) (by omega)]; omega
    have h1 : ByteArray.size ⟨#[32]⟩ = 1 := rfl
    have h2 := itoa_size (s.tab k)
    have := h3 k (by omega)
    refine ⟨_, rfl, by rw [h1]; omega, by rw [size_app, h1]; omega, ?_⟩
    rw [e, ByteArray.append_assoc]
    exact ih (k + 1) w1 (by omega) (hm.keep hS1) (hS.trans (hS1.mono hS.size (by simp)))

theorem showMem_size (s : MS) (hw : s.Wf) : (showMem s.has s.n s.cap s.back).size ≤ 2000 := by
  have := hw.ncap; have := hw.cap384
  unfold showMem
  split
  · have h1 : ByteArray.size ⟨#[109, 101, 109, 32]⟩ = 4 := rfl
    have h2 : ByteArray.size ⟨#[32]⟩ = 1 := rfl
    have h3 := itoa_size ((s.cap / 64 : Nat) : Int)
    have h4 := hexStr_size (strOfNums ((List.range s.n).map s.back))
    have hsz : (strOfNums ((List.range s.n).map s.back)).size = s.n := by rw [strOfNums_size]; simp
    rw [size_app, size_app, size_app, h1, h2, h4, hsz]; omega
  · decide

theorem Shown_spec (w : World) (p q : Nat) (s : MS) (h : GAt w p q s) (hw : s.Wf) :
    Runs Try.prog memlaw_Shown.id #[.pointer (some ⟨p, 0, none⟩)] w fun v w' => v = .string s.show ∧ Same [] w.heap.size w w' := by
  refine memlaw_Shown.enter _ _ _ ?_
  unfold memlaw_Shown.V
  refine (Mem_spec w p q s h hw).mono ?_
  rintro v w1 ⟨rfl, hS1⟩
  refine ⟨_, rfl, ?_⟩
  have h4 : ByteArray.size ⟨#[32, 116, 97, 98]⟩ = 4 := rfl
  have := showMem_size s hw
  exact Shown_tab s w p q _ (by rw [size_app, h4]; omega) hw _ (fun w' hw' => ⟨rfl, hw'⟩) s.tl 0 w1 (by omega) (h.keep hS1) hS1

/-! ### BadReset -/
theorem BadReset_spec (w : World) (o : OpV) (r : Int) :
    Runs Try.prog memlaw_BadReset.id #[o.val, .int .i64 r] w fun v w' => v = .bool (badReset o.a o.b o.c r) ∧ Same [] w.heap.size w w' := by
  refine memlaw_BadReset.enter _ _ _ _ _ _ _ _ _ ?_
  unfold memlaw_BadReset.V
  refine letB_intro (fun b8 hb8 => letW_intro (fun w9 hw9 => ?_))
  have ho : OpAt w9 b8 o := by rw [hb8, hw9]; exact OpAt.new w o _
  have hS : Same [] w.heap.size w w9 := by rw [hw9]; exact (Same.refl _ _ _).alloc (Nat.le_refl _) _
  clear hw9 hb8
  refine ⟨_, ho.c1, cond_intro (fun h1 => ⟨?_, hS⟩) (fun h1 => ⟨_, ho.c1, cond_intro (fun h2 => ⟨?_, hS⟩) (fun h2 => ⟨_, ho.c3, cond_intro (fun h3 => ⟨?_, hS⟩) (fun h3 => ⟨_, ho.c3, cond_intro (fun h4 => ⟨?_, hS⟩) (fun h4 => cond_intro (fun h5 => ⟨?_, hS⟩) (fun h5 => cond_intro (fun h6 => ⟨?_, hS⟩) (fun h6 => ?_)))⟩)⟩)⟩)⟩
  · simp at h1; simp [badReset, h1]
  · simp at h2; simp [badReset, h2]
  · simp at h3; simp [badReset, h3]
  · simp at h4; simp [badReset, h4]
  · simp at h5; simp [badReset, h5]
  · simp at h6; simp [badReset, h6]
  simp only [decide_eq_false_iff_not] at h1 h2 h3 h4 h5 h6
  have L2 : ¬ o.b < -1 → ¬ (o.b ≠ -1 ∧ o.b < o.a) → memlaw_BadReset.L2 b8 (fun v w' => v = .bool (badReset o.a o.b o.c r) ∧ Same [] w.heap.size w w') w9 := by
    intro h7 h8
    refine memlaw_BadReset.step2 _ _ _ ?_
    unfold memlaw_BadReset.V2
    have key : badReset o.a o.b o.c r = (decide (o.a = -1) && decide (o.b ≠ -1)) := by
      have e4 : (decide (o.b ≠ -1) && decide (o.b < o.a)) = false := by
        rw [Bool.and_eq_false_imp]; intro h; simp at h; simp; omega
      simp only [badReset, h1, h2, h3, h4, h5, h6, h7, e4, decide_false, Bool.false_or, Bool.or_false, show ¬ (6 : Int) < o.a from by omega, show ¬ (8 : Int) < o.c from by omega, show ¬ (4 : Int) < r from by omega]
    refine ⟨_, ho.c1, cond_intro (fun h9 => ⟨_, ho.c2, ?_, hS⟩) (fun h9 => ⟨?_, hS⟩)⟩
    · have : o.a = -1 := by simpa using h9
      rw [key, this]; simp [bne]
      exact Bool.eq_iff_iff.2 (by simp)
    · have : ¬ o.a = -1 := by simpa using h9
      rw [key]; simp [this]
  refine memlaw_BadReset.step1 _ _ _ ?_
  unfold memlaw_BadReset.V1
  refine ⟨_, ho.c2, cond_intro (fun h7 => ⟨?_, hS⟩) (fun h7 => ⟨_, ho.c2, cond_intro (fun h8 => ⟨_, ho.c2, _, ho.c1, cond_intro (fun h9 => ⟨?_, hS⟩) (fun h9 => L2 ?_ ?_)⟩) (fun h8 => L2 ?_ ?_)⟩)⟩
  · simp at h7; simp [badReset, h7]
  · simp at h8 h9; simp [badReset, h8, h9]
  · simp at h7; omega
  · simp at h9; omega
  · simp at h7; omega
  · simp at h8; omega

/-! ### More -/
theorem More_loop (p q : Nat) (w0 : World) (n : Nat) (hn : n ≤ 384) (R : Value → World → Prop) :
    ∀ (f k : Nat) (s : MS) (w : World), k + f = n → GAt w p q s → Same [p, q] w0.heap.size w0 w →
      (∀ w', GAt w' p q { s with n := n, back := fun j => if k ≤ j ∧ j < n then 0 else s.back j } → Same [p, q] w0.heap.size w0 w' → R (.tuple #[]) w') →
      memlaw_More.L1 (some ⟨p, 0, none⟩) n k R w := by
  intro f
  induction f with
  | zero =>
    intro k s w hk hm hS hR
    refine memlaw_More.step1 _ _ _ _ _ ?_
    unfold memlaw_More.V1
    refine cond_false' (by simp; omega) ?_
    simp only [nilV_some, Nat.zero_add]
    refine ⟨hm.canp 1 (by omega), letW_intro (fun w1 hw1 => hR w1 ?_ ?_)⟩
    · have e : (fun j => if k ≤ j ∧ j < n then 0 else s.back j) = s.back := by funext j; rw [if_neg (by omega)]
      rw [e, hw1]
      exact hm.setp 1 _ (by rw [if_neg (by omega)]) (by rw [if_pos rfl]) (by rw [if_neg (by omega)]) (by rw [if_neg (by omega)]) (by rw [if_neg (by omega)]) (by omega) (fun j hj => by rw [if_neg (by omega)]) (fun j hj => by rw [if_neg (by omega)]) rfl
    · rw [hw1]; exact hS.setCell (.inr (by simp)) _
  | succ f ih =>
    intro k s w hk hm hS hR
    refine memlaw_More.step1 _ _ _ _ _ ?_
    unfold memlaw_More.V1
    refine cond_true' (by simp; omega) ?_
    have e : IntKind.wrap .i64 ((k : Int) + 1) = ((k + 1 : Nat) : Int) := by rw [wrap_i64 (by omega) (by omega)]; omega
    simp only [nilV_some, Nat.zero_add]
    refine ⟨_, _, _, hm.c5, by omega, ?_⟩
    simp only [nilV_some, add_mk, Int.toNat_natCast, Nat.mul_one, Nat.zero_add, e]
    refine ⟨hm.canq k (by omega), letW_intro (fun w1 hw1 => ih (k + 1) { s with back := upd s.back k 0 } w1 (by omega) (by rw [hw1]; exact hm.setq k 0) (by rw [hw1]; exact hS.setCell (.inr (by simp)) _) (fun w' h1 h2 => hR w' ?_ h2))⟩
    have ef : (fun j => if k + 1 ≤ j ∧ j < n then 0 else upd s.back k 0 j) = fun j => if k ≤ j ∧ j < n then 0 else s.back j := by
      funext j
      simp only [upd]
      by_cases h1 : k + 1 ≤ j ∧ j < n
      · rw [if_pos h1, if_pos (by omega)]
      · rw [if_neg h1]
        by_cases h2 : j = k
        · rw [if_pos h2, if_pos (by omega)]
        · rw [if_neg h2, if_neg (by omega)]
    simp only [ef] at h1
    exact h1

theorem More_spec (w : World) (p q : Nat) (s : MS) (h : GAt w p q s) (n : Nat) (hn : n ≤ 384) (hs : s.n ≤ n) :
    Runs Try.prog memlaw_More.id #[.pointer (some ⟨p, 0, none⟩), .int .i64 n] w fun v w' => v = .tuple #[] ∧ GAt w' p q { s with n := n, back := fun j => if s.n ≤ j ∧ j < n then 0 else s.back j } ∧ Same [p, q] w.heap.size w w' := by
  refine memlaw_More.enter _ _ _ _ ?_
  unfold memlaw_More.V
  simp only [nilV_some, Nat.zero_add]
  refine ⟨_, h.c1, ?_⟩
  exact More_loop p q w n hn _ (n - s.n) s.n s w (by omega) h (Same.refl _ _ _) (fun w' h1 h2 => ⟨rfl, h1, h2⟩)

/-! ### Owes -/
def MS.load (s : MS) (op ea : Int) : Int × Int :=
  if 40 ≤ op ∧ op ≤ 53 then (if ea + (memSig op).1 ≤ s.n then (0, IntKind.wrap .i64 (loadVal s.back op ea.toNat)) else (42, 0)) else (35, 0)

theorem memSig_zero (op : Int) : (memSig op).1 = 0 ↔ ¬ (40 ≤ op ∧ op ≤ 62) := by
  constructor
  · intro h hop
    obtain ⟨n, rfl⟩ := Int.eq_ofNat_of_zero_le (show 0 ≤ op by omega)
    have key : ∀ n : Fin 63, 40 ≤ n.val → (memSig (n.val : Int)).1 ≠ 0 := by decide
    exact key ⟨n, by omega⟩ (by show 40 ≤ n; omega) h
  · intro h
    unfold memSig
    simp only [(show ¬ op = 40 by omega), (show ¬ op = 41 by omega), (show ¬ op = 42 by omega), (show ¬ op = 43 by omega), (show ¬ op = 44 by omega), (show ¬ op = 45 by omega), (show ¬ op = 46 by omega), (show ¬ op = 47 by omega), (show ¬ op = 48 by omega), (show ¬ op = 49 by omega), (show ¬ op = 50 by omega), (show ¬ op = 51 by omega), (show ¬ op = 52 by omega), (show ¬ op = 53 by omega), (show ¬ op = 54 by omega), (show ¬ op = 55 by omega), (show ¬ op = 56 by omega), (show ¬ op = 57 by omega), (show ¬ op = 58 by omega), (show ¬ op = 59 by omega), (show ¬ op = 60 by omega), (show ¬ op = 61 by omega), (show ¬ op = 62 by omega), or_self, if_false]

theorem bOr_u64_any (v x : Int) (hv0 : 0 ≤ v) (hx0 : 0 ≤ x) (hx : x < 256) : bOr .u64 (IntKind.wrap .u64 (v * 2 ^ (8 : Nat))) (IntKind.wrap .u64 x) = (v * 256 + x) % 18446744073709551616 := by
  rw [wrap_u64 (x := x) (by omega) (by omega)]
  have e : IntKind.wrap .u64 (v * 2 ^ (8 : Nat)) = IntKind.wrap .u64 ((v % 72057594037927936) * 2 ^ (8 : Nat)) := by
    rw [wrap_u64_mod, wrap_u64_mod]; omega
  rw [e, bOr_u64_byte _ _ (by omega) hx0 hx (by omega)]
  omega

theorem pow256_bd (k : Nat) (hk : k ≤ 8) : (256 : Int) ^ k ≤ 18446744073709551616 := by
  have key : ∀ k : Fin 9, (256 : Int) ^ k.val ≤ 18446744073709551616 := by decide
  exact key ⟨k, by omega⟩

theorem Owes_loop (p q : Nat) (s : MS) (hw : s.Wf) (a W : Nat) (haw : a + W ≤ 384) (t : Int) (e : Int) (w : World) (hm : GAt w p q s) (T : Nat) (R : Value → World → Prop)
    (hR : memlaw_Owes.L3 (some ⟨p, 0, none⟩) a T t ((e * 256 ^ W + rd s.back a W) % 18446744073709551616) (-1) R w) :
    ∀ (k m : Nat), k + m = W → memlaw_Owes.L3 (some ⟨p, 0, none⟩) a T t ((e * 256 ^ m + rd s.back (a + k) m) % 18446744073709551616) ((k : Int) - 1) R w := by
  intro k
  induction k with
  | zero =>
    intro m hk
    have : m = W := by omega
    subst this
    exact hR
  | succ k ih =>
    intro m hk
    refine memlaw_Owes.step3 _ _ _ _ _ _ _ _ ?_
    unfold memlaw_Owes.V3
    refine cond_true' (by simp <;> omega) ?_
    have e1 : (((k + 1 : Nat) : Int) - 1) = (k : Int) := by omega
    have e2 : IntKind.wrap .i64 ((a : Int) + k) = ((a + k : Nat) : Int) := by rw [wrap_i64 (by omega) (by omega)]; omega
    rw [e1, e2, wrap_i64 (x := (k : Int) - 1) (by omega) (by omega)]
    simp only [nilV_some, Nat.zero_add]
    refine ⟨_, _, _, hm.c5, by omega, ?_⟩
    simp only [nilV_some, add_mk, Int.toNat_natCast, Nat.mul_one, Nat.zero_add]
    have hbk := hw.back (a + k)
    refine ⟨_, hm.cb (a + k) (by omega), ?_⟩
    rw [bOr_u64_any _ _ (by omega) hbk.1 hbk.2]
    have := ih (m + 1) (by omega)
    have e3 : ((e * 256 ^ m + rd s.back (a + (k + 1)) m) % 18446744073709551616 * 256 + s.back (a + k)) % 18446744073709551616 = (e * 256 ^ (m + 1) + rd s.back (a + k) (m + 1)) % 18446744073709551616 := by
      have e4 : rd s.back (a + k) (m + 1) = s.back (a + k) + 256 * rd s.back (a + (k + 1)) m := rfl
      have e5 : e * 256 ^ (m + 1) = 256 * (e * 256 ^ m) := by rw [Int.pow_succ, ← Int.mul_assoc, Int.mul_comm]
      rw [e4, e5]
      generalize e * 256 ^ m = X
      generalize rd s.back (a + (k + 1)) m = Y
      omega
    rw [e3]
    exact this

theorem memSig_bd (op : Int) (h : 40 ≤ op ∧ op ≤ 62) : 1 ≤ (memSig op).1 ∧ (memSig op).1 ≤ 8 ∧ ((memSig op).2.2 = true → (memSig op).1 ≤ 4) := by
  obtain ⟨n, rfl⟩ := Int.eq_ofNat_of_zero_le (show 0 ≤ op by omega)
  have key : ∀ n : Fin 63, 40 ≤ n.val → 1 ≤ (memSig (n.val : Int)).1 ∧ (memSig (n.val : Int)).1 ≤ 8 ∧ ((memSig (n.val : Int)).2.2 = true → (memSig (n.val : Int)).1 ≤ 4) := by decide
  exact key ⟨n, by omega⟩ (by show 40 ≤ n; omega)

theorem rd_top (f : Nat → Int) (hf : ∀ j, 0 ≤ f j ∧ f j < 256) (a k : Nat) : 256 ^ (k + 1) ≤ 2 * rd f a (k + 1) ↔ 128 ≤ f (a + k) := by
  rw [rd_succ]
  have h1 := rd_bd f hf k a
  have h2 := hf (a + k)
  have hp : (0 : Int) < 256 ^ k := Int.pow_pos (by decide)
  rw [Int.pow_succ]
  generalize hP : (256 : Int) ^ k = P at *
  generalize rd f a k = Y at *
  generalize f (a + k) = x at *
  constructor
  · intro h
    rcases Int.lt_or_le x 128 with hx | hx
    · exfalso
      have : P * x ≤ P * 127 := Int.mul_le_mul_of_nonneg_left (by omega) (by omega)
      omega
    · exact hx
  · intro h
    have : P * 128 ≤ P * x := Int.mul_le_mul_of_nonneg_left h (by omega)
    omega

theorem Owes_spec (w : World) (p q : Nat) (s : MS) (h : GAt w p q s) (hw : s.Wf) (op ea : Int) (h0 : 0 ≤ ea) (h1 : ea < 8589934592) :
    Runs Try.prog memlaw_Owes.id #[.pointer (some ⟨p, 0, none⟩), .int .i64 op, .int .i64 ea] w fun v w' => v = ansV (s.load op ea).1 (s.load op ea).2 ⟨#[]⟩ ∧ Same [] w.heap.size w w' := by
  have := hw.ncap; have := hw.cap384
  refine memlaw_Owes.enter _ _ _ _ _ ?_
  generalize hRd : (fun (v : Value) (w' : World) => v = ansV (s.load op ea).1 (s.load op ea).2 ⟨#[]⟩ ∧ Same [] w.heap.size w w') = R
  unfold memlaw_Owes.V
  refine letB_intro (fun b4 hb4 => letW_intro (fun w5 hw5 => ?_))
  have hA : AnsAt w5 b4 0 0 ⟨#[]⟩ := by rw [hb4, hw5]; exact AnsAt.new w _
  have hS5 : Same [] w.heap.size w w5 := by rw [hw5]; exact (Same.refl _ _ _).alloc (Nat.le_refl _) _
  have hm : GAt w5 p q s := h.keep hS5
  have hend : ∀ (e n : Int), s.load op ea = (e, n) → ∀ w', (∀ B, Same [b4] B w5 w') → R (ansV e n ⟨#[]⟩) w' := fun e n he w' hs => by
    subst hRd
    rw [he]
    exact ⟨rfl, hS5.trans ((hs w.heap.size).mono (Nat.le_refl _) (by intro k hk hlt; simp at hk; omega))⟩
  refine (MemSig_spec op w5).mono ?_
  rintro r w7 ⟨rfl, rfl⟩
  refine ⟨_, _, _, rfl, ?_⟩
  have L1 : ∀ t : Bool, (t = false → 40 ≤ op ∧ op ≤ 53) → (t = true → ¬ (40 ≤ op ∧ op ≤ 53)) → memlaw_Owes.L1 (some ⟨p, 0, none⟩) ea b4 (memSig op).1 (memSig op).2.1 (memSig op).2.2 t R w7 := by
    intro t ht hf
    refine memlaw_Owes.step1 _ _ _ _ _ _ _ _ _ ?_
    unfold memlaw_Owes.V1
    refine cond_intro (fun hc => ?_) (fun hc => ?_)
    · exact hA.ret (hend 35 0 (by rw [MS.load, if_neg (hf hc)]))
    · have hop := ht hc
      have hsg := memSig_bd op (by omega)
      simp only [nilV_some, Nat.zero_add]
      refine ⟨_, hm.c1, ?_⟩
      rw [wrap_i64 (x := ea + (memSig op).1) (by omega) (by omega)]
      refine cond_intro (fun hn => ?_) (fun hn => ?_)
      · have hn' : ¬ ea + (memSig op).1 ≤ s.n := by simp at hn; omega
        exact hA.ret (hend 42 0 (by rw [MS.load, if_pos hop, if_neg hn']))
      · have hi : ea + (memSig op).1 ≤ s.n := by simp at hn; omega
        obtain ⟨a, rfl⟩ := Int.eq_ofNat_of_zero_le h0
        obtain ⟨W, hW⟩ := Int.eq_ofNat_of_zero_le (show 0 ≤ (memSig op).1 by omega)
        have hWk : ∃ k, W = k + 1 := ⟨W - 1, by omega⟩
        obtain ⟨k, hk⟩ := hWk
        have hrd := rd_bd s.back hw.back W a
        have h256 := pow256_bd W (by omega)
        have htop := rd_top s.back hw.back a k
        rw [← hk] at htop
        have fin : ∀ e : Int, (if (memSig op).2.2 = true ∧ 256 ^ W ≤ 2 * rd s.back a W then rd s.back a W + (18446744073709551616 - 256 ^ W) else rd s.back a W) = (e * 256 ^ W + rd s.back a W) % 18446744073709551616 →
            memlaw_Owes.L2 (some ⟨p, 0, none⟩) a b4 (memSig op).1 (memSig op).2.1 (e % 18446744073709551616) R w7 := by
          intro e he
          refine memlaw_Owes.step2 _ _ _ _ _ _ _ _ ?_
          unfold memlaw_Owes.V2
          rw [wrap_i64 (x := (memSig op).1 - 1) (by omega) (by omega), hW]
          have hl := Owes_loop p q s hw a W (by omega) (memSig op).2.1 e w7 hm b4 R ?_ W 0 (by omega)
          · simpa [rd] using hl
          · refine memlaw_Owes.step3 _ _ _ _ _ _ _ _ ?_
            unfold memlaw_Owes.V3
            refine cond_false' rfl ?_
            refine (Cut_spec _ _ w7 (by omega) (by omega)).mono ?_
            rintro r w8 ⟨rfl, rfl⟩
            refine ⟨_, rfl, hA.ret (hend 0 _ ?_)⟩
            rw [MS.load, if_pos hop, if_pos hi]
            congr 2
            simp only [loadVal, hW, Int.toNat_natCast]
            rw [he]
        refine cond_intro (fun hs => ?_) (fun hs => ?_)
        · rw [wrap_i64 (x := (a : Int) + (memSig op).1 - 1) (by omega) (by omega)]
          have ea1 : ((a : Int) + (memSig op).1 - 1) = ((a + k : Nat) : Int) := by omega
          rw [ea1]
          have hs4 := hsg.2.2 hs
          refine ⟨_, _, _, hm.c5, by omega, ?_⟩
          simp only [nilV_some, add_mk, Int.toNat_natCast, Nat.mul_one, Nat.zero_add]
          refine ⟨_, hm.cb (a + k) (by omega), ?_⟩
          have h32 : (256 : Int) ^ W ≤ 4294967296 := by
            have key : ∀ k : Fin 5, (256 : Int) ^ k.val ≤ 4294967296 := by decide
            exact key ⟨W, by omega⟩
          refine cond_intro (fun hb => ?_) (fun hb => ?_)
          · have hb' : 128 ≤ s.back (a + k) := by simpa using hb
            have := fin (-1) (by
              rw [if_pos ⟨hs, htop.2 hb'⟩]
              generalize (256 : Int) ^ W = P at *
              generalize rd s.back a W = Y at *
              omega)
            exact this
          · have hb' : ¬ 128 ≤ s.back (a + k) := by simp at hb; omega
            have := fin 0 (by
              rw [if_neg (fun hx => hb' (htop.1 hx.2))]
              generalize (256 : Int) ^ W = P at *
              generalize rd s.back a W = Y at *
              omega)
            exact this
        · have := fin 0 (by
            rw [if_neg (fun hx => by rw [hx.1] at hs; cases hs)]
            generalize (256 : Int) ^ W = P at *
            generalize rd s.back a W = Y at *
            omega)
          exact this
  refine cond_intro (fun hz => L1 true (fun h => by cases h) (fun _ => ?_)) (fun hz => L1 _ (fun hd => ?_) (fun hd => ?_))
  · have := (memSig_zero op).1 (by simpa using hz); omega
  · have hz' : ¬ (memSig op).1 = 0 := by simpa using hz
    have : ¬ ¬ (40 ≤ op ∧ op ≤ 62) := fun hx => hz' ((memSig_zero op).2 hx)
    simp at hd; omega
  · simp at hd; omega

end Go.Proofs.Qxb6500319a
