/-
  A number's text and what Decode makes of it.
-/
import Derived.Test.Qxb6500316aBnQ
import Derived.Laws.StructEq
set_option linter.unusedSimpArgs false
set_option linter.unusedVariables false
set_option maxRecDepth 100000
namespace Go.Proofs.Qxb6500316a
open Go Go.Vc

/-! ### one -/
abbrev b1 (x : Int) : ByteArray := strOfNums [x]
theorem b1_size (x : Int) : (b1 x).size = 1 := strOfNums_size [x]
theorem b1_nb (x : Int) (h0 : 0 ≤ x) (h1 : x < 256) : nb (b1 x) 0 = x.toNat := by
  show (UInt8.ofNat x.toNat).toNat = x.toNat
  rw [UInt8.toNat_ofNat']
  exact Nat.mod_eq_of_lt (by omega)

theorem one_spec (x : Int) (h0 : 0 ≤ x) (h1 : x < 256) (w : World) : Runs Try.prog binlaw_one.id #[.int .i64 x] w fun v w' => v = .string (b1 x) ∧ Same [] w.heap.size w w' := by
  refine binlaw_one.enter _ _ _ _ ?_
  unfold binlaw_one.V
  refine letB_intro fun b2 hb2 => letW_intro fun w3 hw3 => ?_
  rw [wrap_u8 h0 (by omega)] at hw3
  refine ⟨_, w3, run_convert_bytes_arg w3 T_sl_uint8 T_uint8 (by kernel_rfl) (by kernel_rfl) b2 0 1 1 [x] rfl (fun j hj => ?_) T_string (by kernel_rfl), rfl, ?_⟩
  · obtain rfl : j = 0 := by omega
    rw [hw3, hb2, World.cell?_alloc_new]; rfl
  · rw [hw3]; exact (Same.refl _ _ _).alloc (Nat.le_refl _) _

/-! ### Errors are never 0 -/
def Res.pos {α : Type} (r : Res α) : Prop := ∀ k a, r = .err k a → 0 < k
theorem pos_ok {α : Type} (a : α) (q : Nat) : (Res.ok a q).pos := fun k a h => by cases h
theorem pos_err {α : Type} (k a : Int) (h : 0 < k) : (Res.err k a : Res α).pos := fun k a h2 => by (first | (injection h2 with z__; injection z__ with h3 h4) | injection h2 with h3 h4); omega
theorem pos_bind {α β : Type} {r : Res α} {f : α → Nat → Res β} (h : r.pos) (hf : ∀ a q, (f a q).pos) : (r.bind f).pos := by
  cases r using Res.cs with
  | ok a q => exact hf a q
  | err c a => exact pos_err c a (h c a rfl)
theorem nextP_pos (s : ByteArray) (e p : Nat) : (nextP s e p).pos := by
  unfold nextP; split
  · exact pos_ok _ _
  · exact pos_err _ _ (by decide)
theorem u32L_pos (s : ByteArray) (e st : Nat) : ∀ (k : Nat) (v sh : Int) (p : Nat), (u32L s e st k v sh p).pos
  | 0, _, _, _ => pos_err _ _ (by decide)
  | k + 1, v, sh, p => by
    rw [u32L_succ]
    refine pos_bind (nextP_pos _ _ _) fun c q => ?_
    split
    · exact pos_err _ _ (by decide)
    · split
      · exact pos_ok _ _
      · exact u32L_pos s e st k _ _ _
theorem u32P_pos (s : ByteArray) (e p : Nat) : (u32P s e p).pos := u32L_pos s e p 5 0 0 p
theorem slebL_pos (s : ByteArray) (e st : Nat) (bits : Int) : ∀ (k : Nat) (v sh : Int) (p : Nat), (slebL s e st bits k v sh p).pos
  | 0, _, _, _ => pos_err _ _ (by decide)
  | k + 1, v, sh, p => by
    rw [slebL_succ]
    split
    · exact pos_err _ _ (by decide)
    · refine pos_bind (nextP_pos _ _ _) fun c q => ?_
      split
      · exact pos_ok _ _
      · exact slebL_pos s e st bits k _ _ _
theorem slebP_pos (s : ByteArray) (e : Nat) (bits : Int) (p : Nat) : (slebP s e bits p).pos := by
  unfold slebP
  refine pos_bind (slebL_pos _ _ _ _ _ _ _ _) fun c q => ?_
  split
  · exact pos_ok _ _
  · exact pos_err _ _ (by decide)
theorem takeP_pos (s : ByteArray) (e n p : Nat) : (takeP s e n p).pos := by
  unfold takeP; split
  · exact pos_err _ _ (by decide)
  · exact pos_ok _ _
theorem wordP_pos (s : ByteArray) (e n p : Nat) : (wordP s e n p).pos := pos_bind (takeP_pos _ _ _ _) fun _ _ => pos_ok _ _

/-! ### The head -/
theorem magic_of (s : ByteArray) (h8 : 8 ≤ s.size) (h : ∀ j, j < 8 → nb s j = nb magicB j) : (ByteArray.toList (ByteArray.extract s 0 8) == ByteArray.toList ⟨#[0, 97, 115, 109, 1, 0, 0, 0]⟩) = true := by
  have e : ByteArray.extract s 0 8 = magicB := by
    have hs : s.size = s.data.size := rfl
    apply ByteArray.ext
    rw [ByteArray.data_extract]
    apply Array.ext
    · simp [magicB]; omega
    · intro i h1 h2
      have hi : i < 8 := h2
      rw [Array.getElem_extract]
      have hb := h i hi
      unfold nb at hb
      simp only [Array.getD_eq_getD_getElem?] at hb
      rw [Array.getElem?_eq_getElem (by omega : i < s.data.size), Array.getElem?_eq_getElem h2] at hb
      simp only [Option.getD_some] at hb
      simp only [Nat.zero_add]
      exact UInt8.toNat_inj.1 hb
  rw [e]; decide +kernel

/-- A module of one section that fills the text. -/
theorem dec_one (s : ByteArray) (c : Sc) (id n : Nat) (hz : s.size = 10 + n) (h8 : nb s 8 = id) (h1 : 1 ≤ id) (h11 : id ≤ 11) (h9 : nb s 9 = n) (hn : n < 128) :
    decP s c = (secP s (10 + n) id { c with nT := 0 } pm0 10).bind fun cp q2 => if q2 = 10 + n then (if cp.1.nT = cp.2.nf then .ok cp q2 else .err 12 s.size) else .err 6 10 := by
  unfold decP
  rw [show s.size - 8 + 1 = (n + 1 + 1) + 1 by omega, decL_succ, if_pos (by omega), nextP_in (by omega), h8]
  simp only [Res.bind]
  rw [if_neg (by omega)]
  have he : enterP s s.size (8 + 1) = .ok n 10 := by
    unfold enterP
    rw [u32_one s _ _ (by omega) (by rw [show 8 + 1 = 9 from rfl, h9]; exact hn)]
    simp only [Res.bind]
    rw [show 8 + 1 = 9 from rfl, h9, if_neg (by omega), Int.toNat_natCast]
  rw [he]
  simp only [Res.bind]
  cases secP s (10 + n) id { c with nT := 0 } pm0 10 using Res.cs with
  | err k a => rfl
  | ok cp q =>
    simp only
    by_cases hq : q = 10 + n
    · rw [if_pos hq, if_pos hq, decL_succ, if_neg (by omega)]
    · rw [if_neg hq, if_neg hq]; rfl

/-! ### The start section's number -/
structure Txt0 (s t : ByteArray) : Prop where
  sz : s.size = 10 + t.size
  h8 : nb s 8 = 8
  h9 : nb s 9 = t.size
  b : ∀ j, nb s (10 + j) = nb t j
  m : ∀ j, j < 8 → nb s j = nb magicB j

theorem txt0 (t : ByteArray) (h11 : t.size ≤ 11) : Txt0 (((⟨#[0, 97, 115, 109, 1, 0, 0, 0, 8]⟩ : ByteArray) ++ b1 (t.size : Int)) ++ t) t := by
  have z9 : (⟨#[0, 97, 115, 109, 1, 0, 0, 0, 8]⟩ : ByteArray).size = 9 := rfl
  have zb := b1_size (t.size : Int)
  have nbb := b1_nb (t.size : Int) (by omega) (by omega)
  have lo : ∀ j, j < 9 → nb (((⟨#[0, 97, 115, 109, 1, 0, 0, 0, 8]⟩ : ByteArray) ++ b1 (t.size : Int)) ++ t) j = nb ⟨#[0, 97, 115, 109, 1, 0, 0, 0, 8]⟩ j := fun j hj => by
    rw [nb_append, if_pos (by rw [ByteArray.size_append]; omega), nb_append, if_pos (by omega)]
  refine ⟨by rw [ByteArray.size_append, ByteArray.size_append]; omega, lo 8 (by decide), ?_, fun j => ?_, fun j hj => ?_⟩
  · rw [nb_append, if_pos (by rw [ByteArray.size_append]; omega), nb_append, if_neg (by omega), z9, show 9 - 9 = 0 from rfl, nbb, Int.toNat_natCast]
  · rw [nb_append, if_neg (by rw [ByteArray.size_append]; omega), ByteArray.size_append, z9, zb]
    congr 1; omega
  · rw [lo j (by omega)]
    have : j = 0 ∨ j = 1 ∨ j = 2 ∨ j = 3 ∨ j = 4 ∨ j = 5 ∨ j = 6 ∨ j = 7 := by omega
    rcases this with rfl | rfl | rfl | rfl | rfl | rfl | rfl | rfl <;> rfl

theorem dec0 {s t : ByteArray} (h : Txt0 s t) (h11 : t.size ≤ 11) (c : Sc) : decP s c = (u32P s s.size 10).bind fun x q => if q = s.size then .ok ({ c with nT := 0 }, { pm0 with start := x }) q else .err 6 10 := by
  rw [dec_one s c 8 t.size h.sz h.h8 (by decide) (by decide) h.h9 (by omega)]
  have e : secP s (10 + t.size) ((8 : Nat) : Int) { c with nT := 0 } pm0 10 = (u32P s (10 + t.size) 10).bind fun n q => .ok ({ c with nT := 0 }, { pm0 with start := n }) q := rfl
  rw [e, h.sz]
  cases u32P s (10 + t.size) 10 using Res.cs with
  | err k a => rfl
  | ok x q =>
    simp only [Res.bind]
    by_cases hq : q = 10 + t.size
    · rw [if_pos hq, if_pos hq]; rfl
    · rw [if_neg hq, if_neg hq]
theorem dec0_pos {s t : ByteArray} (h : Txt0 s t) (h11 : t.size ≤ 11) (c : Sc) : (decP s c).pos := by
  rw [dec0 h h11]
  refine pos_bind (u32P_pos _ _ _) fun x q => ?_
  split
  · exact pos_ok _ _
  · exact pos_err _ _ (by decide)

theorem gs_at {s t : ByteArray} {a : Nat} (hb : ∀ j, j < t.size → nb s (a + j) = nb t j) (i : Nat) (hi : i ≤ t.size) : gs s a i = gs t 0 i :=
  gs_congr s t a 0 i (fun j hj => by rw [Nat.zero_add]; exact hb j (by omega))

theorem top5 (t : ByteArray) : gs t 0 5 ≤ 4294967295 ↔ nb t 4 % 128 ≤ 15 := by
  have h := gs_succ t 0 4
  have hl := gs_lt t 0 4
  have e1 : (2 : Nat) ^ (7 * 4) = 268435456 := by decide
  rw [e1] at h hl
  rw [Nat.zero_add] at h
  have h' : gs t 0 5 = gs t 0 4 + nb t 4 % 128 * 268435456 := h
  omega

theorem num0_ok {s t : ByteArray} (h : Txt0 s t) (h11 : t.size ≤ 11) (c : Sc) (i : Nat) (hS : SpAt t i) (h5 : i < 5) (hl : gs t 0 (i + 1) ≤ 4294967295) : decP s c = .ok ({ c with nT := 0 }, { pm0 with start := (gs t 0 t.size : Int) }) s.size := by
  have hz := hS.sz
  have hsz := h.sz
  rw [dec0 h h11, u32_last s s.size 10 i h5 (fun j hj => by rw [h.b]; exact hS.pre j hj) (by omega) (by rw [h.b]; exact hS.last) (fun g => by
    subst g
    rw [h.b]
    have := (top5 t).1 hl
    have := hS.last
    omega)]
  simp only [Res.bind]
  rw [if_pos (by omega), gs_at (fun j _ => h.b j) (i + 1) (by omega), hz]
  congr 1; omega
theorem num0_inv {s t : ByteArray} (h : Txt0 s t) (h11 : t.size ≤ 11) (c : Sc) {cp : Sc × PM} {q : Nat} (hd : decP s c = .ok cp q) : ∃ i, SpAt t i ∧ i < 5 ∧ gs t 0 (i + 1) ≤ 4294967295 := by
  have hsz := h.sz
  rw [dec0 h h11] at hd
  cases hu : u32P s s.size 10 using Res.cs with
  | err k a => rw [hu] at hd; cases hd
  | ok x q =>
    rw [hu] at hd
    simp only [Res.bind] at hd
    by_cases hq : q = s.size
    · obtain ⟨i, h5, hp, he, hl, h4, _, hq2⟩ := u32_inv s s.size 10 x q hu
      have hS : SpAt t i := ⟨by omega, fun j hj => by rw [← h.b]; exact hp j hj, by rw [← h.b]; exact hl⟩
      refine ⟨i, hS, h5, ?_⟩
      by_cases h44 : i = 4
      · subst h44
        have := h4 rfl
        rw [h.b] at this
        exact (top5 t).2 (by omega)
      · have h1 := gs_lt t 0 (i + 1)
        have h2 : 2 ^ (7 * (i + 1)) ≤ 2 ^ 28 := Nat.pow_le_pow_right (by decide) (by omega)
        have e : (2 : Nat) ^ 28 = 268435456 := by decide
        omega
    · rw [if_neg hq] at hd; cases hd

/-! ### A global's initialiser -/
structure Txt6 (s t : ByteArray) (op : Nat) : Prop where
  sz : s.size = 15 + t.size
  h8 : nb s 8 = 6
  h9 : nb s 9 = t.size + 5
  h10 : nb s 10 = 1
  h11 : nb s 11 = 192 - op
  h12 : nb s 12 = 0
  h13 : nb s 13 = op
  b : ∀ j, j < t.size → nb s (14 + j) = nb t j
  e : nb s (14 + t.size) = 11
  m : ∀ j, j < 8 → nb s j = nb magicB j

theorem txt6 (t : ByteArray) (h11 : t.size ≤ 11) (op : Nat) (ho : 65 ≤ op) (ho2 : op ≤ 68) :
    Txt6 ((((((((⟨#[0, 97, 115, 109, 1, 0, 0, 0, 6]⟩ : ByteArray) ++ b1 ((t.size + 5 : Nat) : Int)) ++ (⟨#[1]⟩ : ByteArray)) ++ b1 ((192 - op : Nat) : Int)) ++ (⟨#[0]⟩ : ByteArray)) ++ b1 (op : Int)) ++ t) ++ (⟨#[11]⟩ : ByteArray)) t op := by
  have z9 : (⟨#[0, 97, 115, 109, 1, 0, 0, 0, 6]⟩ : ByteArray).size = 9 := rfl
  have y1 : (⟨#[1]⟩ : ByteArray).size = 1 := rfl
  have y0 : (⟨#[0]⟩ : ByteArray).size = 1 := rfl
  have y11 : (⟨#[11]⟩ : ByteArray).size = 1 := rfl
  have zb1 := b1_size ((t.size + 5 : Nat) : Int)
  have zb2 := b1_size ((192 - op : Nat) : Int)
  have zb3 := b1_size (op : Int)
  have nb1 := b1_nb ((t.size + 5 : Nat) : Int) (by omega) (by omega)
  have nb2 := b1_nb ((192 - op : Nat) : Int) (by omega) (by omega)
  have nb3 := b1_nb (op : Int) (by omega) (by omega)
  rw [Int.toNat_natCast] at nb1 nb2 nb3
  generalize b1 ((t.size + 5 : Nat) : Int) = B1 at *
  generalize b1 ((192 - op : Nat) : Int) = B2 at *
  generalize b1 (op : Int) = B3 at *
  refine ⟨by simp only [ByteArray.size_append]; omega, ?_, ?_, ?_, ?_, ?_, ?_, fun j hj => ?_, ?_, fun j hj => ?_⟩
  · simp only [nb_append, ByteArray.size_append, z9, y1, y0, y11, zb1, zb2, zb3]
    rw [if_pos (by omega), if_pos (by omega), if_pos (by omega), if_pos (by omega), if_pos (by omega), if_pos (by omega), if_pos (by omega)]; rfl
  · simp only [nb_append, ByteArray.size_append, z9, y1, y0, y11, zb1, zb2, zb3]
    rw [if_pos (by omega), if_pos (by omega), if_pos (by omega), if_pos (by omega), if_pos (by omega), if_pos (by omega), if_neg (by omega)]; exact nb1
  · simp only [nb_append, ByteArray.size_append, z9, y1, y0, y11, zb1, zb2, zb3]
    rw [if_pos (by omega), if_pos (by omega), if_pos (by omega), if_pos (by omega), if_pos (by omega), if_neg (by omega)]; rfl
  · simp only [nb_append, ByteArray.size_append, z9, y1, y0, y11, zb1, zb2, zb3]
    rw [if_pos (by omega), if_pos (by omega), if_pos (by omega), if_pos (by omega), if_neg (by omega)]; exact nb2
  · simp only [nb_append, ByteArray.size_append, z9, y1, y0, y11, zb1, zb2, zb3]
    rw [if_pos (by omega), if_pos (by omega), if_pos (by omega), if_neg (by omega)]; rfl
  · simp only [nb_append, ByteArray.size_append, z9, y1, y0, y11, zb1, zb2, zb3]
    rw [if_pos (by omega), if_pos (by omega), if_neg (by omega)]; exact nb3
  · simp only [nb_append, ByteArray.size_append, z9, y1, y0, y11, zb1, zb2, zb3]
    rw [if_pos (by omega), if_neg (by omega)]; congr 1; omega
  · simp only [nb_append, ByteArray.size_append, z9, y1, y0, y11, zb1, zb2, zb3]
    rw [if_neg (by omega), show 14 + t.size - (9 + 1 + 1 + 1 + 1 + 1 + t.size) = 0 by omega]; rfl
  · simp only [nb_append, ByteArray.size_append, z9, y1, y0, y11, zb1, zb2, zb3]
    rw [if_pos (by omega), if_pos (by omega), if_pos (by omega), if_pos (by omega), if_pos (by omega), if_pos (by omega), if_pos (by omega)]
    have : j = 0 ∨ j = 1 ∨ j = 2 ∨ j = 3 ∨ j = 4 ∨ j = 5 ∨ j = 6 ∨ j = 7 := by omega
    rcases this with rfl | rfl | rfl | rfl | rfl | rfl | rfl | rfl <;> rfl

def pmG (op : Nat) (x : Ins) : PM := { { pm0 with gn := 1 } with g := upd glob0 0 ⟨((192 - op : Nat) : Int), false, x⟩ }

theorem dec6 {s t : ByteArray} {op : Nat} (h : Txt6 s t op) (ho : 65 ≤ op) (ho2 : op ≤ 68) (h11 : t.size ≤ 11) (c : Sc) : decP s c = (restP s s.size op 13 14).bind fun x q => if q = 14 + t.size then .ok ({ c with nT := 0 }, pmG op x) s.size else (nextP s s.size q).bind fun c' q3 => if c' = 11 then .err 6 10 else .err 13 q := by
  have hz := h.sz
  rw [dec_one s c 6 (t.size + 5) (by omega) h.h8 (by decide) (by decide) h.h9 (by omega)]
  have e : secP s (10 + (t.size + 5)) ((6 : Nat) : Int) { c with nT := 0 } pm0 10 = (globsP s (10 + (t.size + 5)) 10).bind fun a q => .ok ({ c with nT := 0 }, if a.1 = 0 then pm0 else { { pm0 with gn := a.1 } with g := a.2 }) q := rfl
  have e15 : 10 + (t.size + 5) = s.size := by omega
  rw [e, e15]
  have hc : countP s s.size 4 10 = .ok 1 11 := by
    unfold countP
    rw [u32_one s _ _ (by omega) (by rw [h.h10]; decide), h.h10]
    rfl
  have hv : valtypeP s s.size 11 = .ok ((192 - op : Nat) : Int) 12 := by
    unfold valtypeP
    rw [nextP_in (by omega), h.h11]
    simp only [Res.bind]
    rw [if_neg (by omega)]
  have hf : flagP s s.size 1 12 = .ok 0 13 := by
    unfold flagP
    rw [nextP_in (by omega), h.h12]
    rfl
  have hk : constP s s.size 13 = (restP s s.size op 13 14).bind fun i q2 => (nextP s s.size q2).bind fun c q3 => if c = 11 then .ok i q3 else .err 13 q2 := by
    unfold constP
    rw [nextP_in (by omega), h.h13]
    simp only [Res.bind]
    rw [if_neg (by omega)]
    rfl
  have hg : globsP s s.size 10 = (constP s s.size 13).bind fun x q3 => .ok (1, upd glob0 0 ⟨((192 - op : Nat) : Int), false, x⟩) q3 := by
    unfold globsP
    rw [hc]
    simp only [Res.bind]
    rw [globsL_succ, hv]
    simp only [Res.bind]
    rw [hf]
    simp only [Res.bind]
    cases constP s s.size 13 using Res.cs with
    | err k a => rfl
    | ok x q => rfl
  rw [hg, hk]
  cases restP s s.size op 13 14 using Res.cs with
  | err k a => rfl
  | ok x q =>
    simp only [Res.bind]
    by_cases hq : q = 14 + t.size
    · rw [if_pos hq, hq, nextP_in (by omega), h.e]
      have hi : ∀ (a b : Res Ins), (if ((11 : Nat) : Int) = 11 then a else b) = a := fun a b => if_pos rfl
      simp only
      rw [hi]
      simp only
      rw [if_pos (by omega)]
      have : 14 + t.size + 1 = s.size := by omega
      rw [this]
      rfl
    · rw [if_neg hq]
      by_cases hn : q < s.size
      · rw [nextP_in hn]
        simp only
        by_cases hc11 : (nb s q : Int) = 11
        · rw [if_pos hc11, if_pos hc11]
          simp only
          rw [if_neg (by omega)]
        · rw [if_neg hc11, if_neg hc11]
      · rw [nextP_out hn]

theorem rest_sleb (s : ByteArray) (e : Nat) (a : Int) (p : Nat) : restP s e ((65 : Nat) : Int) a p = (slebP s e 32 p).bind (fun y q => .ok ⟨65, 0, y⟩ q) ∧ restP s e ((66 : Nat) : Int) a p = (slebP s e 64 p).bind (fun y q => .ok ⟨66, 0, y⟩ q) ∧
    restP s e ((67 : Nat) : Int) a p = (wordP s e 4 p).bind (fun y q => .ok ⟨67, 0, y⟩ q) ∧ restP s e ((68 : Nat) : Int) a p = (wordP s e 8 p).bind (fun y q => .ok ⟨68, 0, y⟩ q) := ⟨rfl, rfl, rfl, rfl⟩
theorem rest_pos (s : ByteArray) (e : Nat) (a : Int) (p op : Nat) (ho : 65 ≤ op) (ho2 : op ≤ 68) : (restP s e op a p).pos := by
  obtain ⟨r1, r2, r3, r4⟩ := rest_sleb s e a p
  have : op = 65 ∨ op = 66 ∨ op = 67 ∨ op = 68 := by omega
  rcases this with rfl | rfl | rfl | rfl
  · rw [r1]; exact pos_bind (slebP_pos _ _ _ _) fun _ _ => pos_ok _ _
  · rw [r2]; exact pos_bind (slebP_pos _ _ _ _) fun _ _ => pos_ok _ _
  · rw [r3]; exact pos_bind (wordP_pos _ _ _ _) fun _ _ => pos_ok _ _
  · rw [r4]; exact pos_bind (wordP_pos _ _ _ _) fun _ _ => pos_ok _ _
theorem dec6_pos {s t : ByteArray} {op : Nat} (h : Txt6 s t op) (ho : 65 ≤ op) (ho2 : op ≤ 68) (h11 : t.size ≤ 11) (c : Sc) : (decP s c).pos := by
  rw [dec6 h ho ho2 h11]
  refine pos_bind (rest_pos _ _ _ _ _ ho ho2) fun x q => ?_
  split
  · exact pos_ok _ _
  · refine pos_bind (nextP_pos _ _ _) fun _ _ => ?_
    split
    · exact pos_err _ _ (by decide)
    · exact pos_err _ _ (by decide)
/-- Taken just when the immediates end where the text's bytes end. -/
theorem dec6_ok {s t : ByteArray} {op : Nat} (h : Txt6 s t op) (ho : 65 ≤ op) (ho2 : op ≤ 68) (h11 : t.size ≤ 11) (c : Sc) {x : Ins} (hr : restP s s.size op 13 14 = .ok x (14 + t.size)) : decP s c = .ok ({ c with nT := 0 }, pmG op x) s.size := by
  rw [dec6 h ho ho2 h11, hr]
  simp only [Res.bind]
  rw [if_pos True.intro]
theorem dec6_inv {s t : ByteArray} {op : Nat} (h : Txt6 s t op) (ho : 65 ≤ op) (ho2 : op ≤ 68) (h11 : t.size ≤ 11) (c : Sc) {cp : Sc × PM} {q : Nat} (hd : decP s c = .ok cp q) : ∃ x, restP s s.size op 13 14 = .ok x (14 + t.size) := by
  rw [dec6 h ho ho2 h11] at hd
  cases hr : restP s s.size op 13 14 using Res.cs with
  | err k a => rw [hr] at hd; cases hd
  | ok x q2 =>
    rw [hr] at hd
    simp only [Res.bind] at hd
    by_cases hq : q2 = 14 + t.size
    · exact ⟨x, by rw [hq]⟩
    · rw [if_neg hq] at hd
      by_cases hn : q2 < s.size
      · rw [nextP_in hn] at hd
        simp only at hd
        split at hd <;> cases hd
      · rw [nextP_out hn] at hd; cases hd

end Go.Proofs.Qxb6500316a
