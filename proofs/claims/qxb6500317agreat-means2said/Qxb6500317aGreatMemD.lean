/-
  Package mem, fourth part: Write, Grow, Reset.
-/
import Derived.Test.Qxb6500317aGreatMemC
set_option linter.unusedSimpArgs false
set_option linter.unusedVariables false
set_option maxRecDepth 100000
namespace Go.Proofs.Qxb6500317aGreat.M
open Go Go.Vc

/-! ### Write -/
def laid (f : Nat → Int) (a : Nat) (d : ByteArray) : Nat → Int := fun j => if a ≤ j ∧ j < a + d.size then byteAt d (j - a) else f j

def MS.write (s : MS) (at_ : Int) (d : ByteArray) : Int × MS :=
  if 24 < d.size then (1, s) else if at_ + d.size ≤ s.n then (0, { s with back := laid s.back at_.toNat d }) else (31, s)

def bytesOf (d : ByteArray) : List Int := d.data.toList.map fun b => (b.toNat : Int)
theorem bytesOf_length (d : ByteArray) : (bytesOf d).length = d.size := by
  unfold bytesOf; rw [List.length_map, Array.length_toList]; rfl
theorem bytesOf_getD (d : ByteArray) (j : Nat) (h : j < d.size) : (bytesOf d).getD j 0 = byteAt d j := by
  have : j < d.data.size := h
  simp only [bytesOf, byteAt, List.getD, List.getElem?_map, Array.getElem?_toList, Array.getD_eq_getD_getElem?, Array.getElem?_eq_getElem this, Option.map_some, Option.getD_some]

theorem copy_fill {P : Program} {t e : TypeId} {i : TypeInfo} {z : Value} {bytes : Nat} (hE : Elem P t e i z 1 bytes) (ts ty : TypeId) (w : World) (b o n c : Nat) (d : ByteArray) (hd : d.size ≤ n) (hc : ∀ j, j < d.size → can w ⟨b, o + j, none⟩) :
    ∃ w', (Builtin.copy_ #[t, ts] ty #[.slice (some ⟨b, o, none⟩) n c, .string d]).run P w = .ok (.int .i64 (d.size : Nat)) w' ∧ Fill w w' b o ((bytesOf d).map (Value.int .u8)) := by
  obtain ⟨w', hr, hF⟩ := storeCells_fill (P := P) b o ((bytesOf d).map (Value.int .u8)) 0 w (fun u hu => by
    simp only [List.mem_map] at hu; obtain ⟨x, _, rfl⟩ := hu; rfl) (fun j hj => by simpa using hc j (by simpa [bytesOf_length] using hj))
  rw [Nat.add_zero] at hF
  refine ⟨w', ?_, hF⟩
  have hm : Nat.min d.size n = d.size := Nat.min_eq_left hd
  have hx : d.extract 0 d.size = d := by simp
  have hl : (Array.map (fun b : UInt8 => Value.int .u8 (b.toNat : Int)) d.data).toList = (bytesOf d).map (Value.int .u8) := by
    simp [bytesOf]
  simp only [Builtin.copy_, List.getElem?_toArray, List.getElem?_cons_zero, List.getElem?_cons_succ, Sem.run_bind, run_underlying hE.ht, Result.andThen_ok, Builtin.lenOf, Sem.run_pure, hm, Builtin.firstCells, sizeOf, typeInfo, run_program, hE.hi, hx, hl, hr, goInt]

theorem Write_spec (w : World) (p q : Nat) (s : MS) (h : MSAt w p q s) (hw : s.Wf) (at_ : Int) (d : ByteArray) (h0 : 0 ≤ at_) (h1 : at_ < 4294967296) :
    Runs Tryz.prog mem_Store_Write.id #[.pointer (some ⟨p, 0, none⟩), .int .u32 at_, .string d] w fun r w' =>
      r = .int .i64 (s.write at_ d).1 ∧ MSAt w' p q (s.write at_ d).2 ∧ Same [p, q] w.heap.size w w' := by
  have := hw.ncap; have := hw.cap384
  refine mem_Store_Write.enter _ _ _ _ _ ?_
  unfold mem_Store_Write.V
  refine cond_intro (fun hc => ?_) (fun hc => ?_)
  · have hd : 24 < d.size := by simp at hc; omega
    have e : s.write at_ d = (1, s) := by simp [MS.write, hd]
    rw [e]; exact ⟨rfl, h, Same.refl _ _ _⟩
  · have hd : ¬ 24 < d.size := by simp at hc; omega
    refine (Fits_spec w p q s h hw at_ d.size h0 h1 (by omega)).mono ?_
    rintro r w1 ⟨rfl, rfl⟩
    refine ⟨_, rfl, ?_⟩
    refine cond_intro (fun hn => ?_) (fun hn => ?_)
    · have hn' : ¬ at_ + d.size ≤ s.n := by simp at hn; omega
      have e : s.write at_ d = (31, s) := by simp only [MS.write, if_neg hd, if_neg hn']
      rw [e]; exact ⟨rfl, h, Same.refl _ _ _⟩
    · have hi : at_ + d.size ≤ s.n := by simp at hn; omega
      have e : s.write at_ d = (0, { s with back := laid s.back at_.toNat d }) := by simp only [MS.write, if_neg hd, if_pos hi]
      obtain ⟨a, rfl⟩ := Int.eq_ofNat_of_zero_le h0
      rw [e, nilV_some]
      simp only [Nat.zero_add, Int.toNat_natCast]
      refine ⟨_, _, _, h.c2, by omega, ?_⟩
      by_cases hz : d.size = 0
      · have hE := T_sl_uint8.el
        have hd0 : d = ⟨#[]⟩ := by
          cases d with | mk da => simp [ByteArray.size] at hz; subst hz; rfl
        subst hd0
        refine ⟨0, w1, ?_, by trivial, ?_, Same.refl _ _ _⟩
        · cases slAddr (s.ma q) a s.cap 1 with
          | none => simp [Builtin.copy_, run_underlying hE.ht, Builtin.lenOf, Builtin.firstCells, sizeOf, typeInfo, hE.hi, goInt, ByteArray.size]
          | some x => simp [Builtin.copy_, run_underlying hE.ht, Builtin.lenOf, Builtin.firstCells, sizeOf, typeInfo, hE.hi, goInt, ByteArray.size, storeCells]
        · have : laid s.back a ⟨#[]⟩ = s.back := by
            funext j; simp [laid, ByteArray.size]; intro h1 h2; omega
          rw [this]; exact h
      · have hh : s.has = true := by
          cases hc : s.has with
          | true => rfl
          | false => have := (hw.none hc).1; omega
        have hma : s.ma q = some ⟨q, 0, none⟩ := by simp [MS.ma, hh]
        rw [hma, slAddr_lt (by omega), Nat.zero_add, Nat.mul_one]
        obtain ⟨w', hr, hF⟩ := copy_fill T_sl_uint8.el T_string T_int w1 q a (s.n - a) (s.cap - a) d (by omega) (fun j hj => h.canq (a + j) (by omega))
        refine ⟨_, w', hr, by trivial, ?_, (hF.same _).mono (Nat.le_refl _) (by simp)⟩
        have hm := h.fillq hF
        have ef : (fun j => if a ≤ j ∧ j < a + (bytesOf d).length then (bytesOf d).getD (j - a) 0 else s.back j) = laid s.back a d := by
          funext j
          simp only [laid, bytesOf_length]
          by_cases hj : a ≤ j ∧ j < a + d.size
          · rw [if_pos hj, if_pos hj, bytesOf_getD _ _ (by omega)]
          · rw [if_neg hj, if_neg hj]
        rw [ef] at hm
        exact hm

/-! ### Grow -/
def MS.grow (s : MS) (d : Int) : Int × MS :=
  if s.has = true ∧ s.n + d * 64 ≤ s.cap then
    (((s.n / 64 : Nat) : Int), { s with n := s.n + d.toNat * 64, back := fun j => if s.n ≤ j ∧ j < s.n + d.toNat * 64 then 0 else s.back j })
  else (4294967295, s)

theorem MSAt.win {w w' : World} {p q : Nat} {s : MS} (h : MSAt w p q s) (b : Bool) (n c : Nat)
    (hp : ∀ j, j ≠ 1 → j ≠ 2 → w'.cell? ⟨p, j, none⟩ = w.cell? ⟨p, j, none⟩) (h1 : w'.cell? ⟨p, 1, none⟩ = some (.bool b)) (h2 : w'.cell? ⟨p, 2, none⟩ = some (.slice (if b then some ⟨q, 0, none⟩ else none) n c))
    (hq : ∀ j, w'.cell? ⟨q, j, none⟩ = w.cell? ⟨q, j, none⟩) (hf : ∀ a, w'.frozen? a = w.frozen? a) : MSAt w' p q { s with has := b, n := n, cap := c } :=
  { c0 := by rw [hp 0 (by omega) (by omega)]; exact h.c0, c1 := h1, c2 := h2
    ct := fun j hj => by rw [hp _ (by omega) (by omega)]; exact h.ct j hj
    c11 := by rw [hp _ (by omega) (by omega)]; exact h.c11
    cg := fun j hj => by rw [hp _ (by omega) (by omega)]; exact h.cg j hj
    c16 := by rw [hp _ (by omega) (by omega)]; exact h.c16
    cb := fun j hj => by rw [hq]; exact h.cb j hj
    fp := fun j => by rw [hf]; exact h.fp j, fq := fun j => by rw [hf]; exact h.fq j, ne := h.ne }

theorem rep_map (n : Nat) : List.replicate n (Value.int .u8 0) = (List.replicate n (0 : Int)).map (Value.int .u8) := by simp
theorem rep_fun (f : Nat → Int) (o n : Nat) : (fun j => if o ≤ j ∧ j < o + (List.replicate n (0 : Int)).length then (List.replicate n (0 : Int)).getD (j - o) 0 else f j) = fun j => if o ≤ j ∧ j < o + n then 0 else f j := by
  funext j
  simp only [List.length_replicate]
  by_cases hj : o ≤ j ∧ j < o + n
  · rw [if_pos hj, if_pos hj]; simp [List.getD, show j - o < n by omega]
  · rw [if_neg hj, if_neg hj]

theorem Grow_spec (w : World) (p q : Nat) (s : MS) (h : MSAt w p q s) (hw : s.Wf) (d : Int) (h0 : 0 ≤ d) (h1 : d < 4294967296) :
    Runs Tryz.prog mem_Store_Grow.id #[.pointer (some ⟨p, 0, none⟩), .int .u32 d] w fun r w' =>
      r = .int .u32 (s.grow d).1 ∧ MSAt w' p q (s.grow d).2 ∧ Same [p, q] w.heap.size w w' := by
  have := hw.ncap; have := hw.cap384; have hn64 := hw.n64; have hc64 := hw.cap64
  refine mem_Store_Grow.enter _ _ _ _ ?_
  unfold mem_Store_Grow.V
  simp only [nilV_some, Nat.zero_add, true_and, World.cell?_drew]
  refine ⟨_, h.c1, ?_⟩
  refine cond_intro (fun hc => ?_) (fun hc => ?_)
  · have hh : ¬ s.has = true := by simpa using hc
    have e : s.grow d = (4294967295, s) := by simp only [MS.grow]; rw [if_neg (fun x => hh x.1)]
    rw [e]; exact ⟨rfl, h, Same.refl _ _ _⟩
  · have hh : s.has = true := by simpa using hc
    have hma : s.ma q = some ⟨q, 0, none⟩ := by simp [MS.ma, hh]
    obtain ⟨k, rfl⟩ := Int.eq_ofNat_of_zero_le h0
    refine ⟨_, _, _, h.c2, _, _, _, h.c2, ?_⟩
    have e1 : IntKind.wrap .u64 (IntKind.wrap .i64 (Int.tdiv (IntKind.wrap .i64 (((s.cap : Nat) : Int) - ((s.n : Nat) : Int))) 64)) = (((s.cap - s.n) / 64 : Nat) : Int) := by
      rw [wrap_i64 (x := (s.cap : Int) - s.n) (by omega) (by omega)]
      have : ((s.cap : Int) - s.n) = ((s.cap - s.n : Nat) : Int) := by omega
      rw [this]
      have e : Int.tdiv ((s.cap - s.n : Nat) : Int) 64 = (((s.cap - s.n) / 64 : Nat) : Int) := rfl
      rw [e, wrap_i64 (by omega) (by omega), wrap_u64 (by omega) (by omega)]
    rw [e1, wrap_u64 (x := (k : Int)) (by omega) (by omega)]
    refine cond_intro (fun hn => ?_) (fun hn => ?_)
    · have hn' : ¬ (s.n : Int) + (k : Int) * 64 ≤ s.cap := by simp at hn; omega
      have e : s.grow k = (4294967295, s) := by simp only [MS.grow]; rw [if_neg (fun x => hn' x.2)]
      rw [e]; exact ⟨rfl, h, Same.refl _ _ _⟩
    · have hi : (s.n : Int) + (k : Int) * 64 ≤ s.cap := by simp at hn; omega
      have e : s.grow k = (((s.n / 64 : Nat) : Int), { s with n := s.n + k * 64, back := fun j => if s.n ≤ j ∧ j < s.n + k * 64 then 0 else s.back j }) := by
        simp only [MS.grow]; rw [if_pos ⟨hh, hi⟩]; rfl
      have e2 : IntKind.wrap .i64 (((s.n : Nat) : Int) + (IntKind.wrap .i64 ((IntKind.wrap .i64 (k : Int)) * (64 : Int)))) = ((s.n + k * 64 : Nat) : Int) := by
        rw [wrap_i64 (x := (k : Int)) (by omega) (by omega), wrap_i64 (x := (k : Int) * 64) (by omega) (by omega), wrap_i64 (by omega) (by omega)]; omega
      rw [e2, e]
      refine ⟨_, _, _, h.c2, _, _, _, h.c2, by omega, h.drew.canp 2 (by omega), ?_⟩
      have e3 : slAddr (s.ma q) 0 (Int.toNat (s.cap : Int)) 1 = some ⟨q, 0, none⟩ := by
        rw [hma, Int.toNat_natCast]
        by_cases hz : 0 < s.cap
        · rw [slAddr_lt hz]
        · have : s.cap = 0 := by omega
          rw [this, slAddr_eq]
      rw [e3]
      simp only [Int.toNat_natCast, Nat.sub_zero]
      have hm1 : MSAt (w.drew.setCell ⟨p, 2, none⟩ (.slice (some ⟨q, 0, none⟩) (s.n + k * 64) s.cap)) p q { s with n := s.n + k * 64 } :=
        h.drew.setp 2 _ (by rw [if_neg (by omega)]) (by rw [if_pos rfl]; simp [MS.ma, hh]) (by omega) (fun j hj => by rw [if_neg (by omega)]) (by rw [if_neg (by omega)]) (fun j hj => by rw [if_neg (by omega)]) (by rw [if_neg (by omega)]) rfl
      have hm1c := hm1.c2
      simp only [MS.ma, hh, if_true] at hm1c
      refine ⟨_, _, _, hm1c, by omega, ?_⟩
      have e5 : s.n + k * 64 - s.n = k * 64 := by omega
      rw [e5]
      have e6 : ((Int.tdiv ((s.n : Nat) : Int) 64)) = ((s.n / 64 : Nat) : Int) := rfl
      rw [e6, wrap_i64 (by omega) (by omega), wrap_u32 (by omega) (by omega)]
      by_cases hfull : s.n = s.cap
      · have hk : k = 0 := by omega
        subst hk
        rw [← hfull, slAddr_eq]
        obtain ⟨w', hr, hF⟩ := clear_fill T_sl_uint8.el rfl rfl T___ (w.drew.setCell ⟨p, 2, none⟩ (.slice (some ⟨q, 0, none⟩) (s.n + 0 * 64) s.cap)) q 0 (0 * 64) (s.n - s.n) (fun j hj => by omega)
        rw [← hfull] at hr
        refine ⟨w', hr, rfl, ?_, ((Same.refl _ _ _).drew.setCell (.inr (by simp)) _).trans ((hF.same _).mono (Nat.le_refl _) (by simp))⟩
        rw [rep_map] at hF
        have hm := hm1.fillq hF
        rw [rep_fun] at hm
        have : (fun j => if 0 ≤ j ∧ j < 0 + 0 * 64 then 0 else s.back j) = fun j => if s.n ≤ j ∧ j < s.n + 0 * 64 then 0 else s.back j := by
          funext j; rw [if_neg (by omega), if_neg (by omega)]
        simp only at hm
        rw [this, ← hfull] at hm
        exact hm
      · rw [slAddr_lt (by omega), Nat.zero_add, Nat.mul_one]
        obtain ⟨w', hr, hF⟩ := clear_fill T_sl_uint8.el rfl rfl T___ (w.drew.setCell ⟨p, 2, none⟩ (.slice (some ⟨q, 0, none⟩) (s.n + k * 64) s.cap)) q s.n (k * 64) (s.cap - s.n) (fun j hj => hm1.canq _ (by omega))
        refine ⟨w', hr, rfl, ?_, ((Same.refl _ _ _).drew.setCell (.inr (by simp)) _).trans ((hF.same _).mono (Nat.le_refl _) (by simp))⟩
        rw [rep_map] at hF
        have hm := hm1.fillq hF
        rw [rep_fun] at hm
        exact hm

/-! ### Reset -/
def badReset (mi mx tb gl : Int) : Bool :=
  decide (mi < -1) || decide (6 < mi) || decide (mx < -1) || (decide (mx ≠ -1) && decide (mx < mi)) || (decide (mi = -1) && decide (mx ≠ -1)) || decide (tb < -1) || decide (8 < tb) || decide (gl < 0) || decide (4 < gl)

def resetCap (mi mx : Int) : Nat := if 0 ≤ mi then (if 0 ≤ mx ∧ mx < 6 then (mx * 64).toNat else 384) else 0

def MS.reset (s : MS) (mi mx tb gl : Int) : Int × MS :=
  if badReset mi mx tb gl then (36, s) else
    (0, { has := decide (0 ≤ mi), n := (mi * 64).toNat, cap := resetCap mi mx, back := fun j => if j < (mi * 64).toNat then 0 else s.back j
          tab := fun j => if j < tb.toNat then -1 else s.tab j, tl := tb.toNat, glob := fun j => if j < gl.toNat then 0 else s.glob j, ng := gl.toNat })

theorem MSAt.fillg {w w' : World} {p q : Nat} {s : MS} (h : MSAt w p q s) {n : Nat} (hn : n ≤ 4) (hF : Fill w w' p 12 (List.replicate n (Value.int .u64 0))) :
    MSAt w' p q { s with glob := fun j => if j < n then 0 else s.glob j } := by
  have hne := h.ne
  have hp : ∀ j, ¬ (12 ≤ j ∧ j < 12 + n) → w'.cell? ⟨p, j, none⟩ = w.cell? ⟨p, j, none⟩ := fun j hj => by rw [hF.cell, if_neg (by simp; omega)]
  have hq : ∀ j, w'.cell? ⟨q, j, none⟩ = w.cell? ⟨q, j, none⟩ := fun j => by rw [hF.cell, if_neg (by simp [Ne.symm hne])]
  exact { c0 := by rw [hp _ (by omega)]; exact h.c0, c1 := by rw [hp _ (by omega)]; exact h.c1, c2 := by rw [hp _ (by omega)]; exact h.c2, ct := fun j hj => by rw [hp _ (by omega)]; exact h.ct j hj, c11 := by rw [hp _ (by omega)]; exact h.c11,
          cg := fun j hj => by
            by_cases hj' : j < n
            · rw [hF.cell, if_pos (by simp; omega)]
              simp [hj']
            · rw [hp _ (by omega), h.cg j hj]
              simp [hj']
          c16 := by rw [hp _ (by omega)]; exact h.c16, cb := fun j hj => by rw [hq]; exact h.cb j hj,
          fp := fun j => by rw [hF.frozen]; exact h.fp j, fq := fun j => by rw [hF.frozen]; exact h.fq j, ne := hne }

theorem Reset_glob (p q : Nat) (w0 : World) (gl : Nat) (hg : gl ≤ 4) (R : Value → World → Prop) (s : MS) (w : World) (k : Int) (t : Int) (hk : ¬ k < t) (hm : MSAt w p q s) (hS : Same [p, q] w0.heap.size w0 w)
    (hR : ∀ w', MSAt w' p q { s with glob := fun j => if j < gl then 0 else s.glob j, ng := gl } → Same [p, q] w0.heap.size w0 w' → R (.int .i64 0) w') : mem_Store_Reset.L8 (some ⟨p, 0, none⟩) gl t k R w := by
  refine mem_Store_Reset.step8 _ _ _ _ _ _ ?_
  unfold mem_Store_Reset.V8
  refine cond_false' (by simpa using hk) ?_
  simp only [nilV_some, Nat.zero_add, Int.toNat_natCast, Nat.sub_zero]
  have hm1 : MSAt (w.setCell ⟨p, 16, none⟩ (.int .i64 gl)) p q { s with ng := gl } :=
    hm.setp 16 _ (by rw [if_neg (by omega)]) (by rw [if_neg (by omega)]; rfl) (by omega) (fun j hj => by rw [if_neg (by omega)]) (by rw [if_neg (by omega)]) (fun j hj => by rw [if_neg (by omega)]) (by rw [if_pos rfl]) rfl
  obtain ⟨w', hr, hF⟩ := clear_fill T_sl_uint64.el rfl rfl T___ (w.setCell ⟨p, 16, none⟩ (.int .i64 gl)) p 12 gl 4 (fun j hj => hm1.canp _ (by omega))
  refine ⟨hm.canp 16 (by omega), by omega, w', by rw [slAddr_lt (by omega)]; exact hr, ?_⟩
  exact hR w' (hm1.fillg hg hF) ((hS.setCell (.inr (by simp)) _).trans ((hF.same _).mono (Nat.le_refl _) (by simp)))

theorem Reset_tab (p q : Nat) (w0 : World) (gl : Nat) (hg : gl ≤ 4) (t : Nat) (ht : t ≤ 8) (R : Value → World → Prop) :
    ∀ (f k : Nat) (s : MS) (w : World), k + f = t → s.tl = k → MSAt w p q s → Same [p, q] w0.heap.size w0 w →
      (∀ w', MSAt w' p q { s with tab := fun j => if k ≤ j ∧ j < t then -1 else s.tab j, tl := t, glob := fun j => if j < gl then 0 else s.glob j, ng := gl } → Same [p, q] w0.heap.size w0 w' → R (.int .i64 0) w') →
      mem_Store_Reset.L8 (some ⟨p, 0, none⟩) gl t k R w := by
  intro f
  induction f with
  | zero =>
    intro k s w hk htl hm hS hR
    refine Reset_glob p q w0 gl hg R s w k t (by omega) hm hS (fun w' h1 h2 => hR w' ?_ h2)
    have e : (fun j => if k ≤ j ∧ j < t then -1 else s.tab j) = s.tab := by funext j; rw [if_neg (by omega)]
    rw [e]
    have : t = s.tl := by omega
    rw [this]
    exact h1
  | succ f ih =>
    intro k s w hk htl hm hS hR
    refine mem_Store_Reset.step8 _ _ _ _ _ _ ?_
    unfold mem_Store_Reset.V8
    refine cond_true' (by simp; omega) ?_
    have e : IntKind.wrap .i64 ((k : Int) + 1) = ((k + 1 : Nat) : Int) := by rw [wrap_i64 (by omega) (by omega)]; omega
    simp only [nilV_some, Nat.zero_add, add_mk, Int.toNat_natCast, Nat.mul_one, e]
    have hm1 : MSAt (w.setCell ⟨p, 3 + k, none⟩ (.int .i64 (-1))) p q { s with tab := upd s.tab k (-1) } := by
      refine hm.setp (3 + k) _ (by rw [if_neg (by omega)]) (by rw [if_neg (by omega)]; rfl) (by omega) (fun j hj => ?_) (by rw [if_neg (by omega)]) (fun j hj => by rw [if_neg (by omega)]) (by rw [if_neg (by omega)]) rfl
      simp only [upd]
      by_cases hj' : j = k
      · subst hj'; simp
      · rw [if_neg (by omega), if_neg hj']
    have hm2 : MSAt ((w.setCell ⟨p, 3 + k, none⟩ (.int .i64 (-1))).setCell ⟨p, 11, none⟩ (.int .i64 ((k + 1 : Nat) : Int))) p q { s with tab := upd s.tab k (-1), tl := k + 1 } :=
      hm1.setp 11 _ (by rw [if_neg (by omega)]) (by rw [if_neg (by omega)]; rfl) (by omega) (fun j hj => by rw [if_neg (by omega)]) (by rw [if_pos rfl]) (fun j hj => by rw [if_neg (by omega)]) (by rw [if_neg (by omega)]) rfl
    refine ⟨by omega, hm.canp (3 + k) (by omega), hm1.canp 11 (by omega), ?_⟩
    refine ih (k + 1) _ _ (by omega) rfl hm2 ((hS.setCell (.inr (by simp)) _).setCell (.inr (by simp)) _) (fun w' h1 h2 => hR w' ?_ h2)
    have ef : (fun j => if k + 1 ≤ j ∧ j < t then -1 else upd s.tab k (-1) j) = fun j => if k ≤ j ∧ j < t then -1 else s.tab j := by
      funext j
      simp only [upd]
      by_cases h1 : k + 1 ≤ j ∧ j < t
      · rw [if_pos h1, if_pos (by omega)]
      · rw [if_neg h1]
        by_cases h2 : j = k
        · rw [if_pos h2, if_pos (by omega)]
        · rw [if_neg h2, if_neg (by omega)]
    simp only [ef] at h1
    exact h1

theorem Reset_tabs (p q : Nat) (w0 : World) (tb gl : Int) (ht1 : tb ≤ 8) (hg0 : 0 ≤ gl) (hg : gl ≤ 4) (R : Value → World → Prop) (s : MS) (w : World) (hm : MSAt w p q s) (hS : Same [p, q] w0.heap.size w0 w)
    (hR : ∀ w', MSAt w' p q { s with tab := fun j => if j < tb.toNat then -1 else s.tab j, tl := tb.toNat, glob := fun j => if j < gl.toNat then 0 else s.glob j, ng := gl.toNat } → Same [p, q] w0.heap.size w0 w' → R (.int .i64 0) w') :
    mem_Store_Reset.L7 (some ⟨p, 0, none⟩) tb gl R w := by
  refine mem_Store_Reset.step7 _ _ _ _ _ ?_
  unfold mem_Store_Reset.V7
  simp only [nilV_some, Nat.zero_add]
  refine ⟨hm.canp 11 (by omega), ?_⟩
  obtain ⟨g, rfl⟩ := Int.eq_ofNat_of_zero_le hg0
  have hm1 : MSAt (w.setCell ⟨p, 11, none⟩ (.int .i64 0)) p q { s with tl := 0 } :=
    hm.setp 11 _ (by rw [if_neg (by omega)]) (by rw [if_neg (by omega)]; rfl) (by omega) (fun j hj => by rw [if_neg (by omega)]) (by rw [if_pos rfl]; rfl) (fun j hj => by rw [if_neg (by omega)]) (by rw [if_neg (by omega)]) rfl
  rw [Int.toNat_natCast] at hR
  by_cases hn : 0 ≤ tb
  · obtain ⟨t, rfl⟩ := Int.eq_ofNat_of_zero_le hn
    rw [Int.toNat_natCast] at hR
    refine Reset_tab p q w0 g (by omega) t (by omega) R t 0 _ _ (by omega) rfl hm1 (hS.setCell (.inr (by simp)) _) (fun w' h1 h2 => hR w' ?_ h2)
    simpa using h1
  · refine Reset_glob p q w0 g (by omega) R _ _ 0 tb (by omega) hm1 (hS.setCell (.inr (by simp)) _) (fun w' h1 h2 => hR w' ?_ h2)
    have : tb.toNat = 0 := by omega
    rw [this]
    simpa using h1

theorem Reset_go (w : World) (p q : Nat) (s : MS) (h : MSAt w p q s) (mi mx tb gl : Int) (hmi : -1 ≤ mi) (hmi6 : mi ≤ 6) (hmx : -1 ≤ mx) (hmm : mx ≠ -1 → mi ≤ mx) (hmn : mi = -1 → mx = -1) (ht1 : tb ≤ 8) (hg0 : 0 ≤ gl) (hg : gl ≤ 4)
    (hmx63 : mx ≤ 9223372036854775807) (R : Value → World → Prop)
    (hR : ∀ w', MSAt w' p q { has := decide (0 ≤ mi), n := (mi * 64).toNat, cap := resetCap mi mx, back := fun j => if j < (mi * 64).toNat then 0 else s.back j, tab := fun j => if j < tb.toNat then -1 else s.tab j, tl := tb.toNat, glob := fun j => if j < gl.toNat then 0 else s.glob j, ng := gl.toNat } → Same [p, q] w.heap.size w w' → R (.int .i64 0) w') :
    mem_Store_Reset.L5 (some ⟨p, 0, none⟩) mi mx tb gl R w := by
  have hne := h.ne
  refine mem_Store_Reset.step5 _ _ _ _ _ _ _ ?_
  unfold mem_Store_Reset.V5
  simp only [nilV_some, Nat.zero_add]
  generalize hw1 : w.setCell ⟨p, 2, none⟩ (.slice none 0 0) = w1
  generalize hw2 : w1.setCell ⟨p, 1, none⟩ (.bool (decide (mi ≥ 0))) = w2
  have c1 : ∀ j u, w.cell? ⟨p, j, none⟩ = some u → w1.cell? ⟨p, j, none⟩ = if j = 2 then some (.slice none 0 0) else some u := fun j u hu => by rw [← hw1]; exact cell_set _ _ _ _ _ hu
  have c2 : ∀ j u, w1.cell? ⟨p, j, none⟩ = some u → w2.cell? ⟨p, j, none⟩ = if j = 1 then some (.bool (decide (mi ≥ 0))) else some u := fun j u hu => by rw [← hw2]; exact cell_set _ _ _ _ _ hu
  have c21 : w2.cell? ⟨p, 1, none⟩ = some (.bool (decide (mi ≥ 0))) := by
    have h1 := c1 1 _ h.c1; rw [if_neg (by omega)] at h1
    have h2 := c2 1 _ h1; rwa [if_pos rfl] at h2
  have c22 : w2.cell? ⟨p, 2, none⟩ = some (.slice none 0 0) := by
    have h1 := c1 2 _ h.c2; rw [if_pos rfl] at h1
    have h2 := c2 2 _ h1; rwa [if_neg (by omega)] at h2
  have cx : ∀ j, j ≠ 1 → j ≠ 2 → w2.cell? ⟨p, j, none⟩ = w.cell? ⟨p, j, none⟩ := fun j h1 h2 => by
    rw [← hw2, ← hw1, cell_setCell, if_neg (by simp [h1]), cell_setCell, if_neg (by simp [h2])]
  have cq : ∀ j, w2.cell? ⟨q, j, none⟩ = w.cell? ⟨q, j, none⟩ := fun j => by
    rw [← hw2, ← hw1, cell_set_ne _ _ _ _ _ _ (Ne.symm hne), cell_set_ne _ _ _ _ _ _ (Ne.symm hne)]
  have cf : ∀ a, w2.frozen? a = w.frozen? a := fun a => by rw [← hw2, ← hw1]; simp
  have hS2 : Same [p, q] w.heap.size w w2 := by
    rw [← hw2, ← hw1]; exact ((Same.refl _ _ _).setCell (.inr (by simp)) _).setCell (.inr (by simp)) _
  have can1 : can w1 ⟨p, 1, none⟩ := ⟨⟨_, c1 1 _ h.c1⟩, by rw [← hw1]; simpa using h.fp 1⟩
  refine ⟨h.canp 2 (by omega), can1, _, c21, ?_⟩
  by_cases hn : 0 ≤ mi
  · refine cond_true' (by simpa using hn) ?_
    obtain ⟨m, rfl⟩ := Int.eq_ofNat_of_zero_le hn
    have hL6 : ∀ l : Nat, l ≤ 6 → m ≤ l → resetCap m mx = l * 64 → mem_Store_Reset.L6 (some ⟨p, 0, none⟩) m tb gl l R w2 := by
      intro l hl hml hcap
      refine mem_Store_Reset.step6 _ _ _ _ _ _ _ ?_
      unfold mem_Store_Reset.V6
      have e1 : IntKind.wrap .i64 ((m : Int) * 64) = ((m * 64 : Nat) : Int) := by rw [wrap_i64 (by omega) (by omega)]; omega
      have e2 : IntKind.wrap .i64 ((l : Int) * 64) = ((l * 64 : Nat) : Int) := by rw [wrap_i64 (by omega) (by omega)]; omega
      simp only [nilV_some, Nat.zero_add, e1, e2, Int.toNat_natCast, Nat.sub_zero]
      have e3 : slAddr (some ⟨q, 0, none⟩) 0 (l * 64) 1 = some ⟨q, 0, none⟩ := by
        by_cases hz : 0 < l * 64
        · rw [slAddr_lt hz]
        · have : l * 64 = 0 := by omega
          rw [this, slAddr_eq]
      have hcan2 : can w2 ⟨p, 2, none⟩ := ⟨⟨_, c22⟩, by rw [cf]; exact h.fp 2⟩
      refine ⟨_, _, _, by rw [cx 0 (by omega) (by omega)]; exact h.c0, by omega, hcan2, ?_⟩
      rw [e3]
      generalize hw3 : w2.setCell ⟨p, 2, none⟩ (.slice (some ⟨q, 0, none⟩) (m * 64) (l * 64)) = w3
      have hm3 : MSAt w3 p q { s with has := true, n := m * 64, cap := l * 64 } := by
        refine h.win true (m * 64) (l * 64) (fun j h1 h2 => ?_) ?_ ?_ (fun j => ?_) (fun a => ?_)
        · rw [← hw3, cell_setCell, if_neg (by simp [h2]), cx j h1 h2]
        · rw [← hw3, cell_setCell, if_neg (by simp), c21]; simp
        · rw [← hw3, cell_set _ _ _ _ _ c22, if_pos rfl]; rfl
        · rw [← hw3, cell_set_ne _ _ _ _ _ _ (Ne.symm hne), cq]
        · rw [← hw3]; simp [cf]
      refine ⟨_, _, _, hm3.c2, ?_⟩
      obtain ⟨w4, hr, hF⟩ := clear_fill T_sl_uint8.el rfl rfl T___ w3 q 0 (m * 64) (l * 64) (fun j hj => hm3.canq _ (by omega))
      refine ⟨w4, hr, ?_⟩
      rw [rep_map] at hF
      have hm := hm3.fillq hF
      rw [rep_fun] at hm
      refine Reset_tabs p q w tb gl ht1 hg0 hg R _ w4 hm ((hS2.trans (by rw [← hw3]; exact (Same.refl _ _ _).setCell (.inr (by simp)) _)).trans ((hF.same _).mono (Nat.le_refl _) (by simp))) (fun w' h1 h2 => hR w' ?_ h2)
      have en : ((m : Int) * 64).toNat = m * 64 := by omega
      rw [en, hcap]
      simpa using h1
    by_cases hx : mx = -1
    · refine cond_false' (by simp [hx]) ?_
      exact hL6 6 (by omega) (by omega) (by simp [resetCap, hx])
    · refine cond_true' (by simpa using hx) ?_
      have := hmm hx
      obtain ⟨x, rfl⟩ := Int.eq_ofNat_of_zero_le (show 0 ≤ mx by omega)
      by_cases h6 : (6 : Int) < x
      · rw [if_pos h6]; exact hL6 6 (by omega) (by omega) (by simp [resetCap]; omega)
      · rw [if_neg h6]; exact hL6 x (by omega) (by omega) (by
          unfold resetCap
          by_cases hx6 : (x : Int) < 6
          · rw [if_pos (by omega), if_pos (by omega)]; omega
          · rw [if_pos (by omega), if_neg (by omega)]; omega)
  · refine cond_false' (by simpa using hn) ?_
    have hm1 : mi = -1 := by omega
    subst hm1
    have hm2 : MSAt w2 p q { s with has := false, n := 0, cap := 0 } := h.win false 0 0 cx (by simpa using c21) c22 cq cf
    refine Reset_tabs p q w tb gl ht1 hg0 hg R _ w2 hm2 hS2 (fun w' h1 h2 => hR w' ?_ h2)
    simpa [resetCap] using h1

theorem Reset_spec (w : World) (p q : Nat) (s : MS) (h : MSAt w p q s) (mi mx tb gl : Int) (hmx63 : mx ≤ 9223372036854775807) :
    Runs Tryz.prog mem_Store_Reset.id #[.pointer (some ⟨p, 0, none⟩), .int .i64 mi, .int .i64 mx, .int .i64 tb, .int .i64 gl] w fun r w' =>
      r = .int .i64 (s.reset mi mx tb gl).1 ∧ MSAt w' p q (s.reset mi mx tb gl).2 ∧ Same [p, q] w.heap.size w w' := by
  refine mem_Store_Reset.enter _ _ _ _ _ _ _ ?_
  generalize hRd : (fun (r : Value) (w' : World) => r = .int .i64 (s.reset mi mx tb gl).1 ∧ MSAt w' p q (s.reset mi mx tb gl).2 ∧ Same [p, q] w.heap.size w w') = R
  have bad : badReset mi mx tb gl = true → R (.int .i64 36) w := fun hb => by
    subst hRd
    have e : s.reset mi mx tb gl = (36, s) := by simp only [MS.reset, if_pos hb]
    rw [e]; exact ⟨rfl, h, Same.refl _ _ _⟩
  have L5 : badReset mi mx tb gl = false → mem_Store_Reset.L5 (some ⟨p, 0, none⟩) mi mx tb gl R w := fun hb => by
    have hb' := hb
    simp only [badReset, Bool.or_eq_false_iff, Bool.and_eq_false_imp, decide_eq_false_iff_not, decide_eq_true_eq] at hb'
    refine Reset_go w p q s h mi mx tb gl (by omega) (by omega) (by omega) (fun hx => by have := hb'.1.1.1.1.1.2 hx; omega) (fun hx => by have := hb'.1.1.1.1.2 hx; omega) (by omega) (by omega) (by omega) hmx63 R (fun w' h1 h2 => ?_)
    subst hRd
    simp only [MS.reset, hb, Bool.false_eq_true, if_false]
    exact ⟨by trivial, h1, h2⟩
  unfold mem_Store_Reset.V
  refine cond_intro (fun hc => bad ?_) (fun h1 => cond_intro (fun hc => bad ?_) (fun h2 => ?_))
  · simp at hc; simp [badReset, hc]
  · simp at hc; simp [badReset, hc]
  refine mem_Store_Reset.step1 _ _ _ _ _ _ _ ?_
  unfold mem_Store_Reset.V1
  have L2 : ¬ mx < -1 → ¬ (mx ≠ -1 ∧ mx < mi) → mem_Store_Reset.L2 (some ⟨p, 0, none⟩) mi mx tb gl R w := by
    intro h3 h4
    refine mem_Store_Reset.step2 _ _ _ _ _ _ _ ?_
    unfold mem_Store_Reset.V2
    have L3 : ¬ (mi = -1 ∧ mx ≠ -1) → mem_Store_Reset.L3 (some ⟨p, 0, none⟩) mi mx tb gl R w := by
      intro h5
      refine mem_Store_Reset.step3 _ _ _ _ _ _ _ ?_
      unfold mem_Store_Reset.V3
      refine cond_intro (fun hc => bad ?_) (fun h6 => cond_intro (fun hc => bad ?_) (fun h7 => ?_))
      · simp at hc; simp [badReset, hc]
      · simp at hc; simp [badReset, hc]
      refine mem_Store_Reset.step4 _ _ _ _ _ _ _ ?_
      unfold mem_Store_Reset.V4
      refine cond_intro (fun hc => bad ?_) (fun h8 => cond_intro (fun hc => bad ?_) (fun h9 => L5 ?_))
      · simp at hc; simp [badReset, hc]
      · simp at hc; simp [badReset, hc]
      · simp only [decide_eq_false_iff_not] at h1 h2 h6 h7 h8 h9
        simp only [badReset, Bool.or_eq_false_iff, Bool.and_eq_false_imp, decide_eq_false_iff_not, decide_eq_true_eq]
        refine ⟨⟨⟨⟨⟨⟨⟨⟨?_, ?_⟩, ?_⟩, ?_⟩, ?_⟩, ?_⟩, ?_⟩, ?_⟩, ?_⟩ <;> omega
    refine cond_intro (fun hc => cond_intro (fun hd => bad ?_) (fun hd => L3 ?_)) (fun hc => L3 ?_)
    · simp at hc hd; simp [badReset, hc, hd]
    · simp at hc hd; omega
    · simp at hc; omega
  refine cond_intro (fun hc => bad ?_) (fun h3 => cond_intro (fun hc => cond_intro (fun hd => bad ?_) (fun hd => L2 ?_ ?_)) (fun hc => L2 ?_ ?_))
  · simp at hc; simp [badReset, hc]
  · simp at hc hd; simp [badReset, hc, hd]
  · simp at h3; omega
  · simp at hd; omega
  · simp at h3; omega
  · simp at hc; omega

end Go.Proofs.Qxb6500317aGreat.M
