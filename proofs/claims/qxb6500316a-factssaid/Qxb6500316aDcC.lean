/-
  Cells filled, strings copied, the numbers of the reader.
-/
import Derived.Test.Qxb6500316aDcB
set_option linter.unusedSimpArgs false
set_option linter.unusedVariables false
set_option maxRecDepth 100000
namespace Go.Proofs.Qxb6500316a
open Go Go.Vc

theorem cell_setCell (w : World) (b i b' j : Nat) (v : Value) : (w.setCell ⟨b, i, none⟩ v).cell? ⟨b', j, none⟩ = if b' = b ∧ j = i then (w.cell? ⟨b', j, none⟩).map (fun _ => v) else w.cell? ⟨b', j, none⟩ := by
  by_cases h : b' = b ∧ j = i
  · obtain ⟨rfl, rfl⟩ := h
    rw [if_pos ⟨rfl, rfl⟩]
    cases hc : w.cell? ⟨b', j, none⟩ with
    | none =>
      simp only [World.setCell, World.cell?, Array.getElem?_modify, if_true] at hc ⊢
      cases hh : w.heap[b']? with
      | none => simp [hh]
      | some o =>
        cases o <;> simp_all
    | some u => simp [World.cell?_setCell_same w _ v hc]
  · rw [if_neg h, World.cell?_setCell_other w _ _ v (by intro he; simp at he; exact h ⟨he.1.symm, he.2.symm⟩)]

/-- In w' the cells of block b from o on hold vs; all else is as in w. -/
structure Fill (w w' : World) (b o : Nat) (vs : List Value) : Prop where
  cell : ∀ b' j, w'.cell? ⟨b', j, none⟩ = if b' = b ∧ o ≤ j ∧ j < o + vs.length then vs[j - o]? else w.cell? ⟨b', j, none⟩
  frozen : ∀ a, w'.frozen? a = w.frozen? a
  same : ∀ B, Same [b] B w w'

/-! ### Records -/
theorem putCells_intro (b : Nat) : ∀ (vs : List Value) (o : Nat) (w : World) (K : World → Prop), (∀ j, j < vs.length → can w ⟨b, o + j, none⟩) → (∀ w', Fill w w' b o vs → K w') → putCells w ⟨b, o, none⟩ vs K
  | [], o, w, K, _, hK => hK w ⟨fun b' j => by rw [if_neg (by simp <;> omega)], fun _ => rfl, fun B => Same.refl _ _ _⟩
  | v :: vs, o, w, K, hc, hK => by
    have hc0 := hc 0 (by simp)
    rw [Nat.add_zero] at hc0
    obtain ⟨⟨u, hu⟩, hf⟩ := hc0
    refine ⟨⟨⟨u, hu⟩, hf⟩, putCells_intro b vs (o + 1) _ K (fun j hj => ?_) (fun w' hF => hK w' ⟨?_, fun a => by rw [hF.frozen]; simp, fun B => ((Same.refl _ _ _).setCell (.inr (by simp)) _).trans (hF.same B)⟩)⟩
    · obtain ⟨⟨x, hx⟩, hfx⟩ := hc (j + 1) (by simp; omega)
      refine ⟨⟨x, ?_⟩, by simpa [show o + 1 + j = o + (j + 1) by omega] using hfx⟩
      rw [cell_setCell, if_neg (by omega), show o + 1 + j = o + (j + 1) by omega, hx]
    · intro b' j
      rw [hF.cell, cell_setCell]
      simp only [List.length_cons]
      by_cases hb : b' = b
      · subst hb
        by_cases hj : j = o
        · subst hj
          rw [if_neg (by omega), if_pos ⟨rfl, rfl⟩, if_pos (by omega), hu]
          simp
        · by_cases hin : o + 1 ≤ j ∧ j < o + 1 + vs.length
          · rw [if_pos ⟨rfl, hin⟩, if_pos (by omega)]
            have : j - o = (j - (o + 1)) + 1 := by omega
            rw [this]; simp
          · rw [if_neg (by omega), if_neg (by omega), if_neg (by omega)]
      · rw [if_neg (by simp [hb]), if_neg (by simp [hb]), if_neg (by simp [hb])]


theorem storeCells_fill {P : Program} (b o : Nat) : ∀ (vs : List Value) (i : Nat) (w : World), (∀ u ∈ vs, u.oneCell' = true) → (∀ j, j < vs.length → can w ⟨b, o + i + j, none⟩) →
    ∃ w', (storeCells ⟨b, o, none⟩ vs i).run P w = .ok () w' ∧ Fill w w' b (o + i) vs
  | [], i, w, _, _ => ⟨w, rfl, fun b' j => by rw [if_neg (by simp <;> omega)], fun _ => rfl, fun B => Same.refl _ _ _⟩
  | v :: vs, i, w, h1, hc => by
    obtain ⟨⟨u, hu⟩, hf⟩ := hc 0 (by simp)
    rw [Nat.add_zero] at hu hf
    have ih := storeCells_fill (P := P) b o vs (i + 1) (w.setCell ⟨b, o + i, none⟩ v) (fun u hu => h1 u (by simp [hu])) (fun j hj => by
      obtain ⟨⟨x, hx⟩, hfx⟩ := hc (j + 1) (by simp; omega)
      refine ⟨⟨x, ?_⟩, by simpa [show o + (i + 1) + j = o + i + (j + 1) by omega] using hfx⟩
      rw [cell_setCell, if_neg (by omega), show o + (i + 1) + j = o + i + (j + 1) by omega, hx])
    obtain ⟨w', hr, hF⟩ := ih
    refine ⟨w', ?_, ?_, fun a => by rw [hF.frozen]; simp, fun B => ((Same.refl _ _ _).setCell (.inr (by simp)) _).trans (hF.same B)⟩
    · unfold storeCells
      simp only [add_mk, Sem.run_bind, run_store P w _ v _ (h1 v (by simp)), hu, hf, Bool.false_eq_true, if_false, Result.andThen_ok, hr]
    · intro b' j
      rw [hF.cell, cell_setCell]
      simp only [List.length_cons]
      by_cases hb : b' = b
      · subst hb
        by_cases hj : j = o + i
        · subst hj
          rw [if_neg (by omega), if_pos ⟨rfl, rfl⟩, if_pos (by omega), hu]
          simp
        · by_cases hin : o + (i + 1) ≤ j ∧ j < o + (i + 1) + vs.length
          · rw [if_pos ⟨rfl, hin⟩, if_pos (by omega)]
            have : j - (o + i) = (j - (o + (i + 1))) + 1 := by omega
            rw [this]; simp
          · rw [if_neg (by omega), if_neg (by omega), if_neg (by omega)]
      · rw [if_neg (by simp [hb]), if_neg (by simp [hb]), if_neg (by simp [hb])]

def bytesOf (d : ByteArray) : List Int := d.data.toList.map fun b => (b.toNat : Int)
theorem bytesOf_length (d : ByteArray) : (bytesOf d).length = d.size := by
  unfold bytesOf; rw [List.length_map, Array.length_toList]; rfl
theorem bytesOf_getD (d : ByteArray) (j : Nat) (h : j < d.size) : (bytesOf d).getD j 0 = byteAt d j := by
  have : j < d.data.size := h
  simp only [bytesOf, byteAt, List.getD, List.getElem?_map, Array.getElem?_toList, Array.getD_eq_getD_getElem?, Array.getElem?_eq_getElem this, Option.map_some, Option.getD_some]

theorem copy_fill {P : Program} {t e : TypeId} {i : TypeInfo} {z : Value} {bytes : Nat} (hE : Elem P t e i z 1 bytes) (ts ty : TypeId) (w : World) (b o n c : Nat) (d : ByteArray) (hd : d.size ≤ n) (hc : ∀ j, j < d.size → can w ⟨b, o + j, none⟩) :
    ∃ w', (Builtin.copy_ #[t, ts] ty #[.slice (some ⟨b, o, none⟩) n c, .string d]).run P w = .ok (.int .i64 (d.size : Nat)) w' ∧ Fill w w' b o ((bytesOf d).map (Value.int .u8)) := by
  obtain ⟨w', hr, hF⟩ := storeCells_fill (P := P) b o ((bytesOf d).map (Value.int .u8)) 0 w (fun u hu => by
    simp only [List.mem_map] at hu; obtain ⟨x, _, rfl⟩ := hu; rfl) (fun j hj => by simpa using hc j (by simpa [bytesOf_length] using hj))
  rw [Nat.add_zero] at hF
  refine ⟨w', ?_, hF⟩
  have hm : Nat.min d.size n = d.size := Nat.min_eq_left hd
  have hx : d.extract 0 d.size = d := by simp
  have hl : (Array.map (fun b : UInt8 => Value.int .u8 (b.toNat : Int)) d.data).toList = (bytesOf d).map (Value.int .u8) := by
    simp [bytesOf]
  simp only [Builtin.copy_, List.getElem?_toArray, List.getElem?_cons_zero, List.getElem?_cons_succ, Sem.run_bind, run_underlying hE.ht, Result.andThen_ok, Builtin.lenOf, Sem.run_pure, hm, Builtin.firstCells, sizeOf, typeInfo, run_program, hE.hi, hx, hl, hr, goInt]


/-! ### valtypes -/
def valtypesL (s : ByteArray) (e : Nat) : Nat → Nat → Res Unit
  | 0, p => .ok () p
  | k + 1, p => (valtypeP s e p).bind fun _ q => valtypesL s e k q
def valtypesP (s : ByteArray) (e : Nat) (max : Int) (p : Nat) : Res ByteArray := (countP s e max p).bind fun n q => (valtypesL s e n q).bind fun _ q2 => .ok (s.extract q q2) q2

theorem valtypes_loop {s : ByteArray} {e b rb n fr : Nat} (R Q : Value → World → Prop) (w0 : World) (hn : n ≤ 4294967295)
    (hr : ∀ q w', valtypesL s e n fr = .ok () q → fr ≤ q → q ≤ e → RdAt w' rb s q e b → Same [rb] w0.heap.size w0 w' → R (.string (s.extract fr q)) w')
    (hq : ∀ c a w', valtypesL s e n fr = .err c a → Same [rb] w0.heap.size w0 w' → Q (faultV c a) w') :
    ∀ (k : Nat) (p : Nat) (w : World), k ≤ n → RdAt w rb s p e b → Txt s p e → fr ≤ p → Same [rb] w0.heap.size w0 w → valtypesL s e n fr = valtypesL s e k p →
      bin_reader_valtypes.L1 (some ⟨rb, 0, none⟩) n fr ((n - k : Nat) : Int) R Q w := by
  intro k
  induction k with
  | zero =>
    intro p w _ h t hp hS hu
    have t1 := t.pe; have t2 := t.es; have t3 := t.sz
    refine bin_reader_valtypes.step1 _ _ _ _ _ _ _ ?_
    unfold bin_reader_valtypes.V1
    refine cond_false' (decide_eq_false (by omega)) ?_
    simp only [nilV_some, true_and, Nat.zero_add]
    have hd := h.drew
    refine ⟨_, hd.c0, _, hd.c1, by omega, ?_⟩
    rw [Int.toNat_natCast, Int.toNat_natCast]
    exact hr p _ hu hp t1 hd hS.drew
  | succ k ih =>
    intro p w hk h t hp hS hu
    have t1 := t.pe; have t2 := t.es; have t3 := t.sz
    have hu2 : valtypesL s e n fr = (valtypeP s e p).bind fun _ q => valtypesL s e k q := hu
    refine bin_reader_valtypes.step1 _ _ _ _ _ _ _ ?_
    unfold bin_reader_valtypes.V1
    refine cond_true' (decide_eq_true (by omega)) ?_
    refine (valtype_spec h t).into (fun c q w' hn h1 h2 hR hS' => ⟨_, rfl, ?_⟩) (fun c a w' hn hS' => hq c a w' (by rw [hu2, hn]; rfl) (hS.trans (hS'.mono hS.size (by simp))))
    have e1 : IntKind.wrap .i64 (((n - (k + 1) : Nat) : Int) + 1) = ((n - k : Nat) : Int) := by rw [wrap_i64 (by omega) (by omega)]; omega
    rw [e1]
    exact ih q w' (by omega) hR ⟨h2, t2, t3⟩ (by omega) (hS.trans (hS'.mono hS.size (by simp))) (by rw [hu2, hn]; rfl)

theorem valtypes_spec {w : World} {rb : Nat} {s : ByteArray} {p e b : Nat} (h : RdAt w rb s p e b) (t : Txt s p e) (max : Int) (hmx : max ≤ 100) : Reads bin_reader_valtypes.id #[rp rb, .int .i64 max] w rb s p e b [] (valtypesP s e max p) Value.string := by
  refine bin_reader_valtypes.enter _ _ _ _ _ ?_
  unfold bin_reader_valtypes.V
  refine (count_spec h t max).into (fun n q w' hn h1 h2 hR hS => ⟨_, rfl, ?_⟩) (fun c a w' hn hS => ⟨c, a, by unfold valtypesP; rw [hn]; rfl, rfl, hS⟩)
  have hle := countP_le hn
  simp only [nilV_some, Nat.zero_add]
  refine ⟨_, hR.c1, ?_⟩
  have hc : valtypesP s e max p = (valtypesL s e n q).bind fun _ q2 => .ok (s.extract q q2) q2 := by unfold valtypesP; rw [hn]; rfl
  have e0 : ((n - n : Nat) : Int) = 0 := by omega
  have key := valtypes_loop (s := s) (e := e) (b := b) (rb := rb) (n := n) (fr := q) (fun v w' => ∃ a q, valtypesP s e max p = .ok a q ∧ v = Value.string a ∧ p ≤ q ∧ q ≤ e ∧ RdAt w' rb s q e b ∧ Same [rb] w.heap.size w w')
    (fun v w' => ∃ c a, valtypesP s e max p = .err c a ∧ v = faultV c a ∧ Same [rb] w.heap.size w w') w (by omega)
    (fun q2 w2 g1 g2 g3 g4 g5 => ⟨_, q2, by rw [hc, g1]; rfl, rfl, by omega, g3, g4, g5⟩) (fun c a w2 g1 g2 => ⟨c, a, by rw [hc, g1]; rfl, rfl, g2⟩) n q w' (Nat.le_refl _) hR ⟨h2, t.es, t.sz⟩ (Nat.le_refl _) hS rfl
  rw [e0] at key
  exact key

/-! ### sleb -/
def slebStep (v c sh : Int) : Int := bOr .u64 v (IntKind.wrap .u64 (IntKind.wrap .u64 (Int.tmod c 128) * 2 ^ (min (Int.toNat sh) (IntKind.bits .u64))))
def slebL (s : ByteArray) (e start : Nat) (bits : Int) : Nat → Int → Int → Nat → Res (Int × Int × Int)
  | 0, _, _, _ => .err 4 start
  | k + 1, v, sh, p => if bits ≤ sh then .err 4 start else (nextP s e p).bind fun c q => if c < 128 then .ok (slebStep v c sh, Int.tmod c 128, sh + 7) q else slebL s e start bits k (slebStep v c sh) (sh + 7) q
theorem slebL_succ (s : ByteArray) (e start : Nat) (bits : Int) (k : Nat) (v sh : Int) (p : Nat) : slebL s e start bits (k + 1) v sh p = if bits ≤ sh then .err 4 start else (nextP s e p).bind fun c q => if c < 128 then .ok (slebStep v c sh, Int.tmod c 128, sh + 7) q else slebL s e start bits k (slebStep v c sh) (sh + 7) q := rfl
def slebX (v sh : Int) : Int := Int.fdiv (IntKind.wrap .i64 (IntKind.wrap .u64 (v * 2 ^ (min (Int.toNat (IntKind.wrap .u64 (64 - sh))) (IntKind.bits .u64))))) (2 ^ (min (Int.toNat (IntKind.wrap .u64 (64 - sh))) (IntKind.bits .i64)))
def slebFin (bits v c sh : Int) : Option Int :=
  if 64 < sh then (if c ≠ 0 ∧ c ≠ 127 then none else some v)
  else if bits = 32 then (if slebX v sh < -2147483648 ∨ 2147483647 < slebX v sh then none else some (IntKind.wrap .u64 (IntKind.wrap .u32 (slebX v sh)))) else some (IntKind.wrap .u64 (slebX v sh))
def slebP (s : ByteArray) (e : Nat) (bits : Int) (p : Nat) : Res Int := (slebL s e p bits 11 0 0 p).bind fun x q => match slebFin bits x.1 x.2.1 x.2.2 with | some y => .ok y q | none => .err 4 p

theorem sleb_fin {s : ByteArray} {e b rb start : Nat} (bits v c sh : Int) (hsh : 0 ≤ sh) (hsh2 : sh ≤ 77) (R Q : Value → World → Prop) (w : World)
    (hr : ∀ y, slebFin bits v c sh = some y → R (.int .u64 y) w) (hq : slebFin bits v c sh = none → Q (faultV 4 start) w) :
    bin_reader_sleb.L1 (some ⟨rb, 0, none⟩) bits start v c sh false R Q w := by
  refine bin_reader_sleb.step1 _ _ _ _ _ _ _ _ _ _ ?_
  unfold bin_reader_sleb.V1
  refine cond_false' rfl ?_
  unfold slebFin at hr hq
  by_cases h64 : 64 < sh
  · rw [if_pos h64] at hr hq
    refine cond_true' (decide_eq_true h64) ?_
    have L3 : ∀ tt : Bool, (tt = true ↔ (c ≠ 0 ∧ c ≠ 127)) → bin_reader_sleb.L3 start v tt R Q w := by
      intro tt htt
      refine bin_reader_sleb.step3 _ _ _ _ _ _ ?_
      unfold bin_reader_sleb.V3
      refine cond_intro (fun g => ?_) (fun g => ?_)
      · exact hq (by rw [if_pos (htt.1 g)])
      · refine bin_reader_sleb.step5 _ _ _ _ ?_
        exact hr v (by rw [if_neg (fun k => by rw [htt.2 k] at g; cases g)])
    refine cond_intro (fun g => L3 _ ?_) (fun g => L3 _ ?_)
    · have g' : c ≠ 0 := bne_iff_ne.1 g
      constructor
      · intro k; exact ⟨g', bne_iff_ne.1 k⟩
      · intro k; exact bne_iff_ne.2 k.2
    · constructor
      · intro k; cases k
      · intro k; rw [bne_iff_ne.2 k.1] at g; cases g
  · rw [if_neg h64] at hr hq
    refine cond_false' (decide_eq_false h64) ?_
    have hup : 0 ≤ IntKind.wrap .u64 (64 - sh) := by rw [wrap_u64_mod]; omega
    refine ⟨hup, hup, ?_⟩
    by_cases hb : bits = 32
    · rw [if_pos hb] at hr hq
      refine cond_true' (by rw [hb]; rfl) ?_
      have L4 : ∀ tt : Bool, (tt = true ↔ (slebX v sh < -2147483648 ∨ 2147483647 < slebX v sh)) → bin_reader_sleb.L4 start (slebX v sh) tt R Q w := by
        intro tt htt
        refine bin_reader_sleb.step4 _ _ _ _ _ _ ?_
        unfold bin_reader_sleb.V4
        refine cond_intro (fun g => ?_) (fun g => ?_)
        · exact hq (by rw [if_pos (htt.1 g)])
        · refine bin_reader_sleb.step6 _ _ _ _ ?_
          exact hr _ (by rw [if_neg (fun k => by rw [htt.2 k] at g; cases g)])
      refine cond_intro (fun g => L4 _ ?_) (fun g => L4 _ ?_)
      · have g' := of_decide_eq_true g
        exact ⟨fun _ => .inl g', fun _ => rfl⟩
      · have g' := of_decide_eq_false g
        constructor
        · intro k; exact .inr (of_decide_eq_true k)
        · rintro (k | k)
          · exact absurd k g'
          · exact decide_eq_true k
    · rw [if_neg hb] at hr hq
      exact cond_false' (by rw [beq_eq_false_iff_ne]; exact hb) (hr _ rfl)

theorem sleb_loop {s : ByteArray} {e b rb start : Nat} (bits : Int) (hb64 : bits ≤ 64) (R Q : Value → World → Prop) (w0 : World)
    (hr : ∀ a q w', slebP s e bits start = .ok a q → start ≤ q → q ≤ e → RdAt w' rb s q e b → Same [rb] w0.heap.size w0 w' → R (.int .u64 a) w')
    (hq : ∀ c a w', slebP s e bits start = .err c a → Same [rb] w0.heap.size w0 w' → Q (faultV c a) w') :
    ∀ (k : Nat) (v c0 sh : Int) (p : Nat) (w : World), sh = 7 * ((11 : Int) - k) → k ≤ 11 → 1 ≤ k → RdAt w rb s p e b → Txt s p e → start ≤ p → Same [rb] w0.heap.size w0 w → slebL s e start bits 11 0 0 start = slebL s e start bits k v sh p →
      bin_reader_sleb.L1 (some ⟨rb, 0, none⟩) bits start v c0 sh true R Q w := by
  intro k
  induction k with
  | zero => intro v c0 sh p w _ _ h1; omega
  | succ k ih =>
    intro v c0 sh p w hsh hk _ h t hp hS hu
    have t1 := t.pe; have t2 := t.es; have t3 := t.sz
    have hu := hu.trans (slebL_succ s e start bits k v sh p)
    refine bin_reader_sleb.step1 _ _ _ _ _ _ _ _ _ _ ?_
    unfold bin_reader_sleb.V1
    refine cond_true' rfl ?_
    by_cases hbs : bits ≤ sh
    · rw [if_pos hbs] at hu
      exact cond_true' (decide_eq_true hbs) (hq _ _ w (by unfold slebP; rw [hu]; rfl) hS)
    · rw [if_neg hbs] at hu
      refine cond_false' (decide_eq_false hbs) ?_
      refine bin_reader_sleb.step2 _ _ _ _ _ _ _ _ ?_
      unfold bin_reader_sleb.V2
      refine (next_spec h t).into (fun c q w' hn h1 h2 hR hS' => ⟨_, rfl, by omega, ?_⟩) (fun c a w' hn hS' => hq c a w' (by unfold slebP; rw [hu, hn]; rfl) (hS.trans (hS'.mono hS.size (by simp))))
      have hS2 := hS.trans (hS'.mono hS.size (by simp))
      have e1 : IntKind.wrap .u64 (sh + 7) = sh + 7 := wrap_u64 (by omega) (by omega)
      have hu2 : slebL s e start bits 11 0 0 start = if c < 128 then .ok (slebStep v c sh, Int.tmod c 128, sh + 7) q else slebL s e start bits k (slebStep v c sh) (sh + 7) q := by rw [hu, hn]; rfl
      rw [e1]
      by_cases hc : c < 128
      · rw [if_pos hc] at hu2
        rw [decide_eq_false (show ¬ c ≥ 128 by omega)]
        have hP : slebP s e bits start = match slebFin bits (slebStep v c sh) (Int.tmod c 128) (sh + 7) with | some y => .ok y q | none => .err 4 start := by unfold slebP; rw [hu2]; rfl
        refine sleb_fin (s := s) (e := e) (b := b) bits (slebStep v c sh) (Int.tmod c 128) (sh + 7) (by omega) (by omega) R Q w' (fun y hy => hr y q w' (by rw [hP, hy]) (by omega) h2 hR hS2) (fun hy => hq 4 start w' (by rw [hP, hy]) hS2)
      · rw [if_neg hc] at hu2
        rw [decide_eq_true (show c ≥ 128 by omega)]
        have hk0 : k ≠ 0 := by
          rintro rfl
          omega
        exact ih _ _ _ q w' (by omega) (by omega) (by omega) hR ⟨h2, t2, t3⟩ (by omega) hS2 hu2

theorem sleb_spec {w : World} {rb : Nat} {s : ByteArray} {p e b : Nat} (h : RdAt w rb s p e b) (t : Txt s p e) (bits : Int) (hb : bits ≤ 64) : Reads bin_reader_sleb.id #[rp rb, .int .u64 bits] w rb s p e b [] (slebP s e bits p) (Value.int .u64) := by
  refine bin_reader_sleb.enter _ _ _ _ _ ?_
  unfold bin_reader_sleb.V
  simp only [nilV_some, Nat.zero_add]
  refine ⟨_, h.c1, ?_⟩
  exact sleb_loop bits hb _ _ w (fun a q w' h1 h2 h3 h4 h5 => ⟨a, q, h1, rfl, h2, h3, h4, h5⟩) (fun c a w' h1 h2 => ⟨c, a, h1, rfl, h2⟩) 11 0 0 0 p w (by decide) (by decide) (by decide) h t (Nat.le_refl _) (Same.refl _ _ _) rfl

/-! ### word -/
def wordL (t : ByteArray) : Nat → Int → Int
  | 0, v => v
  | k + 1, v => wordL t k (bOr .u64 (IntKind.wrap .u64 (v * 2 ^ (8 : Nat))) (IntKind.wrap .u64 (if k < t.size then byteAt t k else 0)))
def wordP (s : ByteArray) (e n p : Nat) : Res Int := (takeP s e n p).bind fun t q => .ok (wordL t 8 0) q

theorem word_loop (t : ByteArray) (b : Nat) (R Q : Value → World → Prop) (w : World) (hc : ∀ j, j < 8 → w.cell? ⟨b, j, none⟩ = some (.int .u8 (if j < t.size then byteAt t j else 0))) :
    ∀ (k : Nat) (v : Int), k ≤ 8 → R (.int .u64 (wordL t k v)) w → bin_reader_word.L1 b v ((k : Int) - 1) R Q w := by
  intro k
  induction k with
  | zero =>
    intro v _ hR
    refine bin_reader_word.step1 _ _ _ _ _ _ ?_
    unfold bin_reader_word.V1
    exact cond_false' (by decide) hR
  | succ k ih =>
    intro v hk hR
    refine bin_reader_word.step1 _ _ _ _ _ _ ?_
    unfold bin_reader_word.V1
    refine cond_true' (decide_eq_true (by omega)) ⟨by omega, ?_⟩
    have e1 : (((k + 1 : Nat) : Int) - 1).toNat = k := by omega
    have e2 : IntKind.wrap .i64 ((((k + 1 : Nat) : Int) - 1) - 1) = (k : Int) - 1 := by rw [wrap_i64 (by omega) (by omega)]; omega
    rw [e1, e2, add_mk, Nat.zero_add, Nat.mul_one]
    exact ⟨_, hc k (by omega), ih _ (by omega) hR⟩

theorem takeP_size {s : ByteArray} {e n p q : Nat} {x : ByteArray} (t : Txt s p e) (h : takeP s e n p = .ok x q) : x.size = n ∧ q = p + n ∧ x = s.extract p (p + n) := by
  have t1 := t.pe; have t2 := t.es
  unfold takeP at h
  split at h
  · cases h
  · (first | (injection h with z__; injection z__ with h1 h2) | injection h with h1 h2)
    refine ⟨?_, h2.symm, h1.symm⟩
    rw [← h1, ByteArray.size_extract]
    omega

theorem word_spec {w : World} {rb : Nat} {s : ByteArray} {p e b : Nat} (h : RdAt w rb s p e b) (t : Txt s p e) (n : Nat) (hn8 : n ≤ 8) : Reads bin_reader_word.id #[rp rb, .int .i64 (n : Int)] w rb s p e b [] (wordP s e n p) (Value.int .u64) := by
  refine bin_reader_word.enter _ _ _ _ _ ?_
  unfold bin_reader_word.V
  refine (take_spec h t n (by omega)).into (fun x q w' hn h1 h2 hR hS => ⟨_, rfl, ?_⟩) (fun c a w' hn hS => ⟨c, a, by unfold wordP; rw [hn]; rfl, rfl, hS⟩)
  obtain ⟨x1, x2, x3⟩ := takeP_size t hn
  refine letB_intro fun b6 hb6 => letW_intro fun w7 hw7 => ⟨by omega, ?_⟩
  have hS7 : Same [] w'.heap.size w' w7 := by rw [hw7]; exact (Same.refl _ _ _).alloc (Nat.le_refl _) _
  have c7 : ∀ j, j < 8 → w7.cell? ⟨b6, j, none⟩ = some (.int .u8 0) := fun j hj => by
    rw [hw7, hb6, World.cell?_alloc_new]
    have : j = 0 ∨ j = 1 ∨ j = 2 ∨ j = 3 ∨ j = 4 ∨ j = 5 ∨ j = 6 ∨ j = 7 := by omega
    rcases this with rfl | rfl | rfl | rfl | rfl | rfl | rfl | rfl <;> rfl
  have f7 : ∀ j, w7.frozen? ⟨b6, j, none⟩ = false := fun j => by rw [hw7, hb6, World.frozen?_alloc_new]
  obtain ⟨w8, hr8, hF8⟩ := copy_fill T_sl_uint8.el T_string T_int w7 b6 0 8 8 x (by omega) (fun j hj => by rw [Nat.zero_add]; exact ⟨⟨_, c7 j (by omega)⟩, f7 j⟩)
  have esl : slAddr (some ⟨b6, 0, none⟩) 0 8 1 = some ⟨b6, 0, none⟩ := by rw [slAddr_lt (by decide)]
  refine ⟨_, w8, by rw [esl]; exact hr8, ?_⟩
  have hb : w'.heap.size ≤ b6 := by omega
  have hS8 : Same [] w'.heap.size w' w8 := hS7.trans ((hF8.same _).mono (Nat.le_refl _) (by intro k hk hlt; simp at hk; omega))
  have e7 : (7 : Int) = ((8 : Nat) : Int) - 1 := by decide
  rw [e7]
  refine word_loop x b6 _ _ w8 (fun j hj => ?_) 8 0 (by decide) ?_
  · rw [hF8.cell]
    by_cases hjx : j < x.size
    · rw [if_pos ⟨rfl, by omega, by rw [List.length_map, bytesOf_length]; omega⟩, if_pos hjx, Nat.sub_zero, List.getElem?_map]
      have := bytesOf_getD x j hjx
      have hlt : j < (bytesOf x).length := by rw [bytesOf_length]; exact hjx
      rw [List.getElem?_eq_getElem hlt, Option.map_some]
      rw [List.getD_eq_getElem?_getD, List.getElem?_eq_getElem hlt, Option.getD_some] at this
      rw [this]
    · rw [if_neg (by rw [List.length_map, bytesOf_length]; omega), if_neg hjx]
      exact c7 j hj
  · exact ⟨_, q, by unfold wordP; rw [hn]; rfl, rfl, h1, h2, hR.same hS8 hR.lt (by simp), hS.trans (hS8.mono hS.size (by simp))⟩

end Go.Proofs.Qxb6500316a
