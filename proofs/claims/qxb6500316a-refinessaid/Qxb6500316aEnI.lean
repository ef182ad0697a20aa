/-
  Encode.
-/
import Derived.Test.Qxb6500316aEnH
import Derived.Laws.BytesArg
set_option linter.unusedSimpArgs false
set_option linter.unusedVariables false
set_option maxRecDepth 100000
set_option linter.unusedSectionVars false
namespace Go.Proofs.Qxb6500316a
open Go Go.Vc

/-- A buffer that the Bin keeps: nothing, or a block of bytes of its own. -/
def Room (w : World) (v : Value) (g : Option Nat) : Prop := (v = .slice none 0 0 ∧ g = none) ∨ ∃ k cap cur, v = .slice (some ⟨k, 0, none⟩) cap cap ∧ g = some k ∧ w.heap[k]? = some (.cells cur T_uint8 (0, 0)) ∧ cap ≤ maxLen ∧ cur.size = cap * 1
theorem Room.lt {w : World} {v : Value} {g : Option Nat} (h : Room w v g) : ∀ k, g = some k → k < w.heap.size := by
  intro k hk
  rcases h with ⟨_, h⟩ | ⟨k', cap, cur, _, h, hb, _⟩
  · rw [h] at hk; cases hk
  · rw [h] at hk; injection hk with hk; subst hk
    exact (Array.getElem?_eq_some_iff.1 hb).1
theorem Room.same {w w' : World} {v : Value} {g : Option Nat} (h : Room w v g) {S : List Nat} {B : Nat} (hs : Same S B w w') (hB : w.heap.size ≤ B) (hS : ∀ k, g = some k → k ∉ S) : Room w' v g := by
  have hl := h.lt
  rcases h with h | ⟨k, cap, cur, h1, h2, h3, h4⟩
  · exact .inl h
  · exact .inr ⟨k, cap, cur, h1, h2, by rw [hs.block k (Nat.lt_of_lt_of_le (hl k h2) hB) (hS k h2)]; exact h3, h4⟩
theorem slAddr_zero (k c : Nat) : slAddr (some ⟨k, 0, none⟩) 0 c 1 = some ⟨k, 0, none⟩ := by
  unfold slAddr
  split
  · rfl
  · simp only [Option.map_some, Nat.zero_mul, add_mk, Nat.add_zero]
theorem slAddr_nil (c : Nat) : slAddr none 0 c 1 = none := by
  unfold slAddr
  split <;> rfl
theorem Room.own {w : World} {v : Value} {g : Option Nat} (h : Room w v g) : ∃ a c, v = .slice a c c ∧ (Value.slice (slAddr a 0 c 1) ((Int.toNat 0) - 0) (c - 0)) = .slice a 0 c ∧ w.ownsRow 0 T_uint8 1 (.slice a 0 c) 0 (nums []) ∧ (Value.slice a 0 c).ownBlock = g := by
  rcases h with ⟨h1, h2⟩ | ⟨k, cap, cur, h1, h2, h3, h4, h5⟩
  · exact ⟨none, 0, h1, by rw [slAddr_nil]; rfl, ⟨rfl, .inl ⟨rfl, rfl⟩⟩, h2.symm⟩
  · exact ⟨_, cap, h1, by rw [slAddr_zero]; rfl, ⟨rfl, .inr ⟨k, cap, cur, rfl, Nat.zero_le _, h3, Nat.zero_le _, h4, h5, by simp⟩⟩, h2.symm⟩
theorem EW.room {w : World} {wb : Nat} {l : List Int} {g : Option Nat} {v : Value} (h : EW w wb l g v) : ∃ a c, v = .slice a l.length c ∧ (Value.slice (slAddr a 0 c 1) ((Int.toNat ((c : Nat) : Int)) - 0) (c - 0)) = .slice a c c ∧ Room w (.slice a c c) g := by
  rcases h.o.2 with ⟨h1, h0⟩ | ⟨k, cap, cur, h1, h2, h3, h4, h5, h6, h7⟩
  · refine ⟨none, 0, by rw [h1, h0], by rw [slAddr_nil]; rfl, .inl ⟨rfl, ?_⟩⟩
    rw [← h.og, h1]; rfl
  · refine ⟨_, cap, h1, by rw [slAddr_zero, Int.toNat_natCast]; rfl, .inr ⟨k, cap, cur, rfl, ?_, h3, h5, h6⟩⟩
    rw [← h.og, h1]; rfl

/-- The Bin with the buffers that it keeps. -/
structure BL (I : OutOf) (w : World) (b bi bt : Nat) (c : Sc) (go gs gf : Option Nat) : Prop where
  ba : @BinAt I w b bi bt c
  o : Room w I.out go
  s : Room w I.sec gs
  f : Room w I.fnb gf
  xo : ∀ k, go = some k → k ∉ [b, bi, bt]
  xs : ∀ k, gs = some k → k ∉ [b, bi, bt]
  xf : ∀ k, gf = some k → k ∉ [b, bi, bt]
  y1 : ∀ k, go = some k → gs ≠ some k
  y2 : ∀ k, go = some k → gf ≠ some k
  y3 : ∀ k, gs = some k → gf ≠ some k
def bufs (go gs gf : Option Nat) : List Nat := go.toList ++ (gs.toList ++ gf.toList)
theorem mem_bufs {go gs gf : Option Nat} {k : Nat} : k ∈ bufs go gs gf ↔ go = some k ∨ gs = some k ∨ gf = some k := by
  unfold bufs
  simp [Option.mem_toList]
theorem BL.low {I : OutOf} {w : World} {b bi bt : Nat} {c : Sc} {go gs gf : Option Nat} (h : BL I w b bi bt c go gs gf) : ∀ k, k ∈ bufs go gs gf → k < w.heap.size := by
  intro k hk
  rcases mem_bufs.1 hk with h1 | h1 | h1
  · exact h.o.lt k h1
  · exact h.s.lt k h1
  · exact h.f.lt k h1
theorem BL.apart {I : OutOf} {w : World} {b bi bt : Nat} {c : Sc} {go gs gf : Option Nat} (h : BL I w b bi bt c go gs gf) : ∀ k, k ∈ bufs go gs gf → k ∉ [b, bi, bt] := by
  intro k hk
  rcases mem_bufs.1 hk with h1 | h1 | h1
  · exact h.xo k h1
  · exact h.xs k h1
  · exact h.xf k h1

def magicL : List Int := [0, 97, 115, 109, 1, 0, 0, 0]
/-- The text of a module. -/
def encP (P : PM) : List Int := magicL ++ headE P ++ midE P ++ tailE P

theorem headE_len {P : PM} (B : PB P) : (magicL ++ headE P).length ≤ 110000 := by
  haveI := outNil
  have h1 := rowsE_len typeE P.ty 2100 P.nTy (fun j hj => typeE_len _ (B.ty j hj).1)
  have h2 := rowsE_len impE' P.im 2100 P.nIm (fun j hj => impE_len _ (B.im j hj).1 (B.im j hj).2.1)
  have h3 := rowsE_len (fun x : FnP => uleb x.ty) P.fn 10 P.nf (fun j _ => uleb_len _)
  have q1 := secE_len 1 P.nTy (rowsE typeE P.ty P.nTy)
  have q2 := secE_len 2 P.nIm (rowsE impE' P.im P.nIm)
  have q3 := secE_len 3 P.nf (rowsE (fun x : FnP => uleb x.ty) P.fn P.nf)
  have l1 := limE_len P.tmin P.tmax
  have l2 := limE_len P.mmin P.mmax
  have q4 := secE_len 4 1 ([112] ++ limE P.tmin P.tmax)
  have q5 := secE_len 5 1 (limE P.mmin P.mmax)
  have n1 := B.nTy; have n2 := B.nIm; have n3 := B.nf
  have m0 : magicL.length = 8 := rfl
  have i1 : (if 0 ≤ P.tmin then secE 4 1 ([112] ++ limE P.tmin P.tmax) else []).length ≤ (secE 4 1 ([112] ++ limE P.tmin P.tmax)).length := by split <;> simp
  have i2 : (if 0 ≤ P.mmin then secE 5 1 (limE P.mmin P.mmax) else []).length ≤ (secE 5 1 (limE P.mmin P.mmax)).length := by split <;> simp
  have e4 : ([112] ++ limE P.tmin P.tmax).length = 1 + (limE P.tmin P.tmax).length := by rw [List.length_append]; rfl
  unfold headE
  rw [List.length_append, List.length_append, List.length_append, List.length_append, List.length_append]
  omega
theorem midE_len {P : PM} (B : PB P) : (midE P).length ≤ 90000 := by
  haveI := outNil
  have h1 := rowsE_len globE' P.g 300 P.gn (fun j hj => globE_len _)
  have h2 := rowsE_len expE' P.ex 1100 P.nEx (fun j hj => expE_len _ (B.ex j hj).1)
  have h3 := rowsE_len elE' P.el 400 P.nEl (fun j hj => elE_len _ (B.el j hj).2.1)
  have q1 := secE_len 6 P.gn (rowsE globE' P.g P.gn)
  have q2 := secE_len 7 P.nEx (rowsE expE' P.ex P.nEx)
  have q3 := secE_len 9 P.nEl (rowsE elE' P.el P.nEl)
  have n1 := B.gn; have n2 := B.nEx; have n3 := B.nEl
  have us := uleb_len P.start
  have s1 : (startE P).length ≤ 12 := by
    unfold startE
    split
    · rw [List.length_append]
      have : [8, IntKind.wrap .u8 (ulenF 10 P.start 1)].length = 2 := rfl
      omega
    · simp
  unfold midE
  rw [List.length_append, List.length_append, List.length_append]
  omega

theorem Encode_spec {I : OutOf} {wd w : World} {b bi bt : Nat} {c : Sc} {go gs gf : Option Nat} (hB : BL I w b bi bt c go gs gf) {L mb : Nat} {m : Nat → Value} {P : PM} (hW : MW wd w (bufs go gs gf) L mb m P) (B : PB P) :
    Runs Try.prog bin_Bin_Encode.id #[rp b, rp mb] w fun v w' => v = .string (strOfNums (encP P)) ∧ ∃ I' go' gs' gf', BL I' w' b bi bt c go' gs' gf' ∧ Same (b :: bufs go gs gf) w.heap.size w w' ∧ ∀ k, k ∈ bufs go' gs' gf' → k ∈ bufs go gs gf ∨ w.heap.size ≤ k := by
  obtain ⟨ao, co, eo, so, oo, bo⟩ := hB.o.own
  obtain ⟨ax, cs, es, ss, os, bs⟩ := hB.s.own
  obtain ⟨af, cf, ef, sf, own3, bf⟩ := hB.f.own
  have lb := hB.ba.ltb; have li := hB.ba.lti; have lt' := hB.ba.ltt
  have k20 := hB.ba.c20; have k21 := hB.ba.c21; have k22 := hB.ba.c22
  rw [eo] at k20; rw [es] at k21; rw [ef] at k22
  refine bin_Bin_Encode.enter _ _ _ _ _ ?_
  unfold bin_Bin_Encode.V
  refine cond_false' rfl ?_
  simp only [nilV_some, Nat.zero_add]
  refine ⟨_, _, _, k20, by omega, letB_intro fun o ho => letW_intro fun w1 hw1 => ?_⟩
  rw [so] at hw1
  have S1 : Same [] w.heap.size w w1 := by rw [hw1]; exact (Same.refl _ _ _).alloc (Nat.le_refl _) _
  have z1 : w1.heap.size = w.heap.size + 1 := by rw [hw1]; simp
  refine ⟨_, _, _, (S1.cell (p := ⟨b, 21, none⟩) lb (by simp)).trans k21, by omega, letB_intro fun s hs => letW_intro fun w2 hw2 => ?_⟩
  rw [ss] at hw2
  have S2 : Same [] w1.heap.size w1 w2 := by rw [hw2]; exact (Same.refl _ _ _).alloc (Nat.le_refl _) _
  have z2 : w2.heap.size = w1.heap.size + 1 := by rw [hw2]; simp
  have S02 : Same [] w.heap.size w w2 := S1.trans (S2.mono (by omega) (by simp))
  refine ⟨_, _, _, (S02.cell (p := ⟨b, 22, none⟩) lb (by simp)).trans k22, by omega, letB_intro fun f hf => letW_intro fun w3 hw3 => ?_⟩
  rw [sf] at hw3
  have S3 : Same [] w2.heap.size w2 w3 := by rw [hw3]; exact (Same.refl _ _ _).alloc (Nat.le_refl _) _
  have z3 : w3.heap.size = w2.heap.size + 1 := by rw [hw3]; simp
  have S03 : Same [] w.heap.size w w3 := S02.trans (S3.mono (by omega) (by simp))
  have glo := hB.o.lt; have gls := hB.s.lt; have glf := hB.f.lt
  have ne : ∀ (g : Option Nat) (x : Nat), (∀ k, g = some k → k < w.heap.size) → w.heap.size ≤ x → g ≠ some x := fun g x h hx e => by have := h x e; omega
  have Eo1 : EW w1 o [] go (.slice ao 0 co) := ⟨by rw [hw1, ho, World.cell?_alloc_new]; rfl, fun j => by rw [hw1, ho, World.frozen?_alloc_new], owns_same oo S1 (by simp), bo, ne _ _ glo (by omega)⟩
  have Eo : EW w3 o [] go (.slice ao 0 co) := (Eo1.same S2 (by simp) (by simp)).same S3 (by simp) (by simp)
  have Es2 : EW w2 s [] gs (.slice ax 0 cs) := ⟨by rw [hw2, hs, World.cell?_alloc_new]; rfl, fun j => by rw [hw2, hs, World.frozen?_alloc_new], owns_same os S02 (by simp), bs, ne _ _ gls (by omega)⟩
  have Es : EW w3 s [] gs (.slice ax 0 cs) := Es2.same S3 (by simp) (by simp)
  have Ef : EW w3 f [] gf (.slice af 0 cf) := ⟨by rw [hw3, hf, World.cell?_alloc_new]; rfl, fun j => by rw [hw3, hf, World.frozen?_alloc_new], owns_same own3 S03 (by simp), bf, ne _ _ glf (by omega)⟩
  have c3 : EC w (bufs go gs gf) w3 o s f [] [] [] go gs gf :=
    ⟨⟨_, Eo⟩, ⟨_, Es⟩, ⟨_, Ef⟩, by omega, by omega, by omega, ne _ _ glo (by omega), ne _ _ glo (by omega), ne _ _ gls (by omega), ne _ _ gls (by omega), ne _ _ glf (by omega), ne _ _ glf (by omega), hB.y1, hB.y2, hB.y3, S03.mono (Nat.le_refl _) (by simp), by omega, by omega, by omega,
      fun k hk => .inl (mem_bufs.2 (.inl hk)), fun k hk => .inl (mem_bufs.2 (.inr (.inl hk))), fun k hk => .inl (mem_bufs.2 (.inr (.inr hk)))⟩
  refine puts Eo magicL (by decide) _ rfl 8 rfl (fun w4 g4 u4 hE4 hS4 => ?_)
  have c4 := c3.stepO ⟨u4, hE4⟩ hS4
  have hl := headE_len B
  have ml := midE_len B
  refine head_spec hW.mc B c4 (by decide) (fun w5 go5 gs5 c5 => ⟨rfl, ?_⟩)
  refine mid_spec hW B c5 hl (fun w6 go6 gs6 c6 => ⟨rfl, ?_⟩)
  refine tail_spec hW B c6 (by rw [List.length_append]; simp only [List.nil_append] at *; omega) (fun w7 go7 gs7 lf7 gf7 c7 => ⟨rfl, ?_⟩)
  have etext : [] ++ magicL ++ headE P ++ midE P ++ tailE P = encP P := by unfold encP; simp only [List.nil_append]
  rw [etext] at c7
  obtain ⟨uo, Eo7⟩ := c7.eo
  obtain ⟨us, Es7⟩ := c7.es
  obtain ⟨uf, Ef7⟩ := c7.ef
  obtain ⟨a7, q7, ev7, sl7, R7⟩ := Eo7.room
  obtain ⟨a8, q8, ev8, sl8, R8⟩ := Es7.room
  obtain ⟨a9, q9, ev9, sl9, R9⟩ := Ef7.room
  have co7 := Eo7.c; rw [ev7] at co7
  have cs7 := Es7.c; rw [ev8] at cs7
  have cf7 := Ef7.c; rw [ev9] at cf7
  have hne : encP P ≠ [] := by unfold encP magicL; simp
  obtain ⟨k7, hk7⟩ : ∃ k, a7 = some ⟨k, 0, none⟩ := by
    rcases Eo7.o.2 with ⟨_, h0⟩ | ⟨k, cap, cur, h1, _⟩
    · exact absurd (List.eq_nil_of_length_eq_zero h0) hne
    · rw [ev7] at h1; injection h1 with h1; exact ⟨k, h1⟩
  subst hk7
  have hrd := (own_read Eo7 ev7).2
  have hconv : Sem.run Try.prog (Go.convert T_sl_uint8 T_string (.slice (some ⟨k7, 0, none⟩) (encP P).length q7)) w7 = .ok (.string (strOfNums (encP P))) w7 := by
    refine run_convert_bytes_arg w7 T_sl_uint8 T_uint8 (by kernel_rfl) (by kernel_rfl) k7 0 (encP P).length q7 (encP P) rfl (fun i hi => ?_) T_string (by kernel_rfl)
    have := hrd i (.int .u8 ((encP P).getD i 0)) (by rw [List.getElem?_map, List.getElem?_eq_getElem hi, List.getD_eq_getElem?_getD, List.getElem?_eq_getElem hi]; rfl)
    rw [add_mk, Nat.zero_add] at this
    rw [Nat.zero_add]; exact this
  refine ⟨_, _, _, co7, _, _, hconv, ?_⟩
  simp only [true_and]
  refine ⟨_, _, _, co7, _, _, _, co7, by omega, ?_⟩
  have fr7 : Same (bufs go gs gf) w.heap.size w w7 := c7.fr
  have nb : ∀ k, k ∈ [b, bi, bt] → k ∉ bufs go gs gf := fun k hk h => hB.apart k h hk
  have lall : ∀ k, k ∈ [b, bi, bt] → k < w.heap.size := by
    intro k hk
    simp only [List.mem_cons, List.not_mem_nil, or_false] at hk
    rcases hk with rfl | rfl | rfl <;> assumption
  have b7 : @BinAt I w7 b bi bt c := @BinAt.same I w w7 b bi bt c hB.ba _ _ fr7 lb li lt' (nb b (by simp)) (nb bi (by simp)) (nb bt (by simp))
  have bo : b ≠ o := by have := c7.r1; omega
  have bs' : b ≠ s := by have := c7.r2; omega
  have bf' : b ≠ f := by have := c7.r3; omega
  have can7 : ∀ j v, w7.cell? ⟨b, j, none⟩ = some v → can w7.drew ⟨b, j, none⟩ := fun j v h => ⟨⟨v, h⟩, b7.fb j⟩
  rw [sl7]
  refine ⟨can7 20 _ b7.c20, letW_intro fun w8 hw8 => ?_⟩
  have keep8 : ∀ (k j : Nat), ¬(k = b ∧ j = 20) → w8.cell? ⟨k, j, none⟩ = w7.cell? ⟨k, j, none⟩ := fun k j h => by rw [hw8, cell_setCell, if_neg h]; rfl
  have fz8 : ∀ k j, w8.frozen? ⟨k, j, none⟩ = w7.frozen? ⟨k, j, none⟩ := fun k j => by rw [hw8, World.frozen?_setCell]; rfl
  refine ⟨_, _, _, (keep8 s 0 (by omega)).trans cs7, _, _, _, (keep8 s 0 (by omega)).trans cs7, by omega, ?_⟩
  rw [sl8]
  refine ⟨⟨⟨_, (keep8 b 21 (by omega)).trans b7.c21⟩, (fz8 b 21).trans (b7.fb 21)⟩, letW_intro fun w9 hw9 => ?_⟩
  have keep9 : ∀ (k j : Nat), ¬(k = b ∧ (j = 20 ∨ j = 21)) → w9.cell? ⟨k, j, none⟩ = w7.cell? ⟨k, j, none⟩ := fun k j h => by rw [hw9, cell_setCell, if_neg (by omega)]; exact keep8 k j (by omega)
  have fz9 : ∀ k j, w9.frozen? ⟨k, j, none⟩ = w7.frozen? ⟨k, j, none⟩ := fun k j => by rw [hw9, World.frozen?_setCell]; exact fz8 k j
  refine ⟨_, _, _, (keep9 f 0 (by omega)).trans cf7, _, _, _, (keep9 f 0 (by omega)).trans cf7, by omega, ?_⟩
  rw [sl9]
  refine ⟨⟨⟨_, (keep9 b 22 (by omega)).trans b7.c22⟩, (fz9 b 22).trans (b7.fb 22)⟩, letW_intro fun w10 hw10 => ?_⟩
  have keep10 : ∀ (k j : Nat), ¬(k = b ∧ (j = 20 ∨ j = 21 ∨ j = 22)) → w10.cell? ⟨k, j, none⟩ = w7.cell? ⟨k, j, none⟩ := fun k j h => by rw [hw10, cell_setCell, if_neg (by omega)]; exact keep9 k j (by omega)
  have fz10 : ∀ k j, w10.frozen? ⟨k, j, none⟩ = w7.frozen? ⟨k, j, none⟩ := fun k j => by rw [hw10, World.frozen?_setCell]; exact fz9 k j
  have n20 : w10.cell? ⟨b, 20, none⟩ = some (.slice (some ⟨k7, 0, none⟩) q7 q7) := by
    rw [hw10, cell_setCell, if_neg (by omega)]
    show w9.cell? _ = _
    rw [hw9, cell_setCell, if_neg (by omega)]
    show w8.cell? _ = _
    rw [hw8, cell_setCell, if_pos ⟨rfl, rfl⟩]
    show Option.map _ (w7.cell? _) = _
    rw [b7.c20]; rfl
  have n21 : w10.cell? ⟨b, 21, none⟩ = some (.slice a8 q8 q8) := by
    rw [hw10, cell_setCell, if_neg (by omega)]
    show w9.cell? _ = _
    rw [hw9, cell_setCell, if_pos ⟨rfl, rfl⟩]
    show Option.map _ (w8.cell? _) = _
    rw [keep8 b 21 (by omega), b7.c21]; rfl
  have n22 : w10.cell? ⟨b, 22, none⟩ = some (.slice a9 q9 q9) := by
    rw [hw10, cell_setCell, if_pos ⟨rfl, rfl⟩]
    show Option.map _ (w9.cell? _) = _
    rw [keep9 b 22 (by omega), b7.c22]; rfl
  have S7 : Same [b] w7.heap.size w7 w10 := by
    rw [hw10, hw9, hw8]
    exact (((((Same.refl _ _ _).drew.setCell (.inr (by simp)) _).drew).setCell (.inr (by simp)) _).drew).setCell (.inr (by simp)) _
  have apx : ∀ (g : Option Nat), (∀ k, g = some k → k ∈ bufs go gs gf ∨ w.heap.size ≤ k) → ∀ k, g = some k → k ∉ [b, bi, bt] := by
    intro g hg k hk hm
    rcases hg k hk with h | h
    · exact hB.apart k h hm
    · have := lall k hm; omega
  have xo := apx go7 c7.q1
  have xs := apx gs7 c7.q2
  have xf := apx gf7 c7.q3
  have nbk : ∀ (g : Option Nat), (∀ k, g = some k → k ∉ [b, bi, bt]) → ∀ k, g = some k → k ∉ [b] := fun g hg k hk hm => hg k hk (by simp only [List.mem_cons, List.not_mem_nil, or_false] at hm ⊢; exact .inl hm)
  have ni : bi ≠ b := hB.ba.n1.symm
  have nt : bt ≠ b := hB.ba.n2.symm
  refine ⟨⟨.slice (some ⟨k7, 0, none⟩) q7 q7, .slice a8 q8 q8, .slice a9 q9 q9⟩, go7, gs7, gf7, ⟨?_, R7.same S7 (Nat.le_refl _) (nbk _ xo), R8.same S7 (Nat.le_refl _) (nbk _ xs), R9.same S7 (Nat.le_refl _) (nbk _ xf), xo, xs, xf, c7.y1, c7.y2, c7.y3⟩, ?_, ?_⟩
  · exact @BinAt.mk ⟨.slice (some ⟨k7, 0, none⟩) q7 q7, .slice a8 q8 q8, .slice a9 q9 q9⟩ w10 b bi bt c (fun j hj => (keep10 _ _ (by omega)).trans (b7.ty j hj)) ((keep10 _ _ (by omega)).trans b7.c8) (fun j hj => (keep10 _ _ (by omega)).trans (b7.op j hj)) ((keep10 _ _ (by omega)).trans b7.c15) ((keep10 _ _ (by omega)).trans b7.c16) ((keep10 _ _ (by omega)).trans b7.c17) ((keep10 _ _ (by omega)).trans b7.c18) ((keep10 _ _ (by omega)).trans b7.c19) (fun j hj => (keep10 _ _ (by omega)).trans (b7.i0 j hj)) (fun j hj => (keep10 _ _ (by omega)).trans (b7.i1 j hj)) (fun j hj => (keep10 _ _ (by omega)).trans (b7.i2 j hj)) (fun j hj => (keep10 _ _ (by omega)).trans (b7.tb j hj)) (fun j => (fz10 _ _).trans (b7.fb j)) (fun j => (fz10 _ _).trans (b7.fi j)) (fun j => (fz10 _ _).trans (b7.ft j)) (b7.n1) (b7.n2) (b7.n3) (n20) (n21) (n22) b7.mT b7.mO b7.mI b7.mB
  · exact (fr7.mono (Nat.le_refl _) (fun k hk _ => List.mem_cons_of_mem _ hk)).trans (S7.mono fr7.size (by intro k hk _; simp only [List.mem_cons, List.not_mem_nil, or_false] at hk; subst hk; simp))
  · intro k hk
    rcases mem_bufs.1 hk with h | h | h
    · exact c7.q1 k h
    · exact c7.q2 k h
    · exact c7.q3 k h

end Go.Proofs.Qxb6500316a
