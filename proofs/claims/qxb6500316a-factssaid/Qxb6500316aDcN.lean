/-
  Decode as a call.
-/
import Derived.Test.Qxb6500316aDcM
set_option linter.unusedSimpArgs false
set_option linter.unusedVariables false
set_option maxRecDepth 100000
set_option linter.unusedSectionVars false
namespace Go.Proofs.Qxb6500316a
open Go Go.Vc
variable [OutOf]

theorem loadM (m4 : Nat) (w : World) (p : Option Addr) (h : w.cell? ⟨m4, 0, none⟩ = some (.pointer p)) : (loadVar 30 ⟨m4, 0, none⟩).run Try.prog w = .ok (.pointer p) w := by
  have e : loadV Try.prog 30 (.pointer (some ⟨m4, 0, none⟩)) w (fun u => u = .pointer p) = (∃ q : Option Addr, w.cell? ⟨m4, 0, none⟩ = some (.pointer q) ∧ (Value.pointer q) = .pointer p) := by kernel_rfl
  obtain ⟨u, hr, rfl⟩ := loadV_var (cast e.symm ⟨p, h, rfl⟩)
  exact hr
theorem load3 (m4 : Nat) (w : World) (p : Int) (h : w.cell? ⟨m4, 0, none⟩ = some (.int .i64 p)) : (loadVar 3 ⟨m4, 0, none⟩).run Try.prog w = .ok (.int .i64 p) w := by
  have e : loadV Try.prog 3 (.pointer (some ⟨m4, 0, none⟩)) w (fun u => u = .int .i64 p) = (∃ q : Int, w.cell? ⟨m4, 0, none⟩ = some (.int .i64 q) ∧ (Value.int .i64 q) = .int .i64 p) := by kernel_rfl
  obtain ⟨u, hr, rfl⟩ := loadV_var (cast e.symm ⟨p, h, rfl⟩)
  exact hr
theorem loadE (m4 : Nat) (w : World) (p : Int) (h : w.cell? ⟨m4, 0, none⟩ = some (.int .i64 p)) : (loadVar 45 ⟨m4, 0, none⟩).run Try.prog w = .ok (.int .i64 p) w := by
  have e : loadV Try.prog 45 (.pointer (some ⟨m4, 0, none⟩)) w (fun u => u = .int .i64 p) = (∃ q : Int, w.cell? ⟨m4, 0, none⟩ = some (.int .i64 q) ∧ (Value.int .i64 q) = .int .i64 p) := by kernel_rfl
  obtain ⟨u, hr, rfl⟩ := loadV_var (cast e.symm ⟨p, h, rfl⟩)
  exact hr

theorem fDEC_res (tmps : Array Value) (w : World) (m4 p5 e6 : Nat) (q : Option Addr) (x y : Int) (h4 : tmps[4]? = some (pv m4)) (h5 : tmps[5]? = some (pv p5)) (h6 : tmps[6]? = some (pv e6))
    (c4 : w.cell? ⟨m4, 0, none⟩ = some (.pointer q)) (c5 : w.cell? ⟨p5, 0, none⟩ = some (.int .i64 x)) (c6 : w.cell? ⟨e6, 0, none⟩ = some (.int .i64 y)) :
    (results Try.f21 tmps).run Try.prog w = .ok (.tuple #[.pointer q, .int .i64 x, .int .i64 y]) w := by
  have hrs : Try.f21.results = #[.cell 4 30, .cell 5 3, .cell 6 45] := by kernel_rfl
  rw [results_eq, hrs, Sem.run_bind, Array.mapM_eq_mapM_toList, Sem.run_map]
  have g4 : tmps.getD 4 undef = pv m4 := by simp [Array.getD_eq_getD_getElem?, h4]
  have g5 : tmps.getD 5 undef = pv p5 := by simp [Array.getD_eq_getD_getElem?, h5]
  have g6 : tmps.getD 6 undef = pv e6 := by simp [Array.getD_eq_getD_getElem?, h6]
  simp only [List.mapM_cons, List.mapM_nil, Sem.run_bind, resSem, g4, g5, g6, pv, asAddr, Sem.run_pure, Result.andThen_ok, loadM m4 w q c4, load3 p5 w x c5, loadE e6 w y c6]
  rfl

def dOps : Array Oper := #[{ dst := some 25, op := .makeFunc (.func 47) #[] #[.tmp 4, .tmp 5, .tmp 6], type := 1, pos := (String.ofList ['b', 'i', 'n', '.', 'g', 'o', ':', '8', '3']), after := #[], guard := none },
  { dst := none, op := .defer { callee := .value (.tmp 25), args := #[], argTypes := #[] }, type := 0, pos := (String.ofList ['b', 'i', 'n', '.', 'g', 'o', ':', '8', '3']), after := #[{ on := 0, ground := .data }], guard := none }]
theorem dec_code : sub (bodyOf Try.f21) [1, 1, 1, 1] = .seq (.region 7 dOps false) (sub (bodyOf Try.f21) [1, 1, 1, 1, 1]) := by kernel_rfl

theorem dec_reg {e : Env} {w : World} {m4 p5 e6 : Nat} {Q' : Value → World → Prop} (he4 : get? e 4 = some (pv m4)) (he5 : get? e 5 = some (pv p5)) (he6 : get? e 6 = some (pv e6)) (he25 : get? e 25 = none) :
    ∀ a, Agrees (nn 94 fun _ _ => False) e a → (Code.region 7 dOps false).wp Try.prog (fun ex a' w' => ex = .normal ∧ w' = w ∧ Agrees ⟨94, [litD m4 p5 e6], [(4, pv m4), (5, pv p5), (6, pv e6)], Q'⟩ e a') a w := by
  intro a ha
  refine wp_region ?_
  show wpOps Try.prog dOps _ [0, 1] a w
  have hsz : a.tmps.size = 94 := ha.1
  have v4 : a.eval (.tmp 4) = pv m4 := ha.eval he4
  have v5 : a.eval (.tmp 5) = pv p5 := ha.eval he5
  have v6 : a.eval (.tmp 6) = pv e6 := ha.eval he6
  unfold wpOps
  have e0 : dOps[0]? = some dOps[0] := rfl
  have w0 : Region.wanted dOps[0] (yielded dOps a.tmps) = true := rfl
  simp only [e0, w0, if_true]
  left
  unfold Oper.wp
  have r0 : (execOp a.eval dOps[0]).run Try.prog w = .ok (.value (.func (.func 47) #[] #[pv m4, pv p5, pv e6])) w := by
    show (do pure (Next.value (← Instr.makeFunc (.func 47) ((#[] : Array Operand).map a.eval) ((#[.tmp 4, .tmp 5, .tmp 6] : Array Operand).map a.eval))) : Sem Next).run Try.prog w = _
    simp [Instr.makeFunc, v4, v5, v6]
  rw [r0, Oper.upon_value]
  unfold wpOps
  have e1 : dOps[1]? = some dOps[1] := rfl
  have w1 : ∀ t, Region.wanted dOps[1] (yielded dOps t) = true := fun t => rfl
  simp only [e1, w1, if_true]
  left
  unfold Oper.wp
  have v25 : (a.put dOps[0].dst (.func (.func 47) #[] #[pv m4, pv p5, pv e6])).eval (.tmp 25) = .func (.func 47) #[] #[pv m4, pv p5, pv e6] := eval_put a 25 _ (by omega)
  have r1 : (execOp (a.put dOps[0].dst (.func (.func 47) #[] #[pv m4, pv p5, pv e6])).eval dOps[1]).run Try.prog w = .ok (.defer (litD m4 p5 e6)) w := by
    show (do pure (Next.defer (← resolve (a.put dOps[0].dst (.func (.func 47) #[] #[pv m4, pv p5, pv e6])).eval { callee := .value (.tmp 25), args := #[], argTypes := #[] } 0)) : Sem Next).run Try.prog w = _
    simp [resolve, v25, Deferred.ofValue, litD]
  rw [r1, Oper.upon_defer]
  unfold wpOps
  refine ⟨rfl, rfl, ?_⟩
  obtain ⟨a1, ⟨a2, _⟩, a3⟩ := ha
  have keepS : ∀ i v, get? e i = some v → (a.put (some 25) (.func (.func 47) #[] #[pv m4, pv p5, pv e6])).tmps[i]? = some v := fun i v hi => by
    have hne : i ≠ 25 := by rintro rfl; rw [he25] at hi; cases hi
    simp only [Act.put]
    rw [Array.getElem?_setIfInBounds_ne (by omega)]
    exact a3 i v hi
  refine ⟨?_, ⟨?_, fun i v hi => ?_⟩, fun i v hi => keepS i v hi⟩
  · show (a.tmps.setIfInBounds 25 _).size = 94
    simp [hsz]
  · show litD m4 p5 e6 :: a.defers = _
    rw [a2]; rfl
  · simp only [get?, cond_eq_ite, Nat.beq_eq] at hi
    by_cases i4 : i = 4
    · subst i4; simp at hi; subst hi; exact keepS 4 _ he4
    by_cases i5 : i = 5
    · subst i5; simp at hi; subst hi; exact keepS 5 _ he5
    by_cases i6 : i = 6
    · subst i6; simp at hi; subst hi; exact keepS 6 _ he6
    simp [i4, i5, i6] at hi

/-- What Decode answers. -/
def DAns (w0 : World) (s : ByteArray) (b bi bt : Nat) (r : Res (Sc × PM)) : Value → World → Prop := fun v w' =>
  DRet w0 s b bi bt r v w' ∨ ∃ n a, r = .err n a ∧ v = .tuple #[.pointer none, .int .i64 a, .int .i64 n] ∧ (∃ c', BinAt w' b bi bt c') ∧ Same [b, bi, bt] w0.heap.size w0 w'

def magicB : ByteArray := ⟨#[0, 97, 115, 109, 1, 0, 0, 0]⟩

theorem Decode_spec {w : World} {b bi bt : Nat} {c : Sc} (hB : BinAt w b bi bt c) (s : ByteArray) (h8 : 8 ≤ s.size) (h1k : s.size ≤ 1024) (hmg : (ByteArray.toList (ByteArray.extract s 0 8) == ByteArray.toList ⟨#[0, 97, 115, 109, 1, 0, 0, 0]⟩) = true) :
    Runs Try.prog bin_Bin_Decode.id #[rp b, .string s] w (DAns w s b bi bt (decP s c)) := by
  refine bin_Bin_Decode.enter _ _ _ _ _ ?_
  unfold bin_Bin_Decode.V
  refine letB_intro fun m4 hm4 => letW_intro fun w4 hw4 => letB_intro fun p5 hp5 => letW_intro fun w6 hw6 => letB_intro fun e6 he6 => letW_intro fun w8 hw8 => ?_
  refine cond_false' (decide_eq_false (by omega)) (cond_false' (decide_eq_false (by omega)) ⟨by omega, cond_false' ?_ ?_⟩)
  · have : Int.toNat 8 = 8 := rfl
    rw [this, hmg]; rfl
  have sz4 : w4.heap.size = w.heap.size + 1 := by rw [hw4]; simp
  have sz6 : w6.heap.size = w4.heap.size + 1 := by rw [hw6]; simp
  have sz8 : w8.heap.size = w6.heap.size + 1 := by rw [hw8]; simp
  have S4 : Same [] w.heap.size w w4 := by rw [hw4]; exact (Same.refl _ _ _).alloc (Nat.le_refl _) _
  have S6 : Same [] w4.heap.size w4 w6 := by rw [hw6]; exact (Same.refl _ _ _).alloc (Nat.le_refl _) _
  have S8 : Same [] w6.heap.size w6 w8 := by rw [hw8]; exact (Same.refl _ _ _).alloc (Nat.le_refl _) _
  have cm4 : can w4 ⟨m4, 0, none⟩ := ⟨⟨.pointer none, by rw [hw4, hm4, World.cell?_alloc_new]; rfl⟩, by rw [hw4, hm4, World.frozen?_alloc_new]⟩
  have cp6 : can w6 ⟨p5, 0, none⟩ := ⟨⟨.int .i64 0, by rw [hw6, hp5, World.cell?_alloc_new]; rfl⟩, by rw [hw6, hp5, World.frozen?_alloc_new]⟩
  have ce8 : can w8 ⟨e6, 0, none⟩ := ⟨⟨.int .i64 0, by rw [hw8, he6, World.cell?_alloc_new]; rfl⟩, by rw [hw8, he6, World.frozen?_alloc_new]⟩
  have cm8 := can_same (can_same cm4 S6 (by simp)) S8 (by simp)
  have cp8 := can_same cp6 S8 (by simp)
  have S08 : Same [] w.heap.size w w8 := (S4.trans (S6.mono (by omega) (by simp))).trans (S8.mono (by omega) (by simp))
  have hB8 := hB.keep S08 (by simp) (by simp) (by simp)
  clear hw4 hw6 hw8
  have lb := hB.ltb; have li := hB.lti; have lt' := hB.ltt
  unfold bin_Bin_Decode.L1
  rw [dec_code]
  refine T_defer (R' := DRet w s b bi bt (decP s c)) (Q' := DPan w b bi bt m4 p5 e6 (decP s c)) Try.func21 (dec_reg rfl rfl rfl rfl) ?_ ?_ ?_
  · show bin_Bin_Decode.L2 [litD m4 p5 e6] (some ⟨b, 0, none⟩) s m4 p5 e6 (DRet w s b bi bt (decP s c)) (DPan w b bi bt m4 p5 e6 (decP s c)) w8
    refine bin_Bin_Decode.step2 _ _ _ _ _ _ _ _ _ ?_
    unfold bin_Bin_Decode.V2
    refine letB_intro fun rb hrb => letW_intro fun w9 hw9 => letB_intro fun mb hmb => letW_intro fun w10 hw10 => ?_
    have sz9 : w9.heap.size = w8.heap.size + 1 := by rw [hw9]; simp
    have sz10 : w10.heap.size = w9.heap.size + 1 := by rw [hw10]; simp
    have S9 : Same [] w8.heap.size w8 w9 := by rw [hw9]; exact (Same.refl _ _ _).alloc (Nat.le_refl _) _
    have S10 : Same [] w9.heap.size w9 w10 := by rw [hw10]; exact (Same.refl _ _ _).alloc (Nat.le_refl _) _
    have rd9 : RdAt w9 rb s 8 s.size b := ⟨by rw [hw9, hrb, World.cell?_alloc_new]; rfl, by rw [hw9, hrb, World.cell?_alloc_new]; rfl, by rw [hw9, hrb, World.cell?_alloc_new]; rfl, by rw [hw9, hrb, World.cell?_alloc_new]; rfl, fun j => by rw [hw9, hrb, World.frozen?_alloc_new]⟩
    have md10 : ModAt w10 mb (fun j => if j = 3 ∨ j = 4 ∨ j = 5 ∨ j = 6 ∨ j = 9 then .int .i64 (-1) else .slice none 0 0) := by
      refine ⟨fun j hj => ?_, fun j => by rw [hw10, hmb, World.frozen?_alloc_new]⟩
      rw [hw10, hmb, World.cell?_alloc_new]
      have : j = 0 ∨ j = 1 ∨ j = 2 ∨ j = 3 ∨ j = 4 ∨ j = 5 ∨ j = 6 ∨ j = 7 ∨ j = 8 ∨ j = 9 ∨ j = 10 ∨ j = 11 := by omega
      rcases this with rfl | rfl | rfl | rfl | rfl | rfl | rfl | rfl | rfl | rfl | rfl | rfl <;> rfl
    clear hw9 hw10
    have cm10 := can_same (can_same cm8 S9 (by simp)) S10 (by simp)
    have cp10 := can_same (can_same cp8 S9 (by simp)) S10 (by simp)
    have ce10 := can_same (can_same ce8 S9 (by simp)) S10 (by simp)
    have hB10 := (hB8.keep S9 (by simp) (by simp) (by simp)).keep S10 (by simp) (by simp) (by simp)
    have rd10 := rd9.same S10 rd9.lt (by simp)
    refine ⟨cm10, letW_intro fun w11 hw11 => ?_⟩
    have S11 : Same [m4] w10.heap.size w10 w11 := by rw [hw11]; exact same_set 0 _
    have c11 : w11.cell? ⟨m4, 0, none⟩ = some (rp mb) := by
      obtain ⟨⟨u, hu⟩, _⟩ := cm10
      rw [hw11, cell_setCell, if_pos ⟨rfl, rfl⟩, hu]; rfl
    have f11 : w11.frozen? ⟨m4, 0, none⟩ = false := by rw [hw11]; simpa using cm10.2
    have sz11 : w11.heap.size = w10.heap.size := by rw [hw11]; simp [World.setCell]
    clear hw11
    have hB11 := hB10.keep S11 (by simp; omega) (by simp; omega) (by simp; omega)
    simp only [nilV_some, Nat.zero_add]
    refine ⟨hB11.can 8 (by decide), letW_intro fun w12 hw12 => ?_⟩
    have S12 : Same [b] w11.heap.size w11 w12 := by rw [hw12]; exact same_set 8 _
    have hB12 : BinAt w12 b bi bt { c with nT := 0 } := by rw [hw12]; exact hB11.setT 0
    have sz12 : w12.heap.size = w11.heap.size := by rw [hw12]; simp [World.setCell]
    clear hw12
    refine letB_intro fun rdb hrdb => letW_intro fun w13 hw13 => ?_
    have S13 : Same [] w12.heap.size w12 w13 := by rw [hw13]; exact (Same.refl _ _ _).alloc (Nat.le_refl _) _
    have sz13 : w13.heap.size = w12.heap.size + 1 := by rw [hw13]; simp
    have can13 : ∀ j, j < 12 → can w13 ⟨rdb, j, none⟩ := fun j hj => by
      refine ⟨⟨.nilFunc, ?_⟩, by rw [hw13, hrdb, World.frozen?_alloc_new]⟩
      rw [hw13, hrdb, World.cell?_alloc_new]
      have : j = 0 ∨ j = 1 ∨ j = 2 ∨ j = 3 ∨ j = 4 ∨ j = 5 ∨ j = 6 ∨ j = 7 ∨ j = 8 ∨ j = 9 ∨ j = 10 ∨ j = 11 := by omega
      rcases this with rfl | rfl | rfl | rfl | rfl | rfl | rfl | rfl | rfl | rfl | rfl | rfl <;> rfl
    clear hw13
    refine putCells_intro rdb _ 0 w13 _ (fun j hj => by rw [Nat.zero_add]; exact can13 j (by simpa using hj)) (fun w14 hF => ?_)
    have S14 := hF.same w13.heap.size
    -- from w10 on
    have T : Same [m4, b, rdb] w10.heap.size w10 w14 := by
      have a1 : Same [m4, b, rdb] w10.heap.size w10 w11 := S11.mono (Nat.le_refl _) (by intro k hk _; simp at hk ⊢; omega)
      have a2 := a1.trans (S12.mono (by omega) (by intro k hk _; simp at hk ⊢; omega))
      have a3 := a2.trans (S13.mono (by omega) (by simp))
      exact a3.trans (S14.mono (by omega) (by intro k hk _; simp at hk ⊢; omega))
    have sz14 := S14.size
    have hB14 : BinAt w14 b bi bt { c with nT := 0 } := (hB12.keep S13 (by simp) (by simp) (by simp)).keep S14 (by simp; omega) (by simp; omega) (by simp; omega)
    have rd14 := rd10.same T rd10.lt (by simp; omega)
    have md14 := md10.same T md10.lt (by simp; omega)
    have x14 : SCtx w14 rb s 8 s.size b bi bt mb { c with nT := 0 } _ := ⟨rd14, ⟨h8, Nat.le_refl _, h1k⟩, hB14, md14, by omega, by omega, by omega, by omega, by omega, by omega, by omega⟩
    have cm14 : w14.cell? ⟨m4, 0, none⟩ = some (rp mb) := by
      rw [S14.cell (p := ⟨m4, 0, none⟩) (show m4 < w13.heap.size by omega) (by simp; omega), S13.cell (p := ⟨m4, 0, none⟩) (show m4 < w12.heap.size by omega) (by simp), S12.cell (p := ⟨m4, 0, none⟩) (show m4 < w11.heap.size by omega) (by simp; omega)]; exact c11
    have fm14 : w14.frozen? ⟨m4, 0, none⟩ = false := by
      rw [S14.frozen (p := ⟨m4, 0, none⟩) (show m4 < w13.heap.size by omega) (by simp; omega), S13.frozen (p := ⟨m4, 0, none⟩) (show m4 < w12.heap.size by omega) (by simp), S12.frozen (p := ⟨m4, 0, none⟩) (show m4 < w11.heap.size by omega) (by simp; omega)]; exact f11
    refine dec_loop (r := decP s c) (w0 := w) _ (s.size - 8 + 1) 8 0 { c with nT := 0 } _ pm0 w14 ⟨x14, ⟨.inl ⟨rfl, rfl⟩, .inl ⟨rfl, rfl⟩, .inl ⟨rfl, rfl⟩, rfl, rfl, rfl, rfl, .inl ⟨rfl, rfl⟩, .inl ⟨rfl, rfl⟩, rfl, .inl ⟨rfl, rfl⟩, .inl ⟨rfl, rfl⟩⟩, cm14, fm14, can_same cp10 T (by simp; omega), can_same ce10 T (by simp; omega), fun id h1 h2 => ?_, ?_, by omega, by omega, by omega, by omega, by omega, by omega, by omega, lb, li, lt'⟩ (Int.le_refl _) (by omega) rfl
    · rw [hF.cell, if_pos ⟨rfl, by omega, by simp; omega⟩, Nat.sub_zero]
      have : id = 1 ∨ id = 2 ∨ id = 3 ∨ id = 4 ∨ id = 5 ∨ id = 6 ∨ id = 7 ∨ id = 8 ∨ id = 9 ∨ id = 10 ∨ id = 11 := by omega
      rcases this with rfl | rfl | rfl | rfl | rfl | rfl | rfl | rfl | rfl | rfl | rfl <;> rfl
    · have a1 : Same [b, bi, bt] w.heap.size w w10 := ((S08.trans (S9.mono (by omega) (by simp))).trans (S10.mono (by omega) (by simp))).mono (Nat.le_refl _) (by simp)
      exact a1.trans (T.mono (by omega) (by intro k hk hlt; simp at hk ⊢; omega))
  · intro tmps v w' hk hres hR
    refine leaves_cons (by intro h; cases h) (lit_invoke m4 p5 e6 w') ((lit_ret m4 p5 e6 w').mono ?_)
    rintro en u' w2 ⟨⟨v2, rfl⟩, rfl, rfl⟩
    exact ⟨v, hres, .inl hR⟩
  · rintro tmps v w' hk ⟨n, a, hr, rfl, ⟨c', hB'⟩, k1, k2, k3, hS'⟩
    refine leaves_cons (by intro h; cases h) (lit_invoke m4 p5 e6 w') ((lit_pan m4 p5 e6 n a w' k1 k2 k3 (by omega) (by omega) (by omega)).mono ?_)
    rintro en u' w2 ⟨⟨v2, rfl⟩, rfl, g1, g2, g3, g4⟩
    refine ⟨_, fDEC_res tmps w2 m4 p5 e6 none a n (hk 4 _ rfl) (hk 5 _ rfl) (hk 6 _ rfl) g1 g2 g3, .inr ⟨n, a, hr, rfl, ⟨c', hB'.keep g4 (by simp; omega) (by simp; omega) (by simp; omega)⟩, hS'.trans (g4.mono hS'.size (by intro k hk hlt; simp at hk; omega))⟩⟩

end Go.Proofs.Qxb6500316a
