/-
  Bodies, written and read again.
-/
import Derived.Test.Qxb6500316aRtC
set_option linter.unusedSimpArgs false
set_option linter.unusedVariables false
set_option maxRecDepth 100000
namespace Go.Proofs.Qxb6500316a
open Go Go.Vc

/-- k rows from the i-th on. -/
def rowsR {α : Type} (g : α → List Int) (f : Nat → α) : Nat → Nat → List Int
  | 0, _ => []
  | k + 1, i => g (f i) ++ rowsR g f k (i + 1)
theorem rowsR_succ {α : Type} (g : α → List Int) (f : Nat → α) (k i : Nat) : rowsR g f (k + 1) i = g (f i) ++ rowsR g f k (i + 1) := rfl
theorem rowsE_R {α : Type} (g : α → List Int) (f : Nat → α) : ∀ (k i : Nat), rowsE g f i ++ rowsR g f k i = rowsE g f (i + k)
  | 0, i => by show rowsE g f i ++ [] = _; rw [List.append_nil]; rfl
  | k + 1, i => by
    haveI := outNil
    rw [rowsR_succ, ← List.append_assoc, ← rowsE_succ, rowsE_R g f k (i + 1)]; congr 1; omega
theorem rowsE_eqR {α : Type} (g : α → List Int) (f : Nat → α) (n : Nat) : rowsE g f n = rowsR g f n 0 := by
  have := rowsE_R g f n 0
  rw [Nat.zero_add] at this
  rw [← this]; rfl
theorem rowsR_bytes {α : Type} {g : α → List Int} {f : Nat → α} : ∀ (k i : Nat), (∀ j, j < i + k → Byt (g (f j))) → Byt (rowsR g f k i)
  | 0, i, _ => Byt.nil
  | k + 1, i, h => (h i (by omega)).append (rowsR_bytes k (i + 1) (fun j hj => h j (by omega)))

/-! ### br_table -/
theorem tabF_rows (n : Nat) (hn : n ≤ 24) (tabs : Nat → Int) (u m : Nat) (hm : u + m ≤ n) : ∀ (r j k : Nat), j + r = m → r < k → tabF n tabs (u : Int) (m : Int) k ((u + j : Nat) : Int) = rowsR uleb tabs r (u + j)
  | 0, j, k, hj, hk => by
    haveI := outNil
    obtain ⟨k', rfl⟩ : ∃ k', k = k' + 1 := ⟨k - 1, by omega⟩
    rw [tabF_succ, show ((u + j : Nat) : Int) - (u : Int) = (j : Int) by omega, wrap_u64 (by omega) (by omega), if_neg (by omega)]; rfl
  | r + 1, j, k, hj, hk => by
    haveI := outNil
    obtain ⟨k', rfl⟩ : ∃ k', k = k' + 1 := ⟨k - 1, by omega⟩
    rw [tabF_succ, show ((u + j : Nat) : Int) - (u : Int) = (j : Int) by omega, wrap_u64 (by omega) (by omega), if_pos (by omega), Int.toNat_natCast, rowsR_succ]
    have := tabF_rows n hn tabs u m hm r (j + 1) k' (by omega) (by omega)
    rw [show ((u + j : Nat) : Int) + 1 = ((u + (j + 1) : Nat) : Int) by omega, this]
    congr 2
section
variable {s : ByteArray} {e : Nat}
theorem brL_at {tabs : Nat → Int} : ∀ (k : Nat) (c : Sc) (p : Nat), (∀ j, c.nTab ≤ j → j < c.nTab + k → W32 (tabs j)) → At s p (rowsR uleb tabs k c.nTab) → p + (rowsR uleb tabs k c.nTab).length ≤ e →
    ∃ c', brL s e k c p = .ok c' (p + (rowsR uleb tabs k c.nTab).length) ∧ c'.nTab = c.nTab + k ∧ (∀ j, j < c.nTab → c'.tabs j = c.tabs j) ∧ (∀ j, c.nTab ≤ j → j < c.nTab + k → c'.tabs j = tabs j) ∧ c'.ins = c.ins ∧ c'.nI = c.nI ∧ c'.opn = c.opn ∧ c'.nO = c.nO ∧ c'.types = c.types ∧ c'.nT = c.nT
  | 0, c, p, _, _, _ => ⟨c, rfl, rfl, fun j _ => rfl, fun j h1 h2 => by omega, rfl, rfl, rfl, rfl, rfl, rfl⟩
  | k + 1, c, p, hw, ha, he => by
    rw [rowsR_succ] at ha he ⊢
    rw [List.length_append] at he ⊢
    obtain ⟨c', h1, h2, h3, h4, h5, h6, h7, h8, h9, h10⟩ := brL_at k (c.tab (tabs c.nTab)) (p + (uleb (tabs c.nTab)).length) (fun j g1 g2 => hw j (by have : c.nTab + 1 ≤ j := g1; omega) (by have : j < c.nTab + 1 + k := g2; omega)) ha.right (by show _ + (rowsR uleb tabs k (c.nTab + 1)).length ≤ e; omega)
    refine ⟨c', ?_, by rw [h2]; show c.nTab + 1 + k = _; omega, fun j hj => ?_, fun j g1 g2 => ?_, h5, h6, h7, h8, h9, h10⟩
    · show (u32P s e p).bind _ = _
      rw [u32P_at (hw c.nTab (Nat.le_refl _) (by omega)) ha.left (by omega)]
      simp only [Res.bind]
      rw [h1, Nat.add_assoc]; rfl
    · rw [h3 j (by show j < c.nTab + 1; omega)]
      show upd c.tabs c.nTab _ j = _
      unfold upd; rw [if_neg (by omega)]
    · by_cases hj : j = c.nTab
      · rw [h3 j (by show j < c.nTab + 1; omega), hj]
        show upd c.tabs c.nTab _ c.nTab = _
        unfold upd; rw [if_pos rfl]
      · exact h4 j (by show c.nTab + 1 ≤ j; omega) (by show j < c.nTab + 1 + k; omega)
theorem restX_at14 {i : Ins} {n : Nat} {tabs : Nat → Int} {c : Sc} {at_ : Int} {p : Nat} (hin : InsIn i) (ho : i.op = 14) (hx : i.x = (c.nTab : Int)) (hy1 : 1 ≤ i.y) (hy2 : i.y ≤ (n : Int) - c.nTab) (hn : n ≤ 24) (hw : ∀ j, j < n → W32 (tabs j)) (ha : At s p (insT i n tabs)) (he : p + (insT i n tabs).length ≤ e) :
    ∃ c', restX s e c 14 at_ p = .ok (i, c') (p + (insT i n tabs).length) ∧ (c'.nTab : Int) = c.nTab + i.y ∧ (∀ j, j < c.nTab → c'.tabs j = c.tabs j) ∧ (∀ j, c.nTab ≤ j → j < c'.nTab → c'.tabs j = tabs j) ∧ c'.ins = c.ins ∧ c'.nI = c.nI ∧ c'.opn = c.opn ∧ c'.nO = c.nO ∧ c'.types = c.types ∧ c'.nT = c.nT := by
  obtain ⟨m, hm⟩ : ∃ m : Nat, i.y = ((m + 1 : Nat) : Int) := ⟨(i.y - 1).toNat, by omega⟩
  have et : insT i n tabs = uleb (m : Int) ++ rowsR uleb tabs (m + 1) c.nTab := by
    unfold insT
    rw [if_neg (by omega), if_neg (by omega), if_pos ho]
    have h1 := tabF_rows n hn tabs c.nTab (m + 1) (by omega) (m + 1) 0 (n + 1) (by omega) (by omega)
    simp only [Nat.add_zero] at h1
    rw [hx, hm, h1]
    congr 2
    rw [wrap_u64 (by omega) (by omega)]; omega
  rw [et] at ha he ⊢
  rw [List.length_append] at he ⊢
  obtain ⟨c', h1, h2, h3, h4, h5⟩ := brL_at (s := s) (e := e) (tabs := tabs) (m + 1) c (p + (uleb (m : Int)).length) (fun j _ hj => hw j (by omega)) ha.right (by omega)
  refine ⟨c', ?_, by rw [h2, hm]; omega, h3, fun j g1 g2 => h4 j g1 (by omega), h5⟩
  have e1 : restX s e c 14 at_ p = brP s e c p := rfl
  rw [e1]
  unfold brP
  rw [countP_at (by omega) (by omega) ha.left (by omega)]
  simp only [Res.bind]
  rw [h1]
  simp only []
  obtain ⟨op, x, y⟩ := i
  simp only at ho hx hm
  rw [ho, hx, hm, Nat.add_assoc]

/-! ### Bodies -/
theorem body_at {f : FnP} (B : FnB f) (hs : e ≤ s.size) : ∀ (k i d : Nat) (may : Nat → Bool) (u : Nat) (c : Sc) (p fuel : Nat), i + k = f.nI → wfGo f.ins f.nI f.nTab k i d may u →
    At s p (rowsR (fun x => insE x f.nTab f.tabs) f.ins k i) → p + (rowsR (fun x => insE x f.nTab f.tabs) f.ins k i).length ≤ e → k ≤ fuel → c.nI = i → c.nO = d → c.nTab = u → d ≤ 6 → u ≤ f.nTab → (∀ j, j < d → may j = (c.opn j == 4)) → (∀ j, j < i → c.ins j = f.ins j) → (∀ j, j < u → c.tabs j = f.tabs j) →
    ∃ c', bodyL s e fuel c p = .ok c' (p + (rowsR (fun x => insE x f.nTab f.tabs) f.ins k i).length) ∧ c'.nI = f.nI ∧ c'.nTab = f.nTab ∧ (∀ j, j < f.nI → c'.ins j = f.ins j) ∧ (∀ j, j < f.nTab → c'.tabs j = f.tabs j) ∧ c'.types = c.types ∧ c'.nT = c.nT := by
  intro k
  induction k with
  | zero => intro i d may u c p fuel _ h; exact h.elim
  | succ k ih =>
    intro i d may u c p fuel hi h ha he hf hcI hcO hcT hd hu hmay hins htab
    haveI := outNil
    have hnI := B.nI; have hnT := B.nT
    have hin := B.ins i (by omega)
    obtain ⟨fuel', rfl⟩ : ∃ fuel', fuel = fuel' + 1 := ⟨fuel - 1, by omega⟩
    rw [wfGo_succ] at h
    rw [rowsR_succ] at ha he ⊢
    rw [List.length_append] at he ⊢
    have hl : (insE (f.ins i) f.nTab f.tabs).length = 1 + (insT (f.ins i) f.nTab f.tabs).length := by unfold insE; rw [List.length_append]; rfl
    have ha1 := ha.left
    unfold insE at ha1
    have ha2 := ha1.right
    have e1 : ([(f.ins i).op] : List Int).length = 1 := rfl
    rw [e1] at ha2
    have ha3 := ha.right
    rw [bodyL_succ, next_at' ha1.left (by omega)]
    simp only [Res.bind]
    -- what bodyStep goes on with
    have more_ins : ∀ (d : Sc), d.nI = i → (∀ j, j < i → d.ins j = f.ins j) → ∀ j, j < i + 1 → (d.more (f.ins i)).ins j = f.ins j := by
      intro d hd hins j hj
      show upd d.ins d.nI _ j = _
      unfold upd
      rw [hd]
      by_cases hj' : j = i
      · rw [if_pos hj', hj']
      · rw [if_neg hj']; exact hins j (by omega)
    by_cases h14 : (f.ins i).op = 14
    · rw [if_pos h14] at h
      obtain ⟨hx, hy1, hy2, h⟩ := h
      rw [h14]
      obtain ⟨c1, r1, r2, r3, r4, r5, r6, r7, r8, r9, r10⟩ := restX_at14 (s := s) (e := e) (c := c) (at_ := (p : Int)) hin h14 (by rw [hcT]; exact hx) hy1 (by rw [hcT]; exact hy2) hnT (fun j hj => B.tabs j hj) ha2 (by omega)
      rw [r1]
      simp only []
      unfold bodyStep
      rw [if_neg (by omega), if_neg (by decide), if_neg (by decide), if_neg (by decide)]
      have hc1T : c1.nTab = u + (f.ins i).y.toNat := by omega
      obtain ⟨c', g1, g2⟩ := ih (i + 1) d may (u + (f.ins i).y.toNat) (c1.more (f.ins i)) (p + (insE (f.ins i) f.nTab f.tabs).length) fuel' (by omega) h ha3 (by omega) (by omega) (by show c1.nI + 1 = _; omega) (by show c1.nO = d; omega) (by show c1.nTab = _; exact hc1T) hd (by omega) (fun j hj => by show _ = (c1.opn j == 4); rw [r7]; exact hmay j hj) (more_ins c1 (by omega) (fun j hj => by rw [r5]; exact hins j hj)) (fun j hj => by
        show c1.tabs j = _
        by_cases hju : j < u
        · rw [r3 j (by omega)]; exact htab j hju
        · exact r4 j (by omega) (by omega))
      refine ⟨c', ?_, g2.1, g2.2.1, g2.2.2.1, g2.2.2.2.1, by rw [g2.2.2.2.2.1]; exact r9, by rw [g2.2.2.2.2.2]; exact r10⟩
      rw [show p + 1 + (insT (f.ins i) f.nTab f.tabs).length = p + (insE (f.ins i) f.nTab f.tabs).length by omega, g1, Nat.add_assoc]
    · rw [if_neg h14] at h
      obtain ⟨hp, h⟩ := h
      have er : restX s e c (f.ins i).op (p : Int) (p + 1) = .ok (f.ins i, c) (p + 1 + (insT (f.ins i) f.nTab f.tabs).length) := by
        unfold restX
        rw [if_neg h14, restP_at hin hp ha2 (by omega) hs]
        rfl
      rw [er]
      simp only []
      rw [show p + 1 + (insT (f.ins i) f.nTab f.tabs).length = p + (insE (f.ins i) f.nTab f.tabs).length by omega]
      unfold bodyStep
      rw [if_neg (by omega)]
      have mi := more_ins c hcI hins
      by_cases hb : (f.ins i).op = 2 ∨ (f.ins i).op = 3 ∨ (f.ins i).op = 4
      · rw [if_pos hb] at h ⊢
        obtain ⟨hd6, h⟩ := h
        rw [if_neg (by omega)]
        obtain ⟨c', g1, g2⟩ := ih (i + 1) (d + 1) _ u ((c.more (f.ins i)).opened (f.ins i).op) (p + (insE (f.ins i) f.nTab f.tabs).length) fuel' (by omega) h ha3 (by omega) (by omega) (by show c.nI + 1 = _; omega) (by show c.nO + 1 = _; omega) hcT (by omega) hu (fun j hj => by
          show upd may d _ j = (upd c.opn c.nO (f.ins i).op j == 4)
          unfold upd
          rw [hcO]
          by_cases hj' : j = d
          · rw [if_pos hj', if_pos hj']
          · rw [if_neg hj', if_neg hj']; exact hmay j (by omega)) mi htab
        exact ⟨c', by rw [g1, Nat.add_assoc], g2⟩
      rw [if_neg hb] at h ⊢
      by_cases h5 : (f.ins i).op = 5
      · rw [if_pos h5] at h ⊢
        obtain ⟨hd0, hm, h⟩ := h
        have hop : c.opn (c.nO - 1) = 4 := by
          have := hmay (d - 1) (by omega)
          rw [hm] at this
          rw [hcO]
          simpa using this.symm
        rw [if_neg (by omega)]
        obtain ⟨c', g1, g2⟩ := ih (i + 1) d _ u ((c.more (f.ins i)).elsed) (p + (insE (f.ins i) f.nTab f.tabs).length) fuel' (by omega) h ha3 (by omega) (by omega) (by show c.nI + 1 = _; omega) hcO hcT hd hu (fun j hj => by
          show upd may (d - 1) false j = (upd c.opn (c.nO - 1) 5 j == 4)
          unfold upd
          rw [hcO]
          by_cases hj' : j = d - 1
          · rw [if_pos hj', if_pos hj']; rfl
          · rw [if_neg hj', if_neg hj']; exact hmay j hj) mi htab
        exact ⟨c', by rw [g1, Nat.add_assoc], g2⟩
      rw [if_neg h5] at h ⊢
      by_cases h11 : (f.ins i).op = 11
      · rw [if_pos h11] at h ⊢
        by_cases hd0 : d = 0
        · rw [if_pos hd0] at h
          obtain ⟨h1, h2⟩ := h
          obtain rfl : k = 0 := by omega
          rw [if_pos (by omega)]
          refine ⟨c.more (f.ins i), ?_, by show c.nI + 1 = _; omega, by show c.nTab = _; omega, fun j hj => mi j (by omega), fun j hj => htab j (by omega), rfl, rfl⟩
          show Res.ok _ _ = Res.ok _ (p + (_ + ([] : List Int).length))
          rw [List.length_nil, Nat.add_zero]
        · rw [if_neg hd0] at h
          rw [if_neg (by omega)]
          obtain ⟨c', g1, g2⟩ := ih (i + 1) (d - 1) _ u ((c.more (f.ins i)).closed) (p + (insE (f.ins i) f.nTab f.tabs).length) fuel' (by omega) h ha3 (by omega) (by omega) (by show c.nI + 1 = _; omega) (by show c.nO - 1 = _; omega) hcT (by omega) hu (fun j hj => hmay j (by omega)) mi htab
          exact ⟨c', by rw [g1, Nat.add_assoc], g2⟩
      rw [if_neg h11] at h ⊢
      obtain ⟨c', g1, g2⟩ := ih (i + 1) d _ u (c.more (f.ins i)) (p + (insE (f.ins i) f.nTab f.tabs).length) fuel' (by omega) h ha3 (by omega) (by omega) (by show c.nI + 1 = _; omega) hcO hcT hd hu hmay mi htab
      exact ⟨c', by rw [g1, Nat.add_assoc], g2⟩
theorem rowsR_len1 {α : Type} {g : α → List Int} {f : Nat → α} (h : ∀ a, 1 ≤ (g a).length) : ∀ k i, k ≤ (rowsR g f k i).length
  | 0, i => Nat.zero_le _
  | k + 1, i => by
    rw [rowsR_succ, List.length_append]
    have := rowsR_len1 (g := g) (f := f) h k (i + 1)
    have := h (f i)
    omega
theorem bodyP_at {f : FnP} (F : FnWF f) (hs : e ≤ s.size) (c : Sc) {p : Nat} (ha : At s p (insRow f f.nI)) (he : p + (insRow f f.nI).length ≤ e) :
    ∃ c', bodyP s e c p = .ok c' (p + (insRow f f.nI).length) ∧ c'.nI = f.nI ∧ c'.nTab = f.nTab ∧ (∀ j, j < f.nI → c'.ins j = f.ins j) ∧ (∀ j, j < f.nTab → c'.tabs j = f.tabs j) ∧ c'.types = c.types ∧ c'.nT = c.nT := by
  unfold insRow at ha he ⊢
  rw [rowsE_eqR] at ha he ⊢
  have hl := rowsR_len1 (g := fun x => insE x f.nTab f.tabs) (f := f.ins) (fun a => by unfold insE; rw [List.length_append]; show 1 ≤ 1 + _; omega) f.nI 0
  exact body_at F.b hs f.nI 0 0 (fun _ => false) 0 c.fresh p (e - p + 1) (by omega) F.go ha he (by omega) rfl rfl rfl (by decide) (Nat.zero_le _) (fun j hj => absurd hj (Nat.not_lt_zero j)) (fun j hj => absurd hj (Nat.not_lt_zero j)) (fun j hj => absurd hj (Nat.not_lt_zero j))

/-! ### Locals -/
def ng (t : ByteArray) : Nat → Nat → Nat
  | 0, _ => 0
  | k + 1, i => if i + 1 = t.size ∨ byteAt t (i + 1) ≠ byteAt t i then ng t k (i + 1) + 1 else ng t k (i + 1)
theorem ng_runs (t : ByteArray) : ∀ (k i : Nat) (r : Int), i + k = t.size → 1 ≤ k → runsF t (k - 1) (i + 1) r = r + (ng t k i : Int) - 1
  | 0, i, r, _, h => by omega
  | 1, i, r, h, _ => by
    haveI := outNil
    have e : ng t 1 i = 1 := by
      show (if i + 1 = t.size ∨ _ then 0 + 1 else 0) = 1
      rw [if_pos (.inl (by omega))]
    rw [e]
    show r = _
    omega
  | k + 2, i, r, h, _ => by
    haveI := outNil
    rw [show k + 2 - 1 = k + 1 by omega, runsF_succ]
    have ih := fun r' => ng_runs t (k + 1) (i + 1) r' (by omega) (by omega)
    rw [show k + 1 - 1 = k by omega] at ih
    rw [ih]
    have e : ng t (k + 2) i = if i + 1 = t.size ∨ byteAt t (i + 1) ≠ byteAt t i then ng t (k + 1) (i + 1) + 1 else ng t (k + 1) (i + 1) := rfl
    rw [e]
    by_cases hb : byteAt t (i + 1) ≠ byteAt t i
    · rw [if_pos (.inr (by rw [show i + 1 - 1 = i by omega]; exact fun g => hb g.symm)), if_pos (.inr hb)]; push_cast; omega
    · have n1 : ¬(i + 1 = 0 ∨ byteAt t (i + 1 - 1) ≠ byteAt t (i + 1)) := by
        rw [show i + 1 - 1 = i by omega]
        intro g
        rcases g with g | g
        · omega
        · exact hb (fun h => g h.symm)
      have n2 : ¬(i + 1 = t.size ∨ byteAt t (i + 1) ≠ byteAt t i) := by
        intro g
        rcases g with g | g
        · omega
        · exact hb g
      rw [if_neg n1, if_neg n2]
theorem runs_ng (t : ByteArray) : runsF t t.size 0 0 = (ng t t.size 0 : Int) := by
  haveI := outNil
  cases hz : t.size with
  | zero => rfl
  | succ k =>
    rw [runsF_succ, if_pos (.inl rfl)]
    have := ng_runs t (k + 1) 0 1 (by omega) (by omega)
    rw [show k + 1 - 1 = k by omega] at this
    rw [Nat.zero_add] at this ⊢
    rw [show (0 : Int) + 1 = 1 by decide, this]; omega
theorem ng_le (t : ByteArray) : ∀ k i, ng t k i ≤ k
  | 0, i => Nat.le_refl _
  | k + 1, i => by
    have h := ng_le t k (i + 1)
    have e : ng t (k + 1) i = if i + 1 = t.size ∨ byteAt t (i + 1) ≠ byteAt t i then ng t k (i + 1) + 1 else ng t k (i + 1) := rfl
    rw [e]
    split
    · exact Nat.succ_le_succ h
    · exact Nat.le_succ_of_le h
theorem localsL_at {ls : List Int} (hv : ∀ x, x ∈ ls → VT x) (h6 : ls.length ≤ 6) : ∀ (k i : Nat) (n : Nat) (acc : List Int) (p : Nat), i + k = ls.length → acc.length + n = i → (k = 0 → n = 0) →
    At s p (grpF (strOfNums ls) k i n) → p + (grpF (strOfNums ls) k i n).length ≤ e →
    localsL s e (ng (strOfNums ls) k i) acc p = .ok (acc ++ List.replicate n (byteAt (strOfNums ls) i) ++ ls.drop i) (p + (grpF (strOfNums ls) k i n).length)
  | 0, i, n, acc, p, hi, hn, h0, ha, he => by
    have := h0 rfl
    subst this
    show Res.ok acc p = _
    rw [List.drop_of_length_le (by omega)]
    simp [grpF]
  | k + 1, i, n, acc, p, hi, hn, h0, ha, he => by
    haveI := outNil
    have hb : byteAt (strOfNums ls) i = ls[i] := byteAt_nums ls hv i (by omega)
    have hdrop : ls.drop i = ls[i] :: ls.drop (i + 1) := List.drop_eq_getElem_cons (by omega)
    have esz : (strOfNums ls).size = ls.length := strOfNums_size ls
    have eng : ng (strOfNums ls) (k + 1) i = if i + 1 = (strOfNums ls).size ∨ byteAt (strOfNums ls) (i + 1) ≠ byteAt (strOfNums ls) i then ng (strOfNums ls) k (i + 1) + 1 else ng (strOfNums ls) k (i + 1) := rfl
    rw [eng]
    rw [grpF_succ] at ha he ⊢
    by_cases hc : i + 1 = (strOfNums ls).size ∨ byteAt (strOfNums ls) (i + 1) ≠ byteAt (strOfNums ls) i
    · rw [if_pos hc] at ha he ⊢
      rw [if_pos hc]
      rw [List.length_append, List.length_append] at he ⊢
      have e1 : ([byteAt (strOfNums ls) i] : List Int).length = 1 := rfl
      rw [e1] at he ⊢
      have en : (n : Int) + 1 = ((n + 1 : Nat) : Int) := by omega
      rw [en] at ha he ⊢
      have h2 := ha.left.right
      have h3 := ha.right
      rw [List.length_append, e1] at h3
      rw [localsL_succ, countP_at (by omega) (by omega) ha.left.left (by omega)]
      simp only [Res.bind]
      rw [valtypeP_at h2 (by rw [hb]; exact hv _ (List.getElem_mem (by omega))) (by omega)]
      simp only []
      have := localsL_at hv h6 k (i + 1) 0 (acc ++ List.replicate (n + 1) (byteAt (strOfNums ls) i)) (p + ((uleb ((n + 1 : Nat) : Int)).length + 1)) (by omega) (by rw [List.length_append, List.length_replicate]; omega) (fun _ => rfl) h3 (by show _ + (grpF (strOfNums ls) k (i + 1) 0).length ≤ _; omega)
      rw [show p + (uleb ((n + 1 : Nat) : Int)).length + 1 = p + ((uleb ((n + 1 : Nat) : Int)).length + 1) by omega, this]
      congr 1
      · rw [List.replicate_zero, List.append_nil, hdrop, hb, List.replicate_succ']
        simp only [List.append_assoc, List.cons_append, List.nil_append]
      · show _ + (grpF (strOfNums ls) k (i + 1) 0).length = _
        omega
    · rw [if_neg hc] at ha he ⊢
      rw [if_neg hc]
      have hc2 : byteAt (strOfNums ls) (i + 1) = byteAt (strOfNums ls) i := by
        by_cases g : byteAt (strOfNums ls) (i + 1) = byteAt (strOfNums ls) i
        · exact g
        · exact absurd (.inr g) hc
      have hk : k ≠ 0 := fun g => hc (.inl (by omega))
      have en : (n : Int) + 1 = ((n + 1 : Nat) : Int) := by omega
      rw [en] at ha he ⊢
      rw [localsL_at hv h6 k (i + 1) (n + 1) acc p (by omega) (by omega) (fun g => absurd g hk) ha he, hc2, hdrop, hb, List.replicate_succ']
      simp only [List.append_assoc, List.cons_append, List.nil_append]
theorem localsP_at {ls : List Int} (hv : ∀ x, x ∈ ls → VT x) (h6 : ls.length ≤ 6) {p : Nat} (ha : At s p (locE (strOfNums ls))) (he : p + (locE (strOfNums ls)).length ≤ e) : localsP s e p = .ok ls (p + (locE (strOfNums ls)).length) := by
  unfold locE at ha he ⊢
  have esz : (strOfNums ls).size = ls.length := strOfNums_size ls
  rw [List.length_append] at he ⊢
  rw [runs_ng] at ha he ⊢
  have hg := ng_le (strOfNums ls) (strOfNums ls).size 0
  unfold localsP
  rw [countP_at (by omega) (by omega) ha.left (by omega)]
  simp only [Res.bind]
  have := localsL_at (s := s) (e := e) hv h6 (strOfNums ls).size 0 0 [] (p + (uleb (ng (strOfNums ls) (strOfNums ls).size 0 : Int)).length) (by omega) rfl (fun _ => rfl) ha.right (by show _ + (grpF (strOfNums ls) (strOfNums ls).size 0 0).length ≤ _; omega)
  rw [this]
  simp only [List.nil_append, List.replicate_zero, List.drop_zero]
  rw [Nat.add_assoc]; rfl
end

end Go.Proofs.Qxb6500316a
