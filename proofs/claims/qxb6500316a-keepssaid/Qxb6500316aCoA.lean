/-
  What was read cost no less than its shortest text: the small readers.
-/
import Derived.Test.Qxb6500316aRtE
set_option linter.unusedSimpArgs false
set_option linter.unusedVariables false
set_option maxRecDepth 100000
namespace Go.Proofs.Qxb6500316a
open Go Go.Vc

section
variable {s : ByteArray} {e p q : Nat}
theorem next_cost {c : Int} (h : nextP s e p = .ok c q) : q = p + 1 := (nextP_ok h).2.1
theorem fixed_cost {x : Int} (h : fixedP s e x p = .ok () q) : q = p + 1 := by
  obtain ⟨c, q', h1, h2⟩ := bind_ok h
  split at h2
  · (first | (injection h2 with z__; injection z__ with h3 h4) | injection h2 with h3 h4); rw [← h4]; exact next_cost h1
  · cases h2
theorem flag_cost {m x : Int} (h : flagP s e m p = .ok x q) : q = p + 1 := by
  obtain ⟨c, q', h1, h2⟩ := bind_ok h
  split at h2
  · cases h2
  · (first | (injection h2 with z__; injection z__ with h3 h4) | injection h2 with h3 h4); rw [← h4]; exact next_cost h1
theorem count_cost {m : Int} {n : Nat} (h : countP s e m p = .ok n q) : p + (uleb (n : Int)).length ≤ q := by
  obtain ⟨c, q', h1, h2⟩ := bind_ok h
  have hr := u32P_rng h1
  split at h2
  · cases h2
  · (first | (injection h2 with z__; injection z__ with h3 h4) | injection h2 with h3 h4)
    have := u32P_cost h1
    rw [← h3, Int.toNat_of_nonneg hr.1]
    omega
theorem count_w32 {m : Int} {n : Nat} (h : countP s e m p = .ok n q) : W32 (n : Int) := by
  obtain ⟨c, q', h1, h2⟩ := bind_ok h
  have hr := u32P_rng h1
  split at h2
  · cases h2
  · (first | (injection h2 with z__; injection z__ with h3 h4) | injection h2 with h3 h4)
    rw [← h3, Int.toNat_of_nonneg hr.1]; exact hr
theorem take_cost {n : Nat} {t : ByteArray} (h : takeP s e n p = .ok t q) : q = p + n ∧ t.size ≤ n := by
  have h2 := takeP_le h
  unfold takeP at h
  split at h
  · cases h
  · (first | (injection h with z__; injection z__ with h3 h4) | injection h with h3 h4); exact ⟨h4.symm, h2⟩
theorem raw_le {t : ByteArray} {n : Nat} (h : t.size ≤ n) (hn : W32 (n : Int)) : (rawE t).length ≤ (uleb (n : Int)).length + n := by
  rw [rawE_length]
  have := uleb_mono (a := (t.size : Int)) (b := (n : Int)) (by omega) (by omega) (by rw [pow128_10]; have := hn.2; omega)
  omega
theorem name_cost {t : ByteArray} (h : nameP s e p = .ok t q) : p + (rawE t).length ≤ q := by
  obtain ⟨n, q', h1, h2⟩ := bind_ok h
  obtain ⟨g1, g2⟩ := take_cost h2
  have := count_cost h1
  have := raw_le g2 (count_w32 h1)
  omega
theorem valtypes_cost {m : Int} {t : ByteArray} (h : valtypesP s e m p = .ok t q) : p + (rawE t).length ≤ q := by
  obtain ⟨n, q1, h1, h2⟩ := bind_ok h
  obtain ⟨u, q2, h3, h4⟩ := bind_ok h2
  obtain ⟨e1, _⟩ := valtypesL_vt n q1 h3
  (first | (injection h4 with z__; injection z__ with h5 h6) | injection h4 with h5 h6); subst h5
  have := count_cost h1
  have := raw_le (t := s.extract q1 q2) (n := n) (by rw [ByteArray.size_extract]; omega) (count_w32 h1)
  omega
theorem limits_cost {x : Int × Int} (h : limitsP s e p = .ok x q) : p + (limE x.1 x.2).length ≤ q := by
  obtain ⟨f, q1, h1, h2⟩ := bind_ok h
  obtain ⟨lo, q2, h3, h4⟩ := bind_ok h2
  have c1 := flag_cost h1
  have c2 := u32P_cost h3
  split at h4
  · (first | (injection h4 with z__; injection z__ with h5 h6) | injection h4 with h5 h6); subst h5
    show p + (limE lo (-1)).length ≤ q
    unfold limE
    rw [if_pos (by decide), List.length_append]
    have : ([0] : List Int).length = 1 := rfl
    omega
  · obtain ⟨hi, q3, h5, h6⟩ := bind_ok h4
    have c3 := u32P_cost h5
    have r3 := u32P_rng h5
    (first | (injection h6 with z__; injection z__ with h7 h8) | injection h6 with h7 h8); subst h7
    show p + (limE lo hi).length ≤ q
    unfold limE
    rw [if_neg (by omega), List.length_append, List.length_append]
    have : ([1] : List Int).length = 1 := rfl
    omega
theorem rest_cost {op at_ : Int} {i : Ins} {n : Nat} {tabs : Nat → Int} (ho : 0 ≤ op ∧ op ≤ 255) (h14 : op ≠ 14) (h : restP s e op at_ p = .ok i q) : p + (insT i n tabs).length ≤ q := by
  have hio := (restP_pln ho h).1
  unfold restP at h
  unfold insT
  rw [hio]
  by_cases k1 : op = 0 ∨ op = 1 ∨ op = 5 ∨ op = 11 ∨ op = 15 ∨ op = 26 ∨ op = 27
  · rw [if_pos k1] at h
    (first | (injection h with z__; injection z__ with h1 h2) | injection h with h1 h2)
    rw [if_neg (by omega), if_neg (by omega), if_neg (by omega), if_neg (by omega), if_neg (by omega), if_neg (by omega), if_neg (by omega), if_neg (by omega), if_neg (by omega), if_neg (by omega), List.length_nil]
    omega
  rw [if_neg k1] at h
  by_cases k2 : op = 2 ∨ op = 3 ∨ op = 4
  · rw [if_pos k2] at h
    obtain ⟨c, q', h1, h2⟩ := bind_ok h
    have c1 := next_cost h1
    rw [if_pos k2]
    split at h2
    · cases h2
    · (first | (injection h2 with z__; injection z__ with h3 h4) | injection h2 with h3 h4)
      show p + 1 ≤ q
      omega
  rw [if_neg k2] at h ⊢
  by_cases k3 : op = 12 ∨ op = 13 ∨ op = 16 ∨ op = 32 ∨ op = 33 ∨ op = 34 ∨ op = 35 ∨ op = 36
  · rw [if_pos k3] at h ⊢
    obtain ⟨c, q', h1, h2⟩ := bind_ok h
    have c1 := u32P_cost h1
    (first | (injection h2 with z__; injection z__ with h3 h4) | injection h2 with h3 h4); subst h3
    show p + (uleb c).length ≤ q
    omega
  rw [if_neg k3] at h ⊢
  rw [if_neg h14]
  by_cases k4 : op = 17
  · rw [if_pos k4] at h ⊢
    obtain ⟨c, q', h1, h2⟩ := bind_ok h
    obtain ⟨_, q2, h3, h4⟩ := bind_ok h2
    have c1 := u32P_cost h1
    have c2 := fixed_cost h3
    (first | (injection h4 with z__; injection z__ with h5 h6) | injection h4 with h5 h6); subst h5
    show p + (uleb c ++ [0]).length ≤ q
    rw [List.length_append]
    have : ([0] : List Int).length = 1 := rfl
    omega
  rw [if_neg k4] at h ⊢
  by_cases k5 : op = 63 ∨ op = 64
  · rw [if_pos k5] at h ⊢
    obtain ⟨c, q', h1, h2⟩ := bind_ok h
    have c1 := fixed_cost h1
    (first | (injection h2 with z__; injection z__ with h3 h4) | injection h2 with h3 h4)
    show p + 1 ≤ q
    omega
  rw [if_neg k5] at h ⊢
  by_cases k6 : op = 65
  · rw [if_pos k6] at h ⊢
    obtain ⟨c, q', h1, h2⟩ := bind_ok h
    have c1 := sleb32_cost h1
    (first | (injection h2 with z__; injection z__ with h3 h4) | injection h2 with h3 h4); subst h3
    show p + (sleb (sg32 c)).length ≤ q
    omega
  rw [if_neg k6] at h ⊢
  by_cases k7 : op = 66
  · rw [if_pos k7] at h ⊢
    obtain ⟨c, q', h1, h2⟩ := bind_ok h
    have c1 := sleb64_cost h1
    (first | (injection h2 with z__; injection z__ with h3 h4) | injection h2 with h3 h4); subst h3
    show p + (sleb (IntKind.wrap .i64 c)).length ≤ q
    omega
  rw [if_neg k7] at h ⊢
  by_cases k8 : op = 67
  · rw [if_pos k8] at h ⊢
    obtain ⟨c, q', h1, h2⟩ := bind_ok h
    have c1 := wordP_cost h1
    (first | (injection h2 with z__; injection z__ with h3 h4) | injection h2 with h3 h4); subst h3
    rw [littleF_len]; omega
  rw [if_neg k8] at h ⊢
  by_cases k9 : op = 68
  · rw [if_pos k9] at h ⊢
    obtain ⟨c, q', h1, h2⟩ := bind_ok h
    have c1 := wordP_cost h1
    (first | (injection h2 with z__; injection z__ with h3 h4) | injection h2 with h3 h4); subst h3
    rw [littleF_len]; omega
  rw [if_neg k9] at h ⊢
  by_cases k10 : 40 ≤ op ∧ op ≤ 62
  · rw [if_pos k10] at h ⊢
    obtain ⟨c, q', h1, h2⟩ := bind_ok h
    obtain ⟨y, q2, h3, h4⟩ := bind_ok h2
    have c1 := u32P_cost h1
    have c2 := u32P_cost h3
    (first | (injection h4 with z__; injection z__ with h5 h6) | injection h4 with h5 h6); subst h5
    show p + (uleb c ++ uleb y).length ≤ q
    rw [List.length_append]; omega
  rw [if_neg k10] at h ⊢
  split at h
  · cases h
  · (first | (injection h with z__; injection z__ with h1 h2) | injection h with h1 h2)
    rw [List.length_nil]; omega
theorem const_cost {i : Ins} (h : constP s e p = .ok i q) : p + (konE i).length ≤ q := by
  obtain ⟨op, q1, h1, h2⟩ := bind_ok h
  split at h2
  · cases h2
  · rename_i ho
    obtain ⟨i', q2, h3, h4⟩ := bind_ok h2
    obtain ⟨c, q3, h5, h6⟩ := bind_ok h4
    have c1 := next_cost h1
    have c2 := rest_cost (n := 0) (tabs := fun _ => 0) (nextP_rng h1) (by omega) h3
    have c3 := next_cost h5
    split at h6
    · (first | (injection h6 with z__; injection z__ with h7 h8) | injection h6 with h7 h8); subst h7
      unfold konE insE
      rw [List.length_append, List.length_append]
      have e1 : ([i'.op] : List Int).length = 1 := rfl
      have e2 : ([11] : List Int).length = 1 := rfl
      omega
    · cases h6
theorem enter_cost {n : Nat} (h : enterP s e p = .ok n q) : p + (uleb (n : Int)).length ≤ q ∧ W32 (n : Int) := by
  obtain ⟨c, q', h1, h2⟩ := bind_ok h
  have hr := u32P_rng h1
  split at h2
  · cases h2
  · (first | (injection h2 with z__; injection z__ with h3 h4) | injection h2 with h3 h4)
    have := u32P_cost h1
    rw [← h3, Int.toNat_of_nonneg hr.1]
    exact ⟨by omega, hr⟩

/-! ### Bodies -/
theorem brL_cost : ∀ (k : Nat) (c : Sc) (p : Nat) {c' : Sc} {q : Nat}, brL s e k c p = .ok c' q → c'.nTab = c.nTab + k ∧ (∀ j, j < c.nTab → c'.tabs j = c.tabs j) ∧ p + (rowsR uleb c'.tabs k c.nTab).length ≤ q
  | 0, c, p, c', q, h => by (first | (injection h with z__; injection z__ with h1 h2) | injection h with h1 h2); subst h1; exact ⟨rfl, fun j _ => rfl, by show p + 0 ≤ q; omega⟩
  | k + 1, c, p, c', q, h => by
    obtain ⟨x, q1, h1, h2⟩ := bind_ok h
    obtain ⟨e1, e2, e3⟩ := brL_cost k (c.tab x) q1 h2
    have c1 := u32P_cost h1
    have hx : c'.tabs c.nTab = x := by
      rw [e2 c.nTab (by show c.nTab < c.nTab + 1; omega)]
      show upd c.tabs c.nTab x c.nTab = x
      unfold upd; rw [if_pos rfl]
    refine ⟨by rw [e1]; show c.nTab + 1 + k = _; omega, fun j hj => ?_, ?_⟩
    · rw [e2 j (by show j < c.nTab + 1; omega)]
      show upd c.tabs c.nTab x j = _
      unfold upd; rw [if_neg (by omega)]
    · rw [rowsR_succ, List.length_append, hx]
      have e3 : q1 + (rowsR uleb c'.tabs k (c.nTab + 1)).length ≤ q := e3
      omega
theorem rowsR_congr {α : Type} {g g' : α → List Int} {f f' : Nat → α} : ∀ (k i : Nat), (∀ j, i ≤ j → j < i + k → g (f j) = g' (f' j)) → rowsR g f k i = rowsR g' f' k i
  | 0, i, _ => rfl
  | k + 1, i, h => by rw [rowsR_succ, rowsR_succ, h i (Nat.le_refl _) (by omega), rowsR_congr k (i + 1) (fun j h1 h2 => h j (by omega) (by omega))]
theorem body_cost : ∀ (k : Nat) (c : Sc) (p : Nat) {c' : Sc} {q : Nat}, bodyL s e k c p = .ok c' q → ScG c → (∀ j, j < c.nI → c'.ins j = c.ins j) ∧ c.nI < c'.nI ∧ c.nTab ≤ c'.nTab ∧ c'.nTab ≤ 24 ∧ (∀ j, j < c.nTab → c'.tabs j = c.tabs j) ∧ p + (rowsR (fun x => insE x c'.nTab c'.tabs) c'.ins (c'.nI - c.nI) c.nI).length ≤ q
  | 0, c, p, c', q, h, _ => by cases h
  | k + 1, c, p, c', q, h, hG => by
    haveI := outNil
    rw [bodyL_succ] at h
    obtain ⟨op, q1, h1, h2⟩ := bind_ok h
    obtain ⟨x, q2, h3, h4⟩ := bind_ok h2
    have hop := nextP_rng h1
    have c1 := next_cost h1
    obtain ⟨gi, gs, _, _⟩ := restX_g hop hG h3
    -- what was read
    have key : x.2.nI = c.nI ∧ x.2.ins = c.ins ∧ c.nTab ≤ x.2.nTab ∧ (∀ j, j < c.nTab → x.2.tabs j = c.tabs j) ∧ x.1.op = op ∧
        ∀ (n : Nat) (tabs : Nat → Int), n ≤ 24 → x.2.nTab ≤ n → (∀ j, j < x.2.nTab → tabs j = x.2.tabs j) → q1 + (insT x.1 n tabs).length ≤ q2 := by
      unfold restX at h3
      split at h3
      · rename_i g
        obtain ⟨m, q3, h5, h6⟩ := bind_ok h3
        obtain ⟨d, q4, h7, h8⟩ := bind_ok h6
        obtain ⟨e1, e2, e3⟩ := brL_cost (m + 1) c q3 h7
        obtain ⟨_, b2, b3, _, _⟩ := brL_nTab (m + 1) c q3 h7
        have c2 := count_cost h5
        (first | (injection h8 with z__; injection z__ with h9 h10) | injection h8 with h9 h10); subst h9
        refine ⟨b2, b3, by show c.nTab ≤ d.nTab; omega, e2, g.symm, fun n tabs hn hle ht => ?_⟩
        have hle : d.nTab ≤ n := hle
        have et : insT ⟨14, (c.nTab : Int), ((m + 1 : Nat) : Int)⟩ n tabs = uleb (m : Int) ++ rowsR uleb tabs (m + 1) c.nTab := by
          unfold insT
          simp only
          rw [if_neg (by decide), if_neg (by decide), if_pos trivial]
          have h1 := tabF_rows n hn tabs c.nTab (m + 1) (by omega) (m + 1) 0 (n + 1) (by omega) (by omega)
          simp only [Nat.add_zero] at h1
          rw [h1]
          congr 2
          rw [wrap_u64 (by omega) (by omega)]; omega
        show q1 + (insT ⟨14, (c.nTab : Int), ((m + 1 : Nat) : Int)⟩ n tabs).length ≤ q2
        rw [et, List.length_append, rowsR_congr (f' := d.tabs) (g' := uleb) (m + 1) c.nTab (fun j j1 j2 => by rw [ht j (by show j < d.nTab; omega)])]
        omega
      · rename_i g
        obtain ⟨i', q3, h5, h6⟩ := bind_ok h3
        (first | (injection h6 with z__; injection z__ with h9 h10) | injection h6 with h9 h10); subst h9
        exact ⟨rfl, rfl, Nat.le_refl _, fun j _ => rfl, (restP_pln hop h5).1, fun n tabs _ _ _ => by have := rest_cost (n := n) (tabs := tabs) hop g h5; show q1 + (insT i' n tabs).length ≤ q2; omega⟩
    obtain ⟨k2, k3, k4, k5, k6, k7⟩ := key
    have more_ins : ∀ j, j < c.nI → (x.2.more x.1).ins j = c.ins j := fun j hj => by
      show upd x.2.ins x.2.nI x.1 j = _
      unfold upd
      rw [k2, if_neg (by omega), k3]
    have more_at : (x.2.more x.1).ins c.nI = x.1 := by
      show upd x.2.ins x.2.nI x.1 c.nI = _
      unfold upd
      rw [k2, if_pos rfl]
    have more_n : (x.2.more x.1).nI = c.nI + 1 := by show x.2.nI + 1 = _; omega
    have one : ∀ (n : Nat) (tabs : Nat → Int), n ≤ 24 → x.2.nTab ≤ n → (∀ j, j < x.2.nTab → tabs j = x.2.tabs j) → p + (insE x.1 n tabs).length ≤ q2 := fun n tabs g1 g2 g3 => by
      have := k7 n tabs g1 g2 g3
      unfold insE
      rw [List.length_append]
      have e1 : ([x.1.op] : List Int).length = 1 := rfl
      omega
    have go : ∀ (d : Sc), bodyL s e k d q2 = .ok c' q → ScG d → d.nI = c.nI + 1 → (∀ j, j < c.nI + 1 → d.ins j = (x.2.more x.1).ins j) → d.nTab = x.2.nTab → d.tabs = x.2.tabs →
        (∀ j, j < c.nI → c'.ins j = c.ins j) ∧ c.nI < c'.nI ∧ c.nTab ≤ c'.nTab ∧ c'.nTab ≤ 24 ∧ (∀ j, j < c.nTab → c'.tabs j = c.tabs j) ∧ p + (rowsR (fun x => insE x c'.nTab c'.tabs) c'.ins (c'.nI - c.nI) c.nI).length ≤ q := by
      intro d hb hd hn hi ht hts
      obtain ⟨g1, g2, g3, g4, g5, g6⟩ := body_cost k d q2 hb hd
      rw [hn] at g1 g2 g6
      rw [ht] at g3 g5
      rw [hts] at g5
      have hx : c'.ins c.nI = x.1 := by rw [g1 c.nI (by omega), hi c.nI (by omega), more_at]
      refine ⟨fun j hj => by rw [g1 j (by omega), hi j (by omega), more_ins j hj], by omega, by omega, g4, fun j hj => by rw [g5 j (by omega), k5 j hj], ?_⟩
      rw [show c'.nI - c.nI = (c'.nI - (c.nI + 1)) + 1 by omega, rowsR_succ, List.length_append, hx]
      have := one c'.nTab c'.tabs g4 g3 g5
      show p + ((insE x.1 c'.nTab c'.tabs).length + _) ≤ q
      omega
    unfold bodyStep at h4
    split at h4
    · cases h4
    rename_i hn96
    have gm := more_g gs (by omega) gi
    split at h4
    · split at h4
      · cases h4
      · exact go _ h4 ⟨gm.nI, gm.ins, gm.nT, gm.tabs⟩ more_n (fun j _ => rfl) rfl rfl
    split at h4
    · split at h4
      · cases h4
      · exact go _ h4 ⟨gm.nI, gm.ins, gm.nT, gm.tabs⟩ more_n (fun j _ => rfl) rfl rfl
    split at h4
    · split at h4
      · (first | (injection h4 with z__; injection z__ with h5 h6) | injection h4 with h5 h6); subst h5
        refine ⟨more_ins, by rw [more_n]; omega, k4, gm.nT, k5, ?_⟩
        rw [more_n, show c.nI + 1 - c.nI = 0 + 1 by omega, rowsR_succ, List.length_append, more_at]
        have := one (x.2.more x.1).nTab (x.2.more x.1).tabs gm.nT (Nat.le_refl _) (fun j _ => rfl)
        show p + ((insE x.1 (x.2.more x.1).nTab (x.2.more x.1).tabs).length + 0) ≤ q
        omega
      · exact go _ h4 ⟨gm.nI, gm.ins, gm.nT, gm.tabs⟩ more_n (fun j _ => rfl) rfl rfl
    · exact go _ h4 gm more_n (fun j _ => rfl) rfl rfl
theorem bodyP_cost {c c' : Sc} (h : bodyP s e c p = .ok c' q) : p + (rowsE (fun x => insE x c'.nTab c'.tabs) c'.ins c'.nI).length ≤ q := by
  obtain ⟨_, _, _, _, _, h6⟩ := body_cost _ _ _ h ⟨Nat.zero_le _, fun k hk => absurd hk (Nat.not_lt_zero k), Nat.zero_le _, fun k hk => absurd hk (Nat.not_lt_zero k)⟩
  rw [rowsE_eqR]
  have h6 : p + (rowsR (fun x => insE x c'.nTab c'.tabs) c'.ins (c'.nI - 0) 0).length ≤ q := h6
  rwa [Nat.sub_zero] at h6
end

end Go.Proofs.Qxb6500316a
