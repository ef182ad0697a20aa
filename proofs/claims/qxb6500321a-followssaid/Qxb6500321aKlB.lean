/-
  A body's cells are well made.
-/
import Derived.Test.Qxb6500321aKlA
set_option linter.unusedSimpArgs false
set_option linter.unusedVariables false
set_option maxRecDepth 100000
set_option linter.unusedSectionVars false
set_option maxHeartbeats 1000000
namespace Go.Proofs.Qxb6500321a
open Go Go.Vc

theorem ef_ops (P : PM) (x : Ins) (h : effP P x ≠ none) : x.op ≠ 224 ∧ x.op ≠ 225 := by
  have n1 : (api_NumSig.F 224).1 = 0 := by kernel_rfl
  have n2 : (api_NumSig.F 225).1 = 0 := by kernel_rfl
  refine ⟨fun q => h ?_, fun q => h ?_⟩
  · unfold effP
    rw [if_neg (by omega), if_neg (by omega), if_neg (by omega), if_neg (by omega), if_neg (by omega), if_neg (by omega), if_neg (by omega), if_neg (by omega), if_neg (by omega), q, if_pos n1]
  · unfold effP
    rw [if_neg (by omega), if_neg (by omega), if_neg (by omega), if_neg (by omega), if_neg (by omega), if_neg (by omega), if_neg (by omega), if_neg (by omega), if_neg (by omega), q, if_pos n2]
/-! ### Rows -/
def rwS : Nat → List Ins → Option Nat
  | n, [] => some n
  | n, c :: r => if (c.op = 225) ↔ (0 < n) then rwS (if c.op = 14 then c.x.toNat else n - 1) r else none
theorem rwS_cons (n : Nat) (c : Ins) (r : List Ins) : rwS n (c :: r) = if (c.op = 225) ↔ (0 < n) then rwS (if c.op = 14 then c.x.toNat else n - 1) r else none := rfl
theorem rwS_app : ∀ (l1 l2 : List Ins) (n : Nat), rwS n (l1 ++ l2) = (rwS n l1).bind (fun m => rwS m l2)
  | [], l2, n => rfl
  | c :: r, l2, n => by
    rw [List.cons_append, rwS_cons, rwS_cons]
    split
    · rw [rwS_app r l2]
    · rfl
theorem rwS_one {c : Ins} (h1 : c.op ≠ 225) (h2 : c.op ≠ 14) : rwS 0 [c] = some 0 := by
  rw [rwS_cons, if_pos (by simp [h1]), if_neg h2]
  rfl
theorem rwS_rows : ∀ (l : List Ins) (n : Nat), l.length = n → (∀ c, c ∈ l → c.op = 225) → rwS n l = some 0
  | [], n, hl, _ => by subst hl; rfl
  | c :: r, n, hl, hc => by
    have h225 := hc c (List.mem_cons_self ..)
    have hl : r.length + 1 = n := hl
    rw [rwS_cons, if_pos (by simp [h225]; omega), if_neg (by omega)]
    exact rwS_rows r (n - 1) (by omega) (fun d hd => hc d (List.mem_cons_of_mem _ hd))
theorem nc_rw {B : BD} {i : Nat} {S S' : SS} {N : List SC} (H : NC B i S S' N) (hef : ∀ x : Ins, B.ef x ≠ none → x.op ≠ 224 ∧ x.op ≠ 225) (X : SS) : rwS 0 (N.map (rsN X)) = some 0 := by
  have hbr : ∀ (op : Int) (g : SF), (brC op g).op = op := fun op g => by unfold brC; split <;> rfl
  cases H using NC.cs with
  | no => rfl
  | iff h4 => exact rwS_one (by show (4 : Int) ≠ 225; omega) (by show (4 : Int) ≠ 14; omega)
  | jmp f r hS => exact rwS_one (by show (224 : Int) ≠ 225; omega) (by show (224 : Int) ≠ 14; omega)
  | fin h => exact rwS_one (by show (11 : Int) ≠ 225; omega) (by show (11 : Int) ≠ 14; omega)
  | ret => exact rwS_one (by show (15 : Int) ≠ 225; omega) (by show (15 : Int) ≠ 14; omega)
  | br op t g ho hg => exact rwS_one (by show (brC op g).op ≠ 225; rw [hbr]; omega) (by show (brC op g).op ≠ 14; rw [hbr]; omega)
  | tab y cs hy hl hcs =>
    rw [List.map_cons, rwS_cons, if_pos (by show ((14 : Int) = 225) ↔ (0 < 0); simp), if_pos (show (rsN X ⟨14, .k y, 0⟩).op = 14 from rfl)]
    show rwS y.toNat (cs.map (rsN X)) = some 0
    refine rwS_rows _ _ (by simp [hl]) (fun c hc => ?_)
    obtain ⟨d, hd, rfl⟩ := List.mem_map.1 hc
    obtain ⟨t, g, hg, rfl⟩ := hcs d hd
    exact hbr 225 g
  | pln x hx hn =>
    have := hef x hx
    exact rwS_one (by show x.op ≠ 225; omega) (by show x.op ≠ 14; omega)
theorem rw_tr {B : BD} {res : Nat} (hef : ∀ x : Ins, B.ef x ≠ none → x.op ≠ 224 ∧ x.op ≠ 225) (X : SS) : ∀ (j : Nat) (S : SS), trS B res j = some S → rwS 0 (S.A.map (rsN X)) = some 0
  | 0, S, h => by
    have h : some (initS res) = some S := h
    cases h
    rfl
  | j + 1, S, h => by
    obtain ⟨S0, h0⟩ := trS_pre 1 j h
    have ih := rw_tr hef X j S0 h0
    rw [trS_succ h0] at h
    obtain ⟨N, eA, H⟩ := nc_of h
    rw [eA, List.map_append, rwS_app, ih]
    exact nc_rw H hef X
theorem ti_tr {B : BD} {res : Nat} (hg : wfGo B.ins B.n B.nt B.n 0 0 (fun _ => false) 0) (hr : res ≤ 1) (hB : BOkB B) (hef : ∀ x : Ins, B.ef x ≠ none → x.op ≠ 224 ∧ x.op ≠ 225) : ∀ (j : Nat) (S : SS), j ≤ B.n → trS B res j = some S → TI S
  | 0, S, _, h => by
    have h : some (initS res) = some S := h
    cases h
    exact ti_init res hr
  | j + 1, S, hj, h => by
    obtain ⟨S0, h0⟩ := trS_pre 1 j h
    have ih := ti_tr hg hr hB hef j S0 (by omega) h0
    have pi := pi_tr hg (by omega) hB j S0 (by omega) h0
    obtain ⟨p, R⟩ := pi.R
    rw [trS_succ h0] at h
    refine ti_step ih R hef ?_ h
    rcases pi.W with ⟨e, _⟩ | ⟨q, _⟩
    · omega
    · exact q
theorem fin_step {B : BD} {i : Nat} {S S' : SS} (T : TI S) (hne : S.fs ≠ []) (h : stepS B i S = some S') (hf : S'.fs = []) : S'.A = S.A ++ [⟨11, .k 0, 0⟩] ∧ (∀ o a, S'.en o = some a → a ≤ S.A.length) ∧ (∀ o a, S'.el o = some a → a ≤ S.A.length) := by
  cases stp_of h using Stp.cs with
  | skip d h0 hd => exact absurd hf hne
  | pln A h' d h0 _ _ _ _ hA => exact absurd hf hne
  | opn f A h' h0 ho hf' hl hA => cases hf
  | trn f r ho hd hfs hc _ => cases hf
  | sht f r ho hd hfs hn =>
    have hf : r = [] := hf
    subst hf
    refine ⟨rfl, fun o a ha => ?_, fun o a ha => ?_⟩
    · have ha : up1 S.en f.o S.A.length o = some a := ha
      by_cases q : o = f.o
      · subst q; rw [up1_same] at ha; cases ha; exact Nat.le_refl _
      · rw [up1_ne _ _ q] at ha; exact T.enl o a ha
    · have ha : (if f.cn = true then up1 S.el f.o S.A.length else S.el) o = some a := ha
      split at ha
      · by_cases q : o = f.o
        · subst q; rw [up1_same] at ha; cases ha; exact Nat.le_refl _
        · rw [up1_ne _ _ q] at ha; exact T.ell o a ha
      · exact T.ell o a ha
/-- A cell is well made. -/
structure CellOK (n j : Nat) (c : Ins) : Prop where
  m : ¬ (c.op = 2 ∨ c.op = 3 ∨ c.op = 5)
  e : c.op = 11 → j + 1 = n
  t : c.op = 14 → 1 ≤ c.x
  f : c.op = 4 ∨ c.op = 224 → (j : Int) < c.x ∧ c.x < (n : Int) ∧ c.y = 0
  b : c.op = 12 ∨ c.op = 13 ∨ c.op = 225 → 0 ≤ c.x ∧ c.x < (n : Int) ∧ ∃ k h, YK k h c.y ∧ (c.x ≤ (j : Int) → k = 0)
structure FlatA (cells : List Ins) : Prop where
  n : ∃ m, cells.length = m + 1 ∧ cells[m]? = some ⟨11, 0, 0⟩
  c : ∀ (j : Nat) (x : Ins), cells[j]? = some x → CellOK cells.length j x
  r : rwS 0 cells = some 0
theorem flat_out {B : BD} {res : Nat} (hg : wfGo B.ins B.n B.nt B.n 0 0 (fun _ => false) 0) (hr : res ≤ 1) (hB : BOkB B) (hef : ∀ x : Ins, B.ef x ≠ none → x.op ≠ 224 ∧ x.op ≠ 225) (h1 : 1 ≤ B.n) {Sn : SS} (hn : trS B res B.n = some Sn) (hf : Sn.fs = []) : FlatA (outC Sn) := by
  obtain ⟨m, hm⟩ : ∃ m, B.n = m + 1 := ⟨B.n - 1, by omega⟩
  have hn' := hn
  rw [hm] at hn'
  obtain ⟨S, hS⟩ := trS_pre 1 m hn'
  have T := ti_tr hg hr hB hef m S (by omega) hS
  have Tn := ti_tr hg hr hB hef B.n Sn (Nat.le_refl _) hn
  obtain ⟨p, Rn⟩ := (pi_tr hg (by omega) hB B.n Sn (Nat.le_refl _) hn).R
  have pi := pi_tr hg (by omega) hB m S (by omega) hS
  have hne : S.fs ≠ [] := by
    rcases pi.W with ⟨e, _⟩ | ⟨q, _⟩
    · omega
    · exact q
  rw [trS_succ hS] at hn'
  obtain ⟨eA, een, eel⟩ := fin_step T hne hn' hf
  have hlen : (outC Sn).length = S.A.length + 1 := by unfold outC; simp [eA]
  refine ⟨⟨S.A.length, hlen, ?_⟩, fun j x hx => ?_, rw_tr hef Sn B.n Sn hn⟩
  · unfold outC
    rw [List.getElem?_map, eA, List.getElem?_append_right (Nat.le_refl _), Nat.sub_self]
    rfl
  · unfold outC at hx
    rw [List.getElem?_map] at hx
    cases hc : Sn.A[j]? with
    | none => rw [hc] at hx; cases hx
    | some c =>
      rw [hc] at hx
      have hx : some (⟨c.op, syX Sn c.s, c.y⟩ : Ins) = some x := hx
      cases hx
      obtain ⟨l1, l2, l3, l4⟩ := Tn.lc j c hc
      have res := Rn.res j c hc
      have hj := get_lt hc
      have hAl : Sn.A.length = S.A.length + 1 := by rw [eA]; simp
      have re : ∀ o, c.s = .e o → (j : Int) < syX Sn c.s ∧ syX Sn c.s < (((outC Sn).length : Nat) : Int) := fun o ho => by
        rw [ho] at res ⊢
        rcases res with ⟨a, ha⟩ | ⟨f, hf', _⟩
        · have q1 := Tn.en j c o a hc ho ha
          have q2 := een o a ha
          have : syX Sn (.e o) = (a : Int) := by show (((Sn.en o).getD 0 : Nat) : Int) = _; rw [ha]; rfl
          rw [this, hlen]
          omega
        · rw [hf] at hf'; cases hf'
      have rc : ∀ o, c.s = .c o → (j : Int) < syX Sn c.s ∧ syX Sn c.s < (((outC Sn).length : Nat) : Int) := fun o ho => by
        rw [ho] at res ⊢
        rcases res with ⟨a, ha⟩ | ⟨f, hf', _⟩
        · have q1 := Tn.el j c o a hc ho ha
          have q2 := eel o a ha
          have : syX Sn (.c o) = (a : Int) := by show (((Sn.el o).getD 0 : Nat) : Int) = _; rw [ha]; rfl
          rw [this, hlen]
          omega
        · rw [hf] at hf'; cases hf'
      refine ⟨l1, fun q => ?_, fun q => ?_, fun q => ?_, fun q => ?_⟩
      · have := (Tn.e11 j c hc q).2.1
        omega
      · obtain ⟨y, e, hy⟩ := l2 q
        dsimp only
        rw [e]
        exact hy
      · obtain ⟨e, ⟨o, ho⟩ | ⟨o, ho⟩⟩ := l3 q
        · exact ⟨(re o ho).1, (re o ho).2, e⟩
        · exact ⟨(rc o ho).1, (rc o ho).2, e⟩
      · rcases l4 q with ⟨st, h, e, hst, hy⟩ | ⟨o, k, h, e, hy⟩
        · dsimp only
          rw [e]
          refine ⟨?_, ?_, 0, h, hy, fun _ => rfl⟩
          · show (0 : Int) ≤ (st : Int); omega
          · show (st : Int) < _; omega
        · have := re o e
          dsimp only
          exact ⟨by omega, by omega, k, h, hy, fun q => by omega⟩
end Go.Proofs.Qxb6500321a
