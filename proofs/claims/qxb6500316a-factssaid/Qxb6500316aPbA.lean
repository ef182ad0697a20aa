/-
  A module that was decoded keeps within its bounds.
-/
import Derived.Test.Qxb6500316aEnI
set_option linter.unusedSimpArgs false
set_option linter.unusedVariables false
set_option maxRecDepth 100000
namespace Go.Proofs.Qxb6500316a
open Go Go.Vc

theorem bind_ok {α β : Type} {r : Res α} {f : α → Nat → Res β} {x : β} {q : Nat} (h : r.bind f = .ok x q) : ∃ a q', r = .ok a q' ∧ f a q' = .ok x q := by
  cases r using Res.cs with
  | ok a q' => exact ⟨a, q', rfl, h⟩
  | err n a => cases h
theorem nextP_rng {s : ByteArray} {e p : Nat} {c : Int} {q : Nat} (h : nextP s e p = .ok c q) : 0 ≤ c ∧ c ≤ 255 := by
  obtain ⟨_, _, rfl⟩ := nextP_ok h
  exact byte_rng s p
theorem flagP_rng {s : ByteArray} {e p : Nat} {max c : Int} {q : Nat} (h : flagP s e max p = .ok c q) : 0 ≤ c ∧ c ≤ 255 := by
  obtain ⟨a, q', h1, h2⟩ := bind_ok h
  split at h2
  · cases h2
  · (first | (injection h2 with z__; injection z__ with h3 h4) | injection h2 with h3 h4); subst h3; exact nextP_rng h1
theorem valtypeP_rng {s : ByteArray} {e p : Nat} {c : Int} {q : Nat} (h : valtypeP s e p = .ok c q) : 124 ≤ c ∧ c ≤ 127 ∧ q = p + 1 ∧ c = byteAt s p := by
  obtain ⟨a, q', h1, h2⟩ := bind_ok h
  split at h2
  · cases h2
  · rename_i hc
    (first | (injection h2 with z__; injection z__ with h3 h4) | injection h2 with h3 h4); subst h3
    obtain ⟨_, g1, g2⟩ := nextP_ok h1
    exact ⟨by omega, by omega, by omega, g2⟩
theorem takeP_le {s : ByteArray} {e n p q : Nat} {x : ByteArray} (h : takeP s e n p = .ok x q) : x.size ≤ n := by
  unfold takeP at h
  split at h
  · cases h
  · (first | (injection h with z__; injection z__ with h1 h2) | injection h with h1 h2); subst h1; rw [ByteArray.size_extract]; omega
theorem nameP_le {s : ByteArray} {e p q : Nat} {x : ByteArray} (h : nameP s e p = .ok x q) : x.size ≤ 8 := by
  obtain ⟨n, q', h1, h2⟩ := bind_ok h
  have := countP_le h1; have := takeP_le h2; omega
theorem limitsP_rng {s : ByteArray} {e p q : Nat} {x : Int × Int} (h : limitsP s e p = .ok x q) : (-1 ≤ x.1 ∧ x.1 ≤ 4294967295) ∧ (-1 ≤ x.2 ∧ x.2 ≤ 4294967295) := by
  obtain ⟨f, q1, h1, h2⟩ := bind_ok h
  obtain ⟨lo, q2, h3, h4⟩ := bind_ok h2
  have g1 := u32P_rng h3
  split at h4
  · (first | (injection h4 with z__; injection z__ with h5 h6) | injection h4 with h5 h6); subst h5; exact ⟨⟨by show _ ≤ lo; omega, g1.2⟩, by show (-1 : Int) ≤ -1; omega, by show (-1 : Int) ≤ _; omega⟩
  · obtain ⟨hi, q3, h5, h6⟩ := bind_ok h4
    have g2 := u32P_rng h5
    (first | (injection h6 with z__; injection z__ with h7 h8) | injection h6 with h7 h8); subst h7; exact ⟨⟨by show _ ≤ lo; omega, g1.2⟩, by show _ ≤ hi; omega, g2.2⟩
theorem wrap64_rng (x : Int) : 0 ≤ IntKind.wrap .u64 x ∧ IntKind.wrap .u64 x ≤ 18446744073709551615 := by
  rw [wrap_u64_mod]; omega
theorem wrap32_rng (x : Int) : 0 ≤ IntKind.wrap .u32 x ∧ IntKind.wrap .u32 x ≤ 4294967295 := by
  rw [wrap_u32_mod]; omega
theorem bOr64_rng (x y : Int) : 0 ≤ bOr .u64 x y ∧ bOr .u64 x y ≤ 18446744073709551615 := by
  unfold bOr; exact wrap64_rng _
theorem slebL_rng {s : ByteArray} {e start : Nat} {bits : Int} : ∀ (k : Nat) (v sh : Int) (p : Nat) {x : Int × Int × Int} {q : Nat}, slebL s e start bits k v sh p = .ok x q → 0 ≤ x.1 ∧ x.1 ≤ 18446744073709551615
  | 0, v, sh, p, x, q, h => by cases h
  | k + 1, v, sh, p, x, q, h => by
    rw [slebL_succ] at h
    split at h
    · cases h
    · obtain ⟨c, q', h1, h2⟩ := bind_ok h
      split at h2
      · (first | (injection h2 with z__; injection z__ with h3 h4) | injection h2 with h3 h4); subst h3; exact bOr64_rng _ _
      · exact slebL_rng k _ _ _ h2
theorem slebP_rng {s : ByteArray} {e p q : Nat} {bits y : Int} (h : slebP s e bits p = .ok y q) : 0 ≤ y ∧ y ≤ 18446744073709551615 := by
  obtain ⟨x, q', h1, h2⟩ := bind_ok h
  have g := slebL_rng _ _ _ _ h1
  cases hf : slebFin bits x.1 x.2.1 x.2.2 with
  | none => rw [hf] at h2; cases h2
  | some z =>
    rw [hf] at h2
    (first | (injection h2 with z__; injection z__ with h3 h4) | injection h2 with h3 h4); subst h3
    unfold slebFin at hf
    split at hf
    · split at hf
      · cases hf
      · injection hf with hf; rw [← hf]; exact g
    · split at hf
      · split at hf
        · cases hf
        · injection hf with hf; rw [← hf]; exact wrap64_rng _
      · injection hf with hf; rw [← hf]; exact wrap64_rng _
theorem wordL_rng (t : ByteArray) : ∀ (k : Nat) (v : Int), 0 ≤ v ∧ v ≤ 18446744073709551615 → 0 ≤ wordL t k v ∧ wordL t k v ≤ 18446744073709551615
  | 0, v, h => h
  | k + 1, v, h => wordL_rng t k _ (bOr64_rng _ _)
theorem wordP_rng {s : ByteArray} {e n p q : Nat} {y : Int} (h : wordP s e n p = .ok y q) : 0 ≤ y ∧ y ≤ 18446744073709551615 := by
  obtain ⟨x, q', h1, h2⟩ := bind_ok h
  (first | (injection h2 with z__; injection z__ with h3 h4) | injection h2 with h3 h4); subst h3
  exact wordL_rng x 8 0 ⟨by decide, by decide⟩

theorem insIn_mk {op x y : Int} (h1 : 0 ≤ op ∧ op ≤ 255) (h2 : 0 ≤ x ∧ x ≤ 4294967295) (h3 : 0 ≤ y ∧ y ≤ 18446744073709551615) : InsIn ⟨op, x, y⟩ := ⟨h1.1, h1.2, h2.1, h2.2, h3.1, h3.2⟩
theorem z32 : (0 : Int) ≤ 0 ∧ (0 : Int) ≤ 4294967295 := ⟨by decide, by decide⟩
theorem z64 : (0 : Int) ≤ 0 ∧ (0 : Int) ≤ 18446744073709551615 := ⟨by decide, by decide⟩
theorem restP_in {s : ByteArray} {e p q : Nat} {op at_ : Int} {i : Ins} (ho : 0 ≤ op ∧ op ≤ 255) (h : restP s e op at_ p = .ok i q) : InsIn i := by
  unfold restP at h
  split at h
  · (first | (injection h with z__; injection z__ with h1 h2) | injection h with h1 h2); subst h1; exact insIn_mk ho z32 z64
  split at h
  · obtain ⟨c, q', h1, h2⟩ := bind_ok h
    split at h2
    · cases h2
    · (first | (injection h2 with z__; injection z__ with h3 h4) | injection h2 with h3 h4); subst h3; exact insIn_mk ho (wrap32_rng _) z64
  split at h
  · obtain ⟨c, q', h1, h2⟩ := bind_ok h
    (first | (injection h2 with z__; injection z__ with h3 h4) | injection h2 with h3 h4); subst h3; exact insIn_mk ho (u32P_rng h1) z64
  split at h
  · obtain ⟨c, q', h1, h2⟩ := bind_ok h
    obtain ⟨_, q2, h3, h4⟩ := bind_ok h2
    (first | (injection h4 with z__; injection z__ with h5 h6) | injection h4 with h5 h6); subst h5; exact insIn_mk ho (u32P_rng h1) z64
  split at h
  · obtain ⟨c, q', h1, h2⟩ := bind_ok h
    (first | (injection h2 with z__; injection z__ with h3 h4) | injection h2 with h3 h4); subst h3; exact insIn_mk ho z32 z64
  split at h
  · obtain ⟨c, q', h1, h2⟩ := bind_ok h
    (first | (injection h2 with z__; injection z__ with h3 h4) | injection h2 with h3 h4); subst h3; exact insIn_mk ho z32 (slebP_rng h1)
  split at h
  · obtain ⟨c, q', h1, h2⟩ := bind_ok h
    (first | (injection h2 with z__; injection z__ with h3 h4) | injection h2 with h3 h4); subst h3; exact insIn_mk ho z32 (slebP_rng h1)
  split at h
  · obtain ⟨c, q', h1, h2⟩ := bind_ok h
    (first | (injection h2 with z__; injection z__ with h3 h4) | injection h2 with h3 h4); subst h3; exact insIn_mk ho z32 (wordP_rng h1)
  split at h
  · obtain ⟨c, q', h1, h2⟩ := bind_ok h
    (first | (injection h2 with z__; injection z__ with h3 h4) | injection h2 with h3 h4); subst h3; exact insIn_mk ho z32 (wordP_rng h1)
  split at h
  · obtain ⟨c, q', h1, h2⟩ := bind_ok h
    obtain ⟨y, q2, h3, h4⟩ := bind_ok h2
    have g := u32P_rng h3
    (first | (injection h4 with z__; injection z__ with h5 h6) | injection h4 with h5 h6); subst h5; exact insIn_mk ho (u32P_rng h1) ⟨g.1, by omega⟩
  split at h
  · cases h
  · (first | (injection h with z__; injection z__ with h1 h2) | injection h with h1 h2); subst h1; exact insIn_mk ho z32 z64
theorem constP_in {s : ByteArray} {e p q : Nat} {i : Ins} (h : constP s e p = .ok i q) : InsIn i := by
  obtain ⟨op, q1, h1, h2⟩ := bind_ok h
  split at h2
  · cases h2
  · obtain ⟨i', q2, h3, h4⟩ := bind_ok h2
    obtain ⟨c, q3, h5, h6⟩ := bind_ok h4
    split at h6
    · (first | (injection h6 with z__; injection z__ with h7 h8) | injection h6 with h7 h8); subst h7; exact restP_in (nextP_rng h1) h3
    · cases h6

/-! ### Rows -/
theorem upd_all {α : Type} {G : α → Prop} {f : Nat → α} {i : Nat} {x : α} (hf : ∀ j, j < i → G (f j)) (hx : G x) : ∀ j, j < i + 1 → G (upd f i x j) := by
  intro j hj
  unfold upd
  split
  · exact hx
  · exact hf j (by omega)
abbrev W32 (x : Int) : Prop := 0 ≤ x ∧ x ≤ 4294967295
theorem funcsL_all {s : ByteArray} {e : Nat} : ∀ (k i : Nat) (f : Nat → Int) (p : Nat) {f' : Nat → Int} {q : Nat}, funcsL s e k i f p = .ok f' q → (∀ j, j < i → W32 (f j)) → ∀ j, j < i + k → W32 (f' j)
  | 0, i, f, p, f', q, h, hf => by (first | (injection h with z__; injection z__ with h1 h2) | injection h with h1 h2); subst h1; exact hf
  | k + 1, i, f, p, f', q, h, hf => by
    obtain ⟨t, q1, h1, h2⟩ := bind_ok h
    have := funcsL_all k (i + 1) _ _ h2 (upd_all hf (u32P_rng h1))
    intro j hj; exact this j (by omega)
theorem byteAt_extract (t : ByteArray) (i j k : Nat) (h : k < (t.extract i j).size) : byteAt (t.extract i j) k = byteAt t (i + k) := by
  rw [ByteArray.size_extract] at h
  unfold byteAt
  rw [ByteArray.data_extract, Array.getD_eq_getD_getElem?, Array.getD_eq_getD_getElem?, Array.getElem?_extract]
  have hs : t.data.size = t.size := rfl
  rw [if_pos (by omega)]
theorem Asc.extract {t : ByteArray} (h : Asc t) (i j : Nat) : Asc (t.extract i j) := by
  intro k hk
  rw [byteAt_extract t i j k hk]
  rw [ByteArray.size_extract] at hk
  exact h (i + k) (by omega)
theorem byteAt_append (a b : ByteArray) (k : Nat) : byteAt (a ++ b) k = if k < a.size then byteAt a k else byteAt b (k - a.size) := by
  unfold byteAt
  rw [ByteArray.data_append, Array.getD_eq_getD_getElem?, Array.getElem?_append]
  have hs : a.data.size = a.size := rfl
  rw [hs]
  split <;> rw [Array.getD_eq_getD_getElem?]
theorem Asc.append {a b : ByteArray} (ha : Asc a) (hb : Asc b) : Asc (a ++ b) := by
  intro k hk
  rw [ByteArray.size_append] at hk
  rw [byteAt_append]
  split
  · exact ha k (by omega)
  · exact hb _ (by omega)
theorem Asc.splitF {t : ByteArray} (h : Asc t) : ∀ k i, Asc (splitF t k i).1 ∧ Asc (splitF t k i).2
  | 0, i => ⟨h, fun j hj => absurd hj (Nat.not_lt_zero j)⟩
  | k + 1, i => by
    rw [splitF_succ]
    split
    · exact ⟨h.extract _ _, h.extract _ _⟩
    · exact Asc.splitF h k (i + 1)
theorem valtypesL_asc {s : ByteArray} {e : Nat} : ∀ (k p : Nat) {q : Nat}, valtypesL s e k p = .ok () q → q = p + k ∧ ∀ j, p ≤ j → j < p + k → byteAt s j < 128
  | 0, p, q, h => by (first | (injection h with z__; injection z__ with h1 h2) | injection h with h1 h2); exact ⟨by omega, fun j h1 h2 => by omega⟩
  | k + 1, p, q, h => by
    obtain ⟨t, q1, h1, h2⟩ := bind_ok h
    obtain ⟨g1, g2, g3, g4⟩ := valtypeP_rng h1
    obtain ⟨e1, e2⟩ := valtypesL_asc k q1 h2
    refine ⟨by omega, fun j hj hk => ?_⟩
    by_cases hjp : j = p
    · subst hjp; omega
    · exact e2 j (by omega) (by omega)
theorem valtypesP_asc {s : ByteArray} {e p q : Nat} {max : Int} {x : ByteArray} (h : valtypesP s e max p = .ok x q) : Asc x ∧ (x.size : Int) ≤ max := by
  obtain ⟨n, q1, h1, h2⟩ := bind_ok h
  obtain ⟨u, q2, h3, h4⟩ := bind_ok h2
  have hn := countP_le h1
  obtain ⟨e1, e2⟩ := valtypesL_asc n q1 h3
  (first | (injection h4 with z__; injection z__ with h5 h6) | injection h4 with h5 h6); subst h5
  refine ⟨fun k hk => ?_, by rw [ByteArray.size_extract]; omega⟩
  rw [byteAt_extract _ _ _ _ hk]
  rw [ByteArray.size_extract] at hk
  exact e2 _ (by omega) (by omega)
abbrev TyG (t : ByteArray) : Prop := t.size ≤ 1024 ∧ Asc (splitP t).1 ∧ Asc (splitP t).2
theorem typesL_all {s : ByteArray} {e : Nat} : ∀ (k i : Nat) (f : Nat → ByteArray) (p : Nat) {f' : Nat → ByteArray} {q : Nat}, typesL s e k i f p = .ok f' q → (∀ j, j < i → TyG (f j)) → ∀ j, j < i + k → TyG (f' j)
  | 0, i, f, p, f', q, h, hf => by (first | (injection h with z__; injection z__ with h1 h2) | injection h with h1 h2); subst h1; exact hf
  | k + 1, i, f, p, f', q, h, hf => by
    obtain ⟨u, q1, h1, h2⟩ := bind_ok h
    obtain ⟨a, q2, h3, h4⟩ := bind_ok h2
    obtain ⟨z, q3, h5, h6⟩ := bind_ok h4
    obtain ⟨a1, a2⟩ := valtypesP_asc h3
    obtain ⟨z1, z2⟩ := valtypesP_asc h5
    have hc : Asc (⟨#[58]⟩ : ByteArray) := by
      intro j hj
      have : j = 0 := by have : (⟨#[58]⟩ : ByteArray).size = 1 := rfl; omega
      subst this; decide
    have hA : Asc ((a ++ (⟨#[58]⟩ : ByteArray)) ++ z) := (a1.append hc).append z1
    have hx : TyG ((a ++ (⟨#[58]⟩ : ByteArray)) ++ z) := ⟨by rw [ByteArray.size_append, ByteArray.size_append]; have : (⟨#[58]⟩ : ByteArray).size = 1 := rfl; omega, Asc.splitF hA _ _⟩
    have := typesL_all k (i + 1) _ _ h6 (upd_all hf hx)
    intro j hj; exact this j (by omega)
abbrev ImG (x : ImpV) : Prop := x.md.size ≤ 1024 ∧ x.nm.size ≤ 1024 ∧ 0 ≤ x.ty ∧ x.ty ≤ 4294967295
theorem importsL_all {s : ByteArray} {e : Nat} : ∀ (k i : Nat) (f : Nat → ImpV) (p : Nat) {f' : Nat → ImpV} {q : Nat}, importsL s e k i f p = .ok f' q → (∀ j, j < i → ImG (f j)) → ∀ j, j < i + k → ImG (f' j)
  | 0, i, f, p, f', q, h, hf => by (first | (injection h with z__; injection z__ with h1 h2) | injection h with h1 h2); subst h1; exact hf
  | k + 1, i, f, p, f', q, h, hf => by
    obtain ⟨v0, q1, h1, h2⟩ := bind_ok h
    obtain ⟨v1, q2, h3, h4⟩ := bind_ok h2
    obtain ⟨u, q3, h5, h6⟩ := bind_ok h4
    obtain ⟨v3, q4, h7, h8⟩ := bind_ok h6
    have g1 := nameP_le h1; have g2 := nameP_le h3
    have hx : ImG ⟨v0, v1, v3⟩ := ⟨by show v0.size ≤ _; omega, by show v1.size ≤ _; omega, u32P_rng h7⟩
    have := importsL_all k (i + 1) _ _ h8 (upd_all hf hx)
    intro j hj; exact this j (by omega)
abbrev GlG (x : Glob) : Prop := 0 ≤ x.ty ∧ x.ty ≤ 255 ∧ InsIn x.init
theorem globsL_all {s : ByteArray} {e : Nat} : ∀ (k i : Nat) (f : Nat → Glob) (p : Nat) {f' : Nat → Glob} {q : Nat}, globsL s e k i f p = .ok f' q → (∀ j, j < i → GlG (f j)) → ∀ j, j < i + k → GlG (f' j)
  | 0, i, f, p, f', q, h, hf => by (first | (injection h with z__; injection z__ with h1 h2) | injection h with h1 h2); subst h1; exact hf
  | k + 1, i, f, p, f', q, h, hf => by
    obtain ⟨v0, q1, h1, h2⟩ := bind_ok h
    obtain ⟨v1, q2, h3, h4⟩ := bind_ok h2
    obtain ⟨v2, q3, h5, h6⟩ := bind_ok h4
    have g1 := valtypeP_rng h1
    have hx : GlG ⟨v0, v1 == 1, v2⟩ := ⟨by show _ ≤ v0; omega, by show v0 ≤ _; omega, constP_in h5⟩
    have := globsL_all k (i + 1) _ _ h6 (upd_all hf hx)
    intro j hj; exact this j (by omega)
abbrev ExG (x : ExpV) : Prop := x.nm.size ≤ 1024 ∧ 0 ≤ x.kind ∧ x.kind ≤ 255 ∧ 0 ≤ x.idx ∧ x.idx ≤ 4294967295
theorem exportsL_all {s : ByteArray} {e : Nat} : ∀ (k i : Nat) (f : Nat → ExpV) (p : Nat) {f' : Nat → ExpV} {q : Nat}, exportsL s e k i f p = .ok f' q → (∀ j, j < i → ExG (f j)) → ∀ j, j < i + k → ExG (f' j)
  | 0, i, f, p, f', q, h, hf => by (first | (injection h with z__; injection z__ with h1 h2) | injection h with h1 h2); subst h1; exact hf
  | k + 1, i, f, p, f', q, h, hf => by
    obtain ⟨v0, q1, h1, h2⟩ := bind_ok h
    obtain ⟨v1, q2, h3, h4⟩ := bind_ok h2
    obtain ⟨v2, q3, h5, h6⟩ := bind_ok h4
    have g1 := nameP_le h1; have g2 := flagP_rng h3; have g3 := u32P_rng h5
    have hx : ExG ⟨v0, v1, v2⟩ := ⟨by show v0.size ≤ _; omega, g2.1, g2.2, g3⟩
    have := exportsL_all k (i + 1) _ _ h6 (upd_all hf hx)
    intro j hj; exact this j (by omega)
abbrev DaG (x : DatV) : Prop := InsIn x.off ∧ x.bytes.size ≤ 1024
theorem datasL_all {s : ByteArray} {e : Nat} : ∀ (k i : Nat) (f : Nat → DatV) (p : Nat) {f' : Nat → DatV} {q : Nat}, datasL s e k i f p = .ok f' q → (∀ j, j < i → DaG (f j)) → ∀ j, j < i + k → DaG (f' j)
  | 0, i, f, p, f', q, h, hf => by (first | (injection h with z__; injection z__ with h1 h2) | injection h with h1 h2); subst h1; exact hf
  | k + 1, i, f, p, f', q, h, hf => by
    obtain ⟨u, q1, h1, h2⟩ := bind_ok h
    obtain ⟨v1, q2, h3, h4⟩ := bind_ok h2
    obtain ⟨v2, q3, h5, h6⟩ := bind_ok h4
    obtain ⟨v3, q4, h7, h8⟩ := bind_ok h6
    have g1 := countP_le h5; have g2 := takeP_le h7
    have hx : DaG ⟨v1, v3⟩ := ⟨constP_in h3, by show v3.size ≤ _; omega⟩
    have := datasL_all k (i + 1) _ _ h8 (upd_all hf hx)
    intro j hj; exact this j (by omega)
abbrev ElG (x : ElV) : Prop := InsIn x.off ∧ x.n ≤ 6 ∧ ∀ k, k < x.n → 0 ≤ x.fns k ∧ x.fns k ≤ 4294967295
theorem elemsL_all {s : ByteArray} {e : Nat} : ∀ (k i : Nat) (f : Nat → ElV) (p : Nat) {f' : Nat → ElV} {q : Nat}, elemsL s e k i f p = .ok f' q → (∀ j, j < i → ElG (f j)) → ∀ j, j < i + k → ElG (f' j)
  | 0, i, f, p, f', q, h, hf => by (first | (injection h with z__; injection z__ with h1 h2) | injection h with h1 h2); subst h1; exact hf
  | k + 1, i, f, p, f', q, h, hf => by
    obtain ⟨u, q1, h1, h2⟩ := bind_ok h
    obtain ⟨x, q2, h3, h4⟩ := bind_ok h2
    obtain ⟨n, q3, h5, h6⟩ := bind_ok h4
    obtain ⟨g, q4, h7, h8⟩ := bind_ok h6
    have g1 := countP_le h5
    have g2 := funcsL_all n 0 _ _ h7 (fun j hj => absurd hj (Nat.not_lt_zero j))
    have hx : ElG ⟨x, n, g⟩ := ⟨constP_in h3, by show n ≤ _; omega, fun k hk => g2 k (by show k < 0 + n; have : k < n := hk; omega)⟩
    have := elemsL_all k (i + 1) _ _ h8 (upd_all hf hx)
    intro j hj; exact this j (by omega)

/-! ### Bodies -/
/-- What the scratch holds while a body is read. -/
structure ScG (c : Sc) : Prop where
  nI : c.nI ≤ 96
  ins : ∀ k, k < c.nI → InsIn (c.ins k)
  nT : c.nTab ≤ 24
  tabs : ∀ k, k < c.nTab → W32 (c.tabs k)
/-- What the function section left. -/
def TyB (c : Sc) : Prop := c.nT ≤ 8 ∧ ∀ j, j < c.nT → W32 (c.types j)
theorem brL_g {s : ByteArray} {e : Nat} : ∀ (k : Nat) (c : Sc) (q : Nat) {c' : Sc} {q' : Nat}, brL s e k c q = .ok c' q' → ScG c → c.nTab + k ≤ 24 → ScG c' ∧ c'.nTab = c.nTab + k ∧ c'.types = c.types ∧ c'.nT = c.nT
  | 0, c, q, c', q', h, g, hk => by (first | (injection h with z__; injection z__ with h1 h2) | injection h with h1 h2); subst h1; exact ⟨g, rfl, rfl, rfl⟩
  | k + 1, c, q, c', q', h, g, hk => by
    obtain ⟨x, q1, h1, h2⟩ := bind_ok h
    have g' : ScG (c.tab x) := ⟨g.nI, g.ins, by show c.nTab + 1 ≤ 24; omega, upd_all g.tabs (u32P_rng h1)⟩
    obtain ⟨e1, e2, e3, e4⟩ := brL_g k (c.tab x) q1 h2 g' (by show c.nTab + 1 + k ≤ 24; omega)
    exact ⟨e1, by rw [e2]; show c.nTab + 1 + k = _; omega, e3, e4⟩
theorem restX_g {s : ByteArray} {e p q : Nat} {c : Sc} {op at_ : Int} {x : Ins × Sc} (ho : 0 ≤ op ∧ op ≤ 255) (g : ScG c) (h : restX s e c op at_ p = .ok x q) : InsIn x.1 ∧ ScG x.2 ∧ x.2.types = c.types ∧ x.2.nT = c.nT := by
  unfold restX at h
  split at h
  · obtain ⟨k, q1, h1, h2⟩ := bind_ok h
    obtain ⟨c', q2, h3, h4⟩ := bind_ok h2
    have hk := countP_le h1
    have hn := g.nT
    obtain ⟨e1, e2, e3, e4⟩ := brL_g (k + 1) c q1 h3 g (by omega)
    (first | (injection h4 with z__; injection z__ with h5 h6) | injection h4 with h5 h6); subst h5
    exact ⟨⟨by show (0 : Int) ≤ 14; decide, by show (14 : Int) ≤ 255; decide, Int.natCast_nonneg _, by show (c.nTab : Int) ≤ _; omega, Int.natCast_nonneg _, by show ((k + 1 : Nat) : Int) ≤ _; omega⟩, e1, e3, e4⟩
  · obtain ⟨i, q1, h1, h2⟩ := bind_ok h
    (first | (injection h2 with z__; injection z__ with h3 h4) | injection h2 with h3 h4); subst h3
    exact ⟨restP_in ho h1, g, rfl, rfl⟩
theorem more_g {c : Sc} {i : Ins} (g : ScG c) (hn : c.nI < 96) (hi : InsIn i) : ScG (c.more i) := ⟨by show c.nI + 1 ≤ 96; omega, upd_all g.ins hi, g.nT, g.tabs⟩
theorem bodyL_g {s : ByteArray} {e : Nat} : ∀ (k : Nat) (c : Sc) (p : Nat) {c' : Sc} {q : Nat}, bodyL s e k c p = .ok c' q → ScG c → ScG c' ∧ c'.types = c.types ∧ c'.nT = c.nT
  | 0, c, p, c', q, h, g => by cases h
  | k + 1, c, p, c', q, h, g => by
    haveI := outNil
    rw [bodyL_succ] at h
    obtain ⟨op, q1, h1, h2⟩ := bind_ok h
    obtain ⟨x, q2, h3, h4⟩ := bind_ok h2
    obtain ⟨g1, g2, g3, g4⟩ := restX_g (nextP_rng h1) g h3
    unfold bodyStep at h4
    split at h4
    · cases h4
    rename_i hn
    have gm := more_g g2 (by omega) g1
    split at h4
    · split at h4
      · cases h4
      · obtain ⟨e1, e2, e3⟩ := bodyL_g k _ _ h4 ⟨gm.nI, gm.ins, gm.nT, gm.tabs⟩
        exact ⟨e1, e2.trans g3, e3.trans g4⟩
    split at h4
    · split at h4
      · cases h4
      · obtain ⟨e1, e2, e3⟩ := bodyL_g k _ _ h4 ⟨gm.nI, gm.ins, gm.nT, gm.tabs⟩
        exact ⟨e1, e2.trans g3, e3.trans g4⟩
    split at h4
    · split at h4
      · (first | (injection h4 with z__; injection z__ with h5 h6) | injection h4 with h5 h6); subst h5; exact ⟨gm, g3, g4⟩
      · obtain ⟨e1, e2, e3⟩ := bodyL_g k _ _ h4 ⟨gm.nI, gm.ins, gm.nT, gm.tabs⟩
        exact ⟨e1, e2.trans g3, e3.trans g4⟩
    · obtain ⟨e1, e2, e3⟩ := bodyL_g k _ _ h4 gm
      exact ⟨e1, e2.trans g3, e3.trans g4⟩
theorem bodyP_g {s : ByteArray} {e p q : Nat} {c c' : Sc} (h : bodyP s e c p = .ok c' q) : ScG c' ∧ c'.types = c.types ∧ c'.nT = c.nT := by
  obtain ⟨e1, e2, e3⟩ := bodyL_g _ _ _ h ⟨Nat.zero_le _, fun k hk => absurd hk (Nat.not_lt_zero k), Nat.zero_le _, fun k hk => absurd hk (Nat.not_lt_zero k)⟩
  exact ⟨e1, e2, e3⟩
theorem localsL_g {s : ByteArray} {e : Nat} : ∀ (k : Nat) (acc : List Int) (p : Nat) {l : List Int} {q : Nat}, localsL s e k acc p = .ok l q → acc.length ≤ 6 → (∀ x, x ∈ acc → 0 ≤ x ∧ x < 128) → l.length ≤ 6 ∧ ∀ x, x ∈ l → 0 ≤ x ∧ x < 128
  | 0, acc, p, l, q, h, h6, ha => by (first | (injection h with z__; injection z__ with h1 h2) | injection h with h1 h2); subst h1; exact ⟨h6, ha⟩
  | k + 1, acc, p, l, q, h, h6, ha => by
    rw [localsL_succ] at h
    obtain ⟨n, q1, h1, h2⟩ := bind_ok h
    obtain ⟨t, q2, h3, h4⟩ := bind_ok h2
    have hn := countP_le h1
    have ht := valtypeP_rng h3
    refine localsL_g k _ _ h4 (by rw [List.length_append, List.length_replicate]; omega) (fun x hx => ?_)
    rcases List.mem_append.1 hx with g | g
    · exact ha x g
    · rw [List.mem_replicate] at g; omega
theorem asc_nums (l : List Int) (h : ∀ x, x ∈ l → 0 ≤ x ∧ x < 128) : Asc (strOfNums l) := by
  intro j hj
  rw [strOfNums_size] at hj
  unfold byteAt
  have e : (strOfNums l).data[j]? = some (UInt8.ofNat (l[j]).toNat) := by
    show ((l.map fun n => UInt8.ofNat n.toNat).toArray)[j]? = _
    rw [List.getElem?_toArray, List.getElem?_map, List.getElem?_eq_getElem hj]; rfl
  rw [Array.getD_eq_getD_getElem?, e, Option.getD_some, UInt8.toNat_ofNat']
  have := h l[j] (List.getElem_mem hj)
  omega
theorem localsP_g {s : ByteArray} {e p q : Nat} {l : List Int} (h : localsP s e p = .ok l q) : (strOfNums l).size ≤ 6 ∧ Asc (strOfNums l) := by
  obtain ⟨n, q1, h1, h2⟩ := bind_ok h
  obtain ⟨g1, g2⟩ := localsL_g n [] q1 h2 (by decide) (fun x hx => absurd hx List.not_mem_nil)
  exact ⟨by rw [strOfNums_size]; exact g1, asc_nums l g2⟩
theorem codesL_g {s : ByteArray} {e : Nat} : ∀ (k i : Nat) (c : Sc) (F : Nat → FnP) (p : Nat) {x : Sc × (Nat → FnP)} {q : Nat}, codesL s e k i c F p = .ok x q → TyB c → i + k ≤ c.nT → (∀ j, j < i → FnB (F j)) → TyB x.1 ∧ ∀ j, j < i + k → FnB (x.2 j)
  | 0, i, c, F, p, x, q, h, hc, hk, hF => by (first | (injection h with z__; injection z__ with h1 h2) | injection h with h1 h2); subst h1; exact ⟨hc, hF⟩
  | k + 1, i, c, F, p, x, q, h, hc, hk, hF => by
    haveI := outNil
    rw [codesL_succ] at h
    obtain ⟨n, q1, h1, h2⟩ := bind_ok h
    obtain ⟨ls, q2, h3, h4⟩ := bind_ok h2
    obtain ⟨c', q3, h5, h6⟩ := bind_ok h4
    split at h6
    · obtain ⟨g1, g2, g3⟩ := bodyP_g h5
      obtain ⟨l1, l2⟩ := localsP_g h3
      have hT := hc.2 i (by omega)
      have hx : FnB ⟨c.types i, ls, c'.nI, c'.ins, c'.nTab, c'.tabs⟩ := ⟨hT.1, hT.2, l1, l2, g1.nI, g1.ins, g1.nT, g1.tabs⟩
      have := codesL_g k (i + 1) c' _ _ h6 ⟨by rw [g3]; exact hc.1, by rw [g3, g2]; exact hc.2⟩ (by rw [g3]; omega) (upd_all hF hx)
      exact ⟨this.1, fun j hj => this.2 j (by omega)⟩
    · cases h6

/-! ### The module -/
theorem secP_pb {s : ByteArray} {e p q : Nat} {id : Int} {c : Sc} {P : PM} {x : Sc × PM} (h : secP s e id c P p = .ok x q) (hc : TyB c) (B : PB P) : TyB x.1 ∧ PB x.2 := by
  have no : ∀ {G : Nat → Prop}, ∀ j, j < 0 → G j := fun j hj => absurd hj (Nat.not_lt_zero j)
  unfold secP at h
  by_cases i1 : id = 1
  · rw [if_pos i1] at h
    obtain ⟨a, q1, h1, h2⟩ := bind_ok h
    obtain ⟨n, q2, h3, h4⟩ := bind_ok h1
    obtain ⟨f, q3, h5, h6⟩ := bind_ok h4
    have g := countP_le h3
    have all := typesL_all n 0 _ _ h5 no
    (first | (injection h6 with z__; injection z__ with h7 h8) | injection h6 with h7 h8); subst h7
    (first | (injection h2 with z__; injection z__ with h9 h10) | injection h2 with h9 h10); subst h9
    refine ⟨hc, ?_⟩
    show PB (if n = 0 then P else _)
    split
    · exact B
    · exact { B with nTy := (by show n ≤ 8; omega), ty := fun j hj => all j (by have : j < n := hj; omega) }
  rw [if_neg i1] at h
  by_cases i2 : id = 2
  · rw [if_pos i2] at h
    obtain ⟨a, q1, h1, h2⟩ := bind_ok h
    obtain ⟨n, q2, h3, h4⟩ := bind_ok h1
    obtain ⟨f, q3, h5, h6⟩ := bind_ok h4
    have g := countP_le h3
    have all := importsL_all n 0 _ _ h5 no
    (first | (injection h6 with z__; injection z__ with h7 h8) | injection h6 with h7 h8); subst h7
    (first | (injection h2 with z__; injection z__ with h9 h10) | injection h2 with h9 h10); subst h9
    refine ⟨hc, ?_⟩
    show PB (if n = 0 then P else _)
    split
    · exact B
    · exact { B with nIm := (by show n ≤ 4; omega), im := fun j hj => all j (by have : j < n := hj; omega) }
  rw [if_neg i2] at h
  by_cases i3 : id = 3
  · rw [if_pos i3] at h
    obtain ⟨a, q1, h1, h2⟩ := bind_ok h
    obtain ⟨n, q2, h3, h4⟩ := bind_ok h1
    obtain ⟨f, q3, h5, h6⟩ := bind_ok h4
    have g := countP_le h3
    have all := funcsL_all n 0 _ _ h5 no
    (first | (injection h6 with z__; injection z__ with h7 h8) | injection h6 with h7 h8); subst h7
    (first | (injection h2 with z__; injection z__ with h9 h10) | injection h2 with h9 h10); subst h9
    exact ⟨⟨by show n ≤ 8; omega, fun j hj => all j (by have : j < n := hj; omega)⟩, B⟩
  rw [if_neg i3] at h
  by_cases i4 : id = 4
  · rw [if_pos i4] at h
    obtain ⟨a, q1, h1, h2⟩ := bind_ok h
    obtain ⟨n, q2, h3, h4⟩ := bind_ok h1
    (first | (injection h2 with z__; injection z__ with h9 h10) | injection h2 with h9 h10); subst h9
    split at h4
    · obtain ⟨u, q3, h5, h6⟩ := bind_ok h4
      obtain ⟨y, q4, h7, h8⟩ := bind_ok h6
      obtain ⟨l1, l2⟩ := limitsP_rng h7
      (first | (injection h8 with z__; injection z__ with h11 h12) | injection h8 with h11 h12); subst h11
      exact ⟨hc, { B with t0 := l1, t1 := l2 }⟩
    · (first | (injection h4 with z__; injection z__ with h11 h12) | injection h4 with h11 h12); subst h11
      exact ⟨hc, B⟩
  rw [if_neg i4] at h
  by_cases i5 : id = 5
  · rw [if_pos i5] at h
    obtain ⟨a, q1, h1, h2⟩ := bind_ok h
    obtain ⟨n, q2, h3, h4⟩ := bind_ok h1
    (first | (injection h2 with z__; injection z__ with h9 h10) | injection h2 with h9 h10); subst h9
    split at h4
    · obtain ⟨y, q4, h7, h8⟩ := bind_ok h4
      obtain ⟨l1, l2⟩ := limitsP_rng h7
      (first | (injection h8 with z__; injection z__ with h11 h12) | injection h8 with h11 h12); subst h11
      exact ⟨hc, { B with m0 := l1, m1 := l2 }⟩
    · (first | (injection h4 with z__; injection z__ with h11 h12) | injection h4 with h11 h12); subst h11
      exact ⟨hc, B⟩
  rw [if_neg i5] at h
  by_cases i6 : id = 6
  · rw [if_pos i6] at h
    obtain ⟨a, q1, h1, h2⟩ := bind_ok h
    obtain ⟨n, q2, h3, h4⟩ := bind_ok h1
    obtain ⟨f, q3, h5, h6⟩ := bind_ok h4
    have g := countP_le h3
    have all := globsL_all n 0 _ _ h5 no
    (first | (injection h6 with z__; injection z__ with h7 h8) | injection h6 with h7 h8); subst h7
    (first | (injection h2 with z__; injection z__ with h9 h10) | injection h2 with h9 h10); subst h9
    refine ⟨hc, ?_⟩
    show PB (if n = 0 then P else _)
    split
    · exact B
    · exact { B with gn := (by show n ≤ 4; omega), g := fun j hj => all j (by have : j < n := hj; omega) }
  rw [if_neg i6] at h
  by_cases i7 : id = 7
  · rw [if_pos i7] at h
    obtain ⟨a, q1, h1, h2⟩ := bind_ok h
    obtain ⟨n, q2, h3, h4⟩ := bind_ok h1
    obtain ⟨f, q3, h5, h6⟩ := bind_ok h4
    have g := countP_le h3
    have all := exportsL_all n 0 _ _ h5 no
    (first | (injection h6 with z__; injection z__ with h7 h8) | injection h6 with h7 h8); subst h7
    (first | (injection h2 with z__; injection z__ with h9 h10) | injection h2 with h9 h10); subst h9
    refine ⟨hc, ?_⟩
    show PB (if n = 0 then P else _)
    split
    · exact B
    · exact { B with nEx := (by show n ≤ 6; omega), ex := fun j hj => all j (by have : j < n := hj; omega) }
  rw [if_neg i7] at h
  by_cases i8 : id = 8
  · rw [if_pos i8] at h
    obtain ⟨n, q1, h1, h2⟩ := bind_ok h
    have g := u32P_rng h1
    (first | (injection h2 with z__; injection z__ with h9 h10) | injection h2 with h9 h10); subst h9
    exact ⟨hc, { B with s0 := ⟨by show _ ≤ n; omega, g.2⟩ }⟩
  rw [if_neg i8] at h
  by_cases i9 : id = 9
  · rw [if_pos i9] at h
    obtain ⟨a, q1, h1, h2⟩ := bind_ok h
    obtain ⟨n, q2, h3, h4⟩ := bind_ok h1
    obtain ⟨f, q3, h5, h6⟩ := bind_ok h4
    have g := countP_le h3
    have all := elemsL_all n 0 _ _ h5 no
    (first | (injection h6 with z__; injection z__ with h7 h8) | injection h6 with h7 h8); subst h7
    (first | (injection h2 with z__; injection z__ with h9 h10) | injection h2 with h9 h10); subst h9
    refine ⟨hc, ?_⟩
    show PB (if n = 0 then P else _)
    split
    · exact B
    · exact { B with nEl := (by show n ≤ 3; omega), el := fun j hj => all j (by have : j < n := hj; omega) }
  rw [if_neg i9] at h
  by_cases i10 : id = 10
  · rw [if_pos i10] at h
    obtain ⟨a, q1, h1, h2⟩ := bind_ok h
    obtain ⟨n, q2, h3, h4⟩ := bind_ok h1
    have g := countP_le h3
    split at h4
    · rename_i hnT
      obtain ⟨y, q3, h5, h6⟩ := bind_ok h4
      obtain ⟨all1, all2⟩ := codesL_g n 0 c _ _ h5 hc (by omega) no
      (first | (injection h6 with z__; injection z__ with h7 h8) | injection h6 with h7 h8); subst h7
      (first | (injection h2 with z__; injection z__ with h9 h10) | injection h2 with h9 h10); subst h9
      refine ⟨all1, ?_⟩
      show PB (if n = 0 then P else _)
      split
      · exact B
      · exact { B with nf := (by show n ≤ 8; omega), fn := fun j hj => all2 j (by have : j < n := hj; omega) }
    · cases h4
  · rw [if_neg i10] at h
    obtain ⟨a, q1, h1, h2⟩ := bind_ok h
    obtain ⟨n, q2, h3, h4⟩ := bind_ok h1
    obtain ⟨f, q3, h5, h6⟩ := bind_ok h4
    have g := countP_le h3
    have all := datasL_all n 0 _ _ h5 no
    (first | (injection h6 with z__; injection z__ with h7 h8) | injection h6 with h7 h8); subst h7
    (first | (injection h2 with z__; injection z__ with h9 h10) | injection h2 with h9 h10); subst h9
    refine ⟨hc, ?_⟩
    show PB (if n = 0 then P else _)
    split
    · exact B
    · exact { B with nD := (by show n ≤ 3; omega), da := fun j hj => all j (by have : j < n := hj; omega) }
theorem decL_pb {s : ByteArray} : ∀ (k : Nat) (last : Int) (c : Sc) (P : PM) (p : Nat) {x : Sc × PM} {q : Nat}, decL s k last c P p = .ok x q → TyB c → PB P → PB x.2
  | 0, last, c, P, p, x, q, h, _, _ => by cases h
  | k + 1, last, c, P, p, x, q, h, hc, B => by
    haveI := outNil
    rw [decL_succ] at h
    split at h
    · obtain ⟨id, q1, h1, h2⟩ := bind_ok h
      split at h2
      · cases h2
      obtain ⟨n, q2, h3, h4⟩ := bind_ok h2
      obtain ⟨y, q3, h5, h6⟩ := bind_ok h4
      split at h6
      · obtain ⟨g1, g2⟩ := secP_pb h5 hc B
        exact decL_pb k _ _ _ _ h6 g1 g2
      · cases h6
    · split at h
      · (first | (injection h with z__; injection z__ with h1 h2) | injection h with h1 h2); subst h1; exact B
      · cases h
theorem pm0_pb : PB pm0 := by
  have no : ∀ {G : Nat → Prop}, ∀ j, j < 0 → G j := fun j hj => absurd hj (Nat.not_lt_zero j)
  have m1 : (-1 : Int) ≤ -1 ∧ (-1 : Int) ≤ 4294967295 := ⟨by decide, by decide⟩
  exact ⟨Nat.zero_le _, no, Nat.zero_le _, no, Nat.zero_le _, no, m1, m1, m1, m1, Nat.zero_le _, no, Nat.zero_le _, no, m1, Nat.zero_le _, no, Nat.zero_le _, no⟩
/-- A decoded module keeps within its bounds. -/
theorem decP_pb {s : ByteArray} {c : Sc} {x : Sc × PM} {q : Nat} (h : decP s c = .ok x q) : PB x.2 :=
  decL_pb _ _ _ _ _ h ⟨Nat.zero_le _, fun j hj => absurd hj (Nat.not_lt_zero j)⟩ pm0_pb

end Go.Proofs.Qxb6500316a
