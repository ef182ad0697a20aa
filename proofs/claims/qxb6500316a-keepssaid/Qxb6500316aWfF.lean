/-
  What was decoded is well formed: the module.
-/
import Derived.Test.Qxb6500316aWfE
set_option linter.unusedSimpArgs false
set_option linter.unusedVariables false
set_option maxRecDepth 100000
namespace Go.Proofs.Qxb6500316a
open Go Go.Vc

/-! ### Types -/
theorem valtypesL_vt {s : ByteArray} {e : Nat} : ∀ (k p : Nat) {q : Nat}, valtypesL s e k p = .ok () q → q = p + k ∧ ∀ j, p ≤ j → j < p + k → VT (byteAt s j)
  | 0, p, q, h => by (first | (injection h with z__; injection z__ with h1 h2) | injection h with h1 h2); exact ⟨by omega, fun j h1 h2 => by omega⟩
  | k + 1, p, q, h => by
    obtain ⟨t, q1, h1, h2⟩ := bind_ok h
    obtain ⟨g1, g2, g3, g4⟩ := valtypeP_rng h1
    obtain ⟨e1, e2⟩ := valtypesL_vt k q1 h2
    refine ⟨by omega, fun j hj hk => ?_⟩
    by_cases hjp : j = p
    · subst hjp; rw [← g4]; exact ⟨g1, g2⟩
    · exact e2 j (by omega) (by omega)
theorem valtypesP_vals {s : ByteArray} {e p q : Nat} {mI : Int} {max : Nat} {x : ByteArray} (em : mI = (max : Int)) (h : valtypesP s e mI p = .ok x q) : Vals x max := by
  obtain ⟨n, q1, h1, h2⟩ := bind_ok h
  obtain ⟨u, q2, h3, h4⟩ := bind_ok h2
  have hn := countP_le h1
  obtain ⟨e1, e2⟩ := valtypesL_vt n q1 h3
  (first | (injection h4 with z__; injection z__ with h5 h6) | injection h4 with h5 h6); subst h5
  refine ⟨by rw [ByteArray.size_extract]; omega, fun k hk => ?_⟩
  rw [byteAt_extract _ _ _ _ hk]
  rw [ByteArray.size_extract] at hk
  exact e2 _ (by omega) (by omega)
theorem splitF_at (t : ByteArray) (a : Nat) (ha : a < t.size) (hc : byteAt t a = 58) (hn : ∀ j, j < a → byteAt t j ≠ 58) : ∀ (k i : Nat), i + k = t.size → i ≤ a → splitF t k i = (t.extract 0 a, t.extract (a + 1) t.size)
  | 0, i, h, hi => by omega
  | k + 1, i, h, hi => by
    rw [splitF_succ]
    by_cases hia : i = a
    · subst hia; rw [if_pos hc]
    · rw [if_neg (hn i (by omega))]
      exact splitF_at t a ha hc hn k (i + 1) (by omega) (by omega)
theorem type_split {a z : ByteArray} (ha : Vals a 4) (hz : Vals z 1) : splitP ((a ++ (⟨#[58]⟩ : ByteArray)) ++ z) = (a, z) ∧ ((a ++ (⟨#[58]⟩ : ByteArray)) ++ z).size = a.size + 1 + z.size := by
  have h1 : (⟨#[58]⟩ : ByteArray).size = 1 := rfl
  have hs : ((a ++ (⟨#[58]⟩ : ByteArray)) ++ z).size = a.size + 1 + z.size := by rw [ByteArray.size_append, ByteArray.size_append, h1]
  have ext : ∀ {x y : ByteArray}, x.size = y.size → (∀ j, j < x.size → byteAt x j = byteAt y j) → x = y := by
    intro x y h1 h2
    apply ByteArray.ext
    apply Array.ext
    · exact h1
    · intro j hj hj'
      have := h2 j hj
      unfold byteAt at this
      rw [Array.getD_eq_getD_getElem?, Array.getD_eq_getD_getElem?, Array.getElem?_eq_getElem hj, Array.getElem?_eq_getElem hj'] at this
      simp only [Option.getD_some] at this
      exact UInt8.toNat_inj.1 (by omega)
  refine ⟨?_, hs⟩
  unfold splitP
  rw [splitF_at _ a.size (by omega) (by rw [byteAt_append, if_pos (by rw [ByteArray.size_append, h1]; omega), byteAt_append, if_neg (by omega), Nat.sub_self]; rfl) (fun j hj => by
    rw [byteAt_append, if_pos (by rw [ByteArray.size_append, h1]; omega), byteAt_append, if_pos hj]
    have := ha.2 j hj; omega) _ 0 (by omega) (Nat.zero_le _)]
  refine Prod.ext (ext (by show _ = a.size; rw [ByteArray.size_extract]; omega) (fun j hj => ?_)) (ext (by show _ = z.size; rw [ByteArray.size_extract]; omega) (fun j hj => ?_))
  · show byteAt (ByteArray.extract _ 0 a.size) j = byteAt a j
    rw [byteAt_extract _ _ _ _ hj]
    rw [ByteArray.size_extract] at hj
    rw [Nat.zero_add, byteAt_append, if_pos (by rw [ByteArray.size_append, h1]; omega), byteAt_append, if_pos (by omega)]
  · show byteAt (ByteArray.extract _ (a.size + 1) _) j = byteAt z j
    rw [byteAt_extract _ _ _ _ hj]
    rw [ByteArray.size_extract] at hj
    rw [byteAt_append, if_neg (by rw [ByteArray.size_append, h1]; omega), ByteArray.size_append, h1, show a.size + 1 + j - (a.size + 1) = j by omega]
abbrev TyW (t : ByteArray) : Prop := (splitP t).1.size + (splitP t).2.size + 1 = t.size ∧ Vals (splitP t).1 4 ∧ Vals (splitP t).2 1
theorem typesL_wf {s : ByteArray} {e : Nat} : ∀ (k i : Nat) (f : Nat → ByteArray) (p : Nat) {f' : Nat → ByteArray} {q : Nat}, typesL s e k i f p = .ok f' q → (∀ j, j < i → TyW (f j)) → ∀ j, j < i + k → TyW (f' j)
  | 0, i, f, p, f', q, h, hf => by (first | (injection h with z__; injection z__ with h1 h2) | injection h with h1 h2); subst h1; exact hf
  | k + 1, i, f, p, f', q, h, hf => by
    obtain ⟨u, q1, h1, h2⟩ := bind_ok h
    obtain ⟨a, q2, h3, h4⟩ := bind_ok h2
    obtain ⟨z, q3, h5, h6⟩ := bind_ok h4
    have va := valtypesP_vals (max := 4) rfl h3
    have vz := valtypesP_vals (max := 1) rfl h5
    obtain ⟨e1, e2⟩ := type_split va vz
    have hx : TyW ((a ++ (⟨#[58]⟩ : ByteArray)) ++ z) := by
      unfold TyW
      rw [e1, e2]
      exact ⟨by show a.size + z.size + 1 = _; omega, va, vz⟩
    have := typesL_wf k (i + 1) _ _ h6 (upd_all hf hx)
    intro j hj; exact this j (by omega)
abbrev ImW (x : ImpV) : Prop := x.md.size ≤ 8 ∧ x.nm.size ≤ 8
theorem importsL_wf {s : ByteArray} {e : Nat} : ∀ (k i : Nat) (f : Nat → ImpV) (p : Nat) {f' : Nat → ImpV} {q : Nat}, importsL s e k i f p = .ok f' q → (∀ j, j < i → ImW (f j)) → ∀ j, j < i + k → ImW (f' j)
  | 0, i, f, p, f', q, h, hf => by (first | (injection h with z__; injection z__ with h1 h2) | injection h with h1 h2); subst h1; exact hf
  | k + 1, i, f, p, f', q, h, hf => by
    obtain ⟨v0, q1, h1, h2⟩ := bind_ok h
    obtain ⟨v1, q2, h3, h4⟩ := bind_ok h2
    obtain ⟨u, q3, h5, h6⟩ := bind_ok h4
    obtain ⟨v3, q4, h7, h8⟩ := bind_ok h6
    have hx : ImW ⟨v0, v1, v3⟩ := ⟨nameP_le h1, nameP_le h3⟩
    have := importsL_wf k (i + 1) _ _ h8 (upd_all hf hx)
    intro j hj; exact this j (by omega)
abbrev GlW (x : Glob) : Prop := VT x.ty ∧ Kon x.init
theorem globsL_wf {s : ByteArray} {e : Nat} : ∀ (k i : Nat) (f : Nat → Glob) (p : Nat) {f' : Nat → Glob} {q : Nat}, globsL s e k i f p = .ok f' q → (∀ j, j < i → GlW (f j)) → ∀ j, j < i + k → GlW (f' j)
  | 0, i, f, p, f', q, h, hf => by (first | (injection h with z__; injection z__ with h1 h2) | injection h with h1 h2); subst h1; exact hf
  | k + 1, i, f, p, f', q, h, hf => by
    obtain ⟨v0, q1, h1, h2⟩ := bind_ok h
    obtain ⟨v1, q2, h3, h4⟩ := bind_ok h2
    obtain ⟨v2, q3, h5, h6⟩ := bind_ok h4
    have g1 := valtypeP_rng h1
    have hx : GlW ⟨v0, v1 == 1, v2⟩ := ⟨⟨g1.1, g1.2.1⟩, constP_kon h5⟩
    have := globsL_wf k (i + 1) _ _ h6 (upd_all hf hx)
    intro j hj; exact this j (by omega)
theorem flagP_le {s : ByteArray} {e p : Nat} {max c : Int} {q : Nat} (h : flagP s e max p = .ok c q) : c ≤ max := by
  obtain ⟨a, q', h1, h2⟩ := bind_ok h
  split at h2
  · cases h2
  · (first | (injection h2 with z__; injection z__ with h3 h4) | injection h2 with h3 h4); subst h3; omega
abbrev ExW (x : ExpV) : Prop := x.nm.size ≤ 8 ∧ x.kind ≤ 3
theorem exportsL_wf {s : ByteArray} {e : Nat} : ∀ (k i : Nat) (f : Nat → ExpV) (p : Nat) {f' : Nat → ExpV} {q : Nat}, exportsL s e k i f p = .ok f' q → (∀ j, j < i → ExW (f j)) → ∀ j, j < i + k → ExW (f' j)
  | 0, i, f, p, f', q, h, hf => by (first | (injection h with z__; injection z__ with h1 h2) | injection h with h1 h2); subst h1; exact hf
  | k + 1, i, f, p, f', q, h, hf => by
    obtain ⟨v0, q1, h1, h2⟩ := bind_ok h
    obtain ⟨v1, q2, h3, h4⟩ := bind_ok h2
    obtain ⟨v2, q3, h5, h6⟩ := bind_ok h4
    have hx : ExW ⟨v0, v1, v2⟩ := ⟨nameP_le h1, flagP_le h3⟩
    have := exportsL_wf k (i + 1) _ _ h6 (upd_all hf hx)
    intro j hj; exact this j (by omega)
abbrev DaW (x : DatV) : Prop := Kon x.off ∧ x.bytes.size ≤ 24
theorem datasL_wf {s : ByteArray} {e : Nat} : ∀ (k i : Nat) (f : Nat → DatV) (p : Nat) {f' : Nat → DatV} {q : Nat}, datasL s e k i f p = .ok f' q → (∀ j, j < i → DaW (f j)) → ∀ j, j < i + k → DaW (f' j)
  | 0, i, f, p, f', q, h, hf => by (first | (injection h with z__; injection z__ with h1 h2) | injection h with h1 h2); subst h1; exact hf
  | k + 1, i, f, p, f', q, h, hf => by
    obtain ⟨u, q1, h1, h2⟩ := bind_ok h
    obtain ⟨v1, q2, h3, h4⟩ := bind_ok h2
    obtain ⟨v2, q3, h5, h6⟩ := bind_ok h4
    obtain ⟨v3, q4, h7, h8⟩ := bind_ok h6
    have g1 := countP_le h5; have g2 := takeP_le h7
    have hx : DaW ⟨v1, v3⟩ := ⟨constP_kon h3, by show v3.size ≤ _; omega⟩
    have := datasL_wf k (i + 1) _ _ h8 (upd_all hf hx)
    intro j hj; exact this j (by omega)
theorem elemsL_wf {s : ByteArray} {e : Nat} : ∀ (k i : Nat) (f : Nat → ElV) (p : Nat) {f' : Nat → ElV} {q : Nat}, elemsL s e k i f p = .ok f' q → (∀ j, j < i → Kon (f j).off) → ∀ j, j < i + k → Kon (f' j).off
  | 0, i, f, p, f', q, h, hf => by (first | (injection h with z__; injection z__ with h1 h2) | injection h with h1 h2); subst h1; exact hf
  | k + 1, i, f, p, f', q, h, hf => by
    obtain ⟨u, q1, h1, h2⟩ := bind_ok h
    obtain ⟨x, q2, h3, h4⟩ := bind_ok h2
    obtain ⟨n, q3, h5, h6⟩ := bind_ok h4
    obtain ⟨g, q4, h7, h8⟩ := bind_ok h6
    have := elemsL_wf k (i + 1) _ _ h8 (upd_all (G := fun y : ElV => Kon y.off) hf (constP_kon h3))
    intro j hj; exact this j (by omega)
theorem limitsP_lim {s : ByteArray} {e p q : Nat} {x : Int × Int} (h : limitsP s e p = .ok x q) : Lim x.1 x.2 := by
  obtain ⟨f, q1, h1, h2⟩ := bind_ok h
  obtain ⟨lo, q2, h3, h4⟩ := bind_ok h2
  have g1 := u32P_rng h3
  split at h4
  · (first | (injection h4 with z__; injection z__ with h5 h6) | injection h4 with h5 h6); subst h5; exact .inr ⟨g1, .inl rfl⟩
  · obtain ⟨hi, q3, h5, h6⟩ := bind_ok h4
    have g2 := u32P_rng h5
    (first | (injection h6 with z__; injection z__ with h7 h8) | injection h6 with h7 h8); subst h7; exact .inr ⟨g1, .inr g2⟩

/-! ### Functions -/
theorem localsL_vt {s : ByteArray} {e : Nat} : ∀ (k : Nat) (acc : List Int) (p : Nat) {l : List Int} {q : Nat}, localsL s e k acc p = .ok l q → (∀ x, x ∈ acc → VT x) → ∀ x, x ∈ l → VT x
  | 0, acc, p, l, q, h, ha => by (first | (injection h with z__; injection z__ with h1 h2) | injection h with h1 h2); subst h1; exact ha
  | k + 1, acc, p, l, q, h, ha => by
    rw [localsL_succ] at h
    obtain ⟨n, q1, h1, h2⟩ := bind_ok h
    obtain ⟨t, q2, h3, h4⟩ := bind_ok h2
    have ht := valtypeP_rng h3
    refine localsL_vt k _ _ h4 (fun x hx => ?_)
    rcases List.mem_append.1 hx with g | g
    · exact ha x g
    · rw [List.mem_replicate] at g; exact ⟨by omega, by omega⟩
theorem byteAt_nums (l : List Int) (h : ∀ x, x ∈ l → VT x) (j : Nat) (hj : j < l.length) : byteAt (strOfNums l) j = l[j] := by
  unfold byteAt
  have e : (strOfNums l).data[j]? = some (UInt8.ofNat (l[j]).toNat) := by
    show ((l.map fun n => UInt8.ofNat n.toNat).toArray)[j]? = _
    rw [List.getElem?_toArray, List.getElem?_map, List.getElem?_eq_getElem hj]; rfl
  rw [Array.getD_eq_getD_getElem?, e, Option.getD_some, UInt8.toNat_ofNat']
  have := h l[j] (List.getElem_mem hj)
  omega
theorem localsP_vals {s : ByteArray} {e p q : Nat} {l : List Int} (h : localsP s e p = .ok l q) : Vals (strOfNums l) 6 := by
  have h6 := (localsP_g h).1
  obtain ⟨n, q1, h1, h2⟩ := bind_ok h
  have hv := localsL_vt n [] q1 h2 (fun x hx => absurd hx List.not_mem_nil)
  refine ⟨h6, fun j hj => ?_⟩
  rw [strOfNums_size] at hj
  rw [byteAt_nums l hv j hj]
  exact hv _ (List.getElem_mem hj)
theorem localsP_vt {s : ByteArray} {e p q : Nat} {l : List Int} (h : localsP s e p = .ok l q) : ∀ x, x ∈ l → VT x := by
  obtain ⟨n, q1, h1, h2⟩ := bind_ok h
  exact localsL_vt n [] q1 h2 (fun x hx => absurd hx List.not_mem_nil)
theorem codesL_wf {s : ByteArray} {e : Nat} : ∀ (k i : Nat) (c : Sc) (F : Nat → FnP) (p : Nat) {x : Sc × (Nat → FnP)} {q : Nat}, codesL s e k i c F p = .ok x q → TyB c → i + k ≤ c.nT → (∀ j, j < i → FnWF (F j)) → ∀ j, j < i + k → FnWF (x.2 j)
  | 0, i, c, F, p, x, q, h, hc, hk, hF => by (first | (injection h with z__; injection z__ with h1 h2) | injection h with h1 h2); subst h1; exact hF
  | k + 1, i, c, F, p, x, q, h, hc, hk, hF => by
    haveI := outNil
    rw [codesL_succ] at h
    obtain ⟨n, q1, h1, h2⟩ := bind_ok h
    obtain ⟨ls, q2, h3, h4⟩ := bind_ok h2
    obtain ⟨c', q3, h5, h6⟩ := bind_ok h4
    split at h6
    · obtain ⟨g1, g2, g3⟩ := bodyP_g h5
      obtain ⟨l1, l2⟩ := localsP_g h3
      have hT := hc.2 i (by omega)
      have hx : FnB ⟨c.types i, ls, c'.nI, c'.ins, c'.nTab, c'.tabs⟩ := ⟨hT.1, hT.2, l1, l2, g1.nI, g1.ins, g1.nT, g1.tabs⟩
      obtain ⟨w1, w2⟩ := bodyP_wf h5
      have hw : FnWF ⟨c.types i, ls, c'.nI, c'.ins, c'.nTab, c'.tabs⟩ := ⟨hx, localsP_vals h3, localsP_vt h3, w1, w2⟩
      have := codesL_wf k (i + 1) c' _ _ h6 ⟨by rw [g3]; exact hc.1, by rw [g3, g2]; exact hc.2⟩ (by rw [g3]; omega) (upd_all hF hw)
      exact fun j hj => this j (by omega)
    · cases h6

/-! ### The module -/
theorem secP_wf {s : ByteArray} {e p q : Nat} {id : Int} {c : Sc} {P : PM} {x : Sc × PM} (h : secP s e id c P p = .ok x q) (hc : TyB c) (F : WFP P) : WFP x.2 := by
  have pb := (secP_pb h hc F.pb).2
  have no : ∀ {G : Nat → Prop}, ∀ j, j < 0 → G j := fun j hj => absurd hj (Nat.not_lt_zero j)
  unfold secP at h
  by_cases i1 : id = 1
  · rw [if_pos i1] at h
    obtain ⟨a, q1, h1, h2⟩ := bind_ok h
    obtain ⟨n, q2, h3, h4⟩ := bind_ok h1
    obtain ⟨f, q3, h5, h6⟩ := bind_ok h4
    have all := typesL_wf n 0 _ _ h5 no
    (first | (injection h6 with z__; injection z__ with h7 h8) | injection h6 with h7 h8); subst h7
    (first | (injection h2 with z__; injection z__ with h9 h10) | injection h2 with h9 h10); subst h9
    have pb : PB (if n = 0 then P else _) := pb
    show WFP (if n = 0 then P else _)
    split at pb
    · rename_i g; rw [if_pos g]; exact F
    · rename_i g; rw [if_neg g]
      exact { F with pb := pb, ty := fun j hj => all j (by have : j < n := hj; omega) }
  rw [if_neg i1] at h
  by_cases i2 : id = 2
  · rw [if_pos i2] at h
    obtain ⟨a, q1, h1, h2⟩ := bind_ok h
    obtain ⟨n, q2, h3, h4⟩ := bind_ok h1
    obtain ⟨f, q3, h5, h6⟩ := bind_ok h4
    have all := importsL_wf n 0 _ _ h5 no
    (first | (injection h6 with z__; injection z__ with h7 h8) | injection h6 with h7 h8); subst h7
    (first | (injection h2 with z__; injection z__ with h9 h10) | injection h2 with h9 h10); subst h9
    have pb : PB (if n = 0 then P else _) := pb
    show WFP (if n = 0 then P else _)
    split at pb
    · rename_i g; rw [if_pos g]; exact F
    · rename_i g; rw [if_neg g]
      exact { F with pb := pb, im := fun j hj => all j (by have : j < n := hj; omega) }
  rw [if_neg i2] at h
  by_cases i3 : id = 3
  · rw [if_pos i3] at h
    obtain ⟨a, q1, h1, h2⟩ := bind_ok h
    (first | (injection h2 with z__; injection z__ with h9 h10) | injection h2 with h9 h10); subst h9
    exact F
  rw [if_neg i3] at h
  by_cases i4 : id = 4
  · rw [if_pos i4] at h
    obtain ⟨a, q1, h1, h2⟩ := bind_ok h
    obtain ⟨n, q2, h3, h4⟩ := bind_ok h1
    (first | (injection h2 with z__; injection z__ with h9 h10) | injection h2 with h9 h10); subst h9
    split at h4
    · obtain ⟨u, q3, h5, h6⟩ := bind_ok h4
      obtain ⟨y, q4, h7, h8⟩ := bind_ok h6
      have l1 := limitsP_lim h7
      (first | (injection h8 with z__; injection z__ with h11 h12) | injection h8 with h11 h12); subst h11
      exact { F with pb := pb, tl := l1 }
    · (first | (injection h4 with z__; injection z__ with h11 h12) | injection h4 with h11 h12); subst h11
      exact F
  rw [if_neg i4] at h
  by_cases i5 : id = 5
  · rw [if_pos i5] at h
    obtain ⟨a, q1, h1, h2⟩ := bind_ok h
    obtain ⟨n, q2, h3, h4⟩ := bind_ok h1
    (first | (injection h2 with z__; injection z__ with h9 h10) | injection h2 with h9 h10); subst h9
    split at h4
    · obtain ⟨y, q4, h7, h8⟩ := bind_ok h4
      have l1 := limitsP_lim h7
      (first | (injection h8 with z__; injection z__ with h11 h12) | injection h8 with h11 h12); subst h11
      exact { F with pb := pb, ml := l1 }
    · (first | (injection h4 with z__; injection z__ with h11 h12) | injection h4 with h11 h12); subst h11
      exact F
  rw [if_neg i5] at h
  by_cases i6 : id = 6
  · rw [if_pos i6] at h
    obtain ⟨a, q1, h1, h2⟩ := bind_ok h
    obtain ⟨n, q2, h3, h4⟩ := bind_ok h1
    obtain ⟨f, q3, h5, h6⟩ := bind_ok h4
    have all := globsL_wf n 0 _ _ h5 no
    (first | (injection h6 with z__; injection z__ with h7 h8) | injection h6 with h7 h8); subst h7
    (first | (injection h2 with z__; injection z__ with h9 h10) | injection h2 with h9 h10); subst h9
    have pb : PB (if n = 0 then P else _) := pb
    show WFP (if n = 0 then P else _)
    split at pb
    · rename_i g; rw [if_pos g]; exact F
    · rename_i g; rw [if_neg g]
      exact { F with pb := pb, g := fun j hj => all j (by have : j < n := hj; omega) }
  rw [if_neg i6] at h
  by_cases i7 : id = 7
  · rw [if_pos i7] at h
    obtain ⟨a, q1, h1, h2⟩ := bind_ok h
    obtain ⟨n, q2, h3, h4⟩ := bind_ok h1
    obtain ⟨f, q3, h5, h6⟩ := bind_ok h4
    have all := exportsL_wf n 0 _ _ h5 no
    (first | (injection h6 with z__; injection z__ with h7 h8) | injection h6 with h7 h8); subst h7
    (first | (injection h2 with z__; injection z__ with h9 h10) | injection h2 with h9 h10); subst h9
    have pb : PB (if n = 0 then P else _) := pb
    show WFP (if n = 0 then P else _)
    split at pb
    · rename_i g; rw [if_pos g]; exact F
    · rename_i g; rw [if_neg g]
      exact { F with pb := pb, ex := fun j hj => all j (by have : j < n := hj; omega) }
  rw [if_neg i7] at h
  by_cases i8 : id = 8
  · rw [if_pos i8] at h
    obtain ⟨n, q1, h1, h2⟩ := bind_ok h
    (first | (injection h2 with z__; injection z__ with h9 h10) | injection h2 with h9 h10); subst h9
    exact { F with pb := pb }
  rw [if_neg i8] at h
  by_cases i9 : id = 9
  · rw [if_pos i9] at h
    obtain ⟨a, q1, h1, h2⟩ := bind_ok h
    obtain ⟨n, q2, h3, h4⟩ := bind_ok h1
    obtain ⟨f, q3, h5, h6⟩ := bind_ok h4
    have all := elemsL_wf n 0 _ _ h5 no
    (first | (injection h6 with z__; injection z__ with h7 h8) | injection h6 with h7 h8); subst h7
    (first | (injection h2 with z__; injection z__ with h9 h10) | injection h2 with h9 h10); subst h9
    have pb : PB (if n = 0 then P else _) := pb
    show WFP (if n = 0 then P else _)
    split at pb
    · rename_i g; rw [if_pos g]; exact F
    · rename_i g; rw [if_neg g]
      exact { F with pb := pb, el := fun j hj => all j (by have : j < n := hj; omega) }
  rw [if_neg i9] at h
  by_cases i10 : id = 10
  · rw [if_pos i10] at h
    obtain ⟨a, q1, h1, h2⟩ := bind_ok h
    obtain ⟨n, q2, h3, h4⟩ := bind_ok h1
    split at h4
    · rename_i hnT
      obtain ⟨y, q3, h5, h6⟩ := bind_ok h4
      have all := codesL_wf n 0 c _ _ h5 hc (by omega) no
      (first | (injection h6 with z__; injection z__ with h7 h8) | injection h6 with h7 h8); subst h7
      (first | (injection h2 with z__; injection z__ with h9 h10) | injection h2 with h9 h10); subst h9
      have pb : PB (if n = 0 then P else _) := pb
      show WFP (if n = 0 then P else _)
      split at pb
      · rename_i g; rw [if_pos g]; exact F
      · rename_i g; rw [if_neg g]
        exact { F with pb := pb, fn := fun j hj => all j (by have : j < n := hj; omega) }
    · cases h4
  rw [if_neg i10] at h
  · obtain ⟨a, q1, h1, h2⟩ := bind_ok h
    obtain ⟨n, q2, h3, h4⟩ := bind_ok h1
    obtain ⟨f, q3, h5, h6⟩ := bind_ok h4
    have all := datasL_wf n 0 _ _ h5 no
    (first | (injection h6 with z__; injection z__ with h7 h8) | injection h6 with h7 h8); subst h7
    (first | (injection h2 with z__; injection z__ with h9 h10) | injection h2 with h9 h10); subst h9
    have pb : PB (if n = 0 then P else _) := pb
    show WFP (if n = 0 then P else _)
    split at pb
    · rename_i g; rw [if_pos g]; exact F
    · rename_i g; rw [if_neg g]
      exact { F with pb := pb, da := fun j hj => all j (by have : j < n := hj; omega) }
theorem decL_wf {s : ByteArray} : ∀ (k : Nat) (last : Int) (c : Sc) (P : PM) (p : Nat) {x : Sc × PM} {q : Nat}, decL s k last c P p = .ok x q → TyB c → WFP P → WFP x.2
  | 0, last, c, P, p, x, q, h, _, _ => by cases h
  | k + 1, last, c, P, p, x, q, h, hc, F => by
    haveI := outNil
    rw [decL_succ] at h
    split at h
    · obtain ⟨id, q1, h1, h2⟩ := bind_ok h
      split at h2
      · cases h2
      obtain ⟨n, q2, h3, h4⟩ := bind_ok h2
      obtain ⟨y, q3, h5, h6⟩ := bind_ok h4
      split at h6
      · exact decL_wf k _ _ _ _ h6 (secP_pb h5 hc F.pb).1 (secP_wf h5 hc F)
      · cases h6
    · split at h
      · (first | (injection h with z__; injection z__ with h1 h2) | injection h with h1 h2); subst h1; exact F
      · cases h
theorem pm0_wf : WFP pm0 := by
  have no : ∀ {G : Nat → Prop}, ∀ j, j < 0 → G j := fun j hj => absurd hj (Nat.not_lt_zero j)
  exact ⟨pm0_pb, no, no, no, no, no, no, .inl ⟨rfl, rfl⟩, .inl ⟨rfl, rfl⟩, no⟩
theorem decP_wf {s : ByteArray} {c : Sc} {x : Sc × PM} {q : Nat} (h : decP s c = .ok x q) : WFP x.2 :=
  decL_wf _ _ _ _ _ h ⟨Nat.zero_le _, fun j hj => absurd hj (Nat.not_lt_zero j)⟩ pm0_wf
theorem decA_wf {s : ByteArray} {c : Sc} {x : Sc × PM} {q : Nat} (h : decA s c = .ok x q) : WFP x.2 := by
  unfold decA at h
  split at h
  · cases h
  split at h
  · cases h
  split at h
  · exact decP_wf h
  · cases h

end Go.Proofs.Qxb6500316a
