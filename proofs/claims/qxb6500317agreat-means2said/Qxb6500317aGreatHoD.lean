/-
  The host: a row of the trace.
-/
import Derived.Test.Qxb6500317aGreatHoC
set_option linter.unusedSimpArgs false
set_option linter.unusedVariables false
set_option maxRecDepth 100000
set_option linter.unusedSectionVars false
namespace Go.Proofs.Qxb6500317aGreat
open Go Go.Vc

/-! ### Sixteen signs -/
def h16 : Nat → Nat → List Int
  | 0, _ => []
  | k + 1, v => hexd (v / 16 ^ k % 16) :: h16 k v
theorem h16_len : ∀ k v, (h16 k v).length = k
  | 0, _ => rfl
  | k + 1, v => by show (h16 k v).length + 1 = k + 1; rw [h16_len k v]
theorem h16_snoc : ∀ k v, h16 (k + 1) v = h16 k (v / 16) ++ [hexd (v % 16)]
  | 0, v => by show [hexd (v / 16 ^ 0 % 16)] = [hexd (v % 16)]; rw [Nat.pow_zero, Nat.div_one]
  | k + 1, v => by
    show hexd (v / 16 ^ (k + 1) % 16) :: h16 (k + 1) v = (hexd (v / 16 / 16 ^ k % 16) :: h16 k (v / 16)) ++ [hexd (v % 16)]
    rw [h16_snoc k v, Nat.div_div_eq_div_mul, Nat.mul_comm 16, ← Nat.pow_succ]
    rfl
theorem hexs_h16 : ∀ k v acc, hexs k v acc = h16 k v ++ acc
  | 0, _, _ => rfl
  | k + 1, v, acc => by
    show hexs k (v / 16) (hexd (v % 16) :: acc) = _
    rw [hexs_h16 k, h16_snoc, List.append_assoc]
    rfl
theorem hexOf_16 (v : Int) : hexOf v 16 = strOfNums (h16 16 v.toNat) := by
  unfold hexOf
  rw [hexs_h16, List.append_nil]
  rfl

/-! ### A text that grows -/
/-- The row v0 of w0 has grown into v. -/
structure Grn (w0 : World) (v0 : Value) (w : World) (v : Value) : Prop where
  S : Same (obk v0) w0.heap.size w0 w
  o : ∀ k, v.ownBlock = some k → v0.ownBlock = some k ∨ w0.heap.size ≤ k
theorem Grn.refl (w : World) (v : Value) : Grn w v w v := ⟨Same.refl _ _ _, fun k hk => .inl hk⟩
theorem Grn.next {w0 w w' : World} {v0 v v' : Value} (h : Grn w0 v0 w v) (S : Same (obk v) w.heap.size w w') (o : ∀ k, v'.ownBlock = some k → v.ownBlock = some k ∨ w.heap.size ≤ k) : Grn w0 v0 w' v' := by
  have z := h.S.size
  refine ⟨h.S.trans (S.mono z (fun k hk hl => ?_)), fun k hk => ?_⟩
  · rcases h.o k (mem_obk.1 hk) with g | g
    · exact mem_obk.2 g
    · omega
  · rcases o k hk with g | g
    · exact h.o k g
    · exact .inr (by omega)
theorem Grn.keep {w0 w w' : World} {v0 v : Value} (h : Grn w0 v0 w v) (S : Same [] w.heap.size w w') : Grn w0 v0 w' v := h.next (S.mono (Nat.le_refl _) (by simp)) (fun k hk => .inl hk)
theorem tbs_one {l : List Int} : ∀ u ∈ tbs l, u.oneCell' = true := by
  intro u hu
  simp only [tbs, List.mem_map] at hu
  obtain ⟨x, _, rfl⟩ := hu
  rfl
theorem row_apps {w : World} {a : Option Addr} {c : Nat} {l : List Int} (h : w.ownsRow 0 T_uint8 1 (.slice a l.length c) l.length (tbs l)) (us : List Int) (hl : l.length ≤ 10000) (hm : us.length ≤ 1000) {b : Nat} {w1 : World} (hb : b = w.heap.size) (hw : w1 = w.alloc (.cells (tbs us).toArray T_uint8)) :
    ∃ (a' : Option Addr) (c' : Nat) (w2 : World), Sem.run Tryz.prog (Builtin.append_ #[T_sl_uint8, T_sl_uint8] T_sl_uint8 #[.slice a l.length c, .slice (some ⟨b, 0, none⟩) us.length us.length]) w1 = .ok (.slice a' (l ++ us).length c') w2 ∧
      w2.ownsRow 0 T_uint8 1 (.slice a' (l ++ us).length c') (l ++ us).length (tbs (l ++ us)) ∧ Same (obk (.slice a l.length c)) w.heap.size w w2 ∧ (∀ k, (Value.slice a' (l ++ us).length c').ownBlock = some k → (Value.slice a l.length c).ownBlock = some k ∨ w.heap.size ≤ k) := by
  have h1 : w1.ownsRow 0 T_uint8 1 (.slice a l.length c) l.length (tbs l) := by rw [hw]; exact h.alloc _
  have z1 : w1.heap.size = w.heap.size + 1 := by rw [hw]; simp
  have S1 : Same [] w.heap.size w w1 := by rw [hw]; exact (Same.refl _ _ _).alloc (Nat.le_refl _) _
  obtain ⟨a', c', w2, hr, ho, hS, hf⟩ := row_more T_sl_uint8.el T_sl_uint8 h1 (tbs us) us.length us.length ⟨b, 0, none⟩ (by rw [tbs_len, Nat.mul_one]) tbs_one hl hm (by decide) (Nat.zero_le _) (fun j v hj => by
    rw [hw, hb, add_mk, Nat.zero_add, World.cell?_alloc_new]; simpa using hj)
  rw [List.length_append, tbs_app]
  refine ⟨a', c', w2, hr, ho, S1.mono (Nat.le_refl _) (by simp) |>.trans (hS.mono (by omega) (fun k hk _ => hk)), fun k hk => ?_⟩
  rcases hf k hk with g | g
  · exact .inl g
  · exact .inr (by omega)

/-! ### hex16 -/
theorem digit (v : Nat) (hv : v < 18446744073709551616) (k : Nat) (hk : k < 16) : bAnd .u64 (Int.fdiv (v : Int) (2 ^ (min (Int.toNat (IntKind.wrap .u64 ((4 * k : Nat) : Int))) (IntKind.bits .u64)))) 15 = ((v / 16 ^ k % 16 : Nat) : Int) := by
  rw [wrap_u64 (by omega) (by omega), Int.toNat_natCast]
  have e1 : min (4 * k) (IntKind.bits .u64) = 4 * k := by show min (4 * k) 64 = 4 * k; omega
  rw [e1]
  have e3 : (2 : Nat) ^ (4 * k) = 16 ^ k := by rw [Nat.pow_mul]
  have e4 : (2 : Int) ^ (4 * k) = ((16 ^ k : Nat) : Int) := by rw [← e3]; simp
  have e2 : Int.fdiv (v : Int) (2 ^ (4 * k)) = ((v / 16 ^ k : Nat) : Int) := by
    rw [e4, Int.fdiv_eq_ediv_of_nonneg (a := (v : Int)) (b := ((16 ^ k : Nat) : Int)) (Int.natCast_nonneg _)]
    rfl
  rw [e2]
  refine bAnd15 .u64 (.inl rfl) _ ?_
  have := Nat.div_le_self v (16 ^ k)
  show v / 16 ^ k < 2 ^ 64
  omega
theorem hex16_spec {w : World} {a : Option Addr} {c : Nat} {l : List Int} (h : w.ownsRow 0 T_uint8 1 (.slice a l.length c) l.length (tbs l)) (hl : l.length ≤ 5000) (v : Nat) (hv : v < 18446744073709551616) :
    Runs Tryz.prog host_hex16.id #[.slice a l.length c, .int .u64 (v : Int)] w fun r w' => ∃ a' c', r = .slice a' (l ++ h16 16 v).length c' ∧ w'.ownsRow 0 T_uint8 1 (.slice a' (l ++ h16 16 v).length c') (l ++ h16 16 v).length (tbs (l ++ h16 16 v)) ∧ Grn w (.slice a l.length c) w' (.slice a' (l ++ h16 16 v).length c') := by
  refine host_hex16.enter _ _ _ _ _ _ _ ?_
  unfold host_hex16.V
  have loop : ∀ (k : Nat) (a1 : Option Addr) (c1 : Nat) (m : List Int) (w1 : World), k ≤ 16 → m.length + k ≤ 6000 → m ++ h16 k v = l ++ h16 16 v → w1.ownsRow 0 T_uint8 1 (.slice a1 m.length c1) m.length (tbs m) → Grn w (.slice a l.length c) w1 (.slice a1 m.length c1) →
      host_hex16.L1 a1 m.length c1 (v : Int) ((4 * k : Nat) - 4 : Int) (fun r w' => ∃ a' c', r = .slice a' (l ++ h16 16 v).length c' ∧ w'.ownsRow 0 T_uint8 1 (.slice a' (l ++ h16 16 v).length c') (l ++ h16 16 v).length (tbs (l ++ h16 16 v)) ∧ Grn w (.slice a l.length c) w' (.slice a' (l ++ h16 16 v).length c')) (fun _ _ => False) w1 := by
    intro k
    induction k with
    | zero =>
      intro a1 c1 m w1 hk hm he ho hg
      refine host_hex16.step1 _ _ _ _ _ _ _ _ ?_
      unfold host_hex16.V1
      refine cond_false' (decide_eq_false (by omega)) ?_
      have he : m ++ [] = l ++ h16 16 v := he
      rw [List.append_nil] at he
      subst he
      exact ⟨a1, c1, rfl, ho, hg⟩
    | succ k ih =>
      intro a1 c1 m w1 hk hm he ho hg
      refine host_hex16.step1 _ _ _ _ _ _ _ _ ?_
      unfold host_hex16.V1
      have es : ((4 * (k + 1) : Nat) : Int) - 4 = ((4 * k : Nat) : Int) := by omega
      rw [es, digit v hv k (by omega)]
      have hd : v / 16 ^ k % 16 < 16 := Nat.mod_lt _ (by omega)
      have ew : IntKind.wrap .i64 (((4 * k : Nat) : Int) - 4) = ((4 * k : Nat) : Int) - 4 := wrap_i64 (by omega) (by omega)
      rw [ew, wrap_u64 (x := ((4 * k : Nat) : Int)) (by omega) (by omega), Int.toNat_natCast]
      refine cond_true' (decide_eq_true (by omega)) ⟨by omega, ⟨by omega, ?_⟩, letB_intro fun b hb => letW_intro fun w2 hw2 => ?_⟩
      · show ((v / 16 ^ k % 16 : Nat) : Int) < ((16 : Nat) : Int); omega
      obtain ⟨a', c', w3, hr, ho3, S3, o3⟩ := row_apps ho [hexd (v / 16 ^ k % 16)] (by omega) (by simp) hb hw2
      refine ⟨a', _, c', w3, hr, ?_⟩
      refine ih a' c' _ w3 (by omega) (by rw [List.length_append]; simp; omega) ?_ ho3 (hg.next S3 o3)
      rw [← he, List.append_assoc]
      rfl
  have h0 := loop 16 a c l w (Nat.le_refl _) (by omega) rfl h (Grn.refl _ _)
  exact h0
end Go.Proofs.Qxb6500317aGreat
