/-
  The host: Call.
-/
import Derived.Test.Qxb6500317aGreatHoD
set_option linter.unusedSimpArgs false
set_option linter.unusedVariables false
set_option maxRecDepth 100000
set_option linter.unusedSectionVars false
set_option maxHeartbeats 1000000
namespace Go.Proofs.Qxb6500317aGreat
open Go Go.Vc

/-! ### The arguments -/
def argT (vs : Nat → Nat) : Nat → List Int
  | 0 => []
  | k + 1 => argT vs k ++ h16 16 (vs k) ++ [44]
theorem argT_len (vs : Nat → Nat) : ∀ k, (argT vs k).length = 17 * k
  | 0 => rfl
  | k + 1 => by
    show (argT vs k ++ h16 16 (vs k) ++ [44]).length = _
    rw [List.length_append, List.length_append, argT_len vs k, h16_len]
    simp
    omega
/-- The words that a call is handed. -/
structure ArgA (w : World) (X : List Nat) (ad : Option Addr) (n : Nat) (vs : Nat → Nat) : Prop where
  c : n ≠ 0 → ∃ ab ao, ad = some ⟨ab, ao, none⟩ ∧ ab < w.heap.size ∧ ab ∉ X ∧ ∀ j, j < n → w.cell? ⟨ab, ao + j, none⟩ = some (.int .u64 (vs j : Int))
  v : ∀ j, vs j < 18446744073709551616
  n4 : n ≤ 4
theorem ArgA.same {w w' : World} {X S : List Nat} {ad : Option Addr} {n : Nat} {vs : Nat → Nat} (h : ArgA w X ad n vs) (hS : Same S w.heap.size w w') (hx : ∀ k, k ∈ S → k ∈ X ∨ w.heap.size ≤ k) : ArgA w' X ad n vs := by
  refine ⟨fun h0 => ?_, h.v, h.n4⟩
  obtain ⟨ab, ao, e, l, x, c⟩ := h.c h0
  have hn : ab ∉ S := fun q => by
    rcases hx ab q with g | g
    · exact x g
    · omega
  have := hS.size
  exact ⟨ab, ao, e, by omega, x, fun j hj => by rw [hS.cell (p := ⟨ab, ao + j, none⟩) l hn]; exact c j hj⟩
theorem Call1_spec {w : World} {b8 b17 n cd : Nat} {ad a : Option Addr} {c : Nat} {l : List Int} {vs : Nat → Nat} (ca : w.cell? ⟨b8, 0, none⟩ = some (.slice ad n cd)) (cb : w.cell? ⟨b17, 0, none⟩ = some (.slice a l.length c)) (fb : w.frozen? ⟨b17, 0, none⟩ = false)
    (ho : w.ownsRow 0 T_uint8 1 (.slice a l.length c) l.length (tbs l)) (A : ArgA w (b17 :: obk (.slice a l.length c)) ad n vs) (hl : l.length ≤ 3000) (nb : b17 ∉ obk (.slice a l.length c)) :
    Runs Tryz.prog host_Host_Call_1.id #[rp b8, rp b17] w fun r w' => r = .tuple #[] ∧ ∃ a' c', w'.cell? ⟨b17, 0, none⟩ = some (.slice a' (l ++ argT vs n).length c') ∧ w'.ownsRow 0 T_uint8 1 (.slice a' (l ++ argT vs n).length c') (l ++ argT vs n).length (tbs (l ++ argT vs n)) ∧ Same (b17 :: obk (.slice a l.length c)) w.heap.size w w' ∧ (∀ k, (Value.slice a' (l ++ argT vs n).length c').ownBlock = some k → (Value.slice a l.length c).ownBlock = some k ∨ w.heap.size ≤ k) := by
  refine host_Host_Call_1.enter _ _ _ _ _ ?_
  unfold host_Host_Call_1.V
  refine ⟨_, _, _, ca, ?_⟩
  have lb : b17 < w.heap.size := cell_lt cb
  have n4 := A.n4
  have loop : ∀ (f i : Nat) (a1 : Option Addr) (c1 : Nat) (w1 : World), i + f = n → w1.cell? ⟨b17, 0, none⟩ = some (.slice a1 (l ++ argT vs i).length c1) → w1.frozen? ⟨b17, 0, none⟩ = false → w1.ownsRow 0 T_uint8 1 (.slice a1 (l ++ argT vs i).length c1) (l ++ argT vs i).length (tbs (l ++ argT vs i)) → Same (b17 :: obk (.slice a l.length c)) w.heap.size w w1 → (∀ k, (Value.slice a1 (l ++ argT vs i).length c1).ownBlock = some k → (Value.slice a l.length c).ownBlock = some k ∨ w.heap.size ≤ k) →
      host_Host_Call_1.L1 b17 ad n cd ((n : Nat) : Int) (i : Int) (fun r w' => r = .tuple #[] ∧ ∃ a' c', w'.cell? ⟨b17, 0, none⟩ = some (.slice a' (l ++ argT vs n).length c') ∧ w'.ownsRow 0 T_uint8 1 (.slice a' (l ++ argT vs n).length c') (l ++ argT vs n).length (tbs (l ++ argT vs n)) ∧ Same (b17 :: obk (.slice a l.length c)) w.heap.size w w' ∧ (∀ k, (Value.slice a' (l ++ argT vs n).length c').ownBlock = some k → (Value.slice a l.length c).ownBlock = some k ∨ w.heap.size ≤ k)) (fun _ _ => False) w1 := by
    intro f
    induction f with
    | zero =>
      intro i a1 c1 w1 hi cw fw ow S o
      obtain rfl : i = n := by omega
      refine host_Host_Call_1.step1 _ _ _ _ _ _ _ _ _ ?_
      unfold host_Host_Call_1.V1
      exact cond_false' (decide_eq_false (by omega)) ⟨rfl, a1, c1, cw, ow, S, o⟩
    | succ f ih =>
      intro i a1 c1 w1 hi cw fw ow S o
      refine host_Host_Call_1.step1 _ _ _ _ _ _ _ _ _ ?_
      unfold host_Host_Call_1.V1
      have A1 := A.same S (fun k hk => .inl hk)
      obtain ⟨ab, ao, e, la, xa, car⟩ := A1.c (by omega)
      subst e
      have hlen : (l ++ argT vs i).length ≤ 3100 := by rw [List.length_append, argT_len]; omega
      simp only [nilV_some, add_mk, Int.toNat_natCast, Nat.mul_one]
      refine cond_true' (decide_eq_true (by omega)) ⟨by omega, _, car i (by omega), _, _, _, cw, RunsQ.post (hex16_spec ow (by omega) (vs i) (A.v i)) ?_⟩
      rintro v w2 ⟨a2, c2, rfl, ow2, G2⟩
      have z1 := S.size; have z2 := G2.S.size
      have l1 : b17 < w1.heap.size := by omega
      have nb1 : ∀ {a1 : Option Addr} {m c1 : Nat}, (∀ k, (Value.slice a1 m c1).ownBlock = some k → (Value.slice a l.length c).ownBlock = some k ∨ w.heap.size ≤ k) → b17 ∉ obk (.slice a1 m c1) := fun o q => by
        rcases o b17 (mem_obk.1 q) with g | g
        · exact nb (mem_obk.2 g)
        · omega
      have cw2 : w2.cell? ⟨b17, 0, none⟩ = some (.slice a1 (l ++ argT vs i).length c1) := by rw [G2.S.cell (p := ⟨b17, 0, none⟩) l1 (nb1 o)]; exact cw
      have fw2 : w2.frozen? ⟨b17, 0, none⟩ = false := by rw [G2.S.frozen (p := ⟨b17, 0, none⟩) l1 (nb1 o)]; exact fw
      have o2 : ∀ k, (Value.slice a2 (l ++ argT vs i ++ h16 16 (vs i)).length c2).ownBlock = some k → (Value.slice a l.length c).ownBlock = some k ∨ w.heap.size ≤ k := fun k hk => by
        rcases G2.o k hk with g | g
        · exact o k g
        · exact .inr (by omega)
      refine ⟨_, _, _, rfl, ⟨⟨_, cw2⟩, fw2⟩, letW_intro fun w3 hw3 => ?_⟩
      have S3 : Same [b17] w2.heap.size w2 w3 := by rw [hw3]; exact same_set _ _
      have cw3 : w3.cell? ⟨b17, 0, none⟩ = some (.slice a2 (l ++ argT vs i ++ h16 16 (vs i)).length c2) := by rw [hw3, cell_setCell, if_pos ⟨rfl, rfl⟩, cw2]; rfl
      have fw3 : w3.frozen? ⟨b17, 0, none⟩ = false := by rw [hw3, World.frozen?_setCell]; exact fw2
      clear hw3
      have ow3 := row_same ow2 S3 (fun k hk => ⟨(ow2.lt k hk).2, fun q => by simp at q; subst q; exact nb1 o2 (mem_obk.2 hk)⟩)
      refine ⟨_, _, _, cw3, letB_intro fun b15 hb15 => letW_intro fun w4 hw4 => ?_⟩
      have hlen2 : (l ++ argT vs i ++ h16 16 (vs i)).length ≤ 3200 := by rw [List.length_append, h16_len]; omega
      obtain ⟨a5, c5, w5, hr, ow5, S5, o5⟩ := row_apps ow3 [44] (by omega) (by simp) hb15 hw4
      refine ⟨a5, _, c5, w5, hr, ?_⟩
      have z3 := S3.size; have z5 := S5.size
      have l3 : b17 < w3.heap.size := by omega
      have nb3 := nb1 o2
      have cw5 : w5.cell? ⟨b17, 0, none⟩ = some (.slice a2 (l ++ argT vs i ++ h16 16 (vs i)).length c2) := by rw [S5.cell (p := ⟨b17, 0, none⟩) l3 nb3]; exact cw3
      have fw5 : w5.frozen? ⟨b17, 0, none⟩ = false := by rw [S5.frozen (p := ⟨b17, 0, none⟩) l3 nb3]; exact fw3
      have o6 : ∀ k, (Value.slice a5 (l ++ argT vs i ++ h16 16 (vs i) ++ [44]).length c5).ownBlock = some k → (Value.slice a l.length c).ownBlock = some k ∨ w.heap.size ≤ k := fun k hk => by
        rcases o5 k hk with g | g
        · exact o2 k g
        · exact .inr (by omega)
      refine ⟨⟨⟨_, cw5⟩, fw5⟩, letW_intro fun w6 hw6 => ?_⟩
      have S6 : Same [b17] w5.heap.size w5 w6 := by rw [hw6]; exact same_set _ _
      have cw6 : w6.cell? ⟨b17, 0, none⟩ = some (.slice a5 (l ++ argT vs i ++ h16 16 (vs i) ++ [44]).length c5) := by rw [hw6, cell_setCell, if_pos ⟨rfl, rfl⟩, cw5]; rfl
      have fw6 : w6.frozen? ⟨b17, 0, none⟩ = false := by rw [hw6, World.frozen?_setCell]; exact fw5
      clear hw6
      have ow6 := row_same ow5 S6 (fun k hk => ⟨(ow5.lt k hk).2, fun q => by simp at q; subst q; exact nb1 o6 (mem_obk.2 hk)⟩)
      rw [wrap_i64 (by omega) (by omega), show (i : Int) + 1 = ((i + 1 : Nat) : Int) by omega]
      have ee : l ++ argT vs i ++ h16 16 (vs i) ++ [44] = l ++ argT vs (i + 1) := by
        show _ = l ++ (argT vs i ++ h16 16 (vs i) ++ [44])
        simp only [List.append_assoc]
      rw [ee] at cw6 ow6 o6
      have lowO : ∀ {a1 : Option Addr} {m c1 : Nat} {B : Nat}, w.heap.size ≤ B → (∀ k, (Value.slice a1 m c1).ownBlock = some k → (Value.slice a l.length c).ownBlock = some k ∨ w.heap.size ≤ k) → ∀ k, k ∈ obk (.slice a1 m c1) → k < w.heap.size → k ∈ b17 :: obk (.slice a l.length c) := fun hB o k hk hl => by
        rcases o k (mem_obk.1 hk) with g | g
        · exact List.mem_cons_of_mem _ (mem_obk.2 g)
        · omega
      have in17 : ∀ k, k ∈ [b17] → k < w.heap.size → k ∈ b17 :: obk (.slice a l.length c) := fun k hk _ => by simp at hk; subst hk; simp
      refine ih (i + 1) a5 c5 w6 (by omega) cw6 fw6 ow6 ?_ o6
      exact (((S.trans (G2.S.mono z1 (lowO (Nat.le_refl _) o))).trans (S3.mono (by omega) in17)).trans (S5.mono (by omega) (lowO (Nat.le_refl _) o2))).trans (S6.mono (by omega) in17)
  have e0 : l ++ argT vs 0 = l := List.append_nil l
  refine loop n 0 a c w (by omega) ?_ fb ?_ (Same.refl _ _ _) ?_
  · rw [e0]; exact cb
  · rw [e0]; exact ho
  · rw [e0]; exact fun k hk => .inl hk
end Go.Proofs.Qxb6500317aGreat
