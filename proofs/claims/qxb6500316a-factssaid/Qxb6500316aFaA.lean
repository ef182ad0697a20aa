/-
  Facts: the makers of texts.
-/
import Derived.Test.Qxb6500316aEnJ
set_option linter.unusedSimpArgs false
set_option linter.unusedVariables false
set_option maxRecDepth 100000
namespace Go.Proofs.Qxb6500316a
open Go Go.Vc

/-- A text of bytes. -/
def ofL (l : List UInt8) : ByteArray := ⟨l.toArray⟩
theorem mk_ofL (l : List UInt8) : (ByteArray.mk l.toArray) = ofL l := rfl
theorem ofL_append (a b : List UInt8) : ofL a ++ ofL b = ofL (a ++ b) := by
  apply ByteArray.ext
  rw [ByteArray.data_append]
  show a.toArray ++ b.toArray = (a ++ b).toArray
  simp
theorem ofL_size (l : List UInt8) : (ofL l).size = l.length := by
  show l.toArray.size = l.length
  simp
def oneL (x : Int) : List UInt8 := [UInt8.ofNat (IntKind.wrap .u8 x).toNat]
theorem oneL_len (x : Int) : (oneL x).length = 1 := rfl
def repL (t : List UInt8) : Nat → List UInt8
  | 0 => []
  | n + 1 => repL t n ++ t
theorem repL_succ (t : List UInt8) (n : Nat) : repL t (n + 1) = repL t n ++ t := rfl
theorem repL_len (t : List UInt8) : ∀ n, (repL t n).length = n * t.length
  | 0 => by rw [Nat.zero_mul]; rfl
  | n + 1 => by rw [repL_succ, List.length_append, repL_len t n, Nat.add_mul, Nat.one_mul]

theorem one_spec (x : Int) (w : World) : Runs Try.prog binlaw_one.id #[.int .i64 x] w fun v w' => v = .string (ofL (oneL x)) ∧ Same [] w.heap.size w w' := by
  refine binlaw_one.enter _ _ _ _ ?_
  unfold binlaw_one.V
  refine letB_intro fun b2 hb2 => letW_intro fun w3 hw3 => ?_
  refine ⟨_, w3, run_convert_bytes_arg w3 T_sl_uint8 T_uint8 (by kernel_rfl) (by kernel_rfl) b2 0 1 1 [IntKind.wrap .u8 x] rfl (fun j hj => ?_) T_string (by kernel_rfl), rfl, ?_⟩
  · obtain rfl : j = 0 := by omega
    rw [hw3, hb2, World.cell?_alloc_new]; rfl
  · rw [hw3]; exact (Same.refl _ _ _).alloc (Nat.le_refl _) _

theorem rep_loop (t : List UInt8) (ht : t.length ≤ 40) (n : Nat) (hn : n ≤ 1000) (R Q : Value → World → Prop) (w : World) (hR : R (.string (ofL (repL t n))) w) : ∀ k i, i + k = n → binlaw_rep.L1 (ofL t) n (ofL (repL t i)) (i : Int) R Q w
  | 0, i, h => by
    refine binlaw_rep.step1 _ _ _ _ _ _ _ ?_
    unfold binlaw_rep.V1
    obtain rfl : i = n := by omega
    exact cond_false' (decide_eq_false (by omega)) hR
  | k + 1, i, h => by
    refine binlaw_rep.step1 _ _ _ _ _ _ _ ?_
    unfold binlaw_rep.V1
    refine cond_true' (decide_eq_true (by omega)) ⟨?_, ?_⟩
    · rw [ofL_size, ofL_size, repL_len]
      have : i * t.length ≤ 1000 * 40 := Nat.mul_le_mul (by omega) ht
      omega
    · have e1 : IntKind.wrap .i64 ((i : Int) + 1) = ((i + 1 : Nat) : Int) := by rw [wrap_i64 (by omega) (by omega)]; omega
      rw [e1, ofL_append, ← repL_succ]
      exact rep_loop t ht n hn R Q w hR k (i + 1) (by omega)
theorem rep_spec (t : List UInt8) (ht : t.length ≤ 40) (nI : Int) (n : Nat) (e : nI = (n : Int)) (hn : n ≤ 1000) (w : World) : Runs Try.prog binlaw_rep.id #[.string (ofL t), .int .i64 nI] w fun v w' => v = .string (ofL (repL t n)) ∧ w' = w := by
  subst e
  refine binlaw_rep.enter _ _ _ _ _ ?_
  unfold binlaw_rep.V
  exact rep_loop t ht n hn _ _ w ⟨rfl, rfl⟩ n 0 (by omega)

/-- The sizes of what is put together. -/

def mag8 : List UInt8 := [0, 97, 115, 109, 1, 0, 0, 0]
def rowsL (id : Int) (row : List UInt8) (n : Nat) : List UInt8 := mag8 ++ oneL id ++ oneL (IntKind.wrap .i64 (((ofL (repL row n)).size : Nat) + 1 : Int)) ++ oneL n ++ repL row n
theorem Rows_spec (id : Int) (row : List UInt8) (nI : Int) (n : Nat) (e : nI = (n : Int)) (hr : row.length ≤ 40) (hn : n ≤ 100) (w : World) :
    Runs Try.prog binlaw_Rows.id #[.int .i64 id, .string (ofL row), .int .i64 nI] w fun v w' => v = .string (ofL (rowsL id row n)) ∧ Same [] w.heap.size w w' := by
  have hl : (repL row n).length ≤ 4000 := by rw [repL_len]; exact Nat.mul_le_mul hn hr
  refine binlaw_Rows.enter _ _ _ _ _ _ ?_
  unfold binlaw_Rows.V
  refine RunsQ.post (rep_spec row hr nI n e (by omega) w) ?_
  rintro v w1 ⟨rfl, rfl⟩
  refine ⟨_, rfl, RunsQ.post (one_spec _ w1) ?_⟩
  rintro v w2 ⟨rfl, S2⟩
  refine ⟨_, rfl, RunsQ.post (one_spec _ w2) ?_⟩
  rintro v w3 ⟨rfl, S3⟩
  refine ⟨_, rfl, RunsQ.post (one_spec _ w3) ?_⟩
  rintro v w4 ⟨rfl, S4⟩
  have T3 := S2.trans (S3.mono S2.size (by simp))
  have T4 := T3.trans (S4.mono T3.size (by simp))
  subst e
  have hm : mag8.length = 8 := rfl
  refine ⟨_, rfl, ?_, ?_, ?_, ?_, ?_, T4⟩
  · simp only [mk_ofL, ofL_append, ofL_size, List.length_append, List.length_cons, List.length_nil, oneL_len]; omega
  · simp only [mk_ofL, ofL_append, ofL_size, List.length_append, List.length_cons, List.length_nil, oneL_len]; omega
  · simp only [mk_ofL, ofL_append, ofL_size, List.length_append, List.length_cons, List.length_nil, oneL_len]; omega
  · simp only [mk_ofL, ofL_append, ofL_size, List.length_append, List.length_cons, List.length_nil, oneL_len]; omega
  · simp only [mk_ofL, ofL_append]; rfl

def fnL : List UInt8 := [0, 97, 115, 109, 1, 0, 0, 0, 1, 4, 1, 96, 0, 0, 3, 2, 1, 0, 10]
def fullL (k n : Nat) : List UInt8 := match k with
  | 0 => rowsL 1 [96, 0, 0] n
  | 1 => rowsL 2 [0, 0, 0, 0] n
  | 2 => rowsL 6 [127, 0, 65, 0, 11] n
  | 3 => rowsL 7 [0, 0, 0] n
  | 4 => rowsL 9 [0, 65, 0, 11, 0] n
  | 5 => rowsL 11 [0, 65, 0, 11, 0] n
  | 6 => rowsL 1 ([96] ++ oneL n ++ repL [127] n ++ [0]) 1
  | 7 => rowsL 7 (oneL n ++ repL [110] n ++ [0, 0]) 1
  | 8 => rowsL 9 ([0, 65, 0, 11] ++ oneL n ++ repL [0] n) 1
  | 9 => rowsL 11 ([0, 65, 0, 11] ++ oneL n ++ repL [100] n) 1
  | 10 => [0, 97, 115, 109, 1, 0, 0, 0, 1, 4, 1, 96, 0, 0, 3] ++ oneL (IntKind.wrap .i64 ((n : Int) + 1)) ++ oneL n ++ repL [0] n ++ [10] ++ oneL (IntKind.wrap .i64 (IntKind.wrap .i64 (3 * (n : Int)) + 1)) ++ oneL n ++ repL [2, 0, 11] n
  | _ => fnL ++ oneL (IntKind.wrap .i64 ((n : Int) + 8)) ++ [1] ++ oneL (IntKind.wrap .i64 ((n : Int) + 6)) ++ [0, 65, 0, 14] ++ oneL (IntKind.wrap .i64 ((n : Int) - 1)) ++ repL [0] n ++ [11]
def fullA (k : Nat) : Int := match k with
  | 0 => 10 | 1 => 10 | 2 => 10 | 3 => 10 | 4 => 10 | 5 => 10 | 6 => 12 | 7 => 11 | 8 => 15 | 9 => 15 | 10 => 16 | _ => 26
def fullM (k : Nat) : Nat := match k with
  | 0 => 8 | 1 => 4 | 2 => 4 | 3 => 6 | 4 => 3 | 5 => 3 | 6 => 4 | 7 => 8 | 8 => 6 | 9 => 24 | 10 => 8 | _ => 24
def FullR (w : World) (k n : Nat) : Value → World → Prop := fun v w' => v = .tuple #[.string (ofL (fullL k n)), .int .i64 (fullA k), .int .i64 ((fullM k : Nat) : Int)] ∧ Same [] w.heap.size w w'
theorem rows_fin {w w1 : World} (S1 : Same [] w.heap.size w w1) (id : Int) (row : List UInt8) (nI : Int) (n : Nat) (e : nI = (n : Int)) (hr : row.length ≤ 40) (hn : n ≤ 100) (a m : Int) {R : Value → World → Prop}
    (hR : ∀ w', Same [] w.heap.size w w' → R (.tuple #[.string (ofL (rowsL id row n)), .int .i64 a, .int .i64 m]) w') :
    RunsQ Try.prog binlaw_Rows.id #[.int .i64 id, .string (ofL row), .int .i64 nI] w1 (fun r w2 => ∃ x : ByteArray, r = .string x ∧ R (.tuple #[.string x, .int .i64 a, .int .i64 m]) w2) (fun _ _ => False) := by
  refine RunsQ.post (Rows_spec id row nI n e hr hn w1) ?_
  rintro v w2 ⟨rfl, S2⟩
  exact ⟨_, rfl, hR w2 (S1.trans (S2.mono S1.size (by simp)))⟩
theorem Full_spec (kI nI : Int) (k n : Nat) (ek : kI = (k : Int)) (en : nI = (n : Int)) (hk : k < 12) (hn : n ≤ 25) (w : World) : Runs Try.prog binlaw_Full.id #[.int .i64 kI, .int .i64 nI] w (FullR w k n) := by
  refine binlaw_Full.enter _ _ _ _ _ ?_
  unfold binlaw_Full.V
  refine RunsQ.post (one_spec _ w) ?_
  rintro v w1 ⟨rfl, S1⟩
  refine ⟨_, rfl, ?_⟩
  have fin : ∀ {id row m a b}, fullL k n = rowsL id row m → a = fullA k → b = ((fullM k : Nat) : Int) → ∀ w', Same [] w.heap.size w w' → FullR w k n (.tuple #[.string (ofL (rowsL id row m)), .int .i64 a, .int .i64 b]) w' := by
    intro id row m a b h1 h2 h3 w' S
    exact ⟨by rw [h1, h2, h3], S⟩
  have lit : ∀ t : List UInt8, t.length ≤ 40 → (repL t n).length ≤ 1000 := fun t ht => by rw [repL_len]; exact Nat.mul_le_mul hn ht
  match k, hk with
  | 0, _ => subst ek; (repeat (first | refine cond_true' (by decide) ?_ | refine cond_false' (by decide) ?_)); exact rows_fin S1 1 [96, 0, 0] _ n en (by decide) (by omega) 10 8 (fin rfl rfl rfl)
  | 1, _ => subst ek; (repeat (first | refine cond_true' (by decide) ?_ | refine cond_false' (by decide) ?_)); exact rows_fin S1 2 [0, 0, 0, 0] _ n en (by decide) (by omega) 10 4 (fin rfl rfl rfl)
  | 2, _ => subst ek; (repeat (first | refine cond_true' (by decide) ?_ | refine cond_false' (by decide) ?_)); exact rows_fin S1 6 [127, 0, 65, 0, 11] _ n en (by decide) (by omega) 10 4 (fin rfl rfl rfl)
  | 3, _ => subst ek; (repeat (first | refine cond_true' (by decide) ?_ | refine cond_false' (by decide) ?_)); exact rows_fin S1 7 [0, 0, 0] _ n en (by decide) (by omega) 10 6 (fin rfl rfl rfl)
  | 4, _ => subst ek; (repeat (first | refine cond_true' (by decide) ?_ | refine cond_false' (by decide) ?_)); exact rows_fin S1 9 [0, 65, 0, 11, 0] _ n en (by decide) (by omega) 10 3 (fin rfl rfl rfl)
  | 5, _ => subst ek; (repeat (first | refine cond_true' (by decide) ?_ | refine cond_false' (by decide) ?_)); exact rows_fin S1 11 [0, 65, 0, 11, 0] _ n en (by decide) (by omega) 10 3 (fin rfl rfl rfl)
  | 6, _ =>
    subst ek; (repeat (first | refine cond_true' (by decide) ?_ | refine cond_false' (by decide) ?_))
    subst en
    refine RunsQ.post (rep_spec [127] (by decide) _ n rfl (by omega) w1) ?_
    rintro v w2 ⟨rfl, rfl⟩
    refine ⟨_, rfl, by (simp only [mk_ofL, ofL_append, ofL_size, List.length_append, List.length_cons, List.length_nil, oneL_len, repL_len]; omega), by (simp only [mk_ofL, ofL_append, ofL_size, List.length_append, List.length_cons, List.length_nil, oneL_len, repL_len]; omega), by (simp only [mk_ofL, ofL_append, ofL_size, List.length_append, List.length_cons, List.length_nil, oneL_len, repL_len]; omega), ?_⟩
    simp only [mk_ofL, ofL_append]
    exact rows_fin S1 1 ([96] ++ oneL n ++ repL [127] n ++ [0]) _ 1 rfl (by simp only [List.length_append, List.length_cons, List.length_nil, oneL_len, repL_len]; omega) (by omega) 12 4 (fin rfl rfl rfl)
  | 7, _ =>
    subst ek; (repeat (first | refine cond_true' (by decide) ?_ | refine cond_false' (by decide) ?_))
    subst en
    refine RunsQ.post (rep_spec [110] (by decide) _ n rfl (by omega) w1) ?_
    rintro v w2 ⟨rfl, rfl⟩
    refine ⟨_, rfl, by (simp only [mk_ofL, ofL_append, ofL_size, List.length_append, List.length_cons, List.length_nil, oneL_len, repL_len]; omega), by (simp only [mk_ofL, ofL_append, ofL_size, List.length_append, List.length_cons, List.length_nil, oneL_len, repL_len]; omega), ?_⟩
    simp only [mk_ofL, ofL_append]
    exact rows_fin S1 7 (oneL n ++ repL [110] n ++ [0, 0]) _ 1 rfl (by simp only [List.length_append, List.length_cons, List.length_nil, oneL_len, repL_len]; omega) (by omega) 11 8 (fin rfl rfl rfl)
  | 8, _ =>
    subst ek; (repeat (first | refine cond_true' (by decide) ?_ | refine cond_false' (by decide) ?_))
    subst en
    refine RunsQ.post (rep_spec [0] (by decide) _ n rfl (by omega) w1) ?_
    rintro v w2 ⟨rfl, rfl⟩
    refine ⟨_, rfl, by (simp only [mk_ofL, ofL_append, ofL_size, List.length_append, List.length_cons, List.length_nil, oneL_len, repL_len]; omega), by (simp only [mk_ofL, ofL_append, ofL_size, List.length_append, List.length_cons, List.length_nil, oneL_len, repL_len]; omega), ?_⟩
    simp only [mk_ofL, ofL_append]
    exact rows_fin S1 9 ([0, 65, 0, 11] ++ oneL n ++ repL [0] n) _ 1 rfl (by simp only [List.length_append, List.length_cons, List.length_nil, oneL_len, repL_len]; omega) (by omega) 15 6 (fin rfl rfl rfl)
  | 9, _ =>
    subst ek; (repeat (first | refine cond_true' (by decide) ?_ | refine cond_false' (by decide) ?_))
    subst en
    refine RunsQ.post (rep_spec [100] (by decide) _ n rfl (by omega) w1) ?_
    rintro v w2 ⟨rfl, rfl⟩
    refine ⟨_, rfl, by (simp only [mk_ofL, ofL_append, ofL_size, List.length_append, List.length_cons, List.length_nil, oneL_len, repL_len]; omega), by (simp only [mk_ofL, ofL_append, ofL_size, List.length_append, List.length_cons, List.length_nil, oneL_len, repL_len]; omega), ?_⟩
    simp only [mk_ofL, ofL_append]
    exact rows_fin S1 11 ([0, 65, 0, 11] ++ oneL n ++ repL [100] n) _ 1 rfl (by simp only [List.length_append, List.length_cons, List.length_nil, oneL_len, repL_len]; omega) (by omega) 15 24 (fin rfl rfl rfl)
  | 10, _ =>
    subst ek; (repeat (first | refine cond_true' (by decide) ?_ | refine cond_false' (by decide) ?_))
    subst en
    refine RunsQ.post (rep_spec [0] (by decide) _ n rfl (by omega) w1) ?_
    rintro v w2 ⟨rfl, rfl⟩
    refine ⟨_, rfl, RunsQ.post (rep_spec [2, 0, 11] (by decide) _ n rfl (by omega) w2) ?_⟩
    rintro v w3 ⟨rfl, rfl⟩
    refine ⟨_, rfl, RunsQ.post (one_spec _ w3) ?_⟩
    rintro v w4 ⟨rfl, S4⟩
    refine ⟨_, rfl, RunsQ.post (one_spec _ w4) ?_⟩
    rintro v w5 ⟨rfl, S5⟩
    have T4 := S1.trans (S4.mono S1.size (by simp))
    have T5 := T4.trans (S5.mono T4.size (by simp))
    refine ⟨_, rfl, by (simp only [mk_ofL, ofL_append, ofL_size, List.length_append, List.length_cons, List.length_nil, oneL_len, repL_len]; omega), by (simp only [mk_ofL, ofL_append, ofL_size, List.length_append, List.length_cons, List.length_nil, oneL_len, repL_len]; omega), by (simp only [mk_ofL, ofL_append, ofL_size, List.length_append, List.length_cons, List.length_nil, oneL_len, repL_len]; omega), by (simp only [mk_ofL, ofL_append, ofL_size, List.length_append, List.length_cons, List.length_nil, oneL_len, repL_len]; omega), by (simp only [mk_ofL, ofL_append, ofL_size, List.length_append, List.length_cons, List.length_nil, oneL_len, repL_len]; omega), by (simp only [mk_ofL, ofL_append, ofL_size, List.length_append, List.length_cons, List.length_nil, oneL_len, repL_len]; omega), by (simp only [mk_ofL, ofL_append, ofL_size, List.length_append, List.length_cons, List.length_nil, oneL_len, repL_len]; omega), ?_⟩
    simp only [mk_ofL, ofL_append]
    exact ⟨rfl, T5⟩
  | 11, _ =>
    subst ek; (repeat (first | refine cond_true' (by decide) ?_ | refine cond_false' (by decide) ?_))
    subst en
    refine RunsQ.post (rep_spec [0] (by decide) _ n rfl (by omega) w1) ?_
    rintro v w2 ⟨rfl, rfl⟩
    refine ⟨_, rfl, RunsQ.post (one_spec _ w2) ?_⟩
    rintro v w3 ⟨rfl, S3⟩
    refine ⟨_, rfl, RunsQ.post (one_spec _ w3) ?_⟩
    rintro v w4 ⟨rfl, S4⟩
    refine ⟨_, rfl, RunsQ.post (one_spec _ w4) ?_⟩
    rintro v w5 ⟨rfl, S5⟩
    have T3 := S1.trans (S3.mono S1.size (by simp))
    have T4 := T3.trans (S4.mono T3.size (by simp))
    have T5 := T4.trans (S5.mono T4.size (by simp))
    refine ⟨_, rfl, by (simp only [mk_ofL, ofL_append, ofL_size, List.length_append, List.length_cons, List.length_nil, oneL_len, repL_len]; omega), by (simp only [mk_ofL, ofL_append, ofL_size, List.length_append, List.length_cons, List.length_nil, oneL_len, repL_len]; omega), by (simp only [mk_ofL, ofL_append, ofL_size, List.length_append, List.length_cons, List.length_nil, oneL_len, repL_len]; omega), by (simp only [mk_ofL, ofL_append, ofL_size, List.length_append, List.length_cons, List.length_nil, oneL_len, repL_len]; omega), by (simp only [mk_ofL, ofL_append, ofL_size, List.length_append, List.length_cons, List.length_nil, oneL_len, repL_len]; omega), by (simp only [mk_ofL, ofL_append, ofL_size, List.length_append, List.length_cons, List.length_nil, oneL_len, repL_len]; omega), by (simp only [mk_ofL, ofL_append, ofL_size, List.length_append, List.length_cons, List.length_nil, oneL_len, repL_len]; omega), ?_⟩
    simp only [mk_ofL, ofL_append]
    exact ⟨rfl, T5⟩

end Go.Proofs.Qxb6500316a
