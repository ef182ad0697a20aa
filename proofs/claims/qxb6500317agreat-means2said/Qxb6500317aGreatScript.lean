/-
  The script as the row's reading finds it.
-/
import Derived.Test.Qxb6500317aGreatSv
import Derived.Laws.StructEq
import Derived.Test.Qxb6500317aGreatRows
import Derived.ProofKit
import Derived.Deep.Slices
set_option linter.unusedSimpArgs false
set_option linter.unusedVariables false
set_option maxRecDepth 100000
namespace Go.Proofs.Qxb6500317aGreat
open Go Go.Vc
open Go.ChangeShapes Go.WideShapes Go.ChangeAt Go.RowKit

theorem i64_wf {n : Int} (h : (Lit.int .i64 n).wf = true) : -9223372036854775808 ≤ n ∧ n ≤ 9223372036854775807 := by
  simp only [Lit.wf, Bool.and_eq_true, decide_eq_true_eq] at h
  have h1 : IntKind.min .i64 = -9223372036854775808 := by decide
  have h2 : IntKind.max .i64 = 9223372036854775807 := by decide
  rw [h1, h2] at h
  exact h

theorem take_one {α : Type} {cs : List α} {k : Nat} {v : α} (h : (cs.drop k).take 1 = [v]) : cs[k]? = some v := by
  have h2 : ((cs.drop k).take 1)[0]? = some v := by rw [h]; rfl
  simpa using h2

theorem opUnder : Tryz.prog.underlying (22 : Nat) = some (.slice (35 : Nat)) := by kernel_rfl
theorem opCells6 : Tryz.prog.cellsOf (35 : Nat) = 6 := by kernel_rfl

theorem op_open {H : Type} {enc : TypeId × Value → H} {W : World} {base : Nat} {spare : Nat → Bool} {held : Bool} {fuel : Nat} {cs : List Value} {x : DataW H × List MemPlace} (h : DataW.trod enc Tryz.prog W base spare held fuel (35 : Nat) cs = some x) :
    ∃ o : OpV, o.Full ∧ cs[0]? = some (.int .i64 o.kind) ∧ cs[1]? = some (.int .i64 o.a) ∧ cs[2]? = some (.int .i64 o.b) ∧ cs[3]? = some (.int .i64 o.c) ∧ cs[4]? = some (.string o.s) ∧ cs[5]? = some (.string o.t) := by
  have hu : Tryz.prog.underlying (35 : Nat) = some (.struct (Tryz.prog.fieldsOf (35 : Nat))) := by kernel_rfl
  have hf : Tryz.prog.fieldsOf (35 : Nat) = #[⟨"Kind", (3 : Nat), 0, false, "", "", 0⟩, ⟨"A", (3 : Nat), 1, false, "", "", 8⟩, ⟨"B", (3 : Nat), 2, false, "", "", 16⟩, ⟨"C", (3 : Nat), 3, false, "", "", 24⟩, ⟨"S", (9 : Nat), 4, false, "", "", 32⟩, ⟨"T", (9 : Nat), 5, false, "", "", 48⟩] := by kernel_rfl
  have c3 : Tryz.prog.cellsOf (3 : Nat) = 1 := by kernel_rfl
  have c9 : Tryz.prog.cellsOf (9 : Nat) = 1 := by kernel_rfl
  have u3 : Tryz.prog.underlying (3 : Nat) = some (.int .i64) := by kernel_rfl
  have u9 : Tryz.prog.underlying (9 : Nat) = some .string := by kernel_rfl
  obtain ⟨xs, n, _, _, _, hlen, hx⟩ := DataW.trod_struct hu h
  rw [hf] at hlen hx
  have hsz : xs.length = 6 := by simpa using hlen
  match xs, hsz with
  | [y0, y1, y2, y3, y4, y5], _ =>
    have h0 := hx 0 _ rfl
    have h1 := hx 1 _ rfl
    have h2 := hx 2 _ rfl
    have h3 := hx 3 _ rfl
    have h4 := hx 4 _ rfl
    have h5 := hx 5 _ rfl
    replace h0 : DataW.trod enc Tryz.prog W base spare held n (3 : Nat) ((cs.drop 0).take (Tryz.prog.cellsOf (3 : Nat))) = some y0 := h0
    replace h1 : DataW.trod enc Tryz.prog W base spare held n (3 : Nat) ((cs.drop 1).take (Tryz.prog.cellsOf (3 : Nat))) = some y1 := h1
    replace h2 : DataW.trod enc Tryz.prog W base spare held n (3 : Nat) ((cs.drop 2).take (Tryz.prog.cellsOf (3 : Nat))) = some y2 := h2
    replace h3 : DataW.trod enc Tryz.prog W base spare held n (3 : Nat) ((cs.drop 3).take (Tryz.prog.cellsOf (3 : Nat))) = some y3 := h3
    replace h4 : DataW.trod enc Tryz.prog W base spare held n (9 : Nat) ((cs.drop 4).take (Tryz.prog.cellsOf (9 : Nat))) = some y4 := h4
    replace h5 : DataW.trod enc Tryz.prog W base spare held n (9 : Nat) ((cs.drop 5).take (Tryz.prog.cellsOf (9 : Nat))) = some y5 := h5
    rw [c3] at h0 h1 h2 h3
    rw [c9] at h4 h5
    obtain ⟨n0, e0, _, w0⟩ := DataW.trod_int u3 h0
    obtain ⟨n1, e1, _, w1⟩ := DataW.trod_int u3 h1
    obtain ⟨n2, e2, _, w2⟩ := DataW.trod_int u3 h2
    obtain ⟨n3, e3, _, w3⟩ := DataW.trod_int u3 h3
    obtain ⟨s4, e4, _, w4⟩ := DataW.trod_string u9 h4
    obtain ⟨s5, e5, _, w5⟩ := DataW.trod_string u9 h5
    have m : maxLen = 9223372036854775807 := by decide
    refine ⟨⟨n0, n1, n2, n3, s4, s5⟩, ⟨(i64_wf w0).1, (i64_wf w0).2, (i64_wf w1).1, (i64_wf w1).2, (i64_wf w2).1, (i64_wf w2).2, (i64_wf w3).1, (i64_wf w3).2, by rw [m] at w4; exact w4, by rw [m] at w5; exact w5⟩, ?_, ?_, ?_, ?_, ?_, ?_⟩
    · exact take_one e0
    · exact take_one e1
    · exact take_one e2
    · exact take_one e3
    · exact take_one e4
    · exact take_one e5

theorem script_open {H : Type} {enc : TypeId × Value → H} {W : World} {fuel : Nat} {cs : List Value} {x : DataW H × List MemPlace} (h : DataW.trod enc Tryz.prog W 0 (fun _ => true) true fuel (22 : Nat) cs = some x) :
    ∃ a l c, cs = [.slice a l c] ∧ ScriptAt W a l ∧ l ≤ 9223372036854775807 := by
  rcases Go.Deep.open_slice opUnder h with ⟨rfl, _⟩ | ⟨a, len, cap, m, n, D, Pl, rfl, hb, hl, hm, hmm, _, hx⟩
  · exact ⟨none, 0, 0, rfl, .inl rfl, by omega⟩
  · have mx : maxLen = 9223372036854775807 := by decide
    refine ⟨some a, len, cap, rfl, ?_, by omega⟩
    by_cases h0 : len = 0
    · exact .inl h0
    right
    simp only [if_true] at hmm
    subst hmm
    rw [opCells6] at hx
    obtain ⟨b, off, spot⟩ := a
    have hspot : spot = none := by
      obtain ⟨cs', h1, h2⟩ := hx 0 (by omega)
      obtain ⟨_, hlen, hc⟩ := World.cells?_some h1
      obtain ⟨o, hF, g0, _⟩ := op_open h2
      have := World.cell?_spot ((hc 0 (by omega)).trans g0)
      simpa [Addr.add] using this
    subst hspot
    refine ⟨b, off, rfl, fun i hi => ?_⟩
    obtain ⟨cs', h1, h2⟩ := hx i (by omega)
    obtain ⟨_, hlen, hc⟩ := World.cells?_some h1
    obtain ⟨o, hF, g0, g1, g2, g3, g4, g5⟩ := op_open h2
    have key : ∀ k, k < 6 → W.cell? ⟨b, off + i * 6 + k, none⟩ = cs'[k]? := fun k hk => by
      have := hc k hk
      rwa [add_mk, add_mk] at this
    refine ⟨o, hF, ⟨?_, ?_, ?_, ?_, ?_, ?_⟩⟩
    · have := key 0 (by omega); rw [Nat.add_zero] at this; rw [this, g0]
    · rw [key 1 (by omega), g1]
    · rw [key 2 (by omega), g2]
    · rw [key 3 (by omega), g3]
    · rw [key 4 (by omega), g4]
    · rw [key 5 (by omega), g5]

end Go.Proofs.Qxb6500317aGreat
