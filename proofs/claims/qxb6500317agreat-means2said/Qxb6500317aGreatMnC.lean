/-
  The law Means2: the operators' modules.
-/
import Derived.Test.Qxb6500317aGreatWoD
import Derived.Test.Qxb6500317aGreatApC
set_option linter.unusedSimpArgs false
set_option linter.unusedVariables false
set_option maxRecDepth 100000
set_option linter.unusedSectionVars false
set_option maxHeartbeats 4000000
namespace Go.Proofs.Qxb6500317aGreat
open Go Go.Vc

def opT2 (ta tr to : ByteArray) : ByteArray := ((((((((⟨#[0, 97, 115, 109, 1, 0, 0, 0]⟩ : ByteArray) ++ (⟨#[1, 7, 1, 96, 2]⟩ : ByteArray)) ++ ta) ++ ta) ++ (((⟨#[1]⟩ : ByteArray) ++ tr) ++ (⟨#[3, 2, 1, 0, 7, 5, 1, 1, 102, 0, 0]⟩ : ByteArray))) ++ (⟨#[10, 9, 1, 7, 0, 32, 0, 32, 1]⟩ : ByteArray)) ++ to) ++ (⟨#[11]⟩ : ByteArray))
def opT1 (ta tr to : ByteArray) : ByteArray := (((((((⟨#[0, 97, 115, 109, 1, 0, 0, 0]⟩ : ByteArray) ++ (⟨#[1, 6, 1, 96, 1]⟩ : ByteArray)) ++ ta) ++ (((⟨#[1]⟩ : ByteArray) ++ tr) ++ (⟨#[3, 2, 1, 0, 7, 5, 1, 1, 102, 0, 0]⟩ : ByteArray))) ++ (⟨#[10, 7, 1, 5, 0, 32, 0]⟩ : ByteArray)) ++ to) ++ (⟨#[11]⟩ : ByteArray))
def opText (op : Int) : ByteArray := if (api_NumSig.F op).1 = 2 then opT2 (strOfNums [(api_NumSig.F op).2.1]) (strOfNums [(api_NumSig.F op).2.2]) (strOfNums [IntKind.wrap .u8 op]) else opT1 (strOfNums [(api_NumSig.F op).2.1]) (strOfNums [(api_NumSig.F op).2.2]) (strOfNums [IntKind.wrap .u8 op])
theorem run_one (t : Int) (w : World) {b2 : Nat} {w3 : World} (hb : b2 = w.heap.size) (hw : w3 = w.alloc (.cells #[.int .u8 t] T_uint8)) : Sem.run Tryz.prog (Go.convert T_sl_uint8 T_string (.slice (some ⟨b2, 0, none⟩) 1 1)) w3 = .ok (.string (strOfNums [t])) w3 ∧ Same [] w.heap.size w w3 := by
  have c3 : w3.cell? ⟨b2, 0, none⟩ = some (.int .u8 t) := by rw [hw, hb, World.cell?_alloc_new]; rfl
  refine ⟨run_convert_bytes_arg w3 T_sl_uint8 T_uint8 (by kernel_rfl) (by kernel_rfl) b2 0 1 1 [t] rfl (fun j hj => by
      have : j = 0 := by omega
      subst this
      exact c3) T_string (by kernel_rfl), ?_⟩
  rw [hw]; exact (Same.refl _ _ _).alloc (Nat.le_refl _) _
theorem OpModule_spec (op : Int) (w : World) : Runs Tryz.prog execlaw_OpModule.id #[.int .i64 op] w fun v w' => v = .string (opText op) ∧ Same [] w.heap.size w w' := by
  refine execlaw_OpModule.enter _ _ _ _ ?_
  unfold execlaw_OpModule.V
  refine RunsQ.post (api_NumSig.pure _ _) ?_
  rintro v w3 ⟨rfl, hw3⟩
  subst hw3
  unfold opText
  refine ⟨_, _, _, rfl, letB_intro fun b7 hb7 => letW_intro fun w8 hw8 => ?_⟩
  obtain ⟨r8, S8⟩ := run_one _ _ hb7 hw8
  refine ⟨_, _, r8, letB_intro fun b11 hb11 => letW_intro fun w12 hw12 => ?_⟩
  obtain ⟨r12, S12⟩ := run_one _ _ hb11 hw12
  refine ⟨_, _, r12, letB_intro fun b15 hb15 => letW_intro fun w16 hw16 => ?_⟩
  obtain ⟨r16, S16⟩ := run_one _ _ hb15 hw16
  have T16 := Same.more (B := 0) (Same.more (B := 0) S8 S12) S16
  have l1 : ∀ t : Int, (strOfNums [t]).size = 1 := fun t => by rw [strOfNums_size]; rfl
  have z1 : (⟨#[1]⟩ : ByteArray).size = 1 := rfl
  have z2 : (⟨#[3, 2, 1, 0, 7, 5, 1, 1, 102, 0, 0]⟩ : ByteArray).size = 11 := rfl
  have z3 : (⟨#[0, 97, 115, 109, 1, 0, 0, 0]⟩ : ByteArray).size = 8 := rfl
  have z4 : (⟨#[1, 7, 1, 96, 2]⟩ : ByteArray).size = 5 := rfl
  have z5 : (⟨#[10, 9, 1, 7, 0, 32, 0, 32, 1]⟩ : ByteArray).size = 9 := rfl
  have z6 : (⟨#[11]⟩ : ByteArray).size = 1 := rfl
  have z7 : (⟨#[1, 6, 1, 96, 1]⟩ : ByteArray).size = 5 := rfl
  have z8 : (⟨#[10, 7, 1, 5, 0, 32, 0]⟩ : ByteArray).size = 7 := rfl
  refine ⟨_, _, r16, ?_⟩
  simp only [M.size_app, l1, z1, z2, z3, z4, z5, z6, z7, z8]
  refine ⟨by omega, by omega, ?_⟩
  by_cases q : (api_NumSig.F op).1 = 2
  · refine cond_true' (by rw [q]; rfl) ⟨by omega, by omega, by omega, by omega, by omega, by omega, by omega, ?_⟩
    rw [if_pos q]
    exact ⟨rfl, T16⟩
  · refine cond_false' (ne_beq q) ⟨by omega, by omega, by omega, by omega, by omega, by omega, ?_⟩
    rw [if_neg q]
    exact ⟨rfl, T16⟩
def u8i (x : Int) : UInt8 := UInt8.ofNat x.toNat
def opLit (k : Nat) : ByteArray :=
  if (U.sg (k : Int)).1 = 2 then ⟨#[0, 97, 115, 109, 1, 0, 0, 0, 1, 7, 1, 96, 2, u8i (U.sg (k : Int)).2.1, u8i (U.sg (k : Int)).2.1, 1, u8i (U.sg (k : Int)).2.2, 3, 2, 1, 0, 7, 5, 1, 1, 102, 0, 0, 10, 9, 1, 7, 0, 32, 0, 32, 1, UInt8.ofNat k, 11]⟩
  else ⟨#[0, 97, 115, 109, 1, 0, 0, 0, 1, 6, 1, 96, 1, u8i (U.sg (k : Int)).2.1, 1, u8i (U.sg (k : Int)).2.2, 3, 2, 1, 0, 7, 5, 1, 1, 102, 0, 0, 10, 7, 1, 5, 0, 32, 0, UInt8.ofNat k, 11]⟩
def fOp (k : Nat) : FF := if (U.sg (k : Int)).1 = 2 then ⟨2, 2, 1, [⟨32, 0, 0⟩, ⟨32, 1, 0⟩, ⟨(k : Int), 0, 0⟩, ⟨11, 0, 0⟩]⟩ else ⟨1, 1, 1, [⟨32, 0, 0⟩, ⟨(k : Int), 0, 0⟩, ⟨11, 0, 0⟩]⟩
/-- All that matters of an operator's module. -/
structure OpF where
  a1 : ByteArray
  a2 : ByteArray
  a3 : Bool
  a4 : Int
  a5 : Bool
  a6 : Sum (Nat × Nat) (List FF)
  a7 : Nat × Nat × Nat × Int × Int
  a8 : List Int
  a9 : Int
  b1 : Bool
  b2 : Nat
def factO (s : M.MS) (k : Nat) : OpF := ⟨opText (k : Int), ByteArray.extract (opLit k) 0 8, isOk (opLit k), (validV (okP (opLit k))).2.2, allOk (okP (opLit k)), comp (okP (opLit k)), ((okP (opLit k)).nIm, (okP (opLit k)).nf, (okP (opLit k)).nEx, (okP (opLit k)).start, findP (okP (opLit k)) ⟨#[102]⟩), (List.range 6).map (fsG (okP (opLit k)) 0), (settleP (okP (opLit k)) 0 s).2.2.1, exec_two.F (k : Int), (opLit k).size⟩
def expO (k : Nat) : OpF := ⟨opLit k, ⟨#[0, 97, 115, 109, 1, 0, 0, 0]⟩, true, 0, true, .inr [fOp k], (0, 1, 1, -1, 0), [(U.sg (k : Int)).1, (U.sg (k : Int)).2.1, if (U.sg (k : Int)).1 = 2 then (U.sg (k : Int)).2.1 else 0, 0, 0, (U.sg (k : Int)).2.2], 0, decide ((U.sg (k : Int)).1 = 2), if (U.sg (k : Int)).1 = 2 then 39 else 36⟩
theorem allO (s : M.MS) : (List.range 123).map (fun j => factO s (69 + j)) = (List.range 123).map (fun j => expO (69 + j)) := by kernel_rfl
theorem atO (s : M.MS) {k : Nat} (h0 : 69 ≤ k) (h1 : k ≤ 191) : factO s k = expO k := by
  have e := congrArg (fun l => l[k - 69]?) (allO s)
  simp only [List.getElem?_map, List.getElem?_range (show k - 69 < 123 by omega), Option.map_some, Option.some.injEq] at e
  rw [show 69 + (k - 69) = k by omega] at e
  exact e
section
variable {k : Nat}
theorem tkO (h0 : 69 ≤ k) (h1 : k ≤ 191) : Taken (opText (k : Int)) (okP (opLit k)) [fOp k] := by
  have e := atO M.ms0 h0 h1
  have e1 : opText (k : Int) = opLit k := congrArg OpF.a1 e
  have e2 : ByteArray.extract (opLit k) 0 8 = ⟨#[0, 97, 115, 109, 1, 0, 0, 0]⟩ := congrArg OpF.a2 e
  have e3 : isOk (opLit k) = true := congrArg OpF.a3 e
  have e4 : (validV (okP (opLit k))).2.2 = 0 := congrArg OpF.a4 e
  have e5 : allOk (okP (opLit k)) = true := congrArg OpF.a5 e
  have e6 : comp (okP (opLit k)) = .inr [fOp k] := congrArg OpF.a6 e
  have e7 : (opLit k).size = if (U.sg (k : Int)).1 = 2 then 39 else 36 := congrArg OpF.b2 e
  rw [e1]
  exact taken_of (by rw [e7]; split <;> omega) (by rw [e7]; split <;> omega) e2 e3 e4 e5 e6
theorem opN (h0 : 69 ≤ k) (h1 : k ≤ 191) : (okP (opLit k)).nIm = 0 ∧ (okP (opLit k)).nf = 1 ∧ (okP (opLit k)).nEx = 1 ∧ (okP (opLit k)).start = -1 ∧ findP (okP (opLit k)) ⟨#[102]⟩ = 0 := by
  have e : ((okP (opLit k)).nIm, (okP (opLit k)).nf, (okP (opLit k)).nEx, (okP (opLit k)).start, findP (okP (opLit k)) ⟨#[102]⟩) = (0, 1, 1, -1, 0) := congrArg OpF.a7 (atO M.ms0 h0 h1)
  simp only [Prod.mk.injEq] at e
  exact e
theorem opG (h0 : 69 ≤ k) (h1 : k ≤ 191) : fsG (okP (opLit k)) 0 0 = (U.sg (k : Int)).1 ∧ fsG (okP (opLit k)) 0 1 = (U.sg (k : Int)).2.1 ∧ ((U.sg (k : Int)).1 = 2 → fsG (okP (opLit k)) 0 2 = (U.sg (k : Int)).2.1) ∧ fsG (okP (opLit k)) 0 5 = (U.sg (k : Int)).2.2 := by
  have e : (List.range 6).map (fsG (okP (opLit k)) 0) = [(U.sg (k : Int)).1, (U.sg (k : Int)).2.1, if (U.sg (k : Int)).1 = 2 then (U.sg (k : Int)).2.1 else 0, 0, 0, (U.sg (k : Int)).2.2] := congrArg OpF.a8 (atO M.ms0 h0 h1)
  have e0 := congrArg (fun l => l[0]?) e
  have e1 := congrArg (fun l => l[1]?) e
  have e2 := congrArg (fun l => l[2]?) e
  have e5 := congrArg (fun l => l[5]?) e
  exact ⟨Option.some.inj e0, Option.some.inj e1, fun q => (Option.some.inj e2).trans (if_pos q), Option.some.inj e5⟩
theorem opS (s : M.MS) (h0 : 69 ≤ k) (h1 : k ≤ 191) : (settleP (okP (opLit k)) 0 s).2.2.1 = 0 := congrArg OpF.a9 (atO s h0 h1)
theorem opTwo (h0 : 69 ≤ k) (h1 : k ≤ 191) : exec_two.F (k : Int) = decide ((U.sg (k : Int)).1 = 2) := congrArg OpF.b1 (atO M.ms0 h0 h1)
end
end Go.Proofs.Qxb6500317aGreat
