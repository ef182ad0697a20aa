/-
  Made by tools/vcgen.py for seat Qxb6500320a: the conditions of each function.
-/
import Derived.Test.Qxb6500320aLib
import Derived.Test.Qxb6500320aProg
set_option linter.unusedVariables false
set_option maxRecDepth 100000
set_option maxHeartbeats 4000000
namespace Go.Proofs.Qxb6500320a
open Go Go.Vc
theorem good_all : (Try.prog.funcs.all fun fn => !(fn.name == "runtime.NumGoroutine")) = true := by decide +kernel
theorem good : Good Try.prog := by
  intro f fn hf
  have h := Array.all_eq_true_iff_forall_mem.1 good_all fn (Array.mem_of_getElem? hf)
  simpa using h
theorem mixed : Try.prog.follows .mixedOrders = true := by kernel_rfl
abbrev T_int64 : Nat := 2
abbrev T_int32 : Nat := 21
abbrev T_api_Op : Nat := 27
abbrev T_numlaw_Fmt : Nat := 37
abbrev T_api_Ans : Nat := 47
abbrev T_float32 : Nat := 72
abbrev T_float64 : Nat := 75
abbrev numlaw_KeepsEnds.id : Nat := 3
abbrev numlaw_KeepsFloat.id : Nat := 4
abbrev numlaw_Keeps.id : Nat := 5
abbrev numlaw_Refines.id : Nat := 6
abbrev numlaw_RefinesQuiet.id : Nat := 7
abbrev numlaw_KeepsPlain.id : Nat := 9
abbrev numlaw_KeepsEndsUpTo.id : Nat := 10
abbrev numlaw_KeepsFloatUpTo.id : Nat := 11
abbrev numlaw_KeepsUpTo.id : Nat := 12
abbrev numlaw_RefinesUpTo.id : Nat := 13
abbrev numlaw_KeepsPlainUpTo.id : Nat := 15
abbrev numlaw_KeptE.id : Nat := 16
abbrev numlaw_KeptF.id : Nat := 17
abbrev numlaw_Kept.id : Nat := 18
abbrev numlaw_walk.id : Nat := 19
abbrev numlaw_KeptP.id : Nat := 21
abbrev numlaw_Words.id : Nat := 22
abbrev numlaw_KeptEnd.id : Nat := 23
abbrev api_NumSig.id : Nat := 24
abbrev numlaw_F32.id : Nat := 25
abbrev numlaw_KeptRoot.id : Nat := 26
abbrev numlaw_F64.id : Nat := 27
abbrev numlaw_KeptCanon.id : Nat := 28
abbrev numlaw_KeptInts.id : Nat := 29
abbrev numlaw_KeptBits.id : Nat := 30
abbrev numlaw_KeptOrder.id : Nat := 31
abbrev numlaw_KeptBack.id : Nat := 32
abbrev numlaw_KeptShape.id : Nat := 33
abbrev numlaw_KeptInt.id : Nat := 34
abbrev numlaw_KeptDiv.id : Nat := 35
abbrev numlaw_Do.id : Nat := 36
abbrev numlaw_DoM.id : Nat := 37
abbrev num_Apply.id : Nat := 38
abbrev numlaw_KeptWord.id : Nat := 40
abbrev numlaw_KeptRel.id : Nat := 41
abbrev numlaw_KeptConv.id : Nat := 42
abbrev numlaw_KeptWiden.id : Nat := 43
abbrev numlaw_KeptPromote.id : Nat := 44
abbrev numlaw_KeptNaN.id : Nat := 45
abbrev numlaw_keptFloat.id : Nat := 46
abbrev numlaw_KeptDemote.id : Nat := 47
abbrev api_Word.id : Nat := 48
abbrev numlaw_End.id : Nat := 49
abbrev numlaw_CutOf.id : Nat := 50
abbrev numlaw_ap.id : Nat := 51
abbrev numlaw_Part.id : Nat := 52
abbrev numlaw_Shl.id : Nat := 53
abbrev numlaw_Sq.id : Nat := 54
abbrev api_Cut.id : Nat := 55
abbrev numlaw_Mag.id : Nat := 56
abbrev numm_Apply.id : Nat := 57
abbrev num_flag.id : Nat := 58
abbrev num_rel32.id : Nat := 59
abbrev num_rel64.id : Nat := 60
abbrev num_relF32.id : Nat := 61
abbrev math_Float32frombits.id : Nat := 62
abbrev num_relF64.id : Nat := 63
abbrev math_Float64frombits.id : Nat := 64
abbrev num_int32s.id : Nat := 65
abbrev num_int64s.id : Nat := 66
abbrev num_float32s.id : Nat := 67
abbrev num_float64s.id : Nat := 68
abbrev num_conv.id : Nat := 69
abbrev numlaw_Nearest.id : Nat := 73
abbrev numlaw_KeptKey.id : Nat := 74
abbrev numlaw_KeptSmall.id : Nat := 75
abbrev numlaw_KeptZero.id : Nat := 76
abbrev numlaw_KeptInf.id : Nat := 77
abbrev numlaw_KeptWhole.id : Nat := 78
abbrev numm_flag.id : Nat := 79
abbrev numm_intCmp.id : Nat := 80
abbrev numm_fltCmp.id : Nat := 81
abbrev numm_intUn.id : Nat := 82
abbrev numm_intBin.id : Nat := 83
abbrev numm_fltUn.id : Nat := 84
abbrev numm_fltBin.id : Nat := 85
abbrev numm_convert.id : Nat := 86
abbrev num_clz32.id : Nat := 87
abbrev num_pop32.id : Nat := 88
abbrev num_clz64.id : Nat := 89
abbrev num_pop64.id : Nat := 90
abbrev num_canon32.id : Nat := 91
abbrev num_ceil32.id : Nat := 92
abbrev num_floor32.id : Nat := 93
abbrev num_cut32.id : Nat := 94
abbrev num_near32.id : Nat := 95
abbrev math_Sqrt.id : Nat := 96
abbrev num_least32.id : Nat := 97
abbrev num_most32.id : Nat := 98
abbrev num_canon64.id : Nat := 99
abbrev num_ceil64.id : Nat := 100
abbrev num_floor64.id : Nat := 101
abbrev num_cut64.id : Nat := 102
abbrev num_near64.id : Nat := 103
abbrev num_least64.id : Nat := 104
abbrev num_most64.id : Nat := 105
abbrev math_Float32bits.id : Nat := 106
abbrev math_Float64bits.id : Nat := 107
abbrev numlaw_Key.id : Nat := 110
abbrev numm_top.id : Nat := 111
abbrev numm_mask.id : Nat := 112
abbrev numm_isNaN.id : Nat := 113
abbrev numm_isZero.id : Nat := 114
abbrev numm_key.id : Nat := 115
abbrev numm_minus.id : Nat := 116
abbrev numm_divS.id : Nat := 117
abbrev numm_sqrt.id : Nat := 118
abbrev numm_whole.id : Nat := 119
abbrev numm_canon.id : Nat := 120
abbrev numm_add.id : Nat := 121
abbrev numm_mul.id : Nat := 122
abbrev numm_div.id : Nat := 123
abbrev numm_toInt.id : Nat := 124
abbrev numm_fromInt.id : Nat := 125
abbrev numm_reformat.id : Nat := 126
abbrev math_sqrt.id : Nat := 127
abbrev numm_infOf.id : Nat := 129
abbrev numm_mag.id : Nat := 130
abbrev numm_unpack.id : Nat := 131
abbrev numm_lift.id : Nat := 132
abbrev numm_round.id : Nat := 133
abbrev numm_prec.id : Nat := 134
abbrev numm_bias.id : Nat := 135
abbrev numm_sign.id : Nat := 136
abbrev numm_infinity.id : Nat := 137
abbrev numm_mul64.id : Nat := 138
abbrev numm_fit.id : Nat := 139

/-! e2e/numlaw.KeepsEnds -/
def numlaw_KeepsEnds.cuts : List (Nat × List Nat) := []
def numlaw_KeepsEnds.V (script_0 : Option Addr) (script_0l : Nat) (script_0c : Nat) (R : Value → World → Prop) (w : World) : Prop :=
  (Runs Try.prog numlaw_KeepsEndsUpTo.id #[(.slice script_0 script_0l script_0c)] w fun r4 w5 => (∃ x6 : Int, (r4 = (.int .i64 x6) ∧ (R (.bool (x6 == (-1))) w5))))
theorem numlaw_KeepsEnds.enter (script_0 : Option Addr) (script_0l : Nat) (script_0c : Nat) (R : Value → World → Prop) (w : World) (h : numlaw_KeepsEnds.V script_0 script_0l script_0c R w) : Runs Try.prog numlaw_KeepsEnds.id #[(.slice script_0 script_0l script_0c)] w R :=
  Runs.enter (c := bodyOf Try.f3) (N := 6) Try.func3 (by kernel_rfl) (by kernel_rfl) (by kernel_rfl) (seg_T good mixed Try.func3 600 false [.code (bodyOf Try.f3)] [(0, (.slice script_0 script_0l script_0c))] w (Eq.mp (show numlaw_KeepsEnds.V script_0 script_0l script_0c R w = seg Try.prog 3 6 Try.f3.results.toList numlaw_KeepsEnds.cuts R 600 false [.code (bodyOf Try.f3)] [(0, (.slice script_0 script_0l script_0c))] w by kernel_rfl) h))

/-! e2e/numlaw.KeepsFloat -/
def numlaw_KeepsFloat.cuts : List (Nat × List Nat) := []
def numlaw_KeepsFloat.V (script_0 : Option Addr) (script_0l : Nat) (script_0c : Nat) (R : Value → World → Prop) (w : World) : Prop :=
  (Runs Try.prog numlaw_KeepsFloatUpTo.id #[(.slice script_0 script_0l script_0c)] w fun r4 w5 => (∃ x6 : Int, (r4 = (.int .i64 x6) ∧ (R (.bool (x6 == (-1))) w5))))
theorem numlaw_KeepsFloat.enter (script_0 : Option Addr) (script_0l : Nat) (script_0c : Nat) (R : Value → World → Prop) (w : World) (h : numlaw_KeepsFloat.V script_0 script_0l script_0c R w) : Runs Try.prog numlaw_KeepsFloat.id #[(.slice script_0 script_0l script_0c)] w R :=
  Runs.enter (c := bodyOf Try.f4) (N := 6) Try.func4 (by kernel_rfl) (by kernel_rfl) (by kernel_rfl) (seg_T good mixed Try.func4 600 false [.code (bodyOf Try.f4)] [(0, (.slice script_0 script_0l script_0c))] w (Eq.mp (show numlaw_KeepsFloat.V script_0 script_0l script_0c R w = seg Try.prog 4 6 Try.f4.results.toList numlaw_KeepsFloat.cuts R 600 false [.code (bodyOf Try.f4)] [(0, (.slice script_0 script_0l script_0c))] w by kernel_rfl) h))

/-! e2e/numlaw.Keeps -/
def numlaw_Keeps.cuts : List (Nat × List Nat) := []
def numlaw_Keeps.V (script_0 : Option Addr) (script_0l : Nat) (script_0c : Nat) (R : Value → World → Prop) (w : World) : Prop :=
  (Runs Try.prog numlaw_KeepsUpTo.id #[(.slice script_0 script_0l script_0c)] w fun r4 w5 => (∃ x6 : Int, (r4 = (.int .i64 x6) ∧ (R (.bool (x6 == (-1))) w5))))
theorem numlaw_Keeps.enter (script_0 : Option Addr) (script_0l : Nat) (script_0c : Nat) (R : Value → World → Prop) (w : World) (h : numlaw_Keeps.V script_0 script_0l script_0c R w) : Runs Try.prog numlaw_Keeps.id #[(.slice script_0 script_0l script_0c)] w R :=
  Runs.enter (c := bodyOf Try.f5) (N := 6) Try.func5 (by kernel_rfl) (by kernel_rfl) (by kernel_rfl) (seg_T good mixed Try.func5 600 false [.code (bodyOf Try.f5)] [(0, (.slice script_0 script_0l script_0c))] w (Eq.mp (show numlaw_Keeps.V script_0 script_0l script_0c R w = seg Try.prog 5 6 Try.f5.results.toList numlaw_Keeps.cuts R 600 false [.code (bodyOf Try.f5)] [(0, (.slice script_0 script_0l script_0c))] w by kernel_rfl) h))

/-! e2e/numlaw.Refines -/
def numlaw_Refines.cuts : List (Nat × List Nat) := []
def numlaw_Refines.V (script_0 : Option Addr) (script_0l : Nat) (script_0c : Nat) (R : Value → World → Prop) (w : World) : Prop :=
  (Runs Try.prog numlaw_RefinesUpTo.id #[(.slice script_0 script_0l script_0c)] w fun r4 w5 => (∃ x6 : Int, (r4 = (.int .i64 x6) ∧ (R (.bool (x6 == (-1))) w5))))
theorem numlaw_Refines.enter (script_0 : Option Addr) (script_0l : Nat) (script_0c : Nat) (R : Value → World → Prop) (w : World) (h : numlaw_Refines.V script_0 script_0l script_0c R w) : Runs Try.prog numlaw_Refines.id #[(.slice script_0 script_0l script_0c)] w R :=
  Runs.enter (c := bodyOf Try.f6) (N := 6) Try.func6 (by kernel_rfl) (by kernel_rfl) (by kernel_rfl) (seg_T good mixed Try.func6 600 false [.code (bodyOf Try.f6)] [(0, (.slice script_0 script_0l script_0c))] w (Eq.mp (show numlaw_Refines.V script_0 script_0l script_0c R w = seg Try.prog 6 6 Try.f6.results.toList numlaw_Refines.cuts R 600 false [.code (bodyOf Try.f6)] [(0, (.slice script_0 script_0l script_0c))] w by kernel_rfl) h))

/-! e2e/numlaw.RefinesQuiet -/
def numlaw_RefinesQuiet.cuts : List (Nat × List Nat) := []
def numlaw_RefinesQuiet.V (script_0 : Option Addr) (script_0l : Nat) (script_0c : Nat) (R : Value → World → Prop) (w : World) : Prop :=
  (Runs Try.prog numlaw_RefinesUpTo.id #[(.slice script_0 script_0l script_0c)] w fun r4 w5 => (∃ x6 : Int, (r4 = (.int .i64 x6) ∧ (R (.bool (x6 == (-1))) w5))))
theorem numlaw_RefinesQuiet.enter (script_0 : Option Addr) (script_0l : Nat) (script_0c : Nat) (R : Value → World → Prop) (w : World) (h : numlaw_RefinesQuiet.V script_0 script_0l script_0c R w) : Runs Try.prog numlaw_RefinesQuiet.id #[(.slice script_0 script_0l script_0c)] w R :=
  Runs.enter (c := bodyOf Try.f7) (N := 6) Try.func7 (by kernel_rfl) (by kernel_rfl) (by kernel_rfl) (seg_T good mixed Try.func7 600 false [.code (bodyOf Try.f7)] [(0, (.slice script_0 script_0l script_0c))] w (Eq.mp (show numlaw_RefinesQuiet.V script_0 script_0l script_0c R w = seg Try.prog 7 6 Try.f7.results.toList numlaw_RefinesQuiet.cuts R 600 false [.code (bodyOf Try.f7)] [(0, (.slice script_0 script_0l script_0c))] w by kernel_rfl) h))

/-! e2e/numlaw.KeepsPlain -/
def numlaw_KeepsPlain.cuts : List (Nat × List Nat) := []
def numlaw_KeepsPlain.V (script_0 : Option Addr) (script_0l : Nat) (script_0c : Nat) (R : Value → World → Prop) (w : World) : Prop :=
  (Runs Try.prog numlaw_KeepsPlainUpTo.id #[(.slice script_0 script_0l script_0c)] w fun r4 w5 => (∃ x6 : Int, (r4 = (.int .i64 x6) ∧ (R (.bool (x6 == (-1))) w5))))
theorem numlaw_KeepsPlain.enter (script_0 : Option Addr) (script_0l : Nat) (script_0c : Nat) (R : Value → World → Prop) (w : World) (h : numlaw_KeepsPlain.V script_0 script_0l script_0c R w) : Runs Try.prog numlaw_KeepsPlain.id #[(.slice script_0 script_0l script_0c)] w R :=
  Runs.enter (c := bodyOf Try.f9) (N := 6) Try.func9 (by kernel_rfl) (by kernel_rfl) (by kernel_rfl) (seg_T good mixed Try.func9 600 false [.code (bodyOf Try.f9)] [(0, (.slice script_0 script_0l script_0c))] w (Eq.mp (show numlaw_KeepsPlain.V script_0 script_0l script_0c R w = seg Try.prog 9 6 Try.f9.results.toList numlaw_KeepsPlain.cuts R 600 false [.code (bodyOf Try.f9)] [(0, (.slice script_0 script_0l script_0c))] w by kernel_rfl) h))

/-! e2e/numlaw.KeepsEndsUpTo -/
def numlaw_KeepsEndsUpTo.cuts : List (Nat × List Nat) := [(5, [0, 3]), (6, [0, 3])]
def numlaw_KeepsEndsUpTo.L1 (script_0 : Option Addr) (script_0l : Nat) (script_0c : Nat) (n_3 : Int) (R : Value → World → Prop) (w : World) : Prop :=
  T Try.prog 10 23 [.inLoop (sub (bodyOf Try.f10) [1, 1, 0, 0, 0]), .inBlock 0, .code (sub (bodyOf Try.f10) [1, 1, 1])] [(0, (.slice script_0 script_0l script_0c)), (3, (.int .i64 n_3))] w R
def numlaw_KeepsEndsUpTo.L2 (script_0 : Option Addr) (script_0l : Nat) (script_0c : Nat) (n_3 : Int) (R : Value → World → Prop) (w : World) : Prop :=
  T Try.prog 10 23 [.code (sub (bodyOf Try.f10) [1, 1, 0, 0, 0, 1]), .inLoop (sub (bodyOf Try.f10) [1, 1, 0, 0, 0]), .inBlock 0, .code (sub (bodyOf Try.f10) [1, 1, 1])] [(0, (.slice script_0 script_0l script_0c)), (3, (.int .i64 n_3))] w R
def numlaw_KeepsEndsUpTo.V1 (script_0 : Option Addr) (script_0l : Nat) (script_0c : Nat) (n_3 : Int) (R : Value → World → Prop) (w : World) : Prop :=
  (cond (decide (n_3 < ((script_0l : Nat) : Int)))
  (cond (decide (n_3 < (4398046511104 : Int)))
  (numlaw_KeepsEndsUpTo.L2 script_0 script_0l script_0c n_3 R w)
  (R (.int .i64 (-1)) w))
  (R (.int .i64 (-1)) w))
theorem numlaw_KeepsEndsUpTo.step1 (script_0 : Option Addr) (script_0l : Nat) (script_0c : Nat) (n_3 : Int) (R : Value → World → Prop) (w : World) (h : numlaw_KeepsEndsUpTo.V1 script_0 script_0l script_0c n_3 R w) : numlaw_KeepsEndsUpTo.L1 script_0 script_0l script_0c n_3 R w :=
  seg_T good mixed Try.func10 600 false [.inLoop (sub (bodyOf Try.f10) [1, 1, 0, 0, 0]), .inBlock 0, .code (sub (bodyOf Try.f10) [1, 1, 1])] [(0, (.slice script_0 script_0l script_0c)), (3, (.int .i64 n_3))] w (Eq.mp (show numlaw_KeepsEndsUpTo.V1 script_0 script_0l script_0c n_3 R w = seg Try.prog 10 23 Try.f10.results.toList numlaw_KeepsEndsUpTo.cuts R 600 false [.inLoop (sub (bodyOf Try.f10) [1, 1, 0, 0, 0]), .inBlock 0, .code (sub (bodyOf Try.f10) [1, 1, 1])] [(0, (.slice script_0 script_0l script_0c)), (3, (.int .i64 n_3))] w by kernel_rfl) h)
def numlaw_KeepsEndsUpTo.V2 (script_0 : Option Addr) (script_0l : Nat) (script_0c : Nat) (n_3 : Int) (R : Value → World → Prop) (w : World) : Prop :=
  ((0 ≤ n_3 ∧ n_3 < ((script_0l : Nat) : Int)) ∧ nilV script_0 fun a1 => (∃ x2 : Int, ∃ x3 : Int, ∃ x4 : Int, ∃ x5 : Int, ∃ x6 : ByteArray, ∃ x7 : ByteArray, World.cell? w (Addr.add a1 (Int.toNat n_3 * 6)) = some (.int .i64 x2) ∧ World.cell? w ⟨(Addr.block (Addr.add a1 (Int.toNat n_3 * 6))), (Addr.off (Addr.add a1 (Int.toNat n_3 * 6)) + 1), none⟩ = some (.int .i64 x3) ∧ World.cell? w ⟨(Addr.block (Addr.add a1 (Int.toNat n_3 * 6))), (Addr.off (Addr.add a1 (Int.toNat n_3 * 6)) + 2), none⟩ = some (.int .i64 x4) ∧ World.cell? w ⟨(Addr.block (Addr.add a1 (Int.toNat n_3 * 6))), (Addr.off (Addr.add a1 (Int.toNat n_3 * 6)) + 3), none⟩ = some (.int .i64 x5) ∧ World.cell? w ⟨(Addr.block (Addr.add a1 (Int.toNat n_3 * 6))), (Addr.off (Addr.add a1 (Int.toNat n_3 * 6)) + 4), none⟩ = some (.string x6) ∧ World.cell? w ⟨(Addr.block (Addr.add a1 (Int.toNat n_3 * 6))), (Addr.off (Addr.add a1 (Int.toNat n_3 * 6)) + 5), none⟩ = some (.string x7) ∧ (Runs Try.prog numlaw_KeptE.id #[(.agg #[(.int .i64 x2), (.int .i64 x3), (.int .i64 x4), (.int .i64 x5), (.string x6), (.string x7)])] w fun r8 w9 => (∃ x10 : Bool, (r8 = (.bool x10) ∧ (cond (!x10)
  (R (.int .i64 n_3) w9)
  (numlaw_KeepsEndsUpTo.L1 script_0 script_0l script_0c (IntKind.wrap .i64 (n_3 + (1 : Int))) R w9)))))))
theorem numlaw_KeepsEndsUpTo.step2 (script_0 : Option Addr) (script_0l : Nat) (script_0c : Nat) (n_3 : Int) (R : Value → World → Prop) (w : World) (h : numlaw_KeepsEndsUpTo.V2 script_0 script_0l script_0c n_3 R w) : numlaw_KeepsEndsUpTo.L2 script_0 script_0l script_0c n_3 R w :=
  seg_T good mixed Try.func10 600 false [.code (sub (bodyOf Try.f10) [1, 1, 0, 0, 0, 1]), .inLoop (sub (bodyOf Try.f10) [1, 1, 0, 0, 0]), .inBlock 0, .code (sub (bodyOf Try.f10) [1, 1, 1])] [(0, (.slice script_0 script_0l script_0c)), (3, (.int .i64 n_3))] w (Eq.mp (show numlaw_KeepsEndsUpTo.V2 script_0 script_0l script_0c n_3 R w = seg Try.prog 10 23 Try.f10.results.toList numlaw_KeepsEndsUpTo.cuts R 600 false [.code (sub (bodyOf Try.f10) [1, 1, 0, 0, 0, 1]), .inLoop (sub (bodyOf Try.f10) [1, 1, 0, 0, 0]), .inBlock 0, .code (sub (bodyOf Try.f10) [1, 1, 1])] [(0, (.slice script_0 script_0l script_0c)), (3, (.int .i64 n_3))] w by kernel_rfl) h)
def numlaw_KeepsEndsUpTo.V (script_0 : Option Addr) (script_0l : Nat) (script_0c : Nat) (R : Value → World → Prop) (w : World) : Prop :=
  (numlaw_KeepsEndsUpTo.L1 script_0 script_0l script_0c 0 R w)
theorem numlaw_KeepsEndsUpTo.enter (script_0 : Option Addr) (script_0l : Nat) (script_0c : Nat) (R : Value → World → Prop) (w : World) (h : numlaw_KeepsEndsUpTo.V script_0 script_0l script_0c R w) : Runs Try.prog numlaw_KeepsEndsUpTo.id #[(.slice script_0 script_0l script_0c)] w R :=
  Runs.enter (c := bodyOf Try.f10) (N := 23) Try.func10 (by kernel_rfl) (by kernel_rfl) (by kernel_rfl) (seg_T good mixed Try.func10 600 false [.code (bodyOf Try.f10)] [(0, (.slice script_0 script_0l script_0c))] w (Eq.mp (show numlaw_KeepsEndsUpTo.V script_0 script_0l script_0c R w = seg Try.prog 10 23 Try.f10.results.toList numlaw_KeepsEndsUpTo.cuts R 600 false [.code (bodyOf Try.f10)] [(0, (.slice script_0 script_0l script_0c))] w by kernel_rfl) h))

/-! e2e/numlaw.KeepsFloatUpTo -/
def numlaw_KeepsFloatUpTo.cuts : List (Nat × List Nat) := [(5, [0, 3]), (6, [0, 3])]
def numlaw_KeepsFloatUpTo.L1 (script_0 : Option Addr) (script_0l : Nat) (script_0c : Nat) (n_3 : Int) (R : Value → World → Prop) (w : World) : Prop :=
  T Try.prog 11 23 [.inLoop (sub (bodyOf Try.f11) [1, 1, 0, 0, 0]), .inBlock 0, .code (sub (bodyOf Try.f11) [1, 1, 1])] [(0, (.slice script_0 script_0l script_0c)), (3, (.int .i64 n_3))] w R
def numlaw_KeepsFloatUpTo.L2 (script_0 : Option Addr) (script_0l : Nat) (script_0c : Nat) (n_3 : Int) (R : Value → World → Prop) (w : World) : Prop :=
  T Try.prog 11 23 [.code (sub (bodyOf Try.f11) [1, 1, 0, 0, 0, 1]), .inLoop (sub (bodyOf Try.f11) [1, 1, 0, 0, 0]), .inBlock 0, .code (sub (bodyOf Try.f11) [1, 1, 1])] [(0, (.slice script_0 script_0l script_0c)), (3, (.int .i64 n_3))] w R
def numlaw_KeepsFloatUpTo.V1 (script_0 : Option Addr) (script_0l : Nat) (script_0c : Nat) (n_3 : Int) (R : Value → World → Prop) (w : World) : Prop :=
  (cond (decide (n_3 < ((script_0l : Nat) : Int)))
  (cond (decide (n_3 < (4398046511104 : Int)))
  (numlaw_KeepsFloatUpTo.L2 script_0 script_0l script_0c n_3 R w)
  (R (.int .i64 (-1)) w))
  (R (.int .i64 (-1)) w))
theorem numlaw_KeepsFloatUpTo.step1 (script_0 : Option Addr) (script_0l : Nat) (script_0c : Nat) (n_3 : Int) (R : Value → World → Prop) (w : World) (h : numlaw_KeepsFloatUpTo.V1 script_0 script_0l script_0c n_3 R w) : numlaw_KeepsFloatUpTo.L1 script_0 script_0l script_0c n_3 R w :=
  seg_T good mixed Try.func11 600 false [.inLoop (sub (bodyOf Try.f11) [1, 1, 0, 0, 0]), .inBlock 0, .code (sub (bodyOf Try.f11) [1, 1, 1])] [(0, (.slice script_0 script_0l script_0c)), (3, (.int .i64 n_3))] w (Eq.mp (show numlaw_KeepsFloatUpTo.V1 script_0 script_0l script_0c n_3 R w = seg Try.prog 11 23 Try.f11.results.toList numlaw_KeepsFloatUpTo.cuts R 600 false [.inLoop (sub (bodyOf Try.f11) [1, 1, 0, 0, 0]), .inBlock 0, .code (sub (bodyOf Try.f11) [1, 1, 1])] [(0, (.slice script_0 script_0l script_0c)), (3, (.int .i64 n_3))] w by kernel_rfl) h)
def numlaw_KeepsFloatUpTo.V2 (script_0 : Option Addr) (script_0l : Nat) (script_0c : Nat) (n_3 : Int) (R : Value → World → Prop) (w : World) : Prop :=
  ((0 ≤ n_3 ∧ n_3 < ((script_0l : Nat) : Int)) ∧ nilV script_0 fun a1 => (∃ x2 : Int, ∃ x3 : Int, ∃ x4 : Int, ∃ x5 : Int, ∃ x6 : ByteArray, ∃ x7 : ByteArray, World.cell? w (Addr.add a1 (Int.toNat n_3 * 6)) = some (.int .i64 x2) ∧ World.cell? w ⟨(Addr.block (Addr.add a1 (Int.toNat n_3 * 6))), (Addr.off (Addr.add a1 (Int.toNat n_3 * 6)) + 1), none⟩ = some (.int .i64 x3) ∧ World.cell? w ⟨(Addr.block (Addr.add a1 (Int.toNat n_3 * 6))), (Addr.off (Addr.add a1 (Int.toNat n_3 * 6)) + 2), none⟩ = some (.int .i64 x4) ∧ World.cell? w ⟨(Addr.block (Addr.add a1 (Int.toNat n_3 * 6))), (Addr.off (Addr.add a1 (Int.toNat n_3 * 6)) + 3), none⟩ = some (.int .i64 x5) ∧ World.cell? w ⟨(Addr.block (Addr.add a1 (Int.toNat n_3 * 6))), (Addr.off (Addr.add a1 (Int.toNat n_3 * 6)) + 4), none⟩ = some (.string x6) ∧ World.cell? w ⟨(Addr.block (Addr.add a1 (Int.toNat n_3 * 6))), (Addr.off (Addr.add a1 (Int.toNat n_3 * 6)) + 5), none⟩ = some (.string x7) ∧ (Runs Try.prog numlaw_KeptF.id #[(.agg #[(.int .i64 x2), (.int .i64 x3), (.int .i64 x4), (.int .i64 x5), (.string x6), (.string x7)])] w fun r8 w9 => (∃ x10 : Bool, (r8 = (.bool x10) ∧ (cond (!x10)
  (R (.int .i64 n_3) w9)
  (numlaw_KeepsFloatUpTo.L1 script_0 script_0l script_0c (IntKind.wrap .i64 (n_3 + (1 : Int))) R w9)))))))
theorem numlaw_KeepsFloatUpTo.step2 (script_0 : Option Addr) (script_0l : Nat) (script_0c : Nat) (n_3 : Int) (R : Value → World → Prop) (w : World) (h : numlaw_KeepsFloatUpTo.V2 script_0 script_0l script_0c n_3 R w) : numlaw_KeepsFloatUpTo.L2 script_0 script_0l script_0c n_3 R w :=
  seg_T good mixed Try.func11 600 false [.code (sub (bodyOf Try.f11) [1, 1, 0, 0, 0, 1]), .inLoop (sub (bodyOf Try.f11) [1, 1, 0, 0, 0]), .inBlock 0, .code (sub (bodyOf Try.f11) [1, 1, 1])] [(0, (.slice script_0 script_0l script_0c)), (3, (.int .i64 n_3))] w (Eq.mp (show numlaw_KeepsFloatUpTo.V2 script_0 script_0l script_0c n_3 R w = seg Try.prog 11 23 Try.f11.results.toList numlaw_KeepsFloatUpTo.cuts R 600 false [.code (sub (bodyOf Try.f11) [1, 1, 0, 0, 0, 1]), .inLoop (sub (bodyOf Try.f11) [1, 1, 0, 0, 0]), .inBlock 0, .code (sub (bodyOf Try.f11) [1, 1, 1])] [(0, (.slice script_0 script_0l script_0c)), (3, (.int .i64 n_3))] w by kernel_rfl) h)
def numlaw_KeepsFloatUpTo.V (script_0 : Option Addr) (script_0l : Nat) (script_0c : Nat) (R : Value → World → Prop) (w : World) : Prop :=
  (numlaw_KeepsFloatUpTo.L1 script_0 script_0l script_0c 0 R w)
theorem numlaw_KeepsFloatUpTo.enter (script_0 : Option Addr) (script_0l : Nat) (script_0c : Nat) (R : Value → World → Prop) (w : World) (h : numlaw_KeepsFloatUpTo.V script_0 script_0l script_0c R w) : Runs Try.prog numlaw_KeepsFloatUpTo.id #[(.slice script_0 script_0l script_0c)] w R :=
  Runs.enter (c := bodyOf Try.f11) (N := 23) Try.func11 (by kernel_rfl) (by kernel_rfl) (by kernel_rfl) (seg_T good mixed Try.func11 600 false [.code (bodyOf Try.f11)] [(0, (.slice script_0 script_0l script_0c))] w (Eq.mp (show numlaw_KeepsFloatUpTo.V script_0 script_0l script_0c R w = seg Try.prog 11 23 Try.f11.results.toList numlaw_KeepsFloatUpTo.cuts R 600 false [.code (bodyOf Try.f11)] [(0, (.slice script_0 script_0l script_0c))] w by kernel_rfl) h))

/-! e2e/numlaw.KeepsUpTo -/
def numlaw_KeepsUpTo.cuts : List (Nat × List Nat) := [(5, [0, 3]), (6, [0, 3])]
def numlaw_KeepsUpTo.L1 (script_0 : Option Addr) (script_0l : Nat) (script_0c : Nat) (n_3 : Int) (R : Value → World → Prop) (w : World) : Prop :=
  T Try.prog 12 23 [.inLoop (sub (bodyOf Try.f12) [1, 1, 0, 0, 0]), .inBlock 0, .code (sub (bodyOf Try.f12) [1, 1, 1])] [(0, (.slice script_0 script_0l script_0c)), (3, (.int .i64 n_3))] w R
def numlaw_KeepsUpTo.L2 (script_0 : Option Addr) (script_0l : Nat) (script_0c : Nat) (n_3 : Int) (R : Value → World → Prop) (w : World) : Prop :=
  T Try.prog 12 23 [.code (sub (bodyOf Try.f12) [1, 1, 0, 0, 0, 1]), .inLoop (sub (bodyOf Try.f12) [1, 1, 0, 0, 0]), .inBlock 0, .code (sub (bodyOf Try.f12) [1, 1, 1])] [(0, (.slice script_0 script_0l script_0c)), (3, (.int .i64 n_3))] w R
def numlaw_KeepsUpTo.V1 (script_0 : Option Addr) (script_0l : Nat) (script_0c : Nat) (n_3 : Int) (R : Value → World → Prop) (w : World) : Prop :=
  (cond (decide (n_3 < ((script_0l : Nat) : Int)))
  (cond (decide (n_3 < (4398046511104 : Int)))
  (numlaw_KeepsUpTo.L2 script_0 script_0l script_0c n_3 R w)
  (R (.int .i64 (-1)) w))
  (R (.int .i64 (-1)) w))
theorem numlaw_KeepsUpTo.step1 (script_0 : Option Addr) (script_0l : Nat) (script_0c : Nat) (n_3 : Int) (R : Value → World → Prop) (w : World) (h : numlaw_KeepsUpTo.V1 script_0 script_0l script_0c n_3 R w) : numlaw_KeepsUpTo.L1 script_0 script_0l script_0c n_3 R w :=
  seg_T good mixed Try.func12 600 false [.inLoop (sub (bodyOf Try.f12) [1, 1, 0, 0, 0]), .inBlock 0, .code (sub (bodyOf Try.f12) [1, 1, 1])] [(0, (.slice script_0 script_0l script_0c)), (3, (.int .i64 n_3))] w (Eq.mp (show numlaw_KeepsUpTo.V1 script_0 script_0l script_0c n_3 R w = seg Try.prog 12 23 Try.f12.results.toList numlaw_KeepsUpTo.cuts R 600 false [.inLoop (sub (bodyOf Try.f12) [1, 1, 0, 0, 0]), .inBlock 0, .code (sub (bodyOf Try.f12) [1, 1, 1])] [(0, (.slice script_0 script_0l script_0c)), (3, (.int .i64 n_3))] w by kernel_rfl) h)
def numlaw_KeepsUpTo.V2 (script_0 : Option Addr) (script_0l : Nat) (script_0c : Nat) (n_3 : Int) (R : Value → World → Prop) (w : World) : Prop :=
  ((0 ≤ n_3 ∧ n_3 < ((script_0l : Nat) : Int)) ∧ nilV script_0 fun a1 => (∃ x2 : Int, ∃ x3 : Int, ∃ x4 : Int, ∃ x5 : Int, ∃ x6 : ByteArray, ∃ x7 : ByteArray, World.cell? w (Addr.add a1 (Int.toNat n_3 * 6)) = some (.int .i64 x2) ∧ World.cell? w ⟨(Addr.block (Addr.add a1 (Int.toNat n_3 * 6))), (Addr.off (Addr.add a1 (Int.toNat n_3 * 6)) + 1), none⟩ = some (.int .i64 x3) ∧ World.cell? w ⟨(Addr.block (Addr.add a1 (Int.toNat n_3 * 6))), (Addr.off (Addr.add a1 (Int.toNat n_3 * 6)) + 2), none⟩ = some (.int .i64 x4) ∧ World.cell? w ⟨(Addr.block (Addr.add a1 (Int.toNat n_3 * 6))), (Addr.off (Addr.add a1 (Int.toNat n_3 * 6)) + 3), none⟩ = some (.int .i64 x5) ∧ World.cell? w ⟨(Addr.block (Addr.add a1 (Int.toNat n_3 * 6))), (Addr.off (Addr.add a1 (Int.toNat n_3 * 6)) + 4), none⟩ = some (.string x6) ∧ World.cell? w ⟨(Addr.block (Addr.add a1 (Int.toNat n_3 * 6))), (Addr.off (Addr.add a1 (Int.toNat n_3 * 6)) + 5), none⟩ = some (.string x7) ∧ (Runs Try.prog numlaw_Kept.id #[(.agg #[(.int .i64 x2), (.int .i64 x3), (.int .i64 x4), (.int .i64 x5), (.string x6), (.string x7)])] w fun r8 w9 => (∃ x10 : Bool, (r8 = (.bool x10) ∧ (cond (!x10)
  (R (.int .i64 n_3) w9)
  (numlaw_KeepsUpTo.L1 script_0 script_0l script_0c (IntKind.wrap .i64 (n_3 + (1 : Int))) R w9)))))))
theorem numlaw_KeepsUpTo.step2 (script_0 : Option Addr) (script_0l : Nat) (script_0c : Nat) (n_3 : Int) (R : Value → World → Prop) (w : World) (h : numlaw_KeepsUpTo.V2 script_0 script_0l script_0c n_3 R w) : numlaw_KeepsUpTo.L2 script_0 script_0l script_0c n_3 R w :=
  seg_T good mixed Try.func12 600 false [.code (sub (bodyOf Try.f12) [1, 1, 0, 0, 0, 1]), .inLoop (sub (bodyOf Try.f12) [1, 1, 0, 0, 0]), .inBlock 0, .code (sub (bodyOf Try.f12) [1, 1, 1])] [(0, (.slice script_0 script_0l script_0c)), (3, (.int .i64 n_3))] w (Eq.mp (show numlaw_KeepsUpTo.V2 script_0 script_0l script_0c n_3 R w = seg Try.prog 12 23 Try.f12.results.toList numlaw_KeepsUpTo.cuts R 600 false [.code (sub (bodyOf Try.f12) [1, 1, 0, 0, 0, 1]), .inLoop (sub (bodyOf Try.f12) [1, 1, 0, 0, 0]), .inBlock 0, .code (sub (bodyOf Try.f12) [1, 1, 1])] [(0, (.slice script_0 script_0l script_0c)), (3, (.int .i64 n_3))] w by kernel_rfl) h)
def numlaw_KeepsUpTo.V (script_0 : Option Addr) (script_0l : Nat) (script_0c : Nat) (R : Value → World → Prop) (w : World) : Prop :=
  (numlaw_KeepsUpTo.L1 script_0 script_0l script_0c 0 R w)
theorem numlaw_KeepsUpTo.enter (script_0 : Option Addr) (script_0l : Nat) (script_0c : Nat) (R : Value → World → Prop) (w : World) (h : numlaw_KeepsUpTo.V script_0 script_0l script_0c R w) : Runs Try.prog numlaw_KeepsUpTo.id #[(.slice script_0 script_0l script_0c)] w R :=
  Runs.enter (c := bodyOf Try.f12) (N := 23) Try.func12 (by kernel_rfl) (by kernel_rfl) (by kernel_rfl) (seg_T good mixed Try.func12 600 false [.code (bodyOf Try.f12)] [(0, (.slice script_0 script_0l script_0c))] w (Eq.mp (show numlaw_KeepsUpTo.V script_0 script_0l script_0c R w = seg Try.prog 12 23 Try.f12.results.toList numlaw_KeepsUpTo.cuts R 600 false [.code (bodyOf Try.f12)] [(0, (.slice script_0 script_0l script_0c))] w by kernel_rfl) h))

/-! e2e/numlaw.RefinesUpTo -/
def numlaw_RefinesUpTo.cuts : List (Nat × List Nat) := []
def numlaw_RefinesUpTo.V (script_0 : Option Addr) (script_0l : Nat) (script_0c : Nat) (R : Value → World → Prop) (w : World) : Prop :=
  (Runs Try.prog numlaw_walk.id #[(.slice script_0 script_0l script_0c)] w fun r4 w5 => (∃ x6 : Int, ∃ x7 : Int, (r4 = (.tuple #[(.int .i64 x6), (.int .i64 x7)]) ∧ (R (.int .i64 x6) w5))))
theorem numlaw_RefinesUpTo.enter (script_0 : Option Addr) (script_0l : Nat) (script_0c : Nat) (R : Value → World → Prop) (w : World) (h : numlaw_RefinesUpTo.V script_0 script_0l script_0c R w) : Runs Try.prog numlaw_RefinesUpTo.id #[(.slice script_0 script_0l script_0c)] w R :=
  Runs.enter (c := bodyOf Try.f13) (N := 11) Try.func13 (by kernel_rfl) (by kernel_rfl) (by kernel_rfl) (seg_T good mixed Try.func13 600 false [.code (bodyOf Try.f13)] [(0, (.slice script_0 script_0l script_0c))] w (Eq.mp (show numlaw_RefinesUpTo.V script_0 script_0l script_0c R w = seg Try.prog 13 11 Try.f13.results.toList numlaw_RefinesUpTo.cuts R 600 false [.code (bodyOf Try.f13)] [(0, (.slice script_0 script_0l script_0c))] w by kernel_rfl) h))

/-! e2e/numlaw.KeepsPlainUpTo -/
def numlaw_KeepsPlainUpTo.cuts : List (Nat × List Nat) := [(5, [0, 3]), (6, [0, 3])]
def numlaw_KeepsPlainUpTo.L1 (script_0 : Option Addr) (script_0l : Nat) (script_0c : Nat) (n_3 : Int) (R : Value → World → Prop) (w : World) : Prop :=
  T Try.prog 15 23 [.inLoop (sub (bodyOf Try.f15) [1, 1, 0, 0, 0]), .inBlock 0, .code (sub (bodyOf Try.f15) [1, 1, 1])] [(0, (.slice script_0 script_0l script_0c)), (3, (.int .i64 n_3))] w R
def numlaw_KeepsPlainUpTo.L2 (script_0 : Option Addr) (script_0l : Nat) (script_0c : Nat) (n_3 : Int) (R : Value → World → Prop) (w : World) : Prop :=
  T Try.prog 15 23 [.code (sub (bodyOf Try.f15) [1, 1, 0, 0, 0, 1]), .inLoop (sub (bodyOf Try.f15) [1, 1, 0, 0, 0]), .inBlock 0, .code (sub (bodyOf Try.f15) [1, 1, 1])] [(0, (.slice script_0 script_0l script_0c)), (3, (.int .i64 n_3))] w R
def numlaw_KeepsPlainUpTo.V1 (script_0 : Option Addr) (script_0l : Nat) (script_0c : Nat) (n_3 : Int) (R : Value → World → Prop) (w : World) : Prop :=
  (cond (decide (n_3 < ((script_0l : Nat) : Int)))
  (cond (decide (n_3 < (4398046511104 : Int)))
  (numlaw_KeepsPlainUpTo.L2 script_0 script_0l script_0c n_3 R w)
  (R (.int .i64 (-1)) w))
  (R (.int .i64 (-1)) w))
theorem numlaw_KeepsPlainUpTo.step1 (script_0 : Option Addr) (script_0l : Nat) (script_0c : Nat) (n_3 : Int) (R : Value → World → Prop) (w : World) (h : numlaw_KeepsPlainUpTo.V1 script_0 script_0l script_0c n_3 R w) : numlaw_KeepsPlainUpTo.L1 script_0 script_0l script_0c n_3 R w :=
  seg_T good mixed Try.func15 600 false [.inLoop (sub (bodyOf Try.f15) [1, 1, 0, 0, 0]), .inBlock 0, .code (sub (bodyOf Try.f15) [1, 1, 1])] [(0, (.slice script_0 script_0l script_0c)), (3, (.int .i64 n_3))] w (Eq.mp (show numlaw_KeepsPlainUpTo.V1 script_0 script_0l script_0c n_3 R w = seg Try.prog 15 23 Try.f15.results.toList numlaw_KeepsPlainUpTo.cuts R 600 false [.inLoop (sub (bodyOf Try.f15) [1, 1, 0, 0, 0]), .inBlock 0, .code (sub (bodyOf Try.f15) [1, 1, 1])] [(0, (.slice script_0 script_0l script_0c)), (3, (.int .i64 n_3))] w by kernel_rfl) h)
def numlaw_KeepsPlainUpTo.V2 (script_0 : Option Addr) (script_0l : Nat) (script_0c : Nat) (n_3 : Int) (R : Value → World → Prop) (w : World) : Prop :=
  ((0 ≤ n_3 ∧ n_3 < ((script_0l : Nat) : Int)) ∧ nilV script_0 fun a1 => (∃ x2 : Int, ∃ x3 : Int, ∃ x4 : Int, ∃ x5 : Int, ∃ x6 : ByteArray, ∃ x7 : ByteArray, World.cell? w (Addr.add a1 (Int.toNat n_3 * 6)) = some (.int .i64 x2) ∧ World.cell? w ⟨(Addr.block (Addr.add a1 (Int.toNat n_3 * 6))), (Addr.off (Addr.add a1 (Int.toNat n_3 * 6)) + 1), none⟩ = some (.int .i64 x3) ∧ World.cell? w ⟨(Addr.block (Addr.add a1 (Int.toNat n_3 * 6))), (Addr.off (Addr.add a1 (Int.toNat n_3 * 6)) + 2), none⟩ = some (.int .i64 x4) ∧ World.cell? w ⟨(Addr.block (Addr.add a1 (Int.toNat n_3 * 6))), (Addr.off (Addr.add a1 (Int.toNat n_3 * 6)) + 3), none⟩ = some (.int .i64 x5) ∧ World.cell? w ⟨(Addr.block (Addr.add a1 (Int.toNat n_3 * 6))), (Addr.off (Addr.add a1 (Int.toNat n_3 * 6)) + 4), none⟩ = some (.string x6) ∧ World.cell? w ⟨(Addr.block (Addr.add a1 (Int.toNat n_3 * 6))), (Addr.off (Addr.add a1 (Int.toNat n_3 * 6)) + 5), none⟩ = some (.string x7) ∧ (Runs Try.prog numlaw_KeptP.id #[(.agg #[(.int .i64 x2), (.int .i64 x3), (.int .i64 x4), (.int .i64 x5), (.string x6), (.string x7)])] w fun r8 w9 => (∃ x10 : Bool, (r8 = (.bool x10) ∧ (cond (!x10)
  (R (.int .i64 n_3) w9)
  (numlaw_KeepsPlainUpTo.L1 script_0 script_0l script_0c (IntKind.wrap .i64 (n_3 + (1 : Int))) R w9)))))))
theorem numlaw_KeepsPlainUpTo.step2 (script_0 : Option Addr) (script_0l : Nat) (script_0c : Nat) (n_3 : Int) (R : Value → World → Prop) (w : World) (h : numlaw_KeepsPlainUpTo.V2 script_0 script_0l script_0c n_3 R w) : numlaw_KeepsPlainUpTo.L2 script_0 script_0l script_0c n_3 R w :=
  seg_T good mixed Try.func15 600 false [.code (sub (bodyOf Try.f15) [1, 1, 0, 0, 0, 1]), .inLoop (sub (bodyOf Try.f15) [1, 1, 0, 0, 0]), .inBlock 0, .code (sub (bodyOf Try.f15) [1, 1, 1])] [(0, (.slice script_0 script_0l script_0c)), (3, (.int .i64 n_3))] w (Eq.mp (show numlaw_KeepsPlainUpTo.V2 script_0 script_0l script_0c n_3 R w = seg Try.prog 15 23 Try.f15.results.toList numlaw_KeepsPlainUpTo.cuts R 600 false [.code (sub (bodyOf Try.f15) [1, 1, 0, 0, 0, 1]), .inLoop (sub (bodyOf Try.f15) [1, 1, 0, 0, 0]), .inBlock 0, .code (sub (bodyOf Try.f15) [1, 1, 1])] [(0, (.slice script_0 script_0l script_0c)), (3, (.int .i64 n_3))] w by kernel_rfl) h)
def numlaw_KeepsPlainUpTo.V (script_0 : Option Addr) (script_0l : Nat) (script_0c : Nat) (R : Value → World → Prop) (w : World) : Prop :=
  (numlaw_KeepsPlainUpTo.L1 script_0 script_0l script_0c 0 R w)
theorem numlaw_KeepsPlainUpTo.enter (script_0 : Option Addr) (script_0l : Nat) (script_0c : Nat) (R : Value → World → Prop) (w : World) (h : numlaw_KeepsPlainUpTo.V script_0 script_0l script_0c R w) : Runs Try.prog numlaw_KeepsPlainUpTo.id #[(.slice script_0 script_0l script_0c)] w R :=
  Runs.enter (c := bodyOf Try.f15) (N := 23) Try.func15 (by kernel_rfl) (by kernel_rfl) (by kernel_rfl) (seg_T good mixed Try.func15 600 false [.code (bodyOf Try.f15)] [(0, (.slice script_0 script_0l script_0c))] w (Eq.mp (show numlaw_KeepsPlainUpTo.V script_0 script_0l script_0c R w = seg Try.prog 15 23 Try.f15.results.toList numlaw_KeepsPlainUpTo.cuts R 600 false [.code (bodyOf Try.f15)] [(0, (.slice script_0 script_0l script_0c))] w by kernel_rfl) h))

/-! e2e/numlaw.KeptE -/
def numlaw_KeptE.cuts : List (Nat × List Nat) := [(6, [1]), (14, [3, 5, 7, 39]), (18, [3, 5, 7]), (20, [3, 5, 49]), (24, [5])]
def numlaw_KeptE.L1 (o_1 : Nat) (R : Value → World → Prop) (w : World) : Prop :=
  T Try.prog 16 55 [.code (sub (bodyOf Try.f16) [1, 1])] [(1, (.pointer (some ⟨o_1, 0, none⟩)))] w R
def numlaw_KeptE.L2 (a_3 : Int) (ok_5 : Bool) (t_7 : Int) (t_39 : Bool) (R : Value → World → Prop) (w : World) : Prop :=
  T Try.prog 16 55 [.code (sub (bodyOf Try.f16) [1, 1, 1, 1, 1, 0, 1]), .code (sub (bodyOf Try.f16) [1, 1, 1, 1, 1, 1])] [(3, (.int .u64 a_3)), (5, (.bool ok_5)), (7, (.int .u8 t_7)), (39, (.bool t_39))] w R
def numlaw_KeptE.L3 (a_3 : Int) (ok_5 : Bool) (t_7 : Int) (R : Value → World → Prop) (w : World) : Prop :=
  T Try.prog 16 55 [.code (sub (bodyOf Try.f16) [1, 1, 1, 1, 1, 1])] [(3, (.int .u64 a_3)), (5, (.bool ok_5)), (7, (.int .u8 t_7))] w R
def numlaw_KeptE.L4 (a_3 : Int) (ok_5 : Bool) (t_49 : Bool) (R : Value → World → Prop) (w : World) : Prop :=
  T Try.prog 16 55 [.code (sub (bodyOf Try.f16) [1, 1, 1, 1, 1, 1, 0, 1]), .code (sub (bodyOf Try.f16) [1, 1, 1, 1, 1, 1, 1])] [(3, (.int .u64 a_3)), (5, (.bool ok_5)), (49, (.bool t_49))] w R
def numlaw_KeptE.L5 (ok_5 : Bool) (R : Value → World → Prop) (w : World) : Prop :=
  T Try.prog 16 55 [.code (sub (bodyOf Try.f16) [1, 1, 1, 1, 1, 1, 1])] [(5, (.bool ok_5))] w R
def numlaw_KeptE.V1 (o_1 : Nat) (R : Value → World → Prop) (w : World) : Prop :=
  (∃ x1 : Int, ∃ x2 : Int, ∃ x3 : Int, ∃ x4 : Int, ∃ x5 : ByteArray, ∃ x6 : ByteArray, World.cell? w ⟨o_1, 0, none⟩ = some (.int .i64 x1) ∧ World.cell? w ⟨o_1, 1, none⟩ = some (.int .i64 x2) ∧ World.cell? w ⟨o_1, 2, none⟩ = some (.int .i64 x3) ∧ World.cell? w ⟨o_1, 3, none⟩ = some (.int .i64 x4) ∧ World.cell? w ⟨o_1, 4, none⟩ = some (.string x5) ∧ World.cell? w ⟨o_1, 5, none⟩ = some (.string x6) ∧ (Runs Try.prog numlaw_Words.id #[(.agg #[(.int .i64 x1), (.int .i64 x2), (.int .i64 x3), (.int .i64 x4), (.string x5), (.string x6)])] w fun r7 w8 => (∃ x9 : Int, ∃ x10 : Int, (r7 = (.tuple #[(.int .u64 x9), (.int .u64 x10)]) ∧ (∃ x11 : Int, World.cell? w8 ⟨o_1, 1, none⟩ = some (.int .i64 x11) ∧ (Runs Try.prog numlaw_KeptEnd.id #[(.int .i64 x11), (.int .u64 x9)] w8 fun r12 w13 => (∃ x14 : Bool, (r12 = (.bool x14) ∧ (∃ x15 : Int, World.cell? w13 ⟨o_1, 1, none⟩ = some (.int .i64 x15) ∧ (Runs Try.prog api_NumSig.id #[(.int .i64 x15)] w13 fun r16 w17 => (∃ x18 : Int, ∃ x19 : Int, ∃ x20 : Int, (r16 = (.tuple #[(.int .i64 x18), (.int .u8 x19), (.int .u8 x20)]) ∧ (cond x14
  (numlaw_KeptE.L2 x9 x14 x19 (x19 == (125 : Int)) R w17)
  (numlaw_KeptE.L2 x9 x14 x19 false R w17))))))))))))))
theorem numlaw_KeptE.step1 (o_1 : Nat) (R : Value → World → Prop) (w : World) (h : numlaw_KeptE.V1 o_1 R w) : numlaw_KeptE.L1 o_1 R w :=
  seg_T good mixed Try.func16 600 false [.code (sub (bodyOf Try.f16) [1, 1])] [(1, (.pointer (some ⟨o_1, 0, none⟩)))] w (Eq.mp (show numlaw_KeptE.V1 o_1 R w = seg Try.prog 16 55 Try.f16.results.toList numlaw_KeptE.cuts R 600 false [.code (sub (bodyOf Try.f16) [1, 1])] [(1, (.pointer (some ⟨o_1, 0, none⟩)))] w by kernel_rfl) h)
def numlaw_KeptE.V2 (a_3 : Int) (ok_5 : Bool) (t_7 : Int) (t_39 : Bool) (R : Value → World → Prop) (w : World) : Prop :=
  (cond t_39
  (Runs Try.prog numlaw_F32.id #[] w fun r1 w2 => (∃ x3 : Int, ∃ x4 : Int, ∃ x5 : Int, ∃ x6 : Int, ∃ x7 : Int, ∃ x8 : Int, (r1 = (.agg #[(.int .i64 x3), (.int .i64 x4), (.int .i64 x5), (.int .u64 x6), (.int .u64 x7), (.int .u64 x8)]) ∧ (letB (Array.size (World.heap w2)) fun b9 => letW (World.alloc w2 (.cells #[(.int .i64 0), (.int .i64 0), (.int .i64 0), (.int .u64 0), (.int .u64 0), (.int .u64 0)] T_numlaw_Fmt)) fun w10 => (putCells w10 ⟨b9, 0, none⟩ [(.int .i64 x3), (.int .i64 x4), (.int .i64 x5), (.int .u64 x6), (.int .u64 x7), (.int .u64 x8)] fun w11 => (∃ x12 : Int, ∃ x13 : Int, ∃ x14 : Int, ∃ x15 : Int, ∃ x16 : Int, ∃ x17 : Int, World.cell? w11 ⟨b9, 0, none⟩ = some (.int .i64 x12) ∧ World.cell? w11 ⟨b9, 1, none⟩ = some (.int .i64 x13) ∧ World.cell? w11 ⟨b9, 2, none⟩ = some (.int .i64 x14) ∧ World.cell? w11 ⟨b9, 3, none⟩ = some (.int .u64 x15) ∧ World.cell? w11 ⟨b9, 4, none⟩ = some (.int .u64 x16) ∧ World.cell? w11 ⟨b9, 5, none⟩ = some (.int .u64 x17) ∧ (Runs Try.prog numlaw_KeptRoot.id #[(.agg #[(.int .i64 x12), (.int .i64 x13), (.int .i64 x14), (.int .u64 x15), (.int .u64 x16), (.int .u64 x17)]), (.int .i64 24), (.int .u64 (bAnd .u64 a_3 4294967295))] w11 fun r18 w19 => (∃ x20 : Bool, (r18 = (.bool x20) ∧ (numlaw_KeptE.L3 a_3 x20 t_7 R w19))))))))))
  (numlaw_KeptE.L3 a_3 ok_5 t_7 R w))
theorem numlaw_KeptE.step2 (a_3 : Int) (ok_5 : Bool) (t_7 : Int) (t_39 : Bool) (R : Value → World → Prop) (w : World) (h : numlaw_KeptE.V2 a_3 ok_5 t_7 t_39 R w) : numlaw_KeptE.L2 a_3 ok_5 t_7 t_39 R w :=
  seg_T good mixed Try.func16 600 false [.code (sub (bodyOf Try.f16) [1, 1, 1, 1, 1, 0, 1]), .code (sub (bodyOf Try.f16) [1, 1, 1, 1, 1, 1])] [(3, (.int .u64 a_3)), (5, (.bool ok_5)), (7, (.int .u8 t_7)), (39, (.bool t_39))] w (Eq.mp (show numlaw_KeptE.V2 a_3 ok_5 t_7 t_39 R w = seg Try.prog 16 55 Try.f16.results.toList numlaw_KeptE.cuts R 600 false [.code (sub (bodyOf Try.f16) [1, 1, 1, 1, 1, 0, 1]), .code (sub (bodyOf Try.f16) [1, 1, 1, 1, 1, 1])] [(3, (.int .u64 a_3)), (5, (.bool ok_5)), (7, (.int .u8 t_7)), (39, (.bool t_39))] w by kernel_rfl) h)
def numlaw_KeptE.V3 (a_3 : Int) (ok_5 : Bool) (t_7 : Int) (R : Value → World → Prop) (w : World) : Prop :=
  (cond ok_5
  (numlaw_KeptE.L4 a_3 ok_5 (t_7 == (124 : Int)) R w)
  (numlaw_KeptE.L4 a_3 ok_5 false R w))
theorem numlaw_KeptE.step3 (a_3 : Int) (ok_5 : Bool) (t_7 : Int) (R : Value → World → Prop) (w : World) (h : numlaw_KeptE.V3 a_3 ok_5 t_7 R w) : numlaw_KeptE.L3 a_3 ok_5 t_7 R w :=
  seg_T good mixed Try.func16 600 false [.code (sub (bodyOf Try.f16) [1, 1, 1, 1, 1, 1])] [(3, (.int .u64 a_3)), (5, (.bool ok_5)), (7, (.int .u8 t_7))] w (Eq.mp (show numlaw_KeptE.V3 a_3 ok_5 t_7 R w = seg Try.prog 16 55 Try.f16.results.toList numlaw_KeptE.cuts R 600 false [.code (sub (bodyOf Try.f16) [1, 1, 1, 1, 1, 1])] [(3, (.int .u64 a_3)), (5, (.bool ok_5)), (7, (.int .u8 t_7))] w by kernel_rfl) h)
def numlaw_KeptE.V4 (a_3 : Int) (ok_5 : Bool) (t_49 : Bool) (R : Value → World → Prop) (w : World) : Prop :=
  (cond t_49
  (Runs Try.prog numlaw_F64.id #[] w fun r1 w2 => (∃ x3 : Int, ∃ x4 : Int, ∃ x5 : Int, ∃ x6 : Int, ∃ x7 : Int, ∃ x8 : Int, (r1 = (.agg #[(.int .i64 x3), (.int .i64 x4), (.int .i64 x5), (.int .u64 x6), (.int .u64 x7), (.int .u64 x8)]) ∧ (letB (Array.size (World.heap w2)) fun b9 => letW (World.alloc w2 (.cells #[(.int .i64 0), (.int .i64 0), (.int .i64 0), (.int .u64 0), (.int .u64 0), (.int .u64 0)] T_numlaw_Fmt)) fun w10 => (putCells w10 ⟨b9, 0, none⟩ [(.int .i64 x3), (.int .i64 x4), (.int .i64 x5), (.int .u64 x6), (.int .u64 x7), (.int .u64 x8)] fun w11 => (∃ x12 : Int, ∃ x13 : Int, ∃ x14 : Int, ∃ x15 : Int, ∃ x16 : Int, ∃ x17 : Int, World.cell? w11 ⟨b9, 0, none⟩ = some (.int .i64 x12) ∧ World.cell? w11 ⟨b9, 1, none⟩ = some (.int .i64 x13) ∧ World.cell? w11 ⟨b9, 2, none⟩ = some (.int .i64 x14) ∧ World.cell? w11 ⟨b9, 3, none⟩ = some (.int .u64 x15) ∧ World.cell? w11 ⟨b9, 4, none⟩ = some (.int .u64 x16) ∧ World.cell? w11 ⟨b9, 5, none⟩ = some (.int .u64 x17) ∧ (Runs Try.prog numlaw_KeptRoot.id #[(.agg #[(.int .i64 x12), (.int .i64 x13), (.int .i64 x14), (.int .u64 x15), (.int .u64 x16), (.int .u64 x17)]), (.int .i64 53), (.int .u64 a_3)] w11 fun r18 w19 => (∃ x20 : Bool, (r18 = (.bool x20) ∧ (numlaw_KeptE.L5 x20 R w19))))))))))
  (numlaw_KeptE.L5 ok_5 R w))
theorem numlaw_KeptE.step4 (a_3 : Int) (ok_5 : Bool) (t_49 : Bool) (R : Value → World → Prop) (w : World) (h : numlaw_KeptE.V4 a_3 ok_5 t_49 R w) : numlaw_KeptE.L4 a_3 ok_5 t_49 R w :=
  seg_T good mixed Try.func16 600 false [.code (sub (bodyOf Try.f16) [1, 1, 1, 1, 1, 1, 0, 1]), .code (sub (bodyOf Try.f16) [1, 1, 1, 1, 1, 1, 1])] [(3, (.int .u64 a_3)), (5, (.bool ok_5)), (49, (.bool t_49))] w (Eq.mp (show numlaw_KeptE.V4 a_3 ok_5 t_49 R w = seg Try.prog 16 55 Try.f16.results.toList numlaw_KeptE.cuts R 600 false [.code (sub (bodyOf Try.f16) [1, 1, 1, 1, 1, 1, 0, 1]), .code (sub (bodyOf Try.f16) [1, 1, 1, 1, 1, 1, 1])] [(3, (.int .u64 a_3)), (5, (.bool ok_5)), (49, (.bool t_49))] w by kernel_rfl) h)
def numlaw_KeptE.V5 (ok_5 : Bool) (R : Value → World → Prop) (w : World) : Prop :=
  (R (.bool ok_5) w)
theorem numlaw_KeptE.step5 (ok_5 : Bool) (R : Value → World → Prop) (w : World) (h : numlaw_KeptE.V5 ok_5 R w) : numlaw_KeptE.L5 ok_5 R w :=
  seg_T good mixed Try.func16 600 false [.code (sub (bodyOf Try.f16) [1, 1, 1, 1, 1, 1, 1])] [(5, (.bool ok_5))] w (Eq.mp (show numlaw_KeptE.V5 ok_5 R w = seg Try.prog 16 55 Try.f16.results.toList numlaw_KeptE.cuts R 600 false [.code (sub (bodyOf Try.f16) [1, 1, 1, 1, 1, 1, 1])] [(5, (.bool ok_5))] w by kernel_rfl) h)
def numlaw_KeptE.V (o_0_1 : Int) (o_0_2 : Int) (o_0_3 : Int) (o_0_4 : Int) (o_0_5 : ByteArray) (o_0_6 : ByteArray) (R : Value → World → Prop) (w : World) : Prop :=
  (letB (Array.size (World.heap w)) fun b7 => letW (World.alloc w (.cells #[(.int .i64 o_0_1), (.int .i64 o_0_2), (.int .i64 o_0_3), (.int .i64 o_0_4), (.string o_0_5), (.string o_0_6)] T_api_Op)) fun w8 => (∃ x9 : Int, World.cell? w8 ⟨b7, 0, none⟩ = some (.int .i64 x9) ∧ (cond (x9 != (1 : Int))
  (∃ x10 : Int, World.cell? w8 ⟨b7, 0, none⟩ = some (.int .i64 x10) ∧ (cond (x10 != (2 : Int))
  (R (.bool true) w8)
  (numlaw_KeptE.L1 b7 R w8)))
  (numlaw_KeptE.L1 b7 R w8))))
theorem numlaw_KeptE.enter (o_0_1 : Int) (o_0_2 : Int) (o_0_3 : Int) (o_0_4 : Int) (o_0_5 : ByteArray) (o_0_6 : ByteArray) (R : Value → World → Prop) (w : World) (h : numlaw_KeptE.V o_0_1 o_0_2 o_0_3 o_0_4 o_0_5 o_0_6 R w) : Runs Try.prog numlaw_KeptE.id #[(.agg #[(.int .i64 o_0_1), (.int .i64 o_0_2), (.int .i64 o_0_3), (.int .i64 o_0_4), (.string o_0_5), (.string o_0_6)])] w R :=
  Runs.enter (c := bodyOf Try.f16) (N := 55) Try.func16 (by kernel_rfl) (by kernel_rfl) (by kernel_rfl) (seg_T good mixed Try.func16 600 false [.code (bodyOf Try.f16)] [(0, (.agg #[(.int .i64 o_0_1), (.int .i64 o_0_2), (.int .i64 o_0_3), (.int .i64 o_0_4), (.string o_0_5), (.string o_0_6)]))] w (Eq.mp (show numlaw_KeptE.V o_0_1 o_0_2 o_0_3 o_0_4 o_0_5 o_0_6 R w = seg Try.prog 16 55 Try.f16.results.toList numlaw_KeptE.cuts R 600 false [.code (bodyOf Try.f16)] [(0, (.agg #[(.int .i64 o_0_1), (.int .i64 o_0_2), (.int .i64 o_0_3), (.int .i64 o_0_4), (.string o_0_5), (.string o_0_6)]))] w by kernel_rfl) h))

/-! e2e/numlaw.KeptF -/
def numlaw_KeptF.cuts : List (Nat × List Nat) := [(6, [1]), (14, [3, 4, 5, 7, 40]), (24, [3, 4, 9, 43, 44]), (34, [3, 4, 9]), (40, [3, 5])]
def numlaw_KeptF.L1 (o_1 : Nat) (R : Value → World → Prop) (w : World) : Prop :=
  T Try.prog 17 70 [.code (sub (bodyOf Try.f17) [1, 1])] [(1, (.pointer (some ⟨o_1, 0, none⟩)))] w R
def numlaw_KeptF.L2 (a_3 : Int) (b_4 : Int) (ok_5 : Bool) (t_7 : Int) (t_40 : Bool) (R : Value → World → Prop) (w : World) : Prop :=
  T Try.prog 17 70 [.code (sub (bodyOf Try.f17) [1, 1, 1, 1, 1, 0, 1]), .code (sub (bodyOf Try.f17) [1, 1, 1, 1, 1, 1])] [(3, (.int .u64 a_3)), (4, (.int .u64 b_4)), (5, (.bool ok_5)), (7, (.int .u8 t_7)), (40, (.bool t_40))] w R
def numlaw_KeptF.L3 (a_3 : Int) (b_4 : Int) (f_9 : Nat) (t_43 : Int) (t_44 : Bool) (R : Value → World → Prop) (w : World) : Prop :=
  T Try.prog 17 70 [.code (sub (bodyOf Try.f17) [1, 1, 1, 1, 1, 1, 1, 0, 1, 0, 1]), .inBlock 0, .code (sub (bodyOf Try.f17) [1, 1, 1, 1, 1, 1, 1, 1])] [(3, (.int .u64 a_3)), (4, (.int .u64 b_4)), (9, (.pointer (some ⟨f_9, 0, none⟩))), (43, (.int .u8 t_43)), (44, (.bool t_44))] w R
def numlaw_KeptF.L4 (a_3 : Int) (b_4 : Int) (f_9 : Nat) (R : Value → World → Prop) (w : World) : Prop :=
  T Try.prog 17 70 [.code (sub (bodyOf Try.f17) [1, 1, 1, 1, 1, 1, 1, 1])] [(3, (.int .u64 a_3)), (4, (.int .u64 b_4)), (9, (.pointer (some ⟨f_9, 0, none⟩)))] w R
def numlaw_KeptF.L5 (a_3 : Int) (ok_5 : Bool) (R : Value → World → Prop) (w : World) : Prop :=
  T Try.prog 17 70 [.code (sub (bodyOf Try.f17) [1, 1, 1, 1, 1, 1, 1, 1, 1, 1])] [(3, (.int .u64 a_3)), (5, (.bool ok_5))] w R
def numlaw_KeptF.V1 (o_1 : Nat) (R : Value → World → Prop) (w : World) : Prop :=
  (∃ x1 : Int, ∃ x2 : Int, ∃ x3 : Int, ∃ x4 : Int, ∃ x5 : ByteArray, ∃ x6 : ByteArray, World.cell? w ⟨o_1, 0, none⟩ = some (.int .i64 x1) ∧ World.cell? w ⟨o_1, 1, none⟩ = some (.int .i64 x2) ∧ World.cell? w ⟨o_1, 2, none⟩ = some (.int .i64 x3) ∧ World.cell? w ⟨o_1, 3, none⟩ = some (.int .i64 x4) ∧ World.cell? w ⟨o_1, 4, none⟩ = some (.string x5) ∧ World.cell? w ⟨o_1, 5, none⟩ = some (.string x6) ∧ (Runs Try.prog numlaw_Words.id #[(.agg #[(.int .i64 x1), (.int .i64 x2), (.int .i64 x3), (.int .i64 x4), (.string x5), (.string x6)])] w fun r7 w8 => (∃ x9 : Int, ∃ x10 : Int, (r7 = (.tuple #[(.int .u64 x9), (.int .u64 x10)]) ∧ (∃ x11 : Int, World.cell? w8 ⟨o_1, 1, none⟩ = some (.int .i64 x11) ∧ (Runs Try.prog numlaw_KeptCanon.id #[(.int .i64 x11), (.int .u64 x9), (.int .u64 x10)] w8 fun r12 w13 => (∃ x14 : Bool, (r12 = (.bool x14) ∧ (∃ x15 : Int, World.cell? w13 ⟨o_1, 1, none⟩ = some (.int .i64 x15) ∧ (Runs Try.prog api_NumSig.id #[(.int .i64 x15)] w13 fun r16 w17 => (∃ x18 : Int, ∃ x19 : Int, ∃ x20 : Int, (r16 = (.tuple #[(.int .i64 x18), (.int .u8 x19), (.int .u8 x20)]) ∧ (cond (!x14)
  (numlaw_KeptF.L2 x9 x10 x14 x19 true R w17)
  (numlaw_KeptF.L2 x9 x10 x14 x19 (x19 == (0 : Int)) R w17))))))))))))))
theorem numlaw_KeptF.step1 (o_1 : Nat) (R : Value → World → Prop) (w : World) (h : numlaw_KeptF.V1 o_1 R w) : numlaw_KeptF.L1 o_1 R w :=
  seg_T good mixed Try.func17 600 false [.code (sub (bodyOf Try.f17) [1, 1])] [(1, (.pointer (some ⟨o_1, 0, none⟩)))] w (Eq.mp (show numlaw_KeptF.V1 o_1 R w = seg Try.prog 17 70 Try.f17.results.toList numlaw_KeptF.cuts R 600 false [.code (sub (bodyOf Try.f17) [1, 1])] [(1, (.pointer (some ⟨o_1, 0, none⟩)))] w by kernel_rfl) h)
def numlaw_KeptF.V2 (a_3 : Int) (b_4 : Int) (ok_5 : Bool) (t_7 : Int) (t_40 : Bool) (R : Value → World → Prop) (w : World) : Prop :=
  (cond t_40
  (R (.bool ok_5) w)
  (Runs Try.prog numlaw_F64.id #[] w fun r1 w2 => (∃ x3 : Int, ∃ x4 : Int, ∃ x5 : Int, ∃ x6 : Int, ∃ x7 : Int, ∃ x8 : Int, (r1 = (.agg #[(.int .i64 x3), (.int .i64 x4), (.int .i64 x5), (.int .u64 x6), (.int .u64 x7), (.int .u64 x8)]) ∧ (letB (Array.size (World.heap w2)) fun b9 => letW (World.alloc w2 (.cells #[(.int .i64 0), (.int .i64 0), (.int .i64 0), (.int .u64 0), (.int .u64 0), (.int .u64 0)] T_numlaw_Fmt)) fun w10 => (putCells w10 ⟨b9, 0, none⟩ [(.int .i64 x3), (.int .i64 x4), (.int .i64 x5), (.int .u64 x6), (.int .u64 x7), (.int .u64 x8)] fun w11 => (cond (t_7 == (127 : Int))
  (numlaw_KeptF.L3 a_3 b_4 b9 t_7 true R w11)
  (numlaw_KeptF.L3 a_3 b_4 b9 t_7 (t_7 == (126 : Int)) R w11))))))))
theorem numlaw_KeptF.step2 (a_3 : Int) (b_4 : Int) (ok_5 : Bool) (t_7 : Int) (t_40 : Bool) (R : Value → World → Prop) (w : World) (h : numlaw_KeptF.V2 a_3 b_4 ok_5 t_7 t_40 R w) : numlaw_KeptF.L2 a_3 b_4 ok_5 t_7 t_40 R w :=
  seg_T good mixed Try.func17 600 false [.code (sub (bodyOf Try.f17) [1, 1, 1, 1, 1, 0, 1]), .code (sub (bodyOf Try.f17) [1, 1, 1, 1, 1, 1])] [(3, (.int .u64 a_3)), (4, (.int .u64 b_4)), (5, (.bool ok_5)), (7, (.int .u8 t_7)), (40, (.bool t_40))] w (Eq.mp (show numlaw_KeptF.V2 a_3 b_4 ok_5 t_7 t_40 R w = seg Try.prog 17 70 Try.f17.results.toList numlaw_KeptF.cuts R 600 false [.code (sub (bodyOf Try.f17) [1, 1, 1, 1, 1, 0, 1]), .code (sub (bodyOf Try.f17) [1, 1, 1, 1, 1, 1])] [(3, (.int .u64 a_3)), (4, (.int .u64 b_4)), (5, (.bool ok_5)), (7, (.int .u8 t_7)), (40, (.bool t_40))] w by kernel_rfl) h)
def numlaw_KeptF.V3 (a_3 : Int) (b_4 : Int) (f_9 : Nat) (t_43 : Int) (t_44 : Bool) (R : Value → World → Prop) (w : World) : Prop :=
  (cond t_44
  (Runs Try.prog numlaw_KeptInts.id #[(.int .u64 a_3)] w fun r1 w2 => (∃ x3 : Bool, (r1 = (.bool x3) ∧ (R (.bool x3) w2))))
  (cond (t_43 == (125 : Int))
  (Runs Try.prog numlaw_F32.id #[] w fun r4 w5 => (∃ x6 : Int, ∃ x7 : Int, ∃ x8 : Int, ∃ x9 : Int, ∃ x10 : Int, ∃ x11 : Int, (r4 = (.agg #[(.int .i64 x6), (.int .i64 x7), (.int .i64 x8), (.int .u64 x9), (.int .u64 x10), (.int .u64 x11)]) ∧ (putCells w5 ⟨f_9, 0, none⟩ [(.int .i64 x6), (.int .i64 x7), (.int .i64 x8), (.int .u64 x9), (.int .u64 x10), (.int .u64 x11)] fun w12 => (numlaw_KeptF.L4 (bAnd .u64 a_3 4294967295) (bAnd .u64 b_4 4294967295) f_9 R w12)))))
  (numlaw_KeptF.L4 a_3 b_4 f_9 R w)))
theorem numlaw_KeptF.step3 (a_3 : Int) (b_4 : Int) (f_9 : Nat) (t_43 : Int) (t_44 : Bool) (R : Value → World → Prop) (w : World) (h : numlaw_KeptF.V3 a_3 b_4 f_9 t_43 t_44 R w) : numlaw_KeptF.L3 a_3 b_4 f_9 t_43 t_44 R w :=
  seg_T good mixed Try.func17 600 false [.code (sub (bodyOf Try.f17) [1, 1, 1, 1, 1, 1, 1, 0, 1, 0, 1]), .inBlock 0, .code (sub (bodyOf Try.f17) [1, 1, 1, 1, 1, 1, 1, 1])] [(3, (.int .u64 a_3)), (4, (.int .u64 b_4)), (9, (.pointer (some ⟨f_9, 0, none⟩))), (43, (.int .u8 t_43)), (44, (.bool t_44))] w (Eq.mp (show numlaw_KeptF.V3 a_3 b_4 f_9 t_43 t_44 R w = seg Try.prog 17 70 Try.f17.results.toList numlaw_KeptF.cuts R 600 false [.code (sub (bodyOf Try.f17) [1, 1, 1, 1, 1, 1, 1, 0, 1, 0, 1]), .inBlock 0, .code (sub (bodyOf Try.f17) [1, 1, 1, 1, 1, 1, 1, 1])] [(3, (.int .u64 a_3)), (4, (.int .u64 b_4)), (9, (.pointer (some ⟨f_9, 0, none⟩))), (43, (.int .u8 t_43)), (44, (.bool t_44))] w by kernel_rfl) h)
def numlaw_KeptF.V4 (a_3 : Int) (b_4 : Int) (f_9 : Nat) (R : Value → World → Prop) (w : World) : Prop :=
  (∃ x1 : Int, ∃ x2 : Int, ∃ x3 : Int, ∃ x4 : Int, ∃ x5 : Int, ∃ x6 : Int, World.cell? w ⟨f_9, 0, none⟩ = some (.int .i64 x1) ∧ World.cell? w ⟨f_9, 1, none⟩ = some (.int .i64 x2) ∧ World.cell? w ⟨f_9, 2, none⟩ = some (.int .i64 x3) ∧ World.cell? w ⟨f_9, 3, none⟩ = some (.int .u64 x4) ∧ World.cell? w ⟨f_9, 4, none⟩ = some (.int .u64 x5) ∧ World.cell? w ⟨f_9, 5, none⟩ = some (.int .u64 x6) ∧ (Runs Try.prog numlaw_KeptBits.id #[(.agg #[(.int .i64 x1), (.int .i64 x2), (.int .i64 x3), (.int .u64 x4), (.int .u64 x5), (.int .u64 x6)]), (.int .u64 a_3), (.int .u64 b_4)] w fun r7 w8 => (∃ x9 : Bool, (r7 = (.bool x9) ∧ (cond x9
  (∃ x10 : Int, ∃ x11 : Int, ∃ x12 : Int, ∃ x13 : Int, ∃ x14 : Int, ∃ x15 : Int, World.cell? w8 ⟨f_9, 0, none⟩ = some (.int .i64 x10) ∧ World.cell? w8 ⟨f_9, 1, none⟩ = some (.int .i64 x11) ∧ World.cell? w8 ⟨f_9, 2, none⟩ = some (.int .i64 x12) ∧ World.cell? w8 ⟨f_9, 3, none⟩ = some (.int .u64 x13) ∧ World.cell? w8 ⟨f_9, 4, none⟩ = some (.int .u64 x14) ∧ World.cell? w8 ⟨f_9, 5, none⟩ = some (.int .u64 x15) ∧ (Runs Try.prog numlaw_KeptOrder.id #[(.agg #[(.int .i64 x10), (.int .i64 x11), (.int .i64 x12), (.int .u64 x13), (.int .u64 x14), (.int .u64 x15)]), (.int .u64 a_3), (.int .u64 b_4)] w8 fun r16 w17 => (∃ x18 : Bool, (r16 = (.bool x18) ∧ (numlaw_KeptF.L5 a_3 x18 R w17)))))
  (numlaw_KeptF.L5 a_3 x9 R w8))))))
theorem numlaw_KeptF.step4 (a_3 : Int) (b_4 : Int) (f_9 : Nat) (R : Value → World → Prop) (w : World) (h : numlaw_KeptF.V4 a_3 b_4 f_9 R w) : numlaw_KeptF.L4 a_3 b_4 f_9 R w :=
  seg_T good mixed Try.func17 600 false [.code (sub (bodyOf Try.f17) [1, 1, 1, 1, 1, 1, 1, 1])] [(3, (.int .u64 a_3)), (4, (.int .u64 b_4)), (9, (.pointer (some ⟨f_9, 0, none⟩)))] w (Eq.mp (show numlaw_KeptF.V4 a_3 b_4 f_9 R w = seg Try.prog 17 70 Try.f17.results.toList numlaw_KeptF.cuts R 600 false [.code (sub (bodyOf Try.f17) [1, 1, 1, 1, 1, 1, 1, 1])] [(3, (.int .u64 a_3)), (4, (.int .u64 b_4)), (9, (.pointer (some ⟨f_9, 0, none⟩)))] w by kernel_rfl) h)
def numlaw_KeptF.V5 (a_3 : Int) (ok_5 : Bool) (R : Value → World → Prop) (w : World) : Prop :=
  (cond ok_5
  (Runs Try.prog numlaw_KeptBack.id #[(.int .u64 a_3)] w fun r1 w2 => (∃ x3 : Bool, (r1 = (.bool x3) ∧ (R (.bool x3) w2))))
  (R (.bool false) w))
theorem numlaw_KeptF.step5 (a_3 : Int) (ok_5 : Bool) (R : Value → World → Prop) (w : World) (h : numlaw_KeptF.V5 a_3 ok_5 R w) : numlaw_KeptF.L5 a_3 ok_5 R w :=
  seg_T good mixed Try.func17 600 false [.code (sub (bodyOf Try.f17) [1, 1, 1, 1, 1, 1, 1, 1, 1, 1])] [(3, (.int .u64 a_3)), (5, (.bool ok_5))] w (Eq.mp (show numlaw_KeptF.V5 a_3 ok_5 R w = seg Try.prog 17 70 Try.f17.results.toList numlaw_KeptF.cuts R 600 false [.code (sub (bodyOf Try.f17) [1, 1, 1, 1, 1, 1, 1, 1, 1, 1])] [(3, (.int .u64 a_3)), (5, (.bool ok_5))] w by kernel_rfl) h)
def numlaw_KeptF.V (o_0_1 : Int) (o_0_2 : Int) (o_0_3 : Int) (o_0_4 : Int) (o_0_5 : ByteArray) (o_0_6 : ByteArray) (R : Value → World → Prop) (w : World) : Prop :=
  (letB (Array.size (World.heap w)) fun b7 => letW (World.alloc w (.cells #[(.int .i64 o_0_1), (.int .i64 o_0_2), (.int .i64 o_0_3), (.int .i64 o_0_4), (.string o_0_5), (.string o_0_6)] T_api_Op)) fun w8 => (∃ x9 : Int, World.cell? w8 ⟨b7, 0, none⟩ = some (.int .i64 x9) ∧ (cond (x9 != (1 : Int))
  (∃ x10 : Int, World.cell? w8 ⟨b7, 0, none⟩ = some (.int .i64 x10) ∧ (cond (x10 != (2 : Int))
  (R (.bool true) w8)
  (numlaw_KeptF.L1 b7 R w8)))
  (numlaw_KeptF.L1 b7 R w8))))
theorem numlaw_KeptF.enter (o_0_1 : Int) (o_0_2 : Int) (o_0_3 : Int) (o_0_4 : Int) (o_0_5 : ByteArray) (o_0_6 : ByteArray) (R : Value → World → Prop) (w : World) (h : numlaw_KeptF.V o_0_1 o_0_2 o_0_3 o_0_4 o_0_5 o_0_6 R w) : Runs Try.prog numlaw_KeptF.id #[(.agg #[(.int .i64 o_0_1), (.int .i64 o_0_2), (.int .i64 o_0_3), (.int .i64 o_0_4), (.string o_0_5), (.string o_0_6)])] w R :=
  Runs.enter (c := bodyOf Try.f17) (N := 70) Try.func17 (by kernel_rfl) (by kernel_rfl) (by kernel_rfl) (seg_T good mixed Try.func17 600 false [.code (bodyOf Try.f17)] [(0, (.agg #[(.int .i64 o_0_1), (.int .i64 o_0_2), (.int .i64 o_0_3), (.int .i64 o_0_4), (.string o_0_5), (.string o_0_6)]))] w (Eq.mp (show numlaw_KeptF.V o_0_1 o_0_2 o_0_3 o_0_4 o_0_5 o_0_6 R w = seg Try.prog 17 70 Try.f17.results.toList numlaw_KeptF.cuts R 600 false [.code (bodyOf Try.f17)] [(0, (.agg #[(.int .i64 o_0_1), (.int .i64 o_0_2), (.int .i64 o_0_3), (.int .i64 o_0_4), (.string o_0_5), (.string o_0_6)]))] w by kernel_rfl) h))

/-! e2e/numlaw.Kept -/
def numlaw_Kept.cuts : List (Nat × List Nat) := [(6, [1]), (14, [3, 4, 5, 7, 43])]
def numlaw_Kept.L1 (o_1 : Nat) (R : Value → World → Prop) (w : World) : Prop :=
  T Try.prog 18 69 [.code (sub (bodyOf Try.f18) [1, 1])] [(1, (.pointer (some ⟨o_1, 0, none⟩)))] w R
def numlaw_Kept.L2 (a_3 : Int) (b_4 : Int) (ok_5 : Bool) (t_7 : Int) (t_43 : Bool) (R : Value → World → Prop) (w : World) : Prop :=
  T Try.prog 18 69 [.code (sub (bodyOf Try.f18) [1, 1, 1, 1, 1, 0, 1]), .code (sub (bodyOf Try.f18) [1, 1, 1, 1, 1, 1])] [(3, (.int .u64 a_3)), (4, (.int .u64 b_4)), (5, (.bool ok_5)), (7, (.int .u8 t_7)), (43, (.bool t_43))] w R
def numlaw_Kept.V1 (o_1 : Nat) (R : Value → World → Prop) (w : World) : Prop :=
  (∃ x1 : Int, ∃ x2 : Int, ∃ x3 : Int, ∃ x4 : Int, ∃ x5 : ByteArray, ∃ x6 : ByteArray, World.cell? w ⟨o_1, 0, none⟩ = some (.int .i64 x1) ∧ World.cell? w ⟨o_1, 1, none⟩ = some (.int .i64 x2) ∧ World.cell? w ⟨o_1, 2, none⟩ = some (.int .i64 x3) ∧ World.cell? w ⟨o_1, 3, none⟩ = some (.int .i64 x4) ∧ World.cell? w ⟨o_1, 4, none⟩ = some (.string x5) ∧ World.cell? w ⟨o_1, 5, none⟩ = some (.string x6) ∧ (Runs Try.prog numlaw_Words.id #[(.agg #[(.int .i64 x1), (.int .i64 x2), (.int .i64 x3), (.int .i64 x4), (.string x5), (.string x6)])] w fun r7 w8 => (∃ x9 : Int, ∃ x10 : Int, (r7 = (.tuple #[(.int .u64 x9), (.int .u64 x10)]) ∧ (∃ x11 : Int, World.cell? w8 ⟨o_1, 1, none⟩ = some (.int .i64 x11) ∧ (Runs Try.prog numlaw_KeptShape.id #[(.int .i64 x11), (.int .u64 x9), (.int .u64 x10)] w8 fun r12 w13 => (∃ x14 : Bool, (r12 = (.bool x14) ∧ (∃ x15 : Int, World.cell? w13 ⟨o_1, 1, none⟩ = some (.int .i64 x15) ∧ (Runs Try.prog api_NumSig.id #[(.int .i64 x15)] w13 fun r16 w17 => (∃ x18 : Int, ∃ x19 : Int, ∃ x20 : Int, (r16 = (.tuple #[(.int .i64 x18), (.int .u8 x19), (.int .u8 x20)]) ∧ (cond (!x14)
  (numlaw_Kept.L2 x9 x10 x14 x19 true R w17)
  (cond (x19 != (127 : Int))
  (numlaw_Kept.L2 x9 x10 x14 x19 (x19 != (126 : Int)) R w17)
  (numlaw_Kept.L2 x9 x10 x14 x19 false R w17)))))))))))))))
theorem numlaw_Kept.step1 (o_1 : Nat) (R : Value → World → Prop) (w : World) (h : numlaw_Kept.V1 o_1 R w) : numlaw_Kept.L1 o_1 R w :=
  seg_T good mixed Try.func18 600 false [.code (sub (bodyOf Try.f18) [1, 1])] [(1, (.pointer (some ⟨o_1, 0, none⟩)))] w (Eq.mp (show numlaw_Kept.V1 o_1 R w = seg Try.prog 18 69 Try.f18.results.toList numlaw_Kept.cuts R 600 false [.code (sub (bodyOf Try.f18) [1, 1])] [(1, (.pointer (some ⟨o_1, 0, none⟩)))] w by kernel_rfl) h)
def numlaw_Kept.V2 (a_3 : Int) (b_4 : Int) (ok_5 : Bool) (t_7 : Int) (t_43 : Bool) (R : Value → World → Prop) (w : World) : Prop :=
  (cond t_43
  (R (.bool ok_5) w)
  (cond (t_7 == (127 : Int))
  (Runs Try.prog numlaw_KeptInt.id #[(.int .u64 32), (.int .i64 103), (.int .i64 106), (.int .u64 4294967295), (.int .u64 (bAndNot .u64 a_3 18446744069414584320)), (.int .u64 (bAndNot .u64 b_4 18446744069414584320))] w fun r1 w2 => (∃ x3 : Bool, (r1 = (.bool x3) ∧ (cond x3
  (Runs Try.prog numlaw_KeptDiv.id #[(.int .i64 106), (.int .u64 4294967295), (.int .u64 (bAndNot .u64 a_3 18446744069414584320)), (.int .u64 (bAndNot .u64 b_4 18446744069414584320))] w2 fun r4 w5 => (∃ x6 : Bool, (r4 = (.bool x6) ∧ (R (.bool x6) w5))))
  (R (.bool false) w2)))))
  (Runs Try.prog numlaw_KeptInt.id #[(.int .u64 64), (.int .i64 121), (.int .i64 124), (.int .u64 18446744073709551615), (.int .u64 a_3), (.int .u64 b_4)] w fun r7 w8 => (∃ x9 : Bool, (r7 = (.bool x9) ∧ (cond x9
  (Runs Try.prog numlaw_KeptDiv.id #[(.int .i64 124), (.int .u64 18446744073709551615), (.int .u64 a_3), (.int .u64 b_4)] w8 fun r10 w11 => (∃ x12 : Bool, (r10 = (.bool x12) ∧ (R (.bool x12) w11))))
  (R (.bool false) w8)))))))
theorem numlaw_Kept.step2 (a_3 : Int) (b_4 : Int) (ok_5 : Bool) (t_7 : Int) (t_43 : Bool) (R : Value → World → Prop) (w : World) (h : numlaw_Kept.V2 a_3 b_4 ok_5 t_7 t_43 R w) : numlaw_Kept.L2 a_3 b_4 ok_5 t_7 t_43 R w :=
  seg_T good mixed Try.func18 600 false [.code (sub (bodyOf Try.f18) [1, 1, 1, 1, 1, 0, 1]), .code (sub (bodyOf Try.f18) [1, 1, 1, 1, 1, 1])] [(3, (.int .u64 a_3)), (4, (.int .u64 b_4)), (5, (.bool ok_5)), (7, (.int .u8 t_7)), (43, (.bool t_43))] w (Eq.mp (show numlaw_Kept.V2 a_3 b_4 ok_5 t_7 t_43 R w = seg Try.prog 18 69 Try.f18.results.toList numlaw_Kept.cuts R 600 false [.code (sub (bodyOf Try.f18) [1, 1, 1, 1, 1, 0, 1]), .code (sub (bodyOf Try.f18) [1, 1, 1, 1, 1, 1])] [(3, (.int .u64 a_3)), (4, (.int .u64 b_4)), (5, (.bool ok_5)), (7, (.int .u8 t_7)), (43, (.bool t_43))] w by kernel_rfl) h)
def numlaw_Kept.V (o_0_1 : Int) (o_0_2 : Int) (o_0_3 : Int) (o_0_4 : Int) (o_0_5 : ByteArray) (o_0_6 : ByteArray) (R : Value → World → Prop) (w : World) : Prop :=
  (letB (Array.size (World.heap w)) fun b7 => letW (World.alloc w (.cells #[(.int .i64 o_0_1), (.int .i64 o_0_2), (.int .i64 o_0_3), (.int .i64 o_0_4), (.string o_0_5), (.string o_0_6)] T_api_Op)) fun w8 => (∃ x9 : Int, World.cell? w8 ⟨b7, 0, none⟩ = some (.int .i64 x9) ∧ (cond (x9 != (1 : Int))
  (∃ x10 : Int, World.cell? w8 ⟨b7, 0, none⟩ = some (.int .i64 x10) ∧ (cond (x10 != (2 : Int))
  (R (.bool true) w8)
  (numlaw_Kept.L1 b7 R w8)))
  (numlaw_Kept.L1 b7 R w8))))
theorem numlaw_Kept.enter (o_0_1 : Int) (o_0_2 : Int) (o_0_3 : Int) (o_0_4 : Int) (o_0_5 : ByteArray) (o_0_6 : ByteArray) (R : Value → World → Prop) (w : World) (h : numlaw_Kept.V o_0_1 o_0_2 o_0_3 o_0_4 o_0_5 o_0_6 R w) : Runs Try.prog numlaw_Kept.id #[(.agg #[(.int .i64 o_0_1), (.int .i64 o_0_2), (.int .i64 o_0_3), (.int .i64 o_0_4), (.string o_0_5), (.string o_0_6)])] w R :=
  Runs.enter (c := bodyOf Try.f18) (N := 69) Try.func18 (by kernel_rfl) (by kernel_rfl) (by kernel_rfl) (seg_T good mixed Try.func18 600 false [.code (bodyOf Try.f18)] [(0, (.agg #[(.int .i64 o_0_1), (.int .i64 o_0_2), (.int .i64 o_0_3), (.int .i64 o_0_4), (.string o_0_5), (.string o_0_6)]))] w (Eq.mp (show numlaw_Kept.V o_0_1 o_0_2 o_0_3 o_0_4 o_0_5 o_0_6 R w = seg Try.prog 18 69 Try.f18.results.toList numlaw_Kept.cuts R 600 false [.code (bodyOf Try.f18)] [(0, (.agg #[(.int .i64 o_0_1), (.int .i64 o_0_2), (.int .i64 o_0_3), (.int .i64 o_0_4), (.string o_0_5), (.string o_0_6)]))] w by kernel_rfl) h))

/-! e2e/numlaw.walk -/
def numlaw_walk.cuts : List (Nat × List Nat) := [(5, [0, 4]), (6, [0, 4]), (16, [4])]
def numlaw_walk.L1 (script_0 : Option Addr) (script_0l : Nat) (script_0c : Nat) (n_4 : Int) (R : Value → World → Prop) (w : World) : Prop :=
  T Try.prog 19 33 [.inLoop (sub (bodyOf Try.f19) [1, 1, 0, 0, 0]), .inBlock 0, .code (sub (bodyOf Try.f19) [1, 1, 1])] [(0, (.slice script_0 script_0l script_0c)), (4, (.int .i64 n_4))] w R
def numlaw_walk.L2 (script_0 : Option Addr) (script_0l : Nat) (script_0c : Nat) (n_4 : Int) (R : Value → World → Prop) (w : World) : Prop :=
  T Try.prog 19 33 [.code (sub (bodyOf Try.f19) [1, 1, 0, 0, 0, 1]), .inLoop (sub (bodyOf Try.f19) [1, 1, 0, 0, 0]), .inBlock 0, .code (sub (bodyOf Try.f19) [1, 1, 1])] [(0, (.slice script_0 script_0l script_0c)), (4, (.int .i64 n_4))] w R
def numlaw_walk.L3 (n_4 : Int) (R : Value → World → Prop) (w : World) : Prop :=
  T Try.prog 19 33 [.code (sub (bodyOf Try.f19) [1, 1, 1])] [(4, (.int .i64 n_4))] w R
def numlaw_walk.V1 (script_0 : Option Addr) (script_0l : Nat) (script_0c : Nat) (n_4 : Int) (R : Value → World → Prop) (w : World) : Prop :=
  (cond (decide (n_4 < ((script_0l : Nat) : Int)))
  (cond (decide (n_4 < (4398046511104 : Int)))
  (numlaw_walk.L2 script_0 script_0l script_0c n_4 R w)
  (numlaw_walk.L3 n_4 R w))
  (numlaw_walk.L3 n_4 R w))
theorem numlaw_walk.step1 (script_0 : Option Addr) (script_0l : Nat) (script_0c : Nat) (n_4 : Int) (R : Value → World → Prop) (w : World) (h : numlaw_walk.V1 script_0 script_0l script_0c n_4 R w) : numlaw_walk.L1 script_0 script_0l script_0c n_4 R w :=
  seg_T good mixed Try.func19 600 false [.inLoop (sub (bodyOf Try.f19) [1, 1, 0, 0, 0]), .inBlock 0, .code (sub (bodyOf Try.f19) [1, 1, 1])] [(0, (.slice script_0 script_0l script_0c)), (4, (.int .i64 n_4))] w (Eq.mp (show numlaw_walk.V1 script_0 script_0l script_0c n_4 R w = seg Try.prog 19 33 Try.f19.results.toList numlaw_walk.cuts R 600 false [.inLoop (sub (bodyOf Try.f19) [1, 1, 0, 0, 0]), .inBlock 0, .code (sub (bodyOf Try.f19) [1, 1, 1])] [(0, (.slice script_0 script_0l script_0c)), (4, (.int .i64 n_4))] w by kernel_rfl) h)
def numlaw_walk.V2 (script_0 : Option Addr) (script_0l : Nat) (script_0c : Nat) (n_4 : Int) (R : Value → World → Prop) (w : World) : Prop :=
  ((0 ≤ n_4 ∧ n_4 < ((script_0l : Nat) : Int)) ∧ nilV script_0 fun a1 => (∃ x2 : Int, ∃ x3 : Int, ∃ x4 : Int, ∃ x5 : Int, ∃ x6 : ByteArray, ∃ x7 : ByteArray, World.cell? w (Addr.add a1 (Int.toNat n_4 * 6)) = some (.int .i64 x2) ∧ World.cell? w ⟨(Addr.block (Addr.add a1 (Int.toNat n_4 * 6))), (Addr.off (Addr.add a1 (Int.toNat n_4 * 6)) + 1), none⟩ = some (.int .i64 x3) ∧ World.cell? w ⟨(Addr.block (Addr.add a1 (Int.toNat n_4 * 6))), (Addr.off (Addr.add a1 (Int.toNat n_4 * 6)) + 2), none⟩ = some (.int .i64 x4) ∧ World.cell? w ⟨(Addr.block (Addr.add a1 (Int.toNat n_4 * 6))), (Addr.off (Addr.add a1 (Int.toNat n_4 * 6)) + 3), none⟩ = some (.int .i64 x5) ∧ World.cell? w ⟨(Addr.block (Addr.add a1 (Int.toNat n_4 * 6))), (Addr.off (Addr.add a1 (Int.toNat n_4 * 6)) + 4), none⟩ = some (.string x6) ∧ World.cell? w ⟨(Addr.block (Addr.add a1 (Int.toNat n_4 * 6))), (Addr.off (Addr.add a1 (Int.toNat n_4 * 6)) + 5), none⟩ = some (.string x7) ∧ (Runs Try.prog numlaw_Do.id #[(.agg #[(.int .i64 x2), (.int .i64 x3), (.int .i64 x4), (.int .i64 x5), (.string x6), (.string x7)])] w fun r8 w9 => (∃ x10 : Int, ∃ x11 : Int, ∃ x12 : Int, ∃ x13 : ByteArray, (r8 = (.agg #[(.int .i64 x10), (.int .i64 x11), (.int .i64 x12), (.string x13)]) ∧ (letB (Array.size (World.heap w9)) fun b14 => letW (World.alloc w9 (.cells #[(.int .i64 0), (.int .i64 0), (.int .i64 0), (.string ⟨#[]⟩)] T_api_Ans)) fun w15 => (putCells w15 ⟨b14, 0, none⟩ [(.int .i64 x10), (.int .i64 x11), (.int .i64 x12), (.string x13)] fun w16 => ((0 ≤ n_4 ∧ n_4 < ((script_0l : Nat) : Int)) ∧ nilV script_0 fun a17 => (∃ x18 : Int, ∃ x19 : Int, ∃ x20 : Int, ∃ x21 : Int, ∃ x22 : ByteArray, ∃ x23 : ByteArray, World.cell? w16 (Addr.add a17 (Int.toNat n_4 * 6)) = some (.int .i64 x18) ∧ World.cell? w16 ⟨(Addr.block (Addr.add a17 (Int.toNat n_4 * 6))), (Addr.off (Addr.add a17 (Int.toNat n_4 * 6)) + 1), none⟩ = some (.int .i64 x19) ∧ World.cell? w16 ⟨(Addr.block (Addr.add a17 (Int.toNat n_4 * 6))), (Addr.off (Addr.add a17 (Int.toNat n_4 * 6)) + 2), none⟩ = some (.int .i64 x20) ∧ World.cell? w16 ⟨(Addr.block (Addr.add a17 (Int.toNat n_4 * 6))), (Addr.off (Addr.add a17 (Int.toNat n_4 * 6)) + 3), none⟩ = some (.int .i64 x21) ∧ World.cell? w16 ⟨(Addr.block (Addr.add a17 (Int.toNat n_4 * 6))), (Addr.off (Addr.add a17 (Int.toNat n_4 * 6)) + 4), none⟩ = some (.string x22) ∧ World.cell? w16 ⟨(Addr.block (Addr.add a17 (Int.toNat n_4 * 6))), (Addr.off (Addr.add a17 (Int.toNat n_4 * 6)) + 5), none⟩ = some (.string x23) ∧ (Runs Try.prog numlaw_DoM.id #[(.agg #[(.int .i64 x18), (.int .i64 x19), (.int .i64 x20), (.int .i64 x21), (.string x22), (.string x23)])] w16 fun r24 w25 => (∃ x26 : Int, ∃ x27 : Int, ∃ x28 : Int, ∃ x29 : ByteArray, (r24 = (.agg #[(.int .i64 x26), (.int .i64 x27), (.int .i64 x28), (.string x29)]) ∧ (letB (Array.size (World.heap w25)) fun b30 => letW (World.alloc w25 (.cells #[(.int .i64 0), (.int .i64 0), (.int .i64 0), (.string ⟨#[]⟩)] T_api_Ans)) fun w31 => (putCells w31 ⟨b30, 0, none⟩ [(.int .i64 x26), (.int .i64 x27), (.int .i64 x28), (.string x29)] fun w32 => (∃ x33 : Int, ∃ x34 : Int, ∃ x35 : Int, ∃ x36 : ByteArray, World.cell? w32 ⟨b14, 0, none⟩ = some (.int .i64 x33) ∧ World.cell? w32 ⟨b14, 1, none⟩ = some (.int .i64 x34) ∧ World.cell? w32 ⟨b14, 2, none⟩ = some (.int .i64 x35) ∧ World.cell? w32 ⟨b14, 3, none⟩ = some (.string x36) ∧ (∃ x37 : Int, ∃ x38 : Int, ∃ x39 : Int, ∃ x40 : ByteArray, World.cell? w32 ⟨b30, 0, none⟩ = some (.int .i64 x37) ∧ World.cell? w32 ⟨b30, 1, none⟩ = some (.int .i64 x38) ∧ World.cell? w32 ⟨b30, 2, none⟩ = some (.int .i64 x39) ∧ World.cell? w32 ⟨b30, 3, none⟩ = some (.string x40) ∧ (∃ x42 : Bool, ∃ w41, Sem.run Try.prog ((do eqGuard .neq T_api_Ans (.tmp 25) (.tmp 26) (.agg #[(.int .i64 x33), (.int .i64 x34), (.int .i64 x35), (.string x36)]) (.agg #[(.int .i64 x37), (.int .i64 x38), (.int .i64 x39), (.string x40)]); Go.binOp .neq T_api_Ans (.agg #[(.int .i64 x33), (.int .i64 x34), (.int .i64 x35), (.string x36)]) (.agg #[(.int .i64 x37), (.int .i64 x38), (.int .i64 x39), (.string x40)]))) w32 = .ok (.bool x42) w41 ∧ (cond x42
  (R (.tuple #[(.int .i64 n_4), (.int .i64 n_4)]) w41)
  (numlaw_walk.L1 script_0 script_0l script_0c (IntKind.wrap .i64 (n_4 + (1 : Int))) R w41)))))))))))))))))))
theorem numlaw_walk.step2 (script_0 : Option Addr) (script_0l : Nat) (script_0c : Nat) (n_4 : Int) (R : Value → World → Prop) (w : World) (h : numlaw_walk.V2 script_0 script_0l script_0c n_4 R w) : numlaw_walk.L2 script_0 script_0l script_0c n_4 R w :=
  seg_T good mixed Try.func19 600 false [.code (sub (bodyOf Try.f19) [1, 1, 0, 0, 0, 1]), .inLoop (sub (bodyOf Try.f19) [1, 1, 0, 0, 0]), .inBlock 0, .code (sub (bodyOf Try.f19) [1, 1, 1])] [(0, (.slice script_0 script_0l script_0c)), (4, (.int .i64 n_4))] w (Eq.mp (show numlaw_walk.V2 script_0 script_0l script_0c n_4 R w = seg Try.prog 19 33 Try.f19.results.toList numlaw_walk.cuts R 600 false [.code (sub (bodyOf Try.f19) [1, 1, 0, 0, 0, 1]), .inLoop (sub (bodyOf Try.f19) [1, 1, 0, 0, 0]), .inBlock 0, .code (sub (bodyOf Try.f19) [1, 1, 1])] [(0, (.slice script_0 script_0l script_0c)), (4, (.int .i64 n_4))] w by kernel_rfl) h)
def numlaw_walk.V3 (n_4 : Int) (R : Value → World → Prop) (w : World) : Prop :=
  (R (.tuple #[(.int .i64 (-1)), (.int .i64 n_4)]) w)
theorem numlaw_walk.step3 (n_4 : Int) (R : Value → World → Prop) (w : World) (h : numlaw_walk.V3 n_4 R w) : numlaw_walk.L3 n_4 R w :=
  seg_T good mixed Try.func19 600 false [.code (sub (bodyOf Try.f19) [1, 1, 1])] [(4, (.int .i64 n_4))] w (Eq.mp (show numlaw_walk.V3 n_4 R w = seg Try.prog 19 33 Try.f19.results.toList numlaw_walk.cuts R 600 false [.code (sub (bodyOf Try.f19) [1, 1, 1])] [(4, (.int .i64 n_4))] w by kernel_rfl) h)
def numlaw_walk.V (script_0 : Option Addr) (script_0l : Nat) (script_0c : Nat) (R : Value → World → Prop) (w : World) : Prop :=
  (numlaw_walk.L1 script_0 script_0l script_0c 0 R w)
theorem numlaw_walk.enter (script_0 : Option Addr) (script_0l : Nat) (script_0c : Nat) (R : Value → World → Prop) (w : World) (h : numlaw_walk.V script_0 script_0l script_0c R w) : Runs Try.prog numlaw_walk.id #[(.slice script_0 script_0l script_0c)] w R :=
  Runs.enter (c := bodyOf Try.f19) (N := 33) Try.func19 (by kernel_rfl) (by kernel_rfl) (by kernel_rfl) (seg_T good mixed Try.func19 600 false [.code (bodyOf Try.f19)] [(0, (.slice script_0 script_0l script_0c))] w (Eq.mp (show numlaw_walk.V script_0 script_0l script_0c R w = seg Try.prog 19 33 Try.f19.results.toList numlaw_walk.cuts R 600 false [.code (bodyOf Try.f19)] [(0, (.slice script_0 script_0l script_0c))] w by kernel_rfl) h))

/-! e2e/numlaw.KeptP -/
def numlaw_KeptP.cuts : List (Nat × List Nat) := [(6, [1]), (22, [3, 8]), (26, [3, 8]), (36, [3, 8]), (40, [3, 8]), (52, [3, 4, 8, 9]), (64, [3, 4, 8, 10])]
def numlaw_KeptP.L1 (o_1 : Nat) (R : Value → World → Prop) (w : World) : Prop :=
  T Try.prog 21 110 [.code (sub (bodyOf Try.f21) [1, 1])] [(1, (.pointer (some ⟨o_1, 0, none⟩)))] w R
def numlaw_KeptP.L2 (a_3 : Int) (ok_8 : Bool) (R : Value → World → Prop) (w : World) : Prop :=
  T Try.prog 21 110 [.code (sub (bodyOf Try.f21) [1, 1, 1, 1, 1, 0, 1, 0, 1, 0, 1, 1]), .inBlock 0, .code (sub (bodyOf Try.f21) [1, 1, 1, 1, 1, 1])] [(3, (.int .u64 a_3)), (8, (.bool ok_8))] w R
def numlaw_KeptP.L3 (a_3 : Int) (ok_8 : Bool) (R : Value → World → Prop) (w : World) : Prop :=
  T Try.prog 21 110 [.code (sub (bodyOf Try.f21) [1, 1, 1, 1, 1, 0, 1, 0, 1, 1, 1, 0, 1, 1]), .inBlock 0, .code (sub (bodyOf Try.f21) [1, 1, 1, 1, 1, 1])] [(3, (.int .u64 a_3)), (8, (.bool ok_8))] w R
def numlaw_KeptP.L4 (a_3 : Int) (b_4 : Int) (ok_8 : Bool) (f_9 : Nat) (R : Value → World → Prop) (w : World) : Prop :=
  T Try.prog 21 110 [.code (sub (bodyOf Try.f21) [1, 1, 1, 1, 1, 0, 1, 0, 1, 1, 1, 1, 1, 0, 1, 1, 1]), .inBlock 0, .code (sub (bodyOf Try.f21) [1, 1, 1, 1, 1, 1])] [(3, (.int .u64 a_3)), (4, (.int .u64 b_4)), (8, (.bool ok_8)), (9, (.pointer (some ⟨f_9, 0, none⟩)))] w R
def numlaw_KeptP.L5 (a_3 : Int) (b_4 : Int) (ok_8 : Bool) (f_10 : Nat) (R : Value → World → Prop) (w : World) : Prop :=
  T Try.prog 21 110 [.code (sub (bodyOf Try.f21) [1, 1, 1, 1, 1, 0, 1, 0, 1, 1, 1, 1, 1, 1, 1, 0, 1, 1, 1]), .inBlock 0, .code (sub (bodyOf Try.f21) [1, 1, 1, 1, 1, 1])] [(3, (.int .u64 a_3)), (4, (.int .u64 b_4)), (8, (.bool ok_8)), (10, (.pointer (some ⟨f_10, 0, none⟩)))] w R
def numlaw_KeptP.L6 (a_3 : Int) (ok_8 : Bool) (R : Value → World → Prop) (w : World) : Prop :=
  T Try.prog 21 110 [.code (sub (bodyOf Try.f21) [1, 1, 1, 1, 1, 0, 1, 0, 1, 0, 1, 1, 1]), .inBlock 0, .code (sub (bodyOf Try.f21) [1, 1, 1, 1, 1, 1])] [(3, (.int .u64 a_3)), (8, (.bool ok_8))] w R
def numlaw_KeptP.L7 (a_3 : Int) (ok_8 : Bool) (R : Value → World → Prop) (w : World) : Prop :=
  T Try.prog 21 110 [.code (sub (bodyOf Try.f21) [1, 1, 1, 1, 1, 0, 1, 0, 1, 1, 1, 0, 1, 1, 1]), .inBlock 0, .code (sub (bodyOf Try.f21) [1, 1, 1, 1, 1, 1])] [(3, (.int .u64 a_3)), (8, (.bool ok_8))] w R
def numlaw_KeptP.V1 (o_1 : Nat) (R : Value → World → Prop) (w : World) : Prop :=
  (∃ x1 : Int, ∃ x2 : Int, ∃ x3 : Int, ∃ x4 : Int, ∃ x5 : ByteArray, ∃ x6 : ByteArray, World.cell? w ⟨o_1, 0, none⟩ = some (.int .i64 x1) ∧ World.cell? w ⟨o_1, 1, none⟩ = some (.int .i64 x2) ∧ World.cell? w ⟨o_1, 2, none⟩ = some (.int .i64 x3) ∧ World.cell? w ⟨o_1, 3, none⟩ = some (.int .i64 x4) ∧ World.cell? w ⟨o_1, 4, none⟩ = some (.string x5) ∧ World.cell? w ⟨o_1, 5, none⟩ = some (.string x6) ∧ (Runs Try.prog numlaw_Words.id #[(.agg #[(.int .i64 x1), (.int .i64 x2), (.int .i64 x3), (.int .i64 x4), (.string x5), (.string x6)])] w fun r7 w8 => (∃ x9 : Int, ∃ x10 : Int, (r7 = (.tuple #[(.int .u64 x9), (.int .u64 x10)]) ∧ (∃ x11 : Int, World.cell? w8 ⟨o_1, 1, none⟩ = some (.int .i64 x11) ∧ (Runs Try.prog api_NumSig.id #[(.int .i64 x11)] w8 fun r12 w13 => (∃ x14 : Int, ∃ x15 : Int, ∃ x16 : Int, (r12 = (.tuple #[(.int .i64 x14), (.int .u8 x15), (.int .u8 x16)]) ∧ (cond (x15 == (127 : Int))
  (Runs Try.prog numlaw_KeptWord.id #[(.int .u64 32), (.int .i64 106), (.int .u64 4294967295), (.int .u64 (bAndNot .u64 x9 18446744069414584320)), (.int .u64 (bAndNot .u64 x10 18446744069414584320))] w13 fun r17 w18 => (∃ x19 : Bool, (r17 = (.bool x19) ∧ (cond x19
  (Runs Try.prog numlaw_KeptRel.id #[(.int .i64 70), (.int .u64 4294967295), (.int .u64 (bAndNot .u64 x9 18446744069414584320)), (.int .u64 (bAndNot .u64 x10 18446744069414584320))] w18 fun r20 w21 => (∃ x22 : Bool, (r20 = (.bool x22) ∧ (numlaw_KeptP.L2 x9 x22 R w21))))
  (numlaw_KeptP.L2 x9 x19 R w18)))))
  (cond (x15 == (126 : Int))
  (Runs Try.prog numlaw_KeptWord.id #[(.int .u64 64), (.int .i64 124), (.int .u64 18446744073709551615), (.int .u64 x9), (.int .u64 x10)] w13 fun r25 w26 => (∃ x27 : Bool, (r25 = (.bool x27) ∧ (cond x27
  (Runs Try.prog numlaw_KeptRel.id #[(.int .i64 81), (.int .u64 18446744073709551615), (.int .u64 x9), (.int .u64 x10)] w26 fun r28 w29 => (∃ x30 : Bool, (r28 = (.bool x30) ∧ (numlaw_KeptP.L3 x9 x30 R w29))))
  (numlaw_KeptP.L3 x9 x27 R w26)))))
  (cond (x15 == (125 : Int))
  (Runs Try.prog numlaw_F32.id #[] w13 fun r33 w34 => (∃ x35 : Int, ∃ x36 : Int, ∃ x37 : Int, ∃ x38 : Int, ∃ x39 : Int, ∃ x40 : Int, (r33 = (.agg #[(.int .i64 x35), (.int .i64 x36), (.int .i64 x37), (.int .u64 x38), (.int .u64 x39), (.int .u64 x40)]) ∧ (letB (Array.size (World.heap w34)) fun b41 => letW (World.alloc w34 (.cells #[(.int .i64 0), (.int .i64 0), (.int .i64 0), (.int .u64 0), (.int .u64 0), (.int .u64 0)] T_numlaw_Fmt)) fun w42 => (putCells w42 ⟨b41, 0, none⟩ [(.int .i64 x35), (.int .i64 x36), (.int .i64 x37), (.int .u64 x38), (.int .u64 x39), (.int .u64 x40)] fun w43 => (Runs Try.prog numlaw_KeptPromote.id #[(.int .u64 (bAndNot .u64 x9 18446744069414584320))] w43 fun r44 w45 => (∃ x46 : Bool, (r44 = (.bool x46) ∧ (cond x46
  (∃ x47 : Int, ∃ x48 : Int, ∃ x49 : Int, ∃ x50 : Int, ∃ x51 : Int, ∃ x52 : Int, World.cell? w45 ⟨b41, 0, none⟩ = some (.int .i64 x47) ∧ World.cell? w45 ⟨b41, 1, none⟩ = some (.int .i64 x48) ∧ World.cell? w45 ⟨b41, 2, none⟩ = some (.int .i64 x49) ∧ World.cell? w45 ⟨b41, 3, none⟩ = some (.int .u64 x50) ∧ World.cell? w45 ⟨b41, 4, none⟩ = some (.int .u64 x51) ∧ World.cell? w45 ⟨b41, 5, none⟩ = some (.int .u64 x52) ∧ (Runs Try.prog numlaw_KeptNaN.id #[(.agg #[(.int .i64 x47), (.int .i64 x48), (.int .i64 x49), (.int .u64 x50), (.int .u64 x51), (.int .u64 x52)]), (.int .i64 187), (.int .u64 9221120237041090560), (.int .u64 (bAndNot .u64 x9 18446744069414584320)), (.int .u64 (bAndNot .u64 x10 18446744069414584320))] w45 fun r53 w54 => (∃ x55 : Bool, (r53 = (.bool x55) ∧ (numlaw_KeptP.L4 x9 x10 x55 b41 R w54)))))
  (numlaw_KeptP.L4 x9 x10 x46 b41 R w45))))))))))
  (cond (x15 == (124 : Int))
  (Runs Try.prog numlaw_F64.id #[] w13 fun r59 w60 => (∃ x61 : Int, ∃ x62 : Int, ∃ x63 : Int, ∃ x64 : Int, ∃ x65 : Int, ∃ x66 : Int, (r59 = (.agg #[(.int .i64 x61), (.int .i64 x62), (.int .i64 x63), (.int .u64 x64), (.int .u64 x65), (.int .u64 x66)]) ∧ (letB (Array.size (World.heap w60)) fun b67 => letW (World.alloc w60 (.cells #[(.int .i64 0), (.int .i64 0), (.int .i64 0), (.int .u64 0), (.int .u64 0), (.int .u64 0)] T_numlaw_Fmt)) fun w68 => (putCells w68 ⟨b67, 0, none⟩ [(.int .i64 x61), (.int .i64 x62), (.int .i64 x63), (.int .u64 x64), (.int .u64 x65), (.int .u64 x66)] fun w69 => (∃ x70 : Int, ∃ x71 : Int, ∃ x72 : Int, ∃ x73 : Int, ∃ x74 : Int, ∃ x75 : Int, World.cell? w69 ⟨b67, 0, none⟩ = some (.int .i64 x70) ∧ World.cell? w69 ⟨b67, 1, none⟩ = some (.int .i64 x71) ∧ World.cell? w69 ⟨b67, 2, none⟩ = some (.int .i64 x72) ∧ World.cell? w69 ⟨b67, 3, none⟩ = some (.int .u64 x73) ∧ World.cell? w69 ⟨b67, 4, none⟩ = some (.int .u64 x74) ∧ World.cell? w69 ⟨b67, 5, none⟩ = some (.int .u64 x75) ∧ (Runs Try.prog numlaw_KeptNaN.id #[(.agg #[(.int .i64 x70), (.int .i64 x71), (.int .i64 x72), (.int .u64 x73), (.int .u64 x74), (.int .u64 x75)]), (.int .i64 182), (.int .u64 2143289344), (.int .u64 x9), (.int .u64 x10)] w69 fun r76 w77 => (∃ x78 : Bool, (r76 = (.bool x78) ∧ (cond x78
  (Runs Try.prog numlaw_KeptDemote.id #[(.int .u64 x9)] w77 fun r79 w80 => (∃ x81 : Bool, (r79 = (.bool x81) ∧ (numlaw_KeptP.L5 x9 x10 x81 b67 R w80))))
  (numlaw_KeptP.L5 x9 x10 x78 b67 R w77)))))))))))
  (R (.bool true) w13)))))))))))))
theorem numlaw_KeptP.step1 (o_1 : Nat) (R : Value → World → Prop) (w : World) (h : numlaw_KeptP.V1 o_1 R w) : numlaw_KeptP.L1 o_1 R w :=
  seg_T good mixed Try.func21 600 false [.code (sub (bodyOf Try.f21) [1, 1])] [(1, (.pointer (some ⟨o_1, 0, none⟩)))] w (Eq.mp (show numlaw_KeptP.V1 o_1 R w = seg Try.prog 21 110 Try.f21.results.toList numlaw_KeptP.cuts R 600 false [.code (sub (bodyOf Try.f21) [1, 1])] [(1, (.pointer (some ⟨o_1, 0, none⟩)))] w by kernel_rfl) h)
def numlaw_KeptP.V2 (a_3 : Int) (ok_8 : Bool) (R : Value → World → Prop) (w : World) : Prop :=
  (cond ok_8
  (Runs Try.prog numlaw_KeptConv.id #[(.int .i64 178), (.int .u64 2147483648), (.int .u64 4294967295), (.int .u64 (bAndNot .u64 a_3 18446744069414584320))] w fun r1 w2 => (∃ x3 : Bool, (r1 = (.bool x3) ∧ (numlaw_KeptP.L6 a_3 x3 R w2))))
  (numlaw_KeptP.L6 a_3 ok_8 R w))
theorem numlaw_KeptP.step2 (a_3 : Int) (ok_8 : Bool) (R : Value → World → Prop) (w : World) (h : numlaw_KeptP.V2 a_3 ok_8 R w) : numlaw_KeptP.L2 a_3 ok_8 R w :=
  seg_T good mixed Try.func21 600 false [.code (sub (bodyOf Try.f21) [1, 1, 1, 1, 1, 0, 1, 0, 1, 0, 1, 1]), .inBlock 0, .code (sub (bodyOf Try.f21) [1, 1, 1, 1, 1, 1])] [(3, (.int .u64 a_3)), (8, (.bool ok_8))] w (Eq.mp (show numlaw_KeptP.V2 a_3 ok_8 R w = seg Try.prog 21 110 Try.f21.results.toList numlaw_KeptP.cuts R 600 false [.code (sub (bodyOf Try.f21) [1, 1, 1, 1, 1, 0, 1, 0, 1, 0, 1, 1]), .inBlock 0, .code (sub (bodyOf Try.f21) [1, 1, 1, 1, 1, 1])] [(3, (.int .u64 a_3)), (8, (.bool ok_8))] w by kernel_rfl) h)
def numlaw_KeptP.V3 (a_3 : Int) (ok_8 : Bool) (R : Value → World → Prop) (w : World) : Prop :=
  (cond ok_8
  (Runs Try.prog numlaw_KeptConv.id #[(.int .i64 180), (.int .u64 9223372036854775808), (.int .u64 18446744073709551615), (.int .u64 a_3)] w fun r1 w2 => (∃ x3 : Bool, (r1 = (.bool x3) ∧ (numlaw_KeptP.L7 a_3 x3 R w2))))
  (numlaw_KeptP.L7 a_3 ok_8 R w))
theorem numlaw_KeptP.step3 (a_3 : Int) (ok_8 : Bool) (R : Value → World → Prop) (w : World) (h : numlaw_KeptP.V3 a_3 ok_8 R w) : numlaw_KeptP.L3 a_3 ok_8 R w :=
  seg_T good mixed Try.func21 600 false [.code (sub (bodyOf Try.f21) [1, 1, 1, 1, 1, 0, 1, 0, 1, 1, 1, 0, 1, 1]), .inBlock 0, .code (sub (bodyOf Try.f21) [1, 1, 1, 1, 1, 1])] [(3, (.int .u64 a_3)), (8, (.bool ok_8))] w (Eq.mp (show numlaw_KeptP.V3 a_3 ok_8 R w = seg Try.prog 21 110 Try.f21.results.toList numlaw_KeptP.cuts R 600 false [.code (sub (bodyOf Try.f21) [1, 1, 1, 1, 1, 0, 1, 0, 1, 1, 1, 0, 1, 1]), .inBlock 0, .code (sub (bodyOf Try.f21) [1, 1, 1, 1, 1, 1])] [(3, (.int .u64 a_3)), (8, (.bool ok_8))] w by kernel_rfl) h)
def numlaw_KeptP.V4 (a_3 : Int) (b_4 : Int) (ok_8 : Bool) (f_9 : Nat) (R : Value → World → Prop) (w : World) : Prop :=
  (cond ok_8
  (∃ x1 : Int, ∃ x2 : Int, ∃ x3 : Int, ∃ x4 : Int, ∃ x5 : Int, ∃ x6 : Int, World.cell? w ⟨f_9, 0, none⟩ = some (.int .i64 x1) ∧ World.cell? w ⟨f_9, 1, none⟩ = some (.int .i64 x2) ∧ World.cell? w ⟨f_9, 2, none⟩ = some (.int .i64 x3) ∧ World.cell? w ⟨f_9, 3, none⟩ = some (.int .u64 x4) ∧ World.cell? w ⟨f_9, 4, none⟩ = some (.int .u64 x5) ∧ World.cell? w ⟨f_9, 5, none⟩ = some (.int .u64 x6) ∧ (Runs Try.prog numlaw_keptFloat.id #[(.agg #[(.int .i64 x1), (.int .i64 x2), (.int .i64 x3), (.int .u64 x4), (.int .u64 x5), (.int .u64 x6)]), (.int .i64 24), (.int .i64 178), (.int .u64 1065353216), (.int .u64 1056964608), (.int .u64 (bAndNot .u64 a_3 18446744069414584320)), (.int .u64 (bAndNot .u64 b_4 18446744069414584320))] w fun r7 w8 => (∃ x9 : Bool, (r7 = (.bool x9) ∧ (R (.bool x9) w8)))))
  (R (.bool false) w))
theorem numlaw_KeptP.step4 (a_3 : Int) (b_4 : Int) (ok_8 : Bool) (f_9 : Nat) (R : Value → World → Prop) (w : World) (h : numlaw_KeptP.V4 a_3 b_4 ok_8 f_9 R w) : numlaw_KeptP.L4 a_3 b_4 ok_8 f_9 R w :=
  seg_T good mixed Try.func21 600 false [.code (sub (bodyOf Try.f21) [1, 1, 1, 1, 1, 0, 1, 0, 1, 1, 1, 1, 1, 0, 1, 1, 1]), .inBlock 0, .code (sub (bodyOf Try.f21) [1, 1, 1, 1, 1, 1])] [(3, (.int .u64 a_3)), (4, (.int .u64 b_4)), (8, (.bool ok_8)), (9, (.pointer (some ⟨f_9, 0, none⟩)))] w (Eq.mp (show numlaw_KeptP.V4 a_3 b_4 ok_8 f_9 R w = seg Try.prog 21 110 Try.f21.results.toList numlaw_KeptP.cuts R 600 false [.code (sub (bodyOf Try.f21) [1, 1, 1, 1, 1, 0, 1, 0, 1, 1, 1, 1, 1, 0, 1, 1, 1]), .inBlock 0, .code (sub (bodyOf Try.f21) [1, 1, 1, 1, 1, 1])] [(3, (.int .u64 a_3)), (4, (.int .u64 b_4)), (8, (.bool ok_8)), (9, (.pointer (some ⟨f_9, 0, none⟩)))] w by kernel_rfl) h)
def numlaw_KeptP.V5 (a_3 : Int) (b_4 : Int) (ok_8 : Bool) (f_10 : Nat) (R : Value → World → Prop) (w : World) : Prop :=
  (cond ok_8
  (∃ x1 : Int, ∃ x2 : Int, ∃ x3 : Int, ∃ x4 : Int, ∃ x5 : Int, ∃ x6 : Int, World.cell? w ⟨f_10, 0, none⟩ = some (.int .i64 x1) ∧ World.cell? w ⟨f_10, 1, none⟩ = some (.int .i64 x2) ∧ World.cell? w ⟨f_10, 2, none⟩ = some (.int .i64 x3) ∧ World.cell? w ⟨f_10, 3, none⟩ = some (.int .u64 x4) ∧ World.cell? w ⟨f_10, 4, none⟩ = some (.int .u64 x5) ∧ World.cell? w ⟨f_10, 5, none⟩ = some (.int .u64 x6) ∧ (Runs Try.prog numlaw_keptFloat.id #[(.agg #[(.int .i64 x1), (.int .i64 x2), (.int .i64 x3), (.int .u64 x4), (.int .u64 x5), (.int .u64 x6)]), (.int .i64 53), (.int .i64 183), (.int .u64 4607182418800017408), (.int .u64 4602678819172646912), (.int .u64 a_3), (.int .u64 b_4)] w fun r7 w8 => (∃ x9 : Bool, (r7 = (.bool x9) ∧ (R (.bool x9) w8)))))
  (R (.bool false) w))
theorem numlaw_KeptP.step5 (a_3 : Int) (b_4 : Int) (ok_8 : Bool) (f_10 : Nat) (R : Value → World → Prop) (w : World) (h : numlaw_KeptP.V5 a_3 b_4 ok_8 f_10 R w) : numlaw_KeptP.L5 a_3 b_4 ok_8 f_10 R w :=
  seg_T good mixed Try.func21 600 false [.code (sub (bodyOf Try.f21) [1, 1, 1, 1, 1, 0, 1, 0, 1, 1, 1, 1, 1, 1, 1, 0, 1, 1, 1]), .inBlock 0, .code (sub (bodyOf Try.f21) [1, 1, 1, 1, 1, 1])] [(3, (.int .u64 a_3)), (4, (.int .u64 b_4)), (8, (.bool ok_8)), (10, (.pointer (some ⟨f_10, 0, none⟩)))] w (Eq.mp (show numlaw_KeptP.V5 a_3 b_4 ok_8 f_10 R w = seg Try.prog 21 110 Try.f21.results.toList numlaw_KeptP.cuts R 600 false [.code (sub (bodyOf Try.f21) [1, 1, 1, 1, 1, 0, 1, 0, 1, 1, 1, 1, 1, 1, 1, 0, 1, 1, 1]), .inBlock 0, .code (sub (bodyOf Try.f21) [1, 1, 1, 1, 1, 1])] [(3, (.int .u64 a_3)), (4, (.int .u64 b_4)), (8, (.bool ok_8)), (10, (.pointer (some ⟨f_10, 0, none⟩)))] w by kernel_rfl) h)
def numlaw_KeptP.V6 (a_3 : Int) (ok_8 : Bool) (R : Value → World → Prop) (w : World) : Prop :=
  (cond ok_8
  (Runs Try.prog numlaw_KeptWiden.id #[(.int .u64 a_3)] w fun r1 w2 => (∃ x3 : Bool, (r1 = (.bool x3) ∧ (R (.bool x3) w2))))
  (R (.bool false) w))
theorem numlaw_KeptP.step6 (a_3 : Int) (ok_8 : Bool) (R : Value → World → Prop) (w : World) (h : numlaw_KeptP.V6 a_3 ok_8 R w) : numlaw_KeptP.L6 a_3 ok_8 R w :=
  seg_T good mixed Try.func21 600 false [.code (sub (bodyOf Try.f21) [1, 1, 1, 1, 1, 0, 1, 0, 1, 0, 1, 1, 1]), .inBlock 0, .code (sub (bodyOf Try.f21) [1, 1, 1, 1, 1, 1])] [(3, (.int .u64 a_3)), (8, (.bool ok_8))] w (Eq.mp (show numlaw_KeptP.V6 a_3 ok_8 R w = seg Try.prog 21 110 Try.f21.results.toList numlaw_KeptP.cuts R 600 false [.code (sub (bodyOf Try.f21) [1, 1, 1, 1, 1, 0, 1, 0, 1, 0, 1, 1, 1]), .inBlock 0, .code (sub (bodyOf Try.f21) [1, 1, 1, 1, 1, 1])] [(3, (.int .u64 a_3)), (8, (.bool ok_8))] w by kernel_rfl) h)
def numlaw_KeptP.V7 (a_3 : Int) (ok_8 : Bool) (R : Value → World → Prop) (w : World) : Prop :=
  (cond ok_8
  (Runs Try.prog numlaw_KeptWiden.id #[(.int .u64 a_3)] w fun r1 w2 => (∃ x3 : Bool, (r1 = (.bool x3) ∧ (R (.bool x3) w2))))
  (R (.bool false) w))
theorem numlaw_KeptP.step7 (a_3 : Int) (ok_8 : Bool) (R : Value → World → Prop) (w : World) (h : numlaw_KeptP.V7 a_3 ok_8 R w) : numlaw_KeptP.L7 a_3 ok_8 R w :=
  seg_T good mixed Try.func21 600 false [.code (sub (bodyOf Try.f21) [1, 1, 1, 1, 1, 0, 1, 0, 1, 1, 1, 0, 1, 1, 1]), .inBlock 0, .code (sub (bodyOf Try.f21) [1, 1, 1, 1, 1, 1])] [(3, (.int .u64 a_3)), (8, (.bool ok_8))] w (Eq.mp (show numlaw_KeptP.V7 a_3 ok_8 R w = seg Try.prog 21 110 Try.f21.results.toList numlaw_KeptP.cuts R 600 false [.code (sub (bodyOf Try.f21) [1, 1, 1, 1, 1, 0, 1, 0, 1, 1, 1, 0, 1, 1, 1]), .inBlock 0, .code (sub (bodyOf Try.f21) [1, 1, 1, 1, 1, 1])] [(3, (.int .u64 a_3)), (8, (.bool ok_8))] w by kernel_rfl) h)
def numlaw_KeptP.V (o_0_1 : Int) (o_0_2 : Int) (o_0_3 : Int) (o_0_4 : Int) (o_0_5 : ByteArray) (o_0_6 : ByteArray) (R : Value → World → Prop) (w : World) : Prop :=
  (letB (Array.size (World.heap w)) fun b7 => letW (World.alloc w (.cells #[(.int .i64 o_0_1), (.int .i64 o_0_2), (.int .i64 o_0_3), (.int .i64 o_0_4), (.string o_0_5), (.string o_0_6)] T_api_Op)) fun w8 => (∃ x9 : Int, World.cell? w8 ⟨b7, 0, none⟩ = some (.int .i64 x9) ∧ (cond (x9 != (1 : Int))
  (∃ x10 : Int, World.cell? w8 ⟨b7, 0, none⟩ = some (.int .i64 x10) ∧ (cond (x10 != (2 : Int))
  (R (.bool true) w8)
  (numlaw_KeptP.L1 b7 R w8)))
  (numlaw_KeptP.L1 b7 R w8))))
theorem numlaw_KeptP.enter (o_0_1 : Int) (o_0_2 : Int) (o_0_3 : Int) (o_0_4 : Int) (o_0_5 : ByteArray) (o_0_6 : ByteArray) (R : Value → World → Prop) (w : World) (h : numlaw_KeptP.V o_0_1 o_0_2 o_0_3 o_0_4 o_0_5 o_0_6 R w) : Runs Try.prog numlaw_KeptP.id #[(.agg #[(.int .i64 o_0_1), (.int .i64 o_0_2), (.int .i64 o_0_3), (.int .i64 o_0_4), (.string o_0_5), (.string o_0_6)])] w R :=
  Runs.enter (c := bodyOf Try.f21) (N := 110) Try.func21 (by kernel_rfl) (by kernel_rfl) (by kernel_rfl) (seg_T good mixed Try.func21 600 false [.code (bodyOf Try.f21)] [(0, (.agg #[(.int .i64 o_0_1), (.int .i64 o_0_2), (.int .i64 o_0_3), (.int .i64 o_0_4), (.string o_0_5), (.string o_0_6)]))] w (Eq.mp (show numlaw_KeptP.V o_0_1 o_0_2 o_0_3 o_0_4 o_0_5 o_0_6 R w = seg Try.prog 21 110 Try.f21.results.toList numlaw_KeptP.cuts R 600 false [.code (bodyOf Try.f21)] [(0, (.agg #[(.int .i64 o_0_1), (.int .i64 o_0_2), (.int .i64 o_0_3), (.int .i64 o_0_4), (.string o_0_5), (.string o_0_6)]))] w by kernel_rfl) h))

/-! e2e/numlaw.Words -/
def numlaw_Words.cuts : List (Nat × List Nat) := []
def numlaw_Words.V (o_0_1 : Int) (o_0_2 : Int) (o_0_3 : Int) (o_0_4 : Int) (o_0_5 : ByteArray) (o_0_6 : ByteArray) (R : Value → World → Prop) (w : World) : Prop :=
  (letB (Array.size (World.heap w)) fun b7 => letW (World.alloc w (.cells #[(.int .i64 o_0_1), (.int .i64 o_0_2), (.int .i64 o_0_3), (.int .i64 o_0_4), (.string o_0_5), (.string o_0_6)] T_api_Op)) fun w8 => (∃ x9 : Int, World.cell? w8 ⟨b7, 0, none⟩ = some (.int .i64 x9) ∧ (cond (x9 == (2 : Int))
  (∃ x10 : ByteArray, World.cell? w8 ⟨b7, 4, none⟩ = some (.string x10) ∧ (Runs Try.prog api_Word.id #[(.string x10), (.int .i64 0)] w8 fun r11 w12 => (∃ x13 : Int, (r11 = (.int .u64 x13) ∧ (∃ x14 : ByteArray, World.cell? w12 ⟨b7, 4, none⟩ = some (.string x14) ∧ (Runs Try.prog api_Word.id #[(.string x14), (.int .i64 1)] w12 fun r15 w16 => (∃ x17 : Int, (r15 = (.int .u64 x17) ∧ (R (.tuple #[(.int .u64 x13), (.int .u64 x17)]) w16)))))))))
  ((World.drew w8) = (World.drew w8) ∧ (∃ x18 : Int, World.cell? (World.drew w8) ⟨b7, 2, none⟩ = some (.int .i64 x18) ∧ ((World.drew w8) = (World.drew w8) ∧ ((World.drew w8) = (World.drew w8) ∧ ((World.drew w8) = (World.drew w8) ∧ (∃ x19 : Int, World.cell? (World.drew w8) ⟨b7, 3, none⟩ = some (.int .i64 x19) ∧ ((World.drew w8) = (World.drew w8) ∧ ((World.drew w8) = (World.drew w8) ∧ ((World.drew w8) = (World.drew w8) ∧ ((World.drew w8) = (World.drew w8) ∧ (R (.tuple #[(.int .u64 (IntKind.wrap .u64 x18)), (.int .u64 (IntKind.wrap .u64 x19))]) (World.drew w8)))))))))))))))
theorem numlaw_Words.enter (o_0_1 : Int) (o_0_2 : Int) (o_0_3 : Int) (o_0_4 : Int) (o_0_5 : ByteArray) (o_0_6 : ByteArray) (R : Value → World → Prop) (w : World) (h : numlaw_Words.V o_0_1 o_0_2 o_0_3 o_0_4 o_0_5 o_0_6 R w) : Runs Try.prog numlaw_Words.id #[(.agg #[(.int .i64 o_0_1), (.int .i64 o_0_2), (.int .i64 o_0_3), (.int .i64 o_0_4), (.string o_0_5), (.string o_0_6)])] w R :=
  Runs.enter (c := bodyOf Try.f22) (N := 23) Try.func22 (by kernel_rfl) (by kernel_rfl) (by kernel_rfl) (seg_T good mixed Try.func22 600 false [.code (bodyOf Try.f22)] [(0, (.agg #[(.int .i64 o_0_1), (.int .i64 o_0_2), (.int .i64 o_0_3), (.int .i64 o_0_4), (.string o_0_5), (.string o_0_6)]))] w (Eq.mp (show numlaw_Words.V o_0_1 o_0_2 o_0_3 o_0_4 o_0_5 o_0_6 R w = seg Try.prog 22 23 Try.f22.results.toList numlaw_Words.cuts R 600 false [.code (bodyOf Try.f22)] [(0, (.agg #[(.int .i64 o_0_1), (.int .i64 o_0_2), (.int .i64 o_0_3), (.int .i64 o_0_4), (.string o_0_5), (.string o_0_6)]))] w by kernel_rfl) h))

/-! e2e/numlaw.KeptEnd -/
def numlaw_KeptEnd.cuts : List (Nat × List Nat) := [(16, [0, 1, 5, 6, 7, 8, 9]), (30, [0, 1, 7, 8, 9, 10, 11, 12, 13]), (40, [0, 1, 7, 9, 10, 11, 12, 14]), (46, [0, 1, 7, 9, 10, 11, 15, 17]), (50, [1, 7, 9, 10, 11, 15, 17]), (54, [1, 7, 9, 10, 11])]
def numlaw_KeptEnd.L1 (op_0 : Int) (a_1 : Int) (up_5 : Int) (down_6 : Int) (back_7 : Int) (wide_8 : Bool) (f_9 : Nat) (R : Value → World → Prop) (w : World) : Prop :=
  T Try.prog 23 106 [.code (sub (bodyOf Try.f23) [1, 1, 1, 1, 1])] [(0, (.int .i64 op_0)), (1, (.int .u64 a_1)), (5, (.int .u64 up_5)), (6, (.int .u64 down_6)), (7, (.int .i64 back_7)), (8, (.bool wide_8)), (9, (.pointer (some ⟨f_9, 0, none⟩)))] w R
def numlaw_KeptEnd.L2 (op_0 : Int) (a_1 : Int) (back_7 : Int) (wide_8 : Bool) (f_9 : Nat) (r_10 : Int) (e_11 : Int) (m_12 : Int) (in_13 : Bool) (R : Value → World → Prop) (w : World) : Prop :=
  T Try.prog 23 106 [.code (sub (bodyOf Try.f23) [1, 1, 1, 1, 1, 1, 1, 1, 1, 1])] [(0, (.int .i64 op_0)), (1, (.int .u64 a_1)), (7, (.int .i64 back_7)), (8, (.bool wide_8)), (9, (.pointer (some ⟨f_9, 0, none⟩))), (10, (.int .u64 r_10)), (11, (.int .i64 e_11)), (12, (.int .u64 m_12)), (13, (.bool in_13))] w R
def numlaw_KeptEnd.L3 (op_0 : Int) (a_1 : Int) (back_7 : Int) (f_9 : Nat) (r_10 : Int) (e_11 : Int) (m_12 : Int) (p_14 : Int) (R : Value → World → Prop) (w : World) : Prop :=
  T Try.prog 23 106 [.code (sub (bodyOf Try.f23) [1, 1, 1, 1, 1, 1, 1, 1, 1, 1, 1, 1, 1])] [(0, (.int .i64 op_0)), (1, (.int .u64 a_1)), (7, (.int .i64 back_7)), (9, (.pointer (some ⟨f_9, 0, none⟩))), (10, (.int .u64 r_10)), (11, (.int .i64 e_11)), (12, (.int .u64 m_12)), (14, (.int .i64 p_14))] w R
def numlaw_KeptEnd.L4 (op_0 : Int) (a_1 : Int) (back_7 : Int) (f_9 : Nat) (r_10 : Int) (e_11 : Int) (n_15 : Int) (ok_17 : Bool) (R : Value → World → Prop) (w : World) : Prop :=
  T Try.prog 23 106 [.code (sub (bodyOf Try.f23) [1, 1, 1, 1, 1, 1, 1, 1, 1, 1, 1, 1, 1, 1, 1])] [(0, (.int .i64 op_0)), (1, (.int .u64 a_1)), (7, (.int .i64 back_7)), (9, (.pointer (some ⟨f_9, 0, none⟩))), (10, (.int .u64 r_10)), (11, (.int .i64 e_11)), (15, (.int .u64 n_15)), (17, (.bool ok_17))] w R
def numlaw_KeptEnd.L5 (a_1 : Int) (back_7 : Int) (f_9 : Nat) (r_10 : Int) (e_11 : Int) (n_15 : Int) (ok_17 : Bool) (R : Value → World → Prop) (w : World) : Prop :=
  T Try.prog 23 106 [.code (sub (bodyOf Try.f23) [1, 1, 1, 1, 1, 1, 1, 1, 1, 1, 1, 1, 1, 1, 1, 1])] [(1, (.int .u64 a_1)), (7, (.int .i64 back_7)), (9, (.pointer (some ⟨f_9, 0, none⟩))), (10, (.int .u64 r_10)), (11, (.int .i64 e_11)), (15, (.int .u64 n_15)), (17, (.bool ok_17))] w R
def numlaw_KeptEnd.L6 (a_1 : Int) (back_7 : Int) (f_9 : Nat) (r_10 : Int) (e_11 : Int) (R : Value → World → Prop) (w : World) : Prop :=
  T Try.prog 23 106 [.code (sub (bodyOf Try.f23) [1, 1, 1, 1, 1, 1, 1, 1, 1, 1, 1, 1, 1, 1, 1, 1, 1])] [(1, (.int .u64 a_1)), (7, (.int .i64 back_7)), (9, (.pointer (some ⟨f_9, 0, none⟩))), (10, (.int .u64 r_10)), (11, (.int .i64 e_11))] w R
def numlaw_KeptEnd.V1 (op_0 : Int) (a_1 : Int) (up_5 : Int) (down_6 : Int) (back_7 : Int) (wide_8 : Bool) (f_9 : Nat) (R : Value → World → Prop) (w : World) : Prop :=
  (Runs Try.prog num_Apply.id #[(.int .i64 op_0), (.int .u64 a_1), (.int .u64 0)] w fun r1 w2 => (∃ x3 : Int, ∃ x4 : Int, (r1 = (.tuple #[(.int .u64 x3), (.int .i64 x4)]) ∧ (∃ x5 : Int, World.cell? w2 ⟨f_9, 3, none⟩ = some (.int .u64 x5) ∧ (∃ x6 : Int, World.cell? w2 ⟨f_9, 4, none⟩ = some (.int .u64 x6) ∧ (cond (decide ((bAndNot .u64 a_1 x5) > x6))
  (R (.bool (x4 == (41 : Int))) w2)
  (cond (a_1 != (bAndNot .u64 a_1 x5))
  (numlaw_KeptEnd.L2 op_0 a_1 back_7 wide_8 f_9 x3 x4 (bAndNot .u64 a_1 x5) (decide ((bAndNot .u64 a_1 x5) ≤ down_6)) R w2)
  (numlaw_KeptEnd.L2 op_0 a_1 back_7 wide_8 f_9 x3 x4 (bAndNot .u64 a_1 x5) (decide ((bAndNot .u64 a_1 x5) < up_5)) R w2))))))))
theorem numlaw_KeptEnd.step1 (op_0 : Int) (a_1 : Int) (up_5 : Int) (down_6 : Int) (back_7 : Int) (wide_8 : Bool) (f_9 : Nat) (R : Value → World → Prop) (w : World) (h : numlaw_KeptEnd.V1 op_0 a_1 up_5 down_6 back_7 wide_8 f_9 R w) : numlaw_KeptEnd.L1 op_0 a_1 up_5 down_6 back_7 wide_8 f_9 R w :=
  seg_T good mixed Try.func23 600 false [.code (sub (bodyOf Try.f23) [1, 1, 1, 1, 1])] [(0, (.int .i64 op_0)), (1, (.int .u64 a_1)), (5, (.int .u64 up_5)), (6, (.int .u64 down_6)), (7, (.int .i64 back_7)), (8, (.bool wide_8)), (9, (.pointer (some ⟨f_9, 0, none⟩)))] w (Eq.mp (show numlaw_KeptEnd.V1 op_0 a_1 up_5 down_6 back_7 wide_8 f_9 R w = seg Try.prog 23 106 Try.f23.results.toList numlaw_KeptEnd.cuts R 600 false [.code (sub (bodyOf Try.f23) [1, 1, 1, 1, 1])] [(0, (.int .i64 op_0)), (1, (.int .u64 a_1)), (5, (.int .u64 up_5)), (6, (.int .u64 down_6)), (7, (.int .i64 back_7)), (8, (.bool wide_8)), (9, (.pointer (some ⟨f_9, 0, none⟩)))] w by kernel_rfl) h)
def numlaw_KeptEnd.V2 (op_0 : Int) (a_1 : Int) (back_7 : Int) (wide_8 : Bool) (f_9 : Nat) (r_10 : Int) (e_11 : Int) (m_12 : Int) (in_13 : Bool) (R : Value → World → Prop) (w : World) : Prop :=
  (cond (!in_13)
  (R (.bool (e_11 == (40 : Int))) w)
  (cond wide_8
  (numlaw_KeptEnd.L3 op_0 a_1 back_7 f_9 r_10 e_11 m_12 53 R w)
  (numlaw_KeptEnd.L3 op_0 a_1 back_7 f_9 r_10 e_11 m_12 24 R w)))
theorem numlaw_KeptEnd.step2 (op_0 : Int) (a_1 : Int) (back_7 : Int) (wide_8 : Bool) (f_9 : Nat) (r_10 : Int) (e_11 : Int) (m_12 : Int) (in_13 : Bool) (R : Value → World → Prop) (w : World) (h : numlaw_KeptEnd.V2 op_0 a_1 back_7 wide_8 f_9 r_10 e_11 m_12 in_13 R w) : numlaw_KeptEnd.L2 op_0 a_1 back_7 wide_8 f_9 r_10 e_11 m_12 in_13 R w :=
  seg_T good mixed Try.func23 600 false [.code (sub (bodyOf Try.f23) [1, 1, 1, 1, 1, 1, 1, 1, 1, 1])] [(0, (.int .i64 op_0)), (1, (.int .u64 a_1)), (7, (.int .i64 back_7)), (8, (.bool wide_8)), (9, (.pointer (some ⟨f_9, 0, none⟩))), (10, (.int .u64 r_10)), (11, (.int .i64 e_11)), (12, (.int .u64 m_12)), (13, (.bool in_13))] w (Eq.mp (show numlaw_KeptEnd.V2 op_0 a_1 back_7 wide_8 f_9 r_10 e_11 m_12 in_13 R w = seg Try.prog 23 106 Try.f23.results.toList numlaw_KeptEnd.cuts R 600 false [.code (sub (bodyOf Try.f23) [1, 1, 1, 1, 1, 1, 1, 1, 1, 1])] [(0, (.int .i64 op_0)), (1, (.int .u64 a_1)), (7, (.int .i64 back_7)), (8, (.bool wide_8)), (9, (.pointer (some ⟨f_9, 0, none⟩))), (10, (.int .u64 r_10)), (11, (.int .i64 e_11)), (12, (.int .u64 m_12)), (13, (.bool in_13))] w by kernel_rfl) h)
def numlaw_KeptEnd.V3 (op_0 : Int) (a_1 : Int) (back_7 : Int) (f_9 : Nat) (r_10 : Int) (e_11 : Int) (m_12 : Int) (p_14 : Int) (R : Value → World → Prop) (w : World) : Prop :=
  (∃ x1 : Int, ∃ x2 : Int, ∃ x3 : Int, ∃ x4 : Int, ∃ x5 : Int, ∃ x6 : Int, World.cell? w ⟨f_9, 0, none⟩ = some (.int .i64 x1) ∧ World.cell? w ⟨f_9, 1, none⟩ = some (.int .i64 x2) ∧ World.cell? w ⟨f_9, 2, none⟩ = some (.int .i64 x3) ∧ World.cell? w ⟨f_9, 3, none⟩ = some (.int .u64 x4) ∧ World.cell? w ⟨f_9, 4, none⟩ = some (.int .u64 x5) ∧ World.cell? w ⟨f_9, 5, none⟩ = some (.int .u64 x6) ∧ (Runs Try.prog numlaw_CutOf.id #[(.agg #[(.int .i64 x1), (.int .i64 x2), (.int .i64 x3), (.int .u64 x4), (.int .u64 x5), (.int .u64 x6)]), (.int .i64 p_14), (.int .u64 a_1)] w fun r7 w8 => (∃ x9 : Int, ∃ x10 : Bool, ∃ x11 : Bool, (r7 = (.tuple #[(.int .u64 x9), (.bool x10), (.bool x11)]) ∧ (cond (a_1 != m_12)
  (numlaw_KeptEnd.L4 op_0 a_1 back_7 f_9 r_10 e_11 (IntKind.wrap .u64 (0 - x9)) x11 R w8)
  (numlaw_KeptEnd.L4 op_0 a_1 back_7 f_9 r_10 e_11 x9 x11 R w8))))))
theorem numlaw_KeptEnd.step3 (op_0 : Int) (a_1 : Int) (back_7 : Int) (f_9 : Nat) (r_10 : Int) (e_11 : Int) (m_12 : Int) (p_14 : Int) (R : Value → World → Prop) (w : World) (h : numlaw_KeptEnd.V3 op_0 a_1 back_7 f_9 r_10 e_11 m_12 p_14 R w) : numlaw_KeptEnd.L3 op_0 a_1 back_7 f_9 r_10 e_11 m_12 p_14 R w :=
  seg_T good mixed Try.func23 600 false [.code (sub (bodyOf Try.f23) [1, 1, 1, 1, 1, 1, 1, 1, 1, 1, 1, 1, 1])] [(0, (.int .i64 op_0)), (1, (.int .u64 a_1)), (7, (.int .i64 back_7)), (9, (.pointer (some ⟨f_9, 0, none⟩))), (10, (.int .u64 r_10)), (11, (.int .i64 e_11)), (12, (.int .u64 m_12)), (14, (.int .i64 p_14))] w (Eq.mp (show numlaw_KeptEnd.V3 op_0 a_1 back_7 f_9 r_10 e_11 m_12 p_14 R w = seg Try.prog 23 106 Try.f23.results.toList numlaw_KeptEnd.cuts R 600 false [.code (sub (bodyOf Try.f23) [1, 1, 1, 1, 1, 1, 1, 1, 1, 1, 1, 1, 1])] [(0, (.int .i64 op_0)), (1, (.int .u64 a_1)), (7, (.int .i64 back_7)), (9, (.pointer (some ⟨f_9, 0, none⟩))), (10, (.int .u64 r_10)), (11, (.int .i64 e_11)), (12, (.int .u64 m_12)), (14, (.int .i64 p_14))] w by kernel_rfl) h)
def numlaw_KeptEnd.V4 (op_0 : Int) (a_1 : Int) (back_7 : Int) (f_9 : Nat) (r_10 : Int) (e_11 : Int) (n_15 : Int) (ok_17 : Bool) (R : Value → World → Prop) (w : World) : Prop :=
  (cond (decide (op_0 ≤ (171 : Int)))
  (numlaw_KeptEnd.L5 a_1 back_7 f_9 r_10 e_11 (bAndNot .u64 n_15 18446744069414584320) ok_17 R w)
  (numlaw_KeptEnd.L5 a_1 back_7 f_9 r_10 e_11 n_15 ok_17 R w))
theorem numlaw_KeptEnd.step4 (op_0 : Int) (a_1 : Int) (back_7 : Int) (f_9 : Nat) (r_10 : Int) (e_11 : Int) (n_15 : Int) (ok_17 : Bool) (R : Value → World → Prop) (w : World) (h : numlaw_KeptEnd.V4 op_0 a_1 back_7 f_9 r_10 e_11 n_15 ok_17 R w) : numlaw_KeptEnd.L4 op_0 a_1 back_7 f_9 r_10 e_11 n_15 ok_17 R w :=
  seg_T good mixed Try.func23 600 false [.code (sub (bodyOf Try.f23) [1, 1, 1, 1, 1, 1, 1, 1, 1, 1, 1, 1, 1, 1, 1])] [(0, (.int .i64 op_0)), (1, (.int .u64 a_1)), (7, (.int .i64 back_7)), (9, (.pointer (some ⟨f_9, 0, none⟩))), (10, (.int .u64 r_10)), (11, (.int .i64 e_11)), (15, (.int .u64 n_15)), (17, (.bool ok_17))] w (Eq.mp (show numlaw_KeptEnd.V4 op_0 a_1 back_7 f_9 r_10 e_11 n_15 ok_17 R w = seg Try.prog 23 106 Try.f23.results.toList numlaw_KeptEnd.cuts R 600 false [.code (sub (bodyOf Try.f23) [1, 1, 1, 1, 1, 1, 1, 1, 1, 1, 1, 1, 1, 1, 1])] [(0, (.int .i64 op_0)), (1, (.int .u64 a_1)), (7, (.int .i64 back_7)), (9, (.pointer (some ⟨f_9, 0, none⟩))), (10, (.int .u64 r_10)), (11, (.int .i64 e_11)), (15, (.int .u64 n_15)), (17, (.bool ok_17))] w by kernel_rfl) h)
def numlaw_KeptEnd.V5 (a_1 : Int) (back_7 : Int) (f_9 : Nat) (r_10 : Int) (e_11 : Int) (n_15 : Int) (ok_17 : Bool) (R : Value → World → Prop) (w : World) : Prop :=
  (cond (!ok_17)
  (R (.bool false) w)
  (cond (r_10 != n_15)
  (R (.bool false) w)
  (numlaw_KeptEnd.L6 a_1 back_7 f_9 r_10 e_11 R w)))
theorem numlaw_KeptEnd.step5 (a_1 : Int) (back_7 : Int) (f_9 : Nat) (r_10 : Int) (e_11 : Int) (n_15 : Int) (ok_17 : Bool) (R : Value → World → Prop) (w : World) (h : numlaw_KeptEnd.V5 a_1 back_7 f_9 r_10 e_11 n_15 ok_17 R w) : numlaw_KeptEnd.L5 a_1 back_7 f_9 r_10 e_11 n_15 ok_17 R w :=
  seg_T good mixed Try.func23 600 false [.code (sub (bodyOf Try.f23) [1, 1, 1, 1, 1, 1, 1, 1, 1, 1, 1, 1, 1, 1, 1, 1])] [(1, (.int .u64 a_1)), (7, (.int .i64 back_7)), (9, (.pointer (some ⟨f_9, 0, none⟩))), (10, (.int .u64 r_10)), (11, (.int .i64 e_11)), (15, (.int .u64 n_15)), (17, (.bool ok_17))] w (Eq.mp (show numlaw_KeptEnd.V5 a_1 back_7 f_9 r_10 e_11 n_15 ok_17 R w = seg Try.prog 23 106 Try.f23.results.toList numlaw_KeptEnd.cuts R 600 false [.code (sub (bodyOf Try.f23) [1, 1, 1, 1, 1, 1, 1, 1, 1, 1, 1, 1, 1, 1, 1, 1])] [(1, (.int .u64 a_1)), (7, (.int .i64 back_7)), (9, (.pointer (some ⟨f_9, 0, none⟩))), (10, (.int .u64 r_10)), (11, (.int .i64 e_11)), (15, (.int .u64 n_15)), (17, (.bool ok_17))] w by kernel_rfl) h)
def numlaw_KeptEnd.V6 (a_1 : Int) (back_7 : Int) (f_9 : Nat) (r_10 : Int) (e_11 : Int) (R : Value → World → Prop) (w : World) : Prop :=
  (Runs Try.prog numlaw_ap.id #[(.int .i64 back_7), (.int .u64 r_10), (.int .u64 0)] w fun r1 w2 => (∃ x3 : Int, (r1 = (.int .u64 x3) ∧ (∃ x4 : Int, World.cell? w2 ⟨f_9, 0, none⟩ = some (.int .i64 x4) ∧ (Runs Try.prog numlaw_ap.id #[(.int .i64 (IntKind.wrap .i64 (x4 + (4 : Int)))), (.int .u64 a_1), (.int .u64 0)] w2 fun r5 w6 => (∃ x7 : Int, (r5 = (.int .u64 x7) ∧ (cond (e_11 == (0 : Int))
  (∃ x8 : Int, World.cell? w6 ⟨f_9, 2, none⟩ = some (.int .i64 x8) ∧ (Runs Try.prog numlaw_ap.id #[(.int .i64 x8), (.int .u64 x3), (.int .u64 x7)] w6 fun r9 w10 => (∃ x11 : Int, (r9 = (.int .u64 x11) ∧ (R (.bool (x11 == (1 : Int))) w10)))))
  (R (.bool false) w6)))))))))
theorem numlaw_KeptEnd.step6 (a_1 : Int) (back_7 : Int) (f_9 : Nat) (r_10 : Int) (e_11 : Int) (R : Value → World → Prop) (w : World) (h : numlaw_KeptEnd.V6 a_1 back_7 f_9 r_10 e_11 R w) : numlaw_KeptEnd.L6 a_1 back_7 f_9 r_10 e_11 R w :=
  seg_T good mixed Try.func23 600 false [.code (sub (bodyOf Try.f23) [1, 1, 1, 1, 1, 1, 1, 1, 1, 1, 1, 1, 1, 1, 1, 1, 1])] [(1, (.int .u64 a_1)), (7, (.int .i64 back_7)), (9, (.pointer (some ⟨f_9, 0, none⟩))), (10, (.int .u64 r_10)), (11, (.int .i64 e_11))] w (Eq.mp (show numlaw_KeptEnd.V6 a_1 back_7 f_9 r_10 e_11 R w = seg Try.prog 23 106 Try.f23.results.toList numlaw_KeptEnd.cuts R 600 false [.code (sub (bodyOf Try.f23) [1, 1, 1, 1, 1, 1, 1, 1, 1, 1, 1, 1, 1, 1, 1, 1, 1])] [(1, (.int .u64 a_1)), (7, (.int .i64 back_7)), (9, (.pointer (some ⟨f_9, 0, none⟩))), (10, (.int .u64 r_10)), (11, (.int .i64 e_11))] w by kernel_rfl) h)
def numlaw_KeptEnd.V (op_0 : Int) (a_1 : Int) (R : Value → World → Prop) (w : World) : Prop :=
  (Runs Try.prog numlaw_End.id #[(.int .i64 op_0)] w fun r3 w4 => (∃ x5 : Int, ∃ x6 : Int, ∃ x7 : Int, ∃ x8 : Bool, (r3 = (.tuple #[(.int .u64 x5), (.int .u64 x6), (.int .i64 x7), (.bool x8)]) ∧ (cond (x7 == (0 : Int))
  (R (.bool true) w4)
  (Runs Try.prog numlaw_F32.id #[] w4 fun r9 w10 => (∃ x11 : Int, ∃ x12 : Int, ∃ x13 : Int, ∃ x14 : Int, ∃ x15 : Int, ∃ x16 : Int, (r9 = (.agg #[(.int .i64 x11), (.int .i64 x12), (.int .i64 x13), (.int .u64 x14), (.int .u64 x15), (.int .u64 x16)]) ∧ (letB (Array.size (World.heap w10)) fun b17 => letW (World.alloc w10 (.cells #[(.int .i64 0), (.int .i64 0), (.int .i64 0), (.int .u64 0), (.int .u64 0), (.int .u64 0)] T_numlaw_Fmt)) fun w18 => (putCells w18 ⟨b17, 0, none⟩ [(.int .i64 x11), (.int .i64 x12), (.int .i64 x13), (.int .u64 x14), (.int .u64 x15), (.int .u64 x16)] fun w19 => (cond x8
  (Runs Try.prog numlaw_F64.id #[] w19 fun r20 w21 => (∃ x22 : Int, ∃ x23 : Int, ∃ x24 : Int, ∃ x25 : Int, ∃ x26 : Int, ∃ x27 : Int, (r20 = (.agg #[(.int .i64 x22), (.int .i64 x23), (.int .i64 x24), (.int .u64 x25), (.int .u64 x26), (.int .u64 x27)]) ∧ (putCells w21 ⟨b17, 0, none⟩ [(.int .i64 x22), (.int .i64 x23), (.int .i64 x24), (.int .u64 x25), (.int .u64 x26), (.int .u64 x27)] fun w28 => (numlaw_KeptEnd.L1 op_0 a_1 x5 x6 x7 x8 b17 R w28)))))
  (numlaw_KeptEnd.L1 op_0 (bAnd .u64 a_1 4294967295) x5 x6 x7 x8 b17 R w19)))))))))))
theorem numlaw_KeptEnd.enter (op_0 : Int) (a_1 : Int) (R : Value → World → Prop) (w : World) (h : numlaw_KeptEnd.V op_0 a_1 R w) : Runs Try.prog numlaw_KeptEnd.id #[(.int .i64 op_0), (.int .u64 a_1)] w R :=
  Runs.enter (c := bodyOf Try.f23) (N := 106) Try.func23 (by kernel_rfl) (by kernel_rfl) (by kernel_rfl) (seg_T good mixed Try.func23 600 false [.code (bodyOf Try.f23)] [(0, (.int .i64 op_0)), (1, (.int .u64 a_1))] w (Eq.mp (show numlaw_KeptEnd.V op_0 a_1 R w = seg Try.prog 23 106 Try.f23.results.toList numlaw_KeptEnd.cuts R 600 false [.code (bodyOf Try.f23)] [(0, (.int .i64 op_0)), (1, (.int .u64 a_1))] w by kernel_rfl) h))

/-! e2e/api.NumSig -/
def api_NumSig.cuts : List (Nat × List Nat) := [(8, [0, 8]), (16, [0, 18]), (20, [0, 25]), (24, [0, 32]), (28, [0, 39]), (32, [0, 46]), (36, [0, 53]), (40, [0, 60]), (44, [0, 67]), (48, [0, 74]), (52, [0, 81]), (56, [0, 88]), (70, [95, 98]), (76, [95, 102]), (82, [95, 105]), (88, [95, 108]), (96, [95, 111]), (104, [95, 115]), (110, [95, 119]), (120, [95, 124]), (128, [95, 127])]
def api_NumSig.L1 (op_0 : Int) (t_8 : Bool) (R : Value → World → Prop) (w : World) : Prop :=
  T Try.prog 24 133 [.code (sub (bodyOf Try.f24) [1, 0, 0, 1, 1, 1]), .inBlock 0, .code (sub (bodyOf Try.f24) [1, 1])] [(0, (.int .i64 op_0)), (8, (.bool t_8))] w R
def api_NumSig.L2 (op_0 : Int) (t_18 : Bool) (R : Value → World → Prop) (w : World) : Prop :=
  T Try.prog 24 133 [.code (sub (bodyOf Try.f24) [1, 0, 0, 1, 1, 1, 1, 1, 1, 1]), .inBlock 0, .code (sub (bodyOf Try.f24) [1, 1])] [(0, (.int .i64 op_0)), (18, (.bool t_18))] w R
def api_NumSig.L3 (op_0 : Int) (t_25 : Bool) (R : Value → World → Prop) (w : World) : Prop :=
  T Try.prog 24 133 [.code (sub (bodyOf Try.f24) [1, 0, 0, 1, 1, 1, 1, 1, 1, 1, 1, 1]), .inBlock 0, .code (sub (bodyOf Try.f24) [1, 1])] [(0, (.int .i64 op_0)), (25, (.bool t_25))] w R
def api_NumSig.L4 (op_0 : Int) (t_32 : Bool) (R : Value → World → Prop) (w : World) : Prop :=
  T Try.prog 24 133 [.code (sub (bodyOf Try.f24) [1, 0, 0, 1, 1, 1, 1, 1, 1, 1, 1, 1, 1, 1]), .inBlock 0, .code (sub (bodyOf Try.f24) [1, 1])] [(0, (.int .i64 op_0)), (32, (.bool t_32))] w R
def api_NumSig.L5 (op_0 : Int) (t_39 : Bool) (R : Value → World → Prop) (w : World) : Prop :=
  T Try.prog 24 133 [.code (sub (bodyOf Try.f24) [1, 0, 0, 1, 1, 1, 1, 1, 1, 1, 1, 1, 1, 1, 1, 1]), .inBlock 0, .code (sub (bodyOf Try.f24) [1, 1])] [(0, (.int .i64 op_0)), (39, (.bool t_39))] w R
def api_NumSig.L6 (op_0 : Int) (t_46 : Bool) (R : Value → World → Prop) (w : World) : Prop :=
  T Try.prog 24 133 [.code (sub (bodyOf Try.f24) [1, 0, 0, 1, 1, 1, 1, 1, 1, 1, 1, 1, 1, 1, 1, 1, 1, 1]), .inBlock 0, .code (sub (bodyOf Try.f24) [1, 1])] [(0, (.int .i64 op_0)), (46, (.bool t_46))] w R
def api_NumSig.L7 (op_0 : Int) (t_53 : Bool) (R : Value → World → Prop) (w : World) : Prop :=
  T Try.prog 24 133 [.code (sub (bodyOf Try.f24) [1, 0, 0, 1, 1, 1, 1, 1, 1, 1, 1, 1, 1, 1, 1, 1, 1, 1, 1, 1]), .inBlock 0, .code (sub (bodyOf Try.f24) [1, 1])] [(0, (.int .i64 op_0)), (53, (.bool t_53))] w R
def api_NumSig.L8 (op_0 : Int) (t_60 : Bool) (R : Value → World → Prop) (w : World) : Prop :=
  T Try.prog 24 133 [.code (sub (bodyOf Try.f24) [1, 0, 0, 1, 1, 1, 1, 1, 1, 1, 1, 1, 1, 1, 1, 1, 1, 1, 1, 1, 1, 1]), .inBlock 0, .code (sub (bodyOf Try.f24) [1, 1])] [(0, (.int .i64 op_0)), (60, (.bool t_60))] w R
def api_NumSig.L9 (op_0 : Int) (t_67 : Bool) (R : Value → World → Prop) (w : World) : Prop :=
  T Try.prog 24 133 [.code (sub (bodyOf Try.f24) [1, 0, 0, 1, 1, 1, 1, 1, 1, 1, 1, 1, 1, 1, 1, 1, 1, 1, 1, 1, 1, 1, 1, 1]), .inBlock 0, .code (sub (bodyOf Try.f24) [1, 1])] [(0, (.int .i64 op_0)), (67, (.bool t_67))] w R
def api_NumSig.L10 (op_0 : Int) (t_74 : Bool) (R : Value → World → Prop) (w : World) : Prop :=
  T Try.prog 24 133 [.code (sub (bodyOf Try.f24) [1, 0, 0, 1, 1, 1, 1, 1, 1, 1, 1, 1, 1, 1, 1, 1, 1, 1, 1, 1, 1, 1, 1, 1, 1, 1]), .inBlock 0, .code (sub (bodyOf Try.f24) [1, 1])] [(0, (.int .i64 op_0)), (74, (.bool t_74))] w R
def api_NumSig.L11 (op_0 : Int) (t_81 : Bool) (R : Value → World → Prop) (w : World) : Prop :=
  T Try.prog 24 133 [.code (sub (bodyOf Try.f24) [1, 0, 0, 1, 1, 1, 1, 1, 1, 1, 1, 1, 1, 1, 1, 1, 1, 1, 1, 1, 1, 1, 1, 1, 1, 1, 1, 1]), .inBlock 0, .code (sub (bodyOf Try.f24) [1, 1])] [(0, (.int .i64 op_0)), (81, (.bool t_81))] w R
def api_NumSig.L12 (op_0 : Int) (t_88 : Bool) (R : Value → World → Prop) (w : World) : Prop :=
  T Try.prog 24 133 [.code (sub (bodyOf Try.f24) [1, 0, 0, 1, 1, 1, 1, 1, 1, 1, 1, 1, 1, 1, 1, 1, 1, 1, 1, 1, 1, 1, 1, 1, 1, 1, 1, 1, 1, 1]), .inBlock 0, .code (sub (bodyOf Try.f24) [1, 1])] [(0, (.int .i64 op_0)), (88, (.bool t_88))] w R
def api_NumSig.L13 (t_95 : Int) (t_98 : Bool) (R : Value → World → Prop) (w : World) : Prop :=
  T Try.prog 24 133 [.code (sub (bodyOf Try.f24) [1, 1, 0, 1, 0, 1, 1, 1]), .inBlock 1, .code (sub (bodyOf Try.f24) [1, 1, 1])] [(95, (.int .i64 t_95)), (98, (.bool t_98))] w R
def api_NumSig.L14 (t_95 : Int) (t_102 : Bool) (R : Value → World → Prop) (w : World) : Prop :=
  T Try.prog 24 133 [.code (sub (bodyOf Try.f24) [1, 1, 0, 1, 0, 1, 1, 1, 1, 1]), .inBlock 1, .code (sub (bodyOf Try.f24) [1, 1, 1])] [(95, (.int .i64 t_95)), (102, (.bool t_102))] w R
def api_NumSig.L15 (t_95 : Int) (t_105 : Bool) (R : Value → World → Prop) (w : World) : Prop :=
  T Try.prog 24 133 [.code (sub (bodyOf Try.f24) [1, 1, 0, 1, 0, 1, 1, 1, 1, 1, 1, 1]), .inBlock 1, .code (sub (bodyOf Try.f24) [1, 1, 1])] [(95, (.int .i64 t_95)), (105, (.bool t_105))] w R
def api_NumSig.L16 (t_95 : Int) (t_108 : Bool) (R : Value → World → Prop) (w : World) : Prop :=
  T Try.prog 24 133 [.code (sub (bodyOf Try.f24) [1, 1, 0, 1, 0, 1, 1, 1, 1, 1, 1, 1, 1, 1]), .inBlock 1, .code (sub (bodyOf Try.f24) [1, 1, 1])] [(95, (.int .i64 t_95)), (108, (.bool t_108))] w R
def api_NumSig.L17 (t_95 : Int) (t_111 : Bool) (R : Value → World → Prop) (w : World) : Prop :=
  T Try.prog 24 133 [.code (sub (bodyOf Try.f24) [1, 1, 0, 1, 0, 1, 1, 1, 1, 1, 1, 1, 1, 1, 1, 1]), .inBlock 1, .code (sub (bodyOf Try.f24) [1, 1, 1])] [(95, (.int .i64 t_95)), (111, (.bool t_111))] w R
def api_NumSig.L18 (t_95 : Int) (t_115 : Bool) (R : Value → World → Prop) (w : World) : Prop :=
  T Try.prog 24 133 [.code (sub (bodyOf Try.f24) [1, 1, 0, 1, 0, 1, 1, 1, 1, 1, 1, 1, 1, 1, 1, 1, 1, 1]), .inBlock 1, .code (sub (bodyOf Try.f24) [1, 1, 1])] [(95, (.int .i64 t_95)), (115, (.bool t_115))] w R
def api_NumSig.L19 (t_95 : Int) (t_119 : Bool) (R : Value → World → Prop) (w : World) : Prop :=
  T Try.prog 24 133 [.code (sub (bodyOf Try.f24) [1, 1, 0, 1, 0, 1, 1, 1, 1, 1, 1, 1, 1, 1, 1, 1, 1, 1, 1, 1]), .inBlock 1, .code (sub (bodyOf Try.f24) [1, 1, 1])] [(95, (.int .i64 t_95)), (119, (.bool t_119))] w R
def api_NumSig.L20 (t_95 : Int) (t_124 : Bool) (R : Value → World → Prop) (w : World) : Prop :=
  T Try.prog 24 133 [.code (sub (bodyOf Try.f24) [1, 1, 0, 1, 0, 1, 1, 1, 1, 1, 1, 1, 1, 1, 1, 1, 1, 1, 1, 1, 1, 1, 1, 1]), .inBlock 1, .code (sub (bodyOf Try.f24) [1, 1, 1])] [(95, (.int .i64 t_95)), (124, (.bool t_124))] w R
def api_NumSig.L21 (t_95 : Int) (t_127 : Bool) (R : Value → World → Prop) (w : World) : Prop :=
  T Try.prog 24 133 [.code (sub (bodyOf Try.f24) [1, 1, 0, 1, 0, 1, 1, 1, 1, 1, 1, 1, 1, 1, 1, 1, 1, 1, 1, 1, 1, 1, 1, 1, 1, 1]), .inBlock 1, .code (sub (bodyOf Try.f24) [1, 1, 1])] [(95, (.int .i64 t_95)), (127, (.bool t_127))] w R
def api_NumSig.V1 (op_0 : Int) (t_8 : Bool) (R : Value → World → Prop) (w : World) : Prop :=
  (cond t_8
  (R (.tuple #[(.int .i64 2), (.int .u8 127), (.int .u8 127)]) w)
  (cond (op_0 == (80 : Int))
  (R (.tuple #[(.int .i64 1), (.int .u8 126), (.int .u8 127)]) w)
  (cond (decide (op_0 ≥ (81 : Int)))
  (api_NumSig.L2 op_0 (decide (op_0 ≤ (90 : Int))) R w)
  (api_NumSig.L2 op_0 false R w))))
theorem api_NumSig.step1 (op_0 : Int) (t_8 : Bool) (R : Value → World → Prop) (w : World) (h : api_NumSig.V1 op_0 t_8 R w) : api_NumSig.L1 op_0 t_8 R w :=
  seg_T good mixed Try.func24 600 false [.code (sub (bodyOf Try.f24) [1, 0, 0, 1, 1, 1]), .inBlock 0, .code (sub (bodyOf Try.f24) [1, 1])] [(0, (.int .i64 op_0)), (8, (.bool t_8))] w (Eq.mp (show api_NumSig.V1 op_0 t_8 R w = seg Try.prog 24 133 Try.f24.results.toList api_NumSig.cuts R 600 false [.code (sub (bodyOf Try.f24) [1, 0, 0, 1, 1, 1]), .inBlock 0, .code (sub (bodyOf Try.f24) [1, 1])] [(0, (.int .i64 op_0)), (8, (.bool t_8))] w by kernel_rfl) h)
def api_NumSig.V2 (op_0 : Int) (t_18 : Bool) (R : Value → World → Prop) (w : World) : Prop :=
  (cond t_18
  (R (.tuple #[(.int .i64 2), (.int .u8 126), (.int .u8 127)]) w)
  (cond (decide (op_0 ≥ (91 : Int)))
  (api_NumSig.L3 op_0 (decide (op_0 ≤ (96 : Int))) R w)
  (api_NumSig.L3 op_0 false R w)))
theorem api_NumSig.step2 (op_0 : Int) (t_18 : Bool) (R : Value → World → Prop) (w : World) (h : api_NumSig.V2 op_0 t_18 R w) : api_NumSig.L2 op_0 t_18 R w :=
  seg_T good mixed Try.func24 600 false [.code (sub (bodyOf Try.f24) [1, 0, 0, 1, 1, 1, 1, 1, 1, 1]), .inBlock 0, .code (sub (bodyOf Try.f24) [1, 1])] [(0, (.int .i64 op_0)), (18, (.bool t_18))] w (Eq.mp (show api_NumSig.V2 op_0 t_18 R w = seg Try.prog 24 133 Try.f24.results.toList api_NumSig.cuts R 600 false [.code (sub (bodyOf Try.f24) [1, 0, 0, 1, 1, 1, 1, 1, 1, 1]), .inBlock 0, .code (sub (bodyOf Try.f24) [1, 1])] [(0, (.int .i64 op_0)), (18, (.bool t_18))] w by kernel_rfl) h)
def api_NumSig.V3 (op_0 : Int) (t_25 : Bool) (R : Value → World → Prop) (w : World) : Prop :=
  (cond t_25
  (R (.tuple #[(.int .i64 2), (.int .u8 125), (.int .u8 127)]) w)
  (cond (decide (op_0 ≥ (97 : Int)))
  (api_NumSig.L4 op_0 (decide (op_0 ≤ (102 : Int))) R w)
  (api_NumSig.L4 op_0 false R w)))
theorem api_NumSig.step3 (op_0 : Int) (t_25 : Bool) (R : Value → World → Prop) (w : World) (h : api_NumSig.V3 op_0 t_25 R w) : api_NumSig.L3 op_0 t_25 R w :=
  seg_T good mixed Try.func24 600 false [.code (sub (bodyOf Try.f24) [1, 0, 0, 1, 1, 1, 1, 1, 1, 1, 1, 1]), .inBlock 0, .code (sub (bodyOf Try.f24) [1, 1])] [(0, (.int .i64 op_0)), (25, (.bool t_25))] w (Eq.mp (show api_NumSig.V3 op_0 t_25 R w = seg Try.prog 24 133 Try.f24.results.toList api_NumSig.cuts R 600 false [.code (sub (bodyOf Try.f24) [1, 0, 0, 1, 1, 1, 1, 1, 1, 1, 1, 1]), .inBlock 0, .code (sub (bodyOf Try.f24) [1, 1])] [(0, (.int .i64 op_0)), (25, (.bool t_25))] w by kernel_rfl) h)
def api_NumSig.V4 (op_0 : Int) (t_32 : Bool) (R : Value → World → Prop) (w : World) : Prop :=
  (cond t_32
  (R (.tuple #[(.int .i64 2), (.int .u8 124), (.int .u8 127)]) w)
  (cond (decide (op_0 ≥ (103 : Int)))
  (api_NumSig.L5 op_0 (decide (op_0 ≤ (105 : Int))) R w)
  (api_NumSig.L5 op_0 false R w)))
theorem api_NumSig.step4 (op_0 : Int) (t_32 : Bool) (R : Value → World → Prop) (w : World) (h : api_NumSig.V4 op_0 t_32 R w) : api_NumSig.L4 op_0 t_32 R w :=
  seg_T good mixed Try.func24 600 false [.code (sub (bodyOf Try.f24) [1, 0, 0, 1, 1, 1, 1, 1, 1, 1, 1, 1, 1, 1]), .inBlock 0, .code (sub (bodyOf Try.f24) [1, 1])] [(0, (.int .i64 op_0)), (32, (.bool t_32))] w (Eq.mp (show api_NumSig.V4 op_0 t_32 R w = seg Try.prog 24 133 Try.f24.results.toList api_NumSig.cuts R 600 false [.code (sub (bodyOf Try.f24) [1, 0, 0, 1, 1, 1, 1, 1, 1, 1, 1, 1, 1, 1]), .inBlock 0, .code (sub (bodyOf Try.f24) [1, 1])] [(0, (.int .i64 op_0)), (32, (.bool t_32))] w by kernel_rfl) h)
def api_NumSig.V5 (op_0 : Int) (t_39 : Bool) (R : Value → World → Prop) (w : World) : Prop :=
  (cond t_39
  (R (.tuple #[(.int .i64 1), (.int .u8 127), (.int .u8 127)]) w)
  (cond (decide (op_0 ≥ (106 : Int)))
  (api_NumSig.L6 op_0 (decide (op_0 ≤ (120 : Int))) R w)
  (api_NumSig.L6 op_0 false R w)))
theorem api_NumSig.step5 (op_0 : Int) (t_39 : Bool) (R : Value → World → Prop) (w : World) (h : api_NumSig.V5 op_0 t_39 R w) : api_NumSig.L5 op_0 t_39 R w :=
  seg_T good mixed Try.func24 600 false [.code (sub (bodyOf Try.f24) [1, 0, 0, 1, 1, 1, 1, 1, 1, 1, 1, 1, 1, 1, 1, 1]), .inBlock 0, .code (sub (bodyOf Try.f24) [1, 1])] [(0, (.int .i64 op_0)), (39, (.bool t_39))] w (Eq.mp (show api_NumSig.V5 op_0 t_39 R w = seg Try.prog 24 133 Try.f24.results.toList api_NumSig.cuts R 600 false [.code (sub (bodyOf Try.f24) [1, 0, 0, 1, 1, 1, 1, 1, 1, 1, 1, 1, 1, 1, 1, 1]), .inBlock 0, .code (sub (bodyOf Try.f24) [1, 1])] [(0, (.int .i64 op_0)), (39, (.bool t_39))] w by kernel_rfl) h)
def api_NumSig.V6 (op_0 : Int) (t_46 : Bool) (R : Value → World → Prop) (w : World) : Prop :=
  (cond t_46
  (R (.tuple #[(.int .i64 2), (.int .u8 127), (.int .u8 127)]) w)
  (cond (decide (op_0 ≥ (121 : Int)))
  (api_NumSig.L7 op_0 (decide (op_0 ≤ (123 : Int))) R w)
  (api_NumSig.L7 op_0 false R w)))
theorem api_NumSig.step6 (op_0 : Int) (t_46 : Bool) (R : Value → World → Prop) (w : World) (h : api_NumSig.V6 op_0 t_46 R w) : api_NumSig.L6 op_0 t_46 R w :=
  seg_T good mixed Try.func24 600 false [.code (sub (bodyOf Try.f24) [1, 0, 0, 1, 1, 1, 1, 1, 1, 1, 1, 1, 1, 1, 1, 1, 1, 1]), .inBlock 0, .code (sub (bodyOf Try.f24) [1, 1])] [(0, (.int .i64 op_0)), (46, (.bool t_46))] w (Eq.mp (show api_NumSig.V6 op_0 t_46 R w = seg Try.prog 24 133 Try.f24.results.toList api_NumSig.cuts R 600 false [.code (sub (bodyOf Try.f24) [1, 0, 0, 1, 1, 1, 1, 1, 1, 1, 1, 1, 1, 1, 1, 1, 1, 1]), .inBlock 0, .code (sub (bodyOf Try.f24) [1, 1])] [(0, (.int .i64 op_0)), (46, (.bool t_46))] w by kernel_rfl) h)
def api_NumSig.V7 (op_0 : Int) (t_53 : Bool) (R : Value → World → Prop) (w : World) : Prop :=
  (cond t_53
  (R (.tuple #[(.int .i64 1), (.int .u8 126), (.int .u8 126)]) w)
  (cond (decide (op_0 ≥ (124 : Int)))
  (api_NumSig.L8 op_0 (decide (op_0 ≤ (138 : Int))) R w)
  (api_NumSig.L8 op_0 false R w)))
theorem api_NumSig.step7 (op_0 : Int) (t_53 : Bool) (R : Value → World → Prop) (w : World) (h : api_NumSig.V7 op_0 t_53 R w) : api_NumSig.L7 op_0 t_53 R w :=
  seg_T good mixed Try.func24 600 false [.code (sub (bodyOf Try.f24) [1, 0, 0, 1, 1, 1, 1, 1, 1, 1, 1, 1, 1, 1, 1, 1, 1, 1, 1, 1]), .inBlock 0, .code (sub (bodyOf Try.f24) [1, 1])] [(0, (.int .i64 op_0)), (53, (.bool t_53))] w (Eq.mp (show api_NumSig.V7 op_0 t_53 R w = seg Try.prog 24 133 Try.f24.results.toList api_NumSig.cuts R 600 false [.code (sub (bodyOf Try.f24) [1, 0, 0, 1, 1, 1, 1, 1, 1, 1, 1, 1, 1, 1, 1, 1, 1, 1, 1, 1]), .inBlock 0, .code (sub (bodyOf Try.f24) [1, 1])] [(0, (.int .i64 op_0)), (53, (.bool t_53))] w by kernel_rfl) h)
def api_NumSig.V8 (op_0 : Int) (t_60 : Bool) (R : Value → World → Prop) (w : World) : Prop :=
  (cond t_60
  (R (.tuple #[(.int .i64 2), (.int .u8 126), (.int .u8 126)]) w)
  (cond (decide (op_0 ≥ (139 : Int)))
  (api_NumSig.L9 op_0 (decide (op_0 ≤ (145 : Int))) R w)
  (api_NumSig.L9 op_0 false R w)))
theorem api_NumSig.step8 (op_0 : Int) (t_60 : Bool) (R : Value → World → Prop) (w : World) (h : api_NumSig.V8 op_0 t_60 R w) : api_NumSig.L8 op_0 t_60 R w :=
  seg_T good mixed Try.func24 600 false [.code (sub (bodyOf Try.f24) [1, 0, 0, 1, 1, 1, 1, 1, 1, 1, 1, 1, 1, 1, 1, 1, 1, 1, 1, 1, 1, 1]), .inBlock 0, .code (sub (bodyOf Try.f24) [1, 1])] [(0, (.int .i64 op_0)), (60, (.bool t_60))] w (Eq.mp (show api_NumSig.V8 op_0 t_60 R w = seg Try.prog 24 133 Try.f24.results.toList api_NumSig.cuts R 600 false [.code (sub (bodyOf Try.f24) [1, 0, 0, 1, 1, 1, 1, 1, 1, 1, 1, 1, 1, 1, 1, 1, 1, 1, 1, 1, 1, 1]), .inBlock 0, .code (sub (bodyOf Try.f24) [1, 1])] [(0, (.int .i64 op_0)), (60, (.bool t_60))] w by kernel_rfl) h)
def api_NumSig.V9 (op_0 : Int) (t_67 : Bool) (R : Value → World → Prop) (w : World) : Prop :=
  (cond t_67
  (R (.tuple #[(.int .i64 1), (.int .u8 125), (.int .u8 125)]) w)
  (cond (decide (op_0 ≥ (146 : Int)))
  (api_NumSig.L10 op_0 (decide (op_0 ≤ (152 : Int))) R w)
  (api_NumSig.L10 op_0 false R w)))
theorem api_NumSig.step9 (op_0 : Int) (t_67 : Bool) (R : Value → World → Prop) (w : World) (h : api_NumSig.V9 op_0 t_67 R w) : api_NumSig.L9 op_0 t_67 R w :=
  seg_T good mixed Try.func24 600 false [.code (sub (bodyOf Try.f24) [1, 0, 0, 1, 1, 1, 1, 1, 1, 1, 1, 1, 1, 1, 1, 1, 1, 1, 1, 1, 1, 1, 1, 1]), .inBlock 0, .code (sub (bodyOf Try.f24) [1, 1])] [(0, (.int .i64 op_0)), (67, (.bool t_67))] w (Eq.mp (show api_NumSig.V9 op_0 t_67 R w = seg Try.prog 24 133 Try.f24.results.toList api_NumSig.cuts R 600 false [.code (sub (bodyOf Try.f24) [1, 0, 0, 1, 1, 1, 1, 1, 1, 1, 1, 1, 1, 1, 1, 1, 1, 1, 1, 1, 1, 1, 1, 1]), .inBlock 0, .code (sub (bodyOf Try.f24) [1, 1])] [(0, (.int .i64 op_0)), (67, (.bool t_67))] w by kernel_rfl) h)
def api_NumSig.V10 (op_0 : Int) (t_74 : Bool) (R : Value → World → Prop) (w : World) : Prop :=
  (cond t_74
  (R (.tuple #[(.int .i64 2), (.int .u8 125), (.int .u8 125)]) w)
  (cond (decide (op_0 ≥ (153 : Int)))
  (api_NumSig.L11 op_0 (decide (op_0 ≤ (159 : Int))) R w)
  (api_NumSig.L11 op_0 false R w)))
theorem api_NumSig.step10 (op_0 : Int) (t_74 : Bool) (R : Value → World → Prop) (w : World) (h : api_NumSig.V10 op_0 t_74 R w) : api_NumSig.L10 op_0 t_74 R w :=
  seg_T good mixed Try.func24 600 false [.code (sub (bodyOf Try.f24) [1, 0, 0, 1, 1, 1, 1, 1, 1, 1, 1, 1, 1, 1, 1, 1, 1, 1, 1, 1, 1, 1, 1, 1, 1, 1]), .inBlock 0, .code (sub (bodyOf Try.f24) [1, 1])] [(0, (.int .i64 op_0)), (74, (.bool t_74))] w (Eq.mp (show api_NumSig.V10 op_0 t_74 R w = seg Try.prog 24 133 Try.f24.results.toList api_NumSig.cuts R 600 false [.code (sub (bodyOf Try.f24) [1, 0, 0, 1, 1, 1, 1, 1, 1, 1, 1, 1, 1, 1, 1, 1, 1, 1, 1, 1, 1, 1, 1, 1, 1, 1]), .inBlock 0, .code (sub (bodyOf Try.f24) [1, 1])] [(0, (.int .i64 op_0)), (74, (.bool t_74))] w by kernel_rfl) h)
def api_NumSig.V11 (op_0 : Int) (t_81 : Bool) (R : Value → World → Prop) (w : World) : Prop :=
  (cond t_81
  (R (.tuple #[(.int .i64 1), (.int .u8 124), (.int .u8 124)]) w)
  (cond (decide (op_0 ≥ (160 : Int)))
  (api_NumSig.L12 op_0 (decide (op_0 ≤ (166 : Int))) R w)
  (api_NumSig.L12 op_0 false R w)))
theorem api_NumSig.step11 (op_0 : Int) (t_81 : Bool) (R : Value → World → Prop) (w : World) (h : api_NumSig.V11 op_0 t_81 R w) : api_NumSig.L11 op_0 t_81 R w :=
  seg_T good mixed Try.func24 600 false [.code (sub (bodyOf Try.f24) [1, 0, 0, 1, 1, 1, 1, 1, 1, 1, 1, 1, 1, 1, 1, 1, 1, 1, 1, 1, 1, 1, 1, 1, 1, 1, 1, 1]), .inBlock 0, .code (sub (bodyOf Try.f24) [1, 1])] [(0, (.int .i64 op_0)), (81, (.bool t_81))] w (Eq.mp (show api_NumSig.V11 op_0 t_81 R w = seg Try.prog 24 133 Try.f24.results.toList api_NumSig.cuts R 600 false [.code (sub (bodyOf Try.f24) [1, 0, 0, 1, 1, 1, 1, 1, 1, 1, 1, 1, 1, 1, 1, 1, 1, 1, 1, 1, 1, 1, 1, 1, 1, 1, 1, 1]), .inBlock 0, .code (sub (bodyOf Try.f24) [1, 1])] [(0, (.int .i64 op_0)), (81, (.bool t_81))] w by kernel_rfl) h)
def api_NumSig.V12 (op_0 : Int) (t_88 : Bool) (R : Value → World → Prop) (w : World) : Prop :=
  (cond t_88
  (R (.tuple #[(.int .i64 2), (.int .u8 124), (.int .u8 124)]) w)
  (cond (op_0 == (167 : Int))
  (R (.tuple #[(.int .i64 1), (.int .u8 126), (.int .u8 127)]) w)
  (cond (op_0 == (168 : Int))
  (api_NumSig.L13 op_0 true R w)
  (cond (op_0 == (169 : Int))
  (api_NumSig.L13 op_0 true R w)
  (api_NumSig.L13 op_0 (op_0 == (188 : Int)) R w)))))
theorem api_NumSig.step12 (op_0 : Int) (t_88 : Bool) (R : Value → World → Prop) (w : World) (h : api_NumSig.V12 op_0 t_88 R w) : api_NumSig.L12 op_0 t_88 R w :=
  seg_T good mixed Try.func24 600 false [.code (sub (bodyOf Try.f24) [1, 0, 0, 1, 1, 1, 1, 1, 1, 1, 1, 1, 1, 1, 1, 1, 1, 1, 1, 1, 1, 1, 1, 1, 1, 1, 1, 1, 1, 1]), .inBlock 0, .code (sub (bodyOf Try.f24) [1, 1])] [(0, (.int .i64 op_0)), (88, (.bool t_88))] w (Eq.mp (show api_NumSig.V12 op_0 t_88 R w = seg Try.prog 24 133 Try.f24.results.toList api_NumSig.cuts R 600 false [.code (sub (bodyOf Try.f24) [1, 0, 0, 1, 1, 1, 1, 1, 1, 1, 1, 1, 1, 1, 1, 1, 1, 1, 1, 1, 1, 1, 1, 1, 1, 1, 1, 1, 1, 1]), .inBlock 0, .code (sub (bodyOf Try.f24) [1, 1])] [(0, (.int .i64 op_0)), (88, (.bool t_88))] w by kernel_rfl) h)
def api_NumSig.V13 (t_95 : Int) (t_98 : Bool) (R : Value → World → Prop) (w : World) : Prop :=
  (cond t_98
  (R (.tuple #[(.int .i64 1), (.int .u8 125), (.int .u8 127)]) w)
  (cond (t_95 == (170 : Int))
  (api_NumSig.L14 t_95 true R w)
  (api_NumSig.L14 t_95 (t_95 == (171 : Int)) R w)))
theorem api_NumSig.step13 (t_95 : Int) (t_98 : Bool) (R : Value → World → Prop) (w : World) (h : api_NumSig.V13 t_95 t_98 R w) : api_NumSig.L13 t_95 t_98 R w :=
  seg_T good mixed Try.func24 600 false [.code (sub (bodyOf Try.f24) [1, 1, 0, 1, 0, 1, 1, 1]), .inBlock 1, .code (sub (bodyOf Try.f24) [1, 1, 1])] [(95, (.int .i64 t_95)), (98, (.bool t_98))] w (Eq.mp (show api_NumSig.V13 t_95 t_98 R w = seg Try.prog 24 133 Try.f24.results.toList api_NumSig.cuts R 600 false [.code (sub (bodyOf Try.f24) [1, 1, 0, 1, 0, 1, 1, 1]), .inBlock 1, .code (sub (bodyOf Try.f24) [1, 1, 1])] [(95, (.int .i64 t_95)), (98, (.bool t_98))] w by kernel_rfl) h)
def api_NumSig.V14 (t_95 : Int) (t_102 : Bool) (R : Value → World → Prop) (w : World) : Prop :=
  (cond t_102
  (R (.tuple #[(.int .i64 1), (.int .u8 124), (.int .u8 127)]) w)
  (cond (t_95 == (172 : Int))
  (api_NumSig.L15 t_95 true R w)
  (api_NumSig.L15 t_95 (t_95 == (173 : Int)) R w)))
theorem api_NumSig.step14 (t_95 : Int) (t_102 : Bool) (R : Value → World → Prop) (w : World) (h : api_NumSig.V14 t_95 t_102 R w) : api_NumSig.L14 t_95 t_102 R w :=
  seg_T good mixed Try.func24 600 false [.code (sub (bodyOf Try.f24) [1, 1, 0, 1, 0, 1, 1, 1, 1, 1]), .inBlock 1, .code (sub (bodyOf Try.f24) [1, 1, 1])] [(95, (.int .i64 t_95)), (102, (.bool t_102))] w (Eq.mp (show api_NumSig.V14 t_95 t_102 R w = seg Try.prog 24 133 Try.f24.results.toList api_NumSig.cuts R 600 false [.code (sub (bodyOf Try.f24) [1, 1, 0, 1, 0, 1, 1, 1, 1, 1]), .inBlock 1, .code (sub (bodyOf Try.f24) [1, 1, 1])] [(95, (.int .i64 t_95)), (102, (.bool t_102))] w by kernel_rfl) h)
def api_NumSig.V15 (t_95 : Int) (t_105 : Bool) (R : Value → World → Prop) (w : World) : Prop :=
  (cond t_105
  (R (.tuple #[(.int .i64 1), (.int .u8 127), (.int .u8 126)]) w)
  (cond (t_95 == (174 : Int))
  (api_NumSig.L16 t_95 true R w)
  (api_NumSig.L16 t_95 (t_95 == (175 : Int)) R w)))
theorem api_NumSig.step15 (t_95 : Int) (t_105 : Bool) (R : Value → World → Prop) (w : World) (h : api_NumSig.V15 t_95 t_105 R w) : api_NumSig.L15 t_95 t_105 R w :=
  seg_T good mixed Try.func24 600 false [.code (sub (bodyOf Try.f24) [1, 1, 0, 1, 0, 1, 1, 1, 1, 1, 1, 1]), .inBlock 1, .code (sub (bodyOf Try.f24) [1, 1, 1])] [(95, (.int .i64 t_95)), (105, (.bool t_105))] w (Eq.mp (show api_NumSig.V15 t_95 t_105 R w = seg Try.prog 24 133 Try.f24.results.toList api_NumSig.cuts R 600 false [.code (sub (bodyOf Try.f24) [1, 1, 0, 1, 0, 1, 1, 1, 1, 1, 1, 1]), .inBlock 1, .code (sub (bodyOf Try.f24) [1, 1, 1])] [(95, (.int .i64 t_95)), (105, (.bool t_105))] w by kernel_rfl) h)
def api_NumSig.V16 (t_95 : Int) (t_108 : Bool) (R : Value → World → Prop) (w : World) : Prop :=
  (cond t_108
  (R (.tuple #[(.int .i64 1), (.int .u8 125), (.int .u8 126)]) w)
  (cond (t_95 == (176 : Int))
  (api_NumSig.L17 t_95 true R w)
  (cond (t_95 == (177 : Int))
  (api_NumSig.L17 t_95 true R w)
  (api_NumSig.L17 t_95 (t_95 == (189 : Int)) R w))))
theorem api_NumSig.step16 (t_95 : Int) (t_108 : Bool) (R : Value → World → Prop) (w : World) (h : api_NumSig.V16 t_95 t_108 R w) : api_NumSig.L16 t_95 t_108 R w :=
  seg_T good mixed Try.func24 600 false [.code (sub (bodyOf Try.f24) [1, 1, 0, 1, 0, 1, 1, 1, 1, 1, 1, 1, 1, 1]), .inBlock 1, .code (sub (bodyOf Try.f24) [1, 1, 1])] [(95, (.int .i64 t_95)), (108, (.bool t_108))] w (Eq.mp (show api_NumSig.V16 t_95 t_108 R w = seg Try.prog 24 133 Try.f24.results.toList api_NumSig.cuts R 600 false [.code (sub (bodyOf Try.f24) [1, 1, 0, 1, 0, 1, 1, 1, 1, 1, 1, 1, 1, 1]), .inBlock 1, .code (sub (bodyOf Try.f24) [1, 1, 1])] [(95, (.int .i64 t_95)), (108, (.bool t_108))] w by kernel_rfl) h)
def api_NumSig.V17 (t_95 : Int) (t_111 : Bool) (R : Value → World → Prop) (w : World) : Prop :=
  (cond t_111
  (R (.tuple #[(.int .i64 1), (.int .u8 124), (.int .u8 126)]) w)
  (cond (t_95 == (178 : Int))
  (api_NumSig.L18 t_95 true R w)
  (cond (t_95 == (179 : Int))
  (api_NumSig.L18 t_95 true R w)
  (api_NumSig.L18 t_95 (t_95 == (190 : Int)) R w))))
theorem api_NumSig.step17 (t_95 : Int) (t_111 : Bool) (R : Value → World → Prop) (w : World) (h : api_NumSig.V17 t_95 t_111 R w) : api_NumSig.L17 t_95 t_111 R w :=
  seg_T good mixed Try.func24 600 false [.code (sub (bodyOf Try.f24) [1, 1, 0, 1, 0, 1, 1, 1, 1, 1, 1, 1, 1, 1, 1, 1]), .inBlock 1, .code (sub (bodyOf Try.f24) [1, 1, 1])] [(95, (.int .i64 t_95)), (111, (.bool t_111))] w (Eq.mp (show api_NumSig.V17 t_95 t_111 R w = seg Try.prog 24 133 Try.f24.results.toList api_NumSig.cuts R 600 false [.code (sub (bodyOf Try.f24) [1, 1, 0, 1, 0, 1, 1, 1, 1, 1, 1, 1, 1, 1, 1, 1]), .inBlock 1, .code (sub (bodyOf Try.f24) [1, 1, 1])] [(95, (.int .i64 t_95)), (111, (.bool t_111))] w by kernel_rfl) h)
def api_NumSig.V18 (t_95 : Int) (t_115 : Bool) (R : Value → World → Prop) (w : World) : Prop :=
  (cond t_115
  (R (.tuple #[(.int .i64 1), (.int .u8 127), (.int .u8 125)]) w)
  (cond (t_95 == (180 : Int))
  (api_NumSig.L19 t_95 true R w)
  (api_NumSig.L19 t_95 (t_95 == (181 : Int)) R w)))
theorem api_NumSig.step18 (t_95 : Int) (t_115 : Bool) (R : Value → World → Prop) (w : World) (h : api_NumSig.V18 t_95 t_115 R w) : api_NumSig.L18 t_95 t_115 R w :=
  seg_T good mixed Try.func24 600 false [.code (sub (bodyOf Try.f24) [1, 1, 0, 1, 0, 1, 1, 1, 1, 1, 1, 1, 1, 1, 1, 1, 1, 1]), .inBlock 1, .code (sub (bodyOf Try.f24) [1, 1, 1])] [(95, (.int .i64 t_95)), (115, (.bool t_115))] w (Eq.mp (show api_NumSig.V18 t_95 t_115 R w = seg Try.prog 24 133 Try.f24.results.toList api_NumSig.cuts R 600 false [.code (sub (bodyOf Try.f24) [1, 1, 0, 1, 0, 1, 1, 1, 1, 1, 1, 1, 1, 1, 1, 1, 1, 1]), .inBlock 1, .code (sub (bodyOf Try.f24) [1, 1, 1])] [(95, (.int .i64 t_95)), (115, (.bool t_115))] w by kernel_rfl) h)
def api_NumSig.V19 (t_95 : Int) (t_119 : Bool) (R : Value → World → Prop) (w : World) : Prop :=
  (cond t_119
  (R (.tuple #[(.int .i64 1), (.int .u8 126), (.int .u8 125)]) w)
  (cond (t_95 == (182 : Int))
  (R (.tuple #[(.int .i64 1), (.int .u8 124), (.int .u8 125)]) w)
  (cond (t_95 == (183 : Int))
  (api_NumSig.L20 t_95 true R w)
  (api_NumSig.L20 t_95 (t_95 == (184 : Int)) R w))))
theorem api_NumSig.step19 (t_95 : Int) (t_119 : Bool) (R : Value → World → Prop) (w : World) (h : api_NumSig.V19 t_95 t_119 R w) : api_NumSig.L19 t_95 t_119 R w :=
  seg_T good mixed Try.func24 600 false [.code (sub (bodyOf Try.f24) [1, 1, 0, 1, 0, 1, 1, 1, 1, 1, 1, 1, 1, 1, 1, 1, 1, 1, 1, 1]), .inBlock 1, .code (sub (bodyOf Try.f24) [1, 1, 1])] [(95, (.int .i64 t_95)), (119, (.bool t_119))] w (Eq.mp (show api_NumSig.V19 t_95 t_119 R w = seg Try.prog 24 133 Try.f24.results.toList api_NumSig.cuts R 600 false [.code (sub (bodyOf Try.f24) [1, 1, 0, 1, 0, 1, 1, 1, 1, 1, 1, 1, 1, 1, 1, 1, 1, 1, 1, 1]), .inBlock 1, .code (sub (bodyOf Try.f24) [1, 1, 1])] [(95, (.int .i64 t_95)), (119, (.bool t_119))] w by kernel_rfl) h)
def api_NumSig.V20 (t_95 : Int) (t_124 : Bool) (R : Value → World → Prop) (w : World) : Prop :=
  (cond t_124
  (R (.tuple #[(.int .i64 1), (.int .u8 127), (.int .u8 124)]) w)
  (cond (t_95 == (185 : Int))
  (api_NumSig.L21 t_95 true R w)
  (cond (t_95 == (186 : Int))
  (api_NumSig.L21 t_95 true R w)
  (api_NumSig.L21 t_95 (t_95 == (191 : Int)) R w))))
theorem api_NumSig.step20 (t_95 : Int) (t_124 : Bool) (R : Value → World → Prop) (w : World) (h : api_NumSig.V20 t_95 t_124 R w) : api_NumSig.L20 t_95 t_124 R w :=
  seg_T good mixed Try.func24 600 false [.code (sub (bodyOf Try.f24) [1, 1, 0, 1, 0, 1, 1, 1, 1, 1, 1, 1, 1, 1, 1, 1, 1, 1, 1, 1, 1, 1, 1, 1]), .inBlock 1, .code (sub (bodyOf Try.f24) [1, 1, 1])] [(95, (.int .i64 t_95)), (124, (.bool t_124))] w (Eq.mp (show api_NumSig.V20 t_95 t_124 R w = seg Try.prog 24 133 Try.f24.results.toList api_NumSig.cuts R 600 false [.code (sub (bodyOf Try.f24) [1, 1, 0, 1, 0, 1, 1, 1, 1, 1, 1, 1, 1, 1, 1, 1, 1, 1, 1, 1, 1, 1, 1, 1]), .inBlock 1, .code (sub (bodyOf Try.f24) [1, 1, 1])] [(95, (.int .i64 t_95)), (124, (.bool t_124))] w by kernel_rfl) h)
def api_NumSig.V21 (t_95 : Int) (t_127 : Bool) (R : Value → World → Prop) (w : World) : Prop :=
  (cond t_127
  (R (.tuple #[(.int .i64 1), (.int .u8 126), (.int .u8 124)]) w)
  (cond (t_95 == (187 : Int))
  (R (.tuple #[(.int .i64 1), (.int .u8 125), (.int .u8 124)]) w)
  (R (.tuple #[(.int .i64 0), (.int .u8 0), (.int .u8 0)]) w)))
theorem api_NumSig.step21 (t_95 : Int) (t_127 : Bool) (R : Value → World → Prop) (w : World) (h : api_NumSig.V21 t_95 t_127 R w) : api_NumSig.L21 t_95 t_127 R w :=
  seg_T good mixed Try.func24 600 false [.code (sub (bodyOf Try.f24) [1, 1, 0, 1, 0, 1, 1, 1, 1, 1, 1, 1, 1, 1, 1, 1, 1, 1, 1, 1, 1, 1, 1, 1, 1, 1]), .inBlock 1, .code (sub (bodyOf Try.f24) [1, 1, 1])] [(95, (.int .i64 t_95)), (127, (.bool t_127))] w (Eq.mp (show api_NumSig.V21 t_95 t_127 R w = seg Try.prog 24 133 Try.f24.results.toList api_NumSig.cuts R 600 false [.code (sub (bodyOf Try.f24) [1, 1, 0, 1, 0, 1, 1, 1, 1, 1, 1, 1, 1, 1, 1, 1, 1, 1, 1, 1, 1, 1, 1, 1, 1, 1]), .inBlock 1, .code (sub (bodyOf Try.f24) [1, 1, 1])] [(95, (.int .i64 t_95)), (127, (.bool t_127))] w by kernel_rfl) h)
def api_NumSig.V (op_0 : Int) (R : Value → World → Prop) (w : World) : Prop :=
  (cond (op_0 == (69 : Int))
  (R (.tuple #[(.int .i64 1), (.int .u8 127), (.int .u8 127)]) w)
  (cond (decide (op_0 ≥ (70 : Int)))
  (api_NumSig.L1 op_0 (decide (op_0 ≤ (79 : Int))) R w)
  (api_NumSig.L1 op_0 false R w)))
theorem api_NumSig.enter (op_0 : Int) (R : Value → World → Prop) (w : World) (h : api_NumSig.V op_0 R w) : Runs Try.prog api_NumSig.id #[(.int .i64 op_0)] w R :=
  Runs.enter (c := bodyOf Try.f24) (N := 133) Try.func24 (by kernel_rfl) (by kernel_rfl) (by kernel_rfl) (seg_T good mixed Try.func24 600 false [.code (bodyOf Try.f24)] [(0, (.int .i64 op_0))] w (Eq.mp (show api_NumSig.V op_0 R w = seg Try.prog 24 133 Try.f24.results.toList api_NumSig.cuts R 600 false [.code (bodyOf Try.f24)] [(0, (.int .i64 op_0))] w by kernel_rfl) h))

/-! e2e/numlaw.F32 -/
def numlaw_F32.cuts : List (Nat × List Nat) := []
def numlaw_F32.V (R : Value → World → Prop) (w : World) : Prop :=
  (letB (Array.size (World.heap w)) fun b1 => letW (World.alloc w (.cells #[(.int .i64 0), (.int .i64 0), (.int .i64 0), (.int .u64 0), (.int .u64 0), (.int .u64 0)] T_numlaw_Fmt)) fun w2 => (putCells w2 ⟨b1, 0, none⟩ [(.int .i64 139), (.int .i64 146), (.int .i64 91), (.int .u64 2147483648), (.int .u64 2139095040), (.int .u64 2143289344)] fun w3 => ((∃ x4 : Int, ∃ x5 : Int, ∃ x6 : Int, ∃ x7 : Int, ∃ x8 : Int, ∃ x9 : Int, World.cell? w3 ⟨b1, 0, none⟩ = some (.int .i64 x4) ∧ World.cell? w3 ⟨b1, 1, none⟩ = some (.int .i64 x5) ∧ World.cell? w3 ⟨b1, 2, none⟩ = some (.int .i64 x6) ∧ World.cell? w3 ⟨b1, 3, none⟩ = some (.int .u64 x7) ∧ World.cell? w3 ⟨b1, 4, none⟩ = some (.int .u64 x8) ∧ World.cell? w3 ⟨b1, 5, none⟩ = some (.int .u64 x9) ∧ R (.agg #[(.int .i64 x4), (.int .i64 x5), (.int .i64 x6), (.int .u64 x7), (.int .u64 x8), (.int .u64 x9)]) w3))))
theorem numlaw_F32.enter (R : Value → World → Prop) (w : World) (h : numlaw_F32.V R w) : Runs Try.prog numlaw_F32.id #[] w R :=
  Runs.enter (c := bodyOf Try.f25) (N := 2) Try.func25 (by kernel_rfl) (by kernel_rfl) (by kernel_rfl) (seg_T good mixed Try.func25 600 false [.code (bodyOf Try.f25)] [] w (Eq.mp (show numlaw_F32.V R w = seg Try.prog 25 2 Try.f25.results.toList numlaw_F32.cuts R 600 false [.code (bodyOf Try.f25)] [] w by kernel_rfl) h))

/-! e2e/numlaw.KeptRoot -/
def numlaw_KeptRoot.cuts : List (Nat × List Nat) := [(6, [1, 2, 3, 7, 36]), (16, [1, 2, 3, 7]), (26, [1, 8, 10, 12]), (40, [1, 8, 10, 12, 13, 14, 17, 18]), (50, [13, 14, 17, 18])]
def numlaw_KeptRoot.L1 (p_1 : Int) (a_2 : Int) (f_3 : Nat) (r_7 : Int) (t_36 : Bool) (R : Value → World → Prop) (w : World) : Prop :=
  T Try.prog 26 172 [.code (sub (bodyOf Try.f26) [1, 1, 0, 1]), .code (sub (bodyOf Try.f26) [1, 1, 1])] [(1, (.int .i64 p_1)), (2, (.int .u64 a_2)), (3, (.pointer (some ⟨f_3, 0, none⟩))), (7, (.int .u64 r_7)), (36, (.bool t_36))] w R
def numlaw_KeptRoot.L2 (p_1 : Int) (a_2 : Int) (f_3 : Nat) (r_7 : Int) (R : Value → World → Prop) (w : World) : Prop :=
  T Try.prog 26 172 [.code (sub (bodyOf Try.f26) [1, 1, 1, 1, 1])] [(1, (.int .i64 p_1)), (2, (.int .u64 a_2)), (3, (.pointer (some ⟨f_3, 0, none⟩))), (7, (.int .u64 r_7))] w R
def numlaw_KeptRoot.L3 (p_1 : Int) (mx_8 : Int) (mr_10 : Int) (sh_12 : Int) (R : Value → World → Prop) (w : World) : Prop :=
  T Try.prog 26 172 [.code (sub (bodyOf Try.f26) [1, 1, 1, 1, 1, 1, 1, 1, 1])] [(1, (.int .i64 p_1)), (8, (.int .u64 mx_8)), (10, (.int .u64 mr_10)), (12, (.int .i64 sh_12))] w R
def numlaw_KeptRoot.L4 (p_1 : Int) (mx_8 : Int) (mr_10 : Int) (sh_12 : Int) (xh_13 : Int) (xl_14 : Int) (uh_17 : Int) (ul_18 : Int) (R : Value → World → Prop) (w : World) : Prop :=
  T Try.prog 26 172 [.code (sub (bodyOf Try.f26) [1, 1, 1, 1, 1, 1, 1, 1, 1, 1, 1, 1, 1, 1])] [(1, (.int .i64 p_1)), (8, (.int .u64 mx_8)), (10, (.int .u64 mr_10)), (12, (.int .i64 sh_12)), (13, (.int .u64 xh_13)), (14, (.int .u64 xl_14)), (17, (.int .u64 uh_17)), (18, (.int .u64 ul_18))] w R
def numlaw_KeptRoot.L5 (xh_13 : Int) (xl_14 : Int) (uh_17 : Int) (ul_18 : Int) (R : Value → World → Prop) (w : World) : Prop :=
  T Try.prog 26 172 [.code (sub (bodyOf Try.f26) [1, 1, 1, 1, 1, 1, 1, 1, 1, 1, 1, 1, 1, 1, 1])] [(13, (.int .u64 xh_13)), (14, (.int .u64 xl_14)), (17, (.int .u64 uh_17)), (18, (.int .u64 ul_18))] w R
def numlaw_KeptRoot.V1 (p_1 : Int) (a_2 : Int) (f_3 : Nat) (r_7 : Int) (t_36 : Bool) (R : Value → World → Prop) (w : World) : Prop :=
  (cond t_36
  (R (.bool (r_7 == a_2)) w)
  (∃ x1 : Int, World.cell? w ⟨f_3, 4, none⟩ = some (.int .u64 x1) ∧ (cond (decide (a_2 > x1))
  (∃ x2 : Int, World.cell? w ⟨f_3, 5, none⟩ = some (.int .u64 x2) ∧ (R (.bool (r_7 == x2)) w))
  (cond (r_7 == (0 : Int))
  (R (.bool false) w)
  (∃ x3 : Int, World.cell? w ⟨f_3, 4, none⟩ = some (.int .u64 x3) ∧ (cond (decide (r_7 ≥ x3))
  (R (.bool false) w)
  (numlaw_KeptRoot.L2 p_1 a_2 f_3 r_7 R w)))))))
theorem numlaw_KeptRoot.step1 (p_1 : Int) (a_2 : Int) (f_3 : Nat) (r_7 : Int) (t_36 : Bool) (R : Value → World → Prop) (w : World) (h : numlaw_KeptRoot.V1 p_1 a_2 f_3 r_7 t_36 R w) : numlaw_KeptRoot.L1 p_1 a_2 f_3 r_7 t_36 R w :=
  seg_T good mixed Try.func26 600 false [.code (sub (bodyOf Try.f26) [1, 1, 0, 1]), .code (sub (bodyOf Try.f26) [1, 1, 1])] [(1, (.int .i64 p_1)), (2, (.int .u64 a_2)), (3, (.pointer (some ⟨f_3, 0, none⟩))), (7, (.int .u64 r_7)), (36, (.bool t_36))] w (Eq.mp (show numlaw_KeptRoot.V1 p_1 a_2 f_3 r_7 t_36 R w = seg Try.prog 26 172 Try.f26.results.toList numlaw_KeptRoot.cuts R 600 false [.code (sub (bodyOf Try.f26) [1, 1, 0, 1]), .code (sub (bodyOf Try.f26) [1, 1, 1])] [(1, (.int .i64 p_1)), (2, (.int .u64 a_2)), (3, (.pointer (some ⟨f_3, 0, none⟩))), (7, (.int .u64 r_7)), (36, (.bool t_36))] w by kernel_rfl) h)
def numlaw_KeptRoot.V2 (p_1 : Int) (a_2 : Int) (f_3 : Nat) (r_7 : Int) (R : Value → World → Prop) (w : World) : Prop :=
  (∃ x1 : Int, ∃ x2 : Int, ∃ x3 : Int, ∃ x4 : Int, ∃ x5 : Int, ∃ x6 : Int, World.cell? w ⟨f_3, 0, none⟩ = some (.int .i64 x1) ∧ World.cell? w ⟨f_3, 1, none⟩ = some (.int .i64 x2) ∧ World.cell? w ⟨f_3, 2, none⟩ = some (.int .i64 x3) ∧ World.cell? w ⟨f_3, 3, none⟩ = some (.int .u64 x4) ∧ World.cell? w ⟨f_3, 4, none⟩ = some (.int .u64 x5) ∧ World.cell? w ⟨f_3, 5, none⟩ = some (.int .u64 x6) ∧ (Runs Try.prog numlaw_Part.id #[(.agg #[(.int .i64 x1), (.int .i64 x2), (.int .i64 x3), (.int .u64 x4), (.int .u64 x5), (.int .u64 x6)]), (.int .i64 p_1), (.int .u64 a_2)] w fun r7 w8 => (∃ x9 : Int, ∃ x10 : Int, (r7 = (.tuple #[(.int .u64 x9), (.int .i64 x10)]) ∧ (∃ x11 : Int, ∃ x12 : Int, ∃ x13 : Int, ∃ x14 : Int, ∃ x15 : Int, ∃ x16 : Int, World.cell? w8 ⟨f_3, 0, none⟩ = some (.int .i64 x11) ∧ World.cell? w8 ⟨f_3, 1, none⟩ = some (.int .i64 x12) ∧ World.cell? w8 ⟨f_3, 2, none⟩ = some (.int .i64 x13) ∧ World.cell? w8 ⟨f_3, 3, none⟩ = some (.int .u64 x14) ∧ World.cell? w8 ⟨f_3, 4, none⟩ = some (.int .u64 x15) ∧ World.cell? w8 ⟨f_3, 5, none⟩ = some (.int .u64 x16) ∧ (Runs Try.prog numlaw_Part.id #[(.agg #[(.int .i64 x11), (.int .i64 x12), (.int .i64 x13), (.int .u64 x14), (.int .u64 x15), (.int .u64 x16)]), (.int .i64 p_1), (.int .u64 r_7)] w8 fun r17 w18 => (∃ x19 : Int, ∃ x20 : Int, (r17 = (.tuple #[(.int .u64 x19), (.int .i64 x20)]) ∧ (cond (decide ((IntKind.wrap .i64 ((IntKind.wrap .i64 (x10 - (IntKind.wrap .i64 ((2 : Int) * x20)))) + (2 : Int))) < (1 : Int)))
  (R (.bool false) w18)
  (cond (decide ((IntKind.wrap .i64 ((IntKind.wrap .i64 (x10 - (IntKind.wrap .i64 ((2 : Int) * x20)))) + (2 : Int))) > (IntKind.wrap .i64 ((IntKind.wrap .i64 ((2 : Int) * p_1)) + (2 : Int)))))
  (R (.bool false) w18)
  (numlaw_KeptRoot.L3 p_1 x9 x19 (IntKind.wrap .i64 ((IntKind.wrap .i64 (x10 - (IntKind.wrap .i64 ((2 : Int) * x20)))) + (2 : Int))) R w18)))))))))))
theorem numlaw_KeptRoot.step2 (p_1 : Int) (a_2 : Int) (f_3 : Nat) (r_7 : Int) (R : Value → World → Prop) (w : World) (h : numlaw_KeptRoot.V2 p_1 a_2 f_3 r_7 R w) : numlaw_KeptRoot.L2 p_1 a_2 f_3 r_7 R w :=
  seg_T good mixed Try.func26 600 false [.code (sub (bodyOf Try.f26) [1, 1, 1, 1, 1])] [(1, (.int .i64 p_1)), (2, (.int .u64 a_2)), (3, (.pointer (some ⟨f_3, 0, none⟩))), (7, (.int .u64 r_7))] w (Eq.mp (show numlaw_KeptRoot.V2 p_1 a_2 f_3 r_7 R w = seg Try.prog 26 172 Try.f26.results.toList numlaw_KeptRoot.cuts R 600 false [.code (sub (bodyOf Try.f26) [1, 1, 1, 1, 1])] [(1, (.int .i64 p_1)), (2, (.int .u64 a_2)), (3, (.pointer (some ⟨f_3, 0, none⟩))), (7, (.int .u64 r_7))] w by kernel_rfl) h)
def numlaw_KeptRoot.V3 (p_1 : Int) (mx_8 : Int) (mr_10 : Int) (sh_12 : Int) (R : Value → World → Prop) (w : World) : Prop :=
  (0 ≤ (IntKind.wrap .u64 (IntKind.wrap .i64 ((IntKind.wrap .i64 ((IntKind.wrap .i64 ((2 : Int) * p_1)) + (2 : Int))) - sh_12))) ∧ (cond ((Int.fdiv mx_8 (2 ^ (min (Int.toNat (IntKind.wrap .u64 (IntKind.wrap .i64 ((IntKind.wrap .i64 ((IntKind.wrap .i64 ((2 : Int) * p_1)) + (2 : Int))) - sh_12)))) (IntKind.bits .u64)))) != (0 : Int))
  (R (.bool false) w)
  (Runs Try.prog numlaw_Shl.id #[(.int .u64 mx_8), (.int .i64 sh_12)] w fun r1 w2 => (∃ x3 : Int, ∃ x4 : Int, (r1 = (.tuple #[(.int .u64 x3), (.int .u64 x4)]) ∧ (Runs Try.prog numlaw_Sq.id #[(.int .u64 (IntKind.wrap .u64 ((IntKind.wrap .u64 ((2 : Int) * mr_10)) - (1 : Int))))] w2 fun r5 w6 => (∃ x7 : Int, ∃ x8 : Int, (r5 = (.tuple #[(.int .u64 x7), (.int .u64 x8)]) ∧ (Runs Try.prog numlaw_Sq.id #[(.int .u64 (IntKind.wrap .u64 ((IntKind.wrap .u64 ((2 : Int) * mr_10)) + (1 : Int))))] w6 fun r9 w10 => (∃ x11 : Int, ∃ x12 : Int, (r9 = (.tuple #[(.int .u64 x11), (.int .u64 x12)]) ∧ (cond (decide (x3 < x7))
  (R (.bool false) w10)
  (cond (x3 == x7)
  (cond (decide (x4 < x8))
  (R (.bool false) w10)
  (numlaw_KeptRoot.L4 p_1 mx_8 mr_10 sh_12 x3 x4 x11 x12 R w10))
  (numlaw_KeptRoot.L4 p_1 mx_8 mr_10 sh_12 x3 x4 x11 x12 R w10))))))))))))))
theorem numlaw_KeptRoot.step3 (p_1 : Int) (mx_8 : Int) (mr_10 : Int) (sh_12 : Int) (R : Value → World → Prop) (w : World) (h : numlaw_KeptRoot.V3 p_1 mx_8 mr_10 sh_12 R w) : numlaw_KeptRoot.L3 p_1 mx_8 mr_10 sh_12 R w :=
  seg_T good mixed Try.func26 600 false [.code (sub (bodyOf Try.f26) [1, 1, 1, 1, 1, 1, 1, 1, 1])] [(1, (.int .i64 p_1)), (8, (.int .u64 mx_8)), (10, (.int .u64 mr_10)), (12, (.int .i64 sh_12))] w (Eq.mp (show numlaw_KeptRoot.V3 p_1 mx_8 mr_10 sh_12 R w = seg Try.prog 26 172 Try.f26.results.toList numlaw_KeptRoot.cuts R 600 false [.code (sub (bodyOf Try.f26) [1, 1, 1, 1, 1, 1, 1, 1, 1])] [(1, (.int .i64 p_1)), (8, (.int .u64 mx_8)), (10, (.int .u64 mr_10)), (12, (.int .i64 sh_12))] w by kernel_rfl) h)
def numlaw_KeptRoot.V4 (p_1 : Int) (mx_8 : Int) (mr_10 : Int) (sh_12 : Int) (xh_13 : Int) (xl_14 : Int) (uh_17 : Int) (ul_18 : Int) (R : Value → World → Prop) (w : World) : Prop :=
  (0 ≤ (IntKind.wrap .u64 (IntKind.wrap .i64 (p_1 - (1 : Int)))) ∧ (cond (mr_10 == (IntKind.wrap .u64 ((1 : Int) * 2 ^ (min (Int.toNat (IntKind.wrap .u64 (IntKind.wrap .i64 (p_1 - (1 : Int))))) (IntKind.bits .u64)))))
  (Runs Try.prog numlaw_Shl.id #[(.int .u64 mx_8), (.int .i64 (IntKind.wrap .i64 (sh_12 + (2 : Int))))] w fun r1 w2 => (∃ x3 : Int, ∃ x4 : Int, (r1 = (.tuple #[(.int .u64 x3), (.int .u64 x4)]) ∧ (Runs Try.prog numlaw_Sq.id #[(.int .u64 (IntKind.wrap .u64 ((IntKind.wrap .u64 ((4 : Int) * mr_10)) - (1 : Int))))] w2 fun r5 w6 => (∃ x7 : Int, ∃ x8 : Int, (r5 = (.tuple #[(.int .u64 x7), (.int .u64 x8)]) ∧ (cond (decide (x3 < x7))
  (R (.bool false) w6)
  (cond (x3 == x7)
  (cond (decide (x4 < x8))
  (R (.bool false) w6)
  (numlaw_KeptRoot.L5 xh_13 xl_14 uh_17 ul_18 R w6))
  (numlaw_KeptRoot.L5 xh_13 xl_14 uh_17 ul_18 R w6)))))))))
  (numlaw_KeptRoot.L5 xh_13 xl_14 uh_17 ul_18 R w)))
theorem numlaw_KeptRoot.step4 (p_1 : Int) (mx_8 : Int) (mr_10 : Int) (sh_12 : Int) (xh_13 : Int) (xl_14 : Int) (uh_17 : Int) (ul_18 : Int) (R : Value → World → Prop) (w : World) (h : numlaw_KeptRoot.V4 p_1 mx_8 mr_10 sh_12 xh_13 xl_14 uh_17 ul_18 R w) : numlaw_KeptRoot.L4 p_1 mx_8 mr_10 sh_12 xh_13 xl_14 uh_17 ul_18 R w :=
  seg_T good mixed Try.func26 600 false [.code (sub (bodyOf Try.f26) [1, 1, 1, 1, 1, 1, 1, 1, 1, 1, 1, 1, 1, 1])] [(1, (.int .i64 p_1)), (8, (.int .u64 mx_8)), (10, (.int .u64 mr_10)), (12, (.int .i64 sh_12)), (13, (.int .u64 xh_13)), (14, (.int .u64 xl_14)), (17, (.int .u64 uh_17)), (18, (.int .u64 ul_18))] w (Eq.mp (show numlaw_KeptRoot.V4 p_1 mx_8 mr_10 sh_12 xh_13 xl_14 uh_17 ul_18 R w = seg Try.prog 26 172 Try.f26.results.toList numlaw_KeptRoot.cuts R 600 false [.code (sub (bodyOf Try.f26) [1, 1, 1, 1, 1, 1, 1, 1, 1, 1, 1, 1, 1, 1])] [(1, (.int .i64 p_1)), (8, (.int .u64 mx_8)), (10, (.int .u64 mr_10)), (12, (.int .i64 sh_12)), (13, (.int .u64 xh_13)), (14, (.int .u64 xl_14)), (17, (.int .u64 uh_17)), (18, (.int .u64 ul_18))] w by kernel_rfl) h)
def numlaw_KeptRoot.V5 (xh_13 : Int) (xl_14 : Int) (uh_17 : Int) (ul_18 : Int) (R : Value → World → Prop) (w : World) : Prop :=
  (cond (decide (xh_13 < uh_17))
  (R (.bool true) w)
  (cond (xh_13 == uh_17)
  (R (.bool (decide (xl_14 ≤ ul_18))) w)
  (R (.bool false) w)))
theorem numlaw_KeptRoot.step5 (xh_13 : Int) (xl_14 : Int) (uh_17 : Int) (ul_18 : Int) (R : Value → World → Prop) (w : World) (h : numlaw_KeptRoot.V5 xh_13 xl_14 uh_17 ul_18 R w) : numlaw_KeptRoot.L5 xh_13 xl_14 uh_17 ul_18 R w :=
  seg_T good mixed Try.func26 600 false [.code (sub (bodyOf Try.f26) [1, 1, 1, 1, 1, 1, 1, 1, 1, 1, 1, 1, 1, 1, 1])] [(13, (.int .u64 xh_13)), (14, (.int .u64 xl_14)), (17, (.int .u64 uh_17)), (18, (.int .u64 ul_18))] w (Eq.mp (show numlaw_KeptRoot.V5 xh_13 xl_14 uh_17 ul_18 R w = seg Try.prog 26 172 Try.f26.results.toList numlaw_KeptRoot.cuts R 600 false [.code (sub (bodyOf Try.f26) [1, 1, 1, 1, 1, 1, 1, 1, 1, 1, 1, 1, 1, 1, 1])] [(13, (.int .u64 xh_13)), (14, (.int .u64 xl_14)), (17, (.int .u64 uh_17)), (18, (.int .u64 ul_18))] w by kernel_rfl) h)
def numlaw_KeptRoot.V (f_0_1 : Int) (f_0_2 : Int) (f_0_3 : Int) (f_0_4 : Int) (f_0_5 : Int) (f_0_6 : Int) (p_1 : Int) (a_2 : Int) (R : Value → World → Prop) (w : World) : Prop :=
  (letB (Array.size (World.heap w)) fun b9 => letW (World.alloc w (.cells #[(.int .i64 f_0_1), (.int .i64 f_0_2), (.int .i64 f_0_3), (.int .u64 f_0_4), (.int .u64 f_0_5), (.int .u64 f_0_6)] T_numlaw_Fmt)) fun w10 => (∃ x11 : Int, World.cell? w10 ⟨b9, 0, none⟩ = some (.int .i64 x11) ∧ (Runs Try.prog numlaw_ap.id #[(.int .i64 (IntKind.wrap .i64 (x11 + (6 : Int)))), (.int .u64 a_2), (.int .u64 0)] w10 fun r12 w13 => (∃ x14 : Int, (r12 = (.int .u64 x14) ∧ (∃ x15 : Int, World.cell? w13 ⟨b9, 3, none⟩ = some (.int .u64 x15) ∧ (cond ((bAndNot .u64 a_2 x15) == (0 : Int))
  (numlaw_KeptRoot.L1 p_1 a_2 b9 x14 true R w13)
  (∃ x20 : Int, World.cell? w13 ⟨b9, 4, none⟩ = some (.int .u64 x20) ∧ (numlaw_KeptRoot.L1 p_1 a_2 b9 x14 (a_2 == x20) R w13)))))))))
theorem numlaw_KeptRoot.enter (f_0_1 : Int) (f_0_2 : Int) (f_0_3 : Int) (f_0_4 : Int) (f_0_5 : Int) (f_0_6 : Int) (p_1 : Int) (a_2 : Int) (R : Value → World → Prop) (w : World) (h : numlaw_KeptRoot.V f_0_1 f_0_2 f_0_3 f_0_4 f_0_5 f_0_6 p_1 a_2 R w) : Runs Try.prog numlaw_KeptRoot.id #[(.agg #[(.int .i64 f_0_1), (.int .i64 f_0_2), (.int .i64 f_0_3), (.int .u64 f_0_4), (.int .u64 f_0_5), (.int .u64 f_0_6)]), (.int .i64 p_1), (.int .u64 a_2)] w R :=
  Runs.enter (c := bodyOf Try.f26) (N := 172) Try.func26 (by kernel_rfl) (by kernel_rfl) (by kernel_rfl) (seg_T good mixed Try.func26 600 false [.code (bodyOf Try.f26)] [(0, (.agg #[(.int .i64 f_0_1), (.int .i64 f_0_2), (.int .i64 f_0_3), (.int .u64 f_0_4), (.int .u64 f_0_5), (.int .u64 f_0_6)])), (1, (.int .i64 p_1)), (2, (.int .u64 a_2))] w (Eq.mp (show numlaw_KeptRoot.V f_0_1 f_0_2 f_0_3 f_0_4 f_0_5 f_0_6 p_1 a_2 R w = seg Try.prog 26 172 Try.f26.results.toList numlaw_KeptRoot.cuts R 600 false [.code (bodyOf Try.f26)] [(0, (.agg #[(.int .i64 f_0_1), (.int .i64 f_0_2), (.int .i64 f_0_3), (.int .u64 f_0_4), (.int .u64 f_0_5), (.int .u64 f_0_6)])), (1, (.int .i64 p_1)), (2, (.int .u64 a_2))] w by kernel_rfl) h))

/-! e2e/numlaw.F64 -/
def numlaw_F64.cuts : List (Nat × List Nat) := []
def numlaw_F64.V (R : Value → World → Prop) (w : World) : Prop :=
  (letB (Array.size (World.heap w)) fun b1 => letW (World.alloc w (.cells #[(.int .i64 0), (.int .i64 0), (.int .i64 0), (.int .u64 0), (.int .u64 0), (.int .u64 0)] T_numlaw_Fmt)) fun w2 => (putCells w2 ⟨b1, 0, none⟩ [(.int .i64 153), (.int .i64 160), (.int .i64 97), (.int .u64 9223372036854775808), (.int .u64 9218868437227405312), (.int .u64 9221120237041090560)] fun w3 => ((∃ x4 : Int, ∃ x5 : Int, ∃ x6 : Int, ∃ x7 : Int, ∃ x8 : Int, ∃ x9 : Int, World.cell? w3 ⟨b1, 0, none⟩ = some (.int .i64 x4) ∧ World.cell? w3 ⟨b1, 1, none⟩ = some (.int .i64 x5) ∧ World.cell? w3 ⟨b1, 2, none⟩ = some (.int .i64 x6) ∧ World.cell? w3 ⟨b1, 3, none⟩ = some (.int .u64 x7) ∧ World.cell? w3 ⟨b1, 4, none⟩ = some (.int .u64 x8) ∧ World.cell? w3 ⟨b1, 5, none⟩ = some (.int .u64 x9) ∧ R (.agg #[(.int .i64 x4), (.int .i64 x5), (.int .i64 x6), (.int .u64 x7), (.int .u64 x8), (.int .u64 x9)]) w3))))
theorem numlaw_F64.enter (R : Value → World → Prop) (w : World) (h : numlaw_F64.V R w) : Runs Try.prog numlaw_F64.id #[] w R :=
  Runs.enter (c := bodyOf Try.f27) (N := 2) Try.func27 (by kernel_rfl) (by kernel_rfl) (by kernel_rfl) (seg_T good mixed Try.func27 600 false [.code (bodyOf Try.f27)] [] w (Eq.mp (show numlaw_F64.V R w = seg Try.prog 27 2 Try.f27.results.toList numlaw_F64.cuts R 600 false [.code (bodyOf Try.f27)] [] w by kernel_rfl) h))

/-! e2e/numlaw.KeptCanon -/
def numlaw_KeptCanon.cuts : List (Nat × List Nat) := [(6, [0, 1, 2])]
def numlaw_KeptCanon.L1 (op_0 : Int) (a_1 : Int) (b_2 : Int) (R : Value → World → Prop) (w : World) : Prop :=
  T Try.prog 28 59 [.code (sub (bodyOf Try.f28) [1, 1])] [(0, (.int .i64 op_0)), (1, (.int .u64 a_1)), (2, (.int .u64 b_2))] w R
def numlaw_KeptCanon.V1 (op_0 : Int) (a_1 : Int) (b_2 : Int) (R : Value → World → Prop) (w : World) : Prop :=
  (Runs Try.prog numlaw_ap.id #[(.int .i64 op_0), (.int .u64 a_1), (.int .u64 b_2)] w fun r1 w2 => (∃ x3 : Int, (r1 = (.int .u64 x3) ∧ (Runs Try.prog api_NumSig.id #[(.int .i64 op_0)] w2 fun r4 w5 => (∃ x6 : Int, ∃ x7 : Int, ∃ x8 : Int, (r4 = (.tuple #[(.int .i64 x6), (.int .u8 x7), (.int .u8 x8)]) ∧ (cond (x8 == (125 : Int))
  (cond (decide ((bAndNot .u64 x3 2147483648) ≤ (2139095040 : Int)))
  (R (.bool true) w5)
  (R (.bool (x3 == (2143289344 : Int))) w5))
  (cond (decide ((bAndNot .u64 x3 9223372036854775808) ≤ (9218868437227405312 : Int)))
  (R (.bool true) w5)
  (R (.bool (x3 == (9221120237041090560 : Int))) w5)))))))))
theorem numlaw_KeptCanon.step1 (op_0 : Int) (a_1 : Int) (b_2 : Int) (R : Value → World → Prop) (w : World) (h : numlaw_KeptCanon.V1 op_0 a_1 b_2 R w) : numlaw_KeptCanon.L1 op_0 a_1 b_2 R w :=
  seg_T good mixed Try.func28 600 false [.code (sub (bodyOf Try.f28) [1, 1])] [(0, (.int .i64 op_0)), (1, (.int .u64 a_1)), (2, (.int .u64 b_2))] w (Eq.mp (show numlaw_KeptCanon.V1 op_0 a_1 b_2 R w = seg Try.prog 28 59 Try.f28.results.toList numlaw_KeptCanon.cuts R 600 false [.code (sub (bodyOf Try.f28) [1, 1])] [(0, (.int .i64 op_0)), (1, (.int .u64 a_1)), (2, (.int .u64 b_2))] w by kernel_rfl) h)
def numlaw_KeptCanon.V (op_0 : Int) (a_1 : Int) (b_2 : Int) (R : Value → World → Prop) (w : World) : Prop :=
  (cond (decide (op_0 < (141 : Int)))
  (cond (decide (op_0 < (155 : Int)))
  (cond (decide (op_0 < (178 : Int)))
  (R (.bool true) w)
  (cond (decide (op_0 > (187 : Int)))
  (R (.bool true) w)
  (numlaw_KeptCanon.L1 op_0 a_1 b_2 R w)))
  (cond (decide (op_0 > (165 : Int)))
  (cond (decide (op_0 < (178 : Int)))
  (R (.bool true) w)
  (cond (decide (op_0 > (187 : Int)))
  (R (.bool true) w)
  (numlaw_KeptCanon.L1 op_0 a_1 b_2 R w)))
  (numlaw_KeptCanon.L1 op_0 a_1 b_2 R w)))
  (cond (decide (op_0 > (151 : Int)))
  (cond (decide (op_0 < (155 : Int)))
  (cond (decide (op_0 < (178 : Int)))
  (R (.bool true) w)
  (cond (decide (op_0 > (187 : Int)))
  (R (.bool true) w)
  (numlaw_KeptCanon.L1 op_0 a_1 b_2 R w)))
  (cond (decide (op_0 > (165 : Int)))
  (cond (decide (op_0 < (178 : Int)))
  (R (.bool true) w)
  (cond (decide (op_0 > (187 : Int)))
  (R (.bool true) w)
  (numlaw_KeptCanon.L1 op_0 a_1 b_2 R w)))
  (numlaw_KeptCanon.L1 op_0 a_1 b_2 R w)))
  (numlaw_KeptCanon.L1 op_0 a_1 b_2 R w)))
theorem numlaw_KeptCanon.enter (op_0 : Int) (a_1 : Int) (b_2 : Int) (R : Value → World → Prop) (w : World) (h : numlaw_KeptCanon.V op_0 a_1 b_2 R w) : Runs Try.prog numlaw_KeptCanon.id #[(.int .i64 op_0), (.int .u64 a_1), (.int .u64 b_2)] w R :=
  Runs.enter (c := bodyOf Try.f28) (N := 59) Try.func28 (by kernel_rfl) (by kernel_rfl) (by kernel_rfl) (seg_T good mixed Try.func28 600 false [.code (bodyOf Try.f28)] [(0, (.int .i64 op_0)), (1, (.int .u64 a_1)), (2, (.int .u64 b_2))] w (Eq.mp (show numlaw_KeptCanon.V op_0 a_1 b_2 R w = seg Try.prog 28 59 Try.f28.results.toList numlaw_KeptCanon.cuts R 600 false [.code (bodyOf Try.f28)] [(0, (.int .i64 op_0)), (1, (.int .u64 a_1)), (2, (.int .u64 b_2))] w by kernel_rfl) h))

/-! e2e/numlaw.KeptInts -/
def numlaw_KeptInts.cuts : List (Nat × List Nat) := [(16, [0, 3, 4, 5]), (30, [0, 5])]
def numlaw_KeptInts.L1 (a_0 : Int) (w_3 : Int) (s_4 : Int) (u_5 : Int) (R : Value → World → Prop) (w : World) : Prop :=
  T Try.prog 29 101 [.code (sub (bodyOf Try.f29) [1, 1, 1, 1, 1, 1, 1])] [(0, (.int .u64 a_0)), (3, (.int .u64 w_3)), (4, (.int .u64 s_4)), (5, (.int .u64 u_5))] w R
def numlaw_KeptInts.L2 (a_0 : Int) (u_5 : Int) (R : Value → World → Prop) (w : World) : Prop :=
  T Try.prog 29 101 [.code (sub (bodyOf Try.f29) [1, 1, 1, 1, 1, 1, 1, 1, 1, 1, 1, 1, 1])] [(0, (.int .u64 a_0)), (5, (.int .u64 u_5))] w R
def numlaw_KeptInts.V1 (a_0 : Int) (w_3 : Int) (s_4 : Int) (u_5 : Int) (R : Value → World → Prop) (w : World) : Prop :=
  (Runs Try.prog numlaw_ap.id #[(.int .i64 163), (.int .u64 s_4), (.int .u64 4611686018427387904)] w fun r1 w2 => (∃ x3 : Int, (r1 = (.int .u64 x3) ∧ (Runs Try.prog numlaw_ap.id #[(.int .i64 158), (.int .u64 x3), (.int .u64 0)] w2 fun r4 w5 => (∃ x6 : Int, (r4 = (.int .u64 x6) ∧ (Runs Try.prog numlaw_ap.id #[(.int .i64 170), (.int .u64 x6), (.int .u64 0)] w5 fun r7 w8 => (∃ x9 : Int, (r7 = (.int .u64 x9) ∧ (cond (decide ((IntKind.wrap .i64 ((IntKind.wrap .i64 ((2 : Int) * (IntKind.wrap .i64 (IntKind.wrap .i32 (IntKind.wrap .u32 x9))))) - (IntKind.wrap .i64 (IntKind.wrap .i32 (IntKind.wrap .u32 w_3))))) < (-1)))
  (R (.bool false) w8)
  (cond (decide ((IntKind.wrap .i64 ((IntKind.wrap .i64 ((2 : Int) * (IntKind.wrap .i64 (IntKind.wrap .i32 (IntKind.wrap .u32 x9))))) - (IntKind.wrap .i64 (IntKind.wrap .i32 (IntKind.wrap .u32 w_3))))) > (1 : Int)))
  (R (.bool false) w8)
  (cond ((bAnd .i64 (IntKind.wrap .i64 (IntKind.wrap .i32 (IntKind.wrap .u32 w_3))) 1) == (1 : Int))
  (cond ((bAnd .u64 x9 1) == (1 : Int))
  (R (.bool false) w8)
  (numlaw_KeptInts.L2 a_0 u_5 R w8))
  (numlaw_KeptInts.L2 a_0 u_5 R w8)))))))))))))
theorem numlaw_KeptInts.step1 (a_0 : Int) (w_3 : Int) (s_4 : Int) (u_5 : Int) (R : Value → World → Prop) (w : World) (h : numlaw_KeptInts.V1 a_0 w_3 s_4 u_5 R w) : numlaw_KeptInts.L1 a_0 w_3 s_4 u_5 R w :=
  seg_T good mixed Try.func29 600 false [.code (sub (bodyOf Try.f29) [1, 1, 1, 1, 1, 1, 1])] [(0, (.int .u64 a_0)), (3, (.int .u64 w_3)), (4, (.int .u64 s_4)), (5, (.int .u64 u_5))] w (Eq.mp (show numlaw_KeptInts.V1 a_0 w_3 s_4 u_5 R w = seg Try.prog 29 101 Try.f29.results.toList numlaw_KeptInts.cuts R 600 false [.code (sub (bodyOf Try.f29) [1, 1, 1, 1, 1, 1, 1])] [(0, (.int .u64 a_0)), (3, (.int .u64 w_3)), (4, (.int .u64 s_4)), (5, (.int .u64 u_5))] w by kernel_rfl) h)
def numlaw_KeptInts.V2 (a_0 : Int) (u_5 : Int) (R : Value → World → Prop) (w : World) : Prop :=
  (Runs Try.prog numlaw_ap.id #[(.int .i64 179), (.int .u64 a_0), (.int .u64 0)] w fun r1 w2 => (∃ x3 : Int, (r1 = (.int .u64 x3) ∧ (Runs Try.prog numlaw_ap.id #[(.int .i64 181), (.int .u64 a_0), (.int .u64 0)] w2 fun r4 w5 => (∃ x6 : Int, (r4 = (.int .u64 x6) ∧ (Runs Try.prog numlaw_ap.id #[(.int .i64 186), (.int .u64 a_0), (.int .u64 0)] w5 fun r7 w8 => (∃ x9 : Int, (r7 = (.int .u64 x9) ∧ (cond ((Int.fdiv (bOr .u64 x3 x6) (2 ^ (31 : Nat))) == (0 : Int))
  (R (.bool ((Int.fdiv (bOr .u64 u_5 x9) (2 ^ (63 : Nat))) == (0 : Int))) w8)
  (R (.bool false) w8)))))))))))
theorem numlaw_KeptInts.step2 (a_0 : Int) (u_5 : Int) (R : Value → World → Prop) (w : World) (h : numlaw_KeptInts.V2 a_0 u_5 R w) : numlaw_KeptInts.L2 a_0 u_5 R w :=
  seg_T good mixed Try.func29 600 false [.code (sub (bodyOf Try.f29) [1, 1, 1, 1, 1, 1, 1, 1, 1, 1, 1, 1, 1])] [(0, (.int .u64 a_0)), (5, (.int .u64 u_5))] w (Eq.mp (show numlaw_KeptInts.V2 a_0 u_5 R w = seg Try.prog 29 101 Try.f29.results.toList numlaw_KeptInts.cuts R 600 false [.code (sub (bodyOf Try.f29) [1, 1, 1, 1, 1, 1, 1, 1, 1, 1, 1, 1, 1])] [(0, (.int .u64 a_0)), (5, (.int .u64 u_5))] w by kernel_rfl) h)
def numlaw_KeptInts.V (a_0 : Int) (R : Value → World → Prop) (w : World) : Prop :=
  (Runs Try.prog numlaw_ap.id #[(.int .i64 183), (.int .u64 (bAnd .u64 a_0 4294967295)), (.int .u64 0)] w fun r2 w3 => (∃ x4 : Int, (r2 = (.int .u64 x4) ∧ (Runs Try.prog numlaw_ap.id #[(.int .i64 184), (.int .u64 (bAnd .u64 a_0 4294967295)), (.int .u64 0)] w3 fun r5 w6 => (∃ x7 : Int, (r5 = (.int .u64 x7) ∧ (Runs Try.prog num_Apply.id #[(.int .i64 170), (.int .u64 x4), (.int .u64 0)] w6 fun r8 w9 => (∃ x10 : Int, ∃ x11 : Int, (r8 = (.tuple #[(.int .u64 x10), (.int .i64 x11)]) ∧ (Runs Try.prog num_Apply.id #[(.int .i64 171), (.int .u64 x7), (.int .u64 0)] w9 fun r12 w13 => (∃ x14 : Int, ∃ x15 : Int, (r12 = (.tuple #[(.int .u64 x14), (.int .i64 x15)]) ∧ (cond (x10 != (bAnd .u64 a_0 4294967295))
  (R (.bool false) w13)
  (cond (x14 != (bAnd .u64 a_0 4294967295))
  (R (.bool false) w13)
  (cond (x11 != (0 : Int))
  (R (.bool false) w13)
  (cond (x15 != (0 : Int))
  (R (.bool false) w13)
  (numlaw_KeptInts.L1 a_0 (bAnd .u64 a_0 4294967295) x4 x7 R w13)))))))))))))))))
theorem numlaw_KeptInts.enter (a_0 : Int) (R : Value → World → Prop) (w : World) (h : numlaw_KeptInts.V a_0 R w) : Runs Try.prog numlaw_KeptInts.id #[(.int .u64 a_0)] w R :=
  Runs.enter (c := bodyOf Try.f29) (N := 101) Try.func29 (by kernel_rfl) (by kernel_rfl) (by kernel_rfl) (seg_T good mixed Try.func29 600 false [.code (bodyOf Try.f29)] [(0, (.int .u64 a_0))] w (Eq.mp (show numlaw_KeptInts.V a_0 R w = seg Try.prog 29 101 Try.f29.results.toList numlaw_KeptInts.cuts R 600 false [.code (bodyOf Try.f29)] [(0, (.int .u64 a_0))] w by kernel_rfl) h))

/-! e2e/numlaw.KeptBits -/
def numlaw_KeptBits.cuts : List (Nat × List Nat) := [(22, [1, 3, 14])]
def numlaw_KeptBits.L1 (a_1 : Int) (f_3 : Nat) (z_14 : Int) (R : Value → World → Prop) (w : World) : Prop :=
  T Try.prog 30 108 [.code (sub (bodyOf Try.f30) [1, 1, 1, 1, 1, 1, 1, 1, 1, 1])] [(1, (.int .u64 a_1)), (3, (.pointer (some ⟨f_3, 0, none⟩))), (14, (.int .u64 z_14))] w R
def numlaw_KeptBits.V1 (a_1 : Int) (f_3 : Nat) (z_14 : Int) (R : Value → World → Prop) (w : World) : Prop :=
  (∃ x1 : Int, World.cell? w ⟨f_3, 3, none⟩ = some (.int .u64 x1) ∧ (∃ x2 : Int, World.cell? w ⟨f_3, 4, none⟩ = some (.int .u64 x2) ∧ (cond (decide ((bAndNot .u64 a_1 x1) ≥ x2))
  (∃ x3 : Int, World.cell? w ⟨f_3, 5, none⟩ = some (.int .u64 x3) ∧ (R (.bool (z_14 == x3)) w))
  (R (.bool (z_14 == (0 : Int))) w))))
theorem numlaw_KeptBits.step1 (a_1 : Int) (f_3 : Nat) (z_14 : Int) (R : Value → World → Prop) (w : World) (h : numlaw_KeptBits.V1 a_1 f_3 z_14 R w) : numlaw_KeptBits.L1 a_1 f_3 z_14 R w :=
  seg_T good mixed Try.func30 600 false [.code (sub (bodyOf Try.f30) [1, 1, 1, 1, 1, 1, 1, 1, 1, 1])] [(1, (.int .u64 a_1)), (3, (.pointer (some ⟨f_3, 0, none⟩))), (14, (.int .u64 z_14))] w (Eq.mp (show numlaw_KeptBits.V1 a_1 f_3 z_14 R w = seg Try.prog 30 108 Try.f30.results.toList numlaw_KeptBits.cuts R 600 false [.code (sub (bodyOf Try.f30) [1, 1, 1, 1, 1, 1, 1, 1, 1, 1])] [(1, (.int .u64 a_1)), (3, (.pointer (some ⟨f_3, 0, none⟩))), (14, (.int .u64 z_14))] w by kernel_rfl) h)
def numlaw_KeptBits.V (f_0_1 : Int) (f_0_2 : Int) (f_0_3 : Int) (f_0_4 : Int) (f_0_5 : Int) (f_0_6 : Int) (a_1 : Int) (b_2 : Int) (R : Value → World → Prop) (w : World) : Prop :=
  (letB (Array.size (World.heap w)) fun b9 => letW (World.alloc w (.cells #[(.int .i64 f_0_1), (.int .i64 f_0_2), (.int .i64 f_0_3), (.int .u64 f_0_4), (.int .u64 f_0_5), (.int .u64 f_0_6)] T_numlaw_Fmt)) fun w10 => (∃ x11 : Int, World.cell? w10 ⟨b9, 1, none⟩ = some (.int .i64 x11) ∧ (Runs Try.prog numlaw_ap.id #[(.int .i64 x11), (.int .u64 a_1), (.int .u64 b_2)] w10 fun r12 w13 => (∃ x14 : Int, (r12 = (.int .u64 x14) ∧ (∃ x15 : Int, World.cell? w13 ⟨b9, 1, none⟩ = some (.int .i64 x15) ∧ (Runs Try.prog numlaw_ap.id #[(.int .i64 x15), (.int .u64 b_2), (.int .u64 a_1)] w13 fun r16 w17 => (∃ x18 : Int, (r16 = (.int .u64 x18) ∧ (∃ x19 : Int, World.cell? w17 ⟨b9, 1, none⟩ = some (.int .i64 x19) ∧ (Runs Try.prog numlaw_ap.id #[(.int .i64 (IntKind.wrap .i64 (x19 + (2 : Int)))), (.int .u64 a_1), (.int .u64 b_2)] w17 fun r20 w21 => (∃ x22 : Int, (r20 = (.int .u64 x22) ∧ (∃ x23 : Int, World.cell? w21 ⟨b9, 1, none⟩ = some (.int .i64 x23) ∧ (Runs Try.prog numlaw_ap.id #[(.int .i64 (IntKind.wrap .i64 (x23 + (2 : Int)))), (.int .u64 b_2), (.int .u64 a_1)] w21 fun r24 w25 => (∃ x26 : Int, (r24 = (.int .u64 x26) ∧ (∃ x27 : Int, World.cell? w25 ⟨b9, 0, none⟩ = some (.int .i64 x27) ∧ (Runs Try.prog numlaw_ap.id #[(.int .i64 (IntKind.wrap .i64 (x27 + (1 : Int)))), (.int .u64 a_1), (.int .u64 0)] w25 fun r28 w29 => (∃ x30 : Int, (r28 = (.int .u64 x30) ∧ (∃ x31 : Int, World.cell? w29 ⟨b9, 0, none⟩ = some (.int .i64 x31) ∧ (Runs Try.prog numlaw_ap.id #[(.int .i64 x31), (.int .u64 a_1), (.int .u64 0)] w29 fun r32 w33 => (∃ x34 : Int, (r32 = (.int .u64 x34) ∧ (∃ x35 : Int, World.cell? w33 ⟨b9, 1, none⟩ = some (.int .i64 x35) ∧ (Runs Try.prog numlaw_ap.id #[(.int .i64 (IntKind.wrap .i64 (x35 + (6 : Int)))), (.int .u64 a_1), (.int .u64 b_2)] w33 fun r36 w37 => (∃ x38 : Int, (r36 = (.int .u64 x38) ∧ (∃ x39 : Int, World.cell? w37 ⟨b9, 1, none⟩ = some (.int .i64 x39) ∧ (Runs Try.prog numlaw_ap.id #[(.int .i64 (IntKind.wrap .i64 (x39 + (1 : Int)))), (.int .u64 a_1), (.int .u64 a_1)] w37 fun r40 w41 => (∃ x42 : Int, (r40 = (.int .u64 x42) ∧ (cond (x14 != x18)
  (R (.bool false) w41)
  (cond (x22 != x26)
  (R (.bool false) w41)
  (∃ x43 : Int, World.cell? w41 ⟨b9, 3, none⟩ = some (.int .u64 x43) ∧ (cond (x30 != (bXor .u64 a_1 x43))
  (R (.bool false) w41)
  (∃ x44 : Int, World.cell? w41 ⟨b9, 3, none⟩ = some (.int .u64 x44) ∧ (cond (x34 != (bAndNot .u64 a_1 x44))
  (R (.bool false) w41)
  (∃ x45 : Int, World.cell? w41 ⟨b9, 3, none⟩ = some (.int .u64 x45) ∧ (∃ x46 : Int, World.cell? w41 ⟨b9, 3, none⟩ = some (.int .u64 x46) ∧ (cond (x38 != (bOr .u64 (bAndNot .u64 a_1 x45) (bAnd .u64 b_2 x46)))
  (R (.bool false) w41)
  (numlaw_KeptBits.L1 a_1 b9 x42 R w41)))))))))))))))))))))))))))))))))))))))))))
theorem numlaw_KeptBits.enter (f_0_1 : Int) (f_0_2 : Int) (f_0_3 : Int) (f_0_4 : Int) (f_0_5 : Int) (f_0_6 : Int) (a_1 : Int) (b_2 : Int) (R : Value → World → Prop) (w : World) (h : numlaw_KeptBits.V f_0_1 f_0_2 f_0_3 f_0_4 f_0_5 f_0_6 a_1 b_2 R w) : Runs Try.prog numlaw_KeptBits.id #[(.agg #[(.int .i64 f_0_1), (.int .i64 f_0_2), (.int .i64 f_0_3), (.int .u64 f_0_4), (.int .u64 f_0_5), (.int .u64 f_0_6)]), (.int .u64 a_1), (.int .u64 b_2)] w R :=
  Runs.enter (c := bodyOf Try.f30) (N := 108) Try.func30 (by kernel_rfl) (by kernel_rfl) (by kernel_rfl) (seg_T good mixed Try.func30 600 false [.code (bodyOf Try.f30)] [(0, (.agg #[(.int .i64 f_0_1), (.int .i64 f_0_2), (.int .i64 f_0_3), (.int .u64 f_0_4), (.int .u64 f_0_5), (.int .u64 f_0_6)])), (1, (.int .u64 a_1)), (2, (.int .u64 b_2))] w (Eq.mp (show numlaw_KeptBits.V f_0_1 f_0_2 f_0_3 f_0_4 f_0_5 f_0_6 a_1 b_2 R w = seg Try.prog 30 108 Try.f30.results.toList numlaw_KeptBits.cuts R 600 false [.code (bodyOf Try.f30)] [(0, (.agg #[(.int .i64 f_0_1), (.int .i64 f_0_2), (.int .i64 f_0_3), (.int .u64 f_0_4), (.int .u64 f_0_5), (.int .u64 f_0_6)])), (1, (.int .u64 a_1)), (2, (.int .u64 b_2))] w by kernel_rfl) h))

/-! e2e/numlaw.KeptOrder -/
def numlaw_KeptOrder.cuts : List (Nat × List Nat) := [(22, [1, 2, 3, 7, 9, 10, 13, 14]), (24, [1, 2, 3, 7, 9, 10, 13, 14, 95]), (30, [1, 2, 3, 13, 14]), (32, [1, 2, 3, 13, 14, 151])]
def numlaw_KeptOrder.L1 (a_1 : Int) (b_2 : Int) (f_3 : Nat) (eq_7 : Int) (lt_9 : Int) (gt_10 : Int) (lo_13 : Int) (hi_14 : Int) (R : Value → World → Prop) (w : World) : Prop :=
  T Try.prog 31 171 [.code (sub (bodyOf Try.f31) [1, 1, 1, 1, 1, 1, 1, 1, 1, 1])] [(1, (.int .u64 a_1)), (2, (.int .u64 b_2)), (3, (.pointer (some ⟨f_3, 0, none⟩))), (7, (.int .u64 eq_7)), (9, (.int .u64 lt_9)), (10, (.int .u64 gt_10)), (13, (.int .u64 lo_13)), (14, (.int .u64 hi_14))] w R
def numlaw_KeptOrder.L2 (a_1 : Int) (b_2 : Int) (f_3 : Nat) (eq_7 : Int) (lt_9 : Int) (gt_10 : Int) (lo_13 : Int) (hi_14 : Int) (t_95 : Bool) (R : Value → World → Prop) (w : World) : Prop :=
  T Try.prog 31 171 [.code (sub (bodyOf Try.f31) [1, 1, 1, 1, 1, 1, 1, 1, 1, 1, 0, 1]), .code (sub (bodyOf Try.f31) [1, 1, 1, 1, 1, 1, 1, 1, 1, 1, 1])] [(1, (.int .u64 a_1)), (2, (.int .u64 b_2)), (3, (.pointer (some ⟨f_3, 0, none⟩))), (7, (.int .u64 eq_7)), (9, (.int .u64 lt_9)), (10, (.int .u64 gt_10)), (13, (.int .u64 lo_13)), (14, (.int .u64 hi_14)), (95, (.bool t_95))] w R
def numlaw_KeptOrder.L3 (a_1 : Int) (b_2 : Int) (f_3 : Nat) (lo_13 : Int) (hi_14 : Int) (R : Value → World → Prop) (w : World) : Prop :=
  T Try.prog 31 171 [.code (sub (bodyOf Try.f31) [1, 1, 1, 1, 1, 1, 1, 1, 1, 1, 1, 1])] [(1, (.int .u64 a_1)), (2, (.int .u64 b_2)), (3, (.pointer (some ⟨f_3, 0, none⟩))), (13, (.int .u64 lo_13)), (14, (.int .u64 hi_14))] w R
def numlaw_KeptOrder.L4 (a_1 : Int) (b_2 : Int) (f_3 : Nat) (lo_13 : Int) (hi_14 : Int) (t_151 : Bool) (R : Value → World → Prop) (w : World) : Prop :=
  T Try.prog 31 171 [.code (sub (bodyOf Try.f31) [1, 1, 1, 1, 1, 1, 1, 1, 1, 1, 1, 1, 0, 1]), .code (sub (bodyOf Try.f31) [1, 1, 1, 1, 1, 1, 1, 1, 1, 1, 1, 1, 1])] [(1, (.int .u64 a_1)), (2, (.int .u64 b_2)), (3, (.pointer (some ⟨f_3, 0, none⟩))), (13, (.int .u64 lo_13)), (14, (.int .u64 hi_14)), (151, (.bool t_151))] w R
def numlaw_KeptOrder.V1 (a_1 : Int) (b_2 : Int) (f_3 : Nat) (eq_7 : Int) (lt_9 : Int) (gt_10 : Int) (lo_13 : Int) (hi_14 : Int) (R : Value → World → Prop) (w : World) : Prop :=
  (∃ x1 : Int, World.cell? w ⟨f_3, 3, none⟩ = some (.int .u64 x1) ∧ (∃ x2 : Int, World.cell? w ⟨f_3, 4, none⟩ = some (.int .u64 x2) ∧ (cond (decide ((bAndNot .u64 a_1 x1) > x2))
  (numlaw_KeptOrder.L2 a_1 b_2 f_3 eq_7 lt_9 gt_10 lo_13 hi_14 true R w)
  (∃ x11 : Int, World.cell? w ⟨f_3, 3, none⟩ = some (.int .u64 x11) ∧ (∃ x12 : Int, World.cell? w ⟨f_3, 4, none⟩ = some (.int .u64 x12) ∧ (numlaw_KeptOrder.L2 a_1 b_2 f_3 eq_7 lt_9 gt_10 lo_13 hi_14 (decide ((bAndNot .u64 b_2 x11) > x12)) R w))))))
theorem numlaw_KeptOrder.step1 (a_1 : Int) (b_2 : Int) (f_3 : Nat) (eq_7 : Int) (lt_9 : Int) (gt_10 : Int) (lo_13 : Int) (hi_14 : Int) (R : Value → World → Prop) (w : World) (h : numlaw_KeptOrder.V1 a_1 b_2 f_3 eq_7 lt_9 gt_10 lo_13 hi_14 R w) : numlaw_KeptOrder.L1 a_1 b_2 f_3 eq_7 lt_9 gt_10 lo_13 hi_14 R w :=
  seg_T good mixed Try.func31 600 false [.code (sub (bodyOf Try.f31) [1, 1, 1, 1, 1, 1, 1, 1, 1, 1])] [(1, (.int .u64 a_1)), (2, (.int .u64 b_2)), (3, (.pointer (some ⟨f_3, 0, none⟩))), (7, (.int .u64 eq_7)), (9, (.int .u64 lt_9)), (10, (.int .u64 gt_10)), (13, (.int .u64 lo_13)), (14, (.int .u64 hi_14))] w (Eq.mp (show numlaw_KeptOrder.V1 a_1 b_2 f_3 eq_7 lt_9 gt_10 lo_13 hi_14 R w = seg Try.prog 31 171 Try.f31.results.toList numlaw_KeptOrder.cuts R 600 false [.code (sub (bodyOf Try.f31) [1, 1, 1, 1, 1, 1, 1, 1, 1, 1])] [(1, (.int .u64 a_1)), (2, (.int .u64 b_2)), (3, (.pointer (some ⟨f_3, 0, none⟩))), (7, (.int .u64 eq_7)), (9, (.int .u64 lt_9)), (10, (.int .u64 gt_10)), (13, (.int .u64 lo_13)), (14, (.int .u64 hi_14))] w by kernel_rfl) h)
def numlaw_KeptOrder.V2 (a_1 : Int) (b_2 : Int) (f_3 : Nat) (eq_7 : Int) (lt_9 : Int) (gt_10 : Int) (lo_13 : Int) (hi_14 : Int) (t_95 : Bool) (R : Value → World → Prop) (w : World) : Prop :=
  (cond t_95
  (cond ((IntKind.wrap .u64 ((IntKind.wrap .u64 (lt_9 + eq_7)) + gt_10)) == (0 : Int))
  (∃ x1 : Int, World.cell? w ⟨f_3, 5, none⟩ = some (.int .u64 x1) ∧ (cond (lo_13 == x1)
  (∃ x2 : Int, World.cell? w ⟨f_3, 5, none⟩ = some (.int .u64 x2) ∧ (R (.bool (hi_14 == x2)) w))
  (R (.bool false) w)))
  (R (.bool false) w))
  (cond ((IntKind.wrap .u64 ((IntKind.wrap .u64 (lt_9 + eq_7)) + gt_10)) != (1 : Int))
  (R (.bool false) w)
  (cond (lo_13 != a_1)
  (cond (lo_13 != b_2)
  (R (.bool false) w)
  (cond (hi_14 != a_1)
  (R (.bool false) w)
  (numlaw_KeptOrder.L3 a_1 b_2 f_3 lo_13 hi_14 R w)))
  (cond (hi_14 != b_2)
  (cond (lo_13 != b_2)
  (R (.bool false) w)
  (cond (hi_14 != a_1)
  (R (.bool false) w)
  (numlaw_KeptOrder.L3 a_1 b_2 f_3 lo_13 hi_14 R w)))
  (numlaw_KeptOrder.L3 a_1 b_2 f_3 lo_13 hi_14 R w)))))
theorem numlaw_KeptOrder.step2 (a_1 : Int) (b_2 : Int) (f_3 : Nat) (eq_7 : Int) (lt_9 : Int) (gt_10 : Int) (lo_13 : Int) (hi_14 : Int) (t_95 : Bool) (R : Value → World → Prop) (w : World) (h : numlaw_KeptOrder.V2 a_1 b_2 f_3 eq_7 lt_9 gt_10 lo_13 hi_14 t_95 R w) : numlaw_KeptOrder.L2 a_1 b_2 f_3 eq_7 lt_9 gt_10 lo_13 hi_14 t_95 R w :=
  seg_T good mixed Try.func31 600 false [.code (sub (bodyOf Try.f31) [1, 1, 1, 1, 1, 1, 1, 1, 1, 1, 0, 1]), .code (sub (bodyOf Try.f31) [1, 1, 1, 1, 1, 1, 1, 1, 1, 1, 1])] [(1, (.int .u64 a_1)), (2, (.int .u64 b_2)), (3, (.pointer (some ⟨f_3, 0, none⟩))), (7, (.int .u64 eq_7)), (9, (.int .u64 lt_9)), (10, (.int .u64 gt_10)), (13, (.int .u64 lo_13)), (14, (.int .u64 hi_14)), (95, (.bool t_95))] w (Eq.mp (show numlaw_KeptOrder.V2 a_1 b_2 f_3 eq_7 lt_9 gt_10 lo_13 hi_14 t_95 R w = seg Try.prog 31 171 Try.f31.results.toList numlaw_KeptOrder.cuts R 600 false [.code (sub (bodyOf Try.f31) [1, 1, 1, 1, 1, 1, 1, 1, 1, 1, 0, 1]), .code (sub (bodyOf Try.f31) [1, 1, 1, 1, 1, 1, 1, 1, 1, 1, 1])] [(1, (.int .u64 a_1)), (2, (.int .u64 b_2)), (3, (.pointer (some ⟨f_3, 0, none⟩))), (7, (.int .u64 eq_7)), (9, (.int .u64 lt_9)), (10, (.int .u64 gt_10)), (13, (.int .u64 lo_13)), (14, (.int .u64 hi_14)), (95, (.bool t_95))] w by kernel_rfl) h)
def numlaw_KeptOrder.V3 (a_1 : Int) (b_2 : Int) (f_3 : Nat) (lo_13 : Int) (hi_14 : Int) (R : Value → World → Prop) (w : World) : Prop :=
  (∃ x1 : Int, World.cell? w ⟨f_3, 3, none⟩ = some (.int .u64 x1) ∧ (cond ((bAndNot .u64 a_1 x1) == (0 : Int))
  (∃ x2 : Int, World.cell? w ⟨f_3, 3, none⟩ = some (.int .u64 x2) ∧ (numlaw_KeptOrder.L4 a_1 b_2 f_3 lo_13 hi_14 ((bAndNot .u64 b_2 x2) == (0 : Int)) R w))
  (numlaw_KeptOrder.L4 a_1 b_2 f_3 lo_13 hi_14 false R w)))
theorem numlaw_KeptOrder.step3 (a_1 : Int) (b_2 : Int) (f_3 : Nat) (lo_13 : Int) (hi_14 : Int) (R : Value → World → Prop) (w : World) (h : numlaw_KeptOrder.V3 a_1 b_2 f_3 lo_13 hi_14 R w) : numlaw_KeptOrder.L3 a_1 b_2 f_3 lo_13 hi_14 R w :=
  seg_T good mixed Try.func31 600 false [.code (sub (bodyOf Try.f31) [1, 1, 1, 1, 1, 1, 1, 1, 1, 1, 1, 1])] [(1, (.int .u64 a_1)), (2, (.int .u64 b_2)), (3, (.pointer (some ⟨f_3, 0, none⟩))), (13, (.int .u64 lo_13)), (14, (.int .u64 hi_14))] w (Eq.mp (show numlaw_KeptOrder.V3 a_1 b_2 f_3 lo_13 hi_14 R w = seg Try.prog 31 171 Try.f31.results.toList numlaw_KeptOrder.cuts R 600 false [.code (sub (bodyOf Try.f31) [1, 1, 1, 1, 1, 1, 1, 1, 1, 1, 1, 1])] [(1, (.int .u64 a_1)), (2, (.int .u64 b_2)), (3, (.pointer (some ⟨f_3, 0, none⟩))), (13, (.int .u64 lo_13)), (14, (.int .u64 hi_14))] w by kernel_rfl) h)
def numlaw_KeptOrder.V4 (a_1 : Int) (b_2 : Int) (f_3 : Nat) (lo_13 : Int) (hi_14 : Int) (t_151 : Bool) (R : Value → World → Prop) (w : World) : Prop :=
  (cond t_151
  (cond (lo_13 == (bOr .u64 a_1 b_2))
  (R (.bool (hi_14 == (bAnd .u64 a_1 b_2))) w)
  (R (.bool false) w))
  (∃ x1 : Int, World.cell? w ⟨f_3, 2, none⟩ = some (.int .i64 x1) ∧ (Runs Try.prog numlaw_ap.id #[(.int .i64 (IntKind.wrap .i64 (x1 + (4 : Int)))), (.int .u64 lo_13), (.int .u64 hi_14)] w fun r2 w3 => (∃ x4 : Int, (r2 = (.int .u64 x4) ∧ (R (.bool (x4 == (1 : Int))) w3))))))
theorem numlaw_KeptOrder.step4 (a_1 : Int) (b_2 : Int) (f_3 : Nat) (lo_13 : Int) (hi_14 : Int) (t_151 : Bool) (R : Value → World → Prop) (w : World) (h : numlaw_KeptOrder.V4 a_1 b_2 f_3 lo_13 hi_14 t_151 R w) : numlaw_KeptOrder.L4 a_1 b_2 f_3 lo_13 hi_14 t_151 R w :=
  seg_T good mixed Try.func31 600 false [.code (sub (bodyOf Try.f31) [1, 1, 1, 1, 1, 1, 1, 1, 1, 1, 1, 1, 0, 1]), .code (sub (bodyOf Try.f31) [1, 1, 1, 1, 1, 1, 1, 1, 1, 1, 1, 1, 1])] [(1, (.int .u64 a_1)), (2, (.int .u64 b_2)), (3, (.pointer (some ⟨f_3, 0, none⟩))), (13, (.int .u64 lo_13)), (14, (.int .u64 hi_14)), (151, (.bool t_151))] w (Eq.mp (show numlaw_KeptOrder.V4 a_1 b_2 f_3 lo_13 hi_14 t_151 R w = seg Try.prog 31 171 Try.f31.results.toList numlaw_KeptOrder.cuts R 600 false [.code (sub (bodyOf Try.f31) [1, 1, 1, 1, 1, 1, 1, 1, 1, 1, 1, 1, 0, 1]), .code (sub (bodyOf Try.f31) [1, 1, 1, 1, 1, 1, 1, 1, 1, 1, 1, 1, 1])] [(1, (.int .u64 a_1)), (2, (.int .u64 b_2)), (3, (.pointer (some ⟨f_3, 0, none⟩))), (13, (.int .u64 lo_13)), (14, (.int .u64 hi_14)), (151, (.bool t_151))] w by kernel_rfl) h)
def numlaw_KeptOrder.V (f_0_1 : Int) (f_0_2 : Int) (f_0_3 : Int) (f_0_4 : Int) (f_0_5 : Int) (f_0_6 : Int) (a_1 : Int) (b_2 : Int) (R : Value → World → Prop) (w : World) : Prop :=
  (letB (Array.size (World.heap w)) fun b9 => letW (World.alloc w (.cells #[(.int .i64 f_0_1), (.int .i64 f_0_2), (.int .i64 f_0_3), (.int .u64 f_0_4), (.int .u64 f_0_5), (.int .u64 f_0_6)] T_numlaw_Fmt)) fun w10 => (∃ x11 : Int, World.cell? w10 ⟨b9, 2, none⟩ = some (.int .i64 x11) ∧ (Runs Try.prog numlaw_ap.id #[(.int .i64 x11), (.int .u64 a_1), (.int .u64 b_2)] w10 fun r12 w13 => (∃ x14 : Int, (r12 = (.int .u64 x14) ∧ (∃ x15 : Int, World.cell? w13 ⟨b9, 2, none⟩ = some (.int .i64 x15) ∧ (Runs Try.prog numlaw_ap.id #[(.int .i64 (IntKind.wrap .i64 (x15 + (1 : Int)))), (.int .u64 a_1), (.int .u64 b_2)] w13 fun r16 w17 => (∃ x18 : Int, (r16 = (.int .u64 x18) ∧ (∃ x19 : Int, World.cell? w17 ⟨b9, 2, none⟩ = some (.int .i64 x19) ∧ (Runs Try.prog numlaw_ap.id #[(.int .i64 (IntKind.wrap .i64 (x19 + (2 : Int)))), (.int .u64 a_1), (.int .u64 b_2)] w17 fun r20 w21 => (∃ x22 : Int, (r20 = (.int .u64 x22) ∧ (∃ x23 : Int, World.cell? w21 ⟨b9, 2, none⟩ = some (.int .i64 x23) ∧ (Runs Try.prog numlaw_ap.id #[(.int .i64 (IntKind.wrap .i64 (x23 + (3 : Int)))), (.int .u64 a_1), (.int .u64 b_2)] w21 fun r24 w25 => (∃ x26 : Int, (r24 = (.int .u64 x26) ∧ (∃ x27 : Int, World.cell? w25 ⟨b9, 2, none⟩ = some (.int .i64 x27) ∧ (Runs Try.prog numlaw_ap.id #[(.int .i64 (IntKind.wrap .i64 (x27 + (4 : Int)))), (.int .u64 a_1), (.int .u64 b_2)] w25 fun r28 w29 => (∃ x30 : Int, (r28 = (.int .u64 x30) ∧ (∃ x31 : Int, World.cell? w29 ⟨b9, 2, none⟩ = some (.int .i64 x31) ∧ (Runs Try.prog numlaw_ap.id #[(.int .i64 (IntKind.wrap .i64 (x31 + (5 : Int)))), (.int .u64 a_1), (.int .u64 b_2)] w29 fun r32 w33 => (∃ x34 : Int, (r32 = (.int .u64 x34) ∧ (∃ x35 : Int, World.cell? w33 ⟨b9, 1, none⟩ = some (.int .i64 x35) ∧ (Runs Try.prog numlaw_ap.id #[(.int .i64 (IntKind.wrap .i64 (x35 + (4 : Int)))), (.int .u64 a_1), (.int .u64 b_2)] w33 fun r36 w37 => (∃ x38 : Int, (r36 = (.int .u64 x38) ∧ (∃ x39 : Int, World.cell? w37 ⟨b9, 1, none⟩ = some (.int .i64 x39) ∧ (Runs Try.prog numlaw_ap.id #[(.int .i64 (IntKind.wrap .i64 (x39 + (5 : Int)))), (.int .u64 a_1), (.int .u64 b_2)] w37 fun r40 w41 => (∃ x42 : Int, (r40 = (.int .u64 x42) ∧ (cond ((IntKind.wrap .u64 (x14 + x18)) != (1 : Int))
  (R (.bool false) w41)
  (cond (x30 != (bOr .u64 x22 x14))
  (R (.bool false) w41)
  (cond (x34 != (bOr .u64 x26 x14))
  (R (.bool false) w41)
  (numlaw_KeptOrder.L1 a_1 b_2 b9 x14 x22 x26 x38 x42 R w41)))))))))))))))))))))))))))))))))))))
theorem numlaw_KeptOrder.enter (f_0_1 : Int) (f_0_2 : Int) (f_0_3 : Int) (f_0_4 : Int) (f_0_5 : Int) (f_0_6 : Int) (a_1 : Int) (b_2 : Int) (R : Value → World → Prop) (w : World) (h : numlaw_KeptOrder.V f_0_1 f_0_2 f_0_3 f_0_4 f_0_5 f_0_6 a_1 b_2 R w) : Runs Try.prog numlaw_KeptOrder.id #[(.agg #[(.int .i64 f_0_1), (.int .i64 f_0_2), (.int .i64 f_0_3), (.int .u64 f_0_4), (.int .u64 f_0_5), (.int .u64 f_0_6)]), (.int .u64 a_1), (.int .u64 b_2)] w R :=
  Runs.enter (c := bodyOf Try.f31) (N := 171) Try.func31 (by kernel_rfl) (by kernel_rfl) (by kernel_rfl) (seg_T good mixed Try.func31 600 false [.code (bodyOf Try.f31)] [(0, (.agg #[(.int .i64 f_0_1), (.int .i64 f_0_2), (.int .i64 f_0_3), (.int .u64 f_0_4), (.int .u64 f_0_5), (.int .u64 f_0_6)])), (1, (.int .u64 a_1)), (2, (.int .u64 b_2))] w (Eq.mp (show numlaw_KeptOrder.V f_0_1 f_0_2 f_0_3 f_0_4 f_0_5 f_0_6 a_1 b_2 R w = seg Try.prog 31 171 Try.f31.results.toList numlaw_KeptOrder.cuts R 600 false [.code (bodyOf Try.f31)] [(0, (.agg #[(.int .i64 f_0_1), (.int .i64 f_0_2), (.int .i64 f_0_3), (.int .u64 f_0_4), (.int .u64 f_0_5), (.int .u64 f_0_6)])), (1, (.int .u64 a_1)), (2, (.int .u64 b_2))] w by kernel_rfl) h))

/-! e2e/numlaw.KeptBack -/
def numlaw_KeptBack.cuts : List (Nat × List Nat) := [(20, [3, 4, 5])]
def numlaw_KeptBack.L1 (w_3 : Int) (p_4 : Int) (d_5 : Int) (R : Value → World → Prop) (w : World) : Prop :=
  T Try.prog 32 44 [.code (sub (bodyOf Try.f32) [1, 1, 1, 1, 1, 1, 1, 1, 1])] [(3, (.int .u64 w_3)), (4, (.int .u64 p_4)), (5, (.int .u64 d_5))] w R
def numlaw_KeptBack.V1 (w_3 : Int) (p_4 : Int) (d_5 : Int) (R : Value → World → Prop) (w : World) : Prop :=
  (cond (decide ((bAndNot .u64 w_3 2147483648) > (2139095040 : Int)))
  (cond (d_5 == (2143289344 : Int))
  (R (.bool (p_4 == (9221120237041090560 : Int))) w)
  (R (.bool false) w))
  (R (.bool (d_5 == w_3)) w))
theorem numlaw_KeptBack.step1 (w_3 : Int) (p_4 : Int) (d_5 : Int) (R : Value → World → Prop) (w : World) (h : numlaw_KeptBack.V1 w_3 p_4 d_5 R w) : numlaw_KeptBack.L1 w_3 p_4 d_5 R w :=
  seg_T good mixed Try.func32 600 false [.code (sub (bodyOf Try.f32) [1, 1, 1, 1, 1, 1, 1, 1, 1])] [(3, (.int .u64 w_3)), (4, (.int .u64 p_4)), (5, (.int .u64 d_5))] w (Eq.mp (show numlaw_KeptBack.V1 w_3 p_4 d_5 R w = seg Try.prog 32 44 Try.f32.results.toList numlaw_KeptBack.cuts R 600 false [.code (sub (bodyOf Try.f32) [1, 1, 1, 1, 1, 1, 1, 1, 1])] [(3, (.int .u64 w_3)), (4, (.int .u64 p_4)), (5, (.int .u64 d_5))] w by kernel_rfl) h)
def numlaw_KeptBack.V (a_0 : Int) (R : Value → World → Prop) (w : World) : Prop :=
  (Runs Try.prog numlaw_ap.id #[(.int .i64 187), (.int .u64 (bAnd .u64 a_0 4294967295)), (.int .u64 0)] w fun r2 w3 => (∃ x4 : Int, (r2 = (.int .u64 x4) ∧ (Runs Try.prog numlaw_ap.id #[(.int .i64 182), (.int .u64 x4), (.int .u64 0)] w3 fun r5 w6 => (∃ x7 : Int, (r5 = (.int .u64 x7) ∧ (Runs Try.prog numlaw_ap.id #[(.int .i64 188), (.int .u64 (bAnd .u64 a_0 4294967295)), (.int .u64 0)] w6 fun r8 w9 => (∃ x10 : Int, (r8 = (.int .u64 x10) ∧ (Runs Try.prog numlaw_ap.id #[(.int .i64 190), (.int .u64 x10), (.int .u64 0)] w9 fun r11 w12 => (∃ x13 : Int, (r11 = (.int .u64 x13) ∧ (Runs Try.prog numlaw_ap.id #[(.int .i64 189), (.int .u64 a_0), (.int .u64 0)] w12 fun r14 w15 => (∃ x16 : Int, (r14 = (.int .u64 x16) ∧ (Runs Try.prog numlaw_ap.id #[(.int .i64 191), (.int .u64 x16), (.int .u64 0)] w15 fun r17 w18 => (∃ x19 : Int, (r17 = (.int .u64 x19) ∧ (cond (x13 != (bAnd .u64 a_0 4294967295))
  (R (.bool false) w18)
  (cond (x19 != a_0)
  (R (.bool false) w18)
  (numlaw_KeptBack.L1 (bAnd .u64 a_0 4294967295) x4 x7 R w18)))))))))))))))))))))
theorem numlaw_KeptBack.enter (a_0 : Int) (R : Value → World → Prop) (w : World) (h : numlaw_KeptBack.V a_0 R w) : Runs Try.prog numlaw_KeptBack.id #[(.int .u64 a_0)] w R :=
  Runs.enter (c := bodyOf Try.f32) (N := 44) Try.func32 (by kernel_rfl) (by kernel_rfl) (by kernel_rfl) (seg_T good mixed Try.func32 600 false [.code (bodyOf Try.f32)] [(0, (.int .u64 a_0))] w (Eq.mp (show numlaw_KeptBack.V a_0 R w = seg Try.prog 32 44 Try.f32.results.toList numlaw_KeptBack.cuts R 600 false [.code (bodyOf Try.f32)] [(0, (.int .u64 a_0))] w by kernel_rfl) h))

/-! e2e/numlaw.KeptShape -/
def numlaw_KeptShape.cuts : List (Nat × List Nat) := [(14, [0, 1, 2, 7, 8, 9, 10, 11]), (26, [0, 1, 2, 7, 8, 10]), (28, [0, 1, 2, 7, 8, 79])]
def numlaw_KeptShape.L1 (op_0 : Int) (a_1 : Int) (b_2 : Int) (r_7 : Int) (e_8 : Int) (n_9 : Int) (t_10 : Int) (u_11 : Int) (R : Value → World → Prop) (w : World) : Prop :=
  T Try.prog 33 97 [.code (sub (bodyOf Try.f33) [1, 1, 1, 1, 1])] [(0, (.int .i64 op_0)), (1, (.int .u64 a_1)), (2, (.int .u64 b_2)), (7, (.int .u64 r_7)), (8, (.int .i64 e_8)), (9, (.int .i64 n_9)), (10, (.int .u8 t_10)), (11, (.int .u8 u_11))] w R
def numlaw_KeptShape.L2 (op_0 : Int) (a_1 : Int) (b_2 : Int) (r_7 : Int) (e_8 : Int) (t_10 : Int) (R : Value → World → Prop) (w : World) : Prop :=
  T Try.prog 33 97 [.code (sub (bodyOf Try.f33) [1, 1, 1, 1, 1, 1, 1])] [(0, (.int .i64 op_0)), (1, (.int .u64 a_1)), (2, (.int .u64 b_2)), (7, (.int .u64 r_7)), (8, (.int .i64 e_8)), (10, (.int .u8 t_10))] w R
def numlaw_KeptShape.L3 (op_0 : Int) (a_1 : Int) (b_2 : Int) (r_7 : Int) (e_8 : Int) (t_79 : Bool) (R : Value → World → Prop) (w : World) : Prop :=
  T Try.prog 33 97 [.code (sub (bodyOf Try.f33) [1, 1, 1, 1, 1, 1, 1, 0, 1]), .code (sub (bodyOf Try.f33) [1, 1, 1, 1, 1, 1, 1, 1])] [(0, (.int .i64 op_0)), (1, (.int .u64 a_1)), (2, (.int .u64 b_2)), (7, (.int .u64 r_7)), (8, (.int .i64 e_8)), (79, (.bool t_79))] w R
def numlaw_KeptShape.V1 (op_0 : Int) (a_1 : Int) (b_2 : Int) (r_7 : Int) (e_8 : Int) (n_9 : Int) (t_10 : Int) (u_11 : Int) (R : Value → World → Prop) (w : World) : Prop :=
  (Runs Try.prog api_Cut.id #[(.int .u8 u_11), (.int .u64 r_7)] w fun r1 w2 => (∃ x3 : Int, (r1 = (.int .u64 x3) ∧ (cond (r_7 != x3)
  (R (.bool false) w2)
  (cond (n_9 == (1 : Int))
  (Runs Try.prog num_Apply.id #[(.int .i64 op_0), (.int .u64 a_1), (.int .u64 (bXor .u64 (IntKind.max .u64) b_2))] w2 fun r4 w5 => (∃ x6 : Int, ∃ x7 : Int, (r4 = (.tuple #[(.int .u64 x6), (.int .i64 x7)]) ∧ (cond (x6 != r_7)
  (R (.bool false) w5)
  (cond (x7 != e_8)
  (R (.bool false) w5)
  (numlaw_KeptShape.L2 op_0 a_1 b_2 r_7 e_8 t_10 R w5))))))
  (numlaw_KeptShape.L2 op_0 a_1 b_2 r_7 e_8 t_10 R w2))))))
theorem numlaw_KeptShape.step1 (op_0 : Int) (a_1 : Int) (b_2 : Int) (r_7 : Int) (e_8 : Int) (n_9 : Int) (t_10 : Int) (u_11 : Int) (R : Value → World → Prop) (w : World) (h : numlaw_KeptShape.V1 op_0 a_1 b_2 r_7 e_8 n_9 t_10 u_11 R w) : numlaw_KeptShape.L1 op_0 a_1 b_2 r_7 e_8 n_9 t_10 u_11 R w :=
  seg_T good mixed Try.func33 600 false [.code (sub (bodyOf Try.f33) [1, 1, 1, 1, 1])] [(0, (.int .i64 op_0)), (1, (.int .u64 a_1)), (2, (.int .u64 b_2)), (7, (.int .u64 r_7)), (8, (.int .i64 e_8)), (9, (.int .i64 n_9)), (10, (.int .u8 t_10)), (11, (.int .u8 u_11))] w (Eq.mp (show numlaw_KeptShape.V1 op_0 a_1 b_2 r_7 e_8 n_9 t_10 u_11 R w = seg Try.prog 33 97 Try.f33.results.toList numlaw_KeptShape.cuts R 600 false [.code (sub (bodyOf Try.f33) [1, 1, 1, 1, 1])] [(0, (.int .i64 op_0)), (1, (.int .u64 a_1)), (2, (.int .u64 b_2)), (7, (.int .u64 r_7)), (8, (.int .i64 e_8)), (9, (.int .i64 n_9)), (10, (.int .u8 t_10)), (11, (.int .u8 u_11))] w by kernel_rfl) h)
def numlaw_KeptShape.V2 (op_0 : Int) (a_1 : Int) (b_2 : Int) (r_7 : Int) (e_8 : Int) (t_10 : Int) (R : Value → World → Prop) (w : World) : Prop :=
  (cond (t_10 == (127 : Int))
  (numlaw_KeptShape.L3 op_0 a_1 b_2 r_7 e_8 true R w)
  (numlaw_KeptShape.L3 op_0 a_1 b_2 r_7 e_8 (t_10 == (125 : Int)) R w))
theorem numlaw_KeptShape.step2 (op_0 : Int) (a_1 : Int) (b_2 : Int) (r_7 : Int) (e_8 : Int) (t_10 : Int) (R : Value → World → Prop) (w : World) (h : numlaw_KeptShape.V2 op_0 a_1 b_2 r_7 e_8 t_10 R w) : numlaw_KeptShape.L2 op_0 a_1 b_2 r_7 e_8 t_10 R w :=
  seg_T good mixed Try.func33 600 false [.code (sub (bodyOf Try.f33) [1, 1, 1, 1, 1, 1, 1])] [(0, (.int .i64 op_0)), (1, (.int .u64 a_1)), (2, (.int .u64 b_2)), (7, (.int .u64 r_7)), (8, (.int .i64 e_8)), (10, (.int .u8 t_10))] w (Eq.mp (show numlaw_KeptShape.V2 op_0 a_1 b_2 r_7 e_8 t_10 R w = seg Try.prog 33 97 Try.f33.results.toList numlaw_KeptShape.cuts R 600 false [.code (sub (bodyOf Try.f33) [1, 1, 1, 1, 1, 1, 1])] [(0, (.int .i64 op_0)), (1, (.int .u64 a_1)), (2, (.int .u64 b_2)), (7, (.int .u64 r_7)), (8, (.int .i64 e_8)), (10, (.int .u8 t_10))] w by kernel_rfl) h)
def numlaw_KeptShape.V3 (op_0 : Int) (a_1 : Int) (b_2 : Int) (r_7 : Int) (e_8 : Int) (t_79 : Bool) (R : Value → World → Prop) (w : World) : Prop :=
  (cond t_79
  (Runs Try.prog num_Apply.id #[(.int .i64 op_0), (.int .u64 (bXor .u64 a_1 18446744069414584320)), (.int .u64 (bXor .u64 b_2 18446744069414584320))] w fun r1 w2 => (∃ x3 : Int, ∃ x4 : Int, (r1 = (.tuple #[(.int .u64 x3), (.int .i64 x4)]) ∧ (cond (x3 == r_7)
  (R (.bool (x4 == e_8)) w2)
  (R (.bool false) w2)))))
  (R (.bool true) w))
theorem numlaw_KeptShape.step3 (op_0 : Int) (a_1 : Int) (b_2 : Int) (r_7 : Int) (e_8 : Int) (t_79 : Bool) (R : Value → World → Prop) (w : World) (h : numlaw_KeptShape.V3 op_0 a_1 b_2 r_7 e_8 t_79 R w) : numlaw_KeptShape.L3 op_0 a_1 b_2 r_7 e_8 t_79 R w :=
  seg_T good mixed Try.func33 600 false [.code (sub (bodyOf Try.f33) [1, 1, 1, 1, 1, 1, 1, 0, 1]), .code (sub (bodyOf Try.f33) [1, 1, 1, 1, 1, 1, 1, 1])] [(0, (.int .i64 op_0)), (1, (.int .u64 a_1)), (2, (.int .u64 b_2)), (7, (.int .u64 r_7)), (8, (.int .i64 e_8)), (79, (.bool t_79))] w (Eq.mp (show numlaw_KeptShape.V3 op_0 a_1 b_2 r_7 e_8 t_79 R w = seg Try.prog 33 97 Try.f33.results.toList numlaw_KeptShape.cuts R 600 false [.code (sub (bodyOf Try.f33) [1, 1, 1, 1, 1, 1, 1, 0, 1]), .code (sub (bodyOf Try.f33) [1, 1, 1, 1, 1, 1, 1, 1])] [(0, (.int .i64 op_0)), (1, (.int .u64 a_1)), (2, (.int .u64 b_2)), (7, (.int .u64 r_7)), (8, (.int .i64 e_8)), (79, (.bool t_79))] w by kernel_rfl) h)
def numlaw_KeptShape.V (op_0 : Int) (a_1 : Int) (b_2 : Int) (R : Value → World → Prop) (w : World) : Prop :=
  (Runs Try.prog num_Apply.id #[(.int .i64 op_0), (.int .u64 a_1), (.int .u64 b_2)] w fun r4 w5 => (∃ x6 : Int, ∃ x7 : Int, (r4 = (.tuple #[(.int .u64 x6), (.int .i64 x7)]) ∧ (Runs Try.prog api_NumSig.id #[(.int .i64 op_0)] w5 fun r8 w9 => (∃ x10 : Int, ∃ x11 : Int, ∃ x12 : Int, (r8 = (.tuple #[(.int .i64 x10), (.int .u8 x11), (.int .u8 x12)]) ∧ (cond (x10 == (0 : Int))
  (cond (x6 == (0 : Int))
  (R (.bool (x7 == (35 : Int))) w9)
  (R (.bool false) w9))
  (cond (x7 != (0 : Int))
  (cond (x6 != (0 : Int))
  (R (.bool false) w9)
  (cond (decide (x7 < (39 : Int)))
  (R (.bool false) w9)
  (cond (decide (x7 > (41 : Int)))
  (R (.bool false) w9)
  (numlaw_KeptShape.L1 op_0 a_1 b_2 x6 x7 x10 x11 x12 R w9))))
  (numlaw_KeptShape.L1 op_0 a_1 b_2 x6 x7 x10 x11 x12 R w9)))))))))
theorem numlaw_KeptShape.enter (op_0 : Int) (a_1 : Int) (b_2 : Int) (R : Value → World → Prop) (w : World) (h : numlaw_KeptShape.V op_0 a_1 b_2 R w) : Runs Try.prog numlaw_KeptShape.id #[(.int .i64 op_0), (.int .u64 a_1), (.int .u64 b_2)] w R :=
  Runs.enter (c := bodyOf Try.f33) (N := 97) Try.func33 (by kernel_rfl) (by kernel_rfl) (by kernel_rfl) (seg_T good mixed Try.func33 600 false [.code (bodyOf Try.f33)] [(0, (.int .i64 op_0)), (1, (.int .u64 a_1)), (2, (.int .u64 b_2))] w (Eq.mp (show numlaw_KeptShape.V op_0 a_1 b_2 R w = seg Try.prog 33 97 Try.f33.results.toList numlaw_KeptShape.cuts R 600 false [.code (bodyOf Try.f33)] [(0, (.int .i64 op_0)), (1, (.int .u64 a_1)), (2, (.int .u64 b_2))] w by kernel_rfl) h))

/-! e2e/numlaw.KeptInt -/
def numlaw_KeptInt.cuts : List (Nat × List Nat) := [(18, [0, 1, 4]), (30, [0, 4, 25, 27])]
def numlaw_KeptInt.L1 (w_0 : Int) (un_1 : Int) (a_4 : Int) (R : Value → World → Prop) (w : World) : Prop :=
  T Try.prog 34 143 [.code (sub (bodyOf Try.f34) [1, 1, 1, 1, 1, 1, 1, 1])] [(0, (.int .u64 w_0)), (1, (.int .i64 un_1)), (4, (.int .u64 a_4))] w R
def numlaw_KeptInt.L2 (w_0 : Int) (a_4 : Int) (c_25 : Int) (z_27 : Int) (R : Value → World → Prop) (w : World) : Prop :=
  T Try.prog 34 143 [.code (sub (bodyOf Try.f34) [1, 1, 1, 1, 1, 1, 1, 1, 1, 1, 1, 1])] [(0, (.int .u64 w_0)), (4, (.int .u64 a_4)), (25, (.int .u64 c_25)), (27, (.int .u64 z_27))] w R
def numlaw_KeptInt.V1 (w_0 : Int) (un_1 : Int) (a_4 : Int) (R : Value → World → Prop) (w : World) : Prop :=
  (Runs Try.prog num_Apply.id #[(.int .i64 un_1), (.int .u64 a_4), (.int .u64 0)] w fun r1 w2 => (∃ x3 : Int, ∃ x4 : Int, (r1 = (.tuple #[(.int .u64 x3), (.int .i64 x4)]) ∧ (Runs Try.prog num_Apply.id #[(.int .i64 (IntKind.wrap .i64 (un_1 + (1 : Int)))), (.int .u64 a_4), (.int .u64 0)] w2 fun r5 w6 => (∃ x7 : Int, ∃ x8 : Int, (r5 = (.tuple #[(.int .u64 x7), (.int .i64 x8)]) ∧ (cond (a_4 == (0 : Int))
  (cond (x3 == w_0)
  (R (.bool (x7 == w_0)) w6)
  (R (.bool false) w6))
  (cond (decide (x3 ≥ w_0))
  (R (.bool false) w6)
  (cond (decide (x7 ≥ w_0))
  (R (.bool false) w6)
  (numlaw_KeptInt.L2 w_0 a_4 x3 x7 R w6))))))))))
theorem numlaw_KeptInt.step1 (w_0 : Int) (un_1 : Int) (a_4 : Int) (R : Value → World → Prop) (w : World) (h : numlaw_KeptInt.V1 w_0 un_1 a_4 R w) : numlaw_KeptInt.L1 w_0 un_1 a_4 R w :=
  seg_T good mixed Try.func34 600 false [.code (sub (bodyOf Try.f34) [1, 1, 1, 1, 1, 1, 1, 1])] [(0, (.int .u64 w_0)), (1, (.int .i64 un_1)), (4, (.int .u64 a_4))] w (Eq.mp (show numlaw_KeptInt.V1 w_0 un_1 a_4 R w = seg Try.prog 34 143 Try.f34.results.toList numlaw_KeptInt.cuts R 600 false [.code (sub (bodyOf Try.f34) [1, 1, 1, 1, 1, 1, 1, 1])] [(0, (.int .u64 w_0)), (1, (.int .i64 un_1)), (4, (.int .u64 a_4))] w by kernel_rfl) h)
def numlaw_KeptInt.V2 (w_0 : Int) (a_4 : Int) (c_25 : Int) (z_27 : Int) (R : Value → World → Prop) (w : World) : Prop :=
  (0 ≤ (IntKind.wrap .u64 ((IntKind.wrap .u64 (w_0 - (1 : Int))) - c_25)) ∧ (cond ((Int.fdiv a_4 (2 ^ (min (Int.toNat (IntKind.wrap .u64 ((IntKind.wrap .u64 (w_0 - (1 : Int))) - c_25))) (IntKind.bits .u64)))) == (1 : Int))
  (0 ≤ z_27 ∧ (cond ((bAnd .u64 (Int.fdiv a_4 (2 ^ (min (Int.toNat z_27) (IntKind.bits .u64)))) 1) == (1 : Int))
  (0 ≤ z_27 ∧ (R (.bool ((bAnd .u64 a_4 (IntKind.wrap .u64 ((IntKind.wrap .u64 ((1 : Int) * 2 ^ (min (Int.toNat z_27) (IntKind.bits .u64)))) - (1 : Int)))) == (0 : Int))) w))
  (R (.bool false) w)))
  (R (.bool false) w)))
theorem numlaw_KeptInt.step2 (w_0 : Int) (a_4 : Int) (c_25 : Int) (z_27 : Int) (R : Value → World → Prop) (w : World) (h : numlaw_KeptInt.V2 w_0 a_4 c_25 z_27 R w) : numlaw_KeptInt.L2 w_0 a_4 c_25 z_27 R w :=
  seg_T good mixed Try.func34 600 false [.code (sub (bodyOf Try.f34) [1, 1, 1, 1, 1, 1, 1, 1, 1, 1, 1, 1])] [(0, (.int .u64 w_0)), (4, (.int .u64 a_4)), (25, (.int .u64 c_25)), (27, (.int .u64 z_27))] w (Eq.mp (show numlaw_KeptInt.V2 w_0 a_4 c_25 z_27 R w = seg Try.prog 34 143 Try.f34.results.toList numlaw_KeptInt.cuts R 600 false [.code (sub (bodyOf Try.f34) [1, 1, 1, 1, 1, 1, 1, 1, 1, 1, 1, 1])] [(0, (.int .u64 w_0)), (4, (.int .u64 a_4)), (25, (.int .u64 c_25)), (27, (.int .u64 z_27))] w by kernel_rfl) h)
def numlaw_KeptInt.V (w_0 : Int) (un_1 : Int) (bin_2 : Int) (m_3 : Int) (a_4 : Int) (b_5 : Int) (R : Value → World → Prop) (w : World) : Prop :=
  (Runs Try.prog num_Apply.id #[(.int .i64 bin_2), (.int .u64 a_4), (.int .u64 b_5)] w fun r7 w8 => (∃ x9 : Int, ∃ x10 : Int, (r7 = (.tuple #[(.int .u64 x9), (.int .i64 x10)]) ∧ (Runs Try.prog num_Apply.id #[(.int .i64 (IntKind.wrap .i64 (bin_2 + (1 : Int)))), (.int .u64 x9), (.int .u64 b_5)] w8 fun r11 w12 => (∃ x13 : Int, ∃ x14 : Int, (r11 = (.tuple #[(.int .u64 x13), (.int .i64 x14)]) ∧ (Runs Try.prog num_Apply.id #[(.int .i64 (IntKind.wrap .i64 (bin_2 + (13 : Int)))), (.int .u64 a_4), (.int .u64 b_5)] w12 fun r15 w16 => (∃ x17 : Int, ∃ x18 : Int, (r15 = (.tuple #[(.int .u64 x17), (.int .i64 x18)]) ∧ (Runs Try.prog num_Apply.id #[(.int .i64 (IntKind.wrap .i64 (bin_2 + (14 : Int)))), (.int .u64 x17), (.int .u64 b_5)] w16 fun r19 w20 => (∃ x21 : Int, ∃ x22 : Int, (r19 = (.tuple #[(.int .u64 x21), (.int .i64 x22)]) ∧ (Runs Try.prog num_Apply.id #[(.int .i64 (IntKind.wrap .i64 (un_1 + (2 : Int)))), (.int .u64 a_4), (.int .u64 0)] w20 fun r23 w24 => (∃ x25 : Int, ∃ x26 : Int, (r23 = (.tuple #[(.int .u64 x25), (.int .i64 x26)]) ∧ (Runs Try.prog num_Apply.id #[(.int .i64 (IntKind.wrap .i64 (un_1 + (2 : Int)))), (.int .u64 (bXor .u64 (IntKind.max .u64) a_4)), (.int .u64 0)] w24 fun r27 w28 => (∃ x29 : Int, ∃ x30 : Int, (r27 = (.tuple #[(.int .u64 x29), (.int .i64 x30)]) ∧ (cond (x13 != a_4)
  (R (.bool false) w28)
  (cond (x21 != a_4)
  (R (.bool false) w28)
  (cond ((IntKind.wrap .u64 (x25 + x29)) != w_0)
  (R (.bool false) w28)
  (numlaw_KeptInt.L1 w_0 un_1 a_4 R w28))))))))))))))))))))))
theorem numlaw_KeptInt.enter (w_0 : Int) (un_1 : Int) (bin_2 : Int) (m_3 : Int) (a_4 : Int) (b_5 : Int) (R : Value → World → Prop) (w : World) (h : numlaw_KeptInt.V w_0 un_1 bin_2 m_3 a_4 b_5 R w) : Runs Try.prog numlaw_KeptInt.id #[(.int .u64 w_0), (.int .i64 un_1), (.int .i64 bin_2), (.int .u64 m_3), (.int .u64 a_4), (.int .u64 b_5)] w R :=
  Runs.enter (c := bodyOf Try.f34) (N := 143) Try.func34 (by kernel_rfl) (by kernel_rfl) (by kernel_rfl) (seg_T good mixed Try.func34 600 false [.code (bodyOf Try.f34)] [(0, (.int .u64 w_0)), (1, (.int .i64 un_1)), (2, (.int .i64 bin_2)), (3, (.int .u64 m_3)), (4, (.int .u64 a_4)), (5, (.int .u64 b_5))] w (Eq.mp (show numlaw_KeptInt.V w_0 un_1 bin_2 m_3 a_4 b_5 R w = seg Try.prog 34 143 Try.f34.results.toList numlaw_KeptInt.cuts R 600 false [.code (bodyOf Try.f34)] [(0, (.int .u64 w_0)), (1, (.int .i64 un_1)), (2, (.int .i64 bin_2)), (3, (.int .u64 m_3)), (4, (.int .u64 a_4)), (5, (.int .u64 b_5))] w by kernel_rfl) h))

/-! e2e/numlaw.KeptDiv -/
def numlaw_KeptDiv.cuts : List (Nat × List Nat) := [(18, [1, 2, 3, 9, 10, 13]), (20, [1, 2, 3, 9, 10, 13, 105]), (30, [1, 2, 13])]
def numlaw_KeptDiv.L1 (m_1 : Int) (a_2 : Int) (b_3 : Int) (qs_9 : Int) (e1_10 : Int) (rs_13 : Int) (R : Value → World → Prop) (w : World) : Prop :=
  T Try.prog 35 149 [.code (sub (bodyOf Try.f35) [1, 1, 1, 1, 1, 1, 1])] [(1, (.int .u64 m_1)), (2, (.int .u64 a_2)), (3, (.int .u64 b_3)), (9, (.int .u64 qs_9)), (10, (.int .i64 e1_10)), (13, (.int .u64 rs_13))] w R
def numlaw_KeptDiv.L2 (m_1 : Int) (a_2 : Int) (b_3 : Int) (qs_9 : Int) (e1_10 : Int) (rs_13 : Int) (t_105 : Bool) (R : Value → World → Prop) (w : World) : Prop :=
  T Try.prog 35 149 [.code (sub (bodyOf Try.f35) [1, 1, 1, 1, 1, 1, 1, 0, 1]), .code (sub (bodyOf Try.f35) [1, 1, 1, 1, 1, 1, 1, 1])] [(1, (.int .u64 m_1)), (2, (.int .u64 a_2)), (3, (.int .u64 b_3)), (9, (.int .u64 qs_9)), (10, (.int .i64 e1_10)), (13, (.int .u64 rs_13)), (105, (.bool t_105))] w R
def numlaw_KeptDiv.L3 (m_1 : Int) (a_2 : Int) (rs_13 : Int) (R : Value → World → Prop) (w : World) : Prop :=
  T Try.prog 35 149 [.code (sub (bodyOf Try.f35) [1, 1, 1, 1, 1, 1, 1, 1, 1, 1, 1])] [(1, (.int .u64 m_1)), (2, (.int .u64 a_2)), (13, (.int .u64 rs_13))] w R
def numlaw_KeptDiv.V1 (m_1 : Int) (a_2 : Int) (b_3 : Int) (qs_9 : Int) (e1_10 : Int) (rs_13 : Int) (R : Value → World → Prop) (w : World) : Prop :=
  (cond (a_2 == (IntKind.wrap .u64 ((Int.fdiv m_1 (2 ^ (1 : Nat))) + (1 : Int))))
  (numlaw_KeptDiv.L2 m_1 a_2 b_3 qs_9 e1_10 rs_13 (b_3 == m_1) R w)
  (numlaw_KeptDiv.L2 m_1 a_2 b_3 qs_9 e1_10 rs_13 false R w))
theorem numlaw_KeptDiv.step1 (m_1 : Int) (a_2 : Int) (b_3 : Int) (qs_9 : Int) (e1_10 : Int) (rs_13 : Int) (R : Value → World → Prop) (w : World) (h : numlaw_KeptDiv.V1 m_1 a_2 b_3 qs_9 e1_10 rs_13 R w) : numlaw_KeptDiv.L1 m_1 a_2 b_3 qs_9 e1_10 rs_13 R w :=
  seg_T good mixed Try.func35 600 false [.code (sub (bodyOf Try.f35) [1, 1, 1, 1, 1, 1, 1])] [(1, (.int .u64 m_1)), (2, (.int .u64 a_2)), (3, (.int .u64 b_3)), (9, (.int .u64 qs_9)), (10, (.int .i64 e1_10)), (13, (.int .u64 rs_13))] w (Eq.mp (show numlaw_KeptDiv.V1 m_1 a_2 b_3 qs_9 e1_10 rs_13 R w = seg Try.prog 35 149 Try.f35.results.toList numlaw_KeptDiv.cuts R 600 false [.code (sub (bodyOf Try.f35) [1, 1, 1, 1, 1, 1, 1])] [(1, (.int .u64 m_1)), (2, (.int .u64 a_2)), (3, (.int .u64 b_3)), (9, (.int .u64 qs_9)), (10, (.int .i64 e1_10)), (13, (.int .u64 rs_13))] w by kernel_rfl) h)
def numlaw_KeptDiv.V2 (m_1 : Int) (a_2 : Int) (b_3 : Int) (qs_9 : Int) (e1_10 : Int) (rs_13 : Int) (t_105 : Bool) (R : Value → World → Prop) (w : World) : Prop :=
  (cond t_105
  (cond (e1_10 == (40 : Int))
  (R (.bool (rs_13 == (0 : Int))) w)
  (R (.bool false) w))
  (Runs Try.prog numlaw_Mag.id #[(.int .u64 m_1), (.int .u64 rs_13)] w fun r1 w2 => (∃ x3 : Int, (r1 = (.int .u64 x3) ∧ (Runs Try.prog numlaw_Mag.id #[(.int .u64 m_1), (.int .u64 b_3)] w2 fun r4 w5 => (∃ x6 : Int, (r4 = (.int .u64 x6) ∧ (cond (e1_10 != (0 : Int))
  (R (.bool false) w5)
  (cond ((bAnd .u64 (IntKind.wrap .u64 ((IntKind.wrap .u64 (qs_9 * b_3)) + rs_13)) m_1) != a_2)
  (R (.bool false) w5)
  (cond (decide (x3 ≥ x6))
  (R (.bool false) w5)
  (numlaw_KeptDiv.L3 m_1 a_2 rs_13 R w5)))))))))))
theorem numlaw_KeptDiv.step2 (m_1 : Int) (a_2 : Int) (b_3 : Int) (qs_9 : Int) (e1_10 : Int) (rs_13 : Int) (t_105 : Bool) (R : Value → World → Prop) (w : World) (h : numlaw_KeptDiv.V2 m_1 a_2 b_3 qs_9 e1_10 rs_13 t_105 R w) : numlaw_KeptDiv.L2 m_1 a_2 b_3 qs_9 e1_10 rs_13 t_105 R w :=
  seg_T good mixed Try.func35 600 false [.code (sub (bodyOf Try.f35) [1, 1, 1, 1, 1, 1, 1, 0, 1]), .code (sub (bodyOf Try.f35) [1, 1, 1, 1, 1, 1, 1, 1])] [(1, (.int .u64 m_1)), (2, (.int .u64 a_2)), (3, (.int .u64 b_3)), (9, (.int .u64 qs_9)), (10, (.int .i64 e1_10)), (13, (.int .u64 rs_13)), (105, (.bool t_105))] w (Eq.mp (show numlaw_KeptDiv.V2 m_1 a_2 b_3 qs_9 e1_10 rs_13 t_105 R w = seg Try.prog 35 149 Try.f35.results.toList numlaw_KeptDiv.cuts R 600 false [.code (sub (bodyOf Try.f35) [1, 1, 1, 1, 1, 1, 1, 0, 1]), .code (sub (bodyOf Try.f35) [1, 1, 1, 1, 1, 1, 1, 1])] [(1, (.int .u64 m_1)), (2, (.int .u64 a_2)), (3, (.int .u64 b_3)), (9, (.int .u64 qs_9)), (10, (.int .i64 e1_10)), (13, (.int .u64 rs_13)), (105, (.bool t_105))] w by kernel_rfl) h)
def numlaw_KeptDiv.V3 (m_1 : Int) (a_2 : Int) (rs_13 : Int) (R : Value → World → Prop) (w : World) : Prop :=
  (cond (rs_13 == (0 : Int))
  (R (.bool true) w)
  (R (.bool ((decide (rs_13 > (Int.fdiv m_1 (2 ^ (1 : Nat))))) == (decide (a_2 > (Int.fdiv m_1 (2 ^ (1 : Nat))))))) w))
theorem numlaw_KeptDiv.step3 (m_1 : Int) (a_2 : Int) (rs_13 : Int) (R : Value → World → Prop) (w : World) (h : numlaw_KeptDiv.V3 m_1 a_2 rs_13 R w) : numlaw_KeptDiv.L3 m_1 a_2 rs_13 R w :=
  seg_T good mixed Try.func35 600 false [.code (sub (bodyOf Try.f35) [1, 1, 1, 1, 1, 1, 1, 1, 1, 1, 1])] [(1, (.int .u64 m_1)), (2, (.int .u64 a_2)), (13, (.int .u64 rs_13))] w (Eq.mp (show numlaw_KeptDiv.V3 m_1 a_2 rs_13 R w = seg Try.prog 35 149 Try.f35.results.toList numlaw_KeptDiv.cuts R 600 false [.code (sub (bodyOf Try.f35) [1, 1, 1, 1, 1, 1, 1, 1, 1, 1, 1])] [(1, (.int .u64 m_1)), (2, (.int .u64 a_2)), (13, (.int .u64 rs_13))] w by kernel_rfl) h)
def numlaw_KeptDiv.V (bin_0 : Int) (m_1 : Int) (a_2 : Int) (b_3 : Int) (R : Value → World → Prop) (w : World) : Prop :=
  (Runs Try.prog num_Apply.id #[(.int .i64 (IntKind.wrap .i64 (bin_0 + (3 : Int)))), (.int .u64 a_2), (.int .u64 b_3)] w fun r5 w6 => (∃ x7 : Int, ∃ x8 : Int, (r5 = (.tuple #[(.int .u64 x7), (.int .i64 x8)]) ∧ (Runs Try.prog num_Apply.id #[(.int .i64 (IntKind.wrap .i64 (bin_0 + (4 : Int)))), (.int .u64 a_2), (.int .u64 b_3)] w6 fun r9 w10 => (∃ x11 : Int, ∃ x12 : Int, (r9 = (.tuple #[(.int .u64 x11), (.int .i64 x12)]) ∧ (Runs Try.prog num_Apply.id #[(.int .i64 (IntKind.wrap .i64 (bin_0 + (5 : Int)))), (.int .u64 a_2), (.int .u64 b_3)] w10 fun r13 w14 => (∃ x15 : Int, ∃ x16 : Int, (r13 = (.tuple #[(.int .u64 x15), (.int .i64 x16)]) ∧ (Runs Try.prog num_Apply.id #[(.int .i64 (IntKind.wrap .i64 (bin_0 + (6 : Int)))), (.int .u64 a_2), (.int .u64 b_3)] w14 fun r17 w18 => (∃ x19 : Int, ∃ x20 : Int, (r17 = (.tuple #[(.int .u64 x19), (.int .i64 x20)]) ∧ (cond (b_3 == (0 : Int))
  (cond (x8 == (39 : Int))
  (cond (x12 == x8)
  (cond (x16 == x8)
  (R (.bool (x20 == x8)) w18)
  (R (.bool false) w18))
  (R (.bool false) w18))
  (R (.bool false) w18))
  (cond (x12 != (0 : Int))
  (R (.bool false) w18)
  (cond (x16 != (0 : Int))
  (R (.bool false) w18)
  (cond (x20 != (0 : Int))
  (R (.bool false) w18)
  (cond ((bAnd .u64 (IntKind.wrap .u64 ((IntKind.wrap .u64 (x11 * b_3)) + x19)) m_1) != a_2)
  (R (.bool false) w18)
  (cond (decide (x19 ≥ b_3))
  (R (.bool false) w18)
  (numlaw_KeptDiv.L1 m_1 a_2 b_3 x7 x8 x15 R w18)))))))))))))))))))
theorem numlaw_KeptDiv.enter (bin_0 : Int) (m_1 : Int) (a_2 : Int) (b_3 : Int) (R : Value → World → Prop) (w : World) (h : numlaw_KeptDiv.V bin_0 m_1 a_2 b_3 R w) : Runs Try.prog numlaw_KeptDiv.id #[(.int .i64 bin_0), (.int .u64 m_1), (.int .u64 a_2), (.int .u64 b_3)] w R :=
  Runs.enter (c := bodyOf Try.f35) (N := 149) Try.func35 (by kernel_rfl) (by kernel_rfl) (by kernel_rfl) (seg_T good mixed Try.func35 600 false [.code (bodyOf Try.f35)] [(0, (.int .i64 bin_0)), (1, (.int .u64 m_1)), (2, (.int .u64 a_2)), (3, (.int .u64 b_3))] w (Eq.mp (show numlaw_KeptDiv.V bin_0 m_1 a_2 b_3 R w = seg Try.prog 35 149 Try.f35.results.toList numlaw_KeptDiv.cuts R 600 false [.code (bodyOf Try.f35)] [(0, (.int .i64 bin_0)), (1, (.int .u64 m_1)), (2, (.int .u64 a_2)), (3, (.int .u64 b_3))] w by kernel_rfl) h))

/-! e2e/numlaw.Do -/
def numlaw_Do.cuts : List (Nat × List Nat) := [(4, [1, 2, 14])]
def numlaw_Do.L1 (o_1 : Nat) (t_2 : Nat) (t_14 : Bool) (R : Value → World → Prop) (w : World) : Prop :=
  T Try.prog 36 33 [.code (sub (bodyOf Try.f36) [1, 0, 1]), .code (sub (bodyOf Try.f36) [1, 1])] [(1, (.pointer (some ⟨o_1, 0, none⟩))), (2, (.pointer (some ⟨t_2, 0, none⟩))), (14, (.bool t_14))] w R
def numlaw_Do.V1 (o_1 : Nat) (t_2 : Nat) (t_14 : Bool) (R : Value → World → Prop) (w : World) : Prop :=
  (cond t_14
  (putCells w ⟨t_2, 0, none⟩ [(.int .i64 0), (.int .i64 0), (.int .i64 0), (.string ⟨#[]⟩)] fun w1 => ((∃ x2 : Int, ∃ x3 : Int, ∃ x4 : Int, ∃ x5 : ByteArray, World.cell? w1 ⟨t_2, 0, none⟩ = some (.int .i64 x2) ∧ World.cell? w1 ⟨t_2, 1, none⟩ = some (.int .i64 x3) ∧ World.cell? w1 ⟨t_2, 2, none⟩ = some (.int .i64 x4) ∧ World.cell? w1 ⟨t_2, 3, none⟩ = some (.string x5) ∧ R (.agg #[(.int .i64 x2), (.int .i64 x3), (.int .i64 x4), (.string x5)]) w1)))
  (∃ x6 : Int, ∃ x7 : Int, ∃ x8 : Int, ∃ x9 : Int, ∃ x10 : ByteArray, ∃ x11 : ByteArray, World.cell? w ⟨o_1, 0, none⟩ = some (.int .i64 x6) ∧ World.cell? w ⟨o_1, 1, none⟩ = some (.int .i64 x7) ∧ World.cell? w ⟨o_1, 2, none⟩ = some (.int .i64 x8) ∧ World.cell? w ⟨o_1, 3, none⟩ = some (.int .i64 x9) ∧ World.cell? w ⟨o_1, 4, none⟩ = some (.string x10) ∧ World.cell? w ⟨o_1, 5, none⟩ = some (.string x11) ∧ (Runs Try.prog numlaw_Words.id #[(.agg #[(.int .i64 x6), (.int .i64 x7), (.int .i64 x8), (.int .i64 x9), (.string x10), (.string x11)])] w fun r12 w13 => (∃ x14 : Int, ∃ x15 : Int, (r12 = (.tuple #[(.int .u64 x14), (.int .u64 x15)]) ∧ (∃ x16 : Int, World.cell? w13 ⟨o_1, 1, none⟩ = some (.int .i64 x16) ∧ (Runs Try.prog num_Apply.id #[(.int .i64 x16), (.int .u64 x14), (.int .u64 x15)] w13 fun r17 w18 => (∃ x19 : Int, ∃ x20 : Int, (r17 = (.tuple #[(.int .u64 x19), (.int .i64 x20)]) ∧ (putCells w18 ⟨t_2, 0, none⟩ [(.int .i64 x20), (.int .i64 (IntKind.wrap .i64 x19)), (.int .i64 0), (.string ⟨#[]⟩)] fun w21 => ((∃ x22 : Int, ∃ x23 : Int, ∃ x24 : Int, ∃ x25 : ByteArray, World.cell? w21 ⟨t_2, 0, none⟩ = some (.int .i64 x22) ∧ World.cell? w21 ⟨t_2, 1, none⟩ = some (.int .i64 x23) ∧ World.cell? w21 ⟨t_2, 2, none⟩ = some (.int .i64 x24) ∧ World.cell? w21 ⟨t_2, 3, none⟩ = some (.string x25) ∧ R (.agg #[(.int .i64 x22), (.int .i64 x23), (.int .i64 x24), (.string x25)]) w21))))))))))))
theorem numlaw_Do.step1 (o_1 : Nat) (t_2 : Nat) (t_14 : Bool) (R : Value → World → Prop) (w : World) (h : numlaw_Do.V1 o_1 t_2 t_14 R w) : numlaw_Do.L1 o_1 t_2 t_14 R w :=
  seg_T good mixed Try.func36 600 false [.code (sub (bodyOf Try.f36) [1, 0, 1]), .code (sub (bodyOf Try.f36) [1, 1])] [(1, (.pointer (some ⟨o_1, 0, none⟩))), (2, (.pointer (some ⟨t_2, 0, none⟩))), (14, (.bool t_14))] w (Eq.mp (show numlaw_Do.V1 o_1 t_2 t_14 R w = seg Try.prog 36 33 Try.f36.results.toList numlaw_Do.cuts R 600 false [.code (sub (bodyOf Try.f36) [1, 0, 1]), .code (sub (bodyOf Try.f36) [1, 1])] [(1, (.pointer (some ⟨o_1, 0, none⟩))), (2, (.pointer (some ⟨t_2, 0, none⟩))), (14, (.bool t_14))] w by kernel_rfl) h)
def numlaw_Do.V (o_0_1 : Int) (o_0_2 : Int) (o_0_3 : Int) (o_0_4 : Int) (o_0_5 : ByteArray) (o_0_6 : ByteArray) (R : Value → World → Prop) (w : World) : Prop :=
  (letB (Array.size (World.heap w)) fun b7 => letW (World.alloc w (.cells #[(.int .i64 o_0_1), (.int .i64 o_0_2), (.int .i64 o_0_3), (.int .i64 o_0_4), (.string o_0_5), (.string o_0_6)] T_api_Op)) fun w8 => (letB (Array.size (World.heap w8)) fun b9 => letW (World.alloc w8 (.cells #[(.int .i64 0), (.int .i64 0), (.int .i64 0), (.string ⟨#[]⟩)] T_api_Ans)) fun w10 => (∃ x11 : Int, World.cell? w10 ⟨b7, 0, none⟩ = some (.int .i64 x11) ∧ (cond (x11 != (1 : Int))
  (∃ x12 : Int, World.cell? w10 ⟨b7, 0, none⟩ = some (.int .i64 x12) ∧ (numlaw_Do.L1 b7 b9 (x12 != (2 : Int)) R w10))
  (numlaw_Do.L1 b7 b9 false R w10)))))
theorem numlaw_Do.enter (o_0_1 : Int) (o_0_2 : Int) (o_0_3 : Int) (o_0_4 : Int) (o_0_5 : ByteArray) (o_0_6 : ByteArray) (R : Value → World → Prop) (w : World) (h : numlaw_Do.V o_0_1 o_0_2 o_0_3 o_0_4 o_0_5 o_0_6 R w) : Runs Try.prog numlaw_Do.id #[(.agg #[(.int .i64 o_0_1), (.int .i64 o_0_2), (.int .i64 o_0_3), (.int .i64 o_0_4), (.string o_0_5), (.string o_0_6)])] w R :=
  Runs.enter (c := bodyOf Try.f36) (N := 33) Try.func36 (by kernel_rfl) (by kernel_rfl) (by kernel_rfl) (seg_T good mixed Try.func36 600 false [.code (bodyOf Try.f36)] [(0, (.agg #[(.int .i64 o_0_1), (.int .i64 o_0_2), (.int .i64 o_0_3), (.int .i64 o_0_4), (.string o_0_5), (.string o_0_6)]))] w (Eq.mp (show numlaw_Do.V o_0_1 o_0_2 o_0_3 o_0_4 o_0_5 o_0_6 R w = seg Try.prog 36 33 Try.f36.results.toList numlaw_Do.cuts R 600 false [.code (bodyOf Try.f36)] [(0, (.agg #[(.int .i64 o_0_1), (.int .i64 o_0_2), (.int .i64 o_0_3), (.int .i64 o_0_4), (.string o_0_5), (.string o_0_6)]))] w by kernel_rfl) h))

/-! e2e/numlaw.DoM -/
def numlaw_DoM.cuts : List (Nat × List Nat) := [(4, [1, 2, 14])]
def numlaw_DoM.L1 (o_1 : Nat) (t_2 : Nat) (t_14 : Bool) (R : Value → World → Prop) (w : World) : Prop :=
  T Try.prog 37 33 [.code (sub (bodyOf Try.f37) [1, 0, 1]), .code (sub (bodyOf Try.f37) [1, 1])] [(1, (.pointer (some ⟨o_1, 0, none⟩))), (2, (.pointer (some ⟨t_2, 0, none⟩))), (14, (.bool t_14))] w R
def numlaw_DoM.V1 (o_1 : Nat) (t_2 : Nat) (t_14 : Bool) (R : Value → World → Prop) (w : World) : Prop :=
  (cond t_14
  (putCells w ⟨t_2, 0, none⟩ [(.int .i64 0), (.int .i64 0), (.int .i64 0), (.string ⟨#[]⟩)] fun w1 => ((∃ x2 : Int, ∃ x3 : Int, ∃ x4 : Int, ∃ x5 : ByteArray, World.cell? w1 ⟨t_2, 0, none⟩ = some (.int .i64 x2) ∧ World.cell? w1 ⟨t_2, 1, none⟩ = some (.int .i64 x3) ∧ World.cell? w1 ⟨t_2, 2, none⟩ = some (.int .i64 x4) ∧ World.cell? w1 ⟨t_2, 3, none⟩ = some (.string x5) ∧ R (.agg #[(.int .i64 x2), (.int .i64 x3), (.int .i64 x4), (.string x5)]) w1)))
  (∃ x6 : Int, ∃ x7 : Int, ∃ x8 : Int, ∃ x9 : Int, ∃ x10 : ByteArray, ∃ x11 : ByteArray, World.cell? w ⟨o_1, 0, none⟩ = some (.int .i64 x6) ∧ World.cell? w ⟨o_1, 1, none⟩ = some (.int .i64 x7) ∧ World.cell? w ⟨o_1, 2, none⟩ = some (.int .i64 x8) ∧ World.cell? w ⟨o_1, 3, none⟩ = some (.int .i64 x9) ∧ World.cell? w ⟨o_1, 4, none⟩ = some (.string x10) ∧ World.cell? w ⟨o_1, 5, none⟩ = some (.string x11) ∧ (Runs Try.prog numlaw_Words.id #[(.agg #[(.int .i64 x6), (.int .i64 x7), (.int .i64 x8), (.int .i64 x9), (.string x10), (.string x11)])] w fun r12 w13 => (∃ x14 : Int, ∃ x15 : Int, (r12 = (.tuple #[(.int .u64 x14), (.int .u64 x15)]) ∧ (∃ x16 : Int, World.cell? w13 ⟨o_1, 1, none⟩ = some (.int .i64 x16) ∧ (Runs Try.prog numm_Apply.id #[(.int .i64 x16), (.int .u64 x14), (.int .u64 x15)] w13 fun r17 w18 => (∃ x19 : Int, ∃ x20 : Int, (r17 = (.tuple #[(.int .u64 x19), (.int .i64 x20)]) ∧ (putCells w18 ⟨t_2, 0, none⟩ [(.int .i64 x20), (.int .i64 (IntKind.wrap .i64 x19)), (.int .i64 0), (.string ⟨#[]⟩)] fun w21 => ((∃ x22 : Int, ∃ x23 : Int, ∃ x24 : Int, ∃ x25 : ByteArray, World.cell? w21 ⟨t_2, 0, none⟩ = some (.int .i64 x22) ∧ World.cell? w21 ⟨t_2, 1, none⟩ = some (.int .i64 x23) ∧ World.cell? w21 ⟨t_2, 2, none⟩ = some (.int .i64 x24) ∧ World.cell? w21 ⟨t_2, 3, none⟩ = some (.string x25) ∧ R (.agg #[(.int .i64 x22), (.int .i64 x23), (.int .i64 x24), (.string x25)]) w21))))))))))))
theorem numlaw_DoM.step1 (o_1 : Nat) (t_2 : Nat) (t_14 : Bool) (R : Value → World → Prop) (w : World) (h : numlaw_DoM.V1 o_1 t_2 t_14 R w) : numlaw_DoM.L1 o_1 t_2 t_14 R w :=
  seg_T good mixed Try.func37 600 false [.code (sub (bodyOf Try.f37) [1, 0, 1]), .code (sub (bodyOf Try.f37) [1, 1])] [(1, (.pointer (some ⟨o_1, 0, none⟩))), (2, (.pointer (some ⟨t_2, 0, none⟩))), (14, (.bool t_14))] w (Eq.mp (show numlaw_DoM.V1 o_1 t_2 t_14 R w = seg Try.prog 37 33 Try.f37.results.toList numlaw_DoM.cuts R 600 false [.code (sub (bodyOf Try.f37) [1, 0, 1]), .code (sub (bodyOf Try.f37) [1, 1])] [(1, (.pointer (some ⟨o_1, 0, none⟩))), (2, (.pointer (some ⟨t_2, 0, none⟩))), (14, (.bool t_14))] w by kernel_rfl) h)
def numlaw_DoM.V (o_0_1 : Int) (o_0_2 : Int) (o_0_3 : Int) (o_0_4 : Int) (o_0_5 : ByteArray) (o_0_6 : ByteArray) (R : Value → World → Prop) (w : World) : Prop :=
  (letB (Array.size (World.heap w)) fun b7 => letW (World.alloc w (.cells #[(.int .i64 o_0_1), (.int .i64 o_0_2), (.int .i64 o_0_3), (.int .i64 o_0_4), (.string o_0_5), (.string o_0_6)] T_api_Op)) fun w8 => (letB (Array.size (World.heap w8)) fun b9 => letW (World.alloc w8 (.cells #[(.int .i64 0), (.int .i64 0), (.int .i64 0), (.string ⟨#[]⟩)] T_api_Ans)) fun w10 => (∃ x11 : Int, World.cell? w10 ⟨b7, 0, none⟩ = some (.int .i64 x11) ∧ (cond (x11 != (1 : Int))
  (∃ x12 : Int, World.cell? w10 ⟨b7, 0, none⟩ = some (.int .i64 x12) ∧ (numlaw_DoM.L1 b7 b9 (x12 != (2 : Int)) R w10))
  (numlaw_DoM.L1 b7 b9 false R w10)))))
theorem numlaw_DoM.enter (o_0_1 : Int) (o_0_2 : Int) (o_0_3 : Int) (o_0_4 : Int) (o_0_5 : ByteArray) (o_0_6 : ByteArray) (R : Value → World → Prop) (w : World) (h : numlaw_DoM.V o_0_1 o_0_2 o_0_3 o_0_4 o_0_5 o_0_6 R w) : Runs Try.prog numlaw_DoM.id #[(.agg #[(.int .i64 o_0_1), (.int .i64 o_0_2), (.int .i64 o_0_3), (.int .i64 o_0_4), (.string o_0_5), (.string o_0_6)])] w R :=
  Runs.enter (c := bodyOf Try.f37) (N := 33) Try.func37 (by kernel_rfl) (by kernel_rfl) (by kernel_rfl) (seg_T good mixed Try.func37 600 false [.code (bodyOf Try.f37)] [(0, (.agg #[(.int .i64 o_0_1), (.int .i64 o_0_2), (.int .i64 o_0_3), (.int .i64 o_0_4), (.string o_0_5), (.string o_0_6)]))] w (Eq.mp (show numlaw_DoM.V o_0_1 o_0_2 o_0_3 o_0_4 o_0_5 o_0_6 R w = seg Try.prog 37 33 Try.f37.results.toList numlaw_DoM.cuts R 600 false [.code (bodyOf Try.f37)] [(0, (.agg #[(.int .i64 o_0_1), (.int .i64 o_0_2), (.int .i64 o_0_3), (.int .i64 o_0_4), (.string o_0_5), (.string o_0_6)]))] w by kernel_rfl) h))

/-! e2e/num.Apply -/
def num_Apply.cuts : List (Nat × List Nat) := [(4, [0, 1, 2, 10])]
def num_Apply.L1 (op_0 : Int) (a_1 : Int) (b_2 : Int) (t_10 : Bool) (R : Value → World → Prop) (w : World) : Prop :=
  T Try.prog 38 103 [.code (sub (bodyOf Try.f38) [1, 0, 0, 1]), .inBlock 0, .code (sub (bodyOf Try.f38) [1, 1])] [(0, (.int .i64 op_0)), (1, (.int .u64 a_1)), (2, (.int .u64 b_2)), (10, (.bool t_10))] w R
def num_Apply.V1 (op_0 : Int) (a_1 : Int) (b_2 : Int) (t_10 : Bool) (R : Value → World → Prop) (w : World) : Prop :=
  (cond t_10
  (R (.tuple #[(.int .u64 0), (.int .i64 35)]) w)
  (cond (decide (op_0 ≤ (79 : Int)))
  (Runs Try.prog num_rel32.id #[(.int .i64 op_0), (.int .u32 (IntKind.wrap .u32 a_1)), (.int .u32 (IntKind.wrap .u32 b_2))] w fun r1 w2 => (∃ x3 : Bool, (r1 = (.bool x3) ∧ (Runs Try.prog num_flag.id #[(.bool x3)] w2 fun r4 w5 => (∃ x6 : Int, (r4 = (.int .u64 x6) ∧ (R (.tuple #[(.int .u64 x6), (.int .i64 0)]) w5)))))))
  (cond (decide (op_0 ≤ (90 : Int)))
  (Runs Try.prog num_rel64.id #[(.int .i64 op_0), (.int .u64 a_1), (.int .u64 b_2)] w fun r7 w8 => (∃ x9 : Bool, (r7 = (.bool x9) ∧ (Runs Try.prog num_flag.id #[(.bool x9)] w8 fun r10 w11 => (∃ x12 : Int, (r10 = (.int .u64 x12) ∧ (R (.tuple #[(.int .u64 x12), (.int .i64 0)]) w11)))))))
  (cond (decide (op_0 ≤ (96 : Int)))
  (∃ x14 : Nat, ∃ w13, Sem.run Try.prog (Go.callFunc math_Float32frombits.id #[(.int .u32 (IntKind.wrap .u32 a_1))]) w = .ok (.value (.float .f32 x14)) w13 ∧ (∃ x16 : Nat, ∃ w15, Sem.run Try.prog (Go.callFunc math_Float32frombits.id #[(.int .u32 (IntKind.wrap .u32 b_2))]) w13 = .ok (.value (.float .f32 x16)) w15 ∧ (Runs Try.prog num_relF32.id #[(.int .i64 op_0), (.float .f32 x14), (.float .f32 x16)] w15 fun r17 w18 => (∃ x19 : Bool, (r17 = (.bool x19) ∧ (Runs Try.prog num_flag.id #[(.bool x19)] w18 fun r20 w21 => (∃ x22 : Int, (r20 = (.int .u64 x22) ∧ (R (.tuple #[(.int .u64 x22), (.int .i64 0)]) w21)))))))))
  (cond (decide (op_0 ≤ (102 : Int)))
  (∃ x24 : Nat, ∃ w23, Sem.run Try.prog (Go.callFunc math_Float64frombits.id #[(.int .u64 a_1)]) w = .ok (.value (.float .f64 x24)) w23 ∧ (∃ x26 : Nat, ∃ w25, Sem.run Try.prog (Go.callFunc math_Float64frombits.id #[(.int .u64 b_2)]) w23 = .ok (.value (.float .f64 x26)) w25 ∧ (Runs Try.prog num_relF64.id #[(.int .i64 op_0), (.float .f64 x24), (.float .f64 x26)] w25 fun r27 w28 => (∃ x29 : Bool, (r27 = (.bool x29) ∧ (Runs Try.prog num_flag.id #[(.bool x29)] w28 fun r30 w31 => (∃ x32 : Int, (r30 = (.int .u64 x32) ∧ (R (.tuple #[(.int .u64 x32), (.int .i64 0)]) w31)))))))))
  (cond (decide (op_0 ≤ (120 : Int)))
  (Runs Try.prog num_int32s.id #[(.int .i64 op_0), (.int .u32 (IntKind.wrap .u32 a_1)), (.int .u32 (IntKind.wrap .u32 b_2))] w fun r33 w34 => (∃ x35 : Int, ∃ x36 : Int, (r33 = (.tuple #[(.int .u32 x35), (.int .i64 x36)]) ∧ (R (.tuple #[(.int .u64 (IntKind.wrap .u64 x35)), (.int .i64 x36)]) w34))))
  (cond (decide (op_0 ≤ (138 : Int)))
  (Runs Try.prog num_int64s.id #[(.int .i64 op_0), (.int .u64 a_1), (.int .u64 b_2)] w fun r37 w38 => (∃ x39 : Int, ∃ x40 : Int, (r37 = (.tuple #[(.int .u64 x39), (.int .i64 x40)]) ∧ (R (.tuple #[(.int .u64 x39), (.int .i64 x40)]) w38))))
  (cond (decide (op_0 ≤ (152 : Int)))
  (Runs Try.prog num_float32s.id #[(.int .i64 op_0), (.int .u32 (IntKind.wrap .u32 a_1)), (.int .u32 (IntKind.wrap .u32 b_2))] w fun r41 w42 => (∃ x43 : Int, (r41 = (.int .u32 x43) ∧ (R (.tuple #[(.int .u64 (IntKind.wrap .u64 x43)), (.int .i64 0)]) w42))))
  (cond (decide (op_0 ≤ (166 : Int)))
  (Runs Try.prog num_float64s.id #[(.int .i64 op_0), (.int .u64 a_1), (.int .u64 b_2)] w fun r44 w45 => (∃ x46 : Int, (r44 = (.int .u64 x46) ∧ (R (.tuple #[(.int .u64 x46), (.int .i64 0)]) w45))))
  (Runs Try.prog num_conv.id #[(.int .i64 op_0), (.int .u64 a_1)] w fun r47 w48 => (∃ x49 : Int, ∃ x50 : Int, (r47 = (.tuple #[(.int .u64 x49), (.int .i64 x50)]) ∧ (R (.tuple #[(.int .u64 x49), (.int .i64 x50)]) w48)))))))))))))
theorem num_Apply.step1 (op_0 : Int) (a_1 : Int) (b_2 : Int) (t_10 : Bool) (R : Value → World → Prop) (w : World) (h : num_Apply.V1 op_0 a_1 b_2 t_10 R w) : num_Apply.L1 op_0 a_1 b_2 t_10 R w :=
  seg_T good mixed Try.func38 600 false [.code (sub (bodyOf Try.f38) [1, 0, 0, 1]), .inBlock 0, .code (sub (bodyOf Try.f38) [1, 1])] [(0, (.int .i64 op_0)), (1, (.int .u64 a_1)), (2, (.int .u64 b_2)), (10, (.bool t_10))] w (Eq.mp (show num_Apply.V1 op_0 a_1 b_2 t_10 R w = seg Try.prog 38 103 Try.f38.results.toList num_Apply.cuts R 600 false [.code (sub (bodyOf Try.f38) [1, 0, 0, 1]), .inBlock 0, .code (sub (bodyOf Try.f38) [1, 1])] [(0, (.int .i64 op_0)), (1, (.int .u64 a_1)), (2, (.int .u64 b_2)), (10, (.bool t_10))] w by kernel_rfl) h)
def num_Apply.V (op_0 : Int) (a_1 : Int) (b_2 : Int) (R : Value → World → Prop) (w : World) : Prop :=
  (cond (decide (op_0 < (69 : Int)))
  (num_Apply.L1 op_0 a_1 b_2 true R w)
  (num_Apply.L1 op_0 a_1 b_2 (decide (op_0 > (191 : Int))) R w))
theorem num_Apply.enter (op_0 : Int) (a_1 : Int) (b_2 : Int) (R : Value → World → Prop) (w : World) (h : num_Apply.V op_0 a_1 b_2 R w) : Runs Try.prog num_Apply.id #[(.int .i64 op_0), (.int .u64 a_1), (.int .u64 b_2)] w R :=
  Runs.enter (c := bodyOf Try.f38) (N := 103) Try.func38 (by kernel_rfl) (by kernel_rfl) (by kernel_rfl) (seg_T good mixed Try.func38 600 false [.code (bodyOf Try.f38)] [(0, (.int .i64 op_0)), (1, (.int .u64 a_1)), (2, (.int .u64 b_2))] w (Eq.mp (show num_Apply.V op_0 a_1 b_2 R w = seg Try.prog 38 103 Try.f38.results.toList num_Apply.cuts R 600 false [.code (bodyOf Try.f38)] [(0, (.int .i64 op_0)), (1, (.int .u64 a_1)), (2, (.int .u64 b_2))] w by kernel_rfl) h))

/-! e2e/numlaw.KeptWord -/
def numlaw_KeptWord.cuts : List (Nat × List Nat) := [(18, [0, 1, 2, 3, 4, 11]), (32, [0, 1, 2, 3, 11, 17, 18, 19, 20, 21]), (36, [0, 1, 3]), (41, [0, 1, 3, 22, 23])]
def numlaw_KeptWord.L1 (w_0 : Int) (bin_1 : Int) (m_2 : Int) (a_3 : Int) (b_4 : Int) (c_11 : Int) (R : Value → World → Prop) (w : World) : Prop :=
  T Try.prog 40 172 [.code (sub (bodyOf Try.f40) [1, 1, 1, 1, 1, 1, 1, 1])] [(0, (.int .u64 w_0)), (1, (.int .i64 bin_1)), (2, (.int .u64 m_2)), (3, (.int .u64 a_3)), (4, (.int .u64 b_4)), (11, (.int .u64 c_11))] w R
def numlaw_KeptWord.L2 (w_0 : Int) (bin_1 : Int) (m_2 : Int) (a_3 : Int) (c_11 : Int) (shl_17 : Int) (shs_18 : Int) (shu_19 : Int) (rol_20 : Int) (fill_21 : Int) (R : Value → World → Prop) (w : World) : Prop :=
  T Try.prog 40 172 [.code (sub (bodyOf Try.f40) [1, 1, 1, 1, 1, 1, 1, 1, 1, 1, 1, 1, 1, 1])] [(0, (.int .u64 w_0)), (1, (.int .i64 bin_1)), (2, (.int .u64 m_2)), (3, (.int .u64 a_3)), (11, (.int .u64 c_11)), (17, (.int .u64 shl_17)), (18, (.int .u64 shs_18)), (19, (.int .u64 shu_19)), (20, (.int .u64 rol_20)), (21, (.int .u64 fill_21))] w R
def numlaw_KeptWord.L3 (w_0 : Int) (bin_1 : Int) (a_3 : Int) (R : Value → World → Prop) (w : World) : Prop :=
  T Try.prog 40 172 [.code (sub (bodyOf Try.f40) [1, 1, 1, 1, 1, 1, 1, 1, 1, 1, 1, 1, 1, 1, 1])] [(0, (.int .u64 w_0)), (1, (.int .i64 bin_1)), (3, (.int .u64 a_3))] w R
def numlaw_KeptWord.L4 (w_0 : Int) (bin_1 : Int) (a_3 : Int) (ones_22 : Int) (i_23 : Int) (R : Value → World → Prop) (w : World) : Prop :=
  T Try.prog 40 172 [.inLoop (sub (bodyOf Try.f40) [1, 1, 1, 1, 1, 1, 1, 1, 1, 1, 1, 1, 1, 1, 1, 1, 0, 1, 0, 0]), .inBlock 0, .code (sub (bodyOf Try.f40) [1, 1, 1, 1, 1, 1, 1, 1, 1, 1, 1, 1, 1, 1, 1, 1, 1])] [(0, (.int .u64 w_0)), (1, (.int .i64 bin_1)), (3, (.int .u64 a_3)), (22, (.int .u64 ones_22)), (23, (.int .u64 i_23))] w R
def numlaw_KeptWord.V1 (w_0 : Int) (bin_1 : Int) (m_2 : Int) (a_3 : Int) (b_4 : Int) (c_11 : Int) (R : Value → World → Prop) (w : World) : Prop :=
  (Runs Try.prog numlaw_ap.id #[(.int .i64 (IntKind.wrap .i64 (bin_1 + (10 : Int)))), (.int .u64 a_3), (.int .u64 b_4)] w fun r1 w2 => (∃ x3 : Int, (r1 = (.int .u64 x3) ∧ (Runs Try.prog numlaw_ap.id #[(.int .i64 (IntKind.wrap .i64 (bin_1 + (11 : Int)))), (.int .u64 a_3), (.int .u64 b_4)] w2 fun r4 w5 => (∃ x6 : Int, (r4 = (.int .u64 x6) ∧ (Runs Try.prog numlaw_ap.id #[(.int .i64 (IntKind.wrap .i64 (bin_1 + (12 : Int)))), (.int .u64 a_3), (.int .u64 b_4)] w5 fun r7 w8 => (∃ x9 : Int, (r7 = (.int .u64 x9) ∧ (Runs Try.prog numlaw_ap.id #[(.int .i64 (IntKind.wrap .i64 (bin_1 + (13 : Int)))), (.int .u64 a_3), (.int .u64 b_4)] w8 fun r10 w11 => (∃ x12 : Int, (r10 = (.int .u64 x12) ∧ (cond (decide (a_3 > (Int.fdiv m_2 (2 ^ (1 : Nat)))))
  (0 ≤ c_11 ∧ (numlaw_KeptWord.L2 w_0 bin_1 m_2 a_3 c_11 x3 x6 x9 x12 (bAndNot .u64 m_2 (Int.fdiv m_2 (2 ^ (min (Int.toNat c_11) (IntKind.bits .u64))))) R w11))
  (numlaw_KeptWord.L2 w_0 bin_1 m_2 a_3 c_11 x3 x6 x9 x12 0 R w11))))))))))))))
theorem numlaw_KeptWord.step1 (w_0 : Int) (bin_1 : Int) (m_2 : Int) (a_3 : Int) (b_4 : Int) (c_11 : Int) (R : Value → World → Prop) (w : World) (h : numlaw_KeptWord.V1 w_0 bin_1 m_2 a_3 b_4 c_11 R w) : numlaw_KeptWord.L1 w_0 bin_1 m_2 a_3 b_4 c_11 R w :=
  seg_T good mixed Try.func40 600 false [.code (sub (bodyOf Try.f40) [1, 1, 1, 1, 1, 1, 1, 1])] [(0, (.int .u64 w_0)), (1, (.int .i64 bin_1)), (2, (.int .u64 m_2)), (3, (.int .u64 a_3)), (4, (.int .u64 b_4)), (11, (.int .u64 c_11))] w (Eq.mp (show numlaw_KeptWord.V1 w_0 bin_1 m_2 a_3 b_4 c_11 R w = seg Try.prog 40 172 Try.f40.results.toList numlaw_KeptWord.cuts R 600 false [.code (sub (bodyOf Try.f40) [1, 1, 1, 1, 1, 1, 1, 1])] [(0, (.int .u64 w_0)), (1, (.int .i64 bin_1)), (2, (.int .u64 m_2)), (3, (.int .u64 a_3)), (4, (.int .u64 b_4)), (11, (.int .u64 c_11))] w by kernel_rfl) h)
def numlaw_KeptWord.V2 (w_0 : Int) (bin_1 : Int) (m_2 : Int) (a_3 : Int) (c_11 : Int) (shl_17 : Int) (shs_18 : Int) (shu_19 : Int) (rol_20 : Int) (fill_21 : Int) (R : Value → World → Prop) (w : World) : Prop :=
  (0 ≤ c_11 ∧ (cond (shl_17 != (bAnd .u64 (IntKind.wrap .u64 (a_3 * 2 ^ (min (Int.toNat c_11) (IntKind.bits .u64)))) m_2))
  (R (.bool false) w)
  (0 ≤ c_11 ∧ (cond (shs_18 != (bOr .u64 (Int.fdiv a_3 (2 ^ (min (Int.toNat c_11) (IntKind.bits .u64)))) fill_21))
  (R (.bool false) w)
  (0 ≤ c_11 ∧ (cond (shu_19 != (Int.fdiv a_3 (2 ^ (min (Int.toNat c_11) (IntKind.bits .u64)))))
  (R (.bool false) w)
  (0 ≤ c_11 ∧ (0 ≤ (IntKind.wrap .u64 (w_0 - c_11)) ∧ (cond (rol_20 != (bAnd .u64 (bOr .u64 (IntKind.wrap .u64 (a_3 * 2 ^ (min (Int.toNat c_11) (IntKind.bits .u64)))) (Int.fdiv a_3 (2 ^ (min (Int.toNat (IntKind.wrap .u64 (w_0 - c_11))) (IntKind.bits .u64))))) m_2))
  (R (.bool false) w)
  (numlaw_KeptWord.L3 w_0 bin_1 a_3 R w))))))))))
theorem numlaw_KeptWord.step2 (w_0 : Int) (bin_1 : Int) (m_2 : Int) (a_3 : Int) (c_11 : Int) (shl_17 : Int) (shs_18 : Int) (shu_19 : Int) (rol_20 : Int) (fill_21 : Int) (R : Value → World → Prop) (w : World) (h : numlaw_KeptWord.V2 w_0 bin_1 m_2 a_3 c_11 shl_17 shs_18 shu_19 rol_20 fill_21 R w) : numlaw_KeptWord.L2 w_0 bin_1 m_2 a_3 c_11 shl_17 shs_18 shu_19 rol_20 fill_21 R w :=
  seg_T good mixed Try.func40 600 false [.code (sub (bodyOf Try.f40) [1, 1, 1, 1, 1, 1, 1, 1, 1, 1, 1, 1, 1, 1])] [(0, (.int .u64 w_0)), (1, (.int .i64 bin_1)), (2, (.int .u64 m_2)), (3, (.int .u64 a_3)), (11, (.int .u64 c_11)), (17, (.int .u64 shl_17)), (18, (.int .u64 shs_18)), (19, (.int .u64 shu_19)), (20, (.int .u64 rol_20)), (21, (.int .u64 fill_21))] w (Eq.mp (show numlaw_KeptWord.V2 w_0 bin_1 m_2 a_3 c_11 shl_17 shs_18 shu_19 rol_20 fill_21 R w = seg Try.prog 40 172 Try.f40.results.toList numlaw_KeptWord.cuts R 600 false [.code (sub (bodyOf Try.f40) [1, 1, 1, 1, 1, 1, 1, 1, 1, 1, 1, 1, 1, 1])] [(0, (.int .u64 w_0)), (1, (.int .i64 bin_1)), (2, (.int .u64 m_2)), (3, (.int .u64 a_3)), (11, (.int .u64 c_11)), (17, (.int .u64 shl_17)), (18, (.int .u64 shs_18)), (19, (.int .u64 shu_19)), (20, (.int .u64 rol_20)), (21, (.int .u64 fill_21))] w by kernel_rfl) h)
def numlaw_KeptWord.V3 (w_0 : Int) (bin_1 : Int) (a_3 : Int) (R : Value → World → Prop) (w : World) : Prop :=
  (numlaw_KeptWord.L4 w_0 bin_1 a_3 0 0 R w)
theorem numlaw_KeptWord.step3 (w_0 : Int) (bin_1 : Int) (a_3 : Int) (R : Value → World → Prop) (w : World) (h : numlaw_KeptWord.V3 w_0 bin_1 a_3 R w) : numlaw_KeptWord.L3 w_0 bin_1 a_3 R w :=
  seg_T good mixed Try.func40 600 false [.code (sub (bodyOf Try.f40) [1, 1, 1, 1, 1, 1, 1, 1, 1, 1, 1, 1, 1, 1, 1])] [(0, (.int .u64 w_0)), (1, (.int .i64 bin_1)), (3, (.int .u64 a_3))] w (Eq.mp (show numlaw_KeptWord.V3 w_0 bin_1 a_3 R w = seg Try.prog 40 172 Try.f40.results.toList numlaw_KeptWord.cuts R 600 false [.code (sub (bodyOf Try.f40) [1, 1, 1, 1, 1, 1, 1, 1, 1, 1, 1, 1, 1, 1, 1])] [(0, (.int .u64 w_0)), (1, (.int .i64 bin_1)), (3, (.int .u64 a_3))] w by kernel_rfl) h)
def numlaw_KeptWord.V4 (w_0 : Int) (bin_1 : Int) (a_3 : Int) (ones_22 : Int) (i_23 : Int) (R : Value → World → Prop) (w : World) : Prop :=
  (cond (decide (i_23 < w_0))
  (0 ≤ i_23 ∧ (numlaw_KeptWord.L4 w_0 bin_1 a_3 (IntKind.wrap .u64 (ones_22 + (bAnd .u64 (Int.fdiv a_3 (2 ^ (min (Int.toNat i_23) (IntKind.bits .u64)))) 1))) (IntKind.wrap .u64 (i_23 + (1 : Int))) R w))
  (Runs Try.prog numlaw_ap.id #[(.int .i64 (IntKind.wrap .i64 (bin_1 - (1 : Int)))), (.int .u64 a_3), (.int .u64 0)] w fun r1 w2 => (∃ x3 : Int, (r1 = (.int .u64 x3) ∧ (R (.bool (x3 == ones_22)) w2)))))
theorem numlaw_KeptWord.step4 (w_0 : Int) (bin_1 : Int) (a_3 : Int) (ones_22 : Int) (i_23 : Int) (R : Value → World → Prop) (w : World) (h : numlaw_KeptWord.V4 w_0 bin_1 a_3 ones_22 i_23 R w) : numlaw_KeptWord.L4 w_0 bin_1 a_3 ones_22 i_23 R w :=
  seg_T good mixed Try.func40 600 false [.inLoop (sub (bodyOf Try.f40) [1, 1, 1, 1, 1, 1, 1, 1, 1, 1, 1, 1, 1, 1, 1, 1, 0, 1, 0, 0]), .inBlock 0, .code (sub (bodyOf Try.f40) [1, 1, 1, 1, 1, 1, 1, 1, 1, 1, 1, 1, 1, 1, 1, 1, 1])] [(0, (.int .u64 w_0)), (1, (.int .i64 bin_1)), (3, (.int .u64 a_3)), (22, (.int .u64 ones_22)), (23, (.int .u64 i_23))] w (Eq.mp (show numlaw_KeptWord.V4 w_0 bin_1 a_3 ones_22 i_23 R w = seg Try.prog 40 172 Try.f40.results.toList numlaw_KeptWord.cuts R 600 false [.inLoop (sub (bodyOf Try.f40) [1, 1, 1, 1, 1, 1, 1, 1, 1, 1, 1, 1, 1, 1, 1, 1, 0, 1, 0, 0]), .inBlock 0, .code (sub (bodyOf Try.f40) [1, 1, 1, 1, 1, 1, 1, 1, 1, 1, 1, 1, 1, 1, 1, 1, 1])] [(0, (.int .u64 w_0)), (1, (.int .i64 bin_1)), (3, (.int .u64 a_3)), (22, (.int .u64 ones_22)), (23, (.int .u64 i_23))] w by kernel_rfl) h)
def numlaw_KeptWord.V (w_0 : Int) (bin_1 : Int) (m_2 : Int) (a_3 : Int) (b_4 : Int) (R : Value → World → Prop) (w : World) : Prop :=
  ((IntKind.u64 = IntKind.u64) ∧ w_0 ≠ 0 ∧ (Runs Try.prog numlaw_ap.id #[(.int .i64 bin_1), (.int .u64 a_3), (.int .u64 b_4)] w fun r6 w7 => (∃ x8 : Int, (r6 = (.int .u64 x8) ∧ (Runs Try.prog numlaw_ap.id #[(.int .i64 (IntKind.wrap .i64 (bin_1 + (2 : Int)))), (.int .u64 a_3), (.int .u64 b_4)] w7 fun r9 w10 => (∃ x11 : Int, (r9 = (.int .u64 x11) ∧ (Runs Try.prog numlaw_ap.id #[(.int .i64 (IntKind.wrap .i64 (bin_1 + (7 : Int)))), (.int .u64 a_3), (.int .u64 b_4)] w10 fun r12 w13 => (∃ x14 : Int, (r12 = (.int .u64 x14) ∧ (Runs Try.prog numlaw_ap.id #[(.int .i64 (IntKind.wrap .i64 (bin_1 + (8 : Int)))), (.int .u64 a_3), (.int .u64 b_4)] w13 fun r15 w16 => (∃ x17 : Int, (r15 = (.int .u64 x17) ∧ (Runs Try.prog numlaw_ap.id #[(.int .i64 (IntKind.wrap .i64 (bin_1 + (9 : Int)))), (.int .u64 a_3), (.int .u64 b_4)] w16 fun r18 w19 => (∃ x20 : Int, (r18 = (.int .u64 x20) ∧ (cond (x8 != (bAnd .u64 (IntKind.wrap .u64 (a_3 + b_4)) m_2))
  (R (.bool false) w19)
  (cond (x11 != (bAnd .u64 (IntKind.wrap .u64 (a_3 * b_4)) m_2))
  (R (.bool false) w19)
  (cond (x14 != (bAnd .u64 a_3 b_4))
  (R (.bool false) w19)
  (cond (x17 != (bOr .u64 a_3 b_4))
  (R (.bool false) w19)
  (cond (x20 != (bXor .u64 a_3 b_4))
  (R (.bool false) w19)
  (numlaw_KeptWord.L1 w_0 bin_1 m_2 a_3 b_4 (Int.tmod b_4 w_0) R w19))))))))))))))))))))))
theorem numlaw_KeptWord.enter (w_0 : Int) (bin_1 : Int) (m_2 : Int) (a_3 : Int) (b_4 : Int) (R : Value → World → Prop) (w : World) (h : numlaw_KeptWord.V w_0 bin_1 m_2 a_3 b_4 R w) : Runs Try.prog numlaw_KeptWord.id #[(.int .u64 w_0), (.int .i64 bin_1), (.int .u64 m_2), (.int .u64 a_3), (.int .u64 b_4)] w R :=
  Runs.enter (c := bodyOf Try.f40) (N := 172) Try.func40 (by kernel_rfl) (by kernel_rfl) (by kernel_rfl) (seg_T good mixed Try.func40 600 false [.code (bodyOf Try.f40)] [(0, (.int .u64 w_0)), (1, (.int .i64 bin_1)), (2, (.int .u64 m_2)), (3, (.int .u64 a_3)), (4, (.int .u64 b_4))] w (Eq.mp (show numlaw_KeptWord.V w_0 bin_1 m_2 a_3 b_4 R w = seg Try.prog 40 172 Try.f40.results.toList numlaw_KeptWord.cuts R 600 false [.code (bodyOf Try.f40)] [(0, (.int .u64 w_0)), (1, (.int .i64 bin_1)), (2, (.int .u64 m_2)), (3, (.int .u64 a_3)), (4, (.int .u64 b_4))] w by kernel_rfl) h))

/-! e2e/numlaw.KeptRel -/
def numlaw_KeptRel.cuts : List (Nat × List Nat) := [(7, [0, 1, 2, 3, 9, 10]), (26, [2, 3, 9, 12, 13]), (30, [2, 3, 9, 12, 13]), (34, [2, 3, 9, 12, 13]), (38, [2, 3, 9, 13]), (42, [2, 3, 9, 13]), (46, [9, 13])]
def numlaw_KeptRel.L1 (rel_0 : Int) (m_1 : Int) (a_2 : Int) (b_3 : Int) (got_9 : Int) (k_10 : Int) (R : Value → World → Prop) (w : World) : Prop :=
  T Try.prog 41 78 [.inLoop (sub (bodyOf Try.f41) [1, 1, 0, 1, 0, 0]), .inBlock 0, .code (sub (bodyOf Try.f41) [1, 1, 1])] [(0, (.int .i64 rel_0)), (1, (.int .u64 m_1)), (2, (.int .u64 a_2)), (3, (.int .u64 b_3)), (9, (.int .u64 got_9)), (10, (.int .i64 k_10))] w R
def numlaw_KeptRel.L2 (a_2 : Int) (b_3 : Int) (got_9 : Int) (t_12 : Int) (want_13 : Int) (R : Value → World → Prop) (w : World) : Prop :=
  T Try.prog 41 78 [.code (sub (bodyOf Try.f41) [1, 1, 1, 1, 1, 1])] [(2, (.int .u64 a_2)), (3, (.int .u64 b_3)), (9, (.int .u64 got_9)), (12, (.int .u64 t_12)), (13, (.int .u64 want_13))] w R
def numlaw_KeptRel.L3 (a_2 : Int) (b_3 : Int) (got_9 : Int) (t_12 : Int) (want_13 : Int) (R : Value → World → Prop) (w : World) : Prop :=
  T Try.prog 41 78 [.code (sub (bodyOf Try.f41) [1, 1, 1, 1, 1, 1, 1])] [(2, (.int .u64 a_2)), (3, (.int .u64 b_3)), (9, (.int .u64 got_9)), (12, (.int .u64 t_12)), (13, (.int .u64 want_13))] w R
def numlaw_KeptRel.L4 (a_2 : Int) (b_3 : Int) (got_9 : Int) (t_12 : Int) (want_13 : Int) (R : Value → World → Prop) (w : World) : Prop :=
  T Try.prog 41 78 [.code (sub (bodyOf Try.f41) [1, 1, 1, 1, 1, 1, 1, 1])] [(2, (.int .u64 a_2)), (3, (.int .u64 b_3)), (9, (.int .u64 got_9)), (12, (.int .u64 t_12)), (13, (.int .u64 want_13))] w R
def numlaw_KeptRel.L5 (a_2 : Int) (b_3 : Int) (got_9 : Int) (want_13 : Int) (R : Value → World → Prop) (w : World) : Prop :=
  T Try.prog 41 78 [.code (sub (bodyOf Try.f41) [1, 1, 1, 1, 1, 1, 1, 1, 1])] [(2, (.int .u64 a_2)), (3, (.int .u64 b_3)), (9, (.int .u64 got_9)), (13, (.int .u64 want_13))] w R
def numlaw_KeptRel.L6 (a_2 : Int) (b_3 : Int) (got_9 : Int) (want_13 : Int) (R : Value → World → Prop) (w : World) : Prop :=
  T Try.prog 41 78 [.code (sub (bodyOf Try.f41) [1, 1, 1, 1, 1, 1, 1, 1, 1, 1])] [(2, (.int .u64 a_2)), (3, (.int .u64 b_3)), (9, (.int .u64 got_9)), (13, (.int .u64 want_13))] w R
def numlaw_KeptRel.L7 (got_9 : Int) (want_13 : Int) (R : Value → World → Prop) (w : World) : Prop :=
  T Try.prog 41 78 [.code (sub (bodyOf Try.f41) [1, 1, 1, 1, 1, 1, 1, 1, 1, 1, 1])] [(9, (.int .u64 got_9)), (13, (.int .u64 want_13))] w R
def numlaw_KeptRel.V1 (rel_0 : Int) (m_1 : Int) (a_2 : Int) (b_3 : Int) (got_9 : Int) (k_10 : Int) (R : Value → World → Prop) (w : World) : Prop :=
  (cond (decide (k_10 < (11 : Int)))
  (Runs Try.prog numlaw_ap.id #[(.int .i64 (IntKind.wrap .i64 ((IntKind.wrap .i64 (rel_0 - (1 : Int))) + k_10))), (.int .u64 a_2), (.int .u64 b_3)] w fun r1 w2 => (∃ x3 : Int, (r1 = (.int .u64 x3) ∧ (cond (decide (x3 > (1 : Int)))
  (R (.bool false) w2)
  (0 ≤ (IntKind.wrap .u64 k_10) ∧ (numlaw_KeptRel.L1 rel_0 m_1 a_2 b_3 (bOr .u64 got_9 (IntKind.wrap .u64 (x3 * 2 ^ (min (Int.toNat (IntKind.wrap .u64 k_10)) (IntKind.bits .u64))))) (IntKind.wrap .i64 (k_10 + (1 : Int))) R w2))))))
  (cond (a_2 == b_3)
  (numlaw_KeptRel.L2 a_2 b_3 got_9 (IntKind.wrap .u64 ((Int.fdiv m_1 (2 ^ (1 : Nat))) + (1 : Int))) 1922 R w)
  (numlaw_KeptRel.L2 a_2 b_3 got_9 (IntKind.wrap .u64 ((Int.fdiv m_1 (2 ^ (1 : Nat))) + (1 : Int))) 4 R w)))
theorem numlaw_KeptRel.step1 (rel_0 : Int) (m_1 : Int) (a_2 : Int) (b_3 : Int) (got_9 : Int) (k_10 : Int) (R : Value → World → Prop) (w : World) (h : numlaw_KeptRel.V1 rel_0 m_1 a_2 b_3 got_9 k_10 R w) : numlaw_KeptRel.L1 rel_0 m_1 a_2 b_3 got_9 k_10 R w :=
  seg_T good mixed Try.func41 600 false [.inLoop (sub (bodyOf Try.f41) [1, 1, 0, 1, 0, 0]), .inBlock 0, .code (sub (bodyOf Try.f41) [1, 1, 1])] [(0, (.int .i64 rel_0)), (1, (.int .u64 m_1)), (2, (.int .u64 a_2)), (3, (.int .u64 b_3)), (9, (.int .u64 got_9)), (10, (.int .i64 k_10))] w (Eq.mp (show numlaw_KeptRel.V1 rel_0 m_1 a_2 b_3 got_9 k_10 R w = seg Try.prog 41 78 Try.f41.results.toList numlaw_KeptRel.cuts R 600 false [.inLoop (sub (bodyOf Try.f41) [1, 1, 0, 1, 0, 0]), .inBlock 0, .code (sub (bodyOf Try.f41) [1, 1, 1])] [(0, (.int .i64 rel_0)), (1, (.int .u64 m_1)), (2, (.int .u64 a_2)), (3, (.int .u64 b_3)), (9, (.int .u64 got_9)), (10, (.int .i64 k_10))] w by kernel_rfl) h)
def numlaw_KeptRel.V2 (a_2 : Int) (b_3 : Int) (got_9 : Int) (t_12 : Int) (want_13 : Int) (R : Value → World → Prop) (w : World) : Prop :=
  (cond (a_2 == (0 : Int))
  (numlaw_KeptRel.L3 a_2 b_3 got_9 t_12 (bOr .u64 want_13 1) R w)
  (numlaw_KeptRel.L3 a_2 b_3 got_9 t_12 want_13 R w))
theorem numlaw_KeptRel.step2 (a_2 : Int) (b_3 : Int) (got_9 : Int) (t_12 : Int) (want_13 : Int) (R : Value → World → Prop) (w : World) (h : numlaw_KeptRel.V2 a_2 b_3 got_9 t_12 want_13 R w) : numlaw_KeptRel.L2 a_2 b_3 got_9 t_12 want_13 R w :=
  seg_T good mixed Try.func41 600 false [.code (sub (bodyOf Try.f41) [1, 1, 1, 1, 1, 1])] [(2, (.int .u64 a_2)), (3, (.int .u64 b_3)), (9, (.int .u64 got_9)), (12, (.int .u64 t_12)), (13, (.int .u64 want_13))] w (Eq.mp (show numlaw_KeptRel.V2 a_2 b_3 got_9 t_12 want_13 R w = seg Try.prog 41 78 Try.f41.results.toList numlaw_KeptRel.cuts R 600 false [.code (sub (bodyOf Try.f41) [1, 1, 1, 1, 1, 1])] [(2, (.int .u64 a_2)), (3, (.int .u64 b_3)), (9, (.int .u64 got_9)), (12, (.int .u64 t_12)), (13, (.int .u64 want_13))] w by kernel_rfl) h)
def numlaw_KeptRel.V3 (a_2 : Int) (b_3 : Int) (got_9 : Int) (t_12 : Int) (want_13 : Int) (R : Value → World → Prop) (w : World) : Prop :=
  (cond (decide ((bXor .u64 a_2 t_12) < (bXor .u64 b_3 t_12)))
  (numlaw_KeptRel.L4 a_2 b_3 got_9 t_12 (bOr .u64 (bOr .u64 want_13 8) 128) R w)
  (numlaw_KeptRel.L4 a_2 b_3 got_9 t_12 want_13 R w))
theorem numlaw_KeptRel.step3 (a_2 : Int) (b_3 : Int) (got_9 : Int) (t_12 : Int) (want_13 : Int) (R : Value → World → Prop) (w : World) (h : numlaw_KeptRel.V3 a_2 b_3 got_9 t_12 want_13 R w) : numlaw_KeptRel.L3 a_2 b_3 got_9 t_12 want_13 R w :=
  seg_T good mixed Try.func41 600 false [.code (sub (bodyOf Try.f41) [1, 1, 1, 1, 1, 1, 1])] [(2, (.int .u64 a_2)), (3, (.int .u64 b_3)), (9, (.int .u64 got_9)), (12, (.int .u64 t_12)), (13, (.int .u64 want_13))] w (Eq.mp (show numlaw_KeptRel.V3 a_2 b_3 got_9 t_12 want_13 R w = seg Try.prog 41 78 Try.f41.results.toList numlaw_KeptRel.cuts R 600 false [.code (sub (bodyOf Try.f41) [1, 1, 1, 1, 1, 1, 1])] [(2, (.int .u64 a_2)), (3, (.int .u64 b_3)), (9, (.int .u64 got_9)), (12, (.int .u64 t_12)), (13, (.int .u64 want_13))] w by kernel_rfl) h)
def numlaw_KeptRel.V4 (a_2 : Int) (b_3 : Int) (got_9 : Int) (t_12 : Int) (want_13 : Int) (R : Value → World → Prop) (w : World) : Prop :=
  (cond (decide ((bXor .u64 a_2 t_12) > (bXor .u64 b_3 t_12)))
  (numlaw_KeptRel.L5 a_2 b_3 got_9 (bOr .u64 (bOr .u64 want_13 32) 512) R w)
  (numlaw_KeptRel.L5 a_2 b_3 got_9 want_13 R w))
theorem numlaw_KeptRel.step4 (a_2 : Int) (b_3 : Int) (got_9 : Int) (t_12 : Int) (want_13 : Int) (R : Value → World → Prop) (w : World) (h : numlaw_KeptRel.V4 a_2 b_3 got_9 t_12 want_13 R w) : numlaw_KeptRel.L4 a_2 b_3 got_9 t_12 want_13 R w :=
  seg_T good mixed Try.func41 600 false [.code (sub (bodyOf Try.f41) [1, 1, 1, 1, 1, 1, 1, 1])] [(2, (.int .u64 a_2)), (3, (.int .u64 b_3)), (9, (.int .u64 got_9)), (12, (.int .u64 t_12)), (13, (.int .u64 want_13))] w (Eq.mp (show numlaw_KeptRel.V4 a_2 b_3 got_9 t_12 want_13 R w = seg Try.prog 41 78 Try.f41.results.toList numlaw_KeptRel.cuts R 600 false [.code (sub (bodyOf Try.f41) [1, 1, 1, 1, 1, 1, 1, 1])] [(2, (.int .u64 a_2)), (3, (.int .u64 b_3)), (9, (.int .u64 got_9)), (12, (.int .u64 t_12)), (13, (.int .u64 want_13))] w by kernel_rfl) h)
def numlaw_KeptRel.V5 (a_2 : Int) (b_3 : Int) (got_9 : Int) (want_13 : Int) (R : Value → World → Prop) (w : World) : Prop :=
  (cond (decide (a_2 < b_3))
  (numlaw_KeptRel.L6 a_2 b_3 got_9 (bOr .u64 (bOr .u64 want_13 16) 256) R w)
  (numlaw_KeptRel.L6 a_2 b_3 got_9 want_13 R w))
theorem numlaw_KeptRel.step5 (a_2 : Int) (b_3 : Int) (got_9 : Int) (want_13 : Int) (R : Value → World → Prop) (w : World) (h : numlaw_KeptRel.V5 a_2 b_3 got_9 want_13 R w) : numlaw_KeptRel.L5 a_2 b_3 got_9 want_13 R w :=
  seg_T good mixed Try.func41 600 false [.code (sub (bodyOf Try.f41) [1, 1, 1, 1, 1, 1, 1, 1, 1])] [(2, (.int .u64 a_2)), (3, (.int .u64 b_3)), (9, (.int .u64 got_9)), (13, (.int .u64 want_13))] w (Eq.mp (show numlaw_KeptRel.V5 a_2 b_3 got_9 want_13 R w = seg Try.prog 41 78 Try.f41.results.toList numlaw_KeptRel.cuts R 600 false [.code (sub (bodyOf Try.f41) [1, 1, 1, 1, 1, 1, 1, 1, 1])] [(2, (.int .u64 a_2)), (3, (.int .u64 b_3)), (9, (.int .u64 got_9)), (13, (.int .u64 want_13))] w by kernel_rfl) h)
def numlaw_KeptRel.V6 (a_2 : Int) (b_3 : Int) (got_9 : Int) (want_13 : Int) (R : Value → World → Prop) (w : World) : Prop :=
  (cond (decide (a_2 > b_3))
  (numlaw_KeptRel.L7 got_9 (bOr .u64 (bOr .u64 want_13 64) 1024) R w)
  (numlaw_KeptRel.L7 got_9 want_13 R w))
theorem numlaw_KeptRel.step6 (a_2 : Int) (b_3 : Int) (got_9 : Int) (want_13 : Int) (R : Value → World → Prop) (w : World) (h : numlaw_KeptRel.V6 a_2 b_3 got_9 want_13 R w) : numlaw_KeptRel.L6 a_2 b_3 got_9 want_13 R w :=
  seg_T good mixed Try.func41 600 false [.code (sub (bodyOf Try.f41) [1, 1, 1, 1, 1, 1, 1, 1, 1, 1])] [(2, (.int .u64 a_2)), (3, (.int .u64 b_3)), (9, (.int .u64 got_9)), (13, (.int .u64 want_13))] w (Eq.mp (show numlaw_KeptRel.V6 a_2 b_3 got_9 want_13 R w = seg Try.prog 41 78 Try.f41.results.toList numlaw_KeptRel.cuts R 600 false [.code (sub (bodyOf Try.f41) [1, 1, 1, 1, 1, 1, 1, 1, 1, 1])] [(2, (.int .u64 a_2)), (3, (.int .u64 b_3)), (9, (.int .u64 got_9)), (13, (.int .u64 want_13))] w by kernel_rfl) h)
def numlaw_KeptRel.V7 (got_9 : Int) (want_13 : Int) (R : Value → World → Prop) (w : World) : Prop :=
  (R (.bool (got_9 == want_13)) w)
theorem numlaw_KeptRel.step7 (got_9 : Int) (want_13 : Int) (R : Value → World → Prop) (w : World) (h : numlaw_KeptRel.V7 got_9 want_13 R w) : numlaw_KeptRel.L7 got_9 want_13 R w :=
  seg_T good mixed Try.func41 600 false [.code (sub (bodyOf Try.f41) [1, 1, 1, 1, 1, 1, 1, 1, 1, 1, 1])] [(9, (.int .u64 got_9)), (13, (.int .u64 want_13))] w (Eq.mp (show numlaw_KeptRel.V7 got_9 want_13 R w = seg Try.prog 41 78 Try.f41.results.toList numlaw_KeptRel.cuts R 600 false [.code (sub (bodyOf Try.f41) [1, 1, 1, 1, 1, 1, 1, 1, 1, 1, 1])] [(9, (.int .u64 got_9)), (13, (.int .u64 want_13))] w by kernel_rfl) h)
def numlaw_KeptRel.V (rel_0 : Int) (m_1 : Int) (a_2 : Int) (b_3 : Int) (R : Value → World → Prop) (w : World) : Prop :=
  (numlaw_KeptRel.L1 rel_0 m_1 a_2 b_3 0 0 R w)
theorem numlaw_KeptRel.enter (rel_0 : Int) (m_1 : Int) (a_2 : Int) (b_3 : Int) (R : Value → World → Prop) (w : World) (h : numlaw_KeptRel.V rel_0 m_1 a_2 b_3 R w) : Runs Try.prog numlaw_KeptRel.id #[(.int .i64 rel_0), (.int .u64 m_1), (.int .u64 a_2), (.int .u64 b_3)] w R :=
  Runs.enter (c := bodyOf Try.f41) (N := 78) Try.func41 (by kernel_rfl) (by kernel_rfl) (by kernel_rfl) (seg_T good mixed Try.func41 600 false [.code (bodyOf Try.f41)] [(0, (.int .i64 rel_0)), (1, (.int .u64 m_1)), (2, (.int .u64 a_2)), (3, (.int .u64 b_3))] w (Eq.mp (show numlaw_KeptRel.V rel_0 m_1 a_2 b_3 R w = seg Try.prog 41 78 Try.f41.results.toList numlaw_KeptRel.cuts R 600 false [.code (bodyOf Try.f41)] [(0, (.int .i64 rel_0)), (1, (.int .u64 m_1)), (2, (.int .u64 a_2)), (3, (.int .u64 b_3))] w by kernel_rfl) h))

/-! e2e/numlaw.KeptConv -/
def numlaw_KeptConv.cuts : List (Nat × List Nat) := [(14, [0, 3, 9, 10, 11, 12])]
def numlaw_KeptConv.L1 (base_0 : Int) (a_3 : Int) (f_9 : Nat) (g_10 : Nat) (neg_11 : Bool) (v_12 : Int) (R : Value → World → Prop) (w : World) : Prop :=
  T Try.prog 42 62 [.code (sub (bodyOf Try.f42) [1, 1, 1, 1, 1, 1])] [(0, (.int .i64 base_0)), (3, (.int .u64 a_3)), (9, (.pointer (some ⟨f_9, 0, none⟩))), (10, (.pointer (some ⟨g_10, 0, none⟩))), (11, (.bool neg_11)), (12, (.int .u64 v_12))] w R
def numlaw_KeptConv.V1 (base_0 : Int) (a_3 : Int) (f_9 : Nat) (g_10 : Nat) (neg_11 : Bool) (v_12 : Int) (R : Value → World → Prop) (w : World) : Prop :=
  (Runs Try.prog numlaw_ap.id #[(.int .i64 base_0), (.int .u64 a_3), (.int .u64 0)] w fun r1 w2 => (∃ x3 : Int, (r1 = (.int .u64 x3) ∧ (∃ x4 : Int, ∃ x5 : Int, ∃ x6 : Int, ∃ x7 : Int, ∃ x8 : Int, ∃ x9 : Int, World.cell? w2 ⟨f_9, 0, none⟩ = some (.int .i64 x4) ∧ World.cell? w2 ⟨f_9, 1, none⟩ = some (.int .i64 x5) ∧ World.cell? w2 ⟨f_9, 2, none⟩ = some (.int .i64 x6) ∧ World.cell? w2 ⟨f_9, 3, none⟩ = some (.int .u64 x7) ∧ World.cell? w2 ⟨f_9, 4, none⟩ = some (.int .u64 x8) ∧ World.cell? w2 ⟨f_9, 5, none⟩ = some (.int .u64 x9) ∧ (Runs Try.prog numlaw_Nearest.id #[(.agg #[(.int .i64 x4), (.int .i64 x5), (.int .i64 x6), (.int .u64 x7), (.int .u64 x8), (.int .u64 x9)]), (.int .i64 24), (.bool neg_11), (.int .u64 v_12), (.int .u64 x3)] w2 fun r10 w11 => (∃ x12 : Bool, (r10 = (.bool x12) ∧ (cond (!x12)
  (R (.bool false) w11)
  (Runs Try.prog numlaw_ap.id #[(.int .i64 (IntKind.wrap .i64 (base_0 + (1 : Int)))), (.int .u64 a_3), (.int .u64 0)] w11 fun r13 w14 => (∃ x15 : Int, (r13 = (.int .u64 x15) ∧ (∃ x16 : Int, ∃ x17 : Int, ∃ x18 : Int, ∃ x19 : Int, ∃ x20 : Int, ∃ x21 : Int, World.cell? w14 ⟨f_9, 0, none⟩ = some (.int .i64 x16) ∧ World.cell? w14 ⟨f_9, 1, none⟩ = some (.int .i64 x17) ∧ World.cell? w14 ⟨f_9, 2, none⟩ = some (.int .i64 x18) ∧ World.cell? w14 ⟨f_9, 3, none⟩ = some (.int .u64 x19) ∧ World.cell? w14 ⟨f_9, 4, none⟩ = some (.int .u64 x20) ∧ World.cell? w14 ⟨f_9, 5, none⟩ = some (.int .u64 x21) ∧ (Runs Try.prog numlaw_Nearest.id #[(.agg #[(.int .i64 x16), (.int .i64 x17), (.int .i64 x18), (.int .u64 x19), (.int .u64 x20), (.int .u64 x21)]), (.int .i64 24), (.bool false), (.int .u64 a_3), (.int .u64 x15)] w14 fun r22 w23 => (∃ x24 : Bool, (r22 = (.bool x24) ∧ (cond (!x24)
  (R (.bool false) w23)
  (Runs Try.prog numlaw_ap.id #[(.int .i64 (IntKind.wrap .i64 (base_0 + (5 : Int)))), (.int .u64 a_3), (.int .u64 0)] w23 fun r25 w26 => (∃ x27 : Int, (r25 = (.int .u64 x27) ∧ (∃ x28 : Int, ∃ x29 : Int, ∃ x30 : Int, ∃ x31 : Int, ∃ x32 : Int, ∃ x33 : Int, World.cell? w26 ⟨g_10, 0, none⟩ = some (.int .i64 x28) ∧ World.cell? w26 ⟨g_10, 1, none⟩ = some (.int .i64 x29) ∧ World.cell? w26 ⟨g_10, 2, none⟩ = some (.int .i64 x30) ∧ World.cell? w26 ⟨g_10, 3, none⟩ = some (.int .u64 x31) ∧ World.cell? w26 ⟨g_10, 4, none⟩ = some (.int .u64 x32) ∧ World.cell? w26 ⟨g_10, 5, none⟩ = some (.int .u64 x33) ∧ (Runs Try.prog numlaw_Nearest.id #[(.agg #[(.int .i64 x28), (.int .i64 x29), (.int .i64 x30), (.int .u64 x31), (.int .u64 x32), (.int .u64 x33)]), (.int .i64 53), (.bool neg_11), (.int .u64 v_12), (.int .u64 x27)] w26 fun r34 w35 => (∃ x36 : Bool, (r34 = (.bool x36) ∧ (cond (!x36)
  (R (.bool false) w35)
  (Runs Try.prog numlaw_ap.id #[(.int .i64 (IntKind.wrap .i64 (base_0 + (6 : Int)))), (.int .u64 a_3), (.int .u64 0)] w35 fun r37 w38 => (∃ x39 : Int, (r37 = (.int .u64 x39) ∧ (∃ x40 : Int, ∃ x41 : Int, ∃ x42 : Int, ∃ x43 : Int, ∃ x44 : Int, ∃ x45 : Int, World.cell? w38 ⟨g_10, 0, none⟩ = some (.int .i64 x40) ∧ World.cell? w38 ⟨g_10, 1, none⟩ = some (.int .i64 x41) ∧ World.cell? w38 ⟨g_10, 2, none⟩ = some (.int .i64 x42) ∧ World.cell? w38 ⟨g_10, 3, none⟩ = some (.int .u64 x43) ∧ World.cell? w38 ⟨g_10, 4, none⟩ = some (.int .u64 x44) ∧ World.cell? w38 ⟨g_10, 5, none⟩ = some (.int .u64 x45) ∧ (Runs Try.prog numlaw_Nearest.id #[(.agg #[(.int .i64 x40), (.int .i64 x41), (.int .i64 x42), (.int .u64 x43), (.int .u64 x44), (.int .u64 x45)]), (.int .i64 53), (.bool false), (.int .u64 a_3), (.int .u64 x39)] w38 fun r46 w47 => (∃ x48 : Bool, (r46 = (.bool x48) ∧ (R (.bool x48) w47))))))))))))))))))))))))))))))))
theorem numlaw_KeptConv.step1 (base_0 : Int) (a_3 : Int) (f_9 : Nat) (g_10 : Nat) (neg_11 : Bool) (v_12 : Int) (R : Value → World → Prop) (w : World) (h : numlaw_KeptConv.V1 base_0 a_3 f_9 g_10 neg_11 v_12 R w) : numlaw_KeptConv.L1 base_0 a_3 f_9 g_10 neg_11 v_12 R w :=
  seg_T good mixed Try.func42 600 false [.code (sub (bodyOf Try.f42) [1, 1, 1, 1, 1, 1])] [(0, (.int .i64 base_0)), (3, (.int .u64 a_3)), (9, (.pointer (some ⟨f_9, 0, none⟩))), (10, (.pointer (some ⟨g_10, 0, none⟩))), (11, (.bool neg_11)), (12, (.int .u64 v_12))] w (Eq.mp (show numlaw_KeptConv.V1 base_0 a_3 f_9 g_10 neg_11 v_12 R w = seg Try.prog 42 62 Try.f42.results.toList numlaw_KeptConv.cuts R 600 false [.code (sub (bodyOf Try.f42) [1, 1, 1, 1, 1, 1])] [(0, (.int .i64 base_0)), (3, (.int .u64 a_3)), (9, (.pointer (some ⟨f_9, 0, none⟩))), (10, (.pointer (some ⟨g_10, 0, none⟩))), (11, (.bool neg_11)), (12, (.int .u64 v_12))] w by kernel_rfl) h)
def numlaw_KeptConv.V (base_0 : Int) (top_1 : Int) (m_2 : Int) (a_3 : Int) (R : Value → World → Prop) (w : World) : Prop :=
  (Runs Try.prog numlaw_F32.id #[] w fun r5 w6 => (∃ x7 : Int, ∃ x8 : Int, ∃ x9 : Int, ∃ x10 : Int, ∃ x11 : Int, ∃ x12 : Int, (r5 = (.agg #[(.int .i64 x7), (.int .i64 x8), (.int .i64 x9), (.int .u64 x10), (.int .u64 x11), (.int .u64 x12)]) ∧ (letB (Array.size (World.heap w6)) fun b13 => letW (World.alloc w6 (.cells #[(.int .i64 0), (.int .i64 0), (.int .i64 0), (.int .u64 0), (.int .u64 0), (.int .u64 0)] T_numlaw_Fmt)) fun w14 => (putCells w14 ⟨b13, 0, none⟩ [(.int .i64 x7), (.int .i64 x8), (.int .i64 x9), (.int .u64 x10), (.int .u64 x11), (.int .u64 x12)] fun w15 => (Runs Try.prog numlaw_F64.id #[] w15 fun r16 w17 => (∃ x18 : Int, ∃ x19 : Int, ∃ x20 : Int, ∃ x21 : Int, ∃ x22 : Int, ∃ x23 : Int, (r16 = (.agg #[(.int .i64 x18), (.int .i64 x19), (.int .i64 x20), (.int .u64 x21), (.int .u64 x22), (.int .u64 x23)]) ∧ (letB (Array.size (World.heap w17)) fun b24 => letW (World.alloc w17 (.cells #[(.int .i64 0), (.int .i64 0), (.int .i64 0), (.int .u64 0), (.int .u64 0), (.int .u64 0)] T_numlaw_Fmt)) fun w25 => (putCells w25 ⟨b24, 0, none⟩ [(.int .i64 x18), (.int .i64 x19), (.int .i64 x20), (.int .u64 x21), (.int .u64 x22), (.int .u64 x23)] fun w26 => (cond ((bAnd .u64 a_3 top_1) != (0 : Int))
  (numlaw_KeptConv.L1 base_0 a_3 b13 b24 ((bAnd .u64 a_3 top_1) != (0 : Int)) (bAnd .u64 (IntKind.wrap .u64 (0 - a_3)) m_2) R w26)
  (numlaw_KeptConv.L1 base_0 a_3 b13 b24 ((bAnd .u64 a_3 top_1) != (0 : Int)) a_3 R w26))))))))))))
theorem numlaw_KeptConv.enter (base_0 : Int) (top_1 : Int) (m_2 : Int) (a_3 : Int) (R : Value → World → Prop) (w : World) (h : numlaw_KeptConv.V base_0 top_1 m_2 a_3 R w) : Runs Try.prog numlaw_KeptConv.id #[(.int .i64 base_0), (.int .u64 top_1), (.int .u64 m_2), (.int .u64 a_3)] w R :=
  Runs.enter (c := bodyOf Try.f42) (N := 62) Try.func42 (by kernel_rfl) (by kernel_rfl) (by kernel_rfl) (seg_T good mixed Try.func42 600 false [.code (bodyOf Try.f42)] [(0, (.int .i64 base_0)), (1, (.int .u64 top_1)), (2, (.int .u64 m_2)), (3, (.int .u64 a_3))] w (Eq.mp (show numlaw_KeptConv.V base_0 top_1 m_2 a_3 R w = seg Try.prog 42 62 Try.f42.results.toList numlaw_KeptConv.cuts R 600 false [.code (bodyOf Try.f42)] [(0, (.int .i64 base_0)), (1, (.int .u64 top_1)), (2, (.int .u64 m_2)), (3, (.int .u64 a_3))] w by kernel_rfl) h))

/-! e2e/numlaw.KeptWiden -/
def numlaw_KeptWiden.cuts : List (Nat × List Nat) := [(16, [0, 3, 4, 5, 6, 7]), (20, [0, 3])]
def numlaw_KeptWiden.L1 (a_0 : Int) (w_3 : Int) (x_4 : Int) (s_5 : Int) (u_6 : Int) (fill_7 : Int) (R : Value → World → Prop) (w : World) : Prop :=
  T Try.prog 43 64 [.code (sub (bodyOf Try.f43) [1, 1, 1, 1, 1, 1, 1])] [(0, (.int .u64 a_0)), (3, (.int .u64 w_3)), (4, (.int .u64 x_4)), (5, (.int .u64 s_5)), (6, (.int .u64 u_6)), (7, (.int .u64 fill_7))] w R
def numlaw_KeptWiden.L2 (a_0 : Int) (w_3 : Int) (R : Value → World → Prop) (w : World) : Prop :=
  T Try.prog 43 64 [.code (sub (bodyOf Try.f43) [1, 1, 1, 1, 1, 1, 1, 1])] [(0, (.int .u64 a_0)), (3, (.int .u64 w_3))] w R
def numlaw_KeptWiden.V1 (a_0 : Int) (w_3 : Int) (x_4 : Int) (s_5 : Int) (u_6 : Int) (fill_7 : Int) (R : Value → World → Prop) (w : World) : Prop :=
  (cond (x_4 != w_3)
  (R (.bool false) w)
  (cond (u_6 != w_3)
  (R (.bool false) w)
  (cond (s_5 != (bOr .u64 w_3 fill_7))
  (R (.bool false) w)
  (numlaw_KeptWiden.L2 a_0 w_3 R w))))
theorem numlaw_KeptWiden.step1 (a_0 : Int) (w_3 : Int) (x_4 : Int) (s_5 : Int) (u_6 : Int) (fill_7 : Int) (R : Value → World → Prop) (w : World) (h : numlaw_KeptWiden.V1 a_0 w_3 x_4 s_5 u_6 fill_7 R w) : numlaw_KeptWiden.L1 a_0 w_3 x_4 s_5 u_6 fill_7 R w :=
  seg_T good mixed Try.func43 600 false [.code (sub (bodyOf Try.f43) [1, 1, 1, 1, 1, 1, 1])] [(0, (.int .u64 a_0)), (3, (.int .u64 w_3)), (4, (.int .u64 x_4)), (5, (.int .u64 s_5)), (6, (.int .u64 u_6)), (7, (.int .u64 fill_7))] w (Eq.mp (show numlaw_KeptWiden.V1 a_0 w_3 x_4 s_5 u_6 fill_7 R w = seg Try.prog 43 64 Try.f43.results.toList numlaw_KeptWiden.cuts R 600 false [.code (sub (bodyOf Try.f43) [1, 1, 1, 1, 1, 1, 1])] [(0, (.int .u64 a_0)), (3, (.int .u64 w_3)), (4, (.int .u64 x_4)), (5, (.int .u64 s_5)), (6, (.int .u64 u_6)), (7, (.int .u64 fill_7))] w by kernel_rfl) h)
def numlaw_KeptWiden.V2 (a_0 : Int) (w_3 : Int) (R : Value → World → Prop) (w : World) : Prop :=
  (Runs Try.prog numlaw_ap.id #[(.int .i64 188), (.int .u64 a_0), (.int .u64 0)] w fun r1 w2 => (∃ x3 : Int, (r1 = (.int .u64 x3) ∧ (Runs Try.prog numlaw_ap.id #[(.int .i64 190), (.int .u64 a_0), (.int .u64 0)] w2 fun r4 w5 => (∃ x6 : Int, (r4 = (.int .u64 x6) ∧ (Runs Try.prog numlaw_ap.id #[(.int .i64 189), (.int .u64 a_0), (.int .u64 0)] w5 fun r7 w8 => (∃ x9 : Int, (r7 = (.int .u64 x9) ∧ (Runs Try.prog numlaw_ap.id #[(.int .i64 191), (.int .u64 a_0), (.int .u64 0)] w8 fun r10 w11 => (∃ x12 : Int, (r10 = (.int .u64 x12) ∧ (cond (x3 == w_3)
  (cond (x6 == w_3)
  (cond (x9 == a_0)
  (R (.bool (x12 == a_0)) w11)
  (R (.bool false) w11))
  (R (.bool false) w11))
  (R (.bool false) w11))))))))))))))
theorem numlaw_KeptWiden.step2 (a_0 : Int) (w_3 : Int) (R : Value → World → Prop) (w : World) (h : numlaw_KeptWiden.V2 a_0 w_3 R w) : numlaw_KeptWiden.L2 a_0 w_3 R w :=
  seg_T good mixed Try.func43 600 false [.code (sub (bodyOf Try.f43) [1, 1, 1, 1, 1, 1, 1, 1])] [(0, (.int .u64 a_0)), (3, (.int .u64 w_3))] w (Eq.mp (show numlaw_KeptWiden.V2 a_0 w_3 R w = seg Try.prog 43 64 Try.f43.results.toList numlaw_KeptWiden.cuts R 600 false [.code (sub (bodyOf Try.f43) [1, 1, 1, 1, 1, 1, 1, 1])] [(0, (.int .u64 a_0)), (3, (.int .u64 w_3))] w by kernel_rfl) h)
def numlaw_KeptWiden.V (a_0 : Int) (R : Value → World → Prop) (w : World) : Prop :=
  (Runs Try.prog numlaw_ap.id #[(.int .i64 167), (.int .u64 a_0), (.int .u64 0)] w fun r2 w3 => (∃ x4 : Int, (r2 = (.int .u64 x4) ∧ (Runs Try.prog numlaw_ap.id #[(.int .i64 172), (.int .u64 a_0), (.int .u64 0)] w3 fun r5 w6 => (∃ x7 : Int, (r5 = (.int .u64 x7) ∧ (Runs Try.prog numlaw_ap.id #[(.int .i64 173), (.int .u64 a_0), (.int .u64 0)] w6 fun r8 w9 => (∃ x10 : Int, (r8 = (.int .u64 x10) ∧ (cond ((Int.fdiv (bAndNot .u64 a_0 18446744069414584320) (2 ^ (31 : Nat))) == (1 : Int))
  (numlaw_KeptWiden.L1 a_0 (bAndNot .u64 a_0 18446744069414584320) x4 x7 x10 18446744069414584320 R w9)
  (numlaw_KeptWiden.L1 a_0 (bAndNot .u64 a_0 18446744069414584320) x4 x7 x10 0 R w9)))))))))))
theorem numlaw_KeptWiden.enter (a_0 : Int) (R : Value → World → Prop) (w : World) (h : numlaw_KeptWiden.V a_0 R w) : Runs Try.prog numlaw_KeptWiden.id #[(.int .u64 a_0)] w R :=
  Runs.enter (c := bodyOf Try.f43) (N := 64) Try.func43 (by kernel_rfl) (by kernel_rfl) (by kernel_rfl) (seg_T good mixed Try.func43 600 false [.code (bodyOf Try.f43)] [(0, (.int .u64 a_0))] w (Eq.mp (show numlaw_KeptWiden.V a_0 R w = seg Try.prog 43 64 Try.f43.results.toList numlaw_KeptWiden.cuts R 600 false [.code (bodyOf Try.f43)] [(0, (.int .u64 a_0))] w by kernel_rfl) h))

/-! e2e/numlaw.KeptPromote -/
def numlaw_KeptPromote.cuts : List (Nat × List Nat) := [(38, [6, 8, 10])]
def numlaw_KeptPromote.L1 (m_6 : Int) (n_8 : Int) (sh_10 : Int) (R : Value → World → Prop) (w : World) : Prop :=
  T Try.prog 44 94 [.code (sub (bodyOf Try.f44) [1, 1, 1, 1, 1, 1, 1, 1, 1, 1, 1, 1, 1])] [(6, (.int .u64 m_6)), (8, (.int .u64 n_8)), (10, (.int .i64 sh_10))] w R
def numlaw_KeptPromote.V1 (m_6 : Int) (n_8 : Int) (sh_10 : Int) (R : Value → World → Prop) (w : World) : Prop :=
  (0 ≤ (IntKind.wrap .u64 sh_10) ∧ (cond ((Int.fdiv n_8 (2 ^ (min (Int.toNat (IntKind.wrap .u64 sh_10)) (IntKind.bits .u64)))) == m_6)
  (0 ≤ (IntKind.wrap .u64 sh_10) ∧ (R (.bool ((bAnd .u64 n_8 (IntKind.wrap .u64 ((IntKind.wrap .u64 ((1 : Int) * 2 ^ (min (Int.toNat (IntKind.wrap .u64 sh_10)) (IntKind.bits .u64)))) - (1 : Int)))) == (0 : Int))) w))
  (R (.bool false) w)))
theorem numlaw_KeptPromote.step1 (m_6 : Int) (n_8 : Int) (sh_10 : Int) (R : Value → World → Prop) (w : World) (h : numlaw_KeptPromote.V1 m_6 n_8 sh_10 R w) : numlaw_KeptPromote.L1 m_6 n_8 sh_10 R w :=
  seg_T good mixed Try.func44 600 false [.code (sub (bodyOf Try.f44) [1, 1, 1, 1, 1, 1, 1, 1, 1, 1, 1, 1, 1])] [(6, (.int .u64 m_6)), (8, (.int .u64 n_8)), (10, (.int .i64 sh_10))] w (Eq.mp (show numlaw_KeptPromote.V1 m_6 n_8 sh_10 R w = seg Try.prog 44 94 Try.f44.results.toList numlaw_KeptPromote.cuts R 600 false [.code (sub (bodyOf Try.f44) [1, 1, 1, 1, 1, 1, 1, 1, 1, 1, 1, 1, 1])] [(6, (.int .u64 m_6)), (8, (.int .u64 n_8)), (10, (.int .i64 sh_10))] w by kernel_rfl) h)
def numlaw_KeptPromote.V (w_0 : Int) (R : Value → World → Prop) (w : World) : Prop :=
  (Runs Try.prog numlaw_F32.id #[] w fun r2 w3 => (∃ x4 : Int, ∃ x5 : Int, ∃ x6 : Int, ∃ x7 : Int, ∃ x8 : Int, ∃ x9 : Int, (r2 = (.agg #[(.int .i64 x4), (.int .i64 x5), (.int .i64 x6), (.int .u64 x7), (.int .u64 x8), (.int .u64 x9)]) ∧ (letB (Array.size (World.heap w3)) fun b10 => letW (World.alloc w3 (.cells #[(.int .i64 0), (.int .i64 0), (.int .i64 0), (.int .u64 0), (.int .u64 0), (.int .u64 0)] T_numlaw_Fmt)) fun w11 => (putCells w11 ⟨b10, 0, none⟩ [(.int .i64 x4), (.int .i64 x5), (.int .i64 x6), (.int .u64 x7), (.int .u64 x8), (.int .u64 x9)] fun w12 => (Runs Try.prog numlaw_F64.id #[] w12 fun r13 w14 => (∃ x15 : Int, ∃ x16 : Int, ∃ x17 : Int, ∃ x18 : Int, ∃ x19 : Int, ∃ x20 : Int, (r13 = (.agg #[(.int .i64 x15), (.int .i64 x16), (.int .i64 x17), (.int .u64 x18), (.int .u64 x19), (.int .u64 x20)]) ∧ (letB (Array.size (World.heap w14)) fun b21 => letW (World.alloc w14 (.cells #[(.int .i64 0), (.int .i64 0), (.int .i64 0), (.int .u64 0), (.int .u64 0), (.int .u64 0)] T_numlaw_Fmt)) fun w22 => (putCells w22 ⟨b21, 0, none⟩ [(.int .i64 x15), (.int .i64 x16), (.int .i64 x17), (.int .u64 x18), (.int .u64 x19), (.int .u64 x20)] fun w23 => (∃ x24 : Int, World.cell? w23 ⟨b10, 3, none⟩ = some (.int .u64 x24) ∧ (∃ x25 : Int, World.cell? w23 ⟨b10, 4, none⟩ = some (.int .u64 x25) ∧ (cond (decide ((bAndNot .u64 w_0 x24) > x25))
  (R (.bool true) w23)
  (Runs Try.prog numlaw_ap.id #[(.int .i64 187), (.int .u64 w_0), (.int .u64 0)] w23 fun r26 w27 => (∃ x28 : Int, (r26 = (.int .u64 x28) ∧ (cond ((Int.fdiv w_0 (2 ^ (31 : Nat))) != (Int.fdiv x28 (2 ^ (63 : Nat))))
  (R (.bool false) w27)
  (∃ x29 : Int, World.cell? w27 ⟨b10, 3, none⟩ = some (.int .u64 x29) ∧ (∃ x30 : Int, World.cell? w27 ⟨b10, 4, none⟩ = some (.int .u64 x30) ∧ (cond ((bAndNot .u64 w_0 x29) == x30)
  (∃ x31 : Int, World.cell? w27 ⟨b21, 3, none⟩ = some (.int .u64 x31) ∧ (∃ x32 : Int, World.cell? w27 ⟨b21, 4, none⟩ = some (.int .u64 x32) ∧ (R (.bool ((bAndNot .u64 x28 x31) == x32)) w27)))
  (∃ x33 : Int, World.cell? w27 ⟨b21, 3, none⟩ = some (.int .u64 x33) ∧ (∃ x34 : Int, World.cell? w27 ⟨b21, 4, none⟩ = some (.int .u64 x34) ∧ (cond (decide ((bAndNot .u64 x28 x33) ≥ x34))
  (R (.bool false) w27)
  (∃ x35 : Int, ∃ x36 : Int, ∃ x37 : Int, ∃ x38 : Int, ∃ x39 : Int, ∃ x40 : Int, World.cell? w27 ⟨b10, 0, none⟩ = some (.int .i64 x35) ∧ World.cell? w27 ⟨b10, 1, none⟩ = some (.int .i64 x36) ∧ World.cell? w27 ⟨b10, 2, none⟩ = some (.int .i64 x37) ∧ World.cell? w27 ⟨b10, 3, none⟩ = some (.int .u64 x38) ∧ World.cell? w27 ⟨b10, 4, none⟩ = some (.int .u64 x39) ∧ World.cell? w27 ⟨b10, 5, none⟩ = some (.int .u64 x40) ∧ (∃ x41 : Int, World.cell? w27 ⟨b10, 3, none⟩ = some (.int .u64 x41) ∧ (Runs Try.prog numlaw_Part.id #[(.agg #[(.int .i64 x35), (.int .i64 x36), (.int .i64 x37), (.int .u64 x38), (.int .u64 x39), (.int .u64 x40)]), (.int .i64 24), (.int .u64 (bAndNot .u64 w_0 x41))] w27 fun r42 w43 => (∃ x44 : Int, ∃ x45 : Int, (r42 = (.tuple #[(.int .u64 x44), (.int .i64 x45)]) ∧ (∃ x46 : Int, ∃ x47 : Int, ∃ x48 : Int, ∃ x49 : Int, ∃ x50 : Int, ∃ x51 : Int, World.cell? w43 ⟨b21, 0, none⟩ = some (.int .i64 x46) ∧ World.cell? w43 ⟨b21, 1, none⟩ = some (.int .i64 x47) ∧ World.cell? w43 ⟨b21, 2, none⟩ = some (.int .i64 x48) ∧ World.cell? w43 ⟨b21, 3, none⟩ = some (.int .u64 x49) ∧ World.cell? w43 ⟨b21, 4, none⟩ = some (.int .u64 x50) ∧ World.cell? w43 ⟨b21, 5, none⟩ = some (.int .u64 x51) ∧ (∃ x52 : Int, World.cell? w43 ⟨b21, 3, none⟩ = some (.int .u64 x52) ∧ (Runs Try.prog numlaw_Part.id #[(.agg #[(.int .i64 x46), (.int .i64 x47), (.int .i64 x48), (.int .u64 x49), (.int .u64 x50), (.int .u64 x51)]), (.int .i64 53), (.int .u64 (bAndNot .u64 x28 x52))] w43 fun r53 w54 => (∃ x55 : Int, ∃ x56 : Int, (r53 = (.tuple #[(.int .u64 x55), (.int .i64 x56)]) ∧ (cond (x44 == (0 : Int))
  (R (.bool (x55 == (0 : Int))) w54)
  (cond (decide ((IntKind.wrap .i64 (x45 - x56)) < (0 : Int)))
  (R (.bool false) w54)
  (cond (decide ((IntKind.wrap .i64 (x45 - x56)) > (52 : Int)))
  (R (.bool false) w54)
  (numlaw_KeptPromote.L1 x44 x55 (IntKind.wrap .i64 (x45 - x56)) R w54)))))))))))))))))))))))))))))))))))))
theorem numlaw_KeptPromote.enter (w_0 : Int) (R : Value → World → Prop) (w : World) (h : numlaw_KeptPromote.V w_0 R w) : Runs Try.prog numlaw_KeptPromote.id #[(.int .u64 w_0)] w R :=
  Runs.enter (c := bodyOf Try.f44) (N := 94) Try.func44 (by kernel_rfl) (by kernel_rfl) (by kernel_rfl) (seg_T good mixed Try.func44 600 false [.code (bodyOf Try.f44)] [(0, (.int .u64 w_0))] w (Eq.mp (show numlaw_KeptPromote.V w_0 R w = seg Try.prog 44 94 Try.f44.results.toList numlaw_KeptPromote.cuts R 600 false [.code (bodyOf Try.f44)] [(0, (.int .u64 w_0))] w by kernel_rfl) h))

/-! e2e/numlaw.KeptNaN -/
def numlaw_KeptNaN.cuts : List (Nat × List Nat) := [(9, [1, 2, 3, 4, 5, 11, 12, 13]), (12, [1, 2, 3, 4, 5, 11, 12, 13]), (18, [1, 2, 3, 5, 11]), (21, [1, 2, 3, 5, 11, 15]), (24, [1, 2, 3, 5, 11, 15]), (30, [1, 2, 3, 11])]
def numlaw_KeptNaN.L1 (re_1 : Int) (other_2 : Int) (a_3 : Int) (b_4 : Int) (f_5 : Nat) (x_11 : Bool) (y_12 : Bool) (k_13 : Int) (R : Value → World → Prop) (w : World) : Prop :=
  T Try.prog 45 76 [.inLoop (sub (bodyOf Try.f45) [1, 1, 1, 0, 1, 0, 0]), .inBlock 0, .code (sub (bodyOf Try.f45) [1, 1, 1, 1])] [(1, (.int .i64 re_1)), (2, (.int .u64 other_2)), (3, (.int .u64 a_3)), (4, (.int .u64 b_4)), (5, (.pointer (some ⟨f_5, 0, none⟩))), (11, (.bool x_11)), (12, (.bool y_12)), (13, (.int .i64 k_13))] w R
def numlaw_KeptNaN.L2 (re_1 : Int) (other_2 : Int) (a_3 : Int) (b_4 : Int) (f_5 : Nat) (x_11 : Bool) (y_12 : Bool) (k_13 : Int) (R : Value → World → Prop) (w : World) : Prop :=
  T Try.prog 45 76 [.code (sub (bodyOf Try.f45) [1, 1, 1, 0, 1, 0, 0, 1]), .inLoop (sub (bodyOf Try.f45) [1, 1, 1, 0, 1, 0, 0]), .inBlock 0, .code (sub (bodyOf Try.f45) [1, 1, 1, 1])] [(1, (.int .i64 re_1)), (2, (.int .u64 other_2)), (3, (.int .u64 a_3)), (4, (.int .u64 b_4)), (5, (.pointer (some ⟨f_5, 0, none⟩))), (11, (.bool x_11)), (12, (.bool y_12)), (13, (.int .i64 k_13))] w R
def numlaw_KeptNaN.L3 (re_1 : Int) (other_2 : Int) (a_3 : Int) (f_5 : Nat) (x_11 : Bool) (R : Value → World → Prop) (w : World) : Prop :=
  T Try.prog 45 76 [.code (sub (bodyOf Try.f45) [1, 1, 1, 1])] [(1, (.int .i64 re_1)), (2, (.int .u64 other_2)), (3, (.int .u64 a_3)), (5, (.pointer (some ⟨f_5, 0, none⟩))), (11, (.bool x_11))] w R
def numlaw_KeptNaN.L4 (re_1 : Int) (other_2 : Int) (a_3 : Int) (f_5 : Nat) (x_11 : Bool) (k_15 : Int) (R : Value → World → Prop) (w : World) : Prop :=
  T Try.prog 45 76 [.inLoop (sub (bodyOf Try.f45) [1, 1, 1, 1, 0, 1, 0, 0]), .inBlock 2, .code (sub (bodyOf Try.f45) [1, 1, 1, 1, 1])] [(1, (.int .i64 re_1)), (2, (.int .u64 other_2)), (3, (.int .u64 a_3)), (5, (.pointer (some ⟨f_5, 0, none⟩))), (11, (.bool x_11)), (15, (.int .i64 k_15))] w R
def numlaw_KeptNaN.L5 (re_1 : Int) (other_2 : Int) (a_3 : Int) (f_5 : Nat) (x_11 : Bool) (k_15 : Int) (R : Value → World → Prop) (w : World) : Prop :=
  T Try.prog 45 76 [.code (sub (bodyOf Try.f45) [1, 1, 1, 1, 0, 1, 0, 0, 1]), .inLoop (sub (bodyOf Try.f45) [1, 1, 1, 1, 0, 1, 0, 0]), .inBlock 2, .code (sub (bodyOf Try.f45) [1, 1, 1, 1, 1])] [(1, (.int .i64 re_1)), (2, (.int .u64 other_2)), (3, (.int .u64 a_3)), (5, (.pointer (some ⟨f_5, 0, none⟩))), (11, (.bool x_11)), (15, (.int .i64 k_15))] w R
def numlaw_KeptNaN.L6 (re_1 : Int) (other_2 : Int) (a_3 : Int) (x_11 : Bool) (R : Value → World → Prop) (w : World) : Prop :=
  T Try.prog 45 76 [.code (sub (bodyOf Try.f45) [1, 1, 1, 1, 1])] [(1, (.int .i64 re_1)), (2, (.int .u64 other_2)), (3, (.int .u64 a_3)), (11, (.bool x_11))] w R
def numlaw_KeptNaN.V1 (re_1 : Int) (other_2 : Int) (a_3 : Int) (b_4 : Int) (f_5 : Nat) (x_11 : Bool) (y_12 : Bool) (k_13 : Int) (R : Value → World → Prop) (w : World) : Prop :=
  (cond (decide (k_13 < (4 : Int)))
  (cond x_11
  (numlaw_KeptNaN.L2 re_1 other_2 a_3 b_4 f_5 x_11 y_12 k_13 R w)
  (cond y_12
  (numlaw_KeptNaN.L2 re_1 other_2 a_3 b_4 f_5 x_11 y_12 k_13 R w)
  (numlaw_KeptNaN.L3 re_1 other_2 a_3 f_5 x_11 R w)))
  (numlaw_KeptNaN.L3 re_1 other_2 a_3 f_5 x_11 R w))
theorem numlaw_KeptNaN.step1 (re_1 : Int) (other_2 : Int) (a_3 : Int) (b_4 : Int) (f_5 : Nat) (x_11 : Bool) (y_12 : Bool) (k_13 : Int) (R : Value → World → Prop) (w : World) (h : numlaw_KeptNaN.V1 re_1 other_2 a_3 b_4 f_5 x_11 y_12 k_13 R w) : numlaw_KeptNaN.L1 re_1 other_2 a_3 b_4 f_5 x_11 y_12 k_13 R w :=
  seg_T good mixed Try.func45 600 false [.inLoop (sub (bodyOf Try.f45) [1, 1, 1, 0, 1, 0, 0]), .inBlock 0, .code (sub (bodyOf Try.f45) [1, 1, 1, 1])] [(1, (.int .i64 re_1)), (2, (.int .u64 other_2)), (3, (.int .u64 a_3)), (4, (.int .u64 b_4)), (5, (.pointer (some ⟨f_5, 0, none⟩))), (11, (.bool x_11)), (12, (.bool y_12)), (13, (.int .i64 k_13))] w (Eq.mp (show numlaw_KeptNaN.V1 re_1 other_2 a_3 b_4 f_5 x_11 y_12 k_13 R w = seg Try.prog 45 76 Try.f45.results.toList numlaw_KeptNaN.cuts R 600 false [.inLoop (sub (bodyOf Try.f45) [1, 1, 1, 0, 1, 0, 0]), .inBlock 0, .code (sub (bodyOf Try.f45) [1, 1, 1, 1])] [(1, (.int .i64 re_1)), (2, (.int .u64 other_2)), (3, (.int .u64 a_3)), (4, (.int .u64 b_4)), (5, (.pointer (some ⟨f_5, 0, none⟩))), (11, (.bool x_11)), (12, (.bool y_12)), (13, (.int .i64 k_13))] w by kernel_rfl) h)
def numlaw_KeptNaN.V2 (re_1 : Int) (other_2 : Int) (a_3 : Int) (b_4 : Int) (f_5 : Nat) (x_11 : Bool) (y_12 : Bool) (k_13 : Int) (R : Value → World → Prop) (w : World) : Prop :=
  (∃ x1 : Int, World.cell? w ⟨f_5, 1, none⟩ = some (.int .i64 x1) ∧ (Runs Try.prog numlaw_ap.id #[(.int .i64 (IntKind.wrap .i64 (x1 + k_13))), (.int .u64 a_3), (.int .u64 b_4)] w fun r2 w3 => (∃ x4 : Int, (r2 = (.int .u64 x4) ∧ (∃ x5 : Int, World.cell? w3 ⟨f_5, 5, none⟩ = some (.int .u64 x5) ∧ (cond (x4 != x5)
  (R (.bool false) w3)
  (numlaw_KeptNaN.L1 re_1 other_2 a_3 b_4 f_5 x_11 y_12 (IntKind.wrap .i64 (k_13 + (1 : Int))) R w3)))))))
theorem numlaw_KeptNaN.step2 (re_1 : Int) (other_2 : Int) (a_3 : Int) (b_4 : Int) (f_5 : Nat) (x_11 : Bool) (y_12 : Bool) (k_13 : Int) (R : Value → World → Prop) (w : World) (h : numlaw_KeptNaN.V2 re_1 other_2 a_3 b_4 f_5 x_11 y_12 k_13 R w) : numlaw_KeptNaN.L2 re_1 other_2 a_3 b_4 f_5 x_11 y_12 k_13 R w :=
  seg_T good mixed Try.func45 600 false [.code (sub (bodyOf Try.f45) [1, 1, 1, 0, 1, 0, 0, 1]), .inLoop (sub (bodyOf Try.f45) [1, 1, 1, 0, 1, 0, 0]), .inBlock 0, .code (sub (bodyOf Try.f45) [1, 1, 1, 1])] [(1, (.int .i64 re_1)), (2, (.int .u64 other_2)), (3, (.int .u64 a_3)), (4, (.int .u64 b_4)), (5, (.pointer (some ⟨f_5, 0, none⟩))), (11, (.bool x_11)), (12, (.bool y_12)), (13, (.int .i64 k_13))] w (Eq.mp (show numlaw_KeptNaN.V2 re_1 other_2 a_3 b_4 f_5 x_11 y_12 k_13 R w = seg Try.prog 45 76 Try.f45.results.toList numlaw_KeptNaN.cuts R 600 false [.code (sub (bodyOf Try.f45) [1, 1, 1, 0, 1, 0, 0, 1]), .inLoop (sub (bodyOf Try.f45) [1, 1, 1, 0, 1, 0, 0]), .inBlock 0, .code (sub (bodyOf Try.f45) [1, 1, 1, 1])] [(1, (.int .i64 re_1)), (2, (.int .u64 other_2)), (3, (.int .u64 a_3)), (4, (.int .u64 b_4)), (5, (.pointer (some ⟨f_5, 0, none⟩))), (11, (.bool x_11)), (12, (.bool y_12)), (13, (.int .i64 k_13))] w by kernel_rfl) h)
def numlaw_KeptNaN.V3 (re_1 : Int) (other_2 : Int) (a_3 : Int) (f_5 : Nat) (x_11 : Bool) (R : Value → World → Prop) (w : World) : Prop :=
  (numlaw_KeptNaN.L4 re_1 other_2 a_3 f_5 x_11 2 R w)
theorem numlaw_KeptNaN.step3 (re_1 : Int) (other_2 : Int) (a_3 : Int) (f_5 : Nat) (x_11 : Bool) (R : Value → World → Prop) (w : World) (h : numlaw_KeptNaN.V3 re_1 other_2 a_3 f_5 x_11 R w) : numlaw_KeptNaN.L3 re_1 other_2 a_3 f_5 x_11 R w :=
  seg_T good mixed Try.func45 600 false [.code (sub (bodyOf Try.f45) [1, 1, 1, 1])] [(1, (.int .i64 re_1)), (2, (.int .u64 other_2)), (3, (.int .u64 a_3)), (5, (.pointer (some ⟨f_5, 0, none⟩))), (11, (.bool x_11))] w (Eq.mp (show numlaw_KeptNaN.V3 re_1 other_2 a_3 f_5 x_11 R w = seg Try.prog 45 76 Try.f45.results.toList numlaw_KeptNaN.cuts R 600 false [.code (sub (bodyOf Try.f45) [1, 1, 1, 1])] [(1, (.int .i64 re_1)), (2, (.int .u64 other_2)), (3, (.int .u64 a_3)), (5, (.pointer (some ⟨f_5, 0, none⟩))), (11, (.bool x_11))] w by kernel_rfl) h)
def numlaw_KeptNaN.V4 (re_1 : Int) (other_2 : Int) (a_3 : Int) (f_5 : Nat) (x_11 : Bool) (k_15 : Int) (R : Value → World → Prop) (w : World) : Prop :=
  (cond (decide (k_15 < (7 : Int)))
  (cond x_11
  (numlaw_KeptNaN.L5 re_1 other_2 a_3 f_5 x_11 k_15 R w)
  (numlaw_KeptNaN.L6 re_1 other_2 a_3 x_11 R w))
  (numlaw_KeptNaN.L6 re_1 other_2 a_3 x_11 R w))
theorem numlaw_KeptNaN.step4 (re_1 : Int) (other_2 : Int) (a_3 : Int) (f_5 : Nat) (x_11 : Bool) (k_15 : Int) (R : Value → World → Prop) (w : World) (h : numlaw_KeptNaN.V4 re_1 other_2 a_3 f_5 x_11 k_15 R w) : numlaw_KeptNaN.L4 re_1 other_2 a_3 f_5 x_11 k_15 R w :=
  seg_T good mixed Try.func45 600 false [.inLoop (sub (bodyOf Try.f45) [1, 1, 1, 1, 0, 1, 0, 0]), .inBlock 2, .code (sub (bodyOf Try.f45) [1, 1, 1, 1, 1])] [(1, (.int .i64 re_1)), (2, (.int .u64 other_2)), (3, (.int .u64 a_3)), (5, (.pointer (some ⟨f_5, 0, none⟩))), (11, (.bool x_11)), (15, (.int .i64 k_15))] w (Eq.mp (show numlaw_KeptNaN.V4 re_1 other_2 a_3 f_5 x_11 k_15 R w = seg Try.prog 45 76 Try.f45.results.toList numlaw_KeptNaN.cuts R 600 false [.inLoop (sub (bodyOf Try.f45) [1, 1, 1, 1, 0, 1, 0, 0]), .inBlock 2, .code (sub (bodyOf Try.f45) [1, 1, 1, 1, 1])] [(1, (.int .i64 re_1)), (2, (.int .u64 other_2)), (3, (.int .u64 a_3)), (5, (.pointer (some ⟨f_5, 0, none⟩))), (11, (.bool x_11)), (15, (.int .i64 k_15))] w by kernel_rfl) h)
def numlaw_KeptNaN.V5 (re_1 : Int) (other_2 : Int) (a_3 : Int) (f_5 : Nat) (x_11 : Bool) (k_15 : Int) (R : Value → World → Prop) (w : World) : Prop :=
  (∃ x1 : Int, World.cell? w ⟨f_5, 0, none⟩ = some (.int .i64 x1) ∧ (Runs Try.prog numlaw_ap.id #[(.int .i64 (IntKind.wrap .i64 (x1 + k_15))), (.int .u64 a_3), (.int .u64 0)] w fun r2 w3 => (∃ x4 : Int, (r2 = (.int .u64 x4) ∧ (∃ x5 : Int, World.cell? w3 ⟨f_5, 5, none⟩ = some (.int .u64 x5) ∧ (cond (x4 != x5)
  (R (.bool false) w3)
  (numlaw_KeptNaN.L4 re_1 other_2 a_3 f_5 x_11 (IntKind.wrap .i64 (k_15 + (1 : Int))) R w3)))))))
theorem numlaw_KeptNaN.step5 (re_1 : Int) (other_2 : Int) (a_3 : Int) (f_5 : Nat) (x_11 : Bool) (k_15 : Int) (R : Value → World → Prop) (w : World) (h : numlaw_KeptNaN.V5 re_1 other_2 a_3 f_5 x_11 k_15 R w) : numlaw_KeptNaN.L5 re_1 other_2 a_3 f_5 x_11 k_15 R w :=
  seg_T good mixed Try.func45 600 false [.code (sub (bodyOf Try.f45) [1, 1, 1, 1, 0, 1, 0, 0, 1]), .inLoop (sub (bodyOf Try.f45) [1, 1, 1, 1, 0, 1, 0, 0]), .inBlock 2, .code (sub (bodyOf Try.f45) [1, 1, 1, 1, 1])] [(1, (.int .i64 re_1)), (2, (.int .u64 other_2)), (3, (.int .u64 a_3)), (5, (.pointer (some ⟨f_5, 0, none⟩))), (11, (.bool x_11)), (15, (.int .i64 k_15))] w (Eq.mp (show numlaw_KeptNaN.V5 re_1 other_2 a_3 f_5 x_11 k_15 R w = seg Try.prog 45 76 Try.f45.results.toList numlaw_KeptNaN.cuts R 600 false [.code (sub (bodyOf Try.f45) [1, 1, 1, 1, 0, 1, 0, 0, 1]), .inLoop (sub (bodyOf Try.f45) [1, 1, 1, 1, 0, 1, 0, 0]), .inBlock 2, .code (sub (bodyOf Try.f45) [1, 1, 1, 1, 1])] [(1, (.int .i64 re_1)), (2, (.int .u64 other_2)), (3, (.int .u64 a_3)), (5, (.pointer (some ⟨f_5, 0, none⟩))), (11, (.bool x_11)), (15, (.int .i64 k_15))] w by kernel_rfl) h)
def numlaw_KeptNaN.V6 (re_1 : Int) (other_2 : Int) (a_3 : Int) (x_11 : Bool) (R : Value → World → Prop) (w : World) : Prop :=
  (cond (!x_11)
  (R (.bool true) w)
  (Runs Try.prog numlaw_ap.id #[(.int .i64 re_1), (.int .u64 a_3), (.int .u64 0)] w fun r1 w2 => (∃ x3 : Int, (r1 = (.int .u64 x3) ∧ (R (.bool (x3 == other_2)) w2)))))
theorem numlaw_KeptNaN.step6 (re_1 : Int) (other_2 : Int) (a_3 : Int) (x_11 : Bool) (R : Value → World → Prop) (w : World) (h : numlaw_KeptNaN.V6 re_1 other_2 a_3 x_11 R w) : numlaw_KeptNaN.L6 re_1 other_2 a_3 x_11 R w :=
  seg_T good mixed Try.func45 600 false [.code (sub (bodyOf Try.f45) [1, 1, 1, 1, 1])] [(1, (.int .i64 re_1)), (2, (.int .u64 other_2)), (3, (.int .u64 a_3)), (11, (.bool x_11))] w (Eq.mp (show numlaw_KeptNaN.V6 re_1 other_2 a_3 x_11 R w = seg Try.prog 45 76 Try.f45.results.toList numlaw_KeptNaN.cuts R 600 false [.code (sub (bodyOf Try.f45) [1, 1, 1, 1, 1])] [(1, (.int .i64 re_1)), (2, (.int .u64 other_2)), (3, (.int .u64 a_3)), (11, (.bool x_11))] w by kernel_rfl) h)
def numlaw_KeptNaN.V (f_0_1 : Int) (f_0_2 : Int) (f_0_3 : Int) (f_0_4 : Int) (f_0_5 : Int) (f_0_6 : Int) (re_1 : Int) (other_2 : Int) (a_3 : Int) (b_4 : Int) (R : Value → World → Prop) (w : World) : Prop :=
  (letB (Array.size (World.heap w)) fun b11 => letW (World.alloc w (.cells #[(.int .i64 f_0_1), (.int .i64 f_0_2), (.int .i64 f_0_3), (.int .u64 f_0_4), (.int .u64 f_0_5), (.int .u64 f_0_6)] T_numlaw_Fmt)) fun w12 => (∃ x13 : Int, World.cell? w12 ⟨b11, 3, none⟩ = some (.int .u64 x13) ∧ (∃ x14 : Int, World.cell? w12 ⟨b11, 4, none⟩ = some (.int .u64 x14) ∧ (∃ x15 : Int, World.cell? w12 ⟨b11, 3, none⟩ = some (.int .u64 x15) ∧ (∃ x16 : Int, World.cell? w12 ⟨b11, 4, none⟩ = some (.int .u64 x16) ∧ (numlaw_KeptNaN.L1 re_1 other_2 a_3 b_4 b11 (decide ((bAndNot .u64 a_3 x13) > x14)) (decide ((bAndNot .u64 b_4 x15) > x16)) 0 R w12))))))
theorem numlaw_KeptNaN.enter (f_0_1 : Int) (f_0_2 : Int) (f_0_3 : Int) (f_0_4 : Int) (f_0_5 : Int) (f_0_6 : Int) (re_1 : Int) (other_2 : Int) (a_3 : Int) (b_4 : Int) (R : Value → World → Prop) (w : World) (h : numlaw_KeptNaN.V f_0_1 f_0_2 f_0_3 f_0_4 f_0_5 f_0_6 re_1 other_2 a_3 b_4 R w) : Runs Try.prog numlaw_KeptNaN.id #[(.agg #[(.int .i64 f_0_1), (.int .i64 f_0_2), (.int .i64 f_0_3), (.int .u64 f_0_4), (.int .u64 f_0_5), (.int .u64 f_0_6)]), (.int .i64 re_1), (.int .u64 other_2), (.int .u64 a_3), (.int .u64 b_4)] w R :=
  Runs.enter (c := bodyOf Try.f45) (N := 76) Try.func45 (by kernel_rfl) (by kernel_rfl) (by kernel_rfl) (seg_T good mixed Try.func45 600 false [.code (bodyOf Try.f45)] [(0, (.agg #[(.int .i64 f_0_1), (.int .i64 f_0_2), (.int .i64 f_0_3), (.int .u64 f_0_4), (.int .u64 f_0_5), (.int .u64 f_0_6)])), (1, (.int .i64 re_1)), (2, (.int .u64 other_2)), (3, (.int .u64 a_3)), (4, (.int .u64 b_4))] w (Eq.mp (show numlaw_KeptNaN.V f_0_1 f_0_2 f_0_3 f_0_4 f_0_5 f_0_6 re_1 other_2 a_3 b_4 R w = seg Try.prog 45 76 Try.f45.results.toList numlaw_KeptNaN.cuts R 600 false [.code (bodyOf Try.f45)] [(0, (.agg #[(.int .i64 f_0_1), (.int .i64 f_0_2), (.int .i64 f_0_3), (.int .u64 f_0_4), (.int .u64 f_0_5), (.int .u64 f_0_6)])), (1, (.int .i64 re_1)), (2, (.int .u64 other_2)), (3, (.int .u64 a_3)), (4, (.int .u64 b_4))] w by kernel_rfl) h))

/-! e2e/numlaw.keptFloat -/
def numlaw_keptFloat.cuts : List (Nat × List Nat) := []
def numlaw_keptFloat.V (f_0_1 : Int) (f_0_2 : Int) (f_0_3 : Int) (f_0_4 : Int) (f_0_5 : Int) (f_0_6 : Int) (p_1 : Int) (cv_2 : Int) (one_3 : Int) (half_4 : Int) (a_5 : Int) (b_6 : Int) (R : Value → World → Prop) (w : World) : Prop :=
  (letB (Array.size (World.heap w)) fun b13 => letW (World.alloc w (.cells #[(.int .i64 f_0_1), (.int .i64 f_0_2), (.int .i64 f_0_3), (.int .u64 f_0_4), (.int .u64 f_0_5), (.int .u64 f_0_6)] T_numlaw_Fmt)) fun w14 => (∃ x15 : Int, ∃ x16 : Int, ∃ x17 : Int, ∃ x18 : Int, ∃ x19 : Int, ∃ x20 : Int, World.cell? w14 ⟨b13, 0, none⟩ = some (.int .i64 x15) ∧ World.cell? w14 ⟨b13, 1, none⟩ = some (.int .i64 x16) ∧ World.cell? w14 ⟨b13, 2, none⟩ = some (.int .i64 x17) ∧ World.cell? w14 ⟨b13, 3, none⟩ = some (.int .u64 x18) ∧ World.cell? w14 ⟨b13, 4, none⟩ = some (.int .u64 x19) ∧ World.cell? w14 ⟨b13, 5, none⟩ = some (.int .u64 x20) ∧ (Runs Try.prog numlaw_KeptKey.id #[(.agg #[(.int .i64 x15), (.int .i64 x16), (.int .i64 x17), (.int .u64 x18), (.int .u64 x19), (.int .u64 x20)]), (.int .u64 a_5), (.int .u64 b_6)] w14 fun r21 w22 => (∃ x23 : Bool, (r21 = (.bool x23) ∧ (cond (!x23)
  (R (.bool false) w22)
  (∃ x24 : Int, ∃ x25 : Int, ∃ x26 : Int, ∃ x27 : Int, ∃ x28 : Int, ∃ x29 : Int, World.cell? w22 ⟨b13, 0, none⟩ = some (.int .i64 x24) ∧ World.cell? w22 ⟨b13, 1, none⟩ = some (.int .i64 x25) ∧ World.cell? w22 ⟨b13, 2, none⟩ = some (.int .i64 x26) ∧ World.cell? w22 ⟨b13, 3, none⟩ = some (.int .u64 x27) ∧ World.cell? w22 ⟨b13, 4, none⟩ = some (.int .u64 x28) ∧ World.cell? w22 ⟨b13, 5, none⟩ = some (.int .u64 x29) ∧ (Runs Try.prog numlaw_KeptSmall.id #[(.agg #[(.int .i64 x24), (.int .i64 x25), (.int .i64 x26), (.int .u64 x27), (.int .u64 x28), (.int .u64 x29)]), (.int .i64 p_1), (.int .i64 cv_2), (.int .u64 a_5), (.int .u64 b_6)] w22 fun r30 w31 => (∃ x32 : Bool, (r30 = (.bool x32) ∧ (cond (!x32)
  (R (.bool false) w31)
  (∃ x33 : Int, ∃ x34 : Int, ∃ x35 : Int, ∃ x36 : Int, ∃ x37 : Int, ∃ x38 : Int, World.cell? w31 ⟨b13, 0, none⟩ = some (.int .i64 x33) ∧ World.cell? w31 ⟨b13, 1, none⟩ = some (.int .i64 x34) ∧ World.cell? w31 ⟨b13, 2, none⟩ = some (.int .i64 x35) ∧ World.cell? w31 ⟨b13, 3, none⟩ = some (.int .u64 x36) ∧ World.cell? w31 ⟨b13, 4, none⟩ = some (.int .u64 x37) ∧ World.cell? w31 ⟨b13, 5, none⟩ = some (.int .u64 x38) ∧ (Runs Try.prog numlaw_KeptZero.id #[(.agg #[(.int .i64 x33), (.int .i64 x34), (.int .i64 x35), (.int .u64 x36), (.int .u64 x37), (.int .u64 x38)]), (.int .u64 a_5), (.int .u64 b_6)] w31 fun r39 w40 => (∃ x41 : Bool, (r39 = (.bool x41) ∧ (cond (!x41)
  (R (.bool false) w40)
  (∃ x42 : Int, ∃ x43 : Int, ∃ x44 : Int, ∃ x45 : Int, ∃ x46 : Int, ∃ x47 : Int, World.cell? w40 ⟨b13, 0, none⟩ = some (.int .i64 x42) ∧ World.cell? w40 ⟨b13, 1, none⟩ = some (.int .i64 x43) ∧ World.cell? w40 ⟨b13, 2, none⟩ = some (.int .i64 x44) ∧ World.cell? w40 ⟨b13, 3, none⟩ = some (.int .u64 x45) ∧ World.cell? w40 ⟨b13, 4, none⟩ = some (.int .u64 x46) ∧ World.cell? w40 ⟨b13, 5, none⟩ = some (.int .u64 x47) ∧ (Runs Try.prog numlaw_KeptInf.id #[(.agg #[(.int .i64 x42), (.int .i64 x43), (.int .i64 x44), (.int .u64 x45), (.int .u64 x46), (.int .u64 x47)]), (.int .u64 a_5), (.int .u64 b_6)] w40 fun r48 w49 => (∃ x50 : Bool, (r48 = (.bool x50) ∧ (cond (!x50)
  (R (.bool false) w49)
  (∃ x51 : Int, ∃ x52 : Int, ∃ x53 : Int, ∃ x54 : Int, ∃ x55 : Int, ∃ x56 : Int, World.cell? w49 ⟨b13, 0, none⟩ = some (.int .i64 x51) ∧ World.cell? w49 ⟨b13, 1, none⟩ = some (.int .i64 x52) ∧ World.cell? w49 ⟨b13, 2, none⟩ = some (.int .i64 x53) ∧ World.cell? w49 ⟨b13, 3, none⟩ = some (.int .u64 x54) ∧ World.cell? w49 ⟨b13, 4, none⟩ = some (.int .u64 x55) ∧ World.cell? w49 ⟨b13, 5, none⟩ = some (.int .u64 x56) ∧ (Runs Try.prog numlaw_KeptWhole.id #[(.agg #[(.int .i64 x51), (.int .i64 x52), (.int .i64 x53), (.int .u64 x54), (.int .u64 x55), (.int .u64 x56)]), (.int .u64 one_3), (.int .u64 half_4), (.int .u64 a_5)] w49 fun r57 w58 => (∃ x59 : Bool, (r57 = (.bool x59) ∧ (R (.bool x59) w58))))))))))))))))))))))))))
theorem numlaw_keptFloat.enter (f_0_1 : Int) (f_0_2 : Int) (f_0_3 : Int) (f_0_4 : Int) (f_0_5 : Int) (f_0_6 : Int) (p_1 : Int) (cv_2 : Int) (one_3 : Int) (half_4 : Int) (a_5 : Int) (b_6 : Int) (R : Value → World → Prop) (w : World) (h : numlaw_keptFloat.V f_0_1 f_0_2 f_0_3 f_0_4 f_0_5 f_0_6 p_1 cv_2 one_3 half_4 a_5 b_6 R w) : Runs Try.prog numlaw_keptFloat.id #[(.agg #[(.int .i64 f_0_1), (.int .i64 f_0_2), (.int .i64 f_0_3), (.int .u64 f_0_4), (.int .u64 f_0_5), (.int .u64 f_0_6)]), (.int .i64 p_1), (.int .i64 cv_2), (.int .u64 one_3), (.int .u64 half_4), (.int .u64 a_5), (.int .u64 b_6)] w R :=
  Runs.enter (c := bodyOf Try.f46) (N := 42) Try.func46 (by kernel_rfl) (by kernel_rfl) (by kernel_rfl) (seg_T good mixed Try.func46 600 false [.code (bodyOf Try.f46)] [(0, (.agg #[(.int .i64 f_0_1), (.int .i64 f_0_2), (.int .i64 f_0_3), (.int .u64 f_0_4), (.int .u64 f_0_5), (.int .u64 f_0_6)])), (1, (.int .i64 p_1)), (2, (.int .i64 cv_2)), (3, (.int .u64 one_3)), (4, (.int .u64 half_4)), (5, (.int .u64 a_5)), (6, (.int .u64 b_6))] w (Eq.mp (show numlaw_keptFloat.V f_0_1 f_0_2 f_0_3 f_0_4 f_0_5 f_0_6 p_1 cv_2 one_3 half_4 a_5 b_6 R w = seg Try.prog 46 42 Try.f46.results.toList numlaw_keptFloat.cuts R 600 false [.code (bodyOf Try.f46)] [(0, (.agg #[(.int .i64 f_0_1), (.int .i64 f_0_2), (.int .i64 f_0_3), (.int .u64 f_0_4), (.int .u64 f_0_5), (.int .u64 f_0_6)])), (1, (.int .i64 p_1)), (2, (.int .i64 cv_2)), (3, (.int .u64 one_3)), (4, (.int .u64 half_4)), (5, (.int .u64 a_5)), (6, (.int .u64 b_6))] w by kernel_rfl) h))

/-! e2e/numlaw.KeptDemote -/
def numlaw_KeptDemote.cuts : List (Nat × List Nat) := [(16, [3, 5]), (32, [5, 7])]
def numlaw_KeptDemote.L1 (x_3 : Int) (r_5 : Int) (R : Value → World → Prop) (w : World) : Prop :=
  T Try.prog 47 56 [.code (sub (bodyOf Try.f47) [1, 1, 1, 1, 1, 1])] [(3, (.int .u64 x_3)), (5, (.int .u64 r_5))] w R
def numlaw_KeptDemote.L2 (r_5 : Int) (d_7 : Int) (R : Value → World → Prop) (w : World) : Prop :=
  T Try.prog 47 56 [.code (sub (bodyOf Try.f47) [1, 1, 1, 1, 1, 1, 1, 1, 1, 1, 1])] [(5, (.int .u64 r_5)), (7, (.int .u64 d_7))] w R
def numlaw_KeptDemote.V1 (x_3 : Int) (r_5 : Int) (R : Value → World → Prop) (w : World) : Prop :=
  (cond (r_5 == (2139095040 : Int))
  (R (.bool (decide (x_3 ≥ (5183643170835005440 : Int)))) w)
  (cond (decide (r_5 ≤ (8388608 : Int)))
  (R (.bool (decide (x_3 ≤ (4039728866019770368 : Int)))) w)
  (cond (decide (x_3 < (IntKind.wrap .u64 ((IntKind.wrap .u64 (r_5 * 2 ^ (29 : Nat))) + (4035225266123964416 : Int)))))
  (numlaw_KeptDemote.L2 r_5 (IntKind.wrap .u64 ((IntKind.wrap .u64 ((IntKind.wrap .u64 (r_5 * 2 ^ (29 : Nat))) + (4035225266123964416 : Int))) - x_3)) R w)
  (numlaw_KeptDemote.L2 r_5 (IntKind.wrap .u64 (x_3 - (IntKind.wrap .u64 ((IntKind.wrap .u64 (r_5 * 2 ^ (29 : Nat))) + (4035225266123964416 : Int))))) R w))))
theorem numlaw_KeptDemote.step1 (x_3 : Int) (r_5 : Int) (R : Value → World → Prop) (w : World) (h : numlaw_KeptDemote.V1 x_3 r_5 R w) : numlaw_KeptDemote.L1 x_3 r_5 R w :=
  seg_T good mixed Try.func47 600 false [.code (sub (bodyOf Try.f47) [1, 1, 1, 1, 1, 1])] [(3, (.int .u64 x_3)), (5, (.int .u64 r_5))] w (Eq.mp (show numlaw_KeptDemote.V1 x_3 r_5 R w = seg Try.prog 47 56 Try.f47.results.toList numlaw_KeptDemote.cuts R 600 false [.code (sub (bodyOf Try.f47) [1, 1, 1, 1, 1, 1])] [(3, (.int .u64 x_3)), (5, (.int .u64 r_5))] w by kernel_rfl) h)
def numlaw_KeptDemote.V2 (r_5 : Int) (d_7 : Int) (R : Value → World → Prop) (w : World) : Prop :=
  (cond (decide (d_7 < (268435456 : Int)))
  (R (.bool true) w)
  (cond (d_7 == (268435456 : Int))
  (R (.bool ((bAnd .u64 r_5 1) == (0 : Int))) w)
  (R (.bool false) w)))
theorem numlaw_KeptDemote.step2 (r_5 : Int) (d_7 : Int) (R : Value → World → Prop) (w : World) (h : numlaw_KeptDemote.V2 r_5 d_7 R w) : numlaw_KeptDemote.L2 r_5 d_7 R w :=
  seg_T good mixed Try.func47 600 false [.code (sub (bodyOf Try.f47) [1, 1, 1, 1, 1, 1, 1, 1, 1, 1, 1])] [(5, (.int .u64 r_5)), (7, (.int .u64 d_7))] w (Eq.mp (show numlaw_KeptDemote.V2 r_5 d_7 R w = seg Try.prog 47 56 Try.f47.results.toList numlaw_KeptDemote.cuts R 600 false [.code (sub (bodyOf Try.f47) [1, 1, 1, 1, 1, 1, 1, 1, 1, 1, 1])] [(5, (.int .u64 r_5)), (7, (.int .u64 d_7))] w by kernel_rfl) h)
def numlaw_KeptDemote.V (a_0 : Int) (R : Value → World → Prop) (w : World) : Prop :=
  (cond (decide ((bAndNot .u64 a_0 9223372036854775808) > (9218868437227405312 : Int)))
  (R (.bool true) w)
  (Runs Try.prog numlaw_ap.id #[(.int .i64 182), (.int .u64 a_0), (.int .u64 0)] w fun r2 w3 => (∃ x4 : Int, (r2 = (.int .u64 x4) ∧ (cond ((Int.fdiv x4 (2 ^ (31 : Nat))) != (Int.fdiv a_0 (2 ^ (63 : Nat))))
  (R (.bool false) w3)
  (cond (decide ((bAndNot .u64 x4 2147483648) > (2139095040 : Int)))
  (R (.bool false) w3)
  (numlaw_KeptDemote.L1 (bAndNot .u64 a_0 9223372036854775808) (bAndNot .u64 x4 2147483648) R w3)))))))
theorem numlaw_KeptDemote.enter (a_0 : Int) (R : Value → World → Prop) (w : World) (h : numlaw_KeptDemote.V a_0 R w) : Runs Try.prog numlaw_KeptDemote.id #[(.int .u64 a_0)] w R :=
  Runs.enter (c := bodyOf Try.f47) (N := 56) Try.func47 (by kernel_rfl) (by kernel_rfl) (by kernel_rfl) (seg_T good mixed Try.func47 600 false [.code (bodyOf Try.f47)] [(0, (.int .u64 a_0))] w (Eq.mp (show numlaw_KeptDemote.V a_0 R w = seg Try.prog 47 56 Try.f47.results.toList numlaw_KeptDemote.cuts R 600 false [.code (bodyOf Try.f47)] [(0, (.int .u64 a_0))] w by kernel_rfl) h))

/-! e2e/api.Word -/
def api_Word.cuts : List (Nat × List Nat) := [(6, [0, 1]), (11, [0, 1, 5, 6])]
def api_Word.L1 (s_0 : ByteArray) (i_1 : Int) (R : Value → World → Prop) (w : World) : Prop :=
  T Try.prog 48 31 [.code (sub (bodyOf Try.f48) [1, 1])] [(0, (.string s_0)), (1, (.int .i64 i_1))] w R
def api_Word.L2 (s_0 : ByteArray) (i_1 : Int) (v_5 : Int) (k_6 : Int) (R : Value → World → Prop) (w : World) : Prop :=
  T Try.prog 48 31 [.inLoop (sub (bodyOf Try.f48) [1, 1, 1, 0, 1, 0, 0]), .inBlock 0, .code (sub (bodyOf Try.f48) [1, 1, 1, 1])] [(0, (.string s_0)), (1, (.int .i64 i_1)), (5, (.int .u64 v_5)), (6, (.int .i64 k_6))] w R
def api_Word.V1 (s_0 : ByteArray) (i_1 : Int) (R : Value → World → Prop) (w : World) : Prop :=
  (api_Word.L2 s_0 i_1 0 7 R w)
theorem api_Word.step1 (s_0 : ByteArray) (i_1 : Int) (R : Value → World → Prop) (w : World) (h : api_Word.V1 s_0 i_1 R w) : api_Word.L1 s_0 i_1 R w :=
  seg_T good mixed Try.func48 600 false [.code (sub (bodyOf Try.f48) [1, 1])] [(0, (.string s_0)), (1, (.int .i64 i_1))] w (Eq.mp (show api_Word.V1 s_0 i_1 R w = seg Try.prog 48 31 Try.f48.results.toList api_Word.cuts R 600 false [.code (sub (bodyOf Try.f48) [1, 1])] [(0, (.string s_0)), (1, (.int .i64 i_1))] w by kernel_rfl) h)
def api_Word.V2 (s_0 : ByteArray) (i_1 : Int) (v_5 : Int) (k_6 : Int) (R : Value → World → Prop) (w : World) : Prop :=
  (cond (decide (k_6 ≥ (0 : Int)))
  ((0 ≤ (IntKind.wrap .i64 ((IntKind.wrap .i64 ((8 : Int) * i_1)) + k_6)) ∧ (IntKind.wrap .i64 ((IntKind.wrap .i64 ((8 : Int) * i_1)) + k_6)) < ((ByteArray.size s_0 : Nat) : Int)) ∧ (api_Word.L2 s_0 i_1 (bOr .u64 (IntKind.wrap .u64 (v_5 * 2 ^ (8 : Nat))) (IntKind.wrap .u64 (byteAt s_0 (Int.toNat (IntKind.wrap .i64 ((IntKind.wrap .i64 ((8 : Int) * i_1)) + k_6)))))) (IntKind.wrap .i64 (k_6 - (1 : Int))) R w))
  (R (.int .u64 v_5) w))
theorem api_Word.step2 (s_0 : ByteArray) (i_1 : Int) (v_5 : Int) (k_6 : Int) (R : Value → World → Prop) (w : World) (h : api_Word.V2 s_0 i_1 v_5 k_6 R w) : api_Word.L2 s_0 i_1 v_5 k_6 R w :=
  seg_T good mixed Try.func48 600 false [.inLoop (sub (bodyOf Try.f48) [1, 1, 1, 0, 1, 0, 0]), .inBlock 0, .code (sub (bodyOf Try.f48) [1, 1, 1, 1])] [(0, (.string s_0)), (1, (.int .i64 i_1)), (5, (.int .u64 v_5)), (6, (.int .i64 k_6))] w (Eq.mp (show api_Word.V2 s_0 i_1 v_5 k_6 R w = seg Try.prog 48 31 Try.f48.results.toList api_Word.cuts R 600 false [.inLoop (sub (bodyOf Try.f48) [1, 1, 1, 0, 1, 0, 0]), .inBlock 0, .code (sub (bodyOf Try.f48) [1, 1, 1, 1])] [(0, (.string s_0)), (1, (.int .i64 i_1)), (5, (.int .u64 v_5)), (6, (.int .i64 k_6))] w by kernel_rfl) h)
def api_Word.V (s_0 : ByteArray) (i_1 : Int) (R : Value → World → Prop) (w : World) : Prop :=
  (cond (decide (i_1 < (0 : Int)))
  (R (.int .u64 0) w)
  (cond (decide (i_1 ≥ (IntKind.wrap .i64 (Int.tdiv ((ByteArray.size s_0 : Nat) : Int) 8))))
  (R (.int .u64 0) w)
  (api_Word.L1 s_0 i_1 R w)))
theorem api_Word.enter (s_0 : ByteArray) (i_1 : Int) (R : Value → World → Prop) (w : World) (h : api_Word.V s_0 i_1 R w) : Runs Try.prog api_Word.id #[(.string s_0), (.int .i64 i_1)] w R :=
  Runs.enter (c := bodyOf Try.f48) (N := 31) Try.func48 (by kernel_rfl) (by kernel_rfl) (by kernel_rfl) (seg_T good mixed Try.func48 600 false [.code (bodyOf Try.f48)] [(0, (.string s_0)), (1, (.int .i64 i_1))] w (Eq.mp (show api_Word.V s_0 i_1 R w = seg Try.prog 48 31 Try.f48.results.toList api_Word.cuts R 600 false [.code (bodyOf Try.f48)] [(0, (.string s_0)), (1, (.int .i64 i_1))] w by kernel_rfl) h))

/-! e2e/numlaw.End -/
def numlaw_End.cuts : List (Nat × List Nat) := []
def numlaw_End.V (op_0 : Int) (R : Value → World → Prop) (w : World) : Prop :=
  (cond (op_0 == (168 : Int))
  (R (.tuple #[(.int .u64 1325400064), (.int .u64 1325400064), (.int .i64 178), (.bool false)]) w)
  (cond (op_0 == (169 : Int))
  (R (.tuple #[(.int .u64 1333788672), (.int .u64 1065353215), (.int .i64 179), (.bool false)]) w)
  (cond (op_0 == (170 : Int))
  (R (.tuple #[(.int .u64 4746794007248502784), (.int .u64 4746794007250599935), (.int .i64 183), (.bool true)]) w)
  (cond (op_0 == (171 : Int))
  (R (.tuple #[(.int .u64 4751297606875873280), (.int .u64 4607182418800017407), (.int .i64 184), (.bool true)]) w)
  (cond (op_0 == (174 : Int))
  (R (.tuple #[(.int .u64 1593835520), (.int .u64 1593835520), (.int .i64 180), (.bool false)]) w)
  (cond (op_0 == (175 : Int))
  (R (.tuple #[(.int .u64 1602224128), (.int .u64 1065353215), (.int .i64 181), (.bool false)]) w)
  (cond (op_0 == (176 : Int))
  (R (.tuple #[(.int .u64 4890909195324358656), (.int .u64 4890909195324358656), (.int .i64 185), (.bool true)]) w)
  (cond (op_0 == (177 : Int))
  (R (.tuple #[(.int .u64 4895412794951729152), (.int .u64 4607182418800017407), (.int .i64 186), (.bool true)]) w)
  (R (.tuple #[(.int .u64 0), (.int .u64 0), (.int .i64 0), (.bool false)]) w)))))))))
theorem numlaw_End.enter (op_0 : Int) (R : Value → World → Prop) (w : World) (h : numlaw_End.V op_0 R w) : Runs Try.prog numlaw_End.id #[(.int .i64 op_0)] w R :=
  Runs.enter (c := bodyOf Try.f49) (N := 23) Try.func49 (by kernel_rfl) (by kernel_rfl) (by kernel_rfl) (seg_T good mixed Try.func49 600 false [.code (bodyOf Try.f49)] [(0, (.int .i64 op_0))] w (Eq.mp (show numlaw_End.V op_0 R w = seg Try.prog 49 23 Try.f49.results.toList numlaw_End.cuts R 600 false [.code (bodyOf Try.f49)] [(0, (.int .i64 op_0))] w by kernel_rfl) h))

/-! e2e/numlaw.CutOf -/
def numlaw_CutOf.cuts : List (Nat × List Nat) := []
def numlaw_CutOf.V (f_0_1 : Int) (f_0_2 : Int) (f_0_3 : Int) (f_0_4 : Int) (f_0_5 : Int) (f_0_6 : Int) (p_1 : Int) (v_2 : Int) (R : Value → World → Prop) (w : World) : Prop :=
  (letB (Array.size (World.heap w)) fun b9 => letW (World.alloc w (.cells #[(.int .i64 f_0_1), (.int .i64 f_0_2), (.int .i64 f_0_3), (.int .u64 f_0_4), (.int .u64 f_0_5), (.int .u64 f_0_6)] T_numlaw_Fmt)) fun w10 => (∃ x11 : Int, ∃ x12 : Int, ∃ x13 : Int, ∃ x14 : Int, ∃ x15 : Int, ∃ x16 : Int, World.cell? w10 ⟨b9, 0, none⟩ = some (.int .i64 x11) ∧ World.cell? w10 ⟨b9, 1, none⟩ = some (.int .i64 x12) ∧ World.cell? w10 ⟨b9, 2, none⟩ = some (.int .i64 x13) ∧ World.cell? w10 ⟨b9, 3, none⟩ = some (.int .u64 x14) ∧ World.cell? w10 ⟨b9, 4, none⟩ = some (.int .u64 x15) ∧ World.cell? w10 ⟨b9, 5, none⟩ = some (.int .u64 x16) ∧ (∃ x17 : Int, World.cell? w10 ⟨b9, 3, none⟩ = some (.int .u64 x17) ∧ (Runs Try.prog numlaw_Part.id #[(.agg #[(.int .i64 x11), (.int .i64 x12), (.int .i64 x13), (.int .u64 x14), (.int .u64 x15), (.int .u64 x16)]), (.int .i64 p_1), (.int .u64 (bAndNot .u64 v_2 x17))] w10 fun r18 w19 => (∃ x20 : Int, ∃ x21 : Int, (r18 = (.tuple #[(.int .u64 x20), (.int .i64 x21)]) ∧ (cond (decide (x21 > (IntKind.wrap .i64 ((64 : Int) - p_1))))
  (R (.tuple #[(.int .u64 0), (.bool false), (.bool false)]) w19)
  (cond (decide (x21 ≥ (0 : Int)))
  (0 ≤ (IntKind.wrap .u64 x21) ∧ (R (.tuple #[(.int .u64 (IntKind.wrap .u64 (x20 * 2 ^ (min (Int.toNat (IntKind.wrap .u64 x21)) (IntKind.bits .u64))))), (.bool true), (.bool true)]) w19))
  (cond (decide (x21 ≤ (-64)))
  (R (.tuple #[(.int .u64 0), (.bool (x20 == (0 : Int))), (.bool true)]) w19)
  (0 ≤ (IntKind.wrap .u64 (IntKind.wrap .i64 (0 - x21))) ∧ (0 ≤ (IntKind.wrap .u64 (IntKind.wrap .i64 (0 - x21))) ∧ (R (.tuple #[(.int .u64 (Int.fdiv x20 (2 ^ (min (Int.toNat (IntKind.wrap .u64 (IntKind.wrap .i64 (0 - x21)))) (IntKind.bits .u64))))), (.bool ((bAnd .u64 x20 (IntKind.wrap .u64 ((IntKind.wrap .u64 ((1 : Int) * 2 ^ (min (Int.toNat (IntKind.wrap .u64 (IntKind.wrap .i64 (0 - x21)))) (IntKind.bits .u64)))) - (1 : Int)))) == (0 : Int))), (.bool true)]) w19))))))))))))
theorem numlaw_CutOf.enter (f_0_1 : Int) (f_0_2 : Int) (f_0_3 : Int) (f_0_4 : Int) (f_0_5 : Int) (f_0_6 : Int) (p_1 : Int) (v_2 : Int) (R : Value → World → Prop) (w : World) (h : numlaw_CutOf.V f_0_1 f_0_2 f_0_3 f_0_4 f_0_5 f_0_6 p_1 v_2 R w) : Runs Try.prog numlaw_CutOf.id #[(.agg #[(.int .i64 f_0_1), (.int .i64 f_0_2), (.int .i64 f_0_3), (.int .u64 f_0_4), (.int .u64 f_0_5), (.int .u64 f_0_6)]), (.int .i64 p_1), (.int .u64 v_2)] w R :=
  Runs.enter (c := bodyOf Try.f50) (N := 48) Try.func50 (by kernel_rfl) (by kernel_rfl) (by kernel_rfl) (seg_T good mixed Try.func50 600 false [.code (bodyOf Try.f50)] [(0, (.agg #[(.int .i64 f_0_1), (.int .i64 f_0_2), (.int .i64 f_0_3), (.int .u64 f_0_4), (.int .u64 f_0_5), (.int .u64 f_0_6)])), (1, (.int .i64 p_1)), (2, (.int .u64 v_2))] w (Eq.mp (show numlaw_CutOf.V f_0_1 f_0_2 f_0_3 f_0_4 f_0_5 f_0_6 p_1 v_2 R w = seg Try.prog 50 48 Try.f50.results.toList numlaw_CutOf.cuts R 600 false [.code (bodyOf Try.f50)] [(0, (.agg #[(.int .i64 f_0_1), (.int .i64 f_0_2), (.int .i64 f_0_3), (.int .u64 f_0_4), (.int .u64 f_0_5), (.int .u64 f_0_6)])), (1, (.int .i64 p_1)), (2, (.int .u64 v_2))] w by kernel_rfl) h))

/-! e2e/numlaw.ap -/
def numlaw_ap.cuts : List (Nat × List Nat) := []
def numlaw_ap.V (op_0 : Int) (a_1 : Int) (b_2 : Int) (R : Value → World → Prop) (w : World) : Prop :=
  (Runs Try.prog num_Apply.id #[(.int .i64 op_0), (.int .u64 a_1), (.int .u64 b_2)] w fun r4 w5 => (∃ x6 : Int, ∃ x7 : Int, (r4 = (.tuple #[(.int .u64 x6), (.int .i64 x7)]) ∧ (R (.int .u64 x6) w5))))
theorem numlaw_ap.enter (op_0 : Int) (a_1 : Int) (b_2 : Int) (R : Value → World → Prop) (w : World) (h : numlaw_ap.V op_0 a_1 b_2 R w) : Runs Try.prog numlaw_ap.id #[(.int .i64 op_0), (.int .u64 a_1), (.int .u64 b_2)] w R :=
  Runs.enter (c := bodyOf Try.f51) (N := 17) Try.func51 (by kernel_rfl) (by kernel_rfl) (by kernel_rfl) (seg_T good mixed Try.func51 600 false [.code (bodyOf Try.f51)] [(0, (.int .i64 op_0)), (1, (.int .u64 a_1)), (2, (.int .u64 b_2))] w (Eq.mp (show numlaw_ap.V op_0 a_1 b_2 R w = seg Try.prog 51 17 Try.f51.results.toList numlaw_ap.cuts R 600 false [.code (bodyOf Try.f51)] [(0, (.int .i64 op_0)), (1, (.int .u64 a_1)), (2, (.int .u64 b_2))] w by kernel_rfl) h))

/-! e2e/numlaw.Part -/
def numlaw_Part.cuts : List (Nat × List Nat) := []
def numlaw_Part.V (f_0_1 : Int) (f_0_2 : Int) (f_0_3 : Int) (f_0_4 : Int) (f_0_5 : Int) (f_0_6 : Int) (p_1 : Int) (v_2 : Int) (R : Value → World → Prop) (w : World) : Prop :=
  (letB (Array.size (World.heap w)) fun b9 => letW (World.alloc w (.cells #[(.int .i64 f_0_1), (.int .i64 f_0_2), (.int .i64 f_0_3), (.int .u64 f_0_4), (.int .u64 f_0_5), (.int .u64 f_0_6)] T_numlaw_Fmt)) fun w10 => (∃ x11 : Int, World.cell? w10 ⟨b9, 4, none⟩ = some (.int .u64 x11) ∧ (0 ≤ (IntKind.wrap .u64 (IntKind.wrap .i64 (p_1 - (1 : Int)))) ∧ (0 ≤ (IntKind.wrap .u64 (IntKind.wrap .i64 (p_1 - (1 : Int)))) ∧ (∃ x12 : Int, World.cell? w10 ⟨b9, 4, none⟩ = some (.int .u64 x12) ∧ (0 ≤ (IntKind.wrap .u64 p_1) ∧ (cond ((Int.fdiv (IntKind.wrap .i64 (bAnd .u64 v_2 x11)) (2 ^ (min (Int.toNat (IntKind.wrap .u64 (IntKind.wrap .i64 (p_1 - (1 : Int))))) (IntKind.bits .i64)))) == (0 : Int))
  (R (.tuple #[(.int .u64 (bAnd .u64 v_2 (IntKind.wrap .u64 ((IntKind.wrap .u64 ((1 : Int) * 2 ^ (min (Int.toNat (IntKind.wrap .u64 (IntKind.wrap .i64 (p_1 - (1 : Int))))) (IntKind.bits .u64)))) - (1 : Int))))), (.int .i64 (IntKind.wrap .i64 ((1 : Int) - (IntKind.wrap .i64 ((IntKind.wrap .i64 ((IntKind.wrap .i64 (Int.fdiv x12 (2 ^ (min (Int.toNat (IntKind.wrap .u64 p_1)) (IntKind.bits .u64))))) + p_1)) - (1 : Int))))))]) w10)
  (0 ≤ (IntKind.wrap .u64 (IntKind.wrap .i64 (p_1 - (1 : Int)))) ∧ (R (.tuple #[(.int .u64 (bOr .u64 (bAnd .u64 v_2 (IntKind.wrap .u64 ((IntKind.wrap .u64 ((1 : Int) * 2 ^ (min (Int.toNat (IntKind.wrap .u64 (IntKind.wrap .i64 (p_1 - (1 : Int))))) (IntKind.bits .u64)))) - (1 : Int)))) (IntKind.wrap .u64 ((1 : Int) * 2 ^ (min (Int.toNat (IntKind.wrap .u64 (IntKind.wrap .i64 (p_1 - (1 : Int))))) (IntKind.bits .u64)))))), (.int .i64 (IntKind.wrap .i64 ((Int.fdiv (IntKind.wrap .i64 (bAnd .u64 v_2 x11)) (2 ^ (min (Int.toNat (IntKind.wrap .u64 (IntKind.wrap .i64 (p_1 - (1 : Int))))) (IntKind.bits .i64)))) - (IntKind.wrap .i64 ((IntKind.wrap .i64 ((IntKind.wrap .i64 (Int.fdiv x12 (2 ^ (min (Int.toNat (IntKind.wrap .u64 p_1)) (IntKind.bits .u64))))) + p_1)) - (1 : Int))))))]) w10)))))))))
theorem numlaw_Part.enter (f_0_1 : Int) (f_0_2 : Int) (f_0_3 : Int) (f_0_4 : Int) (f_0_5 : Int) (f_0_6 : Int) (p_1 : Int) (v_2 : Int) (R : Value → World → Prop) (w : World) (h : numlaw_Part.V f_0_1 f_0_2 f_0_3 f_0_4 f_0_5 f_0_6 p_1 v_2 R w) : Runs Try.prog numlaw_Part.id #[(.agg #[(.int .i64 f_0_1), (.int .i64 f_0_2), (.int .i64 f_0_3), (.int .u64 f_0_4), (.int .u64 f_0_5), (.int .u64 f_0_6)]), (.int .i64 p_1), (.int .u64 v_2)] w R :=
  Runs.enter (c := bodyOf Try.f52) (N := 50) Try.func52 (by kernel_rfl) (by kernel_rfl) (by kernel_rfl) (seg_T good mixed Try.func52 600 false [.code (bodyOf Try.f52)] [(0, (.agg #[(.int .i64 f_0_1), (.int .i64 f_0_2), (.int .i64 f_0_3), (.int .u64 f_0_4), (.int .u64 f_0_5), (.int .u64 f_0_6)])), (1, (.int .i64 p_1)), (2, (.int .u64 v_2))] w (Eq.mp (show numlaw_Part.V f_0_1 f_0_2 f_0_3 f_0_4 f_0_5 f_0_6 p_1 v_2 R w = seg Try.prog 52 50 Try.f52.results.toList numlaw_Part.cuts R 600 false [.code (bodyOf Try.f52)] [(0, (.agg #[(.int .i64 f_0_1), (.int .i64 f_0_2), (.int .i64 f_0_3), (.int .u64 f_0_4), (.int .u64 f_0_5), (.int .u64 f_0_6)])), (1, (.int .i64 p_1)), (2, (.int .u64 v_2))] w by kernel_rfl) h))

/-! e2e/numlaw.Shl -/
def numlaw_Shl.cuts : List (Nat × List Nat) := [(2, [0, 1])]
def numlaw_Shl.L1 (m_0 : Int) (sh_1 : Int) (R : Value → World → Prop) (w : World) : Prop :=
  T Try.prog 53 22 [.code (sub (bodyOf Try.f53) [1])] [(0, (.int .u64 m_0)), (1, (.int .i64 sh_1))] w R
def numlaw_Shl.V1 (m_0 : Int) (sh_1 : Int) (R : Value → World → Prop) (w : World) : Prop :=
  (cond (decide (sh_1 ≥ (64 : Int)))
  (0 ≤ (IntKind.wrap .u64 (IntKind.wrap .i64 (sh_1 - (64 : Int)))) ∧ (R (.tuple #[(.int .u64 (IntKind.wrap .u64 (m_0 * 2 ^ (min (Int.toNat (IntKind.wrap .u64 (IntKind.wrap .i64 (sh_1 - (64 : Int))))) (IntKind.bits .u64))))), (.int .u64 0)]) w))
  (0 ≤ (IntKind.wrap .u64 (IntKind.wrap .i64 ((64 : Int) - sh_1))) ∧ (0 ≤ (IntKind.wrap .u64 sh_1) ∧ (R (.tuple #[(.int .u64 (Int.fdiv m_0 (2 ^ (min (Int.toNat (IntKind.wrap .u64 (IntKind.wrap .i64 ((64 : Int) - sh_1)))) (IntKind.bits .u64))))), (.int .u64 (IntKind.wrap .u64 (m_0 * 2 ^ (min (Int.toNat (IntKind.wrap .u64 sh_1)) (IntKind.bits .u64)))))]) w))))
theorem numlaw_Shl.step1 (m_0 : Int) (sh_1 : Int) (R : Value → World → Prop) (w : World) (h : numlaw_Shl.V1 m_0 sh_1 R w) : numlaw_Shl.L1 m_0 sh_1 R w :=
  seg_T good mixed Try.func53 600 false [.code (sub (bodyOf Try.f53) [1])] [(0, (.int .u64 m_0)), (1, (.int .i64 sh_1))] w (Eq.mp (show numlaw_Shl.V1 m_0 sh_1 R w = seg Try.prog 53 22 Try.f53.results.toList numlaw_Shl.cuts R 600 false [.code (sub (bodyOf Try.f53) [1])] [(0, (.int .u64 m_0)), (1, (.int .i64 sh_1))] w by kernel_rfl) h)
def numlaw_Shl.V (m_0 : Int) (sh_1 : Int) (R : Value → World → Prop) (w : World) : Prop :=
  (numlaw_Shl.L1 m_0 sh_1 R w)
theorem numlaw_Shl.enter (m_0 : Int) (sh_1 : Int) (R : Value → World → Prop) (w : World) (h : numlaw_Shl.V m_0 sh_1 R w) : Runs Try.prog numlaw_Shl.id #[(.int .u64 m_0), (.int .i64 sh_1)] w R :=
  Runs.enter (c := bodyOf Try.f53) (N := 22) Try.func53 (by kernel_rfl) (by kernel_rfl) (by kernel_rfl) (seg_T good mixed Try.func53 600 false [.code (bodyOf Try.f53)] [(0, (.int .u64 m_0)), (1, (.int .i64 sh_1))] w (Eq.mp (show numlaw_Shl.V m_0 sh_1 R w = seg Try.prog 53 22 Try.f53.results.toList numlaw_Shl.cuts R 600 false [.code (bodyOf Try.f53)] [(0, (.int .u64 m_0)), (1, (.int .i64 sh_1))] w by kernel_rfl) h))

/-! e2e/numlaw.Sq -/
def numlaw_Sq.cuts : List (Nat × List Nat) := [(2, [0]), (4, [0, 4]), (6, [4, 5]), (8, [4, 5, 6]), (10, [4, 5, 6, 7]), (12, [5, 7, 8]), (16, [7, 8])]
def numlaw_Sq.L1 (v_0 : Int) (R : Value → World → Prop) (w : World) : Prop :=
  T Try.prog 54 38 [.code (sub (bodyOf Try.f54) [1])] [(0, (.int .u64 v_0))] w R
def numlaw_Sq.L2 (v_0 : Int) (h_4 : Int) (R : Value → World → Prop) (w : World) : Prop :=
  T Try.prog 54 38 [.code (sub (bodyOf Try.f54) [1, 1])] [(0, (.int .u64 v_0)), (4, (.int .u64 h_4))] w R
def numlaw_Sq.L3 (h_4 : Int) (l_5 : Int) (R : Value → World → Prop) (w : World) : Prop :=
  T Try.prog 54 38 [.code (sub (bodyOf Try.f54) [1, 1, 1])] [(4, (.int .u64 h_4)), (5, (.int .u64 l_5))] w R
def numlaw_Sq.L4 (h_4 : Int) (l_5 : Int) (t_6 : Int) (R : Value → World → Prop) (w : World) : Prop :=
  T Try.prog 54 38 [.code (sub (bodyOf Try.f54) [1, 1, 1, 1])] [(4, (.int .u64 h_4)), (5, (.int .u64 l_5)), (6, (.int .u64 t_6))] w R
def numlaw_Sq.L5 (h_4 : Int) (l_5 : Int) (t_6 : Int) (lo_7 : Int) (R : Value → World → Prop) (w : World) : Prop :=
  T Try.prog 54 38 [.code (sub (bodyOf Try.f54) [1, 1, 1, 1, 1])] [(4, (.int .u64 h_4)), (5, (.int .u64 l_5)), (6, (.int .u64 t_6)), (7, (.int .u64 lo_7))] w R
def numlaw_Sq.L6 (l_5 : Int) (lo_7 : Int) (hi_8 : Int) (R : Value → World → Prop) (w : World) : Prop :=
  T Try.prog 54 38 [.code (sub (bodyOf Try.f54) [1, 1, 1, 1, 1, 1])] [(5, (.int .u64 l_5)), (7, (.int .u64 lo_7)), (8, (.int .u64 hi_8))] w R
def numlaw_Sq.L7 (lo_7 : Int) (hi_8 : Int) (R : Value → World → Prop) (w : World) : Prop :=
  T Try.prog 54 38 [.code (sub (bodyOf Try.f54) [1, 1, 1, 1, 1, 1, 1])] [(7, (.int .u64 lo_7)), (8, (.int .u64 hi_8))] w R
def numlaw_Sq.V1 (v_0 : Int) (R : Value → World → Prop) (w : World) : Prop :=
  (numlaw_Sq.L2 v_0 (Int.fdiv v_0 (2 ^ (32 : Nat))) R w)
theorem numlaw_Sq.step1 (v_0 : Int) (R : Value → World → Prop) (w : World) (h : numlaw_Sq.V1 v_0 R w) : numlaw_Sq.L1 v_0 R w :=
  seg_T good mixed Try.func54 600 false [.code (sub (bodyOf Try.f54) [1])] [(0, (.int .u64 v_0))] w (Eq.mp (show numlaw_Sq.V1 v_0 R w = seg Try.prog 54 38 Try.f54.results.toList numlaw_Sq.cuts R 600 false [.code (sub (bodyOf Try.f54) [1])] [(0, (.int .u64 v_0))] w by kernel_rfl) h)
def numlaw_Sq.V2 (v_0 : Int) (h_4 : Int) (R : Value → World → Prop) (w : World) : Prop :=
  (numlaw_Sq.L3 h_4 (bAnd .u64 v_0 4294967295) R w)
theorem numlaw_Sq.step2 (v_0 : Int) (h_4 : Int) (R : Value → World → Prop) (w : World) (h : numlaw_Sq.V2 v_0 h_4 R w) : numlaw_Sq.L2 v_0 h_4 R w :=
  seg_T good mixed Try.func54 600 false [.code (sub (bodyOf Try.f54) [1, 1])] [(0, (.int .u64 v_0)), (4, (.int .u64 h_4))] w (Eq.mp (show numlaw_Sq.V2 v_0 h_4 R w = seg Try.prog 54 38 Try.f54.results.toList numlaw_Sq.cuts R 600 false [.code (sub (bodyOf Try.f54) [1, 1])] [(0, (.int .u64 v_0)), (4, (.int .u64 h_4))] w by kernel_rfl) h)
def numlaw_Sq.V3 (h_4 : Int) (l_5 : Int) (R : Value → World → Prop) (w : World) : Prop :=
  (numlaw_Sq.L4 h_4 l_5 (IntKind.wrap .u64 ((IntKind.wrap .u64 ((2 : Int) * h_4)) * l_5)) R w)
theorem numlaw_Sq.step3 (h_4 : Int) (l_5 : Int) (R : Value → World → Prop) (w : World) (h : numlaw_Sq.V3 h_4 l_5 R w) : numlaw_Sq.L3 h_4 l_5 R w :=
  seg_T good mixed Try.func54 600 false [.code (sub (bodyOf Try.f54) [1, 1, 1])] [(4, (.int .u64 h_4)), (5, (.int .u64 l_5))] w (Eq.mp (show numlaw_Sq.V3 h_4 l_5 R w = seg Try.prog 54 38 Try.f54.results.toList numlaw_Sq.cuts R 600 false [.code (sub (bodyOf Try.f54) [1, 1, 1])] [(4, (.int .u64 h_4)), (5, (.int .u64 l_5))] w by kernel_rfl) h)
def numlaw_Sq.V4 (h_4 : Int) (l_5 : Int) (t_6 : Int) (R : Value → World → Prop) (w : World) : Prop :=
  (numlaw_Sq.L5 h_4 l_5 t_6 (IntKind.wrap .u64 ((IntKind.wrap .u64 (l_5 * l_5)) + (IntKind.wrap .u64 (t_6 * 2 ^ (32 : Nat))))) R w)
theorem numlaw_Sq.step4 (h_4 : Int) (l_5 : Int) (t_6 : Int) (R : Value → World → Prop) (w : World) (h : numlaw_Sq.V4 h_4 l_5 t_6 R w) : numlaw_Sq.L4 h_4 l_5 t_6 R w :=
  seg_T good mixed Try.func54 600 false [.code (sub (bodyOf Try.f54) [1, 1, 1, 1])] [(4, (.int .u64 h_4)), (5, (.int .u64 l_5)), (6, (.int .u64 t_6))] w (Eq.mp (show numlaw_Sq.V4 h_4 l_5 t_6 R w = seg Try.prog 54 38 Try.f54.results.toList numlaw_Sq.cuts R 600 false [.code (sub (bodyOf Try.f54) [1, 1, 1, 1])] [(4, (.int .u64 h_4)), (5, (.int .u64 l_5)), (6, (.int .u64 t_6))] w by kernel_rfl) h)
def numlaw_Sq.V5 (h_4 : Int) (l_5 : Int) (t_6 : Int) (lo_7 : Int) (R : Value → World → Prop) (w : World) : Prop :=
  (numlaw_Sq.L6 l_5 lo_7 (IntKind.wrap .u64 ((IntKind.wrap .u64 (h_4 * h_4)) + (Int.fdiv t_6 (2 ^ (32 : Nat))))) R w)
theorem numlaw_Sq.step5 (h_4 : Int) (l_5 : Int) (t_6 : Int) (lo_7 : Int) (R : Value → World → Prop) (w : World) (h : numlaw_Sq.V5 h_4 l_5 t_6 lo_7 R w) : numlaw_Sq.L5 h_4 l_5 t_6 lo_7 R w :=
  seg_T good mixed Try.func54 600 false [.code (sub (bodyOf Try.f54) [1, 1, 1, 1, 1])] [(4, (.int .u64 h_4)), (5, (.int .u64 l_5)), (6, (.int .u64 t_6)), (7, (.int .u64 lo_7))] w (Eq.mp (show numlaw_Sq.V5 h_4 l_5 t_6 lo_7 R w = seg Try.prog 54 38 Try.f54.results.toList numlaw_Sq.cuts R 600 false [.code (sub (bodyOf Try.f54) [1, 1, 1, 1, 1])] [(4, (.int .u64 h_4)), (5, (.int .u64 l_5)), (6, (.int .u64 t_6)), (7, (.int .u64 lo_7))] w by kernel_rfl) h)
def numlaw_Sq.V6 (l_5 : Int) (lo_7 : Int) (hi_8 : Int) (R : Value → World → Prop) (w : World) : Prop :=
  (cond (decide (lo_7 < (IntKind.wrap .u64 (l_5 * l_5))))
  (numlaw_Sq.L7 lo_7 (IntKind.wrap .u64 (hi_8 + (1 : Int))) R w)
  (numlaw_Sq.L7 lo_7 hi_8 R w))
theorem numlaw_Sq.step6 (l_5 : Int) (lo_7 : Int) (hi_8 : Int) (R : Value → World → Prop) (w : World) (h : numlaw_Sq.V6 l_5 lo_7 hi_8 R w) : numlaw_Sq.L6 l_5 lo_7 hi_8 R w :=
  seg_T good mixed Try.func54 600 false [.code (sub (bodyOf Try.f54) [1, 1, 1, 1, 1, 1])] [(5, (.int .u64 l_5)), (7, (.int .u64 lo_7)), (8, (.int .u64 hi_8))] w (Eq.mp (show numlaw_Sq.V6 l_5 lo_7 hi_8 R w = seg Try.prog 54 38 Try.f54.results.toList numlaw_Sq.cuts R 600 false [.code (sub (bodyOf Try.f54) [1, 1, 1, 1, 1, 1])] [(5, (.int .u64 l_5)), (7, (.int .u64 lo_7)), (8, (.int .u64 hi_8))] w by kernel_rfl) h)
def numlaw_Sq.V7 (lo_7 : Int) (hi_8 : Int) (R : Value → World → Prop) (w : World) : Prop :=
  (R (.tuple #[(.int .u64 hi_8), (.int .u64 lo_7)]) w)
theorem numlaw_Sq.step7 (lo_7 : Int) (hi_8 : Int) (R : Value → World → Prop) (w : World) (h : numlaw_Sq.V7 lo_7 hi_8 R w) : numlaw_Sq.L7 lo_7 hi_8 R w :=
  seg_T good mixed Try.func54 600 false [.code (sub (bodyOf Try.f54) [1, 1, 1, 1, 1, 1, 1])] [(7, (.int .u64 lo_7)), (8, (.int .u64 hi_8))] w (Eq.mp (show numlaw_Sq.V7 lo_7 hi_8 R w = seg Try.prog 54 38 Try.f54.results.toList numlaw_Sq.cuts R 600 false [.code (sub (bodyOf Try.f54) [1, 1, 1, 1, 1, 1, 1])] [(7, (.int .u64 lo_7)), (8, (.int .u64 hi_8))] w by kernel_rfl) h)
def numlaw_Sq.V (v_0 : Int) (R : Value → World → Prop) (w : World) : Prop :=
  (numlaw_Sq.L1 v_0 R w)
theorem numlaw_Sq.enter (v_0 : Int) (R : Value → World → Prop) (w : World) (h : numlaw_Sq.V v_0 R w) : Runs Try.prog numlaw_Sq.id #[(.int .u64 v_0)] w R :=
  Runs.enter (c := bodyOf Try.f54) (N := 38) Try.func54 (by kernel_rfl) (by kernel_rfl) (by kernel_rfl) (seg_T good mixed Try.func54 600 false [.code (bodyOf Try.f54)] [(0, (.int .u64 v_0))] w (Eq.mp (show numlaw_Sq.V v_0 R w = seg Try.prog 54 38 Try.f54.results.toList numlaw_Sq.cuts R 600 false [.code (bodyOf Try.f54)] [(0, (.int .u64 v_0))] w by kernel_rfl) h))

/-! e2e/api.Cut -/
def api_Cut.cuts : List (Nat × List Nat) := [(4, [1, 10])]
def api_Cut.L1 (v_1 : Int) (t_10 : Bool) (R : Value → World → Prop) (w : World) : Prop :=
  T Try.prog 55 14 [.code (sub (bodyOf Try.f55) [1, 0, 1]), .code (sub (bodyOf Try.f55) [1, 1])] [(1, (.int .u64 v_1)), (10, (.bool t_10))] w R
def api_Cut.V1 (v_1 : Int) (t_10 : Bool) (R : Value → World → Prop) (w : World) : Prop :=
  (cond t_10
  (R (.int .u64 (bAnd .u64 v_1 4294967295)) w)
  (R (.int .u64 v_1) w))
theorem api_Cut.step1 (v_1 : Int) (t_10 : Bool) (R : Value → World → Prop) (w : World) (h : api_Cut.V1 v_1 t_10 R w) : api_Cut.L1 v_1 t_10 R w :=
  seg_T good mixed Try.func55 600 false [.code (sub (bodyOf Try.f55) [1, 0, 1]), .code (sub (bodyOf Try.f55) [1, 1])] [(1, (.int .u64 v_1)), (10, (.bool t_10))] w (Eq.mp (show api_Cut.V1 v_1 t_10 R w = seg Try.prog 55 14 Try.f55.results.toList api_Cut.cuts R 600 false [.code (sub (bodyOf Try.f55) [1, 0, 1]), .code (sub (bodyOf Try.f55) [1, 1])] [(1, (.int .u64 v_1)), (10, (.bool t_10))] w by kernel_rfl) h)
def api_Cut.V (t_0 : Int) (v_1 : Int) (R : Value → World → Prop) (w : World) : Prop :=
  (cond (t_0 == (127 : Int))
  (api_Cut.L1 v_1 true R w)
  (api_Cut.L1 v_1 (t_0 == (125 : Int)) R w))
theorem api_Cut.enter (t_0 : Int) (v_1 : Int) (R : Value → World → Prop) (w : World) (h : api_Cut.V t_0 v_1 R w) : Runs Try.prog api_Cut.id #[(.int .u8 t_0), (.int .u64 v_1)] w R :=
  Runs.enter (c := bodyOf Try.f55) (N := 14) Try.func55 (by kernel_rfl) (by kernel_rfl) (by kernel_rfl) (seg_T good mixed Try.func55 600 false [.code (bodyOf Try.f55)] [(0, (.int .u8 t_0)), (1, (.int .u64 v_1))] w (Eq.mp (show api_Cut.V t_0 v_1 R w = seg Try.prog 55 14 Try.f55.results.toList api_Cut.cuts R 600 false [.code (bodyOf Try.f55)] [(0, (.int .u8 t_0)), (1, (.int .u64 v_1))] w by kernel_rfl) h))

/-! e2e/numlaw.Mag -/
def numlaw_Mag.cuts : List (Nat × List Nat) := []
def numlaw_Mag.V (m_0 : Int) (v_1 : Int) (R : Value → World → Prop) (w : World) : Prop :=
  (cond (decide (v_1 > (Int.fdiv m_0 (2 ^ (1 : Nat)))))
  (R (.int .u64 (bAnd .u64 (IntKind.wrap .u64 ((IntKind.wrap .u64 (m_0 - v_1)) + (1 : Int))) m_0)) w)
  (R (.int .u64 v_1) w))
theorem numlaw_Mag.enter (m_0 : Int) (v_1 : Int) (R : Value → World → Prop) (w : World) (h : numlaw_Mag.V m_0 v_1 R w) : Runs Try.prog numlaw_Mag.id #[(.int .u64 m_0), (.int .u64 v_1)] w R :=
  Runs.enter (c := bodyOf Try.f56) (N := 16) Try.func56 (by kernel_rfl) (by kernel_rfl) (by kernel_rfl) (seg_T good mixed Try.func56 600 false [.code (bodyOf Try.f56)] [(0, (.int .u64 m_0)), (1, (.int .u64 v_1))] w (Eq.mp (show numlaw_Mag.V m_0 v_1 R w = seg Try.prog 56 16 Try.f56.results.toList numlaw_Mag.cuts R 600 false [.code (bodyOf Try.f56)] [(0, (.int .u64 m_0)), (1, (.int .u64 v_1))] w by kernel_rfl) h))

/-! e2e/numm.Apply -/
def numm_Apply.cuts : List (Nat × List Nat) := [(14, [0, 1, 2, 25]), (18, [0, 1, 2, 35]), (22, [0, 1, 2, 47]), (26, [0, 1, 2, 59]), (30, [0, 1, 2, 71]), (34, [0, 1, 2, 83]), (38, [0, 1, 2, 94]), (42, [0, 1, 2, 108]), (46, [0, 1, 2, 119]), (50, [0, 1, 2, 133]), (54, [0, 1, 2, 144]), (58, [0, 1, 2, 156]), (62, [0, 1, 2, 167])]
def numm_Apply.L1 (op_0 : Int) (a_1 : Int) (b_2 : Int) (t_25 : Bool) (R : Value → World → Prop) (w : World) : Prop :=
  T Try.prog 57 184 [.code (sub (bodyOf Try.f57) [1, 1, 1, 1, 1, 0, 0, 1]), .inBlock 0, .code (sub (bodyOf Try.f57) [1, 1, 1, 1, 1, 1])] [(0, (.int .i64 op_0)), (1, (.int .u64 a_1)), (2, (.int .u64 b_2)), (25, (.bool t_25))] w R
def numm_Apply.L2 (op_0 : Int) (a_1 : Int) (b_2 : Int) (t_35 : Bool) (R : Value → World → Prop) (w : World) : Prop :=
  T Try.prog 57 184 [.code (sub (bodyOf Try.f57) [1, 1, 1, 1, 1, 0, 0, 1, 1, 1]), .inBlock 0, .code (sub (bodyOf Try.f57) [1, 1, 1, 1, 1, 1])] [(0, (.int .i64 op_0)), (1, (.int .u64 a_1)), (2, (.int .u64 b_2)), (35, (.bool t_35))] w R
def numm_Apply.L3 (op_0 : Int) (a_1 : Int) (b_2 : Int) (t_47 : Bool) (R : Value → World → Prop) (w : World) : Prop :=
  T Try.prog 57 184 [.code (sub (bodyOf Try.f57) [1, 1, 1, 1, 1, 0, 0, 1, 1, 1, 1, 1]), .inBlock 0, .code (sub (bodyOf Try.f57) [1, 1, 1, 1, 1, 1])] [(0, (.int .i64 op_0)), (1, (.int .u64 a_1)), (2, (.int .u64 b_2)), (47, (.bool t_47))] w R
def numm_Apply.L4 (op_0 : Int) (a_1 : Int) (b_2 : Int) (t_59 : Bool) (R : Value → World → Prop) (w : World) : Prop :=
  T Try.prog 57 184 [.code (sub (bodyOf Try.f57) [1, 1, 1, 1, 1, 0, 0, 1, 1, 1, 1, 1, 1, 1]), .inBlock 0, .code (sub (bodyOf Try.f57) [1, 1, 1, 1, 1, 1])] [(0, (.int .i64 op_0)), (1, (.int .u64 a_1)), (2, (.int .u64 b_2)), (59, (.bool t_59))] w R
def numm_Apply.L5 (op_0 : Int) (a_1 : Int) (b_2 : Int) (t_71 : Bool) (R : Value → World → Prop) (w : World) : Prop :=
  T Try.prog 57 184 [.code (sub (bodyOf Try.f57) [1, 1, 1, 1, 1, 0, 0, 1, 1, 1, 1, 1, 1, 1, 1, 1]), .inBlock 0, .code (sub (bodyOf Try.f57) [1, 1, 1, 1, 1, 1])] [(0, (.int .i64 op_0)), (1, (.int .u64 a_1)), (2, (.int .u64 b_2)), (71, (.bool t_71))] w R
def numm_Apply.L6 (op_0 : Int) (a_1 : Int) (b_2 : Int) (t_83 : Bool) (R : Value → World → Prop) (w : World) : Prop :=
  T Try.prog 57 184 [.code (sub (bodyOf Try.f57) [1, 1, 1, 1, 1, 0, 0, 1, 1, 1, 1, 1, 1, 1, 1, 1, 1, 1]), .inBlock 0, .code (sub (bodyOf Try.f57) [1, 1, 1, 1, 1, 1])] [(0, (.int .i64 op_0)), (1, (.int .u64 a_1)), (2, (.int .u64 b_2)), (83, (.bool t_83))] w R
def numm_Apply.L7 (op_0 : Int) (a_1 : Int) (b_2 : Int) (t_94 : Bool) (R : Value → World → Prop) (w : World) : Prop :=
  T Try.prog 57 184 [.code (sub (bodyOf Try.f57) [1, 1, 1, 1, 1, 0, 0, 1, 1, 1, 1, 1, 1, 1, 1, 1, 1, 1, 1, 1]), .inBlock 0, .code (sub (bodyOf Try.f57) [1, 1, 1, 1, 1, 1])] [(0, (.int .i64 op_0)), (1, (.int .u64 a_1)), (2, (.int .u64 b_2)), (94, (.bool t_94))] w R
def numm_Apply.L8 (op_0 : Int) (a_1 : Int) (b_2 : Int) (t_108 : Bool) (R : Value → World → Prop) (w : World) : Prop :=
  T Try.prog 57 184 [.code (sub (bodyOf Try.f57) [1, 1, 1, 1, 1, 0, 0, 1, 1, 1, 1, 1, 1, 1, 1, 1, 1, 1, 1, 1, 1, 1]), .inBlock 0, .code (sub (bodyOf Try.f57) [1, 1, 1, 1, 1, 1])] [(0, (.int .i64 op_0)), (1, (.int .u64 a_1)), (2, (.int .u64 b_2)), (108, (.bool t_108))] w R
def numm_Apply.L9 (op_0 : Int) (a_1 : Int) (b_2 : Int) (t_119 : Bool) (R : Value → World → Prop) (w : World) : Prop :=
  T Try.prog 57 184 [.code (sub (bodyOf Try.f57) [1, 1, 1, 1, 1, 0, 0, 1, 1, 1, 1, 1, 1, 1, 1, 1, 1, 1, 1, 1, 1, 1, 1, 1]), .inBlock 0, .code (sub (bodyOf Try.f57) [1, 1, 1, 1, 1, 1])] [(0, (.int .i64 op_0)), (1, (.int .u64 a_1)), (2, (.int .u64 b_2)), (119, (.bool t_119))] w R
def numm_Apply.L10 (op_0 : Int) (a_1 : Int) (b_2 : Int) (t_133 : Bool) (R : Value → World → Prop) (w : World) : Prop :=
  T Try.prog 57 184 [.code (sub (bodyOf Try.f57) [1, 1, 1, 1, 1, 0, 0, 1, 1, 1, 1, 1, 1, 1, 1, 1, 1, 1, 1, 1, 1, 1, 1, 1, 1, 1]), .inBlock 0, .code (sub (bodyOf Try.f57) [1, 1, 1, 1, 1, 1])] [(0, (.int .i64 op_0)), (1, (.int .u64 a_1)), (2, (.int .u64 b_2)), (133, (.bool t_133))] w R
def numm_Apply.L11 (op_0 : Int) (a_1 : Int) (b_2 : Int) (t_144 : Bool) (R : Value → World → Prop) (w : World) : Prop :=
  T Try.prog 57 184 [.code (sub (bodyOf Try.f57) [1, 1, 1, 1, 1, 0, 0, 1, 1, 1, 1, 1, 1, 1, 1, 1, 1, 1, 1, 1, 1, 1, 1, 1, 1, 1, 1, 1]), .inBlock 0, .code (sub (bodyOf Try.f57) [1, 1, 1, 1, 1, 1])] [(0, (.int .i64 op_0)), (1, (.int .u64 a_1)), (2, (.int .u64 b_2)), (144, (.bool t_144))] w R
def numm_Apply.L12 (op_0 : Int) (a_1 : Int) (b_2 : Int) (t_156 : Bool) (R : Value → World → Prop) (w : World) : Prop :=
  T Try.prog 57 184 [.code (sub (bodyOf Try.f57) [1, 1, 1, 1, 1, 0, 0, 1, 1, 1, 1, 1, 1, 1, 1, 1, 1, 1, 1, 1, 1, 1, 1, 1, 1, 1, 1, 1, 1, 1]), .inBlock 0, .code (sub (bodyOf Try.f57) [1, 1, 1, 1, 1, 1])] [(0, (.int .i64 op_0)), (1, (.int .u64 a_1)), (2, (.int .u64 b_2)), (156, (.bool t_156))] w R
def numm_Apply.L13 (op_0 : Int) (a_1 : Int) (b_2 : Int) (t_167 : Bool) (R : Value → World → Prop) (w : World) : Prop :=
  T Try.prog 57 184 [.code (sub (bodyOf Try.f57) [1, 1, 1, 1, 1, 0, 0, 1, 1, 1, 1, 1, 1, 1, 1, 1, 1, 1, 1, 1, 1, 1, 1, 1, 1, 1, 1, 1, 1, 1, 1, 1]), .inBlock 0, .code (sub (bodyOf Try.f57) [1, 1, 1, 1, 1, 1])] [(0, (.int .i64 op_0)), (1, (.int .u64 a_1)), (2, (.int .u64 b_2)), (167, (.bool t_167))] w R
def numm_Apply.V1 (op_0 : Int) (a_1 : Int) (b_2 : Int) (t_25 : Bool) (R : Value → World → Prop) (w : World) : Prop :=
  (cond t_25
  (Runs Try.prog numm_flag.id #[(.bool (a_1 == (0 : Int)))] w fun r1 w2 => (∃ x3 : Int, (r1 = (.int .u64 x3) ∧ (R (.tuple #[(.int .u64 x3), (.int .i64 0)]) w2))))
  (cond (decide (op_0 ≥ (70 : Int)))
  (numm_Apply.L2 op_0 a_1 b_2 (decide (op_0 ≤ (79 : Int))) R w)
  (numm_Apply.L2 op_0 a_1 b_2 false R w)))
theorem numm_Apply.step1 (op_0 : Int) (a_1 : Int) (b_2 : Int) (t_25 : Bool) (R : Value → World → Prop) (w : World) (h : numm_Apply.V1 op_0 a_1 b_2 t_25 R w) : numm_Apply.L1 op_0 a_1 b_2 t_25 R w :=
  seg_T good mixed Try.func57 600 false [.code (sub (bodyOf Try.f57) [1, 1, 1, 1, 1, 0, 0, 1]), .inBlock 0, .code (sub (bodyOf Try.f57) [1, 1, 1, 1, 1, 1])] [(0, (.int .i64 op_0)), (1, (.int .u64 a_1)), (2, (.int .u64 b_2)), (25, (.bool t_25))] w (Eq.mp (show numm_Apply.V1 op_0 a_1 b_2 t_25 R w = seg Try.prog 57 184 Try.f57.results.toList numm_Apply.cuts R 600 false [.code (sub (bodyOf Try.f57) [1, 1, 1, 1, 1, 0, 0, 1]), .inBlock 0, .code (sub (bodyOf Try.f57) [1, 1, 1, 1, 1, 1])] [(0, (.int .i64 op_0)), (1, (.int .u64 a_1)), (2, (.int .u64 b_2)), (25, (.bool t_25))] w by kernel_rfl) h)
def numm_Apply.V2 (op_0 : Int) (a_1 : Int) (b_2 : Int) (t_35 : Bool) (R : Value → World → Prop) (w : World) : Prop :=
  (cond t_35
  (Runs Try.prog numm_intCmp.id #[(.int .i64 (IntKind.wrap .i64 (op_0 - (70 : Int)))), (.int .i64 32), (.int .u64 a_1), (.int .u64 b_2)] w fun r1 w2 => (∃ x3 : Int, (r1 = (.int .u64 x3) ∧ (R (.tuple #[(.int .u64 x3), (.int .i64 0)]) w2))))
  (cond (decide (op_0 ≥ (81 : Int)))
  (numm_Apply.L3 op_0 a_1 b_2 (decide (op_0 ≤ (90 : Int))) R w)
  (numm_Apply.L3 op_0 a_1 b_2 false R w)))
theorem numm_Apply.step2 (op_0 : Int) (a_1 : Int) (b_2 : Int) (t_35 : Bool) (R : Value → World → Prop) (w : World) (h : numm_Apply.V2 op_0 a_1 b_2 t_35 R w) : numm_Apply.L2 op_0 a_1 b_2 t_35 R w :=
  seg_T good mixed Try.func57 600 false [.code (sub (bodyOf Try.f57) [1, 1, 1, 1, 1, 0, 0, 1, 1, 1]), .inBlock 0, .code (sub (bodyOf Try.f57) [1, 1, 1, 1, 1, 1])] [(0, (.int .i64 op_0)), (1, (.int .u64 a_1)), (2, (.int .u64 b_2)), (35, (.bool t_35))] w (Eq.mp (show numm_Apply.V2 op_0 a_1 b_2 t_35 R w = seg Try.prog 57 184 Try.f57.results.toList numm_Apply.cuts R 600 false [.code (sub (bodyOf Try.f57) [1, 1, 1, 1, 1, 0, 0, 1, 1, 1]), .inBlock 0, .code (sub (bodyOf Try.f57) [1, 1, 1, 1, 1, 1])] [(0, (.int .i64 op_0)), (1, (.int .u64 a_1)), (2, (.int .u64 b_2)), (35, (.bool t_35))] w by kernel_rfl) h)
def numm_Apply.V3 (op_0 : Int) (a_1 : Int) (b_2 : Int) (t_47 : Bool) (R : Value → World → Prop) (w : World) : Prop :=
  (cond t_47
  (Runs Try.prog numm_intCmp.id #[(.int .i64 (IntKind.wrap .i64 (op_0 - (81 : Int)))), (.int .i64 64), (.int .u64 a_1), (.int .u64 b_2)] w fun r1 w2 => (∃ x3 : Int, (r1 = (.int .u64 x3) ∧ (R (.tuple #[(.int .u64 x3), (.int .i64 0)]) w2))))
  (cond (decide (op_0 ≥ (91 : Int)))
  (numm_Apply.L4 op_0 a_1 b_2 (decide (op_0 ≤ (96 : Int))) R w)
  (numm_Apply.L4 op_0 a_1 b_2 false R w)))
theorem numm_Apply.step3 (op_0 : Int) (a_1 : Int) (b_2 : Int) (t_47 : Bool) (R : Value → World → Prop) (w : World) (h : numm_Apply.V3 op_0 a_1 b_2 t_47 R w) : numm_Apply.L3 op_0 a_1 b_2 t_47 R w :=
  seg_T good mixed Try.func57 600 false [.code (sub (bodyOf Try.f57) [1, 1, 1, 1, 1, 0, 0, 1, 1, 1, 1, 1]), .inBlock 0, .code (sub (bodyOf Try.f57) [1, 1, 1, 1, 1, 1])] [(0, (.int .i64 op_0)), (1, (.int .u64 a_1)), (2, (.int .u64 b_2)), (47, (.bool t_47))] w (Eq.mp (show numm_Apply.V3 op_0 a_1 b_2 t_47 R w = seg Try.prog 57 184 Try.f57.results.toList numm_Apply.cuts R 600 false [.code (sub (bodyOf Try.f57) [1, 1, 1, 1, 1, 0, 0, 1, 1, 1, 1, 1]), .inBlock 0, .code (sub (bodyOf Try.f57) [1, 1, 1, 1, 1, 1])] [(0, (.int .i64 op_0)), (1, (.int .u64 a_1)), (2, (.int .u64 b_2)), (47, (.bool t_47))] w by kernel_rfl) h)
def numm_Apply.V4 (op_0 : Int) (a_1 : Int) (b_2 : Int) (t_59 : Bool) (R : Value → World → Prop) (w : World) : Prop :=
  (cond t_59
  (Runs Try.prog numm_fltCmp.id #[(.int .i64 (IntKind.wrap .i64 (op_0 - (91 : Int)))), (.int .i64 32), (.int .u64 a_1), (.int .u64 b_2)] w fun r1 w2 => (∃ x3 : Int, (r1 = (.int .u64 x3) ∧ (R (.tuple #[(.int .u64 x3), (.int .i64 0)]) w2))))
  (cond (decide (op_0 ≥ (97 : Int)))
  (numm_Apply.L5 op_0 a_1 b_2 (decide (op_0 ≤ (102 : Int))) R w)
  (numm_Apply.L5 op_0 a_1 b_2 false R w)))
theorem numm_Apply.step4 (op_0 : Int) (a_1 : Int) (b_2 : Int) (t_59 : Bool) (R : Value → World → Prop) (w : World) (h : numm_Apply.V4 op_0 a_1 b_2 t_59 R w) : numm_Apply.L4 op_0 a_1 b_2 t_59 R w :=
  seg_T good mixed Try.func57 600 false [.code (sub (bodyOf Try.f57) [1, 1, 1, 1, 1, 0, 0, 1, 1, 1, 1, 1, 1, 1]), .inBlock 0, .code (sub (bodyOf Try.f57) [1, 1, 1, 1, 1, 1])] [(0, (.int .i64 op_0)), (1, (.int .u64 a_1)), (2, (.int .u64 b_2)), (59, (.bool t_59))] w (Eq.mp (show numm_Apply.V4 op_0 a_1 b_2 t_59 R w = seg Try.prog 57 184 Try.f57.results.toList numm_Apply.cuts R 600 false [.code (sub (bodyOf Try.f57) [1, 1, 1, 1, 1, 0, 0, 1, 1, 1, 1, 1, 1, 1]), .inBlock 0, .code (sub (bodyOf Try.f57) [1, 1, 1, 1, 1, 1])] [(0, (.int .i64 op_0)), (1, (.int .u64 a_1)), (2, (.int .u64 b_2)), (59, (.bool t_59))] w by kernel_rfl) h)
def numm_Apply.V5 (op_0 : Int) (a_1 : Int) (b_2 : Int) (t_71 : Bool) (R : Value → World → Prop) (w : World) : Prop :=
  (cond t_71
  (Runs Try.prog numm_fltCmp.id #[(.int .i64 (IntKind.wrap .i64 (op_0 - (97 : Int)))), (.int .i64 64), (.int .u64 a_1), (.int .u64 b_2)] w fun r1 w2 => (∃ x3 : Int, (r1 = (.int .u64 x3) ∧ (R (.tuple #[(.int .u64 x3), (.int .i64 0)]) w2))))
  (cond (decide (op_0 ≥ (103 : Int)))
  (numm_Apply.L6 op_0 a_1 b_2 (decide (op_0 ≤ (105 : Int))) R w)
  (numm_Apply.L6 op_0 a_1 b_2 false R w)))
theorem numm_Apply.step5 (op_0 : Int) (a_1 : Int) (b_2 : Int) (t_71 : Bool) (R : Value → World → Prop) (w : World) (h : numm_Apply.V5 op_0 a_1 b_2 t_71 R w) : numm_Apply.L5 op_0 a_1 b_2 t_71 R w :=
  seg_T good mixed Try.func57 600 false [.code (sub (bodyOf Try.f57) [1, 1, 1, 1, 1, 0, 0, 1, 1, 1, 1, 1, 1, 1, 1, 1]), .inBlock 0, .code (sub (bodyOf Try.f57) [1, 1, 1, 1, 1, 1])] [(0, (.int .i64 op_0)), (1, (.int .u64 a_1)), (2, (.int .u64 b_2)), (71, (.bool t_71))] w (Eq.mp (show numm_Apply.V5 op_0 a_1 b_2 t_71 R w = seg Try.prog 57 184 Try.f57.results.toList numm_Apply.cuts R 600 false [.code (sub (bodyOf Try.f57) [1, 1, 1, 1, 1, 0, 0, 1, 1, 1, 1, 1, 1, 1, 1, 1]), .inBlock 0, .code (sub (bodyOf Try.f57) [1, 1, 1, 1, 1, 1])] [(0, (.int .i64 op_0)), (1, (.int .u64 a_1)), (2, (.int .u64 b_2)), (71, (.bool t_71))] w by kernel_rfl) h)
def numm_Apply.V6 (op_0 : Int) (a_1 : Int) (b_2 : Int) (t_83 : Bool) (R : Value → World → Prop) (w : World) : Prop :=
  (cond t_83
  (Runs Try.prog numm_intUn.id #[(.int .i64 (IntKind.wrap .i64 (op_0 - (103 : Int)))), (.int .i64 32), (.int .u64 a_1)] w fun r1 w2 => (∃ x3 : Int, (r1 = (.int .u64 x3) ∧ (R (.tuple #[(.int .u64 x3), (.int .i64 0)]) w2))))
  (cond (decide (op_0 ≥ (106 : Int)))
  (numm_Apply.L7 op_0 a_1 b_2 (decide (op_0 ≤ (120 : Int))) R w)
  (numm_Apply.L7 op_0 a_1 b_2 false R w)))
theorem numm_Apply.step6 (op_0 : Int) (a_1 : Int) (b_2 : Int) (t_83 : Bool) (R : Value → World → Prop) (w : World) (h : numm_Apply.V6 op_0 a_1 b_2 t_83 R w) : numm_Apply.L6 op_0 a_1 b_2 t_83 R w :=
  seg_T good mixed Try.func57 600 false [.code (sub (bodyOf Try.f57) [1, 1, 1, 1, 1, 0, 0, 1, 1, 1, 1, 1, 1, 1, 1, 1, 1, 1]), .inBlock 0, .code (sub (bodyOf Try.f57) [1, 1, 1, 1, 1, 1])] [(0, (.int .i64 op_0)), (1, (.int .u64 a_1)), (2, (.int .u64 b_2)), (83, (.bool t_83))] w (Eq.mp (show numm_Apply.V6 op_0 a_1 b_2 t_83 R w = seg Try.prog 57 184 Try.f57.results.toList numm_Apply.cuts R 600 false [.code (sub (bodyOf Try.f57) [1, 1, 1, 1, 1, 0, 0, 1, 1, 1, 1, 1, 1, 1, 1, 1, 1, 1]), .inBlock 0, .code (sub (bodyOf Try.f57) [1, 1, 1, 1, 1, 1])] [(0, (.int .i64 op_0)), (1, (.int .u64 a_1)), (2, (.int .u64 b_2)), (83, (.bool t_83))] w by kernel_rfl) h)
def numm_Apply.V7 (op_0 : Int) (a_1 : Int) (b_2 : Int) (t_94 : Bool) (R : Value → World → Prop) (w : World) : Prop :=
  (cond t_94
  (Runs Try.prog numm_intBin.id #[(.int .i64 (IntKind.wrap .i64 (op_0 - (106 : Int)))), (.int .i64 32), (.int .u64 a_1), (.int .u64 b_2)] w fun r1 w2 => (∃ x3 : Int, ∃ x4 : Int, (r1 = (.tuple #[(.int .u64 x3), (.int .i64 x4)]) ∧ (R (.tuple #[(.int .u64 x3), (.int .i64 x4)]) w2))))
  (cond (decide (op_0 ≥ (121 : Int)))
  (numm_Apply.L8 op_0 a_1 b_2 (decide (op_0 ≤ (123 : Int))) R w)
  (numm_Apply.L8 op_0 a_1 b_2 false R w)))
theorem numm_Apply.step7 (op_0 : Int) (a_1 : Int) (b_2 : Int) (t_94 : Bool) (R : Value → World → Prop) (w : World) (h : numm_Apply.V7 op_0 a_1 b_2 t_94 R w) : numm_Apply.L7 op_0 a_1 b_2 t_94 R w :=
  seg_T good mixed Try.func57 600 false [.code (sub (bodyOf Try.f57) [1, 1, 1, 1, 1, 0, 0, 1, 1, 1, 1, 1, 1, 1, 1, 1, 1, 1, 1, 1]), .inBlock 0, .code (sub (bodyOf Try.f57) [1, 1, 1, 1, 1, 1])] [(0, (.int .i64 op_0)), (1, (.int .u64 a_1)), (2, (.int .u64 b_2)), (94, (.bool t_94))] w (Eq.mp (show numm_Apply.V7 op_0 a_1 b_2 t_94 R w = seg Try.prog 57 184 Try.f57.results.toList numm_Apply.cuts R 600 false [.code (sub (bodyOf Try.f57) [1, 1, 1, 1, 1, 0, 0, 1, 1, 1, 1, 1, 1, 1, 1, 1, 1, 1, 1, 1]), .inBlock 0, .code (sub (bodyOf Try.f57) [1, 1, 1, 1, 1, 1])] [(0, (.int .i64 op_0)), (1, (.int .u64 a_1)), (2, (.int .u64 b_2)), (94, (.bool t_94))] w by kernel_rfl) h)
def numm_Apply.V8 (op_0 : Int) (a_1 : Int) (b_2 : Int) (t_108 : Bool) (R : Value → World → Prop) (w : World) : Prop :=
  (cond t_108
  (Runs Try.prog numm_intUn.id #[(.int .i64 (IntKind.wrap .i64 (op_0 - (121 : Int)))), (.int .i64 64), (.int .u64 a_1)] w fun r1 w2 => (∃ x3 : Int, (r1 = (.int .u64 x3) ∧ (R (.tuple #[(.int .u64 x3), (.int .i64 0)]) w2))))
  (cond (decide (op_0 ≥ (124 : Int)))
  (numm_Apply.L9 op_0 a_1 b_2 (decide (op_0 ≤ (138 : Int))) R w)
  (numm_Apply.L9 op_0 a_1 b_2 false R w)))
theorem numm_Apply.step8 (op_0 : Int) (a_1 : Int) (b_2 : Int) (t_108 : Bool) (R : Value → World → Prop) (w : World) (h : numm_Apply.V8 op_0 a_1 b_2 t_108 R w) : numm_Apply.L8 op_0 a_1 b_2 t_108 R w :=
  seg_T good mixed Try.func57 600 false [.code (sub (bodyOf Try.f57) [1, 1, 1, 1, 1, 0, 0, 1, 1, 1, 1, 1, 1, 1, 1, 1, 1, 1, 1, 1, 1, 1]), .inBlock 0, .code (sub (bodyOf Try.f57) [1, 1, 1, 1, 1, 1])] [(0, (.int .i64 op_0)), (1, (.int .u64 a_1)), (2, (.int .u64 b_2)), (108, (.bool t_108))] w (Eq.mp (show numm_Apply.V8 op_0 a_1 b_2 t_108 R w = seg Try.prog 57 184 Try.f57.results.toList numm_Apply.cuts R 600 false [.code (sub (bodyOf Try.f57) [1, 1, 1, 1, 1, 0, 0, 1, 1, 1, 1, 1, 1, 1, 1, 1, 1, 1, 1, 1, 1, 1]), .inBlock 0, .code (sub (bodyOf Try.f57) [1, 1, 1, 1, 1, 1])] [(0, (.int .i64 op_0)), (1, (.int .u64 a_1)), (2, (.int .u64 b_2)), (108, (.bool t_108))] w by kernel_rfl) h)
def numm_Apply.V9 (op_0 : Int) (a_1 : Int) (b_2 : Int) (t_119 : Bool) (R : Value → World → Prop) (w : World) : Prop :=
  (cond t_119
  (Runs Try.prog numm_intBin.id #[(.int .i64 (IntKind.wrap .i64 (op_0 - (124 : Int)))), (.int .i64 64), (.int .u64 a_1), (.int .u64 b_2)] w fun r1 w2 => (∃ x3 : Int, ∃ x4 : Int, (r1 = (.tuple #[(.int .u64 x3), (.int .i64 x4)]) ∧ (R (.tuple #[(.int .u64 x3), (.int .i64 x4)]) w2))))
  (cond (decide (op_0 ≥ (139 : Int)))
  (numm_Apply.L10 op_0 a_1 b_2 (decide (op_0 ≤ (145 : Int))) R w)
  (numm_Apply.L10 op_0 a_1 b_2 false R w)))
theorem numm_Apply.step9 (op_0 : Int) (a_1 : Int) (b_2 : Int) (t_119 : Bool) (R : Value → World → Prop) (w : World) (h : numm_Apply.V9 op_0 a_1 b_2 t_119 R w) : numm_Apply.L9 op_0 a_1 b_2 t_119 R w :=
  seg_T good mixed Try.func57 600 false [.code (sub (bodyOf Try.f57) [1, 1, 1, 1, 1, 0, 0, 1, 1, 1, 1, 1, 1, 1, 1, 1, 1, 1, 1, 1, 1, 1, 1, 1]), .inBlock 0, .code (sub (bodyOf Try.f57) [1, 1, 1, 1, 1, 1])] [(0, (.int .i64 op_0)), (1, (.int .u64 a_1)), (2, (.int .u64 b_2)), (119, (.bool t_119))] w (Eq.mp (show numm_Apply.V9 op_0 a_1 b_2 t_119 R w = seg Try.prog 57 184 Try.f57.results.toList numm_Apply.cuts R 600 false [.code (sub (bodyOf Try.f57) [1, 1, 1, 1, 1, 0, 0, 1, 1, 1, 1, 1, 1, 1, 1, 1, 1, 1, 1, 1, 1, 1, 1, 1]), .inBlock 0, .code (sub (bodyOf Try.f57) [1, 1, 1, 1, 1, 1])] [(0, (.int .i64 op_0)), (1, (.int .u64 a_1)), (2, (.int .u64 b_2)), (119, (.bool t_119))] w by kernel_rfl) h)
def numm_Apply.V10 (op_0 : Int) (a_1 : Int) (b_2 : Int) (t_133 : Bool) (R : Value → World → Prop) (w : World) : Prop :=
  (cond t_133
  (Runs Try.prog numm_fltUn.id #[(.int .i64 (IntKind.wrap .i64 (op_0 - (139 : Int)))), (.int .i64 32), (.int .u64 a_1)] w fun r1 w2 => (∃ x3 : Int, (r1 = (.int .u64 x3) ∧ (R (.tuple #[(.int .u64 x3), (.int .i64 0)]) w2))))
  (cond (decide (op_0 ≥ (146 : Int)))
  (numm_Apply.L11 op_0 a_1 b_2 (decide (op_0 ≤ (152 : Int))) R w)
  (numm_Apply.L11 op_0 a_1 b_2 false R w)))
theorem numm_Apply.step10 (op_0 : Int) (a_1 : Int) (b_2 : Int) (t_133 : Bool) (R : Value → World → Prop) (w : World) (h : numm_Apply.V10 op_0 a_1 b_2 t_133 R w) : numm_Apply.L10 op_0 a_1 b_2 t_133 R w :=
  seg_T good mixed Try.func57 600 false [.code (sub (bodyOf Try.f57) [1, 1, 1, 1, 1, 0, 0, 1, 1, 1, 1, 1, 1, 1, 1, 1, 1, 1, 1, 1, 1, 1, 1, 1, 1, 1]), .inBlock 0, .code (sub (bodyOf Try.f57) [1, 1, 1, 1, 1, 1])] [(0, (.int .i64 op_0)), (1, (.int .u64 a_1)), (2, (.int .u64 b_2)), (133, (.bool t_133))] w (Eq.mp (show numm_Apply.V10 op_0 a_1 b_2 t_133 R w = seg Try.prog 57 184 Try.f57.results.toList numm_Apply.cuts R 600 false [.code (sub (bodyOf Try.f57) [1, 1, 1, 1, 1, 0, 0, 1, 1, 1, 1, 1, 1, 1, 1, 1, 1, 1, 1, 1, 1, 1, 1, 1, 1, 1]), .inBlock 0, .code (sub (bodyOf Try.f57) [1, 1, 1, 1, 1, 1])] [(0, (.int .i64 op_0)), (1, (.int .u64 a_1)), (2, (.int .u64 b_2)), (133, (.bool t_133))] w by kernel_rfl) h)
def numm_Apply.V11 (op_0 : Int) (a_1 : Int) (b_2 : Int) (t_144 : Bool) (R : Value → World → Prop) (w : World) : Prop :=
  (cond t_144
  (Runs Try.prog numm_fltBin.id #[(.int .i64 (IntKind.wrap .i64 (op_0 - (146 : Int)))), (.int .i64 32), (.int .u64 a_1), (.int .u64 b_2)] w fun r1 w2 => (∃ x3 : Int, (r1 = (.int .u64 x3) ∧ (R (.tuple #[(.int .u64 x3), (.int .i64 0)]) w2))))
  (cond (decide (op_0 ≥ (153 : Int)))
  (numm_Apply.L12 op_0 a_1 b_2 (decide (op_0 ≤ (159 : Int))) R w)
  (numm_Apply.L12 op_0 a_1 b_2 false R w)))
theorem numm_Apply.step11 (op_0 : Int) (a_1 : Int) (b_2 : Int) (t_144 : Bool) (R : Value → World → Prop) (w : World) (h : numm_Apply.V11 op_0 a_1 b_2 t_144 R w) : numm_Apply.L11 op_0 a_1 b_2 t_144 R w :=
  seg_T good mixed Try.func57 600 false [.code (sub (bodyOf Try.f57) [1, 1, 1, 1, 1, 0, 0, 1, 1, 1, 1, 1, 1, 1, 1, 1, 1, 1, 1, 1, 1, 1, 1, 1, 1, 1, 1, 1]), .inBlock 0, .code (sub (bodyOf Try.f57) [1, 1, 1, 1, 1, 1])] [(0, (.int .i64 op_0)), (1, (.int .u64 a_1)), (2, (.int .u64 b_2)), (144, (.bool t_144))] w (Eq.mp (show numm_Apply.V11 op_0 a_1 b_2 t_144 R w = seg Try.prog 57 184 Try.f57.results.toList numm_Apply.cuts R 600 false [.code (sub (bodyOf Try.f57) [1, 1, 1, 1, 1, 0, 0, 1, 1, 1, 1, 1, 1, 1, 1, 1, 1, 1, 1, 1, 1, 1, 1, 1, 1, 1, 1, 1]), .inBlock 0, .code (sub (bodyOf Try.f57) [1, 1, 1, 1, 1, 1])] [(0, (.int .i64 op_0)), (1, (.int .u64 a_1)), (2, (.int .u64 b_2)), (144, (.bool t_144))] w by kernel_rfl) h)
def numm_Apply.V12 (op_0 : Int) (a_1 : Int) (b_2 : Int) (t_156 : Bool) (R : Value → World → Prop) (w : World) : Prop :=
  (cond t_156
  (Runs Try.prog numm_fltUn.id #[(.int .i64 (IntKind.wrap .i64 (op_0 - (153 : Int)))), (.int .i64 64), (.int .u64 a_1)] w fun r1 w2 => (∃ x3 : Int, (r1 = (.int .u64 x3) ∧ (R (.tuple #[(.int .u64 x3), (.int .i64 0)]) w2))))
  (cond (decide (op_0 ≥ (160 : Int)))
  (numm_Apply.L13 op_0 a_1 b_2 (decide (op_0 ≤ (166 : Int))) R w)
  (numm_Apply.L13 op_0 a_1 b_2 false R w)))
theorem numm_Apply.step12 (op_0 : Int) (a_1 : Int) (b_2 : Int) (t_156 : Bool) (R : Value → World → Prop) (w : World) (h : numm_Apply.V12 op_0 a_1 b_2 t_156 R w) : numm_Apply.L12 op_0 a_1 b_2 t_156 R w :=
  seg_T good mixed Try.func57 600 false [.code (sub (bodyOf Try.f57) [1, 1, 1, 1, 1, 0, 0, 1, 1, 1, 1, 1, 1, 1, 1, 1, 1, 1, 1, 1, 1, 1, 1, 1, 1, 1, 1, 1, 1, 1]), .inBlock 0, .code (sub (bodyOf Try.f57) [1, 1, 1, 1, 1, 1])] [(0, (.int .i64 op_0)), (1, (.int .u64 a_1)), (2, (.int .u64 b_2)), (156, (.bool t_156))] w (Eq.mp (show numm_Apply.V12 op_0 a_1 b_2 t_156 R w = seg Try.prog 57 184 Try.f57.results.toList numm_Apply.cuts R 600 false [.code (sub (bodyOf Try.f57) [1, 1, 1, 1, 1, 0, 0, 1, 1, 1, 1, 1, 1, 1, 1, 1, 1, 1, 1, 1, 1, 1, 1, 1, 1, 1, 1, 1, 1, 1]), .inBlock 0, .code (sub (bodyOf Try.f57) [1, 1, 1, 1, 1, 1])] [(0, (.int .i64 op_0)), (1, (.int .u64 a_1)), (2, (.int .u64 b_2)), (156, (.bool t_156))] w by kernel_rfl) h)
def numm_Apply.V13 (op_0 : Int) (a_1 : Int) (b_2 : Int) (t_167 : Bool) (R : Value → World → Prop) (w : World) : Prop :=
  (cond t_167
  (Runs Try.prog numm_fltBin.id #[(.int .i64 (IntKind.wrap .i64 (op_0 - (160 : Int)))), (.int .i64 64), (.int .u64 a_1), (.int .u64 b_2)] w fun r1 w2 => (∃ x3 : Int, (r1 = (.int .u64 x3) ∧ (R (.tuple #[(.int .u64 x3), (.int .i64 0)]) w2))))
  (Runs Try.prog numm_convert.id #[(.int .i64 op_0), (.int .u64 a_1)] w fun r4 w5 => (∃ x6 : Int, ∃ x7 : Int, (r4 = (.tuple #[(.int .u64 x6), (.int .i64 x7)]) ∧ (R (.tuple #[(.int .u64 x6), (.int .i64 x7)]) w5)))))
theorem numm_Apply.step13 (op_0 : Int) (a_1 : Int) (b_2 : Int) (t_167 : Bool) (R : Value → World → Prop) (w : World) (h : numm_Apply.V13 op_0 a_1 b_2 t_167 R w) : numm_Apply.L13 op_0 a_1 b_2 t_167 R w :=
  seg_T good mixed Try.func57 600 false [.code (sub (bodyOf Try.f57) [1, 1, 1, 1, 1, 0, 0, 1, 1, 1, 1, 1, 1, 1, 1, 1, 1, 1, 1, 1, 1, 1, 1, 1, 1, 1, 1, 1, 1, 1, 1, 1]), .inBlock 0, .code (sub (bodyOf Try.f57) [1, 1, 1, 1, 1, 1])] [(0, (.int .i64 op_0)), (1, (.int .u64 a_1)), (2, (.int .u64 b_2)), (167, (.bool t_167))] w (Eq.mp (show numm_Apply.V13 op_0 a_1 b_2 t_167 R w = seg Try.prog 57 184 Try.f57.results.toList numm_Apply.cuts R 600 false [.code (sub (bodyOf Try.f57) [1, 1, 1, 1, 1, 0, 0, 1, 1, 1, 1, 1, 1, 1, 1, 1, 1, 1, 1, 1, 1, 1, 1, 1, 1, 1, 1, 1, 1, 1, 1, 1]), .inBlock 0, .code (sub (bodyOf Try.f57) [1, 1, 1, 1, 1, 1])] [(0, (.int .i64 op_0)), (1, (.int .u64 a_1)), (2, (.int .u64 b_2)), (167, (.bool t_167))] w by kernel_rfl) h)
def numm_Apply.V (op_0 : Int) (a_1 : Int) (b_2 : Int) (R : Value → World → Prop) (w : World) : Prop :=
  (Runs Try.prog api_NumSig.id #[(.int .i64 op_0)] w fun r4 w5 => (∃ x6 : Int, ∃ x7 : Int, ∃ x8 : Int, (r4 = (.tuple #[(.int .i64 x6), (.int .u8 x7), (.int .u8 x8)]) ∧ (cond (x6 == (0 : Int))
  (R (.tuple #[(.int .u64 0), (.int .i64 35)]) w5)
  (Runs Try.prog api_Cut.id #[(.int .u8 x7), (.int .u64 a_1)] w5 fun r9 w10 => (∃ x11 : Int, (r9 = (.int .u64 x11) ∧ (Runs Try.prog api_Cut.id #[(.int .u8 x7), (.int .u64 b_2)] w10 fun r12 w13 => (∃ x14 : Int, (r12 = (.int .u64 x14) ∧ (cond (op_0 == (69 : Int))
  (numm_Apply.L1 op_0 x11 x14 true R w13)
  (numm_Apply.L1 op_0 x11 x14 (op_0 == (80 : Int)) R w13))))))))))))
theorem numm_Apply.enter (op_0 : Int) (a_1 : Int) (b_2 : Int) (R : Value → World → Prop) (w : World) (h : numm_Apply.V op_0 a_1 b_2 R w) : Runs Try.prog numm_Apply.id #[(.int .i64 op_0), (.int .u64 a_1), (.int .u64 b_2)] w R :=
  Runs.enter (c := bodyOf Try.f57) (N := 184) Try.func57 (by kernel_rfl) (by kernel_rfl) (by kernel_rfl) (seg_T good mixed Try.func57 600 false [.code (bodyOf Try.f57)] [(0, (.int .i64 op_0)), (1, (.int .u64 a_1)), (2, (.int .u64 b_2))] w (Eq.mp (show numm_Apply.V op_0 a_1 b_2 R w = seg Try.prog 57 184 Try.f57.results.toList numm_Apply.cuts R 600 false [.code (bodyOf Try.f57)] [(0, (.int .i64 op_0)), (1, (.int .u64 a_1)), (2, (.int .u64 b_2))] w by kernel_rfl) h))

/-! e2e/num.flag -/
def num_flag.cuts : List (Nat × List Nat) := []
def num_flag.V (c_0 : Bool) (R : Value → World → Prop) (w : World) : Prop :=
  (cond c_0
  (R (.int .u64 1) w)
  (R (.int .u64 0) w))
theorem num_flag.enter (c_0 : Bool) (R : Value → World → Prop) (w : World) (h : num_flag.V c_0 R w) : Runs Try.prog num_flag.id #[(.bool c_0)] w R :=
  Runs.enter (c := bodyOf Try.f58) (N := 4) Try.func58 (by kernel_rfl) (by kernel_rfl) (by kernel_rfl) (seg_T good mixed Try.func58 600 false [.code (bodyOf Try.f58)] [(0, (.bool c_0))] w (Eq.mp (show num_flag.V c_0 R w = seg Try.prog 58 4 Try.f58.results.toList num_flag.cuts R 600 false [.code (bodyOf Try.f58)] [(0, (.bool c_0))] w by kernel_rfl) h))

/-! e2e/num.rel32 -/
def num_rel32.cuts : List (Nat × List Nat) := []
def num_rel32.V (op_0 : Int) (x_1 : Int) (y_2 : Int) (R : Value → World → Prop) (w : World) : Prop :=
  (cond (op_0 == (69 : Int))
  (R (.bool (x_1 == (0 : Int))) w)
  (cond (op_0 == (70 : Int))
  (R (.bool (x_1 == y_2)) w)
  (cond (op_0 == (71 : Int))
  (R (.bool (x_1 != y_2)) w)
  (cond (op_0 == (72 : Int))
  (R (.bool (decide ((IntKind.wrap .i32 x_1) < (IntKind.wrap .i32 y_2)))) w)
  (cond (op_0 == (73 : Int))
  (R (.bool (decide (x_1 < y_2))) w)
  (cond (op_0 == (74 : Int))
  (R (.bool (decide ((IntKind.wrap .i32 x_1) > (IntKind.wrap .i32 y_2)))) w)
  (cond (op_0 == (75 : Int))
  (R (.bool (decide (x_1 > y_2))) w)
  (cond (op_0 == (76 : Int))
  (R (.bool (decide ((IntKind.wrap .i32 x_1) ≤ (IntKind.wrap .i32 y_2)))) w)
  (cond (op_0 == (77 : Int))
  (R (.bool (decide (x_1 ≤ y_2))) w)
  (cond (op_0 == (78 : Int))
  (R (.bool (decide ((IntKind.wrap .i32 x_1) ≥ (IntKind.wrap .i32 y_2)))) w)
  (R (.bool (decide (x_1 ≥ y_2))) w)))))))))))
theorem num_rel32.enter (op_0 : Int) (x_1 : Int) (y_2 : Int) (R : Value → World → Prop) (w : World) (h : num_rel32.V op_0 x_1 y_2 R w) : Runs Try.prog num_rel32.id #[(.int .i64 op_0), (.int .u32 x_1), (.int .u32 y_2)] w R :=
  Runs.enter (c := bodyOf Try.f59) (N := 68) Try.func59 (by kernel_rfl) (by kernel_rfl) (by kernel_rfl) (seg_T good mixed Try.func59 600 false [.code (bodyOf Try.f59)] [(0, (.int .i64 op_0)), (1, (.int .u32 x_1)), (2, (.int .u32 y_2))] w (Eq.mp (show num_rel32.V op_0 x_1 y_2 R w = seg Try.prog 59 68 Try.f59.results.toList num_rel32.cuts R 600 false [.code (bodyOf Try.f59)] [(0, (.int .i64 op_0)), (1, (.int .u32 x_1)), (2, (.int .u32 y_2))] w by kernel_rfl) h))

/-! e2e/num.rel64 -/
def num_rel64.cuts : List (Nat × List Nat) := []
def num_rel64.V (op_0 : Int) (x_1 : Int) (y_2 : Int) (R : Value → World → Prop) (w : World) : Prop :=
  (cond (op_0 == (80 : Int))
  (R (.bool (x_1 == (0 : Int))) w)
  (cond (op_0 == (81 : Int))
  (R (.bool (x_1 == y_2)) w)
  (cond (op_0 == (82 : Int))
  (R (.bool (x_1 != y_2)) w)
  (cond (op_0 == (83 : Int))
  (R (.bool (decide ((IntKind.wrap .i64 x_1) < (IntKind.wrap .i64 y_2)))) w)
  (cond (op_0 == (84 : Int))
  (R (.bool (decide (x_1 < y_2))) w)
  (cond (op_0 == (85 : Int))
  (R (.bool (decide ((IntKind.wrap .i64 x_1) > (IntKind.wrap .i64 y_2)))) w)
  (cond (op_0 == (86 : Int))
  (R (.bool (decide (x_1 > y_2))) w)
  (cond (op_0 == (87 : Int))
  (R (.bool (decide ((IntKind.wrap .i64 x_1) ≤ (IntKind.wrap .i64 y_2)))) w)
  (cond (op_0 == (88 : Int))
  (R (.bool (decide (x_1 ≤ y_2))) w)
  (cond (op_0 == (89 : Int))
  (R (.bool (decide ((IntKind.wrap .i64 x_1) ≥ (IntKind.wrap .i64 y_2)))) w)
  (R (.bool (decide (x_1 ≥ y_2))) w)))))))))))
theorem num_rel64.enter (op_0 : Int) (x_1 : Int) (y_2 : Int) (R : Value → World → Prop) (w : World) (h : num_rel64.V op_0 x_1 y_2 R w) : Runs Try.prog num_rel64.id #[(.int .i64 op_0), (.int .u64 x_1), (.int .u64 y_2)] w R :=
  Runs.enter (c := bodyOf Try.f60) (N := 68) Try.func60 (by kernel_rfl) (by kernel_rfl) (by kernel_rfl) (seg_T good mixed Try.func60 600 false [.code (bodyOf Try.f60)] [(0, (.int .i64 op_0)), (1, (.int .u64 x_1)), (2, (.int .u64 y_2))] w (Eq.mp (show num_rel64.V op_0 x_1 y_2 R w = seg Try.prog 60 68 Try.f60.results.toList num_rel64.cuts R 600 false [.code (bodyOf Try.f60)] [(0, (.int .i64 op_0)), (1, (.int .u64 x_1)), (2, (.int .u64 y_2))] w by kernel_rfl) h))

/-! e2e/num.relF32 -/
def num_relF32.cuts : List (Nat × List Nat) := []
def num_relF32.V (op_0 : Int) (x_1 : Nat) (y_2 : Nat) (R : Value → World → Prop) (w : World) : Prop :=
  (cond (op_0 == (91 : Int))
  (R (.bool ((Ieee.Format.order (FloatKind.format .f32) x_1 y_2) == some .eq)) w)
  (cond (op_0 == (92 : Int))
  (R (.bool ((Ieee.Format.order (FloatKind.format .f32) x_1 y_2) != some .eq)) w)
  (cond (op_0 == (93 : Int))
  (R (.bool ((Ieee.Format.order (FloatKind.format .f32) x_1 y_2) == some .lt)) w)
  (cond (op_0 == (94 : Int))
  (R (.bool ((Ieee.Format.order (FloatKind.format .f32) x_1 y_2) == some .gt)) w)
  (cond (op_0 == (95 : Int))
  (R (.bool ((Ieee.Format.order (FloatKind.format .f32) x_1 y_2) == some .lt || (Ieee.Format.order (FloatKind.format .f32) x_1 y_2) == some .eq)) w)
  (R (.bool ((Ieee.Format.order (FloatKind.format .f32) x_1 y_2) == some .gt || (Ieee.Format.order (FloatKind.format .f32) x_1 y_2) == some .eq)) w))))))
theorem num_relF32.enter (op_0 : Int) (x_1 : Nat) (y_2 : Nat) (R : Value → World → Prop) (w : World) (h : num_relF32.V op_0 x_1 y_2 R w) : Runs Try.prog num_relF32.id #[(.int .i64 op_0), (.float .f32 x_1), (.float .f32 y_2)] w R :=
  Runs.enter (c := bodyOf Try.f61) (N := 36) Try.func61 (by kernel_rfl) (by kernel_rfl) (by kernel_rfl) (seg_T good mixed Try.func61 600 false [.code (bodyOf Try.f61)] [(0, (.int .i64 op_0)), (1, (.float .f32 x_1)), (2, (.float .f32 y_2))] w (Eq.mp (show num_relF32.V op_0 x_1 y_2 R w = seg Try.prog 61 36 Try.f61.results.toList num_relF32.cuts R 600 false [.code (bodyOf Try.f61)] [(0, (.int .i64 op_0)), (1, (.float .f32 x_1)), (2, (.float .f32 y_2))] w by kernel_rfl) h))

/-! e2e/num.relF64 -/
def num_relF64.cuts : List (Nat × List Nat) := []
def num_relF64.V (op_0 : Int) (x_1 : Nat) (y_2 : Nat) (R : Value → World → Prop) (w : World) : Prop :=
  (cond (op_0 == (97 : Int))
  (R (.bool ((Ieee.Format.order (FloatKind.format .f64) x_1 y_2) == some .eq)) w)
  (cond (op_0 == (98 : Int))
  (R (.bool ((Ieee.Format.order (FloatKind.format .f64) x_1 y_2) != some .eq)) w)
  (cond (op_0 == (99 : Int))
  (R (.bool ((Ieee.Format.order (FloatKind.format .f64) x_1 y_2) == some .lt)) w)
  (cond (op_0 == (100 : Int))
  (R (.bool ((Ieee.Format.order (FloatKind.format .f64) x_1 y_2) == some .gt)) w)
  (cond (op_0 == (101 : Int))
  (R (.bool ((Ieee.Format.order (FloatKind.format .f64) x_1 y_2) == some .lt || (Ieee.Format.order (FloatKind.format .f64) x_1 y_2) == some .eq)) w)
  (R (.bool ((Ieee.Format.order (FloatKind.format .f64) x_1 y_2) == some .gt || (Ieee.Format.order (FloatKind.format .f64) x_1 y_2) == some .eq)) w))))))
theorem num_relF64.enter (op_0 : Int) (x_1 : Nat) (y_2 : Nat) (R : Value → World → Prop) (w : World) (h : num_relF64.V op_0 x_1 y_2 R w) : Runs Try.prog num_relF64.id #[(.int .i64 op_0), (.float .f64 x_1), (.float .f64 y_2)] w R :=
  Runs.enter (c := bodyOf Try.f63) (N := 36) Try.func63 (by kernel_rfl) (by kernel_rfl) (by kernel_rfl) (seg_T good mixed Try.func63 600 false [.code (bodyOf Try.f63)] [(0, (.int .i64 op_0)), (1, (.float .f64 x_1)), (2, (.float .f64 y_2))] w (Eq.mp (show num_relF64.V op_0 x_1 y_2 R w = seg Try.prog 63 36 Try.f63.results.toList num_relF64.cuts R 600 false [.code (bodyOf Try.f63)] [(0, (.int .i64 op_0)), (1, (.float .f64 x_1)), (2, (.float .f64 y_2))] w by kernel_rfl) h))

/-! e2e/num.int32s -/
def num_int32s.cuts : List (Nat × List Nat) := [(2, [0, 1, 2]), (4, [0, 1, 2, 8]), (6, [0, 1, 2, 8]), (40, [1, 2, 53])]
def num_int32s.L1 (op_0 : Int) (x_1 : Int) (y_2 : Int) (R : Value → World → Prop) (w : World) : Prop :=
  T Try.prog 65 138 [.code (sub (bodyOf Try.f65) [1])] [(0, (.int .i64 op_0)), (1, (.int .u32 x_1)), (2, (.int .u32 y_2))] w R
def num_int32s.L2 (op_0 : Int) (x_1 : Int) (y_2 : Int) (c_8 : Int) (R : Value → World → Prop) (w : World) : Prop :=
  T Try.prog 65 138 [.code (sub (bodyOf Try.f65) [1, 1])] [(0, (.int .i64 op_0)), (1, (.int .u32 x_1)), (2, (.int .u32 y_2)), (8, (.int .u32 c_8))] w R
def num_int32s.L3 (op_0 : Int) (x_1 : Int) (y_2 : Int) (c_8 : Int) (R : Value → World → Prop) (w : World) : Prop :=
  T Try.prog 65 138 [.code (sub (bodyOf Try.f65) [1, 1, 1])] [(0, (.int .i64 op_0)), (1, (.int .u32 x_1)), (2, (.int .u32 y_2)), (8, (.int .u32 c_8))] w R
def num_int32s.L4 (x_1 : Int) (y_2 : Int) (t_53 : Bool) (R : Value → World → Prop) (w : World) : Prop :=
  T Try.prog 65 138 [.code (sub (bodyOf Try.f65) [1, 1, 1, 0, 1, 0, 1, 1, 1, 1, 1, 1, 1, 1, 1, 1, 1, 1, 1, 0, 1, 0, 1]), .code (sub (bodyOf Try.f65) [1, 1, 1, 0, 1, 0, 1, 1, 1, 1, 1, 1, 1, 1, 1, 1, 1, 1, 1, 0, 1, 1]), .inBlock 0, .code (sub (bodyOf Try.f65) [1, 1, 1, 1])] [(1, (.int .u32 x_1)), (2, (.int .u32 y_2)), (53, (.bool t_53))] w R
def num_int32s.V1 (op_0 : Int) (x_1 : Int) (y_2 : Int) (R : Value → World → Prop) (w : World) : Prop :=
  (num_int32s.L2 op_0 x_1 y_2 y_2 R w)
theorem num_int32s.step1 (op_0 : Int) (x_1 : Int) (y_2 : Int) (R : Value → World → Prop) (w : World) (h : num_int32s.V1 op_0 x_1 y_2 R w) : num_int32s.L1 op_0 x_1 y_2 R w :=
  seg_T good mixed Try.func65 600 false [.code (sub (bodyOf Try.f65) [1])] [(0, (.int .i64 op_0)), (1, (.int .u32 x_1)), (2, (.int .u32 y_2))] w (Eq.mp (show num_int32s.V1 op_0 x_1 y_2 R w = seg Try.prog 65 138 Try.f65.results.toList num_int32s.cuts R 600 false [.code (sub (bodyOf Try.f65) [1])] [(0, (.int .i64 op_0)), (1, (.int .u32 x_1)), (2, (.int .u32 y_2))] w by kernel_rfl) h)
def num_int32s.V2 (op_0 : Int) (x_1 : Int) (y_2 : Int) (c_8 : Int) (R : Value → World → Prop) (w : World) : Prop :=
  (num_int32s.L3 op_0 x_1 y_2 (Int.tmod c_8 32) R w)
theorem num_int32s.step2 (op_0 : Int) (x_1 : Int) (y_2 : Int) (c_8 : Int) (R : Value → World → Prop) (w : World) (h : num_int32s.V2 op_0 x_1 y_2 c_8 R w) : num_int32s.L2 op_0 x_1 y_2 c_8 R w :=
  seg_T good mixed Try.func65 600 false [.code (sub (bodyOf Try.f65) [1, 1])] [(0, (.int .i64 op_0)), (1, (.int .u32 x_1)), (2, (.int .u32 y_2)), (8, (.int .u32 c_8))] w (Eq.mp (show num_int32s.V2 op_0 x_1 y_2 c_8 R w = seg Try.prog 65 138 Try.f65.results.toList num_int32s.cuts R 600 false [.code (sub (bodyOf Try.f65) [1, 1])] [(0, (.int .i64 op_0)), (1, (.int .u32 x_1)), (2, (.int .u32 y_2)), (8, (.int .u32 c_8))] w by kernel_rfl) h)
def num_int32s.V3 (op_0 : Int) (x_1 : Int) (y_2 : Int) (c_8 : Int) (R : Value → World → Prop) (w : World) : Prop :=
  (cond (op_0 == (103 : Int))
  (Runs Try.prog num_clz32.id #[(.int .u32 x_1)] w fun r1 w2 => (∃ x3 : Int, (r1 = (.int .u32 x3) ∧ (R (.tuple #[(.int .u32 x3), (.int .i64 0)]) w2))))
  (cond (op_0 == (104 : Int))
  (Runs Try.prog num_pop32.id #[(.int .u32 (bAnd .u32 (bXor .u32 (IntKind.max .u32) x_1) (IntKind.wrap .u32 (x_1 - (1 : Int)))))] w fun r4 w5 => (∃ x6 : Int, (r4 = (.int .u32 x6) ∧ (R (.tuple #[(.int .u32 x6), (.int .i64 0)]) w5))))
  (cond (op_0 == (105 : Int))
  (Runs Try.prog num_pop32.id #[(.int .u32 x_1)] w fun r7 w8 => (∃ x9 : Int, (r7 = (.int .u32 x9) ∧ (R (.tuple #[(.int .u32 x9), (.int .i64 0)]) w8))))
  (cond (op_0 == (106 : Int))
  (R (.tuple #[(.int .u32 (IntKind.wrap .u32 (x_1 + y_2))), (.int .i64 0)]) w)
  (cond (op_0 == (107 : Int))
  (R (.tuple #[(.int .u32 (IntKind.wrap .u32 (x_1 - y_2))), (.int .i64 0)]) w)
  (cond (op_0 == (108 : Int))
  (R (.tuple #[(.int .u32 (IntKind.wrap .u32 (x_1 * y_2))), (.int .i64 0)]) w)
  (cond (op_0 == (109 : Int))
  (cond (y_2 == (0 : Int))
  (R (.tuple #[(.int .u32 0), (.int .i64 39)]) w)
  (cond (x_1 == (2147483648 : Int))
  (num_int32s.L4 x_1 y_2 (y_2 == (4294967295 : Int)) R w)
  (num_int32s.L4 x_1 y_2 false R w)))
  (cond (op_0 == (110 : Int))
  (cond (y_2 == (0 : Int))
  (R (.tuple #[(.int .u32 0), (.int .i64 39)]) w)
  ((IntKind.u32 = IntKind.u32) ∧ y_2 ≠ 0 ∧ (R (.tuple #[(.int .u32 (IntKind.wrap .u32 (Int.tdiv x_1 y_2))), (.int .i64 0)]) w)))
  (cond (op_0 == (111 : Int))
  (cond (y_2 == (0 : Int))
  (R (.tuple #[(.int .u32 0), (.int .i64 39)]) w)
  ((IntKind.i32 = IntKind.i32) ∧ (IntKind.wrap .i32 y_2) ≠ 0 ∧ (R (.tuple #[(.int .u32 (IntKind.wrap .u32 (Int.tmod (IntKind.wrap .i32 x_1) (IntKind.wrap .i32 y_2)))), (.int .i64 0)]) w)))
  (cond (op_0 == (112 : Int))
  (cond (y_2 == (0 : Int))
  (R (.tuple #[(.int .u32 0), (.int .i64 39)]) w)
  ((IntKind.u32 = IntKind.u32) ∧ y_2 ≠ 0 ∧ (R (.tuple #[(.int .u32 (Int.tmod x_1 y_2)), (.int .i64 0)]) w)))
  (cond (op_0 == (113 : Int))
  (R (.tuple #[(.int .u32 (bAnd .u32 x_1 y_2)), (.int .i64 0)]) w)
  (cond (op_0 == (114 : Int))
  (R (.tuple #[(.int .u32 (bOr .u32 x_1 y_2)), (.int .i64 0)]) w)
  (cond (op_0 == (115 : Int))
  (R (.tuple #[(.int .u32 (bXor .u32 x_1 y_2)), (.int .i64 0)]) w)
  (cond (op_0 == (116 : Int))
  (0 ≤ c_8 ∧ (R (.tuple #[(.int .u32 (IntKind.wrap .u32 (x_1 * 2 ^ (min (Int.toNat c_8) (IntKind.bits .u32))))), (.int .i64 0)]) w))
  (cond (op_0 == (117 : Int))
  (0 ≤ c_8 ∧ (R (.tuple #[(.int .u32 (IntKind.wrap .u32 (Int.fdiv (IntKind.wrap .i32 x_1) (2 ^ (min (Int.toNat c_8) (IntKind.bits .i32)))))), (.int .i64 0)]) w))
  (cond (op_0 == (118 : Int))
  (0 ≤ c_8 ∧ (R (.tuple #[(.int .u32 (Int.fdiv x_1 (2 ^ (min (Int.toNat c_8) (IntKind.bits .u32))))), (.int .i64 0)]) w))
  (cond (op_0 == (119 : Int))
  (0 ≤ c_8 ∧ (0 ≤ (bAnd .u32 (IntKind.wrap .u32 ((bXor .u32 (IntKind.max .u32) c_8) + (1 : Int))) 31) ∧ (R (.tuple #[(.int .u32 (bOr .u32 (IntKind.wrap .u32 (x_1 * 2 ^ (min (Int.toNat c_8) (IntKind.bits .u32)))) (Int.fdiv x_1 (2 ^ (min (Int.toNat (bAnd .u32 (IntKind.wrap .u32 ((bXor .u32 (IntKind.max .u32) c_8) + (1 : Int))) 31)) (IntKind.bits .u32)))))), (.int .i64 0)]) w)))
  (0 ≤ c_8 ∧ (0 ≤ (bAnd .u32 (IntKind.wrap .u32 ((bXor .u32 (IntKind.max .u32) c_8) + (1 : Int))) 31) ∧ (R (.tuple #[(.int .u32 (bOr .u32 (Int.fdiv x_1 (2 ^ (min (Int.toNat c_8) (IntKind.bits .u32)))) (IntKind.wrap .u32 (x_1 * 2 ^ (min (Int.toNat (bAnd .u32 (IntKind.wrap .u32 ((bXor .u32 (IntKind.max .u32) c_8) + (1 : Int))) 31)) (IntKind.bits .u32)))))), (.int .i64 0)]) w))))))))))))))))))))
theorem num_int32s.step3 (op_0 : Int) (x_1 : Int) (y_2 : Int) (c_8 : Int) (R : Value → World → Prop) (w : World) (h : num_int32s.V3 op_0 x_1 y_2 c_8 R w) : num_int32s.L3 op_0 x_1 y_2 c_8 R w :=
  seg_T good mixed Try.func65 600 false [.code (sub (bodyOf Try.f65) [1, 1, 1])] [(0, (.int .i64 op_0)), (1, (.int .u32 x_1)), (2, (.int .u32 y_2)), (8, (.int .u32 c_8))] w (Eq.mp (show num_int32s.V3 op_0 x_1 y_2 c_8 R w = seg Try.prog 65 138 Try.f65.results.toList num_int32s.cuts R 600 false [.code (sub (bodyOf Try.f65) [1, 1, 1])] [(0, (.int .i64 op_0)), (1, (.int .u32 x_1)), (2, (.int .u32 y_2)), (8, (.int .u32 c_8))] w by kernel_rfl) h)
def num_int32s.V4 (x_1 : Int) (y_2 : Int) (t_53 : Bool) (R : Value → World → Prop) (w : World) : Prop :=
  (cond t_53
  (R (.tuple #[(.int .u32 0), (.int .i64 40)]) w)
  ((IntKind.i32 = IntKind.i32) ∧ (IntKind.wrap .i32 y_2) ≠ 0 ∧ (R (.tuple #[(.int .u32 (IntKind.wrap .u32 (IntKind.wrap .i32 (Int.tdiv (IntKind.wrap .i32 x_1) (IntKind.wrap .i32 y_2))))), (.int .i64 0)]) w)))
theorem num_int32s.step4 (x_1 : Int) (y_2 : Int) (t_53 : Bool) (R : Value → World → Prop) (w : World) (h : num_int32s.V4 x_1 y_2 t_53 R w) : num_int32s.L4 x_1 y_2 t_53 R w :=
  seg_T good mixed Try.func65 600 false [.code (sub (bodyOf Try.f65) [1, 1, 1, 0, 1, 0, 1, 1, 1, 1, 1, 1, 1, 1, 1, 1, 1, 1, 1, 0, 1, 0, 1]), .code (sub (bodyOf Try.f65) [1, 1, 1, 0, 1, 0, 1, 1, 1, 1, 1, 1, 1, 1, 1, 1, 1, 1, 1, 0, 1, 1]), .inBlock 0, .code (sub (bodyOf Try.f65) [1, 1, 1, 1])] [(1, (.int .u32 x_1)), (2, (.int .u32 y_2)), (53, (.bool t_53))] w (Eq.mp (show num_int32s.V4 x_1 y_2 t_53 R w = seg Try.prog 65 138 Try.f65.results.toList num_int32s.cuts R 600 false [.code (sub (bodyOf Try.f65) [1, 1, 1, 0, 1, 0, 1, 1, 1, 1, 1, 1, 1, 1, 1, 1, 1, 1, 1, 0, 1, 0, 1]), .code (sub (bodyOf Try.f65) [1, 1, 1, 0, 1, 0, 1, 1, 1, 1, 1, 1, 1, 1, 1, 1, 1, 1, 1, 0, 1, 1]), .inBlock 0, .code (sub (bodyOf Try.f65) [1, 1, 1, 1])] [(1, (.int .u32 x_1)), (2, (.int .u32 y_2)), (53, (.bool t_53))] w by kernel_rfl) h)
def num_int32s.V (op_0 : Int) (x_1 : Int) (y_2 : Int) (R : Value → World → Prop) (w : World) : Prop :=
  (num_int32s.L1 op_0 x_1 y_2 R w)
theorem num_int32s.enter (op_0 : Int) (x_1 : Int) (y_2 : Int) (R : Value → World → Prop) (w : World) (h : num_int32s.V op_0 x_1 y_2 R w) : Runs Try.prog num_int32s.id #[(.int .i64 op_0), (.int .u32 x_1), (.int .u32 y_2)] w R :=
  Runs.enter (c := bodyOf Try.f65) (N := 138) Try.func65 (by kernel_rfl) (by kernel_rfl) (by kernel_rfl) (seg_T good mixed Try.func65 600 false [.code (bodyOf Try.f65)] [(0, (.int .i64 op_0)), (1, (.int .u32 x_1)), (2, (.int .u32 y_2))] w (Eq.mp (show num_int32s.V op_0 x_1 y_2 R w = seg Try.prog 65 138 Try.f65.results.toList num_int32s.cuts R 600 false [.code (bodyOf Try.f65)] [(0, (.int .i64 op_0)), (1, (.int .u32 x_1)), (2, (.int .u32 y_2))] w by kernel_rfl) h))

/-! e2e/num.int64s -/
def num_int64s.cuts : List (Nat × List Nat) := [(2, [0, 1, 2]), (4, [0, 1, 2, 8]), (6, [0, 1, 2, 8]), (40, [1, 2, 53])]
def num_int64s.L1 (op_0 : Int) (x_1 : Int) (y_2 : Int) (R : Value → World → Prop) (w : World) : Prop :=
  T Try.prog 66 138 [.code (sub (bodyOf Try.f66) [1])] [(0, (.int .i64 op_0)), (1, (.int .u64 x_1)), (2, (.int .u64 y_2))] w R
def num_int64s.L2 (op_0 : Int) (x_1 : Int) (y_2 : Int) (c_8 : Int) (R : Value → World → Prop) (w : World) : Prop :=
  T Try.prog 66 138 [.code (sub (bodyOf Try.f66) [1, 1])] [(0, (.int .i64 op_0)), (1, (.int .u64 x_1)), (2, (.int .u64 y_2)), (8, (.int .u64 c_8))] w R
def num_int64s.L3 (op_0 : Int) (x_1 : Int) (y_2 : Int) (c_8 : Int) (R : Value → World → Prop) (w : World) : Prop :=
  T Try.prog 66 138 [.code (sub (bodyOf Try.f66) [1, 1, 1])] [(0, (.int .i64 op_0)), (1, (.int .u64 x_1)), (2, (.int .u64 y_2)), (8, (.int .u64 c_8))] w R
def num_int64s.L4 (x_1 : Int) (y_2 : Int) (t_53 : Bool) (R : Value → World → Prop) (w : World) : Prop :=
  T Try.prog 66 138 [.code (sub (bodyOf Try.f66) [1, 1, 1, 0, 1, 0, 1, 1, 1, 1, 1, 1, 1, 1, 1, 1, 1, 1, 1, 0, 1, 0, 1]), .code (sub (bodyOf Try.f66) [1, 1, 1, 0, 1, 0, 1, 1, 1, 1, 1, 1, 1, 1, 1, 1, 1, 1, 1, 0, 1, 1]), .inBlock 0, .code (sub (bodyOf Try.f66) [1, 1, 1, 1])] [(1, (.int .u64 x_1)), (2, (.int .u64 y_2)), (53, (.bool t_53))] w R
def num_int64s.V1 (op_0 : Int) (x_1 : Int) (y_2 : Int) (R : Value → World → Prop) (w : World) : Prop :=
  (num_int64s.L2 op_0 x_1 y_2 y_2 R w)
theorem num_int64s.step1 (op_0 : Int) (x_1 : Int) (y_2 : Int) (R : Value → World → Prop) (w : World) (h : num_int64s.V1 op_0 x_1 y_2 R w) : num_int64s.L1 op_0 x_1 y_2 R w :=
  seg_T good mixed Try.func66 600 false [.code (sub (bodyOf Try.f66) [1])] [(0, (.int .i64 op_0)), (1, (.int .u64 x_1)), (2, (.int .u64 y_2))] w (Eq.mp (show num_int64s.V1 op_0 x_1 y_2 R w = seg Try.prog 66 138 Try.f66.results.toList num_int64s.cuts R 600 false [.code (sub (bodyOf Try.f66) [1])] [(0, (.int .i64 op_0)), (1, (.int .u64 x_1)), (2, (.int .u64 y_2))] w by kernel_rfl) h)
def num_int64s.V2 (op_0 : Int) (x_1 : Int) (y_2 : Int) (c_8 : Int) (R : Value → World → Prop) (w : World) : Prop :=
  (num_int64s.L3 op_0 x_1 y_2 (bAnd .u64 c_8 63) R w)
theorem num_int64s.step2 (op_0 : Int) (x_1 : Int) (y_2 : Int) (c_8 : Int) (R : Value → World → Prop) (w : World) (h : num_int64s.V2 op_0 x_1 y_2 c_8 R w) : num_int64s.L2 op_0 x_1 y_2 c_8 R w :=
  seg_T good mixed Try.func66 600 false [.code (sub (bodyOf Try.f66) [1, 1])] [(0, (.int .i64 op_0)), (1, (.int .u64 x_1)), (2, (.int .u64 y_2)), (8, (.int .u64 c_8))] w (Eq.mp (show num_int64s.V2 op_0 x_1 y_2 c_8 R w = seg Try.prog 66 138 Try.f66.results.toList num_int64s.cuts R 600 false [.code (sub (bodyOf Try.f66) [1, 1])] [(0, (.int .i64 op_0)), (1, (.int .u64 x_1)), (2, (.int .u64 y_2)), (8, (.int .u64 c_8))] w by kernel_rfl) h)
def num_int64s.V3 (op_0 : Int) (x_1 : Int) (y_2 : Int) (c_8 : Int) (R : Value → World → Prop) (w : World) : Prop :=
  (cond (op_0 == (121 : Int))
  (Runs Try.prog num_clz64.id #[(.int .u64 x_1)] w fun r1 w2 => (∃ x3 : Int, (r1 = (.int .u64 x3) ∧ (R (.tuple #[(.int .u64 x3), (.int .i64 0)]) w2))))
  (cond (op_0 == (122 : Int))
  (Runs Try.prog num_pop64.id #[(.int .u64 (bAnd .u64 (bXor .u64 (IntKind.max .u64) x_1) (IntKind.wrap .u64 (x_1 - (1 : Int)))))] w fun r4 w5 => (∃ x6 : Int, (r4 = (.int .u64 x6) ∧ (R (.tuple #[(.int .u64 x6), (.int .i64 0)]) w5))))
  (cond (op_0 == (123 : Int))
  (Runs Try.prog num_pop64.id #[(.int .u64 x_1)] w fun r7 w8 => (∃ x9 : Int, (r7 = (.int .u64 x9) ∧ (R (.tuple #[(.int .u64 x9), (.int .i64 0)]) w8))))
  (cond (op_0 == (124 : Int))
  (R (.tuple #[(.int .u64 (IntKind.wrap .u64 (x_1 + y_2))), (.int .i64 0)]) w)
  (cond (op_0 == (125 : Int))
  (R (.tuple #[(.int .u64 (IntKind.wrap .u64 (x_1 - y_2))), (.int .i64 0)]) w)
  (cond (op_0 == (126 : Int))
  (R (.tuple #[(.int .u64 (IntKind.wrap .u64 (x_1 * y_2))), (.int .i64 0)]) w)
  (cond (op_0 == (127 : Int))
  (cond (y_2 == (0 : Int))
  (R (.tuple #[(.int .u64 0), (.int .i64 39)]) w)
  (cond (x_1 == (9223372036854775808 : Int))
  (num_int64s.L4 x_1 y_2 (y_2 == (18446744073709551615 : Int)) R w)
  (num_int64s.L4 x_1 y_2 false R w)))
  (cond (op_0 == (128 : Int))
  (cond (y_2 == (0 : Int))
  (R (.tuple #[(.int .u64 0), (.int .i64 39)]) w)
  ((IntKind.u64 = IntKind.u64) ∧ y_2 ≠ 0 ∧ (R (.tuple #[(.int .u64 (IntKind.wrap .u64 (Int.tdiv x_1 y_2))), (.int .i64 0)]) w)))
  (cond (op_0 == (129 : Int))
  (cond (y_2 == (0 : Int))
  (R (.tuple #[(.int .u64 0), (.int .i64 39)]) w)
  ((IntKind.i64 = IntKind.i64) ∧ (IntKind.wrap .i64 y_2) ≠ 0 ∧ (R (.tuple #[(.int .u64 (IntKind.wrap .u64 (Int.tmod (IntKind.wrap .i64 x_1) (IntKind.wrap .i64 y_2)))), (.int .i64 0)]) w)))
  (cond (op_0 == (130 : Int))
  (cond (y_2 == (0 : Int))
  (R (.tuple #[(.int .u64 0), (.int .i64 39)]) w)
  ((IntKind.u64 = IntKind.u64) ∧ y_2 ≠ 0 ∧ (R (.tuple #[(.int .u64 (Int.tmod x_1 y_2)), (.int .i64 0)]) w)))
  (cond (op_0 == (131 : Int))
  (R (.tuple #[(.int .u64 (bAnd .u64 x_1 y_2)), (.int .i64 0)]) w)
  (cond (op_0 == (132 : Int))
  (R (.tuple #[(.int .u64 (bOr .u64 x_1 y_2)), (.int .i64 0)]) w)
  (cond (op_0 == (133 : Int))
  (R (.tuple #[(.int .u64 (bXor .u64 x_1 y_2)), (.int .i64 0)]) w)
  (cond (op_0 == (134 : Int))
  (0 ≤ c_8 ∧ (R (.tuple #[(.int .u64 (IntKind.wrap .u64 (x_1 * 2 ^ (min (Int.toNat c_8) (IntKind.bits .u64))))), (.int .i64 0)]) w))
  (cond (op_0 == (135 : Int))
  (0 ≤ c_8 ∧ (R (.tuple #[(.int .u64 (IntKind.wrap .u64 (Int.fdiv (IntKind.wrap .i64 x_1) (2 ^ (min (Int.toNat c_8) (IntKind.bits .i64)))))), (.int .i64 0)]) w))
  (cond (op_0 == (136 : Int))
  (0 ≤ c_8 ∧ (R (.tuple #[(.int .u64 (Int.fdiv x_1 (2 ^ (min (Int.toNat c_8) (IntKind.bits .u64))))), (.int .i64 0)]) w))
  (cond (op_0 == (137 : Int))
  (0 ≤ c_8 ∧ (0 ≤ (bAnd .u64 (IntKind.wrap .u64 ((bXor .u64 (IntKind.max .u64) c_8) + (1 : Int))) 63) ∧ (R (.tuple #[(.int .u64 (bOr .u64 (IntKind.wrap .u64 (x_1 * 2 ^ (min (Int.toNat c_8) (IntKind.bits .u64)))) (Int.fdiv x_1 (2 ^ (min (Int.toNat (bAnd .u64 (IntKind.wrap .u64 ((bXor .u64 (IntKind.max .u64) c_8) + (1 : Int))) 63)) (IntKind.bits .u64)))))), (.int .i64 0)]) w)))
  (0 ≤ c_8 ∧ (0 ≤ (bAnd .u64 (IntKind.wrap .u64 ((bXor .u64 (IntKind.max .u64) c_8) + (1 : Int))) 63) ∧ (R (.tuple #[(.int .u64 (bOr .u64 (Int.fdiv x_1 (2 ^ (min (Int.toNat c_8) (IntKind.bits .u64)))) (IntKind.wrap .u64 (x_1 * 2 ^ (min (Int.toNat (bAnd .u64 (IntKind.wrap .u64 ((bXor .u64 (IntKind.max .u64) c_8) + (1 : Int))) 63)) (IntKind.bits .u64)))))), (.int .i64 0)]) w))))))))))))))))))))
theorem num_int64s.step3 (op_0 : Int) (x_1 : Int) (y_2 : Int) (c_8 : Int) (R : Value → World → Prop) (w : World) (h : num_int64s.V3 op_0 x_1 y_2 c_8 R w) : num_int64s.L3 op_0 x_1 y_2 c_8 R w :=
  seg_T good mixed Try.func66 600 false [.code (sub (bodyOf Try.f66) [1, 1, 1])] [(0, (.int .i64 op_0)), (1, (.int .u64 x_1)), (2, (.int .u64 y_2)), (8, (.int .u64 c_8))] w (Eq.mp (show num_int64s.V3 op_0 x_1 y_2 c_8 R w = seg Try.prog 66 138 Try.f66.results.toList num_int64s.cuts R 600 false [.code (sub (bodyOf Try.f66) [1, 1, 1])] [(0, (.int .i64 op_0)), (1, (.int .u64 x_1)), (2, (.int .u64 y_2)), (8, (.int .u64 c_8))] w by kernel_rfl) h)
def num_int64s.V4 (x_1 : Int) (y_2 : Int) (t_53 : Bool) (R : Value → World → Prop) (w : World) : Prop :=
  (cond t_53
  (R (.tuple #[(.int .u64 0), (.int .i64 40)]) w)
  ((IntKind.i64 = IntKind.i64) ∧ (IntKind.wrap .i64 y_2) ≠ 0 ∧ (R (.tuple #[(.int .u64 (IntKind.wrap .u64 (IntKind.wrap .i64 (Int.tdiv (IntKind.wrap .i64 x_1) (IntKind.wrap .i64 y_2))))), (.int .i64 0)]) w)))
theorem num_int64s.step4 (x_1 : Int) (y_2 : Int) (t_53 : Bool) (R : Value → World → Prop) (w : World) (h : num_int64s.V4 x_1 y_2 t_53 R w) : num_int64s.L4 x_1 y_2 t_53 R w :=
  seg_T good mixed Try.func66 600 false [.code (sub (bodyOf Try.f66) [1, 1, 1, 0, 1, 0, 1, 1, 1, 1, 1, 1, 1, 1, 1, 1, 1, 1, 1, 0, 1, 0, 1]), .code (sub (bodyOf Try.f66) [1, 1, 1, 0, 1, 0, 1, 1, 1, 1, 1, 1, 1, 1, 1, 1, 1, 1, 1, 0, 1, 1]), .inBlock 0, .code (sub (bodyOf Try.f66) [1, 1, 1, 1])] [(1, (.int .u64 x_1)), (2, (.int .u64 y_2)), (53, (.bool t_53))] w (Eq.mp (show num_int64s.V4 x_1 y_2 t_53 R w = seg Try.prog 66 138 Try.f66.results.toList num_int64s.cuts R 600 false [.code (sub (bodyOf Try.f66) [1, 1, 1, 0, 1, 0, 1, 1, 1, 1, 1, 1, 1, 1, 1, 1, 1, 1, 1, 0, 1, 0, 1]), .code (sub (bodyOf Try.f66) [1, 1, 1, 0, 1, 0, 1, 1, 1, 1, 1, 1, 1, 1, 1, 1, 1, 1, 1, 0, 1, 1]), .inBlock 0, .code (sub (bodyOf Try.f66) [1, 1, 1, 1])] [(1, (.int .u64 x_1)), (2, (.int .u64 y_2)), (53, (.bool t_53))] w by kernel_rfl) h)
def num_int64s.V (op_0 : Int) (x_1 : Int) (y_2 : Int) (R : Value → World → Prop) (w : World) : Prop :=
  (num_int64s.L1 op_0 x_1 y_2 R w)
theorem num_int64s.enter (op_0 : Int) (x_1 : Int) (y_2 : Int) (R : Value → World → Prop) (w : World) (h : num_int64s.V op_0 x_1 y_2 R w) : Runs Try.prog num_int64s.id #[(.int .i64 op_0), (.int .u64 x_1), (.int .u64 y_2)] w R :=
  Runs.enter (c := bodyOf Try.f66) (N := 138) Try.func66 (by kernel_rfl) (by kernel_rfl) (by kernel_rfl) (seg_T good mixed Try.func66 600 false [.code (bodyOf Try.f66)] [(0, (.int .i64 op_0)), (1, (.int .u64 x_1)), (2, (.int .u64 y_2))] w (Eq.mp (show num_int64s.V op_0 x_1 y_2 R w = seg Try.prog 66 138 Try.f66.results.toList num_int64s.cuts R 600 false [.code (bodyOf Try.f66)] [(0, (.int .i64 op_0)), (1, (.int .u64 x_1)), (2, (.int .u64 y_2))] w by kernel_rfl) h))

/-! e2e/num.float32s -/
def num_float32s.cuts : List (Nat × List Nat) := [(56, [1, 2])]
def num_float32s.L1 (a_1 : Int) (b_2 : Int) (R : Value → World → Prop) (w : World) : Prop :=
  T Try.prog 67 102 [.code (sub (bodyOf Try.f67) [1, 1, 1, 0, 1, 0, 1, 1, 1, 1, 1, 1, 1, 1, 1, 1, 1, 1, 1, 1, 1, 1, 1, 1, 1, 1, 1, 0, 0, 1, 0, 1]), .code (sub (bodyOf Try.f67) [1, 1, 1, 0, 1, 0, 1, 1, 1, 1, 1, 1, 1, 1, 1, 1, 1, 1, 1, 1, 1, 1, 1, 1, 1, 1, 1, 0, 1]), .inBlock 0, .code (sub (bodyOf Try.f67) [1, 1, 1, 1])] [(1, (.int .u32 a_1)), (2, (.int .u32 b_2))] w R
def num_float32s.V1 (a_1 : Int) (b_2 : Int) (R : Value → World → Prop) (w : World) : Prop :=
  (R (.int .u32 (bOr .u32 2139095040 (bAnd .u32 (bXor .u32 a_1 b_2) 2147483648))) w)
theorem num_float32s.step1 (a_1 : Int) (b_2 : Int) (R : Value → World → Prop) (w : World) (h : num_float32s.V1 a_1 b_2 R w) : num_float32s.L1 a_1 b_2 R w :=
  seg_T good mixed Try.func67 600 false [.code (sub (bodyOf Try.f67) [1, 1, 1, 0, 1, 0, 1, 1, 1, 1, 1, 1, 1, 1, 1, 1, 1, 1, 1, 1, 1, 1, 1, 1, 1, 1, 1, 0, 0, 1, 0, 1]), .code (sub (bodyOf Try.f67) [1, 1, 1, 0, 1, 0, 1, 1, 1, 1, 1, 1, 1, 1, 1, 1, 1, 1, 1, 1, 1, 1, 1, 1, 1, 1, 1, 0, 1]), .inBlock 0, .code (sub (bodyOf Try.f67) [1, 1, 1, 1])] [(1, (.int .u32 a_1)), (2, (.int .u32 b_2))] w (Eq.mp (show num_float32s.V1 a_1 b_2 R w = seg Try.prog 67 102 Try.f67.results.toList num_float32s.cuts R 600 false [.code (sub (bodyOf Try.f67) [1, 1, 1, 0, 1, 0, 1, 1, 1, 1, 1, 1, 1, 1, 1, 1, 1, 1, 1, 1, 1, 1, 1, 1, 1, 1, 1, 0, 0, 1, 0, 1]), .code (sub (bodyOf Try.f67) [1, 1, 1, 0, 1, 0, 1, 1, 1, 1, 1, 1, 1, 1, 1, 1, 1, 1, 1, 1, 1, 1, 1, 1, 1, 1, 1, 0, 1]), .inBlock 0, .code (sub (bodyOf Try.f67) [1, 1, 1, 1])] [(1, (.int .u32 a_1)), (2, (.int .u32 b_2))] w by kernel_rfl) h)
def num_float32s.V (op_0 : Int) (a_1 : Int) (b_2 : Int) (R : Value → World → Prop) (w : World) : Prop :=
  (∃ x5 : Nat, ∃ w4, Sem.run Try.prog (Go.callFunc math_Float32frombits.id #[(.int .u32 a_1)]) w = .ok (.value (.float .f32 x5)) w4 ∧ (∃ x7 : Nat, ∃ w6, Sem.run Try.prog (Go.callFunc math_Float32frombits.id #[(.int .u32 b_2)]) w4 = .ok (.value (.float .f32 x7)) w6 ∧ (cond (op_0 == (139 : Int))
  (R (.int .u32 (bAndNot .u32 a_1 2147483648)) w6)
  (cond (op_0 == (140 : Int))
  (R (.int .u32 (bXor .u32 a_1 2147483648)) w6)
  (cond (op_0 == (141 : Int))
  (Runs Try.prog num_ceil32.id #[(.float .f32 x5)] w6 fun r8 w9 => (∃ x10 : Nat, (r8 = (.float .f32 x10) ∧ (Runs Try.prog num_canon32.id #[(.float .f32 x10)] w9 fun r11 w12 => (∃ x13 : Int, (r11 = (.int .u32 x13) ∧ (R (.int .u32 x13) w12)))))))
  (cond (op_0 == (142 : Int))
  (Runs Try.prog num_floor32.id #[(.float .f32 x5)] w6 fun r14 w15 => (∃ x16 : Nat, (r14 = (.float .f32 x16) ∧ (Runs Try.prog num_canon32.id #[(.float .f32 x16)] w15 fun r17 w18 => (∃ x19 : Int, (r17 = (.int .u32 x19) ∧ (R (.int .u32 x19) w18)))))))
  (cond (op_0 == (143 : Int))
  (Runs Try.prog num_cut32.id #[(.float .f32 x5)] w6 fun r20 w21 => (∃ x22 : Nat, (r20 = (.float .f32 x22) ∧ (Runs Try.prog num_canon32.id #[(.float .f32 x22)] w21 fun r23 w24 => (∃ x25 : Int, (r23 = (.int .u32 x25) ∧ (R (.int .u32 x25) w24)))))))
  (cond (op_0 == (144 : Int))
  (Runs Try.prog num_near32.id #[(.float .f32 x5)] w6 fun r26 w27 => (∃ x28 : Nat, (r26 = (.float .f32 x28) ∧ (Runs Try.prog num_canon32.id #[(.float .f32 x28)] w27 fun r29 w30 => (∃ x31 : Int, (r29 = (.int .u32 x31) ∧ (R (.int .u32 x31) w30)))))))
  (cond (op_0 == (145 : Int))
  (∃ x33 : Nat, ∃ w32, Sem.run Try.prog (Go.convert T_float32 T_float64 (.float .f32 x5)) w6 = .ok (.float .f64 x33) w32 ∧ (Runs Try.prog math_Sqrt.id #[(.float .f64 x33)] w32 fun r34 w35 => (∃ x36 : Nat, (r34 = (.float .f64 x36) ∧ (∃ x38 : Nat, ∃ w37, Sem.run Try.prog (Go.convert T_float64 T_float32 (.float .f64 x36)) w35 = .ok (.float .f32 x38) w37 ∧ (Runs Try.prog num_canon32.id #[(.float .f32 x38)] w37 fun r39 w40 => (∃ x41 : Int, (r39 = (.int .u32 x41) ∧ (R (.int .u32 x41) w40)))))))))
  (cond (op_0 == (146 : Int))
  (∃ x43 : Nat, ∃ w42, Sem.run Try.prog ((do eqGuard .add T_float32 (.tmp 51) (.tmp 52) (.float .f32 x5) (.float .f32 x7); Go.binOp .add T_float32 (.float .f32 x5) (.float .f32 x7))) w6 = .ok (.float .f32 x43) w42 ∧ (Runs Try.prog num_canon32.id #[(.float .f32 x43)] w42 fun r44 w45 => (∃ x46 : Int, (r44 = (.int .u32 x46) ∧ (R (.int .u32 x46) w45)))))
  (cond (op_0 == (147 : Int))
  (∃ x48 : Nat, ∃ w47, Sem.run Try.prog ((do eqGuard .sub T_float32 (.tmp 57) (.tmp 58) (.float .f32 x5) (.float .f32 x7); Go.binOp .sub T_float32 (.float .f32 x5) (.float .f32 x7))) w6 = .ok (.float .f32 x48) w47 ∧ (Runs Try.prog num_canon32.id #[(.float .f32 x48)] w47 fun r49 w50 => (∃ x51 : Int, (r49 = (.int .u32 x51) ∧ (R (.int .u32 x51) w50)))))
  (cond (op_0 == (148 : Int))
  (∃ x53 : Nat, ∃ w52, Sem.run Try.prog ((do eqGuard .mul T_float32 (.tmp 63) (.tmp 64) (.float .f32 x5) (.float .f32 x7); Go.binOp .mul T_float32 (.float .f32 x5) (.float .f32 x7))) w6 = .ok (.float .f32 x53) w52 ∧ (Runs Try.prog num_canon32.id #[(.float .f32 x53)] w52 fun r54 w55 => (∃ x56 : Int, (r54 = (.int .u32 x56) ∧ (R (.int .u32 x56) w55)))))
  (cond (op_0 == (149 : Int))
  (cond ((Ieee.Format.order (FloatKind.format .f32) x7 0) == some .eq)
  (cond ((Ieee.Format.order (FloatKind.format .f32) x5 x5) != some .eq)
  (R (.int .u32 2143289344) w6)
  (cond ((Ieee.Format.order (FloatKind.format .f32) x5 0) == some .eq)
  (R (.int .u32 2143289344) w6)
  (num_float32s.L1 a_1 b_2 R w6)))
  (∃ x60 : Nat, ∃ w59, Sem.run Try.prog ((do eqGuard .quo T_float32 (.tmp 83) (.tmp 84) (.float .f32 x5) (.float .f32 x7); Go.binOp .quo T_float32 (.float .f32 x5) (.float .f32 x7))) w6 = .ok (.float .f32 x60) w59 ∧ (Runs Try.prog num_canon32.id #[(.float .f32 x60)] w59 fun r61 w62 => (∃ x63 : Int, (r61 = (.int .u32 x63) ∧ (R (.int .u32 x63) w62))))))
  (cond (op_0 == (150 : Int))
  (Runs Try.prog num_least32.id #[(.int .u32 a_1), (.int .u32 b_2)] w6 fun r64 w65 => (∃ x66 : Int, (r64 = (.int .u32 x66) ∧ (R (.int .u32 x66) w65))))
  (cond (op_0 == (151 : Int))
  (Runs Try.prog num_most32.id #[(.int .u32 a_1), (.int .u32 b_2)] w6 fun r67 w68 => (∃ x69 : Int, (r67 = (.int .u32 x69) ∧ (R (.int .u32 x69) w68))))
  (R (.int .u32 (bOr .u32 (bAndNot .u32 a_1 2147483648) (bAnd .u32 b_2 2147483648))) w6))))))))))))))))
theorem num_float32s.enter (op_0 : Int) (a_1 : Int) (b_2 : Int) (R : Value → World → Prop) (w : World) (h : num_float32s.V op_0 a_1 b_2 R w) : Runs Try.prog num_float32s.id #[(.int .i64 op_0), (.int .u32 a_1), (.int .u32 b_2)] w R :=
  Runs.enter (c := bodyOf Try.f67) (N := 102) Try.func67 (by kernel_rfl) (by kernel_rfl) (by kernel_rfl) (seg_T good mixed Try.func67 600 false [.code (bodyOf Try.f67)] [(0, (.int .i64 op_0)), (1, (.int .u32 a_1)), (2, (.int .u32 b_2))] w (Eq.mp (show num_float32s.V op_0 a_1 b_2 R w = seg Try.prog 67 102 Try.f67.results.toList num_float32s.cuts R 600 false [.code (bodyOf Try.f67)] [(0, (.int .i64 op_0)), (1, (.int .u32 a_1)), (2, (.int .u32 b_2))] w by kernel_rfl) h))

/-! e2e/num.float64s -/
def num_float64s.cuts : List (Nat × List Nat) := [(56, [1, 2])]
def num_float64s.L1 (a_1 : Int) (b_2 : Int) (R : Value → World → Prop) (w : World) : Prop :=
  T Try.prog 68 100 [.code (sub (bodyOf Try.f68) [1, 1, 1, 0, 1, 0, 1, 1, 1, 1, 1, 1, 1, 1, 1, 1, 1, 1, 1, 1, 1, 1, 1, 1, 1, 1, 1, 0, 0, 1, 0, 1]), .code (sub (bodyOf Try.f68) [1, 1, 1, 0, 1, 0, 1, 1, 1, 1, 1, 1, 1, 1, 1, 1, 1, 1, 1, 1, 1, 1, 1, 1, 1, 1, 1, 0, 1]), .inBlock 0, .code (sub (bodyOf Try.f68) [1, 1, 1, 1])] [(1, (.int .u64 a_1)), (2, (.int .u64 b_2))] w R
def num_float64s.V1 (a_1 : Int) (b_2 : Int) (R : Value → World → Prop) (w : World) : Prop :=
  (R (.int .u64 (bOr .u64 9218868437227405312 (bAnd .u64 (bXor .u64 a_1 b_2) 9223372036854775808))) w)
theorem num_float64s.step1 (a_1 : Int) (b_2 : Int) (R : Value → World → Prop) (w : World) (h : num_float64s.V1 a_1 b_2 R w) : num_float64s.L1 a_1 b_2 R w :=
  seg_T good mixed Try.func68 600 false [.code (sub (bodyOf Try.f68) [1, 1, 1, 0, 1, 0, 1, 1, 1, 1, 1, 1, 1, 1, 1, 1, 1, 1, 1, 1, 1, 1, 1, 1, 1, 1, 1, 0, 0, 1, 0, 1]), .code (sub (bodyOf Try.f68) [1, 1, 1, 0, 1, 0, 1, 1, 1, 1, 1, 1, 1, 1, 1, 1, 1, 1, 1, 1, 1, 1, 1, 1, 1, 1, 1, 0, 1]), .inBlock 0, .code (sub (bodyOf Try.f68) [1, 1, 1, 1])] [(1, (.int .u64 a_1)), (2, (.int .u64 b_2))] w (Eq.mp (show num_float64s.V1 a_1 b_2 R w = seg Try.prog 68 100 Try.f68.results.toList num_float64s.cuts R 600 false [.code (sub (bodyOf Try.f68) [1, 1, 1, 0, 1, 0, 1, 1, 1, 1, 1, 1, 1, 1, 1, 1, 1, 1, 1, 1, 1, 1, 1, 1, 1, 1, 1, 0, 0, 1, 0, 1]), .code (sub (bodyOf Try.f68) [1, 1, 1, 0, 1, 0, 1, 1, 1, 1, 1, 1, 1, 1, 1, 1, 1, 1, 1, 1, 1, 1, 1, 1, 1, 1, 1, 0, 1]), .inBlock 0, .code (sub (bodyOf Try.f68) [1, 1, 1, 1])] [(1, (.int .u64 a_1)), (2, (.int .u64 b_2))] w by kernel_rfl) h)
def num_float64s.V (op_0 : Int) (a_1 : Int) (b_2 : Int) (R : Value → World → Prop) (w : World) : Prop :=
  (∃ x5 : Nat, ∃ w4, Sem.run Try.prog (Go.callFunc math_Float64frombits.id #[(.int .u64 a_1)]) w = .ok (.value (.float .f64 x5)) w4 ∧ (∃ x7 : Nat, ∃ w6, Sem.run Try.prog (Go.callFunc math_Float64frombits.id #[(.int .u64 b_2)]) w4 = .ok (.value (.float .f64 x7)) w6 ∧ (cond (op_0 == (153 : Int))
  (R (.int .u64 (bAndNot .u64 a_1 9223372036854775808)) w6)
  (cond (op_0 == (154 : Int))
  (R (.int .u64 (bXor .u64 a_1 9223372036854775808)) w6)
  (cond (op_0 == (155 : Int))
  (Runs Try.prog num_ceil64.id #[(.float .f64 x5)] w6 fun r8 w9 => (∃ x10 : Nat, (r8 = (.float .f64 x10) ∧ (Runs Try.prog num_canon64.id #[(.float .f64 x10)] w9 fun r11 w12 => (∃ x13 : Int, (r11 = (.int .u64 x13) ∧ (R (.int .u64 x13) w12)))))))
  (cond (op_0 == (156 : Int))
  (Runs Try.prog num_floor64.id #[(.float .f64 x5)] w6 fun r14 w15 => (∃ x16 : Nat, (r14 = (.float .f64 x16) ∧ (Runs Try.prog num_canon64.id #[(.float .f64 x16)] w15 fun r17 w18 => (∃ x19 : Int, (r17 = (.int .u64 x19) ∧ (R (.int .u64 x19) w18)))))))
  (cond (op_0 == (157 : Int))
  (Runs Try.prog num_cut64.id #[(.float .f64 x5)] w6 fun r20 w21 => (∃ x22 : Nat, (r20 = (.float .f64 x22) ∧ (Runs Try.prog num_canon64.id #[(.float .f64 x22)] w21 fun r23 w24 => (∃ x25 : Int, (r23 = (.int .u64 x25) ∧ (R (.int .u64 x25) w24)))))))
  (cond (op_0 == (158 : Int))
  (Runs Try.prog num_near64.id #[(.float .f64 x5)] w6 fun r26 w27 => (∃ x28 : Nat, (r26 = (.float .f64 x28) ∧ (Runs Try.prog num_canon64.id #[(.float .f64 x28)] w27 fun r29 w30 => (∃ x31 : Int, (r29 = (.int .u64 x31) ∧ (R (.int .u64 x31) w30)))))))
  (cond (op_0 == (159 : Int))
  (Runs Try.prog math_Sqrt.id #[(.float .f64 x5)] w6 fun r32 w33 => (∃ x34 : Nat, (r32 = (.float .f64 x34) ∧ (Runs Try.prog num_canon64.id #[(.float .f64 x34)] w33 fun r35 w36 => (∃ x37 : Int, (r35 = (.int .u64 x37) ∧ (R (.int .u64 x37) w36)))))))
  (cond (op_0 == (160 : Int))
  (∃ x39 : Nat, ∃ w38, Sem.run Try.prog ((do eqGuard .add T_float64 (.tmp 49) (.tmp 50) (.float .f64 x5) (.float .f64 x7); Go.binOp .add T_float64 (.float .f64 x5) (.float .f64 x7))) w6 = .ok (.float .f64 x39) w38 ∧ (Runs Try.prog num_canon64.id #[(.float .f64 x39)] w38 fun r40 w41 => (∃ x42 : Int, (r40 = (.int .u64 x42) ∧ (R (.int .u64 x42) w41)))))
  (cond (op_0 == (161 : Int))
  (∃ x44 : Nat, ∃ w43, Sem.run Try.prog ((do eqGuard .sub T_float64 (.tmp 55) (.tmp 56) (.float .f64 x5) (.float .f64 x7); Go.binOp .sub T_float64 (.float .f64 x5) (.float .f64 x7))) w6 = .ok (.float .f64 x44) w43 ∧ (Runs Try.prog num_canon64.id #[(.float .f64 x44)] w43 fun r45 w46 => (∃ x47 : Int, (r45 = (.int .u64 x47) ∧ (R (.int .u64 x47) w46)))))
  (cond (op_0 == (162 : Int))
  (∃ x49 : Nat, ∃ w48, Sem.run Try.prog ((do eqGuard .mul T_float64 (.tmp 61) (.tmp 62) (.float .f64 x5) (.float .f64 x7); Go.binOp .mul T_float64 (.float .f64 x5) (.float .f64 x7))) w6 = .ok (.float .f64 x49) w48 ∧ (Runs Try.prog num_canon64.id #[(.float .f64 x49)] w48 fun r50 w51 => (∃ x52 : Int, (r50 = (.int .u64 x52) ∧ (R (.int .u64 x52) w51)))))
  (cond (op_0 == (163 : Int))
  (cond ((Ieee.Format.order (FloatKind.format .f64) x7 0) == some .eq)
  (cond ((Ieee.Format.order (FloatKind.format .f64) x5 x5) != some .eq)
  (R (.int .u64 9221120237041090560) w6)
  (cond ((Ieee.Format.order (FloatKind.format .f64) x5 0) == some .eq)
  (R (.int .u64 9221120237041090560) w6)
  (num_float64s.L1 a_1 b_2 R w6)))
  (∃ x56 : Nat, ∃ w55, Sem.run Try.prog ((do eqGuard .quo T_float64 (.tmp 81) (.tmp 82) (.float .f64 x5) (.float .f64 x7); Go.binOp .quo T_float64 (.float .f64 x5) (.float .f64 x7))) w6 = .ok (.float .f64 x56) w55 ∧ (Runs Try.prog num_canon64.id #[(.float .f64 x56)] w55 fun r57 w58 => (∃ x59 : Int, (r57 = (.int .u64 x59) ∧ (R (.int .u64 x59) w58))))))
  (cond (op_0 == (164 : Int))
  (Runs Try.prog num_least64.id #[(.int .u64 a_1), (.int .u64 b_2)] w6 fun r60 w61 => (∃ x62 : Int, (r60 = (.int .u64 x62) ∧ (R (.int .u64 x62) w61))))
  (cond (op_0 == (165 : Int))
  (Runs Try.prog num_most64.id #[(.int .u64 a_1), (.int .u64 b_2)] w6 fun r63 w64 => (∃ x65 : Int, (r63 = (.int .u64 x65) ∧ (R (.int .u64 x65) w64))))
  (R (.int .u64 (bOr .u64 (bAndNot .u64 a_1 9223372036854775808) (bAnd .u64 b_2 9223372036854775808))) w6))))))))))))))))
theorem num_float64s.enter (op_0 : Int) (a_1 : Int) (b_2 : Int) (R : Value → World → Prop) (w : World) (h : num_float64s.V op_0 a_1 b_2 R w) : Runs Try.prog num_float64s.id #[(.int .i64 op_0), (.int .u64 a_1), (.int .u64 b_2)] w R :=
  Runs.enter (c := bodyOf Try.f68) (N := 100) Try.func68 (by kernel_rfl) (by kernel_rfl) (by kernel_rfl) (seg_T good mixed Try.func68 600 false [.code (bodyOf Try.f68)] [(0, (.int .i64 op_0)), (1, (.int .u64 a_1)), (2, (.int .u64 b_2))] w (Eq.mp (show num_float64s.V op_0 a_1 b_2 R w = seg Try.prog 68 100 Try.f68.results.toList num_float64s.cuts R 600 false [.code (bodyOf Try.f68)] [(0, (.int .i64 op_0)), (1, (.int .u64 a_1)), (2, (.int .u64 b_2))] w by kernel_rfl) h))

/-! e2e/num.conv -/
def num_conv.cuts : List (Nat × List Nat) := [(22, [7, 31]), (34, [7, 47]), (46, [8, 62]), (58, [8, 78]), (78, [7, 103]), (90, [7, 118]), (106, [8, 140]), (118, [8, 155]), (178, [1, 6, 229])]
def num_conv.L1 (s_7 : Nat) (t_31 : Bool) (R : Value → World → Prop) (w : World) : Prop :=
  T Try.prog 69 235 [.code (sub (bodyOf Try.f69) [1, 1, 1, 1, 0, 1, 0, 1, 1, 1, 0, 1, 0, 1]), .code (sub (bodyOf Try.f69) [1, 1, 1, 1, 0, 1, 0, 1, 1, 1, 0, 1, 1]), .inBlock 0, .code (sub (bodyOf Try.f69) [1, 1, 1, 1, 1])] [(7, (.float .f32 s_7)), (31, (.bool t_31))] w R
def num_conv.L2 (s_7 : Nat) (t_47 : Bool) (R : Value → World → Prop) (w : World) : Prop :=
  T Try.prog 69 235 [.code (sub (bodyOf Try.f69) [1, 1, 1, 1, 0, 1, 0, 1, 1, 1, 1, 1, 0, 1, 0, 1]), .code (sub (bodyOf Try.f69) [1, 1, 1, 1, 0, 1, 0, 1, 1, 1, 1, 1, 0, 1, 1]), .inBlock 0, .code (sub (bodyOf Try.f69) [1, 1, 1, 1, 1])] [(7, (.float .f32 s_7)), (47, (.bool t_47))] w R
def num_conv.L3 (d_8 : Nat) (t_62 : Bool) (R : Value → World → Prop) (w : World) : Prop :=
  T Try.prog 69 235 [.code (sub (bodyOf Try.f69) [1, 1, 1, 1, 0, 1, 0, 1, 1, 1, 1, 1, 1, 1, 0, 1, 0, 1]), .code (sub (bodyOf Try.f69) [1, 1, 1, 1, 0, 1, 0, 1, 1, 1, 1, 1, 1, 1, 0, 1, 1]), .inBlock 0, .code (sub (bodyOf Try.f69) [1, 1, 1, 1, 1])] [(8, (.float .f64 d_8)), (62, (.bool t_62))] w R
def num_conv.L4 (d_8 : Nat) (t_78 : Bool) (R : Value → World → Prop) (w : World) : Prop :=
  T Try.prog 69 235 [.code (sub (bodyOf Try.f69) [1, 1, 1, 1, 0, 1, 0, 1, 1, 1, 1, 1, 1, 1, 1, 1, 0, 1, 0, 1]), .code (sub (bodyOf Try.f69) [1, 1, 1, 1, 0, 1, 0, 1, 1, 1, 1, 1, 1, 1, 1, 1, 0, 1, 1]), .inBlock 0, .code (sub (bodyOf Try.f69) [1, 1, 1, 1, 1])] [(8, (.float .f64 d_8)), (78, (.bool t_78))] w R
def num_conv.L5 (s_7 : Nat) (t_103 : Bool) (R : Value → World → Prop) (w : World) : Prop :=
  T Try.prog 69 235 [.code (sub (bodyOf Try.f69) [1, 1, 1, 1, 0, 1, 0, 1, 1, 1, 1, 1, 1, 1, 1, 1, 1, 1, 1, 1, 1, 1, 0, 1, 0, 1]), .code (sub (bodyOf Try.f69) [1, 1, 1, 1, 0, 1, 0, 1, 1, 1, 1, 1, 1, 1, 1, 1, 1, 1, 1, 1, 1, 1, 0, 1, 1]), .inBlock 0, .code (sub (bodyOf Try.f69) [1, 1, 1, 1, 1])] [(7, (.float .f32 s_7)), (103, (.bool t_103))] w R
def num_conv.L6 (s_7 : Nat) (t_118 : Bool) (R : Value → World → Prop) (w : World) : Prop :=
  T Try.prog 69 235 [.code (sub (bodyOf Try.f69) [1, 1, 1, 1, 0, 1, 0, 1, 1, 1, 1, 1, 1, 1, 1, 1, 1, 1, 1, 1, 1, 1, 1, 1, 0, 1, 0, 1]), .code (sub (bodyOf Try.f69) [1, 1, 1, 1, 0, 1, 0, 1, 1, 1, 1, 1, 1, 1, 1, 1, 1, 1, 1, 1, 1, 1, 1, 1, 0, 1, 1]), .inBlock 0, .code (sub (bodyOf Try.f69) [1, 1, 1, 1, 1])] [(7, (.float .f32 s_7)), (118, (.bool t_118))] w R
def num_conv.L7 (d_8 : Nat) (t_140 : Bool) (R : Value → World → Prop) (w : World) : Prop :=
  T Try.prog 69 235 [.code (sub (bodyOf Try.f69) [1, 1, 1, 1, 0, 1, 0, 1, 1, 1, 1, 1, 1, 1, 1, 1, 1, 1, 1, 1, 1, 1, 1, 1, 1, 1, 0, 1, 0, 1]), .code (sub (bodyOf Try.f69) [1, 1, 1, 1, 0, 1, 0, 1, 1, 1, 1, 1, 1, 1, 1, 1, 1, 1, 1, 1, 1, 1, 1, 1, 1, 1, 0, 1, 1]), .inBlock 0, .code (sub (bodyOf Try.f69) [1, 1, 1, 1, 1])] [(8, (.float .f64 d_8)), (140, (.bool t_140))] w R
def num_conv.L8 (d_8 : Nat) (t_155 : Bool) (R : Value → World → Prop) (w : World) : Prop :=
  T Try.prog 69 235 [.code (sub (bodyOf Try.f69) [1, 1, 1, 1, 0, 1, 0, 1, 1, 1, 1, 1, 1, 1, 1, 1, 1, 1, 1, 1, 1, 1, 1, 1, 1, 1, 1, 1, 0, 1, 0, 1]), .code (sub (bodyOf Try.f69) [1, 1, 1, 1, 0, 1, 0, 1, 1, 1, 1, 1, 1, 1, 1, 1, 1, 1, 1, 1, 1, 1, 1, 1, 1, 1, 1, 1, 0, 1, 1]), .inBlock 0, .code (sub (bodyOf Try.f69) [1, 1, 1, 1, 1])] [(8, (.float .f64 d_8)), (155, (.bool t_155))] w R
def num_conv.L9 (a_1 : Int) (w_6 : Int) (t_229 : Bool) (R : Value → World → Prop) (w : World) : Prop :=
  T Try.prog 69 235 [.code (sub (bodyOf Try.f69) [1, 1, 1, 1, 0, 1, 0, 1, 1, 1, 1, 1, 1, 1, 1, 1, 1, 1, 1, 1, 1, 1, 1, 1, 1, 1, 1, 1, 1, 1, 1, 1, 1, 1, 1, 1, 1, 1, 1, 1, 1, 1, 1, 1, 1, 1, 1, 1, 1, 1]), .inBlock 0, .code (sub (bodyOf Try.f69) [1, 1, 1, 1, 1])] [(1, (.int .u64 a_1)), (6, (.int .u32 w_6)), (229, (.bool t_229))] w R
def num_conv.V1 (s_7 : Nat) (t_31 : Bool) (R : Value → World → Prop) (w : World) : Prop :=
  (cond t_31
  (R (.tuple #[(.int .u64 0), (.int .i64 40)]) w)
  (∃ x2 : Int, ∃ w1, Sem.run Try.prog (Go.convert T_float32 T_int32 (.float .f32 s_7)) w = .ok (.int .i32 x2) w1 ∧ (R (.tuple #[(.int .u64 (IntKind.wrap .u64 (IntKind.wrap .u32 x2))), (.int .i64 0)]) w1)))
theorem num_conv.step1 (s_7 : Nat) (t_31 : Bool) (R : Value → World → Prop) (w : World) (h : num_conv.V1 s_7 t_31 R w) : num_conv.L1 s_7 t_31 R w :=
  seg_T good mixed Try.func69 600 false [.code (sub (bodyOf Try.f69) [1, 1, 1, 1, 0, 1, 0, 1, 1, 1, 0, 1, 0, 1]), .code (sub (bodyOf Try.f69) [1, 1, 1, 1, 0, 1, 0, 1, 1, 1, 0, 1, 1]), .inBlock 0, .code (sub (bodyOf Try.f69) [1, 1, 1, 1, 1])] [(7, (.float .f32 s_7)), (31, (.bool t_31))] w (Eq.mp (show num_conv.V1 s_7 t_31 R w = seg Try.prog 69 235 Try.f69.results.toList num_conv.cuts R 600 false [.code (sub (bodyOf Try.f69) [1, 1, 1, 1, 0, 1, 0, 1, 1, 1, 0, 1, 0, 1]), .code (sub (bodyOf Try.f69) [1, 1, 1, 1, 0, 1, 0, 1, 1, 1, 0, 1, 1]), .inBlock 0, .code (sub (bodyOf Try.f69) [1, 1, 1, 1, 1])] [(7, (.float .f32 s_7)), (31, (.bool t_31))] w by kernel_rfl) h)
def num_conv.V2 (s_7 : Nat) (t_47 : Bool) (R : Value → World → Prop) (w : World) : Prop :=
  (cond t_47
  (R (.tuple #[(.int .u64 0), (.int .i64 40)]) w)
  (∃ x2 : Int, ∃ w1, Sem.run Try.prog (Go.convert T_float32 T_int64 (.float .f32 s_7)) w = .ok (.int .i64 x2) w1 ∧ (R (.tuple #[(.int .u64 (IntKind.wrap .u64 x2)), (.int .i64 0)]) w1)))
theorem num_conv.step2 (s_7 : Nat) (t_47 : Bool) (R : Value → World → Prop) (w : World) (h : num_conv.V2 s_7 t_47 R w) : num_conv.L2 s_7 t_47 R w :=
  seg_T good mixed Try.func69 600 false [.code (sub (bodyOf Try.f69) [1, 1, 1, 1, 0, 1, 0, 1, 1, 1, 1, 1, 0, 1, 0, 1]), .code (sub (bodyOf Try.f69) [1, 1, 1, 1, 0, 1, 0, 1, 1, 1, 1, 1, 0, 1, 1]), .inBlock 0, .code (sub (bodyOf Try.f69) [1, 1, 1, 1, 1])] [(7, (.float .f32 s_7)), (47, (.bool t_47))] w (Eq.mp (show num_conv.V2 s_7 t_47 R w = seg Try.prog 69 235 Try.f69.results.toList num_conv.cuts R 600 false [.code (sub (bodyOf Try.f69) [1, 1, 1, 1, 0, 1, 0, 1, 1, 1, 1, 1, 0, 1, 0, 1]), .code (sub (bodyOf Try.f69) [1, 1, 1, 1, 0, 1, 0, 1, 1, 1, 1, 1, 0, 1, 1]), .inBlock 0, .code (sub (bodyOf Try.f69) [1, 1, 1, 1, 1])] [(7, (.float .f32 s_7)), (47, (.bool t_47))] w by kernel_rfl) h)
def num_conv.V3 (d_8 : Nat) (t_62 : Bool) (R : Value → World → Prop) (w : World) : Prop :=
  (cond t_62
  (R (.tuple #[(.int .u64 0), (.int .i64 40)]) w)
  (∃ x2 : Int, ∃ w1, Sem.run Try.prog (Go.convert T_float64 T_int32 (.float .f64 d_8)) w = .ok (.int .i32 x2) w1 ∧ (R (.tuple #[(.int .u64 (IntKind.wrap .u64 (IntKind.wrap .u32 x2))), (.int .i64 0)]) w1)))
theorem num_conv.step3 (d_8 : Nat) (t_62 : Bool) (R : Value → World → Prop) (w : World) (h : num_conv.V3 d_8 t_62 R w) : num_conv.L3 d_8 t_62 R w :=
  seg_T good mixed Try.func69 600 false [.code (sub (bodyOf Try.f69) [1, 1, 1, 1, 0, 1, 0, 1, 1, 1, 1, 1, 1, 1, 0, 1, 0, 1]), .code (sub (bodyOf Try.f69) [1, 1, 1, 1, 0, 1, 0, 1, 1, 1, 1, 1, 1, 1, 0, 1, 1]), .inBlock 0, .code (sub (bodyOf Try.f69) [1, 1, 1, 1, 1])] [(8, (.float .f64 d_8)), (62, (.bool t_62))] w (Eq.mp (show num_conv.V3 d_8 t_62 R w = seg Try.prog 69 235 Try.f69.results.toList num_conv.cuts R 600 false [.code (sub (bodyOf Try.f69) [1, 1, 1, 1, 0, 1, 0, 1, 1, 1, 1, 1, 1, 1, 0, 1, 0, 1]), .code (sub (bodyOf Try.f69) [1, 1, 1, 1, 0, 1, 0, 1, 1, 1, 1, 1, 1, 1, 0, 1, 1]), .inBlock 0, .code (sub (bodyOf Try.f69) [1, 1, 1, 1, 1])] [(8, (.float .f64 d_8)), (62, (.bool t_62))] w by kernel_rfl) h)
def num_conv.V4 (d_8 : Nat) (t_78 : Bool) (R : Value → World → Prop) (w : World) : Prop :=
  (cond t_78
  (R (.tuple #[(.int .u64 0), (.int .i64 40)]) w)
  (∃ x2 : Int, ∃ w1, Sem.run Try.prog (Go.convert T_float64 T_int64 (.float .f64 d_8)) w = .ok (.int .i64 x2) w1 ∧ (R (.tuple #[(.int .u64 (IntKind.wrap .u64 x2)), (.int .i64 0)]) w1)))
theorem num_conv.step4 (d_8 : Nat) (t_78 : Bool) (R : Value → World → Prop) (w : World) (h : num_conv.V4 d_8 t_78 R w) : num_conv.L4 d_8 t_78 R w :=
  seg_T good mixed Try.func69 600 false [.code (sub (bodyOf Try.f69) [1, 1, 1, 1, 0, 1, 0, 1, 1, 1, 1, 1, 1, 1, 1, 1, 0, 1, 0, 1]), .code (sub (bodyOf Try.f69) [1, 1, 1, 1, 0, 1, 0, 1, 1, 1, 1, 1, 1, 1, 1, 1, 0, 1, 1]), .inBlock 0, .code (sub (bodyOf Try.f69) [1, 1, 1, 1, 1])] [(8, (.float .f64 d_8)), (78, (.bool t_78))] w (Eq.mp (show num_conv.V4 d_8 t_78 R w = seg Try.prog 69 235 Try.f69.results.toList num_conv.cuts R 600 false [.code (sub (bodyOf Try.f69) [1, 1, 1, 1, 0, 1, 0, 1, 1, 1, 1, 1, 1, 1, 1, 1, 0, 1, 0, 1]), .code (sub (bodyOf Try.f69) [1, 1, 1, 1, 0, 1, 0, 1, 1, 1, 1, 1, 1, 1, 1, 1, 0, 1, 1]), .inBlock 0, .code (sub (bodyOf Try.f69) [1, 1, 1, 1, 1])] [(8, (.float .f64 d_8)), (78, (.bool t_78))] w by kernel_rfl) h)
def num_conv.V5 (s_7 : Nat) (t_103 : Bool) (R : Value → World → Prop) (w : World) : Prop :=
  (cond t_103
  (R (.tuple #[(.int .u64 0), (.int .i64 40)]) w)
  (∃ x2 : Int, ∃ w1, Sem.run Try.prog (Go.convert T_float32 T_int64 (.float .f32 s_7)) w = .ok (.int .i64 x2) w1 ∧ (R (.tuple #[(.int .u64 (IntKind.wrap .u64 x2)), (.int .i64 0)]) w1)))
theorem num_conv.step5 (s_7 : Nat) (t_103 : Bool) (R : Value → World → Prop) (w : World) (h : num_conv.V5 s_7 t_103 R w) : num_conv.L5 s_7 t_103 R w :=
  seg_T good mixed Try.func69 600 false [.code (sub (bodyOf Try.f69) [1, 1, 1, 1, 0, 1, 0, 1, 1, 1, 1, 1, 1, 1, 1, 1, 1, 1, 1, 1, 1, 1, 0, 1, 0, 1]), .code (sub (bodyOf Try.f69) [1, 1, 1, 1, 0, 1, 0, 1, 1, 1, 1, 1, 1, 1, 1, 1, 1, 1, 1, 1, 1, 1, 0, 1, 1]), .inBlock 0, .code (sub (bodyOf Try.f69) [1, 1, 1, 1, 1])] [(7, (.float .f32 s_7)), (103, (.bool t_103))] w (Eq.mp (show num_conv.V5 s_7 t_103 R w = seg Try.prog 69 235 Try.f69.results.toList num_conv.cuts R 600 false [.code (sub (bodyOf Try.f69) [1, 1, 1, 1, 0, 1, 0, 1, 1, 1, 1, 1, 1, 1, 1, 1, 1, 1, 1, 1, 1, 1, 0, 1, 0, 1]), .code (sub (bodyOf Try.f69) [1, 1, 1, 1, 0, 1, 0, 1, 1, 1, 1, 1, 1, 1, 1, 1, 1, 1, 1, 1, 1, 1, 0, 1, 1]), .inBlock 0, .code (sub (bodyOf Try.f69) [1, 1, 1, 1, 1])] [(7, (.float .f32 s_7)), (103, (.bool t_103))] w by kernel_rfl) h)
def num_conv.V6 (s_7 : Nat) (t_118 : Bool) (R : Value → World → Prop) (w : World) : Prop :=
  (cond t_118
  (R (.tuple #[(.int .u64 0), (.int .i64 40)]) w)
  (cond ((Ieee.Format.order (FloatKind.format .f32) s_7 1593835520) == some .gt || (Ieee.Format.order (FloatKind.format .f32) s_7 1593835520) == some .eq)
  (∃ x2 : Nat, ∃ w1, Sem.run Try.prog ((do eqGuard .sub T_float32 (.tmp 121) (.const (.float .f32 1593835520)) (.float .f32 s_7) (.float .f32 1593835520); Go.binOp .sub T_float32 (.float .f32 s_7) (.float .f32 1593835520))) w = .ok (.float .f32 x2) w1 ∧ (∃ x4 : Int, ∃ w3, Sem.run Try.prog (Go.convert T_float32 T_int64 (.float .f32 x2)) w1 = .ok (.int .i64 x4) w3 ∧ (R (.tuple #[(.int .u64 (bOr .u64 (IntKind.wrap .u64 x4) 9223372036854775808)), (.int .i64 0)]) w3)))
  (∃ x6 : Int, ∃ w5, Sem.run Try.prog (Go.convert T_float32 T_int64 (.float .f32 s_7)) w = .ok (.int .i64 x6) w5 ∧ (R (.tuple #[(.int .u64 (IntKind.wrap .u64 x6)), (.int .i64 0)]) w5))))
theorem num_conv.step6 (s_7 : Nat) (t_118 : Bool) (R : Value → World → Prop) (w : World) (h : num_conv.V6 s_7 t_118 R w) : num_conv.L6 s_7 t_118 R w :=
  seg_T good mixed Try.func69 600 false [.code (sub (bodyOf Try.f69) [1, 1, 1, 1, 0, 1, 0, 1, 1, 1, 1, 1, 1, 1, 1, 1, 1, 1, 1, 1, 1, 1, 1, 1, 0, 1, 0, 1]), .code (sub (bodyOf Try.f69) [1, 1, 1, 1, 0, 1, 0, 1, 1, 1, 1, 1, 1, 1, 1, 1, 1, 1, 1, 1, 1, 1, 1, 1, 0, 1, 1]), .inBlock 0, .code (sub (bodyOf Try.f69) [1, 1, 1, 1, 1])] [(7, (.float .f32 s_7)), (118, (.bool t_118))] w (Eq.mp (show num_conv.V6 s_7 t_118 R w = seg Try.prog 69 235 Try.f69.results.toList num_conv.cuts R 600 false [.code (sub (bodyOf Try.f69) [1, 1, 1, 1, 0, 1, 0, 1, 1, 1, 1, 1, 1, 1, 1, 1, 1, 1, 1, 1, 1, 1, 1, 1, 0, 1, 0, 1]), .code (sub (bodyOf Try.f69) [1, 1, 1, 1, 0, 1, 0, 1, 1, 1, 1, 1, 1, 1, 1, 1, 1, 1, 1, 1, 1, 1, 1, 1, 0, 1, 1]), .inBlock 0, .code (sub (bodyOf Try.f69) [1, 1, 1, 1, 1])] [(7, (.float .f32 s_7)), (118, (.bool t_118))] w by kernel_rfl) h)
def num_conv.V7 (d_8 : Nat) (t_140 : Bool) (R : Value → World → Prop) (w : World) : Prop :=
  (cond t_140
  (R (.tuple #[(.int .u64 0), (.int .i64 40)]) w)
  (∃ x2 : Int, ∃ w1, Sem.run Try.prog (Go.convert T_float64 T_int64 (.float .f64 d_8)) w = .ok (.int .i64 x2) w1 ∧ (R (.tuple #[(.int .u64 (IntKind.wrap .u64 x2)), (.int .i64 0)]) w1)))
theorem num_conv.step7 (d_8 : Nat) (t_140 : Bool) (R : Value → World → Prop) (w : World) (h : num_conv.V7 d_8 t_140 R w) : num_conv.L7 d_8 t_140 R w :=
  seg_T good mixed Try.func69 600 false [.code (sub (bodyOf Try.f69) [1, 1, 1, 1, 0, 1, 0, 1, 1, 1, 1, 1, 1, 1, 1, 1, 1, 1, 1, 1, 1, 1, 1, 1, 1, 1, 0, 1, 0, 1]), .code (sub (bodyOf Try.f69) [1, 1, 1, 1, 0, 1, 0, 1, 1, 1, 1, 1, 1, 1, 1, 1, 1, 1, 1, 1, 1, 1, 1, 1, 1, 1, 0, 1, 1]), .inBlock 0, .code (sub (bodyOf Try.f69) [1, 1, 1, 1, 1])] [(8, (.float .f64 d_8)), (140, (.bool t_140))] w (Eq.mp (show num_conv.V7 d_8 t_140 R w = seg Try.prog 69 235 Try.f69.results.toList num_conv.cuts R 600 false [.code (sub (bodyOf Try.f69) [1, 1, 1, 1, 0, 1, 0, 1, 1, 1, 1, 1, 1, 1, 1, 1, 1, 1, 1, 1, 1, 1, 1, 1, 1, 1, 0, 1, 0, 1]), .code (sub (bodyOf Try.f69) [1, 1, 1, 1, 0, 1, 0, 1, 1, 1, 1, 1, 1, 1, 1, 1, 1, 1, 1, 1, 1, 1, 1, 1, 1, 1, 0, 1, 1]), .inBlock 0, .code (sub (bodyOf Try.f69) [1, 1, 1, 1, 1])] [(8, (.float .f64 d_8)), (140, (.bool t_140))] w by kernel_rfl) h)
def num_conv.V8 (d_8 : Nat) (t_155 : Bool) (R : Value → World → Prop) (w : World) : Prop :=
  (cond t_155
  (R (.tuple #[(.int .u64 0), (.int .i64 40)]) w)
  (cond ((Ieee.Format.order (FloatKind.format .f64) d_8 4890909195324358656) == some .gt || (Ieee.Format.order (FloatKind.format .f64) d_8 4890909195324358656) == some .eq)
  (∃ x2 : Nat, ∃ w1, Sem.run Try.prog ((do eqGuard .sub T_float64 (.tmp 158) (.const (.float .f64 4890909195324358656)) (.float .f64 d_8) (.float .f64 4890909195324358656); Go.binOp .sub T_float64 (.float .f64 d_8) (.float .f64 4890909195324358656))) w = .ok (.float .f64 x2) w1 ∧ (∃ x4 : Int, ∃ w3, Sem.run Try.prog (Go.convert T_float64 T_int64 (.float .f64 x2)) w1 = .ok (.int .i64 x4) w3 ∧ (R (.tuple #[(.int .u64 (bOr .u64 (IntKind.wrap .u64 x4) 9223372036854775808)), (.int .i64 0)]) w3)))
  (∃ x6 : Int, ∃ w5, Sem.run Try.prog (Go.convert T_float64 T_int64 (.float .f64 d_8)) w = .ok (.int .i64 x6) w5 ∧ (R (.tuple #[(.int .u64 (IntKind.wrap .u64 x6)), (.int .i64 0)]) w5))))
theorem num_conv.step8 (d_8 : Nat) (t_155 : Bool) (R : Value → World → Prop) (w : World) (h : num_conv.V8 d_8 t_155 R w) : num_conv.L8 d_8 t_155 R w :=
  seg_T good mixed Try.func69 600 false [.code (sub (bodyOf Try.f69) [1, 1, 1, 1, 0, 1, 0, 1, 1, 1, 1, 1, 1, 1, 1, 1, 1, 1, 1, 1, 1, 1, 1, 1, 1, 1, 1, 1, 0, 1, 0, 1]), .code (sub (bodyOf Try.f69) [1, 1, 1, 1, 0, 1, 0, 1, 1, 1, 1, 1, 1, 1, 1, 1, 1, 1, 1, 1, 1, 1, 1, 1, 1, 1, 1, 1, 0, 1, 1]), .inBlock 0, .code (sub (bodyOf Try.f69) [1, 1, 1, 1, 1])] [(8, (.float .f64 d_8)), (155, (.bool t_155))] w (Eq.mp (show num_conv.V8 d_8 t_155 R w = seg Try.prog 69 235 Try.f69.results.toList num_conv.cuts R 600 false [.code (sub (bodyOf Try.f69) [1, 1, 1, 1, 0, 1, 0, 1, 1, 1, 1, 1, 1, 1, 1, 1, 1, 1, 1, 1, 1, 1, 1, 1, 1, 1, 1, 1, 0, 1, 0, 1]), .code (sub (bodyOf Try.f69) [1, 1, 1, 1, 0, 1, 0, 1, 1, 1, 1, 1, 1, 1, 1, 1, 1, 1, 1, 1, 1, 1, 1, 1, 1, 1, 1, 1, 0, 1, 1]), .inBlock 0, .code (sub (bodyOf Try.f69) [1, 1, 1, 1, 1])] [(8, (.float .f64 d_8)), (155, (.bool t_155))] w by kernel_rfl) h)
def num_conv.V9 (a_1 : Int) (w_6 : Int) (t_229 : Bool) (R : Value → World → Prop) (w : World) : Prop :=
  (cond t_229
  (R (.tuple #[(.int .u64 (IntKind.wrap .u64 w_6)), (.int .i64 0)]) w)
  (R (.tuple #[(.int .u64 a_1), (.int .i64 0)]) w))
theorem num_conv.step9 (a_1 : Int) (w_6 : Int) (t_229 : Bool) (R : Value → World → Prop) (w : World) (h : num_conv.V9 a_1 w_6 t_229 R w) : num_conv.L9 a_1 w_6 t_229 R w :=
  seg_T good mixed Try.func69 600 false [.code (sub (bodyOf Try.f69) [1, 1, 1, 1, 0, 1, 0, 1, 1, 1, 1, 1, 1, 1, 1, 1, 1, 1, 1, 1, 1, 1, 1, 1, 1, 1, 1, 1, 1, 1, 1, 1, 1, 1, 1, 1, 1, 1, 1, 1, 1, 1, 1, 1, 1, 1, 1, 1, 1, 1]), .inBlock 0, .code (sub (bodyOf Try.f69) [1, 1, 1, 1, 1])] [(1, (.int .u64 a_1)), (6, (.int .u32 w_6)), (229, (.bool t_229))] w (Eq.mp (show num_conv.V9 a_1 w_6 t_229 R w = seg Try.prog 69 235 Try.f69.results.toList num_conv.cuts R 600 false [.code (sub (bodyOf Try.f69) [1, 1, 1, 1, 0, 1, 0, 1, 1, 1, 1, 1, 1, 1, 1, 1, 1, 1, 1, 1, 1, 1, 1, 1, 1, 1, 1, 1, 1, 1, 1, 1, 1, 1, 1, 1, 1, 1, 1, 1, 1, 1, 1, 1, 1, 1, 1, 1, 1, 1]), .inBlock 0, .code (sub (bodyOf Try.f69) [1, 1, 1, 1, 1])] [(1, (.int .u64 a_1)), (6, (.int .u32 w_6)), (229, (.bool t_229))] w by kernel_rfl) h)
def num_conv.V (op_0 : Int) (a_1 : Int) (R : Value → World → Prop) (w : World) : Prop :=
  (∃ x4 : Nat, ∃ w3, Sem.run Try.prog (Go.callFunc math_Float32frombits.id #[(.int .u32 (IntKind.wrap .u32 a_1))]) w = .ok (.value (.float .f32 x4)) w3 ∧ (∃ x6 : Nat, ∃ w5, Sem.run Try.prog (Go.callFunc math_Float64frombits.id #[(.int .u64 a_1)]) w3 = .ok (.value (.float .f64 x6)) w5 ∧ (cond (op_0 == (167 : Int))
  (R (.tuple #[(.int .u64 (IntKind.wrap .u64 (IntKind.wrap .u32 a_1))), (.int .i64 0)]) w5)
  (cond (op_0 == (168 : Int))
  (cond ((Ieee.Format.order (FloatKind.format .f32) x4 x4) != some .eq)
  (R (.tuple #[(.int .u64 0), (.int .i64 41)]) w5)
  (cond ((Ieee.Format.order (FloatKind.format .f32) x4 3472883712) == some .gt || (Ieee.Format.order (FloatKind.format .f32) x4 3472883712) == some .eq)
  (num_conv.L1 x4 (!((Ieee.Format.order (FloatKind.format .f32) x4 1325400064) == some .lt)) R w5)
  (num_conv.L1 x4 true R w5)))
  (cond (op_0 == (169 : Int))
  (cond ((Ieee.Format.order (FloatKind.format .f32) x4 x4) != some .eq)
  (R (.tuple #[(.int .u64 0), (.int .i64 41)]) w5)
  (cond ((Ieee.Format.order (FloatKind.format .f32) x4 3212836864) == some .gt)
  (num_conv.L2 x4 (!((Ieee.Format.order (FloatKind.format .f32) x4 1333788672) == some .lt)) R w5)
  (num_conv.L2 x4 true R w5)))
  (cond (op_0 == (170 : Int))
  (cond ((Ieee.Format.order (FloatKind.format .f64) x6 x6) != some .eq)
  (R (.tuple #[(.int .u64 0), (.int .i64 41)]) w5)
  (cond ((Ieee.Format.order (FloatKind.format .f64) x6 13970166044105375744) == some .gt)
  (num_conv.L3 x6 (!((Ieee.Format.order (FloatKind.format .f64) x6 4746794007248502784) == some .lt)) R w5)
  (num_conv.L3 x6 true R w5)))
  (cond (op_0 == (171 : Int))
  (cond ((Ieee.Format.order (FloatKind.format .f64) x6 x6) != some .eq)
  (R (.tuple #[(.int .u64 0), (.int .i64 41)]) w5)
  (cond ((Ieee.Format.order (FloatKind.format .f64) x6 13830554455654793216) == some .gt)
  (num_conv.L4 x6 (!((Ieee.Format.order (FloatKind.format .f64) x6 4751297606875873280) == some .lt)) R w5)
  (num_conv.L4 x6 true R w5)))
  (cond (op_0 == (172 : Int))
  (R (.tuple #[(.int .u64 (IntKind.wrap .u64 (IntKind.wrap .i64 (IntKind.wrap .i32 (IntKind.wrap .u32 a_1))))), (.int .i64 0)]) w5)
  (cond (op_0 == (173 : Int))
  (R (.tuple #[(.int .u64 (IntKind.wrap .u64 (IntKind.wrap .u32 a_1))), (.int .i64 0)]) w5)
  (cond (op_0 == (174 : Int))
  (cond ((Ieee.Format.order (FloatKind.format .f32) x4 x4) != some .eq)
  (R (.tuple #[(.int .u64 0), (.int .i64 41)]) w5)
  (cond ((Ieee.Format.order (FloatKind.format .f32) x4 3741319168) == some .gt || (Ieee.Format.order (FloatKind.format .f32) x4 3741319168) == some .eq)
  (num_conv.L5 x4 (!((Ieee.Format.order (FloatKind.format .f32) x4 1593835520) == some .lt)) R w5)
  (num_conv.L5 x4 true R w5)))
  (cond (op_0 == (175 : Int))
  (cond ((Ieee.Format.order (FloatKind.format .f32) x4 x4) != some .eq)
  (R (.tuple #[(.int .u64 0), (.int .i64 41)]) w5)
  (cond ((Ieee.Format.order (FloatKind.format .f32) x4 3212836864) == some .gt)
  (num_conv.L6 x4 (!((Ieee.Format.order (FloatKind.format .f32) x4 1602224128) == some .lt)) R w5)
  (num_conv.L6 x4 true R w5)))
  (cond (op_0 == (176 : Int))
  (cond ((Ieee.Format.order (FloatKind.format .f64) x6 x6) != some .eq)
  (R (.tuple #[(.int .u64 0), (.int .i64 41)]) w5)
  (cond ((Ieee.Format.order (FloatKind.format .f64) x6 14114281232179134464) == some .gt || (Ieee.Format.order (FloatKind.format .f64) x6 14114281232179134464) == some .eq)
  (num_conv.L7 x6 (!((Ieee.Format.order (FloatKind.format .f64) x6 4890909195324358656) == some .lt)) R w5)
  (num_conv.L7 x6 true R w5)))
  (cond (op_0 == (177 : Int))
  (cond ((Ieee.Format.order (FloatKind.format .f64) x6 x6) != some .eq)
  (R (.tuple #[(.int .u64 0), (.int .i64 41)]) w5)
  (cond ((Ieee.Format.order (FloatKind.format .f64) x6 13830554455654793216) == some .gt)
  (num_conv.L8 x6 (!((Ieee.Format.order (FloatKind.format .f64) x6 4895412794951729152) == some .lt)) R w5)
  (num_conv.L8 x6 true R w5)))
  (cond (op_0 == (178 : Int))
  (∃ x24 : Int, ∃ w23, Sem.run Try.prog (Go.callFunc math_Float32bits.id #[(.float .f32 (FloatKind.nearest .f32 (IntKind.wrap .i32 (IntKind.wrap .u32 a_1))))]) w5 = .ok (.value (.int .u32 x24)) w23 ∧ (R (.tuple #[(.int .u64 (IntKind.wrap .u64 x24)), (.int .i64 0)]) w23))
  (cond (op_0 == (179 : Int))
  (∃ x26 : Int, ∃ w25, Sem.run Try.prog (Go.callFunc math_Float32bits.id #[(.float .f32 (FloatKind.nearest .f32 (IntKind.wrap .u32 a_1)))]) w5 = .ok (.value (.int .u32 x26)) w25 ∧ (R (.tuple #[(.int .u64 (IntKind.wrap .u64 x26)), (.int .i64 0)]) w25))
  (cond (op_0 == (180 : Int))
  (∃ x28 : Int, ∃ w27, Sem.run Try.prog (Go.callFunc math_Float32bits.id #[(.float .f32 (FloatKind.nearest .f32 (IntKind.wrap .i64 a_1)))]) w5 = .ok (.value (.int .u32 x28)) w27 ∧ (R (.tuple #[(.int .u64 (IntKind.wrap .u64 x28)), (.int .i64 0)]) w27))
  (cond (op_0 == (181 : Int))
  (∃ x30 : Int, ∃ w29, Sem.run Try.prog (Go.callFunc math_Float32bits.id #[(.float .f32 (FloatKind.nearest .f32 a_1))]) w5 = .ok (.value (.int .u32 x30)) w29 ∧ (R (.tuple #[(.int .u64 (IntKind.wrap .u64 x30)), (.int .i64 0)]) w29))
  (cond (op_0 == (182 : Int))
  (cond ((Ieee.Format.order (FloatKind.format .f64) x6 5183643170835005440) == some .gt || (Ieee.Format.order (FloatKind.format .f64) x6 5183643170835005440) == some .eq)
  (R (.tuple #[(.int .u64 2139095040), (.int .i64 0)]) w5)
  (cond ((Ieee.Format.order (FloatKind.format .f64) x6 14407015207689781248) == some .lt || (Ieee.Format.order (FloatKind.format .f64) x6 14407015207689781248) == some .eq)
  (R (.tuple #[(.int .u64 4286578688), (.int .i64 0)]) w5)
  (∃ x32 : Nat, ∃ w31, Sem.run Try.prog (Go.convert T_float64 T_float32 (.float .f64 x6)) w5 = .ok (.float .f32 x32) w31 ∧ (Runs Try.prog num_canon32.id #[(.float .f32 x32)] w31 fun r33 w34 => (∃ x35 : Int, (r33 = (.int .u32 x35) ∧ (R (.tuple #[(.int .u64 (IntKind.wrap .u64 x35)), (.int .i64 0)]) w34)))))))
  (cond (op_0 == (183 : Int))
  (∃ x37 : Int, ∃ w36, Sem.run Try.prog (Go.callFunc math_Float64bits.id #[(.float .f64 (FloatKind.nearest .f64 (IntKind.wrap .i32 (IntKind.wrap .u32 a_1))))]) w5 = .ok (.value (.int .u64 x37)) w36 ∧ (R (.tuple #[(.int .u64 x37), (.int .i64 0)]) w36))
  (cond (op_0 == (184 : Int))
  (∃ x39 : Int, ∃ w38, Sem.run Try.prog (Go.callFunc math_Float64bits.id #[(.float .f64 (FloatKind.nearest .f64 (IntKind.wrap .u32 a_1)))]) w5 = .ok (.value (.int .u64 x39)) w38 ∧ (R (.tuple #[(.int .u64 x39), (.int .i64 0)]) w38))
  (cond (op_0 == (185 : Int))
  (∃ x41 : Int, ∃ w40, Sem.run Try.prog (Go.callFunc math_Float64bits.id #[(.float .f64 (FloatKind.nearest .f64 (IntKind.wrap .i64 a_1)))]) w5 = .ok (.value (.int .u64 x41)) w40 ∧ (R (.tuple #[(.int .u64 x41), (.int .i64 0)]) w40))
  (cond (op_0 == (186 : Int))
  (∃ x43 : Int, ∃ w42, Sem.run Try.prog (Go.callFunc math_Float64bits.id #[(.float .f64 (FloatKind.nearest .f64 a_1))]) w5 = .ok (.value (.int .u64 x43)) w42 ∧ (R (.tuple #[(.int .u64 x43), (.int .i64 0)]) w42))
  (cond (op_0 == (187 : Int))
  (∃ x45 : Nat, ∃ w44, Sem.run Try.prog (Go.convert T_float32 T_float64 (.float .f32 x4)) w5 = .ok (.float .f64 x45) w44 ∧ (Runs Try.prog num_canon64.id #[(.float .f64 x45)] w44 fun r46 w47 => (∃ x48 : Int, (r46 = (.int .u64 x48) ∧ (R (.tuple #[(.int .u64 x48), (.int .i64 0)]) w47)))))
  (cond (op_0 == (188 : Int))
  (num_conv.L9 a_1 (IntKind.wrap .u32 a_1) true R w5)
  (num_conv.L9 a_1 (IntKind.wrap .u32 a_1) (op_0 == (190 : Int)) R w5)))))))))))))))))))))))))
theorem num_conv.enter (op_0 : Int) (a_1 : Int) (R : Value → World → Prop) (w : World) (h : num_conv.V op_0 a_1 R w) : Runs Try.prog num_conv.id #[(.int .i64 op_0), (.int .u64 a_1)] w R :=
  Runs.enter (c := bodyOf Try.f69) (N := 235) Try.func69 (by kernel_rfl) (by kernel_rfl) (by kernel_rfl) (seg_T good mixed Try.func69 600 false [.code (bodyOf Try.f69)] [(0, (.int .i64 op_0)), (1, (.int .u64 a_1))] w (Eq.mp (show num_conv.V op_0 a_1 R w = seg Try.prog 69 235 Try.f69.results.toList num_conv.cuts R 600 false [.code (bodyOf Try.f69)] [(0, (.int .i64 op_0)), (1, (.int .u64 a_1))] w by kernel_rfl) h))

/-! e2e/numlaw.Nearest -/
def numlaw_Nearest.cuts : List (Nat × List Nat) := [(10, [1, 3, 4, 5, 38]), (26, [1, 3, 11, 12, 16]), (34, [3, 11, 16, 17, 18, 19, 107]), (40, [11, 18, 19])]
def numlaw_Nearest.L1 (p_1 : Int) (v_3 : Int) (r_4 : Int) (f_5 : Nat) (t_38 : Bool) (R : Value → World → Prop) (w : World) : Prop :=
  T Try.prog 73 127 [.code (sub (bodyOf Try.f73) [1, 1, 1, 0, 1]), .code (sub (bodyOf Try.f73) [1, 1, 1, 1])] [(1, (.int .i64 p_1)), (3, (.int .u64 v_3)), (4, (.int .u64 r_4)), (5, (.pointer (some ⟨f_5, 0, none⟩))), (38, (.bool t_38))] w R
def numlaw_Nearest.L2 (p_1 : Int) (v_3 : Int) (m_11 : Int) (e_12 : Int) (pow_16 : Bool) (R : Value → World → Prop) (w : World) : Prop :=
  T Try.prog 73 127 [.code (sub (bodyOf Try.f73) [1, 1, 1, 1, 1, 1, 1, 1])] [(1, (.int .i64 p_1)), (3, (.int .u64 v_3)), (11, (.int .u64 m_11)), (12, (.int .i64 e_12)), (16, (.bool pow_16))] w R
def numlaw_Nearest.L3 (v_3 : Int) (m_11 : Int) (pow_16 : Bool) (n_17 : Int) (d_18 : Int) (lim_19 : Int) (t_107 : Bool) (R : Value → World → Prop) (w : World) : Prop :=
  T Try.prog 73 127 [.code (sub (bodyOf Try.f73) [1, 1, 1, 1, 1, 1, 1, 1, 1, 1, 1, 0, 1]), .code (sub (bodyOf Try.f73) [1, 1, 1, 1, 1, 1, 1, 1, 1, 1, 1, 1])] [(3, (.int .u64 v_3)), (11, (.int .u64 m_11)), (16, (.bool pow_16)), (17, (.int .u64 n_17)), (18, (.int .u64 d_18)), (19, (.int .u64 lim_19)), (107, (.bool t_107))] w R
def numlaw_Nearest.L4 (m_11 : Int) (d_18 : Int) (lim_19 : Int) (R : Value → World → Prop) (w : World) : Prop :=
  T Try.prog 73 127 [.code (sub (bodyOf Try.f73) [1, 1, 1, 1, 1, 1, 1, 1, 1, 1, 1, 1])] [(11, (.int .u64 m_11)), (18, (.int .u64 d_18)), (19, (.int .u64 lim_19))] w R
def numlaw_Nearest.V1 (p_1 : Int) (v_3 : Int) (r_4 : Int) (f_5 : Nat) (t_38 : Bool) (R : Value → World → Prop) (w : World) : Prop :=
  (cond t_38
  (cond (r_4 == (0 : Int))
  (R (.bool (v_3 == (0 : Int))) w)
  (R (.bool false) w))
  (∃ x1 : Int, ∃ x2 : Int, ∃ x3 : Int, ∃ x4 : Int, ∃ x5 : Int, ∃ x6 : Int, World.cell? w ⟨f_5, 0, none⟩ = some (.int .i64 x1) ∧ World.cell? w ⟨f_5, 1, none⟩ = some (.int .i64 x2) ∧ World.cell? w ⟨f_5, 2, none⟩ = some (.int .i64 x3) ∧ World.cell? w ⟨f_5, 3, none⟩ = some (.int .u64 x4) ∧ World.cell? w ⟨f_5, 4, none⟩ = some (.int .u64 x5) ∧ World.cell? w ⟨f_5, 5, none⟩ = some (.int .u64 x6) ∧ (Runs Try.prog numlaw_Part.id #[(.agg #[(.int .i64 x1), (.int .i64 x2), (.int .i64 x3), (.int .u64 x4), (.int .u64 x5), (.int .u64 x6)]), (.int .i64 p_1), (.int .u64 r_4)] w fun r7 w8 => (∃ x9 : Int, ∃ x10 : Int, (r7 = (.tuple #[(.int .u64 x9), (.int .i64 x10)]) ∧ (cond (decide (x10 ≤ (0 : Int)))
  (∃ x11 : Int, ∃ x12 : Int, ∃ x13 : Int, ∃ x14 : Int, ∃ x15 : Int, ∃ x16 : Int, World.cell? w8 ⟨f_5, 0, none⟩ = some (.int .i64 x11) ∧ World.cell? w8 ⟨f_5, 1, none⟩ = some (.int .i64 x12) ∧ World.cell? w8 ⟨f_5, 2, none⟩ = some (.int .i64 x13) ∧ World.cell? w8 ⟨f_5, 3, none⟩ = some (.int .u64 x14) ∧ World.cell? w8 ⟨f_5, 4, none⟩ = some (.int .u64 x15) ∧ World.cell? w8 ⟨f_5, 5, none⟩ = some (.int .u64 x16) ∧ (Runs Try.prog numlaw_CutOf.id #[(.agg #[(.int .i64 x11), (.int .i64 x12), (.int .i64 x13), (.int .u64 x14), (.int .u64 x15), (.int .u64 x16)]), (.int .i64 p_1), (.int .u64 r_4)] w8 fun r17 w18 => (∃ x19 : Int, ∃ x20 : Bool, ∃ x21 : Bool, (r17 = (.tuple #[(.int .u64 x19), (.bool x20), (.bool x21)]) ∧ (cond x20
  (R (.bool (x19 == v_3)) w18)
  (R (.bool false) w18))))))
  (0 ≤ (IntKind.wrap .u64 (IntKind.wrap .i64 (p_1 - (1 : Int)))) ∧ (cond (decide (x10 > (IntKind.wrap .i64 ((65 : Int) - p_1))))
  (R (.bool false) w8)
  (cond (x10 == (IntKind.wrap .i64 ((65 : Int) - p_1)))
  (cond (!(x9 == (IntKind.wrap .u64 ((1 : Int) * 2 ^ (min (Int.toNat (IntKind.wrap .u64 (IntKind.wrap .i64 (p_1 - (1 : Int))))) (IntKind.bits .u64))))))
  (R (.bool false) w8)
  (numlaw_Nearest.L2 p_1 v_3 x9 x10 (x9 == (IntKind.wrap .u64 ((1 : Int) * 2 ^ (min (Int.toNat (IntKind.wrap .u64 (IntKind.wrap .i64 (p_1 - (1 : Int))))) (IntKind.bits .u64))))) R w8))
  (numlaw_Nearest.L2 p_1 v_3 x9 x10 (x9 == (IntKind.wrap .u64 ((1 : Int) * 2 ^ (min (Int.toNat (IntKind.wrap .u64 (IntKind.wrap .i64 (p_1 - (1 : Int))))) (IntKind.bits .u64))))) R w8))))))))))
theorem numlaw_Nearest.step1 (p_1 : Int) (v_3 : Int) (r_4 : Int) (f_5 : Nat) (t_38 : Bool) (R : Value → World → Prop) (w : World) (h : numlaw_Nearest.V1 p_1 v_3 r_4 f_5 t_38 R w) : numlaw_Nearest.L1 p_1 v_3 r_4 f_5 t_38 R w :=
  seg_T good mixed Try.func73 600 false [.code (sub (bodyOf Try.f73) [1, 1, 1, 0, 1]), .code (sub (bodyOf Try.f73) [1, 1, 1, 1])] [(1, (.int .i64 p_1)), (3, (.int .u64 v_3)), (4, (.int .u64 r_4)), (5, (.pointer (some ⟨f_5, 0, none⟩))), (38, (.bool t_38))] w (Eq.mp (show numlaw_Nearest.V1 p_1 v_3 r_4 f_5 t_38 R w = seg Try.prog 73 127 Try.f73.results.toList numlaw_Nearest.cuts R 600 false [.code (sub (bodyOf Try.f73) [1, 1, 1, 0, 1]), .code (sub (bodyOf Try.f73) [1, 1, 1, 1])] [(1, (.int .i64 p_1)), (3, (.int .u64 v_3)), (4, (.int .u64 r_4)), (5, (.pointer (some ⟨f_5, 0, none⟩))), (38, (.bool t_38))] w by kernel_rfl) h)
def numlaw_Nearest.V2 (p_1 : Int) (v_3 : Int) (m_11 : Int) (e_12 : Int) (pow_16 : Bool) (R : Value → World → Prop) (w : World) : Prop :=
  (0 ≤ (IntKind.wrap .u64 e_12) ∧ (0 ≤ (IntKind.wrap .u64 (IntKind.wrap .i64 (e_12 - (1 : Int)))) ∧ (cond (decide (e_12 < (IntKind.wrap .i64 ((65 : Int) - p_1))))
  (numlaw_Nearest.L3 v_3 m_11 pow_16 (IntKind.wrap .u64 (m_11 * 2 ^ (min (Int.toNat (IntKind.wrap .u64 e_12)) (IntKind.bits .u64)))) (IntKind.wrap .u64 ((IntKind.wrap .u64 (m_11 * 2 ^ (min (Int.toNat (IntKind.wrap .u64 e_12)) (IntKind.bits .u64)))) - v_3)) (IntKind.wrap .u64 ((1 : Int) * 2 ^ (min (Int.toNat (IntKind.wrap .u64 (IntKind.wrap .i64 (e_12 - (1 : Int))))) (IntKind.bits .u64)))) (decide (v_3 > (IntKind.wrap .u64 (m_11 * 2 ^ (min (Int.toNat (IntKind.wrap .u64 e_12)) (IntKind.bits .u64)))))) R w)
  (numlaw_Nearest.L3 v_3 m_11 pow_16 (IntKind.wrap .u64 (m_11 * 2 ^ (min (Int.toNat (IntKind.wrap .u64 e_12)) (IntKind.bits .u64)))) (IntKind.wrap .u64 ((IntKind.wrap .u64 (m_11 * 2 ^ (min (Int.toNat (IntKind.wrap .u64 e_12)) (IntKind.bits .u64)))) - v_3)) (IntKind.wrap .u64 ((1 : Int) * 2 ^ (min (Int.toNat (IntKind.wrap .u64 (IntKind.wrap .i64 (e_12 - (1 : Int))))) (IntKind.bits .u64)))) false R w))))
theorem numlaw_Nearest.step2 (p_1 : Int) (v_3 : Int) (m_11 : Int) (e_12 : Int) (pow_16 : Bool) (R : Value → World → Prop) (w : World) (h : numlaw_Nearest.V2 p_1 v_3 m_11 e_12 pow_16 R w) : numlaw_Nearest.L2 p_1 v_3 m_11 e_12 pow_16 R w :=
  seg_T good mixed Try.func73 600 false [.code (sub (bodyOf Try.f73) [1, 1, 1, 1, 1, 1, 1, 1])] [(1, (.int .i64 p_1)), (3, (.int .u64 v_3)), (11, (.int .u64 m_11)), (12, (.int .i64 e_12)), (16, (.bool pow_16))] w (Eq.mp (show numlaw_Nearest.V2 p_1 v_3 m_11 e_12 pow_16 R w = seg Try.prog 73 127 Try.f73.results.toList numlaw_Nearest.cuts R 600 false [.code (sub (bodyOf Try.f73) [1, 1, 1, 1, 1, 1, 1, 1])] [(1, (.int .i64 p_1)), (3, (.int .u64 v_3)), (11, (.int .u64 m_11)), (12, (.int .i64 e_12)), (16, (.bool pow_16))] w by kernel_rfl) h)
def numlaw_Nearest.V3 (v_3 : Int) (m_11 : Int) (pow_16 : Bool) (n_17 : Int) (d_18 : Int) (lim_19 : Int) (t_107 : Bool) (R : Value → World → Prop) (w : World) : Prop :=
  (cond t_107
  (numlaw_Nearest.L4 m_11 (IntKind.wrap .u64 (v_3 - n_17)) lim_19 R w)
  (cond pow_16
  (numlaw_Nearest.L4 m_11 d_18 (Int.fdiv lim_19 (2 ^ (1 : Nat))) R w)
  (numlaw_Nearest.L4 m_11 d_18 lim_19 R w)))
theorem numlaw_Nearest.step3 (v_3 : Int) (m_11 : Int) (pow_16 : Bool) (n_17 : Int) (d_18 : Int) (lim_19 : Int) (t_107 : Bool) (R : Value → World → Prop) (w : World) (h : numlaw_Nearest.V3 v_3 m_11 pow_16 n_17 d_18 lim_19 t_107 R w) : numlaw_Nearest.L3 v_3 m_11 pow_16 n_17 d_18 lim_19 t_107 R w :=
  seg_T good mixed Try.func73 600 false [.code (sub (bodyOf Try.f73) [1, 1, 1, 1, 1, 1, 1, 1, 1, 1, 1, 0, 1]), .code (sub (bodyOf Try.f73) [1, 1, 1, 1, 1, 1, 1, 1, 1, 1, 1, 1])] [(3, (.int .u64 v_3)), (11, (.int .u64 m_11)), (16, (.bool pow_16)), (17, (.int .u64 n_17)), (18, (.int .u64 d_18)), (19, (.int .u64 lim_19)), (107, (.bool t_107))] w (Eq.mp (show numlaw_Nearest.V3 v_3 m_11 pow_16 n_17 d_18 lim_19 t_107 R w = seg Try.prog 73 127 Try.f73.results.toList numlaw_Nearest.cuts R 600 false [.code (sub (bodyOf Try.f73) [1, 1, 1, 1, 1, 1, 1, 1, 1, 1, 1, 0, 1]), .code (sub (bodyOf Try.f73) [1, 1, 1, 1, 1, 1, 1, 1, 1, 1, 1, 1])] [(3, (.int .u64 v_3)), (11, (.int .u64 m_11)), (16, (.bool pow_16)), (17, (.int .u64 n_17)), (18, (.int .u64 d_18)), (19, (.int .u64 lim_19)), (107, (.bool t_107))] w by kernel_rfl) h)
def numlaw_Nearest.V4 (m_11 : Int) (d_18 : Int) (lim_19 : Int) (R : Value → World → Prop) (w : World) : Prop :=
  (cond (decide (d_18 < lim_19))
  (R (.bool true) w)
  (cond (d_18 == lim_19)
  (R (.bool ((bAnd .u64 m_11 1) == (0 : Int))) w)
  (R (.bool false) w)))
theorem numlaw_Nearest.step4 (m_11 : Int) (d_18 : Int) (lim_19 : Int) (R : Value → World → Prop) (w : World) (h : numlaw_Nearest.V4 m_11 d_18 lim_19 R w) : numlaw_Nearest.L4 m_11 d_18 lim_19 R w :=
  seg_T good mixed Try.func73 600 false [.code (sub (bodyOf Try.f73) [1, 1, 1, 1, 1, 1, 1, 1, 1, 1, 1, 1])] [(11, (.int .u64 m_11)), (18, (.int .u64 d_18)), (19, (.int .u64 lim_19))] w (Eq.mp (show numlaw_Nearest.V4 m_11 d_18 lim_19 R w = seg Try.prog 73 127 Try.f73.results.toList numlaw_Nearest.cuts R 600 false [.code (sub (bodyOf Try.f73) [1, 1, 1, 1, 1, 1, 1, 1, 1, 1, 1, 1])] [(11, (.int .u64 m_11)), (18, (.int .u64 d_18)), (19, (.int .u64 lim_19))] w by kernel_rfl) h)
def numlaw_Nearest.V (f_0_1 : Int) (f_0_2 : Int) (f_0_3 : Int) (f_0_4 : Int) (f_0_5 : Int) (f_0_6 : Int) (p_1 : Int) (neg_2 : Bool) (v_3 : Int) (r_4 : Int) (R : Value → World → Prop) (w : World) : Prop :=
  (letB (Array.size (World.heap w)) fun b11 => letW (World.alloc w (.cells #[(.int .i64 f_0_1), (.int .i64 f_0_2), (.int .i64 f_0_3), (.int .u64 f_0_4), (.int .u64 f_0_5), (.int .u64 f_0_6)] T_numlaw_Fmt)) fun w12 => (∃ x13 : Int, World.cell? w12 ⟨b11, 3, none⟩ = some (.int .u64 x13) ∧ (cond (!(((bAnd .u64 r_4 x13) != (0 : Int)) == neg_2))
  (R (.bool false) w12)
  (∃ x14 : Int, World.cell? w12 ⟨b11, 3, none⟩ = some (.int .u64 x14) ∧ (∃ x15 : Int, World.cell? w12 ⟨b11, 4, none⟩ = some (.int .u64 x15) ∧ (cond (decide ((bAndNot .u64 r_4 x14) ≥ x15))
  (numlaw_Nearest.L1 p_1 v_3 (bAndNot .u64 r_4 x14) b11 true R w12)
  (numlaw_Nearest.L1 p_1 v_3 (bAndNot .u64 r_4 x14) b11 (v_3 == (0 : Int)) R w12)))))))
theorem numlaw_Nearest.enter (f_0_1 : Int) (f_0_2 : Int) (f_0_3 : Int) (f_0_4 : Int) (f_0_5 : Int) (f_0_6 : Int) (p_1 : Int) (neg_2 : Bool) (v_3 : Int) (r_4 : Int) (R : Value → World → Prop) (w : World) (h : numlaw_Nearest.V f_0_1 f_0_2 f_0_3 f_0_4 f_0_5 f_0_6 p_1 neg_2 v_3 r_4 R w) : Runs Try.prog numlaw_Nearest.id #[(.agg #[(.int .i64 f_0_1), (.int .i64 f_0_2), (.int .i64 f_0_3), (.int .u64 f_0_4), (.int .u64 f_0_5), (.int .u64 f_0_6)]), (.int .i64 p_1), (.bool neg_2), (.int .u64 v_3), (.int .u64 r_4)] w R :=
  Runs.enter (c := bodyOf Try.f73) (N := 127) Try.func73 (by kernel_rfl) (by kernel_rfl) (by kernel_rfl) (seg_T good mixed Try.func73 600 false [.code (bodyOf Try.f73)] [(0, (.agg #[(.int .i64 f_0_1), (.int .i64 f_0_2), (.int .i64 f_0_3), (.int .u64 f_0_4), (.int .u64 f_0_5), (.int .u64 f_0_6)])), (1, (.int .i64 p_1)), (2, (.bool neg_2)), (3, (.int .u64 v_3)), (4, (.int .u64 r_4))] w (Eq.mp (show numlaw_Nearest.V f_0_1 f_0_2 f_0_3 f_0_4 f_0_5 f_0_6 p_1 neg_2 v_3 r_4 R w = seg Try.prog 73 127 Try.f73.results.toList numlaw_Nearest.cuts R 600 false [.code (bodyOf Try.f73)] [(0, (.agg #[(.int .i64 f_0_1), (.int .i64 f_0_2), (.int .i64 f_0_3), (.int .u64 f_0_4), (.int .u64 f_0_5), (.int .u64 f_0_6)])), (1, (.int .i64 p_1)), (2, (.bool neg_2)), (3, (.int .u64 v_3)), (4, (.int .u64 r_4))] w by kernel_rfl) h))

/-! e2e/numlaw.KeptKey -/
def numlaw_KeptKey.cuts : List (Nat × List Nat) := [(6, [1, 2, 3])]
def numlaw_KeptKey.L1 (a_1 : Int) (b_2 : Int) (f_3 : Nat) (R : Value → World → Prop) (w : World) : Prop :=
  T Try.prog 74 116 [.code (sub (bodyOf Try.f74) [1, 1])] [(1, (.int .u64 a_1)), (2, (.int .u64 b_2)), (3, (.pointer (some ⟨f_3, 0, none⟩)))] w R
def numlaw_KeptKey.V1 (a_1 : Int) (b_2 : Int) (f_3 : Nat) (R : Value → World → Prop) (w : World) : Prop :=
  (∃ x1 : Int, ∃ x2 : Int, ∃ x3 : Int, ∃ x4 : Int, ∃ x5 : Int, ∃ x6 : Int, World.cell? w ⟨f_3, 0, none⟩ = some (.int .i64 x1) ∧ World.cell? w ⟨f_3, 1, none⟩ = some (.int .i64 x2) ∧ World.cell? w ⟨f_3, 2, none⟩ = some (.int .i64 x3) ∧ World.cell? w ⟨f_3, 3, none⟩ = some (.int .u64 x4) ∧ World.cell? w ⟨f_3, 4, none⟩ = some (.int .u64 x5) ∧ World.cell? w ⟨f_3, 5, none⟩ = some (.int .u64 x6) ∧ (Runs Try.prog numlaw_Key.id #[(.agg #[(.int .i64 x1), (.int .i64 x2), (.int .i64 x3), (.int .u64 x4), (.int .u64 x5), (.int .u64 x6)]), (.int .u64 a_1)] w fun r7 w8 => (∃ x9 : Int, (r7 = (.int .u64 x9) ∧ (∃ x10 : Int, ∃ x11 : Int, ∃ x12 : Int, ∃ x13 : Int, ∃ x14 : Int, ∃ x15 : Int, World.cell? w8 ⟨f_3, 0, none⟩ = some (.int .i64 x10) ∧ World.cell? w8 ⟨f_3, 1, none⟩ = some (.int .i64 x11) ∧ World.cell? w8 ⟨f_3, 2, none⟩ = some (.int .i64 x12) ∧ World.cell? w8 ⟨f_3, 3, none⟩ = some (.int .u64 x13) ∧ World.cell? w8 ⟨f_3, 4, none⟩ = some (.int .u64 x14) ∧ World.cell? w8 ⟨f_3, 5, none⟩ = some (.int .u64 x15) ∧ (Runs Try.prog numlaw_Key.id #[(.agg #[(.int .i64 x10), (.int .i64 x11), (.int .i64 x12), (.int .u64 x13), (.int .u64 x14), (.int .u64 x15)]), (.int .u64 b_2)] w8 fun r16 w17 => (∃ x18 : Int, (r16 = (.int .u64 x18) ∧ (∃ x19 : Int, World.cell? w17 ⟨f_3, 2, none⟩ = some (.int .i64 x19) ∧ (Runs Try.prog numlaw_ap.id #[(.int .i64 (IntKind.wrap .i64 (x19 + (2 : Int)))), (.int .u64 a_1), (.int .u64 b_2)] w17 fun r20 w21 => (∃ x22 : Int, (r20 = (.int .u64 x22) ∧ (∃ x23 : Int, World.cell? w21 ⟨f_3, 2, none⟩ = some (.int .i64 x23) ∧ (Runs Try.prog numlaw_ap.id #[(.int .i64 x23), (.int .u64 a_1), (.int .u64 b_2)] w21 fun r24 w25 => (∃ x26 : Int, (r24 = (.int .u64 x26) ∧ (∃ x27 : Int, World.cell? w25 ⟨f_3, 1, none⟩ = some (.int .i64 x27) ∧ (Runs Try.prog numlaw_ap.id #[(.int .i64 (IntKind.wrap .i64 (x27 + (4 : Int)))), (.int .u64 a_1), (.int .u64 b_2)] w25 fun r28 w29 => (∃ x30 : Int, (r28 = (.int .u64 x30) ∧ (∃ x31 : Int, World.cell? w29 ⟨f_3, 1, none⟩ = some (.int .i64 x31) ∧ (Runs Try.prog numlaw_ap.id #[(.int .i64 (IntKind.wrap .i64 (x31 + (5 : Int)))), (.int .u64 a_1), (.int .u64 b_2)] w29 fun r32 w33 => (∃ x34 : Int, (r32 = (.int .u64 x34) ∧ (cond (decide (x9 < x18))
  (cond (x22 == (1 : Int))
  (cond (x26 == (0 : Int))
  (cond (x30 == a_1)
  (R (.bool (x34 == b_2)) w33)
  (R (.bool false) w33))
  (R (.bool false) w33))
  (R (.bool false) w33))
  (cond (decide (x9 > x18))
  (cond (x22 == (0 : Int))
  (cond (x26 == (0 : Int))
  (cond (x30 == b_2)
  (R (.bool (x34 == a_1)) w33)
  (R (.bool false) w33))
  (R (.bool false) w33))
  (R (.bool false) w33))
  (cond (x22 == (0 : Int))
  (cond (x26 == (1 : Int))
  (cond (x30 == (bOr .u64 a_1 b_2))
  (R (.bool (x34 == (bAnd .u64 a_1 b_2))) w33)
  (R (.bool false) w33))
  (R (.bool false) w33))
  (R (.bool false) w33))))))))))))))))))))))))))))
theorem numlaw_KeptKey.step1 (a_1 : Int) (b_2 : Int) (f_3 : Nat) (R : Value → World → Prop) (w : World) (h : numlaw_KeptKey.V1 a_1 b_2 f_3 R w) : numlaw_KeptKey.L1 a_1 b_2 f_3 R w :=
  seg_T good mixed Try.func74 600 false [.code (sub (bodyOf Try.f74) [1, 1])] [(1, (.int .u64 a_1)), (2, (.int .u64 b_2)), (3, (.pointer (some ⟨f_3, 0, none⟩)))] w (Eq.mp (show numlaw_KeptKey.V1 a_1 b_2 f_3 R w = seg Try.prog 74 116 Try.f74.results.toList numlaw_KeptKey.cuts R 600 false [.code (sub (bodyOf Try.f74) [1, 1])] [(1, (.int .u64 a_1)), (2, (.int .u64 b_2)), (3, (.pointer (some ⟨f_3, 0, none⟩)))] w by kernel_rfl) h)
def numlaw_KeptKey.V (f_0_1 : Int) (f_0_2 : Int) (f_0_3 : Int) (f_0_4 : Int) (f_0_5 : Int) (f_0_6 : Int) (a_1 : Int) (b_2 : Int) (R : Value → World → Prop) (w : World) : Prop :=
  (letB (Array.size (World.heap w)) fun b9 => letW (World.alloc w (.cells #[(.int .i64 f_0_1), (.int .i64 f_0_2), (.int .i64 f_0_3), (.int .u64 f_0_4), (.int .u64 f_0_5), (.int .u64 f_0_6)] T_numlaw_Fmt)) fun w10 => (∃ x11 : Int, World.cell? w10 ⟨b9, 3, none⟩ = some (.int .u64 x11) ∧ (∃ x12 : Int, World.cell? w10 ⟨b9, 4, none⟩ = some (.int .u64 x12) ∧ (cond (decide ((bAndNot .u64 a_1 x11) > x12))
  (R (.bool true) w10)
  (∃ x13 : Int, World.cell? w10 ⟨b9, 3, none⟩ = some (.int .u64 x13) ∧ (∃ x14 : Int, World.cell? w10 ⟨b9, 4, none⟩ = some (.int .u64 x14) ∧ (cond (decide ((bAndNot .u64 b_2 x13) > x14))
  (R (.bool true) w10)
  (numlaw_KeptKey.L1 a_1 b_2 b9 R w10))))))))
theorem numlaw_KeptKey.enter (f_0_1 : Int) (f_0_2 : Int) (f_0_3 : Int) (f_0_4 : Int) (f_0_5 : Int) (f_0_6 : Int) (a_1 : Int) (b_2 : Int) (R : Value → World → Prop) (w : World) (h : numlaw_KeptKey.V f_0_1 f_0_2 f_0_3 f_0_4 f_0_5 f_0_6 a_1 b_2 R w) : Runs Try.prog numlaw_KeptKey.id #[(.agg #[(.int .i64 f_0_1), (.int .i64 f_0_2), (.int .i64 f_0_3), (.int .u64 f_0_4), (.int .u64 f_0_5), (.int .u64 f_0_6)]), (.int .u64 a_1), (.int .u64 b_2)] w R :=
  Runs.enter (c := bodyOf Try.f74) (N := 116) Try.func74 (by kernel_rfl) (by kernel_rfl) (by kernel_rfl) (seg_T good mixed Try.func74 600 false [.code (bodyOf Try.f74)] [(0, (.agg #[(.int .i64 f_0_1), (.int .i64 f_0_2), (.int .i64 f_0_3), (.int .u64 f_0_4), (.int .u64 f_0_5), (.int .u64 f_0_6)])), (1, (.int .u64 a_1)), (2, (.int .u64 b_2))] w (Eq.mp (show numlaw_KeptKey.V f_0_1 f_0_2 f_0_3 f_0_4 f_0_5 f_0_6 a_1 b_2 R w = seg Try.prog 74 116 Try.f74.results.toList numlaw_KeptKey.cuts R 600 false [.code (bodyOf Try.f74)] [(0, (.agg #[(.int .i64 f_0_1), (.int .i64 f_0_2), (.int .i64 f_0_3), (.int .u64 f_0_4), (.int .u64 f_0_5), (.int .u64 f_0_6)])), (1, (.int .u64 a_1)), (2, (.int .u64 b_2))] w by kernel_rfl) h))

/-! e2e/numlaw.KeptSmall -/
def numlaw_KeptSmall.cuts : List (Nat × List Nat) := [(2, [1, 2, 3, 4, 5]), (4, [1, 2, 4, 5, 11]), (6, [1, 2, 5, 11, 12]), (8, [1, 2, 5, 11, 12, 13]), (10, [1, 2, 5, 11, 12, 13, 14]), (12, [2, 5, 11, 12, 13, 14, 15, 16, 17]), (16, [2, 5, 11, 12, 13, 14]), (18, [2, 5, 11, 12, 13, 14, 18]), (20, [2, 5, 11, 12, 13, 14, 18, 19]), (22, [2, 5, 11, 12, 13, 14, 18, 19, 20]), (24, [2, 5, 11, 12, 13, 14, 18, 19, 20, 21]), (26, [2, 5, 11, 12, 13, 14, 18, 19, 20, 21, 22]), (28, [5, 11, 12, 13, 14, 18, 19, 20, 21, 22, 23]), (30, [5, 12, 13, 14, 18, 19, 20, 21, 22, 23, 127]), (32, [5, 12, 13, 14, 18, 19, 20, 21, 22, 23]), (36, [5, 12, 13, 14, 20])]
def numlaw_KeptSmall.L1 (p_1 : Int) (cv_2 : Int) (a_3 : Int) (b_4 : Int) (f_5 : Nat) (R : Value → World → Prop) (w : World) : Prop :=
  T Try.prog 75 153 [.code (sub (bodyOf Try.f75) [1])] [(1, (.int .i64 p_1)), (2, (.int .i64 cv_2)), (3, (.int .u64 a_3)), (4, (.int .u64 b_4)), (5, (.pointer (some ⟨f_5, 0, none⟩)))] w R
def numlaw_KeptSmall.L2 (p_1 : Int) (cv_2 : Int) (b_4 : Int) (f_5 : Nat) (i_11 : Int) (R : Value → World → Prop) (w : World) : Prop :=
  T Try.prog 75 153 [.code (sub (bodyOf Try.f75) [1, 1])] [(1, (.int .i64 p_1)), (2, (.int .i64 cv_2)), (4, (.int .u64 b_4)), (5, (.pointer (some ⟨f_5, 0, none⟩))), (11, (.int .i64 i_11))] w R
def numlaw_KeptSmall.L3 (p_1 : Int) (cv_2 : Int) (f_5 : Nat) (i_11 : Int) (j_12 : Int) (R : Value → World → Prop) (w : World) : Prop :=
  T Try.prog 75 153 [.code (sub (bodyOf Try.f75) [1, 1, 1])] [(1, (.int .i64 p_1)), (2, (.int .i64 cv_2)), (5, (.pointer (some ⟨f_5, 0, none⟩))), (11, (.int .i64 i_11)), (12, (.int .i64 j_12))] w R
def numlaw_KeptSmall.L4 (p_1 : Int) (cv_2 : Int) (f_5 : Nat) (i_11 : Int) (j_12 : Int) (x_13 : Int) (R : Value → World → Prop) (w : World) : Prop :=
  T Try.prog 75 153 [.code (sub (bodyOf Try.f75) [1, 1, 1, 1])] [(1, (.int .i64 p_1)), (2, (.int .i64 cv_2)), (5, (.pointer (some ⟨f_5, 0, none⟩))), (11, (.int .i64 i_11)), (12, (.int .i64 j_12)), (13, (.int .u64 x_13))] w R
def numlaw_KeptSmall.L5 (p_1 : Int) (cv_2 : Int) (f_5 : Nat) (i_11 : Int) (j_12 : Int) (x_13 : Int) (y_14 : Int) (R : Value → World → Prop) (w : World) : Prop :=
  T Try.prog 75 153 [.code (sub (bodyOf Try.f75) [1, 1, 1, 1, 1])] [(1, (.int .i64 p_1)), (2, (.int .i64 cv_2)), (5, (.pointer (some ⟨f_5, 0, none⟩))), (11, (.int .i64 i_11)), (12, (.int .i64 j_12)), (13, (.int .u64 x_13)), (14, (.int .u64 y_14))] w R
def numlaw_KeptSmall.L6 (cv_2 : Int) (f_5 : Nat) (i_11 : Int) (j_12 : Int) (x_13 : Int) (y_14 : Int) (n_15 : Int) (exact_16 : Bool) (ok_17 : Bool) (R : Value → World → Prop) (w : World) : Prop :=
  T Try.prog 75 153 [.code (sub (bodyOf Try.f75) [1, 1, 1, 1, 1, 1])] [(2, (.int .i64 cv_2)), (5, (.pointer (some ⟨f_5, 0, none⟩))), (11, (.int .i64 i_11)), (12, (.int .i64 j_12)), (13, (.int .u64 x_13)), (14, (.int .u64 y_14)), (15, (.int .u64 n_15)), (16, (.bool exact_16)), (17, (.bool ok_17))] w R
def numlaw_KeptSmall.L7 (cv_2 : Int) (f_5 : Nat) (i_11 : Int) (j_12 : Int) (x_13 : Int) (y_14 : Int) (R : Value → World → Prop) (w : World) : Prop :=
  T Try.prog 75 153 [.code (sub (bodyOf Try.f75) [1, 1, 1, 1, 1, 1, 1])] [(2, (.int .i64 cv_2)), (5, (.pointer (some ⟨f_5, 0, none⟩))), (11, (.int .i64 i_11)), (12, (.int .i64 j_12)), (13, (.int .u64 x_13)), (14, (.int .u64 y_14))] w R
def numlaw_KeptSmall.L8 (cv_2 : Int) (f_5 : Nat) (i_11 : Int) (j_12 : Int) (x_13 : Int) (y_14 : Int) (s_18 : Int) (R : Value → World → Prop) (w : World) : Prop :=
  T Try.prog 75 153 [.code (sub (bodyOf Try.f75) [1, 1, 1, 1, 1, 1, 1, 1])] [(2, (.int .i64 cv_2)), (5, (.pointer (some ⟨f_5, 0, none⟩))), (11, (.int .i64 i_11)), (12, (.int .i64 j_12)), (13, (.int .u64 x_13)), (14, (.int .u64 y_14)), (18, (.int .u64 s_18))] w R
def numlaw_KeptSmall.L9 (cv_2 : Int) (f_5 : Nat) (i_11 : Int) (j_12 : Int) (x_13 : Int) (y_14 : Int) (s_18 : Int) (d_19 : Int) (R : Value → World → Prop) (w : World) : Prop :=
  T Try.prog 75 153 [.code (sub (bodyOf Try.f75) [1, 1, 1, 1, 1, 1, 1, 1, 1])] [(2, (.int .i64 cv_2)), (5, (.pointer (some ⟨f_5, 0, none⟩))), (11, (.int .i64 i_11)), (12, (.int .i64 j_12)), (13, (.int .u64 x_13)), (14, (.int .u64 y_14)), (18, (.int .u64 s_18)), (19, (.int .u64 d_19))] w R
def numlaw_KeptSmall.L10 (cv_2 : Int) (f_5 : Nat) (i_11 : Int) (j_12 : Int) (x_13 : Int) (y_14 : Int) (s_18 : Int) (d_19 : Int) (q_20 : Int) (R : Value → World → Prop) (w : World) : Prop :=
  T Try.prog 75 153 [.code (sub (bodyOf Try.f75) [1, 1, 1, 1, 1, 1, 1, 1, 1, 1])] [(2, (.int .i64 cv_2)), (5, (.pointer (some ⟨f_5, 0, none⟩))), (11, (.int .i64 i_11)), (12, (.int .i64 j_12)), (13, (.int .u64 x_13)), (14, (.int .u64 y_14)), (18, (.int .u64 s_18)), (19, (.int .u64 d_19)), (20, (.int .u64 q_20))] w R
def numlaw_KeptSmall.L11 (cv_2 : Int) (f_5 : Nat) (i_11 : Int) (j_12 : Int) (x_13 : Int) (y_14 : Int) (s_18 : Int) (d_19 : Int) (q_20 : Int) (ws_21 : Int) (R : Value → World → Prop) (w : World) : Prop :=
  T Try.prog 75 153 [.code (sub (bodyOf Try.f75) [1, 1, 1, 1, 1, 1, 1, 1, 1, 1, 1])] [(2, (.int .i64 cv_2)), (5, (.pointer (some ⟨f_5, 0, none⟩))), (11, (.int .i64 i_11)), (12, (.int .i64 j_12)), (13, (.int .u64 x_13)), (14, (.int .u64 y_14)), (18, (.int .u64 s_18)), (19, (.int .u64 d_19)), (20, (.int .u64 q_20)), (21, (.int .u64 ws_21))] w R
def numlaw_KeptSmall.L12 (cv_2 : Int) (f_5 : Nat) (i_11 : Int) (j_12 : Int) (x_13 : Int) (y_14 : Int) (s_18 : Int) (d_19 : Int) (q_20 : Int) (ws_21 : Int) (wd_22 : Int) (R : Value → World → Prop) (w : World) : Prop :=
  T Try.prog 75 153 [.code (sub (bodyOf Try.f75) [1, 1, 1, 1, 1, 1, 1, 1, 1, 1, 1, 1])] [(2, (.int .i64 cv_2)), (5, (.pointer (some ⟨f_5, 0, none⟩))), (11, (.int .i64 i_11)), (12, (.int .i64 j_12)), (13, (.int .u64 x_13)), (14, (.int .u64 y_14)), (18, (.int .u64 s_18)), (19, (.int .u64 d_19)), (20, (.int .u64 q_20)), (21, (.int .u64 ws_21)), (22, (.int .u64 wd_22))] w R
def numlaw_KeptSmall.L13 (f_5 : Nat) (i_11 : Int) (j_12 : Int) (x_13 : Int) (y_14 : Int) (s_18 : Int) (d_19 : Int) (q_20 : Int) (ws_21 : Int) (wd_22 : Int) (wq_23 : Int) (R : Value → World → Prop) (w : World) : Prop :=
  T Try.prog 75 153 [.code (sub (bodyOf Try.f75) [1, 1, 1, 1, 1, 1, 1, 1, 1, 1, 1, 1, 1])] [(5, (.pointer (some ⟨f_5, 0, none⟩))), (11, (.int .i64 i_11)), (12, (.int .i64 j_12)), (13, (.int .u64 x_13)), (14, (.int .u64 y_14)), (18, (.int .u64 s_18)), (19, (.int .u64 d_19)), (20, (.int .u64 q_20)), (21, (.int .u64 ws_21)), (22, (.int .u64 wd_22)), (23, (.int .u64 wq_23))] w R
def numlaw_KeptSmall.L14 (f_5 : Nat) (j_12 : Int) (x_13 : Int) (y_14 : Int) (s_18 : Int) (d_19 : Int) (q_20 : Int) (ws_21 : Int) (wd_22 : Int) (wq_23 : Int) (t_127 : Bool) (R : Value → World → Prop) (w : World) : Prop :=
  T Try.prog 75 153 [.code (sub (bodyOf Try.f75) [1, 1, 1, 1, 1, 1, 1, 1, 1, 1, 1, 1, 1, 0, 1]), .code (sub (bodyOf Try.f75) [1, 1, 1, 1, 1, 1, 1, 1, 1, 1, 1, 1, 1, 1])] [(5, (.pointer (some ⟨f_5, 0, none⟩))), (12, (.int .i64 j_12)), (13, (.int .u64 x_13)), (14, (.int .u64 y_14)), (18, (.int .u64 s_18)), (19, (.int .u64 d_19)), (20, (.int .u64 q_20)), (21, (.int .u64 ws_21)), (22, (.int .u64 wd_22)), (23, (.int .u64 wq_23)), (127, (.bool t_127))] w R
def numlaw_KeptSmall.L15 (f_5 : Nat) (j_12 : Int) (x_13 : Int) (y_14 : Int) (s_18 : Int) (d_19 : Int) (q_20 : Int) (ws_21 : Int) (wd_22 : Int) (wq_23 : Int) (R : Value → World → Prop) (w : World) : Prop :=
  T Try.prog 75 153 [.code (sub (bodyOf Try.f75) [1, 1, 1, 1, 1, 1, 1, 1, 1, 1, 1, 1, 1, 1])] [(5, (.pointer (some ⟨f_5, 0, none⟩))), (12, (.int .i64 j_12)), (13, (.int .u64 x_13)), (14, (.int .u64 y_14)), (18, (.int .u64 s_18)), (19, (.int .u64 d_19)), (20, (.int .u64 q_20)), (21, (.int .u64 ws_21)), (22, (.int .u64 wd_22)), (23, (.int .u64 wq_23))] w R
def numlaw_KeptSmall.L16 (f_5 : Nat) (j_12 : Int) (x_13 : Int) (y_14 : Int) (q_20 : Int) (R : Value → World → Prop) (w : World) : Prop :=
  T Try.prog 75 153 [.code (sub (bodyOf Try.f75) [1, 1, 1, 1, 1, 1, 1, 1, 1, 1, 1, 1, 1, 1, 1])] [(5, (.pointer (some ⟨f_5, 0, none⟩))), (12, (.int .i64 j_12)), (13, (.int .u64 x_13)), (14, (.int .u64 y_14)), (20, (.int .u64 q_20))] w R
def numlaw_KeptSmall.V1 (p_1 : Int) (cv_2 : Int) (a_3 : Int) (b_4 : Int) (f_5 : Nat) (R : Value → World → Prop) (w : World) : Prop :=
  (numlaw_KeptSmall.L2 p_1 cv_2 b_4 f_5 (IntKind.wrap .i64 ((IntKind.wrap .i64 (bAnd .u64 a_3 4095)) - (2048 : Int))) R w)
theorem numlaw_KeptSmall.step1 (p_1 : Int) (cv_2 : Int) (a_3 : Int) (b_4 : Int) (f_5 : Nat) (R : Value → World → Prop) (w : World) (h : numlaw_KeptSmall.V1 p_1 cv_2 a_3 b_4 f_5 R w) : numlaw_KeptSmall.L1 p_1 cv_2 a_3 b_4 f_5 R w :=
  seg_T good mixed Try.func75 600 false [.code (sub (bodyOf Try.f75) [1])] [(1, (.int .i64 p_1)), (2, (.int .i64 cv_2)), (3, (.int .u64 a_3)), (4, (.int .u64 b_4)), (5, (.pointer (some ⟨f_5, 0, none⟩)))] w (Eq.mp (show numlaw_KeptSmall.V1 p_1 cv_2 a_3 b_4 f_5 R w = seg Try.prog 75 153 Try.f75.results.toList numlaw_KeptSmall.cuts R 600 false [.code (sub (bodyOf Try.f75) [1])] [(1, (.int .i64 p_1)), (2, (.int .i64 cv_2)), (3, (.int .u64 a_3)), (4, (.int .u64 b_4)), (5, (.pointer (some ⟨f_5, 0, none⟩)))] w by kernel_rfl) h)
def numlaw_KeptSmall.V2 (p_1 : Int) (cv_2 : Int) (b_4 : Int) (f_5 : Nat) (i_11 : Int) (R : Value → World → Prop) (w : World) : Prop :=
  (numlaw_KeptSmall.L3 p_1 cv_2 f_5 i_11 (IntKind.wrap .i64 ((IntKind.wrap .i64 (bAnd .u64 b_4 4095)) - (2048 : Int))) R w)
theorem numlaw_KeptSmall.step2 (p_1 : Int) (cv_2 : Int) (b_4 : Int) (f_5 : Nat) (i_11 : Int) (R : Value → World → Prop) (w : World) (h : numlaw_KeptSmall.V2 p_1 cv_2 b_4 f_5 i_11 R w) : numlaw_KeptSmall.L2 p_1 cv_2 b_4 f_5 i_11 R w :=
  seg_T good mixed Try.func75 600 false [.code (sub (bodyOf Try.f75) [1, 1])] [(1, (.int .i64 p_1)), (2, (.int .i64 cv_2)), (4, (.int .u64 b_4)), (5, (.pointer (some ⟨f_5, 0, none⟩))), (11, (.int .i64 i_11))] w (Eq.mp (show numlaw_KeptSmall.V2 p_1 cv_2 b_4 f_5 i_11 R w = seg Try.prog 75 153 Try.f75.results.toList numlaw_KeptSmall.cuts R 600 false [.code (sub (bodyOf Try.f75) [1, 1])] [(1, (.int .i64 p_1)), (2, (.int .i64 cv_2)), (4, (.int .u64 b_4)), (5, (.pointer (some ⟨f_5, 0, none⟩))), (11, (.int .i64 i_11))] w by kernel_rfl) h)
def numlaw_KeptSmall.V3 (p_1 : Int) (cv_2 : Int) (f_5 : Nat) (i_11 : Int) (j_12 : Int) (R : Value → World → Prop) (w : World) : Prop :=
  (Runs Try.prog numlaw_ap.id #[(.int .i64 cv_2), (.int .u64 (IntKind.wrap .u64 (IntKind.wrap .u32 i_11))), (.int .u64 0)] w fun r1 w2 => (∃ x3 : Int, (r1 = (.int .u64 x3) ∧ (numlaw_KeptSmall.L4 p_1 cv_2 f_5 i_11 j_12 x3 R w2))))
theorem numlaw_KeptSmall.step3 (p_1 : Int) (cv_2 : Int) (f_5 : Nat) (i_11 : Int) (j_12 : Int) (R : Value → World → Prop) (w : World) (h : numlaw_KeptSmall.V3 p_1 cv_2 f_5 i_11 j_12 R w) : numlaw_KeptSmall.L3 p_1 cv_2 f_5 i_11 j_12 R w :=
  seg_T good mixed Try.func75 600 false [.code (sub (bodyOf Try.f75) [1, 1, 1])] [(1, (.int .i64 p_1)), (2, (.int .i64 cv_2)), (5, (.pointer (some ⟨f_5, 0, none⟩))), (11, (.int .i64 i_11)), (12, (.int .i64 j_12))] w (Eq.mp (show numlaw_KeptSmall.V3 p_1 cv_2 f_5 i_11 j_12 R w = seg Try.prog 75 153 Try.f75.results.toList numlaw_KeptSmall.cuts R 600 false [.code (sub (bodyOf Try.f75) [1, 1, 1])] [(1, (.int .i64 p_1)), (2, (.int .i64 cv_2)), (5, (.pointer (some ⟨f_5, 0, none⟩))), (11, (.int .i64 i_11)), (12, (.int .i64 j_12))] w by kernel_rfl) h)
def numlaw_KeptSmall.V4 (p_1 : Int) (cv_2 : Int) (f_5 : Nat) (i_11 : Int) (j_12 : Int) (x_13 : Int) (R : Value → World → Prop) (w : World) : Prop :=
  (Runs Try.prog numlaw_ap.id #[(.int .i64 cv_2), (.int .u64 (IntKind.wrap .u64 (IntKind.wrap .u32 j_12))), (.int .u64 0)] w fun r1 w2 => (∃ x3 : Int, (r1 = (.int .u64 x3) ∧ (numlaw_KeptSmall.L5 p_1 cv_2 f_5 i_11 j_12 x_13 x3 R w2))))
theorem numlaw_KeptSmall.step4 (p_1 : Int) (cv_2 : Int) (f_5 : Nat) (i_11 : Int) (j_12 : Int) (x_13 : Int) (R : Value → World → Prop) (w : World) (h : numlaw_KeptSmall.V4 p_1 cv_2 f_5 i_11 j_12 x_13 R w) : numlaw_KeptSmall.L4 p_1 cv_2 f_5 i_11 j_12 x_13 R w :=
  seg_T good mixed Try.func75 600 false [.code (sub (bodyOf Try.f75) [1, 1, 1, 1])] [(1, (.int .i64 p_1)), (2, (.int .i64 cv_2)), (5, (.pointer (some ⟨f_5, 0, none⟩))), (11, (.int .i64 i_11)), (12, (.int .i64 j_12)), (13, (.int .u64 x_13))] w (Eq.mp (show numlaw_KeptSmall.V4 p_1 cv_2 f_5 i_11 j_12 x_13 R w = seg Try.prog 75 153 Try.f75.results.toList numlaw_KeptSmall.cuts R 600 false [.code (sub (bodyOf Try.f75) [1, 1, 1, 1])] [(1, (.int .i64 p_1)), (2, (.int .i64 cv_2)), (5, (.pointer (some ⟨f_5, 0, none⟩))), (11, (.int .i64 i_11)), (12, (.int .i64 j_12)), (13, (.int .u64 x_13))] w by kernel_rfl) h)
def numlaw_KeptSmall.V5 (p_1 : Int) (cv_2 : Int) (f_5 : Nat) (i_11 : Int) (j_12 : Int) (x_13 : Int) (y_14 : Int) (R : Value → World → Prop) (w : World) : Prop :=
  (∃ x1 : Int, ∃ x2 : Int, ∃ x3 : Int, ∃ x4 : Int, ∃ x5 : Int, ∃ x6 : Int, World.cell? w ⟨f_5, 0, none⟩ = some (.int .i64 x1) ∧ World.cell? w ⟨f_5, 1, none⟩ = some (.int .i64 x2) ∧ World.cell? w ⟨f_5, 2, none⟩ = some (.int .i64 x3) ∧ World.cell? w ⟨f_5, 3, none⟩ = some (.int .u64 x4) ∧ World.cell? w ⟨f_5, 4, none⟩ = some (.int .u64 x5) ∧ World.cell? w ⟨f_5, 5, none⟩ = some (.int .u64 x6) ∧ (Runs Try.prog numlaw_CutOf.id #[(.agg #[(.int .i64 x1), (.int .i64 x2), (.int .i64 x3), (.int .u64 x4), (.int .u64 x5), (.int .u64 x6)]), (.int .i64 p_1), (.int .u64 x_13)] w fun r7 w8 => (∃ x9 : Int, ∃ x10 : Bool, ∃ x11 : Bool, (r7 = (.tuple #[(.int .u64 x9), (.bool x10), (.bool x11)]) ∧ (numlaw_KeptSmall.L6 cv_2 f_5 i_11 j_12 x_13 y_14 x9 x10 x11 R w8)))))
theorem numlaw_KeptSmall.step5 (p_1 : Int) (cv_2 : Int) (f_5 : Nat) (i_11 : Int) (j_12 : Int) (x_13 : Int) (y_14 : Int) (R : Value → World → Prop) (w : World) (h : numlaw_KeptSmall.V5 p_1 cv_2 f_5 i_11 j_12 x_13 y_14 R w) : numlaw_KeptSmall.L5 p_1 cv_2 f_5 i_11 j_12 x_13 y_14 R w :=
  seg_T good mixed Try.func75 600 false [.code (sub (bodyOf Try.f75) [1, 1, 1, 1, 1])] [(1, (.int .i64 p_1)), (2, (.int .i64 cv_2)), (5, (.pointer (some ⟨f_5, 0, none⟩))), (11, (.int .i64 i_11)), (12, (.int .i64 j_12)), (13, (.int .u64 x_13)), (14, (.int .u64 y_14))] w (Eq.mp (show numlaw_KeptSmall.V5 p_1 cv_2 f_5 i_11 j_12 x_13 y_14 R w = seg Try.prog 75 153 Try.f75.results.toList numlaw_KeptSmall.cuts R 600 false [.code (sub (bodyOf Try.f75) [1, 1, 1, 1, 1])] [(1, (.int .i64 p_1)), (2, (.int .i64 cv_2)), (5, (.pointer (some ⟨f_5, 0, none⟩))), (11, (.int .i64 i_11)), (12, (.int .i64 j_12)), (13, (.int .u64 x_13)), (14, (.int .u64 y_14))] w by kernel_rfl) h)
def numlaw_KeptSmall.V6 (cv_2 : Int) (f_5 : Nat) (i_11 : Int) (j_12 : Int) (x_13 : Int) (y_14 : Int) (n_15 : Int) (exact_16 : Bool) (ok_17 : Bool) (R : Value → World → Prop) (w : World) : Prop :=
  (cond (!ok_17)
  (R (.bool false) w)
  (cond (!exact_16)
  (R (.bool false) w)
  (∃ x1 : Int, World.cell? w ⟨f_5, 3, none⟩ = some (.int .u64 x1) ∧ (cond (!(((bAnd .u64 x_13 x1) != (0 : Int)) == (decide (i_11 < (0 : Int)))))
  (R (.bool false) w)
  (cond ((IntKind.wrap .i64 n_15) != i_11)
  (cond ((IntKind.wrap .i64 n_15) != (IntKind.wrap .i64 (0 - i_11)))
  (R (.bool false) w)
  (numlaw_KeptSmall.L7 cv_2 f_5 i_11 j_12 x_13 y_14 R w))
  (numlaw_KeptSmall.L7 cv_2 f_5 i_11 j_12 x_13 y_14 R w))))))
theorem numlaw_KeptSmall.step6 (cv_2 : Int) (f_5 : Nat) (i_11 : Int) (j_12 : Int) (x_13 : Int) (y_14 : Int) (n_15 : Int) (exact_16 : Bool) (ok_17 : Bool) (R : Value → World → Prop) (w : World) (h : numlaw_KeptSmall.V6 cv_2 f_5 i_11 j_12 x_13 y_14 n_15 exact_16 ok_17 R w) : numlaw_KeptSmall.L6 cv_2 f_5 i_11 j_12 x_13 y_14 n_15 exact_16 ok_17 R w :=
  seg_T good mixed Try.func75 600 false [.code (sub (bodyOf Try.f75) [1, 1, 1, 1, 1, 1])] [(2, (.int .i64 cv_2)), (5, (.pointer (some ⟨f_5, 0, none⟩))), (11, (.int .i64 i_11)), (12, (.int .i64 j_12)), (13, (.int .u64 x_13)), (14, (.int .u64 y_14)), (15, (.int .u64 n_15)), (16, (.bool exact_16)), (17, (.bool ok_17))] w (Eq.mp (show numlaw_KeptSmall.V6 cv_2 f_5 i_11 j_12 x_13 y_14 n_15 exact_16 ok_17 R w = seg Try.prog 75 153 Try.f75.results.toList numlaw_KeptSmall.cuts R 600 false [.code (sub (bodyOf Try.f75) [1, 1, 1, 1, 1, 1])] [(2, (.int .i64 cv_2)), (5, (.pointer (some ⟨f_5, 0, none⟩))), (11, (.int .i64 i_11)), (12, (.int .i64 j_12)), (13, (.int .u64 x_13)), (14, (.int .u64 y_14)), (15, (.int .u64 n_15)), (16, (.bool exact_16)), (17, (.bool ok_17))] w by kernel_rfl) h)
def numlaw_KeptSmall.V7 (cv_2 : Int) (f_5 : Nat) (i_11 : Int) (j_12 : Int) (x_13 : Int) (y_14 : Int) (R : Value → World → Prop) (w : World) : Prop :=
  (∃ x1 : Int, World.cell? w ⟨f_5, 1, none⟩ = some (.int .i64 x1) ∧ (Runs Try.prog numlaw_ap.id #[(.int .i64 x1), (.int .u64 x_13), (.int .u64 y_14)] w fun r2 w3 => (∃ x4 : Int, (r2 = (.int .u64 x4) ∧ (numlaw_KeptSmall.L8 cv_2 f_5 i_11 j_12 x_13 y_14 x4 R w3)))))
theorem numlaw_KeptSmall.step7 (cv_2 : Int) (f_5 : Nat) (i_11 : Int) (j_12 : Int) (x_13 : Int) (y_14 : Int) (R : Value → World → Prop) (w : World) (h : numlaw_KeptSmall.V7 cv_2 f_5 i_11 j_12 x_13 y_14 R w) : numlaw_KeptSmall.L7 cv_2 f_5 i_11 j_12 x_13 y_14 R w :=
  seg_T good mixed Try.func75 600 false [.code (sub (bodyOf Try.f75) [1, 1, 1, 1, 1, 1, 1])] [(2, (.int .i64 cv_2)), (5, (.pointer (some ⟨f_5, 0, none⟩))), (11, (.int .i64 i_11)), (12, (.int .i64 j_12)), (13, (.int .u64 x_13)), (14, (.int .u64 y_14))] w (Eq.mp (show numlaw_KeptSmall.V7 cv_2 f_5 i_11 j_12 x_13 y_14 R w = seg Try.prog 75 153 Try.f75.results.toList numlaw_KeptSmall.cuts R 600 false [.code (sub (bodyOf Try.f75) [1, 1, 1, 1, 1, 1, 1])] [(2, (.int .i64 cv_2)), (5, (.pointer (some ⟨f_5, 0, none⟩))), (11, (.int .i64 i_11)), (12, (.int .i64 j_12)), (13, (.int .u64 x_13)), (14, (.int .u64 y_14))] w by kernel_rfl) h)
def numlaw_KeptSmall.V8 (cv_2 : Int) (f_5 : Nat) (i_11 : Int) (j_12 : Int) (x_13 : Int) (y_14 : Int) (s_18 : Int) (R : Value → World → Prop) (w : World) : Prop :=
  (∃ x1 : Int, World.cell? w ⟨f_5, 1, none⟩ = some (.int .i64 x1) ∧ (Runs Try.prog numlaw_ap.id #[(.int .i64 (IntKind.wrap .i64 (x1 + (1 : Int)))), (.int .u64 x_13), (.int .u64 y_14)] w fun r2 w3 => (∃ x4 : Int, (r2 = (.int .u64 x4) ∧ (numlaw_KeptSmall.L9 cv_2 f_5 i_11 j_12 x_13 y_14 s_18 x4 R w3)))))
theorem numlaw_KeptSmall.step8 (cv_2 : Int) (f_5 : Nat) (i_11 : Int) (j_12 : Int) (x_13 : Int) (y_14 : Int) (s_18 : Int) (R : Value → World → Prop) (w : World) (h : numlaw_KeptSmall.V8 cv_2 f_5 i_11 j_12 x_13 y_14 s_18 R w) : numlaw_KeptSmall.L8 cv_2 f_5 i_11 j_12 x_13 y_14 s_18 R w :=
  seg_T good mixed Try.func75 600 false [.code (sub (bodyOf Try.f75) [1, 1, 1, 1, 1, 1, 1, 1])] [(2, (.int .i64 cv_2)), (5, (.pointer (some ⟨f_5, 0, none⟩))), (11, (.int .i64 i_11)), (12, (.int .i64 j_12)), (13, (.int .u64 x_13)), (14, (.int .u64 y_14)), (18, (.int .u64 s_18))] w (Eq.mp (show numlaw_KeptSmall.V8 cv_2 f_5 i_11 j_12 x_13 y_14 s_18 R w = seg Try.prog 75 153 Try.f75.results.toList numlaw_KeptSmall.cuts R 600 false [.code (sub (bodyOf Try.f75) [1, 1, 1, 1, 1, 1, 1, 1])] [(2, (.int .i64 cv_2)), (5, (.pointer (some ⟨f_5, 0, none⟩))), (11, (.int .i64 i_11)), (12, (.int .i64 j_12)), (13, (.int .u64 x_13)), (14, (.int .u64 y_14)), (18, (.int .u64 s_18))] w by kernel_rfl) h)
def numlaw_KeptSmall.V9 (cv_2 : Int) (f_5 : Nat) (i_11 : Int) (j_12 : Int) (x_13 : Int) (y_14 : Int) (s_18 : Int) (d_19 : Int) (R : Value → World → Prop) (w : World) : Prop :=
  (∃ x1 : Int, World.cell? w ⟨f_5, 1, none⟩ = some (.int .i64 x1) ∧ (Runs Try.prog numlaw_ap.id #[(.int .i64 (IntKind.wrap .i64 (x1 + (2 : Int)))), (.int .u64 x_13), (.int .u64 y_14)] w fun r2 w3 => (∃ x4 : Int, (r2 = (.int .u64 x4) ∧ (numlaw_KeptSmall.L10 cv_2 f_5 i_11 j_12 x_13 y_14 s_18 d_19 x4 R w3)))))
theorem numlaw_KeptSmall.step9 (cv_2 : Int) (f_5 : Nat) (i_11 : Int) (j_12 : Int) (x_13 : Int) (y_14 : Int) (s_18 : Int) (d_19 : Int) (R : Value → World → Prop) (w : World) (h : numlaw_KeptSmall.V9 cv_2 f_5 i_11 j_12 x_13 y_14 s_18 d_19 R w) : numlaw_KeptSmall.L9 cv_2 f_5 i_11 j_12 x_13 y_14 s_18 d_19 R w :=
  seg_T good mixed Try.func75 600 false [.code (sub (bodyOf Try.f75) [1, 1, 1, 1, 1, 1, 1, 1, 1])] [(2, (.int .i64 cv_2)), (5, (.pointer (some ⟨f_5, 0, none⟩))), (11, (.int .i64 i_11)), (12, (.int .i64 j_12)), (13, (.int .u64 x_13)), (14, (.int .u64 y_14)), (18, (.int .u64 s_18)), (19, (.int .u64 d_19))] w (Eq.mp (show numlaw_KeptSmall.V9 cv_2 f_5 i_11 j_12 x_13 y_14 s_18 d_19 R w = seg Try.prog 75 153 Try.f75.results.toList numlaw_KeptSmall.cuts R 600 false [.code (sub (bodyOf Try.f75) [1, 1, 1, 1, 1, 1, 1, 1, 1])] [(2, (.int .i64 cv_2)), (5, (.pointer (some ⟨f_5, 0, none⟩))), (11, (.int .i64 i_11)), (12, (.int .i64 j_12)), (13, (.int .u64 x_13)), (14, (.int .u64 y_14)), (18, (.int .u64 s_18)), (19, (.int .u64 d_19))] w by kernel_rfl) h)
def numlaw_KeptSmall.V10 (cv_2 : Int) (f_5 : Nat) (i_11 : Int) (j_12 : Int) (x_13 : Int) (y_14 : Int) (s_18 : Int) (d_19 : Int) (q_20 : Int) (R : Value → World → Prop) (w : World) : Prop :=
  (Runs Try.prog numlaw_ap.id #[(.int .i64 cv_2), (.int .u64 (IntKind.wrap .u64 (IntKind.wrap .u32 (IntKind.wrap .i64 (i_11 + j_12))))), (.int .u64 0)] w fun r1 w2 => (∃ x3 : Int, (r1 = (.int .u64 x3) ∧ (numlaw_KeptSmall.L11 cv_2 f_5 i_11 j_12 x_13 y_14 s_18 d_19 q_20 x3 R w2))))
theorem numlaw_KeptSmall.step10 (cv_2 : Int) (f_5 : Nat) (i_11 : Int) (j_12 : Int) (x_13 : Int) (y_14 : Int) (s_18 : Int) (d_19 : Int) (q_20 : Int) (R : Value → World → Prop) (w : World) (h : numlaw_KeptSmall.V10 cv_2 f_5 i_11 j_12 x_13 y_14 s_18 d_19 q_20 R w) : numlaw_KeptSmall.L10 cv_2 f_5 i_11 j_12 x_13 y_14 s_18 d_19 q_20 R w :=
  seg_T good mixed Try.func75 600 false [.code (sub (bodyOf Try.f75) [1, 1, 1, 1, 1, 1, 1, 1, 1, 1])] [(2, (.int .i64 cv_2)), (5, (.pointer (some ⟨f_5, 0, none⟩))), (11, (.int .i64 i_11)), (12, (.int .i64 j_12)), (13, (.int .u64 x_13)), (14, (.int .u64 y_14)), (18, (.int .u64 s_18)), (19, (.int .u64 d_19)), (20, (.int .u64 q_20))] w (Eq.mp (show numlaw_KeptSmall.V10 cv_2 f_5 i_11 j_12 x_13 y_14 s_18 d_19 q_20 R w = seg Try.prog 75 153 Try.f75.results.toList numlaw_KeptSmall.cuts R 600 false [.code (sub (bodyOf Try.f75) [1, 1, 1, 1, 1, 1, 1, 1, 1, 1])] [(2, (.int .i64 cv_2)), (5, (.pointer (some ⟨f_5, 0, none⟩))), (11, (.int .i64 i_11)), (12, (.int .i64 j_12)), (13, (.int .u64 x_13)), (14, (.int .u64 y_14)), (18, (.int .u64 s_18)), (19, (.int .u64 d_19)), (20, (.int .u64 q_20))] w by kernel_rfl) h)
def numlaw_KeptSmall.V11 (cv_2 : Int) (f_5 : Nat) (i_11 : Int) (j_12 : Int) (x_13 : Int) (y_14 : Int) (s_18 : Int) (d_19 : Int) (q_20 : Int) (ws_21 : Int) (R : Value → World → Prop) (w : World) : Prop :=
  (Runs Try.prog numlaw_ap.id #[(.int .i64 cv_2), (.int .u64 (IntKind.wrap .u64 (IntKind.wrap .u32 (IntKind.wrap .i64 (i_11 - j_12))))), (.int .u64 0)] w fun r1 w2 => (∃ x3 : Int, (r1 = (.int .u64 x3) ∧ (numlaw_KeptSmall.L12 cv_2 f_5 i_11 j_12 x_13 y_14 s_18 d_19 q_20 ws_21 x3 R w2))))
theorem numlaw_KeptSmall.step11 (cv_2 : Int) (f_5 : Nat) (i_11 : Int) (j_12 : Int) (x_13 : Int) (y_14 : Int) (s_18 : Int) (d_19 : Int) (q_20 : Int) (ws_21 : Int) (R : Value → World → Prop) (w : World) (h : numlaw_KeptSmall.V11 cv_2 f_5 i_11 j_12 x_13 y_14 s_18 d_19 q_20 ws_21 R w) : numlaw_KeptSmall.L11 cv_2 f_5 i_11 j_12 x_13 y_14 s_18 d_19 q_20 ws_21 R w :=
  seg_T good mixed Try.func75 600 false [.code (sub (bodyOf Try.f75) [1, 1, 1, 1, 1, 1, 1, 1, 1, 1, 1])] [(2, (.int .i64 cv_2)), (5, (.pointer (some ⟨f_5, 0, none⟩))), (11, (.int .i64 i_11)), (12, (.int .i64 j_12)), (13, (.int .u64 x_13)), (14, (.int .u64 y_14)), (18, (.int .u64 s_18)), (19, (.int .u64 d_19)), (20, (.int .u64 q_20)), (21, (.int .u64 ws_21))] w (Eq.mp (show numlaw_KeptSmall.V11 cv_2 f_5 i_11 j_12 x_13 y_14 s_18 d_19 q_20 ws_21 R w = seg Try.prog 75 153 Try.f75.results.toList numlaw_KeptSmall.cuts R 600 false [.code (sub (bodyOf Try.f75) [1, 1, 1, 1, 1, 1, 1, 1, 1, 1, 1])] [(2, (.int .i64 cv_2)), (5, (.pointer (some ⟨f_5, 0, none⟩))), (11, (.int .i64 i_11)), (12, (.int .i64 j_12)), (13, (.int .u64 x_13)), (14, (.int .u64 y_14)), (18, (.int .u64 s_18)), (19, (.int .u64 d_19)), (20, (.int .u64 q_20)), (21, (.int .u64 ws_21))] w by kernel_rfl) h)
def numlaw_KeptSmall.V12 (cv_2 : Int) (f_5 : Nat) (i_11 : Int) (j_12 : Int) (x_13 : Int) (y_14 : Int) (s_18 : Int) (d_19 : Int) (q_20 : Int) (ws_21 : Int) (wd_22 : Int) (R : Value → World → Prop) (w : World) : Prop :=
  (Runs Try.prog numlaw_ap.id #[(.int .i64 cv_2), (.int .u64 (IntKind.wrap .u64 (IntKind.wrap .u32 (IntKind.wrap .i64 (i_11 * j_12))))), (.int .u64 0)] w fun r1 w2 => (∃ x3 : Int, (r1 = (.int .u64 x3) ∧ (numlaw_KeptSmall.L13 f_5 i_11 j_12 x_13 y_14 s_18 d_19 q_20 ws_21 wd_22 x3 R w2))))
theorem numlaw_KeptSmall.step12 (cv_2 : Int) (f_5 : Nat) (i_11 : Int) (j_12 : Int) (x_13 : Int) (y_14 : Int) (s_18 : Int) (d_19 : Int) (q_20 : Int) (ws_21 : Int) (wd_22 : Int) (R : Value → World → Prop) (w : World) (h : numlaw_KeptSmall.V12 cv_2 f_5 i_11 j_12 x_13 y_14 s_18 d_19 q_20 ws_21 wd_22 R w) : numlaw_KeptSmall.L12 cv_2 f_5 i_11 j_12 x_13 y_14 s_18 d_19 q_20 ws_21 wd_22 R w :=
  seg_T good mixed Try.func75 600 false [.code (sub (bodyOf Try.f75) [1, 1, 1, 1, 1, 1, 1, 1, 1, 1, 1, 1])] [(2, (.int .i64 cv_2)), (5, (.pointer (some ⟨f_5, 0, none⟩))), (11, (.int .i64 i_11)), (12, (.int .i64 j_12)), (13, (.int .u64 x_13)), (14, (.int .u64 y_14)), (18, (.int .u64 s_18)), (19, (.int .u64 d_19)), (20, (.int .u64 q_20)), (21, (.int .u64 ws_21)), (22, (.int .u64 wd_22))] w (Eq.mp (show numlaw_KeptSmall.V12 cv_2 f_5 i_11 j_12 x_13 y_14 s_18 d_19 q_20 ws_21 wd_22 R w = seg Try.prog 75 153 Try.f75.results.toList numlaw_KeptSmall.cuts R 600 false [.code (sub (bodyOf Try.f75) [1, 1, 1, 1, 1, 1, 1, 1, 1, 1, 1, 1])] [(2, (.int .i64 cv_2)), (5, (.pointer (some ⟨f_5, 0, none⟩))), (11, (.int .i64 i_11)), (12, (.int .i64 j_12)), (13, (.int .u64 x_13)), (14, (.int .u64 y_14)), (18, (.int .u64 s_18)), (19, (.int .u64 d_19)), (20, (.int .u64 q_20)), (21, (.int .u64 ws_21)), (22, (.int .u64 wd_22))] w by kernel_rfl) h)
def numlaw_KeptSmall.V13 (f_5 : Nat) (i_11 : Int) (j_12 : Int) (x_13 : Int) (y_14 : Int) (s_18 : Int) (d_19 : Int) (q_20 : Int) (ws_21 : Int) (wd_22 : Int) (wq_23 : Int) (R : Value → World → Prop) (w : World) : Prop :=
  (cond ((IntKind.wrap .i64 (i_11 * j_12)) == (0 : Int))
  (numlaw_KeptSmall.L14 f_5 j_12 x_13 y_14 s_18 d_19 q_20 ws_21 wd_22 wq_23 (!((decide (i_11 < (0 : Int))) == (decide (j_12 < (0 : Int))))) R w)
  (numlaw_KeptSmall.L14 f_5 j_12 x_13 y_14 s_18 d_19 q_20 ws_21 wd_22 wq_23 false R w))
theorem numlaw_KeptSmall.step13 (f_5 : Nat) (i_11 : Int) (j_12 : Int) (x_13 : Int) (y_14 : Int) (s_18 : Int) (d_19 : Int) (q_20 : Int) (ws_21 : Int) (wd_22 : Int) (wq_23 : Int) (R : Value → World → Prop) (w : World) (h : numlaw_KeptSmall.V13 f_5 i_11 j_12 x_13 y_14 s_18 d_19 q_20 ws_21 wd_22 wq_23 R w) : numlaw_KeptSmall.L13 f_5 i_11 j_12 x_13 y_14 s_18 d_19 q_20 ws_21 wd_22 wq_23 R w :=
  seg_T good mixed Try.func75 600 false [.code (sub (bodyOf Try.f75) [1, 1, 1, 1, 1, 1, 1, 1, 1, 1, 1, 1, 1])] [(5, (.pointer (some ⟨f_5, 0, none⟩))), (11, (.int .i64 i_11)), (12, (.int .i64 j_12)), (13, (.int .u64 x_13)), (14, (.int .u64 y_14)), (18, (.int .u64 s_18)), (19, (.int .u64 d_19)), (20, (.int .u64 q_20)), (21, (.int .u64 ws_21)), (22, (.int .u64 wd_22)), (23, (.int .u64 wq_23))] w (Eq.mp (show numlaw_KeptSmall.V13 f_5 i_11 j_12 x_13 y_14 s_18 d_19 q_20 ws_21 wd_22 wq_23 R w = seg Try.prog 75 153 Try.f75.results.toList numlaw_KeptSmall.cuts R 600 false [.code (sub (bodyOf Try.f75) [1, 1, 1, 1, 1, 1, 1, 1, 1, 1, 1, 1, 1])] [(5, (.pointer (some ⟨f_5, 0, none⟩))), (11, (.int .i64 i_11)), (12, (.int .i64 j_12)), (13, (.int .u64 x_13)), (14, (.int .u64 y_14)), (18, (.int .u64 s_18)), (19, (.int .u64 d_19)), (20, (.int .u64 q_20)), (21, (.int .u64 ws_21)), (22, (.int .u64 wd_22)), (23, (.int .u64 wq_23))] w by kernel_rfl) h)
def numlaw_KeptSmall.V14 (f_5 : Nat) (j_12 : Int) (x_13 : Int) (y_14 : Int) (s_18 : Int) (d_19 : Int) (q_20 : Int) (ws_21 : Int) (wd_22 : Int) (wq_23 : Int) (t_127 : Bool) (R : Value → World → Prop) (w : World) : Prop :=
  (cond t_127
  (∃ x1 : Int, World.cell? w ⟨f_5, 3, none⟩ = some (.int .u64 x1) ∧ (numlaw_KeptSmall.L15 f_5 j_12 x_13 y_14 s_18 d_19 q_20 ws_21 wd_22 x1 R w))
  (numlaw_KeptSmall.L15 f_5 j_12 x_13 y_14 s_18 d_19 q_20 ws_21 wd_22 wq_23 R w))
theorem numlaw_KeptSmall.step14 (f_5 : Nat) (j_12 : Int) (x_13 : Int) (y_14 : Int) (s_18 : Int) (d_19 : Int) (q_20 : Int) (ws_21 : Int) (wd_22 : Int) (wq_23 : Int) (t_127 : Bool) (R : Value → World → Prop) (w : World) (h : numlaw_KeptSmall.V14 f_5 j_12 x_13 y_14 s_18 d_19 q_20 ws_21 wd_22 wq_23 t_127 R w) : numlaw_KeptSmall.L14 f_5 j_12 x_13 y_14 s_18 d_19 q_20 ws_21 wd_22 wq_23 t_127 R w :=
  seg_T good mixed Try.func75 600 false [.code (sub (bodyOf Try.f75) [1, 1, 1, 1, 1, 1, 1, 1, 1, 1, 1, 1, 1, 0, 1]), .code (sub (bodyOf Try.f75) [1, 1, 1, 1, 1, 1, 1, 1, 1, 1, 1, 1, 1, 1])] [(5, (.pointer (some ⟨f_5, 0, none⟩))), (12, (.int .i64 j_12)), (13, (.int .u64 x_13)), (14, (.int .u64 y_14)), (18, (.int .u64 s_18)), (19, (.int .u64 d_19)), (20, (.int .u64 q_20)), (21, (.int .u64 ws_21)), (22, (.int .u64 wd_22)), (23, (.int .u64 wq_23)), (127, (.bool t_127))] w (Eq.mp (show numlaw_KeptSmall.V14 f_5 j_12 x_13 y_14 s_18 d_19 q_20 ws_21 wd_22 wq_23 t_127 R w = seg Try.prog 75 153 Try.f75.results.toList numlaw_KeptSmall.cuts R 600 false [.code (sub (bodyOf Try.f75) [1, 1, 1, 1, 1, 1, 1, 1, 1, 1, 1, 1, 1, 0, 1]), .code (sub (bodyOf Try.f75) [1, 1, 1, 1, 1, 1, 1, 1, 1, 1, 1, 1, 1, 1])] [(5, (.pointer (some ⟨f_5, 0, none⟩))), (12, (.int .i64 j_12)), (13, (.int .u64 x_13)), (14, (.int .u64 y_14)), (18, (.int .u64 s_18)), (19, (.int .u64 d_19)), (20, (.int .u64 q_20)), (21, (.int .u64 ws_21)), (22, (.int .u64 wd_22)), (23, (.int .u64 wq_23)), (127, (.bool t_127))] w by kernel_rfl) h)
def numlaw_KeptSmall.V15 (f_5 : Nat) (j_12 : Int) (x_13 : Int) (y_14 : Int) (s_18 : Int) (d_19 : Int) (q_20 : Int) (ws_21 : Int) (wd_22 : Int) (wq_23 : Int) (R : Value → World → Prop) (w : World) : Prop :=
  (cond (s_18 != ws_21)
  (R (.bool false) w)
  (cond (d_19 != wd_22)
  (R (.bool false) w)
  (cond (q_20 != wq_23)
  (R (.bool false) w)
  (numlaw_KeptSmall.L16 f_5 j_12 x_13 y_14 q_20 R w))))
theorem numlaw_KeptSmall.step15 (f_5 : Nat) (j_12 : Int) (x_13 : Int) (y_14 : Int) (s_18 : Int) (d_19 : Int) (q_20 : Int) (ws_21 : Int) (wd_22 : Int) (wq_23 : Int) (R : Value → World → Prop) (w : World) (h : numlaw_KeptSmall.V15 f_5 j_12 x_13 y_14 s_18 d_19 q_20 ws_21 wd_22 wq_23 R w) : numlaw_KeptSmall.L15 f_5 j_12 x_13 y_14 s_18 d_19 q_20 ws_21 wd_22 wq_23 R w :=
  seg_T good mixed Try.func75 600 false [.code (sub (bodyOf Try.f75) [1, 1, 1, 1, 1, 1, 1, 1, 1, 1, 1, 1, 1, 1])] [(5, (.pointer (some ⟨f_5, 0, none⟩))), (12, (.int .i64 j_12)), (13, (.int .u64 x_13)), (14, (.int .u64 y_14)), (18, (.int .u64 s_18)), (19, (.int .u64 d_19)), (20, (.int .u64 q_20)), (21, (.int .u64 ws_21)), (22, (.int .u64 wd_22)), (23, (.int .u64 wq_23))] w (Eq.mp (show numlaw_KeptSmall.V15 f_5 j_12 x_13 y_14 s_18 d_19 q_20 ws_21 wd_22 wq_23 R w = seg Try.prog 75 153 Try.f75.results.toList numlaw_KeptSmall.cuts R 600 false [.code (sub (bodyOf Try.f75) [1, 1, 1, 1, 1, 1, 1, 1, 1, 1, 1, 1, 1, 1])] [(5, (.pointer (some ⟨f_5, 0, none⟩))), (12, (.int .i64 j_12)), (13, (.int .u64 x_13)), (14, (.int .u64 y_14)), (18, (.int .u64 s_18)), (19, (.int .u64 d_19)), (20, (.int .u64 q_20)), (21, (.int .u64 ws_21)), (22, (.int .u64 wd_22)), (23, (.int .u64 wq_23))] w by kernel_rfl) h)
def numlaw_KeptSmall.V16 (f_5 : Nat) (j_12 : Int) (x_13 : Int) (y_14 : Int) (q_20 : Int) (R : Value → World → Prop) (w : World) : Prop :=
  (cond (j_12 == (0 : Int))
  (R (.bool true) w)
  (∃ x1 : Int, World.cell? w ⟨f_5, 1, none⟩ = some (.int .i64 x1) ∧ (Runs Try.prog numlaw_ap.id #[(.int .i64 (IntKind.wrap .i64 (x1 + (3 : Int)))), (.int .u64 q_20), (.int .u64 y_14)] w fun r2 w3 => (∃ x4 : Int, (r2 = (.int .u64 x4) ∧ (R (.bool (x4 == x_13)) w3))))))
theorem numlaw_KeptSmall.step16 (f_5 : Nat) (j_12 : Int) (x_13 : Int) (y_14 : Int) (q_20 : Int) (R : Value → World → Prop) (w : World) (h : numlaw_KeptSmall.V16 f_5 j_12 x_13 y_14 q_20 R w) : numlaw_KeptSmall.L16 f_5 j_12 x_13 y_14 q_20 R w :=
  seg_T good mixed Try.func75 600 false [.code (sub (bodyOf Try.f75) [1, 1, 1, 1, 1, 1, 1, 1, 1, 1, 1, 1, 1, 1, 1])] [(5, (.pointer (some ⟨f_5, 0, none⟩))), (12, (.int .i64 j_12)), (13, (.int .u64 x_13)), (14, (.int .u64 y_14)), (20, (.int .u64 q_20))] w (Eq.mp (show numlaw_KeptSmall.V16 f_5 j_12 x_13 y_14 q_20 R w = seg Try.prog 75 153 Try.f75.results.toList numlaw_KeptSmall.cuts R 600 false [.code (sub (bodyOf Try.f75) [1, 1, 1, 1, 1, 1, 1, 1, 1, 1, 1, 1, 1, 1, 1])] [(5, (.pointer (some ⟨f_5, 0, none⟩))), (12, (.int .i64 j_12)), (13, (.int .u64 x_13)), (14, (.int .u64 y_14)), (20, (.int .u64 q_20))] w by kernel_rfl) h)
def numlaw_KeptSmall.V (f_0_1 : Int) (f_0_2 : Int) (f_0_3 : Int) (f_0_4 : Int) (f_0_5 : Int) (f_0_6 : Int) (p_1 : Int) (cv_2 : Int) (a_3 : Int) (b_4 : Int) (R : Value → World → Prop) (w : World) : Prop :=
  (letB (Array.size (World.heap w)) fun b11 => letW (World.alloc w (.cells #[(.int .i64 f_0_1), (.int .i64 f_0_2), (.int .i64 f_0_3), (.int .u64 f_0_4), (.int .u64 f_0_5), (.int .u64 f_0_6)] T_numlaw_Fmt)) fun w12 => (numlaw_KeptSmall.L1 p_1 cv_2 a_3 b_4 b11 R w12))
theorem numlaw_KeptSmall.enter (f_0_1 : Int) (f_0_2 : Int) (f_0_3 : Int) (f_0_4 : Int) (f_0_5 : Int) (f_0_6 : Int) (p_1 : Int) (cv_2 : Int) (a_3 : Int) (b_4 : Int) (R : Value → World → Prop) (w : World) (h : numlaw_KeptSmall.V f_0_1 f_0_2 f_0_3 f_0_4 f_0_5 f_0_6 p_1 cv_2 a_3 b_4 R w) : Runs Try.prog numlaw_KeptSmall.id #[(.agg #[(.int .i64 f_0_1), (.int .i64 f_0_2), (.int .i64 f_0_3), (.int .u64 f_0_4), (.int .u64 f_0_5), (.int .u64 f_0_6)]), (.int .i64 p_1), (.int .i64 cv_2), (.int .u64 a_3), (.int .u64 b_4)] w R :=
  Runs.enter (c := bodyOf Try.f75) (N := 153) Try.func75 (by kernel_rfl) (by kernel_rfl) (by kernel_rfl) (seg_T good mixed Try.func75 600 false [.code (bodyOf Try.f75)] [(0, (.agg #[(.int .i64 f_0_1), (.int .i64 f_0_2), (.int .i64 f_0_3), (.int .u64 f_0_4), (.int .u64 f_0_5), (.int .u64 f_0_6)])), (1, (.int .i64 p_1)), (2, (.int .i64 cv_2)), (3, (.int .u64 a_3)), (4, (.int .u64 b_4))] w (Eq.mp (show numlaw_KeptSmall.V f_0_1 f_0_2 f_0_3 f_0_4 f_0_5 f_0_6 p_1 cv_2 a_3 b_4 R w = seg Try.prog 75 153 Try.f75.results.toList numlaw_KeptSmall.cuts R 600 false [.code (bodyOf Try.f75)] [(0, (.agg #[(.int .i64 f_0_1), (.int .i64 f_0_2), (.int .i64 f_0_3), (.int .u64 f_0_4), (.int .u64 f_0_5), (.int .u64 f_0_6)])), (1, (.int .i64 p_1)), (2, (.int .i64 cv_2)), (3, (.int .u64 a_3)), (4, (.int .u64 b_4))] w by kernel_rfl) h))

/-! e2e/numlaw.KeptZero -/
def numlaw_KeptZero.cuts : List (Nat × List Nat) := []
def numlaw_KeptZero.V (f_0_1 : Int) (f_0_2 : Int) (f_0_3 : Int) (f_0_4 : Int) (f_0_5 : Int) (f_0_6 : Int) (a_1 : Int) (b_2 : Int) (R : Value → World → Prop) (w : World) : Prop :=
  (letB (Array.size (World.heap w)) fun b9 => letW (World.alloc w (.cells #[(.int .i64 f_0_1), (.int .i64 f_0_2), (.int .i64 f_0_3), (.int .u64 f_0_4), (.int .u64 f_0_5), (.int .u64 f_0_6)] T_numlaw_Fmt)) fun w10 => (∃ x11 : Int, World.cell? w10 ⟨b9, 3, none⟩ = some (.int .u64 x11) ∧ (cond ((bAndNot .u64 b_2 x11) != (0 : Int))
  (R (.bool true) w10)
  (∃ x12 : Int, World.cell? w10 ⟨b9, 1, none⟩ = some (.int .i64 x12) ∧ (Runs Try.prog numlaw_ap.id #[(.int .i64 (IntKind.wrap .i64 (x12 + (3 : Int)))), (.int .u64 a_1), (.int .u64 b_2)] w10 fun r13 w14 => (∃ x15 : Int, (r13 = (.int .u64 x15) ∧ (∃ x16 : Int, World.cell? w14 ⟨b9, 3, none⟩ = some (.int .u64 x16) ∧ (∃ x17 : Int, World.cell? w14 ⟨b9, 4, none⟩ = some (.int .u64 x17) ∧ (cond (decide ((bAndNot .u64 a_1 x16) > x17))
  (∃ x18 : Int, World.cell? w14 ⟨b9, 5, none⟩ = some (.int .u64 x18) ∧ (R (.bool (x15 == x18)) w14))
  (∃ x19 : Int, World.cell? w14 ⟨b9, 3, none⟩ = some (.int .u64 x19) ∧ (cond ((bAndNot .u64 a_1 x19) != (0 : Int))
  (∃ x20 : Int, World.cell? w14 ⟨b9, 4, none⟩ = some (.int .u64 x20) ∧ (∃ x21 : Int, World.cell? w14 ⟨b9, 3, none⟩ = some (.int .u64 x21) ∧ (R (.bool (x15 == (bOr .u64 x20 (bAnd .u64 (bXor .u64 a_1 b_2) x21)))) w14)))
  (∃ x22 : Int, World.cell? w14 ⟨b9, 1, none⟩ = some (.int .i64 x22) ∧ (Runs Try.prog numlaw_ap.id #[(.int .i64 x22), (.int .u64 a_1), (.int .u64 b_2)] w14 fun r23 w24 => (∃ x25 : Int, (r23 = (.int .u64 x25) ∧ (∃ x26 : Int, World.cell? w24 ⟨b9, 1, none⟩ = some (.int .i64 x26) ∧ (Runs Try.prog numlaw_ap.id #[(.int .i64 (IntKind.wrap .i64 (x26 + (1 : Int)))), (.int .u64 a_1), (.int .u64 b_2)] w24 fun r27 w28 => (∃ x29 : Int, (r27 = (.int .u64 x29) ∧ (cond (x25 == (bAnd .u64 a_1 b_2))
  (∃ x30 : Int, World.cell? w28 ⟨b9, 3, none⟩ = some (.int .u64 x30) ∧ (cond (x29 == (bAnd .u64 a_1 (bXor .u64 b_2 x30)))
  (∃ x31 : Int, World.cell? w28 ⟨b9, 5, none⟩ = some (.int .u64 x31) ∧ (R (.bool (x15 == x31)) w28))
  (R (.bool false) w28)))
  (R (.bool false) w28))))))))))))))))))))))
theorem numlaw_KeptZero.enter (f_0_1 : Int) (f_0_2 : Int) (f_0_3 : Int) (f_0_4 : Int) (f_0_5 : Int) (f_0_6 : Int) (a_1 : Int) (b_2 : Int) (R : Value → World → Prop) (w : World) (h : numlaw_KeptZero.V f_0_1 f_0_2 f_0_3 f_0_4 f_0_5 f_0_6 a_1 b_2 R w) : Runs Try.prog numlaw_KeptZero.id #[(.agg #[(.int .i64 f_0_1), (.int .i64 f_0_2), (.int .i64 f_0_3), (.int .u64 f_0_4), (.int .u64 f_0_5), (.int .u64 f_0_6)]), (.int .u64 a_1), (.int .u64 b_2)] w R :=
  Runs.enter (c := bodyOf Try.f76) (N := 80) Try.func76 (by kernel_rfl) (by kernel_rfl) (by kernel_rfl) (seg_T good mixed Try.func76 600 false [.code (bodyOf Try.f76)] [(0, (.agg #[(.int .i64 f_0_1), (.int .i64 f_0_2), (.int .i64 f_0_3), (.int .u64 f_0_4), (.int .u64 f_0_5), (.int .u64 f_0_6)])), (1, (.int .u64 a_1)), (2, (.int .u64 b_2))] w (Eq.mp (show numlaw_KeptZero.V f_0_1 f_0_2 f_0_3 f_0_4 f_0_5 f_0_6 a_1 b_2 R w = seg Try.prog 76 80 Try.f76.results.toList numlaw_KeptZero.cuts R 600 false [.code (bodyOf Try.f76)] [(0, (.agg #[(.int .i64 f_0_1), (.int .i64 f_0_2), (.int .i64 f_0_3), (.int .u64 f_0_4), (.int .u64 f_0_5), (.int .u64 f_0_6)])), (1, (.int .u64 a_1)), (2, (.int .u64 b_2))] w by kernel_rfl) h))

/-! e2e/numlaw.KeptInf -/
def numlaw_KeptInf.cuts : List (Nat × List Nat) := [(6, [1, 2, 3]), (24, [3, 7, 8, 9, 10, 11, 12]), (32, [1, 3, 7, 8, 9, 10, 11, 13])]
def numlaw_KeptInf.L1 (a_1 : Int) (b_2 : Int) (f_3 : Nat) (R : Value → World → Prop) (w : World) : Prop :=
  T Try.prog 77 127 [.code (sub (bodyOf Try.f77) [1, 1])] [(1, (.int .u64 a_1)), (2, (.int .u64 b_2)), (3, (.pointer (some ⟨f_3, 0, none⟩)))] w R
def numlaw_KeptInf.L2 (f_3 : Nat) (x_7 : Int) (p_8 : Int) (s_9 : Int) (q_10 : Int) (v_11 : Int) (ws_12 : Int) (R : Value → World → Prop) (w : World) : Prop :=
  T Try.prog 77 127 [.code (sub (bodyOf Try.f77) [1, 1, 1, 1, 1, 1, 1, 0, 1, 0, 1, 1]), .code (sub (bodyOf Try.f77) [1, 1, 1, 1, 1, 1, 1, 1])] [(3, (.pointer (some ⟨f_3, 0, none⟩))), (7, (.int .u64 x_7)), (8, (.int .u64 p_8)), (9, (.int .u64 s_9)), (10, (.int .u64 q_10)), (11, (.int .u64 v_11)), (12, (.int .u64 ws_12))] w R
def numlaw_KeptInf.L3 (a_1 : Int) (f_3 : Nat) (x_7 : Int) (p_8 : Int) (s_9 : Int) (q_10 : Int) (v_11 : Int) (wp_13 : Int) (R : Value → World → Prop) (w : World) : Prop :=
  T Try.prog 77 127 [.code (sub (bodyOf Try.f77) [1, 1, 1, 1, 1, 1, 1, 1, 1, 1])] [(1, (.int .u64 a_1)), (3, (.pointer (some ⟨f_3, 0, none⟩))), (7, (.int .u64 x_7)), (8, (.int .u64 p_8)), (9, (.int .u64 s_9)), (10, (.int .u64 q_10)), (11, (.int .u64 v_11)), (13, (.int .u64 wp_13))] w R
def numlaw_KeptInf.V1 (a_1 : Int) (b_2 : Int) (f_3 : Nat) (R : Value → World → Prop) (w : World) : Prop :=
  (∃ x1 : Int, World.cell? w ⟨f_3, 3, none⟩ = some (.int .u64 x1) ∧ (∃ x2 : Int, World.cell? w ⟨f_3, 1, none⟩ = some (.int .i64 x2) ∧ (Runs Try.prog numlaw_ap.id #[(.int .i64 (IntKind.wrap .i64 (x2 + (2 : Int)))), (.int .u64 a_1), (.int .u64 b_2)] w fun r3 w4 => (∃ x5 : Int, (r3 = (.int .u64 x5) ∧ (∃ x6 : Int, World.cell? w4 ⟨f_3, 1, none⟩ = some (.int .i64 x6) ∧ (Runs Try.prog numlaw_ap.id #[(.int .i64 x6), (.int .u64 a_1), (.int .u64 b_2)] w4 fun r7 w8 => (∃ x9 : Int, (r7 = (.int .u64 x9) ∧ (∃ x10 : Int, World.cell? w8 ⟨f_3, 1, none⟩ = some (.int .i64 x10) ∧ (Runs Try.prog numlaw_ap.id #[(.int .i64 (IntKind.wrap .i64 (x10 + (3 : Int)))), (.int .u64 a_1), (.int .u64 b_2)] w8 fun r11 w12 => (∃ x13 : Int, (r11 = (.int .u64 x13) ∧ (∃ x14 : Int, World.cell? w12 ⟨f_3, 1, none⟩ = some (.int .i64 x14) ∧ (Runs Try.prog numlaw_ap.id #[(.int .i64 (IntKind.wrap .i64 (x14 + (3 : Int)))), (.int .u64 b_2), (.int .u64 a_1)] w12 fun r15 w16 => (∃ x17 : Int, (r15 = (.int .u64 x17) ∧ (∃ x18 : Int, World.cell? w16 ⟨f_3, 3, none⟩ = some (.int .u64 x18) ∧ (∃ x19 : Int, World.cell? w16 ⟨f_3, 4, none⟩ = some (.int .u64 x19) ∧ (cond ((bAndNot .u64 b_2 x18) == x19)
  (cond (a_1 != b_2)
  (∃ x20 : Int, World.cell? w16 ⟨f_3, 5, none⟩ = some (.int .u64 x20) ∧ (numlaw_KeptInf.L2 f_3 (bAnd .u64 (bXor .u64 a_1 b_2) x1) x5 x9 x13 x17 x20 R w16))
  (numlaw_KeptInf.L2 f_3 (bAnd .u64 (bXor .u64 a_1 b_2) x1) x5 x9 x13 x17 a_1 R w16))
  (∃ x27 : Int, World.cell? w16 ⟨f_3, 4, none⟩ = some (.int .u64 x27) ∧ (∃ x28 : Int, World.cell? w16 ⟨f_3, 3, none⟩ = some (.int .u64 x28) ∧ (cond ((bAndNot .u64 b_2 x28) == (0 : Int))
  (∃ x29 : Int, World.cell? w16 ⟨f_3, 5, none⟩ = some (.int .u64 x29) ∧ (numlaw_KeptInf.L3 a_1 f_3 (bAnd .u64 (bXor .u64 a_1 b_2) x1) x5 x9 x13 x17 x29 R w16))
  (numlaw_KeptInf.L3 a_1 f_3 (bAnd .u64 (bXor .u64 a_1 b_2) x1) x5 x9 x13 x17 (bOr .u64 x27 (bAnd .u64 (bXor .u64 a_1 b_2) x1)) R w16))))))))))))))))))))))))
theorem numlaw_KeptInf.step1 (a_1 : Int) (b_2 : Int) (f_3 : Nat) (R : Value → World → Prop) (w : World) (h : numlaw_KeptInf.V1 a_1 b_2 f_3 R w) : numlaw_KeptInf.L1 a_1 b_2 f_3 R w :=
  seg_T good mixed Try.func77 600 false [.code (sub (bodyOf Try.f77) [1, 1])] [(1, (.int .u64 a_1)), (2, (.int .u64 b_2)), (3, (.pointer (some ⟨f_3, 0, none⟩)))] w (Eq.mp (show numlaw_KeptInf.V1 a_1 b_2 f_3 R w = seg Try.prog 77 127 Try.f77.results.toList numlaw_KeptInf.cuts R 600 false [.code (sub (bodyOf Try.f77) [1, 1])] [(1, (.int .u64 a_1)), (2, (.int .u64 b_2)), (3, (.pointer (some ⟨f_3, 0, none⟩)))] w by kernel_rfl) h)
def numlaw_KeptInf.V2 (f_3 : Nat) (x_7 : Int) (p_8 : Int) (s_9 : Int) (q_10 : Int) (v_11 : Int) (ws_12 : Int) (R : Value → World → Prop) (w : World) : Prop :=
  (∃ x1 : Int, World.cell? w ⟨f_3, 4, none⟩ = some (.int .u64 x1) ∧ (cond (p_8 == (bOr .u64 x1 x_7))
  (cond (s_9 == ws_12)
  (∃ x2 : Int, World.cell? w ⟨f_3, 5, none⟩ = some (.int .u64 x2) ∧ (cond (q_10 == x2)
  (∃ x3 : Int, World.cell? w ⟨f_3, 5, none⟩ = some (.int .u64 x3) ∧ (R (.bool (v_11 == x3)) w))
  (R (.bool false) w)))
  (R (.bool false) w))
  (R (.bool false) w)))
theorem numlaw_KeptInf.step2 (f_3 : Nat) (x_7 : Int) (p_8 : Int) (s_9 : Int) (q_10 : Int) (v_11 : Int) (ws_12 : Int) (R : Value → World → Prop) (w : World) (h : numlaw_KeptInf.V2 f_3 x_7 p_8 s_9 q_10 v_11 ws_12 R w) : numlaw_KeptInf.L2 f_3 x_7 p_8 s_9 q_10 v_11 ws_12 R w :=
  seg_T good mixed Try.func77 600 false [.code (sub (bodyOf Try.f77) [1, 1, 1, 1, 1, 1, 1, 0, 1, 0, 1, 1]), .code (sub (bodyOf Try.f77) [1, 1, 1, 1, 1, 1, 1, 1])] [(3, (.pointer (some ⟨f_3, 0, none⟩))), (7, (.int .u64 x_7)), (8, (.int .u64 p_8)), (9, (.int .u64 s_9)), (10, (.int .u64 q_10)), (11, (.int .u64 v_11)), (12, (.int .u64 ws_12))] w (Eq.mp (show numlaw_KeptInf.V2 f_3 x_7 p_8 s_9 q_10 v_11 ws_12 R w = seg Try.prog 77 127 Try.f77.results.toList numlaw_KeptInf.cuts R 600 false [.code (sub (bodyOf Try.f77) [1, 1, 1, 1, 1, 1, 1, 0, 1, 0, 1, 1]), .code (sub (bodyOf Try.f77) [1, 1, 1, 1, 1, 1, 1, 1])] [(3, (.pointer (some ⟨f_3, 0, none⟩))), (7, (.int .u64 x_7)), (8, (.int .u64 p_8)), (9, (.int .u64 s_9)), (10, (.int .u64 q_10)), (11, (.int .u64 v_11)), (12, (.int .u64 ws_12))] w by kernel_rfl) h)
def numlaw_KeptInf.V3 (a_1 : Int) (f_3 : Nat) (x_7 : Int) (p_8 : Int) (s_9 : Int) (q_10 : Int) (v_11 : Int) (wp_13 : Int) (R : Value → World → Prop) (w : World) : Prop :=
  (cond (p_8 == wp_13)
  (cond (s_9 == a_1)
  (∃ x1 : Int, World.cell? w ⟨f_3, 4, none⟩ = some (.int .u64 x1) ∧ (cond (q_10 == (bOr .u64 x1 x_7))
  (R (.bool (v_11 == x_7)) w)
  (R (.bool false) w)))
  (R (.bool false) w))
  (R (.bool false) w))
theorem numlaw_KeptInf.step3 (a_1 : Int) (f_3 : Nat) (x_7 : Int) (p_8 : Int) (s_9 : Int) (q_10 : Int) (v_11 : Int) (wp_13 : Int) (R : Value → World → Prop) (w : World) (h : numlaw_KeptInf.V3 a_1 f_3 x_7 p_8 s_9 q_10 v_11 wp_13 R w) : numlaw_KeptInf.L3 a_1 f_3 x_7 p_8 s_9 q_10 v_11 wp_13 R w :=
  seg_T good mixed Try.func77 600 false [.code (sub (bodyOf Try.f77) [1, 1, 1, 1, 1, 1, 1, 1, 1, 1])] [(1, (.int .u64 a_1)), (3, (.pointer (some ⟨f_3, 0, none⟩))), (7, (.int .u64 x_7)), (8, (.int .u64 p_8)), (9, (.int .u64 s_9)), (10, (.int .u64 q_10)), (11, (.int .u64 v_11)), (13, (.int .u64 wp_13))] w (Eq.mp (show numlaw_KeptInf.V3 a_1 f_3 x_7 p_8 s_9 q_10 v_11 wp_13 R w = seg Try.prog 77 127 Try.f77.results.toList numlaw_KeptInf.cuts R 600 false [.code (sub (bodyOf Try.f77) [1, 1, 1, 1, 1, 1, 1, 1, 1, 1])] [(1, (.int .u64 a_1)), (3, (.pointer (some ⟨f_3, 0, none⟩))), (7, (.int .u64 x_7)), (8, (.int .u64 p_8)), (9, (.int .u64 s_9)), (10, (.int .u64 q_10)), (11, (.int .u64 v_11)), (13, (.int .u64 wp_13))] w by kernel_rfl) h)
def numlaw_KeptInf.V (f_0_1 : Int) (f_0_2 : Int) (f_0_3 : Int) (f_0_4 : Int) (f_0_5 : Int) (f_0_6 : Int) (a_1 : Int) (b_2 : Int) (R : Value → World → Prop) (w : World) : Prop :=
  (letB (Array.size (World.heap w)) fun b9 => letW (World.alloc w (.cells #[(.int .i64 f_0_1), (.int .i64 f_0_2), (.int .i64 f_0_3), (.int .u64 f_0_4), (.int .u64 f_0_5), (.int .u64 f_0_6)] T_numlaw_Fmt)) fun w10 => (∃ x11 : Int, World.cell? w10 ⟨b9, 3, none⟩ = some (.int .u64 x11) ∧ (∃ x12 : Int, World.cell? w10 ⟨b9, 4, none⟩ = some (.int .u64 x12) ∧ (cond ((bAndNot .u64 a_1 x11) != x12)
  (R (.bool true) w10)
  (∃ x13 : Int, World.cell? w10 ⟨b9, 3, none⟩ = some (.int .u64 x13) ∧ (∃ x14 : Int, World.cell? w10 ⟨b9, 4, none⟩ = some (.int .u64 x14) ∧ (cond (decide ((bAndNot .u64 b_2 x13) > x14))
  (R (.bool true) w10)
  (numlaw_KeptInf.L1 a_1 b_2 b9 R w10))))))))
theorem numlaw_KeptInf.enter (f_0_1 : Int) (f_0_2 : Int) (f_0_3 : Int) (f_0_4 : Int) (f_0_5 : Int) (f_0_6 : Int) (a_1 : Int) (b_2 : Int) (R : Value → World → Prop) (w : World) (h : numlaw_KeptInf.V f_0_1 f_0_2 f_0_3 f_0_4 f_0_5 f_0_6 a_1 b_2 R w) : Runs Try.prog numlaw_KeptInf.id #[(.agg #[(.int .i64 f_0_1), (.int .i64 f_0_2), (.int .i64 f_0_3), (.int .u64 f_0_4), (.int .u64 f_0_5), (.int .u64 f_0_6)]), (.int .u64 a_1), (.int .u64 b_2)] w R :=
  Runs.enter (c := bodyOf Try.f77) (N := 127) Try.func77 (by kernel_rfl) (by kernel_rfl) (by kernel_rfl) (seg_T good mixed Try.func77 600 false [.code (bodyOf Try.f77)] [(0, (.agg #[(.int .i64 f_0_1), (.int .i64 f_0_2), (.int .i64 f_0_3), (.int .u64 f_0_4), (.int .u64 f_0_5), (.int .u64 f_0_6)])), (1, (.int .u64 a_1)), (2, (.int .u64 b_2))] w (Eq.mp (show numlaw_KeptInf.V f_0_1 f_0_2 f_0_3 f_0_4 f_0_5 f_0_6 a_1 b_2 R w = seg Try.prog 77 127 Try.f77.results.toList numlaw_KeptInf.cuts R 600 false [.code (bodyOf Try.f77)] [(0, (.agg #[(.int .i64 f_0_1), (.int .i64 f_0_2), (.int .i64 f_0_3), (.int .u64 f_0_4), (.int .u64 f_0_5), (.int .u64 f_0_6)])), (1, (.int .u64 a_1)), (2, (.int .u64 b_2))] w by kernel_rfl) h))

/-! e2e/numlaw.KeptWhole -/
def numlaw_KeptWhole.cuts : List (Nat × List Nat) := [(38, [2, 3, 4, 9, 10, 11, 12, 14, 15, 16]), (42, [2, 3, 4, 11, 12, 16])]
def numlaw_KeptWhole.L1 (half_2 : Int) (a_3 : Int) (f_4 : Nat) (c_9 : Int) (l_10 : Int) (t_11 : Int) (n_12 : Int) (up_14 : Int) (dn_15 : Int) (away_16 : Int) (R : Value → World → Prop) (w : World) : Prop :=
  T Try.prog 78 165 [.code (sub (bodyOf Try.f78) [1, 1, 1, 1, 1, 1, 1, 1, 1, 1, 1, 1, 1])] [(2, (.int .u64 half_2)), (3, (.int .u64 a_3)), (4, (.pointer (some ⟨f_4, 0, none⟩))), (9, (.int .u64 c_9)), (10, (.int .u64 l_10)), (11, (.int .u64 t_11)), (12, (.int .u64 n_12)), (14, (.int .u64 up_14)), (15, (.int .u64 dn_15)), (16, (.int .u64 away_16))] w R
def numlaw_KeptWhole.L2 (half_2 : Int) (a_3 : Int) (f_4 : Nat) (t_11 : Int) (n_12 : Int) (away_16 : Int) (R : Value → World → Prop) (w : World) : Prop :=
  T Try.prog 78 165 [.code (sub (bodyOf Try.f78) [1, 1, 1, 1, 1, 1, 1, 1, 1, 1, 1, 1, 1, 1])] [(2, (.int .u64 half_2)), (3, (.int .u64 a_3)), (4, (.pointer (some ⟨f_4, 0, none⟩))), (11, (.int .u64 t_11)), (12, (.int .u64 n_12)), (16, (.int .u64 away_16))] w R
def numlaw_KeptWhole.V1 (half_2 : Int) (a_3 : Int) (f_4 : Nat) (c_9 : Int) (l_10 : Int) (t_11 : Int) (n_12 : Int) (up_14 : Int) (dn_15 : Int) (away_16 : Int) (R : Value → World → Prop) (w : World) : Prop :=
  (cond (c_9 != up_14)
  (R (.bool false) w)
  (cond (l_10 != dn_15)
  (R (.bool false) w)
  (numlaw_KeptWhole.L2 half_2 a_3 f_4 t_11 n_12 away_16 R w)))
theorem numlaw_KeptWhole.step1 (half_2 : Int) (a_3 : Int) (f_4 : Nat) (c_9 : Int) (l_10 : Int) (t_11 : Int) (n_12 : Int) (up_14 : Int) (dn_15 : Int) (away_16 : Int) (R : Value → World → Prop) (w : World) (h : numlaw_KeptWhole.V1 half_2 a_3 f_4 c_9 l_10 t_11 n_12 up_14 dn_15 away_16 R w) : numlaw_KeptWhole.L1 half_2 a_3 f_4 c_9 l_10 t_11 n_12 up_14 dn_15 away_16 R w :=
  seg_T good mixed Try.func78 600 false [.code (sub (bodyOf Try.f78) [1, 1, 1, 1, 1, 1, 1, 1, 1, 1, 1, 1, 1])] [(2, (.int .u64 half_2)), (3, (.int .u64 a_3)), (4, (.pointer (some ⟨f_4, 0, none⟩))), (9, (.int .u64 c_9)), (10, (.int .u64 l_10)), (11, (.int .u64 t_11)), (12, (.int .u64 n_12)), (14, (.int .u64 up_14)), (15, (.int .u64 dn_15)), (16, (.int .u64 away_16))] w (Eq.mp (show numlaw_KeptWhole.V1 half_2 a_3 f_4 c_9 l_10 t_11 n_12 up_14 dn_15 away_16 R w = seg Try.prog 78 165 Try.f78.results.toList numlaw_KeptWhole.cuts R 600 false [.code (sub (bodyOf Try.f78) [1, 1, 1, 1, 1, 1, 1, 1, 1, 1, 1, 1, 1])] [(2, (.int .u64 half_2)), (3, (.int .u64 a_3)), (4, (.pointer (some ⟨f_4, 0, none⟩))), (9, (.int .u64 c_9)), (10, (.int .u64 l_10)), (11, (.int .u64 t_11)), (12, (.int .u64 n_12)), (14, (.int .u64 up_14)), (15, (.int .u64 dn_15)), (16, (.int .u64 away_16))] w by kernel_rfl) h)
def numlaw_KeptWhole.V2 (half_2 : Int) (a_3 : Int) (f_4 : Nat) (t_11 : Int) (n_12 : Int) (away_16 : Int) (R : Value → World → Prop) (w : World) : Prop :=
  (∃ x1 : Int, World.cell? w ⟨f_4, 1, none⟩ = some (.int .i64 x1) ∧ (∃ x2 : Int, World.cell? w ⟨f_4, 3, none⟩ = some (.int .u64 x2) ∧ (∃ x3 : Int, World.cell? w ⟨f_4, 3, none⟩ = some (.int .u64 x3) ∧ (Runs Try.prog numlaw_ap.id #[(.int .i64 (IntKind.wrap .i64 (x1 + (1 : Int)))), (.int .u64 (bAndNot .u64 a_3 x2)), (.int .u64 (bAndNot .u64 t_11 x3))] w fun r4 w5 => (∃ x6 : Int, (r4 = (.int .u64 x6) ∧ (cond (x6 == half_2)
  (∃ x7 : Int, World.cell? w5 ⟨f_4, 1, none⟩ = some (.int .i64 x7) ∧ (Runs Try.prog numlaw_ap.id #[(.int .i64 (IntKind.wrap .i64 (x7 + (2 : Int)))), (.int .u64 n_12), (.int .u64 half_2)] w5 fun r8 w9 => (∃ x10 : Int, (r8 = (.int .u64 x10) ∧ (∃ x11 : Int, World.cell? w9 ⟨f_4, 0, none⟩ = some (.int .i64 x11) ∧ (Runs Try.prog numlaw_ap.id #[(.int .i64 (IntKind.wrap .i64 (x11 + (4 : Int)))), (.int .u64 x10), (.int .u64 0)] w9 fun r12 w13 => (∃ x14 : Int, (r12 = (.int .u64 x14) ∧ (cond (n_12 == t_11)
  (∃ x15 : Int, World.cell? w13 ⟨f_4, 2, none⟩ = some (.int .i64 x15) ∧ (Runs Try.prog numlaw_ap.id #[(.int .i64 x15), (.int .u64 x10), (.int .u64 x14)] w13 fun r16 w17 => (∃ x18 : Int, (r16 = (.int .u64 x18) ∧ (R (.bool (x18 == (1 : Int))) w17)))))
  (cond (n_12 == away_16)
  (∃ x19 : Int, World.cell? w13 ⟨f_4, 2, none⟩ = some (.int .i64 x19) ∧ (Runs Try.prog numlaw_ap.id #[(.int .i64 x19), (.int .u64 x10), (.int .u64 x14)] w13 fun r20 w21 => (∃ x22 : Int, (r20 = (.int .u64 x22) ∧ (R (.bool (x22 == (1 : Int))) w21)))))
  (R (.bool false) w13)))))))))))
  (cond (decide (x6 < half_2))
  (R (.bool (n_12 == t_11)) w5)
  (R (.bool (n_12 == away_16)) w5)))))))))
theorem numlaw_KeptWhole.step2 (half_2 : Int) (a_3 : Int) (f_4 : Nat) (t_11 : Int) (n_12 : Int) (away_16 : Int) (R : Value → World → Prop) (w : World) (h : numlaw_KeptWhole.V2 half_2 a_3 f_4 t_11 n_12 away_16 R w) : numlaw_KeptWhole.L2 half_2 a_3 f_4 t_11 n_12 away_16 R w :=
  seg_T good mixed Try.func78 600 false [.code (sub (bodyOf Try.f78) [1, 1, 1, 1, 1, 1, 1, 1, 1, 1, 1, 1, 1, 1])] [(2, (.int .u64 half_2)), (3, (.int .u64 a_3)), (4, (.pointer (some ⟨f_4, 0, none⟩))), (11, (.int .u64 t_11)), (12, (.int .u64 n_12)), (16, (.int .u64 away_16))] w (Eq.mp (show numlaw_KeptWhole.V2 half_2 a_3 f_4 t_11 n_12 away_16 R w = seg Try.prog 78 165 Try.f78.results.toList numlaw_KeptWhole.cuts R 600 false [.code (sub (bodyOf Try.f78) [1, 1, 1, 1, 1, 1, 1, 1, 1, 1, 1, 1, 1, 1])] [(2, (.int .u64 half_2)), (3, (.int .u64 a_3)), (4, (.pointer (some ⟨f_4, 0, none⟩))), (11, (.int .u64 t_11)), (12, (.int .u64 n_12)), (16, (.int .u64 away_16))] w by kernel_rfl) h)
def numlaw_KeptWhole.V (f_0_1 : Int) (f_0_2 : Int) (f_0_3 : Int) (f_0_4 : Int) (f_0_5 : Int) (f_0_6 : Int) (one_1 : Int) (half_2 : Int) (a_3 : Int) (R : Value → World → Prop) (w : World) : Prop :=
  (letB (Array.size (World.heap w)) fun b10 => letW (World.alloc w (.cells #[(.int .i64 f_0_1), (.int .i64 f_0_2), (.int .i64 f_0_3), (.int .u64 f_0_4), (.int .u64 f_0_5), (.int .u64 f_0_6)] T_numlaw_Fmt)) fun w11 => (∃ x12 : Int, World.cell? w11 ⟨b10, 3, none⟩ = some (.int .u64 x12) ∧ (∃ x13 : Int, World.cell? w11 ⟨b10, 4, none⟩ = some (.int .u64 x13) ∧ (cond (decide ((bAndNot .u64 a_3 x12) > x13))
  (R (.bool true) w11)
  (∃ x14 : Int, World.cell? w11 ⟨b10, 0, none⟩ = some (.int .i64 x14) ∧ (Runs Try.prog numlaw_ap.id #[(.int .i64 (IntKind.wrap .i64 (x14 + (2 : Int)))), (.int .u64 a_3), (.int .u64 0)] w11 fun r15 w16 => (∃ x17 : Int, (r15 = (.int .u64 x17) ∧ (∃ x18 : Int, World.cell? w16 ⟨b10, 0, none⟩ = some (.int .i64 x18) ∧ (Runs Try.prog numlaw_ap.id #[(.int .i64 (IntKind.wrap .i64 (x18 + (3 : Int)))), (.int .u64 a_3), (.int .u64 0)] w16 fun r19 w20 => (∃ x21 : Int, (r19 = (.int .u64 x21) ∧ (∃ x22 : Int, World.cell? w20 ⟨b10, 0, none⟩ = some (.int .i64 x22) ∧ (Runs Try.prog numlaw_ap.id #[(.int .i64 (IntKind.wrap .i64 (x22 + (4 : Int)))), (.int .u64 a_3), (.int .u64 0)] w20 fun r23 w24 => (∃ x25 : Int, (r23 = (.int .u64 x25) ∧ (∃ x26 : Int, World.cell? w24 ⟨b10, 0, none⟩ = some (.int .i64 x26) ∧ (Runs Try.prog numlaw_ap.id #[(.int .i64 (IntKind.wrap .i64 (x26 + (5 : Int)))), (.int .u64 a_3), (.int .u64 0)] w24 fun r27 w28 => (∃ x29 : Int, (r27 = (.int .u64 x29) ∧ (∃ x30 : Int, World.cell? w28 ⟨b10, 3, none⟩ = some (.int .u64 x30) ∧ (cond ((bAnd .u64 (bXor .u64 (bOr .u64 (bXor .u64 (bOr .u64 (bXor .u64 (bOr .u64 (bXor .u64 x17 a_3) x21) a_3) x25) a_3) x29) a_3) x30) != (0 : Int))
  (R (.bool false) w28)
  (∃ x31 : Int, World.cell? w28 ⟨b10, 2, none⟩ = some (.int .i64 x31) ∧ (Runs Try.prog numlaw_ap.id #[(.int .i64 x31), (.int .u64 x25), (.int .u64 a_3)] w28 fun r32 w33 => (∃ x34 : Int, (r32 = (.int .u64 x34) ∧ (∃ x35 : Int, World.cell? w33 ⟨b10, 1, none⟩ = some (.int .i64 x35) ∧ (Runs Try.prog numlaw_ap.id #[(.int .i64 x35), (.int .u64 x25), (.int .u64 one_1)] w33 fun r36 w37 => (∃ x38 : Int, (r36 = (.int .u64 x38) ∧ (∃ x39 : Int, World.cell? w37 ⟨b10, 1, none⟩ = some (.int .i64 x39) ∧ (Runs Try.prog numlaw_ap.id #[(.int .i64 (IntKind.wrap .i64 (x39 + (1 : Int)))), (.int .u64 x25), (.int .u64 one_1)] w37 fun r40 w41 => (∃ x42 : Int, (r40 = (.int .u64 x42) ∧ (cond (x34 == (1 : Int))
  (cond (x17 == x25)
  (cond (x21 == x25)
  (R (.bool (x29 == x25)) w41)
  (R (.bool false) w41))
  (R (.bool false) w41))
  (∃ x43 : Int, World.cell? w41 ⟨b10, 3, none⟩ = some (.int .u64 x43) ∧ (cond ((bAnd .u64 a_3 x43) == (0 : Int))
  (numlaw_KeptWhole.L1 half_2 a_3 b10 x17 x21 x25 x29 x38 x25 x38 R w41)
  (numlaw_KeptWhole.L1 half_2 a_3 b10 x17 x21 x25 x29 x25 x42 x42 R w41))))))))))))))))))))))))))))))))))))))
theorem numlaw_KeptWhole.enter (f_0_1 : Int) (f_0_2 : Int) (f_0_3 : Int) (f_0_4 : Int) (f_0_5 : Int) (f_0_6 : Int) (one_1 : Int) (half_2 : Int) (a_3 : Int) (R : Value → World → Prop) (w : World) (h : numlaw_KeptWhole.V f_0_1 f_0_2 f_0_3 f_0_4 f_0_5 f_0_6 one_1 half_2 a_3 R w) : Runs Try.prog numlaw_KeptWhole.id #[(.agg #[(.int .i64 f_0_1), (.int .i64 f_0_2), (.int .i64 f_0_3), (.int .u64 f_0_4), (.int .u64 f_0_5), (.int .u64 f_0_6)]), (.int .u64 one_1), (.int .u64 half_2), (.int .u64 a_3)] w R :=
  Runs.enter (c := bodyOf Try.f78) (N := 165) Try.func78 (by kernel_rfl) (by kernel_rfl) (by kernel_rfl) (seg_T good mixed Try.func78 600 false [.code (bodyOf Try.f78)] [(0, (.agg #[(.int .i64 f_0_1), (.int .i64 f_0_2), (.int .i64 f_0_3), (.int .u64 f_0_4), (.int .u64 f_0_5), (.int .u64 f_0_6)])), (1, (.int .u64 one_1)), (2, (.int .u64 half_2)), (3, (.int .u64 a_3))] w (Eq.mp (show numlaw_KeptWhole.V f_0_1 f_0_2 f_0_3 f_0_4 f_0_5 f_0_6 one_1 half_2 a_3 R w = seg Try.prog 78 165 Try.f78.results.toList numlaw_KeptWhole.cuts R 600 false [.code (bodyOf Try.f78)] [(0, (.agg #[(.int .i64 f_0_1), (.int .i64 f_0_2), (.int .i64 f_0_3), (.int .u64 f_0_4), (.int .u64 f_0_5), (.int .u64 f_0_6)])), (1, (.int .u64 one_1)), (2, (.int .u64 half_2)), (3, (.int .u64 a_3))] w by kernel_rfl) h))

/-! e2e/numm.flag -/
def numm_flag.cuts : List (Nat × List Nat) := []
def numm_flag.V (c_0 : Bool) (R : Value → World → Prop) (w : World) : Prop :=
  (cond c_0
  (R (.int .u64 1) w)
  (R (.int .u64 0) w))
theorem numm_flag.enter (c_0 : Bool) (R : Value → World → Prop) (w : World) (h : numm_flag.V c_0 R w) : Runs Try.prog numm_flag.id #[(.bool c_0)] w R :=
  Runs.enter (c := bodyOf Try.f79) (N := 4) Try.func79 (by kernel_rfl) (by kernel_rfl) (by kernel_rfl) (seg_T good mixed Try.func79 600 false [.code (bodyOf Try.f79)] [(0, (.bool c_0))] w (Eq.mp (show numm_flag.V c_0 R w = seg Try.prog 79 4 Try.f79.results.toList numm_flag.cuts R 600 false [.code (bodyOf Try.f79)] [(0, (.bool c_0))] w by kernel_rfl) h))

/-! e2e/numm.intCmp -/
def numm_intCmp.cuts : List (Nat × List Nat) := [(4, [0, 1, 2, 3, 16]), (10, [0, 2, 3]), (24, [2, 3, 31, 44]), (30, [2, 3, 31, 51]), (36, [2, 3, 58])]
def numm_intCmp.L1 (k_0 : Int) (n_1 : Int) (a_2 : Int) (b_3 : Int) (t_16 : Bool) (R : Value → World → Prop) (w : World) : Prop :=
  T Try.prog 80 71 [.code (sub (bodyOf Try.f80) [1, 0, 1]), .code (sub (bodyOf Try.f80) [1, 1])] [(0, (.int .i64 k_0)), (1, (.int .i64 n_1)), (2, (.int .u64 a_2)), (3, (.int .u64 b_3)), (16, (.bool t_16))] w R
def numm_intCmp.L2 (k_0 : Int) (a_2 : Int) (b_3 : Int) (R : Value → World → Prop) (w : World) : Prop :=
  T Try.prog 80 71 [.code (sub (bodyOf Try.f80) [1, 1])] [(0, (.int .i64 k_0)), (2, (.int .u64 a_2)), (3, (.int .u64 b_3))] w R
def numm_intCmp.L3 (a_2 : Int) (b_3 : Int) (t_31 : Int) (t_44 : Bool) (R : Value → World → Prop) (w : World) : Prop :=
  T Try.prog 80 71 [.code (sub (bodyOf Try.f80) [1, 1, 0, 1, 0, 1, 1, 1, 1, 1]), .inBlock 0, .code (sub (bodyOf Try.f80) [1, 1, 1])] [(2, (.int .u64 a_2)), (3, (.int .u64 b_3)), (31, (.int .i64 t_31)), (44, (.bool t_44))] w R
def numm_intCmp.L4 (a_2 : Int) (b_3 : Int) (t_31 : Int) (t_51 : Bool) (R : Value → World → Prop) (w : World) : Prop :=
  T Try.prog 80 71 [.code (sub (bodyOf Try.f80) [1, 1, 0, 1, 0, 1, 1, 1, 1, 1, 1, 1]), .inBlock 0, .code (sub (bodyOf Try.f80) [1, 1, 1])] [(2, (.int .u64 a_2)), (3, (.int .u64 b_3)), (31, (.int .i64 t_31)), (51, (.bool t_51))] w R
def numm_intCmp.L5 (a_2 : Int) (b_3 : Int) (t_58 : Bool) (R : Value → World → Prop) (w : World) : Prop :=
  T Try.prog 80 71 [.code (sub (bodyOf Try.f80) [1, 1, 0, 1, 0, 1, 1, 1, 1, 1, 1, 1, 1, 1]), .inBlock 0, .code (sub (bodyOf Try.f80) [1, 1, 1])] [(2, (.int .u64 a_2)), (3, (.int .u64 b_3)), (58, (.bool t_58))] w R
def numm_intCmp.V1 (k_0 : Int) (n_1 : Int) (a_2 : Int) (b_3 : Int) (t_16 : Bool) (R : Value → World → Prop) (w : World) : Prop :=
  (cond t_16
  (Runs Try.prog numm_top.id #[(.int .i64 n_1)] w fun r1 w2 => (∃ x3 : Int, (r1 = (.int .u64 x3) ∧ (Runs Try.prog numm_mask.id #[(.int .i64 n_1)] w2 fun r4 w5 => (∃ x6 : Int, (r4 = (.int .u64 x6) ∧ (Runs Try.prog numm_mask.id #[(.int .i64 n_1)] w5 fun r7 w8 => (∃ x9 : Int, (r7 = (.int .u64 x9) ∧ (numm_intCmp.L2 k_0 (bAnd .u64 (IntKind.wrap .u64 (a_2 + x3)) x6) (bAnd .u64 (IntKind.wrap .u64 (b_3 + x3)) x9) R w8))))))))))
  (numm_intCmp.L2 k_0 a_2 b_3 R w))
theorem numm_intCmp.step1 (k_0 : Int) (n_1 : Int) (a_2 : Int) (b_3 : Int) (t_16 : Bool) (R : Value → World → Prop) (w : World) (h : numm_intCmp.V1 k_0 n_1 a_2 b_3 t_16 R w) : numm_intCmp.L1 k_0 n_1 a_2 b_3 t_16 R w :=
  seg_T good mixed Try.func80 600 false [.code (sub (bodyOf Try.f80) [1, 0, 1]), .code (sub (bodyOf Try.f80) [1, 1])] [(0, (.int .i64 k_0)), (1, (.int .i64 n_1)), (2, (.int .u64 a_2)), (3, (.int .u64 b_3)), (16, (.bool t_16))] w (Eq.mp (show numm_intCmp.V1 k_0 n_1 a_2 b_3 t_16 R w = seg Try.prog 80 71 Try.f80.results.toList numm_intCmp.cuts R 600 false [.code (sub (bodyOf Try.f80) [1, 0, 1]), .code (sub (bodyOf Try.f80) [1, 1])] [(0, (.int .i64 k_0)), (1, (.int .i64 n_1)), (2, (.int .u64 a_2)), (3, (.int .u64 b_3)), (16, (.bool t_16))] w by kernel_rfl) h)
def numm_intCmp.V2 (k_0 : Int) (a_2 : Int) (b_3 : Int) (R : Value → World → Prop) (w : World) : Prop :=
  (cond (k_0 == (0 : Int))
  (Runs Try.prog numm_flag.id #[(.bool (a_2 == b_3))] w fun r1 w2 => (∃ x3 : Int, (r1 = (.int .u64 x3) ∧ (R (.int .u64 x3) w2))))
  (cond (k_0 == (1 : Int))
  (Runs Try.prog numm_flag.id #[(.bool (a_2 != b_3))] w fun r4 w5 => (∃ x6 : Int, (r4 = (.int .u64 x6) ∧ (R (.int .u64 x6) w5))))
  (cond (k_0 == (2 : Int))
  (numm_intCmp.L3 a_2 b_3 k_0 true R w)
  (numm_intCmp.L3 a_2 b_3 k_0 (k_0 == (3 : Int)) R w))))
theorem numm_intCmp.step2 (k_0 : Int) (a_2 : Int) (b_3 : Int) (R : Value → World → Prop) (w : World) (h : numm_intCmp.V2 k_0 a_2 b_3 R w) : numm_intCmp.L2 k_0 a_2 b_3 R w :=
  seg_T good mixed Try.func80 600 false [.code (sub (bodyOf Try.f80) [1, 1])] [(0, (.int .i64 k_0)), (2, (.int .u64 a_2)), (3, (.int .u64 b_3))] w (Eq.mp (show numm_intCmp.V2 k_0 a_2 b_3 R w = seg Try.prog 80 71 Try.f80.results.toList numm_intCmp.cuts R 600 false [.code (sub (bodyOf Try.f80) [1, 1])] [(0, (.int .i64 k_0)), (2, (.int .u64 a_2)), (3, (.int .u64 b_3))] w by kernel_rfl) h)
def numm_intCmp.V3 (a_2 : Int) (b_3 : Int) (t_31 : Int) (t_44 : Bool) (R : Value → World → Prop) (w : World) : Prop :=
  (cond t_44
  (Runs Try.prog numm_flag.id #[(.bool (decide (a_2 < b_3)))] w fun r1 w2 => (∃ x3 : Int, (r1 = (.int .u64 x3) ∧ (R (.int .u64 x3) w2))))
  (cond (t_31 == (4 : Int))
  (numm_intCmp.L4 a_2 b_3 t_31 true R w)
  (numm_intCmp.L4 a_2 b_3 t_31 (t_31 == (5 : Int)) R w)))
theorem numm_intCmp.step3 (a_2 : Int) (b_3 : Int) (t_31 : Int) (t_44 : Bool) (R : Value → World → Prop) (w : World) (h : numm_intCmp.V3 a_2 b_3 t_31 t_44 R w) : numm_intCmp.L3 a_2 b_3 t_31 t_44 R w :=
  seg_T good mixed Try.func80 600 false [.code (sub (bodyOf Try.f80) [1, 1, 0, 1, 0, 1, 1, 1, 1, 1]), .inBlock 0, .code (sub (bodyOf Try.f80) [1, 1, 1])] [(2, (.int .u64 a_2)), (3, (.int .u64 b_3)), (31, (.int .i64 t_31)), (44, (.bool t_44))] w (Eq.mp (show numm_intCmp.V3 a_2 b_3 t_31 t_44 R w = seg Try.prog 80 71 Try.f80.results.toList numm_intCmp.cuts R 600 false [.code (sub (bodyOf Try.f80) [1, 1, 0, 1, 0, 1, 1, 1, 1, 1]), .inBlock 0, .code (sub (bodyOf Try.f80) [1, 1, 1])] [(2, (.int .u64 a_2)), (3, (.int .u64 b_3)), (31, (.int .i64 t_31)), (44, (.bool t_44))] w by kernel_rfl) h)
def numm_intCmp.V4 (a_2 : Int) (b_3 : Int) (t_31 : Int) (t_51 : Bool) (R : Value → World → Prop) (w : World) : Prop :=
  (cond t_51
  (Runs Try.prog numm_flag.id #[(.bool (decide (b_3 < a_2)))] w fun r1 w2 => (∃ x3 : Int, (r1 = (.int .u64 x3) ∧ (R (.int .u64 x3) w2))))
  (cond (t_31 == (6 : Int))
  (numm_intCmp.L5 a_2 b_3 true R w)
  (numm_intCmp.L5 a_2 b_3 (t_31 == (7 : Int)) R w)))
theorem numm_intCmp.step4 (a_2 : Int) (b_3 : Int) (t_31 : Int) (t_51 : Bool) (R : Value → World → Prop) (w : World) (h : numm_intCmp.V4 a_2 b_3 t_31 t_51 R w) : numm_intCmp.L4 a_2 b_3 t_31 t_51 R w :=
  seg_T good mixed Try.func80 600 false [.code (sub (bodyOf Try.f80) [1, 1, 0, 1, 0, 1, 1, 1, 1, 1, 1, 1]), .inBlock 0, .code (sub (bodyOf Try.f80) [1, 1, 1])] [(2, (.int .u64 a_2)), (3, (.int .u64 b_3)), (31, (.int .i64 t_31)), (51, (.bool t_51))] w (Eq.mp (show numm_intCmp.V4 a_2 b_3 t_31 t_51 R w = seg Try.prog 80 71 Try.f80.results.toList numm_intCmp.cuts R 600 false [.code (sub (bodyOf Try.f80) [1, 1, 0, 1, 0, 1, 1, 1, 1, 1, 1, 1]), .inBlock 0, .code (sub (bodyOf Try.f80) [1, 1, 1])] [(2, (.int .u64 a_2)), (3, (.int .u64 b_3)), (31, (.int .i64 t_31)), (51, (.bool t_51))] w by kernel_rfl) h)
def numm_intCmp.V5 (a_2 : Int) (b_3 : Int) (t_58 : Bool) (R : Value → World → Prop) (w : World) : Prop :=
  (cond t_58
  (Runs Try.prog numm_flag.id #[(.bool (!(decide (b_3 < a_2))))] w fun r1 w2 => (∃ x3 : Int, (r1 = (.int .u64 x3) ∧ (R (.int .u64 x3) w2))))
  (Runs Try.prog numm_flag.id #[(.bool (!(decide (a_2 < b_3))))] w fun r4 w5 => (∃ x6 : Int, (r4 = (.int .u64 x6) ∧ (R (.int .u64 x6) w5)))))
theorem numm_intCmp.step5 (a_2 : Int) (b_3 : Int) (t_58 : Bool) (R : Value → World → Prop) (w : World) (h : numm_intCmp.V5 a_2 b_3 t_58 R w) : numm_intCmp.L5 a_2 b_3 t_58 R w :=
  seg_T good mixed Try.func80 600 false [.code (sub (bodyOf Try.f80) [1, 1, 0, 1, 0, 1, 1, 1, 1, 1, 1, 1, 1, 1]), .inBlock 0, .code (sub (bodyOf Try.f80) [1, 1, 1])] [(2, (.int .u64 a_2)), (3, (.int .u64 b_3)), (58, (.bool t_58))] w (Eq.mp (show numm_intCmp.V5 a_2 b_3 t_58 R w = seg Try.prog 80 71 Try.f80.results.toList numm_intCmp.cuts R 600 false [.code (sub (bodyOf Try.f80) [1, 1, 0, 1, 0, 1, 1, 1, 1, 1, 1, 1, 1, 1]), .inBlock 0, .code (sub (bodyOf Try.f80) [1, 1, 1])] [(2, (.int .u64 a_2)), (3, (.int .u64 b_3)), (58, (.bool t_58))] w by kernel_rfl) h)
def numm_intCmp.V (k_0 : Int) (n_1 : Int) (a_2 : Int) (b_3 : Int) (R : Value → World → Prop) (w : World) : Prop :=
  (cond (decide (k_0 ≥ (2 : Int)))
  (numm_intCmp.L1 k_0 n_1 a_2 b_3 ((Int.tmod k_0 2) == (0 : Int)) R w)
  (numm_intCmp.L1 k_0 n_1 a_2 b_3 false R w))
theorem numm_intCmp.enter (k_0 : Int) (n_1 : Int) (a_2 : Int) (b_3 : Int) (R : Value → World → Prop) (w : World) (h : numm_intCmp.V k_0 n_1 a_2 b_3 R w) : Runs Try.prog numm_intCmp.id #[(.int .i64 k_0), (.int .i64 n_1), (.int .u64 a_2), (.int .u64 b_3)] w R :=
  Runs.enter (c := bodyOf Try.f80) (N := 71) Try.func80 (by kernel_rfl) (by kernel_rfl) (by kernel_rfl) (seg_T good mixed Try.func80 600 false [.code (bodyOf Try.f80)] [(0, (.int .i64 k_0)), (1, (.int .i64 n_1)), (2, (.int .u64 a_2)), (3, (.int .u64 b_3))] w (Eq.mp (show numm_intCmp.V k_0 n_1 a_2 b_3 R w = seg Try.prog 80 71 Try.f80.results.toList numm_intCmp.cuts R 600 false [.code (bodyOf Try.f80)] [(0, (.int .i64 k_0)), (1, (.int .i64 n_1)), (2, (.int .u64 a_2)), (3, (.int .u64 b_3))] w by kernel_rfl) h))

/-! e2e/numm.fltCmp -/
def numm_fltCmp.cuts : List (Nat × List Nat) := [(14, [0, 1, 2, 3]), (18, [0, 1, 2, 3])]
def numm_fltCmp.L1 (k_0 : Int) (f_1 : Int) (a_2 : Int) (b_3 : Int) (R : Value → World → Prop) (w : World) : Prop :=
  T Try.prog 81 70 [.code (sub (bodyOf Try.f81) [1, 1, 1, 1])] [(0, (.int .i64 k_0)), (1, (.int .i64 f_1)), (2, (.int .u64 a_2)), (3, (.int .u64 b_3))] w R
def numm_fltCmp.L2 (k_0 : Int) (f_1 : Int) (a_2 : Int) (b_3 : Int) (R : Value → World → Prop) (w : World) : Prop :=
  T Try.prog 81 70 [.code (sub (bodyOf Try.f81) [1, 1, 1, 1, 1])] [(0, (.int .i64 k_0)), (1, (.int .i64 f_1)), (2, (.int .u64 a_2)), (3, (.int .u64 b_3))] w R
def numm_fltCmp.V1 (k_0 : Int) (f_1 : Int) (a_2 : Int) (b_3 : Int) (R : Value → World → Prop) (w : World) : Prop :=
  (Runs Try.prog numm_isZero.id #[(.int .i64 f_1), (.int .u64 b_3)] w fun r1 w2 => (∃ x3 : Bool, (r1 = (.bool x3) ∧ (cond x3
  (numm_fltCmp.L2 k_0 f_1 a_2 0 R w2)
  (numm_fltCmp.L2 k_0 f_1 a_2 b_3 R w2)))))
theorem numm_fltCmp.step1 (k_0 : Int) (f_1 : Int) (a_2 : Int) (b_3 : Int) (R : Value → World → Prop) (w : World) (h : numm_fltCmp.V1 k_0 f_1 a_2 b_3 R w) : numm_fltCmp.L1 k_0 f_1 a_2 b_3 R w :=
  seg_T good mixed Try.func81 600 false [.code (sub (bodyOf Try.f81) [1, 1, 1, 1])] [(0, (.int .i64 k_0)), (1, (.int .i64 f_1)), (2, (.int .u64 a_2)), (3, (.int .u64 b_3))] w (Eq.mp (show numm_fltCmp.V1 k_0 f_1 a_2 b_3 R w = seg Try.prog 81 70 Try.f81.results.toList numm_fltCmp.cuts R 600 false [.code (sub (bodyOf Try.f81) [1, 1, 1, 1])] [(0, (.int .i64 k_0)), (1, (.int .i64 f_1)), (2, (.int .u64 a_2)), (3, (.int .u64 b_3))] w by kernel_rfl) h)
def numm_fltCmp.V2 (k_0 : Int) (f_1 : Int) (a_2 : Int) (b_3 : Int) (R : Value → World → Prop) (w : World) : Prop :=
  (Runs Try.prog numm_key.id #[(.int .i64 f_1), (.int .u64 a_2)] w fun r1 w2 => (∃ x3 : Int, (r1 = (.int .u64 x3) ∧ (Runs Try.prog numm_key.id #[(.int .i64 f_1), (.int .u64 b_3)] w2 fun r4 w5 => (∃ x6 : Int, (r4 = (.int .u64 x6) ∧ (cond (k_0 == (0 : Int))
  (Runs Try.prog numm_flag.id #[(.bool (x3 == x6))] w5 fun r7 w8 => (∃ x9 : Int, (r7 = (.int .u64 x9) ∧ (R (.int .u64 x9) w8))))
  (cond (k_0 == (1 : Int))
  (Runs Try.prog numm_flag.id #[(.bool (x3 != x6))] w5 fun r10 w11 => (∃ x12 : Int, (r10 = (.int .u64 x12) ∧ (R (.int .u64 x12) w11))))
  (cond (k_0 == (2 : Int))
  (Runs Try.prog numm_flag.id #[(.bool (decide (x3 < x6)))] w5 fun r13 w14 => (∃ x15 : Int, (r13 = (.int .u64 x15) ∧ (R (.int .u64 x15) w14))))
  (cond (k_0 == (3 : Int))
  (Runs Try.prog numm_flag.id #[(.bool (decide (x6 < x3)))] w5 fun r16 w17 => (∃ x18 : Int, (r16 = (.int .u64 x18) ∧ (R (.int .u64 x18) w17))))
  (cond (k_0 == (4 : Int))
  (Runs Try.prog numm_flag.id #[(.bool (decide (x3 ≤ x6)))] w5 fun r19 w20 => (∃ x21 : Int, (r19 = (.int .u64 x21) ∧ (R (.int .u64 x21) w20))))
  (Runs Try.prog numm_flag.id #[(.bool (decide (x6 ≤ x3)))] w5 fun r22 w23 => (∃ x24 : Int, (r22 = (.int .u64 x24) ∧ (R (.int .u64 x24) w23)))))))))))))))
theorem numm_fltCmp.step2 (k_0 : Int) (f_1 : Int) (a_2 : Int) (b_3 : Int) (R : Value → World → Prop) (w : World) (h : numm_fltCmp.V2 k_0 f_1 a_2 b_3 R w) : numm_fltCmp.L2 k_0 f_1 a_2 b_3 R w :=
  seg_T good mixed Try.func81 600 false [.code (sub (bodyOf Try.f81) [1, 1, 1, 1, 1])] [(0, (.int .i64 k_0)), (1, (.int .i64 f_1)), (2, (.int .u64 a_2)), (3, (.int .u64 b_3))] w (Eq.mp (show numm_fltCmp.V2 k_0 f_1 a_2 b_3 R w = seg Try.prog 81 70 Try.f81.results.toList numm_fltCmp.cuts R 600 false [.code (sub (bodyOf Try.f81) [1, 1, 1, 1, 1])] [(0, (.int .i64 k_0)), (1, (.int .i64 f_1)), (2, (.int .u64 a_2)), (3, (.int .u64 b_3))] w by kernel_rfl) h)
def numm_fltCmp.V (k_0 : Int) (f_1 : Int) (a_2 : Int) (b_3 : Int) (R : Value → World → Prop) (w : World) : Prop :=
  (Runs Try.prog numm_isNaN.id #[(.int .i64 f_1), (.int .u64 a_2)] w fun r5 w6 => (∃ x7 : Bool, (r5 = (.bool x7) ∧ (cond x7
  (Runs Try.prog numm_flag.id #[(.bool (k_0 == (1 : Int)))] w6 fun r8 w9 => (∃ x10 : Int, (r8 = (.int .u64 x10) ∧ (R (.int .u64 x10) w9))))
  (Runs Try.prog numm_isNaN.id #[(.int .i64 f_1), (.int .u64 b_3)] w6 fun r11 w12 => (∃ x13 : Bool, (r11 = (.bool x13) ∧ (cond x13
  (Runs Try.prog numm_flag.id #[(.bool (k_0 == (1 : Int)))] w12 fun r14 w15 => (∃ x16 : Int, (r14 = (.int .u64 x16) ∧ (R (.int .u64 x16) w15))))
  (Runs Try.prog numm_isZero.id #[(.int .i64 f_1), (.int .u64 a_2)] w12 fun r17 w18 => (∃ x19 : Bool, (r17 = (.bool x19) ∧ (cond x19
  (numm_fltCmp.L1 k_0 f_1 0 b_3 R w18)
  (numm_fltCmp.L1 k_0 f_1 a_2 b_3 R w18)))))))))))))
theorem numm_fltCmp.enter (k_0 : Int) (f_1 : Int) (a_2 : Int) (b_3 : Int) (R : Value → World → Prop) (w : World) (h : numm_fltCmp.V k_0 f_1 a_2 b_3 R w) : Runs Try.prog numm_fltCmp.id #[(.int .i64 k_0), (.int .i64 f_1), (.int .u64 a_2), (.int .u64 b_3)] w R :=
  Runs.enter (c := bodyOf Try.f81) (N := 70) Try.func81 (by kernel_rfl) (by kernel_rfl) (by kernel_rfl) (seg_T good mixed Try.func81 600 false [.code (bodyOf Try.f81)] [(0, (.int .i64 k_0)), (1, (.int .i64 f_1)), (2, (.int .u64 a_2)), (3, (.int .u64 b_3))] w (Eq.mp (show numm_fltCmp.V k_0 f_1 a_2 b_3 R w = seg Try.prog 81 70 Try.f81.results.toList numm_fltCmp.cuts R 600 false [.code (bodyOf Try.f81)] [(0, (.int .i64 k_0)), (1, (.int .i64 f_1)), (2, (.int .u64 a_2)), (3, (.int .u64 b_3))] w by kernel_rfl) h))

/-! e2e/numm.intUn -/
def numm_intUn.cuts : List (Nat × List Nat) := [(9, [1, 2, 7, 10]), (19, [2, 7, 8]), (22, [2, 7, 8]), (29, [1, 2, 7, 9]), (32, [1, 2, 7, 9]), (34, [7])]
def numm_intUn.L1 (a_2 : Int) (c_7 : Int) (i_8 : Int) (R : Value → World → Prop) (w : World) : Prop :=
  T Try.prog 82 60 [.inLoop (sub (bodyOf Try.f82) [1, 1, 0, 1, 0, 1, 0, 1, 0, 0]), .inBlock 3, .inBlock 0, .code (sub (bodyOf Try.f82) [1, 1, 1])] [(2, (.int .u64 a_2)), (7, (.int .u64 c_7)), (8, (.int .i64 i_8))] w R
def numm_intUn.L2 (n_1 : Int) (a_2 : Int) (c_7 : Int) (i_9 : Int) (R : Value → World → Prop) (w : World) : Prop :=
  T Try.prog 82 60 [.inLoop (sub (bodyOf Try.f82) [1, 1, 0, 1, 0, 1, 1, 1, 0, 1, 0, 0]), .inBlock 5, .inBlock 0, .code (sub (bodyOf Try.f82) [1, 1, 1])] [(1, (.int .i64 n_1)), (2, (.int .u64 a_2)), (7, (.int .u64 c_7)), (9, (.int .i64 i_9))] w R
def numm_intUn.L3 (n_1 : Int) (a_2 : Int) (c_7 : Int) (i_10 : Int) (R : Value → World → Prop) (w : World) : Prop :=
  T Try.prog 82 60 [.inLoop (sub (bodyOf Try.f82) [1, 1, 0, 1, 0, 1, 1, 1, 1, 1, 0, 0]), .inBlock 1, .inBlock 0, .code (sub (bodyOf Try.f82) [1, 1, 1])] [(1, (.int .i64 n_1)), (2, (.int .u64 a_2)), (7, (.int .u64 c_7)), (10, (.int .i64 i_10))] w R
def numm_intUn.L4 (a_2 : Int) (c_7 : Int) (i_8 : Int) (R : Value → World → Prop) (w : World) : Prop :=
  T Try.prog 82 60 [.code (sub (bodyOf Try.f82) [1, 1, 0, 1, 0, 1, 0, 1, 0, 0, 1]), .inLoop (sub (bodyOf Try.f82) [1, 1, 0, 1, 0, 1, 0, 1, 0, 0]), .inBlock 3, .inBlock 0, .code (sub (bodyOf Try.f82) [1, 1, 1])] [(2, (.int .u64 a_2)), (7, (.int .u64 c_7)), (8, (.int .i64 i_8))] w R
def numm_intUn.L5 (c_7 : Int) (R : Value → World → Prop) (w : World) : Prop :=
  T Try.prog 82 60 [.code (sub (bodyOf Try.f82) [1, 1, 1])] [(7, (.int .u64 c_7))] w R
def numm_intUn.L6 (n_1 : Int) (a_2 : Int) (c_7 : Int) (i_9 : Int) (R : Value → World → Prop) (w : World) : Prop :=
  T Try.prog 82 60 [.code (sub (bodyOf Try.f82) [1, 1, 0, 1, 0, 1, 1, 1, 0, 1, 0, 0, 1]), .inLoop (sub (bodyOf Try.f82) [1, 1, 0, 1, 0, 1, 1, 1, 0, 1, 0, 0]), .inBlock 5, .inBlock 0, .code (sub (bodyOf Try.f82) [1, 1, 1])] [(1, (.int .i64 n_1)), (2, (.int .u64 a_2)), (7, (.int .u64 c_7)), (9, (.int .i64 i_9))] w R
def numm_intUn.V1 (a_2 : Int) (c_7 : Int) (i_8 : Int) (R : Value → World → Prop) (w : World) : Prop :=
  (cond (decide (i_8 ≥ (0 : Int)))
  (0 ≤ (IntKind.wrap .u64 i_8) ∧ (cond ((bAnd .u64 (Int.fdiv a_2 (2 ^ (min (Int.toNat (IntKind.wrap .u64 i_8)) (IntKind.bits .u64)))) 1) == (0 : Int))
  (numm_intUn.L4 a_2 c_7 i_8 R w)
  (numm_intUn.L5 c_7 R w)))
  (numm_intUn.L5 c_7 R w))
theorem numm_intUn.step1 (a_2 : Int) (c_7 : Int) (i_8 : Int) (R : Value → World → Prop) (w : World) (h : numm_intUn.V1 a_2 c_7 i_8 R w) : numm_intUn.L1 a_2 c_7 i_8 R w :=
  seg_T good mixed Try.func82 600 false [.inLoop (sub (bodyOf Try.f82) [1, 1, 0, 1, 0, 1, 0, 1, 0, 0]), .inBlock 3, .inBlock 0, .code (sub (bodyOf Try.f82) [1, 1, 1])] [(2, (.int .u64 a_2)), (7, (.int .u64 c_7)), (8, (.int .i64 i_8))] w (Eq.mp (show numm_intUn.V1 a_2 c_7 i_8 R w = seg Try.prog 82 60 Try.f82.results.toList numm_intUn.cuts R 600 false [.inLoop (sub (bodyOf Try.f82) [1, 1, 0, 1, 0, 1, 0, 1, 0, 0]), .inBlock 3, .inBlock 0, .code (sub (bodyOf Try.f82) [1, 1, 1])] [(2, (.int .u64 a_2)), (7, (.int .u64 c_7)), (8, (.int .i64 i_8))] w by kernel_rfl) h)
def numm_intUn.V2 (n_1 : Int) (a_2 : Int) (c_7 : Int) (i_9 : Int) (R : Value → World → Prop) (w : World) : Prop :=
  (cond (decide (i_9 < n_1))
  (0 ≤ (IntKind.wrap .u64 i_9) ∧ (cond ((bAnd .u64 (Int.fdiv a_2 (2 ^ (min (Int.toNat (IntKind.wrap .u64 i_9)) (IntKind.bits .u64)))) 1) == (0 : Int))
  (numm_intUn.L6 n_1 a_2 c_7 i_9 R w)
  (numm_intUn.L5 c_7 R w)))
  (numm_intUn.L5 c_7 R w))
theorem numm_intUn.step2 (n_1 : Int) (a_2 : Int) (c_7 : Int) (i_9 : Int) (R : Value → World → Prop) (w : World) (h : numm_intUn.V2 n_1 a_2 c_7 i_9 R w) : numm_intUn.L2 n_1 a_2 c_7 i_9 R w :=
  seg_T good mixed Try.func82 600 false [.inLoop (sub (bodyOf Try.f82) [1, 1, 0, 1, 0, 1, 1, 1, 0, 1, 0, 0]), .inBlock 5, .inBlock 0, .code (sub (bodyOf Try.f82) [1, 1, 1])] [(1, (.int .i64 n_1)), (2, (.int .u64 a_2)), (7, (.int .u64 c_7)), (9, (.int .i64 i_9))] w (Eq.mp (show numm_intUn.V2 n_1 a_2 c_7 i_9 R w = seg Try.prog 82 60 Try.f82.results.toList numm_intUn.cuts R 600 false [.inLoop (sub (bodyOf Try.f82) [1, 1, 0, 1, 0, 1, 1, 1, 0, 1, 0, 0]), .inBlock 5, .inBlock 0, .code (sub (bodyOf Try.f82) [1, 1, 1])] [(1, (.int .i64 n_1)), (2, (.int .u64 a_2)), (7, (.int .u64 c_7)), (9, (.int .i64 i_9))] w by kernel_rfl) h)
def numm_intUn.V3 (n_1 : Int) (a_2 : Int) (c_7 : Int) (i_10 : Int) (R : Value → World → Prop) (w : World) : Prop :=
  (cond (decide (i_10 < n_1))
  (0 ≤ (IntKind.wrap .u64 i_10) ∧ (numm_intUn.L3 n_1 a_2 (IntKind.wrap .u64 (c_7 + (bAnd .u64 (Int.fdiv a_2 (2 ^ (min (Int.toNat (IntKind.wrap .u64 i_10)) (IntKind.bits .u64)))) 1))) (IntKind.wrap .i64 (i_10 + (1 : Int))) R w))
  (numm_intUn.L5 c_7 R w))
theorem numm_intUn.step3 (n_1 : Int) (a_2 : Int) (c_7 : Int) (i_10 : Int) (R : Value → World → Prop) (w : World) (h : numm_intUn.V3 n_1 a_2 c_7 i_10 R w) : numm_intUn.L3 n_1 a_2 c_7 i_10 R w :=
  seg_T good mixed Try.func82 600 false [.inLoop (sub (bodyOf Try.f82) [1, 1, 0, 1, 0, 1, 1, 1, 1, 1, 0, 0]), .inBlock 1, .inBlock 0, .code (sub (bodyOf Try.f82) [1, 1, 1])] [(1, (.int .i64 n_1)), (2, (.int .u64 a_2)), (7, (.int .u64 c_7)), (10, (.int .i64 i_10))] w (Eq.mp (show numm_intUn.V3 n_1 a_2 c_7 i_10 R w = seg Try.prog 82 60 Try.f82.results.toList numm_intUn.cuts R 600 false [.inLoop (sub (bodyOf Try.f82) [1, 1, 0, 1, 0, 1, 1, 1, 1, 1, 0, 0]), .inBlock 1, .inBlock 0, .code (sub (bodyOf Try.f82) [1, 1, 1])] [(1, (.int .i64 n_1)), (2, (.int .u64 a_2)), (7, (.int .u64 c_7)), (10, (.int .i64 i_10))] w by kernel_rfl) h)
def numm_intUn.V4 (a_2 : Int) (c_7 : Int) (i_8 : Int) (R : Value → World → Prop) (w : World) : Prop :=
  (numm_intUn.L1 a_2 (IntKind.wrap .u64 (c_7 + (1 : Int))) (IntKind.wrap .i64 (i_8 - (1 : Int))) R w)
theorem numm_intUn.step4 (a_2 : Int) (c_7 : Int) (i_8 : Int) (R : Value → World → Prop) (w : World) (h : numm_intUn.V4 a_2 c_7 i_8 R w) : numm_intUn.L4 a_2 c_7 i_8 R w :=
  seg_T good mixed Try.func82 600 false [.code (sub (bodyOf Try.f82) [1, 1, 0, 1, 0, 1, 0, 1, 0, 0, 1]), .inLoop (sub (bodyOf Try.f82) [1, 1, 0, 1, 0, 1, 0, 1, 0, 0]), .inBlock 3, .inBlock 0, .code (sub (bodyOf Try.f82) [1, 1, 1])] [(2, (.int .u64 a_2)), (7, (.int .u64 c_7)), (8, (.int .i64 i_8))] w (Eq.mp (show numm_intUn.V4 a_2 c_7 i_8 R w = seg Try.prog 82 60 Try.f82.results.toList numm_intUn.cuts R 600 false [.code (sub (bodyOf Try.f82) [1, 1, 0, 1, 0, 1, 0, 1, 0, 0, 1]), .inLoop (sub (bodyOf Try.f82) [1, 1, 0, 1, 0, 1, 0, 1, 0, 0]), .inBlock 3, .inBlock 0, .code (sub (bodyOf Try.f82) [1, 1, 1])] [(2, (.int .u64 a_2)), (7, (.int .u64 c_7)), (8, (.int .i64 i_8))] w by kernel_rfl) h)
def numm_intUn.V5 (c_7 : Int) (R : Value → World → Prop) (w : World) : Prop :=
  (R (.int .u64 c_7) w)
theorem numm_intUn.step5 (c_7 : Int) (R : Value → World → Prop) (w : World) (h : numm_intUn.V5 c_7 R w) : numm_intUn.L5 c_7 R w :=
  seg_T good mixed Try.func82 600 false [.code (sub (bodyOf Try.f82) [1, 1, 1])] [(7, (.int .u64 c_7))] w (Eq.mp (show numm_intUn.V5 c_7 R w = seg Try.prog 82 60 Try.f82.results.toList numm_intUn.cuts R 600 false [.code (sub (bodyOf Try.f82) [1, 1, 1])] [(7, (.int .u64 c_7))] w by kernel_rfl) h)
def numm_intUn.V6 (n_1 : Int) (a_2 : Int) (c_7 : Int) (i_9 : Int) (R : Value → World → Prop) (w : World) : Prop :=
  (numm_intUn.L2 n_1 a_2 (IntKind.wrap .u64 (c_7 + (1 : Int))) (IntKind.wrap .i64 (i_9 + (1 : Int))) R w)
theorem numm_intUn.step6 (n_1 : Int) (a_2 : Int) (c_7 : Int) (i_9 : Int) (R : Value → World → Prop) (w : World) (h : numm_intUn.V6 n_1 a_2 c_7 i_9 R w) : numm_intUn.L6 n_1 a_2 c_7 i_9 R w :=
  seg_T good mixed Try.func82 600 false [.code (sub (bodyOf Try.f82) [1, 1, 0, 1, 0, 1, 1, 1, 0, 1, 0, 0, 1]), .inLoop (sub (bodyOf Try.f82) [1, 1, 0, 1, 0, 1, 1, 1, 0, 1, 0, 0]), .inBlock 5, .inBlock 0, .code (sub (bodyOf Try.f82) [1, 1, 1])] [(1, (.int .i64 n_1)), (2, (.int .u64 a_2)), (7, (.int .u64 c_7)), (9, (.int .i64 i_9))] w (Eq.mp (show numm_intUn.V6 n_1 a_2 c_7 i_9 R w = seg Try.prog 82 60 Try.f82.results.toList numm_intUn.cuts R 600 false [.code (sub (bodyOf Try.f82) [1, 1, 0, 1, 0, 1, 1, 1, 0, 1, 0, 0, 1]), .inLoop (sub (bodyOf Try.f82) [1, 1, 0, 1, 0, 1, 1, 1, 0, 1, 0, 0]), .inBlock 5, .inBlock 0, .code (sub (bodyOf Try.f82) [1, 1, 1])] [(1, (.int .i64 n_1)), (2, (.int .u64 a_2)), (7, (.int .u64 c_7)), (9, (.int .i64 i_9))] w by kernel_rfl) h)
def numm_intUn.V (k_0 : Int) (n_1 : Int) (a_2 : Int) (R : Value → World → Prop) (w : World) : Prop :=
  (cond (k_0 == (0 : Int))
  (numm_intUn.L1 a_2 0 (IntKind.wrap .i64 (n_1 - (1 : Int))) R w)
  (cond (k_0 == (1 : Int))
  (numm_intUn.L2 n_1 a_2 0 0 R w)
  (numm_intUn.L3 n_1 a_2 0 0 R w)))
theorem numm_intUn.enter (k_0 : Int) (n_1 : Int) (a_2 : Int) (R : Value → World → Prop) (w : World) (h : numm_intUn.V k_0 n_1 a_2 R w) : Runs Try.prog numm_intUn.id #[(.int .i64 k_0), (.int .i64 n_1), (.int .u64 a_2)] w R :=
  Runs.enter (c := bodyOf Try.f82) (N := 60) Try.func82 (by kernel_rfl) (by kernel_rfl) (by kernel_rfl) (seg_T good mixed Try.func82 600 false [.code (bodyOf Try.f82)] [(0, (.int .i64 k_0)), (1, (.int .i64 n_1)), (2, (.int .u64 a_2))] w (Eq.mp (show numm_intUn.V k_0 n_1 a_2 R w = seg Try.prog 82 60 Try.f82.results.toList numm_intUn.cuts R 600 false [.code (bodyOf Try.f82)] [(0, (.int .i64 k_0)), (1, (.int .i64 n_1)), (2, (.int .u64 a_2))] w by kernel_rfl) h))

/-! e2e/numm.intBin -/
def numm_intBin.cuts : List (Nat × List Nat) := [(26, [0, 1, 2, 3, 10, 11, 20, 45]), (68, [13])]
def numm_intBin.L1 (k_0 : Int) (n_1 : Int) (a_2 : Int) (b_3 : Int) (m_10 : Int) (c_11 : Int) (t_20 : Int) (t_45 : Bool) (R : Value → World → Prop) (w : World) : Prop :=
  T Try.prog 83 140 [.code (sub (bodyOf Try.f83) [1, 1, 1, 0, 1, 0, 1, 1, 1, 1, 1, 1, 1]), .inBlock 0, .code (sub (bodyOf Try.f83) [1, 1, 1, 1])] [(0, (.int .i64 k_0)), (1, (.int .i64 n_1)), (2, (.int .u64 a_2)), (3, (.int .u64 b_3)), (10, (.int .u64 m_10)), (11, (.int .u64 c_11)), (20, (.int .i64 t_20)), (45, (.bool t_45))] w R
def numm_intBin.L2 (r_13 : Int) (R : Value → World → Prop) (w : World) : Prop :=
  T Try.prog 83 140 [.code (sub (bodyOf Try.f83) [1, 1, 1, 0, 1, 0, 1, 1, 1, 1, 1, 1, 1, 1, 1, 1, 1, 1, 1, 1, 1, 1, 1, 1, 1, 1, 1, 0, 1, 1]), .inBlock 0, .code (sub (bodyOf Try.f83) [1, 1, 1, 1])] [(13, (.int .u64 r_13))] w R
def numm_intBin.V1 (k_0 : Int) (n_1 : Int) (a_2 : Int) (b_3 : Int) (m_10 : Int) (c_11 : Int) (t_20 : Int) (t_45 : Bool) (R : Value → World → Prop) (w : World) : Prop :=
  (cond t_45
  (Runs Try.prog numm_divS.id #[(.bool (k_0 == (3 : Int))), (.int .i64 n_1), (.int .u64 a_2), (.int .u64 b_3)] w fun r1 w2 => (∃ x3 : Int, ∃ x4 : Int, (r1 = (.tuple #[(.int .u64 x3), (.int .i64 x4)]) ∧ (R (.tuple #[(.int .u64 x3), (.int .i64 x4)]) w2))))
  (cond (t_20 == (4 : Int))
  (cond (b_3 == (0 : Int))
  (R (.tuple #[(.int .u64 0), (.int .i64 39)]) w)
  ((IntKind.u64 = IntKind.u64) ∧ b_3 ≠ 0 ∧ (R (.tuple #[(.int .u64 (IntKind.wrap .u64 (Int.tdiv a_2 b_3))), (.int .i64 0)]) w)))
  (cond (t_20 == (6 : Int))
  (cond (b_3 == (0 : Int))
  (R (.tuple #[(.int .u64 0), (.int .i64 39)]) w)
  ((IntKind.u64 = IntKind.u64) ∧ b_3 ≠ 0 ∧ (R (.tuple #[(.int .u64 (Int.tmod a_2 b_3)), (.int .i64 0)]) w)))
  (cond (t_20 == (7 : Int))
  (R (.tuple #[(.int .u64 (bAnd .u64 a_2 b_3)), (.int .i64 0)]) w)
  (cond (t_20 == (8 : Int))
  (R (.tuple #[(.int .u64 (bOr .u64 a_2 b_3)), (.int .i64 0)]) w)
  (cond (t_20 == (9 : Int))
  (R (.tuple #[(.int .u64 (bXor .u64 a_2 b_3)), (.int .i64 0)]) w)
  (cond (t_20 == (10 : Int))
  (0 ≤ c_11 ∧ (R (.tuple #[(.int .u64 (bAnd .u64 (IntKind.wrap .u64 (a_2 * 2 ^ (min (Int.toNat c_11) (IntKind.bits .u64)))) m_10)), (.int .i64 0)]) w))
  (cond (t_20 == (11 : Int))
  (0 ≤ c_11 ∧ (Runs Try.prog numm_top.id #[(.int .i64 n_1)] w fun r5 w6 => (∃ x7 : Int, (r5 = (.int .u64 x7) ∧ (cond (decide (a_2 ≥ x7))
  (0 ≤ c_11 ∧ (numm_intBin.L2 (bOr .u64 (Int.fdiv a_2 (2 ^ (min (Int.toNat c_11) (IntKind.bits .u64)))) (IntKind.wrap .u64 (m_10 - (Int.fdiv m_10 (2 ^ (min (Int.toNat c_11) (IntKind.bits .u64))))))) R w6))
  (numm_intBin.L2 (Int.fdiv a_2 (2 ^ (min (Int.toNat c_11) (IntKind.bits .u64)))) R w6))))))
  (cond (t_20 == (12 : Int))
  (0 ≤ c_11 ∧ (R (.tuple #[(.int .u64 (Int.fdiv a_2 (2 ^ (min (Int.toNat c_11) (IntKind.bits .u64))))), (.int .i64 0)]) w))
  (cond (t_20 == (13 : Int))
  (0 ≤ c_11 ∧ (0 ≤ (IntKind.wrap .u64 ((IntKind.wrap .u64 n_1) - c_11)) ∧ (R (.tuple #[(.int .u64 (bAnd .u64 (bOr .u64 (IntKind.wrap .u64 (a_2 * 2 ^ (min (Int.toNat c_11) (IntKind.bits .u64)))) (Int.fdiv a_2 (2 ^ (min (Int.toNat (IntKind.wrap .u64 ((IntKind.wrap .u64 n_1) - c_11))) (IntKind.bits .u64))))) m_10)), (.int .i64 0)]) w)))
  (0 ≤ c_11 ∧ (0 ≤ (IntKind.wrap .u64 ((IntKind.wrap .u64 n_1) - c_11)) ∧ (R (.tuple #[(.int .u64 (bAnd .u64 (bOr .u64 (Int.fdiv a_2 (2 ^ (min (Int.toNat c_11) (IntKind.bits .u64)))) (IntKind.wrap .u64 (a_2 * 2 ^ (min (Int.toNat (IntKind.wrap .u64 ((IntKind.wrap .u64 n_1) - c_11))) (IntKind.bits .u64))))) m_10)), (.int .i64 0)]) w)))))))))))))
theorem numm_intBin.step1 (k_0 : Int) (n_1 : Int) (a_2 : Int) (b_3 : Int) (m_10 : Int) (c_11 : Int) (t_20 : Int) (t_45 : Bool) (R : Value → World → Prop) (w : World) (h : numm_intBin.V1 k_0 n_1 a_2 b_3 m_10 c_11 t_20 t_45 R w) : numm_intBin.L1 k_0 n_1 a_2 b_3 m_10 c_11 t_20 t_45 R w :=
  seg_T good mixed Try.func83 600 false [.code (sub (bodyOf Try.f83) [1, 1, 1, 0, 1, 0, 1, 1, 1, 1, 1, 1, 1]), .inBlock 0, .code (sub (bodyOf Try.f83) [1, 1, 1, 1])] [(0, (.int .i64 k_0)), (1, (.int .i64 n_1)), (2, (.int .u64 a_2)), (3, (.int .u64 b_3)), (10, (.int .u64 m_10)), (11, (.int .u64 c_11)), (20, (.int .i64 t_20)), (45, (.bool t_45))] w (Eq.mp (show numm_intBin.V1 k_0 n_1 a_2 b_3 m_10 c_11 t_20 t_45 R w = seg Try.prog 83 140 Try.f83.results.toList numm_intBin.cuts R 600 false [.code (sub (bodyOf Try.f83) [1, 1, 1, 0, 1, 0, 1, 1, 1, 1, 1, 1, 1]), .inBlock 0, .code (sub (bodyOf Try.f83) [1, 1, 1, 1])] [(0, (.int .i64 k_0)), (1, (.int .i64 n_1)), (2, (.int .u64 a_2)), (3, (.int .u64 b_3)), (10, (.int .u64 m_10)), (11, (.int .u64 c_11)), (20, (.int .i64 t_20)), (45, (.bool t_45))] w by kernel_rfl) h)
def numm_intBin.V2 (r_13 : Int) (R : Value → World → Prop) (w : World) : Prop :=
  (R (.tuple #[(.int .u64 r_13), (.int .i64 0)]) w)
theorem numm_intBin.step2 (r_13 : Int) (R : Value → World → Prop) (w : World) (h : numm_intBin.V2 r_13 R w) : numm_intBin.L2 r_13 R w :=
  seg_T good mixed Try.func83 600 false [.code (sub (bodyOf Try.f83) [1, 1, 1, 0, 1, 0, 1, 1, 1, 1, 1, 1, 1, 1, 1, 1, 1, 1, 1, 1, 1, 1, 1, 1, 1, 1, 1, 0, 1, 1]), .inBlock 0, .code (sub (bodyOf Try.f83) [1, 1, 1, 1])] [(13, (.int .u64 r_13))] w (Eq.mp (show numm_intBin.V2 r_13 R w = seg Try.prog 83 140 Try.f83.results.toList numm_intBin.cuts R 600 false [.code (sub (bodyOf Try.f83) [1, 1, 1, 0, 1, 0, 1, 1, 1, 1, 1, 1, 1, 1, 1, 1, 1, 1, 1, 1, 1, 1, 1, 1, 1, 1, 1, 0, 1, 1]), .inBlock 0, .code (sub (bodyOf Try.f83) [1, 1, 1, 1])] [(13, (.int .u64 r_13))] w by kernel_rfl) h)
def numm_intBin.V (k_0 : Int) (n_1 : Int) (a_2 : Int) (b_3 : Int) (R : Value → World → Prop) (w : World) : Prop :=
  (Runs Try.prog numm_mask.id #[(.int .i64 n_1)] w fun r5 w6 => (∃ x7 : Int, (r5 = (.int .u64 x7) ∧ ((IntKind.u64 = IntKind.u64) ∧ (IntKind.wrap .u64 n_1) ≠ 0 ∧ (cond (k_0 == (0 : Int))
  (R (.tuple #[(.int .u64 (bAnd .u64 (IntKind.wrap .u64 (a_2 + b_3)) x7)), (.int .i64 0)]) w6)
  (cond (k_0 == (1 : Int))
  (Runs Try.prog numm_minus.id #[(.int .i64 n_1), (.int .u64 b_3)] w6 fun r8 w9 => (∃ x10 : Int, (r8 = (.int .u64 x10) ∧ (R (.tuple #[(.int .u64 (bAnd .u64 (IntKind.wrap .u64 (a_2 + x10)) x7)), (.int .i64 0)]) w9))))
  (cond (k_0 == (2 : Int))
  (R (.tuple #[(.int .u64 (bAnd .u64 (IntKind.wrap .u64 (a_2 * b_3)) x7)), (.int .i64 0)]) w6)
  (cond (k_0 == (3 : Int))
  (numm_intBin.L1 k_0 n_1 a_2 b_3 x7 (Int.tmod b_3 (IntKind.wrap .u64 n_1)) k_0 true R w6)
  (numm_intBin.L1 k_0 n_1 a_2 b_3 x7 (Int.tmod b_3 (IntKind.wrap .u64 n_1)) k_0 (k_0 == (5 : Int)) R w6)))))))))
theorem numm_intBin.enter (k_0 : Int) (n_1 : Int) (a_2 : Int) (b_3 : Int) (R : Value → World → Prop) (w : World) (h : numm_intBin.V k_0 n_1 a_2 b_3 R w) : Runs Try.prog numm_intBin.id #[(.int .i64 k_0), (.int .i64 n_1), (.int .u64 a_2), (.int .u64 b_3)] w R :=
  Runs.enter (c := bodyOf Try.f83) (N := 140) Try.func83 (by kernel_rfl) (by kernel_rfl) (by kernel_rfl) (seg_T good mixed Try.func83 600 false [.code (bodyOf Try.f83)] [(0, (.int .i64 k_0)), (1, (.int .i64 n_1)), (2, (.int .u64 a_2)), (3, (.int .u64 b_3))] w (Eq.mp (show numm_intBin.V k_0 n_1 a_2 b_3 R w = seg Try.prog 83 140 Try.f83.results.toList numm_intBin.cuts R 600 false [.code (bodyOf Try.f83)] [(0, (.int .i64 k_0)), (1, (.int .i64 n_1)), (2, (.int .u64 a_2)), (3, (.int .u64 b_3))] w by kernel_rfl) h))

/-! e2e/numm.fltUn -/
def numm_fltUn.cuts : List (Nat × List Nat) := []
def numm_fltUn.V (k_0 : Int) (f_1 : Int) (a_2 : Int) (R : Value → World → Prop) (w : World) : Prop :=
  (cond (k_0 == (0 : Int))
  (Runs Try.prog numm_top.id #[(.int .i64 f_1)] w fun r4 w5 => (∃ x6 : Int, (r4 = (.int .u64 x6) ∧ (R (.int .u64 (bAnd .u64 a_2 (IntKind.wrap .u64 (x6 - (1 : Int))))) w5))))
  (cond (k_0 == (1 : Int))
  (Runs Try.prog numm_top.id #[(.int .i64 f_1)] w fun r7 w8 => (∃ x9 : Int, (r7 = (.int .u64 x9) ∧ (R (.int .u64 (bXor .u64 a_2 x9)) w8))))
  (cond (k_0 == (6 : Int))
  (Runs Try.prog numm_sqrt.id #[(.int .i64 f_1), (.int .u64 a_2)] w fun r10 w11 => (∃ x12 : Int, (r10 = (.int .u64 x12) ∧ (R (.int .u64 x12) w11))))
  (Runs Try.prog numm_whole.id #[(.int .i64 k_0), (.int .i64 f_1), (.int .u64 a_2)] w fun r13 w14 => (∃ x15 : Int, (r13 = (.int .u64 x15) ∧ (R (.int .u64 x15) w14)))))))
theorem numm_fltUn.enter (k_0 : Int) (f_1 : Int) (a_2 : Int) (R : Value → World → Prop) (w : World) (h : numm_fltUn.V k_0 f_1 a_2 R w) : Runs Try.prog numm_fltUn.id #[(.int .i64 k_0), (.int .i64 f_1), (.int .u64 a_2)] w R :=
  Runs.enter (c := bodyOf Try.f84) (N := 30) Try.func84 (by kernel_rfl) (by kernel_rfl) (by kernel_rfl) (seg_T good mixed Try.func84 600 false [.code (bodyOf Try.f84)] [(0, (.int .i64 k_0)), (1, (.int .i64 f_1)), (2, (.int .u64 a_2))] w (Eq.mp (show numm_fltUn.V k_0 f_1 a_2 R w = seg Try.prog 84 30 Try.f84.results.toList numm_fltUn.cuts R 600 false [.code (bodyOf Try.f84)] [(0, (.int .i64 k_0)), (1, (.int .i64 f_1)), (2, (.int .u64 a_2))] w by kernel_rfl) h))

/-! e2e/numm.fltBin -/
def numm_fltBin.cuts : List (Nat × List Nat) := []
def numm_fltBin.V (k_0 : Int) (f_1 : Int) (a_2 : Int) (b_3 : Int) (R : Value → World → Prop) (w : World) : Prop :=
  (Runs Try.prog numm_top.id #[(.int .i64 f_1)] w fun r5 w6 => (∃ x7 : Int, (r5 = (.int .u64 x7) ∧ (cond (k_0 == (6 : Int))
  (R (.int .u64 (bOr .u64 (bAnd .u64 a_2 (IntKind.wrap .u64 (x7 - (1 : Int)))) (bAnd .u64 b_3 x7))) w6)
  (Runs Try.prog numm_isNaN.id #[(.int .i64 f_1), (.int .u64 a_2)] w6 fun r8 w9 => (∃ x10 : Bool, (r8 = (.bool x10) ∧ (cond x10
  (Runs Try.prog numm_canon.id #[(.int .i64 f_1)] w9 fun r11 w12 => (∃ x13 : Int, (r11 = (.int .u64 x13) ∧ (R (.int .u64 x13) w12))))
  (Runs Try.prog numm_isNaN.id #[(.int .i64 f_1), (.int .u64 b_3)] w9 fun r14 w15 => (∃ x16 : Bool, (r14 = (.bool x16) ∧ (cond x16
  (Runs Try.prog numm_canon.id #[(.int .i64 f_1)] w15 fun r17 w18 => (∃ x19 : Int, (r17 = (.int .u64 x19) ∧ (R (.int .u64 x19) w18))))
  (cond (k_0 == (0 : Int))
  (Runs Try.prog numm_add.id #[(.int .i64 f_1), (.int .u64 a_2), (.int .u64 b_3)] w15 fun r20 w21 => (∃ x22 : Int, (r20 = (.int .u64 x22) ∧ (R (.int .u64 x22) w21))))
  (cond (k_0 == (1 : Int))
  (Runs Try.prog numm_add.id #[(.int .i64 f_1), (.int .u64 a_2), (.int .u64 (bXor .u64 b_3 x7))] w15 fun r23 w24 => (∃ x25 : Int, (r23 = (.int .u64 x25) ∧ (R (.int .u64 x25) w24))))
  (cond (k_0 == (2 : Int))
  (Runs Try.prog numm_mul.id #[(.int .i64 f_1), (.int .u64 a_2), (.int .u64 b_3)] w15 fun r26 w27 => (∃ x28 : Int, (r26 = (.int .u64 x28) ∧ (R (.int .u64 x28) w27))))
  (cond (k_0 == (3 : Int))
  (Runs Try.prog numm_div.id #[(.int .i64 f_1), (.int .u64 a_2), (.int .u64 b_3)] w15 fun r29 w30 => (∃ x31 : Int, (r29 = (.int .u64 x31) ∧ (R (.int .u64 x31) w30))))
  (Runs Try.prog numm_key.id #[(.int .i64 f_1), (.int .u64 a_2)] w15 fun r32 w33 => (∃ x34 : Int, (r32 = (.int .u64 x34) ∧ (Runs Try.prog numm_key.id #[(.int .i64 f_1), (.int .u64 b_3)] w33 fun r35 w36 => (∃ x37 : Int, (r35 = (.int .u64 x37) ∧ (cond ((decide (x34 < x37)) == (k_0 == (4 : Int)))
  (R (.int .u64 a_2) w36)
  (R (.int .u64 b_3) w36))))))))))))))))))))))))
theorem numm_fltBin.enter (k_0 : Int) (f_1 : Int) (a_2 : Int) (b_3 : Int) (R : Value → World → Prop) (w : World) (h : numm_fltBin.V k_0 f_1 a_2 b_3 R w) : Runs Try.prog numm_fltBin.id #[(.int .i64 k_0), (.int .i64 f_1), (.int .u64 a_2), (.int .u64 b_3)] w R :=
  Runs.enter (c := bodyOf Try.f85) (N := 75) Try.func85 (by kernel_rfl) (by kernel_rfl) (by kernel_rfl) (seg_T good mixed Try.func85 600 false [.code (bodyOf Try.f85)] [(0, (.int .i64 k_0)), (1, (.int .i64 f_1)), (2, (.int .u64 a_2)), (3, (.int .u64 b_3))] w (Eq.mp (show numm_fltBin.V k_0 f_1 a_2 b_3 R w = seg Try.prog 85 75 Try.f85.results.toList numm_fltBin.cuts R 600 false [.code (bodyOf Try.f85)] [(0, (.int .i64 k_0)), (1, (.int .i64 f_1)), (2, (.int .u64 a_2)), (3, (.int .u64 b_3))] w by kernel_rfl) h))

/-! e2e/numm.convert -/
def numm_convert.cuts : List (Nat × List Nat) := []
def numm_convert.V (op_0 : Int) (a_1 : Int) (R : Value → World → Prop) (w : World) : Prop :=
  (cond (op_0 == (167 : Int))
  (R (.tuple #[(.int .u64 (bAnd .u64 a_1 4294967295)), (.int .i64 0)]) w)
  (cond (op_0 == (168 : Int))
  (Runs Try.prog numm_toInt.id #[(.int .i64 32), (.int .i64 32), (.bool true), (.int .u64 a_1)] w fun r3 w4 => (∃ x5 : Int, ∃ x6 : Int, (r3 = (.tuple #[(.int .u64 x5), (.int .i64 x6)]) ∧ (R (.tuple #[(.int .u64 x5), (.int .i64 x6)]) w4))))
  (cond (op_0 == (169 : Int))
  (Runs Try.prog numm_toInt.id #[(.int .i64 32), (.int .i64 32), (.bool false), (.int .u64 a_1)] w fun r7 w8 => (∃ x9 : Int, ∃ x10 : Int, (r7 = (.tuple #[(.int .u64 x9), (.int .i64 x10)]) ∧ (R (.tuple #[(.int .u64 x9), (.int .i64 x10)]) w8))))
  (cond (op_0 == (170 : Int))
  (Runs Try.prog numm_toInt.id #[(.int .i64 64), (.int .i64 32), (.bool true), (.int .u64 a_1)] w fun r11 w12 => (∃ x13 : Int, ∃ x14 : Int, (r11 = (.tuple #[(.int .u64 x13), (.int .i64 x14)]) ∧ (R (.tuple #[(.int .u64 x13), (.int .i64 x14)]) w12))))
  (cond (op_0 == (171 : Int))
  (Runs Try.prog numm_toInt.id #[(.int .i64 64), (.int .i64 32), (.bool false), (.int .u64 a_1)] w fun r15 w16 => (∃ x17 : Int, ∃ x18 : Int, (r15 = (.tuple #[(.int .u64 x17), (.int .i64 x18)]) ∧ (R (.tuple #[(.int .u64 x17), (.int .i64 x18)]) w16))))
  (cond (op_0 == (172 : Int))
  (Runs Try.prog numm_top.id #[(.int .i64 32)] w fun r19 w20 => (∃ x21 : Int, (r19 = (.int .u64 x21) ∧ (cond (decide (a_1 ≥ x21))
  (R (.tuple #[(.int .u64 (IntKind.wrap .u64 (a_1 + (18446744069414584320 : Int)))), (.int .i64 0)]) w20)
  (R (.tuple #[(.int .u64 a_1), (.int .i64 0)]) w20)))))
  (cond (op_0 == (173 : Int))
  (R (.tuple #[(.int .u64 a_1), (.int .i64 0)]) w)
  (cond (op_0 == (174 : Int))
  (Runs Try.prog numm_toInt.id #[(.int .i64 32), (.int .i64 64), (.bool true), (.int .u64 a_1)] w fun r22 w23 => (∃ x24 : Int, ∃ x25 : Int, (r22 = (.tuple #[(.int .u64 x24), (.int .i64 x25)]) ∧ (R (.tuple #[(.int .u64 x24), (.int .i64 x25)]) w23))))
  (cond (op_0 == (175 : Int))
  (Runs Try.prog numm_toInt.id #[(.int .i64 32), (.int .i64 64), (.bool false), (.int .u64 a_1)] w fun r26 w27 => (∃ x28 : Int, ∃ x29 : Int, (r26 = (.tuple #[(.int .u64 x28), (.int .i64 x29)]) ∧ (R (.tuple #[(.int .u64 x28), (.int .i64 x29)]) w27))))
  (cond (op_0 == (176 : Int))
  (Runs Try.prog numm_toInt.id #[(.int .i64 64), (.int .i64 64), (.bool true), (.int .u64 a_1)] w fun r30 w31 => (∃ x32 : Int, ∃ x33 : Int, (r30 = (.tuple #[(.int .u64 x32), (.int .i64 x33)]) ∧ (R (.tuple #[(.int .u64 x32), (.int .i64 x33)]) w31))))
  (cond (op_0 == (177 : Int))
  (Runs Try.prog numm_toInt.id #[(.int .i64 64), (.int .i64 64), (.bool false), (.int .u64 a_1)] w fun r34 w35 => (∃ x36 : Int, ∃ x37 : Int, (r34 = (.tuple #[(.int .u64 x36), (.int .i64 x37)]) ∧ (R (.tuple #[(.int .u64 x36), (.int .i64 x37)]) w35))))
  (cond (op_0 == (178 : Int))
  (Runs Try.prog numm_fromInt.id #[(.int .i64 32), (.int .i64 32), (.bool true), (.int .u64 a_1)] w fun r38 w39 => (∃ x40 : Int, (r38 = (.int .u64 x40) ∧ (R (.tuple #[(.int .u64 x40), (.int .i64 0)]) w39))))
  (cond (op_0 == (179 : Int))
  (Runs Try.prog numm_fromInt.id #[(.int .i64 32), (.int .i64 32), (.bool false), (.int .u64 a_1)] w fun r41 w42 => (∃ x43 : Int, (r41 = (.int .u64 x43) ∧ (R (.tuple #[(.int .u64 x43), (.int .i64 0)]) w42))))
  (cond (op_0 == (180 : Int))
  (Runs Try.prog numm_fromInt.id #[(.int .i64 32), (.int .i64 64), (.bool true), (.int .u64 a_1)] w fun r44 w45 => (∃ x46 : Int, (r44 = (.int .u64 x46) ∧ (R (.tuple #[(.int .u64 x46), (.int .i64 0)]) w45))))
  (cond (op_0 == (181 : Int))
  (Runs Try.prog numm_fromInt.id #[(.int .i64 32), (.int .i64 64), (.bool false), (.int .u64 a_1)] w fun r47 w48 => (∃ x49 : Int, (r47 = (.int .u64 x49) ∧ (R (.tuple #[(.int .u64 x49), (.int .i64 0)]) w48))))
  (cond (op_0 == (182 : Int))
  (Runs Try.prog numm_reformat.id #[(.int .i64 64), (.int .i64 32), (.int .u64 a_1)] w fun r50 w51 => (∃ x52 : Int, (r50 = (.int .u64 x52) ∧ (R (.tuple #[(.int .u64 x52), (.int .i64 0)]) w51))))
  (cond (op_0 == (183 : Int))
  (Runs Try.prog numm_fromInt.id #[(.int .i64 64), (.int .i64 32), (.bool true), (.int .u64 a_1)] w fun r53 w54 => (∃ x55 : Int, (r53 = (.int .u64 x55) ∧ (R (.tuple #[(.int .u64 x55), (.int .i64 0)]) w54))))
  (cond (op_0 == (184 : Int))
  (Runs Try.prog numm_fromInt.id #[(.int .i64 64), (.int .i64 32), (.bool false), (.int .u64 a_1)] w fun r56 w57 => (∃ x58 : Int, (r56 = (.int .u64 x58) ∧ (R (.tuple #[(.int .u64 x58), (.int .i64 0)]) w57))))
  (cond (op_0 == (185 : Int))
  (Runs Try.prog numm_fromInt.id #[(.int .i64 64), (.int .i64 64), (.bool true), (.int .u64 a_1)] w fun r59 w60 => (∃ x61 : Int, (r59 = (.int .u64 x61) ∧ (R (.tuple #[(.int .u64 x61), (.int .i64 0)]) w60))))
  (cond (op_0 == (186 : Int))
  (Runs Try.prog numm_fromInt.id #[(.int .i64 64), (.int .i64 64), (.bool false), (.int .u64 a_1)] w fun r62 w63 => (∃ x64 : Int, (r62 = (.int .u64 x64) ∧ (R (.tuple #[(.int .u64 x64), (.int .i64 0)]) w63))))
  (cond (op_0 == (187 : Int))
  (Runs Try.prog numm_reformat.id #[(.int .i64 32), (.int .i64 64), (.int .u64 a_1)] w fun r65 w66 => (∃ x67 : Int, (r65 = (.int .u64 x67) ∧ (R (.tuple #[(.int .u64 x67), (.int .i64 0)]) w66))))
  (R (.tuple #[(.int .u64 a_1), (.int .i64 0)]) w))))))))))))))))))))))
theorem numm_convert.enter (op_0 : Int) (a_1 : Int) (R : Value → World → Prop) (w : World) (h : numm_convert.V op_0 a_1 R w) : Runs Try.prog numm_convert.id #[(.int .i64 op_0), (.int .u64 a_1)] w R :=
  Runs.enter (c := bodyOf Try.f86) (N := 111) Try.func86 (by kernel_rfl) (by kernel_rfl) (by kernel_rfl) (seg_T good mixed Try.func86 600 false [.code (bodyOf Try.f86)] [(0, (.int .i64 op_0)), (1, (.int .u64 a_1))] w (Eq.mp (show numm_convert.V op_0 a_1 R w = seg Try.prog 86 111 Try.f86.results.toList numm_convert.cuts R 600 false [.code (bodyOf Try.f86)] [(0, (.int .i64 op_0)), (1, (.int .u64 a_1))] w by kernel_rfl) h))

/-! e2e/num.clz32 -/
def num_clz32.cuts : List (Nat × List Nat) := [(14, [0, 3]), (20, [0, 3]), (26, [0, 3]), (32, [0, 3]), (36, [3])]
def num_clz32.L1 (x_0 : Int) (n_3 : Int) (R : Value → World → Prop) (w : World) : Prop :=
  T Try.prog 87 40 [.code (sub (bodyOf Try.f87) [1, 1, 1, 1])] [(0, (.int .u32 x_0)), (3, (.int .u32 n_3))] w R
def num_clz32.L2 (x_0 : Int) (n_3 : Int) (R : Value → World → Prop) (w : World) : Prop :=
  T Try.prog 87 40 [.code (sub (bodyOf Try.f87) [1, 1, 1, 1, 1])] [(0, (.int .u32 x_0)), (3, (.int .u32 n_3))] w R
def num_clz32.L3 (x_0 : Int) (n_3 : Int) (R : Value → World → Prop) (w : World) : Prop :=
  T Try.prog 87 40 [.code (sub (bodyOf Try.f87) [1, 1, 1, 1, 1, 1])] [(0, (.int .u32 x_0)), (3, (.int .u32 n_3))] w R
def num_clz32.L4 (x_0 : Int) (n_3 : Int) (R : Value → World → Prop) (w : World) : Prop :=
  T Try.prog 87 40 [.code (sub (bodyOf Try.f87) [1, 1, 1, 1, 1, 1, 1])] [(0, (.int .u32 x_0)), (3, (.int .u32 n_3))] w R
def num_clz32.L5 (n_3 : Int) (R : Value → World → Prop) (w : World) : Prop :=
  T Try.prog 87 40 [.code (sub (bodyOf Try.f87) [1, 1, 1, 1, 1, 1, 1, 1])] [(3, (.int .u32 n_3))] w R
def num_clz32.V1 (x_0 : Int) (n_3 : Int) (R : Value → World → Prop) (w : World) : Prop :=
  (cond ((Int.fdiv x_0 (2 ^ (24 : Nat))) == (0 : Int))
  (num_clz32.L2 (IntKind.wrap .u32 (x_0 * 2 ^ (8 : Nat))) (IntKind.wrap .u32 (n_3 + (8 : Int))) R w)
  (num_clz32.L2 x_0 n_3 R w))
theorem num_clz32.step1 (x_0 : Int) (n_3 : Int) (R : Value → World → Prop) (w : World) (h : num_clz32.V1 x_0 n_3 R w) : num_clz32.L1 x_0 n_3 R w :=
  seg_T good mixed Try.func87 600 false [.code (sub (bodyOf Try.f87) [1, 1, 1, 1])] [(0, (.int .u32 x_0)), (3, (.int .u32 n_3))] w (Eq.mp (show num_clz32.V1 x_0 n_3 R w = seg Try.prog 87 40 Try.f87.results.toList num_clz32.cuts R 600 false [.code (sub (bodyOf Try.f87) [1, 1, 1, 1])] [(0, (.int .u32 x_0)), (3, (.int .u32 n_3))] w by kernel_rfl) h)
def num_clz32.V2 (x_0 : Int) (n_3 : Int) (R : Value → World → Prop) (w : World) : Prop :=
  (cond ((Int.fdiv x_0 (2 ^ (28 : Nat))) == (0 : Int))
  (num_clz32.L3 (IntKind.wrap .u32 (x_0 * 2 ^ (4 : Nat))) (IntKind.wrap .u32 (n_3 + (4 : Int))) R w)
  (num_clz32.L3 x_0 n_3 R w))
theorem num_clz32.step2 (x_0 : Int) (n_3 : Int) (R : Value → World → Prop) (w : World) (h : num_clz32.V2 x_0 n_3 R w) : num_clz32.L2 x_0 n_3 R w :=
  seg_T good mixed Try.func87 600 false [.code (sub (bodyOf Try.f87) [1, 1, 1, 1, 1])] [(0, (.int .u32 x_0)), (3, (.int .u32 n_3))] w (Eq.mp (show num_clz32.V2 x_0 n_3 R w = seg Try.prog 87 40 Try.f87.results.toList num_clz32.cuts R 600 false [.code (sub (bodyOf Try.f87) [1, 1, 1, 1, 1])] [(0, (.int .u32 x_0)), (3, (.int .u32 n_3))] w by kernel_rfl) h)
def num_clz32.V3 (x_0 : Int) (n_3 : Int) (R : Value → World → Prop) (w : World) : Prop :=
  (cond ((Int.fdiv x_0 (2 ^ (30 : Nat))) == (0 : Int))
  (num_clz32.L4 (IntKind.wrap .u32 (x_0 * 2 ^ (2 : Nat))) (IntKind.wrap .u32 (n_3 + (2 : Int))) R w)
  (num_clz32.L4 x_0 n_3 R w))
theorem num_clz32.step3 (x_0 : Int) (n_3 : Int) (R : Value → World → Prop) (w : World) (h : num_clz32.V3 x_0 n_3 R w) : num_clz32.L3 x_0 n_3 R w :=
  seg_T good mixed Try.func87 600 false [.code (sub (bodyOf Try.f87) [1, 1, 1, 1, 1, 1])] [(0, (.int .u32 x_0)), (3, (.int .u32 n_3))] w (Eq.mp (show num_clz32.V3 x_0 n_3 R w = seg Try.prog 87 40 Try.f87.results.toList num_clz32.cuts R 600 false [.code (sub (bodyOf Try.f87) [1, 1, 1, 1, 1, 1])] [(0, (.int .u32 x_0)), (3, (.int .u32 n_3))] w by kernel_rfl) h)
def num_clz32.V4 (x_0 : Int) (n_3 : Int) (R : Value → World → Prop) (w : World) : Prop :=
  (cond ((Int.fdiv x_0 (2 ^ (31 : Nat))) == (0 : Int))
  (num_clz32.L5 (IntKind.wrap .u32 (n_3 + (1 : Int))) R w)
  (num_clz32.L5 n_3 R w))
theorem num_clz32.step4 (x_0 : Int) (n_3 : Int) (R : Value → World → Prop) (w : World) (h : num_clz32.V4 x_0 n_3 R w) : num_clz32.L4 x_0 n_3 R w :=
  seg_T good mixed Try.func87 600 false [.code (sub (bodyOf Try.f87) [1, 1, 1, 1, 1, 1, 1])] [(0, (.int .u32 x_0)), (3, (.int .u32 n_3))] w (Eq.mp (show num_clz32.V4 x_0 n_3 R w = seg Try.prog 87 40 Try.f87.results.toList num_clz32.cuts R 600 false [.code (sub (bodyOf Try.f87) [1, 1, 1, 1, 1, 1, 1])] [(0, (.int .u32 x_0)), (3, (.int .u32 n_3))] w by kernel_rfl) h)
def num_clz32.V5 (n_3 : Int) (R : Value → World → Prop) (w : World) : Prop :=
  (R (.int .u32 n_3) w)
theorem num_clz32.step5 (n_3 : Int) (R : Value → World → Prop) (w : World) (h : num_clz32.V5 n_3 R w) : num_clz32.L5 n_3 R w :=
  seg_T good mixed Try.func87 600 false [.code (sub (bodyOf Try.f87) [1, 1, 1, 1, 1, 1, 1, 1])] [(3, (.int .u32 n_3))] w (Eq.mp (show num_clz32.V5 n_3 R w = seg Try.prog 87 40 Try.f87.results.toList num_clz32.cuts R 600 false [.code (sub (bodyOf Try.f87) [1, 1, 1, 1, 1, 1, 1, 1])] [(3, (.int .u32 n_3))] w by kernel_rfl) h)
def num_clz32.V (x_0 : Int) (R : Value → World → Prop) (w : World) : Prop :=
  (cond (x_0 == (0 : Int))
  (R (.int .u32 32) w)
  (cond ((Int.fdiv x_0 (2 ^ (16 : Nat))) == (0 : Int))
  (num_clz32.L1 (IntKind.wrap .u32 (x_0 * 2 ^ (16 : Nat))) (IntKind.wrap .u32 ((0 : Int) + (16 : Int))) R w)
  (num_clz32.L1 x_0 0 R w)))
theorem num_clz32.enter (x_0 : Int) (R : Value → World → Prop) (w : World) (h : num_clz32.V x_0 R w) : Runs Try.prog num_clz32.id #[(.int .u32 x_0)] w R :=
  Runs.enter (c := bodyOf Try.f87) (N := 40) Try.func87 (by kernel_rfl) (by kernel_rfl) (by kernel_rfl) (seg_T good mixed Try.func87 600 false [.code (bodyOf Try.f87)] [(0, (.int .u32 x_0))] w (Eq.mp (show num_clz32.V x_0 R w = seg Try.prog 87 40 Try.f87.results.toList num_clz32.cuts R 600 false [.code (bodyOf Try.f87)] [(0, (.int .u32 x_0))] w by kernel_rfl) h))

/-! e2e/num.pop32 -/
def num_pop32.cuts : List (Nat × List Nat) := [(2, [0]), (4, [0]), (6, [0]), (8, [0])]
def num_pop32.L1 (x_0 : Int) (R : Value → World → Prop) (w : World) : Prop :=
  T Try.prog 88 22 [.code (sub (bodyOf Try.f88) [1])] [(0, (.int .u32 x_0))] w R
def num_pop32.L2 (x_0 : Int) (R : Value → World → Prop) (w : World) : Prop :=
  T Try.prog 88 22 [.code (sub (bodyOf Try.f88) [1, 1])] [(0, (.int .u32 x_0))] w R
def num_pop32.L3 (x_0 : Int) (R : Value → World → Prop) (w : World) : Prop :=
  T Try.prog 88 22 [.code (sub (bodyOf Try.f88) [1, 1, 1])] [(0, (.int .u32 x_0))] w R
def num_pop32.L4 (x_0 : Int) (R : Value → World → Prop) (w : World) : Prop :=
  T Try.prog 88 22 [.code (sub (bodyOf Try.f88) [1, 1, 1, 1])] [(0, (.int .u32 x_0))] w R
def num_pop32.V1 (x_0 : Int) (R : Value → World → Prop) (w : World) : Prop :=
  (num_pop32.L2 (IntKind.wrap .u32 (x_0 - (bAnd .u32 (Int.fdiv x_0 (2 ^ (1 : Nat))) 1431655765))) R w)
theorem num_pop32.step1 (x_0 : Int) (R : Value → World → Prop) (w : World) (h : num_pop32.V1 x_0 R w) : num_pop32.L1 x_0 R w :=
  seg_T good mixed Try.func88 600 false [.code (sub (bodyOf Try.f88) [1])] [(0, (.int .u32 x_0))] w (Eq.mp (show num_pop32.V1 x_0 R w = seg Try.prog 88 22 Try.f88.results.toList num_pop32.cuts R 600 false [.code (sub (bodyOf Try.f88) [1])] [(0, (.int .u32 x_0))] w by kernel_rfl) h)
def num_pop32.V2 (x_0 : Int) (R : Value → World → Prop) (w : World) : Prop :=
  (num_pop32.L3 (IntKind.wrap .u32 ((bAnd .u32 x_0 858993459) + (bAnd .u32 (Int.fdiv x_0 (2 ^ (2 : Nat))) 858993459))) R w)
theorem num_pop32.step2 (x_0 : Int) (R : Value → World → Prop) (w : World) (h : num_pop32.V2 x_0 R w) : num_pop32.L2 x_0 R w :=
  seg_T good mixed Try.func88 600 false [.code (sub (bodyOf Try.f88) [1, 1])] [(0, (.int .u32 x_0))] w (Eq.mp (show num_pop32.V2 x_0 R w = seg Try.prog 88 22 Try.f88.results.toList num_pop32.cuts R 600 false [.code (sub (bodyOf Try.f88) [1, 1])] [(0, (.int .u32 x_0))] w by kernel_rfl) h)
def num_pop32.V3 (x_0 : Int) (R : Value → World → Prop) (w : World) : Prop :=
  (num_pop32.L4 (bAnd .u32 (IntKind.wrap .u32 (x_0 + (Int.fdiv x_0 (2 ^ (4 : Nat))))) 252645135) R w)
theorem num_pop32.step3 (x_0 : Int) (R : Value → World → Prop) (w : World) (h : num_pop32.V3 x_0 R w) : num_pop32.L3 x_0 R w :=
  seg_T good mixed Try.func88 600 false [.code (sub (bodyOf Try.f88) [1, 1, 1])] [(0, (.int .u32 x_0))] w (Eq.mp (show num_pop32.V3 x_0 R w = seg Try.prog 88 22 Try.f88.results.toList num_pop32.cuts R 600 false [.code (sub (bodyOf Try.f88) [1, 1, 1])] [(0, (.int .u32 x_0))] w by kernel_rfl) h)
def num_pop32.V4 (x_0 : Int) (R : Value → World → Prop) (w : World) : Prop :=
  (R (.int .u32 (Int.fdiv (IntKind.wrap .u32 (x_0 * (16843009 : Int))) (2 ^ (24 : Nat)))) w)
theorem num_pop32.step4 (x_0 : Int) (R : Value → World → Prop) (w : World) (h : num_pop32.V4 x_0 R w) : num_pop32.L4 x_0 R w :=
  seg_T good mixed Try.func88 600 false [.code (sub (bodyOf Try.f88) [1, 1, 1, 1])] [(0, (.int .u32 x_0))] w (Eq.mp (show num_pop32.V4 x_0 R w = seg Try.prog 88 22 Try.f88.results.toList num_pop32.cuts R 600 false [.code (sub (bodyOf Try.f88) [1, 1, 1, 1])] [(0, (.int .u32 x_0))] w by kernel_rfl) h)
def num_pop32.V (x_0 : Int) (R : Value → World → Prop) (w : World) : Prop :=
  (num_pop32.L1 x_0 R w)
theorem num_pop32.enter (x_0 : Int) (R : Value → World → Prop) (w : World) (h : num_pop32.V x_0 R w) : Runs Try.prog num_pop32.id #[(.int .u32 x_0)] w R :=
  Runs.enter (c := bodyOf Try.f88) (N := 22) Try.func88 (by kernel_rfl) (by kernel_rfl) (by kernel_rfl) (seg_T good mixed Try.func88 600 false [.code (bodyOf Try.f88)] [(0, (.int .u32 x_0))] w (Eq.mp (show num_pop32.V x_0 R w = seg Try.prog 88 22 Try.f88.results.toList num_pop32.cuts R 600 false [.code (bodyOf Try.f88)] [(0, (.int .u32 x_0))] w by kernel_rfl) h))

/-! e2e/num.clz64 -/
def num_clz64.cuts : List (Nat × List Nat) := []
def num_clz64.V (x_0 : Int) (R : Value → World → Prop) (w : World) : Prop :=
  (cond ((Int.fdiv x_0 (2 ^ (32 : Nat))) != (0 : Int))
  (Runs Try.prog num_clz32.id #[(.int .u32 (IntKind.wrap .u32 (Int.fdiv x_0 (2 ^ (32 : Nat)))))] w fun r2 w3 => (∃ x4 : Int, (r2 = (.int .u32 x4) ∧ (R (.int .u64 (IntKind.wrap .u64 x4)) w3))))
  (Runs Try.prog num_clz32.id #[(.int .u32 (IntKind.wrap .u32 x_0))] w fun r5 w6 => (∃ x7 : Int, (r5 = (.int .u32 x7) ∧ (R (.int .u64 (IntKind.wrap .u64 ((32 : Int) + (IntKind.wrap .u64 x7)))) w6)))))
theorem num_clz64.enter (x_0 : Int) (R : Value → World → Prop) (w : World) (h : num_clz64.V x_0 R w) : Runs Try.prog num_clz64.id #[(.int .u64 x_0)] w R :=
  Runs.enter (c := bodyOf Try.f89) (N := 16) Try.func89 (by kernel_rfl) (by kernel_rfl) (by kernel_rfl) (seg_T good mixed Try.func89 600 false [.code (bodyOf Try.f89)] [(0, (.int .u64 x_0))] w (Eq.mp (show num_clz64.V x_0 R w = seg Try.prog 89 16 Try.f89.results.toList num_clz64.cuts R 600 false [.code (bodyOf Try.f89)] [(0, (.int .u64 x_0))] w by kernel_rfl) h))

/-! e2e/num.pop64 -/
def num_pop64.cuts : List (Nat × List Nat) := [(2, [0]), (4, [0]), (6, [0]), (8, [0])]
def num_pop64.L1 (x_0 : Int) (R : Value → World → Prop) (w : World) : Prop :=
  T Try.prog 90 22 [.code (sub (bodyOf Try.f90) [1])] [(0, (.int .u64 x_0))] w R
def num_pop64.L2 (x_0 : Int) (R : Value → World → Prop) (w : World) : Prop :=
  T Try.prog 90 22 [.code (sub (bodyOf Try.f90) [1, 1])] [(0, (.int .u64 x_0))] w R
def num_pop64.L3 (x_0 : Int) (R : Value → World → Prop) (w : World) : Prop :=
  T Try.prog 90 22 [.code (sub (bodyOf Try.f90) [1, 1, 1])] [(0, (.int .u64 x_0))] w R
def num_pop64.L4 (x_0 : Int) (R : Value → World → Prop) (w : World) : Prop :=
  T Try.prog 90 22 [.code (sub (bodyOf Try.f90) [1, 1, 1, 1])] [(0, (.int .u64 x_0))] w R
def num_pop64.V1 (x_0 : Int) (R : Value → World → Prop) (w : World) : Prop :=
  (num_pop64.L2 (IntKind.wrap .u64 (x_0 - (bAnd .u64 (Int.fdiv x_0 (2 ^ (1 : Nat))) 6148914691236517205))) R w)
theorem num_pop64.step1 (x_0 : Int) (R : Value → World → Prop) (w : World) (h : num_pop64.V1 x_0 R w) : num_pop64.L1 x_0 R w :=
  seg_T good mixed Try.func90 600 false [.code (sub (bodyOf Try.f90) [1])] [(0, (.int .u64 x_0))] w (Eq.mp (show num_pop64.V1 x_0 R w = seg Try.prog 90 22 Try.f90.results.toList num_pop64.cuts R 600 false [.code (sub (bodyOf Try.f90) [1])] [(0, (.int .u64 x_0))] w by kernel_rfl) h)
def num_pop64.V2 (x_0 : Int) (R : Value → World → Prop) (w : World) : Prop :=
  (num_pop64.L3 (IntKind.wrap .u64 ((bAnd .u64 x_0 3689348814741910323) + (bAnd .u64 (Int.fdiv x_0 (2 ^ (2 : Nat))) 3689348814741910323))) R w)
theorem num_pop64.step2 (x_0 : Int) (R : Value → World → Prop) (w : World) (h : num_pop64.V2 x_0 R w) : num_pop64.L2 x_0 R w :=
  seg_T good mixed Try.func90 600 false [.code (sub (bodyOf Try.f90) [1, 1])] [(0, (.int .u64 x_0))] w (Eq.mp (show num_pop64.V2 x_0 R w = seg Try.prog 90 22 Try.f90.results.toList num_pop64.cuts R 600 false [.code (sub (bodyOf Try.f90) [1, 1])] [(0, (.int .u64 x_0))] w by kernel_rfl) h)
def num_pop64.V3 (x_0 : Int) (R : Value → World → Prop) (w : World) : Prop :=
  (num_pop64.L4 (bAnd .u64 (IntKind.wrap .u64 (x_0 + (Int.fdiv x_0 (2 ^ (4 : Nat))))) 1085102592571150095) R w)
theorem num_pop64.step3 (x_0 : Int) (R : Value → World → Prop) (w : World) (h : num_pop64.V3 x_0 R w) : num_pop64.L3 x_0 R w :=
  seg_T good mixed Try.func90 600 false [.code (sub (bodyOf Try.f90) [1, 1, 1])] [(0, (.int .u64 x_0))] w (Eq.mp (show num_pop64.V3 x_0 R w = seg Try.prog 90 22 Try.f90.results.toList num_pop64.cuts R 600 false [.code (sub (bodyOf Try.f90) [1, 1, 1])] [(0, (.int .u64 x_0))] w by kernel_rfl) h)
def num_pop64.V4 (x_0 : Int) (R : Value → World → Prop) (w : World) : Prop :=
  (R (.int .u64 (Int.fdiv (IntKind.wrap .u64 (x_0 * (72340172838076673 : Int))) (2 ^ (56 : Nat)))) w)
theorem num_pop64.step4 (x_0 : Int) (R : Value → World → Prop) (w : World) (h : num_pop64.V4 x_0 R w) : num_pop64.L4 x_0 R w :=
  seg_T good mixed Try.func90 600 false [.code (sub (bodyOf Try.f90) [1, 1, 1, 1])] [(0, (.int .u64 x_0))] w (Eq.mp (show num_pop64.V4 x_0 R w = seg Try.prog 90 22 Try.f90.results.toList num_pop64.cuts R 600 false [.code (sub (bodyOf Try.f90) [1, 1, 1, 1])] [(0, (.int .u64 x_0))] w by kernel_rfl) h)
def num_pop64.V (x_0 : Int) (R : Value → World → Prop) (w : World) : Prop :=
  (num_pop64.L1 x_0 R w)
theorem num_pop64.enter (x_0 : Int) (R : Value → World → Prop) (w : World) (h : num_pop64.V x_0 R w) : Runs Try.prog num_pop64.id #[(.int .u64 x_0)] w R :=
  Runs.enter (c := bodyOf Try.f90) (N := 22) Try.func90 (by kernel_rfl) (by kernel_rfl) (by kernel_rfl) (seg_T good mixed Try.func90 600 false [.code (bodyOf Try.f90)] [(0, (.int .u64 x_0))] w (Eq.mp (show num_pop64.V x_0 R w = seg Try.prog 90 22 Try.f90.results.toList num_pop64.cuts R 600 false [.code (bodyOf Try.f90)] [(0, (.int .u64 x_0))] w by kernel_rfl) h))

/-! e2e/num.canon32 -/
def num_canon32.cuts : List (Nat × List Nat) := []
def num_canon32.V (r_0 : Nat) (R : Value → World → Prop) (w : World) : Prop :=
  (cond ((Ieee.Format.order (FloatKind.format .f32) r_0 r_0) != some .eq)
  (R (.int .u32 2143289344) w)
  (∃ x3 : Int, ∃ w2, Sem.run Try.prog (Go.callFunc math_Float32bits.id #[(.float .f32 r_0)]) w = .ok (.value (.int .u32 x3)) w2 ∧ (R (.int .u32 x3) w2)))
theorem num_canon32.enter (r_0 : Nat) (R : Value → World → Prop) (w : World) (h : num_canon32.V r_0 R w) : Runs Try.prog num_canon32.id #[(.float .f32 r_0)] w R :=
  Runs.enter (c := bodyOf Try.f91) (N := 8) Try.func91 (by kernel_rfl) (by kernel_rfl) (by kernel_rfl) (seg_T good mixed Try.func91 600 false [.code (bodyOf Try.f91)] [(0, (.float .f32 r_0))] w (Eq.mp (show num_canon32.V r_0 R w = seg Try.prog 91 8 Try.f91.results.toList num_canon32.cuts R 600 false [.code (bodyOf Try.f91)] [(0, (.float .f32 r_0))] w by kernel_rfl) h))

/-! e2e/num.ceil32 -/
def num_ceil32.cuts : List (Nat × List Nat) := []
def num_ceil32.V (x_0 : Nat) (R : Value → World → Prop) (w : World) : Prop :=
  (Runs Try.prog num_cut32.id #[(.float .f32 x_0)] w fun r2 w3 => (∃ x4 : Nat, (r2 = (.float .f32 x4) ∧ (cond ((Ieee.Format.order (FloatKind.format .f32) x4 x_0) == some .lt)
  (∃ x6 : Nat, ∃ w5, Sem.run Try.prog ((do eqGuard .add T_float32 (.tmp 9) (.const (.float .f32 1065353216)) (.float .f32 x4) (.float .f32 1065353216); Go.binOp .add T_float32 (.float .f32 x4) (.float .f32 1065353216))) w3 = .ok (.float .f32 x6) w5 ∧ (R (.float .f32 x6) w5))
  (R (.float .f32 x4) w3)))))
theorem num_ceil32.enter (x_0 : Nat) (R : Value → World → Prop) (w : World) (h : num_ceil32.V x_0 R w) : Runs Try.prog num_ceil32.id #[(.float .f32 x_0)] w R :=
  Runs.enter (c := bodyOf Try.f92) (N := 12) Try.func92 (by kernel_rfl) (by kernel_rfl) (by kernel_rfl) (seg_T good mixed Try.func92 600 false [.code (bodyOf Try.f92)] [(0, (.float .f32 x_0))] w (Eq.mp (show num_ceil32.V x_0 R w = seg Try.prog 92 12 Try.f92.results.toList num_ceil32.cuts R 600 false [.code (bodyOf Try.f92)] [(0, (.float .f32 x_0))] w by kernel_rfl) h))

/-! e2e/num.floor32 -/
def num_floor32.cuts : List (Nat × List Nat) := []
def num_floor32.V (x_0 : Nat) (R : Value → World → Prop) (w : World) : Prop :=
  (Runs Try.prog num_cut32.id #[(.float .f32 x_0)] w fun r2 w3 => (∃ x4 : Nat, (r2 = (.float .f32 x4) ∧ (cond ((Ieee.Format.order (FloatKind.format .f32) x4 x_0) == some .gt)
  (∃ x6 : Nat, ∃ w5, Sem.run Try.prog ((do eqGuard .sub T_float32 (.tmp 9) (.const (.float .f32 1065353216)) (.float .f32 x4) (.float .f32 1065353216); Go.binOp .sub T_float32 (.float .f32 x4) (.float .f32 1065353216))) w3 = .ok (.float .f32 x6) w5 ∧ (R (.float .f32 x6) w5))
  (R (.float .f32 x4) w3)))))
theorem num_floor32.enter (x_0 : Nat) (R : Value → World → Prop) (w : World) (h : num_floor32.V x_0 R w) : Runs Try.prog num_floor32.id #[(.float .f32 x_0)] w R :=
  Runs.enter (c := bodyOf Try.f93) (N := 12) Try.func93 (by kernel_rfl) (by kernel_rfl) (by kernel_rfl) (seg_T good mixed Try.func93 600 false [.code (bodyOf Try.f93)] [(0, (.float .f32 x_0))] w (Eq.mp (show num_floor32.V x_0 R w = seg Try.prog 93 12 Try.f93.results.toList num_floor32.cuts R 600 false [.code (bodyOf Try.f93)] [(0, (.float .f32 x_0))] w by kernel_rfl) h))

/-! e2e/num.cut32 -/
def num_cut32.cuts : List (Nat × List Nat) := [(4, [0, 10])]
def num_cut32.L1 (x_0 : Nat) (t_10 : Bool) (R : Value → World → Prop) (w : World) : Prop :=
  T Try.prog 94 22 [.code (sub (bodyOf Try.f94) [1, 0, 1]), .code (sub (bodyOf Try.f94) [1, 1])] [(0, (.float .f32 x_0)), (10, (.bool t_10))] w R
def num_cut32.V1 (x_0 : Nat) (t_10 : Bool) (R : Value → World → Prop) (w : World) : Prop :=
  (cond t_10
  (R (.float .f32 x_0) w)
  (∃ x2 : Int, ∃ w1, Sem.run Try.prog (Go.convert T_float32 T_int32 (.float .f32 x_0)) w = .ok (.int .i32 x2) w1 ∧ (cond ((Ieee.Format.order (FloatKind.format .f32) (FloatKind.nearest .f32 x2) 0) == some .eq)
  (∃ x4 : Int, ∃ w3, Sem.run Try.prog (Go.callFunc math_Float32bits.id #[(.float .f32 x_0)]) w1 = .ok (.value (.int .u32 x4)) w3 ∧ (∃ x6 : Nat, ∃ w5, Sem.run Try.prog (Go.callFunc math_Float32frombits.id #[(.int .u32 (bAnd .u32 x4 2147483648))]) w3 = .ok (.value (.float .f32 x6)) w5 ∧ (R (.float .f32 x6) w5)))
  (R (.float .f32 (FloatKind.nearest .f32 x2)) w1))))
theorem num_cut32.step1 (x_0 : Nat) (t_10 : Bool) (R : Value → World → Prop) (w : World) (h : num_cut32.V1 x_0 t_10 R w) : num_cut32.L1 x_0 t_10 R w :=
  seg_T good mixed Try.func94 600 false [.code (sub (bodyOf Try.f94) [1, 0, 1]), .code (sub (bodyOf Try.f94) [1, 1])] [(0, (.float .f32 x_0)), (10, (.bool t_10))] w (Eq.mp (show num_cut32.V1 x_0 t_10 R w = seg Try.prog 94 22 Try.f94.results.toList num_cut32.cuts R 600 false [.code (sub (bodyOf Try.f94) [1, 0, 1]), .code (sub (bodyOf Try.f94) [1, 1])] [(0, (.float .f32 x_0)), (10, (.bool t_10))] w by kernel_rfl) h)
def num_cut32.V (x_0 : Nat) (R : Value → World → Prop) (w : World) : Prop :=
  (cond ((Ieee.Format.order (FloatKind.format .f32) x_0 3405774848) == some .gt)
  (num_cut32.L1 x_0 (!((Ieee.Format.order (FloatKind.format .f32) x_0 1258291200) == some .lt)) R w)
  (num_cut32.L1 x_0 true R w))
theorem num_cut32.enter (x_0 : Nat) (R : Value → World → Prop) (w : World) (h : num_cut32.V x_0 R w) : Runs Try.prog num_cut32.id #[(.float .f32 x_0)] w R :=
  Runs.enter (c := bodyOf Try.f94) (N := 22) Try.func94 (by kernel_rfl) (by kernel_rfl) (by kernel_rfl) (seg_T good mixed Try.func94 600 false [.code (bodyOf Try.f94)] [(0, (.float .f32 x_0))] w (Eq.mp (show num_cut32.V x_0 R w = seg Try.prog 94 22 Try.f94.results.toList num_cut32.cuts R 600 false [.code (bodyOf Try.f94)] [(0, (.float .f32 x_0))] w by kernel_rfl) h))

/-! e2e/num.near32 -/
def num_near32.cuts : List (Nat × List Nat) := [(4, [0, 11])]
def num_near32.L1 (x_0 : Nat) (t_11 : Bool) (R : Value → World → Prop) (w : World) : Prop :=
  T Try.prog 95 27 [.code (sub (bodyOf Try.f95) [1, 0, 1]), .code (sub (bodyOf Try.f95) [1, 1])] [(0, (.float .f32 x_0)), (11, (.bool t_11))] w R
def num_near32.V1 (x_0 : Nat) (t_11 : Bool) (R : Value → World → Prop) (w : World) : Prop :=
  (cond t_11
  (R (.float .f32 x_0) w)
  (∃ x2 : Int, ∃ w1, Sem.run Try.prog (Go.callFunc math_Float32bits.id #[(.float .f32 x_0)]) w = .ok (.value (.int .u32 x2)) w1 ∧ (cond ((bAnd .u32 x2 2147483648) != (0 : Int))
  (∃ x4 : Nat, ∃ w3, Sem.run Try.prog ((do eqGuard .add T_float32 (.tmp 18) (.const (.float .f32 1258291200)) (.float .f32 (Op.negFloat .f32 x_0)) (.float .f32 1258291200); Go.binOp .add T_float32 (.float .f32 (Op.negFloat .f32 x_0)) (.float .f32 1258291200))) w1 = .ok (.float .f32 x4) w3 ∧ (∃ x6 : Nat, ∃ w5, Sem.run Try.prog ((do eqGuard .sub T_float32 (.tmp 19) (.const (.float .f32 1258291200)) (.float .f32 x4) (.float .f32 1258291200); Go.binOp .sub T_float32 (.float .f32 x4) (.float .f32 1258291200))) w3 = .ok (.float .f32 x6) w5 ∧ (R (.float .f32 (Op.negFloat .f32 x6)) w5)))
  (∃ x8 : Nat, ∃ w7, Sem.run Try.prog ((do eqGuard .add T_float32 (.tmp 23) (.const (.float .f32 1258291200)) (.float .f32 x_0) (.float .f32 1258291200); Go.binOp .add T_float32 (.float .f32 x_0) (.float .f32 1258291200))) w1 = .ok (.float .f32 x8) w7 ∧ (∃ x10 : Nat, ∃ w9, Sem.run Try.prog ((do eqGuard .sub T_float32 (.tmp 24) (.const (.float .f32 1258291200)) (.float .f32 x8) (.float .f32 1258291200); Go.binOp .sub T_float32 (.float .f32 x8) (.float .f32 1258291200))) w7 = .ok (.float .f32 x10) w9 ∧ (R (.float .f32 x10) w9))))))
theorem num_near32.step1 (x_0 : Nat) (t_11 : Bool) (R : Value → World → Prop) (w : World) (h : num_near32.V1 x_0 t_11 R w) : num_near32.L1 x_0 t_11 R w :=
  seg_T good mixed Try.func95 600 false [.code (sub (bodyOf Try.f95) [1, 0, 1]), .code (sub (bodyOf Try.f95) [1, 1])] [(0, (.float .f32 x_0)), (11, (.bool t_11))] w (Eq.mp (show num_near32.V1 x_0 t_11 R w = seg Try.prog 95 27 Try.f95.results.toList num_near32.cuts R 600 false [.code (sub (bodyOf Try.f95) [1, 0, 1]), .code (sub (bodyOf Try.f95) [1, 1])] [(0, (.float .f32 x_0)), (11, (.bool t_11))] w by kernel_rfl) h)
def num_near32.V (x_0 : Nat) (R : Value → World → Prop) (w : World) : Prop :=
  (cond ((Ieee.Format.order (FloatKind.format .f32) x_0 3405774848) == some .gt)
  (num_near32.L1 x_0 (!((Ieee.Format.order (FloatKind.format .f32) x_0 1258291200) == some .lt)) R w)
  (num_near32.L1 x_0 true R w))
theorem num_near32.enter (x_0 : Nat) (R : Value → World → Prop) (w : World) (h : num_near32.V x_0 R w) : Runs Try.prog num_near32.id #[(.float .f32 x_0)] w R :=
  Runs.enter (c := bodyOf Try.f95) (N := 27) Try.func95 (by kernel_rfl) (by kernel_rfl) (by kernel_rfl) (seg_T good mixed Try.func95 600 false [.code (bodyOf Try.f95)] [(0, (.float .f32 x_0))] w (Eq.mp (show num_near32.V x_0 R w = seg Try.prog 95 27 Try.f95.results.toList num_near32.cuts R 600 false [.code (bodyOf Try.f95)] [(0, (.float .f32 x_0))] w by kernel_rfl) h))

/-! math.Sqrt -/
def math_Sqrt.cuts : List (Nat × List Nat) := []
def math_Sqrt.V (x_0 : Nat) (R : Value → World → Prop) (w : World) : Prop :=
  (∃ x3 : Nat, ∃ w2, Sem.run Try.prog (Go.callFunc math_sqrt.id #[(.float .f64 x_0)]) w = .ok (.value (.float .f64 x3)) w2 ∧ (R (.float .f64 x3) w2))
theorem math_Sqrt.enter (x_0 : Nat) (R : Value → World → Prop) (w : World) (h : math_Sqrt.V x_0 R w) : Runs Try.prog math_Sqrt.id #[(.float .f64 x_0)] w R :=
  Runs.enter (c := bodyOf Try.f96) (N := 5) Try.func96 (by kernel_rfl) (by kernel_rfl) (by kernel_rfl) (seg_T good mixed Try.func96 600 false [.code (bodyOf Try.f96)] [(0, (.float .f64 x_0))] w (Eq.mp (show math_Sqrt.V x_0 R w = seg Try.prog 96 5 Try.f96.results.toList math_Sqrt.cuts R 600 false [.code (bodyOf Try.f96)] [(0, (.float .f64 x_0))] w by kernel_rfl) h))

/-! e2e/num.least32 -/
def num_least32.cuts : List (Nat × List Nat) := [(10, [0, 1, 5, 6])]
def num_least32.L1 (a_0 : Int) (b_1 : Int) (x_5 : Nat) (y_6 : Nat) (R : Value → World → Prop) (w : World) : Prop :=
  T Try.prog 97 30 [.code (sub (bodyOf Try.f97) [1, 1, 1, 1])] [(0, (.int .u32 a_0)), (1, (.int .u32 b_1)), (5, (.float .f32 x_5)), (6, (.float .f32 y_6))] w R
def num_least32.V1 (a_0 : Int) (b_1 : Int) (x_5 : Nat) (y_6 : Nat) (R : Value → World → Prop) (w : World) : Prop :=
  (cond ((Ieee.Format.order (FloatKind.format .f32) x_5 y_6) == some .eq)
  (R (.int .u32 (bOr .u32 a_0 b_1)) w)
  (cond ((Ieee.Format.order (FloatKind.format .f32) x_5 y_6) == some .lt)
  (R (.int .u32 a_0) w)
  (R (.int .u32 b_1) w)))
theorem num_least32.step1 (a_0 : Int) (b_1 : Int) (x_5 : Nat) (y_6 : Nat) (R : Value → World → Prop) (w : World) (h : num_least32.V1 a_0 b_1 x_5 y_6 R w) : num_least32.L1 a_0 b_1 x_5 y_6 R w :=
  seg_T good mixed Try.func97 600 false [.code (sub (bodyOf Try.f97) [1, 1, 1, 1])] [(0, (.int .u32 a_0)), (1, (.int .u32 b_1)), (5, (.float .f32 x_5)), (6, (.float .f32 y_6))] w (Eq.mp (show num_least32.V1 a_0 b_1 x_5 y_6 R w = seg Try.prog 97 30 Try.f97.results.toList num_least32.cuts R 600 false [.code (sub (bodyOf Try.f97) [1, 1, 1, 1])] [(0, (.int .u32 a_0)), (1, (.int .u32 b_1)), (5, (.float .f32 x_5)), (6, (.float .f32 y_6))] w by kernel_rfl) h)
def num_least32.V (a_0 : Int) (b_1 : Int) (R : Value → World → Prop) (w : World) : Prop :=
  (∃ x4 : Nat, ∃ w3, Sem.run Try.prog (Go.callFunc math_Float32frombits.id #[(.int .u32 a_0)]) w = .ok (.value (.float .f32 x4)) w3 ∧ (∃ x6 : Nat, ∃ w5, Sem.run Try.prog (Go.callFunc math_Float32frombits.id #[(.int .u32 b_1)]) w3 = .ok (.value (.float .f32 x6)) w5 ∧ (cond ((Ieee.Format.order (FloatKind.format .f32) x4 x4) != some .eq)
  (R (.int .u32 2143289344) w5)
  (cond ((Ieee.Format.order (FloatKind.format .f32) x6 x6) != some .eq)
  (R (.int .u32 2143289344) w5)
  (num_least32.L1 a_0 b_1 x4 x6 R w5)))))
theorem num_least32.enter (a_0 : Int) (b_1 : Int) (R : Value → World → Prop) (w : World) (h : num_least32.V a_0 b_1 R w) : Runs Try.prog num_least32.id #[(.int .u32 a_0), (.int .u32 b_1)] w R :=
  Runs.enter (c := bodyOf Try.f97) (N := 30) Try.func97 (by kernel_rfl) (by kernel_rfl) (by kernel_rfl) (seg_T good mixed Try.func97 600 false [.code (bodyOf Try.f97)] [(0, (.int .u32 a_0)), (1, (.int .u32 b_1))] w (Eq.mp (show num_least32.V a_0 b_1 R w = seg Try.prog 97 30 Try.f97.results.toList num_least32.cuts R 600 false [.code (bodyOf Try.f97)] [(0, (.int .u32 a_0)), (1, (.int .u32 b_1))] w by kernel_rfl) h))

/-! e2e/num.most32 -/
def num_most32.cuts : List (Nat × List Nat) := [(10, [0, 1, 5, 6])]
def num_most32.L1 (a_0 : Int) (b_1 : Int) (x_5 : Nat) (y_6 : Nat) (R : Value → World → Prop) (w : World) : Prop :=
  T Try.prog 98 30 [.code (sub (bodyOf Try.f98) [1, 1, 1, 1])] [(0, (.int .u32 a_0)), (1, (.int .u32 b_1)), (5, (.float .f32 x_5)), (6, (.float .f32 y_6))] w R
def num_most32.V1 (a_0 : Int) (b_1 : Int) (x_5 : Nat) (y_6 : Nat) (R : Value → World → Prop) (w : World) : Prop :=
  (cond ((Ieee.Format.order (FloatKind.format .f32) x_5 y_6) == some .eq)
  (R (.int .u32 (bAnd .u32 a_0 b_1)) w)
  (cond ((Ieee.Format.order (FloatKind.format .f32) x_5 y_6) == some .gt)
  (R (.int .u32 a_0) w)
  (R (.int .u32 b_1) w)))
theorem num_most32.step1 (a_0 : Int) (b_1 : Int) (x_5 : Nat) (y_6 : Nat) (R : Value → World → Prop) (w : World) (h : num_most32.V1 a_0 b_1 x_5 y_6 R w) : num_most32.L1 a_0 b_1 x_5 y_6 R w :=
  seg_T good mixed Try.func98 600 false [.code (sub (bodyOf Try.f98) [1, 1, 1, 1])] [(0, (.int .u32 a_0)), (1, (.int .u32 b_1)), (5, (.float .f32 x_5)), (6, (.float .f32 y_6))] w (Eq.mp (show num_most32.V1 a_0 b_1 x_5 y_6 R w = seg Try.prog 98 30 Try.f98.results.toList num_most32.cuts R 600 false [.code (sub (bodyOf Try.f98) [1, 1, 1, 1])] [(0, (.int .u32 a_0)), (1, (.int .u32 b_1)), (5, (.float .f32 x_5)), (6, (.float .f32 y_6))] w by kernel_rfl) h)
def num_most32.V (a_0 : Int) (b_1 : Int) (R : Value → World → Prop) (w : World) : Prop :=
  (∃ x4 : Nat, ∃ w3, Sem.run Try.prog (Go.callFunc math_Float32frombits.id #[(.int .u32 a_0)]) w = .ok (.value (.float .f32 x4)) w3 ∧ (∃ x6 : Nat, ∃ w5, Sem.run Try.prog (Go.callFunc math_Float32frombits.id #[(.int .u32 b_1)]) w3 = .ok (.value (.float .f32 x6)) w5 ∧ (cond ((Ieee.Format.order (FloatKind.format .f32) x4 x4) != some .eq)
  (R (.int .u32 2143289344) w5)
  (cond ((Ieee.Format.order (FloatKind.format .f32) x6 x6) != some .eq)
  (R (.int .u32 2143289344) w5)
  (num_most32.L1 a_0 b_1 x4 x6 R w5)))))
theorem num_most32.enter (a_0 : Int) (b_1 : Int) (R : Value → World → Prop) (w : World) (h : num_most32.V a_0 b_1 R w) : Runs Try.prog num_most32.id #[(.int .u32 a_0), (.int .u32 b_1)] w R :=
  Runs.enter (c := bodyOf Try.f98) (N := 30) Try.func98 (by kernel_rfl) (by kernel_rfl) (by kernel_rfl) (seg_T good mixed Try.func98 600 false [.code (bodyOf Try.f98)] [(0, (.int .u32 a_0)), (1, (.int .u32 b_1))] w (Eq.mp (show num_most32.V a_0 b_1 R w = seg Try.prog 98 30 Try.f98.results.toList num_most32.cuts R 600 false [.code (bodyOf Try.f98)] [(0, (.int .u32 a_0)), (1, (.int .u32 b_1))] w by kernel_rfl) h))

/-! e2e/num.canon64 -/
def num_canon64.cuts : List (Nat × List Nat) := []
def num_canon64.V (r_0 : Nat) (R : Value → World → Prop) (w : World) : Prop :=
  (cond ((Ieee.Format.order (FloatKind.format .f64) r_0 r_0) != some .eq)
  (R (.int .u64 9221120237041090560) w)
  (∃ x3 : Int, ∃ w2, Sem.run Try.prog (Go.callFunc math_Float64bits.id #[(.float .f64 r_0)]) w = .ok (.value (.int .u64 x3)) w2 ∧ (R (.int .u64 x3) w2)))
theorem num_canon64.enter (r_0 : Nat) (R : Value → World → Prop) (w : World) (h : num_canon64.V r_0 R w) : Runs Try.prog num_canon64.id #[(.float .f64 r_0)] w R :=
  Runs.enter (c := bodyOf Try.f99) (N := 8) Try.func99 (by kernel_rfl) (by kernel_rfl) (by kernel_rfl) (seg_T good mixed Try.func99 600 false [.code (bodyOf Try.f99)] [(0, (.float .f64 r_0))] w (Eq.mp (show num_canon64.V r_0 R w = seg Try.prog 99 8 Try.f99.results.toList num_canon64.cuts R 600 false [.code (bodyOf Try.f99)] [(0, (.float .f64 r_0))] w by kernel_rfl) h))

/-! e2e/num.ceil64 -/
def num_ceil64.cuts : List (Nat × List Nat) := []
def num_ceil64.V (x_0 : Nat) (R : Value → World → Prop) (w : World) : Prop :=
  (Runs Try.prog num_cut64.id #[(.float .f64 x_0)] w fun r2 w3 => (∃ x4 : Nat, (r2 = (.float .f64 x4) ∧ (cond ((Ieee.Format.order (FloatKind.format .f64) x4 x_0) == some .lt)
  (∃ x6 : Nat, ∃ w5, Sem.run Try.prog ((do eqGuard .add T_float64 (.tmp 9) (.const (.float .f64 4607182418800017408)) (.float .f64 x4) (.float .f64 4607182418800017408); Go.binOp .add T_float64 (.float .f64 x4) (.float .f64 4607182418800017408))) w3 = .ok (.float .f64 x6) w5 ∧ (R (.float .f64 x6) w5))
  (R (.float .f64 x4) w3)))))
theorem num_ceil64.enter (x_0 : Nat) (R : Value → World → Prop) (w : World) (h : num_ceil64.V x_0 R w) : Runs Try.prog num_ceil64.id #[(.float .f64 x_0)] w R :=
  Runs.enter (c := bodyOf Try.f100) (N := 12) Try.func100 (by kernel_rfl) (by kernel_rfl) (by kernel_rfl) (seg_T good mixed Try.func100 600 false [.code (bodyOf Try.f100)] [(0, (.float .f64 x_0))] w (Eq.mp (show num_ceil64.V x_0 R w = seg Try.prog 100 12 Try.f100.results.toList num_ceil64.cuts R 600 false [.code (bodyOf Try.f100)] [(0, (.float .f64 x_0))] w by kernel_rfl) h))

/-! e2e/num.floor64 -/
def num_floor64.cuts : List (Nat × List Nat) := []
def num_floor64.V (x_0 : Nat) (R : Value → World → Prop) (w : World) : Prop :=
  (Runs Try.prog num_cut64.id #[(.float .f64 x_0)] w fun r2 w3 => (∃ x4 : Nat, (r2 = (.float .f64 x4) ∧ (cond ((Ieee.Format.order (FloatKind.format .f64) x4 x_0) == some .gt)
  (∃ x6 : Nat, ∃ w5, Sem.run Try.prog ((do eqGuard .sub T_float64 (.tmp 9) (.const (.float .f64 4607182418800017408)) (.float .f64 x4) (.float .f64 4607182418800017408); Go.binOp .sub T_float64 (.float .f64 x4) (.float .f64 4607182418800017408))) w3 = .ok (.float .f64 x6) w5 ∧ (R (.float .f64 x6) w5))
  (R (.float .f64 x4) w3)))))
theorem num_floor64.enter (x_0 : Nat) (R : Value → World → Prop) (w : World) (h : num_floor64.V x_0 R w) : Runs Try.prog num_floor64.id #[(.float .f64 x_0)] w R :=
  Runs.enter (c := bodyOf Try.f101) (N := 12) Try.func101 (by kernel_rfl) (by kernel_rfl) (by kernel_rfl) (seg_T good mixed Try.func101 600 false [.code (bodyOf Try.f101)] [(0, (.float .f64 x_0))] w (Eq.mp (show num_floor64.V x_0 R w = seg Try.prog 101 12 Try.f101.results.toList num_floor64.cuts R 600 false [.code (bodyOf Try.f101)] [(0, (.float .f64 x_0))] w by kernel_rfl) h))

/-! e2e/num.cut64 -/
def num_cut64.cuts : List (Nat × List Nat) := [(4, [0, 10])]
def num_cut64.L1 (x_0 : Nat) (t_10 : Bool) (R : Value → World → Prop) (w : World) : Prop :=
  T Try.prog 102 22 [.code (sub (bodyOf Try.f102) [1, 0, 1]), .code (sub (bodyOf Try.f102) [1, 1])] [(0, (.float .f64 x_0)), (10, (.bool t_10))] w R
def num_cut64.V1 (x_0 : Nat) (t_10 : Bool) (R : Value → World → Prop) (w : World) : Prop :=
  (cond t_10
  (R (.float .f64 x_0) w)
  (∃ x2 : Int, ∃ w1, Sem.run Try.prog (Go.convert T_float64 T_int64 (.float .f64 x_0)) w = .ok (.int .i64 x2) w1 ∧ (cond ((Ieee.Format.order (FloatKind.format .f64) (FloatKind.nearest .f64 x2) 0) == some .eq)
  (∃ x4 : Int, ∃ w3, Sem.run Try.prog (Go.callFunc math_Float64bits.id #[(.float .f64 x_0)]) w1 = .ok (.value (.int .u64 x4)) w3 ∧ (∃ x6 : Nat, ∃ w5, Sem.run Try.prog (Go.callFunc math_Float64frombits.id #[(.int .u64 (bAnd .u64 x4 9223372036854775808))]) w3 = .ok (.value (.float .f64 x6)) w5 ∧ (R (.float .f64 x6) w5)))
  (R (.float .f64 (FloatKind.nearest .f64 x2)) w1))))
theorem num_cut64.step1 (x_0 : Nat) (t_10 : Bool) (R : Value → World → Prop) (w : World) (h : num_cut64.V1 x_0 t_10 R w) : num_cut64.L1 x_0 t_10 R w :=
  seg_T good mixed Try.func102 600 false [.code (sub (bodyOf Try.f102) [1, 0, 1]), .code (sub (bodyOf Try.f102) [1, 1])] [(0, (.float .f64 x_0)), (10, (.bool t_10))] w (Eq.mp (show num_cut64.V1 x_0 t_10 R w = seg Try.prog 102 22 Try.f102.results.toList num_cut64.cuts R 600 false [.code (sub (bodyOf Try.f102) [1, 0, 1]), .code (sub (bodyOf Try.f102) [1, 1])] [(0, (.float .f64 x_0)), (10, (.bool t_10))] w by kernel_rfl) h)
def num_cut64.V (x_0 : Nat) (R : Value → World → Prop) (w : World) : Prop :=
  (cond ((Ieee.Format.order (FloatKind.format .f64) x_0 14064741636278059008) == some .gt)
  (num_cut64.L1 x_0 (!((Ieee.Format.order (FloatKind.format .f64) x_0 4841369599423283200) == some .lt)) R w)
  (num_cut64.L1 x_0 true R w))
theorem num_cut64.enter (x_0 : Nat) (R : Value → World → Prop) (w : World) (h : num_cut64.V x_0 R w) : Runs Try.prog num_cut64.id #[(.float .f64 x_0)] w R :=
  Runs.enter (c := bodyOf Try.f102) (N := 22) Try.func102 (by kernel_rfl) (by kernel_rfl) (by kernel_rfl) (seg_T good mixed Try.func102 600 false [.code (bodyOf Try.f102)] [(0, (.float .f64 x_0))] w (Eq.mp (show num_cut64.V x_0 R w = seg Try.prog 102 22 Try.f102.results.toList num_cut64.cuts R 600 false [.code (bodyOf Try.f102)] [(0, (.float .f64 x_0))] w by kernel_rfl) h))

/-! e2e/num.near64 -/
def num_near64.cuts : List (Nat × List Nat) := [(4, [0, 11])]
def num_near64.L1 (x_0 : Nat) (t_11 : Bool) (R : Value → World → Prop) (w : World) : Prop :=
  T Try.prog 103 27 [.code (sub (bodyOf Try.f103) [1, 0, 1]), .code (sub (bodyOf Try.f103) [1, 1])] [(0, (.float .f64 x_0)), (11, (.bool t_11))] w R
def num_near64.V1 (x_0 : Nat) (t_11 : Bool) (R : Value → World → Prop) (w : World) : Prop :=
  (cond t_11
  (R (.float .f64 x_0) w)
  (∃ x2 : Int, ∃ w1, Sem.run Try.prog (Go.callFunc math_Float64bits.id #[(.float .f64 x_0)]) w = .ok (.value (.int .u64 x2)) w1 ∧ (cond ((bAnd .u64 x2 9223372036854775808) != (0 : Int))
  (∃ x4 : Nat, ∃ w3, Sem.run Try.prog ((do eqGuard .add T_float64 (.tmp 18) (.const (.float .f64 4841369599423283200)) (.float .f64 (Op.negFloat .f64 x_0)) (.float .f64 4841369599423283200); Go.binOp .add T_float64 (.float .f64 (Op.negFloat .f64 x_0)) (.float .f64 4841369599423283200))) w1 = .ok (.float .f64 x4) w3 ∧ (∃ x6 : Nat, ∃ w5, Sem.run Try.prog ((do eqGuard .sub T_float64 (.tmp 19) (.const (.float .f64 4841369599423283200)) (.float .f64 x4) (.float .f64 4841369599423283200); Go.binOp .sub T_float64 (.float .f64 x4) (.float .f64 4841369599423283200))) w3 = .ok (.float .f64 x6) w5 ∧ (R (.float .f64 (Op.negFloat .f64 x6)) w5)))
  (∃ x8 : Nat, ∃ w7, Sem.run Try.prog ((do eqGuard .add T_float64 (.tmp 23) (.const (.float .f64 4841369599423283200)) (.float .f64 x_0) (.float .f64 4841369599423283200); Go.binOp .add T_float64 (.float .f64 x_0) (.float .f64 4841369599423283200))) w1 = .ok (.float .f64 x8) w7 ∧ (∃ x10 : Nat, ∃ w9, Sem.run Try.prog ((do eqGuard .sub T_float64 (.tmp 24) (.const (.float .f64 4841369599423283200)) (.float .f64 x8) (.float .f64 4841369599423283200); Go.binOp .sub T_float64 (.float .f64 x8) (.float .f64 4841369599423283200))) w7 = .ok (.float .f64 x10) w9 ∧ (R (.float .f64 x10) w9))))))
theorem num_near64.step1 (x_0 : Nat) (t_11 : Bool) (R : Value → World → Prop) (w : World) (h : num_near64.V1 x_0 t_11 R w) : num_near64.L1 x_0 t_11 R w :=
  seg_T good mixed Try.func103 600 false [.code (sub (bodyOf Try.f103) [1, 0, 1]), .code (sub (bodyOf Try.f103) [1, 1])] [(0, (.float .f64 x_0)), (11, (.bool t_11))] w (Eq.mp (show num_near64.V1 x_0 t_11 R w = seg Try.prog 103 27 Try.f103.results.toList num_near64.cuts R 600 false [.code (sub (bodyOf Try.f103) [1, 0, 1]), .code (sub (bodyOf Try.f103) [1, 1])] [(0, (.float .f64 x_0)), (11, (.bool t_11))] w by kernel_rfl) h)
def num_near64.V (x_0 : Nat) (R : Value → World → Prop) (w : World) : Prop :=
  (cond ((Ieee.Format.order (FloatKind.format .f64) x_0 14064741636278059008) == some .gt)
  (num_near64.L1 x_0 (!((Ieee.Format.order (FloatKind.format .f64) x_0 4841369599423283200) == some .lt)) R w)
  (num_near64.L1 x_0 true R w))
theorem num_near64.enter (x_0 : Nat) (R : Value → World → Prop) (w : World) (h : num_near64.V x_0 R w) : Runs Try.prog num_near64.id #[(.float .f64 x_0)] w R :=
  Runs.enter (c := bodyOf Try.f103) (N := 27) Try.func103 (by kernel_rfl) (by kernel_rfl) (by kernel_rfl) (seg_T good mixed Try.func103 600 false [.code (bodyOf Try.f103)] [(0, (.float .f64 x_0))] w (Eq.mp (show num_near64.V x_0 R w = seg Try.prog 103 27 Try.f103.results.toList num_near64.cuts R 600 false [.code (bodyOf Try.f103)] [(0, (.float .f64 x_0))] w by kernel_rfl) h))

/-! e2e/num.least64 -/
def num_least64.cuts : List (Nat × List Nat) := [(10, [0, 1, 5, 6])]
def num_least64.L1 (a_0 : Int) (b_1 : Int) (x_5 : Nat) (y_6 : Nat) (R : Value → World → Prop) (w : World) : Prop :=
  T Try.prog 104 30 [.code (sub (bodyOf Try.f104) [1, 1, 1, 1])] [(0, (.int .u64 a_0)), (1, (.int .u64 b_1)), (5, (.float .f64 x_5)), (6, (.float .f64 y_6))] w R
def num_least64.V1 (a_0 : Int) (b_1 : Int) (x_5 : Nat) (y_6 : Nat) (R : Value → World → Prop) (w : World) : Prop :=
  (cond ((Ieee.Format.order (FloatKind.format .f64) x_5 y_6) == some .eq)
  (R (.int .u64 (bOr .u64 a_0 b_1)) w)
  (cond ((Ieee.Format.order (FloatKind.format .f64) x_5 y_6) == some .lt)
  (R (.int .u64 a_0) w)
  (R (.int .u64 b_1) w)))
theorem num_least64.step1 (a_0 : Int) (b_1 : Int) (x_5 : Nat) (y_6 : Nat) (R : Value → World → Prop) (w : World) (h : num_least64.V1 a_0 b_1 x_5 y_6 R w) : num_least64.L1 a_0 b_1 x_5 y_6 R w :=
  seg_T good mixed Try.func104 600 false [.code (sub (bodyOf Try.f104) [1, 1, 1, 1])] [(0, (.int .u64 a_0)), (1, (.int .u64 b_1)), (5, (.float .f64 x_5)), (6, (.float .f64 y_6))] w (Eq.mp (show num_least64.V1 a_0 b_1 x_5 y_6 R w = seg Try.prog 104 30 Try.f104.results.toList num_least64.cuts R 600 false [.code (sub (bodyOf Try.f104) [1, 1, 1, 1])] [(0, (.int .u64 a_0)), (1, (.int .u64 b_1)), (5, (.float .f64 x_5)), (6, (.float .f64 y_6))] w by kernel_rfl) h)
def num_least64.V (a_0 : Int) (b_1 : Int) (R : Value → World → Prop) (w : World) : Prop :=
  (∃ x4 : Nat, ∃ w3, Sem.run Try.prog (Go.callFunc math_Float64frombits.id #[(.int .u64 a_0)]) w = .ok (.value (.float .f64 x4)) w3 ∧ (∃ x6 : Nat, ∃ w5, Sem.run Try.prog (Go.callFunc math_Float64frombits.id #[(.int .u64 b_1)]) w3 = .ok (.value (.float .f64 x6)) w5 ∧ (cond ((Ieee.Format.order (FloatKind.format .f64) x4 x4) != some .eq)
  (R (.int .u64 9221120237041090560) w5)
  (cond ((Ieee.Format.order (FloatKind.format .f64) x6 x6) != some .eq)
  (R (.int .u64 9221120237041090560) w5)
  (num_least64.L1 a_0 b_1 x4 x6 R w5)))))
theorem num_least64.enter (a_0 : Int) (b_1 : Int) (R : Value → World → Prop) (w : World) (h : num_least64.V a_0 b_1 R w) : Runs Try.prog num_least64.id #[(.int .u64 a_0), (.int .u64 b_1)] w R :=
  Runs.enter (c := bodyOf Try.f104) (N := 30) Try.func104 (by kernel_rfl) (by kernel_rfl) (by kernel_rfl) (seg_T good mixed Try.func104 600 false [.code (bodyOf Try.f104)] [(0, (.int .u64 a_0)), (1, (.int .u64 b_1))] w (Eq.mp (show num_least64.V a_0 b_1 R w = seg Try.prog 104 30 Try.f104.results.toList num_least64.cuts R 600 false [.code (bodyOf Try.f104)] [(0, (.int .u64 a_0)), (1, (.int .u64 b_1))] w by kernel_rfl) h))

/-! e2e/num.most64 -/
def num_most64.cuts : List (Nat × List Nat) := [(10, [0, 1, 5, 6])]
def num_most64.L1 (a_0 : Int) (b_1 : Int) (x_5 : Nat) (y_6 : Nat) (R : Value → World → Prop) (w : World) : Prop :=
  T Try.prog 105 30 [.code (sub (bodyOf Try.f105) [1, 1, 1, 1])] [(0, (.int .u64 a_0)), (1, (.int .u64 b_1)), (5, (.float .f64 x_5)), (6, (.float .f64 y_6))] w R
def num_most64.V1 (a_0 : Int) (b_1 : Int) (x_5 : Nat) (y_6 : Nat) (R : Value → World → Prop) (w : World) : Prop :=
  (cond ((Ieee.Format.order (FloatKind.format .f64) x_5 y_6) == some .eq)
  (R (.int .u64 (bAnd .u64 a_0 b_1)) w)
  (cond ((Ieee.Format.order (FloatKind.format .f64) x_5 y_6) == some .gt)
  (R (.int .u64 a_0) w)
  (R (.int .u64 b_1) w)))
theorem num_most64.step1 (a_0 : Int) (b_1 : Int) (x_5 : Nat) (y_6 : Nat) (R : Value → World → Prop) (w : World) (h : num_most64.V1 a_0 b_1 x_5 y_6 R w) : num_most64.L1 a_0 b_1 x_5 y_6 R w :=
  seg_T good mixed Try.func105 600 false [.code (sub (bodyOf Try.f105) [1, 1, 1, 1])] [(0, (.int .u64 a_0)), (1, (.int .u64 b_1)), (5, (.float .f64 x_5)), (6, (.float .f64 y_6))] w (Eq.mp (show num_most64.V1 a_0 b_1 x_5 y_6 R w = seg Try.prog 105 30 Try.f105.results.toList num_most64.cuts R 600 false [.code (sub (bodyOf Try.f105) [1, 1, 1, 1])] [(0, (.int .u64 a_0)), (1, (.int .u64 b_1)), (5, (.float .f64 x_5)), (6, (.float .f64 y_6))] w by kernel_rfl) h)
def num_most64.V (a_0 : Int) (b_1 : Int) (R : Value → World → Prop) (w : World) : Prop :=
  (∃ x4 : Nat, ∃ w3, Sem.run Try.prog (Go.callFunc math_Float64frombits.id #[(.int .u64 a_0)]) w = .ok (.value (.float .f64 x4)) w3 ∧ (∃ x6 : Nat, ∃ w5, Sem.run Try.prog (Go.callFunc math_Float64frombits.id #[(.int .u64 b_1)]) w3 = .ok (.value (.float .f64 x6)) w5 ∧ (cond ((Ieee.Format.order (FloatKind.format .f64) x4 x4) != some .eq)
  (R (.int .u64 9221120237041090560) w5)
  (cond ((Ieee.Format.order (FloatKind.format .f64) x6 x6) != some .eq)
  (R (.int .u64 9221120237041090560) w5)
  (num_most64.L1 a_0 b_1 x4 x6 R w5)))))
theorem num_most64.enter (a_0 : Int) (b_1 : Int) (R : Value → World → Prop) (w : World) (h : num_most64.V a_0 b_1 R w) : Runs Try.prog num_most64.id #[(.int .u64 a_0), (.int .u64 b_1)] w R :=
  Runs.enter (c := bodyOf Try.f105) (N := 30) Try.func105 (by kernel_rfl) (by kernel_rfl) (by kernel_rfl) (seg_T good mixed Try.func105 600 false [.code (bodyOf Try.f105)] [(0, (.int .u64 a_0)), (1, (.int .u64 b_1))] w (Eq.mp (show num_most64.V a_0 b_1 R w = seg Try.prog 105 30 Try.f105.results.toList num_most64.cuts R 600 false [.code (bodyOf Try.f105)] [(0, (.int .u64 a_0)), (1, (.int .u64 b_1))] w by kernel_rfl) h))

/-! e2e/numlaw.Key -/
def numlaw_Key.cuts : List (Nat × List Nat) := []
def numlaw_Key.V (f_0_1 : Int) (f_0_2 : Int) (f_0_3 : Int) (f_0_4 : Int) (f_0_5 : Int) (f_0_6 : Int) (v_1 : Int) (R : Value → World → Prop) (w : World) : Prop :=
  (letB (Array.size (World.heap w)) fun b8 => letW (World.alloc w (.cells #[(.int .i64 f_0_1), (.int .i64 f_0_2), (.int .i64 f_0_3), (.int .u64 f_0_4), (.int .u64 f_0_5), (.int .u64 f_0_6)] T_numlaw_Fmt)) fun w9 => (∃ x10 : Int, World.cell? w9 ⟨b8, 3, none⟩ = some (.int .u64 x10) ∧ (cond ((bAnd .u64 v_1 x10) != (0 : Int))
  (∃ x11 : Int, World.cell? w9 ⟨b8, 3, none⟩ = some (.int .u64 x11) ∧ (∃ x12 : Int, World.cell? w9 ⟨b8, 3, none⟩ = some (.int .u64 x12) ∧ (R (.int .u64 (IntKind.wrap .u64 (x11 - (bAndNot .u64 v_1 x12)))) w9)))
  (∃ x13 : Int, World.cell? w9 ⟨b8, 3, none⟩ = some (.int .u64 x13) ∧ (R (.int .u64 (IntKind.wrap .u64 (x13 + v_1))) w9)))))
theorem numlaw_Key.enter (f_0_1 : Int) (f_0_2 : Int) (f_0_3 : Int) (f_0_4 : Int) (f_0_5 : Int) (f_0_6 : Int) (v_1 : Int) (R : Value → World → Prop) (w : World) (h : numlaw_Key.V f_0_1 f_0_2 f_0_3 f_0_4 f_0_5 f_0_6 v_1 R w) : Runs Try.prog numlaw_Key.id #[(.agg #[(.int .i64 f_0_1), (.int .i64 f_0_2), (.int .i64 f_0_3), (.int .u64 f_0_4), (.int .u64 f_0_5), (.int .u64 f_0_6)]), (.int .u64 v_1)] w R :=
  Runs.enter (c := bodyOf Try.f110) (N := 21) Try.func110 (by kernel_rfl) (by kernel_rfl) (by kernel_rfl) (seg_T good mixed Try.func110 600 false [.code (bodyOf Try.f110)] [(0, (.agg #[(.int .i64 f_0_1), (.int .i64 f_0_2), (.int .i64 f_0_3), (.int .u64 f_0_4), (.int .u64 f_0_5), (.int .u64 f_0_6)])), (1, (.int .u64 v_1))] w (Eq.mp (show numlaw_Key.V f_0_1 f_0_2 f_0_3 f_0_4 f_0_5 f_0_6 v_1 R w = seg Try.prog 110 21 Try.f110.results.toList numlaw_Key.cuts R 600 false [.code (bodyOf Try.f110)] [(0, (.agg #[(.int .i64 f_0_1), (.int .i64 f_0_2), (.int .i64 f_0_3), (.int .u64 f_0_4), (.int .u64 f_0_5), (.int .u64 f_0_6)])), (1, (.int .u64 v_1))] w by kernel_rfl) h))

/-! e2e/numm.top -/
def numm_top.cuts : List (Nat × List Nat) := []
def numm_top.V (n_0 : Int) (R : Value → World → Prop) (w : World) : Prop :=
  (0 ≤ (IntKind.wrap .u64 (IntKind.wrap .i64 (n_0 - (1 : Int)))) ∧ (R (.int .u64 (IntKind.wrap .u64 ((1 : Int) * 2 ^ (min (Int.toNat (IntKind.wrap .u64 (IntKind.wrap .i64 (n_0 - (1 : Int))))) (IntKind.bits .u64))))) w))
theorem numm_top.enter (n_0 : Int) (R : Value → World → Prop) (w : World) (h : numm_top.V n_0 R w) : Runs Try.prog numm_top.id #[(.int .i64 n_0)] w R :=
  Runs.enter (c := bodyOf Try.f111) (N := 7) Try.func111 (by kernel_rfl) (by kernel_rfl) (by kernel_rfl) (seg_T good mixed Try.func111 600 false [.code (bodyOf Try.f111)] [(0, (.int .i64 n_0))] w (Eq.mp (show numm_top.V n_0 R w = seg Try.prog 111 7 Try.f111.results.toList numm_top.cuts R 600 false [.code (bodyOf Try.f111)] [(0, (.int .i64 n_0))] w by kernel_rfl) h))

/-! e2e/numm.mask -/
def numm_mask.cuts : List (Nat × List Nat) := []
def numm_mask.V (n_0 : Int) (R : Value → World → Prop) (w : World) : Prop :=
  (cond (n_0 == (32 : Int))
  (R (.int .u64 4294967295) w)
  (R (.int .u64 18446744073709551615) w))
theorem numm_mask.enter (n_0 : Int) (R : Value → World → Prop) (w : World) (h : numm_mask.V n_0 R w) : Runs Try.prog numm_mask.id #[(.int .i64 n_0)] w R :=
  Runs.enter (c := bodyOf Try.f112) (N := 5) Try.func112 (by kernel_rfl) (by kernel_rfl) (by kernel_rfl) (seg_T good mixed Try.func112 600 false [.code (bodyOf Try.f112)] [(0, (.int .i64 n_0))] w (Eq.mp (show numm_mask.V n_0 R w = seg Try.prog 112 5 Try.f112.results.toList numm_mask.cuts R 600 false [.code (bodyOf Try.f112)] [(0, (.int .i64 n_0))] w by kernel_rfl) h))

/-! e2e/numm.isNaN -/
def numm_isNaN.cuts : List (Nat × List Nat) := []
def numm_isNaN.V (f_0 : Int) (v_1 : Int) (R : Value → World → Prop) (w : World) : Prop :=
  (Runs Try.prog numm_top.id #[(.int .i64 f_0)] w fun r3 w4 => (∃ x5 : Int, (r3 = (.int .u64 x5) ∧ (Runs Try.prog numm_infOf.id #[(.int .i64 f_0)] w4 fun r6 w7 => (∃ x8 : Int, (r6 = (.int .u64 x8) ∧ (R (.bool (decide ((bAnd .u64 v_1 (IntKind.wrap .u64 (x5 - (1 : Int)))) > x8))) w7)))))))
theorem numm_isNaN.enter (f_0 : Int) (v_1 : Int) (R : Value → World → Prop) (w : World) (h : numm_isNaN.V f_0 v_1 R w) : Runs Try.prog numm_isNaN.id #[(.int .i64 f_0), (.int .u64 v_1)] w R :=
  Runs.enter (c := bodyOf Try.f113) (N := 17) Try.func113 (by kernel_rfl) (by kernel_rfl) (by kernel_rfl) (seg_T good mixed Try.func113 600 false [.code (bodyOf Try.f113)] [(0, (.int .i64 f_0)), (1, (.int .u64 v_1))] w (Eq.mp (show numm_isNaN.V f_0 v_1 R w = seg Try.prog 113 17 Try.f113.results.toList numm_isNaN.cuts R 600 false [.code (bodyOf Try.f113)] [(0, (.int .i64 f_0)), (1, (.int .u64 v_1))] w by kernel_rfl) h))

/-! e2e/numm.isZero -/
def numm_isZero.cuts : List (Nat × List Nat) := []
def numm_isZero.V (f_0 : Int) (v_1 : Int) (R : Value → World → Prop) (w : World) : Prop :=
  (Runs Try.prog numm_top.id #[(.int .i64 f_0)] w fun r3 w4 => (∃ x5 : Int, (r3 = (.int .u64 x5) ∧ (R (.bool ((bAnd .u64 v_1 (IntKind.wrap .u64 (x5 - (1 : Int)))) == (0 : Int))) w4))))
theorem numm_isZero.enter (f_0 : Int) (v_1 : Int) (R : Value → World → Prop) (w : World) (h : numm_isZero.V f_0 v_1 R w) : Runs Try.prog numm_isZero.id #[(.int .i64 f_0), (.int .u64 v_1)] w R :=
  Runs.enter (c := bodyOf Try.f114) (N := 11) Try.func114 (by kernel_rfl) (by kernel_rfl) (by kernel_rfl) (seg_T good mixed Try.func114 600 false [.code (bodyOf Try.f114)] [(0, (.int .i64 f_0)), (1, (.int .u64 v_1))] w (Eq.mp (show numm_isZero.V f_0 v_1 R w = seg Try.prog 114 11 Try.f114.results.toList numm_isZero.cuts R 600 false [.code (bodyOf Try.f114)] [(0, (.int .i64 f_0)), (1, (.int .u64 v_1))] w by kernel_rfl) h))

/-! e2e/numm.key -/
def numm_key.cuts : List (Nat × List Nat) := []
def numm_key.V (f_0 : Int) (v_1 : Int) (R : Value → World → Prop) (w : World) : Prop :=
  (Runs Try.prog numm_top.id #[(.int .i64 f_0)] w fun r3 w4 => (∃ x5 : Int, (r3 = (.int .u64 x5) ∧ (cond (decide (v_1 ≥ x5))
  (Runs Try.prog numm_mask.id #[(.int .i64 f_0)] w4 fun r6 w7 => (∃ x8 : Int, (r6 = (.int .u64 x8) ∧ (R (.int .u64 (IntKind.wrap .u64 (x8 - v_1))) w7))))
  (Runs Try.prog numm_top.id #[(.int .i64 f_0)] w4 fun r9 w10 => (∃ x11 : Int, (r9 = (.int .u64 x11) ∧ (R (.int .u64 (IntKind.wrap .u64 (v_1 + x11))) w10))))))))
theorem numm_key.enter (f_0 : Int) (v_1 : Int) (R : Value → World → Prop) (w : World) (h : numm_key.V f_0 v_1 R w) : Runs Try.prog numm_key.id #[(.int .i64 f_0), (.int .u64 v_1)] w R :=
  Runs.enter (c := bodyOf Try.f115) (N := 17) Try.func115 (by kernel_rfl) (by kernel_rfl) (by kernel_rfl) (seg_T good mixed Try.func115 600 false [.code (bodyOf Try.f115)] [(0, (.int .i64 f_0)), (1, (.int .u64 v_1))] w (Eq.mp (show numm_key.V f_0 v_1 R w = seg Try.prog 115 17 Try.f115.results.toList numm_key.cuts R 600 false [.code (bodyOf Try.f115)] [(0, (.int .i64 f_0)), (1, (.int .u64 v_1))] w by kernel_rfl) h))

/-! e2e/numm.minus -/
def numm_minus.cuts : List (Nat × List Nat) := []
def numm_minus.V (n_0 : Int) (v_1 : Int) (R : Value → World → Prop) (w : World) : Prop :=
  (Runs Try.prog numm_mask.id #[(.int .i64 n_0)] w fun r3 w4 => (∃ x5 : Int, (r3 = (.int .u64 x5) ∧ (R (.int .u64 (bAnd .u64 (IntKind.wrap .u64 ((IntKind.wrap .u64 (x5 - v_1)) + (1 : Int))) x5)) w4))))
theorem numm_minus.enter (n_0 : Int) (v_1 : Int) (R : Value → World → Prop) (w : World) (h : numm_minus.V n_0 v_1 R w) : Runs Try.prog numm_minus.id #[(.int .i64 n_0), (.int .u64 v_1)] w R :=
  Runs.enter (c := bodyOf Try.f116) (N := 14) Try.func116 (by kernel_rfl) (by kernel_rfl) (by kernel_rfl) (seg_T good mixed Try.func116 600 false [.code (bodyOf Try.f116)] [(0, (.int .i64 n_0)), (1, (.int .u64 v_1))] w (Eq.mp (show numm_minus.V n_0 v_1 R w = seg Try.prog 116 14 Try.f116.results.toList numm_minus.cuts R 600 false [.code (bodyOf Try.f116)] [(0, (.int .i64 n_0)), (1, (.int .u64 v_1))] w by kernel_rfl) h))

/-! e2e/numm.divS -/
def numm_divS.cuts : List (Nat × List Nat) := []
def numm_divS.V (quo_0 : Bool) (n_1 : Int) (a_2 : Int) (b_3 : Int) (R : Value → World → Prop) (w : World) : Prop :=
  (cond (b_3 == (0 : Int))
  (R (.tuple #[(.int .u64 0), (.int .i64 39)]) w)
  (Runs Try.prog numm_top.id #[(.int .i64 n_1)] w fun r5 w6 => (∃ x7 : Int, (r5 = (.int .u64 x7) ∧ (Runs Try.prog numm_mag.id #[(.int .i64 n_1), (.int .u64 a_2)] w6 fun r8 w9 => (∃ x10 : Int, (r8 = (.int .u64 x10) ∧ (Runs Try.prog numm_mag.id #[(.int .i64 n_1), (.int .u64 b_3)] w9 fun r11 w12 => (∃ x13 : Int, (r11 = (.int .u64 x13) ∧ (cond quo_0
  ((IntKind.u64 = IntKind.u64) ∧ x13 ≠ 0 ∧ (cond ((decide (a_2 ≥ x7)) == (decide (b_3 ≥ x7)))
  (cond (decide ((IntKind.wrap .u64 (Int.tdiv x10 x13)) ≥ x7))
  (R (.tuple #[(.int .u64 0), (.int .i64 40)]) w12)
  (R (.tuple #[(.int .u64 (IntKind.wrap .u64 (Int.tdiv x10 x13))), (.int .i64 0)]) w12))
  (Runs Try.prog numm_minus.id #[(.int .i64 n_1), (.int .u64 (IntKind.wrap .u64 (Int.tdiv x10 x13)))] w12 fun r14 w15 => (∃ x16 : Int, (r14 = (.int .u64 x16) ∧ (R (.tuple #[(.int .u64 x16), (.int .i64 0)]) w15))))))
  ((IntKind.u64 = IntKind.u64) ∧ x13 ≠ 0 ∧ (cond (decide (a_2 ≥ x7))
  (Runs Try.prog numm_minus.id #[(.int .i64 n_1), (.int .u64 (Int.tmod x10 x13))] w12 fun r17 w18 => (∃ x19 : Int, (r17 = (.int .u64 x19) ∧ (R (.tuple #[(.int .u64 x19), (.int .i64 0)]) w18))))
  (R (.tuple #[(.int .u64 (Int.tmod x10 x13)), (.int .i64 0)]) w12))))))))))))))
theorem numm_divS.enter (quo_0 : Bool) (n_1 : Int) (a_2 : Int) (b_3 : Int) (R : Value → World → Prop) (w : World) (h : numm_divS.V quo_0 n_1 a_2 b_3 R w) : Runs Try.prog numm_divS.id #[(.bool quo_0), (.int .i64 n_1), (.int .u64 a_2), (.int .u64 b_3)] w R :=
  Runs.enter (c := bodyOf Try.f117) (N := 53) Try.func117 (by kernel_rfl) (by kernel_rfl) (by kernel_rfl) (seg_T good mixed Try.func117 600 false [.code (bodyOf Try.f117)] [(0, (.bool quo_0)), (1, (.int .i64 n_1)), (2, (.int .u64 a_2)), (3, (.int .u64 b_3))] w (Eq.mp (show numm_divS.V quo_0 n_1 a_2 b_3 R w = seg Try.prog 117 53 Try.f117.results.toList numm_divS.cuts R 600 false [.code (bodyOf Try.f117)] [(0, (.bool quo_0)), (1, (.int .i64 n_1)), (2, (.int .u64 a_2)), (3, (.int .u64 b_3))] w by kernel_rfl) h))

/-! e2e/numm.sqrt -/
def numm_sqrt.cuts : List (Nat × List Nat) := [(2, [0, 1]), (4, [0, 1, 5, 6, 7, 8]), (22, [0, 7, 8]), (28, [0, 7, 8]), (30, [0, 7, 8, 9]), (32, [0, 7, 8, 9, 10]), (35, [0, 7, 8, 9, 10, 11]), (36, [0, 7, 8, 9, 10, 11]), (40, [0, 7, 8, 9, 10, 11, 12]), (44, [0, 7, 8, 9, 10, 11, 12]), (46, [0, 7, 8, 9, 10, 11]), (48, [0, 7, 8, 9, 10, 11, 13]), (50, [0, 7, 8, 9, 10, 11, 13])]
def numm_sqrt.L1 (f_0 : Int) (a_1 : Int) (R : Value → World → Prop) (w : World) : Prop :=
  T Try.prog 118 86 [.code (sub (bodyOf Try.f118) [1])] [(0, (.int .i64 f_0)), (1, (.int .u64 a_1))] w R
def numm_sqrt.L2 (f_0 : Int) (a_1 : Int) (neg_5 : Bool) (k_6 : Int) (m_7 : Int) (e_8 : Int) (R : Value → World → Prop) (w : World) : Prop :=
  T Try.prog 118 86 [.code (sub (bodyOf Try.f118) [1, 1])] [(0, (.int .i64 f_0)), (1, (.int .u64 a_1)), (5, (.bool neg_5)), (6, (.int .i64 k_6)), (7, (.int .u64 m_7)), (8, (.int .i64 e_8))] w R
def numm_sqrt.L3 (f_0 : Int) (m_7 : Int) (e_8 : Int) (R : Value → World → Prop) (w : World) : Prop :=
  T Try.prog 118 86 [.code (sub (bodyOf Try.f118) [1, 1, 1, 1, 1, 1, 1])] [(0, (.int .i64 f_0)), (7, (.int .u64 m_7)), (8, (.int .i64 e_8))] w R
def numm_sqrt.L4 (f_0 : Int) (m_7 : Int) (e_8 : Int) (R : Value → World → Prop) (w : World) : Prop :=
  T Try.prog 118 86 [.code (sub (bodyOf Try.f118) [1, 1, 1, 1, 1, 1, 1, 1])] [(0, (.int .i64 f_0)), (7, (.int .u64 m_7)), (8, (.int .i64 e_8))] w R
def numm_sqrt.L5 (f_0 : Int) (m_7 : Int) (e_8 : Int) (root_9 : Int) (R : Value → World → Prop) (w : World) : Prop :=
  T Try.prog 118 86 [.code (sub (bodyOf Try.f118) [1, 1, 1, 1, 1, 1, 1, 1, 1])] [(0, (.int .i64 f_0)), (7, (.int .u64 m_7)), (8, (.int .i64 e_8)), (9, (.int .u64 root_9))] w R
def numm_sqrt.L6 (f_0 : Int) (m_7 : Int) (e_8 : Int) (root_9 : Int) (rem_10 : Int) (R : Value → World → Prop) (w : World) : Prop :=
  T Try.prog 118 86 [.code (sub (bodyOf Try.f118) [1, 1, 1, 1, 1, 1, 1, 1, 1, 1])] [(0, (.int .i64 f_0)), (7, (.int .u64 m_7)), (8, (.int .i64 e_8)), (9, (.int .u64 root_9)), (10, (.int .u64 rem_10))] w R
def numm_sqrt.L7 (f_0 : Int) (m_7 : Int) (e_8 : Int) (root_9 : Int) (rem_10 : Int) (i_11 : Int) (R : Value → World → Prop) (w : World) : Prop :=
  T Try.prog 118 86 [.inLoop (sub (bodyOf Try.f118) [1, 1, 1, 1, 1, 1, 1, 1, 1, 1, 0, 1, 0, 0]), .inBlock 0, .code (sub (bodyOf Try.f118) [1, 1, 1, 1, 1, 1, 1, 1, 1, 1, 1])] [(0, (.int .i64 f_0)), (7, (.int .u64 m_7)), (8, (.int .i64 e_8)), (9, (.int .u64 root_9)), (10, (.int .u64 rem_10)), (11, (.int .i64 i_11))] w R
def numm_sqrt.L8 (f_0 : Int) (m_7 : Int) (e_8 : Int) (root_9 : Int) (rem_10 : Int) (i_11 : Int) (pair_12 : Int) (R : Value → World → Prop) (w : World) : Prop :=
  T Try.prog 118 86 [.code (sub (bodyOf Try.f118) [1, 1, 1, 1, 1, 1, 1, 1, 1, 1, 0, 1, 0, 0, 1, 0, 0, 1]), .inBlock 1, .code (sub (bodyOf Try.f118) [1, 1, 1, 1, 1, 1, 1, 1, 1, 1, 0, 1, 0, 0, 1, 1]), .inLoop (sub (bodyOf Try.f118) [1, 1, 1, 1, 1, 1, 1, 1, 1, 1, 0, 1, 0, 0]), .inBlock 0, .code (sub (bodyOf Try.f118) [1, 1, 1, 1, 1, 1, 1, 1, 1, 1, 1])] [(0, (.int .i64 f_0)), (7, (.int .u64 m_7)), (8, (.int .i64 e_8)), (9, (.int .u64 root_9)), (10, (.int .u64 rem_10)), (11, (.int .i64 i_11)), (12, (.int .u64 pair_12))] w R
def numm_sqrt.L9 (f_0 : Int) (m_7 : Int) (e_8 : Int) (root_9 : Int) (rem_10 : Int) (i_11 : Int) (pair_12 : Int) (R : Value → World → Prop) (w : World) : Prop :=
  T Try.prog 118 86 [.code (sub (bodyOf Try.f118) [1, 1, 1, 1, 1, 1, 1, 1, 1, 1, 0, 1, 0, 0, 1, 0, 0, 1, 1]), .inBlock 1, .code (sub (bodyOf Try.f118) [1, 1, 1, 1, 1, 1, 1, 1, 1, 1, 0, 1, 0, 0, 1, 1]), .inLoop (sub (bodyOf Try.f118) [1, 1, 1, 1, 1, 1, 1, 1, 1, 1, 0, 1, 0, 0]), .inBlock 0, .code (sub (bodyOf Try.f118) [1, 1, 1, 1, 1, 1, 1, 1, 1, 1, 1])] [(0, (.int .i64 f_0)), (7, (.int .u64 m_7)), (8, (.int .i64 e_8)), (9, (.int .u64 root_9)), (10, (.int .u64 rem_10)), (11, (.int .i64 i_11)), (12, (.int .u64 pair_12))] w R
def numm_sqrt.L10 (f_0 : Int) (m_7 : Int) (e_8 : Int) (root_9 : Int) (rem_10 : Int) (i_11 : Int) (R : Value → World → Prop) (w : World) : Prop :=
  T Try.prog 118 86 [.code (sub (bodyOf Try.f118) [1, 1, 1, 1, 1, 1, 1, 1, 1, 1, 0, 1, 0, 0, 1, 0, 0, 1, 1, 1]), .inBlock 1, .code (sub (bodyOf Try.f118) [1, 1, 1, 1, 1, 1, 1, 1, 1, 1, 0, 1, 0, 0, 1, 1]), .inLoop (sub (bodyOf Try.f118) [1, 1, 1, 1, 1, 1, 1, 1, 1, 1, 0, 1, 0, 0]), .inBlock 0, .code (sub (bodyOf Try.f118) [1, 1, 1, 1, 1, 1, 1, 1, 1, 1, 1])] [(0, (.int .i64 f_0)), (7, (.int .u64 m_7)), (8, (.int .i64 e_8)), (9, (.int .u64 root_9)), (10, (.int .u64 rem_10)), (11, (.int .i64 i_11))] w R
def numm_sqrt.L11 (f_0 : Int) (m_7 : Int) (e_8 : Int) (root_9 : Int) (rem_10 : Int) (i_11 : Int) (t_13 : Int) (R : Value → World → Prop) (w : World) : Prop :=
  T Try.prog 118 86 [.code (sub (bodyOf Try.f118) [1, 1, 1, 1, 1, 1, 1, 1, 1, 1, 0, 1, 0, 0, 1, 0, 0, 1, 1, 1, 1]), .inBlock 1, .code (sub (bodyOf Try.f118) [1, 1, 1, 1, 1, 1, 1, 1, 1, 1, 0, 1, 0, 0, 1, 1]), .inLoop (sub (bodyOf Try.f118) [1, 1, 1, 1, 1, 1, 1, 1, 1, 1, 0, 1, 0, 0]), .inBlock 0, .code (sub (bodyOf Try.f118) [1, 1, 1, 1, 1, 1, 1, 1, 1, 1, 1])] [(0, (.int .i64 f_0)), (7, (.int .u64 m_7)), (8, (.int .i64 e_8)), (9, (.int .u64 root_9)), (10, (.int .u64 rem_10)), (11, (.int .i64 i_11)), (13, (.int .u64 t_13))] w R
def numm_sqrt.L12 (f_0 : Int) (m_7 : Int) (e_8 : Int) (root_9 : Int) (rem_10 : Int) (i_11 : Int) (t_13 : Int) (R : Value → World → Prop) (w : World) : Prop :=
  T Try.prog 118 86 [.code (sub (bodyOf Try.f118) [1, 1, 1, 1, 1, 1, 1, 1, 1, 1, 0, 1, 0, 0, 1, 0, 0, 1, 1, 1, 1, 1]), .inBlock 1, .code (sub (bodyOf Try.f118) [1, 1, 1, 1, 1, 1, 1, 1, 1, 1, 0, 1, 0, 0, 1, 1]), .inLoop (sub (bodyOf Try.f118) [1, 1, 1, 1, 1, 1, 1, 1, 1, 1, 0, 1, 0, 0]), .inBlock 0, .code (sub (bodyOf Try.f118) [1, 1, 1, 1, 1, 1, 1, 1, 1, 1, 1])] [(0, (.int .i64 f_0)), (7, (.int .u64 m_7)), (8, (.int .i64 e_8)), (9, (.int .u64 root_9)), (10, (.int .u64 rem_10)), (11, (.int .i64 i_11)), (13, (.int .u64 t_13))] w R
def numm_sqrt.L13 (f_0 : Int) (m_7 : Int) (e_8 : Int) (root_9 : Int) (rem_10 : Int) (i_11 : Int) (R : Value → World → Prop) (w : World) : Prop :=
  T Try.prog 118 86 [.code (sub (bodyOf Try.f118) [1, 1, 1, 1, 1, 1, 1, 1, 1, 1, 0, 1, 0, 0, 1, 1]), .inLoop (sub (bodyOf Try.f118) [1, 1, 1, 1, 1, 1, 1, 1, 1, 1, 0, 1, 0, 0]), .inBlock 0, .code (sub (bodyOf Try.f118) [1, 1, 1, 1, 1, 1, 1, 1, 1, 1, 1])] [(0, (.int .i64 f_0)), (7, (.int .u64 m_7)), (8, (.int .i64 e_8)), (9, (.int .u64 root_9)), (10, (.int .u64 rem_10)), (11, (.int .i64 i_11))] w R
def numm_sqrt.V1 (f_0 : Int) (a_1 : Int) (R : Value → World → Prop) (w : World) : Prop :=
  (Runs Try.prog numm_unpack.id #[(.int .i64 f_0), (.int .u64 a_1)] w fun r1 w2 => (∃ x3 : Bool, ∃ x4 : Int, ∃ x5 : Int, ∃ x6 : Int, (r1 = (.tuple #[(.bool x3), (.int .i64 x4), (.int .u64 x5), (.int .i64 x6)]) ∧ (numm_sqrt.L2 f_0 a_1 x3 x4 x5 x6 R w2))))
theorem numm_sqrt.step1 (f_0 : Int) (a_1 : Int) (R : Value → World → Prop) (w : World) (h : numm_sqrt.V1 f_0 a_1 R w) : numm_sqrt.L1 f_0 a_1 R w :=
  seg_T good mixed Try.func118 600 false [.code (sub (bodyOf Try.f118) [1])] [(0, (.int .i64 f_0)), (1, (.int .u64 a_1))] w (Eq.mp (show numm_sqrt.V1 f_0 a_1 R w = seg Try.prog 118 86 Try.f118.results.toList numm_sqrt.cuts R 600 false [.code (sub (bodyOf Try.f118) [1])] [(0, (.int .i64 f_0)), (1, (.int .u64 a_1))] w by kernel_rfl) h)
def numm_sqrt.V2 (f_0 : Int) (a_1 : Int) (neg_5 : Bool) (k_6 : Int) (m_7 : Int) (e_8 : Int) (R : Value → World → Prop) (w : World) : Prop :=
  (cond (k_6 == (3 : Int))
  (Runs Try.prog numm_canon.id #[(.int .i64 f_0)] w fun r1 w2 => (∃ x3 : Int, (r1 = (.int .u64 x3) ∧ (R (.int .u64 x3) w2))))
  (cond (k_6 == (0 : Int))
  (R (.int .u64 a_1) w)
  (cond neg_5
  (Runs Try.prog numm_canon.id #[(.int .i64 f_0)] w fun r4 w5 => (∃ x6 : Int, (r4 = (.int .u64 x6) ∧ (R (.int .u64 x6) w5))))
  (cond (k_6 == (2 : Int))
  (R (.int .u64 a_1) w)
  (Runs Try.prog numm_lift.id #[(.int .u64 m_7), (.int .i64 e_8), (.int .i64 54)] w fun r7 w8 => (∃ x9 : Int, ∃ x10 : Int, (r7 = (.tuple #[(.int .u64 x9), (.int .i64 x10)]) ∧ (numm_sqrt.L3 f_0 x9 x10 R w8))))))))
theorem numm_sqrt.step2 (f_0 : Int) (a_1 : Int) (neg_5 : Bool) (k_6 : Int) (m_7 : Int) (e_8 : Int) (R : Value → World → Prop) (w : World) (h : numm_sqrt.V2 f_0 a_1 neg_5 k_6 m_7 e_8 R w) : numm_sqrt.L2 f_0 a_1 neg_5 k_6 m_7 e_8 R w :=
  seg_T good mixed Try.func118 600 false [.code (sub (bodyOf Try.f118) [1, 1])] [(0, (.int .i64 f_0)), (1, (.int .u64 a_1)), (5, (.bool neg_5)), (6, (.int .i64 k_6)), (7, (.int .u64 m_7)), (8, (.int .i64 e_8))] w (Eq.mp (show numm_sqrt.V2 f_0 a_1 neg_5 k_6 m_7 e_8 R w = seg Try.prog 118 86 Try.f118.results.toList numm_sqrt.cuts R 600 false [.code (sub (bodyOf Try.f118) [1, 1])] [(0, (.int .i64 f_0)), (1, (.int .u64 a_1)), (5, (.bool neg_5)), (6, (.int .i64 k_6)), (7, (.int .u64 m_7)), (8, (.int .i64 e_8))] w by kernel_rfl) h)
def numm_sqrt.V3 (f_0 : Int) (m_7 : Int) (e_8 : Int) (R : Value → World → Prop) (w : World) : Prop :=
  (cond ((Int.tmod e_8 2) != (0 : Int))
  (numm_sqrt.L4 f_0 (IntKind.wrap .u64 (m_7 * 2 ^ (1 : Nat))) (IntKind.wrap .i64 (e_8 - (1 : Int))) R w)
  (numm_sqrt.L4 f_0 m_7 e_8 R w))
theorem numm_sqrt.step3 (f_0 : Int) (m_7 : Int) (e_8 : Int) (R : Value → World → Prop) (w : World) (h : numm_sqrt.V3 f_0 m_7 e_8 R w) : numm_sqrt.L3 f_0 m_7 e_8 R w :=
  seg_T good mixed Try.func118 600 false [.code (sub (bodyOf Try.f118) [1, 1, 1, 1, 1, 1, 1])] [(0, (.int .i64 f_0)), (7, (.int .u64 m_7)), (8, (.int .i64 e_8))] w (Eq.mp (show numm_sqrt.V3 f_0 m_7 e_8 R w = seg Try.prog 118 86 Try.f118.results.toList numm_sqrt.cuts R 600 false [.code (sub (bodyOf Try.f118) [1, 1, 1, 1, 1, 1, 1])] [(0, (.int .i64 f_0)), (7, (.int .u64 m_7)), (8, (.int .i64 e_8))] w by kernel_rfl) h)
def numm_sqrt.V4 (f_0 : Int) (m_7 : Int) (e_8 : Int) (R : Value → World → Prop) (w : World) : Prop :=
  (numm_sqrt.L5 f_0 m_7 e_8 0 R w)
theorem numm_sqrt.step4 (f_0 : Int) (m_7 : Int) (e_8 : Int) (R : Value → World → Prop) (w : World) (h : numm_sqrt.V4 f_0 m_7 e_8 R w) : numm_sqrt.L4 f_0 m_7 e_8 R w :=
  seg_T good mixed Try.func118 600 false [.code (sub (bodyOf Try.f118) [1, 1, 1, 1, 1, 1, 1, 1])] [(0, (.int .i64 f_0)), (7, (.int .u64 m_7)), (8, (.int .i64 e_8))] w (Eq.mp (show numm_sqrt.V4 f_0 m_7 e_8 R w = seg Try.prog 118 86 Try.f118.results.toList numm_sqrt.cuts R 600 false [.code (sub (bodyOf Try.f118) [1, 1, 1, 1, 1, 1, 1, 1])] [(0, (.int .i64 f_0)), (7, (.int .u64 m_7)), (8, (.int .i64 e_8))] w by kernel_rfl) h)
def numm_sqrt.V5 (f_0 : Int) (m_7 : Int) (e_8 : Int) (root_9 : Int) (R : Value → World → Prop) (w : World) : Prop :=
  (numm_sqrt.L6 f_0 m_7 e_8 root_9 0 R w)
theorem numm_sqrt.step5 (f_0 : Int) (m_7 : Int) (e_8 : Int) (root_9 : Int) (R : Value → World → Prop) (w : World) (h : numm_sqrt.V5 f_0 m_7 e_8 root_9 R w) : numm_sqrt.L5 f_0 m_7 e_8 root_9 R w :=
  seg_T good mixed Try.func118 600 false [.code (sub (bodyOf Try.f118) [1, 1, 1, 1, 1, 1, 1, 1, 1])] [(0, (.int .i64 f_0)), (7, (.int .u64 m_7)), (8, (.int .i64 e_8)), (9, (.int .u64 root_9))] w (Eq.mp (show numm_sqrt.V5 f_0 m_7 e_8 root_9 R w = seg Try.prog 118 86 Try.f118.results.toList numm_sqrt.cuts R 600 false [.code (sub (bodyOf Try.f118) [1, 1, 1, 1, 1, 1, 1, 1, 1])] [(0, (.int .i64 f_0)), (7, (.int .u64 m_7)), (8, (.int .i64 e_8)), (9, (.int .u64 root_9))] w by kernel_rfl) h)
def numm_sqrt.V6 (f_0 : Int) (m_7 : Int) (e_8 : Int) (root_9 : Int) (rem_10 : Int) (R : Value → World → Prop) (w : World) : Prop :=
  (numm_sqrt.L7 f_0 m_7 e_8 root_9 rem_10 0 R w)
theorem numm_sqrt.step6 (f_0 : Int) (m_7 : Int) (e_8 : Int) (root_9 : Int) (rem_10 : Int) (R : Value → World → Prop) (w : World) (h : numm_sqrt.V6 f_0 m_7 e_8 root_9 rem_10 R w) : numm_sqrt.L6 f_0 m_7 e_8 root_9 rem_10 R w :=
  seg_T good mixed Try.func118 600 false [.code (sub (bodyOf Try.f118) [1, 1, 1, 1, 1, 1, 1, 1, 1, 1])] [(0, (.int .i64 f_0)), (7, (.int .u64 m_7)), (8, (.int .i64 e_8)), (9, (.int .u64 root_9)), (10, (.int .u64 rem_10))] w (Eq.mp (show numm_sqrt.V6 f_0 m_7 e_8 root_9 rem_10 R w = seg Try.prog 118 86 Try.f118.results.toList numm_sqrt.cuts R 600 false [.code (sub (bodyOf Try.f118) [1, 1, 1, 1, 1, 1, 1, 1, 1, 1])] [(0, (.int .i64 f_0)), (7, (.int .u64 m_7)), (8, (.int .i64 e_8)), (9, (.int .u64 root_9)), (10, (.int .u64 rem_10))] w by kernel_rfl) h)
def numm_sqrt.V7 (f_0 : Int) (m_7 : Int) (e_8 : Int) (root_9 : Int) (rem_10 : Int) (i_11 : Int) (R : Value → World → Prop) (w : World) : Prop :=
  (cond (decide (i_11 < (56 : Int)))
  (numm_sqrt.L8 f_0 m_7 e_8 root_9 rem_10 i_11 0 R w)
  (Runs Try.prog numm_round.id #[(.int .i64 f_0), (.bool false), (.int .u64 root_9), (.int .i64 (IntKind.wrap .i64 (Int.tdiv (IntKind.wrap .i64 (e_8 - (56 : Int))) 2))), (.bool (rem_10 != (0 : Int)))] w fun r8 w9 => (∃ x10 : Int, (r8 = (.int .u64 x10) ∧ (R (.int .u64 x10) w9)))))
theorem numm_sqrt.step7 (f_0 : Int) (m_7 : Int) (e_8 : Int) (root_9 : Int) (rem_10 : Int) (i_11 : Int) (R : Value → World → Prop) (w : World) (h : numm_sqrt.V7 f_0 m_7 e_8 root_9 rem_10 i_11 R w) : numm_sqrt.L7 f_0 m_7 e_8 root_9 rem_10 i_11 R w :=
  seg_T good mixed Try.func118 600 false [.inLoop (sub (bodyOf Try.f118) [1, 1, 1, 1, 1, 1, 1, 1, 1, 1, 0, 1, 0, 0]), .inBlock 0, .code (sub (bodyOf Try.f118) [1, 1, 1, 1, 1, 1, 1, 1, 1, 1, 1])] [(0, (.int .i64 f_0)), (7, (.int .u64 m_7)), (8, (.int .i64 e_8)), (9, (.int .u64 root_9)), (10, (.int .u64 rem_10)), (11, (.int .i64 i_11))] w (Eq.mp (show numm_sqrt.V7 f_0 m_7 e_8 root_9 rem_10 i_11 R w = seg Try.prog 118 86 Try.f118.results.toList numm_sqrt.cuts R 600 false [.inLoop (sub (bodyOf Try.f118) [1, 1, 1, 1, 1, 1, 1, 1, 1, 1, 0, 1, 0, 0]), .inBlock 0, .code (sub (bodyOf Try.f118) [1, 1, 1, 1, 1, 1, 1, 1, 1, 1, 1])] [(0, (.int .i64 f_0)), (7, (.int .u64 m_7)), (8, (.int .i64 e_8)), (9, (.int .u64 root_9)), (10, (.int .u64 rem_10)), (11, (.int .i64 i_11))] w by kernel_rfl) h)
def numm_sqrt.V8 (f_0 : Int) (m_7 : Int) (e_8 : Int) (root_9 : Int) (rem_10 : Int) (i_11 : Int) (pair_12 : Int) (R : Value → World → Prop) (w : World) : Prop :=
  (cond (decide (i_11 < (28 : Int)))
  (0 ≤ (IntKind.wrap .u64 (IntKind.wrap .i64 ((54 : Int) - (IntKind.wrap .i64 ((2 : Int) * i_11))))) ∧ (numm_sqrt.L9 f_0 m_7 e_8 root_9 rem_10 i_11 (bAnd .u64 (Int.fdiv m_7 (2 ^ (min (Int.toNat (IntKind.wrap .u64 (IntKind.wrap .i64 ((54 : Int) - (IntKind.wrap .i64 ((2 : Int) * i_11)))))) (IntKind.bits .u64)))) 3) R w))
  (numm_sqrt.L9 f_0 m_7 e_8 root_9 rem_10 i_11 pair_12 R w))
theorem numm_sqrt.step8 (f_0 : Int) (m_7 : Int) (e_8 : Int) (root_9 : Int) (rem_10 : Int) (i_11 : Int) (pair_12 : Int) (R : Value → World → Prop) (w : World) (h : numm_sqrt.V8 f_0 m_7 e_8 root_9 rem_10 i_11 pair_12 R w) : numm_sqrt.L8 f_0 m_7 e_8 root_9 rem_10 i_11 pair_12 R w :=
  seg_T good mixed Try.func118 600 false [.code (sub (bodyOf Try.f118) [1, 1, 1, 1, 1, 1, 1, 1, 1, 1, 0, 1, 0, 0, 1, 0, 0, 1]), .inBlock 1, .code (sub (bodyOf Try.f118) [1, 1, 1, 1, 1, 1, 1, 1, 1, 1, 0, 1, 0, 0, 1, 1]), .inLoop (sub (bodyOf Try.f118) [1, 1, 1, 1, 1, 1, 1, 1, 1, 1, 0, 1, 0, 0]), .inBlock 0, .code (sub (bodyOf Try.f118) [1, 1, 1, 1, 1, 1, 1, 1, 1, 1, 1])] [(0, (.int .i64 f_0)), (7, (.int .u64 m_7)), (8, (.int .i64 e_8)), (9, (.int .u64 root_9)), (10, (.int .u64 rem_10)), (11, (.int .i64 i_11)), (12, (.int .u64 pair_12))] w (Eq.mp (show numm_sqrt.V8 f_0 m_7 e_8 root_9 rem_10 i_11 pair_12 R w = seg Try.prog 118 86 Try.f118.results.toList numm_sqrt.cuts R 600 false [.code (sub (bodyOf Try.f118) [1, 1, 1, 1, 1, 1, 1, 1, 1, 1, 0, 1, 0, 0, 1, 0, 0, 1]), .inBlock 1, .code (sub (bodyOf Try.f118) [1, 1, 1, 1, 1, 1, 1, 1, 1, 1, 0, 1, 0, 0, 1, 1]), .inLoop (sub (bodyOf Try.f118) [1, 1, 1, 1, 1, 1, 1, 1, 1, 1, 0, 1, 0, 0]), .inBlock 0, .code (sub (bodyOf Try.f118) [1, 1, 1, 1, 1, 1, 1, 1, 1, 1, 1])] [(0, (.int .i64 f_0)), (7, (.int .u64 m_7)), (8, (.int .i64 e_8)), (9, (.int .u64 root_9)), (10, (.int .u64 rem_10)), (11, (.int .i64 i_11)), (12, (.int .u64 pair_12))] w by kernel_rfl) h)
def numm_sqrt.V9 (f_0 : Int) (m_7 : Int) (e_8 : Int) (root_9 : Int) (rem_10 : Int) (i_11 : Int) (pair_12 : Int) (R : Value → World → Prop) (w : World) : Prop :=
  (numm_sqrt.L10 f_0 m_7 e_8 root_9 (IntKind.wrap .u64 ((IntKind.wrap .u64 (rem_10 * 2 ^ (2 : Nat))) + pair_12)) i_11 R w)
theorem numm_sqrt.step9 (f_0 : Int) (m_7 : Int) (e_8 : Int) (root_9 : Int) (rem_10 : Int) (i_11 : Int) (pair_12 : Int) (R : Value → World → Prop) (w : World) (h : numm_sqrt.V9 f_0 m_7 e_8 root_9 rem_10 i_11 pair_12 R w) : numm_sqrt.L9 f_0 m_7 e_8 root_9 rem_10 i_11 pair_12 R w :=
  seg_T good mixed Try.func118 600 false [.code (sub (bodyOf Try.f118) [1, 1, 1, 1, 1, 1, 1, 1, 1, 1, 0, 1, 0, 0, 1, 0, 0, 1, 1]), .inBlock 1, .code (sub (bodyOf Try.f118) [1, 1, 1, 1, 1, 1, 1, 1, 1, 1, 0, 1, 0, 0, 1, 1]), .inLoop (sub (bodyOf Try.f118) [1, 1, 1, 1, 1, 1, 1, 1, 1, 1, 0, 1, 0, 0]), .inBlock 0, .code (sub (bodyOf Try.f118) [1, 1, 1, 1, 1, 1, 1, 1, 1, 1, 1])] [(0, (.int .i64 f_0)), (7, (.int .u64 m_7)), (8, (.int .i64 e_8)), (9, (.int .u64 root_9)), (10, (.int .u64 rem_10)), (11, (.int .i64 i_11)), (12, (.int .u64 pair_12))] w (Eq.mp (show numm_sqrt.V9 f_0 m_7 e_8 root_9 rem_10 i_11 pair_12 R w = seg Try.prog 118 86 Try.f118.results.toList numm_sqrt.cuts R 600 false [.code (sub (bodyOf Try.f118) [1, 1, 1, 1, 1, 1, 1, 1, 1, 1, 0, 1, 0, 0, 1, 0, 0, 1, 1]), .inBlock 1, .code (sub (bodyOf Try.f118) [1, 1, 1, 1, 1, 1, 1, 1, 1, 1, 0, 1, 0, 0, 1, 1]), .inLoop (sub (bodyOf Try.f118) [1, 1, 1, 1, 1, 1, 1, 1, 1, 1, 0, 1, 0, 0]), .inBlock 0, .code (sub (bodyOf Try.f118) [1, 1, 1, 1, 1, 1, 1, 1, 1, 1, 1])] [(0, (.int .i64 f_0)), (7, (.int .u64 m_7)), (8, (.int .i64 e_8)), (9, (.int .u64 root_9)), (10, (.int .u64 rem_10)), (11, (.int .i64 i_11)), (12, (.int .u64 pair_12))] w by kernel_rfl) h)
def numm_sqrt.V10 (f_0 : Int) (m_7 : Int) (e_8 : Int) (root_9 : Int) (rem_10 : Int) (i_11 : Int) (R : Value → World → Prop) (w : World) : Prop :=
  (numm_sqrt.L11 f_0 m_7 e_8 root_9 rem_10 i_11 (IntKind.wrap .u64 ((IntKind.wrap .u64 (root_9 * 2 ^ (2 : Nat))) + (1 : Int))) R w)
theorem numm_sqrt.step10 (f_0 : Int) (m_7 : Int) (e_8 : Int) (root_9 : Int) (rem_10 : Int) (i_11 : Int) (R : Value → World → Prop) (w : World) (h : numm_sqrt.V10 f_0 m_7 e_8 root_9 rem_10 i_11 R w) : numm_sqrt.L10 f_0 m_7 e_8 root_9 rem_10 i_11 R w :=
  seg_T good mixed Try.func118 600 false [.code (sub (bodyOf Try.f118) [1, 1, 1, 1, 1, 1, 1, 1, 1, 1, 0, 1, 0, 0, 1, 0, 0, 1, 1, 1]), .inBlock 1, .code (sub (bodyOf Try.f118) [1, 1, 1, 1, 1, 1, 1, 1, 1, 1, 0, 1, 0, 0, 1, 1]), .inLoop (sub (bodyOf Try.f118) [1, 1, 1, 1, 1, 1, 1, 1, 1, 1, 0, 1, 0, 0]), .inBlock 0, .code (sub (bodyOf Try.f118) [1, 1, 1, 1, 1, 1, 1, 1, 1, 1, 1])] [(0, (.int .i64 f_0)), (7, (.int .u64 m_7)), (8, (.int .i64 e_8)), (9, (.int .u64 root_9)), (10, (.int .u64 rem_10)), (11, (.int .i64 i_11))] w (Eq.mp (show numm_sqrt.V10 f_0 m_7 e_8 root_9 rem_10 i_11 R w = seg Try.prog 118 86 Try.f118.results.toList numm_sqrt.cuts R 600 false [.code (sub (bodyOf Try.f118) [1, 1, 1, 1, 1, 1, 1, 1, 1, 1, 0, 1, 0, 0, 1, 0, 0, 1, 1, 1]), .inBlock 1, .code (sub (bodyOf Try.f118) [1, 1, 1, 1, 1, 1, 1, 1, 1, 1, 0, 1, 0, 0, 1, 1]), .inLoop (sub (bodyOf Try.f118) [1, 1, 1, 1, 1, 1, 1, 1, 1, 1, 0, 1, 0, 0]), .inBlock 0, .code (sub (bodyOf Try.f118) [1, 1, 1, 1, 1, 1, 1, 1, 1, 1, 1])] [(0, (.int .i64 f_0)), (7, (.int .u64 m_7)), (8, (.int .i64 e_8)), (9, (.int .u64 root_9)), (10, (.int .u64 rem_10)), (11, (.int .i64 i_11))] w by kernel_rfl) h)
def numm_sqrt.V11 (f_0 : Int) (m_7 : Int) (e_8 : Int) (root_9 : Int) (rem_10 : Int) (i_11 : Int) (t_13 : Int) (R : Value → World → Prop) (w : World) : Prop :=
  (numm_sqrt.L12 f_0 m_7 e_8 (IntKind.wrap .u64 (root_9 * 2 ^ (1 : Nat))) rem_10 i_11 t_13 R w)
theorem numm_sqrt.step11 (f_0 : Int) (m_7 : Int) (e_8 : Int) (root_9 : Int) (rem_10 : Int) (i_11 : Int) (t_13 : Int) (R : Value → World → Prop) (w : World) (h : numm_sqrt.V11 f_0 m_7 e_8 root_9 rem_10 i_11 t_13 R w) : numm_sqrt.L11 f_0 m_7 e_8 root_9 rem_10 i_11 t_13 R w :=
  seg_T good mixed Try.func118 600 false [.code (sub (bodyOf Try.f118) [1, 1, 1, 1, 1, 1, 1, 1, 1, 1, 0, 1, 0, 0, 1, 0, 0, 1, 1, 1, 1]), .inBlock 1, .code (sub (bodyOf Try.f118) [1, 1, 1, 1, 1, 1, 1, 1, 1, 1, 0, 1, 0, 0, 1, 1]), .inLoop (sub (bodyOf Try.f118) [1, 1, 1, 1, 1, 1, 1, 1, 1, 1, 0, 1, 0, 0]), .inBlock 0, .code (sub (bodyOf Try.f118) [1, 1, 1, 1, 1, 1, 1, 1, 1, 1, 1])] [(0, (.int .i64 f_0)), (7, (.int .u64 m_7)), (8, (.int .i64 e_8)), (9, (.int .u64 root_9)), (10, (.int .u64 rem_10)), (11, (.int .i64 i_11)), (13, (.int .u64 t_13))] w (Eq.mp (show numm_sqrt.V11 f_0 m_7 e_8 root_9 rem_10 i_11 t_13 R w = seg Try.prog 118 86 Try.f118.results.toList numm_sqrt.cuts R 600 false [.code (sub (bodyOf Try.f118) [1, 1, 1, 1, 1, 1, 1, 1, 1, 1, 0, 1, 0, 0, 1, 0, 0, 1, 1, 1, 1]), .inBlock 1, .code (sub (bodyOf Try.f118) [1, 1, 1, 1, 1, 1, 1, 1, 1, 1, 0, 1, 0, 0, 1, 1]), .inLoop (sub (bodyOf Try.f118) [1, 1, 1, 1, 1, 1, 1, 1, 1, 1, 0, 1, 0, 0]), .inBlock 0, .code (sub (bodyOf Try.f118) [1, 1, 1, 1, 1, 1, 1, 1, 1, 1, 1])] [(0, (.int .i64 f_0)), (7, (.int .u64 m_7)), (8, (.int .i64 e_8)), (9, (.int .u64 root_9)), (10, (.int .u64 rem_10)), (11, (.int .i64 i_11)), (13, (.int .u64 t_13))] w by kernel_rfl) h)
def numm_sqrt.V12 (f_0 : Int) (m_7 : Int) (e_8 : Int) (root_9 : Int) (rem_10 : Int) (i_11 : Int) (t_13 : Int) (R : Value → World → Prop) (w : World) : Prop :=
  (cond (decide (rem_10 ≥ t_13))
  (numm_sqrt.L13 f_0 m_7 e_8 (IntKind.wrap .u64 (root_9 + (1 : Int))) (IntKind.wrap .u64 (rem_10 - t_13)) i_11 R w)
  (numm_sqrt.L13 f_0 m_7 e_8 root_9 rem_10 i_11 R w))
theorem numm_sqrt.step12 (f_0 : Int) (m_7 : Int) (e_8 : Int) (root_9 : Int) (rem_10 : Int) (i_11 : Int) (t_13 : Int) (R : Value → World → Prop) (w : World) (h : numm_sqrt.V12 f_0 m_7 e_8 root_9 rem_10 i_11 t_13 R w) : numm_sqrt.L12 f_0 m_7 e_8 root_9 rem_10 i_11 t_13 R w :=
  seg_T good mixed Try.func118 600 false [.code (sub (bodyOf Try.f118) [1, 1, 1, 1, 1, 1, 1, 1, 1, 1, 0, 1, 0, 0, 1, 0, 0, 1, 1, 1, 1, 1]), .inBlock 1, .code (sub (bodyOf Try.f118) [1, 1, 1, 1, 1, 1, 1, 1, 1, 1, 0, 1, 0, 0, 1, 1]), .inLoop (sub (bodyOf Try.f118) [1, 1, 1, 1, 1, 1, 1, 1, 1, 1, 0, 1, 0, 0]), .inBlock 0, .code (sub (bodyOf Try.f118) [1, 1, 1, 1, 1, 1, 1, 1, 1, 1, 1])] [(0, (.int .i64 f_0)), (7, (.int .u64 m_7)), (8, (.int .i64 e_8)), (9, (.int .u64 root_9)), (10, (.int .u64 rem_10)), (11, (.int .i64 i_11)), (13, (.int .u64 t_13))] w (Eq.mp (show numm_sqrt.V12 f_0 m_7 e_8 root_9 rem_10 i_11 t_13 R w = seg Try.prog 118 86 Try.f118.results.toList numm_sqrt.cuts R 600 false [.code (sub (bodyOf Try.f118) [1, 1, 1, 1, 1, 1, 1, 1, 1, 1, 0, 1, 0, 0, 1, 0, 0, 1, 1, 1, 1, 1]), .inBlock 1, .code (sub (bodyOf Try.f118) [1, 1, 1, 1, 1, 1, 1, 1, 1, 1, 0, 1, 0, 0, 1, 1]), .inLoop (sub (bodyOf Try.f118) [1, 1, 1, 1, 1, 1, 1, 1, 1, 1, 0, 1, 0, 0]), .inBlock 0, .code (sub (bodyOf Try.f118) [1, 1, 1, 1, 1, 1, 1, 1, 1, 1, 1])] [(0, (.int .i64 f_0)), (7, (.int .u64 m_7)), (8, (.int .i64 e_8)), (9, (.int .u64 root_9)), (10, (.int .u64 rem_10)), (11, (.int .i64 i_11)), (13, (.int .u64 t_13))] w by kernel_rfl) h)
def numm_sqrt.V13 (f_0 : Int) (m_7 : Int) (e_8 : Int) (root_9 : Int) (rem_10 : Int) (i_11 : Int) (R : Value → World → Prop) (w : World) : Prop :=
  (numm_sqrt.L7 f_0 m_7 e_8 root_9 rem_10 (IntKind.wrap .i64 (i_11 + (1 : Int))) R w)
theorem numm_sqrt.step13 (f_0 : Int) (m_7 : Int) (e_8 : Int) (root_9 : Int) (rem_10 : Int) (i_11 : Int) (R : Value → World → Prop) (w : World) (h : numm_sqrt.V13 f_0 m_7 e_8 root_9 rem_10 i_11 R w) : numm_sqrt.L13 f_0 m_7 e_8 root_9 rem_10 i_11 R w :=
  seg_T good mixed Try.func118 600 false [.code (sub (bodyOf Try.f118) [1, 1, 1, 1, 1, 1, 1, 1, 1, 1, 0, 1, 0, 0, 1, 1]), .inLoop (sub (bodyOf Try.f118) [1, 1, 1, 1, 1, 1, 1, 1, 1, 1, 0, 1, 0, 0]), .inBlock 0, .code (sub (bodyOf Try.f118) [1, 1, 1, 1, 1, 1, 1, 1, 1, 1, 1])] [(0, (.int .i64 f_0)), (7, (.int .u64 m_7)), (8, (.int .i64 e_8)), (9, (.int .u64 root_9)), (10, (.int .u64 rem_10)), (11, (.int .i64 i_11))] w (Eq.mp (show numm_sqrt.V13 f_0 m_7 e_8 root_9 rem_10 i_11 R w = seg Try.prog 118 86 Try.f118.results.toList numm_sqrt.cuts R 600 false [.code (sub (bodyOf Try.f118) [1, 1, 1, 1, 1, 1, 1, 1, 1, 1, 0, 1, 0, 0, 1, 1]), .inLoop (sub (bodyOf Try.f118) [1, 1, 1, 1, 1, 1, 1, 1, 1, 1, 0, 1, 0, 0]), .inBlock 0, .code (sub (bodyOf Try.f118) [1, 1, 1, 1, 1, 1, 1, 1, 1, 1, 1])] [(0, (.int .i64 f_0)), (7, (.int .u64 m_7)), (8, (.int .i64 e_8)), (9, (.int .u64 root_9)), (10, (.int .u64 rem_10)), (11, (.int .i64 i_11))] w by kernel_rfl) h)
def numm_sqrt.V (f_0 : Int) (a_1 : Int) (R : Value → World → Prop) (w : World) : Prop :=
  (numm_sqrt.L1 f_0 a_1 R w)
theorem numm_sqrt.enter (f_0 : Int) (a_1 : Int) (R : Value → World → Prop) (w : World) (h : numm_sqrt.V f_0 a_1 R w) : Runs Try.prog numm_sqrt.id #[(.int .i64 f_0), (.int .u64 a_1)] w R :=
  Runs.enter (c := bodyOf Try.f118) (N := 86) Try.func118 (by kernel_rfl) (by kernel_rfl) (by kernel_rfl) (seg_T good mixed Try.func118 600 false [.code (bodyOf Try.f118)] [(0, (.int .i64 f_0)), (1, (.int .u64 a_1))] w (Eq.mp (show numm_sqrt.V f_0 a_1 R w = seg Try.prog 118 86 Try.f118.results.toList numm_sqrt.cuts R 600 false [.code (bodyOf Try.f118)] [(0, (.int .i64 f_0)), (1, (.int .u64 a_1))] w by kernel_rfl) h))

/-! e2e/numm.whole -/
def numm_whole.cuts : List (Nat × List Nat) := [(16, [0, 1, 2, 7, 8, 9, 10, 50]), (24, [1, 8, 11, 12]), (42, [0, 1, 8, 13, 14, 15, 16]), (44, [0, 1, 8, 13, 14, 15, 16, 17]), (48, [1, 8, 13, 15, 17]), (52, [1, 8, 15])]
def numm_whole.L1 (k_0 : Int) (f_1 : Int) (a_2 : Int) (p_7 : Int) (neg_8 : Bool) (body_9 : Int) (ex_10 : Int) (t_50 : Bool) (R : Value → World → Prop) (w : World) : Prop :=
  T Try.prog 119 158 [.code (sub (bodyOf Try.f119) [1, 1, 1, 1, 1, 1, 0, 1]), .code (sub (bodyOf Try.f119) [1, 1, 1, 1, 1, 1, 1])] [(0, (.int .i64 k_0)), (1, (.int .i64 f_1)), (2, (.int .u64 a_2)), (7, (.int .i64 p_7)), (8, (.bool neg_8)), (9, (.int .u64 body_9)), (10, (.int .i64 ex_10)), (50, (.bool t_50))] w R
def numm_whole.L2 (f_1 : Int) (neg_8 : Bool) (one_11 : Int) (up_12 : Bool) (R : Value → World → Prop) (w : World) : Prop :=
  T Try.prog 119 158 [.code (sub (bodyOf Try.f119) [1, 1, 1, 1, 1, 1, 1, 1, 0, 1, 0, 1]), .code (sub (bodyOf Try.f119) [1, 1, 1, 1, 1, 1, 1, 1, 1])] [(1, (.int .i64 f_1)), (8, (.bool neg_8)), (11, (.int .u64 one_11)), (12, (.bool up_12))] w R
def numm_whole.L3 (k_0 : Int) (f_1 : Int) (neg_8 : Bool) (unit_13 : Int) (frac_14 : Int) (base_15 : Int) (odd_16 : Bool) (R : Value → World → Prop) (w : World) : Prop :=
  T Try.prog 119 158 [.code (sub (bodyOf Try.f119) [1, 1, 1, 1, 1, 1, 1, 1, 1, 1, 1, 1, 1, 1])] [(0, (.int .i64 k_0)), (1, (.int .i64 f_1)), (8, (.bool neg_8)), (13, (.int .u64 unit_13)), (14, (.int .u64 frac_14)), (15, (.int .u64 base_15)), (16, (.bool odd_16))] w R
def numm_whole.L4 (k_0 : Int) (f_1 : Int) (neg_8 : Bool) (unit_13 : Int) (frac_14 : Int) (base_15 : Int) (odd_16 : Bool) (up_17 : Bool) (R : Value → World → Prop) (w : World) : Prop :=
  T Try.prog 119 158 [.code (sub (bodyOf Try.f119) [1, 1, 1, 1, 1, 1, 1, 1, 1, 1, 1, 1, 1, 1, 1])] [(0, (.int .i64 k_0)), (1, (.int .i64 f_1)), (8, (.bool neg_8)), (13, (.int .u64 unit_13)), (14, (.int .u64 frac_14)), (15, (.int .u64 base_15)), (16, (.bool odd_16)), (17, (.bool up_17))] w R
def numm_whole.L5 (f_1 : Int) (neg_8 : Bool) (unit_13 : Int) (base_15 : Int) (up_17 : Bool) (R : Value → World → Prop) (w : World) : Prop :=
  T Try.prog 119 158 [.code (sub (bodyOf Try.f119) [1, 1, 1, 1, 1, 1, 1, 1, 1, 1, 1, 1, 1, 1, 1, 1])] [(1, (.int .i64 f_1)), (8, (.bool neg_8)), (13, (.int .u64 unit_13)), (15, (.int .u64 base_15)), (17, (.bool up_17))] w R
def numm_whole.L6 (f_1 : Int) (neg_8 : Bool) (base_15 : Int) (R : Value → World → Prop) (w : World) : Prop :=
  T Try.prog 119 158 [.code (sub (bodyOf Try.f119) [1, 1, 1, 1, 1, 1, 1, 1, 1, 1, 1, 1, 1, 1, 1, 1, 1])] [(1, (.int .i64 f_1)), (8, (.bool neg_8)), (15, (.int .u64 base_15))] w R
def numm_whole.V1 (k_0 : Int) (f_1 : Int) (a_2 : Int) (p_7 : Int) (neg_8 : Bool) (body_9 : Int) (ex_10 : Int) (t_50 : Bool) (R : Value → World → Prop) (w : World) : Prop :=
  (cond t_50
  (R (.int .u64 a_2) w)
  (Runs Try.prog numm_bias.id #[(.int .i64 f_1)] w fun r1 w2 => (∃ x3 : Int, (r1 = (.int .i64 x3) ∧ (0 ≤ (IntKind.wrap .u64 (IntKind.wrap .i64 (p_7 - (1 : Int)))) ∧ (cond (decide (ex_10 < (0 : Int)))
  (cond (k_0 == (2 : Int))
  (cond (!neg_8)
  (numm_whole.L2 f_1 neg_8 (IntKind.wrap .u64 ((IntKind.wrap .u64 x3) * 2 ^ (min (Int.toNat (IntKind.wrap .u64 (IntKind.wrap .i64 (p_7 - (1 : Int))))) (IntKind.bits .u64)))) true R w2)
  (cond (k_0 == (3 : Int))
  (cond neg_8
  (numm_whole.L2 f_1 neg_8 (IntKind.wrap .u64 ((IntKind.wrap .u64 x3) * 2 ^ (min (Int.toNat (IntKind.wrap .u64 (IntKind.wrap .i64 (p_7 - (1 : Int))))) (IntKind.bits .u64)))) true R w2)
  (cond (k_0 == (5 : Int))
  (0 ≤ (IntKind.wrap .u64 (IntKind.wrap .i64 (p_7 - (1 : Int)))) ∧ (numm_whole.L2 f_1 neg_8 (IntKind.wrap .u64 ((IntKind.wrap .u64 x3) * 2 ^ (min (Int.toNat (IntKind.wrap .u64 (IntKind.wrap .i64 (p_7 - (1 : Int))))) (IntKind.bits .u64)))) (decide (body_9 > (IntKind.wrap .u64 ((IntKind.wrap .u64 ((IntKind.wrap .u64 x3) * 2 ^ (min (Int.toNat (IntKind.wrap .u64 (IntKind.wrap .i64 (p_7 - (1 : Int))))) (IntKind.bits .u64)))) - (IntKind.wrap .u64 ((1 : Int) * 2 ^ (min (Int.toNat (IntKind.wrap .u64 (IntKind.wrap .i64 (p_7 - (1 : Int))))) (IntKind.bits .u64)))))))) R w2))
  (numm_whole.L2 f_1 neg_8 (IntKind.wrap .u64 ((IntKind.wrap .u64 x3) * 2 ^ (min (Int.toNat (IntKind.wrap .u64 (IntKind.wrap .i64 (p_7 - (1 : Int))))) (IntKind.bits .u64)))) false R w2)))
  (cond (k_0 == (5 : Int))
  (0 ≤ (IntKind.wrap .u64 (IntKind.wrap .i64 (p_7 - (1 : Int)))) ∧ (numm_whole.L2 f_1 neg_8 (IntKind.wrap .u64 ((IntKind.wrap .u64 x3) * 2 ^ (min (Int.toNat (IntKind.wrap .u64 (IntKind.wrap .i64 (p_7 - (1 : Int))))) (IntKind.bits .u64)))) (decide (body_9 > (IntKind.wrap .u64 ((IntKind.wrap .u64 ((IntKind.wrap .u64 x3) * 2 ^ (min (Int.toNat (IntKind.wrap .u64 (IntKind.wrap .i64 (p_7 - (1 : Int))))) (IntKind.bits .u64)))) - (IntKind.wrap .u64 ((1 : Int) * 2 ^ (min (Int.toNat (IntKind.wrap .u64 (IntKind.wrap .i64 (p_7 - (1 : Int))))) (IntKind.bits .u64)))))))) R w2))
  (numm_whole.L2 f_1 neg_8 (IntKind.wrap .u64 ((IntKind.wrap .u64 x3) * 2 ^ (min (Int.toNat (IntKind.wrap .u64 (IntKind.wrap .i64 (p_7 - (1 : Int))))) (IntKind.bits .u64)))) false R w2))))
  (cond (k_0 == (3 : Int))
  (cond neg_8
  (numm_whole.L2 f_1 neg_8 (IntKind.wrap .u64 ((IntKind.wrap .u64 x3) * 2 ^ (min (Int.toNat (IntKind.wrap .u64 (IntKind.wrap .i64 (p_7 - (1 : Int))))) (IntKind.bits .u64)))) true R w2)
  (cond (k_0 == (5 : Int))
  (0 ≤ (IntKind.wrap .u64 (IntKind.wrap .i64 (p_7 - (1 : Int)))) ∧ (numm_whole.L2 f_1 neg_8 (IntKind.wrap .u64 ((IntKind.wrap .u64 x3) * 2 ^ (min (Int.toNat (IntKind.wrap .u64 (IntKind.wrap .i64 (p_7 - (1 : Int))))) (IntKind.bits .u64)))) (decide (body_9 > (IntKind.wrap .u64 ((IntKind.wrap .u64 ((IntKind.wrap .u64 x3) * 2 ^ (min (Int.toNat (IntKind.wrap .u64 (IntKind.wrap .i64 (p_7 - (1 : Int))))) (IntKind.bits .u64)))) - (IntKind.wrap .u64 ((1 : Int) * 2 ^ (min (Int.toNat (IntKind.wrap .u64 (IntKind.wrap .i64 (p_7 - (1 : Int))))) (IntKind.bits .u64)))))))) R w2))
  (numm_whole.L2 f_1 neg_8 (IntKind.wrap .u64 ((IntKind.wrap .u64 x3) * 2 ^ (min (Int.toNat (IntKind.wrap .u64 (IntKind.wrap .i64 (p_7 - (1 : Int))))) (IntKind.bits .u64)))) false R w2)))
  (cond (k_0 == (5 : Int))
  (0 ≤ (IntKind.wrap .u64 (IntKind.wrap .i64 (p_7 - (1 : Int)))) ∧ (numm_whole.L2 f_1 neg_8 (IntKind.wrap .u64 ((IntKind.wrap .u64 x3) * 2 ^ (min (Int.toNat (IntKind.wrap .u64 (IntKind.wrap .i64 (p_7 - (1 : Int))))) (IntKind.bits .u64)))) (decide (body_9 > (IntKind.wrap .u64 ((IntKind.wrap .u64 ((IntKind.wrap .u64 x3) * 2 ^ (min (Int.toNat (IntKind.wrap .u64 (IntKind.wrap .i64 (p_7 - (1 : Int))))) (IntKind.bits .u64)))) - (IntKind.wrap .u64 ((1 : Int) * 2 ^ (min (Int.toNat (IntKind.wrap .u64 (IntKind.wrap .i64 (p_7 - (1 : Int))))) (IntKind.bits .u64)))))))) R w2))
  (numm_whole.L2 f_1 neg_8 (IntKind.wrap .u64 ((IntKind.wrap .u64 x3) * 2 ^ (min (Int.toNat (IntKind.wrap .u64 (IntKind.wrap .i64 (p_7 - (1 : Int))))) (IntKind.bits .u64)))) false R w2))))
  (0 ≤ (IntKind.wrap .u64 (IntKind.wrap .i64 ((IntKind.wrap .i64 (p_7 - (1 : Int))) - ex_10))) ∧ ((IntKind.u64 = IntKind.u64) ∧ (IntKind.wrap .u64 ((1 : Int) * 2 ^ (min (Int.toNat (IntKind.wrap .u64 (IntKind.wrap .i64 ((IntKind.wrap .i64 (p_7 - (1 : Int))) - ex_10)))) (IntKind.bits .u64)))) ≠ 0 ∧ (cond ((Int.tmod body_9 (IntKind.wrap .u64 ((1 : Int) * 2 ^ (min (Int.toNat (IntKind.wrap .u64 (IntKind.wrap .i64 ((IntKind.wrap .i64 (p_7 - (1 : Int))) - ex_10)))) (IntKind.bits .u64))))) == (0 : Int))
  (R (.int .u64 a_2) w2)
  (cond (ex_10 == (0 : Int))
  (numm_whole.L3 k_0 f_1 neg_8 (IntKind.wrap .u64 ((1 : Int) * 2 ^ (min (Int.toNat (IntKind.wrap .u64 (IntKind.wrap .i64 ((IntKind.wrap .i64 (p_7 - (1 : Int))) - ex_10)))) (IntKind.bits .u64)))) (Int.tmod body_9 (IntKind.wrap .u64 ((1 : Int) * 2 ^ (min (Int.toNat (IntKind.wrap .u64 (IntKind.wrap .i64 ((IntKind.wrap .i64 (p_7 - (1 : Int))) - ex_10)))) (IntKind.bits .u64))))) (IntKind.wrap .u64 (body_9 - (Int.tmod body_9 (IntKind.wrap .u64 ((1 : Int) * 2 ^ (min (Int.toNat (IntKind.wrap .u64 (IntKind.wrap .i64 ((IntKind.wrap .i64 (p_7 - (1 : Int))) - ex_10)))) (IntKind.bits .u64))))))) true R w2)
  ((IntKind.u64 = IntKind.u64) ∧ (IntKind.wrap .u64 ((1 : Int) * 2 ^ (min (Int.toNat (IntKind.wrap .u64 (IntKind.wrap .i64 ((IntKind.wrap .i64 (p_7 - (1 : Int))) - ex_10)))) (IntKind.bits .u64)))) ≠ 0 ∧ (numm_whole.L3 k_0 f_1 neg_8 (IntKind.wrap .u64 ((1 : Int) * 2 ^ (min (Int.toNat (IntKind.wrap .u64 (IntKind.wrap .i64 ((IntKind.wrap .i64 (p_7 - (1 : Int))) - ex_10)))) (IntKind.bits .u64)))) (Int.tmod body_9 (IntKind.wrap .u64 ((1 : Int) * 2 ^ (min (Int.toNat (IntKind.wrap .u64 (IntKind.wrap .i64 ((IntKind.wrap .i64 (p_7 - (1 : Int))) - ex_10)))) (IntKind.bits .u64))))) (IntKind.wrap .u64 (body_9 - (Int.tmod body_9 (IntKind.wrap .u64 ((1 : Int) * 2 ^ (min (Int.toNat (IntKind.wrap .u64 (IntKind.wrap .i64 ((IntKind.wrap .i64 (p_7 - (1 : Int))) - ex_10)))) (IntKind.bits .u64))))))) ((Int.tmod (IntKind.wrap .u64 (Int.tdiv (IntKind.wrap .u64 (body_9 - (Int.tmod body_9 (IntKind.wrap .u64 ((1 : Int) * 2 ^ (min (Int.toNat (IntKind.wrap .u64 (IntKind.wrap .i64 ((IntKind.wrap .i64 (p_7 - (1 : Int))) - ex_10)))) (IntKind.bits .u64))))))) (IntKind.wrap .u64 ((1 : Int) * 2 ^ (min (Int.toNat (IntKind.wrap .u64 (IntKind.wrap .i64 ((IntKind.wrap .i64 (p_7 - (1 : Int))) - ex_10)))) (IntKind.bits .u64)))))) 2) == (1 : Int)) R w2))))))))))))
theorem numm_whole.step1 (k_0 : Int) (f_1 : Int) (a_2 : Int) (p_7 : Int) (neg_8 : Bool) (body_9 : Int) (ex_10 : Int) (t_50 : Bool) (R : Value → World → Prop) (w : World) (h : numm_whole.V1 k_0 f_1 a_2 p_7 neg_8 body_9 ex_10 t_50 R w) : numm_whole.L1 k_0 f_1 a_2 p_7 neg_8 body_9 ex_10 t_50 R w :=
  seg_T good mixed Try.func119 600 false [.code (sub (bodyOf Try.f119) [1, 1, 1, 1, 1, 1, 0, 1]), .code (sub (bodyOf Try.f119) [1, 1, 1, 1, 1, 1, 1])] [(0, (.int .i64 k_0)), (1, (.int .i64 f_1)), (2, (.int .u64 a_2)), (7, (.int .i64 p_7)), (8, (.bool neg_8)), (9, (.int .u64 body_9)), (10, (.int .i64 ex_10)), (50, (.bool t_50))] w (Eq.mp (show numm_whole.V1 k_0 f_1 a_2 p_7 neg_8 body_9 ex_10 t_50 R w = seg Try.prog 119 158 Try.f119.results.toList numm_whole.cuts R 600 false [.code (sub (bodyOf Try.f119) [1, 1, 1, 1, 1, 1, 0, 1]), .code (sub (bodyOf Try.f119) [1, 1, 1, 1, 1, 1, 1])] [(0, (.int .i64 k_0)), (1, (.int .i64 f_1)), (2, (.int .u64 a_2)), (7, (.int .i64 p_7)), (8, (.bool neg_8)), (9, (.int .u64 body_9)), (10, (.int .i64 ex_10)), (50, (.bool t_50))] w by kernel_rfl) h)
def numm_whole.V2 (f_1 : Int) (neg_8 : Bool) (one_11 : Int) (up_12 : Bool) (R : Value → World → Prop) (w : World) : Prop :=
  (cond up_12
  (Runs Try.prog numm_sign.id #[(.int .i64 f_1), (.bool neg_8)] w fun r1 w2 => (∃ x3 : Int, (r1 = (.int .u64 x3) ∧ (R (.int .u64 (IntKind.wrap .u64 (x3 + one_11))) w2))))
  (Runs Try.prog numm_sign.id #[(.int .i64 f_1), (.bool neg_8)] w fun r4 w5 => (∃ x6 : Int, (r4 = (.int .u64 x6) ∧ (R (.int .u64 x6) w5)))))
theorem numm_whole.step2 (f_1 : Int) (neg_8 : Bool) (one_11 : Int) (up_12 : Bool) (R : Value → World → Prop) (w : World) (h : numm_whole.V2 f_1 neg_8 one_11 up_12 R w) : numm_whole.L2 f_1 neg_8 one_11 up_12 R w :=
  seg_T good mixed Try.func119 600 false [.code (sub (bodyOf Try.f119) [1, 1, 1, 1, 1, 1, 1, 1, 0, 1, 0, 1]), .code (sub (bodyOf Try.f119) [1, 1, 1, 1, 1, 1, 1, 1, 1])] [(1, (.int .i64 f_1)), (8, (.bool neg_8)), (11, (.int .u64 one_11)), (12, (.bool up_12))] w (Eq.mp (show numm_whole.V2 f_1 neg_8 one_11 up_12 R w = seg Try.prog 119 158 Try.f119.results.toList numm_whole.cuts R 600 false [.code (sub (bodyOf Try.f119) [1, 1, 1, 1, 1, 1, 1, 1, 0, 1, 0, 1]), .code (sub (bodyOf Try.f119) [1, 1, 1, 1, 1, 1, 1, 1, 1])] [(1, (.int .i64 f_1)), (8, (.bool neg_8)), (11, (.int .u64 one_11)), (12, (.bool up_12))] w by kernel_rfl) h)
def numm_whole.V3 (k_0 : Int) (f_1 : Int) (neg_8 : Bool) (unit_13 : Int) (frac_14 : Int) (base_15 : Int) (odd_16 : Bool) (R : Value → World → Prop) (w : World) : Prop :=
  (cond (k_0 == (2 : Int))
  (cond (!neg_8)
  (numm_whole.L4 k_0 f_1 neg_8 unit_13 frac_14 base_15 odd_16 true R w)
  (cond (k_0 == (3 : Int))
  (numm_whole.L4 k_0 f_1 neg_8 unit_13 frac_14 base_15 odd_16 neg_8 R w)
  (numm_whole.L4 k_0 f_1 neg_8 unit_13 frac_14 base_15 odd_16 false R w)))
  (cond (k_0 == (3 : Int))
  (numm_whole.L4 k_0 f_1 neg_8 unit_13 frac_14 base_15 odd_16 neg_8 R w)
  (numm_whole.L4 k_0 f_1 neg_8 unit_13 frac_14 base_15 odd_16 false R w)))
theorem numm_whole.step3 (k_0 : Int) (f_1 : Int) (neg_8 : Bool) (unit_13 : Int) (frac_14 : Int) (base_15 : Int) (odd_16 : Bool) (R : Value → World → Prop) (w : World) (h : numm_whole.V3 k_0 f_1 neg_8 unit_13 frac_14 base_15 odd_16 R w) : numm_whole.L3 k_0 f_1 neg_8 unit_13 frac_14 base_15 odd_16 R w :=
  seg_T good mixed Try.func119 600 false [.code (sub (bodyOf Try.f119) [1, 1, 1, 1, 1, 1, 1, 1, 1, 1, 1, 1, 1, 1])] [(0, (.int .i64 k_0)), (1, (.int .i64 f_1)), (8, (.bool neg_8)), (13, (.int .u64 unit_13)), (14, (.int .u64 frac_14)), (15, (.int .u64 base_15)), (16, (.bool odd_16))] w (Eq.mp (show numm_whole.V3 k_0 f_1 neg_8 unit_13 frac_14 base_15 odd_16 R w = seg Try.prog 119 158 Try.f119.results.toList numm_whole.cuts R 600 false [.code (sub (bodyOf Try.f119) [1, 1, 1, 1, 1, 1, 1, 1, 1, 1, 1, 1, 1, 1])] [(0, (.int .i64 k_0)), (1, (.int .i64 f_1)), (8, (.bool neg_8)), (13, (.int .u64 unit_13)), (14, (.int .u64 frac_14)), (15, (.int .u64 base_15)), (16, (.bool odd_16))] w by kernel_rfl) h)
def numm_whole.V4 (k_0 : Int) (f_1 : Int) (neg_8 : Bool) (unit_13 : Int) (frac_14 : Int) (base_15 : Int) (odd_16 : Bool) (up_17 : Bool) (R : Value → World → Prop) (w : World) : Prop :=
  (cond (k_0 == (5 : Int))
  (cond (decide (frac_14 > (IntKind.wrap .u64 (Int.tdiv unit_13 2))))
  (numm_whole.L5 f_1 neg_8 unit_13 base_15 true R w)
  (cond (frac_14 == (IntKind.wrap .u64 (Int.tdiv unit_13 2)))
  (numm_whole.L5 f_1 neg_8 unit_13 base_15 odd_16 R w)
  (numm_whole.L5 f_1 neg_8 unit_13 base_15 false R w)))
  (numm_whole.L5 f_1 neg_8 unit_13 base_15 up_17 R w))
theorem numm_whole.step4 (k_0 : Int) (f_1 : Int) (neg_8 : Bool) (unit_13 : Int) (frac_14 : Int) (base_15 : Int) (odd_16 : Bool) (up_17 : Bool) (R : Value → World → Prop) (w : World) (h : numm_whole.V4 k_0 f_1 neg_8 unit_13 frac_14 base_15 odd_16 up_17 R w) : numm_whole.L4 k_0 f_1 neg_8 unit_13 frac_14 base_15 odd_16 up_17 R w :=
  seg_T good mixed Try.func119 600 false [.code (sub (bodyOf Try.f119) [1, 1, 1, 1, 1, 1, 1, 1, 1, 1, 1, 1, 1, 1, 1])] [(0, (.int .i64 k_0)), (1, (.int .i64 f_1)), (8, (.bool neg_8)), (13, (.int .u64 unit_13)), (14, (.int .u64 frac_14)), (15, (.int .u64 base_15)), (16, (.bool odd_16)), (17, (.bool up_17))] w (Eq.mp (show numm_whole.V4 k_0 f_1 neg_8 unit_13 frac_14 base_15 odd_16 up_17 R w = seg Try.prog 119 158 Try.f119.results.toList numm_whole.cuts R 600 false [.code (sub (bodyOf Try.f119) [1, 1, 1, 1, 1, 1, 1, 1, 1, 1, 1, 1, 1, 1, 1])] [(0, (.int .i64 k_0)), (1, (.int .i64 f_1)), (8, (.bool neg_8)), (13, (.int .u64 unit_13)), (14, (.int .u64 frac_14)), (15, (.int .u64 base_15)), (16, (.bool odd_16)), (17, (.bool up_17))] w by kernel_rfl) h)
def numm_whole.V5 (f_1 : Int) (neg_8 : Bool) (unit_13 : Int) (base_15 : Int) (up_17 : Bool) (R : Value → World → Prop) (w : World) : Prop :=
  (cond up_17
  (numm_whole.L6 f_1 neg_8 (IntKind.wrap .u64 (base_15 + unit_13)) R w)
  (numm_whole.L6 f_1 neg_8 base_15 R w))
theorem numm_whole.step5 (f_1 : Int) (neg_8 : Bool) (unit_13 : Int) (base_15 : Int) (up_17 : Bool) (R : Value → World → Prop) (w : World) (h : numm_whole.V5 f_1 neg_8 unit_13 base_15 up_17 R w) : numm_whole.L5 f_1 neg_8 unit_13 base_15 up_17 R w :=
  seg_T good mixed Try.func119 600 false [.code (sub (bodyOf Try.f119) [1, 1, 1, 1, 1, 1, 1, 1, 1, 1, 1, 1, 1, 1, 1, 1])] [(1, (.int .i64 f_1)), (8, (.bool neg_8)), (13, (.int .u64 unit_13)), (15, (.int .u64 base_15)), (17, (.bool up_17))] w (Eq.mp (show numm_whole.V5 f_1 neg_8 unit_13 base_15 up_17 R w = seg Try.prog 119 158 Try.f119.results.toList numm_whole.cuts R 600 false [.code (sub (bodyOf Try.f119) [1, 1, 1, 1, 1, 1, 1, 1, 1, 1, 1, 1, 1, 1, 1, 1])] [(1, (.int .i64 f_1)), (8, (.bool neg_8)), (13, (.int .u64 unit_13)), (15, (.int .u64 base_15)), (17, (.bool up_17))] w by kernel_rfl) h)
def numm_whole.V6 (f_1 : Int) (neg_8 : Bool) (base_15 : Int) (R : Value → World → Prop) (w : World) : Prop :=
  (Runs Try.prog numm_sign.id #[(.int .i64 f_1), (.bool neg_8)] w fun r1 w2 => (∃ x3 : Int, (r1 = (.int .u64 x3) ∧ (R (.int .u64 (IntKind.wrap .u64 (x3 + base_15))) w2))))
theorem numm_whole.step6 (f_1 : Int) (neg_8 : Bool) (base_15 : Int) (R : Value → World → Prop) (w : World) (h : numm_whole.V6 f_1 neg_8 base_15 R w) : numm_whole.L6 f_1 neg_8 base_15 R w :=
  seg_T good mixed Try.func119 600 false [.code (sub (bodyOf Try.f119) [1, 1, 1, 1, 1, 1, 1, 1, 1, 1, 1, 1, 1, 1, 1, 1, 1])] [(1, (.int .i64 f_1)), (8, (.bool neg_8)), (15, (.int .u64 base_15))] w (Eq.mp (show numm_whole.V6 f_1 neg_8 base_15 R w = seg Try.prog 119 158 Try.f119.results.toList numm_whole.cuts R 600 false [.code (sub (bodyOf Try.f119) [1, 1, 1, 1, 1, 1, 1, 1, 1, 1, 1, 1, 1, 1, 1, 1, 1])] [(1, (.int .i64 f_1)), (8, (.bool neg_8)), (15, (.int .u64 base_15))] w by kernel_rfl) h)
def numm_whole.V (k_0 : Int) (f_1 : Int) (a_2 : Int) (R : Value → World → Prop) (w : World) : Prop :=
  (Runs Try.prog numm_isNaN.id #[(.int .i64 f_1), (.int .u64 a_2)] w fun r4 w5 => (∃ x6 : Bool, (r4 = (.bool x6) ∧ (cond x6
  (Runs Try.prog numm_canon.id #[(.int .i64 f_1)] w5 fun r7 w8 => (∃ x9 : Int, (r7 = (.int .u64 x9) ∧ (R (.int .u64 x9) w8))))
  (Runs Try.prog numm_prec.id #[(.int .i64 f_1)] w5 fun r10 w11 => (∃ x12 : Int, (r10 = (.int .i64 x12) ∧ (Runs Try.prog numm_top.id #[(.int .i64 f_1)] w11 fun r13 w14 => (∃ x15 : Int, (r13 = (.int .u64 x15) ∧ (Runs Try.prog numm_top.id #[(.int .i64 f_1)] w14 fun r16 w17 => (∃ x18 : Int, (r16 = (.int .u64 x18) ∧ (0 ≤ (IntKind.wrap .u64 (IntKind.wrap .i64 (x12 - (1 : Int)))) ∧ (Runs Try.prog numm_bias.id #[(.int .i64 f_1)] w17 fun r19 w20 => (∃ x21 : Int, (r19 = (.int .i64 x21) ∧ (cond (decide ((IntKind.wrap .i64 ((IntKind.wrap .i64 (Int.fdiv (bAnd .u64 a_2 (IntKind.wrap .u64 (x18 - (1 : Int)))) (2 ^ (min (Int.toNat (IntKind.wrap .u64 (IntKind.wrap .i64 (x12 - (1 : Int))))) (IntKind.bits .u64))))) - x21)) ≥ (IntKind.wrap .i64 (x12 - (1 : Int)))))
  (numm_whole.L1 k_0 f_1 a_2 x12 (decide (a_2 ≥ x15)) (bAnd .u64 a_2 (IntKind.wrap .u64 (x18 - (1 : Int)))) (IntKind.wrap .i64 ((IntKind.wrap .i64 (Int.fdiv (bAnd .u64 a_2 (IntKind.wrap .u64 (x18 - (1 : Int)))) (2 ^ (min (Int.toNat (IntKind.wrap .u64 (IntKind.wrap .i64 (x12 - (1 : Int))))) (IntKind.bits .u64))))) - x21)) true R w20)
  (numm_whole.L1 k_0 f_1 a_2 x12 (decide (a_2 ≥ x15)) (bAnd .u64 a_2 (IntKind.wrap .u64 (x18 - (1 : Int)))) (IntKind.wrap .i64 ((IntKind.wrap .i64 (Int.fdiv (bAnd .u64 a_2 (IntKind.wrap .u64 (x18 - (1 : Int)))) (2 ^ (min (Int.toNat (IntKind.wrap .u64 (IntKind.wrap .i64 (x12 - (1 : Int))))) (IntKind.bits .u64))))) - x21)) ((bAnd .u64 a_2 (IntKind.wrap .u64 (x18 - (1 : Int)))) == (0 : Int)) R w20)))))))))))))))))))
theorem numm_whole.enter (k_0 : Int) (f_1 : Int) (a_2 : Int) (R : Value → World → Prop) (w : World) (h : numm_whole.V k_0 f_1 a_2 R w) : Runs Try.prog numm_whole.id #[(.int .i64 k_0), (.int .i64 f_1), (.int .u64 a_2)] w R :=
  Runs.enter (c := bodyOf Try.f119) (N := 158) Try.func119 (by kernel_rfl) (by kernel_rfl) (by kernel_rfl) (seg_T good mixed Try.func119 600 false [.code (bodyOf Try.f119)] [(0, (.int .i64 k_0)), (1, (.int .i64 f_1)), (2, (.int .u64 a_2))] w (Eq.mp (show numm_whole.V k_0 f_1 a_2 R w = seg Try.prog 119 158 Try.f119.results.toList numm_whole.cuts R 600 false [.code (bodyOf Try.f119)] [(0, (.int .i64 k_0)), (1, (.int .i64 f_1)), (2, (.int .u64 a_2))] w by kernel_rfl) h))

/-! e2e/numm.canon -/
def numm_canon.cuts : List (Nat × List Nat) := []
def numm_canon.V (f_0 : Int) (R : Value → World → Prop) (w : World) : Prop :=
  (cond (f_0 == (32 : Int))
  (R (.int .u64 2143289344) w)
  (R (.int .u64 9221120237041090560) w))
theorem numm_canon.enter (f_0 : Int) (R : Value → World → Prop) (w : World) (h : numm_canon.V f_0 R w) : Runs Try.prog numm_canon.id #[(.int .i64 f_0)] w R :=
  Runs.enter (c := bodyOf Try.f120) (N := 5) Try.func120 (by kernel_rfl) (by kernel_rfl) (by kernel_rfl) (seg_T good mixed Try.func120 600 false [.code (bodyOf Try.f120)] [(0, (.int .i64 f_0))] w (Eq.mp (show numm_canon.V f_0 R w = seg Try.prog 120 5 Try.f120.results.toList numm_canon.cuts R 600 false [.code (bodyOf Try.f120)] [(0, (.int .i64 f_0))] w by kernel_rfl) h))

/-! e2e/numm.add -/
def numm_add.cuts : List (Nat × List Nat) := [(2, [0, 1, 2]), (4, [0, 1, 2, 7, 8, 9, 10]), (6, [0, 1, 2, 7, 8, 9, 10, 11, 12, 13, 14]), (10, [0, 1, 43]), (32, [0, 7, 9, 10, 11, 13, 14]), (34, [0, 7, 9, 10, 11, 13, 14]), (36, [0, 7, 9, 10, 11, 13, 14, 88]), (38, [0, 7, 9, 10, 11, 13, 14]), (42, [0, 7, 9, 10, 11, 13, 14]), (44, [0, 7, 9, 10, 11, 13, 15]), (46, [0, 7, 9, 10, 11, 13, 15]), (54, [0, 7, 9, 10, 11, 13, 15, 17]), (58, [0, 7, 9, 10, 11, 13, 16]), (64, [0, 7, 10, 16, 18]), (68, [0, 7, 10, 16, 18])]
def numm_add.L1 (f_0 : Int) (a_1 : Int) (b_2 : Int) (R : Value → World → Prop) (w : World) : Prop :=
  T Try.prog 121 136 [.code (sub (bodyOf Try.f121) [1])] [(0, (.int .i64 f_0)), (1, (.int .u64 a_1)), (2, (.int .u64 b_2))] w R
def numm_add.L2 (f_0 : Int) (a_1 : Int) (b_2 : Int) (na_7 : Bool) (ka_8 : Int) (ma_9 : Int) (ea_10 : Int) (R : Value → World → Prop) (w : World) : Prop :=
  T Try.prog 121 136 [.code (sub (bodyOf Try.f121) [1, 1])] [(0, (.int .i64 f_0)), (1, (.int .u64 a_1)), (2, (.int .u64 b_2)), (7, (.bool na_7)), (8, (.int .i64 ka_8)), (9, (.int .u64 ma_9)), (10, (.int .i64 ea_10))] w R
def numm_add.L3 (f_0 : Int) (a_1 : Int) (b_2 : Int) (na_7 : Bool) (ka_8 : Int) (ma_9 : Int) (ea_10 : Int) (nb_11 : Bool) (kb_12 : Int) (mb_13 : Int) (eb_14 : Int) (R : Value → World → Prop) (w : World) : Prop :=
  T Try.prog 121 136 [.code (sub (bodyOf Try.f121) [1, 1, 1])] [(0, (.int .i64 f_0)), (1, (.int .u64 a_1)), (2, (.int .u64 b_2)), (7, (.bool na_7)), (8, (.int .i64 ka_8)), (9, (.int .u64 ma_9)), (10, (.int .i64 ea_10)), (11, (.bool nb_11)), (12, (.int .i64 kb_12)), (13, (.int .u64 mb_13)), (14, (.int .i64 eb_14))] w R
def numm_add.L4 (f_0 : Int) (a_1 : Int) (t_43 : Bool) (R : Value → World → Prop) (w : World) : Prop :=
  T Try.prog 121 136 [.code (sub (bodyOf Try.f121) [1, 1, 1, 0, 1, 0, 0, 1]), .code (sub (bodyOf Try.f121) [1, 1, 1, 0, 1, 0, 1]), .code (sub (bodyOf Try.f121) [1, 1, 1, 1])] [(0, (.int .i64 f_0)), (1, (.int .u64 a_1)), (43, (.bool t_43))] w R
def numm_add.L5 (f_0 : Int) (na_7 : Bool) (ma_9 : Int) (ea_10 : Int) (nb_11 : Bool) (mb_13 : Int) (eb_14 : Int) (R : Value → World → Prop) (w : World) : Prop :=
  T Try.prog 121 136 [.code (sub (bodyOf Try.f121) [1, 1, 1, 1, 1, 1, 1, 1])] [(0, (.int .i64 f_0)), (7, (.bool na_7)), (9, (.int .u64 ma_9)), (10, (.int .i64 ea_10)), (11, (.bool nb_11)), (13, (.int .u64 mb_13)), (14, (.int .i64 eb_14))] w R
def numm_add.L6 (f_0 : Int) (na_7 : Bool) (ma_9 : Int) (ea_10 : Int) (nb_11 : Bool) (mb_13 : Int) (eb_14 : Int) (R : Value → World → Prop) (w : World) : Prop :=
  T Try.prog 121 136 [.code (sub (bodyOf Try.f121) [1, 1, 1, 1, 1, 1, 1, 1, 1])] [(0, (.int .i64 f_0)), (7, (.bool na_7)), (9, (.int .u64 ma_9)), (10, (.int .i64 ea_10)), (11, (.bool nb_11)), (13, (.int .u64 mb_13)), (14, (.int .i64 eb_14))] w R
def numm_add.L7 (f_0 : Int) (na_7 : Bool) (ma_9 : Int) (ea_10 : Int) (nb_11 : Bool) (mb_13 : Int) (eb_14 : Int) (t_88 : Bool) (R : Value → World → Prop) (w : World) : Prop :=
  T Try.prog 121 136 [.code (sub (bodyOf Try.f121) [1, 1, 1, 1, 1, 1, 1, 1, 1, 0, 1]), .code (sub (bodyOf Try.f121) [1, 1, 1, 1, 1, 1, 1, 1, 1, 1])] [(0, (.int .i64 f_0)), (7, (.bool na_7)), (9, (.int .u64 ma_9)), (10, (.int .i64 ea_10)), (11, (.bool nb_11)), (13, (.int .u64 mb_13)), (14, (.int .i64 eb_14)), (88, (.bool t_88))] w R
def numm_add.L8 (f_0 : Int) (na_7 : Bool) (ma_9 : Int) (ea_10 : Int) (nb_11 : Bool) (mb_13 : Int) (eb_14 : Int) (R : Value → World → Prop) (w : World) : Prop :=
  T Try.prog 121 136 [.code (sub (bodyOf Try.f121) [1, 1, 1, 1, 1, 1, 1, 1, 1, 0, 1, 0, 1]), .code (sub (bodyOf Try.f121) [1, 1, 1, 1, 1, 1, 1, 1, 1, 1])] [(0, (.int .i64 f_0)), (7, (.bool na_7)), (9, (.int .u64 ma_9)), (10, (.int .i64 ea_10)), (11, (.bool nb_11)), (13, (.int .u64 mb_13)), (14, (.int .i64 eb_14))] w R
def numm_add.L9 (f_0 : Int) (na_7 : Bool) (ma_9 : Int) (ea_10 : Int) (nb_11 : Bool) (mb_13 : Int) (eb_14 : Int) (R : Value → World → Prop) (w : World) : Prop :=
  T Try.prog 121 136 [.code (sub (bodyOf Try.f121) [1, 1, 1, 1, 1, 1, 1, 1, 1, 1])] [(0, (.int .i64 f_0)), (7, (.bool na_7)), (9, (.int .u64 ma_9)), (10, (.int .i64 ea_10)), (11, (.bool nb_11)), (13, (.int .u64 mb_13)), (14, (.int .i64 eb_14))] w R
def numm_add.L10 (f_0 : Int) (na_7 : Bool) (ma_9 : Int) (ea_10 : Int) (nb_11 : Bool) (mb_13 : Int) (d_15 : Int) (R : Value → World → Prop) (w : World) : Prop :=
  T Try.prog 121 136 [.code (sub (bodyOf Try.f121) [1, 1, 1, 1, 1, 1, 1, 1, 1, 1, 1])] [(0, (.int .i64 f_0)), (7, (.bool na_7)), (9, (.int .u64 ma_9)), (10, (.int .i64 ea_10)), (11, (.bool nb_11)), (13, (.int .u64 mb_13)), (15, (.int .i64 d_15))] w R
def numm_add.L11 (f_0 : Int) (na_7 : Bool) (ma_9 : Int) (ea_10 : Int) (nb_11 : Bool) (mb_13 : Int) (d_15 : Int) (R : Value → World → Prop) (w : World) : Prop :=
  T Try.prog 121 136 [.code (sub (bodyOf Try.f121) [1, 1, 1, 1, 1, 1, 1, 1, 1, 1, 1, 1])] [(0, (.int .i64 f_0)), (7, (.bool na_7)), (9, (.int .u64 ma_9)), (10, (.int .i64 ea_10)), (11, (.bool nb_11)), (13, (.int .u64 mb_13)), (15, (.int .i64 d_15))] w R
def numm_add.L12 (f_0 : Int) (na_7 : Bool) (ma_9 : Int) (ea_10 : Int) (nb_11 : Bool) (mb_13 : Int) (sticky_16 : Bool) (R : Value → World → Prop) (w : World) : Prop :=
  T Try.prog 121 136 [.code (sub (bodyOf Try.f121) [1, 1, 1, 1, 1, 1, 1, 1, 1, 1, 1, 1, 1])] [(0, (.int .i64 f_0)), (7, (.bool na_7)), (9, (.int .u64 ma_9)), (10, (.int .i64 ea_10)), (11, (.bool nb_11)), (13, (.int .u64 mb_13)), (16, (.bool sticky_16))] w R
def numm_add.L13 (f_0 : Int) (na_7 : Bool) (ma_9 : Int) (ea_10 : Int) (nb_11 : Bool) (mb_13 : Int) (d_15 : Int) (low_17 : Int) (R : Value → World → Prop) (w : World) : Prop :=
  T Try.prog 121 136 [.code (sub (bodyOf Try.f121) [1, 1, 1, 1, 1, 1, 1, 1, 1, 1, 1, 1, 0, 1, 1, 1]), .code (sub (bodyOf Try.f121) [1, 1, 1, 1, 1, 1, 1, 1, 1, 1, 1, 1, 1])] [(0, (.int .i64 f_0)), (7, (.bool na_7)), (9, (.int .u64 ma_9)), (10, (.int .i64 ea_10)), (11, (.bool nb_11)), (13, (.int .u64 mb_13)), (15, (.int .i64 d_15)), (17, (.int .u64 low_17))] w R
def numm_add.L14 (f_0 : Int) (na_7 : Bool) (ea_10 : Int) (sticky_16 : Bool) (m_18 : Int) (R : Value → World → Prop) (w : World) : Prop :=
  T Try.prog 121 136 [.code (sub (bodyOf Try.f121) [1, 1, 1, 1, 1, 1, 1, 1, 1, 1, 1, 1, 1, 1, 1])] [(0, (.int .i64 f_0)), (7, (.bool na_7)), (10, (.int .i64 ea_10)), (16, (.bool sticky_16)), (18, (.int .u64 m_18))] w R
def numm_add.L15 (f_0 : Int) (na_7 : Bool) (ea_10 : Int) (sticky_16 : Bool) (m_18 : Int) (R : Value → World → Prop) (w : World) : Prop :=
  T Try.prog 121 136 [.code (sub (bodyOf Try.f121) [1, 1, 1, 1, 1, 1, 1, 1, 1, 1, 1, 1, 1, 1, 1, 1])] [(0, (.int .i64 f_0)), (7, (.bool na_7)), (10, (.int .i64 ea_10)), (16, (.bool sticky_16)), (18, (.int .u64 m_18))] w R
def numm_add.V1 (f_0 : Int) (a_1 : Int) (b_2 : Int) (R : Value → World → Prop) (w : World) : Prop :=
  (Runs Try.prog numm_unpack.id #[(.int .i64 f_0), (.int .u64 a_1)] w fun r1 w2 => (∃ x3 : Bool, ∃ x4 : Int, ∃ x5 : Int, ∃ x6 : Int, (r1 = (.tuple #[(.bool x3), (.int .i64 x4), (.int .u64 x5), (.int .i64 x6)]) ∧ (numm_add.L2 f_0 a_1 b_2 x3 x4 x5 x6 R w2))))
theorem numm_add.step1 (f_0 : Int) (a_1 : Int) (b_2 : Int) (R : Value → World → Prop) (w : World) (h : numm_add.V1 f_0 a_1 b_2 R w) : numm_add.L1 f_0 a_1 b_2 R w :=
  seg_T good mixed Try.func121 600 false [.code (sub (bodyOf Try.f121) [1])] [(0, (.int .i64 f_0)), (1, (.int .u64 a_1)), (2, (.int .u64 b_2))] w (Eq.mp (show numm_add.V1 f_0 a_1 b_2 R w = seg Try.prog 121 136 Try.f121.results.toList numm_add.cuts R 600 false [.code (sub (bodyOf Try.f121) [1])] [(0, (.int .i64 f_0)), (1, (.int .u64 a_1)), (2, (.int .u64 b_2))] w by kernel_rfl) h)
def numm_add.V2 (f_0 : Int) (a_1 : Int) (b_2 : Int) (na_7 : Bool) (ka_8 : Int) (ma_9 : Int) (ea_10 : Int) (R : Value → World → Prop) (w : World) : Prop :=
  (Runs Try.prog numm_unpack.id #[(.int .i64 f_0), (.int .u64 b_2)] w fun r1 w2 => (∃ x3 : Bool, ∃ x4 : Int, ∃ x5 : Int, ∃ x6 : Int, (r1 = (.tuple #[(.bool x3), (.int .i64 x4), (.int .u64 x5), (.int .i64 x6)]) ∧ (numm_add.L3 f_0 a_1 b_2 na_7 ka_8 ma_9 ea_10 x3 x4 x5 x6 R w2))))
theorem numm_add.step2 (f_0 : Int) (a_1 : Int) (b_2 : Int) (na_7 : Bool) (ka_8 : Int) (ma_9 : Int) (ea_10 : Int) (R : Value → World → Prop) (w : World) (h : numm_add.V2 f_0 a_1 b_2 na_7 ka_8 ma_9 ea_10 R w) : numm_add.L2 f_0 a_1 b_2 na_7 ka_8 ma_9 ea_10 R w :=
  seg_T good mixed Try.func121 600 false [.code (sub (bodyOf Try.f121) [1, 1])] [(0, (.int .i64 f_0)), (1, (.int .u64 a_1)), (2, (.int .u64 b_2)), (7, (.bool na_7)), (8, (.int .i64 ka_8)), (9, (.int .u64 ma_9)), (10, (.int .i64 ea_10))] w (Eq.mp (show numm_add.V2 f_0 a_1 b_2 na_7 ka_8 ma_9 ea_10 R w = seg Try.prog 121 136 Try.f121.results.toList numm_add.cuts R 600 false [.code (sub (bodyOf Try.f121) [1, 1])] [(0, (.int .i64 f_0)), (1, (.int .u64 a_1)), (2, (.int .u64 b_2)), (7, (.bool na_7)), (8, (.int .i64 ka_8)), (9, (.int .u64 ma_9)), (10, (.int .i64 ea_10))] w by kernel_rfl) h)
def numm_add.V3 (f_0 : Int) (a_1 : Int) (b_2 : Int) (na_7 : Bool) (ka_8 : Int) (ma_9 : Int) (ea_10 : Int) (nb_11 : Bool) (kb_12 : Int) (mb_13 : Int) (eb_14 : Int) (R : Value → World → Prop) (w : World) : Prop :=
  (cond (ka_8 == (2 : Int))
  (cond (kb_12 == (2 : Int))
  (numm_add.L4 f_0 a_1 (!(na_7 == nb_11)) R w)
  (numm_add.L4 f_0 a_1 false R w))
  (cond (kb_12 == (2 : Int))
  (R (.int .u64 b_2) w)
  (cond (ka_8 == (0 : Int))
  (cond (kb_12 == (0 : Int))
  (cond na_7
  (Runs Try.prog numm_sign.id #[(.int .i64 f_0), (.bool nb_11)] w fun r4 w5 => (∃ x6 : Int, (r4 = (.int .u64 x6) ∧ (R (.int .u64 x6) w5))))
  (Runs Try.prog numm_sign.id #[(.int .i64 f_0), (.bool false)] w fun r7 w8 => (∃ x9 : Int, (r7 = (.int .u64 x9) ∧ (R (.int .u64 x9) w8)))))
  (R (.int .u64 b_2) w))
  (cond (kb_12 == (0 : Int))
  (R (.int .u64 a_1) w)
  (Runs Try.prog numm_lift.id #[(.int .u64 ma_9), (.int .i64 ea_10), (.int .i64 61)] w fun r10 w11 => (∃ x12 : Int, ∃ x13 : Int, (r10 = (.tuple #[(.int .u64 x12), (.int .i64 x13)]) ∧ (numm_add.L5 f_0 na_7 x12 x13 nb_11 mb_13 eb_14 R w11))))))))
theorem numm_add.step3 (f_0 : Int) (a_1 : Int) (b_2 : Int) (na_7 : Bool) (ka_8 : Int) (ma_9 : Int) (ea_10 : Int) (nb_11 : Bool) (kb_12 : Int) (mb_13 : Int) (eb_14 : Int) (R : Value → World → Prop) (w : World) (h : numm_add.V3 f_0 a_1 b_2 na_7 ka_8 ma_9 ea_10 nb_11 kb_12 mb_13 eb_14 R w) : numm_add.L3 f_0 a_1 b_2 na_7 ka_8 ma_9 ea_10 nb_11 kb_12 mb_13 eb_14 R w :=
  seg_T good mixed Try.func121 600 false [.code (sub (bodyOf Try.f121) [1, 1, 1])] [(0, (.int .i64 f_0)), (1, (.int .u64 a_1)), (2, (.int .u64 b_2)), (7, (.bool na_7)), (8, (.int .i64 ka_8)), (9, (.int .u64 ma_9)), (10, (.int .i64 ea_10)), (11, (.bool nb_11)), (12, (.int .i64 kb_12)), (13, (.int .u64 mb_13)), (14, (.int .i64 eb_14))] w (Eq.mp (show numm_add.V3 f_0 a_1 b_2 na_7 ka_8 ma_9 ea_10 nb_11 kb_12 mb_13 eb_14 R w = seg Try.prog 121 136 Try.f121.results.toList numm_add.cuts R 600 false [.code (sub (bodyOf Try.f121) [1, 1, 1])] [(0, (.int .i64 f_0)), (1, (.int .u64 a_1)), (2, (.int .u64 b_2)), (7, (.bool na_7)), (8, (.int .i64 ka_8)), (9, (.int .u64 ma_9)), (10, (.int .i64 ea_10)), (11, (.bool nb_11)), (12, (.int .i64 kb_12)), (13, (.int .u64 mb_13)), (14, (.int .i64 eb_14))] w by kernel_rfl) h)
def numm_add.V4 (f_0 : Int) (a_1 : Int) (t_43 : Bool) (R : Value → World → Prop) (w : World) : Prop :=
  (cond t_43
  (Runs Try.prog numm_canon.id #[(.int .i64 f_0)] w fun r1 w2 => (∃ x3 : Int, (r1 = (.int .u64 x3) ∧ (R (.int .u64 x3) w2))))
  (R (.int .u64 a_1) w))
theorem numm_add.step4 (f_0 : Int) (a_1 : Int) (t_43 : Bool) (R : Value → World → Prop) (w : World) (h : numm_add.V4 f_0 a_1 t_43 R w) : numm_add.L4 f_0 a_1 t_43 R w :=
  seg_T good mixed Try.func121 600 false [.code (sub (bodyOf Try.f121) [1, 1, 1, 0, 1, 0, 0, 1]), .code (sub (bodyOf Try.f121) [1, 1, 1, 0, 1, 0, 1]), .code (sub (bodyOf Try.f121) [1, 1, 1, 1])] [(0, (.int .i64 f_0)), (1, (.int .u64 a_1)), (43, (.bool t_43))] w (Eq.mp (show numm_add.V4 f_0 a_1 t_43 R w = seg Try.prog 121 136 Try.f121.results.toList numm_add.cuts R 600 false [.code (sub (bodyOf Try.f121) [1, 1, 1, 0, 1, 0, 0, 1]), .code (sub (bodyOf Try.f121) [1, 1, 1, 0, 1, 0, 1]), .code (sub (bodyOf Try.f121) [1, 1, 1, 1])] [(0, (.int .i64 f_0)), (1, (.int .u64 a_1)), (43, (.bool t_43))] w by kernel_rfl) h)
def numm_add.V5 (f_0 : Int) (na_7 : Bool) (ma_9 : Int) (ea_10 : Int) (nb_11 : Bool) (mb_13 : Int) (eb_14 : Int) (R : Value → World → Prop) (w : World) : Prop :=
  (Runs Try.prog numm_lift.id #[(.int .u64 mb_13), (.int .i64 eb_14), (.int .i64 61)] w fun r1 w2 => (∃ x3 : Int, ∃ x4 : Int, (r1 = (.tuple #[(.int .u64 x3), (.int .i64 x4)]) ∧ (numm_add.L6 f_0 na_7 ma_9 ea_10 nb_11 x3 x4 R w2))))
theorem numm_add.step5 (f_0 : Int) (na_7 : Bool) (ma_9 : Int) (ea_10 : Int) (nb_11 : Bool) (mb_13 : Int) (eb_14 : Int) (R : Value → World → Prop) (w : World) (h : numm_add.V5 f_0 na_7 ma_9 ea_10 nb_11 mb_13 eb_14 R w) : numm_add.L5 f_0 na_7 ma_9 ea_10 nb_11 mb_13 eb_14 R w :=
  seg_T good mixed Try.func121 600 false [.code (sub (bodyOf Try.f121) [1, 1, 1, 1, 1, 1, 1, 1])] [(0, (.int .i64 f_0)), (7, (.bool na_7)), (9, (.int .u64 ma_9)), (10, (.int .i64 ea_10)), (11, (.bool nb_11)), (13, (.int .u64 mb_13)), (14, (.int .i64 eb_14))] w (Eq.mp (show numm_add.V5 f_0 na_7 ma_9 ea_10 nb_11 mb_13 eb_14 R w = seg Try.prog 121 136 Try.f121.results.toList numm_add.cuts R 600 false [.code (sub (bodyOf Try.f121) [1, 1, 1, 1, 1, 1, 1, 1])] [(0, (.int .i64 f_0)), (7, (.bool na_7)), (9, (.int .u64 ma_9)), (10, (.int .i64 ea_10)), (11, (.bool nb_11)), (13, (.int .u64 mb_13)), (14, (.int .i64 eb_14))] w by kernel_rfl) h)
def numm_add.V6 (f_0 : Int) (na_7 : Bool) (ma_9 : Int) (ea_10 : Int) (nb_11 : Bool) (mb_13 : Int) (eb_14 : Int) (R : Value → World → Prop) (w : World) : Prop :=
  (cond (decide (ea_10 < eb_14))
  (numm_add.L7 f_0 na_7 ma_9 ea_10 nb_11 mb_13 eb_14 true R w)
  (cond (ea_10 == eb_14)
  (numm_add.L7 f_0 na_7 ma_9 ea_10 nb_11 mb_13 eb_14 (decide (ma_9 < mb_13)) R w)
  (numm_add.L7 f_0 na_7 ma_9 ea_10 nb_11 mb_13 eb_14 false R w)))
theorem numm_add.step6 (f_0 : Int) (na_7 : Bool) (ma_9 : Int) (ea_10 : Int) (nb_11 : Bool) (mb_13 : Int) (eb_14 : Int) (R : Value → World → Prop) (w : World) (h : numm_add.V6 f_0 na_7 ma_9 ea_10 nb_11 mb_13 eb_14 R w) : numm_add.L6 f_0 na_7 ma_9 ea_10 nb_11 mb_13 eb_14 R w :=
  seg_T good mixed Try.func121 600 false [.code (sub (bodyOf Try.f121) [1, 1, 1, 1, 1, 1, 1, 1, 1])] [(0, (.int .i64 f_0)), (7, (.bool na_7)), (9, (.int .u64 ma_9)), (10, (.int .i64 ea_10)), (11, (.bool nb_11)), (13, (.int .u64 mb_13)), (14, (.int .i64 eb_14))] w (Eq.mp (show numm_add.V6 f_0 na_7 ma_9 ea_10 nb_11 mb_13 eb_14 R w = seg Try.prog 121 136 Try.f121.results.toList numm_add.cuts R 600 false [.code (sub (bodyOf Try.f121) [1, 1, 1, 1, 1, 1, 1, 1, 1])] [(0, (.int .i64 f_0)), (7, (.bool na_7)), (9, (.int .u64 ma_9)), (10, (.int .i64 ea_10)), (11, (.bool nb_11)), (13, (.int .u64 mb_13)), (14, (.int .i64 eb_14))] w by kernel_rfl) h)
def numm_add.V7 (f_0 : Int) (na_7 : Bool) (ma_9 : Int) (ea_10 : Int) (nb_11 : Bool) (mb_13 : Int) (eb_14 : Int) (t_88 : Bool) (R : Value → World → Prop) (w : World) : Prop :=
  (cond t_88
  (numm_add.L8 f_0 nb_11 ma_9 ea_10 na_7 mb_13 eb_14 R w)
  (numm_add.L9 f_0 na_7 ma_9 ea_10 nb_11 mb_13 eb_14 R w))
theorem numm_add.step7 (f_0 : Int) (na_7 : Bool) (ma_9 : Int) (ea_10 : Int) (nb_11 : Bool) (mb_13 : Int) (eb_14 : Int) (t_88 : Bool) (R : Value → World → Prop) (w : World) (h : numm_add.V7 f_0 na_7 ma_9 ea_10 nb_11 mb_13 eb_14 t_88 R w) : numm_add.L7 f_0 na_7 ma_9 ea_10 nb_11 mb_13 eb_14 t_88 R w :=
  seg_T good mixed Try.func121 600 false [.code (sub (bodyOf Try.f121) [1, 1, 1, 1, 1, 1, 1, 1, 1, 0, 1]), .code (sub (bodyOf Try.f121) [1, 1, 1, 1, 1, 1, 1, 1, 1, 1])] [(0, (.int .i64 f_0)), (7, (.bool na_7)), (9, (.int .u64 ma_9)), (10, (.int .i64 ea_10)), (11, (.bool nb_11)), (13, (.int .u64 mb_13)), (14, (.int .i64 eb_14)), (88, (.bool t_88))] w (Eq.mp (show numm_add.V7 f_0 na_7 ma_9 ea_10 nb_11 mb_13 eb_14 t_88 R w = seg Try.prog 121 136 Try.f121.results.toList numm_add.cuts R 600 false [.code (sub (bodyOf Try.f121) [1, 1, 1, 1, 1, 1, 1, 1, 1, 0, 1]), .code (sub (bodyOf Try.f121) [1, 1, 1, 1, 1, 1, 1, 1, 1, 1])] [(0, (.int .i64 f_0)), (7, (.bool na_7)), (9, (.int .u64 ma_9)), (10, (.int .i64 ea_10)), (11, (.bool nb_11)), (13, (.int .u64 mb_13)), (14, (.int .i64 eb_14)), (88, (.bool t_88))] w by kernel_rfl) h)
def numm_add.V8 (f_0 : Int) (na_7 : Bool) (ma_9 : Int) (ea_10 : Int) (nb_11 : Bool) (mb_13 : Int) (eb_14 : Int) (R : Value → World → Prop) (w : World) : Prop :=
  (numm_add.L9 f_0 na_7 mb_13 eb_14 nb_11 ma_9 ea_10 R w)
theorem numm_add.step8 (f_0 : Int) (na_7 : Bool) (ma_9 : Int) (ea_10 : Int) (nb_11 : Bool) (mb_13 : Int) (eb_14 : Int) (R : Value → World → Prop) (w : World) (h : numm_add.V8 f_0 na_7 ma_9 ea_10 nb_11 mb_13 eb_14 R w) : numm_add.L8 f_0 na_7 ma_9 ea_10 nb_11 mb_13 eb_14 R w :=
  seg_T good mixed Try.func121 600 false [.code (sub (bodyOf Try.f121) [1, 1, 1, 1, 1, 1, 1, 1, 1, 0, 1, 0, 1]), .code (sub (bodyOf Try.f121) [1, 1, 1, 1, 1, 1, 1, 1, 1, 1])] [(0, (.int .i64 f_0)), (7, (.bool na_7)), (9, (.int .u64 ma_9)), (10, (.int .i64 ea_10)), (11, (.bool nb_11)), (13, (.int .u64 mb_13)), (14, (.int .i64 eb_14))] w (Eq.mp (show numm_add.V8 f_0 na_7 ma_9 ea_10 nb_11 mb_13 eb_14 R w = seg Try.prog 121 136 Try.f121.results.toList numm_add.cuts R 600 false [.code (sub (bodyOf Try.f121) [1, 1, 1, 1, 1, 1, 1, 1, 1, 0, 1, 0, 1]), .code (sub (bodyOf Try.f121) [1, 1, 1, 1, 1, 1, 1, 1, 1, 1])] [(0, (.int .i64 f_0)), (7, (.bool na_7)), (9, (.int .u64 ma_9)), (10, (.int .i64 ea_10)), (11, (.bool nb_11)), (13, (.int .u64 mb_13)), (14, (.int .i64 eb_14))] w by kernel_rfl) h)
def numm_add.V9 (f_0 : Int) (na_7 : Bool) (ma_9 : Int) (ea_10 : Int) (nb_11 : Bool) (mb_13 : Int) (eb_14 : Int) (R : Value → World → Prop) (w : World) : Prop :=
  (numm_add.L10 f_0 na_7 ma_9 ea_10 nb_11 mb_13 (IntKind.wrap .i64 (ea_10 - eb_14)) R w)
theorem numm_add.step9 (f_0 : Int) (na_7 : Bool) (ma_9 : Int) (ea_10 : Int) (nb_11 : Bool) (mb_13 : Int) (eb_14 : Int) (R : Value → World → Prop) (w : World) (h : numm_add.V9 f_0 na_7 ma_9 ea_10 nb_11 mb_13 eb_14 R w) : numm_add.L9 f_0 na_7 ma_9 ea_10 nb_11 mb_13 eb_14 R w :=
  seg_T good mixed Try.func121 600 false [.code (sub (bodyOf Try.f121) [1, 1, 1, 1, 1, 1, 1, 1, 1, 1])] [(0, (.int .i64 f_0)), (7, (.bool na_7)), (9, (.int .u64 ma_9)), (10, (.int .i64 ea_10)), (11, (.bool nb_11)), (13, (.int .u64 mb_13)), (14, (.int .i64 eb_14))] w (Eq.mp (show numm_add.V9 f_0 na_7 ma_9 ea_10 nb_11 mb_13 eb_14 R w = seg Try.prog 121 136 Try.f121.results.toList numm_add.cuts R 600 false [.code (sub (bodyOf Try.f121) [1, 1, 1, 1, 1, 1, 1, 1, 1, 1])] [(0, (.int .i64 f_0)), (7, (.bool na_7)), (9, (.int .u64 ma_9)), (10, (.int .i64 ea_10)), (11, (.bool nb_11)), (13, (.int .u64 mb_13)), (14, (.int .i64 eb_14))] w by kernel_rfl) h)
def numm_add.V10 (f_0 : Int) (na_7 : Bool) (ma_9 : Int) (ea_10 : Int) (nb_11 : Bool) (mb_13 : Int) (d_15 : Int) (R : Value → World → Prop) (w : World) : Prop :=
  (numm_add.L11 f_0 na_7 ma_9 ea_10 nb_11 mb_13 d_15 R w)
theorem numm_add.step10 (f_0 : Int) (na_7 : Bool) (ma_9 : Int) (ea_10 : Int) (nb_11 : Bool) (mb_13 : Int) (d_15 : Int) (R : Value → World → Prop) (w : World) (h : numm_add.V10 f_0 na_7 ma_9 ea_10 nb_11 mb_13 d_15 R w) : numm_add.L10 f_0 na_7 ma_9 ea_10 nb_11 mb_13 d_15 R w :=
  seg_T good mixed Try.func121 600 false [.code (sub (bodyOf Try.f121) [1, 1, 1, 1, 1, 1, 1, 1, 1, 1, 1])] [(0, (.int .i64 f_0)), (7, (.bool na_7)), (9, (.int .u64 ma_9)), (10, (.int .i64 ea_10)), (11, (.bool nb_11)), (13, (.int .u64 mb_13)), (15, (.int .i64 d_15))] w (Eq.mp (show numm_add.V10 f_0 na_7 ma_9 ea_10 nb_11 mb_13 d_15 R w = seg Try.prog 121 136 Try.f121.results.toList numm_add.cuts R 600 false [.code (sub (bodyOf Try.f121) [1, 1, 1, 1, 1, 1, 1, 1, 1, 1, 1])] [(0, (.int .i64 f_0)), (7, (.bool na_7)), (9, (.int .u64 ma_9)), (10, (.int .i64 ea_10)), (11, (.bool nb_11)), (13, (.int .u64 mb_13)), (15, (.int .i64 d_15))] w by kernel_rfl) h)
def numm_add.V11 (f_0 : Int) (na_7 : Bool) (ma_9 : Int) (ea_10 : Int) (nb_11 : Bool) (mb_13 : Int) (d_15 : Int) (R : Value → World → Prop) (w : World) : Prop :=
  (cond (decide (d_15 ≥ (64 : Int)))
  (numm_add.L12 f_0 na_7 ma_9 ea_10 nb_11 0 true R w)
  (0 ≤ (IntKind.wrap .u64 d_15) ∧ ((IntKind.u64 = IntKind.u64) ∧ (IntKind.wrap .u64 ((1 : Int) * 2 ^ (min (Int.toNat (IntKind.wrap .u64 d_15)) (IntKind.bits .u64)))) ≠ 0 ∧ (numm_add.L13 f_0 na_7 ma_9 ea_10 nb_11 mb_13 d_15 (Int.tmod mb_13 (IntKind.wrap .u64 ((1 : Int) * 2 ^ (min (Int.toNat (IntKind.wrap .u64 d_15)) (IntKind.bits .u64))))) R w))))
theorem numm_add.step11 (f_0 : Int) (na_7 : Bool) (ma_9 : Int) (ea_10 : Int) (nb_11 : Bool) (mb_13 : Int) (d_15 : Int) (R : Value → World → Prop) (w : World) (h : numm_add.V11 f_0 na_7 ma_9 ea_10 nb_11 mb_13 d_15 R w) : numm_add.L11 f_0 na_7 ma_9 ea_10 nb_11 mb_13 d_15 R w :=
  seg_T good mixed Try.func121 600 false [.code (sub (bodyOf Try.f121) [1, 1, 1, 1, 1, 1, 1, 1, 1, 1, 1, 1])] [(0, (.int .i64 f_0)), (7, (.bool na_7)), (9, (.int .u64 ma_9)), (10, (.int .i64 ea_10)), (11, (.bool nb_11)), (13, (.int .u64 mb_13)), (15, (.int .i64 d_15))] w (Eq.mp (show numm_add.V11 f_0 na_7 ma_9 ea_10 nb_11 mb_13 d_15 R w = seg Try.prog 121 136 Try.f121.results.toList numm_add.cuts R 600 false [.code (sub (bodyOf Try.f121) [1, 1, 1, 1, 1, 1, 1, 1, 1, 1, 1, 1])] [(0, (.int .i64 f_0)), (7, (.bool na_7)), (9, (.int .u64 ma_9)), (10, (.int .i64 ea_10)), (11, (.bool nb_11)), (13, (.int .u64 mb_13)), (15, (.int .i64 d_15))] w by kernel_rfl) h)
def numm_add.V12 (f_0 : Int) (na_7 : Bool) (ma_9 : Int) (ea_10 : Int) (nb_11 : Bool) (mb_13 : Int) (sticky_16 : Bool) (R : Value → World → Prop) (w : World) : Prop :=
  (cond (na_7 == nb_11)
  (Runs Try.prog numm_round.id #[(.int .i64 f_0), (.bool na_7), (.int .u64 (IntKind.wrap .u64 (ma_9 + mb_13))), (.int .i64 ea_10), (.bool sticky_16)] w fun r1 w2 => (∃ x3 : Int, (r1 = (.int .u64 x3) ∧ (R (.int .u64 x3) w2))))
  (numm_add.L14 f_0 na_7 ea_10 sticky_16 (IntKind.wrap .u64 (ma_9 - mb_13)) R w))
theorem numm_add.step12 (f_0 : Int) (na_7 : Bool) (ma_9 : Int) (ea_10 : Int) (nb_11 : Bool) (mb_13 : Int) (sticky_16 : Bool) (R : Value → World → Prop) (w : World) (h : numm_add.V12 f_0 na_7 ma_9 ea_10 nb_11 mb_13 sticky_16 R w) : numm_add.L12 f_0 na_7 ma_9 ea_10 nb_11 mb_13 sticky_16 R w :=
  seg_T good mixed Try.func121 600 false [.code (sub (bodyOf Try.f121) [1, 1, 1, 1, 1, 1, 1, 1, 1, 1, 1, 1, 1])] [(0, (.int .i64 f_0)), (7, (.bool na_7)), (9, (.int .u64 ma_9)), (10, (.int .i64 ea_10)), (11, (.bool nb_11)), (13, (.int .u64 mb_13)), (16, (.bool sticky_16))] w (Eq.mp (show numm_add.V12 f_0 na_7 ma_9 ea_10 nb_11 mb_13 sticky_16 R w = seg Try.prog 121 136 Try.f121.results.toList numm_add.cuts R 600 false [.code (sub (bodyOf Try.f121) [1, 1, 1, 1, 1, 1, 1, 1, 1, 1, 1, 1, 1])] [(0, (.int .i64 f_0)), (7, (.bool na_7)), (9, (.int .u64 ma_9)), (10, (.int .i64 ea_10)), (11, (.bool nb_11)), (13, (.int .u64 mb_13)), (16, (.bool sticky_16))] w by kernel_rfl) h)
def numm_add.V13 (f_0 : Int) (na_7 : Bool) (ma_9 : Int) (ea_10 : Int) (nb_11 : Bool) (mb_13 : Int) (d_15 : Int) (low_17 : Int) (R : Value → World → Prop) (w : World) : Prop :=
  (0 ≤ (IntKind.wrap .u64 d_15) ∧ (numm_add.L12 f_0 na_7 ma_9 ea_10 nb_11 (Int.fdiv mb_13 (2 ^ (min (Int.toNat (IntKind.wrap .u64 d_15)) (IntKind.bits .u64)))) (low_17 != (0 : Int)) R w))
theorem numm_add.step13 (f_0 : Int) (na_7 : Bool) (ma_9 : Int) (ea_10 : Int) (nb_11 : Bool) (mb_13 : Int) (d_15 : Int) (low_17 : Int) (R : Value → World → Prop) (w : World) (h : numm_add.V13 f_0 na_7 ma_9 ea_10 nb_11 mb_13 d_15 low_17 R w) : numm_add.L13 f_0 na_7 ma_9 ea_10 nb_11 mb_13 d_15 low_17 R w :=
  seg_T good mixed Try.func121 600 false [.code (sub (bodyOf Try.f121) [1, 1, 1, 1, 1, 1, 1, 1, 1, 1, 1, 1, 0, 1, 1, 1]), .code (sub (bodyOf Try.f121) [1, 1, 1, 1, 1, 1, 1, 1, 1, 1, 1, 1, 1])] [(0, (.int .i64 f_0)), (7, (.bool na_7)), (9, (.int .u64 ma_9)), (10, (.int .i64 ea_10)), (11, (.bool nb_11)), (13, (.int .u64 mb_13)), (15, (.int .i64 d_15)), (17, (.int .u64 low_17))] w (Eq.mp (show numm_add.V13 f_0 na_7 ma_9 ea_10 nb_11 mb_13 d_15 low_17 R w = seg Try.prog 121 136 Try.f121.results.toList numm_add.cuts R 600 false [.code (sub (bodyOf Try.f121) [1, 1, 1, 1, 1, 1, 1, 1, 1, 1, 1, 1, 0, 1, 1, 1]), .code (sub (bodyOf Try.f121) [1, 1, 1, 1, 1, 1, 1, 1, 1, 1, 1, 1, 1])] [(0, (.int .i64 f_0)), (7, (.bool na_7)), (9, (.int .u64 ma_9)), (10, (.int .i64 ea_10)), (11, (.bool nb_11)), (13, (.int .u64 mb_13)), (15, (.int .i64 d_15)), (17, (.int .u64 low_17))] w by kernel_rfl) h)
def numm_add.V14 (f_0 : Int) (na_7 : Bool) (ea_10 : Int) (sticky_16 : Bool) (m_18 : Int) (R : Value → World → Prop) (w : World) : Prop :=
  (cond sticky_16
  (numm_add.L15 f_0 na_7 ea_10 sticky_16 (IntKind.wrap .u64 (m_18 - (1 : Int))) R w)
  (numm_add.L15 f_0 na_7 ea_10 sticky_16 m_18 R w))
theorem numm_add.step14 (f_0 : Int) (na_7 : Bool) (ea_10 : Int) (sticky_16 : Bool) (m_18 : Int) (R : Value → World → Prop) (w : World) (h : numm_add.V14 f_0 na_7 ea_10 sticky_16 m_18 R w) : numm_add.L14 f_0 na_7 ea_10 sticky_16 m_18 R w :=
  seg_T good mixed Try.func121 600 false [.code (sub (bodyOf Try.f121) [1, 1, 1, 1, 1, 1, 1, 1, 1, 1, 1, 1, 1, 1, 1])] [(0, (.int .i64 f_0)), (7, (.bool na_7)), (10, (.int .i64 ea_10)), (16, (.bool sticky_16)), (18, (.int .u64 m_18))] w (Eq.mp (show numm_add.V14 f_0 na_7 ea_10 sticky_16 m_18 R w = seg Try.prog 121 136 Try.f121.results.toList numm_add.cuts R 600 false [.code (sub (bodyOf Try.f121) [1, 1, 1, 1, 1, 1, 1, 1, 1, 1, 1, 1, 1, 1, 1])] [(0, (.int .i64 f_0)), (7, (.bool na_7)), (10, (.int .i64 ea_10)), (16, (.bool sticky_16)), (18, (.int .u64 m_18))] w by kernel_rfl) h)
def numm_add.V15 (f_0 : Int) (na_7 : Bool) (ea_10 : Int) (sticky_16 : Bool) (m_18 : Int) (R : Value → World → Prop) (w : World) : Prop :=
  (cond (m_18 == (0 : Int))
  (R (.int .u64 0) w)
  (Runs Try.prog numm_round.id #[(.int .i64 f_0), (.bool na_7), (.int .u64 m_18), (.int .i64 ea_10), (.bool sticky_16)] w fun r1 w2 => (∃ x3 : Int, (r1 = (.int .u64 x3) ∧ (R (.int .u64 x3) w2)))))
theorem numm_add.step15 (f_0 : Int) (na_7 : Bool) (ea_10 : Int) (sticky_16 : Bool) (m_18 : Int) (R : Value → World → Prop) (w : World) (h : numm_add.V15 f_0 na_7 ea_10 sticky_16 m_18 R w) : numm_add.L15 f_0 na_7 ea_10 sticky_16 m_18 R w :=
  seg_T good mixed Try.func121 600 false [.code (sub (bodyOf Try.f121) [1, 1, 1, 1, 1, 1, 1, 1, 1, 1, 1, 1, 1, 1, 1, 1])] [(0, (.int .i64 f_0)), (7, (.bool na_7)), (10, (.int .i64 ea_10)), (16, (.bool sticky_16)), (18, (.int .u64 m_18))] w (Eq.mp (show numm_add.V15 f_0 na_7 ea_10 sticky_16 m_18 R w = seg Try.prog 121 136 Try.f121.results.toList numm_add.cuts R 600 false [.code (sub (bodyOf Try.f121) [1, 1, 1, 1, 1, 1, 1, 1, 1, 1, 1, 1, 1, 1, 1, 1])] [(0, (.int .i64 f_0)), (7, (.bool na_7)), (10, (.int .i64 ea_10)), (16, (.bool sticky_16)), (18, (.int .u64 m_18))] w by kernel_rfl) h)
def numm_add.V (f_0 : Int) (a_1 : Int) (b_2 : Int) (R : Value → World → Prop) (w : World) : Prop :=
  (numm_add.L1 f_0 a_1 b_2 R w)
theorem numm_add.enter (f_0 : Int) (a_1 : Int) (b_2 : Int) (R : Value → World → Prop) (w : World) (h : numm_add.V f_0 a_1 b_2 R w) : Runs Try.prog numm_add.id #[(.int .i64 f_0), (.int .u64 a_1), (.int .u64 b_2)] w R :=
  Runs.enter (c := bodyOf Try.f121) (N := 136) Try.func121 (by kernel_rfl) (by kernel_rfl) (by kernel_rfl) (seg_T good mixed Try.func121 600 false [.code (bodyOf Try.f121)] [(0, (.int .i64 f_0)), (1, (.int .u64 a_1)), (2, (.int .u64 b_2))] w (Eq.mp (show numm_add.V f_0 a_1 b_2 R w = seg Try.prog 121 136 Try.f121.results.toList numm_add.cuts R 600 false [.code (bodyOf Try.f121)] [(0, (.int .i64 f_0)), (1, (.int .u64 a_1)), (2, (.int .u64 b_2))] w by kernel_rfl) h))

/-! e2e/numm.mul -/
def numm_mul.cuts : List (Nat × List Nat) := [(2, [0, 1, 2]), (4, [0, 2, 7, 8, 9, 10]), (6, [0, 7, 8, 9, 10, 11, 12, 13, 14]), (8, [0, 8, 9, 10, 12, 13, 14, 15]), (10, [0, 8, 9, 10, 12, 13, 14, 15, 42]), (12, [0, 15, 48]), (18, [0, 9, 10, 13, 14, 15, 59]), (22, [0, 9, 10, 13, 14, 15]), (24, [0, 9, 10, 13, 14, 15]), (26, [0, 10, 14, 15, 16, 17])]
def numm_mul.L1 (f_0 : Int) (a_1 : Int) (b_2 : Int) (R : Value → World → Prop) (w : World) : Prop :=
  T Try.prog 122 91 [.code (sub (bodyOf Try.f122) [1])] [(0, (.int .i64 f_0)), (1, (.int .u64 a_1)), (2, (.int .u64 b_2))] w R
def numm_mul.L2 (f_0 : Int) (b_2 : Int) (na_7 : Bool) (ka_8 : Int) (ma_9 : Int) (ea_10 : Int) (R : Value → World → Prop) (w : World) : Prop :=
  T Try.prog 122 91 [.code (sub (bodyOf Try.f122) [1, 1])] [(0, (.int .i64 f_0)), (2, (.int .u64 b_2)), (7, (.bool na_7)), (8, (.int .i64 ka_8)), (9, (.int .u64 ma_9)), (10, (.int .i64 ea_10))] w R
def numm_mul.L3 (f_0 : Int) (na_7 : Bool) (ka_8 : Int) (ma_9 : Int) (ea_10 : Int) (nb_11 : Bool) (kb_12 : Int) (mb_13 : Int) (eb_14 : Int) (R : Value → World → Prop) (w : World) : Prop :=
  T Try.prog 122 91 [.code (sub (bodyOf Try.f122) [1, 1, 1])] [(0, (.int .i64 f_0)), (7, (.bool na_7)), (8, (.int .i64 ka_8)), (9, (.int .u64 ma_9)), (10, (.int .i64 ea_10)), (11, (.bool nb_11)), (12, (.int .i64 kb_12)), (13, (.int .u64 mb_13)), (14, (.int .i64 eb_14))] w R
def numm_mul.L4 (f_0 : Int) (ka_8 : Int) (ma_9 : Int) (ea_10 : Int) (kb_12 : Int) (mb_13 : Int) (eb_14 : Int) (neg_15 : Bool) (R : Value → World → Prop) (w : World) : Prop :=
  T Try.prog 122 91 [.code (sub (bodyOf Try.f122) [1, 1, 1, 1])] [(0, (.int .i64 f_0)), (8, (.int .i64 ka_8)), (9, (.int .u64 ma_9)), (10, (.int .i64 ea_10)), (12, (.int .i64 kb_12)), (13, (.int .u64 mb_13)), (14, (.int .i64 eb_14)), (15, (.bool neg_15))] w R
def numm_mul.L5 (f_0 : Int) (ka_8 : Int) (ma_9 : Int) (ea_10 : Int) (kb_12 : Int) (mb_13 : Int) (eb_14 : Int) (neg_15 : Bool) (t_42 : Bool) (R : Value → World → Prop) (w : World) : Prop :=
  T Try.prog 122 91 [.code (sub (bodyOf Try.f122) [1, 1, 1, 1, 0, 1]), .code (sub (bodyOf Try.f122) [1, 1, 1, 1, 1])] [(0, (.int .i64 f_0)), (8, (.int .i64 ka_8)), (9, (.int .u64 ma_9)), (10, (.int .i64 ea_10)), (12, (.int .i64 kb_12)), (13, (.int .u64 mb_13)), (14, (.int .i64 eb_14)), (15, (.bool neg_15)), (42, (.bool t_42))] w R
def numm_mul.L6 (f_0 : Int) (neg_15 : Bool) (t_48 : Bool) (R : Value → World → Prop) (w : World) : Prop :=
  T Try.prog 122 91 [.code (sub (bodyOf Try.f122) [1, 1, 1, 1, 0, 1, 0, 0, 1]), .code (sub (bodyOf Try.f122) [1, 1, 1, 1, 0, 1, 0, 1]), .code (sub (bodyOf Try.f122) [1, 1, 1, 1, 1])] [(0, (.int .i64 f_0)), (15, (.bool neg_15)), (48, (.bool t_48))] w R
def numm_mul.L7 (f_0 : Int) (ma_9 : Int) (ea_10 : Int) (mb_13 : Int) (eb_14 : Int) (neg_15 : Bool) (t_59 : Bool) (R : Value → World → Prop) (w : World) : Prop :=
  T Try.prog 122 91 [.code (sub (bodyOf Try.f122) [1, 1, 1, 1, 1, 0, 1]), .code (sub (bodyOf Try.f122) [1, 1, 1, 1, 1, 1])] [(0, (.int .i64 f_0)), (9, (.int .u64 ma_9)), (10, (.int .i64 ea_10)), (13, (.int .u64 mb_13)), (14, (.int .i64 eb_14)), (15, (.bool neg_15)), (59, (.bool t_59))] w R
def numm_mul.L8 (f_0 : Int) (ma_9 : Int) (ea_10 : Int) (mb_13 : Int) (eb_14 : Int) (neg_15 : Bool) (R : Value → World → Prop) (w : World) : Prop :=
  T Try.prog 122 91 [.code (sub (bodyOf Try.f122) [1, 1, 1, 1, 1, 1, 1])] [(0, (.int .i64 f_0)), (9, (.int .u64 ma_9)), (10, (.int .i64 ea_10)), (13, (.int .u64 mb_13)), (14, (.int .i64 eb_14)), (15, (.bool neg_15))] w R
def numm_mul.L9 (f_0 : Int) (ma_9 : Int) (ea_10 : Int) (mb_13 : Int) (eb_14 : Int) (neg_15 : Bool) (R : Value → World → Prop) (w : World) : Prop :=
  T Try.prog 122 91 [.code (sub (bodyOf Try.f122) [1, 1, 1, 1, 1, 1, 1, 1])] [(0, (.int .i64 f_0)), (9, (.int .u64 ma_9)), (10, (.int .i64 ea_10)), (13, (.int .u64 mb_13)), (14, (.int .i64 eb_14)), (15, (.bool neg_15))] w R
def numm_mul.L10 (f_0 : Int) (ea_10 : Int) (eb_14 : Int) (neg_15 : Bool) (hi_16 : Int) (lo_17 : Int) (R : Value → World → Prop) (w : World) : Prop :=
  T Try.prog 122 91 [.code (sub (bodyOf Try.f122) [1, 1, 1, 1, 1, 1, 1, 1, 1])] [(0, (.int .i64 f_0)), (10, (.int .i64 ea_10)), (14, (.int .i64 eb_14)), (15, (.bool neg_15)), (16, (.int .u64 hi_16)), (17, (.int .u64 lo_17))] w R
def numm_mul.V1 (f_0 : Int) (a_1 : Int) (b_2 : Int) (R : Value → World → Prop) (w : World) : Prop :=
  (Runs Try.prog numm_unpack.id #[(.int .i64 f_0), (.int .u64 a_1)] w fun r1 w2 => (∃ x3 : Bool, ∃ x4 : Int, ∃ x5 : Int, ∃ x6 : Int, (r1 = (.tuple #[(.bool x3), (.int .i64 x4), (.int .u64 x5), (.int .i64 x6)]) ∧ (numm_mul.L2 f_0 b_2 x3 x4 x5 x6 R w2))))
theorem numm_mul.step1 (f_0 : Int) (a_1 : Int) (b_2 : Int) (R : Value → World → Prop) (w : World) (h : numm_mul.V1 f_0 a_1 b_2 R w) : numm_mul.L1 f_0 a_1 b_2 R w :=
  seg_T good mixed Try.func122 600 false [.code (sub (bodyOf Try.f122) [1])] [(0, (.int .i64 f_0)), (1, (.int .u64 a_1)), (2, (.int .u64 b_2))] w (Eq.mp (show numm_mul.V1 f_0 a_1 b_2 R w = seg Try.prog 122 91 Try.f122.results.toList numm_mul.cuts R 600 false [.code (sub (bodyOf Try.f122) [1])] [(0, (.int .i64 f_0)), (1, (.int .u64 a_1)), (2, (.int .u64 b_2))] w by kernel_rfl) h)
def numm_mul.V2 (f_0 : Int) (b_2 : Int) (na_7 : Bool) (ka_8 : Int) (ma_9 : Int) (ea_10 : Int) (R : Value → World → Prop) (w : World) : Prop :=
  (Runs Try.prog numm_unpack.id #[(.int .i64 f_0), (.int .u64 b_2)] w fun r1 w2 => (∃ x3 : Bool, ∃ x4 : Int, ∃ x5 : Int, ∃ x6 : Int, (r1 = (.tuple #[(.bool x3), (.int .i64 x4), (.int .u64 x5), (.int .i64 x6)]) ∧ (numm_mul.L3 f_0 na_7 ka_8 ma_9 ea_10 x3 x4 x5 x6 R w2))))
theorem numm_mul.step2 (f_0 : Int) (b_2 : Int) (na_7 : Bool) (ka_8 : Int) (ma_9 : Int) (ea_10 : Int) (R : Value → World → Prop) (w : World) (h : numm_mul.V2 f_0 b_2 na_7 ka_8 ma_9 ea_10 R w) : numm_mul.L2 f_0 b_2 na_7 ka_8 ma_9 ea_10 R w :=
  seg_T good mixed Try.func122 600 false [.code (sub (bodyOf Try.f122) [1, 1])] [(0, (.int .i64 f_0)), (2, (.int .u64 b_2)), (7, (.bool na_7)), (8, (.int .i64 ka_8)), (9, (.int .u64 ma_9)), (10, (.int .i64 ea_10))] w (Eq.mp (show numm_mul.V2 f_0 b_2 na_7 ka_8 ma_9 ea_10 R w = seg Try.prog 122 91 Try.f122.results.toList numm_mul.cuts R 600 false [.code (sub (bodyOf Try.f122) [1, 1])] [(0, (.int .i64 f_0)), (2, (.int .u64 b_2)), (7, (.bool na_7)), (8, (.int .i64 ka_8)), (9, (.int .u64 ma_9)), (10, (.int .i64 ea_10))] w by kernel_rfl) h)
def numm_mul.V3 (f_0 : Int) (na_7 : Bool) (ka_8 : Int) (ma_9 : Int) (ea_10 : Int) (nb_11 : Bool) (kb_12 : Int) (mb_13 : Int) (eb_14 : Int) (R : Value → World → Prop) (w : World) : Prop :=
  (numm_mul.L4 f_0 ka_8 ma_9 ea_10 kb_12 mb_13 eb_14 (!(na_7 == nb_11)) R w)
theorem numm_mul.step3 (f_0 : Int) (na_7 : Bool) (ka_8 : Int) (ma_9 : Int) (ea_10 : Int) (nb_11 : Bool) (kb_12 : Int) (mb_13 : Int) (eb_14 : Int) (R : Value → World → Prop) (w : World) (h : numm_mul.V3 f_0 na_7 ka_8 ma_9 ea_10 nb_11 kb_12 mb_13 eb_14 R w) : numm_mul.L3 f_0 na_7 ka_8 ma_9 ea_10 nb_11 kb_12 mb_13 eb_14 R w :=
  seg_T good mixed Try.func122 600 false [.code (sub (bodyOf Try.f122) [1, 1, 1])] [(0, (.int .i64 f_0)), (7, (.bool na_7)), (8, (.int .i64 ka_8)), (9, (.int .u64 ma_9)), (10, (.int .i64 ea_10)), (11, (.bool nb_11)), (12, (.int .i64 kb_12)), (13, (.int .u64 mb_13)), (14, (.int .i64 eb_14))] w (Eq.mp (show numm_mul.V3 f_0 na_7 ka_8 ma_9 ea_10 nb_11 kb_12 mb_13 eb_14 R w = seg Try.prog 122 91 Try.f122.results.toList numm_mul.cuts R 600 false [.code (sub (bodyOf Try.f122) [1, 1, 1])] [(0, (.int .i64 f_0)), (7, (.bool na_7)), (8, (.int .i64 ka_8)), (9, (.int .u64 ma_9)), (10, (.int .i64 ea_10)), (11, (.bool nb_11)), (12, (.int .i64 kb_12)), (13, (.int .u64 mb_13)), (14, (.int .i64 eb_14))] w by kernel_rfl) h)
def numm_mul.V4 (f_0 : Int) (ka_8 : Int) (ma_9 : Int) (ea_10 : Int) (kb_12 : Int) (mb_13 : Int) (eb_14 : Int) (neg_15 : Bool) (R : Value → World → Prop) (w : World) : Prop :=
  (cond (ka_8 == (2 : Int))
  (numm_mul.L5 f_0 ka_8 ma_9 ea_10 kb_12 mb_13 eb_14 neg_15 true R w)
  (numm_mul.L5 f_0 ka_8 ma_9 ea_10 kb_12 mb_13 eb_14 neg_15 (kb_12 == (2 : Int)) R w))
theorem numm_mul.step4 (f_0 : Int) (ka_8 : Int) (ma_9 : Int) (ea_10 : Int) (kb_12 : Int) (mb_13 : Int) (eb_14 : Int) (neg_15 : Bool) (R : Value → World → Prop) (w : World) (h : numm_mul.V4 f_0 ka_8 ma_9 ea_10 kb_12 mb_13 eb_14 neg_15 R w) : numm_mul.L4 f_0 ka_8 ma_9 ea_10 kb_12 mb_13 eb_14 neg_15 R w :=
  seg_T good mixed Try.func122 600 false [.code (sub (bodyOf Try.f122) [1, 1, 1, 1])] [(0, (.int .i64 f_0)), (8, (.int .i64 ka_8)), (9, (.int .u64 ma_9)), (10, (.int .i64 ea_10)), (12, (.int .i64 kb_12)), (13, (.int .u64 mb_13)), (14, (.int .i64 eb_14)), (15, (.bool neg_15))] w (Eq.mp (show numm_mul.V4 f_0 ka_8 ma_9 ea_10 kb_12 mb_13 eb_14 neg_15 R w = seg Try.prog 122 91 Try.f122.results.toList numm_mul.cuts R 600 false [.code (sub (bodyOf Try.f122) [1, 1, 1, 1])] [(0, (.int .i64 f_0)), (8, (.int .i64 ka_8)), (9, (.int .u64 ma_9)), (10, (.int .i64 ea_10)), (12, (.int .i64 kb_12)), (13, (.int .u64 mb_13)), (14, (.int .i64 eb_14)), (15, (.bool neg_15))] w by kernel_rfl) h)
def numm_mul.V5 (f_0 : Int) (ka_8 : Int) (ma_9 : Int) (ea_10 : Int) (kb_12 : Int) (mb_13 : Int) (eb_14 : Int) (neg_15 : Bool) (t_42 : Bool) (R : Value → World → Prop) (w : World) : Prop :=
  (cond t_42
  (cond (ka_8 == (0 : Int))
  (numm_mul.L6 f_0 neg_15 true R w)
  (numm_mul.L6 f_0 neg_15 (kb_12 == (0 : Int)) R w))
  (cond (ka_8 == (0 : Int))
  (numm_mul.L7 f_0 ma_9 ea_10 mb_13 eb_14 neg_15 true R w)
  (numm_mul.L7 f_0 ma_9 ea_10 mb_13 eb_14 neg_15 (kb_12 == (0 : Int)) R w)))
theorem numm_mul.step5 (f_0 : Int) (ka_8 : Int) (ma_9 : Int) (ea_10 : Int) (kb_12 : Int) (mb_13 : Int) (eb_14 : Int) (neg_15 : Bool) (t_42 : Bool) (R : Value → World → Prop) (w : World) (h : numm_mul.V5 f_0 ka_8 ma_9 ea_10 kb_12 mb_13 eb_14 neg_15 t_42 R w) : numm_mul.L5 f_0 ka_8 ma_9 ea_10 kb_12 mb_13 eb_14 neg_15 t_42 R w :=
  seg_T good mixed Try.func122 600 false [.code (sub (bodyOf Try.f122) [1, 1, 1, 1, 0, 1]), .code (sub (bodyOf Try.f122) [1, 1, 1, 1, 1])] [(0, (.int .i64 f_0)), (8, (.int .i64 ka_8)), (9, (.int .u64 ma_9)), (10, (.int .i64 ea_10)), (12, (.int .i64 kb_12)), (13, (.int .u64 mb_13)), (14, (.int .i64 eb_14)), (15, (.bool neg_15)), (42, (.bool t_42))] w (Eq.mp (show numm_mul.V5 f_0 ka_8 ma_9 ea_10 kb_12 mb_13 eb_14 neg_15 t_42 R w = seg Try.prog 122 91 Try.f122.results.toList numm_mul.cuts R 600 false [.code (sub (bodyOf Try.f122) [1, 1, 1, 1, 0, 1]), .code (sub (bodyOf Try.f122) [1, 1, 1, 1, 1])] [(0, (.int .i64 f_0)), (8, (.int .i64 ka_8)), (9, (.int .u64 ma_9)), (10, (.int .i64 ea_10)), (12, (.int .i64 kb_12)), (13, (.int .u64 mb_13)), (14, (.int .i64 eb_14)), (15, (.bool neg_15)), (42, (.bool t_42))] w by kernel_rfl) h)
def numm_mul.V6 (f_0 : Int) (neg_15 : Bool) (t_48 : Bool) (R : Value → World → Prop) (w : World) : Prop :=
  (cond t_48
  (Runs Try.prog numm_canon.id #[(.int .i64 f_0)] w fun r1 w2 => (∃ x3 : Int, (r1 = (.int .u64 x3) ∧ (R (.int .u64 x3) w2))))
  (Runs Try.prog numm_infinity.id #[(.int .i64 f_0), (.bool neg_15)] w fun r4 w5 => (∃ x6 : Int, (r4 = (.int .u64 x6) ∧ (R (.int .u64 x6) w5)))))
theorem numm_mul.step6 (f_0 : Int) (neg_15 : Bool) (t_48 : Bool) (R : Value → World → Prop) (w : World) (h : numm_mul.V6 f_0 neg_15 t_48 R w) : numm_mul.L6 f_0 neg_15 t_48 R w :=
  seg_T good mixed Try.func122 600 false [.code (sub (bodyOf Try.f122) [1, 1, 1, 1, 0, 1, 0, 0, 1]), .code (sub (bodyOf Try.f122) [1, 1, 1, 1, 0, 1, 0, 1]), .code (sub (bodyOf Try.f122) [1, 1, 1, 1, 1])] [(0, (.int .i64 f_0)), (15, (.bool neg_15)), (48, (.bool t_48))] w (Eq.mp (show numm_mul.V6 f_0 neg_15 t_48 R w = seg Try.prog 122 91 Try.f122.results.toList numm_mul.cuts R 600 false [.code (sub (bodyOf Try.f122) [1, 1, 1, 1, 0, 1, 0, 0, 1]), .code (sub (bodyOf Try.f122) [1, 1, 1, 1, 0, 1, 0, 1]), .code (sub (bodyOf Try.f122) [1, 1, 1, 1, 1])] [(0, (.int .i64 f_0)), (15, (.bool neg_15)), (48, (.bool t_48))] w by kernel_rfl) h)
def numm_mul.V7 (f_0 : Int) (ma_9 : Int) (ea_10 : Int) (mb_13 : Int) (eb_14 : Int) (neg_15 : Bool) (t_59 : Bool) (R : Value → World → Prop) (w : World) : Prop :=
  (cond t_59
  (Runs Try.prog numm_sign.id #[(.int .i64 f_0), (.bool neg_15)] w fun r1 w2 => (∃ x3 : Int, (r1 = (.int .u64 x3) ∧ (R (.int .u64 x3) w2))))
  (Runs Try.prog numm_lift.id #[(.int .u64 ma_9), (.int .i64 ea_10), (.int .i64 63)] w fun r4 w5 => (∃ x6 : Int, ∃ x7 : Int, (r4 = (.tuple #[(.int .u64 x6), (.int .i64 x7)]) ∧ (numm_mul.L8 f_0 x6 x7 mb_13 eb_14 neg_15 R w5)))))
theorem numm_mul.step7 (f_0 : Int) (ma_9 : Int) (ea_10 : Int) (mb_13 : Int) (eb_14 : Int) (neg_15 : Bool) (t_59 : Bool) (R : Value → World → Prop) (w : World) (h : numm_mul.V7 f_0 ma_9 ea_10 mb_13 eb_14 neg_15 t_59 R w) : numm_mul.L7 f_0 ma_9 ea_10 mb_13 eb_14 neg_15 t_59 R w :=
  seg_T good mixed Try.func122 600 false [.code (sub (bodyOf Try.f122) [1, 1, 1, 1, 1, 0, 1]), .code (sub (bodyOf Try.f122) [1, 1, 1, 1, 1, 1])] [(0, (.int .i64 f_0)), (9, (.int .u64 ma_9)), (10, (.int .i64 ea_10)), (13, (.int .u64 mb_13)), (14, (.int .i64 eb_14)), (15, (.bool neg_15)), (59, (.bool t_59))] w (Eq.mp (show numm_mul.V7 f_0 ma_9 ea_10 mb_13 eb_14 neg_15 t_59 R w = seg Try.prog 122 91 Try.f122.results.toList numm_mul.cuts R 600 false [.code (sub (bodyOf Try.f122) [1, 1, 1, 1, 1, 0, 1]), .code (sub (bodyOf Try.f122) [1, 1, 1, 1, 1, 1])] [(0, (.int .i64 f_0)), (9, (.int .u64 ma_9)), (10, (.int .i64 ea_10)), (13, (.int .u64 mb_13)), (14, (.int .i64 eb_14)), (15, (.bool neg_15)), (59, (.bool t_59))] w by kernel_rfl) h)
def numm_mul.V8 (f_0 : Int) (ma_9 : Int) (ea_10 : Int) (mb_13 : Int) (eb_14 : Int) (neg_15 : Bool) (R : Value → World → Prop) (w : World) : Prop :=
  (Runs Try.prog numm_lift.id #[(.int .u64 mb_13), (.int .i64 eb_14), (.int .i64 63)] w fun r1 w2 => (∃ x3 : Int, ∃ x4 : Int, (r1 = (.tuple #[(.int .u64 x3), (.int .i64 x4)]) ∧ (numm_mul.L9 f_0 ma_9 ea_10 x3 x4 neg_15 R w2))))
theorem numm_mul.step8 (f_0 : Int) (ma_9 : Int) (ea_10 : Int) (mb_13 : Int) (eb_14 : Int) (neg_15 : Bool) (R : Value → World → Prop) (w : World) (h : numm_mul.V8 f_0 ma_9 ea_10 mb_13 eb_14 neg_15 R w) : numm_mul.L8 f_0 ma_9 ea_10 mb_13 eb_14 neg_15 R w :=
  seg_T good mixed Try.func122 600 false [.code (sub (bodyOf Try.f122) [1, 1, 1, 1, 1, 1, 1])] [(0, (.int .i64 f_0)), (9, (.int .u64 ma_9)), (10, (.int .i64 ea_10)), (13, (.int .u64 mb_13)), (14, (.int .i64 eb_14)), (15, (.bool neg_15))] w (Eq.mp (show numm_mul.V8 f_0 ma_9 ea_10 mb_13 eb_14 neg_15 R w = seg Try.prog 122 91 Try.f122.results.toList numm_mul.cuts R 600 false [.code (sub (bodyOf Try.f122) [1, 1, 1, 1, 1, 1, 1])] [(0, (.int .i64 f_0)), (9, (.int .u64 ma_9)), (10, (.int .i64 ea_10)), (13, (.int .u64 mb_13)), (14, (.int .i64 eb_14)), (15, (.bool neg_15))] w by kernel_rfl) h)
def numm_mul.V9 (f_0 : Int) (ma_9 : Int) (ea_10 : Int) (mb_13 : Int) (eb_14 : Int) (neg_15 : Bool) (R : Value → World → Prop) (w : World) : Prop :=
  (Runs Try.prog numm_mul64.id #[(.int .u64 ma_9), (.int .u64 mb_13)] w fun r1 w2 => (∃ x3 : Int, ∃ x4 : Int, (r1 = (.tuple #[(.int .u64 x3), (.int .u64 x4)]) ∧ (numm_mul.L10 f_0 ea_10 eb_14 neg_15 x3 x4 R w2))))
theorem numm_mul.step9 (f_0 : Int) (ma_9 : Int) (ea_10 : Int) (mb_13 : Int) (eb_14 : Int) (neg_15 : Bool) (R : Value → World → Prop) (w : World) (h : numm_mul.V9 f_0 ma_9 ea_10 mb_13 eb_14 neg_15 R w) : numm_mul.L9 f_0 ma_9 ea_10 mb_13 eb_14 neg_15 R w :=
  seg_T good mixed Try.func122 600 false [.code (sub (bodyOf Try.f122) [1, 1, 1, 1, 1, 1, 1, 1])] [(0, (.int .i64 f_0)), (9, (.int .u64 ma_9)), (10, (.int .i64 ea_10)), (13, (.int .u64 mb_13)), (14, (.int .i64 eb_14)), (15, (.bool neg_15))] w (Eq.mp (show numm_mul.V9 f_0 ma_9 ea_10 mb_13 eb_14 neg_15 R w = seg Try.prog 122 91 Try.f122.results.toList numm_mul.cuts R 600 false [.code (sub (bodyOf Try.f122) [1, 1, 1, 1, 1, 1, 1, 1])] [(0, (.int .i64 f_0)), (9, (.int .u64 ma_9)), (10, (.int .i64 ea_10)), (13, (.int .u64 mb_13)), (14, (.int .i64 eb_14)), (15, (.bool neg_15))] w by kernel_rfl) h)
def numm_mul.V10 (f_0 : Int) (ea_10 : Int) (eb_14 : Int) (neg_15 : Bool) (hi_16 : Int) (lo_17 : Int) (R : Value → World → Prop) (w : World) : Prop :=
  (Runs Try.prog numm_round.id #[(.int .i64 f_0), (.bool neg_15), (.int .u64 hi_16), (.int .i64 (IntKind.wrap .i64 ((IntKind.wrap .i64 (ea_10 + eb_14)) + (64 : Int)))), (.bool (lo_17 != (0 : Int)))] w fun r1 w2 => (∃ x3 : Int, (r1 = (.int .u64 x3) ∧ (R (.int .u64 x3) w2))))
theorem numm_mul.step10 (f_0 : Int) (ea_10 : Int) (eb_14 : Int) (neg_15 : Bool) (hi_16 : Int) (lo_17 : Int) (R : Value → World → Prop) (w : World) (h : numm_mul.V10 f_0 ea_10 eb_14 neg_15 hi_16 lo_17 R w) : numm_mul.L10 f_0 ea_10 eb_14 neg_15 hi_16 lo_17 R w :=
  seg_T good mixed Try.func122 600 false [.code (sub (bodyOf Try.f122) [1, 1, 1, 1, 1, 1, 1, 1, 1])] [(0, (.int .i64 f_0)), (10, (.int .i64 ea_10)), (14, (.int .i64 eb_14)), (15, (.bool neg_15)), (16, (.int .u64 hi_16)), (17, (.int .u64 lo_17))] w (Eq.mp (show numm_mul.V10 f_0 ea_10 eb_14 neg_15 hi_16 lo_17 R w = seg Try.prog 122 91 Try.f122.results.toList numm_mul.cuts R 600 false [.code (sub (bodyOf Try.f122) [1, 1, 1, 1, 1, 1, 1, 1, 1])] [(0, (.int .i64 f_0)), (10, (.int .i64 ea_10)), (14, (.int .i64 eb_14)), (15, (.bool neg_15)), (16, (.int .u64 hi_16)), (17, (.int .u64 lo_17))] w by kernel_rfl) h)
def numm_mul.V (f_0 : Int) (a_1 : Int) (b_2 : Int) (R : Value → World → Prop) (w : World) : Prop :=
  (numm_mul.L1 f_0 a_1 b_2 R w)
theorem numm_mul.enter (f_0 : Int) (a_1 : Int) (b_2 : Int) (R : Value → World → Prop) (w : World) (h : numm_mul.V f_0 a_1 b_2 R w) : Runs Try.prog numm_mul.id #[(.int .i64 f_0), (.int .u64 a_1), (.int .u64 b_2)] w R :=
  Runs.enter (c := bodyOf Try.f122) (N := 91) Try.func122 (by kernel_rfl) (by kernel_rfl) (by kernel_rfl) (seg_T good mixed Try.func122 600 false [.code (bodyOf Try.f122)] [(0, (.int .i64 f_0)), (1, (.int .u64 a_1)), (2, (.int .u64 b_2))] w (Eq.mp (show numm_mul.V f_0 a_1 b_2 R w = seg Try.prog 122 91 Try.f122.results.toList numm_mul.cuts R 600 false [.code (bodyOf Try.f122)] [(0, (.int .i64 f_0)), (1, (.int .u64 a_1)), (2, (.int .u64 b_2))] w by kernel_rfl) h))

/-! e2e/numm.div -/
def numm_div.cuts : List (Nat × List Nat) := [(2, [0, 1, 2]), (4, [0, 2, 7, 8, 9, 10]), (6, [0, 7, 8, 9, 10, 11, 12, 13, 14]), (8, [0, 8, 9, 10, 12, 13, 14, 15]), (34, [0, 9, 10, 13, 14, 15]), (36, [0, 9, 10, 13, 14, 15]), (38, [0, 9, 10, 13, 14, 15, 16]), (40, [0, 10, 13, 14, 15, 16, 17]), (43, [0, 10, 13, 14, 15, 16, 17, 18]), (48, [0, 10, 13, 14, 15, 16, 17, 18]), (54, [0, 10, 13, 14, 15, 16, 17, 18])]
def numm_div.L1 (f_0 : Int) (a_1 : Int) (b_2 : Int) (R : Value → World → Prop) (w : World) : Prop :=
  T Try.prog 123 105 [.code (sub (bodyOf Try.f123) [1])] [(0, (.int .i64 f_0)), (1, (.int .u64 a_1)), (2, (.int .u64 b_2))] w R
def numm_div.L2 (f_0 : Int) (b_2 : Int) (na_7 : Bool) (ka_8 : Int) (ma_9 : Int) (ea_10 : Int) (R : Value → World → Prop) (w : World) : Prop :=
  T Try.prog 123 105 [.code (sub (bodyOf Try.f123) [1, 1])] [(0, (.int .i64 f_0)), (2, (.int .u64 b_2)), (7, (.bool na_7)), (8, (.int .i64 ka_8)), (9, (.int .u64 ma_9)), (10, (.int .i64 ea_10))] w R
def numm_div.L3 (f_0 : Int) (na_7 : Bool) (ka_8 : Int) (ma_9 : Int) (ea_10 : Int) (nb_11 : Bool) (kb_12 : Int) (mb_13 : Int) (eb_14 : Int) (R : Value → World → Prop) (w : World) : Prop :=
  T Try.prog 123 105 [.code (sub (bodyOf Try.f123) [1, 1, 1])] [(0, (.int .i64 f_0)), (7, (.bool na_7)), (8, (.int .i64 ka_8)), (9, (.int .u64 ma_9)), (10, (.int .i64 ea_10)), (11, (.bool nb_11)), (12, (.int .i64 kb_12)), (13, (.int .u64 mb_13)), (14, (.int .i64 eb_14))] w R
def numm_div.L4 (f_0 : Int) (ka_8 : Int) (ma_9 : Int) (ea_10 : Int) (kb_12 : Int) (mb_13 : Int) (eb_14 : Int) (neg_15 : Bool) (R : Value → World → Prop) (w : World) : Prop :=
  T Try.prog 123 105 [.code (sub (bodyOf Try.f123) [1, 1, 1, 1])] [(0, (.int .i64 f_0)), (8, (.int .i64 ka_8)), (9, (.int .u64 ma_9)), (10, (.int .i64 ea_10)), (12, (.int .i64 kb_12)), (13, (.int .u64 mb_13)), (14, (.int .i64 eb_14)), (15, (.bool neg_15))] w R
def numm_div.L5 (f_0 : Int) (ma_9 : Int) (ea_10 : Int) (mb_13 : Int) (eb_14 : Int) (neg_15 : Bool) (R : Value → World → Prop) (w : World) : Prop :=
  T Try.prog 123 105 [.code (sub (bodyOf Try.f123) [1, 1, 1, 1, 1, 1, 1, 1, 1])] [(0, (.int .i64 f_0)), (9, (.int .u64 ma_9)), (10, (.int .i64 ea_10)), (13, (.int .u64 mb_13)), (14, (.int .i64 eb_14)), (15, (.bool neg_15))] w R
def numm_div.L6 (f_0 : Int) (ma_9 : Int) (ea_10 : Int) (mb_13 : Int) (eb_14 : Int) (neg_15 : Bool) (R : Value → World → Prop) (w : World) : Prop :=
  T Try.prog 123 105 [.code (sub (bodyOf Try.f123) [1, 1, 1, 1, 1, 1, 1, 1, 1, 1])] [(0, (.int .i64 f_0)), (9, (.int .u64 ma_9)), (10, (.int .i64 ea_10)), (13, (.int .u64 mb_13)), (14, (.int .i64 eb_14)), (15, (.bool neg_15))] w R
def numm_div.L7 (f_0 : Int) (ma_9 : Int) (ea_10 : Int) (mb_13 : Int) (eb_14 : Int) (neg_15 : Bool) (q_16 : Int) (R : Value → World → Prop) (w : World) : Prop :=
  T Try.prog 123 105 [.code (sub (bodyOf Try.f123) [1, 1, 1, 1, 1, 1, 1, 1, 1, 1, 1])] [(0, (.int .i64 f_0)), (9, (.int .u64 ma_9)), (10, (.int .i64 ea_10)), (13, (.int .u64 mb_13)), (14, (.int .i64 eb_14)), (15, (.bool neg_15)), (16, (.int .u64 q_16))] w R
def numm_div.L8 (f_0 : Int) (ea_10 : Int) (mb_13 : Int) (eb_14 : Int) (neg_15 : Bool) (q_16 : Int) (rem_17 : Int) (R : Value → World → Prop) (w : World) : Prop :=
  T Try.prog 123 105 [.code (sub (bodyOf Try.f123) [1, 1, 1, 1, 1, 1, 1, 1, 1, 1, 1, 1])] [(0, (.int .i64 f_0)), (10, (.int .i64 ea_10)), (13, (.int .u64 mb_13)), (14, (.int .i64 eb_14)), (15, (.bool neg_15)), (16, (.int .u64 q_16)), (17, (.int .u64 rem_17))] w R
def numm_div.L9 (f_0 : Int) (ea_10 : Int) (mb_13 : Int) (eb_14 : Int) (neg_15 : Bool) (q_16 : Int) (rem_17 : Int) (i_18 : Int) (R : Value → World → Prop) (w : World) : Prop :=
  T Try.prog 123 105 [.inLoop (sub (bodyOf Try.f123) [1, 1, 1, 1, 1, 1, 1, 1, 1, 1, 1, 1, 0, 1, 0, 0]), .inBlock 0, .code (sub (bodyOf Try.f123) [1, 1, 1, 1, 1, 1, 1, 1, 1, 1, 1, 1, 1])] [(0, (.int .i64 f_0)), (10, (.int .i64 ea_10)), (13, (.int .u64 mb_13)), (14, (.int .i64 eb_14)), (15, (.bool neg_15)), (16, (.int .u64 q_16)), (17, (.int .u64 rem_17)), (18, (.int .i64 i_18))] w R
def numm_div.L10 (f_0 : Int) (ea_10 : Int) (mb_13 : Int) (eb_14 : Int) (neg_15 : Bool) (q_16 : Int) (rem_17 : Int) (i_18 : Int) (R : Value → World → Prop) (w : World) : Prop :=
  T Try.prog 123 105 [.code (sub (bodyOf Try.f123) [1, 1, 1, 1, 1, 1, 1, 1, 1, 1, 1, 1, 0, 1, 0, 0, 1, 0, 0, 1]), .inBlock 1, .code (sub (bodyOf Try.f123) [1, 1, 1, 1, 1, 1, 1, 1, 1, 1, 1, 1, 0, 1, 0, 0, 1, 1]), .inLoop (sub (bodyOf Try.f123) [1, 1, 1, 1, 1, 1, 1, 1, 1, 1, 1, 1, 0, 1, 0, 0]), .inBlock 0, .code (sub (bodyOf Try.f123) [1, 1, 1, 1, 1, 1, 1, 1, 1, 1, 1, 1, 1])] [(0, (.int .i64 f_0)), (10, (.int .i64 ea_10)), (13, (.int .u64 mb_13)), (14, (.int .i64 eb_14)), (15, (.bool neg_15)), (16, (.int .u64 q_16)), (17, (.int .u64 rem_17)), (18, (.int .i64 i_18))] w R
def numm_div.L11 (f_0 : Int) (ea_10 : Int) (mb_13 : Int) (eb_14 : Int) (neg_15 : Bool) (q_16 : Int) (rem_17 : Int) (i_18 : Int) (R : Value → World → Prop) (w : World) : Prop :=
  T Try.prog 123 105 [.code (sub (bodyOf Try.f123) [1, 1, 1, 1, 1, 1, 1, 1, 1, 1, 1, 1, 0, 1, 0, 0, 1, 0, 0, 1, 1]), .inBlock 1, .code (sub (bodyOf Try.f123) [1, 1, 1, 1, 1, 1, 1, 1, 1, 1, 1, 1, 0, 1, 0, 0, 1, 1]), .inLoop (sub (bodyOf Try.f123) [1, 1, 1, 1, 1, 1, 1, 1, 1, 1, 1, 1, 0, 1, 0, 0]), .inBlock 0, .code (sub (bodyOf Try.f123) [1, 1, 1, 1, 1, 1, 1, 1, 1, 1, 1, 1, 1])] [(0, (.int .i64 f_0)), (10, (.int .i64 ea_10)), (13, (.int .u64 mb_13)), (14, (.int .i64 eb_14)), (15, (.bool neg_15)), (16, (.int .u64 q_16)), (17, (.int .u64 rem_17)), (18, (.int .i64 i_18))] w R
def numm_div.V1 (f_0 : Int) (a_1 : Int) (b_2 : Int) (R : Value → World → Prop) (w : World) : Prop :=
  (Runs Try.prog numm_unpack.id #[(.int .i64 f_0), (.int .u64 a_1)] w fun r1 w2 => (∃ x3 : Bool, ∃ x4 : Int, ∃ x5 : Int, ∃ x6 : Int, (r1 = (.tuple #[(.bool x3), (.int .i64 x4), (.int .u64 x5), (.int .i64 x6)]) ∧ (numm_div.L2 f_0 b_2 x3 x4 x5 x6 R w2))))
theorem numm_div.step1 (f_0 : Int) (a_1 : Int) (b_2 : Int) (R : Value → World → Prop) (w : World) (h : numm_div.V1 f_0 a_1 b_2 R w) : numm_div.L1 f_0 a_1 b_2 R w :=
  seg_T good mixed Try.func123 600 false [.code (sub (bodyOf Try.f123) [1])] [(0, (.int .i64 f_0)), (1, (.int .u64 a_1)), (2, (.int .u64 b_2))] w (Eq.mp (show numm_div.V1 f_0 a_1 b_2 R w = seg Try.prog 123 105 Try.f123.results.toList numm_div.cuts R 600 false [.code (sub (bodyOf Try.f123) [1])] [(0, (.int .i64 f_0)), (1, (.int .u64 a_1)), (2, (.int .u64 b_2))] w by kernel_rfl) h)
def numm_div.V2 (f_0 : Int) (b_2 : Int) (na_7 : Bool) (ka_8 : Int) (ma_9 : Int) (ea_10 : Int) (R : Value → World → Prop) (w : World) : Prop :=
  (Runs Try.prog numm_unpack.id #[(.int .i64 f_0), (.int .u64 b_2)] w fun r1 w2 => (∃ x3 : Bool, ∃ x4 : Int, ∃ x5 : Int, ∃ x6 : Int, (r1 = (.tuple #[(.bool x3), (.int .i64 x4), (.int .u64 x5), (.int .i64 x6)]) ∧ (numm_div.L3 f_0 na_7 ka_8 ma_9 ea_10 x3 x4 x5 x6 R w2))))
theorem numm_div.step2 (f_0 : Int) (b_2 : Int) (na_7 : Bool) (ka_8 : Int) (ma_9 : Int) (ea_10 : Int) (R : Value → World → Prop) (w : World) (h : numm_div.V2 f_0 b_2 na_7 ka_8 ma_9 ea_10 R w) : numm_div.L2 f_0 b_2 na_7 ka_8 ma_9 ea_10 R w :=
  seg_T good mixed Try.func123 600 false [.code (sub (bodyOf Try.f123) [1, 1])] [(0, (.int .i64 f_0)), (2, (.int .u64 b_2)), (7, (.bool na_7)), (8, (.int .i64 ka_8)), (9, (.int .u64 ma_9)), (10, (.int .i64 ea_10))] w (Eq.mp (show numm_div.V2 f_0 b_2 na_7 ka_8 ma_9 ea_10 R w = seg Try.prog 123 105 Try.f123.results.toList numm_div.cuts R 600 false [.code (sub (bodyOf Try.f123) [1, 1])] [(0, (.int .i64 f_0)), (2, (.int .u64 b_2)), (7, (.bool na_7)), (8, (.int .i64 ka_8)), (9, (.int .u64 ma_9)), (10, (.int .i64 ea_10))] w by kernel_rfl) h)
def numm_div.V3 (f_0 : Int) (na_7 : Bool) (ka_8 : Int) (ma_9 : Int) (ea_10 : Int) (nb_11 : Bool) (kb_12 : Int) (mb_13 : Int) (eb_14 : Int) (R : Value → World → Prop) (w : World) : Prop :=
  (numm_div.L4 f_0 ka_8 ma_9 ea_10 kb_12 mb_13 eb_14 (!(na_7 == nb_11)) R w)
theorem numm_div.step3 (f_0 : Int) (na_7 : Bool) (ka_8 : Int) (ma_9 : Int) (ea_10 : Int) (nb_11 : Bool) (kb_12 : Int) (mb_13 : Int) (eb_14 : Int) (R : Value → World → Prop) (w : World) (h : numm_div.V3 f_0 na_7 ka_8 ma_9 ea_10 nb_11 kb_12 mb_13 eb_14 R w) : numm_div.L3 f_0 na_7 ka_8 ma_9 ea_10 nb_11 kb_12 mb_13 eb_14 R w :=
  seg_T good mixed Try.func123 600 false [.code (sub (bodyOf Try.f123) [1, 1, 1])] [(0, (.int .i64 f_0)), (7, (.bool na_7)), (8, (.int .i64 ka_8)), (9, (.int .u64 ma_9)), (10, (.int .i64 ea_10)), (11, (.bool nb_11)), (12, (.int .i64 kb_12)), (13, (.int .u64 mb_13)), (14, (.int .i64 eb_14))] w (Eq.mp (show numm_div.V3 f_0 na_7 ka_8 ma_9 ea_10 nb_11 kb_12 mb_13 eb_14 R w = seg Try.prog 123 105 Try.f123.results.toList numm_div.cuts R 600 false [.code (sub (bodyOf Try.f123) [1, 1, 1])] [(0, (.int .i64 f_0)), (7, (.bool na_7)), (8, (.int .i64 ka_8)), (9, (.int .u64 ma_9)), (10, (.int .i64 ea_10)), (11, (.bool nb_11)), (12, (.int .i64 kb_12)), (13, (.int .u64 mb_13)), (14, (.int .i64 eb_14))] w by kernel_rfl) h)
def numm_div.V4 (f_0 : Int) (ka_8 : Int) (ma_9 : Int) (ea_10 : Int) (kb_12 : Int) (mb_13 : Int) (eb_14 : Int) (neg_15 : Bool) (R : Value → World → Prop) (w : World) : Prop :=
  (cond (ka_8 == (2 : Int))
  (cond (kb_12 == (2 : Int))
  (Runs Try.prog numm_canon.id #[(.int .i64 f_0)] w fun r1 w2 => (∃ x3 : Int, (r1 = (.int .u64 x3) ∧ (R (.int .u64 x3) w2))))
  (Runs Try.prog numm_infinity.id #[(.int .i64 f_0), (.bool neg_15)] w fun r4 w5 => (∃ x6 : Int, (r4 = (.int .u64 x6) ∧ (R (.int .u64 x6) w5)))))
  (cond (kb_12 == (2 : Int))
  (Runs Try.prog numm_sign.id #[(.int .i64 f_0), (.bool neg_15)] w fun r7 w8 => (∃ x9 : Int, (r7 = (.int .u64 x9) ∧ (R (.int .u64 x9) w8))))
  (cond (kb_12 == (0 : Int))
  (cond (ka_8 == (0 : Int))
  (Runs Try.prog numm_canon.id #[(.int .i64 f_0)] w fun r10 w11 => (∃ x12 : Int, (r10 = (.int .u64 x12) ∧ (R (.int .u64 x12) w11))))
  (Runs Try.prog numm_infinity.id #[(.int .i64 f_0), (.bool neg_15)] w fun r13 w14 => (∃ x15 : Int, (r13 = (.int .u64 x15) ∧ (R (.int .u64 x15) w14)))))
  (cond (ka_8 == (0 : Int))
  (Runs Try.prog numm_sign.id #[(.int .i64 f_0), (.bool neg_15)] w fun r16 w17 => (∃ x18 : Int, (r16 = (.int .u64 x18) ∧ (R (.int .u64 x18) w17))))
  (Runs Try.prog numm_lift.id #[(.int .u64 ma_9), (.int .i64 ea_10), (.int .i64 62)] w fun r19 w20 => (∃ x21 : Int, ∃ x22 : Int, (r19 = (.tuple #[(.int .u64 x21), (.int .i64 x22)]) ∧ (numm_div.L5 f_0 x21 x22 mb_13 eb_14 neg_15 R w20))))))))
theorem numm_div.step4 (f_0 : Int) (ka_8 : Int) (ma_9 : Int) (ea_10 : Int) (kb_12 : Int) (mb_13 : Int) (eb_14 : Int) (neg_15 : Bool) (R : Value → World → Prop) (w : World) (h : numm_div.V4 f_0 ka_8 ma_9 ea_10 kb_12 mb_13 eb_14 neg_15 R w) : numm_div.L4 f_0 ka_8 ma_9 ea_10 kb_12 mb_13 eb_14 neg_15 R w :=
  seg_T good mixed Try.func123 600 false [.code (sub (bodyOf Try.f123) [1, 1, 1, 1])] [(0, (.int .i64 f_0)), (8, (.int .i64 ka_8)), (9, (.int .u64 ma_9)), (10, (.int .i64 ea_10)), (12, (.int .i64 kb_12)), (13, (.int .u64 mb_13)), (14, (.int .i64 eb_14)), (15, (.bool neg_15))] w (Eq.mp (show numm_div.V4 f_0 ka_8 ma_9 ea_10 kb_12 mb_13 eb_14 neg_15 R w = seg Try.prog 123 105 Try.f123.results.toList numm_div.cuts R 600 false [.code (sub (bodyOf Try.f123) [1, 1, 1, 1])] [(0, (.int .i64 f_0)), (8, (.int .i64 ka_8)), (9, (.int .u64 ma_9)), (10, (.int .i64 ea_10)), (12, (.int .i64 kb_12)), (13, (.int .u64 mb_13)), (14, (.int .i64 eb_14)), (15, (.bool neg_15))] w by kernel_rfl) h)
def numm_div.V5 (f_0 : Int) (ma_9 : Int) (ea_10 : Int) (mb_13 : Int) (eb_14 : Int) (neg_15 : Bool) (R : Value → World → Prop) (w : World) : Prop :=
  (Runs Try.prog numm_lift.id #[(.int .u64 mb_13), (.int .i64 eb_14), (.int .i64 62)] w fun r1 w2 => (∃ x3 : Int, ∃ x4 : Int, (r1 = (.tuple #[(.int .u64 x3), (.int .i64 x4)]) ∧ (numm_div.L6 f_0 ma_9 ea_10 x3 x4 neg_15 R w2))))
theorem numm_div.step5 (f_0 : Int) (ma_9 : Int) (ea_10 : Int) (mb_13 : Int) (eb_14 : Int) (neg_15 : Bool) (R : Value → World → Prop) (w : World) (h : numm_div.V5 f_0 ma_9 ea_10 mb_13 eb_14 neg_15 R w) : numm_div.L5 f_0 ma_9 ea_10 mb_13 eb_14 neg_15 R w :=
  seg_T good mixed Try.func123 600 false [.code (sub (bodyOf Try.f123) [1, 1, 1, 1, 1, 1, 1, 1, 1])] [(0, (.int .i64 f_0)), (9, (.int .u64 ma_9)), (10, (.int .i64 ea_10)), (13, (.int .u64 mb_13)), (14, (.int .i64 eb_14)), (15, (.bool neg_15))] w (Eq.mp (show numm_div.V5 f_0 ma_9 ea_10 mb_13 eb_14 neg_15 R w = seg Try.prog 123 105 Try.f123.results.toList numm_div.cuts R 600 false [.code (sub (bodyOf Try.f123) [1, 1, 1, 1, 1, 1, 1, 1, 1])] [(0, (.int .i64 f_0)), (9, (.int .u64 ma_9)), (10, (.int .i64 ea_10)), (13, (.int .u64 mb_13)), (14, (.int .i64 eb_14)), (15, (.bool neg_15))] w by kernel_rfl) h)
def numm_div.V6 (f_0 : Int) (ma_9 : Int) (ea_10 : Int) (mb_13 : Int) (eb_14 : Int) (neg_15 : Bool) (R : Value → World → Prop) (w : World) : Prop :=
  (numm_div.L7 f_0 ma_9 ea_10 mb_13 eb_14 neg_15 0 R w)
theorem numm_div.step6 (f_0 : Int) (ma_9 : Int) (ea_10 : Int) (mb_13 : Int) (eb_14 : Int) (neg_15 : Bool) (R : Value → World → Prop) (w : World) (h : numm_div.V6 f_0 ma_9 ea_10 mb_13 eb_14 neg_15 R w) : numm_div.L6 f_0 ma_9 ea_10 mb_13 eb_14 neg_15 R w :=
  seg_T good mixed Try.func123 600 false [.code (sub (bodyOf Try.f123) [1, 1, 1, 1, 1, 1, 1, 1, 1, 1])] [(0, (.int .i64 f_0)), (9, (.int .u64 ma_9)), (10, (.int .i64 ea_10)), (13, (.int .u64 mb_13)), (14, (.int .i64 eb_14)), (15, (.bool neg_15))] w (Eq.mp (show numm_div.V6 f_0 ma_9 ea_10 mb_13 eb_14 neg_15 R w = seg Try.prog 123 105 Try.f123.results.toList numm_div.cuts R 600 false [.code (sub (bodyOf Try.f123) [1, 1, 1, 1, 1, 1, 1, 1, 1, 1])] [(0, (.int .i64 f_0)), (9, (.int .u64 ma_9)), (10, (.int .i64 ea_10)), (13, (.int .u64 mb_13)), (14, (.int .i64 eb_14)), (15, (.bool neg_15))] w by kernel_rfl) h)
def numm_div.V7 (f_0 : Int) (ma_9 : Int) (ea_10 : Int) (mb_13 : Int) (eb_14 : Int) (neg_15 : Bool) (q_16 : Int) (R : Value → World → Prop) (w : World) : Prop :=
  (numm_div.L8 f_0 ea_10 mb_13 eb_14 neg_15 q_16 ma_9 R w)
theorem numm_div.step7 (f_0 : Int) (ma_9 : Int) (ea_10 : Int) (mb_13 : Int) (eb_14 : Int) (neg_15 : Bool) (q_16 : Int) (R : Value → World → Prop) (w : World) (h : numm_div.V7 f_0 ma_9 ea_10 mb_13 eb_14 neg_15 q_16 R w) : numm_div.L7 f_0 ma_9 ea_10 mb_13 eb_14 neg_15 q_16 R w :=
  seg_T good mixed Try.func123 600 false [.code (sub (bodyOf Try.f123) [1, 1, 1, 1, 1, 1, 1, 1, 1, 1, 1])] [(0, (.int .i64 f_0)), (9, (.int .u64 ma_9)), (10, (.int .i64 ea_10)), (13, (.int .u64 mb_13)), (14, (.int .i64 eb_14)), (15, (.bool neg_15)), (16, (.int .u64 q_16))] w (Eq.mp (show numm_div.V7 f_0 ma_9 ea_10 mb_13 eb_14 neg_15 q_16 R w = seg Try.prog 123 105 Try.f123.results.toList numm_div.cuts R 600 false [.code (sub (bodyOf Try.f123) [1, 1, 1, 1, 1, 1, 1, 1, 1, 1, 1])] [(0, (.int .i64 f_0)), (9, (.int .u64 ma_9)), (10, (.int .i64 ea_10)), (13, (.int .u64 mb_13)), (14, (.int .i64 eb_14)), (15, (.bool neg_15)), (16, (.int .u64 q_16))] w by kernel_rfl) h)
def numm_div.V8 (f_0 : Int) (ea_10 : Int) (mb_13 : Int) (eb_14 : Int) (neg_15 : Bool) (q_16 : Int) (rem_17 : Int) (R : Value → World → Prop) (w : World) : Prop :=
  (numm_div.L9 f_0 ea_10 mb_13 eb_14 neg_15 q_16 rem_17 0 R w)
theorem numm_div.step8 (f_0 : Int) (ea_10 : Int) (mb_13 : Int) (eb_14 : Int) (neg_15 : Bool) (q_16 : Int) (rem_17 : Int) (R : Value → World → Prop) (w : World) (h : numm_div.V8 f_0 ea_10 mb_13 eb_14 neg_15 q_16 rem_17 R w) : numm_div.L8 f_0 ea_10 mb_13 eb_14 neg_15 q_16 rem_17 R w :=
  seg_T good mixed Try.func123 600 false [.code (sub (bodyOf Try.f123) [1, 1, 1, 1, 1, 1, 1, 1, 1, 1, 1, 1])] [(0, (.int .i64 f_0)), (10, (.int .i64 ea_10)), (13, (.int .u64 mb_13)), (14, (.int .i64 eb_14)), (15, (.bool neg_15)), (16, (.int .u64 q_16)), (17, (.int .u64 rem_17))] w (Eq.mp (show numm_div.V8 f_0 ea_10 mb_13 eb_14 neg_15 q_16 rem_17 R w = seg Try.prog 123 105 Try.f123.results.toList numm_div.cuts R 600 false [.code (sub (bodyOf Try.f123) [1, 1, 1, 1, 1, 1, 1, 1, 1, 1, 1, 1])] [(0, (.int .i64 f_0)), (10, (.int .i64 ea_10)), (13, (.int .u64 mb_13)), (14, (.int .i64 eb_14)), (15, (.bool neg_15)), (16, (.int .u64 q_16)), (17, (.int .u64 rem_17))] w by kernel_rfl) h)
def numm_div.V9 (f_0 : Int) (ea_10 : Int) (mb_13 : Int) (eb_14 : Int) (neg_15 : Bool) (q_16 : Int) (rem_17 : Int) (i_18 : Int) (R : Value → World → Prop) (w : World) : Prop :=
  (cond (decide (i_18 < (64 : Int)))
  (numm_div.L10 f_0 ea_10 mb_13 eb_14 neg_15 (IntKind.wrap .u64 (q_16 * 2 ^ (1 : Nat))) rem_17 i_18 R w)
  (Runs Try.prog numm_round.id #[(.int .i64 f_0), (.bool neg_15), (.int .u64 q_16), (.int .i64 (IntKind.wrap .i64 ((IntKind.wrap .i64 (ea_10 - eb_14)) - (63 : Int)))), (.bool (rem_17 != (0 : Int)))] w fun r9 w10 => (∃ x11 : Int, (r9 = (.int .u64 x11) ∧ (R (.int .u64 x11) w10)))))
theorem numm_div.step9 (f_0 : Int) (ea_10 : Int) (mb_13 : Int) (eb_14 : Int) (neg_15 : Bool) (q_16 : Int) (rem_17 : Int) (i_18 : Int) (R : Value → World → Prop) (w : World) (h : numm_div.V9 f_0 ea_10 mb_13 eb_14 neg_15 q_16 rem_17 i_18 R w) : numm_div.L9 f_0 ea_10 mb_13 eb_14 neg_15 q_16 rem_17 i_18 R w :=
  seg_T good mixed Try.func123 600 false [.inLoop (sub (bodyOf Try.f123) [1, 1, 1, 1, 1, 1, 1, 1, 1, 1, 1, 1, 0, 1, 0, 0]), .inBlock 0, .code (sub (bodyOf Try.f123) [1, 1, 1, 1, 1, 1, 1, 1, 1, 1, 1, 1, 1])] [(0, (.int .i64 f_0)), (10, (.int .i64 ea_10)), (13, (.int .u64 mb_13)), (14, (.int .i64 eb_14)), (15, (.bool neg_15)), (16, (.int .u64 q_16)), (17, (.int .u64 rem_17)), (18, (.int .i64 i_18))] w (Eq.mp (show numm_div.V9 f_0 ea_10 mb_13 eb_14 neg_15 q_16 rem_17 i_18 R w = seg Try.prog 123 105 Try.f123.results.toList numm_div.cuts R 600 false [.inLoop (sub (bodyOf Try.f123) [1, 1, 1, 1, 1, 1, 1, 1, 1, 1, 1, 1, 0, 1, 0, 0]), .inBlock 0, .code (sub (bodyOf Try.f123) [1, 1, 1, 1, 1, 1, 1, 1, 1, 1, 1, 1, 1])] [(0, (.int .i64 f_0)), (10, (.int .i64 ea_10)), (13, (.int .u64 mb_13)), (14, (.int .i64 eb_14)), (15, (.bool neg_15)), (16, (.int .u64 q_16)), (17, (.int .u64 rem_17)), (18, (.int .i64 i_18))] w by kernel_rfl) h)
def numm_div.V10 (f_0 : Int) (ea_10 : Int) (mb_13 : Int) (eb_14 : Int) (neg_15 : Bool) (q_16 : Int) (rem_17 : Int) (i_18 : Int) (R : Value → World → Prop) (w : World) : Prop :=
  (cond (decide (rem_17 ≥ mb_13))
  (numm_div.L11 f_0 ea_10 mb_13 eb_14 neg_15 (IntKind.wrap .u64 (q_16 + (1 : Int))) (IntKind.wrap .u64 (rem_17 - mb_13)) i_18 R w)
  (numm_div.L11 f_0 ea_10 mb_13 eb_14 neg_15 q_16 rem_17 i_18 R w))
theorem numm_div.step10 (f_0 : Int) (ea_10 : Int) (mb_13 : Int) (eb_14 : Int) (neg_15 : Bool) (q_16 : Int) (rem_17 : Int) (i_18 : Int) (R : Value → World → Prop) (w : World) (h : numm_div.V10 f_0 ea_10 mb_13 eb_14 neg_15 q_16 rem_17 i_18 R w) : numm_div.L10 f_0 ea_10 mb_13 eb_14 neg_15 q_16 rem_17 i_18 R w :=
  seg_T good mixed Try.func123 600 false [.code (sub (bodyOf Try.f123) [1, 1, 1, 1, 1, 1, 1, 1, 1, 1, 1, 1, 0, 1, 0, 0, 1, 0, 0, 1]), .inBlock 1, .code (sub (bodyOf Try.f123) [1, 1, 1, 1, 1, 1, 1, 1, 1, 1, 1, 1, 0, 1, 0, 0, 1, 1]), .inLoop (sub (bodyOf Try.f123) [1, 1, 1, 1, 1, 1, 1, 1, 1, 1, 1, 1, 0, 1, 0, 0]), .inBlock 0, .code (sub (bodyOf Try.f123) [1, 1, 1, 1, 1, 1, 1, 1, 1, 1, 1, 1, 1])] [(0, (.int .i64 f_0)), (10, (.int .i64 ea_10)), (13, (.int .u64 mb_13)), (14, (.int .i64 eb_14)), (15, (.bool neg_15)), (16, (.int .u64 q_16)), (17, (.int .u64 rem_17)), (18, (.int .i64 i_18))] w (Eq.mp (show numm_div.V10 f_0 ea_10 mb_13 eb_14 neg_15 q_16 rem_17 i_18 R w = seg Try.prog 123 105 Try.f123.results.toList numm_div.cuts R 600 false [.code (sub (bodyOf Try.f123) [1, 1, 1, 1, 1, 1, 1, 1, 1, 1, 1, 1, 0, 1, 0, 0, 1, 0, 0, 1]), .inBlock 1, .code (sub (bodyOf Try.f123) [1, 1, 1, 1, 1, 1, 1, 1, 1, 1, 1, 1, 0, 1, 0, 0, 1, 1]), .inLoop (sub (bodyOf Try.f123) [1, 1, 1, 1, 1, 1, 1, 1, 1, 1, 1, 1, 0, 1, 0, 0]), .inBlock 0, .code (sub (bodyOf Try.f123) [1, 1, 1, 1, 1, 1, 1, 1, 1, 1, 1, 1, 1])] [(0, (.int .i64 f_0)), (10, (.int .i64 ea_10)), (13, (.int .u64 mb_13)), (14, (.int .i64 eb_14)), (15, (.bool neg_15)), (16, (.int .u64 q_16)), (17, (.int .u64 rem_17)), (18, (.int .i64 i_18))] w by kernel_rfl) h)
def numm_div.V11 (f_0 : Int) (ea_10 : Int) (mb_13 : Int) (eb_14 : Int) (neg_15 : Bool) (q_16 : Int) (rem_17 : Int) (i_18 : Int) (R : Value → World → Prop) (w : World) : Prop :=
  (numm_div.L9 f_0 ea_10 mb_13 eb_14 neg_15 q_16 (IntKind.wrap .u64 (rem_17 * 2 ^ (1 : Nat))) (IntKind.wrap .i64 (i_18 + (1 : Int))) R w)
theorem numm_div.step11 (f_0 : Int) (ea_10 : Int) (mb_13 : Int) (eb_14 : Int) (neg_15 : Bool) (q_16 : Int) (rem_17 : Int) (i_18 : Int) (R : Value → World → Prop) (w : World) (h : numm_div.V11 f_0 ea_10 mb_13 eb_14 neg_15 q_16 rem_17 i_18 R w) : numm_div.L11 f_0 ea_10 mb_13 eb_14 neg_15 q_16 rem_17 i_18 R w :=
  seg_T good mixed Try.func123 600 false [.code (sub (bodyOf Try.f123) [1, 1, 1, 1, 1, 1, 1, 1, 1, 1, 1, 1, 0, 1, 0, 0, 1, 0, 0, 1, 1]), .inBlock 1, .code (sub (bodyOf Try.f123) [1, 1, 1, 1, 1, 1, 1, 1, 1, 1, 1, 1, 0, 1, 0, 0, 1, 1]), .inLoop (sub (bodyOf Try.f123) [1, 1, 1, 1, 1, 1, 1, 1, 1, 1, 1, 1, 0, 1, 0, 0]), .inBlock 0, .code (sub (bodyOf Try.f123) [1, 1, 1, 1, 1, 1, 1, 1, 1, 1, 1, 1, 1])] [(0, (.int .i64 f_0)), (10, (.int .i64 ea_10)), (13, (.int .u64 mb_13)), (14, (.int .i64 eb_14)), (15, (.bool neg_15)), (16, (.int .u64 q_16)), (17, (.int .u64 rem_17)), (18, (.int .i64 i_18))] w (Eq.mp (show numm_div.V11 f_0 ea_10 mb_13 eb_14 neg_15 q_16 rem_17 i_18 R w = seg Try.prog 123 105 Try.f123.results.toList numm_div.cuts R 600 false [.code (sub (bodyOf Try.f123) [1, 1, 1, 1, 1, 1, 1, 1, 1, 1, 1, 1, 0, 1, 0, 0, 1, 0, 0, 1, 1]), .inBlock 1, .code (sub (bodyOf Try.f123) [1, 1, 1, 1, 1, 1, 1, 1, 1, 1, 1, 1, 0, 1, 0, 0, 1, 1]), .inLoop (sub (bodyOf Try.f123) [1, 1, 1, 1, 1, 1, 1, 1, 1, 1, 1, 1, 0, 1, 0, 0]), .inBlock 0, .code (sub (bodyOf Try.f123) [1, 1, 1, 1, 1, 1, 1, 1, 1, 1, 1, 1, 1])] [(0, (.int .i64 f_0)), (10, (.int .i64 ea_10)), (13, (.int .u64 mb_13)), (14, (.int .i64 eb_14)), (15, (.bool neg_15)), (16, (.int .u64 q_16)), (17, (.int .u64 rem_17)), (18, (.int .i64 i_18))] w by kernel_rfl) h)
def numm_div.V (f_0 : Int) (a_1 : Int) (b_2 : Int) (R : Value → World → Prop) (w : World) : Prop :=
  (numm_div.L1 f_0 a_1 b_2 R w)
theorem numm_div.enter (f_0 : Int) (a_1 : Int) (b_2 : Int) (R : Value → World → Prop) (w : World) (h : numm_div.V f_0 a_1 b_2 R w) : Runs Try.prog numm_div.id #[(.int .i64 f_0), (.int .u64 a_1), (.int .u64 b_2)] w R :=
  Runs.enter (c := bodyOf Try.f123) (N := 105) Try.func123 (by kernel_rfl) (by kernel_rfl) (by kernel_rfl) (seg_T good mixed Try.func123 600 false [.code (bodyOf Try.f123)] [(0, (.int .i64 f_0)), (1, (.int .u64 a_1)), (2, (.int .u64 b_2))] w (Eq.mp (show numm_div.V f_0 a_1 b_2 R w = seg Try.prog 123 105 Try.f123.results.toList numm_div.cuts R 600 false [.code (bodyOf Try.f123)] [(0, (.int .i64 f_0)), (1, (.int .u64 a_1)), (2, (.int .u64 b_2))] w by kernel_rfl) h))

/-! e2e/numm.toInt -/
def numm_toInt.cuts : List (Nat × List Nat) := [(14, [0, 1, 2, 10, 12, 13, 31]), (26, [1, 2, 10, 12])]
def numm_toInt.L1 (f_0 : Int) (n_1 : Int) (signed_2 : Bool) (neg_10 : Bool) (m_12 : Int) (e_13 : Int) (t_31 : Bool) (R : Value → World → Prop) (w : World) : Prop :=
  T Try.prog 124 55 [.code (sub (bodyOf Try.f124) [1, 1, 1, 1, 0, 1]), .code (sub (bodyOf Try.f124) [1, 1, 1, 1, 1])] [(0, (.int .i64 f_0)), (1, (.int .i64 n_1)), (2, (.bool signed_2)), (10, (.bool neg_10)), (12, (.int .u64 m_12)), (13, (.int .i64 e_13)), (31, (.bool t_31))] w R
def numm_toInt.L2 (n_1 : Int) (signed_2 : Bool) (neg_10 : Bool) (m_12 : Int) (R : Value → World → Prop) (w : World) : Prop :=
  T Try.prog 124 55 [.code (sub (bodyOf Try.f124) [1, 1, 1, 1, 1, 1])] [(1, (.int .i64 n_1)), (2, (.bool signed_2)), (10, (.bool neg_10)), (12, (.int .u64 m_12))] w R
def numm_toInt.V1 (f_0 : Int) (n_1 : Int) (signed_2 : Bool) (neg_10 : Bool) (m_12 : Int) (e_13 : Int) (t_31 : Bool) (R : Value → World → Prop) (w : World) : Prop :=
  (cond t_31
  (R (.tuple #[(.int .u64 0), (.int .i64 0)]) w)
  (cond (decide (e_13 < (0 : Int)))
  (0 ≤ (IntKind.wrap .u64 (IntKind.wrap .i64 (0 - e_13))) ∧ (numm_toInt.L2 n_1 signed_2 neg_10 (Int.fdiv m_12 (2 ^ (min (Int.toNat (IntKind.wrap .u64 (IntKind.wrap .i64 (0 - e_13)))) (IntKind.bits .u64)))) R w))
  (Runs Try.prog numm_prec.id #[(.int .i64 f_0)] w fun r5 w6 => (∃ x7 : Int, (r5 = (.int .i64 x7) ∧ (cond (decide (e_13 > (IntKind.wrap .i64 ((64 : Int) - x7))))
  (R (.tuple #[(.int .u64 0), (.int .i64 40)]) w6)
  (0 ≤ (IntKind.wrap .u64 e_13) ∧ (numm_toInt.L2 n_1 signed_2 neg_10 (IntKind.wrap .u64 (m_12 * 2 ^ (min (Int.toNat (IntKind.wrap .u64 e_13)) (IntKind.bits .u64)))) R w6))))))))
theorem numm_toInt.step1 (f_0 : Int) (n_1 : Int) (signed_2 : Bool) (neg_10 : Bool) (m_12 : Int) (e_13 : Int) (t_31 : Bool) (R : Value → World → Prop) (w : World) (h : numm_toInt.V1 f_0 n_1 signed_2 neg_10 m_12 e_13 t_31 R w) : numm_toInt.L1 f_0 n_1 signed_2 neg_10 m_12 e_13 t_31 R w :=
  seg_T good mixed Try.func124 600 false [.code (sub (bodyOf Try.f124) [1, 1, 1, 1, 0, 1]), .code (sub (bodyOf Try.f124) [1, 1, 1, 1, 1])] [(0, (.int .i64 f_0)), (1, (.int .i64 n_1)), (2, (.bool signed_2)), (10, (.bool neg_10)), (12, (.int .u64 m_12)), (13, (.int .i64 e_13)), (31, (.bool t_31))] w (Eq.mp (show numm_toInt.V1 f_0 n_1 signed_2 neg_10 m_12 e_13 t_31 R w = seg Try.prog 124 55 Try.f124.results.toList numm_toInt.cuts R 600 false [.code (sub (bodyOf Try.f124) [1, 1, 1, 1, 0, 1]), .code (sub (bodyOf Try.f124) [1, 1, 1, 1, 1])] [(0, (.int .i64 f_0)), (1, (.int .i64 n_1)), (2, (.bool signed_2)), (10, (.bool neg_10)), (12, (.int .u64 m_12)), (13, (.int .i64 e_13)), (31, (.bool t_31))] w by kernel_rfl) h)
def numm_toInt.V2 (n_1 : Int) (signed_2 : Bool) (neg_10 : Bool) (m_12 : Int) (R : Value → World → Prop) (w : World) : Prop :=
  (Runs Try.prog numm_fit.id #[(.int .i64 n_1), (.bool signed_2), (.bool neg_10), (.int .u64 m_12)] w fun r1 w2 => (∃ x3 : Int, ∃ x4 : Int, (r1 = (.tuple #[(.int .u64 x3), (.int .i64 x4)]) ∧ (R (.tuple #[(.int .u64 x3), (.int .i64 x4)]) w2))))
theorem numm_toInt.step2 (n_1 : Int) (signed_2 : Bool) (neg_10 : Bool) (m_12 : Int) (R : Value → World → Prop) (w : World) (h : numm_toInt.V2 n_1 signed_2 neg_10 m_12 R w) : numm_toInt.L2 n_1 signed_2 neg_10 m_12 R w :=
  seg_T good mixed Try.func124 600 false [.code (sub (bodyOf Try.f124) [1, 1, 1, 1, 1, 1])] [(1, (.int .i64 n_1)), (2, (.bool signed_2)), (10, (.bool neg_10)), (12, (.int .u64 m_12))] w (Eq.mp (show numm_toInt.V2 n_1 signed_2 neg_10 m_12 R w = seg Try.prog 124 55 Try.f124.results.toList numm_toInt.cuts R 600 false [.code (sub (bodyOf Try.f124) [1, 1, 1, 1, 1, 1])] [(1, (.int .i64 n_1)), (2, (.bool signed_2)), (10, (.bool neg_10)), (12, (.int .u64 m_12))] w by kernel_rfl) h)
def numm_toInt.V (f_0 : Int) (n_1 : Int) (signed_2 : Bool) (a_3 : Int) (R : Value → World → Prop) (w : World) : Prop :=
  (Runs Try.prog numm_unpack.id #[(.int .i64 f_0), (.int .u64 a_3)] w fun r5 w6 => (∃ x7 : Bool, ∃ x8 : Int, ∃ x9 : Int, ∃ x10 : Int, (r5 = (.tuple #[(.bool x7), (.int .i64 x8), (.int .u64 x9), (.int .i64 x10)]) ∧ (cond (x8 == (3 : Int))
  (R (.tuple #[(.int .u64 0), (.int .i64 41)]) w6)
  (cond (x8 == (2 : Int))
  (R (.tuple #[(.int .u64 0), (.int .i64 40)]) w6)
  (cond (x8 == (0 : Int))
  (numm_toInt.L1 f_0 n_1 signed_2 x7 x9 x10 true R w6)
  (numm_toInt.L1 f_0 n_1 signed_2 x7 x9 x10 (decide (x10 ≤ (-64))) R w6)))))))
theorem numm_toInt.enter (f_0 : Int) (n_1 : Int) (signed_2 : Bool) (a_3 : Int) (R : Value → World → Prop) (w : World) (h : numm_toInt.V f_0 n_1 signed_2 a_3 R w) : Runs Try.prog numm_toInt.id #[(.int .i64 f_0), (.int .i64 n_1), (.bool signed_2), (.int .u64 a_3)] w R :=
  Runs.enter (c := bodyOf Try.f124) (N := 55) Try.func124 (by kernel_rfl) (by kernel_rfl) (by kernel_rfl) (seg_T good mixed Try.func124 600 false [.code (bodyOf Try.f124)] [(0, (.int .i64 f_0)), (1, (.int .i64 n_1)), (2, (.bool signed_2)), (3, (.int .u64 a_3))] w (Eq.mp (show numm_toInt.V f_0 n_1 signed_2 a_3 R w = seg Try.prog 124 55 Try.f124.results.toList numm_toInt.cuts R 600 false [.code (bodyOf Try.f124)] [(0, (.int .i64 f_0)), (1, (.int .i64 n_1)), (2, (.bool signed_2)), (3, (.int .u64 a_3))] w by kernel_rfl) h))

/-! e2e/numm.fromInt -/
def numm_fromInt.cuts : List (Nat × List Nat) := [(8, [0, 1, 3, 18])]
def numm_fromInt.L1 (f_0 : Int) (n_1 : Int) (a_3 : Int) (t_18 : Bool) (R : Value → World → Prop) (w : World) : Prop :=
  T Try.prog 125 28 [.code (sub (bodyOf Try.f125) [1, 1, 0, 1]), .code (sub (bodyOf Try.f125) [1, 1, 1])] [(0, (.int .i64 f_0)), (1, (.int .i64 n_1)), (3, (.int .u64 a_3)), (18, (.bool t_18))] w R
def numm_fromInt.V1 (f_0 : Int) (n_1 : Int) (a_3 : Int) (t_18 : Bool) (R : Value → World → Prop) (w : World) : Prop :=
  (cond t_18
  (Runs Try.prog numm_minus.id #[(.int .i64 n_1), (.int .u64 a_3)] w fun r1 w2 => (∃ x3 : Int, (r1 = (.int .u64 x3) ∧ (Runs Try.prog numm_round.id #[(.int .i64 f_0), (.bool true), (.int .u64 x3), (.int .i64 0), (.bool false)] w2 fun r4 w5 => (∃ x6 : Int, (r4 = (.int .u64 x6) ∧ (R (.int .u64 x6) w5)))))))
  (Runs Try.prog numm_round.id #[(.int .i64 f_0), (.bool false), (.int .u64 a_3), (.int .i64 0), (.bool false)] w fun r7 w8 => (∃ x9 : Int, (r7 = (.int .u64 x9) ∧ (R (.int .u64 x9) w8)))))
theorem numm_fromInt.step1 (f_0 : Int) (n_1 : Int) (a_3 : Int) (t_18 : Bool) (R : Value → World → Prop) (w : World) (h : numm_fromInt.V1 f_0 n_1 a_3 t_18 R w) : numm_fromInt.L1 f_0 n_1 a_3 t_18 R w :=
  seg_T good mixed Try.func125 600 false [.code (sub (bodyOf Try.f125) [1, 1, 0, 1]), .code (sub (bodyOf Try.f125) [1, 1, 1])] [(0, (.int .i64 f_0)), (1, (.int .i64 n_1)), (3, (.int .u64 a_3)), (18, (.bool t_18))] w (Eq.mp (show numm_fromInt.V1 f_0 n_1 a_3 t_18 R w = seg Try.prog 125 28 Try.f125.results.toList numm_fromInt.cuts R 600 false [.code (sub (bodyOf Try.f125) [1, 1, 0, 1]), .code (sub (bodyOf Try.f125) [1, 1, 1])] [(0, (.int .i64 f_0)), (1, (.int .i64 n_1)), (3, (.int .u64 a_3)), (18, (.bool t_18))] w by kernel_rfl) h)
def numm_fromInt.V (f_0 : Int) (n_1 : Int) (signed_2 : Bool) (a_3 : Int) (R : Value → World → Prop) (w : World) : Prop :=
  (cond (a_3 == (0 : Int))
  (R (.int .u64 0) w)
  (cond signed_2
  (Runs Try.prog numm_top.id #[(.int .i64 n_1)] w fun r5 w6 => (∃ x7 : Int, (r5 = (.int .u64 x7) ∧ (numm_fromInt.L1 f_0 n_1 a_3 (decide (a_3 ≥ x7)) R w6))))
  (numm_fromInt.L1 f_0 n_1 a_3 false R w)))
theorem numm_fromInt.enter (f_0 : Int) (n_1 : Int) (signed_2 : Bool) (a_3 : Int) (R : Value → World → Prop) (w : World) (h : numm_fromInt.V f_0 n_1 signed_2 a_3 R w) : Runs Try.prog numm_fromInt.id #[(.int .i64 f_0), (.int .i64 n_1), (.bool signed_2), (.int .u64 a_3)] w R :=
  Runs.enter (c := bodyOf Try.f125) (N := 28) Try.func125 (by kernel_rfl) (by kernel_rfl) (by kernel_rfl) (seg_T good mixed Try.func125 600 false [.code (bodyOf Try.f125)] [(0, (.int .i64 f_0)), (1, (.int .i64 n_1)), (2, (.bool signed_2)), (3, (.int .u64 a_3))] w (Eq.mp (show numm_fromInt.V f_0 n_1 signed_2 a_3 R w = seg Try.prog 125 28 Try.f125.results.toList numm_fromInt.cuts R 600 false [.code (bodyOf Try.f125)] [(0, (.int .i64 f_0)), (1, (.int .i64 n_1)), (2, (.bool signed_2)), (3, (.int .u64 a_3))] w by kernel_rfl) h))

/-! e2e/numm.reformat -/
def numm_reformat.cuts : List (Nat × List Nat) := []
def numm_reformat.V (f_0 : Int) (g_1 : Int) (a_2 : Int) (R : Value → World → Prop) (w : World) : Prop :=
  (Runs Try.prog numm_unpack.id #[(.int .i64 f_0), (.int .u64 a_2)] w fun r4 w5 => (∃ x6 : Bool, ∃ x7 : Int, ∃ x8 : Int, ∃ x9 : Int, (r4 = (.tuple #[(.bool x6), (.int .i64 x7), (.int .u64 x8), (.int .i64 x9)]) ∧ (cond (x7 == (3 : Int))
  (Runs Try.prog numm_canon.id #[(.int .i64 g_1)] w5 fun r10 w11 => (∃ x12 : Int, (r10 = (.int .u64 x12) ∧ (R (.int .u64 x12) w11))))
  (cond (x7 == (2 : Int))
  (Runs Try.prog numm_infinity.id #[(.int .i64 g_1), (.bool x6)] w5 fun r13 w14 => (∃ x15 : Int, (r13 = (.int .u64 x15) ∧ (R (.int .u64 x15) w14))))
  (cond (x7 == (0 : Int))
  (Runs Try.prog numm_sign.id #[(.int .i64 g_1), (.bool x6)] w5 fun r16 w17 => (∃ x18 : Int, (r16 = (.int .u64 x18) ∧ (R (.int .u64 x18) w17))))
  (Runs Try.prog numm_round.id #[(.int .i64 g_1), (.bool x6), (.int .u64 x8), (.int .i64 x9), (.bool false)] w5 fun r19 w20 => (∃ x21 : Int, (r19 = (.int .u64 x21) ∧ (R (.int .u64 x21) w20))))))))))
theorem numm_reformat.enter (f_0 : Int) (g_1 : Int) (a_2 : Int) (R : Value → World → Prop) (w : World) (h : numm_reformat.V f_0 g_1 a_2 R w) : Runs Try.prog numm_reformat.id #[(.int .i64 f_0), (.int .i64 g_1), (.int .u64 a_2)] w R :=
  Runs.enter (c := bodyOf Try.f126) (N := 39) Try.func126 (by kernel_rfl) (by kernel_rfl) (by kernel_rfl) (seg_T good mixed Try.func126 600 false [.code (bodyOf Try.f126)] [(0, (.int .i64 f_0)), (1, (.int .i64 g_1)), (2, (.int .u64 a_2))] w (Eq.mp (show numm_reformat.V f_0 g_1 a_2 R w = seg Try.prog 126 39 Try.f126.results.toList numm_reformat.cuts R 600 false [.code (bodyOf Try.f126)] [(0, (.int .i64 f_0)), (1, (.int .i64 g_1)), (2, (.int .u64 a_2))] w by kernel_rfl) h))

/-! e2e/numm.infOf -/
def numm_infOf.cuts : List (Nat × List Nat) := []
def numm_infOf.V (f_0 : Int) (R : Value → World → Prop) (w : World) : Prop :=
  (Runs Try.prog numm_bias.id #[(.int .i64 f_0)] w fun r2 w3 => (∃ x4 : Int, (r2 = (.int .i64 x4) ∧ (Runs Try.prog numm_prec.id #[(.int .i64 f_0)] w3 fun r5 w6 => (∃ x7 : Int, (r5 = (.int .i64 x7) ∧ (0 ≤ (IntKind.wrap .u64 (IntKind.wrap .i64 (x7 - (1 : Int)))) ∧ (R (.int .u64 (IntKind.wrap .u64 ((IntKind.wrap .u64 (IntKind.wrap .i64 ((IntKind.wrap .i64 ((2 : Int) * x4)) + (1 : Int)))) * 2 ^ (min (Int.toNat (IntKind.wrap .u64 (IntKind.wrap .i64 (x7 - (1 : Int))))) (IntKind.bits .u64))))) w6))))))))
theorem numm_infOf.enter (f_0 : Int) (R : Value → World → Prop) (w : World) (h : numm_infOf.V f_0 R w) : Runs Try.prog numm_infOf.id #[(.int .i64 f_0)] w R :=
  Runs.enter (c := bodyOf Try.f129) (N := 17) Try.func129 (by kernel_rfl) (by kernel_rfl) (by kernel_rfl) (seg_T good mixed Try.func129 600 false [.code (bodyOf Try.f129)] [(0, (.int .i64 f_0))] w (Eq.mp (show numm_infOf.V f_0 R w = seg Try.prog 129 17 Try.f129.results.toList numm_infOf.cuts R 600 false [.code (bodyOf Try.f129)] [(0, (.int .i64 f_0))] w by kernel_rfl) h))

/-! e2e/numm.mag -/
def numm_mag.cuts : List (Nat × List Nat) := []
def numm_mag.V (n_0 : Int) (v_1 : Int) (R : Value → World → Prop) (w : World) : Prop :=
  (Runs Try.prog numm_top.id #[(.int .i64 n_0)] w fun r3 w4 => (∃ x5 : Int, (r3 = (.int .u64 x5) ∧ (cond (decide (v_1 ≥ x5))
  (Runs Try.prog numm_minus.id #[(.int .i64 n_0), (.int .u64 v_1)] w4 fun r6 w7 => (∃ x8 : Int, (r6 = (.int .u64 x8) ∧ (R (.int .u64 x8) w7))))
  (R (.int .u64 v_1) w4)))))
theorem numm_mag.enter (n_0 : Int) (v_1 : Int) (R : Value → World → Prop) (w : World) (h : numm_mag.V n_0 v_1 R w) : Runs Try.prog numm_mag.id #[(.int .i64 n_0), (.int .u64 v_1)] w R :=
  Runs.enter (c := bodyOf Try.f130) (N := 13) Try.func130 (by kernel_rfl) (by kernel_rfl) (by kernel_rfl) (seg_T good mixed Try.func130 600 false [.code (bodyOf Try.f130)] [(0, (.int .i64 n_0)), (1, (.int .u64 v_1))] w (Eq.mp (show numm_mag.V n_0 v_1 R w = seg Try.prog 130 13 Try.f130.results.toList numm_mag.cuts R 600 false [.code (bodyOf Try.f130)] [(0, (.int .i64 n_0)), (1, (.int .u64 v_1))] w by kernel_rfl) h))

/-! e2e/numm.unpack -/
def numm_unpack.cuts : List (Nat × List Nat) := []
def numm_unpack.V (f_0 : Int) (v_1 : Int) (R : Value → World → Prop) (w : World) : Prop :=
  (Runs Try.prog numm_prec.id #[(.int .i64 f_0)] w fun r3 w4 => (∃ x5 : Int, (r3 = (.int .i64 x5) ∧ (Runs Try.prog numm_bias.id #[(.int .i64 f_0)] w4 fun r6 w7 => (∃ x8 : Int, (r6 = (.int .i64 x8) ∧ (Runs Try.prog numm_top.id #[(.int .i64 f_0)] w7 fun r9 w10 => (∃ x11 : Int, (r9 = (.int .u64 x11) ∧ (0 ≤ (IntKind.wrap .u64 (IntKind.wrap .i64 (x5 - (1 : Int)))) ∧ (0 ≤ (IntKind.wrap .u64 (IntKind.wrap .i64 (x5 - (1 : Int)))) ∧ (cond ((IntKind.wrap .i64 (bAnd .u64 (Int.fdiv v_1 (2 ^ (min (Int.toNat (IntKind.wrap .u64 (IntKind.wrap .i64 (x5 - (1 : Int))))) (IntKind.bits .u64)))) (IntKind.wrap .u64 (IntKind.wrap .i64 ((IntKind.wrap .i64 ((2 : Int) * x8)) + (1 : Int)))))) == (IntKind.wrap .i64 ((IntKind.wrap .i64 ((2 : Int) * x8)) + (1 : Int))))
  (cond ((bAnd .u64 v_1 (IntKind.wrap .u64 ((IntKind.wrap .u64 ((1 : Int) * 2 ^ (min (Int.toNat (IntKind.wrap .u64 (IntKind.wrap .i64 (x5 - (1 : Int))))) (IntKind.bits .u64)))) - (1 : Int)))) == (0 : Int))
  (R (.tuple #[(.bool (decide (v_1 ≥ x11))), (.int .i64 2), (.int .u64 0), (.int .i64 0)]) w10)
  (R (.tuple #[(.bool (decide (v_1 ≥ x11))), (.int .i64 3), (.int .u64 0), (.int .i64 0)]) w10))
  (cond ((IntKind.wrap .i64 (bAnd .u64 (Int.fdiv v_1 (2 ^ (min (Int.toNat (IntKind.wrap .u64 (IntKind.wrap .i64 (x5 - (1 : Int))))) (IntKind.bits .u64)))) (IntKind.wrap .u64 (IntKind.wrap .i64 ((IntKind.wrap .i64 ((2 : Int) * x8)) + (1 : Int)))))) == (0 : Int))
  (cond ((bAnd .u64 v_1 (IntKind.wrap .u64 ((IntKind.wrap .u64 ((1 : Int) * 2 ^ (min (Int.toNat (IntKind.wrap .u64 (IntKind.wrap .i64 (x5 - (1 : Int))))) (IntKind.bits .u64)))) - (1 : Int)))) == (0 : Int))
  (R (.tuple #[(.bool (decide (v_1 ≥ x11))), (.int .i64 0), (.int .u64 0), (.int .i64 0)]) w10)
  (R (.tuple #[(.bool (decide (v_1 ≥ x11))), (.int .i64 1), (.int .u64 (bAnd .u64 v_1 (IntKind.wrap .u64 ((IntKind.wrap .u64 ((1 : Int) * 2 ^ (min (Int.toNat (IntKind.wrap .u64 (IntKind.wrap .i64 (x5 - (1 : Int))))) (IntKind.bits .u64)))) - (1 : Int))))), (.int .i64 (IntKind.wrap .i64 ((IntKind.wrap .i64 ((2 : Int) - x8)) - x5)))]) w10))
  (0 ≤ (IntKind.wrap .u64 (IntKind.wrap .i64 (x5 - (1 : Int)))) ∧ (R (.tuple #[(.bool (decide (v_1 ≥ x11))), (.int .i64 1), (.int .u64 (bOr .u64 (bAnd .u64 v_1 (IntKind.wrap .u64 ((IntKind.wrap .u64 ((1 : Int) * 2 ^ (min (Int.toNat (IntKind.wrap .u64 (IntKind.wrap .i64 (x5 - (1 : Int))))) (IntKind.bits .u64)))) - (1 : Int)))) (IntKind.wrap .u64 ((1 : Int) * 2 ^ (min (Int.toNat (IntKind.wrap .u64 (IntKind.wrap .i64 (x5 - (1 : Int))))) (IntKind.bits .u64)))))), (.int .i64 (IntKind.wrap .i64 ((IntKind.wrap .i64 ((IntKind.wrap .i64 ((IntKind.wrap .i64 (bAnd .u64 (Int.fdiv v_1 (2 ^ (min (Int.toNat (IntKind.wrap .u64 (IntKind.wrap .i64 (x5 - (1 : Int))))) (IntKind.bits .u64)))) (IntKind.wrap .u64 (IntKind.wrap .i64 ((IntKind.wrap .i64 ((2 : Int) * x8)) + (1 : Int)))))) - x8)) - x5)) + (1 : Int))))]) w10)))))))))))))))
theorem numm_unpack.enter (f_0 : Int) (v_1 : Int) (R : Value → World → Prop) (w : World) (h : numm_unpack.V f_0 v_1 R w) : Runs Try.prog numm_unpack.id #[(.int .i64 f_0), (.int .u64 v_1)] w R :=
  Runs.enter (c := bodyOf Try.f131) (N := 71) Try.func131 (by kernel_rfl) (by kernel_rfl) (by kernel_rfl) (seg_T good mixed Try.func131 600 false [.code (bodyOf Try.f131)] [(0, (.int .i64 f_0)), (1, (.int .u64 v_1))] w (Eq.mp (show numm_unpack.V f_0 v_1 R w = seg Try.prog 131 71 Try.f131.results.toList numm_unpack.cuts R 600 false [.code (bodyOf Try.f131)] [(0, (.int .i64 f_0)), (1, (.int .u64 v_1))] w by kernel_rfl) h))

/-! e2e/numm.lift -/
def numm_lift.cuts : List (Nat × List Nat) := [(3, [0, 1, 2])]
def numm_lift.L1 (m_0 : Int) (e_1 : Int) (at_2 : Int) (R : Value → World → Prop) (w : World) : Prop :=
  T Try.prog 132 19 [.inLoop (sub (bodyOf Try.f132) [1, 0, 0, 0]), .inBlock 0, .code (sub (bodyOf Try.f132) [1, 1])] [(0, (.int .u64 m_0)), (1, (.int .i64 e_1)), (2, (.int .i64 at_2))] w R
def numm_lift.V1 (m_0 : Int) (e_1 : Int) (at_2 : Int) (R : Value → World → Prop) (w : World) : Prop :=
  (0 ≤ (IntKind.wrap .u64 at_2) ∧ (cond ((Int.fdiv m_0 (2 ^ (min (Int.toNat (IntKind.wrap .u64 at_2)) (IntKind.bits .u64)))) == (0 : Int))
  (numm_lift.L1 (IntKind.wrap .u64 (m_0 * 2 ^ (1 : Nat))) (IntKind.wrap .i64 (e_1 - (1 : Int))) at_2 R w)
  (R (.tuple #[(.int .u64 m_0), (.int .i64 e_1)]) w)))
theorem numm_lift.step1 (m_0 : Int) (e_1 : Int) (at_2 : Int) (R : Value → World → Prop) (w : World) (h : numm_lift.V1 m_0 e_1 at_2 R w) : numm_lift.L1 m_0 e_1 at_2 R w :=
  seg_T good mixed Try.func132 600 false [.inLoop (sub (bodyOf Try.f132) [1, 0, 0, 0]), .inBlock 0, .code (sub (bodyOf Try.f132) [1, 1])] [(0, (.int .u64 m_0)), (1, (.int .i64 e_1)), (2, (.int .i64 at_2))] w (Eq.mp (show numm_lift.V1 m_0 e_1 at_2 R w = seg Try.prog 132 19 Try.f132.results.toList numm_lift.cuts R 600 false [.inLoop (sub (bodyOf Try.f132) [1, 0, 0, 0]), .inBlock 0, .code (sub (bodyOf Try.f132) [1, 1])] [(0, (.int .u64 m_0)), (1, (.int .i64 e_1)), (2, (.int .i64 at_2))] w by kernel_rfl) h)
def numm_lift.V (m_0 : Int) (e_1 : Int) (at_2 : Int) (R : Value → World → Prop) (w : World) : Prop :=
  (numm_lift.L1 m_0 e_1 at_2 R w)
theorem numm_lift.enter (m_0 : Int) (e_1 : Int) (at_2 : Int) (R : Value → World → Prop) (w : World) (h : numm_lift.V m_0 e_1 at_2 R w) : Runs Try.prog numm_lift.id #[(.int .u64 m_0), (.int .i64 e_1), (.int .i64 at_2)] w R :=
  Runs.enter (c := bodyOf Try.f132) (N := 19) Try.func132 (by kernel_rfl) (by kernel_rfl) (by kernel_rfl) (seg_T good mixed Try.func132 600 false [.code (bodyOf Try.f132)] [(0, (.int .u64 m_0)), (1, (.int .i64 e_1)), (2, (.int .i64 at_2))] w (Eq.mp (show numm_lift.V m_0 e_1 at_2 R w = seg Try.prog 132 19 Try.f132.results.toList numm_lift.cuts R 600 false [.code (bodyOf Try.f132)] [(0, (.int .u64 m_0)), (1, (.int .i64 e_1)), (2, (.int .i64 at_2))] w by kernel_rfl) h))

/-! e2e/numm.round -/
def numm_round.cuts : List (Nat × List Nat) := [(2, [0, 1, 2, 3, 4]), (4, [0, 1, 2, 3, 4, 11]), (6, [0, 1, 2, 3, 4, 11, 12]), (8, [0, 1, 2, 3, 4, 11, 12]), (10, [0, 1, 2, 4, 11, 12, 13]), (12, [0, 1, 2, 4, 11, 12, 13, 14]), (16, [0, 1, 2, 4, 11, 12, 13, 14]), (22, [0, 1, 2, 4, 11, 12, 13, 14, 15]), (24, [0, 1, 2, 4, 11, 12, 13, 14, 15, 16]), (26, [0, 1, 2, 4, 11, 12, 13, 14, 15, 16, 17]), (30, [0, 1, 2, 4, 11, 12, 13, 18]), (32, [0, 1, 2, 4, 11, 12, 13, 15, 18]), (36, [0, 1, 4, 11, 12, 13, 15, 16, 17]), (38, [0, 1, 11, 12, 13, 15, 79]), (40, [0, 1, 11, 12, 13, 15]), (50, [0, 1, 11, 12, 13, 15])]
def numm_round.L1 (f_0 : Int) (neg_1 : Bool) (m_2 : Int) (e_3 : Int) (sticky_4 : Bool) (R : Value → World → Prop) (w : World) : Prop :=
  T Try.prog 133 121 [.code (sub (bodyOf Try.f133) [1])] [(0, (.int .i64 f_0)), (1, (.bool neg_1)), (2, (.int .u64 m_2)), (3, (.int .i64 e_3)), (4, (.bool sticky_4))] w R
def numm_round.L2 (f_0 : Int) (neg_1 : Bool) (m_2 : Int) (e_3 : Int) (sticky_4 : Bool) (p_11 : Int) (R : Value → World → Prop) (w : World) : Prop :=
  T Try.prog 133 121 [.code (sub (bodyOf Try.f133) [1, 1])] [(0, (.int .i64 f_0)), (1, (.bool neg_1)), (2, (.int .u64 m_2)), (3, (.int .i64 e_3)), (4, (.bool sticky_4)), (11, (.int .i64 p_11))] w R
def numm_round.L3 (f_0 : Int) (neg_1 : Bool) (m_2 : Int) (e_3 : Int) (sticky_4 : Bool) (p_11 : Int) (bi_12 : Int) (R : Value → World → Prop) (w : World) : Prop :=
  T Try.prog 133 121 [.code (sub (bodyOf Try.f133) [1, 1, 1])] [(0, (.int .i64 f_0)), (1, (.bool neg_1)), (2, (.int .u64 m_2)), (3, (.int .i64 e_3)), (4, (.bool sticky_4)), (11, (.int .i64 p_11)), (12, (.int .i64 bi_12))] w R
def numm_round.L4 (f_0 : Int) (neg_1 : Bool) (m_2 : Int) (e_3 : Int) (sticky_4 : Bool) (p_11 : Int) (bi_12 : Int) (R : Value → World → Prop) (w : World) : Prop :=
  T Try.prog 133 121 [.code (sub (bodyOf Try.f133) [1, 1, 1, 1])] [(0, (.int .i64 f_0)), (1, (.bool neg_1)), (2, (.int .u64 m_2)), (3, (.int .i64 e_3)), (4, (.bool sticky_4)), (11, (.int .i64 p_11)), (12, (.int .i64 bi_12))] w R
def numm_round.L5 (f_0 : Int) (neg_1 : Bool) (m_2 : Int) (sticky_4 : Bool) (p_11 : Int) (bi_12 : Int) (ex_13 : Int) (R : Value → World → Prop) (w : World) : Prop :=
  T Try.prog 133 121 [.code (sub (bodyOf Try.f133) [1, 1, 1, 1, 1])] [(0, (.int .i64 f_0)), (1, (.bool neg_1)), (2, (.int .u64 m_2)), (4, (.bool sticky_4)), (11, (.int .i64 p_11)), (12, (.int .i64 bi_12)), (13, (.int .i64 ex_13))] w R
def numm_round.L6 (f_0 : Int) (neg_1 : Bool) (m_2 : Int) (sticky_4 : Bool) (p_11 : Int) (bi_12 : Int) (ex_13 : Int) (keep_14 : Int) (R : Value → World → Prop) (w : World) : Prop :=
  T Try.prog 133 121 [.code (sub (bodyOf Try.f133) [1, 1, 1, 1, 1, 1])] [(0, (.int .i64 f_0)), (1, (.bool neg_1)), (2, (.int .u64 m_2)), (4, (.bool sticky_4)), (11, (.int .i64 p_11)), (12, (.int .i64 bi_12)), (13, (.int .i64 ex_13)), (14, (.int .i64 keep_14))] w R
def numm_round.L7 (f_0 : Int) (neg_1 : Bool) (m_2 : Int) (sticky_4 : Bool) (p_11 : Int) (bi_12 : Int) (ex_13 : Int) (keep_14 : Int) (R : Value → World → Prop) (w : World) : Prop :=
  T Try.prog 133 121 [.code (sub (bodyOf Try.f133) [1, 1, 1, 1, 1, 1, 1])] [(0, (.int .i64 f_0)), (1, (.bool neg_1)), (2, (.int .u64 m_2)), (4, (.bool sticky_4)), (11, (.int .i64 p_11)), (12, (.int .i64 bi_12)), (13, (.int .i64 ex_13)), (14, (.int .i64 keep_14))] w R
def numm_round.L8 (f_0 : Int) (neg_1 : Bool) (m_2 : Int) (sticky_4 : Bool) (p_11 : Int) (bi_12 : Int) (ex_13 : Int) (keep_14 : Int) (q_15 : Int) (R : Value → World → Prop) (w : World) : Prop :=
  T Try.prog 133 121 [.code (sub (bodyOf Try.f133) [1, 1, 1, 1, 1, 1, 1, 1, 1])] [(0, (.int .i64 f_0)), (1, (.bool neg_1)), (2, (.int .u64 m_2)), (4, (.bool sticky_4)), (11, (.int .i64 p_11)), (12, (.int .i64 bi_12)), (13, (.int .i64 ex_13)), (14, (.int .i64 keep_14)), (15, (.int .u64 q_15))] w R
def numm_round.L9 (f_0 : Int) (neg_1 : Bool) (m_2 : Int) (sticky_4 : Bool) (p_11 : Int) (bi_12 : Int) (ex_13 : Int) (keep_14 : Int) (q_15 : Int) (rem_16 : Int) (R : Value → World → Prop) (w : World) : Prop :=
  T Try.prog 133 121 [.code (sub (bodyOf Try.f133) [1, 1, 1, 1, 1, 1, 1, 1, 1, 1])] [(0, (.int .i64 f_0)), (1, (.bool neg_1)), (2, (.int .u64 m_2)), (4, (.bool sticky_4)), (11, (.int .i64 p_11)), (12, (.int .i64 bi_12)), (13, (.int .i64 ex_13)), (14, (.int .i64 keep_14)), (15, (.int .u64 q_15)), (16, (.int .u64 rem_16))] w R
def numm_round.L10 (f_0 : Int) (neg_1 : Bool) (m_2 : Int) (sticky_4 : Bool) (p_11 : Int) (bi_12 : Int) (ex_13 : Int) (keep_14 : Int) (q_15 : Int) (rem_16 : Int) (half_17 : Int) (R : Value → World → Prop) (w : World) : Prop :=
  T Try.prog 133 121 [.code (sub (bodyOf Try.f133) [1, 1, 1, 1, 1, 1, 1, 1, 1, 1, 1])] [(0, (.int .i64 f_0)), (1, (.bool neg_1)), (2, (.int .u64 m_2)), (4, (.bool sticky_4)), (11, (.int .i64 p_11)), (12, (.int .i64 bi_12)), (13, (.int .i64 ex_13)), (14, (.int .i64 keep_14)), (15, (.int .u64 q_15)), (16, (.int .u64 rem_16)), (17, (.int .u64 half_17))] w R
def numm_round.L11 (f_0 : Int) (neg_1 : Bool) (m_2 : Int) (sticky_4 : Bool) (p_11 : Int) (bi_12 : Int) (ex_13 : Int) (c_18 : Int) (R : Value → World → Prop) (w : World) : Prop :=
  T Try.prog 133 121 [.code (sub (bodyOf Try.f133) [1, 1, 1, 1, 1, 1, 1, 1, 1, 1, 1, 0, 1, 0, 1]), .code (sub (bodyOf Try.f133) [1, 1, 1, 1, 1, 1, 1, 1, 1, 1, 1, 1])] [(0, (.int .i64 f_0)), (1, (.bool neg_1)), (2, (.int .u64 m_2)), (4, (.bool sticky_4)), (11, (.int .i64 p_11)), (12, (.int .i64 bi_12)), (13, (.int .i64 ex_13)), (18, (.int .u64 c_18))] w R
def numm_round.L12 (f_0 : Int) (neg_1 : Bool) (sticky_4 : Bool) (p_11 : Int) (bi_12 : Int) (ex_13 : Int) (q_15 : Int) (rem_16 : Int) (half_17 : Int) (R : Value → World → Prop) (w : World) : Prop :=
  T Try.prog 133 121 [.code (sub (bodyOf Try.f133) [1, 1, 1, 1, 1, 1, 1, 1, 1, 1, 1, 1])] [(0, (.int .i64 f_0)), (1, (.bool neg_1)), (4, (.bool sticky_4)), (11, (.int .i64 p_11)), (12, (.int .i64 bi_12)), (13, (.int .i64 ex_13)), (15, (.int .u64 q_15)), (16, (.int .u64 rem_16)), (17, (.int .u64 half_17))] w R
def numm_round.L13 (f_0 : Int) (neg_1 : Bool) (m_2 : Int) (sticky_4 : Bool) (p_11 : Int) (bi_12 : Int) (ex_13 : Int) (q_15 : Int) (c_18 : Int) (R : Value → World → Prop) (w : World) : Prop :=
  T Try.prog 133 121 [.code (sub (bodyOf Try.f133) [1, 1, 1, 1, 1, 1, 1, 1, 1, 1, 1, 0, 1, 0, 1, 1]), .code (sub (bodyOf Try.f133) [1, 1, 1, 1, 1, 1, 1, 1, 1, 1, 1, 1])] [(0, (.int .i64 f_0)), (1, (.bool neg_1)), (2, (.int .u64 m_2)), (4, (.bool sticky_4)), (11, (.int .i64 p_11)), (12, (.int .i64 bi_12)), (13, (.int .i64 ex_13)), (15, (.int .u64 q_15)), (18, (.int .u64 c_18))] w R
def numm_round.L14 (f_0 : Int) (neg_1 : Bool) (p_11 : Int) (bi_12 : Int) (ex_13 : Int) (q_15 : Int) (t_79 : Bool) (R : Value → World → Prop) (w : World) : Prop :=
  T Try.prog 133 121 [.code (sub (bodyOf Try.f133) [1, 1, 1, 1, 1, 1, 1, 1, 1, 1, 1, 1, 0, 1]), .code (sub (bodyOf Try.f133) [1, 1, 1, 1, 1, 1, 1, 1, 1, 1, 1, 1, 1])] [(0, (.int .i64 f_0)), (1, (.bool neg_1)), (11, (.int .i64 p_11)), (12, (.int .i64 bi_12)), (13, (.int .i64 ex_13)), (15, (.int .u64 q_15)), (79, (.bool t_79))] w R
def numm_round.L15 (f_0 : Int) (neg_1 : Bool) (p_11 : Int) (bi_12 : Int) (ex_13 : Int) (q_15 : Int) (R : Value → World → Prop) (w : World) : Prop :=
  T Try.prog 133 121 [.code (sub (bodyOf Try.f133) [1, 1, 1, 1, 1, 1, 1, 1, 1, 1, 1, 1, 1])] [(0, (.int .i64 f_0)), (1, (.bool neg_1)), (11, (.int .i64 p_11)), (12, (.int .i64 bi_12)), (13, (.int .i64 ex_13)), (15, (.int .u64 q_15))] w R
def numm_round.L16 (f_0 : Int) (neg_1 : Bool) (p_11 : Int) (bi_12 : Int) (ex_13 : Int) (q_15 : Int) (R : Value → World → Prop) (w : World) : Prop :=
  T Try.prog 133 121 [.code (sub (bodyOf Try.f133) [1, 1, 1, 1, 1, 1, 1, 1, 1, 1, 1, 1, 1, 1, 1])] [(0, (.int .i64 f_0)), (1, (.bool neg_1)), (11, (.int .i64 p_11)), (12, (.int .i64 bi_12)), (13, (.int .i64 ex_13)), (15, (.int .u64 q_15))] w R
def numm_round.V1 (f_0 : Int) (neg_1 : Bool) (m_2 : Int) (e_3 : Int) (sticky_4 : Bool) (R : Value → World → Prop) (w : World) : Prop :=
  (Runs Try.prog numm_prec.id #[(.int .i64 f_0)] w fun r1 w2 => (∃ x3 : Int, (r1 = (.int .i64 x3) ∧ (numm_round.L2 f_0 neg_1 m_2 e_3 sticky_4 x3 R w2))))
theorem numm_round.step1 (f_0 : Int) (neg_1 : Bool) (m_2 : Int) (e_3 : Int) (sticky_4 : Bool) (R : Value → World → Prop) (w : World) (h : numm_round.V1 f_0 neg_1 m_2 e_3 sticky_4 R w) : numm_round.L1 f_0 neg_1 m_2 e_3 sticky_4 R w :=
  seg_T good mixed Try.func133 600 false [.code (sub (bodyOf Try.f133) [1])] [(0, (.int .i64 f_0)), (1, (.bool neg_1)), (2, (.int .u64 m_2)), (3, (.int .i64 e_3)), (4, (.bool sticky_4))] w (Eq.mp (show numm_round.V1 f_0 neg_1 m_2 e_3 sticky_4 R w = seg Try.prog 133 121 Try.f133.results.toList numm_round.cuts R 600 false [.code (sub (bodyOf Try.f133) [1])] [(0, (.int .i64 f_0)), (1, (.bool neg_1)), (2, (.int .u64 m_2)), (3, (.int .i64 e_3)), (4, (.bool sticky_4))] w by kernel_rfl) h)
def numm_round.V2 (f_0 : Int) (neg_1 : Bool) (m_2 : Int) (e_3 : Int) (sticky_4 : Bool) (p_11 : Int) (R : Value → World → Prop) (w : World) : Prop :=
  (Runs Try.prog numm_bias.id #[(.int .i64 f_0)] w fun r1 w2 => (∃ x3 : Int, (r1 = (.int .i64 x3) ∧ (numm_round.L3 f_0 neg_1 m_2 e_3 sticky_4 p_11 x3 R w2))))
theorem numm_round.step2 (f_0 : Int) (neg_1 : Bool) (m_2 : Int) (e_3 : Int) (sticky_4 : Bool) (p_11 : Int) (R : Value → World → Prop) (w : World) (h : numm_round.V2 f_0 neg_1 m_2 e_3 sticky_4 p_11 R w) : numm_round.L2 f_0 neg_1 m_2 e_3 sticky_4 p_11 R w :=
  seg_T good mixed Try.func133 600 false [.code (sub (bodyOf Try.f133) [1, 1])] [(0, (.int .i64 f_0)), (1, (.bool neg_1)), (2, (.int .u64 m_2)), (3, (.int .i64 e_3)), (4, (.bool sticky_4)), (11, (.int .i64 p_11))] w (Eq.mp (show numm_round.V2 f_0 neg_1 m_2 e_3 sticky_4 p_11 R w = seg Try.prog 133 121 Try.f133.results.toList numm_round.cuts R 600 false [.code (sub (bodyOf Try.f133) [1, 1])] [(0, (.int .i64 f_0)), (1, (.bool neg_1)), (2, (.int .u64 m_2)), (3, (.int .i64 e_3)), (4, (.bool sticky_4)), (11, (.int .i64 p_11))] w by kernel_rfl) h)
def numm_round.V3 (f_0 : Int) (neg_1 : Bool) (m_2 : Int) (e_3 : Int) (sticky_4 : Bool) (p_11 : Int) (bi_12 : Int) (R : Value → World → Prop) (w : World) : Prop :=
  (Runs Try.prog numm_lift.id #[(.int .u64 m_2), (.int .i64 e_3), (.int .i64 63)] w fun r1 w2 => (∃ x3 : Int, ∃ x4 : Int, (r1 = (.tuple #[(.int .u64 x3), (.int .i64 x4)]) ∧ (numm_round.L4 f_0 neg_1 x3 x4 sticky_4 p_11 bi_12 R w2))))
theorem numm_round.step3 (f_0 : Int) (neg_1 : Bool) (m_2 : Int) (e_3 : Int) (sticky_4 : Bool) (p_11 : Int) (bi_12 : Int) (R : Value → World → Prop) (w : World) (h : numm_round.V3 f_0 neg_1 m_2 e_3 sticky_4 p_11 bi_12 R w) : numm_round.L3 f_0 neg_1 m_2 e_3 sticky_4 p_11 bi_12 R w :=
  seg_T good mixed Try.func133 600 false [.code (sub (bodyOf Try.f133) [1, 1, 1])] [(0, (.int .i64 f_0)), (1, (.bool neg_1)), (2, (.int .u64 m_2)), (3, (.int .i64 e_3)), (4, (.bool sticky_4)), (11, (.int .i64 p_11)), (12, (.int .i64 bi_12))] w (Eq.mp (show numm_round.V3 f_0 neg_1 m_2 e_3 sticky_4 p_11 bi_12 R w = seg Try.prog 133 121 Try.f133.results.toList numm_round.cuts R 600 false [.code (sub (bodyOf Try.f133) [1, 1, 1])] [(0, (.int .i64 f_0)), (1, (.bool neg_1)), (2, (.int .u64 m_2)), (3, (.int .i64 e_3)), (4, (.bool sticky_4)), (11, (.int .i64 p_11)), (12, (.int .i64 bi_12))] w by kernel_rfl) h)
def numm_round.V4 (f_0 : Int) (neg_1 : Bool) (m_2 : Int) (e_3 : Int) (sticky_4 : Bool) (p_11 : Int) (bi_12 : Int) (R : Value → World → Prop) (w : World) : Prop :=
  (numm_round.L5 f_0 neg_1 m_2 sticky_4 p_11 bi_12 (IntKind.wrap .i64 (e_3 + (63 : Int))) R w)
theorem numm_round.step4 (f_0 : Int) (neg_1 : Bool) (m_2 : Int) (e_3 : Int) (sticky_4 : Bool) (p_11 : Int) (bi_12 : Int) (R : Value → World → Prop) (w : World) (h : numm_round.V4 f_0 neg_1 m_2 e_3 sticky_4 p_11 bi_12 R w) : numm_round.L4 f_0 neg_1 m_2 e_3 sticky_4 p_11 bi_12 R w :=
  seg_T good mixed Try.func133 600 false [.code (sub (bodyOf Try.f133) [1, 1, 1, 1])] [(0, (.int .i64 f_0)), (1, (.bool neg_1)), (2, (.int .u64 m_2)), (3, (.int .i64 e_3)), (4, (.bool sticky_4)), (11, (.int .i64 p_11)), (12, (.int .i64 bi_12))] w (Eq.mp (show numm_round.V4 f_0 neg_1 m_2 e_3 sticky_4 p_11 bi_12 R w = seg Try.prog 133 121 Try.f133.results.toList numm_round.cuts R 600 false [.code (sub (bodyOf Try.f133) [1, 1, 1, 1])] [(0, (.int .i64 f_0)), (1, (.bool neg_1)), (2, (.int .u64 m_2)), (3, (.int .i64 e_3)), (4, (.bool sticky_4)), (11, (.int .i64 p_11)), (12, (.int .i64 bi_12))] w by kernel_rfl) h)
def numm_round.V5 (f_0 : Int) (neg_1 : Bool) (m_2 : Int) (sticky_4 : Bool) (p_11 : Int) (bi_12 : Int) (ex_13 : Int) (R : Value → World → Prop) (w : World) : Prop :=
  (numm_round.L6 f_0 neg_1 m_2 sticky_4 p_11 bi_12 ex_13 p_11 R w)
theorem numm_round.step5 (f_0 : Int) (neg_1 : Bool) (m_2 : Int) (sticky_4 : Bool) (p_11 : Int) (bi_12 : Int) (ex_13 : Int) (R : Value → World → Prop) (w : World) (h : numm_round.V5 f_0 neg_1 m_2 sticky_4 p_11 bi_12 ex_13 R w) : numm_round.L5 f_0 neg_1 m_2 sticky_4 p_11 bi_12 ex_13 R w :=
  seg_T good mixed Try.func133 600 false [.code (sub (bodyOf Try.f133) [1, 1, 1, 1, 1])] [(0, (.int .i64 f_0)), (1, (.bool neg_1)), (2, (.int .u64 m_2)), (4, (.bool sticky_4)), (11, (.int .i64 p_11)), (12, (.int .i64 bi_12)), (13, (.int .i64 ex_13))] w (Eq.mp (show numm_round.V5 f_0 neg_1 m_2 sticky_4 p_11 bi_12 ex_13 R w = seg Try.prog 133 121 Try.f133.results.toList numm_round.cuts R 600 false [.code (sub (bodyOf Try.f133) [1, 1, 1, 1, 1])] [(0, (.int .i64 f_0)), (1, (.bool neg_1)), (2, (.int .u64 m_2)), (4, (.bool sticky_4)), (11, (.int .i64 p_11)), (12, (.int .i64 bi_12)), (13, (.int .i64 ex_13))] w by kernel_rfl) h)
def numm_round.V6 (f_0 : Int) (neg_1 : Bool) (m_2 : Int) (sticky_4 : Bool) (p_11 : Int) (bi_12 : Int) (ex_13 : Int) (keep_14 : Int) (R : Value → World → Prop) (w : World) : Prop :=
  (cond (decide (ex_13 < (IntKind.wrap .i64 ((1 : Int) - bi_12))))
  (numm_round.L7 f_0 neg_1 m_2 sticky_4 p_11 bi_12 ex_13 (IntKind.wrap .i64 (p_11 - (IntKind.wrap .i64 ((IntKind.wrap .i64 ((1 : Int) - bi_12)) - ex_13)))) R w)
  (numm_round.L7 f_0 neg_1 m_2 sticky_4 p_11 bi_12 ex_13 keep_14 R w))
theorem numm_round.step6 (f_0 : Int) (neg_1 : Bool) (m_2 : Int) (sticky_4 : Bool) (p_11 : Int) (bi_12 : Int) (ex_13 : Int) (keep_14 : Int) (R : Value → World → Prop) (w : World) (h : numm_round.V6 f_0 neg_1 m_2 sticky_4 p_11 bi_12 ex_13 keep_14 R w) : numm_round.L6 f_0 neg_1 m_2 sticky_4 p_11 bi_12 ex_13 keep_14 R w :=
  seg_T good mixed Try.func133 600 false [.code (sub (bodyOf Try.f133) [1, 1, 1, 1, 1, 1])] [(0, (.int .i64 f_0)), (1, (.bool neg_1)), (2, (.int .u64 m_2)), (4, (.bool sticky_4)), (11, (.int .i64 p_11)), (12, (.int .i64 bi_12)), (13, (.int .i64 ex_13)), (14, (.int .i64 keep_14))] w (Eq.mp (show numm_round.V6 f_0 neg_1 m_2 sticky_4 p_11 bi_12 ex_13 keep_14 R w = seg Try.prog 133 121 Try.f133.results.toList numm_round.cuts R 600 false [.code (sub (bodyOf Try.f133) [1, 1, 1, 1, 1, 1])] [(0, (.int .i64 f_0)), (1, (.bool neg_1)), (2, (.int .u64 m_2)), (4, (.bool sticky_4)), (11, (.int .i64 p_11)), (12, (.int .i64 bi_12)), (13, (.int .i64 ex_13)), (14, (.int .i64 keep_14))] w by kernel_rfl) h)
def numm_round.V7 (f_0 : Int) (neg_1 : Bool) (m_2 : Int) (sticky_4 : Bool) (p_11 : Int) (bi_12 : Int) (ex_13 : Int) (keep_14 : Int) (R : Value → World → Prop) (w : World) : Prop :=
  (cond (decide (keep_14 < (0 : Int)))
  (Runs Try.prog numm_sign.id #[(.int .i64 f_0), (.bool neg_1)] w fun r1 w2 => (∃ x3 : Int, (r1 = (.int .u64 x3) ∧ (R (.int .u64 x3) w2))))
  (numm_round.L8 f_0 neg_1 m_2 sticky_4 p_11 bi_12 ex_13 keep_14 0 R w))
theorem numm_round.step7 (f_0 : Int) (neg_1 : Bool) (m_2 : Int) (sticky_4 : Bool) (p_11 : Int) (bi_12 : Int) (ex_13 : Int) (keep_14 : Int) (R : Value → World → Prop) (w : World) (h : numm_round.V7 f_0 neg_1 m_2 sticky_4 p_11 bi_12 ex_13 keep_14 R w) : numm_round.L7 f_0 neg_1 m_2 sticky_4 p_11 bi_12 ex_13 keep_14 R w :=
  seg_T good mixed Try.func133 600 false [.code (sub (bodyOf Try.f133) [1, 1, 1, 1, 1, 1, 1])] [(0, (.int .i64 f_0)), (1, (.bool neg_1)), (2, (.int .u64 m_2)), (4, (.bool sticky_4)), (11, (.int .i64 p_11)), (12, (.int .i64 bi_12)), (13, (.int .i64 ex_13)), (14, (.int .i64 keep_14))] w (Eq.mp (show numm_round.V7 f_0 neg_1 m_2 sticky_4 p_11 bi_12 ex_13 keep_14 R w = seg Try.prog 133 121 Try.f133.results.toList numm_round.cuts R 600 false [.code (sub (bodyOf Try.f133) [1, 1, 1, 1, 1, 1, 1])] [(0, (.int .i64 f_0)), (1, (.bool neg_1)), (2, (.int .u64 m_2)), (4, (.bool sticky_4)), (11, (.int .i64 p_11)), (12, (.int .i64 bi_12)), (13, (.int .i64 ex_13)), (14, (.int .i64 keep_14))] w by kernel_rfl) h)
def numm_round.V8 (f_0 : Int) (neg_1 : Bool) (m_2 : Int) (sticky_4 : Bool) (p_11 : Int) (bi_12 : Int) (ex_13 : Int) (keep_14 : Int) (q_15 : Int) (R : Value → World → Prop) (w : World) : Prop :=
  (numm_round.L9 f_0 neg_1 m_2 sticky_4 p_11 bi_12 ex_13 keep_14 q_15 m_2 R w)
theorem numm_round.step8 (f_0 : Int) (neg_1 : Bool) (m_2 : Int) (sticky_4 : Bool) (p_11 : Int) (bi_12 : Int) (ex_13 : Int) (keep_14 : Int) (q_15 : Int) (R : Value → World → Prop) (w : World) (h : numm_round.V8 f_0 neg_1 m_2 sticky_4 p_11 bi_12 ex_13 keep_14 q_15 R w) : numm_round.L8 f_0 neg_1 m_2 sticky_4 p_11 bi_12 ex_13 keep_14 q_15 R w :=
  seg_T good mixed Try.func133 600 false [.code (sub (bodyOf Try.f133) [1, 1, 1, 1, 1, 1, 1, 1, 1])] [(0, (.int .i64 f_0)), (1, (.bool neg_1)), (2, (.int .u64 m_2)), (4, (.bool sticky_4)), (11, (.int .i64 p_11)), (12, (.int .i64 bi_12)), (13, (.int .i64 ex_13)), (14, (.int .i64 keep_14)), (15, (.int .u64 q_15))] w (Eq.mp (show numm_round.V8 f_0 neg_1 m_2 sticky_4 p_11 bi_12 ex_13 keep_14 q_15 R w = seg Try.prog 133 121 Try.f133.results.toList numm_round.cuts R 600 false [.code (sub (bodyOf Try.f133) [1, 1, 1, 1, 1, 1, 1, 1, 1])] [(0, (.int .i64 f_0)), (1, (.bool neg_1)), (2, (.int .u64 m_2)), (4, (.bool sticky_4)), (11, (.int .i64 p_11)), (12, (.int .i64 bi_12)), (13, (.int .i64 ex_13)), (14, (.int .i64 keep_14)), (15, (.int .u64 q_15))] w by kernel_rfl) h)
def numm_round.V9 (f_0 : Int) (neg_1 : Bool) (m_2 : Int) (sticky_4 : Bool) (p_11 : Int) (bi_12 : Int) (ex_13 : Int) (keep_14 : Int) (q_15 : Int) (rem_16 : Int) (R : Value → World → Prop) (w : World) : Prop :=
  (numm_round.L10 f_0 neg_1 m_2 sticky_4 p_11 bi_12 ex_13 keep_14 q_15 rem_16 9223372036854775808 R w)
theorem numm_round.step9 (f_0 : Int) (neg_1 : Bool) (m_2 : Int) (sticky_4 : Bool) (p_11 : Int) (bi_12 : Int) (ex_13 : Int) (keep_14 : Int) (q_15 : Int) (rem_16 : Int) (R : Value → World → Prop) (w : World) (h : numm_round.V9 f_0 neg_1 m_2 sticky_4 p_11 bi_12 ex_13 keep_14 q_15 rem_16 R w) : numm_round.L9 f_0 neg_1 m_2 sticky_4 p_11 bi_12 ex_13 keep_14 q_15 rem_16 R w :=
  seg_T good mixed Try.func133 600 false [.code (sub (bodyOf Try.f133) [1, 1, 1, 1, 1, 1, 1, 1, 1, 1])] [(0, (.int .i64 f_0)), (1, (.bool neg_1)), (2, (.int .u64 m_2)), (4, (.bool sticky_4)), (11, (.int .i64 p_11)), (12, (.int .i64 bi_12)), (13, (.int .i64 ex_13)), (14, (.int .i64 keep_14)), (15, (.int .u64 q_15)), (16, (.int .u64 rem_16))] w (Eq.mp (show numm_round.V9 f_0 neg_1 m_2 sticky_4 p_11 bi_12 ex_13 keep_14 q_15 rem_16 R w = seg Try.prog 133 121 Try.f133.results.toList numm_round.cuts R 600 false [.code (sub (bodyOf Try.f133) [1, 1, 1, 1, 1, 1, 1, 1, 1, 1])] [(0, (.int .i64 f_0)), (1, (.bool neg_1)), (2, (.int .u64 m_2)), (4, (.bool sticky_4)), (11, (.int .i64 p_11)), (12, (.int .i64 bi_12)), (13, (.int .i64 ex_13)), (14, (.int .i64 keep_14)), (15, (.int .u64 q_15)), (16, (.int .u64 rem_16))] w by kernel_rfl) h)
def numm_round.V10 (f_0 : Int) (neg_1 : Bool) (m_2 : Int) (sticky_4 : Bool) (p_11 : Int) (bi_12 : Int) (ex_13 : Int) (keep_14 : Int) (q_15 : Int) (rem_16 : Int) (half_17 : Int) (R : Value → World → Prop) (w : World) : Prop :=
  (cond (decide (keep_14 > (0 : Int)))
  (numm_round.L11 f_0 neg_1 m_2 sticky_4 p_11 bi_12 ex_13 (IntKind.wrap .u64 (IntKind.wrap .i64 ((64 : Int) - keep_14))) R w)
  (numm_round.L12 f_0 neg_1 sticky_4 p_11 bi_12 ex_13 q_15 rem_16 half_17 R w))
theorem numm_round.step10 (f_0 : Int) (neg_1 : Bool) (m_2 : Int) (sticky_4 : Bool) (p_11 : Int) (bi_12 : Int) (ex_13 : Int) (keep_14 : Int) (q_15 : Int) (rem_16 : Int) (half_17 : Int) (R : Value → World → Prop) (w : World) (h : numm_round.V10 f_0 neg_1 m_2 sticky_4 p_11 bi_12 ex_13 keep_14 q_15 rem_16 half_17 R w) : numm_round.L10 f_0 neg_1 m_2 sticky_4 p_11 bi_12 ex_13 keep_14 q_15 rem_16 half_17 R w :=
  seg_T good mixed Try.func133 600 false [.code (sub (bodyOf Try.f133) [1, 1, 1, 1, 1, 1, 1, 1, 1, 1, 1])] [(0, (.int .i64 f_0)), (1, (.bool neg_1)), (2, (.int .u64 m_2)), (4, (.bool sticky_4)), (11, (.int .i64 p_11)), (12, (.int .i64 bi_12)), (13, (.int .i64 ex_13)), (14, (.int .i64 keep_14)), (15, (.int .u64 q_15)), (16, (.int .u64 rem_16)), (17, (.int .u64 half_17))] w (Eq.mp (show numm_round.V10 f_0 neg_1 m_2 sticky_4 p_11 bi_12 ex_13 keep_14 q_15 rem_16 half_17 R w = seg Try.prog 133 121 Try.f133.results.toList numm_round.cuts R 600 false [.code (sub (bodyOf Try.f133) [1, 1, 1, 1, 1, 1, 1, 1, 1, 1, 1])] [(0, (.int .i64 f_0)), (1, (.bool neg_1)), (2, (.int .u64 m_2)), (4, (.bool sticky_4)), (11, (.int .i64 p_11)), (12, (.int .i64 bi_12)), (13, (.int .i64 ex_13)), (14, (.int .i64 keep_14)), (15, (.int .u64 q_15)), (16, (.int .u64 rem_16)), (17, (.int .u64 half_17))] w by kernel_rfl) h)
def numm_round.V11 (f_0 : Int) (neg_1 : Bool) (m_2 : Int) (sticky_4 : Bool) (p_11 : Int) (bi_12 : Int) (ex_13 : Int) (c_18 : Int) (R : Value → World → Prop) (w : World) : Prop :=
  (0 ≤ c_18 ∧ (numm_round.L13 f_0 neg_1 m_2 sticky_4 p_11 bi_12 ex_13 (Int.fdiv m_2 (2 ^ (min (Int.toNat c_18) (IntKind.bits .u64)))) c_18 R w))
theorem numm_round.step11 (f_0 : Int) (neg_1 : Bool) (m_2 : Int) (sticky_4 : Bool) (p_11 : Int) (bi_12 : Int) (ex_13 : Int) (c_18 : Int) (R : Value → World → Prop) (w : World) (h : numm_round.V11 f_0 neg_1 m_2 sticky_4 p_11 bi_12 ex_13 c_18 R w) : numm_round.L11 f_0 neg_1 m_2 sticky_4 p_11 bi_12 ex_13 c_18 R w :=
  seg_T good mixed Try.func133 600 false [.code (sub (bodyOf Try.f133) [1, 1, 1, 1, 1, 1, 1, 1, 1, 1, 1, 0, 1, 0, 1]), .code (sub (bodyOf Try.f133) [1, 1, 1, 1, 1, 1, 1, 1, 1, 1, 1, 1])] [(0, (.int .i64 f_0)), (1, (.bool neg_1)), (2, (.int .u64 m_2)), (4, (.bool sticky_4)), (11, (.int .i64 p_11)), (12, (.int .i64 bi_12)), (13, (.int .i64 ex_13)), (18, (.int .u64 c_18))] w (Eq.mp (show numm_round.V11 f_0 neg_1 m_2 sticky_4 p_11 bi_12 ex_13 c_18 R w = seg Try.prog 133 121 Try.f133.results.toList numm_round.cuts R 600 false [.code (sub (bodyOf Try.f133) [1, 1, 1, 1, 1, 1, 1, 1, 1, 1, 1, 0, 1, 0, 1]), .code (sub (bodyOf Try.f133) [1, 1, 1, 1, 1, 1, 1, 1, 1, 1, 1, 1])] [(0, (.int .i64 f_0)), (1, (.bool neg_1)), (2, (.int .u64 m_2)), (4, (.bool sticky_4)), (11, (.int .i64 p_11)), (12, (.int .i64 bi_12)), (13, (.int .i64 ex_13)), (18, (.int .u64 c_18))] w by kernel_rfl) h)
def numm_round.V12 (f_0 : Int) (neg_1 : Bool) (sticky_4 : Bool) (p_11 : Int) (bi_12 : Int) (ex_13 : Int) (q_15 : Int) (rem_16 : Int) (half_17 : Int) (R : Value → World → Prop) (w : World) : Prop :=
  (cond (decide (rem_16 > half_17))
  (numm_round.L14 f_0 neg_1 p_11 bi_12 ex_13 q_15 true R w)
  (cond (rem_16 == half_17)
  (cond sticky_4
  (numm_round.L14 f_0 neg_1 p_11 bi_12 ex_13 q_15 true R w)
  (numm_round.L14 f_0 neg_1 p_11 bi_12 ex_13 q_15 ((Int.tmod q_15 2) == (1 : Int)) R w))
  (numm_round.L14 f_0 neg_1 p_11 bi_12 ex_13 q_15 false R w)))
theorem numm_round.step12 (f_0 : Int) (neg_1 : Bool) (sticky_4 : Bool) (p_11 : Int) (bi_12 : Int) (ex_13 : Int) (q_15 : Int) (rem_16 : Int) (half_17 : Int) (R : Value → World → Prop) (w : World) (h : numm_round.V12 f_0 neg_1 sticky_4 p_11 bi_12 ex_13 q_15 rem_16 half_17 R w) : numm_round.L12 f_0 neg_1 sticky_4 p_11 bi_12 ex_13 q_15 rem_16 half_17 R w :=
  seg_T good mixed Try.func133 600 false [.code (sub (bodyOf Try.f133) [1, 1, 1, 1, 1, 1, 1, 1, 1, 1, 1, 1])] [(0, (.int .i64 f_0)), (1, (.bool neg_1)), (4, (.bool sticky_4)), (11, (.int .i64 p_11)), (12, (.int .i64 bi_12)), (13, (.int .i64 ex_13)), (15, (.int .u64 q_15)), (16, (.int .u64 rem_16)), (17, (.int .u64 half_17))] w (Eq.mp (show numm_round.V12 f_0 neg_1 sticky_4 p_11 bi_12 ex_13 q_15 rem_16 half_17 R w = seg Try.prog 133 121 Try.f133.results.toList numm_round.cuts R 600 false [.code (sub (bodyOf Try.f133) [1, 1, 1, 1, 1, 1, 1, 1, 1, 1, 1, 1])] [(0, (.int .i64 f_0)), (1, (.bool neg_1)), (4, (.bool sticky_4)), (11, (.int .i64 p_11)), (12, (.int .i64 bi_12)), (13, (.int .i64 ex_13)), (15, (.int .u64 q_15)), (16, (.int .u64 rem_16)), (17, (.int .u64 half_17))] w by kernel_rfl) h)
def numm_round.V13 (f_0 : Int) (neg_1 : Bool) (m_2 : Int) (sticky_4 : Bool) (p_11 : Int) (bi_12 : Int) (ex_13 : Int) (q_15 : Int) (c_18 : Int) (R : Value → World → Prop) (w : World) : Prop :=
  (0 ≤ c_18 ∧ (0 ≤ (IntKind.wrap .u64 (c_18 - (1 : Int))) ∧ (numm_round.L12 f_0 neg_1 sticky_4 p_11 bi_12 ex_13 q_15 (IntKind.wrap .u64 (m_2 - (IntKind.wrap .u64 (q_15 * 2 ^ (min (Int.toNat c_18) (IntKind.bits .u64)))))) (IntKind.wrap .u64 ((1 : Int) * 2 ^ (min (Int.toNat (IntKind.wrap .u64 (c_18 - (1 : Int)))) (IntKind.bits .u64)))) R w)))
theorem numm_round.step13 (f_0 : Int) (neg_1 : Bool) (m_2 : Int) (sticky_4 : Bool) (p_11 : Int) (bi_12 : Int) (ex_13 : Int) (q_15 : Int) (c_18 : Int) (R : Value → World → Prop) (w : World) (h : numm_round.V13 f_0 neg_1 m_2 sticky_4 p_11 bi_12 ex_13 q_15 c_18 R w) : numm_round.L13 f_0 neg_1 m_2 sticky_4 p_11 bi_12 ex_13 q_15 c_18 R w :=
  seg_T good mixed Try.func133 600 false [.code (sub (bodyOf Try.f133) [1, 1, 1, 1, 1, 1, 1, 1, 1, 1, 1, 0, 1, 0, 1, 1]), .code (sub (bodyOf Try.f133) [1, 1, 1, 1, 1, 1, 1, 1, 1, 1, 1, 1])] [(0, (.int .i64 f_0)), (1, (.bool neg_1)), (2, (.int .u64 m_2)), (4, (.bool sticky_4)), (11, (.int .i64 p_11)), (12, (.int .i64 bi_12)), (13, (.int .i64 ex_13)), (15, (.int .u64 q_15)), (18, (.int .u64 c_18))] w (Eq.mp (show numm_round.V13 f_0 neg_1 m_2 sticky_4 p_11 bi_12 ex_13 q_15 c_18 R w = seg Try.prog 133 121 Try.f133.results.toList numm_round.cuts R 600 false [.code (sub (bodyOf Try.f133) [1, 1, 1, 1, 1, 1, 1, 1, 1, 1, 1, 0, 1, 0, 1, 1]), .code (sub (bodyOf Try.f133) [1, 1, 1, 1, 1, 1, 1, 1, 1, 1, 1, 1])] [(0, (.int .i64 f_0)), (1, (.bool neg_1)), (2, (.int .u64 m_2)), (4, (.bool sticky_4)), (11, (.int .i64 p_11)), (12, (.int .i64 bi_12)), (13, (.int .i64 ex_13)), (15, (.int .u64 q_15)), (18, (.int .u64 c_18))] w by kernel_rfl) h)
def numm_round.V14 (f_0 : Int) (neg_1 : Bool) (p_11 : Int) (bi_12 : Int) (ex_13 : Int) (q_15 : Int) (t_79 : Bool) (R : Value → World → Prop) (w : World) : Prop :=
  (cond t_79
  (numm_round.L15 f_0 neg_1 p_11 bi_12 ex_13 (IntKind.wrap .u64 (q_15 + (1 : Int))) R w)
  (numm_round.L15 f_0 neg_1 p_11 bi_12 ex_13 q_15 R w))
theorem numm_round.step14 (f_0 : Int) (neg_1 : Bool) (p_11 : Int) (bi_12 : Int) (ex_13 : Int) (q_15 : Int) (t_79 : Bool) (R : Value → World → Prop) (w : World) (h : numm_round.V14 f_0 neg_1 p_11 bi_12 ex_13 q_15 t_79 R w) : numm_round.L14 f_0 neg_1 p_11 bi_12 ex_13 q_15 t_79 R w :=
  seg_T good mixed Try.func133 600 false [.code (sub (bodyOf Try.f133) [1, 1, 1, 1, 1, 1, 1, 1, 1, 1, 1, 1, 0, 1]), .code (sub (bodyOf Try.f133) [1, 1, 1, 1, 1, 1, 1, 1, 1, 1, 1, 1, 1])] [(0, (.int .i64 f_0)), (1, (.bool neg_1)), (11, (.int .i64 p_11)), (12, (.int .i64 bi_12)), (13, (.int .i64 ex_13)), (15, (.int .u64 q_15)), (79, (.bool t_79))] w (Eq.mp (show numm_round.V14 f_0 neg_1 p_11 bi_12 ex_13 q_15 t_79 R w = seg Try.prog 133 121 Try.f133.results.toList numm_round.cuts R 600 false [.code (sub (bodyOf Try.f133) [1, 1, 1, 1, 1, 1, 1, 1, 1, 1, 1, 1, 0, 1]), .code (sub (bodyOf Try.f133) [1, 1, 1, 1, 1, 1, 1, 1, 1, 1, 1, 1, 1])] [(0, (.int .i64 f_0)), (1, (.bool neg_1)), (11, (.int .i64 p_11)), (12, (.int .i64 bi_12)), (13, (.int .i64 ex_13)), (15, (.int .u64 q_15)), (79, (.bool t_79))] w by kernel_rfl) h)
def numm_round.V15 (f_0 : Int) (neg_1 : Bool) (p_11 : Int) (bi_12 : Int) (ex_13 : Int) (q_15 : Int) (R : Value → World → Prop) (w : World) : Prop :=
  (cond (decide (ex_13 < (IntKind.wrap .i64 ((1 : Int) - bi_12))))
  (Runs Try.prog numm_sign.id #[(.int .i64 f_0), (.bool neg_1)] w fun r1 w2 => (∃ x3 : Int, (r1 = (.int .u64 x3) ∧ (R (.int .u64 (IntKind.wrap .u64 (x3 + q_15))) w2))))
  (0 ≤ (IntKind.wrap .u64 p_11) ∧ (cond (q_15 == (IntKind.wrap .u64 ((1 : Int) * 2 ^ (min (Int.toNat (IntKind.wrap .u64 p_11)) (IntKind.bits .u64)))))
  (numm_round.L16 f_0 neg_1 p_11 bi_12 (IntKind.wrap .i64 (ex_13 + (1 : Int))) (IntKind.wrap .u64 (Int.tdiv q_15 2)) R w)
  (numm_round.L16 f_0 neg_1 p_11 bi_12 ex_13 q_15 R w))))
theorem numm_round.step15 (f_0 : Int) (neg_1 : Bool) (p_11 : Int) (bi_12 : Int) (ex_13 : Int) (q_15 : Int) (R : Value → World → Prop) (w : World) (h : numm_round.V15 f_0 neg_1 p_11 bi_12 ex_13 q_15 R w) : numm_round.L15 f_0 neg_1 p_11 bi_12 ex_13 q_15 R w :=
  seg_T good mixed Try.func133 600 false [.code (sub (bodyOf Try.f133) [1, 1, 1, 1, 1, 1, 1, 1, 1, 1, 1, 1, 1])] [(0, (.int .i64 f_0)), (1, (.bool neg_1)), (11, (.int .i64 p_11)), (12, (.int .i64 bi_12)), (13, (.int .i64 ex_13)), (15, (.int .u64 q_15))] w (Eq.mp (show numm_round.V15 f_0 neg_1 p_11 bi_12 ex_13 q_15 R w = seg Try.prog 133 121 Try.f133.results.toList numm_round.cuts R 600 false [.code (sub (bodyOf Try.f133) [1, 1, 1, 1, 1, 1, 1, 1, 1, 1, 1, 1, 1])] [(0, (.int .i64 f_0)), (1, (.bool neg_1)), (11, (.int .i64 p_11)), (12, (.int .i64 bi_12)), (13, (.int .i64 ex_13)), (15, (.int .u64 q_15))] w by kernel_rfl) h)
def numm_round.V16 (f_0 : Int) (neg_1 : Bool) (p_11 : Int) (bi_12 : Int) (ex_13 : Int) (q_15 : Int) (R : Value → World → Prop) (w : World) : Prop :=
  (cond (decide (ex_13 > bi_12))
  (Runs Try.prog numm_infinity.id #[(.int .i64 f_0), (.bool neg_1)] w fun r1 w2 => (∃ x3 : Int, (r1 = (.int .u64 x3) ∧ (R (.int .u64 x3) w2))))
  (Runs Try.prog numm_sign.id #[(.int .i64 f_0), (.bool neg_1)] w fun r4 w5 => (∃ x6 : Int, (r4 = (.int .u64 x6) ∧ (0 ≤ (IntKind.wrap .u64 (IntKind.wrap .i64 (p_11 - (1 : Int)))) ∧ (R (.int .u64 (IntKind.wrap .u64 ((IntKind.wrap .u64 (x6 + (IntKind.wrap .u64 ((IntKind.wrap .u64 (IntKind.wrap .i64 ((IntKind.wrap .i64 (ex_13 + bi_12)) - (1 : Int)))) * 2 ^ (min (Int.toNat (IntKind.wrap .u64 (IntKind.wrap .i64 (p_11 - (1 : Int))))) (IntKind.bits .u64)))))) + q_15))) w5))))))
theorem numm_round.step16 (f_0 : Int) (neg_1 : Bool) (p_11 : Int) (bi_12 : Int) (ex_13 : Int) (q_15 : Int) (R : Value → World → Prop) (w : World) (h : numm_round.V16 f_0 neg_1 p_11 bi_12 ex_13 q_15 R w) : numm_round.L16 f_0 neg_1 p_11 bi_12 ex_13 q_15 R w :=
  seg_T good mixed Try.func133 600 false [.code (sub (bodyOf Try.f133) [1, 1, 1, 1, 1, 1, 1, 1, 1, 1, 1, 1, 1, 1, 1])] [(0, (.int .i64 f_0)), (1, (.bool neg_1)), (11, (.int .i64 p_11)), (12, (.int .i64 bi_12)), (13, (.int .i64 ex_13)), (15, (.int .u64 q_15))] w (Eq.mp (show numm_round.V16 f_0 neg_1 p_11 bi_12 ex_13 q_15 R w = seg Try.prog 133 121 Try.f133.results.toList numm_round.cuts R 600 false [.code (sub (bodyOf Try.f133) [1, 1, 1, 1, 1, 1, 1, 1, 1, 1, 1, 1, 1, 1, 1])] [(0, (.int .i64 f_0)), (1, (.bool neg_1)), (11, (.int .i64 p_11)), (12, (.int .i64 bi_12)), (13, (.int .i64 ex_13)), (15, (.int .u64 q_15))] w by kernel_rfl) h)
def numm_round.V (f_0 : Int) (neg_1 : Bool) (m_2 : Int) (e_3 : Int) (sticky_4 : Bool) (R : Value → World → Prop) (w : World) : Prop :=
  (numm_round.L1 f_0 neg_1 m_2 e_3 sticky_4 R w)
theorem numm_round.enter (f_0 : Int) (neg_1 : Bool) (m_2 : Int) (e_3 : Int) (sticky_4 : Bool) (R : Value → World → Prop) (w : World) (h : numm_round.V f_0 neg_1 m_2 e_3 sticky_4 R w) : Runs Try.prog numm_round.id #[(.int .i64 f_0), (.bool neg_1), (.int .u64 m_2), (.int .i64 e_3), (.bool sticky_4)] w R :=
  Runs.enter (c := bodyOf Try.f133) (N := 121) Try.func133 (by kernel_rfl) (by kernel_rfl) (by kernel_rfl) (seg_T good mixed Try.func133 600 false [.code (bodyOf Try.f133)] [(0, (.int .i64 f_0)), (1, (.bool neg_1)), (2, (.int .u64 m_2)), (3, (.int .i64 e_3)), (4, (.bool sticky_4))] w (Eq.mp (show numm_round.V f_0 neg_1 m_2 e_3 sticky_4 R w = seg Try.prog 133 121 Try.f133.results.toList numm_round.cuts R 600 false [.code (bodyOf Try.f133)] [(0, (.int .i64 f_0)), (1, (.bool neg_1)), (2, (.int .u64 m_2)), (3, (.int .i64 e_3)), (4, (.bool sticky_4))] w by kernel_rfl) h))

/-! e2e/numm.prec -/
def numm_prec.cuts : List (Nat × List Nat) := []
def numm_prec.V (f_0 : Int) (R : Value → World → Prop) (w : World) : Prop :=
  (cond (f_0 == (32 : Int))
  (R (.int .i64 24) w)
  (R (.int .i64 53) w))
theorem numm_prec.enter (f_0 : Int) (R : Value → World → Prop) (w : World) (h : numm_prec.V f_0 R w) : Runs Try.prog numm_prec.id #[(.int .i64 f_0)] w R :=
  Runs.enter (c := bodyOf Try.f134) (N := 5) Try.func134 (by kernel_rfl) (by kernel_rfl) (by kernel_rfl) (seg_T good mixed Try.func134 600 false [.code (bodyOf Try.f134)] [(0, (.int .i64 f_0))] w (Eq.mp (show numm_prec.V f_0 R w = seg Try.prog 134 5 Try.f134.results.toList numm_prec.cuts R 600 false [.code (bodyOf Try.f134)] [(0, (.int .i64 f_0))] w by kernel_rfl) h))

/-! e2e/numm.bias -/
def numm_bias.cuts : List (Nat × List Nat) := []
def numm_bias.V (f_0 : Int) (R : Value → World → Prop) (w : World) : Prop :=
  (cond (f_0 == (32 : Int))
  (R (.int .i64 127) w)
  (R (.int .i64 1023) w))
theorem numm_bias.enter (f_0 : Int) (R : Value → World → Prop) (w : World) (h : numm_bias.V f_0 R w) : Runs Try.prog numm_bias.id #[(.int .i64 f_0)] w R :=
  Runs.enter (c := bodyOf Try.f135) (N := 5) Try.func135 (by kernel_rfl) (by kernel_rfl) (by kernel_rfl) (seg_T good mixed Try.func135 600 false [.code (bodyOf Try.f135)] [(0, (.int .i64 f_0))] w (Eq.mp (show numm_bias.V f_0 R w = seg Try.prog 135 5 Try.f135.results.toList numm_bias.cuts R 600 false [.code (bodyOf Try.f135)] [(0, (.int .i64 f_0))] w by kernel_rfl) h))

/-! e2e/numm.sign -/
def numm_sign.cuts : List (Nat × List Nat) := []
def numm_sign.V (f_0 : Int) (neg_1 : Bool) (R : Value → World → Prop) (w : World) : Prop :=
  (cond neg_1
  (Runs Try.prog numm_top.id #[(.int .i64 f_0)] w fun r3 w4 => (∃ x5 : Int, (r3 = (.int .u64 x5) ∧ (R (.int .u64 x5) w4))))
  (R (.int .u64 0) w))
theorem numm_sign.enter (f_0 : Int) (neg_1 : Bool) (R : Value → World → Prop) (w : World) (h : numm_sign.V f_0 neg_1 R w) : Runs Try.prog numm_sign.id #[(.int .i64 f_0), (.bool neg_1)] w R :=
  Runs.enter (c := bodyOf Try.f136) (N := 8) Try.func136 (by kernel_rfl) (by kernel_rfl) (by kernel_rfl) (seg_T good mixed Try.func136 600 false [.code (bodyOf Try.f136)] [(0, (.int .i64 f_0)), (1, (.bool neg_1))] w (Eq.mp (show numm_sign.V f_0 neg_1 R w = seg Try.prog 136 8 Try.f136.results.toList numm_sign.cuts R 600 false [.code (bodyOf Try.f136)] [(0, (.int .i64 f_0)), (1, (.bool neg_1))] w by kernel_rfl) h))

/-! e2e/numm.infinity -/
def numm_infinity.cuts : List (Nat × List Nat) := []
def numm_infinity.V (f_0 : Int) (neg_1 : Bool) (R : Value → World → Prop) (w : World) : Prop :=
  (Runs Try.prog numm_sign.id #[(.int .i64 f_0), (.bool neg_1)] w fun r3 w4 => (∃ x5 : Int, (r3 = (.int .u64 x5) ∧ (Runs Try.prog numm_infOf.id #[(.int .i64 f_0)] w4 fun r6 w7 => (∃ x8 : Int, (r6 = (.int .u64 x8) ∧ (R (.int .u64 (IntKind.wrap .u64 (x5 + x8))) w7)))))))
theorem numm_infinity.enter (f_0 : Int) (neg_1 : Bool) (R : Value → World → Prop) (w : World) (h : numm_infinity.V f_0 neg_1 R w) : Runs Try.prog numm_infinity.id #[(.int .i64 f_0), (.bool neg_1)] w R :=
  Runs.enter (c := bodyOf Try.f137) (N := 15) Try.func137 (by kernel_rfl) (by kernel_rfl) (by kernel_rfl) (seg_T good mixed Try.func137 600 false [.code (bodyOf Try.f137)] [(0, (.int .i64 f_0)), (1, (.bool neg_1))] w (Eq.mp (show numm_infinity.V f_0 neg_1 R w = seg Try.prog 137 15 Try.f137.results.toList numm_infinity.cuts R 600 false [.code (bodyOf Try.f137)] [(0, (.int .i64 f_0)), (1, (.bool neg_1))] w by kernel_rfl) h))

/-! e2e/numm.mul64 -/
def numm_mul64.cuts : List (Nat × List Nat) := [(2, [0, 1]), (4, [0, 1, 6]), (6, [0, 1, 6, 7]), (8, [0, 1, 6, 7, 8]), (10, [0, 1, 6, 7, 8, 9]), (12, [0, 1, 6, 7, 8, 9, 10]), (14, [0, 1, 6, 7, 9, 11]), (16, [0, 1, 7, 9, 11, 12]), (18, [0, 1, 4]), (20, [4, 5])]
def numm_mul64.L1 (x_0 : Int) (y_1 : Int) (R : Value → World → Prop) (w : World) : Prop :=
  T Try.prog 138 50 [.code (sub (bodyOf Try.f138) [1])] [(0, (.int .u64 x_0)), (1, (.int .u64 y_1))] w R
def numm_mul64.L2 (x_0 : Int) (y_1 : Int) (x0_6 : Int) (R : Value → World → Prop) (w : World) : Prop :=
  T Try.prog 138 50 [.code (sub (bodyOf Try.f138) [1, 1])] [(0, (.int .u64 x_0)), (1, (.int .u64 y_1)), (6, (.int .u64 x0_6))] w R
def numm_mul64.L3 (x_0 : Int) (y_1 : Int) (x0_6 : Int) (x1_7 : Int) (R : Value → World → Prop) (w : World) : Prop :=
  T Try.prog 138 50 [.code (sub (bodyOf Try.f138) [1, 1, 1])] [(0, (.int .u64 x_0)), (1, (.int .u64 y_1)), (6, (.int .u64 x0_6)), (7, (.int .u64 x1_7))] w R
def numm_mul64.L4 (x_0 : Int) (y_1 : Int) (x0_6 : Int) (x1_7 : Int) (y0_8 : Int) (R : Value → World → Prop) (w : World) : Prop :=
  T Try.prog 138 50 [.code (sub (bodyOf Try.f138) [1, 1, 1, 1])] [(0, (.int .u64 x_0)), (1, (.int .u64 y_1)), (6, (.int .u64 x0_6)), (7, (.int .u64 x1_7)), (8, (.int .u64 y0_8))] w R
def numm_mul64.L5 (x_0 : Int) (y_1 : Int) (x0_6 : Int) (x1_7 : Int) (y0_8 : Int) (y1_9 : Int) (R : Value → World → Prop) (w : World) : Prop :=
  T Try.prog 138 50 [.code (sub (bodyOf Try.f138) [1, 1, 1, 1, 1])] [(0, (.int .u64 x_0)), (1, (.int .u64 y_1)), (6, (.int .u64 x0_6)), (7, (.int .u64 x1_7)), (8, (.int .u64 y0_8)), (9, (.int .u64 y1_9))] w R
def numm_mul64.L6 (x_0 : Int) (y_1 : Int) (x0_6 : Int) (x1_7 : Int) (y0_8 : Int) (y1_9 : Int) (w0_10 : Int) (R : Value → World → Prop) (w : World) : Prop :=
  T Try.prog 138 50 [.code (sub (bodyOf Try.f138) [1, 1, 1, 1, 1, 1])] [(0, (.int .u64 x_0)), (1, (.int .u64 y_1)), (6, (.int .u64 x0_6)), (7, (.int .u64 x1_7)), (8, (.int .u64 y0_8)), (9, (.int .u64 y1_9)), (10, (.int .u64 w0_10))] w R
def numm_mul64.L7 (x_0 : Int) (y_1 : Int) (x0_6 : Int) (x1_7 : Int) (y1_9 : Int) (t_11 : Int) (R : Value → World → Prop) (w : World) : Prop :=
  T Try.prog 138 50 [.code (sub (bodyOf Try.f138) [1, 1, 1, 1, 1, 1, 1])] [(0, (.int .u64 x_0)), (1, (.int .u64 y_1)), (6, (.int .u64 x0_6)), (7, (.int .u64 x1_7)), (9, (.int .u64 y1_9)), (11, (.int .u64 t_11))] w R
def numm_mul64.L8 (x_0 : Int) (y_1 : Int) (x1_7 : Int) (y1_9 : Int) (t_11 : Int) (w1_12 : Int) (R : Value → World → Prop) (w : World) : Prop :=
  T Try.prog 138 50 [.code (sub (bodyOf Try.f138) [1, 1, 1, 1, 1, 1, 1, 1])] [(0, (.int .u64 x_0)), (1, (.int .u64 y_1)), (7, (.int .u64 x1_7)), (9, (.int .u64 y1_9)), (11, (.int .u64 t_11)), (12, (.int .u64 w1_12))] w R
def numm_mul64.L9 (x_0 : Int) (y_1 : Int) (hi_4 : Int) (R : Value → World → Prop) (w : World) : Prop :=
  T Try.prog 138 50 [.code (sub (bodyOf Try.f138) [1, 1, 1, 1, 1, 1, 1, 1, 1])] [(0, (.int .u64 x_0)), (1, (.int .u64 y_1)), (4, (.int .u64 hi_4))] w R
def numm_mul64.L10 (hi_4 : Int) (lo_5 : Int) (R : Value → World → Prop) (w : World) : Prop :=
  T Try.prog 138 50 [.code (sub (bodyOf Try.f138) [1, 1, 1, 1, 1, 1, 1, 1, 1, 1])] [(4, (.int .u64 hi_4)), (5, (.int .u64 lo_5))] w R
def numm_mul64.V1 (x_0 : Int) (y_1 : Int) (R : Value → World → Prop) (w : World) : Prop :=
  (numm_mul64.L2 x_0 y_1 (bAnd .u64 x_0 4294967295) R w)
theorem numm_mul64.step1 (x_0 : Int) (y_1 : Int) (R : Value → World → Prop) (w : World) (h : numm_mul64.V1 x_0 y_1 R w) : numm_mul64.L1 x_0 y_1 R w :=
  seg_T good mixed Try.func138 600 false [.code (sub (bodyOf Try.f138) [1])] [(0, (.int .u64 x_0)), (1, (.int .u64 y_1))] w (Eq.mp (show numm_mul64.V1 x_0 y_1 R w = seg Try.prog 138 50 Try.f138.results.toList numm_mul64.cuts R 600 false [.code (sub (bodyOf Try.f138) [1])] [(0, (.int .u64 x_0)), (1, (.int .u64 y_1))] w by kernel_rfl) h)
def numm_mul64.V2 (x_0 : Int) (y_1 : Int) (x0_6 : Int) (R : Value → World → Prop) (w : World) : Prop :=
  (numm_mul64.L3 x_0 y_1 x0_6 (Int.fdiv x_0 (2 ^ (32 : Nat))) R w)
theorem numm_mul64.step2 (x_0 : Int) (y_1 : Int) (x0_6 : Int) (R : Value → World → Prop) (w : World) (h : numm_mul64.V2 x_0 y_1 x0_6 R w) : numm_mul64.L2 x_0 y_1 x0_6 R w :=
  seg_T good mixed Try.func138 600 false [.code (sub (bodyOf Try.f138) [1, 1])] [(0, (.int .u64 x_0)), (1, (.int .u64 y_1)), (6, (.int .u64 x0_6))] w (Eq.mp (show numm_mul64.V2 x_0 y_1 x0_6 R w = seg Try.prog 138 50 Try.f138.results.toList numm_mul64.cuts R 600 false [.code (sub (bodyOf Try.f138) [1, 1])] [(0, (.int .u64 x_0)), (1, (.int .u64 y_1)), (6, (.int .u64 x0_6))] w by kernel_rfl) h)
def numm_mul64.V3 (x_0 : Int) (y_1 : Int) (x0_6 : Int) (x1_7 : Int) (R : Value → World → Prop) (w : World) : Prop :=
  (numm_mul64.L4 x_0 y_1 x0_6 x1_7 (bAnd .u64 y_1 4294967295) R w)
theorem numm_mul64.step3 (x_0 : Int) (y_1 : Int) (x0_6 : Int) (x1_7 : Int) (R : Value → World → Prop) (w : World) (h : numm_mul64.V3 x_0 y_1 x0_6 x1_7 R w) : numm_mul64.L3 x_0 y_1 x0_6 x1_7 R w :=
  seg_T good mixed Try.func138 600 false [.code (sub (bodyOf Try.f138) [1, 1, 1])] [(0, (.int .u64 x_0)), (1, (.int .u64 y_1)), (6, (.int .u64 x0_6)), (7, (.int .u64 x1_7))] w (Eq.mp (show numm_mul64.V3 x_0 y_1 x0_6 x1_7 R w = seg Try.prog 138 50 Try.f138.results.toList numm_mul64.cuts R 600 false [.code (sub (bodyOf Try.f138) [1, 1, 1])] [(0, (.int .u64 x_0)), (1, (.int .u64 y_1)), (6, (.int .u64 x0_6)), (7, (.int .u64 x1_7))] w by kernel_rfl) h)
def numm_mul64.V4 (x_0 : Int) (y_1 : Int) (x0_6 : Int) (x1_7 : Int) (y0_8 : Int) (R : Value → World → Prop) (w : World) : Prop :=
  (numm_mul64.L5 x_0 y_1 x0_6 x1_7 y0_8 (Int.fdiv y_1 (2 ^ (32 : Nat))) R w)
theorem numm_mul64.step4 (x_0 : Int) (y_1 : Int) (x0_6 : Int) (x1_7 : Int) (y0_8 : Int) (R : Value → World → Prop) (w : World) (h : numm_mul64.V4 x_0 y_1 x0_6 x1_7 y0_8 R w) : numm_mul64.L4 x_0 y_1 x0_6 x1_7 y0_8 R w :=
  seg_T good mixed Try.func138 600 false [.code (sub (bodyOf Try.f138) [1, 1, 1, 1])] [(0, (.int .u64 x_0)), (1, (.int .u64 y_1)), (6, (.int .u64 x0_6)), (7, (.int .u64 x1_7)), (8, (.int .u64 y0_8))] w (Eq.mp (show numm_mul64.V4 x_0 y_1 x0_6 x1_7 y0_8 R w = seg Try.prog 138 50 Try.f138.results.toList numm_mul64.cuts R 600 false [.code (sub (bodyOf Try.f138) [1, 1, 1, 1])] [(0, (.int .u64 x_0)), (1, (.int .u64 y_1)), (6, (.int .u64 x0_6)), (7, (.int .u64 x1_7)), (8, (.int .u64 y0_8))] w by kernel_rfl) h)
def numm_mul64.V5 (x_0 : Int) (y_1 : Int) (x0_6 : Int) (x1_7 : Int) (y0_8 : Int) (y1_9 : Int) (R : Value → World → Prop) (w : World) : Prop :=
  (numm_mul64.L6 x_0 y_1 x0_6 x1_7 y0_8 y1_9 (IntKind.wrap .u64 (x0_6 * y0_8)) R w)
theorem numm_mul64.step5 (x_0 : Int) (y_1 : Int) (x0_6 : Int) (x1_7 : Int) (y0_8 : Int) (y1_9 : Int) (R : Value → World → Prop) (w : World) (h : numm_mul64.V5 x_0 y_1 x0_6 x1_7 y0_8 y1_9 R w) : numm_mul64.L5 x_0 y_1 x0_6 x1_7 y0_8 y1_9 R w :=
  seg_T good mixed Try.func138 600 false [.code (sub (bodyOf Try.f138) [1, 1, 1, 1, 1])] [(0, (.int .u64 x_0)), (1, (.int .u64 y_1)), (6, (.int .u64 x0_6)), (7, (.int .u64 x1_7)), (8, (.int .u64 y0_8)), (9, (.int .u64 y1_9))] w (Eq.mp (show numm_mul64.V5 x_0 y_1 x0_6 x1_7 y0_8 y1_9 R w = seg Try.prog 138 50 Try.f138.results.toList numm_mul64.cuts R 600 false [.code (sub (bodyOf Try.f138) [1, 1, 1, 1, 1])] [(0, (.int .u64 x_0)), (1, (.int .u64 y_1)), (6, (.int .u64 x0_6)), (7, (.int .u64 x1_7)), (8, (.int .u64 y0_8)), (9, (.int .u64 y1_9))] w by kernel_rfl) h)
def numm_mul64.V6 (x_0 : Int) (y_1 : Int) (x0_6 : Int) (x1_7 : Int) (y0_8 : Int) (y1_9 : Int) (w0_10 : Int) (R : Value → World → Prop) (w : World) : Prop :=
  (numm_mul64.L7 x_0 y_1 x0_6 x1_7 y1_9 (IntKind.wrap .u64 ((IntKind.wrap .u64 (x1_7 * y0_8)) + (Int.fdiv w0_10 (2 ^ (32 : Nat))))) R w)
theorem numm_mul64.step6 (x_0 : Int) (y_1 : Int) (x0_6 : Int) (x1_7 : Int) (y0_8 : Int) (y1_9 : Int) (w0_10 : Int) (R : Value → World → Prop) (w : World) (h : numm_mul64.V6 x_0 y_1 x0_6 x1_7 y0_8 y1_9 w0_10 R w) : numm_mul64.L6 x_0 y_1 x0_6 x1_7 y0_8 y1_9 w0_10 R w :=
  seg_T good mixed Try.func138 600 false [.code (sub (bodyOf Try.f138) [1, 1, 1, 1, 1, 1])] [(0, (.int .u64 x_0)), (1, (.int .u64 y_1)), (6, (.int .u64 x0_6)), (7, (.int .u64 x1_7)), (8, (.int .u64 y0_8)), (9, (.int .u64 y1_9)), (10, (.int .u64 w0_10))] w (Eq.mp (show numm_mul64.V6 x_0 y_1 x0_6 x1_7 y0_8 y1_9 w0_10 R w = seg Try.prog 138 50 Try.f138.results.toList numm_mul64.cuts R 600 false [.code (sub (bodyOf Try.f138) [1, 1, 1, 1, 1, 1])] [(0, (.int .u64 x_0)), (1, (.int .u64 y_1)), (6, (.int .u64 x0_6)), (7, (.int .u64 x1_7)), (8, (.int .u64 y0_8)), (9, (.int .u64 y1_9)), (10, (.int .u64 w0_10))] w by kernel_rfl) h)
def numm_mul64.V7 (x_0 : Int) (y_1 : Int) (x0_6 : Int) (x1_7 : Int) (y1_9 : Int) (t_11 : Int) (R : Value → World → Prop) (w : World) : Prop :=
  (numm_mul64.L8 x_0 y_1 x1_7 y1_9 t_11 (IntKind.wrap .u64 ((bAnd .u64 t_11 4294967295) + (IntKind.wrap .u64 (x0_6 * y1_9)))) R w)
theorem numm_mul64.step7 (x_0 : Int) (y_1 : Int) (x0_6 : Int) (x1_7 : Int) (y1_9 : Int) (t_11 : Int) (R : Value → World → Prop) (w : World) (h : numm_mul64.V7 x_0 y_1 x0_6 x1_7 y1_9 t_11 R w) : numm_mul64.L7 x_0 y_1 x0_6 x1_7 y1_9 t_11 R w :=
  seg_T good mixed Try.func138 600 false [.code (sub (bodyOf Try.f138) [1, 1, 1, 1, 1, 1, 1])] [(0, (.int .u64 x_0)), (1, (.int .u64 y_1)), (6, (.int .u64 x0_6)), (7, (.int .u64 x1_7)), (9, (.int .u64 y1_9)), (11, (.int .u64 t_11))] w (Eq.mp (show numm_mul64.V7 x_0 y_1 x0_6 x1_7 y1_9 t_11 R w = seg Try.prog 138 50 Try.f138.results.toList numm_mul64.cuts R 600 false [.code (sub (bodyOf Try.f138) [1, 1, 1, 1, 1, 1, 1])] [(0, (.int .u64 x_0)), (1, (.int .u64 y_1)), (6, (.int .u64 x0_6)), (7, (.int .u64 x1_7)), (9, (.int .u64 y1_9)), (11, (.int .u64 t_11))] w by kernel_rfl) h)
def numm_mul64.V8 (x_0 : Int) (y_1 : Int) (x1_7 : Int) (y1_9 : Int) (t_11 : Int) (w1_12 : Int) (R : Value → World → Prop) (w : World) : Prop :=
  (numm_mul64.L9 x_0 y_1 (IntKind.wrap .u64 ((IntKind.wrap .u64 ((IntKind.wrap .u64 (x1_7 * y1_9)) + (Int.fdiv t_11 (2 ^ (32 : Nat))))) + (Int.fdiv w1_12 (2 ^ (32 : Nat))))) R w)
theorem numm_mul64.step8 (x_0 : Int) (y_1 : Int) (x1_7 : Int) (y1_9 : Int) (t_11 : Int) (w1_12 : Int) (R : Value → World → Prop) (w : World) (h : numm_mul64.V8 x_0 y_1 x1_7 y1_9 t_11 w1_12 R w) : numm_mul64.L8 x_0 y_1 x1_7 y1_9 t_11 w1_12 R w :=
  seg_T good mixed Try.func138 600 false [.code (sub (bodyOf Try.f138) [1, 1, 1, 1, 1, 1, 1, 1])] [(0, (.int .u64 x_0)), (1, (.int .u64 y_1)), (7, (.int .u64 x1_7)), (9, (.int .u64 y1_9)), (11, (.int .u64 t_11)), (12, (.int .u64 w1_12))] w (Eq.mp (show numm_mul64.V8 x_0 y_1 x1_7 y1_9 t_11 w1_12 R w = seg Try.prog 138 50 Try.f138.results.toList numm_mul64.cuts R 600 false [.code (sub (bodyOf Try.f138) [1, 1, 1, 1, 1, 1, 1, 1])] [(0, (.int .u64 x_0)), (1, (.int .u64 y_1)), (7, (.int .u64 x1_7)), (9, (.int .u64 y1_9)), (11, (.int .u64 t_11)), (12, (.int .u64 w1_12))] w by kernel_rfl) h)
def numm_mul64.V9 (x_0 : Int) (y_1 : Int) (hi_4 : Int) (R : Value → World → Prop) (w : World) : Prop :=
  (numm_mul64.L10 hi_4 (IntKind.wrap .u64 (x_0 * y_1)) R w)
theorem numm_mul64.step9 (x_0 : Int) (y_1 : Int) (hi_4 : Int) (R : Value → World → Prop) (w : World) (h : numm_mul64.V9 x_0 y_1 hi_4 R w) : numm_mul64.L9 x_0 y_1 hi_4 R w :=
  seg_T good mixed Try.func138 600 false [.code (sub (bodyOf Try.f138) [1, 1, 1, 1, 1, 1, 1, 1, 1])] [(0, (.int .u64 x_0)), (1, (.int .u64 y_1)), (4, (.int .u64 hi_4))] w (Eq.mp (show numm_mul64.V9 x_0 y_1 hi_4 R w = seg Try.prog 138 50 Try.f138.results.toList numm_mul64.cuts R 600 false [.code (sub (bodyOf Try.f138) [1, 1, 1, 1, 1, 1, 1, 1, 1])] [(0, (.int .u64 x_0)), (1, (.int .u64 y_1)), (4, (.int .u64 hi_4))] w by kernel_rfl) h)
def numm_mul64.V10 (hi_4 : Int) (lo_5 : Int) (R : Value → World → Prop) (w : World) : Prop :=
  (R (.tuple #[(.int .u64 hi_4), (.int .u64 lo_5)]) w)
theorem numm_mul64.step10 (hi_4 : Int) (lo_5 : Int) (R : Value → World → Prop) (w : World) (h : numm_mul64.V10 hi_4 lo_5 R w) : numm_mul64.L10 hi_4 lo_5 R w :=
  seg_T good mixed Try.func138 600 false [.code (sub (bodyOf Try.f138) [1, 1, 1, 1, 1, 1, 1, 1, 1, 1])] [(4, (.int .u64 hi_4)), (5, (.int .u64 lo_5))] w (Eq.mp (show numm_mul64.V10 hi_4 lo_5 R w = seg Try.prog 138 50 Try.f138.results.toList numm_mul64.cuts R 600 false [.code (sub (bodyOf Try.f138) [1, 1, 1, 1, 1, 1, 1, 1, 1, 1])] [(4, (.int .u64 hi_4)), (5, (.int .u64 lo_5))] w by kernel_rfl) h)
def numm_mul64.V (x_0 : Int) (y_1 : Int) (R : Value → World → Prop) (w : World) : Prop :=
  (numm_mul64.L1 x_0 y_1 R w)
theorem numm_mul64.enter (x_0 : Int) (y_1 : Int) (R : Value → World → Prop) (w : World) (h : numm_mul64.V x_0 y_1 R w) : Runs Try.prog numm_mul64.id #[(.int .u64 x_0), (.int .u64 y_1)] w R :=
  Runs.enter (c := bodyOf Try.f138) (N := 50) Try.func138 (by kernel_rfl) (by kernel_rfl) (by kernel_rfl) (seg_T good mixed Try.func138 600 false [.code (bodyOf Try.f138)] [(0, (.int .u64 x_0)), (1, (.int .u64 y_1))] w (Eq.mp (show numm_mul64.V x_0 y_1 R w = seg Try.prog 138 50 Try.f138.results.toList numm_mul64.cuts R 600 false [.code (bodyOf Try.f138)] [(0, (.int .u64 x_0)), (1, (.int .u64 y_1))] w by kernel_rfl) h))

/-! e2e/numm.fit -/
def numm_fit.cuts : List (Nat × List Nat) := []
def numm_fit.V (n_0 : Int) (signed_1 : Bool) (neg_2 : Bool) (m_3 : Int) (R : Value → World → Prop) (w : World) : Prop :=
  (cond signed_1
  (cond neg_2
  (Runs Try.prog numm_top.id #[(.int .i64 n_0)] w fun r5 w6 => (∃ x7 : Int, (r5 = (.int .u64 x7) ∧ (cond (decide (m_3 > x7))
  (R (.tuple #[(.int .u64 0), (.int .i64 40)]) w6)
  (Runs Try.prog numm_minus.id #[(.int .i64 n_0), (.int .u64 m_3)] w6 fun r8 w9 => (∃ x10 : Int, (r8 = (.int .u64 x10) ∧ (R (.tuple #[(.int .u64 x10), (.int .i64 0)]) w9))))))))
  (Runs Try.prog numm_top.id #[(.int .i64 n_0)] w fun r11 w12 => (∃ x13 : Int, (r11 = (.int .u64 x13) ∧ (cond (decide (m_3 ≥ x13))
  (R (.tuple #[(.int .u64 0), (.int .i64 40)]) w12)
  (R (.tuple #[(.int .u64 m_3), (.int .i64 0)]) w12))))))
  (cond neg_2
  (cond (m_3 != (0 : Int))
  (R (.tuple #[(.int .u64 0), (.int .i64 40)]) w)
  (R (.tuple #[(.int .u64 0), (.int .i64 0)]) w))
  (Runs Try.prog numm_mask.id #[(.int .i64 n_0)] w fun r14 w15 => (∃ x16 : Int, (r14 = (.int .u64 x16) ∧ (cond (decide (m_3 > x16))
  (R (.tuple #[(.int .u64 0), (.int .i64 40)]) w15)
  (R (.tuple #[(.int .u64 m_3), (.int .i64 0)]) w15)))))))
theorem numm_fit.enter (n_0 : Int) (signed_1 : Bool) (neg_2 : Bool) (m_3 : Int) (R : Value → World → Prop) (w : World) (h : numm_fit.V n_0 signed_1 neg_2 m_3 R w) : Runs Try.prog numm_fit.id #[(.int .i64 n_0), (.bool signed_1), (.bool neg_2), (.int .u64 m_3)] w R :=
  Runs.enter (c := bodyOf Try.f139) (N := 32) Try.func139 (by kernel_rfl) (by kernel_rfl) (by kernel_rfl) (seg_T good mixed Try.func139 600 false [.code (bodyOf Try.f139)] [(0, (.int .i64 n_0)), (1, (.bool signed_1)), (2, (.bool neg_2)), (3, (.int .u64 m_3))] w (Eq.mp (show numm_fit.V n_0 signed_1 neg_2 m_3 R w = seg Try.prog 139 32 Try.f139.results.toList numm_fit.cuts R 600 false [.code (bodyOf Try.f139)] [(0, (.int .i64 n_0)), (1, (.bool signed_1)), (2, (.bool neg_2)), (3, (.int .u64 m_3))] w by kernel_rfl) h))

/-! e2e/numlaw.End: it only computes -/
def numlaw_End.S (R : Value → World → Prop) (w : World) (r : Int × Int × Int × Bool) : Prop := R (.tuple #[(.int .u64 (r).1), (.int .u64 (r).2.1), (.int .i64 (r).2.2.1), (.bool (r).2.2.2)]) w
def numlaw_End.F (op_0 : Int) : Int × Int × Int × Bool :=
  (cond (op_0 == (168 : Int))
  (1325400064, 1325400064, 178, false)
  (cond (op_0 == (169 : Int))
  (1333788672, 1065353215, 179, false)
  (cond (op_0 == (170 : Int))
  (4746794007248502784, 4746794007250599935, 183, true)
  (cond (op_0 == (171 : Int))
  (4751297606875873280, 4607182418800017407, 184, true)
  (cond (op_0 == (174 : Int))
  (1593835520, 1593835520, 180, false)
  (cond (op_0 == (175 : Int))
  (1602224128, 1065353215, 181, false)
  (cond (op_0 == (176 : Int))
  (4890909195324358656, 4890909195324358656, 185, true)
  (cond (op_0 == (177 : Int))
  (4895412794951729152, 4607182418800017407, 186, true)
  (0, 0, 0, false)))))))))
theorem numlaw_End.F_ok (op_0 : Int) (R : Value → World → Prop) (w : World) (h : numlaw_End.S R w (numlaw_End.F op_0)) : numlaw_End.V op_0 R w :=
  (cond_mapT (S := numlaw_End.S R w) h (fun h => h) (fun h => (cond_mapT (S := numlaw_End.S R w) h (fun h => h) (fun h => (cond_mapT (S := numlaw_End.S R w) h (fun h => h) (fun h => (cond_mapT (S := numlaw_End.S R w) h (fun h => h) (fun h => (cond_mapT (S := numlaw_End.S R w) h (fun h => h) (fun h => (cond_mapT (S := numlaw_End.S R w) h (fun h => h) (fun h => (cond_mapT (S := numlaw_End.S R w) h (fun h => h) (fun h => (cond_mapT (S := numlaw_End.S R w) h (fun h => h) (fun h => h))))))))))))))))
theorem numlaw_End.pure (op_0 : Int) (w : World) : Runs Try.prog numlaw_End.id #[(.int .i64 op_0)] w fun v w' => v = (.tuple #[(.int .u64 ((numlaw_End.F op_0)).1), (.int .u64 ((numlaw_End.F op_0)).2.1), (.int .i64 ((numlaw_End.F op_0)).2.2.1), (.bool ((numlaw_End.F op_0)).2.2.2)]) ∧ w' = w :=
  numlaw_End.enter op_0 _ w (numlaw_End.F_ok op_0 _ w ⟨rfl, rfl⟩)

/-! e2e/api.NumSig: it only computes -/
def api_NumSig.S (R : Value → World → Prop) (w : World) (r : Int × Int × Int) : Prop := R (.tuple #[(.int .i64 (r).1), (.int .u8 (r).2.1), (.int .u8 (r).2.2)]) w
def api_NumSig.F21 (t_95 : Int) (t_127 : Bool) : Int × Int × Int :=
  (cond t_127
  (1, 126, 124)
  (cond (t_95 == (187 : Int))
  (1, 125, 124)
  (0, 0, 0)))
theorem api_NumSig.F21_ok (t_95 : Int) (t_127 : Bool) (R : Value → World → Prop) (w : World) (h : api_NumSig.S R w (api_NumSig.F21 t_95 t_127)) : api_NumSig.L21 t_95 t_127 R w :=
  api_NumSig.step21 t_95 t_127 R w (cond_mapT (S := api_NumSig.S R w) h (fun h => h) (fun h => (cond_mapT (S := api_NumSig.S R w) h (fun h => h) (fun h => h))))
def api_NumSig.F20 (t_95 : Int) (t_124 : Bool) : Int × Int × Int :=
  (cond t_124
  (1, 127, 124)
  (cond (t_95 == (185 : Int))
  (api_NumSig.F21 t_95 true)
  (cond (t_95 == (186 : Int))
  (api_NumSig.F21 t_95 true)
  (api_NumSig.F21 t_95 (t_95 == (191 : Int))))))
theorem api_NumSig.F20_ok (t_95 : Int) (t_124 : Bool) (R : Value → World → Prop) (w : World) (h : api_NumSig.S R w (api_NumSig.F20 t_95 t_124)) : api_NumSig.L20 t_95 t_124 R w :=
  api_NumSig.step20 t_95 t_124 R w (cond_mapT (S := api_NumSig.S R w) h (fun h => h) (fun h => (cond_mapT (S := api_NumSig.S R w) h (fun h => (api_NumSig.F21_ok t_95 true R w h)) (fun h => (cond_mapT (S := api_NumSig.S R w) h (fun h => (api_NumSig.F21_ok t_95 true R w h)) (fun h => (api_NumSig.F21_ok t_95 (t_95 == (191 : Int)) R w h)))))))
def api_NumSig.F19 (t_95 : Int) (t_119 : Bool) : Int × Int × Int :=
  (cond t_119
  (1, 126, 125)
  (cond (t_95 == (182 : Int))
  (1, 124, 125)
  (cond (t_95 == (183 : Int))
  (api_NumSig.F20 t_95 true)
  (api_NumSig.F20 t_95 (t_95 == (184 : Int))))))
theorem api_NumSig.F19_ok (t_95 : Int) (t_119 : Bool) (R : Value → World → Prop) (w : World) (h : api_NumSig.S R w (api_NumSig.F19 t_95 t_119)) : api_NumSig.L19 t_95 t_119 R w :=
  api_NumSig.step19 t_95 t_119 R w (cond_mapT (S := api_NumSig.S R w) h (fun h => h) (fun h => (cond_mapT (S := api_NumSig.S R w) h (fun h => h) (fun h => (cond_mapT (S := api_NumSig.S R w) h (fun h => (api_NumSig.F20_ok t_95 true R w h)) (fun h => (api_NumSig.F20_ok t_95 (t_95 == (184 : Int)) R w h)))))))
def api_NumSig.F18 (t_95 : Int) (t_115 : Bool) : Int × Int × Int :=
  (cond t_115
  (1, 127, 125)
  (cond (t_95 == (180 : Int))
  (api_NumSig.F19 t_95 true)
  (api_NumSig.F19 t_95 (t_95 == (181 : Int)))))
theorem api_NumSig.F18_ok (t_95 : Int) (t_115 : Bool) (R : Value → World → Prop) (w : World) (h : api_NumSig.S R w (api_NumSig.F18 t_95 t_115)) : api_NumSig.L18 t_95 t_115 R w :=
  api_NumSig.step18 t_95 t_115 R w (cond_mapT (S := api_NumSig.S R w) h (fun h => h) (fun h => (cond_mapT (S := api_NumSig.S R w) h (fun h => (api_NumSig.F19_ok t_95 true R w h)) (fun h => (api_NumSig.F19_ok t_95 (t_95 == (181 : Int)) R w h)))))
def api_NumSig.F17 (t_95 : Int) (t_111 : Bool) : Int × Int × Int :=
  (cond t_111
  (1, 124, 126)
  (cond (t_95 == (178 : Int))
  (api_NumSig.F18 t_95 true)
  (cond (t_95 == (179 : Int))
  (api_NumSig.F18 t_95 true)
  (api_NumSig.F18 t_95 (t_95 == (190 : Int))))))
theorem api_NumSig.F17_ok (t_95 : Int) (t_111 : Bool) (R : Value → World → Prop) (w : World) (h : api_NumSig.S R w (api_NumSig.F17 t_95 t_111)) : api_NumSig.L17 t_95 t_111 R w :=
  api_NumSig.step17 t_95 t_111 R w (cond_mapT (S := api_NumSig.S R w) h (fun h => h) (fun h => (cond_mapT (S := api_NumSig.S R w) h (fun h => (api_NumSig.F18_ok t_95 true R w h)) (fun h => (cond_mapT (S := api_NumSig.S R w) h (fun h => (api_NumSig.F18_ok t_95 true R w h)) (fun h => (api_NumSig.F18_ok t_95 (t_95 == (190 : Int)) R w h)))))))
def api_NumSig.F16 (t_95 : Int) (t_108 : Bool) : Int × Int × Int :=
  (cond t_108
  (1, 125, 126)
  (cond (t_95 == (176 : Int))
  (api_NumSig.F17 t_95 true)
  (cond (t_95 == (177 : Int))
  (api_NumSig.F17 t_95 true)
  (api_NumSig.F17 t_95 (t_95 == (189 : Int))))))
theorem api_NumSig.F16_ok (t_95 : Int) (t_108 : Bool) (R : Value → World → Prop) (w : World) (h : api_NumSig.S R w (api_NumSig.F16 t_95 t_108)) : api_NumSig.L16 t_95 t_108 R w :=
  api_NumSig.step16 t_95 t_108 R w (cond_mapT (S := api_NumSig.S R w) h (fun h => h) (fun h => (cond_mapT (S := api_NumSig.S R w) h (fun h => (api_NumSig.F17_ok t_95 true R w h)) (fun h => (cond_mapT (S := api_NumSig.S R w) h (fun h => (api_NumSig.F17_ok t_95 true R w h)) (fun h => (api_NumSig.F17_ok t_95 (t_95 == (189 : Int)) R w h)))))))
def api_NumSig.F15 (t_95 : Int) (t_105 : Bool) : Int × Int × Int :=
  (cond t_105
  (1, 127, 126)
  (cond (t_95 == (174 : Int))
  (api_NumSig.F16 t_95 true)
  (api_NumSig.F16 t_95 (t_95 == (175 : Int)))))
theorem api_NumSig.F15_ok (t_95 : Int) (t_105 : Bool) (R : Value → World → Prop) (w : World) (h : api_NumSig.S R w (api_NumSig.F15 t_95 t_105)) : api_NumSig.L15 t_95 t_105 R w :=
  api_NumSig.step15 t_95 t_105 R w (cond_mapT (S := api_NumSig.S R w) h (fun h => h) (fun h => (cond_mapT (S := api_NumSig.S R w) h (fun h => (api_NumSig.F16_ok t_95 true R w h)) (fun h => (api_NumSig.F16_ok t_95 (t_95 == (175 : Int)) R w h)))))
def api_NumSig.F14 (t_95 : Int) (t_102 : Bool) : Int × Int × Int :=
  (cond t_102
  (1, 124, 127)
  (cond (t_95 == (172 : Int))
  (api_NumSig.F15 t_95 true)
  (api_NumSig.F15 t_95 (t_95 == (173 : Int)))))
theorem api_NumSig.F14_ok (t_95 : Int) (t_102 : Bool) (R : Value → World → Prop) (w : World) (h : api_NumSig.S R w (api_NumSig.F14 t_95 t_102)) : api_NumSig.L14 t_95 t_102 R w :=
  api_NumSig.step14 t_95 t_102 R w (cond_mapT (S := api_NumSig.S R w) h (fun h => h) (fun h => (cond_mapT (S := api_NumSig.S R w) h (fun h => (api_NumSig.F15_ok t_95 true R w h)) (fun h => (api_NumSig.F15_ok t_95 (t_95 == (173 : Int)) R w h)))))
def api_NumSig.F13 (t_95 : Int) (t_98 : Bool) : Int × Int × Int :=
  (cond t_98
  (1, 125, 127)
  (cond (t_95 == (170 : Int))
  (api_NumSig.F14 t_95 true)
  (api_NumSig.F14 t_95 (t_95 == (171 : Int)))))
theorem api_NumSig.F13_ok (t_95 : Int) (t_98 : Bool) (R : Value → World → Prop) (w : World) (h : api_NumSig.S R w (api_NumSig.F13 t_95 t_98)) : api_NumSig.L13 t_95 t_98 R w :=
  api_NumSig.step13 t_95 t_98 R w (cond_mapT (S := api_NumSig.S R w) h (fun h => h) (fun h => (cond_mapT (S := api_NumSig.S R w) h (fun h => (api_NumSig.F14_ok t_95 true R w h)) (fun h => (api_NumSig.F14_ok t_95 (t_95 == (171 : Int)) R w h)))))
def api_NumSig.F12 (op_0 : Int) (t_88 : Bool) : Int × Int × Int :=
  (cond t_88
  (2, 124, 124)
  (cond (op_0 == (167 : Int))
  (1, 126, 127)
  (cond (op_0 == (168 : Int))
  (api_NumSig.F13 op_0 true)
  (cond (op_0 == (169 : Int))
  (api_NumSig.F13 op_0 true)
  (api_NumSig.F13 op_0 (op_0 == (188 : Int)))))))
theorem api_NumSig.F12_ok (op_0 : Int) (t_88 : Bool) (R : Value → World → Prop) (w : World) (h : api_NumSig.S R w (api_NumSig.F12 op_0 t_88)) : api_NumSig.L12 op_0 t_88 R w :=
  api_NumSig.step12 op_0 t_88 R w (cond_mapT (S := api_NumSig.S R w) h (fun h => h) (fun h => (cond_mapT (S := api_NumSig.S R w) h (fun h => h) (fun h => (cond_mapT (S := api_NumSig.S R w) h (fun h => (api_NumSig.F13_ok op_0 true R w h)) (fun h => (cond_mapT (S := api_NumSig.S R w) h (fun h => (api_NumSig.F13_ok op_0 true R w h)) (fun h => (api_NumSig.F13_ok op_0 (op_0 == (188 : Int)) R w h)))))))))
def api_NumSig.F11 (op_0 : Int) (t_81 : Bool) : Int × Int × Int :=
  (cond t_81
  (1, 124, 124)
  (cond (decide (op_0 ≥ (160 : Int)))
  (api_NumSig.F12 op_0 (decide (op_0 ≤ (166 : Int))))
  (api_NumSig.F12 op_0 false)))
theorem api_NumSig.F11_ok (op_0 : Int) (t_81 : Bool) (R : Value → World → Prop) (w : World) (h : api_NumSig.S R w (api_NumSig.F11 op_0 t_81)) : api_NumSig.L11 op_0 t_81 R w :=
  api_NumSig.step11 op_0 t_81 R w (cond_mapT (S := api_NumSig.S R w) h (fun h => h) (fun h => (cond_mapT (S := api_NumSig.S R w) h (fun h => (api_NumSig.F12_ok op_0 (decide (op_0 ≤ (166 : Int))) R w h)) (fun h => (api_NumSig.F12_ok op_0 false R w h)))))
def api_NumSig.F10 (op_0 : Int) (t_74 : Bool) : Int × Int × Int :=
  (cond t_74
  (2, 125, 125)
  (cond (decide (op_0 ≥ (153 : Int)))
  (api_NumSig.F11 op_0 (decide (op_0 ≤ (159 : Int))))
  (api_NumSig.F11 op_0 false)))
theorem api_NumSig.F10_ok (op_0 : Int) (t_74 : Bool) (R : Value → World → Prop) (w : World) (h : api_NumSig.S R w (api_NumSig.F10 op_0 t_74)) : api_NumSig.L10 op_0 t_74 R w :=
  api_NumSig.step10 op_0 t_74 R w (cond_mapT (S := api_NumSig.S R w) h (fun h => h) (fun h => (cond_mapT (S := api_NumSig.S R w) h (fun h => (api_NumSig.F11_ok op_0 (decide (op_0 ≤ (159 : Int))) R w h)) (fun h => (api_NumSig.F11_ok op_0 false R w h)))))
def api_NumSig.F9 (op_0 : Int) (t_67 : Bool) : Int × Int × Int :=
  (cond t_67
  (1, 125, 125)
  (cond (decide (op_0 ≥ (146 : Int)))
  (api_NumSig.F10 op_0 (decide (op_0 ≤ (152 : Int))))
  (api_NumSig.F10 op_0 false)))
theorem api_NumSig.F9_ok (op_0 : Int) (t_67 : Bool) (R : Value → World → Prop) (w : World) (h : api_NumSig.S R w (api_NumSig.F9 op_0 t_67)) : api_NumSig.L9 op_0 t_67 R w :=
  api_NumSig.step9 op_0 t_67 R w (cond_mapT (S := api_NumSig.S R w) h (fun h => h) (fun h => (cond_mapT (S := api_NumSig.S R w) h (fun h => (api_NumSig.F10_ok op_0 (decide (op_0 ≤ (152 : Int))) R w h)) (fun h => (api_NumSig.F10_ok op_0 false R w h)))))
def api_NumSig.F8 (op_0 : Int) (t_60 : Bool) : Int × Int × Int :=
  (cond t_60
  (2, 126, 126)
  (cond (decide (op_0 ≥ (139 : Int)))
  (api_NumSig.F9 op_0 (decide (op_0 ≤ (145 : Int))))
  (api_NumSig.F9 op_0 false)))
theorem api_NumSig.F8_ok (op_0 : Int) (t_60 : Bool) (R : Value → World → Prop) (w : World) (h : api_NumSig.S R w (api_NumSig.F8 op_0 t_60)) : api_NumSig.L8 op_0 t_60 R w :=
  api_NumSig.step8 op_0 t_60 R w (cond_mapT (S := api_NumSig.S R w) h (fun h => h) (fun h => (cond_mapT (S := api_NumSig.S R w) h (fun h => (api_NumSig.F9_ok op_0 (decide (op_0 ≤ (145 : Int))) R w h)) (fun h => (api_NumSig.F9_ok op_0 false R w h)))))
def api_NumSig.F7 (op_0 : Int) (t_53 : Bool) : Int × Int × Int :=
  (cond t_53
  (1, 126, 126)
  (cond (decide (op_0 ≥ (124 : Int)))
  (api_NumSig.F8 op_0 (decide (op_0 ≤ (138 : Int))))
  (api_NumSig.F8 op_0 false)))
theorem api_NumSig.F7_ok (op_0 : Int) (t_53 : Bool) (R : Value → World → Prop) (w : World) (h : api_NumSig.S R w (api_NumSig.F7 op_0 t_53)) : api_NumSig.L7 op_0 t_53 R w :=
  api_NumSig.step7 op_0 t_53 R w (cond_mapT (S := api_NumSig.S R w) h (fun h => h) (fun h => (cond_mapT (S := api_NumSig.S R w) h (fun h => (api_NumSig.F8_ok op_0 (decide (op_0 ≤ (138 : Int))) R w h)) (fun h => (api_NumSig.F8_ok op_0 false R w h)))))
def api_NumSig.F6 (op_0 : Int) (t_46 : Bool) : Int × Int × Int :=
  (cond t_46
  (2, 127, 127)
  (cond (decide (op_0 ≥ (121 : Int)))
  (api_NumSig.F7 op_0 (decide (op_0 ≤ (123 : Int))))
  (api_NumSig.F7 op_0 false)))
theorem api_NumSig.F6_ok (op_0 : Int) (t_46 : Bool) (R : Value → World → Prop) (w : World) (h : api_NumSig.S R w (api_NumSig.F6 op_0 t_46)) : api_NumSig.L6 op_0 t_46 R w :=
  api_NumSig.step6 op_0 t_46 R w (cond_mapT (S := api_NumSig.S R w) h (fun h => h) (fun h => (cond_mapT (S := api_NumSig.S R w) h (fun h => (api_NumSig.F7_ok op_0 (decide (op_0 ≤ (123 : Int))) R w h)) (fun h => (api_NumSig.F7_ok op_0 false R w h)))))
def api_NumSig.F5 (op_0 : Int) (t_39 : Bool) : Int × Int × Int :=
  (cond t_39
  (1, 127, 127)
  (cond (decide (op_0 ≥ (106 : Int)))
  (api_NumSig.F6 op_0 (decide (op_0 ≤ (120 : Int))))
  (api_NumSig.F6 op_0 false)))
theorem api_NumSig.F5_ok (op_0 : Int) (t_39 : Bool) (R : Value → World → Prop) (w : World) (h : api_NumSig.S R w (api_NumSig.F5 op_0 t_39)) : api_NumSig.L5 op_0 t_39 R w :=
  api_NumSig.step5 op_0 t_39 R w (cond_mapT (S := api_NumSig.S R w) h (fun h => h) (fun h => (cond_mapT (S := api_NumSig.S R w) h (fun h => (api_NumSig.F6_ok op_0 (decide (op_0 ≤ (120 : Int))) R w h)) (fun h => (api_NumSig.F6_ok op_0 false R w h)))))
def api_NumSig.F4 (op_0 : Int) (t_32 : Bool) : Int × Int × Int :=
  (cond t_32
  (2, 124, 127)
  (cond (decide (op_0 ≥ (103 : Int)))
  (api_NumSig.F5 op_0 (decide (op_0 ≤ (105 : Int))))
  (api_NumSig.F5 op_0 false)))
theorem api_NumSig.F4_ok (op_0 : Int) (t_32 : Bool) (R : Value → World → Prop) (w : World) (h : api_NumSig.S R w (api_NumSig.F4 op_0 t_32)) : api_NumSig.L4 op_0 t_32 R w :=
  api_NumSig.step4 op_0 t_32 R w (cond_mapT (S := api_NumSig.S R w) h (fun h => h) (fun h => (cond_mapT (S := api_NumSig.S R w) h (fun h => (api_NumSig.F5_ok op_0 (decide (op_0 ≤ (105 : Int))) R w h)) (fun h => (api_NumSig.F5_ok op_0 false R w h)))))
def api_NumSig.F3 (op_0 : Int) (t_25 : Bool) : Int × Int × Int :=
  (cond t_25
  (2, 125, 127)
  (cond (decide (op_0 ≥ (97 : Int)))
  (api_NumSig.F4 op_0 (decide (op_0 ≤ (102 : Int))))
  (api_NumSig.F4 op_0 false)))
theorem api_NumSig.F3_ok (op_0 : Int) (t_25 : Bool) (R : Value → World → Prop) (w : World) (h : api_NumSig.S R w (api_NumSig.F3 op_0 t_25)) : api_NumSig.L3 op_0 t_25 R w :=
  api_NumSig.step3 op_0 t_25 R w (cond_mapT (S := api_NumSig.S R w) h (fun h => h) (fun h => (cond_mapT (S := api_NumSig.S R w) h (fun h => (api_NumSig.F4_ok op_0 (decide (op_0 ≤ (102 : Int))) R w h)) (fun h => (api_NumSig.F4_ok op_0 false R w h)))))
def api_NumSig.F2 (op_0 : Int) (t_18 : Bool) : Int × Int × Int :=
  (cond t_18
  (2, 126, 127)
  (cond (decide (op_0 ≥ (91 : Int)))
  (api_NumSig.F3 op_0 (decide (op_0 ≤ (96 : Int))))
  (api_NumSig.F3 op_0 false)))
theorem api_NumSig.F2_ok (op_0 : Int) (t_18 : Bool) (R : Value → World → Prop) (w : World) (h : api_NumSig.S R w (api_NumSig.F2 op_0 t_18)) : api_NumSig.L2 op_0 t_18 R w :=
  api_NumSig.step2 op_0 t_18 R w (cond_mapT (S := api_NumSig.S R w) h (fun h => h) (fun h => (cond_mapT (S := api_NumSig.S R w) h (fun h => (api_NumSig.F3_ok op_0 (decide (op_0 ≤ (96 : Int))) R w h)) (fun h => (api_NumSig.F3_ok op_0 false R w h)))))
def api_NumSig.F1 (op_0 : Int) (t_8 : Bool) : Int × Int × Int :=
  (cond t_8
  (2, 127, 127)
  (cond (op_0 == (80 : Int))
  (1, 126, 127)
  (cond (decide (op_0 ≥ (81 : Int)))
  (api_NumSig.F2 op_0 (decide (op_0 ≤ (90 : Int))))
  (api_NumSig.F2 op_0 false))))
theorem api_NumSig.F1_ok (op_0 : Int) (t_8 : Bool) (R : Value → World → Prop) (w : World) (h : api_NumSig.S R w (api_NumSig.F1 op_0 t_8)) : api_NumSig.L1 op_0 t_8 R w :=
  api_NumSig.step1 op_0 t_8 R w (cond_mapT (S := api_NumSig.S R w) h (fun h => h) (fun h => (cond_mapT (S := api_NumSig.S R w) h (fun h => h) (fun h => (cond_mapT (S := api_NumSig.S R w) h (fun h => (api_NumSig.F2_ok op_0 (decide (op_0 ≤ (90 : Int))) R w h)) (fun h => (api_NumSig.F2_ok op_0 false R w h)))))))
def api_NumSig.F (op_0 : Int) : Int × Int × Int :=
  (cond (op_0 == (69 : Int))
  (1, 127, 127)
  (cond (decide (op_0 ≥ (70 : Int)))
  (api_NumSig.F1 op_0 (decide (op_0 ≤ (79 : Int))))
  (api_NumSig.F1 op_0 false)))
theorem api_NumSig.F_ok (op_0 : Int) (R : Value → World → Prop) (w : World) (h : api_NumSig.S R w (api_NumSig.F op_0)) : api_NumSig.V op_0 R w :=
  (cond_mapT (S := api_NumSig.S R w) h (fun h => h) (fun h => (cond_mapT (S := api_NumSig.S R w) h (fun h => (api_NumSig.F1_ok op_0 (decide (op_0 ≤ (79 : Int))) R w h)) (fun h => (api_NumSig.F1_ok op_0 false R w h)))))
theorem api_NumSig.pure (op_0 : Int) (w : World) : Runs Try.prog api_NumSig.id #[(.int .i64 op_0)] w fun v w' => v = (.tuple #[(.int .i64 ((api_NumSig.F op_0)).1), (.int .u8 ((api_NumSig.F op_0)).2.1), (.int .u8 ((api_NumSig.F op_0)).2.2)]) ∧ w' = w :=
  api_NumSig.enter op_0 _ w (api_NumSig.F_ok op_0 _ w ⟨rfl, rfl⟩)

/-! e2e/num.rel32: it only computes -/
def num_rel32.S (R : Value → World → Prop) (w : World) (r : Bool) : Prop := R (.bool r) w
def num_rel32.F (op_0 : Int) (x_1 : Int) (y_2 : Int) : Bool :=
  (cond (op_0 == (69 : Int))
  ((x_1 == (0 : Int)))
  (cond (op_0 == (70 : Int))
  ((x_1 == y_2))
  (cond (op_0 == (71 : Int))
  ((x_1 != y_2))
  (cond (op_0 == (72 : Int))
  ((decide ((IntKind.wrap .i32 x_1) < (IntKind.wrap .i32 y_2))))
  (cond (op_0 == (73 : Int))
  ((decide (x_1 < y_2)))
  (cond (op_0 == (74 : Int))
  ((decide ((IntKind.wrap .i32 x_1) > (IntKind.wrap .i32 y_2))))
  (cond (op_0 == (75 : Int))
  ((decide (x_1 > y_2)))
  (cond (op_0 == (76 : Int))
  ((decide ((IntKind.wrap .i32 x_1) ≤ (IntKind.wrap .i32 y_2))))
  (cond (op_0 == (77 : Int))
  ((decide (x_1 ≤ y_2)))
  (cond (op_0 == (78 : Int))
  ((decide ((IntKind.wrap .i32 x_1) ≥ (IntKind.wrap .i32 y_2))))
  ((decide (x_1 ≥ y_2)))))))))))))
theorem num_rel32.F_ok (op_0 : Int) (x_1 : Int) (y_2 : Int) (R : Value → World → Prop) (w : World) (h : num_rel32.S R w (num_rel32.F op_0 x_1 y_2)) : num_rel32.V op_0 x_1 y_2 R w :=
  (cond_mapT (S := num_rel32.S R w) h (fun h => h) (fun h => (cond_mapT (S := num_rel32.S R w) h (fun h => h) (fun h => (cond_mapT (S := num_rel32.S R w) h (fun h => h) (fun h => (cond_mapT (S := num_rel32.S R w) h (fun h => h) (fun h => (cond_mapT (S := num_rel32.S R w) h (fun h => h) (fun h => (cond_mapT (S := num_rel32.S R w) h (fun h => h) (fun h => (cond_mapT (S := num_rel32.S R w) h (fun h => h) (fun h => (cond_mapT (S := num_rel32.S R w) h (fun h => h) (fun h => (cond_mapT (S := num_rel32.S R w) h (fun h => h) (fun h => (cond_mapT (S := num_rel32.S R w) h (fun h => h) (fun h => h))))))))))))))))))))
theorem num_rel32.pure (op_0 : Int) (x_1 : Int) (y_2 : Int) (w : World) : Runs Try.prog num_rel32.id #[(.int .i64 op_0), (.int .u32 x_1), (.int .u32 y_2)] w fun v w' => v = (.bool (num_rel32.F op_0 x_1 y_2)) ∧ w' = w :=
  num_rel32.enter op_0 x_1 y_2 _ w (num_rel32.F_ok op_0 x_1 y_2 _ w ⟨rfl, rfl⟩)

/-! e2e/num.flag: it only computes -/
def num_flag.S (R : Value → World → Prop) (w : World) (r : Int) : Prop := R (.int .u64 r) w
def num_flag.F (c_0 : Bool) : Int :=
  (cond c_0
  (1)
  (0))
theorem num_flag.F_ok (c_0 : Bool) (R : Value → World → Prop) (w : World) (h : num_flag.S R w (num_flag.F c_0)) : num_flag.V c_0 R w :=
  (cond_mapT (S := num_flag.S R w) h (fun h => h) (fun h => h))
theorem num_flag.pure (c_0 : Bool) (w : World) : Runs Try.prog num_flag.id #[(.bool c_0)] w fun v w' => v = (.int .u64 (num_flag.F c_0)) ∧ w' = w :=
  num_flag.enter c_0 _ w (num_flag.F_ok c_0 _ w ⟨rfl, rfl⟩)

/-! e2e/num.rel64: it only computes -/
def num_rel64.S (R : Value → World → Prop) (w : World) (r : Bool) : Prop := R (.bool r) w
def num_rel64.F (op_0 : Int) (x_1 : Int) (y_2 : Int) : Bool :=
  (cond (op_0 == (80 : Int))
  ((x_1 == (0 : Int)))
  (cond (op_0 == (81 : Int))
  ((x_1 == y_2))
  (cond (op_0 == (82 : Int))
  ((x_1 != y_2))
  (cond (op_0 == (83 : Int))
  ((decide ((IntKind.wrap .i64 x_1) < (IntKind.wrap .i64 y_2))))
  (cond (op_0 == (84 : Int))
  ((decide (x_1 < y_2)))
  (cond (op_0 == (85 : Int))
  ((decide ((IntKind.wrap .i64 x_1) > (IntKind.wrap .i64 y_2))))
  (cond (op_0 == (86 : Int))
  ((decide (x_1 > y_2)))
  (cond (op_0 == (87 : Int))
  ((decide ((IntKind.wrap .i64 x_1) ≤ (IntKind.wrap .i64 y_2))))
  (cond (op_0 == (88 : Int))
  ((decide (x_1 ≤ y_2)))
  (cond (op_0 == (89 : Int))
  ((decide ((IntKind.wrap .i64 x_1) ≥ (IntKind.wrap .i64 y_2))))
  ((decide (x_1 ≥ y_2)))))))))))))
theorem num_rel64.F_ok (op_0 : Int) (x_1 : Int) (y_2 : Int) (R : Value → World → Prop) (w : World) (h : num_rel64.S R w (num_rel64.F op_0 x_1 y_2)) : num_rel64.V op_0 x_1 y_2 R w :=
  (cond_mapT (S := num_rel64.S R w) h (fun h => h) (fun h => (cond_mapT (S := num_rel64.S R w) h (fun h => h) (fun h => (cond_mapT (S := num_rel64.S R w) h (fun h => h) (fun h => (cond_mapT (S := num_rel64.S R w) h (fun h => h) (fun h => (cond_mapT (S := num_rel64.S R w) h (fun h => h) (fun h => (cond_mapT (S := num_rel64.S R w) h (fun h => h) (fun h => (cond_mapT (S := num_rel64.S R w) h (fun h => h) (fun h => (cond_mapT (S := num_rel64.S R w) h (fun h => h) (fun h => (cond_mapT (S := num_rel64.S R w) h (fun h => h) (fun h => (cond_mapT (S := num_rel64.S R w) h (fun h => h) (fun h => h))))))))))))))))))))
theorem num_rel64.pure (op_0 : Int) (x_1 : Int) (y_2 : Int) (w : World) : Runs Try.prog num_rel64.id #[(.int .i64 op_0), (.int .u64 x_1), (.int .u64 y_2)] w fun v w' => v = (.bool (num_rel64.F op_0 x_1 y_2)) ∧ w' = w :=
  num_rel64.enter op_0 x_1 y_2 _ w (num_rel64.F_ok op_0 x_1 y_2 _ w ⟨rfl, rfl⟩)

/-! e2e/numlaw.Shl: it only computes -/
def numlaw_Shl.S (R : Value → World → Prop) (w : World) (r : Int × Int) : Prop := R (.tuple #[(.int .u64 (r).1), (.int .u64 (r).2)]) w
def numlaw_Shl.F1 (m_0 : Int) (sh_1 : Int) : Int × Int :=
  (cond (decide (sh_1 ≥ (64 : Int)))
  ((IntKind.wrap .u64 (m_0 * 2 ^ (min (Int.toNat (IntKind.wrap .u64 (IntKind.wrap .i64 (sh_1 - (64 : Int))))) (IntKind.bits .u64)))), 0)
  ((Int.fdiv m_0 (2 ^ (min (Int.toNat (IntKind.wrap .u64 (IntKind.wrap .i64 ((64 : Int) - sh_1)))) (IntKind.bits .u64)))), (IntKind.wrap .u64 (m_0 * 2 ^ (min (Int.toNat (IntKind.wrap .u64 sh_1)) (IntKind.bits .u64))))))
def numlaw_Shl.Pre1 (m_0 : Int) (sh_1 : Int) : Prop :=
  (cond (decide (sh_1 ≥ (64 : Int)))
  (0 ≤ (IntKind.wrap .u64 (IntKind.wrap .i64 (sh_1 - (64 : Int)))) ∧ True)
  (0 ≤ (IntKind.wrap .u64 (IntKind.wrap .i64 ((64 : Int) - sh_1))) ∧ (0 ≤ (IntKind.wrap .u64 sh_1) ∧ True)))
theorem numlaw_Shl.F1_ok (m_0 : Int) (sh_1 : Int) (R : Value → World → Prop) (w : World) (h : numlaw_Shl.S R w (numlaw_Shl.F1 m_0 sh_1)) (hp : numlaw_Shl.Pre1 m_0 sh_1) : numlaw_Shl.L1 m_0 sh_1 R w :=
  numlaw_Shl.step1 m_0 sh_1 R w (cond_mapP (S := numlaw_Shl.S R w) h hp (fun h hp => ⟨(hp).1, h⟩) (fun h hp => ⟨(hp).1, ⟨((hp).2).1, h⟩⟩))
def numlaw_Shl.F (m_0 : Int) (sh_1 : Int) : Int × Int :=
  (numlaw_Shl.F1 m_0 sh_1)
def numlaw_Shl.Pre (m_0 : Int) (sh_1 : Int) : Prop :=
  (numlaw_Shl.Pre1 m_0 sh_1)
theorem numlaw_Shl.F_ok (m_0 : Int) (sh_1 : Int) (R : Value → World → Prop) (w : World) (h : numlaw_Shl.S R w (numlaw_Shl.F m_0 sh_1)) (hp : numlaw_Shl.Pre m_0 sh_1) : numlaw_Shl.V m_0 sh_1 R w :=
  (numlaw_Shl.F1_ok m_0 sh_1 R w h hp)
theorem numlaw_Shl.pure (m_0 : Int) (sh_1 : Int) (w : World) (hp : numlaw_Shl.Pre m_0 sh_1) : Runs Try.prog numlaw_Shl.id #[(.int .u64 m_0), (.int .i64 sh_1)] w fun v w' => v = (.tuple #[(.int .u64 ((numlaw_Shl.F m_0 sh_1)).1), (.int .u64 ((numlaw_Shl.F m_0 sh_1)).2)]) ∧ w' = w :=
  numlaw_Shl.enter m_0 sh_1 _ w (numlaw_Shl.F_ok m_0 sh_1 _ w ⟨rfl, rfl⟩ hp)

/-! e2e/numlaw.Sq: it only computes -/
def numlaw_Sq.S (R : Value → World → Prop) (w : World) (r : Int × Int) : Prop := R (.tuple #[(.int .u64 (r).1), (.int .u64 (r).2)]) w
def numlaw_Sq.F7 (lo_7 : Int) (hi_8 : Int) : Int × Int :=
  (hi_8, lo_7)
theorem numlaw_Sq.F7_ok (lo_7 : Int) (hi_8 : Int) (R : Value → World → Prop) (w : World) (h : numlaw_Sq.S R w (numlaw_Sq.F7 lo_7 hi_8)) : numlaw_Sq.L7 lo_7 hi_8 R w :=
  numlaw_Sq.step7 lo_7 hi_8 R w h
def numlaw_Sq.F6 (l_5 : Int) (lo_7 : Int) (hi_8 : Int) : Int × Int :=
  (cond (decide (lo_7 < (IntKind.wrap .u64 (l_5 * l_5))))
  (numlaw_Sq.F7 lo_7 (IntKind.wrap .u64 (hi_8 + (1 : Int))))
  (numlaw_Sq.F7 lo_7 hi_8))
theorem numlaw_Sq.F6_ok (l_5 : Int) (lo_7 : Int) (hi_8 : Int) (R : Value → World → Prop) (w : World) (h : numlaw_Sq.S R w (numlaw_Sq.F6 l_5 lo_7 hi_8)) : numlaw_Sq.L6 l_5 lo_7 hi_8 R w :=
  numlaw_Sq.step6 l_5 lo_7 hi_8 R w (cond_mapT (S := numlaw_Sq.S R w) h (fun h => (numlaw_Sq.F7_ok lo_7 (IntKind.wrap .u64 (hi_8 + (1 : Int))) R w h)) (fun h => (numlaw_Sq.F7_ok lo_7 hi_8 R w h)))
def numlaw_Sq.F5 (h_4 : Int) (l_5 : Int) (t_6 : Int) (lo_7 : Int) : Int × Int :=
  (numlaw_Sq.F6 l_5 lo_7 (IntKind.wrap .u64 ((IntKind.wrap .u64 (h_4 * h_4)) + (Int.fdiv t_6 (2 ^ (32 : Nat))))))
theorem numlaw_Sq.F5_ok (h_4 : Int) (l_5 : Int) (t_6 : Int) (lo_7 : Int) (R : Value → World → Prop) (w : World) (h : numlaw_Sq.S R w (numlaw_Sq.F5 h_4 l_5 t_6 lo_7)) : numlaw_Sq.L5 h_4 l_5 t_6 lo_7 R w :=
  numlaw_Sq.step5 h_4 l_5 t_6 lo_7 R w (numlaw_Sq.F6_ok l_5 lo_7 (IntKind.wrap .u64 ((IntKind.wrap .u64 (h_4 * h_4)) + (Int.fdiv t_6 (2 ^ (32 : Nat))))) R w h)
def numlaw_Sq.F4 (h_4 : Int) (l_5 : Int) (t_6 : Int) : Int × Int :=
  (numlaw_Sq.F5 h_4 l_5 t_6 (IntKind.wrap .u64 ((IntKind.wrap .u64 (l_5 * l_5)) + (IntKind.wrap .u64 (t_6 * 2 ^ (32 : Nat))))))
theorem numlaw_Sq.F4_ok (h_4 : Int) (l_5 : Int) (t_6 : Int) (R : Value → World → Prop) (w : World) (h : numlaw_Sq.S R w (numlaw_Sq.F4 h_4 l_5 t_6)) : numlaw_Sq.L4 h_4 l_5 t_6 R w :=
  numlaw_Sq.step4 h_4 l_5 t_6 R w (numlaw_Sq.F5_ok h_4 l_5 t_6 (IntKind.wrap .u64 ((IntKind.wrap .u64 (l_5 * l_5)) + (IntKind.wrap .u64 (t_6 * 2 ^ (32 : Nat))))) R w h)
def numlaw_Sq.F3 (h_4 : Int) (l_5 : Int) : Int × Int :=
  (numlaw_Sq.F4 h_4 l_5 (IntKind.wrap .u64 ((IntKind.wrap .u64 ((2 : Int) * h_4)) * l_5)))
theorem numlaw_Sq.F3_ok (h_4 : Int) (l_5 : Int) (R : Value → World → Prop) (w : World) (h : numlaw_Sq.S R w (numlaw_Sq.F3 h_4 l_5)) : numlaw_Sq.L3 h_4 l_5 R w :=
  numlaw_Sq.step3 h_4 l_5 R w (numlaw_Sq.F4_ok h_4 l_5 (IntKind.wrap .u64 ((IntKind.wrap .u64 ((2 : Int) * h_4)) * l_5)) R w h)
def numlaw_Sq.F2 (v_0 : Int) (h_4 : Int) : Int × Int :=
  (numlaw_Sq.F3 h_4 (bAnd .u64 v_0 4294967295))
theorem numlaw_Sq.F2_ok (v_0 : Int) (h_4 : Int) (R : Value → World → Prop) (w : World) (h : numlaw_Sq.S R w (numlaw_Sq.F2 v_0 h_4)) : numlaw_Sq.L2 v_0 h_4 R w :=
  numlaw_Sq.step2 v_0 h_4 R w (numlaw_Sq.F3_ok h_4 (bAnd .u64 v_0 4294967295) R w h)
def numlaw_Sq.F1 (v_0 : Int) : Int × Int :=
  (numlaw_Sq.F2 v_0 (Int.fdiv v_0 (2 ^ (32 : Nat))))
theorem numlaw_Sq.F1_ok (v_0 : Int) (R : Value → World → Prop) (w : World) (h : numlaw_Sq.S R w (numlaw_Sq.F1 v_0)) : numlaw_Sq.L1 v_0 R w :=
  numlaw_Sq.step1 v_0 R w (numlaw_Sq.F2_ok v_0 (Int.fdiv v_0 (2 ^ (32 : Nat))) R w h)
def numlaw_Sq.F (v_0 : Int) : Int × Int :=
  (numlaw_Sq.F1 v_0)
theorem numlaw_Sq.F_ok (v_0 : Int) (R : Value → World → Prop) (w : World) (h : numlaw_Sq.S R w (numlaw_Sq.F v_0)) : numlaw_Sq.V v_0 R w :=
  (numlaw_Sq.F1_ok v_0 R w h)
theorem numlaw_Sq.pure (v_0 : Int) (w : World) : Runs Try.prog numlaw_Sq.id #[(.int .u64 v_0)] w fun v w' => v = (.tuple #[(.int .u64 ((numlaw_Sq.F v_0)).1), (.int .u64 ((numlaw_Sq.F v_0)).2)]) ∧ w' = w :=
  numlaw_Sq.enter v_0 _ w (numlaw_Sq.F_ok v_0 _ w ⟨rfl, rfl⟩)

/-! e2e/api.Cut: it only computes -/
def api_Cut.S (R : Value → World → Prop) (w : World) (r : Int) : Prop := R (.int .u64 r) w
def api_Cut.F1 (v_1 : Int) (t_10 : Bool) : Int :=
  (cond t_10
  ((bAnd .u64 v_1 4294967295))
  (v_1))
theorem api_Cut.F1_ok (v_1 : Int) (t_10 : Bool) (R : Value → World → Prop) (w : World) (h : api_Cut.S R w (api_Cut.F1 v_1 t_10)) : api_Cut.L1 v_1 t_10 R w :=
  api_Cut.step1 v_1 t_10 R w (cond_mapT (S := api_Cut.S R w) h (fun h => h) (fun h => h))
def api_Cut.F (t_0 : Int) (v_1 : Int) : Int :=
  (cond (t_0 == (127 : Int))
  (api_Cut.F1 v_1 true)
  (api_Cut.F1 v_1 (t_0 == (125 : Int))))
theorem api_Cut.F_ok (t_0 : Int) (v_1 : Int) (R : Value → World → Prop) (w : World) (h : api_Cut.S R w (api_Cut.F t_0 v_1)) : api_Cut.V t_0 v_1 R w :=
  (cond_mapT (S := api_Cut.S R w) h (fun h => (api_Cut.F1_ok v_1 true R w h)) (fun h => (api_Cut.F1_ok v_1 (t_0 == (125 : Int)) R w h)))
theorem api_Cut.pure (t_0 : Int) (v_1 : Int) (w : World) : Runs Try.prog api_Cut.id #[(.int .u8 t_0), (.int .u64 v_1)] w fun v w' => v = (.int .u64 (api_Cut.F t_0 v_1)) ∧ w' = w :=
  api_Cut.enter t_0 v_1 _ w (api_Cut.F_ok t_0 v_1 _ w ⟨rfl, rfl⟩)

/-! e2e/numlaw.Mag: it only computes -/
def numlaw_Mag.S (R : Value → World → Prop) (w : World) (r : Int) : Prop := R (.int .u64 r) w
def numlaw_Mag.F (m_0 : Int) (v_1 : Int) : Int :=
  (cond (decide (v_1 > (Int.fdiv m_0 (2 ^ (1 : Nat)))))
  ((bAnd .u64 (IntKind.wrap .u64 ((IntKind.wrap .u64 (m_0 - v_1)) + (1 : Int))) m_0))
  (v_1))
theorem numlaw_Mag.F_ok (m_0 : Int) (v_1 : Int) (R : Value → World → Prop) (w : World) (h : numlaw_Mag.S R w (numlaw_Mag.F m_0 v_1)) : numlaw_Mag.V m_0 v_1 R w :=
  (cond_mapT (S := numlaw_Mag.S R w) h (fun h => h) (fun h => h))
theorem numlaw_Mag.pure (m_0 : Int) (v_1 : Int) (w : World) : Runs Try.prog numlaw_Mag.id #[(.int .u64 m_0), (.int .u64 v_1)] w fun v w' => v = (.int .u64 (numlaw_Mag.F m_0 v_1)) ∧ w' = w :=
  numlaw_Mag.enter m_0 v_1 _ w (numlaw_Mag.F_ok m_0 v_1 _ w ⟨rfl, rfl⟩)

/-! e2e/numm.flag: it only computes -/
def numm_flag.S (R : Value → World → Prop) (w : World) (r : Int) : Prop := R (.int .u64 r) w
def numm_flag.F (c_0 : Bool) : Int :=
  (cond c_0
  (1)
  (0))
theorem numm_flag.F_ok (c_0 : Bool) (R : Value → World → Prop) (w : World) (h : numm_flag.S R w (numm_flag.F c_0)) : numm_flag.V c_0 R w :=
  (cond_mapT (S := numm_flag.S R w) h (fun h => h) (fun h => h))
theorem numm_flag.pure (c_0 : Bool) (w : World) : Runs Try.prog numm_flag.id #[(.bool c_0)] w fun v w' => v = (.int .u64 (numm_flag.F c_0)) ∧ w' = w :=
  numm_flag.enter c_0 _ w (numm_flag.F_ok c_0 _ w ⟨rfl, rfl⟩)

/-! e2e/numm.top: it only computes -/
def numm_top.S (R : Value → World → Prop) (w : World) (r : Int) : Prop := R (.int .u64 r) w
def numm_top.F (n_0 : Int) : Int :=
  ((IntKind.wrap .u64 ((1 : Int) * 2 ^ (min (Int.toNat (IntKind.wrap .u64 (IntKind.wrap .i64 (n_0 - (1 : Int))))) (IntKind.bits .u64)))))
def numm_top.Pre (n_0 : Int) : Prop :=
  (0 ≤ (IntKind.wrap .u64 (IntKind.wrap .i64 (n_0 - (1 : Int)))) ∧ True)
theorem numm_top.F_ok (n_0 : Int) (R : Value → World → Prop) (w : World) (h : numm_top.S R w (numm_top.F n_0)) (hp : numm_top.Pre n_0) : numm_top.V n_0 R w :=
  ⟨(hp).1, h⟩
theorem numm_top.pure (n_0 : Int) (w : World) (hp : numm_top.Pre n_0) : Runs Try.prog numm_top.id #[(.int .i64 n_0)] w fun v w' => v = (.int .u64 (numm_top.F n_0)) ∧ w' = w :=
  numm_top.enter n_0 _ w (numm_top.F_ok n_0 _ w ⟨rfl, rfl⟩ hp)

/-! e2e/numm.mask: it only computes -/
def numm_mask.S (R : Value → World → Prop) (w : World) (r : Int) : Prop := R (.int .u64 r) w
def numm_mask.F (n_0 : Int) : Int :=
  (cond (n_0 == (32 : Int))
  (4294967295)
  (18446744073709551615))
theorem numm_mask.F_ok (n_0 : Int) (R : Value → World → Prop) (w : World) (h : numm_mask.S R w (numm_mask.F n_0)) : numm_mask.V n_0 R w :=
  (cond_mapT (S := numm_mask.S R w) h (fun h => h) (fun h => h))
theorem numm_mask.pure (n_0 : Int) (w : World) : Runs Try.prog numm_mask.id #[(.int .i64 n_0)] w fun v w' => v = (.int .u64 (numm_mask.F n_0)) ∧ w' = w :=
  numm_mask.enter n_0 _ w (numm_mask.F_ok n_0 _ w ⟨rfl, rfl⟩)

/-! e2e/numm.intCmp: it only computes -/
def numm_intCmp.S (R : Value → World → Prop) (w : World) (r : Int) : Prop := R (.int .u64 r) w
def numm_intCmp.F5 (a_2 : Int) (b_3 : Int) (t_58 : Bool) : Int :=
  (cond t_58
  ((numm_flag.F (!(decide (b_3 < a_2)))))
  ((numm_flag.F (!(decide (a_2 < b_3))))))
theorem numm_intCmp.F5_ok (a_2 : Int) (b_3 : Int) (t_58 : Bool) (R : Value → World → Prop) (w : World) (h : numm_intCmp.S R w (numm_intCmp.F5 a_2 b_3 t_58)) : numm_intCmp.L5 a_2 b_3 t_58 R w :=
  numm_intCmp.step5 a_2 b_3 t_58 R w (cond_mapT (S := numm_intCmp.S R w) h (fun h => (Runs.pure_bind (numm_flag.pure (!(decide (b_3 < a_2))) w) ⟨(numm_flag.F (!(decide (b_3 < a_2)))), rfl, h⟩)) (fun h => (Runs.pure_bind (numm_flag.pure (!(decide (a_2 < b_3))) w) ⟨(numm_flag.F (!(decide (a_2 < b_3)))), rfl, h⟩)))
def numm_intCmp.F4 (a_2 : Int) (b_3 : Int) (t_31 : Int) (t_51 : Bool) : Int :=
  (cond t_51
  ((numm_flag.F (decide (b_3 < a_2))))
  (cond (t_31 == (6 : Int))
  (numm_intCmp.F5 a_2 b_3 true)
  (numm_intCmp.F5 a_2 b_3 (t_31 == (7 : Int)))))
theorem numm_intCmp.F4_ok (a_2 : Int) (b_3 : Int) (t_31 : Int) (t_51 : Bool) (R : Value → World → Prop) (w : World) (h : numm_intCmp.S R w (numm_intCmp.F4 a_2 b_3 t_31 t_51)) : numm_intCmp.L4 a_2 b_3 t_31 t_51 R w :=
  numm_intCmp.step4 a_2 b_3 t_31 t_51 R w (cond_mapT (S := numm_intCmp.S R w) h (fun h => (Runs.pure_bind (numm_flag.pure (decide (b_3 < a_2)) w) ⟨(numm_flag.F (decide (b_3 < a_2))), rfl, h⟩)) (fun h => (cond_mapT (S := numm_intCmp.S R w) h (fun h => (numm_intCmp.F5_ok a_2 b_3 true R w h)) (fun h => (numm_intCmp.F5_ok a_2 b_3 (t_31 == (7 : Int)) R w h)))))
def numm_intCmp.F3 (a_2 : Int) (b_3 : Int) (t_31 : Int) (t_44 : Bool) : Int :=
  (cond t_44
  ((numm_flag.F (decide (a_2 < b_3))))
  (cond (t_31 == (4 : Int))
  (numm_intCmp.F4 a_2 b_3 t_31 true)
  (numm_intCmp.F4 a_2 b_3 t_31 (t_31 == (5 : Int)))))
theorem numm_intCmp.F3_ok (a_2 : Int) (b_3 : Int) (t_31 : Int) (t_44 : Bool) (R : Value → World → Prop) (w : World) (h : numm_intCmp.S R w (numm_intCmp.F3 a_2 b_3 t_31 t_44)) : numm_intCmp.L3 a_2 b_3 t_31 t_44 R w :=
  numm_intCmp.step3 a_2 b_3 t_31 t_44 R w (cond_mapT (S := numm_intCmp.S R w) h (fun h => (Runs.pure_bind (numm_flag.pure (decide (a_2 < b_3)) w) ⟨(numm_flag.F (decide (a_2 < b_3))), rfl, h⟩)) (fun h => (cond_mapT (S := numm_intCmp.S R w) h (fun h => (numm_intCmp.F4_ok a_2 b_3 t_31 true R w h)) (fun h => (numm_intCmp.F4_ok a_2 b_3 t_31 (t_31 == (5 : Int)) R w h)))))
def numm_intCmp.F2 (k_0 : Int) (a_2 : Int) (b_3 : Int) : Int :=
  (cond (k_0 == (0 : Int))
  ((numm_flag.F (a_2 == b_3)))
  (cond (k_0 == (1 : Int))
  ((numm_flag.F (a_2 != b_3)))
  (cond (k_0 == (2 : Int))
  (numm_intCmp.F3 a_2 b_3 k_0 true)
  (numm_intCmp.F3 a_2 b_3 k_0 (k_0 == (3 : Int))))))
theorem numm_intCmp.F2_ok (k_0 : Int) (a_2 : Int) (b_3 : Int) (R : Value → World → Prop) (w : World) (h : numm_intCmp.S R w (numm_intCmp.F2 k_0 a_2 b_3)) : numm_intCmp.L2 k_0 a_2 b_3 R w :=
  numm_intCmp.step2 k_0 a_2 b_3 R w (cond_mapT (S := numm_intCmp.S R w) h (fun h => (Runs.pure_bind (numm_flag.pure (a_2 == b_3) w) ⟨(numm_flag.F (a_2 == b_3)), rfl, h⟩)) (fun h => (cond_mapT (S := numm_intCmp.S R w) h (fun h => (Runs.pure_bind (numm_flag.pure (a_2 != b_3) w) ⟨(numm_flag.F (a_2 != b_3)), rfl, h⟩)) (fun h => (cond_mapT (S := numm_intCmp.S R w) h (fun h => (numm_intCmp.F3_ok a_2 b_3 k_0 true R w h)) (fun h => (numm_intCmp.F3_ok a_2 b_3 k_0 (k_0 == (3 : Int)) R w h)))))))
def numm_intCmp.F1 (k_0 : Int) (n_1 : Int) (a_2 : Int) (b_3 : Int) (t_16 : Bool) : Int :=
  (cond t_16
  (numm_intCmp.F2 k_0 (bAnd .u64 (IntKind.wrap .u64 (a_2 + (numm_top.F n_1))) (numm_mask.F n_1)) (bAnd .u64 (IntKind.wrap .u64 (b_3 + (numm_top.F n_1))) (numm_mask.F n_1)))
  (numm_intCmp.F2 k_0 a_2 b_3))
def numm_intCmp.Pre1 (k_0 : Int) (n_1 : Int) (a_2 : Int) (b_3 : Int) (t_16 : Bool) : Prop :=
  (cond t_16
  ((numm_top.Pre n_1) ∧ True)
  True)
theorem numm_intCmp.F1_ok (k_0 : Int) (n_1 : Int) (a_2 : Int) (b_3 : Int) (t_16 : Bool) (R : Value → World → Prop) (w : World) (h : numm_intCmp.S R w (numm_intCmp.F1 k_0 n_1 a_2 b_3 t_16)) (hp : numm_intCmp.Pre1 k_0 n_1 a_2 b_3 t_16) : numm_intCmp.L1 k_0 n_1 a_2 b_3 t_16 R w :=
  numm_intCmp.step1 k_0 n_1 a_2 b_3 t_16 R w (cond_mapP (S := numm_intCmp.S R w) h hp (fun h hp => (Runs.pure_bind (numm_top.pure n_1 w (hp).1) ⟨(numm_top.F n_1), rfl, (Runs.pure_bind (numm_mask.pure n_1 w) ⟨(numm_mask.F n_1), rfl, (Runs.pure_bind (numm_mask.pure n_1 w) ⟨(numm_mask.F n_1), rfl, (numm_intCmp.F2_ok k_0 (bAnd .u64 (IntKind.wrap .u64 (a_2 + (numm_top.F n_1))) (numm_mask.F n_1)) (bAnd .u64 (IntKind.wrap .u64 (b_3 + (numm_top.F n_1))) (numm_mask.F n_1)) R w h)⟩)⟩)⟩)) (fun h hp => (numm_intCmp.F2_ok k_0 a_2 b_3 R w h)))
def numm_intCmp.F (k_0 : Int) (n_1 : Int) (a_2 : Int) (b_3 : Int) : Int :=
  (cond (decide (k_0 ≥ (2 : Int)))
  (numm_intCmp.F1 k_0 n_1 a_2 b_3 ((Int.tmod k_0 2) == (0 : Int)))
  (numm_intCmp.F1 k_0 n_1 a_2 b_3 false))
def numm_intCmp.Pre (k_0 : Int) (n_1 : Int) (a_2 : Int) (b_3 : Int) : Prop :=
  (cond (decide (k_0 ≥ (2 : Int)))
  (numm_intCmp.Pre1 k_0 n_1 a_2 b_3 ((Int.tmod k_0 2) == (0 : Int)))
  (numm_intCmp.Pre1 k_0 n_1 a_2 b_3 false))
theorem numm_intCmp.F_ok (k_0 : Int) (n_1 : Int) (a_2 : Int) (b_3 : Int) (R : Value → World → Prop) (w : World) (h : numm_intCmp.S R w (numm_intCmp.F k_0 n_1 a_2 b_3)) (hp : numm_intCmp.Pre k_0 n_1 a_2 b_3) : numm_intCmp.V k_0 n_1 a_2 b_3 R w :=
  (cond_mapP (S := numm_intCmp.S R w) h hp (fun h hp => (numm_intCmp.F1_ok k_0 n_1 a_2 b_3 ((Int.tmod k_0 2) == (0 : Int)) R w h hp)) (fun h hp => (numm_intCmp.F1_ok k_0 n_1 a_2 b_3 false R w h hp)))
theorem numm_intCmp.pure (k_0 : Int) (n_1 : Int) (a_2 : Int) (b_3 : Int) (w : World) (hp : numm_intCmp.Pre k_0 n_1 a_2 b_3) : Runs Try.prog numm_intCmp.id #[(.int .i64 k_0), (.int .i64 n_1), (.int .u64 a_2), (.int .u64 b_3)] w fun v w' => v = (.int .u64 (numm_intCmp.F k_0 n_1 a_2 b_3)) ∧ w' = w :=
  numm_intCmp.enter k_0 n_1 a_2 b_3 _ w (numm_intCmp.F_ok k_0 n_1 a_2 b_3 _ w ⟨rfl, rfl⟩ hp)

/-! e2e/numm.bias: it only computes -/
def numm_bias.S (R : Value → World → Prop) (w : World) (r : Int) : Prop := R (.int .i64 r) w
def numm_bias.F (f_0 : Int) : Int :=
  (cond (f_0 == (32 : Int))
  (127)
  (1023))
theorem numm_bias.F_ok (f_0 : Int) (R : Value → World → Prop) (w : World) (h : numm_bias.S R w (numm_bias.F f_0)) : numm_bias.V f_0 R w :=
  (cond_mapT (S := numm_bias.S R w) h (fun h => h) (fun h => h))
theorem numm_bias.pure (f_0 : Int) (w : World) : Runs Try.prog numm_bias.id #[(.int .i64 f_0)] w fun v w' => v = (.int .i64 (numm_bias.F f_0)) ∧ w' = w :=
  numm_bias.enter f_0 _ w (numm_bias.F_ok f_0 _ w ⟨rfl, rfl⟩)

/-! e2e/numm.prec: it only computes -/
def numm_prec.S (R : Value → World → Prop) (w : World) (r : Int) : Prop := R (.int .i64 r) w
def numm_prec.F (f_0 : Int) : Int :=
  (cond (f_0 == (32 : Int))
  (24)
  (53))
theorem numm_prec.F_ok (f_0 : Int) (R : Value → World → Prop) (w : World) (h : numm_prec.S R w (numm_prec.F f_0)) : numm_prec.V f_0 R w :=
  (cond_mapT (S := numm_prec.S R w) h (fun h => h) (fun h => h))
theorem numm_prec.pure (f_0 : Int) (w : World) : Runs Try.prog numm_prec.id #[(.int .i64 f_0)] w fun v w' => v = (.int .i64 (numm_prec.F f_0)) ∧ w' = w :=
  numm_prec.enter f_0 _ w (numm_prec.F_ok f_0 _ w ⟨rfl, rfl⟩)

/-! e2e/numm.infOf: it only computes -/
def numm_infOf.S (R : Value → World → Prop) (w : World) (r : Int) : Prop := R (.int .u64 r) w
def numm_infOf.F (f_0 : Int) : Int :=
  ((IntKind.wrap .u64 ((IntKind.wrap .u64 (IntKind.wrap .i64 ((IntKind.wrap .i64 ((2 : Int) * (numm_bias.F f_0))) + (1 : Int)))) * 2 ^ (min (Int.toNat (IntKind.wrap .u64 (IntKind.wrap .i64 ((numm_prec.F f_0) - (1 : Int))))) (IntKind.bits .u64)))))
def numm_infOf.Pre (f_0 : Int) : Prop :=
  (0 ≤ (IntKind.wrap .u64 (IntKind.wrap .i64 ((numm_prec.F f_0) - (1 : Int)))) ∧ True)
theorem numm_infOf.F_ok (f_0 : Int) (R : Value → World → Prop) (w : World) (h : numm_infOf.S R w (numm_infOf.F f_0)) (hp : numm_infOf.Pre f_0) : numm_infOf.V f_0 R w :=
  (Runs.pure_bind (numm_bias.pure f_0 w) ⟨(numm_bias.F f_0), rfl, (Runs.pure_bind (numm_prec.pure f_0 w) ⟨(numm_prec.F f_0), rfl, ⟨(hp).1, h⟩⟩)⟩)
theorem numm_infOf.pure (f_0 : Int) (w : World) (hp : numm_infOf.Pre f_0) : Runs Try.prog numm_infOf.id #[(.int .i64 f_0)] w fun v w' => v = (.int .u64 (numm_infOf.F f_0)) ∧ w' = w :=
  numm_infOf.enter f_0 _ w (numm_infOf.F_ok f_0 _ w ⟨rfl, rfl⟩ hp)

/-! e2e/numm.isNaN: it only computes -/
def numm_isNaN.S (R : Value → World → Prop) (w : World) (r : Bool) : Prop := R (.bool r) w
def numm_isNaN.F (f_0 : Int) (v_1 : Int) : Bool :=
  ((decide ((bAnd .u64 v_1 (IntKind.wrap .u64 ((numm_top.F f_0) - (1 : Int)))) > (numm_infOf.F f_0))))
def numm_isNaN.Pre (f_0 : Int) (v_1 : Int) : Prop :=
  ((numm_top.Pre f_0) ∧ ((numm_infOf.Pre f_0) ∧ True))
theorem numm_isNaN.F_ok (f_0 : Int) (v_1 : Int) (R : Value → World → Prop) (w : World) (h : numm_isNaN.S R w (numm_isNaN.F f_0 v_1)) (hp : numm_isNaN.Pre f_0 v_1) : numm_isNaN.V f_0 v_1 R w :=
  (Runs.pure_bind (numm_top.pure f_0 w (hp).1) ⟨(numm_top.F f_0), rfl, (Runs.pure_bind (numm_infOf.pure f_0 w ((hp).2).1) ⟨(numm_infOf.F f_0), rfl, h⟩)⟩)
theorem numm_isNaN.pure (f_0 : Int) (v_1 : Int) (w : World) (hp : numm_isNaN.Pre f_0 v_1) : Runs Try.prog numm_isNaN.id #[(.int .i64 f_0), (.int .u64 v_1)] w fun v w' => v = (.bool (numm_isNaN.F f_0 v_1)) ∧ w' = w :=
  numm_isNaN.enter f_0 v_1 _ w (numm_isNaN.F_ok f_0 v_1 _ w ⟨rfl, rfl⟩ hp)

/-! e2e/numm.isZero: it only computes -/
def numm_isZero.S (R : Value → World → Prop) (w : World) (r : Bool) : Prop := R (.bool r) w
def numm_isZero.F (f_0 : Int) (v_1 : Int) : Bool :=
  (((bAnd .u64 v_1 (IntKind.wrap .u64 ((numm_top.F f_0) - (1 : Int)))) == (0 : Int)))
def numm_isZero.Pre (f_0 : Int) (v_1 : Int) : Prop :=
  ((numm_top.Pre f_0) ∧ True)
theorem numm_isZero.F_ok (f_0 : Int) (v_1 : Int) (R : Value → World → Prop) (w : World) (h : numm_isZero.S R w (numm_isZero.F f_0 v_1)) (hp : numm_isZero.Pre f_0 v_1) : numm_isZero.V f_0 v_1 R w :=
  (Runs.pure_bind (numm_top.pure f_0 w (hp).1) ⟨(numm_top.F f_0), rfl, h⟩)
theorem numm_isZero.pure (f_0 : Int) (v_1 : Int) (w : World) (hp : numm_isZero.Pre f_0 v_1) : Runs Try.prog numm_isZero.id #[(.int .i64 f_0), (.int .u64 v_1)] w fun v w' => v = (.bool (numm_isZero.F f_0 v_1)) ∧ w' = w :=
  numm_isZero.enter f_0 v_1 _ w (numm_isZero.F_ok f_0 v_1 _ w ⟨rfl, rfl⟩ hp)

/-! e2e/numm.key: it only computes -/
def numm_key.S (R : Value → World → Prop) (w : World) (r : Int) : Prop := R (.int .u64 r) w
def numm_key.F (f_0 : Int) (v_1 : Int) : Int :=
  (cond (decide (v_1 ≥ (numm_top.F f_0)))
  ((IntKind.wrap .u64 ((numm_mask.F f_0) - v_1)))
  ((IntKind.wrap .u64 (v_1 + (numm_top.F f_0)))))
def numm_key.Pre (f_0 : Int) (v_1 : Int) : Prop :=
  ((numm_top.Pre f_0) ∧ (cond (decide (v_1 ≥ (numm_top.F f_0)))
  True
  ((numm_top.Pre f_0) ∧ True)))
theorem numm_key.F_ok (f_0 : Int) (v_1 : Int) (R : Value → World → Prop) (w : World) (h : numm_key.S R w (numm_key.F f_0 v_1)) (hp : numm_key.Pre f_0 v_1) : numm_key.V f_0 v_1 R w :=
  (Runs.pure_bind (numm_top.pure f_0 w (hp).1) ⟨(numm_top.F f_0), rfl, (cond_mapP (S := numm_key.S R w) h (hp).2 (fun h hp => (Runs.pure_bind (numm_mask.pure f_0 w) ⟨(numm_mask.F f_0), rfl, h⟩)) (fun h hp => (Runs.pure_bind (numm_top.pure f_0 w (hp).1) ⟨(numm_top.F f_0), rfl, h⟩)))⟩)
theorem numm_key.pure (f_0 : Int) (v_1 : Int) (w : World) (hp : numm_key.Pre f_0 v_1) : Runs Try.prog numm_key.id #[(.int .i64 f_0), (.int .u64 v_1)] w fun v w' => v = (.int .u64 (numm_key.F f_0 v_1)) ∧ w' = w :=
  numm_key.enter f_0 v_1 _ w (numm_key.F_ok f_0 v_1 _ w ⟨rfl, rfl⟩ hp)

/-! e2e/numm.fltCmp: it only computes -/
def numm_fltCmp.S (R : Value → World → Prop) (w : World) (r : Int) : Prop := R (.int .u64 r) w
def numm_fltCmp.F2 (k_0 : Int) (f_1 : Int) (a_2 : Int) (b_3 : Int) : Int :=
  (cond (k_0 == (0 : Int))
  ((numm_flag.F ((numm_key.F f_1 a_2) == (numm_key.F f_1 b_3))))
  (cond (k_0 == (1 : Int))
  ((numm_flag.F ((numm_key.F f_1 a_2) != (numm_key.F f_1 b_3))))
  (cond (k_0 == (2 : Int))
  ((numm_flag.F (decide ((numm_key.F f_1 a_2) < (numm_key.F f_1 b_3)))))
  (cond (k_0 == (3 : Int))
  ((numm_flag.F (decide ((numm_key.F f_1 b_3) < (numm_key.F f_1 a_2)))))
  (cond (k_0 == (4 : Int))
  ((numm_flag.F (decide ((numm_key.F f_1 a_2) ≤ (numm_key.F f_1 b_3)))))
  ((numm_flag.F (decide ((numm_key.F f_1 b_3) ≤ (numm_key.F f_1 a_2))))))))))
def numm_fltCmp.Pre2 (k_0 : Int) (f_1 : Int) (a_2 : Int) (b_3 : Int) : Prop :=
  ((numm_key.Pre f_1 a_2) ∧ ((numm_key.Pre f_1 b_3) ∧ True))
theorem numm_fltCmp.F2_ok (k_0 : Int) (f_1 : Int) (a_2 : Int) (b_3 : Int) (R : Value → World → Prop) (w : World) (h : numm_fltCmp.S R w (numm_fltCmp.F2 k_0 f_1 a_2 b_3)) (hp : numm_fltCmp.Pre2 k_0 f_1 a_2 b_3) : numm_fltCmp.L2 k_0 f_1 a_2 b_3 R w :=
  numm_fltCmp.step2 k_0 f_1 a_2 b_3 R w (Runs.pure_bind (numm_key.pure f_1 a_2 w (hp).1) ⟨(numm_key.F f_1 a_2), rfl, (Runs.pure_bind (numm_key.pure f_1 b_3 w ((hp).2).1) ⟨(numm_key.F f_1 b_3), rfl, (cond_mapT (S := numm_fltCmp.S R w) h (fun h => (Runs.pure_bind (numm_flag.pure ((numm_key.F f_1 a_2) == (numm_key.F f_1 b_3)) w) ⟨(numm_flag.F ((numm_key.F f_1 a_2) == (numm_key.F f_1 b_3))), rfl, h⟩)) (fun h => (cond_mapT (S := numm_fltCmp.S R w) h (fun h => (Runs.pure_bind (numm_flag.pure ((numm_key.F f_1 a_2) != (numm_key.F f_1 b_3)) w) ⟨(numm_flag.F ((numm_key.F f_1 a_2) != (numm_key.F f_1 b_3))), rfl, h⟩)) (fun h => (cond_mapT (S := numm_fltCmp.S R w) h (fun h => (Runs.pure_bind (numm_flag.pure (decide ((numm_key.F f_1 a_2) < (numm_key.F f_1 b_3))) w) ⟨(numm_flag.F (decide ((numm_key.F f_1 a_2) < (numm_key.F f_1 b_3)))), rfl, h⟩)) (fun h => (cond_mapT (S := numm_fltCmp.S R w) h (fun h => (Runs.pure_bind (numm_flag.pure (decide ((numm_key.F f_1 b_3) < (numm_key.F f_1 a_2))) w) ⟨(numm_flag.F (decide ((numm_key.F f_1 b_3) < (numm_key.F f_1 a_2)))), rfl, h⟩)) (fun h => (cond_mapT (S := numm_fltCmp.S R w) h (fun h => (Runs.pure_bind (numm_flag.pure (decide ((numm_key.F f_1 a_2) ≤ (numm_key.F f_1 b_3))) w) ⟨(numm_flag.F (decide ((numm_key.F f_1 a_2) ≤ (numm_key.F f_1 b_3)))), rfl, h⟩)) (fun h => (Runs.pure_bind (numm_flag.pure (decide ((numm_key.F f_1 b_3) ≤ (numm_key.F f_1 a_2))) w) ⟨(numm_flag.F (decide ((numm_key.F f_1 b_3) ≤ (numm_key.F f_1 a_2)))), rfl, h⟩)))))))))))⟩)⟩)
def numm_fltCmp.F1 (k_0 : Int) (f_1 : Int) (a_2 : Int) (b_3 : Int) : Int :=
  (cond (numm_isZero.F f_1 b_3)
  (numm_fltCmp.F2 k_0 f_1 a_2 0)
  (numm_fltCmp.F2 k_0 f_1 a_2 b_3))
def numm_fltCmp.Pre1 (k_0 : Int) (f_1 : Int) (a_2 : Int) (b_3 : Int) : Prop :=
  ((numm_isZero.Pre f_1 b_3) ∧ (cond (numm_isZero.F f_1 b_3)
  (numm_fltCmp.Pre2 k_0 f_1 a_2 0)
  (numm_fltCmp.Pre2 k_0 f_1 a_2 b_3)))
theorem numm_fltCmp.F1_ok (k_0 : Int) (f_1 : Int) (a_2 : Int) (b_3 : Int) (R : Value → World → Prop) (w : World) (h : numm_fltCmp.S R w (numm_fltCmp.F1 k_0 f_1 a_2 b_3)) (hp : numm_fltCmp.Pre1 k_0 f_1 a_2 b_3) : numm_fltCmp.L1 k_0 f_1 a_2 b_3 R w :=
  numm_fltCmp.step1 k_0 f_1 a_2 b_3 R w (Runs.pure_bind (numm_isZero.pure f_1 b_3 w (hp).1) ⟨(numm_isZero.F f_1 b_3), rfl, (cond_mapP (S := numm_fltCmp.S R w) h (hp).2 (fun h hp => (numm_fltCmp.F2_ok k_0 f_1 a_2 0 R w h hp)) (fun h hp => (numm_fltCmp.F2_ok k_0 f_1 a_2 b_3 R w h hp)))⟩)
def numm_fltCmp.F (k_0 : Int) (f_1 : Int) (a_2 : Int) (b_3 : Int) : Int :=
  (cond (numm_isNaN.F f_1 a_2)
  ((numm_flag.F (k_0 == (1 : Int))))
  (cond (numm_isNaN.F f_1 b_3)
  ((numm_flag.F (k_0 == (1 : Int))))
  (cond (numm_isZero.F f_1 a_2)
  (numm_fltCmp.F1 k_0 f_1 0 b_3)
  (numm_fltCmp.F1 k_0 f_1 a_2 b_3))))
def numm_fltCmp.Pre (k_0 : Int) (f_1 : Int) (a_2 : Int) (b_3 : Int) : Prop :=
  ((numm_isNaN.Pre f_1 a_2) ∧ (cond (numm_isNaN.F f_1 a_2)
  True
  ((numm_isNaN.Pre f_1 b_3) ∧ (cond (numm_isNaN.F f_1 b_3)
  True
  ((numm_isZero.Pre f_1 a_2) ∧ (cond (numm_isZero.F f_1 a_2)
  (numm_fltCmp.Pre1 k_0 f_1 0 b_3)
  (numm_fltCmp.Pre1 k_0 f_1 a_2 b_3)))))))
theorem numm_fltCmp.F_ok (k_0 : Int) (f_1 : Int) (a_2 : Int) (b_3 : Int) (R : Value → World → Prop) (w : World) (h : numm_fltCmp.S R w (numm_fltCmp.F k_0 f_1 a_2 b_3)) (hp : numm_fltCmp.Pre k_0 f_1 a_2 b_3) : numm_fltCmp.V k_0 f_1 a_2 b_3 R w :=
  (Runs.pure_bind (numm_isNaN.pure f_1 a_2 w (hp).1) ⟨(numm_isNaN.F f_1 a_2), rfl, (cond_mapP (S := numm_fltCmp.S R w) h (hp).2 (fun h hp => (Runs.pure_bind (numm_flag.pure (k_0 == (1 : Int)) w) ⟨(numm_flag.F (k_0 == (1 : Int))), rfl, h⟩)) (fun h hp => (Runs.pure_bind (numm_isNaN.pure f_1 b_3 w (hp).1) ⟨(numm_isNaN.F f_1 b_3), rfl, (cond_mapP (S := numm_fltCmp.S R w) h (hp).2 (fun h hp => (Runs.pure_bind (numm_flag.pure (k_0 == (1 : Int)) w) ⟨(numm_flag.F (k_0 == (1 : Int))), rfl, h⟩)) (fun h hp => (Runs.pure_bind (numm_isZero.pure f_1 a_2 w (hp).1) ⟨(numm_isZero.F f_1 a_2), rfl, (cond_mapP (S := numm_fltCmp.S R w) h (hp).2 (fun h hp => (numm_fltCmp.F1_ok k_0 f_1 0 b_3 R w h hp)) (fun h hp => (numm_fltCmp.F1_ok k_0 f_1 a_2 b_3 R w h hp)))⟩)))⟩)))⟩)
theorem numm_fltCmp.pure (k_0 : Int) (f_1 : Int) (a_2 : Int) (b_3 : Int) (w : World) (hp : numm_fltCmp.Pre k_0 f_1 a_2 b_3) : Runs Try.prog numm_fltCmp.id #[(.int .i64 k_0), (.int .i64 f_1), (.int .u64 a_2), (.int .u64 b_3)] w fun v w' => v = (.int .u64 (numm_fltCmp.F k_0 f_1 a_2 b_3)) ∧ w' = w :=
  numm_fltCmp.enter k_0 f_1 a_2 b_3 _ w (numm_fltCmp.F_ok k_0 f_1 a_2 b_3 _ w ⟨rfl, rfl⟩ hp)

/-! e2e/num.relF32: it only computes -/
def num_relF32.S (R : Value → World → Prop) (w : World) (r : Bool) : Prop := R (.bool r) w
def num_relF32.F (op_0 : Int) (x_1 : Nat) (y_2 : Nat) : Bool :=
  (cond (op_0 == (91 : Int))
  (((Ieee.Format.order (FloatKind.format .f32) x_1 y_2) == some .eq))
  (cond (op_0 == (92 : Int))
  (((Ieee.Format.order (FloatKind.format .f32) x_1 y_2) != some .eq))
  (cond (op_0 == (93 : Int))
  (((Ieee.Format.order (FloatKind.format .f32) x_1 y_2) == some .lt))
  (cond (op_0 == (94 : Int))
  (((Ieee.Format.order (FloatKind.format .f32) x_1 y_2) == some .gt))
  (cond (op_0 == (95 : Int))
  (((Ieee.Format.order (FloatKind.format .f32) x_1 y_2) == some .lt || (Ieee.Format.order (FloatKind.format .f32) x_1 y_2) == some .eq))
  (((Ieee.Format.order (FloatKind.format .f32) x_1 y_2) == some .gt || (Ieee.Format.order (FloatKind.format .f32) x_1 y_2) == some .eq)))))))
theorem num_relF32.F_ok (op_0 : Int) (x_1 : Nat) (y_2 : Nat) (R : Value → World → Prop) (w : World) (h : num_relF32.S R w (num_relF32.F op_0 x_1 y_2)) : num_relF32.V op_0 x_1 y_2 R w :=
  (cond_mapT (S := num_relF32.S R w) h (fun h => h) (fun h => (cond_mapT (S := num_relF32.S R w) h (fun h => h) (fun h => (cond_mapT (S := num_relF32.S R w) h (fun h => h) (fun h => (cond_mapT (S := num_relF32.S R w) h (fun h => h) (fun h => (cond_mapT (S := num_relF32.S R w) h (fun h => h) (fun h => h))))))))))
theorem num_relF32.pure (op_0 : Int) (x_1 : Nat) (y_2 : Nat) (w : World) : Runs Try.prog num_relF32.id #[(.int .i64 op_0), (.float .f32 x_1), (.float .f32 y_2)] w fun v w' => v = (.bool (num_relF32.F op_0 x_1 y_2)) ∧ w' = w :=
  num_relF32.enter op_0 x_1 y_2 _ w (num_relF32.F_ok op_0 x_1 y_2 _ w ⟨rfl, rfl⟩)

/-! e2e/num.relF64: it only computes -/
def num_relF64.S (R : Value → World → Prop) (w : World) (r : Bool) : Prop := R (.bool r) w
def num_relF64.F (op_0 : Int) (x_1 : Nat) (y_2 : Nat) : Bool :=
  (cond (op_0 == (97 : Int))
  (((Ieee.Format.order (FloatKind.format .f64) x_1 y_2) == some .eq))
  (cond (op_0 == (98 : Int))
  (((Ieee.Format.order (FloatKind.format .f64) x_1 y_2) != some .eq))
  (cond (op_0 == (99 : Int))
  (((Ieee.Format.order (FloatKind.format .f64) x_1 y_2) == some .lt))
  (cond (op_0 == (100 : Int))
  (((Ieee.Format.order (FloatKind.format .f64) x_1 y_2) == some .gt))
  (cond (op_0 == (101 : Int))
  (((Ieee.Format.order (FloatKind.format .f64) x_1 y_2) == some .lt || (Ieee.Format.order (FloatKind.format .f64) x_1 y_2) == some .eq))
  (((Ieee.Format.order (FloatKind.format .f64) x_1 y_2) == some .gt || (Ieee.Format.order (FloatKind.format .f64) x_1 y_2) == some .eq)))))))
theorem num_relF64.F_ok (op_0 : Int) (x_1 : Nat) (y_2 : Nat) (R : Value → World → Prop) (w : World) (h : num_relF64.S R w (num_relF64.F op_0 x_1 y_2)) : num_relF64.V op_0 x_1 y_2 R w :=
  (cond_mapT (S := num_relF64.S R w) h (fun h => h) (fun h => (cond_mapT (S := num_relF64.S R w) h (fun h => h) (fun h => (cond_mapT (S := num_relF64.S R w) h (fun h => h) (fun h => (cond_mapT (S := num_relF64.S R w) h (fun h => h) (fun h => (cond_mapT (S := num_relF64.S R w) h (fun h => h) (fun h => h))))))))))
theorem num_relF64.pure (op_0 : Int) (x_1 : Nat) (y_2 : Nat) (w : World) : Runs Try.prog num_relF64.id #[(.int .i64 op_0), (.float .f64 x_1), (.float .f64 y_2)] w fun v w' => v = (.bool (num_relF64.F op_0 x_1 y_2)) ∧ w' = w :=
  num_relF64.enter op_0 x_1 y_2 _ w (num_relF64.F_ok op_0 x_1 y_2 _ w ⟨rfl, rfl⟩)

/-! e2e/num.clz32: it only computes -/
def num_clz32.S (R : Value → World → Prop) (w : World) (r : Int) : Prop := R (.int .u32 r) w
def num_clz32.F5 (n_3 : Int) : Int :=
  (n_3)
theorem num_clz32.F5_ok (n_3 : Int) (R : Value → World → Prop) (w : World) (h : num_clz32.S R w (num_clz32.F5 n_3)) : num_clz32.L5 n_3 R w :=
  num_clz32.step5 n_3 R w h
def num_clz32.F4 (x_0 : Int) (n_3 : Int) : Int :=
  (cond ((Int.fdiv x_0 (2 ^ (31 : Nat))) == (0 : Int))
  (num_clz32.F5 (IntKind.wrap .u32 (n_3 + (1 : Int))))
  (num_clz32.F5 n_3))
theorem num_clz32.F4_ok (x_0 : Int) (n_3 : Int) (R : Value → World → Prop) (w : World) (h : num_clz32.S R w (num_clz32.F4 x_0 n_3)) : num_clz32.L4 x_0 n_3 R w :=
  num_clz32.step4 x_0 n_3 R w (cond_mapT (S := num_clz32.S R w) h (fun h => (num_clz32.F5_ok (IntKind.wrap .u32 (n_3 + (1 : Int))) R w h)) (fun h => (num_clz32.F5_ok n_3 R w h)))
def num_clz32.F3 (x_0 : Int) (n_3 : Int) : Int :=
  (cond ((Int.fdiv x_0 (2 ^ (30 : Nat))) == (0 : Int))
  (num_clz32.F4 (IntKind.wrap .u32 (x_0 * 2 ^ (2 : Nat))) (IntKind.wrap .u32 (n_3 + (2 : Int))))
  (num_clz32.F4 x_0 n_3))
theorem num_clz32.F3_ok (x_0 : Int) (n_3 : Int) (R : Value → World → Prop) (w : World) (h : num_clz32.S R w (num_clz32.F3 x_0 n_3)) : num_clz32.L3 x_0 n_3 R w :=
  num_clz32.step3 x_0 n_3 R w (cond_mapT (S := num_clz32.S R w) h (fun h => (num_clz32.F4_ok (IntKind.wrap .u32 (x_0 * 2 ^ (2 : Nat))) (IntKind.wrap .u32 (n_3 + (2 : Int))) R w h)) (fun h => (num_clz32.F4_ok x_0 n_3 R w h)))
def num_clz32.F2 (x_0 : Int) (n_3 : Int) : Int :=
  (cond ((Int.fdiv x_0 (2 ^ (28 : Nat))) == (0 : Int))
  (num_clz32.F3 (IntKind.wrap .u32 (x_0 * 2 ^ (4 : Nat))) (IntKind.wrap .u32 (n_3 + (4 : Int))))
  (num_clz32.F3 x_0 n_3))
theorem num_clz32.F2_ok (x_0 : Int) (n_3 : Int) (R : Value → World → Prop) (w : World) (h : num_clz32.S R w (num_clz32.F2 x_0 n_3)) : num_clz32.L2 x_0 n_3 R w :=
  num_clz32.step2 x_0 n_3 R w (cond_mapT (S := num_clz32.S R w) h (fun h => (num_clz32.F3_ok (IntKind.wrap .u32 (x_0 * 2 ^ (4 : Nat))) (IntKind.wrap .u32 (n_3 + (4 : Int))) R w h)) (fun h => (num_clz32.F3_ok x_0 n_3 R w h)))
def num_clz32.F1 (x_0 : Int) (n_3 : Int) : Int :=
  (cond ((Int.fdiv x_0 (2 ^ (24 : Nat))) == (0 : Int))
  (num_clz32.F2 (IntKind.wrap .u32 (x_0 * 2 ^ (8 : Nat))) (IntKind.wrap .u32 (n_3 + (8 : Int))))
  (num_clz32.F2 x_0 n_3))
theorem num_clz32.F1_ok (x_0 : Int) (n_3 : Int) (R : Value → World → Prop) (w : World) (h : num_clz32.S R w (num_clz32.F1 x_0 n_3)) : num_clz32.L1 x_0 n_3 R w :=
  num_clz32.step1 x_0 n_3 R w (cond_mapT (S := num_clz32.S R w) h (fun h => (num_clz32.F2_ok (IntKind.wrap .u32 (x_0 * 2 ^ (8 : Nat))) (IntKind.wrap .u32 (n_3 + (8 : Int))) R w h)) (fun h => (num_clz32.F2_ok x_0 n_3 R w h)))
def num_clz32.F (x_0 : Int) : Int :=
  (cond (x_0 == (0 : Int))
  (32)
  (cond ((Int.fdiv x_0 (2 ^ (16 : Nat))) == (0 : Int))
  (num_clz32.F1 (IntKind.wrap .u32 (x_0 * 2 ^ (16 : Nat))) (IntKind.wrap .u32 ((0 : Int) + (16 : Int))))
  (num_clz32.F1 x_0 0)))
theorem num_clz32.F_ok (x_0 : Int) (R : Value → World → Prop) (w : World) (h : num_clz32.S R w (num_clz32.F x_0)) : num_clz32.V x_0 R w :=
  (cond_mapT (S := num_clz32.S R w) h (fun h => h) (fun h => (cond_mapT (S := num_clz32.S R w) h (fun h => (num_clz32.F1_ok (IntKind.wrap .u32 (x_0 * 2 ^ (16 : Nat))) (IntKind.wrap .u32 ((0 : Int) + (16 : Int))) R w h)) (fun h => (num_clz32.F1_ok x_0 0 R w h)))))
theorem num_clz32.pure (x_0 : Int) (w : World) : Runs Try.prog num_clz32.id #[(.int .u32 x_0)] w fun v w' => v = (.int .u32 (num_clz32.F x_0)) ∧ w' = w :=
  num_clz32.enter x_0 _ w (num_clz32.F_ok x_0 _ w ⟨rfl, rfl⟩)

/-! e2e/num.pop32: it only computes -/
def num_pop32.S (R : Value → World → Prop) (w : World) (r : Int) : Prop := R (.int .u32 r) w
def num_pop32.F4 (x_0 : Int) : Int :=
  ((Int.fdiv (IntKind.wrap .u32 (x_0 * (16843009 : Int))) (2 ^ (24 : Nat))))
theorem num_pop32.F4_ok (x_0 : Int) (R : Value → World → Prop) (w : World) (h : num_pop32.S R w (num_pop32.F4 x_0)) : num_pop32.L4 x_0 R w :=
  num_pop32.step4 x_0 R w h
def num_pop32.F3 (x_0 : Int) : Int :=
  (num_pop32.F4 (bAnd .u32 (IntKind.wrap .u32 (x_0 + (Int.fdiv x_0 (2 ^ (4 : Nat))))) 252645135))
theorem num_pop32.F3_ok (x_0 : Int) (R : Value → World → Prop) (w : World) (h : num_pop32.S R w (num_pop32.F3 x_0)) : num_pop32.L3 x_0 R w :=
  num_pop32.step3 x_0 R w (num_pop32.F4_ok (bAnd .u32 (IntKind.wrap .u32 (x_0 + (Int.fdiv x_0 (2 ^ (4 : Nat))))) 252645135) R w h)
def num_pop32.F2 (x_0 : Int) : Int :=
  (num_pop32.F3 (IntKind.wrap .u32 ((bAnd .u32 x_0 858993459) + (bAnd .u32 (Int.fdiv x_0 (2 ^ (2 : Nat))) 858993459))))
theorem num_pop32.F2_ok (x_0 : Int) (R : Value → World → Prop) (w : World) (h : num_pop32.S R w (num_pop32.F2 x_0)) : num_pop32.L2 x_0 R w :=
  num_pop32.step2 x_0 R w (num_pop32.F3_ok (IntKind.wrap .u32 ((bAnd .u32 x_0 858993459) + (bAnd .u32 (Int.fdiv x_0 (2 ^ (2 : Nat))) 858993459))) R w h)
def num_pop32.F1 (x_0 : Int) : Int :=
  (num_pop32.F2 (IntKind.wrap .u32 (x_0 - (bAnd .u32 (Int.fdiv x_0 (2 ^ (1 : Nat))) 1431655765))))
theorem num_pop32.F1_ok (x_0 : Int) (R : Value → World → Prop) (w : World) (h : num_pop32.S R w (num_pop32.F1 x_0)) : num_pop32.L1 x_0 R w :=
  num_pop32.step1 x_0 R w (num_pop32.F2_ok (IntKind.wrap .u32 (x_0 - (bAnd .u32 (Int.fdiv x_0 (2 ^ (1 : Nat))) 1431655765))) R w h)
def num_pop32.F (x_0 : Int) : Int :=
  (num_pop32.F1 x_0)
theorem num_pop32.F_ok (x_0 : Int) (R : Value → World → Prop) (w : World) (h : num_pop32.S R w (num_pop32.F x_0)) : num_pop32.V x_0 R w :=
  (num_pop32.F1_ok x_0 R w h)
theorem num_pop32.pure (x_0 : Int) (w : World) : Runs Try.prog num_pop32.id #[(.int .u32 x_0)] w fun v w' => v = (.int .u32 (num_pop32.F x_0)) ∧ w' = w :=
  num_pop32.enter x_0 _ w (num_pop32.F_ok x_0 _ w ⟨rfl, rfl⟩)

/-! e2e/num.int32s: it only computes -/
def num_int32s.S (R : Value → World → Prop) (w : World) (r : Int × Int) : Prop := R (.tuple #[(.int .u32 (r).1), (.int .i64 (r).2)]) w
def num_int32s.F4 (x_1 : Int) (y_2 : Int) (t_53 : Bool) : Int × Int :=
  (cond t_53
  (0, 40)
  ((IntKind.wrap .u32 (IntKind.wrap .i32 (Int.tdiv (IntKind.wrap .i32 x_1) (IntKind.wrap .i32 y_2)))), 0))
def num_int32s.Pre4 (x_1 : Int) (y_2 : Int) (t_53 : Bool) : Prop :=
  (cond t_53
  True
  ((IntKind.i32 = IntKind.i32) ∧ (IntKind.wrap .i32 y_2) ≠ 0 ∧ True))
theorem num_int32s.F4_ok (x_1 : Int) (y_2 : Int) (t_53 : Bool) (R : Value → World → Prop) (w : World) (h : num_int32s.S R w (num_int32s.F4 x_1 y_2 t_53)) (hp : num_int32s.Pre4 x_1 y_2 t_53) : num_int32s.L4 x_1 y_2 t_53 R w :=
  num_int32s.step4 x_1 y_2 t_53 R w (cond_mapP (S := num_int32s.S R w) h hp (fun h hp => h) (fun h hp => ⟨(hp).1, ((hp).2).1, h⟩))
def num_int32s.F3 (op_0 : Int) (x_1 : Int) (y_2 : Int) (c_8 : Int) : Int × Int :=
  (cond (op_0 == (103 : Int))
  ((num_clz32.F x_1), 0)
  (cond (op_0 == (104 : Int))
  ((num_pop32.F (bAnd .u32 (bXor .u32 (IntKind.max .u32) x_1) (IntKind.wrap .u32 (x_1 - (1 : Int))))), 0)
  (cond (op_0 == (105 : Int))
  ((num_pop32.F x_1), 0)
  (cond (op_0 == (106 : Int))
  ((IntKind.wrap .u32 (x_1 + y_2)), 0)
  (cond (op_0 == (107 : Int))
  ((IntKind.wrap .u32 (x_1 - y_2)), 0)
  (cond (op_0 == (108 : Int))
  ((IntKind.wrap .u32 (x_1 * y_2)), 0)
  (cond (op_0 == (109 : Int))
  (cond (y_2 == (0 : Int))
  (0, 39)
  (cond (x_1 == (2147483648 : Int))
  (num_int32s.F4 x_1 y_2 (y_2 == (4294967295 : Int)))
  (num_int32s.F4 x_1 y_2 false)))
  (cond (op_0 == (110 : Int))
  (cond (y_2 == (0 : Int))
  (0, 39)
  ((IntKind.wrap .u32 (Int.tdiv x_1 y_2)), 0))
  (cond (op_0 == (111 : Int))
  (cond (y_2 == (0 : Int))
  (0, 39)
  ((IntKind.wrap .u32 (Int.tmod (IntKind.wrap .i32 x_1) (IntKind.wrap .i32 y_2))), 0))
  (cond (op_0 == (112 : Int))
  (cond (y_2 == (0 : Int))
  (0, 39)
  ((Int.tmod x_1 y_2), 0))
  (cond (op_0 == (113 : Int))
  ((bAnd .u32 x_1 y_2), 0)
  (cond (op_0 == (114 : Int))
  ((bOr .u32 x_1 y_2), 0)
  (cond (op_0 == (115 : Int))
  ((bXor .u32 x_1 y_2), 0)
  (cond (op_0 == (116 : Int))
  ((IntKind.wrap .u32 (x_1 * 2 ^ (min (Int.toNat c_8) (IntKind.bits .u32)))), 0)
  (cond (op_0 == (117 : Int))
  ((IntKind.wrap .u32 (Int.fdiv (IntKind.wrap .i32 x_1) (2 ^ (min (Int.toNat c_8) (IntKind.bits .i32))))), 0)
  (cond (op_0 == (118 : Int))
  ((Int.fdiv x_1 (2 ^ (min (Int.toNat c_8) (IntKind.bits .u32)))), 0)
  (cond (op_0 == (119 : Int))
  ((bOr .u32 (IntKind.wrap .u32 (x_1 * 2 ^ (min (Int.toNat c_8) (IntKind.bits .u32)))) (Int.fdiv x_1 (2 ^ (min (Int.toNat (bAnd .u32 (IntKind.wrap .u32 ((bXor .u32 (IntKind.max .u32) c_8) + (1 : Int))) 31)) (IntKind.bits .u32))))), 0)
  ((bOr .u32 (Int.fdiv x_1 (2 ^ (min (Int.toNat c_8) (IntKind.bits .u32)))) (IntKind.wrap .u32 (x_1 * 2 ^ (min (Int.toNat (bAnd .u32 (IntKind.wrap .u32 ((bXor .u32 (IntKind.max .u32) c_8) + (1 : Int))) 31)) (IntKind.bits .u32))))), 0))))))))))))))))))
def num_int32s.Pre3 (op_0 : Int) (x_1 : Int) (y_2 : Int) (c_8 : Int) : Prop :=
  (cond (op_0 == (103 : Int))
  True
  (cond (op_0 == (104 : Int))
  True
  (cond (op_0 == (105 : Int))
  True
  (cond (op_0 == (106 : Int))
  True
  (cond (op_0 == (107 : Int))
  True
  (cond (op_0 == (108 : Int))
  True
  (cond (op_0 == (109 : Int))
  (cond (y_2 == (0 : Int))
  True
  (cond (x_1 == (2147483648 : Int))
  (num_int32s.Pre4 x_1 y_2 (y_2 == (4294967295 : Int)))
  (num_int32s.Pre4 x_1 y_2 false)))
  (cond (op_0 == (110 : Int))
  (cond (y_2 == (0 : Int))
  True
  ((IntKind.u32 = IntKind.u32) ∧ y_2 ≠ 0 ∧ True))
  (cond (op_0 == (111 : Int))
  (cond (y_2 == (0 : Int))
  True
  ((IntKind.i32 = IntKind.i32) ∧ (IntKind.wrap .i32 y_2) ≠ 0 ∧ True))
  (cond (op_0 == (112 : Int))
  (cond (y_2 == (0 : Int))
  True
  ((IntKind.u32 = IntKind.u32) ∧ y_2 ≠ 0 ∧ True))
  (cond (op_0 == (113 : Int))
  True
  (cond (op_0 == (114 : Int))
  True
  (cond (op_0 == (115 : Int))
  True
  (cond (op_0 == (116 : Int))
  (0 ≤ c_8 ∧ True)
  (cond (op_0 == (117 : Int))
  (0 ≤ c_8 ∧ True)
  (cond (op_0 == (118 : Int))
  (0 ≤ c_8 ∧ True)
  (cond (op_0 == (119 : Int))
  (0 ≤ c_8 ∧ (0 ≤ (bAnd .u32 (IntKind.wrap .u32 ((bXor .u32 (IntKind.max .u32) c_8) + (1 : Int))) 31) ∧ True))
  (0 ≤ c_8 ∧ (0 ≤ (bAnd .u32 (IntKind.wrap .u32 ((bXor .u32 (IntKind.max .u32) c_8) + (1 : Int))) 31) ∧ True)))))))))))))))))))
theorem num_int32s.F3_ok (op_0 : Int) (x_1 : Int) (y_2 : Int) (c_8 : Int) (R : Value → World → Prop) (w : World) (h : num_int32s.S R w (num_int32s.F3 op_0 x_1 y_2 c_8)) (hp : num_int32s.Pre3 op_0 x_1 y_2 c_8) : num_int32s.L3 op_0 x_1 y_2 c_8 R w :=
  num_int32s.step3 op_0 x_1 y_2 c_8 R w (cond_mapP (S := num_int32s.S R w) h hp (fun h hp => (Runs.pure_bind (num_clz32.pure x_1 w) ⟨(num_clz32.F x_1), rfl, h⟩)) (fun h hp => (cond_mapP (S := num_int32s.S R w) h hp (fun h hp => (Runs.pure_bind (num_pop32.pure (bAnd .u32 (bXor .u32 (IntKind.max .u32) x_1) (IntKind.wrap .u32 (x_1 - (1 : Int)))) w) ⟨(num_pop32.F (bAnd .u32 (bXor .u32 (IntKind.max .u32) x_1) (IntKind.wrap .u32 (x_1 - (1 : Int))))), rfl, h⟩)) (fun h hp => (cond_mapP (S := num_int32s.S R w) h hp (fun h hp => (Runs.pure_bind (num_pop32.pure x_1 w) ⟨(num_pop32.F x_1), rfl, h⟩)) (fun h hp => (cond_mapP (S := num_int32s.S R w) h hp (fun h hp => h) (fun h hp => (cond_mapP (S := num_int32s.S R w) h hp (fun h hp => h) (fun h hp => (cond_mapP (S := num_int32s.S R w) h hp (fun h hp => h) (fun h hp => (cond_mapP (S := num_int32s.S R w) h hp (fun h hp => (cond_mapP (S := num_int32s.S R w) h hp (fun h hp => h) (fun h hp => (cond_mapP (S := num_int32s.S R w) h hp (fun h hp => (num_int32s.F4_ok x_1 y_2 (y_2 == (4294967295 : Int)) R w h hp)) (fun h hp => (num_int32s.F4_ok x_1 y_2 false R w h hp)))))) (fun h hp => (cond_mapP (S := num_int32s.S R w) h hp (fun h hp => (cond_mapP (S := num_int32s.S R w) h hp (fun h hp => h) (fun h hp => ⟨(hp).1, ((hp).2).1, h⟩))) (fun h hp => (cond_mapP (S := num_int32s.S R w) h hp (fun h hp => (cond_mapP (S := num_int32s.S R w) h hp (fun h hp => h) (fun h hp => ⟨(hp).1, ((hp).2).1, h⟩))) (fun h hp => (cond_mapP (S := num_int32s.S R w) h hp (fun h hp => (cond_mapP (S := num_int32s.S R w) h hp (fun h hp => h) (fun h hp => ⟨(hp).1, ((hp).2).1, h⟩))) (fun h hp => (cond_mapP (S := num_int32s.S R w) h hp (fun h hp => h) (fun h hp => (cond_mapP (S := num_int32s.S R w) h hp (fun h hp => h) (fun h hp => (cond_mapP (S := num_int32s.S R w) h hp (fun h hp => h) (fun h hp => (cond_mapP (S := num_int32s.S R w) h hp (fun h hp => ⟨(hp).1, h⟩) (fun h hp => (cond_mapP (S := num_int32s.S R w) h hp (fun h hp => ⟨(hp).1, h⟩) (fun h hp => (cond_mapP (S := num_int32s.S R w) h hp (fun h hp => ⟨(hp).1, h⟩) (fun h hp => (cond_mapP (S := num_int32s.S R w) h hp (fun h hp => ⟨(hp).1, ⟨((hp).2).1, h⟩⟩) (fun h hp => ⟨(hp).1, ⟨((hp).2).1, h⟩⟩))))))))))))))))))))))))))))))))))
def num_int32s.F2 (op_0 : Int) (x_1 : Int) (y_2 : Int) (c_8 : Int) : Int × Int :=
  (num_int32s.F3 op_0 x_1 y_2 (Int.tmod c_8 32))
def num_int32s.Pre2 (op_0 : Int) (x_1 : Int) (y_2 : Int) (c_8 : Int) : Prop :=
  (num_int32s.Pre3 op_0 x_1 y_2 (Int.tmod c_8 32))
theorem num_int32s.F2_ok (op_0 : Int) (x_1 : Int) (y_2 : Int) (c_8 : Int) (R : Value → World → Prop) (w : World) (h : num_int32s.S R w (num_int32s.F2 op_0 x_1 y_2 c_8)) (hp : num_int32s.Pre2 op_0 x_1 y_2 c_8) : num_int32s.L2 op_0 x_1 y_2 c_8 R w :=
  num_int32s.step2 op_0 x_1 y_2 c_8 R w (num_int32s.F3_ok op_0 x_1 y_2 (Int.tmod c_8 32) R w h hp)
def num_int32s.F1 (op_0 : Int) (x_1 : Int) (y_2 : Int) : Int × Int :=
  (num_int32s.F2 op_0 x_1 y_2 y_2)
def num_int32s.Pre1 (op_0 : Int) (x_1 : Int) (y_2 : Int) : Prop :=
  (num_int32s.Pre2 op_0 x_1 y_2 y_2)
theorem num_int32s.F1_ok (op_0 : Int) (x_1 : Int) (y_2 : Int) (R : Value → World → Prop) (w : World) (h : num_int32s.S R w (num_int32s.F1 op_0 x_1 y_2)) (hp : num_int32s.Pre1 op_0 x_1 y_2) : num_int32s.L1 op_0 x_1 y_2 R w :=
  num_int32s.step1 op_0 x_1 y_2 R w (num_int32s.F2_ok op_0 x_1 y_2 y_2 R w h hp)
def num_int32s.F (op_0 : Int) (x_1 : Int) (y_2 : Int) : Int × Int :=
  (num_int32s.F1 op_0 x_1 y_2)
def num_int32s.Pre (op_0 : Int) (x_1 : Int) (y_2 : Int) : Prop :=
  (num_int32s.Pre1 op_0 x_1 y_2)
theorem num_int32s.F_ok (op_0 : Int) (x_1 : Int) (y_2 : Int) (R : Value → World → Prop) (w : World) (h : num_int32s.S R w (num_int32s.F op_0 x_1 y_2)) (hp : num_int32s.Pre op_0 x_1 y_2) : num_int32s.V op_0 x_1 y_2 R w :=
  (num_int32s.F1_ok op_0 x_1 y_2 R w h hp)
theorem num_int32s.pure (op_0 : Int) (x_1 : Int) (y_2 : Int) (w : World) (hp : num_int32s.Pre op_0 x_1 y_2) : Runs Try.prog num_int32s.id #[(.int .i64 op_0), (.int .u32 x_1), (.int .u32 y_2)] w fun v w' => v = (.tuple #[(.int .u32 ((num_int32s.F op_0 x_1 y_2)).1), (.int .i64 ((num_int32s.F op_0 x_1 y_2)).2)]) ∧ w' = w :=
  num_int32s.enter op_0 x_1 y_2 _ w (num_int32s.F_ok op_0 x_1 y_2 _ w ⟨rfl, rfl⟩ hp)

/-! e2e/num.clz64: it only computes -/
def num_clz64.S (R : Value → World → Prop) (w : World) (r : Int) : Prop := R (.int .u64 r) w
def num_clz64.F (x_0 : Int) : Int :=
  (cond ((Int.fdiv x_0 (2 ^ (32 : Nat))) != (0 : Int))
  ((IntKind.wrap .u64 (num_clz32.F (IntKind.wrap .u32 (Int.fdiv x_0 (2 ^ (32 : Nat)))))))
  ((IntKind.wrap .u64 ((32 : Int) + (IntKind.wrap .u64 (num_clz32.F (IntKind.wrap .u32 x_0)))))))
theorem num_clz64.F_ok (x_0 : Int) (R : Value → World → Prop) (w : World) (h : num_clz64.S R w (num_clz64.F x_0)) : num_clz64.V x_0 R w :=
  (cond_mapT (S := num_clz64.S R w) h (fun h => (Runs.pure_bind (num_clz32.pure (IntKind.wrap .u32 (Int.fdiv x_0 (2 ^ (32 : Nat)))) w) ⟨(num_clz32.F (IntKind.wrap .u32 (Int.fdiv x_0 (2 ^ (32 : Nat))))), rfl, h⟩)) (fun h => (Runs.pure_bind (num_clz32.pure (IntKind.wrap .u32 x_0) w) ⟨(num_clz32.F (IntKind.wrap .u32 x_0)), rfl, h⟩)))
theorem num_clz64.pure (x_0 : Int) (w : World) : Runs Try.prog num_clz64.id #[(.int .u64 x_0)] w fun v w' => v = (.int .u64 (num_clz64.F x_0)) ∧ w' = w :=
  num_clz64.enter x_0 _ w (num_clz64.F_ok x_0 _ w ⟨rfl, rfl⟩)

/-! e2e/num.pop64: it only computes -/
def num_pop64.S (R : Value → World → Prop) (w : World) (r : Int) : Prop := R (.int .u64 r) w
def num_pop64.F4 (x_0 : Int) : Int :=
  ((Int.fdiv (IntKind.wrap .u64 (x_0 * (72340172838076673 : Int))) (2 ^ (56 : Nat))))
theorem num_pop64.F4_ok (x_0 : Int) (R : Value → World → Prop) (w : World) (h : num_pop64.S R w (num_pop64.F4 x_0)) : num_pop64.L4 x_0 R w :=
  num_pop64.step4 x_0 R w h
def num_pop64.F3 (x_0 : Int) : Int :=
  (num_pop64.F4 (bAnd .u64 (IntKind.wrap .u64 (x_0 + (Int.fdiv x_0 (2 ^ (4 : Nat))))) 1085102592571150095))
theorem num_pop64.F3_ok (x_0 : Int) (R : Value → World → Prop) (w : World) (h : num_pop64.S R w (num_pop64.F3 x_0)) : num_pop64.L3 x_0 R w :=
  num_pop64.step3 x_0 R w (num_pop64.F4_ok (bAnd .u64 (IntKind.wrap .u64 (x_0 + (Int.fdiv x_0 (2 ^ (4 : Nat))))) 1085102592571150095) R w h)
def num_pop64.F2 (x_0 : Int) : Int :=
  (num_pop64.F3 (IntKind.wrap .u64 ((bAnd .u64 x_0 3689348814741910323) + (bAnd .u64 (Int.fdiv x_0 (2 ^ (2 : Nat))) 3689348814741910323))))
theorem num_pop64.F2_ok (x_0 : Int) (R : Value → World → Prop) (w : World) (h : num_pop64.S R w (num_pop64.F2 x_0)) : num_pop64.L2 x_0 R w :=
  num_pop64.step2 x_0 R w (num_pop64.F3_ok (IntKind.wrap .u64 ((bAnd .u64 x_0 3689348814741910323) + (bAnd .u64 (Int.fdiv x_0 (2 ^ (2 : Nat))) 3689348814741910323))) R w h)
def num_pop64.F1 (x_0 : Int) : Int :=
  (num_pop64.F2 (IntKind.wrap .u64 (x_0 - (bAnd .u64 (Int.fdiv x_0 (2 ^ (1 : Nat))) 6148914691236517205))))
theorem num_pop64.F1_ok (x_0 : Int) (R : Value → World → Prop) (w : World) (h : num_pop64.S R w (num_pop64.F1 x_0)) : num_pop64.L1 x_0 R w :=
  num_pop64.step1 x_0 R w (num_pop64.F2_ok (IntKind.wrap .u64 (x_0 - (bAnd .u64 (Int.fdiv x_0 (2 ^ (1 : Nat))) 6148914691236517205))) R w h)
def num_pop64.F (x_0 : Int) : Int :=
  (num_pop64.F1 x_0)
theorem num_pop64.F_ok (x_0 : Int) (R : Value → World → Prop) (w : World) (h : num_pop64.S R w (num_pop64.F x_0)) : num_pop64.V x_0 R w :=
  (num_pop64.F1_ok x_0 R w h)
theorem num_pop64.pure (x_0 : Int) (w : World) : Runs Try.prog num_pop64.id #[(.int .u64 x_0)] w fun v w' => v = (.int .u64 (num_pop64.F x_0)) ∧ w' = w :=
  num_pop64.enter x_0 _ w (num_pop64.F_ok x_0 _ w ⟨rfl, rfl⟩)

/-! e2e/num.int64s: it only computes -/
def num_int64s.S (R : Value → World → Prop) (w : World) (r : Int × Int) : Prop := R (.tuple #[(.int .u64 (r).1), (.int .i64 (r).2)]) w
def num_int64s.F4 (x_1 : Int) (y_2 : Int) (t_53 : Bool) : Int × Int :=
  (cond t_53
  (0, 40)
  ((IntKind.wrap .u64 (IntKind.wrap .i64 (Int.tdiv (IntKind.wrap .i64 x_1) (IntKind.wrap .i64 y_2)))), 0))
def num_int64s.Pre4 (x_1 : Int) (y_2 : Int) (t_53 : Bool) : Prop :=
  (cond t_53
  True
  ((IntKind.i64 = IntKind.i64) ∧ (IntKind.wrap .i64 y_2) ≠ 0 ∧ True))
theorem num_int64s.F4_ok (x_1 : Int) (y_2 : Int) (t_53 : Bool) (R : Value → World → Prop) (w : World) (h : num_int64s.S R w (num_int64s.F4 x_1 y_2 t_53)) (hp : num_int64s.Pre4 x_1 y_2 t_53) : num_int64s.L4 x_1 y_2 t_53 R w :=
  num_int64s.step4 x_1 y_2 t_53 R w (cond_mapP (S := num_int64s.S R w) h hp (fun h hp => h) (fun h hp => ⟨(hp).1, ((hp).2).1, h⟩))
def num_int64s.F3 (op_0 : Int) (x_1 : Int) (y_2 : Int) (c_8 : Int) : Int × Int :=
  (cond (op_0 == (121 : Int))
  ((num_clz64.F x_1), 0)
  (cond (op_0 == (122 : Int))
  ((num_pop64.F (bAnd .u64 (bXor .u64 (IntKind.max .u64) x_1) (IntKind.wrap .u64 (x_1 - (1 : Int))))), 0)
  (cond (op_0 == (123 : Int))
  ((num_pop64.F x_1), 0)
  (cond (op_0 == (124 : Int))
  ((IntKind.wrap .u64 (x_1 + y_2)), 0)
  (cond (op_0 == (125 : Int))
  ((IntKind.wrap .u64 (x_1 - y_2)), 0)
  (cond (op_0 == (126 : Int))
  ((IntKind.wrap .u64 (x_1 * y_2)), 0)
  (cond (op_0 == (127 : Int))
  (cond (y_2 == (0 : Int))
  (0, 39)
  (cond (x_1 == (9223372036854775808 : Int))
  (num_int64s.F4 x_1 y_2 (y_2 == (18446744073709551615 : Int)))
  (num_int64s.F4 x_1 y_2 false)))
  (cond (op_0 == (128 : Int))
  (cond (y_2 == (0 : Int))
  (0, 39)
  ((IntKind.wrap .u64 (Int.tdiv x_1 y_2)), 0))
  (cond (op_0 == (129 : Int))
  (cond (y_2 == (0 : Int))
  (0, 39)
  ((IntKind.wrap .u64 (Int.tmod (IntKind.wrap .i64 x_1) (IntKind.wrap .i64 y_2))), 0))
  (cond (op_0 == (130 : Int))
  (cond (y_2 == (0 : Int))
  (0, 39)
  ((Int.tmod x_1 y_2), 0))
  (cond (op_0 == (131 : Int))
  ((bAnd .u64 x_1 y_2), 0)
  (cond (op_0 == (132 : Int))
  ((bOr .u64 x_1 y_2), 0)
  (cond (op_0 == (133 : Int))
  ((bXor .u64 x_1 y_2), 0)
  (cond (op_0 == (134 : Int))
  ((IntKind.wrap .u64 (x_1 * 2 ^ (min (Int.toNat c_8) (IntKind.bits .u64)))), 0)
  (cond (op_0 == (135 : Int))
  ((IntKind.wrap .u64 (Int.fdiv (IntKind.wrap .i64 x_1) (2 ^ (min (Int.toNat c_8) (IntKind.bits .i64))))), 0)
  (cond (op_0 == (136 : Int))
  ((Int.fdiv x_1 (2 ^ (min (Int.toNat c_8) (IntKind.bits .u64)))), 0)
  (cond (op_0 == (137 : Int))
  ((bOr .u64 (IntKind.wrap .u64 (x_1 * 2 ^ (min (Int.toNat c_8) (IntKind.bits .u64)))) (Int.fdiv x_1 (2 ^ (min (Int.toNat (bAnd .u64 (IntKind.wrap .u64 ((bXor .u64 (IntKind.max .u64) c_8) + (1 : Int))) 63)) (IntKind.bits .u64))))), 0)
  ((bOr .u64 (Int.fdiv x_1 (2 ^ (min (Int.toNat c_8) (IntKind.bits .u64)))) (IntKind.wrap .u64 (x_1 * 2 ^ (min (Int.toNat (bAnd .u64 (IntKind.wrap .u64 ((bXor .u64 (IntKind.max .u64) c_8) + (1 : Int))) 63)) (IntKind.bits .u64))))), 0))))))))))))))))))
def num_int64s.Pre3 (op_0 : Int) (x_1 : Int) (y_2 : Int) (c_8 : Int) : Prop :=
  (cond (op_0 == (121 : Int))
  True
  (cond (op_0 == (122 : Int))
  True
  (cond (op_0 == (123 : Int))
  True
  (cond (op_0 == (124 : Int))
  True
  (cond (op_0 == (125 : Int))
  True
  (cond (op_0 == (126 : Int))
  True
  (cond (op_0 == (127 : Int))
  (cond (y_2 == (0 : Int))
  True
  (cond (x_1 == (9223372036854775808 : Int))
  (num_int64s.Pre4 x_1 y_2 (y_2 == (18446744073709551615 : Int)))
  (num_int64s.Pre4 x_1 y_2 false)))
  (cond (op_0 == (128 : Int))
  (cond (y_2 == (0 : Int))
  True
  ((IntKind.u64 = IntKind.u64) ∧ y_2 ≠ 0 ∧ True))
  (cond (op_0 == (129 : Int))
  (cond (y_2 == (0 : Int))
  True
  ((IntKind.i64 = IntKind.i64) ∧ (IntKind.wrap .i64 y_2) ≠ 0 ∧ True))
  (cond (op_0 == (130 : Int))
  (cond (y_2 == (0 : Int))
  True
  ((IntKind.u64 = IntKind.u64) ∧ y_2 ≠ 0 ∧ True))
  (cond (op_0 == (131 : Int))
  True
  (cond (op_0 == (132 : Int))
  True
  (cond (op_0 == (133 : Int))
  True
  (cond (op_0 == (134 : Int))
  (0 ≤ c_8 ∧ True)
  (cond (op_0 == (135 : Int))
  (0 ≤ c_8 ∧ True)
  (cond (op_0 == (136 : Int))
  (0 ≤ c_8 ∧ True)
  (cond (op_0 == (137 : Int))
  (0 ≤ c_8 ∧ (0 ≤ (bAnd .u64 (IntKind.wrap .u64 ((bXor .u64 (IntKind.max .u64) c_8) + (1 : Int))) 63) ∧ True))
  (0 ≤ c_8 ∧ (0 ≤ (bAnd .u64 (IntKind.wrap .u64 ((bXor .u64 (IntKind.max .u64) c_8) + (1 : Int))) 63) ∧ True)))))))))))))))))))
theorem num_int64s.F3_ok (op_0 : Int) (x_1 : Int) (y_2 : Int) (c_8 : Int) (R : Value → World → Prop) (w : World) (h : num_int64s.S R w (num_int64s.F3 op_0 x_1 y_2 c_8)) (hp : num_int64s.Pre3 op_0 x_1 y_2 c_8) : num_int64s.L3 op_0 x_1 y_2 c_8 R w :=
  num_int64s.step3 op_0 x_1 y_2 c_8 R w (cond_mapP (S := num_int64s.S R w) h hp (fun h hp => (Runs.pure_bind (num_clz64.pure x_1 w) ⟨(num_clz64.F x_1), rfl, h⟩)) (fun h hp => (cond_mapP (S := num_int64s.S R w) h hp (fun h hp => (Runs.pure_bind (num_pop64.pure (bAnd .u64 (bXor .u64 (IntKind.max .u64) x_1) (IntKind.wrap .u64 (x_1 - (1 : Int)))) w) ⟨(num_pop64.F (bAnd .u64 (bXor .u64 (IntKind.max .u64) x_1) (IntKind.wrap .u64 (x_1 - (1 : Int))))), rfl, h⟩)) (fun h hp => (cond_mapP (S := num_int64s.S R w) h hp (fun h hp => (Runs.pure_bind (num_pop64.pure x_1 w) ⟨(num_pop64.F x_1), rfl, h⟩)) (fun h hp => (cond_mapP (S := num_int64s.S R w) h hp (fun h hp => h) (fun h hp => (cond_mapP (S := num_int64s.S R w) h hp (fun h hp => h) (fun h hp => (cond_mapP (S := num_int64s.S R w) h hp (fun h hp => h) (fun h hp => (cond_mapP (S := num_int64s.S R w) h hp (fun h hp => (cond_mapP (S := num_int64s.S R w) h hp (fun h hp => h) (fun h hp => (cond_mapP (S := num_int64s.S R w) h hp (fun h hp => (num_int64s.F4_ok x_1 y_2 (y_2 == (18446744073709551615 : Int)) R w h hp)) (fun h hp => (num_int64s.F4_ok x_1 y_2 false R w h hp)))))) (fun h hp => (cond_mapP (S := num_int64s.S R w) h hp (fun h hp => (cond_mapP (S := num_int64s.S R w) h hp (fun h hp => h) (fun h hp => ⟨(hp).1, ((hp).2).1, h⟩))) (fun h hp => (cond_mapP (S := num_int64s.S R w) h hp (fun h hp => (cond_mapP (S := num_int64s.S R w) h hp (fun h hp => h) (fun h hp => ⟨(hp).1, ((hp).2).1, h⟩))) (fun h hp => (cond_mapP (S := num_int64s.S R w) h hp (fun h hp => (cond_mapP (S := num_int64s.S R w) h hp (fun h hp => h) (fun h hp => ⟨(hp).1, ((hp).2).1, h⟩))) (fun h hp => (cond_mapP (S := num_int64s.S R w) h hp (fun h hp => h) (fun h hp => (cond_mapP (S := num_int64s.S R w) h hp (fun h hp => h) (fun h hp => (cond_mapP (S := num_int64s.S R w) h hp (fun h hp => h) (fun h hp => (cond_mapP (S := num_int64s.S R w) h hp (fun h hp => ⟨(hp).1, h⟩) (fun h hp => (cond_mapP (S := num_int64s.S R w) h hp (fun h hp => ⟨(hp).1, h⟩) (fun h hp => (cond_mapP (S := num_int64s.S R w) h hp (fun h hp => ⟨(hp).1, h⟩) (fun h hp => (cond_mapP (S := num_int64s.S R w) h hp (fun h hp => ⟨(hp).1, ⟨((hp).2).1, h⟩⟩) (fun h hp => ⟨(hp).1, ⟨((hp).2).1, h⟩⟩))))))))))))))))))))))))))))))))))
def num_int64s.F2 (op_0 : Int) (x_1 : Int) (y_2 : Int) (c_8 : Int) : Int × Int :=
  (num_int64s.F3 op_0 x_1 y_2 (bAnd .u64 c_8 63))
def num_int64s.Pre2 (op_0 : Int) (x_1 : Int) (y_2 : Int) (c_8 : Int) : Prop :=
  (num_int64s.Pre3 op_0 x_1 y_2 (bAnd .u64 c_8 63))
theorem num_int64s.F2_ok (op_0 : Int) (x_1 : Int) (y_2 : Int) (c_8 : Int) (R : Value → World → Prop) (w : World) (h : num_int64s.S R w (num_int64s.F2 op_0 x_1 y_2 c_8)) (hp : num_int64s.Pre2 op_0 x_1 y_2 c_8) : num_int64s.L2 op_0 x_1 y_2 c_8 R w :=
  num_int64s.step2 op_0 x_1 y_2 c_8 R w (num_int64s.F3_ok op_0 x_1 y_2 (bAnd .u64 c_8 63) R w h hp)
def num_int64s.F1 (op_0 : Int) (x_1 : Int) (y_2 : Int) : Int × Int :=
  (num_int64s.F2 op_0 x_1 y_2 y_2)
def num_int64s.Pre1 (op_0 : Int) (x_1 : Int) (y_2 : Int) : Prop :=
  (num_int64s.Pre2 op_0 x_1 y_2 y_2)
theorem num_int64s.F1_ok (op_0 : Int) (x_1 : Int) (y_2 : Int) (R : Value → World → Prop) (w : World) (h : num_int64s.S R w (num_int64s.F1 op_0 x_1 y_2)) (hp : num_int64s.Pre1 op_0 x_1 y_2) : num_int64s.L1 op_0 x_1 y_2 R w :=
  num_int64s.step1 op_0 x_1 y_2 R w (num_int64s.F2_ok op_0 x_1 y_2 y_2 R w h hp)
def num_int64s.F (op_0 : Int) (x_1 : Int) (y_2 : Int) : Int × Int :=
  (num_int64s.F1 op_0 x_1 y_2)
def num_int64s.Pre (op_0 : Int) (x_1 : Int) (y_2 : Int) : Prop :=
  (num_int64s.Pre1 op_0 x_1 y_2)
theorem num_int64s.F_ok (op_0 : Int) (x_1 : Int) (y_2 : Int) (R : Value → World → Prop) (w : World) (h : num_int64s.S R w (num_int64s.F op_0 x_1 y_2)) (hp : num_int64s.Pre op_0 x_1 y_2) : num_int64s.V op_0 x_1 y_2 R w :=
  (num_int64s.F1_ok op_0 x_1 y_2 R w h hp)
theorem num_int64s.pure (op_0 : Int) (x_1 : Int) (y_2 : Int) (w : World) (hp : num_int64s.Pre op_0 x_1 y_2) : Runs Try.prog num_int64s.id #[(.int .i64 op_0), (.int .u64 x_1), (.int .u64 y_2)] w fun v w' => v = (.tuple #[(.int .u64 ((num_int64s.F op_0 x_1 y_2)).1), (.int .i64 ((num_int64s.F op_0 x_1 y_2)).2)]) ∧ w' = w :=
  num_int64s.enter op_0 x_1 y_2 _ w (num_int64s.F_ok op_0 x_1 y_2 _ w ⟨rfl, rfl⟩ hp)

/-! e2e/numm.minus: it only computes -/
def numm_minus.S (R : Value → World → Prop) (w : World) (r : Int) : Prop := R (.int .u64 r) w
def numm_minus.F (n_0 : Int) (v_1 : Int) : Int :=
  ((bAnd .u64 (IntKind.wrap .u64 ((IntKind.wrap .u64 ((numm_mask.F n_0) - v_1)) + (1 : Int))) (numm_mask.F n_0)))
theorem numm_minus.F_ok (n_0 : Int) (v_1 : Int) (R : Value → World → Prop) (w : World) (h : numm_minus.S R w (numm_minus.F n_0 v_1)) : numm_minus.V n_0 v_1 R w :=
  (Runs.pure_bind (numm_mask.pure n_0 w) ⟨(numm_mask.F n_0), rfl, h⟩)
theorem numm_minus.pure (n_0 : Int) (v_1 : Int) (w : World) : Runs Try.prog numm_minus.id #[(.int .i64 n_0), (.int .u64 v_1)] w fun v w' => v = (.int .u64 (numm_minus.F n_0 v_1)) ∧ w' = w :=
  numm_minus.enter n_0 v_1 _ w (numm_minus.F_ok n_0 v_1 _ w ⟨rfl, rfl⟩)

/-! e2e/numm.mag: it only computes -/
def numm_mag.S (R : Value → World → Prop) (w : World) (r : Int) : Prop := R (.int .u64 r) w
def numm_mag.F (n_0 : Int) (v_1 : Int) : Int :=
  (cond (decide (v_1 ≥ (numm_top.F n_0)))
  ((numm_minus.F n_0 v_1))
  (v_1))
def numm_mag.Pre (n_0 : Int) (v_1 : Int) : Prop :=
  ((numm_top.Pre n_0) ∧ True)
theorem numm_mag.F_ok (n_0 : Int) (v_1 : Int) (R : Value → World → Prop) (w : World) (h : numm_mag.S R w (numm_mag.F n_0 v_1)) (hp : numm_mag.Pre n_0 v_1) : numm_mag.V n_0 v_1 R w :=
  (Runs.pure_bind (numm_top.pure n_0 w (hp).1) ⟨(numm_top.F n_0), rfl, (cond_mapT (S := numm_mag.S R w) h (fun h => (Runs.pure_bind (numm_minus.pure n_0 v_1 w) ⟨(numm_minus.F n_0 v_1), rfl, h⟩)) (fun h => h))⟩)
theorem numm_mag.pure (n_0 : Int) (v_1 : Int) (w : World) (hp : numm_mag.Pre n_0 v_1) : Runs Try.prog numm_mag.id #[(.int .i64 n_0), (.int .u64 v_1)] w fun v w' => v = (.int .u64 (numm_mag.F n_0 v_1)) ∧ w' = w :=
  numm_mag.enter n_0 v_1 _ w (numm_mag.F_ok n_0 v_1 _ w ⟨rfl, rfl⟩ hp)

/-! e2e/numm.divS: it only computes -/
def numm_divS.S (R : Value → World → Prop) (w : World) (r : Int × Int) : Prop := R (.tuple #[(.int .u64 (r).1), (.int .i64 (r).2)]) w
def numm_divS.F (quo_0 : Bool) (n_1 : Int) (a_2 : Int) (b_3 : Int) : Int × Int :=
  (cond (b_3 == (0 : Int))
  (0, 39)
  (cond quo_0
  (cond ((decide (a_2 ≥ (numm_top.F n_1))) == (decide (b_3 ≥ (numm_top.F n_1))))
  (cond (decide ((IntKind.wrap .u64 (Int.tdiv (numm_mag.F n_1 a_2) (numm_mag.F n_1 b_3))) ≥ (numm_top.F n_1)))
  (0, 40)
  ((IntKind.wrap .u64 (Int.tdiv (numm_mag.F n_1 a_2) (numm_mag.F n_1 b_3))), 0))
  ((numm_minus.F n_1 (IntKind.wrap .u64 (Int.tdiv (numm_mag.F n_1 a_2) (numm_mag.F n_1 b_3)))), 0))
  (cond (decide (a_2 ≥ (numm_top.F n_1)))
  ((numm_minus.F n_1 (Int.tmod (numm_mag.F n_1 a_2) (numm_mag.F n_1 b_3))), 0)
  ((Int.tmod (numm_mag.F n_1 a_2) (numm_mag.F n_1 b_3)), 0))))
def numm_divS.Pre (quo_0 : Bool) (n_1 : Int) (a_2 : Int) (b_3 : Int) : Prop :=
  (cond (b_3 == (0 : Int))
  True
  ((numm_top.Pre n_1) ∧ ((numm_mag.Pre n_1 a_2) ∧ ((numm_mag.Pre n_1 b_3) ∧ (cond quo_0
  ((IntKind.u64 = IntKind.u64) ∧ (numm_mag.F n_1 b_3) ≠ 0 ∧ True)
  ((IntKind.u64 = IntKind.u64) ∧ (numm_mag.F n_1 b_3) ≠ 0 ∧ True))))))
theorem numm_divS.F_ok (quo_0 : Bool) (n_1 : Int) (a_2 : Int) (b_3 : Int) (R : Value → World → Prop) (w : World) (h : numm_divS.S R w (numm_divS.F quo_0 n_1 a_2 b_3)) (hp : numm_divS.Pre quo_0 n_1 a_2 b_3) : numm_divS.V quo_0 n_1 a_2 b_3 R w :=
  (cond_mapP (S := numm_divS.S R w) h hp (fun h hp => h) (fun h hp => (Runs.pure_bind (numm_top.pure n_1 w (hp).1) ⟨(numm_top.F n_1), rfl, (Runs.pure_bind (numm_mag.pure n_1 a_2 w ((hp).2).1) ⟨(numm_mag.F n_1 a_2), rfl, (Runs.pure_bind (numm_mag.pure n_1 b_3 w (((hp).2).2).1) ⟨(numm_mag.F n_1 b_3), rfl, (cond_mapP (S := numm_divS.S R w) h (((hp).2).2).2 (fun h hp => ⟨(hp).1, ((hp).2).1, (cond_mapT (S := numm_divS.S R w) h (fun h => (cond_mapT (S := numm_divS.S R w) h (fun h => h) (fun h => h))) (fun h => (Runs.pure_bind (numm_minus.pure n_1 (IntKind.wrap .u64 (Int.tdiv (numm_mag.F n_1 a_2) (numm_mag.F n_1 b_3))) w) ⟨(numm_minus.F n_1 (IntKind.wrap .u64 (Int.tdiv (numm_mag.F n_1 a_2) (numm_mag.F n_1 b_3)))), rfl, h⟩)))⟩) (fun h hp => ⟨(hp).1, ((hp).2).1, (cond_mapT (S := numm_divS.S R w) h (fun h => (Runs.pure_bind (numm_minus.pure n_1 (Int.tmod (numm_mag.F n_1 a_2) (numm_mag.F n_1 b_3)) w) ⟨(numm_minus.F n_1 (Int.tmod (numm_mag.F n_1 a_2) (numm_mag.F n_1 b_3))), rfl, h⟩)) (fun h => h))⟩))⟩)⟩)⟩)))
theorem numm_divS.pure (quo_0 : Bool) (n_1 : Int) (a_2 : Int) (b_3 : Int) (w : World) (hp : numm_divS.Pre quo_0 n_1 a_2 b_3) : Runs Try.prog numm_divS.id #[(.bool quo_0), (.int .i64 n_1), (.int .u64 a_2), (.int .u64 b_3)] w fun v w' => v = (.tuple #[(.int .u64 ((numm_divS.F quo_0 n_1 a_2 b_3)).1), (.int .i64 ((numm_divS.F quo_0 n_1 a_2 b_3)).2)]) ∧ w' = w :=
  numm_divS.enter quo_0 n_1 a_2 b_3 _ w (numm_divS.F_ok quo_0 n_1 a_2 b_3 _ w ⟨rfl, rfl⟩ hp)

/-! e2e/numm.intBin: it only computes -/
def numm_intBin.S (R : Value → World → Prop) (w : World) (r : Int × Int) : Prop := R (.tuple #[(.int .u64 (r).1), (.int .i64 (r).2)]) w
def numm_intBin.F2 (r_13 : Int) : Int × Int :=
  (r_13, 0)
theorem numm_intBin.F2_ok (r_13 : Int) (R : Value → World → Prop) (w : World) (h : numm_intBin.S R w (numm_intBin.F2 r_13)) : numm_intBin.L2 r_13 R w :=
  numm_intBin.step2 r_13 R w h
def numm_intBin.F1 (k_0 : Int) (n_1 : Int) (a_2 : Int) (b_3 : Int) (m_10 : Int) (c_11 : Int) (t_20 : Int) (t_45 : Bool) : Int × Int :=
  (cond t_45
  (((numm_divS.F (k_0 == (3 : Int)) n_1 a_2 b_3)).1, ((numm_divS.F (k_0 == (3 : Int)) n_1 a_2 b_3)).2)
  (cond (t_20 == (4 : Int))
  (cond (b_3 == (0 : Int))
  (0, 39)
  ((IntKind.wrap .u64 (Int.tdiv a_2 b_3)), 0))
  (cond (t_20 == (6 : Int))
  (cond (b_3 == (0 : Int))
  (0, 39)
  ((Int.tmod a_2 b_3), 0))
  (cond (t_20 == (7 : Int))
  ((bAnd .u64 a_2 b_3), 0)
  (cond (t_20 == (8 : Int))
  ((bOr .u64 a_2 b_3), 0)
  (cond (t_20 == (9 : Int))
  ((bXor .u64 a_2 b_3), 0)
  (cond (t_20 == (10 : Int))
  ((bAnd .u64 (IntKind.wrap .u64 (a_2 * 2 ^ (min (Int.toNat c_11) (IntKind.bits .u64)))) m_10), 0)
  (cond (t_20 == (11 : Int))
  (cond (decide (a_2 ≥ (numm_top.F n_1)))
  (numm_intBin.F2 (bOr .u64 (Int.fdiv a_2 (2 ^ (min (Int.toNat c_11) (IntKind.bits .u64)))) (IntKind.wrap .u64 (m_10 - (Int.fdiv m_10 (2 ^ (min (Int.toNat c_11) (IntKind.bits .u64))))))))
  (numm_intBin.F2 (Int.fdiv a_2 (2 ^ (min (Int.toNat c_11) (IntKind.bits .u64))))))
  (cond (t_20 == (12 : Int))
  ((Int.fdiv a_2 (2 ^ (min (Int.toNat c_11) (IntKind.bits .u64)))), 0)
  (cond (t_20 == (13 : Int))
  ((bAnd .u64 (bOr .u64 (IntKind.wrap .u64 (a_2 * 2 ^ (min (Int.toNat c_11) (IntKind.bits .u64)))) (Int.fdiv a_2 (2 ^ (min (Int.toNat (IntKind.wrap .u64 ((IntKind.wrap .u64 n_1) - c_11))) (IntKind.bits .u64))))) m_10), 0)
  ((bAnd .u64 (bOr .u64 (Int.fdiv a_2 (2 ^ (min (Int.toNat c_11) (IntKind.bits .u64)))) (IntKind.wrap .u64 (a_2 * 2 ^ (min (Int.toNat (IntKind.wrap .u64 ((IntKind.wrap .u64 n_1) - c_11))) (IntKind.bits .u64))))) m_10), 0)))))))))))
def numm_intBin.Pre1 (k_0 : Int) (n_1 : Int) (a_2 : Int) (b_3 : Int) (m_10 : Int) (c_11 : Int) (t_20 : Int) (t_45 : Bool) : Prop :=
  (cond t_45
  ((numm_divS.Pre (k_0 == (3 : Int)) n_1 a_2 b_3) ∧ True)
  (cond (t_20 == (4 : Int))
  (cond (b_3 == (0 : Int))
  True
  ((IntKind.u64 = IntKind.u64) ∧ b_3 ≠ 0 ∧ True))
  (cond (t_20 == (6 : Int))
  (cond (b_3 == (0 : Int))
  True
  ((IntKind.u64 = IntKind.u64) ∧ b_3 ≠ 0 ∧ True))
  (cond (t_20 == (7 : Int))
  True
  (cond (t_20 == (8 : Int))
  True
  (cond (t_20 == (9 : Int))
  True
  (cond (t_20 == (10 : Int))
  (0 ≤ c_11 ∧ True)
  (cond (t_20 == (11 : Int))
  (0 ≤ c_11 ∧ ((numm_top.Pre n_1) ∧ (cond (decide (a_2 ≥ (numm_top.F n_1)))
  (0 ≤ c_11 ∧ True)
  True)))
  (cond (t_20 == (12 : Int))
  (0 ≤ c_11 ∧ True)
  (cond (t_20 == (13 : Int))
  (0 ≤ c_11 ∧ (0 ≤ (IntKind.wrap .u64 ((IntKind.wrap .u64 n_1) - c_11)) ∧ True))
  (0 ≤ c_11 ∧ (0 ≤ (IntKind.wrap .u64 ((IntKind.wrap .u64 n_1) - c_11)) ∧ True))))))))))))
theorem numm_intBin.F1_ok (k_0 : Int) (n_1 : Int) (a_2 : Int) (b_3 : Int) (m_10 : Int) (c_11 : Int) (t_20 : Int) (t_45 : Bool) (R : Value → World → Prop) (w : World) (h : numm_intBin.S R w (numm_intBin.F1 k_0 n_1 a_2 b_3 m_10 c_11 t_20 t_45)) (hp : numm_intBin.Pre1 k_0 n_1 a_2 b_3 m_10 c_11 t_20 t_45) : numm_intBin.L1 k_0 n_1 a_2 b_3 m_10 c_11 t_20 t_45 R w :=
  numm_intBin.step1 k_0 n_1 a_2 b_3 m_10 c_11 t_20 t_45 R w (cond_mapP (S := numm_intBin.S R w) h hp (fun h hp => (Runs.pure_bind (numm_divS.pure (k_0 == (3 : Int)) n_1 a_2 b_3 w (hp).1) ⟨((numm_divS.F (k_0 == (3 : Int)) n_1 a_2 b_3)).1, ((numm_divS.F (k_0 == (3 : Int)) n_1 a_2 b_3)).2, rfl, h⟩)) (fun h hp => (cond_mapP (S := numm_intBin.S R w) h hp (fun h hp => (cond_mapP (S := numm_intBin.S R w) h hp (fun h hp => h) (fun h hp => ⟨(hp).1, ((hp).2).1, h⟩))) (fun h hp => (cond_mapP (S := numm_intBin.S R w) h hp (fun h hp => (cond_mapP (S := numm_intBin.S R w) h hp (fun h hp => h) (fun h hp => ⟨(hp).1, ((hp).2).1, h⟩))) (fun h hp => (cond_mapP (S := numm_intBin.S R w) h hp (fun h hp => h) (fun h hp => (cond_mapP (S := numm_intBin.S R w) h hp (fun h hp => h) (fun h hp => (cond_mapP (S := numm_intBin.S R w) h hp (fun h hp => h) (fun h hp => (cond_mapP (S := numm_intBin.S R w) h hp (fun h hp => ⟨(hp).1, h⟩) (fun h hp => (cond_mapP (S := numm_intBin.S R w) h hp (fun h hp => ⟨(hp).1, (Runs.pure_bind (numm_top.pure n_1 w ((hp).2).1) ⟨(numm_top.F n_1), rfl, (cond_mapP (S := numm_intBin.S R w) h ((hp).2).2 (fun h hp => ⟨(hp).1, (numm_intBin.F2_ok (bOr .u64 (Int.fdiv a_2 (2 ^ (min (Int.toNat c_11) (IntKind.bits .u64)))) (IntKind.wrap .u64 (m_10 - (Int.fdiv m_10 (2 ^ (min (Int.toNat c_11) (IntKind.bits .u64))))))) R w h)⟩) (fun h hp => (numm_intBin.F2_ok (Int.fdiv a_2 (2 ^ (min (Int.toNat c_11) (IntKind.bits .u64)))) R w h)))⟩)⟩) (fun h hp => (cond_mapP (S := numm_intBin.S R w) h hp (fun h hp => ⟨(hp).1, h⟩) (fun h hp => (cond_mapP (S := numm_intBin.S R w) h hp (fun h hp => ⟨(hp).1, ⟨((hp).2).1, h⟩⟩) (fun h hp => ⟨(hp).1, ⟨((hp).2).1, h⟩⟩))))))))))))))))))))
def numm_intBin.F (k_0 : Int) (n_1 : Int) (a_2 : Int) (b_3 : Int) : Int × Int :=
  (cond (k_0 == (0 : Int))
  ((bAnd .u64 (IntKind.wrap .u64 (a_2 + b_3)) (numm_mask.F n_1)), 0)
  (cond (k_0 == (1 : Int))
  ((bAnd .u64 (IntKind.wrap .u64 (a_2 + (numm_minus.F n_1 b_3))) (numm_mask.F n_1)), 0)
  (cond (k_0 == (2 : Int))
  ((bAnd .u64 (IntKind.wrap .u64 (a_2 * b_3)) (numm_mask.F n_1)), 0)
  (cond (k_0 == (3 : Int))
  (numm_intBin.F1 k_0 n_1 a_2 b_3 (numm_mask.F n_1) (Int.tmod b_3 (IntKind.wrap .u64 n_1)) k_0 true)
  (numm_intBin.F1 k_0 n_1 a_2 b_3 (numm_mask.F n_1) (Int.tmod b_3 (IntKind.wrap .u64 n_1)) k_0 (k_0 == (5 : Int)))))))
def numm_intBin.Pre (k_0 : Int) (n_1 : Int) (a_2 : Int) (b_3 : Int) : Prop :=
  ((IntKind.u64 = IntKind.u64) ∧ (IntKind.wrap .u64 n_1) ≠ 0 ∧ (cond (k_0 == (0 : Int))
  True
  (cond (k_0 == (1 : Int))
  True
  (cond (k_0 == (2 : Int))
  True
  (cond (k_0 == (3 : Int))
  (numm_intBin.Pre1 k_0 n_1 a_2 b_3 (numm_mask.F n_1) (Int.tmod b_3 (IntKind.wrap .u64 n_1)) k_0 true)
  (numm_intBin.Pre1 k_0 n_1 a_2 b_3 (numm_mask.F n_1) (Int.tmod b_3 (IntKind.wrap .u64 n_1)) k_0 (k_0 == (5 : Int))))))))
theorem numm_intBin.F_ok (k_0 : Int) (n_1 : Int) (a_2 : Int) (b_3 : Int) (R : Value → World → Prop) (w : World) (h : numm_intBin.S R w (numm_intBin.F k_0 n_1 a_2 b_3)) (hp : numm_intBin.Pre k_0 n_1 a_2 b_3) : numm_intBin.V k_0 n_1 a_2 b_3 R w :=
  (Runs.pure_bind (numm_mask.pure n_1 w) ⟨(numm_mask.F n_1), rfl, ⟨(hp).1, ((hp).2).1, (cond_mapP (S := numm_intBin.S R w) h ((hp).2).2 (fun h hp => h) (fun h hp => (cond_mapP (S := numm_intBin.S R w) h hp (fun h hp => (Runs.pure_bind (numm_minus.pure n_1 b_3 w) ⟨(numm_minus.F n_1 b_3), rfl, h⟩)) (fun h hp => (cond_mapP (S := numm_intBin.S R w) h hp (fun h hp => h) (fun h hp => (cond_mapP (S := numm_intBin.S R w) h hp (fun h hp => (numm_intBin.F1_ok k_0 n_1 a_2 b_3 (numm_mask.F n_1) (Int.tmod b_3 (IntKind.wrap .u64 n_1)) k_0 true R w h hp)) (fun h hp => (numm_intBin.F1_ok k_0 n_1 a_2 b_3 (numm_mask.F n_1) (Int.tmod b_3 (IntKind.wrap .u64 n_1)) k_0 (k_0 == (5 : Int)) R w h hp)))))))))⟩⟩)
theorem numm_intBin.pure (k_0 : Int) (n_1 : Int) (a_2 : Int) (b_3 : Int) (w : World) (hp : numm_intBin.Pre k_0 n_1 a_2 b_3) : Runs Try.prog numm_intBin.id #[(.int .i64 k_0), (.int .i64 n_1), (.int .u64 a_2), (.int .u64 b_3)] w fun v w' => v = (.tuple #[(.int .u64 ((numm_intBin.F k_0 n_1 a_2 b_3)).1), (.int .i64 ((numm_intBin.F k_0 n_1 a_2 b_3)).2)]) ∧ w' = w :=
  numm_intBin.enter k_0 n_1 a_2 b_3 _ w (numm_intBin.F_ok k_0 n_1 a_2 b_3 _ w ⟨rfl, rfl⟩ hp)

/-! e2e/numm.canon: it only computes -/
def numm_canon.S (R : Value → World → Prop) (w : World) (r : Int) : Prop := R (.int .u64 r) w
def numm_canon.F (f_0 : Int) : Int :=
  (cond (f_0 == (32 : Int))
  (2143289344)
  (9221120237041090560))
theorem numm_canon.F_ok (f_0 : Int) (R : Value → World → Prop) (w : World) (h : numm_canon.S R w (numm_canon.F f_0)) : numm_canon.V f_0 R w :=
  (cond_mapT (S := numm_canon.S R w) h (fun h => h) (fun h => h))
theorem numm_canon.pure (f_0 : Int) (w : World) : Runs Try.prog numm_canon.id #[(.int .i64 f_0)] w fun v w' => v = (.int .u64 (numm_canon.F f_0)) ∧ w' = w :=
  numm_canon.enter f_0 _ w (numm_canon.F_ok f_0 _ w ⟨rfl, rfl⟩)

/-! e2e/numm.unpack: it only computes -/
def numm_unpack.S (R : Value → World → Prop) (w : World) (r : Bool × Int × Int × Int) : Prop := R (.tuple #[(.bool (r).1), (.int .i64 (r).2.1), (.int .u64 (r).2.2.1), (.int .i64 (r).2.2.2)]) w
def numm_unpack.F (f_0 : Int) (v_1 : Int) : Bool × Int × Int × Int :=
  (cond ((IntKind.wrap .i64 (bAnd .u64 (Int.fdiv v_1 (2 ^ (min (Int.toNat (IntKind.wrap .u64 (IntKind.wrap .i64 ((numm_prec.F f_0) - (1 : Int))))) (IntKind.bits .u64)))) (IntKind.wrap .u64 (IntKind.wrap .i64 ((IntKind.wrap .i64 ((2 : Int) * (numm_bias.F f_0))) + (1 : Int)))))) == (IntKind.wrap .i64 ((IntKind.wrap .i64 ((2 : Int) * (numm_bias.F f_0))) + (1 : Int))))
  (cond ((bAnd .u64 v_1 (IntKind.wrap .u64 ((IntKind.wrap .u64 ((1 : Int) * 2 ^ (min (Int.toNat (IntKind.wrap .u64 (IntKind.wrap .i64 ((numm_prec.F f_0) - (1 : Int))))) (IntKind.bits .u64)))) - (1 : Int)))) == (0 : Int))
  ((decide (v_1 ≥ (numm_top.F f_0))), 2, 0, 0)
  ((decide (v_1 ≥ (numm_top.F f_0))), 3, 0, 0))
  (cond ((IntKind.wrap .i64 (bAnd .u64 (Int.fdiv v_1 (2 ^ (min (Int.toNat (IntKind.wrap .u64 (IntKind.wrap .i64 ((numm_prec.F f_0) - (1 : Int))))) (IntKind.bits .u64)))) (IntKind.wrap .u64 (IntKind.wrap .i64 ((IntKind.wrap .i64 ((2 : Int) * (numm_bias.F f_0))) + (1 : Int)))))) == (0 : Int))
  (cond ((bAnd .u64 v_1 (IntKind.wrap .u64 ((IntKind.wrap .u64 ((1 : Int) * 2 ^ (min (Int.toNat (IntKind.wrap .u64 (IntKind.wrap .i64 ((numm_prec.F f_0) - (1 : Int))))) (IntKind.bits .u64)))) - (1 : Int)))) == (0 : Int))
  ((decide (v_1 ≥ (numm_top.F f_0))), 0, 0, 0)
  ((decide (v_1 ≥ (numm_top.F f_0))), 1, (bAnd .u64 v_1 (IntKind.wrap .u64 ((IntKind.wrap .u64 ((1 : Int) * 2 ^ (min (Int.toNat (IntKind.wrap .u64 (IntKind.wrap .i64 ((numm_prec.F f_0) - (1 : Int))))) (IntKind.bits .u64)))) - (1 : Int)))), (IntKind.wrap .i64 ((IntKind.wrap .i64 ((2 : Int) - (numm_bias.F f_0))) - (numm_prec.F f_0)))))
  ((decide (v_1 ≥ (numm_top.F f_0))), 1, (bOr .u64 (bAnd .u64 v_1 (IntKind.wrap .u64 ((IntKind.wrap .u64 ((1 : Int) * 2 ^ (min (Int.toNat (IntKind.wrap .u64 (IntKind.wrap .i64 ((numm_prec.F f_0) - (1 : Int))))) (IntKind.bits .u64)))) - (1 : Int)))) (IntKind.wrap .u64 ((1 : Int) * 2 ^ (min (Int.toNat (IntKind.wrap .u64 (IntKind.wrap .i64 ((numm_prec.F f_0) - (1 : Int))))) (IntKind.bits .u64))))), (IntKind.wrap .i64 ((IntKind.wrap .i64 ((IntKind.wrap .i64 ((IntKind.wrap .i64 (bAnd .u64 (Int.fdiv v_1 (2 ^ (min (Int.toNat (IntKind.wrap .u64 (IntKind.wrap .i64 ((numm_prec.F f_0) - (1 : Int))))) (IntKind.bits .u64)))) (IntKind.wrap .u64 (IntKind.wrap .i64 ((IntKind.wrap .i64 ((2 : Int) * (numm_bias.F f_0))) + (1 : Int)))))) - (numm_bias.F f_0))) - (numm_prec.F f_0))) + (1 : Int))))))
def numm_unpack.Pre (f_0 : Int) (v_1 : Int) : Prop :=
  ((numm_top.Pre f_0) ∧ (0 ≤ (IntKind.wrap .u64 (IntKind.wrap .i64 ((numm_prec.F f_0) - (1 : Int)))) ∧ (0 ≤ (IntKind.wrap .u64 (IntKind.wrap .i64 ((numm_prec.F f_0) - (1 : Int)))) ∧ (cond ((IntKind.wrap .i64 (bAnd .u64 (Int.fdiv v_1 (2 ^ (min (Int.toNat (IntKind.wrap .u64 (IntKind.wrap .i64 ((numm_prec.F f_0) - (1 : Int))))) (IntKind.bits .u64)))) (IntKind.wrap .u64 (IntKind.wrap .i64 ((IntKind.wrap .i64 ((2 : Int) * (numm_bias.F f_0))) + (1 : Int)))))) == (IntKind.wrap .i64 ((IntKind.wrap .i64 ((2 : Int) * (numm_bias.F f_0))) + (1 : Int))))
  True
  (cond ((IntKind.wrap .i64 (bAnd .u64 (Int.fdiv v_1 (2 ^ (min (Int.toNat (IntKind.wrap .u64 (IntKind.wrap .i64 ((numm_prec.F f_0) - (1 : Int))))) (IntKind.bits .u64)))) (IntKind.wrap .u64 (IntKind.wrap .i64 ((IntKind.wrap .i64 ((2 : Int) * (numm_bias.F f_0))) + (1 : Int)))))) == (0 : Int))
  True
  (0 ≤ (IntKind.wrap .u64 (IntKind.wrap .i64 ((numm_prec.F f_0) - (1 : Int)))) ∧ True))))))
theorem numm_unpack.F_ok (f_0 : Int) (v_1 : Int) (R : Value → World → Prop) (w : World) (h : numm_unpack.S R w (numm_unpack.F f_0 v_1)) (hp : numm_unpack.Pre f_0 v_1) : numm_unpack.V f_0 v_1 R w :=
  (Runs.pure_bind (numm_prec.pure f_0 w) ⟨(numm_prec.F f_0), rfl, (Runs.pure_bind (numm_bias.pure f_0 w) ⟨(numm_bias.F f_0), rfl, (Runs.pure_bind (numm_top.pure f_0 w (hp).1) ⟨(numm_top.F f_0), rfl, ⟨((hp).2).1, ⟨(((hp).2).2).1, (cond_mapP (S := numm_unpack.S R w) h (((hp).2).2).2 (fun h hp => (cond_mapT (S := numm_unpack.S R w) h (fun h => h) (fun h => h))) (fun h hp => (cond_mapP (S := numm_unpack.S R w) h hp (fun h hp => (cond_mapT (S := numm_unpack.S R w) h (fun h => h) (fun h => h))) (fun h hp => ⟨(hp).1, h⟩))))⟩⟩⟩)⟩)⟩)
theorem numm_unpack.pure (f_0 : Int) (v_1 : Int) (w : World) (hp : numm_unpack.Pre f_0 v_1) : Runs Try.prog numm_unpack.id #[(.int .i64 f_0), (.int .u64 v_1)] w fun v w' => v = (.tuple #[(.bool ((numm_unpack.F f_0 v_1)).1), (.int .i64 ((numm_unpack.F f_0 v_1)).2.1), (.int .u64 ((numm_unpack.F f_0 v_1)).2.2.1), (.int .i64 ((numm_unpack.F f_0 v_1)).2.2.2)]) ∧ w' = w :=
  numm_unpack.enter f_0 v_1 _ w (numm_unpack.F_ok f_0 v_1 _ w ⟨rfl, rfl⟩ hp)

/-! e2e/numm.sign: it only computes -/
def numm_sign.S (R : Value → World → Prop) (w : World) (r : Int) : Prop := R (.int .u64 r) w
def numm_sign.F (f_0 : Int) (neg_1 : Bool) : Int :=
  (cond neg_1
  ((numm_top.F f_0))
  (0))
def numm_sign.Pre (f_0 : Int) (neg_1 : Bool) : Prop :=
  (cond neg_1
  ((numm_top.Pre f_0) ∧ True)
  True)
theorem numm_sign.F_ok (f_0 : Int) (neg_1 : Bool) (R : Value → World → Prop) (w : World) (h : numm_sign.S R w (numm_sign.F f_0 neg_1)) (hp : numm_sign.Pre f_0 neg_1) : numm_sign.V f_0 neg_1 R w :=
  (cond_mapP (S := numm_sign.S R w) h hp (fun h hp => (Runs.pure_bind (numm_top.pure f_0 w (hp).1) ⟨(numm_top.F f_0), rfl, h⟩)) (fun h hp => h))
theorem numm_sign.pure (f_0 : Int) (neg_1 : Bool) (w : World) (hp : numm_sign.Pre f_0 neg_1) : Runs Try.prog numm_sign.id #[(.int .i64 f_0), (.bool neg_1)] w fun v w' => v = (.int .u64 (numm_sign.F f_0 neg_1)) ∧ w' = w :=
  numm_sign.enter f_0 neg_1 _ w (numm_sign.F_ok f_0 neg_1 _ w ⟨rfl, rfl⟩ hp)

/-! e2e/numm.fit: it only computes -/
def numm_fit.S (R : Value → World → Prop) (w : World) (r : Int × Int) : Prop := R (.tuple #[(.int .u64 (r).1), (.int .i64 (r).2)]) w
def numm_fit.F (n_0 : Int) (signed_1 : Bool) (neg_2 : Bool) (m_3 : Int) : Int × Int :=
  (cond signed_1
  (cond neg_2
  (cond (decide (m_3 > (numm_top.F n_0)))
  (0, 40)
  ((numm_minus.F n_0 m_3), 0))
  (cond (decide (m_3 ≥ (numm_top.F n_0)))
  (0, 40)
  (m_3, 0)))
  (cond neg_2
  (cond (m_3 != (0 : Int))
  (0, 40)
  (0, 0))
  (cond (decide (m_3 > (numm_mask.F n_0)))
  (0, 40)
  (m_3, 0))))
def numm_fit.Pre (n_0 : Int) (signed_1 : Bool) (neg_2 : Bool) (m_3 : Int) : Prop :=
  (cond signed_1
  (cond neg_2
  ((numm_top.Pre n_0) ∧ True)
  ((numm_top.Pre n_0) ∧ True))
  True)
theorem numm_fit.F_ok (n_0 : Int) (signed_1 : Bool) (neg_2 : Bool) (m_3 : Int) (R : Value → World → Prop) (w : World) (h : numm_fit.S R w (numm_fit.F n_0 signed_1 neg_2 m_3)) (hp : numm_fit.Pre n_0 signed_1 neg_2 m_3) : numm_fit.V n_0 signed_1 neg_2 m_3 R w :=
  (cond_mapP (S := numm_fit.S R w) h hp (fun h hp => (cond_mapP (S := numm_fit.S R w) h hp (fun h hp => (Runs.pure_bind (numm_top.pure n_0 w (hp).1) ⟨(numm_top.F n_0), rfl, (cond_mapT (S := numm_fit.S R w) h (fun h => h) (fun h => (Runs.pure_bind (numm_minus.pure n_0 m_3 w) ⟨(numm_minus.F n_0 m_3), rfl, h⟩)))⟩)) (fun h hp => (Runs.pure_bind (numm_top.pure n_0 w (hp).1) ⟨(numm_top.F n_0), rfl, (cond_mapT (S := numm_fit.S R w) h (fun h => h) (fun h => h))⟩)))) (fun h hp => (cond_mapT (S := numm_fit.S R w) h (fun h => (cond_mapT (S := numm_fit.S R w) h (fun h => h) (fun h => h))) (fun h => (Runs.pure_bind (numm_mask.pure n_0 w) ⟨(numm_mask.F n_0), rfl, (cond_mapT (S := numm_fit.S R w) h (fun h => h) (fun h => h))⟩)))))
theorem numm_fit.pure (n_0 : Int) (signed_1 : Bool) (neg_2 : Bool) (m_3 : Int) (w : World) (hp : numm_fit.Pre n_0 signed_1 neg_2 m_3) : Runs Try.prog numm_fit.id #[(.int .i64 n_0), (.bool signed_1), (.bool neg_2), (.int .u64 m_3)] w fun v w' => v = (.tuple #[(.int .u64 ((numm_fit.F n_0 signed_1 neg_2 m_3)).1), (.int .i64 ((numm_fit.F n_0 signed_1 neg_2 m_3)).2)]) ∧ w' = w :=
  numm_fit.enter n_0 signed_1 neg_2 m_3 _ w (numm_fit.F_ok n_0 signed_1 neg_2 m_3 _ w ⟨rfl, rfl⟩ hp)

/-! e2e/numm.toInt: it only computes -/
def numm_toInt.S (R : Value → World → Prop) (w : World) (r : Int × Int) : Prop := R (.tuple #[(.int .u64 (r).1), (.int .i64 (r).2)]) w
def numm_toInt.F2 (n_1 : Int) (signed_2 : Bool) (neg_10 : Bool) (m_12 : Int) : Int × Int :=
  (((numm_fit.F n_1 signed_2 neg_10 m_12)).1, ((numm_fit.F n_1 signed_2 neg_10 m_12)).2)
def numm_toInt.Pre2 (n_1 : Int) (signed_2 : Bool) (neg_10 : Bool) (m_12 : Int) : Prop :=
  ((numm_fit.Pre n_1 signed_2 neg_10 m_12) ∧ True)
theorem numm_toInt.F2_ok (n_1 : Int) (signed_2 : Bool) (neg_10 : Bool) (m_12 : Int) (R : Value → World → Prop) (w : World) (h : numm_toInt.S R w (numm_toInt.F2 n_1 signed_2 neg_10 m_12)) (hp : numm_toInt.Pre2 n_1 signed_2 neg_10 m_12) : numm_toInt.L2 n_1 signed_2 neg_10 m_12 R w :=
  numm_toInt.step2 n_1 signed_2 neg_10 m_12 R w (Runs.pure_bind (numm_fit.pure n_1 signed_2 neg_10 m_12 w (hp).1) ⟨((numm_fit.F n_1 signed_2 neg_10 m_12)).1, ((numm_fit.F n_1 signed_2 neg_10 m_12)).2, rfl, h⟩)
def numm_toInt.F1 (f_0 : Int) (n_1 : Int) (signed_2 : Bool) (neg_10 : Bool) (m_12 : Int) (e_13 : Int) (t_31 : Bool) : Int × Int :=
  (cond t_31
  (0, 0)
  (cond (decide (e_13 < (0 : Int)))
  (numm_toInt.F2 n_1 signed_2 neg_10 (Int.fdiv m_12 (2 ^ (min (Int.toNat (IntKind.wrap .u64 (IntKind.wrap .i64 (0 - e_13)))) (IntKind.bits .u64)))))
  (cond (decide (e_13 > (IntKind.wrap .i64 ((64 : Int) - (numm_prec.F f_0)))))
  (0, 40)
  (numm_toInt.F2 n_1 signed_2 neg_10 (IntKind.wrap .u64 (m_12 * 2 ^ (min (Int.toNat (IntKind.wrap .u64 e_13)) (IntKind.bits .u64))))))))
def numm_toInt.Pre1 (f_0 : Int) (n_1 : Int) (signed_2 : Bool) (neg_10 : Bool) (m_12 : Int) (e_13 : Int) (t_31 : Bool) : Prop :=
  (cond t_31
  True
  (cond (decide (e_13 < (0 : Int)))
  (0 ≤ (IntKind.wrap .u64 (IntKind.wrap .i64 (0 - e_13))) ∧ (numm_toInt.Pre2 n_1 signed_2 neg_10 (Int.fdiv m_12 (2 ^ (min (Int.toNat (IntKind.wrap .u64 (IntKind.wrap .i64 (0 - e_13)))) (IntKind.bits .u64))))))
  (cond (decide (e_13 > (IntKind.wrap .i64 ((64 : Int) - (numm_prec.F f_0)))))
  True
  (0 ≤ (IntKind.wrap .u64 e_13) ∧ (numm_toInt.Pre2 n_1 signed_2 neg_10 (IntKind.wrap .u64 (m_12 * 2 ^ (min (Int.toNat (IntKind.wrap .u64 e_13)) (IntKind.bits .u64)))))))))
theorem numm_toInt.F1_ok (f_0 : Int) (n_1 : Int) (signed_2 : Bool) (neg_10 : Bool) (m_12 : Int) (e_13 : Int) (t_31 : Bool) (R : Value → World → Prop) (w : World) (h : numm_toInt.S R w (numm_toInt.F1 f_0 n_1 signed_2 neg_10 m_12 e_13 t_31)) (hp : numm_toInt.Pre1 f_0 n_1 signed_2 neg_10 m_12 e_13 t_31) : numm_toInt.L1 f_0 n_1 signed_2 neg_10 m_12 e_13 t_31 R w :=
  numm_toInt.step1 f_0 n_1 signed_2 neg_10 m_12 e_13 t_31 R w (cond_mapP (S := numm_toInt.S R w) h hp (fun h hp => h) (fun h hp => (cond_mapP (S := numm_toInt.S R w) h hp (fun h hp => ⟨(hp).1, (numm_toInt.F2_ok n_1 signed_2 neg_10 (Int.fdiv m_12 (2 ^ (min (Int.toNat (IntKind.wrap .u64 (IntKind.wrap .i64 (0 - e_13)))) (IntKind.bits .u64)))) R w h (hp).2)⟩) (fun h hp => (Runs.pure_bind (numm_prec.pure f_0 w) ⟨(numm_prec.F f_0), rfl, (cond_mapP (S := numm_toInt.S R w) h hp (fun h hp => h) (fun h hp => ⟨(hp).1, (numm_toInt.F2_ok n_1 signed_2 neg_10 (IntKind.wrap .u64 (m_12 * 2 ^ (min (Int.toNat (IntKind.wrap .u64 e_13)) (IntKind.bits .u64)))) R w h (hp).2)⟩))⟩)))))
def numm_toInt.F (f_0 : Int) (n_1 : Int) (signed_2 : Bool) (a_3 : Int) : Int × Int :=
  (cond (((numm_unpack.F f_0 a_3)).2.1 == (3 : Int))
  (0, 41)
  (cond (((numm_unpack.F f_0 a_3)).2.1 == (2 : Int))
  (0, 40)
  (cond (((numm_unpack.F f_0 a_3)).2.1 == (0 : Int))
  (numm_toInt.F1 f_0 n_1 signed_2 ((numm_unpack.F f_0 a_3)).1 ((numm_unpack.F f_0 a_3)).2.2.1 ((numm_unpack.F f_0 a_3)).2.2.2 true)
  (numm_toInt.F1 f_0 n_1 signed_2 ((numm_unpack.F f_0 a_3)).1 ((numm_unpack.F f_0 a_3)).2.2.1 ((numm_unpack.F f_0 a_3)).2.2.2 (decide (((numm_unpack.F f_0 a_3)).2.2.2 ≤ (-64)))))))
def numm_toInt.Pre (f_0 : Int) (n_1 : Int) (signed_2 : Bool) (a_3 : Int) : Prop :=
  ((numm_unpack.Pre f_0 a_3) ∧ (cond (((numm_unpack.F f_0 a_3)).2.1 == (3 : Int))
  True
  (cond (((numm_unpack.F f_0 a_3)).2.1 == (2 : Int))
  True
  (cond (((numm_unpack.F f_0 a_3)).2.1 == (0 : Int))
  (numm_toInt.Pre1 f_0 n_1 signed_2 ((numm_unpack.F f_0 a_3)).1 ((numm_unpack.F f_0 a_3)).2.2.1 ((numm_unpack.F f_0 a_3)).2.2.2 true)
  (numm_toInt.Pre1 f_0 n_1 signed_2 ((numm_unpack.F f_0 a_3)).1 ((numm_unpack.F f_0 a_3)).2.2.1 ((numm_unpack.F f_0 a_3)).2.2.2 (decide (((numm_unpack.F f_0 a_3)).2.2.2 ≤ (-64))))))))
theorem numm_toInt.F_ok (f_0 : Int) (n_1 : Int) (signed_2 : Bool) (a_3 : Int) (R : Value → World → Prop) (w : World) (h : numm_toInt.S R w (numm_toInt.F f_0 n_1 signed_2 a_3)) (hp : numm_toInt.Pre f_0 n_1 signed_2 a_3) : numm_toInt.V f_0 n_1 signed_2 a_3 R w :=
  (Runs.pure_bind (numm_unpack.pure f_0 a_3 w (hp).1) ⟨((numm_unpack.F f_0 a_3)).1, ((numm_unpack.F f_0 a_3)).2.1, ((numm_unpack.F f_0 a_3)).2.2.1, ((numm_unpack.F f_0 a_3)).2.2.2, rfl, (cond_mapP (S := numm_toInt.S R w) h (hp).2 (fun h hp => h) (fun h hp => (cond_mapP (S := numm_toInt.S R w) h hp (fun h hp => h) (fun h hp => (cond_mapP (S := numm_toInt.S R w) h hp (fun h hp => (numm_toInt.F1_ok f_0 n_1 signed_2 ((numm_unpack.F f_0 a_3)).1 ((numm_unpack.F f_0 a_3)).2.2.1 ((numm_unpack.F f_0 a_3)).2.2.2 true R w h hp)) (fun h hp => (numm_toInt.F1_ok f_0 n_1 signed_2 ((numm_unpack.F f_0 a_3)).1 ((numm_unpack.F f_0 a_3)).2.2.1 ((numm_unpack.F f_0 a_3)).2.2.2 (decide (((numm_unpack.F f_0 a_3)).2.2.2 ≤ (-64))) R w h hp)))))))⟩)
theorem numm_toInt.pure (f_0 : Int) (n_1 : Int) (signed_2 : Bool) (a_3 : Int) (w : World) (hp : numm_toInt.Pre f_0 n_1 signed_2 a_3) : Runs Try.prog numm_toInt.id #[(.int .i64 f_0), (.int .i64 n_1), (.bool signed_2), (.int .u64 a_3)] w fun v w' => v = (.tuple #[(.int .u64 ((numm_toInt.F f_0 n_1 signed_2 a_3)).1), (.int .i64 ((numm_toInt.F f_0 n_1 signed_2 a_3)).2)]) ∧ w' = w :=
  numm_toInt.enter f_0 n_1 signed_2 a_3 _ w (numm_toInt.F_ok f_0 n_1 signed_2 a_3 _ w ⟨rfl, rfl⟩ hp)

/-! e2e/numm.whole: it only computes -/
def numm_whole.S (R : Value → World → Prop) (w : World) (r : Int) : Prop := R (.int .u64 r) w
def numm_whole.F2 (f_1 : Int) (neg_8 : Bool) (one_11 : Int) (up_12 : Bool) : Int :=
  (cond up_12
  ((IntKind.wrap .u64 ((numm_sign.F f_1 neg_8) + one_11)))
  ((numm_sign.F f_1 neg_8)))
def numm_whole.Pre2 (f_1 : Int) (neg_8 : Bool) (one_11 : Int) (up_12 : Bool) : Prop :=
  (cond up_12
  ((numm_sign.Pre f_1 neg_8) ∧ True)
  ((numm_sign.Pre f_1 neg_8) ∧ True))
theorem numm_whole.F2_ok (f_1 : Int) (neg_8 : Bool) (one_11 : Int) (up_12 : Bool) (R : Value → World → Prop) (w : World) (h : numm_whole.S R w (numm_whole.F2 f_1 neg_8 one_11 up_12)) (hp : numm_whole.Pre2 f_1 neg_8 one_11 up_12) : numm_whole.L2 f_1 neg_8 one_11 up_12 R w :=
  numm_whole.step2 f_1 neg_8 one_11 up_12 R w (cond_mapP (S := numm_whole.S R w) h hp (fun h hp => (Runs.pure_bind (numm_sign.pure f_1 neg_8 w (hp).1) ⟨(numm_sign.F f_1 neg_8), rfl, h⟩)) (fun h hp => (Runs.pure_bind (numm_sign.pure f_1 neg_8 w (hp).1) ⟨(numm_sign.F f_1 neg_8), rfl, h⟩)))
def numm_whole.F6 (f_1 : Int) (neg_8 : Bool) (base_15 : Int) : Int :=
  ((IntKind.wrap .u64 ((numm_sign.F f_1 neg_8) + base_15)))
def numm_whole.Pre6 (f_1 : Int) (neg_8 : Bool) (base_15 : Int) : Prop :=
  ((numm_sign.Pre f_1 neg_8) ∧ True)
theorem numm_whole.F6_ok (f_1 : Int) (neg_8 : Bool) (base_15 : Int) (R : Value → World → Prop) (w : World) (h : numm_whole.S R w (numm_whole.F6 f_1 neg_8 base_15)) (hp : numm_whole.Pre6 f_1 neg_8 base_15) : numm_whole.L6 f_1 neg_8 base_15 R w :=
  numm_whole.step6 f_1 neg_8 base_15 R w (Runs.pure_bind (numm_sign.pure f_1 neg_8 w (hp).1) ⟨(numm_sign.F f_1 neg_8), rfl, h⟩)
def numm_whole.F5 (f_1 : Int) (neg_8 : Bool) (unit_13 : Int) (base_15 : Int) (up_17 : Bool) : Int :=
  (cond up_17
  (numm_whole.F6 f_1 neg_8 (IntKind.wrap .u64 (base_15 + unit_13)))
  (numm_whole.F6 f_1 neg_8 base_15))
def numm_whole.Pre5 (f_1 : Int) (neg_8 : Bool) (unit_13 : Int) (base_15 : Int) (up_17 : Bool) : Prop :=
  (cond up_17
  (numm_whole.Pre6 f_1 neg_8 (IntKind.wrap .u64 (base_15 + unit_13)))
  (numm_whole.Pre6 f_1 neg_8 base_15))
theorem numm_whole.F5_ok (f_1 : Int) (neg_8 : Bool) (unit_13 : Int) (base_15 : Int) (up_17 : Bool) (R : Value → World → Prop) (w : World) (h : numm_whole.S R w (numm_whole.F5 f_1 neg_8 unit_13 base_15 up_17)) (hp : numm_whole.Pre5 f_1 neg_8 unit_13 base_15 up_17) : numm_whole.L5 f_1 neg_8 unit_13 base_15 up_17 R w :=
  numm_whole.step5 f_1 neg_8 unit_13 base_15 up_17 R w (cond_mapP (S := numm_whole.S R w) h hp (fun h hp => (numm_whole.F6_ok f_1 neg_8 (IntKind.wrap .u64 (base_15 + unit_13)) R w h hp)) (fun h hp => (numm_whole.F6_ok f_1 neg_8 base_15 R w h hp)))
def numm_whole.F4 (k_0 : Int) (f_1 : Int) (neg_8 : Bool) (unit_13 : Int) (frac_14 : Int) (base_15 : Int) (odd_16 : Bool) (up_17 : Bool) : Int :=
  (cond (k_0 == (5 : Int))
  (cond (decide (frac_14 > (IntKind.wrap .u64 (Int.tdiv unit_13 2))))
  (numm_whole.F5 f_1 neg_8 unit_13 base_15 true)
  (cond (frac_14 == (IntKind.wrap .u64 (Int.tdiv unit_13 2)))
  (numm_whole.F5 f_1 neg_8 unit_13 base_15 odd_16)
  (numm_whole.F5 f_1 neg_8 unit_13 base_15 false)))
  (numm_whole.F5 f_1 neg_8 unit_13 base_15 up_17))
def numm_whole.Pre4 (k_0 : Int) (f_1 : Int) (neg_8 : Bool) (unit_13 : Int) (frac_14 : Int) (base_15 : Int) (odd_16 : Bool) (up_17 : Bool) : Prop :=
  (cond (k_0 == (5 : Int))
  (cond (decide (frac_14 > (IntKind.wrap .u64 (Int.tdiv unit_13 2))))
  (numm_whole.Pre5 f_1 neg_8 unit_13 base_15 true)
  (cond (frac_14 == (IntKind.wrap .u64 (Int.tdiv unit_13 2)))
  (numm_whole.Pre5 f_1 neg_8 unit_13 base_15 odd_16)
  (numm_whole.Pre5 f_1 neg_8 unit_13 base_15 false)))
  (numm_whole.Pre5 f_1 neg_8 unit_13 base_15 up_17))
theorem numm_whole.F4_ok (k_0 : Int) (f_1 : Int) (neg_8 : Bool) (unit_13 : Int) (frac_14 : Int) (base_15 : Int) (odd_16 : Bool) (up_17 : Bool) (R : Value → World → Prop) (w : World) (h : numm_whole.S R w (numm_whole.F4 k_0 f_1 neg_8 unit_13 frac_14 base_15 odd_16 up_17)) (hp : numm_whole.Pre4 k_0 f_1 neg_8 unit_13 frac_14 base_15 odd_16 up_17) : numm_whole.L4 k_0 f_1 neg_8 unit_13 frac_14 base_15 odd_16 up_17 R w :=
  numm_whole.step4 k_0 f_1 neg_8 unit_13 frac_14 base_15 odd_16 up_17 R w (cond_mapP (S := numm_whole.S R w) h hp (fun h hp => (cond_mapP (S := numm_whole.S R w) h hp (fun h hp => (numm_whole.F5_ok f_1 neg_8 unit_13 base_15 true R w h hp)) (fun h hp => (cond_mapP (S := numm_whole.S R w) h hp (fun h hp => (numm_whole.F5_ok f_1 neg_8 unit_13 base_15 odd_16 R w h hp)) (fun h hp => (numm_whole.F5_ok f_1 neg_8 unit_13 base_15 false R w h hp)))))) (fun h hp => (numm_whole.F5_ok f_1 neg_8 unit_13 base_15 up_17 R w h hp)))
def numm_whole.F3 (k_0 : Int) (f_1 : Int) (neg_8 : Bool) (unit_13 : Int) (frac_14 : Int) (base_15 : Int) (odd_16 : Bool) : Int :=
  (cond (k_0 == (2 : Int))
  (cond (!neg_8)
  (numm_whole.F4 k_0 f_1 neg_8 unit_13 frac_14 base_15 odd_16 true)
  (cond (k_0 == (3 : Int))
  (numm_whole.F4 k_0 f_1 neg_8 unit_13 frac_14 base_15 odd_16 neg_8)
  (numm_whole.F4 k_0 f_1 neg_8 unit_13 frac_14 base_15 odd_16 false)))
  (cond (k_0 == (3 : Int))
  (numm_whole.F4 k_0 f_1 neg_8 unit_13 frac_14 base_15 odd_16 neg_8)
  (numm_whole.F4 k_0 f_1 neg_8 unit_13 frac_14 base_15 odd_16 false)))
def numm_whole.Pre3 (k_0 : Int) (f_1 : Int) (neg_8 : Bool) (unit_13 : Int) (frac_14 : Int) (base_15 : Int) (odd_16 : Bool) : Prop :=
  (cond (k_0 == (2 : Int))
  (cond (!neg_8)
  (numm_whole.Pre4 k_0 f_1 neg_8 unit_13 frac_14 base_15 odd_16 true)
  (cond (k_0 == (3 : Int))
  (numm_whole.Pre4 k_0 f_1 neg_8 unit_13 frac_14 base_15 odd_16 neg_8)
  (numm_whole.Pre4 k_0 f_1 neg_8 unit_13 frac_14 base_15 odd_16 false)))
  (cond (k_0 == (3 : Int))
  (numm_whole.Pre4 k_0 f_1 neg_8 unit_13 frac_14 base_15 odd_16 neg_8)
  (numm_whole.Pre4 k_0 f_1 neg_8 unit_13 frac_14 base_15 odd_16 false)))
theorem numm_whole.F3_ok (k_0 : Int) (f_1 : Int) (neg_8 : Bool) (unit_13 : Int) (frac_14 : Int) (base_15 : Int) (odd_16 : Bool) (R : Value → World → Prop) (w : World) (h : numm_whole.S R w (numm_whole.F3 k_0 f_1 neg_8 unit_13 frac_14 base_15 odd_16)) (hp : numm_whole.Pre3 k_0 f_1 neg_8 unit_13 frac_14 base_15 odd_16) : numm_whole.L3 k_0 f_1 neg_8 unit_13 frac_14 base_15 odd_16 R w :=
  numm_whole.step3 k_0 f_1 neg_8 unit_13 frac_14 base_15 odd_16 R w (cond_mapP (S := numm_whole.S R w) h hp (fun h hp => (cond_mapP (S := numm_whole.S R w) h hp (fun h hp => (numm_whole.F4_ok k_0 f_1 neg_8 unit_13 frac_14 base_15 odd_16 true R w h hp)) (fun h hp => (cond_mapP (S := numm_whole.S R w) h hp (fun h hp => (numm_whole.F4_ok k_0 f_1 neg_8 unit_13 frac_14 base_15 odd_16 neg_8 R w h hp)) (fun h hp => (numm_whole.F4_ok k_0 f_1 neg_8 unit_13 frac_14 base_15 odd_16 false R w h hp)))))) (fun h hp => (cond_mapP (S := numm_whole.S R w) h hp (fun h hp => (numm_whole.F4_ok k_0 f_1 neg_8 unit_13 frac_14 base_15 odd_16 neg_8 R w h hp)) (fun h hp => (numm_whole.F4_ok k_0 f_1 neg_8 unit_13 frac_14 base_15 odd_16 false R w h hp)))))
def numm_whole.F1 (k_0 : Int) (f_1 : Int) (a_2 : Int) (p_7 : Int) (neg_8 : Bool) (body_9 : Int) (ex_10 : Int) (t_50 : Bool) : Int :=
  (cond t_50
  (a_2)
  (cond (decide (ex_10 < (0 : Int)))
  (cond (k_0 == (2 : Int))
  (cond (!neg_8)
  (numm_whole.F2 f_1 neg_8 (IntKind.wrap .u64 ((IntKind.wrap .u64 (numm_bias.F f_1)) * 2 ^ (min (Int.toNat (IntKind.wrap .u64 (IntKind.wrap .i64 (p_7 - (1 : Int))))) (IntKind.bits .u64)))) true)
  (cond (k_0 == (3 : Int))
  (cond neg_8
  (numm_whole.F2 f_1 neg_8 (IntKind.wrap .u64 ((IntKind.wrap .u64 (numm_bias.F f_1)) * 2 ^ (min (Int.toNat (IntKind.wrap .u64 (IntKind.wrap .i64 (p_7 - (1 : Int))))) (IntKind.bits .u64)))) true)
  (cond (k_0 == (5 : Int))
  (numm_whole.F2 f_1 neg_8 (IntKind.wrap .u64 ((IntKind.wrap .u64 (numm_bias.F f_1)) * 2 ^ (min (Int.toNat (IntKind.wrap .u64 (IntKind.wrap .i64 (p_7 - (1 : Int))))) (IntKind.bits .u64)))) (decide (body_9 > (IntKind.wrap .u64 ((IntKind.wrap .u64 ((IntKind.wrap .u64 (numm_bias.F f_1)) * 2 ^ (min (Int.toNat (IntKind.wrap .u64 (IntKind.wrap .i64 (p_7 - (1 : Int))))) (IntKind.bits .u64)))) - (IntKind.wrap .u64 ((1 : Int) * 2 ^ (min (Int.toNat (IntKind.wrap .u64 (IntKind.wrap .i64 (p_7 - (1 : Int))))) (IntKind.bits .u64)))))))))
  (numm_whole.F2 f_1 neg_8 (IntKind.wrap .u64 ((IntKind.wrap .u64 (numm_bias.F f_1)) * 2 ^ (min (Int.toNat (IntKind.wrap .u64 (IntKind.wrap .i64 (p_7 - (1 : Int))))) (IntKind.bits .u64)))) false)))
  (cond (k_0 == (5 : Int))
  (numm_whole.F2 f_1 neg_8 (IntKind.wrap .u64 ((IntKind.wrap .u64 (numm_bias.F f_1)) * 2 ^ (min (Int.toNat (IntKind.wrap .u64 (IntKind.wrap .i64 (p_7 - (1 : Int))))) (IntKind.bits .u64)))) (decide (body_9 > (IntKind.wrap .u64 ((IntKind.wrap .u64 ((IntKind.wrap .u64 (numm_bias.F f_1)) * 2 ^ (min (Int.toNat (IntKind.wrap .u64 (IntKind.wrap .i64 (p_7 - (1 : Int))))) (IntKind.bits .u64)))) - (IntKind.wrap .u64 ((1 : Int) * 2 ^ (min (Int.toNat (IntKind.wrap .u64 (IntKind.wrap .i64 (p_7 - (1 : Int))))) (IntKind.bits .u64)))))))))
  (numm_whole.F2 f_1 neg_8 (IntKind.wrap .u64 ((IntKind.wrap .u64 (numm_bias.F f_1)) * 2 ^ (min (Int.toNat (IntKind.wrap .u64 (IntKind.wrap .i64 (p_7 - (1 : Int))))) (IntKind.bits .u64)))) false))))
  (cond (k_0 == (3 : Int))
  (cond neg_8
  (numm_whole.F2 f_1 neg_8 (IntKind.wrap .u64 ((IntKind.wrap .u64 (numm_bias.F f_1)) * 2 ^ (min (Int.toNat (IntKind.wrap .u64 (IntKind.wrap .i64 (p_7 - (1 : Int))))) (IntKind.bits .u64)))) true)
  (cond (k_0 == (5 : Int))
  (numm_whole.F2 f_1 neg_8 (IntKind.wrap .u64 ((IntKind.wrap .u64 (numm_bias.F f_1)) * 2 ^ (min (Int.toNat (IntKind.wrap .u64 (IntKind.wrap .i64 (p_7 - (1 : Int))))) (IntKind.bits .u64)))) (decide (body_9 > (IntKind.wrap .u64 ((IntKind.wrap .u64 ((IntKind.wrap .u64 (numm_bias.F f_1)) * 2 ^ (min (Int.toNat (IntKind.wrap .u64 (IntKind.wrap .i64 (p_7 - (1 : Int))))) (IntKind.bits .u64)))) - (IntKind.wrap .u64 ((1 : Int) * 2 ^ (min (Int.toNat (IntKind.wrap .u64 (IntKind.wrap .i64 (p_7 - (1 : Int))))) (IntKind.bits .u64)))))))))
  (numm_whole.F2 f_1 neg_8 (IntKind.wrap .u64 ((IntKind.wrap .u64 (numm_bias.F f_1)) * 2 ^ (min (Int.toNat (IntKind.wrap .u64 (IntKind.wrap .i64 (p_7 - (1 : Int))))) (IntKind.bits .u64)))) false)))
  (cond (k_0 == (5 : Int))
  (numm_whole.F2 f_1 neg_8 (IntKind.wrap .u64 ((IntKind.wrap .u64 (numm_bias.F f_1)) * 2 ^ (min (Int.toNat (IntKind.wrap .u64 (IntKind.wrap .i64 (p_7 - (1 : Int))))) (IntKind.bits .u64)))) (decide (body_9 > (IntKind.wrap .u64 ((IntKind.wrap .u64 ((IntKind.wrap .u64 (numm_bias.F f_1)) * 2 ^ (min (Int.toNat (IntKind.wrap .u64 (IntKind.wrap .i64 (p_7 - (1 : Int))))) (IntKind.bits .u64)))) - (IntKind.wrap .u64 ((1 : Int) * 2 ^ (min (Int.toNat (IntKind.wrap .u64 (IntKind.wrap .i64 (p_7 - (1 : Int))))) (IntKind.bits .u64)))))))))
  (numm_whole.F2 f_1 neg_8 (IntKind.wrap .u64 ((IntKind.wrap .u64 (numm_bias.F f_1)) * 2 ^ (min (Int.toNat (IntKind.wrap .u64 (IntKind.wrap .i64 (p_7 - (1 : Int))))) (IntKind.bits .u64)))) false))))
  (cond ((Int.tmod body_9 (IntKind.wrap .u64 ((1 : Int) * 2 ^ (min (Int.toNat (IntKind.wrap .u64 (IntKind.wrap .i64 ((IntKind.wrap .i64 (p_7 - (1 : Int))) - ex_10)))) (IntKind.bits .u64))))) == (0 : Int))
  (a_2)
  (cond (ex_10 == (0 : Int))
  (numm_whole.F3 k_0 f_1 neg_8 (IntKind.wrap .u64 ((1 : Int) * 2 ^ (min (Int.toNat (IntKind.wrap .u64 (IntKind.wrap .i64 ((IntKind.wrap .i64 (p_7 - (1 : Int))) - ex_10)))) (IntKind.bits .u64)))) (Int.tmod body_9 (IntKind.wrap .u64 ((1 : Int) * 2 ^ (min (Int.toNat (IntKind.wrap .u64 (IntKind.wrap .i64 ((IntKind.wrap .i64 (p_7 - (1 : Int))) - ex_10)))) (IntKind.bits .u64))))) (IntKind.wrap .u64 (body_9 - (Int.tmod body_9 (IntKind.wrap .u64 ((1 : Int) * 2 ^ (min (Int.toNat (IntKind.wrap .u64 (IntKind.wrap .i64 ((IntKind.wrap .i64 (p_7 - (1 : Int))) - ex_10)))) (IntKind.bits .u64))))))) true)
  (numm_whole.F3 k_0 f_1 neg_8 (IntKind.wrap .u64 ((1 : Int) * 2 ^ (min (Int.toNat (IntKind.wrap .u64 (IntKind.wrap .i64 ((IntKind.wrap .i64 (p_7 - (1 : Int))) - ex_10)))) (IntKind.bits .u64)))) (Int.tmod body_9 (IntKind.wrap .u64 ((1 : Int) * 2 ^ (min (Int.toNat (IntKind.wrap .u64 (IntKind.wrap .i64 ((IntKind.wrap .i64 (p_7 - (1 : Int))) - ex_10)))) (IntKind.bits .u64))))) (IntKind.wrap .u64 (body_9 - (Int.tmod body_9 (IntKind.wrap .u64 ((1 : Int) * 2 ^ (min (Int.toNat (IntKind.wrap .u64 (IntKind.wrap .i64 ((IntKind.wrap .i64 (p_7 - (1 : Int))) - ex_10)))) (IntKind.bits .u64))))))) ((Int.tmod (IntKind.wrap .u64 (Int.tdiv (IntKind.wrap .u64 (body_9 - (Int.tmod body_9 (IntKind.wrap .u64 ((1 : Int) * 2 ^ (min (Int.toNat (IntKind.wrap .u64 (IntKind.wrap .i64 ((IntKind.wrap .i64 (p_7 - (1 : Int))) - ex_10)))) (IntKind.bits .u64))))))) (IntKind.wrap .u64 ((1 : Int) * 2 ^ (min (Int.toNat (IntKind.wrap .u64 (IntKind.wrap .i64 ((IntKind.wrap .i64 (p_7 - (1 : Int))) - ex_10)))) (IntKind.bits .u64)))))) 2) == (1 : Int)))))))
def numm_whole.Pre1 (k_0 : Int) (f_1 : Int) (a_2 : Int) (p_7 : Int) (neg_8 : Bool) (body_9 : Int) (ex_10 : Int) (t_50 : Bool) : Prop :=
  (cond t_50
  True
  (0 ≤ (IntKind.wrap .u64 (IntKind.wrap .i64 (p_7 - (1 : Int)))) ∧ (cond (decide (ex_10 < (0 : Int)))
  (cond (k_0 == (2 : Int))
  (cond (!neg_8)
  (numm_whole.Pre2 f_1 neg_8 (IntKind.wrap .u64 ((IntKind.wrap .u64 (numm_bias.F f_1)) * 2 ^ (min (Int.toNat (IntKind.wrap .u64 (IntKind.wrap .i64 (p_7 - (1 : Int))))) (IntKind.bits .u64)))) true)
  (cond (k_0 == (3 : Int))
  (cond neg_8
  (numm_whole.Pre2 f_1 neg_8 (IntKind.wrap .u64 ((IntKind.wrap .u64 (numm_bias.F f_1)) * 2 ^ (min (Int.toNat (IntKind.wrap .u64 (IntKind.wrap .i64 (p_7 - (1 : Int))))) (IntKind.bits .u64)))) true)
  (cond (k_0 == (5 : Int))
  (0 ≤ (IntKind.wrap .u64 (IntKind.wrap .i64 (p_7 - (1 : Int)))) ∧ (numm_whole.Pre2 f_1 neg_8 (IntKind.wrap .u64 ((IntKind.wrap .u64 (numm_bias.F f_1)) * 2 ^ (min (Int.toNat (IntKind.wrap .u64 (IntKind.wrap .i64 (p_7 - (1 : Int))))) (IntKind.bits .u64)))) (decide (body_9 > (IntKind.wrap .u64 ((IntKind.wrap .u64 ((IntKind.wrap .u64 (numm_bias.F f_1)) * 2 ^ (min (Int.toNat (IntKind.wrap .u64 (IntKind.wrap .i64 (p_7 - (1 : Int))))) (IntKind.bits .u64)))) - (IntKind.wrap .u64 ((1 : Int) * 2 ^ (min (Int.toNat (IntKind.wrap .u64 (IntKind.wrap .i64 (p_7 - (1 : Int))))) (IntKind.bits .u64))))))))))
  (numm_whole.Pre2 f_1 neg_8 (IntKind.wrap .u64 ((IntKind.wrap .u64 (numm_bias.F f_1)) * 2 ^ (min (Int.toNat (IntKind.wrap .u64 (IntKind.wrap .i64 (p_7 - (1 : Int))))) (IntKind.bits .u64)))) false)))
  (cond (k_0 == (5 : Int))
  (0 ≤ (IntKind.wrap .u64 (IntKind.wrap .i64 (p_7 - (1 : Int)))) ∧ (numm_whole.Pre2 f_1 neg_8 (IntKind.wrap .u64 ((IntKind.wrap .u64 (numm_bias.F f_1)) * 2 ^ (min (Int.toNat (IntKind.wrap .u64 (IntKind.wrap .i64 (p_7 - (1 : Int))))) (IntKind.bits .u64)))) (decide (body_9 > (IntKind.wrap .u64 ((IntKind.wrap .u64 ((IntKind.wrap .u64 (numm_bias.F f_1)) * 2 ^ (min (Int.toNat (IntKind.wrap .u64 (IntKind.wrap .i64 (p_7 - (1 : Int))))) (IntKind.bits .u64)))) - (IntKind.wrap .u64 ((1 : Int) * 2 ^ (min (Int.toNat (IntKind.wrap .u64 (IntKind.wrap .i64 (p_7 - (1 : Int))))) (IntKind.bits .u64))))))))))
  (numm_whole.Pre2 f_1 neg_8 (IntKind.wrap .u64 ((IntKind.wrap .u64 (numm_bias.F f_1)) * 2 ^ (min (Int.toNat (IntKind.wrap .u64 (IntKind.wrap .i64 (p_7 - (1 : Int))))) (IntKind.bits .u64)))) false))))
  (cond (k_0 == (3 : Int))
  (cond neg_8
  (numm_whole.Pre2 f_1 neg_8 (IntKind.wrap .u64 ((IntKind.wrap .u64 (numm_bias.F f_1)) * 2 ^ (min (Int.toNat (IntKind.wrap .u64 (IntKind.wrap .i64 (p_7 - (1 : Int))))) (IntKind.bits .u64)))) true)
  (cond (k_0 == (5 : Int))
  (0 ≤ (IntKind.wrap .u64 (IntKind.wrap .i64 (p_7 - (1 : Int)))) ∧ (numm_whole.Pre2 f_1 neg_8 (IntKind.wrap .u64 ((IntKind.wrap .u64 (numm_bias.F f_1)) * 2 ^ (min (Int.toNat (IntKind.wrap .u64 (IntKind.wrap .i64 (p_7 - (1 : Int))))) (IntKind.bits .u64)))) (decide (body_9 > (IntKind.wrap .u64 ((IntKind.wrap .u64 ((IntKind.wrap .u64 (numm_bias.F f_1)) * 2 ^ (min (Int.toNat (IntKind.wrap .u64 (IntKind.wrap .i64 (p_7 - (1 : Int))))) (IntKind.bits .u64)))) - (IntKind.wrap .u64 ((1 : Int) * 2 ^ (min (Int.toNat (IntKind.wrap .u64 (IntKind.wrap .i64 (p_7 - (1 : Int))))) (IntKind.bits .u64))))))))))
  (numm_whole.Pre2 f_1 neg_8 (IntKind.wrap .u64 ((IntKind.wrap .u64 (numm_bias.F f_1)) * 2 ^ (min (Int.toNat (IntKind.wrap .u64 (IntKind.wrap .i64 (p_7 - (1 : Int))))) (IntKind.bits .u64)))) false)))
  (cond (k_0 == (5 : Int))
  (0 ≤ (IntKind.wrap .u64 (IntKind.wrap .i64 (p_7 - (1 : Int)))) ∧ (numm_whole.Pre2 f_1 neg_8 (IntKind.wrap .u64 ((IntKind.wrap .u64 (numm_bias.F f_1)) * 2 ^ (min (Int.toNat (IntKind.wrap .u64 (IntKind.wrap .i64 (p_7 - (1 : Int))))) (IntKind.bits .u64)))) (decide (body_9 > (IntKind.wrap .u64 ((IntKind.wrap .u64 ((IntKind.wrap .u64 (numm_bias.F f_1)) * 2 ^ (min (Int.toNat (IntKind.wrap .u64 (IntKind.wrap .i64 (p_7 - (1 : Int))))) (IntKind.bits .u64)))) - (IntKind.wrap .u64 ((1 : Int) * 2 ^ (min (Int.toNat (IntKind.wrap .u64 (IntKind.wrap .i64 (p_7 - (1 : Int))))) (IntKind.bits .u64))))))))))
  (numm_whole.Pre2 f_1 neg_8 (IntKind.wrap .u64 ((IntKind.wrap .u64 (numm_bias.F f_1)) * 2 ^ (min (Int.toNat (IntKind.wrap .u64 (IntKind.wrap .i64 (p_7 - (1 : Int))))) (IntKind.bits .u64)))) false))))
  (0 ≤ (IntKind.wrap .u64 (IntKind.wrap .i64 ((IntKind.wrap .i64 (p_7 - (1 : Int))) - ex_10))) ∧ ((IntKind.u64 = IntKind.u64) ∧ (IntKind.wrap .u64 ((1 : Int) * 2 ^ (min (Int.toNat (IntKind.wrap .u64 (IntKind.wrap .i64 ((IntKind.wrap .i64 (p_7 - (1 : Int))) - ex_10)))) (IntKind.bits .u64)))) ≠ 0 ∧ (cond ((Int.tmod body_9 (IntKind.wrap .u64 ((1 : Int) * 2 ^ (min (Int.toNat (IntKind.wrap .u64 (IntKind.wrap .i64 ((IntKind.wrap .i64 (p_7 - (1 : Int))) - ex_10)))) (IntKind.bits .u64))))) == (0 : Int))
  True
  (cond (ex_10 == (0 : Int))
  (numm_whole.Pre3 k_0 f_1 neg_8 (IntKind.wrap .u64 ((1 : Int) * 2 ^ (min (Int.toNat (IntKind.wrap .u64 (IntKind.wrap .i64 ((IntKind.wrap .i64 (p_7 - (1 : Int))) - ex_10)))) (IntKind.bits .u64)))) (Int.tmod body_9 (IntKind.wrap .u64 ((1 : Int) * 2 ^ (min (Int.toNat (IntKind.wrap .u64 (IntKind.wrap .i64 ((IntKind.wrap .i64 (p_7 - (1 : Int))) - ex_10)))) (IntKind.bits .u64))))) (IntKind.wrap .u64 (body_9 - (Int.tmod body_9 (IntKind.wrap .u64 ((1 : Int) * 2 ^ (min (Int.toNat (IntKind.wrap .u64 (IntKind.wrap .i64 ((IntKind.wrap .i64 (p_7 - (1 : Int))) - ex_10)))) (IntKind.bits .u64))))))) true)
  ((IntKind.u64 = IntKind.u64) ∧ (IntKind.wrap .u64 ((1 : Int) * 2 ^ (min (Int.toNat (IntKind.wrap .u64 (IntKind.wrap .i64 ((IntKind.wrap .i64 (p_7 - (1 : Int))) - ex_10)))) (IntKind.bits .u64)))) ≠ 0 ∧ (numm_whole.Pre3 k_0 f_1 neg_8 (IntKind.wrap .u64 ((1 : Int) * 2 ^ (min (Int.toNat (IntKind.wrap .u64 (IntKind.wrap .i64 ((IntKind.wrap .i64 (p_7 - (1 : Int))) - ex_10)))) (IntKind.bits .u64)))) (Int.tmod body_9 (IntKind.wrap .u64 ((1 : Int) * 2 ^ (min (Int.toNat (IntKind.wrap .u64 (IntKind.wrap .i64 ((IntKind.wrap .i64 (p_7 - (1 : Int))) - ex_10)))) (IntKind.bits .u64))))) (IntKind.wrap .u64 (body_9 - (Int.tmod body_9 (IntKind.wrap .u64 ((1 : Int) * 2 ^ (min (Int.toNat (IntKind.wrap .u64 (IntKind.wrap .i64 ((IntKind.wrap .i64 (p_7 - (1 : Int))) - ex_10)))) (IntKind.bits .u64))))))) ((Int.tmod (IntKind.wrap .u64 (Int.tdiv (IntKind.wrap .u64 (body_9 - (Int.tmod body_9 (IntKind.wrap .u64 ((1 : Int) * 2 ^ (min (Int.toNat (IntKind.wrap .u64 (IntKind.wrap .i64 ((IntKind.wrap .i64 (p_7 - (1 : Int))) - ex_10)))) (IntKind.bits .u64))))))) (IntKind.wrap .u64 ((1 : Int) * 2 ^ (min (Int.toNat (IntKind.wrap .u64 (IntKind.wrap .i64 ((IntKind.wrap .i64 (p_7 - (1 : Int))) - ex_10)))) (IntKind.bits .u64)))))) 2) == (1 : Int)))))))))))
theorem numm_whole.F1_ok (k_0 : Int) (f_1 : Int) (a_2 : Int) (p_7 : Int) (neg_8 : Bool) (body_9 : Int) (ex_10 : Int) (t_50 : Bool) (R : Value → World → Prop) (w : World) (h : numm_whole.S R w (numm_whole.F1 k_0 f_1 a_2 p_7 neg_8 body_9 ex_10 t_50)) (hp : numm_whole.Pre1 k_0 f_1 a_2 p_7 neg_8 body_9 ex_10 t_50) : numm_whole.L1 k_0 f_1 a_2 p_7 neg_8 body_9 ex_10 t_50 R w :=
  numm_whole.step1 k_0 f_1 a_2 p_7 neg_8 body_9 ex_10 t_50 R w (cond_mapP (S := numm_whole.S R w) h hp (fun h hp => h) (fun h hp => (Runs.pure_bind (numm_bias.pure f_1 w) ⟨(numm_bias.F f_1), rfl, ⟨(hp).1, (cond_mapP (S := numm_whole.S R w) h (hp).2 (fun h hp => (cond_mapP (S := numm_whole.S R w) h hp (fun h hp => (cond_mapP (S := numm_whole.S R w) h hp (fun h hp => (numm_whole.F2_ok f_1 neg_8 (IntKind.wrap .u64 ((IntKind.wrap .u64 (numm_bias.F f_1)) * 2 ^ (min (Int.toNat (IntKind.wrap .u64 (IntKind.wrap .i64 (p_7 - (1 : Int))))) (IntKind.bits .u64)))) true R w h hp)) (fun h hp => (cond_mapP (S := numm_whole.S R w) h hp (fun h hp => (cond_mapP (S := numm_whole.S R w) h hp (fun h hp => (numm_whole.F2_ok f_1 neg_8 (IntKind.wrap .u64 ((IntKind.wrap .u64 (numm_bias.F f_1)) * 2 ^ (min (Int.toNat (IntKind.wrap .u64 (IntKind.wrap .i64 (p_7 - (1 : Int))))) (IntKind.bits .u64)))) true R w h hp)) (fun h hp => (cond_mapP (S := numm_whole.S R w) h hp (fun h hp => ⟨(hp).1, (numm_whole.F2_ok f_1 neg_8 (IntKind.wrap .u64 ((IntKind.wrap .u64 (numm_bias.F f_1)) * 2 ^ (min (Int.toNat (IntKind.wrap .u64 (IntKind.wrap .i64 (p_7 - (1 : Int))))) (IntKind.bits .u64)))) (decide (body_9 > (IntKind.wrap .u64 ((IntKind.wrap .u64 ((IntKind.wrap .u64 (numm_bias.F f_1)) * 2 ^ (min (Int.toNat (IntKind.wrap .u64 (IntKind.wrap .i64 (p_7 - (1 : Int))))) (IntKind.bits .u64)))) - (IntKind.wrap .u64 ((1 : Int) * 2 ^ (min (Int.toNat (IntKind.wrap .u64 (IntKind.wrap .i64 (p_7 - (1 : Int))))) (IntKind.bits .u64)))))))) R w h (hp).2)⟩) (fun h hp => (numm_whole.F2_ok f_1 neg_8 (IntKind.wrap .u64 ((IntKind.wrap .u64 (numm_bias.F f_1)) * 2 ^ (min (Int.toNat (IntKind.wrap .u64 (IntKind.wrap .i64 (p_7 - (1 : Int))))) (IntKind.bits .u64)))) false R w h hp)))))) (fun h hp => (cond_mapP (S := numm_whole.S R w) h hp (fun h hp => ⟨(hp).1, (numm_whole.F2_ok f_1 neg_8 (IntKind.wrap .u64 ((IntKind.wrap .u64 (numm_bias.F f_1)) * 2 ^ (min (Int.toNat (IntKind.wrap .u64 (IntKind.wrap .i64 (p_7 - (1 : Int))))) (IntKind.bits .u64)))) (decide (body_9 > (IntKind.wrap .u64 ((IntKind.wrap .u64 ((IntKind.wrap .u64 (numm_bias.F f_1)) * 2 ^ (min (Int.toNat (IntKind.wrap .u64 (IntKind.wrap .i64 (p_7 - (1 : Int))))) (IntKind.bits .u64)))) - (IntKind.wrap .u64 ((1 : Int) * 2 ^ (min (Int.toNat (IntKind.wrap .u64 (IntKind.wrap .i64 (p_7 - (1 : Int))))) (IntKind.bits .u64)))))))) R w h (hp).2)⟩) (fun h hp => (numm_whole.F2_ok f_1 neg_8 (IntKind.wrap .u64 ((IntKind.wrap .u64 (numm_bias.F f_1)) * 2 ^ (min (Int.toNat (IntKind.wrap .u64 (IntKind.wrap .i64 (p_7 - (1 : Int))))) (IntKind.bits .u64)))) false R w h hp)))))))) (fun h hp => (cond_mapP (S := numm_whole.S R w) h hp (fun h hp => (cond_mapP (S := numm_whole.S R w) h hp (fun h hp => (numm_whole.F2_ok f_1 neg_8 (IntKind.wrap .u64 ((IntKind.wrap .u64 (numm_bias.F f_1)) * 2 ^ (min (Int.toNat (IntKind.wrap .u64 (IntKind.wrap .i64 (p_7 - (1 : Int))))) (IntKind.bits .u64)))) true R w h hp)) (fun h hp => (cond_mapP (S := numm_whole.S R w) h hp (fun h hp => ⟨(hp).1, (numm_whole.F2_ok f_1 neg_8 (IntKind.wrap .u64 ((IntKind.wrap .u64 (numm_bias.F f_1)) * 2 ^ (min (Int.toNat (IntKind.wrap .u64 (IntKind.wrap .i64 (p_7 - (1 : Int))))) (IntKind.bits .u64)))) (decide (body_9 > (IntKind.wrap .u64 ((IntKind.wrap .u64 ((IntKind.wrap .u64 (numm_bias.F f_1)) * 2 ^ (min (Int.toNat (IntKind.wrap .u64 (IntKind.wrap .i64 (p_7 - (1 : Int))))) (IntKind.bits .u64)))) - (IntKind.wrap .u64 ((1 : Int) * 2 ^ (min (Int.toNat (IntKind.wrap .u64 (IntKind.wrap .i64 (p_7 - (1 : Int))))) (IntKind.bits .u64)))))))) R w h (hp).2)⟩) (fun h hp => (numm_whole.F2_ok f_1 neg_8 (IntKind.wrap .u64 ((IntKind.wrap .u64 (numm_bias.F f_1)) * 2 ^ (min (Int.toNat (IntKind.wrap .u64 (IntKind.wrap .i64 (p_7 - (1 : Int))))) (IntKind.bits .u64)))) false R w h hp)))))) (fun h hp => (cond_mapP (S := numm_whole.S R w) h hp (fun h hp => ⟨(hp).1, (numm_whole.F2_ok f_1 neg_8 (IntKind.wrap .u64 ((IntKind.wrap .u64 (numm_bias.F f_1)) * 2 ^ (min (Int.toNat (IntKind.wrap .u64 (IntKind.wrap .i64 (p_7 - (1 : Int))))) (IntKind.bits .u64)))) (decide (body_9 > (IntKind.wrap .u64 ((IntKind.wrap .u64 ((IntKind.wrap .u64 (numm_bias.F f_1)) * 2 ^ (min (Int.toNat (IntKind.wrap .u64 (IntKind.wrap .i64 (p_7 - (1 : Int))))) (IntKind.bits .u64)))) - (IntKind.wrap .u64 ((1 : Int) * 2 ^ (min (Int.toNat (IntKind.wrap .u64 (IntKind.wrap .i64 (p_7 - (1 : Int))))) (IntKind.bits .u64)))))))) R w h (hp).2)⟩) (fun h hp => (numm_whole.F2_ok f_1 neg_8 (IntKind.wrap .u64 ((IntKind.wrap .u64 (numm_bias.F f_1)) * 2 ^ (min (Int.toNat (IntKind.wrap .u64 (IntKind.wrap .i64 (p_7 - (1 : Int))))) (IntKind.bits .u64)))) false R w h hp)))))))) (fun h hp => ⟨(hp).1, ⟨((hp).2).1, (((hp).2).2).1, (cond_mapP (S := numm_whole.S R w) h (((hp).2).2).2 (fun h hp => h) (fun h hp => (cond_mapP (S := numm_whole.S R w) h hp (fun h hp => (numm_whole.F3_ok k_0 f_1 neg_8 (IntKind.wrap .u64 ((1 : Int) * 2 ^ (min (Int.toNat (IntKind.wrap .u64 (IntKind.wrap .i64 ((IntKind.wrap .i64 (p_7 - (1 : Int))) - ex_10)))) (IntKind.bits .u64)))) (Int.tmod body_9 (IntKind.wrap .u64 ((1 : Int) * 2 ^ (min (Int.toNat (IntKind.wrap .u64 (IntKind.wrap .i64 ((IntKind.wrap .i64 (p_7 - (1 : Int))) - ex_10)))) (IntKind.bits .u64))))) (IntKind.wrap .u64 (body_9 - (Int.tmod body_9 (IntKind.wrap .u64 ((1 : Int) * 2 ^ (min (Int.toNat (IntKind.wrap .u64 (IntKind.wrap .i64 ((IntKind.wrap .i64 (p_7 - (1 : Int))) - ex_10)))) (IntKind.bits .u64))))))) true R w h hp)) (fun h hp => ⟨(hp).1, ((hp).2).1, (numm_whole.F3_ok k_0 f_1 neg_8 (IntKind.wrap .u64 ((1 : Int) * 2 ^ (min (Int.toNat (IntKind.wrap .u64 (IntKind.wrap .i64 ((IntKind.wrap .i64 (p_7 - (1 : Int))) - ex_10)))) (IntKind.bits .u64)))) (Int.tmod body_9 (IntKind.wrap .u64 ((1 : Int) * 2 ^ (min (Int.toNat (IntKind.wrap .u64 (IntKind.wrap .i64 ((IntKind.wrap .i64 (p_7 - (1 : Int))) - ex_10)))) (IntKind.bits .u64))))) (IntKind.wrap .u64 (body_9 - (Int.tmod body_9 (IntKind.wrap .u64 ((1 : Int) * 2 ^ (min (Int.toNat (IntKind.wrap .u64 (IntKind.wrap .i64 ((IntKind.wrap .i64 (p_7 - (1 : Int))) - ex_10)))) (IntKind.bits .u64))))))) ((Int.tmod (IntKind.wrap .u64 (Int.tdiv (IntKind.wrap .u64 (body_9 - (Int.tmod body_9 (IntKind.wrap .u64 ((1 : Int) * 2 ^ (min (Int.toNat (IntKind.wrap .u64 (IntKind.wrap .i64 ((IntKind.wrap .i64 (p_7 - (1 : Int))) - ex_10)))) (IntKind.bits .u64))))))) (IntKind.wrap .u64 ((1 : Int) * 2 ^ (min (Int.toNat (IntKind.wrap .u64 (IntKind.wrap .i64 ((IntKind.wrap .i64 (p_7 - (1 : Int))) - ex_10)))) (IntKind.bits .u64)))))) 2) == (1 : Int)) R w h ((hp).2).2)⟩))))⟩⟩))⟩⟩)))
def numm_whole.F (k_0 : Int) (f_1 : Int) (a_2 : Int) : Int :=
  (cond (numm_isNaN.F f_1 a_2)
  ((numm_canon.F f_1))
  (cond (decide ((IntKind.wrap .i64 ((IntKind.wrap .i64 (Int.fdiv (bAnd .u64 a_2 (IntKind.wrap .u64 ((numm_top.F f_1) - (1 : Int)))) (2 ^ (min (Int.toNat (IntKind.wrap .u64 (IntKind.wrap .i64 ((numm_prec.F f_1) - (1 : Int))))) (IntKind.bits .u64))))) - (numm_bias.F f_1))) ≥ (IntKind.wrap .i64 ((numm_prec.F f_1) - (1 : Int)))))
  (numm_whole.F1 k_0 f_1 a_2 (numm_prec.F f_1) (decide (a_2 ≥ (numm_top.F f_1))) (bAnd .u64 a_2 (IntKind.wrap .u64 ((numm_top.F f_1) - (1 : Int)))) (IntKind.wrap .i64 ((IntKind.wrap .i64 (Int.fdiv (bAnd .u64 a_2 (IntKind.wrap .u64 ((numm_top.F f_1) - (1 : Int)))) (2 ^ (min (Int.toNat (IntKind.wrap .u64 (IntKind.wrap .i64 ((numm_prec.F f_1) - (1 : Int))))) (IntKind.bits .u64))))) - (numm_bias.F f_1))) true)
  (numm_whole.F1 k_0 f_1 a_2 (numm_prec.F f_1) (decide (a_2 ≥ (numm_top.F f_1))) (bAnd .u64 a_2 (IntKind.wrap .u64 ((numm_top.F f_1) - (1 : Int)))) (IntKind.wrap .i64 ((IntKind.wrap .i64 (Int.fdiv (bAnd .u64 a_2 (IntKind.wrap .u64 ((numm_top.F f_1) - (1 : Int)))) (2 ^ (min (Int.toNat (IntKind.wrap .u64 (IntKind.wrap .i64 ((numm_prec.F f_1) - (1 : Int))))) (IntKind.bits .u64))))) - (numm_bias.F f_1))) ((bAnd .u64 a_2 (IntKind.wrap .u64 ((numm_top.F f_1) - (1 : Int)))) == (0 : Int)))))
def numm_whole.Pre (k_0 : Int) (f_1 : Int) (a_2 : Int) : Prop :=
  ((numm_isNaN.Pre f_1 a_2) ∧ (cond (numm_isNaN.F f_1 a_2)
  True
  ((numm_top.Pre f_1) ∧ ((numm_top.Pre f_1) ∧ (0 ≤ (IntKind.wrap .u64 (IntKind.wrap .i64 ((numm_prec.F f_1) - (1 : Int)))) ∧ (cond (decide ((IntKind.wrap .i64 ((IntKind.wrap .i64 (Int.fdiv (bAnd .u64 a_2 (IntKind.wrap .u64 ((numm_top.F f_1) - (1 : Int)))) (2 ^ (min (Int.toNat (IntKind.wrap .u64 (IntKind.wrap .i64 ((numm_prec.F f_1) - (1 : Int))))) (IntKind.bits .u64))))) - (numm_bias.F f_1))) ≥ (IntKind.wrap .i64 ((numm_prec.F f_1) - (1 : Int)))))
  (numm_whole.Pre1 k_0 f_1 a_2 (numm_prec.F f_1) (decide (a_2 ≥ (numm_top.F f_1))) (bAnd .u64 a_2 (IntKind.wrap .u64 ((numm_top.F f_1) - (1 : Int)))) (IntKind.wrap .i64 ((IntKind.wrap .i64 (Int.fdiv (bAnd .u64 a_2 (IntKind.wrap .u64 ((numm_top.F f_1) - (1 : Int)))) (2 ^ (min (Int.toNat (IntKind.wrap .u64 (IntKind.wrap .i64 ((numm_prec.F f_1) - (1 : Int))))) (IntKind.bits .u64))))) - (numm_bias.F f_1))) true)
  (numm_whole.Pre1 k_0 f_1 a_2 (numm_prec.F f_1) (decide (a_2 ≥ (numm_top.F f_1))) (bAnd .u64 a_2 (IntKind.wrap .u64 ((numm_top.F f_1) - (1 : Int)))) (IntKind.wrap .i64 ((IntKind.wrap .i64 (Int.fdiv (bAnd .u64 a_2 (IntKind.wrap .u64 ((numm_top.F f_1) - (1 : Int)))) (2 ^ (min (Int.toNat (IntKind.wrap .u64 (IntKind.wrap .i64 ((numm_prec.F f_1) - (1 : Int))))) (IntKind.bits .u64))))) - (numm_bias.F f_1))) ((bAnd .u64 a_2 (IntKind.wrap .u64 ((numm_top.F f_1) - (1 : Int)))) == (0 : Int)))))))))
theorem numm_whole.F_ok (k_0 : Int) (f_1 : Int) (a_2 : Int) (R : Value → World → Prop) (w : World) (h : numm_whole.S R w (numm_whole.F k_0 f_1 a_2)) (hp : numm_whole.Pre k_0 f_1 a_2) : numm_whole.V k_0 f_1 a_2 R w :=
  (Runs.pure_bind (numm_isNaN.pure f_1 a_2 w (hp).1) ⟨(numm_isNaN.F f_1 a_2), rfl, (cond_mapP (S := numm_whole.S R w) h (hp).2 (fun h hp => (Runs.pure_bind (numm_canon.pure f_1 w) ⟨(numm_canon.F f_1), rfl, h⟩)) (fun h hp => (Runs.pure_bind (numm_prec.pure f_1 w) ⟨(numm_prec.F f_1), rfl, (Runs.pure_bind (numm_top.pure f_1 w (hp).1) ⟨(numm_top.F f_1), rfl, (Runs.pure_bind (numm_top.pure f_1 w ((hp).2).1) ⟨(numm_top.F f_1), rfl, ⟨(((hp).2).2).1, (Runs.pure_bind (numm_bias.pure f_1 w) ⟨(numm_bias.F f_1), rfl, (cond_mapP (S := numm_whole.S R w) h (((hp).2).2).2 (fun h hp => (numm_whole.F1_ok k_0 f_1 a_2 (numm_prec.F f_1) (decide (a_2 ≥ (numm_top.F f_1))) (bAnd .u64 a_2 (IntKind.wrap .u64 ((numm_top.F f_1) - (1 : Int)))) (IntKind.wrap .i64 ((IntKind.wrap .i64 (Int.fdiv (bAnd .u64 a_2 (IntKind.wrap .u64 ((numm_top.F f_1) - (1 : Int)))) (2 ^ (min (Int.toNat (IntKind.wrap .u64 (IntKind.wrap .i64 ((numm_prec.F f_1) - (1 : Int))))) (IntKind.bits .u64))))) - (numm_bias.F f_1))) true R w h hp)) (fun h hp => (numm_whole.F1_ok k_0 f_1 a_2 (numm_prec.F f_1) (decide (a_2 ≥ (numm_top.F f_1))) (bAnd .u64 a_2 (IntKind.wrap .u64 ((numm_top.F f_1) - (1 : Int)))) (IntKind.wrap .i64 ((IntKind.wrap .i64 (Int.fdiv (bAnd .u64 a_2 (IntKind.wrap .u64 ((numm_top.F f_1) - (1 : Int)))) (2 ^ (min (Int.toNat (IntKind.wrap .u64 (IntKind.wrap .i64 ((numm_prec.F f_1) - (1 : Int))))) (IntKind.bits .u64))))) - (numm_bias.F f_1))) ((bAnd .u64 a_2 (IntKind.wrap .u64 ((numm_top.F f_1) - (1 : Int)))) == (0 : Int)) R w h hp)))⟩)⟩⟩)⟩)⟩)))⟩)
theorem numm_whole.pure (k_0 : Int) (f_1 : Int) (a_2 : Int) (w : World) (hp : numm_whole.Pre k_0 f_1 a_2) : Runs Try.prog numm_whole.id #[(.int .i64 k_0), (.int .i64 f_1), (.int .u64 a_2)] w fun v w' => v = (.int .u64 (numm_whole.F k_0 f_1 a_2)) ∧ w' = w :=
  numm_whole.enter k_0 f_1 a_2 _ w (numm_whole.F_ok k_0 f_1 a_2 _ w ⟨rfl, rfl⟩ hp)

/-! e2e/numm.infinity: it only computes -/
def numm_infinity.S (R : Value → World → Prop) (w : World) (r : Int) : Prop := R (.int .u64 r) w
def numm_infinity.F (f_0 : Int) (neg_1 : Bool) : Int :=
  ((IntKind.wrap .u64 ((numm_sign.F f_0 neg_1) + (numm_infOf.F f_0))))
def numm_infinity.Pre (f_0 : Int) (neg_1 : Bool) : Prop :=
  ((numm_sign.Pre f_0 neg_1) ∧ ((numm_infOf.Pre f_0) ∧ True))
theorem numm_infinity.F_ok (f_0 : Int) (neg_1 : Bool) (R : Value → World → Prop) (w : World) (h : numm_infinity.S R w (numm_infinity.F f_0 neg_1)) (hp : numm_infinity.Pre f_0 neg_1) : numm_infinity.V f_0 neg_1 R w :=
  (Runs.pure_bind (numm_sign.pure f_0 neg_1 w (hp).1) ⟨(numm_sign.F f_0 neg_1), rfl, (Runs.pure_bind (numm_infOf.pure f_0 w ((hp).2).1) ⟨(numm_infOf.F f_0), rfl, h⟩)⟩)
theorem numm_infinity.pure (f_0 : Int) (neg_1 : Bool) (w : World) (hp : numm_infinity.Pre f_0 neg_1) : Runs Try.prog numm_infinity.id #[(.int .i64 f_0), (.bool neg_1)] w fun v w' => v = (.int .u64 (numm_infinity.F f_0 neg_1)) ∧ w' = w :=
  numm_infinity.enter f_0 neg_1 _ w (numm_infinity.F_ok f_0 neg_1 _ w ⟨rfl, rfl⟩ hp)

/-! e2e/numm.mul64: it only computes -/
def numm_mul64.S (R : Value → World → Prop) (w : World) (r : Int × Int) : Prop := R (.tuple #[(.int .u64 (r).1), (.int .u64 (r).2)]) w
def numm_mul64.F10 (hi_4 : Int) (lo_5 : Int) : Int × Int :=
  (hi_4, lo_5)
theorem numm_mul64.F10_ok (hi_4 : Int) (lo_5 : Int) (R : Value → World → Prop) (w : World) (h : numm_mul64.S R w (numm_mul64.F10 hi_4 lo_5)) : numm_mul64.L10 hi_4 lo_5 R w :=
  numm_mul64.step10 hi_4 lo_5 R w h
def numm_mul64.F9 (x_0 : Int) (y_1 : Int) (hi_4 : Int) : Int × Int :=
  (numm_mul64.F10 hi_4 (IntKind.wrap .u64 (x_0 * y_1)))
theorem numm_mul64.F9_ok (x_0 : Int) (y_1 : Int) (hi_4 : Int) (R : Value → World → Prop) (w : World) (h : numm_mul64.S R w (numm_mul64.F9 x_0 y_1 hi_4)) : numm_mul64.L9 x_0 y_1 hi_4 R w :=
  numm_mul64.step9 x_0 y_1 hi_4 R w (numm_mul64.F10_ok hi_4 (IntKind.wrap .u64 (x_0 * y_1)) R w h)
def numm_mul64.F8 (x_0 : Int) (y_1 : Int) (x1_7 : Int) (y1_9 : Int) (t_11 : Int) (w1_12 : Int) : Int × Int :=
  (numm_mul64.F9 x_0 y_1 (IntKind.wrap .u64 ((IntKind.wrap .u64 ((IntKind.wrap .u64 (x1_7 * y1_9)) + (Int.fdiv t_11 (2 ^ (32 : Nat))))) + (Int.fdiv w1_12 (2 ^ (32 : Nat))))))
theorem numm_mul64.F8_ok (x_0 : Int) (y_1 : Int) (x1_7 : Int) (y1_9 : Int) (t_11 : Int) (w1_12 : Int) (R : Value → World → Prop) (w : World) (h : numm_mul64.S R w (numm_mul64.F8 x_0 y_1 x1_7 y1_9 t_11 w1_12)) : numm_mul64.L8 x_0 y_1 x1_7 y1_9 t_11 w1_12 R w :=
  numm_mul64.step8 x_0 y_1 x1_7 y1_9 t_11 w1_12 R w (numm_mul64.F9_ok x_0 y_1 (IntKind.wrap .u64 ((IntKind.wrap .u64 ((IntKind.wrap .u64 (x1_7 * y1_9)) + (Int.fdiv t_11 (2 ^ (32 : Nat))))) + (Int.fdiv w1_12 (2 ^ (32 : Nat))))) R w h)
def numm_mul64.F7 (x_0 : Int) (y_1 : Int) (x0_6 : Int) (x1_7 : Int) (y1_9 : Int) (t_11 : Int) : Int × Int :=
  (numm_mul64.F8 x_0 y_1 x1_7 y1_9 t_11 (IntKind.wrap .u64 ((bAnd .u64 t_11 4294967295) + (IntKind.wrap .u64 (x0_6 * y1_9)))))
theorem numm_mul64.F7_ok (x_0 : Int) (y_1 : Int) (x0_6 : Int) (x1_7 : Int) (y1_9 : Int) (t_11 : Int) (R : Value → World → Prop) (w : World) (h : numm_mul64.S R w (numm_mul64.F7 x_0 y_1 x0_6 x1_7 y1_9 t_11)) : numm_mul64.L7 x_0 y_1 x0_6 x1_7 y1_9 t_11 R w :=
  numm_mul64.step7 x_0 y_1 x0_6 x1_7 y1_9 t_11 R w (numm_mul64.F8_ok x_0 y_1 x1_7 y1_9 t_11 (IntKind.wrap .u64 ((bAnd .u64 t_11 4294967295) + (IntKind.wrap .u64 (x0_6 * y1_9)))) R w h)
def numm_mul64.F6 (x_0 : Int) (y_1 : Int) (x0_6 : Int) (x1_7 : Int) (y0_8 : Int) (y1_9 : Int) (w0_10 : Int) : Int × Int :=
  (numm_mul64.F7 x_0 y_1 x0_6 x1_7 y1_9 (IntKind.wrap .u64 ((IntKind.wrap .u64 (x1_7 * y0_8)) + (Int.fdiv w0_10 (2 ^ (32 : Nat))))))
theorem numm_mul64.F6_ok (x_0 : Int) (y_1 : Int) (x0_6 : Int) (x1_7 : Int) (y0_8 : Int) (y1_9 : Int) (w0_10 : Int) (R : Value → World → Prop) (w : World) (h : numm_mul64.S R w (numm_mul64.F6 x_0 y_1 x0_6 x1_7 y0_8 y1_9 w0_10)) : numm_mul64.L6 x_0 y_1 x0_6 x1_7 y0_8 y1_9 w0_10 R w :=
  numm_mul64.step6 x_0 y_1 x0_6 x1_7 y0_8 y1_9 w0_10 R w (numm_mul64.F7_ok x_0 y_1 x0_6 x1_7 y1_9 (IntKind.wrap .u64 ((IntKind.wrap .u64 (x1_7 * y0_8)) + (Int.fdiv w0_10 (2 ^ (32 : Nat))))) R w h)
def numm_mul64.F5 (x_0 : Int) (y_1 : Int) (x0_6 : Int) (x1_7 : Int) (y0_8 : Int) (y1_9 : Int) : Int × Int :=
  (numm_mul64.F6 x_0 y_1 x0_6 x1_7 y0_8 y1_9 (IntKind.wrap .u64 (x0_6 * y0_8)))
theorem numm_mul64.F5_ok (x_0 : Int) (y_1 : Int) (x0_6 : Int) (x1_7 : Int) (y0_8 : Int) (y1_9 : Int) (R : Value → World → Prop) (w : World) (h : numm_mul64.S R w (numm_mul64.F5 x_0 y_1 x0_6 x1_7 y0_8 y1_9)) : numm_mul64.L5 x_0 y_1 x0_6 x1_7 y0_8 y1_9 R w :=
  numm_mul64.step5 x_0 y_1 x0_6 x1_7 y0_8 y1_9 R w (numm_mul64.F6_ok x_0 y_1 x0_6 x1_7 y0_8 y1_9 (IntKind.wrap .u64 (x0_6 * y0_8)) R w h)
def numm_mul64.F4 (x_0 : Int) (y_1 : Int) (x0_6 : Int) (x1_7 : Int) (y0_8 : Int) : Int × Int :=
  (numm_mul64.F5 x_0 y_1 x0_6 x1_7 y0_8 (Int.fdiv y_1 (2 ^ (32 : Nat))))
theorem numm_mul64.F4_ok (x_0 : Int) (y_1 : Int) (x0_6 : Int) (x1_7 : Int) (y0_8 : Int) (R : Value → World → Prop) (w : World) (h : numm_mul64.S R w (numm_mul64.F4 x_0 y_1 x0_6 x1_7 y0_8)) : numm_mul64.L4 x_0 y_1 x0_6 x1_7 y0_8 R w :=
  numm_mul64.step4 x_0 y_1 x0_6 x1_7 y0_8 R w (numm_mul64.F5_ok x_0 y_1 x0_6 x1_7 y0_8 (Int.fdiv y_1 (2 ^ (32 : Nat))) R w h)
def numm_mul64.F3 (x_0 : Int) (y_1 : Int) (x0_6 : Int) (x1_7 : Int) : Int × Int :=
  (numm_mul64.F4 x_0 y_1 x0_6 x1_7 (bAnd .u64 y_1 4294967295))
theorem numm_mul64.F3_ok (x_0 : Int) (y_1 : Int) (x0_6 : Int) (x1_7 : Int) (R : Value → World → Prop) (w : World) (h : numm_mul64.S R w (numm_mul64.F3 x_0 y_1 x0_6 x1_7)) : numm_mul64.L3 x_0 y_1 x0_6 x1_7 R w :=
  numm_mul64.step3 x_0 y_1 x0_6 x1_7 R w (numm_mul64.F4_ok x_0 y_1 x0_6 x1_7 (bAnd .u64 y_1 4294967295) R w h)
def numm_mul64.F2 (x_0 : Int) (y_1 : Int) (x0_6 : Int) : Int × Int :=
  (numm_mul64.F3 x_0 y_1 x0_6 (Int.fdiv x_0 (2 ^ (32 : Nat))))
theorem numm_mul64.F2_ok (x_0 : Int) (y_1 : Int) (x0_6 : Int) (R : Value → World → Prop) (w : World) (h : numm_mul64.S R w (numm_mul64.F2 x_0 y_1 x0_6)) : numm_mul64.L2 x_0 y_1 x0_6 R w :=
  numm_mul64.step2 x_0 y_1 x0_6 R w (numm_mul64.F3_ok x_0 y_1 x0_6 (Int.fdiv x_0 (2 ^ (32 : Nat))) R w h)
def numm_mul64.F1 (x_0 : Int) (y_1 : Int) : Int × Int :=
  (numm_mul64.F2 x_0 y_1 (bAnd .u64 x_0 4294967295))
theorem numm_mul64.F1_ok (x_0 : Int) (y_1 : Int) (R : Value → World → Prop) (w : World) (h : numm_mul64.S R w (numm_mul64.F1 x_0 y_1)) : numm_mul64.L1 x_0 y_1 R w :=
  numm_mul64.step1 x_0 y_1 R w (numm_mul64.F2_ok x_0 y_1 (bAnd .u64 x_0 4294967295) R w h)
def numm_mul64.F (x_0 : Int) (y_1 : Int) : Int × Int :=
  (numm_mul64.F1 x_0 y_1)
theorem numm_mul64.F_ok (x_0 : Int) (y_1 : Int) (R : Value → World → Prop) (w : World) (h : numm_mul64.S R w (numm_mul64.F x_0 y_1)) : numm_mul64.V x_0 y_1 R w :=
  (numm_mul64.F1_ok x_0 y_1 R w h)
theorem numm_mul64.pure (x_0 : Int) (y_1 : Int) (w : World) : Runs Try.prog numm_mul64.id #[(.int .u64 x_0), (.int .u64 y_1)] w fun v w' => v = (.tuple #[(.int .u64 ((numm_mul64.F x_0 y_1)).1), (.int .u64 ((numm_mul64.F x_0 y_1)).2)]) ∧ w' = w :=
  numm_mul64.enter x_0 y_1 _ w (numm_mul64.F_ok x_0 y_1 _ w ⟨rfl, rfl⟩)

end Go.Proofs.Qxb6500320a
