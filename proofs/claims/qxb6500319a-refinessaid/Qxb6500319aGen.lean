/-
  Made by tools/vcgen.py for seat Qxb6500319a: the conditions of each function.
-/
import Derived.Test.Qxb6500319aLib
import Derived.Test.Qxb6500319aProg
set_option linter.unusedVariables false
set_option maxRecDepth 100000
set_option maxHeartbeats 4000000
namespace Go.Proofs.Qxb6500319a
open Go Go.Vc
theorem good_all : (Try.prog.funcs.all fun fn => !(fn.name == "runtime.NumGoroutine")) = true := by decide +kernel
theorem good : Good Try.prog := by
  intro f fn hf
  have h := Array.all_eq_true_iff_forall_mem.1 good_all fn (Array.mem_of_getElem? hf)
  simpa using h
theorem mixed : Try.prog.follows .mixedOrders = true := by kernel_rfl
abbrev T___ : Nat := 0
abbrev T_int : Nat := 3
abbrev T_uint8 : Nat := 5
abbrev T_string : Nat := 9
abbrev T_sl_uint8 : Nat := 36
abbrev T_memlaw_Ghost : Nat := 40
abbrev T_api_Op : Nat := 43
abbrev T_mem_Store : Nat := 48
abbrev T_sl_uint64 : Nat := 49
abbrev T__4_uint8 : Nat := 55
abbrev T__8_uint8 : Nat := 57
abbrev T_sl_int : Nat := 60
abbrev T_api_Ans : Nat := 64
abbrev T__20_uint8 : Nat := 73
abbrev T__16_uint8 : Nat := 74
abbrev T_memm_Store : Nat := 90
abbrev T__2_uint8 : Nat := 97
theorem T_sl_uint8.el : Elem Try.prog T_sl_uint8 T_uint8 Try.t5 (.int .u8 0) 1 1 := ⟨by kernel_rfl, by kernel_rfl, by kernel_rfl, by kernel_rfl, by kernel_rfl, by kernel_rfl, by decide⟩
abbrev T_uint64 : Nat := 31
theorem T_sl_uint64.el : Elem Try.prog T_sl_uint64 T_uint64 Try.t31 (.int .u64 0) 1 8 := ⟨by kernel_rfl, by kernel_rfl, by kernel_rfl, by kernel_rfl, by kernel_rfl, by kernel_rfl, by decide⟩
theorem T_sl_int.el : Elem Try.prog T_sl_int T_int Try.t3 (.int .i64 0) 1 8 := ⟨by kernel_rfl, by kernel_rfl, by kernel_rfl, by kernel_rfl, by kernel_rfl, by kernel_rfl, by decide⟩
abbrev memlaw_Keeps.id : Nat := 3
abbrev memlaw_Refines.id : Nat := 4
abbrev memlaw_RefinesQuiet.id : Nat := 5
abbrev memlaw_KeepsUpTo.id : Nat := 6
abbrev memlaw_RefinesUpTo.id : Nat := 7
abbrev memlaw_RefinesQuietUpTo.id : Nat := 8
abbrev mem_New.id : Nat := 9
abbrev mem_Store_Reset.id : Nat := 10
abbrev mem_Store_Save.id : Nat := 11
abbrev mem_Store_SetElem.id : Nat := 12
abbrev mem_Store_SetGlobal.id : Nat := 13
abbrev mem_Store_Show.id : Nat := 14
abbrev memlaw_Kept.id : Nat := 15
abbrev mem_Store_Check.id : Nat := 16
abbrev memlaw_walk.id : Nat := 17
abbrev mem_Store_place.id : Nat := 18
abbrev api_Itoa.id : Nat := 19
abbrev api_HexStr.id : Nat := 20
abbrev api_Hex.id : Nat := 21
abbrev mem_Store_Fits.id : Nat := 22
abbrev memlaw_Do.id : Nat := 23
abbrev memlaw_Owed.id : Nat := 24
abbrev memlaw_Shown.id : Nat := 25
abbrev memlaw_Owes.id : Nat := 26
abbrev memm_New.id : Nat := 27
abbrev memlaw_Seen.id : Nat := 28
abbrev memlaw_DoM.id : Nat := 29
abbrev api_Word.id : Nat := 30
abbrev mem_Store_Pages.id : Nat := 31
abbrev mem_Store_Grow.id : Nat := 32
abbrev mem_Store_Load.id : Nat := 33
abbrev mem_Store_Write.id : Nat := 34
abbrev mem_Store_TabLen.id : Nat := 35
abbrev mem_Store_Elem.id : Nat := 36
abbrev mem_Store_Global.id : Nat := 37
abbrev api_MemSig.id : Nat := 38
abbrev memlaw_BadReset.id : Nat := 39
abbrev memlaw_More.id : Nat := 40
abbrev memlaw_Mem.id : Nat := 41
abbrev api_Cut.id : Nat := 42
abbrev memm_Store_Show.id : Nat := 43
abbrev memm_Store_Reset.id : Nat := 44
abbrev memm_Store_Pages.id : Nat := 45
abbrev memm_Store_Grow.id : Nat := 46
abbrev memm_Store_Load.id : Nat := 47
abbrev memm_Store_Save.id : Nat := 48
abbrev memm_Store_Fits.id : Nat := 49
abbrev memm_Store_Write.id : Nat := 50
abbrev memm_Store_TabLen.id : Nat := 51
abbrev memm_Store_Elem.id : Nat := 52
abbrev memm_Store_SetElem.id : Nat := 53
abbrev memm_Store_Global.id : Nat := 54
abbrev memm_Store_SetGlobal.id : Nat := 55
abbrev memm_Store_Check.id : Nat := 56
abbrev mem_Store_half.id : Nat := 57
abbrev mem_Store_long.id : Nat := 58
abbrev mem_word.id : Nat := 59
abbrev memm_halfOf.id : Nat := 60

/-! e2e/memlaw.Keeps -/
def memlaw_Keeps.cuts : List (Nat × List Nat) := []
def memlaw_Keeps.V (script_0 : Option Addr) (script_0l : Nat) (script_0c : Nat) (R : Value → World → Prop) (w : World) : Prop :=
  (Runs Try.prog memlaw_KeepsUpTo.id #[(.slice script_0 script_0l script_0c)] w fun r4 w5 => (∃ x6 : Int, (r4 = (.int .i64 x6) ∧ (R (.bool (x6 == (-1))) w5))))
theorem memlaw_Keeps.enter (script_0 : Option Addr) (script_0l : Nat) (script_0c : Nat) (R : Value → World → Prop) (w : World) (h : memlaw_Keeps.V script_0 script_0l script_0c R w) : Runs Try.prog memlaw_Keeps.id #[(.slice script_0 script_0l script_0c)] w R :=
  Runs.enter (c := bodyOf Try.f3) (N := 6) Try.func3 (by kernel_rfl) (by kernel_rfl) (by kernel_rfl) (seg_T good mixed Try.func3 600 false [.code (bodyOf Try.f3)] [(0, (.slice script_0 script_0l script_0c))] w (Eq.mp (show memlaw_Keeps.V script_0 script_0l script_0c R w = seg Try.prog 3 6 Try.f3.results.toList memlaw_Keeps.cuts R 600 false [.code (bodyOf Try.f3)] [(0, (.slice script_0 script_0l script_0c))] w by kernel_rfl) h))

/-! e2e/memlaw.Refines -/
def memlaw_Refines.cuts : List (Nat × List Nat) := []
def memlaw_Refines.V (script_0 : Option Addr) (script_0l : Nat) (script_0c : Nat) (R : Value → World → Prop) (w : World) : Prop :=
  (Runs Try.prog memlaw_RefinesUpTo.id #[(.slice script_0 script_0l script_0c)] w fun r4 w5 => (∃ x6 : Int, (r4 = (.int .i64 x6) ∧ (R (.bool (x6 == (-1))) w5))))
theorem memlaw_Refines.enter (script_0 : Option Addr) (script_0l : Nat) (script_0c : Nat) (R : Value → World → Prop) (w : World) (h : memlaw_Refines.V script_0 script_0l script_0c R w) : Runs Try.prog memlaw_Refines.id #[(.slice script_0 script_0l script_0c)] w R :=
  Runs.enter (c := bodyOf Try.f4) (N := 6) Try.func4 (by kernel_rfl) (by kernel_rfl) (by kernel_rfl) (seg_T good mixed Try.func4 600 false [.code (bodyOf Try.f4)] [(0, (.slice script_0 script_0l script_0c))] w (Eq.mp (show memlaw_Refines.V script_0 script_0l script_0c R w = seg Try.prog 4 6 Try.f4.results.toList memlaw_Refines.cuts R 600 false [.code (bodyOf Try.f4)] [(0, (.slice script_0 script_0l script_0c))] w by kernel_rfl) h))

/-! e2e/memlaw.RefinesQuiet -/
def memlaw_RefinesQuiet.cuts : List (Nat × List Nat) := []
def memlaw_RefinesQuiet.V (script_0 : Option Addr) (script_0l : Nat) (script_0c : Nat) (R : Value → World → Prop) (w : World) : Prop :=
  (Runs Try.prog memlaw_RefinesQuietUpTo.id #[(.slice script_0 script_0l script_0c)] w fun r4 w5 => (∃ x6 : Int, (r4 = (.int .i64 x6) ∧ (R (.bool (x6 == (-1))) w5))))
theorem memlaw_RefinesQuiet.enter (script_0 : Option Addr) (script_0l : Nat) (script_0c : Nat) (R : Value → World → Prop) (w : World) (h : memlaw_RefinesQuiet.V script_0 script_0l script_0c R w) : Runs Try.prog memlaw_RefinesQuiet.id #[(.slice script_0 script_0l script_0c)] w R :=
  Runs.enter (c := bodyOf Try.f5) (N := 6) Try.func5 (by kernel_rfl) (by kernel_rfl) (by kernel_rfl) (seg_T good mixed Try.func5 600 false [.code (bodyOf Try.f5)] [(0, (.slice script_0 script_0l script_0c))] w (Eq.mp (show memlaw_RefinesQuiet.V script_0 script_0l script_0c R w = seg Try.prog 5 6 Try.f5.results.toList memlaw_RefinesQuiet.cuts R 600 false [.code (bodyOf Try.f5)] [(0, (.slice script_0 script_0l script_0c))] w by kernel_rfl) h))

/-! e2e/memlaw.KeepsUpTo -/
def memlaw_KeepsUpTo.cuts : List (Nat × List Nat) := [(27, [0, 3, 4, 5, 6, 7, 8]), (30, [0, 3, 4, 5, 6, 7, 8]), (34, [0, 3, 4, 5, 6, 7, 8])]
def memlaw_KeepsUpTo.L1 (script_0 : Option Addr) (script_0l : Nat) (script_0c : Nat) (x_3 : Option Addr) (by_4 : Option Addr) (still_5 : ByteArray) (g_6 : Option Addr) (r_7 : Int) (i_8 : Int) (R : Value → World → Prop) (w : World) : Prop :=
  T Try.prog 6 72 [.inLoop (sub (bodyOf Try.f6) [1, 1, 1, 1, 1, 1, 1, 1, 1, 1, 1, 0, 1, 0, 0]), .inBlock 0, .code (sub (bodyOf Try.f6) [1, 1, 1, 1, 1, 1, 1, 1, 1, 1, 1, 1])] [(0, (.slice script_0 script_0l script_0c)), (3, (.pointer x_3)), (4, (.pointer by_4)), (5, (.string still_5)), (6, (.pointer g_6)), (7, (.int .i64 r_7)), (8, (.int .i64 i_8))] w R
def memlaw_KeepsUpTo.L2 (script_0 : Option Addr) (script_0l : Nat) (script_0c : Nat) (x_3 : Option Addr) (by_4 : Option Addr) (still_5 : ByteArray) (g_6 : Option Addr) (r_7 : Int) (i_8 : Int) (R : Value → World → Prop) (w : World) : Prop :=
  T Try.prog 6 72 [.code (sub (bodyOf Try.f6) [1, 1, 1, 1, 1, 1, 1, 1, 1, 1, 1, 0, 1, 0, 0, 1]), .inLoop (sub (bodyOf Try.f6) [1, 1, 1, 1, 1, 1, 1, 1, 1, 1, 1, 0, 1, 0, 0]), .inBlock 0, .code (sub (bodyOf Try.f6) [1, 1, 1, 1, 1, 1, 1, 1, 1, 1, 1, 1])] [(0, (.slice script_0 script_0l script_0c)), (3, (.pointer x_3)), (4, (.pointer by_4)), (5, (.string still_5)), (6, (.pointer g_6)), (7, (.int .i64 r_7)), (8, (.int .i64 i_8))] w R
def memlaw_KeepsUpTo.L3 (script_0 : Option Addr) (script_0l : Nat) (script_0c : Nat) (x_3 : Option Addr) (by_4 : Option Addr) (still_5 : ByteArray) (g_6 : Option Addr) (r_7 : Int) (i_8 : Int) (R : Value → World → Prop) (w : World) : Prop :=
  T Try.prog 6 72 [.code (sub (bodyOf Try.f6) [1, 1, 1, 1, 1, 1, 1, 1, 1, 1, 1, 0, 1, 0, 0, 1, 0, 0, 1]), .inBlock 1, .code (sub (bodyOf Try.f6) [1, 1, 1, 1, 1, 1, 1, 1, 1, 1, 1, 0, 1, 0, 0, 1, 1]), .inLoop (sub (bodyOf Try.f6) [1, 1, 1, 1, 1, 1, 1, 1, 1, 1, 1, 0, 1, 0, 0]), .inBlock 0, .code (sub (bodyOf Try.f6) [1, 1, 1, 1, 1, 1, 1, 1, 1, 1, 1, 1])] [(0, (.slice script_0 script_0l script_0c)), (3, (.pointer x_3)), (4, (.pointer by_4)), (5, (.string still_5)), (6, (.pointer g_6)), (7, (.int .i64 r_7)), (8, (.int .i64 i_8))] w R
def memlaw_KeepsUpTo.V1 (script_0 : Option Addr) (script_0l : Nat) (script_0c : Nat) (x_3 : Option Addr) (by_4 : Option Addr) (still_5 : ByteArray) (g_6 : Option Addr) (r_7 : Int) (i_8 : Int) (R : Value → World → Prop) (w : World) : Prop :=
  (cond (decide (i_8 < ((script_0l : Nat) : Int)))
  (cond (decide (i_8 < (4398046511104 : Int)))
  (memlaw_KeepsUpTo.L2 script_0 script_0l script_0c x_3 by_4 still_5 g_6 r_7 i_8 R w)
  (R (.int .i64 (-1)) w))
  (R (.int .i64 (-1)) w))
theorem memlaw_KeepsUpTo.step1 (script_0 : Option Addr) (script_0l : Nat) (script_0c : Nat) (x_3 : Option Addr) (by_4 : Option Addr) (still_5 : ByteArray) (g_6 : Option Addr) (r_7 : Int) (i_8 : Int) (R : Value → World → Prop) (w : World) (h : memlaw_KeepsUpTo.V1 script_0 script_0l script_0c x_3 by_4 still_5 g_6 r_7 i_8 R w) : memlaw_KeepsUpTo.L1 script_0 script_0l script_0c x_3 by_4 still_5 g_6 r_7 i_8 R w :=
  seg_T good mixed Try.func6 600 false [.inLoop (sub (bodyOf Try.f6) [1, 1, 1, 1, 1, 1, 1, 1, 1, 1, 1, 0, 1, 0, 0]), .inBlock 0, .code (sub (bodyOf Try.f6) [1, 1, 1, 1, 1, 1, 1, 1, 1, 1, 1, 1])] [(0, (.slice script_0 script_0l script_0c)), (3, (.pointer x_3)), (4, (.pointer by_4)), (5, (.string still_5)), (6, (.pointer g_6)), (7, (.int .i64 r_7)), (8, (.int .i64 i_8))] w (Eq.mp (show memlaw_KeepsUpTo.V1 script_0 script_0l script_0c x_3 by_4 still_5 g_6 r_7 i_8 R w = seg Try.prog 6 72 Try.f6.results.toList memlaw_KeepsUpTo.cuts R 600 false [.inLoop (sub (bodyOf Try.f6) [1, 1, 1, 1, 1, 1, 1, 1, 1, 1, 1, 0, 1, 0, 0]), .inBlock 0, .code (sub (bodyOf Try.f6) [1, 1, 1, 1, 1, 1, 1, 1, 1, 1, 1, 1])] [(0, (.slice script_0 script_0l script_0c)), (3, (.pointer x_3)), (4, (.pointer by_4)), (5, (.string still_5)), (6, (.pointer g_6)), (7, (.int .i64 r_7)), (8, (.int .i64 i_8))] w by kernel_rfl) h)
def memlaw_KeepsUpTo.V2 (script_0 : Option Addr) (script_0l : Nat) (script_0c : Nat) (x_3 : Option Addr) (by_4 : Option Addr) (still_5 : ByteArray) (g_6 : Option Addr) (r_7 : Int) (i_8 : Int) (R : Value → World → Prop) (w : World) : Prop :=
  ((0 ≤ i_8 ∧ i_8 < ((script_0l : Nat) : Int)) ∧ nilV script_0 fun a1 => (∃ x2 : Int, World.cell? w (Addr.add a1 (Int.toNat i_8 * 6)) = some (.int .i64 x2) ∧ (cond (x2 == (12 : Int))
  ((0 ≤ i_8 ∧ i_8 < ((script_0l : Nat) : Int)) ∧ nilV script_0 fun a3 => (∃ x4 : Int, World.cell? w ⟨(Addr.block (Addr.add a3 (Int.toNat i_8 * 6))), (Addr.off (Addr.add a3 (Int.toNat i_8 * 6)) + 1), none⟩ = some (.int .i64 x4) ∧ (memlaw_KeepsUpTo.L3 script_0 script_0l script_0c x_3 by_4 still_5 g_6 x4 i_8 R w)))
  (memlaw_KeepsUpTo.L3 script_0 script_0l script_0c x_3 by_4 still_5 g_6 r_7 i_8 R w))))
theorem memlaw_KeepsUpTo.step2 (script_0 : Option Addr) (script_0l : Nat) (script_0c : Nat) (x_3 : Option Addr) (by_4 : Option Addr) (still_5 : ByteArray) (g_6 : Option Addr) (r_7 : Int) (i_8 : Int) (R : Value → World → Prop) (w : World) (h : memlaw_KeepsUpTo.V2 script_0 script_0l script_0c x_3 by_4 still_5 g_6 r_7 i_8 R w) : memlaw_KeepsUpTo.L2 script_0 script_0l script_0c x_3 by_4 still_5 g_6 r_7 i_8 R w :=
  seg_T good mixed Try.func6 600 false [.code (sub (bodyOf Try.f6) [1, 1, 1, 1, 1, 1, 1, 1, 1, 1, 1, 0, 1, 0, 0, 1]), .inLoop (sub (bodyOf Try.f6) [1, 1, 1, 1, 1, 1, 1, 1, 1, 1, 1, 0, 1, 0, 0]), .inBlock 0, .code (sub (bodyOf Try.f6) [1, 1, 1, 1, 1, 1, 1, 1, 1, 1, 1, 1])] [(0, (.slice script_0 script_0l script_0c)), (3, (.pointer x_3)), (4, (.pointer by_4)), (5, (.string still_5)), (6, (.pointer g_6)), (7, (.int .i64 r_7)), (8, (.int .i64 i_8))] w (Eq.mp (show memlaw_KeepsUpTo.V2 script_0 script_0l script_0c x_3 by_4 still_5 g_6 r_7 i_8 R w = seg Try.prog 6 72 Try.f6.results.toList memlaw_KeepsUpTo.cuts R 600 false [.code (sub (bodyOf Try.f6) [1, 1, 1, 1, 1, 1, 1, 1, 1, 1, 1, 0, 1, 0, 0, 1]), .inLoop (sub (bodyOf Try.f6) [1, 1, 1, 1, 1, 1, 1, 1, 1, 1, 1, 0, 1, 0, 0]), .inBlock 0, .code (sub (bodyOf Try.f6) [1, 1, 1, 1, 1, 1, 1, 1, 1, 1, 1, 1])] [(0, (.slice script_0 script_0l script_0c)), (3, (.pointer x_3)), (4, (.pointer by_4)), (5, (.string still_5)), (6, (.pointer g_6)), (7, (.int .i64 r_7)), (8, (.int .i64 i_8))] w by kernel_rfl) h)
def memlaw_KeepsUpTo.V3 (script_0 : Option Addr) (script_0l : Nat) (script_0c : Nat) (x_3 : Option Addr) (by_4 : Option Addr) (still_5 : ByteArray) (g_6 : Option Addr) (r_7 : Int) (i_8 : Int) (R : Value → World → Prop) (w : World) : Prop :=
  ((0 ≤ i_8 ∧ i_8 < ((script_0l : Nat) : Int)) ∧ nilV script_0 fun a1 => (∃ x2 : Int, ∃ x3 : Int, ∃ x4 : Int, ∃ x5 : Int, ∃ x6 : ByteArray, ∃ x7 : ByteArray, World.cell? w (Addr.add a1 (Int.toNat i_8 * 6)) = some (.int .i64 x2) ∧ World.cell? w ⟨(Addr.block (Addr.add a1 (Int.toNat i_8 * 6))), (Addr.off (Addr.add a1 (Int.toNat i_8 * 6)) + 1), none⟩ = some (.int .i64 x3) ∧ World.cell? w ⟨(Addr.block (Addr.add a1 (Int.toNat i_8 * 6))), (Addr.off (Addr.add a1 (Int.toNat i_8 * 6)) + 2), none⟩ = some (.int .i64 x4) ∧ World.cell? w ⟨(Addr.block (Addr.add a1 (Int.toNat i_8 * 6))), (Addr.off (Addr.add a1 (Int.toNat i_8 * 6)) + 3), none⟩ = some (.int .i64 x5) ∧ World.cell? w ⟨(Addr.block (Addr.add a1 (Int.toNat i_8 * 6))), (Addr.off (Addr.add a1 (Int.toNat i_8 * 6)) + 4), none⟩ = some (.string x6) ∧ World.cell? w ⟨(Addr.block (Addr.add a1 (Int.toNat i_8 * 6))), (Addr.off (Addr.add a1 (Int.toNat i_8 * 6)) + 5), none⟩ = some (.string x7) ∧ (Runs Try.prog memlaw_Kept.id #[(.pointer x_3), (.pointer g_6), (.int .i64 r_7), (.agg #[(.int .i64 x2), (.int .i64 x3), (.int .i64 x4), (.int .i64 x5), (.string x6), (.string x7)])] w fun r8 w9 => (∃ x10 : Bool, (r8 = (.bool x10) ∧ (cond (!x10)
  (R (.int .i64 i_8) w9)
  (Runs Try.prog mem_Store_Show.id #[(.pointer by_4)] w9 fun r11 w12 => (∃ x13 : ByteArray, (r11 = (.string x13) ∧ (cond (!(ByteArray.toList x13 == ByteArray.toList still_5))
  (R (.int .i64 i_8) w12)
  (Runs Try.prog mem_Store_Check.id #[(.pointer by_4)] w12 fun r14 w15 => (∃ x16 : Bool, (r14 = (.bool x16) ∧ (cond (!x16)
  (R (.int .i64 i_8) w15)
  (memlaw_KeepsUpTo.L1 script_0 script_0l script_0c x_3 by_4 still_5 g_6 r_7 (IntKind.wrap .i64 (i_8 + (1 : Int))) R w15)))))))))))))))
theorem memlaw_KeepsUpTo.step3 (script_0 : Option Addr) (script_0l : Nat) (script_0c : Nat) (x_3 : Option Addr) (by_4 : Option Addr) (still_5 : ByteArray) (g_6 : Option Addr) (r_7 : Int) (i_8 : Int) (R : Value → World → Prop) (w : World) (h : memlaw_KeepsUpTo.V3 script_0 script_0l script_0c x_3 by_4 still_5 g_6 r_7 i_8 R w) : memlaw_KeepsUpTo.L3 script_0 script_0l script_0c x_3 by_4 still_5 g_6 r_7 i_8 R w :=
  seg_T good mixed Try.func6 600 false [.code (sub (bodyOf Try.f6) [1, 1, 1, 1, 1, 1, 1, 1, 1, 1, 1, 0, 1, 0, 0, 1, 0, 0, 1]), .inBlock 1, .code (sub (bodyOf Try.f6) [1, 1, 1, 1, 1, 1, 1, 1, 1, 1, 1, 0, 1, 0, 0, 1, 1]), .inLoop (sub (bodyOf Try.f6) [1, 1, 1, 1, 1, 1, 1, 1, 1, 1, 1, 0, 1, 0, 0]), .inBlock 0, .code (sub (bodyOf Try.f6) [1, 1, 1, 1, 1, 1, 1, 1, 1, 1, 1, 1])] [(0, (.slice script_0 script_0l script_0c)), (3, (.pointer x_3)), (4, (.pointer by_4)), (5, (.string still_5)), (6, (.pointer g_6)), (7, (.int .i64 r_7)), (8, (.int .i64 i_8))] w (Eq.mp (show memlaw_KeepsUpTo.V3 script_0 script_0l script_0c x_3 by_4 still_5 g_6 r_7 i_8 R w = seg Try.prog 6 72 Try.f6.results.toList memlaw_KeepsUpTo.cuts R 600 false [.code (sub (bodyOf Try.f6) [1, 1, 1, 1, 1, 1, 1, 1, 1, 1, 1, 0, 1, 0, 0, 1, 0, 0, 1]), .inBlock 1, .code (sub (bodyOf Try.f6) [1, 1, 1, 1, 1, 1, 1, 1, 1, 1, 1, 0, 1, 0, 0, 1, 1]), .inLoop (sub (bodyOf Try.f6) [1, 1, 1, 1, 1, 1, 1, 1, 1, 1, 1, 0, 1, 0, 0]), .inBlock 0, .code (sub (bodyOf Try.f6) [1, 1, 1, 1, 1, 1, 1, 1, 1, 1, 1, 1])] [(0, (.slice script_0 script_0l script_0c)), (3, (.pointer x_3)), (4, (.pointer by_4)), (5, (.string still_5)), (6, (.pointer g_6)), (7, (.int .i64 r_7)), (8, (.int .i64 i_8))] w by kernel_rfl) h)
def memlaw_KeepsUpTo.V (script_0 : Option Addr) (script_0l : Nat) (script_0c : Nat) (R : Value → World → Prop) (w : World) : Prop :=
  (Runs Try.prog mem_New.id #[] w fun r4 w5 => (∃ x6 : Option Addr, (r4 = (.pointer x6) ∧ (Runs Try.prog mem_New.id #[] w5 fun r7 w8 => (∃ x9 : Option Addr, (r7 = (.pointer x9) ∧ (Runs Try.prog mem_Store_Reset.id #[(.pointer x9), (.int .i64 1), (.int .i64 (-1)), (.int .i64 1), (.int .i64 1)] w8 fun r10 w11 => (∃ x12 : Int, (r10 = (.int .i64 x12) ∧ (Runs Try.prog mem_Store_Save.id #[(.pointer x9), (.int .i64 58), (.int .u32 0), (.int .u32 0), (.int .u64 165)] w11 fun r13 w14 => (∃ x15 : Int, (r13 = (.int .i64 x15) ∧ (Runs Try.prog mem_Store_SetElem.id #[(.pointer x9), (.int .u32 0), (.int .i64 7)] w14 fun r16 w17 => (∃ x18 : Int, (r16 = (.int .i64 x18) ∧ (Runs Try.prog mem_Store_SetGlobal.id #[(.pointer x9), (.int .i64 0), (.int .u64 165)] w17 fun r19 w20 => (∃ x21 : Int, (r19 = (.int .i64 x21) ∧ (Runs Try.prog mem_Store_Show.id #[(.pointer x9)] w20 fun r22 w23 => (∃ x24 : ByteArray, (r22 = (.string x24) ∧ (∃ x26 : Option Addr, ∃ x27 : Nat, ∃ x28 : Nat, ∃ w25, Sem.run Try.prog (Instr.makeSlice T_sl_uint8 (.int .i64 384) (.int .i64 384)) w23 = .ok (.slice x26 x27 x28) w25 ∧ (letB (Array.size (World.heap w25)) fun b29 => letW (World.alloc w25 (.cells #[(.bool false), (.int .i64 0), (.int .i64 0), (.int .i64 0), (.int .i64 0), (.slice x26 x27 x28), (.int .i64 0), (.int .i64 0), (.int .i64 0), (.int .i64 0), (.int .i64 0), (.int .i64 0), (.int .i64 0), (.int .i64 0), (.int .u64 0), (.int .u64 0), (.int .u64 0), (.int .u64 0)] T_memlaw_Ghost)) fun w30 => (Runs Try.prog memlaw_Kept.id #[(.pointer x6), (.pointer (some ⟨b29, 0, none⟩)), (.int .i64 0), (.agg #[(.int .i64 0), (.int .i64 0), (.int .i64 0), (.int .i64 0), (.string ⟨#[]⟩), (.string ⟨#[]⟩)])] w30 fun r31 w32 => (∃ x33 : Bool, (r31 = (.bool x33) ∧ (cond (!x33)
  (R (.int .i64 0) w32)
  (memlaw_KeepsUpTo.L1 script_0 script_0l script_0c x6 x9 x24 (some ⟨b29, 0, none⟩) 0 0 R w32))))))))))))))))))))))))))))
theorem memlaw_KeepsUpTo.enter (script_0 : Option Addr) (script_0l : Nat) (script_0c : Nat) (R : Value → World → Prop) (w : World) (h : memlaw_KeepsUpTo.V script_0 script_0l script_0c R w) : Runs Try.prog memlaw_KeepsUpTo.id #[(.slice script_0 script_0l script_0c)] w R :=
  Runs.enter (c := bodyOf Try.f6) (N := 72) Try.func6 (by kernel_rfl) (by kernel_rfl) (by kernel_rfl) (seg_T good mixed Try.func6 600 false [.code (bodyOf Try.f6)] [(0, (.slice script_0 script_0l script_0c))] w (Eq.mp (show memlaw_KeepsUpTo.V script_0 script_0l script_0c R w = seg Try.prog 6 72 Try.f6.results.toList memlaw_KeepsUpTo.cuts R 600 false [.code (bodyOf Try.f6)] [(0, (.slice script_0 script_0l script_0c))] w by kernel_rfl) h))

/-! e2e/memlaw.RefinesUpTo -/
def memlaw_RefinesUpTo.cuts : List (Nat × List Nat) := []
def memlaw_RefinesUpTo.V (script_0 : Option Addr) (script_0l : Nat) (script_0c : Nat) (R : Value → World → Prop) (w : World) : Prop :=
  (Runs Try.prog memlaw_walk.id #[(.slice script_0 script_0l script_0c), (.bool false)] w fun r4 w5 => (∃ x6 : Int, ∃ x7 : Int, (r4 = (.tuple #[(.int .i64 x6), (.int .i64 x7)]) ∧ (R (.int .i64 x6) w5))))
theorem memlaw_RefinesUpTo.enter (script_0 : Option Addr) (script_0l : Nat) (script_0c : Nat) (R : Value → World → Prop) (w : World) (h : memlaw_RefinesUpTo.V script_0 script_0l script_0c R w) : Runs Try.prog memlaw_RefinesUpTo.id #[(.slice script_0 script_0l script_0c)] w R :=
  Runs.enter (c := bodyOf Try.f7) (N := 11) Try.func7 (by kernel_rfl) (by kernel_rfl) (by kernel_rfl) (seg_T good mixed Try.func7 600 false [.code (bodyOf Try.f7)] [(0, (.slice script_0 script_0l script_0c))] w (Eq.mp (show memlaw_RefinesUpTo.V script_0 script_0l script_0c R w = seg Try.prog 7 11 Try.f7.results.toList memlaw_RefinesUpTo.cuts R 600 false [.code (bodyOf Try.f7)] [(0, (.slice script_0 script_0l script_0c))] w by kernel_rfl) h))

/-! e2e/memlaw.RefinesQuietUpTo -/
def memlaw_RefinesQuietUpTo.cuts : List (Nat × List Nat) := []
def memlaw_RefinesQuietUpTo.V (script_0 : Option Addr) (script_0l : Nat) (script_0c : Nat) (R : Value → World → Prop) (w : World) : Prop :=
  (Runs Try.prog memlaw_walk.id #[(.slice script_0 script_0l script_0c), (.bool true)] w fun r4 w5 => (∃ x6 : Int, ∃ x7 : Int, (r4 = (.tuple #[(.int .i64 x6), (.int .i64 x7)]) ∧ (R (.int .i64 x6) w5))))
theorem memlaw_RefinesQuietUpTo.enter (script_0 : Option Addr) (script_0l : Nat) (script_0c : Nat) (R : Value → World → Prop) (w : World) (h : memlaw_RefinesQuietUpTo.V script_0 script_0l script_0c R w) : Runs Try.prog memlaw_RefinesQuietUpTo.id #[(.slice script_0 script_0l script_0c)] w R :=
  Runs.enter (c := bodyOf Try.f8) (N := 11) Try.func8 (by kernel_rfl) (by kernel_rfl) (by kernel_rfl) (seg_T good mixed Try.func8 600 false [.code (bodyOf Try.f8)] [(0, (.slice script_0 script_0l script_0c))] w (Eq.mp (show memlaw_RefinesQuietUpTo.V script_0 script_0l script_0c R w = seg Try.prog 8 11 Try.f8.results.toList memlaw_RefinesQuietUpTo.cuts R 600 false [.code (bodyOf Try.f8)] [(0, (.slice script_0 script_0l script_0c))] w by kernel_rfl) h))

/-! e2e/mem.New -/
def mem_New.cuts : List (Nat × List Nat) := []
def mem_New.V (R : Value → World → Prop) (w : World) : Prop :=
  (∃ x2 : Option Addr, ∃ x3 : Nat, ∃ x4 : Nat, ∃ w1, Sem.run Try.prog (Instr.makeSlice T_sl_uint8 (.int .i64 384) (.int .i64 384)) w = .ok (.slice x2 x3 x4) w1 ∧ (R (.pointer (some ⟨(Array.size (World.heap w1)), 0, none⟩)) (World.alloc w1 (.cells #[(.slice x2 x3 x4), (.bool false), (.slice none 0 0), (.int .i64 0), (.int .i64 0), (.int .i64 0), (.int .i64 0), (.int .i64 0), (.int .i64 0), (.int .i64 0), (.int .i64 0), (.int .i64 0), (.int .u64 0), (.int .u64 0), (.int .u64 0), (.int .u64 0), (.int .i64 0)] T_mem_Store))))
theorem mem_New.enter (R : Value → World → Prop) (w : World) (h : mem_New.V R w) : Runs Try.prog mem_New.id #[] w R :=
  Runs.enter (c := bodyOf Try.f9) (N := 4) Try.func9 (by kernel_rfl) (by kernel_rfl) (by kernel_rfl) (seg_T good mixed Try.func9 600 false [.code (bodyOf Try.f9)] [] w (Eq.mp (show mem_New.V R w = seg Try.prog 9 4 Try.f9.results.toList mem_New.cuts R 600 false [.code (bodyOf Try.f9)] [] w by kernel_rfl) h))

/-! (*e2e/mem.Store).Reset -/
def mem_Store_Reset.cuts : List (Nat × List Nat) := [(6, [0, 1, 2, 3, 4]), (10, [0, 1, 2, 3, 4]), (14, [0, 1, 2, 3, 4]), (18, [0, 1, 2, 3, 4]), (22, [0, 1, 2, 3, 4]), (34, [0, 1, 3, 4, 11]), (38, [0, 3, 4]), (43, [0, 4, 83, 84])]
def mem_Store_Reset.L1 (s_0 : Option Addr) (memMin_1 : Int) (memMax_2 : Int) (tabMin_3 : Int) (globals_4 : Int) (R : Value → World → Prop) (w : World) : Prop :=
  T Try.prog 10 107 [.code (sub (bodyOf Try.f10) [1, 1])] [(0, (.pointer s_0)), (1, (.int .i64 memMin_1)), (2, (.int .i64 memMax_2)), (3, (.int .i64 tabMin_3)), (4, (.int .i64 globals_4))] w R
def mem_Store_Reset.L2 (s_0 : Option Addr) (memMin_1 : Int) (memMax_2 : Int) (tabMin_3 : Int) (globals_4 : Int) (R : Value → World → Prop) (w : World) : Prop :=
  T Try.prog 10 107 [.code (sub (bodyOf Try.f10) [1, 1, 1])] [(0, (.pointer s_0)), (1, (.int .i64 memMin_1)), (2, (.int .i64 memMax_2)), (3, (.int .i64 tabMin_3)), (4, (.int .i64 globals_4))] w R
def mem_Store_Reset.L3 (s_0 : Option Addr) (memMin_1 : Int) (memMax_2 : Int) (tabMin_3 : Int) (globals_4 : Int) (R : Value → World → Prop) (w : World) : Prop :=
  T Try.prog 10 107 [.code (sub (bodyOf Try.f10) [1, 1, 1, 1])] [(0, (.pointer s_0)), (1, (.int .i64 memMin_1)), (2, (.int .i64 memMax_2)), (3, (.int .i64 tabMin_3)), (4, (.int .i64 globals_4))] w R
def mem_Store_Reset.L4 (s_0 : Option Addr) (memMin_1 : Int) (memMax_2 : Int) (tabMin_3 : Int) (globals_4 : Int) (R : Value → World → Prop) (w : World) : Prop :=
  T Try.prog 10 107 [.code (sub (bodyOf Try.f10) [1, 1, 1, 1, 1])] [(0, (.pointer s_0)), (1, (.int .i64 memMin_1)), (2, (.int .i64 memMax_2)), (3, (.int .i64 tabMin_3)), (4, (.int .i64 globals_4))] w R
def mem_Store_Reset.L5 (s_0 : Option Addr) (memMin_1 : Int) (memMax_2 : Int) (tabMin_3 : Int) (globals_4 : Int) (R : Value → World → Prop) (w : World) : Prop :=
  T Try.prog 10 107 [.code (sub (bodyOf Try.f10) [1, 1, 1, 1, 1, 1])] [(0, (.pointer s_0)), (1, (.int .i64 memMin_1)), (2, (.int .i64 memMax_2)), (3, (.int .i64 tabMin_3)), (4, (.int .i64 globals_4))] w R
def mem_Store_Reset.L6 (s_0 : Option Addr) (memMin_1 : Int) (tabMin_3 : Int) (globals_4 : Int) (limit_11 : Int) (R : Value → World → Prop) (w : World) : Prop :=
  T Try.prog 10 107 [.code (sub (bodyOf Try.f10) [1, 1, 1, 1, 1, 1, 1, 1, 0, 1, 0, 1, 1]), .code (sub (bodyOf Try.f10) [1, 1, 1, 1, 1, 1, 1, 1, 1])] [(0, (.pointer s_0)), (1, (.int .i64 memMin_1)), (3, (.int .i64 tabMin_3)), (4, (.int .i64 globals_4)), (11, (.int .i64 limit_11))] w R
def mem_Store_Reset.L7 (s_0 : Option Addr) (tabMin_3 : Int) (globals_4 : Int) (R : Value → World → Prop) (w : World) : Prop :=
  T Try.prog 10 107 [.code (sub (bodyOf Try.f10) [1, 1, 1, 1, 1, 1, 1, 1, 1])] [(0, (.pointer s_0)), (3, (.int .i64 tabMin_3)), (4, (.int .i64 globals_4))] w R
def mem_Store_Reset.L8 (s_0 : Option Addr) (globals_4 : Int) (t_83 : Int) (t_84 : Int) (R : Value → World → Prop) (w : World) : Prop :=
  T Try.prog 10 107 [.inLoop (sub (bodyOf Try.f10) [1, 1, 1, 1, 1, 1, 1, 1, 1, 1, 0, 1, 0, 0]), .inBlock 0, .code (sub (bodyOf Try.f10) [1, 1, 1, 1, 1, 1, 1, 1, 1, 1, 1])] [(0, (.pointer s_0)), (4, (.int .i64 globals_4)), (83, (.int .i64 t_83)), (84, (.int .i64 t_84))] w R
def mem_Store_Reset.V1 (s_0 : Option Addr) (memMin_1 : Int) (memMax_2 : Int) (tabMin_3 : Int) (globals_4 : Int) (R : Value → World → Prop) (w : World) : Prop :=
  (cond (decide (memMax_2 < (-1)))
  (R (.int .i64 36) w)
  (cond (memMax_2 != (-1))
  (cond (decide (memMax_2 < memMin_1))
  (R (.int .i64 36) w)
  (mem_Store_Reset.L2 s_0 memMin_1 memMax_2 tabMin_3 globals_4 R w))
  (mem_Store_Reset.L2 s_0 memMin_1 memMax_2 tabMin_3 globals_4 R w)))
theorem mem_Store_Reset.step1 (s_0 : Option Addr) (memMin_1 : Int) (memMax_2 : Int) (tabMin_3 : Int) (globals_4 : Int) (R : Value → World → Prop) (w : World) (h : mem_Store_Reset.V1 s_0 memMin_1 memMax_2 tabMin_3 globals_4 R w) : mem_Store_Reset.L1 s_0 memMin_1 memMax_2 tabMin_3 globals_4 R w :=
  seg_T good mixed Try.func10 600 false [.code (sub (bodyOf Try.f10) [1, 1])] [(0, (.pointer s_0)), (1, (.int .i64 memMin_1)), (2, (.int .i64 memMax_2)), (3, (.int .i64 tabMin_3)), (4, (.int .i64 globals_4))] w (Eq.mp (show mem_Store_Reset.V1 s_0 memMin_1 memMax_2 tabMin_3 globals_4 R w = seg Try.prog 10 107 Try.f10.results.toList mem_Store_Reset.cuts R 600 false [.code (sub (bodyOf Try.f10) [1, 1])] [(0, (.pointer s_0)), (1, (.int .i64 memMin_1)), (2, (.int .i64 memMax_2)), (3, (.int .i64 tabMin_3)), (4, (.int .i64 globals_4))] w by kernel_rfl) h)
def mem_Store_Reset.V2 (s_0 : Option Addr) (memMin_1 : Int) (memMax_2 : Int) (tabMin_3 : Int) (globals_4 : Int) (R : Value → World → Prop) (w : World) : Prop :=
  (cond (memMin_1 == (-1))
  (cond (memMax_2 != (-1))
  (R (.int .i64 36) w)
  (mem_Store_Reset.L3 s_0 memMin_1 memMax_2 tabMin_3 globals_4 R w))
  (mem_Store_Reset.L3 s_0 memMin_1 memMax_2 tabMin_3 globals_4 R w))
theorem mem_Store_Reset.step2 (s_0 : Option Addr) (memMin_1 : Int) (memMax_2 : Int) (tabMin_3 : Int) (globals_4 : Int) (R : Value → World → Prop) (w : World) (h : mem_Store_Reset.V2 s_0 memMin_1 memMax_2 tabMin_3 globals_4 R w) : mem_Store_Reset.L2 s_0 memMin_1 memMax_2 tabMin_3 globals_4 R w :=
  seg_T good mixed Try.func10 600 false [.code (sub (bodyOf Try.f10) [1, 1, 1])] [(0, (.pointer s_0)), (1, (.int .i64 memMin_1)), (2, (.int .i64 memMax_2)), (3, (.int .i64 tabMin_3)), (4, (.int .i64 globals_4))] w (Eq.mp (show mem_Store_Reset.V2 s_0 memMin_1 memMax_2 tabMin_3 globals_4 R w = seg Try.prog 10 107 Try.f10.results.toList mem_Store_Reset.cuts R 600 false [.code (sub (bodyOf Try.f10) [1, 1, 1])] [(0, (.pointer s_0)), (1, (.int .i64 memMin_1)), (2, (.int .i64 memMax_2)), (3, (.int .i64 tabMin_3)), (4, (.int .i64 globals_4))] w by kernel_rfl) h)
def mem_Store_Reset.V3 (s_0 : Option Addr) (memMin_1 : Int) (memMax_2 : Int) (tabMin_3 : Int) (globals_4 : Int) (R : Value → World → Prop) (w : World) : Prop :=
  (cond (decide (tabMin_3 < (-1)))
  (R (.int .i64 36) w)
  (cond (decide (tabMin_3 > (8 : Int)))
  (R (.int .i64 36) w)
  (mem_Store_Reset.L4 s_0 memMin_1 memMax_2 tabMin_3 globals_4 R w)))
theorem mem_Store_Reset.step3 (s_0 : Option Addr) (memMin_1 : Int) (memMax_2 : Int) (tabMin_3 : Int) (globals_4 : Int) (R : Value → World → Prop) (w : World) (h : mem_Store_Reset.V3 s_0 memMin_1 memMax_2 tabMin_3 globals_4 R w) : mem_Store_Reset.L3 s_0 memMin_1 memMax_2 tabMin_3 globals_4 R w :=
  seg_T good mixed Try.func10 600 false [.code (sub (bodyOf Try.f10) [1, 1, 1, 1])] [(0, (.pointer s_0)), (1, (.int .i64 memMin_1)), (2, (.int .i64 memMax_2)), (3, (.int .i64 tabMin_3)), (4, (.int .i64 globals_4))] w (Eq.mp (show mem_Store_Reset.V3 s_0 memMin_1 memMax_2 tabMin_3 globals_4 R w = seg Try.prog 10 107 Try.f10.results.toList mem_Store_Reset.cuts R 600 false [.code (sub (bodyOf Try.f10) [1, 1, 1, 1])] [(0, (.pointer s_0)), (1, (.int .i64 memMin_1)), (2, (.int .i64 memMax_2)), (3, (.int .i64 tabMin_3)), (4, (.int .i64 globals_4))] w by kernel_rfl) h)
def mem_Store_Reset.V4 (s_0 : Option Addr) (memMin_1 : Int) (memMax_2 : Int) (tabMin_3 : Int) (globals_4 : Int) (R : Value → World → Prop) (w : World) : Prop :=
  (cond (decide (globals_4 < (0 : Int)))
  (R (.int .i64 36) w)
  (cond (decide (globals_4 > (4 : Int)))
  (R (.int .i64 36) w)
  (mem_Store_Reset.L5 s_0 memMin_1 memMax_2 tabMin_3 globals_4 R w)))
theorem mem_Store_Reset.step4 (s_0 : Option Addr) (memMin_1 : Int) (memMax_2 : Int) (tabMin_3 : Int) (globals_4 : Int) (R : Value → World → Prop) (w : World) (h : mem_Store_Reset.V4 s_0 memMin_1 memMax_2 tabMin_3 globals_4 R w) : mem_Store_Reset.L4 s_0 memMin_1 memMax_2 tabMin_3 globals_4 R w :=
  seg_T good mixed Try.func10 600 false [.code (sub (bodyOf Try.f10) [1, 1, 1, 1, 1])] [(0, (.pointer s_0)), (1, (.int .i64 memMin_1)), (2, (.int .i64 memMax_2)), (3, (.int .i64 tabMin_3)), (4, (.int .i64 globals_4))] w (Eq.mp (show mem_Store_Reset.V4 s_0 memMin_1 memMax_2 tabMin_3 globals_4 R w = seg Try.prog 10 107 Try.f10.results.toList mem_Store_Reset.cuts R 600 false [.code (sub (bodyOf Try.f10) [1, 1, 1, 1, 1])] [(0, (.pointer s_0)), (1, (.int .i64 memMin_1)), (2, (.int .i64 memMax_2)), (3, (.int .i64 tabMin_3)), (4, (.int .i64 globals_4))] w by kernel_rfl) h)
def mem_Store_Reset.V5 (s_0 : Option Addr) (memMin_1 : Int) (memMax_2 : Int) (tabMin_3 : Int) (globals_4 : Int) (R : Value → World → Prop) (w : World) : Prop :=
  (nilV s_0 fun a1 => (can w ⟨(Addr.block a1), (Addr.off a1 + 2), none⟩ ∧ (nilV s_0 fun a2 => (can (World.setCell w ⟨(Addr.block a1), (Addr.off a1 + 2), none⟩ (.slice none 0 0)) ⟨(Addr.block a2), (Addr.off a2 + 1), none⟩ ∧ (nilV s_0 fun a3 => (∃ x4 : Bool, World.cell? (World.setCell (World.setCell w ⟨(Addr.block a1), (Addr.off a1 + 2), none⟩ (.slice none 0 0)) ⟨(Addr.block a2), (Addr.off a2 + 1), none⟩ (.bool (decide (memMin_1 ≥ (0 : Int))))) ⟨(Addr.block a3), (Addr.off a3 + 1), none⟩ = some (.bool x4) ∧ (cond x4
  (cond (memMax_2 != (-1))
  (mem_Store_Reset.L6 s_0 memMin_1 tabMin_3 globals_4 (if (6 : Int) < memMax_2 then 6 else memMax_2) R (World.setCell (World.setCell w ⟨(Addr.block a1), (Addr.off a1 + 2), none⟩ (.slice none 0 0)) ⟨(Addr.block a2), (Addr.off a2 + 1), none⟩ (.bool (decide (memMin_1 ≥ (0 : Int))))))
  (mem_Store_Reset.L6 s_0 memMin_1 tabMin_3 globals_4 6 R (World.setCell (World.setCell w ⟨(Addr.block a1), (Addr.off a1 + 2), none⟩ (.slice none 0 0)) ⟨(Addr.block a2), (Addr.off a2 + 1), none⟩ (.bool (decide (memMin_1 ≥ (0 : Int)))))))
  (mem_Store_Reset.L7 s_0 tabMin_3 globals_4 R (World.setCell (World.setCell w ⟨(Addr.block a1), (Addr.off a1 + 2), none⟩ (.slice none 0 0)) ⟨(Addr.block a2), (Addr.off a2 + 1), none⟩ (.bool (decide (memMin_1 ≥ (0 : Int)))))))))))))
theorem mem_Store_Reset.step5 (s_0 : Option Addr) (memMin_1 : Int) (memMax_2 : Int) (tabMin_3 : Int) (globals_4 : Int) (R : Value → World → Prop) (w : World) (h : mem_Store_Reset.V5 s_0 memMin_1 memMax_2 tabMin_3 globals_4 R w) : mem_Store_Reset.L5 s_0 memMin_1 memMax_2 tabMin_3 globals_4 R w :=
  seg_T good mixed Try.func10 600 false [.code (sub (bodyOf Try.f10) [1, 1, 1, 1, 1, 1])] [(0, (.pointer s_0)), (1, (.int .i64 memMin_1)), (2, (.int .i64 memMax_2)), (3, (.int .i64 tabMin_3)), (4, (.int .i64 globals_4))] w (Eq.mp (show mem_Store_Reset.V5 s_0 memMin_1 memMax_2 tabMin_3 globals_4 R w = seg Try.prog 10 107 Try.f10.results.toList mem_Store_Reset.cuts R 600 false [.code (sub (bodyOf Try.f10) [1, 1, 1, 1, 1, 1])] [(0, (.pointer s_0)), (1, (.int .i64 memMin_1)), (2, (.int .i64 memMax_2)), (3, (.int .i64 tabMin_3)), (4, (.int .i64 globals_4))] w by kernel_rfl) h)
def mem_Store_Reset.V6 (s_0 : Option Addr) (memMin_1 : Int) (tabMin_3 : Int) (globals_4 : Int) (limit_11 : Int) (R : Value → World → Prop) (w : World) : Prop :=
  (nilV s_0 fun a1 => (∃ x2 : Option Addr, ∃ x3 : Nat, ∃ x4 : Nat, World.cell? w a1 = some (.slice x2 x3 x4) ∧ ((0 ≤ (0 : Int) ∧ (0 : Int) ≤ (IntKind.wrap .i64 (memMin_1 * (64 : Int))) ∧ (IntKind.wrap .i64 (memMin_1 * (64 : Int))) ≤ (IntKind.wrap .i64 (limit_11 * (64 : Int))) ∧ (IntKind.wrap .i64 (limit_11 * (64 : Int))) ≤ ((x4 : Nat) : Int)) ∧ (nilV s_0 fun a5 => (can w ⟨(Addr.block a5), (Addr.off a5 + 2), none⟩ ∧ (nilV s_0 fun a6 => (∃ x7 : Option Addr, ∃ x8 : Nat, ∃ x9 : Nat, World.cell? (World.setCell w ⟨(Addr.block a5), (Addr.off a5 + 2), none⟩ (.slice (slAddr x2 0 (Int.toNat (IntKind.wrap .i64 (limit_11 * (64 : Int)))) 1) ((Int.toNat (IntKind.wrap .i64 (memMin_1 * (64 : Int)))) - 0) ((Int.toNat (IntKind.wrap .i64 (limit_11 * (64 : Int)))) - 0))) ⟨(Addr.block a6), (Addr.off a6 + 2), none⟩ = some (.slice x7 x8 x9) ∧ (∃ w10, Sem.run Try.prog (Builtin.clear_ #[T_sl_uint8] T___ #[(.slice x7 x8 x9)]) (World.setCell w ⟨(Addr.block a5), (Addr.off a5 + 2), none⟩ (.slice (slAddr x2 0 (Int.toNat (IntKind.wrap .i64 (limit_11 * (64 : Int)))) 1) ((Int.toNat (IntKind.wrap .i64 (memMin_1 * (64 : Int)))) - 0) ((Int.toNat (IntKind.wrap .i64 (limit_11 * (64 : Int)))) - 0))) = .ok (.tuple #[]) w10 ∧ (mem_Store_Reset.L7 s_0 tabMin_3 globals_4 R w10)))))))))
theorem mem_Store_Reset.step6 (s_0 : Option Addr) (memMin_1 : Int) (tabMin_3 : Int) (globals_4 : Int) (limit_11 : Int) (R : Value → World → Prop) (w : World) (h : mem_Store_Reset.V6 s_0 memMin_1 tabMin_3 globals_4 limit_11 R w) : mem_Store_Reset.L6 s_0 memMin_1 tabMin_3 globals_4 limit_11 R w :=
  seg_T good mixed Try.func10 600 false [.code (sub (bodyOf Try.f10) [1, 1, 1, 1, 1, 1, 1, 1, 0, 1, 0, 1, 1]), .code (sub (bodyOf Try.f10) [1, 1, 1, 1, 1, 1, 1, 1, 1])] [(0, (.pointer s_0)), (1, (.int .i64 memMin_1)), (3, (.int .i64 tabMin_3)), (4, (.int .i64 globals_4)), (11, (.int .i64 limit_11))] w (Eq.mp (show mem_Store_Reset.V6 s_0 memMin_1 tabMin_3 globals_4 limit_11 R w = seg Try.prog 10 107 Try.f10.results.toList mem_Store_Reset.cuts R 600 false [.code (sub (bodyOf Try.f10) [1, 1, 1, 1, 1, 1, 1, 1, 0, 1, 0, 1, 1]), .code (sub (bodyOf Try.f10) [1, 1, 1, 1, 1, 1, 1, 1, 1])] [(0, (.pointer s_0)), (1, (.int .i64 memMin_1)), (3, (.int .i64 tabMin_3)), (4, (.int .i64 globals_4)), (11, (.int .i64 limit_11))] w by kernel_rfl) h)
def mem_Store_Reset.V7 (s_0 : Option Addr) (tabMin_3 : Int) (globals_4 : Int) (R : Value → World → Prop) (w : World) : Prop :=
  (nilV s_0 fun a1 => (can w ⟨(Addr.block a1), (Addr.off a1 + 11), none⟩ ∧ (mem_Store_Reset.L8 s_0 globals_4 tabMin_3 0 R (World.setCell w ⟨(Addr.block a1), (Addr.off a1 + 11), none⟩ (.int .i64 0)))))
theorem mem_Store_Reset.step7 (s_0 : Option Addr) (tabMin_3 : Int) (globals_4 : Int) (R : Value → World → Prop) (w : World) (h : mem_Store_Reset.V7 s_0 tabMin_3 globals_4 R w) : mem_Store_Reset.L7 s_0 tabMin_3 globals_4 R w :=
  seg_T good mixed Try.func10 600 false [.code (sub (bodyOf Try.f10) [1, 1, 1, 1, 1, 1, 1, 1, 1])] [(0, (.pointer s_0)), (3, (.int .i64 tabMin_3)), (4, (.int .i64 globals_4))] w (Eq.mp (show mem_Store_Reset.V7 s_0 tabMin_3 globals_4 R w = seg Try.prog 10 107 Try.f10.results.toList mem_Store_Reset.cuts R 600 false [.code (sub (bodyOf Try.f10) [1, 1, 1, 1, 1, 1, 1, 1, 1])] [(0, (.pointer s_0)), (3, (.int .i64 tabMin_3)), (4, (.int .i64 globals_4))] w by kernel_rfl) h)
def mem_Store_Reset.V8 (s_0 : Option Addr) (globals_4 : Int) (t_83 : Int) (t_84 : Int) (R : Value → World → Prop) (w : World) : Prop :=
  (cond (decide (t_84 < t_83))
  (nilV s_0 fun a1 => ((0 ≤ t_84 ∧ t_84 < ((8 : Nat) : Int)) ∧ (can w (Addr.add ⟨(Addr.block a1), (Addr.off a1 + 3), none⟩ (Int.toNat t_84 * 1)) ∧ (nilV s_0 fun a2 => (can (World.setCell w (Addr.add ⟨(Addr.block a1), (Addr.off a1 + 3), none⟩ (Int.toNat t_84 * 1)) (.int .i64 (-1))) ⟨(Addr.block a2), (Addr.off a2 + 11), none⟩ ∧ (mem_Store_Reset.L8 s_0 globals_4 t_83 (IntKind.wrap .i64 (t_84 + (1 : Int))) R (World.setCell (World.setCell w (Addr.add ⟨(Addr.block a1), (Addr.off a1 + 3), none⟩ (Int.toNat t_84 * 1)) (.int .i64 (-1))) ⟨(Addr.block a2), (Addr.off a2 + 11), none⟩ (.int .i64 (IntKind.wrap .i64 (t_84 + (1 : Int)))))))))))
  (nilV s_0 fun a3 => (can w ⟨(Addr.block a3), (Addr.off a3 + 16), none⟩ ∧ (nilV s_0 fun a4 => ((0 ≤ (0 : Int) ∧ (0 : Int) ≤ globals_4 ∧ globals_4 ≤ ((4 : Nat) : Int) ∧ ((4 : Nat) : Int) ≤ ((4 : Nat) : Int)) ∧ (∃ w5, Sem.run Try.prog (Builtin.clear_ #[T_sl_uint64] T___ #[(.slice (slAddr (some ⟨(Addr.block a4), (Addr.off a4 + 12), none⟩) 0 4 1) ((Int.toNat globals_4) - 0) (4 - 0))]) (World.setCell w ⟨(Addr.block a3), (Addr.off a3 + 16), none⟩ (.int .i64 globals_4)) = .ok (.tuple #[]) w5 ∧ (R (.int .i64 0) w5)))))))
theorem mem_Store_Reset.step8 (s_0 : Option Addr) (globals_4 : Int) (t_83 : Int) (t_84 : Int) (R : Value → World → Prop) (w : World) (h : mem_Store_Reset.V8 s_0 globals_4 t_83 t_84 R w) : mem_Store_Reset.L8 s_0 globals_4 t_83 t_84 R w :=
  seg_T good mixed Try.func10 600 false [.inLoop (sub (bodyOf Try.f10) [1, 1, 1, 1, 1, 1, 1, 1, 1, 1, 0, 1, 0, 0]), .inBlock 0, .code (sub (bodyOf Try.f10) [1, 1, 1, 1, 1, 1, 1, 1, 1, 1, 1])] [(0, (.pointer s_0)), (4, (.int .i64 globals_4)), (83, (.int .i64 t_83)), (84, (.int .i64 t_84))] w (Eq.mp (show mem_Store_Reset.V8 s_0 globals_4 t_83 t_84 R w = seg Try.prog 10 107 Try.f10.results.toList mem_Store_Reset.cuts R 600 false [.inLoop (sub (bodyOf Try.f10) [1, 1, 1, 1, 1, 1, 1, 1, 1, 1, 0, 1, 0, 0]), .inBlock 0, .code (sub (bodyOf Try.f10) [1, 1, 1, 1, 1, 1, 1, 1, 1, 1, 1])] [(0, (.pointer s_0)), (4, (.int .i64 globals_4)), (83, (.int .i64 t_83)), (84, (.int .i64 t_84))] w by kernel_rfl) h)
def mem_Store_Reset.V (s_0 : Option Addr) (memMin_1 : Int) (memMax_2 : Int) (tabMin_3 : Int) (globals_4 : Int) (R : Value → World → Prop) (w : World) : Prop :=
  (cond (decide (memMin_1 < (-1)))
  (R (.int .i64 36) w)
  (cond (decide (memMin_1 > (6 : Int)))
  (R (.int .i64 36) w)
  (mem_Store_Reset.L1 s_0 memMin_1 memMax_2 tabMin_3 globals_4 R w)))
theorem mem_Store_Reset.enter (s_0 : Option Addr) (memMin_1 : Int) (memMax_2 : Int) (tabMin_3 : Int) (globals_4 : Int) (R : Value → World → Prop) (w : World) (h : mem_Store_Reset.V s_0 memMin_1 memMax_2 tabMin_3 globals_4 R w) : Runs Try.prog mem_Store_Reset.id #[(.pointer s_0), (.int .i64 memMin_1), (.int .i64 memMax_2), (.int .i64 tabMin_3), (.int .i64 globals_4)] w R :=
  Runs.enter (c := bodyOf Try.f10) (N := 107) Try.func10 (by kernel_rfl) (by kernel_rfl) (by kernel_rfl) (seg_T good mixed Try.func10 600 false [.code (bodyOf Try.f10)] [(0, (.pointer s_0)), (1, (.int .i64 memMin_1)), (2, (.int .i64 memMax_2)), (3, (.int .i64 tabMin_3)), (4, (.int .i64 globals_4))] w (Eq.mp (show mem_Store_Reset.V s_0 memMin_1 memMax_2 tabMin_3 globals_4 R w = seg Try.prog 10 107 Try.f10.results.toList mem_Store_Reset.cuts R 600 false [.code (bodyOf Try.f10)] [(0, (.pointer s_0)), (1, (.int .i64 memMin_1)), (2, (.int .i64 memMax_2)), (3, (.int .i64 tabMin_3)), (4, (.int .i64 globals_4))] w by kernel_rfl) h))

/-! (*e2e/mem.Store).Save -/
def mem_Store_Save.cuts : List (Nat × List Nat) := [(12, [0, 2, 3, 4, 20, 21]), (18, [0, 2, 3, 4, 20, 24]), (26, [0, 2, 3, 4, 20, 27]), (32, [0, 2, 3, 4, 31]), (34, [0, 2, 3, 4, 11]), (63, [15, 16, 88]), (79, [4, 18, 109])]
def mem_Store_Save.L1 (s_0 : Option Addr) (base_2 : Int) (off_3 : Int) (v_4 : Int) (t_20 : Int) (t_21 : Bool) (R : Value → World → Prop) (w : World) : Prop :=
  T Try.prog 11 121 [.code (sub (bodyOf Try.f11) [1, 1, 0, 1, 0, 1]), .inBlock 0, .code (sub (bodyOf Try.f11) [1, 1, 1])] [(0, (.pointer s_0)), (2, (.int .u32 base_2)), (3, (.int .u32 off_3)), (4, (.int .u64 v_4)), (20, (.int .i64 t_20)), (21, (.bool t_21))] w R
def mem_Store_Save.L2 (s_0 : Option Addr) (base_2 : Int) (off_3 : Int) (v_4 : Int) (w_11 : Int) (R : Value → World → Prop) (w : World) : Prop :=
  T Try.prog 11 121 [.code (sub (bodyOf Try.f11) [1, 1, 1])] [(0, (.pointer s_0)), (2, (.int .u32 base_2)), (3, (.int .u32 off_3)), (4, (.int .u64 v_4)), (11, (.int .u64 w_11))] w R
def mem_Store_Save.L3 (s_0 : Option Addr) (base_2 : Int) (off_3 : Int) (v_4 : Int) (t_20 : Int) (t_24 : Bool) (R : Value → World → Prop) (w : World) : Prop :=
  T Try.prog 11 121 [.code (sub (bodyOf Try.f11) [1, 1, 0, 1, 0, 1, 1, 1]), .inBlock 0, .code (sub (bodyOf Try.f11) [1, 1, 1])] [(0, (.pointer s_0)), (2, (.int .u32 base_2)), (3, (.int .u32 off_3)), (4, (.int .u64 v_4)), (20, (.int .i64 t_20)), (24, (.bool t_24))] w R
def mem_Store_Save.L4 (u_15 : Int) (p_16 : Option Addr) (t_88 : Int) (R : Value → World → Prop) (w : World) : Prop :=
  T Try.prog 11 121 [.inLoop (sub (bodyOf Try.f11) [1, 1, 1, 1, 1, 0, 1, 0, 1, 1, 1, 1, 1, 0, 1, 1, 1, 0, 0]), .inBlock 2, .inBlock 1, .code (sub (bodyOf Try.f11) [1, 1, 1, 1, 1, 1])] [(15, (.int .u32 u_15)), (16, (.pointer p_16)), (88, (.int .i64 t_88))] w R
def mem_Store_Save.L5 (v_4 : Int) (p_18 : Option Addr) (t_109 : Int) (R : Value → World → Prop) (w : World) : Prop :=
  T Try.prog 11 121 [.inLoop (sub (bodyOf Try.f11) [1, 1, 1, 1, 1, 0, 1, 0, 1, 1, 1, 1, 1, 1, 1, 0, 1, 1, 0, 0]), .inBlock 4, .inBlock 1, .code (sub (bodyOf Try.f11) [1, 1, 1, 1, 1, 1])] [(4, (.int .u64 v_4)), (18, (.pointer p_18)), (109, (.int .i64 t_109))] w R
def mem_Store_Save.L6 (s_0 : Option Addr) (base_2 : Int) (off_3 : Int) (v_4 : Int) (t_20 : Int) (t_27 : Bool) (R : Value → World → Prop) (w : World) : Prop :=
  T Try.prog 11 121 [.code (sub (bodyOf Try.f11) [1, 1, 0, 1, 0, 1, 1, 1, 1, 1]), .inBlock 0, .code (sub (bodyOf Try.f11) [1, 1, 1])] [(0, (.pointer s_0)), (2, (.int .u32 base_2)), (3, (.int .u32 off_3)), (4, (.int .u64 v_4)), (20, (.int .i64 t_20)), (27, (.bool t_27))] w R
def mem_Store_Save.L7 (s_0 : Option Addr) (base_2 : Int) (off_3 : Int) (v_4 : Int) (t_31 : Bool) (R : Value → World → Prop) (w : World) : Prop :=
  T Try.prog 11 121 [.code (sub (bodyOf Try.f11) [1, 1, 0, 1, 0, 1, 1, 1, 1, 1, 1, 1]), .inBlock 0, .code (sub (bodyOf Try.f11) [1, 1, 1])] [(0, (.pointer s_0)), (2, (.int .u32 base_2)), (3, (.int .u32 off_3)), (4, (.int .u64 v_4)), (31, (.bool t_31))] w R
def mem_Store_Save.V1 (s_0 : Option Addr) (base_2 : Int) (off_3 : Int) (v_4 : Int) (t_20 : Int) (t_21 : Bool) (R : Value → World → Prop) (w : World) : Prop :=
  (cond t_21
  (mem_Store_Save.L2 s_0 base_2 off_3 v_4 1 R w)
  (cond (t_20 == (59 : Int))
  (mem_Store_Save.L3 s_0 base_2 off_3 v_4 t_20 true R w)
  (mem_Store_Save.L3 s_0 base_2 off_3 v_4 t_20 (t_20 == (61 : Int)) R w)))
theorem mem_Store_Save.step1 (s_0 : Option Addr) (base_2 : Int) (off_3 : Int) (v_4 : Int) (t_20 : Int) (t_21 : Bool) (R : Value → World → Prop) (w : World) (h : mem_Store_Save.V1 s_0 base_2 off_3 v_4 t_20 t_21 R w) : mem_Store_Save.L1 s_0 base_2 off_3 v_4 t_20 t_21 R w :=
  seg_T good mixed Try.func11 600 false [.code (sub (bodyOf Try.f11) [1, 1, 0, 1, 0, 1]), .inBlock 0, .code (sub (bodyOf Try.f11) [1, 1, 1])] [(0, (.pointer s_0)), (2, (.int .u32 base_2)), (3, (.int .u32 off_3)), (4, (.int .u64 v_4)), (20, (.int .i64 t_20)), (21, (.bool t_21))] w (Eq.mp (show mem_Store_Save.V1 s_0 base_2 off_3 v_4 t_20 t_21 R w = seg Try.prog 11 121 Try.f11.results.toList mem_Store_Save.cuts R 600 false [.code (sub (bodyOf Try.f11) [1, 1, 0, 1, 0, 1]), .inBlock 0, .code (sub (bodyOf Try.f11) [1, 1, 1])] [(0, (.pointer s_0)), (2, (.int .u32 base_2)), (3, (.int .u32 off_3)), (4, (.int .u64 v_4)), (20, (.int .i64 t_20)), (21, (.bool t_21))] w by kernel_rfl) h)
def mem_Store_Save.V2 (s_0 : Option Addr) (base_2 : Int) (off_3 : Int) (v_4 : Int) (w_11 : Int) (R : Value → World → Prop) (w : World) : Prop :=
  (Runs Try.prog mem_Store_place.id #[(.pointer s_0), (.int .u32 base_2), (.int .u32 off_3), (.int .u64 w_11)] w fun r1 w2 => (∃ x3 : Int, ∃ x4 : Bool, (r1 = (.tuple #[(.int .i64 x3), (.bool x4)]) ∧ (cond (!x4)
  (R (.int .i64 42) w2)
  (cond (w_11 == (1 : Int))
  (nilV s_0 fun a5 => (∃ x6 : Option Addr, ∃ x7 : Nat, ∃ x8 : Nat, World.cell? w2 ⟨(Addr.block a5), (Addr.off a5 + 2), none⟩ = some (.slice x6 x7 x8) ∧ ((0 ≤ x3 ∧ x3 < ((x7 : Nat) : Int)) ∧ nilV x6 fun a9 => (can w2 (Addr.add a9 (Int.toNat x3 * 1)) ∧ (R (.int .i64 0) (World.setCell w2 (Addr.add a9 (Int.toNat x3 * 1)) (.int .u8 (IntKind.wrap .u8 v_4))))))))
  (cond (w_11 == (2 : Int))
  (nilV s_0 fun a10 => (∃ x11 : Option Addr, ∃ x12 : Nat, ∃ x13 : Nat, World.cell? w2 ⟨(Addr.block a10), (Addr.off a10 + 2), none⟩ = some (.slice x11 x12 x13) ∧ ((0 ≤ x3 ∧ x3 < ((x12 : Nat) : Int)) ∧ nilV x11 fun a14 => (can w2 (Addr.add a14 (Int.toNat x3 * 1)) ∧ (nilV s_0 fun a15 => (∃ x16 : Option Addr, ∃ x17 : Nat, ∃ x18 : Nat, World.cell? (World.setCell w2 (Addr.add a14 (Int.toNat x3 * 1)) (.int .u8 (IntKind.wrap .u8 (IntKind.wrap .u16 v_4)))) ⟨(Addr.block a15), (Addr.off a15 + 2), none⟩ = some (.slice x16 x17 x18) ∧ ((0 ≤ (IntKind.wrap .i64 (x3 + (1 : Int))) ∧ (IntKind.wrap .i64 (x3 + (1 : Int))) < ((x17 : Nat) : Int)) ∧ nilV x16 fun a19 => (can (World.setCell w2 (Addr.add a14 (Int.toNat x3 * 1)) (.int .u8 (IntKind.wrap .u8 (IntKind.wrap .u16 v_4)))) (Addr.add a19 (Int.toNat (IntKind.wrap .i64 (x3 + (1 : Int))) * 1)) ∧ (R (.int .i64 0) (World.setCell (World.setCell w2 (Addr.add a14 (Int.toNat x3 * 1)) (.int .u8 (IntKind.wrap .u8 (IntKind.wrap .u16 v_4)))) (Addr.add a19 (Int.toNat (IntKind.wrap .i64 (x3 + (1 : Int))) * 1)) (.int .u8 (IntKind.wrap .u8 (Int.fdiv (IntKind.wrap .u16 v_4) (2 ^ (8 : Nat)))))))))))))))
  (cond (w_11 == (4 : Int))
  (nilV s_0 fun a20 => (∃ x21 : Option Addr, ∃ x22 : Nat, ∃ x23 : Nat, World.cell? w2 ⟨(Addr.block a20), (Addr.off a20 + 2), none⟩ = some (.slice x21 x22 x23) ∧ ((0 ≤ x3 ∧ x3 ≤ ((x22 : Nat) : Int) ∧ ((x22 : Nat) : Int) ≤ ((x23 : Nat) : Int) ∧ ((x23 : Nat) : Int) ≤ ((x23 : Nat) : Int)) ∧ (4 ≤ (x22 - (Int.toNat x3)) ∧ (mem_Store_Save.L4 (IntKind.wrap .u32 v_4) (slAddr x21 (Int.toNat x3) x23 1) 0 R w2)))))
  (cond (w_11 == (8 : Int))
  (nilV s_0 fun a27 => (∃ x28 : Option Addr, ∃ x29 : Nat, ∃ x30 : Nat, World.cell? w2 ⟨(Addr.block a27), (Addr.off a27 + 2), none⟩ = some (.slice x28 x29 x30) ∧ ((0 ≤ x3 ∧ x3 ≤ ((x29 : Nat) : Int) ∧ ((x29 : Nat) : Int) ≤ ((x30 : Nat) : Int) ∧ ((x30 : Nat) : Int) ≤ ((x30 : Nat) : Int)) ∧ (8 ≤ (x29 - (Int.toNat x3)) ∧ (mem_Store_Save.L5 v_4 (slAddr x28 (Int.toNat x3) x30 1) 0 R w2)))))
  (R (.int .i64 0) w2)))))))))
theorem mem_Store_Save.step2 (s_0 : Option Addr) (base_2 : Int) (off_3 : Int) (v_4 : Int) (w_11 : Int) (R : Value → World → Prop) (w : World) (h : mem_Store_Save.V2 s_0 base_2 off_3 v_4 w_11 R w) : mem_Store_Save.L2 s_0 base_2 off_3 v_4 w_11 R w :=
  seg_T good mixed Try.func11 600 false [.code (sub (bodyOf Try.f11) [1, 1, 1])] [(0, (.pointer s_0)), (2, (.int .u32 base_2)), (3, (.int .u32 off_3)), (4, (.int .u64 v_4)), (11, (.int .u64 w_11))] w (Eq.mp (show mem_Store_Save.V2 s_0 base_2 off_3 v_4 w_11 R w = seg Try.prog 11 121 Try.f11.results.toList mem_Store_Save.cuts R 600 false [.code (sub (bodyOf Try.f11) [1, 1, 1])] [(0, (.pointer s_0)), (2, (.int .u32 base_2)), (3, (.int .u32 off_3)), (4, (.int .u64 v_4)), (11, (.int .u64 w_11))] w by kernel_rfl) h)
def mem_Store_Save.V3 (s_0 : Option Addr) (base_2 : Int) (off_3 : Int) (v_4 : Int) (t_20 : Int) (t_24 : Bool) (R : Value → World → Prop) (w : World) : Prop :=
  (cond t_24
  (mem_Store_Save.L2 s_0 base_2 off_3 v_4 2 R w)
  (cond (t_20 == (54 : Int))
  (mem_Store_Save.L6 s_0 base_2 off_3 v_4 t_20 true R w)
  (cond (t_20 == (56 : Int))
  (mem_Store_Save.L6 s_0 base_2 off_3 v_4 t_20 true R w)
  (mem_Store_Save.L6 s_0 base_2 off_3 v_4 t_20 (t_20 == (62 : Int)) R w))))
theorem mem_Store_Save.step3 (s_0 : Option Addr) (base_2 : Int) (off_3 : Int) (v_4 : Int) (t_20 : Int) (t_24 : Bool) (R : Value → World → Prop) (w : World) (h : mem_Store_Save.V3 s_0 base_2 off_3 v_4 t_20 t_24 R w) : mem_Store_Save.L3 s_0 base_2 off_3 v_4 t_20 t_24 R w :=
  seg_T good mixed Try.func11 600 false [.code (sub (bodyOf Try.f11) [1, 1, 0, 1, 0, 1, 1, 1]), .inBlock 0, .code (sub (bodyOf Try.f11) [1, 1, 1])] [(0, (.pointer s_0)), (2, (.int .u32 base_2)), (3, (.int .u32 off_3)), (4, (.int .u64 v_4)), (20, (.int .i64 t_20)), (24, (.bool t_24))] w (Eq.mp (show mem_Store_Save.V3 s_0 base_2 off_3 v_4 t_20 t_24 R w = seg Try.prog 11 121 Try.f11.results.toList mem_Store_Save.cuts R 600 false [.code (sub (bodyOf Try.f11) [1, 1, 0, 1, 0, 1, 1, 1]), .inBlock 0, .code (sub (bodyOf Try.f11) [1, 1, 1])] [(0, (.pointer s_0)), (2, (.int .u32 base_2)), (3, (.int .u32 off_3)), (4, (.int .u64 v_4)), (20, (.int .i64 t_20)), (24, (.bool t_24))] w by kernel_rfl) h)
def mem_Store_Save.V4 (u_15 : Int) (p_16 : Option Addr) (t_88 : Int) (R : Value → World → Prop) (w : World) : Prop :=
  (cond (decide (t_88 < (4 : Int)))
  (nilV p_16 fun a1 => ((0 ≤ t_88 ∧ t_88 < ((4 : Nat) : Int)) ∧ (can w (Addr.add a1 (Int.toNat t_88 * 1)) ∧ (mem_Store_Save.L4 (Int.fdiv u_15 (2 ^ (8 : Nat))) p_16 (IntKind.wrap .i64 (t_88 + (1 : Int))) R (World.setCell w (Addr.add a1 (Int.toNat t_88 * 1)) (.int .u8 (IntKind.wrap .u8 u_15)))))))
  (R (.int .i64 0) w))
theorem mem_Store_Save.step4 (u_15 : Int) (p_16 : Option Addr) (t_88 : Int) (R : Value → World → Prop) (w : World) (h : mem_Store_Save.V4 u_15 p_16 t_88 R w) : mem_Store_Save.L4 u_15 p_16 t_88 R w :=
  seg_T good mixed Try.func11 600 false [.inLoop (sub (bodyOf Try.f11) [1, 1, 1, 1, 1, 0, 1, 0, 1, 1, 1, 1, 1, 0, 1, 1, 1, 0, 0]), .inBlock 2, .inBlock 1, .code (sub (bodyOf Try.f11) [1, 1, 1, 1, 1, 1])] [(15, (.int .u32 u_15)), (16, (.pointer p_16)), (88, (.int .i64 t_88))] w (Eq.mp (show mem_Store_Save.V4 u_15 p_16 t_88 R w = seg Try.prog 11 121 Try.f11.results.toList mem_Store_Save.cuts R 600 false [.inLoop (sub (bodyOf Try.f11) [1, 1, 1, 1, 1, 0, 1, 0, 1, 1, 1, 1, 1, 0, 1, 1, 1, 0, 0]), .inBlock 2, .inBlock 1, .code (sub (bodyOf Try.f11) [1, 1, 1, 1, 1, 1])] [(15, (.int .u32 u_15)), (16, (.pointer p_16)), (88, (.int .i64 t_88))] w by kernel_rfl) h)
def mem_Store_Save.V5 (v_4 : Int) (p_18 : Option Addr) (t_109 : Int) (R : Value → World → Prop) (w : World) : Prop :=
  (cond (decide (t_109 < (8 : Int)))
  (nilV p_18 fun a1 => ((0 ≤ t_109 ∧ t_109 < ((8 : Nat) : Int)) ∧ (can w (Addr.add a1 (Int.toNat t_109 * 1)) ∧ (mem_Store_Save.L5 (Int.fdiv v_4 (2 ^ (8 : Nat))) p_18 (IntKind.wrap .i64 (t_109 + (1 : Int))) R (World.setCell w (Addr.add a1 (Int.toNat t_109 * 1)) (.int .u8 (IntKind.wrap .u8 v_4)))))))
  (R (.int .i64 0) w))
theorem mem_Store_Save.step5 (v_4 : Int) (p_18 : Option Addr) (t_109 : Int) (R : Value → World → Prop) (w : World) (h : mem_Store_Save.V5 v_4 p_18 t_109 R w) : mem_Store_Save.L5 v_4 p_18 t_109 R w :=
  seg_T good mixed Try.func11 600 false [.inLoop (sub (bodyOf Try.f11) [1, 1, 1, 1, 1, 0, 1, 0, 1, 1, 1, 1, 1, 1, 1, 0, 1, 1, 0, 0]), .inBlock 4, .inBlock 1, .code (sub (bodyOf Try.f11) [1, 1, 1, 1, 1, 1])] [(4, (.int .u64 v_4)), (18, (.pointer p_18)), (109, (.int .i64 t_109))] w (Eq.mp (show mem_Store_Save.V5 v_4 p_18 t_109 R w = seg Try.prog 11 121 Try.f11.results.toList mem_Store_Save.cuts R 600 false [.inLoop (sub (bodyOf Try.f11) [1, 1, 1, 1, 1, 0, 1, 0, 1, 1, 1, 1, 1, 1, 1, 0, 1, 1, 0, 0]), .inBlock 4, .inBlock 1, .code (sub (bodyOf Try.f11) [1, 1, 1, 1, 1, 1])] [(4, (.int .u64 v_4)), (18, (.pointer p_18)), (109, (.int .i64 t_109))] w by kernel_rfl) h)
def mem_Store_Save.V6 (s_0 : Option Addr) (base_2 : Int) (off_3 : Int) (v_4 : Int) (t_20 : Int) (t_27 : Bool) (R : Value → World → Prop) (w : World) : Prop :=
  (cond t_27
  (mem_Store_Save.L2 s_0 base_2 off_3 v_4 4 R w)
  (cond (t_20 == (55 : Int))
  (mem_Store_Save.L7 s_0 base_2 off_3 v_4 true R w)
  (mem_Store_Save.L7 s_0 base_2 off_3 v_4 (t_20 == (57 : Int)) R w)))
theorem mem_Store_Save.step6 (s_0 : Option Addr) (base_2 : Int) (off_3 : Int) (v_4 : Int) (t_20 : Int) (t_27 : Bool) (R : Value → World → Prop) (w : World) (h : mem_Store_Save.V6 s_0 base_2 off_3 v_4 t_20 t_27 R w) : mem_Store_Save.L6 s_0 base_2 off_3 v_4 t_20 t_27 R w :=
  seg_T good mixed Try.func11 600 false [.code (sub (bodyOf Try.f11) [1, 1, 0, 1, 0, 1, 1, 1, 1, 1]), .inBlock 0, .code (sub (bodyOf Try.f11) [1, 1, 1])] [(0, (.pointer s_0)), (2, (.int .u32 base_2)), (3, (.int .u32 off_3)), (4, (.int .u64 v_4)), (20, (.int .i64 t_20)), (27, (.bool t_27))] w (Eq.mp (show mem_Store_Save.V6 s_0 base_2 off_3 v_4 t_20 t_27 R w = seg Try.prog 11 121 Try.f11.results.toList mem_Store_Save.cuts R 600 false [.code (sub (bodyOf Try.f11) [1, 1, 0, 1, 0, 1, 1, 1, 1, 1]), .inBlock 0, .code (sub (bodyOf Try.f11) [1, 1, 1])] [(0, (.pointer s_0)), (2, (.int .u32 base_2)), (3, (.int .u32 off_3)), (4, (.int .u64 v_4)), (20, (.int .i64 t_20)), (27, (.bool t_27))] w by kernel_rfl) h)
def mem_Store_Save.V7 (s_0 : Option Addr) (base_2 : Int) (off_3 : Int) (v_4 : Int) (t_31 : Bool) (R : Value → World → Prop) (w : World) : Prop :=
  (cond t_31
  (mem_Store_Save.L2 s_0 base_2 off_3 v_4 8 R w)
  (R (.int .i64 35) w))
theorem mem_Store_Save.step7 (s_0 : Option Addr) (base_2 : Int) (off_3 : Int) (v_4 : Int) (t_31 : Bool) (R : Value → World → Prop) (w : World) (h : mem_Store_Save.V7 s_0 base_2 off_3 v_4 t_31 R w) : mem_Store_Save.L7 s_0 base_2 off_3 v_4 t_31 R w :=
  seg_T good mixed Try.func11 600 false [.code (sub (bodyOf Try.f11) [1, 1, 0, 1, 0, 1, 1, 1, 1, 1, 1, 1]), .inBlock 0, .code (sub (bodyOf Try.f11) [1, 1, 1])] [(0, (.pointer s_0)), (2, (.int .u32 base_2)), (3, (.int .u32 off_3)), (4, (.int .u64 v_4)), (31, (.bool t_31))] w (Eq.mp (show mem_Store_Save.V7 s_0 base_2 off_3 v_4 t_31 R w = seg Try.prog 11 121 Try.f11.results.toList mem_Store_Save.cuts R 600 false [.code (sub (bodyOf Try.f11) [1, 1, 0, 1, 0, 1, 1, 1, 1, 1, 1, 1]), .inBlock 0, .code (sub (bodyOf Try.f11) [1, 1, 1])] [(0, (.pointer s_0)), (2, (.int .u32 base_2)), (3, (.int .u32 off_3)), (4, (.int .u64 v_4)), (31, (.bool t_31))] w by kernel_rfl) h)
def mem_Store_Save.V (s_0 : Option Addr) (op_1 : Int) (base_2 : Int) (off_3 : Int) (v_4 : Int) (R : Value → World → Prop) (w : World) : Prop :=
  (cond (op_1 == (58 : Int))
  (mem_Store_Save.L1 s_0 base_2 off_3 v_4 op_1 true R w)
  (mem_Store_Save.L1 s_0 base_2 off_3 v_4 op_1 (op_1 == (60 : Int)) R w))
theorem mem_Store_Save.enter (s_0 : Option Addr) (op_1 : Int) (base_2 : Int) (off_3 : Int) (v_4 : Int) (R : Value → World → Prop) (w : World) (h : mem_Store_Save.V s_0 op_1 base_2 off_3 v_4 R w) : Runs Try.prog mem_Store_Save.id #[(.pointer s_0), (.int .i64 op_1), (.int .u32 base_2), (.int .u32 off_3), (.int .u64 v_4)] w R :=
  Runs.enter (c := bodyOf Try.f11) (N := 121) Try.func11 (by kernel_rfl) (by kernel_rfl) (by kernel_rfl) (seg_T good mixed Try.func11 600 false [.code (bodyOf Try.f11)] [(0, (.pointer s_0)), (1, (.int .i64 op_1)), (2, (.int .u32 base_2)), (3, (.int .u32 off_3)), (4, (.int .u64 v_4))] w (Eq.mp (show mem_Store_Save.V s_0 op_1 base_2 off_3 v_4 R w = seg Try.prog 11 121 Try.f11.results.toList mem_Store_Save.cuts R 600 false [.code (bodyOf Try.f11)] [(0, (.pointer s_0)), (1, (.int .i64 op_1)), (2, (.int .u32 base_2)), (3, (.int .u32 off_3)), (4, (.int .u64 v_4))] w by kernel_rfl) h))

/-! (*e2e/mem.Store).SetElem -/
def mem_Store_SetElem.cuts : List (Nat × List Nat) := []
def mem_Store_SetElem.V (s_0 : Option Addr) (i_1 : Int) (f_2 : Int) (R : Value → World → Prop) (w : World) : Prop :=
  (cond (decide (f_2 < (0 : Int)))
  (R (.int .i64 36) w)
  (nilV s_0 fun a4 => (∃ x5 : Int, World.cell? w ⟨(Addr.block a4), (Addr.off a4 + 11), none⟩ = some (.int .i64 x5) ∧ (cond (decide ((IntKind.wrap .u64 i_1) ≥ (IntKind.wrap .u64 x5)))
  (R (.int .i64 31) w)
  (nilV s_0 fun a6 => ((0 ≤ i_1 ∧ i_1 < ((8 : Nat) : Int)) ∧ (can w (Addr.add ⟨(Addr.block a6), (Addr.off a6 + 3), none⟩ (Int.toNat i_1 * 1)) ∧ (R (.int .i64 0) (World.setCell w (Addr.add ⟨(Addr.block a6), (Addr.off a6 + 3), none⟩ (Int.toNat i_1 * 1)) (.int .i64 f_2))))))))))
theorem mem_Store_SetElem.enter (s_0 : Option Addr) (i_1 : Int) (f_2 : Int) (R : Value → World → Prop) (w : World) (h : mem_Store_SetElem.V s_0 i_1 f_2 R w) : Runs Try.prog mem_Store_SetElem.id #[(.pointer s_0), (.int .u32 i_1), (.int .i64 f_2)] w R :=
  Runs.enter (c := bodyOf Try.f12) (N := 23) Try.func12 (by kernel_rfl) (by kernel_rfl) (by kernel_rfl) (seg_T good mixed Try.func12 600 false [.code (bodyOf Try.f12)] [(0, (.pointer s_0)), (1, (.int .u32 i_1)), (2, (.int .i64 f_2))] w (Eq.mp (show mem_Store_SetElem.V s_0 i_1 f_2 R w = seg Try.prog 12 23 Try.f12.results.toList mem_Store_SetElem.cuts R 600 false [.code (bodyOf Try.f12)] [(0, (.pointer s_0)), (1, (.int .u32 i_1)), (2, (.int .i64 f_2))] w by kernel_rfl) h))

/-! (*e2e/mem.Store).SetGlobal -/
def mem_Store_SetGlobal.cuts : List (Nat × List Nat) := [(6, [0, 1, 2])]
def mem_Store_SetGlobal.L1 (s_0 : Option Addr) (i_1 : Int) (v_2 : Int) (R : Value → World → Prop) (w : World) : Prop :=
  T Try.prog 13 23 [.code (sub (bodyOf Try.f13) [1, 1])] [(0, (.pointer s_0)), (1, (.int .i64 i_1)), (2, (.int .u64 v_2))] w R
def mem_Store_SetGlobal.V1 (s_0 : Option Addr) (i_1 : Int) (v_2 : Int) (R : Value → World → Prop) (w : World) : Prop :=
  (nilV s_0 fun a1 => ((0 ≤ i_1 ∧ i_1 < ((4 : Nat) : Int)) ∧ (can w (Addr.add ⟨(Addr.block a1), (Addr.off a1 + 12), none⟩ (Int.toNat i_1 * 1)) ∧ (R (.int .i64 0) (World.setCell w (Addr.add ⟨(Addr.block a1), (Addr.off a1 + 12), none⟩ (Int.toNat i_1 * 1)) (.int .u64 v_2))))))
theorem mem_Store_SetGlobal.step1 (s_0 : Option Addr) (i_1 : Int) (v_2 : Int) (R : Value → World → Prop) (w : World) (h : mem_Store_SetGlobal.V1 s_0 i_1 v_2 R w) : mem_Store_SetGlobal.L1 s_0 i_1 v_2 R w :=
  seg_T good mixed Try.func13 600 false [.code (sub (bodyOf Try.f13) [1, 1])] [(0, (.pointer s_0)), (1, (.int .i64 i_1)), (2, (.int .u64 v_2))] w (Eq.mp (show mem_Store_SetGlobal.V1 s_0 i_1 v_2 R w = seg Try.prog 13 23 Try.f13.results.toList mem_Store_SetGlobal.cuts R 600 false [.code (sub (bodyOf Try.f13) [1, 1])] [(0, (.pointer s_0)), (1, (.int .i64 i_1)), (2, (.int .u64 v_2))] w by kernel_rfl) h)
def mem_Store_SetGlobal.V (s_0 : Option Addr) (i_1 : Int) (v_2 : Int) (R : Value → World → Prop) (w : World) : Prop :=
  (cond (decide (i_1 < (0 : Int)))
  (R (.int .i64 36) w)
  (nilV s_0 fun a4 => (∃ x5 : Int, World.cell? w ⟨(Addr.block a4), (Addr.off a4 + 16), none⟩ = some (.int .i64 x5) ∧ (cond (decide (i_1 ≥ x5))
  (R (.int .i64 36) w)
  (mem_Store_SetGlobal.L1 s_0 i_1 v_2 R w)))))
theorem mem_Store_SetGlobal.enter (s_0 : Option Addr) (i_1 : Int) (v_2 : Int) (R : Value → World → Prop) (w : World) (h : mem_Store_SetGlobal.V s_0 i_1 v_2 R w) : Runs Try.prog mem_Store_SetGlobal.id #[(.pointer s_0), (.int .i64 i_1), (.int .u64 v_2)] w R :=
  Runs.enter (c := bodyOf Try.f13) (N := 23) Try.func13 (by kernel_rfl) (by kernel_rfl) (by kernel_rfl) (seg_T good mixed Try.func13 600 false [.code (bodyOf Try.f13)] [(0, (.pointer s_0)), (1, (.int .i64 i_1)), (2, (.int .u64 v_2))] w (Eq.mp (show mem_Store_SetGlobal.V s_0 i_1 v_2 R w = seg Try.prog 13 23 Try.f13.results.toList mem_Store_SetGlobal.cuts R 600 false [.code (bodyOf Try.f13)] [(0, (.pointer s_0)), (1, (.int .i64 i_1)), (2, (.int .u64 v_2))] w by kernel_rfl) h))

/-! (*e2e/mem.Store).Show -/
def mem_Store_Show.cuts : List (Nat × List Nat) := [(12, [0, 3]), (17, [0, 3, 43, 44, 45]), (31, [3, 65, 66, 67])]
def mem_Store_Show.L1 (s_0 : Option Addr) (t_3 : ByteArray) (R : Value → World → Prop) (w : World) : Prop :=
  T Try.prog 14 79 [.code (sub (bodyOf Try.f14) [1, 1, 1])] [(0, (.pointer s_0)), (3, (.string t_3))] w R
def mem_Store_Show.L2 (s_0 : Option Addr) (t_3 : ByteArray) (t_43 : Option Addr) (t_43l : Nat) (t_43c : Nat) (t_44 : Int) (t_45 : Int) (R : Value → World → Prop) (w : World) : Prop :=
  T Try.prog 14 79 [.inLoop (sub (bodyOf Try.f14) [1, 1, 1, 1, 0, 1, 0, 0]), .inBlock 0, .code (sub (bodyOf Try.f14) [1, 1, 1, 1, 1])] [(0, (.pointer s_0)), (3, (.string t_3)), (43, (.slice t_43 t_43l t_43c)), (44, (.int .i64 t_44)), (45, (.int .i64 t_45))] w R
def mem_Store_Show.L3 (t_3 : ByteArray) (t_65 : Option Addr) (t_65l : Nat) (t_65c : Nat) (t_66 : Int) (t_67 : Int) (R : Value → World → Prop) (w : World) : Prop :=
  T Try.prog 14 79 [.inLoop (sub (bodyOf Try.f14) [1, 1, 1, 1, 1, 1, 0, 1, 0, 0]), .inBlock 2, .code (sub (bodyOf Try.f14) [1, 1, 1, 1, 1, 1, 1])] [(3, (.string t_3)), (65, (.slice t_65 t_65l t_65c)), (66, (.int .i64 t_66)), (67, (.int .i64 t_67))] w R
def mem_Store_Show.V1 (s_0 : Option Addr) (t_3 : ByteArray) (R : Value → World → Prop) (w : World) : Prop :=
  (((ByteArray.size t_3 + ByteArray.size ⟨#[32, 116, 97, 98]⟩ : Nat) : Int) ≤ 9223372036854775807 ∧ ((World.drew w) = (World.drew w) ∧ (nilV s_0 fun a1 => ((World.drew w) = (World.drew w) ∧ ((World.drew w) = (World.drew w) ∧ ((World.drew w) = (World.drew w) ∧ (nilV s_0 fun a2 => ((World.drew w) = (World.drew w) ∧ ((World.drew w) = (World.drew w) ∧ (∃ x3 : Int, World.cell? (World.drew w) ⟨(Addr.block a2), (Addr.off a2 + 11), none⟩ = some (.int .i64 x3) ∧ ((World.drew w) = (World.drew w) ∧ ((0 ≤ (0 : Int) ∧ (0 : Int) ≤ x3 ∧ x3 ≤ ((8 : Nat) : Int) ∧ ((8 : Nat) : Int) ≤ ((8 : Nat) : Int)) ∧ ((World.drew w) = (World.drew w) ∧ ((World.drew w) = (World.drew w) ∧ ((World.drew w) = (World.drew w) ∧ (mem_Store_Show.L2 s_0 (t_3 ++ (⟨#[32, 116, 97, 98]⟩ : ByteArray)) (slAddr (some ⟨(Addr.block a1), (Addr.off a1 + 3), none⟩) 0 8 1) ((Int.toNat x3) - 0) (8 - 0) ((((Int.toNat x3) - 0) : Nat) : Int) 0 R (World.drew w)))))))))))))))))
theorem mem_Store_Show.step1 (s_0 : Option Addr) (t_3 : ByteArray) (R : Value → World → Prop) (w : World) (h : mem_Store_Show.V1 s_0 t_3 R w) : mem_Store_Show.L1 s_0 t_3 R w :=
  seg_T good mixed Try.func14 600 false [.code (sub (bodyOf Try.f14) [1, 1, 1])] [(0, (.pointer s_0)), (3, (.string t_3))] w (Eq.mp (show mem_Store_Show.V1 s_0 t_3 R w = seg Try.prog 14 79 Try.f14.results.toList mem_Store_Show.cuts R 600 false [.code (sub (bodyOf Try.f14) [1, 1, 1])] [(0, (.pointer s_0)), (3, (.string t_3))] w by kernel_rfl) h)
def mem_Store_Show.V2 (s_0 : Option Addr) (t_3 : ByteArray) (t_43 : Option Addr) (t_43l : Nat) (t_43c : Nat) (t_44 : Int) (t_45 : Int) (R : Value → World → Prop) (w : World) : Prop :=
  (cond (decide (t_45 < t_44))
  ((0 ≤ t_45 ∧ t_45 < ((t_43l : Nat) : Int)) ∧ nilV t_43 fun a1 => (∃ x2 : Int, World.cell? w (Addr.add a1 (Int.toNat t_45 * 1)) = some (.int .i64 x2) ∧ (Runs Try.prog api_Itoa.id #[(.int .i64 x2)] w fun r3 w4 => (∃ x5 : ByteArray, (r3 = (.string x5) ∧ (((ByteArray.size ⟨#[32]⟩ + ByteArray.size x5 : Nat) : Int) ≤ 9223372036854775807 ∧ (((ByteArray.size t_3 + ByteArray.size ((⟨#[32]⟩ : ByteArray) ++ x5) : Nat) : Int) ≤ 9223372036854775807 ∧ (mem_Store_Show.L2 s_0 (t_3 ++ ((⟨#[32]⟩ : ByteArray) ++ x5)) t_43 t_43l t_43c t_44 (IntKind.wrap .i64 (t_45 + (1 : Int))) R w4))))))))
  (((ByteArray.size t_3 + ByteArray.size ⟨#[32, 103, 108, 111, 98]⟩ : Nat) : Int) ≤ 9223372036854775807 ∧ ((World.drew w) = (World.drew w) ∧ (nilV s_0 fun a6 => ((World.drew w) = (World.drew w) ∧ ((World.drew w) = (World.drew w) ∧ ((World.drew w) = (World.drew w) ∧ (nilV s_0 fun a7 => ((World.drew w) = (World.drew w) ∧ ((World.drew w) = (World.drew w) ∧ (∃ x8 : Int, World.cell? (World.drew w) ⟨(Addr.block a7), (Addr.off a7 + 16), none⟩ = some (.int .i64 x8) ∧ ((World.drew w) = (World.drew w) ∧ ((0 ≤ (0 : Int) ∧ (0 : Int) ≤ x8 ∧ x8 ≤ ((4 : Nat) : Int) ∧ ((4 : Nat) : Int) ≤ ((4 : Nat) : Int)) ∧ ((World.drew w) = (World.drew w) ∧ ((World.drew w) = (World.drew w) ∧ ((World.drew w) = (World.drew w) ∧ (mem_Store_Show.L3 (t_3 ++ (⟨#[32, 103, 108, 111, 98]⟩ : ByteArray)) (slAddr (some ⟨(Addr.block a6), (Addr.off a6 + 12), none⟩) 0 4 1) ((Int.toNat x8) - 0) (4 - 0) ((((Int.toNat x8) - 0) : Nat) : Int) 0 R (World.drew w))))))))))))))))))
theorem mem_Store_Show.step2 (s_0 : Option Addr) (t_3 : ByteArray) (t_43 : Option Addr) (t_43l : Nat) (t_43c : Nat) (t_44 : Int) (t_45 : Int) (R : Value → World → Prop) (w : World) (h : mem_Store_Show.V2 s_0 t_3 t_43 t_43l t_43c t_44 t_45 R w) : mem_Store_Show.L2 s_0 t_3 t_43 t_43l t_43c t_44 t_45 R w :=
  seg_T good mixed Try.func14 600 false [.inLoop (sub (bodyOf Try.f14) [1, 1, 1, 1, 0, 1, 0, 0]), .inBlock 0, .code (sub (bodyOf Try.f14) [1, 1, 1, 1, 1])] [(0, (.pointer s_0)), (3, (.string t_3)), (43, (.slice t_43 t_43l t_43c)), (44, (.int .i64 t_44)), (45, (.int .i64 t_45))] w (Eq.mp (show mem_Store_Show.V2 s_0 t_3 t_43 t_43l t_43c t_44 t_45 R w = seg Try.prog 14 79 Try.f14.results.toList mem_Store_Show.cuts R 600 false [.inLoop (sub (bodyOf Try.f14) [1, 1, 1, 1, 0, 1, 0, 0]), .inBlock 0, .code (sub (bodyOf Try.f14) [1, 1, 1, 1, 1])] [(0, (.pointer s_0)), (3, (.string t_3)), (43, (.slice t_43 t_43l t_43c)), (44, (.int .i64 t_44)), (45, (.int .i64 t_45))] w by kernel_rfl) h)
def mem_Store_Show.V3 (t_3 : ByteArray) (t_65 : Option Addr) (t_65l : Nat) (t_65c : Nat) (t_66 : Int) (t_67 : Int) (R : Value → World → Prop) (w : World) : Prop :=
  (cond (decide (t_67 < t_66))
  ((0 ≤ t_67 ∧ t_67 < ((t_65l : Nat) : Int)) ∧ nilV t_65 fun a1 => (∃ x2 : Int, World.cell? w (Addr.add a1 (Int.toNat t_67 * 1)) = some (.int .u64 x2) ∧ (Runs Try.prog api_Hex.id #[(.int .u64 x2), (.int .i64 16)] w fun r3 w4 => (∃ x5 : ByteArray, (r3 = (.string x5) ∧ (((ByteArray.size ⟨#[32]⟩ + ByteArray.size x5 : Nat) : Int) ≤ 9223372036854775807 ∧ (((ByteArray.size t_3 + ByteArray.size ((⟨#[32]⟩ : ByteArray) ++ x5) : Nat) : Int) ≤ 9223372036854775807 ∧ (mem_Store_Show.L3 (t_3 ++ ((⟨#[32]⟩ : ByteArray) ++ x5)) t_65 t_65l t_65c t_66 (IntKind.wrap .i64 (t_67 + (1 : Int))) R w4))))))))
  (R (.string t_3) w))
theorem mem_Store_Show.step3 (t_3 : ByteArray) (t_65 : Option Addr) (t_65l : Nat) (t_65c : Nat) (t_66 : Int) (t_67 : Int) (R : Value → World → Prop) (w : World) (h : mem_Store_Show.V3 t_3 t_65 t_65l t_65c t_66 t_67 R w) : mem_Store_Show.L3 t_3 t_65 t_65l t_65c t_66 t_67 R w :=
  seg_T good mixed Try.func14 600 false [.inLoop (sub (bodyOf Try.f14) [1, 1, 1, 1, 1, 1, 0, 1, 0, 0]), .inBlock 2, .code (sub (bodyOf Try.f14) [1, 1, 1, 1, 1, 1, 1])] [(3, (.string t_3)), (65, (.slice t_65 t_65l t_65c)), (66, (.int .i64 t_66)), (67, (.int .i64 t_67))] w (Eq.mp (show mem_Store_Show.V3 t_3 t_65 t_65l t_65c t_66 t_67 R w = seg Try.prog 14 79 Try.f14.results.toList mem_Store_Show.cuts R 600 false [.inLoop (sub (bodyOf Try.f14) [1, 1, 1, 1, 1, 1, 0, 1, 0, 0]), .inBlock 2, .code (sub (bodyOf Try.f14) [1, 1, 1, 1, 1, 1, 1])] [(3, (.string t_3)), (65, (.slice t_65 t_65l t_65c)), (66, (.int .i64 t_66)), (67, (.int .i64 t_67))] w by kernel_rfl) h)
def mem_Store_Show.V (s_0 : Option Addr) (R : Value → World → Prop) (w : World) : Prop :=
  (nilV s_0 fun a2 => (∃ x3 : Bool, World.cell? w ⟨(Addr.block a2), (Addr.off a2 + 1), none⟩ = some (.bool x3) ∧ (cond x3
  (nilV s_0 fun a4 => (∃ x5 : Option Addr, ∃ x6 : Nat, ∃ x7 : Nat, World.cell? w ⟨(Addr.block a4), (Addr.off a4 + 2), none⟩ = some (.slice x5 x6 x7) ∧ (Runs Try.prog api_Itoa.id #[(.int .i64 (IntKind.wrap .i64 (Int.tdiv ((x7 : Nat) : Int) 64)))] w fun r8 w9 => (∃ x10 : ByteArray, (r8 = (.string x10) ∧ (nilV s_0 fun a11 => (∃ x12 : Option Addr, ∃ x13 : Nat, ∃ x14 : Nat, World.cell? w9 ⟨(Addr.block a11), (Addr.off a11 + 2), none⟩ = some (.slice x12 x13 x14) ∧ (∃ x16 : ByteArray, ∃ w15, Sem.run Try.prog (Go.convert T_sl_uint8 T_string (.slice x12 x13 x14)) w9 = .ok (.string x16) w15 ∧ (Runs Try.prog api_HexStr.id #[(.string x16)] w15 fun r17 w18 => (∃ x19 : ByteArray, (r17 = (.string x19) ∧ (((ByteArray.size ⟨#[109, 101, 109, 32]⟩ + ByteArray.size x10 : Nat) : Int) ≤ 9223372036854775807 ∧ (((ByteArray.size ((⟨#[109, 101, 109, 32]⟩ : ByteArray) ++ x10) + ByteArray.size ⟨#[32]⟩ : Nat) : Int) ≤ 9223372036854775807 ∧ (((ByteArray.size (((⟨#[109, 101, 109, 32]⟩ : ByteArray) ++ x10) ++ (⟨#[32]⟩ : ByteArray)) + ByteArray.size x19 : Nat) : Int) ≤ 9223372036854775807 ∧ (mem_Store_Show.L1 s_0 ((((⟨#[109, 101, 109, 32]⟩ : ByteArray) ++ x10) ++ (⟨#[32]⟩ : ByteArray)) ++ x19) R w18)))))))))))))))
  (mem_Store_Show.L1 s_0 ⟨#[109, 101, 109, 32, 45]⟩ R w))))
theorem mem_Store_Show.enter (s_0 : Option Addr) (R : Value → World → Prop) (w : World) (h : mem_Store_Show.V s_0 R w) : Runs Try.prog mem_Store_Show.id #[(.pointer s_0)] w R :=
  Runs.enter (c := bodyOf Try.f14) (N := 79) Try.func14 (by kernel_rfl) (by kernel_rfl) (by kernel_rfl) (seg_T good mixed Try.func14 600 false [.code (bodyOf Try.f14)] [(0, (.pointer s_0))] w (Eq.mp (show mem_Store_Show.V s_0 R w = seg Try.prog 14 79 Try.f14.results.toList mem_Store_Show.cuts R 600 false [.code (bodyOf Try.f14)] [(0, (.pointer s_0))] w by kernel_rfl) h))

/-! e2e/memlaw.Kept -/
def memlaw_Kept.cuts : List (Nat × List Nat) := [(14, [0, 1, 2, 7, 9, 10, 11]), (24, [0, 1, 2, 7, 10, 11, 13, 14]), (26, [0, 1, 2, 7, 10, 11, 13, 14, 16]), (30, [0, 1, 2, 7, 10, 13, 14]), (40, [0, 1, 2, 7, 10, 14]), (43, [0, 1, 2, 7, 10, 14, 18]), (46, [0, 1, 2, 7, 10, 14, 18]), (52, [0, 14])]
def memlaw_Kept.L1 (x_0 : Option Addr) (g_1 : Option Addr) (r_2 : Int) (o_7 : Nat) (at_9 : Int) (ea_10 : Int) (before_11 : ByteArray) (R : Value → World → Prop) (w : World) : Prop :=
  T Try.prog 15 179 [.code (sub (bodyOf Try.f15) [1, 1, 1, 1, 1, 1])] [(0, (.pointer x_0)), (1, (.pointer g_1)), (2, (.int .i64 r_2)), (7, (.pointer (some ⟨o_7, 0, none⟩))), (9, (.int .i64 at_9)), (10, (.int .i64 ea_10)), (11, (.string before_11))] w R
def memlaw_Kept.L2 (x_0 : Option Addr) (g_1 : Option Addr) (r_2 : Int) (o_7 : Nat) (ea_10 : Int) (before_11 : ByteArray) (a_13 : Nat) (after_14 : ByteArray) (R : Value → World → Prop) (w : World) : Prop :=
  T Try.prog 15 179 [.code (sub (bodyOf Try.f15) [1, 1, 1, 1, 1, 1, 1, 1, 1, 1])] [(0, (.pointer x_0)), (1, (.pointer g_1)), (2, (.int .i64 r_2)), (7, (.pointer (some ⟨o_7, 0, none⟩))), (10, (.int .i64 ea_10)), (11, (.string before_11)), (13, (.pointer (some ⟨a_13, 0, none⟩))), (14, (.string after_14))] w R
def memlaw_Kept.L3 (x_0 : Option Addr) (g_1 : Option Addr) (r_2 : Int) (o_7 : Nat) (ea_10 : Int) (before_11 : ByteArray) (a_13 : Nat) (after_14 : ByteArray) (turns_16 : Bool) (R : Value → World → Prop) (w : World) : Prop :=
  T Try.prog 15 179 [.code (sub (bodyOf Try.f15) [1, 1, 1, 1, 1, 1, 1, 1, 1, 1, 1])] [(0, (.pointer x_0)), (1, (.pointer g_1)), (2, (.int .i64 r_2)), (7, (.pointer (some ⟨o_7, 0, none⟩))), (10, (.int .i64 ea_10)), (11, (.string before_11)), (13, (.pointer (some ⟨a_13, 0, none⟩))), (14, (.string after_14)), (16, (.bool turns_16))] w R
def memlaw_Kept.L4 (x_0 : Option Addr) (g_1 : Option Addr) (r_2 : Int) (o_7 : Nat) (ea_10 : Int) (a_13 : Nat) (after_14 : ByteArray) (R : Value → World → Prop) (w : World) : Prop :=
  T Try.prog 15 179 [.code (sub (bodyOf Try.f15) [1, 1, 1, 1, 1, 1, 1, 1, 1, 1, 1, 1])] [(0, (.pointer x_0)), (1, (.pointer g_1)), (2, (.int .i64 r_2)), (7, (.pointer (some ⟨o_7, 0, none⟩))), (10, (.int .i64 ea_10)), (13, (.pointer (some ⟨a_13, 0, none⟩))), (14, (.string after_14))] w R
def memlaw_Kept.L5 (x_0 : Option Addr) (g_1 : Option Addr) (r_2 : Int) (o_7 : Nat) (ea_10 : Int) (after_14 : ByteArray) (R : Value → World → Prop) (w : World) : Prop :=
  T Try.prog 15 179 [.code (sub (bodyOf Try.f15) [1, 1, 1, 1, 1, 1, 1, 1, 1, 1, 1, 1, 1, 1, 1])] [(0, (.pointer x_0)), (1, (.pointer g_1)), (2, (.int .i64 r_2)), (7, (.pointer (some ⟨o_7, 0, none⟩))), (10, (.int .i64 ea_10)), (14, (.string after_14))] w R
def memlaw_Kept.L6 (x_0 : Option Addr) (g_1 : Option Addr) (r_2 : Int) (o_7 : Nat) (ea_10 : Int) (after_14 : ByteArray) (op_18 : Int) (R : Value → World → Prop) (w : World) : Prop :=
  T Try.prog 15 179 [.inLoop (sub (bodyOf Try.f15) [1, 1, 1, 1, 1, 1, 1, 1, 1, 1, 1, 1, 1, 1, 1, 0, 1, 0, 0]), .inBlock 0, .code (sub (bodyOf Try.f15) [1, 1, 1, 1, 1, 1, 1, 1, 1, 1, 1, 1, 1, 1, 1, 1])] [(0, (.pointer x_0)), (1, (.pointer g_1)), (2, (.int .i64 r_2)), (7, (.pointer (some ⟨o_7, 0, none⟩))), (10, (.int .i64 ea_10)), (14, (.string after_14)), (18, (.int .i64 op_18))] w R
def memlaw_Kept.L7 (x_0 : Option Addr) (g_1 : Option Addr) (r_2 : Int) (o_7 : Nat) (ea_10 : Int) (after_14 : ByteArray) (op_18 : Int) (R : Value → World → Prop) (w : World) : Prop :=
  T Try.prog 15 179 [.code (sub (bodyOf Try.f15) [1, 1, 1, 1, 1, 1, 1, 1, 1, 1, 1, 1, 1, 1, 1, 0, 1, 0, 0, 1]), .inLoop (sub (bodyOf Try.f15) [1, 1, 1, 1, 1, 1, 1, 1, 1, 1, 1, 1, 1, 1, 1, 0, 1, 0, 0]), .inBlock 0, .code (sub (bodyOf Try.f15) [1, 1, 1, 1, 1, 1, 1, 1, 1, 1, 1, 1, 1, 1, 1, 1])] [(0, (.pointer x_0)), (1, (.pointer g_1)), (2, (.int .i64 r_2)), (7, (.pointer (some ⟨o_7, 0, none⟩))), (10, (.int .i64 ea_10)), (14, (.string after_14)), (18, (.int .i64 op_18))] w R
def memlaw_Kept.L8 (x_0 : Option Addr) (after_14 : ByteArray) (R : Value → World → Prop) (w : World) : Prop :=
  T Try.prog 15 179 [.code (sub (bodyOf Try.f15) [1, 1, 1, 1, 1, 1, 1, 1, 1, 1, 1, 1, 1, 1, 1, 1])] [(0, (.pointer x_0)), (14, (.string after_14))] w R
def memlaw_Kept.V1 (x_0 : Option Addr) (g_1 : Option Addr) (r_2 : Int) (o_7 : Nat) (at_9 : Int) (ea_10 : Int) (before_11 : ByteArray) (R : Value → World → Prop) (w : World) : Prop :=
  (∃ x1 : Int, ∃ x2 : Int, ∃ x3 : Int, ∃ x4 : Int, ∃ x5 : ByteArray, ∃ x6 : ByteArray, World.cell? w ⟨o_7, 0, none⟩ = some (.int .i64 x1) ∧ World.cell? w ⟨o_7, 1, none⟩ = some (.int .i64 x2) ∧ World.cell? w ⟨o_7, 2, none⟩ = some (.int .i64 x3) ∧ World.cell? w ⟨o_7, 3, none⟩ = some (.int .i64 x4) ∧ World.cell? w ⟨o_7, 4, none⟩ = some (.string x5) ∧ World.cell? w ⟨o_7, 5, none⟩ = some (.string x6) ∧ (Runs Try.prog memlaw_Do.id #[(.pointer x_0), (.int .i64 r_2), (.agg #[(.int .i64 x1), (.int .i64 x2), (.int .i64 x3), (.int .i64 x4), (.string x5), (.string x6)])] w fun r7 w8 => (∃ x9 : Int, ∃ x10 : Int, ∃ x11 : Int, ∃ x12 : ByteArray, (r7 = (.agg #[(.int .i64 x9), (.int .i64 x10), (.int .i64 x11), (.string x12)]) ∧ (letB (Array.size (World.heap w8)) fun b13 => letW (World.alloc w8 (.cells #[(.int .i64 0), (.int .i64 0), (.int .i64 0), (.string ⟨#[]⟩)] T_api_Ans)) fun w14 => (putCells w14 ⟨b13, 0, none⟩ [(.int .i64 x9), (.int .i64 x10), (.int .i64 x11), (.string x12)] fun w15 => (Runs Try.prog mem_Store_Show.id #[(.pointer x_0)] w15 fun r16 w17 => (∃ x18 : ByteArray, (r16 = (.string x18) ∧ (∃ x19 : Int, ∃ x20 : Int, ∃ x21 : Int, ∃ x22 : Int, ∃ x23 : ByteArray, ∃ x24 : ByteArray, World.cell? w17 ⟨o_7, 0, none⟩ = some (.int .i64 x19) ∧ World.cell? w17 ⟨o_7, 1, none⟩ = some (.int .i64 x20) ∧ World.cell? w17 ⟨o_7, 2, none⟩ = some (.int .i64 x21) ∧ World.cell? w17 ⟨o_7, 3, none⟩ = some (.int .i64 x22) ∧ World.cell? w17 ⟨o_7, 4, none⟩ = some (.string x23) ∧ World.cell? w17 ⟨o_7, 5, none⟩ = some (.string x24) ∧ (Runs Try.prog memlaw_Owed.id #[(.pointer g_1), (.int .i64 r_2), (.agg #[(.int .i64 x19), (.int .i64 x20), (.int .i64 x21), (.int .i64 x22), (.string x23), (.string x24)]), (.int .i64 at_9), (.int .i64 ea_10)] w17 fun r25 w26 => (∃ x27 : Int, ∃ x28 : Int, ∃ x29 : Int, ∃ x30 : ByteArray, (r25 = (.agg #[(.int .i64 x27), (.int .i64 x28), (.int .i64 x29), (.string x30)]) ∧ (letB (Array.size (World.heap w26)) fun b31 => letW (World.alloc w26 (.cells #[(.int .i64 0), (.int .i64 0), (.int .i64 0), (.string ⟨#[]⟩)] T_api_Ans)) fun w32 => (putCells w32 ⟨b31, 0, none⟩ [(.int .i64 x27), (.int .i64 x28), (.int .i64 x29), (.string x30)] fun w33 => (∃ x34 : Int, World.cell? w33 ⟨b13, 0, none⟩ = some (.int .i64 x34) ∧ (∃ x35 : Int, World.cell? w33 ⟨b31, 0, none⟩ = some (.int .i64 x35) ∧ (cond (x34 != x35)
  (R (.bool false) w33)
  (∃ x36 : Int, World.cell? w33 ⟨b13, 1, none⟩ = some (.int .i64 x36) ∧ (∃ x37 : Int, World.cell? w33 ⟨b31, 1, none⟩ = some (.int .i64 x37) ∧ (cond (x36 != x37)
  (R (.bool false) w33)
  (memlaw_Kept.L2 x_0 g_1 r_2 o_7 ea_10 before_11 b13 x18 R w33))))))))))))))))))))))
theorem memlaw_Kept.step1 (x_0 : Option Addr) (g_1 : Option Addr) (r_2 : Int) (o_7 : Nat) (at_9 : Int) (ea_10 : Int) (before_11 : ByteArray) (R : Value → World → Prop) (w : World) (h : memlaw_Kept.V1 x_0 g_1 r_2 o_7 at_9 ea_10 before_11 R w) : memlaw_Kept.L1 x_0 g_1 r_2 o_7 at_9 ea_10 before_11 R w :=
  seg_T good mixed Try.func15 600 false [.code (sub (bodyOf Try.f15) [1, 1, 1, 1, 1, 1])] [(0, (.pointer x_0)), (1, (.pointer g_1)), (2, (.int .i64 r_2)), (7, (.pointer (some ⟨o_7, 0, none⟩))), (9, (.int .i64 at_9)), (10, (.int .i64 ea_10)), (11, (.string before_11))] w (Eq.mp (show memlaw_Kept.V1 x_0 g_1 r_2 o_7 at_9 ea_10 before_11 R w = seg Try.prog 15 179 Try.f15.results.toList memlaw_Kept.cuts R 600 false [.code (sub (bodyOf Try.f15) [1, 1, 1, 1, 1, 1])] [(0, (.pointer x_0)), (1, (.pointer g_1)), (2, (.int .i64 r_2)), (7, (.pointer (some ⟨o_7, 0, none⟩))), (9, (.int .i64 at_9)), (10, (.int .i64 ea_10)), (11, (.string before_11))] w by kernel_rfl) h)
def memlaw_Kept.V2 (x_0 : Option Addr) (g_1 : Option Addr) (r_2 : Int) (o_7 : Nat) (ea_10 : Int) (before_11 : ByteArray) (a_13 : Nat) (after_14 : ByteArray) (R : Value → World → Prop) (w : World) : Prop :=
  (∃ x1 : Int, World.cell? w ⟨o_7, 0, none⟩ = some (.int .i64 x1) ∧ (cond (x1 == (1 : Int))
  (memlaw_Kept.L3 x_0 g_1 r_2 o_7 ea_10 before_11 a_13 after_14 true R w)
  (∃ x9 : Int, World.cell? w ⟨o_7, 0, none⟩ = some (.int .i64 x9) ∧ (cond (x9 == (3 : Int))
  (memlaw_Kept.L3 x_0 g_1 r_2 o_7 ea_10 before_11 a_13 after_14 true R w)
  (∃ x10 : Int, World.cell? w ⟨o_7, 0, none⟩ = some (.int .i64 x10) ∧ (cond (x10 == (5 : Int))
  (memlaw_Kept.L3 x_0 g_1 r_2 o_7 ea_10 before_11 a_13 after_14 true R w)
  (∃ x11 : Int, World.cell? w ⟨o_7, 0, none⟩ = some (.int .i64 x11) ∧ (cond (x11 == (7 : Int))
  (memlaw_Kept.L3 x_0 g_1 r_2 o_7 ea_10 before_11 a_13 after_14 true R w)
  (∃ x12 : Int, World.cell? w ⟨o_7, 0, none⟩ = some (.int .i64 x12) ∧ (cond (x12 == (10 : Int))
  (memlaw_Kept.L3 x_0 g_1 r_2 o_7 ea_10 before_11 a_13 after_14 true R w)
  (∃ x13 : Int, World.cell? w ⟨o_7, 0, none⟩ = some (.int .i64 x13) ∧ (memlaw_Kept.L3 x_0 g_1 r_2 o_7 ea_10 before_11 a_13 after_14 (x13 == (13 : Int)) R w))))))))))))
theorem memlaw_Kept.step2 (x_0 : Option Addr) (g_1 : Option Addr) (r_2 : Int) (o_7 : Nat) (ea_10 : Int) (before_11 : ByteArray) (a_13 : Nat) (after_14 : ByteArray) (R : Value → World → Prop) (w : World) (h : memlaw_Kept.V2 x_0 g_1 r_2 o_7 ea_10 before_11 a_13 after_14 R w) : memlaw_Kept.L2 x_0 g_1 r_2 o_7 ea_10 before_11 a_13 after_14 R w :=
  seg_T good mixed Try.func15 600 false [.code (sub (bodyOf Try.f15) [1, 1, 1, 1, 1, 1, 1, 1, 1, 1])] [(0, (.pointer x_0)), (1, (.pointer g_1)), (2, (.int .i64 r_2)), (7, (.pointer (some ⟨o_7, 0, none⟩))), (10, (.int .i64 ea_10)), (11, (.string before_11)), (13, (.pointer (some ⟨a_13, 0, none⟩))), (14, (.string after_14))] w (Eq.mp (show memlaw_Kept.V2 x_0 g_1 r_2 o_7 ea_10 before_11 a_13 after_14 R w = seg Try.prog 15 179 Try.f15.results.toList memlaw_Kept.cuts R 600 false [.code (sub (bodyOf Try.f15) [1, 1, 1, 1, 1, 1, 1, 1, 1, 1])] [(0, (.pointer x_0)), (1, (.pointer g_1)), (2, (.int .i64 r_2)), (7, (.pointer (some ⟨o_7, 0, none⟩))), (10, (.int .i64 ea_10)), (11, (.string before_11)), (13, (.pointer (some ⟨a_13, 0, none⟩))), (14, (.string after_14))] w by kernel_rfl) h)
def memlaw_Kept.V3 (x_0 : Option Addr) (g_1 : Option Addr) (r_2 : Int) (o_7 : Nat) (ea_10 : Int) (before_11 : ByteArray) (a_13 : Nat) (after_14 : ByteArray) (turns_16 : Bool) (R : Value → World → Prop) (w : World) : Prop :=
  (cond (!turns_16)
  (cond (!(ByteArray.toList before_11 == ByteArray.toList after_14))
  (R (.bool false) w)
  (memlaw_Kept.L4 x_0 g_1 r_2 o_7 ea_10 a_13 after_14 R w))
  (∃ x6 : Int, World.cell? w ⟨a_13, 0, none⟩ = some (.int .i64 x6) ∧ (cond (x6 != (0 : Int))
  (cond (!(ByteArray.toList before_11 == ByteArray.toList after_14))
  (R (.bool false) w)
  (memlaw_Kept.L4 x_0 g_1 r_2 o_7 ea_10 a_13 after_14 R w))
  (memlaw_Kept.L4 x_0 g_1 r_2 o_7 ea_10 a_13 after_14 R w))))
theorem memlaw_Kept.step3 (x_0 : Option Addr) (g_1 : Option Addr) (r_2 : Int) (o_7 : Nat) (ea_10 : Int) (before_11 : ByteArray) (a_13 : Nat) (after_14 : ByteArray) (turns_16 : Bool) (R : Value → World → Prop) (w : World) (h : memlaw_Kept.V3 x_0 g_1 r_2 o_7 ea_10 before_11 a_13 after_14 turns_16 R w) : memlaw_Kept.L3 x_0 g_1 r_2 o_7 ea_10 before_11 a_13 after_14 turns_16 R w :=
  seg_T good mixed Try.func15 600 false [.code (sub (bodyOf Try.f15) [1, 1, 1, 1, 1, 1, 1, 1, 1, 1, 1])] [(0, (.pointer x_0)), (1, (.pointer g_1)), (2, (.int .i64 r_2)), (7, (.pointer (some ⟨o_7, 0, none⟩))), (10, (.int .i64 ea_10)), (11, (.string before_11)), (13, (.pointer (some ⟨a_13, 0, none⟩))), (14, (.string after_14)), (16, (.bool turns_16))] w (Eq.mp (show memlaw_Kept.V3 x_0 g_1 r_2 o_7 ea_10 before_11 a_13 after_14 turns_16 R w = seg Try.prog 15 179 Try.f15.results.toList memlaw_Kept.cuts R 600 false [.code (sub (bodyOf Try.f15) [1, 1, 1, 1, 1, 1, 1, 1, 1, 1, 1])] [(0, (.pointer x_0)), (1, (.pointer g_1)), (2, (.int .i64 r_2)), (7, (.pointer (some ⟨o_7, 0, none⟩))), (10, (.int .i64 ea_10)), (11, (.string before_11)), (13, (.pointer (some ⟨a_13, 0, none⟩))), (14, (.string after_14)), (16, (.bool turns_16))] w by kernel_rfl) h)
def memlaw_Kept.V4 (x_0 : Option Addr) (g_1 : Option Addr) (r_2 : Int) (o_7 : Nat) (ea_10 : Int) (a_13 : Nat) (after_14 : ByteArray) (R : Value → World → Prop) (w : World) : Prop :=
  (Runs Try.prog memlaw_Shown.id #[(.pointer g_1)] w fun r1 w2 => (∃ x3 : ByteArray, (r1 = (.string x3) ∧ (cond (!(ByteArray.toList after_14 == ByteArray.toList x3))
  (R (.bool false) w2)
  (∃ x4 : Int, World.cell? w2 ⟨o_7, 0, none⟩ = some (.int .i64 x4) ∧ (cond (x4 == (14 : Int))
  (∃ x5 : ByteArray, World.cell? w2 ⟨a_13, 3, none⟩ = some (.string x5) ∧ (cond (!(ByteArray.toList x5 == ByteArray.toList x3))
  (R (.bool false) w2)
  (memlaw_Kept.L5 x_0 g_1 r_2 o_7 ea_10 after_14 R w2)))
  (memlaw_Kept.L5 x_0 g_1 r_2 o_7 ea_10 after_14 R w2)))))))
theorem memlaw_Kept.step4 (x_0 : Option Addr) (g_1 : Option Addr) (r_2 : Int) (o_7 : Nat) (ea_10 : Int) (a_13 : Nat) (after_14 : ByteArray) (R : Value → World → Prop) (w : World) (h : memlaw_Kept.V4 x_0 g_1 r_2 o_7 ea_10 a_13 after_14 R w) : memlaw_Kept.L4 x_0 g_1 r_2 o_7 ea_10 a_13 after_14 R w :=
  seg_T good mixed Try.func15 600 false [.code (sub (bodyOf Try.f15) [1, 1, 1, 1, 1, 1, 1, 1, 1, 1, 1, 1])] [(0, (.pointer x_0)), (1, (.pointer g_1)), (2, (.int .i64 r_2)), (7, (.pointer (some ⟨o_7, 0, none⟩))), (10, (.int .i64 ea_10)), (13, (.pointer (some ⟨a_13, 0, none⟩))), (14, (.string after_14))] w (Eq.mp (show memlaw_Kept.V4 x_0 g_1 r_2 o_7 ea_10 a_13 after_14 R w = seg Try.prog 15 179 Try.f15.results.toList memlaw_Kept.cuts R 600 false [.code (sub (bodyOf Try.f15) [1, 1, 1, 1, 1, 1, 1, 1, 1, 1, 1, 1])] [(0, (.pointer x_0)), (1, (.pointer g_1)), (2, (.int .i64 r_2)), (7, (.pointer (some ⟨o_7, 0, none⟩))), (10, (.int .i64 ea_10)), (13, (.pointer (some ⟨a_13, 0, none⟩))), (14, (.string after_14))] w by kernel_rfl) h)
def memlaw_Kept.V5 (x_0 : Option Addr) (g_1 : Option Addr) (r_2 : Int) (o_7 : Nat) (ea_10 : Int) (after_14 : ByteArray) (R : Value → World → Prop) (w : World) : Prop :=
  (memlaw_Kept.L6 x_0 g_1 r_2 o_7 ea_10 after_14 40 R w)
theorem memlaw_Kept.step5 (x_0 : Option Addr) (g_1 : Option Addr) (r_2 : Int) (o_7 : Nat) (ea_10 : Int) (after_14 : ByteArray) (R : Value → World → Prop) (w : World) (h : memlaw_Kept.V5 x_0 g_1 r_2 o_7 ea_10 after_14 R w) : memlaw_Kept.L5 x_0 g_1 r_2 o_7 ea_10 after_14 R w :=
  seg_T good mixed Try.func15 600 false [.code (sub (bodyOf Try.f15) [1, 1, 1, 1, 1, 1, 1, 1, 1, 1, 1, 1, 1, 1, 1])] [(0, (.pointer x_0)), (1, (.pointer g_1)), (2, (.int .i64 r_2)), (7, (.pointer (some ⟨o_7, 0, none⟩))), (10, (.int .i64 ea_10)), (14, (.string after_14))] w (Eq.mp (show memlaw_Kept.V5 x_0 g_1 r_2 o_7 ea_10 after_14 R w = seg Try.prog 15 179 Try.f15.results.toList memlaw_Kept.cuts R 600 false [.code (sub (bodyOf Try.f15) [1, 1, 1, 1, 1, 1, 1, 1, 1, 1, 1, 1, 1, 1, 1])] [(0, (.pointer x_0)), (1, (.pointer g_1)), (2, (.int .i64 r_2)), (7, (.pointer (some ⟨o_7, 0, none⟩))), (10, (.int .i64 ea_10)), (14, (.string after_14))] w by kernel_rfl) h)
def memlaw_Kept.V6 (x_0 : Option Addr) (g_1 : Option Addr) (r_2 : Int) (o_7 : Nat) (ea_10 : Int) (after_14 : ByteArray) (op_18 : Int) (R : Value → World → Prop) (w : World) : Prop :=
  (∃ x1 : Int, World.cell? w ⟨o_7, 0, none⟩ = some (.int .i64 x1) ∧ (cond (x1 == (5 : Int))
  (cond (decide (op_18 ≤ (53 : Int)))
  (memlaw_Kept.L7 x_0 g_1 r_2 o_7 ea_10 after_14 op_18 R w)
  (memlaw_Kept.L8 x_0 after_14 R w))
  (memlaw_Kept.L8 x_0 after_14 R w)))
theorem memlaw_Kept.step6 (x_0 : Option Addr) (g_1 : Option Addr) (r_2 : Int) (o_7 : Nat) (ea_10 : Int) (after_14 : ByteArray) (op_18 : Int) (R : Value → World → Prop) (w : World) (h : memlaw_Kept.V6 x_0 g_1 r_2 o_7 ea_10 after_14 op_18 R w) : memlaw_Kept.L6 x_0 g_1 r_2 o_7 ea_10 after_14 op_18 R w :=
  seg_T good mixed Try.func15 600 false [.inLoop (sub (bodyOf Try.f15) [1, 1, 1, 1, 1, 1, 1, 1, 1, 1, 1, 1, 1, 1, 1, 0, 1, 0, 0]), .inBlock 0, .code (sub (bodyOf Try.f15) [1, 1, 1, 1, 1, 1, 1, 1, 1, 1, 1, 1, 1, 1, 1, 1])] [(0, (.pointer x_0)), (1, (.pointer g_1)), (2, (.int .i64 r_2)), (7, (.pointer (some ⟨o_7, 0, none⟩))), (10, (.int .i64 ea_10)), (14, (.string after_14)), (18, (.int .i64 op_18))] w (Eq.mp (show memlaw_Kept.V6 x_0 g_1 r_2 o_7 ea_10 after_14 op_18 R w = seg Try.prog 15 179 Try.f15.results.toList memlaw_Kept.cuts R 600 false [.inLoop (sub (bodyOf Try.f15) [1, 1, 1, 1, 1, 1, 1, 1, 1, 1, 1, 1, 1, 1, 1, 0, 1, 0, 0]), .inBlock 0, .code (sub (bodyOf Try.f15) [1, 1, 1, 1, 1, 1, 1, 1, 1, 1, 1, 1, 1, 1, 1, 1])] [(0, (.pointer x_0)), (1, (.pointer g_1)), (2, (.int .i64 r_2)), (7, (.pointer (some ⟨o_7, 0, none⟩))), (10, (.int .i64 ea_10)), (14, (.string after_14)), (18, (.int .i64 op_18))] w by kernel_rfl) h)
def memlaw_Kept.V7 (x_0 : Option Addr) (g_1 : Option Addr) (r_2 : Int) (o_7 : Nat) (ea_10 : Int) (after_14 : ByteArray) (op_18 : Int) (R : Value → World → Prop) (w : World) : Prop :=
  (∃ x1 : Int, World.cell? w ⟨o_7, 2, none⟩ = some (.int .i64 x1) ∧ (∃ x2 : Int, World.cell? w ⟨o_7, 3, none⟩ = some (.int .i64 x2) ∧ (Runs Try.prog memlaw_Do.id #[(.pointer x_0), (.int .i64 r_2), (.agg #[(.int .i64 4), (.int .i64 op_18), (.int .i64 x1), (.int .i64 x2), (.string ⟨#[]⟩), (.string ⟨#[]⟩)])] w fun r3 w4 => (∃ x5 : Int, ∃ x6 : Int, ∃ x7 : Int, ∃ x8 : ByteArray, (r3 = (.agg #[(.int .i64 x5), (.int .i64 x6), (.int .i64 x7), (.string x8)]) ∧ (letB (Array.size (World.heap w4)) fun b9 => letW (World.alloc w4 (.cells #[(.int .i64 0), (.int .i64 0), (.int .i64 0), (.string ⟨#[]⟩)] T_api_Ans)) fun w10 => (putCells w10 ⟨b9, 0, none⟩ [(.int .i64 x5), (.int .i64 x6), (.int .i64 x7), (.string x8)] fun w11 => (∃ C12 : World → Prop, C12 (World.drew w11) ∧ (∃ x15 : Int, ∃ x16 : Int, ∃ x17 : Int, ∃ x18 : ByteArray, (∀ w14, C12 w14 → World.cell? w14 ⟨b9, 0, none⟩ = some (.int .i64 x15) ∧ World.cell? w14 ⟨b9, 1, none⟩ = some (.int .i64 x16) ∧ World.cell? w14 ⟨b9, 2, none⟩ = some (.int .i64 x17) ∧ World.cell? w14 ⟨b9, 3, none⟩ = some (.string x18) ∧ True) ∧ (∃ x20 : Int, ∃ x21 : Int, ∃ x22 : Int, ∃ x23 : ByteArray, (∀ w19, C12 w19 → Runs Try.prog memlaw_Owes.id #[(.pointer g_1), (.int .i64 op_18), (.int .i64 ea_10)] w19 fun r24 w25 => r24 = (.agg #[(.int .i64 x20), (.int .i64 x21), (.int .i64 x22), (.string x23)]) ∧ C12 w25) ∧ (∃ x27 : Bool, (∀ w26, C12 w26 → Sem.run Try.prog ((do eqGuard .neq T_api_Ans (.tmp 163) (.tmp 167) (.agg #[(.int .i64 x15), (.int .i64 x16), (.int .i64 x17), (.string x18)]) (.agg #[(.int .i64 x20), (.int .i64 x21), (.int .i64 x22), (.string x23)]); Go.binOp .neq T_api_Ans (.agg #[(.int .i64 x15), (.int .i64 x16), (.int .i64 x17), (.string x18)]) (.agg #[(.int .i64 x20), (.int .i64 x21), (.int .i64 x22), (.string x23)]))) w26 = .ok (.bool x27) w26) ∧ (∀ w13, C12 w13 → (cond x27
  (R (.bool false) w13)
  (memlaw_Kept.L6 x_0 g_1 r_2 o_7 ea_10 after_14 (IntKind.wrap .i64 (op_18 + (1 : Int))) R w13))))))))))))))
theorem memlaw_Kept.step7 (x_0 : Option Addr) (g_1 : Option Addr) (r_2 : Int) (o_7 : Nat) (ea_10 : Int) (after_14 : ByteArray) (op_18 : Int) (R : Value → World → Prop) (w : World) (h : memlaw_Kept.V7 x_0 g_1 r_2 o_7 ea_10 after_14 op_18 R w) : memlaw_Kept.L7 x_0 g_1 r_2 o_7 ea_10 after_14 op_18 R w :=
  seg_T good mixed Try.func15 600 false [.code (sub (bodyOf Try.f15) [1, 1, 1, 1, 1, 1, 1, 1, 1, 1, 1, 1, 1, 1, 1, 0, 1, 0, 0, 1]), .inLoop (sub (bodyOf Try.f15) [1, 1, 1, 1, 1, 1, 1, 1, 1, 1, 1, 1, 1, 1, 1, 0, 1, 0, 0]), .inBlock 0, .code (sub (bodyOf Try.f15) [1, 1, 1, 1, 1, 1, 1, 1, 1, 1, 1, 1, 1, 1, 1, 1])] [(0, (.pointer x_0)), (1, (.pointer g_1)), (2, (.int .i64 r_2)), (7, (.pointer (some ⟨o_7, 0, none⟩))), (10, (.int .i64 ea_10)), (14, (.string after_14)), (18, (.int .i64 op_18))] w (Eq.mp (show memlaw_Kept.V7 x_0 g_1 r_2 o_7 ea_10 after_14 op_18 R w = seg Try.prog 15 179 Try.f15.results.toList memlaw_Kept.cuts R 600 false [.code (sub (bodyOf Try.f15) [1, 1, 1, 1, 1, 1, 1, 1, 1, 1, 1, 1, 1, 1, 1, 0, 1, 0, 0, 1]), .inLoop (sub (bodyOf Try.f15) [1, 1, 1, 1, 1, 1, 1, 1, 1, 1, 1, 1, 1, 1, 1, 0, 1, 0, 0]), .inBlock 0, .code (sub (bodyOf Try.f15) [1, 1, 1, 1, 1, 1, 1, 1, 1, 1, 1, 1, 1, 1, 1, 1])] [(0, (.pointer x_0)), (1, (.pointer g_1)), (2, (.int .i64 r_2)), (7, (.pointer (some ⟨o_7, 0, none⟩))), (10, (.int .i64 ea_10)), (14, (.string after_14)), (18, (.int .i64 op_18))] w by kernel_rfl) h)
def memlaw_Kept.V8 (x_0 : Option Addr) (after_14 : ByteArray) (R : Value → World → Prop) (w : World) : Prop :=
  (Runs Try.prog mem_Store_Check.id #[(.pointer x_0)] w fun r1 w2 => (∃ x3 : Bool, (r1 = (.bool x3) ∧ (Runs Try.prog mem_Store_Show.id #[(.pointer x_0)] w2 fun r4 w5 => (∃ x6 : ByteArray, (r4 = (.string x6) ∧ (cond x3
  (R (.bool (ByteArray.toList after_14 == ByteArray.toList x6)) w5)
  (R (.bool false) w5))))))))
theorem memlaw_Kept.step8 (x_0 : Option Addr) (after_14 : ByteArray) (R : Value → World → Prop) (w : World) (h : memlaw_Kept.V8 x_0 after_14 R w) : memlaw_Kept.L8 x_0 after_14 R w :=
  seg_T good mixed Try.func15 600 false [.code (sub (bodyOf Try.f15) [1, 1, 1, 1, 1, 1, 1, 1, 1, 1, 1, 1, 1, 1, 1, 1])] [(0, (.pointer x_0)), (14, (.string after_14))] w (Eq.mp (show memlaw_Kept.V8 x_0 after_14 R w = seg Try.prog 15 179 Try.f15.results.toList memlaw_Kept.cuts R 600 false [.code (sub (bodyOf Try.f15) [1, 1, 1, 1, 1, 1, 1, 1, 1, 1, 1, 1, 1, 1, 1, 1])] [(0, (.pointer x_0)), (14, (.string after_14))] w by kernel_rfl) h)
def memlaw_Kept.V (x_0 : Option Addr) (g_1 : Option Addr) (r_2 : Int) (o_3_4 : Int) (o_3_5 : Int) (o_3_6 : Int) (o_3_7 : Int) (o_3_8 : ByteArray) (o_3_9 : ByteArray) (R : Value → World → Prop) (w : World) : Prop :=
  (letB (Array.size (World.heap w)) fun b10 => letW (World.alloc w (.cells #[(.int .i64 o_3_4), (.int .i64 o_3_5), (.int .i64 o_3_6), (.int .i64 o_3_7), (.string o_3_8), (.string o_3_9)] T_api_Op)) fun w11 => (∃ x12 : Int, World.cell? w11 ⟨b10, 1, none⟩ = some (.int .i64 x12) ∧ (∃ x13 : Int, World.cell? w11 ⟨b10, 2, none⟩ = some (.int .i64 x13) ∧ (∃ x14 : Int, World.cell? w11 ⟨b10, 3, none⟩ = some (.int .i64 x14) ∧ (Runs Try.prog mem_Store_Show.id #[(.pointer x_0)] w11 fun r15 w16 => (∃ x17 : ByteArray, (r15 = (.string x17) ∧ (∃ x18 : Int, World.cell? w16 ⟨b10, 1, none⟩ = some (.int .i64 x18) ∧ (∃ x19 : ByteArray, World.cell? w16 ⟨b10, 4, none⟩ = some (.string x19) ∧ (Runs Try.prog mem_Store_Fits.id #[(.pointer x_0), (.int .u32 (IntKind.wrap .u32 x18)), (.int .i64 ((ByteArray.size x19 : Nat) : Int))] w16 fun r20 w21 => (∃ x22 : Bool, (r20 = (.bool x22) ∧ ((World.drew w21) = (World.drew w21) ∧ ((World.drew w21) = (World.drew w21) ∧ (∃ x23 : ByteArray, World.cell? (World.drew w21) ⟨b10, 4, none⟩ = some (.string x23) ∧ ((World.drew w21) = (World.drew w21) ∧ ((World.drew w21) = (World.drew w21) ∧ ((World.drew w21) = (World.drew w21) ∧ (nilV g_1 fun a24 => ((World.drew w21) = (World.drew w21) ∧ ((World.drew w21) = (World.drew w21) ∧ (∃ x25 : Int, World.cell? (World.drew w21) ⟨(Addr.block a24), (Addr.off a24 + 1), none⟩ = some (.int .i64 x25) ∧ ((World.drew w21) = (World.drew w21) ∧ ((World.drew w21) = (World.drew w21) ∧ ((World.drew w21) = (World.drew w21) ∧ (cond (decide (((ByteArray.size x23 : Nat) : Int) ≤ x25))
  ((World.drew w21) = (World.drew w21) ∧ ((World.drew w21) = (World.drew w21) ∧ (∃ x26 : ByteArray, World.cell? (World.drew w21) ⟨b10, 4, none⟩ = some (.string x26) ∧ ((World.drew w21) = (World.drew w21) ∧ ((World.drew w21) = (World.drew w21) ∧ ((World.drew w21) = (World.drew w21) ∧ ((World.drew w21) = (World.drew w21) ∧ (nilV g_1 fun a27 => ((World.drew w21) = (World.drew w21) ∧ ((World.drew w21) = (World.drew w21) ∧ (∃ x28 : Int, World.cell? (World.drew w21) ⟨(Addr.block a27), (Addr.off a27 + 1), none⟩ = some (.int .i64 x28) ∧ ((World.drew w21) = (World.drew w21) ∧ ((World.drew w21) = (World.drew w21) ∧ ((World.drew w21) = (World.drew w21) ∧ ((World.drew w21) = (World.drew w21) ∧ (cond (!(x22 == (decide ((IntKind.wrap .i64 ((IntKind.wrap .i64 (IntKind.wrap .u32 x12)) + ((ByteArray.size x26 : Nat) : Int))) ≤ x28))))
  (R (.bool false) (World.drew w21))
  (memlaw_Kept.L1 x_0 g_1 r_2 b10 (IntKind.wrap .i64 (IntKind.wrap .u32 x12)) (IntKind.wrap .i64 ((IntKind.wrap .i64 (IntKind.wrap .u32 x13)) + (IntKind.wrap .i64 (IntKind.wrap .u32 x14)))) x17 R (World.drew w21))))))))))))))))))
  ((World.drew w21) = (World.drew w21) ∧ ((World.drew w21) = (World.drew w21) ∧ (cond (!(x22 == false))
  (R (.bool false) (World.drew w21))
  (memlaw_Kept.L1 x_0 g_1 r_2 b10 (IntKind.wrap .i64 (IntKind.wrap .u32 x12)) (IntKind.wrap .i64 ((IntKind.wrap .i64 (IntKind.wrap .u32 x13)) + (IntKind.wrap .i64 (IntKind.wrap .u32 x14)))) x17 R (World.drew w21)))))))))))))))))))))))))))))))
theorem memlaw_Kept.enter (x_0 : Option Addr) (g_1 : Option Addr) (r_2 : Int) (o_3_4 : Int) (o_3_5 : Int) (o_3_6 : Int) (o_3_7 : Int) (o_3_8 : ByteArray) (o_3_9 : ByteArray) (R : Value → World → Prop) (w : World) (h : memlaw_Kept.V x_0 g_1 r_2 o_3_4 o_3_5 o_3_6 o_3_7 o_3_8 o_3_9 R w) : Runs Try.prog memlaw_Kept.id #[(.pointer x_0), (.pointer g_1), (.int .i64 r_2), (.agg #[(.int .i64 o_3_4), (.int .i64 o_3_5), (.int .i64 o_3_6), (.int .i64 o_3_7), (.string o_3_8), (.string o_3_9)])] w R :=
  Runs.enter (c := bodyOf Try.f15) (N := 179) Try.func15 (by kernel_rfl) (by kernel_rfl) (by kernel_rfl) (seg_T good mixed Try.func15 600 false [.code (bodyOf Try.f15)] [(0, (.pointer x_0)), (1, (.pointer g_1)), (2, (.int .i64 r_2)), (3, (.agg #[(.int .i64 o_3_4), (.int .i64 o_3_5), (.int .i64 o_3_6), (.int .i64 o_3_7), (.string o_3_8), (.string o_3_9)]))] w (Eq.mp (show memlaw_Kept.V x_0 g_1 r_2 o_3_4 o_3_5 o_3_6 o_3_7 o_3_8 o_3_9 R w = seg Try.prog 15 179 Try.f15.results.toList memlaw_Kept.cuts R 600 false [.code (bodyOf Try.f15)] [(0, (.pointer x_0)), (1, (.pointer g_1)), (2, (.int .i64 r_2)), (3, (.agg #[(.int .i64 o_3_4), (.int .i64 o_3_5), (.int .i64 o_3_6), (.int .i64 o_3_7), (.string o_3_8), (.string o_3_9)]))] w by kernel_rfl) h))

/-! (*e2e/mem.Store).Check -/
def mem_Store_Check.cuts : List (Nat × List Nat) := [(10, [0]), (13, [0, 43, 44]), (38, [0]), (41, [0, 6])]
def mem_Store_Check.L1 (s_0 : Option Addr) (R : Value → World → Prop) (w : World) : Prop :=
  T Try.prog 16 134 [.code (sub (bodyOf Try.f16) [1, 1, 1])] [(0, (.pointer s_0))] w R
def mem_Store_Check.L2 (s_0 : Option Addr) (t_43 : Int) (t_44 : Int) (R : Value → World → Prop) (w : World) : Prop :=
  T Try.prog 16 134 [.inLoop (sub (bodyOf Try.f16) [1, 1, 1, 0, 1, 0, 0]), .inBlock 0, .code (sub (bodyOf Try.f16) [1, 1, 1, 1])] [(0, (.pointer s_0)), (43, (.int .i64 t_43)), (44, (.int .i64 t_44))] w R
def mem_Store_Check.L3 (s_0 : Option Addr) (R : Value → World → Prop) (w : World) : Prop :=
  T Try.prog 16 134 [.code (sub (bodyOf Try.f16) [1, 1, 1, 1, 1, 1, 1, 1, 1, 1])] [(0, (.pointer s_0))] w R
def mem_Store_Check.L4 (s_0 : Option Addr) (a_6 : Int) (R : Value → World → Prop) (w : World) : Prop :=
  T Try.prog 16 134 [.inLoop (sub (bodyOf Try.f16) [1, 1, 1, 1, 1, 1, 1, 1, 1, 1, 0, 1, 0, 0]), .inBlock 2, .code (sub (bodyOf Try.f16) [1, 1, 1, 1, 1, 1, 1, 1, 1, 1, 1])] [(0, (.pointer s_0)), (6, (.int .i64 a_6))] w R
def mem_Store_Check.V1 (s_0 : Option Addr) (R : Value → World → Prop) (w : World) : Prop :=
  (nilV s_0 fun a1 => (∃ x2 : Int, World.cell? w ⟨(Addr.block a1), (Addr.off a1 + 11), none⟩ = some (.int .i64 x2) ∧ (mem_Store_Check.L2 s_0 x2 0 R w)))
theorem mem_Store_Check.step1 (s_0 : Option Addr) (R : Value → World → Prop) (w : World) (h : mem_Store_Check.V1 s_0 R w) : mem_Store_Check.L1 s_0 R w :=
  seg_T good mixed Try.func16 600 false [.code (sub (bodyOf Try.f16) [1, 1, 1])] [(0, (.pointer s_0))] w (Eq.mp (show mem_Store_Check.V1 s_0 R w = seg Try.prog 16 134 Try.f16.results.toList mem_Store_Check.cuts R 600 false [.code (sub (bodyOf Try.f16) [1, 1, 1])] [(0, (.pointer s_0))] w by kernel_rfl) h)
def mem_Store_Check.V2 (s_0 : Option Addr) (t_43 : Int) (t_44 : Int) (R : Value → World → Prop) (w : World) : Prop :=
  (cond (decide (t_44 < t_43))
  (nilV s_0 fun a1 => ((0 ≤ t_44 ∧ t_44 < ((8 : Nat) : Int)) ∧ (∃ x2 : Int, World.cell? w (Addr.add ⟨(Addr.block a1), (Addr.off a1 + 3), none⟩ (Int.toNat t_44 * 1)) = some (.int .i64 x2) ∧ (cond (decide (x2 < (-1)))
  (R (.bool false) w)
  (mem_Store_Check.L2 s_0 t_43 (IntKind.wrap .i64 (t_44 + (1 : Int))) R w)))))
  (nilV s_0 fun a3 => (∃ x4 : Bool, World.cell? w ⟨(Addr.block a3), (Addr.off a3 + 1), none⟩ = some (.bool x4) ∧ (cond (!x4)
  (nilV s_0 fun a5 => (∃ x6 : Option Addr, ∃ x7 : Nat, ∃ x8 : Nat, World.cell? w ⟨(Addr.block a5), (Addr.off a5 + 2), none⟩ = some (.slice x6 x7 x8) ∧ (cond (((x7 : Nat) : Int) == (0 : Int))
  (nilV s_0 fun a9 => (∃ x10 : Option Addr, ∃ x11 : Nat, ∃ x12 : Nat, World.cell? w ⟨(Addr.block a9), (Addr.off a9 + 2), none⟩ = some (.slice x10 x11 x12) ∧ (R (.bool (((x12 : Nat) : Int) == (0 : Int))) w)))
  (R (.bool false) w))))
  (nilV s_0 fun a13 => (∃ x14 : Option Addr, ∃ x15 : Nat, ∃ x16 : Nat, World.cell? w ⟨(Addr.block a13), (Addr.off a13 + 2), none⟩ = some (.slice x14 x15 x16) ∧ (nilV s_0 fun a17 => (∃ x18 : Option Addr, ∃ x19 : Nat, ∃ x20 : Nat, World.cell? w ⟨(Addr.block a17), (Addr.off a17 + 2), none⟩ = some (.slice x18 x19 x20) ∧ (cond ((Int.tmod ((x15 : Nat) : Int) 64) != (0 : Int))
  (R (.bool false) w)
  (cond ((Int.tmod ((x20 : Nat) : Int) 64) != (0 : Int))
  (R (.bool false) w)
  (nilV s_0 fun a21 => (∃ x22 : Option Addr, ∃ x23 : Nat, ∃ x24 : Nat, World.cell? w ⟨(Addr.block a21), (Addr.off a21 + 2), none⟩ = some (.slice x22 x23 x24) ∧ (cond (decide (((x24 : Nat) : Int) > (384 : Int)))
  (R (.bool false) w)
  (mem_Store_Check.L3 s_0 R w))))))))))))))
theorem mem_Store_Check.step2 (s_0 : Option Addr) (t_43 : Int) (t_44 : Int) (R : Value → World → Prop) (w : World) (h : mem_Store_Check.V2 s_0 t_43 t_44 R w) : mem_Store_Check.L2 s_0 t_43 t_44 R w :=
  seg_T good mixed Try.func16 600 false [.inLoop (sub (bodyOf Try.f16) [1, 1, 1, 0, 1, 0, 0]), .inBlock 0, .code (sub (bodyOf Try.f16) [1, 1, 1, 1])] [(0, (.pointer s_0)), (43, (.int .i64 t_43)), (44, (.int .i64 t_44))] w (Eq.mp (show mem_Store_Check.V2 s_0 t_43 t_44 R w = seg Try.prog 16 134 Try.f16.results.toList mem_Store_Check.cuts R 600 false [.inLoop (sub (bodyOf Try.f16) [1, 1, 1, 0, 1, 0, 0]), .inBlock 0, .code (sub (bodyOf Try.f16) [1, 1, 1, 1])] [(0, (.pointer s_0)), (43, (.int .i64 t_43)), (44, (.int .i64 t_44))] w by kernel_rfl) h)
def mem_Store_Check.V3 (s_0 : Option Addr) (R : Value → World → Prop) (w : World) : Prop :=
  (mem_Store_Check.L4 s_0 0 R w)
theorem mem_Store_Check.step3 (s_0 : Option Addr) (R : Value → World → Prop) (w : World) (h : mem_Store_Check.V3 s_0 R w) : mem_Store_Check.L3 s_0 R w :=
  seg_T good mixed Try.func16 600 false [.code (sub (bodyOf Try.f16) [1, 1, 1, 1, 1, 1, 1, 1, 1, 1])] [(0, (.pointer s_0))] w (Eq.mp (show mem_Store_Check.V3 s_0 R w = seg Try.prog 16 134 Try.f16.results.toList mem_Store_Check.cuts R 600 false [.code (sub (bodyOf Try.f16) [1, 1, 1, 1, 1, 1, 1, 1, 1, 1])] [(0, (.pointer s_0))] w by kernel_rfl) h)
def mem_Store_Check.V4 (s_0 : Option Addr) (a_6 : Int) (R : Value → World → Prop) (w : World) : Prop :=
  (nilV s_0 fun a1 => (∃ x2 : Option Addr, ∃ x3 : Nat, ∃ x4 : Nat, World.cell? w ⟨(Addr.block a1), (Addr.off a1 + 2), none⟩ = some (.slice x2 x3 x4) ∧ (cond (decide (a_6 < ((x3 : Nat) : Int)))
  ((World.drew w) = (World.drew w) ∧ (nilV s_0 fun a5 => ((World.drew w) = (World.drew w) ∧ ((World.drew w) = (World.drew w) ∧ (∃ x6 : Option Addr, ∃ x7 : Nat, ∃ x8 : Nat, World.cell? (World.drew w) ⟨(Addr.block a5), (Addr.off a5 + 2), none⟩ = some (.slice x6 x7 x8) ∧ ((World.drew w) = (World.drew w) ∧ ((World.drew w) = (World.drew w) ∧ ((World.drew w) = (World.drew w) ∧ ((World.drew w) = (World.drew w) ∧ ((0 ≤ a_6 ∧ a_6 ≤ (IntKind.wrap .i64 (a_6 + (8 : Int))) ∧ (IntKind.wrap .i64 (a_6 + (8 : Int))) ≤ ((x8 : Nat) : Int) ∧ ((x8 : Nat) : Int) ≤ ((x8 : Nat) : Int)) ∧ ((World.drew w) = (World.drew w) ∧ (8 ≤ ((Int.toNat (IntKind.wrap .i64 (a_6 + (8 : Int)))) - (Int.toNat a_6)) ∧ ((World.drew w) = (World.drew w) ∧ (nilV (slAddr x6 (Int.toNat a_6) x8 1) fun a9 => (∃ x10 : Int, ∃ x11 : Int, ∃ x12 : Int, ∃ x13 : Int, ∃ x14 : Int, ∃ x15 : Int, ∃ x16 : Int, ∃ x17 : Int, World.cell? (World.drew w) a9 = some (.int .u8 x10) ∧ World.cell? (World.drew w) ⟨(Addr.block a9), (Addr.off a9 + 1), none⟩ = some (.int .u8 x11) ∧ World.cell? (World.drew w) ⟨(Addr.block a9), (Addr.off a9 + 2), none⟩ = some (.int .u8 x12) ∧ World.cell? (World.drew w) ⟨(Addr.block a9), (Addr.off a9 + 3), none⟩ = some (.int .u8 x13) ∧ World.cell? (World.drew w) ⟨(Addr.block a9), (Addr.off a9 + 4), none⟩ = some (.int .u8 x14) ∧ World.cell? (World.drew w) ⟨(Addr.block a9), (Addr.off a9 + 5), none⟩ = some (.int .u8 x15) ∧ World.cell? (World.drew w) ⟨(Addr.block a9), (Addr.off a9 + 6), none⟩ = some (.int .u8 x16) ∧ World.cell? (World.drew w) ⟨(Addr.block a9), (Addr.off a9 + 7), none⟩ = some (.int .u8 x17) ∧ ((World.drew w) = (World.drew w) ∧ ((World.drew w) = (World.drew w) ∧ (nilV s_0 fun a18 => ((World.drew w) = (World.drew w) ∧ ((World.drew w) = (World.drew w) ∧ (∃ x19 : Option Addr, ∃ x20 : Nat, ∃ x21 : Nat, World.cell? (World.drew w) a18 = some (.slice x19 x20 x21) ∧ ((World.drew w) = (World.drew w) ∧ ((World.drew w) = (World.drew w) ∧ ((World.drew w) = (World.drew w) ∧ ((World.drew w) = (World.drew w) ∧ ((0 ≤ a_6 ∧ a_6 ≤ (IntKind.wrap .i64 (a_6 + (8 : Int))) ∧ (IntKind.wrap .i64 (a_6 + (8 : Int))) ≤ ((x21 : Nat) : Int) ∧ ((x21 : Nat) : Int) ≤ ((x21 : Nat) : Int)) ∧ ((World.drew w) = (World.drew w) ∧ (8 ≤ ((Int.toNat (IntKind.wrap .i64 (a_6 + (8 : Int)))) - (Int.toNat a_6)) ∧ ((World.drew w) = (World.drew w) ∧ (nilV (slAddr x19 (Int.toNat a_6) x21 1) fun a22 => (∃ x23 : Int, ∃ x24 : Int, ∃ x25 : Int, ∃ x26 : Int, ∃ x27 : Int, ∃ x28 : Int, ∃ x29 : Int, ∃ x30 : Int, World.cell? (World.drew w) a22 = some (.int .u8 x23) ∧ World.cell? (World.drew w) ⟨(Addr.block a22), (Addr.off a22 + 1), none⟩ = some (.int .u8 x24) ∧ World.cell? (World.drew w) ⟨(Addr.block a22), (Addr.off a22 + 2), none⟩ = some (.int .u8 x25) ∧ World.cell? (World.drew w) ⟨(Addr.block a22), (Addr.off a22 + 3), none⟩ = some (.int .u8 x26) ∧ World.cell? (World.drew w) ⟨(Addr.block a22), (Addr.off a22 + 4), none⟩ = some (.int .u8 x27) ∧ World.cell? (World.drew w) ⟨(Addr.block a22), (Addr.off a22 + 5), none⟩ = some (.int .u8 x28) ∧ World.cell? (World.drew w) ⟨(Addr.block a22), (Addr.off a22 + 6), none⟩ = some (.int .u8 x29) ∧ World.cell? (World.drew w) ⟨(Addr.block a22), (Addr.off a22 + 7), none⟩ = some (.int .u8 x30) ∧ ((World.drew w) = (World.drew w) ∧ (∃ x32 : Bool, ∃ w31, Sem.run Try.prog ((do eqGuard .eql T__8_uint8 (.tmp 120) (.tmp 130) (.agg #[(.int .u8 x10), (.int .u8 x11), (.int .u8 x12), (.int .u8 x13), (.int .u8 x14), (.int .u8 x15), (.int .u8 x16), (.int .u8 x17)]) (.agg #[(.int .u8 x23), (.int .u8 x24), (.int .u8 x25), (.int .u8 x26), (.int .u8 x27), (.int .u8 x28), (.int .u8 x29), (.int .u8 x30)]); Go.binOp .eql T__8_uint8 (.agg #[(.int .u8 x10), (.int .u8 x11), (.int .u8 x12), (.int .u8 x13), (.int .u8 x14), (.int .u8 x15), (.int .u8 x16), (.int .u8 x17)]) (.agg #[(.int .u8 x23), (.int .u8 x24), (.int .u8 x25), (.int .u8 x26), (.int .u8 x27), (.int .u8 x28), (.int .u8 x29), (.int .u8 x30)]))) (World.drew w) = .ok (.bool x32) w31 ∧ (w31 = (World.drew w) ∧ ((World.drew w) = (World.drew w) ∧ (cond (!x32)
  (R (.bool false) (World.drew w))
  (mem_Store_Check.L4 s_0 (IntKind.wrap .i64 (a_6 + (8 : Int))) R (World.drew w))))))))))))))))))))))))))))))))))))))
  (R (.bool true) w))))
theorem mem_Store_Check.step4 (s_0 : Option Addr) (a_6 : Int) (R : Value → World → Prop) (w : World) (h : mem_Store_Check.V4 s_0 a_6 R w) : mem_Store_Check.L4 s_0 a_6 R w :=
  seg_T good mixed Try.func16 600 false [.inLoop (sub (bodyOf Try.f16) [1, 1, 1, 1, 1, 1, 1, 1, 1, 1, 0, 1, 0, 0]), .inBlock 2, .code (sub (bodyOf Try.f16) [1, 1, 1, 1, 1, 1, 1, 1, 1, 1, 1])] [(0, (.pointer s_0)), (6, (.int .i64 a_6))] w (Eq.mp (show mem_Store_Check.V4 s_0 a_6 R w = seg Try.prog 16 134 Try.f16.results.toList mem_Store_Check.cuts R 600 false [.inLoop (sub (bodyOf Try.f16) [1, 1, 1, 1, 1, 1, 1, 1, 1, 1, 0, 1, 0, 0]), .inBlock 2, .code (sub (bodyOf Try.f16) [1, 1, 1, 1, 1, 1, 1, 1, 1, 1, 1])] [(0, (.pointer s_0)), (6, (.int .i64 a_6))] w by kernel_rfl) h)
def mem_Store_Check.V (s_0 : Option Addr) (R : Value → World → Prop) (w : World) : Prop :=
  (nilV s_0 fun a2 => (∃ x3 : Option Addr, ∃ x4 : Nat, ∃ x5 : Nat, World.cell? w a2 = some (.slice x3 x4 x5) ∧ (cond (((x4 : Nat) : Int) != (384 : Int))
  (R (.bool false) w)
  (nilV s_0 fun a6 => (∃ x7 : Int, World.cell? w ⟨(Addr.block a6), (Addr.off a6 + 11), none⟩ = some (.int .i64 x7) ∧ (cond (decide (x7 < (0 : Int)))
  (R (.bool false) w)
  (nilV s_0 fun a8 => (∃ x9 : Int, World.cell? w ⟨(Addr.block a8), (Addr.off a8 + 11), none⟩ = some (.int .i64 x9) ∧ (cond (decide (x9 > (8 : Int)))
  (R (.bool false) w)
  (nilV s_0 fun a10 => (∃ x11 : Int, World.cell? w ⟨(Addr.block a10), (Addr.off a10 + 16), none⟩ = some (.int .i64 x11) ∧ (cond (decide (x11 < (0 : Int)))
  (R (.bool false) w)
  (nilV s_0 fun a12 => (∃ x13 : Int, World.cell? w ⟨(Addr.block a12), (Addr.off a12 + 16), none⟩ = some (.int .i64 x13) ∧ (cond (decide (x13 > (4 : Int)))
  (R (.bool false) w)
  (mem_Store_Check.L1 s_0 R w))))))))))))))))
theorem mem_Store_Check.enter (s_0 : Option Addr) (R : Value → World → Prop) (w : World) (h : mem_Store_Check.V s_0 R w) : Runs Try.prog mem_Store_Check.id #[(.pointer s_0)] w R :=
  Runs.enter (c := bodyOf Try.f16) (N := 134) Try.func16 (by kernel_rfl) (by kernel_rfl) (by kernel_rfl) (seg_T good mixed Try.func16 600 false [.code (bodyOf Try.f16)] [(0, (.pointer s_0))] w (Eq.mp (show mem_Store_Check.V s_0 R w = seg Try.prog 16 134 Try.f16.results.toList mem_Store_Check.cuts R 600 false [.code (bodyOf Try.f16)] [(0, (.pointer s_0))] w by kernel_rfl) h))

/-! e2e/memlaw.walk -/
def memlaw_walk.cuts : List (Nat × List Nat) := [(14, [0, 1, 6, 7, 8]), (17, [0, 1, 6, 7, 8, 9]), (18, [0, 1, 6, 7, 8, 9]), (22, [0, 1, 6, 7, 8, 9]), (36, [0, 1, 6, 7, 8, 9]), (38, [9])]
def memlaw_walk.L1 (script_0 : Option Addr) (script_0l : Nat) (script_0c : Nat) (quiet_1 : Bool) (x_6 : Option Addr) (m_7 : Option Addr) (g_8 : Int) (R : Value → World → Prop) (w : World) : Prop :=
  T Try.prog 17 69 [.code (sub (bodyOf Try.f17) [1, 1, 1, 1, 1])] [(0, (.slice script_0 script_0l script_0c)), (1, (.bool quiet_1)), (6, (.pointer x_6)), (7, (.pointer m_7)), (8, (.int .i64 g_8))] w R
def memlaw_walk.L2 (script_0 : Option Addr) (script_0l : Nat) (script_0c : Nat) (quiet_1 : Bool) (x_6 : Option Addr) (m_7 : Option Addr) (g_8 : Int) (n_9 : Int) (R : Value → World → Prop) (w : World) : Prop :=
  T Try.prog 17 69 [.inLoop (sub (bodyOf Try.f17) [1, 1, 1, 1, 1, 1, 0, 0, 0]), .inBlock 0, .code (sub (bodyOf Try.f17) [1, 1, 1, 1, 1, 1, 1])] [(0, (.slice script_0 script_0l script_0c)), (1, (.bool quiet_1)), (6, (.pointer x_6)), (7, (.pointer m_7)), (8, (.int .i64 g_8)), (9, (.int .i64 n_9))] w R
def memlaw_walk.L3 (script_0 : Option Addr) (script_0l : Nat) (script_0c : Nat) (quiet_1 : Bool) (x_6 : Option Addr) (m_7 : Option Addr) (g_8 : Int) (n_9 : Int) (R : Value → World → Prop) (w : World) : Prop :=
  T Try.prog 17 69 [.code (sub (bodyOf Try.f17) [1, 1, 1, 1, 1, 1, 0, 0, 0, 1]), .inLoop (sub (bodyOf Try.f17) [1, 1, 1, 1, 1, 1, 0, 0, 0]), .inBlock 0, .code (sub (bodyOf Try.f17) [1, 1, 1, 1, 1, 1, 1])] [(0, (.slice script_0 script_0l script_0c)), (1, (.bool quiet_1)), (6, (.pointer x_6)), (7, (.pointer m_7)), (8, (.int .i64 g_8)), (9, (.int .i64 n_9))] w R
def memlaw_walk.L4 (n_9 : Int) (R : Value → World → Prop) (w : World) : Prop :=
  T Try.prog 17 69 [.code (sub (bodyOf Try.f17) [1, 1, 1, 1, 1, 1, 1])] [(9, (.int .i64 n_9))] w R
def memlaw_walk.L5 (script_0 : Option Addr) (script_0l : Nat) (script_0c : Nat) (quiet_1 : Bool) (x_6 : Option Addr) (m_7 : Option Addr) (g_8 : Int) (n_9 : Int) (R : Value → World → Prop) (w : World) : Prop :=
  T Try.prog 17 69 [.code (sub (bodyOf Try.f17) [1, 1, 1, 1, 1, 1, 0, 0, 0, 1, 0, 1]), .inBlock 1, .inLoop (sub (bodyOf Try.f17) [1, 1, 1, 1, 1, 1, 0, 0, 0]), .inBlock 0, .code (sub (bodyOf Try.f17) [1, 1, 1, 1, 1, 1, 1])] [(0, (.slice script_0 script_0l script_0c)), (1, (.bool quiet_1)), (6, (.pointer x_6)), (7, (.pointer m_7)), (8, (.int .i64 g_8)), (9, (.int .i64 n_9))] w R
def memlaw_walk.L6 (script_0 : Option Addr) (script_0l : Nat) (script_0c : Nat) (quiet_1 : Bool) (x_6 : Option Addr) (m_7 : Option Addr) (g_8 : Int) (n_9 : Int) (R : Value → World → Prop) (w : World) : Prop :=
  T Try.prog 17 69 [.code (sub (bodyOf Try.f17) [1, 1, 1, 1, 1, 1, 0, 0, 0, 1, 0, 1, 1, 1, 1, 1]), .inBlock 1, .inLoop (sub (bodyOf Try.f17) [1, 1, 1, 1, 1, 1, 0, 0, 0]), .inBlock 0, .code (sub (bodyOf Try.f17) [1, 1, 1, 1, 1, 1, 1])] [(0, (.slice script_0 script_0l script_0c)), (1, (.bool quiet_1)), (6, (.pointer x_6)), (7, (.pointer m_7)), (8, (.int .i64 g_8)), (9, (.int .i64 n_9))] w R
def memlaw_walk.V1 (script_0 : Option Addr) (script_0l : Nat) (script_0c : Nat) (quiet_1 : Bool) (x_6 : Option Addr) (m_7 : Option Addr) (g_8 : Int) (R : Value → World → Prop) (w : World) : Prop :=
  (memlaw_walk.L2 script_0 script_0l script_0c quiet_1 x_6 m_7 g_8 0 R w)
theorem memlaw_walk.step1 (script_0 : Option Addr) (script_0l : Nat) (script_0c : Nat) (quiet_1 : Bool) (x_6 : Option Addr) (m_7 : Option Addr) (g_8 : Int) (R : Value → World → Prop) (w : World) (h : memlaw_walk.V1 script_0 script_0l script_0c quiet_1 x_6 m_7 g_8 R w) : memlaw_walk.L1 script_0 script_0l script_0c quiet_1 x_6 m_7 g_8 R w :=
  seg_T good mixed Try.func17 600 false [.code (sub (bodyOf Try.f17) [1, 1, 1, 1, 1])] [(0, (.slice script_0 script_0l script_0c)), (1, (.bool quiet_1)), (6, (.pointer x_6)), (7, (.pointer m_7)), (8, (.int .i64 g_8))] w (Eq.mp (show memlaw_walk.V1 script_0 script_0l script_0c quiet_1 x_6 m_7 g_8 R w = seg Try.prog 17 69 Try.f17.results.toList memlaw_walk.cuts R 600 false [.code (sub (bodyOf Try.f17) [1, 1, 1, 1, 1])] [(0, (.slice script_0 script_0l script_0c)), (1, (.bool quiet_1)), (6, (.pointer x_6)), (7, (.pointer m_7)), (8, (.int .i64 g_8))] w by kernel_rfl) h)
def memlaw_walk.V2 (script_0 : Option Addr) (script_0l : Nat) (script_0c : Nat) (quiet_1 : Bool) (x_6 : Option Addr) (m_7 : Option Addr) (g_8 : Int) (n_9 : Int) (R : Value → World → Prop) (w : World) : Prop :=
  (cond (decide (n_9 < ((script_0l : Nat) : Int)))
  (cond (decide (n_9 < (4398046511104 : Int)))
  (memlaw_walk.L3 script_0 script_0l script_0c quiet_1 x_6 m_7 g_8 n_9 R w)
  (memlaw_walk.L4 n_9 R w))
  (memlaw_walk.L4 n_9 R w))
theorem memlaw_walk.step2 (script_0 : Option Addr) (script_0l : Nat) (script_0c : Nat) (quiet_1 : Bool) (x_6 : Option Addr) (m_7 : Option Addr) (g_8 : Int) (n_9 : Int) (R : Value → World → Prop) (w : World) (h : memlaw_walk.V2 script_0 script_0l script_0c quiet_1 x_6 m_7 g_8 n_9 R w) : memlaw_walk.L2 script_0 script_0l script_0c quiet_1 x_6 m_7 g_8 n_9 R w :=
  seg_T good mixed Try.func17 600 false [.inLoop (sub (bodyOf Try.f17) [1, 1, 1, 1, 1, 1, 0, 0, 0]), .inBlock 0, .code (sub (bodyOf Try.f17) [1, 1, 1, 1, 1, 1, 1])] [(0, (.slice script_0 script_0l script_0c)), (1, (.bool quiet_1)), (6, (.pointer x_6)), (7, (.pointer m_7)), (8, (.int .i64 g_8)), (9, (.int .i64 n_9))] w (Eq.mp (show memlaw_walk.V2 script_0 script_0l script_0c quiet_1 x_6 m_7 g_8 n_9 R w = seg Try.prog 17 69 Try.f17.results.toList memlaw_walk.cuts R 600 false [.inLoop (sub (bodyOf Try.f17) [1, 1, 1, 1, 1, 1, 0, 0, 0]), .inBlock 0, .code (sub (bodyOf Try.f17) [1, 1, 1, 1, 1, 1, 1])] [(0, (.slice script_0 script_0l script_0c)), (1, (.bool quiet_1)), (6, (.pointer x_6)), (7, (.pointer m_7)), (8, (.int .i64 g_8)), (9, (.int .i64 n_9))] w by kernel_rfl) h)
def memlaw_walk.V3 (script_0 : Option Addr) (script_0l : Nat) (script_0c : Nat) (quiet_1 : Bool) (x_6 : Option Addr) (m_7 : Option Addr) (g_8 : Int) (n_9 : Int) (R : Value → World → Prop) (w : World) : Prop :=
  ((0 ≤ n_9 ∧ n_9 < ((script_0l : Nat) : Int)) ∧ nilV script_0 fun a1 => (∃ x2 : Int, World.cell? w (Addr.add a1 (Int.toNat n_9 * 6)) = some (.int .i64 x2) ∧ (cond (x2 == (12 : Int))
  ((0 ≤ n_9 ∧ n_9 < ((script_0l : Nat) : Int)) ∧ nilV script_0 fun a3 => (∃ x4 : Int, World.cell? w ⟨(Addr.block (Addr.add a3 (Int.toNat n_9 * 6))), (Addr.off (Addr.add a3 (Int.toNat n_9 * 6)) + 1), none⟩ = some (.int .i64 x4) ∧ (memlaw_walk.L5 script_0 script_0l script_0c quiet_1 x_6 m_7 x4 n_9 R w)))
  (memlaw_walk.L5 script_0 script_0l script_0c quiet_1 x_6 m_7 g_8 n_9 R w))))
theorem memlaw_walk.step3 (script_0 : Option Addr) (script_0l : Nat) (script_0c : Nat) (quiet_1 : Bool) (x_6 : Option Addr) (m_7 : Option Addr) (g_8 : Int) (n_9 : Int) (R : Value → World → Prop) (w : World) (h : memlaw_walk.V3 script_0 script_0l script_0c quiet_1 x_6 m_7 g_8 n_9 R w) : memlaw_walk.L3 script_0 script_0l script_0c quiet_1 x_6 m_7 g_8 n_9 R w :=
  seg_T good mixed Try.func17 600 false [.code (sub (bodyOf Try.f17) [1, 1, 1, 1, 1, 1, 0, 0, 0, 1]), .inLoop (sub (bodyOf Try.f17) [1, 1, 1, 1, 1, 1, 0, 0, 0]), .inBlock 0, .code (sub (bodyOf Try.f17) [1, 1, 1, 1, 1, 1, 1])] [(0, (.slice script_0 script_0l script_0c)), (1, (.bool quiet_1)), (6, (.pointer x_6)), (7, (.pointer m_7)), (8, (.int .i64 g_8)), (9, (.int .i64 n_9))] w (Eq.mp (show memlaw_walk.V3 script_0 script_0l script_0c quiet_1 x_6 m_7 g_8 n_9 R w = seg Try.prog 17 69 Try.f17.results.toList memlaw_walk.cuts R 600 false [.code (sub (bodyOf Try.f17) [1, 1, 1, 1, 1, 1, 0, 0, 0, 1]), .inLoop (sub (bodyOf Try.f17) [1, 1, 1, 1, 1, 1, 0, 0, 0]), .inBlock 0, .code (sub (bodyOf Try.f17) [1, 1, 1, 1, 1, 1, 1])] [(0, (.slice script_0 script_0l script_0c)), (1, (.bool quiet_1)), (6, (.pointer x_6)), (7, (.pointer m_7)), (8, (.int .i64 g_8)), (9, (.int .i64 n_9))] w by kernel_rfl) h)
def memlaw_walk.V4 (n_9 : Int) (R : Value → World → Prop) (w : World) : Prop :=
  (R (.tuple #[(.int .i64 (-1)), (.int .i64 n_9)]) w)
theorem memlaw_walk.step4 (n_9 : Int) (R : Value → World → Prop) (w : World) (h : memlaw_walk.V4 n_9 R w) : memlaw_walk.L4 n_9 R w :=
  seg_T good mixed Try.func17 600 false [.code (sub (bodyOf Try.f17) [1, 1, 1, 1, 1, 1, 1])] [(9, (.int .i64 n_9))] w (Eq.mp (show memlaw_walk.V4 n_9 R w = seg Try.prog 17 69 Try.f17.results.toList memlaw_walk.cuts R 600 false [.code (sub (bodyOf Try.f17) [1, 1, 1, 1, 1, 1, 1])] [(9, (.int .i64 n_9))] w by kernel_rfl) h)
def memlaw_walk.V5 (script_0 : Option Addr) (script_0l : Nat) (script_0c : Nat) (quiet_1 : Bool) (x_6 : Option Addr) (m_7 : Option Addr) (g_8 : Int) (n_9 : Int) (R : Value → World → Prop) (w : World) : Prop :=
  ((0 ≤ n_9 ∧ n_9 < ((script_0l : Nat) : Int)) ∧ nilV script_0 fun a1 => (∃ x2 : Int, ∃ x3 : Int, ∃ x4 : Int, ∃ x5 : Int, ∃ x6 : ByteArray, ∃ x7 : ByteArray, World.cell? w (Addr.add a1 (Int.toNat n_9 * 6)) = some (.int .i64 x2) ∧ World.cell? w ⟨(Addr.block (Addr.add a1 (Int.toNat n_9 * 6))), (Addr.off (Addr.add a1 (Int.toNat n_9 * 6)) + 1), none⟩ = some (.int .i64 x3) ∧ World.cell? w ⟨(Addr.block (Addr.add a1 (Int.toNat n_9 * 6))), (Addr.off (Addr.add a1 (Int.toNat n_9 * 6)) + 2), none⟩ = some (.int .i64 x4) ∧ World.cell? w ⟨(Addr.block (Addr.add a1 (Int.toNat n_9 * 6))), (Addr.off (Addr.add a1 (Int.toNat n_9 * 6)) + 3), none⟩ = some (.int .i64 x5) ∧ World.cell? w ⟨(Addr.block (Addr.add a1 (Int.toNat n_9 * 6))), (Addr.off (Addr.add a1 (Int.toNat n_9 * 6)) + 4), none⟩ = some (.string x6) ∧ World.cell? w ⟨(Addr.block (Addr.add a1 (Int.toNat n_9 * 6))), (Addr.off (Addr.add a1 (Int.toNat n_9 * 6)) + 5), none⟩ = some (.string x7) ∧ (Runs Try.prog memlaw_Do.id #[(.pointer x_6), (.int .i64 g_8), (.agg #[(.int .i64 x2), (.int .i64 x3), (.int .i64 x4), (.int .i64 x5), (.string x6), (.string x7)])] w fun r8 w9 => (∃ x10 : Int, ∃ x11 : Int, ∃ x12 : Int, ∃ x13 : ByteArray, (r8 = (.agg #[(.int .i64 x10), (.int .i64 x11), (.int .i64 x12), (.string x13)]) ∧ (letB (Array.size (World.heap w9)) fun b14 => letW (World.alloc w9 (.cells #[(.int .i64 0), (.int .i64 0), (.int .i64 0), (.string ⟨#[]⟩)] T_api_Ans)) fun w15 => (putCells w15 ⟨b14, 0, none⟩ [(.int .i64 x10), (.int .i64 x11), (.int .i64 x12), (.string x13)] fun w16 => ((0 ≤ n_9 ∧ n_9 < ((script_0l : Nat) : Int)) ∧ nilV script_0 fun a17 => (∃ x18 : Int, ∃ x19 : Int, ∃ x20 : Int, ∃ x21 : Int, ∃ x22 : ByteArray, ∃ x23 : ByteArray, World.cell? w16 (Addr.add a17 (Int.toNat n_9 * 6)) = some (.int .i64 x18) ∧ World.cell? w16 ⟨(Addr.block (Addr.add a17 (Int.toNat n_9 * 6))), (Addr.off (Addr.add a17 (Int.toNat n_9 * 6)) + 1), none⟩ = some (.int .i64 x19) ∧ World.cell? w16 ⟨(Addr.block (Addr.add a17 (Int.toNat n_9 * 6))), (Addr.off (Addr.add a17 (Int.toNat n_9 * 6)) + 2), none⟩ = some (.int .i64 x20) ∧ World.cell? w16 ⟨(Addr.block (Addr.add a17 (Int.toNat n_9 * 6))), (Addr.off (Addr.add a17 (Int.toNat n_9 * 6)) + 3), none⟩ = some (.int .i64 x21) ∧ World.cell? w16 ⟨(Addr.block (Addr.add a17 (Int.toNat n_9 * 6))), (Addr.off (Addr.add a17 (Int.toNat n_9 * 6)) + 4), none⟩ = some (.string x22) ∧ World.cell? w16 ⟨(Addr.block (Addr.add a17 (Int.toNat n_9 * 6))), (Addr.off (Addr.add a17 (Int.toNat n_9 * 6)) + 5), none⟩ = some (.string x23) ∧ (Runs Try.prog memlaw_DoM.id #[(.pointer m_7), (.int .i64 g_8), (.agg #[(.int .i64 x18), (.int .i64 x19), (.int .i64 x20), (.int .i64 x21), (.string x22), (.string x23)])] w16 fun r24 w25 => (∃ x26 : Int, ∃ x27 : Int, ∃ x28 : Int, ∃ x29 : ByteArray, (r24 = (.agg #[(.int .i64 x26), (.int .i64 x27), (.int .i64 x28), (.string x29)]) ∧ (letB (Array.size (World.heap w25)) fun b30 => letW (World.alloc w25 (.cells #[(.int .i64 0), (.int .i64 0), (.int .i64 0), (.string ⟨#[]⟩)] T_api_Ans)) fun w31 => (putCells w31 ⟨b30, 0, none⟩ [(.int .i64 x26), (.int .i64 x27), (.int .i64 x28), (.string x29)] fun w32 => (∃ x33 : Int, ∃ x34 : Int, ∃ x35 : Int, ∃ x36 : ByteArray, World.cell? w32 ⟨b14, 0, none⟩ = some (.int .i64 x33) ∧ World.cell? w32 ⟨b14, 1, none⟩ = some (.int .i64 x34) ∧ World.cell? w32 ⟨b14, 2, none⟩ = some (.int .i64 x35) ∧ World.cell? w32 ⟨b14, 3, none⟩ = some (.string x36) ∧ (∃ x37 : Int, ∃ x38 : Int, ∃ x39 : Int, ∃ x40 : ByteArray, World.cell? w32 ⟨b30, 0, none⟩ = some (.int .i64 x37) ∧ World.cell? w32 ⟨b30, 1, none⟩ = some (.int .i64 x38) ∧ World.cell? w32 ⟨b30, 2, none⟩ = some (.int .i64 x39) ∧ World.cell? w32 ⟨b30, 3, none⟩ = some (.string x40) ∧ (∃ x42 : Bool, ∃ w41, Sem.run Try.prog ((do eqGuard .neq T_api_Ans (.tmp 53) (.tmp 54) (.agg #[(.int .i64 x33), (.int .i64 x34), (.int .i64 x35), (.string x36)]) (.agg #[(.int .i64 x37), (.int .i64 x38), (.int .i64 x39), (.string x40)]); Go.binOp .neq T_api_Ans (.agg #[(.int .i64 x33), (.int .i64 x34), (.int .i64 x35), (.string x36)]) (.agg #[(.int .i64 x37), (.int .i64 x38), (.int .i64 x39), (.string x40)]))) w32 = .ok (.bool x42) w41 ∧ (cond x42
  (R (.tuple #[(.int .i64 n_9), (.int .i64 n_9)]) w41)
  (cond (!quiet_1)
  (Runs Try.prog memlaw_Seen.id #[(.pointer x_6), (.pointer m_7)] w41 fun r43 w44 => (∃ x45 : Bool, (r43 = (.bool x45) ∧ (cond (!x45)
  (R (.tuple #[(.int .i64 n_9), (.int .i64 n_9)]) w44)
  (memlaw_walk.L6 script_0 script_0l script_0c quiet_1 x_6 m_7 g_8 n_9 R w44)))))
  (memlaw_walk.L6 script_0 script_0l script_0c quiet_1 x_6 m_7 g_8 n_9 R w41))))))))))))))))))))
theorem memlaw_walk.step5 (script_0 : Option Addr) (script_0l : Nat) (script_0c : Nat) (quiet_1 : Bool) (x_6 : Option Addr) (m_7 : Option Addr) (g_8 : Int) (n_9 : Int) (R : Value → World → Prop) (w : World) (h : memlaw_walk.V5 script_0 script_0l script_0c quiet_1 x_6 m_7 g_8 n_9 R w) : memlaw_walk.L5 script_0 script_0l script_0c quiet_1 x_6 m_7 g_8 n_9 R w :=
  seg_T good mixed Try.func17 600 false [.code (sub (bodyOf Try.f17) [1, 1, 1, 1, 1, 1, 0, 0, 0, 1, 0, 1]), .inBlock 1, .inLoop (sub (bodyOf Try.f17) [1, 1, 1, 1, 1, 1, 0, 0, 0]), .inBlock 0, .code (sub (bodyOf Try.f17) [1, 1, 1, 1, 1, 1, 1])] [(0, (.slice script_0 script_0l script_0c)), (1, (.bool quiet_1)), (6, (.pointer x_6)), (7, (.pointer m_7)), (8, (.int .i64 g_8)), (9, (.int .i64 n_9))] w (Eq.mp (show memlaw_walk.V5 script_0 script_0l script_0c quiet_1 x_6 m_7 g_8 n_9 R w = seg Try.prog 17 69 Try.f17.results.toList memlaw_walk.cuts R 600 false [.code (sub (bodyOf Try.f17) [1, 1, 1, 1, 1, 1, 0, 0, 0, 1, 0, 1]), .inBlock 1, .inLoop (sub (bodyOf Try.f17) [1, 1, 1, 1, 1, 1, 0, 0, 0]), .inBlock 0, .code (sub (bodyOf Try.f17) [1, 1, 1, 1, 1, 1, 1])] [(0, (.slice script_0 script_0l script_0c)), (1, (.bool quiet_1)), (6, (.pointer x_6)), (7, (.pointer m_7)), (8, (.int .i64 g_8)), (9, (.int .i64 n_9))] w by kernel_rfl) h)
def memlaw_walk.V6 (script_0 : Option Addr) (script_0l : Nat) (script_0c : Nat) (quiet_1 : Bool) (x_6 : Option Addr) (m_7 : Option Addr) (g_8 : Int) (n_9 : Int) (R : Value → World → Prop) (w : World) : Prop :=
  (memlaw_walk.L2 script_0 script_0l script_0c quiet_1 x_6 m_7 g_8 (IntKind.wrap .i64 (n_9 + (1 : Int))) R w)
theorem memlaw_walk.step6 (script_0 : Option Addr) (script_0l : Nat) (script_0c : Nat) (quiet_1 : Bool) (x_6 : Option Addr) (m_7 : Option Addr) (g_8 : Int) (n_9 : Int) (R : Value → World → Prop) (w : World) (h : memlaw_walk.V6 script_0 script_0l script_0c quiet_1 x_6 m_7 g_8 n_9 R w) : memlaw_walk.L6 script_0 script_0l script_0c quiet_1 x_6 m_7 g_8 n_9 R w :=
  seg_T good mixed Try.func17 600 false [.code (sub (bodyOf Try.f17) [1, 1, 1, 1, 1, 1, 0, 0, 0, 1, 0, 1, 1, 1, 1, 1]), .inBlock 1, .inLoop (sub (bodyOf Try.f17) [1, 1, 1, 1, 1, 1, 0, 0, 0]), .inBlock 0, .code (sub (bodyOf Try.f17) [1, 1, 1, 1, 1, 1, 1])] [(0, (.slice script_0 script_0l script_0c)), (1, (.bool quiet_1)), (6, (.pointer x_6)), (7, (.pointer m_7)), (8, (.int .i64 g_8)), (9, (.int .i64 n_9))] w (Eq.mp (show memlaw_walk.V6 script_0 script_0l script_0c quiet_1 x_6 m_7 g_8 n_9 R w = seg Try.prog 17 69 Try.f17.results.toList memlaw_walk.cuts R 600 false [.code (sub (bodyOf Try.f17) [1, 1, 1, 1, 1, 1, 0, 0, 0, 1, 0, 1, 1, 1, 1, 1]), .inBlock 1, .inLoop (sub (bodyOf Try.f17) [1, 1, 1, 1, 1, 1, 0, 0, 0]), .inBlock 0, .code (sub (bodyOf Try.f17) [1, 1, 1, 1, 1, 1, 1])] [(0, (.slice script_0 script_0l script_0c)), (1, (.bool quiet_1)), (6, (.pointer x_6)), (7, (.pointer m_7)), (8, (.int .i64 g_8)), (9, (.int .i64 n_9))] w by kernel_rfl) h)
def memlaw_walk.V (script_0 : Option Addr) (script_0l : Nat) (script_0c : Nat) (quiet_1 : Bool) (R : Value → World → Prop) (w : World) : Prop :=
  (Runs Try.prog mem_New.id #[] w fun r5 w6 => (∃ x7 : Option Addr, (r5 = (.pointer x7) ∧ (Runs Try.prog memm_New.id #[] w6 fun r8 w9 => (∃ x10 : Option Addr, (r8 = (.pointer x10) ∧ (cond (!quiet_1)
  (Runs Try.prog memlaw_Seen.id #[(.pointer x7), (.pointer x10)] w9 fun r11 w12 => (∃ x13 : Bool, (r11 = (.bool x13) ∧ (cond (!x13)
  (R (.tuple #[(.int .i64 0), (.int .i64 0)]) w12)
  (memlaw_walk.L1 script_0 script_0l script_0c quiet_1 x7 x10 0 R w12)))))
  (memlaw_walk.L1 script_0 script_0l script_0c quiet_1 x7 x10 0 R w9))))))))
theorem memlaw_walk.enter (script_0 : Option Addr) (script_0l : Nat) (script_0c : Nat) (quiet_1 : Bool) (R : Value → World → Prop) (w : World) (h : memlaw_walk.V script_0 script_0l script_0c quiet_1 R w) : Runs Try.prog memlaw_walk.id #[(.slice script_0 script_0l script_0c), (.bool quiet_1)] w R :=
  Runs.enter (c := bodyOf Try.f17) (N := 69) Try.func17 (by kernel_rfl) (by kernel_rfl) (by kernel_rfl) (seg_T good mixed Try.func17 600 false [.code (bodyOf Try.f17)] [(0, (.slice script_0 script_0l script_0c)), (1, (.bool quiet_1))] w (Eq.mp (show memlaw_walk.V script_0 script_0l script_0c quiet_1 R w = seg Try.prog 17 69 Try.f17.results.toList memlaw_walk.cuts R 600 false [.code (bodyOf Try.f17)] [(0, (.slice script_0 script_0l script_0c)), (1, (.bool quiet_1))] w by kernel_rfl) h))

/-! (*e2e/mem.Store).place -/
def mem_Store_place.cuts : List (Nat × List Nat) := []
def mem_Store_place.V (s_0 : Option Addr) (base_1 : Int) (off_2 : Int) (w_3 : Int) (R : Value → World → Prop) (w : World) : Prop :=
  (nilV s_0 fun a5 => (∃ x6 : Option Addr, ∃ x7 : Nat, ∃ x8 : Nat, World.cell? w ⟨(Addr.block a5), (Addr.off a5 + 2), none⟩ = some (.slice x6 x7 x8) ∧ (cond (decide ((IntKind.wrap .u64 ((IntKind.wrap .u64 ((IntKind.wrap .u64 base_1) + (IntKind.wrap .u64 off_2))) + w_3)) > (IntKind.wrap .u64 ((x7 : Nat) : Int))))
  (R (.tuple #[(.int .i64 0), (.bool false)]) w)
  (R (.tuple #[(.int .i64 (IntKind.wrap .i64 (IntKind.wrap .u64 ((IntKind.wrap .u64 base_1) + (IntKind.wrap .u64 off_2))))), (.bool true)]) w))))
theorem mem_Store_place.enter (s_0 : Option Addr) (base_1 : Int) (off_2 : Int) (w_3 : Int) (R : Value → World → Prop) (w : World) (h : mem_Store_place.V s_0 base_1 off_2 w_3 R w) : Runs Try.prog mem_Store_place.id #[(.pointer s_0), (.int .u32 base_1), (.int .u32 off_2), (.int .u64 w_3)] w R :=
  Runs.enter (c := bodyOf Try.f18) (N := 28) Try.func18 (by kernel_rfl) (by kernel_rfl) (by kernel_rfl) (seg_T good mixed Try.func18 600 false [.code (bodyOf Try.f18)] [(0, (.pointer s_0)), (1, (.int .u32 base_1)), (2, (.int .u32 off_2)), (3, (.int .u64 w_3))] w (Eq.mp (show mem_Store_place.V s_0 base_1 off_2 w_3 R w = seg Try.prog 18 28 Try.f18.results.toList mem_Store_place.cuts R 600 false [.code (bodyOf Try.f18)] [(0, (.pointer s_0)), (1, (.int .u32 base_1)), (2, (.int .u32 off_2)), (3, (.int .u64 w_3))] w by kernel_rfl) h))

/-! e2e/api.Itoa -/
def api_Itoa.cuts : List (Nat × List Nat) := [(13, [0, 3, 4, 5]), (20, [0, 3, 4, 5, 6])]
def api_Itoa.L1 (n_0 : Int) (b_3 : Nat) (i_4 : Int) (neg_5 : Bool) (R : Value → World → Prop) (w : World) : Prop :=
  T Try.prog 19 36 [.inLoop (sub (bodyOf Try.f19) [1, 1, 1, 1, 1, 0, 0, 0]), .inBlock 0, .code (sub (bodyOf Try.f19) [1, 1, 1, 1, 1, 1])] [(0, (.int .i64 n_0)), (3, (.pointer (some ⟨b_3, 0, none⟩))), (4, (.int .i64 i_4)), (5, (.bool neg_5))] w R
def api_Itoa.L2 (n_0 : Int) (b_3 : Nat) (i_4 : Int) (neg_5 : Bool) (d_6 : Int) (R : Value → World → Prop) (w : World) : Prop :=
  T Try.prog 19 36 [.code (sub (bodyOf Try.f19) [1, 1, 1, 1, 1, 0, 0, 0, 1, 0, 1, 1]), .inBlock 1, .inLoop (sub (bodyOf Try.f19) [1, 1, 1, 1, 1, 0, 0, 0]), .inBlock 0, .code (sub (bodyOf Try.f19) [1, 1, 1, 1, 1, 1])] [(0, (.int .i64 n_0)), (3, (.pointer (some ⟨b_3, 0, none⟩))), (4, (.int .i64 i_4)), (5, (.bool neg_5)), (6, (.int .i64 d_6))] w R
def api_Itoa.V1 (n_0 : Int) (b_3 : Nat) (i_4 : Int) (neg_5 : Bool) (R : Value → World → Prop) (w : World) : Prop :=
  (cond (n_0 != (0 : Int))
  (cond (decide ((Int.tmod n_0 10) < (0 : Int)))
  (api_Itoa.L2 n_0 b_3 i_4 neg_5 (IntKind.wrap .i64 (0 - (Int.tmod n_0 10))) R w)
  (api_Itoa.L2 n_0 b_3 i_4 neg_5 (Int.tmod n_0 10) R w))
  ((0 ≤ i_4 ∧ i_4 ≤ ((20 : Nat) : Int) ∧ ((20 : Nat) : Int) ≤ ((20 : Nat) : Int) ∧ ((20 : Nat) : Int) ≤ ((20 : Nat) : Int)) ∧ (∃ x6 : ByteArray, ∃ w5, Sem.run Try.prog (Go.convert T_sl_uint8 T_string (.slice (slAddr (some ⟨b_3, 0, none⟩) (Int.toNat i_4) 20 1) (20 - (Int.toNat i_4)) (20 - (Int.toNat i_4)))) w = .ok (.string x6) w5 ∧ (cond neg_5
  (((ByteArray.size ⟨#[45]⟩ + ByteArray.size x6 : Nat) : Int) ≤ 9223372036854775807 ∧ (R (.string ((⟨#[45]⟩ : ByteArray) ++ x6)) w5))
  (R (.string x6) w5)))))
theorem api_Itoa.step1 (n_0 : Int) (b_3 : Nat) (i_4 : Int) (neg_5 : Bool) (R : Value → World → Prop) (w : World) (h : api_Itoa.V1 n_0 b_3 i_4 neg_5 R w) : api_Itoa.L1 n_0 b_3 i_4 neg_5 R w :=
  seg_T good mixed Try.func19 600 false [.inLoop (sub (bodyOf Try.f19) [1, 1, 1, 1, 1, 0, 0, 0]), .inBlock 0, .code (sub (bodyOf Try.f19) [1, 1, 1, 1, 1, 1])] [(0, (.int .i64 n_0)), (3, (.pointer (some ⟨b_3, 0, none⟩))), (4, (.int .i64 i_4)), (5, (.bool neg_5))] w (Eq.mp (show api_Itoa.V1 n_0 b_3 i_4 neg_5 R w = seg Try.prog 19 36 Try.f19.results.toList api_Itoa.cuts R 600 false [.inLoop (sub (bodyOf Try.f19) [1, 1, 1, 1, 1, 0, 0, 0]), .inBlock 0, .code (sub (bodyOf Try.f19) [1, 1, 1, 1, 1, 1])] [(0, (.int .i64 n_0)), (3, (.pointer (some ⟨b_3, 0, none⟩))), (4, (.int .i64 i_4)), (5, (.bool neg_5))] w by kernel_rfl) h)
def api_Itoa.V2 (n_0 : Int) (b_3 : Nat) (i_4 : Int) (neg_5 : Bool) (d_6 : Int) (R : Value → World → Prop) (w : World) : Prop :=
  ((0 ≤ (IntKind.wrap .i64 (i_4 - (1 : Int))) ∧ (IntKind.wrap .i64 (i_4 - (1 : Int))) < ((20 : Nat) : Int)) ∧ (can w (Addr.add ⟨b_3, 0, none⟩ (Int.toNat (IntKind.wrap .i64 (i_4 - (1 : Int))) * 1)) ∧ (api_Itoa.L1 (IntKind.wrap .i64 (Int.tdiv n_0 10)) b_3 (IntKind.wrap .i64 (i_4 - (1 : Int))) neg_5 R (World.setCell w (Addr.add ⟨b_3, 0, none⟩ (Int.toNat (IntKind.wrap .i64 (i_4 - (1 : Int))) * 1)) (.int .u8 (IntKind.wrap .u8 (IntKind.wrap .i64 ((48 : Int) + d_6))))))))
theorem api_Itoa.step2 (n_0 : Int) (b_3 : Nat) (i_4 : Int) (neg_5 : Bool) (d_6 : Int) (R : Value → World → Prop) (w : World) (h : api_Itoa.V2 n_0 b_3 i_4 neg_5 d_6 R w) : api_Itoa.L2 n_0 b_3 i_4 neg_5 d_6 R w :=
  seg_T good mixed Try.func19 600 false [.code (sub (bodyOf Try.f19) [1, 1, 1, 1, 1, 0, 0, 0, 1, 0, 1, 1]), .inBlock 1, .inLoop (sub (bodyOf Try.f19) [1, 1, 1, 1, 1, 0, 0, 0]), .inBlock 0, .code (sub (bodyOf Try.f19) [1, 1, 1, 1, 1, 1])] [(0, (.int .i64 n_0)), (3, (.pointer (some ⟨b_3, 0, none⟩))), (4, (.int .i64 i_4)), (5, (.bool neg_5)), (6, (.int .i64 d_6))] w (Eq.mp (show api_Itoa.V2 n_0 b_3 i_4 neg_5 d_6 R w = seg Try.prog 19 36 Try.f19.results.toList api_Itoa.cuts R 600 false [.code (sub (bodyOf Try.f19) [1, 1, 1, 1, 1, 0, 0, 0, 1, 0, 1, 1]), .inBlock 1, .inLoop (sub (bodyOf Try.f19) [1, 1, 1, 1, 1, 0, 0, 0]), .inBlock 0, .code (sub (bodyOf Try.f19) [1, 1, 1, 1, 1, 1])] [(0, (.int .i64 n_0)), (3, (.pointer (some ⟨b_3, 0, none⟩))), (4, (.int .i64 i_4)), (5, (.bool neg_5)), (6, (.int .i64 d_6))] w by kernel_rfl) h)
def api_Itoa.V (n_0 : Int) (R : Value → World → Prop) (w : World) : Prop :=
  (cond (n_0 == (0 : Int))
  (R (.string ⟨#[48]⟩) w)
  (api_Itoa.L1 n_0 (Array.size (World.heap w)) 20 (decide (n_0 < (0 : Int))) R (World.alloc w (.cells #[(.int .u8 0), (.int .u8 0), (.int .u8 0), (.int .u8 0), (.int .u8 0), (.int .u8 0), (.int .u8 0), (.int .u8 0), (.int .u8 0), (.int .u8 0), (.int .u8 0), (.int .u8 0), (.int .u8 0), (.int .u8 0), (.int .u8 0), (.int .u8 0), (.int .u8 0), (.int .u8 0), (.int .u8 0), (.int .u8 0)] T__20_uint8))))
theorem api_Itoa.enter (n_0 : Int) (R : Value → World → Prop) (w : World) (h : api_Itoa.V n_0 R w) : Runs Try.prog api_Itoa.id #[(.int .i64 n_0)] w R :=
  Runs.enter (c := bodyOf Try.f19) (N := 36) Try.func19 (by kernel_rfl) (by kernel_rfl) (by kernel_rfl) (seg_T good mixed Try.func19 600 false [.code (bodyOf Try.f19)] [(0, (.int .i64 n_0))] w (Eq.mp (show api_Itoa.V n_0 R w = seg Try.prog 19 36 Try.f19.results.toList api_Itoa.cuts R 600 false [.code (bodyOf Try.f19)] [(0, (.int .i64 n_0))] w by kernel_rfl) h))

/-! e2e/api.HexStr -/
def api_HexStr.cuts : List (Nat × List Nat) := [(7, [0, 3, 4])]
def api_HexStr.L1 (s_0 : ByteArray) (b_3 : Option Addr) (b_3l : Nat) (b_3c : Nat) (i_4 : Int) (R : Value → World → Prop) (w : World) : Prop :=
  T Try.prog 20 33 [.inLoop (sub (bodyOf Try.f20) [1, 1, 0, 1, 0, 0]), .inBlock 0, .code (sub (bodyOf Try.f20) [1, 1, 1])] [(0, (.string s_0)), (3, (.slice b_3 b_3l b_3c)), (4, (.int .i64 i_4))] w R
def api_HexStr.V1 (s_0 : ByteArray) (b_3 : Option Addr) (b_3l : Nat) (b_3c : Nat) (i_4 : Int) (R : Value → World → Prop) (w : World) : Prop :=
  (cond (decide (i_4 < ((ByteArray.size s_0 : Nat) : Int)))
  ((0 ≤ i_4 ∧ i_4 < ((ByteArray.size s_0 : Nat) : Int)) ∧ ((0 ≤ (Int.fdiv (byteAt s_0 (Int.toNat i_4)) (2 ^ (4 : Nat))) ∧ (Int.fdiv (byteAt s_0 (Int.toNat i_4)) (2 ^ (4 : Nat))) < ((ByteArray.size ⟨#[48, 49, 50, 51, 52, 53, 54, 55, 56, 57, 97, 98, 99, 100, 101, 102]⟩ : Nat) : Int)) ∧ (∃ x2 : Option Addr, ∃ x3 : Nat, ∃ x4 : Nat, ∃ w1, Sem.run Try.prog (Builtin.append_ #[T_sl_uint8, T_sl_uint8] T_sl_uint8 #[(.slice b_3 b_3l b_3c), (.slice (some ⟨(Array.size (World.heap w)), 0, none⟩) 1 1)]) (World.alloc w (.cells #[(.int .u8 (byteAt ⟨#[48, 49, 50, 51, 52, 53, 54, 55, 56, 57, 97, 98, 99, 100, 101, 102]⟩ (Int.toNat (Int.fdiv (byteAt s_0 (Int.toNat i_4)) (2 ^ (4 : Nat))))))] T_uint8)) = .ok (.slice x2 x3 x4) w1 ∧ ((0 ≤ i_4 ∧ i_4 < ((ByteArray.size s_0 : Nat) : Int)) ∧ ((0 ≤ (bAnd .u8 (byteAt s_0 (Int.toNat i_4)) 15) ∧ (bAnd .u8 (byteAt s_0 (Int.toNat i_4)) 15) < ((ByteArray.size ⟨#[48, 49, 50, 51, 52, 53, 54, 55, 56, 57, 97, 98, 99, 100, 101, 102]⟩ : Nat) : Int)) ∧ (∃ x6 : Option Addr, ∃ x7 : Nat, ∃ x8 : Nat, ∃ w5, Sem.run Try.prog (Builtin.append_ #[T_sl_uint8, T_sl_uint8] T_sl_uint8 #[(.slice x2 x3 x4), (.slice (some ⟨(Array.size (World.heap w1)), 0, none⟩) 1 1)]) (World.alloc w1 (.cells #[(.int .u8 (byteAt ⟨#[48, 49, 50, 51, 52, 53, 54, 55, 56, 57, 97, 98, 99, 100, 101, 102]⟩ (Int.toNat (bAnd .u8 (byteAt s_0 (Int.toNat i_4)) 15))))] T_uint8)) = .ok (.slice x6 x7 x8) w5 ∧ (api_HexStr.L1 s_0 x6 x7 x8 (IntKind.wrap .i64 (i_4 + (1 : Int))) R w5)))))))
  (∃ x10 : ByteArray, ∃ w9, Sem.run Try.prog (Go.convert T_sl_uint8 T_string (.slice b_3 b_3l b_3c)) w = .ok (.string x10) w9 ∧ (R (.string x10) w9)))
theorem api_HexStr.step1 (s_0 : ByteArray) (b_3 : Option Addr) (b_3l : Nat) (b_3c : Nat) (i_4 : Int) (R : Value → World → Prop) (w : World) (h : api_HexStr.V1 s_0 b_3 b_3l b_3c i_4 R w) : api_HexStr.L1 s_0 b_3 b_3l b_3c i_4 R w :=
  seg_T good mixed Try.func20 600 false [.inLoop (sub (bodyOf Try.f20) [1, 1, 0, 1, 0, 0]), .inBlock 0, .code (sub (bodyOf Try.f20) [1, 1, 1])] [(0, (.string s_0)), (3, (.slice b_3 b_3l b_3c)), (4, (.int .i64 i_4))] w (Eq.mp (show api_HexStr.V1 s_0 b_3 b_3l b_3c i_4 R w = seg Try.prog 20 33 Try.f20.results.toList api_HexStr.cuts R 600 false [.inLoop (sub (bodyOf Try.f20) [1, 1, 0, 1, 0, 0]), .inBlock 0, .code (sub (bodyOf Try.f20) [1, 1, 1])] [(0, (.string s_0)), (3, (.slice b_3 b_3l b_3c)), (4, (.int .i64 i_4))] w by kernel_rfl) h)
def api_HexStr.V (s_0 : ByteArray) (R : Value → World → Prop) (w : World) : Prop :=
  (∃ x3 : Option Addr, ∃ x4 : Nat, ∃ x5 : Nat, ∃ w2, Sem.run Try.prog (Instr.makeSlice T_sl_uint8 (.int .i64 0) (.int .i64 (IntKind.wrap .i64 ((2 : Int) * ((ByteArray.size s_0 : Nat) : Int))))) w = .ok (.slice x3 x4 x5) w2 ∧ (api_HexStr.L1 s_0 x3 x4 x5 0 R w2))
theorem api_HexStr.enter (s_0 : ByteArray) (R : Value → World → Prop) (w : World) (h : api_HexStr.V s_0 R w) : Runs Try.prog api_HexStr.id #[(.string s_0)] w R :=
  Runs.enter (c := bodyOf Try.f20) (N := 33) Try.func20 (by kernel_rfl) (by kernel_rfl) (by kernel_rfl) (seg_T good mixed Try.func20 600 false [.code (bodyOf Try.f20)] [(0, (.string s_0))] w (Eq.mp (show api_HexStr.V s_0 R w = seg Try.prog 20 33 Try.f20.results.toList api_HexStr.cuts R 600 false [.code (bodyOf Try.f20)] [(0, (.string s_0))] w by kernel_rfl) h))

/-! e2e/api.Hex -/
def api_Hex.cuts : List (Nat × List Nat) := [(6, [0, 1]), (11, [0, 1, 5, 6])]
def api_Hex.L1 (v_0 : Int) (digits_1 : Int) (R : Value → World → Prop) (w : World) : Prop :=
  T Try.prog 21 28 [.code (sub (bodyOf Try.f21) [1, 1])] [(0, (.int .u64 v_0)), (1, (.int .i64 digits_1))] w R
def api_Hex.L2 (v_0 : Int) (digits_1 : Int) (b_5 : Nat) (i_6 : Int) (R : Value → World → Prop) (w : World) : Prop :=
  T Try.prog 21 28 [.inLoop (sub (bodyOf Try.f21) [1, 1, 1, 0, 1, 0, 0]), .inBlock 0, .code (sub (bodyOf Try.f21) [1, 1, 1, 1])] [(0, (.int .u64 v_0)), (1, (.int .i64 digits_1)), (5, (.pointer (some ⟨b_5, 0, none⟩))), (6, (.int .i64 i_6))] w R
def api_Hex.V1 (v_0 : Int) (digits_1 : Int) (R : Value → World → Prop) (w : World) : Prop :=
  (api_Hex.L2 v_0 digits_1 (Array.size (World.heap w)) 15 R (World.alloc w (.cells #[(.int .u8 0), (.int .u8 0), (.int .u8 0), (.int .u8 0), (.int .u8 0), (.int .u8 0), (.int .u8 0), (.int .u8 0), (.int .u8 0), (.int .u8 0), (.int .u8 0), (.int .u8 0), (.int .u8 0), (.int .u8 0), (.int .u8 0), (.int .u8 0)] T__16_uint8)))
theorem api_Hex.step1 (v_0 : Int) (digits_1 : Int) (R : Value → World → Prop) (w : World) (h : api_Hex.V1 v_0 digits_1 R w) : api_Hex.L1 v_0 digits_1 R w :=
  seg_T good mixed Try.func21 600 false [.code (sub (bodyOf Try.f21) [1, 1])] [(0, (.int .u64 v_0)), (1, (.int .i64 digits_1))] w (Eq.mp (show api_Hex.V1 v_0 digits_1 R w = seg Try.prog 21 28 Try.f21.results.toList api_Hex.cuts R 600 false [.code (sub (bodyOf Try.f21) [1, 1])] [(0, (.int .u64 v_0)), (1, (.int .i64 digits_1))] w by kernel_rfl) h)
def api_Hex.V2 (v_0 : Int) (digits_1 : Int) (b_5 : Nat) (i_6 : Int) (R : Value → World → Prop) (w : World) : Prop :=
  (cond (decide (i_6 ≥ (0 : Int)))
  ((0 ≤ (bAnd .u64 v_0 15) ∧ (bAnd .u64 v_0 15) < ((ByteArray.size ⟨#[48, 49, 50, 51, 52, 53, 54, 55, 56, 57, 97, 98, 99, 100, 101, 102]⟩ : Nat) : Int)) ∧ ((0 ≤ i_6 ∧ i_6 < ((16 : Nat) : Int)) ∧ (can w (Addr.add ⟨b_5, 0, none⟩ (Int.toNat i_6 * 1)) ∧ (api_Hex.L2 (Int.fdiv v_0 (2 ^ (4 : Nat))) digits_1 b_5 (IntKind.wrap .i64 (i_6 - (1 : Int))) R (World.setCell w (Addr.add ⟨b_5, 0, none⟩ (Int.toNat i_6 * 1)) (.int .u8 (byteAt ⟨#[48, 49, 50, 51, 52, 53, 54, 55, 56, 57, 97, 98, 99, 100, 101, 102]⟩ (Int.toNat (bAnd .u64 v_0 15)))))))))
  ((0 ≤ (IntKind.wrap .i64 ((16 : Int) - digits_1)) ∧ (IntKind.wrap .i64 ((16 : Int) - digits_1)) ≤ ((16 : Nat) : Int) ∧ ((16 : Nat) : Int) ≤ ((16 : Nat) : Int) ∧ ((16 : Nat) : Int) ≤ ((16 : Nat) : Int)) ∧ (∃ x2 : ByteArray, ∃ w1, Sem.run Try.prog (Go.convert T_sl_uint8 T_string (.slice (slAddr (some ⟨b_5, 0, none⟩) (Int.toNat (IntKind.wrap .i64 ((16 : Int) - digits_1))) 16 1) (16 - (Int.toNat (IntKind.wrap .i64 ((16 : Int) - digits_1)))) (16 - (Int.toNat (IntKind.wrap .i64 ((16 : Int) - digits_1)))))) w = .ok (.string x2) w1 ∧ (R (.string x2) w1))))
theorem api_Hex.step2 (v_0 : Int) (digits_1 : Int) (b_5 : Nat) (i_6 : Int) (R : Value → World → Prop) (w : World) (h : api_Hex.V2 v_0 digits_1 b_5 i_6 R w) : api_Hex.L2 v_0 digits_1 b_5 i_6 R w :=
  seg_T good mixed Try.func21 600 false [.inLoop (sub (bodyOf Try.f21) [1, 1, 1, 0, 1, 0, 0]), .inBlock 0, .code (sub (bodyOf Try.f21) [1, 1, 1, 1])] [(0, (.int .u64 v_0)), (1, (.int .i64 digits_1)), (5, (.pointer (some ⟨b_5, 0, none⟩))), (6, (.int .i64 i_6))] w (Eq.mp (show api_Hex.V2 v_0 digits_1 b_5 i_6 R w = seg Try.prog 21 28 Try.f21.results.toList api_Hex.cuts R 600 false [.inLoop (sub (bodyOf Try.f21) [1, 1, 1, 0, 1, 0, 0]), .inBlock 0, .code (sub (bodyOf Try.f21) [1, 1, 1, 1])] [(0, (.int .u64 v_0)), (1, (.int .i64 digits_1)), (5, (.pointer (some ⟨b_5, 0, none⟩))), (6, (.int .i64 i_6))] w by kernel_rfl) h)
def api_Hex.V (v_0 : Int) (digits_1 : Int) (R : Value → World → Prop) (w : World) : Prop :=
  (cond (decide (digits_1 < (1 : Int)))
  (api_Hex.L1 v_0 16 R w)
  (cond (decide (digits_1 > (16 : Int)))
  (api_Hex.L1 v_0 16 R w)
  (api_Hex.L1 v_0 digits_1 R w)))
theorem api_Hex.enter (v_0 : Int) (digits_1 : Int) (R : Value → World → Prop) (w : World) (h : api_Hex.V v_0 digits_1 R w) : Runs Try.prog api_Hex.id #[(.int .u64 v_0), (.int .i64 digits_1)] w R :=
  Runs.enter (c := bodyOf Try.f21) (N := 28) Try.func21 (by kernel_rfl) (by kernel_rfl) (by kernel_rfl) (seg_T good mixed Try.func21 600 false [.code (bodyOf Try.f21)] [(0, (.int .u64 v_0)), (1, (.int .i64 digits_1))] w (Eq.mp (show api_Hex.V v_0 digits_1 R w = seg Try.prog 21 28 Try.f21.results.toList api_Hex.cuts R 600 false [.code (bodyOf Try.f21)] [(0, (.int .u64 v_0)), (1, (.int .i64 digits_1))] w by kernel_rfl) h))

/-! (*e2e/mem.Store).Fits -/
def mem_Store_Fits.cuts : List (Nat × List Nat) := []
def mem_Store_Fits.V (s_0 : Option Addr) (at_1 : Int) (n_2 : Int) (R : Value → World → Prop) (w : World) : Prop :=
  (cond (decide (n_2 ≥ (0 : Int)))
  (nilV s_0 fun a4 => (∃ x5 : Option Addr, ∃ x6 : Nat, ∃ x7 : Nat, World.cell? w ⟨(Addr.block a4), (Addr.off a4 + 2), none⟩ = some (.slice x5 x6 x7) ∧ (R (.bool (decide ((IntKind.wrap .u64 ((IntKind.wrap .u64 at_1) + (IntKind.wrap .u64 n_2))) ≤ (IntKind.wrap .u64 ((x6 : Nat) : Int))))) w)))
  (R (.bool false) w))
theorem mem_Store_Fits.enter (s_0 : Option Addr) (at_1 : Int) (n_2 : Int) (R : Value → World → Prop) (w : World) (h : mem_Store_Fits.V s_0 at_1 n_2 R w) : Runs Try.prog mem_Store_Fits.id #[(.pointer s_0), (.int .u32 at_1), (.int .i64 n_2)] w R :=
  Runs.enter (c := bodyOf Try.f22) (N := 23) Try.func22 (by kernel_rfl) (by kernel_rfl) (by kernel_rfl) (seg_T good mixed Try.func22 600 false [.code (bodyOf Try.f22)] [(0, (.pointer s_0)), (1, (.int .u32 at_1)), (2, (.int .i64 n_2))] w (Eq.mp (show mem_Store_Fits.V s_0 at_1 n_2 R w = seg Try.prog 22 23 Try.f22.results.toList mem_Store_Fits.cuts R 600 false [.code (bodyOf Try.f22)] [(0, (.pointer s_0)), (1, (.int .u32 at_1)), (2, (.int .i64 n_2))] w by kernel_rfl) h))

/-! e2e/memlaw.Do -/
def memlaw_Do.cuts : List (Nat × List Nat) := [(68, [6, 7, 8, 10]), (72, [6, 7, 8])]
def memlaw_Do.L1 (t_6 : Nat) (a_7 : Nat) (w_8 : Int) (yes_10 : Bool) (R : Value → World → Prop) (w : World) : Prop :=
  T Try.prog 23 153 [.code (sub (bodyOf Try.f23) [1, 1, 1, 1, 1, 1])] [(6, (.pointer (some ⟨t_6, 0, none⟩))), (7, (.pointer (some ⟨a_7, 0, none⟩))), (8, (.int .u64 w_8)), (10, (.bool yes_10))] w R
def memlaw_Do.L2 (t_6 : Nat) (a_7 : Nat) (w_8 : Int) (R : Value → World → Prop) (w : World) : Prop :=
  T Try.prog 23 153 [.code (sub (bodyOf Try.f23) [1, 1, 1, 1, 1, 1, 1])] [(6, (.pointer (some ⟨t_6, 0, none⟩))), (7, (.pointer (some ⟨a_7, 0, none⟩))), (8, (.int .u64 w_8))] w R
def memlaw_Do.V1 (t_6 : Nat) (a_7 : Nat) (w_8 : Int) (yes_10 : Bool) (R : Value → World → Prop) (w : World) : Prop :=
  (cond yes_10
  (memlaw_Do.L2 t_6 a_7 1 R w)
  (memlaw_Do.L2 t_6 a_7 w_8 R w))
theorem memlaw_Do.step1 (t_6 : Nat) (a_7 : Nat) (w_8 : Int) (yes_10 : Bool) (R : Value → World → Prop) (w : World) (h : memlaw_Do.V1 t_6 a_7 w_8 yes_10 R w) : memlaw_Do.L1 t_6 a_7 w_8 yes_10 R w :=
  seg_T good mixed Try.func23 600 false [.code (sub (bodyOf Try.f23) [1, 1, 1, 1, 1, 1])] [(6, (.pointer (some ⟨t_6, 0, none⟩))), (7, (.pointer (some ⟨a_7, 0, none⟩))), (8, (.int .u64 w_8)), (10, (.bool yes_10))] w (Eq.mp (show memlaw_Do.V1 t_6 a_7 w_8 yes_10 R w = seg Try.prog 23 153 Try.f23.results.toList memlaw_Do.cuts R 600 false [.code (sub (bodyOf Try.f23) [1, 1, 1, 1, 1, 1])] [(6, (.pointer (some ⟨t_6, 0, none⟩))), (7, (.pointer (some ⟨a_7, 0, none⟩))), (8, (.int .u64 w_8)), (10, (.bool yes_10))] w by kernel_rfl) h)
def memlaw_Do.V2 (t_6 : Nat) (a_7 : Nat) (w_8 : Int) (R : Value → World → Prop) (w : World) : Prop :=
  (∃ x1 : Int, World.cell? w ⟨a_7, 1, none⟩ = some (.int .i64 x1) ∧ (can w ⟨a_7, 1, none⟩ ∧ letW (World.setCell w ⟨a_7, 1, none⟩ (.int .i64 (IntKind.wrap .i64 (x1 + (IntKind.wrap .i64 w_8))))) fun w2 => (∃ x3 : Int, ∃ x4 : Int, ∃ x5 : Int, ∃ x6 : ByteArray, World.cell? w2 ⟨a_7, 0, none⟩ = some (.int .i64 x3) ∧ World.cell? w2 ⟨a_7, 1, none⟩ = some (.int .i64 x4) ∧ World.cell? w2 ⟨a_7, 2, none⟩ = some (.int .i64 x5) ∧ World.cell? w2 ⟨a_7, 3, none⟩ = some (.string x6) ∧ (putCells w2 ⟨t_6, 0, none⟩ [(.int .i64 x3), (.int .i64 x4), (.int .i64 x5), (.string x6)] fun w7 => ((∃ x8 : Int, ∃ x9 : Int, ∃ x10 : Int, ∃ x11 : ByteArray, World.cell? w7 ⟨t_6, 0, none⟩ = some (.int .i64 x8) ∧ World.cell? w7 ⟨t_6, 1, none⟩ = some (.int .i64 x9) ∧ World.cell? w7 ⟨t_6, 2, none⟩ = some (.int .i64 x10) ∧ World.cell? w7 ⟨t_6, 3, none⟩ = some (.string x11) ∧ R (.agg #[(.int .i64 x8), (.int .i64 x9), (.int .i64 x10), (.string x11)]) w7))))))
theorem memlaw_Do.step2 (t_6 : Nat) (a_7 : Nat) (w_8 : Int) (R : Value → World → Prop) (w : World) (h : memlaw_Do.V2 t_6 a_7 w_8 R w) : memlaw_Do.L2 t_6 a_7 w_8 R w :=
  seg_T good mixed Try.func23 600 false [.code (sub (bodyOf Try.f23) [1, 1, 1, 1, 1, 1, 1])] [(6, (.pointer (some ⟨t_6, 0, none⟩))), (7, (.pointer (some ⟨a_7, 0, none⟩))), (8, (.int .u64 w_8))] w (Eq.mp (show memlaw_Do.V2 t_6 a_7 w_8 R w = seg Try.prog 23 153 Try.f23.results.toList memlaw_Do.cuts R 600 false [.code (sub (bodyOf Try.f23) [1, 1, 1, 1, 1, 1, 1])] [(6, (.pointer (some ⟨t_6, 0, none⟩))), (7, (.pointer (some ⟨a_7, 0, none⟩))), (8, (.int .u64 w_8))] w by kernel_rfl) h)
def memlaw_Do.V (x_0 : Option Addr) (g_1 : Int) (o_2_3 : Int) (o_2_4 : Int) (o_2_5 : Int) (o_2_6 : Int) (o_2_7 : ByteArray) (o_2_8 : ByteArray) (R : Value → World → Prop) (w : World) : Prop :=
  (letB (Array.size (World.heap w)) fun b9 => letW (World.alloc w (.cells #[(.int .i64 o_2_3), (.int .i64 o_2_4), (.int .i64 o_2_5), (.int .i64 o_2_6), (.string o_2_7), (.string o_2_8)] T_api_Op)) fun w10 => (letB (Array.size (World.heap w10)) fun b11 => letW (World.alloc w10 (.cells #[(.int .i64 0), (.int .i64 0), (.int .i64 0), (.string ⟨#[]⟩)] T_api_Ans)) fun w12 => (letB (Array.size (World.heap w12)) fun b13 => letW (World.alloc w12 (.cells #[(.int .i64 0), (.int .i64 0), (.int .i64 0), (.string ⟨#[]⟩)] T_api_Ans)) fun w14 => (putCells w14 ⟨b13, 0, none⟩ [(.int .i64 0), (.int .i64 0), (.int .i64 0), (.string ⟨#[]⟩)] fun w15 => (∃ x16 : ByteArray, World.cell? w15 ⟨b9, 4, none⟩ = some (.string x16) ∧ (Runs Try.prog api_Word.id #[(.string x16), (.int .i64 0)] w15 fun r17 w18 => (∃ x19 : Int, (r17 = (.int .u64 x19) ∧ (∃ x20 : Int, World.cell? w18 ⟨b9, 0, none⟩ = some (.int .i64 x20) ∧ (cond (x20 == (1 : Int))
  (∃ x21 : Int, World.cell? w18 ⟨b9, 1, none⟩ = some (.int .i64 x21) ∧ (∃ x22 : Int, World.cell? w18 ⟨b9, 2, none⟩ = some (.int .i64 x22) ∧ (∃ x23 : Int, World.cell? w18 ⟨b9, 3, none⟩ = some (.int .i64 x23) ∧ (Runs Try.prog mem_Store_Reset.id #[(.pointer x_0), (.int .i64 x21), (.int .i64 x22), (.int .i64 x23), (.int .i64 g_1)] w18 fun r24 w25 => (∃ x26 : Int, (r24 = (.int .i64 x26) ∧ (can w25 ⟨b13, 0, none⟩ ∧ letW (World.setCell w25 ⟨b13, 0, none⟩ (.int .i64 x26)) fun w27 => (memlaw_Do.L1 b11 b13 0 false R w27))))))))
  (cond (x20 == (2 : Int))
  (Runs Try.prog mem_Store_Pages.id #[(.pointer x_0)] w18 fun r30 w31 => (∃ x32 : Int, (r30 = (.int .i64 x32) ∧ (can w31 ⟨b13, 1, none⟩ ∧ letW (World.setCell w31 ⟨b13, 1, none⟩ (.int .i64 x32)) fun w33 => (memlaw_Do.L1 b11 b13 0 false R w33)))))
  (cond (x20 == (3 : Int))
  (∃ x34 : Int, World.cell? w18 ⟨b9, 1, none⟩ = some (.int .i64 x34) ∧ (Runs Try.prog mem_Store_Grow.id #[(.pointer x_0), (.int .u32 (IntKind.wrap .u32 x34))] w18 fun r35 w36 => (∃ x37 : Int, (r35 = (.int .u32 x37) ∧ (memlaw_Do.L1 b11 b13 (IntKind.wrap .u64 x37) false R w36)))))
  (cond (x20 == (4 : Int))
  (∃ x38 : Int, World.cell? w18 ⟨b9, 1, none⟩ = some (.int .i64 x38) ∧ (∃ x39 : Int, World.cell? w18 ⟨b9, 2, none⟩ = some (.int .i64 x39) ∧ (∃ x40 : Int, World.cell? w18 ⟨b9, 3, none⟩ = some (.int .i64 x40) ∧ (Runs Try.prog mem_Store_Load.id #[(.pointer x_0), (.int .i64 x38), (.int .u32 (IntKind.wrap .u32 x39)), (.int .u32 (IntKind.wrap .u32 x40))] w18 fun r41 w42 => (∃ x43 : Int, ∃ x44 : Int, (r41 = (.tuple #[(.int .u64 x43), (.int .i64 x44)]) ∧ (can w42 ⟨b13, 0, none⟩ ∧ letW (World.setCell w42 ⟨b13, 0, none⟩ (.int .i64 x44)) fun w45 => (memlaw_Do.L1 b11 b13 x43 false R w45))))))))
  (cond (x20 == (5 : Int))
  (∃ x46 : Int, World.cell? w18 ⟨b9, 1, none⟩ = some (.int .i64 x46) ∧ (∃ x47 : Int, World.cell? w18 ⟨b9, 2, none⟩ = some (.int .i64 x47) ∧ (∃ x48 : Int, World.cell? w18 ⟨b9, 3, none⟩ = some (.int .i64 x48) ∧ (Runs Try.prog mem_Store_Save.id #[(.pointer x_0), (.int .i64 x46), (.int .u32 (IntKind.wrap .u32 x47)), (.int .u32 (IntKind.wrap .u32 x48)), (.int .u64 x19)] w18 fun r49 w50 => (∃ x51 : Int, (r49 = (.int .i64 x51) ∧ (can w50 ⟨b13, 0, none⟩ ∧ letW (World.setCell w50 ⟨b13, 0, none⟩ (.int .i64 x51)) fun w52 => (memlaw_Do.L1 b11 b13 0 false R w52))))))))
  (cond (x20 == (6 : Int))
  (∃ x53 : Int, World.cell? w18 ⟨b9, 1, none⟩ = some (.int .i64 x53) ∧ (∃ x54 : Int, World.cell? w18 ⟨b9, 2, none⟩ = some (.int .i64 x54) ∧ (Runs Try.prog mem_Store_Fits.id #[(.pointer x_0), (.int .u32 (IntKind.wrap .u32 x53)), (.int .i64 x54)] w18 fun r55 w56 => (∃ x57 : Bool, (r55 = (.bool x57) ∧ (memlaw_Do.L1 b11 b13 0 x57 R w56))))))
  (cond (x20 == (7 : Int))
  (∃ x58 : Int, World.cell? w18 ⟨b9, 1, none⟩ = some (.int .i64 x58) ∧ (∃ x59 : ByteArray, World.cell? w18 ⟨b9, 4, none⟩ = some (.string x59) ∧ (Runs Try.prog mem_Store_Write.id #[(.pointer x_0), (.int .u32 (IntKind.wrap .u32 x58)), (.string x59)] w18 fun r60 w61 => (∃ x62 : Int, (r60 = (.int .i64 x62) ∧ (can w61 ⟨b13, 0, none⟩ ∧ letW (World.setCell w61 ⟨b13, 0, none⟩ (.int .i64 x62)) fun w63 => (memlaw_Do.L1 b11 b13 0 false R w63)))))))
  (cond (x20 == (8 : Int))
  (Runs Try.prog mem_Store_TabLen.id #[(.pointer x_0)] w18 fun r64 w65 => (∃ x66 : Int, (r64 = (.int .i64 x66) ∧ (can w65 ⟨b13, 1, none⟩ ∧ letW (World.setCell w65 ⟨b13, 1, none⟩ (.int .i64 x66)) fun w67 => (memlaw_Do.L1 b11 b13 0 false R w67)))))
  (cond (x20 == (9 : Int))
  (∃ x68 : Int, World.cell? w18 ⟨b9, 1, none⟩ = some (.int .i64 x68) ∧ (Runs Try.prog mem_Store_Elem.id #[(.pointer x_0), (.int .u32 (IntKind.wrap .u32 x68))] w18 fun r69 w70 => (∃ x71 : Int, ∃ x72 : Int, (r69 = (.tuple #[(.int .i64 x71), (.int .i64 x72)]) ∧ (can w70 ⟨b13, 1, none⟩ ∧ letW (World.setCell w70 ⟨b13, 1, none⟩ (.int .i64 x71)) fun w73 => (can w73 ⟨b13, 0, none⟩ ∧ letW (World.setCell w73 ⟨b13, 0, none⟩ (.int .i64 x72)) fun w74 => (memlaw_Do.L1 b11 b13 0 false R w74)))))))
  (cond (x20 == (10 : Int))
  (∃ x75 : Int, World.cell? w18 ⟨b9, 1, none⟩ = some (.int .i64 x75) ∧ (∃ x76 : Int, World.cell? w18 ⟨b9, 2, none⟩ = some (.int .i64 x76) ∧ (Runs Try.prog mem_Store_SetElem.id #[(.pointer x_0), (.int .u32 (IntKind.wrap .u32 x75)), (.int .i64 x76)] w18 fun r77 w78 => (∃ x79 : Int, (r77 = (.int .i64 x79) ∧ (can w78 ⟨b13, 0, none⟩ ∧ letW (World.setCell w78 ⟨b13, 0, none⟩ (.int .i64 x79)) fun w80 => (memlaw_Do.L1 b11 b13 0 false R w80)))))))
  (cond (x20 == (11 : Int))
  (∃ x81 : Int, World.cell? w18 ⟨b9, 1, none⟩ = some (.int .i64 x81) ∧ (Runs Try.prog mem_Store_Global.id #[(.pointer x_0), (.int .i64 x81)] w18 fun r82 w83 => (∃ x84 : Int, ∃ x85 : Int, (r82 = (.tuple #[(.int .u64 x84), (.int .i64 x85)]) ∧ (can w83 ⟨b13, 0, none⟩ ∧ letW (World.setCell w83 ⟨b13, 0, none⟩ (.int .i64 x85)) fun w86 => (memlaw_Do.L1 b11 b13 x84 false R w86))))))
  (cond (x20 == (13 : Int))
  (∃ x87 : Int, World.cell? w18 ⟨b9, 1, none⟩ = some (.int .i64 x87) ∧ (Runs Try.prog mem_Store_SetGlobal.id #[(.pointer x_0), (.int .i64 x87), (.int .u64 x19)] w18 fun r88 w89 => (∃ x90 : Int, (r88 = (.int .i64 x90) ∧ (can w89 ⟨b13, 0, none⟩ ∧ letW (World.setCell w89 ⟨b13, 0, none⟩ (.int .i64 x90)) fun w91 => (memlaw_Do.L1 b11 b13 0 false R w91))))))
  (cond (x20 == (14 : Int))
  (Runs Try.prog mem_Store_Show.id #[(.pointer x_0)] w18 fun r92 w93 => (∃ x94 : ByteArray, (r92 = (.string x94) ∧ (can w93 ⟨b13, 3, none⟩ ∧ letW (World.setCell w93 ⟨b13, 3, none⟩ (.string x94)) fun w95 => (memlaw_Do.L1 b11 b13 0 false R w95)))))
  (cond (x20 == (15 : Int))
  (Runs Try.prog mem_Store_Check.id #[(.pointer x_0)] w18 fun r96 w97 => (∃ x98 : Bool, (r96 = (.bool x98) ∧ (memlaw_Do.L1 b11 b13 0 x98 R w97))))
  (memlaw_Do.L1 b11 b13 0 false R w18))))))))))))))))))))))))
theorem memlaw_Do.enter (x_0 : Option Addr) (g_1 : Int) (o_2_3 : Int) (o_2_4 : Int) (o_2_5 : Int) (o_2_6 : Int) (o_2_7 : ByteArray) (o_2_8 : ByteArray) (R : Value → World → Prop) (w : World) (h : memlaw_Do.V x_0 g_1 o_2_3 o_2_4 o_2_5 o_2_6 o_2_7 o_2_8 R w) : Runs Try.prog memlaw_Do.id #[(.pointer x_0), (.int .i64 g_1), (.agg #[(.int .i64 o_2_3), (.int .i64 o_2_4), (.int .i64 o_2_5), (.int .i64 o_2_6), (.string o_2_7), (.string o_2_8)])] w R :=
  Runs.enter (c := bodyOf Try.f23) (N := 153) Try.func23 (by kernel_rfl) (by kernel_rfl) (by kernel_rfl) (seg_T good mixed Try.func23 600 false [.code (bodyOf Try.f23)] [(0, (.pointer x_0)), (1, (.int .i64 g_1)), (2, (.agg #[(.int .i64 o_2_3), (.int .i64 o_2_4), (.int .i64 o_2_5), (.int .i64 o_2_6), (.string o_2_7), (.string o_2_8)]))] w (Eq.mp (show memlaw_Do.V x_0 g_1 o_2_3 o_2_4 o_2_5 o_2_6 o_2_7 o_2_8 R w = seg Try.prog 23 153 Try.f23.results.toList memlaw_Do.cuts R 600 false [.code (bodyOf Try.f23)] [(0, (.pointer x_0)), (1, (.int .i64 g_1)), (2, (.agg #[(.int .i64 o_2_3), (.int .i64 o_2_4), (.int .i64 o_2_5), (.int .i64 o_2_6), (.string o_2_7), (.string o_2_8)]))] w by kernel_rfl) h))

/-! e2e/memlaw.Owed -/
def memlaw_Owed.cuts : List (Nat × List Nat) := [(22, [0, 1, 7, 10]), (24, [0, 1, 7, 10, 72]), (26, [0, 1, 7, 10]), (30, [0, 1, 10]), (35, [0, 10, 15]), (43, [0, 10, 16]), (58, [0, 3, 10, 17, 150]), (72, [0, 4, 10, 11, 14, 178]), (81, [0, 4, 10, 11, 14, 18]), (92, [10, 230]), (107, [0, 3, 7, 10, 19]), (132, [0, 3, 10, 312]), (140, [0, 7, 10, 334]), (148, [0, 7, 10, 14, 358]), (156, [10])]
def memlaw_Owed.L1 (g_0 : Option Addr) (r_1 : Int) (o_7 : Nat) (t_10 : Nat) (R : Value → World → Prop) (w : World) : Prop :=
  T Try.prog 24 371 [.code (sub (bodyOf Try.f24) [1, 1, 1, 0, 1, 0, 1, 0, 1, 1, 1]), .inBlock 0, .code (sub (bodyOf Try.f24) [1, 1, 1, 1])] [(0, (.pointer g_0)), (1, (.int .i64 r_1)), (7, (.pointer (some ⟨o_7, 0, none⟩))), (10, (.pointer (some ⟨t_10, 0, none⟩)))] w R
def memlaw_Owed.L2 (g_0 : Option Addr) (at_3 : Int) (t_10 : Nat) (old_17 : Int) (t_150 : Bool) (R : Value → World → Prop) (w : World) : Prop :=
  T Try.prog 24 371 [.code (sub (bodyOf Try.f24) [1, 1, 1, 0, 1, 0, 1, 1, 1, 1, 1, 0, 1, 0, 1]), .code (sub (bodyOf Try.f24) [1, 1, 1, 0, 1, 0, 1, 1, 1, 1, 1, 0, 1, 1]), .inBlock 0, .code (sub (bodyOf Try.f24) [1, 1, 1, 1])] [(0, (.pointer g_0)), (3, (.int .i64 at_3)), (10, (.pointer (some ⟨t_10, 0, none⟩))), (17, (.int .i64 old_17)), (150, (.bool t_150))] w R
def memlaw_Owed.L3 (g_0 : Option Addr) (ea_4 : Int) (t_10 : Nat) (w_11 : Int) (v_14 : Int) (t_178 : Bool) (R : Value → World → Prop) (w : World) : Prop :=
  T Try.prog 24 371 [.code (sub (bodyOf Try.f24) [1, 1, 1, 0, 1, 0, 1, 1, 1, 1, 1, 1, 1, 1, 1, 0, 0, 1]), .code (sub (bodyOf Try.f24) [1, 1, 1, 0, 1, 0, 1, 1, 1, 1, 1, 1, 1, 1, 1, 0, 1]), .inBlock 0, .code (sub (bodyOf Try.f24) [1, 1, 1, 1])] [(0, (.pointer g_0)), (4, (.int .i64 ea_4)), (10, (.pointer (some ⟨t_10, 0, none⟩))), (11, (.int .i64 w_11)), (14, (.int .u64 v_14)), (178, (.bool t_178))] w R
def memlaw_Owed.L4 (t_10 : Nat) (t_230 : Bool) (R : Value → World → Prop) (w : World) : Prop :=
  T Try.prog 24 371 [.code (sub (bodyOf Try.f24) [1, 1, 1, 0, 1, 0, 1, 1, 1, 1, 1, 1, 1, 1, 1, 1, 1, 0, 1]), .inBlock 0, .code (sub (bodyOf Try.f24) [1, 1, 1, 1])] [(10, (.pointer (some ⟨t_10, 0, none⟩))), (230, (.bool t_230))] w R
def memlaw_Owed.L5 (g_0 : Option Addr) (at_3 : Int) (o_7 : Nat) (t_10 : Nat) (k_19 : Int) (R : Value → World → Prop) (w : World) : Prop :=
  T Try.prog 24 371 [.inLoop (sub (bodyOf Try.f24) [1, 1, 1, 0, 1, 0, 1, 1, 1, 1, 1, 1, 1, 1, 1, 1, 1, 1, 1, 0, 1, 1, 1, 0, 0]), .inBlock 7, .inBlock 0, .code (sub (bodyOf Try.f24) [1, 1, 1, 1])] [(0, (.pointer g_0)), (3, (.int .i64 at_3)), (7, (.pointer (some ⟨o_7, 0, none⟩))), (10, (.pointer (some ⟨t_10, 0, none⟩))), (19, (.int .i64 k_19))] w R
def memlaw_Owed.L6 (t_10 : Nat) (R : Value → World → Prop) (w : World) : Prop :=
  T Try.prog 24 371 [.code (sub (bodyOf Try.f24) [1, 1, 1, 1])] [(10, (.pointer (some ⟨t_10, 0, none⟩)))] w R
def memlaw_Owed.L7 (g_0 : Option Addr) (at_3 : Int) (t_10 : Nat) (t_312 : Bool) (R : Value → World → Prop) (w : World) : Prop :=
  T Try.prog 24 371 [.code (sub (bodyOf Try.f24) [1, 1, 1, 0, 1, 0, 1, 1, 1, 1, 1, 1, 1, 1, 1, 1, 1, 1, 1, 1, 1, 1, 1, 1, 1, 0, 0, 1]), .code (sub (bodyOf Try.f24) [1, 1, 1, 0, 1, 0, 1, 1, 1, 1, 1, 1, 1, 1, 1, 1, 1, 1, 1, 1, 1, 1, 1, 1, 1, 0, 1]), .inBlock 0, .code (sub (bodyOf Try.f24) [1, 1, 1, 1])] [(0, (.pointer g_0)), (3, (.int .i64 at_3)), (10, (.pointer (some ⟨t_10, 0, none⟩))), (312, (.bool t_312))] w R
def memlaw_Owed.L8 (g_0 : Option Addr) (o_7 : Nat) (t_10 : Nat) (t_334 : Bool) (R : Value → World → Prop) (w : World) : Prop :=
  T Try.prog 24 371 [.code (sub (bodyOf Try.f24) [1, 1, 1, 0, 1, 0, 1, 1, 1, 1, 1, 1, 1, 1, 1, 1, 1, 1, 1, 1, 1, 1, 1, 1, 1, 1, 1, 0, 0, 1]), .code (sub (bodyOf Try.f24) [1, 1, 1, 0, 1, 0, 1, 1, 1, 1, 1, 1, 1, 1, 1, 1, 1, 1, 1, 1, 1, 1, 1, 1, 1, 1, 1, 0, 1]), .inBlock 0, .code (sub (bodyOf Try.f24) [1, 1, 1, 1])] [(0, (.pointer g_0)), (7, (.pointer (some ⟨o_7, 0, none⟩))), (10, (.pointer (some ⟨t_10, 0, none⟩))), (334, (.bool t_334))] w R
def memlaw_Owed.L9 (g_0 : Option Addr) (o_7 : Nat) (t_10 : Nat) (v_14 : Int) (t_358 : Bool) (R : Value → World → Prop) (w : World) : Prop :=
  T Try.prog 24 371 [.code (sub (bodyOf Try.f24) [1, 1, 1, 0, 1, 0, 1, 1, 1, 1, 1, 1, 1, 1, 1, 1, 1, 1, 1, 1, 1, 1, 1, 1, 1, 1, 1, 1, 1, 0, 0, 1]), .code (sub (bodyOf Try.f24) [1, 1, 1, 0, 1, 0, 1, 1, 1, 1, 1, 1, 1, 1, 1, 1, 1, 1, 1, 1, 1, 1, 1, 1, 1, 1, 1, 1, 1, 0, 1]), .inBlock 0, .code (sub (bodyOf Try.f24) [1, 1, 1, 1])] [(0, (.pointer g_0)), (7, (.pointer (some ⟨o_7, 0, none⟩))), (10, (.pointer (some ⟨t_10, 0, none⟩))), (14, (.int .u64 v_14)), (358, (.bool t_358))] w R
def memlaw_Owed.L10 (g_0 : Option Addr) (r_1 : Int) (o_7 : Nat) (t_10 : Nat) (t_72 : Bool) (R : Value → World → Prop) (w : World) : Prop :=
  T Try.prog 24 371 [.code (sub (bodyOf Try.f24) [1, 1, 1, 0, 1, 0, 1, 0, 1, 1, 1, 0, 1]), .code (sub (bodyOf Try.f24) [1, 1, 1, 0, 1, 0, 1, 0, 1, 1, 1, 1]), .inBlock 0, .code (sub (bodyOf Try.f24) [1, 1, 1, 1])] [(0, (.pointer g_0)), (1, (.int .i64 r_1)), (7, (.pointer (some ⟨o_7, 0, none⟩))), (10, (.pointer (some ⟨t_10, 0, none⟩))), (72, (.bool t_72))] w R
def memlaw_Owed.L11 (g_0 : Option Addr) (ea_4 : Int) (t_10 : Nat) (w_11 : Int) (v_14 : Int) (k_18 : Int) (R : Value → World → Prop) (w : World) : Prop :=
  T Try.prog 24 371 [.inLoop (sub (bodyOf Try.f24) [1, 1, 1, 0, 1, 0, 1, 1, 1, 1, 1, 1, 1, 1, 1, 0, 1, 1, 1, 0, 0]), .inBlock 5, .inBlock 0, .code (sub (bodyOf Try.f24) [1, 1, 1, 1])] [(0, (.pointer g_0)), (4, (.int .i64 ea_4)), (10, (.pointer (some ⟨t_10, 0, none⟩))), (11, (.int .i64 w_11)), (14, (.int .u64 v_14)), (18, (.int .i64 k_18))] w R
def memlaw_Owed.L12 (g_0 : Option Addr) (r_1 : Int) (o_7 : Nat) (t_10 : Nat) (R : Value → World → Prop) (w : World) : Prop :=
  T Try.prog 24 371 [.code (sub (bodyOf Try.f24) [1, 1, 1, 0, 1, 0, 1, 0, 1, 1, 1, 1]), .inBlock 0, .code (sub (bodyOf Try.f24) [1, 1, 1, 1])] [(0, (.pointer g_0)), (1, (.int .i64 r_1)), (7, (.pointer (some ⟨o_7, 0, none⟩))), (10, (.pointer (some ⟨t_10, 0, none⟩)))] w R
def memlaw_Owed.L13 (g_0 : Option Addr) (r_1 : Int) (t_10 : Nat) (R : Value → World → Prop) (w : World) : Prop :=
  T Try.prog 24 371 [.code (sub (bodyOf Try.f24) [1, 1, 1, 0, 1, 0, 1, 0, 1, 1, 1, 1, 1]), .inBlock 0, .code (sub (bodyOf Try.f24) [1, 1, 1, 1])] [(0, (.pointer g_0)), (1, (.int .i64 r_1)), (10, (.pointer (some ⟨t_10, 0, none⟩)))] w R
def memlaw_Owed.L14 (g_0 : Option Addr) (t_10 : Nat) (i_15 : Int) (R : Value → World → Prop) (w : World) : Prop :=
  T Try.prog 24 371 [.inLoop (sub (bodyOf Try.f24) [1, 1, 1, 0, 1, 0, 1, 0, 1, 1, 1, 1, 1, 1, 0, 1, 0, 0]), .inBlock 1, .code (sub (bodyOf Try.f24) [1, 1, 1, 0, 1, 0, 1, 0, 1, 1, 1, 1, 1, 1, 1]), .inBlock 0, .code (sub (bodyOf Try.f24) [1, 1, 1, 1])] [(0, (.pointer g_0)), (10, (.pointer (some ⟨t_10, 0, none⟩))), (15, (.int .i64 i_15))] w R
def memlaw_Owed.L15 (g_0 : Option Addr) (t_10 : Nat) (i_16 : Int) (R : Value → World → Prop) (w : World) : Prop :=
  T Try.prog 24 371 [.inLoop (sub (bodyOf Try.f24) [1, 1, 1, 0, 1, 0, 1, 0, 1, 1, 1, 1, 1, 1, 1, 1, 0, 0]), .inBlock 3, .inBlock 0, .code (sub (bodyOf Try.f24) [1, 1, 1, 1])] [(0, (.pointer g_0)), (10, (.pointer (some ⟨t_10, 0, none⟩))), (16, (.int .i64 i_16))] w R
def memlaw_Owed.V1 (g_0 : Option Addr) (r_1 : Int) (o_7 : Nat) (t_10 : Nat) (R : Value → World → Prop) (w : World) : Prop :=
  (∃ x1 : Int, World.cell? w ⟨o_7, 2, none⟩ = some (.int .i64 x1) ∧ (cond (decide (x1 ≥ (0 : Int)))
  (∃ x2 : Int, World.cell? w ⟨o_7, 2, none⟩ = some (.int .i64 x2) ∧ (memlaw_Owed.L10 g_0 r_1 o_7 t_10 (decide (x2 < (6 : Int))) R w))
  (memlaw_Owed.L10 g_0 r_1 o_7 t_10 false R w)))
theorem memlaw_Owed.step1 (g_0 : Option Addr) (r_1 : Int) (o_7 : Nat) (t_10 : Nat) (R : Value → World → Prop) (w : World) (h : memlaw_Owed.V1 g_0 r_1 o_7 t_10 R w) : memlaw_Owed.L1 g_0 r_1 o_7 t_10 R w :=
  seg_T good mixed Try.func24 600 false [.code (sub (bodyOf Try.f24) [1, 1, 1, 0, 1, 0, 1, 0, 1, 1, 1]), .inBlock 0, .code (sub (bodyOf Try.f24) [1, 1, 1, 1])] [(0, (.pointer g_0)), (1, (.int .i64 r_1)), (7, (.pointer (some ⟨o_7, 0, none⟩))), (10, (.pointer (some ⟨t_10, 0, none⟩)))] w (Eq.mp (show memlaw_Owed.V1 g_0 r_1 o_7 t_10 R w = seg Try.prog 24 371 Try.f24.results.toList memlaw_Owed.cuts R 600 false [.code (sub (bodyOf Try.f24) [1, 1, 1, 0, 1, 0, 1, 0, 1, 1, 1]), .inBlock 0, .code (sub (bodyOf Try.f24) [1, 1, 1, 1])] [(0, (.pointer g_0)), (1, (.int .i64 r_1)), (7, (.pointer (some ⟨o_7, 0, none⟩))), (10, (.pointer (some ⟨t_10, 0, none⟩)))] w by kernel_rfl) h)
def memlaw_Owed.V2 (g_0 : Option Addr) (at_3 : Int) (t_10 : Nat) (old_17 : Int) (t_150 : Bool) (R : Value → World → Prop) (w : World) : Prop :=
  (cond t_150
  (putCells w ⟨t_10, 0, none⟩ [(.int .i64 0), (.int .i64 4294967295), (.int .i64 0), (.string ⟨#[]⟩)] fun w1 => ((∃ x2 : Int, ∃ x3 : Int, ∃ x4 : Int, ∃ x5 : ByteArray, World.cell? w1 ⟨t_10, 0, none⟩ = some (.int .i64 x2) ∧ World.cell? w1 ⟨t_10, 1, none⟩ = some (.int .i64 x3) ∧ World.cell? w1 ⟨t_10, 2, none⟩ = some (.int .i64 x4) ∧ World.cell? w1 ⟨t_10, 3, none⟩ = some (.string x5) ∧ R (.agg #[(.int .i64 x2), (.int .i64 x3), (.int .i64 x4), (.string x5)]) w1)))
  (nilV g_0 fun a6 => (∃ x7 : Int, World.cell? w ⟨(Addr.block a6), (Addr.off a6 + 1), none⟩ = some (.int .i64 x7) ∧ (Runs Try.prog memlaw_More.id #[(.pointer g_0), (.int .i64 (IntKind.wrap .i64 (x7 + (IntKind.wrap .i64 (at_3 * (64 : Int))))))] w fun r8 w9 => (r8 = (.tuple #[]) ∧ (putCells w9 ⟨t_10, 0, none⟩ [(.int .i64 0), (.int .i64 old_17), (.int .i64 0), (.string ⟨#[]⟩)] fun w10 => ((∃ x11 : Int, ∃ x12 : Int, ∃ x13 : Int, ∃ x14 : ByteArray, World.cell? w10 ⟨t_10, 0, none⟩ = some (.int .i64 x11) ∧ World.cell? w10 ⟨t_10, 1, none⟩ = some (.int .i64 x12) ∧ World.cell? w10 ⟨t_10, 2, none⟩ = some (.int .i64 x13) ∧ World.cell? w10 ⟨t_10, 3, none⟩ = some (.string x14) ∧ R (.agg #[(.int .i64 x11), (.int .i64 x12), (.int .i64 x13), (.string x14)]) w10))))))))
theorem memlaw_Owed.step2 (g_0 : Option Addr) (at_3 : Int) (t_10 : Nat) (old_17 : Int) (t_150 : Bool) (R : Value → World → Prop) (w : World) (h : memlaw_Owed.V2 g_0 at_3 t_10 old_17 t_150 R w) : memlaw_Owed.L2 g_0 at_3 t_10 old_17 t_150 R w :=
  seg_T good mixed Try.func24 600 false [.code (sub (bodyOf Try.f24) [1, 1, 1, 0, 1, 0, 1, 1, 1, 1, 1, 0, 1, 0, 1]), .code (sub (bodyOf Try.f24) [1, 1, 1, 0, 1, 0, 1, 1, 1, 1, 1, 0, 1, 1]), .inBlock 0, .code (sub (bodyOf Try.f24) [1, 1, 1, 1])] [(0, (.pointer g_0)), (3, (.int .i64 at_3)), (10, (.pointer (some ⟨t_10, 0, none⟩))), (17, (.int .i64 old_17)), (150, (.bool t_150))] w (Eq.mp (show memlaw_Owed.V2 g_0 at_3 t_10 old_17 t_150 R w = seg Try.prog 24 371 Try.f24.results.toList memlaw_Owed.cuts R 600 false [.code (sub (bodyOf Try.f24) [1, 1, 1, 0, 1, 0, 1, 1, 1, 1, 1, 0, 1, 0, 1]), .code (sub (bodyOf Try.f24) [1, 1, 1, 0, 1, 0, 1, 1, 1, 1, 1, 0, 1, 1]), .inBlock 0, .code (sub (bodyOf Try.f24) [1, 1, 1, 1])] [(0, (.pointer g_0)), (3, (.int .i64 at_3)), (10, (.pointer (some ⟨t_10, 0, none⟩))), (17, (.int .i64 old_17)), (150, (.bool t_150))] w by kernel_rfl) h)
def memlaw_Owed.V3 (g_0 : Option Addr) (ea_4 : Int) (t_10 : Nat) (w_11 : Int) (v_14 : Int) (t_178 : Bool) (R : Value → World → Prop) (w : World) : Prop :=
  (cond t_178
  (putCells w ⟨t_10, 0, none⟩ [(.int .i64 35), (.int .i64 0), (.int .i64 0), (.string ⟨#[]⟩)] fun w1 => ((∃ x2 : Int, ∃ x3 : Int, ∃ x4 : Int, ∃ x5 : ByteArray, World.cell? w1 ⟨t_10, 0, none⟩ = some (.int .i64 x2) ∧ World.cell? w1 ⟨t_10, 1, none⟩ = some (.int .i64 x3) ∧ World.cell? w1 ⟨t_10, 2, none⟩ = some (.int .i64 x4) ∧ World.cell? w1 ⟨t_10, 3, none⟩ = some (.string x5) ∧ R (.agg #[(.int .i64 x2), (.int .i64 x3), (.int .i64 x4), (.string x5)]) w1)))
  (nilV g_0 fun a6 => (∃ x7 : Int, World.cell? w ⟨(Addr.block a6), (Addr.off a6 + 1), none⟩ = some (.int .i64 x7) ∧ (cond (decide ((IntKind.wrap .i64 (ea_4 + w_11)) > x7))
  (putCells w ⟨t_10, 0, none⟩ [(.int .i64 42), (.int .i64 0), (.int .i64 0), (.string ⟨#[]⟩)] fun w8 => ((∃ x9 : Int, ∃ x10 : Int, ∃ x11 : Int, ∃ x12 : ByteArray, World.cell? w8 ⟨t_10, 0, none⟩ = some (.int .i64 x9) ∧ World.cell? w8 ⟨t_10, 1, none⟩ = some (.int .i64 x10) ∧ World.cell? w8 ⟨t_10, 2, none⟩ = some (.int .i64 x11) ∧ World.cell? w8 ⟨t_10, 3, none⟩ = some (.string x12) ∧ R (.agg #[(.int .i64 x9), (.int .i64 x10), (.int .i64 x11), (.string x12)]) w8)))
  (memlaw_Owed.L11 g_0 ea_4 t_10 w_11 v_14 0 R w)))))
theorem memlaw_Owed.step3 (g_0 : Option Addr) (ea_4 : Int) (t_10 : Nat) (w_11 : Int) (v_14 : Int) (t_178 : Bool) (R : Value → World → Prop) (w : World) (h : memlaw_Owed.V3 g_0 ea_4 t_10 w_11 v_14 t_178 R w) : memlaw_Owed.L3 g_0 ea_4 t_10 w_11 v_14 t_178 R w :=
  seg_T good mixed Try.func24 600 false [.code (sub (bodyOf Try.f24) [1, 1, 1, 0, 1, 0, 1, 1, 1, 1, 1, 1, 1, 1, 1, 0, 0, 1]), .code (sub (bodyOf Try.f24) [1, 1, 1, 0, 1, 0, 1, 1, 1, 1, 1, 1, 1, 1, 1, 0, 1]), .inBlock 0, .code (sub (bodyOf Try.f24) [1, 1, 1, 1])] [(0, (.pointer g_0)), (4, (.int .i64 ea_4)), (10, (.pointer (some ⟨t_10, 0, none⟩))), (11, (.int .i64 w_11)), (14, (.int .u64 v_14)), (178, (.bool t_178))] w (Eq.mp (show memlaw_Owed.V3 g_0 ea_4 t_10 w_11 v_14 t_178 R w = seg Try.prog 24 371 Try.f24.results.toList memlaw_Owed.cuts R 600 false [.code (sub (bodyOf Try.f24) [1, 1, 1, 0, 1, 0, 1, 1, 1, 1, 1, 1, 1, 1, 1, 0, 0, 1]), .code (sub (bodyOf Try.f24) [1, 1, 1, 0, 1, 0, 1, 1, 1, 1, 1, 1, 1, 1, 1, 0, 1]), .inBlock 0, .code (sub (bodyOf Try.f24) [1, 1, 1, 1])] [(0, (.pointer g_0)), (4, (.int .i64 ea_4)), (10, (.pointer (some ⟨t_10, 0, none⟩))), (11, (.int .i64 w_11)), (14, (.int .u64 v_14)), (178, (.bool t_178))] w by kernel_rfl) h)
def memlaw_Owed.V4 (t_10 : Nat) (t_230 : Bool) (R : Value → World → Prop) (w : World) : Prop :=
  (cond t_230
  (putCells w ⟨t_10, 0, none⟩ [(.int .i64 0), (.int .i64 1), (.int .i64 0), (.string ⟨#[]⟩)] fun w1 => ((∃ x2 : Int, ∃ x3 : Int, ∃ x4 : Int, ∃ x5 : ByteArray, World.cell? w1 ⟨t_10, 0, none⟩ = some (.int .i64 x2) ∧ World.cell? w1 ⟨t_10, 1, none⟩ = some (.int .i64 x3) ∧ World.cell? w1 ⟨t_10, 2, none⟩ = some (.int .i64 x4) ∧ World.cell? w1 ⟨t_10, 3, none⟩ = some (.string x5) ∧ R (.agg #[(.int .i64 x2), (.int .i64 x3), (.int .i64 x4), (.string x5)]) w1)))
  (memlaw_Owed.L6 t_10 R w))
theorem memlaw_Owed.step4 (t_10 : Nat) (t_230 : Bool) (R : Value → World → Prop) (w : World) (h : memlaw_Owed.V4 t_10 t_230 R w) : memlaw_Owed.L4 t_10 t_230 R w :=
  seg_T good mixed Try.func24 600 false [.code (sub (bodyOf Try.f24) [1, 1, 1, 0, 1, 0, 1, 1, 1, 1, 1, 1, 1, 1, 1, 1, 1, 0, 1]), .inBlock 0, .code (sub (bodyOf Try.f24) [1, 1, 1, 1])] [(10, (.pointer (some ⟨t_10, 0, none⟩))), (230, (.bool t_230))] w (Eq.mp (show memlaw_Owed.V4 t_10 t_230 R w = seg Try.prog 24 371 Try.f24.results.toList memlaw_Owed.cuts R 600 false [.code (sub (bodyOf Try.f24) [1, 1, 1, 0, 1, 0, 1, 1, 1, 1, 1, 1, 1, 1, 1, 1, 1, 0, 1]), .inBlock 0, .code (sub (bodyOf Try.f24) [1, 1, 1, 1])] [(10, (.pointer (some ⟨t_10, 0, none⟩))), (230, (.bool t_230))] w by kernel_rfl) h)
def memlaw_Owed.V5 (g_0 : Option Addr) (at_3 : Int) (o_7 : Nat) (t_10 : Nat) (k_19 : Int) (R : Value → World → Prop) (w : World) : Prop :=
  (∃ x1 : ByteArray, World.cell? w ⟨o_7, 4, none⟩ = some (.string x1) ∧ (cond (decide (k_19 < ((ByteArray.size x1 : Nat) : Int)))
  ((World.drew w) = (World.drew w) ∧ (nilV g_0 fun a2 => ((World.drew w) = (World.drew w) ∧ ((World.drew w) = (World.drew w) ∧ (∃ x3 : Option Addr, ∃ x4 : Nat, ∃ x5 : Nat, World.cell? (World.drew w) ⟨(Addr.block a2), (Addr.off a2 + 5), none⟩ = some (.slice x3 x4 x5) ∧ ((World.drew w) = (World.drew w) ∧ ((World.drew w) = (World.drew w) ∧ ((World.drew w) = (World.drew w) ∧ ((World.drew w) = (World.drew w) ∧ ((World.drew w) = (World.drew w) ∧ (∃ x6 : ByteArray, World.cell? (World.drew w) ⟨o_7, 4, none⟩ = some (.string x6) ∧ ((World.drew w) = (World.drew w) ∧ ((World.drew w) = (World.drew w) ∧ ((0 ≤ k_19 ∧ k_19 < ((ByteArray.size x6 : Nat) : Int)) ∧ ((World.drew w) = (World.drew w) ∧ ((0 ≤ (IntKind.wrap .i64 (at_3 + k_19)) ∧ (IntKind.wrap .i64 (at_3 + k_19)) < ((x4 : Nat) : Int)) ∧ nilV x3 fun a7 => ((World.drew w) = (World.drew w) ∧ (can (World.drew w) (Addr.add a7 (Int.toNat (IntKind.wrap .i64 (at_3 + k_19)) * 1)) ∧ letW (World.setCell (World.drew w) (Addr.add a7 (Int.toNat (IntKind.wrap .i64 (at_3 + k_19)) * 1)) (.int .u8 (byteAt x6 (Int.toNat k_19)))) fun w8 => (memlaw_Owed.L5 g_0 at_3 o_7 t_10 (IntKind.wrap .i64 (k_19 + (1 : Int))) R w8)))))))))))))))))))
  (memlaw_Owed.L6 t_10 R w)))
theorem memlaw_Owed.step5 (g_0 : Option Addr) (at_3 : Int) (o_7 : Nat) (t_10 : Nat) (k_19 : Int) (R : Value → World → Prop) (w : World) (h : memlaw_Owed.V5 g_0 at_3 o_7 t_10 k_19 R w) : memlaw_Owed.L5 g_0 at_3 o_7 t_10 k_19 R w :=
  seg_T good mixed Try.func24 600 false [.inLoop (sub (bodyOf Try.f24) [1, 1, 1, 0, 1, 0, 1, 1, 1, 1, 1, 1, 1, 1, 1, 1, 1, 1, 1, 0, 1, 1, 1, 0, 0]), .inBlock 7, .inBlock 0, .code (sub (bodyOf Try.f24) [1, 1, 1, 1])] [(0, (.pointer g_0)), (3, (.int .i64 at_3)), (7, (.pointer (some ⟨o_7, 0, none⟩))), (10, (.pointer (some ⟨t_10, 0, none⟩))), (19, (.int .i64 k_19))] w (Eq.mp (show memlaw_Owed.V5 g_0 at_3 o_7 t_10 k_19 R w = seg Try.prog 24 371 Try.f24.results.toList memlaw_Owed.cuts R 600 false [.inLoop (sub (bodyOf Try.f24) [1, 1, 1, 0, 1, 0, 1, 1, 1, 1, 1, 1, 1, 1, 1, 1, 1, 1, 1, 0, 1, 1, 1, 0, 0]), .inBlock 7, .inBlock 0, .code (sub (bodyOf Try.f24) [1, 1, 1, 1])] [(0, (.pointer g_0)), (3, (.int .i64 at_3)), (7, (.pointer (some ⟨o_7, 0, none⟩))), (10, (.pointer (some ⟨t_10, 0, none⟩))), (19, (.int .i64 k_19))] w by kernel_rfl) h)
def memlaw_Owed.V6 (t_10 : Nat) (R : Value → World → Prop) (w : World) : Prop :=
  (putCells w ⟨t_10, 0, none⟩ [(.int .i64 0), (.int .i64 0), (.int .i64 0), (.string ⟨#[]⟩)] fun w1 => ((∃ x2 : Int, ∃ x3 : Int, ∃ x4 : Int, ∃ x5 : ByteArray, World.cell? w1 ⟨t_10, 0, none⟩ = some (.int .i64 x2) ∧ World.cell? w1 ⟨t_10, 1, none⟩ = some (.int .i64 x3) ∧ World.cell? w1 ⟨t_10, 2, none⟩ = some (.int .i64 x4) ∧ World.cell? w1 ⟨t_10, 3, none⟩ = some (.string x5) ∧ R (.agg #[(.int .i64 x2), (.int .i64 x3), (.int .i64 x4), (.string x5)]) w1)))
theorem memlaw_Owed.step6 (t_10 : Nat) (R : Value → World → Prop) (w : World) (h : memlaw_Owed.V6 t_10 R w) : memlaw_Owed.L6 t_10 R w :=
  seg_T good mixed Try.func24 600 false [.code (sub (bodyOf Try.f24) [1, 1, 1, 1])] [(10, (.pointer (some ⟨t_10, 0, none⟩)))] w (Eq.mp (show memlaw_Owed.V6 t_10 R w = seg Try.prog 24 371 Try.f24.results.toList memlaw_Owed.cuts R 600 false [.code (sub (bodyOf Try.f24) [1, 1, 1, 1])] [(10, (.pointer (some ⟨t_10, 0, none⟩)))] w by kernel_rfl) h)
def memlaw_Owed.V7 (g_0 : Option Addr) (at_3 : Int) (t_10 : Nat) (t_312 : Bool) (R : Value → World → Prop) (w : World) : Prop :=
  (cond t_312
  (putCells w ⟨t_10, 0, none⟩ [(.int .i64 43), (.int .i64 0), (.int .i64 0), (.string ⟨#[]⟩)] fun w1 => ((∃ x2 : Int, ∃ x3 : Int, ∃ x4 : Int, ∃ x5 : ByteArray, World.cell? w1 ⟨t_10, 0, none⟩ = some (.int .i64 x2) ∧ World.cell? w1 ⟨t_10, 1, none⟩ = some (.int .i64 x3) ∧ World.cell? w1 ⟨t_10, 2, none⟩ = some (.int .i64 x4) ∧ World.cell? w1 ⟨t_10, 3, none⟩ = some (.string x5) ∧ R (.agg #[(.int .i64 x2), (.int .i64 x3), (.int .i64 x4), (.string x5)]) w1)))
  (nilV g_0 fun a6 => ((0 ≤ at_3 ∧ at_3 < ((8 : Nat) : Int)) ∧ (∃ x7 : Int, World.cell? w (Addr.add ⟨(Addr.block a6), (Addr.off a6 + 6), none⟩ (Int.toNat at_3 * 1)) = some (.int .i64 x7) ∧ (putCells w ⟨t_10, 0, none⟩ [(.int .i64 0), (.int .i64 x7), (.int .i64 0), (.string ⟨#[]⟩)] fun w8 => ((∃ x9 : Int, ∃ x10 : Int, ∃ x11 : Int, ∃ x12 : ByteArray, World.cell? w8 ⟨t_10, 0, none⟩ = some (.int .i64 x9) ∧ World.cell? w8 ⟨t_10, 1, none⟩ = some (.int .i64 x10) ∧ World.cell? w8 ⟨t_10, 2, none⟩ = some (.int .i64 x11) ∧ World.cell? w8 ⟨t_10, 3, none⟩ = some (.string x12) ∧ R (.agg #[(.int .i64 x9), (.int .i64 x10), (.int .i64 x11), (.string x12)]) w8)))))))
theorem memlaw_Owed.step7 (g_0 : Option Addr) (at_3 : Int) (t_10 : Nat) (t_312 : Bool) (R : Value → World → Prop) (w : World) (h : memlaw_Owed.V7 g_0 at_3 t_10 t_312 R w) : memlaw_Owed.L7 g_0 at_3 t_10 t_312 R w :=
  seg_T good mixed Try.func24 600 false [.code (sub (bodyOf Try.f24) [1, 1, 1, 0, 1, 0, 1, 1, 1, 1, 1, 1, 1, 1, 1, 1, 1, 1, 1, 1, 1, 1, 1, 1, 1, 0, 0, 1]), .code (sub (bodyOf Try.f24) [1, 1, 1, 0, 1, 0, 1, 1, 1, 1, 1, 1, 1, 1, 1, 1, 1, 1, 1, 1, 1, 1, 1, 1, 1, 0, 1]), .inBlock 0, .code (sub (bodyOf Try.f24) [1, 1, 1, 1])] [(0, (.pointer g_0)), (3, (.int .i64 at_3)), (10, (.pointer (some ⟨t_10, 0, none⟩))), (312, (.bool t_312))] w (Eq.mp (show memlaw_Owed.V7 g_0 at_3 t_10 t_312 R w = seg Try.prog 24 371 Try.f24.results.toList memlaw_Owed.cuts R 600 false [.code (sub (bodyOf Try.f24) [1, 1, 1, 0, 1, 0, 1, 1, 1, 1, 1, 1, 1, 1, 1, 1, 1, 1, 1, 1, 1, 1, 1, 1, 1, 0, 0, 1]), .code (sub (bodyOf Try.f24) [1, 1, 1, 0, 1, 0, 1, 1, 1, 1, 1, 1, 1, 1, 1, 1, 1, 1, 1, 1, 1, 1, 1, 1, 1, 0, 1]), .inBlock 0, .code (sub (bodyOf Try.f24) [1, 1, 1, 1])] [(0, (.pointer g_0)), (3, (.int .i64 at_3)), (10, (.pointer (some ⟨t_10, 0, none⟩))), (312, (.bool t_312))] w by kernel_rfl) h)
def memlaw_Owed.V8 (g_0 : Option Addr) (o_7 : Nat) (t_10 : Nat) (t_334 : Bool) (R : Value → World → Prop) (w : World) : Prop :=
  (cond t_334
  (putCells w ⟨t_10, 0, none⟩ [(.int .i64 36), (.int .i64 0), (.int .i64 0), (.string ⟨#[]⟩)] fun w1 => ((∃ x2 : Int, ∃ x3 : Int, ∃ x4 : Int, ∃ x5 : ByteArray, World.cell? w1 ⟨t_10, 0, none⟩ = some (.int .i64 x2) ∧ World.cell? w1 ⟨t_10, 1, none⟩ = some (.int .i64 x3) ∧ World.cell? w1 ⟨t_10, 2, none⟩ = some (.int .i64 x4) ∧ World.cell? w1 ⟨t_10, 3, none⟩ = some (.string x5) ∧ R (.agg #[(.int .i64 x2), (.int .i64 x3), (.int .i64 x4), (.string x5)]) w1)))
  ((World.drew w) = (World.drew w) ∧ ((World.drew w) = (World.drew w) ∧ (∃ x6 : Int, World.cell? (World.drew w) ⟨o_7, 1, none⟩ = some (.int .i64 x6) ∧ ((World.drew w) = (World.drew w) ∧ (nilV g_0 fun a7 => ((World.drew w) = (World.drew w) ∧ ((World.drew w) = (World.drew w) ∧ ((0 ≤ x6 ∧ x6 < ((4 : Nat) : Int)) ∧ ((World.drew w) = (World.drew w) ∧ (∃ x8 : Int, World.cell? (World.drew w) (Addr.add ⟨(Addr.block a7), (Addr.off a7 + 14), none⟩ (Int.toNat x6 * 1)) = some (.int .u64 x8) ∧ ((World.drew w) = (World.drew w) ∧ ((World.drew w) = (World.drew w) ∧ ((World.drew w) = (World.drew w) ∧ (putCells (World.drew w) ⟨t_10, 0, none⟩ [(.int .i64 0), (.int .i64 (IntKind.wrap .i64 x8)), (.int .i64 0), (.string ⟨#[]⟩)] fun w9 => ((∃ x10 : Int, ∃ x11 : Int, ∃ x12 : Int, ∃ x13 : ByteArray, World.cell? w9 ⟨t_10, 0, none⟩ = some (.int .i64 x10) ∧ World.cell? w9 ⟨t_10, 1, none⟩ = some (.int .i64 x11) ∧ World.cell? w9 ⟨t_10, 2, none⟩ = some (.int .i64 x12) ∧ World.cell? w9 ⟨t_10, 3, none⟩ = some (.string x13) ∧ R (.agg #[(.int .i64 x10), (.int .i64 x11), (.int .i64 x12), (.string x13)]) w9)))))))))))))))))
theorem memlaw_Owed.step8 (g_0 : Option Addr) (o_7 : Nat) (t_10 : Nat) (t_334 : Bool) (R : Value → World → Prop) (w : World) (h : memlaw_Owed.V8 g_0 o_7 t_10 t_334 R w) : memlaw_Owed.L8 g_0 o_7 t_10 t_334 R w :=
  seg_T good mixed Try.func24 600 false [.code (sub (bodyOf Try.f24) [1, 1, 1, 0, 1, 0, 1, 1, 1, 1, 1, 1, 1, 1, 1, 1, 1, 1, 1, 1, 1, 1, 1, 1, 1, 1, 1, 0, 0, 1]), .code (sub (bodyOf Try.f24) [1, 1, 1, 0, 1, 0, 1, 1, 1, 1, 1, 1, 1, 1, 1, 1, 1, 1, 1, 1, 1, 1, 1, 1, 1, 1, 1, 0, 1]), .inBlock 0, .code (sub (bodyOf Try.f24) [1, 1, 1, 1])] [(0, (.pointer g_0)), (7, (.pointer (some ⟨o_7, 0, none⟩))), (10, (.pointer (some ⟨t_10, 0, none⟩))), (334, (.bool t_334))] w (Eq.mp (show memlaw_Owed.V8 g_0 o_7 t_10 t_334 R w = seg Try.prog 24 371 Try.f24.results.toList memlaw_Owed.cuts R 600 false [.code (sub (bodyOf Try.f24) [1, 1, 1, 0, 1, 0, 1, 1, 1, 1, 1, 1, 1, 1, 1, 1, 1, 1, 1, 1, 1, 1, 1, 1, 1, 1, 1, 0, 0, 1]), .code (sub (bodyOf Try.f24) [1, 1, 1, 0, 1, 0, 1, 1, 1, 1, 1, 1, 1, 1, 1, 1, 1, 1, 1, 1, 1, 1, 1, 1, 1, 1, 1, 0, 1]), .inBlock 0, .code (sub (bodyOf Try.f24) [1, 1, 1, 1])] [(0, (.pointer g_0)), (7, (.pointer (some ⟨o_7, 0, none⟩))), (10, (.pointer (some ⟨t_10, 0, none⟩))), (334, (.bool t_334))] w by kernel_rfl) h)
def memlaw_Owed.V9 (g_0 : Option Addr) (o_7 : Nat) (t_10 : Nat) (v_14 : Int) (t_358 : Bool) (R : Value → World → Prop) (w : World) : Prop :=
  (cond t_358
  (putCells w ⟨t_10, 0, none⟩ [(.int .i64 36), (.int .i64 0), (.int .i64 0), (.string ⟨#[]⟩)] fun w1 => ((∃ x2 : Int, ∃ x3 : Int, ∃ x4 : Int, ∃ x5 : ByteArray, World.cell? w1 ⟨t_10, 0, none⟩ = some (.int .i64 x2) ∧ World.cell? w1 ⟨t_10, 1, none⟩ = some (.int .i64 x3) ∧ World.cell? w1 ⟨t_10, 2, none⟩ = some (.int .i64 x4) ∧ World.cell? w1 ⟨t_10, 3, none⟩ = some (.string x5) ∧ R (.agg #[(.int .i64 x2), (.int .i64 x3), (.int .i64 x4), (.string x5)]) w1)))
  ((World.drew w) = (World.drew w) ∧ ((World.drew w) = (World.drew w) ∧ (∃ x6 : Int, World.cell? (World.drew w) ⟨o_7, 1, none⟩ = some (.int .i64 x6) ∧ ((World.drew w) = (World.drew w) ∧ ((World.drew w) = (World.drew w) ∧ (nilV g_0 fun a7 => ((World.drew w) = (World.drew w) ∧ ((World.drew w) = (World.drew w) ∧ ((0 ≤ x6 ∧ x6 < ((4 : Nat) : Int)) ∧ ((World.drew w) = (World.drew w) ∧ (can (World.drew w) (Addr.add ⟨(Addr.block a7), (Addr.off a7 + 14), none⟩ (Int.toNat x6 * 1)) ∧ letW (World.setCell (World.drew w) (Addr.add ⟨(Addr.block a7), (Addr.off a7 + 14), none⟩ (Int.toNat x6 * 1)) (.int .u64 v_14)) fun w8 => (memlaw_Owed.L6 t_10 R w8)))))))))))))
theorem memlaw_Owed.step9 (g_0 : Option Addr) (o_7 : Nat) (t_10 : Nat) (v_14 : Int) (t_358 : Bool) (R : Value → World → Prop) (w : World) (h : memlaw_Owed.V9 g_0 o_7 t_10 v_14 t_358 R w) : memlaw_Owed.L9 g_0 o_7 t_10 v_14 t_358 R w :=
  seg_T good mixed Try.func24 600 false [.code (sub (bodyOf Try.f24) [1, 1, 1, 0, 1, 0, 1, 1, 1, 1, 1, 1, 1, 1, 1, 1, 1, 1, 1, 1, 1, 1, 1, 1, 1, 1, 1, 1, 1, 0, 0, 1]), .code (sub (bodyOf Try.f24) [1, 1, 1, 0, 1, 0, 1, 1, 1, 1, 1, 1, 1, 1, 1, 1, 1, 1, 1, 1, 1, 1, 1, 1, 1, 1, 1, 1, 1, 0, 1]), .inBlock 0, .code (sub (bodyOf Try.f24) [1, 1, 1, 1])] [(0, (.pointer g_0)), (7, (.pointer (some ⟨o_7, 0, none⟩))), (10, (.pointer (some ⟨t_10, 0, none⟩))), (14, (.int .u64 v_14)), (358, (.bool t_358))] w (Eq.mp (show memlaw_Owed.V9 g_0 o_7 t_10 v_14 t_358 R w = seg Try.prog 24 371 Try.f24.results.toList memlaw_Owed.cuts R 600 false [.code (sub (bodyOf Try.f24) [1, 1, 1, 0, 1, 0, 1, 1, 1, 1, 1, 1, 1, 1, 1, 1, 1, 1, 1, 1, 1, 1, 1, 1, 1, 1, 1, 1, 1, 0, 0, 1]), .code (sub (bodyOf Try.f24) [1, 1, 1, 0, 1, 0, 1, 1, 1, 1, 1, 1, 1, 1, 1, 1, 1, 1, 1, 1, 1, 1, 1, 1, 1, 1, 1, 1, 1, 0, 1]), .inBlock 0, .code (sub (bodyOf Try.f24) [1, 1, 1, 1])] [(0, (.pointer g_0)), (7, (.pointer (some ⟨o_7, 0, none⟩))), (10, (.pointer (some ⟨t_10, 0, none⟩))), (14, (.int .u64 v_14)), (358, (.bool t_358))] w by kernel_rfl) h)
def memlaw_Owed.V10 (g_0 : Option Addr) (r_1 : Int) (o_7 : Nat) (t_10 : Nat) (t_72 : Bool) (R : Value → World → Prop) (w : World) : Prop :=
  (cond t_72
  (∃ x1 : Int, World.cell? w ⟨o_7, 2, none⟩ = some (.int .i64 x1) ∧ (nilV g_0 fun a2 => (can w ⟨(Addr.block a2), (Addr.off a2 + 2), none⟩ ∧ letW (World.setCell w ⟨(Addr.block a2), (Addr.off a2 + 2), none⟩ (.int .i64 (IntKind.wrap .i64 (x1 * (64 : Int))))) fun w3 => (memlaw_Owed.L12 g_0 r_1 o_7 t_10 R w3))))
  (memlaw_Owed.L12 g_0 r_1 o_7 t_10 R w))
theorem memlaw_Owed.step10 (g_0 : Option Addr) (r_1 : Int) (o_7 : Nat) (t_10 : Nat) (t_72 : Bool) (R : Value → World → Prop) (w : World) (h : memlaw_Owed.V10 g_0 r_1 o_7 t_10 t_72 R w) : memlaw_Owed.L10 g_0 r_1 o_7 t_10 t_72 R w :=
  seg_T good mixed Try.func24 600 false [.code (sub (bodyOf Try.f24) [1, 1, 1, 0, 1, 0, 1, 0, 1, 1, 1, 0, 1]), .code (sub (bodyOf Try.f24) [1, 1, 1, 0, 1, 0, 1, 0, 1, 1, 1, 1]), .inBlock 0, .code (sub (bodyOf Try.f24) [1, 1, 1, 1])] [(0, (.pointer g_0)), (1, (.int .i64 r_1)), (7, (.pointer (some ⟨o_7, 0, none⟩))), (10, (.pointer (some ⟨t_10, 0, none⟩))), (72, (.bool t_72))] w (Eq.mp (show memlaw_Owed.V10 g_0 r_1 o_7 t_10 t_72 R w = seg Try.prog 24 371 Try.f24.results.toList memlaw_Owed.cuts R 600 false [.code (sub (bodyOf Try.f24) [1, 1, 1, 0, 1, 0, 1, 0, 1, 1, 1, 0, 1]), .code (sub (bodyOf Try.f24) [1, 1, 1, 0, 1, 0, 1, 0, 1, 1, 1, 1]), .inBlock 0, .code (sub (bodyOf Try.f24) [1, 1, 1, 1])] [(0, (.pointer g_0)), (1, (.int .i64 r_1)), (7, (.pointer (some ⟨o_7, 0, none⟩))), (10, (.pointer (some ⟨t_10, 0, none⟩))), (72, (.bool t_72))] w by kernel_rfl) h)
def memlaw_Owed.V11 (g_0 : Option Addr) (ea_4 : Int) (t_10 : Nat) (w_11 : Int) (v_14 : Int) (k_18 : Int) (R : Value → World → Prop) (w : World) : Prop :=
  (cond (decide (k_18 < w_11))
  (nilV g_0 fun a1 => (∃ x2 : Option Addr, ∃ x3 : Nat, ∃ x4 : Nat, World.cell? w ⟨(Addr.block a1), (Addr.off a1 + 5), none⟩ = some (.slice x2 x3 x4) ∧ ((0 ≤ (IntKind.wrap .i64 (ea_4 + k_18)) ∧ (IntKind.wrap .i64 (ea_4 + k_18)) < ((x3 : Nat) : Int)) ∧ nilV x2 fun a5 => (can w (Addr.add a5 (Int.toNat (IntKind.wrap .i64 (ea_4 + k_18)) * 1)) ∧ letW (World.setCell w (Addr.add a5 (Int.toNat (IntKind.wrap .i64 (ea_4 + k_18)) * 1)) (.int .u8 (IntKind.wrap .u8 v_14))) fun w6 => (memlaw_Owed.L11 g_0 ea_4 t_10 w_11 (Int.fdiv v_14 (2 ^ (8 : Nat))) (IntKind.wrap .i64 (k_18 + (1 : Int))) R w6)))))
  (memlaw_Owed.L6 t_10 R w))
theorem memlaw_Owed.step11 (g_0 : Option Addr) (ea_4 : Int) (t_10 : Nat) (w_11 : Int) (v_14 : Int) (k_18 : Int) (R : Value → World → Prop) (w : World) (h : memlaw_Owed.V11 g_0 ea_4 t_10 w_11 v_14 k_18 R w) : memlaw_Owed.L11 g_0 ea_4 t_10 w_11 v_14 k_18 R w :=
  seg_T good mixed Try.func24 600 false [.inLoop (sub (bodyOf Try.f24) [1, 1, 1, 0, 1, 0, 1, 1, 1, 1, 1, 1, 1, 1, 1, 0, 1, 1, 1, 0, 0]), .inBlock 5, .inBlock 0, .code (sub (bodyOf Try.f24) [1, 1, 1, 1])] [(0, (.pointer g_0)), (4, (.int .i64 ea_4)), (10, (.pointer (some ⟨t_10, 0, none⟩))), (11, (.int .i64 w_11)), (14, (.int .u64 v_14)), (18, (.int .i64 k_18))] w (Eq.mp (show memlaw_Owed.V11 g_0 ea_4 t_10 w_11 v_14 k_18 R w = seg Try.prog 24 371 Try.f24.results.toList memlaw_Owed.cuts R 600 false [.inLoop (sub (bodyOf Try.f24) [1, 1, 1, 0, 1, 0, 1, 1, 1, 1, 1, 1, 1, 1, 1, 0, 1, 1, 1, 0, 0]), .inBlock 5, .inBlock 0, .code (sub (bodyOf Try.f24) [1, 1, 1, 1])] [(0, (.pointer g_0)), (4, (.int .i64 ea_4)), (10, (.pointer (some ⟨t_10, 0, none⟩))), (11, (.int .i64 w_11)), (14, (.int .u64 v_14)), (18, (.int .i64 k_18))] w by kernel_rfl) h)
def memlaw_Owed.V12 (g_0 : Option Addr) (r_1 : Int) (o_7 : Nat) (t_10 : Nat) (R : Value → World → Prop) (w : World) : Prop :=
  (∃ x1 : Int, World.cell? w ⟨o_7, 3, none⟩ = some (.int .i64 x1) ∧ (cond (decide (x1 > (0 : Int)))
  (∃ x2 : Int, World.cell? w ⟨o_7, 3, none⟩ = some (.int .i64 x2) ∧ (nilV g_0 fun a3 => (can w ⟨(Addr.block a3), (Addr.off a3 + 3), none⟩ ∧ letW (World.setCell w ⟨(Addr.block a3), (Addr.off a3 + 3), none⟩ (.int .i64 x2)) fun w4 => (memlaw_Owed.L13 g_0 r_1 t_10 R w4))))
  (memlaw_Owed.L13 g_0 r_1 t_10 R w)))
theorem memlaw_Owed.step12 (g_0 : Option Addr) (r_1 : Int) (o_7 : Nat) (t_10 : Nat) (R : Value → World → Prop) (w : World) (h : memlaw_Owed.V12 g_0 r_1 o_7 t_10 R w) : memlaw_Owed.L12 g_0 r_1 o_7 t_10 R w :=
  seg_T good mixed Try.func24 600 false [.code (sub (bodyOf Try.f24) [1, 1, 1, 0, 1, 0, 1, 0, 1, 1, 1, 1]), .inBlock 0, .code (sub (bodyOf Try.f24) [1, 1, 1, 1])] [(0, (.pointer g_0)), (1, (.int .i64 r_1)), (7, (.pointer (some ⟨o_7, 0, none⟩))), (10, (.pointer (some ⟨t_10, 0, none⟩)))] w (Eq.mp (show memlaw_Owed.V12 g_0 r_1 o_7 t_10 R w = seg Try.prog 24 371 Try.f24.results.toList memlaw_Owed.cuts R 600 false [.code (sub (bodyOf Try.f24) [1, 1, 1, 0, 1, 0, 1, 0, 1, 1, 1, 1]), .inBlock 0, .code (sub (bodyOf Try.f24) [1, 1, 1, 1])] [(0, (.pointer g_0)), (1, (.int .i64 r_1)), (7, (.pointer (some ⟨o_7, 0, none⟩))), (10, (.pointer (some ⟨t_10, 0, none⟩)))] w by kernel_rfl) h)
def memlaw_Owed.V13 (g_0 : Option Addr) (r_1 : Int) (t_10 : Nat) (R : Value → World → Prop) (w : World) : Prop :=
  (nilV g_0 fun a1 => (can w ⟨(Addr.block a1), (Addr.off a1 + 4), none⟩ ∧ letW (World.setCell w ⟨(Addr.block a1), (Addr.off a1 + 4), none⟩ (.int .i64 r_1)) fun w2 => (memlaw_Owed.L14 g_0 t_10 0 R w2)))
theorem memlaw_Owed.step13 (g_0 : Option Addr) (r_1 : Int) (t_10 : Nat) (R : Value → World → Prop) (w : World) (h : memlaw_Owed.V13 g_0 r_1 t_10 R w) : memlaw_Owed.L13 g_0 r_1 t_10 R w :=
  seg_T good mixed Try.func24 600 false [.code (sub (bodyOf Try.f24) [1, 1, 1, 0, 1, 0, 1, 0, 1, 1, 1, 1, 1]), .inBlock 0, .code (sub (bodyOf Try.f24) [1, 1, 1, 1])] [(0, (.pointer g_0)), (1, (.int .i64 r_1)), (10, (.pointer (some ⟨t_10, 0, none⟩)))] w (Eq.mp (show memlaw_Owed.V13 g_0 r_1 t_10 R w = seg Try.prog 24 371 Try.f24.results.toList memlaw_Owed.cuts R 600 false [.code (sub (bodyOf Try.f24) [1, 1, 1, 0, 1, 0, 1, 0, 1, 1, 1, 1, 1]), .inBlock 0, .code (sub (bodyOf Try.f24) [1, 1, 1, 1])] [(0, (.pointer g_0)), (1, (.int .i64 r_1)), (10, (.pointer (some ⟨t_10, 0, none⟩)))] w by kernel_rfl) h)
def memlaw_Owed.V14 (g_0 : Option Addr) (t_10 : Nat) (i_15 : Int) (R : Value → World → Prop) (w : World) : Prop :=
  (nilV g_0 fun a1 => (∃ x2 : Int, World.cell? w ⟨(Addr.block a1), (Addr.off a1 + 3), none⟩ = some (.int .i64 x2) ∧ (cond (decide (i_15 < x2))
  (nilV g_0 fun a3 => ((0 ≤ i_15 ∧ i_15 < ((8 : Nat) : Int)) ∧ (can w (Addr.add ⟨(Addr.block a3), (Addr.off a3 + 6), none⟩ (Int.toNat i_15 * 1)) ∧ letW (World.setCell w (Addr.add ⟨(Addr.block a3), (Addr.off a3 + 6), none⟩ (Int.toNat i_15 * 1)) (.int .i64 (-1))) fun w4 => (memlaw_Owed.L14 g_0 t_10 (IntKind.wrap .i64 (i_15 + (1 : Int))) R w4))))
  (memlaw_Owed.L15 g_0 t_10 0 R w))))
theorem memlaw_Owed.step14 (g_0 : Option Addr) (t_10 : Nat) (i_15 : Int) (R : Value → World → Prop) (w : World) (h : memlaw_Owed.V14 g_0 t_10 i_15 R w) : memlaw_Owed.L14 g_0 t_10 i_15 R w :=
  seg_T good mixed Try.func24 600 false [.inLoop (sub (bodyOf Try.f24) [1, 1, 1, 0, 1, 0, 1, 0, 1, 1, 1, 1, 1, 1, 0, 1, 0, 0]), .inBlock 1, .code (sub (bodyOf Try.f24) [1, 1, 1, 0, 1, 0, 1, 0, 1, 1, 1, 1, 1, 1, 1]), .inBlock 0, .code (sub (bodyOf Try.f24) [1, 1, 1, 1])] [(0, (.pointer g_0)), (10, (.pointer (some ⟨t_10, 0, none⟩))), (15, (.int .i64 i_15))] w (Eq.mp (show memlaw_Owed.V14 g_0 t_10 i_15 R w = seg Try.prog 24 371 Try.f24.results.toList memlaw_Owed.cuts R 600 false [.inLoop (sub (bodyOf Try.f24) [1, 1, 1, 0, 1, 0, 1, 0, 1, 1, 1, 1, 1, 1, 0, 1, 0, 0]), .inBlock 1, .code (sub (bodyOf Try.f24) [1, 1, 1, 0, 1, 0, 1, 0, 1, 1, 1, 1, 1, 1, 1]), .inBlock 0, .code (sub (bodyOf Try.f24) [1, 1, 1, 1])] [(0, (.pointer g_0)), (10, (.pointer (some ⟨t_10, 0, none⟩))), (15, (.int .i64 i_15))] w by kernel_rfl) h)
def memlaw_Owed.V15 (g_0 : Option Addr) (t_10 : Nat) (i_16 : Int) (R : Value → World → Prop) (w : World) : Prop :=
  (nilV g_0 fun a1 => (∃ x2 : Int, World.cell? w ⟨(Addr.block a1), (Addr.off a1 + 4), none⟩ = some (.int .i64 x2) ∧ (cond (decide (i_16 < x2))
  (nilV g_0 fun a3 => ((0 ≤ i_16 ∧ i_16 < ((4 : Nat) : Int)) ∧ (can w (Addr.add ⟨(Addr.block a3), (Addr.off a3 + 14), none⟩ (Int.toNat i_16 * 1)) ∧ letW (World.setCell w (Addr.add ⟨(Addr.block a3), (Addr.off a3 + 14), none⟩ (Int.toNat i_16 * 1)) (.int .u64 0)) fun w4 => (memlaw_Owed.L15 g_0 t_10 (IntKind.wrap .i64 (i_16 + (1 : Int))) R w4))))
  (memlaw_Owed.L6 t_10 R w))))
theorem memlaw_Owed.step15 (g_0 : Option Addr) (t_10 : Nat) (i_16 : Int) (R : Value → World → Prop) (w : World) (h : memlaw_Owed.V15 g_0 t_10 i_16 R w) : memlaw_Owed.L15 g_0 t_10 i_16 R w :=
  seg_T good mixed Try.func24 600 false [.inLoop (sub (bodyOf Try.f24) [1, 1, 1, 0, 1, 0, 1, 0, 1, 1, 1, 1, 1, 1, 1, 1, 0, 0]), .inBlock 3, .inBlock 0, .code (sub (bodyOf Try.f24) [1, 1, 1, 1])] [(0, (.pointer g_0)), (10, (.pointer (some ⟨t_10, 0, none⟩))), (16, (.int .i64 i_16))] w (Eq.mp (show memlaw_Owed.V15 g_0 t_10 i_16 R w = seg Try.prog 24 371 Try.f24.results.toList memlaw_Owed.cuts R 600 false [.inLoop (sub (bodyOf Try.f24) [1, 1, 1, 0, 1, 0, 1, 0, 1, 1, 1, 1, 1, 1, 1, 1, 0, 0]), .inBlock 3, .inBlock 0, .code (sub (bodyOf Try.f24) [1, 1, 1, 1])] [(0, (.pointer g_0)), (10, (.pointer (some ⟨t_10, 0, none⟩))), (16, (.int .i64 i_16))] w by kernel_rfl) h)
def memlaw_Owed.V (g_0 : Option Addr) (r_1 : Int) (o_2_3 : Int) (o_2_4 : Int) (o_2_5 : Int) (o_2_6 : Int) (o_2_7 : ByteArray) (o_2_8 : ByteArray) (at_3 : Int) (ea_4 : Int) (R : Value → World → Prop) (w : World) : Prop :=
  (letB (Array.size (World.heap w)) fun b11 => letW (World.alloc w (.cells #[(.int .i64 o_2_3), (.int .i64 o_2_4), (.int .i64 o_2_5), (.int .i64 o_2_6), (.string o_2_7), (.string o_2_8)] T_api_Op)) fun w12 => (letB (Array.size (World.heap w12)) fun b13 => letW (World.alloc w12 (.cells #[(.int .i64 0), (.int .i64 0), (.int .i64 0), (.string ⟨#[]⟩)] T_api_Ans)) fun w14 => (∃ x15 : Int, World.cell? w14 ⟨b11, 1, none⟩ = some (.int .i64 x15) ∧ (Runs Try.prog api_MemSig.id #[(.int .i64 x15)] w14 fun r16 w17 => (∃ x18 : Int, ∃ x19 : Int, ∃ x20 : Bool, (r16 = (.tuple #[(.int .i64 x18), (.int .u8 x19), (.bool x20)]) ∧ (∃ x21 : ByteArray, World.cell? w17 ⟨b11, 4, none⟩ = some (.string x21) ∧ (Runs Try.prog api_Word.id #[(.string x21), (.int .i64 0)] w17 fun r22 w23 => (∃ x24 : Int, (r22 = (.int .u64 x24) ∧ (∃ x25 : Int, World.cell? w23 ⟨b11, 0, none⟩ = some (.int .i64 x25) ∧ (cond (x25 == (1 : Int))
  (∃ x26 : Int, ∃ x27 : Int, ∃ x28 : Int, ∃ x29 : Int, ∃ x30 : ByteArray, ∃ x31 : ByteArray, World.cell? w23 ⟨b11, 0, none⟩ = some (.int .i64 x26) ∧ World.cell? w23 ⟨b11, 1, none⟩ = some (.int .i64 x27) ∧ World.cell? w23 ⟨b11, 2, none⟩ = some (.int .i64 x28) ∧ World.cell? w23 ⟨b11, 3, none⟩ = some (.int .i64 x29) ∧ World.cell? w23 ⟨b11, 4, none⟩ = some (.string x30) ∧ World.cell? w23 ⟨b11, 5, none⟩ = some (.string x31) ∧ (Runs Try.prog memlaw_BadReset.id #[(.agg #[(.int .i64 x26), (.int .i64 x27), (.int .i64 x28), (.int .i64 x29), (.string x30), (.string x31)]), (.int .i64 r_1)] w23 fun r32 w33 => (∃ x34 : Bool, (r32 = (.bool x34) ∧ (cond x34
  (putCells w33 ⟨b13, 0, none⟩ [(.int .i64 36), (.int .i64 0), (.int .i64 0), (.string ⟨#[]⟩)] fun w35 => ((∃ x36 : Int, ∃ x37 : Int, ∃ x38 : Int, ∃ x39 : ByteArray, World.cell? w35 ⟨b13, 0, none⟩ = some (.int .i64 x36) ∧ World.cell? w35 ⟨b13, 1, none⟩ = some (.int .i64 x37) ∧ World.cell? w35 ⟨b13, 2, none⟩ = some (.int .i64 x38) ∧ World.cell? w35 ⟨b13, 3, none⟩ = some (.string x39) ∧ R (.agg #[(.int .i64 x36), (.int .i64 x37), (.int .i64 x38), (.string x39)]) w35)))
  (∃ x40 : Int, World.cell? w33 ⟨b11, 1, none⟩ = some (.int .i64 x40) ∧ (nilV g_0 fun a41 => (can w33 a41 ∧ letW (World.setCell w33 a41 (.bool (decide (x40 ≥ (0 : Int))))) fun w42 => (nilV g_0 fun a43 => (can w42 ⟨(Addr.block a43), (Addr.off a43 + 1), none⟩ ∧ letW (World.setCell w42 ⟨(Addr.block a43), (Addr.off a43 + 1), none⟩ (.int .i64 0)) fun w44 => (nilV g_0 fun a45 => (can w44 ⟨(Addr.block a45), (Addr.off a45 + 2), none⟩ ∧ letW (World.setCell w44 ⟨(Addr.block a45), (Addr.off a45 + 2), none⟩ (.int .i64 0)) fun w46 => (nilV g_0 fun a47 => (can w46 ⟨(Addr.block a47), (Addr.off a47 + 3), none⟩ ∧ letW (World.setCell w46 ⟨(Addr.block a47), (Addr.off a47 + 3), none⟩ (.int .i64 0)) fun w48 => (nilV g_0 fun a49 => (∃ x50 : Bool, World.cell? w48 a49 = some (.bool x50) ∧ (cond x50
  (nilV g_0 fun a51 => (can w48 ⟨(Addr.block a51), (Addr.off a51 + 2), none⟩ ∧ letW (World.setCell w48 ⟨(Addr.block a51), (Addr.off a51 + 2), none⟩ (.int .i64 384)) fun w52 => (∃ x53 : Int, World.cell? w52 ⟨b11, 1, none⟩ = some (.int .i64 x53) ∧ (Runs Try.prog memlaw_More.id #[(.pointer g_0), (.int .i64 (IntKind.wrap .i64 (x53 * (64 : Int))))] w52 fun r54 w55 => (r54 = (.tuple #[]) ∧ (memlaw_Owed.L1 g_0 r_1 b11 b13 R w55))))))
  (memlaw_Owed.L1 g_0 r_1 b11 b13 R w48))))))))))))))))))
  (cond (x25 == (2 : Int))
  (nilV g_0 fun a58 => (∃ x59 : Int, World.cell? w23 ⟨(Addr.block a58), (Addr.off a58 + 1), none⟩ = some (.int .i64 x59) ∧ (putCells w23 ⟨b13, 0, none⟩ [(.int .i64 0), (.int .i64 (IntKind.wrap .i64 (Int.tdiv x59 64))), (.int .i64 0), (.string ⟨#[]⟩)] fun w60 => ((∃ x61 : Int, ∃ x62 : Int, ∃ x63 : Int, ∃ x64 : ByteArray, World.cell? w60 ⟨b13, 0, none⟩ = some (.int .i64 x61) ∧ World.cell? w60 ⟨b13, 1, none⟩ = some (.int .i64 x62) ∧ World.cell? w60 ⟨b13, 2, none⟩ = some (.int .i64 x63) ∧ World.cell? w60 ⟨b13, 3, none⟩ = some (.string x64) ∧ R (.agg #[(.int .i64 x61), (.int .i64 x62), (.int .i64 x63), (.string x64)]) w60)))))
  (cond (x25 == (3 : Int))
  (nilV g_0 fun a65 => (∃ x66 : Int, World.cell? w23 ⟨(Addr.block a65), (Addr.off a65 + 1), none⟩ = some (.int .i64 x66) ∧ ((World.drew w23) = (World.drew w23) ∧ (nilV g_0 fun a67 => ((World.drew w23) = (World.drew w23) ∧ ((World.drew w23) = (World.drew w23) ∧ (∃ x68 : Bool, World.cell? (World.drew w23) a67 = some (.bool x68) ∧ ((World.drew w23) = (World.drew w23) ∧ ((World.drew w23) = (World.drew w23) ∧ ((World.drew w23) = (World.drew w23) ∧ (cond (!x68)
  ((World.drew w23) = (World.drew w23) ∧ (memlaw_Owed.L2 g_0 at_3 b13 (IntKind.wrap .i64 (Int.tdiv x66 64)) true R (World.drew w23)))
  ((World.drew w23) = (World.drew w23) ∧ (nilV g_0 fun a73 => ((World.drew w23) = (World.drew w23) ∧ ((World.drew w23) = (World.drew w23) ∧ (∃ x74 : Int, World.cell? (World.drew w23) ⟨(Addr.block a73), (Addr.off a73 + 1), none⟩ = some (.int .i64 x74) ∧ ((World.drew w23) = (World.drew w23) ∧ ((World.drew w23) = (World.drew w23) ∧ ((World.drew w23) = (World.drew w23) ∧ ((World.drew w23) = (World.drew w23) ∧ ((World.drew w23) = (World.drew w23) ∧ (nilV g_0 fun a75 => ((World.drew w23) = (World.drew w23) ∧ ((World.drew w23) = (World.drew w23) ∧ (∃ x76 : Int, World.cell? (World.drew w23) ⟨(Addr.block a75), (Addr.off a75 + 2), none⟩ = some (.int .i64 x76) ∧ ((World.drew w23) = (World.drew w23) ∧ ((World.drew w23) = (World.drew w23) ∧ ((World.drew w23) = (World.drew w23) ∧ (memlaw_Owed.L2 g_0 at_3 b13 (IntKind.wrap .i64 (Int.tdiv x66 64)) (decide ((IntKind.wrap .i64 (x74 + (IntKind.wrap .i64 (at_3 * (64 : Int))))) > x76)) R (World.drew w23))))))))))))))))))))))))))))))
  (cond (x25 == (4 : Int))
  (∃ x77 : Int, World.cell? w23 ⟨b11, 1, none⟩ = some (.int .i64 x77) ∧ (Runs Try.prog memlaw_Owes.id #[(.pointer g_0), (.int .i64 x77), (.int .i64 ea_4)] w23 fun r78 w79 => (∃ x80 : Int, ∃ x81 : Int, ∃ x82 : Int, ∃ x83 : ByteArray, (r78 = (.agg #[(.int .i64 x80), (.int .i64 x81), (.int .i64 x82), (.string x83)]) ∧ (putCells w79 ⟨b13, 0, none⟩ [(.int .i64 x80), (.int .i64 x81), (.int .i64 x82), (.string x83)] fun w84 => ((∃ x85 : Int, ∃ x86 : Int, ∃ x87 : Int, ∃ x88 : ByteArray, World.cell? w84 ⟨b13, 0, none⟩ = some (.int .i64 x85) ∧ World.cell? w84 ⟨b13, 1, none⟩ = some (.int .i64 x86) ∧ World.cell? w84 ⟨b13, 2, none⟩ = some (.int .i64 x87) ∧ World.cell? w84 ⟨b13, 3, none⟩ = some (.string x88) ∧ R (.agg #[(.int .i64 x85), (.int .i64 x86), (.int .i64 x87), (.string x88)]) w84)))))))
  (cond (x25 == (5 : Int))
  (cond (x18 == (0 : Int))
  (memlaw_Owed.L3 g_0 ea_4 b13 x18 x24 true R w23)
  (∃ x94 : Int, World.cell? w23 ⟨b11, 1, none⟩ = some (.int .i64 x94) ∧ (memlaw_Owed.L3 g_0 ea_4 b13 x18 x24 (decide (x94 < (54 : Int))) R w23)))
  (cond (x25 == (6 : Int))
  ((World.drew w23) = (World.drew w23) ∧ (∃ x95 : Int, World.cell? (World.drew w23) ⟨b11, 2, none⟩ = some (.int .i64 x95) ∧ ((World.drew w23) = (World.drew w23) ∧ ((World.drew w23) = (World.drew w23) ∧ ((World.drew w23) = (World.drew w23) ∧ (cond (decide (x95 ≥ (0 : Int)))
  ((World.drew w23) = (World.drew w23) ∧ (∃ x96 : Int, World.cell? (World.drew w23) ⟨b11, 2, none⟩ = some (.int .i64 x96) ∧ ((World.drew w23) = (World.drew w23) ∧ ((World.drew w23) = (World.drew w23) ∧ (nilV g_0 fun a97 => ((World.drew w23) = (World.drew w23) ∧ ((World.drew w23) = (World.drew w23) ∧ (∃ x98 : Int, World.cell? (World.drew w23) ⟨(Addr.block a97), (Addr.off a97 + 1), none⟩ = some (.int .i64 x98) ∧ ((World.drew w23) = (World.drew w23) ∧ ((World.drew w23) = (World.drew w23) ∧ ((World.drew w23) = (World.drew w23) ∧ ((World.drew w23) = (World.drew w23) ∧ (cond (decide (x96 ≤ x98))
  ((World.drew w23) = (World.drew w23) ∧ ((World.drew w23) = (World.drew w23) ∧ (∃ x99 : Int, World.cell? (World.drew w23) ⟨b11, 2, none⟩ = some (.int .i64 x99) ∧ ((World.drew w23) = (World.drew w23) ∧ ((World.drew w23) = (World.drew w23) ∧ ((World.drew w23) = (World.drew w23) ∧ (nilV g_0 fun a100 => ((World.drew w23) = (World.drew w23) ∧ ((World.drew w23) = (World.drew w23) ∧ (∃ x101 : Int, World.cell? (World.drew w23) ⟨(Addr.block a100), (Addr.off a100 + 1), none⟩ = some (.int .i64 x101) ∧ ((World.drew w23) = (World.drew w23) ∧ ((World.drew w23) = (World.drew w23) ∧ ((World.drew w23) = (World.drew w23) ∧ (memlaw_Owed.L4 b13 (decide ((IntKind.wrap .i64 (at_3 + x99)) ≤ x101)) R (World.drew w23)))))))))))))))
  ((World.drew w23) = (World.drew w23) ∧ (memlaw_Owed.L4 b13 false R (World.drew w23))))))))))))))))
  ((World.drew w23) = (World.drew w23) ∧ ((World.drew w23) = (World.drew w23) ∧ ((World.drew w23) = (World.drew w23) ∧ (memlaw_Owed.L4 b13 false R (World.drew w23)))))))))))
  (cond (x25 == (7 : Int))
  (∃ x103 : ByteArray, World.cell? w23 ⟨b11, 4, none⟩ = some (.string x103) ∧ (cond (decide (((ByteArray.size x103 : Nat) : Int) > (24 : Int)))
  (putCells w23 ⟨b13, 0, none⟩ [(.int .i64 1), (.int .i64 0), (.int .i64 0), (.string ⟨#[]⟩)] fun w104 => ((∃ x105 : Int, ∃ x106 : Int, ∃ x107 : Int, ∃ x108 : ByteArray, World.cell? w104 ⟨b13, 0, none⟩ = some (.int .i64 x105) ∧ World.cell? w104 ⟨b13, 1, none⟩ = some (.int .i64 x106) ∧ World.cell? w104 ⟨b13, 2, none⟩ = some (.int .i64 x107) ∧ World.cell? w104 ⟨b13, 3, none⟩ = some (.string x108) ∧ R (.agg #[(.int .i64 x105), (.int .i64 x106), (.int .i64 x107), (.string x108)]) w104)))
  ((World.drew w23) = (World.drew w23) ∧ ((World.drew w23) = (World.drew w23) ∧ (∃ x109 : ByteArray, World.cell? (World.drew w23) ⟨b11, 4, none⟩ = some (.string x109) ∧ ((World.drew w23) = (World.drew w23) ∧ ((World.drew w23) = (World.drew w23) ∧ ((World.drew w23) = (World.drew w23) ∧ ((World.drew w23) = (World.drew w23) ∧ (nilV g_0 fun a110 => ((World.drew w23) = (World.drew w23) ∧ ((World.drew w23) = (World.drew w23) ∧ (∃ x111 : Int, World.cell? (World.drew w23) ⟨(Addr.block a110), (Addr.off a110 + 1), none⟩ = some (.int .i64 x111) ∧ ((World.drew w23) = (World.drew w23) ∧ ((World.drew w23) = (World.drew w23) ∧ (cond (decide ((IntKind.wrap .i64 (at_3 + ((ByteArray.size x109 : Nat) : Int))) > x111))
  (putCells (World.drew w23) ⟨b13, 0, none⟩ [(.int .i64 31), (.int .i64 0), (.int .i64 0), (.string ⟨#[]⟩)] fun w112 => ((∃ x113 : Int, ∃ x114 : Int, ∃ x115 : Int, ∃ x116 : ByteArray, World.cell? w112 ⟨b13, 0, none⟩ = some (.int .i64 x113) ∧ World.cell? w112 ⟨b13, 1, none⟩ = some (.int .i64 x114) ∧ World.cell? w112 ⟨b13, 2, none⟩ = some (.int .i64 x115) ∧ World.cell? w112 ⟨b13, 3, none⟩ = some (.string x116) ∧ R (.agg #[(.int .i64 x113), (.int .i64 x114), (.int .i64 x115), (.string x116)]) w112)))
  (memlaw_Owed.L5 g_0 at_3 b11 b13 0 R (World.drew w23))))))))))))))))))
  (cond (x25 == (8 : Int))
  (nilV g_0 fun a120 => (∃ x121 : Int, World.cell? w23 ⟨(Addr.block a120), (Addr.off a120 + 3), none⟩ = some (.int .i64 x121) ∧ (putCells w23 ⟨b13, 0, none⟩ [(.int .i64 0), (.int .i64 x121), (.int .i64 0), (.string ⟨#[]⟩)] fun w122 => ((∃ x123 : Int, ∃ x124 : Int, ∃ x125 : Int, ∃ x126 : ByteArray, World.cell? w122 ⟨b13, 0, none⟩ = some (.int .i64 x123) ∧ World.cell? w122 ⟨b13, 1, none⟩ = some (.int .i64 x124) ∧ World.cell? w122 ⟨b13, 2, none⟩ = some (.int .i64 x125) ∧ World.cell? w122 ⟨b13, 3, none⟩ = some (.string x126) ∧ R (.agg #[(.int .i64 x123), (.int .i64 x124), (.int .i64 x125), (.string x126)]) w122)))))
  (cond (x25 == (10 : Int))
  (∃ x127 : Int, World.cell? w23 ⟨b11, 2, none⟩ = some (.int .i64 x127) ∧ (cond (decide (x127 < (0 : Int)))
  (putCells w23 ⟨b13, 0, none⟩ [(.int .i64 36), (.int .i64 0), (.int .i64 0), (.string ⟨#[]⟩)] fun w128 => ((∃ x129 : Int, ∃ x130 : Int, ∃ x131 : Int, ∃ x132 : ByteArray, World.cell? w128 ⟨b13, 0, none⟩ = some (.int .i64 x129) ∧ World.cell? w128 ⟨b13, 1, none⟩ = some (.int .i64 x130) ∧ World.cell? w128 ⟨b13, 2, none⟩ = some (.int .i64 x131) ∧ World.cell? w128 ⟨b13, 3, none⟩ = some (.string x132) ∧ R (.agg #[(.int .i64 x129), (.int .i64 x130), (.int .i64 x131), (.string x132)]) w128)))
  (nilV g_0 fun a133 => (∃ x134 : Int, World.cell? w23 ⟨(Addr.block a133), (Addr.off a133 + 3), none⟩ = some (.int .i64 x134) ∧ (cond (decide (at_3 ≥ x134))
  (putCells w23 ⟨b13, 0, none⟩ [(.int .i64 31), (.int .i64 0), (.int .i64 0), (.string ⟨#[]⟩)] fun w135 => ((∃ x136 : Int, ∃ x137 : Int, ∃ x138 : Int, ∃ x139 : ByteArray, World.cell? w135 ⟨b13, 0, none⟩ = some (.int .i64 x136) ∧ World.cell? w135 ⟨b13, 1, none⟩ = some (.int .i64 x137) ∧ World.cell? w135 ⟨b13, 2, none⟩ = some (.int .i64 x138) ∧ World.cell? w135 ⟨b13, 3, none⟩ = some (.string x139) ∧ R (.agg #[(.int .i64 x136), (.int .i64 x137), (.int .i64 x138), (.string x139)]) w135)))
  ((World.drew w23) = (World.drew w23) ∧ ((World.drew w23) = (World.drew w23) ∧ ((World.drew w23) = (World.drew w23) ∧ (∃ x140 : Int, World.cell? (World.drew w23) ⟨b11, 2, none⟩ = some (.int .i64 x140) ∧ ((World.drew w23) = (World.drew w23) ∧ (nilV g_0 fun a141 => ((World.drew w23) = (World.drew w23) ∧ ((World.drew w23) = (World.drew w23) ∧ ((0 ≤ at_3 ∧ at_3 < ((8 : Nat) : Int)) ∧ ((World.drew w23) = (World.drew w23) ∧ (can (World.drew w23) (Addr.add ⟨(Addr.block a141), (Addr.off a141 + 6), none⟩ (Int.toNat at_3 * 1)) ∧ letW (World.setCell (World.drew w23) (Addr.add ⟨(Addr.block a141), (Addr.off a141 + 6), none⟩ (Int.toNat at_3 * 1)) (.int .i64 x140)) fun w142 => (memlaw_Owed.L6 b13 R w142)))))))))))))))))
  (cond (x25 == (9 : Int))
  (nilV g_0 fun a143 => (∃ x144 : Int, World.cell? w23 ⟨(Addr.block a143), (Addr.off a143 + 3), none⟩ = some (.int .i64 x144) ∧ (cond (decide (at_3 ≥ x144))
  (memlaw_Owed.L7 g_0 at_3 b13 true R w23)
  (nilV g_0 fun a148 => ((0 ≤ at_3 ∧ at_3 < ((8 : Nat) : Int)) ∧ (∃ x149 : Int, World.cell? w23 (Addr.add ⟨(Addr.block a148), (Addr.off a148 + 6), none⟩ (Int.toNat at_3 * 1)) = some (.int .i64 x149) ∧ (memlaw_Owed.L7 g_0 at_3 b13 (decide (x149 < (0 : Int))) R w23)))))))
  (cond (x25 == (11 : Int))
  ((World.drew w23) = (World.drew w23) ∧ (∃ x150 : Int, World.cell? (World.drew w23) ⟨b11, 1, none⟩ = some (.int .i64 x150) ∧ ((World.drew w23) = (World.drew w23) ∧ ((World.drew w23) = (World.drew w23) ∧ ((World.drew w23) = (World.drew w23) ∧ (cond (decide (x150 < (0 : Int)))
  ((World.drew w23) = (World.drew w23) ∧ (memlaw_Owed.L8 g_0 b11 b13 true R (World.drew w23)))
  ((World.drew w23) = (World.drew w23) ∧ (∃ x153 : Int, World.cell? (World.drew w23) ⟨b11, 1, none⟩ = some (.int .i64 x153) ∧ ((World.drew w23) = (World.drew w23) ∧ ((World.drew w23) = (World.drew w23) ∧ (nilV g_0 fun a154 => ((World.drew w23) = (World.drew w23) ∧ ((World.drew w23) = (World.drew w23) ∧ (∃ x155 : Int, World.cell? (World.drew w23) ⟨(Addr.block a154), (Addr.off a154 + 4), none⟩ = some (.int .i64 x155) ∧ ((World.drew w23) = (World.drew w23) ∧ ((World.drew w23) = (World.drew w23) ∧ ((World.drew w23) = (World.drew w23) ∧ (memlaw_Owed.L8 g_0 b11 b13 (decide (x153 ≥ x155)) R (World.drew w23)))))))))))))))))))
  (cond (x25 == (13 : Int))
  ((World.drew w23) = (World.drew w23) ∧ (∃ x156 : Int, World.cell? (World.drew w23) ⟨b11, 1, none⟩ = some (.int .i64 x156) ∧ ((World.drew w23) = (World.drew w23) ∧ ((World.drew w23) = (World.drew w23) ∧ ((World.drew w23) = (World.drew w23) ∧ (cond (decide (x156 < (0 : Int)))
  ((World.drew w23) = (World.drew w23) ∧ (memlaw_Owed.L9 g_0 b11 b13 x24 true R (World.drew w23)))
  ((World.drew w23) = (World.drew w23) ∧ (∃ x160 : Int, World.cell? (World.drew w23) ⟨b11, 1, none⟩ = some (.int .i64 x160) ∧ ((World.drew w23) = (World.drew w23) ∧ ((World.drew w23) = (World.drew w23) ∧ (nilV g_0 fun a161 => ((World.drew w23) = (World.drew w23) ∧ ((World.drew w23) = (World.drew w23) ∧ (∃ x162 : Int, World.cell? (World.drew w23) ⟨(Addr.block a161), (Addr.off a161 + 4), none⟩ = some (.int .i64 x162) ∧ ((World.drew w23) = (World.drew w23) ∧ ((World.drew w23) = (World.drew w23) ∧ ((World.drew w23) = (World.drew w23) ∧ (memlaw_Owed.L9 g_0 b11 b13 x24 (decide (x160 ≥ x162)) R (World.drew w23)))))))))))))))))))
  (cond (x25 == (15 : Int))
  (putCells w23 ⟨b13, 0, none⟩ [(.int .i64 0), (.int .i64 1), (.int .i64 0), (.string ⟨#[]⟩)] fun w163 => ((∃ x164 : Int, ∃ x165 : Int, ∃ x166 : Int, ∃ x167 : ByteArray, World.cell? w163 ⟨b13, 0, none⟩ = some (.int .i64 x164) ∧ World.cell? w163 ⟨b13, 1, none⟩ = some (.int .i64 x165) ∧ World.cell? w163 ⟨b13, 2, none⟩ = some (.int .i64 x166) ∧ World.cell? w163 ⟨b13, 3, none⟩ = some (.string x167) ∧ R (.agg #[(.int .i64 x164), (.int .i64 x165), (.int .i64 x166), (.string x167)]) w163)))
  (memlaw_Owed.L6 b13 R w23)))))))))))))))))))))))))
theorem memlaw_Owed.enter (g_0 : Option Addr) (r_1 : Int) (o_2_3 : Int) (o_2_4 : Int) (o_2_5 : Int) (o_2_6 : Int) (o_2_7 : ByteArray) (o_2_8 : ByteArray) (at_3 : Int) (ea_4 : Int) (R : Value → World → Prop) (w : World) (h : memlaw_Owed.V g_0 r_1 o_2_3 o_2_4 o_2_5 o_2_6 o_2_7 o_2_8 at_3 ea_4 R w) : Runs Try.prog memlaw_Owed.id #[(.pointer g_0), (.int .i64 r_1), (.agg #[(.int .i64 o_2_3), (.int .i64 o_2_4), (.int .i64 o_2_5), (.int .i64 o_2_6), (.string o_2_7), (.string o_2_8)]), (.int .i64 at_3), (.int .i64 ea_4)] w R :=
  Runs.enter (c := bodyOf Try.f24) (N := 371) Try.func24 (by kernel_rfl) (by kernel_rfl) (by kernel_rfl) (seg_T good mixed Try.func24 600 false [.code (bodyOf Try.f24)] [(0, (.pointer g_0)), (1, (.int .i64 r_1)), (2, (.agg #[(.int .i64 o_2_3), (.int .i64 o_2_4), (.int .i64 o_2_5), (.int .i64 o_2_6), (.string o_2_7), (.string o_2_8)])), (3, (.int .i64 at_3)), (4, (.int .i64 ea_4))] w (Eq.mp (show memlaw_Owed.V g_0 r_1 o_2_3 o_2_4 o_2_5 o_2_6 o_2_7 o_2_8 at_3 ea_4 R w = seg Try.prog 24 371 Try.f24.results.toList memlaw_Owed.cuts R 600 false [.code (bodyOf Try.f24)] [(0, (.pointer g_0)), (1, (.int .i64 r_1)), (2, (.agg #[(.int .i64 o_2_3), (.int .i64 o_2_4), (.int .i64 o_2_5), (.int .i64 o_2_6), (.string o_2_7), (.string o_2_8)])), (3, (.int .i64 at_3)), (4, (.int .i64 ea_4))] w by kernel_rfl) h))

/-! e2e/memlaw.Shown -/
def memlaw_Shown.cuts : List (Nat × List Nat) := [(7, [0, 3, 4]), (19, [0, 3, 6])]
def memlaw_Shown.L1 (g_0 : Option Addr) (s_3 : ByteArray) (i_4 : Int) (R : Value → World → Prop) (w : World) : Prop :=
  T Try.prog 25 51 [.inLoop (sub (bodyOf Try.f25) [1, 1, 0, 1, 0, 0]), .inBlock 0, .code (sub (bodyOf Try.f25) [1, 1, 1])] [(0, (.pointer g_0)), (3, (.string s_3)), (4, (.int .i64 i_4))] w R
def memlaw_Shown.L2 (g_0 : Option Addr) (s_3 : ByteArray) (i_6 : Int) (R : Value → World → Prop) (w : World) : Prop :=
  T Try.prog 25 51 [.inLoop (sub (bodyOf Try.f25) [1, 1, 1, 1, 0, 1, 0, 0]), .inBlock 2, .code (sub (bodyOf Try.f25) [1, 1, 1, 1, 1])] [(0, (.pointer g_0)), (3, (.string s_3)), (6, (.int .i64 i_6))] w R
def memlaw_Shown.V1 (g_0 : Option Addr) (s_3 : ByteArray) (i_4 : Int) (R : Value → World → Prop) (w : World) : Prop :=
  (nilV g_0 fun a1 => (∃ x2 : Int, World.cell? w ⟨(Addr.block a1), (Addr.off a1 + 3), none⟩ = some (.int .i64 x2) ∧ (cond (decide (i_4 < x2))
  (nilV g_0 fun a3 => ((0 ≤ i_4 ∧ i_4 < ((8 : Nat) : Int)) ∧ (∃ x4 : Int, World.cell? w (Addr.add ⟨(Addr.block a3), (Addr.off a3 + 6), none⟩ (Int.toNat i_4 * 1)) = some (.int .i64 x4) ∧ (Runs Try.prog api_Itoa.id #[(.int .i64 x4)] w fun r5 w6 => (∃ x7 : ByteArray, (r5 = (.string x7) ∧ (((ByteArray.size s_3 + ByteArray.size ⟨#[32]⟩ : Nat) : Int) ≤ 9223372036854775807 ∧ (((ByteArray.size (s_3 ++ (⟨#[32]⟩ : ByteArray)) + ByteArray.size x7 : Nat) : Int) ≤ 9223372036854775807 ∧ (memlaw_Shown.L1 g_0 ((s_3 ++ (⟨#[32]⟩ : ByteArray)) ++ x7) (IntKind.wrap .i64 (i_4 + (1 : Int))) R w6)))))))))
  (((ByteArray.size s_3 + ByteArray.size ⟨#[32, 103, 108, 111, 98]⟩ : Nat) : Int) ≤ 9223372036854775807 ∧ (memlaw_Shown.L2 g_0 (s_3 ++ (⟨#[32, 103, 108, 111, 98]⟩ : ByteArray)) 0 R w)))))
theorem memlaw_Shown.step1 (g_0 : Option Addr) (s_3 : ByteArray) (i_4 : Int) (R : Value → World → Prop) (w : World) (h : memlaw_Shown.V1 g_0 s_3 i_4 R w) : memlaw_Shown.L1 g_0 s_3 i_4 R w :=
  seg_T good mixed Try.func25 600 false [.inLoop (sub (bodyOf Try.f25) [1, 1, 0, 1, 0, 0]), .inBlock 0, .code (sub (bodyOf Try.f25) [1, 1, 1])] [(0, (.pointer g_0)), (3, (.string s_3)), (4, (.int .i64 i_4))] w (Eq.mp (show memlaw_Shown.V1 g_0 s_3 i_4 R w = seg Try.prog 25 51 Try.f25.results.toList memlaw_Shown.cuts R 600 false [.inLoop (sub (bodyOf Try.f25) [1, 1, 0, 1, 0, 0]), .inBlock 0, .code (sub (bodyOf Try.f25) [1, 1, 1])] [(0, (.pointer g_0)), (3, (.string s_3)), (4, (.int .i64 i_4))] w by kernel_rfl) h)
def memlaw_Shown.V2 (g_0 : Option Addr) (s_3 : ByteArray) (i_6 : Int) (R : Value → World → Prop) (w : World) : Prop :=
  (nilV g_0 fun a1 => (∃ x2 : Int, World.cell? w ⟨(Addr.block a1), (Addr.off a1 + 4), none⟩ = some (.int .i64 x2) ∧ (cond (decide (i_6 < x2))
  (nilV g_0 fun a3 => ((0 ≤ i_6 ∧ i_6 < ((4 : Nat) : Int)) ∧ (∃ x4 : Int, World.cell? w (Addr.add ⟨(Addr.block a3), (Addr.off a3 + 14), none⟩ (Int.toNat i_6 * 1)) = some (.int .u64 x4) ∧ (Runs Try.prog api_Hex.id #[(.int .u64 x4), (.int .i64 16)] w fun r5 w6 => (∃ x7 : ByteArray, (r5 = (.string x7) ∧ (((ByteArray.size s_3 + ByteArray.size ⟨#[32]⟩ : Nat) : Int) ≤ 9223372036854775807 ∧ (((ByteArray.size (s_3 ++ (⟨#[32]⟩ : ByteArray)) + ByteArray.size x7 : Nat) : Int) ≤ 9223372036854775807 ∧ (memlaw_Shown.L2 g_0 ((s_3 ++ (⟨#[32]⟩ : ByteArray)) ++ x7) (IntKind.wrap .i64 (i_6 + (1 : Int))) R w6)))))))))
  (R (.string s_3) w))))
theorem memlaw_Shown.step2 (g_0 : Option Addr) (s_3 : ByteArray) (i_6 : Int) (R : Value → World → Prop) (w : World) (h : memlaw_Shown.V2 g_0 s_3 i_6 R w) : memlaw_Shown.L2 g_0 s_3 i_6 R w :=
  seg_T good mixed Try.func25 600 false [.inLoop (sub (bodyOf Try.f25) [1, 1, 1, 1, 0, 1, 0, 0]), .inBlock 2, .code (sub (bodyOf Try.f25) [1, 1, 1, 1, 1])] [(0, (.pointer g_0)), (3, (.string s_3)), (6, (.int .i64 i_6))] w (Eq.mp (show memlaw_Shown.V2 g_0 s_3 i_6 R w = seg Try.prog 25 51 Try.f25.results.toList memlaw_Shown.cuts R 600 false [.inLoop (sub (bodyOf Try.f25) [1, 1, 1, 1, 0, 1, 0, 0]), .inBlock 2, .code (sub (bodyOf Try.f25) [1, 1, 1, 1, 1])] [(0, (.pointer g_0)), (3, (.string s_3)), (6, (.int .i64 i_6))] w by kernel_rfl) h)
def memlaw_Shown.V (g_0 : Option Addr) (R : Value → World → Prop) (w : World) : Prop :=
  (Runs Try.prog memlaw_Mem.id #[(.pointer g_0)] w fun r2 w3 => (∃ x4 : ByteArray, (r2 = (.string x4) ∧ (memlaw_Shown.L1 g_0 x4 0 R w3))))
theorem memlaw_Shown.enter (g_0 : Option Addr) (R : Value → World → Prop) (w : World) (h : memlaw_Shown.V g_0 R w) : Runs Try.prog memlaw_Shown.id #[(.pointer g_0)] w R :=
  Runs.enter (c := bodyOf Try.f25) (N := 51) Try.func25 (by kernel_rfl) (by kernel_rfl) (by kernel_rfl) (seg_T good mixed Try.func25 600 false [.code (bodyOf Try.f25)] [(0, (.pointer g_0))] w (Eq.mp (show memlaw_Shown.V g_0 R w = seg Try.prog 25 51 Try.f25.results.toList memlaw_Shown.cuts R 600 false [.code (bodyOf Try.f25)] [(0, (.pointer g_0))] w by kernel_rfl) h))

/-! e2e/memlaw.Owes -/
def memlaw_Owes.cuts : List (Nat × List Nat) := [(6, [0, 2, 6, 7, 8, 9, 23]), (18, [0, 2, 6, 7, 8, 10]), (21, [0, 2, 6, 8, 10, 11])]
def memlaw_Owes.L1 (g_0 : Option Addr) (ea_2 : Int) (t_6 : Nat) (w_7 : Int) (t_8 : Int) (signed_9 : Bool) (t_23 : Bool) (R : Value → World → Prop) (w : World) : Prop :=
  T Try.prog 26 73 [.code (sub (bodyOf Try.f26) [1, 1, 0, 1]), .code (sub (bodyOf Try.f26) [1, 1, 1])] [(0, (.pointer g_0)), (2, (.int .i64 ea_2)), (6, (.pointer (some ⟨t_6, 0, none⟩))), (7, (.int .i64 w_7)), (8, (.int .u8 t_8)), (9, (.bool signed_9)), (23, (.bool t_23))] w R
def memlaw_Owes.L2 (g_0 : Option Addr) (ea_2 : Int) (t_6 : Nat) (w_7 : Int) (t_8 : Int) (v_10 : Int) (R : Value → World → Prop) (w : World) : Prop :=
  T Try.prog 26 73 [.code (sub (bodyOf Try.f26) [1, 1, 1, 1, 1, 1])] [(0, (.pointer g_0)), (2, (.int .i64 ea_2)), (6, (.pointer (some ⟨t_6, 0, none⟩))), (7, (.int .i64 w_7)), (8, (.int .u8 t_8)), (10, (.int .u64 v_10))] w R
def memlaw_Owes.L3 (g_0 : Option Addr) (ea_2 : Int) (t_6 : Nat) (t_8 : Int) (v_10 : Int) (k_11 : Int) (R : Value → World → Prop) (w : World) : Prop :=
  T Try.prog 26 73 [.inLoop (sub (bodyOf Try.f26) [1, 1, 1, 1, 1, 1, 0, 1, 0, 0]), .inBlock 0, .code (sub (bodyOf Try.f26) [1, 1, 1, 1, 1, 1, 1])] [(0, (.pointer g_0)), (2, (.int .i64 ea_2)), (6, (.pointer (some ⟨t_6, 0, none⟩))), (8, (.int .u8 t_8)), (10, (.int .u64 v_10)), (11, (.int .i64 k_11))] w R
def memlaw_Owes.V1 (g_0 : Option Addr) (ea_2 : Int) (t_6 : Nat) (w_7 : Int) (t_8 : Int) (signed_9 : Bool) (t_23 : Bool) (R : Value → World → Prop) (w : World) : Prop :=
  (cond t_23
  (putCells w ⟨t_6, 0, none⟩ [(.int .i64 35), (.int .i64 0), (.int .i64 0), (.string ⟨#[]⟩)] fun w1 => ((∃ x2 : Int, ∃ x3 : Int, ∃ x4 : Int, ∃ x5 : ByteArray, World.cell? w1 ⟨t_6, 0, none⟩ = some (.int .i64 x2) ∧ World.cell? w1 ⟨t_6, 1, none⟩ = some (.int .i64 x3) ∧ World.cell? w1 ⟨t_6, 2, none⟩ = some (.int .i64 x4) ∧ World.cell? w1 ⟨t_6, 3, none⟩ = some (.string x5) ∧ R (.agg #[(.int .i64 x2), (.int .i64 x3), (.int .i64 x4), (.string x5)]) w1)))
  (nilV g_0 fun a6 => (∃ x7 : Int, World.cell? w ⟨(Addr.block a6), (Addr.off a6 + 1), none⟩ = some (.int .i64 x7) ∧ (cond (decide ((IntKind.wrap .i64 (ea_2 + w_7)) > x7))
  (putCells w ⟨t_6, 0, none⟩ [(.int .i64 42), (.int .i64 0), (.int .i64 0), (.string ⟨#[]⟩)] fun w8 => ((∃ x9 : Int, ∃ x10 : Int, ∃ x11 : Int, ∃ x12 : ByteArray, World.cell? w8 ⟨t_6, 0, none⟩ = some (.int .i64 x9) ∧ World.cell? w8 ⟨t_6, 1, none⟩ = some (.int .i64 x10) ∧ World.cell? w8 ⟨t_6, 2, none⟩ = some (.int .i64 x11) ∧ World.cell? w8 ⟨t_6, 3, none⟩ = some (.string x12) ∧ R (.agg #[(.int .i64 x9), (.int .i64 x10), (.int .i64 x11), (.string x12)]) w8)))
  (cond signed_9
  (nilV g_0 fun a13 => (∃ x14 : Option Addr, ∃ x15 : Nat, ∃ x16 : Nat, World.cell? w ⟨(Addr.block a13), (Addr.off a13 + 5), none⟩ = some (.slice x14 x15 x16) ∧ ((0 ≤ (IntKind.wrap .i64 ((IntKind.wrap .i64 (ea_2 + w_7)) - (1 : Int))) ∧ (IntKind.wrap .i64 ((IntKind.wrap .i64 (ea_2 + w_7)) - (1 : Int))) < ((x15 : Nat) : Int)) ∧ nilV x14 fun a17 => (∃ x18 : Int, World.cell? w (Addr.add a17 (Int.toNat (IntKind.wrap .i64 ((IntKind.wrap .i64 (ea_2 + w_7)) - (1 : Int))) * 1)) = some (.int .u8 x18) ∧ (cond (decide (x18 ≥ (128 : Int)))
  (memlaw_Owes.L2 g_0 ea_2 t_6 w_7 t_8 18446744073709551615 R w)
  (memlaw_Owes.L2 g_0 ea_2 t_6 w_7 t_8 0 R w))))))
  (memlaw_Owes.L2 g_0 ea_2 t_6 w_7 t_8 0 R w))))))
theorem memlaw_Owes.step1 (g_0 : Option Addr) (ea_2 : Int) (t_6 : Nat) (w_7 : Int) (t_8 : Int) (signed_9 : Bool) (t_23 : Bool) (R : Value → World → Prop) (w : World) (h : memlaw_Owes.V1 g_0 ea_2 t_6 w_7 t_8 signed_9 t_23 R w) : memlaw_Owes.L1 g_0 ea_2 t_6 w_7 t_8 signed_9 t_23 R w :=
  seg_T good mixed Try.func26 600 false [.code (sub (bodyOf Try.f26) [1, 1, 0, 1]), .code (sub (bodyOf Try.f26) [1, 1, 1])] [(0, (.pointer g_0)), (2, (.int .i64 ea_2)), (6, (.pointer (some ⟨t_6, 0, none⟩))), (7, (.int .i64 w_7)), (8, (.int .u8 t_8)), (9, (.bool signed_9)), (23, (.bool t_23))] w (Eq.mp (show memlaw_Owes.V1 g_0 ea_2 t_6 w_7 t_8 signed_9 t_23 R w = seg Try.prog 26 73 Try.f26.results.toList memlaw_Owes.cuts R 600 false [.code (sub (bodyOf Try.f26) [1, 1, 0, 1]), .code (sub (bodyOf Try.f26) [1, 1, 1])] [(0, (.pointer g_0)), (2, (.int .i64 ea_2)), (6, (.pointer (some ⟨t_6, 0, none⟩))), (7, (.int .i64 w_7)), (8, (.int .u8 t_8)), (9, (.bool signed_9)), (23, (.bool t_23))] w by kernel_rfl) h)
def memlaw_Owes.V2 (g_0 : Option Addr) (ea_2 : Int) (t_6 : Nat) (w_7 : Int) (t_8 : Int) (v_10 : Int) (R : Value → World → Prop) (w : World) : Prop :=
  (memlaw_Owes.L3 g_0 ea_2 t_6 t_8 v_10 (IntKind.wrap .i64 (w_7 - (1 : Int))) R w)
theorem memlaw_Owes.step2 (g_0 : Option Addr) (ea_2 : Int) (t_6 : Nat) (w_7 : Int) (t_8 : Int) (v_10 : Int) (R : Value → World → Prop) (w : World) (h : memlaw_Owes.V2 g_0 ea_2 t_6 w_7 t_8 v_10 R w) : memlaw_Owes.L2 g_0 ea_2 t_6 w_7 t_8 v_10 R w :=
  seg_T good mixed Try.func26 600 false [.code (sub (bodyOf Try.f26) [1, 1, 1, 1, 1, 1])] [(0, (.pointer g_0)), (2, (.int .i64 ea_2)), (6, (.pointer (some ⟨t_6, 0, none⟩))), (7, (.int .i64 w_7)), (8, (.int .u8 t_8)), (10, (.int .u64 v_10))] w (Eq.mp (show memlaw_Owes.V2 g_0 ea_2 t_6 w_7 t_8 v_10 R w = seg Try.prog 26 73 Try.f26.results.toList memlaw_Owes.cuts R 600 false [.code (sub (bodyOf Try.f26) [1, 1, 1, 1, 1, 1])] [(0, (.pointer g_0)), (2, (.int .i64 ea_2)), (6, (.pointer (some ⟨t_6, 0, none⟩))), (7, (.int .i64 w_7)), (8, (.int .u8 t_8)), (10, (.int .u64 v_10))] w by kernel_rfl) h)
def memlaw_Owes.V3 (g_0 : Option Addr) (ea_2 : Int) (t_6 : Nat) (t_8 : Int) (v_10 : Int) (k_11 : Int) (R : Value → World → Prop) (w : World) : Prop :=
  (cond (decide (k_11 ≥ (0 : Int)))
  (nilV g_0 fun a1 => (∃ x2 : Option Addr, ∃ x3 : Nat, ∃ x4 : Nat, World.cell? w ⟨(Addr.block a1), (Addr.off a1 + 5), none⟩ = some (.slice x2 x3 x4) ∧ ((0 ≤ (IntKind.wrap .i64 (ea_2 + k_11)) ∧ (IntKind.wrap .i64 (ea_2 + k_11)) < ((x3 : Nat) : Int)) ∧ nilV x2 fun a5 => (∃ x6 : Int, World.cell? w (Addr.add a5 (Int.toNat (IntKind.wrap .i64 (ea_2 + k_11)) * 1)) = some (.int .u8 x6) ∧ (memlaw_Owes.L3 g_0 ea_2 t_6 t_8 (bOr .u64 (IntKind.wrap .u64 (v_10 * 2 ^ (8 : Nat))) (IntKind.wrap .u64 x6)) (IntKind.wrap .i64 (k_11 - (1 : Int))) R w)))))
  (Runs Try.prog api_Cut.id #[(.int .u8 t_8), (.int .u64 v_10)] w fun r7 w8 => (∃ x9 : Int, (r7 = (.int .u64 x9) ∧ (putCells w8 ⟨t_6, 0, none⟩ [(.int .i64 0), (.int .i64 (IntKind.wrap .i64 x9)), (.int .i64 0), (.string ⟨#[]⟩)] fun w10 => ((∃ x11 : Int, ∃ x12 : Int, ∃ x13 : Int, ∃ x14 : ByteArray, World.cell? w10 ⟨t_6, 0, none⟩ = some (.int .i64 x11) ∧ World.cell? w10 ⟨t_6, 1, none⟩ = some (.int .i64 x12) ∧ World.cell? w10 ⟨t_6, 2, none⟩ = some (.int .i64 x13) ∧ World.cell? w10 ⟨t_6, 3, none⟩ = some (.string x14) ∧ R (.agg #[(.int .i64 x11), (.int .i64 x12), (.int .i64 x13), (.string x14)]) w10)))))))
theorem memlaw_Owes.step3 (g_0 : Option Addr) (ea_2 : Int) (t_6 : Nat) (t_8 : Int) (v_10 : Int) (k_11 : Int) (R : Value → World → Prop) (w : World) (h : memlaw_Owes.V3 g_0 ea_2 t_6 t_8 v_10 k_11 R w) : memlaw_Owes.L3 g_0 ea_2 t_6 t_8 v_10 k_11 R w :=
  seg_T good mixed Try.func26 600 false [.inLoop (sub (bodyOf Try.f26) [1, 1, 1, 1, 1, 1, 0, 1, 0, 0]), .inBlock 0, .code (sub (bodyOf Try.f26) [1, 1, 1, 1, 1, 1, 1])] [(0, (.pointer g_0)), (2, (.int .i64 ea_2)), (6, (.pointer (some ⟨t_6, 0, none⟩))), (8, (.int .u8 t_8)), (10, (.int .u64 v_10)), (11, (.int .i64 k_11))] w (Eq.mp (show memlaw_Owes.V3 g_0 ea_2 t_6 t_8 v_10 k_11 R w = seg Try.prog 26 73 Try.f26.results.toList memlaw_Owes.cuts R 600 false [.inLoop (sub (bodyOf Try.f26) [1, 1, 1, 1, 1, 1, 0, 1, 0, 0]), .inBlock 0, .code (sub (bodyOf Try.f26) [1, 1, 1, 1, 1, 1, 1])] [(0, (.pointer g_0)), (2, (.int .i64 ea_2)), (6, (.pointer (some ⟨t_6, 0, none⟩))), (8, (.int .u8 t_8)), (10, (.int .u64 v_10)), (11, (.int .i64 k_11))] w by kernel_rfl) h)
def memlaw_Owes.V (g_0 : Option Addr) (op_1 : Int) (ea_2 : Int) (R : Value → World → Prop) (w : World) : Prop :=
  (letB (Array.size (World.heap w)) fun b4 => letW (World.alloc w (.cells #[(.int .i64 0), (.int .i64 0), (.int .i64 0), (.string ⟨#[]⟩)] T_api_Ans)) fun w5 => (Runs Try.prog api_MemSig.id #[(.int .i64 op_1)] w5 fun r6 w7 => (∃ x8 : Int, ∃ x9 : Int, ∃ x10 : Bool, (r6 = (.tuple #[(.int .i64 x8), (.int .u8 x9), (.bool x10)]) ∧ (cond (x8 == (0 : Int))
  (memlaw_Owes.L1 g_0 ea_2 b4 x8 x9 x10 true R w7)
  (memlaw_Owes.L1 g_0 ea_2 b4 x8 x9 x10 (decide (op_1 > (53 : Int))) R w7))))))
theorem memlaw_Owes.enter (g_0 : Option Addr) (op_1 : Int) (ea_2 : Int) (R : Value → World → Prop) (w : World) (h : memlaw_Owes.V g_0 op_1 ea_2 R w) : Runs Try.prog memlaw_Owes.id #[(.pointer g_0), (.int .i64 op_1), (.int .i64 ea_2)] w R :=
  Runs.enter (c := bodyOf Try.f26) (N := 73) Try.func26 (by kernel_rfl) (by kernel_rfl) (by kernel_rfl) (seg_T good mixed Try.func26 600 false [.code (bodyOf Try.f26)] [(0, (.pointer g_0)), (1, (.int .i64 op_1)), (2, (.int .i64 ea_2))] w (Eq.mp (show memlaw_Owes.V g_0 op_1 ea_2 R w = seg Try.prog 26 73 Try.f26.results.toList memlaw_Owes.cuts R 600 false [.code (bodyOf Try.f26)] [(0, (.pointer g_0)), (1, (.int .i64 op_1)), (2, (.int .i64 ea_2))] w by kernel_rfl) h))

/-! e2e/memm.New -/
def memm_New.cuts : List (Nat × List Nat) := []
def memm_New.V (R : Value → World → Prop) (w : World) : Prop :=
  (letB (Array.size (World.heap w)) fun b1 => letW (World.alloc w (.cells #[(.bool false), (.slice none 0 0), (.int .i64 0), (.slice none 0 0), (.slice none 0 0)] T_memm_Store)) fun w2 => (R (.pointer (some ⟨b1, 0, none⟩)) w2))
theorem memm_New.enter (R : Value → World → Prop) (w : World) (h : memm_New.V R w) : Runs Try.prog memm_New.id #[] w R :=
  Runs.enter (c := bodyOf Try.f27) (N := 3) Try.func27 (by kernel_rfl) (by kernel_rfl) (by kernel_rfl) (seg_T good mixed Try.func27 600 false [.code (bodyOf Try.f27)] [] w (Eq.mp (show memm_New.V R w = seg Try.prog 27 3 Try.f27.results.toList memm_New.cuts R 600 false [.code (bodyOf Try.f27)] [] w by kernel_rfl) h))

/-! e2e/memlaw.Seen -/
def memlaw_Seen.cuts : List (Nat × List Nat) := []
def memlaw_Seen.V (x_0 : Option Addr) (m_1 : Option Addr) (R : Value → World → Prop) (w : World) : Prop :=
  (Runs Try.prog mem_Store_Show.id #[(.pointer x_0)] w fun r3 w4 => (∃ x5 : ByteArray, (r3 = (.string x5) ∧ (Runs Try.prog memm_Store_Show.id #[(.pointer m_1)] w4 fun r6 w7 => (∃ x8 : ByteArray, (r6 = (.string x8) ∧ (cond (!(ByteArray.toList x5 == ByteArray.toList x8))
  (R (.bool false) w7)
  (Runs Try.prog mem_Store_Check.id #[(.pointer x_0)] w7 fun r9 w10 => (∃ x11 : Bool, (r9 = (.bool x11) ∧ (R (.bool x11) w10)))))))))))
theorem memlaw_Seen.enter (x_0 : Option Addr) (m_1 : Option Addr) (R : Value → World → Prop) (w : World) (h : memlaw_Seen.V x_0 m_1 R w) : Runs Try.prog memlaw_Seen.id #[(.pointer x_0), (.pointer m_1)] w R :=
  Runs.enter (c := bodyOf Try.f28) (N := 16) Try.func28 (by kernel_rfl) (by kernel_rfl) (by kernel_rfl) (seg_T good mixed Try.func28 600 false [.code (bodyOf Try.f28)] [(0, (.pointer x_0)), (1, (.pointer m_1))] w (Eq.mp (show memlaw_Seen.V x_0 m_1 R w = seg Try.prog 28 16 Try.f28.results.toList memlaw_Seen.cuts R 600 false [.code (bodyOf Try.f28)] [(0, (.pointer x_0)), (1, (.pointer m_1))] w by kernel_rfl) h))

/-! e2e/memlaw.DoM -/
def memlaw_DoM.cuts : List (Nat × List Nat) := [(68, [6, 7, 8, 10]), (72, [6, 7, 8])]
def memlaw_DoM.L1 (t_6 : Nat) (a_7 : Nat) (w_8 : Int) (yes_10 : Bool) (R : Value → World → Prop) (w : World) : Prop :=
  T Try.prog 29 153 [.code (sub (bodyOf Try.f29) [1, 1, 1, 1, 1, 1])] [(6, (.pointer (some ⟨t_6, 0, none⟩))), (7, (.pointer (some ⟨a_7, 0, none⟩))), (8, (.int .u64 w_8)), (10, (.bool yes_10))] w R
def memlaw_DoM.L2 (t_6 : Nat) (a_7 : Nat) (w_8 : Int) (R : Value → World → Prop) (w : World) : Prop :=
  T Try.prog 29 153 [.code (sub (bodyOf Try.f29) [1, 1, 1, 1, 1, 1, 1])] [(6, (.pointer (some ⟨t_6, 0, none⟩))), (7, (.pointer (some ⟨a_7, 0, none⟩))), (8, (.int .u64 w_8))] w R
def memlaw_DoM.V1 (t_6 : Nat) (a_7 : Nat) (w_8 : Int) (yes_10 : Bool) (R : Value → World → Prop) (w : World) : Prop :=
  (cond yes_10
  (memlaw_DoM.L2 t_6 a_7 1 R w)
  (memlaw_DoM.L2 t_6 a_7 w_8 R w))
theorem memlaw_DoM.step1 (t_6 : Nat) (a_7 : Nat) (w_8 : Int) (yes_10 : Bool) (R : Value → World → Prop) (w : World) (h : memlaw_DoM.V1 t_6 a_7 w_8 yes_10 R w) : memlaw_DoM.L1 t_6 a_7 w_8 yes_10 R w :=
  seg_T good mixed Try.func29 600 false [.code (sub (bodyOf Try.f29) [1, 1, 1, 1, 1, 1])] [(6, (.pointer (some ⟨t_6, 0, none⟩))), (7, (.pointer (some ⟨a_7, 0, none⟩))), (8, (.int .u64 w_8)), (10, (.bool yes_10))] w (Eq.mp (show memlaw_DoM.V1 t_6 a_7 w_8 yes_10 R w = seg Try.prog 29 153 Try.f29.results.toList memlaw_DoM.cuts R 600 false [.code (sub (bodyOf Try.f29) [1, 1, 1, 1, 1, 1])] [(6, (.pointer (some ⟨t_6, 0, none⟩))), (7, (.pointer (some ⟨a_7, 0, none⟩))), (8, (.int .u64 w_8)), (10, (.bool yes_10))] w by kernel_rfl) h)
def memlaw_DoM.V2 (t_6 : Nat) (a_7 : Nat) (w_8 : Int) (R : Value → World → Prop) (w : World) : Prop :=
  (∃ x1 : Int, World.cell? w ⟨a_7, 1, none⟩ = some (.int .i64 x1) ∧ (can w ⟨a_7, 1, none⟩ ∧ letW (World.setCell w ⟨a_7, 1, none⟩ (.int .i64 (IntKind.wrap .i64 (x1 + (IntKind.wrap .i64 w_8))))) fun w2 => (∃ x3 : Int, ∃ x4 : Int, ∃ x5 : Int, ∃ x6 : ByteArray, World.cell? w2 ⟨a_7, 0, none⟩ = some (.int .i64 x3) ∧ World.cell? w2 ⟨a_7, 1, none⟩ = some (.int .i64 x4) ∧ World.cell? w2 ⟨a_7, 2, none⟩ = some (.int .i64 x5) ∧ World.cell? w2 ⟨a_7, 3, none⟩ = some (.string x6) ∧ (putCells w2 ⟨t_6, 0, none⟩ [(.int .i64 x3), (.int .i64 x4), (.int .i64 x5), (.string x6)] fun w7 => ((∃ x8 : Int, ∃ x9 : Int, ∃ x10 : Int, ∃ x11 : ByteArray, World.cell? w7 ⟨t_6, 0, none⟩ = some (.int .i64 x8) ∧ World.cell? w7 ⟨t_6, 1, none⟩ = some (.int .i64 x9) ∧ World.cell? w7 ⟨t_6, 2, none⟩ = some (.int .i64 x10) ∧ World.cell? w7 ⟨t_6, 3, none⟩ = some (.string x11) ∧ R (.agg #[(.int .i64 x8), (.int .i64 x9), (.int .i64 x10), (.string x11)]) w7))))))
theorem memlaw_DoM.step2 (t_6 : Nat) (a_7 : Nat) (w_8 : Int) (R : Value → World → Prop) (w : World) (h : memlaw_DoM.V2 t_6 a_7 w_8 R w) : memlaw_DoM.L2 t_6 a_7 w_8 R w :=
  seg_T good mixed Try.func29 600 false [.code (sub (bodyOf Try.f29) [1, 1, 1, 1, 1, 1, 1])] [(6, (.pointer (some ⟨t_6, 0, none⟩))), (7, (.pointer (some ⟨a_7, 0, none⟩))), (8, (.int .u64 w_8))] w (Eq.mp (show memlaw_DoM.V2 t_6 a_7 w_8 R w = seg Try.prog 29 153 Try.f29.results.toList memlaw_DoM.cuts R 600 false [.code (sub (bodyOf Try.f29) [1, 1, 1, 1, 1, 1, 1])] [(6, (.pointer (some ⟨t_6, 0, none⟩))), (7, (.pointer (some ⟨a_7, 0, none⟩))), (8, (.int .u64 w_8))] w by kernel_rfl) h)
def memlaw_DoM.V (m_0 : Option Addr) (g_1 : Int) (o_2_3 : Int) (o_2_4 : Int) (o_2_5 : Int) (o_2_6 : Int) (o_2_7 : ByteArray) (o_2_8 : ByteArray) (R : Value → World → Prop) (w : World) : Prop :=
  (letB (Array.size (World.heap w)) fun b9 => letW (World.alloc w (.cells #[(.int .i64 o_2_3), (.int .i64 o_2_4), (.int .i64 o_2_5), (.int .i64 o_2_6), (.string o_2_7), (.string o_2_8)] T_api_Op)) fun w10 => (letB (Array.size (World.heap w10)) fun b11 => letW (World.alloc w10 (.cells #[(.int .i64 0), (.int .i64 0), (.int .i64 0), (.string ⟨#[]⟩)] T_api_Ans)) fun w12 => (letB (Array.size (World.heap w12)) fun b13 => letW (World.alloc w12 (.cells #[(.int .i64 0), (.int .i64 0), (.int .i64 0), (.string ⟨#[]⟩)] T_api_Ans)) fun w14 => (putCells w14 ⟨b13, 0, none⟩ [(.int .i64 0), (.int .i64 0), (.int .i64 0), (.string ⟨#[]⟩)] fun w15 => (∃ x16 : ByteArray, World.cell? w15 ⟨b9, 4, none⟩ = some (.string x16) ∧ (Runs Try.prog api_Word.id #[(.string x16), (.int .i64 0)] w15 fun r17 w18 => (∃ x19 : Int, (r17 = (.int .u64 x19) ∧ (∃ x20 : Int, World.cell? w18 ⟨b9, 0, none⟩ = some (.int .i64 x20) ∧ (cond (x20 == (1 : Int))
  (∃ x21 : Int, World.cell? w18 ⟨b9, 1, none⟩ = some (.int .i64 x21) ∧ (∃ x22 : Int, World.cell? w18 ⟨b9, 2, none⟩ = some (.int .i64 x22) ∧ (∃ x23 : Int, World.cell? w18 ⟨b9, 3, none⟩ = some (.int .i64 x23) ∧ (Runs Try.prog memm_Store_Reset.id #[(.pointer m_0), (.int .i64 x21), (.int .i64 x22), (.int .i64 x23), (.int .i64 g_1)] w18 fun r24 w25 => (∃ x26 : Int, (r24 = (.int .i64 x26) ∧ (can w25 ⟨b13, 0, none⟩ ∧ letW (World.setCell w25 ⟨b13, 0, none⟩ (.int .i64 x26)) fun w27 => (memlaw_DoM.L1 b11 b13 0 false R w27))))))))
  (cond (x20 == (2 : Int))
  (Runs Try.prog memm_Store_Pages.id #[(.pointer m_0)] w18 fun r30 w31 => (∃ x32 : Int, (r30 = (.int .i64 x32) ∧ (can w31 ⟨b13, 1, none⟩ ∧ letW (World.setCell w31 ⟨b13, 1, none⟩ (.int .i64 x32)) fun w33 => (memlaw_DoM.L1 b11 b13 0 false R w33)))))
  (cond (x20 == (3 : Int))
  (∃ x34 : Int, World.cell? w18 ⟨b9, 1, none⟩ = some (.int .i64 x34) ∧ (Runs Try.prog memm_Store_Grow.id #[(.pointer m_0), (.int .u32 (IntKind.wrap .u32 x34))] w18 fun r35 w36 => (∃ x37 : Int, (r35 = (.int .u32 x37) ∧ (memlaw_DoM.L1 b11 b13 (IntKind.wrap .u64 x37) false R w36)))))
  (cond (x20 == (4 : Int))
  (∃ x38 : Int, World.cell? w18 ⟨b9, 1, none⟩ = some (.int .i64 x38) ∧ (∃ x39 : Int, World.cell? w18 ⟨b9, 2, none⟩ = some (.int .i64 x39) ∧ (∃ x40 : Int, World.cell? w18 ⟨b9, 3, none⟩ = some (.int .i64 x40) ∧ (Runs Try.prog memm_Store_Load.id #[(.pointer m_0), (.int .i64 x38), (.int .u32 (IntKind.wrap .u32 x39)), (.int .u32 (IntKind.wrap .u32 x40))] w18 fun r41 w42 => (∃ x43 : Int, ∃ x44 : Int, (r41 = (.tuple #[(.int .u64 x43), (.int .i64 x44)]) ∧ (can w42 ⟨b13, 0, none⟩ ∧ letW (World.setCell w42 ⟨b13, 0, none⟩ (.int .i64 x44)) fun w45 => (memlaw_DoM.L1 b11 b13 x43 false R w45))))))))
  (cond (x20 == (5 : Int))
  (∃ x46 : Int, World.cell? w18 ⟨b9, 1, none⟩ = some (.int .i64 x46) ∧ (∃ x47 : Int, World.cell? w18 ⟨b9, 2, none⟩ = some (.int .i64 x47) ∧ (∃ x48 : Int, World.cell? w18 ⟨b9, 3, none⟩ = some (.int .i64 x48) ∧ (Runs Try.prog memm_Store_Save.id #[(.pointer m_0), (.int .i64 x46), (.int .u32 (IntKind.wrap .u32 x47)), (.int .u32 (IntKind.wrap .u32 x48)), (.int .u64 x19)] w18 fun r49 w50 => (∃ x51 : Int, (r49 = (.int .i64 x51) ∧ (can w50 ⟨b13, 0, none⟩ ∧ letW (World.setCell w50 ⟨b13, 0, none⟩ (.int .i64 x51)) fun w52 => (memlaw_DoM.L1 b11 b13 0 false R w52))))))))
  (cond (x20 == (6 : Int))
  (∃ x53 : Int, World.cell? w18 ⟨b9, 1, none⟩ = some (.int .i64 x53) ∧ (∃ x54 : Int, World.cell? w18 ⟨b9, 2, none⟩ = some (.int .i64 x54) ∧ (Runs Try.prog memm_Store_Fits.id #[(.pointer m_0), (.int .u32 (IntKind.wrap .u32 x53)), (.int .i64 x54)] w18 fun r55 w56 => (∃ x57 : Bool, (r55 = (.bool x57) ∧ (memlaw_DoM.L1 b11 b13 0 x57 R w56))))))
  (cond (x20 == (7 : Int))
  (∃ x58 : Int, World.cell? w18 ⟨b9, 1, none⟩ = some (.int .i64 x58) ∧ (∃ x59 : ByteArray, World.cell? w18 ⟨b9, 4, none⟩ = some (.string x59) ∧ (Runs Try.prog memm_Store_Write.id #[(.pointer m_0), (.int .u32 (IntKind.wrap .u32 x58)), (.string x59)] w18 fun r60 w61 => (∃ x62 : Int, (r60 = (.int .i64 x62) ∧ (can w61 ⟨b13, 0, none⟩ ∧ letW (World.setCell w61 ⟨b13, 0, none⟩ (.int .i64 x62)) fun w63 => (memlaw_DoM.L1 b11 b13 0 false R w63)))))))
  (cond (x20 == (8 : Int))
  (Runs Try.prog memm_Store_TabLen.id #[(.pointer m_0)] w18 fun r64 w65 => (∃ x66 : Int, (r64 = (.int .i64 x66) ∧ (can w65 ⟨b13, 1, none⟩ ∧ letW (World.setCell w65 ⟨b13, 1, none⟩ (.int .i64 x66)) fun w67 => (memlaw_DoM.L1 b11 b13 0 false R w67)))))
  (cond (x20 == (9 : Int))
  (∃ x68 : Int, World.cell? w18 ⟨b9, 1, none⟩ = some (.int .i64 x68) ∧ (Runs Try.prog memm_Store_Elem.id #[(.pointer m_0), (.int .u32 (IntKind.wrap .u32 x68))] w18 fun r69 w70 => (∃ x71 : Int, ∃ x72 : Int, (r69 = (.tuple #[(.int .i64 x71), (.int .i64 x72)]) ∧ (can w70 ⟨b13, 1, none⟩ ∧ letW (World.setCell w70 ⟨b13, 1, none⟩ (.int .i64 x71)) fun w73 => (can w73 ⟨b13, 0, none⟩ ∧ letW (World.setCell w73 ⟨b13, 0, none⟩ (.int .i64 x72)) fun w74 => (memlaw_DoM.L1 b11 b13 0 false R w74)))))))
  (cond (x20 == (10 : Int))
  (∃ x75 : Int, World.cell? w18 ⟨b9, 1, none⟩ = some (.int .i64 x75) ∧ (∃ x76 : Int, World.cell? w18 ⟨b9, 2, none⟩ = some (.int .i64 x76) ∧ (Runs Try.prog memm_Store_SetElem.id #[(.pointer m_0), (.int .u32 (IntKind.wrap .u32 x75)), (.int .i64 x76)] w18 fun r77 w78 => (∃ x79 : Int, (r77 = (.int .i64 x79) ∧ (can w78 ⟨b13, 0, none⟩ ∧ letW (World.setCell w78 ⟨b13, 0, none⟩ (.int .i64 x79)) fun w80 => (memlaw_DoM.L1 b11 b13 0 false R w80)))))))
  (cond (x20 == (11 : Int))
  (∃ x81 : Int, World.cell? w18 ⟨b9, 1, none⟩ = some (.int .i64 x81) ∧ (Runs Try.prog memm_Store_Global.id #[(.pointer m_0), (.int .i64 x81)] w18 fun r82 w83 => (∃ x84 : Int, ∃ x85 : Int, (r82 = (.tuple #[(.int .u64 x84), (.int .i64 x85)]) ∧ (can w83 ⟨b13, 0, none⟩ ∧ letW (World.setCell w83 ⟨b13, 0, none⟩ (.int .i64 x85)) fun w86 => (memlaw_DoM.L1 b11 b13 x84 false R w86))))))
  (cond (x20 == (13 : Int))
  (∃ x87 : Int, World.cell? w18 ⟨b9, 1, none⟩ = some (.int .i64 x87) ∧ (Runs Try.prog memm_Store_SetGlobal.id #[(.pointer m_0), (.int .i64 x87), (.int .u64 x19)] w18 fun r88 w89 => (∃ x90 : Int, (r88 = (.int .i64 x90) ∧ (can w89 ⟨b13, 0, none⟩ ∧ letW (World.setCell w89 ⟨b13, 0, none⟩ (.int .i64 x90)) fun w91 => (memlaw_DoM.L1 b11 b13 0 false R w91))))))
  (cond (x20 == (14 : Int))
  (Runs Try.prog memm_Store_Show.id #[(.pointer m_0)] w18 fun r92 w93 => (∃ x94 : ByteArray, (r92 = (.string x94) ∧ (can w93 ⟨b13, 3, none⟩ ∧ letW (World.setCell w93 ⟨b13, 3, none⟩ (.string x94)) fun w95 => (memlaw_DoM.L1 b11 b13 0 false R w95)))))
  (cond (x20 == (15 : Int))
  (Runs Try.prog memm_Store_Check.id #[(.pointer m_0)] w18 fun r96 w97 => (∃ x98 : Bool, (r96 = (.bool x98) ∧ (memlaw_DoM.L1 b11 b13 0 x98 R w97))))
  (memlaw_DoM.L1 b11 b13 0 false R w18))))))))))))))))))))))))
theorem memlaw_DoM.enter (m_0 : Option Addr) (g_1 : Int) (o_2_3 : Int) (o_2_4 : Int) (o_2_5 : Int) (o_2_6 : Int) (o_2_7 : ByteArray) (o_2_8 : ByteArray) (R : Value → World → Prop) (w : World) (h : memlaw_DoM.V m_0 g_1 o_2_3 o_2_4 o_2_5 o_2_6 o_2_7 o_2_8 R w) : Runs Try.prog memlaw_DoM.id #[(.pointer m_0), (.int .i64 g_1), (.agg #[(.int .i64 o_2_3), (.int .i64 o_2_4), (.int .i64 o_2_5), (.int .i64 o_2_6), (.string o_2_7), (.string o_2_8)])] w R :=
  Runs.enter (c := bodyOf Try.f29) (N := 153) Try.func29 (by kernel_rfl) (by kernel_rfl) (by kernel_rfl) (seg_T good mixed Try.func29 600 false [.code (bodyOf Try.f29)] [(0, (.pointer m_0)), (1, (.int .i64 g_1)), (2, (.agg #[(.int .i64 o_2_3), (.int .i64 o_2_4), (.int .i64 o_2_5), (.int .i64 o_2_6), (.string o_2_7), (.string o_2_8)]))] w (Eq.mp (show memlaw_DoM.V m_0 g_1 o_2_3 o_2_4 o_2_5 o_2_6 o_2_7 o_2_8 R w = seg Try.prog 29 153 Try.f29.results.toList memlaw_DoM.cuts R 600 false [.code (bodyOf Try.f29)] [(0, (.pointer m_0)), (1, (.int .i64 g_1)), (2, (.agg #[(.int .i64 o_2_3), (.int .i64 o_2_4), (.int .i64 o_2_5), (.int .i64 o_2_6), (.string o_2_7), (.string o_2_8)]))] w by kernel_rfl) h))

/-! e2e/api.Word -/
def api_Word.cuts : List (Nat × List Nat) := [(6, [0, 1]), (11, [0, 1, 5, 6])]
def api_Word.L1 (s_0 : ByteArray) (i_1 : Int) (R : Value → World → Prop) (w : World) : Prop :=
  T Try.prog 30 31 [.code (sub (bodyOf Try.f30) [1, 1])] [(0, (.string s_0)), (1, (.int .i64 i_1))] w R
def api_Word.L2 (s_0 : ByteArray) (i_1 : Int) (v_5 : Int) (k_6 : Int) (R : Value → World → Prop) (w : World) : Prop :=
  T Try.prog 30 31 [.inLoop (sub (bodyOf Try.f30) [1, 1, 1, 0, 1, 0, 0]), .inBlock 0, .code (sub (bodyOf Try.f30) [1, 1, 1, 1])] [(0, (.string s_0)), (1, (.int .i64 i_1)), (5, (.int .u64 v_5)), (6, (.int .i64 k_6))] w R
def api_Word.V1 (s_0 : ByteArray) (i_1 : Int) (R : Value → World → Prop) (w : World) : Prop :=
  (api_Word.L2 s_0 i_1 0 7 R w)
theorem api_Word.step1 (s_0 : ByteArray) (i_1 : Int) (R : Value → World → Prop) (w : World) (h : api_Word.V1 s_0 i_1 R w) : api_Word.L1 s_0 i_1 R w :=
  seg_T good mixed Try.func30 600 false [.code (sub (bodyOf Try.f30) [1, 1])] [(0, (.string s_0)), (1, (.int .i64 i_1))] w (Eq.mp (show api_Word.V1 s_0 i_1 R w = seg Try.prog 30 31 Try.f30.results.toList api_Word.cuts R 600 false [.code (sub (bodyOf Try.f30) [1, 1])] [(0, (.string s_0)), (1, (.int .i64 i_1))] w by kernel_rfl) h)
def api_Word.V2 (s_0 : ByteArray) (i_1 : Int) (v_5 : Int) (k_6 : Int) (R : Value → World → Prop) (w : World) : Prop :=
  (cond (decide (k_6 ≥ (0 : Int)))
  ((0 ≤ (IntKind.wrap .i64 ((IntKind.wrap .i64 ((8 : Int) * i_1)) + k_6)) ∧ (IntKind.wrap .i64 ((IntKind.wrap .i64 ((8 : Int) * i_1)) + k_6)) < ((ByteArray.size s_0 : Nat) : Int)) ∧ (api_Word.L2 s_0 i_1 (bOr .u64 (IntKind.wrap .u64 (v_5 * 2 ^ (8 : Nat))) (IntKind.wrap .u64 (byteAt s_0 (Int.toNat (IntKind.wrap .i64 ((IntKind.wrap .i64 ((8 : Int) * i_1)) + k_6)))))) (IntKind.wrap .i64 (k_6 - (1 : Int))) R w))
  (R (.int .u64 v_5) w))
theorem api_Word.step2 (s_0 : ByteArray) (i_1 : Int) (v_5 : Int) (k_6 : Int) (R : Value → World → Prop) (w : World) (h : api_Word.V2 s_0 i_1 v_5 k_6 R w) : api_Word.L2 s_0 i_1 v_5 k_6 R w :=
  seg_T good mixed Try.func30 600 false [.inLoop (sub (bodyOf Try.f30) [1, 1, 1, 0, 1, 0, 0]), .inBlock 0, .code (sub (bodyOf Try.f30) [1, 1, 1, 1])] [(0, (.string s_0)), (1, (.int .i64 i_1)), (5, (.int .u64 v_5)), (6, (.int .i64 k_6))] w (Eq.mp (show api_Word.V2 s_0 i_1 v_5 k_6 R w = seg Try.prog 30 31 Try.f30.results.toList api_Word.cuts R 600 false [.inLoop (sub (bodyOf Try.f30) [1, 1, 1, 0, 1, 0, 0]), .inBlock 0, .code (sub (bodyOf Try.f30) [1, 1, 1, 1])] [(0, (.string s_0)), (1, (.int .i64 i_1)), (5, (.int .u64 v_5)), (6, (.int .i64 k_6))] w by kernel_rfl) h)
def api_Word.V (s_0 : ByteArray) (i_1 : Int) (R : Value → World → Prop) (w : World) : Prop :=
  (cond (decide (i_1 < (0 : Int)))
  (R (.int .u64 0) w)
  (cond (decide (i_1 ≥ (IntKind.wrap .i64 (Int.tdiv ((ByteArray.size s_0 : Nat) : Int) 8))))
  (R (.int .u64 0) w)
  (api_Word.L1 s_0 i_1 R w)))
theorem api_Word.enter (s_0 : ByteArray) (i_1 : Int) (R : Value → World → Prop) (w : World) (h : api_Word.V s_0 i_1 R w) : Runs Try.prog api_Word.id #[(.string s_0), (.int .i64 i_1)] w R :=
  Runs.enter (c := bodyOf Try.f30) (N := 31) Try.func30 (by kernel_rfl) (by kernel_rfl) (by kernel_rfl) (seg_T good mixed Try.func30 600 false [.code (bodyOf Try.f30)] [(0, (.string s_0)), (1, (.int .i64 i_1))] w (Eq.mp (show api_Word.V s_0 i_1 R w = seg Try.prog 30 31 Try.f30.results.toList api_Word.cuts R 600 false [.code (bodyOf Try.f30)] [(0, (.string s_0)), (1, (.int .i64 i_1))] w by kernel_rfl) h))

/-! (*e2e/mem.Store).Pages -/
def mem_Store_Pages.cuts : List (Nat × List Nat) := []
def mem_Store_Pages.V (s_0 : Option Addr) (R : Value → World → Prop) (w : World) : Prop :=
  (nilV s_0 fun a2 => (∃ x3 : Option Addr, ∃ x4 : Nat, ∃ x5 : Nat, World.cell? w ⟨(Addr.block a2), (Addr.off a2 + 2), none⟩ = some (.slice x3 x4 x5) ∧ (R (.int .i64 (IntKind.wrap .i64 (Int.tdiv ((x4 : Nat) : Int) 64))) w)))
theorem mem_Store_Pages.enter (s_0 : Option Addr) (R : Value → World → Prop) (w : World) (h : mem_Store_Pages.V s_0 R w) : Runs Try.prog mem_Store_Pages.id #[(.pointer s_0)] w R :=
  Runs.enter (c := bodyOf Try.f31) (N := 9) Try.func31 (by kernel_rfl) (by kernel_rfl) (by kernel_rfl) (seg_T good mixed Try.func31 600 false [.code (bodyOf Try.f31)] [(0, (.pointer s_0))] w (Eq.mp (show mem_Store_Pages.V s_0 R w = seg Try.prog 31 9 Try.f31.results.toList mem_Store_Pages.cuts R 600 false [.code (bodyOf Try.f31)] [(0, (.pointer s_0))] w by kernel_rfl) h))

/-! (*e2e/mem.Store).Grow -/
def mem_Store_Grow.cuts : List (Nat × List Nat) := []
def mem_Store_Grow.V (s_0 : Option Addr) (delta_1 : Int) (R : Value → World → Prop) (w : World) : Prop :=
  (nilV s_0 fun a3 => (∃ x4 : Bool, World.cell? w ⟨(Addr.block a3), (Addr.off a3 + 1), none⟩ = some (.bool x4) ∧ (cond (!x4)
  (R (.int .u32 4294967295) w)
  (nilV s_0 fun a5 => (∃ x6 : Option Addr, ∃ x7 : Nat, ∃ x8 : Nat, World.cell? w ⟨(Addr.block a5), (Addr.off a5 + 2), none⟩ = some (.slice x6 x7 x8) ∧ (nilV s_0 fun a9 => (∃ x10 : Option Addr, ∃ x11 : Nat, ∃ x12 : Nat, World.cell? w ⟨(Addr.block a9), (Addr.off a9 + 2), none⟩ = some (.slice x10 x11 x12) ∧ (cond (decide ((IntKind.wrap .u64 delta_1) > (IntKind.wrap .u64 (IntKind.wrap .i64 (Int.tdiv (IntKind.wrap .i64 (((x12 : Nat) : Int) - ((x7 : Nat) : Int))) 64)))))
  (R (.int .u32 4294967295) w)
  ((World.drew w) = (World.drew w) ∧ ((World.drew w) = (World.drew w) ∧ (nilV s_0 fun a13 => ((World.drew w) = (World.drew w) ∧ ((World.drew w) = (World.drew w) ∧ (∃ x14 : Option Addr, ∃ x15 : Nat, ∃ x16 : Nat, World.cell? (World.drew w) ⟨(Addr.block a13), (Addr.off a13 + 2), none⟩ = some (.slice x14 x15 x16) ∧ ((World.drew w) = (World.drew w) ∧ ((World.drew w) = (World.drew w) ∧ ((World.drew w) = (World.drew w) ∧ ((World.drew w) = (World.drew w) ∧ ((World.drew w) = (World.drew w) ∧ ((World.drew w) = (World.drew w) ∧ ((World.drew w) = (World.drew w) ∧ (nilV s_0 fun a17 => ((World.drew w) = (World.drew w) ∧ ((World.drew w) = (World.drew w) ∧ (∃ x18 : Option Addr, ∃ x19 : Nat, ∃ x20 : Nat, World.cell? (World.drew w) ⟨(Addr.block a17), (Addr.off a17 + 2), none⟩ = some (.slice x18 x19 x20) ∧ ((World.drew w) = (World.drew w) ∧ ((World.drew w) = (World.drew w) ∧ ((0 ≤ (0 : Int) ∧ (0 : Int) ≤ (IntKind.wrap .i64 (((x7 : Nat) : Int) + (IntKind.wrap .i64 ((IntKind.wrap .i64 delta_1) * (64 : Int))))) ∧ (IntKind.wrap .i64 (((x7 : Nat) : Int) + (IntKind.wrap .i64 ((IntKind.wrap .i64 delta_1) * (64 : Int))))) ≤ ((x20 : Nat) : Int) ∧ ((x20 : Nat) : Int) ≤ ((x16 : Nat) : Int)) ∧ ((World.drew w) = (World.drew w) ∧ (nilV s_0 fun a21 => ((World.drew w) = (World.drew w) ∧ ((World.drew w) = (World.drew w) ∧ (can (World.drew w) ⟨(Addr.block a21), (Addr.off a21 + 2), none⟩ ∧ (nilV s_0 fun a22 => (∃ x23 : Option Addr, ∃ x24 : Nat, ∃ x25 : Nat, World.cell? (World.setCell (World.drew w) ⟨(Addr.block a21), (Addr.off a21 + 2), none⟩ (.slice (slAddr x14 0 (Int.toNat ((x20 : Nat) : Int)) 1) ((Int.toNat (IntKind.wrap .i64 (((x7 : Nat) : Int) + (IntKind.wrap .i64 ((IntKind.wrap .i64 delta_1) * (64 : Int)))))) - 0) ((Int.toNat ((x20 : Nat) : Int)) - 0))) ⟨(Addr.block a22), (Addr.off a22 + 2), none⟩ = some (.slice x23 x24 x25) ∧ ((0 ≤ ((x7 : Nat) : Int) ∧ ((x7 : Nat) : Int) ≤ ((x24 : Nat) : Int) ∧ ((x24 : Nat) : Int) ≤ ((x25 : Nat) : Int) ∧ ((x25 : Nat) : Int) ≤ ((x25 : Nat) : Int)) ∧ (∃ w26, Sem.run Try.prog (Builtin.clear_ #[T_sl_uint8] T___ #[(.slice (slAddr x23 (Int.toNat ((x7 : Nat) : Int)) x25 1) (x24 - (Int.toNat ((x7 : Nat) : Int))) (x25 - (Int.toNat ((x7 : Nat) : Int))))]) (World.setCell (World.drew w) ⟨(Addr.block a21), (Addr.off a21 + 2), none⟩ (.slice (slAddr x14 0 (Int.toNat ((x20 : Nat) : Int)) 1) ((Int.toNat (IntKind.wrap .i64 (((x7 : Nat) : Int) + (IntKind.wrap .i64 ((IntKind.wrap .i64 delta_1) * (64 : Int)))))) - 0) ((Int.toNat ((x20 : Nat) : Int)) - 0))) = .ok (.tuple #[]) w26 ∧ (R (.int .u32 (IntKind.wrap .u32 (IntKind.wrap .i64 (Int.tdiv ((x7 : Nat) : Int) 64)))) w26))))))))))))))))))))))))))))))))))))))
theorem mem_Store_Grow.enter (s_0 : Option Addr) (delta_1 : Int) (R : Value → World → Prop) (w : World) (h : mem_Store_Grow.V s_0 delta_1 R w) : Runs Try.prog mem_Store_Grow.id #[(.pointer s_0), (.int .u32 delta_1)] w R :=
  Runs.enter (c := bodyOf Try.f32) (N := 58) Try.func32 (by kernel_rfl) (by kernel_rfl) (by kernel_rfl) (seg_T good mixed Try.func32 600 false [.code (bodyOf Try.f32)] [(0, (.pointer s_0)), (1, (.int .u32 delta_1))] w (Eq.mp (show mem_Store_Grow.V s_0 delta_1 R w = seg Try.prog 32 58 Try.f32.results.toList mem_Store_Grow.cuts R 600 false [.code (bodyOf Try.f32)] [(0, (.pointer s_0)), (1, (.int .u32 delta_1))] w by kernel_rfl) h))

/-! (*e2e/mem.Store).Load -/
def mem_Store_Load.cuts : List (Nat × List Nat) := [(16, [0, 1, 2, 3, 14, 15]), (26, [0, 1, 2, 3, 14, 20]), (36, [0, 1, 2, 3, 14, 25]), (42, [0, 1, 2, 3, 30]), (44, [0, 1, 2, 3, 10]), (58, [0, 11, 13, 43, 44]), (74, [0, 11, 13, 43, 81]), (92, [0, 11, 13, 43, 107]), (102, [0, 11, 13, 123]), (104, [13])]
def mem_Store_Load.L1 (s_0 : Option Addr) (op_1 : Int) (base_2 : Int) (off_3 : Int) (t_14 : Int) (t_15 : Bool) (R : Value → World → Prop) (w : World) : Prop :=
  T Try.prog 33 135 [.code (sub (bodyOf Try.f33) [1, 1, 0, 1, 0, 1]), .inBlock 0, .code (sub (bodyOf Try.f33) [1, 1, 1])] [(0, (.pointer s_0)), (1, (.int .i64 op_1)), (2, (.int .u32 base_2)), (3, (.int .u32 off_3)), (14, (.int .i64 t_14)), (15, (.bool t_15))] w R
def mem_Store_Load.L2 (s_0 : Option Addr) (op_1 : Int) (base_2 : Int) (off_3 : Int) (w_10 : Int) (R : Value → World → Prop) (w : World) : Prop :=
  T Try.prog 33 135 [.code (sub (bodyOf Try.f33) [1, 1, 1])] [(0, (.pointer s_0)), (1, (.int .i64 op_1)), (2, (.int .u32 base_2)), (3, (.int .u32 off_3)), (10, (.int .u64 w_10))] w R
def mem_Store_Load.L3 (s_0 : Option Addr) (op_1 : Int) (base_2 : Int) (off_3 : Int) (t_14 : Int) (t_20 : Bool) (R : Value → World → Prop) (w : World) : Prop :=
  T Try.prog 33 135 [.code (sub (bodyOf Try.f33) [1, 1, 0, 1, 0, 1, 1, 1]), .inBlock 0, .code (sub (bodyOf Try.f33) [1, 1, 1])] [(0, (.pointer s_0)), (1, (.int .i64 op_1)), (2, (.int .u32 base_2)), (3, (.int .u32 off_3)), (14, (.int .i64 t_14)), (20, (.bool t_20))] w R
def mem_Store_Load.L4 (s_0 : Option Addr) (a_11 : Int) (v_13 : Int) (t_43 : Int) (t_44 : Bool) (R : Value → World → Prop) (w : World) : Prop :=
  T Try.prog 33 135 [.code (sub (bodyOf Try.f33) [1, 1, 1, 1, 1, 1, 0, 1, 0, 1]), .inBlock 1, .code (sub (bodyOf Try.f33) [1, 1, 1, 1, 1, 1, 1])] [(0, (.pointer s_0)), (11, (.int .i64 a_11)), (13, (.int .u64 v_13)), (43, (.int .i64 t_43)), (44, (.bool t_44))] w R
def mem_Store_Load.L5 (s_0 : Option Addr) (op_1 : Int) (base_2 : Int) (off_3 : Int) (t_14 : Int) (t_25 : Bool) (R : Value → World → Prop) (w : World) : Prop :=
  T Try.prog 33 135 [.code (sub (bodyOf Try.f33) [1, 1, 0, 1, 0, 1, 1, 1, 1, 1]), .inBlock 0, .code (sub (bodyOf Try.f33) [1, 1, 1])] [(0, (.pointer s_0)), (1, (.int .i64 op_1)), (2, (.int .u32 base_2)), (3, (.int .u32 off_3)), (14, (.int .i64 t_14)), (25, (.bool t_25))] w R
def mem_Store_Load.L6 (v_13 : Int) (R : Value → World → Prop) (w : World) : Prop :=
  T Try.prog 33 135 [.code (sub (bodyOf Try.f33) [1, 1, 1, 1, 1, 1, 1])] [(13, (.int .u64 v_13))] w R
def mem_Store_Load.L7 (s_0 : Option Addr) (a_11 : Int) (v_13 : Int) (t_43 : Int) (t_81 : Bool) (R : Value → World → Prop) (w : World) : Prop :=
  T Try.prog 33 135 [.code (sub (bodyOf Try.f33) [1, 1, 1, 1, 1, 1, 0, 1, 0, 1, 1, 1, 1, 1, 1, 1]), .inBlock 1, .code (sub (bodyOf Try.f33) [1, 1, 1, 1, 1, 1, 1])] [(0, (.pointer s_0)), (11, (.int .i64 a_11)), (13, (.int .u64 v_13)), (43, (.int .i64 t_43)), (81, (.bool t_81))] w R
def mem_Store_Load.L8 (s_0 : Option Addr) (op_1 : Int) (base_2 : Int) (off_3 : Int) (t_30 : Bool) (R : Value → World → Prop) (w : World) : Prop :=
  T Try.prog 33 135 [.code (sub (bodyOf Try.f33) [1, 1, 0, 1, 0, 1, 1, 1, 1, 1, 1, 1]), .inBlock 0, .code (sub (bodyOf Try.f33) [1, 1, 1])] [(0, (.pointer s_0)), (1, (.int .i64 op_1)), (2, (.int .u32 base_2)), (3, (.int .u32 off_3)), (30, (.bool t_30))] w R
def mem_Store_Load.L9 (s_0 : Option Addr) (a_11 : Int) (v_13 : Int) (t_43 : Int) (t_107 : Bool) (R : Value → World → Prop) (w : World) : Prop :=
  T Try.prog 33 135 [.code (sub (bodyOf Try.f33) [1, 1, 1, 1, 1, 1, 0, 1, 0, 1, 1, 1, 1, 1, 1, 1, 1, 1, 1, 1, 1, 1]), .inBlock 1, .code (sub (bodyOf Try.f33) [1, 1, 1, 1, 1, 1, 1])] [(0, (.pointer s_0)), (11, (.int .i64 a_11)), (13, (.int .u64 v_13)), (43, (.int .i64 t_43)), (107, (.bool t_107))] w R
def mem_Store_Load.L10 (s_0 : Option Addr) (a_11 : Int) (v_13 : Int) (t_123 : Bool) (R : Value → World → Prop) (w : World) : Prop :=
  T Try.prog 33 135 [.code (sub (bodyOf Try.f33) [1, 1, 1, 1, 1, 1, 0, 1, 0, 1, 1, 1, 1, 1, 1, 1, 1, 1, 1, 1, 1, 1, 1, 1, 1, 1]), .inBlock 1, .code (sub (bodyOf Try.f33) [1, 1, 1, 1, 1, 1, 1])] [(0, (.pointer s_0)), (11, (.int .i64 a_11)), (13, (.int .u64 v_13)), (123, (.bool t_123))] w R
def mem_Store_Load.V1 (s_0 : Option Addr) (op_1 : Int) (base_2 : Int) (off_3 : Int) (t_14 : Int) (t_15 : Bool) (R : Value → World → Prop) (w : World) : Prop :=
  (cond t_15
  (mem_Store_Load.L2 s_0 op_1 base_2 off_3 1 R w)
  (cond (t_14 == (46 : Int))
  (mem_Store_Load.L3 s_0 op_1 base_2 off_3 t_14 true R w)
  (cond (t_14 == (47 : Int))
  (mem_Store_Load.L3 s_0 op_1 base_2 off_3 t_14 true R w)
  (cond (t_14 == (50 : Int))
  (mem_Store_Load.L3 s_0 op_1 base_2 off_3 t_14 true R w)
  (mem_Store_Load.L3 s_0 op_1 base_2 off_3 t_14 (t_14 == (51 : Int)) R w)))))
theorem mem_Store_Load.step1 (s_0 : Option Addr) (op_1 : Int) (base_2 : Int) (off_3 : Int) (t_14 : Int) (t_15 : Bool) (R : Value → World → Prop) (w : World) (h : mem_Store_Load.V1 s_0 op_1 base_2 off_3 t_14 t_15 R w) : mem_Store_Load.L1 s_0 op_1 base_2 off_3 t_14 t_15 R w :=
  seg_T good mixed Try.func33 600 false [.code (sub (bodyOf Try.f33) [1, 1, 0, 1, 0, 1]), .inBlock 0, .code (sub (bodyOf Try.f33) [1, 1, 1])] [(0, (.pointer s_0)), (1, (.int .i64 op_1)), (2, (.int .u32 base_2)), (3, (.int .u32 off_3)), (14, (.int .i64 t_14)), (15, (.bool t_15))] w (Eq.mp (show mem_Store_Load.V1 s_0 op_1 base_2 off_3 t_14 t_15 R w = seg Try.prog 33 135 Try.f33.results.toList mem_Store_Load.cuts R 600 false [.code (sub (bodyOf Try.f33) [1, 1, 0, 1, 0, 1]), .inBlock 0, .code (sub (bodyOf Try.f33) [1, 1, 1])] [(0, (.pointer s_0)), (1, (.int .i64 op_1)), (2, (.int .u32 base_2)), (3, (.int .u32 off_3)), (14, (.int .i64 t_14)), (15, (.bool t_15))] w by kernel_rfl) h)
def mem_Store_Load.V2 (s_0 : Option Addr) (op_1 : Int) (base_2 : Int) (off_3 : Int) (w_10 : Int) (R : Value → World → Prop) (w : World) : Prop :=
  (Runs Try.prog mem_Store_place.id #[(.pointer s_0), (.int .u32 base_2), (.int .u32 off_3), (.int .u64 w_10)] w fun r1 w2 => (∃ x3 : Int, ∃ x4 : Bool, (r1 = (.tuple #[(.int .i64 x3), (.bool x4)]) ∧ (cond (!x4)
  (R (.tuple #[(.int .u64 0), (.int .i64 42)]) w2)
  (cond (op_1 == (45 : Int))
  (mem_Store_Load.L4 s_0 x3 0 op_1 true R w2)
  (mem_Store_Load.L4 s_0 x3 0 op_1 (op_1 == (49 : Int)) R w2))))))
theorem mem_Store_Load.step2 (s_0 : Option Addr) (op_1 : Int) (base_2 : Int) (off_3 : Int) (w_10 : Int) (R : Value → World → Prop) (w : World) (h : mem_Store_Load.V2 s_0 op_1 base_2 off_3 w_10 R w) : mem_Store_Load.L2 s_0 op_1 base_2 off_3 w_10 R w :=
  seg_T good mixed Try.func33 600 false [.code (sub (bodyOf Try.f33) [1, 1, 1])] [(0, (.pointer s_0)), (1, (.int .i64 op_1)), (2, (.int .u32 base_2)), (3, (.int .u32 off_3)), (10, (.int .u64 w_10))] w (Eq.mp (show mem_Store_Load.V2 s_0 op_1 base_2 off_3 w_10 R w = seg Try.prog 33 135 Try.f33.results.toList mem_Store_Load.cuts R 600 false [.code (sub (bodyOf Try.f33) [1, 1, 1])] [(0, (.pointer s_0)), (1, (.int .i64 op_1)), (2, (.int .u32 base_2)), (3, (.int .u32 off_3)), (10, (.int .u64 w_10))] w by kernel_rfl) h)
def mem_Store_Load.V3 (s_0 : Option Addr) (op_1 : Int) (base_2 : Int) (off_3 : Int) (t_14 : Int) (t_20 : Bool) (R : Value → World → Prop) (w : World) : Prop :=
  (cond t_20
  (mem_Store_Load.L2 s_0 op_1 base_2 off_3 2 R w)
  (cond (t_14 == (40 : Int))
  (mem_Store_Load.L5 s_0 op_1 base_2 off_3 t_14 true R w)
  (cond (t_14 == (42 : Int))
  (mem_Store_Load.L5 s_0 op_1 base_2 off_3 t_14 true R w)
  (cond (t_14 == (52 : Int))
  (mem_Store_Load.L5 s_0 op_1 base_2 off_3 t_14 true R w)
  (mem_Store_Load.L5 s_0 op_1 base_2 off_3 t_14 (t_14 == (53 : Int)) R w)))))
theorem mem_Store_Load.step3 (s_0 : Option Addr) (op_1 : Int) (base_2 : Int) (off_3 : Int) (t_14 : Int) (t_20 : Bool) (R : Value → World → Prop) (w : World) (h : mem_Store_Load.V3 s_0 op_1 base_2 off_3 t_14 t_20 R w) : mem_Store_Load.L3 s_0 op_1 base_2 off_3 t_14 t_20 R w :=
  seg_T good mixed Try.func33 600 false [.code (sub (bodyOf Try.f33) [1, 1, 0, 1, 0, 1, 1, 1]), .inBlock 0, .code (sub (bodyOf Try.f33) [1, 1, 1])] [(0, (.pointer s_0)), (1, (.int .i64 op_1)), (2, (.int .u32 base_2)), (3, (.int .u32 off_3)), (14, (.int .i64 t_14)), (20, (.bool t_20))] w (Eq.mp (show mem_Store_Load.V3 s_0 op_1 base_2 off_3 t_14 t_20 R w = seg Try.prog 33 135 Try.f33.results.toList mem_Store_Load.cuts R 600 false [.code (sub (bodyOf Try.f33) [1, 1, 0, 1, 0, 1, 1, 1]), .inBlock 0, .code (sub (bodyOf Try.f33) [1, 1, 1])] [(0, (.pointer s_0)), (1, (.int .i64 op_1)), (2, (.int .u32 base_2)), (3, (.int .u32 off_3)), (14, (.int .i64 t_14)), (20, (.bool t_20))] w by kernel_rfl) h)
def mem_Store_Load.V4 (s_0 : Option Addr) (a_11 : Int) (v_13 : Int) (t_43 : Int) (t_44 : Bool) (R : Value → World → Prop) (w : World) : Prop :=
  (cond t_44
  (nilV s_0 fun a1 => (∃ x2 : Option Addr, ∃ x3 : Nat, ∃ x4 : Nat, World.cell? w ⟨(Addr.block a1), (Addr.off a1 + 2), none⟩ = some (.slice x2 x3 x4) ∧ ((0 ≤ a_11 ∧ a_11 < ((x3 : Nat) : Int)) ∧ nilV x2 fun a5 => (∃ x6 : Int, World.cell? w (Addr.add a5 (Int.toNat a_11 * 1)) = some (.int .u8 x6) ∧ (mem_Store_Load.L6 (IntKind.wrap .u64 x6) R w)))))
  (cond (t_43 == (44 : Int))
  (nilV s_0 fun a8 => (∃ x9 : Option Addr, ∃ x10 : Nat, ∃ x11 : Nat, World.cell? w ⟨(Addr.block a8), (Addr.off a8 + 2), none⟩ = some (.slice x9 x10 x11) ∧ ((0 ≤ a_11 ∧ a_11 < ((x10 : Nat) : Int)) ∧ nilV x9 fun a12 => (∃ x13 : Int, World.cell? w (Addr.add a12 (Int.toNat a_11 * 1)) = some (.int .u8 x13) ∧ (mem_Store_Load.L6 (bAnd .u64 (IntKind.wrap .u64 (IntKind.wrap .i64 (IntKind.wrap .i8 x13))) 4294967295) R w)))))
  (cond (t_43 == (48 : Int))
  (nilV s_0 fun a14 => (∃ x15 : Option Addr, ∃ x16 : Nat, ∃ x17 : Nat, World.cell? w ⟨(Addr.block a14), (Addr.off a14 + 2), none⟩ = some (.slice x15 x16 x17) ∧ ((0 ≤ a_11 ∧ a_11 < ((x16 : Nat) : Int)) ∧ nilV x15 fun a18 => (∃ x19 : Int, World.cell? w (Addr.add a18 (Int.toNat a_11 * 1)) = some (.int .u8 x19) ∧ (mem_Store_Load.L6 (IntKind.wrap .u64 (IntKind.wrap .i64 (IntKind.wrap .i8 x19))) R w)))))
  (cond (t_43 == (47 : Int))
  (mem_Store_Load.L7 s_0 a_11 v_13 t_43 true R w)
  (mem_Store_Load.L7 s_0 a_11 v_13 t_43 (t_43 == (51 : Int)) R w)))))
theorem mem_Store_Load.step4 (s_0 : Option Addr) (a_11 : Int) (v_13 : Int) (t_43 : Int) (t_44 : Bool) (R : Value → World → Prop) (w : World) (h : mem_Store_Load.V4 s_0 a_11 v_13 t_43 t_44 R w) : mem_Store_Load.L4 s_0 a_11 v_13 t_43 t_44 R w :=
  seg_T good mixed Try.func33 600 false [.code (sub (bodyOf Try.f33) [1, 1, 1, 1, 1, 1, 0, 1, 0, 1]), .inBlock 1, .code (sub (bodyOf Try.f33) [1, 1, 1, 1, 1, 1, 1])] [(0, (.pointer s_0)), (11, (.int .i64 a_11)), (13, (.int .u64 v_13)), (43, (.int .i64 t_43)), (44, (.bool t_44))] w (Eq.mp (show mem_Store_Load.V4 s_0 a_11 v_13 t_43 t_44 R w = seg Try.prog 33 135 Try.f33.results.toList mem_Store_Load.cuts R 600 false [.code (sub (bodyOf Try.f33) [1, 1, 1, 1, 1, 1, 0, 1, 0, 1]), .inBlock 1, .code (sub (bodyOf Try.f33) [1, 1, 1, 1, 1, 1, 1])] [(0, (.pointer s_0)), (11, (.int .i64 a_11)), (13, (.int .u64 v_13)), (43, (.int .i64 t_43)), (44, (.bool t_44))] w by kernel_rfl) h)
def mem_Store_Load.V5 (s_0 : Option Addr) (op_1 : Int) (base_2 : Int) (off_3 : Int) (t_14 : Int) (t_25 : Bool) (R : Value → World → Prop) (w : World) : Prop :=
  (cond t_25
  (mem_Store_Load.L2 s_0 op_1 base_2 off_3 4 R w)
  (cond (t_14 == (41 : Int))
  (mem_Store_Load.L8 s_0 op_1 base_2 off_3 true R w)
  (mem_Store_Load.L8 s_0 op_1 base_2 off_3 (t_14 == (43 : Int)) R w)))
theorem mem_Store_Load.step5 (s_0 : Option Addr) (op_1 : Int) (base_2 : Int) (off_3 : Int) (t_14 : Int) (t_25 : Bool) (R : Value → World → Prop) (w : World) (h : mem_Store_Load.V5 s_0 op_1 base_2 off_3 t_14 t_25 R w) : mem_Store_Load.L5 s_0 op_1 base_2 off_3 t_14 t_25 R w :=
  seg_T good mixed Try.func33 600 false [.code (sub (bodyOf Try.f33) [1, 1, 0, 1, 0, 1, 1, 1, 1, 1]), .inBlock 0, .code (sub (bodyOf Try.f33) [1, 1, 1])] [(0, (.pointer s_0)), (1, (.int .i64 op_1)), (2, (.int .u32 base_2)), (3, (.int .u32 off_3)), (14, (.int .i64 t_14)), (25, (.bool t_25))] w (Eq.mp (show mem_Store_Load.V5 s_0 op_1 base_2 off_3 t_14 t_25 R w = seg Try.prog 33 135 Try.f33.results.toList mem_Store_Load.cuts R 600 false [.code (sub (bodyOf Try.f33) [1, 1, 0, 1, 0, 1, 1, 1, 1, 1]), .inBlock 0, .code (sub (bodyOf Try.f33) [1, 1, 1])] [(0, (.pointer s_0)), (1, (.int .i64 op_1)), (2, (.int .u32 base_2)), (3, (.int .u32 off_3)), (14, (.int .i64 t_14)), (25, (.bool t_25))] w by kernel_rfl) h)
def mem_Store_Load.V6 (v_13 : Int) (R : Value → World → Prop) (w : World) : Prop :=
  (R (.tuple #[(.int .u64 v_13), (.int .i64 0)]) w)
theorem mem_Store_Load.step6 (v_13 : Int) (R : Value → World → Prop) (w : World) (h : mem_Store_Load.V6 v_13 R w) : mem_Store_Load.L6 v_13 R w :=
  seg_T good mixed Try.func33 600 false [.code (sub (bodyOf Try.f33) [1, 1, 1, 1, 1, 1, 1])] [(13, (.int .u64 v_13))] w (Eq.mp (show mem_Store_Load.V6 v_13 R w = seg Try.prog 33 135 Try.f33.results.toList mem_Store_Load.cuts R 600 false [.code (sub (bodyOf Try.f33) [1, 1, 1, 1, 1, 1, 1])] [(13, (.int .u64 v_13))] w by kernel_rfl) h)
def mem_Store_Load.V7 (s_0 : Option Addr) (a_11 : Int) (v_13 : Int) (t_43 : Int) (t_81 : Bool) (R : Value → World → Prop) (w : World) : Prop :=
  (cond t_81
  (Runs Try.prog mem_Store_half.id #[(.pointer s_0), (.int .i64 a_11)] w fun r1 w2 => (∃ x3 : Int, (r1 = (.int .u16 x3) ∧ (mem_Store_Load.L6 (IntKind.wrap .u64 x3) R w2))))
  (cond (t_43 == (46 : Int))
  (Runs Try.prog mem_Store_half.id #[(.pointer s_0), (.int .i64 a_11)] w fun r4 w5 => (∃ x6 : Int, (r4 = (.int .u16 x6) ∧ (mem_Store_Load.L6 (IntKind.wrap .u64 (IntKind.wrap .u32 (IntKind.wrap .u64 (IntKind.wrap .i64 (IntKind.wrap .i16 x6))))) R w5))))
  (cond (t_43 == (50 : Int))
  (Runs Try.prog mem_Store_half.id #[(.pointer s_0), (.int .i64 a_11)] w fun r7 w8 => (∃ x9 : Int, (r7 = (.int .u16 x9) ∧ (mem_Store_Load.L6 (IntKind.wrap .u64 (IntKind.wrap .i64 (IntKind.wrap .i16 x9))) R w8))))
  (cond (t_43 == (40 : Int))
  (mem_Store_Load.L9 s_0 a_11 v_13 t_43 true R w)
  (cond (t_43 == (42 : Int))
  (mem_Store_Load.L9 s_0 a_11 v_13 t_43 true R w)
  (mem_Store_Load.L9 s_0 a_11 v_13 t_43 (t_43 == (53 : Int)) R w))))))
theorem mem_Store_Load.step7 (s_0 : Option Addr) (a_11 : Int) (v_13 : Int) (t_43 : Int) (t_81 : Bool) (R : Value → World → Prop) (w : World) (h : mem_Store_Load.V7 s_0 a_11 v_13 t_43 t_81 R w) : mem_Store_Load.L7 s_0 a_11 v_13 t_43 t_81 R w :=
  seg_T good mixed Try.func33 600 false [.code (sub (bodyOf Try.f33) [1, 1, 1, 1, 1, 1, 0, 1, 0, 1, 1, 1, 1, 1, 1, 1]), .inBlock 1, .code (sub (bodyOf Try.f33) [1, 1, 1, 1, 1, 1, 1])] [(0, (.pointer s_0)), (11, (.int .i64 a_11)), (13, (.int .u64 v_13)), (43, (.int .i64 t_43)), (81, (.bool t_81))] w (Eq.mp (show mem_Store_Load.V7 s_0 a_11 v_13 t_43 t_81 R w = seg Try.prog 33 135 Try.f33.results.toList mem_Store_Load.cuts R 600 false [.code (sub (bodyOf Try.f33) [1, 1, 1, 1, 1, 1, 0, 1, 0, 1, 1, 1, 1, 1, 1, 1]), .inBlock 1, .code (sub (bodyOf Try.f33) [1, 1, 1, 1, 1, 1, 1])] [(0, (.pointer s_0)), (11, (.int .i64 a_11)), (13, (.int .u64 v_13)), (43, (.int .i64 t_43)), (81, (.bool t_81))] w by kernel_rfl) h)
def mem_Store_Load.V8 (s_0 : Option Addr) (op_1 : Int) (base_2 : Int) (off_3 : Int) (t_30 : Bool) (R : Value → World → Prop) (w : World) : Prop :=
  (cond t_30
  (mem_Store_Load.L2 s_0 op_1 base_2 off_3 8 R w)
  (R (.tuple #[(.int .u64 0), (.int .i64 35)]) w))
theorem mem_Store_Load.step8 (s_0 : Option Addr) (op_1 : Int) (base_2 : Int) (off_3 : Int) (t_30 : Bool) (R : Value → World → Prop) (w : World) (h : mem_Store_Load.V8 s_0 op_1 base_2 off_3 t_30 R w) : mem_Store_Load.L8 s_0 op_1 base_2 off_3 t_30 R w :=
  seg_T good mixed Try.func33 600 false [.code (sub (bodyOf Try.f33) [1, 1, 0, 1, 0, 1, 1, 1, 1, 1, 1, 1]), .inBlock 0, .code (sub (bodyOf Try.f33) [1, 1, 1])] [(0, (.pointer s_0)), (1, (.int .i64 op_1)), (2, (.int .u32 base_2)), (3, (.int .u32 off_3)), (30, (.bool t_30))] w (Eq.mp (show mem_Store_Load.V8 s_0 op_1 base_2 off_3 t_30 R w = seg Try.prog 33 135 Try.f33.results.toList mem_Store_Load.cuts R 600 false [.code (sub (bodyOf Try.f33) [1, 1, 0, 1, 0, 1, 1, 1, 1, 1, 1, 1]), .inBlock 0, .code (sub (bodyOf Try.f33) [1, 1, 1])] [(0, (.pointer s_0)), (1, (.int .i64 op_1)), (2, (.int .u32 base_2)), (3, (.int .u32 off_3)), (30, (.bool t_30))] w by kernel_rfl) h)
def mem_Store_Load.V9 (s_0 : Option Addr) (a_11 : Int) (v_13 : Int) (t_43 : Int) (t_107 : Bool) (R : Value → World → Prop) (w : World) : Prop :=
  (cond t_107
  (Runs Try.prog mem_Store_long.id #[(.pointer s_0), (.int .i64 a_11)] w fun r1 w2 => (∃ x3 : Int, (r1 = (.int .u32 x3) ∧ (mem_Store_Load.L6 (IntKind.wrap .u64 x3) R w2))))
  (cond (t_43 == (52 : Int))
  (Runs Try.prog mem_Store_long.id #[(.pointer s_0), (.int .i64 a_11)] w fun r4 w5 => (∃ x6 : Int, (r4 = (.int .u32 x6) ∧ (mem_Store_Load.L6 (IntKind.wrap .u64 (IntKind.wrap .i64 (IntKind.wrap .i32 x6))) R w5))))
  (cond (t_43 == (41 : Int))
  (mem_Store_Load.L10 s_0 a_11 v_13 true R w)
  (mem_Store_Load.L10 s_0 a_11 v_13 (t_43 == (43 : Int)) R w))))
theorem mem_Store_Load.step9 (s_0 : Option Addr) (a_11 : Int) (v_13 : Int) (t_43 : Int) (t_107 : Bool) (R : Value → World → Prop) (w : World) (h : mem_Store_Load.V9 s_0 a_11 v_13 t_43 t_107 R w) : mem_Store_Load.L9 s_0 a_11 v_13 t_43 t_107 R w :=
  seg_T good mixed Try.func33 600 false [.code (sub (bodyOf Try.f33) [1, 1, 1, 1, 1, 1, 0, 1, 0, 1, 1, 1, 1, 1, 1, 1, 1, 1, 1, 1, 1, 1]), .inBlock 1, .code (sub (bodyOf Try.f33) [1, 1, 1, 1, 1, 1, 1])] [(0, (.pointer s_0)), (11, (.int .i64 a_11)), (13, (.int .u64 v_13)), (43, (.int .i64 t_43)), (107, (.bool t_107))] w (Eq.mp (show mem_Store_Load.V9 s_0 a_11 v_13 t_43 t_107 R w = seg Try.prog 33 135 Try.f33.results.toList mem_Store_Load.cuts R 600 false [.code (sub (bodyOf Try.f33) [1, 1, 1, 1, 1, 1, 0, 1, 0, 1, 1, 1, 1, 1, 1, 1, 1, 1, 1, 1, 1, 1]), .inBlock 1, .code (sub (bodyOf Try.f33) [1, 1, 1, 1, 1, 1, 1])] [(0, (.pointer s_0)), (11, (.int .i64 a_11)), (13, (.int .u64 v_13)), (43, (.int .i64 t_43)), (107, (.bool t_107))] w by kernel_rfl) h)
def mem_Store_Load.V10 (s_0 : Option Addr) (a_11 : Int) (v_13 : Int) (t_123 : Bool) (R : Value → World → Prop) (w : World) : Prop :=
  (cond t_123
  (nilV s_0 fun a1 => (∃ x2 : Option Addr, ∃ x3 : Nat, ∃ x4 : Nat, World.cell? w ⟨(Addr.block a1), (Addr.off a1 + 2), none⟩ = some (.slice x2 x3 x4) ∧ ((0 ≤ a_11 ∧ a_11 ≤ ((x3 : Nat) : Int) ∧ ((x3 : Nat) : Int) ≤ ((x4 : Nat) : Int) ∧ ((x4 : Nat) : Int) ≤ ((x4 : Nat) : Int)) ∧ (8 ≤ (x3 - (Int.toNat a_11)) ∧ (Runs Try.prog mem_word.id #[(.pointer (slAddr x2 (Int.toNat a_11) x4 1))] w fun r5 w6 => (∃ x7 : Int, (r5 = (.int .u64 x7) ∧ (mem_Store_Load.L6 x7 R w6))))))))
  (mem_Store_Load.L6 v_13 R w))
theorem mem_Store_Load.step10 (s_0 : Option Addr) (a_11 : Int) (v_13 : Int) (t_123 : Bool) (R : Value → World → Prop) (w : World) (h : mem_Store_Load.V10 s_0 a_11 v_13 t_123 R w) : mem_Store_Load.L10 s_0 a_11 v_13 t_123 R w :=
  seg_T good mixed Try.func33 600 false [.code (sub (bodyOf Try.f33) [1, 1, 1, 1, 1, 1, 0, 1, 0, 1, 1, 1, 1, 1, 1, 1, 1, 1, 1, 1, 1, 1, 1, 1, 1, 1]), .inBlock 1, .code (sub (bodyOf Try.f33) [1, 1, 1, 1, 1, 1, 1])] [(0, (.pointer s_0)), (11, (.int .i64 a_11)), (13, (.int .u64 v_13)), (123, (.bool t_123))] w (Eq.mp (show mem_Store_Load.V10 s_0 a_11 v_13 t_123 R w = seg Try.prog 33 135 Try.f33.results.toList mem_Store_Load.cuts R 600 false [.code (sub (bodyOf Try.f33) [1, 1, 1, 1, 1, 1, 0, 1, 0, 1, 1, 1, 1, 1, 1, 1, 1, 1, 1, 1, 1, 1, 1, 1, 1, 1]), .inBlock 1, .code (sub (bodyOf Try.f33) [1, 1, 1, 1, 1, 1, 1])] [(0, (.pointer s_0)), (11, (.int .i64 a_11)), (13, (.int .u64 v_13)), (123, (.bool t_123))] w by kernel_rfl) h)
def mem_Store_Load.V (s_0 : Option Addr) (op_1 : Int) (base_2 : Int) (off_3 : Int) (R : Value → World → Prop) (w : World) : Prop :=
  (cond (op_1 == (44 : Int))
  (mem_Store_Load.L1 s_0 op_1 base_2 off_3 op_1 true R w)
  (cond (op_1 == (45 : Int))
  (mem_Store_Load.L1 s_0 op_1 base_2 off_3 op_1 true R w)
  (cond (op_1 == (48 : Int))
  (mem_Store_Load.L1 s_0 op_1 base_2 off_3 op_1 true R w)
  (mem_Store_Load.L1 s_0 op_1 base_2 off_3 op_1 (op_1 == (49 : Int)) R w))))
theorem mem_Store_Load.enter (s_0 : Option Addr) (op_1 : Int) (base_2 : Int) (off_3 : Int) (R : Value → World → Prop) (w : World) (h : mem_Store_Load.V s_0 op_1 base_2 off_3 R w) : Runs Try.prog mem_Store_Load.id #[(.pointer s_0), (.int .i64 op_1), (.int .u32 base_2), (.int .u32 off_3)] w R :=
  Runs.enter (c := bodyOf Try.f33) (N := 135) Try.func33 (by kernel_rfl) (by kernel_rfl) (by kernel_rfl) (seg_T good mixed Try.func33 600 false [.code (bodyOf Try.f33)] [(0, (.pointer s_0)), (1, (.int .i64 op_1)), (2, (.int .u32 base_2)), (3, (.int .u32 off_3))] w (Eq.mp (show mem_Store_Load.V s_0 op_1 base_2 off_3 R w = seg Try.prog 33 135 Try.f33.results.toList mem_Store_Load.cuts R 600 false [.code (bodyOf Try.f33)] [(0, (.pointer s_0)), (1, (.int .i64 op_1)), (2, (.int .u32 base_2)), (3, (.int .u32 off_3))] w by kernel_rfl) h))

/-! (*e2e/mem.Store).Write -/
def mem_Store_Write.cuts : List (Nat × List Nat) := []
def mem_Store_Write.V (s_0 : Option Addr) (at_1 : Int) (data_2 : ByteArray) (R : Value → World → Prop) (w : World) : Prop :=
  (cond (decide (((ByteArray.size data_2 : Nat) : Int) > (24 : Int)))
  (R (.int .i64 1) w)
  (Runs Try.prog mem_Store_Fits.id #[(.pointer s_0), (.int .u32 at_1), (.int .i64 ((ByteArray.size data_2 : Nat) : Int))] w fun r4 w5 => (∃ x6 : Bool, (r4 = (.bool x6) ∧ (cond (!x6)
  (R (.int .i64 31) w5)
  (nilV s_0 fun a7 => (∃ x8 : Option Addr, ∃ x9 : Nat, ∃ x10 : Nat, World.cell? w5 ⟨(Addr.block a7), (Addr.off a7 + 2), none⟩ = some (.slice x8 x9 x10) ∧ ((0 ≤ at_1 ∧ at_1 ≤ ((x9 : Nat) : Int) ∧ ((x9 : Nat) : Int) ≤ ((x10 : Nat) : Int) ∧ ((x10 : Nat) : Int) ≤ ((x10 : Nat) : Int)) ∧ (∃ x12 : Int, ∃ w11, Sem.run Try.prog (Builtin.copy_ #[T_sl_uint8, T_string] T_int #[(.slice (slAddr x8 (Int.toNat at_1) x10 1) (x9 - (Int.toNat at_1)) (x10 - (Int.toNat at_1))), (.string data_2)]) w5 = .ok (.int .i64 x12) w11 ∧ (R (.int .i64 0) w11))))))))))
theorem mem_Store_Write.enter (s_0 : Option Addr) (at_1 : Int) (data_2 : ByteArray) (R : Value → World → Prop) (w : World) (h : mem_Store_Write.V s_0 at_1 data_2 R w) : Runs Try.prog mem_Store_Write.id #[(.pointer s_0), (.int .u32 at_1), (.string data_2)] w R :=
  Runs.enter (c := bodyOf Try.f34) (N := 24) Try.func34 (by kernel_rfl) (by kernel_rfl) (by kernel_rfl) (seg_T good mixed Try.func34 600 false [.code (bodyOf Try.f34)] [(0, (.pointer s_0)), (1, (.int .u32 at_1)), (2, (.string data_2))] w (Eq.mp (show mem_Store_Write.V s_0 at_1 data_2 R w = seg Try.prog 34 24 Try.f34.results.toList mem_Store_Write.cuts R 600 false [.code (bodyOf Try.f34)] [(0, (.pointer s_0)), (1, (.int .u32 at_1)), (2, (.string data_2))] w by kernel_rfl) h))

/-! (*e2e/mem.Store).TabLen -/
def mem_Store_TabLen.cuts : List (Nat × List Nat) := []
def mem_Store_TabLen.V (s_0 : Option Addr) (R : Value → World → Prop) (w : World) : Prop :=
  (nilV s_0 fun a2 => (∃ x3 : Int, World.cell? w ⟨(Addr.block a2), (Addr.off a2 + 11), none⟩ = some (.int .i64 x3) ∧ (R (.int .i64 x3) w)))
theorem mem_Store_TabLen.enter (s_0 : Option Addr) (R : Value → World → Prop) (w : World) (h : mem_Store_TabLen.V s_0 R w) : Runs Try.prog mem_Store_TabLen.id #[(.pointer s_0)] w R :=
  Runs.enter (c := bodyOf Try.f35) (N := 7) Try.func35 (by kernel_rfl) (by kernel_rfl) (by kernel_rfl) (seg_T good mixed Try.func35 600 false [.code (bodyOf Try.f35)] [(0, (.pointer s_0))] w (Eq.mp (show mem_Store_TabLen.V s_0 R w = seg Try.prog 35 7 Try.f35.results.toList mem_Store_TabLen.cuts R 600 false [.code (bodyOf Try.f35)] [(0, (.pointer s_0))] w by kernel_rfl) h))

/-! (*e2e/mem.Store).Elem -/
def mem_Store_Elem.cuts : List (Nat × List Nat) := []
def mem_Store_Elem.V (s_0 : Option Addr) (i_1 : Int) (R : Value → World → Prop) (w : World) : Prop :=
  (nilV s_0 fun a3 => (∃ x4 : Int, World.cell? w ⟨(Addr.block a3), (Addr.off a3 + 11), none⟩ = some (.int .i64 x4) ∧ (cond (decide ((IntKind.wrap .u64 i_1) ≥ (IntKind.wrap .u64 x4)))
  (R (.tuple #[(.int .i64 0), (.int .i64 43)]) w)
  (nilV s_0 fun a5 => ((0 ≤ i_1 ∧ i_1 < ((8 : Nat) : Int)) ∧ (∃ x6 : Int, World.cell? w (Addr.add ⟨(Addr.block a5), (Addr.off a5 + 3), none⟩ (Int.toNat i_1 * 1)) = some (.int .i64 x6) ∧ (cond (decide (x6 < (0 : Int)))
  (R (.tuple #[(.int .i64 0), (.int .i64 43)]) w)
  (nilV s_0 fun a7 => ((0 ≤ i_1 ∧ i_1 < ((8 : Nat) : Int)) ∧ (∃ x8 : Int, World.cell? w (Addr.add ⟨(Addr.block a7), (Addr.off a7 + 3), none⟩ (Int.toNat i_1 * 1)) = some (.int .i64 x8) ∧ (R (.tuple #[(.int .i64 x8), (.int .i64 0)]) w)))))))))))
theorem mem_Store_Elem.enter (s_0 : Option Addr) (i_1 : Int) (R : Value → World → Prop) (w : World) (h : mem_Store_Elem.V s_0 i_1 R w) : Runs Try.prog mem_Store_Elem.id #[(.pointer s_0), (.int .u32 i_1)] w R :=
  Runs.enter (c := bodyOf Try.f36) (N := 27) Try.func36 (by kernel_rfl) (by kernel_rfl) (by kernel_rfl) (seg_T good mixed Try.func36 600 false [.code (bodyOf Try.f36)] [(0, (.pointer s_0)), (1, (.int .u32 i_1))] w (Eq.mp (show mem_Store_Elem.V s_0 i_1 R w = seg Try.prog 36 27 Try.f36.results.toList mem_Store_Elem.cuts R 600 false [.code (bodyOf Try.f36)] [(0, (.pointer s_0)), (1, (.int .u32 i_1))] w by kernel_rfl) h))

/-! (*e2e/mem.Store).Global -/
def mem_Store_Global.cuts : List (Nat × List Nat) := [(4, [0, 1, 15])]
def mem_Store_Global.L1 (s_0 : Option Addr) (i_1 : Int) (t_15 : Bool) (R : Value → World → Prop) (w : World) : Prop :=
  T Try.prog 37 22 [.code (sub (bodyOf Try.f37) [1, 0, 1]), .code (sub (bodyOf Try.f37) [1, 1])] [(0, (.pointer s_0)), (1, (.int .i64 i_1)), (15, (.bool t_15))] w R
def mem_Store_Global.V1 (s_0 : Option Addr) (i_1 : Int) (t_15 : Bool) (R : Value → World → Prop) (w : World) : Prop :=
  (cond t_15
  (R (.tuple #[(.int .u64 0), (.int .i64 36)]) w)
  (nilV s_0 fun a1 => ((0 ≤ i_1 ∧ i_1 < ((4 : Nat) : Int)) ∧ (∃ x2 : Int, World.cell? w (Addr.add ⟨(Addr.block a1), (Addr.off a1 + 12), none⟩ (Int.toNat i_1 * 1)) = some (.int .u64 x2) ∧ (R (.tuple #[(.int .u64 x2), (.int .i64 0)]) w)))))
theorem mem_Store_Global.step1 (s_0 : Option Addr) (i_1 : Int) (t_15 : Bool) (R : Value → World → Prop) (w : World) (h : mem_Store_Global.V1 s_0 i_1 t_15 R w) : mem_Store_Global.L1 s_0 i_1 t_15 R w :=
  seg_T good mixed Try.func37 600 false [.code (sub (bodyOf Try.f37) [1, 0, 1]), .code (sub (bodyOf Try.f37) [1, 1])] [(0, (.pointer s_0)), (1, (.int .i64 i_1)), (15, (.bool t_15))] w (Eq.mp (show mem_Store_Global.V1 s_0 i_1 t_15 R w = seg Try.prog 37 22 Try.f37.results.toList mem_Store_Global.cuts R 600 false [.code (sub (bodyOf Try.f37) [1, 0, 1]), .code (sub (bodyOf Try.f37) [1, 1])] [(0, (.pointer s_0)), (1, (.int .i64 i_1)), (15, (.bool t_15))] w by kernel_rfl) h)
def mem_Store_Global.V (s_0 : Option Addr) (i_1 : Int) (R : Value → World → Prop) (w : World) : Prop :=
  (cond (decide (i_1 < (0 : Int)))
  (mem_Store_Global.L1 s_0 i_1 true R w)
  (nilV s_0 fun a6 => (∃ x7 : Int, World.cell? w ⟨(Addr.block a6), (Addr.off a6 + 16), none⟩ = some (.int .i64 x7) ∧ (mem_Store_Global.L1 s_0 i_1 (decide (i_1 ≥ x7)) R w))))
theorem mem_Store_Global.enter (s_0 : Option Addr) (i_1 : Int) (R : Value → World → Prop) (w : World) (h : mem_Store_Global.V s_0 i_1 R w) : Runs Try.prog mem_Store_Global.id #[(.pointer s_0), (.int .i64 i_1)] w R :=
  Runs.enter (c := bodyOf Try.f37) (N := 22) Try.func37 (by kernel_rfl) (by kernel_rfl) (by kernel_rfl) (seg_T good mixed Try.func37 600 false [.code (bodyOf Try.f37)] [(0, (.pointer s_0)), (1, (.int .i64 i_1))] w (Eq.mp (show mem_Store_Global.V s_0 i_1 R w = seg Try.prog 37 22 Try.f37.results.toList mem_Store_Global.cuts R 600 false [.code (bodyOf Try.f37)] [(0, (.pointer s_0)), (1, (.int .i64 i_1))] w by kernel_rfl) h))

/-! e2e/api.MemSig -/
def api_MemSig.cuts : List (Nat × List Nat) := [(8, [5, 6]), (14, [5, 9]), (20, [5, 12]), (26, [5, 15]), (36, [5, 20]), (46, [5, 25]), (56, [5, 30]), (66, [5, 35]), (76, [40])]
def api_MemSig.L1 (t_5 : Int) (t_6 : Bool) (R : Value → World → Prop) (w : World) : Prop :=
  T Try.prog 38 43 [.code (sub (bodyOf Try.f38) [1, 0, 1, 0, 1]), .inBlock 0, .code (sub (bodyOf Try.f38) [1, 1])] [(5, (.int .i64 t_5)), (6, (.bool t_6))] w R
def api_MemSig.L2 (t_5 : Int) (t_9 : Bool) (R : Value → World → Prop) (w : World) : Prop :=
  T Try.prog 38 43 [.code (sub (bodyOf Try.f38) [1, 0, 1, 0, 1, 1, 1]), .inBlock 0, .code (sub (bodyOf Try.f38) [1, 1])] [(5, (.int .i64 t_5)), (9, (.bool t_9))] w R
def api_MemSig.L3 (t_5 : Int) (t_12 : Bool) (R : Value → World → Prop) (w : World) : Prop :=
  T Try.prog 38 43 [.code (sub (bodyOf Try.f38) [1, 0, 1, 0, 1, 1, 1, 1, 1]), .inBlock 0, .code (sub (bodyOf Try.f38) [1, 1])] [(5, (.int .i64 t_5)), (12, (.bool t_12))] w R
def api_MemSig.L4 (t_5 : Int) (t_15 : Bool) (R : Value → World → Prop) (w : World) : Prop :=
  T Try.prog 38 43 [.code (sub (bodyOf Try.f38) [1, 0, 1, 0, 1, 1, 1, 1, 1, 1, 1]), .inBlock 0, .code (sub (bodyOf Try.f38) [1, 1])] [(5, (.int .i64 t_5)), (15, (.bool t_15))] w R
def api_MemSig.L5 (t_5 : Int) (t_20 : Bool) (R : Value → World → Prop) (w : World) : Prop :=
  T Try.prog 38 43 [.code (sub (bodyOf Try.f38) [1, 0, 1, 0, 1, 1, 1, 1, 1, 1, 1, 1, 1, 1, 1]), .inBlock 0, .code (sub (bodyOf Try.f38) [1, 1])] [(5, (.int .i64 t_5)), (20, (.bool t_20))] w R
def api_MemSig.L6 (t_5 : Int) (t_25 : Bool) (R : Value → World → Prop) (w : World) : Prop :=
  T Try.prog 38 43 [.code (sub (bodyOf Try.f38) [1, 0, 1, 0, 1, 1, 1, 1, 1, 1, 1, 1, 1, 1, 1, 1, 1, 1, 1]), .inBlock 0, .code (sub (bodyOf Try.f38) [1, 1])] [(5, (.int .i64 t_5)), (25, (.bool t_25))] w R
def api_MemSig.L7 (t_5 : Int) (t_30 : Bool) (R : Value → World → Prop) (w : World) : Prop :=
  T Try.prog 38 43 [.code (sub (bodyOf Try.f38) [1, 0, 1, 0, 1, 1, 1, 1, 1, 1, 1, 1, 1, 1, 1, 1, 1, 1, 1, 1, 1, 1, 1]), .inBlock 0, .code (sub (bodyOf Try.f38) [1, 1])] [(5, (.int .i64 t_5)), (30, (.bool t_30))] w R
def api_MemSig.L8 (t_5 : Int) (t_35 : Bool) (R : Value → World → Prop) (w : World) : Prop :=
  T Try.prog 38 43 [.code (sub (bodyOf Try.f38) [1, 0, 1, 0, 1, 1, 1, 1, 1, 1, 1, 1, 1, 1, 1, 1, 1, 1, 1, 1, 1, 1, 1, 1, 1, 1, 1]), .inBlock 0, .code (sub (bodyOf Try.f38) [1, 1])] [(5, (.int .i64 t_5)), (35, (.bool t_35))] w R
def api_MemSig.L9 (t_40 : Bool) (R : Value → World → Prop) (w : World) : Prop :=
  T Try.prog 38 43 [.code (sub (bodyOf Try.f38) [1, 0, 1, 0, 1, 1, 1, 1, 1, 1, 1, 1, 1, 1, 1, 1, 1, 1, 1, 1, 1, 1, 1, 1, 1, 1, 1, 1, 1, 1, 1]), .inBlock 0, .code (sub (bodyOf Try.f38) [1, 1])] [(40, (.bool t_40))] w R
def api_MemSig.V1 (t_5 : Int) (t_6 : Bool) (R : Value → World → Prop) (w : World) : Prop :=
  (cond t_6
  (R (.tuple #[(.int .i64 4), (.int .u8 127), (.bool false)]) w)
  (cond (t_5 == (41 : Int))
  (api_MemSig.L2 t_5 true R w)
  (api_MemSig.L2 t_5 (t_5 == (55 : Int)) R w)))
theorem api_MemSig.step1 (t_5 : Int) (t_6 : Bool) (R : Value → World → Prop) (w : World) (h : api_MemSig.V1 t_5 t_6 R w) : api_MemSig.L1 t_5 t_6 R w :=
  seg_T good mixed Try.func38 600 false [.code (sub (bodyOf Try.f38) [1, 0, 1, 0, 1]), .inBlock 0, .code (sub (bodyOf Try.f38) [1, 1])] [(5, (.int .i64 t_5)), (6, (.bool t_6))] w (Eq.mp (show api_MemSig.V1 t_5 t_6 R w = seg Try.prog 38 43 Try.f38.results.toList api_MemSig.cuts R 600 false [.code (sub (bodyOf Try.f38) [1, 0, 1, 0, 1]), .inBlock 0, .code (sub (bodyOf Try.f38) [1, 1])] [(5, (.int .i64 t_5)), (6, (.bool t_6))] w by kernel_rfl) h)
def api_MemSig.V2 (t_5 : Int) (t_9 : Bool) (R : Value → World → Prop) (w : World) : Prop :=
  (cond t_9
  (R (.tuple #[(.int .i64 8), (.int .u8 126), (.bool false)]) w)
  (cond (t_5 == (42 : Int))
  (api_MemSig.L3 t_5 true R w)
  (api_MemSig.L3 t_5 (t_5 == (56 : Int)) R w)))
theorem api_MemSig.step2 (t_5 : Int) (t_9 : Bool) (R : Value → World → Prop) (w : World) (h : api_MemSig.V2 t_5 t_9 R w) : api_MemSig.L2 t_5 t_9 R w :=
  seg_T good mixed Try.func38 600 false [.code (sub (bodyOf Try.f38) [1, 0, 1, 0, 1, 1, 1]), .inBlock 0, .code (sub (bodyOf Try.f38) [1, 1])] [(5, (.int .i64 t_5)), (9, (.bool t_9))] w (Eq.mp (show api_MemSig.V2 t_5 t_9 R w = seg Try.prog 38 43 Try.f38.results.toList api_MemSig.cuts R 600 false [.code (sub (bodyOf Try.f38) [1, 0, 1, 0, 1, 1, 1]), .inBlock 0, .code (sub (bodyOf Try.f38) [1, 1])] [(5, (.int .i64 t_5)), (9, (.bool t_9))] w by kernel_rfl) h)
def api_MemSig.V3 (t_5 : Int) (t_12 : Bool) (R : Value → World → Prop) (w : World) : Prop :=
  (cond t_12
  (R (.tuple #[(.int .i64 4), (.int .u8 125), (.bool false)]) w)
  (cond (t_5 == (43 : Int))
  (api_MemSig.L4 t_5 true R w)
  (api_MemSig.L4 t_5 (t_5 == (57 : Int)) R w)))
theorem api_MemSig.step3 (t_5 : Int) (t_12 : Bool) (R : Value → World → Prop) (w : World) (h : api_MemSig.V3 t_5 t_12 R w) : api_MemSig.L3 t_5 t_12 R w :=
  seg_T good mixed Try.func38 600 false [.code (sub (bodyOf Try.f38) [1, 0, 1, 0, 1, 1, 1, 1, 1]), .inBlock 0, .code (sub (bodyOf Try.f38) [1, 1])] [(5, (.int .i64 t_5)), (12, (.bool t_12))] w (Eq.mp (show api_MemSig.V3 t_5 t_12 R w = seg Try.prog 38 43 Try.f38.results.toList api_MemSig.cuts R 600 false [.code (sub (bodyOf Try.f38) [1, 0, 1, 0, 1, 1, 1, 1, 1]), .inBlock 0, .code (sub (bodyOf Try.f38) [1, 1])] [(5, (.int .i64 t_5)), (12, (.bool t_12))] w by kernel_rfl) h)
def api_MemSig.V4 (t_5 : Int) (t_15 : Bool) (R : Value → World → Prop) (w : World) : Prop :=
  (cond t_15
  (R (.tuple #[(.int .i64 8), (.int .u8 124), (.bool false)]) w)
  (cond (t_5 == (44 : Int))
  (R (.tuple #[(.int .i64 1), (.int .u8 127), (.bool true)]) w)
  (cond (t_5 == (45 : Int))
  (api_MemSig.L5 t_5 true R w)
  (api_MemSig.L5 t_5 (t_5 == (58 : Int)) R w))))
theorem api_MemSig.step4 (t_5 : Int) (t_15 : Bool) (R : Value → World → Prop) (w : World) (h : api_MemSig.V4 t_5 t_15 R w) : api_MemSig.L4 t_5 t_15 R w :=
  seg_T good mixed Try.func38 600 false [.code (sub (bodyOf Try.f38) [1, 0, 1, 0, 1, 1, 1, 1, 1, 1, 1]), .inBlock 0, .code (sub (bodyOf Try.f38) [1, 1])] [(5, (.int .i64 t_5)), (15, (.bool t_15))] w (Eq.mp (show api_MemSig.V4 t_5 t_15 R w = seg Try.prog 38 43 Try.f38.results.toList api_MemSig.cuts R 600 false [.code (sub (bodyOf Try.f38) [1, 0, 1, 0, 1, 1, 1, 1, 1, 1, 1]), .inBlock 0, .code (sub (bodyOf Try.f38) [1, 1])] [(5, (.int .i64 t_5)), (15, (.bool t_15))] w by kernel_rfl) h)
def api_MemSig.V5 (t_5 : Int) (t_20 : Bool) (R : Value → World → Prop) (w : World) : Prop :=
  (cond t_20
  (R (.tuple #[(.int .i64 1), (.int .u8 127), (.bool false)]) w)
  (cond (t_5 == (46 : Int))
  (R (.tuple #[(.int .i64 2), (.int .u8 127), (.bool true)]) w)
  (cond (t_5 == (47 : Int))
  (api_MemSig.L6 t_5 true R w)
  (api_MemSig.L6 t_5 (t_5 == (59 : Int)) R w))))
theorem api_MemSig.step5 (t_5 : Int) (t_20 : Bool) (R : Value → World → Prop) (w : World) (h : api_MemSig.V5 t_5 t_20 R w) : api_MemSig.L5 t_5 t_20 R w :=
  seg_T good mixed Try.func38 600 false [.code (sub (bodyOf Try.f38) [1, 0, 1, 0, 1, 1, 1, 1, 1, 1, 1, 1, 1, 1, 1]), .inBlock 0, .code (sub (bodyOf Try.f38) [1, 1])] [(5, (.int .i64 t_5)), (20, (.bool t_20))] w (Eq.mp (show api_MemSig.V5 t_5 t_20 R w = seg Try.prog 38 43 Try.f38.results.toList api_MemSig.cuts R 600 false [.code (sub (bodyOf Try.f38) [1, 0, 1, 0, 1, 1, 1, 1, 1, 1, 1, 1, 1, 1, 1]), .inBlock 0, .code (sub (bodyOf Try.f38) [1, 1])] [(5, (.int .i64 t_5)), (20, (.bool t_20))] w by kernel_rfl) h)
def api_MemSig.V6 (t_5 : Int) (t_25 : Bool) (R : Value → World → Prop) (w : World) : Prop :=
  (cond t_25
  (R (.tuple #[(.int .i64 2), (.int .u8 127), (.bool false)]) w)
  (cond (t_5 == (48 : Int))
  (R (.tuple #[(.int .i64 1), (.int .u8 126), (.bool true)]) w)
  (cond (t_5 == (49 : Int))
  (api_MemSig.L7 t_5 true R w)
  (api_MemSig.L7 t_5 (t_5 == (60 : Int)) R w))))
theorem api_MemSig.step6 (t_5 : Int) (t_25 : Bool) (R : Value → World → Prop) (w : World) (h : api_MemSig.V6 t_5 t_25 R w) : api_MemSig.L6 t_5 t_25 R w :=
  seg_T good mixed Try.func38 600 false [.code (sub (bodyOf Try.f38) [1, 0, 1, 0, 1, 1, 1, 1, 1, 1, 1, 1, 1, 1, 1, 1, 1, 1, 1]), .inBlock 0, .code (sub (bodyOf Try.f38) [1, 1])] [(5, (.int .i64 t_5)), (25, (.bool t_25))] w (Eq.mp (show api_MemSig.V6 t_5 t_25 R w = seg Try.prog 38 43 Try.f38.results.toList api_MemSig.cuts R 600 false [.code (sub (bodyOf Try.f38) [1, 0, 1, 0, 1, 1, 1, 1, 1, 1, 1, 1, 1, 1, 1, 1, 1, 1, 1]), .inBlock 0, .code (sub (bodyOf Try.f38) [1, 1])] [(5, (.int .i64 t_5)), (25, (.bool t_25))] w by kernel_rfl) h)
def api_MemSig.V7 (t_5 : Int) (t_30 : Bool) (R : Value → World → Prop) (w : World) : Prop :=
  (cond t_30
  (R (.tuple #[(.int .i64 1), (.int .u8 126), (.bool false)]) w)
  (cond (t_5 == (50 : Int))
  (R (.tuple #[(.int .i64 2), (.int .u8 126), (.bool true)]) w)
  (cond (t_5 == (51 : Int))
  (api_MemSig.L8 t_5 true R w)
  (api_MemSig.L8 t_5 (t_5 == (61 : Int)) R w))))
theorem api_MemSig.step7 (t_5 : Int) (t_30 : Bool) (R : Value → World → Prop) (w : World) (h : api_MemSig.V7 t_5 t_30 R w) : api_MemSig.L7 t_5 t_30 R w :=
  seg_T good mixed Try.func38 600 false [.code (sub (bodyOf Try.f38) [1, 0, 1, 0, 1, 1, 1, 1, 1, 1, 1, 1, 1, 1, 1, 1, 1, 1, 1, 1, 1, 1, 1]), .inBlock 0, .code (sub (bodyOf Try.f38) [1, 1])] [(5, (.int .i64 t_5)), (30, (.bool t_30))] w (Eq.mp (show api_MemSig.V7 t_5 t_30 R w = seg Try.prog 38 43 Try.f38.results.toList api_MemSig.cuts R 600 false [.code (sub (bodyOf Try.f38) [1, 0, 1, 0, 1, 1, 1, 1, 1, 1, 1, 1, 1, 1, 1, 1, 1, 1, 1, 1, 1, 1, 1]), .inBlock 0, .code (sub (bodyOf Try.f38) [1, 1])] [(5, (.int .i64 t_5)), (30, (.bool t_30))] w by kernel_rfl) h)
def api_MemSig.V8 (t_5 : Int) (t_35 : Bool) (R : Value → World → Prop) (w : World) : Prop :=
  (cond t_35
  (R (.tuple #[(.int .i64 2), (.int .u8 126), (.bool false)]) w)
  (cond (t_5 == (52 : Int))
  (R (.tuple #[(.int .i64 4), (.int .u8 126), (.bool true)]) w)
  (cond (t_5 == (53 : Int))
  (api_MemSig.L9 true R w)
  (api_MemSig.L9 (t_5 == (62 : Int)) R w))))
theorem api_MemSig.step8 (t_5 : Int) (t_35 : Bool) (R : Value → World → Prop) (w : World) (h : api_MemSig.V8 t_5 t_35 R w) : api_MemSig.L8 t_5 t_35 R w :=
  seg_T good mixed Try.func38 600 false [.code (sub (bodyOf Try.f38) [1, 0, 1, 0, 1, 1, 1, 1, 1, 1, 1, 1, 1, 1, 1, 1, 1, 1, 1, 1, 1, 1, 1, 1, 1, 1, 1]), .inBlock 0, .code (sub (bodyOf Try.f38) [1, 1])] [(5, (.int .i64 t_5)), (35, (.bool t_35))] w (Eq.mp (show api_MemSig.V8 t_5 t_35 R w = seg Try.prog 38 43 Try.f38.results.toList api_MemSig.cuts R 600 false [.code (sub (bodyOf Try.f38) [1, 0, 1, 0, 1, 1, 1, 1, 1, 1, 1, 1, 1, 1, 1, 1, 1, 1, 1, 1, 1, 1, 1, 1, 1, 1, 1]), .inBlock 0, .code (sub (bodyOf Try.f38) [1, 1])] [(5, (.int .i64 t_5)), (35, (.bool t_35))] w by kernel_rfl) h)
def api_MemSig.V9 (t_40 : Bool) (R : Value → World → Prop) (w : World) : Prop :=
  (cond t_40
  (R (.tuple #[(.int .i64 4), (.int .u8 126), (.bool false)]) w)
  (R (.tuple #[(.int .i64 0), (.int .u8 0), (.bool false)]) w))
theorem api_MemSig.step9 (t_40 : Bool) (R : Value → World → Prop) (w : World) (h : api_MemSig.V9 t_40 R w) : api_MemSig.L9 t_40 R w :=
  seg_T good mixed Try.func38 600 false [.code (sub (bodyOf Try.f38) [1, 0, 1, 0, 1, 1, 1, 1, 1, 1, 1, 1, 1, 1, 1, 1, 1, 1, 1, 1, 1, 1, 1, 1, 1, 1, 1, 1, 1, 1, 1]), .inBlock 0, .code (sub (bodyOf Try.f38) [1, 1])] [(40, (.bool t_40))] w (Eq.mp (show api_MemSig.V9 t_40 R w = seg Try.prog 38 43 Try.f38.results.toList api_MemSig.cuts R 600 false [.code (sub (bodyOf Try.f38) [1, 0, 1, 0, 1, 1, 1, 1, 1, 1, 1, 1, 1, 1, 1, 1, 1, 1, 1, 1, 1, 1, 1, 1, 1, 1, 1, 1, 1, 1, 1]), .inBlock 0, .code (sub (bodyOf Try.f38) [1, 1])] [(40, (.bool t_40))] w by kernel_rfl) h)
def api_MemSig.V (op_0 : Int) (R : Value → World → Prop) (w : World) : Prop :=
  (cond (op_0 == (40 : Int))
  (api_MemSig.L1 op_0 true R w)
  (api_MemSig.L1 op_0 (op_0 == (54 : Int)) R w))
theorem api_MemSig.enter (op_0 : Int) (R : Value → World → Prop) (w : World) (h : api_MemSig.V op_0 R w) : Runs Try.prog api_MemSig.id #[(.int .i64 op_0)] w R :=
  Runs.enter (c := bodyOf Try.f38) (N := 43) Try.func38 (by kernel_rfl) (by kernel_rfl) (by kernel_rfl) (seg_T good mixed Try.func38 600 false [.code (bodyOf Try.f38)] [(0, (.int .i64 op_0))] w (Eq.mp (show api_MemSig.V op_0 R w = seg Try.prog 38 43 Try.f38.results.toList api_MemSig.cuts R 600 false [.code (bodyOf Try.f38)] [(0, (.int .i64 op_0))] w by kernel_rfl) h))

/-! e2e/memlaw.BadReset -/
def memlaw_BadReset.cuts : List (Nat × List Nat) := [(6, [2]), (10, [2])]
def memlaw_BadReset.L1 (o_2 : Nat) (R : Value → World → Prop) (w : World) : Prop :=
  T Try.prog 39 54 [.code (sub (bodyOf Try.f39) [1, 1])] [(2, (.pointer (some ⟨o_2, 0, none⟩)))] w R
def memlaw_BadReset.L2 (o_2 : Nat) (R : Value → World → Prop) (w : World) : Prop :=
  T Try.prog 39 54 [.code (sub (bodyOf Try.f39) [1, 1, 1])] [(2, (.pointer (some ⟨o_2, 0, none⟩)))] w R
def memlaw_BadReset.V1 (o_2 : Nat) (R : Value → World → Prop) (w : World) : Prop :=
  (∃ x1 : Int, World.cell? w ⟨o_2, 2, none⟩ = some (.int .i64 x1) ∧ (cond (decide (x1 < (-1)))
  (R (.bool true) w)
  (∃ x2 : Int, World.cell? w ⟨o_2, 2, none⟩ = some (.int .i64 x2) ∧ (cond (x2 != (-1))
  (∃ x3 : Int, World.cell? w ⟨o_2, 2, none⟩ = some (.int .i64 x3) ∧ (∃ x4 : Int, World.cell? w ⟨o_2, 1, none⟩ = some (.int .i64 x4) ∧ (cond (decide (x3 < x4))
  (R (.bool true) w)
  (memlaw_BadReset.L2 o_2 R w))))
  (memlaw_BadReset.L2 o_2 R w)))))
theorem memlaw_BadReset.step1 (o_2 : Nat) (R : Value → World → Prop) (w : World) (h : memlaw_BadReset.V1 o_2 R w) : memlaw_BadReset.L1 o_2 R w :=
  seg_T good mixed Try.func39 600 false [.code (sub (bodyOf Try.f39) [1, 1])] [(2, (.pointer (some ⟨o_2, 0, none⟩)))] w (Eq.mp (show memlaw_BadReset.V1 o_2 R w = seg Try.prog 39 54 Try.f39.results.toList memlaw_BadReset.cuts R 600 false [.code (sub (bodyOf Try.f39) [1, 1])] [(2, (.pointer (some ⟨o_2, 0, none⟩)))] w by kernel_rfl) h)
def memlaw_BadReset.V2 (o_2 : Nat) (R : Value → World → Prop) (w : World) : Prop :=
  (∃ x1 : Int, World.cell? w ⟨o_2, 1, none⟩ = some (.int .i64 x1) ∧ (cond (x1 == (-1))
  (∃ x2 : Int, World.cell? w ⟨o_2, 2, none⟩ = some (.int .i64 x2) ∧ (R (.bool (x2 != (-1))) w))
  (R (.bool false) w)))
theorem memlaw_BadReset.step2 (o_2 : Nat) (R : Value → World → Prop) (w : World) (h : memlaw_BadReset.V2 o_2 R w) : memlaw_BadReset.L2 o_2 R w :=
  seg_T good mixed Try.func39 600 false [.code (sub (bodyOf Try.f39) [1, 1, 1])] [(2, (.pointer (some ⟨o_2, 0, none⟩)))] w (Eq.mp (show memlaw_BadReset.V2 o_2 R w = seg Try.prog 39 54 Try.f39.results.toList memlaw_BadReset.cuts R 600 false [.code (sub (bodyOf Try.f39) [1, 1, 1])] [(2, (.pointer (some ⟨o_2, 0, none⟩)))] w by kernel_rfl) h)
def memlaw_BadReset.V (o_0_1 : Int) (o_0_2 : Int) (o_0_3 : Int) (o_0_4 : Int) (o_0_5 : ByteArray) (o_0_6 : ByteArray) (r_1 : Int) (R : Value → World → Prop) (w : World) : Prop :=
  (letB (Array.size (World.heap w)) fun b8 => letW (World.alloc w (.cells #[(.int .i64 o_0_1), (.int .i64 o_0_2), (.int .i64 o_0_3), (.int .i64 o_0_4), (.string o_0_5), (.string o_0_6)] T_api_Op)) fun w9 => (∃ x10 : Int, World.cell? w9 ⟨b8, 1, none⟩ = some (.int .i64 x10) ∧ (cond (decide (x10 < (-1)))
  (R (.bool true) w9)
  (∃ x11 : Int, World.cell? w9 ⟨b8, 1, none⟩ = some (.int .i64 x11) ∧ (cond (decide (x11 > (6 : Int)))
  (R (.bool true) w9)
  (∃ x12 : Int, World.cell? w9 ⟨b8, 3, none⟩ = some (.int .i64 x12) ∧ (cond (decide (x12 < (-1)))
  (R (.bool true) w9)
  (∃ x13 : Int, World.cell? w9 ⟨b8, 3, none⟩ = some (.int .i64 x13) ∧ (cond (decide (x13 > (8 : Int)))
  (R (.bool true) w9)
  (cond (decide (r_1 < (0 : Int)))
  (R (.bool true) w9)
  (cond (decide (r_1 > (4 : Int)))
  (R (.bool true) w9)
  (memlaw_BadReset.L1 b8 R w9))))))))))))
theorem memlaw_BadReset.enter (o_0_1 : Int) (o_0_2 : Int) (o_0_3 : Int) (o_0_4 : Int) (o_0_5 : ByteArray) (o_0_6 : ByteArray) (r_1 : Int) (R : Value → World → Prop) (w : World) (h : memlaw_BadReset.V o_0_1 o_0_2 o_0_3 o_0_4 o_0_5 o_0_6 r_1 R w) : Runs Try.prog memlaw_BadReset.id #[(.agg #[(.int .i64 o_0_1), (.int .i64 o_0_2), (.int .i64 o_0_3), (.int .i64 o_0_4), (.string o_0_5), (.string o_0_6)]), (.int .i64 r_1)] w R :=
  Runs.enter (c := bodyOf Try.f39) (N := 54) Try.func39 (by kernel_rfl) (by kernel_rfl) (by kernel_rfl) (seg_T good mixed Try.func39 600 false [.code (bodyOf Try.f39)] [(0, (.agg #[(.int .i64 o_0_1), (.int .i64 o_0_2), (.int .i64 o_0_3), (.int .i64 o_0_4), (.string o_0_5), (.string o_0_6)])), (1, (.int .i64 r_1))] w (Eq.mp (show memlaw_BadReset.V o_0_1 o_0_2 o_0_3 o_0_4 o_0_5 o_0_6 r_1 R w = seg Try.prog 39 54 Try.f39.results.toList memlaw_BadReset.cuts R 600 false [.code (bodyOf Try.f39)] [(0, (.agg #[(.int .i64 o_0_1), (.int .i64 o_0_2), (.int .i64 o_0_3), (.int .i64 o_0_4), (.string o_0_5), (.string o_0_6)])), (1, (.int .i64 r_1))] w by kernel_rfl) h))

/-! e2e/memlaw.More -/
def memlaw_More.cuts : List (Nat × List Nat) := [(3, [0, 1, 4])]
def memlaw_More.L1 (g_0 : Option Addr) (n_1 : Int) (i_4 : Int) (R : Value → World → Prop) (w : World) : Prop :=
  T Try.prog 40 24 [.inLoop (sub (bodyOf Try.f40) [0, 1, 0, 0]), .inBlock 0, .code (sub (bodyOf Try.f40) [1])] [(0, (.pointer g_0)), (1, (.int .i64 n_1)), (4, (.int .i64 i_4))] w R
def memlaw_More.V1 (g_0 : Option Addr) (n_1 : Int) (i_4 : Int) (R : Value → World → Prop) (w : World) : Prop :=
  (cond (decide (i_4 < n_1))
  (nilV g_0 fun a1 => (∃ x2 : Option Addr, ∃ x3 : Nat, ∃ x4 : Nat, World.cell? w ⟨(Addr.block a1), (Addr.off a1 + 5), none⟩ = some (.slice x2 x3 x4) ∧ ((0 ≤ i_4 ∧ i_4 < ((x3 : Nat) : Int)) ∧ nilV x2 fun a5 => (can w (Addr.add a5 (Int.toNat i_4 * 1)) ∧ letW (World.setCell w (Addr.add a5 (Int.toNat i_4 * 1)) (.int .u8 0)) fun w6 => (memlaw_More.L1 g_0 n_1 (IntKind.wrap .i64 (i_4 + (1 : Int))) R w6)))))
  (nilV g_0 fun a7 => (can w ⟨(Addr.block a7), (Addr.off a7 + 1), none⟩ ∧ letW (World.setCell w ⟨(Addr.block a7), (Addr.off a7 + 1), none⟩ (.int .i64 n_1)) fun w8 => (R (.tuple #[]) w8))))
theorem memlaw_More.step1 (g_0 : Option Addr) (n_1 : Int) (i_4 : Int) (R : Value → World → Prop) (w : World) (h : memlaw_More.V1 g_0 n_1 i_4 R w) : memlaw_More.L1 g_0 n_1 i_4 R w :=
  seg_T good mixed Try.func40 600 false [.inLoop (sub (bodyOf Try.f40) [0, 1, 0, 0]), .inBlock 0, .code (sub (bodyOf Try.f40) [1])] [(0, (.pointer g_0)), (1, (.int .i64 n_1)), (4, (.int .i64 i_4))] w (Eq.mp (show memlaw_More.V1 g_0 n_1 i_4 R w = seg Try.prog 40 24 Try.f40.results.toList memlaw_More.cuts R 600 false [.inLoop (sub (bodyOf Try.f40) [0, 1, 0, 0]), .inBlock 0, .code (sub (bodyOf Try.f40) [1])] [(0, (.pointer g_0)), (1, (.int .i64 n_1)), (4, (.int .i64 i_4))] w by kernel_rfl) h)
def memlaw_More.V (g_0 : Option Addr) (n_1 : Int) (R : Value → World → Prop) (w : World) : Prop :=
  (nilV g_0 fun a3 => (∃ x4 : Int, World.cell? w ⟨(Addr.block a3), (Addr.off a3 + 1), none⟩ = some (.int .i64 x4) ∧ (memlaw_More.L1 g_0 n_1 x4 R w)))
theorem memlaw_More.enter (g_0 : Option Addr) (n_1 : Int) (R : Value → World → Prop) (w : World) (h : memlaw_More.V g_0 n_1 R w) : Runs Try.prog memlaw_More.id #[(.pointer g_0), (.int .i64 n_1)] w R :=
  Runs.enter (c := bodyOf Try.f40) (N := 24) Try.func40 (by kernel_rfl) (by kernel_rfl) (by kernel_rfl) (seg_T good mixed Try.func40 600 false [.code (bodyOf Try.f40)] [(0, (.pointer g_0)), (1, (.int .i64 n_1))] w (Eq.mp (show memlaw_More.V g_0 n_1 R w = seg Try.prog 40 24 Try.f40.results.toList memlaw_More.cuts R 600 false [.code (bodyOf Try.f40)] [(0, (.pointer g_0)), (1, (.int .i64 n_1))] w by kernel_rfl) h))

/-! e2e/memlaw.Mem -/
def memlaw_Mem.cuts : List (Nat × List Nat) := []
def memlaw_Mem.V (g_0 : Option Addr) (R : Value → World → Prop) (w : World) : Prop :=
  (nilV g_0 fun a2 => (∃ x3 : Bool, World.cell? w a2 = some (.bool x3) ∧ (cond (!x3)
  (R (.string ⟨#[109, 101, 109, 32, 45, 32, 116, 97, 98]⟩) w)
  (nilV g_0 fun a4 => (∃ x5 : Int, World.cell? w ⟨(Addr.block a4), (Addr.off a4 + 2), none⟩ = some (.int .i64 x5) ∧ (Runs Try.prog api_Itoa.id #[(.int .i64 (IntKind.wrap .i64 (Int.tdiv x5 64)))] w fun r6 w7 => (∃ x8 : ByteArray, (r6 = (.string x8) ∧ ((World.drew w7) = (World.drew w7) ∧ (nilV g_0 fun a9 => ((World.drew w7) = (World.drew w7) ∧ ((World.drew w7) = (World.drew w7) ∧ (∃ x10 : Option Addr, ∃ x11 : Nat, ∃ x12 : Nat, World.cell? (World.drew w7) ⟨(Addr.block a9), (Addr.off a9 + 5), none⟩ = some (.slice x10 x11 x12) ∧ ((World.drew w7) = (World.drew w7) ∧ ((World.drew w7) = (World.drew w7) ∧ (nilV g_0 fun a13 => ((World.drew w7) = (World.drew w7) ∧ ((World.drew w7) = (World.drew w7) ∧ (∃ x14 : Int, World.cell? (World.drew w7) ⟨(Addr.block a13), (Addr.off a13 + 1), none⟩ = some (.int .i64 x14) ∧ ((World.drew w7) = (World.drew w7) ∧ ((0 ≤ (0 : Int) ∧ (0 : Int) ≤ x14 ∧ x14 ≤ ((x12 : Nat) : Int) ∧ ((x12 : Nat) : Int) ≤ ((x12 : Nat) : Int)) ∧ ((World.drew w7) = (World.drew w7) ∧ (∃ x16 : ByteArray, ∃ w15, Sem.run Try.prog (Go.convert T_sl_uint8 T_string (.slice (slAddr x10 0 x12 1) ((Int.toNat x14) - 0) (x12 - 0))) (World.drew w7) = .ok (.string x16) w15 ∧ (w15 = (World.drew w7) ∧ (Runs Try.prog api_HexStr.id #[(.string x16)] (World.drew w7) fun r17 w18 => (∃ x19 : ByteArray, (r17 = (.string x19) ∧ (((ByteArray.size ⟨#[109, 101, 109, 32]⟩ + ByteArray.size x8 : Nat) : Int) ≤ 9223372036854775807 ∧ (((ByteArray.size ((⟨#[109, 101, 109, 32]⟩ : ByteArray) ++ x8) + ByteArray.size ⟨#[32]⟩ : Nat) : Int) ≤ 9223372036854775807 ∧ (((ByteArray.size (((⟨#[109, 101, 109, 32]⟩ : ByteArray) ++ x8) ++ (⟨#[32]⟩ : ByteArray)) + ByteArray.size x19 : Nat) : Int) ≤ 9223372036854775807 ∧ (((ByteArray.size ((((⟨#[109, 101, 109, 32]⟩ : ByteArray) ++ x8) ++ (⟨#[32]⟩ : ByteArray)) ++ x19) + ByteArray.size ⟨#[32, 116, 97, 98]⟩ : Nat) : Int) ≤ 9223372036854775807 ∧ (R (.string (((((⟨#[109, 101, 109, 32]⟩ : ByteArray) ++ x8) ++ (⟨#[32]⟩ : ByteArray)) ++ x19) ++ (⟨#[32, 116, 97, 98]⟩ : ByteArray))) w18))))))))))))))))))))))))))))))))
theorem memlaw_Mem.enter (g_0 : Option Addr) (R : Value → World → Prop) (w : World) (h : memlaw_Mem.V g_0 R w) : Runs Try.prog memlaw_Mem.id #[(.pointer g_0)] w R :=
  Runs.enter (c := bodyOf Try.f41) (N := 33) Try.func41 (by kernel_rfl) (by kernel_rfl) (by kernel_rfl) (seg_T good mixed Try.func41 600 false [.code (bodyOf Try.f41)] [(0, (.pointer g_0))] w (Eq.mp (show memlaw_Mem.V g_0 R w = seg Try.prog 41 33 Try.f41.results.toList memlaw_Mem.cuts R 600 false [.code (bodyOf Try.f41)] [(0, (.pointer g_0))] w by kernel_rfl) h))

/-! e2e/api.Cut -/
def api_Cut.cuts : List (Nat × List Nat) := [(4, [1, 10])]
def api_Cut.L1 (v_1 : Int) (t_10 : Bool) (R : Value → World → Prop) (w : World) : Prop :=
  T Try.prog 42 14 [.code (sub (bodyOf Try.f42) [1, 0, 1]), .code (sub (bodyOf Try.f42) [1, 1])] [(1, (.int .u64 v_1)), (10, (.bool t_10))] w R
def api_Cut.V1 (v_1 : Int) (t_10 : Bool) (R : Value → World → Prop) (w : World) : Prop :=
  (cond t_10
  (R (.int .u64 (bAnd .u64 v_1 4294967295)) w)
  (R (.int .u64 v_1) w))
theorem api_Cut.step1 (v_1 : Int) (t_10 : Bool) (R : Value → World → Prop) (w : World) (h : api_Cut.V1 v_1 t_10 R w) : api_Cut.L1 v_1 t_10 R w :=
  seg_T good mixed Try.func42 600 false [.code (sub (bodyOf Try.f42) [1, 0, 1]), .code (sub (bodyOf Try.f42) [1, 1])] [(1, (.int .u64 v_1)), (10, (.bool t_10))] w (Eq.mp (show api_Cut.V1 v_1 t_10 R w = seg Try.prog 42 14 Try.f42.results.toList api_Cut.cuts R 600 false [.code (sub (bodyOf Try.f42) [1, 0, 1]), .code (sub (bodyOf Try.f42) [1, 1])] [(1, (.int .u64 v_1)), (10, (.bool t_10))] w by kernel_rfl) h)
def api_Cut.V (t_0 : Int) (v_1 : Int) (R : Value → World → Prop) (w : World) : Prop :=
  (cond (t_0 == (127 : Int))
  (api_Cut.L1 v_1 true R w)
  (api_Cut.L1 v_1 (t_0 == (125 : Int)) R w))
theorem api_Cut.enter (t_0 : Int) (v_1 : Int) (R : Value → World → Prop) (w : World) (h : api_Cut.V t_0 v_1 R w) : Runs Try.prog api_Cut.id #[(.int .u8 t_0), (.int .u64 v_1)] w R :=
  Runs.enter (c := bodyOf Try.f42) (N := 14) Try.func42 (by kernel_rfl) (by kernel_rfl) (by kernel_rfl) (seg_T good mixed Try.func42 600 false [.code (bodyOf Try.f42)] [(0, (.int .u8 t_0)), (1, (.int .u64 v_1))] w (Eq.mp (show api_Cut.V t_0 v_1 R w = seg Try.prog 42 14 Try.f42.results.toList api_Cut.cuts R 600 false [.code (bodyOf Try.f42)] [(0, (.int .u8 t_0)), (1, (.int .u64 v_1))] w by kernel_rfl) h))

/-! (*e2e/memm.Store).Show -/
def memm_Store_Show.cuts : List (Nat × List Nat) := [(12, [0, 3]), (17, [0, 3, 6]), (29, [0, 3, 8])]
def memm_Store_Show.L1 (s_0 : Option Addr) (t_3 : ByteArray) (R : Value → World → Prop) (w : World) : Prop :=
  T Try.prog 43 77 [.code (sub (bodyOf Try.f43) [1, 1, 1])] [(0, (.pointer s_0)), (3, (.string t_3))] w R
def memm_Store_Show.L2 (s_0 : Option Addr) (t_3 : ByteArray) (i_6 : Int) (R : Value → World → Prop) (w : World) : Prop :=
  T Try.prog 43 77 [.inLoop (sub (bodyOf Try.f43) [1, 1, 1, 1, 0, 1, 0, 0]), .inBlock 0, .code (sub (bodyOf Try.f43) [1, 1, 1, 1, 1])] [(0, (.pointer s_0)), (3, (.string t_3)), (6, (.int .i64 i_6))] w R
def memm_Store_Show.L3 (s_0 : Option Addr) (t_3 : ByteArray) (i_8 : Int) (R : Value → World → Prop) (w : World) : Prop :=
  T Try.prog 43 77 [.inLoop (sub (bodyOf Try.f43) [1, 1, 1, 1, 1, 1, 0, 1, 0, 0]), .inBlock 2, .code (sub (bodyOf Try.f43) [1, 1, 1, 1, 1, 1, 1])] [(0, (.pointer s_0)), (3, (.string t_3)), (8, (.int .i64 i_8))] w R
def memm_Store_Show.V1 (s_0 : Option Addr) (t_3 : ByteArray) (R : Value → World → Prop) (w : World) : Prop :=
  (((ByteArray.size t_3 + ByteArray.size ⟨#[32, 116, 97, 98]⟩ : Nat) : Int) ≤ 9223372036854775807 ∧ (memm_Store_Show.L2 s_0 (t_3 ++ (⟨#[32, 116, 97, 98]⟩ : ByteArray)) 0 R w))
theorem memm_Store_Show.step1 (s_0 : Option Addr) (t_3 : ByteArray) (R : Value → World → Prop) (w : World) (h : memm_Store_Show.V1 s_0 t_3 R w) : memm_Store_Show.L1 s_0 t_3 R w :=
  seg_T good mixed Try.func43 600 false [.code (sub (bodyOf Try.f43) [1, 1, 1])] [(0, (.pointer s_0)), (3, (.string t_3))] w (Eq.mp (show memm_Store_Show.V1 s_0 t_3 R w = seg Try.prog 43 77 Try.f43.results.toList memm_Store_Show.cuts R 600 false [.code (sub (bodyOf Try.f43) [1, 1, 1])] [(0, (.pointer s_0)), (3, (.string t_3))] w by kernel_rfl) h)
def memm_Store_Show.V2 (s_0 : Option Addr) (t_3 : ByteArray) (i_6 : Int) (R : Value → World → Prop) (w : World) : Prop :=
  (nilV s_0 fun a1 => (∃ x2 : Option Addr, ∃ x3 : Nat, ∃ x4 : Nat, World.cell? w ⟨(Addr.block a1), (Addr.off a1 + 3), none⟩ = some (.slice x2 x3 x4) ∧ (cond (decide (i_6 < ((x3 : Nat) : Int)))
  (nilV s_0 fun a5 => (∃ x6 : Option Addr, ∃ x7 : Nat, ∃ x8 : Nat, World.cell? w ⟨(Addr.block a5), (Addr.off a5 + 3), none⟩ = some (.slice x6 x7 x8) ∧ ((0 ≤ i_6 ∧ i_6 < ((x7 : Nat) : Int)) ∧ nilV x6 fun a9 => (∃ x10 : Int, World.cell? w (Addr.add a9 (Int.toNat i_6 * 1)) = some (.int .i64 x10) ∧ (Runs Try.prog api_Itoa.id #[(.int .i64 x10)] w fun r11 w12 => (∃ x13 : ByteArray, (r11 = (.string x13) ∧ (((ByteArray.size t_3 + ByteArray.size ⟨#[32]⟩ : Nat) : Int) ≤ 9223372036854775807 ∧ (((ByteArray.size (t_3 ++ (⟨#[32]⟩ : ByteArray)) + ByteArray.size x13 : Nat) : Int) ≤ 9223372036854775807 ∧ (memm_Store_Show.L2 s_0 ((t_3 ++ (⟨#[32]⟩ : ByteArray)) ++ x13) (IntKind.wrap .i64 (i_6 + (1 : Int))) R w12))))))))))
  (((ByteArray.size t_3 + ByteArray.size ⟨#[32, 103, 108, 111, 98]⟩ : Nat) : Int) ≤ 9223372036854775807 ∧ (memm_Store_Show.L3 s_0 (t_3 ++ (⟨#[32, 103, 108, 111, 98]⟩ : ByteArray)) 0 R w)))))
theorem memm_Store_Show.step2 (s_0 : Option Addr) (t_3 : ByteArray) (i_6 : Int) (R : Value → World → Prop) (w : World) (h : memm_Store_Show.V2 s_0 t_3 i_6 R w) : memm_Store_Show.L2 s_0 t_3 i_6 R w :=
  seg_T good mixed Try.func43 600 false [.inLoop (sub (bodyOf Try.f43) [1, 1, 1, 1, 0, 1, 0, 0]), .inBlock 0, .code (sub (bodyOf Try.f43) [1, 1, 1, 1, 1])] [(0, (.pointer s_0)), (3, (.string t_3)), (6, (.int .i64 i_6))] w (Eq.mp (show memm_Store_Show.V2 s_0 t_3 i_6 R w = seg Try.prog 43 77 Try.f43.results.toList memm_Store_Show.cuts R 600 false [.inLoop (sub (bodyOf Try.f43) [1, 1, 1, 1, 0, 1, 0, 0]), .inBlock 0, .code (sub (bodyOf Try.f43) [1, 1, 1, 1, 1])] [(0, (.pointer s_0)), (3, (.string t_3)), (6, (.int .i64 i_6))] w by kernel_rfl) h)
def memm_Store_Show.V3 (s_0 : Option Addr) (t_3 : ByteArray) (i_8 : Int) (R : Value → World → Prop) (w : World) : Prop :=
  (nilV s_0 fun a1 => (∃ x2 : Option Addr, ∃ x3 : Nat, ∃ x4 : Nat, World.cell? w ⟨(Addr.block a1), (Addr.off a1 + 4), none⟩ = some (.slice x2 x3 x4) ∧ (cond (decide (i_8 < ((x3 : Nat) : Int)))
  (nilV s_0 fun a5 => (∃ x6 : Option Addr, ∃ x7 : Nat, ∃ x8 : Nat, World.cell? w ⟨(Addr.block a5), (Addr.off a5 + 4), none⟩ = some (.slice x6 x7 x8) ∧ ((0 ≤ i_8 ∧ i_8 < ((x7 : Nat) : Int)) ∧ nilV x6 fun a9 => (∃ x10 : Int, World.cell? w (Addr.add a9 (Int.toNat i_8 * 1)) = some (.int .u64 x10) ∧ (Runs Try.prog api_Hex.id #[(.int .u64 x10), (.int .i64 16)] w fun r11 w12 => (∃ x13 : ByteArray, (r11 = (.string x13) ∧ (((ByteArray.size t_3 + ByteArray.size ⟨#[32]⟩ : Nat) : Int) ≤ 9223372036854775807 ∧ (((ByteArray.size (t_3 ++ (⟨#[32]⟩ : ByteArray)) + ByteArray.size x13 : Nat) : Int) ≤ 9223372036854775807 ∧ (memm_Store_Show.L3 s_0 ((t_3 ++ (⟨#[32]⟩ : ByteArray)) ++ x13) (IntKind.wrap .i64 (i_8 + (1 : Int))) R w12))))))))))
  (R (.string t_3) w))))
theorem memm_Store_Show.step3 (s_0 : Option Addr) (t_3 : ByteArray) (i_8 : Int) (R : Value → World → Prop) (w : World) (h : memm_Store_Show.V3 s_0 t_3 i_8 R w) : memm_Store_Show.L3 s_0 t_3 i_8 R w :=
  seg_T good mixed Try.func43 600 false [.inLoop (sub (bodyOf Try.f43) [1, 1, 1, 1, 1, 1, 0, 1, 0, 0]), .inBlock 2, .code (sub (bodyOf Try.f43) [1, 1, 1, 1, 1, 1, 1])] [(0, (.pointer s_0)), (3, (.string t_3)), (8, (.int .i64 i_8))] w (Eq.mp (show memm_Store_Show.V3 s_0 t_3 i_8 R w = seg Try.prog 43 77 Try.f43.results.toList memm_Store_Show.cuts R 600 false [.inLoop (sub (bodyOf Try.f43) [1, 1, 1, 1, 1, 1, 0, 1, 0, 0]), .inBlock 2, .code (sub (bodyOf Try.f43) [1, 1, 1, 1, 1, 1, 1])] [(0, (.pointer s_0)), (3, (.string t_3)), (8, (.int .i64 i_8))] w by kernel_rfl) h)
def memm_Store_Show.V (s_0 : Option Addr) (R : Value → World → Prop) (w : World) : Prop :=
  (nilV s_0 fun a2 => (∃ x3 : Bool, World.cell? w a2 = some (.bool x3) ∧ (cond x3
  (nilV s_0 fun a4 => (∃ x5 : Int, World.cell? w ⟨(Addr.block a4), (Addr.off a4 + 2), none⟩ = some (.int .i64 x5) ∧ (Runs Try.prog api_Itoa.id #[(.int .i64 x5)] w fun r6 w7 => (∃ x8 : ByteArray, (r6 = (.string x8) ∧ (nilV s_0 fun a9 => (∃ x10 : Option Addr, ∃ x11 : Nat, ∃ x12 : Nat, World.cell? w7 ⟨(Addr.block a9), (Addr.off a9 + 1), none⟩ = some (.slice x10 x11 x12) ∧ (∃ x14 : ByteArray, ∃ w13, Sem.run Try.prog (Go.convert T_sl_uint8 T_string (.slice x10 x11 x12)) w7 = .ok (.string x14) w13 ∧ (Runs Try.prog api_HexStr.id #[(.string x14)] w13 fun r15 w16 => (∃ x17 : ByteArray, (r15 = (.string x17) ∧ (((ByteArray.size ⟨#[109, 101, 109, 32]⟩ + ByteArray.size x8 : Nat) : Int) ≤ 9223372036854775807 ∧ (((ByteArray.size ((⟨#[109, 101, 109, 32]⟩ : ByteArray) ++ x8) + ByteArray.size ⟨#[32]⟩ : Nat) : Int) ≤ 9223372036854775807 ∧ (((ByteArray.size (((⟨#[109, 101, 109, 32]⟩ : ByteArray) ++ x8) ++ (⟨#[32]⟩ : ByteArray)) + ByteArray.size x17 : Nat) : Int) ≤ 9223372036854775807 ∧ (memm_Store_Show.L1 s_0 ((((⟨#[109, 101, 109, 32]⟩ : ByteArray) ++ x8) ++ (⟨#[32]⟩ : ByteArray)) ++ x17) R w16)))))))))))))))
  (memm_Store_Show.L1 s_0 ⟨#[109, 101, 109, 32, 45]⟩ R w))))
theorem memm_Store_Show.enter (s_0 : Option Addr) (R : Value → World → Prop) (w : World) (h : memm_Store_Show.V s_0 R w) : Runs Try.prog memm_Store_Show.id #[(.pointer s_0)] w R :=
  Runs.enter (c := bodyOf Try.f43) (N := 77) Try.func43 (by kernel_rfl) (by kernel_rfl) (by kernel_rfl) (seg_T good mixed Try.func43 600 false [.code (bodyOf Try.f43)] [(0, (.pointer s_0))] w (Eq.mp (show memm_Store_Show.V s_0 R w = seg Try.prog 43 77 Try.f43.results.toList memm_Store_Show.cuts R 600 false [.code (bodyOf Try.f43)] [(0, (.pointer s_0))] w by kernel_rfl) h))

/-! (*e2e/memm.Store).Reset -/
def memm_Store_Reset.cuts : List (Nat × List Nat) := [(6, [0, 1, 2, 3, 4]), (10, [0, 1, 2, 3, 4]), (14, [0, 1, 2, 3, 4]), (18, [0, 1, 2, 3, 4]), (22, [0, 1, 2, 3, 4]), (36, [0, 2, 3, 4, 76]), (38, [0, 3, 4]), (43, [0, 3, 4, 11])]
def memm_Store_Reset.L1 (s_0 : Option Addr) (memMin_1 : Int) (memMax_2 : Int) (tabMin_3 : Int) (globals_4 : Int) (R : Value → World → Prop) (w : World) : Prop :=
  T Try.prog 44 103 [.code (sub (bodyOf Try.f44) [1, 1])] [(0, (.pointer s_0)), (1, (.int .i64 memMin_1)), (2, (.int .i64 memMax_2)), (3, (.int .i64 tabMin_3)), (4, (.int .i64 globals_4))] w R
def memm_Store_Reset.L2 (s_0 : Option Addr) (memMin_1 : Int) (memMax_2 : Int) (tabMin_3 : Int) (globals_4 : Int) (R : Value → World → Prop) (w : World) : Prop :=
  T Try.prog 44 103 [.code (sub (bodyOf Try.f44) [1, 1, 1])] [(0, (.pointer s_0)), (1, (.int .i64 memMin_1)), (2, (.int .i64 memMax_2)), (3, (.int .i64 tabMin_3)), (4, (.int .i64 globals_4))] w R
def memm_Store_Reset.L3 (s_0 : Option Addr) (memMin_1 : Int) (memMax_2 : Int) (tabMin_3 : Int) (globals_4 : Int) (R : Value → World → Prop) (w : World) : Prop :=
  T Try.prog 44 103 [.code (sub (bodyOf Try.f44) [1, 1, 1, 1])] [(0, (.pointer s_0)), (1, (.int .i64 memMin_1)), (2, (.int .i64 memMax_2)), (3, (.int .i64 tabMin_3)), (4, (.int .i64 globals_4))] w R
def memm_Store_Reset.L4 (s_0 : Option Addr) (memMin_1 : Int) (memMax_2 : Int) (tabMin_3 : Int) (globals_4 : Int) (R : Value → World → Prop) (w : World) : Prop :=
  T Try.prog 44 103 [.code (sub (bodyOf Try.f44) [1, 1, 1, 1, 1])] [(0, (.pointer s_0)), (1, (.int .i64 memMin_1)), (2, (.int .i64 memMax_2)), (3, (.int .i64 tabMin_3)), (4, (.int .i64 globals_4))] w R
def memm_Store_Reset.L5 (s_0 : Option Addr) (memMin_1 : Int) (memMax_2 : Int) (tabMin_3 : Int) (globals_4 : Int) (R : Value → World → Prop) (w : World) : Prop :=
  T Try.prog 44 103 [.code (sub (bodyOf Try.f44) [1, 1, 1, 1, 1, 1])] [(0, (.pointer s_0)), (1, (.int .i64 memMin_1)), (2, (.int .i64 memMax_2)), (3, (.int .i64 tabMin_3)), (4, (.int .i64 globals_4))] w R
def memm_Store_Reset.L6 (s_0 : Option Addr) (memMax_2 : Int) (tabMin_3 : Int) (globals_4 : Int) (t_76 : Bool) (R : Value → World → Prop) (w : World) : Prop :=
  T Try.prog 44 103 [.code (sub (bodyOf Try.f44) [1, 1, 1, 1, 1, 1, 1, 1, 1, 0, 1, 0, 1, 1, 1]), .code (sub (bodyOf Try.f44) [1, 1, 1, 1, 1, 1, 1, 1, 1, 1])] [(0, (.pointer s_0)), (2, (.int .i64 memMax_2)), (3, (.int .i64 tabMin_3)), (4, (.int .i64 globals_4)), (76, (.bool t_76))] w R
def memm_Store_Reset.L7 (s_0 : Option Addr) (tabMin_3 : Int) (globals_4 : Int) (R : Value → World → Prop) (w : World) : Prop :=
  T Try.prog 44 103 [.code (sub (bodyOf Try.f44) [1, 1, 1, 1, 1, 1, 1, 1, 1, 1])] [(0, (.pointer s_0)), (3, (.int .i64 tabMin_3)), (4, (.int .i64 globals_4))] w R
def memm_Store_Reset.L8 (s_0 : Option Addr) (tabMin_3 : Int) (globals_4 : Int) (i_11 : Int) (R : Value → World → Prop) (w : World) : Prop :=
  T Try.prog 44 103 [.inLoop (sub (bodyOf Try.f44) [1, 1, 1, 1, 1, 1, 1, 1, 1, 1, 1, 0, 1, 0, 0]), .inBlock 0, .code (sub (bodyOf Try.f44) [1, 1, 1, 1, 1, 1, 1, 1, 1, 1, 1, 1])] [(0, (.pointer s_0)), (3, (.int .i64 tabMin_3)), (4, (.int .i64 globals_4)), (11, (.int .i64 i_11))] w R
def memm_Store_Reset.V1 (s_0 : Option Addr) (memMin_1 : Int) (memMax_2 : Int) (tabMin_3 : Int) (globals_4 : Int) (R : Value → World → Prop) (w : World) : Prop :=
  (cond (decide (memMax_2 < (-1)))
  (R (.int .i64 36) w)
  (cond (memMax_2 != (-1))
  (cond (decide (memMax_2 < memMin_1))
  (R (.int .i64 36) w)
  (memm_Store_Reset.L2 s_0 memMin_1 memMax_2 tabMin_3 globals_4 R w))
  (memm_Store_Reset.L2 s_0 memMin_1 memMax_2 tabMin_3 globals_4 R w)))
theorem memm_Store_Reset.step1 (s_0 : Option Addr) (memMin_1 : Int) (memMax_2 : Int) (tabMin_3 : Int) (globals_4 : Int) (R : Value → World → Prop) (w : World) (h : memm_Store_Reset.V1 s_0 memMin_1 memMax_2 tabMin_3 globals_4 R w) : memm_Store_Reset.L1 s_0 memMin_1 memMax_2 tabMin_3 globals_4 R w :=
  seg_T good mixed Try.func44 600 false [.code (sub (bodyOf Try.f44) [1, 1])] [(0, (.pointer s_0)), (1, (.int .i64 memMin_1)), (2, (.int .i64 memMax_2)), (3, (.int .i64 tabMin_3)), (4, (.int .i64 globals_4))] w (Eq.mp (show memm_Store_Reset.V1 s_0 memMin_1 memMax_2 tabMin_3 globals_4 R w = seg Try.prog 44 103 Try.f44.results.toList memm_Store_Reset.cuts R 600 false [.code (sub (bodyOf Try.f44) [1, 1])] [(0, (.pointer s_0)), (1, (.int .i64 memMin_1)), (2, (.int .i64 memMax_2)), (3, (.int .i64 tabMin_3)), (4, (.int .i64 globals_4))] w by kernel_rfl) h)
def memm_Store_Reset.V2 (s_0 : Option Addr) (memMin_1 : Int) (memMax_2 : Int) (tabMin_3 : Int) (globals_4 : Int) (R : Value → World → Prop) (w : World) : Prop :=
  (cond (memMin_1 == (-1))
  (cond (memMax_2 != (-1))
  (R (.int .i64 36) w)
  (memm_Store_Reset.L3 s_0 memMin_1 memMax_2 tabMin_3 globals_4 R w))
  (memm_Store_Reset.L3 s_0 memMin_1 memMax_2 tabMin_3 globals_4 R w))
theorem memm_Store_Reset.step2 (s_0 : Option Addr) (memMin_1 : Int) (memMax_2 : Int) (tabMin_3 : Int) (globals_4 : Int) (R : Value → World → Prop) (w : World) (h : memm_Store_Reset.V2 s_0 memMin_1 memMax_2 tabMin_3 globals_4 R w) : memm_Store_Reset.L2 s_0 memMin_1 memMax_2 tabMin_3 globals_4 R w :=
  seg_T good mixed Try.func44 600 false [.code (sub (bodyOf Try.f44) [1, 1, 1])] [(0, (.pointer s_0)), (1, (.int .i64 memMin_1)), (2, (.int .i64 memMax_2)), (3, (.int .i64 tabMin_3)), (4, (.int .i64 globals_4))] w (Eq.mp (show memm_Store_Reset.V2 s_0 memMin_1 memMax_2 tabMin_3 globals_4 R w = seg Try.prog 44 103 Try.f44.results.toList memm_Store_Reset.cuts R 600 false [.code (sub (bodyOf Try.f44) [1, 1, 1])] [(0, (.pointer s_0)), (1, (.int .i64 memMin_1)), (2, (.int .i64 memMax_2)), (3, (.int .i64 tabMin_3)), (4, (.int .i64 globals_4))] w by kernel_rfl) h)
def memm_Store_Reset.V3 (s_0 : Option Addr) (memMin_1 : Int) (memMax_2 : Int) (tabMin_3 : Int) (globals_4 : Int) (R : Value → World → Prop) (w : World) : Prop :=
  (cond (decide (tabMin_3 < (-1)))
  (R (.int .i64 36) w)
  (cond (decide (tabMin_3 > (8 : Int)))
  (R (.int .i64 36) w)
  (memm_Store_Reset.L4 s_0 memMin_1 memMax_2 tabMin_3 globals_4 R w)))
theorem memm_Store_Reset.step3 (s_0 : Option Addr) (memMin_1 : Int) (memMax_2 : Int) (tabMin_3 : Int) (globals_4 : Int) (R : Value → World → Prop) (w : World) (h : memm_Store_Reset.V3 s_0 memMin_1 memMax_2 tabMin_3 globals_4 R w) : memm_Store_Reset.L3 s_0 memMin_1 memMax_2 tabMin_3 globals_4 R w :=
  seg_T good mixed Try.func44 600 false [.code (sub (bodyOf Try.f44) [1, 1, 1, 1])] [(0, (.pointer s_0)), (1, (.int .i64 memMin_1)), (2, (.int .i64 memMax_2)), (3, (.int .i64 tabMin_3)), (4, (.int .i64 globals_4))] w (Eq.mp (show memm_Store_Reset.V3 s_0 memMin_1 memMax_2 tabMin_3 globals_4 R w = seg Try.prog 44 103 Try.f44.results.toList memm_Store_Reset.cuts R 600 false [.code (sub (bodyOf Try.f44) [1, 1, 1, 1])] [(0, (.pointer s_0)), (1, (.int .i64 memMin_1)), (2, (.int .i64 memMax_2)), (3, (.int .i64 tabMin_3)), (4, (.int .i64 globals_4))] w by kernel_rfl) h)
def memm_Store_Reset.V4 (s_0 : Option Addr) (memMin_1 : Int) (memMax_2 : Int) (tabMin_3 : Int) (globals_4 : Int) (R : Value → World → Prop) (w : World) : Prop :=
  (cond (decide (globals_4 < (0 : Int)))
  (R (.int .i64 36) w)
  (cond (decide (globals_4 > (4 : Int)))
  (R (.int .i64 36) w)
  (memm_Store_Reset.L5 s_0 memMin_1 memMax_2 tabMin_3 globals_4 R w)))
theorem memm_Store_Reset.step4 (s_0 : Option Addr) (memMin_1 : Int) (memMax_2 : Int) (tabMin_3 : Int) (globals_4 : Int) (R : Value → World → Prop) (w : World) (h : memm_Store_Reset.V4 s_0 memMin_1 memMax_2 tabMin_3 globals_4 R w) : memm_Store_Reset.L4 s_0 memMin_1 memMax_2 tabMin_3 globals_4 R w :=
  seg_T good mixed Try.func44 600 false [.code (sub (bodyOf Try.f44) [1, 1, 1, 1, 1])] [(0, (.pointer s_0)), (1, (.int .i64 memMin_1)), (2, (.int .i64 memMax_2)), (3, (.int .i64 tabMin_3)), (4, (.int .i64 globals_4))] w (Eq.mp (show memm_Store_Reset.V4 s_0 memMin_1 memMax_2 tabMin_3 globals_4 R w = seg Try.prog 44 103 Try.f44.results.toList memm_Store_Reset.cuts R 600 false [.code (sub (bodyOf Try.f44) [1, 1, 1, 1, 1])] [(0, (.pointer s_0)), (1, (.int .i64 memMin_1)), (2, (.int .i64 memMax_2)), (3, (.int .i64 tabMin_3)), (4, (.int .i64 globals_4))] w by kernel_rfl) h)
def memm_Store_Reset.V5 (s_0 : Option Addr) (memMin_1 : Int) (memMax_2 : Int) (tabMin_3 : Int) (globals_4 : Int) (R : Value → World → Prop) (w : World) : Prop :=
  (nilV s_0 fun a1 => (can w a1 ∧ letW (World.setCell w a1 (.bool (decide (memMin_1 ≥ (0 : Int))))) fun w2 => (nilV s_0 fun a3 => (can w2 ⟨(Addr.block a3), (Addr.off a3 + 1), none⟩ ∧ letW (World.setCell w2 ⟨(Addr.block a3), (Addr.off a3 + 1), none⟩ (.slice none 0 0)) fun w4 => (nilV s_0 fun a5 => (can w4 ⟨(Addr.block a5), (Addr.off a5 + 2), none⟩ ∧ letW (World.setCell w4 ⟨(Addr.block a5), (Addr.off a5 + 2), none⟩ (.int .i64 0)) fun w6 => (nilV s_0 fun a7 => (∃ x8 : Bool, World.cell? w6 a7 = some (.bool x8) ∧ (cond x8
  (∃ x10 : Option Addr, ∃ x11 : Nat, ∃ x12 : Nat, ∃ w9, Sem.run Try.prog (Instr.makeSlice T_sl_uint8 (.int .i64 (IntKind.wrap .i64 (memMin_1 * (64 : Int)))) (.int .i64 (IntKind.wrap .i64 (memMin_1 * (64 : Int))))) w6 = .ok (.slice x10 x11 x12) w9 ∧ (nilV s_0 fun a13 => (can w9 ⟨(Addr.block a13), (Addr.off a13 + 1), none⟩ ∧ letW (World.setCell w9 ⟨(Addr.block a13), (Addr.off a13 + 1), none⟩ (.slice x10 x11 x12)) fun w14 => (nilV s_0 fun a15 => (can w14 ⟨(Addr.block a15), (Addr.off a15 + 2), none⟩ ∧ letW (World.setCell w14 ⟨(Addr.block a15), (Addr.off a15 + 2), none⟩ (.int .i64 6)) fun w16 => (cond (memMax_2 != (-1))
  (memm_Store_Reset.L6 s_0 memMax_2 tabMin_3 globals_4 (decide (memMax_2 < (6 : Int))) R w16)
  (memm_Store_Reset.L6 s_0 memMax_2 tabMin_3 globals_4 false R w16)))))))
  (memm_Store_Reset.L7 s_0 tabMin_3 globals_4 R w6))))))))))
theorem memm_Store_Reset.step5 (s_0 : Option Addr) (memMin_1 : Int) (memMax_2 : Int) (tabMin_3 : Int) (globals_4 : Int) (R : Value → World → Prop) (w : World) (h : memm_Store_Reset.V5 s_0 memMin_1 memMax_2 tabMin_3 globals_4 R w) : memm_Store_Reset.L5 s_0 memMin_1 memMax_2 tabMin_3 globals_4 R w :=
  seg_T good mixed Try.func44 600 false [.code (sub (bodyOf Try.f44) [1, 1, 1, 1, 1, 1])] [(0, (.pointer s_0)), (1, (.int .i64 memMin_1)), (2, (.int .i64 memMax_2)), (3, (.int .i64 tabMin_3)), (4, (.int .i64 globals_4))] w (Eq.mp (show memm_Store_Reset.V5 s_0 memMin_1 memMax_2 tabMin_3 globals_4 R w = seg Try.prog 44 103 Try.f44.results.toList memm_Store_Reset.cuts R 600 false [.code (sub (bodyOf Try.f44) [1, 1, 1, 1, 1, 1])] [(0, (.pointer s_0)), (1, (.int .i64 memMin_1)), (2, (.int .i64 memMax_2)), (3, (.int .i64 tabMin_3)), (4, (.int .i64 globals_4))] w by kernel_rfl) h)
def memm_Store_Reset.V6 (s_0 : Option Addr) (memMax_2 : Int) (tabMin_3 : Int) (globals_4 : Int) (t_76 : Bool) (R : Value → World → Prop) (w : World) : Prop :=
  (cond t_76
  (nilV s_0 fun a1 => (can w ⟨(Addr.block a1), (Addr.off a1 + 2), none⟩ ∧ letW (World.setCell w ⟨(Addr.block a1), (Addr.off a1 + 2), none⟩ (.int .i64 memMax_2)) fun w2 => (memm_Store_Reset.L7 s_0 tabMin_3 globals_4 R w2)))
  (memm_Store_Reset.L7 s_0 tabMin_3 globals_4 R w))
theorem memm_Store_Reset.step6 (s_0 : Option Addr) (memMax_2 : Int) (tabMin_3 : Int) (globals_4 : Int) (t_76 : Bool) (R : Value → World → Prop) (w : World) (h : memm_Store_Reset.V6 s_0 memMax_2 tabMin_3 globals_4 t_76 R w) : memm_Store_Reset.L6 s_0 memMax_2 tabMin_3 globals_4 t_76 R w :=
  seg_T good mixed Try.func44 600 false [.code (sub (bodyOf Try.f44) [1, 1, 1, 1, 1, 1, 1, 1, 1, 0, 1, 0, 1, 1, 1]), .code (sub (bodyOf Try.f44) [1, 1, 1, 1, 1, 1, 1, 1, 1, 1])] [(0, (.pointer s_0)), (2, (.int .i64 memMax_2)), (3, (.int .i64 tabMin_3)), (4, (.int .i64 globals_4)), (76, (.bool t_76))] w (Eq.mp (show memm_Store_Reset.V6 s_0 memMax_2 tabMin_3 globals_4 t_76 R w = seg Try.prog 44 103 Try.f44.results.toList memm_Store_Reset.cuts R 600 false [.code (sub (bodyOf Try.f44) [1, 1, 1, 1, 1, 1, 1, 1, 1, 0, 1, 0, 1, 1, 1]), .code (sub (bodyOf Try.f44) [1, 1, 1, 1, 1, 1, 1, 1, 1, 1])] [(0, (.pointer s_0)), (2, (.int .i64 memMax_2)), (3, (.int .i64 tabMin_3)), (4, (.int .i64 globals_4)), (76, (.bool t_76))] w by kernel_rfl) h)
def memm_Store_Reset.V7 (s_0 : Option Addr) (tabMin_3 : Int) (globals_4 : Int) (R : Value → World → Prop) (w : World) : Prop :=
  (nilV s_0 fun a1 => (can w ⟨(Addr.block a1), (Addr.off a1 + 3), none⟩ ∧ letW (World.setCell w ⟨(Addr.block a1), (Addr.off a1 + 3), none⟩ (.slice none 0 0)) fun w2 => (memm_Store_Reset.L8 s_0 tabMin_3 globals_4 0 R w2)))
theorem memm_Store_Reset.step7 (s_0 : Option Addr) (tabMin_3 : Int) (globals_4 : Int) (R : Value → World → Prop) (w : World) (h : memm_Store_Reset.V7 s_0 tabMin_3 globals_4 R w) : memm_Store_Reset.L7 s_0 tabMin_3 globals_4 R w :=
  seg_T good mixed Try.func44 600 false [.code (sub (bodyOf Try.f44) [1, 1, 1, 1, 1, 1, 1, 1, 1, 1])] [(0, (.pointer s_0)), (3, (.int .i64 tabMin_3)), (4, (.int .i64 globals_4))] w (Eq.mp (show memm_Store_Reset.V7 s_0 tabMin_3 globals_4 R w = seg Try.prog 44 103 Try.f44.results.toList memm_Store_Reset.cuts R 600 false [.code (sub (bodyOf Try.f44) [1, 1, 1, 1, 1, 1, 1, 1, 1, 1])] [(0, (.pointer s_0)), (3, (.int .i64 tabMin_3)), (4, (.int .i64 globals_4))] w by kernel_rfl) h)
def memm_Store_Reset.V8 (s_0 : Option Addr) (tabMin_3 : Int) (globals_4 : Int) (i_11 : Int) (R : Value → World → Prop) (w : World) : Prop :=
  (cond (decide (i_11 < tabMin_3))
  (nilV s_0 fun a1 => (∃ x2 : Option Addr, ∃ x3 : Nat, ∃ x4 : Nat, World.cell? w ⟨(Addr.block a1), (Addr.off a1 + 3), none⟩ = some (.slice x2 x3 x4) ∧ (letB (Array.size (World.heap w)) fun b5 => letW (World.alloc w (.cells #[(.int .i64 (-1))] T_int)) fun w6 => (∃ x8 : Option Addr, ∃ x9 : Nat, ∃ x10 : Nat, ∃ w7, Sem.run Try.prog (Builtin.append_ #[T_sl_int, T_sl_int] T_sl_int #[(.slice x2 x3 x4), (.slice (some ⟨b5, 0, none⟩) 1 1)]) w6 = .ok (.slice x8 x9 x10) w7 ∧ (nilV s_0 fun a11 => (can w7 ⟨(Addr.block a11), (Addr.off a11 + 3), none⟩ ∧ letW (World.setCell w7 ⟨(Addr.block a11), (Addr.off a11 + 3), none⟩ (.slice x8 x9 x10)) fun w12 => (memm_Store_Reset.L8 s_0 tabMin_3 globals_4 (IntKind.wrap .i64 (i_11 + (1 : Int))) R w12)))))))
  (∃ x14 : Option Addr, ∃ x15 : Nat, ∃ x16 : Nat, ∃ w13, Sem.run Try.prog (Instr.makeSlice T_sl_uint64 (.int .i64 globals_4) (.int .i64 globals_4)) w = .ok (.slice x14 x15 x16) w13 ∧ (nilV s_0 fun a17 => (can w13 ⟨(Addr.block a17), (Addr.off a17 + 4), none⟩ ∧ letW (World.setCell w13 ⟨(Addr.block a17), (Addr.off a17 + 4), none⟩ (.slice x14 x15 x16)) fun w18 => (R (.int .i64 0) w18)))))
theorem memm_Store_Reset.step8 (s_0 : Option Addr) (tabMin_3 : Int) (globals_4 : Int) (i_11 : Int) (R : Value → World → Prop) (w : World) (h : memm_Store_Reset.V8 s_0 tabMin_3 globals_4 i_11 R w) : memm_Store_Reset.L8 s_0 tabMin_3 globals_4 i_11 R w :=
  seg_T good mixed Try.func44 600 false [.inLoop (sub (bodyOf Try.f44) [1, 1, 1, 1, 1, 1, 1, 1, 1, 1, 1, 0, 1, 0, 0]), .inBlock 0, .code (sub (bodyOf Try.f44) [1, 1, 1, 1, 1, 1, 1, 1, 1, 1, 1, 1])] [(0, (.pointer s_0)), (3, (.int .i64 tabMin_3)), (4, (.int .i64 globals_4)), (11, (.int .i64 i_11))] w (Eq.mp (show memm_Store_Reset.V8 s_0 tabMin_3 globals_4 i_11 R w = seg Try.prog 44 103 Try.f44.results.toList memm_Store_Reset.cuts R 600 false [.inLoop (sub (bodyOf Try.f44) [1, 1, 1, 1, 1, 1, 1, 1, 1, 1, 1, 0, 1, 0, 0]), .inBlock 0, .code (sub (bodyOf Try.f44) [1, 1, 1, 1, 1, 1, 1, 1, 1, 1, 1, 1])] [(0, (.pointer s_0)), (3, (.int .i64 tabMin_3)), (4, (.int .i64 globals_4)), (11, (.int .i64 i_11))] w by kernel_rfl) h)
def memm_Store_Reset.V (s_0 : Option Addr) (memMin_1 : Int) (memMax_2 : Int) (tabMin_3 : Int) (globals_4 : Int) (R : Value → World → Prop) (w : World) : Prop :=
  (cond (decide (memMin_1 < (-1)))
  (R (.int .i64 36) w)
  (cond (decide (memMin_1 > (6 : Int)))
  (R (.int .i64 36) w)
  (memm_Store_Reset.L1 s_0 memMin_1 memMax_2 tabMin_3 globals_4 R w)))
theorem memm_Store_Reset.enter (s_0 : Option Addr) (memMin_1 : Int) (memMax_2 : Int) (tabMin_3 : Int) (globals_4 : Int) (R : Value → World → Prop) (w : World) (h : memm_Store_Reset.V s_0 memMin_1 memMax_2 tabMin_3 globals_4 R w) : Runs Try.prog memm_Store_Reset.id #[(.pointer s_0), (.int .i64 memMin_1), (.int .i64 memMax_2), (.int .i64 tabMin_3), (.int .i64 globals_4)] w R :=
  Runs.enter (c := bodyOf Try.f44) (N := 103) Try.func44 (by kernel_rfl) (by kernel_rfl) (by kernel_rfl) (seg_T good mixed Try.func44 600 false [.code (bodyOf Try.f44)] [(0, (.pointer s_0)), (1, (.int .i64 memMin_1)), (2, (.int .i64 memMax_2)), (3, (.int .i64 tabMin_3)), (4, (.int .i64 globals_4))] w (Eq.mp (show memm_Store_Reset.V s_0 memMin_1 memMax_2 tabMin_3 globals_4 R w = seg Try.prog 44 103 Try.f44.results.toList memm_Store_Reset.cuts R 600 false [.code (bodyOf Try.f44)] [(0, (.pointer s_0)), (1, (.int .i64 memMin_1)), (2, (.int .i64 memMax_2)), (3, (.int .i64 tabMin_3)), (4, (.int .i64 globals_4))] w by kernel_rfl) h))

/-! (*e2e/memm.Store).Pages -/
def memm_Store_Pages.cuts : List (Nat × List Nat) := []
def memm_Store_Pages.V (s_0 : Option Addr) (R : Value → World → Prop) (w : World) : Prop :=
  (nilV s_0 fun a2 => (∃ x3 : Option Addr, ∃ x4 : Nat, ∃ x5 : Nat, World.cell? w ⟨(Addr.block a2), (Addr.off a2 + 1), none⟩ = some (.slice x3 x4 x5) ∧ (R (.int .i64 (IntKind.wrap .i64 (Int.tdiv ((x4 : Nat) : Int) 64))) w)))
theorem memm_Store_Pages.enter (s_0 : Option Addr) (R : Value → World → Prop) (w : World) (h : memm_Store_Pages.V s_0 R w) : Runs Try.prog memm_Store_Pages.id #[(.pointer s_0)] w R :=
  Runs.enter (c := bodyOf Try.f45) (N := 9) Try.func45 (by kernel_rfl) (by kernel_rfl) (by kernel_rfl) (seg_T good mixed Try.func45 600 false [.code (bodyOf Try.f45)] [(0, (.pointer s_0))] w (Eq.mp (show memm_Store_Pages.V s_0 R w = seg Try.prog 45 9 Try.f45.results.toList memm_Store_Pages.cuts R 600 false [.code (bodyOf Try.f45)] [(0, (.pointer s_0))] w by kernel_rfl) h))

/-! (*e2e/memm.Store).Grow -/
def memm_Store_Grow.cuts : List (Nat × List Nat) := [(8, [0, 1, 5]), (11, [0, 1, 5, 6])]
def memm_Store_Grow.L1 (s_0 : Option Addr) (delta_1 : Int) (old_5 : Int) (R : Value → World → Prop) (w : World) : Prop :=
  T Try.prog 46 49 [.code (sub (bodyOf Try.f46) [1, 1, 1])] [(0, (.pointer s_0)), (1, (.int .u32 delta_1)), (5, (.int .i64 old_5))] w R
def memm_Store_Grow.L2 (s_0 : Option Addr) (delta_1 : Int) (old_5 : Int) (i_6 : Int) (R : Value → World → Prop) (w : World) : Prop :=
  T Try.prog 46 49 [.inLoop (sub (bodyOf Try.f46) [1, 1, 1, 0, 1, 0, 0]), .inBlock 0, .code (sub (bodyOf Try.f46) [1, 1, 1, 1])] [(0, (.pointer s_0)), (1, (.int .u32 delta_1)), (5, (.int .i64 old_5)), (6, (.int .i64 i_6))] w R
def memm_Store_Grow.V1 (s_0 : Option Addr) (delta_1 : Int) (old_5 : Int) (R : Value → World → Prop) (w : World) : Prop :=
  (memm_Store_Grow.L2 s_0 delta_1 old_5 0 R w)
theorem memm_Store_Grow.step1 (s_0 : Option Addr) (delta_1 : Int) (old_5 : Int) (R : Value → World → Prop) (w : World) (h : memm_Store_Grow.V1 s_0 delta_1 old_5 R w) : memm_Store_Grow.L1 s_0 delta_1 old_5 R w :=
  seg_T good mixed Try.func46 600 false [.code (sub (bodyOf Try.f46) [1, 1, 1])] [(0, (.pointer s_0)), (1, (.int .u32 delta_1)), (5, (.int .i64 old_5))] w (Eq.mp (show memm_Store_Grow.V1 s_0 delta_1 old_5 R w = seg Try.prog 46 49 Try.f46.results.toList memm_Store_Grow.cuts R 600 false [.code (sub (bodyOf Try.f46) [1, 1, 1])] [(0, (.pointer s_0)), (1, (.int .u32 delta_1)), (5, (.int .i64 old_5))] w by kernel_rfl) h)
def memm_Store_Grow.V2 (s_0 : Option Addr) (delta_1 : Int) (old_5 : Int) (i_6 : Int) (R : Value → World → Prop) (w : World) : Prop :=
  (cond (decide (i_6 < (IntKind.wrap .i64 ((IntKind.wrap .i64 delta_1) * (64 : Int)))))
  (nilV s_0 fun a1 => (∃ x2 : Option Addr, ∃ x3 : Nat, ∃ x4 : Nat, World.cell? w ⟨(Addr.block a1), (Addr.off a1 + 1), none⟩ = some (.slice x2 x3 x4) ∧ (letB (Array.size (World.heap w)) fun b5 => letW (World.alloc w (.cells #[(.int .u8 0)] T_uint8)) fun w6 => (∃ x8 : Option Addr, ∃ x9 : Nat, ∃ x10 : Nat, ∃ w7, Sem.run Try.prog (Builtin.append_ #[T_sl_uint8, T_sl_uint8] T_sl_uint8 #[(.slice x2 x3 x4), (.slice (some ⟨b5, 0, none⟩) 1 1)]) w6 = .ok (.slice x8 x9 x10) w7 ∧ (nilV s_0 fun a11 => (can w7 ⟨(Addr.block a11), (Addr.off a11 + 1), none⟩ ∧ letW (World.setCell w7 ⟨(Addr.block a11), (Addr.off a11 + 1), none⟩ (.slice x8 x9 x10)) fun w12 => (memm_Store_Grow.L2 s_0 delta_1 old_5 (IntKind.wrap .i64 (i_6 + (1 : Int))) R w12)))))))
  (R (.int .u32 (IntKind.wrap .u32 old_5)) w))
theorem memm_Store_Grow.step2 (s_0 : Option Addr) (delta_1 : Int) (old_5 : Int) (i_6 : Int) (R : Value → World → Prop) (w : World) (h : memm_Store_Grow.V2 s_0 delta_1 old_5 i_6 R w) : memm_Store_Grow.L2 s_0 delta_1 old_5 i_6 R w :=
  seg_T good mixed Try.func46 600 false [.inLoop (sub (bodyOf Try.f46) [1, 1, 1, 0, 1, 0, 0]), .inBlock 0, .code (sub (bodyOf Try.f46) [1, 1, 1, 1])] [(0, (.pointer s_0)), (1, (.int .u32 delta_1)), (5, (.int .i64 old_5)), (6, (.int .i64 i_6))] w (Eq.mp (show memm_Store_Grow.V2 s_0 delta_1 old_5 i_6 R w = seg Try.prog 46 49 Try.f46.results.toList memm_Store_Grow.cuts R 600 false [.inLoop (sub (bodyOf Try.f46) [1, 1, 1, 0, 1, 0, 0]), .inBlock 0, .code (sub (bodyOf Try.f46) [1, 1, 1, 1])] [(0, (.pointer s_0)), (1, (.int .u32 delta_1)), (5, (.int .i64 old_5)), (6, (.int .i64 i_6))] w by kernel_rfl) h)
def memm_Store_Grow.V (s_0 : Option Addr) (delta_1 : Int) (R : Value → World → Prop) (w : World) : Prop :=
  (nilV s_0 fun a3 => (∃ x4 : Option Addr, ∃ x5 : Nat, ∃ x6 : Nat, World.cell? w ⟨(Addr.block a3), (Addr.off a3 + 1), none⟩ = some (.slice x4 x5 x6) ∧ (nilV s_0 fun a7 => (∃ x8 : Bool, World.cell? w a7 = some (.bool x8) ∧ (cond (!x8)
  (R (.int .u32 4294967295) w)
  (nilV s_0 fun a9 => (∃ x10 : Int, World.cell? w ⟨(Addr.block a9), (Addr.off a9 + 2), none⟩ = some (.int .i64 x10) ∧ (cond (decide ((IntKind.wrap .u64 ((IntKind.wrap .u64 (IntKind.wrap .i64 (Int.tdiv ((x5 : Nat) : Int) 64))) + (IntKind.wrap .u64 delta_1))) > (IntKind.wrap .u64 x10)))
  (R (.int .u32 4294967295) w)
  (memm_Store_Grow.L1 s_0 delta_1 (IntKind.wrap .i64 (Int.tdiv ((x5 : Nat) : Int) 64)) R w)))))))))
theorem memm_Store_Grow.enter (s_0 : Option Addr) (delta_1 : Int) (R : Value → World → Prop) (w : World) (h : memm_Store_Grow.V s_0 delta_1 R w) : Runs Try.prog memm_Store_Grow.id #[(.pointer s_0), (.int .u32 delta_1)] w R :=
  Runs.enter (c := bodyOf Try.f46) (N := 49) Try.func46 (by kernel_rfl) (by kernel_rfl) (by kernel_rfl) (seg_T good mixed Try.func46 600 false [.code (bodyOf Try.f46)] [(0, (.pointer s_0)), (1, (.int .u32 delta_1))] w (Eq.mp (show memm_Store_Grow.V s_0 delta_1 R w = seg Try.prog 46 49 Try.f46.results.toList memm_Store_Grow.cuts R 600 false [.code (bodyOf Try.f46)] [(0, (.pointer s_0)), (1, (.int .u32 delta_1))] w by kernel_rfl) h))

/-! (*e2e/memm.Store).Load -/
def memm_Store_Load.cuts : List (Nat × List Nat) := [(6, [0, 2, 3, 10, 11, 12, 28]), (21, [0, 10, 11, 12, 13, 14, 15, 16]), (30, [10, 11, 14, 73]), (32, [11, 14])]
def memm_Store_Load.L1 (s_0 : Option Addr) (base_2 : Int) (off_3 : Int) (w_10 : Int) (t_11 : Int) (signed_12 : Bool) (t_28 : Bool) (R : Value → World → Prop) (w : World) : Prop :=
  T Try.prog 47 83 [.code (sub (bodyOf Try.f47) [1, 1, 0, 1]), .code (sub (bodyOf Try.f47) [1, 1, 1])] [(0, (.pointer s_0)), (2, (.int .u32 base_2)), (3, (.int .u32 off_3)), (10, (.int .i64 w_10)), (11, (.int .u8 t_11)), (12, (.bool signed_12)), (28, (.bool t_28))] w R
def memm_Store_Load.L2 (s_0 : Option Addr) (w_10 : Int) (t_11 : Int) (signed_12 : Bool) (ea_13 : Int) (v_14 : Int) (pow_15 : Int) (k_16 : Int) (R : Value → World → Prop) (w : World) : Prop :=
  T Try.prog 47 83 [.inLoop (sub (bodyOf Try.f47) [1, 1, 1, 1, 1, 1, 1, 0, 1, 0, 0]), .inBlock 0, .code (sub (bodyOf Try.f47) [1, 1, 1, 1, 1, 1, 1, 1])] [(0, (.pointer s_0)), (10, (.int .i64 w_10)), (11, (.int .u8 t_11)), (12, (.bool signed_12)), (13, (.int .u64 ea_13)), (14, (.int .u64 v_14)), (15, (.int .u64 pow_15)), (16, (.int .i64 k_16))] w R
def memm_Store_Load.L3 (w_10 : Int) (t_11 : Int) (v_14 : Int) (t_73 : Bool) (R : Value → World → Prop) (w : World) : Prop :=
  T Try.prog 47 83 [.code (sub (bodyOf Try.f47) [1, 1, 1, 1, 1, 1, 1, 1, 0, 1]), .code (sub (bodyOf Try.f47) [1, 1, 1, 1, 1, 1, 1, 1, 1])] [(10, (.int .i64 w_10)), (11, (.int .u8 t_11)), (14, (.int .u64 v_14)), (73, (.bool t_73))] w R
def memm_Store_Load.L4 (t_11 : Int) (v_14 : Int) (R : Value → World → Prop) (w : World) : Prop :=
  T Try.prog 47 83 [.code (sub (bodyOf Try.f47) [1, 1, 1, 1, 1, 1, 1, 1, 1])] [(11, (.int .u8 t_11)), (14, (.int .u64 v_14))] w R
def memm_Store_Load.V1 (s_0 : Option Addr) (base_2 : Int) (off_3 : Int) (w_10 : Int) (t_11 : Int) (signed_12 : Bool) (t_28 : Bool) (R : Value → World → Prop) (w : World) : Prop :=
  (cond t_28
  (R (.tuple #[(.int .u64 0), (.int .i64 35)]) w)
  (nilV s_0 fun a1 => (∃ x2 : Option Addr, ∃ x3 : Nat, ∃ x4 : Nat, World.cell? w ⟨(Addr.block a1), (Addr.off a1 + 1), none⟩ = some (.slice x2 x3 x4) ∧ (cond (decide ((IntKind.wrap .u64 ((IntKind.wrap .u64 ((IntKind.wrap .u64 base_2) + (IntKind.wrap .u64 off_3))) + (IntKind.wrap .u64 w_10))) > (IntKind.wrap .u64 ((x3 : Nat) : Int))))
  (R (.tuple #[(.int .u64 0), (.int .i64 42)]) w)
  (memm_Store_Load.L2 s_0 w_10 t_11 signed_12 (IntKind.wrap .u64 ((IntKind.wrap .u64 base_2) + (IntKind.wrap .u64 off_3))) 0 1 0 R w)))))
theorem memm_Store_Load.step1 (s_0 : Option Addr) (base_2 : Int) (off_3 : Int) (w_10 : Int) (t_11 : Int) (signed_12 : Bool) (t_28 : Bool) (R : Value → World → Prop) (w : World) (h : memm_Store_Load.V1 s_0 base_2 off_3 w_10 t_11 signed_12 t_28 R w) : memm_Store_Load.L1 s_0 base_2 off_3 w_10 t_11 signed_12 t_28 R w :=
  seg_T good mixed Try.func47 600 false [.code (sub (bodyOf Try.f47) [1, 1, 0, 1]), .code (sub (bodyOf Try.f47) [1, 1, 1])] [(0, (.pointer s_0)), (2, (.int .u32 base_2)), (3, (.int .u32 off_3)), (10, (.int .i64 w_10)), (11, (.int .u8 t_11)), (12, (.bool signed_12)), (28, (.bool t_28))] w (Eq.mp (show memm_Store_Load.V1 s_0 base_2 off_3 w_10 t_11 signed_12 t_28 R w = seg Try.prog 47 83 Try.f47.results.toList memm_Store_Load.cuts R 600 false [.code (sub (bodyOf Try.f47) [1, 1, 0, 1]), .code (sub (bodyOf Try.f47) [1, 1, 1])] [(0, (.pointer s_0)), (2, (.int .u32 base_2)), (3, (.int .u32 off_3)), (10, (.int .i64 w_10)), (11, (.int .u8 t_11)), (12, (.bool signed_12)), (28, (.bool t_28))] w by kernel_rfl) h)
def memm_Store_Load.V2 (s_0 : Option Addr) (w_10 : Int) (t_11 : Int) (signed_12 : Bool) (ea_13 : Int) (v_14 : Int) (pow_15 : Int) (k_16 : Int) (R : Value → World → Prop) (w : World) : Prop :=
  (cond (decide (k_16 < w_10))
  (nilV s_0 fun a1 => (∃ x2 : Option Addr, ∃ x3 : Nat, ∃ x4 : Nat, World.cell? w ⟨(Addr.block a1), (Addr.off a1 + 1), none⟩ = some (.slice x2 x3 x4) ∧ ((0 ≤ (IntKind.wrap .i64 ((IntKind.wrap .i64 ea_13) + k_16)) ∧ (IntKind.wrap .i64 ((IntKind.wrap .i64 ea_13) + k_16)) < ((x3 : Nat) : Int)) ∧ nilV x2 fun a5 => (∃ x6 : Int, World.cell? w (Addr.add a5 (Int.toNat (IntKind.wrap .i64 ((IntKind.wrap .i64 ea_13) + k_16)) * 1)) = some (.int .u8 x6) ∧ (memm_Store_Load.L2 s_0 w_10 t_11 signed_12 ea_13 (IntKind.wrap .u64 (v_14 + (IntKind.wrap .u64 ((IntKind.wrap .u64 x6) * pow_15)))) (IntKind.wrap .u64 (pow_15 * (256 : Int))) (IntKind.wrap .i64 (k_16 + (1 : Int))) R w)))))
  (cond signed_12
  (Runs Try.prog memm_halfOf.id #[(.int .i64 w_10)] w fun r7 w8 => (∃ x9 : Int, (r7 = (.int .u64 x9) ∧ (memm_Store_Load.L3 w_10 t_11 v_14 (decide (v_14 ≥ x9)) R w8))))
  (memm_Store_Load.L3 w_10 t_11 v_14 false R w)))
theorem memm_Store_Load.step2 (s_0 : Option Addr) (w_10 : Int) (t_11 : Int) (signed_12 : Bool) (ea_13 : Int) (v_14 : Int) (pow_15 : Int) (k_16 : Int) (R : Value → World → Prop) (w : World) (h : memm_Store_Load.V2 s_0 w_10 t_11 signed_12 ea_13 v_14 pow_15 k_16 R w) : memm_Store_Load.L2 s_0 w_10 t_11 signed_12 ea_13 v_14 pow_15 k_16 R w :=
  seg_T good mixed Try.func47 600 false [.inLoop (sub (bodyOf Try.f47) [1, 1, 1, 1, 1, 1, 1, 0, 1, 0, 0]), .inBlock 0, .code (sub (bodyOf Try.f47) [1, 1, 1, 1, 1, 1, 1, 1])] [(0, (.pointer s_0)), (10, (.int .i64 w_10)), (11, (.int .u8 t_11)), (12, (.bool signed_12)), (13, (.int .u64 ea_13)), (14, (.int .u64 v_14)), (15, (.int .u64 pow_15)), (16, (.int .i64 k_16))] w (Eq.mp (show memm_Store_Load.V2 s_0 w_10 t_11 signed_12 ea_13 v_14 pow_15 k_16 R w = seg Try.prog 47 83 Try.f47.results.toList memm_Store_Load.cuts R 600 false [.inLoop (sub (bodyOf Try.f47) [1, 1, 1, 1, 1, 1, 1, 0, 1, 0, 0]), .inBlock 0, .code (sub (bodyOf Try.f47) [1, 1, 1, 1, 1, 1, 1, 1])] [(0, (.pointer s_0)), (10, (.int .i64 w_10)), (11, (.int .u8 t_11)), (12, (.bool signed_12)), (13, (.int .u64 ea_13)), (14, (.int .u64 v_14)), (15, (.int .u64 pow_15)), (16, (.int .i64 k_16))] w by kernel_rfl) h)
def memm_Store_Load.V3 (w_10 : Int) (t_11 : Int) (v_14 : Int) (t_73 : Bool) (R : Value → World → Prop) (w : World) : Prop :=
  (cond t_73
  (Runs Try.prog memm_halfOf.id #[(.int .i64 w_10)] w fun r1 w2 => (∃ x3 : Int, (r1 = (.int .u64 x3) ∧ (memm_Store_Load.L4 t_11 (IntKind.wrap .u64 (v_14 + (IntKind.wrap .u64 ((0 : Int) - (IntKind.wrap .u64 ((2 : Int) * x3)))))) R w2))))
  (memm_Store_Load.L4 t_11 v_14 R w))
theorem memm_Store_Load.step3 (w_10 : Int) (t_11 : Int) (v_14 : Int) (t_73 : Bool) (R : Value → World → Prop) (w : World) (h : memm_Store_Load.V3 w_10 t_11 v_14 t_73 R w) : memm_Store_Load.L3 w_10 t_11 v_14 t_73 R w :=
  seg_T good mixed Try.func47 600 false [.code (sub (bodyOf Try.f47) [1, 1, 1, 1, 1, 1, 1, 1, 0, 1]), .code (sub (bodyOf Try.f47) [1, 1, 1, 1, 1, 1, 1, 1, 1])] [(10, (.int .i64 w_10)), (11, (.int .u8 t_11)), (14, (.int .u64 v_14)), (73, (.bool t_73))] w (Eq.mp (show memm_Store_Load.V3 w_10 t_11 v_14 t_73 R w = seg Try.prog 47 83 Try.f47.results.toList memm_Store_Load.cuts R 600 false [.code (sub (bodyOf Try.f47) [1, 1, 1, 1, 1, 1, 1, 1, 0, 1]), .code (sub (bodyOf Try.f47) [1, 1, 1, 1, 1, 1, 1, 1, 1])] [(10, (.int .i64 w_10)), (11, (.int .u8 t_11)), (14, (.int .u64 v_14)), (73, (.bool t_73))] w by kernel_rfl) h)
def memm_Store_Load.V4 (t_11 : Int) (v_14 : Int) (R : Value → World → Prop) (w : World) : Prop :=
  (Runs Try.prog api_Cut.id #[(.int .u8 t_11), (.int .u64 v_14)] w fun r1 w2 => (∃ x3 : Int, (r1 = (.int .u64 x3) ∧ (R (.tuple #[(.int .u64 x3), (.int .i64 0)]) w2))))
theorem memm_Store_Load.step4 (t_11 : Int) (v_14 : Int) (R : Value → World → Prop) (w : World) (h : memm_Store_Load.V4 t_11 v_14 R w) : memm_Store_Load.L4 t_11 v_14 R w :=
  seg_T good mixed Try.func47 600 false [.code (sub (bodyOf Try.f47) [1, 1, 1, 1, 1, 1, 1, 1, 1])] [(11, (.int .u8 t_11)), (14, (.int .u64 v_14))] w (Eq.mp (show memm_Store_Load.V4 t_11 v_14 R w = seg Try.prog 47 83 Try.f47.results.toList memm_Store_Load.cuts R 600 false [.code (sub (bodyOf Try.f47) [1, 1, 1, 1, 1, 1, 1, 1, 1])] [(11, (.int .u8 t_11)), (14, (.int .u64 v_14))] w by kernel_rfl) h)
def memm_Store_Load.V (s_0 : Option Addr) (op_1 : Int) (base_2 : Int) (off_3 : Int) (R : Value → World → Prop) (w : World) : Prop :=
  (Runs Try.prog api_MemSig.id #[(.int .i64 op_1)] w fun r5 w6 => (∃ x7 : Int, ∃ x8 : Int, ∃ x9 : Bool, (r5 = (.tuple #[(.int .i64 x7), (.int .u8 x8), (.bool x9)]) ∧ (cond (x7 == (0 : Int))
  (memm_Store_Load.L1 s_0 base_2 off_3 x7 x8 x9 true R w6)
  (memm_Store_Load.L1 s_0 base_2 off_3 x7 x8 x9 (decide (op_1 > (53 : Int))) R w6)))))
theorem memm_Store_Load.enter (s_0 : Option Addr) (op_1 : Int) (base_2 : Int) (off_3 : Int) (R : Value → World → Prop) (w : World) (h : memm_Store_Load.V s_0 op_1 base_2 off_3 R w) : Runs Try.prog memm_Store_Load.id #[(.pointer s_0), (.int .i64 op_1), (.int .u32 base_2), (.int .u32 off_3)] w R :=
  Runs.enter (c := bodyOf Try.f47) (N := 83) Try.func47 (by kernel_rfl) (by kernel_rfl) (by kernel_rfl) (seg_T good mixed Try.func47 600 false [.code (bodyOf Try.f47)] [(0, (.pointer s_0)), (1, (.int .i64 op_1)), (2, (.int .u32 base_2)), (3, (.int .u32 off_3))] w (Eq.mp (show memm_Store_Load.V s_0 op_1 base_2 off_3 R w = seg Try.prog 47 83 Try.f47.results.toList memm_Store_Load.cuts R 600 false [.code (bodyOf Try.f47)] [(0, (.pointer s_0)), (1, (.int .i64 op_1)), (2, (.int .u32 base_2)), (3, (.int .u32 off_3))] w by kernel_rfl) h))

/-! (*e2e/memm.Store).Save -/
def memm_Store_Save.cuts : List (Nat × List Nat) := [(8, [0, 2, 3, 4, 11]), (17, [0, 4, 11, 14, 15])]
def memm_Store_Save.L1 (s_0 : Option Addr) (base_2 : Int) (off_3 : Int) (v_4 : Int) (w_11 : Int) (R : Value → World → Prop) (w : World) : Prop :=
  T Try.prog 48 63 [.code (sub (bodyOf Try.f48) [1, 1, 1])] [(0, (.pointer s_0)), (2, (.int .u32 base_2)), (3, (.int .u32 off_3)), (4, (.int .u64 v_4)), (11, (.int .i64 w_11))] w R
def memm_Store_Save.L2 (s_0 : Option Addr) (v_4 : Int) (w_11 : Int) (ea_14 : Int) (k_15 : Int) (R : Value → World → Prop) (w : World) : Prop :=
  T Try.prog 48 63 [.inLoop (sub (bodyOf Try.f48) [1, 1, 1, 1, 1, 0, 1, 0, 0]), .inBlock 0, .code (sub (bodyOf Try.f48) [1, 1, 1, 1, 1, 1])] [(0, (.pointer s_0)), (4, (.int .u64 v_4)), (11, (.int .i64 w_11)), (14, (.int .u64 ea_14)), (15, (.int .i64 k_15))] w R
def memm_Store_Save.V1 (s_0 : Option Addr) (base_2 : Int) (off_3 : Int) (v_4 : Int) (w_11 : Int) (R : Value → World → Prop) (w : World) : Prop :=
  (nilV s_0 fun a1 => (∃ x2 : Option Addr, ∃ x3 : Nat, ∃ x4 : Nat, World.cell? w ⟨(Addr.block a1), (Addr.off a1 + 1), none⟩ = some (.slice x2 x3 x4) ∧ (cond (decide ((IntKind.wrap .u64 ((IntKind.wrap .u64 ((IntKind.wrap .u64 base_2) + (IntKind.wrap .u64 off_3))) + (IntKind.wrap .u64 w_11))) > (IntKind.wrap .u64 ((x3 : Nat) : Int))))
  (R (.int .i64 42) w)
  (memm_Store_Save.L2 s_0 v_4 w_11 (IntKind.wrap .u64 ((IntKind.wrap .u64 base_2) + (IntKind.wrap .u64 off_3))) 0 R w))))
theorem memm_Store_Save.step1 (s_0 : Option Addr) (base_2 : Int) (off_3 : Int) (v_4 : Int) (w_11 : Int) (R : Value → World → Prop) (w : World) (h : memm_Store_Save.V1 s_0 base_2 off_3 v_4 w_11 R w) : memm_Store_Save.L1 s_0 base_2 off_3 v_4 w_11 R w :=
  seg_T good mixed Try.func48 600 false [.code (sub (bodyOf Try.f48) [1, 1, 1])] [(0, (.pointer s_0)), (2, (.int .u32 base_2)), (3, (.int .u32 off_3)), (4, (.int .u64 v_4)), (11, (.int .i64 w_11))] w (Eq.mp (show memm_Store_Save.V1 s_0 base_2 off_3 v_4 w_11 R w = seg Try.prog 48 63 Try.f48.results.toList memm_Store_Save.cuts R 600 false [.code (sub (bodyOf Try.f48) [1, 1, 1])] [(0, (.pointer s_0)), (2, (.int .u32 base_2)), (3, (.int .u32 off_3)), (4, (.int .u64 v_4)), (11, (.int .i64 w_11))] w by kernel_rfl) h)
def memm_Store_Save.V2 (s_0 : Option Addr) (v_4 : Int) (w_11 : Int) (ea_14 : Int) (k_15 : Int) (R : Value → World → Prop) (w : World) : Prop :=
  (cond (decide (k_15 < w_11))
  (nilV s_0 fun a1 => (∃ x2 : Option Addr, ∃ x3 : Nat, ∃ x4 : Nat, World.cell? w ⟨(Addr.block a1), (Addr.off a1 + 1), none⟩ = some (.slice x2 x3 x4) ∧ ((0 ≤ (IntKind.wrap .i64 ((IntKind.wrap .i64 ea_14) + k_15)) ∧ (IntKind.wrap .i64 ((IntKind.wrap .i64 ea_14) + k_15)) < ((x3 : Nat) : Int)) ∧ nilV x2 fun a5 => (can w (Addr.add a5 (Int.toNat (IntKind.wrap .i64 ((IntKind.wrap .i64 ea_14) + k_15)) * 1)) ∧ letW (World.setCell w (Addr.add a5 (Int.toNat (IntKind.wrap .i64 ((IntKind.wrap .i64 ea_14) + k_15)) * 1)) (.int .u8 (IntKind.wrap .u8 (Int.tmod v_4 256)))) fun w6 => (memm_Store_Save.L2 s_0 (IntKind.wrap .u64 (Int.tdiv v_4 256)) w_11 ea_14 (IntKind.wrap .i64 (k_15 + (1 : Int))) R w6)))))
  (R (.int .i64 0) w))
theorem memm_Store_Save.step2 (s_0 : Option Addr) (v_4 : Int) (w_11 : Int) (ea_14 : Int) (k_15 : Int) (R : Value → World → Prop) (w : World) (h : memm_Store_Save.V2 s_0 v_4 w_11 ea_14 k_15 R w) : memm_Store_Save.L2 s_0 v_4 w_11 ea_14 k_15 R w :=
  seg_T good mixed Try.func48 600 false [.inLoop (sub (bodyOf Try.f48) [1, 1, 1, 1, 1, 0, 1, 0, 0]), .inBlock 0, .code (sub (bodyOf Try.f48) [1, 1, 1, 1, 1, 1])] [(0, (.pointer s_0)), (4, (.int .u64 v_4)), (11, (.int .i64 w_11)), (14, (.int .u64 ea_14)), (15, (.int .i64 k_15))] w (Eq.mp (show memm_Store_Save.V2 s_0 v_4 w_11 ea_14 k_15 R w = seg Try.prog 48 63 Try.f48.results.toList memm_Store_Save.cuts R 600 false [.inLoop (sub (bodyOf Try.f48) [1, 1, 1, 1, 1, 0, 1, 0, 0]), .inBlock 0, .code (sub (bodyOf Try.f48) [1, 1, 1, 1, 1, 1])] [(0, (.pointer s_0)), (4, (.int .u64 v_4)), (11, (.int .i64 w_11)), (14, (.int .u64 ea_14)), (15, (.int .i64 k_15))] w by kernel_rfl) h)
def memm_Store_Save.V (s_0 : Option Addr) (op_1 : Int) (base_2 : Int) (off_3 : Int) (v_4 : Int) (R : Value → World → Prop) (w : World) : Prop :=
  (Runs Try.prog api_MemSig.id #[(.int .i64 op_1)] w fun r6 w7 => (∃ x8 : Int, ∃ x9 : Int, ∃ x10 : Bool, (r6 = (.tuple #[(.int .i64 x8), (.int .u8 x9), (.bool x10)]) ∧ (cond (x8 == (0 : Int))
  (R (.int .i64 35) w7)
  (cond (decide (op_1 < (54 : Int)))
  (R (.int .i64 35) w7)
  (memm_Store_Save.L1 s_0 base_2 off_3 v_4 x8 R w7))))))
theorem memm_Store_Save.enter (s_0 : Option Addr) (op_1 : Int) (base_2 : Int) (off_3 : Int) (v_4 : Int) (R : Value → World → Prop) (w : World) (h : memm_Store_Save.V s_0 op_1 base_2 off_3 v_4 R w) : Runs Try.prog memm_Store_Save.id #[(.pointer s_0), (.int .i64 op_1), (.int .u32 base_2), (.int .u32 off_3), (.int .u64 v_4)] w R :=
  Runs.enter (c := bodyOf Try.f48) (N := 63) Try.func48 (by kernel_rfl) (by kernel_rfl) (by kernel_rfl) (seg_T good mixed Try.func48 600 false [.code (bodyOf Try.f48)] [(0, (.pointer s_0)), (1, (.int .i64 op_1)), (2, (.int .u32 base_2)), (3, (.int .u32 off_3)), (4, (.int .u64 v_4))] w (Eq.mp (show memm_Store_Save.V s_0 op_1 base_2 off_3 v_4 R w = seg Try.prog 48 63 Try.f48.results.toList memm_Store_Save.cuts R 600 false [.code (bodyOf Try.f48)] [(0, (.pointer s_0)), (1, (.int .i64 op_1)), (2, (.int .u32 base_2)), (3, (.int .u32 off_3)), (4, (.int .u64 v_4))] w by kernel_rfl) h))

/-! (*e2e/memm.Store).Fits -/
def memm_Store_Fits.cuts : List (Nat × List Nat) := []
def memm_Store_Fits.V (s_0 : Option Addr) (at_1 : Int) (n_2 : Int) (R : Value → World → Prop) (w : World) : Prop :=
  (cond (decide (n_2 ≥ (0 : Int)))
  (nilV s_0 fun a4 => (∃ x5 : Option Addr, ∃ x6 : Nat, ∃ x7 : Nat, World.cell? w ⟨(Addr.block a4), (Addr.off a4 + 1), none⟩ = some (.slice x5 x6 x7) ∧ (R (.bool (decide ((IntKind.wrap .u64 ((IntKind.wrap .u64 at_1) + (IntKind.wrap .u64 n_2))) ≤ (IntKind.wrap .u64 ((x6 : Nat) : Int))))) w)))
  (R (.bool false) w))
theorem memm_Store_Fits.enter (s_0 : Option Addr) (at_1 : Int) (n_2 : Int) (R : Value → World → Prop) (w : World) (h : memm_Store_Fits.V s_0 at_1 n_2 R w) : Runs Try.prog memm_Store_Fits.id #[(.pointer s_0), (.int .u32 at_1), (.int .i64 n_2)] w R :=
  Runs.enter (c := bodyOf Try.f49) (N := 23) Try.func49 (by kernel_rfl) (by kernel_rfl) (by kernel_rfl) (seg_T good mixed Try.func49 600 false [.code (bodyOf Try.f49)] [(0, (.pointer s_0)), (1, (.int .u32 at_1)), (2, (.int .i64 n_2))] w (Eq.mp (show memm_Store_Fits.V s_0 at_1 n_2 R w = seg Try.prog 49 23 Try.f49.results.toList memm_Store_Fits.cuts R 600 false [.code (bodyOf Try.f49)] [(0, (.pointer s_0)), (1, (.int .u32 at_1)), (2, (.int .i64 n_2))] w by kernel_rfl) h))

/-! (*e2e/memm.Store).Write -/
def memm_Store_Write.cuts : List (Nat × List Nat) := [(13, [0, 1, 2, 7])]
def memm_Store_Write.L1 (s_0 : Option Addr) (at_1 : Int) (data_2 : ByteArray) (k_7 : Int) (R : Value → World → Prop) (w : World) : Prop :=
  T Try.prog 50 42 [.inLoop (sub (bodyOf Try.f50) [1, 1, 1, 0, 1, 0, 0]), .inBlock 0, .code (sub (bodyOf Try.f50) [1, 1, 1, 1])] [(0, (.pointer s_0)), (1, (.int .u32 at_1)), (2, (.string data_2)), (7, (.int .i64 k_7))] w R
def memm_Store_Write.V1 (s_0 : Option Addr) (at_1 : Int) (data_2 : ByteArray) (k_7 : Int) (R : Value → World → Prop) (w : World) : Prop :=
  (cond (decide (k_7 < ((ByteArray.size data_2 : Nat) : Int)))
  ((World.drew w) = (World.drew w) ∧ (nilV s_0 fun a1 => ((World.drew w) = (World.drew w) ∧ ((World.drew w) = (World.drew w) ∧ (∃ x2 : Option Addr, ∃ x3 : Nat, ∃ x4 : Nat, World.cell? (World.drew w) ⟨(Addr.block a1), (Addr.off a1 + 1), none⟩ = some (.slice x2 x3 x4) ∧ ((World.drew w) = (World.drew w) ∧ ((World.drew w) = (World.drew w) ∧ ((World.drew w) = (World.drew w) ∧ ((World.drew w) = (World.drew w) ∧ ((World.drew w) = (World.drew w) ∧ ((World.drew w) = (World.drew w) ∧ ((World.drew w) = (World.drew w) ∧ ((0 ≤ k_7 ∧ k_7 < ((ByteArray.size data_2 : Nat) : Int)) ∧ ((World.drew w) = (World.drew w) ∧ ((0 ≤ (IntKind.wrap .i64 ((IntKind.wrap .i64 at_1) + k_7)) ∧ (IntKind.wrap .i64 ((IntKind.wrap .i64 at_1) + k_7)) < ((x3 : Nat) : Int)) ∧ nilV x2 fun a5 => ((World.drew w) = (World.drew w) ∧ (can (World.drew w) (Addr.add a5 (Int.toNat (IntKind.wrap .i64 ((IntKind.wrap .i64 at_1) + k_7)) * 1)) ∧ letW (World.setCell (World.drew w) (Addr.add a5 (Int.toNat (IntKind.wrap .i64 ((IntKind.wrap .i64 at_1) + k_7)) * 1)) (.int .u8 (byteAt data_2 (Int.toNat k_7)))) fun w6 => (memm_Store_Write.L1 s_0 at_1 data_2 (IntKind.wrap .i64 (k_7 + (1 : Int))) R w6))))))))))))))))))
  (R (.int .i64 0) w))
theorem memm_Store_Write.step1 (s_0 : Option Addr) (at_1 : Int) (data_2 : ByteArray) (k_7 : Int) (R : Value → World → Prop) (w : World) (h : memm_Store_Write.V1 s_0 at_1 data_2 k_7 R w) : memm_Store_Write.L1 s_0 at_1 data_2 k_7 R w :=
  seg_T good mixed Try.func50 600 false [.inLoop (sub (bodyOf Try.f50) [1, 1, 1, 0, 1, 0, 0]), .inBlock 0, .code (sub (bodyOf Try.f50) [1, 1, 1, 1])] [(0, (.pointer s_0)), (1, (.int .u32 at_1)), (2, (.string data_2)), (7, (.int .i64 k_7))] w (Eq.mp (show memm_Store_Write.V1 s_0 at_1 data_2 k_7 R w = seg Try.prog 50 42 Try.f50.results.toList memm_Store_Write.cuts R 600 false [.inLoop (sub (bodyOf Try.f50) [1, 1, 1, 0, 1, 0, 0]), .inBlock 0, .code (sub (bodyOf Try.f50) [1, 1, 1, 1])] [(0, (.pointer s_0)), (1, (.int .u32 at_1)), (2, (.string data_2)), (7, (.int .i64 k_7))] w by kernel_rfl) h)
def memm_Store_Write.V (s_0 : Option Addr) (at_1 : Int) (data_2 : ByteArray) (R : Value → World → Prop) (w : World) : Prop :=
  (cond (decide (((ByteArray.size data_2 : Nat) : Int) > (24 : Int)))
  (R (.int .i64 1) w)
  (nilV s_0 fun a4 => (∃ x5 : Option Addr, ∃ x6 : Nat, ∃ x7 : Nat, World.cell? w ⟨(Addr.block a4), (Addr.off a4 + 1), none⟩ = some (.slice x5 x6 x7) ∧ (cond (decide ((IntKind.wrap .u64 ((IntKind.wrap .u64 at_1) + (IntKind.wrap .u64 ((ByteArray.size data_2 : Nat) : Int)))) > (IntKind.wrap .u64 ((x6 : Nat) : Int))))
  (R (.int .i64 31) w)
  (memm_Store_Write.L1 s_0 at_1 data_2 0 R w)))))
theorem memm_Store_Write.enter (s_0 : Option Addr) (at_1 : Int) (data_2 : ByteArray) (R : Value → World → Prop) (w : World) (h : memm_Store_Write.V s_0 at_1 data_2 R w) : Runs Try.prog memm_Store_Write.id #[(.pointer s_0), (.int .u32 at_1), (.string data_2)] w R :=
  Runs.enter (c := bodyOf Try.f50) (N := 42) Try.func50 (by kernel_rfl) (by kernel_rfl) (by kernel_rfl) (seg_T good mixed Try.func50 600 false [.code (bodyOf Try.f50)] [(0, (.pointer s_0)), (1, (.int .u32 at_1)), (2, (.string data_2))] w (Eq.mp (show memm_Store_Write.V s_0 at_1 data_2 R w = seg Try.prog 50 42 Try.f50.results.toList memm_Store_Write.cuts R 600 false [.code (bodyOf Try.f50)] [(0, (.pointer s_0)), (1, (.int .u32 at_1)), (2, (.string data_2))] w by kernel_rfl) h))

/-! (*e2e/memm.Store).TabLen -/
def memm_Store_TabLen.cuts : List (Nat × List Nat) := []
def memm_Store_TabLen.V (s_0 : Option Addr) (R : Value → World → Prop) (w : World) : Prop :=
  (nilV s_0 fun a2 => (∃ x3 : Option Addr, ∃ x4 : Nat, ∃ x5 : Nat, World.cell? w ⟨(Addr.block a2), (Addr.off a2 + 3), none⟩ = some (.slice x3 x4 x5) ∧ (R (.int .i64 ((x4 : Nat) : Int)) w)))
theorem memm_Store_TabLen.enter (s_0 : Option Addr) (R : Value → World → Prop) (w : World) (h : memm_Store_TabLen.V s_0 R w) : Runs Try.prog memm_Store_TabLen.id #[(.pointer s_0)] w R :=
  Runs.enter (c := bodyOf Try.f51) (N := 8) Try.func51 (by kernel_rfl) (by kernel_rfl) (by kernel_rfl) (seg_T good mixed Try.func51 600 false [.code (bodyOf Try.f51)] [(0, (.pointer s_0))] w (Eq.mp (show memm_Store_TabLen.V s_0 R w = seg Try.prog 51 8 Try.f51.results.toList memm_Store_TabLen.cuts R 600 false [.code (bodyOf Try.f51)] [(0, (.pointer s_0))] w by kernel_rfl) h))

/-! (*e2e/memm.Store).Elem -/
def memm_Store_Elem.cuts : List (Nat × List Nat) := []
def memm_Store_Elem.V (s_0 : Option Addr) (i_1 : Int) (R : Value → World → Prop) (w : World) : Prop :=
  (nilV s_0 fun a3 => (∃ x4 : Option Addr, ∃ x5 : Nat, ∃ x6 : Nat, World.cell? w ⟨(Addr.block a3), (Addr.off a3 + 3), none⟩ = some (.slice x4 x5 x6) ∧ (cond (decide ((IntKind.wrap .u64 i_1) ≥ (IntKind.wrap .u64 ((x5 : Nat) : Int))))
  (R (.tuple #[(.int .i64 0), (.int .i64 43)]) w)
  (nilV s_0 fun a7 => (∃ x8 : Option Addr, ∃ x9 : Nat, ∃ x10 : Nat, World.cell? w ⟨(Addr.block a7), (Addr.off a7 + 3), none⟩ = some (.slice x8 x9 x10) ∧ ((0 ≤ i_1 ∧ i_1 < ((x9 : Nat) : Int)) ∧ nilV x8 fun a11 => (∃ x12 : Int, World.cell? w (Addr.add a11 (Int.toNat i_1 * 1)) = some (.int .i64 x12) ∧ (cond (decide (x12 < (0 : Int)))
  (R (.tuple #[(.int .i64 0), (.int .i64 43)]) w)
  (nilV s_0 fun a13 => (∃ x14 : Option Addr, ∃ x15 : Nat, ∃ x16 : Nat, World.cell? w ⟨(Addr.block a13), (Addr.off a13 + 3), none⟩ = some (.slice x14 x15 x16) ∧ ((0 ≤ i_1 ∧ i_1 < ((x15 : Nat) : Int)) ∧ nilV x14 fun a17 => (∃ x18 : Int, World.cell? w (Addr.add a17 (Int.toNat i_1 * 1)) = some (.int .i64 x18) ∧ (R (.tuple #[(.int .i64 x18), (.int .i64 0)]) w)))))))))))))
theorem memm_Store_Elem.enter (s_0 : Option Addr) (i_1 : Int) (R : Value → World → Prop) (w : World) (h : memm_Store_Elem.V s_0 i_1 R w) : Runs Try.prog memm_Store_Elem.id #[(.pointer s_0), (.int .u32 i_1)] w R :=
  Runs.enter (c := bodyOf Try.f52) (N := 30) Try.func52 (by kernel_rfl) (by kernel_rfl) (by kernel_rfl) (seg_T good mixed Try.func52 600 false [.code (bodyOf Try.f52)] [(0, (.pointer s_0)), (1, (.int .u32 i_1))] w (Eq.mp (show memm_Store_Elem.V s_0 i_1 R w = seg Try.prog 52 30 Try.f52.results.toList memm_Store_Elem.cuts R 600 false [.code (bodyOf Try.f52)] [(0, (.pointer s_0)), (1, (.int .u32 i_1))] w by kernel_rfl) h))

/-! (*e2e/memm.Store).SetElem -/
def memm_Store_SetElem.cuts : List (Nat × List Nat) := []
def memm_Store_SetElem.V (s_0 : Option Addr) (i_1 : Int) (f_2 : Int) (R : Value → World → Prop) (w : World) : Prop :=
  (cond (decide (f_2 < (0 : Int)))
  (R (.int .i64 36) w)
  (nilV s_0 fun a4 => (∃ x5 : Option Addr, ∃ x6 : Nat, ∃ x7 : Nat, World.cell? w ⟨(Addr.block a4), (Addr.off a4 + 3), none⟩ = some (.slice x5 x6 x7) ∧ (cond (decide ((IntKind.wrap .u64 i_1) ≥ (IntKind.wrap .u64 ((x6 : Nat) : Int))))
  (R (.int .i64 31) w)
  (nilV s_0 fun a8 => (∃ x9 : Option Addr, ∃ x10 : Nat, ∃ x11 : Nat, World.cell? w ⟨(Addr.block a8), (Addr.off a8 + 3), none⟩ = some (.slice x9 x10 x11) ∧ ((0 ≤ i_1 ∧ i_1 < ((x10 : Nat) : Int)) ∧ nilV x9 fun a12 => (can w (Addr.add a12 (Int.toNat i_1 * 1)) ∧ letW (World.setCell w (Addr.add a12 (Int.toNat i_1 * 1)) (.int .i64 f_2)) fun w13 => (R (.int .i64 0) w13)))))))))
theorem memm_Store_SetElem.enter (s_0 : Option Addr) (i_1 : Int) (f_2 : Int) (R : Value → World → Prop) (w : World) (h : memm_Store_SetElem.V s_0 i_1 f_2 R w) : Runs Try.prog memm_Store_SetElem.id #[(.pointer s_0), (.int .u32 i_1), (.int .i64 f_2)] w R :=
  Runs.enter (c := bodyOf Try.f53) (N := 25) Try.func53 (by kernel_rfl) (by kernel_rfl) (by kernel_rfl) (seg_T good mixed Try.func53 600 false [.code (bodyOf Try.f53)] [(0, (.pointer s_0)), (1, (.int .u32 i_1)), (2, (.int .i64 f_2))] w (Eq.mp (show memm_Store_SetElem.V s_0 i_1 f_2 R w = seg Try.prog 53 25 Try.f53.results.toList memm_Store_SetElem.cuts R 600 false [.code (bodyOf Try.f53)] [(0, (.pointer s_0)), (1, (.int .u32 i_1)), (2, (.int .i64 f_2))] w by kernel_rfl) h))

/-! (*e2e/memm.Store).Global -/
def memm_Store_Global.cuts : List (Nat × List Nat) := [(4, [0, 1, 16])]
def memm_Store_Global.L1 (s_0 : Option Addr) (i_1 : Int) (t_16 : Bool) (R : Value → World → Prop) (w : World) : Prop :=
  T Try.prog 54 24 [.code (sub (bodyOf Try.f54) [1, 0, 1]), .code (sub (bodyOf Try.f54) [1, 1])] [(0, (.pointer s_0)), (1, (.int .i64 i_1)), (16, (.bool t_16))] w R
def memm_Store_Global.V1 (s_0 : Option Addr) (i_1 : Int) (t_16 : Bool) (R : Value → World → Prop) (w : World) : Prop :=
  (cond t_16
  (R (.tuple #[(.int .u64 0), (.int .i64 36)]) w)
  (nilV s_0 fun a1 => (∃ x2 : Option Addr, ∃ x3 : Nat, ∃ x4 : Nat, World.cell? w ⟨(Addr.block a1), (Addr.off a1 + 4), none⟩ = some (.slice x2 x3 x4) ∧ ((0 ≤ i_1 ∧ i_1 < ((x3 : Nat) : Int)) ∧ nilV x2 fun a5 => (∃ x6 : Int, World.cell? w (Addr.add a5 (Int.toNat i_1 * 1)) = some (.int .u64 x6) ∧ (R (.tuple #[(.int .u64 x6), (.int .i64 0)]) w))))))
theorem memm_Store_Global.step1 (s_0 : Option Addr) (i_1 : Int) (t_16 : Bool) (R : Value → World → Prop) (w : World) (h : memm_Store_Global.V1 s_0 i_1 t_16 R w) : memm_Store_Global.L1 s_0 i_1 t_16 R w :=
  seg_T good mixed Try.func54 600 false [.code (sub (bodyOf Try.f54) [1, 0, 1]), .code (sub (bodyOf Try.f54) [1, 1])] [(0, (.pointer s_0)), (1, (.int .i64 i_1)), (16, (.bool t_16))] w (Eq.mp (show memm_Store_Global.V1 s_0 i_1 t_16 R w = seg Try.prog 54 24 Try.f54.results.toList memm_Store_Global.cuts R 600 false [.code (sub (bodyOf Try.f54) [1, 0, 1]), .code (sub (bodyOf Try.f54) [1, 1])] [(0, (.pointer s_0)), (1, (.int .i64 i_1)), (16, (.bool t_16))] w by kernel_rfl) h)
def memm_Store_Global.V (s_0 : Option Addr) (i_1 : Int) (R : Value → World → Prop) (w : World) : Prop :=
  (cond (decide (i_1 < (0 : Int)))
  (memm_Store_Global.L1 s_0 i_1 true R w)
  (nilV s_0 fun a6 => (∃ x7 : Option Addr, ∃ x8 : Nat, ∃ x9 : Nat, World.cell? w ⟨(Addr.block a6), (Addr.off a6 + 4), none⟩ = some (.slice x7 x8 x9) ∧ (memm_Store_Global.L1 s_0 i_1 (decide (i_1 ≥ ((x8 : Nat) : Int))) R w))))
theorem memm_Store_Global.enter (s_0 : Option Addr) (i_1 : Int) (R : Value → World → Prop) (w : World) (h : memm_Store_Global.V s_0 i_1 R w) : Runs Try.prog memm_Store_Global.id #[(.pointer s_0), (.int .i64 i_1)] w R :=
  Runs.enter (c := bodyOf Try.f54) (N := 24) Try.func54 (by kernel_rfl) (by kernel_rfl) (by kernel_rfl) (seg_T good mixed Try.func54 600 false [.code (bodyOf Try.f54)] [(0, (.pointer s_0)), (1, (.int .i64 i_1))] w (Eq.mp (show memm_Store_Global.V s_0 i_1 R w = seg Try.prog 54 24 Try.f54.results.toList memm_Store_Global.cuts R 600 false [.code (bodyOf Try.f54)] [(0, (.pointer s_0)), (1, (.int .i64 i_1))] w by kernel_rfl) h))

/-! (*e2e/memm.Store).SetGlobal -/
def memm_Store_SetGlobal.cuts : List (Nat × List Nat) := [(6, [0, 1, 2])]
def memm_Store_SetGlobal.L1 (s_0 : Option Addr) (i_1 : Int) (v_2 : Int) (R : Value → World → Prop) (w : World) : Prop :=
  T Try.prog 55 25 [.code (sub (bodyOf Try.f55) [1, 1])] [(0, (.pointer s_0)), (1, (.int .i64 i_1)), (2, (.int .u64 v_2))] w R
def memm_Store_SetGlobal.V1 (s_0 : Option Addr) (i_1 : Int) (v_2 : Int) (R : Value → World → Prop) (w : World) : Prop :=
  (nilV s_0 fun a1 => (∃ x2 : Option Addr, ∃ x3 : Nat, ∃ x4 : Nat, World.cell? w ⟨(Addr.block a1), (Addr.off a1 + 4), none⟩ = some (.slice x2 x3 x4) ∧ ((0 ≤ i_1 ∧ i_1 < ((x3 : Nat) : Int)) ∧ nilV x2 fun a5 => (can w (Addr.add a5 (Int.toNat i_1 * 1)) ∧ letW (World.setCell w (Addr.add a5 (Int.toNat i_1 * 1)) (.int .u64 v_2)) fun w6 => (R (.int .i64 0) w6)))))
theorem memm_Store_SetGlobal.step1 (s_0 : Option Addr) (i_1 : Int) (v_2 : Int) (R : Value → World → Prop) (w : World) (h : memm_Store_SetGlobal.V1 s_0 i_1 v_2 R w) : memm_Store_SetGlobal.L1 s_0 i_1 v_2 R w :=
  seg_T good mixed Try.func55 600 false [.code (sub (bodyOf Try.f55) [1, 1])] [(0, (.pointer s_0)), (1, (.int .i64 i_1)), (2, (.int .u64 v_2))] w (Eq.mp (show memm_Store_SetGlobal.V1 s_0 i_1 v_2 R w = seg Try.prog 55 25 Try.f55.results.toList memm_Store_SetGlobal.cuts R 600 false [.code (sub (bodyOf Try.f55) [1, 1])] [(0, (.pointer s_0)), (1, (.int .i64 i_1)), (2, (.int .u64 v_2))] w by kernel_rfl) h)
def memm_Store_SetGlobal.V (s_0 : Option Addr) (i_1 : Int) (v_2 : Int) (R : Value → World → Prop) (w : World) : Prop :=
  (cond (decide (i_1 < (0 : Int)))
  (R (.int .i64 36) w)
  (nilV s_0 fun a4 => (∃ x5 : Option Addr, ∃ x6 : Nat, ∃ x7 : Nat, World.cell? w ⟨(Addr.block a4), (Addr.off a4 + 4), none⟩ = some (.slice x5 x6 x7) ∧ (cond (decide (i_1 ≥ ((x6 : Nat) : Int)))
  (R (.int .i64 36) w)
  (memm_Store_SetGlobal.L1 s_0 i_1 v_2 R w)))))
theorem memm_Store_SetGlobal.enter (s_0 : Option Addr) (i_1 : Int) (v_2 : Int) (R : Value → World → Prop) (w : World) (h : memm_Store_SetGlobal.V s_0 i_1 v_2 R w) : Runs Try.prog memm_Store_SetGlobal.id #[(.pointer s_0), (.int .i64 i_1), (.int .u64 v_2)] w R :=
  Runs.enter (c := bodyOf Try.f55) (N := 25) Try.func55 (by kernel_rfl) (by kernel_rfl) (by kernel_rfl) (seg_T good mixed Try.func55 600 false [.code (bodyOf Try.f55)] [(0, (.pointer s_0)), (1, (.int .i64 i_1)), (2, (.int .u64 v_2))] w (Eq.mp (show memm_Store_SetGlobal.V s_0 i_1 v_2 R w = seg Try.prog 55 25 Try.f55.results.toList memm_Store_SetGlobal.cuts R 600 false [.code (bodyOf Try.f55)] [(0, (.pointer s_0)), (1, (.int .i64 i_1)), (2, (.int .u64 v_2))] w by kernel_rfl) h))

/-! (*e2e/memm.Store).Check -/
def memm_Store_Check.cuts : List (Nat × List Nat) := []
def memm_Store_Check.V (s_0 : Option Addr) (R : Value → World → Prop) (w : World) : Prop :=
  (R (.bool true) w)
theorem memm_Store_Check.enter (s_0 : Option Addr) (R : Value → World → Prop) (w : World) (h : memm_Store_Check.V s_0 R w) : Runs Try.prog memm_Store_Check.id #[(.pointer s_0)] w R :=
  Runs.enter (c := bodyOf Try.f56) (N := 3) Try.func56 (by kernel_rfl) (by kernel_rfl) (by kernel_rfl) (seg_T good mixed Try.func56 600 false [.code (bodyOf Try.f56)] [(0, (.pointer s_0))] w (Eq.mp (show memm_Store_Check.V s_0 R w = seg Try.prog 56 3 Try.f56.results.toList memm_Store_Check.cuts R 600 false [.code (bodyOf Try.f56)] [(0, (.pointer s_0))] w by kernel_rfl) h))

/-! (*e2e/mem.Store).half -/
def mem_Store_half.cuts : List (Nat × List Nat) := []
def mem_Store_half.V (s_0 : Option Addr) (a_1 : Int) (R : Value → World → Prop) (w : World) : Prop :=
  (nilV s_0 fun a3 => (∃ x4 : Option Addr, ∃ x5 : Nat, ∃ x6 : Nat, World.cell? w ⟨(Addr.block a3), (Addr.off a3 + 2), none⟩ = some (.slice x4 x5 x6) ∧ ((0 ≤ a_1 ∧ a_1 ≤ (IntKind.wrap .i64 (a_1 + (2 : Int))) ∧ (IntKind.wrap .i64 (a_1 + (2 : Int))) ≤ ((x6 : Nat) : Int) ∧ ((x6 : Nat) : Int) ≤ ((x6 : Nat) : Int)) ∧ (2 ≤ ((Int.toNat (IntKind.wrap .i64 (a_1 + (2 : Int)))) - (Int.toNat a_1)) ∧ (nilV (slAddr x4 (Int.toNat a_1) x6 1) fun a7 => (∃ x8 : Int, ∃ x9 : Int, World.cell? w a7 = some (.int .u8 x8) ∧ World.cell? w ⟨(Addr.block a7), (Addr.off a7 + 1), none⟩ = some (.int .u8 x9) ∧ (can (World.alloc w (.cells #[(.int .u8 0), (.int .u8 0)] T__2_uint8)) ⟨(Array.size (World.heap w)), 0, none⟩ ∧ can (World.setCell (World.alloc w (.cells #[(.int .u8 0), (.int .u8 0)] T__2_uint8)) ⟨(Array.size (World.heap w)), 0, none⟩ (.int .u8 x8)) ⟨(Array.size (World.heap w)), 1, none⟩ ∧ ((0 ≤ (0 : Int) ∧ (0 : Int) < ((2 : Nat) : Int)) ∧ (∃ x10 : Int, World.cell? (World.setCell (World.setCell (World.alloc w (.cells #[(.int .u8 0), (.int .u8 0)] T__2_uint8)) ⟨(Array.size (World.heap w)), 0, none⟩ (.int .u8 x8)) ⟨(Array.size (World.heap w)), 1, none⟩ (.int .u8 x9)) (Addr.add ⟨(Array.size (World.heap w)), 0, none⟩ (Int.toNat 0 * 1)) = some (.int .u8 x10) ∧ ((0 ≤ (1 : Int) ∧ (1 : Int) < ((2 : Nat) : Int)) ∧ (∃ x11 : Int, World.cell? (World.setCell (World.setCell (World.alloc w (.cells #[(.int .u8 0), (.int .u8 0)] T__2_uint8)) ⟨(Array.size (World.heap w)), 0, none⟩ (.int .u8 x8)) ⟨(Array.size (World.heap w)), 1, none⟩ (.int .u8 x9)) (Addr.add ⟨(Array.size (World.heap w)), 0, none⟩ (Int.toNat 1 * 1)) = some (.int .u8 x11) ∧ (R (.int .u16 (bOr .u16 (IntKind.wrap .u16 x10) (IntKind.wrap .u16 ((IntKind.wrap .u16 x11) * 2 ^ (8 : Nat))))) (World.setCell (World.setCell (World.alloc w (.cells #[(.int .u8 0), (.int .u8 0)] T__2_uint8)) ⟨(Array.size (World.heap w)), 0, none⟩ (.int .u8 x8)) ⟨(Array.size (World.heap w)), 1, none⟩ (.int .u8 x9))))))))))))))
theorem mem_Store_half.enter (s_0 : Option Addr) (a_1 : Int) (R : Value → World → Prop) (w : World) (h : mem_Store_half.V s_0 a_1 R w) : Runs Try.prog mem_Store_half.id #[(.pointer s_0), (.int .i64 a_1)] w R :=
  Runs.enter (c := bodyOf Try.f57) (N := 24) Try.func57 (by kernel_rfl) (by kernel_rfl) (by kernel_rfl) (seg_T good mixed Try.func57 600 false [.code (bodyOf Try.f57)] [(0, (.pointer s_0)), (1, (.int .i64 a_1))] w (Eq.mp (show mem_Store_half.V s_0 a_1 R w = seg Try.prog 57 24 Try.f57.results.toList mem_Store_half.cuts R 600 false [.code (bodyOf Try.f57)] [(0, (.pointer s_0)), (1, (.int .i64 a_1))] w by kernel_rfl) h))

/-! (*e2e/mem.Store).long -/
def mem_Store_long.cuts : List (Nat × List Nat) := []
def mem_Store_long.V (s_0 : Option Addr) (a_1 : Int) (R : Value → World → Prop) (w : World) : Prop :=
  (nilV s_0 fun a3 => (∃ x4 : Option Addr, ∃ x5 : Nat, ∃ x6 : Nat, World.cell? w ⟨(Addr.block a3), (Addr.off a3 + 2), none⟩ = some (.slice x4 x5 x6) ∧ ((0 ≤ a_1 ∧ a_1 ≤ (IntKind.wrap .i64 (a_1 + (4 : Int))) ∧ (IntKind.wrap .i64 (a_1 + (4 : Int))) ≤ ((x6 : Nat) : Int) ∧ ((x6 : Nat) : Int) ≤ ((x6 : Nat) : Int)) ∧ (4 ≤ ((Int.toNat (IntKind.wrap .i64 (a_1 + (4 : Int)))) - (Int.toNat a_1)) ∧ (nilV (slAddr x4 (Int.toNat a_1) x6 1) fun a7 => (∃ x8 : Int, ∃ x9 : Int, ∃ x10 : Int, ∃ x11 : Int, World.cell? w a7 = some (.int .u8 x8) ∧ World.cell? w ⟨(Addr.block a7), (Addr.off a7 + 1), none⟩ = some (.int .u8 x9) ∧ World.cell? w ⟨(Addr.block a7), (Addr.off a7 + 2), none⟩ = some (.int .u8 x10) ∧ World.cell? w ⟨(Addr.block a7), (Addr.off a7 + 3), none⟩ = some (.int .u8 x11) ∧ (can (World.alloc w (.cells #[(.int .u8 0), (.int .u8 0), (.int .u8 0), (.int .u8 0)] T__4_uint8)) ⟨(Array.size (World.heap w)), 0, none⟩ ∧ can (World.setCell (World.alloc w (.cells #[(.int .u8 0), (.int .u8 0), (.int .u8 0), (.int .u8 0)] T__4_uint8)) ⟨(Array.size (World.heap w)), 0, none⟩ (.int .u8 x8)) ⟨(Array.size (World.heap w)), 1, none⟩ ∧ can (World.setCell (World.setCell (World.alloc w (.cells #[(.int .u8 0), (.int .u8 0), (.int .u8 0), (.int .u8 0)] T__4_uint8)) ⟨(Array.size (World.heap w)), 0, none⟩ (.int .u8 x8)) ⟨(Array.size (World.heap w)), 1, none⟩ (.int .u8 x9)) ⟨(Array.size (World.heap w)), 2, none⟩ ∧ can (World.setCell (World.setCell (World.setCell (World.alloc w (.cells #[(.int .u8 0), (.int .u8 0), (.int .u8 0), (.int .u8 0)] T__4_uint8)) ⟨(Array.size (World.heap w)), 0, none⟩ (.int .u8 x8)) ⟨(Array.size (World.heap w)), 1, none⟩ (.int .u8 x9)) ⟨(Array.size (World.heap w)), 2, none⟩ (.int .u8 x10)) ⟨(Array.size (World.heap w)), 3, none⟩ ∧ ((0 ≤ (0 : Int) ∧ (0 : Int) < ((4 : Nat) : Int)) ∧ (∃ x12 : Int, World.cell? (World.setCell (World.setCell (World.setCell (World.setCell (World.alloc w (.cells #[(.int .u8 0), (.int .u8 0), (.int .u8 0), (.int .u8 0)] T__4_uint8)) ⟨(Array.size (World.heap w)), 0, none⟩ (.int .u8 x8)) ⟨(Array.size (World.heap w)), 1, none⟩ (.int .u8 x9)) ⟨(Array.size (World.heap w)), 2, none⟩ (.int .u8 x10)) ⟨(Array.size (World.heap w)), 3, none⟩ (.int .u8 x11)) (Addr.add ⟨(Array.size (World.heap w)), 0, none⟩ (Int.toNat 0 * 1)) = some (.int .u8 x12) ∧ ((0 ≤ (1 : Int) ∧ (1 : Int) < ((4 : Nat) : Int)) ∧ (∃ x13 : Int, World.cell? (World.setCell (World.setCell (World.setCell (World.setCell (World.alloc w (.cells #[(.int .u8 0), (.int .u8 0), (.int .u8 0), (.int .u8 0)] T__4_uint8)) ⟨(Array.size (World.heap w)), 0, none⟩ (.int .u8 x8)) ⟨(Array.size (World.heap w)), 1, none⟩ (.int .u8 x9)) ⟨(Array.size (World.heap w)), 2, none⟩ (.int .u8 x10)) ⟨(Array.size (World.heap w)), 3, none⟩ (.int .u8 x11)) (Addr.add ⟨(Array.size (World.heap w)), 0, none⟩ (Int.toNat 1 * 1)) = some (.int .u8 x13) ∧ ((0 ≤ (2 : Int) ∧ (2 : Int) < ((4 : Nat) : Int)) ∧ (∃ x14 : Int, World.cell? (World.setCell (World.setCell (World.setCell (World.setCell (World.alloc w (.cells #[(.int .u8 0), (.int .u8 0), (.int .u8 0), (.int .u8 0)] T__4_uint8)) ⟨(Array.size (World.heap w)), 0, none⟩ (.int .u8 x8)) ⟨(Array.size (World.heap w)), 1, none⟩ (.int .u8 x9)) ⟨(Array.size (World.heap w)), 2, none⟩ (.int .u8 x10)) ⟨(Array.size (World.heap w)), 3, none⟩ (.int .u8 x11)) (Addr.add ⟨(Array.size (World.heap w)), 0, none⟩ (Int.toNat 2 * 1)) = some (.int .u8 x14) ∧ ((0 ≤ (3 : Int) ∧ (3 : Int) < ((4 : Nat) : Int)) ∧ (∃ x15 : Int, World.cell? (World.setCell (World.setCell (World.setCell (World.setCell (World.alloc w (.cells #[(.int .u8 0), (.int .u8 0), (.int .u8 0), (.int .u8 0)] T__4_uint8)) ⟨(Array.size (World.heap w)), 0, none⟩ (.int .u8 x8)) ⟨(Array.size (World.heap w)), 1, none⟩ (.int .u8 x9)) ⟨(Array.size (World.heap w)), 2, none⟩ (.int .u8 x10)) ⟨(Array.size (World.heap w)), 3, none⟩ (.int .u8 x11)) (Addr.add ⟨(Array.size (World.heap w)), 0, none⟩ (Int.toNat 3 * 1)) = some (.int .u8 x15) ∧ (R (.int .u32 (bOr .u32 (bOr .u32 (bOr .u32 (IntKind.wrap .u32 x12) (IntKind.wrap .u32 ((IntKind.wrap .u32 x13) * 2 ^ (8 : Nat)))) (IntKind.wrap .u32 ((IntKind.wrap .u32 x14) * 2 ^ (16 : Nat)))) (IntKind.wrap .u32 ((IntKind.wrap .u32 x15) * 2 ^ (24 : Nat))))) (World.setCell (World.setCell (World.setCell (World.setCell (World.alloc w (.cells #[(.int .u8 0), (.int .u8 0), (.int .u8 0), (.int .u8 0)] T__4_uint8)) ⟨(Array.size (World.heap w)), 0, none⟩ (.int .u8 x8)) ⟨(Array.size (World.heap w)), 1, none⟩ (.int .u8 x9)) ⟨(Array.size (World.heap w)), 2, none⟩ (.int .u8 x10)) ⟨(Array.size (World.heap w)), 3, none⟩ (.int .u8 x11))))))))))))))))))
theorem mem_Store_long.enter (s_0 : Option Addr) (a_1 : Int) (R : Value → World → Prop) (w : World) (h : mem_Store_long.V s_0 a_1 R w) : Runs Try.prog mem_Store_long.id #[(.pointer s_0), (.int .i64 a_1)] w R :=
  Runs.enter (c := bodyOf Try.f58) (N := 34) Try.func58 (by kernel_rfl) (by kernel_rfl) (by kernel_rfl) (seg_T good mixed Try.func58 600 false [.code (bodyOf Try.f58)] [(0, (.pointer s_0)), (1, (.int .i64 a_1))] w (Eq.mp (show mem_Store_long.V s_0 a_1 R w = seg Try.prog 58 34 Try.f58.results.toList mem_Store_long.cuts R 600 false [.code (bodyOf Try.f58)] [(0, (.pointer s_0)), (1, (.int .i64 a_1))] w by kernel_rfl) h))

/-! e2e/mem.word -/
def mem_word.cuts : List (Nat × List Nat) := [(7, [0, 3, 5])]
def mem_word.L1 (p_0 : Option Addr) (v_3 : Int) (t_5 : Int) (R : Value → World → Prop) (w : World) : Prop :=
  T Try.prog 59 21 [.inLoop (sub (bodyOf Try.f59) [1, 1, 0, 1, 0, 0]), .inBlock 0, .code (sub (bodyOf Try.f59) [1, 1, 1])] [(0, (.pointer p_0)), (3, (.int .u64 v_3)), (5, (.int .i64 t_5))] w R
def mem_word.V1 (p_0 : Option Addr) (v_3 : Int) (t_5 : Int) (R : Value → World → Prop) (w : World) : Prop :=
  (cond (decide (t_5 < (8 : Int)))
  (nilV p_0 fun a1 => ((0 ≤ (IntKind.wrap .i64 ((7 : Int) - t_5)) ∧ (IntKind.wrap .i64 ((7 : Int) - t_5)) < ((8 : Nat) : Int)) ∧ (∃ x2 : Int, World.cell? w (Addr.add a1 (Int.toNat (IntKind.wrap .i64 ((7 : Int) - t_5)) * 1)) = some (.int .u8 x2) ∧ (mem_word.L1 p_0 (bOr .u64 (IntKind.wrap .u64 (v_3 * 2 ^ (8 : Nat))) (IntKind.wrap .u64 x2)) (IntKind.wrap .i64 (t_5 + (1 : Int))) R w))))
  (R (.int .u64 v_3) w))
theorem mem_word.step1 (p_0 : Option Addr) (v_3 : Int) (t_5 : Int) (R : Value → World → Prop) (w : World) (h : mem_word.V1 p_0 v_3 t_5 R w) : mem_word.L1 p_0 v_3 t_5 R w :=
  seg_T good mixed Try.func59 600 false [.inLoop (sub (bodyOf Try.f59) [1, 1, 0, 1, 0, 0]), .inBlock 0, .code (sub (bodyOf Try.f59) [1, 1, 1])] [(0, (.pointer p_0)), (3, (.int .u64 v_3)), (5, (.int .i64 t_5))] w (Eq.mp (show mem_word.V1 p_0 v_3 t_5 R w = seg Try.prog 59 21 Try.f59.results.toList mem_word.cuts R 600 false [.inLoop (sub (bodyOf Try.f59) [1, 1, 0, 1, 0, 0]), .inBlock 0, .code (sub (bodyOf Try.f59) [1, 1, 1])] [(0, (.pointer p_0)), (3, (.int .u64 v_3)), (5, (.int .i64 t_5))] w by kernel_rfl) h)
def mem_word.V (p_0 : Option Addr) (R : Value → World → Prop) (w : World) : Prop :=
  (mem_word.L1 p_0 0 0 R w)
theorem mem_word.enter (p_0 : Option Addr) (R : Value → World → Prop) (w : World) (h : mem_word.V p_0 R w) : Runs Try.prog mem_word.id #[(.pointer p_0)] w R :=
  Runs.enter (c := bodyOf Try.f59) (N := 21) Try.func59 (by kernel_rfl) (by kernel_rfl) (by kernel_rfl) (seg_T good mixed Try.func59 600 false [.code (bodyOf Try.f59)] [(0, (.pointer p_0))] w (Eq.mp (show mem_word.V p_0 R w = seg Try.prog 59 21 Try.f59.results.toList mem_word.cuts R 600 false [.code (bodyOf Try.f59)] [(0, (.pointer p_0))] w by kernel_rfl) h))

/-! e2e/memm.halfOf -/
def memm_halfOf.cuts : List (Nat × List Nat) := [(7, [0, 3, 4])]
def memm_halfOf.L1 (w_0 : Int) (h_3 : Int) (k_4 : Int) (R : Value → World → Prop) (w : World) : Prop :=
  T Try.prog 60 13 [.inLoop (sub (bodyOf Try.f60) [1, 1, 0, 1, 0, 0]), .inBlock 0, .code (sub (bodyOf Try.f60) [1, 1, 1])] [(0, (.int .i64 w_0)), (3, (.int .u64 h_3)), (4, (.int .i64 k_4))] w R
def memm_halfOf.V1 (w_0 : Int) (h_3 : Int) (k_4 : Int) (R : Value → World → Prop) (w : World) : Prop :=
  (cond (decide (k_4 < w_0))
  (memm_halfOf.L1 w_0 (IntKind.wrap .u64 (h_3 * (256 : Int))) (IntKind.wrap .i64 (k_4 + (1 : Int))) R w)
  (R (.int .u64 h_3) w))
theorem memm_halfOf.step1 (w_0 : Int) (h_3 : Int) (k_4 : Int) (R : Value → World → Prop) (w : World) (h : memm_halfOf.V1 w_0 h_3 k_4 R w) : memm_halfOf.L1 w_0 h_3 k_4 R w :=
  seg_T good mixed Try.func60 600 false [.inLoop (sub (bodyOf Try.f60) [1, 1, 0, 1, 0, 0]), .inBlock 0, .code (sub (bodyOf Try.f60) [1, 1, 1])] [(0, (.int .i64 w_0)), (3, (.int .u64 h_3)), (4, (.int .i64 k_4))] w (Eq.mp (show memm_halfOf.V1 w_0 h_3 k_4 R w = seg Try.prog 60 13 Try.f60.results.toList memm_halfOf.cuts R 600 false [.inLoop (sub (bodyOf Try.f60) [1, 1, 0, 1, 0, 0]), .inBlock 0, .code (sub (bodyOf Try.f60) [1, 1, 1])] [(0, (.int .i64 w_0)), (3, (.int .u64 h_3)), (4, (.int .i64 k_4))] w by kernel_rfl) h)
def memm_halfOf.V (w_0 : Int) (R : Value → World → Prop) (w : World) : Prop :=
  (memm_halfOf.L1 w_0 128 1 R w)
theorem memm_halfOf.enter (w_0 : Int) (R : Value → World → Prop) (w : World) (h : memm_halfOf.V w_0 R w) : Runs Try.prog memm_halfOf.id #[(.int .i64 w_0)] w R :=
  Runs.enter (c := bodyOf Try.f60) (N := 13) Try.func60 (by kernel_rfl) (by kernel_rfl) (by kernel_rfl) (seg_T good mixed Try.func60 600 false [.code (bodyOf Try.f60)] [(0, (.int .i64 w_0))] w (Eq.mp (show memm_halfOf.V w_0 R w = seg Try.prog 60 13 Try.f60.results.toList memm_halfOf.cuts R 600 false [.code (bodyOf Try.f60)] [(0, (.int .i64 w_0))] w by kernel_rfl) h))

/-! e2e/api.MemSig: it only computes -/
def api_MemSig.S (R : Value → World → Prop) (w : World) (r : Int × Int × Bool) : Prop := R (.tuple #[(.int .i64 (r).1), (.int .u8 (r).2.1), (.bool (r).2.2)]) w
def api_MemSig.F9 (t_40 : Bool) : Int × Int × Bool :=
  (cond t_40
  (4, 126, false)
  (0, 0, false))
theorem api_MemSig.F9_ok (t_40 : Bool) (R : Value → World → Prop) (w : World) (h : api_MemSig.S R w (api_MemSig.F9 t_40)) : api_MemSig.L9 t_40 R w :=
  api_MemSig.step9 t_40 R w (cond_mapT (S := api_MemSig.S R w) h (fun h => h) (fun h => h))
def api_MemSig.F8 (t_5 : Int) (t_35 : Bool) : Int × Int × Bool :=
  (cond t_35
  (2, 126, false)
  (cond (t_5 == (52 : Int))
  (4, 126, true)
  (cond (t_5 == (53 : Int))
  (api_MemSig.F9 true)
  (api_MemSig.F9 (t_5 == (62 : Int))))))
theorem api_MemSig.F8_ok (t_5 : Int) (t_35 : Bool) (R : Value → World → Prop) (w : World) (h : api_MemSig.S R w (api_MemSig.F8 t_5 t_35)) : api_MemSig.L8 t_5 t_35 R w :=
  api_MemSig.step8 t_5 t_35 R w (cond_mapT (S := api_MemSig.S R w) h (fun h => h) (fun h => (cond_mapT (S := api_MemSig.S R w) h (fun h => h) (fun h => (cond_mapT (S := api_MemSig.S R w) h (fun h => (api_MemSig.F9_ok true R w h)) (fun h => (api_MemSig.F9_ok (t_5 == (62 : Int)) R w h)))))))
def api_MemSig.F7 (t_5 : Int) (t_30 : Bool) : Int × Int × Bool :=
  (cond t_30
  (1, 126, false)
  (cond (t_5 == (50 : Int))
  (2, 126, true)
  (cond (t_5 == (51 : Int))
  (api_MemSig.F8 t_5 true)
  (api_MemSig.F8 t_5 (t_5 == (61 : Int))))))
theorem api_MemSig.F7_ok (t_5 : Int) (t_30 : Bool) (R : Value → World → Prop) (w : World) (h : api_MemSig.S R w (api_MemSig.F7 t_5 t_30)) : api_MemSig.L7 t_5 t_30 R w :=
  api_MemSig.step7 t_5 t_30 R w (cond_mapT (S := api_MemSig.S R w) h (fun h => h) (fun h => (cond_mapT (S := api_MemSig.S R w) h (fun h => h) (fun h => (cond_mapT (S := api_MemSig.S R w) h (fun h => (api_MemSig.F8_ok t_5 true R w h)) (fun h => (api_MemSig.F8_ok t_5 (t_5 == (61 : Int)) R w h)))))))
def api_MemSig.F6 (t_5 : Int) (t_25 : Bool) : Int × Int × Bool :=
  (cond t_25
  (2, 127, false)
  (cond (t_5 == (48 : Int))
  (1, 126, true)
  (cond (t_5 == (49 : Int))
  (api_MemSig.F7 t_5 true)
  (api_MemSig.F7 t_5 (t_5 == (60 : Int))))))
theorem api_MemSig.F6_ok (t_5 : Int) (t_25 : Bool) (R : Value → World → Prop) (w : World) (h : api_MemSig.S R w (api_MemSig.F6 t_5 t_25)) : api_MemSig.L6 t_5 t_25 R w :=
  api_MemSig.step6 t_5 t_25 R w (cond_mapT (S := api_MemSig.S R w) h (fun h => h) (fun h => (cond_mapT (S := api_MemSig.S R w) h (fun h => h) (fun h => (cond_mapT (S := api_MemSig.S R w) h (fun h => (api_MemSig.F7_ok t_5 true R w h)) (fun h => (api_MemSig.F7_ok t_5 (t_5 == (60 : Int)) R w h)))))))
def api_MemSig.F5 (t_5 : Int) (t_20 : Bool) : Int × Int × Bool :=
  (cond t_20
  (1, 127, false)
  (cond (t_5 == (46 : Int))
  (2, 127, true)
  (cond (t_5 == (47 : Int))
  (api_MemSig.F6 t_5 true)
  (api_MemSig.F6 t_5 (t_5 == (59 : Int))))))
theorem api_MemSig.F5_ok (t_5 : Int) (t_20 : Bool) (R : Value → World → Prop) (w : World) (h : api_MemSig.S R w (api_MemSig.F5 t_5 t_20)) : api_MemSig.L5 t_5 t_20 R w :=
  api_MemSig.step5 t_5 t_20 R w (cond_mapT (S := api_MemSig.S R w) h (fun h => h) (fun h => (cond_mapT (S := api_MemSig.S R w) h (fun h => h) (fun h => (cond_mapT (S := api_MemSig.S R w) h (fun h => (api_MemSig.F6_ok t_5 true R w h)) (fun h => (api_MemSig.F6_ok t_5 (t_5 == (59 : Int)) R w h)))))))
def api_MemSig.F4 (t_5 : Int) (t_15 : Bool) : Int × Int × Bool :=
  (cond t_15
  (8, 124, false)
  (cond (t_5 == (44 : Int))
  (1, 127, true)
  (cond (t_5 == (45 : Int))
  (api_MemSig.F5 t_5 true)
  (api_MemSig.F5 t_5 (t_5 == (58 : Int))))))
theorem api_MemSig.F4_ok (t_5 : Int) (t_15 : Bool) (R : Value → World → Prop) (w : World) (h : api_MemSig.S R w (api_MemSig.F4 t_5 t_15)) : api_MemSig.L4 t_5 t_15 R w :=
  api_MemSig.step4 t_5 t_15 R w (cond_mapT (S := api_MemSig.S R w) h (fun h => h) (fun h => (cond_mapT (S := api_MemSig.S R w) h (fun h => h) (fun h => (cond_mapT (S := api_MemSig.S R w) h (fun h => (api_MemSig.F5_ok t_5 true R w h)) (fun h => (api_MemSig.F5_ok t_5 (t_5 == (58 : Int)) R w h)))))))
def api_MemSig.F3 (t_5 : Int) (t_12 : Bool) : Int × Int × Bool :=
  (cond t_12
  (4, 125, false)
  (cond (t_5 == (43 : Int))
  (api_MemSig.F4 t_5 true)
  (api_MemSig.F4 t_5 (t_5 == (57 : Int)))))
theorem api_MemSig.F3_ok (t_5 : Int) (t_12 : Bool) (R : Value → World → Prop) (w : World) (h : api_MemSig.S R w (api_MemSig.F3 t_5 t_12)) : api_MemSig.L3 t_5 t_12 R w :=
  api_MemSig.step3 t_5 t_12 R w (cond_mapT (S := api_MemSig.S R w) h (fun h => h) (fun h => (cond_mapT (S := api_MemSig.S R w) h (fun h => (api_MemSig.F4_ok t_5 true R w h)) (fun h => (api_MemSig.F4_ok t_5 (t_5 == (57 : Int)) R w h)))))
def api_MemSig.F2 (t_5 : Int) (t_9 : Bool) : Int × Int × Bool :=
  (cond t_9
  (8, 126, false)
  (cond (t_5 == (42 : Int))
  (api_MemSig.F3 t_5 true)
  (api_MemSig.F3 t_5 (t_5 == (56 : Int)))))
theorem api_MemSig.F2_ok (t_5 : Int) (t_9 : Bool) (R : Value → World → Prop) (w : World) (h : api_MemSig.S R w (api_MemSig.F2 t_5 t_9)) : api_MemSig.L2 t_5 t_9 R w :=
  api_MemSig.step2 t_5 t_9 R w (cond_mapT (S := api_MemSig.S R w) h (fun h => h) (fun h => (cond_mapT (S := api_MemSig.S R w) h (fun h => (api_MemSig.F3_ok t_5 true R w h)) (fun h => (api_MemSig.F3_ok t_5 (t_5 == (56 : Int)) R w h)))))
def api_MemSig.F1 (t_5 : Int) (t_6 : Bool) : Int × Int × Bool :=
  (cond t_6
  (4, 127, false)
  (cond (t_5 == (41 : Int))
  (api_MemSig.F2 t_5 true)
  (api_MemSig.F2 t_5 (t_5 == (55 : Int)))))
theorem api_MemSig.F1_ok (t_5 : Int) (t_6 : Bool) (R : Value → World → Prop) (w : World) (h : api_MemSig.S R w (api_MemSig.F1 t_5 t_6)) : api_MemSig.L1 t_5 t_6 R w :=
  api_MemSig.step1 t_5 t_6 R w (cond_mapT (S := api_MemSig.S R w) h (fun h => h) (fun h => (cond_mapT (S := api_MemSig.S R w) h (fun h => (api_MemSig.F2_ok t_5 true R w h)) (fun h => (api_MemSig.F2_ok t_5 (t_5 == (55 : Int)) R w h)))))
def api_MemSig.F (op_0 : Int) : Int × Int × Bool :=
  (cond (op_0 == (40 : Int))
  (api_MemSig.F1 op_0 true)
  (api_MemSig.F1 op_0 (op_0 == (54 : Int))))
theorem api_MemSig.F_ok (op_0 : Int) (R : Value → World → Prop) (w : World) (h : api_MemSig.S R w (api_MemSig.F op_0)) : api_MemSig.V op_0 R w :=
  (cond_mapT (S := api_MemSig.S R w) h (fun h => (api_MemSig.F1_ok op_0 true R w h)) (fun h => (api_MemSig.F1_ok op_0 (op_0 == (54 : Int)) R w h)))
theorem api_MemSig.pure (op_0 : Int) (w : World) : Runs Try.prog api_MemSig.id #[(.int .i64 op_0)] w fun v w' => v = (.tuple #[(.int .i64 ((api_MemSig.F op_0)).1), (.int .u8 ((api_MemSig.F op_0)).2.1), (.bool ((api_MemSig.F op_0)).2.2)]) ∧ w' = w :=
  api_MemSig.enter op_0 _ w (api_MemSig.F_ok op_0 _ w ⟨rfl, rfl⟩)

/-! e2e/api.Cut: it only computes -/
def api_Cut.S (R : Value → World → Prop) (w : World) (r : Int) : Prop := R (.int .u64 r) w
def api_Cut.F1 (v_1 : Int) (t_10 : Bool) : Int :=
  (cond t_10
  ((bAnd .u64 v_1 4294967295))
  (v_1))
theorem api_Cut.F1_ok (v_1 : Int) (t_10 : Bool) (R : Value → World → Prop) (w : World) (h : api_Cut.S R w (api_Cut.F1 v_1 t_10)) : api_Cut.L1 v_1 t_10 R w :=
  api_Cut.step1 v_1 t_10 R w (cond_mapT (S := api_Cut.S R w) h (fun h => h) (fun h => h))
def api_Cut.F (t_0 : Int) (v_1 : Int) : Int :=
  (cond (t_0 == (127 : Int))
  (api_Cut.F1 v_1 true)
  (api_Cut.F1 v_1 (t_0 == (125 : Int))))
theorem api_Cut.F_ok (t_0 : Int) (v_1 : Int) (R : Value → World → Prop) (w : World) (h : api_Cut.S R w (api_Cut.F t_0 v_1)) : api_Cut.V t_0 v_1 R w :=
  (cond_mapT (S := api_Cut.S R w) h (fun h => (api_Cut.F1_ok v_1 true R w h)) (fun h => (api_Cut.F1_ok v_1 (t_0 == (125 : Int)) R w h)))
theorem api_Cut.pure (t_0 : Int) (v_1 : Int) (w : World) : Runs Try.prog api_Cut.id #[(.int .u8 t_0), (.int .u64 v_1)] w fun v w' => v = (.int .u64 (api_Cut.F t_0 v_1)) ∧ w' = w :=
  api_Cut.enter t_0 v_1 _ w (api_Cut.F_ok t_0 v_1 _ w ⟨rfl, rfl⟩)

/-! (*e2e/memm.Store).Check: it only computes -/
def memm_Store_Check.S (R : Value → World → Prop) (w : World) (r : Bool) : Prop := R (.bool r) w
def memm_Store_Check.F (s_0 : Option Addr) : Bool :=
  (true)
theorem memm_Store_Check.F_ok (s_0 : Option Addr) (R : Value → World → Prop) (w : World) (h : memm_Store_Check.S R w (memm_Store_Check.F s_0)) : memm_Store_Check.V s_0 R w :=
  h
theorem memm_Store_Check.pure (s_0 : Option Addr) (w : World) : Runs Try.prog memm_Store_Check.id #[(.pointer s_0)] w fun v w' => v = (.bool (memm_Store_Check.F s_0)) ∧ w' = w :=
  memm_Store_Check.enter s_0 _ w (memm_Store_Check.F_ok s_0 _ w ⟨rfl, rfl⟩)

end Go.Proofs.Qxb6500319a
