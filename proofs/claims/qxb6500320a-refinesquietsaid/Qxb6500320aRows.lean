/-
  No cell of these rows narrows 'for every input' (looked for: loops, veiled, ifaces, maps, wideKeys, modest, calm, conditions, laid).
  DERIVED. THE GIVEN ROWS OF THIS SEAT. 7 by the template 'for every input the law returns true; each argument reads behind the call as it read before'; 0 by the template 'total and deterministic' (their statements: Qxb6500320aTotals.lean).
  GIVEN WITH THE SEED: the statements are not yours to turn. If you find one false, say at which input.
  Laid BY PROGRAM, IN A SANDBOX (cutbox-rows.mjs): the forced cells as the released guide's own fill.sh prints them over the translation d8ece157e11bb2c3… (all of the seat's roots in one cut). By AI agents, Wed Nov 11 2026. No macro, syntax, notation, axiom, sorry.
-/
import Derived.Test.Qxb6500320aChecked
import GoSem.Claim
import GoSem.ClaimJoined
import GoSem.ClaimMapViews
import Derived.JoinedTies
import Derived.KernelRfl
namespace Go.Proofs.Qxb6500320a
/- THE CELL 'sum', in the pinned program and in every row, IS THE sha256 OF THE DUMP (.gsa) THAT Qxb6500320aProg.lean LOADS. Nothing in Lean hashes anything: it is a label: what it is worth is what the hold of that sum in a sandbox is worth. -/
noncomputable def Try.pinned : Pinned := { name := "qxb6500320a", sum := "d8ece157e11bb2c38b89f83b0c4d30a29a98679e8466a7a76456ac340837e225", checked := Try.checked }
namespace Rows
def none {H : Type} : Left H := { results := [], args := [] }

/-- 'numlaw.KeepsEnds': WHATEVER THE INPUT: true; the input reads as it did. -/
def keepsEndsSpec : ChangeSpec := { name := "keepsEnds", fn := fun _ => fun
  | [d] => { results := [.lit (.bool true)], args := [d] }
  | _ => none }
def keepsEndsRow : OpenClaim := { program := "qxb6500320a", sum := "d8ece157e11bb2c38b89f83b0c4d30a29a98679e8466a7a76456ac340837e225", func := "e2e/numlaw.KeepsEnds", spec := "keepsEnds", inPlace := ["math.Float32frombits", "math.Float64frombits", "math.Float32bits", "math.sqrt", "math.Float64bits"], apart := false }
def KeepsEndsSaid : Prop := keepsEndsRow.holds Try.pinned (OpenSpec.ofChange keepsEndsSpec)

/-- ITS FALSE NEIGHBOUR: 'it returns false'. Refute it at one input. -/
def keepsEndsWrong : ChangeSpec := { name := "keepsEnds", fn := fun _ => fun
  | [d] => { results := [.lit (.bool false)], args := [d] }
  | _ => none }
def KeepsEndsWrongFalsely : Prop := keepsEndsRow.holds Try.pinned (OpenSpec.ofChange keepsEndsWrong)

/-- 'numlaw.KeepsFloat': WHATEVER THE INPUT: true; the input reads as it did. -/
def keepsFloatSpec : ChangeSpec := { name := "keepsFloat", fn := fun _ => fun
  | [d] => { results := [.lit (.bool true)], args := [d] }
  | _ => none }
def keepsFloatRow : OpenClaim := { program := "qxb6500320a", sum := "d8ece157e11bb2c38b89f83b0c4d30a29a98679e8466a7a76456ac340837e225", func := "e2e/numlaw.KeepsFloat", spec := "keepsFloat", inPlace := ["math.Float32frombits", "math.Float64frombits", "math.Float32bits", "math.sqrt", "math.Float64bits"], apart := false }
def KeepsFloatSaid : Prop := keepsFloatRow.holds Try.pinned (OpenSpec.ofChange keepsFloatSpec)

/-- ITS FALSE NEIGHBOUR: 'it returns false'. Refute it at one input. -/
def keepsFloatWrong : ChangeSpec := { name := "keepsFloat", fn := fun _ => fun
  | [d] => { results := [.lit (.bool false)], args := [d] }
  | _ => none }
def KeepsFloatWrongFalsely : Prop := keepsFloatRow.holds Try.pinned (OpenSpec.ofChange keepsFloatWrong)

/-- 'numlaw.Keeps': WHATEVER THE INPUT: true; the input reads as it did. -/
def keepsSpec : ChangeSpec := { name := "keeps", fn := fun _ => fun
  | [d] => { results := [.lit (.bool true)], args := [d] }
  | _ => none }
def keepsRow : OpenClaim := { program := "qxb6500320a", sum := "d8ece157e11bb2c38b89f83b0c4d30a29a98679e8466a7a76456ac340837e225", func := "e2e/numlaw.Keeps", spec := "keeps", inPlace := ["math.Float32frombits", "math.Float64frombits", "math.Float32bits", "math.sqrt", "math.Float64bits"], apart := false }
def KeepsSaid : Prop := keepsRow.holds Try.pinned (OpenSpec.ofChange keepsSpec)

/-- ITS FALSE NEIGHBOUR: 'it returns false'. Refute it at one input. -/
def keepsWrong : ChangeSpec := { name := "keeps", fn := fun _ => fun
  | [d] => { results := [.lit (.bool false)], args := [d] }
  | _ => none }
def KeepsWrongFalsely : Prop := keepsRow.holds Try.pinned (OpenSpec.ofChange keepsWrong)

/-- 'numlaw.Refines': WHATEVER THE INPUT: true; the input reads as it did. -/
def refinesSpec : ChangeSpec := { name := "refines", fn := fun _ => fun
  | [d] => { results := [.lit (.bool true)], args := [d] }
  | _ => none }
def refinesRow : OpenClaim := { program := "qxb6500320a", sum := "d8ece157e11bb2c38b89f83b0c4d30a29a98679e8466a7a76456ac340837e225", func := "e2e/numlaw.Refines", spec := "refines", inPlace := ["math.Float32frombits", "math.Float64frombits", "math.Float32bits", "math.sqrt", "math.Float64bits"], apart := false }
def RefinesSaid : Prop := refinesRow.holds Try.pinned (OpenSpec.ofChange refinesSpec)

/-- ITS FALSE NEIGHBOUR: 'it returns false'. Refute it at one input. -/
def refinesWrong : ChangeSpec := { name := "refines", fn := fun _ => fun
  | [d] => { results := [.lit (.bool false)], args := [d] }
  | _ => none }
def RefinesWrongFalsely : Prop := refinesRow.holds Try.pinned (OpenSpec.ofChange refinesWrong)

/-- 'numlaw.RefinesQuiet': WHATEVER THE INPUT: true; the input reads as it did. -/
def refinesQuietSpec : ChangeSpec := { name := "refinesQuiet", fn := fun _ => fun
  | [d] => { results := [.lit (.bool true)], args := [d] }
  | _ => none }
def refinesQuietRow : OpenClaim := { program := "qxb6500320a", sum := "d8ece157e11bb2c38b89f83b0c4d30a29a98679e8466a7a76456ac340837e225", func := "e2e/numlaw.RefinesQuiet", spec := "refinesQuiet", inPlace := ["math.Float32frombits", "math.Float64frombits", "math.Float32bits", "math.sqrt", "math.Float64bits"], apart := false }
def RefinesQuietSaid : Prop := refinesQuietRow.holds Try.pinned (OpenSpec.ofChange refinesQuietSpec)

/-- ITS FALSE NEIGHBOUR: 'it returns false'. Refute it at one input. -/
def refinesQuietWrong : ChangeSpec := { name := "refinesQuiet", fn := fun _ => fun
  | [d] => { results := [.lit (.bool false)], args := [d] }
  | _ => none }
def RefinesQuietWrongFalsely : Prop := refinesQuietRow.holds Try.pinned (OpenSpec.ofChange refinesQuietWrong)

/-- 'numlaw.KeepsNearest': WHATEVER THE INPUT: true; the input reads as it did. -/
def keepsNearestSpec : ChangeSpec := { name := "keepsNearest", fn := fun _ => fun
  | [d] => { results := [.lit (.bool true)], args := [d] }
  | _ => none }
def keepsNearestRow : OpenClaim := { program := "qxb6500320a", sum := "d8ece157e11bb2c38b89f83b0c4d30a29a98679e8466a7a76456ac340837e225", func := "e2e/numlaw.KeepsNearest", spec := "keepsNearest", inPlace := ["math.Float32frombits", "math.Float64frombits", "math.Float32bits", "math.sqrt", "math.Float64bits"], apart := false }
def KeepsNearestSaid : Prop := keepsNearestRow.holds Try.pinned (OpenSpec.ofChange keepsNearestSpec)

/-- ITS FALSE NEIGHBOUR: 'it returns false'. Refute it at one input. -/
def keepsNearestWrong : ChangeSpec := { name := "keepsNearest", fn := fun _ => fun
  | [d] => { results := [.lit (.bool false)], args := [d] }
  | _ => none }
def KeepsNearestWrongFalsely : Prop := keepsNearestRow.holds Try.pinned (OpenSpec.ofChange keepsNearestWrong)

/-- 'numlaw.KeepsPlain': WHATEVER THE INPUT: true; the input reads as it did. -/
def keepsPlainSpec : ChangeSpec := { name := "keepsPlain", fn := fun _ => fun
  | [d] => { results := [.lit (.bool true)], args := [d] }
  | _ => none }
def keepsPlainRow : OpenClaim := { program := "qxb6500320a", sum := "d8ece157e11bb2c38b89f83b0c4d30a29a98679e8466a7a76456ac340837e225", func := "e2e/numlaw.KeepsPlain", spec := "keepsPlain", inPlace := ["math.Float32frombits", "math.Float64frombits", "math.Float32bits", "math.sqrt", "math.Float64bits"], apart := false }
def KeepsPlainSaid : Prop := keepsPlainRow.holds Try.pinned (OpenSpec.ofChange keepsPlainSpec)

/-- ITS FALSE NEIGHBOUR: 'it returns false'. Refute it at one input. -/
def keepsPlainWrong : ChangeSpec := { name := "keepsPlain", fn := fun _ => fun
  | [d] => { results := [.lit (.bool false)], args := [d] }
  | _ => none }
def KeepsPlainWrongFalsely : Prop := keepsPlainRow.holds Try.pinned (OpenSpec.ofChange keepsPlainWrong)

end Rows
end Go.Proofs.Qxb6500320a
