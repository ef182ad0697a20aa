/-
  No cell of these rows narrows 'for every input' (looked for: loops, veiled, ifaces, maps, wideKeys, modest, calm, conditions, laid).
  DERIVED. THE GIVEN ROWS OF THIS SEAT. 3 by the template 'for every input the law returns true; each argument reads behind the call as it read before'; 0 by the template 'total and deterministic' (their statements: Qxb6500317aGreatTotals.lean).
  GIVEN WITH THE SEED: the statements are not yours to turn. If you find one false, say at which input.
  Laid BY PROGRAM, IN A SANDBOX (cutbox-rows.mjs): the forced cells as the released guide's own fill.sh prints them over the translation 30bccb9d3589d33d… (all of the seat's roots in one cut). By AI agents, Wed Nov 11 2026. No macro, syntax, notation, axiom, sorry.
-/
import Derived.Test.Qxb6500317aGreatChecked
import GoSem.Claim
import GoSem.ClaimJoined
import GoSem.ClaimMapViews
import Derived.JoinedTies
import Derived.KernelRfl
namespace Go.Proofs.Qxb6500317aGreat
/- THE CELL 'sum', in the pinned program and in every row, IS THE sha256 OF THE DUMP (.gsa) THAT Qxb6500317aGreatProg.lean LOADS. Nothing in Lean hashes anything: it is a label: what it is worth is what the hold of that sum in a sandbox is worth. -/
noncomputable def Tryz.pinned : Pinned := { name := "qxb6500317agreat", sum := "30bccb9d3589d33d30c57fe08ce52a034b63e1aaa3fd2805b10dcc4ac24a61de", checked := Tryz.checked }
namespace Rows
def none {H : Type} : Left H := { results := [], args := [] }

/-- 'execlaw.Means2': WHATEVER THE INPUT: true; the input reads as it did. -/
def means2Spec : ChangeSpec := { name := "means2", fn := fun _ => fun
  | [d] => { results := [.lit (.bool true)], args := [d] }
  | _ => none }
def means2Row : OpenClaim := { program := "qxb6500317agreat", sum := "30bccb9d3589d33d30c57fe08ce52a034b63e1aaa3fd2805b10dcc4ac24a61de", func := "e2e/execlaw.Means2", spec := "means2", inPlace := ["math.Float32frombits", "math.Float64frombits", "math.Float32bits", "math.sqrt", "math.Float64bits"], unfollowed := true, recurses := true, apart := false }
def Means2Said : Prop := means2Row.holds Tryz.pinned (OpenSpec.ofChange means2Spec)

/-- ITS FALSE NEIGHBOUR: 'it returns false'. Refute it at one input. -/
def means2Wrong : ChangeSpec := { name := "means2", fn := fun _ => fun
  | [d] => { results := [.lit (.bool false)], args := [d] }
  | _ => none }
def Means2WrongFalsely : Prop := means2Row.holds Tryz.pinned (OpenSpec.ofChange means2Wrong)

/-- 'execlaw.Sound': WHATEVER THE INPUT: true; the input reads as it did. -/
def soundSpec : ChangeSpec := { name := "sound", fn := fun _ => fun
  | [d] => { results := [.lit (.bool true)], args := [d] }
  | _ => none }
def soundRow : OpenClaim := { program := "qxb6500317agreat", sum := "30bccb9d3589d33d30c57fe08ce52a034b63e1aaa3fd2805b10dcc4ac24a61de", func := "e2e/execlaw.Sound", spec := "sound", unfollowed := true, recurses := true, apart := false }
def SoundSaid : Prop := soundRow.holds Tryz.pinned (OpenSpec.ofChange soundSpec)

/-- ITS FALSE NEIGHBOUR: 'it returns false'. Refute it at one input. -/
def soundWrong : ChangeSpec := { name := "sound", fn := fun _ => fun
  | [d] => { results := [.lit (.bool false)], args := [d] }
  | _ => none }
def SoundWrongFalsely : Prop := soundRow.holds Tryz.pinned (OpenSpec.ofChange soundWrong)

/-- 'execlaw.World': WHATEVER THE INPUT: true; the input reads as it did. -/
def worldSpec : ChangeSpec := { name := "world", fn := fun _ => fun
  | [d] => { results := [.lit (.bool true)], args := [d] }
  | _ => none }
def worldRow : OpenClaim := { program := "qxb6500317agreat", sum := "30bccb9d3589d33d30c57fe08ce52a034b63e1aaa3fd2805b10dcc4ac24a61de", func := "e2e/execlaw.World", spec := "world", inPlace := ["math.Float32frombits", "math.Float64frombits", "math.Float32bits", "math.sqrt", "math.Float64bits"], unfollowed := true, recurses := true, apart := false }
def WorldSaid : Prop := worldRow.holds Tryz.pinned (OpenSpec.ofChange worldSpec)

/-- ITS FALSE NEIGHBOUR: 'it returns false'. Refute it at one input. -/
def worldWrong : ChangeSpec := { name := "world", fn := fun _ => fun
  | [d] => { results := [.lit (.bool false)], args := [d] }
  | _ => none }
def WorldWrongFalsely : Prop := worldRow.holds Tryz.pinned (OpenSpec.ofChange worldWrong)

end Rows
end Go.Proofs.Qxb6500317aGreat
