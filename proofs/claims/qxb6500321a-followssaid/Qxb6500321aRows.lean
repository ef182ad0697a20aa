/-
  No cell of these rows narrows 'for every input' (looked for: loops, veiled, ifaces, maps, wideKeys, modest, calm, conditions, laid).
  DERIVED. THE GIVEN ROWS OF THIS SEAT. 5 by the template 'for every input the law returns true; each argument reads behind the call as it read before'; 0 by the template 'total and deterministic' (their statements: Qxb6500321aTotals.lean).
  GIVEN WITH THE SEED: the statements are not yours to turn. If you find one false, say at which input.
  Laid BY PROGRAM, IN A SANDBOX (cutbox-rows.mjs): the forced cells as the released guide's own fill.sh prints them over the translation e37e15daa26d4670… (all of the seat's roots in one cut). By AI agents, Wed Nov 11 2026. No macro, syntax, notation, axiom, sorry.
-/
import Derived.Test.Qxb6500321aChecked
import GoSem.Claim
import GoSem.ClaimJoined
import GoSem.ClaimMapViews
import Derived.JoinedTies
import Derived.KernelRfl
namespace Go.Proofs.Qxb6500321a
/- THE CELL 'sum', in the pinned program and in every row, IS THE sha256 OF THE DUMP (.gsa) THAT Qxb6500321aProg.lean LOADS. Nothing in Lean hashes anything: it is a label: what it is worth is what the hold of that sum in a sandbox is worth. -/
noncomputable def Try.pinned : Pinned := { name := "qxb6500321a", sum := "e37e15daa26d4670d407dfba325586b3656207809d53cfb12bd38ab2dda5ec28", checked := Try.checked }
namespace Rows
def none {H : Type} : Left H := { results := [], args := [] }

/-- 'preplaw.Follows': WHATEVER THE INPUT: true; the input reads as it did. -/
def followsSpec : ChangeSpec := { name := "follows", fn := fun _ => fun
  | [d] => { results := [.lit (.bool true)], args := [d] }
  | _ => none }
def followsRow : OpenClaim := { program := "qxb6500321a", sum := "e37e15daa26d4670d407dfba325586b3656207809d53cfb12bd38ab2dda5ec28", func := "e2e/preplaw.Follows", spec := "follows", unfollowed := true, recurses := true, apart := false }
def FollowsSaid : Prop := followsRow.holds Try.pinned (OpenSpec.ofChange followsSpec)

/-- ITS FALSE NEIGHBOUR: 'it returns false'. Refute it at one input. -/
def followsWrong : ChangeSpec := { name := "follows", fn := fun _ => fun
  | [d] => { results := [.lit (.bool false)], args := [d] }
  | _ => none }
def FollowsWrongFalsely : Prop := followsRow.holds Try.pinned (OpenSpec.ofChange followsWrong)

/-- 'preplaw.Keeps': WHATEVER THE INPUT: true; the input reads as it did. -/
def keepsSpec : ChangeSpec := { name := "keeps", fn := fun _ => fun
  | [d] => { results := [.lit (.bool true)], args := [d] }
  | _ => none }
def keepsRow : OpenClaim := { program := "qxb6500321a", sum := "e37e15daa26d4670d407dfba325586b3656207809d53cfb12bd38ab2dda5ec28", func := "e2e/preplaw.Keeps", spec := "keeps", unfollowed := true, recurses := true, apart := false }
def KeepsSaid : Prop := keepsRow.holds Try.pinned (OpenSpec.ofChange keepsSpec)

/-- ITS FALSE NEIGHBOUR: 'it returns false'. Refute it at one input. -/
def keepsWrong : ChangeSpec := { name := "keeps", fn := fun _ => fun
  | [d] => { results := [.lit (.bool false)], args := [d] }
  | _ => none }
def KeepsWrongFalsely : Prop := keepsRow.holds Try.pinned (OpenSpec.ofChange keepsWrong)

/-- 'preplaw.Refines': WHATEVER THE INPUT: true; the input reads as it did. -/
def refinesSpec : ChangeSpec := { name := "refines", fn := fun _ => fun
  | [d] => { results := [.lit (.bool true)], args := [d] }
  | _ => none }
def refinesRow : OpenClaim := { program := "qxb6500321a", sum := "e37e15daa26d4670d407dfba325586b3656207809d53cfb12bd38ab2dda5ec28", func := "e2e/preplaw.Refines", spec := "refines", unfollowed := true, recurses := true, apart := false }
def RefinesSaid : Prop := refinesRow.holds Try.pinned (OpenSpec.ofChange refinesSpec)

/-- ITS FALSE NEIGHBOUR: 'it returns false'. Refute it at one input. -/
def refinesWrong : ChangeSpec := { name := "refines", fn := fun _ => fun
  | [d] => { results := [.lit (.bool false)], args := [d] }
  | _ => none }
def RefinesWrongFalsely : Prop := refinesRow.holds Try.pinned (OpenSpec.ofChange refinesWrong)

/-- 'preplaw.RefinesQuiet': WHATEVER THE INPUT: true; the input reads as it did. -/
def refinesQuietSpec : ChangeSpec := { name := "refinesQuiet", fn := fun _ => fun
  | [d] => { results := [.lit (.bool true)], args := [d] }
  | _ => none }
def refinesQuietRow : OpenClaim := { program := "qxb6500321a", sum := "e37e15daa26d4670d407dfba325586b3656207809d53cfb12bd38ab2dda5ec28", func := "e2e/preplaw.RefinesQuiet", spec := "refinesQuiet", unfollowed := true, recurses := true, apart := false }
def RefinesQuietSaid : Prop := refinesQuietRow.holds Try.pinned (OpenSpec.ofChange refinesQuietSpec)

/-- ITS FALSE NEIGHBOUR: 'it returns false'. Refute it at one input. -/
def refinesQuietWrong : ChangeSpec := { name := "refinesQuiet", fn := fun _ => fun
  | [d] => { results := [.lit (.bool false)], args := [d] }
  | _ => none }
def RefinesQuietWrongFalsely : Prop := refinesQuietRow.holds Try.pinned (OpenSpec.ofChange refinesQuietWrong)

/-- 'preplaw.Seam': WHATEVER THE INPUT: true; the input reads as it did. -/
def seamSpec : ChangeSpec := { name := "seam", fn := fun _ => fun
  | [d] => { results := [.lit (.bool true)], args := [d] }
  | _ => none }
def seamRow : OpenClaim := { program := "qxb6500321a", sum := "e37e15daa26d4670d407dfba325586b3656207809d53cfb12bd38ab2dda5ec28", func := "e2e/preplaw.Seam", spec := "seam", unfollowed := true, recurses := true, apart := false }
def SeamSaid : Prop := seamRow.holds Try.pinned (OpenSpec.ofChange seamSpec)

/-- ITS FALSE NEIGHBOUR: 'it returns false'. Refute it at one input. -/
def seamWrong : ChangeSpec := { name := "seam", fn := fun _ => fun
  | [d] => { results := [.lit (.bool false)], args := [d] }
  | _ => none }
def SeamWrongFalsely : Prop := seamRow.holds Try.pinned (OpenSpec.ofChange seamWrong)

end Rows
end Go.Proofs.Qxb6500321a
