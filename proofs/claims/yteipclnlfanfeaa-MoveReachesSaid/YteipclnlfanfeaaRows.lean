/-
  No cell of these rows narrows 'for every input' (looked for: loops, veiled, ifaces, maps, wideKeys, modest, calm, conditions, laid).
  DERIVED. THE GIVEN ROWS OF THIS SEAT. 5 by the template 'for every input the law returns true; each argument reads behind the call as it read before'; 0 by the template 'total and deterministic' (their statements: YteipclnlfanfeaaTotals.lean).
  GIVEN WITH THE SEED: the statements are not yours to turn. If you find one false, say at which input.
  Laid BY PROGRAM, IN A SANDBOX (cutbox-rows.mjs): the forced cells as the released guide's own fill.sh prints them over the translation e2e83cd019d87bf1… (all of the seat's roots in one cut). By AI agents, Wed Nov 11 2026. No macro, syntax, notation, axiom, sorry.
-/
import Derived.Test.YteipclnlfanfeaaChecked
import GoSem.Claim
import GoSem.ClaimJoined
import GoSem.ClaimMapViews
import Derived.JoinedTies
import Derived.KernelRfl
namespace Go.Proofs.Yteipclnlfanfeaa
/- THE CELL 'sum', in the pinned program and in every row, IS THE sha256 OF THE DUMP (.gsa) THAT YteipclnlfanfeaaProg.lean LOADS. Nothing in Lean hashes anything: it is a label: what it is worth is what the hold of that sum in a sandbox is worth. -/
noncomputable def Try.pinned : Pinned := { name := "yteipclnlfanfeaa", sum := "e2e83cd019d87bf145a72aafaa36785e7c36d8c30f436c76972177392f2f1ddc", checked := Try.checked }
namespace Rows
def none {H : Type} : Left H := { results := [], args := [] }

/-- 'archivoltlaw36.MoveSteps': WHATEVER THE INPUT: true; the input reads as it did. -/
def moveStepsSpec : ChangeSpec := { name := "moveSteps", fn := fun _ => fun
  | [d1, d2] => { results := [.lit (.bool true)], args := [d1, d2] }
  | _ => none }
def moveStepsRow : OpenClaim := { program := "yteipclnlfanfeaa", sum := "e2e83cd019d87bf145a72aafaa36785e7c36d8c30f436c76972177392f2f1ddc", func := "archivolt/archivoltlaw36.MoveSteps", spec := "moveSteps", unfollowed := true, recurses := true, apart := false }
def MoveStepsSaid : Prop := moveStepsRow.holds Try.pinned (OpenSpec.ofChange moveStepsSpec)

/-- ITS FALSE NEIGHBOUR: 'it returns false'. Refute it at one input. -/
def moveStepsWrong : ChangeSpec := { name := "moveSteps", fn := fun _ => fun
  | [d1, d2] => { results := [.lit (.bool false)], args := [d1, d2] }
  | _ => none }
def MoveStepsWrongFalsely : Prop := moveStepsRow.holds Try.pinned (OpenSpec.ofChange moveStepsWrong)

/-- 'archivoltlaw36.MovePlans': WHATEVER THE INPUT: true; the input reads as it did. -/
def movePlansSpec : ChangeSpec := { name := "movePlans", fn := fun _ => fun
  | [d1, d2] => { results := [.lit (.bool true)], args := [d1, d2] }
  | _ => none }
def movePlansRow : OpenClaim := { program := "yteipclnlfanfeaa", sum := "e2e83cd019d87bf145a72aafaa36785e7c36d8c30f436c76972177392f2f1ddc", func := "archivolt/archivoltlaw36.MovePlans", spec := "movePlans", unfollowed := true, recurses := true, apart := false }
def MovePlansSaid : Prop := movePlansRow.holds Try.pinned (OpenSpec.ofChange movePlansSpec)

/-- ITS FALSE NEIGHBOUR: 'it returns false'. Refute it at one input. -/
def movePlansWrong : ChangeSpec := { name := "movePlans", fn := fun _ => fun
  | [d1, d2] => { results := [.lit (.bool false)], args := [d1, d2] }
  | _ => none }
def MovePlansWrongFalsely : Prop := movePlansRow.holds Try.pinned (OpenSpec.ofChange movePlansWrong)

/-- 'archivoltlaw36.MoveReaches': WHATEVER THE INPUT: true; the input reads as it did. -/
def moveReachesSpec : ChangeSpec := { name := "moveReaches", fn := fun _ => fun
  | [d1, d2] => { results := [.lit (.bool true)], args := [d1, d2] }
  | _ => none }
def moveReachesRow : OpenClaim := { program := "yteipclnlfanfeaa", sum := "e2e83cd019d87bf145a72aafaa36785e7c36d8c30f436c76972177392f2f1ddc", func := "archivolt/archivoltlaw36.MoveReaches", spec := "moveReaches", unfollowed := true, recurses := true, apart := false }
def MoveReachesSaid : Prop := moveReachesRow.holds Try.pinned (OpenSpec.ofChange moveReachesSpec)

/-- ITS FALSE NEIGHBOUR: 'it returns false'. Refute it at one input. -/
def moveReachesWrong : ChangeSpec := { name := "moveReaches", fn := fun _ => fun
  | [d1, d2] => { results := [.lit (.bool false)], args := [d1, d2] }
  | _ => none }
def MoveReachesWrongFalsely : Prop := moveReachesRow.holds Try.pinned (OpenSpec.ofChange moveReachesWrong)

/-- 'archivoltlaw36.MoveUndone': WHATEVER THE INPUT: true; the input reads as it did. -/
def moveUndoneSpec : ChangeSpec := { name := "moveUndone", fn := fun _ => fun
  | [d1, d2, d3] => { results := [.lit (.bool true)], args := [d1, d2, d3] }
  | _ => none }
def moveUndoneRow : OpenClaim := { program := "yteipclnlfanfeaa", sum := "e2e83cd019d87bf145a72aafaa36785e7c36d8c30f436c76972177392f2f1ddc", func := "archivolt/archivoltlaw36.MoveUndone", spec := "moveUndone", unfollowed := true, recurses := true, apart := false }
def MoveUndoneSaid : Prop := moveUndoneRow.holds Try.pinned (OpenSpec.ofChange moveUndoneSpec)

/-- ITS FALSE NEIGHBOUR: 'it returns false'. Refute it at one input. -/
def moveUndoneWrong : ChangeSpec := { name := "moveUndone", fn := fun _ => fun
  | [d1, d2, d3] => { results := [.lit (.bool false)], args := [d1, d2, d3] }
  | _ => none }
def MoveUndoneWrongFalsely : Prop := moveUndoneRow.holds Try.pinned (OpenSpec.ofChange moveUndoneWrong)

/-- 'archivoltlaw36.MoveTells': WHATEVER THE INPUT: true; the input reads as it did. -/
def moveTellsSpec : ChangeSpec := { name := "moveTells", fn := fun _ => fun
  | [d1, d2, d3, d4] => { results := [.lit (.bool true)], args := [d1, d2, d3, d4] }
  | _ => none }
def moveTellsRow : OpenClaim := { program := "yteipclnlfanfeaa", sum := "e2e83cd019d87bf145a72aafaa36785e7c36d8c30f436c76972177392f2f1ddc", func := "archivolt/archivoltlaw36.MoveTells", spec := "moveTells", unfollowed := true, recurses := true, apart := false }
def MoveTellsSaid : Prop := moveTellsRow.holds Try.pinned (OpenSpec.ofChange moveTellsSpec)

/-- ITS FALSE NEIGHBOUR: 'it returns false'. Refute it at one input. -/
def moveTellsWrong : ChangeSpec := { name := "moveTells", fn := fun _ => fun
  | [d1, d2, d3, d4] => { results := [.lit (.bool false)], args := [d1, d2, d3, d4] }
  | _ => none }
def MoveTellsWrongFalsely : Prop := moveTellsRow.holds Try.pinned (OpenSpec.ofChange moveTellsWrong)

/- THE SECOND FORM. 'bulk': how many values and letters a reading holds, each counted each time it is reached (what is shared counts as often as it is met; a slice's spare places count too). A statement '..UptoSaid' is the law's where the arguments, and the package variables that the reading takes, are together of bulk at most 1048576: NARROWER than '..Said'. Prove '..Said' where nothing that the law and all that it calls make is longer than what came in: it says more and counts as full. Else prove '..UptoSaid'. A law counts once. -/
mutual
def uptoBulk {H : Type} : DataW H → Nat
  | .lit (.string bytes) => bytes.length + 1
  | .lit _ => 1
  | .nil => 1
  | .ptr d => uptoBulk d + 1
  | .slice elems spare => uptoBulkAll elems + uptoBulkAll spare + 1
  | .agg parts => uptoBulkAll parts + 1
  | .iface _ d => uptoBulk d + 1
  | .map entries => uptoBulkEntries entries + 1
  | .held _ => 1
def uptoBulkAll {H : Type} : List (DataW H) → Nat
  | [] => 0
  | d :: r => uptoBulk d + uptoBulkAll r
def uptoBulkEntries {H : Type} : List (Lit × DataW H) → Nat
  | [] => 0
  | x :: r => uptoBulkEntry x + uptoBulkEntries r
def uptoBulkEntry {H : Type} : Lit × DataW H → Nat
  | (.string bytes, d) => bytes.length + uptoBulk d + 1
  | (_, d) => uptoBulk d + 1
 end
def uptoSmall : (H : Type) → List (DataW H) → Bool := fun _ ds => decide (uptoBulkAll ds ≤ 1048576)
def OpenSpec.upto (s : _root_.Go.ChangeSpec) : _root_.Go.OpenSpec := { _root_.Go.OpenSpec.ofChange s with cond := some uptoSmall }

/-- 'archivoltlaw36.MoveSteps', WHERE WHAT IT READS IS OF BULK AT MOST 1048576: true; the input reads as it did. -/
def moveStepsUptoRow : OpenClaim := { program := "yteipclnlfanfeaa", sum := "e2e83cd019d87bf145a72aafaa36785e7c36d8c30f436c76972177392f2f1ddc", func := "archivolt/archivoltlaw36.MoveSteps", spec := "moveSteps", unfollowed := true, recurses := true, apart := false, narrowed := true }
def MoveStepsUptoSaid : Prop := moveStepsUptoRow.holds Try.pinned (OpenSpec.upto moveStepsSpec)

/-- 'archivoltlaw36.MovePlans', WHERE WHAT IT READS IS OF BULK AT MOST 1048576: true; the input reads as it did. -/
def movePlansUptoRow : OpenClaim := { program := "yteipclnlfanfeaa", sum := "e2e83cd019d87bf145a72aafaa36785e7c36d8c30f436c76972177392f2f1ddc", func := "archivolt/archivoltlaw36.MovePlans", spec := "movePlans", unfollowed := true, recurses := true, apart := false, narrowed := true }
def MovePlansUptoSaid : Prop := movePlansUptoRow.holds Try.pinned (OpenSpec.upto movePlansSpec)

/-- 'archivoltlaw36.MoveReaches', WHERE WHAT IT READS IS OF BULK AT MOST 1048576: true; the input reads as it did. -/
def moveReachesUptoRow : OpenClaim := { program := "yteipclnlfanfeaa", sum := "e2e83cd019d87bf145a72aafaa36785e7c36d8c30f436c76972177392f2f1ddc", func := "archivolt/archivoltlaw36.MoveReaches", spec := "moveReaches", unfollowed := true, recurses := true, apart := false, narrowed := true }
def MoveReachesUptoSaid : Prop := moveReachesUptoRow.holds Try.pinned (OpenSpec.upto moveReachesSpec)

/-- 'archivoltlaw36.MoveUndone', WHERE WHAT IT READS IS OF BULK AT MOST 1048576: true; the input reads as it did. -/
def moveUndoneUptoRow : OpenClaim := { program := "yteipclnlfanfeaa", sum := "e2e83cd019d87bf145a72aafaa36785e7c36d8c30f436c76972177392f2f1ddc", func := "archivolt/archivoltlaw36.MoveUndone", spec := "moveUndone", unfollowed := true, recurses := true, apart := false, narrowed := true }
def MoveUndoneUptoSaid : Prop := moveUndoneUptoRow.holds Try.pinned (OpenSpec.upto moveUndoneSpec)

/-- 'archivoltlaw36.MoveTells', WHERE WHAT IT READS IS OF BULK AT MOST 1048576: true; the input reads as it did. -/
def moveTellsUptoRow : OpenClaim := { program := "yteipclnlfanfeaa", sum := "e2e83cd019d87bf145a72aafaa36785e7c36d8c30f436c76972177392f2f1ddc", func := "archivolt/archivoltlaw36.MoveTells", spec := "moveTells", unfollowed := true, recurses := true, apart := false, narrowed := true }
def MoveTellsUptoSaid : Prop := moveTellsUptoRow.holds Try.pinned (OpenSpec.upto moveTellsSpec)

end Rows
end Go.Proofs.Yteipclnlfanfeaa
