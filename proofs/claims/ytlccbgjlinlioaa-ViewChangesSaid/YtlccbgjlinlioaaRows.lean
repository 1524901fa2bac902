/-
  No cell of these rows narrows 'for every input' (looked for: loops, veiled, ifaces, maps, wideKeys, modest, calm, conditions, laid).
  DERIVED. THE GIVEN ROWS OF THIS SEAT. 7 by the template 'for every input the law returns true; each argument reads behind the call as it read before'; 0 by the template 'total and deterministic' (their statements: YtlccbgjlinlioaaTotals.lean).
  GIVEN WITH THE SEED: the statements are not yours to turn. If you find one false, say at which input.
  Laid BY PROGRAM, IN A SANDBOX (cutbox-rows.mjs): the forced cells as the released guide's own fill.sh prints them over the translation a3aafe5d431553fb… (all of the seat's roots in one cut). By AI agents, Wed Nov 11 2026. No macro, syntax, notation, axiom, sorry.
-/
import Derived.Test.YtlccbgjlinlioaaChecked
import GoSem.Claim
import GoSem.ClaimJoined
import GoSem.ClaimMapViews
import Derived.JoinedTies
import Derived.KernelRfl
namespace Go.Proofs.Ytlccbgjlinlioaa
/- THE CELL 'sum', in the pinned program and in every row, IS THE sha256 OF THE DUMP (.gsa) THAT YtlccbgjlinlioaaProg.lean LOADS. Nothing in Lean hashes anything: it is a label: what it is worth is what the hold of that sum in a sandbox is worth. -/
noncomputable def Try.pinned : Pinned := { name := "ytlccbgjlinlioaa", sum := "a3aafe5d431553fbfc7c7fa8ac595ddbf90417999dc785ccd0ff04fa178eed9a", checked := Try.checked }
namespace Rows
def none {H : Type} : Left H := { results := [], args := [] }

/-- 'marshalyardlaw15.ViewTwice': WHATEVER THE INPUT: true; the input reads as it did. -/
def viewTwiceSpec : ChangeSpec := { name := "viewTwice", fn := fun _ => fun
  | [d1, d2, d3] => { results := [.lit (.bool true)], args := [d1, d2, d3] }
  | _ => none }
def viewTwiceRow : OpenClaim := { program := "ytlccbgjlinlioaa", sum := "a3aafe5d431553fbfc7c7fa8ac595ddbf90417999dc785ccd0ff04fa178eed9a", func := "marshalyard/marshalyardlaw15.ViewTwice", spec := "viewTwice", unfollowed := true, recurses := true, apart := false }
def ViewTwiceSaid : Prop := viewTwiceRow.holds Try.pinned (OpenSpec.ofChange viewTwiceSpec)

/-- ITS FALSE NEIGHBOUR: 'it returns false'. Refute it at one input. -/
def viewTwiceWrong : ChangeSpec := { name := "viewTwice", fn := fun _ => fun
  | [d1, d2, d3] => { results := [.lit (.bool false)], args := [d1, d2, d3] }
  | _ => none }
def ViewTwiceWrongFalsely : Prop := viewTwiceRow.holds Try.pinned (OpenSpec.ofChange viewTwiceWrong)

/-- 'marshalyardlaw15.ViewApart': WHATEVER THE INPUT: true; the input reads as it did. -/
def viewApartSpec : ChangeSpec := { name := "viewApart", fn := fun _ => fun
  | [d1, d2, d3] => { results := [.lit (.bool true)], args := [d1, d2, d3] }
  | _ => none }
def viewApartRow : OpenClaim := { program := "ytlccbgjlinlioaa", sum := "a3aafe5d431553fbfc7c7fa8ac595ddbf90417999dc785ccd0ff04fa178eed9a", func := "marshalyard/marshalyardlaw15.ViewApart", spec := "viewApart", unfollowed := true, recurses := true, apart := false }
def ViewApartSaid : Prop := viewApartRow.holds Try.pinned (OpenSpec.ofChange viewApartSpec)

/-- ITS FALSE NEIGHBOUR: 'it returns false'. Refute it at one input. -/
def viewApartWrong : ChangeSpec := { name := "viewApart", fn := fun _ => fun
  | [d1, d2, d3] => { results := [.lit (.bool false)], args := [d1, d2, d3] }
  | _ => none }
def ViewApartWrongFalsely : Prop := viewApartRow.holds Try.pinned (OpenSpec.ofChange viewApartWrong)

/-- 'marshalyardlaw15.ViewOwners': WHATEVER THE INPUT: true; the input reads as it did. -/
def viewOwnersSpec : ChangeSpec := { name := "viewOwners", fn := fun _ => fun
  | [d1, d2, d3] => { results := [.lit (.bool true)], args := [d1, d2, d3] }
  | _ => none }
def viewOwnersRow : OpenClaim := { program := "ytlccbgjlinlioaa", sum := "a3aafe5d431553fbfc7c7fa8ac595ddbf90417999dc785ccd0ff04fa178eed9a", func := "marshalyard/marshalyardlaw15.ViewOwners", spec := "viewOwners", unfollowed := true, recurses := true, apart := false }
def ViewOwnersSaid : Prop := viewOwnersRow.holds Try.pinned (OpenSpec.ofChange viewOwnersSpec)

/-- ITS FALSE NEIGHBOUR: 'it returns false'. Refute it at one input. -/
def viewOwnersWrong : ChangeSpec := { name := "viewOwners", fn := fun _ => fun
  | [d1, d2, d3] => { results := [.lit (.bool false)], args := [d1, d2, d3] }
  | _ => none }
def ViewOwnersWrongFalsely : Prop := viewOwnersRow.holds Try.pinned (OpenSpec.ofChange viewOwnersWrong)

/-- 'marshalyardlaw15.ViewChanges': WHATEVER THE INPUT: true; the input reads as it did. -/
def viewChangesSpec : ChangeSpec := { name := "viewChanges", fn := fun _ => fun
  | [d1, d2, d3] => { results := [.lit (.bool true)], args := [d1, d2, d3] }
  | _ => none }
def viewChangesRow : OpenClaim := { program := "ytlccbgjlinlioaa", sum := "a3aafe5d431553fbfc7c7fa8ac595ddbf90417999dc785ccd0ff04fa178eed9a", func := "marshalyard/marshalyardlaw15.ViewChanges", spec := "viewChanges", unfollowed := true, recurses := true, apart := false }
def ViewChangesSaid : Prop := viewChangesRow.holds Try.pinned (OpenSpec.ofChange viewChangesSpec)

/-- ITS FALSE NEIGHBOUR: 'it returns false'. Refute it at one input. -/
def viewChangesWrong : ChangeSpec := { name := "viewChanges", fn := fun _ => fun
  | [d1, d2, d3] => { results := [.lit (.bool false)], args := [d1, d2, d3] }
  | _ => none }
def ViewChangesWrongFalsely : Prop := viewChangesRow.holds Try.pinned (OpenSpec.ofChange viewChangesWrong)

/-- 'marshalyardlaw15.ViewAll': WHATEVER THE INPUT: true; the input reads as it did. -/
def viewAllSpec : ChangeSpec := { name := "viewAll", fn := fun _ => fun
  | [d1, d2] => { results := [.lit (.bool true)], args := [d1, d2] }
  | _ => none }
def viewAllRow : OpenClaim := { program := "ytlccbgjlinlioaa", sum := "a3aafe5d431553fbfc7c7fa8ac595ddbf90417999dc785ccd0ff04fa178eed9a", func := "marshalyard/marshalyardlaw15.ViewAll", spec := "viewAll", unfollowed := true, recurses := true, apart := false }
def ViewAllSaid : Prop := viewAllRow.holds Try.pinned (OpenSpec.ofChange viewAllSpec)

/-- ITS FALSE NEIGHBOUR: 'it returns false'. Refute it at one input. -/
def viewAllWrong : ChangeSpec := { name := "viewAll", fn := fun _ => fun
  | [d1, d2] => { results := [.lit (.bool false)], args := [d1, d2] }
  | _ => none }
def ViewAllWrongFalsely : Prop := viewAllRow.holds Try.pinned (OpenSpec.ofChange viewAllWrong)

/-- 'marshalyardlaw15.ViewWins': WHATEVER THE INPUT: true; the input reads as it did. -/
def viewWinsSpec : ChangeSpec := { name := "viewWins", fn := fun _ => fun
  | [d1, d2, d3] => { results := [.lit (.bool true)], args := [d1, d2, d3] }
  | _ => none }
def viewWinsRow : OpenClaim := { program := "ytlccbgjlinlioaa", sum := "a3aafe5d431553fbfc7c7fa8ac595ddbf90417999dc785ccd0ff04fa178eed9a", func := "marshalyard/marshalyardlaw15.ViewWins", spec := "viewWins", unfollowed := true, recurses := true, apart := false }
def ViewWinsSaid : Prop := viewWinsRow.holds Try.pinned (OpenSpec.ofChange viewWinsSpec)

/-- ITS FALSE NEIGHBOUR: 'it returns false'. Refute it at one input. -/
def viewWinsWrong : ChangeSpec := { name := "viewWins", fn := fun _ => fun
  | [d1, d2, d3] => { results := [.lit (.bool false)], args := [d1, d2, d3] }
  | _ => none }
def ViewWinsWrongFalsely : Prop := viewWinsRow.holds Try.pinned (OpenSpec.ofChange viewWinsWrong)

/-- 'marshalyardlaw15.ViewRises': WHATEVER THE INPUT: true; the input reads as it did. -/
def viewRisesSpec : ChangeSpec := { name := "viewRises", fn := fun _ => fun
  | [d1, d2] => { results := [.lit (.bool true)], args := [d1, d2] }
  | _ => none }
def viewRisesRow : OpenClaim := { program := "ytlccbgjlinlioaa", sum := "a3aafe5d431553fbfc7c7fa8ac595ddbf90417999dc785ccd0ff04fa178eed9a", func := "marshalyard/marshalyardlaw15.ViewRises", spec := "viewRises", unfollowed := true, recurses := true, apart := false }
def ViewRisesSaid : Prop := viewRisesRow.holds Try.pinned (OpenSpec.ofChange viewRisesSpec)

/-- ITS FALSE NEIGHBOUR: 'it returns false'. Refute it at one input. -/
def viewRisesWrong : ChangeSpec := { name := "viewRises", fn := fun _ => fun
  | [d1, d2] => { results := [.lit (.bool false)], args := [d1, d2] }
  | _ => none }
def ViewRisesWrongFalsely : Prop := viewRisesRow.holds Try.pinned (OpenSpec.ofChange viewRisesWrong)

/- THE SECOND FORM. 'bulk': how many values and letters a reading holds, each counted each time it is reached (what is shared counts as often as it is met; a slice's spare places count too). A statement '..UptoSaid' is the law's where the arguments, and the package variables that the reading takes, are together of bulk at most 1048576: NARROWER than '..Said'. Prove '..Said' where nothing that the law and all that it calls make is longer than what came in: it says more and counts as full. Else prove '..UptoSaid'. A law counts once. -/
mutual
def uptoBulk {H : Type} : DataW H → Nat
  | .lit (.string bytes) => bytes.length + 1
  | .lit _ => 1
  | .nil => 1
  | .ptr d => uptoBulk d + 1
  | .slice elems spare => uptoBulkAll elems + uptoBulkAll spare + 1
  | .agg parts => uptoBulkAll parts + 1
  | .iface _ d => uptoBulk d + 1
  | .map entries => uptoBulkEntries entries + 1
  | .held _ => 1
def uptoBulkAll {H : Type} : List (DataW H) → Nat
  | [] => 0
  | d :: r => uptoBulk d + uptoBulkAll r
def uptoBulkEntries {H : Type} : List (Lit × DataW H) → Nat
  | [] => 0
  | x :: r => uptoBulkEntry x + uptoBulkEntries r
def uptoBulkEntry {H : Type} : Lit × DataW H → Nat
  | (.string bytes, d) => bytes.length + uptoBulk d + 1
  | (_, d) => uptoBulk d + 1
 end
def uptoSmall : (H : Type) → List (DataW H) → Bool := fun _ ds => decide (uptoBulkAll ds ≤ 1048576)
def OpenSpec.upto (s : _root_.Go.ChangeSpec) : _root_.Go.OpenSpec := { _root_.Go.OpenSpec.ofChange s with cond := some uptoSmall }

/-- 'marshalyardlaw15.ViewTwice', WHERE WHAT IT READS IS OF BULK AT MOST 1048576: true; the input reads as it did. -/
def viewTwiceUptoRow : OpenClaim := { program := "ytlccbgjlinlioaa", sum := "a3aafe5d431553fbfc7c7fa8ac595ddbf90417999dc785ccd0ff04fa178eed9a", func := "marshalyard/marshalyardlaw15.ViewTwice", spec := "viewTwice", unfollowed := true, recurses := true, apart := false, narrowed := true }
def ViewTwiceUptoSaid : Prop := viewTwiceUptoRow.holds Try.pinned (OpenSpec.upto viewTwiceSpec)

/-- 'marshalyardlaw15.ViewApart', WHERE WHAT IT READS IS OF BULK AT MOST 1048576: true; the input reads as it did. -/
def viewApartUptoRow : OpenClaim := { program := "ytlccbgjlinlioaa", sum := "a3aafe5d431553fbfc7c7fa8ac595ddbf90417999dc785ccd0ff04fa178eed9a", func := "marshalyard/marshalyardlaw15.ViewApart", spec := "viewApart", unfollowed := true, recurses := true, apart := false, narrowed := true }
def ViewApartUptoSaid : Prop := viewApartUptoRow.holds Try.pinned (OpenSpec.upto viewApartSpec)

/-- 'marshalyardlaw15.ViewOwners', WHERE WHAT IT READS IS OF BULK AT MOST 1048576: true; the input reads as it did. -/
def viewOwnersUptoRow : OpenClaim := { program := "ytlccbgjlinlioaa", sum := "a3aafe5d431553fbfc7c7fa8ac595ddbf90417999dc785ccd0ff04fa178eed9a", func := "marshalyard/marshalyardlaw15.ViewOwners", spec := "viewOwners", unfollowed := true, recurses := true, apart := false, narrowed := true }
def ViewOwnersUptoSaid : Prop := viewOwnersUptoRow.holds Try.pinned (OpenSpec.upto viewOwnersSpec)

/-- 'marshalyardlaw15.ViewChanges', WHERE WHAT IT READS IS OF BULK AT MOST 1048576: true; the input reads as it did. -/
def viewChangesUptoRow : OpenClaim := { program := "ytlccbgjlinlioaa", sum := "a3aafe5d431553fbfc7c7fa8ac595ddbf90417999dc785ccd0ff04fa178eed9a", func := "marshalyard/marshalyardlaw15.ViewChanges", spec := "viewChanges", unfollowed := true, recurses := true, apart := false, narrowed := true }
def ViewChangesUptoSaid : Prop := viewChangesUptoRow.holds Try.pinned (OpenSpec.upto viewChangesSpec)

/-- 'marshalyardlaw15.ViewAll', WHERE WHAT IT READS IS OF BULK AT MOST 1048576: true; the input reads as it did. -/
def viewAllUptoRow : OpenClaim := { program := "ytlccbgjlinlioaa", sum := "a3aafe5d431553fbfc7c7fa8ac595ddbf90417999dc785ccd0ff04fa178eed9a", func := "marshalyard/marshalyardlaw15.ViewAll", spec := "viewAll", unfollowed := true, recurses := true, apart := false, narrowed := true }
def ViewAllUptoSaid : Prop := viewAllUptoRow.holds Try.pinned (OpenSpec.upto viewAllSpec)

/-- 'marshalyardlaw15.ViewWins', WHERE WHAT IT READS IS OF BULK AT MOST 1048576: true; the input reads as it did. -/
def viewWinsUptoRow : OpenClaim := { program := "ytlccbgjlinlioaa", sum := "a3aafe5d431553fbfc7c7fa8ac595ddbf90417999dc785ccd0ff04fa178eed9a", func := "marshalyard/marshalyardlaw15.ViewWins", spec := "viewWins", unfollowed := true, recurses := true, apart := false, narrowed := true }
def ViewWinsUptoSaid : Prop := viewWinsUptoRow.holds Try.pinned (OpenSpec.upto viewWinsSpec)

/-- 'marshalyardlaw15.ViewRises', WHERE WHAT IT READS IS OF BULK AT MOST 1048576: true; the input reads as it did. -/
def viewRisesUptoRow : OpenClaim := { program := "ytlccbgjlinlioaa", sum := "a3aafe5d431553fbfc7c7fa8ac595ddbf90417999dc785ccd0ff04fa178eed9a", func := "marshalyard/marshalyardlaw15.ViewRises", spec := "viewRises", unfollowed := true, recurses := true, apart := false, narrowed := true }
def ViewRisesUptoSaid : Prop := viewRisesUptoRow.holds Try.pinned (OpenSpec.upto viewRisesSpec)

end Rows
end Go.Proofs.Ytlccbgjlinlioaa
