/-
  No cell of these rows narrows 'for every input' (looked for: loops, veiled, ifaces, maps, wideKeys, modest, calm, conditions, laid).
  DERIVED. THE GIVEN ROWS OF THIS SEAT. 6 by the template 'for every input the law returns true; each argument reads behind the call as it read before'; 0 by the template 'total and deterministic' (their statements: YtemacgcklgdhpaaTotals.lean).
  GIVEN WITH THE SEED: the statements are not yours to turn. If you find one false, say at which input.
  Laid BY PROGRAM, IN A SANDBOX (cutbox-rows.mjs): the forced cells as the released guide's own fill.sh prints them over the translation cdebd753fbf9ab15… (all of the seat's roots in one cut). By AI agents, Wed Nov 11 2026. No macro, syntax, notation, axiom, sorry.
-/
import Derived.Test.YtemacgcklgdhpaaChecked
import GoSem.Claim
import GoSem.ClaimJoined
import GoSem.ClaimMapViews
import Derived.JoinedTies
import Derived.KernelRfl
namespace Go.Proofs.Ytemacgcklgdhpaa
/- THE CELL 'sum', in the pinned program and in every row, IS THE sha256 OF THE DUMP (.gsa) THAT YtemacgcklgdhpaaProg.lean LOADS. Nothing in Lean hashes anything: it is a label: what it is worth is what the hold of that sum in a sandbox is worth. -/
noncomputable def Try.pinned : Pinned := { name := "ytemacgcklgdhpaa", sum := "cdebd753fbf9ab15d9d8136867d795bdf8c66759035a1afd30b17712167e4344", checked := Try.checked }
namespace Rows
def none {H : Type} : Left H := { results := [], args := [] }

/-- 'marshalyardlaw06.DequeTurned': WHATEVER THE INPUT: true; the input reads as it did. -/
def dequeTurnedSpec : ChangeSpec := { name := "dequeTurned", fn := fun _ => fun
  | [d1, d2, d3] => { results := [.lit (.bool true)], args := [d1, d2, d3] }
  | _ => none }
def dequeTurnedRow : OpenClaim := { program := "ytemacgcklgdhpaa", sum := "cdebd753fbf9ab15d9d8136867d795bdf8c66759035a1afd30b17712167e4344", func := "marshalyard/marshalyardlaw06.DequeTurned", spec := "dequeTurned", apart := false }
def DequeTurnedSaid : Prop := dequeTurnedRow.holds Try.pinned (OpenSpec.ofChange dequeTurnedSpec)

/-- ITS FALSE NEIGHBOUR: 'it returns false'. Refute it at one input. -/
def dequeTurnedWrong : ChangeSpec := { name := "dequeTurned", fn := fun _ => fun
  | [d1, d2, d3] => { results := [.lit (.bool false)], args := [d1, d2, d3] }
  | _ => none }
def DequeTurnedWrongFalsely : Prop := dequeTurnedRow.holds Try.pinned (OpenSpec.ofChange dequeTurnedWrong)

/-- 'marshalyardlaw06.DequeFull': WHATEVER THE INPUT: true; the input reads as it did. -/
def dequeFullSpec : ChangeSpec := { name := "dequeFull", fn := fun _ => fun
  | [d1, d2] => { results := [.lit (.bool true)], args := [d1, d2] }
  | _ => none }
def dequeFullRow : OpenClaim := { program := "ytemacgcklgdhpaa", sum := "cdebd753fbf9ab15d9d8136867d795bdf8c66759035a1afd30b17712167e4344", func := "marshalyard/marshalyardlaw06.DequeFull", spec := "dequeFull", apart := false }
def DequeFullSaid : Prop := dequeFullRow.holds Try.pinned (OpenSpec.ofChange dequeFullSpec)

/-- ITS FALSE NEIGHBOUR: 'it returns false'. Refute it at one input. -/
def dequeFullWrong : ChangeSpec := { name := "dequeFull", fn := fun _ => fun
  | [d1, d2] => { results := [.lit (.bool false)], args := [d1, d2] }
  | _ => none }
def DequeFullWrongFalsely : Prop := dequeFullRow.holds Try.pinned (OpenSpec.ofChange dequeFullWrong)

/-- 'marshalyardlaw06.DequeAll': WHATEVER THE INPUT: true; the input reads as it did. -/
def dequeAllSpec : ChangeSpec := { name := "dequeAll", fn := fun _ => fun
  | [d] => { results := [.lit (.bool true)], args := [d] }
  | _ => none }
def dequeAllRow : OpenClaim := { program := "ytemacgcklgdhpaa", sum := "cdebd753fbf9ab15d9d8136867d795bdf8c66759035a1afd30b17712167e4344", func := "marshalyard/marshalyardlaw06.DequeAll", spec := "dequeAll", apart := false }
def DequeAllSaid : Prop := dequeAllRow.holds Try.pinned (OpenSpec.ofChange dequeAllSpec)

/-- ITS FALSE NEIGHBOUR: 'it returns false'. Refute it at one input. -/
def dequeAllWrong : ChangeSpec := { name := "dequeAll", fn := fun _ => fun
  | [d] => { results := [.lit (.bool false)], args := [d] }
  | _ => none }
def DequeAllWrongFalsely : Prop := dequeAllRow.holds Try.pinned (OpenSpec.ofChange dequeAllWrong)

/-- 'marshalyardlaw06.DequeMirror': WHATEVER THE INPUT: true; the input reads as it did. -/
def dequeMirrorSpec : ChangeSpec := { name := "dequeMirror", fn := fun _ => fun
  | [d] => { results := [.lit (.bool true)], args := [d] }
  | _ => none }
def dequeMirrorRow : OpenClaim := { program := "ytemacgcklgdhpaa", sum := "cdebd753fbf9ab15d9d8136867d795bdf8c66759035a1afd30b17712167e4344", func := "marshalyard/marshalyardlaw06.DequeMirror", spec := "dequeMirror", apart := false }
def DequeMirrorSaid : Prop := dequeMirrorRow.holds Try.pinned (OpenSpec.ofChange dequeMirrorSpec)

/-- ITS FALSE NEIGHBOUR: 'it returns false'. Refute it at one input. -/
def dequeMirrorWrong : ChangeSpec := { name := "dequeMirror", fn := fun _ => fun
  | [d] => { results := [.lit (.bool false)], args := [d] }
  | _ => none }
def DequeMirrorWrongFalsely : Prop := dequeMirrorRow.holds Try.pinned (OpenSpec.ofChange dequeMirrorWrong)

/-- 'marshalyardlaw06.DequeTrims': WHATEVER THE INPUT: true; the input reads as it did. -/
def dequeTrimsSpec : ChangeSpec := { name := "dequeTrims", fn := fun _ => fun
  | [d1, d2, d3] => { results := [.lit (.bool true)], args := [d1, d2, d3] }
  | _ => none }
def dequeTrimsRow : OpenClaim := { program := "ytemacgcklgdhpaa", sum := "cdebd753fbf9ab15d9d8136867d795bdf8c66759035a1afd30b17712167e4344", func := "marshalyard/marshalyardlaw06.DequeTrims", spec := "dequeTrims", apart := false }
def DequeTrimsSaid : Prop := dequeTrimsRow.holds Try.pinned (OpenSpec.ofChange dequeTrimsSpec)

/-- ITS FALSE NEIGHBOUR: 'it returns false'. Refute it at one input. -/
def dequeTrimsWrong : ChangeSpec := { name := "dequeTrims", fn := fun _ => fun
  | [d1, d2, d3] => { results := [.lit (.bool false)], args := [d1, d2, d3] }
  | _ => none }
def DequeTrimsWrongFalsely : Prop := dequeTrimsRow.holds Try.pinned (OpenSpec.ofChange dequeTrimsWrong)

/-- 'marshalyardlaw06.DequeApart': WHATEVER THE INPUT: true; the input reads as it did. -/
def dequeApartSpec : ChangeSpec := { name := "dequeApart", fn := fun _ => fun
  | [d1, d2] => { results := [.lit (.bool true)], args := [d1, d2] }
  | _ => none }
def dequeApartRow : OpenClaim := { program := "ytemacgcklgdhpaa", sum := "cdebd753fbf9ab15d9d8136867d795bdf8c66759035a1afd30b17712167e4344", func := "marshalyard/marshalyardlaw06.DequeApart", spec := "dequeApart", apart := false }
def DequeApartSaid : Prop := dequeApartRow.holds Try.pinned (OpenSpec.ofChange dequeApartSpec)

/-- ITS FALSE NEIGHBOUR: 'it returns false'. Refute it at one input. -/
def dequeApartWrong : ChangeSpec := { name := "dequeApart", fn := fun _ => fun
  | [d1, d2] => { results := [.lit (.bool false)], args := [d1, d2] }
  | _ => none }
def DequeApartWrongFalsely : Prop := dequeApartRow.holds Try.pinned (OpenSpec.ofChange dequeApartWrong)

/- THE SECOND FORM. 'bulk': how many values and letters a reading holds, each counted each time it is reached (what is shared counts as often as it is met; a slice's spare places count too). A statement '..UptoSaid' is the law's where the arguments, and the package variables that the reading takes, are together of bulk at most 1048576: NARROWER than '..Said'. Prove '..Said' where nothing that the law and all that it calls make is longer than what came in: it says more and counts as full. Else prove '..UptoSaid'. A law counts once. -/
mutual
def uptoBulk {H : Type} : DataW H → Nat
  | .lit (.string bytes) => bytes.length + 1
  | .lit _ => 1
  | .nil => 1
  | .ptr d => uptoBulk d + 1
  | .slice elems spare => uptoBulkAll elems + uptoBulkAll spare + 1
  | .agg parts => uptoBulkAll parts + 1
  | .iface _ d => uptoBulk d + 1
  | .map entries => uptoBulkEntries entries + 1
  | .held _ => 1
def uptoBulkAll {H : Type} : List (DataW H) → Nat
  | [] => 0
  | d :: r => uptoBulk d + uptoBulkAll r
def uptoBulkEntries {H : Type} : List (Lit × DataW H) → Nat
  | [] => 0
  | x :: r => uptoBulkEntry x + uptoBulkEntries r
def uptoBulkEntry {H : Type} : Lit × DataW H → Nat
  | (.string bytes, d) => bytes.length + uptoBulk d + 1
  | (_, d) => uptoBulk d + 1
 end
def uptoSmall : (H : Type) → List (DataW H) → Bool := fun _ ds => decide (uptoBulkAll ds ≤ 1048576)
def OpenSpec.upto (s : _root_.Go.ChangeSpec) : _root_.Go.OpenSpec := { _root_.Go.OpenSpec.ofChange s with cond := some uptoSmall }

/-- 'marshalyardlaw06.DequeTurned', WHERE WHAT IT READS IS OF BULK AT MOST 1048576: true; the input reads as it did. -/
def dequeTurnedUptoRow : OpenClaim := { program := "ytemacgcklgdhpaa", sum := "cdebd753fbf9ab15d9d8136867d795bdf8c66759035a1afd30b17712167e4344", func := "marshalyard/marshalyardlaw06.DequeTurned", spec := "dequeTurned", apart := false, narrowed := true }
def DequeTurnedUptoSaid : Prop := dequeTurnedUptoRow.holds Try.pinned (OpenSpec.upto dequeTurnedSpec)

/-- 'marshalyardlaw06.DequeFull', WHERE WHAT IT READS IS OF BULK AT MOST 1048576: true; the input reads as it did. -/
def dequeFullUptoRow : OpenClaim := { program := "ytemacgcklgdhpaa", sum := "cdebd753fbf9ab15d9d8136867d795bdf8c66759035a1afd30b17712167e4344", func := "marshalyard/marshalyardlaw06.DequeFull", spec := "dequeFull", apart := false, narrowed := true }
def DequeFullUptoSaid : Prop := dequeFullUptoRow.holds Try.pinned (OpenSpec.upto dequeFullSpec)

/-- 'marshalyardlaw06.DequeAll', WHERE WHAT IT READS IS OF BULK AT MOST 1048576: true; the input reads as it did. -/
def dequeAllUptoRow : OpenClaim := { program := "ytemacgcklgdhpaa", sum := "cdebd753fbf9ab15d9d8136867d795bdf8c66759035a1afd30b17712167e4344", func := "marshalyard/marshalyardlaw06.DequeAll", spec := "dequeAll", apart := false, narrowed := true }
def DequeAllUptoSaid : Prop := dequeAllUptoRow.holds Try.pinned (OpenSpec.upto dequeAllSpec)

/-- 'marshalyardlaw06.DequeMirror', WHERE WHAT IT READS IS OF BULK AT MOST 1048576: true; the input reads as it did. -/
def dequeMirrorUptoRow : OpenClaim := { program := "ytemacgcklgdhpaa", sum := "cdebd753fbf9ab15d9d8136867d795bdf8c66759035a1afd30b17712167e4344", func := "marshalyard/marshalyardlaw06.DequeMirror", spec := "dequeMirror", apart := false, narrowed := true }
def DequeMirrorUptoSaid : Prop := dequeMirrorUptoRow.holds Try.pinned (OpenSpec.upto dequeMirrorSpec)

/-- 'marshalyardlaw06.DequeTrims', WHERE WHAT IT READS IS OF BULK AT MOST 1048576: true; the input reads as it did. -/
def dequeTrimsUptoRow : OpenClaim := { program := "ytemacgcklgdhpaa", sum := "cdebd753fbf9ab15d9d8136867d795bdf8c66759035a1afd30b17712167e4344", func := "marshalyard/marshalyardlaw06.DequeTrims", spec := "dequeTrims", apart := false, narrowed := true }
def DequeTrimsUptoSaid : Prop := dequeTrimsUptoRow.holds Try.pinned (OpenSpec.upto dequeTrimsSpec)

/-- 'marshalyardlaw06.DequeApart', WHERE WHAT IT READS IS OF BULK AT MOST 1048576: true; the input reads as it did. -/
def dequeApartUptoRow : OpenClaim := { program := "ytemacgcklgdhpaa", sum := "cdebd753fbf9ab15d9d8136867d795bdf8c66759035a1afd30b17712167e4344", func := "marshalyard/marshalyardlaw06.DequeApart", spec := "dequeApart", apart := false, narrowed := true }
def DequeApartUptoSaid : Prop := dequeApartUptoRow.holds Try.pinned (OpenSpec.upto dequeApartSpec)

end Rows
end Go.Proofs.Ytemacgcklgdhpaa
