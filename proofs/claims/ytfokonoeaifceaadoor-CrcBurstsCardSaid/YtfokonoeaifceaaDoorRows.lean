/-
  NARROWER THAN 'FOR EVERY INPUT', by the rows' own cells (each row's printed sentence says how): CrcSums: laid · CrcMores: laid · CrcJoins: laid · CrcZeros: laid · CrcXors: laid · CrcEnds: laid · CrcBursts: laid · CrcPairs: laid.
  DERIVED. THE GIVEN ROWS OF THIS SEAT. 8 by the template 'for every input the law returns true; each argument reads behind the call as it read before'; 0 by the template 'total and deterministic' (their statements: YtfokonoeaifceaaDoorTotals.lean).
  GIVEN WITH THE SEED: the statements are not yours to turn. If you find one false, say at which input.
  Laid BY PROGRAM, IN A SANDBOX (cutbox-rows.mjs): the forced cells as the released guide's own fill.sh prints them over the translation 1c662f8f4a57da8f… (all of the seat's roots in one cut). By AI agents, Wed Nov 11 2026. No macro, syntax, notation, axiom, sorry.
-/
import Derived.Test.YtfokonoeaifceaaDoorChecked
import GoSem.Claim
import GoSem.ClaimJoined
import GoSem.ClaimMapViews
import Derived.JoinedTies
import Derived.KernelRfl
namespace Go.Proofs.YtfokonoeaifceaaDoor
/- THE CELL 'sum', in the pinned program and in every row, IS THE sha256 OF THE DUMP (.gsa) THAT YtfokonoeaifceaaDoorProg.lean LOADS. Nothing in Lean hashes anything: it is a label: what it is worth is what the hold of that sum in a sandbox is worth. -/
noncomputable def Tryd.pinned : Pinned := { name := "ytfokonoeaifceaadoor", sum := "1c662f8f4a57da8f8d15a9193746c1ee3127b45a4876b9bcc602c69feab65756", checked := Tryd.checked }
namespace Rows
def none {H : Type} : Left H := { results := [], args := [] }

/- WHAT THE LISTED PACKAGE-LEVEL VARIABLES READ AS WHEN THE CALL BEGINS. Each datum BY PROGRAM (the guide's laid-datum.mjs) off the statement by which the dump's own 'gosem.cut.vars' lays the variable. In a bare row this is a premise. The card (YtfokonoeaifceaaDoorCards.lean) ties it to the program's text. -/
def laid_marshalyard_crc_halves {H : Type} : DataW H := .agg [.lit (.int .u16 0), .lit (.int .u16 4129), .lit (.int .u16 8258), .lit (.int .u16 12387), .lit (.int .u16 16516), .lit (.int .u16 20645), .lit (.int .u16 24774), .lit (.int .u16 28903), .lit (.int .u16 33032), .lit (.int .u16 37161), .lit (.int .u16 41290), .lit (.int .u16 45419), .lit (.int .u16 49548), .lit (.int .u16 53677), .lit (.int .u16 57806), .lit (.int .u16 61935)]

/-- 'marshalyardlaw01.CrcSums': WHATEVER THE INPUT: true; the input reads as it did. -/
def crcSumsSpec : ChangeSpec := { name := "crcSums", fn := fun _ => fun
  | [d] => { results := [.lit (.bool true)], args := [d] }
  | _ => none }
def crcSumsRow : OpenClaim := { program := "ytfokonoeaifceaadoor", sum := "1c662f8f4a57da8f8d15a9193746c1ee3127b45a4876b9bcc602c69feab65756", func := "marshalyard/marshalyardlaw01.CrcSums", spec := "crcSums", named := ["marshalyard/crc.halves"], apart := false, laid := [("marshalyard/crc.halves", laid_marshalyard_crc_halves)] }
def CrcSumsSaid : Prop := crcSumsRow.holds Tryd.pinned (OpenSpec.ofChange crcSumsSpec)

/-- ITS FALSE NEIGHBOUR: 'it returns false'. Refute it at one input. -/
def crcSumsWrong : ChangeSpec := { name := "crcSums", fn := fun _ => fun
  | [d] => { results := [.lit (.bool false)], args := [d] }
  | _ => none }
def CrcSumsWrongFalsely : Prop := crcSumsRow.holds Tryd.pinned (OpenSpec.ofChange crcSumsWrong)

/-- 'marshalyardlaw01.CrcMores': WHATEVER THE INPUT: true; the input reads as it did. -/
def crcMoresSpec : ChangeSpec := { name := "crcMores", fn := fun _ => fun
  | [d1, d2] => { results := [.lit (.bool true)], args := [d1, d2] }
  | _ => none }
def crcMoresRow : OpenClaim := { program := "ytfokonoeaifceaadoor", sum := "1c662f8f4a57da8f8d15a9193746c1ee3127b45a4876b9bcc602c69feab65756", func := "marshalyard/marshalyardlaw01.CrcMores", spec := "crcMores", named := ["marshalyard/crc.halves"], apart := false, laid := [("marshalyard/crc.halves", laid_marshalyard_crc_halves)] }
def CrcMoresSaid : Prop := crcMoresRow.holds Tryd.pinned (OpenSpec.ofChange crcMoresSpec)

/-- ITS FALSE NEIGHBOUR: 'it returns false'. Refute it at one input. -/
def crcMoresWrong : ChangeSpec := { name := "crcMores", fn := fun _ => fun
  | [d1, d2] => { results := [.lit (.bool false)], args := [d1, d2] }
  | _ => none }
def CrcMoresWrongFalsely : Prop := crcMoresRow.holds Tryd.pinned (OpenSpec.ofChange crcMoresWrong)

/-- 'marshalyardlaw01.CrcJoins': WHATEVER THE INPUT: true; the input reads as it did. -/
def crcJoinsSpec : ChangeSpec := { name := "crcJoins", fn := fun _ => fun
  | [d1, d2] => { results := [.lit (.bool true)], args := [d1, d2] }
  | _ => none }
def crcJoinsRow : OpenClaim := { program := "ytfokonoeaifceaadoor", sum := "1c662f8f4a57da8f8d15a9193746c1ee3127b45a4876b9bcc602c69feab65756", func := "marshalyard/marshalyardlaw01.CrcJoins", spec := "crcJoins", named := ["marshalyard/crc.halves"], apart := false, laid := [("marshalyard/crc.halves", laid_marshalyard_crc_halves)] }
def CrcJoinsSaid : Prop := crcJoinsRow.holds Tryd.pinned (OpenSpec.ofChange crcJoinsSpec)

/-- ITS FALSE NEIGHBOUR: 'it returns false'. Refute it at one input. -/
def crcJoinsWrong : ChangeSpec := { name := "crcJoins", fn := fun _ => fun
  | [d1, d2] => { results := [.lit (.bool false)], args := [d1, d2] }
  | _ => none }
def CrcJoinsWrongFalsely : Prop := crcJoinsRow.holds Tryd.pinned (OpenSpec.ofChange crcJoinsWrong)

/-- 'marshalyardlaw01.CrcZeros': WHATEVER THE INPUT: true; the input reads as it did. -/
def crcZerosSpec : ChangeSpec := { name := "crcZeros", fn := fun _ => fun
  | [d1, d2] => { results := [.lit (.bool true)], args := [d1, d2] }
  | _ => none }
def crcZerosRow : OpenClaim := { program := "ytfokonoeaifceaadoor", sum := "1c662f8f4a57da8f8d15a9193746c1ee3127b45a4876b9bcc602c69feab65756", func := "marshalyard/marshalyardlaw01.CrcZeros", spec := "crcZeros", named := ["marshalyard/crc.halves"], apart := false, laid := [("marshalyard/crc.halves", laid_marshalyard_crc_halves)] }
def CrcZerosSaid : Prop := crcZerosRow.holds Tryd.pinned (OpenSpec.ofChange crcZerosSpec)

/-- ITS FALSE NEIGHBOUR: 'it returns false'. Refute it at one input. -/
def crcZerosWrong : ChangeSpec := { name := "crcZeros", fn := fun _ => fun
  | [d1, d2] => { results := [.lit (.bool false)], args := [d1, d2] }
  | _ => none }
def CrcZerosWrongFalsely : Prop := crcZerosRow.holds Tryd.pinned (OpenSpec.ofChange crcZerosWrong)

/-- 'marshalyardlaw01.CrcXors': WHATEVER THE INPUT: true; the input reads as it did. -/
def crcXorsSpec : ChangeSpec := { name := "crcXors", fn := fun _ => fun
  | [d1, d2] => { results := [.lit (.bool true)], args := [d1, d2] }
  | _ => none }
def crcXorsRow : OpenClaim := { program := "ytfokonoeaifceaadoor", sum := "1c662f8f4a57da8f8d15a9193746c1ee3127b45a4876b9bcc602c69feab65756", func := "marshalyard/marshalyardlaw01.CrcXors", spec := "crcXors", named := ["marshalyard/crc.halves"], apart := false, laid := [("marshalyard/crc.halves", laid_marshalyard_crc_halves)] }
def CrcXorsSaid : Prop := crcXorsRow.holds Tryd.pinned (OpenSpec.ofChange crcXorsSpec)

/-- ITS FALSE NEIGHBOUR: 'it returns false'. Refute it at one input. -/
def crcXorsWrong : ChangeSpec := { name := "crcXors", fn := fun _ => fun
  | [d1, d2] => { results := [.lit (.bool false)], args := [d1, d2] }
  | _ => none }
def CrcXorsWrongFalsely : Prop := crcXorsRow.holds Tryd.pinned (OpenSpec.ofChange crcXorsWrong)

/-- 'marshalyardlaw01.CrcEnds': WHATEVER THE INPUT: true; the input reads as it did. -/
def crcEndsSpec : ChangeSpec := { name := "crcEnds", fn := fun _ => fun
  | [d] => { results := [.lit (.bool true)], args := [d] }
  | _ => none }
def crcEndsRow : OpenClaim := { program := "ytfokonoeaifceaadoor", sum := "1c662f8f4a57da8f8d15a9193746c1ee3127b45a4876b9bcc602c69feab65756", func := "marshalyard/marshalyardlaw01.CrcEnds", spec := "crcEnds", named := ["marshalyard/crc.halves"], apart := false, laid := [("marshalyard/crc.halves", laid_marshalyard_crc_halves)] }
def CrcEndsSaid : Prop := crcEndsRow.holds Tryd.pinned (OpenSpec.ofChange crcEndsSpec)

/-- ITS FALSE NEIGHBOUR: 'it returns false'. Refute it at one input. -/
def crcEndsWrong : ChangeSpec := { name := "crcEnds", fn := fun _ => fun
  | [d] => { results := [.lit (.bool false)], args := [d] }
  | _ => none }
def CrcEndsWrongFalsely : Prop := crcEndsRow.holds Tryd.pinned (OpenSpec.ofChange crcEndsWrong)

/-- 'marshalyardlaw01.CrcBursts': WHATEVER THE INPUT: true; the input reads as it did. -/
def crcBurstsSpec : ChangeSpec := { name := "crcBursts", fn := fun _ => fun
  | [d1, d2, d3] => { results := [.lit (.bool true)], args := [d1, d2, d3] }
  | _ => none }
def crcBurstsRow : OpenClaim := { program := "ytfokonoeaifceaadoor", sum := "1c662f8f4a57da8f8d15a9193746c1ee3127b45a4876b9bcc602c69feab65756", func := "marshalyard/marshalyardlaw01.CrcBursts", spec := "crcBursts", named := ["marshalyard/crc.halves"], apart := false, laid := [("marshalyard/crc.halves", laid_marshalyard_crc_halves)] }
def CrcBurstsSaid : Prop := crcBurstsRow.holds Tryd.pinned (OpenSpec.ofChange crcBurstsSpec)

/-- ITS FALSE NEIGHBOUR: 'it returns false'. Refute it at one input. -/
def crcBurstsWrong : ChangeSpec := { name := "crcBursts", fn := fun _ => fun
  | [d1, d2, d3] => { results := [.lit (.bool false)], args := [d1, d2, d3] }
  | _ => none }
def CrcBurstsWrongFalsely : Prop := crcBurstsRow.holds Tryd.pinned (OpenSpec.ofChange crcBurstsWrong)

/-- 'marshalyardlaw01.CrcPairs': WHATEVER THE INPUT: true; the input reads as it did. -/
def crcPairsSpec : ChangeSpec := { name := "crcPairs", fn := fun _ => fun
  | [d1, d2] => { results := [.lit (.bool true)], args := [d1, d2] }
  | _ => none }
def crcPairsRow : OpenClaim := { program := "ytfokonoeaifceaadoor", sum := "1c662f8f4a57da8f8d15a9193746c1ee3127b45a4876b9bcc602c69feab65756", func := "marshalyard/marshalyardlaw01.CrcPairs", spec := "crcPairs", named := ["marshalyard/crc.halves"], apart := false, laid := [("marshalyard/crc.halves", laid_marshalyard_crc_halves)] }
def CrcPairsSaid : Prop := crcPairsRow.holds Tryd.pinned (OpenSpec.ofChange crcPairsSpec)

/-- ITS FALSE NEIGHBOUR: 'it returns false'. Refute it at one input. -/
def crcPairsWrong : ChangeSpec := { name := "crcPairs", fn := fun _ => fun
  | [d1, d2] => { results := [.lit (.bool false)], args := [d1, d2] }
  | _ => none }
def CrcPairsWrongFalsely : Prop := crcPairsRow.holds Tryd.pinned (OpenSpec.ofChange crcPairsWrong)

/- THE SECOND FORM. 'bulk': how many values and letters a reading holds, each counted each time it is reached (what is shared counts as often as it is met; a slice's spare places count too). A statement '..UptoSaid' is the law's where the arguments, and the package variables that the reading takes, are together of bulk at most 1048576: NARROWER than '..Said'. Prove '..Said' where nothing that the law and all that it calls make is longer than what came in: it says more and counts as full. Else prove '..UptoSaid'. A law counts once. -/
mutual
def uptoBulk {H : Type} : DataW H → Nat
  | .lit (.string bytes) => bytes.length + 1
  | .lit _ => 1
  | .nil => 1
  | .ptr d => uptoBulk d + 1
  | .slice elems spare => uptoBulkAll elems + uptoBulkAll spare + 1
  | .agg parts => uptoBulkAll parts + 1
  | .iface _ d => uptoBulk d + 1
  | .map entries => uptoBulkEntries entries + 1
  | .held _ => 1
def uptoBulkAll {H : Type} : List (DataW H) → Nat
  | [] => 0
  | d :: r => uptoBulk d + uptoBulkAll r
def uptoBulkEntries {H : Type} : List (Lit × DataW H) → Nat
  | [] => 0
  | x :: r => uptoBulkEntry x + uptoBulkEntries r
def uptoBulkEntry {H : Type} : Lit × DataW H → Nat
  | (.string bytes, d) => bytes.length + uptoBulk d + 1
  | (_, d) => uptoBulk d + 1
 end
def uptoSmall : (H : Type) → List (DataW H) → Bool := fun _ ds => decide (uptoBulkAll ds ≤ 1048576)
def OpenSpec.upto (s : _root_.Go.ChangeSpec) : _root_.Go.OpenSpec := { _root_.Go.OpenSpec.ofChange s with cond := some uptoSmall }

/-- 'marshalyardlaw01.CrcSums', WHERE WHAT IT READS IS OF BULK AT MOST 1048576: true; the input reads as it did. -/
def crcSumsUptoRow : OpenClaim := { program := "ytfokonoeaifceaadoor", sum := "1c662f8f4a57da8f8d15a9193746c1ee3127b45a4876b9bcc602c69feab65756", func := "marshalyard/marshalyardlaw01.CrcSums", spec := "crcSums", named := ["marshalyard/crc.halves"], apart := false, laid := [("marshalyard/crc.halves", laid_marshalyard_crc_halves)], narrowed := true }
def CrcSumsUptoSaid : Prop := crcSumsUptoRow.holds Tryd.pinned (OpenSpec.upto crcSumsSpec)

/-- 'marshalyardlaw01.CrcMores', WHERE WHAT IT READS IS OF BULK AT MOST 1048576: true; the input reads as it did. -/
def crcMoresUptoRow : OpenClaim := { program := "ytfokonoeaifceaadoor", sum := "1c662f8f4a57da8f8d15a9193746c1ee3127b45a4876b9bcc602c69feab65756", func := "marshalyard/marshalyardlaw01.CrcMores", spec := "crcMores", named := ["marshalyard/crc.halves"], apart := false, laid := [("marshalyard/crc.halves", laid_marshalyard_crc_halves)], narrowed := true }
def CrcMoresUptoSaid : Prop := crcMoresUptoRow.holds Tryd.pinned (OpenSpec.upto crcMoresSpec)

/-- 'marshalyardlaw01.CrcJoins', WHERE WHAT IT READS IS OF BULK AT MOST 1048576: true; the input reads as it did. -/
def crcJoinsUptoRow : OpenClaim := { program := "ytfokonoeaifceaadoor", sum := "1c662f8f4a57da8f8d15a9193746c1ee3127b45a4876b9bcc602c69feab65756", func := "marshalyard/marshalyardlaw01.CrcJoins", spec := "crcJoins", named := ["marshalyard/crc.halves"], apart := false, laid := [("marshalyard/crc.halves", laid_marshalyard_crc_halves)], narrowed := true }
def CrcJoinsUptoSaid : Prop := crcJoinsUptoRow.holds Tryd.pinned (OpenSpec.upto crcJoinsSpec)

/-- 'marshalyardlaw01.CrcZeros', WHERE WHAT IT READS IS OF BULK AT MOST 1048576: true; the input reads as it did. -/
def crcZerosUptoRow : OpenClaim := { program := "ytfokonoeaifceaadoor", sum := "1c662f8f4a57da8f8d15a9193746c1ee3127b45a4876b9bcc602c69feab65756", func := "marshalyard/marshalyardlaw01.CrcZeros", spec := "crcZeros", named := ["marshalyard/crc.halves"], apart := false, laid := [("marshalyard/crc.halves", laid_marshalyard_crc_halves)], narrowed := true }
def CrcZerosUptoSaid : Prop := crcZerosUptoRow.holds Tryd.pinned (OpenSpec.upto crcZerosSpec)

/-- 'marshalyardlaw01.CrcXors', WHERE WHAT IT READS IS OF BULK AT MOST 1048576: true; the input reads as it did. -/
def crcXorsUptoRow : OpenClaim := { program := "ytfokonoeaifceaadoor", sum := "1c662f8f4a57da8f8d15a9193746c1ee3127b45a4876b9bcc602c69feab65756", func := "marshalyard/marshalyardlaw01.CrcXors", spec := "crcXors", named := ["marshalyard/crc.halves"], apart := false, laid := [("marshalyard/crc.halves", laid_marshalyard_crc_halves)], narrowed := true }
def CrcXorsUptoSaid : Prop := crcXorsUptoRow.holds Tryd.pinned (OpenSpec.upto crcXorsSpec)

/-- 'marshalyardlaw01.CrcEnds', WHERE WHAT IT READS IS OF BULK AT MOST 1048576: true; the input reads as it did. -/
def crcEndsUptoRow : OpenClaim := { program := "ytfokonoeaifceaadoor", sum := "1c662f8f4a57da8f8d15a9193746c1ee3127b45a4876b9bcc602c69feab65756", func := "marshalyard/marshalyardlaw01.CrcEnds", spec := "crcEnds", named := ["marshalyard/crc.halves"], apart := false, laid := [("marshalyard/crc.halves", laid_marshalyard_crc_halves)], narrowed := true }
def CrcEndsUptoSaid : Prop := crcEndsUptoRow.holds Tryd.pinned (OpenSpec.upto crcEndsSpec)

/-- 'marshalyardlaw01.CrcBursts', WHERE WHAT IT READS IS OF BULK AT MOST 1048576: true; the input reads as it did. -/
def crcBurstsUptoRow : OpenClaim := { program := "ytfokonoeaifceaadoor", sum := "1c662f8f4a57da8f8d15a9193746c1ee3127b45a4876b9bcc602c69feab65756", func := "marshalyard/marshalyardlaw01.CrcBursts", spec := "crcBursts", named := ["marshalyard/crc.halves"], apart := false, laid := [("marshalyard/crc.halves", laid_marshalyard_crc_halves)], narrowed := true }
def CrcBurstsUptoSaid : Prop := crcBurstsUptoRow.holds Tryd.pinned (OpenSpec.upto crcBurstsSpec)

/-- 'marshalyardlaw01.CrcPairs', WHERE WHAT IT READS IS OF BULK AT MOST 1048576: true; the input reads as it did. -/
def crcPairsUptoRow : OpenClaim := { program := "ytfokonoeaifceaadoor", sum := "1c662f8f4a57da8f8d15a9193746c1ee3127b45a4876b9bcc602c69feab65756", func := "marshalyard/marshalyardlaw01.CrcPairs", spec := "crcPairs", named := ["marshalyard/crc.halves"], apart := false, laid := [("marshalyard/crc.halves", laid_marshalyard_crc_halves)], narrowed := true }
def CrcPairsUptoSaid : Prop := crcPairsUptoRow.holds Tryd.pinned (OpenSpec.upto crcPairsSpec)

end Rows
end Go.Proofs.YtfokonoeaifceaaDoor
