/-
  DERIVED. GIVEN WITH THE SEED: THE CARDS: each row of YtfokonoeaifceaaDoorRows.lean that lists a variable, with what it lists TIED to the program's text (the seventh form; the later family's looks); each row that meets fmt, with fmt's text TOLD by the authors' own Lean function (tested against real Go, not proved from fmt's source: count such statements apart). THE CARD IS WHAT COUNTS. Prove the row's statement (the work); the ties are given (YtfokonoeaifceaaDoorTie.lean); close each card by the builder's one call (the guide's Derived/Test/ToyasCard.lean, 'card_holds'). Laid BY PROGRAM, IN A SANDBOX (cutbox-door.mjs). By AI agents, Wed Nov 11 2026. No macro, syntax, notation, axiom, sorry.
-/
import Derived.Test.YtfokonoeaifceaaDoorRows
import GoSem.ClaimSeven
namespace Go.Proofs.YtfokonoeaifceaaDoor
namespace Rows

/-- THE TIED CARD OF 'marshalyardlaw01.CrcSums'. -/
def crcSumsCard : Claim7 := { stood := { row := crcSumsRow, standIns := [], harness := (true, "a3a2f37562fad9e042099d1fb77b8deb0d146d884cc334789ceb755b5481e9ba"), looks := false }, kinds := [], alts := [], laidByText := true, laidKinds := [.data], laidTests := true, laidLooks := .later }
def CrcSumsCardSaid : Prop := Claim7.holds Tryd.pinned (.plain (OpenSpec.ofChange crcSumsSpec)) crcSumsCard

/-- THE TIED CARD OF 'marshalyardlaw01.CrcMores'. -/
def crcMoresCard : Claim7 := { stood := { row := crcMoresRow, standIns := [], harness := (true, "a3a2f37562fad9e042099d1fb77b8deb0d146d884cc334789ceb755b5481e9ba"), looks := false }, kinds := [], alts := [], laidByText := true, laidKinds := [.data], laidTests := true, laidLooks := .later }
def CrcMoresCardSaid : Prop := Claim7.holds Tryd.pinned (.plain (OpenSpec.ofChange crcMoresSpec)) crcMoresCard

/-- THE TIED CARD OF 'marshalyardlaw01.CrcJoins'. -/
def crcJoinsCard : Claim7 := { stood := { row := crcJoinsRow, standIns := [], harness := (true, "a3a2f37562fad9e042099d1fb77b8deb0d146d884cc334789ceb755b5481e9ba"), looks := false }, kinds := [], alts := [], laidByText := true, laidKinds := [.data], laidTests := true, laidLooks := .later }
def CrcJoinsCardSaid : Prop := Claim7.holds Tryd.pinned (.plain (OpenSpec.ofChange crcJoinsSpec)) crcJoinsCard

/-- THE TIED CARD OF 'marshalyardlaw01.CrcZeros'. -/
def crcZerosCard : Claim7 := { stood := { row := crcZerosRow, standIns := [], harness := (true, "a3a2f37562fad9e042099d1fb77b8deb0d146d884cc334789ceb755b5481e9ba"), looks := false }, kinds := [], alts := [], laidByText := true, laidKinds := [.data], laidTests := true, laidLooks := .later }
def CrcZerosCardSaid : Prop := Claim7.holds Tryd.pinned (.plain (OpenSpec.ofChange crcZerosSpec)) crcZerosCard

/-- THE TIED CARD OF 'marshalyardlaw01.CrcXors'. -/
def crcXorsCard : Claim7 := { stood := { row := crcXorsRow, standIns := [], harness := (true, "a3a2f37562fad9e042099d1fb77b8deb0d146d884cc334789ceb755b5481e9ba"), looks := false }, kinds := [], alts := [], laidByText := true, laidKinds := [.data], laidTests := true, laidLooks := .later }
def CrcXorsCardSaid : Prop := Claim7.holds Tryd.pinned (.plain (OpenSpec.ofChange crcXorsSpec)) crcXorsCard

/-- THE TIED CARD OF 'marshalyardlaw01.CrcEnds'. -/
def crcEndsCard : Claim7 := { stood := { row := crcEndsRow, standIns := [], harness := (true, "a3a2f37562fad9e042099d1fb77b8deb0d146d884cc334789ceb755b5481e9ba"), looks := false }, kinds := [], alts := [], laidByText := true, laidKinds := [.data], laidTests := true, laidLooks := .later }
def CrcEndsCardSaid : Prop := Claim7.holds Tryd.pinned (.plain (OpenSpec.ofChange crcEndsSpec)) crcEndsCard

/-- THE TIED CARD OF 'marshalyardlaw01.CrcBursts'. -/
def crcBurstsCard : Claim7 := { stood := { row := crcBurstsRow, standIns := [], harness := (true, "a3a2f37562fad9e042099d1fb77b8deb0d146d884cc334789ceb755b5481e9ba"), looks := false }, kinds := [], alts := [], laidByText := true, laidKinds := [.data], laidTests := true, laidLooks := .later }
def CrcBurstsCardSaid : Prop := Claim7.holds Tryd.pinned (.plain (OpenSpec.ofChange crcBurstsSpec)) crcBurstsCard

/-- THE TIED CARD OF 'marshalyardlaw01.CrcPairs'. -/
def crcPairsCard : Claim7 := { stood := { row := crcPairsRow, standIns := [], harness := (true, "a3a2f37562fad9e042099d1fb77b8deb0d146d884cc334789ceb755b5481e9ba"), looks := false }, kinds := [], alts := [], laidByText := true, laidKinds := [.data], laidTests := true, laidLooks := .later }
def CrcPairsCardSaid : Prop := Claim7.holds Tryd.pinned (.plain (OpenSpec.ofChange crcPairsSpec)) crcPairsCard

/-- THE SECOND FORM's CARD OF 'marshalyardlaw01.CrcSums'. -/
def crcSumsUptoCard : Claim7 := { stood := { row := crcSumsUptoRow, standIns := [], harness := (true, "a3a2f37562fad9e042099d1fb77b8deb0d146d884cc334789ceb755b5481e9ba"), looks := false }, kinds := [], alts := [], laidByText := true, laidKinds := [.data], laidTests := true, laidLooks := .later }
def CrcSumsUptoCardSaid : Prop := Claim7.holds Tryd.pinned (.plain (OpenSpec.upto crcSumsSpec)) crcSumsUptoCard

/-- THE SECOND FORM's CARD OF 'marshalyardlaw01.CrcMores'. -/
def crcMoresUptoCard : Claim7 := { stood := { row := crcMoresUptoRow, standIns := [], harness := (true, "a3a2f37562fad9e042099d1fb77b8deb0d146d884cc334789ceb755b5481e9ba"), looks := false }, kinds := [], alts := [], laidByText := true, laidKinds := [.data], laidTests := true, laidLooks := .later }
def CrcMoresUptoCardSaid : Prop := Claim7.holds Tryd.pinned (.plain (OpenSpec.upto crcMoresSpec)) crcMoresUptoCard

/-- THE SECOND FORM's CARD OF 'marshalyardlaw01.CrcJoins'. -/
def crcJoinsUptoCard : Claim7 := { stood := { row := crcJoinsUptoRow, standIns := [], harness := (true, "a3a2f37562fad9e042099d1fb77b8deb0d146d884cc334789ceb755b5481e9ba"), looks := false }, kinds := [], alts := [], laidByText := true, laidKinds := [.data], laidTests := true, laidLooks := .later }
def CrcJoinsUptoCardSaid : Prop := Claim7.holds Tryd.pinned (.plain (OpenSpec.upto crcJoinsSpec)) crcJoinsUptoCard

/-- THE SECOND FORM's CARD OF 'marshalyardlaw01.CrcZeros'. -/
def crcZerosUptoCard : Claim7 := { stood := { row := crcZerosUptoRow, standIns := [], harness := (true, "a3a2f37562fad9e042099d1fb77b8deb0d146d884cc334789ceb755b5481e9ba"), looks := false }, kinds := [], alts := [], laidByText := true, laidKinds := [.data], laidTests := true, laidLooks := .later }
def CrcZerosUptoCardSaid : Prop := Claim7.holds Tryd.pinned (.plain (OpenSpec.upto crcZerosSpec)) crcZerosUptoCard

/-- THE SECOND FORM's CARD OF 'marshalyardlaw01.CrcXors'. -/
def crcXorsUptoCard : Claim7 := { stood := { row := crcXorsUptoRow, standIns := [], harness := (true, "a3a2f37562fad9e042099d1fb77b8deb0d146d884cc334789ceb755b5481e9ba"), looks := false }, kinds := [], alts := [], laidByText := true, laidKinds := [.data], laidTests := true, laidLooks := .later }
def CrcXorsUptoCardSaid : Prop := Claim7.holds Tryd.pinned (.plain (OpenSpec.upto crcXorsSpec)) crcXorsUptoCard

/-- THE SECOND FORM's CARD OF 'marshalyardlaw01.CrcEnds'. -/
def crcEndsUptoCard : Claim7 := { stood := { row := crcEndsUptoRow, standIns := [], harness := (true, "a3a2f37562fad9e042099d1fb77b8deb0d146d884cc334789ceb755b5481e9ba"), looks := false }, kinds := [], alts := [], laidByText := true, laidKinds := [.data], laidTests := true, laidLooks := .later }
def CrcEndsUptoCardSaid : Prop := Claim7.holds Tryd.pinned (.plain (OpenSpec.upto crcEndsSpec)) crcEndsUptoCard

/-- THE SECOND FORM's CARD OF 'marshalyardlaw01.CrcBursts'. -/
def crcBurstsUptoCard : Claim7 := { stood := { row := crcBurstsUptoRow, standIns := [], harness := (true, "a3a2f37562fad9e042099d1fb77b8deb0d146d884cc334789ceb755b5481e9ba"), looks := false }, kinds := [], alts := [], laidByText := true, laidKinds := [.data], laidTests := true, laidLooks := .later }
def CrcBurstsUptoCardSaid : Prop := Claim7.holds Tryd.pinned (.plain (OpenSpec.upto crcBurstsSpec)) crcBurstsUptoCard

/-- THE SECOND FORM's CARD OF 'marshalyardlaw01.CrcPairs'. -/
def crcPairsUptoCard : Claim7 := { stood := { row := crcPairsUptoRow, standIns := [], harness := (true, "a3a2f37562fad9e042099d1fb77b8deb0d146d884cc334789ceb755b5481e9ba"), looks := false }, kinds := [], alts := [], laidByText := true, laidKinds := [.data], laidTests := true, laidLooks := .later }
def CrcPairsUptoCardSaid : Prop := Claim7.holds Tryd.pinned (.plain (OpenSpec.upto crcPairsSpec)) crcPairsUptoCard
end Rows
end Go.Proofs.YtfokonoeaifceaaDoor
