/-
  DERIVED. GIVEN WITH THE SEED: THE CARDS: each row of YtinfdomlpbikaaaGreatDoorRows.lean that lists a variable, with what it lists TIED to the program's text (the seventh form; the later family's looks); each row that meets fmt, with fmt's text TOLD by the authors' own Lean function (tested against real Go, not proved from fmt's source: count such statements apart). THE CARD IS WHAT COUNTS. Prove the row's statement (the work); the ties are given (YtinfdomlpbikaaaGreatDoorTie.lean); close each card by the builder's one call (the guide's Derived/Test/ToyasCard.lean, 'card_holds'). Laid BY PROGRAM, IN A SANDBOX (cutbox-door.mjs). By AI agents, Wed Nov 11 2026. No macro, syntax, notation, axiom, sorry.
-/
import Derived.Test.YtinfdomlpbikaaaGreatDoorRows
import GoSem.ClaimSeven
namespace Go.Proofs.YtinfdomlpbikaaaGreatDoor
namespace Rows

/-- THE TIED CARD OF 'refectorylaw11.MsgPuts'. -/
def msgPutsCard : Claim7 := { stood := { row := msgPutsRow, standIns := [], harness := (true, "18010136757f739ba43b978972ba58cebbfc0de76966333932bb9f74b78f0608"), looks := false }, kinds := [], alts := [], laidByText := true, laidKinds := [.data, .pinned], laidTests := true, laidLooks := .later }
def MsgPutsCardSaid : Prop := Claim7.holds Tryz.pinned (.plain (OpenSpec.ofChange msgPutsSpec)) msgPutsCard

/-- THE TIED CARD OF 'refectorylaw11.MsgGets'. -/
def msgGetsCard : Claim7 := { stood := { row := msgGetsRow, standIns := [], harness := (true, "18010136757f739ba43b978972ba58cebbfc0de76966333932bb9f74b78f0608"), looks := false }, kinds := [], alts := [], laidByText := true, laidKinds := [.data, .pinned], laidTests := true, laidLooks := .later }
def MsgGetsCardSaid : Prop := Claim7.holds Tryz.pinned (.plain (OpenSpec.ofChange msgGetsSpec)) msgGetsCard

/-- THE TIED CARD OF 'refectorylaw11.MsgAnswers'. -/
def msgAnswersCard : Claim7 := { stood := { row := msgAnswersRow, standIns := [], harness := (true, "18010136757f739ba43b978972ba58cebbfc0de76966333932bb9f74b78f0608"), looks := false }, kinds := [], alts := [], laidByText := true, laidKinds := [.data, .pinned], laidTests := true, laidLooks := .later }
def MsgAnswersCardSaid : Prop := Claim7.holds Tryz.pinned (.plain (OpenSpec.ofChange msgAnswersSpec)) msgAnswersCard

/-- THE TIED CARD OF 'refectorylaw11.MsgBack'. -/
def msgBackCard : Claim7 := { stood := { row := msgBackRow, standIns := [], harness := (true, "18010136757f739ba43b978972ba58cebbfc0de76966333932bb9f74b78f0608"), looks := false }, kinds := [], alts := [], laidByText := true, laidKinds := [.data, .pinned], laidTests := true, laidLooks := .later }
def MsgBackCardSaid : Prop := Claim7.holds Tryz.pinned (.plain (OpenSpec.ofChange msgBackSpec)) msgBackCard

/-- THE TIED CARD OF 'refectorylaw11.MsgOnce'. -/
def msgOnceCard : Claim7 := { stood := { row := msgOnceRow, standIns := [], harness := (true, "18010136757f739ba43b978972ba58cebbfc0de76966333932bb9f74b78f0608"), looks := false }, kinds := [], alts := [], laidByText := true, laidKinds := [.data, .pinned], laidTests := true, laidLooks := .later }
def MsgOnceCardSaid : Prop := Claim7.holds Tryz.pinned (.plain (OpenSpec.ofChange msgOnceSpec)) msgOnceCard

/-- THE TIED CARD OF 'refectorylaw11.MsgFresh'. -/
def msgFreshCard : Claim7 := { stood := { row := msgFreshRow, standIns := [], harness := (true, "18010136757f739ba43b978972ba58cebbfc0de76966333932bb9f74b78f0608"), looks := false }, kinds := [], alts := [], laidByText := true, laidKinds := [.data, .pinned], laidTests := true, laidLooks := .later }
def MsgFreshCardSaid : Prop := Claim7.holds Tryz.pinned (.plain (OpenSpec.ofChange msgFreshSpec)) msgFreshCard

/-- THE TIED CARD OF 'refectorylaw11.MsgSigns'. -/
def msgSignsCard : Claim7 := { stood := { row := msgSignsRow, standIns := [], harness := (true, "18010136757f739ba43b978972ba58cebbfc0de76966333932bb9f74b78f0608"), looks := false }, kinds := [], alts := [], laidByText := true, laidKinds := [.data, .data, .pinned], laidTests := true, laidLooks := .later }
def MsgSignsCardSaid : Prop := Claim7.holds Tryz.pinned (.plain (OpenSpec.ofChange msgSignsSpec)) msgSignsCard

/-- THE TIED CARD OF 'refectorylaw11.MsgSigned'. -/
def msgSignedCard : Claim7 := { stood := { row := msgSignedRow, standIns := [], harness := (true, "18010136757f739ba43b978972ba58cebbfc0de76966333932bb9f74b78f0608"), looks := false }, kinds := [], alts := [], laidByText := true, laidKinds := [.data, .data, .pinned], laidTests := true, laidLooks := .later }
def MsgSignedCardSaid : Prop := Claim7.holds Tryz.pinned (.plain (OpenSpec.ofChange msgSignedSpec)) msgSignedCard

/-- THE SECOND FORM's CARD OF 'refectorylaw11.MsgPuts'. -/
def msgPutsUptoCard : Claim7 := { stood := { row := msgPutsUptoRow, standIns := [], harness := (true, "18010136757f739ba43b978972ba58cebbfc0de76966333932bb9f74b78f0608"), looks := false }, kinds := [], alts := [], laidByText := true, laidKinds := [.data, .pinned], laidTests := true, laidLooks := .later }
def MsgPutsUptoCardSaid : Prop := Claim7.holds Tryz.pinned (.plain (OpenSpec.upto msgPutsSpec)) msgPutsUptoCard

/-- THE SECOND FORM's CARD OF 'refectorylaw11.MsgGets'. -/
def msgGetsUptoCard : Claim7 := { stood := { row := msgGetsUptoRow, standIns := [], harness := (true, "18010136757f739ba43b978972ba58cebbfc0de76966333932bb9f74b78f0608"), looks := false }, kinds := [], alts := [], laidByText := true, laidKinds := [.data, .pinned], laidTests := true, laidLooks := .later }
def MsgGetsUptoCardSaid : Prop := Claim7.holds Tryz.pinned (.plain (OpenSpec.upto msgGetsSpec)) msgGetsUptoCard

/-- THE SECOND FORM's CARD OF 'refectorylaw11.MsgAnswers'. -/
def msgAnswersUptoCard : Claim7 := { stood := { row := msgAnswersUptoRow, standIns := [], harness := (true, "18010136757f739ba43b978972ba58cebbfc0de76966333932bb9f74b78f0608"), looks := false }, kinds := [], alts := [], laidByText := true, laidKinds := [.data, .pinned], laidTests := true, laidLooks := .later }
def MsgAnswersUptoCardSaid : Prop := Claim7.holds Tryz.pinned (.plain (OpenSpec.upto msgAnswersSpec)) msgAnswersUptoCard

/-- THE SECOND FORM's CARD OF 'refectorylaw11.MsgBack'. -/
def msgBackUptoCard : Claim7 := { stood := { row := msgBackUptoRow, standIns := [], harness := (true, "18010136757f739ba43b978972ba58cebbfc0de76966333932bb9f74b78f0608"), looks := false }, kinds := [], alts := [], laidByText := true, laidKinds := [.data, .pinned], laidTests := true, laidLooks := .later }
def MsgBackUptoCardSaid : Prop := Claim7.holds Tryz.pinned (.plain (OpenSpec.upto msgBackSpec)) msgBackUptoCard

/-- THE SECOND FORM's CARD OF 'refectorylaw11.MsgOnce'. -/
def msgOnceUptoCard : Claim7 := { stood := { row := msgOnceUptoRow, standIns := [], harness := (true, "18010136757f739ba43b978972ba58cebbfc0de76966333932bb9f74b78f0608"), looks := false }, kinds := [], alts := [], laidByText := true, laidKinds := [.data, .pinned], laidTests := true, laidLooks := .later }
def MsgOnceUptoCardSaid : Prop := Claim7.holds Tryz.pinned (.plain (OpenSpec.upto msgOnceSpec)) msgOnceUptoCard

/-- THE SECOND FORM's CARD OF 'refectorylaw11.MsgFresh'. -/
def msgFreshUptoCard : Claim7 := { stood := { row := msgFreshUptoRow, standIns := [], harness := (true, "18010136757f739ba43b978972ba58cebbfc0de76966333932bb9f74b78f0608"), looks := false }, kinds := [], alts := [], laidByText := true, laidKinds := [.data, .pinned], laidTests := true, laidLooks := .later }
def MsgFreshUptoCardSaid : Prop := Claim7.holds Tryz.pinned (.plain (OpenSpec.upto msgFreshSpec)) msgFreshUptoCard

/-- THE SECOND FORM's CARD OF 'refectorylaw11.MsgSigns'. -/
def msgSignsUptoCard : Claim7 := { stood := { row := msgSignsUptoRow, standIns := [], harness := (true, "18010136757f739ba43b978972ba58cebbfc0de76966333932bb9f74b78f0608"), looks := false }, kinds := [], alts := [], laidByText := true, laidKinds := [.data, .data, .pinned], laidTests := true, laidLooks := .later }
def MsgSignsUptoCardSaid : Prop := Claim7.holds Tryz.pinned (.plain (OpenSpec.upto msgSignsSpec)) msgSignsUptoCard

/-- THE SECOND FORM's CARD OF 'refectorylaw11.MsgSigned'. -/
def msgSignedUptoCard : Claim7 := { stood := { row := msgSignedUptoRow, standIns := [], harness := (true, "18010136757f739ba43b978972ba58cebbfc0de76966333932bb9f74b78f0608"), looks := false }, kinds := [], alts := [], laidByText := true, laidKinds := [.data, .data, .pinned], laidTests := true, laidLooks := .later }
def MsgSignedUptoCardSaid : Prop := Claim7.holds Tryz.pinned (.plain (OpenSpec.upto msgSignedSpec)) msgSignedUptoCard
end Rows
end Go.Proofs.YtinfdomlpbikaaaGreatDoor
