/-
  DERIVED. GIVEN WITH THE SEED: THE CARDS: each row of YtmfopcbjgbphaaaDoorRows.lean that lists a variable, with what it lists TIED to the program's text (the seventh form; the later family's looks); each row that meets fmt, with fmt's text TOLD by the authors' own Lean function (tested against real Go, not proved from fmt's source: count such statements apart). THE CARD IS WHAT COUNTS. Prove the row's statement (the work); the ties are given (YtmfopcbjgbphaaaDoorTie.lean); close each card by the builder's one call (the guide's Derived/Test/ToyasCard.lean, 'card_holds'). Laid BY PROGRAM, IN A SANDBOX (cutbox-door.mjs). By AI agents, Wed Nov 11 2026. No macro, syntax, notation, axiom, sorry.
-/
import Derived.Test.YtmfopcbjgbphaaaDoorRows
import GoSem.ClaimSeven
namespace Go.Proofs.YtmfopcbjgbphaaaDoor
namespace Rows

/-- THE TIED CARD OF 'trellislaw25.JsonAsks'. -/
def jsonAsksCard : Claim7 := { stood := { row := jsonAsksRow, standIns := [], harness := (true, "ca2cac4eeaa8d055797fddf96d52bb08ca0b853b129fc9b2c479f09334ddce34"), looks := false }, kinds := [], alts := [], laidByText := true, laidKinds := [.data, .pinned], laidTests := true, laidLooks := .later }
def JsonAsksCardSaid : Prop := Claim7.holds Tryd.pinned (.plain (OpenSpec.ofChange jsonAsksSpec)) jsonAsksCard

/-- THE TIED CARD OF 'trellislaw25.JsonPrints'. -/
def jsonPrintsCard : Claim7 := { stood := { row := jsonPrintsRow, standIns := [], harness := (true, "ca2cac4eeaa8d055797fddf96d52bb08ca0b853b129fc9b2c479f09334ddce34"), looks := false }, kinds := [], alts := [], laidByText := true, laidKinds := [.data, .data, .pinned], laidTests := true, laidLooks := .later }
def JsonPrintsCardSaid : Prop := Claim7.holds Tryd.pinned (.plain (OpenSpec.ofChange jsonPrintsSpec)) jsonPrintsCard

/-- THE TIED CARD OF 'trellislaw25.JsonParses'. -/
def jsonParsesCard : Claim7 := { stood := { row := jsonParsesRow, standIns := [], harness := (true, "ca2cac4eeaa8d055797fddf96d52bb08ca0b853b129fc9b2c479f09334ddce34"), looks := false }, kinds := [], alts := [], laidByText := true, laidKinds := [.data], laidTests := true, laidLooks := .later }
def JsonParsesCardSaid : Prop := Claim7.holds Tryd.pinned (.plain (OpenSpec.ofChange jsonParsesSpec)) jsonParsesCard

/-- THE TIED CARD OF 'trellislaw25.JsonBack'. -/
def jsonBackCard : Claim7 := { stood := { row := jsonBackRow, standIns := [], harness := (true, "ca2cac4eeaa8d055797fddf96d52bb08ca0b853b129fc9b2c479f09334ddce34"), looks := false }, kinds := [], alts := [], laidByText := true, laidKinds := [.data, .data, .data, .pinned], laidTests := true, laidLooks := .later }
def JsonBackCardSaid : Prop := Claim7.holds Tryd.pinned (.plain (OpenSpec.ofChange jsonBackSpec)) jsonBackCard

/-- THE TIED CARD OF 'trellislaw25.JsonReads'. -/
def jsonReadsCard : Claim7 := { stood := { row := jsonReadsRow, standIns := [], harness := (true, "ca2cac4eeaa8d055797fddf96d52bb08ca0b853b129fc9b2c479f09334ddce34"), looks := false }, kinds := [], alts := [], laidByText := true, laidKinds := [.data, .data, .data, .pinned], laidTests := true, laidLooks := .later }
def JsonReadsCardSaid : Prop := Claim7.holds Tryd.pinned (.plain (OpenSpec.ofChange jsonReadsSpec)) jsonReadsCard

/-- THE TIED CARD OF 'trellislaw25.JsonFirm'. -/
def jsonFirmCard : Claim7 := { stood := { row := jsonFirmRow, standIns := [], harness := (true, "ca2cac4eeaa8d055797fddf96d52bb08ca0b853b129fc9b2c479f09334ddce34"), looks := false }, kinds := [], alts := [], laidByText := true, laidKinds := [.data, .data, .data, .pinned], laidTests := true, laidLooks := .later }
def JsonFirmCardSaid : Prop := Claim7.holds Tryd.pinned (.plain (OpenSpec.ofChange jsonFirmSpec)) jsonFirmCard

/-- THE TIED CARD OF 'trellislaw25.JsonBlanks'. -/
def jsonBlanksCard : Claim7 := { stood := { row := jsonBlanksRow, standIns := [], harness := (true, "ca2cac4eeaa8d055797fddf96d52bb08ca0b853b129fc9b2c479f09334ddce34"), looks := false }, kinds := [], alts := [], laidByText := true, laidKinds := [.data, .data, .data, .pinned], laidTests := true, laidLooks := .later }
def JsonBlanksCardSaid : Prop := Claim7.holds Tryd.pinned (.plain (OpenSpec.ofChange jsonBlanksSpec)) jsonBlanksCard

/-- THE TIED CARD OF 'trellislaw25.JsonSpares'. -/
def jsonSparesCard : Claim7 := { stood := { row := jsonSparesRow, standIns := [], harness := (true, "ca2cac4eeaa8d055797fddf96d52bb08ca0b853b129fc9b2c479f09334ddce34"), looks := false }, kinds := [], alts := [], laidByText := true, laidKinds := [.data, .data, .data, .pinned], laidTests := true, laidLooks := .later }
def JsonSparesCardSaid : Prop := Claim7.holds Tryd.pinned (.plain (OpenSpec.ofChange jsonSparesSpec)) jsonSparesCard

/-- THE TIED CARD OF 'trellislaw25.JsonInts'. -/
def jsonIntsCard : Claim7 := { stood := { row := jsonIntsRow, standIns := [], harness := (true, "ca2cac4eeaa8d055797fddf96d52bb08ca0b853b129fc9b2c479f09334ddce34"), looks := false }, kinds := [], alts := [], laidByText := true, laidKinds := [.data, .data, .data, .data, .data, .data, .pinned], laidTests := true, laidLooks := .later }
def JsonIntsCardSaid : Prop := Claim7.holds Tryd.pinned (.plain (OpenSpec.ofChange jsonIntsSpec)) jsonIntsCard

/-- THE SECOND FORM's CARD OF 'trellislaw25.JsonAsks'. -/
def jsonAsksUptoCard : Claim7 := { stood := { row := jsonAsksUptoRow, standIns := [], harness := (true, "ca2cac4eeaa8d055797fddf96d52bb08ca0b853b129fc9b2c479f09334ddce34"), looks := false }, kinds := [], alts := [], laidByText := true, laidKinds := [.data, .pinned], laidTests := true, laidLooks := .later }
def JsonAsksUptoCardSaid : Prop := Claim7.holds Tryd.pinned (.plain (OpenSpec.upto jsonAsksSpec)) jsonAsksUptoCard

/-- THE SECOND FORM's CARD OF 'trellislaw25.JsonPrints'. -/
def jsonPrintsUptoCard : Claim7 := { stood := { row := jsonPrintsUptoRow, standIns := [], harness := (true, "ca2cac4eeaa8d055797fddf96d52bb08ca0b853b129fc9b2c479f09334ddce34"), looks := false }, kinds := [], alts := [], laidByText := true, laidKinds := [.data, .data, .pinned], laidTests := true, laidLooks := .later }
def JsonPrintsUptoCardSaid : Prop := Claim7.holds Tryd.pinned (.plain (OpenSpec.upto jsonPrintsSpec)) jsonPrintsUptoCard

/-- THE SECOND FORM's CARD OF 'trellislaw25.JsonParses'. -/
def jsonParsesUptoCard : Claim7 := { stood := { row := jsonParsesUptoRow, standIns := [], harness := (true, "ca2cac4eeaa8d055797fddf96d52bb08ca0b853b129fc9b2c479f09334ddce34"), looks := false }, kinds := [], alts := [], laidByText := true, laidKinds := [.data], laidTests := true, laidLooks := .later }
def JsonParsesUptoCardSaid : Prop := Claim7.holds Tryd.pinned (.plain (OpenSpec.upto jsonParsesSpec)) jsonParsesUptoCard

/-- THE SECOND FORM's CARD OF 'trellislaw25.JsonBack'. -/
def jsonBackUptoCard : Claim7 := { stood := { row := jsonBackUptoRow, standIns := [], harness := (true, "ca2cac4eeaa8d055797fddf96d52bb08ca0b853b129fc9b2c479f09334ddce34"), looks := false }, kinds := [], alts := [], laidByText := true, laidKinds := [.data, .data, .data, .pinned], laidTests := true, laidLooks := .later }
def JsonBackUptoCardSaid : Prop := Claim7.holds Tryd.pinned (.plain (OpenSpec.upto jsonBackSpec)) jsonBackUptoCard

/-- THE SECOND FORM's CARD OF 'trellislaw25.JsonReads'. -/
def jsonReadsUptoCard : Claim7 := { stood := { row := jsonReadsUptoRow, standIns := [], harness := (true, "ca2cac4eeaa8d055797fddf96d52bb08ca0b853b129fc9b2c479f09334ddce34"), looks := false }, kinds := [], alts := [], laidByText := true, laidKinds := [.data, .data, .data, .pinned], laidTests := true, laidLooks := .later }
def JsonReadsUptoCardSaid : Prop := Claim7.holds Tryd.pinned (.plain (OpenSpec.upto jsonReadsSpec)) jsonReadsUptoCard

/-- THE SECOND FORM's CARD OF 'trellislaw25.JsonFirm'. -/
def jsonFirmUptoCard : Claim7 := { stood := { row := jsonFirmUptoRow, standIns := [], harness := (true, "ca2cac4eeaa8d055797fddf96d52bb08ca0b853b129fc9b2c479f09334ddce34"), looks := false }, kinds := [], alts := [], laidByText := true, laidKinds := [.data, .data, .data, .pinned], laidTests := true, laidLooks := .later }
def JsonFirmUptoCardSaid : Prop := Claim7.holds Tryd.pinned (.plain (OpenSpec.upto jsonFirmSpec)) jsonFirmUptoCard

/-- THE SECOND FORM's CARD OF 'trellislaw25.JsonBlanks'. -/
def jsonBlanksUptoCard : Claim7 := { stood := { row := jsonBlanksUptoRow, standIns := [], harness := (true, "ca2cac4eeaa8d055797fddf96d52bb08ca0b853b129fc9b2c479f09334ddce34"), looks := false }, kinds := [], alts := [], laidByText := true, laidKinds := [.data, .data, .data, .pinned], laidTests := true, laidLooks := .later }
def JsonBlanksUptoCardSaid : Prop := Claim7.holds Tryd.pinned (.plain (OpenSpec.upto jsonBlanksSpec)) jsonBlanksUptoCard

/-- THE SECOND FORM's CARD OF 'trellislaw25.JsonSpares'. -/
def jsonSparesUptoCard : Claim7 := { stood := { row := jsonSparesUptoRow, standIns := [], harness := (true, "ca2cac4eeaa8d055797fddf96d52bb08ca0b853b129fc9b2c479f09334ddce34"), looks := false }, kinds := [], alts := [], laidByText := true, laidKinds := [.data, .data, .data, .pinned], laidTests := true, laidLooks := .later }
def JsonSparesUptoCardSaid : Prop := Claim7.holds Tryd.pinned (.plain (OpenSpec.upto jsonSparesSpec)) jsonSparesUptoCard

/-- THE SECOND FORM's CARD OF 'trellislaw25.JsonInts'. -/
def jsonIntsUptoCard : Claim7 := { stood := { row := jsonIntsUptoRow, standIns := [], harness := (true, "ca2cac4eeaa8d055797fddf96d52bb08ca0b853b129fc9b2c479f09334ddce34"), looks := false }, kinds := [], alts := [], laidByText := true, laidKinds := [.data, .data, .data, .data, .data, .data, .pinned], laidTests := true, laidLooks := .later }
def JsonIntsUptoCardSaid : Prop := Claim7.holds Tryd.pinned (.plain (OpenSpec.upto jsonIntsSpec)) jsonIntsUptoCard
end Rows
end Go.Proofs.YtmfopcbjgbphaaaDoor
