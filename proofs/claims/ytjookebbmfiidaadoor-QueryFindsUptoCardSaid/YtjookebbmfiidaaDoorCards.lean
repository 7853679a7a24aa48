/-
  DERIVED. GIVEN WITH THE SEED: THE CARDS: each row of YtjookebbmfiidaaDoorRows.lean that lists a variable, with what it lists TIED to the program's text (the seventh form; the later family's looks); each row that meets fmt, with fmt's text TOLD by the authors' own Lean function (tested against real Go, not proved from fmt's source: count such statements apart). THE CARD IS WHAT COUNTS. Prove the row's statement (the work); the ties are given (YtjookebbmfiidaaDoorTie.lean); close each card by the builder's one call (the guide's Derived/Test/ToyasCard.lean, 'card_holds'). Laid BY PROGRAM, IN A SANDBOX (cutbox-door.mjs). By AI agents, Wed Nov 11 2026. No macro, syntax, notation, axiom, sorry.
-/
import Derived.Test.YtjookebbmfiidaaDoorRows
import GoSem.ClaimSeven
namespace Go.Proofs.YtjookebbmfiidaaDoor
namespace Rows

/-- THE TIED CARD OF 'trellislaw20.QueryFinds'. -/
def queryFindsCard : Claim7 := { stood := { row := queryFindsRow, standIns := [], harness := (true, "7394c9c393e34b63a3719f5b30783420a463419d88f1d48a92b2e66cac9e3cac"), looks := false }, kinds := [], alts := [], laidByText := true, laidKinds := [.data, .data, .data], laidTests := true, laidLooks := .later }
def QueryFindsCardSaid : Prop := Claim7.holds Tryd.pinned (.plain (OpenSpec.ofChange queryFindsSpec)) queryFindsCard

/-- THE TIED CARD OF 'trellislaw20.QueryPrints'. -/
def queryPrintsCard : Claim7 := { stood := { row := queryPrintsRow, standIns := [], harness := (true, "7394c9c393e34b63a3719f5b30783420a463419d88f1d48a92b2e66cac9e3cac"), looks := false }, kinds := [], alts := [], laidByText := true, laidKinds := [.data, .data, .data], laidTests := true, laidLooks := .later }
def QueryPrintsCardSaid : Prop := Claim7.holds Tryd.pinned (.plain (OpenSpec.ofChange queryPrintsSpec)) queryPrintsCard

/-- THE TIED CARD OF 'trellislaw20.QueryBack'. -/
def queryBackCard : Claim7 := { stood := { row := queryBackRow, standIns := [], harness := (true, "7394c9c393e34b63a3719f5b30783420a463419d88f1d48a92b2e66cac9e3cac"), looks := false }, kinds := [], alts := [], laidByText := true, laidKinds := [.data, .data, .data], laidTests := true, laidLooks := .later }
def QueryBackCardSaid : Prop := Claim7.holds Tryd.pinned (.plain (OpenSpec.ofChange queryBackSpec)) queryBackCard

/-- THE TIED CARD OF 'trellislaw20.QueryCanon'. -/
def queryCanonCard : Claim7 := { stood := { row := queryCanonRow, standIns := [], harness := (true, "7394c9c393e34b63a3719f5b30783420a463419d88f1d48a92b2e66cac9e3cac"), looks := false }, kinds := [], alts := [], laidByText := true, laidKinds := [.data, .data, .data], laidTests := true, laidLooks := .later }
def QueryCanonCardSaid : Prop := Claim7.holds Tryd.pinned (.plain (OpenSpec.ofChange queryCanonSpec)) queryCanonCard

/-- THE TIED CARD OF 'trellislaw20.QueryConds'. -/
def queryCondsCard : Claim7 := { stood := { row := queryCondsRow, standIns := [], harness := (true, "7394c9c393e34b63a3719f5b30783420a463419d88f1d48a92b2e66cac9e3cac"), looks := false }, kinds := [], alts := [], laidByText := true, laidKinds := [.data, .data, .data], laidTests := true, laidLooks := .later }
def QueryCondsCardSaid : Prop := Claim7.holds Tryd.pinned (.plain (OpenSpec.ofChange queryCondsSpec)) queryCondsCard

/-- THE TIED CARD OF 'trellislaw20.QueryParts'. -/
def queryPartsCard : Claim7 := { stood := { row := queryPartsRow, standIns := [], harness := (true, "7394c9c393e34b63a3719f5b30783420a463419d88f1d48a92b2e66cac9e3cac"), looks := false }, kinds := [], alts := [], laidByText := true, laidKinds := [.data, .data, .data], laidTests := true, laidLooks := .later }
def QueryPartsCardSaid : Prop := Claim7.holds Tryd.pinned (.plain (OpenSpec.ofChange queryPartsSpec)) queryPartsCard

/-- THE TIED CARD OF 'trellislaw20.QueryHeads'. -/
def queryHeadsCard : Claim7 := { stood := { row := queryHeadsRow, standIns := [], harness := (true, "7394c9c393e34b63a3719f5b30783420a463419d88f1d48a92b2e66cac9e3cac"), looks := false }, kinds := [], alts := [], laidByText := true, laidKinds := [.data, .data, .data], laidTests := true, laidLooks := .later }
def QueryHeadsCardSaid : Prop := Claim7.holds Tryd.pinned (.plain (OpenSpec.ofChange queryHeadsSpec)) queryHeadsCard

/-- THE SECOND FORM's CARD OF 'trellislaw20.QueryFinds'. -/
def queryFindsUptoCard : Claim7 := { stood := { row := queryFindsUptoRow, standIns := [], harness := (true, "7394c9c393e34b63a3719f5b30783420a463419d88f1d48a92b2e66cac9e3cac"), looks := false }, kinds := [], alts := [], laidByText := true, laidKinds := [.data, .data, .data], laidTests := true, laidLooks := .later }
def QueryFindsUptoCardSaid : Prop := Claim7.holds Tryd.pinned (.plain (OpenSpec.upto queryFindsSpec)) queryFindsUptoCard

/-- THE SECOND FORM's CARD OF 'trellislaw20.QueryPrints'. -/
def queryPrintsUptoCard : Claim7 := { stood := { row := queryPrintsUptoRow, standIns := [], harness := (true, "7394c9c393e34b63a3719f5b30783420a463419d88f1d48a92b2e66cac9e3cac"), looks := false }, kinds := [], alts := [], laidByText := true, laidKinds := [.data, .data, .data], laidTests := true, laidLooks := .later }
def QueryPrintsUptoCardSaid : Prop := Claim7.holds Tryd.pinned (.plain (OpenSpec.upto queryPrintsSpec)) queryPrintsUptoCard

/-- THE SECOND FORM's CARD OF 'trellislaw20.QueryBack'. -/
def queryBackUptoCard : Claim7 := { stood := { row := queryBackUptoRow, standIns := [], harness := (true, "7394c9c393e34b63a3719f5b30783420a463419d88f1d48a92b2e66cac9e3cac"), looks := false }, kinds := [], alts := [], laidByText := true, laidKinds := [.data, .data, .data], laidTests := true, laidLooks := .later }
def QueryBackUptoCardSaid : Prop := Claim7.holds Tryd.pinned (.plain (OpenSpec.upto queryBackSpec)) queryBackUptoCard

/-- THE SECOND FORM's CARD OF 'trellislaw20.QueryCanon'. -/
def queryCanonUptoCard : Claim7 := { stood := { row := queryCanonUptoRow, standIns := [], harness := (true, "7394c9c393e34b63a3719f5b30783420a463419d88f1d48a92b2e66cac9e3cac"), looks := false }, kinds := [], alts := [], laidByText := true, laidKinds := [.data, .data, .data], laidTests := true, laidLooks := .later }
def QueryCanonUptoCardSaid : Prop := Claim7.holds Tryd.pinned (.plain (OpenSpec.upto queryCanonSpec)) queryCanonUptoCard

/-- THE SECOND FORM's CARD OF 'trellislaw20.QueryConds'. -/
def queryCondsUptoCard : Claim7 := { stood := { row := queryCondsUptoRow, standIns := [], harness := (true, "7394c9c393e34b63a3719f5b30783420a463419d88f1d48a92b2e66cac9e3cac"), looks := false }, kinds := [], alts := [], laidByText := true, laidKinds := [.data, .data, .data], laidTests := true, laidLooks := .later }
def QueryCondsUptoCardSaid : Prop := Claim7.holds Tryd.pinned (.plain (OpenSpec.upto queryCondsSpec)) queryCondsUptoCard

/-- THE SECOND FORM's CARD OF 'trellislaw20.QueryParts'. -/
def queryPartsUptoCard : Claim7 := { stood := { row := queryPartsUptoRow, standIns := [], harness := (true, "7394c9c393e34b63a3719f5b30783420a463419d88f1d48a92b2e66cac9e3cac"), looks := false }, kinds := [], alts := [], laidByText := true, laidKinds := [.data, .data, .data], laidTests := true, laidLooks := .later }
def QueryPartsUptoCardSaid : Prop := Claim7.holds Tryd.pinned (.plain (OpenSpec.upto queryPartsSpec)) queryPartsUptoCard

/-- THE SECOND FORM's CARD OF 'trellislaw20.QueryHeads'. -/
def queryHeadsUptoCard : Claim7 := { stood := { row := queryHeadsUptoRow, standIns := [], harness := (true, "7394c9c393e34b63a3719f5b30783420a463419d88f1d48a92b2e66cac9e3cac"), looks := false }, kinds := [], alts := [], laidByText := true, laidKinds := [.data, .data, .data], laidTests := true, laidLooks := .later }
def QueryHeadsUptoCardSaid : Prop := Claim7.holds Tryd.pinned (.plain (OpenSpec.upto queryHeadsSpec)) queryHeadsUptoCard
end Rows
end Go.Proofs.YtjookebbmfiidaaDoor
