/-
  DERIVED. GIVEN WITH THE SEED: THE CARDS: each row of YtbejkaeidnajkaaDoorRows.lean that lists a variable, with what it lists TIED to the program's text (the seventh form; the later family's looks); each row that meets fmt, with fmt's text TOLD by the authors' own Lean function (tested against real Go, not proved from fmt's source: count such statements apart). THE CARD IS WHAT COUNTS. Prove the row's statement (the work); the ties are given (YtbejkaeidnajkaaDoorTie.lean); close each card by the builder's one call (the guide's Derived/Test/ToyasCard.lean, 'card_holds'). Laid BY PROGRAM, IN A SANDBOX (cutbox-door.mjs). By AI agents, Wed Nov 11 2026. No macro, syntax, notation, axiom, sorry.
-/
import Derived.Test.YtbejkaeidnajkaaDoorRows
import GoSem.ClaimSeven
namespace Go.Proofs.YtbejkaeidnajkaaDoor
namespace Rows

/-- THE TIED CARD OF 'trellislaw26.RpcFrames'. -/
def rpcFramesCard : Claim7 := { stood := { row := rpcFramesRow, standIns := [], harness := (true, "f905dd41746bca3e0949047a1c82e15e7f748e797264b70c022219397fdea880"), looks := false }, kinds := [], alts := [], laidByText := true, laidKinds := [.data, .data, .data], laidTests := true, laidLooks := .later }
def RpcFramesCardSaid : Prop := Claim7.holds Tryd.pinned (.plain (OpenSpec.ofChange rpcFramesSpec)) rpcFramesCard

/-- THE TIED CARD OF 'trellislaw26.RpcBack'. -/
def rpcBackCard : Claim7 := { stood := { row := rpcBackRow, standIns := [], harness := (true, "f905dd41746bca3e0949047a1c82e15e7f748e797264b70c022219397fdea880"), looks := false }, kinds := [], alts := [], laidByText := true, laidKinds := [.data, .data, .data], laidTests := true, laidLooks := .later }
def RpcBackCardSaid : Prop := Claim7.holds Tryd.pinned (.plain (OpenSpec.ofChange rpcBackSpec)) rpcBackCard

/-- THE TIED CARD OF 'trellislaw26.RpcCanon'. -/
def rpcCanonCard : Claim7 := { stood := { row := rpcCanonRow, standIns := [], harness := (true, "f905dd41746bca3e0949047a1c82e15e7f748e797264b70c022219397fdea880"), looks := false }, kinds := [], alts := [], laidByText := true, laidKinds := [.data, .data, .data], laidTests := true, laidLooks := .later }
def RpcCanonCardSaid : Prop := Claim7.holds Tryd.pinned (.plain (OpenSpec.ofChange rpcCanonSpec)) rpcCanonCard

/-- THE TIED CARD OF 'trellislaw26.RpcPieces'. -/
def rpcPiecesCard : Claim7 := { stood := { row := rpcPiecesRow, standIns := [], harness := (true, "f905dd41746bca3e0949047a1c82e15e7f748e797264b70c022219397fdea880"), looks := false }, kinds := [], alts := [], laidByText := true, laidKinds := [.data, .data, .data], laidTests := true, laidLooks := .later }
def RpcPiecesCardSaid : Prop := Claim7.holds Tryd.pinned (.plain (OpenSpec.ofChange rpcPiecesSpec)) rpcPiecesCard

/-- THE TIED CARD OF 'trellislaw26.RpcCarries'. -/
def rpcCarriesCard : Claim7 := { stood := { row := rpcCarriesRow, standIns := [], harness := (true, "f905dd41746bca3e0949047a1c82e15e7f748e797264b70c022219397fdea880"), looks := false }, kinds := [], alts := [], laidByText := true, laidKinds := [.data, .data, .data], laidTests := true, laidLooks := .later }
def RpcCarriesCardSaid : Prop := Claim7.holds Tryd.pinned (.plain (OpenSpec.ofChange rpcCarriesSpec)) rpcCarriesCard

/-- THE SECOND FORM's CARD OF 'trellislaw26.RpcFrames'. -/
def rpcFramesUptoCard : Claim7 := { stood := { row := rpcFramesUptoRow, standIns := [], harness := (true, "f905dd41746bca3e0949047a1c82e15e7f748e797264b70c022219397fdea880"), looks := false }, kinds := [], alts := [], laidByText := true, laidKinds := [.data, .data, .data], laidTests := true, laidLooks := .later }
def RpcFramesUptoCardSaid : Prop := Claim7.holds Tryd.pinned (.plain (OpenSpec.upto rpcFramesSpec)) rpcFramesUptoCard

/-- THE SECOND FORM's CARD OF 'trellislaw26.RpcBack'. -/
def rpcBackUptoCard : Claim7 := { stood := { row := rpcBackUptoRow, standIns := [], harness := (true, "f905dd41746bca3e0949047a1c82e15e7f748e797264b70c022219397fdea880"), looks := false }, kinds := [], alts := [], laidByText := true, laidKinds := [.data, .data, .data], laidTests := true, laidLooks := .later }
def RpcBackUptoCardSaid : Prop := Claim7.holds Tryd.pinned (.plain (OpenSpec.upto rpcBackSpec)) rpcBackUptoCard

/-- THE SECOND FORM's CARD OF 'trellislaw26.RpcCanon'. -/
def rpcCanonUptoCard : Claim7 := { stood := { row := rpcCanonUptoRow, standIns := [], harness := (true, "f905dd41746bca3e0949047a1c82e15e7f748e797264b70c022219397fdea880"), looks := false }, kinds := [], alts := [], laidByText := true, laidKinds := [.data, .data, .data], laidTests := true, laidLooks := .later }
def RpcCanonUptoCardSaid : Prop := Claim7.holds Tryd.pinned (.plain (OpenSpec.upto rpcCanonSpec)) rpcCanonUptoCard

/-- THE SECOND FORM's CARD OF 'trellislaw26.RpcPieces'. -/
def rpcPiecesUptoCard : Claim7 := { stood := { row := rpcPiecesUptoRow, standIns := [], harness := (true, "f905dd41746bca3e0949047a1c82e15e7f748e797264b70c022219397fdea880"), looks := false }, kinds := [], alts := [], laidByText := true, laidKinds := [.data, .data, .data], laidTests := true, laidLooks := .later }
def RpcPiecesUptoCardSaid : Prop := Claim7.holds Tryd.pinned (.plain (OpenSpec.upto rpcPiecesSpec)) rpcPiecesUptoCard

/-- THE SECOND FORM's CARD OF 'trellislaw26.RpcCarries'. -/
def rpcCarriesUptoCard : Claim7 := { stood := { row := rpcCarriesUptoRow, standIns := [], harness := (true, "f905dd41746bca3e0949047a1c82e15e7f748e797264b70c022219397fdea880"), looks := false }, kinds := [], alts := [], laidByText := true, laidKinds := [.data, .data, .data], laidTests := true, laidLooks := .later }
def RpcCarriesUptoCardSaid : Prop := Claim7.holds Tryd.pinned (.plain (OpenSpec.upto rpcCarriesSpec)) rpcCarriesUptoCard
end Rows
end Go.Proofs.YtbejkaeidnajkaaDoor
