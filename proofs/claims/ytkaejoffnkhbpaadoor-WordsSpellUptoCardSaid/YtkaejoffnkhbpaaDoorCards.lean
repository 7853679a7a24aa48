/-
  DERIVED. GIVEN WITH THE SEED: THE CARDS: each row of YtkaejoffnkhbpaaDoorRows.lean that lists a variable, with what it lists TIED to the program's text (the seventh form; the later family's looks); each row that meets fmt, with fmt's text TOLD by the authors' own Lean function (tested against real Go, not proved from fmt's source: count such statements apart). THE CARD IS WHAT COUNTS. Prove the row's statement (the work); the ties are given (YtkaejoffnkhbpaaDoorTie.lean); close each card by the builder's one call (the guide's Derived/Test/ToyasCard.lean, 'card_holds'). Laid BY PROGRAM, IN A SANDBOX (cutbox-door.mjs). By AI agents, Wed Nov 11 2026. No macro, syntax, notation, axiom, sorry.
-/
import Derived.Test.YtkaejoffnkhbpaaDoorRows
import GoSem.ClaimSeven
namespace Go.Proofs.YtkaejoffnkhbpaaDoor
namespace Rows

/-- THE TIED CARD OF 'trellislaw8.WordsSpell'. -/
def wordsSpellCard : Claim7 := { stood := { row := wordsSpellRow, standIns := [], harness := (true, "6859d00eb745843a267b1c4f67ed0b26782130d51cc095852bb8ae43189e9f73"), looks := false }, kinds := [], alts := [], laidByText := true, laidKinds := [.data, .data, .data], laidTests := true, laidLooks := .later }
def WordsSpellCardSaid : Prop := Claim7.holds Tryd.pinned (.plain (OpenSpec.ofChange wordsSpellSpec)) wordsSpellCard

/-- THE TIED CARD OF 'trellislaw8.WordsBack'. -/
def wordsBackCard : Claim7 := { stood := { row := wordsBackRow, standIns := [], harness := (true, "6859d00eb745843a267b1c4f67ed0b26782130d51cc095852bb8ae43189e9f73"), looks := false }, kinds := [], alts := [], laidByText := true, laidKinds := [.data, .data, .data], laidTests := true, laidLooks := .later }
def WordsBackCardSaid : Prop := Claim7.holds Tryd.pinned (.plain (OpenSpec.ofChange wordsBackSpec)) wordsBackCard

/-- THE TIED CARD OF 'trellislaw8.WordsCanon'. -/
def wordsCanonCard : Claim7 := { stood := { row := wordsCanonRow, standIns := [], harness := (true, "6859d00eb745843a267b1c4f67ed0b26782130d51cc095852bb8ae43189e9f73"), looks := false }, kinds := [], alts := [], laidByText := true, laidKinds := [.data, .data, .data], laidTests := true, laidLooks := .later }
def WordsCanonCardSaid : Prop := Claim7.holds Tryd.pinned (.plain (OpenSpec.ofChange wordsCanonSpec)) wordsCanonCard

/-- THE TIED CARD OF 'trellislaw8.WordsApart'. -/
def wordsApartCard : Claim7 := { stood := { row := wordsApartRow, standIns := [], harness := (true, "6859d00eb745843a267b1c4f67ed0b26782130d51cc095852bb8ae43189e9f73"), looks := false }, kinds := [], alts := [], laidByText := true, laidKinds := [.data, .data, .data], laidTests := true, laidLooks := .later }
def WordsApartCardSaid : Prop := Claim7.holds Tryd.pinned (.plain (OpenSpec.ofChange wordsApartSpec)) wordsApartCard

/-- THE TIED CARD OF 'trellislaw8.WordsPlaces'. -/
def wordsPlacesCard : Claim7 := { stood := { row := wordsPlacesRow, standIns := [], harness := (true, "6859d00eb745843a267b1c4f67ed0b26782130d51cc095852bb8ae43189e9f73"), looks := false }, kinds := [], alts := [], laidByText := true, laidKinds := [.data, .data, .data], laidTests := true, laidLooks := .later }
def WordsPlacesCardSaid : Prop := Claim7.holds Tryd.pinned (.plain (OpenSpec.ofChange wordsPlacesSpec)) wordsPlacesCard

/-- THE SECOND FORM's CARD OF 'trellislaw8.WordsSpell'. -/
def wordsSpellUptoCard : Claim7 := { stood := { row := wordsSpellUptoRow, standIns := [], harness := (true, "6859d00eb745843a267b1c4f67ed0b26782130d51cc095852bb8ae43189e9f73"), looks := false }, kinds := [], alts := [], laidByText := true, laidKinds := [.data, .data, .data], laidTests := true, laidLooks := .later }
def WordsSpellUptoCardSaid : Prop := Claim7.holds Tryd.pinned (.plain (OpenSpec.upto wordsSpellSpec)) wordsSpellUptoCard

/-- THE SECOND FORM's CARD OF 'trellislaw8.WordsBack'. -/
def wordsBackUptoCard : Claim7 := { stood := { row := wordsBackUptoRow, standIns := [], harness := (true, "6859d00eb745843a267b1c4f67ed0b26782130d51cc095852bb8ae43189e9f73"), looks := false }, kinds := [], alts := [], laidByText := true, laidKinds := [.data, .data, .data], laidTests := true, laidLooks := .later }
def WordsBackUptoCardSaid : Prop := Claim7.holds Tryd.pinned (.plain (OpenSpec.upto wordsBackSpec)) wordsBackUptoCard

/-- THE SECOND FORM's CARD OF 'trellislaw8.WordsCanon'. -/
def wordsCanonUptoCard : Claim7 := { stood := { row := wordsCanonUptoRow, standIns := [], harness := (true, "6859d00eb745843a267b1c4f67ed0b26782130d51cc095852bb8ae43189e9f73"), looks := false }, kinds := [], alts := [], laidByText := true, laidKinds := [.data, .data, .data], laidTests := true, laidLooks := .later }
def WordsCanonUptoCardSaid : Prop := Claim7.holds Tryd.pinned (.plain (OpenSpec.upto wordsCanonSpec)) wordsCanonUptoCard

/-- THE SECOND FORM's CARD OF 'trellislaw8.WordsApart'. -/
def wordsApartUptoCard : Claim7 := { stood := { row := wordsApartUptoRow, standIns := [], harness := (true, "6859d00eb745843a267b1c4f67ed0b26782130d51cc095852bb8ae43189e9f73"), looks := false }, kinds := [], alts := [], laidByText := true, laidKinds := [.data, .data, .data], laidTests := true, laidLooks := .later }
def WordsApartUptoCardSaid : Prop := Claim7.holds Tryd.pinned (.plain (OpenSpec.upto wordsApartSpec)) wordsApartUptoCard

/-- THE SECOND FORM's CARD OF 'trellislaw8.WordsPlaces'. -/
def wordsPlacesUptoCard : Claim7 := { stood := { row := wordsPlacesUptoRow, standIns := [], harness := (true, "6859d00eb745843a267b1c4f67ed0b26782130d51cc095852bb8ae43189e9f73"), looks := false }, kinds := [], alts := [], laidByText := true, laidKinds := [.data, .data, .data], laidTests := true, laidLooks := .later }
def WordsPlacesUptoCardSaid : Prop := Claim7.holds Tryd.pinned (.plain (OpenSpec.upto wordsPlacesSpec)) wordsPlacesUptoCard
end Rows
end Go.Proofs.YtkaejoffnkhbpaaDoor
