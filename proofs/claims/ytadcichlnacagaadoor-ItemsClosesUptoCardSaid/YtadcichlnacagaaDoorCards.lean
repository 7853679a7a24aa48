/-
  DERIVED. GIVEN WITH THE SEED: THE CARDS: each row of YtadcichlnacagaaDoorRows.lean that lists a variable, with what it lists TIED to the program's text (the seventh form; the later family's looks); each row that meets fmt, with fmt's text TOLD by the authors' own Lean function (tested against real Go, not proved from fmt's source: count such statements apart). THE CARD IS WHAT COUNTS. Prove the row's statement (the work); the ties are given (YtadcichlnacagaaDoorTie.lean); close each card by the builder's one call (the guide's Derived/Test/ToyasCard.lean, 'card_holds'). Laid BY PROGRAM, IN A SANDBOX (cutbox-door.mjs). By AI agents, Wed Nov 11 2026. No macro, syntax, notation, axiom, sorry.
-/
import Derived.Test.YtadcichlnacagaaDoorRows
import GoSem.ClaimSeven
namespace Go.Proofs.YtadcichlnacagaaDoor
namespace Rows

/-- THE TIED CARD OF 'trellislaw12.ItemsCloses'. -/
def itemsClosesCard : Claim7 := { stood := { row := itemsClosesRow, standIns := [], harness := (true, "7dfd850a888110bc690a38a415b3815eb1ed7eda9fc09bf06f2e14f82e764881"), looks := false }, kinds := [], alts := [], laidByText := true, laidKinds := [.data], laidTests := true, laidLooks := .later }
def ItemsClosesCardSaid : Prop := Claim7.holds Tryd.pinned (.plain (OpenSpec.ofChange itemsClosesSpec)) itemsClosesCard

/-- THE TIED CARD OF 'trellislaw12.ItemsSets'. -/
def itemsSetsCard : Claim7 := { stood := { row := itemsSetsRow, standIns := [], harness := (true, "7dfd850a888110bc690a38a415b3815eb1ed7eda9fc09bf06f2e14f82e764881"), looks := false }, kinds := [], alts := [], laidByText := true, laidKinds := [.data, .data, .data], laidTests := true, laidLooks := .later }
def ItemsSetsCardSaid : Prop := Claim7.holds Tryd.pinned (.plain (OpenSpec.ofChange itemsSetsSpec)) itemsSetsCard

/-- THE TIED CARD OF 'trellislaw12.ItemsGrow'. -/
def itemsGrowCard : Claim7 := { stood := { row := itemsGrowRow, standIns := [], harness := (true, "7dfd850a888110bc690a38a415b3815eb1ed7eda9fc09bf06f2e14f82e764881"), looks := false }, kinds := [], alts := [], laidByText := true, laidKinds := [.data, .data, .data], laidTests := true, laidLooks := .later }
def ItemsGrowCardSaid : Prop := Claim7.holds Tryd.pinned (.plain (OpenSpec.ofChange itemsGrowSpec)) itemsGrowCard

/-- THE TIED CARD OF 'trellislaw12.ItemsClosed'. -/
def itemsClosedCard : Claim7 := { stood := { row := itemsClosedRow, standIns := [], harness := (true, "7dfd850a888110bc690a38a415b3815eb1ed7eda9fc09bf06f2e14f82e764881"), looks := false }, kinds := [], alts := [], laidByText := true, laidKinds := [.data, .data, .data], laidTests := true, laidLooks := .later }
def ItemsClosedCardSaid : Prop := Claim7.holds Tryd.pinned (.plain (OpenSpec.ofChange itemsClosedSpec)) itemsClosedCard

/-- THE TIED CARD OF 'trellislaw12.ItemsFresh'. -/
def itemsFreshCard : Claim7 := { stood := { row := itemsFreshRow, standIns := [], harness := (true, "7dfd850a888110bc690a38a415b3815eb1ed7eda9fc09bf06f2e14f82e764881"), looks := false }, kinds := [], alts := [], laidByText := true, laidKinds := [.data, .data, .data], laidTests := true, laidLooks := .later }
def ItemsFreshCardSaid : Prop := Claim7.holds Tryd.pinned (.plain (OpenSpec.ofChange itemsFreshSpec)) itemsFreshCard

/-- THE TIED CARD OF 'trellislaw12.ItemsMean'. -/
def itemsMeanCard : Claim7 := { stood := { row := itemsMeanRow, standIns := [], harness := (true, "7dfd850a888110bc690a38a415b3815eb1ed7eda9fc09bf06f2e14f82e764881"), looks := false }, kinds := [], alts := [], laidByText := true, laidKinds := [.data, .data, .data], laidTests := true, laidLooks := .later }
def ItemsMeanCardSaid : Prop := Claim7.holds Tryd.pinned (.plain (OpenSpec.ofChange itemsMeanSpec)) itemsMeanCard

/-- THE SECOND FORM's CARD OF 'trellislaw12.ItemsCloses'. -/
def itemsClosesUptoCard : Claim7 := { stood := { row := itemsClosesUptoRow, standIns := [], harness := (true, "7dfd850a888110bc690a38a415b3815eb1ed7eda9fc09bf06f2e14f82e764881"), looks := false }, kinds := [], alts := [], laidByText := true, laidKinds := [.data], laidTests := true, laidLooks := .later }
def ItemsClosesUptoCardSaid : Prop := Claim7.holds Tryd.pinned (.plain (OpenSpec.upto itemsClosesSpec)) itemsClosesUptoCard

/-- THE SECOND FORM's CARD OF 'trellislaw12.ItemsSets'. -/
def itemsSetsUptoCard : Claim7 := { stood := { row := itemsSetsUptoRow, standIns := [], harness := (true, "7dfd850a888110bc690a38a415b3815eb1ed7eda9fc09bf06f2e14f82e764881"), looks := false }, kinds := [], alts := [], laidByText := true, laidKinds := [.data, .data, .data], laidTests := true, laidLooks := .later }
def ItemsSetsUptoCardSaid : Prop := Claim7.holds Tryd.pinned (.plain (OpenSpec.upto itemsSetsSpec)) itemsSetsUptoCard

/-- THE SECOND FORM's CARD OF 'trellislaw12.ItemsGrow'. -/
def itemsGrowUptoCard : Claim7 := { stood := { row := itemsGrowUptoRow, standIns := [], harness := (true, "7dfd850a888110bc690a38a415b3815eb1ed7eda9fc09bf06f2e14f82e764881"), looks := false }, kinds := [], alts := [], laidByText := true, laidKinds := [.data, .data, .data], laidTests := true, laidLooks := .later }
def ItemsGrowUptoCardSaid : Prop := Claim7.holds Tryd.pinned (.plain (OpenSpec.upto itemsGrowSpec)) itemsGrowUptoCard

/-- THE SECOND FORM's CARD OF 'trellislaw12.ItemsClosed'. -/
def itemsClosedUptoCard : Claim7 := { stood := { row := itemsClosedUptoRow, standIns := [], harness := (true, "7dfd850a888110bc690a38a415b3815eb1ed7eda9fc09bf06f2e14f82e764881"), looks := false }, kinds := [], alts := [], laidByText := true, laidKinds := [.data, .data, .data], laidTests := true, laidLooks := .later }
def ItemsClosedUptoCardSaid : Prop := Claim7.holds Tryd.pinned (.plain (OpenSpec.upto itemsClosedSpec)) itemsClosedUptoCard

/-- THE SECOND FORM's CARD OF 'trellislaw12.ItemsFresh'. -/
def itemsFreshUptoCard : Claim7 := { stood := { row := itemsFreshUptoRow, standIns := [], harness := (true, "7dfd850a888110bc690a38a415b3815eb1ed7eda9fc09bf06f2e14f82e764881"), looks := false }, kinds := [], alts := [], laidByText := true, laidKinds := [.data, .data, .data], laidTests := true, laidLooks := .later }
def ItemsFreshUptoCardSaid : Prop := Claim7.holds Tryd.pinned (.plain (OpenSpec.upto itemsFreshSpec)) itemsFreshUptoCard

/-- THE SECOND FORM's CARD OF 'trellislaw12.ItemsMean'. -/
def itemsMeanUptoCard : Claim7 := { stood := { row := itemsMeanUptoRow, standIns := [], harness := (true, "7dfd850a888110bc690a38a415b3815eb1ed7eda9fc09bf06f2e14f82e764881"), looks := false }, kinds := [], alts := [], laidByText := true, laidKinds := [.data, .data, .data], laidTests := true, laidLooks := .later }
def ItemsMeanUptoCardSaid : Prop := Claim7.holds Tryd.pinned (.plain (OpenSpec.upto itemsMeanSpec)) itemsMeanUptoCard
end Rows
end Go.Proofs.YtadcichlnacagaaDoor
