/-
  No cell of these rows narrows 'for every input' (looked for: loops, veiled, ifaces, maps, wideKeys, modest, calm, conditions, laid).
  DERIVED. THE GIVEN ROWS OF THIS SEAT. 6 by the template 'for every input the law returns true; each argument reads behind the call as it read before'; 0 by the template 'total and deterministic' (their statements: YtoifgnogoddmlaaTotals.lean).
  GIVEN WITH THE SEED: the statements are not yours to turn. If you find one false, say at which input.
  Laid BY PROGRAM, IN A SANDBOX (cutbox-rows.mjs): the forced cells as the released guide's own fill.sh prints them over the translation a468b5db830aba94… (all of the seat's roots in one cut). By AI agents, Wed Nov 11 2026. No macro, syntax, notation, axiom, sorry.
-/
import Derived.Test.YtoifgnogoddmlaaChecked
import GoSem.Claim
import GoSem.ClaimJoined
import GoSem.ClaimMapViews
import Derived.JoinedTies
import Derived.KernelRfl
namespace Go.Proofs.Ytoifgnogoddmlaa
/- THE CELL 'sum', in the pinned program and in every row, IS THE sha256 OF THE DUMP (.gsa) THAT YtoifgnogoddmlaaProg.lean LOADS. Nothing in Lean hashes anything: it is a label: what it is worth is what the hold of that sum in a sandbox is worth. -/
noncomputable def Try.pinned : Pinned := { name := "ytoifgnogoddmlaa", sum := "a468b5db830aba94c78d3e8b379be3adb5b382e44080458448d36c3b16a3979a", checked := Try.checked }
namespace Rows
def none {H : Type} : Left H := { results := [], args := [] }

/-- 'trellislaw32.ChooseGrows': WHATEVER THE INPUT: true; the input reads as it did. -/
def chooseGrowsSpec : ChangeSpec := { name := "chooseGrows", fn := fun _ => fun
  | [d1, d2] => { results := [.lit (.bool true)], args := [d1, d2] }
  | _ => none }
def chooseGrowsRow : OpenClaim := { program := "ytoifgnogoddmlaa", sum := "a468b5db830aba94c78d3e8b379be3adb5b382e44080458448d36c3b16a3979a", func := "trellis/trellislaw32.ChooseGrows", spec := "chooseGrows", unfollowed := true, recurses := true, apart := false }
def ChooseGrowsSaid : Prop := chooseGrowsRow.holds Try.pinned (OpenSpec.ofChange chooseGrowsSpec)

/-- ITS FALSE NEIGHBOUR: 'it returns false'. Refute it at one input. -/
def chooseGrowsWrong : ChangeSpec := { name := "chooseGrows", fn := fun _ => fun
  | [d1, d2] => { results := [.lit (.bool false)], args := [d1, d2] }
  | _ => none }
def ChooseGrowsWrongFalsely : Prop := chooseGrowsRow.holds Try.pinned (OpenSpec.ofChange chooseGrowsWrong)

/-- 'trellislaw32.ChooseWalks': WHATEVER THE INPUT: true; the input reads as it did. -/
def chooseWalksSpec : ChangeSpec := { name := "chooseWalks", fn := fun _ => fun
  | [d1, d2, d3] => { results := [.lit (.bool true)], args := [d1, d2, d3] }
  | _ => none }
def chooseWalksRow : OpenClaim := { program := "ytoifgnogoddmlaa", sum := "a468b5db830aba94c78d3e8b379be3adb5b382e44080458448d36c3b16a3979a", func := "trellis/trellislaw32.ChooseWalks", spec := "chooseWalks", recurses := true, apart := false }
def ChooseWalksSaid : Prop := chooseWalksRow.holds Try.pinned (OpenSpec.ofChange chooseWalksSpec)

/-- ITS FALSE NEIGHBOUR: 'it returns false'. Refute it at one input. -/
def chooseWalksWrong : ChangeSpec := { name := "chooseWalks", fn := fun _ => fun
  | [d1, d2, d3] => { results := [.lit (.bool false)], args := [d1, d2, d3] }
  | _ => none }
def ChooseWalksWrongFalsely : Prop := chooseWalksRow.holds Try.pinned (OpenSpec.ofChange chooseWalksWrong)

/-- 'trellislaw32.ChooseMore': WHATEVER THE INPUT: true; the input reads as it did. -/
def chooseMoreSpec : ChangeSpec := { name := "chooseMore", fn := fun _ => fun
  | [d1, d2] => { results := [.lit (.bool true)], args := [d1, d2] }
  | _ => none }
def chooseMoreRow : OpenClaim := { program := "ytoifgnogoddmlaa", sum := "a468b5db830aba94c78d3e8b379be3adb5b382e44080458448d36c3b16a3979a", func := "trellis/trellislaw32.ChooseMore", spec := "chooseMore", unfollowed := true, recurses := true, apart := false }
def ChooseMoreSaid : Prop := chooseMoreRow.holds Try.pinned (OpenSpec.ofChange chooseMoreSpec)

/-- ITS FALSE NEIGHBOUR: 'it returns false'. Refute it at one input. -/
def chooseMoreWrong : ChangeSpec := { name := "chooseMore", fn := fun _ => fun
  | [d1, d2] => { results := [.lit (.bool false)], args := [d1, d2] }
  | _ => none }
def ChooseMoreWrongFalsely : Prop := chooseMoreRow.holds Try.pinned (OpenSpec.ofChange chooseMoreWrong)

/-- 'trellislaw32.ChooseInner': WHATEVER THE INPUT: true; the input reads as it did. -/
def chooseInnerSpec : ChangeSpec := { name := "chooseInner", fn := fun _ => fun
  | [d1, d2] => { results := [.lit (.bool true)], args := [d1, d2] }
  | _ => none }
def chooseInnerRow : OpenClaim := { program := "ytoifgnogoddmlaa", sum := "a468b5db830aba94c78d3e8b379be3adb5b382e44080458448d36c3b16a3979a", func := "trellis/trellislaw32.ChooseInner", spec := "chooseInner", unfollowed := true, recurses := true, apart := false }
def ChooseInnerSaid : Prop := chooseInnerRow.holds Try.pinned (OpenSpec.ofChange chooseInnerSpec)

/-- ITS FALSE NEIGHBOUR: 'it returns false'. Refute it at one input. -/
def chooseInnerWrong : ChangeSpec := { name := "chooseInner", fn := fun _ => fun
  | [d1, d2] => { results := [.lit (.bool false)], args := [d1, d2] }
  | _ => none }
def ChooseInnerWrongFalsely : Prop := chooseInnerRow.holds Try.pinned (OpenSpec.ofChange chooseInnerWrong)

/-- 'trellislaw32.ChoosePairs': WHATEVER THE INPUT: true; the input reads as it did. -/
def choosePairsSpec : ChangeSpec := { name := "choosePairs", fn := fun _ => fun
  | [d1, d2] => { results := [.lit (.bool true)], args := [d1, d2] }
  | _ => none }
def choosePairsRow : OpenClaim := { program := "ytoifgnogoddmlaa", sum := "a468b5db830aba94c78d3e8b379be3adb5b382e44080458448d36c3b16a3979a", func := "trellis/trellislaw32.ChoosePairs", spec := "choosePairs", unfollowed := true, recurses := true, apart := false }
def ChoosePairsSaid : Prop := choosePairsRow.holds Try.pinned (OpenSpec.ofChange choosePairsSpec)

/-- ITS FALSE NEIGHBOUR: 'it returns false'. Refute it at one input. -/
def choosePairsWrong : ChangeSpec := { name := "choosePairs", fn := fun _ => fun
  | [d1, d2] => { results := [.lit (.bool false)], args := [d1, d2] }
  | _ => none }
def ChoosePairsWrongFalsely : Prop := choosePairsRow.holds Try.pinned (OpenSpec.ofChange choosePairsWrong)

/-- 'trellislaw32.ChooseSides': WHATEVER THE INPUT: true; the input reads as it did. -/
def chooseSidesSpec : ChangeSpec := { name := "chooseSides", fn := fun _ => fun
  | [d1, d2, d3] => { results := [.lit (.bool true)], args := [d1, d2, d3] }
  | _ => none }
def chooseSidesRow : OpenClaim := { program := "ytoifgnogoddmlaa", sum := "a468b5db830aba94c78d3e8b379be3adb5b382e44080458448d36c3b16a3979a", func := "trellis/trellislaw32.ChooseSides", spec := "chooseSides", unfollowed := true, recurses := true, apart := false }
def ChooseSidesSaid : Prop := chooseSidesRow.holds Try.pinned (OpenSpec.ofChange chooseSidesSpec)

/-- ITS FALSE NEIGHBOUR: 'it returns false'. Refute it at one input. -/
def chooseSidesWrong : ChangeSpec := { name := "chooseSides", fn := fun _ => fun
  | [d1, d2, d3] => { results := [.lit (.bool false)], args := [d1, d2, d3] }
  | _ => none }
def ChooseSidesWrongFalsely : Prop := chooseSidesRow.holds Try.pinned (OpenSpec.ofChange chooseSidesWrong)

/- THE SECOND FORM. 'bulk': how many values and letters a reading holds, each counted each time it is reached (what is shared counts as often as it is met; a slice's spare places count too). A statement '..UptoSaid' is the law's where the arguments, and the package variables that the reading takes, are together of bulk at most 1048576: NARROWER than '..Said'. Prove '..Said' where nothing that the law and all that it calls make is longer than what came in: it says more and counts as full. Else prove '..UptoSaid'. A law counts once. -/
mutual
def uptoBulk {H : Type} : DataW H → Nat
  | .lit (.string bytes) => bytes.length + 1
  | .lit _ => 1
  | .nil => 1
  | .ptr d => uptoBulk d + 1
  | .slice elems spare => uptoBulkAll elems + uptoBulkAll spare + 1
  | .agg parts => uptoBulkAll parts + 1
  | .iface _ d => uptoBulk d + 1
  | .map entries => uptoBulkEntries entries + 1
  | .held _ => 1
def uptoBulkAll {H : Type} : List (DataW H) → Nat
  | [] => 0
  | d :: r => uptoBulk d + uptoBulkAll r
def uptoBulkEntries {H : Type} : List (Lit × DataW H) → Nat
  | [] => 0
  | x :: r => uptoBulkEntry x + uptoBulkEntries r
def uptoBulkEntry {H : Type} : Lit × DataW H → Nat
  | (.string bytes, d) => bytes.length + uptoBulk d + 1
  | (_, d) => uptoBulk d + 1
 end
def uptoSmall : (H : Type) → List (DataW H) → Bool := fun _ ds => decide (uptoBulkAll ds ≤ 1048576)
def OpenSpec.upto (s : _root_.Go.ChangeSpec) : _root_.Go.OpenSpec := { _root_.Go.OpenSpec.ofChange s with cond := some uptoSmall }

/-- 'trellislaw32.ChooseGrows', WHERE WHAT IT READS IS OF BULK AT MOST 1048576: true; the input reads as it did. -/
def chooseGrowsUptoRow : OpenClaim := { program := "ytoifgnogoddmlaa", sum := "a468b5db830aba94c78d3e8b379be3adb5b382e44080458448d36c3b16a3979a", func := "trellis/trellislaw32.ChooseGrows", spec := "chooseGrows", unfollowed := true, recurses := true, apart := false, narrowed := true }
def ChooseGrowsUptoSaid : Prop := chooseGrowsUptoRow.holds Try.pinned (OpenSpec.upto chooseGrowsSpec)

/-- 'trellislaw32.ChooseWalks', WHERE WHAT IT READS IS OF BULK AT MOST 1048576: true; the input reads as it did. -/
def chooseWalksUptoRow : OpenClaim := { program := "ytoifgnogoddmlaa", sum := "a468b5db830aba94c78d3e8b379be3adb5b382e44080458448d36c3b16a3979a", func := "trellis/trellislaw32.ChooseWalks", spec := "chooseWalks", recurses := true, apart := false, narrowed := true }
def ChooseWalksUptoSaid : Prop := chooseWalksUptoRow.holds Try.pinned (OpenSpec.upto chooseWalksSpec)

/-- 'trellislaw32.ChooseMore', WHERE WHAT IT READS IS OF BULK AT MOST 1048576: true; the input reads as it did. -/
def chooseMoreUptoRow : OpenClaim := { program := "ytoifgnogoddmlaa", sum := "a468b5db830aba94c78d3e8b379be3adb5b382e44080458448d36c3b16a3979a", func := "trellis/trellislaw32.ChooseMore", spec := "chooseMore", unfollowed := true, recurses := true, apart := false, narrowed := true }
def ChooseMoreUptoSaid : Prop := chooseMoreUptoRow.holds Try.pinned (OpenSpec.upto chooseMoreSpec)

/-- 'trellislaw32.ChooseInner', WHERE WHAT IT READS IS OF BULK AT MOST 1048576: true; the input reads as it did. -/
def chooseInnerUptoRow : OpenClaim := { program := "ytoifgnogoddmlaa", sum := "a468b5db830aba94c78d3e8b379be3adb5b382e44080458448d36c3b16a3979a", func := "trellis/trellislaw32.ChooseInner", spec := "chooseInner", unfollowed := true, recurses := true, apart := false, narrowed := true }
def ChooseInnerUptoSaid : Prop := chooseInnerUptoRow.holds Try.pinned (OpenSpec.upto chooseInnerSpec)

/-- 'trellislaw32.ChoosePairs', WHERE WHAT IT READS IS OF BULK AT MOST 1048576: true; the input reads as it did. -/
def choosePairsUptoRow : OpenClaim := { program := "ytoifgnogoddmlaa", sum := "a468b5db830aba94c78d3e8b379be3adb5b382e44080458448d36c3b16a3979a", func := "trellis/trellislaw32.ChoosePairs", spec := "choosePairs", unfollowed := true, recurses := true, apart := false, narrowed := true }
def ChoosePairsUptoSaid : Prop := choosePairsUptoRow.holds Try.pinned (OpenSpec.upto choosePairsSpec)

/-- 'trellislaw32.ChooseSides', WHERE WHAT IT READS IS OF BULK AT MOST 1048576: true; the input reads as it did. -/
def chooseSidesUptoRow : OpenClaim := { program := "ytoifgnogoddmlaa", sum := "a468b5db830aba94c78d3e8b379be3adb5b382e44080458448d36c3b16a3979a", func := "trellis/trellislaw32.ChooseSides", spec := "chooseSides", unfollowed := true, recurses := true, apart := false, narrowed := true }
def ChooseSidesUptoSaid : Prop := chooseSidesUptoRow.holds Try.pinned (OpenSpec.upto chooseSidesSpec)

end Rows
end Go.Proofs.Ytoifgnogoddmlaa
