/-
  No cell of these rows narrows 'for every input' (looked for: loops, veiled, ifaces, maps, wideKeys, modest, calm, conditions, laid).
  DERIVED. THE GIVEN ROWS OF THIS SEAT. 5 by the template 'for every input the law returns true; each argument reads behind the call as it read before'; 0 by the template 'total and deterministic' (their statements: YtelafghkjlpojaaTotals.lean).
  GIVEN WITH THE SEED: the statements are not yours to turn. If you find one false, say at which input.
  Laid BY PROGRAM, IN A SANDBOX (cutbox-rows.mjs): the forced cells as the released guide's own fill.sh prints them over the translation 05da16dc55d646c3… (all of the seat's roots in one cut). By AI agents, Wed Nov 11 2026. No macro, syntax, notation, axiom, sorry.
-/
import Derived.Test.YtelafghkjlpojaaChecked
import GoSem.Claim
import GoSem.ClaimJoined
import GoSem.ClaimMapViews
import Derived.JoinedTies
import Derived.KernelRfl
namespace Go.Proofs.Ytelafghkjlpojaa
/- THE CELL 'sum', in the pinned program and in every row, IS THE sha256 OF THE DUMP (.gsa) THAT YtelafghkjlpojaaProg.lean LOADS. Nothing in Lean hashes anything: it is a label: what it is worth is what the hold of that sum in a sandbox is worth. -/
noncomputable def Try.pinned : Pinned := { name := "ytelafghkjlpojaa", sum := "05da16dc55d646c331cd458389d74b3aed1c313a3382a584f494cacc6c2095ee", checked := Try.checked }
namespace Rows
def none {H : Type} : Left H := { results := [], args := [] }

/-- 'trellislaw11.FirstOf': WHATEVER THE INPUT: true; the input reads as it did. -/
def firstOfSpec : ChangeSpec := { name := "firstOf", fn := fun _ => fun
  | [d1, d2, d3] => { results := [.lit (.bool true)], args := [d1, d2, d3] }
  | _ => none }
def firstOfRow : OpenClaim := { program := "ytelafghkjlpojaa", sum := "05da16dc55d646c331cd458389d74b3aed1c313a3382a584f494cacc6c2095ee", func := "trellis/trellislaw11.FirstOf", spec := "firstOf", recurses := true, apart := false }
def FirstOfSaid : Prop := firstOfRow.holds Try.pinned (OpenSpec.ofChange firstOfSpec)

/-- ITS FALSE NEIGHBOUR: 'it returns false'. Refute it at one input. -/
def firstOfWrong : ChangeSpec := { name := "firstOf", fn := fun _ => fun
  | [d1, d2, d3] => { results := [.lit (.bool false)], args := [d1, d2, d3] }
  | _ => none }
def FirstOfWrongFalsely : Prop := firstOfRow.holds Try.pinned (OpenSpec.ofChange firstOfWrong)

/-- 'trellislaw11.FirstSolves': WHATEVER THE INPUT: true; the input reads as it did. -/
def firstSolvesSpec : ChangeSpec := { name := "firstSolves", fn := fun _ => fun
  | [d] => { results := [.lit (.bool true)], args := [d] }
  | _ => none }
def firstSolvesRow : OpenClaim := { program := "ytelafghkjlpojaa", sum := "05da16dc55d646c331cd458389d74b3aed1c313a3382a584f494cacc6c2095ee", func := "trellis/trellislaw11.FirstSolves", spec := "firstSolves", recurses := true, apart := false }
def FirstSolvesSaid : Prop := firstSolvesRow.holds Try.pinned (OpenSpec.ofChange firstSolvesSpec)

/-- ITS FALSE NEIGHBOUR: 'it returns false'. Refute it at one input. -/
def firstSolvesWrong : ChangeSpec := { name := "firstSolves", fn := fun _ => fun
  | [d] => { results := [.lit (.bool false)], args := [d] }
  | _ => none }
def FirstSolvesWrongFalsely : Prop := firstSolvesRow.holds Try.pinned (OpenSpec.ofChange firstSolvesWrong)

/-- 'trellislaw11.FirstLeast': WHATEVER THE INPUT: true; the input reads as it did. -/
def firstLeastSpec : ChangeSpec := { name := "firstLeast", fn := fun _ => fun
  | [d1, d2, d3] => { results := [.lit (.bool true)], args := [d1, d2, d3] }
  | _ => none }
def firstLeastRow : OpenClaim := { program := "ytelafghkjlpojaa", sum := "05da16dc55d646c331cd458389d74b3aed1c313a3382a584f494cacc6c2095ee", func := "trellis/trellislaw11.FirstLeast", spec := "firstLeast", apart := false }
def FirstLeastSaid : Prop := firstLeastRow.holds Try.pinned (OpenSpec.ofChange firstLeastSpec)

/-- ITS FALSE NEIGHBOUR: 'it returns false'. Refute it at one input. -/
def firstLeastWrong : ChangeSpec := { name := "firstLeast", fn := fun _ => fun
  | [d1, d2, d3] => { results := [.lit (.bool false)], args := [d1, d2, d3] }
  | _ => none }
def FirstLeastWrongFalsely : Prop := firstLeastRow.holds Try.pinned (OpenSpec.ofChange firstLeastWrong)

/-- 'trellislaw11.FirstDerives': WHATEVER THE INPUT: true; the input reads as it did. -/
def firstDerivesSpec : ChangeSpec := { name := "firstDerives", fn := fun _ => fun
  | [d1, d2, d3, d4] => { results := [.lit (.bool true)], args := [d1, d2, d3, d4] }
  | _ => none }
def firstDerivesRow : OpenClaim := { program := "ytelafghkjlpojaa", sum := "05da16dc55d646c331cd458389d74b3aed1c313a3382a584f494cacc6c2095ee", func := "trellis/trellislaw11.FirstDerives", spec := "firstDerives", apart := false }
def FirstDerivesSaid : Prop := firstDerivesRow.holds Try.pinned (OpenSpec.ofChange firstDerivesSpec)

/-- ITS FALSE NEIGHBOUR: 'it returns false'. Refute it at one input. -/
def firstDerivesWrong : ChangeSpec := { name := "firstDerives", fn := fun _ => fun
  | [d1, d2, d3, d4] => { results := [.lit (.bool false)], args := [d1, d2, d3, d4] }
  | _ => none }
def FirstDerivesWrongFalsely : Prop := firstDerivesRow.holds Try.pinned (OpenSpec.ofChange firstDerivesWrong)

/-- 'trellislaw11.FirstCuts': WHATEVER THE INPUT: true; the input reads as it did. -/
def firstCutsSpec : ChangeSpec := { name := "firstCuts", fn := fun _ => fun
  | [d1, d2, d3, d4] => { results := [.lit (.bool true)], args := [d1, d2, d3, d4] }
  | _ => none }
def firstCutsRow : OpenClaim := { program := "ytelafghkjlpojaa", sum := "05da16dc55d646c331cd458389d74b3aed1c313a3382a584f494cacc6c2095ee", func := "trellis/trellislaw11.FirstCuts", spec := "firstCuts", apart := false }
def FirstCutsSaid : Prop := firstCutsRow.holds Try.pinned (OpenSpec.ofChange firstCutsSpec)

/-- ITS FALSE NEIGHBOUR: 'it returns false'. Refute it at one input. -/
def firstCutsWrong : ChangeSpec := { name := "firstCuts", fn := fun _ => fun
  | [d1, d2, d3, d4] => { results := [.lit (.bool false)], args := [d1, d2, d3, d4] }
  | _ => none }
def FirstCutsWrongFalsely : Prop := firstCutsRow.holds Try.pinned (OpenSpec.ofChange firstCutsWrong)

/- THE SECOND FORM. 'bulk': how many values and letters a reading holds, each counted each time it is reached (what is shared counts as often as it is met; a slice's spare places count too). A statement '..UptoSaid' is the law's where the arguments, and the package variables that the reading takes, are together of bulk at most 1048576: NARROWER than '..Said'. Prove '..Said' where nothing that the law and all that it calls make is longer than what came in: it says more and counts as full. Else prove '..UptoSaid'. A law counts once. -/
mutual
def uptoBulk {H : Type} : DataW H → Nat
  | .lit (.string bytes) => bytes.length + 1
  | .lit _ => 1
  | .nil => 1
  | .ptr d => uptoBulk d + 1
  | .slice elems spare => uptoBulkAll elems + uptoBulkAll spare + 1
  | .agg parts => uptoBulkAll parts + 1
  | .iface _ d => uptoBulk d + 1
  | .map entries => uptoBulkEntries entries + 1
  | .held _ => 1
def uptoBulkAll {H : Type} : List (DataW H) → Nat
  | [] => 0
  | d :: r => uptoBulk d + uptoBulkAll r
def uptoBulkEntries {H : Type} : List (Lit × DataW H) → Nat
  | [] => 0
  | x :: r => uptoBulkEntry x + uptoBulkEntries r
def uptoBulkEntry {H : Type} : Lit × DataW H → Nat
  | (.string bytes, d) => bytes.length + uptoBulk d + 1
  | (_, d) => uptoBulk d + 1
 end
def uptoSmall : (H : Type) → List (DataW H) → Bool := fun _ ds => decide (uptoBulkAll ds ≤ 1048576)
def OpenSpec.upto (s : _root_.Go.ChangeSpec) : _root_.Go.OpenSpec := { _root_.Go.OpenSpec.ofChange s with cond := some uptoSmall }

/-- 'trellislaw11.FirstOf', WHERE WHAT IT READS IS OF BULK AT MOST 1048576: true; the input reads as it did. -/
def firstOfUptoRow : OpenClaim := { program := "ytelafghkjlpojaa", sum := "05da16dc55d646c331cd458389d74b3aed1c313a3382a584f494cacc6c2095ee", func := "trellis/trellislaw11.FirstOf", spec := "firstOf", recurses := true, apart := false, narrowed := true }
def FirstOfUptoSaid : Prop := firstOfUptoRow.holds Try.pinned (OpenSpec.upto firstOfSpec)

/-- 'trellislaw11.FirstSolves', WHERE WHAT IT READS IS OF BULK AT MOST 1048576: true; the input reads as it did. -/
def firstSolvesUptoRow : OpenClaim := { program := "ytelafghkjlpojaa", sum := "05da16dc55d646c331cd458389d74b3aed1c313a3382a584f494cacc6c2095ee", func := "trellis/trellislaw11.FirstSolves", spec := "firstSolves", recurses := true, apart := false, narrowed := true }
def FirstSolvesUptoSaid : Prop := firstSolvesUptoRow.holds Try.pinned (OpenSpec.upto firstSolvesSpec)

/-- 'trellislaw11.FirstLeast', WHERE WHAT IT READS IS OF BULK AT MOST 1048576: true; the input reads as it did. -/
def firstLeastUptoRow : OpenClaim := { program := "ytelafghkjlpojaa", sum := "05da16dc55d646c331cd458389d74b3aed1c313a3382a584f494cacc6c2095ee", func := "trellis/trellislaw11.FirstLeast", spec := "firstLeast", apart := false, narrowed := true }
def FirstLeastUptoSaid : Prop := firstLeastUptoRow.holds Try.pinned (OpenSpec.upto firstLeastSpec)

/-- 'trellislaw11.FirstDerives', WHERE WHAT IT READS IS OF BULK AT MOST 1048576: true; the input reads as it did. -/
def firstDerivesUptoRow : OpenClaim := { program := "ytelafghkjlpojaa", sum := "05da16dc55d646c331cd458389d74b3aed1c313a3382a584f494cacc6c2095ee", func := "trellis/trellislaw11.FirstDerives", spec := "firstDerives", apart := false, narrowed := true }
def FirstDerivesUptoSaid : Prop := firstDerivesUptoRow.holds Try.pinned (OpenSpec.upto firstDerivesSpec)

/-- 'trellislaw11.FirstCuts', WHERE WHAT IT READS IS OF BULK AT MOST 1048576: true; the input reads as it did. -/
def firstCutsUptoRow : OpenClaim := { program := "ytelafghkjlpojaa", sum := "05da16dc55d646c331cd458389d74b3aed1c313a3382a584f494cacc6c2095ee", func := "trellis/trellislaw11.FirstCuts", spec := "firstCuts", apart := false, narrowed := true }
def FirstCutsUptoSaid : Prop := firstCutsUptoRow.holds Try.pinned (OpenSpec.upto firstCutsSpec)

end Rows
end Go.Proofs.Ytelafghkjlpojaa
