/- JSON: the laws that need the program's answers alone: started, JsonSpares, JsonInts. Condition: sizes. -/
import Derived.Test.YtmfopcbjgbphaaaDoorQ9
import Derived.Test.YtmfopcbjgbphaaaDoorQ12
import Derived.Lib.ItoaMem
import Derived.Lib.ItoaLen
set_option linter.unusedVariables false
namespace Go.Proofs.YtmfopcbjgbphaaaDoor.L
open Go.Proofs.YtmfopcbjgbphaaaDoor.B Go.Proofs.YtmfopcbjgbphaaaDoor.R
section
variable {v : List api_JNode}
end
abbrev m0 : api_JNode := ⟨7, ⟨#[]⟩, ⟨#[]⟩, 1⟩
abbrev m1 : api_JNode := ⟨6, ⟨#[97]⟩, ⟨#[]⟩, 2⟩
abbrev m2 : api_JNode := ⟨4, ⟨#[]⟩, ⟨#[49]⟩, 0⟩
abbrev m3 : api_JNode := ⟨5, ⟨#[]⟩, ⟨#[195, 169]⟩, 0⟩
abbrev v0 : List api_JNode := [m0, m1, m2, m3]
abbrev k0 : F := .cons m1 (.cons m2 .nil (.cons m3 .nil .nil)) .nil
theorem parse_len {s : ByteArray} : (parseR s (parseL (bsOf s))).1.length ≤ s.size := by
 unfold parseL
 have h1 := blL_len (bsOf s)
 rw [bsOf_len] at h1
 cases e : valN 0 ⟨#[]⟩ (blL (bsOf s)) with
 | no ee q => exact Nat.zero_le _
 | ok p q =>
  have h2 := valN_sz e
  dsimp only
  split
  ·show (flat (.cons p.1 p.2 .nil)).length ≤ _
   simp only [flat, List.append_nil, List.length_cons]
   omega
  ·exact Nat.zero_le _
end Go.Proofs.YtmfopcbjgbphaaaDoor.L
