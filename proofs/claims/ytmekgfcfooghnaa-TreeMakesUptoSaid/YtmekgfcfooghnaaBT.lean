/- Lemmas of my own on the machine: a row that is kept while it is appended to under another name. No condition. -/
import Derived.Test.YtmekgfcfooghnaaBF
set_option linter.unusedVariables false
set_option linter.unusedSimpArgs false
set_option linter.unusedSectionVars false
namespace Go.Proofs.Ytmekgfcfooghnaa.B
open Go.RowKit
section tw
variable {α:Type} (enc:α→List Value)
variable {enc} {M M0 rest:List Ent} {S:List Xmp} {w0 w:World} {e sz:Nat} {A0 A:Option Addr} {n0 c0 n c:Nat} {xs0 zs:List α}
variable {C:Cx} {ops:Array Oper} {k:List Item} {l:Fm} {ty:TypeId} {pos:String} {after:Ed} {g:Gu} {d:Nat} {Nx:Fm→List Ent→List Xmp→Prop}
end tw
section fam
variable {τ:Type} {fk:Fk τ} {M:List Ent} {S:List Xmp} {w0 w:World}
variable {C:Cx} {ops:Array Oper} {k:List Item} {l:Fm} {ty:TypeId} {pos:String} {after:Ed} {g:Gu} {d:Nat} {Nx:Fm→List Ent→List Xmp→Prop}
end fam
section wf
variable {C:Cx} {ops:Array Oper} {Mi:List Ent} {Si:List Xmp} {L:List Nat} {fuel:Nat} {lst:Array Bool} {k:List Item} {l:Fm} {M:List Ent} {S:List Xmp} {τ:Type} {fk:Fk τ} {F:Nat→Prop}
theorem wf_famz {hd:Bool} {j:Nat} {z z':Nat} {xs:List τ} {cs:List Value} {bs:List Nat} (hz:z'≤z) (hj:M[j]? = some (Xpu fk z none xs cs bs)) (h:WF C ops Mi Si L hd fuel lst k l (M.set j (Xpu fk z' none xs cs bs)) S):WF C ops Mi Si L hd fuel lst k l M S:=fun a w hF hL hH=>h a w hF (hL.famz hz hj) hH
theorem Yet [Inhabited τ] {hd:Bool} {j z:Nat} {xs:List τ} {cs:List Value} {bs:List Nat} (hj:M[j]? = some (Xpu fk z none xs cs bs)) {q:Int} (hi:0≤q∧q < (xs.length:Int)) {A:Option Addr} {n c:Nat} (hc:Hdr fk xs cs q A n c) (h:∀ bs',WF C ops Mi Si L hd fuel lst k l (.own (.slice A n c) fk.e fk.sz n ((fk.inn (ix xs q)).flatMap fk.enc) :: M.set j (Xpu fk z (some q.toNat) xs cs bs')) S):WF C ops Mi Si L hd fuel lst k l M S:=fun a w hF hL hH=>by
 obtain ⟨bs',h1⟩:=hL.take hj hi hc
 exact h bs' a w hF h1 hH
end wf
section cutl
variable {C:Cx} {l:Fm} {M:List Ent} {S:List Xmp} {ty:TypeId} {pos:String} {after:Ed} {g:Gu} {d:Nat}
end cutl
end Go.Proofs.Ytmekgfcfooghnaa.B
