/- The plain side of FirstOf. No condition. -/
import Derived.Test.YtelafghkjlpojaaE5
import Derived.Test.YtelafghkjlpojaaT
namespace Go.Proofs.Ytelafghkjlpojaa.firstOf
open Go.Proofs.Ytelafghkjlpojaa.B Go.Proofs.Ytelafghkjlpojaa.K Go.Proofs.Ytelafghkjlpojaa.R Go.Proofs.Ytelafghkjlpojaa.L
theorem szOk {g:Yfz} (h:Yoj g):Sz g:=by
 have hr:reachBytes=140737488351232:=rfl
 obtain ⟨⟨a1,_⟩,⟨a2,_⟩,a3,a4⟩:=h
 refine ⟨by omega,by omega,by omega,fun p hp=>?_⟩
 have:=(a4 p hp).2.1
 omega
theorem law (x1:Yfz) (x2:List Yg6) (x3:Int) (h1:Yoj x1) (h2:x2.length * 40≤reachBytes∧∀ x ∈ x2,Yoa x) (_:(Lit.int .u64 x3).wf=true):Yjb x1 x2 x3 true:=by
 have hr:reachBytes=140737488351232:=rfl
 have h:=h2.1
 exact ofLaw (szOk h1) (by omega) x3
end Go.Proofs.Ytelafghkjlpojaa.firstOf
