/- The plain side of FirstSolves. No condition. -/
import Derived.Test.YtelafghkjlpojaaE5
import Derived.Test.YtelafghkjlpojaaT
namespace Go.Proofs.Ytelafghkjlpojaa.firstSolves
open Go.Proofs.Ytelafghkjlpojaa.B Go.Proofs.Ytelafghkjlpojaa.K Go.Proofs.Ytelafghkjlpojaa.R Go.Proofs.Ytelafghkjlpojaa.L
theorem szOk {g:Yfz} (h:Ypa g):Sz g:=by
 have hr:reachBytes=140737488351232:=rfl
 obtain ⟨⟨a1,_⟩,⟨a2,_⟩,a3,a4⟩:=h
 refine ⟨by omega,by omega,by omega,fun p hp=>?_⟩
 have:=(a4 p hp).2.1
 omega
theorem law (x1:Yfz) (h1:Ypa x1):Yj2 x1 true:=Yv3 (szOk h1)
end Go.Proofs.Ytelafghkjlpojaa.firstSolves
