/- The plain side of QueryParts. No condition. -/
import Derived.Test.YtjookebbmfiidaaDoorX9
import Derived.Test.YtjookebbmfiidaaDoorT
namespace Go.Proofs.YtjookebbmfiidaaDoor.queryParts
open Go.Proofs.YtjookebbmfiidaaDoor.B Go.Proofs.YtjookebbmfiidaaDoor.K Go.Proofs.YtjookebbmfiidaaDoor.R Go.Proofs.YtjookebbmfiidaaDoor.L
theorem wf64 {n:Int} (h:(Lit.int .i64 n).wf=true):-9223372036854775808≤n∧n≤9223372036854775807:=by
  have a1:IntKind.i64.min = -9223372036854775808:=rfl
  have a2:IntKind.i64.max=9223372036854775807:=rfl
  simp only [Lit.wf,Bool.and_eq_true,decide_eq_true_eq] at h
  rwa [a1,a2] at h
theorem law (x1:Ar) (x2:List Az) (x3:ByteArray) (h1:Xfm x1) (h2:x2.length * 72≤reachBytes∧∀ x ∈ x2,Xd5 x) (_:x3.size≤reachBytes):N7 x1 x2 x3 true:=by
  have hr:reachBytes=140737488351232:=rfl
  obtain ⟨⟨k1,k2⟩,_⟩:=h1
  have k1:x1.nodes.length * 64≤reachBytes:=k1
  refine Xne (by omega) (fun y hy=>?_) (by unfold Xca; omega) (fun n hn=>?_) x3
  · obtain ⟨a1,_,a2,a3,_⟩:=k2 y hy
    have a1:y.name.size≤reachBytes:=a1
    have a2:y.field.size≤reachBytes:=a2
    have a3:y.capture.size≤reachBytes:=a3
    exact ⟨by omega,by omega,by omega⟩
  · obtain ⟨_,_,_,_,_,q,_⟩:=h2.2 n hn
    exact wf64 q
end Go.Proofs.YtjookebbmfiidaaDoor.queryParts
