/- The plain side of QueryFinds. Its condition: what is handed in is of at most 1048576 bytes in all. -/
import Derived.Test.YtjookebbmfiidaaDoorXB
import Derived.Test.YtjookebbmfiidaaDoorT
namespace Go.Proofs.YtjookebbmfiidaaDoor.queryFinds
open Go.Proofs.YtjookebbmfiidaaDoor.B Go.Proofs.YtjookebbmfiidaaDoor.K Go.Proofs.YtjookebbmfiidaaDoor.R Go.Proofs.YtjookebbmfiidaaDoor.L
theorem wf64 {n:Int} (h:(Lit.int .i64 n).wf=true):-9223372036854775808≤n∧n≤9223372036854775807:=by
  have a1:IntKind.i64.min = -9223372036854775808:=rfl
  have a2:IntKind.i64.max=9223372036854775807:=rfl
  simp only [Lit.wf,Bool.and_eq_true,decide_eq_true_eq] at h
  rwa [a1,a2] at h
theorem law (x1:Aq) (x2:List Ai) (x3:ByteArray) (_:Xf8 x1) (h2:x2.length * 72≤reachBytes∧∀ x ∈ x2,Xcr x) (_:x3.size≤reachBytes) (hsum:Ws x1 + (Yt Uj x2 + 1) + (x3.size + 1)≤1048576):Nz x1 x2 x3 true:=by
  have hr:reachBytes=140737488351232:=rfl
  have e:Ws x1=(Yt Js x1.nodes + 1) + (Yt Qb x1.conds + 1) + 1:=rfl
  have l1:=Xga Js (fun a=>by unfold Js; omega) x1.nodes
  have l2:=Xga Qb (fun a=>by unfold Qb; omega) x1.conds
  have l3:=Xga Uj (fun a=>by unfold Uj; omega) x2
  refine Xlr (by omega) (by omega) ⟨fun x hx=>?_,fun c hc=>?_⟩ (by omega) (by unfold X5; omega) (fun n hn=>?_) x3
  · have:=Xjd Js hx
    have ex:Js x=(x.name.size + 1) + 1 + (x.field.size + 1) + (x.capture.size + 1) + 1 + 1:=rfl
    exact ⟨by omega,by omega,by omega⟩
  · have:=Xjd Qb hc
    have ex:Qb c=1 + (c.a.size + 1) + (c.b.size + 1) + (c.text.size + 1) + 1:=rfl
    exact ⟨by omega,by omega,by omega⟩
  · obtain ⟨_,_,_,_,_,q,_⟩:=h2.2 n hn
    exact wf64 q
end Go.Proofs.YtjookebbmfiidaaDoor.queryFinds
