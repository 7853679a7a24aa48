/- The plain side of ItemsCloses. Its condition: what is handed in is of at most 1048576 bytes in all. -/
import Derived.Test.YtadcichlnacagaaDoorI11
import Derived.Test.YtadcichlnacagaaDoorT
namespace Go.Proofs.YtadcichlnacagaaDoor.itemsCloses
open Go.Proofs.YtadcichlnacagaaDoor.B Go.Proofs.YtadcichlnacagaaDoor.K Go.Proofs.YtadcichlnacagaaDoor.R Go.Proofs.YtadcichlnacagaaDoor.L
theorem len_sum {α:Type} (f:α→Nat) (h:∀ x,1≤f x):∀ l:List α,l.length≤Zcg f l
  | []=>Nat.le_refl _
  | a :: l=>by
    have:=len_sum f h l
    have:=h a
    show l.length + 1≤f a + Zcg f l
    omega
theorem mem_sum {α:Type} (f:α→Nat):∀ {l:List α} {x:α},x ∈ l→f x≤Zcg f l
  | a :: l,x,h=>by
    show f x≤f a + Zcg f l
    rcases List.mem_cons.1 h with rfl | h
    · omega
    · have:=mem_sum f h
      omega
theorem sum_app {α:Type} (f:α→Nat):∀ l m:List α,Zcg f (l++m)=Zcg f l + Zcg f m
  | [],m=>by show _=0 + _; rw [Nat.zero_add]; rfl
  | a :: l,m=>by
    show f a + Zcg f (l++m)=f a + Zcg f l + Zcg f m
    rw [sum_app f l m]; omega
theorem at_sum {g:Yu5}:∀ p,p≤g.prods.length→atN g p≤Zcg Yz9 (g.prods.take p)
  | 0,_=>Nat.zero_le _
  | p + 1,h=>by
    have ih:=at_sum (g:=g) p (by omega)
    have hp:p < g.prods.length:=by omega
    have e:L.Yvk g p=g.prods[p].rhs:=by unfold L.Yvk; rw [Yvv hp]
    have h1:=len_sum Zbr (fun x=>by unfold Zbr; omega) g.prods[p].rhs
    have h2:Zcg Yz9 [g.prods[p]]=Yz9 g.prods[p]:=rfl
    have h3:Yz9 g.prods[p]=1 + (Zcg Zbr g.prods[p].rhs + 1) + 1:=rfl
    rw [Zfc hp,sum_app,atN,e,h2,h3]
    omega
theorem bgOk {g:Yu5} (h:Zda g≤1048576):Bg g:=by
  have h0:(Zcg Zb4 g.terms + 1) + (Zcg Zej g.syms + 1) + (Zcg Yz9 g.prods + 1)≤Zda g:=by unfold Zda; omega
  have h1:=len_sum Zb4 (fun x=>by unfold Zb4; omega) g.terms
  have h2:=len_sum Zej (fun x=>by unfold Zej; omega) g.syms
  have h3:=len_sum Yz9 (fun x=>by unfold Yz9; omega) g.prods
  have h4:=at_sum (g:=g) g.prods.length (Nat.le_refl _)
  rw [List.take_length] at h4
  refine ⟨⟨⟨by omega,by omega,by omega,fun p hp=>?_⟩,?_⟩,by omega,by omega⟩
  · have h5:=mem_sum Yz9 hp
    have h6:=len_sum Zbr (fun x=>by unfold Zbr; omega) p.rhs
    have h7:Yz9 p=1 + (Zcg Zbr p.rhs + 1) + 1:=rfl
    omega
  · unfold nN
    omega
theorem law (x1:Yu5) (x2:List Yud) (x3:Int) (_:Zo4 x1) (_:x2.length * 24≤reachBytes∧∀ x ∈ x2,Zk6 x) (_:(Lit.int .i64 x3).wf=true) (hsum:Zda x1 + (Zcg Zdh x2 + 1) + 1≤1048576):Yz3 x1 x2 x3 true:=by
  have:=len_sum Zdh (fun x=>by unfold Zdh; omega) x2
  exact Zt6 (bgOk (by omega)) (by omega) x3
end Go.Proofs.YtadcichlnacagaaDoor.itemsCloses
