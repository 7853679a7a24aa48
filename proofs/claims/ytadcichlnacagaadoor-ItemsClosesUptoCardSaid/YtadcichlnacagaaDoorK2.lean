/- What the machine's calls do, function by function, printed by my own tool. Condition of each: its relation holds of the answer, and what is handed in lies in memory as told. -/
import Derived.Test.YtadcichlnacagaaDoorK1
set_option linter.unusedVariables false
set_option maxRecDepth 100000
set_option maxHeartbeats 4000000
namespace Go.Proofs.YtadcichlnacagaaDoor.K
open Go.Proofs.YtadcichlnacagaaDoor.B Go.Proofs.YtadcichlnacagaaDoor.R Go.RowKit
noncomputable abbrev Zl8:=Code.snd (Code.snd (Yvq Tryd.f77))
noncomputable abbrev Zgw:=Code.fst (Code.fst (Code.snd (Code.fst (Code.snd (Yvq Tryd.f77)))))
noncomputable abbrev Zo6:=Code.snd (Code.snd Zgw)
noncomputable abbrev Zo3:=Code.snd (Code.snd (Code.fst (Code.fst (Code.snd Zgw))))
noncomputable abbrev Zj2:=Code.fst (Code.fst (Code.snd (Code.snd (Code.fst (Code.snd (Code.fst (Code.snd (Code.fst (Code.fst (Code.snd Zgw))))))))))
noncomputable abbrev q77c41:=Code.fst (Code.fst (Code.fst (Code.snd Zj2)))
noncomputable abbrev q77c43:=Code.fst (Code.snd (Code.fst (Code.fst (Code.snd Zj2))))
abbrev Za9 (w:World) (F:Nat→Prop) (A25:Option Addr) (n26:Nat) (c27:Nat) (z29:Nat) (r:List Bool):Ending→World→Prop:=fun e w'=>∃ A0:Option Addr,∃ n0:Nat,∃ c0:Nat,e=.returned (.slice A0 n0 c0)∧B.Loc w w' [.own (.slice A0 n0 c0) 4 1 n0 (r.flatMap eB)] [St w [(Value.slice A25 n26 c27).ownBlock.toList]]∧Ow z29 A0 n0 c0 r
noncomputable abbrev Yxy (w:World) (F:Nat→Prop) (A25:Option Addr) (n26:Nat) (c27:Nat) (z29:Nat) (r:List Bool):Cx:=⟨Tryd.prog,77,Tryd.f77,76,Za9 w F A25 n26 c27 z29 r,w⟩
def Zd2 (rl:Yu5→(List Bool)→(List Yut)→(List Bool)→(List Bool)→Prop):Prop:=∀ (w:World) (F:Nat→Prop) (x1:Yu5) (x14:List Bool) (x19:List Yut) (x24:List Bool) (A2:Option Addr) (n3:Nat) (c4:Nat) (A6:Option Addr) (n7:Nat) (c8:Nat) (A10:Option Addr) (n11:Nat) (c12:Nat) (A15:Option Addr) (n16:Nat) (c17:Nat) (A20:Option Addr) (n21:Nat) (c22:Nat) (z29:Nat) (A25:Option Addr) (n26:Nat) (c27:Nat) (h5:Rw Yuj w (St w [(Value.slice A25 n26 c27).ownBlock.toList]).av A2 n3 c4 x1.terms) (h9:Rw Yuq w (St w [(Value.slice A25 n26 c27).ownBlock.toList]).av A6 n7 c8 x1.syms) (h13:Rw Yun w (St w [(Value.slice A25 n26 c27).ownBlock.toList]).av A10 n11 c12 x1.prods) (h18:Rw Yzi w (St w [(Value.slice A25 n26 c27).ownBlock.toList]).av A15 n16 c17 x14) (h23:Rw Zav w (St w [(Value.slice A25 n26 c27).ownBlock.toList]).av A20 n21 c22 x19) (hz30:z29≤w.heap.size) (h28:Ow z29 A25 n26 c27 x24) (hF:∀ b,F b→b < w.heap.size∧∀ o ∈ ([(Value.slice A25 n26 c27).ownBlock.toList]:List (List Nat)),b ∉ o) (hL0:B.Loc w w [.own (.slice A25 n26 c27) 4 1 n26 (x24.flatMap eB)] [Sm w.heap.size F w [(Value.slice A25 n26 c27).ownBlock.toList],St w [(Value.slice A25 n26 c27).ownBlock.toList]]) (r:List Bool) (h:rl x1 x14 x19 x24 r),Calls Tryd.prog 77 #[.agg #[.slice A2 n3 c4,.slice A6 n7 c8,.slice A10 n11 c12],.slice A15 n16 c17,.slice A20 n21 c22,.slice A25 n26 c27] w (Za9 w F A25 n26 c27 z29 r)
theorem Zhq (rc_trellisref11_leads:Yu5→(List Bool)→(List Yut)→(List Bool)→(List Bool)→Prop) (ih_trellisref11_leads:Zd2 rc_trellisref11_leads):Zd2 (Yz8 rc_trellisref11_leads):=by
 intro w F x1 x14 x19 x24 A2 n3 c4 A6 n7 c8 A10 n11 c12 A15 n16 c17 A20 n21 c22 z29 A25 n26 c27 h5 h9 h13 h18 h23 hz30 h28 hF hL0 r h
 unfold Yz8 at h
 refine Yv5 (vs:=[.agg #[.slice A2 n3 c4,.slice A6 n7 c8,.slice A10 n11 c12],.slice A15 n16 c17,.slice A20 n21 c22,.slice A25 n26 c27]) 76 Tryd.func77 rfl Tryd.ntmps77 rfl hL0 ?_
 show G (Yxy w F A25 n26 c27 z29 r) _ _ _ _
 refine Yu9 rfl<|Yu4 rfl rfl ?_
 refine Yve 0 rfl (Zas [.slice A2 n3 c4,.slice A6 n7 c8,.slice A10 n11 c12] rfl rfl rfl fun gb31=>?_) gn
 refine Yu2 1 rfl (Yu7 rfl) gn rfl<|Yua 2 rfl<|Yu9 rfl<|Yu9 rfl<|Yu4 rfl rfl<|Yu2 0 rfl (Yu7 rfl) gn rfl<|Yua 1 rfl<|Yuw rfl<|Ywm rfl ?_
 have key1:∀ s,Yui (fun (s:(List Bool) × Int) o=>Ywp x19 x14 x1 rc_trellisref11_leads s.1 s.2 o) s r→(fun (s:(List Bool) × Int)=>∀ (A759:Option Addr) (n760:Nat) (c761:Nat) (h762:Ow z29 A759 n760 c761 s.1),G (Yxy w F A25 n26 c27 z29 r) [.code Zgw,.inLoop Zgw,.inBlock 0,.code Zl8] [(1,.slice A15 n16 c17),(2,.slice A20 n21 c22),(3,.slice A759 n760 c761),(4,.pointer (some ⟨gb31,0,none⟩)),(9,.int .i64 s.2)] [.own (.slice A759 n760 c761) 4 1 n760 (s.1.flatMap eB),.box gb31 26 [.slice A2 n3 c4,.slice A6 n7 c8,.slice A10 n11 c12]] [Sm w.heap.size F w [(Value.slice A25 n26 c27).ownBlock.toList],St w [(Value.slice A25 n26 c27).ownBlock.toList]]) s:=by
  intro s hs
  refine Yui.ind (mot:=(fun (s:(List Bool) × Int)=>∀ (A759:Option Addr) (n760:Nat) (c761:Nat) (h762:Ow z29 A759 n760 c761 s.1),G (Yxy w F A25 n26 c27 z29 r) [.code Zgw,.inLoop Zgw,.inBlock 0,.code Zl8] [(1,.slice A15 n16 c17),(2,.slice A20 n21 c22),(3,.slice A759 n760 c761),(4,.pointer (some ⟨gb31,0,none⟩)),(9,.int .i64 s.2)] [.own (.slice A759 n760 c761) 4 1 n760 (s.1.flatMap eB),.box gb31 26 [.slice A2 n3 c4,.slice A6 n7 c8,.slice A10 n11 c12]] [Sm w.heap.size F w [(Value.slice A25 n26 c27).ownBlock.toList],St w [(Value.slice A25 n26 c27).ownBlock.toList]])) ?_ hs
  clear hs s
  intro s o1 h hO1
  obtain ⟨x758,x763⟩:=s
  show ∀ (A759:Option Addr) (n760:Nat) (c761:Nat) (h762:Ow z29 A759 n760 c761 x758),G (Yxy w F A25 n26 c27 z29 r) [.code Zgw,.inLoop Zgw,.inBlock 0,.code Zl8] [(1,.slice A15 n16 c17),(2,.slice A20 n21 c22),(3,.slice A759 n760 c761),(4,.pointer (some ⟨gb31,0,none⟩)),(9,.int .i64 x763)] [.own (.slice A759 n760 c761) 4 1 n760 (x758.flatMap eB),.box gb31 26 [.slice A2 n3 c4,.slice A6 n7 c8,.slice A10 n11 c12]] [Sm w.heap.size F w [(Value.slice A25 n26 c27).ownBlock.toList],St w [(Value.slice A25 n26 c27).ownBlock.toList]]
  intro A759 n760 c761 h762
  have h:Ywp x19 x14 x1 rc_trellisref11_leads x758 x763 o1:=h
  unfold Ywp at h
  refine Yu9 rfl<|Yu9 rfl<|Yu4 rfl rfl<|Yu2 0 rfl (Yu3 rfl) gn rfl<|Yu2 1 rfl (Yu3 rfl) gn rfl<|Yu2 2 rfl (Yuo Za5 rfl h23.hq) gn rfl<|Yu2 3 rfl (Yug rfl rfl rfl) gn rfl<|Yua 4 rfl ?_
  by_cases hp1488:x763 < (x19.length:Int)
  ·have h:=Yul hp1488 h
   refine Yv4 rfl _ rfl ((decide_eq_true hp1488))<|Yv2 rfl<|Yu9 rfl<|Yuw rfl<|Yu9 rfl<|Yu4 rfl rfl<|Yu2 0 rfl (Yu3 rfl) gn rfl<|Yu2 1 rfl (Yu3 rfl) gn rfl ?_
   obtain ⟨hb1489,h⟩:=h
   have hr1490:=Rw.readF (s:=St w [(Value.slice A25 n26 c27).ownBlock.toList]) (hl:=Yvw) (h1:=Yvy) h23 hb1489
   refine Yu2 2 rfl (Yv7 (s:=St w [(Value.slice A25 n26 c27).ownBlock.toList]) Yz5 rfl rfl h23 hb1489) gn rfl<|Yu2 3 rfl (Yvo Yyd rfl) gn rfl<|Yu2 4 rfl (Yvj (kk:=(x763:Int).toNat * 3) (j:=0) (St w [(Value.slice A25 n26 c27).ownBlock.toList]) Yvt rfl hr1490 rfl (me 1 rfl)) gn rfl<|Yu2 5 rfl (Yu7 rfl) gn rfl<|Yua 6 rfl<|Yu9 rfl<|Yu9 rfl<|Yu4 rfl rfl<|Yu2 0 rfl (Yu3 rfl) gn rfl<|Yu2 1 rfl (Yu3 rfl) gn rfl ?_
   obtain ⟨hb1491,h⟩:=h
   refine Yu2 2 rfl (Yyn Zfl rfl rfl h762 hb1491) gn rfl<|Yu2 3 rfl (Zbb (.bool (ix x758 ((ix x19 x763).sym))) 0 Zlq rfl rfl (Zcj hlB hb1491 rfl)) gn rfl<|Yu2 4 rfl (Zf9 rfl) gn rfl<|Yua 5 rfl ?_
   have j2:∀ (x1846:List Bool) (h:Yz2 x19 x763 x14 x1846 o1) (A1847:Option Addr) (n1848:Nat) (c1849:Nat) (h1850:Ow z29 A1847 n1848 c1849 x1846),G (Yxy w F A25 n26 c27 z29 r) [.code Zo3,.inBlock 1,.code Zo6,.inLoop Zgw,.inBlock 0,.code Zl8] [(1,.slice A15 n16 c17),(2,.slice A20 n21 c22),(3,.slice A1847 n1848 c1849),(4,.pointer (some ⟨gb31,0,none⟩)),(9,.int .i64 x763),(10,.int .i64 ((ix x19 x763).sym))] [.own (.slice A1847 n1848 c1849) 4 1 n1848 (x1846.flatMap eB),.box gb31 26 [.slice A2 n3 c4,.slice A6 n7 c8,.slice A10 n11 c12]] [Sm w.heap.size F w [(Value.slice A25 n26 c27).ownBlock.toList],St w [(Value.slice A25 n26 c27).ownBlock.toList]]:=by
    intro x1846 h A1847 n1848 c1849 h1850
    unfold Yz2 at h
    refine Yu9 rfl<|Yu4 rfl rfl<|Yu2 0 rfl (Yu3 rfl) gn rfl<|Yu2 1 rfl (Yu3 rfl) gn rfl ?_
    obtain ⟨hb1851,h⟩:=h
    have hr1852:=Rw.readF (s:=St w [(Value.slice A25 n26 c27).ownBlock.toList]) (hl:=hlB) (h1:=Zji) h18 hb1851
    refine Yu2 2 rfl (Yv7 (s:=St w [(Value.slice A25 n26 c27).ownBlock.toList]) Zfl rfl rfl h18 hb1851) gn rfl<|Yu2 3 rfl (Yvj (kk:=((ix x19 x763).sym:Int).toNat * 1) (j:=0) (St w [(Value.slice A25 n26 c27).ownBlock.toList]) Zlq rfl hr1852 rfl (me 1 rfl)) gn rfl<|Yu2 4 rfl (Zf9 rfl) gn rfl<|Yua 5 rfl ?_
    by_cases hp1853:(ix x14 ((ix x19 x763).sym))=true
    ·have h:=Yul hp1853 h
     refine Yur rfl _ rfl ((nf hp1853))<|Yv2 rfl<|Yux<|Yu4 rfl rfl<|Yu2 0 rfl (Yu3 rfl) gn rfl<|Yu2 1 rfl (Yug rfl rfl rfl) gn rfl<|Yu2 2 rfl (Yu7 rfl) gn rfl<|Yua 3 rfl<|Yv1 ?_
     have ih:=Out.inl hO1 h
     exact Yvh [0,1] (ih A1847 n1848 c1849 h1850) ⟨rfl,rfl,rfl,rfl,rfl,trivial⟩ (.cons_cons _ (.cons_cons _ (.slnil))) rfl
    ·have h:=Yum hp1853 h
     refine Yv4 rfl _ rfl ((nt (bf hp1853)))<|Yu9 rfl<|Yu4 rfl rfl<|Yu2 0 rfl (Yu3 rfl) gn rfl<|Yu2 1 rfl (Yu7 rfl) gn rfl<|Yua 2 rfl ?_
     have h:=Out.inr hO1 h
     refine Yvb [.slice A1847 n1848 c1849] rfl Tryd.func77 rfl (.tmp rfl (.nil)) fun wr hLr=>?_
     have hMr:=hLr.pkI (.c 0 rfl .n) (.c 1 rfl .n) (by kernel_rfl) (.c 1 rfl .n)
     show Za9 w F A25 n26 c27 z29 r (.returned (Yvl [.slice A1847 n1848 c1849])) wr
     rw [h]
     exact ⟨A1847,n1848,c1849,rfl,hMr,h1850⟩
   by_cases hp1492:(ix x758 ((ix x19 x763).sym))=true
   ·have h:=Yul hp1492 h
    refine Yur rfl _ rfl ((nf hp1492))<|Yv2 rfl ?_
    exact Yvh [0,1] (j2 x758 h A759 n760 c761 h762) ⟨rfl,rfl,rfl,rfl,rfl,rfl,trivial⟩ (.cons_cons _ (.cons_cons _ (.slnil))) rfl
   ·have h:=Yum hp1492 h
    refine Yv4 rfl _ rfl ((nt (bf hp1492)))<|Yu9 rfl<|Yu4 rfl rfl<|Yu2 0 rfl (Yu3 rfl) gn rfl<|Yu2 1 rfl (Yu3 rfl) gn rfl<|Yu2 2 rfl (Yyn Zfl rfl rfl h762 hb1491) gn rfl ?_
    obtain ⟨x1854,hv1855,h⟩:=h
    refine Yve 3 rfl (Zgm (enc:=eB) (o:=0) (z:=true) (vs:=[.bool true]) (i:=((ix x19 x763).sym)) 0 hlB sz_4 rfl rfl rfl rfl rfl h762 hb1491 rfl rfl rfl hv1855 fun h1856=>?_) gn
    refine Yua 4 rfl<|Yu9 rfl<|Yu4 rfl rfl<|Yu2 0 rfl (Yu7 rfl) gn rfl<|Yua 1 rfl<|Yuw rfl<|Ywm rfl ?_
    have key3:∀ s,Yui (fun (s:(List Bool) × Int) o=>Yxm x1 x19 x763 rc_trellisref11_leads x14 s.1 s.2 o) s o1→(fun (s:(List Bool) × Int)=>∀ (A1975:Option Addr) (n1976:Nat) (c1977:Nat) (h1978:Ow z29 A1975 n1976 c1977 s.1),G (Yxy w F A25 n26 c27 z29 r) [.code Zj2,.inLoop Zj2,.inBlock 2,.code Zo3,.inBlock 1,.code Zo6,.inLoop Zgw,.inBlock 0,.code Zl8] [(1,.slice A15 n16 c17),(2,.slice A20 n21 c22),(3,.slice A1975 n1976 c1977),(4,.pointer (some ⟨gb31,0,none⟩)),(9,.int .i64 x763),(10,.int .i64 ((ix x19 x763).sym)),(11,.int .i64 s.2)] [.own (.slice A1975 n1976 c1977) 4 1 n1976 (s.1.flatMap eB),.box gb31 26 [.slice A2 n3 c4,.slice A6 n7 c8,.slice A10 n11 c12]] [Sm w.heap.size F w [(Value.slice A25 n26 c27).ownBlock.toList],St w [(Value.slice A25 n26 c27).ownBlock.toList]]) s:=by
     intro s hs
     refine Yui.ind (mot:=(fun (s:(List Bool) × Int)=>∀ (A1975:Option Addr) (n1976:Nat) (c1977:Nat) (h1978:Ow z29 A1975 n1976 c1977 s.1),G (Yxy w F A25 n26 c27 z29 r) [.code Zj2,.inLoop Zj2,.inBlock 2,.code Zo3,.inBlock 1,.code Zo6,.inLoop Zgw,.inBlock 0,.code Zl8] [(1,.slice A15 n16 c17),(2,.slice A20 n21 c22),(3,.slice A1975 n1976 c1977),(4,.pointer (some ⟨gb31,0,none⟩)),(9,.int .i64 x763),(10,.int .i64 ((ix x19 x763).sym)),(11,.int .i64 s.2)] [.own (.slice A1975 n1976 c1977) 4 1 n1976 (s.1.flatMap eB),.box gb31 26 [.slice A2 n3 c4,.slice A6 n7 c8,.slice A10 n11 c12]] [Sm w.heap.size F w [(Value.slice A25 n26 c27).ownBlock.toList],St w [(Value.slice A25 n26 c27).ownBlock.toList]])) ?_ hs
     clear hs s
     intro s o2 h hO2
     obtain ⟨x1974,x1979⟩:=s
     show ∀ (A1975:Option Addr) (n1976:Nat) (c1977:Nat) (h1978:Ow z29 A1975 n1976 c1977 x1974),G (Yxy w F A25 n26 c27 z29 r) [.code Zj2,.inLoop Zj2,.inBlock 2,.code Zo3,.inBlock 1,.code Zo6,.inLoop Zgw,.inBlock 0,.code Zl8] [(1,.slice A15 n16 c17),(2,.slice A20 n21 c22),(3,.slice A1975 n1976 c1977),(4,.pointer (some ⟨gb31,0,none⟩)),(9,.int .i64 x763),(10,.int .i64 ((ix x19 x763).sym)),(11,.int .i64 x1979)] [.own (.slice A1975 n1976 c1977) 4 1 n1976 (x1974.flatMap eB),.box gb31 26 [.slice A2 n3 c4,.slice A6 n7 c8,.slice A10 n11 c12]] [Sm w.heap.size F w [(Value.slice A25 n26 c27).ownBlock.toList],St w [(Value.slice A25 n26 c27).ownBlock.toList]]
     intro A1975 n1976 c1977 h1978
     have h:Yxm x1 x19 x763 rc_trellisref11_leads x14 x1974 x1979 o2:=h
     unfold Yxm at h
     refine Yu9 rfl<|Yu9 rfl<|Yu4 rfl rfl<|Yu2 0 rfl (Yu3 rfl) gn rfl<|Yu2 1 rfl (Yub Yvf rfl) gn rfl<|Yu2 2 rfl (Yue 1 Ywb rfl rfl rfl) gn rfl<|Yu2 3 rfl (Yuo Za3 rfl h13.hq) gn rfl<|Yu2 4 rfl (Yug rfl rfl rfl) gn rfl<|Yua 5 rfl ?_
     by_cases hp2096:x1979 < (x1.prods.length:Int)
     ·have h:=Yul hp2096 h
      refine Yv4 rfl _ rfl ((decide_eq_true hp2096))<|Yv2 rfl<|Yu9 rfl<|Yuw rfl<|Yu9 rfl ?_
      obtain ⟨hb2097,h⟩:=h
      by_cases hp2105:(ix x1.prods x1979).lhs≥0
      ·have h:=Yul hp2105 h
       have hns:Region.noSelect (Code.ops q77c41)=true:=by kernel_rfl
       refine Yvr [] 21 rfl rfl mix rfl (.c 0 rfl (.c 1 rfl .n))<|wfv 0 rfl (Yub Yvf rfl) gn hns rfl<|wfv 1 rfl (Yue 1 Ywb rfl rfl rfl) gn hns rfl<|wfv 2 rfl (Yu3 rfl) gn hns rfl ?_
       obtain ⟨ce2128,hK2129,hr2127⟩:=Rw.read (s:=St w [(Value.slice A25 n26 c27).ownBlock.toList]) h13 hb2097
       obtain ⟨A2130,n2131,c2132,rfl,h2133⟩:=hK2129
       refine wfv 3 rfl (Yv7 (s:=St w [(Value.slice A25 n26 c27).ownBlock.toList]) Yxh rfl rfl h13 hb2097) gn hns rfl<|wfv 4 rfl (Yvo Yx3 rfl) gn hns rfl<|wfv 5 rfl (Yvj (kk:=(x1979:Int).toNat * 2) (j:=0) (St w [(Value.slice A25 n26 c27).ownBlock.toList]) Yvt rfl hr2127 rfl (me 1 rfl)) gn hns rfl<|wfv 6 rfl (Yug rfl rfl rfl) gn hns rfl<|wfv 7 rfl (Yu3 rfl) gn hns rfl<|Yv8 45 rfl ((decide_eq_true hp2105))<|wfv 8 rfl (Yub Yvf rfl) (gy 45 rfl rfl) hns rfl<|wfv 9 rfl (Yue 1 Ywb rfl rfl rfl) (gy 45 rfl rfl) hns rfl<|wfv 10 rfl (Yu3 rfl) (gy 45 rfl rfl) hns rfl ?_
       obtain ⟨ce2135,hK2136,hr2134⟩:=Rw.read (s:=St w [(Value.slice A25 n26 c27).ownBlock.toList]) h13 hb2097
       obtain ⟨A2137,n2138,c2139,rfl,h2140⟩:=hK2136
       refine wfv 11 rfl (Yv7 (s:=St w [(Value.slice A25 n26 c27).ownBlock.toList]) Yxh rfl rfl h13 hb2097) (gy 45 rfl rfl) hns rfl<|wfv 12 rfl (Yvo Yx3 rfl) (gy 45 rfl rfl) hns rfl<|wfv 13 rfl (Yvj (kk:=(x1979:Int).toNat * 2) (j:=0) (St w [(Value.slice A25 n26 c27).ownBlock.toList]) Yvt rfl hr2134 rfl (me 1 rfl)) (gy 45 rfl rfl) hns rfl<|wfv 14 rfl (Yu3 rfl) (gy 45 rfl rfl) hns rfl<|wfv 15 rfl (Yub Yw7 rfl) (gy 45 rfl rfl) hns rfl<|wfv 16 rfl (Yue 1 Yz4 rfl rfl rfl) (gy 45 rfl rfl) hns rfl<|wfv 17 rfl (Yuo Yze rfl h5.hq) (gy 45 rfl rfl) hns rfl<|wfv 18 rfl (Yug rfl rfl rfl) (gy 45 rfl rfl) hns rfl<|wfv 19 rfl (Yug rfl rfl rfl) (gy 45 rfl rfl) hns rfl<|wfv 20 rfl (Yuk (b:=true) rfl rfl) gn hns rfl<|Yvx (by kernel_rfl) ?_
       by_cases hp2141:(ix x1.prods x1979).lhs=w64 (((ix x19 x763).sym) - (x1.terms.length:Int))
       ·have h:=Yul hp2141 h
        refine Yv4 rfl _ rfl ((eqi hp2141)) ?_
        obtain ⟨r2152,hv2153,h⟩:=h
        have hns:Region.noSelect (Code.ops q77c43)=true:=by kernel_rfl
        refine Yvr [9,10] 11 rfl rfl mix rfl (.c 0 rfl (.c 1 rfl .n))<|wfv 0 rfl (Yyr [.slice A2 n3 c4,.slice A6 n7 c8,.slice A10 n11 c12] 1 Yys rfl rfl rfl rfl) gn hns (by kernel_rfl)<|wfv 1 rfl (Yu3 rfl) gn hns (by kernel_rfl)<|wfv 2 rfl (Yub Yvf rfl) gn hns (by kernel_rfl)<|wfv 3 rfl (Yue 1 Ywb rfl rfl rfl) gn hns (by kernel_rfl)<|wfv 4 rfl (Yu3 rfl) gn hns (by kernel_rfl) ?_
        obtain ⟨ce2180,hK2181,hr2179⟩:=Rw.read (s:=St w [(Value.slice A25 n26 c27).ownBlock.toList]) h13 hb2097
        obtain ⟨A2182,n2183,c2184,rfl,h2185⟩:=hK2181
        refine wfv 5 rfl (Yv7 (s:=St w [(Value.slice A25 n26 c27).ownBlock.toList]) Yxh rfl rfl h13 hb2097) gn hns (by kernel_rfl)<|wfv 6 rfl (Yvo Yw1 rfl) gn hns (by kernel_rfl)<|wfv 7 rfl (Yvj (kk:=(x1979:Int).toNat * 2) (j:=1) (St w [(Value.slice A25 n26 c27).ownBlock.toList]) Yyc rfl hr2179 rfl (me 1 rfl)) gn hns (by kernel_rfl)<|wfv 8 rfl (Yu3 rfl) gn hns (by kernel_rfl) ?_
        refine Ywl [9] (by kernel_rfl) rfl ⟨Zi7 9 rfl gn rfl (Yvz [.agg #[.slice A2 n3 c4,.slice A6 n7 c8,.slice A10 n11 c12],.slice A15 n16 c17,.slice A2182 n2183 c2184,.slice A1975 n1976 c1977] rfl Tryd.func77 rfl rfl rfl fun w2186 hL2187=>?_),trivial⟩
        have hp2188:=pmI hL2187 (.c 0 rfl .n) (.c 1 rfl .n) (by kernel_rfl)
        refine Calls.mono (ih_trellisref11_leads w2186 (Fl ([]:List Yva)) x1 x14 ((ix x1.prods x1979).rhs) x1974 A2 n3 c4 A6 n7 c8 A10 n11 c12 A15 n16 c17 A2182 n2183 c2184 z29 A1975 n1976 c1977 (Rw.mono h5 (hL2187.toSt hp2188 (me 1 rfl))) (Rw.mono h9 (hL2187.toSt hp2188 (me 1 rfl))) (Rw.mono h13 (hL2187.toSt hp2188 (me 1 rfl))) (Rw.mono h18 (hL2187.toSt hp2188 (me 1 rfl))) (Rw.mono h2185 (hL2187.toSt hp2188 (me 1 rfl))) (Nat.le_trans hz30 hL2187.env.size) h1978 (hL2187.hFl hp2188 (Yvm [] rfl)) (hL2187.into hp2188 _) r2152 hv2153) ?_
        rintro _ w2193 ⟨A2189,n2190,c2191,rfl,hM2194,h2192⟩
        have hL2195:=hL2187.call hp2188 hM2194
        refine ⟨_,_,_,rfl,hL2195,?_⟩
        unfold NxL
        refine Ywl [10] (by kernel_rfl) rfl ⟨Zi7 10 rfl gn rfl (Zov (Yu7 rfl) rfl ?_),trivial⟩
        unfold NxL
        refine Yvx (by kernel_rfl)<|Yux<|Yu4 rfl rfl<|Yu2 0 rfl (Yu3 rfl) gn rfl<|Yu2 1 rfl (Yug rfl rfl rfl) gn rfl<|Yu2 2 rfl (Yu7 rfl) gn rfl<|Yua 3 rfl<|Yv1 ?_
        have ih:=Out.inl hO2 h
        exact Yvh [0,1] (ih A2189 n2190 c2191 h2192) ⟨rfl,rfl,rfl,rfl,rfl,rfl,rfl,trivial⟩ (.cons_cons _ (.cons_cons _ (.slnil))) rfl
       ·have h:=Yum hp2141 h
        refine Yur rfl _ rfl ((nei hp2141))<|Yv2 rfl<|Yux<|Yu4 rfl rfl<|Yu2 0 rfl (Yu3 rfl) gn rfl<|Yu2 1 rfl (Yug rfl rfl rfl) gn rfl<|Yu2 2 rfl (Yu7 rfl) gn rfl<|Yua 3 rfl<|Yv1 ?_
        have ih:=Out.inl hO2 h
        exact Yvh [0,1] (ih A1975 n1976 c1977 h1978) ⟨rfl,rfl,rfl,rfl,rfl,rfl,rfl,trivial⟩ (.cons_cons _ (.cons_cons _ (.slnil))) rfl
      ·have h:=Yum hp2105 h
       have hns:Region.noSelect (Code.ops q77c41)=true:=by kernel_rfl
       refine Yvr [] 21 rfl rfl mix rfl (.c 0 rfl (.c 1 rfl .n))<|wfv 0 rfl (Yub Yvf rfl) gn hns rfl<|wfv 1 rfl (Yue 1 Ywb rfl rfl rfl) gn hns rfl<|wfv 2 rfl (Yu3 rfl) gn hns rfl ?_
       obtain ⟨ce2204,hK2205,hr2203⟩:=Rw.read (s:=St w [(Value.slice A25 n26 c27).ownBlock.toList]) h13 hb2097
       obtain ⟨A2206,n2207,c2208,rfl,h2209⟩:=hK2205
       refine wfv 3 rfl (Yv7 (s:=St w [(Value.slice A25 n26 c27).ownBlock.toList]) Yxh rfl rfl h13 hb2097) gn hns rfl<|wfv 4 rfl (Yvo Yx3 rfl) gn hns rfl<|wfv 5 rfl (Yvj (kk:=(x1979:Int).toNat * 2) (j:=0) (St w [(Value.slice A25 n26 c27).ownBlock.toList]) Yvt rfl hr2203 rfl (me 1 rfl)) gn hns rfl<|wfv 6 rfl (Yug rfl rfl rfl) gn hns rfl<|wfv 7 rfl (Yu3 rfl) gn hns rfl<|Yv8 45 rfl ((decide_eq_false hp2105))<|wfp 8 rfl (ps 45 rfl rfl rfl) hns rfl<|wfp 9 rfl (ps 45 rfl rfl rfl) hns rfl<|wfp 10 rfl (ps 45 rfl rfl rfl) hns rfl<|wfp 11 rfl (ps 45 rfl rfl rfl) hns rfl<|wfp 12 rfl (ps 45 rfl rfl rfl) hns rfl<|wfp 13 rfl (ps 45 rfl rfl rfl) hns rfl ?_
       refine wfp 14 rfl (ps 45 rfl rfl rfl) hns rfl<|wfp 15 rfl (ps 45 rfl rfl rfl) hns rfl<|wfp 16 rfl (ps 45 rfl rfl rfl) hns rfl<|wfp 17 rfl (ps 45 rfl rfl rfl) hns rfl<|wfp 18 rfl (ps 45 rfl rfl rfl) hns rfl<|wfp 19 rfl (ps 45 rfl rfl rfl) hns rfl<|wfv 20 rfl (Yuk (b:=false) rfl rfl) gn hns rfl<|Yvx (by kernel_rfl)<|Yur rfl _ rfl (rfl)<|Yv2 rfl<|Yux<|Yu4 rfl rfl ?_
       refine Yu2 0 rfl (Yu3 rfl) gn rfl<|Yu2 1 rfl (Yug rfl rfl rfl) gn rfl<|Yu2 2 rfl (Yu7 rfl) gn rfl<|Yua 3 rfl<|Yv1 ?_
       have ih:=Out.inl hO2 h
       exact Yvh [0,1] (ih A1975 n1976 c1977 h1978) ⟨rfl,rfl,rfl,rfl,rfl,rfl,rfl,trivial⟩ (.cons_cons _ (.cons_cons _ (.slnil))) rfl
     ·have h:=Yum hp2096 h
      refine Yur rfl _ rfl ((decide_eq_false hp2096))<|Ywa [.code Zo3,.inBlock 1,.code Zo6,.inLoop Zgw,.inBlock 0,.code Zl8] rfl rfl ?_
      obtain ⟨q2210,hq2211,h⟩:=h
      have hq2211:=Out.inr hO2 hq2211
      rw [← hq2211] at h
      exact Yvh [0,1] (j2 x1974 h A1975 n1976 c1977 h1978) ⟨rfl,rfl,rfl,rfl,rfl,rfl,trivial⟩ (.cons_cons _ (.cons_cons _ (.slnil))) rfl
    exact Yvh [0,1] (key3 _ h A759 n760 c761 h1856) ⟨rfl,rfl,rfl,rfl,rfl,rfl,rfl,trivial⟩ (.cons_cons _ (.cons_cons _ (.slnil))) rfl
  ·have h:=Yum hp1488 h
   refine Yur rfl _ rfl ((decide_eq_false hp1488))<|Ywa [.code Zl8] rfl rfl<|Yu9 rfl<|Yu4 rfl rfl<|Yu2 0 rfl (Yu3 rfl) gn rfl<|Yu2 1 rfl (Yu7 rfl) gn rfl<|Yua 2 rfl ?_
   have h:=Out.inr hO1 h
   refine Yvb [.slice A759 n760 c761] rfl Tryd.func77 rfl (.tmp rfl (.nil)) fun wr hLr=>?_
   have hMr:=hLr.pkI (.c 0 rfl .n) (.c 1 rfl .n) (by kernel_rfl) (.c 1 rfl .n)
   show Za9 w F A25 n26 c27 z29 r (.returned (Yvl [.slice A759 n760 c761])) wr
   rw [h]
   exact ⟨A759,n760,c761,rfl,hMr,h762⟩
 refine Yvc 0 rfl<|Yvc 1 rfl ?_
 exact Yvh [0,1] (key1 _ h A25 n26 c27 h28) ⟨rfl,rfl,rfl,rfl,rfl,trivial⟩ (.cons_cons _ (.cons_cons _ (.slnil))) rfl
theorem Zf3:∀ n,Zd2 (Yxg n)
 | 0=>fun w F x1 x14 x19 x24 A2 n3 c4 A6 n7 c8 A10 n11 c12 A15 n16 c17 A20 n21 c22 z29 A25 n26 c27 h5 h9 h13 h18 h23 hz30 h28 hF hL0 r h=>h.elim
 | n + 1=>by
  have ih:=Zf3 n
  exact Zhq _ ih
theorem Zha (w:World) (F:Nat→Prop) (x1:Yu5) (x14:List Bool) (x19:List Yut) (x24:List Bool) (A2:Option Addr) (n3:Nat) (c4:Nat) (A6:Option Addr) (n7:Nat) (c8:Nat) (A10:Option Addr) (n11:Nat) (c12:Nat) (A15:Option Addr) (n16:Nat) (c17:Nat) (A20:Option Addr) (n21:Nat) (c22:Nat) (z29:Nat) (A25:Option Addr) (n26:Nat) (c27:Nat) (h5:Rw Yuj w (St w [(Value.slice A25 n26 c27).ownBlock.toList]).av A2 n3 c4 x1.terms) (h9:Rw Yuq w (St w [(Value.slice A25 n26 c27).ownBlock.toList]).av A6 n7 c8 x1.syms) (h13:Rw Yun w (St w [(Value.slice A25 n26 c27).ownBlock.toList]).av A10 n11 c12 x1.prods) (h18:Rw Yzi w (St w [(Value.slice A25 n26 c27).ownBlock.toList]).av A15 n16 c17 x14) (h23:Rw Zav w (St w [(Value.slice A25 n26 c27).ownBlock.toList]).av A20 n21 c22 x19) (hz30:z29≤w.heap.size) (h28:Ow z29 A25 n26 c27 x24) (hF:∀ b,F b→b < w.heap.size∧∀ o ∈ ([(Value.slice A25 n26 c27).ownBlock.toList]:List (List Nat)),b ∉ o) (hL0:B.Loc w w [.own (.slice A25 n26 c27) 4 1 n26 (x24.flatMap eB)] [Sm w.heap.size F w [(Value.slice A25 n26 c27).ownBlock.toList],St w [(Value.slice A25 n26 c27).ownBlock.toList]]) (r:List Bool) (h:Zgp x1 x14 x19 x24 r):Calls Tryd.prog 77 #[.agg #[.slice A2 n3 c4,.slice A6 n7 c8,.slice A10 n11 c12],.slice A15 n16 c17,.slice A20 n21 c22,.slice A25 n26 c27] w (Za9 w F A25 n26 c27 z29 r):=by
 obtain ⟨n,h⟩:=h
 exact (Zf3 n) w F x1 x14 x19 x24 A2 n3 c4 A6 n7 c8 A10 n11 c12 A15 n16 c17 A20 n21 c22 z29 A25 n26 c27 h5 h9 h13 h18 h23 hz30 h28 hF hL0 r h
noncomputable abbrev Zph:=Code.snd (Code.snd (Code.snd (Code.snd (Code.snd (Yvq Tryd.f71)))))
noncomputable abbrev Zma:=Code.fst (Code.fst (Code.snd (Code.fst (Code.snd (Code.snd (Code.snd (Code.snd (Yvq Tryd.f71))))))))
abbrev Zcy (w:World) (F:Nat→Prop) (r:Int):Ending→World→Prop:=fun e w'=>e=.returned (.int .u64 r)∧B.Loc w w' [] [St w []]
noncomputable abbrev Zb9 (w:World) (F:Nat→Prop) (r:Int):Cx:=⟨Tryd.prog,71,Tryd.f71,40,Zcy w F  r,w⟩
theorem Zgv (w:World) (F:Nat→Prop) (x1:Yu5) (x14:List Bool) (x19:List Yut) (A2:Option Addr) (n3:Nat) (c4:Nat) (A6:Option Addr) (n7:Nat) (c8:Nat) (A10:Option Addr) (n11:Nat) (c12:Nat) (A15:Option Addr) (n16:Nat) (c17:Nat) (A20:Option Addr) (n21:Nat) (c22:Nat) (h5:Rw Yuj w (St w []).av A2 n3 c4 x1.terms) (h9:Rw Yuq w (St w []).av A6 n7 c8 x1.syms) (h13:Rw Yun w (St w []).av A10 n11 c12 x1.prods) (h18:Rw Yzi w (St w []).av A15 n16 c17 x14) (h23:Rw Zav w (St w []).av A20 n21 c22 x19) (hF:∀ b,F b→b < w.heap.size∧∀ o ∈ ([]:List (List Nat)),b ∉ o) (hL0:B.Loc w w [] [Sm w.heap.size F w [],St w []]) (r:Int) (h:Zam x1 x14 x19 r):Calls Tryd.prog 71 #[.agg #[.slice A2 n3 c4,.slice A6 n7 c8,.slice A10 n11 c12],.slice A15 n16 c17,.slice A20 n21 c22] w (Zcy w F  r):=by
 unfold Zam at h
 refine Yv5 (vs:=[.agg #[.slice A2 n3 c4,.slice A6 n7 c8,.slice A10 n11 c12],.slice A15 n16 c17,.slice A20 n21 c22]) 40 Tryd.func71 rfl Tryd.ntmps71 rfl hL0 ?_
 show G (Zb9 w F r) _ _ _ _
 refine Yu9 rfl<|Yu4 rfl rfl ?_
 refine Yve 0 rfl (Zas [.slice A2 n3 c4,.slice A6 n7 c8,.slice A10 n11 c12] rfl rfl rfl fun gb24=>?_) gn
 refine Yu2 1 rfl (Yu7 rfl) gn rfl<|Yua 2 rfl<|Yu9 rfl<|Yu4 rfl rfl<|Yu2 0 rfl (Yub Yw7 rfl) gn rfl<|Yu2 1 rfl (Yue 0 Yz4 rfl rfl rfl) gn rfl<|Yu2 2 rfl (Yuo Yze rfl h5.hq) gn rfl<|Yu2 3 rfl (Yub Yxd rfl) gn rfl<|Yu2 4 rfl (Yue 0 Zak rfl rfl rfl) gn rfl<|Yu2 5 rfl (Yuo Zbm rfl h9.hq) gn rfl<|Yu2 6 rfl (Yug rfl rfl rfl) gn rfl ?_
 obtain ⟨hb26,h⟩:=h
 obtain ⟨x30,hv31,h⟩:=h
 refine Yve 7 rfl (Zib (enc:=eB) (z:=false) mk_103 rfl (by decide) rfl rfl hb26.1 hb26.2 (by decide) hv31 rfl fun A27 h28=>?_) gn
 refine Yu2 8 rfl (Yu7 rfl) gn rfl<|Yua 9 rfl<|Yu9 rfl<|Yu4 rfl rfl<|Yu2 0 rfl (Yyr [.slice A2 n3 c4,.slice A6 n7 c8,.slice A10 n11 c12] 1 Yys rfl rfl rfl rfl) gn rfl<|Yu2 1 rfl (Yu3 rfl) gn rfl<|Yu2 2 rfl (Yu3 rfl) gn rfl<|Yu2 3 rfl (Yu3 rfl) gn rfl ?_
 obtain ⟨r35,hv36,h⟩:=h
 refine Yve 4 rfl (Yvz [.agg #[.slice A2 n3 c4,.slice A6 n7 c8,.slice A10 n11 c12],.slice A15 n16 c17,.slice A20 n21 c22,.slice A27 ((w64 ((x1.terms.length:Int) + (x1.syms.length:Int)):Int).toNat) ((w64 ((x1.terms.length:Int) + (x1.syms.length:Int)):Int).toNat)] rfl Tryd.func77 rfl rfl rfl fun w32 hL33=>?_) gn
 have hp34:=pmI hL33 (.c 0 rfl .n) (.c 1 rfl .n) (by kernel_rfl)
 refine Calls.mono (Zha w32 (Fl ([]:List Yva)) x1 x14 x19 x30 A2 n3 c4 A6 n7 c8 A10 n11 c12 A15 n16 c17 A20 n21 c22 w.heap.size A27 ((w64 ((x1.terms.length:Int) + (x1.syms.length:Int)):Int).toNat) ((w64 ((x1.terms.length:Int) + (x1.syms.length:Int)):Int).toNat) (Rw.mono h5 (hL33.toSt hp34 (me 1 rfl))) (Rw.mono h9 (hL33.toSt hp34 (me 1 rfl))) (Rw.mono h13 (hL33.toSt hp34 (me 1 rfl))) (Rw.mono h18 (hL33.toSt hp34 (me 1 rfl))) (Rw.mono h23 (hL33.toSt hp34 (me 1 rfl))) hL33.env.size h28 (hL33.hFl hp34 (Yvm [] rfl)) (hL33.into hp34 _) r35 hv36) ?_
 rintro _ w42 ⟨A37,n38,c39,rfl,hM43,h40⟩
 have hL44:=hL33.call hp34 hM43
 refine ⟨_,_,_,rfl,hL44,?_⟩
 refine Yu2 5 rfl (Yu7 rfl) gn rfl<|Yua 6 rfl<|Yu9 rfl<|Yu4 rfl rfl<|Yu2 0 rfl (Yu7 rfl) gn rfl<|Yua 1 rfl<|Yu9 rfl<|Yu9 rfl<|Yu4 rfl rfl<|Yu2 0 rfl (Yu7 rfl) gn rfl<|Yua 1 rfl<|Yuw rfl ?_
 refine Ywm rfl ?_
 have key1:∀ s,Yui (fun (s:Int × Int) o=>Ywx x1 r35 s.1 s.2 o) s r→(fun (s:Int × Int)=>∀ (_:Unit),G (Zb9 w F r) [.code Zma,.inLoop Zma,.inBlock 0,.code Zph] [(3,.pointer (some ⟨gb24,0,none⟩)),(7,.slice A37 n38 c39),(8,.int .u64 s.1),(9,.int .i64 s.2)] [.own (.slice A37 n38 c39) 4 1 n38 (r35.flatMap eB),.box gb24 26 [.slice A2 n3 c4,.slice A6 n7 c8,.slice A10 n11 c12]] [Sm w.heap.size F w [],St w []]) s:=by
  intro s hs
  refine Yui.ind (mot:=(fun (s:Int × Int)=>∀ (_:Unit),G (Zb9 w F r) [.code Zma,.inLoop Zma,.inBlock 0,.code Zph] [(3,.pointer (some ⟨gb24,0,none⟩)),(7,.slice A37 n38 c39),(8,.int .u64 s.1),(9,.int .i64 s.2)] [.own (.slice A37 n38 c39) 4 1 n38 (r35.flatMap eB),.box gb24 26 [.slice A2 n3 c4,.slice A6 n7 c8,.slice A10 n11 c12]] [Sm w.heap.size F w [],St w []])) ?_ hs
  clear hs s
  intro s o1 h hO1
  obtain ⟨x50,x51⟩:=s
  show ∀ (_:Unit),G (Zb9 w F r) [.code Zma,.inLoop Zma,.inBlock 0,.code Zph] [(3,.pointer (some ⟨gb24,0,none⟩)),(7,.slice A37 n38 c39),(8,.int .u64 x50),(9,.int .i64 x51)] [.own (.slice A37 n38 c39) 4 1 n38 (r35.flatMap eB),.box gb24 26 [.slice A2 n3 c4,.slice A6 n7 c8,.slice A10 n11 c12]] [Sm w.heap.size F w [],St w []]
  intro _
  have h:Ywx x1 r35 x50 x51 o1:=h
  unfold Ywx at h
  refine Yu9 rfl<|Yu9 rfl<|Yu4 rfl rfl<|Yu2 0 rfl (Yu3 rfl) gn rfl<|Yu2 1 rfl (Yub Yw7 rfl) gn rfl<|Yu2 2 rfl (Yue 1 Yz4 rfl rfl rfl) gn rfl<|Yu2 3 rfl (Yuo Yze rfl h5.hq) gn rfl<|Yu2 4 rfl (Yug rfl rfl rfl) gn rfl<|Yua 5 rfl ?_
  by_cases hp56:x51 < (x1.terms.length:Int)
  ·have h:=Yul hp56 h
   refine Yv4 rfl _ rfl ((decide_eq_true hp56))<|Yv2 rfl<|Yu9 rfl<|Yuw rfl<|Yu9 rfl<|Yu4 rfl rfl<|Yu2 0 rfl (Yu3 rfl) gn rfl<|Yu2 1 rfl (Yu3 rfl) gn rfl ?_
   obtain ⟨hb57,h⟩:=h
   refine Yu2 2 rfl (Yyn Zfl rfl rfl h40 hb57) gn rfl<|Yu2 3 rfl (Zbb (.bool (ix r35 x51)) 0 Zlq rfl rfl (Zcj hlB hb57 rfl)) gn rfl<|Yua 4 rfl ?_
   by_cases hp58:(ix r35 x51)=true
   ·have h:=Yul hp58 h
    refine Yv4 rfl _ rfl (hp58)<|Yu4 rfl rfl<|Yu2 0 rfl (Yu3 rfl) gn rfl<|Yu2 1 rfl (Yu3 rfl) gn rfl<|Yu2 2 rfl (Zpk ⟨_,un_3⟩ un_127 rfl) gn rfl ?_
    obtain ⟨hb59,h⟩:=h
    refine Yu2 3 rfl (v_shl rfl rfl hb59) gn rfl<|Yu2 4 rfl (Yug rfl rfl rfl) gn rfl<|Yu2 5 rfl (Yu7 rfl) gn rfl<|Yua 6 rfl<|Yux<|Yu4 rfl rfl<|Yu2 0 rfl (Yu3 rfl) gn rfl<|Yu2 1 rfl (Yug rfl rfl rfl) gn rfl<|Yu2 2 rfl (Yu7 rfl) gn rfl<|Yua 3 rfl<|Yv1 ?_
    have ih:=Out.inl hO1 h
    exact Yvh [0,1] (ih ()) ⟨rfl,rfl,rfl,rfl,trivial⟩ (.cons_cons _ (.cons_cons _ (.slnil))) rfl
   ·have h:=Yum hp58 h
    refine Yur rfl _ rfl ((bf hp58))<|Yv2 rfl<|Yux<|Yu4 rfl rfl<|Yu2 0 rfl (Yu3 rfl) gn rfl<|Yu2 1 rfl (Yug rfl rfl rfl) gn rfl<|Yu2 2 rfl (Yu7 rfl) gn rfl<|Yua 3 rfl<|Yv1 ?_
    have ih:=Out.inl hO1 h
    exact Yvh [0,1] (ih ()) ⟨rfl,rfl,rfl,rfl,trivial⟩ (.cons_cons _ (.cons_cons _ (.slnil))) rfl
  ·have h:=Yum hp56 h
   refine Yur rfl _ rfl ((decide_eq_false hp56))<|Ywa [.code Zph] rfl rfl<|Yu9 rfl<|Yu4 rfl rfl<|Yu2 0 rfl (Yu3 rfl) gn rfl<|Yu2 1 rfl (Yu7 rfl) gn rfl<|Yua 2 rfl ?_
   have h:=Out.inr hO1 h
   refine Yvb [.int .u64 x50] rfl Tryd.func71 rfl (.tmp rfl (.nil)) fun wr hLr=>?_
   have hMr:=hLr.pk0 (.c 1 rfl .n)
   show Zcy w F  r (.returned (Yvl [.int .u64 x50])) wr
   rw [h]
   exact ⟨rfl,hMr⟩
 exact Yvh [0,1] (key1 _ h ()) ⟨rfl,rfl,rfl,rfl,trivial⟩ (.cons_cons _ (.cons_cons _ (.slnil))) rfl
noncomputable abbrev Zpi:=Code.snd (Code.snd (Code.snd (Code.snd (Code.snd (Yvq Tryd.f63)))))
noncomputable abbrev Zm7:=Code.fst (Code.fst (Code.snd (Code.fst (Code.snd (Code.snd (Code.snd (Code.snd (Yvq Tryd.f63))))))))
abbrev Zbk (w:World) (F:Nat→Prop) (r:List Int):Ending→World→Prop:=fun e w'=>∃ A0:Option Addr,∃ n0:Nat,∃ c0:Nat,e=.returned (.slice A0 n0 c0)∧B.Loc w w' [.own (.slice A0 n0 c0) 76 1 n0 (r.flatMap (eI .u64))] [St w []]∧Ow w.heap.size A0 n0 c0 r
noncomputable abbrev Zbi (w:World) (F:Nat→Prop) (r:List Int):Cx:=⟨Tryd.prog,63,Tryd.f63,34,Zbk w F  r,w⟩
theorem Zh9 (w:World) (F:Nat→Prop) (x1:Yu5) (A2:Option Addr) (n3:Nat) (c4:Nat) (A6:Option Addr) (n7:Nat) (c8:Nat) (A10:Option Addr) (n11:Nat) (c12:Nat) (h5:Rw Yuj w (St w []).av A2 n3 c4 x1.terms) (h9:Rw Yuq w (St w []).av A6 n7 c8 x1.syms) (h13:Rw Yun w (St w []).av A10 n11 c12 x1.prods) (hF:∀ b,F b→b < w.heap.size∧∀ o ∈ ([]:List (List Nat)),b ∉ o) (hL0:B.Loc w w [] [Sm w.heap.size F w [],St w []]) (r:List Int) (h:Zci x1 r):Calls Tryd.prog 63 #[.agg #[.slice A2 n3 c4,.slice A6 n7 c8,.slice A10 n11 c12]] w (Zbk w F  r):=by
 unfold Zci at h
 refine Yv5 (vs:=[.agg #[.slice A2 n3 c4,.slice A6 n7 c8,.slice A10 n11 c12]]) 34 Tryd.func63 rfl Tryd.ntmps63 rfl hL0 ?_
 show G (Zbi w F r) _ _ _ _
 refine Yu9 rfl<|Yu4 rfl rfl ?_
 refine Yve 0 rfl (Zas [.slice A2 n3 c4,.slice A6 n7 c8,.slice A10 n11 c12] rfl rfl rfl fun gb14=>?_) gn
 refine Yu2 1 rfl (Yu7 rfl) gn rfl<|Yua 2 rfl<|Yu9 rfl<|Yu9 rfl<|Yu4 rfl rfl<|Yu2 0 rfl (Yyr [.slice A2 n3 c4,.slice A6 n7 c8,.slice A10 n11 c12] 0 Yys rfl rfl rfl rfl) gn rfl ?_
 obtain ⟨r19,hv20,h⟩:=h
 refine Yve 1 rfl (Yvz [.agg #[.slice A2 n3 c4,.slice A6 n7 c8,.slice A10 n11 c12]] rfl Tryd.func69 rfl rfl rfl fun w16 hL17=>?_) gn
 have hp18:=pmI hL17 .n (.c 0 rfl .n) (by kernel_rfl)
 refine Calls.mono (Ze7 w16 (Fl ([]:List Yva)) x1 A2 n3 c4 A6 n7 c8 A10 n11 c12 (Rw.mono h5 (hL17.toSt hp18 (me 1 rfl))) (Rw.mono h9 (hL17.toSt hp18 (me 1 rfl))) (Rw.mono h13 (hL17.toSt hp18 (me 1 rfl))) (hL17.hFl hp18 (Yvm [] rfl)) (hL17.into hp18 _) r19 hv20) ?_
 rintro _ w21 ⟨rfl,hM22⟩
 have hL23:=hL17.call hp18 hM22
 refine ⟨_,_,_,rfl,hL23,?_⟩
 refine Yu2 2 rfl (Zf9 rfl) gn rfl<|Yua 3 rfl ?_
 by_cases hp24:r19=true
 ·have h:=Yul hp24 h
  refine Yur rfl _ rfl ((nf hp24))<|Yv2 rfl<|Yu9 rfl<|Yu4 rfl rfl<|Yu2 0 rfl (Yyr [.slice A2 n3 c4,.slice A6 n7 c8,.slice A10 n11 c12] 0 Yys rfl rfl rfl rfl) gn rfl ?_
  obtain ⟨r28,hv29,h⟩:=h
  refine Yve 1 rfl (Yvz [.agg #[.slice A2 n3 c4,.slice A6 n7 c8,.slice A10 n11 c12]] rfl Tryd.func62 rfl rfl rfl fun w25 hL26=>?_) gn
  have hp27:=pmI hL26 .n (.c 0 rfl .n) (by kernel_rfl)
  refine Calls.mono (Zd7 w25 (Fl ([]:List Yva)) x1 A2 n3 c4 A6 n7 c8 A10 n11 c12 (Rw.mono h5 (hL26.toSt hp27 (me 1 rfl))) (Rw.mono h9 (hL26.toSt hp27 (me 1 rfl))) (Rw.mono h13 (hL26.toSt hp27 (me 1 rfl))) (hL26.hFl hp27 (Yvm [] rfl)) (hL26.into hp27 _) r28 hv29) ?_
  rintro _ w35 ⟨A30,n31,c32,rfl,hM36,h33⟩
  have hL37:=hL26.call hp27 hM36
  refine ⟨_,_,_,rfl,hL37,?_⟩
  refine Yu2 2 rfl (Yu7 rfl) gn rfl<|Yua 3 rfl<|Yu9 rfl<|Yu4 rfl rfl<|Yu2 0 rfl (Yu7 rfl) gn rfl<|Yua 1 rfl<|Yu9 rfl<|Yu9 rfl<|Yu4 rfl rfl<|Yu2 0 rfl (Yu7 rfl) gn rfl<|Yua 1 rfl<|Yuw rfl ?_
  refine Ywm rfl ?_
  have key1:∀ s,Yui (fun (s:(List Int) × Int) o=>Yx0 x1 r28 s.1 s.2 o) s r→(fun (s:(List Int) × Int)=>∀ (A62:Option Addr) (n63:Nat) (c64:Nat) (h65:Ow w.heap.size A62 n63 c64 s.1),G (Zbi w F r) [.code Zm7,.inLoop Zm7,.inBlock 0,.code Zpi] [(1,.pointer (some ⟨gb14,0,none⟩)),(3,.slice A30 n31 c32),(4,.slice A62 n63 c64),(5,.int .i64 s.2)] [.own (.slice A62 n63 c64) 76 1 n63 (s.1.flatMap (eI .u64)),.own (.slice A30 n31 c32) 4 1 n31 (r28.flatMap eB),.box gb14 26 [.slice A2 n3 c4,.slice A6 n7 c8,.slice A10 n11 c12]] [Sm w.heap.size F w [],St w []]) s:=by
   intro s hs
   refine Yui.ind (mot:=(fun (s:(List Int) × Int)=>∀ (A62:Option Addr) (n63:Nat) (c64:Nat) (h65:Ow w.heap.size A62 n63 c64 s.1),G (Zbi w F r) [.code Zm7,.inLoop Zm7,.inBlock 0,.code Zpi] [(1,.pointer (some ⟨gb14,0,none⟩)),(3,.slice A30 n31 c32),(4,.slice A62 n63 c64),(5,.int .i64 s.2)] [.own (.slice A62 n63 c64) 76 1 n63 (s.1.flatMap (eI .u64)),.own (.slice A30 n31 c32) 4 1 n31 (r28.flatMap eB),.box gb14 26 [.slice A2 n3 c4,.slice A6 n7 c8,.slice A10 n11 c12]] [Sm w.heap.size F w [],St w []])) ?_ hs
   clear hs s
   intro s o1 h hO1
   obtain ⟨x61,x66⟩:=s
   show ∀ (A62:Option Addr) (n63:Nat) (c64:Nat) (h65:Ow w.heap.size A62 n63 c64 x61),G (Zbi w F r) [.code Zm7,.inLoop Zm7,.inBlock 0,.code Zpi] [(1,.pointer (some ⟨gb14,0,none⟩)),(3,.slice A30 n31 c32),(4,.slice A62 n63 c64),(5,.int .i64 x66)] [.own (.slice A62 n63 c64) 76 1 n63 (x61.flatMap (eI .u64)),.own (.slice A30 n31 c32) 4 1 n31 (r28.flatMap eB),.box gb14 26 [.slice A2 n3 c4,.slice A6 n7 c8,.slice A10 n11 c12]] [Sm w.heap.size F w [],St w []]
   intro A62 n63 c64 h65
   have h:Yx0 x1 r28 x61 x66 o1:=h
   unfold Yx0 at h
   refine Yu9 rfl<|Yu9 rfl<|Yu4 rfl rfl<|Yu2 0 rfl (Yu3 rfl) gn rfl<|Yu2 1 rfl (Yub Yw7 rfl) gn rfl<|Yu2 2 rfl (Yue 2 Yz4 rfl rfl rfl) gn rfl<|Yu2 3 rfl (Yuo Yze rfl h5.hq) gn rfl<|Yu2 4 rfl (Yub Yxd rfl) gn rfl<|Yu2 5 rfl (Yue 2 Zak rfl rfl rfl) gn rfl<|Yu2 6 rfl (Yuo Zbm rfl h9.hq) gn rfl<|Yu2 7 rfl (Yug rfl rfl rfl) gn rfl<|Yu2 8 rfl (Yug rfl rfl rfl) gn rfl ?_
   refine Yua 9 rfl ?_
   by_cases hp88:x66 < w64 ((x1.terms.length:Int) + (x1.syms.length:Int))
   ·have h:=Yul hp88 h
    refine Yv4 rfl _ rfl ((decide_eq_true hp88))<|Yv2 rfl<|Yu9 rfl<|Yuw rfl<|Yu9 rfl<|Yu4 rfl rfl<|Yu2 0 rfl (Yyr [.slice A2 n3 c4,.slice A6 n7 c8,.slice A10 n11 c12] 2 Yys rfl rfl rfl rfl) gn rfl<|Yu2 1 rfl (Yu3 rfl) gn rfl<|Yu2 2 rfl (Yu3 rfl) gn rfl<|Yu2 3 rfl (Zap #[.int .i64 x66,.string (⟨#[]⟩:ByteArray),.string (⟨#[]⟩:ByteArray)] bd_65 rfl (by kernel_rfl)) gn rfl ?_
    refine Yve 4 rfl (Zdd (xs:=([(⟨x66,(⟨#[]⟩:ByteArray),(⟨#[]⟩:ByteArray)⟩:Yut)]:List Yut)) [.int .i64 x66,.string (⟨#[]⟩:ByteArray),.string (⟨#[]⟩:ByteArray)] bs_61_1 rfl (by kernel_rfl) rfl rfl rfl rfl fun gb90 h91=>?_) gn
    obtain ⟨r95,hv96,h⟩:=h
    refine Yve 5 rfl (Yvz [.agg #[.slice A2 n3 c4,.slice A6 n7 c8,.slice A10 n11 c12],.slice A30 n31 c32,.slice (some ⟨gb90,0,none⟩) 1 1] rfl Tryd.func71 rfl rfl rfl fun w92 hL93=>?_) gn
    have hp94:=pmI hL93 .n (.c 0 rfl (.c 1 rfl (.c 2 rfl (.c 3 rfl .n)))) (by kernel_rfl)
    refine Calls.mono (Zgv w92 (Fl ([]:List Yva)) x1 r28 ([(⟨x66,(⟨#[]⟩:ByteArray),(⟨#[]⟩:ByteArray)⟩:Yut)]:List Yut) A2 n3 c4 A6 n7 c8 A10 n11 c12 A30 n31 c32 (some ⟨gb90,0,none⟩) 1 1 (Rw.mono h5 (hL93.toSt hp94 (me 1 rfl))) (Rw.mono h9 (hL93.toSt hp94 (me 1 rfl))) (Rw.mono h13 (hL93.toSt hp94 (me 1 rfl))) (hL93.argO (dk:=Yzi) hp94 [] rfl 2 rfl rfl (Ow.weak hL26.env.size h33) (me 0 rfl) (Cells.flat _)) (hL93.argO (dk:=Zav) hp94 [] rfl 0 rfl rfl h91 (me 0 rfl) (Cells.flat _)) (hL93.hFl hp94 (Yvm [] rfl)) (hL93.into hp94 _) r95 hv96) ?_
    rintro _ w97 ⟨rfl,hM98⟩
    have hL99:=hL93.call hp94 hM98
    refine ⟨_,_,_,rfl,hL99,?_⟩
    refine Yu2 6 rfl (Yu7 rfl) gn rfl<|Yua 7 rfl<|Yu4 rfl rfl<|Yu2 0 rfl (Yu3 rfl) gn rfl<|Yu2 1 rfl (Yu3 rfl) gn rfl ?_
    refine Yve 2 rfl (Zdd (xs:=([r95]:List Int)) [.int .u64 r95] bs_70_1 rfl (by kernel_rfl) rfl rfl rfl rfl fun gb101 h102=>?_) gn
    obtain ⟨x106,hv107,h⟩:=h
    obtain ⟨hb108,h⟩:=h
    refine Yve 3 rfl (Zdj (zs:=x106) (cells':=x106.flatMap (eI .u64)) 2 ap_70 rfl rfl rfl h65 (Nat.le_refl _) (Src.ownF (hl:=(hlI .u64)) (h1:=(Yya .u64)) 0 rfl h102) (by rw [hv107,List.flatMap_append] <;> rfl) (Yzh hv107 h102.hq) hb108 rfl rfl fun A103 c104 h105=>?_) gn
    refine Yu2 4 rfl (Yu7 rfl) gn rfl<|Yua 5 rfl<|Yux<|Yu4 rfl rfl<|Yu2 0 rfl (Yu3 rfl) gn rfl<|Yu2 1 rfl (Yug rfl rfl rfl) gn rfl<|Yu2 2 rfl (Yu7 rfl) gn rfl<|Yua 3 rfl<|Yv1 ?_
    have ih:=Out.inl hO1 h
    exact Yvh [0,1] (ih A103 (n63 + 1) c104 h105) ⟨rfl,rfl,rfl,rfl,trivial⟩ (.cons _ (.cons _ (.cons_cons _ (.cons_cons _ (.cons_cons _ (.slnil)))))) rfl
   ·have h:=Yum hp88 h
    refine Yur rfl _ rfl ((decide_eq_false hp88))<|Ywa [.code Zpi] rfl rfl<|Yu9 rfl<|Yu4 rfl rfl<|Yu2 0 rfl (Yu3 rfl) gn rfl<|Yu2 1 rfl (Yu7 rfl) gn rfl<|Yua 2 rfl ?_
    have h:=Out.inr hO1 h
    refine Yvb [.slice A62 n63 c64] rfl Tryd.func63 rfl (.tmp rfl (.nil)) fun wr hLr=>?_
    have hMr:=hLr.pkI (.c 0 rfl .n) (.c 1 rfl (.c 2 rfl .n)) (by kernel_rfl) (.c 1 rfl .n)
    show Zbk w F  r (.returned (Yvl [.slice A62 n63 c64])) wr
    rw [h]
    exact ⟨A62,n63,c64,rfl,hMr,h65⟩
  refine Zf4 76 1 ?_
  exact Yvh [0,1] (key1 _ h none 0 0 (Ow.nil (z:=w.heap.size))) ⟨rfl,rfl,rfl,rfl,trivial⟩ (.cons_cons _ (.cons_cons _ (.cons_cons _ (.slnil)))) rfl
 ·have h:=Yum hp24 h
  refine Yv4 rfl _ rfl ((nt (bf hp24)))<|Yu9 rfl<|Yu4 rfl rfl<|Yu2 0 rfl (Yu7 rfl) gn rfl<|Yua 1 rfl<|Zf4 76 1 ?_
  refine Yvb [.slice none 0 0] rfl Tryd.func63 rfl (.tmp rfl (.nil)) fun wr hLr=>?_
  have hMr:=hLr.pkI (.c 0 rfl .n) (.c 1 rfl .n) (by kernel_rfl) (.c 1 rfl .n)
  show Zbk w F  r (.returned (Yvl [.slice none 0 0])) wr
  rw [h]
  exact ⟨none,0,0,rfl,hMr,(Ow.nil (z:=w.heap.size))⟩
noncomputable abbrev Zpz:=Code.snd (Code.snd (Code.snd (Code.snd (Code.snd (Yvq Tryd.f45)))))
noncomputable abbrev Zj4:=Code.fst (Code.fst (Code.snd (Code.fst (Code.snd (Code.snd (Code.snd (Code.snd (Yvq Tryd.f45))))))))
noncomputable abbrev q45c24:=Code.fst (Code.fst (Code.fst (Code.snd Zj4)))
noncomputable abbrev q45c25:=Code.snd (Code.fst (Code.fst (Code.snd Zj4)))
abbrev Zck (w:World) (F:Nat→Prop) (r:Yuc):Ending→World→Prop:=fun e w'=>∃ gn0:Nat,∃ A3:Option Addr,∃ n3:Nat,∃ c3:Nat,∃ A4:Option Addr,∃ n4:Nat,∃ c4:Nat,∃ A5:Option Addr,∃ n5:Nat,∃ c5:Nat,∃ A0:Option Addr,∃ n0:Nat,∃ c0:Nat,∃ A1:Option Addr,∃ n1:Nat,∃ c1:Nat,∃ A2:Option Addr,∃ n2:Nat,∃ c2:Nat,e=.returned (.pointer (some ⟨gn0,0,none⟩))∧B.Loc w w' [.box gn0 123 [.slice A0 n0 c0,.slice A1 n1 c1,.slice A2 n2 c2,.slice A3 n3 c3,.slice A4 n4 c4,.slice A5 n5 c5,.int .i64 r.dots],.own (.slice A3 n3 c3) 4 1 n3 (r.none.flatMap eB),.own (.slice A4 n4 c4) 76 1 n4 (r.first.flatMap (eI .u64)),.own (.slice A5 n5 c5) 3 1 n5 (r.at_.flatMap (eI .i64))] [St w []]∧Ow w.heap.size A3 n3 c3 r.none∧Ow w.heap.size A4 n4 c4 r.first∧Ow w.heap.size A5 n5 c5 r.at_∧Rw Yuj w' (Nw w w' F [.box gn0 123 [.slice A0 n0 c0,.slice A1 n1 c1,.slice A2 n2 c2,.slice A3 n3 c3,.slice A4 n4 c4,.slice A5 n5 c5,.int .i64 r.dots],.own (.slice A3 n3 c3) 4 1 n3 (r.none.flatMap eB),.own (.slice A4 n4 c4) 76 1 n4 (r.first.flatMap (eI .u64)),.own (.slice A5 n5 c5) 3 1 n5 (r.at_.flatMap (eI .i64))]) A0 n0 c0 r.g.terms∧Rw Yuq w' (Nw w w' F [.box gn0 123 [.slice A0 n0 c0,.slice A1 n1 c1,.slice A2 n2 c2,.slice A3 n3 c3,.slice A4 n4 c4,.slice A5 n5 c5,.int .i64 r.dots],.own (.slice A3 n3 c3) 4 1 n3 (r.none.flatMap eB),.own (.slice A4 n4 c4) 76 1 n4 (r.first.flatMap (eI .u64)),.own (.slice A5 n5 c5) 3 1 n5 (r.at_.flatMap (eI .i64))]) A1 n1 c1 r.g.syms∧Rw Yun w' (Nw w w' F [.box gn0 123 [.slice A0 n0 c0,.slice A1 n1 c1,.slice A2 n2 c2,.slice A3 n3 c3,.slice A4 n4 c4,.slice A5 n5 c5,.int .i64 r.dots],.own (.slice A3 n3 c3) 4 1 n3 (r.none.flatMap eB),.own (.slice A4 n4 c4) 76 1 n4 (r.first.flatMap (eI .u64)),.own (.slice A5 n5 c5) 3 1 n5 (r.at_.flatMap (eI .i64))]) A2 n2 c2 r.g.prods
noncomputable abbrev Zao (w:World) (F:Nat→Prop) (r:Yuc):Cx:=⟨Tryd.prog,45,Tryd.f45,55,Zck w F  r,w⟩
theorem Zd8 (w:World) (F:Nat→Prop) (x1:Yu5) (A2:Option Addr) (n3:Nat) (c4:Nat) (A6:Option Addr) (n7:Nat) (c8:Nat) (A10:Option Addr) (n11:Nat) (c12:Nat) (h5:Rw Yuj w F A2 n3 c4 x1.terms) (h9:Rw Yuq w F A6 n7 c8 x1.syms) (h13:Rw Yun w F A10 n11 c12 x1.prods) (hF:∀ b,F b→b < w.heap.size∧∀ o ∈ ([]:List (List Nat)),b ∉ o) (hL0:B.Loc w w [] [Sm w.heap.size F w [],St w []]) (r:Yuc) (h:Yyh x1 r):Calls Tryd.prog 45 #[.agg #[.slice A2 n3 c4,.slice A6 n7 c8,.slice A10 n11 c12]] w (Zck w F  r):=by
 unfold Yyh at h
 have h5:=Rw.into (bs:=[]) hF h5
 have h9:=Rw.into (bs:=[]) hF h9
 have h13:=Rw.into (bs:=[]) hF h13
 refine Yv5 (vs:=[.agg #[.slice A2 n3 c4,.slice A6 n7 c8,.slice A10 n11 c12]]) 55 Tryd.func45 rfl Tryd.ntmps45 rfl hL0 ?_
 show G (Zao w F r) _ _ _ _
 refine Yu9 rfl<|Yu4 rfl rfl ?_
 refine Yve 0 rfl (Zas [.slice A2 n3 c4,.slice A6 n7 c8,.slice A10 n11 c12] rfl rfl rfl fun gb14=>?_) gn
 refine Yu2 1 rfl (Yu7 rfl) gn rfl<|Yua 2 rfl<|Yu9 rfl<|Yu4 rfl rfl<|Yu2 0 rfl (Yyr [.slice A2 n3 c4,.slice A6 n7 c8,.slice A10 n11 c12] 0 Yys rfl rfl rfl rfl) gn rfl<|Yu2 1 rfl (Zap #[.slice A2 n3 c4,.slice A6 n7 c8,.slice A10 n11 c12,.slice none 0 0,.slice none 0 0,.slice none 0 0,.int .i64 0] bd_123 rfl (by kernel_rfl)) gn rfl ?_
 refine Yve 2 rfl (Zas [.slice A2 n3 c4,.slice A6 n7 c8,.slice A10 n11 c12,.slice none 0 0,.slice none 0 0,.slice none 0 0,.int .i64 0] rfl rfl rfl fun gb16=>?_) gn
 refine Yu2 3 rfl (Yu7 rfl) gn rfl<|Yua 4 rfl<|Yu9 rfl<|Yu4 rfl rfl<|Yu2 0 rfl (Yu3 rfl) gn rfl<|Yu2 1 rfl (Yyr [.slice A2 n3 c4,.slice A6 n7 c8,.slice A10 n11 c12] 1 Yys rfl rfl rfl rfl) gn rfl ?_
 obtain ⟨r21,hv22,h⟩:=h
 refine Yve 2 rfl (Yvz [.agg #[.slice A2 n3 c4,.slice A6 n7 c8,.slice A10 n11 c12]] rfl Tryd.func62 rfl rfl rfl fun w18 hL19=>?_) gn
 have hp20:=pmI hL19 .n (.c 0 rfl (.c 1 rfl .n)) (by kernel_rfl)
 refine Calls.mono (Zd7 w18 (Fl ([]:List Yva)) x1 A2 n3 c4 A6 n7 c8 A10 n11 c12 (Rw.mono h5 (hL19.toSt hp20 (me 0 rfl))) (Rw.mono h9 (hL19.toSt hp20 (me 0 rfl))) (Rw.mono h13 (hL19.toSt hp20 (me 0 rfl))) (hL19.hFl hp20 (Yvm [] rfl)) (hL19.into hp20 _) r21 hv22) ?_
 rintro _ w28 ⟨A23,n24,c25,rfl,hM29,h26⟩
 have hL30:=hL19.call hp20 hM29
 refine ⟨_,_,_,rfl,hL30,?_⟩
 refine Yu2 3 rfl (Yuy rfl) gn rfl<|Yu2 4 rfl (Yub Zrm rfl) gn rfl ?_
 refine Yve 5 rfl (Za4 (vs:=[.slice A23 n24 c25]) (cs':=[.slice A2 n3 c4,.slice A6 n7 c8,.slice A10 n11 c12,.slice A23 n24 c25,.slice none 0 0,.slice none 0 0,.int .i64 0]) (M':=[.own (.slice A23 n24 c25) 4 1 n24 (r21.flatMap eB),.box gb16 123 [.slice A2 n3 c4,.slice A6 n7 c8,.slice A10 n11 c12,.slice A23 n24 c25,.slice none 0 0,.slice none 0 0,.int .i64 0],.box gb14 26 [.slice A2 n3 c4,.slice A6 n7 c8,.slice A10 n11 c12]]) 1 sz_103 rfl rfl rfl rfl rfl rfl rfl rfl rfl ?_) gn
 refine Yua 6 rfl<|Yu9 rfl<|Yu4 rfl rfl<|Yu2 0 rfl (Yu3 rfl) gn rfl<|Yu2 1 rfl (Yyr [.slice A2 n3 c4,.slice A6 n7 c8,.slice A10 n11 c12] 2 Yys rfl rfl rfl rfl) gn rfl ?_
 obtain ⟨r34,hv35,h⟩:=h
 refine Yve 2 rfl (Yvz [.agg #[.slice A2 n3 c4,.slice A6 n7 c8,.slice A10 n11 c12]] rfl Tryd.func63 rfl rfl rfl fun w31 hL32=>?_) gn
 have hp33:=pmI hL32 .n (.c 0 rfl (.c 1 rfl (.c 2 rfl .n))) (by kernel_rfl)
 refine Calls.mono (Zh9 w31 (Fl ([]:List Yva)) x1 A2 n3 c4 A6 n7 c8 A10 n11 c12 (Rw.mono h5 (hL32.toSt hp33 (me 0 rfl))) (Rw.mono h9 (hL32.toSt hp33 (me 0 rfl))) (Rw.mono h13 (hL32.toSt hp33 (me 0 rfl))) (hL32.hFl hp33 (Yvm [] rfl)) (hL32.into hp33 _) r34 hv35) ?_
 rintro _ w41 ⟨A36,n37,c38,rfl,hM42,h39⟩
 have hL43:=hL32.call hp33 hM42
 refine ⟨_,_,_,rfl,hL43,?_⟩
 refine Yu2 3 rfl (Yuy rfl) gn rfl<|Yu2 4 rfl (Yub Zr6 rfl) gn rfl ?_
 refine Yve 5 rfl (Za4 (vs:=[.slice A36 n37 c38]) (cs':=[.slice A2 n3 c4,.slice A6 n7 c8,.slice A10 n11 c12,.slice A23 n24 c25,.slice A36 n37 c38,.slice none 0 0,.int .i64 0]) (M':=[.own (.slice A36 n37 c38) 76 1 n37 (r34.flatMap (eI .u64)),.own (.slice A23 n24 c25) 4 1 n24 (r21.flatMap eB),.box gb16 123 [.slice A2 n3 c4,.slice A6 n7 c8,.slice A10 n11 c12,.slice A23 n24 c25,.slice A36 n37 c38,.slice none 0 0,.int .i64 0],.box gb14 26 [.slice A2 n3 c4,.slice A6 n7 c8,.slice A10 n11 c12]]) 2 sz_70 rfl rfl rfl rfl rfl rfl rfl rfl rfl ?_) gn
 refine Yua 6 rfl<|Yu9 rfl<|Yu9 rfl<|Yu4 rfl rfl<|Yu2 0 rfl (Yu7 rfl) gn rfl<|Yua 1 rfl<|Yuw rfl<|Ywm rfl ?_
 have key1:∀ s,Yui (fun (s:Int × (List Int) × Int) o=>Ywo x1 r21 r34 s.1 s.2.1 s.2.2 o) s r→(fun (s:Int × (List Int) × Int)=>∀ (A103:Option Addr) (n104:Nat) (c105:Nat) (h106:Ow w.heap.size A103 n104 c105 s.2.1),G (Zao w F r) [.code Zj4,.inLoop Zj4,.inBlock 0,.code Zpz] [(1,.pointer (some ⟨gb14,0,none⟩)),(3,.pointer (some ⟨gb16,0,none⟩)),(4,.int .i64 s.1)] [.own (.slice A103 n104 c105) 3 1 n104 (s.2.1.flatMap (eI .i64)),.own (.slice A36 n37 c38) 76 1 n37 (r34.flatMap (eI .u64)),.own (.slice A23 n24 c25) 4 1 n24 (r21.flatMap eB),.box gb16 123 [.slice A2 n3 c4,.slice A6 n7 c8,.slice A10 n11 c12,.slice A23 n24 c25,.slice A36 n37 c38,.slice A103 n104 c105,.int .i64 s.2.2],.box gb14 26 [.slice A2 n3 c4,.slice A6 n7 c8,.slice A10 n11 c12]] [Sm w.heap.size F w [],St w []]) s:=by
  intro s hs
  refine Yui.ind (mot:=(fun (s:Int × (List Int) × Int)=>∀ (A103:Option Addr) (n104:Nat) (c105:Nat) (h106:Ow w.heap.size A103 n104 c105 s.2.1),G (Zao w F r) [.code Zj4,.inLoop Zj4,.inBlock 0,.code Zpz] [(1,.pointer (some ⟨gb14,0,none⟩)),(3,.pointer (some ⟨gb16,0,none⟩)),(4,.int .i64 s.1)] [.own (.slice A103 n104 c105) 3 1 n104 (s.2.1.flatMap (eI .i64)),.own (.slice A36 n37 c38) 76 1 n37 (r34.flatMap (eI .u64)),.own (.slice A23 n24 c25) 4 1 n24 (r21.flatMap eB),.box gb16 123 [.slice A2 n3 c4,.slice A6 n7 c8,.slice A10 n11 c12,.slice A23 n24 c25,.slice A36 n37 c38,.slice A103 n104 c105,.int .i64 s.2.2],.box gb14 26 [.slice A2 n3 c4,.slice A6 n7 c8,.slice A10 n11 c12]] [Sm w.heap.size F w [],St w []])) ?_ hs
  clear hs s
  intro s o1 h hO1
  obtain ⟨x101,x102,x107⟩:=s
  show ∀ (A103:Option Addr) (n104:Nat) (c105:Nat) (h106:Ow w.heap.size A103 n104 c105 x102),G (Zao w F r) [.code Zj4,.inLoop Zj4,.inBlock 0,.code Zpz] [(1,.pointer (some ⟨gb14,0,none⟩)),(3,.pointer (some ⟨gb16,0,none⟩)),(4,.int .i64 x101)] [.own (.slice A103 n104 c105) 3 1 n104 (x102.flatMap (eI .i64)),.own (.slice A36 n37 c38) 76 1 n37 (r34.flatMap (eI .u64)),.own (.slice A23 n24 c25) 4 1 n24 (r21.flatMap eB),.box gb16 123 [.slice A2 n3 c4,.slice A6 n7 c8,.slice A10 n11 c12,.slice A23 n24 c25,.slice A36 n37 c38,.slice A103 n104 c105,.int .i64 x107],.box gb14 26 [.slice A2 n3 c4,.slice A6 n7 c8,.slice A10 n11 c12]] [Sm w.heap.size F w [],St w []]
  intro A103 n104 c105 h106
  have h:Ywo x1 r21 r34 x101 x102 x107 o1:=h
  unfold Ywo at h
  refine Yu9 rfl<|Yu9 rfl<|Yu4 rfl rfl<|Yu2 0 rfl (Yu3 rfl) gn rfl<|Yu2 1 rfl (Yub Yvf rfl) gn rfl<|Yu2 2 rfl (Yue 4 Ywb rfl rfl rfl) gn rfl<|Yu2 3 rfl (Yuo Za3 rfl h13.hq) gn rfl<|Yu2 4 rfl (Yug rfl rfl rfl) gn rfl<|Yua 5 rfl ?_
  by_cases hp160:x101 < (x1.prods.length:Int)
  ·have h:=Yul hp160 h
   refine Yv4 rfl _ rfl ((decide_eq_true hp160))<|Yv2 rfl<|Yu9 rfl<|Yuw rfl<|Yu9 rfl ?_
   obtain ⟨x167,hv168,h⟩:=h
   obtain ⟨hb169,h⟩:=h
   have hns:Region.noSelect (Code.ops q45c24)=true:=by kernel_rfl
   refine Zg2 [.own (.slice A36 n37 c38) 76 1 n37 (r34.flatMap (eI .u64)),.own (.slice A23 n24 c25) 4 1 n24 (r21.flatMap eB),.box gb16 123 [.slice A2 n3 c4,.slice A6 n7 c8,.slice A10 n11 c12,.slice A23 n24 c25,.slice A36 n37 c38,.slice A103 n104 c105,.int .i64 x107],.box gb14 26 [.slice A2 n3 c4,.slice A6 n7 c8,.slice A10 n11 c12]] [Sm w.heap.size F w [],St w []] [13] 14 rfl rfl mix rfl (.cons _ (.cons_cons _ (.cons_cons _ (.cons_cons _ (.cons_cons _ (.slnil)))))) (Yvm [0,1] rfl)<|wfv 0 rfl (Yu3 rfl) gn hns (by kernel_rfl)<|wfv 1 rfl (Yu3 rfl) gn hns (by kernel_rfl)<|wfv 2 rfl (Yuy rfl) gn hns (by kernel_rfl)<|wfv 3 rfl (Yub Zdz rfl) gn hns (by kernel_rfl)<|wfv 4 rfl (Yue 2 Zew rfl rfl rfl) gn hns (by kernel_rfl)<|wfv 5 rfl (Yu3 rfl) gn hns (by kernel_rfl)<|wfv 6 rfl (Yuy rfl) gn hns (by kernel_rfl)<|wfv 7 rfl (Yub Ziv rfl) gn hns (by kernel_rfl)<|wfv 8 rfl (Yue 2 Yvt rfl rfl rfl) gn hns (by kernel_rfl) ?_
   refine Ywl [9] (by kernel_rfl) rfl ⟨Zdm 9 rfl gn rfl (Zdd (xs:=([x107]:List Int)) [.int .i64 x107] Zms rfl (by kernel_rfl) rfl rfl rfl rfl fun gb182 h183=>?_),trivial⟩
   refine ⟨Yvm [2,3,4,5] rfl,Yvm [0,1] rfl,?_⟩
   refine Ywl [10] (by kernel_rfl) rfl ⟨Zdm 10 rfl gn rfl (Zdj (zs:=x167) (cells':=x167.flatMap (eI .i64)) 1 ap_47 rfl rfl rfl h106 (Nat.le_refl _) (Src.ownF (hl:=(hlI .i64)) (h1:=(Yya .i64)) 0 rfl h183) (by rw [hv168,List.flatMap_append] <;> rfl) (Yzh hv168 h183.hq) hb169 rfl rfl fun A187 c188 h189=>?_),trivial⟩
   refine ⟨Yvm [2,3,4,5] rfl,Yvm [0,1] rfl,?_⟩
   refine wfv 11 rfl (Yuy rfl) gn hns (by kernel_rfl)<|wfv 12 rfl (Yub Zdz rfl) gn hns (by kernel_rfl) ?_
   refine Ywl [13] (by kernel_rfl) rfl ⟨Zi7 13 rfl gn rfl (Za4 (vs:=[.slice A187 (n104 + 1) c188]) (cs':=[.slice A2 n3 c4,.slice A6 n7 c8,.slice A10 n11 c12,.slice A23 n24 c25,.slice A36 n37 c38,.slice A187 (n104 + 1) c188,.int .i64 x107]) (M':=[.own (.slice (some ⟨gb182,0,none⟩) 1 1) 3 1 1 (([x107]:List Int).flatMap (eI .i64)),.own (.slice A187 (n104 + 1) c188) 3 1 (n104 + 1) (x167.flatMap (eI .i64)),.own (.slice A36 n37 c38) 76 1 n37 (r34.flatMap (eI .u64)),.own (.slice A23 n24 c25) 4 1 n24 (r21.flatMap eB),.box gb16 123 [.slice A2 n3 c4,.slice A6 n7 c8,.slice A10 n11 c12,.slice A23 n24 c25,.slice A36 n37 c38,.slice A187 (n104 + 1) c188,.int .i64 x107],.box gb14 26 [.slice A2 n3 c4,.slice A6 n7 c8,.slice A10 n11 c12]]) 4 Zqf rfl rfl rfl rfl rfl rfl rfl rfl rfl ?_),trivial⟩
   unfold NxL
   refine Yvx (by kernel_rfl) ?_
   obtain ⟨hb190,h⟩:=h
   have hns:Region.noSelect (Code.ops q45c25)=true:=by kernel_rfl
   refine Yvr [16] 17 rfl rfl mix rfl (.c 0 rfl (.c 1 rfl .n))<|wfv 0 rfl (Yu3 rfl) gn hns (by kernel_rfl)<|wfv 1 rfl (Yu3 rfl) gn hns (by kernel_rfl)<|wfv 2 rfl (Yuy rfl) gn hns (by kernel_rfl)<|wfv 3 rfl (Yub Ziv rfl) gn hns (by kernel_rfl)<|wfv 4 rfl (Yue 4 Yvt rfl rfl rfl) gn hns (by kernel_rfl)<|wfv 5 rfl (Yub Yvf rfl) gn hns (by kernel_rfl)<|wfv 6 rfl (Yue 5 Ywb rfl rfl rfl) gn hns (by kernel_rfl)<|wfv 7 rfl (Yu3 rfl) gn hns (by kernel_rfl) ?_
   obtain ⟨ce206,hK207,hr205⟩:=Rw.read (s:=Sm w.heap.size F w []) h13 hb190
   obtain ⟨A208,n209,c210,rfl,h211⟩:=hK207
   refine wfv 8 rfl (Yv7 (s:=Sm w.heap.size F w []) Yxh rfl rfl h13 hb190) gn hns (by kernel_rfl)<|wfv 9 rfl (Yvo Yw1 rfl) gn hns (by kernel_rfl)<|wfv 10 rfl (Yvj (kk:=(x101:Int).toNat * 2) (j:=1) (Sm w.heap.size F w []) Yyc rfl hr205 rfl (me 0 rfl)) gn hns (by kernel_rfl)<|wfv 11 rfl (Yuo Za5 rfl h211.hq) gn hns (by kernel_rfl)<|wfv 12 rfl (Yug rfl rfl rfl) gn hns (by kernel_rfl)<|wfv 13 rfl (Yug rfl rfl rfl) gn hns (by kernel_rfl)<|wfv 14 rfl (Yuy rfl) gn hns (by kernel_rfl)<|wfv 15 rfl (Yub Ziv rfl) gn hns (by kernel_rfl) ?_
   refine Ywl [16] (by kernel_rfl) rfl ⟨Zi7 16 rfl gn rfl (Za4 (vs:=[.int .i64 (w64 ((w64 (x107 + (((ix x1.prods x101).rhs).length:Int))) + 1))]) (cs':=[.slice A2 n3 c4,.slice A6 n7 c8,.slice A10 n11 c12,.slice A23 n24 c25,.slice A36 n37 c38,.slice A187 (n104 + 1) c188,.int .i64 (w64 ((w64 (x107 + (((ix x1.prods x101).rhs).length:Int))) + 1))]) (M':=[.own (.slice (some ⟨gb182,0,none⟩) 1 1) 3 1 1 (([x107]:List Int).flatMap (eI .i64)),.own (.slice A187 (n104 + 1) c188) 3 1 (n104 + 1) (x167.flatMap (eI .i64)),.own (.slice A36 n37 c38) 76 1 n37 (r34.flatMap (eI .u64)),.own (.slice A23 n24 c25) 4 1 n24 (r21.flatMap eB),.box gb16 123 [.slice A2 n3 c4,.slice A6 n7 c8,.slice A10 n11 c12,.slice A23 n24 c25,.slice A36 n37 c38,.slice A187 (n104 + 1) c188,.int .i64 (w64 ((w64 (x107 + (((ix x1.prods x101).rhs).length:Int))) + 1))],.box gb14 26 [.slice A2 n3 c4,.slice A6 n7 c8,.slice A10 n11 c12]]) 4 sz_3 rfl rfl rfl rfl rfl rfl rfl rfl rfl ?_),trivial⟩
   unfold NxL
   refine Yvx (by kernel_rfl)<|Yux<|Yu4 rfl rfl<|Yu2 0 rfl (Yu3 rfl) gn rfl<|Yu2 1 rfl (Yug rfl rfl rfl) gn rfl<|Yu2 2 rfl (Yu7 rfl) gn rfl<|Yua 3 rfl<|Yv1 ?_
   have ih:=Out.inl hO1 h
   exact Yvh [0,1] (ih A187 (n104 + 1) c188 h189) ⟨rfl,rfl,rfl,trivial⟩ (.cons _ (.cons_cons _ (.cons_cons _ (.cons_cons _ (.cons_cons _ (.cons_cons _ (.slnil))))))) rfl
  ·have h:=Yum hp160 h
   refine Yur rfl _ rfl ((decide_eq_false hp160))<|Ywa [.code Zpz] rfl rfl<|Yu9 rfl<|Yu4 rfl rfl<|Yu2 0 rfl (Yu3 rfl) gn rfl<|Yu2 1 rfl (Yu7 rfl) gn rfl<|Yua 2 rfl ?_
   have h:=Out.inr hO1 h
   refine Yvb [.pointer (some ⟨gb16,0,none⟩)] rfl Tryd.func45 rfl (.tmp rfl (.nil)) fun wr hLr=>?_
   have hMr:=hLr.pkI (.c 3 rfl (.c 2 rfl (.c 1 rfl (.c 0 rfl .n)))) (.c 4 rfl .n) (by kernel_rfl) (.c 1 rfl .n)
   have hMi:=hLr.selI (.c 3 rfl (.c 2 rfl (.c 1 rfl (.c 0 rfl .n))))
   show Zck w F  r (.returned (Yvl [.pointer (some ⟨gb16,0,none⟩)])) wr
   rw [h]
   exact ⟨gb16,A23,n24,c25,A36,n37,c38,A103,n104,c105,A2,n3,c4,A6,n7,c8,A10,n11,c12,rfl,hMr,(Ow.weak hL19.env.size h26),(Ow.weak hL32.env.size h39),h106,(hLr.outR (s:=Sm w.heap.size F w []) hMi (me 0 rfl) Sm.ok h5),(hLr.outR (s:=Sm w.heap.size F w []) hMi (me 0 rfl) Sm.ok h9),(hLr.outR (s:=Sm w.heap.size F w []) hMi (me 0 rfl) Sm.ok h13)⟩
 refine Zf4 3 1 ?_
 exact Yvh [0,1] (key1 _ h none 0 0 (Ow.nil (z:=w.heap.size))) ⟨rfl,rfl,rfl,trivial⟩ (.cons_cons _ (.cons_cons _ (.cons_cons _ (.cons_cons _ (.cons_cons _ (.slnil)))))) rfl
noncomputable abbrev Zp2:=Code.fst (Code.snd (Yvq Tryd.f64))
abbrev Yyx (w:World) (F:Nat→Prop) (r:Bool):Ending→World→Prop:=fun e w'=>e=.returned (.bool r)∧B.Loc w w' [] [St w []]
noncomputable abbrev Zkz (w:World) (F:Nat→Prop) (r:Bool):Cx:=⟨Tryd.prog,64,Tryd.f64,47,Yyx w F  r,w⟩
theorem Zii (w:World) (F:Nat→Prop) (x1:Yu5) (x14:Yud) (A2:Option Addr) (n3:Nat) (c4:Nat) (A6:Option Addr) (n7:Nat) (c8:Nat) (A10:Option Addr) (n11:Nat) (c12:Nat) (h5:Rw Yuj w (St w []).av A2 n3 c4 x1.terms) (h9:Rw Yuq w (St w []).av A6 n7 c8 x1.syms) (h13:Rw Yun w (St w []).av A10 n11 c12 x1.prods) (hF:∀ b,F b→b < w.heap.size∧∀ o ∈ ([]:List (List Nat)),b ∉ o) (hL0:B.Loc w w [] [Sm w.heap.size F w [],St w []]) (r:Bool) (h:Zcp x1 x14 r):Calls Tryd.prog 64 #[.agg #[.slice A2 n3 c4,.slice A6 n7 c8,.slice A10 n11 c12],.agg #[.int .i64 x14.prod,.int .i64 x14.dot,.int .i64 x14.look]] w (Yyx w F  r):=by
 unfold Zcp at h
 refine Yv5 (vs:=[.agg #[.slice A2 n3 c4,.slice A6 n7 c8,.slice A10 n11 c12],.agg #[.int .i64 x14.prod,.int .i64 x14.dot,.int .i64 x14.look]]) 47 Tryd.func64 rfl Tryd.ntmps64 rfl hL0 ?_
 show G (Zkz w F r) _ _ _ _
 refine Yu9 rfl<|Yu4 rfl rfl ?_
 refine Yve 0 rfl (Zas [.slice A2 n3 c4,.slice A6 n7 c8,.slice A10 n11 c12] rfl rfl rfl fun gb15=>?_) gn
 refine Yve 1 rfl (Zas [.int .i64 x14.prod,.int .i64 x14.dot,.int .i64 x14.look] rfl rfl rfl fun gb17=>?_) gn
 refine Yu2 2 rfl (Yu7 rfl) gn rfl<|Yua 3 rfl<|Yu9 rfl ?_
 by_cases hp19:x14.prod≥0
 ·have h:=Yul hp19 h
  by_cases hp20:x14.prod < (x1.prods.length:Int)
  ·have h:=Yul hp20 h
   by_cases hp21:x14.dot≥0
   ·have h:=Yul hp21 h
    obtain ⟨hb22,h⟩:=h
    by_cases hp30:x14.dot≤(((ix x1.prods x14.prod).rhs).length:Int)
    ·have h:=Yul hp30 h
     by_cases hp31:x14.look≥0
     ·have h:=Yul hp31 h
      have hns:Region.noSelect (Code.ops Zp2)=true:=by kernel_rfl
      refine Yvr [] 43 rfl rfl mix rfl (.c 0 rfl (.c 1 rfl .n))<|wfv 0 rfl (Yub Yy5 rfl) gn hns rfl<|wfv 1 rfl (Yue 0 Yvt rfl rfl rfl) gn hns rfl<|wfv 2 rfl (Yug rfl rfl rfl) gn hns rfl<|wfv 3 rfl (Yu3 rfl) gn hns rfl<|Yv8 8 rfl ((decide_eq_true hp19))<|wfv 4 rfl (Yub Yy5 rfl) (gy 8 rfl rfl) hns rfl<|wfv 5 rfl (Yue 0 Yvt rfl rfl rfl) (gy 8 rfl rfl) hns rfl<|wfv 6 rfl (Yub Yvf rfl) (gy 8 rfl rfl) hns rfl<|wfv 7 rfl (Yue 1 Ywb rfl rfl rfl) (gy 8 rfl rfl) hns rfl<|wfv 8 rfl (Yuo Za3 rfl h13.hq) (gy 8 rfl rfl) hns rfl<|wfv 9 rfl (Yug rfl rfl rfl) (gy 8 rfl rfl) hns rfl ?_
      refine wfv 10 rfl (Yuk (b:=true) rfl rfl) gn hns rfl<|wfv 11 rfl (Yu3 rfl) gn hns rfl<|Yv8 16 rfl ((decide_eq_true hp20))<|wfv 12 rfl (Yub Zb8 rfl) (gy 16 rfl rfl) hns rfl<|wfv 13 rfl (Yue 0 Yvt rfl rfl rfl) (gy 16 rfl rfl) hns rfl<|wfv 14 rfl (Yug rfl rfl rfl) (gy 16 rfl rfl) hns rfl<|wfv 15 rfl (Yuk (b:=true) rfl rfl) gn hns rfl<|wfv 16 rfl (Yu3 rfl) gn hns rfl<|Yv8 21 rfl ((decide_eq_true hp21))<|wfv 17 rfl (Yub Zb8 rfl) (gy 21 rfl rfl) hns rfl<|wfv 18 rfl (Yue 0 Yvt rfl rfl rfl) (gy 21 rfl rfl) hns rfl<|wfv 19 rfl (Yub Yvf rfl) (gy 21 rfl rfl) hns rfl ?_
      refine wfv 20 rfl (Yue 1 Ywb rfl rfl rfl) (gy 21 rfl rfl) hns rfl<|wfv 21 rfl (Yub Yy5 rfl) (gy 21 rfl rfl) hns rfl<|wfv 22 rfl (Yue 0 Yvt rfl rfl rfl) (gy 21 rfl rfl) hns rfl ?_
      obtain ⟨ce40,hK41,hr39⟩:=Rw.read (s:=St w []) h13 hb22
      obtain ⟨A42,n43,c44,rfl,h45⟩:=hK41
      refine wfv 23 rfl (Yv7 (s:=St w []) Yxh rfl rfl h13 hb22) (gy 21 rfl rfl) hns rfl<|wfv 24 rfl (Yvo Yw1 rfl) (gy 21 rfl rfl) hns rfl<|wfv 25 rfl (Yvj (kk:=(x14.prod:Int).toNat * 2) (j:=1) (St w []) Yyc rfl hr39 rfl (me 1 rfl)) (gy 21 rfl rfl) hns rfl<|wfv 26 rfl (Yuo Za5 rfl h45.hq) (gy 21 rfl rfl) hns rfl<|wfv 27 rfl (Yug rfl rfl rfl) (gy 21 rfl rfl) hns rfl<|wfv 28 rfl (Yuk (b:=true) rfl rfl) gn hns rfl<|wfv 29 rfl (Yu3 rfl) gn hns rfl<|Yv8 34 rfl ((decide_eq_true hp30))<|wfv 30 rfl (Yub Zgy rfl) (gy 34 rfl rfl) hns rfl<|wfv 31 rfl (Yue 0 Yvt rfl rfl rfl) (gy 34 rfl rfl) hns rfl<|wfv 32 rfl (Yug rfl rfl rfl) (gy 34 rfl rfl) hns rfl<|wfv 33 rfl (Yuk (b:=true) rfl rfl) gn hns rfl ?_
      refine wfv 34 rfl (Yu3 rfl) gn hns rfl<|Yv8 39 rfl ((decide_eq_true hp31))<|wfv 35 rfl (Yub Zgy rfl) (gy 39 rfl rfl) hns rfl<|wfv 36 rfl (Yue 0 Yvt rfl rfl rfl) (gy 39 rfl rfl) hns rfl<|wfv 37 rfl (Yub Yw7 rfl) (gy 39 rfl rfl) hns rfl<|wfv 38 rfl (Yue 1 Yz4 rfl rfl rfl) (gy 39 rfl rfl) hns rfl<|wfv 39 rfl (Yuo Yze rfl h5.hq) (gy 39 rfl rfl) hns rfl<|wfv 40 rfl (Yug rfl rfl rfl) (gy 39 rfl rfl) hns rfl<|wfv 41 rfl (Yuk (b:=true) rfl rfl) gn hns rfl<|wfv 42 rfl (Yu7 rfl) gn hns rfl<|Yvx (by kernel_rfl) ?_
      refine Yvb [.bool (decide (x14.look < (x1.terms.length:Int)))] rfl Tryd.func64 rfl (.tmp rfl (.nil)) fun wr hLr=>?_
      have hMr:=hLr.pk0 (.c 1 rfl .n)
      show Yyx w F  r (.returned (Yvl [.bool (decide (x14.look < (x1.terms.length:Int)))])) wr
      rw [h]
      exact ⟨rfl,hMr⟩
     ·have h:=Yum hp31 h
      have hns:Region.noSelect (Code.ops Zp2)=true:=by kernel_rfl
      refine Yvr [] 43 rfl rfl mix rfl (.c 0 rfl (.c 1 rfl .n))<|wfv 0 rfl (Yub Yy5 rfl) gn hns rfl<|wfv 1 rfl (Yue 0 Yvt rfl rfl rfl) gn hns rfl<|wfv 2 rfl (Yug rfl rfl rfl) gn hns rfl<|wfv 3 rfl (Yu3 rfl) gn hns rfl<|Yv8 8 rfl ((decide_eq_true hp19))<|wfv 4 rfl (Yub Yy5 rfl) (gy 8 rfl rfl) hns rfl<|wfv 5 rfl (Yue 0 Yvt rfl rfl rfl) (gy 8 rfl rfl) hns rfl<|wfv 6 rfl (Yub Yvf rfl) (gy 8 rfl rfl) hns rfl<|wfv 7 rfl (Yue 1 Ywb rfl rfl rfl) (gy 8 rfl rfl) hns rfl<|wfv 8 rfl (Yuo Za3 rfl h13.hq) (gy 8 rfl rfl) hns rfl<|wfv 9 rfl (Yug rfl rfl rfl) (gy 8 rfl rfl) hns rfl ?_
      refine wfv 10 rfl (Yuk (b:=true) rfl rfl) gn hns rfl<|wfv 11 rfl (Yu3 rfl) gn hns rfl<|Yv8 16 rfl ((decide_eq_true hp20))<|wfv 12 rfl (Yub Zb8 rfl) (gy 16 rfl rfl) hns rfl<|wfv 13 rfl (Yue 0 Yvt rfl rfl rfl) (gy 16 rfl rfl) hns rfl<|wfv 14 rfl (Yug rfl rfl rfl) (gy 16 rfl rfl) hns rfl<|wfv 15 rfl (Yuk (b:=true) rfl rfl) gn hns rfl<|wfv 16 rfl (Yu3 rfl) gn hns rfl<|Yv8 21 rfl ((decide_eq_true hp21))<|wfv 17 rfl (Yub Zb8 rfl) (gy 21 rfl rfl) hns rfl<|wfv 18 rfl (Yue 0 Yvt rfl rfl rfl) (gy 21 rfl rfl) hns rfl<|wfv 19 rfl (Yub Yvf rfl) (gy 21 rfl rfl) hns rfl ?_
      refine wfv 20 rfl (Yue 1 Ywb rfl rfl rfl) (gy 21 rfl rfl) hns rfl<|wfv 21 rfl (Yub Yy5 rfl) (gy 21 rfl rfl) hns rfl<|wfv 22 rfl (Yue 0 Yvt rfl rfl rfl) (gy 21 rfl rfl) hns rfl ?_
      obtain ⟨ce54,hK55,hr53⟩:=Rw.read (s:=St w []) h13 hb22
      obtain ⟨A56,n57,c58,rfl,h59⟩:=hK55
      refine wfv 23 rfl (Yv7 (s:=St w []) Yxh rfl rfl h13 hb22) (gy 21 rfl rfl) hns rfl<|wfv 24 rfl (Yvo Yw1 rfl) (gy 21 rfl rfl) hns rfl<|wfv 25 rfl (Yvj (kk:=(x14.prod:Int).toNat * 2) (j:=1) (St w []) Yyc rfl hr53 rfl (me 1 rfl)) (gy 21 rfl rfl) hns rfl<|wfv 26 rfl (Yuo Za5 rfl h59.hq) (gy 21 rfl rfl) hns rfl<|wfv 27 rfl (Yug rfl rfl rfl) (gy 21 rfl rfl) hns rfl<|wfv 28 rfl (Yuk (b:=true) rfl rfl) gn hns rfl<|wfv 29 rfl (Yu3 rfl) gn hns rfl<|Yv8 34 rfl ((decide_eq_true hp30))<|wfv 30 rfl (Yub Zgy rfl) (gy 34 rfl rfl) hns rfl<|wfv 31 rfl (Yue 0 Yvt rfl rfl rfl) (gy 34 rfl rfl) hns rfl<|wfv 32 rfl (Yug rfl rfl rfl) (gy 34 rfl rfl) hns rfl<|wfv 33 rfl (Yuk (b:=true) rfl rfl) gn hns rfl ?_
      refine wfv 34 rfl (Yu3 rfl) gn hns rfl<|Yv8 39 rfl ((decide_eq_false hp31))<|wfp 35 rfl (ps 39 rfl rfl rfl) hns rfl<|wfp 36 rfl (ps 39 rfl rfl rfl) hns rfl<|wfp 37 rfl (ps 39 rfl rfl rfl) hns rfl<|wfp 38 rfl (ps 39 rfl rfl rfl) hns rfl<|wfp 39 rfl (ps 39 rfl rfl rfl) hns rfl<|wfp 40 rfl (ps 39 rfl rfl rfl) hns rfl<|wfv 41 rfl (Yuk (b:=false) rfl rfl) gn hns rfl<|wfv 42 rfl (Yu7 rfl) gn hns rfl<|Yvx (by kernel_rfl) ?_
      refine Yvb [.bool false] rfl Tryd.func64 rfl (.tmp rfl (.nil)) fun wr hLr=>?_
      have hMr:=hLr.pk0 (.c 1 rfl .n)
      show Yyx w F  r (.returned (Yvl [.bool false])) wr
      rw [h]
      exact ⟨rfl,hMr⟩
    ·have h:=Yum hp30 h
     have hns:Region.noSelect (Code.ops Zp2)=true:=by kernel_rfl
     refine Yvr [] 43 rfl rfl mix rfl (.c 0 rfl (.c 1 rfl .n))<|wfv 0 rfl (Yub Yy5 rfl) gn hns rfl<|wfv 1 rfl (Yue 0 Yvt rfl rfl rfl) gn hns rfl<|wfv 2 rfl (Yug rfl rfl rfl) gn hns rfl<|wfv 3 rfl (Yu3 rfl) gn hns rfl<|Yv8 8 rfl ((decide_eq_true hp19))<|wfv 4 rfl (Yub Yy5 rfl) (gy 8 rfl rfl) hns rfl<|wfv 5 rfl (Yue 0 Yvt rfl rfl rfl) (gy 8 rfl rfl) hns rfl<|wfv 6 rfl (Yub Yvf rfl) (gy 8 rfl rfl) hns rfl<|wfv 7 rfl (Yue 1 Ywb rfl rfl rfl) (gy 8 rfl rfl) hns rfl<|wfv 8 rfl (Yuo Za3 rfl h13.hq) (gy 8 rfl rfl) hns rfl<|wfv 9 rfl (Yug rfl rfl rfl) (gy 8 rfl rfl) hns rfl ?_
     refine wfv 10 rfl (Yuk (b:=true) rfl rfl) gn hns rfl<|wfv 11 rfl (Yu3 rfl) gn hns rfl<|Yv8 16 rfl ((decide_eq_true hp20))<|wfv 12 rfl (Yub Zb8 rfl) (gy 16 rfl rfl) hns rfl<|wfv 13 rfl (Yue 0 Yvt rfl rfl rfl) (gy 16 rfl rfl) hns rfl<|wfv 14 rfl (Yug rfl rfl rfl) (gy 16 rfl rfl) hns rfl<|wfv 15 rfl (Yuk (b:=true) rfl rfl) gn hns rfl<|wfv 16 rfl (Yu3 rfl) gn hns rfl<|Yv8 21 rfl ((decide_eq_true hp21))<|wfv 17 rfl (Yub Zb8 rfl) (gy 21 rfl rfl) hns rfl<|wfv 18 rfl (Yue 0 Yvt rfl rfl rfl) (gy 21 rfl rfl) hns rfl<|wfv 19 rfl (Yub Yvf rfl) (gy 21 rfl rfl) hns rfl ?_
     refine wfv 20 rfl (Yue 1 Ywb rfl rfl rfl) (gy 21 rfl rfl) hns rfl<|wfv 21 rfl (Yub Yy5 rfl) (gy 21 rfl rfl) hns rfl<|wfv 22 rfl (Yue 0 Yvt rfl rfl rfl) (gy 21 rfl rfl) hns rfl ?_
     obtain ⟨ce68,hK69,hr67⟩:=Rw.read (s:=St w []) h13 hb22
     obtain ⟨A70,n71,c72,rfl,h73⟩:=hK69
     refine wfv 23 rfl (Yv7 (s:=St w []) Yxh rfl rfl h13 hb22) (gy 21 rfl rfl) hns rfl<|wfv 24 rfl (Yvo Yw1 rfl) (gy 21 rfl rfl) hns rfl<|wfv 25 rfl (Yvj (kk:=(x14.prod:Int).toNat * 2) (j:=1) (St w []) Yyc rfl hr67 rfl (me 1 rfl)) (gy 21 rfl rfl) hns rfl<|wfv 26 rfl (Yuo Za5 rfl h73.hq) (gy 21 rfl rfl) hns rfl<|wfv 27 rfl (Yug rfl rfl rfl) (gy 21 rfl rfl) hns rfl<|wfv 28 rfl (Yuk (b:=true) rfl rfl) gn hns rfl<|wfv 29 rfl (Yu3 rfl) gn hns rfl<|Yv8 34 rfl ((decide_eq_false hp30))<|wfp 30 rfl (ps 34 rfl rfl rfl) hns rfl<|wfp 31 rfl (ps 34 rfl rfl rfl) hns rfl<|wfp 32 rfl (ps 34 rfl rfl rfl) hns rfl<|wfv 33 rfl (Yuk (b:=false) rfl rfl) gn hns rfl ?_
     refine wfv 34 rfl (Yu3 rfl) gn hns rfl<|wfp 35 rfl (ps 39 rfl rfl rfl) hns rfl<|wfp 36 rfl (ps 39 rfl rfl rfl) hns rfl<|wfp 37 rfl (ps 39 rfl rfl rfl) hns rfl<|wfp 38 rfl (ps 39 rfl rfl rfl) hns rfl<|wfp 39 rfl (ps 39 rfl rfl rfl) hns rfl<|wfp 40 rfl (ps 39 rfl rfl rfl) hns rfl<|wfv 41 rfl (Yuk (b:=false) rfl rfl) gn hns rfl<|wfv 42 rfl (Yu7 rfl) gn hns rfl<|Yvx (by kernel_rfl) ?_
     refine Yvb [.bool false] rfl Tryd.func64 rfl (.tmp rfl (.nil)) fun wr hLr=>?_
     have hMr:=hLr.pk0 (.c 1 rfl .n)
     show Yyx w F  r (.returned (Yvl [.bool false])) wr
     rw [h]
     exact ⟨rfl,hMr⟩
   ·have h:=Yum hp21 h
    have hns:Region.noSelect (Code.ops Zp2)=true:=by kernel_rfl
    refine Yvr [] 43 rfl rfl mix rfl (.c 0 rfl (.c 1 rfl .n))<|wfv 0 rfl (Yub Yy5 rfl) gn hns rfl<|wfv 1 rfl (Yue 0 Yvt rfl rfl rfl) gn hns rfl<|wfv 2 rfl (Yug rfl rfl rfl) gn hns rfl<|wfv 3 rfl (Yu3 rfl) gn hns rfl<|Yv8 8 rfl ((decide_eq_true hp19))<|wfv 4 rfl (Yub Yy5 rfl) (gy 8 rfl rfl) hns rfl<|wfv 5 rfl (Yue 0 Yvt rfl rfl rfl) (gy 8 rfl rfl) hns rfl<|wfv 6 rfl (Yub Yvf rfl) (gy 8 rfl rfl) hns rfl<|wfv 7 rfl (Yue 1 Ywb rfl rfl rfl) (gy 8 rfl rfl) hns rfl<|wfv 8 rfl (Yuo Za3 rfl h13.hq) (gy 8 rfl rfl) hns rfl<|wfv 9 rfl (Yug rfl rfl rfl) (gy 8 rfl rfl) hns rfl ?_
    refine wfv 10 rfl (Yuk (b:=true) rfl rfl) gn hns rfl<|wfv 11 rfl (Yu3 rfl) gn hns rfl<|Yv8 16 rfl ((decide_eq_true hp20))<|wfv 12 rfl (Yub Zb8 rfl) (gy 16 rfl rfl) hns rfl<|wfv 13 rfl (Yue 0 Yvt rfl rfl rfl) (gy 16 rfl rfl) hns rfl<|wfv 14 rfl (Yug rfl rfl rfl) (gy 16 rfl rfl) hns rfl<|wfv 15 rfl (Yuk (b:=true) rfl rfl) gn hns rfl<|wfv 16 rfl (Yu3 rfl) gn hns rfl<|Yv8 21 rfl ((decide_eq_false hp21))<|wfp 17 rfl (ps 21 rfl rfl rfl) hns rfl<|wfp 18 rfl (ps 21 rfl rfl rfl) hns rfl<|wfp 19 rfl (ps 21 rfl rfl rfl) hns rfl ?_
    refine wfp 20 rfl (ps 21 rfl rfl rfl) hns rfl<|wfp 21 rfl (ps 21 rfl rfl rfl) hns rfl<|wfp 22 rfl (ps 21 rfl rfl rfl) hns rfl<|wfp 23 rfl (ps 21 rfl rfl rfl) hns rfl<|wfp 24 rfl (ps 21 rfl rfl rfl) hns rfl<|wfp 25 rfl (ps 21 rfl rfl rfl) hns rfl<|wfp 26 rfl (ps 21 rfl rfl rfl) hns rfl<|wfp 27 rfl (ps 21 rfl rfl rfl) hns rfl<|wfv 28 rfl (Yuk (b:=false) rfl rfl) gn hns rfl<|wfv 29 rfl (Yu3 rfl) gn hns rfl<|wfp 30 rfl (ps 34 rfl rfl rfl) hns rfl<|wfp 31 rfl (ps 34 rfl rfl rfl) hns rfl ?_
    refine wfp 32 rfl (ps 34 rfl rfl rfl) hns rfl<|wfv 33 rfl (Yuk (b:=false) rfl rfl) gn hns rfl<|wfv 34 rfl (Yu3 rfl) gn hns rfl<|wfp 35 rfl (ps 39 rfl rfl rfl) hns rfl<|wfp 36 rfl (ps 39 rfl rfl rfl) hns rfl<|wfp 37 rfl (ps 39 rfl rfl rfl) hns rfl<|wfp 38 rfl (ps 39 rfl rfl rfl) hns rfl<|wfp 39 rfl (ps 39 rfl rfl rfl) hns rfl<|wfp 40 rfl (ps 39 rfl rfl rfl) hns rfl<|wfv 41 rfl (Yuk (b:=false) rfl rfl) gn hns rfl<|wfv 42 rfl (Yu7 rfl) gn hns rfl<|Yvx (by kernel_rfl) ?_
    refine Yvb [.bool false] rfl Tryd.func64 rfl (.tmp rfl (.nil)) fun wr hLr=>?_
    have hMr:=hLr.pk0 (.c 1 rfl .n)
    show Yyx w F  r (.returned (Yvl [.bool false])) wr
    rw [h]
    exact ⟨rfl,hMr⟩
  ·have h:=Yum hp20 h
   have hns:Region.noSelect (Code.ops Zp2)=true:=by kernel_rfl
   refine Yvr [] 43 rfl rfl mix rfl (.c 0 rfl (.c 1 rfl .n))<|wfv 0 rfl (Yub Yy5 rfl) gn hns rfl<|wfv 1 rfl (Yue 0 Yvt rfl rfl rfl) gn hns rfl<|wfv 2 rfl (Yug rfl rfl rfl) gn hns rfl<|wfv 3 rfl (Yu3 rfl) gn hns rfl<|Yv8 8 rfl ((decide_eq_true hp19))<|wfv 4 rfl (Yub Yy5 rfl) (gy 8 rfl rfl) hns rfl<|wfv 5 rfl (Yue 0 Yvt rfl rfl rfl) (gy 8 rfl rfl) hns rfl<|wfv 6 rfl (Yub Yvf rfl) (gy 8 rfl rfl) hns rfl<|wfv 7 rfl (Yue 1 Ywb rfl rfl rfl) (gy 8 rfl rfl) hns rfl<|wfv 8 rfl (Yuo Za3 rfl h13.hq) (gy 8 rfl rfl) hns rfl<|wfv 9 rfl (Yug rfl rfl rfl) (gy 8 rfl rfl) hns rfl ?_
   refine wfv 10 rfl (Yuk (b:=true) rfl rfl) gn hns rfl<|wfv 11 rfl (Yu3 rfl) gn hns rfl<|Yv8 16 rfl ((decide_eq_false hp20))<|wfp 12 rfl (ps 16 rfl rfl rfl) hns rfl<|wfp 13 rfl (ps 16 rfl rfl rfl) hns rfl<|wfp 14 rfl (ps 16 rfl rfl rfl) hns rfl<|wfv 15 rfl (Yuk (b:=false) rfl rfl) gn hns rfl<|wfv 16 rfl (Yu3 rfl) gn hns rfl<|wfp 17 rfl (ps 21 rfl rfl rfl) hns rfl<|wfp 18 rfl (ps 21 rfl rfl rfl) hns rfl<|wfp 19 rfl (ps 21 rfl rfl rfl) hns rfl<|wfp 20 rfl (ps 21 rfl rfl rfl) hns rfl ?_
   refine wfp 21 rfl (ps 21 rfl rfl rfl) hns rfl<|wfp 22 rfl (ps 21 rfl rfl rfl) hns rfl<|wfp 23 rfl (ps 21 rfl rfl rfl) hns rfl<|wfp 24 rfl (ps 21 rfl rfl rfl) hns rfl<|wfp 25 rfl (ps 21 rfl rfl rfl) hns rfl<|wfp 26 rfl (ps 21 rfl rfl rfl) hns rfl<|wfp 27 rfl (ps 21 rfl rfl rfl) hns rfl<|wfv 28 rfl (Yuk (b:=false) rfl rfl) gn hns rfl<|wfv 29 rfl (Yu3 rfl) gn hns rfl<|wfp 30 rfl (ps 34 rfl rfl rfl) hns rfl<|wfp 31 rfl (ps 34 rfl rfl rfl) hns rfl<|wfp 32 rfl (ps 34 rfl rfl rfl) hns rfl ?_
   refine wfv 33 rfl (Yuk (b:=false) rfl rfl) gn hns rfl<|wfv 34 rfl (Yu3 rfl) gn hns rfl<|wfp 35 rfl (ps 39 rfl rfl rfl) hns rfl<|wfp 36 rfl (ps 39 rfl rfl rfl) hns rfl<|wfp 37 rfl (ps 39 rfl rfl rfl) hns rfl<|wfp 38 rfl (ps 39 rfl rfl rfl) hns rfl<|wfp 39 rfl (ps 39 rfl rfl rfl) hns rfl<|wfp 40 rfl (ps 39 rfl rfl rfl) hns rfl<|wfv 41 rfl (Yuk (b:=false) rfl rfl) gn hns rfl<|wfv 42 rfl (Yu7 rfl) gn hns rfl<|Yvx (by kernel_rfl) ?_
   refine Yvb [.bool false] rfl Tryd.func64 rfl (.tmp rfl (.nil)) fun wr hLr=>?_
   have hMr:=hLr.pk0 (.c 1 rfl .n)
   show Yyx w F  r (.returned (Yvl [.bool false])) wr
   rw [h]
   exact ⟨rfl,hMr⟩
 ·have h:=Yum hp19 h
  have hns:Region.noSelect (Code.ops Zp2)=true:=by kernel_rfl
  refine Yvr [] 43 rfl rfl mix rfl (.c 0 rfl (.c 1 rfl .n))<|wfv 0 rfl (Yub Yy5 rfl) gn hns rfl<|wfv 1 rfl (Yue 0 Yvt rfl rfl rfl) gn hns rfl<|wfv 2 rfl (Yug rfl rfl rfl) gn hns rfl<|wfv 3 rfl (Yu3 rfl) gn hns rfl<|Yv8 8 rfl ((decide_eq_false hp19))<|wfp 4 rfl (ps 8 rfl rfl rfl) hns rfl<|wfp 5 rfl (ps 8 rfl rfl rfl) hns rfl<|wfp 6 rfl (ps 8 rfl rfl rfl) hns rfl<|wfp 7 rfl (ps 8 rfl rfl rfl) hns rfl<|wfp 8 rfl (ps 8 rfl rfl rfl) hns rfl<|wfp 9 rfl (ps 8 rfl rfl rfl) hns rfl ?_
  refine wfv 10 rfl (Yuk (b:=false) rfl rfl) gn hns rfl<|wfv 11 rfl (Yu3 rfl) gn hns rfl<|wfp 12 rfl (ps 16 rfl rfl rfl) hns rfl<|wfp 13 rfl (ps 16 rfl rfl rfl) hns rfl<|wfp 14 rfl (ps 16 rfl rfl rfl) hns rfl<|wfv 15 rfl (Yuk (b:=false) rfl rfl) gn hns rfl<|wfv 16 rfl (Yu3 rfl) gn hns rfl<|wfp 17 rfl (ps 21 rfl rfl rfl) hns rfl<|wfp 18 rfl (ps 21 rfl rfl rfl) hns rfl<|wfp 19 rfl (ps 21 rfl rfl rfl) hns rfl<|wfp 20 rfl (ps 21 rfl rfl rfl) hns rfl<|wfp 21 rfl (ps 21 rfl rfl rfl) hns rfl ?_
  refine wfp 22 rfl (ps 21 rfl rfl rfl) hns rfl<|wfp 23 rfl (ps 21 rfl rfl rfl) hns rfl<|wfp 24 rfl (ps 21 rfl rfl rfl) hns rfl<|wfp 25 rfl (ps 21 rfl rfl rfl) hns rfl<|wfp 26 rfl (ps 21 rfl rfl rfl) hns rfl<|wfp 27 rfl (ps 21 rfl rfl rfl) hns rfl<|wfv 28 rfl (Yuk (b:=false) rfl rfl) gn hns rfl<|wfv 29 rfl (Yu3 rfl) gn hns rfl<|wfp 30 rfl (ps 34 rfl rfl rfl) hns rfl<|wfp 31 rfl (ps 34 rfl rfl rfl) hns rfl<|wfp 32 rfl (ps 34 rfl rfl rfl) hns rfl<|wfv 33 rfl (Yuk (b:=false) rfl rfl) gn hns rfl ?_
  refine wfv 34 rfl (Yu3 rfl) gn hns rfl<|wfp 35 rfl (ps 39 rfl rfl rfl) hns rfl<|wfp 36 rfl (ps 39 rfl rfl rfl) hns rfl<|wfp 37 rfl (ps 39 rfl rfl rfl) hns rfl<|wfp 38 rfl (ps 39 rfl rfl rfl) hns rfl<|wfp 39 rfl (ps 39 rfl rfl rfl) hns rfl<|wfp 40 rfl (ps 39 rfl rfl rfl) hns rfl<|wfv 41 rfl (Yuk (b:=false) rfl rfl) gn hns rfl<|wfv 42 rfl (Yu7 rfl) gn hns rfl<|Yvx (by kernel_rfl) ?_
  refine Yvb [.bool false] rfl Tryd.func64 rfl (.tmp rfl (.nil)) fun wr hLr=>?_
  have hMr:=hLr.pk0 (.c 1 rfl .n)
  show Yyx w F  r (.returned (Yvl [.bool false])) wr
  rw [h]
  exact ⟨rfl,hMr⟩
abbrev Zek (w:World) (F:Nat→Prop) (r:Int):Ending→World→Prop:=fun e w'=>e=.returned (.int .u64 r)∧B.Loc w w' [] [St w []]
noncomputable abbrev Zkh (w:World) (F:Nat→Prop) (r:Int):Cx:=⟨Tryd.prog,65,Tryd.f65,6,Zek w F  r,w⟩
theorem Zez (w:World) (F:Nat→Prop) (x1:Int) (hF:∀ b,F b→b < w.heap.size∧∀ o ∈ ([]:List (List Nat)),b ∉ o) (hL0:B.Loc w w [] [Sm w.heap.size F w [],St w []]) (r:Int) (h:Zaw x1 r):Calls Tryd.prog 65 #[.int .i64 x1] w (Zek w F  r):=by
 unfold Zaw at h
 refine Yv5 (vs:=[.int .i64 x1]) 6 Tryd.func65 rfl Tryd.ntmps65 rfl hL0 ?_
 show G (Zkh w F r) _ _ _ _
 refine Yu9 rfl<|Yu4 rfl rfl<|Yu2 0 rfl (Yu7 rfl) gn rfl<|Yua 1 rfl<|Yu9 rfl<|Yu4 rfl rfl<|Yu2 0 rfl (Yu3 rfl) gn rfl<|Yu2 1 rfl (Zpk ⟨_,un_3⟩ un_127 rfl) gn rfl ?_
 obtain ⟨hb2,h⟩:=h
 refine Yu2 2 rfl (v_shl rfl rfl hb2) gn rfl<|Yu2 3 rfl (Yu7 rfl) gn rfl<|Yua 4 rfl ?_
 refine Yvb [.int .u64 (Zim .u64 1 (IntKind.u64.wrap (x1)))] rfl Tryd.func65 rfl (.tmp rfl (.nil)) fun wr hLr=>?_
 have hMr:=hLr.pk0 (.c 1 rfl .n)
 show Zek w F  r (.returned (Yvl [.int .u64 (Zim .u64 1 (IntKind.u64.wrap (x1)))])) wr
 rw [h]
 exact ⟨rfl,hMr⟩
noncomputable abbrev q46c6:=Code.snd (Code.snd (Code.snd (Yvq Tryd.f46)))
noncomputable abbrev Zhx:=Code.fst (Code.fst (Code.snd (Code.fst (Code.snd (Code.snd (Yvq Tryd.f46))))))
noncomputable abbrev q46c20:=Code.fst (Code.fst (Code.fst (Code.snd Zhx)))
noncomputable abbrev q46c26:=Code.fst (Code.fst (Code.snd (Code.snd (Code.fst (Code.fst (Code.snd Zhx))))))
noncomputable abbrev q46c27:=Code.snd (Code.fst (Code.snd (Code.snd (Code.fst (Code.fst (Code.snd Zhx))))))
abbrev Zey (w:World) (F:Nat→Prop) (g2:Nat) (Tb3:Nat) (r:(List Int) × Yuc):Ending→World→Prop:=fun e w'=>∃ A0:Option Addr,∃ n0:Nat,∃ c0:Nat,∃ A1:Option Addr,∃ n1:Nat,∃ c1:Nat,∃ A2:Option Addr,∃ n2:Nat,∃ c2:Nat,∃ A3:Option Addr,∃ n3:Nat,∃ c3:Nat,∃ A4:Option Addr,∃ n4:Nat,∃ c4:Nat,∃ A5:Option Addr,∃ n5:Nat,∃ c5:Nat,∃ A6:Option Addr,∃ n6:Nat,∃ c6:Nat,e=.returned (.slice A0 n0 c0)∧B.Loc w w' [.box g2 Tb3 [.slice A1 n1 c1,.slice A2 n2 c2,.slice A3 n3 c3,.slice A4 n4 c4,.slice A5 n5 c5,.slice A6 n6 c6,.int .i64 r.2.dots],.own (.slice A0 n0 c0) 76 1 n0 (r.1.flatMap (eI .u64))] [St w [[g2]]]∧Ow w.heap.size A0 n0 c0 r.1∧Rw Yuj w' (Nw w w' F [.box g2 Tb3 [.slice A1 n1 c1,.slice A2 n2 c2,.slice A3 n3 c3,.slice A4 n4 c4,.slice A5 n5 c5,.slice A6 n6 c6,.int .i64 r.2.dots],.own (.slice A0 n0 c0) 76 1 n0 (r.1.flatMap (eI .u64))]) A1 n1 c1 r.2.g.terms∧Rw Yuq w' (Nw w w' F [.box g2 Tb3 [.slice A1 n1 c1,.slice A2 n2 c2,.slice A3 n3 c3,.slice A4 n4 c4,.slice A5 n5 c5,.slice A6 n6 c6,.int .i64 r.2.dots],.own (.slice A0 n0 c0) 76 1 n0 (r.1.flatMap (eI .u64))]) A2 n2 c2 r.2.g.syms∧Rw Yun w' (Nw w w' F [.box g2 Tb3 [.slice A1 n1 c1,.slice A2 n2 c2,.slice A3 n3 c3,.slice A4 n4 c4,.slice A5 n5 c5,.slice A6 n6 c6,.int .i64 r.2.dots],.own (.slice A0 n0 c0) 76 1 n0 (r.1.flatMap (eI .u64))]) A3 n3 c3 r.2.g.prods∧Rw Yzi w' (Nw w w' F [.box g2 Tb3 [.slice A1 n1 c1,.slice A2 n2 c2,.slice A3 n3 c3,.slice A4 n4 c4,.slice A5 n5 c5,.slice A6 n6 c6,.int .i64 r.2.dots],.own (.slice A0 n0 c0) 76 1 n0 (r.1.flatMap (eI .u64))]) A4 n4 c4 r.2.none∧Rw (Yw6 .u64) w' (Nw w w' F [.box g2 Tb3 [.slice A1 n1 c1,.slice A2 n2 c2,.slice A3 n3 c3,.slice A4 n4 c4,.slice A5 n5 c5,.slice A6 n6 c6,.int .i64 r.2.dots],.own (.slice A0 n0 c0) 76 1 n0 (r.1.flatMap (eI .u64))]) A5 n5 c5 r.2.first∧Rw (Yw6 .i64) w' (Nw w w' F [.box g2 Tb3 [.slice A1 n1 c1,.slice A2 n2 c2,.slice A3 n3 c3,.slice A4 n4 c4,.slice A5 n5 c5,.slice A6 n6 c6,.int .i64 r.2.dots],.own (.slice A0 n0 c0) 76 1 n0 (r.1.flatMap (eI .u64))]) A6 n6 c6 r.2.at_
noncomputable abbrev Zd6 (w:World) (F:Nat→Prop) (g2:Nat) (Tb3:Nat) (r:(List Int) × Yuc):Cx:=⟨Tryd.prog,46,Tryd.f46,62,Zey w F g2 Tb3 r,w⟩
theorem Zf8 (w:World) (F:Nat→Prop) (x1:Yuc) (x28:List Yud) (g2:Nat) (Tb3:Nat) (A4:Option Addr) (n5:Nat) (c6:Nat) (A8:Option Addr) (n9:Nat) (c10:Nat) (A12:Option Addr) (n13:Nat) (c14:Nat) (A16:Option Addr) (n17:Nat) (c18:Nat) (A20:Option Addr) (n21:Nat) (c22:Nat) (A24:Option Addr) (n25:Nat) (c26:Nat) (A29:Option Addr) (n30:Nat) (c31:Nat) (h7:Rw Yuj w F A4 n5 c6 x1.g.terms) (h11:Rw Yuq w F A8 n9 c10 x1.g.syms) (h15:Rw Yun w F A12 n13 c14 x1.g.prods) (h19:Rw Yzi w F A16 n17 c18 x1.none) (h23:Rw (Yw6 .u64) w F A20 n21 c22 x1.first) (h27:Rw (Yw6 .i64) w F A24 n25 c26 x1.at_) (h32:Rw Yxu w (St w [[g2]]).av A29 n30 c31 x28) (hF:∀ b,F b→b < w.heap.size∧∀ o ∈ ([[g2]]:List (List Nat)),b ∉ o) (hL0:B.Loc w w [.box g2 Tb3 [.slice A4 n5 c6,.slice A8 n9 c10,.slice A12 n13 c14,.slice A16 n17 c18,.slice A20 n21 c22,.slice A24 n25 c26,.int .i64 x1.dots]] [Sm w.heap.size F w [[g2]],St w [[g2]]]) (r:(List Int) × Yuc) (h:Zah x1 x28 r):Calls Tryd.prog 46 #[.pointer (some ⟨g2,0,none⟩),.slice A29 n30 c31] w (Zey w F g2 Tb3 r):=by
 unfold Zah at h
 have h7:=Rw.into (bs:=[[g2]]) hF h7
 have h11:=Rw.into (bs:=[[g2]]) hF h11
 have h15:=Rw.into (bs:=[[g2]]) hF h15
 have h19:=Rw.into (bs:=[[g2]]) hF h19
 have h23:=Rw.into (bs:=[[g2]]) hF h23
 have h27:=Rw.into (bs:=[[g2]]) hF h27
 refine Yv5 (vs:=[.pointer (some ⟨g2,0,none⟩),.slice A29 n30 c31]) 62 Tryd.func46 rfl Tryd.ntmps46 rfl hL0 ?_
 show G (Zd6 w F g2 Tb3 r) _ _ _ _
 refine Yu9 rfl<|Yu4 rfl rfl<|Yu2 0 rfl (Yu7 rfl) gn rfl<|Yua 1 rfl<|Yu9 rfl<|Yu4 rfl rfl<|Yu2 0 rfl (Yu3 rfl) gn rfl<|Yu2 1 rfl (Yuy rfl) gn rfl<|Yu2 2 rfl (Yub Ziv rfl) gn rfl<|Yu2 3 rfl (Yue 0 Yvt rfl rfl rfl) gn rfl ?_
 obtain ⟨hb33,h⟩:=h
 obtain ⟨x37,hv38,h⟩:=h
 refine Yve 4 rfl (Zib (enc:=(eI .u64)) (z:=0) mk_92 rfl (by decide) rfl rfl hb33.1 hb33.2 (by decide) hv38 rfl fun A34 h35=>?_) gn
 refine Yu2 5 rfl (Yu7 rfl) gn rfl<|Yua 6 rfl<|Yu9 rfl<|Yu9 rfl<|Yu4 rfl rfl<|Yu2 0 rfl (Yu7 rfl) gn rfl<|Yua 1 rfl<|Yuw rfl<|Ywm rfl ?_
 have key1:∀ s,Yui (fun (s:(List Int) × Int) o=>Yy2 x28 x1 s.1 s.2 o) s r→(fun (s:(List Int) × Int)=>∀ (h130:Ow w.heap.size A34 (x1.dots:Int).toNat (x1.dots:Int).toNat s.1),G (Zd6 w F g2 Tb3 r) [.code Zhx,.inLoop Zhx,.inBlock 0,.code q46c6] [(0,.pointer (some ⟨g2,0,none⟩)),(1,.slice A29 n30 c31),(5,.slice A34 ((x1.dots:Int).toNat) ((x1.dots:Int).toNat)),(6,.int .i64 s.2)] [.own (.slice A34 ((x1.dots:Int).toNat) ((x1.dots:Int).toNat)) 76 1 ((x1.dots:Int).toNat) (s.1.flatMap (eI .u64)),.box g2 Tb3 [.slice A4 n5 c6,.slice A8 n9 c10,.slice A12 n13 c14,.slice A16 n17 c18,.slice A20 n21 c22,.slice A24 n25 c26,.int .i64 x1.dots]] [Sm w.heap.size F w [[g2]],St w [[g2]]]) s:=by
  intro s hs
  refine Yui.ind (mot:=(fun (s:(List Int) × Int)=>∀ (h130:Ow w.heap.size A34 (x1.dots:Int).toNat (x1.dots:Int).toNat s.1),G (Zd6 w F g2 Tb3 r) [.code Zhx,.inLoop Zhx,.inBlock 0,.code q46c6] [(0,.pointer (some ⟨g2,0,none⟩)),(1,.slice A29 n30 c31),(5,.slice A34 ((x1.dots:Int).toNat) ((x1.dots:Int).toNat)),(6,.int .i64 s.2)] [.own (.slice A34 ((x1.dots:Int).toNat) ((x1.dots:Int).toNat)) 76 1 ((x1.dots:Int).toNat) (s.1.flatMap (eI .u64)),.box g2 Tb3 [.slice A4 n5 c6,.slice A8 n9 c10,.slice A12 n13 c14,.slice A16 n17 c18,.slice A20 n21 c22,.slice A24 n25 c26,.int .i64 x1.dots]] [Sm w.heap.size F w [[g2]],St w [[g2]]])) ?_ hs
  clear hs s
  intro s o1 h hO1
  obtain ⟨x129,x131⟩:=s
  show ∀ (h130:Ow w.heap.size A34 (x1.dots:Int).toNat (x1.dots:Int).toNat x129),G (Zd6 w F g2 Tb3 r) [.code Zhx,.inLoop Zhx,.inBlock 0,.code q46c6] [(0,.pointer (some ⟨g2,0,none⟩)),(1,.slice A29 n30 c31),(5,.slice A34 ((x1.dots:Int).toNat) ((x1.dots:Int).toNat)),(6,.int .i64 x131)] [.own (.slice A34 ((x1.dots:Int).toNat) ((x1.dots:Int).toNat)) 76 1 ((x1.dots:Int).toNat) (x129.flatMap (eI .u64)),.box g2 Tb3 [.slice A4 n5 c6,.slice A8 n9 c10,.slice A12 n13 c14,.slice A16 n17 c18,.slice A20 n21 c22,.slice A24 n25 c26,.int .i64 x1.dots]] [Sm w.heap.size F w [[g2]],St w [[g2]]]
  intro h130
  have h:Yy2 x28 x1 x129 x131 o1:=h
  unfold Yy2 at h
  refine Yu9 rfl<|Yu9 rfl<|Yu4 rfl rfl<|Yu2 0 rfl (Yu3 rfl) gn rfl<|Yu2 1 rfl (Yu3 rfl) gn rfl<|Yu2 2 rfl (Yuo Zl5 rfl h32.hq) gn rfl<|Yu2 3 rfl (Yug rfl rfl rfl) gn rfl<|Yua 4 rfl ?_
  by_cases hp221:x131 < (x28.length:Int)
  ·have h:=Yul hp221 h
   refine Yv4 rfl _ rfl ((decide_eq_true hp221))<|Yv2 rfl<|Yu9 rfl<|Yuw rfl<|Yu9 rfl ?_
   obtain ⟨hb222,h⟩:=h
   obtain ⟨r227,hv228,h⟩:=h
   have hns:Region.noSelect (Code.ops q46c20)=true:=by kernel_rfl
   refine Yvr [] 10 rfl rfl mix rfl (.c 0 rfl (.c 1 rfl .n))<|wfv 0 rfl (Yu3 rfl) gn hns rfl<|wfv 1 rfl (Yuy rfl) gn hns rfl<|wfv 2 rfl (Yub Zcq rfl) gn hns rfl<|wfv 3 rfl (Yyr [.slice A4 n5 c6,.slice A8 n9 c10,.slice A12 n13 c14] 1 Yys rfl rfl rfl rfl) gn hns rfl<|wfv 4 rfl (Yu3 rfl) gn hns rfl<|wfv 5 rfl (Yu3 rfl) gn hns rfl ?_
   have hr245:=Rw.readF (s:=St w [[g2]]) (hl:=Yyz) (h1:=Yyy) h32 hb222
   refine wfv 6 rfl (Yv7 (s:=St w [[g2]]) Zgd rfl rfl h32 hb222) gn hns rfl<|wfv 7 rfl (Zdb (St w [[g2]]) ld_31 rfl hr245 rfl (me 1 rfl)) gn hns rfl ?_
   refine Ywl [8] (by kernel_rfl) rfl ⟨Zdm 8 rfl gn rfl (Yvz [.agg #[.slice A4 n5 c6,.slice A8 n9 c10,.slice A12 n13 c14],.agg #[.int .i64 ((ix x28 x131).prod),.int .i64 ((ix x28 x131).dot),.int .i64 ((ix x28 x131).look)]] rfl Tryd.func64 rfl rfl rfl fun w252 hL253=>?_),trivial⟩
   have hp254:=pmI hL253 .n (.c 0 rfl (.c 1 rfl .n)) (by kernel_rfl)
   refine Calls.mono (Zii w252 (Fl ([]:List Yva)) x1.g (ix x28 x131) A4 n5 c6 A8 n9 c10 A12 n13 c14 (Rw.mono h7 (hL253.toSt hp254 (me 0 rfl))) (Rw.mono h11 (hL253.toSt hp254 (me 0 rfl))) (Rw.mono h15 (hL253.toSt hp254 (me 0 rfl))) (hL253.hFl hp254 (Yvm [] rfl)) (hL253.into hp254 _) r227 hv228) ?_
   rintro _ w255 ⟨rfl,hM256⟩
   have hL257:=hL253.call hp254 hM256
   refine ⟨_,_,_,rfl,hL257,?_⟩
   refine ⟨Yvm [0,1] rfl,Yvm [0,1] rfl,?_⟩
   refine wfv 9 rfl (Yu7 rfl) gn hns rfl<|Yvx (by kernel_rfl)<|Yu9 rfl<|Yu4 rfl rfl<|Yu2 0 rfl (Yu3 rfl) gn rfl<|Yua 1 rfl ?_
   by_cases hp258:r227=true
   ·have h:=Yul hp258 h
    refine Yv4 rfl _ rfl (hp258)<|Yu9 rfl ?_
    obtain ⟨hb260,h⟩:=h
    have hns:Region.noSelect (Code.ops q46c26)=true:=by kernel_rfl
    refine Yvr [] 18 rfl rfl mix rfl (.c 0 rfl (.c 1 rfl .n))<|wfv 0 rfl (Yu3 rfl) gn hns rfl<|wfv 1 rfl (Yuy rfl) gn hns rfl<|wfv 2 rfl (Yub Zdz rfl) gn hns rfl<|wfv 3 rfl (Yue 1 Zew rfl rfl rfl) gn hns rfl<|wfv 4 rfl (Yu3 rfl) gn hns rfl<|wfv 5 rfl (Yu3 rfl) gn hns rfl ?_
    have hr266:=Rw.readF (s:=St w [[g2]]) (hl:=Yyz) (h1:=Yyy) h32 hb222
    refine wfv 6 rfl (Yv7 (s:=St w [[g2]]) Zgd rfl rfl h32 hb222) gn hns rfl<|wfv 7 rfl (Yvo Yy5 rfl) gn hns rfl<|wfv 8 rfl (Yvj (kk:=(x131:Int).toNat * 3) (j:=0) (St w [[g2]]) Yvt rfl hr266 rfl (me 1 rfl)) gn hns rfl ?_
    have hr267:=Rw.readF (s:=Sm w.heap.size F w [[g2]]) (hl:=(hlI .i64)) (h1:=(Yya .i64)) h27 hb260
    refine wfv 9 rfl (Yv7 (s:=Sm w.heap.size F w [[g2]]) Zfx rfl rfl h27 hb260) gn hns rfl<|wfv 10 rfl (Yvj (kk:=((ix x28 x131).prod:Int).toNat * 1) (j:=0) (Sm w.heap.size F w [[g2]]) Yvt rfl hr267 rfl (me 0 rfl)) gn hns rfl<|wfv 11 rfl (Yu3 rfl) gn hns rfl<|wfv 12 rfl (Yu3 rfl) gn hns rfl ?_
    have hr268:=Rw.readF (s:=St w [[g2]]) (hl:=Yyz) (h1:=Yyy) h32 hb222
    refine wfv 13 rfl (Yv7 (s:=St w [[g2]]) Zgd rfl rfl h32 hb222) gn hns rfl<|wfv 14 rfl (Yvo Zb8 rfl) gn hns rfl<|wfv 15 rfl (Yvj (kk:=(x131:Int).toNat * 3) (j:=1) (St w [[g2]]) Yvt rfl hr268 rfl (me 1 rfl)) gn hns rfl<|wfv 16 rfl (Yug rfl rfl rfl) gn hns rfl<|wfv 17 rfl (Yu7 rfl) gn hns rfl<|Yvx (by kernel_rfl) ?_
    obtain ⟨hb269,h⟩:=h
    obtain ⟨r274,hv275,h⟩:=h
    obtain ⟨x279,hv280,h⟩:=h
    have hns:Region.noSelect (Code.ops q46c27)=true:=by kernel_rfl
    refine Yvr [14] 15 rfl rfl mix rfl (.c 0 rfl (.c 1 rfl .n))<|wfv 0 rfl (Yu3 rfl) gn hns (by kernel_rfl)<|wfv 1 rfl (Yu3 rfl) gn hns (by kernel_rfl)<|wfv 2 rfl (Yu3 rfl) gn hns (by kernel_rfl)<|wfv 3 rfl (Yu3 rfl) gn hns (by kernel_rfl)<|wfv 4 rfl (Yyn Zhu rfl rfl h130 hb269) gn hns (by kernel_rfl)<|wfv 5 rfl (Zbb (.int .u64 (ix x129 (w64 ((ix x1.at_ ((ix x28 x131).prod)) + ((ix x28 x131).dot))))) 0 Zdt rfl rfl (Zcj (hlI .u64) hb269 rfl)) gn hns (by kernel_rfl)<|wfv 6 rfl (Yu3 rfl) gn hns (by kernel_rfl)<|wfv 7 rfl (Yu3 rfl) gn hns (by kernel_rfl) ?_
    have hr296:=Rw.readF (s:=St w [[g2]]) (hl:=Yyz) (h1:=Yyy) h32 hb222
    refine wfv 8 rfl (Yv7 (s:=St w [[g2]]) Zgd rfl rfl h32 hb222) gn hns (by kernel_rfl)<|wfv 9 rfl (Yvo Zgy rfl) gn hns (by kernel_rfl)<|wfv 10 rfl (Yvj (kk:=(x131:Int).toNat * 3) (j:=2) (St w [[g2]]) Yvt rfl hr296 rfl (me 1 rfl)) gn hns (by kernel_rfl) ?_
    refine Ywl [11] (by kernel_rfl) rfl ⟨Zdm 11 rfl gn rfl (Yvz [.int .i64 ((ix x28 x131).look)] rfl Tryd.func65 rfl rfl rfl fun w303 hL304=>?_),trivial⟩
    have hp305:=pmI hL304 .n (.c 0 rfl (.c 1 rfl .n)) (by kernel_rfl)
    refine Calls.mono (Zez w303 (Fl ([]:List Yva)) ((ix x28 x131).look) (hL304.hFl hp305 (Yvm [] rfl)) (hL304.into hp305 _) r274 hv275) ?_
    rintro _ w306 ⟨rfl,hM307⟩
    have hL308:=hL304.call hp305 hM307
    refine ⟨_,_,_,rfl,hL308,?_⟩
    refine ⟨Yvm [0,1] rfl,Yvm [0,1] rfl,?_⟩
    refine wfv 12 rfl (Yug rfl rfl rfl) gn hns (by kernel_rfl)<|wfv 13 rfl (Yyn Zhu rfl rfl h130 hb269) gn hns (by kernel_rfl) ?_
    refine Ywl [14] (by kernel_rfl) rfl ⟨Zi7 14 rfl gn rfl (Zgm (enc:=(eI .u64)) (o:=0) (z:=(bits .or .u64 (ix x129 (w64 ((ix x1.at_ ((ix x28 x131).prod)) + ((ix x28 x131).dot)))) r274)) (vs:=[.int .u64 (bits .or .u64 (ix x129 (w64 ((ix x1.at_ ((ix x28 x131).prod)) + ((ix x28 x131).dot)))) r274)]) (i:=(w64 ((ix x1.at_ ((ix x28 x131).prod)) + ((ix x28 x131).dot)))) 0 (hlI .u64) Zjs rfl rfl rfl rfl rfl h130 hb269 rfl rfl rfl hv280 fun h309=>?_),trivial⟩
    unfold NxL
    refine Yvx (by kernel_rfl)<|Yux<|Yu4 rfl rfl<|Yu2 0 rfl (Yu3 rfl) gn rfl<|Yu2 1 rfl (Yug rfl rfl rfl) gn rfl<|Yu2 2 rfl (Yu7 rfl) gn rfl<|Yua 3 rfl<|Yv1 ?_
    have ih:=Out.inl hO1 h
    exact Yvh [0,1] (ih h309) ⟨rfl,rfl,rfl,rfl,trivial⟩ (.cons_cons _ (.cons_cons _ (.slnil))) rfl
   ·have h:=Yum hp258 h
    refine Yur rfl _ rfl ((bf hp258))<|Yv2 rfl<|Yux<|Yu4 rfl rfl<|Yu2 0 rfl (Yu3 rfl) gn rfl<|Yu2 1 rfl (Yug rfl rfl rfl) gn rfl<|Yu2 2 rfl (Yu7 rfl) gn rfl<|Yua 3 rfl<|Yv1 ?_
    have ih:=Out.inl hO1 h
    exact Yvh [0,1] (ih h130) ⟨rfl,rfl,rfl,rfl,trivial⟩ (.cons_cons _ (.cons_cons _ (.slnil))) rfl
  ·have h:=Yum hp221 h
   refine Yur rfl _ rfl ((decide_eq_false hp221))<|Ywa [.code q46c6] rfl rfl<|Yu9 rfl<|Yu4 rfl rfl<|Yu2 0 rfl (Yu3 rfl) gn rfl<|Yu2 1 rfl (Yu7 rfl) gn rfl<|Yua 2 rfl ?_
   have h:=Out.inr hO1 h
   refine Yvb [.slice A34 ((x1.dots:Int).toNat) ((x1.dots:Int).toNat)] rfl Tryd.func46 rfl (.tmp rfl (.nil)) fun wr hLr=>?_
   have hMr:=hLr.pkI (.c 1 rfl (.c 0 rfl .n)) .n (by kernel_rfl) (.c 1 rfl .n)
   have hMi:=hLr.selI (.c 1 rfl (.c 0 rfl .n))
   show Zey w F g2 Tb3 r (.returned (Yvl [.slice A34 ((x1.dots:Int).toNat) ((x1.dots:Int).toNat)])) wr
   rw [h]
   exact ⟨A34,(x1.dots:Int).toNat,(x1.dots:Int).toNat,A4,n5,c6,A8,n9,c10,A12,n13,c14,A16,n17,c18,A20,n21,c22,A24,n25,c26,rfl,hMr,h130,(hLr.outR (s:=Sm w.heap.size F w [[g2]]) hMi (me 0 rfl) Sm.ok h7),(hLr.outR (s:=Sm w.heap.size F w [[g2]]) hMi (me 0 rfl) Sm.ok h11),(hLr.outR (s:=Sm w.heap.size F w [[g2]]) hMi (me 0 rfl) Sm.ok h15),(hLr.outR (s:=Sm w.heap.size F w [[g2]]) hMi (me 0 rfl) Sm.ok h19),(hLr.outR (s:=Sm w.heap.size F w [[g2]]) hMi (me 0 rfl) Sm.ok h23),(hLr.outR (s:=Sm w.heap.size F w [[g2]]) hMi (me 0 rfl) Sm.ok h27)⟩
 exact Yvh [0,1] (key1 _ h h35) ⟨rfl,rfl,rfl,rfl,trivial⟩ (.cons_cons _ (.cons_cons _ (.slnil))) rfl
noncomputable abbrev q66c6:=Code.snd (Code.snd (Code.snd (Yvq Tryd.f66)))
noncomputable abbrev Zj3:=Code.fst (Code.fst (Code.snd (Code.fst (Code.snd (Code.snd (Yvq Tryd.f66))))))
noncomputable abbrev q66c20:=Code.fst (Code.fst (Code.fst (Code.snd Zj3)))
noncomputable abbrev q66c22:=Code.fst (Code.snd (Code.fst (Code.fst (Code.snd Zj3))))
abbrev Yzo (w:World) (F:Nat→Prop) (g2:Nat) (Tb3:Nat) (r:Int × Yuc):Ending→World→Prop:=fun e w'=>∃ A0:Option Addr,∃ n0:Nat,∃ c0:Nat,∃ A1:Option Addr,∃ n1:Nat,∃ c1:Nat,∃ A2:Option Addr,∃ n2:Nat,∃ c2:Nat,∃ A3:Option Addr,∃ n3:Nat,∃ c3:Nat,∃ A4:Option Addr,∃ n4:Nat,∃ c4:Nat,∃ A5:Option Addr,∃ n5:Nat,∃ c5:Nat,e=.returned (.int .u64 r.1)∧B.Loc w w' [.box g2 Tb3 [.slice A0 n0 c0,.slice A1 n1 c1,.slice A2 n2 c2,.slice A3 n3 c3,.slice A4 n4 c4,.slice A5 n5 c5,.int .i64 r.2.dots]] [St w [[g2]]]∧Rw Yuj w' (Nw w w' F [.box g2 Tb3 [.slice A0 n0 c0,.slice A1 n1 c1,.slice A2 n2 c2,.slice A3 n3 c3,.slice A4 n4 c4,.slice A5 n5 c5,.int .i64 r.2.dots]]) A0 n0 c0 r.2.g.terms∧Rw Yuq w' (Nw w w' F [.box g2 Tb3 [.slice A0 n0 c0,.slice A1 n1 c1,.slice A2 n2 c2,.slice A3 n3 c3,.slice A4 n4 c4,.slice A5 n5 c5,.int .i64 r.2.dots]]) A1 n1 c1 r.2.g.syms∧Rw Yun w' (Nw w w' F [.box g2 Tb3 [.slice A0 n0 c0,.slice A1 n1 c1,.slice A2 n2 c2,.slice A3 n3 c3,.slice A4 n4 c4,.slice A5 n5 c5,.int .i64 r.2.dots]]) A2 n2 c2 r.2.g.prods∧Rw Yzi w' (Nw w w' F [.box g2 Tb3 [.slice A0 n0 c0,.slice A1 n1 c1,.slice A2 n2 c2,.slice A3 n3 c3,.slice A4 n4 c4,.slice A5 n5 c5,.int .i64 r.2.dots]]) A3 n3 c3 r.2.none∧Rw (Yw6 .u64) w' (Nw w w' F [.box g2 Tb3 [.slice A0 n0 c0,.slice A1 n1 c1,.slice A2 n2 c2,.slice A3 n3 c3,.slice A4 n4 c4,.slice A5 n5 c5,.int .i64 r.2.dots]]) A4 n4 c4 r.2.first∧Rw (Yw6 .i64) w' (Nw w w' F [.box g2 Tb3 [.slice A0 n0 c0,.slice A1 n1 c1,.slice A2 n2 c2,.slice A3 n3 c3,.slice A4 n4 c4,.slice A5 n5 c5,.int .i64 r.2.dots]]) A5 n5 c5 r.2.at_
noncomputable abbrev Yzn (w:World) (F:Nat→Prop) (g2:Nat) (Tb3:Nat) (r:Int × Yuc):Cx:=⟨Tryd.prog,66,Tryd.f66,44,Yzo w F g2 Tb3 r,w⟩
theorem Zfo (w:World) (F:Nat→Prop) (x1:Yuc) (x28:List Yut) (x33:Int) (g2:Nat) (Tb3:Nat) (A4:Option Addr) (n5:Nat) (c6:Nat) (A8:Option Addr) (n9:Nat) (c10:Nat) (A12:Option Addr) (n13:Nat) (c14:Nat) (A16:Option Addr) (n17:Nat) (c18:Nat) (A20:Option Addr) (n21:Nat) (c22:Nat) (A24:Option Addr) (n25:Nat) (c26:Nat) (A29:Option Addr) (n30:Nat) (c31:Nat) (h7:Rw Yuj w F A4 n5 c6 x1.g.terms) (h11:Rw Yuq w F A8 n9 c10 x1.g.syms) (h15:Rw Yun w F A12 n13 c14 x1.g.prods) (h19:Rw Yzi w F A16 n17 c18 x1.none) (h23:Rw (Yw6 .u64) w F A20 n21 c22 x1.first) (h27:Rw (Yw6 .i64) w F A24 n25 c26 x1.at_) (h32:Rw Zav w (St w [[g2]]).av A29 n30 c31 x28) (hF:∀ b,F b→b < w.heap.size∧∀ o ∈ ([[g2]]:List (List Nat)),b ∉ o) (hL0:B.Loc w w [.box g2 Tb3 [.slice A4 n5 c6,.slice A8 n9 c10,.slice A12 n13 c14,.slice A16 n17 c18,.slice A20 n21 c22,.slice A24 n25 c26,.int .i64 x1.dots]] [Sm w.heap.size F w [[g2]],St w [[g2]]]) (r:Int × Yuc) (h:Yz7 x1 x28 x33 r):Calls Tryd.prog 66 #[.pointer (some ⟨g2,0,none⟩),.slice A29 n30 c31,.int .u64 x33] w (Yzo w F g2 Tb3 r):=by
 unfold Yz7 at h
 have h7:=Rw.into (bs:=[[g2]]) hF h7
 have h11:=Rw.into (bs:=[[g2]]) hF h11
 have h15:=Rw.into (bs:=[[g2]]) hF h15
 have h19:=Rw.into (bs:=[[g2]]) hF h19
 have h23:=Rw.into (bs:=[[g2]]) hF h23
 have h27:=Rw.into (bs:=[[g2]]) hF h27
 refine Yv5 (vs:=[.pointer (some ⟨g2,0,none⟩),.slice A29 n30 c31,.int .u64 x33]) 44 Tryd.func66 rfl Tryd.ntmps66 rfl hL0 ?_
 show G (Yzn w F g2 Tb3 r) _ _ _ _
 refine Yu9 rfl<|Yu4 rfl rfl<|Yu2 0 rfl (Yu7 rfl) gn rfl<|Yua 1 rfl<|Yu9 rfl<|Yu4 rfl rfl<|Yu2 0 rfl (Yu7 rfl) gn rfl<|Yua 1 rfl<|Yu9 rfl<|Yu9 rfl<|Yu4 rfl rfl<|Yu2 0 rfl (Yu7 rfl) gn rfl ?_
 refine Yua 1 rfl<|Yuw rfl<|Ywm rfl ?_
 have key1:∀ s,Yui (fun (s:Int × Int) o=>Yw4 x28 x1 x33 s.1 s.2 o) s r→(fun (s:Int × Int)=>∀ (_:Unit),G (Yzn w F g2 Tb3 r) [.code Zj3,.inLoop Zj3,.inBlock 0,.code q66c6] [(0,.pointer (some ⟨g2,0,none⟩)),(1,.slice A29 n30 c31),(2,.int .u64 x33),(7,.int .u64 s.1),(8,.int .i64 s.2)] [.box g2 Tb3 [.slice A4 n5 c6,.slice A8 n9 c10,.slice A12 n13 c14,.slice A16 n17 c18,.slice A20 n21 c22,.slice A24 n25 c26,.int .i64 x1.dots]] [Sm w.heap.size F w [[g2]],St w [[g2]]]) s:=by
  intro s hs
  refine Yui.ind (mot:=(fun (s:Int × Int)=>∀ (_:Unit),G (Yzn w F g2 Tb3 r) [.code Zj3,.inLoop Zj3,.inBlock 0,.code q66c6] [(0,.pointer (some ⟨g2,0,none⟩)),(1,.slice A29 n30 c31),(2,.int .u64 x33),(7,.int .u64 s.1),(8,.int .i64 s.2)] [.box g2 Tb3 [.slice A4 n5 c6,.slice A8 n9 c10,.slice A12 n13 c14,.slice A16 n17 c18,.slice A20 n21 c22,.slice A24 n25 c26,.int .i64 x1.dots]] [Sm w.heap.size F w [[g2]],St w [[g2]]])) ?_ hs
  clear hs s
  intro s o1 h hO1
  obtain ⟨x52,x53⟩:=s
  show ∀ (_:Unit),G (Yzn w F g2 Tb3 r) [.code Zj3,.inLoop Zj3,.inBlock 0,.code q66c6] [(0,.pointer (some ⟨g2,0,none⟩)),(1,.slice A29 n30 c31),(2,.int .u64 x33),(7,.int .u64 x52),(8,.int .i64 x53)] [.box g2 Tb3 [.slice A4 n5 c6,.slice A8 n9 c10,.slice A12 n13 c14,.slice A16 n17 c18,.slice A20 n21 c22,.slice A24 n25 c26,.int .i64 x1.dots]] [Sm w.heap.size F w [[g2]],St w [[g2]]]
  intro _
  have h:Yw4 x28 x1 x33 x52 x53 o1:=h
  unfold Yw4 at h
  refine Yu9 rfl<|Yu9 rfl<|Yu4 rfl rfl<|Yu2 0 rfl (Yu3 rfl) gn rfl<|Yu2 1 rfl (Yu3 rfl) gn rfl<|Yu2 2 rfl (Yuo Za5 rfl h32.hq) gn rfl<|Yu2 3 rfl (Yug rfl rfl rfl) gn rfl<|Yua 4 rfl ?_
  by_cases hp71:x53 < (x28.length:Int)
  ·have h:=Yul hp71 h
   refine Yv4 rfl _ rfl ((decide_eq_true hp71))<|Yv2 rfl<|Yu9 rfl<|Yuw rfl<|Yu9 rfl ?_
   obtain ⟨hb72,h⟩:=h
   obtain ⟨hb74,h⟩:=h
   have hns:Region.noSelect (Code.ops q66c20)=true:=by kernel_rfl
   refine Yvr [] 14 rfl rfl mix rfl (.c 0 rfl (.c 1 rfl .n))<|wfv 0 rfl (Yu3 rfl) gn hns rfl<|wfv 1 rfl (Yu3 rfl) gn hns rfl<|wfv 2 rfl (Yuy rfl) gn hns rfl<|wfv 3 rfl (Yub Zr6 rfl) gn hns rfl<|wfv 4 rfl (Yue 0 ld_70 rfl rfl rfl) gn hns rfl<|wfv 5 rfl (Yu3 rfl) gn hns rfl<|wfv 6 rfl (Yu3 rfl) gn hns rfl ?_
   have hr78:=Rw.readF (s:=St w [[g2]]) (hl:=Yvw) (h1:=Yvy) h32 hb72
   refine wfv 7 rfl (Yv7 (s:=St w [[g2]]) Yz5 rfl rfl h32 hb72) gn hns rfl<|wfv 8 rfl (Yvo Yyd rfl) gn hns rfl<|wfv 9 rfl (Yvj (kk:=(x53:Int).toNat * 3) (j:=0) (St w [[g2]]) Yvt rfl hr78 rfl (me 1 rfl)) gn hns rfl ?_
   have hr79:=Rw.readF (s:=Sm w.heap.size F w [[g2]]) (hl:=(hlI .u64)) (h1:=(Yya .u64)) h23 hb74
   refine wfv 10 rfl (Yv7 (s:=Sm w.heap.size F w [[g2]]) Zs0 rfl rfl h23 hb74) gn hns rfl<|wfv 11 rfl (Yvj (kk:=((ix x28 x53).sym:Int).toNat * 1) (j:=0) (Sm w.heap.size F w [[g2]]) Zdt rfl hr79 rfl (me 0 rfl)) gn hns rfl<|wfv 12 rfl (Yug rfl rfl rfl) gn hns rfl<|wfv 13 rfl (Yu7 rfl) gn hns rfl<|Yvx (by kernel_rfl)<|Yu9 rfl ?_
   obtain ⟨hb81,h⟩:=h
   have hns:Region.noSelect (Code.ops q66c22)=true:=by kernel_rfl
   refine Yvr [] 12 rfl rfl mix rfl (.c 0 rfl (.c 1 rfl .n))<|wfv 0 rfl (Yu3 rfl) gn hns rfl<|wfv 1 rfl (Yuy rfl) gn hns rfl<|wfv 2 rfl (Yub Zrm rfl) gn hns rfl<|wfv 3 rfl (Yue 0 ld_103 rfl rfl rfl) gn hns rfl<|wfv 4 rfl (Yu3 rfl) gn hns rfl<|wfv 5 rfl (Yu3 rfl) gn hns rfl ?_
   have hr85:=Rw.readF (s:=St w [[g2]]) (hl:=Yvw) (h1:=Yvy) h32 hb72
   refine wfv 6 rfl (Yv7 (s:=St w [[g2]]) Yz5 rfl rfl h32 hb72) gn hns rfl<|wfv 7 rfl (Yvo Yyd rfl) gn hns rfl<|wfv 8 rfl (Yvj (kk:=(x53:Int).toNat * 3) (j:=0) (St w [[g2]]) Yvt rfl hr85 rfl (me 1 rfl)) gn hns rfl ?_
   have hr86:=Rw.readF (s:=Sm w.heap.size F w [[g2]]) (hl:=hlB) (h1:=Zji) h19 hb81
   refine wfv 9 rfl (Yv7 (s:=Sm w.heap.size F w [[g2]]) Zfl rfl rfl h19 hb81) gn hns rfl<|wfv 10 rfl (Yvj (kk:=((ix x28 x53).sym:Int).toNat * 1) (j:=0) (Sm w.heap.size F w [[g2]]) Zlq rfl hr86 rfl (me 0 rfl)) gn hns rfl<|wfv 11 rfl (Zf9 rfl) gn hns rfl<|Yvx (by kernel_rfl) ?_
   by_cases hp87:(ix x1.none ((ix x28 x53).sym))=true
   ·have h:=Yul hp87 h
    refine Yur rfl _ rfl ((nf hp87))<|Yv2 rfl<|Yux<|Yu4 rfl rfl<|Yu2 0 rfl (Yu3 rfl) gn rfl<|Yu2 1 rfl (Yug rfl rfl rfl) gn rfl<|Yu2 2 rfl (Yu7 rfl) gn rfl<|Yua 3 rfl<|Yv1 ?_
    have ih:=Out.inl hO1 h
    exact Yvh [0,1] (ih ()) ⟨rfl,rfl,rfl,rfl,rfl,trivial⟩ (.cons_cons _ (.slnil)) rfl
   ·have h:=Yum hp87 h
    refine Yv4 rfl _ rfl ((nt (bf hp87)))<|Yu9 rfl<|Yu4 rfl rfl<|Yu2 0 rfl (Yu3 rfl) gn rfl<|Yu2 1 rfl (Yu7 rfl) gn rfl<|Yua 2 rfl ?_
    have h:=Out.inr hO1 h
    refine Yvb [.int .u64 (bits .or .u64 x52 (ix x1.first ((ix x28 x53).sym)))] rfl Tryd.func66 rfl (.tmp rfl (.nil)) fun wr hLr=>?_
    have hMr:=hLr.pkI (.c 0 rfl .n) .n (by kernel_rfl) (.c 1 rfl .n)
    have hMi:=hLr.selI (.c 0 rfl .n)
    show Yzo w F g2 Tb3 r (.returned (Yvl [.int .u64 (bits .or .u64 x52 (ix x1.first ((ix x28 x53).sym)))])) wr
    rw [h]
    exact ⟨A4,n5,c6,A8,n9,c10,A12,n13,c14,A16,n17,c18,A20,n21,c22,A24,n25,c26,rfl,hMr,(hLr.outR (s:=Sm w.heap.size F w [[g2]]) hMi (me 0 rfl) Sm.ok h7),(hLr.outR (s:=Sm w.heap.size F w [[g2]]) hMi (me 0 rfl) Sm.ok h11),(hLr.outR (s:=Sm w.heap.size F w [[g2]]) hMi (me 0 rfl) Sm.ok h15),(hLr.outR (s:=Sm w.heap.size F w [[g2]]) hMi (me 0 rfl) Sm.ok h19),(hLr.outR (s:=Sm w.heap.size F w [[g2]]) hMi (me 0 rfl) Sm.ok h23),(hLr.outR (s:=Sm w.heap.size F w [[g2]]) hMi (me 0 rfl) Sm.ok h27)⟩
  ·have h:=Yum hp71 h
   refine Yur rfl _ rfl ((decide_eq_false hp71))<|Ywa [.code q66c6] rfl rfl<|Yu9 rfl<|Yu4 rfl rfl<|Yu2 0 rfl (Yu3 rfl) gn rfl<|Yu2 1 rfl (Yu3 rfl) gn rfl<|Yu2 2 rfl (Yug rfl rfl rfl) gn rfl<|Yu2 3 rfl (Yu7 rfl) gn rfl<|Yua 4 rfl ?_
   have h:=Out.inr hO1 h
   refine Yvb [.int .u64 (bits .or .u64 x52 x33)] rfl Tryd.func66 rfl (.tmp rfl (.nil)) fun wr hLr=>?_
   have hMr:=hLr.pkI (.c 0 rfl .n) .n (by kernel_rfl) (.c 1 rfl .n)
   have hMi:=hLr.selI (.c 0 rfl .n)
   show Yzo w F g2 Tb3 r (.returned (Yvl [.int .u64 (bits .or .u64 x52 x33)])) wr
   rw [h]
   exact ⟨A4,n5,c6,A8,n9,c10,A12,n13,c14,A16,n17,c18,A20,n21,c22,A24,n25,c26,rfl,hMr,(hLr.outR (s:=Sm w.heap.size F w [[g2]]) hMi (me 0 rfl) Sm.ok h7),(hLr.outR (s:=Sm w.heap.size F w [[g2]]) hMi (me 0 rfl) Sm.ok h11),(hLr.outR (s:=Sm w.heap.size F w [[g2]]) hMi (me 0 rfl) Sm.ok h15),(hLr.outR (s:=Sm w.heap.size F w [[g2]]) hMi (me 0 rfl) Sm.ok h19),(hLr.outR (s:=Sm w.heap.size F w [[g2]]) hMi (me 0 rfl) Sm.ok h23),(hLr.outR (s:=Sm w.heap.size F w [[g2]]) hMi (me 0 rfl) Sm.ok h27)⟩
 exact Yvh [0,1] (key1 _ h ()) ⟨rfl,rfl,rfl,rfl,rfl,trivial⟩ (.cons_cons _ (.slnil)) rfl
end Go.Proofs.YtadcichlnacagaaDoor.K
