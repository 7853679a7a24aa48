/- What the machine's calls do, function by function, printed by my own tool. Condition of each: its relation holds of the answer, and what is handed in lies in memory as told. -/
import Derived.Test.YtjookebbmfiidaaDoorK3
set_option linter.unusedVariables false
set_option maxRecDepth 100000
set_option maxHeartbeats 4000000
namespace Go.Proofs.YtjookebbmfiidaaDoor.K
open Go.Proofs.YtjookebbmfiidaaDoor.B Go.Proofs.YtjookebbmfiidaaDoor.R Go.RowKit
noncomputable abbrev Xjq:=Code.snd (Code.snd (Code.snd (Dv Tryd.f18)))
noncomputable abbrev Xd4:=Code.fst (Code.fst (Code.snd (Code.fst (Code.snd (Code.snd (Dv Tryd.f18))))))
noncomputable abbrev q18c24:=Code.fst (Code.fst (Code.fst (Code.snd Xd4)))
abbrev J9 (w:World) (F:Nat→Prop) (r:Bool):Ending→World→Prop:=fun e w'=>e=.returned (.bool r)∧B.Loc w w' [] [St w []]
noncomputable abbrev Ll (w:World) (F:Nat→Prop) (r:Bool):Cx:=⟨Tryd.prog,18,Tryd.f18,29,J9 w F  r,w⟩
theorem Xt (w:World) (F:Nat→Prop) (x1:List Bq) (x6:List Bq) (A2:Option Addr) (n3:Nat) (c4:Nat) (A7:Option Addr) (n8:Nat) (c9:Nat) (h5:Rw Dy w (St w []).av A2 n3 c4 x1) (h10:Rw Dy w (St w []).av A7 n8 c9 x6) (hF:∀ b,F b→b < w.heap.size∧∀ o ∈ ([]:List (List Nat)),b ∉ o) (hL0:B.Loc w w [] [Sm w.heap.size F w [],St w []]) (r:Bool) (h:Kq x1 x6 r):Calls Tryd.prog 18 #[.slice A2 n3 c4,.slice A7 n8 c9] w (J9 w F  r):=by
 unfold Kq at h
 refine Ce (vs:=[.slice A2 n3 c4,.slice A7 n8 c9]) 29 Tryd.func18 rfl Tryd.ntmps18 rfl hL0 ?_
 show G (Ll w F r) _ _ _ _
 refine Ah rfl<|Ac rfl rfl<|Aa 0 rfl (Af rfl) gn rfl<|Aj 1 rfl<|Ah rfl<|Ah rfl<|Ac rfl rfl<|Aa 0 rfl (Ad rfl) gn rfl<|Aa 1 rfl (Dj Xgj rfl h5.hq) gn rfl<|Aa 2 rfl (Ad rfl) gn rfl<|Aa 3 rfl (Dj Xgj rfl h10.hq) gn rfl<|Aa 4 rfl (Be rfl rfl rfl) gn rfl ?_
 refine Aj 5 rfl ?_
 by_cases hp11:(x1.length:Int)=(x6.length:Int)
 ·have h:=Ap hp11 h
  refine Bg rfl _ rfl ((Xd2 hp11))<|Cb rfl<|Ah rfl<|Ah rfl<|Ac rfl rfl<|Aa 0 rfl (Af rfl) gn rfl<|Aj 1 rfl<|Df rfl<|Io rfl ?_
  have key1:∀ s,Bl (fun (s:Int) o=>Hl x1 x6 s o) s r→(fun (s:Int)=>∀ (_:Unit),G (Ll w F r) [.code Xd4,.inLoop Xd4,.inBlock 0,.code Xjq] [(0,.slice A2 n3 c4),(1,.slice A7 n8 c9),(5,.int .i64 s)] [] [Sm w.heap.size F w [],St w []]) s:=by
   intro s hs
   refine Bl.ind (mot:=(fun (s:Int)=>∀ (_:Unit),G (Ll w F r) [.code Xd4,.inLoop Xd4,.inBlock 0,.code Xjq] [(0,.slice A2 n3 c4),(1,.slice A7 n8 c9),(5,.int .i64 s)] [] [Sm w.heap.size F w [],St w []])) ?_ hs
   clear hs s
   intro x91 o1 h hO1
   show ∀ (_:Unit),G (Ll w F r) [.code Xd4,.inLoop Xd4,.inBlock 0,.code Xjq] [(0,.slice A2 n3 c4),(1,.slice A7 n8 c9),(5,.int .i64 x91)] [] [Sm w.heap.size F w [],St w []]
   intro _
   have h:Hl x1 x6 x91 o1:=h
   unfold Hl at h
   refine Ah rfl<|Ah rfl<|Ac rfl rfl<|Aa 0 rfl (Ad rfl) gn rfl<|Aa 1 rfl (Ad rfl) gn rfl<|Aa 2 rfl (Dj Xgj rfl h5.hq) gn rfl<|Aa 3 rfl (Be rfl rfl rfl) gn rfl<|Aj 4 rfl ?_
   by_cases hp170:x91 < (x1.length:Int)
   ·have h:=Ap hp170 h
    refine Bz rfl _ rfl ((decide_eq_true hp170))<|Cb rfl<|Ah rfl<|Df rfl<|Ah rfl ?_
    obtain ⟨hb171,h⟩:=h
    obtain ⟨hb179,h⟩:=h
    obtain ⟨r190,hv191,h⟩:=h
    have hns:Region.noSelect (Code.ops q18c24)=true:=by kernel_rfl
    refine Gf [] 12 rfl rfl mix rfl (.c 0 rfl (.c 1 rfl .n))<|wfv 0 rfl (Ad rfl) gn hns rfl<|wfv 1 rfl (Ad rfl) gn hns rfl ?_
    obtain ⟨ce222,hK223,hr221⟩:=Rw.read (s:=St w []) h5 hb171
    obtain ⟨A224,n225,c226,rfl,h227⟩:=hK223
    refine wfv 2 rfl (F5 (s:=St w []) Xev rfl rfl h5 hb171) gn hns rfl<|wfv 3 rfl (Ja Xc1 rfl) gn hns rfl<|wfv 4 rfl (Hq (kk:=(x91:Int).toNat * 1) (j:=0) (St w []) Y0 rfl hr221 rfl (me 1 rfl)) gn hns rfl<|wfv 5 rfl (Ad rfl) gn hns rfl<|wfv 6 rfl (Ad rfl) gn hns rfl ?_
    obtain ⟨ce229,hK230,hr228⟩:=Rw.read (s:=St w []) h10 hb179
    obtain ⟨A231,n232,c233,rfl,h234⟩:=hK230
    refine wfv 7 rfl (F5 (s:=St w []) Xev rfl rfl h10 hb179) gn hns rfl<|wfv 8 rfl (Ja Xc1 rfl) gn hns rfl<|wfv 9 rfl (Hq (kk:=(x91:Int).toNat * 1) (j:=0) (St w []) Y0 rfl hr228 rfl (me 1 rfl)) gn hns rfl ?_
    refine Cm [10] (by kernel_rfl) rfl ⟨Et 10 rfl gn rfl (D8 [.slice A224 n225 c226,.slice A231 n232 c233] rfl Tryd.func36 rfl rfl rfl fun w241 hL242=>?_),trivial⟩
    have hp243:=pmI hL242 .n .n (by kernel_rfl)
    refine Calls.mono (Rn w241 (Fl ([]:List Cc)) ((ix x1 x91).nodes) ((ix x6 x91).nodes) A224 n225 c226 A231 n232 c233 (Rw.mono h227 (hL242.toSt hp243 (me 1 rfl))) (Rw.mono h234 (hL242.toSt hp243 (me 1 rfl))) (hL242.hFl hp243 (Bi [] rfl)) (hL242.into hp243 _) r190 hv191) ?_
    rintro _ w244 ⟨rfl,hM245⟩
    have hL246:=hL242.call hp243 hM245
    refine ⟨_,_,_,rfl,hL246,?_⟩
    refine ⟨Bi [] rfl,Bi [0,1] rfl,?_⟩
    refine wfv 11 rfl (Qv rfl) gn hns rfl<|E8 (by kernel_rfl) ?_
    by_cases hp247:r190=true
    ·have h:=Ap hp247 h
     refine Bg rfl _ rfl ((nf hp247))<|Cb rfl<|D7<|Ac rfl rfl<|Aa 0 rfl (Ad rfl) gn rfl<|Aa 1 rfl (Be rfl rfl rfl) gn rfl<|Aa 2 rfl (Af rfl) gn rfl<|Aj 3 rfl<|Dp ?_
     have ih:=Out.inl hO1 h
     exact Dc [0,1] (ih ()) ⟨rfl,rfl,rfl,trivial⟩ (.slnil) rfl
    ·have h:=Aq hp247 h
     refine Bz rfl _ rfl ((nt (bf hp247)))<|Ah rfl<|Ac rfl rfl<|Aa 0 rfl (Af rfl) gn rfl<|Aj 1 rfl ?_
     have h:=Out.inr hO1 h
     refine C9 [.bool false] rfl Tryd.func18 rfl (.tmp rfl (.nil)) fun wr hLr=>?_
     have hMr:=hLr.pk0 (.c 1 rfl .n)
     show J9 w F  r (.returned (Ci [.bool false])) wr
     rw [h]
     exact ⟨rfl,hMr⟩
   ·have h:=Aq hp170 h
    refine Bg rfl _ rfl ((decide_eq_false hp170))<|Gp [.code Xjq] rfl rfl<|Ah rfl<|Ac rfl rfl<|Aa 0 rfl (Af rfl) gn rfl<|Aj 1 rfl ?_
    have h:=Out.inr hO1 h
    refine C9 [.bool true] rfl Tryd.func18 rfl (.tmp rfl (.nil)) fun wr hLr=>?_
    have hMr:=hLr.pk0 (.c 1 rfl .n)
    show J9 w F  r (.returned (Ci [.bool true])) wr
    rw [h]
    exact ⟨rfl,hMr⟩
  exact Dc [0,1] (key1 _ h ()) ⟨rfl,rfl,rfl,trivial⟩ (.slnil) rfl
 ·have h:=Aq hp11 h
  refine Bz rfl _ rfl ((Xde hp11))<|Ah rfl<|Ac rfl rfl<|Aa 0 rfl (Af rfl) gn rfl<|Aj 1 rfl ?_
  refine C9 [.bool false] rfl Tryd.func18 rfl (.tmp rfl (.nil)) fun wr hLr=>?_
  have hMr:=hLr.pk0 (.c 1 rfl .n)
  show J9 w F  r (.returned (Ci [.bool false])) wr
  rw [h]
  exact ⟨rfl,hMr⟩
abbrev Xu (w:World) (F:Nat→Prop) (g4:Nat) (Tb5:Nat) (A6:Option Addr) (n7:Nat) (c8:Nat) (z10:Nat) (r:List Ak):Ending→World→Prop:=fun e w'=>∃ A0:Option Addr,∃ n0:Nat,∃ c0:Nat,e=.returned (.tuple #[])∧B.Loc w w' [.box g4 Tb5 [.slice A0 n0 c0],.own (.slice A0 n0 c0) 84 4 n0 (r.flatMap D9)] [St w [[g4],(Value.slice A6 n7 c8).ownBlock.toList]]∧Ow z10 A0 n0 c0 r
noncomputable abbrev Xfu (w:World) (F:Nat→Prop) (g4:Nat) (Tb5:Nat) (A6:Option Addr) (n7:Nat) (c8:Nat) (z10:Nat) (r:List Ak):Cx:=⟨Tryd.prog,56,Tryd.f56,11,Xu w F g4 Tb5 A6 n7 c8 z10 r,w⟩
theorem Dw (w:World) (F:Nat→Prop) (x1:Int) (x2:ByteArray) (x3:List Ak) (g4:Nat) (Tb5:Nat) (z10:Nat) (A6:Option Addr) (n7:Nat) (c8:Nat) (hz11:z10≤w.heap.size) (h9:Ow z10 A6 n7 c8 x3) (hF:∀ b,F b→b < w.heap.size∧∀ o ∈ ([[g4],(Value.slice A6 n7 c8).ownBlock.toList]:List (List Nat)),b ∉ o) (hL0:B.Loc w w [.box g4 Tb5 [.slice A6 n7 c8],.own (.slice A6 n7 c8) 84 4 n7 (x3.flatMap D9)] [Sm w.heap.size F w [[g4],(Value.slice A6 n7 c8).ownBlock.toList],St w [[g4],(Value.slice A6 n7 c8).ownBlock.toList]]) (r:List Ak) (h:Ep x1 x2 x3 r):Calls Tryd.prog 56 #[.int .i64 x1,.string x2,.pointer (some ⟨g4,0,none⟩)] w (Xu w F g4 Tb5 A6 n7 c8 z10 r):=by
 unfold Ep at h
 refine Ce (vs:=[.int .i64 x1,.string x2,.pointer (some ⟨g4,0,none⟩)]) 11 Tryd.func56 rfl Tryd.ntmps56 rfl hL0 ?_
 show G (Xfu w F g4 Tb5 A6 n7 c8 z10 r) _ _ _ _
 refine Ac rfl rfl<|Aa 0 rfl (Au 0 Np rfl rfl rfl) gn rfl<|Aa 1 rfl (Ad rfl) gn rfl<|Aa 2 rfl (Ad rfl) gn rfl<|Aa 3 rfl (J5 #[.int .i64 x1,.string x2,.int .i64 0,.int .i64 0] Xgp rfl (by kernel_rfl)) gn rfl ?_
 refine Cf 4 rfl (Gw (xs:=([(⟨x1,x2,0,0⟩:Ak)]:List Ak)) [.int .i64 x1,.string x2,.int .i64 0,.int .i64 0] Xc5 rfl (by kernel_rfl) rfl rfl rfl rfl fun gb13 h14=>?_) gn
 obtain ⟨x18,hv19,h⟩:=h
 obtain ⟨hb20,h⟩:=h
 refine Cf 5 rfl (L8 (zs:=x18) (cells':=x18.flatMap D9) 2 Xie rfl rfl rfl h9 hz11 (Src.ownF (hl:=Ei) (h1:=Eh) 0 rfl h14) (by rw [hv19,List.flatMap_append] <;> rfl) (Ff hv19 h14.hq) hb20 rfl rfl fun A15 c16 h17=>?_) gn
 refine Cf 6 rfl (Fp (vs:=[.slice A15 (n7 + 1) c16]) (cs':=[.slice A15 (n7 + 1) c16]) (M':=[.own (.slice (some ⟨gb13,0,none⟩) 1 1) 84 4 1 (([(⟨x1,x2,0,0⟩:Ak)]:List Ak).flatMap D9),.box g4 Tb5 [.slice A15 (n7 + 1) c16],.own (.slice A15 (n7 + 1) c16) 84 4 (n7 + 1) (x18.flatMap D9)]) 1 sz_75 rfl rfl rfl rfl rfl rfl rfl rfl rfl ?_) gn
 refine Aj 7 rfl ?_
 refine Xr [] Tryd.func56 rfl (.nil) fun wr hLr=>?_
 have hMr:=hLr.pkI (.c 1 rfl (.c 2 rfl .n)) (.c 0 rfl .n) (by kernel_rfl) (.c 1 rfl .n)
 show Xu w F g4 Tb5 A6 n7 c8 z10 r (.returned (Ci [])) wr
 rw [h]
 exact ⟨A15,n7 + 1,c16,rfl,hMr,h17⟩
noncomputable abbrev q57c6:=Code.snd (Code.snd (Code.snd (Dv Tryd.f57)))
noncomputable abbrev Xf9:=Code.snd q57c6
noncomputable abbrev Xlx:=Code.snd (Code.snd (Code.snd (Code.snd (Code.fst q57c6))))
noncomputable abbrev Xjy:=Code.snd Xlx
noncomputable abbrev Xed:=Code.fst (Code.fst (Code.snd (Code.fst Xlx)))
abbrev Qs (w:World) (F:Nat→Prop) (g2:Nat) (g13:Nat) (g15:Nat) (g17:Nat) (g20:Nat) (Tb3:Nat) (Tb14:Nat) (Tb16:Nat) (Tb18:Nat) (Tb21:Nat) (A22:Option Addr) (n23:Nat) (c24:Nat) (z26:Nat) (A4:Option Addr) (n5:Nat) (c6:Nat) (A8:Option Addr) (n9:Nat) (c10:Nat) (r:Ar × Int × (List Ak)):Ending→World→Prop:=fun e w'=>∃ Ar2:Option Addr,∃ nr2:Nat,∃ cr2:Nat,e=.returned (.tuple #[])∧B.Loc w w' [.box g2 Tb3 [.slice A4 n5 c6,.slice A8 n9 c10],.box g13 Tb14 [.int .i64 r.2.1],.box g15 Tb16 [.func (.func 56) #[] #[.pointer (some ⟨g20,0,none⟩)]],.box g17 Tb18 [.func (.func 57) #[] #[.pointer (some ⟨g2,0,none⟩),.pointer (some ⟨g13,0,none⟩),.pointer (some ⟨g15,0,none⟩),.pointer (some ⟨g17,0,none⟩)]],.box g20 Tb21 [.slice Ar2 nr2 cr2],.own (.slice Ar2 nr2 cr2) 84 4 nr2 (r.2.2.flatMap D9)] [St w [[g2],[g13],[g15],[g17],[g20],(Value.slice A22 n23 c24).ownBlock.toList]]∧Ow z26 Ar2 nr2 cr2 r.2.2
noncomputable abbrev Nc (w:World) (F:Nat→Prop) (g2:Nat) (g13:Nat) (g15:Nat) (g17:Nat) (g20:Nat) (Tb3:Nat) (Tb14:Nat) (Tb16:Nat) (Tb18:Nat) (Tb21:Nat) (A22:Option Addr) (n23:Nat) (c24:Nat) (z26:Nat) (A4:Option Addr) (n5:Nat) (c6:Nat) (A8:Option Addr) (n9:Nat) (c10:Nat) (r:Ar × Int × (List Ak)):Cx:=⟨Tryd.prog,57,Tryd.f57,56,Qs w F g2 g13 g15 g17 g20 Tb3 Tb14 Tb16 Tb18 Tb21 A22 n23 c24 z26 A4 n5 c6 A8 n9 c10 r,w⟩
def Wq (rl:Ar→Int→(List Ak)→(Ar × Int × (List Ak))→Prop):Prop:=∀ (w:World) (F:Nat→Prop) (x1:Ar) (x12:Int) (x19:List Ak) (g2:Nat) (Tb3:Nat) (A4:Option Addr) (n5:Nat) (c6:Nat) (A8:Option Addr) (n9:Nat) (c10:Nat) (g13:Nat) (Tb14:Nat) (g15:Nat) (Tb16:Nat) (g17:Nat) (Tb18:Nat) (g20:Nat) (Tb21:Nat) (z26:Nat) (A22:Option Addr) (n23:Nat) (c24:Nat) (h7:Rw Dl w (St w [[g2],[g13],[g15],[g17],[g20],(Value.slice A22 n23 c24).ownBlock.toList]).av A4 n5 c6 x1.nodes) (h11:Rw Gg w (St w [[g2],[g13],[g15],[g17],[g20],(Value.slice A22 n23 c24).ownBlock.toList]).av A8 n9 c10 x1.conds) (hz27:z26≤w.heap.size) (h25:Ow z26 A22 n23 c24 x19) (hF:∀ b,F b→b < w.heap.size∧∀ o ∈ ([[g2],[g13],[g15],[g17],[g20],(Value.slice A22 n23 c24).ownBlock.toList]:List (List Nat)),b ∉ o) (hL0:B.Loc w w [.box g2 Tb3 [.slice A4 n5 c6,.slice A8 n9 c10],.box g13 Tb14 [.int .i64 x12],.box g15 Tb16 [.func (.func 56) #[] #[.pointer (some ⟨g20,0,none⟩)]],.box g17 Tb18 [.func (.func 57) #[] #[.pointer (some ⟨g2,0,none⟩),.pointer (some ⟨g13,0,none⟩),.pointer (some ⟨g15,0,none⟩),.pointer (some ⟨g17,0,none⟩)]],.box g20 Tb21 [.slice A22 n23 c24],.own (.slice A22 n23 c24) 84 4 n23 (x19.flatMap D9)] [Sm w.heap.size F w [[g2],[g13],[g15],[g17],[g20],(Value.slice A22 n23 c24).ownBlock.toList],St w [[g2],[g13],[g15],[g17],[g20],(Value.slice A22 n23 c24).ownBlock.toList]]) (r:Ar × Int × (List Ak)) (h:rl x1 x12 x19 r),Calls Tryd.prog 57 #[.pointer (some ⟨g2,0,none⟩),.pointer (some ⟨g13,0,none⟩),.pointer (some ⟨g15,0,none⟩),.pointer (some ⟨g17,0,none⟩)] w (Qs w F g2 g13 g15 g17 g20 Tb3 Tb14 Tb16 Tb18 Tb21 A22 n23 c24 z26 A4 n5 c6 A8 n9 c10 r)
theorem Xct (rc_query_Print_2:Ar→Int→(List Ak)→(Ar × Int × (List Ak))→Prop) (ih_query_Print_2:Wq rc_query_Print_2):Wq (O5 rc_query_Print_2):=by
 intro w F x1 x12 x19 g2 Tb3 A4 n5 c6 A8 n9 c10 g13 Tb14 g15 Tb16 g17 Tb18 g20 Tb21 z26 A22 n23 c24 h7 h11 hz27 h25 hF hL0 r h
 unfold O5 at h
 refine Ce (vs:=[.pointer (some ⟨g2,0,none⟩),.pointer (some ⟨g13,0,none⟩),.pointer (some ⟨g15,0,none⟩),.pointer (some ⟨g17,0,none⟩)]) 56 Tryd.func57 rfl Tryd.ntmps57 rfl hL0 ?_
 show G (Nc w F g2 g13 g15 g17 g20 Tb3 Tb14 Tb16 Tb18 Tb21 A22 n23 c24 z26 A4 n5 c6 A8 n9 c10 r) _ _ _ _
 refine Ah rfl<|Ac rfl rfl<|Aa 0 rfl (Aw J4 rfl) gn rfl<|Aa 1 rfl (Au 0 Rl rfl rfl rfl) gn rfl<|Aa 2 rfl (Au 1 H9 rfl rfl rfl) gn rfl ?_
 obtain ⟨hb28,h⟩:=h
 have hr29:=Rw.readF (s:=St w [[g2],[g13],[g15],[g17],[g20],(Value.slice A22 n23 c24).ownBlock.toList]) (hl:=Ee) (h1:=Ez) h7 hb28
 refine Aa 3 rfl (F5 (s:=St w [[g2],[g13],[g15],[g17],[g20],(Value.slice A22 n23 c24).ownBlock.toList]) U7 rfl rfl h7 hb28) gn rfl<|Aa 4 rfl (Z9 (St w [[g2],[g13],[g15],[g17],[g20],(Value.slice A22 n23 c24).ownBlock.toList]) Xav rfl hr29 rfl (me 1 rfl)) gn rfl ?_
 refine Cf 5 rfl (Gz [.string (⟨#[]⟩:ByteArray),.bool false,.string (⟨#[]⟩:ByteArray),.string (⟨#[]⟩:ByteArray),.int .i64 0] Xi4 rfl fun gb30=>?_) gn
 refine Cf 6 rfl (Fp (vs:=[.string ((ix x1.nodes x12).name),.bool ((ix x1.nodes x12).lit),.string ((ix x1.nodes x12).field),.string ((ix x1.nodes x12).capture),.int .i64 ((ix x1.nodes x12).kids)]) (cs':=[.string ((ix x1.nodes x12).name),.bool ((ix x1.nodes x12).lit),.string ((ix x1.nodes x12).field),.string ((ix x1.nodes x12).capture),.int .i64 ((ix x1.nodes x12).kids)]) (M':=[.box gb30 45 [.string ((ix x1.nodes x12).name),.bool ((ix x1.nodes x12).lit),.string ((ix x1.nodes x12).field),.string ((ix x1.nodes x12).capture),.int .i64 ((ix x1.nodes x12).kids)],.box g2 Tb3 [.slice A4 n5 c6,.slice A8 n9 c10],.box g13 Tb14 [.int .i64 x12],.box g15 Tb16 [.func (.func 56) #[] #[.pointer (some ⟨g20,0,none⟩)]],.box g17 Tb18 [.func (.func 57) #[] #[.pointer (some ⟨g2,0,none⟩),.pointer (some ⟨g13,0,none⟩),.pointer (some ⟨g15,0,none⟩),.pointer (some ⟨g17,0,none⟩)]],.box g20 Tb21 [.slice A22 n23 c24],.own (.slice A22 n23 c24) 84 4 n23 (x19.flatMap D9)]) 0 Xfj rfl rfl rfl rfl rfl rfl rfl rfl rfl ?_) gn
 refine Aj 7 rfl<|Ah rfl<|Ac rfl rfl<|Aa 0 rfl (Au 2 H9 rfl rfl rfl) gn rfl<|Aa 1 rfl (Be rfl rfl rfl) gn rfl ?_
 refine Cf 2 rfl (Fp (vs:=[.int .i64 (w64 (x12 + 1))]) (cs':=[.int .i64 (w64 (x12 + 1))]) (M':=[.box gb30 45 [.string ((ix x1.nodes x12).name),.bool ((ix x1.nodes x12).lit),.string ((ix x1.nodes x12).field),.string ((ix x1.nodes x12).capture),.int .i64 ((ix x1.nodes x12).kids)],.box g2 Tb3 [.slice A4 n5 c6,.slice A8 n9 c10],.box g13 Tb14 [.int .i64 (w64 (x12 + 1))],.box g15 Tb16 [.func (.func 56) #[] #[.pointer (some ⟨g20,0,none⟩)]],.box g17 Tb18 [.func (.func 57) #[] #[.pointer (some ⟨g2,0,none⟩),.pointer (some ⟨g13,0,none⟩),.pointer (some ⟨g15,0,none⟩),.pointer (some ⟨g17,0,none⟩)]],.box g20 Tb21 [.slice A22 n23 c24],.own (.slice A22 n23 c24) 84 4 n23 (x19.flatMap D9)]) 2 Xar rfl rfl rfl rfl rfl rfl rfl rfl rfl ?_) gn
 refine Aj 3 rfl<|Ah rfl<|Ah rfl<|Ac rfl rfl<|Aa 0 rfl (Aw Vb rfl) gn rfl<|Aa 1 rfl (Au 0 Ib rfl rfl rfl) gn rfl<|Aa 2 rfl (Uf rfl rfl) gn rfl<|Aj 3 rfl ?_
 have j1:∀ (x60:List Ak) (h:O4 x1 x12 rc_query_Print_2 x60 r) (A61:Option Addr) (n62:Nat) (c63:Nat) (h64:Ow z26 A61 n62 c63 x60),G (Nc w F g2 g13 g15 g17 g20 Tb3 Tb14 Tb16 Tb18 Tb21 A22 n23 c24 z26 A4 n5 c6 A8 n9 c10 r) [.code q57c6] [(2,.pointer (some ⟨g15,0,none⟩)),(3,.pointer (some ⟨g17,0,none⟩)),(4,.pointer (some ⟨gb30,0,none⟩))] [.own (.slice A61 n62 c63) 84 4 n62 (x60.flatMap D9),.box gb30 45 [.string ((ix x1.nodes x12).name),.bool ((ix x1.nodes x12).lit),.string ((ix x1.nodes x12).field),.string ((ix x1.nodes x12).capture),.int .i64 ((ix x1.nodes x12).kids)],.box g2 Tb3 [.slice A4 n5 c6,.slice A8 n9 c10],.box g13 Tb14 [.int .i64 (w64 (x12 + 1))],.box g15 Tb16 [.func (.func 56) #[] #[.pointer (some ⟨g20,0,none⟩)]],.box g17 Tb18 [.func (.func 57) #[] #[.pointer (some ⟨g2,0,none⟩),.pointer (some ⟨g13,0,none⟩),.pointer (some ⟨g15,0,none⟩),.pointer (some ⟨g17,0,none⟩)]],.box g20 Tb21 [.slice A61 n62 c63]] [Sm w.heap.size F w [[g2],[g13],[g15],[g17],[g20],(Value.slice A22 n23 c24).ownBlock.toList],St w [[g2],[g13],[g15],[g17],[g20],(Value.slice A22 n23 c24).ownBlock.toList]]:=by
  intro x60 h A61 n62 c63 h64
  unfold O4 at h
  refine Ah rfl<|Ah rfl<|Ac rfl rfl<|Aa 0 rfl (Aw Zl rfl) gn rfl<|Aa 1 rfl (Au 1 Xcy rfl rfl rfl) gn rfl<|Aj 2 rfl ?_
  have j2:∀ (x241:List Ak) (x246:Int) (h:La x1 x12 x241 x246 r) (A242:Option Addr) (n243:Nat) (c244:Nat) (h245:Ow z26 A242 n243 c244 x241),G (Nc w F g2 g13 g15 g17 g20 Tb3 Tb14 Tb16 Tb18 Tb21 A22 n23 c24 z26 A4 n5 c6 A8 n9 c10 r) [.code Xf9] [(2,.pointer (some ⟨g15,0,none⟩)),(4,.pointer (some ⟨gb30,0,none⟩))] [.own (.slice A242 n243 c244) 84 4 n243 (x241.flatMap D9),.box g20 Tb21 [.slice A242 n243 c244],.box gb30 45 [.string ((ix x1.nodes x12).name),.bool ((ix x1.nodes x12).lit),.string ((ix x1.nodes x12).field),.string ((ix x1.nodes x12).capture),.int .i64 ((ix x1.nodes x12).kids)],.box g2 Tb3 [.slice A4 n5 c6,.slice A8 n9 c10],.box g13 Tb14 [.int .i64 x246],.box g15 Tb16 [.func (.func 56) #[] #[.pointer (some ⟨g20,0,none⟩)]],.box g17 Tb18 [.func (.func 57) #[] #[.pointer (some ⟨g2,0,none⟩),.pointer (some ⟨g13,0,none⟩),.pointer (some ⟨g15,0,none⟩),.pointer (some ⟨g17,0,none⟩)]]] [Sm w.heap.size F w [[g2],[g13],[g15],[g17],[g20],(Value.slice A22 n23 c24).ownBlock.toList],St w [[g2],[g13],[g15],[g17],[g20],(Value.slice A22 n23 c24).ownBlock.toList]]:=by
   intro x241 x246 h A242 n243 c244 h245
   unfold La at h
   refine Ah rfl<|Ac rfl rfl<|Aa 0 rfl (Aw Vp rfl) gn rfl<|Aa 1 rfl (Au 2 Ib rfl rfl rfl) gn rfl<|Aa 2 rfl (Uf rfl rfl) gn rfl<|Aj 3 rfl ?_
   by_cases hp247:(ix x1.nodes x12).capture=(⟨#[]⟩:ByteArray)
   ·have h:=Ap hp247 h
    refine Bg rfl _ rfl ((nf (Qw hp247)))<|Cb rfl ?_
    refine Xr [] Tryd.func57 rfl (.nil) fun wr hLr=>?_
    have hMr:=hLr.pkI (.c 3 rfl (.c 4 rfl (.c 5 rfl (.c 6 rfl (.c 1 rfl (.c 0 rfl .n)))))) (.c 2 rfl .n) (by kernel_rfl) (.c 1 rfl .n)
    show Qs w F g2 g13 g15 g17 g20 Tb3 Tb14 Tb16 Tb18 Tb21 A22 n23 c24 z26 A4 n5 c6 A8 n9 c10 r (.returned (Ci [])) wr
    rw [h]
    exact ⟨A242,n243,c244,rfl,hMr,h245⟩
   ·have h:=Aq hp247 h
    refine Bz rfl _ rfl ((nt (Rq hp247)))<|Ah rfl<|Ac rfl rfl<|Aa 0 rfl (Au 5 Xk rfl rfl rfl) gn rfl ?_
    obtain ⟨r251,hv252,h⟩:=h
    refine Cf 1 rfl (J7 [.int .i64 5,.string (⟨#[64]⟩:ByteArray)] [.pointer (some ⟨g20,0,none⟩)] rfl rfl Tryd.func56 rfl rfl rfl fun w248 hL249=>?_) gn
    have hp250:=pmI hL249 (.c 1 rfl (.c 0 rfl .n)) (.c 2 rfl (.c 3 rfl (.c 4 rfl (.c 5 rfl (.c 6 rfl .n))))) (by kernel_rfl)
    refine Calls.mono (Dw w248 (Fl ([]:List Cc)) 5 (⟨#[64]⟩:ByteArray) x241 g20 Tb21 z26 A242 n243 c244 (Nat.le_trans hz27 hL249.env.size) h245 (hL249.hFl hp250 (Bi [] rfl)) (hL249.into hp250 _) r251 hv252) ?_
    rintro _ w258 ⟨A253,n254,c255,rfl,hM259,h256⟩
    have hL260:=hL249.call hp250 hM259
    refine ⟨_,_,_,rfl,hL260,?_⟩
    refine Aj 2 rfl<|Ac rfl rfl<|Aa 0 rfl (Au 5 Xk rfl rfl rfl) gn rfl<|Aa 1 rfl (Aw Vp rfl) gn rfl<|Aa 2 rfl (Au 2 Ib rfl rfl rfl) gn rfl ?_
    obtain ⟨r264,hv265,h⟩:=h
    refine Cf 3 rfl (J7 [.int .i64 1,.string ((ix x1.nodes x12).capture)] [.pointer (some ⟨g20,0,none⟩)] rfl rfl Tryd.func56 rfl rfl rfl fun w261 hL262=>?_) gn
    have hp263:=pmI hL262 (.c 0 rfl (.c 1 rfl .n)) (.c 2 rfl (.c 3 rfl (.c 4 rfl (.c 5 rfl (.c 6 rfl .n))))) (by kernel_rfl)
    refine Calls.mono (Dw w261 (Fl ([]:List Cc)) 1 ((ix x1.nodes x12).capture) r251 g20 Tb21 z26 A253 n254 c255 (Nat.le_trans hz27 hL262.env.size) h256 (hL262.hFl hp263 (Bi [] rfl)) (hL262.into hp263 _) r264 hv265) ?_
    rintro _ w271 ⟨A266,n267,c268,rfl,hM272,h269⟩
    have hL273:=hL262.call hp263 hM272
    refine ⟨_,_,_,rfl,hL273,?_⟩
    refine Aj 4 rfl ?_
    refine Xr [] Tryd.func57 rfl (.nil) fun wr hLr=>?_
    have hMr:=hLr.pkI (.c 3 rfl (.c 4 rfl (.c 5 rfl (.c 6 rfl (.c 0 rfl (.c 1 rfl .n)))))) (.c 2 rfl .n) (by kernel_rfl) (.c 1 rfl .n)
    show Qs w F g2 g13 g15 g17 g20 Tb3 Tb14 Tb16 Tb18 Tb21 A22 n23 c24 z26 A4 n5 c6 A8 n9 c10 r (.returned (Ci [])) wr
    rw [h]
    exact ⟨A266,n267,c268,rfl,hMr,h269⟩
  by_cases hp65:((ix x1.nodes x12).lit)=true
  ·have h:=Ap hp65 h
   refine Bz rfl _ rfl (hp65)<|Ac rfl rfl<|Aa 0 rfl (Au 4 Xk rfl rfl rfl) gn rfl<|Aa 1 rfl (Aw Vt rfl) gn rfl<|Aa 2 rfl (Au 1 Ib rfl rfl rfl) gn rfl ?_
   obtain ⟨r277,hv278,h⟩:=h
   refine Cf 3 rfl (J7 [.int .i64 2,.string ((ix x1.nodes x12).name)] [.pointer (some ⟨g20,0,none⟩)] rfl rfl Tryd.func56 rfl rfl rfl fun w274 hL275=>?_) gn
   have hp276:=pmI hL275 (.c 6 rfl (.c 0 rfl .n)) (.c 1 rfl (.c 2 rfl (.c 3 rfl (.c 4 rfl (.c 5 rfl .n))))) (by kernel_rfl)
   refine Calls.mono (Dw w274 (Fl ([]:List Cc)) 2 ((ix x1.nodes x12).name) x60 g20 Tb21 z26 A61 n62 c63 (Nat.le_trans hz27 hL275.env.size) h64 (hL275.hFl hp276 (Bi [] rfl)) (hL275.into hp276 _) r277 hv278) ?_
   rintro _ w284 ⟨A279,n280,c281,rfl,hM285,h282⟩
   have hL286:=hL275.call hp276 hM285
   refine ⟨_,_,_,rfl,hL286,?_⟩
   refine Aj 4 rfl<|Ba 6 rfl<|Ba 6 rfl<|Ba 6 rfl<|Ba 6 rfl<|Ba 6 rfl<|Ba 5 rfl<|Ba 6 rfl ?_
   exact Dc [0,1] (j2 r277 (w64 (x12 + 1)) h A279 n280 c281 h282) ⟨rfl,rfl,trivial⟩ (.cons_cons _ (.cons_cons _ (.cons_cons _ (.cons_cons _ (.cons_cons _ (.cons_cons _ (.cons_cons _ (.slnil)))))))) rfl
  ·have h:=Aq hp65 h
   refine Bg rfl _ rfl ((bf hp65))<|Ah rfl<|Ac rfl rfl<|Aa 0 rfl (Au 4 Xk rfl rfl rfl) gn rfl ?_
   obtain ⟨r290,hv291,h⟩:=h
   refine Cf 1 rfl (J7 [.int .i64 5,.string (⟨#[40]⟩:ByteArray)] [.pointer (some ⟨g20,0,none⟩)] rfl rfl Tryd.func56 rfl rfl rfl fun w287 hL288=>?_) gn
   have hp289:=pmI hL288 (.c 6 rfl (.c 0 rfl .n)) (.c 1 rfl (.c 2 rfl (.c 3 rfl (.c 4 rfl (.c 5 rfl .n))))) (by kernel_rfl)
   refine Calls.mono (Dw w287 (Fl ([]:List Cc)) 5 (⟨#[40]⟩:ByteArray) x60 g20 Tb21 z26 A61 n62 c63 (Nat.le_trans hz27 hL288.env.size) h64 (hL288.hFl hp289 (Bi [] rfl)) (hL288.into hp289 _) r290 hv291) ?_
   rintro _ w297 ⟨A292,n293,c294,rfl,hM298,h295⟩
   have hL299:=hL288.call hp289 hM298
   refine ⟨_,_,_,rfl,hL299,?_⟩
   refine Aj 2 rfl<|Ah rfl<|Ah rfl<|Ac rfl rfl<|Aa 0 rfl (Aw Vt rfl) gn rfl<|Aa 1 rfl (Au 2 Ib rfl rfl rfl) gn rfl<|Aa 2 rfl (Zc rfl rfl) gn rfl<|Aj 3 rfl ?_
   have j3:∀ (x328:List Ak) (h:O1 x1 x12 rc_query_Print_2 x328 r) (A329:Option Addr) (n330:Nat) (c331:Nat) (h332:Ow z26 A329 n330 c331 x328),G (Nc w F g2 g13 g15 g17 g20 Tb3 Tb14 Tb16 Tb18 Tb21 A22 n23 c24 z26 A4 n5 c6 A8 n9 c10 r) [.code Xlx,.code Xf9] [(2,.pointer (some ⟨g15,0,none⟩)),(3,.pointer (some ⟨g17,0,none⟩)),(4,.pointer (some ⟨gb30,0,none⟩))] [.own (.slice A329 n330 c331) 84 4 n330 (x328.flatMap D9),.box g20 Tb21 [.slice A329 n330 c331],.box gb30 45 [.string ((ix x1.nodes x12).name),.bool ((ix x1.nodes x12).lit),.string ((ix x1.nodes x12).field),.string ((ix x1.nodes x12).capture),.int .i64 ((ix x1.nodes x12).kids)],.box g2 Tb3 [.slice A4 n5 c6,.slice A8 n9 c10],.box g13 Tb14 [.int .i64 (w64 (x12 + 1))],.box g15 Tb16 [.func (.func 56) #[] #[.pointer (some ⟨g20,0,none⟩)]],.box g17 Tb18 [.func (.func 57) #[] #[.pointer (some ⟨g2,0,none⟩),.pointer (some ⟨g13,0,none⟩),.pointer (some ⟨g15,0,none⟩),.pointer (some ⟨g17,0,none⟩)]]] [Sm w.heap.size F w [[g2],[g13],[g15],[g17],[g20],(Value.slice A22 n23 c24).ownBlock.toList],St w [[g2],[g13],[g15],[g17],[g20],(Value.slice A22 n23 c24).ownBlock.toList]]:=by
    intro x328 h A329 n330 c331 h332
    unfold O1 at h
    refine Ah rfl<|Ah rfl<|Ac rfl rfl<|Aa 0 rfl (Aw Uj rfl) gn rfl<|Aa 1 rfl (Au 2 H9 rfl rfl rfl) gn rfl<|Aa 2 rfl (Ad rfl) gn rfl<|Aj 3 rfl<|Df rfl<|Io rfl ?_
    have key4:∀ s,Bl (fun (s:Int × (List Ak) × Int) o=>Lh x1 x12 rc_query_Print_2 s.1 s.2.1 s.2.2 o) s r→(fun (s:Int × (List Ak) × Int)=>∀ (A365:Option Addr) (n366:Nat) (c367:Nat) (h368:Ow z26 A365 n366 c367 s.2.1),G (Nc w F g2 g13 g15 g17 g20 Tb3 Tb14 Tb16 Tb18 Tb21 A22 n23 c24 z26 A4 n5 c6 A8 n9 c10 r) [.code Xed,.inLoop Xed,.inBlock 0,.code Xjy,.code Xf9] [(2,.pointer (some ⟨g15,0,none⟩)),(3,.pointer (some ⟨g17,0,none⟩)),(4,.pointer (some ⟨gb30,0,none⟩)),(39,.int .i64 ((ix x1.nodes x12).kids)),(40,.int .i64 s.1)] [.own (.slice A365 n366 c367) 84 4 n366 (s.2.1.flatMap D9),.box g20 Tb21 [.slice A365 n366 c367],.box gb30 45 [.string ((ix x1.nodes x12).name),.bool ((ix x1.nodes x12).lit),.string ((ix x1.nodes x12).field),.string ((ix x1.nodes x12).capture),.int .i64 ((ix x1.nodes x12).kids)],.box g2 Tb3 [.slice A4 n5 c6,.slice A8 n9 c10],.box g13 Tb14 [.int .i64 s.2.2],.box g15 Tb16 [.func (.func 56) #[] #[.pointer (some ⟨g20,0,none⟩)]],.box g17 Tb18 [.func (.func 57) #[] #[.pointer (some ⟨g2,0,none⟩),.pointer (some ⟨g13,0,none⟩),.pointer (some ⟨g15,0,none⟩),.pointer (some ⟨g17,0,none⟩)]]] [Sm w.heap.size F w [[g2],[g13],[g15],[g17],[g20],(Value.slice A22 n23 c24).ownBlock.toList],St w [[g2],[g13],[g15],[g17],[g20],(Value.slice A22 n23 c24).ownBlock.toList]]) s:=by
     intro s hs
     refine Bl.ind (mot:=(fun (s:Int × (List Ak) × Int)=>∀ (A365:Option Addr) (n366:Nat) (c367:Nat) (h368:Ow z26 A365 n366 c367 s.2.1),G (Nc w F g2 g13 g15 g17 g20 Tb3 Tb14 Tb16 Tb18 Tb21 A22 n23 c24 z26 A4 n5 c6 A8 n9 c10 r) [.code Xed,.inLoop Xed,.inBlock 0,.code Xjy,.code Xf9] [(2,.pointer (some ⟨g15,0,none⟩)),(3,.pointer (some ⟨g17,0,none⟩)),(4,.pointer (some ⟨gb30,0,none⟩)),(39,.int .i64 ((ix x1.nodes x12).kids)),(40,.int .i64 s.1)] [.own (.slice A365 n366 c367) 84 4 n366 (s.2.1.flatMap D9),.box g20 Tb21 [.slice A365 n366 c367],.box gb30 45 [.string ((ix x1.nodes x12).name),.bool ((ix x1.nodes x12).lit),.string ((ix x1.nodes x12).field),.string ((ix x1.nodes x12).capture),.int .i64 ((ix x1.nodes x12).kids)],.box g2 Tb3 [.slice A4 n5 c6,.slice A8 n9 c10],.box g13 Tb14 [.int .i64 s.2.2],.box g15 Tb16 [.func (.func 56) #[] #[.pointer (some ⟨g20,0,none⟩)]],.box g17 Tb18 [.func (.func 57) #[] #[.pointer (some ⟨g2,0,none⟩),.pointer (some ⟨g13,0,none⟩),.pointer (some ⟨g15,0,none⟩),.pointer (some ⟨g17,0,none⟩)]]] [Sm w.heap.size F w [[g2],[g13],[g15],[g17],[g20],(Value.slice A22 n23 c24).ownBlock.toList],St w [[g2],[g13],[g15],[g17],[g20],(Value.slice A22 n23 c24).ownBlock.toList]])) ?_ hs
     clear hs s
     intro s o1 h hO1
     obtain ⟨x363,x364,x369⟩:=s
     show ∀ (A365:Option Addr) (n366:Nat) (c367:Nat) (h368:Ow z26 A365 n366 c367 x364),G (Nc w F g2 g13 g15 g17 g20 Tb3 Tb14 Tb16 Tb18 Tb21 A22 n23 c24 z26 A4 n5 c6 A8 n9 c10 r) [.code Xed,.inLoop Xed,.inBlock 0,.code Xjy,.code Xf9] [(2,.pointer (some ⟨g15,0,none⟩)),(3,.pointer (some ⟨g17,0,none⟩)),(4,.pointer (some ⟨gb30,0,none⟩)),(39,.int .i64 ((ix x1.nodes x12).kids)),(40,.int .i64 x363)] [.own (.slice A365 n366 c367) 84 4 n366 (x364.flatMap D9),.box g20 Tb21 [.slice A365 n366 c367],.box gb30 45 [.string ((ix x1.nodes x12).name),.bool ((ix x1.nodes x12).lit),.string ((ix x1.nodes x12).field),.string ((ix x1.nodes x12).capture),.int .i64 ((ix x1.nodes x12).kids)],.box g2 Tb3 [.slice A4 n5 c6,.slice A8 n9 c10],.box g13 Tb14 [.int .i64 x369],.box g15 Tb16 [.func (.func 56) #[] #[.pointer (some ⟨g20,0,none⟩)]],.box g17 Tb18 [.func (.func 57) #[] #[.pointer (some ⟨g2,0,none⟩),.pointer (some ⟨g13,0,none⟩),.pointer (some ⟨g15,0,none⟩),.pointer (some ⟨g17,0,none⟩)]]] [Sm w.heap.size F w [[g2],[g13],[g15],[g17],[g20],(Value.slice A22 n23 c24).ownBlock.toList],St w [[g2],[g13],[g15],[g17],[g20],(Value.slice A22 n23 c24).ownBlock.toList]]
     intro A365 n366 c367 h368
     have h:Lh x1 x12 rc_query_Print_2 x363 x364 x369 o1:=h
     unfold Lh at h
     refine Ah rfl<|Ac rfl rfl<|Aa 0 rfl (Be rfl rfl rfl) gn rfl<|Aj 1 rfl<|Ah rfl ?_
     by_cases hp399:x363 < (ix x1.nodes x12).kids
     ·have h:=Ap hp399 h
      refine Bz rfl _ rfl ((decide_eq_true hp399))<|Cb rfl<|Ah rfl<|Df rfl<|Ac rfl rfl<|Aa 0 rfl (Au 6 ld_1 rfl rfl rfl) gn rfl ?_
      obtain ⟨r403,hv404,h⟩:=h
      refine Cf 1 rfl (J7 [] [.pointer (some ⟨g2,0,none⟩),.pointer (some ⟨g13,0,none⟩),.pointer (some ⟨g15,0,none⟩),.pointer (some ⟨g17,0,none⟩)] rfl rfl Tryd.func57 rfl rfl rfl fun w400 hL401=>?_) gn
      have hp402:=pmI hL401 (.c 3 rfl (.c 4 rfl (.c 5 rfl (.c 6 rfl (.c 1 rfl (.c 0 rfl .n)))))) (.c 2 rfl .n) (by kernel_rfl)
      refine Calls.mono (ih_query_Print_2 w400 (Fl ([]:List Cc)) x1 x369 x364 g2 Tb3 A4 n5 c6 A8 n9 c10 g13 Tb14 g15 Tb16 g17 Tb18 g20 Tb21 z26 A365 n366 c367 (Rw.mono h7 (hL401.toSt hp402 (me 1 rfl))) (Rw.mono h11 (hL401.toSt hp402 (me 1 rfl))) (Nat.le_trans hz27 hL401.env.size) h368 (hL401.hFl hp402 (Bi [] rfl)) (hL401.into hp402 _) r403 hv404) ?_
      rintro _ w410 ⟨A405,n406,c407,rfl,hM411,h408⟩
      have hL412:=hL401.call hp402 hM411
      refine ⟨_,_,_,rfl,hL412,?_⟩
      refine Aj 2 rfl<|D7<|Ac rfl rfl<|Aa 0 rfl (Be rfl rfl rfl) gn rfl<|Aa 1 rfl (Ad rfl) gn rfl<|Aj 2 rfl<|Dp<|Ba 3 rfl<|Ba 3 rfl<|Ba 3 rfl<|Ba 3 rfl<|Ba 6 rfl ?_
      refine Ba 5 rfl<|Ba 6 rfl ?_
      have ih:=Out.inl hO1 h
      exact Dc [0,1] (ih A405 n406 c407 h408) ⟨rfl,rfl,rfl,rfl,rfl,trivial⟩ (.cons_cons _ (.cons_cons _ (.cons_cons _ (.cons_cons _ (.cons_cons _ (.cons_cons _ (.cons_cons _ (.slnil)))))))) rfl
     ·have h:=Aq hp399 h
      refine Bg rfl _ rfl ((decide_eq_false hp399))<|Gp [.code Xjy,.code Xf9] rfl rfl<|Ac rfl rfl<|Aa 0 rfl (Au 5 Xk rfl rfl rfl) gn rfl ?_
      obtain ⟨r416,hv417,h⟩:=h
      refine Cf 1 rfl (J7 [.int .i64 5,.string (⟨#[41]⟩:ByteArray)] [.pointer (some ⟨g20,0,none⟩)] rfl rfl Tryd.func56 rfl rfl rfl fun w413 hL414=>?_) gn
      have hp415:=pmI hL414 (.c 1 rfl (.c 0 rfl .n)) (.c 2 rfl (.c 3 rfl (.c 4 rfl (.c 5 rfl (.c 6 rfl .n))))) (by kernel_rfl)
      refine Calls.mono (Dw w413 (Fl ([]:List Cc)) 5 (⟨#[41]⟩:ByteArray) x364 g20 Tb21 z26 A365 n366 c367 (Nat.le_trans hz27 hL414.env.size) h368 (hL414.hFl hp415 (Bi [] rfl)) (hL414.into hp415 _) r416 hv417) ?_
      rintro _ w423 ⟨A418,n419,c420,rfl,hM424,h421⟩
      have hL425:=hL414.call hp415 hM424
      refine ⟨_,_,_,rfl,hL425,?_⟩
      refine Aj 2 rfl ?_
      obtain ⟨q426,hq427,h⟩:=h
      have hq427:=Out.inr hO1 hq427
      rw [← hq427] at h
      refine Ba 6 rfl<|Ba 6 rfl<|Ba 6 rfl<|Ba 6 rfl<|Ba 6 rfl<|Ba 5 rfl<|Ba 6 rfl ?_
      exact Dc [0,1] (j2 r416 x369 h A418 n419 c420 h421) ⟨rfl,rfl,trivial⟩ (.cons_cons _ (.cons_cons _ (.cons_cons _ (.cons_cons _ (.cons_cons _ (.cons_cons _ (.cons_cons _ (.slnil)))))))) rfl
    exact Dc [0,1] (key4 _ h A329 n330 c331 h332) ⟨rfl,rfl,rfl,rfl,rfl,trivial⟩ (.cons_cons _ (.cons_cons _ (.cons_cons _ (.cons_cons _ (.cons_cons _ (.cons_cons _ (.cons_cons _ (.slnil)))))))) rfl
   by_cases hp300:(ix x1.nodes x12).name=(⟨#[]⟩:ByteArray)
   ·have h:=Ap hp300 h
    refine Bz rfl _ rfl ((Qw hp300))<|Ac rfl rfl<|Aa 0 rfl (Au 5 Xk rfl rfl rfl) gn rfl ?_
    obtain ⟨r431,hv432,h⟩:=h
    refine Cf 1 rfl (J7 [.int .i64 1,.string (⟨#[95]⟩:ByteArray)] [.pointer (some ⟨g20,0,none⟩)] rfl rfl Tryd.func56 rfl rfl rfl fun w428 hL429=>?_) gn
    have hp430:=pmI hL429 (.c 0 rfl (.c 1 rfl .n)) (.c 2 rfl (.c 3 rfl (.c 4 rfl (.c 5 rfl (.c 6 rfl .n))))) (by kernel_rfl)
    refine Calls.mono (Dw w428 (Fl ([]:List Cc)) 1 (⟨#[95]⟩:ByteArray) r290 g20 Tb21 z26 A292 n293 c294 (Nat.le_trans hz27 hL429.env.size) h295 (hL429.hFl hp430 (Bi [] rfl)) (hL429.into hp430 _) r431 hv432) ?_
    rintro _ w438 ⟨A433,n434,c435,rfl,hM439,h436⟩
    have hL440:=hL429.call hp430 hM439
    refine ⟨_,_,_,rfl,hL440,?_⟩
    refine Aj 2 rfl<|Ba 6 rfl<|Ba 6 rfl<|Ba 6 rfl<|Ba 6 rfl<|Ba 6 rfl<|Ba 5 rfl<|Ba 6 rfl ?_
    exact Dc [0,1] (j3 r431 h A433 n434 c435 h436) ⟨rfl,rfl,rfl,trivial⟩ (.cons_cons _ (.cons_cons _ (.cons_cons _ (.cons_cons _ (.cons_cons _ (.cons_cons _ (.cons_cons _ (.slnil)))))))) rfl
   ·have h:=Aq hp300 h
    refine Bg rfl _ rfl ((Rq hp300))<|Ac rfl rfl<|Aa 0 rfl (Au 5 Xk rfl rfl rfl) gn rfl<|Aa 1 rfl (Aw Vt rfl) gn rfl<|Aa 2 rfl (Au 2 Ib rfl rfl rfl) gn rfl ?_
    obtain ⟨r444,hv445,h⟩:=h
    refine Cf 3 rfl (J7 [.int .i64 1,.string ((ix x1.nodes x12).name)] [.pointer (some ⟨g20,0,none⟩)] rfl rfl Tryd.func56 rfl rfl rfl fun w441 hL442=>?_) gn
    have hp443:=pmI hL442 (.c 0 rfl (.c 1 rfl .n)) (.c 2 rfl (.c 3 rfl (.c 4 rfl (.c 5 rfl (.c 6 rfl .n))))) (by kernel_rfl)
    refine Calls.mono (Dw w441 (Fl ([]:List Cc)) 1 ((ix x1.nodes x12).name) r290 g20 Tb21 z26 A292 n293 c294 (Nat.le_trans hz27 hL442.env.size) h295 (hL442.hFl hp443 (Bi [] rfl)) (hL442.into hp443 _) r444 hv445) ?_
    rintro _ w451 ⟨A446,n447,c448,rfl,hM452,h449⟩
    have hL453:=hL442.call hp443 hM452
    refine ⟨_,_,_,rfl,hL453,?_⟩
    refine Aj 4 rfl<|Ba 6 rfl<|Ba 6 rfl<|Ba 6 rfl<|Ba 6 rfl<|Ba 6 rfl<|Ba 5 rfl<|Ba 6 rfl ?_
    exact Dc [0,1] (j3 r444 h A446 n447 c448 h449) ⟨rfl,rfl,rfl,trivial⟩ (.cons_cons _ (.cons_cons _ (.cons_cons _ (.cons_cons _ (.cons_cons _ (.cons_cons _ (.cons_cons _ (.slnil)))))))) rfl
 by_cases hp32:(ix x1.nodes x12).field=(⟨#[]⟩:ByteArray)
 ·have h:=Ap hp32 h
  refine Bg rfl _ rfl ((nf (Qw hp32)))<|Cb rfl<|Ba 5 rfl<|Ba 5 rfl<|Ba 5 rfl<|Ba 5 rfl<|Ba 5 rfl<|Ba 5 rfl<|Ba 6 rfl ?_
  exact Dc [0,1] (j1 x19 h A22 n23 c24 h25) ⟨rfl,rfl,rfl,trivial⟩ (.cons_cons _ (.cons_cons _ (.cons_cons _ (.cons_cons _ (.cons_cons _ (.cons_cons _ (.cons_cons _ (.slnil)))))))) rfl
 ·have h:=Aq hp32 h
  refine Bz rfl _ rfl ((nt (Rq hp32)))<|Ah rfl<|Ac rfl rfl<|Aa 0 rfl (Au 3 Xk rfl rfl rfl) gn rfl<|Aa 1 rfl (Aw Vb rfl) gn rfl<|Aa 2 rfl (Au 0 Ib rfl rfl rfl) gn rfl ?_
  obtain ⟨r457,hv458,h⟩:=h
  refine Cf 3 rfl (J7 [.int .i64 1,.string ((ix x1.nodes x12).field)] [.pointer (some ⟨g20,0,none⟩)] rfl rfl Tryd.func56 rfl rfl rfl fun w454 hL455=>?_) gn
  have hp456:=pmI hL455 (.c 5 rfl (.c 6 rfl .n)) (.c 0 rfl (.c 1 rfl (.c 2 rfl (.c 3 rfl (.c 4 rfl .n))))) (by kernel_rfl)
  refine Calls.mono (Dw w454 (Fl ([]:List Cc)) 1 ((ix x1.nodes x12).field) x19 g20 Tb21 z26 A22 n23 c24 (Nat.le_trans hz27 hL455.env.size) h25 (hL455.hFl hp456 (Bi [] rfl)) (hL455.into hp456 _) r457 hv458) ?_
  rintro _ w464 ⟨A459,n460,c461,rfl,hM465,h462⟩
  have hL466:=hL455.call hp456 hM465
  refine ⟨_,_,_,rfl,hL466,?_⟩
  refine Aj 4 rfl<|Ac rfl rfl<|Aa 0 rfl (Au 5 Xk rfl rfl rfl) gn rfl ?_
  obtain ⟨r470,hv471,h⟩:=h
  refine Cf 1 rfl (J7 [.int .i64 5,.string (⟨#[58]⟩:ByteArray)] [.pointer (some ⟨g20,0,none⟩)] rfl rfl Tryd.func56 rfl rfl rfl fun w467 hL468=>?_) gn
  have hp469:=pmI hL468 (.c 0 rfl (.c 1 rfl .n)) (.c 2 rfl (.c 3 rfl (.c 4 rfl (.c 5 rfl (.c 6 rfl .n))))) (by kernel_rfl)
  refine Calls.mono (Dw w467 (Fl ([]:List Cc)) 5 (⟨#[58]⟩:ByteArray) r457 g20 Tb21 z26 A459 n460 c461 (Nat.le_trans hz27 hL468.env.size) h462 (hL468.hFl hp469 (Bi [] rfl)) (hL468.into hp469 _) r470 hv471) ?_
  rintro _ w477 ⟨A472,n473,c474,rfl,hM478,h475⟩
  have hL479:=hL468.call hp469 hM478
  refine ⟨_,_,_,rfl,hL479,?_⟩
  refine Aj 2 rfl<|Ba 0 rfl<|Ba 6 rfl<|Ba 6 rfl<|Ba 6 rfl<|Ba 6 rfl<|Ba 6 rfl<|Ba 6 rfl ?_
  exact Dc [0,1] (j1 r470 h A472 n473 c474 h475) ⟨rfl,rfl,rfl,trivial⟩ (.cons_cons _ (.cons_cons _ (.cons_cons _ (.cons_cons _ (.cons_cons _ (.cons_cons _ (.cons_cons _ (.slnil)))))))) rfl
theorem Zd:∀ n,Wq (Jf n)
 | 0=>fun w F x1 x12 x19 g2 Tb3 A4 n5 c6 A8 n9 c10 g13 Tb14 g15 Tb16 g17 Tb18 g20 Tb21 z26 A22 n23 c24 h7 h11 hz27 h25 hF hL0 r h=>h.elim
 | n + 1=>by
  have ih:=Zd n
  exact Xct _ ih
theorem Xc8 (w:World) (F:Nat→Prop) (x1:Ar) (x12:Int) (x19:List Ak) (g2:Nat) (Tb3:Nat) (A4:Option Addr) (n5:Nat) (c6:Nat) (A8:Option Addr) (n9:Nat) (c10:Nat) (g13:Nat) (Tb14:Nat) (g15:Nat) (Tb16:Nat) (g17:Nat) (Tb18:Nat) (g20:Nat) (Tb21:Nat) (z26:Nat) (A22:Option Addr) (n23:Nat) (c24:Nat) (h7:Rw Dl w (St w [[g2],[g13],[g15],[g17],[g20],(Value.slice A22 n23 c24).ownBlock.toList]).av A4 n5 c6 x1.nodes) (h11:Rw Gg w (St w [[g2],[g13],[g15],[g17],[g20],(Value.slice A22 n23 c24).ownBlock.toList]).av A8 n9 c10 x1.conds) (hz27:z26≤w.heap.size) (h25:Ow z26 A22 n23 c24 x19) (hF:∀ b,F b→b < w.heap.size∧∀ o ∈ ([[g2],[g13],[g15],[g17],[g20],(Value.slice A22 n23 c24).ownBlock.toList]:List (List Nat)),b ∉ o) (hL0:B.Loc w w [.box g2 Tb3 [.slice A4 n5 c6,.slice A8 n9 c10],.box g13 Tb14 [.int .i64 x12],.box g15 Tb16 [.func (.func 56) #[] #[.pointer (some ⟨g20,0,none⟩)]],.box g17 Tb18 [.func (.func 57) #[] #[.pointer (some ⟨g2,0,none⟩),.pointer (some ⟨g13,0,none⟩),.pointer (some ⟨g15,0,none⟩),.pointer (some ⟨g17,0,none⟩)]],.box g20 Tb21 [.slice A22 n23 c24],.own (.slice A22 n23 c24) 84 4 n23 (x19.flatMap D9)] [Sm w.heap.size F w [[g2],[g13],[g15],[g17],[g20],(Value.slice A22 n23 c24).ownBlock.toList],St w [[g2],[g13],[g15],[g17],[g20],(Value.slice A22 n23 c24).ownBlock.toList]]) (r:Ar × Int × (List Ak)) (h:Xcm x1 x12 x19 r):Calls Tryd.prog 57 #[.pointer (some ⟨g2,0,none⟩),.pointer (some ⟨g13,0,none⟩),.pointer (some ⟨g15,0,none⟩),.pointer (some ⟨g17,0,none⟩)] w (Qs w F g2 g13 g15 g17 g20 Tb3 Tb14 Tb16 Tb18 Tb21 A22 n23 c24 z26 A4 n5 c6 A8 n9 c10 r):=by
 obtain ⟨n,h⟩:=h
 exact (Zd n) w F x1 x12 x19 g2 Tb3 A4 n5 c6 A8 n9 c10 g13 Tb14 g15 Tb16 g17 Tb18 g20 Tb21 z26 A22 n23 c24 h7 h11 hz27 h25 hF hL0 r h
abbrev Xh2 (w:World) (F:Nat→Prop) (r:ByteArray):Ending→World→Prop:=fun e w'=>e=.returned (.string r)∧B.Loc w w' [] [St w []]
theorem Xd9 (w:World) (F:Nat→Prop) (x1:List ByteArray) (x6:ByteArray) (A2:Option Addr) (n3:Nat) (c4:Nat) (h5:Rw kStr w (St w []).av A2 n3 c4 x1) (hF:∀ b,F b→b < w.heap.size∧∀ o ∈ ([]:List (List Nat)),b ∉ o) (hL0:B.Loc w w [] [Sm w.heap.size F w [],St w []]) (r:ByteArray) (h:strings_Join x1 x6 r):Calls Tryd.prog 80 #[.slice A2 n3 c4,.string x6] w (Xh2 w F  r):=by
 unfold strings_Join at h
 obtain ⟨h1,h2,rfl⟩:=h
 refine Calls.mono (Xlg Tryd.strings_Join_none Tryd.strings_Join (fun b hb=>hb.1) h5 h1 h2) ?_
 rintro e w' ⟨rfl,hb⟩
 exact ⟨rfl,Loc.of_below hb⟩
noncomputable abbrev q58c6:=Code.snd (Code.snd (Code.snd (Dv Tryd.f58)))
noncomputable abbrev Xes:=Code.fst (Code.fst (Code.snd (Code.fst (Code.snd (Code.snd (Dv Tryd.f58))))))
abbrev Y8 (w:World) (F:Nat→Prop) (r:ByteArray):Ending→World→Prop:=fun e w'=>e=.returned (.string r)∧B.Loc w w' [] [St w []]
noncomputable abbrev Ya (w:World) (F:Nat→Prop) (r:ByteArray):Cx:=⟨Tryd.prog,58,Tryd.f58,23,Y8 w F  r,w⟩
theorem Xew (w:World) (F:Nat→Prop) (x1:List Ak) (A2:Option Addr) (n3:Nat) (c4:Nat) (h5:Rw D5 w (St w []).av A2 n3 c4 x1) (hG:Tb Tryd.prog (St w [])) (hF:∀ b,F b→b < w.heap.size∧∀ o ∈ ([]:List (List Nat)),b ∉ o) (hL0:B.Loc w w [] [Sm w.heap.size F w [],St w []]) (r:ByteArray) (h:Ux x1 r):Calls Tryd.prog 58 #[.slice A2 n3 c4] w (Y8 w F  r):=by
 unfold Ux at h
 refine Ce (vs:=[.slice A2 n3 c4]) 23 Tryd.func58 rfl Tryd.ntmps58 rfl hL0 ?_
 show G (Ya w F r) _ _ _ _
 refine Ah rfl<|Ac rfl rfl<|Aa 0 rfl (Af rfl) gn rfl<|Aj 1 rfl<|Ah rfl<|Ac rfl rfl<|Aa 0 rfl (Af rfl) gn rfl<|Aj 1 rfl<|Ah rfl<|Ah rfl<|Ac rfl rfl<|Aa 0 rfl (Ad rfl) gn rfl ?_
 refine Aa 1 rfl (Dj Zh rfl h5.hq) gn rfl<|Aa 2 rfl (Ad rfl) gn rfl<|Aj 3 rfl<|Df rfl<|Io rfl ?_
 have key1:∀ s,Bl (fun (s:(List ByteArray) × Int) o=>Jn x1 s.1 s.2 o) s r→(fun (s:(List ByteArray) × Int)=>∀ (A48:Option Addr) (n49:Nat) (c50:Nat) (h51:Ow w.heap.size A48 n49 c50 s.1),G (Ya w F r) [.code Xes,.inLoop Xes,.inBlock 0,.code q58c6] [(3,.slice A48 n49 c50),(6,.slice A2 n3 c4),(7,.int .i64 (x1.length:Int)),(8,.int .i64 s.2)] [.own (.slice A48 n49 c50) 9 1 n49 (s.1.flatMap eS)] [Sm w.heap.size F w [],St w []]) s:=by
  intro s hs
  refine Bl.ind (mot:=(fun (s:(List ByteArray) × Int)=>∀ (A48:Option Addr) (n49:Nat) (c50:Nat) (h51:Ow w.heap.size A48 n49 c50 s.1),G (Ya w F r) [.code Xes,.inLoop Xes,.inBlock 0,.code q58c6] [(3,.slice A48 n49 c50),(6,.slice A2 n3 c4),(7,.int .i64 (x1.length:Int)),(8,.int .i64 s.2)] [.own (.slice A48 n49 c50) 9 1 n49 (s.1.flatMap eS)] [Sm w.heap.size F w [],St w []])) ?_ hs
  clear hs s
  intro s o1 h hO1
  obtain ⟨x47,x52⟩:=s
  show ∀ (A48:Option Addr) (n49:Nat) (c50:Nat) (h51:Ow w.heap.size A48 n49 c50 x47),G (Ya w F r) [.code Xes,.inLoop Xes,.inBlock 0,.code q58c6] [(3,.slice A48 n49 c50),(6,.slice A2 n3 c4),(7,.int .i64 (x1.length:Int)),(8,.int .i64 x52)] [.own (.slice A48 n49 c50) 9 1 n49 (x47.flatMap eS)] [Sm w.heap.size F w [],St w []]
  intro A48 n49 c50 h51
  have h:Jn x1 x47 x52 o1:=h
  unfold Jn at h
  refine Ah rfl<|Ac rfl rfl<|Aa 0 rfl (Be rfl rfl rfl) gn rfl<|Aj 1 rfl<|Ah rfl ?_
  by_cases hp92:x52 < (x1.length:Int)
  ·have h:=Ap hp92 h
   refine Bz rfl _ rfl ((decide_eq_true hp92))<|Cb rfl<|Ah rfl<|Df rfl<|Ah rfl<|Ac rfl rfl ?_
   obtain ⟨hb93,h⟩:=h
   have hr94:=Rw.readF (s:=St w []) (hl:=Ei) (h1:=Eh) h5 hb93
   refine Aa 0 rfl (F5 (s:=St w []) Qj rfl rfl h5 hb93) gn rfl<|Aa 1 rfl (Z9 (St w []) ld_84 rfl hr94 rfl (me 1 rfl)) gn rfl ?_
   refine Cf 2 rfl (Gz [.int .i64 0,.string (⟨#[]⟩:ByteArray),.int .i64 0,.int .i64 0] zr_84 rfl fun gb95=>?_) gn
   refine Cf 3 rfl (Fp (vs:=[.int .i64 ((ix x1 x52).kind),.string ((ix x1 x52).text),.int .i64 ((ix x1 x52).n),.int .i64 ((ix x1 x52).at_)]) (cs':=[.int .i64 ((ix x1 x52).kind),.string ((ix x1 x52).text),.int .i64 ((ix x1 x52).n),.int .i64 ((ix x1 x52).at_)]) (M':=[.box gb95 84 [.int .i64 ((ix x1 x52).kind),.string ((ix x1 x52).text),.int .i64 ((ix x1 x52).n),.int .i64 ((ix x1 x52).at_)],.own (.slice A48 n49 c50) 9 1 n49 (x47.flatMap eS)]) 0 sz_84 rfl rfl rfl rfl rfl rfl rfl rfl rfl ?_) gn
   refine Aj 4 rfl<|Ah rfl<|Ah rfl<|Ac rfl rfl<|Aa 0 rfl (Nj [.int .i64 ((ix x1 x52).kind),.string ((ix x1 x52).text),.int .i64 ((ix x1 x52).n),.int .i64 ((ix x1 x52).at_)] 0 ld_84 rfl rfl rfl rfl) gn rfl ?_
   obtain ⟨r100,hv101,h⟩:=h
   refine Cf 1 rfl (D8 [.agg #[.int .i64 ((ix x1 x52).kind),.string ((ix x1 x52).text),.int .i64 ((ix x1 x52).n),.int .i64 ((ix x1 x52).at_)]] rfl Tryd.func78 rfl rfl rfl fun w97 hL98=>?_) gn
   have hp99:=pmI hL98 .n (.c 0 rfl (.c 1 rfl .n)) (by kernel_rfl)
   refine Calls.mono (Zb w97 (Fl ([]:List Cc)) (ix x1 x52) (hL98.hFl hp99 (Bi [] rfl)) (hL98.into hp99 _) r100 hv101) ?_
   rintro _ w102 ⟨rfl,hM103⟩
   have hL104:=hL98.call hp99 hM103
   refine ⟨_,_,_,rfl,hL104,?_⟩
   refine Aa 2 rfl (Qv rfl) gn rfl<|Aj 3 rfl ?_
   by_cases hp105:r100=true
   ·have h:=Ap hp105 h
    refine Bg rfl _ rfl ((nf hp105))<|Cb rfl<|Ac rfl rfl<|Aa 0 rfl (Ad rfl) gn rfl<|Aa 1 rfl (Nj [.int .i64 ((ix x1 x52).kind),.string ((ix x1 x52).text),.int .i64 ((ix x1 x52).n),.int .i64 ((ix x1 x52).at_)] 0 ld_84 rfl rfl rfl rfl) gn rfl ?_
    obtain ⟨r109,hv110,h⟩:=h
    refine Cf 2 rfl (D8 [.agg #[.int .i64 ((ix x1 x52).kind),.string ((ix x1 x52).text),.int .i64 ((ix x1 x52).n),.int .i64 ((ix x1 x52).at_)]] rfl Tryd.func79 rfl rfl rfl fun w106 hL107=>?_) gn
    have hp108:=pmI hL107 .n (.c 0 rfl (.c 1 rfl .n)) (by kernel_rfl)
    refine Calls.mono (Zj w106 (Fl ([]:List Cc)) (ix x1 x52) (hL107.tb hp108 hG (me 1 rfl)) (hL107.hFl hp108 (Bi [] rfl)) (hL107.into hp108 _) r109 hv110) ?_
    rintro _ w111 ⟨rfl,hM112⟩
    have hL113:=hL107.call hp108 hM112
    refine ⟨_,_,_,rfl,hL113,?_⟩
    refine Cf 3 rfl (Gw (xs:=([r109]:List ByteArray)) [.string r109] bs_106_1 rfl (by kernel_rfl) rfl rfl rfl rfl fun gb115 h116=>?_) gn
    obtain ⟨x120,hv121,h⟩:=h
    obtain ⟨hb122,h⟩:=h
    refine Cf 4 rfl (L8 (zs:=x120) (cells':=x120.flatMap eS) 2 ap_106 rfl rfl rfl h51 (Nat.le_refl _) (Src.ownF (hl:=hlS) (h1:=Xk8) 0 rfl h116) (by rw [hv121,List.flatMap_append] <;> rfl) (Ff hv121 h116.hq) hb122 rfl rfl fun A117 c118 h119=>?_) gn
    refine Aa 5 rfl (Af rfl) gn rfl<|Aj 6 rfl<|D7<|Ac rfl rfl<|Aa 0 rfl (Be rfl rfl rfl) gn rfl<|Aa 1 rfl (Ad rfl) gn rfl<|Aj 2 rfl<|Dp ?_
    have ih:=Out.inl hO1 h
    exact Dc [0,1] (ih A117 (n49 + 1) c118 h119) ⟨rfl,rfl,rfl,rfl,trivial⟩ (.cons _ (.cons _ (.cons_cons _ (.slnil)))) rfl
   ·have h:=Aq hp105 h
    refine Bz rfl _ rfl ((nt (bf hp105)))<|Ah rfl<|Ac rfl rfl<|Aa 0 rfl (Af rfl) gn rfl<|Aj 1 rfl ?_
    have h:=Out.inr hO1 h
    refine C9 [.string (⟨#[]⟩:ByteArray)] rfl Tryd.func58 rfl (.tmp rfl (.nil)) fun wr hLr=>?_
    have hMr:=hLr.pk0 (.c 1 rfl .n)
    show Y8 w F  r (.returned (Ci [.string (⟨#[]⟩:ByteArray)])) wr
    rw [h]
    exact ⟨rfl,hMr⟩
  ·have h:=Aq hp92 h
   refine Bg rfl _ rfl ((decide_eq_false hp92))<|Gp [.code q58c6] rfl rfl<|Ah rfl<|Ac rfl rfl<|Aa 0 rfl (Ad rfl) gn rfl ?_
   obtain ⟨r126,hv127,h⟩:=h
   refine Cf 1 rfl (D8 [.slice A48 n49 c50,.string (⟨#[32]⟩:ByteArray)] rfl Tryd.func80 rfl rfl rfl fun w123 hL124=>?_) gn
   have hp125:=pmI hL124 .n (.c 0 rfl .n) (by kernel_rfl)
   refine Calls.mono (Xd9 w123 (Fl ([]:List Cc)) x47 (⟨#[32]⟩:ByteArray) A48 n49 c50 (hL124.argO (dk:=kStr) hp125 [] rfl 0 rfl rfl h51 (me 0 rfl) (Cells.flat _)) (hL124.hFl hp125 (Bi [] rfl)) (hL124.into hp125 _) r126 hv127) ?_
   rintro _ w128 ⟨rfl,hM129⟩
   have hL130:=hL124.call hp125 hM129
   refine ⟨_,_,_,rfl,hL130,?_⟩
   refine Aa 2 rfl (Af rfl) gn rfl<|Aj 3 rfl ?_
   have h:=Out.inr hO1 h
   refine C9 [.string r126] rfl Tryd.func58 rfl (.tmp rfl (.nil)) fun wr hLr=>?_
   have hMr:=hLr.pk0 (.c 1 rfl .n)
   show Y8 w F  r (.returned (Ci [.string r126])) wr
   rw [h]
   exact ⟨rfl,hMr⟩
 refine Nr 9 1 ?_
 exact Dc [0,1] (key1 _ h none 0 0 (Ow.nil (z:=w.heap.size))) ⟨rfl,rfl,rfl,rfl,trivial⟩ (.cons_cons _ (.slnil)) rfl
noncomputable abbrev Xf5:=Code.snd (Code.snd (Code.snd (Code.snd (Code.snd (Code.snd (Code.snd (Code.snd (Code.snd (Dv Tryd.f25)))))))))
noncomputable abbrev Zq:=Code.fst (Code.fst (Code.snd (Code.fst (Code.snd (Code.snd (Code.snd (Code.snd (Code.snd (Code.snd (Code.snd (Code.snd (Dv Tryd.f25))))))))))))
noncomputable abbrev q25c34:=Code.snd (Code.snd (Code.snd Zq))
noncomputable abbrev q25c39:=Code.snd (Code.snd (Code.fst (Code.fst (Code.snd (Code.snd Zq)))))
abbrev Xc (w:World) (F:Nat→Prop) (r:ByteArray × Int):Ending→World→Prop:=fun e w'=>e=.returned (.tuple #[.string r.1,.int .i64 r.2])∧B.Loc w w' [] [St w []]
noncomputable abbrev Ud (w:World) (F:Nat→Prop) (r:ByteArray × Int):Cx:=⟨Tryd.prog,25,Tryd.f25,54,Xc w F  r,w⟩
theorem Xe9 (w:World) (F:Nat→Prop) (x1:Ar) (A2:Option Addr) (n3:Nat) (c4:Nat) (A6:Option Addr) (n7:Nat) (c8:Nat) (h5:Rw Dl w (St w []).av A2 n3 c4 x1.nodes) (h9:Rw Gg w (St w []).av A6 n7 c8 x1.conds) (hG:Tb Tryd.prog (St w [])) (hF:∀ b,F b→b < w.heap.size∧∀ o ∈ ([]:List (List Nat)),b ∉ o) (hL0:B.Loc w w [] [Sm w.heap.size F w [],St w []]) (r:ByteArray × Int) (h:Ze x1 r):Calls Tryd.prog 25 #[.agg #[.slice A2 n3 c4,.slice A6 n7 c8]] w (Xc w F  r):=by
 unfold Ze at h
 refine Ce (vs:=[.agg #[.slice A2 n3 c4,.slice A6 n7 c8]]) 54 Tryd.func25 rfl Tryd.ntmps25 rfl hL0 ?_
 show G (Ud w F r) _ _ _ _
 refine Ah rfl<|Ac rfl rfl ?_
 refine Cf 0 rfl (V5 [.slice A2 n3 c4,.slice A6 n7 c8] rfl rfl rfl fun gb10=>?_) gn
 refine Aa 1 rfl (Af rfl) gn rfl<|Aa 2 rfl (Af rfl) gn rfl<|Aj 3 rfl<|Ah rfl<|Ah rfl<|Ac rfl rfl<|Aa 0 rfl (Nj [.slice A2 n3 c4,.slice A6 n7 c8] 0 U4 rfl rfl rfl rfl) gn rfl ?_
 obtain ⟨r15,hv16,h⟩:=h
 refine Cf 1 rfl (D8 [.agg #[.slice A2 n3 c4,.slice A6 n7 c8]] rfl Tryd.func24 rfl rfl rfl fun w12 hL13=>?_) gn
 have hp14:=pmI hL13 .n (.c 0 rfl .n) (by kernel_rfl)
 refine Calls.mono (Uw w12 (Fl ([]:List Cc)) x1 A2 n3 c4 A6 n7 c8 (Rw.mono h5 (hL13.toSt hp14 (me 1 rfl))) (Rw.mono h9 (hL13.toSt hp14 (me 1 rfl))) (hL13.tb hp14 hG (me 1 rfl)) (hL13.hFl hp14 (Bi [] rfl)) (hL13.into hp14 _) r15 hv16) ?_
 rintro _ w17 ⟨rfl,hM18⟩
 have hL19:=hL13.call hp14 hM18
 refine ⟨_,_,_,rfl,hL19,?_⟩
 refine Aa 2 rfl (Qv rfl) gn rfl<|Aj 3 rfl ?_
 by_cases hp20:r15=true
 ·have h:=Ap hp20 h
  refine Bg rfl _ rfl ((nf hp20))<|Cb rfl<|Ah rfl<|Ac rfl rfl ?_
  refine Cf 0 rfl (Gz [.slice none 0 0] zr_75 rfl fun gb21=>?_) gn
  refine Aj 1 rfl<|Ah rfl<|Ac rfl rfl<|Aa 0 rfl (X0 [.pointer (some ⟨gb21,0,none⟩)] rfl) gn rfl ?_
  refine Cf 1 rfl (Gz [.nilFunc] zr_85 rfl fun gb23=>?_) gn
  refine Cf 2 rfl (Fp (vs:=[.func (.func 56) #[] #[.pointer (some ⟨gb21,0,none⟩)]]) (cs':=[.func (.func 56) #[] #[.pointer (some ⟨gb21,0,none⟩)]]) (M':=[.box gb23 85 [.func (.func 56) #[] #[.pointer (some ⟨gb21,0,none⟩)]],.box gb21 75 [.slice none 0 0],.box gb10 25 [.slice A2 n3 c4,.slice A6 n7 c8]]) 0 sz_85 rfl rfl rfl rfl rfl rfl rfl rfl rfl ?_) gn
  refine Aj 3 rfl<|Ah rfl<|Ac rfl rfl ?_
  refine Cf 0 rfl (Gz [.int .i64 0] zr_3 rfl fun gb25=>?_) gn
  refine Cf 1 rfl (Fp (vs:=[.int .i64 0]) (cs':=[.int .i64 0]) (M':=[.box gb25 3 [.int .i64 0],.box gb23 85 [.func (.func 56) #[] #[.pointer (some ⟨gb21,0,none⟩)]],.box gb21 75 [.slice none 0 0],.box gb10 25 [.slice A2 n3 c4,.slice A6 n7 c8]]) 0 Xar rfl rfl rfl rfl rfl rfl rfl rfl rfl ?_) gn
  refine Aj 2 rfl<|Ah rfl<|Ac rfl rfl ?_
  refine Cf 0 rfl (Gz [.nilFunc] zr_1 rfl fun gb27=>?_) gn
  refine Aj 1 rfl<|Ah rfl<|Ac rfl rfl<|Aa 0 rfl (X0 [.pointer (some ⟨gb10,0,none⟩),.pointer (some ⟨gb25,0,none⟩),.pointer (some ⟨gb23,0,none⟩),.pointer (some ⟨gb27,0,none⟩)] rfl) gn rfl ?_
  refine Cf 1 rfl (Fp (vs:=[.func (.func 57) #[] #[.pointer (some ⟨gb10,0,none⟩),.pointer (some ⟨gb25,0,none⟩),.pointer (some ⟨gb23,0,none⟩),.pointer (some ⟨gb27,0,none⟩)]]) (cs':=[.func (.func 57) #[] #[.pointer (some ⟨gb10,0,none⟩),.pointer (some ⟨gb25,0,none⟩),.pointer (some ⟨gb23,0,none⟩),.pointer (some ⟨gb27,0,none⟩)]]) (M':=[.box gb27 1 [.func (.func 57) #[] #[.pointer (some ⟨gb10,0,none⟩),.pointer (some ⟨gb25,0,none⟩),.pointer (some ⟨gb23,0,none⟩),.pointer (some ⟨gb27,0,none⟩)]],.box gb25 3 [.int .i64 0],.box gb23 85 [.func (.func 56) #[] #[.pointer (some ⟨gb21,0,none⟩)]],.box gb21 75 [.slice none 0 0],.box gb10 25 [.slice A2 n3 c4,.slice A6 n7 c8]]) 0 sz_1 rfl rfl rfl rfl rfl rfl rfl rfl rfl ?_) gn
  refine Aj 2 rfl<|Ah rfl<|Ac rfl rfl<|Aa 0 rfl (Au 0 ld_1 rfl rfl rfl) gn rfl ?_
  obtain ⟨r33,hv34,h⟩:=h
  refine w_nil 84 4 ?_
  refine Cf 1 rfl (J7 [] [.pointer (some ⟨gb10,0,none⟩),.pointer (some ⟨gb25,0,none⟩),.pointer (some ⟨gb23,0,none⟩),.pointer (some ⟨gb27,0,none⟩)] rfl rfl Tryd.func57 rfl rfl rfl fun w29 hL30=>?_) gn
  have hp31:=pmI hL30 (.c 5 rfl (.c 2 rfl (.c 3 rfl (.c 1 rfl (.c 4 rfl (.c 0 rfl .n)))))) .n (by kernel_rfl)
  refine Calls.mono (Xc8 w29 (Fl ([]:List Cc)) x1 0 ([]:List Ak) gb10 25 A2 n3 c4 A6 n7 c8 gb25 3 gb23 85 gb27 1 gb21 75 w.heap.size none 0 0 (Rw.mono h5 (hL30.toSt hp31 (me 1 rfl))) (Rw.mono h9 (hL30.toSt hp31 (me 1 rfl))) hL30.env.size (Ow.nil (z:=w.heap.size)) (hL30.hFl hp31 (Bi [] rfl)) (hL30.into hp31 _) r33 hv34) ?_
  rintro _ w40 ⟨A35,n36,c37,rfl,hM41,h38⟩
  have hL42:=hL30.call hp31 hM41
  refine ⟨_,_,_,rfl,hL42,?_⟩
  refine Aj 2 rfl<|Ah rfl<|Ah rfl<|Ac rfl rfl<|Aa 0 rfl (Aw U0 rfl) gn rfl<|Aa 1 rfl (Au 0 Xck rfl rfl rfl) gn rfl<|Aa 2 rfl (Dj Xhd rfl h9.hq) gn rfl<|Aa 3 rfl (Ad rfl) gn rfl<|Aj 4 rfl<|Df rfl<|Io rfl ?_
  have key1:∀ s,Bl (fun (s:Int × (List Ak)) o=>Lt x1 s.1 s.2 o) s r→(fun (s:Int × (List Ak))=>∀ (A197:Option Addr) (n198:Nat) (c199:Nat) (h200:Ow w.heap.size A197 n198 c199 s.2),G (Ud w F r) [.code Zq,.inLoop Zq,.inBlock 0,.code Xf5] [(4,.pointer (some ⟨gb21,0,none⟩)),(5,.pointer (some ⟨gb23,0,none⟩)),(18,.slice A6 n7 c8),(19,.int .i64 (x1.conds.length:Int)),(20,.int .i64 s.1)] [.own (.slice A197 n198 c199) 84 4 n198 (s.2.flatMap D9),.box gb23 85 [.func (.func 56) #[] #[.pointer (some ⟨gb21,0,none⟩)]],.box gb21 75 [.slice A197 n198 c199]] [Sm w.heap.size F w [],St w []]) s:=by
   intro s hs
   refine Bl.ind (mot:=(fun (s:Int × (List Ak))=>∀ (A197:Option Addr) (n198:Nat) (c199:Nat) (h200:Ow w.heap.size A197 n198 c199 s.2),G (Ud w F r) [.code Zq,.inLoop Zq,.inBlock 0,.code Xf5] [(4,.pointer (some ⟨gb21,0,none⟩)),(5,.pointer (some ⟨gb23,0,none⟩)),(18,.slice A6 n7 c8),(19,.int .i64 (x1.conds.length:Int)),(20,.int .i64 s.1)] [.own (.slice A197 n198 c199) 84 4 n198 (s.2.flatMap D9),.box gb23 85 [.func (.func 56) #[] #[.pointer (some ⟨gb21,0,none⟩)]],.box gb21 75 [.slice A197 n198 c199]] [Sm w.heap.size F w [],St w []])) ?_ hs
   clear hs s
   intro s o1 h hO1
   obtain ⟨x195,x196⟩:=s
   show ∀ (A197:Option Addr) (n198:Nat) (c199:Nat) (h200:Ow w.heap.size A197 n198 c199 x196),G (Ud w F r) [.code Zq,.inLoop Zq,.inBlock 0,.code Xf5] [(4,.pointer (some ⟨gb21,0,none⟩)),(5,.pointer (some ⟨gb23,0,none⟩)),(18,.slice A6 n7 c8),(19,.int .i64 (x1.conds.length:Int)),(20,.int .i64 x195)] [.own (.slice A197 n198 c199) 84 4 n198 (x196.flatMap D9),.box gb23 85 [.func (.func 56) #[] #[.pointer (some ⟨gb21,0,none⟩)]],.box gb21 75 [.slice A197 n198 c199]] [Sm w.heap.size F w [],St w []]
   intro A197 n198 c199 h200
   have h:Lt x1 x195 x196 o1:=h
   unfold Lt at h
   refine Ah rfl<|Ac rfl rfl<|Aa 0 rfl (Be rfl rfl rfl) gn rfl<|Aj 1 rfl<|Ah rfl ?_
   by_cases hp352:x195 < (x1.conds.length:Int)
   ·have h:=Ap hp352 h
    refine Bz rfl _ rfl ((decide_eq_true hp352))<|Cb rfl<|Ah rfl<|Df rfl<|Ah rfl<|Ac rfl rfl ?_
    obtain ⟨hb353,h⟩:=h
    have hr354:=Rw.readF (s:=St w []) (hl:=Tc) (h1:=Ti) h9 hb353
    refine Aa 0 rfl (F5 (s:=St w []) Xlz rfl rfl h9 hb353) gn rfl<|Aa 1 rfl (Z9 (St w []) Xif rfl hr354 rfl (me 1 rfl)) gn rfl ?_
    refine Cf 2 rfl (Gz [.bool false,.string (⟨#[]⟩:ByteArray),.string (⟨#[]⟩:ByteArray),.string (⟨#[]⟩:ByteArray)] zr_47 rfl fun gb355=>?_) gn
    refine Cf 3 rfl (Fp (vs:=[.bool ((ix x1.conds x195).not),.string ((ix x1.conds x195).a),.string ((ix x1.conds x195).b),.string ((ix x1.conds x195).text)]) (cs':=[.bool ((ix x1.conds x195).not),.string ((ix x1.conds x195).a),.string ((ix x1.conds x195).b),.string ((ix x1.conds x195).text)]) (M':=[.box gb355 47 [.bool ((ix x1.conds x195).not),.string ((ix x1.conds x195).a),.string ((ix x1.conds x195).b),.string ((ix x1.conds x195).text)],.own (.slice A197 n198 c199) 84 4 n198 (x196.flatMap D9),.box gb23 85 [.func (.func 56) #[] #[.pointer (some ⟨gb21,0,none⟩)]],.box gb21 75 [.slice A197 n198 c199]]) 0 sz_47 rfl rfl rfl rfl rfl rfl rfl rfl rfl ?_) gn
    refine Aj 4 rfl<|Ah rfl<|Ah rfl<|Ac rfl rfl<|Aa 0 rfl (Aw Xfz rfl) gn rfl<|Aa 1 rfl (Au 0 Xcy rfl rfl rfl) gn rfl<|Aj 2 rfl ?_
    have j2:∀ (x385:List Ak) (h:Pz x1 x195 x385 o1) (A386:Option Addr) (n387:Nat) (c388:Nat) (h389:Ow w.heap.size A386 n387 c388 x385),G (Ud w F r) [.code q25c39,.inBlock 1,.code q25c34,.inLoop Zq,.inBlock 0,.code Xf5] [(4,.pointer (some ⟨gb21,0,none⟩)),(5,.pointer (some ⟨gb23,0,none⟩)),(9,.pointer (some ⟨gb355,0,none⟩)),(18,.slice A6 n7 c8),(19,.int .i64 (x1.conds.length:Int)),(20,.int .i64 x195)] [.own (.slice A386 n387 c388) 84 4 n387 (x385.flatMap D9),.box gb21 75 [.slice A386 n387 c388],.box gb355 47 [.bool ((ix x1.conds x195).not),.string ((ix x1.conds x195).a),.string ((ix x1.conds x195).b),.string ((ix x1.conds x195).text)],.box gb23 85 [.func (.func 56) #[] #[.pointer (some ⟨gb21,0,none⟩)]]] [Sm w.heap.size F w [],St w []]:=by
     intro x385 h A386 n387 c388 h389
     unfold Pz at h
     refine Ah rfl<|Ac rfl rfl<|Aa 0 rfl (Au 3 Xk rfl rfl rfl) gn rfl ?_
     obtain ⟨r393,hv394,h⟩:=h
     refine Cf 1 rfl (J7 [.int .i64 5,.string (⟨#[64]⟩:ByteArray)] [.pointer (some ⟨gb21,0,none⟩)] rfl rfl Tryd.func56 rfl rfl rfl fun w390 hL391=>?_) gn
     have hp392:=pmI hL391 (.c 1 rfl (.c 0 rfl .n)) (.c 2 rfl (.c 3 rfl .n)) (by kernel_rfl)
     refine Calls.mono (Dw w390 (Fl ([]:List Cc)) 5 (⟨#[64]⟩:ByteArray) x385 gb21 75 w.heap.size A386 n387 c388 hL391.env.size h389 (hL391.hFl hp392 (Bi [] rfl)) (hL391.into hp392 _) r393 hv394) ?_
     rintro _ w400 ⟨A395,n396,c397,rfl,hM401,h398⟩
     have hL402:=hL391.call hp392 hM401
     refine ⟨_,_,_,rfl,hL402,?_⟩
     refine Aj 2 rfl<|Ah rfl<|Ac rfl rfl<|Aa 0 rfl (Au 3 Xk rfl rfl rfl) gn rfl<|Aa 1 rfl (Aw Xdg rfl) gn rfl<|Aa 2 rfl (Au 2 Ib rfl rfl rfl) gn rfl ?_
     obtain ⟨r406,hv407,h⟩:=h
     refine Cf 3 rfl (J7 [.int .i64 1,.string ((ix x1.conds x195).a)] [.pointer (some ⟨gb21,0,none⟩)] rfl rfl Tryd.func56 rfl rfl rfl fun w403 hL404=>?_) gn
     have hp405:=pmI hL404 (.c 0 rfl (.c 1 rfl .n)) (.c 2 rfl (.c 3 rfl .n)) (by kernel_rfl)
     refine Calls.mono (Dw w403 (Fl ([]:List Cc)) 1 ((ix x1.conds x195).a) r393 gb21 75 w.heap.size A395 n396 c397 hL404.env.size h398 (hL404.hFl hp405 (Bi [] rfl)) (hL404.into hp405 _) r406 hv407) ?_
     rintro _ w413 ⟨A408,n409,c410,rfl,hM414,h411⟩
     have hL415:=hL404.call hp405 hM414
     refine ⟨_,_,_,rfl,hL415,?_⟩
     refine Aj 4 rfl<|Ah rfl<|Ac rfl rfl<|Aa 0 rfl (Au 3 Xk rfl rfl rfl) gn rfl ?_
     obtain ⟨r419,hv420,h⟩:=h
     refine Cf 1 rfl (J7 [.int .i64 5,.string (⟨#[61]⟩:ByteArray)] [.pointer (some ⟨gb21,0,none⟩)] rfl rfl Tryd.func56 rfl rfl rfl fun w416 hL417=>?_) gn
     have hp418:=pmI hL417 (.c 0 rfl (.c 1 rfl .n)) (.c 2 rfl (.c 3 rfl .n)) (by kernel_rfl)
     refine Calls.mono (Dw w416 (Fl ([]:List Cc)) 5 (⟨#[61]⟩:ByteArray) r406 gb21 75 w.heap.size A408 n409 c410 hL417.env.size h411 (hL417.hFl hp418 (Bi [] rfl)) (hL417.into hp418 _) r419 hv420) ?_
     rintro _ w426 ⟨A421,n422,c423,rfl,hM427,h424⟩
     have hL428:=hL417.call hp418 hM427
     refine ⟨_,_,_,rfl,hL428,?_⟩
     refine Aj 2 rfl<|Ah rfl<|Ah rfl<|Ac rfl rfl<|Aa 0 rfl (Aw Xak rfl) gn rfl<|Aa 1 rfl (Au 2 Ib rfl rfl rfl) gn rfl<|Aa 2 rfl (Zc rfl rfl) gn rfl<|Aj 3 rfl ?_
     by_cases hp429:(ix x1.conds x195).b=(⟨#[]⟩:ByteArray)
     ·have h:=Ap hp429 h
      refine Bz rfl _ rfl ((Qw hp429))<|Ah rfl<|Ac rfl rfl<|Aa 0 rfl (Au 3 Xk rfl rfl rfl) gn rfl<|Aa 1 rfl (Aw Xg4 rfl) gn rfl<|Aa 2 rfl (Au 2 Ib rfl rfl rfl) gn rfl ?_
      obtain ⟨r433,hv434,h⟩:=h
      refine Cf 3 rfl (J7 [.int .i64 2,.string ((ix x1.conds x195).text)] [.pointer (some ⟨gb21,0,none⟩)] rfl rfl Tryd.func56 rfl rfl rfl fun w430 hL431=>?_) gn
      have hp432:=pmI hL431 (.c 0 rfl (.c 1 rfl .n)) (.c 2 rfl (.c 3 rfl .n)) (by kernel_rfl)
      refine Calls.mono (Dw w430 (Fl ([]:List Cc)) 2 ((ix x1.conds x195).text) r419 gb21 75 w.heap.size A421 n422 c423 hL431.env.size h424 (hL431.hFl hp432 (Bi [] rfl)) (hL431.into hp432 _) r433 hv434) ?_
      rintro _ w440 ⟨A435,n436,c437,rfl,hM441,h438⟩
      have hL442:=hL431.call hp432 hM441
      refine ⟨_,_,_,rfl,hL442,?_⟩
      refine Aj 4 rfl<|Gp [.code q25c34,.inLoop Zq,.inBlock 0,.code Xf5] rfl rfl<|Ac rfl rfl<|Aa 0 rfl (Be rfl rfl rfl) gn rfl<|Aa 1 rfl (Ad rfl) gn rfl<|Aj 2 rfl<|Dp<|Ba 0 rfl<|Ba 3 rfl<|Ba 2 rfl ?_
      have ih:=Out.inl hO1 h
      exact Dc [0,1] (ih A435 n436 c437 h438) ⟨rfl,rfl,rfl,rfl,rfl,trivial⟩ (.cons_cons _ (.cons_cons _ (.cons_cons _ (.cons _ (.slnil))))) rfl
     ·have h:=Aq hp429 h
      refine Bg rfl _ rfl ((Rq hp429))<|Cb rfl<|Ah rfl<|Ac rfl rfl<|Aa 0 rfl (Au 3 Xk rfl rfl rfl) gn rfl ?_
      obtain ⟨r446,hv447,h⟩:=h
      refine Cf 1 rfl (J7 [.int .i64 5,.string (⟨#[64]⟩:ByteArray)] [.pointer (some ⟨gb21,0,none⟩)] rfl rfl Tryd.func56 rfl rfl rfl fun w443 hL444=>?_) gn
      have hp445:=pmI hL444 (.c 0 rfl (.c 1 rfl .n)) (.c 2 rfl (.c 3 rfl .n)) (by kernel_rfl)
      refine Calls.mono (Dw w443 (Fl ([]:List Cc)) 5 (⟨#[64]⟩:ByteArray) r419 gb21 75 w.heap.size A421 n422 c423 hL444.env.size h424 (hL444.hFl hp445 (Bi [] rfl)) (hL444.into hp445 _) r446 hv447) ?_
      rintro _ w453 ⟨A448,n449,c450,rfl,hM454,h451⟩
      have hL455:=hL444.call hp445 hM454
      refine ⟨_,_,_,rfl,hL455,?_⟩
      refine Aj 2 rfl<|Ac rfl rfl<|Aa 0 rfl (Au 3 Xk rfl rfl rfl) gn rfl<|Aa 1 rfl (Aw Xak rfl) gn rfl<|Aa 2 rfl (Au 2 Ib rfl rfl rfl) gn rfl ?_
      obtain ⟨r459,hv460,h⟩:=h
      refine Cf 3 rfl (J7 [.int .i64 1,.string ((ix x1.conds x195).b)] [.pointer (some ⟨gb21,0,none⟩)] rfl rfl Tryd.func56 rfl rfl rfl fun w456 hL457=>?_) gn
      have hp458:=pmI hL457 (.c 0 rfl (.c 1 rfl .n)) (.c 2 rfl (.c 3 rfl .n)) (by kernel_rfl)
      refine Calls.mono (Dw w456 (Fl ([]:List Cc)) 1 ((ix x1.conds x195).b) r446 gb21 75 w.heap.size A448 n449 c450 hL457.env.size h451 (hL457.hFl hp458 (Bi [] rfl)) (hL457.into hp458 _) r459 hv460) ?_
      rintro _ w466 ⟨A461,n462,c463,rfl,hM467,h464⟩
      have hL468:=hL457.call hp458 hM467
      refine ⟨_,_,_,rfl,hL468,?_⟩
      refine Aj 4 rfl<|D7<|Ac rfl rfl<|Aa 0 rfl (Be rfl rfl rfl) gn rfl<|Aa 1 rfl (Ad rfl) gn rfl<|Aj 2 rfl<|Dp<|Ba 0 rfl<|Ba 3 rfl<|Ba 2 rfl ?_
      have ih:=Out.inl hO1 h
      exact Dc [0,1] (ih A461 n462 c463 h464) ⟨rfl,rfl,rfl,rfl,rfl,trivial⟩ (.cons_cons _ (.cons_cons _ (.cons_cons _ (.cons _ (.slnil))))) rfl
    by_cases hp357:((ix x1.conds x195).not)=true
    ·have h:=Ap hp357 h
     refine Bz rfl _ rfl (hp357)<|Ac rfl rfl<|Aa 0 rfl (Au 2 Xk rfl rfl rfl) gn rfl ?_
     obtain ⟨r472,hv473,h⟩:=h
     refine Cf 1 rfl (J7 [.int .i64 1,.string (⟨#[117,110,108,101,115,115]⟩:ByteArray)] [.pointer (some ⟨gb21,0,none⟩)] rfl rfl Tryd.func56 rfl rfl rfl fun w469 hL470=>?_) gn
     have hp471:=pmI hL470 (.c 3 rfl (.c 1 rfl .n)) (.c 0 rfl (.c 2 rfl .n)) (by kernel_rfl)
     refine Calls.mono (Dw w469 (Fl ([]:List Cc)) 1 (⟨#[117,110,108,101,115,115]⟩:ByteArray) x196 gb21 75 w.heap.size A197 n198 c199 hL470.env.size h200 (hL470.hFl hp471 (Bi [] rfl)) (hL470.into hp471 _) r472 hv473) ?_
     rintro _ w479 ⟨A474,n475,c476,rfl,hM480,h477⟩
     have hL481:=hL470.call hp471 hM480
     refine ⟨_,_,_,rfl,hL481,?_⟩
     refine Aj 2 rfl<|Ba 3 rfl<|Ba 3 rfl<|Ba 2 rfl<|Ba 3 rfl ?_
     exact Dc [0,1] (j2 r472 h A474 n475 c476 h477) ⟨rfl,rfl,rfl,rfl,rfl,rfl,trivial⟩ (.cons_cons _ (.cons_cons _ (.cons_cons _ (.cons_cons _ (.slnil))))) rfl
    ·have h:=Aq hp357 h
     refine Bg rfl _ rfl ((bf hp357))<|Ac rfl rfl<|Aa 0 rfl (Au 2 Xk rfl rfl rfl) gn rfl ?_
     obtain ⟨r485,hv486,h⟩:=h
     refine Cf 1 rfl (J7 [.int .i64 1,.string (⟨#[119,104,101,110]⟩:ByteArray)] [.pointer (some ⟨gb21,0,none⟩)] rfl rfl Tryd.func56 rfl rfl rfl fun w482 hL483=>?_) gn
     have hp484:=pmI hL483 (.c 3 rfl (.c 1 rfl .n)) (.c 0 rfl (.c 2 rfl .n)) (by kernel_rfl)
     refine Calls.mono (Dw w482 (Fl ([]:List Cc)) 1 (⟨#[119,104,101,110]⟩:ByteArray) x196 gb21 75 w.heap.size A197 n198 c199 hL483.env.size h200 (hL483.hFl hp484 (Bi [] rfl)) (hL483.into hp484 _) r485 hv486) ?_
     rintro _ w492 ⟨A487,n488,c489,rfl,hM493,h490⟩
     have hL494:=hL483.call hp484 hM493
     refine ⟨_,_,_,rfl,hL494,?_⟩
     refine Aj 2 rfl<|Ba 3 rfl<|Ba 3 rfl<|Ba 2 rfl<|Ba 3 rfl ?_
     exact Dc [0,1] (j2 r485 h A487 n488 c489 h490) ⟨rfl,rfl,rfl,rfl,rfl,rfl,trivial⟩ (.cons_cons _ (.cons_cons _ (.cons_cons _ (.cons_cons _ (.slnil))))) rfl
   ·have h:=Aq hp352 h
    refine Bg rfl _ rfl ((decide_eq_false hp352))<|Gp [.code Xf5] rfl rfl<|Ah rfl<|Ac rfl rfl<|Aa 0 rfl (Au 2 Np rfl rfl rfl) gn rfl ?_
    obtain ⟨r498,hv499,h⟩:=h
    refine Cf 1 rfl (D8 [.slice A197 n198 c199] rfl Tryd.func58 rfl rfl rfl fun w495 hL496=>?_) gn
    have hp497:=pmI hL496 .n (.c 0 rfl (.c 1 rfl (.c 2 rfl .n))) (by kernel_rfl)
    refine Calls.mono (Xew w495 (Fl ([]:List Cc)) x196 A197 n198 c199 (hL496.argO (dk:=D5) hp497 [] rfl 0 rfl rfl h200 (me 0 rfl) (Cells.flat _)) (hL496.tb hp497 hG (me 1 rfl)) (hL496.hFl hp497 (Bi [] rfl)) (hL496.into hp497 _) r498 hv499) ?_
    rintro _ w500 ⟨rfl,hM501⟩
    have hL502:=hL496.call hp497 hM501
    refine ⟨_,_,_,rfl,hL502,?_⟩
    refine Aa 2 rfl (Af rfl) gn rfl<|Aa 3 rfl (Af rfl) gn rfl<|Aj 4 rfl ?_
    have h:=Out.inr hO1 h
    refine C9 [.string r498,.int .i64 0] rfl Tryd.func25 rfl (.tmp rfl (.tmp rfl (.nil))) fun wr hLr=>?_
    have hMr:=hLr.pk0 (.c 1 rfl .n)
    show Xc w F  r (.returned (Ci [.string r498,.int .i64 0])) wr
    rw [h]
    exact ⟨rfl,hMr⟩
  refine Ba 4 rfl<|Ba 3 rfl<|Ba 5 rfl ?_
  exact Dc [0,1] (key1 _ h A35 n36 c37 h38) ⟨rfl,rfl,rfl,rfl,rfl,trivial⟩ (.cons_cons _ (.cons_cons _ (.cons_cons _ (.cons _ (.cons _ (.cons _ (.slnil))))))) rfl
 ·have h:=Aq hp20 h
  refine Bz rfl _ rfl ((nt (bf hp20)))<|Ah rfl<|Ac rfl rfl<|Aa 0 rfl (Af rfl) gn rfl<|Aa 1 rfl (Af rfl) gn rfl<|Aj 2 rfl ?_
  refine C9 [.string (⟨#[]⟩:ByteArray),.int .i64 200] rfl Tryd.func25 rfl (.tmp rfl (.tmp rfl (.nil))) fun wr hLr=>?_
  have hMr:=hLr.pk0 (.c 1 rfl .n)
  show Xc w F  r (.returned (Ci [.string (⟨#[]⟩:ByteArray),.int .i64 200])) wr
  rw [h]
  exact ⟨rfl,hMr⟩
abbrev Qy (w:World) (F:Nat→Prop) (r:Bool):Ending→World→Prop:=fun e w'=>e=.returned (.bool r)∧B.Loc w w' [] [St w []]
noncomputable abbrev Xhr (w:World) (F:Nat→Prop) (r:Bool):Cx:=⟨Tryd.prog,81,Tryd.f81,17,Qy w F  r,w⟩
theorem Xdx (w:World) (F:Nat→Prop) (x1:Int) (hF:∀ b,F b→b < w.heap.size∧∀ o ∈ ([]:List (List Nat)),b ∉ o) (hL0:B.Loc w w [] [Sm w.heap.size F w [],St w []]) (r:Bool) (h:V7 x1 r):Calls Tryd.prog 81 #[.int .u8 x1] w (Qy w F  r):=by
 unfold V7 at h
 refine Ce (vs:=[.int .u8 x1]) 17 Tryd.func81 rfl Tryd.ntmps81 rfl hL0 ?_
 show G (Xhr w F r) _ _ _ _
 refine Ah rfl<|Ac rfl rfl<|Aa 0 rfl (Af rfl) gn rfl<|Aj 1 rfl<|Ah rfl<|Ac rfl rfl<|Aa 0 rfl (Ad rfl) gn rfl<|Aa 1 rfl (Be rfl rfl rfl) gn rfl<|Aa 2 rfl (Ad rfl) gn rfl ?_
 by_cases hp2:x1=32
 ·have h:=Ap hp2 h
  refine Bv 5 rfl ((eqi hp2))<|Ae 3 rfl (ps 5 rfl rfl rfl)<|Ae 4 rfl (ps 5 rfl rfl rfl)<|Aa 5 rfl (Bd (b:=true) rfl rfl) gn rfl<|Aa 6 rfl (Ad rfl) gn rfl<|Ae 7 rfl (ps 9 rfl rfl rfl)<|Ae 8 rfl (ps 9 rfl rfl rfl)<|Aa 9 rfl (Bd (b:=true) rfl rfl) gn rfl<|Aa 10 rfl (Ad rfl) gn rfl<|Ae 11 rfl (ps 13 rfl rfl rfl)<|Ae 12 rfl (ps 13 rfl rfl rfl)<|Aa 13 rfl (Bd (b:=true) rfl rfl) gn rfl ?_
  refine Aa 14 rfl (Af rfl) gn rfl<|Aj 15 rfl ?_
  refine C9 [.bool true] rfl Tryd.func81 rfl (.tmp rfl (.nil)) fun wr hLr=>?_
  have hMr:=hLr.pk0 (.c 1 rfl .n)
  show Qy w F  r (.returned (Ci [.bool true])) wr
  rw [h]
  exact ⟨rfl,hMr⟩
 ·have h:=Aq hp2 h
  refine Bv 5 rfl ((nei hp2))<|Aa 3 rfl (Ad rfl) (gy 5 rfl rfl) rfl<|Aa 4 rfl (Be rfl rfl rfl) (gy 5 rfl rfl) rfl<|Aa 5 rfl (Bd (b:=false) rfl rfl) gn rfl<|Aa 6 rfl (Ad rfl) gn rfl ?_
  by_cases hp3:x1=9
  ·have h:=Ap hp3 h
   refine Bv 9 rfl ((eqi hp3))<|Ae 7 rfl (ps 9 rfl rfl rfl)<|Ae 8 rfl (ps 9 rfl rfl rfl)<|Aa 9 rfl (Bd (b:=true) rfl rfl) gn rfl<|Aa 10 rfl (Ad rfl) gn rfl<|Ae 11 rfl (ps 13 rfl rfl rfl)<|Ae 12 rfl (ps 13 rfl rfl rfl)<|Aa 13 rfl (Bd (b:=true) rfl rfl) gn rfl<|Aa 14 rfl (Af rfl) gn rfl<|Aj 15 rfl ?_
   refine C9 [.bool true] rfl Tryd.func81 rfl (.tmp rfl (.nil)) fun wr hLr=>?_
   have hMr:=hLr.pk0 (.c 1 rfl .n)
   show Qy w F  r (.returned (Ci [.bool true])) wr
   rw [h]
   exact ⟨rfl,hMr⟩
  ·have h:=Aq hp3 h
   refine Bv 9 rfl ((nei hp3))<|Aa 7 rfl (Ad rfl) (gy 9 rfl rfl) rfl<|Aa 8 rfl (Be rfl rfl rfl) (gy 9 rfl rfl) rfl<|Aa 9 rfl (Bd (b:=false) rfl rfl) gn rfl<|Aa 10 rfl (Ad rfl) gn rfl ?_
   by_cases hp4:x1=13
   ·have h:=Ap hp4 h
    refine Bv 13 rfl ((eqi hp4))<|Ae 11 rfl (ps 13 rfl rfl rfl)<|Ae 12 rfl (ps 13 rfl rfl rfl)<|Aa 13 rfl (Bd (b:=true) rfl rfl) gn rfl<|Aa 14 rfl (Af rfl) gn rfl<|Aj 15 rfl ?_
    refine C9 [.bool true] rfl Tryd.func81 rfl (.tmp rfl (.nil)) fun wr hLr=>?_
    have hMr:=hLr.pk0 (.c 1 rfl .n)
    show Qy w F  r (.returned (Ci [.bool true])) wr
    rw [h]
    exact ⟨rfl,hMr⟩
   ·have h:=Aq hp4 h
    refine Bv 13 rfl ((nei hp4))<|Aa 11 rfl (Ad rfl) (gy 13 rfl rfl) rfl<|Aa 12 rfl (Be rfl rfl rfl) (gy 13 rfl rfl) rfl<|Aa 13 rfl (Bd (b:=false) rfl rfl) gn rfl<|Aa 14 rfl (Af rfl) gn rfl<|Aj 15 rfl ?_
    refine C9 [.bool (x1 == 10)] rfl Tryd.func81 rfl (.tmp rfl (.nil)) fun wr hLr=>?_
    have hMr:=hLr.pk0 (.c 1 rfl .n)
    show Qy w F  r (.returned (Ci [.bool (x1 == 10)])) wr
    rw [h]
    exact ⟨rfl,hMr⟩
abbrev Jz (w:World) (F:Nat→Prop) (r:Int):Ending→World→Prop:=fun e w'=>e=.returned (.int .i64 r)∧B.Loc w w' [] [St w []]
noncomputable abbrev Vs (w:World) (F:Nat→Prop) (r:Int):Cx:=⟨Tryd.prog,105,Tryd.f105,8,Jz w F  r,w⟩
theorem U5 (w:World) (F:Nat→Prop) (x1:ByteArray) (x2:Int) (hF:∀ b,F b→b < w.heap.size∧∀ o ∈ ([]:List (List Nat)),b ∉ o) (hL0:B.Loc w w [] [Sm w.heap.size F w [],St w []]) (r:Int) (h:Iq x1 x2 r):Calls Tryd.prog 105 #[.string x1,.int .u8 x2] w (Jz w F  r):=by
 unfold Iq at h
 refine Ce (vs:=[.string x1,.int .u8 x2]) 8 Tryd.func105 rfl Tryd.ntmps105 rfl hL0 ?_
 show G (Vs w F r) _ _ _ _
 refine Ah rfl<|Ac rfl rfl<|Aa 0 rfl (Af rfl) gn rfl<|Aj 1 rfl<|Ah rfl<|Ac rfl rfl<|Aa 0 rfl (Ad rfl) gn rfl<|Aa 1 rfl (Ad rfl) gn rfl<|Aa 2 rfl (v_ext [.string x1,.int .u8 x2] rfl Tryd.func111 rfl rfl (by kernel_rfl) (by kernel_rfl) (fun w=>Xjn _ _ w)) gn rfl<|Aa 3 rfl (Af rfl) gn rfl<|Aj 4 rfl ?_
 refine C9 [.int .i64 (Xft x1 x2)] rfl Tryd.func105 rfl (.tmp rfl (.nil)) fun wr hLr=>?_
 have hMr:=hLr.pk0 (.c 1 rfl .n)
 show Jz w F  r (.returned (Ci [.int .i64 (Xft x1 x2)])) wr
 rw [h]
 exact ⟨rfl,hMr⟩
abbrev U8 (w:World) (F:Nat→Prop) (r:Int):Ending→World→Prop:=fun e w'=>e=.returned (.int .i64 r)∧B.Loc w w' [] [St w []]
noncomputable abbrev Xcf (w:World) (F:Nat→Prop) (r:Int):Cx:=⟨Tryd.prog,84,Tryd.f84,8,U8 w F  r,w⟩
theorem Xa8 (w:World) (F:Nat→Prop) (x1:ByteArray) (x2:Int) (hF:∀ b,F b→b < w.heap.size∧∀ o ∈ ([]:List (List Nat)),b ∉ o) (hL0:B.Loc w w [] [Sm w.heap.size F w [],St w []]) (r:Int) (h:N8 x1 x2 r):Calls Tryd.prog 84 #[.string x1,.int .u8 x2] w (U8 w F  r):=by
 unfold N8 at h
 refine Ce (vs:=[.string x1,.int .u8 x2]) 8 Tryd.func84 rfl Tryd.ntmps84 rfl hL0 ?_
 show G (Xcf w F r) _ _ _ _
 refine Ah rfl<|Ac rfl rfl<|Aa 0 rfl (Af rfl) gn rfl<|Aj 1 rfl<|Ah rfl<|Ac rfl rfl<|Aa 0 rfl (Ad rfl) gn rfl<|Aa 1 rfl (Ad rfl) gn rfl ?_
 obtain ⟨r6,hv7,h⟩:=h
 refine Cf 2 rfl (D8 [.string x1,.int .u8 x2] rfl Tryd.func105 rfl rfl rfl fun w3 hL4=>?_) gn
 have hp5:=pmI hL4 .n .n (by kernel_rfl)
 refine Calls.mono (U5 w3 (Fl ([]:List Cc)) x1 x2 (hL4.hFl hp5 (Bi [] rfl)) (hL4.into hp5 _) r6 hv7) ?_
 rintro _ w8 ⟨rfl,hM9⟩
 have hL10:=hL4.call hp5 hM9
 refine ⟨_,_,_,rfl,hL10,?_⟩
 refine Aa 3 rfl (Af rfl) gn rfl<|Aj 4 rfl ?_
 refine C9 [.int .i64 r6] rfl Tryd.func84 rfl (.tmp rfl (.nil)) fun wr hLr=>?_
 have hMr:=hLr.pk0 (.c 1 rfl .n)
 show U8 w F  r (.returned (Ci [.int .i64 r6])) wr
 rw [h]
 exact ⟨rfl,hMr⟩
noncomputable abbrev q112c4:=Code.snd (Code.snd (Dv Tryd.f112))
noncomputable abbrev Xn4:=Code.snd (Code.snd (Code.snd (Code.fst (Code.fst (Code.snd (Dv Tryd.f112))))))
noncomputable abbrev q112c19:=Code.snd (Code.snd Xn4)
abbrev Va (w:World) (F:Nat→Prop) (r:Int × Bool):Ending→World→Prop:=fun e w'=>e=.returned (.tuple #[.int .u8 r.1,.bool r.2])∧B.Loc w w' [] [St w []]
noncomputable abbrev Xba (w:World) (F:Nat→Prop) (r:Int × Bool):Cx:=⟨Tryd.prog,112,Tryd.f112,29,Va w F  r,w⟩
theorem Xaw (w:World) (F:Nat→Prop) (x1:Int) (hF:∀ b,F b→b < w.heap.size∧∀ o ∈ ([]:List (List Nat)),b ∉ o) (hL0:B.Loc w w [] [Sm w.heap.size F w [],St w []]) (r:Int × Bool) (h:V6 x1 r):Calls Tryd.prog 112 #[.int .u8 x1] w (Va w F  r):=by
 unfold V6 at h
 refine Ce (vs:=[.int .u8 x1]) 29 Tryd.func112 rfl Tryd.ntmps112 rfl hL0 ?_
 show G (Xba w F r) _ _ _ _
 refine Ah rfl<|Ac rfl rfl<|Aa 0 rfl (Af rfl) gn rfl<|Aa 1 rfl (Af rfl) gn rfl<|Aj 2 rfl<|Ah rfl<|Df rfl<|Ah rfl<|Ac rfl rfl<|Aa 0 rfl (Ad rfl) gn rfl ?_
 obtain ⟨r5,hv6,h⟩:=h
 refine Cf 1 rfl (D8 [.int .u8 x1] rfl Tryd.func83 rfl rfl rfl fun w2 hL3=>?_) gn
 have hp4:=pmI hL3 .n .n (by kernel_rfl)
 refine Calls.mono (N9 w2 (Fl ([]:List Cc)) x1 (hL3.hFl hp4 (Bi [] rfl)) (hL3.into hp4 _) r5 hv6) ?_
 rintro _ w7 ⟨rfl,hM8⟩
 have hL9:=hL3.call hp4 hM8
 refine ⟨_,_,_,rfl,hL9,?_⟩
 refine Aa 2 rfl (Af rfl) gn rfl<|Aj 3 rfl ?_
 by_cases hp10:r5=true
 ·have h:=Ap hp10 h
  refine Bz rfl _ rfl (hp10)<|Ah rfl<|Ac rfl rfl<|Aa 0 rfl (Ad rfl) gn rfl<|Aa 1 rfl (Be rfl rfl rfl) gn rfl<|Aa 2 rfl (Af rfl) gn rfl<|Aa 3 rfl (Af rfl) gn rfl<|Aj 4 rfl ?_
  refine C9 [.int .u8 (IntKind.u8.wrap (x1 - 48)),.bool true] rfl Tryd.func112 rfl (.tmp rfl (.tmp rfl (.nil))) fun wr hLr=>?_
  have hMr:=hLr.pk0 (.c 1 rfl .n)
  show Va w F  r (.returned (Ci [.int .u8 (IntKind.u8.wrap (x1 - 48)),.bool true])) wr
  rw [h]
  exact ⟨rfl,hMr⟩
 ·have h:=Aq hp10 h
  refine Bg rfl _ rfl ((bf hp10))<|Ah rfl ?_
  have j1:∀ (x13:Bool) (h:Tz x1 x13 r) ,G (Xba w F r) [.code Xn4,.inBlock 0,.code q112c4] [(0,.int .u8 x1),(9,.bool x13)] [] [Sm w.heap.size F w [],St w []]:=by
   intro x13 h
   unfold Tz at h
   by_cases hp14:x13=true
   ·have h:=Ap hp14 h
    refine Bz rfl _ rfl (hp14)<|Ah rfl<|Ac rfl rfl<|Aa 0 rfl (Ad rfl) gn rfl<|Aa 1 rfl (Be rfl rfl rfl) gn rfl<|Aa 2 rfl (Be rfl rfl rfl) gn rfl<|Aa 3 rfl (Af rfl) gn rfl<|Aa 4 rfl (Af rfl) gn rfl<|Aj 5 rfl ?_
    refine C9 [.int .u8 (IntKind.u8.wrap ((IntKind.u8.wrap (x1 - 97)) + 10)),.bool true] rfl Tryd.func112 rfl (.tmp rfl (.tmp rfl (.nil))) fun wr hLr=>?_
    have hMr:=hLr.pk0 (.c 1 rfl .n)
    show Va w F  r (.returned (Ci [.int .u8 (IntKind.u8.wrap ((IntKind.u8.wrap (x1 - 97)) + 10)),.bool true])) wr
    rw [h]
    exact ⟨rfl,hMr⟩
   ·have h:=Aq hp14 h
    refine Bg rfl _ rfl ((bf hp14))<|Ah rfl ?_
    have j2:∀ (x17:Bool) (h:P7 x1 x17 r) ,G (Xba w F r) [.code q112c19,.inBlock 0,.code q112c4] [(0,.int .u8 x1),(19,.bool x17)] [] [Sm w.heap.size F w [],St w []]:=by
     intro x17 h
     unfold P7 at h
     by_cases hp18:x17=true
     ·have h:=Ap hp18 h
      refine Bz rfl _ rfl (hp18)<|Ah rfl<|Ac rfl rfl<|Aa 0 rfl (Ad rfl) gn rfl<|Aa 1 rfl (Be rfl rfl rfl) gn rfl<|Aa 2 rfl (Be rfl rfl rfl) gn rfl<|Aa 3 rfl (Af rfl) gn rfl<|Aa 4 rfl (Af rfl) gn rfl<|Aj 5 rfl ?_
      refine C9 [.int .u8 (IntKind.u8.wrap ((IntKind.u8.wrap (x1 - 65)) + 10)),.bool true] rfl Tryd.func112 rfl (.tmp rfl (.tmp rfl (.nil))) fun wr hLr=>?_
      have hMr:=hLr.pk0 (.c 1 rfl .n)
      show Va w F  r (.returned (Ci [.int .u8 (IntKind.u8.wrap ((IntKind.u8.wrap (x1 - 65)) + 10)),.bool true])) wr
      rw [h]
      exact ⟨rfl,hMr⟩
     ·have h:=Aq hp18 h
      refine Bg rfl _ rfl ((bf hp18))<|Cb rfl<|D7<|Ah rfl<|Ac rfl rfl<|Aa 0 rfl (Af rfl) gn rfl<|Aa 1 rfl (Af rfl) gn rfl<|Aj 2 rfl ?_
      refine C9 [.int .u8 0,.bool false] rfl Tryd.func112 rfl (.tmp rfl (.tmp rfl (.nil))) fun wr hLr=>?_
      have hMr:=hLr.pk0 (.c 1 rfl .n)
      show Va w F  r (.returned (Ci [.int .u8 0,.bool false])) wr
      rw [h]
      exact ⟨rfl,hMr⟩
    refine Ac rfl rfl<|Aa 0 rfl (Ad rfl) gn rfl<|Aa 1 rfl (Be rfl rfl rfl) gn rfl<|Aa 2 rfl (Ad rfl) gn rfl ?_
    by_cases hp19:x1≥65
    ·have h:=Ap hp19 h
     refine Bv 22 rfl ((decide_eq_true hp19))<|Aa 3 rfl (Ad rfl) (gy 22 rfl rfl) rfl<|Aa 4 rfl (Be rfl rfl rfl) (gy 22 rfl rfl) rfl<|Aa 5 rfl (Bd (b:=true) rfl rfl) gn rfl<|Aa 6 rfl (Af rfl) gn rfl<|Aj 7 rfl ?_
     exact Dc [0,1] (j2 (decide (x1≤70)) h) ⟨rfl,rfl,trivial⟩ (.slnil) rfl
    ·have h:=Aq hp19 h
     refine Bv 22 rfl ((decide_eq_false hp19))<|Ae 3 rfl (ps 22 rfl rfl rfl)<|Ae 4 rfl (ps 22 rfl rfl rfl)<|Aa 5 rfl (Bd (b:=false) rfl rfl) gn rfl<|Aa 6 rfl (Af rfl) gn rfl<|Aj 7 rfl ?_
     exact Dc [0,1] (j2 false h) ⟨rfl,rfl,trivial⟩ (.slnil) rfl
  refine Ac rfl rfl<|Aa 0 rfl (Ad rfl) gn rfl<|Aa 1 rfl (Be rfl rfl rfl) gn rfl<|Aa 2 rfl (Ad rfl) gn rfl ?_
  by_cases hp20:x1≥97
  ·have h:=Ap hp20 h
   refine Bv 12 rfl ((decide_eq_true hp20))<|Aa 3 rfl (Ad rfl) (gy 12 rfl rfl) rfl<|Aa 4 rfl (Be rfl rfl rfl) (gy 12 rfl rfl) rfl<|Aa 5 rfl (Bd (b:=true) rfl rfl) gn rfl<|Aa 6 rfl (Af rfl) gn rfl<|Aj 7 rfl ?_
   exact Dc [0,1] (j1 (decide (x1≤102)) h) ⟨rfl,rfl,trivial⟩ (.slnil) rfl
  ·have h:=Aq hp20 h
   refine Bv 12 rfl ((decide_eq_false hp20))<|Ae 3 rfl (ps 12 rfl rfl rfl)<|Ae 4 rfl (ps 12 rfl rfl rfl)<|Aa 5 rfl (Bd (b:=false) rfl rfl) gn rfl<|Aa 6 rfl (Af rfl) gn rfl<|Aj 7 rfl ?_
   exact Dc [0,1] (j1 false h) ⟨rfl,rfl,trivial⟩ (.slnil) rfl
noncomputable abbrev Xmy:=Code.snd (Code.snd (Code.snd (Dv Tryd.f106)))
noncomputable abbrev Xmw:=Code.snd (Code.fst (Code.snd (Code.fst (Code.snd (Code.snd (Dv Tryd.f106))))))
noncomputable abbrev q106c57:=Code.snd (Code.snd (Code.snd (Code.fst (Code.snd (Code.fst (Code.snd (Code.snd (Code.snd (Code.snd (Code.snd (Code.snd (Code.snd (Code.snd Xmw)))))))))))))
abbrev Ik (w:World) (F:Nat→Prop) (r:Int × Int):Ending→World→Prop:=fun e w'=>e=.returned (.tuple #[.int .u8 r.1,.int .i64 r.2])∧B.Loc w w' [] [St w []]
noncomputable abbrev Yn (w:World) (F:Nat→Prop) (r:Int × Int):Cx:=⟨Tryd.prog,106,Tryd.f106,63,Ik w F  r,w⟩
theorem Xd7 (w:World) (F:Nat→Prop) (x1:ByteArray) (x2:Int) (hF:∀ b,F b→b < w.heap.size∧∀ o ∈ ([]:List (List Nat)),b ∉ o) (hL0:B.Loc w w [] [Sm w.heap.size F w [],St w []]) (r:Int × Int) (h:U3 x1 x2 r):Calls Tryd.prog 106 #[.string x1,.int .i64 x2] w (Ik w F  r):=by
 unfold U3 at h
 refine Ce (vs:=[.string x1,.int .i64 x2]) 63 Tryd.func106 rfl Tryd.ntmps106 rfl hL0 ?_
 show G (Yn w F r) _ _ _ _
 refine Ah rfl<|Ac rfl rfl<|Aa 0 rfl (Af rfl) gn rfl<|Aa 1 rfl (Af rfl) gn rfl<|Aj 2 rfl<|Ah rfl<|Ah rfl<|Ac rfl rfl<|Aa 0 rfl (Ad rfl) gn rfl<|Aa 1 rfl (Be rfl rfl rfl) gn rfl<|Aa 2 rfl (Ad rfl) gn rfl<|Aa 3 rfl (Rh Nl rfl) gn rfl ?_
 refine Aa 4 rfl (Be rfl rfl rfl) gn rfl<|Aj 5 rfl ?_
 by_cases hp3:w64 (x2 + 1)≥(x1.size:Int)
 ·have h:=Ap hp3 h
  refine Bz rfl _ rfl ((decide_eq_true hp3))<|Ah rfl<|Ac rfl rfl<|Aa 0 rfl (Af rfl) gn rfl<|Aa 1 rfl (Af rfl) gn rfl<|Aj 2 rfl ?_
  refine C9 [.int .u8 0,.int .i64 0] rfl Tryd.func106 rfl (.tmp rfl (.tmp rfl (.nil))) fun wr hLr=>?_
  have hMr:=hLr.pk0 (.c 1 rfl .n)
  show Ik w F  r (.returned (Ci [.int .u8 0,.int .i64 0])) wr
  rw [h]
  exact ⟨rfl,hMr⟩
 ·have h:=Aq hp3 h
  refine Bg rfl _ rfl ((decide_eq_false hp3))<|Cb rfl<|Ah rfl<|Ah rfl<|Ac rfl rfl<|Aa 0 rfl (Ad rfl) gn rfl<|Aa 1 rfl (Ad rfl) gn rfl<|Aa 2 rfl (Be rfl rfl rfl) gn rfl ?_
  obtain ⟨hb4,h⟩:=h
  refine Aa 3 rfl (Ia Nl rfl rfl hb4) gn rfl<|Aj 4 rfl<|Df rfl<|Ah rfl<|Ah rfl<|Ac rfl rfl<|Aa 0 rfl (Be rfl rfl rfl) gn rfl<|Aa 1 rfl (Af rfl) gn rfl<|Aj 2 rfl ?_
  have j1:∀ (x7:Bool) (h:Nb x1 x2 x7 r) ,G (Yn w F r) [.code Xmw,.inBlock 0,.code Xmy] [(0,.string x1),(1,.int .i64 x2),(18,.int .u8 (bt x1 (w64 (x2 + 1)))),(19,.bool x7)] [] [Sm w.heap.size F w [],St w []]:=by
   intro x7 h
   unfold Nb at h
   by_cases hp8:x7=true
   ·have h:=Ap hp8 h
    refine Bz rfl _ rfl (hp8)<|Ah rfl<|Ac rfl rfl<|Aa 0 rfl (Ad rfl) gn rfl<|Aa 1 rfl (Ad rfl) gn rfl<|Aa 2 rfl (Be rfl rfl rfl) gn rfl<|Aa 3 rfl (Ia Nl rfl rfl hb4) gn rfl<|Aa 4 rfl (Af rfl) gn rfl<|Aa 5 rfl (Af rfl) gn rfl<|Aj 6 rfl ?_
    refine C9 [.int .u8 (bt x1 (w64 (x2 + 1))),.int .i64 2] rfl Tryd.func106 rfl (.tmp rfl (.tmp rfl (.nil))) fun wr hLr=>?_
    have hMr:=hLr.pk0 (.c 1 rfl .n)
    show Ik w F  r (.returned (Ci [.int .u8 (bt x1 (w64 (x2 + 1))),.int .i64 2])) wr
    rw [h]
    exact ⟨rfl,hMr⟩
   ·have h:=Aq hp8 h
    refine Bg rfl _ rfl ((bf hp8))<|Ah rfl<|Ac rfl rfl<|Aa 0 rfl (Be rfl rfl rfl) gn rfl<|Aa 1 rfl (Af rfl) gn rfl<|Aj 2 rfl ?_
    by_cases hp9:bt x1 (w64 (x2 + 1))=110
    ·have h:=Ap hp9 h
     refine Bz rfl _ rfl ((eqi hp9))<|Ah rfl<|Ac rfl rfl<|Aa 0 rfl (Af rfl) gn rfl<|Aa 1 rfl (Af rfl) gn rfl<|Aj 2 rfl ?_
     refine C9 [.int .u8 10,.int .i64 2] rfl Tryd.func106 rfl (.tmp rfl (.tmp rfl (.nil))) fun wr hLr=>?_
     have hMr:=hLr.pk0 (.c 1 rfl .n)
     show Ik w F  r (.returned (Ci [.int .u8 10,.int .i64 2])) wr
     rw [h]
     exact ⟨rfl,hMr⟩
    ·have h:=Aq hp9 h
     refine Bg rfl _ rfl ((nei hp9))<|Ah rfl<|Ac rfl rfl<|Aa 0 rfl (Be rfl rfl rfl) gn rfl<|Aa 1 rfl (Af rfl) gn rfl<|Aj 2 rfl ?_
     by_cases hp10:bt x1 (w64 (x2 + 1))=116
     ·have h:=Ap hp10 h
      refine Bz rfl _ rfl ((eqi hp10))<|Ah rfl<|Ac rfl rfl<|Aa 0 rfl (Af rfl) gn rfl<|Aa 1 rfl (Af rfl) gn rfl<|Aj 2 rfl ?_
      refine C9 [.int .u8 9,.int .i64 2] rfl Tryd.func106 rfl (.tmp rfl (.tmp rfl (.nil))) fun wr hLr=>?_
      have hMr:=hLr.pk0 (.c 1 rfl .n)
      show Ik w F  r (.returned (Ci [.int .u8 9,.int .i64 2])) wr
      rw [h]
      exact ⟨rfl,hMr⟩
     ·have h:=Aq hp10 h
      refine Bg rfl _ rfl ((nei hp10))<|Ah rfl<|Ac rfl rfl<|Aa 0 rfl (Be rfl rfl rfl) gn rfl<|Aa 1 rfl (Af rfl) gn rfl<|Aj 2 rfl ?_
      by_cases hp11:bt x1 (w64 (x2 + 1))=114
      ·have h:=Ap hp11 h
       refine Bz rfl _ rfl ((eqi hp11))<|Ah rfl<|Ac rfl rfl<|Aa 0 rfl (Af rfl) gn rfl<|Aa 1 rfl (Af rfl) gn rfl<|Aj 2 rfl ?_
       refine C9 [.int .u8 13,.int .i64 2] rfl Tryd.func106 rfl (.tmp rfl (.tmp rfl (.nil))) fun wr hLr=>?_
       have hMr:=hLr.pk0 (.c 1 rfl .n)
       show Ik w F  r (.returned (Ci [.int .u8 13,.int .i64 2])) wr
       rw [h]
       exact ⟨rfl,hMr⟩
      ·have h:=Aq hp11 h
       refine Bg rfl _ rfl ((nei hp11))<|Ah rfl<|Ac rfl rfl<|Aa 0 rfl (Be rfl rfl rfl) gn rfl<|Aa 1 rfl (Af rfl) gn rfl<|Aj 2 rfl ?_
       by_cases hp12:bt x1 (w64 (x2 + 1))=120
       ·have h:=Ap hp12 h
        refine Bz rfl _ rfl ((eqi hp12))<|Ah rfl<|Ac rfl rfl<|Aa 0 rfl (Ad rfl) gn rfl<|Aa 1 rfl (Be rfl rfl rfl) gn rfl<|Aa 2 rfl (Ad rfl) gn rfl<|Aa 3 rfl (Rh Nl rfl) gn rfl<|Aa 4 rfl (Be rfl rfl rfl) gn rfl<|Aj 5 rfl ?_
        by_cases hp13:w64 (x2 + 3) < (x1.size:Int)
        ·have h:=Ap hp13 h
         refine Bz rfl _ rfl ((decide_eq_true hp13))<|Ah rfl<|Ac rfl rfl<|Aa 0 rfl (Ad rfl) gn rfl<|Aa 1 rfl (Ad rfl) gn rfl<|Aa 2 rfl (Be rfl rfl rfl) gn rfl ?_
         obtain ⟨hb14,h⟩:=h
         refine Aa 3 rfl (Ia Nl rfl rfl hb14) gn rfl ?_
         obtain ⟨r18,hv19,h⟩:=h
         refine Cf 4 rfl (D8 [.int .u8 (bt x1 (w64 (x2 + 2)))] rfl Tryd.func112 rfl rfl rfl fun w15 hL16=>?_) gn
         have hp17:=pmI hL16 .n .n (by kernel_rfl)
         refine Calls.mono (Xaw w15 (Fl ([]:List Cc)) (bt x1 (w64 (x2 + 2))) (hL16.hFl hp17 (Bi [] rfl)) (hL16.into hp17 _) r18 hv19) ?_
         rintro _ w20 ⟨rfl,hM21⟩
         have hL22:=hL16.call hp17 hM21
         refine ⟨_,_,_,rfl,hL22,?_⟩
         refine Aa 5 rfl (Ad rfl) gn rfl<|Aa 6 rfl (Hm rfl rfl) gn rfl<|Aa 7 rfl (Hm rfl rfl) gn rfl<|Aa 8 rfl (Af rfl) gn rfl<|Aa 9 rfl (Af rfl) gn rfl<|Aj 10 rfl<|Ah rfl<|Ac rfl rfl<|Aa 0 rfl (Ad rfl) gn rfl<|Aa 1 rfl (Ad rfl) gn rfl<|Aa 2 rfl (Be rfl rfl rfl) gn rfl ?_
         obtain ⟨hb23,h⟩:=h
         refine Aa 3 rfl (Ia Nl rfl rfl hb23) gn rfl ?_
         obtain ⟨r27,hv28,h⟩:=h
         refine Cf 4 rfl (D8 [.int .u8 (bt x1 (w64 (x2 + 3)))] rfl Tryd.func112 rfl rfl rfl fun w24 hL25=>?_) gn
         have hp26:=pmI hL25 .n .n (by kernel_rfl)
         refine Calls.mono (Xaw w24 (Fl ([]:List Cc)) (bt x1 (w64 (x2 + 3))) (hL25.hFl hp26 (Bi [] rfl)) (hL25.into hp26 _) r27 hv28) ?_
         rintro _ w29 ⟨rfl,hM30⟩
         have hL31:=hL25.call hp26 hM30
         refine ⟨_,_,_,rfl,hL31,?_⟩
         refine Aa 5 rfl (Ad rfl) gn rfl<|Aa 6 rfl (Hm rfl rfl) gn rfl<|Aa 7 rfl (Hm rfl rfl) gn rfl<|Aa 8 rfl (Af rfl) gn rfl<|Aa 9 rfl (Af rfl) gn rfl<|Aj 10 rfl<|Ah rfl ?_
         have j2:∀ (x34:Bool) (h:Og r18 r27 x34 r) ,G (Yn w F r) [.code q106c57,.inBlock 0,.code Xmy] [(6,.int .u8 r18.1),(8,.int .u8 r27.1),(58,.bool x34)] [] [Sm w.heap.size F w [],St w []]:=by
          intro x34 h
          unfold Og at h
          by_cases hp35:x34=true
          ·have h:=Ap hp35 h
           refine Bz rfl _ rfl (hp35)<|Ah rfl<|Ac rfl rfl<|Aa 0 rfl (Ad rfl) gn rfl<|Aa 1 rfl (Be rfl rfl rfl) gn rfl<|Aa 2 rfl (Ad rfl) gn rfl<|Aa 3 rfl (Be rfl rfl rfl) gn rfl<|Aa 4 rfl (Af rfl) gn rfl<|Aa 5 rfl (Af rfl) gn rfl<|Aj 6 rfl ?_
           refine C9 [.int .u8 (IntKind.u8.wrap ((IntKind.u8.wrap (16 * r18.1)) + r27.1)),.int .i64 4] rfl Tryd.func106 rfl (.tmp rfl (.tmp rfl (.nil))) fun wr hLr=>?_
           have hMr:=hLr.pk0 (.c 1 rfl .n)
           show Ik w F  r (.returned (Ci [.int .u8 (IntKind.u8.wrap ((IntKind.u8.wrap (16 * r18.1)) + r27.1)),.int .i64 4])) wr
           rw [h]
           exact ⟨rfl,hMr⟩
          ·have h:=Aq hp35 h
           refine Bg rfl _ rfl ((bf hp35))<|Cb rfl<|D7<|Ah rfl<|Ac rfl rfl<|Aa 0 rfl (Af rfl) gn rfl<|Aa 1 rfl (Af rfl) gn rfl<|Aj 2 rfl ?_
           refine C9 [.int .u8 0,.int .i64 0] rfl Tryd.func106 rfl (.tmp rfl (.tmp rfl (.nil))) fun wr hLr=>?_
           have hMr:=hLr.pk0 (.c 1 rfl .n)
           show Ik w F  r (.returned (Ci [.int .u8 0,.int .i64 0])) wr
           rw [h]
           exact ⟨rfl,hMr⟩
         refine Ac rfl rfl<|Aa 0 rfl (Ad rfl) gn rfl<|Aa 1 rfl (Ad rfl) gn rfl ?_
         by_cases hp36:r18.2=true
         ·have h:=Ap hp36 h
          refine Bv 56 rfl (hp36)<|Aa 2 rfl (Ad rfl) (gy 56 rfl rfl) rfl<|Aa 3 rfl (Bd (b:=true) rfl rfl) gn rfl<|Aj 4 rfl ?_
          exact Dc [0,1] (j2 r27.2 h) ⟨rfl,rfl,rfl,trivial⟩ (.slnil) rfl
         ·have h:=Aq hp36 h
          refine Bv 56 rfl ((bf hp36))<|Ae 2 rfl (ps 56 rfl rfl rfl)<|Aa 3 rfl (Bd (b:=false) rfl rfl) gn rfl<|Aj 4 rfl ?_
          exact Dc [0,1] (j2 false h) ⟨rfl,rfl,rfl,trivial⟩ (.slnil) rfl
        ·have h:=Aq hp13 h
         refine Bg rfl _ rfl ((decide_eq_false hp13))<|Cb rfl<|D7<|Ah rfl<|Ac rfl rfl<|Aa 0 rfl (Af rfl) gn rfl<|Aa 1 rfl (Af rfl) gn rfl<|Aj 2 rfl ?_
         refine C9 [.int .u8 0,.int .i64 0] rfl Tryd.func106 rfl (.tmp rfl (.tmp rfl (.nil))) fun wr hLr=>?_
         have hMr:=hLr.pk0 (.c 1 rfl .n)
         show Ik w F  r (.returned (Ci [.int .u8 0,.int .i64 0])) wr
         rw [h]
         exact ⟨rfl,hMr⟩
       ·have h:=Aq hp12 h
        refine Bg rfl _ rfl ((nei hp12))<|Cb rfl<|D7<|Ah rfl<|Ac rfl rfl<|Aa 0 rfl (Af rfl) gn rfl<|Aa 1 rfl (Af rfl) gn rfl<|Aj 2 rfl ?_
        refine C9 [.int .u8 0,.int .i64 0] rfl Tryd.func106 rfl (.tmp rfl (.tmp rfl (.nil))) fun wr hLr=>?_
        have hMr:=hLr.pk0 (.c 1 rfl .n)
        show Ik w F  r (.returned (Ci [.int .u8 0,.int .i64 0])) wr
        rw [h]
        exact ⟨rfl,hMr⟩
  by_cases hp5:bt x1 (w64 (x2 + 1))=34
  ·have h:=Ap hp5 h
   refine Bz rfl _ rfl ((eqi hp5))<|Cb rfl ?_
   exact Dc [0,1] (j1 ((bt x1 (w64 (x2 + 1))) == 34) h) ⟨rfl,rfl,rfl,rfl,trivial⟩ (.slnil) rfl
  ·have h:=Aq hp5 h
   refine Bg rfl _ rfl ((nei hp5))<|Ac rfl rfl<|Aa 0 rfl (Be rfl rfl rfl) gn rfl<|Aa 1 rfl (Af rfl) gn rfl<|Aj 2 rfl ?_
   exact Dc [0,1] (j1 ((bt x1 (w64 (x2 + 1))) == 92) h) ⟨rfl,rfl,rfl,rfl,trivial⟩ (.slnil) rfl
noncomputable abbrev Xgz:=Code.fst (Code.snd (Dv Tryd.f85))
noncomputable abbrev Xh4:=Code.snd (Code.snd (Code.snd Xgz))
noncomputable abbrev q85c11:=Code.snd Xh4
noncomputable abbrev q85c13:=Code.snd (Code.fst Xh4)
abbrev Tf (w:World) (F:Nat→Prop) (r:(List Int) × Int × Int):Ending→World→Prop:=fun e w'=>∃ A0:Option Addr,∃ n0:Nat,∃ c0:Nat,e=.returned (.tuple #[.slice A0 n0 c0,.int .i64 r.2.1,.int .i64 r.2.2])∧B.Loc w w' [.own (.slice A0 n0 c0) 5 1 n0 (r.1.flatMap (eI .u8))] [St w []]∧Ow w.heap.size A0 n0 c0 r.1
noncomputable abbrev Tj (w:World) (F:Nat→Prop) (r:(List Int) × Int × Int):Cx:=⟨Tryd.prog,85,Tryd.f85,58,Tf w F  r,w⟩
theorem Xcz (w:World) (F:Nat→Prop) (x1:ByteArray) (x2:Int) (hF:∀ b,F b→b < w.heap.size∧∀ o ∈ ([]:List (List Nat)),b ∉ o) (hL0:B.Loc w w [] [Sm w.heap.size F w [],St w []]) (r:(List Int) × Int × Int) (h:Tm x1 x2 r):Calls Tryd.prog 85 #[.string x1,.int .i64 x2] w (Tf w F  r):=by
 unfold Tm at h
 refine Ce (vs:=[.string x1,.int .i64 x2]) 58 Tryd.func85 rfl Tryd.ntmps85 rfl hL0 ?_
 show G (Tj w F r) _ _ _ _
 refine Ah rfl<|Ac rfl rfl<|Aa 0 rfl (Af rfl) gn rfl<|Aa 1 rfl (Af rfl) gn rfl<|Aa 2 rfl (Af rfl) gn rfl<|Aj 3 rfl<|Xj1 rfl<|Ah rfl<|Ac rfl rfl<|Aa 0 rfl (Af rfl) gn rfl<|Aj 1 rfl<|Ah rfl ?_
 refine Ac rfl rfl<|Aa 0 rfl (Ad rfl) gn rfl<|Aa 1 rfl (Be rfl rfl rfl) gn rfl<|Aa 2 rfl (Af rfl) gn rfl<|Aj 3 rfl<|Ah rfl<|Xjj rfl ?_
 have key1:∀ s,Bl (fun (s:(List Int) × Int) o=>Il x1 x2 s.1 s.2 o) s r→(fun (s:(List Int) × Int)=>∀ (A44:Option Addr) (n45:Nat) (c46:Nat) (h47:Ow w.heap.size A44 n45 c46 s.1),G (Tj w F r) [.code Xh4,.inScope Xgz] [(0,.string x1),(1,.int .i64 x2),(7,.slice A44 n45 c46),(8,.int .i64 s.2)] [.own (.slice A44 n45 c46) 5 1 n45 (s.1.flatMap (eI .u8))] [Sm w.heap.size F w [],St w []]) s:=by
  intro s hs
  refine Bl.ind (mot:=(fun (s:(List Int) × Int)=>∀ (A44:Option Addr) (n45:Nat) (c46:Nat) (h47:Ow w.heap.size A44 n45 c46 s.1),G (Tj w F r) [.code Xh4,.inScope Xgz] [(0,.string x1),(1,.int .i64 x2),(7,.slice A44 n45 c46),(8,.int .i64 s.2)] [.own (.slice A44 n45 c46) 5 1 n45 (s.1.flatMap (eI .u8))] [Sm w.heap.size F w [],St w []])) ?_ hs
  clear hs s
  intro s o1 h hO1
  obtain ⟨x43,x48⟩:=s
  show ∀ (A44:Option Addr) (n45:Nat) (c46:Nat) (h47:Ow w.heap.size A44 n45 c46 x43),G (Tj w F r) [.code Xh4,.inScope Xgz] [(0,.string x1),(1,.int .i64 x2),(7,.slice A44 n45 c46),(8,.int .i64 x48)] [.own (.slice A44 n45 c46) 5 1 n45 (x43.flatMap (eI .u8))] [Sm w.heap.size F w [],St w []]
  intro A44 n45 c46 h47
  have h:Il x1 x2 x43 x48 o1:=h
  unfold Il at h
  refine Ah rfl<|Ah rfl ?_
  have j2:∀ (x89:Bool) (h:Kv x2 x48 x1 x43 x89 o1) ,G (Tj w F r) [.code q85c13,.code q85c11,.inScope Xgz] [(0,.string x1),(1,.int .i64 x2),(7,.slice A44 n45 c46),(8,.int .i64 x48),(23,.bool x89)] [.own (.slice A44 n45 c46) 5 1 n45 (x43.flatMap (eI .u8))] [Sm w.heap.size F w [],St w []]:=by
   intro x89 h
   unfold Kv at h
   by_cases hp90:x89=true
   ·have h:=Ap hp90 h
    refine Bz rfl _ rfl (hp90)<|Ah rfl<|Ac rfl rfl<|Aa 0 rfl (Ad rfl) gn rfl<|Aa 1 rfl (Af rfl) gn rfl<|Aa 2 rfl (Af rfl) gn rfl<|Aa 3 rfl (Af rfl) gn rfl<|Aj 4 rfl<|Nr 5 1 ?_
    have h:=Out.inr hO1 h
    refine C9 [.slice none 0 0,.int .i64 82,.int .i64 x2] rfl Tryd.func85 rfl (.tmp rfl (.tmp rfl (.tmp rfl (.nil)))) fun wr hLr=>?_
    have hMr:=hLr.pkI (.c 0 rfl .n) (.c 1 rfl .n) (by kernel_rfl) (.c 1 rfl .n)
    show Tf w F  r (.returned (Ci [.slice none 0 0,.int .i64 82,.int .i64 x2])) wr
    rw [h]
    exact ⟨none,0,0,rfl,hMr,(Ow.nil (z:=w.heap.size))⟩
   ·have h:=Aq hp90 h
    refine Bg rfl _ rfl ((bf hp90))<|Cb rfl<|Ah rfl<|Ah rfl<|Ac rfl rfl<|Aa 0 rfl (Ad rfl) gn rfl<|Aa 1 rfl (Ad rfl) gn rfl ?_
    obtain ⟨hb91,h⟩:=h
    refine Aa 2 rfl (Ia Nl rfl rfl hb91) gn rfl<|Aa 3 rfl (Af rfl) gn rfl<|Aj 4 rfl<|Ah rfl<|Ac rfl rfl<|Aa 0 rfl (Ad rfl) gn rfl<|Aj 1 rfl<|Df rfl<|Ah rfl<|Ac rfl rfl<|Aa 0 rfl (Be rfl rfl rfl) gn rfl<|Aa 1 rfl (Af rfl) gn rfl ?_
    refine Aj 2 rfl ?_
    by_cases hp92:bt x1 x48=34
    ·have h:=Ap hp92 h
     refine Bz rfl _ rfl ((eqi hp92))<|Ah rfl<|Ac rfl rfl<|Aa 0 rfl (Ad rfl) gn rfl<|Aa 1 rfl (Ad rfl) gn rfl<|Aa 2 rfl (Be rfl rfl rfl) gn rfl<|Aa 3 rfl (Af rfl) gn rfl<|Aa 4 rfl (Af rfl) gn rfl<|Aa 5 rfl (Af rfl) gn rfl<|Aj 6 rfl ?_
     have h:=Out.inr hO1 h
     refine C9 [.slice A44 n45 c46,.int .i64 0,.int .i64 (w64 (x48 + 1))] rfl Tryd.func85 rfl (.tmp rfl (.tmp rfl (.tmp rfl (.nil)))) fun wr hLr=>?_
     have hMr:=hLr.pkI (.c 0 rfl .n) .n (by kernel_rfl) (.c 1 rfl .n)
     show Tf w F  r (.returned (Ci [.slice A44 n45 c46,.int .i64 0,.int .i64 (w64 (x48 + 1))])) wr
     rw [h]
     exact ⟨A44,n45,c46,rfl,hMr,h47⟩
    ·have h:=Aq hp92 h
     refine Bg rfl _ rfl ((nei hp92))<|Ah rfl<|Ac rfl rfl<|Aa 0 rfl (Be rfl rfl rfl) gn rfl<|Aa 1 rfl (Af rfl) gn rfl<|Aj 2 rfl ?_
     by_cases hp93:bt x1 x48=92
     ·have h:=Ap hp93 h
      refine Bz rfl _ rfl ((eqi hp93))<|Ah rfl<|Ac rfl rfl<|Aa 0 rfl (Ad rfl) gn rfl<|Aa 1 rfl (Ad rfl) gn rfl ?_
      obtain ⟨r97,hv98,h⟩:=h
      refine Cf 2 rfl (D8 [.string x1,.int .i64 x48] rfl Tryd.func106 rfl rfl rfl fun w94 hL95=>?_) gn
      have hp96:=pmI hL95 .n (.c 0 rfl .n) (by kernel_rfl)
      refine Calls.mono (Xd7 w94 (Fl ([]:List Cc)) x1 x48 (hL95.hFl hp96 (Bi [] rfl)) (hL95.into hp96 _) r97 hv98) ?_
      rintro _ w99 ⟨rfl,hM100⟩
      have hL101:=hL95.call hp96 hM100
      refine ⟨_,_,_,rfl,hL101,?_⟩
      refine Aa 3 rfl (Ad rfl) gn rfl<|Aa 4 rfl (Hm rfl rfl) gn rfl<|Aa 5 rfl (Hm rfl rfl) gn rfl<|Aa 6 rfl (Af rfl) gn rfl<|Aa 7 rfl (Af rfl) gn rfl<|Aj 8 rfl<|Ah rfl<|Ah rfl<|Ac rfl rfl<|Aa 0 rfl (Ad rfl) gn rfl<|Aa 1 rfl (Be rfl rfl rfl) gn rfl<|Aj 2 rfl ?_
      by_cases hp102:r97.2=0
      ·have h:=Ap hp102 h
       refine Bz rfl _ rfl ((eqi hp102))<|Ah rfl<|Ac rfl rfl<|Aa 0 rfl (Ad rfl) gn rfl<|Aa 1 rfl (Af rfl) gn rfl<|Aa 2 rfl (Af rfl) gn rfl<|Aa 3 rfl (Af rfl) gn rfl<|Aj 4 rfl<|Nr 5 1 ?_
       have h:=Out.inr hO1 h
       refine C9 [.slice none 0 0,.int .i64 82,.int .i64 x48] rfl Tryd.func85 rfl (.tmp rfl (.tmp rfl (.tmp rfl (.nil)))) fun wr hLr=>?_
       have hMr:=hLr.pkI (.c 0 rfl .n) (.c 1 rfl .n) (by kernel_rfl) (.c 1 rfl .n)
       show Tf w F  r (.returned (Ci [.slice none 0 0,.int .i64 82,.int .i64 x48])) wr
       rw [h]
       exact ⟨none,0,0,rfl,hMr,(Ow.nil (z:=w.heap.size))⟩
      ·have h:=Aq hp102 h
       refine Bg rfl _ rfl ((nei hp102))<|Cb rfl<|Ah rfl<|Ac rfl rfl<|Aa 0 rfl (Ad rfl) gn rfl<|Aa 1 rfl (Ad rfl) gn rfl ?_
       refine Cf 2 rfl (Gw (xs:=([r97.1]:List Int)) [.int .u8 r97.1] Xbg rfl (by kernel_rfl) rfl rfl rfl rfl fun gb104 h105=>?_) gn
       obtain ⟨x109,hv110,h⟩:=h
       obtain ⟨hb111,h⟩:=h
       refine Cf 3 rfl (L8 (zs:=x109) (cells':=x109.flatMap (eI .u8)) 1 Xaq rfl rfl rfl h47 (Nat.le_refl _) (Src.ownF (hl:=(hlI .u8)) (h1:=(Ey .u8)) 0 rfl h105) (by rw [hv110,List.flatMap_append] <;> rfl) (Ff hv110 h105.hq) hb111 rfl rfl fun A106 c107 h108=>?_) gn
       refine Aa 4 rfl (Af rfl) gn rfl<|Aj 5 rfl<|Ac rfl rfl<|Aa 0 rfl (Ad rfl) gn rfl<|Aa 1 rfl (Ad rfl) gn rfl<|Aa 2 rfl (Be rfl rfl rfl) gn rfl<|Aa 3 rfl (Af rfl) gn rfl<|Aj 4 rfl<|D7<|Qm [.code (.seq .skip Xh4),.inScope Xgz] rfl rfl<|Ah rfl<|Cb rfl ?_
       have ih:=Out.inl hO1 h
       exact Dc [0,1] (ih A106 (n45 + 1) c107 h108) ⟨rfl,rfl,rfl,rfl,trivial⟩ (.cons _ (.cons_cons _ (.slnil))) rfl
     ·have h:=Aq hp93 h
      refine Bg rfl _ rfl ((nei hp93))<|Ah rfl<|Ac rfl rfl<|Aa 0 rfl (Ad rfl) gn rfl<|Aa 1 rfl (Ad rfl) gn rfl ?_
      refine Cf 2 rfl (Gw (xs:=([bt x1 x48]:List Int)) [.int .u8 (bt x1 x48)] Xbg rfl (by kernel_rfl) rfl rfl rfl rfl fun gb113 h114=>?_) gn
      obtain ⟨x118,hv119,h⟩:=h
      obtain ⟨hb120,h⟩:=h
      refine Cf 3 rfl (L8 (zs:=x118) (cells':=x118.flatMap (eI .u8)) 1 Xaq rfl rfl rfl h47 (Nat.le_refl _) (Src.ownF (hl:=(hlI .u8)) (h1:=(Ey .u8)) 0 rfl h114) (by rw [hv119,List.flatMap_append] <;> rfl) (Ff hv119 h114.hq) hb120 rfl rfl fun A115 c116 h117=>?_) gn
      refine Aa 4 rfl (Af rfl) gn rfl<|Aj 5 rfl<|Ac rfl rfl<|Aa 0 rfl (Ad rfl) gn rfl<|Aa 1 rfl (Be rfl rfl rfl) gn rfl<|Aa 2 rfl (Af rfl) gn rfl<|Aj 3 rfl<|D7<|Qm [.code (.seq .skip Xh4),.inScope Xgz] rfl rfl<|Ah rfl<|Cb rfl ?_
      have ih:=Out.inl hO1 h
      exact Dc [0,1] (ih A115 (n45 + 1) c116 h117) ⟨rfl,rfl,rfl,rfl,trivial⟩ (.cons _ (.cons_cons _ (.slnil))) rfl
  refine Ac rfl rfl<|Aa 0 rfl (Ad rfl) gn rfl<|Aa 1 rfl (Ad rfl) gn rfl<|Aa 2 rfl (Rh Nl rfl) gn rfl<|Aa 3 rfl (Be rfl rfl rfl) gn rfl<|Aa 4 rfl (Ad rfl) gn rfl ?_
  by_cases hp121:x48=(x1.size:Int)
  ·have h:=Ap hp121 h
   refine Bv 18 rfl ((eqi hp121))<|Ae 5 rfl (ps 18 rfl rfl rfl)<|Ae 6 rfl (ps 18 rfl rfl rfl)<|Ae 7 rfl (ps 18 rfl rfl rfl)<|Ae 8 rfl (ps 18 rfl rfl rfl)<|Aa 9 rfl (Bd (b:=true) rfl rfl) gn rfl<|Aj 10 rfl ?_
   exact Dc [0,1] (j2 true h) ⟨rfl,rfl,rfl,rfl,rfl,trivial⟩ (.cons_cons _ (.slnil)) rfl
  ·have h:=Aq hp121 h
   refine Bv 18 rfl ((nei hp121))<|Aa 5 rfl (Ad rfl) (gy 18 rfl rfl) rfl<|Aa 6 rfl (Ad rfl) (gy 18 rfl rfl) rfl ?_
   obtain ⟨hb122,h⟩:=h
   refine Aa 7 rfl (Ia Nl rfl rfl hb122) (gy 18 rfl rfl) rfl<|Aa 8 rfl (Be rfl rfl rfl) (gy 18 rfl rfl) rfl<|Aa 9 rfl (Bd (b:=false) rfl rfl) gn rfl<|Aj 10 rfl ?_
   exact Dc [0,1] (j2 ((bt x1 x48) == 10) h) ⟨rfl,rfl,rfl,rfl,rfl,trivial⟩ (.cons_cons _ (.slnil)) rfl
 refine Nr 5 1 ?_
 exact Dc [0,1] (key1 _ h none 0 0 (Ow.nil (z:=w.heap.size))) ⟨rfl,rfl,rfl,rfl,trivial⟩ (.cons_cons _ (.slnil)) rfl
noncomputable abbrev Xfp:=Code.fst (Code.snd (Dv Tryd.f86))
noncomputable abbrev Xgk:=Code.snd (Code.snd Xfp)
noncomputable abbrev q86c9:=Code.snd Xgk
noncomputable abbrev q86c12:=Code.snd (Code.fst (Code.fst Xgk))
noncomputable abbrev q86c24:=Code.snd (Code.snd (Code.snd (Code.snd q86c12)))
abbrev Um (w:World) (F:Nat→Prop) (r:(List Int) × Int × Int):Ending→World→Prop:=fun e w'=>∃ A0:Option Addr,∃ n0:Nat,∃ c0:Nat,e=.returned (.tuple #[.slice A0 n0 c0,.int .i64 r.2.1,.int .i64 r.2.2])∧B.Loc w w' [.own (.slice A0 n0 c0) 5 1 n0 (r.1.flatMap (eI .u8))] [St w []]∧Ow w.heap.size A0 n0 c0 r.1
noncomputable abbrev Om (w:World) (F:Nat→Prop) (r:(List Int) × Int × Int):Cx:=⟨Tryd.prog,86,Tryd.f86,58,Um w F  r,w⟩
theorem Xc6 (w:World) (F:Nat→Prop) (x1:ByteArray) (x2:Int) (hF:∀ b,F b→b < w.heap.size∧∀ o ∈ ([]:List (List Nat)),b ∉ o) (hL0:B.Loc w w [] [Sm w.heap.size F w [],St w []]) (r:(List Int) × Int × Int) (h:Rf x1 x2 r):Calls Tryd.prog 86 #[.string x1,.int .i64 x2] w (Um w F  r):=by
 unfold Rf at h
 refine Ce (vs:=[.string x1,.int .i64 x2]) 58 Tryd.func86 rfl Tryd.ntmps86 rfl hL0 ?_
 show G (Om w F r) _ _ _ _
 refine Ah rfl<|Ac rfl rfl<|Aa 0 rfl (Af rfl) gn rfl<|Aa 1 rfl (Af rfl) gn rfl<|Aa 2 rfl (Af rfl) gn rfl<|Aj 3 rfl<|Xj1 rfl<|Ah rfl<|Ac rfl rfl<|Aa 0 rfl (Ad rfl) gn rfl<|Aa 1 rfl (Be rfl rfl rfl) gn rfl<|Aa 2 rfl (Af rfl) gn rfl ?_
 refine Aj 3 rfl<|Ah rfl<|Xjj rfl ?_
 have key1:∀ s,Bl (fun (s:Int) o=>Jk x1 x2 s o) s r→(fun (s:Int)=>∀ (_:Unit),G (Om w F r) [.code Xgk,.inScope Xfp] [(0,.string x1),(1,.int .i64 x2),(7,.int .i64 s)] [] [Sm w.heap.size F w [],St w []]) s:=by
  intro s hs
  refine Bl.ind (mot:=(fun (s:Int)=>∀ (_:Unit),G (Om w F r) [.code Xgk,.inScope Xfp] [(0,.string x1),(1,.int .i64 x2),(7,.int .i64 s)] [] [Sm w.heap.size F w [],St w []])) ?_ hs
  clear hs s
  intro x28 o1 h hO1
  show ∀ (_:Unit),G (Om w F r) [.code Xgk,.inScope Xfp] [(0,.string x1),(1,.int .i64 x2),(7,.int .i64 x28)] [] [Sm w.heap.size F w [],St w []]
  intro _
  have h:Jk x1 x2 x28 o1:=h
  unfold Jk at h
  refine Ah rfl<|Df rfl<|Ah rfl ?_
  have j2:∀ (x56:Bool) (h:Le x2 x28 x1 x56 o1) ,G (Om w F r) [.code q86c12,.inBlock 0,.code q86c9,.inScope Xfp] [(0,.string x1),(1,.int .i64 x2),(7,.int .i64 x28),(10,.bool x56)] [] [Sm w.heap.size F w [],St w []]:=by
   intro x56 h
   unfold Le at h
   by_cases hp57:x56=true
   ·have h:=Ap hp57 h
    refine Bz rfl _ rfl (hp57)<|Ah rfl<|Ac rfl rfl<|Aa 0 rfl (Ad rfl) gn rfl<|Aa 1 rfl (Af rfl) gn rfl<|Aa 2 rfl (Af rfl) gn rfl<|Aa 3 rfl (Af rfl) gn rfl<|Aj 4 rfl<|Nr 5 1 ?_
    have h:=Out.inr hO1 h
    refine C9 [.slice none 0 0,.int .i64 82,.int .i64 x2] rfl Tryd.func86 rfl (.tmp rfl (.tmp rfl (.tmp rfl (.nil)))) fun wr hLr=>?_
    have hMr:=hLr.pkI (.c 0 rfl .n) .n (by kernel_rfl) (.c 1 rfl .n)
    show Um w F  r (.returned (Ci [.slice none 0 0,.int .i64 82,.int .i64 x2])) wr
    rw [h]
    exact ⟨none,0,0,rfl,hMr,(Ow.nil (z:=w.heap.size))⟩
   ·have h:=Aq hp57 h
    refine Bg rfl _ rfl ((bf hp57))<|Ah rfl<|Ac rfl rfl<|Aa 0 rfl (Ad rfl) gn rfl<|Aa 1 rfl (Ad rfl) gn rfl ?_
    obtain ⟨hb58,h⟩:=h
    refine Aa 2 rfl (Ia Nl rfl rfl hb58) gn rfl<|Aa 3 rfl (Be rfl rfl rfl) gn rfl<|Aa 4 rfl (Af rfl) gn rfl<|Aj 5 rfl ?_
    by_cases hp59:bt x1 x28=47
    ·have h:=Ap hp59 h
     refine Bz rfl _ rfl ((eqi hp59))<|Ah rfl<|Ac rfl rfl<|Aa 0 rfl (Ad rfl) gn rfl<|Aa 1 rfl (Ad rfl) gn rfl<|Aa 2 rfl (Be rfl rfl rfl) gn rfl<|Aa 3 rfl (Ad rfl) gn rfl ?_
     obtain ⟨hb60,h⟩:=h
     refine Aa 4 rfl (Xk4 (w64 (x2 + 1)) x28 Nl rfl (.inr ⟨_,_,rfl,rfl⟩) (.inr ⟨_,_,rfl,rfl⟩) ⟨hb60.1,hb60.2.1⟩ hb60.2.2) gn rfl ?_
     obtain ⟨hb61,h⟩:=h
     refine Cf 5 rfl (s_s2b Nl slE_108 un_5 rfl hb61 rfl fun A62 c63 h64=>?_) gn
     refine Aa 6 rfl (Ad rfl) gn rfl<|Aa 7 rfl (Be rfl rfl rfl) gn rfl<|Aa 8 rfl (Af rfl) gn rfl<|Aa 9 rfl (Af rfl) gn rfl<|Aa 10 rfl (Af rfl) gn rfl<|Aj 11 rfl ?_
     have h:=Out.inr hO1 h
     refine C9 [.slice A62 ((x1.extract (w64 (x2 + 1):Int).toNat (x28:Int).toNat).size) c63,.int .i64 0,.int .i64 (w64 (x28 + 1))] rfl Tryd.func86 rfl (.tmp rfl (.tmp rfl (.tmp rfl (.nil)))) fun wr hLr=>?_
     have hMr:=hLr.pkI (.c 0 rfl .n) .n (by kernel_rfl) (.c 1 rfl .n)
     show Um w F  r (.returned (Ci [.slice A62 ((x1.extract (w64 (x2 + 1):Int).toNat (x28:Int).toNat).size) c63,.int .i64 0,.int .i64 (w64 (x28 + 1))])) wr
     rw [h]
     exact ⟨A62,(x1.extract (w64 (x2 + 1):Int).toNat (x28:Int).toNat).size,c63,rfl,hMr,h64⟩
    ·have h:=Aq hp59 h
     refine Bg rfl _ rfl ((nei hp59))<|Ah rfl ?_
     have j3:∀ (x70:Bool) (h:Hw x28 x70 o1) ,G (Om w F r) [.code q86c24,.inBlock 0,.code q86c9,.inScope Xfp] [(0,.string x1),(1,.int .i64 x2),(7,.int .i64 x28),(35,.bool x70)] [] [Sm w.heap.size F w [],St w []]:=by
      intro x70 h
      unfold Hw at h
      by_cases hp71:x70=true
      ·have h:=Ap hp71 h
       refine Bz rfl _ rfl (hp71)<|Ac rfl rfl<|Aa 0 rfl (Ad rfl) gn rfl<|Aa 1 rfl (Be rfl rfl rfl) gn rfl<|Aa 2 rfl (Af rfl) gn rfl<|Aj 3 rfl<|D7<|Ah rfl<|Ac rfl rfl<|Aa 0 rfl (Ad rfl) gn rfl<|Aa 1 rfl (Be rfl rfl rfl) gn rfl<|Aa 2 rfl (Af rfl) gn rfl ?_
       refine Aj 3 rfl<|Qm [.code (.seq .skip Xgk),.inScope Xfp] rfl rfl<|Ah rfl<|Cb rfl ?_
       have ih:=Out.inl hO1 h
       exact Dc [0,1] (ih ()) ⟨rfl,rfl,rfl,trivial⟩ (.slnil) rfl
      ·have h:=Aq hp71 h
       refine Bg rfl _ rfl ((bf hp71))<|Cb rfl<|D7<|Ah rfl<|Ac rfl rfl<|Aa 0 rfl (Ad rfl) gn rfl<|Aa 1 rfl (Be rfl rfl rfl) gn rfl<|Aa 2 rfl (Af rfl) gn rfl<|Aj 3 rfl<|Qm [.code (.seq .skip Xgk),.inScope Xfp] rfl rfl<|Ah rfl<|Cb rfl ?_
       have ih:=Out.inl hO1 h
       exact Dc [0,1] (ih ()) ⟨rfl,rfl,rfl,trivial⟩ (.slnil) rfl
     refine Ac rfl rfl<|Aa 0 rfl (Ad rfl) gn rfl<|Aa 1 rfl (Ad rfl) gn rfl<|Aa 2 rfl (Ia Nl rfl rfl hb58) gn rfl<|Aa 3 rfl (Be rfl rfl rfl) gn rfl<|Aa 4 rfl (Ad rfl) gn rfl ?_
     by_cases hp72:bt x1 x28=92
     ·have h:=Ap hp72 h
      refine Bv 40 rfl ((eqi hp72))<|Aa 5 rfl (Ad rfl) (gy 40 rfl rfl) rfl<|Aa 6 rfl (Be rfl rfl rfl) (gy 40 rfl rfl) rfl<|Aa 7 rfl (Ad rfl) (gy 40 rfl rfl) rfl<|Aa 8 rfl (Rh Nl rfl) (gy 40 rfl rfl) rfl<|Aa 9 rfl (Be rfl rfl rfl) (gy 40 rfl rfl) rfl<|Aa 10 rfl (Bd (b:=true) rfl rfl) gn rfl<|Aa 11 rfl (Ad rfl) gn rfl ?_
      by_cases hp73:w64 (x28 + 1) < (x1.size:Int)
      ·have h:=Ap hp73 h
       refine Bv 47 rfl ((decide_eq_true hp73))<|Aa 12 rfl (Ad rfl) (gy 47 rfl rfl) rfl<|Aa 13 rfl (Ad rfl) (gy 47 rfl rfl) rfl<|Aa 14 rfl (Be rfl rfl rfl) (gy 47 rfl rfl) rfl ?_
       obtain ⟨hb74,h⟩:=h
       refine Aa 15 rfl (Ia Nl rfl rfl hb74) (gy 47 rfl rfl) rfl<|Aa 16 rfl (Be rfl rfl rfl) (gy 47 rfl rfl) rfl<|Aa 17 rfl (Bd (b:=true) rfl rfl) gn rfl<|Aa 18 rfl (Af rfl) gn rfl<|Aj 19 rfl ?_
       exact Dc [0,1] (j3 ((bt x1 (w64 (x28 + 1))) != 10) h) ⟨rfl,rfl,rfl,rfl,trivial⟩ (.slnil) rfl
      ·have h:=Aq hp73 h
       refine Bv 47 rfl ((decide_eq_false hp73))<|Ae 12 rfl (ps 47 rfl rfl rfl)<|Ae 13 rfl (ps 47 rfl rfl rfl)<|Ae 14 rfl (ps 47 rfl rfl rfl)<|Ae 15 rfl (ps 47 rfl rfl rfl)<|Ae 16 rfl (ps 47 rfl rfl rfl)<|Aa 17 rfl (Bd (b:=false) rfl rfl) gn rfl<|Aa 18 rfl (Af rfl) gn rfl<|Aj 19 rfl ?_
       exact Dc [0,1] (j3 false h) ⟨rfl,rfl,rfl,rfl,trivial⟩ (.slnil) rfl
     ·have h:=Aq hp72 h
      refine Bv 40 rfl ((nei hp72))<|Ae 5 rfl (ps 40 rfl rfl rfl)<|Ae 6 rfl (ps 40 rfl rfl rfl)<|Ae 7 rfl (ps 40 rfl rfl rfl)<|Ae 8 rfl (ps 40 rfl rfl rfl)<|Ae 9 rfl (ps 40 rfl rfl rfl)<|Aa 10 rfl (Bd (b:=false) rfl rfl) gn rfl<|Aa 11 rfl (Ad rfl) gn rfl<|Ae 12 rfl (ps 47 rfl rfl rfl)<|Ae 13 rfl (ps 47 rfl rfl rfl)<|Ae 14 rfl (ps 47 rfl rfl rfl)<|Ae 15 rfl (ps 47 rfl rfl rfl) ?_
      refine Ae 16 rfl (ps 47 rfl rfl rfl)<|Aa 17 rfl (Bd (b:=false) rfl rfl) gn rfl<|Aa 18 rfl (Af rfl) gn rfl<|Aj 19 rfl ?_
      exact Dc [0,1] (j3 false h) ⟨rfl,rfl,rfl,rfl,trivial⟩ (.slnil) rfl
  refine Ac rfl rfl<|Aa 0 rfl (Ad rfl) gn rfl<|Aa 1 rfl (Ad rfl) gn rfl<|Aa 2 rfl (Rh Nl rfl) gn rfl<|Aa 3 rfl (Be rfl rfl rfl) gn rfl<|Aa 4 rfl (Ad rfl) gn rfl ?_
  by_cases hp75:x28=(x1.size:Int)
  ·have h:=Ap hp75 h
   refine Bv 15 rfl ((eqi hp75))<|Ae 5 rfl (ps 15 rfl rfl rfl)<|Ae 6 rfl (ps 15 rfl rfl rfl)<|Ae 7 rfl (ps 15 rfl rfl rfl)<|Ae 8 rfl (ps 15 rfl rfl rfl)<|Aa 9 rfl (Bd (b:=true) rfl rfl) gn rfl<|Aa 10 rfl (Af rfl) gn rfl<|Aj 11 rfl ?_
   exact Dc [0,1] (j2 true h) ⟨rfl,rfl,rfl,rfl,trivial⟩ (.slnil) rfl
  ·have h:=Aq hp75 h
   refine Bv 15 rfl ((nei hp75))<|Aa 5 rfl (Ad rfl) (gy 15 rfl rfl) rfl<|Aa 6 rfl (Ad rfl) (gy 15 rfl rfl) rfl ?_
   obtain ⟨hb76,h⟩:=h
   refine Aa 7 rfl (Ia Nl rfl rfl hb76) (gy 15 rfl rfl) rfl<|Aa 8 rfl (Be rfl rfl rfl) (gy 15 rfl rfl) rfl<|Aa 9 rfl (Bd (b:=false) rfl rfl) gn rfl<|Aa 10 rfl (Af rfl) gn rfl<|Aj 11 rfl ?_
   exact Dc [0,1] (j2 ((bt x1 x28) == 10) h) ⟨rfl,rfl,rfl,rfl,trivial⟩ (.slnil) rfl
 exact Dc [0,1] (key1 _ h ()) ⟨rfl,rfl,rfl,trivial⟩ (.slnil) rfl
end Go.Proofs.YtjookebbmfiidaaDoor.K
