/- What the machine's calls do, function by function, printed by my own tool. Condition of each: its relation holds of the answer, and what is handed in lies in memory as told. -/
import Derived.Test.YtjookebbmfiidaaDoorK5
set_option linter.unusedVariables false
set_option maxRecDepth 100000
set_option maxHeartbeats 4000000
namespace Go.Proofs.YtjookebbmfiidaaDoor.K
open Go.Proofs.YtjookebbmfiidaaDoor.B Go.Proofs.YtjookebbmfiidaaDoor.R Go.RowKit
noncomputable abbrev Xji:=Code.snd (Code.snd (Code.snd (Code.snd (Code.snd (Code.snd (Dv Tryd.f60))))))
noncomputable abbrev q60c23:=Code.fst (Code.fst (Code.snd (Code.snd (Code.snd (Code.snd (Code.snd (Dv Tryd.f60)))))))
noncomputable abbrev Zr:=Code.snd Xji
noncomputable abbrev Xlu:=Code.fst (Code.fst Xji)
noncomputable abbrev Xmb:=Code.snd (Code.fst Xji)
noncomputable abbrev q60c35:=Code.fst (Code.fst Xmb)
noncomputable abbrev Xlv:=Code.snd (Code.snd (Code.snd Xmb))
noncomputable abbrev Xgl:=Code.snd Xlv
noncomputable abbrev Xf1:=Code.fst (Code.fst (Code.fst Xlv))
noncomputable abbrev Xj9:=Code.snd Zr
noncomputable abbrev q60c61:=Code.snd (Code.fst Zr)
noncomputable abbrev q60c70:=Code.fst (Code.snd (Code.snd (Code.snd (Code.fst q60c61))))
abbrev Gm (w:World) (F:Nat→Prop) (g2:Nat) (Tb3:Nat) (A8:Option Addr) (n9:Nat) (c10:Nat) (z12:Nat) (A14:Option Addr) (n15:Nat) (c16:Nat) (z18:Nat) (r:Ai):Ending→World→Prop:=fun e w'=>∃ A1:Option Addr,∃ n1:Nat,∃ c1:Nat,∃ A2:Option Addr,∃ n2:Nat,∃ c2:Nat,∃ A0:Option Addr,∃ n0:Nat,∃ c0:Nat,e=.returned (.tuple #[])∧B.Loc w w' [.box g2 Tb3 [.slice A0 n0 c0,.int .i64 r.at_,.int .i64 r.end_,.slice A1 n1 c1,.slice A2 n2 c2,.int .i64 r.code,.int .i64 r.place],.own (.slice A1 n1 c1) 45 5 n1 (r.q.nodes.flatMap Am),.own (.slice A2 n2 c2) 47 4 n2 (r.q.conds.flatMap Bj)] [St w [[g2],(Value.slice A8 n9 c10).ownBlock.toList,(Value.slice A14 n15 c16).ownBlock.toList]]∧Ow z12 A1 n1 c1 r.q.nodes∧Ow z18 A2 n2 c2 r.q.conds∧Rw D5 w' (Nw w w' F [.box g2 Tb3 [.slice A0 n0 c0,.int .i64 r.at_,.int .i64 r.end_,.slice A1 n1 c1,.slice A2 n2 c2,.int .i64 r.code,.int .i64 r.place],.own (.slice A1 n1 c1) 45 5 n1 (r.q.nodes.flatMap Am),.own (.slice A2 n2 c2) 47 4 n2 (r.q.conds.flatMap Bj)]) A0 n0 c0 r.words
noncomputable abbrev Fa (w:World) (F:Nat→Prop) (g2:Nat) (Tb3:Nat) (A8:Option Addr) (n9:Nat) (c10:Nat) (z12:Nat) (A14:Option Addr) (n15:Nat) (c16:Nat) (z18:Nat) (r:Ai):Cx:=⟨Tryd.prog,60,Tryd.f60,206,Gm w F g2 Tb3 A8 n9 c10 z12 A14 n15 c16 z18 r,w⟩
def Q3 (rl:Ai→Ai→Prop):Prop:=∀ (w:World) (F:Nat→Prop) (x1:Ai) (g2:Nat) (Tb3:Nat) (A4:Option Addr) (n5:Nat) (c6:Nat) (z12:Nat) (A8:Option Addr) (n9:Nat) (c10:Nat) (z18:Nat) (A14:Option Addr) (n15:Nat) (c16:Nat) (h7:Rw D5 w F A4 n5 c6 x1.words) (hz13:z12≤w.heap.size) (h11:Ow z12 A8 n9 c10 x1.q.nodes) (hz19:z18≤w.heap.size) (h17:Ow z18 A14 n15 c16 x1.q.conds) (hF:∀ b,F b→b < w.heap.size∧∀ o ∈ ([[g2],(Value.slice A8 n9 c10).ownBlock.toList,(Value.slice A14 n15 c16).ownBlock.toList]:List (List Nat)),b ∉ o) (hL0:B.Loc w w [.box g2 Tb3 [.slice A4 n5 c6,.int .i64 x1.at_,.int .i64 x1.end_,.slice A8 n9 c10,.slice A14 n15 c16,.int .i64 x1.code,.int .i64 x1.place],.own (.slice A8 n9 c10) 45 5 n9 (x1.q.nodes.flatMap Am),.own (.slice A14 n15 c16) 47 4 n15 (x1.q.conds.flatMap Bj)] [Sm w.heap.size F w [[g2],(Value.slice A8 n9 c10).ownBlock.toList,(Value.slice A14 n15 c16).ownBlock.toList],St w [[g2],(Value.slice A8 n9 c10).ownBlock.toList,(Value.slice A14 n15 c16).ownBlock.toList]]) (r:Ai) (h:rl x1 r),Calls Tryd.prog 60 #[.pointer (some ⟨g2,0,none⟩)] w (Gm w F g2 Tb3 A8 n9 c10 z12 A14 n15 c16 z18 r)
theorem Yx (rc_query_parser_pattern:Ai→Ai→Prop) (ih_query_parser_pattern:Q3 rc_query_parser_pattern):Q3 (Iw rc_query_parser_pattern):=by
 intro w F x1 g2 Tb3 A4 n5 c6 z12 A8 n9 c10 z18 A14 n15 c16 h7 hz13 h11 hz19 h17 hF hL0 r h
 unfold Iw at h
 have h7:=Rw.into (bs:=[[g2],(Value.slice A8 n9 c10).ownBlock.toList,(Value.slice A14 n15 c16).ownBlock.toList]) hF h7
 refine Ce (vs:=[.pointer (some ⟨g2,0,none⟩)]) 206 Tryd.func60 rfl Tryd.ntmps60 rfl hL0 ?_
 show G (Fa w F g2 Tb3 A8 n9 c10 z12 A14 n15 c16 z18 r) _ _ _ _
 refine Ah rfl<|Ah rfl<|Ac rfl rfl<|Aa 0 rfl (Ad rfl) gn rfl ?_
 obtain ⟨r23,hv24,h⟩:=h
 refine Cf 1 rfl (D8 [.pointer (some ⟨g2,0,none⟩)] rfl Tryd.func87 rfl rfl rfl fun w20 hL21=>?_) gn
 have hp22:=pmI hL21 (.c 0 rfl (.c 1 rfl (.c 2 rfl .n))) .n (by kernel_rfl)
 refine Calls.mono (Yu w20 (Fl ([Sm w.heap.size F w [[g2],(Value.slice A8 n9 c10).ownBlock.toList,(Value.slice A14 n15 c16).ownBlock.toList]]:List Cc)) x1 g2 Tb3 A4 n5 c6 z12 A8 n9 c10 z18 A14 n15 c16 (Rw.mono h7 (hL21.toFl (me 0 rfl) (me 0 rfl))) (Nat.le_trans hz13 hL21.env.size) h11 (Nat.le_trans hz19 hL21.env.size) h17 (hL21.hFl hp22 (Bi [0] rfl)) (hL21.into hp22 _) r23 hv24) ?_
 rintro _ w39 ⟨A29,n30,c31,A34,n35,c36,A25,n26,c27,rfl,hM40,h32,h37,h28⟩
 obtain ⟨sb43,hL41,hv42⟩:=hL21.callB (Sl:=([Sm w.heap.size F w [[g2],(Value.slice A8 n9 c10).ownBlock.toList,(Value.slice A14 n15 c16).ownBlock.toList]]:List Cc)) hp22 hM40 F (Bi [0] rfl) ⟨Sm.ok,trivial⟩
 have h28:At D5 (Sm w.heap.size F w39 sb43) A25 n26 c27 r23.2.words:=Rw.mono h28 hv42
 refine ⟨_,_,_,rfl,hL41,?_⟩
 refine Aa 2 rfl (Qv rfl) gn rfl<|Aj 3 rfl ?_
 by_cases hp44:r23.1=true
 ·have h:=Ap hp44 h
  refine Bg rfl _ rfl ((nf hp44))<|Cb rfl<|Ah rfl<|Ah rfl<|Ac rfl rfl<|Aa 0 rfl (Ad rfl) gn rfl<|Aa 1 rfl (Bc rfl) gn rfl<|Aa 2 rfl (Aw P9 rfl) gn rfl<|Aa 3 rfl (Aw J4 rfl) gn rfl<|Aa 4 rfl (Au 0 Rl rfl rfl rfl) gn rfl<|Aa 5 rfl (Dj Xas rfl h32.hq) gn rfl<|Aa 6 rfl (Be rfl rfl rfl) gn rfl ?_
  refine Aj 7 rfl ?_
  by_cases hp45:(r23.2.q.nodes.length:Int)=32
  ·have h:=Ap hp45 h
   refine Bz rfl _ rfl ((eqi hp45))<|Ah rfl<|Ac rfl rfl<|Aa 0 rfl (Ad rfl) gn rfl<|Aa 1 rfl (Ad rfl) gn rfl<|Aa 2 rfl (Bc rfl) gn rfl<|Aa 3 rfl (Aw Eg rfl) gn rfl<|Aa 4 rfl (Au 0 H9 rfl rfl rfl) gn rfl ?_
   obtain ⟨r49,hv50,h⟩:=h
   refine Cf 5 rfl (D8 [.pointer (some ⟨g2,0,none⟩),.int .i64 202,.int .i64 r23.2.at_] rfl Tryd.func88 rfl rfl rfl fun w46 hL47=>?_) gn
   have hp48:=pmI hL47 (.c 0 rfl (.c 1 rfl (.c 2 rfl .n))) .n (by kernel_rfl)
   refine Calls.mono (G7 w46 (Fl ([Sm w.heap.size F w39 sb43]:List Cc)) r23.2 202 r23.2.at_ g2 Tb3 A25 n26 c27 z12 A29 n30 c31 z18 A34 n35 c36 (Rw.mono h28 (hL47.toFl (me 0 rfl) (me 0 rfl))) (Nat.le_trans hz13 hL47.env.size) h32 (Nat.le_trans hz19 hL47.env.size) h37 (hL47.hFl hp48 (Bi [0] rfl)) (hL47.into hp48 _) r49 hv50) ?_
   rintro _ w65 ⟨A55,n56,c57,A60,n61,c62,A51,n52,c53,rfl,hM66,h58,h63,h54⟩
   obtain ⟨sb69,hL67,hv68⟩:=hL47.callB (Sl:=([Sm w.heap.size F w39 sb43]:List Cc)) hp48 hM66 F (Bi [0] rfl) ⟨Sm.ok,trivial⟩
   have h54:At D5 (Sm w.heap.size F w65 sb69) A51 n52 c53 r49.words:=Rw.mono h54 hv68
   refine ⟨_,_,_,rfl,hL67,?_⟩
   refine Aj 6 rfl ?_
   refine C9 [] rfl Tryd.func60 rfl (.nil) fun wr hLr=>?_
   have hMr:=hLr.pkI (.c 0 rfl (.c 1 rfl (.c 2 rfl .n))) .n (by kernel_rfl) (.c 3 rfl .n)
   have hMi:=hLr.selI (.c 0 rfl (.c 1 rfl (.c 2 rfl .n)))
   show Gm w F g2 Tb3 A8 n9 c10 z12 A14 n15 c16 z18 r (.returned (Ci [])) wr
   rw [h]
   exact ⟨A55,n56,c57,A60,n61,c62,A51,n52,c53,rfl,hMr,h58,h63,(hLr.outR (s:=Sm w.heap.size F w65 sb69) hMi (me 0 rfl) Sm.ok h54)⟩
  ·have h:=Aq hp45 h
   refine Bg rfl _ rfl ((nei hp45))<|Cb rfl<|Ah rfl<|Ac rfl rfl<|Aa 0 rfl (Ad rfl) gn rfl<|Aa 1 rfl (Bc rfl) gn rfl<|Aa 2 rfl (Aw P9 rfl) gn rfl<|Aa 3 rfl (Aw J4 rfl) gn rfl<|Aa 4 rfl (Au 0 Rl rfl rfl rfl) gn rfl<|Aa 5 rfl (Dj Xas rfl h32.hq) gn rfl<|Aa 6 rfl (Af rfl) gn rfl<|Aj 7 rfl ?_
   refine Ah rfl<|Ac rfl rfl<|Aa 0 rfl (Ad rfl) gn rfl<|Aa 1 rfl (Ad rfl) gn rfl<|Aa 2 rfl (Bc rfl) gn rfl<|Aa 3 rfl (Aw P9 rfl) gn rfl<|Aa 4 rfl (Aw J4 rfl) gn rfl<|Aa 5 rfl (Au 0 Rl rfl rfl rfl) gn rfl<|Aa 6 rfl (J5 #[.string (⟨#[]⟩:ByteArray),.bool false,.string (⟨#[]⟩:ByteArray),.string (⟨#[]⟩:ByteArray),.int .i64 0] bd_45 rfl (by kernel_rfl)) gn rfl ?_
   refine Cf 7 rfl (Gw (xs:=([(⟨(⟨#[]⟩:ByteArray),false,(⟨#[]⟩:ByteArray),(⟨#[]⟩:ByteArray),0⟩:Ag)]:List Ag)) [.string (⟨#[]⟩:ByteArray),.bool false,.string (⟨#[]⟩:ByteArray),.string (⟨#[]⟩:ByteArray),.int .i64 0] Xg3 rfl (by kernel_rfl) rfl rfl rfl rfl fun gb71 h72=>?_) gn
   obtain ⟨x76,hv77,h⟩:=h
   obtain ⟨hb78,h⟩:=h
   refine Cf 8 rfl (L8 (zs:=x76) (cells':=x76.flatMap Am) 2 ap_22 rfl rfl rfl h32 hz13 (Src.ownF (hl:=Ee) (h1:=Ez) 0 rfl h72) (by rw [hv77,List.flatMap_append] <;> rfl) (Ff hv77 h72.hq) hb78 rfl rfl fun A73 c74 h75=>?_) gn
   refine Aa 9 rfl (Bc rfl) gn rfl<|Aa 10 rfl (Aw P9 rfl) gn rfl<|Aa 11 rfl (Aw J4 rfl) gn rfl ?_
   refine Cf 12 rfl (Fp (vs:=[.slice A73 (n30 + 1) c74]) (cs':=[.slice A25 n26 c27,.int .i64 r23.2.at_,.int .i64 r23.2.end_,.slice A73 (n30 + 1) c74,.slice A34 n35 c36,.int .i64 r23.2.code,.int .i64 r23.2.place]) (M':=[.own (.slice (some ⟨gb71,0,none⟩) 1 1) 45 5 1 (([(⟨(⟨#[]⟩:ByteArray),false,(⟨#[]⟩:ByteArray),(⟨#[]⟩:ByteArray),0⟩:Ag)]:List Ag).flatMap Am),.box g2 Tb3 [.slice A25 n26 c27,.int .i64 r23.2.at_,.int .i64 r23.2.end_,.slice A73 (n30 + 1) c74,.slice A34 n35 c36,.int .i64 r23.2.code,.int .i64 r23.2.place],.own (.slice A73 (n30 + 1) c74) 45 5 (n30 + 1) (x76.flatMap Am),.own (.slice A34 n35 c36) 47 4 n35 (r23.2.q.conds.flatMap Bj)]) 1 sz_22 rfl rfl rfl rfl rfl rfl rfl rfl rfl ?_) gn
   refine Aj 13 rfl<|Ah rfl<|Ac rfl rfl ?_
   refine Cf 0 rfl (Gz [.string (⟨#[]⟩:ByteArray),.bool false,.string (⟨#[]⟩:ByteArray),.string (⟨#[]⟩:ByteArray),.int .i64 0] Xi4 rfl fun gb79=>?_) gn
   refine Aj 1 rfl<|Ah rfl<|Ah rfl ?_
   obtain ⟨hb81,h⟩:=h
   have hns:Region.noSelect (Code.ops q60c23)=true:=by kernel_rfl
   refine Gf [] 12 rfl rfl mix rfl (.c 0 rfl (.c 1 rfl (.c 2 rfl .n)))<|wfv 0 rfl (Ad rfl) gn hns rfl<|wfv 1 rfl (Bc rfl) gn hns rfl<|wfv 2 rfl (Aw Hr rfl) gn hns rfl<|wfv 3 rfl (Au 2 Np rfl rfl rfl) gn hns rfl<|wfv 4 rfl (Ad rfl) gn hns rfl<|wfv 5 rfl (Bc rfl) gn hns rfl<|wfv 6 rfl (Aw Eg rfl) gn hns rfl<|wfv 7 rfl (Au 2 H9 rfl rfl rfl) gn hns rfl ?_
   have hr84:=Rw.readF (s:=Sm w.heap.size F w39 sb43) (hl:=Ei) (h1:=Eh) h28 hb81
   refine wfv 8 rfl (F5 (s:=Sm w.heap.size F w39 sb43) Qj rfl rfl h28 hb81) gn hns rfl<|wfv 9 rfl (Ja Ve rfl) gn hns rfl<|wfv 10 rfl (Hq (kk:=(r23.2.at_:Int).toNat * 4) (j:=0) (Sm w.heap.size F w39 sb43) Xb3 rfl hr84 rfl (me 0 rfl)) gn hns rfl<|wfv 11 rfl (Be rfl rfl rfl) gn hns rfl<|E8 (by kernel_rfl) ?_
   have j1:∀ (x135:List Ak) (x142:Int) (x143:Int) (x144:List Ag) (x149:List Bh) (x154:Int) (x155:Int) (x156:ByteArray) (h:Es r23 rc_query_parser_pattern x135 x142 x143 x144 x149 x154 x155 x156 r) (A136:Option Addr) (n137:Nat) (c138:Nat) (sw139:World) (sb140:List (List Nat)) (h141:At D5 (Sm w.heap.size F sw139 sb140) A136 n137 c138 x135) (A145:Option Addr) (n146:Nat) (c147:Nat) (h148:Ow z12 A145 n146 c147 x144) (A150:Option Addr) (n151:Nat) (c152:Nat) (h153:Ow z18 A150 n151 c152 x149),G (Fa w F g2 Tb3 A8 n9 c10 z12 A14 n15 c16 z18 r) [.code Xji] [(0,.pointer (some ⟨g2,0,none⟩)),(2,.int .i64 (r23.2.q.nodes.length:Int)),(3,.pointer (some ⟨gb79,0,none⟩))] [.own (.slice A145 n146 c147) 45 5 n146 (x144.flatMap Am),.own (.slice A150 n151 c152) 47 4 n151 (x149.flatMap Bj),.box g2 Tb3 [.slice A136 n137 c138,.int .i64 x142,.int .i64 x143,.slice A145 n146 c147,.slice A150 n151 c152,.int .i64 x154,.int .i64 x155],.box gb79 45 [.string (⟨#[]⟩:ByteArray),.bool false,.string x156,.string (⟨#[]⟩:ByteArray),.int .i64 0]] [Sm w.heap.size F sw139 sb140,Sm w.heap.size F w39 sb43,Sm w.heap.size F w [[g2],(Value.slice A8 n9 c10).ownBlock.toList,(Value.slice A14 n15 c16).ownBlock.toList],St w [[g2],(Value.slice A8 n9 c10).ownBlock.toList,(Value.slice A14 n15 c16).ownBlock.toList]]:=by
    intro x135 x142 x143 x144 x149 x154 x155 x156 h A136 n137 c138 sw139 sb140 h141 A145 n146 c147 h148 A150 n151 c152 h153
    unfold Es at h
    refine Ah rfl<|Ah rfl ?_
    have j2:∀ (x169:Bool) (h:Eb x142 x135 r23 x156 x143 x144 x149 x154 x155 rc_query_parser_pattern x169 r) ,G (Fa w F g2 Tb3 A8 n9 c10 z12 A14 n15 c16 z18 r) [.code Xmb,.code Zr] [(0,.pointer (some ⟨g2,0,none⟩)),(2,.int .i64 (r23.2.q.nodes.length:Int)),(3,.pointer (some ⟨gb79,0,none⟩)),(99,.bool x169)] [.own (.slice A145 n146 c147) 45 5 n146 (x144.flatMap Am),.own (.slice A150 n151 c152) 47 4 n151 (x149.flatMap Bj),.box g2 Tb3 [.slice A136 n137 c138,.int .i64 x142,.int .i64 x143,.slice A145 n146 c147,.slice A150 n151 c152,.int .i64 x154,.int .i64 x155],.box gb79 45 [.string (⟨#[]⟩:ByteArray),.bool false,.string x156,.string (⟨#[]⟩:ByteArray),.int .i64 0]] [Sm w.heap.size F sw139 sb140,Sm w.heap.size F w39 sb43,Sm w.heap.size F w [[g2],(Value.slice A8 n9 c10).ownBlock.toList,(Value.slice A14 n15 c16).ownBlock.toList],St w [[g2],(Value.slice A8 n9 c10).ownBlock.toList,(Value.slice A14 n15 c16).ownBlock.toList]]:=by
     intro x169 h
     unfold Eb at h
     have j3:∀ (x613:List Ak) (x620:Int) (x621:Int) (x622:List Ag) (x627:List Bh) (x632:Int) (x633:Int) (x634:ByteArray) (x635:Bool) (x636:Int) (h:E5 r23 x156 x613 x620 x621 x622 x627 x632 x633 x634 x635 x636 r) (A614:Option Addr) (n615:Nat) (c616:Nat) (sw617:World) (sb618:List (List Nat)) (h619:At D5 (Sm w.heap.size F sw617 sb618) A614 n615 c616 x613) (A623:Option Addr) (n624:Nat) (c625:Nat) (h626:Ow z12 A623 n624 c625 x622) (A628:Option Addr) (n629:Nat) (c630:Nat) (h631:Ow z18 A628 n629 c630 x627),G (Fa w F g2 Tb3 A8 n9 c10 z12 A14 n15 c16 z18 r) [.code Zr] [(0,.pointer (some ⟨g2,0,none⟩)),(2,.int .i64 (r23.2.q.nodes.length:Int)),(3,.pointer (some ⟨gb79,0,none⟩))] [.own (.slice A623 n624 c625) 45 5 n624 (x622.flatMap Am),.own (.slice A628 n629 c630) 47 4 n629 (x627.flatMap Bj),.box g2 Tb3 [.slice A614 n615 c616,.int .i64 x620,.int .i64 x621,.slice A623 n624 c625,.slice A628 n629 c630,.int .i64 x632,.int .i64 x633],.box gb79 45 [.string x634,.bool x635,.string x156,.string (⟨#[]⟩:ByteArray),.int .i64 x636]] [Sm w.heap.size F sw617 sb618,Sm w.heap.size F sw139 sb140,Sm w.heap.size F w39 sb43,Sm w.heap.size F w [[g2],(Value.slice A8 n9 c10).ownBlock.toList,(Value.slice A14 n15 c16).ownBlock.toList],St w [[g2],(Value.slice A8 n9 c10).ownBlock.toList,(Value.slice A14 n15 c16).ownBlock.toList]]:=by
      intro x613 x620 x621 x622 x627 x632 x633 x634 x635 x636 h A614 n615 c616 sw617 sb618 h619 A623 n624 c625 h626 A628 n629 c630 h631
      unfold E5 at h
      refine Ah rfl<|Ah rfl ?_
      have j4:∀ (x663:Bool) (x664:List Ak) (x671:Int) (x672:Int) (x673:List Ag) (x678:List Bh) (x683:Int) (x684:Int) (h:Eo r23 x634 x635 x156 x636 x663 x664 x671 x672 x673 x678 x683 x684 r) (A665:Option Addr) (n666:Nat) (c667:Nat) (sw668:World) (sb669:List (List Nat)) (h670:At D5 (Sm w.heap.size F sw668 sb669) A665 n666 c667 x664) (A674:Option Addr) (n675:Nat) (c676:Nat) (h677:Ow z12 A674 n675 c676 x673) (A679:Option Addr) (n680:Nat) (c681:Nat) (h682:Ow z18 A679 n680 c681 x678),G (Fa w F g2 Tb3 A8 n9 c10 z12 A14 n15 c16 z18 r) [.code q60c61,.code Xj9] [(0,.pointer (some ⟨g2,0,none⟩)),(2,.int .i64 (r23.2.q.nodes.length:Int)),(3,.pointer (some ⟨gb79,0,none⟩)),(172,.bool x663)] [.own (.slice A674 n675 c676) 45 5 n675 (x673.flatMap Am),.own (.slice A679 n680 c681) 47 4 n680 (x678.flatMap Bj),.box g2 Tb3 [.slice A665 n666 c667,.int .i64 x671,.int .i64 x672,.slice A674 n675 c676,.slice A679 n680 c681,.int .i64 x683,.int .i64 x684],.box gb79 45 [.string x634,.bool x635,.string x156,.string (⟨#[]⟩:ByteArray),.int .i64 x636]] [Sm w.heap.size F sw668 sb669,Sm w.heap.size F sw617 sb618,Sm w.heap.size F sw139 sb140,Sm w.heap.size F w39 sb43,Sm w.heap.size F w [[g2],(Value.slice A8 n9 c10).ownBlock.toList,(Value.slice A14 n15 c16).ownBlock.toList],St w [[g2],(Value.slice A8 n9 c10).ownBlock.toList,(Value.slice A14 n15 c16).ownBlock.toList]]:=by
       intro x663 x664 x671 x672 x673 x678 x683 x684 h A665 n666 c667 sw668 sb669 h670 A674 n675 c676 h677 A679 n680 c681 h682
       unfold Eo at h
       by_cases hp685:x663=true
       ·have h:=Ap hp685 h
        refine Bz rfl _ rfl (hp685)<|Ah rfl<|Ac rfl rfl<|Aa 0 rfl (Ad rfl) gn rfl<|Aa 1 rfl (Bc rfl) gn rfl<|Aa 2 rfl (Aw Eg rfl) gn rfl<|Aa 3 rfl (Au 2 H9 rfl rfl rfl) gn rfl<|Aa 4 rfl (Be rfl rfl rfl) gn rfl<|Aa 5 rfl (Bc rfl) gn rfl<|Aa 6 rfl (Aw Eg rfl) gn rfl ?_
        refine Cf 7 rfl (Fp (vs:=[.int .i64 (w64 (x671 + 1))]) (cs':=[.slice A665 n666 c667,.int .i64 (w64 (x671 + 1)),.int .i64 x672,.slice A674 n675 c676,.slice A679 n680 c681,.int .i64 x683,.int .i64 x684]) (M':=[.own (.slice A674 n675 c676) 45 5 n675 (x673.flatMap Am),.own (.slice A679 n680 c681) 47 4 n680 (x678.flatMap Bj),.box g2 Tb3 [.slice A665 n666 c667,.int .i64 (w64 (x671 + 1)),.int .i64 x672,.slice A674 n675 c676,.slice A679 n680 c681,.int .i64 x683,.int .i64 x684],.box gb79 45 [.string x634,.bool x635,.string x156,.string (⟨#[]⟩:ByteArray),.int .i64 x636]]) 2 Xar rfl rfl rfl rfl rfl rfl rfl rfl rfl ?_) gn
        refine Aj 8 rfl<|Ah rfl<|Ac rfl rfl<|Aa 0 rfl (Ad rfl) gn rfl<|Aa 1 rfl (Bc rfl) gn rfl<|Aa 2 rfl (Aw Eg rfl) gn rfl<|Aa 3 rfl (Au 2 H9 rfl rfl rfl) gn rfl<|Aa 4 rfl (Af rfl) gn rfl<|Aj 5 rfl<|Ah rfl<|Ac rfl rfl<|Aa 0 rfl (Ad rfl) gn rfl ?_
        obtain ⟨r689,hv690,h⟩:=h
        refine Cf 1 rfl (D8 [.pointer (some ⟨g2,0,none⟩)] rfl Tryd.func89 rfl rfl rfl fun w686 hL687=>?_) gn
        have hp688:=pmI hL687 (.c 2 rfl (.c 0 rfl (.c 1 rfl .n))) (.c 3 rfl .n) (by kernel_rfl)
        refine Calls.mono (Md w686 (Fl ([Sm w.heap.size F sw668 sb669]:List Cc)) (⟨x664,w64 (x671 + 1),x672,(⟨x673,x678⟩:Ar),x683,x684⟩:Ai) g2 Tb3 A665 n666 c667 z12 A674 n675 c676 z18 A679 n680 c681 (Rw.mono h670 (hL687.toFl (me 0 rfl) (me 0 rfl))) (Nat.le_trans hz13 hL687.env.size) h677 (Nat.le_trans hz19 hL687.env.size) h682 (hL687.hFl hp688 (Bi [0] rfl)) (hL687.into hp688 _) r689 hv690) ?_
        rintro _ w705 ⟨A695,n696,c697,A700,n701,c702,A691,n692,c693,rfl,hM706,h698,h703,h694⟩
        obtain ⟨sb709,hL707,hv708⟩:=hL687.callB (Sl:=([Sm w.heap.size F sw668 sb669]:List Cc)) hp688 hM706 F (Bi [0] rfl) ⟨Sm.ok,trivial⟩
        have h694:At D5 (Sm w.heap.size F w705 sb709) A691 n692 c693 r689.2.words:=Rw.mono h694 hv708
        refine ⟨_,_,_,rfl,hL707,?_⟩
        refine Aa 2 rfl (Aw Vp rfl) gn rfl ?_
        refine Cf 3 rfl (Fp (vs:=[.string r689.1]) (cs':=[.string x634,.bool x635,.string x156,.string r689.1,.int .i64 x636]) (M':=[.box g2 Tb3 [.slice A691 n692 c693,.int .i64 r689.2.at_,.int .i64 r689.2.end_,.slice A695 n696 c697,.slice A700 n701 c702,.int .i64 r689.2.code,.int .i64 r689.2.place],.own (.slice A695 n696 c697) 45 5 n696 (r689.2.q.nodes.flatMap Am),.own (.slice A700 n701 c702) 47 4 n701 (r689.2.q.conds.flatMap Bj),.box gb79 45 [.string x634,.bool x635,.string x156,.string r689.1,.int .i64 x636]]) 3 sz_9 rfl rfl rfl rfl rfl rfl rfl rfl rfl ?_) gn
        refine Aj 4 rfl<|Ah rfl ?_
        obtain ⟨r713,hv714,h⟩:=h
        have hns:Region.noSelect (Code.ops q60c70)=true:=by kernel_rfl
        refine Gf [] 8 rfl rfl mix rfl (.c 0 rfl (.c 1 rfl (.c 2 rfl (.c 3 rfl (.c 4 rfl (.c 5 rfl (.c 6 rfl .n)))))))<|wfv 0 rfl (Ad rfl) gn hns rfl<|wfv 1 rfl (Bc rfl) gn hns rfl<|wfv 2 rfl (Aw P9 rfl) gn hns rfl<|wfv 3 rfl (Nj [.slice A695 n696 c697,.slice A700 n701 c702] 0 U4 rfl rfl rfl rfl) gn hns rfl<|wfv 4 rfl (Aw Vp rfl) gn hns rfl<|wfv 5 rfl (Au 3 Ib rfl rfl rfl) gn hns rfl ?_
        refine Cm [6] (by kernel_rfl) rfl ⟨Et 6 rfl gn rfl (D8 [.agg #[.slice A695 n696 c697,.slice A700 n701 c702],.string r689.1] rfl Tryd.func43 rfl rfl rfl fun w736 hL737=>?_),trivial⟩
        have hp738:=pmI hL737 .n (.c 0 rfl (.c 1 rfl (.c 2 rfl (.c 3 rfl .n)))) (by kernel_rfl)
        refine Calls.mono (Jj w736 (Fl ([]:List Cc)) r689.2.q r689.1 A695 n696 c697 A700 n701 c702 (hL737.argO (dk:=Dl) hp738 [] rfl 1 rfl rfl h698 (me 5 rfl) (Cells.flat _)) (hL737.argO (dk:=Gg) hp738 [] rfl 2 rfl rfl h703 (me 5 rfl) (Cells.flat _)) (hL737.hFl hp738 (Bi [] rfl)) (hL737.into hp738 _) r713 hv714) ?_
        rintro _ w739 ⟨rfl,hM740⟩
        have hL741:=hL737.call hp738 hM740
        refine ⟨_,_,_,rfl,hL741,?_⟩
        refine ⟨Bi [0,1,2,3] rfl,Bi [0,1,2,3,4,5,6] rfl,?_⟩
        refine wfv 7 rfl (Be rfl rfl rfl) gn hns rfl<|E8 (by kernel_rfl) ?_
        by_cases hp742:r713≥0
        ·have h:=Ap hp742 h
         refine Bz rfl _ rfl ((decide_eq_true hp742))<|Ac rfl rfl<|Aa 0 rfl (Ad rfl) gn rfl<|Aa 1 rfl (Ad rfl) gn rfl ?_
         obtain ⟨r746,hv747,h⟩:=h
         refine Cf 2 rfl (D8 [.pointer (some ⟨g2,0,none⟩),.int .i64 201,.int .i64 (w64 (x671 + 1))] rfl Tryd.func88 rfl rfl rfl fun w743 hL744=>?_) gn
         have hp745:=pmI hL744 (.c 0 rfl (.c 1 rfl (.c 2 rfl .n))) (.c 3 rfl .n) (by kernel_rfl)
         refine Calls.mono (G7 w743 (Fl ([Sm w.heap.size F w705 sb709]:List Cc)) r689.2 201 (w64 (x671 + 1)) g2 Tb3 A691 n692 c693 z12 A695 n696 c697 z18 A700 n701 c702 (Rw.mono h694 (hL744.toFl (me 0 rfl) (me 0 rfl))) (Nat.le_trans hz13 hL744.env.size) h698 (Nat.le_trans hz19 hL744.env.size) h703 (hL744.hFl hp745 (Bi [0] rfl)) (hL744.into hp745 _) r746 hv747) ?_
         rintro _ w762 ⟨A752,n753,c754,A757,n758,c759,A748,n749,c750,rfl,hM763,h755,h760,h751⟩
         obtain ⟨sb766,hL764,hv765⟩:=hL744.callB (Sl:=([Sm w.heap.size F w705 sb709]:List Cc)) hp745 hM763 F (Bi [0] rfl) ⟨Sm.ok,trivial⟩
         have h751:At D5 (Sm w.heap.size F w762 sb766) A748 n749 c750 r746.words:=Rw.mono h751 hv765
         refine ⟨_,_,_,rfl,hL764,?_⟩
         refine Aj 3 rfl ?_
         obtain ⟨hb767,h⟩:=h
         obtain ⟨x768,hv769,h⟩:=h
         have hns:Region.noSelect (Code.ops Xj9)=true:=by kernel_rfl
         refine Gf [8] 9 rfl rfl mix rfl (.c 0 rfl (.c 1 rfl (.c 2 rfl (.c 3 rfl (.c 4 rfl (.c 5 rfl (.c 6 rfl (.c 7 rfl .n))))))))<|wfv 0 rfl (Ad rfl) gn hns (by kernel_rfl)<|wfv 1 rfl (Bc rfl) gn hns (by kernel_rfl)<|wfv 2 rfl (Aw P9 rfl) gn hns (by kernel_rfl)<|wfv 3 rfl (Aw J4 rfl) gn hns (by kernel_rfl)<|wfv 4 rfl (Au 0 Rl rfl rfl rfl) gn hns (by kernel_rfl)<|wfv 5 rfl (Ad rfl) gn hns (by kernel_rfl)<|wfv 6 rfl (Nj [.string x634,.bool x635,.string x156,.string r689.1,.int .i64 x636] 3 Xav rfl rfl rfl rfl) gn hns (by kernel_rfl)<|wfv 7 rfl (Fj U7 rfl rfl h755 hb767) gn hns (by kernel_rfl) ?_
         refine Cm [8] (by kernel_rfl) rfl ⟨Q7 8 rfl gn rfl (Ua (enc:=Am) (o:=0) (z:=(⟨x634,x635,x156,r689.1,x636⟩:Ag)) (vs:=[.string x634,.bool x635,.string x156,.string r689.1,.int .i64 x636]) (i:=(r23.2.q.nodes.length:Int)) 1 Ee Xfj rfl rfl rfl rfl rfl h755 hb767 rfl rfl rfl hv769 fun h772=>?_),trivial⟩
         unfold NxL
         refine E8 (by kernel_rfl) ?_
         refine Xr [] Tryd.func60 rfl (.nil) fun wr hLr=>?_
         have hMr:=hLr.pkI (.c 0 rfl (.c 1 rfl (.c 2 rfl .n))) (.c 3 rfl .n) (by kernel_rfl) (.c 7 rfl .n)
         have hMi:=hLr.selI (.c 0 rfl (.c 1 rfl (.c 2 rfl .n)))
         show Gm w F g2 Tb3 A8 n9 c10 z12 A14 n15 c16 z18 r (.returned (Ci [])) wr
         rw [h]
         exact ⟨A752,n753,c754,A757,n758,c759,A748,n749,c750,rfl,hMr,h772,h760,(hLr.outR (s:=Sm w.heap.size F w762 sb766) hMi (me 0 rfl) Sm.ok h751)⟩
        ·have h:=Aq hp742 h
         refine Bg rfl _ rfl ((decide_eq_false hp742))<|Cb rfl ?_
         obtain ⟨hb773,h⟩:=h
         obtain ⟨x774,hv775,h⟩:=h
         have hns:Region.noSelect (Code.ops Xj9)=true:=by kernel_rfl
         refine Gf [8] 9 rfl rfl mix rfl (.c 0 rfl (.c 1 rfl (.c 2 rfl (.c 3 rfl (.c 4 rfl (.c 5 rfl (.c 6 rfl .n)))))))<|wfv 0 rfl (Ad rfl) gn hns (by kernel_rfl)<|wfv 1 rfl (Bc rfl) gn hns (by kernel_rfl)<|wfv 2 rfl (Aw P9 rfl) gn hns (by kernel_rfl)<|wfv 3 rfl (Aw J4 rfl) gn hns (by kernel_rfl)<|wfv 4 rfl (Au 0 Rl rfl rfl rfl) gn hns (by kernel_rfl)<|wfv 5 rfl (Ad rfl) gn hns (by kernel_rfl)<|wfv 6 rfl (Nj [.string x634,.bool x635,.string x156,.string r689.1,.int .i64 x636] 3 Xav rfl rfl rfl rfl) gn hns (by kernel_rfl)<|wfv 7 rfl (Fj U7 rfl rfl h698 hb773) gn hns (by kernel_rfl) ?_
         refine Cm [8] (by kernel_rfl) rfl ⟨Q7 8 rfl gn rfl (Ua (enc:=Am) (o:=0) (z:=(⟨x634,x635,x156,r689.1,x636⟩:Ag)) (vs:=[.string x634,.bool x635,.string x156,.string r689.1,.int .i64 x636]) (i:=(r23.2.q.nodes.length:Int)) 1 Ee Xfj rfl rfl rfl rfl rfl h698 hb773 rfl rfl rfl hv775 fun h778=>?_),trivial⟩
         unfold NxL
         refine E8 (by kernel_rfl) ?_
         refine Xr [] Tryd.func60 rfl (.nil) fun wr hLr=>?_
         have hMr:=hLr.pkI (.c 0 rfl (.c 1 rfl (.c 2 rfl .n))) (.c 3 rfl .n) (by kernel_rfl) (.c 6 rfl .n)
         have hMi:=hLr.selI (.c 0 rfl (.c 1 rfl (.c 2 rfl .n)))
         show Gm w F g2 Tb3 A8 n9 c10 z12 A14 n15 c16 z18 r (.returned (Ci [])) wr
         rw [h]
         exact ⟨A695,n696,c697,A700,n701,c702,A691,n692,c693,rfl,hMr,h778,h703,(hLr.outR (s:=Sm w.heap.size F w705 sb709) hMi (me 0 rfl) Sm.ok h694)⟩
       ·have h:=Aq hp685 h
        refine Bg rfl _ rfl ((bf hp685))<|Cb rfl ?_
        obtain ⟨hb779,h⟩:=h
        obtain ⟨x780,hv781,h⟩:=h
        have hns:Region.noSelect (Code.ops Xj9)=true:=by kernel_rfl
        refine Gf [8] 9 rfl rfl mix rfl (.c 0 rfl (.c 1 rfl (.c 2 rfl (.c 3 rfl (.c 4 rfl (.c 5 rfl .n))))))<|wfv 0 rfl (Ad rfl) gn hns (by kernel_rfl)<|wfv 1 rfl (Bc rfl) gn hns (by kernel_rfl)<|wfv 2 rfl (Aw P9 rfl) gn hns (by kernel_rfl)<|wfv 3 rfl (Aw J4 rfl) gn hns (by kernel_rfl)<|wfv 4 rfl (Au 2 Rl rfl rfl rfl) gn hns (by kernel_rfl)<|wfv 5 rfl (Ad rfl) gn hns (by kernel_rfl)<|wfv 6 rfl (Nj [.string x634,.bool x635,.string x156,.string (⟨#[]⟩:ByteArray),.int .i64 x636] 3 Xav rfl rfl rfl rfl) gn hns (by kernel_rfl)<|wfv 7 rfl (Fj U7 rfl rfl h677 hb779) gn hns (by kernel_rfl) ?_
        refine Cm [8] (by kernel_rfl) rfl ⟨Q7 8 rfl gn rfl (Ua (enc:=Am) (o:=0) (z:=(⟨x634,x635,x156,(⟨#[]⟩:ByteArray),x636⟩:Ag)) (vs:=[.string x634,.bool x635,.string x156,.string (⟨#[]⟩:ByteArray),.int .i64 x636]) (i:=(r23.2.q.nodes.length:Int)) 0 Ee Xfj rfl rfl rfl rfl rfl h677 hb779 rfl rfl rfl hv781 fun h784=>?_),trivial⟩
        unfold NxL
        refine E8 (by kernel_rfl) ?_
        refine Xr [] Tryd.func60 rfl (.nil) fun wr hLr=>?_
        have hMr:=hLr.pkI (.c 2 rfl (.c 0 rfl (.c 1 rfl .n))) (.c 3 rfl .n) (by kernel_rfl) (.c 5 rfl .n)
        have hMi:=hLr.selI (.c 2 rfl (.c 0 rfl (.c 1 rfl .n)))
        show Gm w F g2 Tb3 A8 n9 c10 z12 A14 n15 c16 z18 r (.returned (Ci [])) wr
        rw [h]
        exact ⟨A674,n675,c676,A679,n680,c681,A665,n666,c667,rfl,hMr,h784,h682,(hLr.outR (s:=Sm w.heap.size F sw668 sb669) hMi (me 0 rfl) Sm.ok h670)⟩
      refine Ac rfl rfl<|Aa 0 rfl (Ad rfl) gn rfl<|Aa 1 rfl (Bc rfl) gn rfl<|Aa 2 rfl (Aw Ql rfl) gn rfl<|Aa 3 rfl (Au 2 Z4 rfl rfl rfl) gn rfl<|Aa 4 rfl (Be rfl rfl rfl) gn rfl<|Aa 5 rfl (Ad rfl) gn rfl ?_
      by_cases hp785:x632=0
      ·have h:=Ap hp785 h
       refine Bv 165 rfl ((eqi hp785))<|Aa 6 rfl (Ad rfl) (gy 165 rfl rfl) rfl<|Aa 7 rfl (Ad rfl) (gy 165 rfl rfl) rfl<|Aa 8 rfl (Bc rfl) (gy 165 rfl rfl) rfl<|Aa 9 rfl (Aw Eg rfl) (gy 165 rfl rfl) rfl<|Aa 10 rfl (Au 2 H9 rfl rfl rfl) (gy 165 rfl rfl) rfl ?_
       obtain ⟨r789,hv790,h⟩:=h
       refine Cf 11 rfl (D8 [.pointer (some ⟨g2,0,none⟩),.int .i64 x620,.int .i64 5,.string (⟨#[64]⟩:ByteArray)] rfl Tryd.func91 rfl rfl rfl fun w786 hL787=>?_) (gy 165 rfl rfl)
       have hp788:=pmI hL787 (.c 2 rfl (.c 0 rfl (.c 1 rfl .n))) (.c 3 rfl .n) (by kernel_rfl)
       refine Calls.mono (H6 w786 (Fl ([Sm w.heap.size F sw617 sb618]:List Cc)) (⟨x613,x620,x621,(⟨x622,x627⟩:Ar),x632,x633⟩:Ai) x620 5 (⟨#[64]⟩:ByteArray) g2 Tb3 A614 n615 c616 z12 A623 n624 c625 z18 A628 n629 c630 (Rw.mono h619 (hL787.toFl (me 0 rfl) (me 0 rfl))) (Nat.le_trans hz13 hL787.env.size) h626 (Nat.le_trans hz19 hL787.env.size) h631 (hL787.hFl hp788 (Bi [0] rfl)) (hL787.into hp788 _) r789 hv790) ?_
       rintro _ w805 ⟨A795,n796,c797,A800,n801,c802,A791,n792,c793,rfl,hM806,h798,h803,h794⟩
       obtain ⟨sb809,hL807,hv808⟩:=hL787.callB (Sl:=([Sm w.heap.size F sw617 sb618]:List Cc)) hp788 hM806 F (Bi [0] rfl) ⟨Sm.ok,trivial⟩
       have h794:At D5 (Sm w.heap.size F w805 sb809) A791 n792 c793 r789.2.words:=Rw.mono h794 hv808
       refine ⟨_,_,_,rfl,hL807,?_⟩
       refine Aa 12 rfl (Bd (b:=true) rfl rfl) gn rfl<|Aj 13 rfl<|Ba 3 rfl<|Ba 1 rfl<|Ba 3 rfl<|Ba 3 rfl ?_
       exact Dc [0,1,2,3,4,5] (j4 r789.1 r789.2.words r789.2.at_ r789.2.end_ r789.2.q.nodes r789.2.q.conds r789.2.code r789.2.place h A791 n792 c793 w805 sb809 h794 A795 n796 c797 h798 A800 n801 c802 h803) ⟨rfl,rfl,rfl,rfl,trivial⟩ (.cons_cons _ (.cons_cons _ (.cons_cons _ (.cons_cons _ (.slnil))))) rfl
      ·have h:=Aq hp785 h
       refine Bv 165 rfl ((nei hp785))<|Ae 6 rfl (ps 165 rfl rfl rfl)<|Ae 7 rfl (ps 165 rfl rfl rfl)<|Ae 8 rfl (ps 165 rfl rfl rfl)<|Ae 9 rfl (ps 165 rfl rfl rfl)<|Ae 10 rfl (ps 165 rfl rfl rfl)<|Ae 11 rfl (ps 165 rfl rfl rfl)<|Aa 12 rfl (Bd (b:=false) rfl rfl) gn rfl<|Aj 13 rfl ?_
       exact Dc [0,0,1,2,3,4] (j4 false x613 x620 x621 x622 x627 x632 x633 h A614 n615 c616 sw617 sb618 h619 A623 n624 c625 h626 A628 n629 c630 h631) ⟨rfl,rfl,rfl,rfl,trivial⟩ (.cons_cons _ (.cons_cons _ (.cons_cons _ (.cons_cons _ (.slnil))))) rfl
     by_cases hp170:x169=true
     ·have h:=Ap hp170 h
      refine Bz rfl _ rfl (hp170)<|Ah rfl ?_
      obtain ⟨hb810,h⟩:=h
      have hns:Region.noSelect (Code.ops q60c35)=true:=by kernel_rfl
      refine Vu [.own (.slice A145 n146 c147) 45 5 n146 (x144.flatMap Am),.own (.slice A150 n151 c152) 47 4 n151 (x149.flatMap Bj),.box g2 Tb3 [.slice A136 n137 c138,.int .i64 x142,.int .i64 x143,.slice A145 n146 c147,.slice A150 n151 c152,.int .i64 x154,.int .i64 x155]] [Sm w.heap.size F sw139 sb140,Sm w.heap.size F w39 sb43,Sm w.heap.size F w [[g2],(Value.slice A8 n9 c10).ownBlock.toList,(Value.slice A14 n15 c16).ownBlock.toList],St w [[g2],(Value.slice A8 n9 c10).ownBlock.toList,(Value.slice A14 n15 c16).ownBlock.toList]] [] 15 rfl rfl mix rfl (.cons_cons _ (.cons_cons _ (.cons_cons _ (.cons _ (.slnil))))) (Bi [0,1,2,3] rfl)<|wfv 0 rfl (Ad rfl) gn hns rfl<|wfv 1 rfl (Bc rfl) gn hns rfl<|wfv 2 rfl (Aw Hr rfl) gn hns rfl<|wfv 3 rfl (Au 2 Np rfl rfl rfl) gn hns rfl<|wfv 4 rfl (Ad rfl) gn hns rfl<|wfv 5 rfl (Bc rfl) gn hns rfl<|wfv 6 rfl (Aw Eg rfl) gn hns rfl<|wfv 7 rfl (Au 2 H9 rfl rfl rfl) gn hns rfl ?_
      have hr813:=Rw.readF (s:=Sm w.heap.size F sw139 sb140) (hl:=Ei) (h1:=Eh) h141 hb810
      refine wfv 8 rfl (F5 (s:=Sm w.heap.size F sw139 sb140) Qj rfl rfl h141 hb810) gn hns rfl<|wfv 9 rfl (Ja Kt rfl) gn hns rfl<|wfv 10 rfl (Hq (kk:=(x142:Int).toNat * 4) (j:=1) (Sm w.heap.size F sw139 sb140) Ib rfl hr813 rfl (me 0 rfl)) gn hns rfl<|wfv 11 rfl (Aw Zl rfl) gn hns rfl ?_
      refine Cm [12] (by kernel_rfl) rfl ⟨Et 12 rfl gn rfl (Fp (vs:=[.bool true]) (cs':=[.string (⟨#[]⟩:ByteArray),.bool true,.string x156,.string (⟨#[]⟩:ByteArray),.int .i64 0]) (M':=[.own (.slice A145 n146 c147) 45 5 n146 (x144.flatMap Am),.own (.slice A150 n151 c152) 47 4 n151 (x149.flatMap Bj),.box g2 Tb3 [.slice A136 n137 c138,.int .i64 x142,.int .i64 x143,.slice A145 n146 c147,.slice A150 n151 c152,.int .i64 x154,.int .i64 x155],.box gb79 45 [.string (⟨#[]⟩:ByteArray),.bool true,.string x156,.string (⟨#[]⟩:ByteArray),.int .i64 0]]) 3 Xcx rfl rfl rfl rfl rfl rfl rfl rfl rfl ?_),trivial⟩
      refine ⟨Bi [0,1,2] rfl,Bi [0,1,2,3] rfl,?_⟩
      refine wfv 13 rfl (Aw Vt rfl) gn hns rfl ?_
      refine Cm [14] (by kernel_rfl) rfl ⟨Et 14 rfl gn rfl (Fp (vs:=[.string ((ix x135 x142).text)]) (cs':=[.string ((ix x135 x142).text),.bool true,.string x156,.string (⟨#[]⟩:ByteArray),.int .i64 0]) (M':=[.own (.slice A145 n146 c147) 45 5 n146 (x144.flatMap Am),.own (.slice A150 n151 c152) 47 4 n151 (x149.flatMap Bj),.box g2 Tb3 [.slice A136 n137 c138,.int .i64 x142,.int .i64 x143,.slice A145 n146 c147,.slice A150 n151 c152,.int .i64 x154,.int .i64 x155],.box gb79 45 [.string ((ix x135 x142).text),.bool true,.string x156,.string (⟨#[]⟩:ByteArray),.int .i64 0]]) 3 sz_9 rfl rfl rfl rfl rfl rfl rfl rfl rfl ?_),trivial⟩
      refine ⟨Bi [0,1,2] rfl,Bi [0,1,2,3] rfl,?_⟩
      refine E8 (by kernel_rfl)<|Ac rfl rfl<|Aa 0 rfl (Ad rfl) gn rfl<|Aa 1 rfl (Bc rfl) gn rfl<|Aa 2 rfl (Aw Eg rfl) gn rfl<|Aa 3 rfl (Au 2 H9 rfl rfl rfl) gn rfl<|Aa 4 rfl (Be rfl rfl rfl) gn rfl<|Aa 5 rfl (Bc rfl) gn rfl<|Aa 6 rfl (Aw Eg rfl) gn rfl ?_
      refine Cf 7 rfl (Fp (vs:=[.int .i64 (w64 (x142 + 1))]) (cs':=[.slice A136 n137 c138,.int .i64 (w64 (x142 + 1)),.int .i64 x143,.slice A145 n146 c147,.slice A150 n151 c152,.int .i64 x154,.int .i64 x155]) (M':=[.own (.slice A145 n146 c147) 45 5 n146 (x144.flatMap Am),.own (.slice A150 n151 c152) 47 4 n151 (x149.flatMap Bj),.box g2 Tb3 [.slice A136 n137 c138,.int .i64 (w64 (x142 + 1)),.int .i64 x143,.slice A145 n146 c147,.slice A150 n151 c152,.int .i64 x154,.int .i64 x155],.box gb79 45 [.string ((ix x135 x142).text),.bool true,.string x156,.string (⟨#[]⟩:ByteArray),.int .i64 0]]) 2 Xar rfl rfl rfl rfl rfl rfl rfl rfl rfl ?_) gn
      refine Aj 8 rfl ?_
      exact Dc [0,0,1,2,3] (j3 x135 (w64 (x142 + 1)) x143 x144 x149 x154 x155 ((ix x135 x142).text) true 0 h A136 n137 c138 sw139 sb140 h141 A145 n146 c147 h148 A150 n151 c152 h153) ⟨rfl,rfl,rfl,trivial⟩ (.cons_cons _ (.cons_cons _ (.cons_cons _ (.cons_cons _ (.slnil))))) rfl
     ·have h:=Aq hp170 h
      refine Bg rfl _ rfl ((bf hp170))<|Ah rfl<|Ac rfl rfl<|Aa 0 rfl (Ad rfl) gn rfl ?_
      obtain ⟨r817,hv818,h⟩:=h
      refine Cf 1 rfl (D8 [.pointer (some ⟨g2,0,none⟩),.string (⟨#[40]⟩:ByteArray)] rfl Tryd.func90 rfl rfl rfl fun w814 hL815=>?_) gn
      have hp816:=pmI hL815 (.c 2 rfl (.c 0 rfl (.c 1 rfl .n))) (.c 3 rfl .n) (by kernel_rfl)
      refine Calls.mono (Ie w814 (Fl ([Sm w.heap.size F sw139 sb140]:List Cc)) (⟨x135,x142,x143,(⟨x144,x149⟩:Ar),x154,x155⟩:Ai) (⟨#[40]⟩:ByteArray) g2 Tb3 A136 n137 c138 z12 A145 n146 c147 z18 A150 n151 c152 (Rw.mono h141 (hL815.toFl (me 0 rfl) (me 0 rfl))) (Nat.le_trans hz13 hL815.env.size) h148 (Nat.le_trans hz19 hL815.env.size) h153 (hL815.hFl hp816 (Bi [0] rfl)) (hL815.into hp816 _) r817 hv818) ?_
      rintro _ w833 ⟨A823,n824,c825,A828,n829,c830,A819,n820,c821,rfl,hM834,h826,h831,h822⟩
      obtain ⟨sb837,hL835,hv836⟩:=hL815.callB (Sl:=([Sm w.heap.size F sw139 sb140]:List Cc)) hp816 hM834 F (Bi [0] rfl) ⟨Sm.ok,trivial⟩
      have h822:At D5 (Sm w.heap.size F w833 sb837) A819 n820 c821 r817.words:=Rw.mono h822 hv836
      refine ⟨_,_,_,rfl,hL835,?_⟩
      refine Aj 2 rfl<|Ah rfl<|Ah rfl<|Ac rfl rfl<|Aa 0 rfl (Ad rfl) gn rfl<|Aa 1 rfl (Ad rfl) gn rfl<|Aa 2 rfl (Bc rfl) gn rfl<|Aa 3 rfl (Aw Eg rfl) gn rfl<|Aa 4 rfl (Au 0 H9 rfl rfl rfl) gn rfl ?_
      obtain ⟨r841,hv842,h⟩:=h
      refine Cf 5 rfl (D8 [.pointer (some ⟨g2,0,none⟩),.int .i64 r817.at_,.int .i64 1,.string (⟨#[95]⟩:ByteArray)] rfl Tryd.func91 rfl rfl rfl fun w838 hL839=>?_) gn
      have hp840:=pmI hL839 (.c 0 rfl (.c 1 rfl (.c 2 rfl .n))) (.c 3 rfl .n) (by kernel_rfl)
      refine Calls.mono (H6 w838 (Fl ([Sm w.heap.size F w833 sb837]:List Cc)) r817 r817.at_ 1 (⟨#[95]⟩:ByteArray) g2 Tb3 A819 n820 c821 z12 A823 n824 c825 z18 A828 n829 c830 (Rw.mono h822 (hL839.toFl (me 0 rfl) (me 0 rfl))) (Nat.le_trans hz13 hL839.env.size) h826 (Nat.le_trans hz19 hL839.env.size) h831 (hL839.hFl hp840 (Bi [0] rfl)) (hL839.into hp840 _) r841 hv842) ?_
      rintro _ w857 ⟨A847,n848,c849,A852,n853,c854,A843,n844,c845,rfl,hM858,h850,h855,h846⟩
      obtain ⟨sb861,hL859,hv860⟩:=hL839.callB (Sl:=([Sm w.heap.size F w833 sb837]:List Cc)) hp840 hM858 F (Bi [0] rfl) ⟨Sm.ok,trivial⟩
      have h846:At D5 (Sm w.heap.size F w857 sb861) A843 n844 c845 r841.2.words:=Rw.mono h846 hv860
      refine ⟨_,_,_,rfl,hL859,?_⟩
      refine Aj 6 rfl ?_
      have j5:∀ (x888:List Ak) (x895:Int) (x896:Int) (x897:List Ag) (x902:List Bh) (x907:Int) (x908:Int) (x909:ByteArray) (h:Ef r23 x156 rc_query_parser_pattern x888 x895 x896 x897 x902 x907 x908 x909 r) (A889:Option Addr) (n890:Nat) (c891:Nat) (sw892:World) (sb893:List (List Nat)) (h894:At D5 (Sm w.heap.size F sw892 sb893) A889 n890 c891 x888) (A898:Option Addr) (n899:Nat) (c900:Nat) (h901:Ow z12 A898 n899 c900 x897) (A903:Option Addr) (n904:Nat) (c905:Nat) (h906:Ow z18 A903 n904 c905 x902),G (Fa w F g2 Tb3 A8 n9 c10 z12 A14 n15 c16 z18 r) [.code Xlv,.code Zr] [(0,.pointer (some ⟨g2,0,none⟩)),(2,.int .i64 (r23.2.q.nodes.length:Int)),(3,.pointer (some ⟨gb79,0,none⟩))] [.own (.slice A898 n899 c900) 45 5 n899 (x897.flatMap Am),.own (.slice A903 n904 c905) 47 4 n904 (x902.flatMap Bj),.box g2 Tb3 [.slice A889 n890 c891,.int .i64 x895,.int .i64 x896,.slice A898 n899 c900,.slice A903 n904 c905,.int .i64 x907,.int .i64 x908],.box gb79 45 [.string x909,.bool false,.string x156,.string (⟨#[]⟩:ByteArray),.int .i64 0]] [Sm w.heap.size F sw892 sb893,Sm w.heap.size F w857 sb861,Sm w.heap.size F w833 sb837,Sm w.heap.size F sw139 sb140,Sm w.heap.size F w39 sb43,Sm w.heap.size F w [[g2],(Value.slice A8 n9 c10).ownBlock.toList,(Value.slice A14 n15 c16).ownBlock.toList],St w [[g2],(Value.slice A8 n9 c10).ownBlock.toList,(Value.slice A14 n15 c16).ownBlock.toList]]:=by
       intro x888 x895 x896 x897 x902 x907 x908 x909 h A889 n890 c891 sw892 sb893 h894 A898 n899 c900 h901 A903 n904 c905 h906
       unfold Ef at h
       refine Ah rfl<|Df rfl<|Io rfl ?_
       have key6:∀ s,Bl (fun (s:(List Ak) × Int × Int × (List Ag) × (List Bh) × Int × Int × Int) o=>Dk r23 x156 x909 rc_query_parser_pattern s.1 s.2.1 s.2.2.1 s.2.2.2.1 s.2.2.2.2.1 s.2.2.2.2.2.1 s.2.2.2.2.2.2.1 s.2.2.2.2.2.2.2 o) s r→(fun (s:(List Ak) × Int × Int × (List Ag) × (List Bh) × Int × Int × Int)=>∀ (A1014:Option Addr) (n1015:Nat) (c1016:Nat) (sw1017:World) (sb1018:List (List Nat)) (h1019:At D5 (Sm w.heap.size F sw1017 sb1018) A1014 n1015 c1016 s.1) (A1023:Option Addr) (n1024:Nat) (c1025:Nat) (h1026:Ow z12 A1023 n1024 c1025 s.2.2.2.1) (A1028:Option Addr) (n1029:Nat) (c1030:Nat) (h1031:Ow z18 A1028 n1029 c1030 s.2.2.2.2.1),G (Fa w F g2 Tb3 A8 n9 c10 z12 A14 n15 c16 z18 r) [.code Xf1,.inLoop Xf1,.inBlock 0,.code Xgl,.code Zr] [(0,.pointer (some ⟨g2,0,none⟩)),(2,.int .i64 (r23.2.q.nodes.length:Int)),(3,.pointer (some ⟨gb79,0,none⟩))] [.own (.slice A1023 n1024 c1025) 45 5 n1024 (s.2.2.2.1.flatMap Am),.own (.slice A1028 n1029 c1030) 47 4 n1029 (s.2.2.2.2.1.flatMap Bj),.box g2 Tb3 [.slice A1014 n1015 c1016,.int .i64 s.2.1,.int .i64 s.2.2.1,.slice A1023 n1024 c1025,.slice A1028 n1029 c1030,.int .i64 s.2.2.2.2.2.1,.int .i64 s.2.2.2.2.2.2.1],.box gb79 45 [.string x909,.bool false,.string x156,.string (⟨#[]⟩:ByteArray),.int .i64 s.2.2.2.2.2.2.2]] [Sm w.heap.size F sw1017 sb1018,Sm w.heap.size F sw892 sb893,Sm w.heap.size F w857 sb861,Sm w.heap.size F w833 sb837,Sm w.heap.size F sw139 sb140,Sm w.heap.size F w39 sb43,Sm w.heap.size F w [[g2],(Value.slice A8 n9 c10).ownBlock.toList,(Value.slice A14 n15 c16).ownBlock.toList],St w [[g2],(Value.slice A8 n9 c10).ownBlock.toList,(Value.slice A14 n15 c16).ownBlock.toList]]) s:=by
        intro s hs
        refine Bl.ind (mot:=(fun (s:(List Ak) × Int × Int × (List Ag) × (List Bh) × Int × Int × Int)=>∀ (A1014:Option Addr) (n1015:Nat) (c1016:Nat) (sw1017:World) (sb1018:List (List Nat)) (h1019:At D5 (Sm w.heap.size F sw1017 sb1018) A1014 n1015 c1016 s.1) (A1023:Option Addr) (n1024:Nat) (c1025:Nat) (h1026:Ow z12 A1023 n1024 c1025 s.2.2.2.1) (A1028:Option Addr) (n1029:Nat) (c1030:Nat) (h1031:Ow z18 A1028 n1029 c1030 s.2.2.2.2.1),G (Fa w F g2 Tb3 A8 n9 c10 z12 A14 n15 c16 z18 r) [.code Xf1,.inLoop Xf1,.inBlock 0,.code Xgl,.code Zr] [(0,.pointer (some ⟨g2,0,none⟩)),(2,.int .i64 (r23.2.q.nodes.length:Int)),(3,.pointer (some ⟨gb79,0,none⟩))] [.own (.slice A1023 n1024 c1025) 45 5 n1024 (s.2.2.2.1.flatMap Am),.own (.slice A1028 n1029 c1030) 47 4 n1029 (s.2.2.2.2.1.flatMap Bj),.box g2 Tb3 [.slice A1014 n1015 c1016,.int .i64 s.2.1,.int .i64 s.2.2.1,.slice A1023 n1024 c1025,.slice A1028 n1029 c1030,.int .i64 s.2.2.2.2.2.1,.int .i64 s.2.2.2.2.2.2.1],.box gb79 45 [.string x909,.bool false,.string x156,.string (⟨#[]⟩:ByteArray),.int .i64 s.2.2.2.2.2.2.2]] [Sm w.heap.size F sw1017 sb1018,Sm w.heap.size F sw892 sb893,Sm w.heap.size F w857 sb861,Sm w.heap.size F w833 sb837,Sm w.heap.size F sw139 sb140,Sm w.heap.size F w39 sb43,Sm w.heap.size F w [[g2],(Value.slice A8 n9 c10).ownBlock.toList,(Value.slice A14 n15 c16).ownBlock.toList],St w [[g2],(Value.slice A8 n9 c10).ownBlock.toList,(Value.slice A14 n15 c16).ownBlock.toList]])) ?_ hs
        clear hs s
        intro s o1 h hO1
        obtain ⟨x1013,x1020,x1021,x1022,x1027,x1032,x1033,x1034⟩:=s
        show ∀ (A1014:Option Addr) (n1015:Nat) (c1016:Nat) (sw1017:World) (sb1018:List (List Nat)) (h1019:At D5 (Sm w.heap.size F sw1017 sb1018) A1014 n1015 c1016 x1013) (A1023:Option Addr) (n1024:Nat) (c1025:Nat) (h1026:Ow z12 A1023 n1024 c1025 x1022) (A1028:Option Addr) (n1029:Nat) (c1030:Nat) (h1031:Ow z18 A1028 n1029 c1030 x1027),G (Fa w F g2 Tb3 A8 n9 c10 z12 A14 n15 c16 z18 r) [.code Xf1,.inLoop Xf1,.inBlock 0,.code Xgl,.code Zr] [(0,.pointer (some ⟨g2,0,none⟩)),(2,.int .i64 (r23.2.q.nodes.length:Int)),(3,.pointer (some ⟨gb79,0,none⟩))] [.own (.slice A1023 n1024 c1025) 45 5 n1024 (x1022.flatMap Am),.own (.slice A1028 n1029 c1030) 47 4 n1029 (x1027.flatMap Bj),.box g2 Tb3 [.slice A1014 n1015 c1016,.int .i64 x1020,.int .i64 x1021,.slice A1023 n1024 c1025,.slice A1028 n1029 c1030,.int .i64 x1032,.int .i64 x1033],.box gb79 45 [.string x909,.bool false,.string x156,.string (⟨#[]⟩:ByteArray),.int .i64 x1034]] [Sm w.heap.size F sw1017 sb1018,Sm w.heap.size F sw892 sb893,Sm w.heap.size F w857 sb861,Sm w.heap.size F w833 sb837,Sm w.heap.size F sw139 sb140,Sm w.heap.size F w39 sb43,Sm w.heap.size F w [[g2],(Value.slice A8 n9 c10).ownBlock.toList,(Value.slice A14 n15 c16).ownBlock.toList],St w [[g2],(Value.slice A8 n9 c10).ownBlock.toList,(Value.slice A14 n15 c16).ownBlock.toList]]
        intro A1014 n1015 c1016 sw1017 sb1018 h1019 A1023 n1024 c1025 h1026 A1028 n1029 c1030 h1031
        have h:Dk r23 x156 x909 rc_query_parser_pattern x1013 x1020 x1021 x1022 x1027 x1032 x1033 x1034 o1:=h
        unfold Dk at h
        refine Ah rfl<|Ah rfl<|Ac rfl rfl<|Aa 0 rfl (Ad rfl) gn rfl<|Aa 1 rfl (Bc rfl) gn rfl<|Aa 2 rfl (Aw Ql rfl) gn rfl<|Aa 3 rfl (Au 2 Z4 rfl rfl rfl) gn rfl<|Aa 4 rfl (Be rfl rfl rfl) gn rfl<|Aa 5 rfl (Ad rfl) gn rfl ?_
        by_cases hp1137:x1032=0
        ·have h:=Ap hp1137 h
         refine Bv 143 rfl ((eqi hp1137))<|Aa 6 rfl (Ad rfl) (gy 143 rfl rfl) rfl<|Aa 7 rfl (Ad rfl) (gy 143 rfl rfl) rfl<|Aa 8 rfl (Bc rfl) (gy 143 rfl rfl) rfl<|Aa 9 rfl (Aw Eg rfl) (gy 143 rfl rfl) rfl<|Aa 10 rfl (Au 2 H9 rfl rfl rfl) (gy 143 rfl rfl) rfl ?_
         obtain ⟨r1141,hv1142,h⟩:=h
         refine Cf 11 rfl (D8 [.pointer (some ⟨g2,0,none⟩),.int .i64 x1020,.int .i64 5,.string (⟨#[41]⟩:ByteArray)] rfl Tryd.func91 rfl rfl rfl fun w1138 hL1139=>?_) (gy 143 rfl rfl)
         have hp1140:=pmI hL1139 (.c 2 rfl (.c 0 rfl (.c 1 rfl .n))) (.c 3 rfl .n) (by kernel_rfl)
         refine Calls.mono (H6 w1138 (Fl ([Sm w.heap.size F sw1017 sb1018]:List Cc)) (⟨x1013,x1020,x1021,(⟨x1022,x1027⟩:Ar),x1032,x1033⟩:Ai) x1020 5 (⟨#[41]⟩:ByteArray) g2 Tb3 A1014 n1015 c1016 z12 A1023 n1024 c1025 z18 A1028 n1029 c1030 (Rw.mono h1019 (hL1139.toFl (me 0 rfl) (me 0 rfl))) (Nat.le_trans hz13 hL1139.env.size) h1026 (Nat.le_trans hz19 hL1139.env.size) h1031 (hL1139.hFl hp1140 (Bi [0] rfl)) (hL1139.into hp1140 _) r1141 hv1142) ?_
         rintro _ w1157 ⟨A1147,n1148,c1149,A1152,n1153,c1154,A1143,n1144,c1145,rfl,hM1158,h1150,h1155,h1146⟩
         obtain ⟨sb1161,hL1159,hv1160⟩:=hL1139.callB (Sl:=([Sm w.heap.size F sw1017 sb1018]:List Cc)) hp1140 hM1158 F (Bi [0] rfl) ⟨Sm.ok,trivial⟩
         have h1146:At D5 (Sm w.heap.size F w1157 sb1161) A1143 n1144 c1145 r1141.2.words:=Rw.mono h1146 hv1160
         refine ⟨_,_,_,rfl,hL1159,?_⟩
         refine Aa 12 rfl (Qv rfl) (gy 143 rfl rfl) rfl<|Aa 13 rfl (Bd (b:=true) rfl rfl) gn rfl<|Aj 14 rfl ?_
         by_cases hp1162:r1141.1=true
         ·have h:=Ap hp1162 h
          refine Bg rfl _ rfl ((nf hp1162))<|Gp [.code Xgl,.code Zr] rfl rfl<|Ac rfl rfl<|Aa 0 rfl (Ad rfl) gn rfl ?_
          obtain ⟨r1166,hv1167,h⟩:=h
          refine Cf 1 rfl (D8 [.pointer (some ⟨g2,0,none⟩),.string (⟨#[41]⟩:ByteArray)] rfl Tryd.func90 rfl rfl rfl fun w1163 hL1164=>?_) gn
          have hp1165:=pmI hL1164 (.c 0 rfl (.c 1 rfl (.c 2 rfl .n))) (.c 3 rfl .n) (by kernel_rfl)
          refine Calls.mono (Ie w1163 (Fl ([Sm w.heap.size F w1157 sb1161]:List Cc)) r1141.2 (⟨#[41]⟩:ByteArray) g2 Tb3 A1143 n1144 c1145 z12 A1147 n1148 c1149 z18 A1152 n1153 c1154 (Rw.mono h1146 (hL1164.toFl (me 0 rfl) (me 0 rfl))) (Nat.le_trans hz13 hL1164.env.size) h1150 (Nat.le_trans hz19 hL1164.env.size) h1155 (hL1164.hFl hp1165 (Bi [0] rfl)) (hL1164.into hp1165 _) r1166 hv1167) ?_
          rintro _ w1182 ⟨A1172,n1173,c1174,A1177,n1178,c1179,A1168,n1169,c1170,rfl,hM1183,h1175,h1180,h1171⟩
          obtain ⟨sb1186,hL1184,hv1185⟩:=hL1164.callB (Sl:=([Sm w.heap.size F w1157 sb1161]:List Cc)) hp1165 hM1183 F (Bi [0] rfl) ⟨Sm.ok,trivial⟩
          have h1171:At D5 (Sm w.heap.size F w1182 sb1186) A1168 n1169 c1170 r1166.words:=Rw.mono h1171 hv1185
          refine ⟨_,_,_,rfl,hL1184,?_⟩
          refine Aj 2 rfl ?_
          obtain ⟨q1187,hq1188,h⟩:=h
          have hq1188:=Out.inr hO1 hq1188
          rw [← hq1188] at h
          refine Ba 3 rfl<|Ba 1 rfl<|Ba 3 rfl<|Ba 3 rfl ?_
          exact Dc [0,6,7,8,9] (j3 r1166.words r1166.at_ r1166.end_ r1166.q.nodes r1166.q.conds r1166.code r1166.place x909 false x1034 h A1168 n1169 c1170 w1182 sb1186 h1171 A1172 n1173 c1174 h1175 A1177 n1178 c1179 h1180) ⟨rfl,rfl,rfl,trivial⟩ (.cons_cons _ (.cons_cons _ (.cons_cons _ (.cons_cons _ (.slnil))))) rfl
         ·have h:=Aq hp1162 h
          refine Bz rfl _ rfl ((nt (bf hp1162)))<|Cb rfl<|Df rfl<|Ah rfl<|Ac rfl rfl<|Aa 0 rfl (Ad rfl) gn rfl ?_
          obtain ⟨r1192,hv1193,h⟩:=h
          refine Cf 1 rfl (D8 [.pointer (some ⟨g2,0,none⟩)] rfl Tryd.func60 rfl rfl rfl fun w1189 hL1190=>?_) gn
          have hp1191:=pmI hL1190 (.c 0 rfl (.c 1 rfl (.c 2 rfl .n))) (.c 3 rfl .n) (by kernel_rfl)
          refine Calls.mono (ih_query_parser_pattern w1189 (Fl ([Sm w.heap.size F w1157 sb1161]:List Cc)) r1141.2 g2 Tb3 A1143 n1144 c1145 z12 A1147 n1148 c1149 z18 A1152 n1153 c1154 (Rw.mono h1146 (hL1190.toFl (me 0 rfl) (me 0 rfl))) (Nat.le_trans hz13 hL1190.env.size) h1150 (Nat.le_trans hz19 hL1190.env.size) h1155 (hL1190.hFl hp1191 (Bi [0] rfl)) (hL1190.into hp1191 _) r1192 hv1193) ?_
          rintro _ w1208 ⟨A1198,n1199,c1200,A1203,n1204,c1205,A1194,n1195,c1196,rfl,hM1209,h1201,h1206,h1197⟩
          obtain ⟨sb1212,hL1210,hv1211⟩:=hL1190.callB (Sl:=([Sm w.heap.size F w1157 sb1161]:List Cc)) hp1191 hM1209 F (Bi [0] rfl) ⟨Sm.ok,trivial⟩
          have h1197:At D5 (Sm w.heap.size F w1208 sb1212) A1194 n1195 c1196 r1192.words:=Rw.mono h1197 hv1211
          refine ⟨_,_,_,rfl,hL1210,?_⟩
          refine Aj 2 rfl<|Ac rfl rfl<|Aa 0 rfl (Aw Uj rfl) gn rfl<|Aa 1 rfl (Au 3 H9 rfl rfl rfl) gn rfl<|Aa 2 rfl (Be rfl rfl rfl) gn rfl<|Aa 3 rfl (Aw Uj rfl) gn rfl ?_
          refine Cf 4 rfl (Fp (vs:=[.int .i64 (w64 (x1034 + 1))]) (cs':=[.string x909,.bool false,.string x156,.string (⟨#[]⟩:ByteArray),.int .i64 (w64 (x1034 + 1))]) (M':=[.box g2 Tb3 [.slice A1194 n1195 c1196,.int .i64 r1192.at_,.int .i64 r1192.end_,.slice A1198 n1199 c1200,.slice A1203 n1204 c1205,.int .i64 r1192.code,.int .i64 r1192.place],.own (.slice A1198 n1199 c1200) 45 5 n1199 (r1192.q.nodes.flatMap Am),.own (.slice A1203 n1204 c1205) 47 4 n1204 (r1192.q.conds.flatMap Bj),.box gb79 45 [.string x909,.bool false,.string x156,.string (⟨#[]⟩:ByteArray),.int .i64 (w64 (x1034 + 1))]]) 3 Xar rfl rfl rfl rfl rfl rfl rfl rfl rfl ?_) gn
          refine Aj 5 rfl<|D7<|Dp<|Ba 3 rfl<|Ba 1 rfl<|Ba 3 rfl<|Ba 3 rfl ?_
          have ih:=Out.inl hO1 h
          exact Dc [0,3,4,5,6,7,8,9] (ih A1194 n1195 c1196 w1208 sb1212 h1197 A1198 n1199 c1200 h1201 A1203 n1204 c1205 h1206) ⟨rfl,rfl,rfl,trivial⟩ (.cons_cons _ (.cons_cons _ (.cons_cons _ (.cons_cons _ (.slnil))))) rfl
        ·have h:=Aq hp1137 h
         refine Bv 143 rfl ((nei hp1137))<|Ae 6 rfl (ps 143 rfl rfl rfl)<|Ae 7 rfl (ps 143 rfl rfl rfl)<|Ae 8 rfl (ps 143 rfl rfl rfl)<|Ae 9 rfl (ps 143 rfl rfl rfl)<|Ae 10 rfl (ps 143 rfl rfl rfl)<|Ae 11 rfl (ps 143 rfl rfl rfl)<|Ae 12 rfl (ps 143 rfl rfl rfl)<|Aa 13 rfl (Bd (b:=false) rfl rfl) gn rfl<|Aj 14 rfl<|Bg rfl _ rfl (rfl)<|Gp [.code Xgl,.code Zr] rfl rfl ?_
         refine Ac rfl rfl<|Aa 0 rfl (Ad rfl) gn rfl ?_
         obtain ⟨r1216,hv1217,h⟩:=h
         refine Cf 1 rfl (D8 [.pointer (some ⟨g2,0,none⟩),.string (⟨#[41]⟩:ByteArray)] rfl Tryd.func90 rfl rfl rfl fun w1213 hL1214=>?_) gn
         have hp1215:=pmI hL1214 (.c 2 rfl (.c 0 rfl (.c 1 rfl .n))) (.c 3 rfl .n) (by kernel_rfl)
         refine Calls.mono (Ie w1213 (Fl ([Sm w.heap.size F sw1017 sb1018]:List Cc)) (⟨x1013,x1020,x1021,(⟨x1022,x1027⟩:Ar),x1032,x1033⟩:Ai) (⟨#[41]⟩:ByteArray) g2 Tb3 A1014 n1015 c1016 z12 A1023 n1024 c1025 z18 A1028 n1029 c1030 (Rw.mono h1019 (hL1214.toFl (me 0 rfl) (me 0 rfl))) (Nat.le_trans hz13 hL1214.env.size) h1026 (Nat.le_trans hz19 hL1214.env.size) h1031 (hL1214.hFl hp1215 (Bi [0] rfl)) (hL1214.into hp1215 _) r1216 hv1217) ?_
         rintro _ w1232 ⟨A1222,n1223,c1224,A1227,n1228,c1229,A1218,n1219,c1220,rfl,hM1233,h1225,h1230,h1221⟩
         obtain ⟨sb1236,hL1234,hv1235⟩:=hL1214.callB (Sl:=([Sm w.heap.size F sw1017 sb1018]:List Cc)) hp1215 hM1233 F (Bi [0] rfl) ⟨Sm.ok,trivial⟩
         have h1221:At D5 (Sm w.heap.size F w1232 sb1236) A1218 n1219 c1220 r1216.words:=Rw.mono h1221 hv1235
         refine ⟨_,_,_,rfl,hL1234,?_⟩
         refine Aj 2 rfl ?_
         obtain ⟨q1237,hq1238,h⟩:=h
         have hq1238:=Out.inr hO1 hq1238
         rw [← hq1238] at h
         refine Ba 3 rfl<|Ba 1 rfl<|Ba 3 rfl<|Ba 3 rfl ?_
         exact Dc [0,5,6,7,8] (j3 r1216.words r1216.at_ r1216.end_ r1216.q.nodes r1216.q.conds r1216.code r1216.place x909 false x1034 h A1218 n1219 c1220 w1232 sb1236 h1221 A1222 n1223 c1224 h1225 A1227 n1228 c1229 h1230) ⟨rfl,rfl,rfl,trivial⟩ (.cons_cons _ (.cons_cons _ (.cons_cons _ (.cons_cons _ (.slnil))))) rfl
       exact Dc [0,0,1,2,3,4,5,6] (key6 _ h A889 n890 c891 sw892 sb893 h894 A898 n899 c900 h901 A903 n904 c905 h906) ⟨rfl,rfl,rfl,trivial⟩ (.cons_cons _ (.cons_cons _ (.cons_cons _ (.cons_cons _ (.slnil))))) rfl
      by_cases hp862:r841.1=true
      ·have h:=Ap hp862 h
       refine Bz rfl _ rfl (hp862)<|Ac rfl rfl<|Aa 0 rfl (Ad rfl) gn rfl<|Aa 1 rfl (Bc rfl) gn rfl<|Aa 2 rfl (Aw Eg rfl) gn rfl<|Aa 3 rfl (Au 0 H9 rfl rfl rfl) gn rfl<|Aa 4 rfl (Be rfl rfl rfl) gn rfl<|Aa 5 rfl (Bc rfl) gn rfl<|Aa 6 rfl (Aw Eg rfl) gn rfl ?_
       refine Cf 7 rfl (Fp (vs:=[.int .i64 (w64 (r841.2.at_ + 1))]) (cs':=[.slice A843 n844 c845,.int .i64 (w64 (r841.2.at_ + 1)),.int .i64 r841.2.end_,.slice A847 n848 c849,.slice A852 n853 c854,.int .i64 r841.2.code,.int .i64 r841.2.place]) (M':=[.box g2 Tb3 [.slice A843 n844 c845,.int .i64 (w64 (r841.2.at_ + 1)),.int .i64 r841.2.end_,.slice A847 n848 c849,.slice A852 n853 c854,.int .i64 r841.2.code,.int .i64 r841.2.place],.own (.slice A847 n848 c849) 45 5 n848 (r841.2.q.nodes.flatMap Am),.own (.slice A852 n853 c854) 47 4 n853 (r841.2.q.conds.flatMap Bj),.box gb79 45 [.string (⟨#[]⟩:ByteArray),.bool false,.string x156,.string (⟨#[]⟩:ByteArray),.int .i64 0]]) 0 Xar rfl rfl rfl rfl rfl rfl rfl rfl rfl ?_) gn
       refine Aj 8 rfl<|Ba 3 rfl<|Ba 1 rfl<|Ba 3 rfl<|Ba 3 rfl ?_
       exact Dc [0,0,1,2,3,4,5] (j5 r841.2.words (w64 (r841.2.at_ + 1)) r841.2.end_ r841.2.q.nodes r841.2.q.conds r841.2.code r841.2.place (⟨#[]⟩:ByteArray) h A843 n844 c845 w857 sb861 h846 A847 n848 c849 h850 A852 n853 c854 h855) ⟨rfl,rfl,rfl,trivial⟩ (.cons_cons _ (.cons_cons _ (.cons_cons _ (.cons_cons _ (.slnil))))) rfl
      ·have h:=Aq hp862 h
       refine Bg rfl _ rfl ((bf hp862))<|Ac rfl rfl<|Aa 0 rfl (Ad rfl) gn rfl ?_
       obtain ⟨r1242,hv1243,h⟩:=h
       refine Cf 1 rfl (D8 [.pointer (some ⟨g2,0,none⟩)] rfl Tryd.func89 rfl rfl rfl fun w1239 hL1240=>?_) gn
       have hp1241:=pmI hL1240 (.c 0 rfl (.c 1 rfl (.c 2 rfl .n))) (.c 3 rfl .n) (by kernel_rfl)
       refine Calls.mono (Md w1239 (Fl ([Sm w.heap.size F w857 sb861]:List Cc)) r841.2 g2 Tb3 A843 n844 c845 z12 A847 n848 c849 z18 A852 n853 c854 (Rw.mono h846 (hL1240.toFl (me 0 rfl) (me 0 rfl))) (Nat.le_trans hz13 hL1240.env.size) h850 (Nat.le_trans hz19 hL1240.env.size) h855 (hL1240.hFl hp1241 (Bi [0] rfl)) (hL1240.into hp1241 _) r1242 hv1243) ?_
       rintro _ w1258 ⟨A1248,n1249,c1250,A1253,n1254,c1255,A1244,n1245,c1246,rfl,hM1259,h1251,h1256,h1247⟩
       obtain ⟨sb1262,hL1260,hv1261⟩:=hL1240.callB (Sl:=([Sm w.heap.size F w857 sb861]:List Cc)) hp1241 hM1259 F (Bi [0] rfl) ⟨Sm.ok,trivial⟩
       have h1247:At D5 (Sm w.heap.size F w1258 sb1262) A1244 n1245 c1246 r1242.2.words:=Rw.mono h1247 hv1261
       refine ⟨_,_,_,rfl,hL1260,?_⟩
       refine Aa 2 rfl (Aw Vt rfl) gn rfl ?_
       refine Cf 3 rfl (Fp (vs:=[.string r1242.1]) (cs':=[.string r1242.1,.bool false,.string x156,.string (⟨#[]⟩:ByteArray),.int .i64 0]) (M':=[.box g2 Tb3 [.slice A1244 n1245 c1246,.int .i64 r1242.2.at_,.int .i64 r1242.2.end_,.slice A1248 n1249 c1250,.slice A1253 n1254 c1255,.int .i64 r1242.2.code,.int .i64 r1242.2.place],.own (.slice A1248 n1249 c1250) 45 5 n1249 (r1242.2.q.nodes.flatMap Am),.own (.slice A1253 n1254 c1255) 47 4 n1254 (r1242.2.q.conds.flatMap Bj),.box gb79 45 [.string r1242.1,.bool false,.string x156,.string (⟨#[]⟩:ByteArray),.int .i64 0]]) 3 sz_9 rfl rfl rfl rfl rfl rfl rfl rfl rfl ?_) gn
       refine Aj 4 rfl<|Ba 3 rfl<|Ba 1 rfl<|Ba 3 rfl<|Ba 3 rfl ?_
       exact Dc [0,1,2,3,4,5,6] (j5 r1242.2.words r1242.2.at_ r1242.2.end_ r1242.2.q.nodes r1242.2.q.conds r1242.2.code r1242.2.place r1242.1 h A1244 n1245 c1246 w1258 sb1262 h1247 A1248 n1249 c1250 h1251 A1253 n1254 c1255 h1256) ⟨rfl,rfl,rfl,trivial⟩ (.cons_cons _ (.cons_cons _ (.cons_cons _ (.cons_cons _ (.slnil))))) rfl
    by_cases hp1263:x142 < (x135.length:Int)
    ·have h:=Ap hp1263 h
     obtain ⟨hb1264,h⟩:=h
     by_cases hp1266:(ix x135 x142).kind=2
     ·have h:=Ap hp1266 h
      have hns:Region.noSelect (Code.ops Xlu)=true:=by kernel_rfl
      refine Gf [] 38 rfl rfl mix rfl (.c 0 rfl (.c 1 rfl (.c 2 rfl (.c 3 rfl .n))))<|wfv 0 rfl (Ad rfl) gn hns rfl<|wfv 1 rfl (Bc rfl) gn hns rfl<|wfv 2 rfl (Aw Eg rfl) gn hns rfl<|wfv 3 rfl (Au 2 H9 rfl rfl rfl) gn hns rfl<|wfv 4 rfl (Ad rfl) gn hns rfl<|wfv 5 rfl (Bc rfl) gn hns rfl<|wfv 6 rfl (Aw Hr rfl) gn hns rfl<|wfv 7 rfl (Au 2 Np rfl rfl rfl) gn hns rfl<|wfv 8 rfl (Dj Zh rfl h141.hq) gn hns rfl<|wfv 9 rfl (Be rfl rfl rfl) gn hns rfl<|wfv 10 rfl (Ad rfl) gn hns rfl ?_
      refine Kz 72 rfl ((decide_eq_true hp1263))<|wfv 11 rfl (Ad rfl) (gy 72 rfl rfl) hns rfl<|wfv 12 rfl (Bc rfl) (gy 72 rfl rfl) hns rfl<|wfv 13 rfl (Aw Hr rfl) (gy 72 rfl rfl) hns rfl<|wfv 14 rfl (Au 2 Np rfl rfl rfl) (gy 72 rfl rfl) hns rfl<|wfv 15 rfl (Ad rfl) (gy 72 rfl rfl) hns rfl<|wfv 16 rfl (Bc rfl) (gy 72 rfl rfl) hns rfl<|wfv 17 rfl (Aw Eg rfl) (gy 72 rfl rfl) hns rfl<|wfv 18 rfl (Au 2 H9 rfl rfl rfl) (gy 72 rfl rfl) hns rfl ?_
      have hr1270:=Rw.readF (s:=Sm w.heap.size F sw139 sb140) (hl:=Ei) (h1:=Eh) h141 hb1264
      refine wfv 19 rfl (F5 (s:=Sm w.heap.size F sw139 sb140) Qj rfl rfl h141 hb1264) (gy 72 rfl rfl) hns rfl<|wfv 20 rfl (Ja Ve rfl) (gy 72 rfl rfl) hns rfl<|wfv 21 rfl (Hq (kk:=(x142:Int).toNat * 4) (j:=0) (Sm w.heap.size F sw139 sb140) Xb3 rfl hr1270 rfl (me 0 rfl)) (gy 72 rfl rfl) hns rfl<|wfv 22 rfl (Be rfl rfl rfl) (gy 72 rfl rfl) hns rfl<|wfv 23 rfl (Bd (b:=true) rfl rfl) gn hns rfl<|wfv 24 rfl (Ad rfl) gn hns rfl<|Kz 86 rfl ((eqi hp1266))<|wfv 25 rfl (Ad rfl) (gy 86 rfl rfl) hns rfl<|wfv 26 rfl (Bc rfl) (gy 86 rfl rfl) hns rfl<|wfv 27 rfl (Aw Hr rfl) (gy 86 rfl rfl) hns rfl<|wfv 28 rfl (Au 2 Np rfl rfl rfl) (gy 86 rfl rfl) hns rfl<|wfv 29 rfl (Ad rfl) (gy 86 rfl rfl) hns rfl ?_
      refine wfv 30 rfl (Bc rfl) (gy 86 rfl rfl) hns rfl<|wfv 31 rfl (Aw Eg rfl) (gy 86 rfl rfl) hns rfl<|wfv 32 rfl (Au 2 H9 rfl rfl rfl) (gy 86 rfl rfl) hns rfl ?_
      have hr1271:=Rw.readF (s:=Sm w.heap.size F sw139 sb140) (hl:=Ei) (h1:=Eh) h141 hb1264
      refine wfv 33 rfl (F5 (s:=Sm w.heap.size F sw139 sb140) Qj rfl rfl h141 hb1264) (gy 86 rfl rfl) hns rfl<|wfv 34 rfl (Ja Kt rfl) (gy 86 rfl rfl) hns rfl<|wfv 35 rfl (Hq (kk:=(x142:Int).toNat * 4) (j:=1) (Sm w.heap.size F sw139 sb140) Ib rfl hr1271 rfl (me 0 rfl)) (gy 86 rfl rfl) hns rfl<|wfv 36 rfl (Uf rfl rfl) (gy 86 rfl rfl) hns rfl<|wfv 37 rfl (Bd (b:=true) rfl rfl) gn hns rfl<|E8 (by kernel_rfl) ?_
      exact Dc [0,1,2,3] (j2 (!(seq ((ix x135 x142).text) (⟨#[]⟩:ByteArray))) h) ⟨rfl,rfl,rfl,rfl,trivial⟩ (.cons_cons _ (.cons_cons _ (.cons_cons _ (.cons_cons _ (.slnil))))) rfl
     ·have h:=Aq hp1266 h
      have hns:Region.noSelect (Code.ops Xlu)=true:=by kernel_rfl
      refine Gf [] 38 rfl rfl mix rfl (.c 0 rfl (.c 1 rfl (.c 2 rfl (.c 3 rfl .n))))<|wfv 0 rfl (Ad rfl) gn hns rfl<|wfv 1 rfl (Bc rfl) gn hns rfl<|wfv 2 rfl (Aw Eg rfl) gn hns rfl<|wfv 3 rfl (Au 2 H9 rfl rfl rfl) gn hns rfl<|wfv 4 rfl (Ad rfl) gn hns rfl<|wfv 5 rfl (Bc rfl) gn hns rfl<|wfv 6 rfl (Aw Hr rfl) gn hns rfl<|wfv 7 rfl (Au 2 Np rfl rfl rfl) gn hns rfl<|wfv 8 rfl (Dj Zh rfl h141.hq) gn hns rfl<|wfv 9 rfl (Be rfl rfl rfl) gn hns rfl<|wfv 10 rfl (Ad rfl) gn hns rfl ?_
      refine Kz 72 rfl ((decide_eq_true hp1263))<|wfv 11 rfl (Ad rfl) (gy 72 rfl rfl) hns rfl<|wfv 12 rfl (Bc rfl) (gy 72 rfl rfl) hns rfl<|wfv 13 rfl (Aw Hr rfl) (gy 72 rfl rfl) hns rfl<|wfv 14 rfl (Au 2 Np rfl rfl rfl) (gy 72 rfl rfl) hns rfl<|wfv 15 rfl (Ad rfl) (gy 72 rfl rfl) hns rfl<|wfv 16 rfl (Bc rfl) (gy 72 rfl rfl) hns rfl<|wfv 17 rfl (Aw Eg rfl) (gy 72 rfl rfl) hns rfl<|wfv 18 rfl (Au 2 H9 rfl rfl rfl) (gy 72 rfl rfl) hns rfl ?_
      have hr1273:=Rw.readF (s:=Sm w.heap.size F sw139 sb140) (hl:=Ei) (h1:=Eh) h141 hb1264
      refine wfv 19 rfl (F5 (s:=Sm w.heap.size F sw139 sb140) Qj rfl rfl h141 hb1264) (gy 72 rfl rfl) hns rfl<|wfv 20 rfl (Ja Ve rfl) (gy 72 rfl rfl) hns rfl<|wfv 21 rfl (Hq (kk:=(x142:Int).toNat * 4) (j:=0) (Sm w.heap.size F sw139 sb140) Xb3 rfl hr1273 rfl (me 0 rfl)) (gy 72 rfl rfl) hns rfl<|wfv 22 rfl (Be rfl rfl rfl) (gy 72 rfl rfl) hns rfl<|wfv 23 rfl (Bd (b:=true) rfl rfl) gn hns rfl<|wfv 24 rfl (Ad rfl) gn hns rfl<|Kz 86 rfl ((nei hp1266))<|wfp 25 rfl (ps 86 rfl rfl rfl) hns rfl<|wfp 26 rfl (ps 86 rfl rfl rfl) hns rfl<|wfp 27 rfl (ps 86 rfl rfl rfl) hns rfl<|wfp 28 rfl (ps 86 rfl rfl rfl) hns rfl<|wfp 29 rfl (ps 86 rfl rfl rfl) hns rfl ?_
      refine wfp 30 rfl (ps 86 rfl rfl rfl) hns rfl<|wfp 31 rfl (ps 86 rfl rfl rfl) hns rfl<|wfp 32 rfl (ps 86 rfl rfl rfl) hns rfl<|wfp 33 rfl (ps 86 rfl rfl rfl) hns rfl<|wfp 34 rfl (ps 86 rfl rfl rfl) hns rfl<|wfp 35 rfl (ps 86 rfl rfl rfl) hns rfl<|wfp 36 rfl (ps 86 rfl rfl rfl) hns rfl<|wfv 37 rfl (Bd (b:=false) rfl rfl) gn hns rfl<|E8 (by kernel_rfl) ?_
      exact Dc [0,1,2,3] (j2 false h) ⟨rfl,rfl,rfl,rfl,trivial⟩ (.cons_cons _ (.cons_cons _ (.cons_cons _ (.cons_cons _ (.slnil))))) rfl
    ·have h:=Aq hp1263 h
     have hns:Region.noSelect (Code.ops Xlu)=true:=by kernel_rfl
     refine Gf [] 38 rfl rfl mix rfl (.c 0 rfl (.c 1 rfl (.c 2 rfl (.c 3 rfl .n))))<|wfv 0 rfl (Ad rfl) gn hns rfl<|wfv 1 rfl (Bc rfl) gn hns rfl<|wfv 2 rfl (Aw Eg rfl) gn hns rfl<|wfv 3 rfl (Au 2 H9 rfl rfl rfl) gn hns rfl<|wfv 4 rfl (Ad rfl) gn hns rfl<|wfv 5 rfl (Bc rfl) gn hns rfl<|wfv 6 rfl (Aw Hr rfl) gn hns rfl<|wfv 7 rfl (Au 2 Np rfl rfl rfl) gn hns rfl<|wfv 8 rfl (Dj Zh rfl h141.hq) gn hns rfl<|wfv 9 rfl (Be rfl rfl rfl) gn hns rfl<|wfv 10 rfl (Ad rfl) gn hns rfl ?_
     refine Kz 72 rfl ((decide_eq_false hp1263))<|wfp 11 rfl (ps 72 rfl rfl rfl) hns rfl<|wfp 12 rfl (ps 72 rfl rfl rfl) hns rfl<|wfp 13 rfl (ps 72 rfl rfl rfl) hns rfl<|wfp 14 rfl (ps 72 rfl rfl rfl) hns rfl<|wfp 15 rfl (ps 72 rfl rfl rfl) hns rfl<|wfp 16 rfl (ps 72 rfl rfl rfl) hns rfl<|wfp 17 rfl (ps 72 rfl rfl rfl) hns rfl<|wfp 18 rfl (ps 72 rfl rfl rfl) hns rfl<|wfp 19 rfl (ps 72 rfl rfl rfl) hns rfl<|wfp 20 rfl (ps 72 rfl rfl rfl) hns rfl<|wfp 21 rfl (ps 72 rfl rfl rfl) hns rfl ?_
     refine wfp 22 rfl (ps 72 rfl rfl rfl) hns rfl<|wfv 23 rfl (Bd (b:=false) rfl rfl) gn hns rfl<|wfv 24 rfl (Ad rfl) gn hns rfl<|wfp 25 rfl (ps 86 rfl rfl rfl) hns rfl<|wfp 26 rfl (ps 86 rfl rfl rfl) hns rfl<|wfp 27 rfl (ps 86 rfl rfl rfl) hns rfl<|wfp 28 rfl (ps 86 rfl rfl rfl) hns rfl<|wfp 29 rfl (ps 86 rfl rfl rfl) hns rfl<|wfp 30 rfl (ps 86 rfl rfl rfl) hns rfl<|wfp 31 rfl (ps 86 rfl rfl rfl) hns rfl<|wfp 32 rfl (ps 86 rfl rfl rfl) hns rfl<|wfp 33 rfl (ps 86 rfl rfl rfl) hns rfl ?_
     refine wfp 34 rfl (ps 86 rfl rfl rfl) hns rfl<|wfp 35 rfl (ps 86 rfl rfl rfl) hns rfl<|wfp 36 rfl (ps 86 rfl rfl rfl) hns rfl<|wfv 37 rfl (Bd (b:=false) rfl rfl) gn hns rfl<|E8 (by kernel_rfl) ?_
     exact Dc [0,1,2,3] (j2 false h) ⟨rfl,rfl,rfl,rfl,trivial⟩ (.cons_cons _ (.cons_cons _ (.cons_cons _ (.cons_cons _ (.slnil))))) rfl
   by_cases hp85:(ix r23.2.words r23.2.at_).kind=1
   ·have h:=Ap hp85 h
    refine Bz rfl _ rfl ((eqi hp85))<|Ah rfl<|Ac rfl rfl<|Aa 0 rfl (Ad rfl) gn rfl ?_
    obtain ⟨r1277,hv1278,h⟩:=h
    refine Cf 1 rfl (D8 [.pointer (some ⟨g2,0,none⟩)] rfl Tryd.func89 rfl rfl rfl fun w1274 hL1275=>?_) gn
    have hp1276:=pmI hL1275 (.c 2 rfl (.c 3 rfl (.c 4 rfl .n))) (.c 0 rfl (.c 1 rfl .n)) (by kernel_rfl)
    refine Calls.mono (Md w1274 (Fl ([Sm w.heap.size F w39 sb43]:List Cc)) (⟨r23.2.words,r23.2.at_,r23.2.end_,(⟨x76,r23.2.q.conds⟩:Ar),r23.2.code,r23.2.place⟩:Ai) g2 Tb3 A25 n26 c27 z12 A73 (n30 + 1) c74 z18 A34 n35 c36 (Rw.mono h28 (hL1275.toFl (me 0 rfl) (me 0 rfl))) (Nat.le_trans hz13 hL1275.env.size) h75 (Nat.le_trans hz19 hL1275.env.size) h37 (hL1275.hFl hp1276 (Bi [0] rfl)) (hL1275.into hp1276 _) r1277 hv1278) ?_
    rintro _ w1293 ⟨A1283,n1284,c1285,A1288,n1289,c1290,A1279,n1280,c1281,rfl,hM1294,h1286,h1291,h1282⟩
    obtain ⟨sb1297,hL1295,hv1296⟩:=hL1275.callB (Sl:=([Sm w.heap.size F w39 sb43]:List Cc)) hp1276 hM1294 F (Bi [0] rfl) ⟨Sm.ok,trivial⟩
    have h1282:At D5 (Sm w.heap.size F w1293 sb1297) A1279 n1280 c1281 r1277.2.words:=Rw.mono h1282 hv1296
    refine ⟨_,_,_,rfl,hL1295,?_⟩
    refine Aa 2 rfl (Aw Vb rfl) gn rfl ?_
    refine Cf 3 rfl (Fp (vs:=[.string r1277.1]) (cs':=[.string (⟨#[]⟩:ByteArray),.bool false,.string r1277.1,.string (⟨#[]⟩:ByteArray),.int .i64 0]) (M':=[.box g2 Tb3 [.slice A1279 n1280 c1281,.int .i64 r1277.2.at_,.int .i64 r1277.2.end_,.slice A1283 n1284 c1285,.slice A1288 n1289 c1290,.int .i64 r1277.2.code,.int .i64 r1277.2.place],.own (.slice A1283 n1284 c1285) 45 5 n1284 (r1277.2.q.nodes.flatMap Am),.own (.slice A1288 n1289 c1290) 47 4 n1289 (r1277.2.q.conds.flatMap Bj),.box gb79 45 [.string (⟨#[]⟩:ByteArray),.bool false,.string r1277.1,.string (⟨#[]⟩:ByteArray),.int .i64 0],.own (.slice (some ⟨gb71,0,none⟩) 1 1) 45 5 1 (([(⟨(⟨#[]⟩:ByteArray),false,(⟨#[]⟩:ByteArray),(⟨#[]⟩:ByteArray),0⟩:Ag)]:List Ag).flatMap Am)]) 3 sz_9 rfl rfl rfl rfl rfl rfl rfl rfl rfl ?_) gn
    refine Aj 4 rfl<|Ac rfl rfl<|Aa 0 rfl (Ad rfl) gn rfl ?_
    obtain ⟨r1301,hv1302,h⟩:=h
    refine Cf 1 rfl (D8 [.pointer (some ⟨g2,0,none⟩),.string (⟨#[58]⟩:ByteArray)] rfl Tryd.func90 rfl rfl rfl fun w1298 hL1299=>?_) gn
    have hp1300:=pmI hL1299 (.c 0 rfl (.c 1 rfl (.c 2 rfl .n))) (.c 3 rfl (.c 4 rfl .n)) (by kernel_rfl)
    refine Calls.mono (Ie w1298 (Fl ([Sm w.heap.size F w1293 sb1297]:List Cc)) r1277.2 (⟨#[58]⟩:ByteArray) g2 Tb3 A1279 n1280 c1281 z12 A1283 n1284 c1285 z18 A1288 n1289 c1290 (Rw.mono h1282 (hL1299.toFl (me 0 rfl) (me 0 rfl))) (Nat.le_trans hz13 hL1299.env.size) h1286 (Nat.le_trans hz19 hL1299.env.size) h1291 (hL1299.hFl hp1300 (Bi [0] rfl)) (hL1299.into hp1300 _) r1301 hv1302) ?_
    rintro _ w1317 ⟨A1307,n1308,c1309,A1312,n1313,c1314,A1303,n1304,c1305,rfl,hM1318,h1310,h1315,h1306⟩
    obtain ⟨sb1321,hL1319,hv1320⟩:=hL1299.callB (Sl:=([Sm w.heap.size F w1293 sb1297]:List Cc)) hp1300 hM1318 F (Bi [0] rfl) ⟨Sm.ok,trivial⟩
    have h1306:At D5 (Sm w.heap.size F w1317 sb1321) A1303 n1304 c1305 r1301.words:=Rw.mono h1306 hv1320
    refine ⟨_,_,_,rfl,hL1319,?_⟩
    refine Aj 2 rfl<|Ba 3 rfl<|Ba 1 rfl<|Ba 3 rfl<|Ba 3 rfl ?_
    exact Dc [0,2,3,4] (j1 r1301.words r1301.at_ r1301.end_ r1301.q.nodes r1301.q.conds r1301.code r1301.place r1277.1 h A1303 n1304 c1305 w1317 sb1321 h1306 A1307 n1308 c1309 h1310 A1312 n1313 c1314 h1315) ⟨rfl,rfl,rfl,trivial⟩ (.cons_cons _ (.cons_cons _ (.cons_cons _ (.cons_cons _ (.cons _ (.slnil)))))) rfl
   ·have h:=Aq hp85 h
    refine Bg rfl _ rfl ((nei hp85))<|Cb rfl<|Ba 0 rfl<|Ba 2 rfl<|Ba 4 rfl<|Ba 4 rfl ?_
    exact Dc [0,0,1,2] (j1 r23.2.words r23.2.at_ r23.2.end_ x76 r23.2.q.conds r23.2.code r23.2.place (⟨#[]⟩:ByteArray) h A25 n26 c27 w39 sb43 h28 A73 (n30 + 1) c74 h75 A34 n35 c36 h37) ⟨rfl,rfl,rfl,trivial⟩ (.cons_cons _ (.cons_cons _ (.cons_cons _ (.cons_cons _ (.cons _ (.slnil)))))) rfl
 ·have h:=Aq hp44 h
  refine Bz rfl _ rfl ((nt (bf hp44)))<|Ah rfl<|Ac rfl rfl<|Aa 0 rfl (Ad rfl) gn rfl<|Aa 1 rfl (Ad rfl) gn rfl<|Aa 2 rfl (Bc rfl) gn rfl<|Aa 3 rfl (Aw Eg rfl) gn rfl<|Aa 4 rfl (Au 0 H9 rfl rfl rfl) gn rfl ?_
  obtain ⟨r1325,hv1326,h⟩:=h
  refine Cf 5 rfl (D8 [.pointer (some ⟨g2,0,none⟩),.int .i64 200,.int .i64 r23.2.at_] rfl Tryd.func88 rfl rfl rfl fun w1322 hL1323=>?_) gn
  have hp1324:=pmI hL1323 (.c 0 rfl (.c 1 rfl (.c 2 rfl .n))) .n (by kernel_rfl)
  refine Calls.mono (G7 w1322 (Fl ([Sm w.heap.size F w39 sb43]:List Cc)) r23.2 200 r23.2.at_ g2 Tb3 A25 n26 c27 z12 A29 n30 c31 z18 A34 n35 c36 (Rw.mono h28 (hL1323.toFl (me 0 rfl) (me 0 rfl))) (Nat.le_trans hz13 hL1323.env.size) h32 (Nat.le_trans hz19 hL1323.env.size) h37 (hL1323.hFl hp1324 (Bi [0] rfl)) (hL1323.into hp1324 _) r1325 hv1326) ?_
  rintro _ w1341 ⟨A1331,n1332,c1333,A1336,n1337,c1338,A1327,n1328,c1329,rfl,hM1342,h1334,h1339,h1330⟩
  obtain ⟨sb1345,hL1343,hv1344⟩:=hL1323.callB (Sl:=([Sm w.heap.size F w39 sb43]:List Cc)) hp1324 hM1342 F (Bi [0] rfl) ⟨Sm.ok,trivial⟩
  have h1330:At D5 (Sm w.heap.size F w1341 sb1345) A1327 n1328 c1329 r1325.words:=Rw.mono h1330 hv1344
  refine ⟨_,_,_,rfl,hL1343,?_⟩
  refine Aj 6 rfl ?_
  refine C9 [] rfl Tryd.func60 rfl (.nil) fun wr hLr=>?_
  have hMr:=hLr.pkI (.c 0 rfl (.c 1 rfl (.c 2 rfl .n))) .n (by kernel_rfl) (.c 3 rfl .n)
  have hMi:=hLr.selI (.c 0 rfl (.c 1 rfl (.c 2 rfl .n)))
  show Gm w F g2 Tb3 A8 n9 c10 z12 A14 n15 c16 z18 r (.returned (Ci [])) wr
  rw [h]
  exact ⟨A1331,n1332,c1333,A1336,n1337,c1338,A1327,n1328,c1329,rfl,hMr,h1334,h1339,(hLr.outR (s:=Sm w.heap.size F w1341 sb1345) hMi (me 0 rfl) Sm.ok h1330)⟩
theorem Ug:∀ n,Q3 (D6 n)
 | 0=>fun w F x1 g2 Tb3 A4 n5 c6 z12 A8 n9 c10 z18 A14 n15 c16 h7 hz13 h11 hz19 h17 hF hL0 r h=>h.elim
 | n + 1=>by
  have ih:=Ug n
  exact Yx _ ih
theorem Yi (w:World) (F:Nat→Prop) (x1:Ai) (g2:Nat) (Tb3:Nat) (A4:Option Addr) (n5:Nat) (c6:Nat) (z12:Nat) (A8:Option Addr) (n9:Nat) (c10:Nat) (z18:Nat) (A14:Option Addr) (n15:Nat) (c16:Nat) (h7:Rw D5 w F A4 n5 c6 x1.words) (hz13:z12≤w.heap.size) (h11:Ow z12 A8 n9 c10 x1.q.nodes) (hz19:z18≤w.heap.size) (h17:Ow z18 A14 n15 c16 x1.q.conds) (hF:∀ b,F b→b < w.heap.size∧∀ o ∈ ([[g2],(Value.slice A8 n9 c10).ownBlock.toList,(Value.slice A14 n15 c16).ownBlock.toList]:List (List Nat)),b ∉ o) (hL0:B.Loc w w [.box g2 Tb3 [.slice A4 n5 c6,.int .i64 x1.at_,.int .i64 x1.end_,.slice A8 n9 c10,.slice A14 n15 c16,.int .i64 x1.code,.int .i64 x1.place],.own (.slice A8 n9 c10) 45 5 n9 (x1.q.nodes.flatMap Am),.own (.slice A14 n15 c16) 47 4 n15 (x1.q.conds.flatMap Bj)] [Sm w.heap.size F w [[g2],(Value.slice A8 n9 c10).ownBlock.toList,(Value.slice A14 n15 c16).ownBlock.toList],St w [[g2],(Value.slice A8 n9 c10).ownBlock.toList,(Value.slice A14 n15 c16).ownBlock.toList]]) (r:Ai) (h:Rz x1 r):Calls Tryd.prog 60 #[.pointer (some ⟨g2,0,none⟩)] w (Gm w F g2 Tb3 A8 n9 c10 z12 A14 n15 c16 z18 r):=by
 obtain ⟨n,h⟩:=h
 exact (Ug n) w F x1 g2 Tb3 A4 n5 c6 z12 A8 n9 c10 z18 A14 n15 c16 h7 hz13 h11 hz19 h17 hF hL0 r h
abbrev Js (w:World) (F:Nat→Prop) (g2:Nat) (Tb3:Nat) (A8:Option Addr) (n9:Nat) (c10:Nat) (z12:Nat) (A14:Option Addr) (n15:Nat) (c16:Nat) (z18:Nat) (r:ByteArray × Ai):Ending→World→Prop:=fun e w'=>∃ A1:Option Addr,∃ n1:Nat,∃ c1:Nat,∃ A2:Option Addr,∃ n2:Nat,∃ c2:Nat,∃ A0:Option Addr,∃ n0:Nat,∃ c0:Nat,e=.returned (.string r.1)∧B.Loc w w' [.box g2 Tb3 [.slice A0 n0 c0,.int .i64 r.2.at_,.int .i64 r.2.end_,.slice A1 n1 c1,.slice A2 n2 c2,.int .i64 r.2.code,.int .i64 r.2.place],.own (.slice A1 n1 c1) 45 5 n1 (r.2.q.nodes.flatMap Am),.own (.slice A2 n2 c2) 47 4 n2 (r.2.q.conds.flatMap Bj)] [St w [[g2],(Value.slice A8 n9 c10).ownBlock.toList,(Value.slice A14 n15 c16).ownBlock.toList]]∧Ow z12 A1 n1 c1 r.2.q.nodes∧Ow z18 A2 n2 c2 r.2.q.conds∧Rw D5 w' (Nw w w' F [.box g2 Tb3 [.slice A0 n0 c0,.int .i64 r.2.at_,.int .i64 r.2.end_,.slice A1 n1 c1,.slice A2 n2 c2,.int .i64 r.2.code,.int .i64 r.2.place],.own (.slice A1 n1 c1) 45 5 n1 (r.2.q.nodes.flatMap Am),.own (.slice A2 n2 c2) 47 4 n2 (r.2.q.conds.flatMap Bj)]) A0 n0 c0 r.2.words
noncomputable abbrev Xaa (w:World) (F:Nat→Prop) (g2:Nat) (Tb3:Nat) (A8:Option Addr) (n9:Nat) (c10:Nat) (z12:Nat) (A14:Option Addr) (n15:Nat) (c16:Nat) (z18:Nat) (r:ByteArray × Ai):Cx:=⟨Tryd.prog,92,Tryd.f92,29,Js w F g2 Tb3 A8 n9 c10 z12 A14 n15 c16 z18 r,w⟩
theorem S9 (w:World) (F:Nat→Prop) (x1:Ai) (g2:Nat) (Tb3:Nat) (A4:Option Addr) (n5:Nat) (c6:Nat) (z12:Nat) (A8:Option Addr) (n9:Nat) (c10:Nat) (z18:Nat) (A14:Option Addr) (n15:Nat) (c16:Nat) (h7:Rw D5 w F A4 n5 c6 x1.words) (hz13:z12≤w.heap.size) (h11:Ow z12 A8 n9 c10 x1.q.nodes) (hz19:z18≤w.heap.size) (h17:Ow z18 A14 n15 c16 x1.q.conds) (hF:∀ b,F b→b < w.heap.size∧∀ o ∈ ([[g2],(Value.slice A8 n9 c10).ownBlock.toList,(Value.slice A14 n15 c16).ownBlock.toList]:List (List Nat)),b ∉ o) (hL0:B.Loc w w [.box g2 Tb3 [.slice A4 n5 c6,.int .i64 x1.at_,.int .i64 x1.end_,.slice A8 n9 c10,.slice A14 n15 c16,.int .i64 x1.code,.int .i64 x1.place],.own (.slice A8 n9 c10) 45 5 n9 (x1.q.nodes.flatMap Am),.own (.slice A14 n15 c16) 47 4 n15 (x1.q.conds.flatMap Bj)] [Sm w.heap.size F w [[g2],(Value.slice A8 n9 c10).ownBlock.toList,(Value.slice A14 n15 c16).ownBlock.toList],St w [[g2],(Value.slice A8 n9 c10).ownBlock.toList,(Value.slice A14 n15 c16).ownBlock.toList]]) (r:ByteArray × Ai) (h:Jm x1 r):Calls Tryd.prog 92 #[.pointer (some ⟨g2,0,none⟩)] w (Js w F g2 Tb3 A8 n9 c10 z12 A14 n15 c16 z18 r):=by
 unfold Jm at h
 have h7:=Rw.into (bs:=[[g2],(Value.slice A8 n9 c10).ownBlock.toList,(Value.slice A14 n15 c16).ownBlock.toList]) hF h7
 refine Ce (vs:=[.pointer (some ⟨g2,0,none⟩)]) 29 Tryd.func92 rfl Tryd.ntmps92 rfl hL0 ?_
 show G (Xaa w F g2 Tb3 A8 n9 c10 z12 A14 n15 c16 z18 r) _ _ _ _
 refine Ah rfl<|Ac rfl rfl<|Aa 0 rfl (Af rfl) gn rfl<|Aj 1 rfl<|Ah rfl<|Ac rfl rfl<|Aa 0 rfl (Ad rfl) gn rfl ?_
 obtain ⟨r23,hv24,h⟩:=h
 refine Cf 1 rfl (D8 [.pointer (some ⟨g2,0,none⟩),.string (⟨#[64]⟩:ByteArray)] rfl Tryd.func90 rfl rfl rfl fun w20 hL21=>?_) gn
 have hp22:=pmI hL21 (.c 0 rfl (.c 1 rfl (.c 2 rfl .n))) .n (by kernel_rfl)
 refine Calls.mono (Ie w20 (Fl ([Sm w.heap.size F w [[g2],(Value.slice A8 n9 c10).ownBlock.toList,(Value.slice A14 n15 c16).ownBlock.toList]]:List Cc)) x1 (⟨#[64]⟩:ByteArray) g2 Tb3 A4 n5 c6 z12 A8 n9 c10 z18 A14 n15 c16 (Rw.mono h7 (hL21.toFl (me 0 rfl) (me 0 rfl))) (Nat.le_trans hz13 hL21.env.size) h11 (Nat.le_trans hz19 hL21.env.size) h17 (hL21.hFl hp22 (Bi [0] rfl)) (hL21.into hp22 _) r23 hv24) ?_
 rintro _ w39 ⟨A29,n30,c31,A34,n35,c36,A25,n26,c27,rfl,hM40,h32,h37,h28⟩
 obtain ⟨sb43,hL41,hv42⟩:=hL21.callB (Sl:=([Sm w.heap.size F w [[g2],(Value.slice A8 n9 c10).ownBlock.toList,(Value.slice A14 n15 c16).ownBlock.toList]]:List Cc)) hp22 hM40 F (Bi [0] rfl) ⟨Sm.ok,trivial⟩
 have h28:At D5 (Sm w.heap.size F w39 sb43) A25 n26 c27 r23.words:=Rw.mono h28 hv42
 refine ⟨_,_,_,rfl,hL41,?_⟩
 refine Aj 2 rfl<|Ah rfl<|Ac rfl rfl<|Aa 0 rfl (Ad rfl) gn rfl<|Aa 1 rfl (Bc rfl) gn rfl<|Aa 2 rfl (Aw Eg rfl) gn rfl<|Aa 3 rfl (Au 0 H9 rfl rfl rfl) gn rfl<|Aa 4 rfl (Af rfl) gn rfl<|Aj 5 rfl<|Ah rfl<|Ah rfl<|Ac rfl rfl ?_
 refine Aa 0 rfl (Ad rfl) gn rfl<|Aa 1 rfl (Bc rfl) gn rfl<|Aa 2 rfl (Aw Ql rfl) gn rfl<|Aa 3 rfl (Au 0 Z4 rfl rfl rfl) gn rfl<|Aa 4 rfl (Be rfl rfl rfl) gn rfl<|Aj 5 rfl ?_
 by_cases hp44:r23.code=0
 ·have h:=Ap hp44 h
  refine Bg rfl _ rfl ((Xd2 hp44))<|Cb rfl<|Ah rfl<|Ac rfl rfl<|Aa 0 rfl (Ad rfl) gn rfl ?_
  obtain ⟨r48,hv49,h⟩:=h
  refine Cf 1 rfl (D8 [.pointer (some ⟨g2,0,none⟩)] rfl Tryd.func89 rfl rfl rfl fun w45 hL46=>?_) gn
  have hp47:=pmI hL46 (.c 0 rfl (.c 1 rfl (.c 2 rfl .n))) .n (by kernel_rfl)
  refine Calls.mono (Md w45 (Fl ([Sm w.heap.size F w39 sb43]:List Cc)) r23 g2 Tb3 A25 n26 c27 z12 A29 n30 c31 z18 A34 n35 c36 (Rw.mono h28 (hL46.toFl (me 0 rfl) (me 0 rfl))) (Nat.le_trans hz13 hL46.env.size) h32 (Nat.le_trans hz19 hL46.env.size) h37 (hL46.hFl hp47 (Bi [0] rfl)) (hL46.into hp47 _) r48 hv49) ?_
  rintro _ w65 ⟨A54,n55,c56,A59,n60,c61,A50,n51,c52,rfl,hM66,h57,h62,h53⟩
  obtain ⟨sb69,hL67,hv68⟩:=hL46.callB (Sl:=([Sm w.heap.size F w39 sb43]:List Cc)) hp47 hM66 F (Bi [0] rfl) ⟨Sm.ok,trivial⟩
  have h53:At D5 (Sm w.heap.size F w65 sb69) A50 n51 c52 r48.2.words:=Rw.mono h53 hv68
  refine ⟨_,_,_,rfl,hL67,?_⟩
  refine Aa 2 rfl (Af rfl) gn rfl<|Aj 3 rfl<|Ah rfl<|Ah rfl<|Ac rfl rfl<|Aa 0 rfl (Ad rfl) gn rfl<|Aa 1 rfl (Bc rfl) gn rfl<|Aa 2 rfl (Aw P9 rfl) gn rfl<|Aa 3 rfl (Nj [.slice A54 n55 c56,.slice A59 n60 c61] 0 U4 rfl rfl rfl rfl) gn rfl<|Aa 4 rfl (Ad rfl) gn rfl ?_
  obtain ⟨r73,hv74,h⟩:=h
  refine Cf 5 rfl (D8 [.agg #[.slice A54 n55 c56,.slice A59 n60 c61],.string r48.1] rfl Tryd.func43 rfl rfl rfl fun w70 hL71=>?_) gn
  have hp72:=pmI hL71 .n (.c 0 rfl (.c 1 rfl (.c 2 rfl .n))) (by kernel_rfl)
  refine Calls.mono (Jj w70 (Fl ([]:List Cc)) r48.2.q r48.1 A54 n55 c56 A59 n60 c61 (hL71.argO (dk:=Dl) hp72 [] rfl 1 rfl rfl h57 (me 2 rfl) (Cells.flat _)) (hL71.argO (dk:=Gg) hp72 [] rfl 2 rfl rfl h62 (me 2 rfl) (Cells.flat _)) (hL71.hFl hp72 (Bi [] rfl)) (hL71.into hp72 _) r73 hv74) ?_
  rintro _ w75 ⟨rfl,hM76⟩
  have hL77:=hL71.call hp72 hM76
  refine ⟨_,_,_,rfl,hL77,?_⟩
  refine Aa 6 rfl (Be rfl rfl rfl) gn rfl<|Aj 7 rfl ?_
  by_cases hp78:r73 < 0
  ·have h:=Ap hp78 h
   refine Bz rfl _ rfl ((decide_eq_true hp78))<|Ac rfl rfl<|Aa 0 rfl (Ad rfl) gn rfl<|Aa 1 rfl (Ad rfl) gn rfl ?_
   obtain ⟨r82,hv83,h⟩:=h
   refine Cf 2 rfl (D8 [.pointer (some ⟨g2,0,none⟩),.int .i64 201,.int .i64 r23.at_] rfl Tryd.func88 rfl rfl rfl fun w79 hL80=>?_) gn
   have hp81:=pmI hL80 (.c 0 rfl (.c 1 rfl (.c 2 rfl .n))) .n (by kernel_rfl)
   refine Calls.mono (G7 w79 (Fl ([Sm w.heap.size F w65 sb69]:List Cc)) r48.2 201 r23.at_ g2 Tb3 A50 n51 c52 z12 A54 n55 c56 z18 A59 n60 c61 (Rw.mono h53 (hL80.toFl (me 0 rfl) (me 0 rfl))) (Nat.le_trans hz13 hL80.env.size) h57 (Nat.le_trans hz19 hL80.env.size) h62 (hL80.hFl hp81 (Bi [0] rfl)) (hL80.into hp81 _) r82 hv83) ?_
   rintro _ w98 ⟨A88,n89,c90,A93,n94,c95,A84,n85,c86,rfl,hM99,h91,h96,h87⟩
   obtain ⟨sb102,hL100,hv101⟩:=hL80.callB (Sl:=([Sm w.heap.size F w65 sb69]:List Cc)) hp81 hM99 F (Bi [0] rfl) ⟨Sm.ok,trivial⟩
   have h87:At D5 (Sm w.heap.size F w98 sb102) A84 n85 c86 r82.words:=Rw.mono h87 hv101
   refine ⟨_,_,_,rfl,hL100,?_⟩
   refine Aj 3 rfl<|Ah rfl<|Ac rfl rfl<|Aa 0 rfl (Ad rfl) gn rfl<|Aa 1 rfl (Af rfl) gn rfl<|Aj 2 rfl ?_
   refine C9 [.string r48.1] rfl Tryd.func92 rfl (.tmp rfl (.nil)) fun wr hLr=>?_
   have hMr:=hLr.pkI (.c 0 rfl (.c 1 rfl (.c 2 rfl .n))) .n (by kernel_rfl) (.c 4 rfl .n)
   have hMi:=hLr.selI (.c 0 rfl (.c 1 rfl (.c 2 rfl .n)))
   show Js w F g2 Tb3 A8 n9 c10 z12 A14 n15 c16 z18 r (.returned (Ci [.string r48.1])) wr
   rw [h]
   exact ⟨A88,n89,c90,A93,n94,c95,A84,n85,c86,rfl,hMr,h91,h96,(hLr.outR (s:=Sm w.heap.size F w98 sb102) hMi (me 0 rfl) Sm.ok h87)⟩
  ·have h:=Aq hp78 h
   refine Bg rfl _ rfl ((decide_eq_false hp78))<|Cb rfl<|Ah rfl<|Ac rfl rfl<|Aa 0 rfl (Ad rfl) gn rfl<|Aa 1 rfl (Af rfl) gn rfl<|Aj 2 rfl ?_
   refine C9 [.string r48.1] rfl Tryd.func92 rfl (.tmp rfl (.nil)) fun wr hLr=>?_
   have hMr:=hLr.pkI (.c 0 rfl (.c 1 rfl (.c 2 rfl .n))) .n (by kernel_rfl) (.c 3 rfl .n)
   have hMi:=hLr.selI (.c 0 rfl (.c 1 rfl (.c 2 rfl .n)))
   show Js w F g2 Tb3 A8 n9 c10 z12 A14 n15 c16 z18 r (.returned (Ci [.string r48.1])) wr
   rw [h]
   exact ⟨A54,n55,c56,A59,n60,c61,A50,n51,c52,rfl,hMr,h57,h62,(hLr.outR (s:=Sm w.heap.size F w65 sb69) hMi (me 0 rfl) Sm.ok h53)⟩
 ·have h:=Aq hp44 h
  refine Bz rfl _ rfl ((Xde hp44))<|Ah rfl<|Ac rfl rfl<|Aa 0 rfl (Af rfl) gn rfl<|Aj 1 rfl ?_
  refine C9 [.string (⟨#[]⟩:ByteArray)] rfl Tryd.func92 rfl (.tmp rfl (.nil)) fun wr hLr=>?_
  have hMr:=hLr.pkI (.c 0 rfl (.c 1 rfl (.c 2 rfl .n))) .n (by kernel_rfl) (.c 2 rfl .n)
  have hMi:=hLr.selI (.c 0 rfl (.c 1 rfl (.c 2 rfl .n)))
  show Js w F g2 Tb3 A8 n9 c10 z12 A14 n15 c16 z18 r (.returned (Ci [.string (⟨#[]⟩:ByteArray)])) wr
  rw [h]
  exact ⟨A29,n30,c31,A34,n35,c36,A25,n26,c27,rfl,hMr,h32,h37,(hLr.outR (s:=Sm w.heap.size F w39 sb43) hMi (me 0 rfl) Sm.ok h28)⟩
end Go.Proofs.YtjookebbmfiidaaDoor.K
