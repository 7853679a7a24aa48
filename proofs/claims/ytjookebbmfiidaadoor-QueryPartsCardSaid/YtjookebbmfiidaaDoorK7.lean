/- What the machine's calls do, function by function, printed by my own tool. Condition of each: its relation holds of the answer, and what is handed in lies in memory as told. -/
import Derived.Test.YtjookebbmfiidaaDoorK6
set_option linter.unusedVariables false
set_option maxRecDepth 100000
set_option maxHeartbeats 4000000
namespace Go.Proofs.YtjookebbmfiidaaDoor.K
open Go.Proofs.YtjookebbmfiidaaDoor.B Go.Proofs.YtjookebbmfiidaaDoor.R Go.RowKit
noncomputable abbrev q61c4:=Code.snd (Code.snd (Dv Tryd.f61))
noncomputable abbrev Xk1:=Code.snd (Code.snd (Code.snd (Code.snd q61c4)))
noncomputable abbrev Xja:=Code.snd Xk1
noncomputable abbrev Xm6:=Code.fst (Code.fst Xk1)
noncomputable abbrev q61c37:=Code.snd (Code.fst Xk1)
noncomputable abbrev q61c40:=Code.fst (Code.fst q61c37)
abbrev J3 (w:World) (F:Nat→Prop) (g2:Nat) (Tb3:Nat) (A8:Option Addr) (n9:Nat) (c10:Nat) (z12:Nat) (A14:Option Addr) (n15:Nat) (c16:Nat) (z18:Nat) (r:Ai):Ending→World→Prop:=fun e w'=>∃ A1:Option Addr,∃ n1:Nat,∃ c1:Nat,∃ A2:Option Addr,∃ n2:Nat,∃ c2:Nat,∃ A0:Option Addr,∃ n0:Nat,∃ c0:Nat,e=.returned (.tuple #[])∧B.Loc w w' [.box g2 Tb3 [.slice A0 n0 c0,.int .i64 r.at_,.int .i64 r.end_,.slice A1 n1 c1,.slice A2 n2 c2,.int .i64 r.code,.int .i64 r.place],.own (.slice A1 n1 c1) 45 5 n1 (r.q.nodes.flatMap Am),.own (.slice A2 n2 c2) 47 4 n2 (r.q.conds.flatMap Bj)] [St w [[g2],(Value.slice A8 n9 c10).ownBlock.toList,(Value.slice A14 n15 c16).ownBlock.toList]]∧Ow z12 A1 n1 c1 r.q.nodes∧Ow z18 A2 n2 c2 r.q.conds∧Rw D5 w' (Nw w w' F [.box g2 Tb3 [.slice A0 n0 c0,.int .i64 r.at_,.int .i64 r.end_,.slice A1 n1 c1,.slice A2 n2 c2,.int .i64 r.code,.int .i64 r.place],.own (.slice A1 n1 c1) 45 5 n1 (r.q.nodes.flatMap Am),.own (.slice A2 n2 c2) 47 4 n2 (r.q.conds.flatMap Bj)]) A0 n0 c0 r.words
noncomputable abbrev Px (w:World) (F:Nat→Prop) (g2:Nat) (Tb3:Nat) (A8:Option Addr) (n9:Nat) (c10:Nat) (z12:Nat) (A14:Option Addr) (n15:Nat) (c16:Nat) (z18:Nat) (r:Ai):Cx:=⟨Tryd.prog,61,Tryd.f61,125,J3 w F g2 Tb3 A8 n9 c10 z12 A14 n15 c16 z18 r,w⟩
theorem Xa2 (w:World) (F:Nat→Prop) (x1:Ai) (g2:Nat) (Tb3:Nat) (A4:Option Addr) (n5:Nat) (c6:Nat) (z12:Nat) (A8:Option Addr) (n9:Nat) (c10:Nat) (z18:Nat) (A14:Option Addr) (n15:Nat) (c16:Nat) (h7:Rw D5 w F A4 n5 c6 x1.words) (hz13:z12≤w.heap.size) (h11:Ow z12 A8 n9 c10 x1.q.nodes) (hz19:z18≤w.heap.size) (h17:Ow z18 A14 n15 c16 x1.q.conds) (hF:∀ b,F b→b < w.heap.size∧∀ o ∈ ([[g2],(Value.slice A8 n9 c10).ownBlock.toList,(Value.slice A14 n15 c16).ownBlock.toList]:List (List Nat)),b ∉ o) (hL0:B.Loc w w [.box g2 Tb3 [.slice A4 n5 c6,.int .i64 x1.at_,.int .i64 x1.end_,.slice A8 n9 c10,.slice A14 n15 c16,.int .i64 x1.code,.int .i64 x1.place],.own (.slice A8 n9 c10) 45 5 n9 (x1.q.nodes.flatMap Am),.own (.slice A14 n15 c16) 47 4 n15 (x1.q.conds.flatMap Bj)] [Sm w.heap.size F w [[g2],(Value.slice A8 n9 c10).ownBlock.toList,(Value.slice A14 n15 c16).ownBlock.toList],St w [[g2],(Value.slice A8 n9 c10).ownBlock.toList,(Value.slice A14 n15 c16).ownBlock.toList]]) (r:Ai) (h:J6 x1 r):Calls Tryd.prog 61 #[.pointer (some ⟨g2,0,none⟩)] w (J3 w F g2 Tb3 A8 n9 c10 z12 A14 n15 c16 z18 r):=by
 unfold J6 at h
 have h7:=Rw.into (bs:=[[g2],(Value.slice A8 n9 c10).ownBlock.toList,(Value.slice A14 n15 c16).ownBlock.toList]) hF h7
 refine Ce (vs:=[.pointer (some ⟨g2,0,none⟩)]) 125 Tryd.func61 rfl Tryd.ntmps61 rfl hL0 ?_
 show G (Px w F g2 Tb3 A8 n9 c10 z12 A14 n15 c16 z18 r) _ _ _ _
 refine Ah rfl<|Ac rfl rfl ?_
 refine Cf 0 rfl (Gz [.bool false,.string (⟨#[]⟩:ByteArray),.string (⟨#[]⟩:ByteArray),.string (⟨#[]⟩:ByteArray)] zr_47 rfl fun gb20=>?_) gn
 refine Aj 1 rfl<|Ah rfl<|Df rfl<|Ah rfl<|Ac rfl rfl<|Aa 0 rfl (Ad rfl) gn rfl<|Aa 1 rfl (Ad rfl) gn rfl<|Aa 2 rfl (Bc rfl) gn rfl<|Aa 3 rfl (Aw Eg rfl) gn rfl<|Aa 4 rfl (Au 1 H9 rfl rfl rfl) gn rfl ?_
 obtain ⟨r25,hv26,h⟩:=h
 refine Cf 5 rfl (D8 [.pointer (some ⟨g2,0,none⟩),.int .i64 x1.at_,.int .i64 1,.string (⟨#[117,110,108,101,115,115]⟩:ByteArray)] rfl Tryd.func91 rfl rfl rfl fun w22 hL23=>?_) gn
 have hp24:=pmI hL23 (.c 1 rfl (.c 2 rfl (.c 3 rfl .n))) (.c 0 rfl .n) (by kernel_rfl)
 refine Calls.mono (H6 w22 (Fl ([Sm w.heap.size F w [[g2],(Value.slice A8 n9 c10).ownBlock.toList,(Value.slice A14 n15 c16).ownBlock.toList]]:List Cc)) x1 x1.at_ 1 (⟨#[117,110,108,101,115,115]⟩:ByteArray) g2 Tb3 A4 n5 c6 z12 A8 n9 c10 z18 A14 n15 c16 (Rw.mono h7 (hL23.toFl (me 0 rfl) (me 0 rfl))) (Nat.le_trans hz13 hL23.env.size) h11 (Nat.le_trans hz19 hL23.env.size) h17 (hL23.hFl hp24 (Bi [0] rfl)) (hL23.into hp24 _) r25 hv26) ?_
 rintro _ w41 ⟨A31,n32,c33,A36,n37,c38,A27,n28,c29,rfl,hM42,h34,h39,h30⟩
 obtain ⟨sb45,hL43,hv44⟩:=hL23.callB (Sl:=([Sm w.heap.size F w [[g2],(Value.slice A8 n9 c10).ownBlock.toList,(Value.slice A14 n15 c16).ownBlock.toList]]:List Cc)) hp24 hM42 F (Bi [0] rfl) ⟨Sm.ok,trivial⟩
 have h30:At D5 (Sm w.heap.size F w41 sb45) A27 n28 c29 r25.2.words:=Rw.mono h30 hv44
 refine ⟨_,_,_,rfl,hL43,?_⟩
 refine Aa 6 rfl (Af rfl) gn rfl<|Aj 7 rfl ?_
 have j1:∀ (x97:List Ak) (x104:Int) (x105:Int) (x106:List Ag) (x111:List Bh) (x116:Int) (x117:Int) (x118:Bool) (h:Ig x97 x104 x105 x106 x111 x116 x117 x118 r) (A98:Option Addr) (n99:Nat) (c100:Nat) (sw101:World) (sb102:List (List Nat)) (h103:At D5 (Sm w.heap.size F sw101 sb102) A98 n99 c100 x97) (A107:Option Addr) (n108:Nat) (c109:Nat) (h110:Ow z12 A107 n108 c109 x106) (A112:Option Addr) (n113:Nat) (c114:Nat) (h115:Ow z18 A112 n113 c114 x111),G (Px w F g2 Tb3 A8 n9 c10 z12 A14 n15 c16 z18 r) [.inBlock 0,.code q61c4] [(0,.pointer (some ⟨g2,0,none⟩)),(2,.pointer (some ⟨gb20,0,none⟩))] [.own (.slice A107 n108 c109) 45 5 n108 (x106.flatMap Am),.own (.slice A112 n113 c114) 47 4 n113 (x111.flatMap Bj),.box g2 Tb3 [.slice A98 n99 c100,.int .i64 x104,.int .i64 x105,.slice A107 n108 c109,.slice A112 n113 c114,.int .i64 x116,.int .i64 x117],.box gb20 47 [.bool x118,.string (⟨#[]⟩:ByteArray),.string (⟨#[]⟩:ByteArray),.string (⟨#[]⟩:ByteArray)]] [Sm w.heap.size F sw101 sb102,Sm w.heap.size F w41 sb45,Sm w.heap.size F w [[g2],(Value.slice A8 n9 c10).ownBlock.toList,(Value.slice A14 n15 c16).ownBlock.toList],St w [[g2],(Value.slice A8 n9 c10).ownBlock.toList,(Value.slice A14 n15 c16).ownBlock.toList]]:=by
  intro x97 x104 x105 x106 x111 x116 x117 x118 h A98 n99 c100 sw101 sb102 h103 A107 n108 c109 h110 A112 n113 c114 h115
  unfold Ig at h
  refine D7<|Ah rfl<|Ah rfl<|Ac rfl rfl<|Aa 0 rfl (Ad rfl) gn rfl<|Aa 1 rfl (Bc rfl) gn rfl<|Aa 2 rfl (Aw P9 rfl) gn rfl<|Aa 3 rfl (Aw U0 rfl) gn rfl<|Aa 4 rfl (Au 2 Xck rfl rfl rfl) gn rfl<|Aa 5 rfl (Dj Xhd rfl h115.hq) gn rfl<|Aa 6 rfl (Be rfl rfl rfl) gn rfl<|Aj 7 rfl ?_
  by_cases hp119:(x111.length:Int)=16
  ·have h:=Ap hp119 h
   refine Bz rfl _ rfl ((eqi hp119))<|Ah rfl<|Ac rfl rfl<|Aa 0 rfl (Ad rfl) gn rfl<|Aa 1 rfl (Ad rfl) gn rfl<|Aa 2 rfl (Bc rfl) gn rfl<|Aa 3 rfl (Aw Eg rfl) gn rfl<|Aa 4 rfl (Au 2 H9 rfl rfl rfl) gn rfl ?_
   obtain ⟨r123,hv124,h⟩:=h
   refine Cf 5 rfl (D8 [.pointer (some ⟨g2,0,none⟩),.int .i64 202,.int .i64 x104] rfl Tryd.func88 rfl rfl rfl fun w120 hL121=>?_) gn
   have hp122:=pmI hL121 (.c 2 rfl (.c 0 rfl (.c 1 rfl .n))) (.c 3 rfl .n) (by kernel_rfl)
   refine Calls.mono (G7 w120 (Fl ([Sm w.heap.size F sw101 sb102]:List Cc)) (⟨x97,x104,x105,(⟨x106,x111⟩:Ar),x116,x117⟩:Ai) 202 x104 g2 Tb3 A98 n99 c100 z12 A107 n108 c109 z18 A112 n113 c114 (Rw.mono h103 (hL121.toFl (me 0 rfl) (me 0 rfl))) (Nat.le_trans hz13 hL121.env.size) h110 (Nat.le_trans hz19 hL121.env.size) h115 (hL121.hFl hp122 (Bi [0] rfl)) (hL121.into hp122 _) r123 hv124) ?_
   rintro _ w139 ⟨A129,n130,c131,A134,n135,c136,A125,n126,c127,rfl,hM140,h132,h137,h128⟩
   obtain ⟨sb143,hL141,hv142⟩:=hL121.callB (Sl:=([Sm w.heap.size F sw101 sb102]:List Cc)) hp122 hM140 F (Bi [0] rfl) ⟨Sm.ok,trivial⟩
   have h128:At D5 (Sm w.heap.size F w139 sb143) A125 n126 c127 r123.words:=Rw.mono h128 hv142
   refine ⟨_,_,_,rfl,hL141,?_⟩
   refine Aj 6 rfl ?_
   refine C9 [] rfl Tryd.func61 rfl (.nil) fun wr hLr=>?_
   have hMr:=hLr.pkI (.c 0 rfl (.c 1 rfl (.c 2 rfl .n))) (.c 3 rfl .n) (by kernel_rfl) (.c 4 rfl .n)
   have hMi:=hLr.selI (.c 0 rfl (.c 1 rfl (.c 2 rfl .n)))
   show J3 w F g2 Tb3 A8 n9 c10 z12 A14 n15 c16 z18 r (.returned (Ci [])) wr
   rw [h]
   exact ⟨A129,n130,c131,A134,n135,c136,A125,n126,c127,rfl,hMr,h132,h137,(hLr.outR (s:=Sm w.heap.size F w139 sb143) hMi (me 0 rfl) Sm.ok h128)⟩
  ·have h:=Aq hp119 h
   refine Bg rfl _ rfl ((nei hp119))<|Cb rfl<|Ah rfl<|Ac rfl rfl<|Aa 0 rfl (Ad rfl) gn rfl<|Aa 1 rfl (Bc rfl) gn rfl<|Aa 2 rfl (Aw Eg rfl) gn rfl<|Aa 3 rfl (Au 2 H9 rfl rfl rfl) gn rfl<|Aa 4 rfl (Be rfl rfl rfl) gn rfl<|Aa 5 rfl (Bc rfl) gn rfl<|Aa 6 rfl (Aw Eg rfl) gn rfl ?_
   refine Cf 7 rfl (Fp (vs:=[.int .i64 (w64 (x104 + 1))]) (cs':=[.slice A98 n99 c100,.int .i64 (w64 (x104 + 1)),.int .i64 x105,.slice A107 n108 c109,.slice A112 n113 c114,.int .i64 x116,.int .i64 x117]) (M':=[.own (.slice A107 n108 c109) 45 5 n108 (x106.flatMap Am),.own (.slice A112 n113 c114) 47 4 n113 (x111.flatMap Bj),.box g2 Tb3 [.slice A98 n99 c100,.int .i64 (w64 (x104 + 1)),.int .i64 x105,.slice A107 n108 c109,.slice A112 n113 c114,.int .i64 x116,.int .i64 x117],.box gb20 47 [.bool x118,.string (⟨#[]⟩:ByteArray),.string (⟨#[]⟩:ByteArray),.string (⟨#[]⟩:ByteArray)]]) 2 Xar rfl rfl rfl rfl rfl rfl rfl rfl rfl ?_) gn
   refine Aj 8 rfl<|Ah rfl<|Ac rfl rfl<|Aa 0 rfl (Ad rfl) gn rfl ?_
   obtain ⟨r147,hv148,h⟩:=h
   refine Cf 1 rfl (D8 [.pointer (some ⟨g2,0,none⟩)] rfl Tryd.func92 rfl rfl rfl fun w144 hL145=>?_) gn
   have hp146:=pmI hL145 (.c 2 rfl (.c 0 rfl (.c 1 rfl .n))) (.c 3 rfl .n) (by kernel_rfl)
   refine Calls.mono (S9 w144 (Fl ([Sm w.heap.size F sw101 sb102]:List Cc)) (⟨x97,w64 (x104 + 1),x105,(⟨x106,x111⟩:Ar),x116,x117⟩:Ai) g2 Tb3 A98 n99 c100 z12 A107 n108 c109 z18 A112 n113 c114 (Rw.mono h103 (hL145.toFl (me 0 rfl) (me 0 rfl))) (Nat.le_trans hz13 hL145.env.size) h110 (Nat.le_trans hz19 hL145.env.size) h115 (hL145.hFl hp146 (Bi [0] rfl)) (hL145.into hp146 _) r147 hv148) ?_
   rintro _ w163 ⟨A153,n154,c155,A158,n159,c160,A149,n150,c151,rfl,hM164,h156,h161,h152⟩
   obtain ⟨sb167,hL165,hv166⟩:=hL145.callB (Sl:=([Sm w.heap.size F sw101 sb102]:List Cc)) hp146 hM164 F (Bi [0] rfl) ⟨Sm.ok,trivial⟩
   have h152:At D5 (Sm w.heap.size F w163 sb167) A149 n150 c151 r147.2.words:=Rw.mono h152 hv166
   refine ⟨_,_,_,rfl,hL165,?_⟩
   refine Aa 2 rfl (Aw Xdg rfl) gn rfl ?_
   refine Cf 3 rfl (Fp (vs:=[.string r147.1]) (cs':=[.bool x118,.string r147.1,.string (⟨#[]⟩:ByteArray),.string (⟨#[]⟩:ByteArray)]) (M':=[.box g2 Tb3 [.slice A149 n150 c151,.int .i64 r147.2.at_,.int .i64 r147.2.end_,.slice A153 n154 c155,.slice A158 n159 c160,.int .i64 r147.2.code,.int .i64 r147.2.place],.own (.slice A153 n154 c155) 45 5 n154 (r147.2.q.nodes.flatMap Am),.own (.slice A158 n159 c160) 47 4 n159 (r147.2.q.conds.flatMap Bj),.box gb20 47 [.bool x118,.string r147.1,.string (⟨#[]⟩:ByteArray),.string (⟨#[]⟩:ByteArray)]]) 3 sz_9 rfl rfl rfl rfl rfl rfl rfl rfl rfl ?_) gn
   refine Aj 4 rfl<|Ah rfl<|Ah rfl<|Ac rfl rfl<|Aa 0 rfl (Ad rfl) gn rfl<|Aa 1 rfl (Bc rfl) gn rfl<|Aa 2 rfl (Aw Ql rfl) gn rfl<|Aa 3 rfl (Au 0 Z4 rfl rfl rfl) gn rfl<|Aa 4 rfl (Be rfl rfl rfl) gn rfl<|Aj 5 rfl ?_
   have j2:∀ (x194:List Ak) (x201:Int) (x202:Int) (x203:List Ag) (x208:List Bh) (x213:Int) (x214:Int) (h:Fh x118 r147 x194 x201 x202 x203 x208 x213 x214 r) (A195:Option Addr) (n196:Nat) (c197:Nat) (sw198:World) (sb199:List (List Nat)) (h200:At D5 (Sm w.heap.size F sw198 sb199) A195 n196 c197 x194) (A204:Option Addr) (n205:Nat) (c206:Nat) (h207:Ow z12 A204 n205 c206 x203) (A209:Option Addr) (n210:Nat) (c211:Nat) (h212:Ow z18 A209 n210 c211 x208),G (Px w F g2 Tb3 A8 n9 c10 z12 A14 n15 c16 z18 r) [.code Xk1] [(0,.pointer (some ⟨g2,0,none⟩)),(2,.pointer (some ⟨gb20,0,none⟩))] [.own (.slice A204 n205 c206) 45 5 n205 (x203.flatMap Am),.own (.slice A209 n210 c211) 47 4 n210 (x208.flatMap Bj),.box g2 Tb3 [.slice A195 n196 c197,.int .i64 x201,.int .i64 x202,.slice A204 n205 c206,.slice A209 n210 c211,.int .i64 x213,.int .i64 x214],.box gb20 47 [.bool x118,.string r147.1,.string (⟨#[]⟩:ByteArray),.string (⟨#[]⟩:ByteArray)]] [Sm w.heap.size F sw198 sb199,Sm w.heap.size F w163 sb167,Sm w.heap.size F sw101 sb102,Sm w.heap.size F w41 sb45,Sm w.heap.size F w [[g2],(Value.slice A8 n9 c10).ownBlock.toList,(Value.slice A14 n15 c16).ownBlock.toList],St w [[g2],(Value.slice A8 n9 c10).ownBlock.toList,(Value.slice A14 n15 c16).ownBlock.toList]]:=by
    intro x194 x201 x202 x203 x208 x213 x214 h A195 n196 c197 sw198 sb199 h200 A204 n205 c206 h207 A209 n210 c211 h212
    unfold Fh at h
    refine Ah rfl<|Ah rfl ?_
    have j3:∀ (x222:Bool) (h:Gn x201 x194 x208 x118 r147 x202 x203 x213 x214 x222 r) ,G (Px w F g2 Tb3 A8 n9 c10 z12 A14 n15 c16 z18 r) [.code q61c37,.code Xja] [(0,.pointer (some ⟨g2,0,none⟩)),(2,.pointer (some ⟨gb20,0,none⟩)),(85,.bool x222)] [.own (.slice A204 n205 c206) 45 5 n205 (x203.flatMap Am),.own (.slice A209 n210 c211) 47 4 n210 (x208.flatMap Bj),.box g2 Tb3 [.slice A195 n196 c197,.int .i64 x201,.int .i64 x202,.slice A204 n205 c206,.slice A209 n210 c211,.int .i64 x213,.int .i64 x214],.box gb20 47 [.bool x118,.string r147.1,.string (⟨#[]⟩:ByteArray),.string (⟨#[]⟩:ByteArray)]] [Sm w.heap.size F sw198 sb199,Sm w.heap.size F w163 sb167,Sm w.heap.size F sw101 sb102,Sm w.heap.size F w41 sb45,Sm w.heap.size F w [[g2],(Value.slice A8 n9 c10).ownBlock.toList,(Value.slice A14 n15 c16).ownBlock.toList],St w [[g2],(Value.slice A8 n9 c10).ownBlock.toList,(Value.slice A14 n15 c16).ownBlock.toList]]:=by
     intro x222 h
     unfold Gn at h
     by_cases hp223:x222=true
     ·have h:=Ap hp223 h
      refine Bz rfl _ rfl (hp223)<|Ah rfl ?_
      obtain ⟨hb224,h⟩:=h
      have hns:Region.noSelect (Code.ops q61c40)=true:=by kernel_rfl
      refine Gf [12] 13 rfl rfl mix rfl (.c 0 rfl (.c 1 rfl (.c 2 rfl (.c 3 rfl (.c 4 rfl (.c 5 rfl .n))))))<|wfv 0 rfl (Ad rfl) gn hns (by kernel_rfl)<|wfv 1 rfl (Bc rfl) gn hns (by kernel_rfl)<|wfv 2 rfl (Aw Hr rfl) gn hns (by kernel_rfl)<|wfv 3 rfl (Au 2 Np rfl rfl rfl) gn hns (by kernel_rfl)<|wfv 4 rfl (Ad rfl) gn hns (by kernel_rfl)<|wfv 5 rfl (Bc rfl) gn hns (by kernel_rfl)<|wfv 6 rfl (Aw Eg rfl) gn hns (by kernel_rfl)<|wfv 7 rfl (Au 2 H9 rfl rfl rfl) gn hns (by kernel_rfl) ?_
      have hr227:=Rw.readF (s:=Sm w.heap.size F sw198 sb199) (hl:=Ei) (h1:=Eh) h200 hb224
      refine wfv 8 rfl (F5 (s:=Sm w.heap.size F sw198 sb199) Qj rfl rfl h200 hb224) gn hns (by kernel_rfl)<|wfv 9 rfl (Ja Kt rfl) gn hns (by kernel_rfl)<|wfv 10 rfl (Hq (kk:=(x201:Int).toNat * 4) (j:=1) (Sm w.heap.size F sw198 sb199) Ib rfl hr227 rfl (me 0 rfl)) gn hns (by kernel_rfl)<|wfv 11 rfl (Aw Xg4 rfl) gn hns (by kernel_rfl) ?_
      refine Cm [12] (by kernel_rfl) rfl ⟨Q7 12 rfl gn rfl (Fp (vs:=[.string ((ix x194 x201).text)]) (cs':=[.bool x118,.string r147.1,.string (⟨#[]⟩:ByteArray),.string ((ix x194 x201).text)]) (M':=[.own (.slice A204 n205 c206) 45 5 n205 (x203.flatMap Am),.own (.slice A209 n210 c211) 47 4 n210 (x208.flatMap Bj),.box g2 Tb3 [.slice A195 n196 c197,.int .i64 x201,.int .i64 x202,.slice A204 n205 c206,.slice A209 n210 c211,.int .i64 x213,.int .i64 x214],.box gb20 47 [.bool x118,.string r147.1,.string (⟨#[]⟩:ByteArray),.string ((ix x194 x201).text)]]) 3 sz_9 rfl rfl rfl rfl rfl rfl rfl rfl rfl ?_),trivial⟩
      unfold NxL
      refine E8 (by kernel_rfl)<|Ac rfl rfl<|Aa 0 rfl (Ad rfl) gn rfl<|Aa 1 rfl (Bc rfl) gn rfl<|Aa 2 rfl (Aw Eg rfl) gn rfl<|Aa 3 rfl (Au 2 H9 rfl rfl rfl) gn rfl<|Aa 4 rfl (Be rfl rfl rfl) gn rfl<|Aa 5 rfl (Bc rfl) gn rfl<|Aa 6 rfl (Aw Eg rfl) gn rfl ?_
      refine Cf 7 rfl (Fp (vs:=[.int .i64 (w64 (x201 + 1))]) (cs':=[.slice A195 n196 c197,.int .i64 (w64 (x201 + 1)),.int .i64 x202,.slice A204 n205 c206,.slice A209 n210 c211,.int .i64 x213,.int .i64 x214]) (M':=[.own (.slice A204 n205 c206) 45 5 n205 (x203.flatMap Am),.own (.slice A209 n210 c211) 47 4 n210 (x208.flatMap Bj),.box g2 Tb3 [.slice A195 n196 c197,.int .i64 (w64 (x201 + 1)),.int .i64 x202,.slice A204 n205 c206,.slice A209 n210 c211,.int .i64 x213,.int .i64 x214],.box gb20 47 [.bool x118,.string r147.1,.string (⟨#[]⟩:ByteArray),.string ((ix x194 x201).text)]]) 2 Xar rfl rfl rfl rfl rfl rfl rfl rfl rfl ?_) gn
      refine Aj 8 rfl ?_
      obtain ⟨x234,hv235,h⟩:=h
      obtain ⟨hb236,h⟩:=h
      have hns:Region.noSelect (Code.ops Xja)=true:=by kernel_rfl
      refine Vu [.own (.slice A204 n205 c206) 45 5 n205 (x203.flatMap Am),.box g2 Tb3 [.slice A195 n196 c197,.int .i64 (w64 (x201 + 1)),.int .i64 x202,.slice A204 n205 c206,.slice A209 n210 c211,.int .i64 x213,.int .i64 x214],.box gb20 47 [.bool x118,.string r147.1,.string (⟨#[]⟩:ByteArray),.string ((ix x194 x201).text)]] [Sm w.heap.size F sw198 sb199,Sm w.heap.size F w163 sb167,Sm w.heap.size F sw101 sb102,Sm w.heap.size F w41 sb45,Sm w.heap.size F w [[g2],(Value.slice A8 n9 c10).ownBlock.toList,(Value.slice A14 n15 c16).ownBlock.toList],St w [[g2],(Value.slice A8 n9 c10).ownBlock.toList,(Value.slice A14 n15 c16).ownBlock.toList]] [12] 13 rfl rfl mix rfl (.cons_cons _ (.cons _ (.cons_cons _ (.cons_cons _ (.slnil))))) (Bi [0,1,2,3,4,5] rfl)<|wfv 0 rfl (Ad rfl) gn hns (by kernel_rfl)<|wfv 1 rfl (Ad rfl) gn hns (by kernel_rfl)<|wfv 2 rfl (Bc rfl) gn hns (by kernel_rfl)<|wfv 3 rfl (Aw P9 rfl) gn hns (by kernel_rfl)<|wfv 4 rfl (Aw U0 rfl) gn hns (by kernel_rfl)<|wfv 5 rfl (Au 1 Xck rfl rfl rfl) gn hns (by kernel_rfl)<|wfv 6 rfl (Nj [.bool x118,.string r147.1,.string (⟨#[]⟩:ByteArray),.string ((ix x194 x201).text)] 2 Xif rfl rfl rfl rfl) gn hns (by kernel_rfl) ?_
      refine Cm [7] (by kernel_rfl) rfl ⟨Et 7 rfl gn rfl (Gw (xs:=([(⟨x118,r147.1,(⟨#[]⟩:ByteArray),(ix x194 x201).text⟩:Bh)]:List Bh)) [.bool x118,.string r147.1,.string (⟨#[]⟩:ByteArray),.string ((ix x194 x201).text)] Xk0 rfl (by kernel_rfl) rfl rfl rfl rfl fun gb249 h250=>?_),trivial⟩
      refine ⟨Bi [1,3,4] rfl,Bi [0,1,2,3,4,5] rfl,?_⟩
      refine Cm [8] (by kernel_rfl) rfl ⟨Et 8 rfl gn rfl (L8 (zs:=x234) (cells':=x234.flatMap Bj) 2 ap_23 rfl rfl rfl h212 hz19 (Src.ownF (hl:=Tc) (h1:=Ti) 0 rfl h250) (by rw [hv235,List.flatMap_append] <;> rfl) (Ff hv235 h250.hq) hb236 rfl rfl fun A254 c255 h256=>?_),trivial⟩
      refine ⟨Bi [1,3,4] rfl,Bi [0,1,2,3,4,5] rfl,?_⟩
      refine wfv 9 rfl (Bc rfl) gn hns (by kernel_rfl)<|wfv 10 rfl (Aw P9 rfl) gn hns (by kernel_rfl)<|wfv 11 rfl (Aw U0 rfl) gn hns (by kernel_rfl) ?_
      refine Cm [12] (by kernel_rfl) rfl ⟨Q7 12 rfl gn rfl (Fp (vs:=[.slice A254 (n210 + 1) c255]) (cs':=[.slice A195 n196 c197,.int .i64 (w64 (x201 + 1)),.int .i64 x202,.slice A204 n205 c206,.slice A254 (n210 + 1) c255,.int .i64 x213,.int .i64 x214]) (M':=[.own (.slice (some ⟨gb249,0,none⟩) 1 1) 47 4 1 (([(⟨x118,r147.1,(⟨#[]⟩:ByteArray),(ix x194 x201).text⟩:Bh)]:List Bh).flatMap Bj),.own (.slice A204 n205 c206) 45 5 n205 (x203.flatMap Am),.own (.slice A254 (n210 + 1) c255) 47 4 (n210 + 1) (x234.flatMap Bj),.box g2 Tb3 [.slice A195 n196 c197,.int .i64 (w64 (x201 + 1)),.int .i64 x202,.slice A204 n205 c206,.slice A254 (n210 + 1) c255,.int .i64 x213,.int .i64 x214],.box gb20 47 [.bool x118,.string r147.1,.string (⟨#[]⟩:ByteArray),.string ((ix x194 x201).text)]]) 3 sz_23 rfl rfl rfl rfl rfl rfl rfl rfl rfl ?_),trivial⟩
      unfold NxL
      refine E8 (by kernel_rfl) ?_
      refine Xr [] Tryd.func61 rfl (.nil) fun wr hLr=>?_
      have hMr:=hLr.pkI (.c 3 rfl (.c 1 rfl (.c 2 rfl .n))) (.c 0 rfl (.c 4 rfl .n)) (by kernel_rfl) (.c 5 rfl .n)
      have hMi:=hLr.selI (.c 3 rfl (.c 1 rfl (.c 2 rfl .n)))
      show J3 w F g2 Tb3 A8 n9 c10 z12 A14 n15 c16 z18 r (.returned (Ci [])) wr
      rw [h]
      exact ⟨A204,n205,c206,A254,n210 + 1,c255,A195,n196,c197,rfl,hMr,h207,h256,(hLr.outR (s:=Sm w.heap.size F sw198 sb199) hMi (me 0 rfl) Sm.ok h200)⟩
     ·have h:=Aq hp223 h
      refine Bg rfl _ rfl ((bf hp223))<|Ah rfl<|Ac rfl rfl<|Aa 0 rfl (Ad rfl) gn rfl<|Aa 1 rfl (Bc rfl) gn rfl<|Aa 2 rfl (Aw Ql rfl) gn rfl<|Aa 3 rfl (Au 2 Z4 rfl rfl rfl) gn rfl<|Aa 4 rfl (Be rfl rfl rfl) gn rfl<|Aj 5 rfl ?_
      by_cases hp257:x213=0
      ·have h:=Ap hp257 h
       refine Bz rfl _ rfl ((eqi hp257))<|Ac rfl rfl<|Aa 0 rfl (Ad rfl) gn rfl ?_
       obtain ⟨r261,hv262,h⟩:=h
       refine Cf 1 rfl (D8 [.pointer (some ⟨g2,0,none⟩)] rfl Tryd.func92 rfl rfl rfl fun w258 hL259=>?_) gn
       have hp260:=pmI hL259 (.c 2 rfl (.c 0 rfl (.c 1 rfl .n))) (.c 3 rfl .n) (by kernel_rfl)
       refine Calls.mono (S9 w258 (Fl ([Sm w.heap.size F sw198 sb199]:List Cc)) (⟨x194,x201,x202,(⟨x203,x208⟩:Ar),x213,x214⟩:Ai) g2 Tb3 A195 n196 c197 z12 A204 n205 c206 z18 A209 n210 c211 (Rw.mono h200 (hL259.toFl (me 0 rfl) (me 0 rfl))) (Nat.le_trans hz13 hL259.env.size) h207 (Nat.le_trans hz19 hL259.env.size) h212 (hL259.hFl hp260 (Bi [0] rfl)) (hL259.into hp260 _) r261 hv262) ?_
       rintro _ w277 ⟨A267,n268,c269,A272,n273,c274,A263,n264,c265,rfl,hM278,h270,h275,h266⟩
       obtain ⟨sb281,hL279,hv280⟩:=hL259.callB (Sl:=([Sm w.heap.size F sw198 sb199]:List Cc)) hp260 hM278 F (Bi [0] rfl) ⟨Sm.ok,trivial⟩
       have h266:At D5 (Sm w.heap.size F w277 sb281) A263 n264 c265 r261.2.words:=Rw.mono h266 hv280
       refine ⟨_,_,_,rfl,hL279,?_⟩
       refine Aa 2 rfl (Aw Xak rfl) gn rfl ?_
       refine Cf 3 rfl (Fp (vs:=[.string r261.1]) (cs':=[.bool x118,.string r147.1,.string r261.1,.string (⟨#[]⟩:ByteArray)]) (M':=[.box g2 Tb3 [.slice A263 n264 c265,.int .i64 r261.2.at_,.int .i64 r261.2.end_,.slice A267 n268 c269,.slice A272 n273 c274,.int .i64 r261.2.code,.int .i64 r261.2.place],.own (.slice A267 n268 c269) 45 5 n268 (r261.2.q.nodes.flatMap Am),.own (.slice A272 n273 c274) 47 4 n273 (r261.2.q.conds.flatMap Bj),.box gb20 47 [.bool x118,.string r147.1,.string r261.1,.string (⟨#[]⟩:ByteArray)]]) 3 sz_9 rfl rfl rfl rfl rfl rfl rfl rfl rfl ?_) gn
       refine Aj 4 rfl ?_
       obtain ⟨x288,hv289,h⟩:=h
       obtain ⟨hb290,h⟩:=h
       have hns:Region.noSelect (Code.ops Xja)=true:=by kernel_rfl
       refine Vu [.box g2 Tb3 [.slice A263 n264 c265,.int .i64 r261.2.at_,.int .i64 r261.2.end_,.slice A267 n268 c269,.slice A272 n273 c274,.int .i64 r261.2.code,.int .i64 r261.2.place],.own (.slice A267 n268 c269) 45 5 n268 (r261.2.q.nodes.flatMap Am),.box gb20 47 [.bool x118,.string r147.1,.string r261.1,.string (⟨#[]⟩:ByteArray)]] [Sm w.heap.size F w277 sb281,Sm w.heap.size F sw198 sb199,Sm w.heap.size F w163 sb167,Sm w.heap.size F sw101 sb102,Sm w.heap.size F w41 sb45,Sm w.heap.size F w [[g2],(Value.slice A8 n9 c10).ownBlock.toList,(Value.slice A14 n15 c16).ownBlock.toList],St w [[g2],(Value.slice A8 n9 c10).ownBlock.toList,(Value.slice A14 n15 c16).ownBlock.toList]] [12] 13 rfl rfl mix rfl (.cons_cons _ (.cons_cons _ (.cons _ (.cons_cons _ (.slnil))))) (Bi [0,1,2,3,4,5,6] rfl)<|wfv 0 rfl (Ad rfl) gn hns (by kernel_rfl)<|wfv 1 rfl (Ad rfl) gn hns (by kernel_rfl)<|wfv 2 rfl (Bc rfl) gn hns (by kernel_rfl)<|wfv 3 rfl (Aw P9 rfl) gn hns (by kernel_rfl)<|wfv 4 rfl (Aw U0 rfl) gn hns (by kernel_rfl)<|wfv 5 rfl (Au 0 Xck rfl rfl rfl) gn hns (by kernel_rfl)<|wfv 6 rfl (Nj [.bool x118,.string r147.1,.string r261.1,.string (⟨#[]⟩:ByteArray)] 2 Xif rfl rfl rfl rfl) gn hns (by kernel_rfl) ?_
       refine Cm [7] (by kernel_rfl) rfl ⟨Et 7 rfl gn rfl (Gw (xs:=([(⟨x118,r147.1,r261.1,(⟨#[]⟩:ByteArray)⟩:Bh)]:List Bh)) [.bool x118,.string r147.1,.string r261.1,.string (⟨#[]⟩:ByteArray)] Xk0 rfl (by kernel_rfl) rfl rfl rfl rfl fun gb303 h304=>?_),trivial⟩
       refine ⟨Bi [1,2,4] rfl,Bi [0,1,2,3,4,5,6] rfl,?_⟩
       refine Cm [8] (by kernel_rfl) rfl ⟨Et 8 rfl gn rfl (L8 (zs:=x288) (cells':=x288.flatMap Bj) 3 ap_23 rfl rfl rfl h275 hz19 (Src.ownF (hl:=Tc) (h1:=Ti) 0 rfl h304) (by rw [hv289,List.flatMap_append] <;> rfl) (Ff hv289 h304.hq) hb290 rfl rfl fun A308 c309 h310=>?_),trivial⟩
       refine ⟨Bi [1,2,4] rfl,Bi [0,1,2,3,4,5,6] rfl,?_⟩
       refine wfv 9 rfl (Bc rfl) gn hns (by kernel_rfl)<|wfv 10 rfl (Aw P9 rfl) gn hns (by kernel_rfl)<|wfv 11 rfl (Aw U0 rfl) gn hns (by kernel_rfl) ?_
       refine Cm [12] (by kernel_rfl) rfl ⟨Q7 12 rfl gn rfl (Fp (vs:=[.slice A308 (n273 + 1) c309]) (cs':=[.slice A263 n264 c265,.int .i64 r261.2.at_,.int .i64 r261.2.end_,.slice A267 n268 c269,.slice A308 (n273 + 1) c309,.int .i64 r261.2.code,.int .i64 r261.2.place]) (M':=[.own (.slice (some ⟨gb303,0,none⟩) 1 1) 47 4 1 (([(⟨x118,r147.1,r261.1,(⟨#[]⟩:ByteArray)⟩:Bh)]:List Bh).flatMap Bj),.box g2 Tb3 [.slice A263 n264 c265,.int .i64 r261.2.at_,.int .i64 r261.2.end_,.slice A267 n268 c269,.slice A308 (n273 + 1) c309,.int .i64 r261.2.code,.int .i64 r261.2.place],.own (.slice A267 n268 c269) 45 5 n268 (r261.2.q.nodes.flatMap Am),.own (.slice A308 (n273 + 1) c309) 47 4 (n273 + 1) (x288.flatMap Bj),.box gb20 47 [.bool x118,.string r147.1,.string r261.1,.string (⟨#[]⟩:ByteArray)]]) 1 sz_23 rfl rfl rfl rfl rfl rfl rfl rfl rfl ?_),trivial⟩
       unfold NxL
       refine E8 (by kernel_rfl) ?_
       refine Xr [] Tryd.func61 rfl (.nil) fun wr hLr=>?_
       have hMr:=hLr.pkI (.c 1 rfl (.c 2 rfl (.c 3 rfl .n))) (.c 0 rfl (.c 4 rfl .n)) (by kernel_rfl) (.c 6 rfl .n)
       have hMi:=hLr.selI (.c 1 rfl (.c 2 rfl (.c 3 rfl .n)))
       show J3 w F g2 Tb3 A8 n9 c10 z12 A14 n15 c16 z18 r (.returned (Ci [])) wr
       rw [h]
       exact ⟨A267,n268,c269,A308,n273 + 1,c309,A263,n264,c265,rfl,hMr,h270,h310,(hLr.outR (s:=Sm w.heap.size F w277 sb281) hMi (me 0 rfl) Sm.ok h266)⟩
      ·have h:=Aq hp257 h
       refine Bg rfl _ rfl ((nei hp257))<|Cb rfl ?_
       obtain ⟨x317,hv318,h⟩:=h
       obtain ⟨hb319,h⟩:=h
       have hns:Region.noSelect (Code.ops Xja)=true:=by kernel_rfl
       refine Vu [.own (.slice A204 n205 c206) 45 5 n205 (x203.flatMap Am),.box g2 Tb3 [.slice A195 n196 c197,.int .i64 x201,.int .i64 x202,.slice A204 n205 c206,.slice A209 n210 c211,.int .i64 x213,.int .i64 x214],.box gb20 47 [.bool x118,.string r147.1,.string (⟨#[]⟩:ByteArray),.string (⟨#[]⟩:ByteArray)]] [Sm w.heap.size F sw198 sb199,Sm w.heap.size F w163 sb167,Sm w.heap.size F sw101 sb102,Sm w.heap.size F w41 sb45,Sm w.heap.size F w [[g2],(Value.slice A8 n9 c10).ownBlock.toList,(Value.slice A14 n15 c16).ownBlock.toList],St w [[g2],(Value.slice A8 n9 c10).ownBlock.toList,(Value.slice A14 n15 c16).ownBlock.toList]] [12] 13 rfl rfl mix rfl (.cons_cons _ (.cons _ (.cons_cons _ (.cons_cons _ (.slnil))))) (Bi [0,1,2,3,4,5] rfl)<|wfv 0 rfl (Ad rfl) gn hns (by kernel_rfl)<|wfv 1 rfl (Ad rfl) gn hns (by kernel_rfl)<|wfv 2 rfl (Bc rfl) gn hns (by kernel_rfl)<|wfv 3 rfl (Aw P9 rfl) gn hns (by kernel_rfl)<|wfv 4 rfl (Aw U0 rfl) gn hns (by kernel_rfl)<|wfv 5 rfl (Au 1 Xck rfl rfl rfl) gn hns (by kernel_rfl)<|wfv 6 rfl (Nj [.bool x118,.string r147.1,.string (⟨#[]⟩:ByteArray),.string (⟨#[]⟩:ByteArray)] 2 Xif rfl rfl rfl rfl) gn hns (by kernel_rfl) ?_
       refine Cm [7] (by kernel_rfl) rfl ⟨Et 7 rfl gn rfl (Gw (xs:=([(⟨x118,r147.1,(⟨#[]⟩:ByteArray),(⟨#[]⟩:ByteArray)⟩:Bh)]:List Bh)) [.bool x118,.string r147.1,.string (⟨#[]⟩:ByteArray),.string (⟨#[]⟩:ByteArray)] Xk0 rfl (by kernel_rfl) rfl rfl rfl rfl fun gb332 h333=>?_),trivial⟩
       refine ⟨Bi [1,3,4] rfl,Bi [0,1,2,3,4,5] rfl,?_⟩
       refine Cm [8] (by kernel_rfl) rfl ⟨Et 8 rfl gn rfl (L8 (zs:=x317) (cells':=x317.flatMap Bj) 2 ap_23 rfl rfl rfl h212 hz19 (Src.ownF (hl:=Tc) (h1:=Ti) 0 rfl h333) (by rw [hv318,List.flatMap_append] <;> rfl) (Ff hv318 h333.hq) hb319 rfl rfl fun A337 c338 h339=>?_),trivial⟩
       refine ⟨Bi [1,3,4] rfl,Bi [0,1,2,3,4,5] rfl,?_⟩
       refine wfv 9 rfl (Bc rfl) gn hns (by kernel_rfl)<|wfv 10 rfl (Aw P9 rfl) gn hns (by kernel_rfl)<|wfv 11 rfl (Aw U0 rfl) gn hns (by kernel_rfl) ?_
       refine Cm [12] (by kernel_rfl) rfl ⟨Q7 12 rfl gn rfl (Fp (vs:=[.slice A337 (n210 + 1) c338]) (cs':=[.slice A195 n196 c197,.int .i64 x201,.int .i64 x202,.slice A204 n205 c206,.slice A337 (n210 + 1) c338,.int .i64 x213,.int .i64 x214]) (M':=[.own (.slice (some ⟨gb332,0,none⟩) 1 1) 47 4 1 (([(⟨x118,r147.1,(⟨#[]⟩:ByteArray),(⟨#[]⟩:ByteArray)⟩:Bh)]:List Bh).flatMap Bj),.own (.slice A204 n205 c206) 45 5 n205 (x203.flatMap Am),.own (.slice A337 (n210 + 1) c338) 47 4 (n210 + 1) (x317.flatMap Bj),.box g2 Tb3 [.slice A195 n196 c197,.int .i64 x201,.int .i64 x202,.slice A204 n205 c206,.slice A337 (n210 + 1) c338,.int .i64 x213,.int .i64 x214],.box gb20 47 [.bool x118,.string r147.1,.string (⟨#[]⟩:ByteArray),.string (⟨#[]⟩:ByteArray)]]) 3 sz_23 rfl rfl rfl rfl rfl rfl rfl rfl rfl ?_),trivial⟩
       unfold NxL
       refine E8 (by kernel_rfl) ?_
       refine Xr [] Tryd.func61 rfl (.nil) fun wr hLr=>?_
       have hMr:=hLr.pkI (.c 3 rfl (.c 1 rfl (.c 2 rfl .n))) (.c 0 rfl (.c 4 rfl .n)) (by kernel_rfl) (.c 5 rfl .n)
       have hMi:=hLr.selI (.c 3 rfl (.c 1 rfl (.c 2 rfl .n)))
       show J3 w F g2 Tb3 A8 n9 c10 z12 A14 n15 c16 z18 r (.returned (Ci [])) wr
       rw [h]
       exact ⟨A204,n205,c206,A337,n210 + 1,c338,A195,n196,c197,rfl,hMr,h207,h339,(hLr.outR (s:=Sm w.heap.size F sw198 sb199) hMi (me 0 rfl) Sm.ok h200)⟩
    by_cases hp340:x213=0
    ·have h:=Ap hp340 h
     by_cases hp341:x201 < (x194.length:Int)
     ·have h:=Ap hp341 h
      obtain ⟨hb342,h⟩:=h
      have hns:Region.noSelect (Code.ops Xm6)=true:=by kernel_rfl
      refine Gf [] 31 rfl rfl mix rfl (.c 0 rfl (.c 1 rfl (.c 2 rfl (.c 3 rfl (.c 4 rfl (.c 5 rfl .n))))))<|wfv 0 rfl (Ad rfl) gn hns rfl<|wfv 1 rfl (Bc rfl) gn hns rfl<|wfv 2 rfl (Aw Ql rfl) gn hns rfl<|wfv 3 rfl (Au 2 Z4 rfl rfl rfl) gn hns rfl<|wfv 4 rfl (Be rfl rfl rfl) gn hns rfl<|wfv 5 rfl (Ad rfl) gn hns rfl<|Kz 60 rfl ((eqi hp340))<|wfv 6 rfl (Ad rfl) (gy 60 rfl rfl) hns rfl<|wfv 7 rfl (Bc rfl) (gy 60 rfl rfl) hns rfl<|wfv 8 rfl (Aw Eg rfl) (gy 60 rfl rfl) hns rfl<|wfv 9 rfl (Au 2 H9 rfl rfl rfl) (gy 60 rfl rfl) hns rfl ?_
      refine wfv 10 rfl (Ad rfl) (gy 60 rfl rfl) hns rfl<|wfv 11 rfl (Bc rfl) (gy 60 rfl rfl) hns rfl<|wfv 12 rfl (Aw Hr rfl) (gy 60 rfl rfl) hns rfl<|wfv 13 rfl (Au 2 Np rfl rfl rfl) (gy 60 rfl rfl) hns rfl<|wfv 14 rfl (Dj Zh rfl h200.hq) (gy 60 rfl rfl) hns rfl<|wfv 15 rfl (Be rfl rfl rfl) (gy 60 rfl rfl) hns rfl<|wfv 16 rfl (Bd (b:=true) rfl rfl) gn hns rfl<|wfv 17 rfl (Ad rfl) gn hns rfl<|Kz 72 rfl ((decide_eq_true hp341))<|wfv 18 rfl (Ad rfl) (gy 72 rfl rfl) hns rfl<|wfv 19 rfl (Bc rfl) (gy 72 rfl rfl) hns rfl<|wfv 20 rfl (Aw Hr rfl) (gy 72 rfl rfl) hns rfl ?_
      refine wfv 21 rfl (Au 2 Np rfl rfl rfl) (gy 72 rfl rfl) hns rfl<|wfv 22 rfl (Ad rfl) (gy 72 rfl rfl) hns rfl<|wfv 23 rfl (Bc rfl) (gy 72 rfl rfl) hns rfl<|wfv 24 rfl (Aw Eg rfl) (gy 72 rfl rfl) hns rfl<|wfv 25 rfl (Au 2 H9 rfl rfl rfl) (gy 72 rfl rfl) hns rfl ?_
      have hr345:=Rw.readF (s:=Sm w.heap.size F sw198 sb199) (hl:=Ei) (h1:=Eh) h200 hb342
      refine wfv 26 rfl (F5 (s:=Sm w.heap.size F sw198 sb199) Qj rfl rfl h200 hb342) (gy 72 rfl rfl) hns rfl<|wfv 27 rfl (Ja Ve rfl) (gy 72 rfl rfl) hns rfl<|wfv 28 rfl (Hq (kk:=(x201:Int).toNat * 4) (j:=0) (Sm w.heap.size F sw198 sb199) Xb3 rfl hr345 rfl (me 0 rfl)) (gy 72 rfl rfl) hns rfl<|wfv 29 rfl (Be rfl rfl rfl) (gy 72 rfl rfl) hns rfl<|wfv 30 rfl (Bd (b:=true) rfl rfl) gn hns rfl<|E8 (by kernel_rfl) ?_
      exact Dc [0,1,2,3,4,5] (j3 (((ix x194 x201).kind) == 2) h) ⟨rfl,rfl,rfl,trivial⟩ (.cons_cons _ (.cons_cons _ (.cons_cons _ (.cons_cons _ (.slnil))))) rfl
     ·have h:=Aq hp341 h
      have hns:Region.noSelect (Code.ops Xm6)=true:=by kernel_rfl
      refine Gf [] 31 rfl rfl mix rfl (.c 0 rfl (.c 1 rfl (.c 2 rfl (.c 3 rfl (.c 4 rfl (.c 5 rfl .n))))))<|wfv 0 rfl (Ad rfl) gn hns rfl<|wfv 1 rfl (Bc rfl) gn hns rfl<|wfv 2 rfl (Aw Ql rfl) gn hns rfl<|wfv 3 rfl (Au 2 Z4 rfl rfl rfl) gn hns rfl<|wfv 4 rfl (Be rfl rfl rfl) gn hns rfl<|wfv 5 rfl (Ad rfl) gn hns rfl<|Kz 60 rfl ((eqi hp340))<|wfv 6 rfl (Ad rfl) (gy 60 rfl rfl) hns rfl<|wfv 7 rfl (Bc rfl) (gy 60 rfl rfl) hns rfl<|wfv 8 rfl (Aw Eg rfl) (gy 60 rfl rfl) hns rfl<|wfv 9 rfl (Au 2 H9 rfl rfl rfl) (gy 60 rfl rfl) hns rfl ?_
      refine wfv 10 rfl (Ad rfl) (gy 60 rfl rfl) hns rfl<|wfv 11 rfl (Bc rfl) (gy 60 rfl rfl) hns rfl<|wfv 12 rfl (Aw Hr rfl) (gy 60 rfl rfl) hns rfl<|wfv 13 rfl (Au 2 Np rfl rfl rfl) (gy 60 rfl rfl) hns rfl<|wfv 14 rfl (Dj Zh rfl h200.hq) (gy 60 rfl rfl) hns rfl<|wfv 15 rfl (Be rfl rfl rfl) (gy 60 rfl rfl) hns rfl<|wfv 16 rfl (Bd (b:=true) rfl rfl) gn hns rfl<|wfv 17 rfl (Ad rfl) gn hns rfl<|Kz 72 rfl ((decide_eq_false hp341))<|wfp 18 rfl (ps 72 rfl rfl rfl) hns rfl<|wfp 19 rfl (ps 72 rfl rfl rfl) hns rfl<|wfp 20 rfl (ps 72 rfl rfl rfl) hns rfl ?_
      refine wfp 21 rfl (ps 72 rfl rfl rfl) hns rfl<|wfp 22 rfl (ps 72 rfl rfl rfl) hns rfl<|wfp 23 rfl (ps 72 rfl rfl rfl) hns rfl<|wfp 24 rfl (ps 72 rfl rfl rfl) hns rfl<|wfp 25 rfl (ps 72 rfl rfl rfl) hns rfl<|wfp 26 rfl (ps 72 rfl rfl rfl) hns rfl<|wfp 27 rfl (ps 72 rfl rfl rfl) hns rfl<|wfp 28 rfl (ps 72 rfl rfl rfl) hns rfl<|wfp 29 rfl (ps 72 rfl rfl rfl) hns rfl<|wfv 30 rfl (Bd (b:=false) rfl rfl) gn hns rfl<|E8 (by kernel_rfl) ?_
      exact Dc [0,1,2,3,4,5] (j3 false h) ⟨rfl,rfl,rfl,trivial⟩ (.cons_cons _ (.cons_cons _ (.cons_cons _ (.cons_cons _ (.slnil))))) rfl
    ·have h:=Aq hp340 h
     have hns:Region.noSelect (Code.ops Xm6)=true:=by kernel_rfl
     refine Gf [] 31 rfl rfl mix rfl (.c 0 rfl (.c 1 rfl (.c 2 rfl (.c 3 rfl (.c 4 rfl (.c 5 rfl .n))))))<|wfv 0 rfl (Ad rfl) gn hns rfl<|wfv 1 rfl (Bc rfl) gn hns rfl<|wfv 2 rfl (Aw Ql rfl) gn hns rfl<|wfv 3 rfl (Au 2 Z4 rfl rfl rfl) gn hns rfl<|wfv 4 rfl (Be rfl rfl rfl) gn hns rfl<|wfv 5 rfl (Ad rfl) gn hns rfl<|Kz 60 rfl ((nei hp340))<|wfp 6 rfl (ps 60 rfl rfl rfl) hns rfl<|wfp 7 rfl (ps 60 rfl rfl rfl) hns rfl<|wfp 8 rfl (ps 60 rfl rfl rfl) hns rfl<|wfp 9 rfl (ps 60 rfl rfl rfl) hns rfl ?_
     refine wfp 10 rfl (ps 60 rfl rfl rfl) hns rfl<|wfp 11 rfl (ps 60 rfl rfl rfl) hns rfl<|wfp 12 rfl (ps 60 rfl rfl rfl) hns rfl<|wfp 13 rfl (ps 60 rfl rfl rfl) hns rfl<|wfp 14 rfl (ps 60 rfl rfl rfl) hns rfl<|wfp 15 rfl (ps 60 rfl rfl rfl) hns rfl<|wfv 16 rfl (Bd (b:=false) rfl rfl) gn hns rfl<|wfv 17 rfl (Ad rfl) gn hns rfl<|wfp 18 rfl (ps 72 rfl rfl rfl) hns rfl<|wfp 19 rfl (ps 72 rfl rfl rfl) hns rfl<|wfp 20 rfl (ps 72 rfl rfl rfl) hns rfl<|wfp 21 rfl (ps 72 rfl rfl rfl) hns rfl ?_
     refine wfp 22 rfl (ps 72 rfl rfl rfl) hns rfl<|wfp 23 rfl (ps 72 rfl rfl rfl) hns rfl<|wfp 24 rfl (ps 72 rfl rfl rfl) hns rfl<|wfp 25 rfl (ps 72 rfl rfl rfl) hns rfl<|wfp 26 rfl (ps 72 rfl rfl rfl) hns rfl<|wfp 27 rfl (ps 72 rfl rfl rfl) hns rfl<|wfp 28 rfl (ps 72 rfl rfl rfl) hns rfl<|wfp 29 rfl (ps 72 rfl rfl rfl) hns rfl<|wfv 30 rfl (Bd (b:=false) rfl rfl) gn hns rfl<|E8 (by kernel_rfl) ?_
     exact Dc [0,1,2,3,4,5] (j3 false h) ⟨rfl,rfl,rfl,trivial⟩ (.cons_cons _ (.cons_cons _ (.cons_cons _ (.cons_cons _ (.slnil))))) rfl
   by_cases hp168:r147.2.code=0
   ·have h:=Ap hp168 h
    refine Bz rfl _ rfl ((eqi hp168))<|Ac rfl rfl<|Aa 0 rfl (Ad rfl) gn rfl ?_
    obtain ⟨r349,hv350,h⟩:=h
    refine Cf 1 rfl (D8 [.pointer (some ⟨g2,0,none⟩),.string (⟨#[61]⟩:ByteArray)] rfl Tryd.func90 rfl rfl rfl fun w346 hL347=>?_) gn
    have hp348:=pmI hL347 (.c 0 rfl (.c 1 rfl (.c 2 rfl .n))) (.c 3 rfl .n) (by kernel_rfl)
    refine Calls.mono (Ie w346 (Fl ([Sm w.heap.size F w163 sb167]:List Cc)) r147.2 (⟨#[61]⟩:ByteArray) g2 Tb3 A149 n150 c151 z12 A153 n154 c155 z18 A158 n159 c160 (Rw.mono h152 (hL347.toFl (me 0 rfl) (me 0 rfl))) (Nat.le_trans hz13 hL347.env.size) h156 (Nat.le_trans hz19 hL347.env.size) h161 (hL347.hFl hp348 (Bi [0] rfl)) (hL347.into hp348 _) r349 hv350) ?_
    rintro _ w365 ⟨A355,n356,c357,A360,n361,c362,A351,n352,c353,rfl,hM366,h358,h363,h354⟩
    obtain ⟨sb369,hL367,hv368⟩:=hL347.callB (Sl:=([Sm w.heap.size F w163 sb167]:List Cc)) hp348 hM366 F (Bi [0] rfl) ⟨Sm.ok,trivial⟩
    have h354:At D5 (Sm w.heap.size F w365 sb369) A351 n352 c353 r349.words:=Rw.mono h354 hv368
    refine ⟨_,_,_,rfl,hL367,?_⟩
    refine Aj 2 rfl<|Ba 3 rfl<|Ba 1 rfl<|Ba 3 rfl<|Ba 3 rfl ?_
    exact Dc [0,1,2,3,4,5] (j2 r349.words r349.at_ r349.end_ r349.q.nodes r349.q.conds r349.code r349.place h A351 n352 c353 w365 sb369 h354 A355 n356 c357 h358 A360 n361 c362 h363) ⟨rfl,rfl,trivial⟩ (.cons_cons _ (.cons_cons _ (.cons_cons _ (.cons_cons _ (.slnil))))) rfl
   ·have h:=Aq hp168 h
    refine Bg rfl _ rfl ((nei hp168))<|Cb rfl<|Ba 3 rfl<|Ba 1 rfl<|Ba 3 rfl<|Ba 3 rfl ?_
    exact Dc [0,0,1,2,3,4] (j2 r147.2.words r147.2.at_ r147.2.end_ r147.2.q.nodes r147.2.q.conds r147.2.code r147.2.place h A149 n150 c151 w163 sb167 h152 A153 n154 c155 h156 A158 n159 c160 h161) ⟨rfl,rfl,trivial⟩ (.cons_cons _ (.cons_cons _ (.cons_cons _ (.cons_cons _ (.slnil))))) rfl
 by_cases hp46:r25.1=true
 ·have h:=Ap hp46 h
  refine Bz rfl _ rfl (hp46)<|Ac rfl rfl<|Aa 0 rfl (Aw Xfz rfl) gn rfl ?_
  refine Cf 1 rfl (Fp (vs:=[.bool true]) (cs':=[.bool true,.string (⟨#[]⟩:ByteArray),.string (⟨#[]⟩:ByteArray),.string (⟨#[]⟩:ByteArray)]) (M':=[.box g2 Tb3 [.slice A27 n28 c29,.int .i64 r25.2.at_,.int .i64 r25.2.end_,.slice A31 n32 c33,.slice A36 n37 c38,.int .i64 r25.2.code,.int .i64 r25.2.place],.own (.slice A31 n32 c33) 45 5 n32 (r25.2.q.nodes.flatMap Am),.own (.slice A36 n37 c38) 47 4 n37 (r25.2.q.conds.flatMap Bj),.box gb20 47 [.bool true,.string (⟨#[]⟩:ByteArray),.string (⟨#[]⟩:ByteArray),.string (⟨#[]⟩:ByteArray)]]) 3 Xcx rfl rfl rfl rfl rfl rfl rfl rfl rfl ?_) gn
  refine Aj 2 rfl<|Ba 3 rfl<|Ba 1 rfl<|Ba 3 rfl<|Ba 3 rfl ?_
  exact Dc [0,0,1,2] (j1 r25.2.words r25.2.at_ r25.2.end_ r25.2.q.nodes r25.2.q.conds r25.2.code r25.2.place true h A27 n28 c29 w41 sb45 h30 A31 n32 c33 h34 A36 n37 c38 h39) ⟨rfl,rfl,trivial⟩ (.cons_cons _ (.cons_cons _ (.cons_cons _ (.cons_cons _ (.slnil))))) rfl
 ·have h:=Aq hp46 h
  refine Bg rfl _ rfl ((bf hp46))<|Ah rfl<|Ac rfl rfl<|Aa 0 rfl (Ad rfl) gn rfl<|Aa 1 rfl (Ad rfl) gn rfl<|Aa 2 rfl (Bc rfl) gn rfl<|Aa 3 rfl (Aw Eg rfl) gn rfl<|Aa 4 rfl (Au 0 H9 rfl rfl rfl) gn rfl ?_
  obtain ⟨r373,hv374,h⟩:=h
  refine Cf 5 rfl (D8 [.pointer (some ⟨g2,0,none⟩),.int .i64 r25.2.at_,.int .i64 1,.string (⟨#[119,104,101,110]⟩:ByteArray)] rfl Tryd.func91 rfl rfl rfl fun w370 hL371=>?_) gn
  have hp372:=pmI hL371 (.c 0 rfl (.c 1 rfl (.c 2 rfl .n))) (.c 3 rfl .n) (by kernel_rfl)
  refine Calls.mono (H6 w370 (Fl ([Sm w.heap.size F w41 sb45]:List Cc)) r25.2 r25.2.at_ 1 (⟨#[119,104,101,110]⟩:ByteArray) g2 Tb3 A27 n28 c29 z12 A31 n32 c33 z18 A36 n37 c38 (Rw.mono h30 (hL371.toFl (me 0 rfl) (me 0 rfl))) (Nat.le_trans hz13 hL371.env.size) h34 (Nat.le_trans hz19 hL371.env.size) h39 (hL371.hFl hp372 (Bi [0] rfl)) (hL371.into hp372 _) r373 hv374) ?_
  rintro _ w389 ⟨A379,n380,c381,A384,n385,c386,A375,n376,c377,rfl,hM390,h382,h387,h378⟩
  obtain ⟨sb393,hL391,hv392⟩:=hL371.callB (Sl:=([Sm w.heap.size F w41 sb45]:List Cc)) hp372 hM390 F (Bi [0] rfl) ⟨Sm.ok,trivial⟩
  have h378:At D5 (Sm w.heap.size F w389 sb393) A375 n376 c377 r373.2.words:=Rw.mono h378 hv392
  refine ⟨_,_,_,rfl,hL391,?_⟩
  refine Aa 6 rfl (Qv rfl) gn rfl<|Aa 7 rfl (Af rfl) gn rfl<|Aj 8 rfl ?_
  by_cases hp394:r373.1=true
  ·have h:=Ap hp394 h
   refine Bg rfl _ rfl ((nf hp394))<|Cb rfl<|Ba 3 rfl<|Ba 1 rfl<|Ba 3 rfl<|Ba 3 rfl ?_
   exact Dc [0,1,2,3] (j1 r373.2.words r373.2.at_ r373.2.end_ r373.2.q.nodes r373.2.q.conds r373.2.code r373.2.place false h A375 n376 c377 w389 sb393 h378 A379 n380 c381 h382 A384 n385 c386 h387) ⟨rfl,rfl,trivial⟩ (.cons_cons _ (.cons_cons _ (.cons_cons _ (.cons_cons _ (.slnil))))) rfl
  ·have h:=Aq hp394 h
   refine Bz rfl _ rfl ((nt (bf hp394)))<|Ah rfl<|Ac rfl rfl<|Aa 0 rfl (Ad rfl) gn rfl<|Aa 1 rfl (Ad rfl) gn rfl<|Aa 2 rfl (Bc rfl) gn rfl<|Aa 3 rfl (Aw Eg rfl) gn rfl<|Aa 4 rfl (Au 0 H9 rfl rfl rfl) gn rfl ?_
   obtain ⟨r398,hv399,h⟩:=h
   refine Cf 5 rfl (D8 [.pointer (some ⟨g2,0,none⟩),.int .i64 200,.int .i64 r373.2.at_] rfl Tryd.func88 rfl rfl rfl fun w395 hL396=>?_) gn
   have hp397:=pmI hL396 (.c 0 rfl (.c 1 rfl (.c 2 rfl .n))) (.c 3 rfl .n) (by kernel_rfl)
   refine Calls.mono (G7 w395 (Fl ([Sm w.heap.size F w389 sb393]:List Cc)) r373.2 200 r373.2.at_ g2 Tb3 A375 n376 c377 z12 A379 n380 c381 z18 A384 n385 c386 (Rw.mono h378 (hL396.toFl (me 0 rfl) (me 0 rfl))) (Nat.le_trans hz13 hL396.env.size) h382 (Nat.le_trans hz19 hL396.env.size) h387 (hL396.hFl hp397 (Bi [0] rfl)) (hL396.into hp397 _) r398 hv399) ?_
   rintro _ w414 ⟨A404,n405,c406,A409,n410,c411,A400,n401,c402,rfl,hM415,h407,h412,h403⟩
   obtain ⟨sb418,hL416,hv417⟩:=hL396.callB (Sl:=([Sm w.heap.size F w389 sb393]:List Cc)) hp397 hM415 F (Bi [0] rfl) ⟨Sm.ok,trivial⟩
   have h403:At D5 (Sm w.heap.size F w414 sb418) A400 n401 c402 r398.words:=Rw.mono h403 hv417
   refine ⟨_,_,_,rfl,hL416,?_⟩
   refine Aj 6 rfl ?_
   refine C9 [] rfl Tryd.func61 rfl (.nil) fun wr hLr=>?_
   have hMr:=hLr.pkI (.c 0 rfl (.c 1 rfl (.c 2 rfl .n))) (.c 3 rfl .n) (by kernel_rfl) (.c 4 rfl .n)
   have hMi:=hLr.selI (.c 0 rfl (.c 1 rfl (.c 2 rfl .n)))
   show J3 w F g2 Tb3 A8 n9 c10 z12 A14 n15 c16 z18 r (.returned (Ci [])) wr
   rw [h]
   exact ⟨A404,n405,c406,A409,n410,c411,A400,n401,c402,rfl,hMr,h407,h412,(hLr.outR (s:=Sm w.heap.size F w414 sb418) hMi (me 0 rfl) Sm.ok h403)⟩
noncomputable abbrev Xer:=Code.snd (Code.snd (Code.snd (Code.snd (Code.snd (Code.snd (Dv Tryd.f28))))))
noncomputable abbrev Xdb:=Code.fst (Code.fst (Code.fst (Code.snd (Code.snd (Code.snd (Code.snd (Code.snd (Dv Tryd.f28))))))))
noncomputable abbrev q28c21:=Code.fst (Code.fst Xdb)
noncomputable abbrev q28c34:=Code.fst (Code.fst (Code.snd (Code.fst Xer)))
abbrev Uc (w:World) (F:Nat→Prop) (r:Ar × Int × Int):Ending→World→Prop:=fun e w'=>∃ A0:Option Addr,∃ n0:Nat,∃ c0:Nat,∃ A1:Option Addr,∃ n1:Nat,∃ c1:Nat,e=.returned (.tuple #[.agg #[.slice A0 n0 c0,.slice A1 n1 c1],.int .i64 r.2.1,.int .i64 r.2.2])∧B.Loc w w' [.own (.slice A0 n0 c0) 45 5 n0 (r.1.nodes.flatMap Am),.own (.slice A1 n1 c1) 47 4 n1 (r.1.conds.flatMap Bj)] [St w []]∧Ow w.heap.size A0 n0 c0 r.1.nodes∧Ow w.heap.size A1 n1 c1 r.1.conds
noncomputable abbrev Xd (w:World) (F:Nat→Prop) (r:Ar × Int × Int):Cx:=⟨Tryd.prog,28,Tryd.f28,64,Uc w F  r,w⟩
theorem Xdz (w:World) (F:Nat→Prop) (x1:ByteArray) (hF:∀ b,F b→b < w.heap.size∧∀ o ∈ ([]:List (List Nat)),b ∉ o) (hL0:B.Loc w w [] [Sm w.heap.size F w [],St w []]) (r:Ar × Int × Int) (h:Xg x1 r):Calls Tryd.prog 28 #[.string x1] w (Uc w F  r):=by
 unfold Xg at h
 refine Ce (vs:=[.string x1]) 64 Tryd.func28 rfl Tryd.ntmps28 rfl hL0 ?_
 show G (Xd w F r) _ _ _ _
 refine Ah rfl<|Ac rfl rfl ?_
 refine Cf 0 rfl (Gz [.slice none 0 0,.slice none 0 0] Xi1 rfl fun gb2=>?_) gn
 refine Aa 1 rfl (Af rfl) gn rfl<|Aa 2 rfl (Af rfl) gn rfl<|Aj 3 rfl<|Ah rfl<|Ac rfl rfl<|Aa 0 rfl (Ad rfl) gn rfl ?_
 obtain ⟨r7,hv8,h⟩:=h
 refine Cf 1 rfl (D8 [.string x1] rfl Tryd.func59 rfl rfl rfl fun w4 hL5=>?_) gn
 have hp6:=pmI hL5 .n (.c 0 rfl .n) (by kernel_rfl)
 refine Calls.mono (Xfs w4 (Fl ([]:List Cc)) x1 (hL5.hFl hp6 (Bi [] rfl)) (hL5.into hp6 _) r7 hv8) ?_
 rintro _ w14 ⟨A9,n10,c11,rfl,hM15,h12⟩
 have hL16:=hL5.call hp6 hM15
 refine ⟨_,_,_,rfl,hL16,?_⟩
 refine Aa 2 rfl (Ad rfl) gn rfl<|Aa 3 rfl (Hm rfl rfl) gn rfl<|Aa 4 rfl (Hm rfl rfl) gn rfl<|Aa 5 rfl (Hm rfl rfl) gn rfl<|Aa 6 rfl (Af rfl) gn rfl<|Aa 7 rfl (Af rfl) gn rfl<|Aa 8 rfl (Af rfl) gn rfl<|Aj 9 rfl<|Ah rfl<|Ah rfl<|Ac rfl rfl<|Aa 0 rfl (Ad rfl) gn rfl ?_
 refine Aa 1 rfl (Be rfl rfl rfl) gn rfl<|Aj 2 rfl ?_
 by_cases hp17:r7.2.1=0
 ·have h:=Ap hp17 h
  refine Bg rfl _ rfl ((Xd2 hp17))<|Cb rfl<|Ah rfl<|Ac rfl rfl<|Aa 0 rfl (Ad rfl) gn rfl<|Aa 1 rfl (Ad rfl) gn rfl<|Aa 2 rfl (Rh Nl rfl) gn rfl<|Aa 3 rfl (J5 #[.slice A9 n10 c11,.int .i64 0,.int .i64 (x1.size:Int),.slice none 0 0,.slice none 0 0,.int .i64 0,.int .i64 0] bd_90 rfl (by kernel_rfl)) gn rfl ?_
  refine Cf 4 rfl (V5 [.slice A9 n10 c11,.int .i64 0,.int .i64 (x1.size:Int),.slice none 0 0,.slice none 0 0,.int .i64 0,.int .i64 0] rfl rfl rfl fun gb18=>?_) gn
  refine Aa 5 rfl (Af rfl) gn rfl<|Aj 6 rfl<|Ah rfl<|Ac rfl rfl<|Aa 0 rfl (Ad rfl) gn rfl ?_
  obtain ⟨r28,hv29,h⟩:=h
  refine Xe0 (F:=F) (dk:=D5) (Sm w.heap.size F w []) 1 rfl (Ow.weak hL5.env.size h12) (me 0 rfl) Sm.ok (Cells.flat _) fun sw24 sb25 h23=>?_
  refine w_nil 45 5<|w_nil 47 4 ?_
  refine Cf 1 rfl (D8 [.pointer (some ⟨gb18,0,none⟩)] rfl Tryd.func60 rfl rfl rfl fun w20 hL21=>?_) gn
  have hp22:=pmI hL21 (.c 2 rfl (.c 1 rfl (.c 0 rfl .n))) (.c 3 rfl .n) (by kernel_rfl)
  refine Calls.mono (Yi w20 (Fl ([Sm w.heap.size F sw24 sb25]:List Cc)) (⟨r7.1,0,(x1.size:Int),(⟨([]:List Ag),([]:List Bh)⟩:Ar),0,0⟩:Ai) gb18 90 A9 n10 c11 w.heap.size none 0 0 w.heap.size none 0 0 (Rw.mono h23 (hL21.toFl (me 0 rfl) (me 0 rfl))) hL21.env.size (Ow.nil (z:=w.heap.size)) hL21.env.size (Ow.nil (z:=w.heap.size)) (hL21.hFl hp22 (Bi [0] rfl)) (hL21.into hp22 _) r28 hv29) ?_
  rintro _ w44 ⟨A34,n35,c36,A39,n40,c41,A30,n31,c32,rfl,hM45,h37,h42,h33⟩
  obtain ⟨sb48,hL46,hv47⟩:=hL21.callB (Sl:=([Sm w.heap.size F sw24 sb25]:List Cc)) hp22 hM45 F (Bi [0] rfl) ⟨Sm.ok,trivial⟩
  have h33:At D5 (Sm w.heap.size F w44 sb48) A30 n31 c32 r28.words:=Rw.mono h33 hv47
  refine ⟨_,_,_,rfl,hL46,?_⟩
  refine Aj 2 rfl<|Ah rfl<|Df rfl<|Io rfl ?_
  have key1:∀ s,Bl (fun (s:(List Ak) × Int × Int × (List Ag) × (List Bh) × Int × Int) o=>Ht s.1 s.2.1 s.2.2.1 s.2.2.2.1 s.2.2.2.2.1 s.2.2.2.2.2.1 s.2.2.2.2.2.2 o) s r→(fun (s:(List Ak) × Int × Int × (List Ag) × (List Bh) × Int × Int)=>∀ (A77:Option Addr) (n78:Nat) (c79:Nat) (sw80:World) (sb81:List (List Nat)) (h82:At D5 (Sm w.heap.size F sw80 sb81) A77 n78 c79 s.1) (A86:Option Addr) (n87:Nat) (c88:Nat) (h89:Ow w.heap.size A86 n87 c88 s.2.2.2.1) (A91:Option Addr) (n92:Nat) (c93:Nat) (h94:Ow w.heap.size A91 n92 c93 s.2.2.2.2.1),G (Xd w F r) [.code Xdb,.inLoop Xdb,.inBlock 0,.code Xer] [(2,.pointer (some ⟨gb2,0,none⟩)),(8,.pointer (some ⟨gb18,0,none⟩))] [.own (.slice A86 n87 c88) 45 5 n87 (s.2.2.2.1.flatMap Am),.own (.slice A91 n92 c93) 47 4 n92 (s.2.2.2.2.1.flatMap Bj),.box gb18 90 [.slice A77 n78 c79,.int .i64 s.2.1,.int .i64 s.2.2.1,.slice A86 n87 c88,.slice A91 n92 c93,.int .i64 s.2.2.2.2.2.1,.int .i64 s.2.2.2.2.2.2],.box gb2 25 [.slice none 0 0,.slice none 0 0]] [Sm w.heap.size F sw80 sb81,Sm w.heap.size F w44 sb48,Sm w.heap.size F sw24 sb25,Sm w.heap.size F w [],St w []]) s:=by
   intro s hs
   refine Bl.ind (mot:=(fun (s:(List Ak) × Int × Int × (List Ag) × (List Bh) × Int × Int)=>∀ (A77:Option Addr) (n78:Nat) (c79:Nat) (sw80:World) (sb81:List (List Nat)) (h82:At D5 (Sm w.heap.size F sw80 sb81) A77 n78 c79 s.1) (A86:Option Addr) (n87:Nat) (c88:Nat) (h89:Ow w.heap.size A86 n87 c88 s.2.2.2.1) (A91:Option Addr) (n92:Nat) (c93:Nat) (h94:Ow w.heap.size A91 n92 c93 s.2.2.2.2.1),G (Xd w F r) [.code Xdb,.inLoop Xdb,.inBlock 0,.code Xer] [(2,.pointer (some ⟨gb2,0,none⟩)),(8,.pointer (some ⟨gb18,0,none⟩))] [.own (.slice A86 n87 c88) 45 5 n87 (s.2.2.2.1.flatMap Am),.own (.slice A91 n92 c93) 47 4 n92 (s.2.2.2.2.1.flatMap Bj),.box gb18 90 [.slice A77 n78 c79,.int .i64 s.2.1,.int .i64 s.2.2.1,.slice A86 n87 c88,.slice A91 n92 c93,.int .i64 s.2.2.2.2.2.1,.int .i64 s.2.2.2.2.2.2],.box gb2 25 [.slice none 0 0,.slice none 0 0]] [Sm w.heap.size F sw80 sb81,Sm w.heap.size F w44 sb48,Sm w.heap.size F sw24 sb25,Sm w.heap.size F w [],St w []])) ?_ hs
   clear hs s
   intro s o1 h hO1
   obtain ⟨x76,x83,x84,x85,x90,x95,x96⟩:=s
   show ∀ (A77:Option Addr) (n78:Nat) (c79:Nat) (sw80:World) (sb81:List (List Nat)) (h82:At D5 (Sm w.heap.size F sw80 sb81) A77 n78 c79 x76) (A86:Option Addr) (n87:Nat) (c88:Nat) (h89:Ow w.heap.size A86 n87 c88 x85) (A91:Option Addr) (n92:Nat) (c93:Nat) (h94:Ow w.heap.size A91 n92 c93 x90),G (Xd w F r) [.code Xdb,.inLoop Xdb,.inBlock 0,.code Xer] [(2,.pointer (some ⟨gb2,0,none⟩)),(8,.pointer (some ⟨gb18,0,none⟩))] [.own (.slice A86 n87 c88) 45 5 n87 (x85.flatMap Am),.own (.slice A91 n92 c93) 47 4 n92 (x90.flatMap Bj),.box gb18 90 [.slice A77 n78 c79,.int .i64 x83,.int .i64 x84,.slice A86 n87 c88,.slice A91 n92 c93,.int .i64 x95,.int .i64 x96],.box gb2 25 [.slice none 0 0,.slice none 0 0]] [Sm w.heap.size F sw80 sb81,Sm w.heap.size F w44 sb48,Sm w.heap.size F sw24 sb25,Sm w.heap.size F w [],St w []]
   intro A77 n78 c79 sw80 sb81 h82 A86 n87 c88 h89 A91 n92 c93 h94
   have h:Ht x76 x83 x84 x85 x90 x95 x96 o1:=h
   unfold Ht at h
   refine Ah rfl<|Ah rfl ?_
   by_cases hp123:x95=0
   ·have h:=Ap hp123 h
    have hns:Region.noSelect (Code.ops q28c21)=true:=by kernel_rfl
    refine Gf [] 17 rfl rfl mix rfl (.c 0 rfl (.c 1 rfl (.c 2 rfl (.c 3 rfl (.c 4 rfl .n)))))<|wfv 0 rfl (Ad rfl) gn hns rfl<|wfv 1 rfl (Bc rfl) gn hns rfl<|wfv 2 rfl (Aw Ql rfl) gn hns rfl<|wfv 3 rfl (Au 2 Z4 rfl rfl rfl) gn hns rfl<|wfv 4 rfl (Be rfl rfl rfl) gn hns rfl<|wfv 5 rfl (Ad rfl) gn hns rfl<|Kz 32 rfl ((eqi hp123))<|wfv 6 rfl (Ad rfl) (gy 32 rfl rfl) hns rfl<|wfv 7 rfl (Bc rfl) (gy 32 rfl rfl) hns rfl<|wfv 8 rfl (Aw Eg rfl) (gy 32 rfl rfl) hns rfl<|wfv 9 rfl (Au 2 H9 rfl rfl rfl) (gy 32 rfl rfl) hns rfl ?_
    refine wfv 10 rfl (Ad rfl) (gy 32 rfl rfl) hns rfl<|wfv 11 rfl (Bc rfl) (gy 32 rfl rfl) hns rfl<|wfv 12 rfl (Aw Hr rfl) (gy 32 rfl rfl) hns rfl<|wfv 13 rfl (Au 2 Np rfl rfl rfl) (gy 32 rfl rfl) hns rfl<|wfv 14 rfl (Dj Zh rfl h82.hq) (gy 32 rfl rfl) hns rfl<|wfv 15 rfl (Be rfl rfl rfl) (gy 32 rfl rfl) hns rfl<|wfv 16 rfl (Bd (b:=true) rfl rfl) gn hns rfl<|E8 (by kernel_rfl) ?_
    by_cases hp124:x83 < (x76.length:Int)
    ·have h:=Ap hp124 h
     refine Bz rfl _ rfl ((decide_eq_true hp124))<|Cb rfl<|Df rfl<|Ac rfl rfl<|Aa 0 rfl (Ad rfl) gn rfl ?_
     obtain ⟨r128,hv129,h⟩:=h
     refine Cf 1 rfl (D8 [.pointer (some ⟨gb18,0,none⟩)] rfl Tryd.func61 rfl rfl rfl fun w125 hL126=>?_) gn
     have hp127:=pmI hL126 (.c 2 rfl (.c 0 rfl (.c 1 rfl .n))) (.c 3 rfl .n) (by kernel_rfl)
     refine Calls.mono (Xa2 w125 (Fl ([Sm w.heap.size F sw80 sb81]:List Cc)) (⟨x76,x83,x84,(⟨x85,x90⟩:Ar),x95,x96⟩:Ai) gb18 90 A77 n78 c79 w.heap.size A86 n87 c88 w.heap.size A91 n92 c93 (Rw.mono h82 (hL126.toFl (me 0 rfl) (me 0 rfl))) hL126.env.size h89 hL126.env.size h94 (hL126.hFl hp127 (Bi [0] rfl)) (hL126.into hp127 _) r128 hv129) ?_
     rintro _ w144 ⟨A134,n135,c136,A139,n140,c141,A130,n131,c132,rfl,hM145,h137,h142,h133⟩
     obtain ⟨sb148,hL146,hv147⟩:=hL126.callB (Sl:=([Sm w.heap.size F sw80 sb81]:List Cc)) hp127 hM145 F (Bi [0] rfl) ⟨Sm.ok,trivial⟩
     have h133:At D5 (Sm w.heap.size F w144 sb148) A130 n131 c132 r128.words:=Rw.mono h133 hv147
     refine ⟨_,_,_,rfl,hL146,?_⟩
     refine Aj 2 rfl<|D7<|Dp<|Ba 3 rfl<|Ba 1 rfl<|Ba 3 rfl<|Ba 3 rfl ?_
     have ih:=Out.inl hO1 h
     exact Dc [0,2,3,4,5] (ih A130 n131 c132 w144 sb148 h133 A134 n135 c136 h137 A139 n140 c141 h142) ⟨rfl,rfl,trivial⟩ (.cons_cons _ (.cons_cons _ (.cons_cons _ (.cons_cons _ (.slnil))))) rfl
    ·have h:=Aq hp124 h
     refine Bg rfl _ rfl ((decide_eq_false hp124))<|Gp [.code Xer] rfl rfl<|Ah rfl<|Ah rfl<|Ac rfl rfl<|Aa 0 rfl (Ad rfl) gn rfl<|Aa 1 rfl (Bc rfl) gn rfl<|Aa 2 rfl (Aw Ql rfl) gn rfl<|Aa 3 rfl (Au 2 Z4 rfl rfl rfl) gn rfl<|Aa 4 rfl (Be rfl rfl rfl) gn rfl<|Aj 5 rfl<|Bg rfl _ rfl ((Xd2 hp123)) ?_
     refine Cb rfl<|Ah rfl<|Ac rfl rfl<|Aa 0 rfl (Ad rfl) gn rfl<|Aa 1 rfl (Bc rfl) gn rfl<|Aa 2 rfl (Aw P9 rfl) gn rfl<|Aa 3 rfl (Nj [.slice A86 n87 c88,.slice A91 n92 c93] 2 U4 rfl rfl rfl rfl) gn rfl ?_
     refine Cf 4 rfl (Fp (vs:=[.slice A86 n87 c88,.slice A91 n92 c93]) (cs':=[.slice A86 n87 c88,.slice A91 n92 c93]) (M':=[.own (.slice A86 n87 c88) 45 5 n87 (x85.flatMap Am),.own (.slice A91 n92 c93) 47 4 n92 (x90.flatMap Bj),.box gb18 90 [.slice A77 n78 c79,.int .i64 x83,.int .i64 x84,.slice A86 n87 c88,.slice A91 n92 c93,.int .i64 x95,.int .i64 x96],.box gb2 25 [.slice A86 n87 c88,.slice A91 n92 c93]]) 3 Xh8 rfl rfl rfl rfl rfl rfl rfl rfl rfl ?_) gn
     refine Aa 5 rfl (Af rfl) gn rfl<|Aa 6 rfl (Af rfl) gn rfl<|Aj 7 rfl ?_
     have h:=Out.inr hO1 h
     refine C9 [.agg #[.slice A86 n87 c88,.slice A91 n92 c93],.int .i64 0,.int .i64 0] rfl Tryd.func28 rfl (.cell (cs:=[.slice A86 n87 c88,.slice A91 n92 c93]) (us:=[.slice A86 n87 c88,.slice A91 n92 c93]) 3 rfl U4 rfl rfl rfl (.tmp rfl (.tmp rfl (.nil)))) fun wr hLr=>?_
     have hMr:=hLr.pkI (.c 0 rfl (.c 1 rfl .n)) (.c 2 rfl (.c 3 rfl .n)) (by kernel_rfl) (.c 4 rfl .n)
     show Uc w F  r (.returned (Ci [.agg #[.slice A86 n87 c88,.slice A91 n92 c93],.int .i64 0,.int .i64 0])) wr
     rw [h]
     exact ⟨A86,n87,c88,A91,n92,c93,rfl,hMr,h89,h94⟩
   ·have h:=Aq hp123 h
    have hns:Region.noSelect (Code.ops q28c21)=true:=by kernel_rfl
    refine Gf [] 17 rfl rfl mix rfl (.c 0 rfl (.c 1 rfl (.c 2 rfl (.c 3 rfl (.c 4 rfl .n)))))<|wfv 0 rfl (Ad rfl) gn hns rfl<|wfv 1 rfl (Bc rfl) gn hns rfl<|wfv 2 rfl (Aw Ql rfl) gn hns rfl<|wfv 3 rfl (Au 2 Z4 rfl rfl rfl) gn hns rfl<|wfv 4 rfl (Be rfl rfl rfl) gn hns rfl<|wfv 5 rfl (Ad rfl) gn hns rfl<|Kz 32 rfl ((nei hp123))<|wfp 6 rfl (ps 32 rfl rfl rfl) hns rfl<|wfp 7 rfl (ps 32 rfl rfl rfl) hns rfl<|wfp 8 rfl (ps 32 rfl rfl rfl) hns rfl<|wfp 9 rfl (ps 32 rfl rfl rfl) hns rfl ?_
    refine wfp 10 rfl (ps 32 rfl rfl rfl) hns rfl<|wfp 11 rfl (ps 32 rfl rfl rfl) hns rfl<|wfp 12 rfl (ps 32 rfl rfl rfl) hns rfl<|wfp 13 rfl (ps 32 rfl rfl rfl) hns rfl<|wfp 14 rfl (ps 32 rfl rfl rfl) hns rfl<|wfp 15 rfl (ps 32 rfl rfl rfl) hns rfl<|wfv 16 rfl (Bd (b:=false) rfl rfl) gn hns rfl<|E8 (by kernel_rfl)<|Bg rfl _ rfl (rfl)<|Gp [.code Xer] rfl rfl<|Ah rfl<|Ah rfl ?_
    refine Ac rfl rfl<|Aa 0 rfl (Ad rfl) gn rfl<|Aa 1 rfl (Bc rfl) gn rfl<|Aa 2 rfl (Aw Ql rfl) gn rfl<|Aa 3 rfl (Au 2 Z4 rfl rfl rfl) gn rfl<|Aa 4 rfl (Be rfl rfl rfl) gn rfl<|Aj 5 rfl<|Bz rfl _ rfl ((Xde hp123))<|Ah rfl ?_
    have hns:Region.noSelect (Code.ops q28c34)=true:=by kernel_rfl
    refine Vu [.own (.slice A86 n87 c88) 45 5 n87 (x85.flatMap Am),.own (.slice A91 n92 c93) 47 4 n92 (x90.flatMap Bj),.box gb18 90 [.slice A77 n78 c79,.int .i64 x83,.int .i64 x84,.slice A86 n87 c88,.slice A91 n92 c93,.int .i64 x95,.int .i64 x96]] [Sm w.heap.size F sw80 sb81,Sm w.heap.size F w44 sb48,Sm w.heap.size F sw24 sb25,Sm w.heap.size F w [],St w []] [] 12 rfl rfl mix rfl (.cons_cons _ (.cons_cons _ (.cons_cons _ (.cons _ (.slnil))))) (Bi [0,1,2,3,4] rfl)<|wfv 0 rfl (J5 #[.slice none 0 0,.slice none 0 0] bd_25 rfl (by kernel_rfl)) gn hns rfl<|wfv 1 rfl (Ad rfl) gn hns rfl<|wfv 2 rfl (Bc rfl) gn hns rfl<|wfv 3 rfl (Aw Ql rfl) gn hns rfl<|wfv 4 rfl (Au 2 Z4 rfl rfl rfl) gn hns rfl<|wfv 5 rfl (Ad rfl) gn hns rfl<|wfv 6 rfl (Bc rfl) gn hns rfl<|wfv 7 rfl (Aw Xjp rfl) gn hns rfl<|wfv 8 rfl (Au 2 H9 rfl rfl rfl) gn hns rfl ?_
    refine Cm [9] (by kernel_rfl) rfl ⟨Et 9 rfl gn rfl (Fp (vs:=[.slice none 0 0,.slice none 0 0]) (cs':=[.slice none 0 0,.slice none 0 0]) (M':=[.own (.slice A86 n87 c88) 45 5 n87 (x85.flatMap Am),.own (.slice A91 n92 c93) 47 4 n92 (x90.flatMap Bj),.box gb18 90 [.slice A77 n78 c79,.int .i64 x83,.int .i64 x84,.slice A86 n87 c88,.slice A91 n92 c93,.int .i64 x95,.int .i64 x96],.box gb2 25 [.slice none 0 0,.slice none 0 0]]) 3 Xh8 rfl rfl rfl rfl rfl rfl rfl rfl rfl ?_),trivial⟩
    refine ⟨Bi [0,1,2] rfl,Bi [0,1,2,3,4] rfl,?_⟩
    refine wfv 10 rfl (Af rfl) gn hns rfl<|wfv 11 rfl (Af rfl) gn hns rfl<|E8 (by kernel_rfl)<|Nr 45 5<|Nr 47 4 ?_
    have h:=Out.inr hO1 h
    refine C9 [.agg #[.slice none 0 0,.slice none 0 0],.int .i64 x95,.int .i64 x96] rfl Tryd.func28 rfl (.cell (cs:=[.slice none 0 0,.slice none 0 0]) (us:=[.slice none 0 0,.slice none 0 0]) 5 rfl U4 rfl rfl rfl (.tmp rfl (.tmp rfl (.nil)))) fun wr hLr=>?_
    have hMr:=hLr.pkI (.c 1 rfl (.c 0 rfl .n)) (.c 2 rfl (.c 3 rfl (.c 4 rfl (.c 5 rfl .n)))) (by kernel_rfl) (.c 4 rfl .n)
    show Uc w F  r (.returned (Ci [.agg #[.slice none 0 0,.slice none 0 0],.int .i64 x95,.int .i64 x96])) wr
    rw [h]
    exact ⟨none,0,0,none,0,0,rfl,hMr,(Ow.nil (z:=w.heap.size)),(Ow.nil (z:=w.heap.size))⟩
  refine Ba 3 rfl<|Ba 1 rfl<|Ba 3 rfl<|Ba 3 rfl ?_
  exact Dc [0,0,1,2,3] (key1 _ h A30 n31 c32 w44 sb48 h33 A34 n35 c36 h37 A39 n40 c41 h42) ⟨rfl,rfl,trivial⟩ (.cons_cons _ (.cons_cons _ (.cons_cons _ (.cons_cons _ (.slnil))))) rfl
 ·have h:=Aq hp17 h
  refine Bz rfl _ rfl ((Xde hp17))<|Ah rfl<|Ac rfl rfl<|Aa 0 rfl (J5 #[.slice none 0 0,.slice none 0 0] bd_25 rfl (by kernel_rfl)) gn rfl<|Aa 1 rfl (Ad rfl) gn rfl<|Aa 2 rfl (Ad rfl) gn rfl ?_
  refine Cf 3 rfl (Fp (vs:=[.slice none 0 0,.slice none 0 0]) (cs':=[.slice none 0 0,.slice none 0 0]) (M':=[.own (.slice A9 n10 c11) 84 4 n10 (r7.1.flatMap D9),.box gb2 25 [.slice none 0 0,.slice none 0 0]]) 1 Xh8 rfl rfl rfl rfl rfl rfl rfl rfl rfl ?_) gn
  refine Aa 4 rfl (Af rfl) gn rfl<|Aa 5 rfl (Af rfl) gn rfl<|Aj 6 rfl<|Nr 45 5<|Nr 47 4 ?_
  refine C9 [.agg #[.slice none 0 0,.slice none 0 0],.int .i64 r7.2.1,.int .i64 r7.2.2] rfl Tryd.func28 rfl (.cell (cs:=[.slice none 0 0,.slice none 0 0]) (us:=[.slice none 0 0,.slice none 0 0]) 3 rfl U4 rfl rfl rfl (.tmp rfl (.tmp rfl (.nil)))) fun wr hLr=>?_
  have hMr:=hLr.pkI (.c 1 rfl (.c 0 rfl .n)) (.c 2 rfl (.c 3 rfl .n)) (by kernel_rfl) (.c 1 rfl .n)
  show Uc w F  r (.returned (Ci [.agg #[.slice none 0 0,.slice none 0 0],.int .i64 r7.2.1,.int .i64 r7.2.2])) wr
  rw [h]
  exact ⟨none,0,0,none,0,0,rfl,hMr,(Ow.nil (z:=w.heap.size)),(Ow.nil (z:=w.heap.size))⟩
noncomputable abbrev q27c6:=Code.snd (Code.snd (Code.snd (Dv Tryd.f27)))
noncomputable abbrev q27c8:=Code.snd (Code.fst (Code.snd (Code.snd (Dv Tryd.f27))))
abbrev Gq (w:World) (F:Nat→Prop) (r:Bool):Ending→World→Prop:=fun e w'=>e=.returned (.bool r)∧B.Loc w w' [] [St w []]
noncomputable abbrev Vr (w:World) (F:Nat→Prop) (r:Bool):Cx:=⟨Tryd.prog,27,Tryd.f27,71,Gq w F  r,w⟩
theorem Yh (w:World) (F:Nat→Prop)  (hG:Tb Tryd.prog (St w [])) (hF:∀ b,F b→b < w.heap.size∧∀ o ∈ ([]:List (List Nat)),b ∉ o) (hL0:B.Loc w w [] [Sm w.heap.size F w [],St w []]) (r:Bool) (h:Ot  r):Calls Tryd.prog 27 #[] w (Gq w F  r):=by
 unfold Ot at h
 refine Ce (vs:=[]) 71 Tryd.func27 rfl Tryd.ntmps27 rfl hL0 ?_
 show G (Vr w F r) _ _ _ _
 refine Ah rfl<|Ac rfl rfl<|Aa 0 rfl (Af rfl) gn rfl<|Aj 1 rfl<|Ah rfl<|Ac rfl rfl ?_
 obtain ⟨r4,hv5,h⟩:=h
 refine Cf 0 rfl (D8 [.string (⟨#[40,115,32,40,97,41,32,64,120,41,32,119,104,101,110,32,64,120,32,61,32,34,121,34]⟩:ByteArray)] rfl Tryd.func28 rfl rfl rfl fun w1 hL2=>?_) gn
 have hp3:=pmI hL2 .n .n (by kernel_rfl)
 refine Calls.mono (Xdz w1 (Fl ([]:List Cc)) (⟨#[40,115,32,40,97,41,32,64,120,41,32,119,104,101,110,32,64,120,32,61,32,34,121,34]⟩:ByteArray) (hL2.hFl hp3 (Bi [] rfl)) (hL2.into hp3 _) r4 hv5) ?_
 rintro _ w16 ⟨A6,n7,c8,A11,n12,c13,rfl,hM17,h9,h14⟩
 have hL18:=hL2.call hp3 hM17
 refine ⟨_,_,_,rfl,hL18,?_⟩
 refine Aa 1 rfl (Ad rfl) gn rfl<|Aa 2 rfl (Hm rfl rfl) gn rfl<|Aa 3 rfl (Hm rfl rfl) gn rfl<|Aa 4 rfl (Hm rfl rfl) gn rfl ?_
 refine Cf 5 rfl (Gz [.slice none 0 0,.slice none 0 0] Xi1 rfl fun gb19=>?_) gn
 refine Cf 6 rfl (Fp (vs:=[.slice A6 n7 c8,.slice A11 n12 c13]) (cs':=[.slice A6 n7 c8,.slice A11 n12 c13]) (M':=[.box gb19 25 [.slice A6 n7 c8,.slice A11 n12 c13],.own (.slice A6 n7 c8) 45 5 n7 (r4.1.nodes.flatMap Am),.own (.slice A11 n12 c13) 47 4 n12 (r4.1.conds.flatMap Bj)]) 0 Xh8 rfl rfl rfl rfl rfl rfl rfl rfl rfl ?_) gn
 refine Aa 7 rfl (Af rfl) gn rfl<|Aa 8 rfl (Af rfl) gn rfl<|Aj 9 rfl<|Ah rfl<|Ah rfl ?_
 have j1:∀ (x25:Bool) (h:He r4 x25 r) ,G (Vr w F r) [.code q27c8,.code q27c6] [(1,.pointer (some ⟨gb19,0,none⟩)),(31,.bool x25)] [.box gb19 25 [.slice A6 n7 c8,.slice A11 n12 c13],.own (.slice A6 n7 c8) 45 5 n7 (r4.1.nodes.flatMap Am),.own (.slice A11 n12 c13) 47 4 n12 (r4.1.conds.flatMap Bj)] [Sm w.heap.size F w [],St w []]:=by
  intro x25 h
  unfold He at h
  by_cases hp26:x25=true
  ·have h:=Ap hp26 h
   refine Bz rfl _ rfl (hp26)<|Ah rfl<|Ac rfl rfl<|Aa 0 rfl (Af rfl) gn rfl<|Aj 1 rfl ?_
   refine C9 [.bool false] rfl Tryd.func27 rfl (.tmp rfl (.nil)) fun wr hLr=>?_
   have hMr:=hLr.pk0 (.c 1 rfl .n)
   show Gq w F  r (.returned (Ci [.bool false])) wr
   rw [h]
   exact ⟨rfl,hMr⟩
  ·have h:=Aq hp26 h
   refine Bg rfl _ rfl ((bf hp26))<|Cb rfl<|Ah rfl<|Ac rfl rfl<|Aa 0 rfl (J5 #[.string (⟨#[115]⟩:ByteArray),.bool true,.string (⟨#[]⟩:ByteArray),.int .i64 0,.int .i64 2,.int .i64 2,.int .i64 (-1)] bd_56 rfl (by kernel_rfl)) gn rfl<|Aa 1 rfl (J5 #[.string (⟨#[97]⟩:ByteArray),.bool true,.string (⟨#[]⟩:ByteArray),.int .i64 0,.int .i64 1,.int .i64 0,.int .i64 0] bd_56 rfl (by kernel_rfl)) gn rfl<|Aa 2 rfl (J5 #[.string (⟨#[97]⟩:ByteArray),.bool true,.string (⟨#[]⟩:ByteArray),.int .i64 1,.int .i64 2,.int .i64 0,.int .i64 1] bd_56 rfl (by kernel_rfl)) gn rfl ?_
   refine Cf 3 rfl (Gw (xs:=([(⟨(⟨#[115]⟩:ByteArray),true,(⟨#[]⟩:ByteArray),0,2,2,-1⟩:Az),(⟨(⟨#[97]⟩:ByteArray),true,(⟨#[]⟩:ByteArray),0,1,0,0⟩:Az),(⟨(⟨#[97]⟩:ByteArray),true,(⟨#[]⟩:ByteArray),1,2,0,1⟩:Az)]:List Az)) [.string (⟨#[115]⟩:ByteArray),.bool true,.string (⟨#[]⟩:ByteArray),.int .i64 0,.int .i64 2,.int .i64 2,.int .i64 (-1),.string (⟨#[97]⟩:ByteArray),.bool true,.string (⟨#[]⟩:ByteArray),.int .i64 0,.int .i64 1,.int .i64 0,.int .i64 0,.string (⟨#[97]⟩:ByteArray),.bool true,.string (⟨#[]⟩:ByteArray),.int .i64 1,.int .i64 2,.int .i64 0,.int .i64 1] bs_26_3 rfl (by kernel_rfl) rfl rfl rfl rfl fun gb28 h29=>?_) gn
   refine Aa 4 rfl (Af rfl) gn rfl<|Aj 5 rfl<|Ah rfl<|Ac rfl rfl<|Aa 0 rfl (Nj [.slice A6 n7 c8,.slice A11 n12 c13] 1 U4 rfl rfl rfl rfl) gn rfl<|Aa 1 rfl (Ad rfl) gn rfl ?_
   obtain ⟨r33,hv34,h⟩:=h
   refine Cf 2 rfl (D8 [.agg #[.slice A6 n7 c8,.slice A11 n12 c13],.slice (some ⟨gb28,0,none⟩) 3 3,.string (⟨#[121,122]⟩:ByteArray)] rfl Tryd.func17 rfl rfl rfl fun w30 hL31=>?_) gn
   have hp32:=pmI hL31 .n (.c 0 rfl (.c 1 rfl (.c 2 rfl (.c 3 rfl .n)))) (by kernel_rfl)
   refine Calls.mono (Ol w30 (Fl ([]:List Cc)) r4.1 ([(⟨(⟨#[115]⟩:ByteArray),true,(⟨#[]⟩:ByteArray),0,2,2,-1⟩:Az),(⟨(⟨#[97]⟩:ByteArray),true,(⟨#[]⟩:ByteArray),0,1,0,0⟩:Az),(⟨(⟨#[97]⟩:ByteArray),true,(⟨#[]⟩:ByteArray),1,2,0,1⟩:Az)]:List Az) (⟨#[121,122]⟩:ByteArray) A6 n7 c8 A11 n12 c13 (some ⟨gb28,0,none⟩) 3 3 (hL31.argO (dk:=Dl) hp32 [] rfl 2 rfl rfl (Ow.weak hL2.env.size h9) (me 0 rfl) (Cells.flat _)) (hL31.argO (dk:=Gg) hp32 [] rfl 3 rfl rfl (Ow.weak hL2.env.size h14) (me 0 rfl) (Cells.flat _)) (hL31.argO (dk:=F8) hp32 [] rfl 0 rfl rfl h29 (me 0 rfl) (Cells.flat _)) (hL31.tb hp32 hG (me 1 rfl)) (hL31.hFl hp32 (Bi [] rfl)) (hL31.into hp32 _) r33 hv34) ?_
   rintro _ w42 ⟨A35,n36,c37,cs40,rfl,hM43,h38,hC41⟩
   obtain ⟨sb46,hL44,hv45⟩:=hL31.callB (Sl:=([]:List Cc)) hp32 hM43 F (Bi [] rfl) trivial
   have hC41:Cells Dy (Sm w.heap.size F w42 sb46).w (Sm w.heap.size F w42 sb46).av r33 cs40:=Cells.mono hv45 hC41
   refine ⟨_,_,_,rfl,hL44,?_⟩
   refine Aa 3 rfl (Af rfl) gn rfl<|Aj 4 rfl<|Ah rfl<|Ac rfl rfl<|Aa 0 rfl (Nj [.slice A6 n7 c8,.slice A11 n12 c13] 2 U4 rfl rfl rfl rfl) gn rfl<|Aa 1 rfl (Ad rfl) gn rfl ?_
   obtain ⟨r50,hv51,h⟩:=h
   refine Cf 2 rfl (D8 [.agg #[.slice A6 n7 c8,.slice A11 n12 c13],.slice (some ⟨gb28,0,none⟩) 3 3,.string (⟨#[122,121]⟩:ByteArray)] rfl Tryd.func17 rfl rfl rfl fun w47 hL48=>?_) gn
   have hp49:=pmI hL48 .n (.c 0 rfl (.c 1 rfl (.c 2 rfl (.c 3 rfl (.c 4 rfl .n))))) (by kernel_rfl)
   refine Calls.mono (Ol w47 (Fl ([]:List Cc)) r4.1 ([(⟨(⟨#[115]⟩:ByteArray),true,(⟨#[]⟩:ByteArray),0,2,2,-1⟩:Az),(⟨(⟨#[97]⟩:ByteArray),true,(⟨#[]⟩:ByteArray),0,1,0,0⟩:Az),(⟨(⟨#[97]⟩:ByteArray),true,(⟨#[]⟩:ByteArray),1,2,0,1⟩:Az)]:List Az) (⟨#[122,121]⟩:ByteArray) A6 n7 c8 A11 n12 c13 (some ⟨gb28,0,none⟩) 3 3 (hL48.argO (dk:=Dl) hp49 [] rfl 3 rfl rfl (Ow.weak hL2.env.size h9) (me 1 rfl) (Cells.flat _)) (hL48.argO (dk:=Gg) hp49 [] rfl 4 rfl rfl (Ow.weak hL2.env.size h14) (me 1 rfl) (Cells.flat _)) (hL48.argO (dk:=F8) hp49 [] rfl 1 rfl rfl h29 (me 1 rfl) (Cells.flat _)) (hL48.tb hp49 hG (me 2 rfl)) (hL48.hFl hp49 (Bi [] rfl)) (hL48.into hp49 _) r50 hv51) ?_
   rintro _ w59 ⟨A52,n53,c54,cs57,rfl,hM60,h55,hC58⟩
   obtain ⟨sb63,hL61,hv62⟩:=hL48.callB (Sl:=([]:List Cc)) hp49 hM60 F (Bi [] rfl) trivial
   have hC58:Cells Dy (Sm w.heap.size F w59 sb63).w (Sm w.heap.size F w59 sb63).av r50 cs57:=Cells.mono hv62 hC58
   refine ⟨_,_,_,rfl,hL61,?_⟩
   refine Aa 3 rfl (Af rfl) gn rfl<|Aj 4 rfl<|Ah rfl<|Ac rfl rfl<|Aa 0 rfl (Nj [.slice A6 n7 c8,.slice A11 n12 c13] 3 U4 rfl rfl rfl rfl) gn rfl ?_
   obtain ⟨r68,hv69,h⟩:=h
   refine Cf 1 rfl (D8 [.agg #[.slice A6 n7 c8,.slice A11 n12 c13]] rfl Tryd.func25 rfl rfl rfl fun w65 hL66=>?_) gn
   have hp67:=pmI hL66 .n (.c 0 rfl (.c 1 rfl (.c 2 rfl (.c 3 rfl (.c 4 rfl (.c 5 rfl .n)))))) (by kernel_rfl)
   refine Calls.mono (Xe9 w65 (Fl ([]:List Cc)) r4.1 A6 n7 c8 A11 n12 c13 (hL66.argO (dk:=Dl) hp67 [] rfl 4 rfl rfl (Ow.weak hL2.env.size h9) (me 2 rfl) (Cells.flat _)) (hL66.argO (dk:=Gg) hp67 [] rfl 5 rfl rfl (Ow.weak hL2.env.size h14) (me 2 rfl) (Cells.flat _)) (hL66.tb hp67 hG (me 3 rfl)) (hL66.hFl hp67 (Bi [] rfl)) (hL66.into hp67 _) r68 hv69) ?_
   rintro _ w70 ⟨rfl,hM71⟩
   have hL72:=hL66.call hp67 hM71
   refine ⟨_,_,_,rfl,hL72,?_⟩
   refine Aa 2 rfl (Ad rfl) gn rfl<|Aa 3 rfl (Hm rfl rfl) gn rfl<|Aa 4 rfl (Hm rfl rfl) gn rfl<|Aa 5 rfl (Af rfl) gn rfl<|Aa 6 rfl (Af rfl) gn rfl<|Aj 7 rfl<|Ah rfl<|Ac rfl rfl<|Aa 0 rfl (Ad rfl) gn rfl<|Aa 1 rfl (Dj Xgj rfl (Ow.weak hL31.env.size h38).hq) gn rfl<|Aa 2 rfl (Be rfl rfl rfl) gn rfl<|Aa 3 rfl (Ad rfl) gn rfl ?_
   by_cases hp73:(r33.length:Int)=1
   ·have h:=Ap hp73 h
    refine Bv 50 rfl ((eqi hp73))<|Aa 4 rfl (Ad rfl) (gy 50 rfl rfl) rfl ?_
    obtain ⟨hb74,h⟩:=h
    obtain ⟨ce75,hK76,ht77,hg78⟩:=Cells.get hC41 hb74
    obtain ⟨A79,n80,c81,rfl,h82⟩:=hK76
    refine Aa 5 rfl (Fj Xev rfl rfl (Ow.weak hL31.env.size h38) hb74) (gy 50 rfl rfl) rfl<|Aa 6 rfl (Ja Xc1 rfl) (gy 50 rfl rfl) rfl<|Aa 7 rfl (Ut (.slice A79 n80 c81) 1 Y0 rfl rfl (hg78 0 _ rfl)) (gy 50 rfl rfl) rfl ?_
    refine Cf 8 rfl (Gw (xs:=([0,1]:List Int)) [.int .i64 0,.int .i64 1] bs_36_2 rfl (by kernel_rfl) rfl rfl rfl rfl fun gb84 h85=>?_) (gy 50 rfl rfl)
    obtain ⟨r89,hv90,h⟩:=h
    refine Cf 9 rfl (D8 [.slice A79 n80 c81,.slice (some ⟨gb84,0,none⟩) 2 2] rfl Tryd.func36 rfl rfl rfl fun w86 hL87=>?_) (gy 50 rfl rfl)
    have hp88:=pmI hL87 .n (.c 0 rfl (.c 1 rfl (.c 2 rfl (.c 3 rfl (.c 4 rfl (.c 5 rfl (.c 6 rfl .n))))))) (by kernel_rfl)
    refine Calls.mono (Rn w86 (Fl ([]:List Cc)) ((ix r33 0).nodes) ([0,1]:List Int) A79 n80 c81 (some ⟨gb84,0,none⟩) 2 2 (Rw.mono h82 (hL87.toSt hp88 (me 1 rfl))) (hL87.argO (dk:=(G8 .i64)) hp88 [] rfl 0 rfl rfl h85 (me 2 rfl) (Cells.flat _)) (hL87.hFl hp88 (Bi [] rfl)) (hL87.into hp88 _) r89 hv90) ?_
    rintro _ w91 ⟨rfl,hM92⟩
    have hL93:=hL87.call hp88 hM92
    refine ⟨_,_,_,rfl,hL93,?_⟩
    refine Aa 10 rfl (Bd (b:=true) rfl rfl) gn rfl<|Aa 11 rfl (Ad rfl) gn rfl ?_
    by_cases hp94:r89=true
    ·have h:=Ap hp94 h
     refine Bv 58 rfl (hp94)<|Aa 12 rfl (Ad rfl) (gy 58 rfl rfl) rfl<|Aa 13 rfl (Dj Xgj rfl (Ow.weak hL48.env.size h55).hq) (gy 58 rfl rfl) rfl<|Aa 14 rfl (Be rfl rfl rfl) (gy 58 rfl rfl) rfl<|Aa 15 rfl (Bd (b:=true) rfl rfl) gn rfl<|Aa 16 rfl (Ad rfl) gn rfl ?_
     by_cases hp95:(r50.length:Int)=0
     ·have h:=Ap hp95 h
      refine Bv 63 rfl ((eqi hp95))<|Aa 17 rfl (Ad rfl) (gy 63 rfl rfl) rfl<|Aa 18 rfl (Be rfl rfl rfl) (gy 63 rfl rfl) rfl<|Aa 19 rfl (Bd (b:=true) rfl rfl) gn rfl<|Aa 20 rfl (Ad rfl) gn rfl ?_
      by_cases hp96:r68.2=0
      ·have h:=Ap hp96 h
       refine Bv 67 rfl ((eqi hp96))<|Aa 21 rfl (Ad rfl) (gy 67 rfl rfl) rfl<|Aa 22 rfl (Zc rfl rfl) (gy 67 rfl rfl) rfl<|Aa 23 rfl (Bd (b:=true) rfl rfl) gn rfl<|Aa 24 rfl (Af rfl) gn rfl<|Aj 25 rfl ?_
       refine C9 [.bool (seq r68.1 (⟨#[40,32,115,32,40,32,97,32,41,32,64,32,120,32,41,32,119,104,101,110,32,64,32,120,32,61,32,34,121,34]⟩:ByteArray))] rfl Tryd.func27 rfl (.tmp rfl (.nil)) fun wr hLr=>?_
       have hMr:=hLr.pk0 (.c 3 rfl .n)
       show Gq w F  r (.returned (Ci [.bool (seq r68.1 (⟨#[40,32,115,32,40,32,97,32,41,32,64,32,120,32,41,32,119,104,101,110,32,64,32,120,32,61,32,34,121,34]⟩:ByteArray))])) wr
       rw [h]
       exact ⟨rfl,hMr⟩
      ·have h:=Aq hp96 h
       refine Bv 67 rfl ((nei hp96))<|Ae 21 rfl (ps 67 rfl rfl rfl)<|Ae 22 rfl (ps 67 rfl rfl rfl)<|Aa 23 rfl (Bd (b:=false) rfl rfl) gn rfl<|Aa 24 rfl (Af rfl) gn rfl<|Aj 25 rfl ?_
       refine C9 [.bool false] rfl Tryd.func27 rfl (.tmp rfl (.nil)) fun wr hLr=>?_
       have hMr:=hLr.pk0 (.c 3 rfl .n)
       show Gq w F  r (.returned (Ci [.bool false])) wr
       rw [h]
       exact ⟨rfl,hMr⟩
     ·have h:=Aq hp95 h
      refine Bv 63 rfl ((nei hp95))<|Ae 17 rfl (ps 63 rfl rfl rfl)<|Ae 18 rfl (ps 63 rfl rfl rfl)<|Aa 19 rfl (Bd (b:=false) rfl rfl) gn rfl<|Aa 20 rfl (Ad rfl) gn rfl<|Ae 21 rfl (ps 67 rfl rfl rfl)<|Ae 22 rfl (ps 67 rfl rfl rfl)<|Aa 23 rfl (Bd (b:=false) rfl rfl) gn rfl<|Aa 24 rfl (Af rfl) gn rfl<|Aj 25 rfl ?_
      refine C9 [.bool false] rfl Tryd.func27 rfl (.tmp rfl (.nil)) fun wr hLr=>?_
      have hMr:=hLr.pk0 (.c 3 rfl .n)
      show Gq w F  r (.returned (Ci [.bool false])) wr
      rw [h]
      exact ⟨rfl,hMr⟩
    ·have h:=Aq hp94 h
     refine Bv 58 rfl ((bf hp94))<|Ae 12 rfl (ps 58 rfl rfl rfl)<|Ae 13 rfl (ps 58 rfl rfl rfl)<|Ae 14 rfl (ps 58 rfl rfl rfl)<|Aa 15 rfl (Bd (b:=false) rfl rfl) gn rfl<|Aa 16 rfl (Ad rfl) gn rfl<|Ae 17 rfl (ps 63 rfl rfl rfl)<|Ae 18 rfl (ps 63 rfl rfl rfl)<|Aa 19 rfl (Bd (b:=false) rfl rfl) gn rfl<|Aa 20 rfl (Ad rfl) gn rfl<|Ae 21 rfl (ps 67 rfl rfl rfl)<|Ae 22 rfl (ps 67 rfl rfl rfl) ?_
     refine Aa 23 rfl (Bd (b:=false) rfl rfl) gn rfl<|Aa 24 rfl (Af rfl) gn rfl<|Aj 25 rfl ?_
     refine C9 [.bool false] rfl Tryd.func27 rfl (.tmp rfl (.nil)) fun wr hLr=>?_
     have hMr:=hLr.pk0 (.c 3 rfl .n)
     show Gq w F  r (.returned (Ci [.bool false])) wr
     rw [h]
     exact ⟨rfl,hMr⟩
   ·have h:=Aq hp73 h
    refine Bv 50 rfl ((nei hp73))<|Ae 4 rfl (ps 50 rfl rfl rfl)<|Ae 5 rfl (ps 50 rfl rfl rfl)<|Ae 6 rfl (ps 50 rfl rfl rfl)<|Ae 7 rfl (ps 50 rfl rfl rfl)<|Ae 8 rfl (ps 50 rfl rfl rfl)<|Ae 9 rfl (ps 50 rfl rfl rfl)<|Aa 10 rfl (Bd (b:=false) rfl rfl) gn rfl<|Aa 11 rfl (Ad rfl) gn rfl<|Ae 12 rfl (ps 58 rfl rfl rfl)<|Ae 13 rfl (ps 58 rfl rfl rfl)<|Ae 14 rfl (ps 58 rfl rfl rfl) ?_
    refine Aa 15 rfl (Bd (b:=false) rfl rfl) gn rfl<|Aa 16 rfl (Ad rfl) gn rfl<|Ae 17 rfl (ps 63 rfl rfl rfl)<|Ae 18 rfl (ps 63 rfl rfl rfl)<|Aa 19 rfl (Bd (b:=false) rfl rfl) gn rfl<|Aa 20 rfl (Ad rfl) gn rfl<|Ae 21 rfl (ps 67 rfl rfl rfl)<|Ae 22 rfl (ps 67 rfl rfl rfl)<|Aa 23 rfl (Bd (b:=false) rfl rfl) gn rfl<|Aa 24 rfl (Af rfl) gn rfl<|Aj 25 rfl ?_
    refine C9 [.bool false] rfl Tryd.func27 rfl (.tmp rfl (.nil)) fun wr hLr=>?_
    have hMr:=hLr.pk0 (.c 3 rfl .n)
    show Gq w F  r (.returned (Ci [.bool false])) wr
    rw [h]
    exact ⟨rfl,hMr⟩
 refine Ac rfl rfl<|Aa 0 rfl (Ad rfl) gn rfl<|Aa 1 rfl (Be rfl rfl rfl) gn rfl<|Aa 2 rfl (Ad rfl) gn rfl ?_
 by_cases hp97:r4.2.1=0
 ·have h:=Ap hp97 h
  refine Bv 16 rfl ((Xd2 hp97))<|Aa 3 rfl (Ad rfl) (gy 16 rfl rfl) rfl<|Aa 4 rfl (Be rfl rfl rfl) (gy 16 rfl rfl) rfl<|Aa 5 rfl (Bd (b:=false) rfl rfl) gn rfl<|Aa 6 rfl (Ad rfl) gn rfl ?_
  by_cases hp98:r4.2.2=0
  ·have h:=Ap hp98 h
   refine Bv 20 rfl ((Xd2 hp98))<|Aa 7 rfl (Aw J4 rfl) (gy 20 rfl rfl) rfl<|Aa 8 rfl (Au 0 Rl rfl rfl rfl) (gy 20 rfl rfl) rfl<|Aa 9 rfl (Dj Xas rfl (Ow.weak hL2.env.size h9).hq) (gy 20 rfl rfl) rfl<|Aa 10 rfl (Be rfl rfl rfl) (gy 20 rfl rfl) rfl<|Aa 11 rfl (Bd (b:=false) rfl rfl) gn rfl<|Aa 12 rfl (Ad rfl) gn rfl ?_
   by_cases hp99:(r4.1.nodes.length:Int)=2
   ·have h:=Ap hp99 h
    refine Bv 26 rfl ((Xd2 hp99))<|Aa 13 rfl (Aw U0 rfl) (gy 26 rfl rfl) rfl<|Aa 14 rfl (Au 0 Xck rfl rfl rfl) (gy 26 rfl rfl) rfl<|Aa 15 rfl (Dj Xhd rfl (Ow.weak hL2.env.size h14).hq) (gy 26 rfl rfl) rfl<|Aa 16 rfl (Be rfl rfl rfl) (gy 26 rfl rfl) rfl<|Aa 17 rfl (Bd (b:=false) rfl rfl) gn rfl<|Aj 18 rfl ?_
    exact Dc [0,1] (j1 ((r4.1.conds.length:Int) != 1) h) ⟨rfl,rfl,trivial⟩ (.cons_cons _ (.cons_cons _ (.cons_cons _ (.slnil)))) rfl
   ·have h:=Aq hp99 h
    refine Bv 26 rfl ((Xde hp99))<|Ae 13 rfl (ps 26 rfl rfl rfl)<|Ae 14 rfl (ps 26 rfl rfl rfl)<|Ae 15 rfl (ps 26 rfl rfl rfl)<|Ae 16 rfl (ps 26 rfl rfl rfl)<|Aa 17 rfl (Bd (b:=true) rfl rfl) gn rfl<|Aj 18 rfl ?_
    exact Dc [0,1] (j1 true h) ⟨rfl,rfl,trivial⟩ (.cons_cons _ (.cons_cons _ (.cons_cons _ (.slnil)))) rfl
  ·have h:=Aq hp98 h
   refine Bv 20 rfl ((Xde hp98))<|Ae 7 rfl (ps 20 rfl rfl rfl)<|Ae 8 rfl (ps 20 rfl rfl rfl)<|Ae 9 rfl (ps 20 rfl rfl rfl)<|Ae 10 rfl (ps 20 rfl rfl rfl)<|Aa 11 rfl (Bd (b:=true) rfl rfl) gn rfl<|Aa 12 rfl (Ad rfl) gn rfl<|Ae 13 rfl (ps 26 rfl rfl rfl)<|Ae 14 rfl (ps 26 rfl rfl rfl)<|Ae 15 rfl (ps 26 rfl rfl rfl)<|Ae 16 rfl (ps 26 rfl rfl rfl)<|Aa 17 rfl (Bd (b:=true) rfl rfl) gn rfl ?_
   refine Aj 18 rfl ?_
   exact Dc [0,1] (j1 true h) ⟨rfl,rfl,trivial⟩ (.cons_cons _ (.cons_cons _ (.cons_cons _ (.slnil)))) rfl
 ·have h:=Aq hp97 h
  refine Bv 16 rfl ((Xde hp97))<|Ae 3 rfl (ps 16 rfl rfl rfl)<|Ae 4 rfl (ps 16 rfl rfl rfl)<|Aa 5 rfl (Bd (b:=true) rfl rfl) gn rfl<|Aa 6 rfl (Ad rfl) gn rfl<|Ae 7 rfl (ps 20 rfl rfl rfl)<|Ae 8 rfl (ps 20 rfl rfl rfl)<|Ae 9 rfl (ps 20 rfl rfl rfl)<|Ae 10 rfl (ps 20 rfl rfl rfl)<|Aa 11 rfl (Bd (b:=true) rfl rfl) gn rfl<|Aa 12 rfl (Ad rfl) gn rfl<|Ae 13 rfl (ps 26 rfl rfl rfl) ?_
  refine Ae 14 rfl (ps 26 rfl rfl rfl)<|Ae 15 rfl (ps 26 rfl rfl rfl)<|Ae 16 rfl (ps 26 rfl rfl rfl)<|Aa 17 rfl (Bd (b:=true) rfl rfl) gn rfl<|Aj 18 rfl ?_
  exact Dc [0,1] (j1 true h) ⟨rfl,rfl,trivial⟩ (.cons_cons _ (.cons_cons _ (.cons_cons _ (.slnil)))) rfl
noncomputable abbrev Xgw:=Code.snd (Code.snd (Code.snd (Code.snd (Dv Tryd.f33))))
noncomputable abbrev Xf3:=Code.fst (Code.fst (Code.fst (Code.snd (Code.snd (Code.snd (Dv Tryd.f33))))))
noncomputable abbrev Xbh:=Code.snd (Code.snd Xgw)
noncomputable abbrev X4:=Code.fst (Code.fst (Code.snd (Code.fst (Code.snd Xgw))))
noncomputable abbrev q33c36:=Code.fst (Code.fst (Code.snd X4))
abbrev Py (w:World) (F:Nat→Prop) (r:Ar × Int):Ending→World→Prop:=fun e w'=>∃ A0:Option Addr,∃ n0:Nat,∃ c0:Nat,∃ A1:Option Addr,∃ n1:Nat,∃ c1:Nat,e=.returned (.tuple #[.agg #[.slice A0 n0 c0,.slice A1 n1 c1],.int .i64 r.2])∧B.Loc w w' [.own (.slice A0 n0 c0) 45 5 n0 (r.1.nodes.flatMap Am),.own (.slice A1 n1 c1) 47 4 n1 (r.1.conds.flatMap Bj)] [St w []]∧Ow w.heap.size A0 n0 c0 r.1.nodes∧Ow w.heap.size A1 n1 c1 r.1.conds
noncomputable abbrev G9 (w:World) (F:Nat→Prop) (r:Ar × Int):Cx:=⟨Tryd.prog,33,Tryd.f33,48,Py w F  r,w⟩
theorem Zx (w:World) (F:Nat→Prop) (x1:List Ag) (x6:Int) (A2:Option Addr) (n3:Nat) (c4:Nat) (h5:Rw Dl w (St w []).av A2 n3 c4 x1) (hF:∀ b,F b→b < w.heap.size∧∀ o ∈ ([]:List (List Nat)),b ∉ o) (hL0:B.Loc w w [] [Sm w.heap.size F w [],St w []]) (r:Ar × Int) (h:Ru x1 x6 r):Calls Tryd.prog 33 #[.slice A2 n3 c4,.int .i64 x6] w (Py w F  r):=by
 unfold Ru at h
 refine Ce (vs:=[.slice A2 n3 c4,.int .i64 x6]) 48 Tryd.func33 rfl Tryd.ntmps33 rfl hL0 ?_
 show G (G9 w F r) _ _ _ _
 refine Ah rfl<|Ac rfl rfl ?_
 refine Cf 0 rfl (Gz [.slice none 0 0,.slice none 0 0] Xi1 rfl fun gb7=>?_) gn
 refine Aa 1 rfl (Af rfl) gn rfl<|Aj 2 rfl<|Ah rfl<|Ac rfl rfl<|Aa 0 rfl (Af rfl) gn rfl<|Aj 1 rfl<|Ah rfl<|Ac rfl rfl<|Aa 0 rfl (Ad rfl) gn rfl<|Aa 1 rfl (Af rfl) gn rfl<|Aj 2 rfl<|Ah rfl ?_
 refine Df rfl<|Io rfl ?_
 have key1:∀ s,Bl (fun (s:Int × Int) o=>Gl x1 x6 s.1 s.2 o) s r→(fun (s:Int × Int)=>∀ (_:Unit),G (G9 w F r) [.code Xf3,.inLoop Xf3,.inBlock 0,.code Xgw] [(0,.slice A2 n3 c4),(1,.int .i64 x6),(4,.pointer (some ⟨gb7,0,none⟩)),(6,.int .i64 s.1),(7,.int .i64 s.2)] [.box gb7 25 [.slice none 0 0,.slice none 0 0]] [Sm w.heap.size F w [],St w []]) s:=by
  intro s hs
  refine Bl.ind (mot:=(fun (s:Int × Int)=>∀ (_:Unit),G (G9 w F r) [.code Xf3,.inLoop Xf3,.inBlock 0,.code Xgw] [(0,.slice A2 n3 c4),(1,.int .i64 x6),(4,.pointer (some ⟨gb7,0,none⟩)),(6,.int .i64 s.1),(7,.int .i64 s.2)] [.box gb7 25 [.slice none 0 0,.slice none 0 0]] [Sm w.heap.size F w [],St w []])) ?_ hs
  clear hs s
  intro s o1 h hO1
  obtain ⟨x112,x113⟩:=s
  show ∀ (_:Unit),G (G9 w F r) [.code Xf3,.inLoop Xf3,.inBlock 0,.code Xgw] [(0,.slice A2 n3 c4),(1,.int .i64 x6),(4,.pointer (some ⟨gb7,0,none⟩)),(6,.int .i64 x112),(7,.int .i64 x113)] [.box gb7 25 [.slice none 0 0,.slice none 0 0]] [Sm w.heap.size F w [],St w []]
  intro _
  have h:Gl x1 x6 x112 x113 o1:=h
  unfold Gl at h
  refine Ah rfl<|Ah rfl<|Ac rfl rfl<|Aa 0 rfl (Ad rfl) gn rfl<|Aa 1 rfl (Be rfl rfl rfl) gn rfl<|Aa 2 rfl (Ad rfl) gn rfl ?_
  by_cases hp316:x112 > 0
  ·have h:=Ap hp316 h
   refine Bv 13 rfl ((decide_eq_true hp316))<|Aa 3 rfl (Ad rfl) (gy 13 rfl rfl) rfl<|Aa 4 rfl (Ad rfl) (gy 13 rfl rfl) rfl<|Aa 5 rfl (Dj Xas rfl h5.hq) (gy 13 rfl rfl) rfl<|Aa 6 rfl (Be rfl rfl rfl) (gy 13 rfl rfl) rfl<|Aa 7 rfl (Bd (b:=true) rfl rfl) gn rfl<|Aj 8 rfl ?_
   by_cases hp317:x113 < (x1.length:Int)
   ·have h:=Ap hp317 h
    refine Bz rfl _ rfl ((decide_eq_true hp317))<|Cb rfl<|Df rfl<|Ah rfl<|Ac rfl rfl<|Aa 0 rfl (Ad rfl) gn rfl<|Aa 1 rfl (Be rfl rfl rfl) gn rfl<|Aa 2 rfl (Ad rfl) gn rfl<|Aa 3 rfl (Ad rfl) gn rfl ?_
    obtain ⟨hb318,h⟩:=h
    have hr319:=Rw.readF (s:=St w []) (hl:=Ee) (h1:=Ez) h5 hb318
    refine Aa 4 rfl (F5 (s:=St w []) U7 rfl rfl h5 hb318) gn rfl<|Aa 5 rfl (Ja Uj rfl) gn rfl<|Aa 6 rfl (Hq (kk:=(x113:Int).toNat * 5) (j:=4) (St w []) H9 rfl hr319 rfl (me 1 rfl)) gn rfl<|Aa 7 rfl (Be rfl rfl rfl) gn rfl<|Aa 8 rfl (Af rfl) gn rfl<|Aj 9 rfl<|Ac rfl rfl<|Aa 0 rfl (Ad rfl) gn rfl<|Aa 1 rfl (Be rfl rfl rfl) gn rfl<|Aa 2 rfl (Af rfl) gn rfl<|Aj 3 rfl<|D7 ?_
    refine Dp ?_
    have ih:=Out.inl hO1 h
    exact Dc [0,1] (ih ()) ⟨rfl,rfl,rfl,rfl,rfl,trivial⟩ (.cons_cons _ (.slnil)) rfl
   ·have h:=Aq hp317 h
    refine Bg rfl _ rfl ((decide_eq_false hp317))<|Gp [.code Xgw] rfl rfl<|Ah rfl<|Ac rfl rfl ?_
    refine Cf 0 rfl (Gz [.slice none 0 0,.slice none 0 0] Xi1 rfl fun gb320=>?_) gn
    refine Aj 1 rfl<|Ah rfl<|Ah rfl<|Ac rfl rfl<|Aa 0 rfl (Ad rfl) gn rfl<|Aa 1 rfl (Af rfl) gn rfl<|Aj 2 rfl<|Df rfl<|Io rfl ?_
    have key2:∀ s,Bl (fun (s:Int × (List Ag)) o=>Ox x113 x1 x6 s.1 s.2 o) s o1→(fun (s:Int × (List Ag))=>∀ (A359:Option Addr) (n360:Nat) (c361:Nat) (h362:Ow w.heap.size A359 n360 c361 s.2),G (G9 w F r) [.code X4,.inLoop X4,.inBlock 2,.code Xbh] [(0,.slice A2 n3 c4),(1,.int .i64 x6),(4,.pointer (some ⟨gb7,0,none⟩)),(7,.int .i64 x113),(8,.pointer (some ⟨gb320,0,none⟩)),(9,.int .i64 s.1)] [.own (.slice A359 n360 c361) 45 5 n360 (s.2.flatMap Am),.box gb320 25 [.slice A359 n360 c361,.slice none 0 0],.box gb7 25 [.slice none 0 0,.slice none 0 0]] [Sm w.heap.size F w [],St w []]) s:=by
     intro s hs
     refine Bl.ind (mot:=(fun (s:Int × (List Ag))=>∀ (A359:Option Addr) (n360:Nat) (c361:Nat) (h362:Ow w.heap.size A359 n360 c361 s.2),G (G9 w F r) [.code X4,.inLoop X4,.inBlock 2,.code Xbh] [(0,.slice A2 n3 c4),(1,.int .i64 x6),(4,.pointer (some ⟨gb7,0,none⟩)),(7,.int .i64 x113),(8,.pointer (some ⟨gb320,0,none⟩)),(9,.int .i64 s.1)] [.own (.slice A359 n360 c361) 45 5 n360 (s.2.flatMap Am),.box gb320 25 [.slice A359 n360 c361,.slice none 0 0],.box gb7 25 [.slice none 0 0,.slice none 0 0]] [Sm w.heap.size F w [],St w []])) ?_ hs
     clear hs s
     intro s o2 h hO2
     obtain ⟨x357,x358⟩:=s
     show ∀ (A359:Option Addr) (n360:Nat) (c361:Nat) (h362:Ow w.heap.size A359 n360 c361 x358),G (G9 w F r) [.code X4,.inLoop X4,.inBlock 2,.code Xbh] [(0,.slice A2 n3 c4),(1,.int .i64 x6),(4,.pointer (some ⟨gb7,0,none⟩)),(7,.int .i64 x113),(8,.pointer (some ⟨gb320,0,none⟩)),(9,.int .i64 x357)] [.own (.slice A359 n360 c361) 45 5 n360 (x358.flatMap Am),.box gb320 25 [.slice A359 n360 c361,.slice none 0 0],.box gb7 25 [.slice none 0 0,.slice none 0 0]] [Sm w.heap.size F w [],St w []]
     intro A359 n360 c361 h362
     have h:Ox x113 x1 x6 x357 x358 o2:=h
     unfold Ox at h
     refine Ah rfl<|Ah rfl<|Ac rfl rfl<|Aa 0 rfl (Ad rfl) gn rfl<|Aa 1 rfl (Ad rfl) gn rfl<|Aa 2 rfl (Be rfl rfl rfl) gn rfl<|Aj 3 rfl ?_
     by_cases hp391:x357 < x113
     ·have h:=Ap hp391 h
      refine Bz rfl _ rfl ((decide_eq_true hp391))<|Cb rfl<|Ah rfl<|Df rfl ?_
      obtain ⟨hb392,h⟩:=h
      obtain ⟨x400,hv401,h⟩:=h
      obtain ⟨hb402,h⟩:=h
      have hns:Region.noSelect (Code.ops q33c36)=true:=by kernel_rfl
      refine Gf [7,8,9] 10 rfl rfl mix rfl (.c 0 rfl (.c 1 rfl .n))<|wfv 0 rfl (Aw J4 rfl) gn hns (by kernel_rfl)<|wfv 1 rfl (Au 1 Rl rfl rfl rfl) gn hns (by kernel_rfl)<|wfv 2 rfl (Ad rfl) gn hns (by kernel_rfl)<|wfv 3 rfl (Ad rfl) gn hns (by kernel_rfl) ?_
      have hr411:=Rw.readF (s:=St w []) (hl:=Ee) (h1:=Ez) h5 hb392
      refine wfv 4 rfl (F5 (s:=St w []) U7 rfl rfl h5 hb392) gn hns (by kernel_rfl)<|wfv 5 rfl (Z9 (St w []) Xav rfl hr411 rfl (me 1 rfl)) gn hns (by kernel_rfl) ?_
      refine Cm [6] (by kernel_rfl) rfl ⟨Et 6 rfl gn rfl (Gw (xs:=([ix x1 x357]:List Ag)) [.string ((ix x1 x357).name),.bool ((ix x1 x357).lit),.string ((ix x1 x357).field),.string ((ix x1 x357).capture),.int .i64 ((ix x1 x357).kids)] Xg3 rfl (by kernel_rfl) rfl rfl rfl rfl fun gb414 h415=>?_),trivial⟩
      refine ⟨Bi [1,2,3] rfl,Bi [0,1] rfl,?_⟩
      refine Cm [7] (by kernel_rfl) rfl ⟨Q7 7 rfl gn rfl (L8 (zs:=x400) (cells':=x400.flatMap Am) 1 ap_22 rfl rfl rfl h362 (Nat.le_refl _) (Src.ownF (hl:=Ee) (h1:=Ez) 0 rfl h415) (by rw [hv401,List.flatMap_append] <;> rfl) (Ff hv401 h415.hq) hb402 rfl rfl fun A416 c417 h418=>?_),trivial⟩
      unfold NxL
      refine Cm [8] (by kernel_rfl) rfl ⟨Q7 8 rfl gn rfl (Nk (Aw J4 rfl) rfl ?_),trivial⟩
      unfold NxL
      refine Cm [9] (by kernel_rfl) rfl ⟨Q7 9 rfl gn rfl (Fp (vs:=[.slice A416 (n360 + 1) c417]) (cs':=[.slice A416 (n360 + 1) c417,.slice none 0 0]) (M':=[.own (.slice (some ⟨gb414,0,none⟩) 1 1) 45 5 1 (([ix x1 x357]:List Ag).flatMap Am),.own (.slice A416 (n360 + 1) c417) 45 5 (n360 + 1) (x400.flatMap Am),.box gb320 25 [.slice A416 (n360 + 1) c417,.slice none 0 0],.box gb7 25 [.slice none 0 0,.slice none 0 0]]) 2 sz_22 rfl rfl rfl rfl rfl rfl rfl rfl rfl ?_),trivial⟩
      unfold NxL
      refine E8 (by kernel_rfl)<|D7<|Ac rfl rfl<|Aa 0 rfl (Ad rfl) gn rfl<|Aa 1 rfl (Be rfl rfl rfl) gn rfl<|Aa 2 rfl (Af rfl) gn rfl<|Aj 3 rfl<|Dp ?_
      have ih:=Out.inl hO2 h
      exact Dc [0,1] (ih A416 (n360 + 1) c417 h418) ⟨rfl,rfl,rfl,rfl,rfl,rfl,trivial⟩ (.cons _ (.cons_cons _ (.cons_cons _ (.cons_cons _ (.slnil))))) rfl
     ·have h:=Aq hp391 h
      refine Bg rfl _ rfl ((decide_eq_false hp391))<|Gp [.code Xbh] rfl rfl<|Ah rfl<|Ac rfl rfl<|Aa 0 rfl (Nj [.slice A359 n360 c361,.slice none 0 0] 1 U4 rfl rfl rfl rfl) gn rfl<|Aa 1 rfl (Ad rfl) gn rfl<|Aa 2 rfl (Ad rfl) gn rfl<|Aa 3 rfl (Be rfl rfl rfl) gn rfl ?_
      refine Cf 4 rfl (Fp (vs:=[.slice A359 n360 c361,.slice none 0 0]) (cs':=[.slice A359 n360 c361,.slice none 0 0]) (M':=[.own (.slice A359 n360 c361) 45 5 n360 (x358.flatMap Am),.box gb320 25 [.slice A359 n360 c361,.slice none 0 0],.box gb7 25 [.slice A359 n360 c361,.slice none 0 0]]) 2 Xh8 rfl rfl rfl rfl rfl rfl rfl rfl rfl ?_) gn
      refine Aa 5 rfl (Af rfl) gn rfl<|Aj 6 rfl<|Nr 47 4 ?_
      have h:=Out.inr hO2 h
      have h:=Out.inr hO1 h
      refine C9 [.agg #[.slice A359 n360 c361,.slice none 0 0],.int .i64 (w64 (x113 - x6))] rfl Tryd.func33 rfl (.cell (cs:=[.slice A359 n360 c361,.slice none 0 0]) (us:=[.slice A359 n360 c361,.slice none 0 0]) 3 rfl U4 rfl rfl rfl (.tmp rfl (.nil))) fun wr hLr=>?_
      have hMr:=hLr.pkI (.c 1 rfl (.c 0 rfl .n)) (.c 2 rfl (.c 3 rfl .n)) (by kernel_rfl) (.c 1 rfl .n)
      show Py w F  r (.returned (Ci [.agg #[.slice A359 n360 c361,.slice none 0 0],.int .i64 (w64 (x113 - x6))])) wr
      rw [h]
      exact ⟨A359,n360,c361,none,0,0,rfl,hMr,h362,(Ow.nil (z:=w.heap.size))⟩
    refine Nr 45 5 ?_
    exact Dc [0,1] (key2 _ h none 0 0 (Ow.nil (z:=w.heap.size))) ⟨rfl,rfl,rfl,rfl,rfl,rfl,trivial⟩ (.cons_cons _ (.cons_cons _ (.cons_cons _ (.slnil)))) rfl
  ·have h:=Aq hp316 h
   refine Bv 13 rfl ((decide_eq_false hp316))<|Ae 3 rfl (ps 13 rfl rfl rfl)<|Ae 4 rfl (ps 13 rfl rfl rfl)<|Ae 5 rfl (ps 13 rfl rfl rfl)<|Ae 6 rfl (ps 13 rfl rfl rfl)<|Aa 7 rfl (Bd (b:=false) rfl rfl) gn rfl<|Aj 8 rfl<|Bg rfl _ rfl (rfl)<|Gp [.code Xgw] rfl rfl<|Ah rfl<|Ac rfl rfl ?_
   refine Cf 0 rfl (Gz [.slice none 0 0,.slice none 0 0] Xi1 rfl fun gb419=>?_) gn
   refine Aj 1 rfl<|Ah rfl<|Ah rfl<|Ac rfl rfl<|Aa 0 rfl (Ad rfl) gn rfl<|Aa 1 rfl (Af rfl) gn rfl<|Aj 2 rfl<|Df rfl<|Io rfl ?_
   have key3:∀ s,Bl (fun (s:Int × (List Ag)) o=>Ii x113 x1 x6 s.1 s.2 o) s o1→(fun (s:Int × (List Ag))=>∀ (A458:Option Addr) (n459:Nat) (c460:Nat) (h461:Ow w.heap.size A458 n459 c460 s.2),G (G9 w F r) [.code X4,.inLoop X4,.inBlock 2,.code Xbh] [(0,.slice A2 n3 c4),(1,.int .i64 x6),(4,.pointer (some ⟨gb7,0,none⟩)),(7,.int .i64 x113),(8,.pointer (some ⟨gb419,0,none⟩)),(9,.int .i64 s.1)] [.own (.slice A458 n459 c460) 45 5 n459 (s.2.flatMap Am),.box gb419 25 [.slice A458 n459 c460,.slice none 0 0],.box gb7 25 [.slice none 0 0,.slice none 0 0]] [Sm w.heap.size F w [],St w []]) s:=by
    intro s hs
    refine Bl.ind (mot:=(fun (s:Int × (List Ag))=>∀ (A458:Option Addr) (n459:Nat) (c460:Nat) (h461:Ow w.heap.size A458 n459 c460 s.2),G (G9 w F r) [.code X4,.inLoop X4,.inBlock 2,.code Xbh] [(0,.slice A2 n3 c4),(1,.int .i64 x6),(4,.pointer (some ⟨gb7,0,none⟩)),(7,.int .i64 x113),(8,.pointer (some ⟨gb419,0,none⟩)),(9,.int .i64 s.1)] [.own (.slice A458 n459 c460) 45 5 n459 (s.2.flatMap Am),.box gb419 25 [.slice A458 n459 c460,.slice none 0 0],.box gb7 25 [.slice none 0 0,.slice none 0 0]] [Sm w.heap.size F w [],St w []])) ?_ hs
    clear hs s
    intro s o2 h hO2
    obtain ⟨x456,x457⟩:=s
    show ∀ (A458:Option Addr) (n459:Nat) (c460:Nat) (h461:Ow w.heap.size A458 n459 c460 x457),G (G9 w F r) [.code X4,.inLoop X4,.inBlock 2,.code Xbh] [(0,.slice A2 n3 c4),(1,.int .i64 x6),(4,.pointer (some ⟨gb7,0,none⟩)),(7,.int .i64 x113),(8,.pointer (some ⟨gb419,0,none⟩)),(9,.int .i64 x456)] [.own (.slice A458 n459 c460) 45 5 n459 (x457.flatMap Am),.box gb419 25 [.slice A458 n459 c460,.slice none 0 0],.box gb7 25 [.slice none 0 0,.slice none 0 0]] [Sm w.heap.size F w [],St w []]
    intro A458 n459 c460 h461
    have h:Ii x113 x1 x6 x456 x457 o2:=h
    unfold Ii at h
    refine Ah rfl<|Ah rfl<|Ac rfl rfl<|Aa 0 rfl (Ad rfl) gn rfl<|Aa 1 rfl (Ad rfl) gn rfl<|Aa 2 rfl (Be rfl rfl rfl) gn rfl<|Aj 3 rfl ?_
    by_cases hp490:x456 < x113
    ·have h:=Ap hp490 h
     refine Bz rfl _ rfl ((decide_eq_true hp490))<|Cb rfl<|Ah rfl<|Df rfl ?_
     obtain ⟨hb491,h⟩:=h
     obtain ⟨x499,hv500,h⟩:=h
     obtain ⟨hb501,h⟩:=h
     have hns:Region.noSelect (Code.ops q33c36)=true:=by kernel_rfl
     refine Gf [7,8,9] 10 rfl rfl mix rfl (.c 0 rfl (.c 1 rfl .n))<|wfv 0 rfl (Aw J4 rfl) gn hns (by kernel_rfl)<|wfv 1 rfl (Au 1 Rl rfl rfl rfl) gn hns (by kernel_rfl)<|wfv 2 rfl (Ad rfl) gn hns (by kernel_rfl)<|wfv 3 rfl (Ad rfl) gn hns (by kernel_rfl) ?_
     have hr510:=Rw.readF (s:=St w []) (hl:=Ee) (h1:=Ez) h5 hb491
     refine wfv 4 rfl (F5 (s:=St w []) U7 rfl rfl h5 hb491) gn hns (by kernel_rfl)<|wfv 5 rfl (Z9 (St w []) Xav rfl hr510 rfl (me 1 rfl)) gn hns (by kernel_rfl) ?_
     refine Cm [6] (by kernel_rfl) rfl ⟨Et 6 rfl gn rfl (Gw (xs:=([ix x1 x456]:List Ag)) [.string ((ix x1 x456).name),.bool ((ix x1 x456).lit),.string ((ix x1 x456).field),.string ((ix x1 x456).capture),.int .i64 ((ix x1 x456).kids)] Xg3 rfl (by kernel_rfl) rfl rfl rfl rfl fun gb513 h514=>?_),trivial⟩
     refine ⟨Bi [1,2,3] rfl,Bi [0,1] rfl,?_⟩
     refine Cm [7] (by kernel_rfl) rfl ⟨Q7 7 rfl gn rfl (L8 (zs:=x499) (cells':=x499.flatMap Am) 1 ap_22 rfl rfl rfl h461 (Nat.le_refl _) (Src.ownF (hl:=Ee) (h1:=Ez) 0 rfl h514) (by rw [hv500,List.flatMap_append] <;> rfl) (Ff hv500 h514.hq) hb501 rfl rfl fun A515 c516 h517=>?_),trivial⟩
     unfold NxL
     refine Cm [8] (by kernel_rfl) rfl ⟨Q7 8 rfl gn rfl (Nk (Aw J4 rfl) rfl ?_),trivial⟩
     unfold NxL
     refine Cm [9] (by kernel_rfl) rfl ⟨Q7 9 rfl gn rfl (Fp (vs:=[.slice A515 (n459 + 1) c516]) (cs':=[.slice A515 (n459 + 1) c516,.slice none 0 0]) (M':=[.own (.slice (some ⟨gb513,0,none⟩) 1 1) 45 5 1 (([ix x1 x456]:List Ag).flatMap Am),.own (.slice A515 (n459 + 1) c516) 45 5 (n459 + 1) (x499.flatMap Am),.box gb419 25 [.slice A515 (n459 + 1) c516,.slice none 0 0],.box gb7 25 [.slice none 0 0,.slice none 0 0]]) 2 sz_22 rfl rfl rfl rfl rfl rfl rfl rfl rfl ?_),trivial⟩
     unfold NxL
     refine E8 (by kernel_rfl)<|D7<|Ac rfl rfl<|Aa 0 rfl (Ad rfl) gn rfl<|Aa 1 rfl (Be rfl rfl rfl) gn rfl<|Aa 2 rfl (Af rfl) gn rfl<|Aj 3 rfl<|Dp ?_
     have ih:=Out.inl hO2 h
     exact Dc [0,1] (ih A515 (n459 + 1) c516 h517) ⟨rfl,rfl,rfl,rfl,rfl,rfl,trivial⟩ (.cons _ (.cons_cons _ (.cons_cons _ (.cons_cons _ (.slnil))))) rfl
    ·have h:=Aq hp490 h
     refine Bg rfl _ rfl ((decide_eq_false hp490))<|Gp [.code Xbh] rfl rfl<|Ah rfl<|Ac rfl rfl<|Aa 0 rfl (Nj [.slice A458 n459 c460,.slice none 0 0] 1 U4 rfl rfl rfl rfl) gn rfl<|Aa 1 rfl (Ad rfl) gn rfl<|Aa 2 rfl (Ad rfl) gn rfl<|Aa 3 rfl (Be rfl rfl rfl) gn rfl ?_
     refine Cf 4 rfl (Fp (vs:=[.slice A458 n459 c460,.slice none 0 0]) (cs':=[.slice A458 n459 c460,.slice none 0 0]) (M':=[.own (.slice A458 n459 c460) 45 5 n459 (x457.flatMap Am),.box gb419 25 [.slice A458 n459 c460,.slice none 0 0],.box gb7 25 [.slice A458 n459 c460,.slice none 0 0]]) 2 Xh8 rfl rfl rfl rfl rfl rfl rfl rfl rfl ?_) gn
     refine Aa 5 rfl (Af rfl) gn rfl<|Aj 6 rfl<|Nr 47 4 ?_
     have h:=Out.inr hO2 h
     have h:=Out.inr hO1 h
     refine C9 [.agg #[.slice A458 n459 c460,.slice none 0 0],.int .i64 (w64 (x113 - x6))] rfl Tryd.func33 rfl (.cell (cs:=[.slice A458 n459 c460,.slice none 0 0]) (us:=[.slice A458 n459 c460,.slice none 0 0]) 3 rfl U4 rfl rfl rfl (.tmp rfl (.nil))) fun wr hLr=>?_
     have hMr:=hLr.pkI (.c 1 rfl (.c 0 rfl .n)) (.c 2 rfl (.c 3 rfl .n)) (by kernel_rfl) (.c 1 rfl .n)
     show Py w F  r (.returned (Ci [.agg #[.slice A458 n459 c460,.slice none 0 0],.int .i64 (w64 (x113 - x6))])) wr
     rw [h]
     exact ⟨A458,n459,c460,none,0,0,rfl,hMr,h461,(Ow.nil (z:=w.heap.size))⟩
   refine Nr 45 5 ?_
   exact Dc [0,1] (key3 _ h none 0 0 (Ow.nil (z:=w.heap.size))) ⟨rfl,rfl,rfl,rfl,rfl,rfl,trivial⟩ (.cons_cons _ (.cons_cons _ (.cons_cons _ (.slnil)))) rfl
 exact Dc [0,1] (key1 _ h ()) ⟨rfl,rfl,rfl,rfl,rfl,trivial⟩ (.cons_cons _ (.slnil)) rfl
noncomputable abbrev q34c4:=Code.snd (Code.snd (Dv Tryd.f34))
noncomputable abbrev Xi3:=Code.fst (Code.fst (Code.snd (Code.fst (Code.snd (Dv Tryd.f34)))))
abbrev Ou (w:World) (F:Nat→Prop) (r:List Int):Ending→World→Prop:=fun e w'=>∃ A0:Option Addr,∃ n0:Nat,∃ c0:Nat,e=.returned (.slice A0 n0 c0)∧B.Loc w w' [] [St w []]∧Rw (G8 .i64) w' (Nw w w' F []) A0 n0 c0 r∧(r=[]→A0=none)
noncomputable abbrev Ov (w:World) (F:Nat→Prop) (r:List Int):Cx:=⟨Tryd.prog,34,Tryd.f34,35,Ou w F  r,w⟩
theorem Ue (w:World) (F:Nat→Prop) (x1:List Bq) (x6:Int) (A2:Option Addr) (n3:Nat) (c4:Nat) (h5:Rw Dy w F A2 n3 c4 x1) (hF:∀ b,F b→b < w.heap.size∧∀ o ∈ ([]:List (List Nat)),b ∉ o) (hL0:B.Loc w w [] [Sm w.heap.size F w [],St w []]) (r:List Int) (h:Ld x1 x6 r):Calls Tryd.prog 34 #[.slice A2 n3 c4,.int .i64 x6] w (Ou w F  r):=by
 unfold Ld at h
 have h5:=Rw.into (bs:=[]) hF h5
 refine Ce (vs:=[.slice A2 n3 c4,.int .i64 x6]) 35 Tryd.func34 rfl Tryd.ntmps34 rfl hL0 ?_
 show G (Ov w F r) _ _ _ _
 refine Ah rfl<|Ac rfl rfl<|Aa 0 rfl (Af rfl) gn rfl<|Aj 1 rfl<|Ah rfl<|Ah rfl<|Ac rfl rfl<|Aa 0 rfl (Af rfl) gn rfl<|Aj 1 rfl<|Df rfl<|Io rfl ?_
 have key1:∀ s,Bl (fun (s:Int) o=>H5 x1 x6 s o) s r→(fun (s:Int)=>∀ (_:Unit),G (Ov w F r) [.code Xi3,.inLoop Xi3,.inBlock 0,.code q34c4] [(0,.slice A2 n3 c4),(1,.int .i64 x6),(5,.int .i64 s)] [] [Sm w.heap.size F w [],St w []]) s:=by
  intro s hs
  refine Bl.ind (mot:=(fun (s:Int)=>∀ (_:Unit),G (Ov w F r) [.code Xi3,.inLoop Xi3,.inBlock 0,.code q34c4] [(0,.slice A2 n3 c4),(1,.int .i64 x6),(5,.int .i64 s)] [] [Sm w.heap.size F w [],St w []])) ?_ hs
  clear hs s
  intro x35 o1 h hO1
  show ∀ (_:Unit),G (Ov w F r) [.code Xi3,.inLoop Xi3,.inBlock 0,.code q34c4] [(0,.slice A2 n3 c4),(1,.int .i64 x6),(5,.int .i64 x35)] [] [Sm w.heap.size F w [],St w []]
  intro _
  have h:H5 x1 x6 x35 o1:=h
  unfold H5 at h
  refine Ah rfl<|Ah rfl<|Ac rfl rfl<|Aa 0 rfl (Ad rfl) gn rfl<|Aa 1 rfl (Ad rfl) gn rfl<|Aa 2 rfl (Dj Xgj rfl h5.hq) gn rfl<|Aa 3 rfl (Be rfl rfl rfl) gn rfl<|Aj 4 rfl ?_
  by_cases hp63:x35 < (x1.length:Int)
  ·have h:=Ap hp63 h
   refine Bz rfl _ rfl ((decide_eq_true hp63))<|Cb rfl<|Ah rfl<|Df rfl<|Ah rfl<|Ac rfl rfl<|Aa 0 rfl (Ad rfl) gn rfl<|Aa 1 rfl (Ad rfl) gn rfl ?_
   obtain ⟨hb64,h⟩:=h
   obtain ⟨ce66,hK67,hr65⟩:=Rw.read (s:=Sm w.heap.size F w []) h5 hb64
   obtain ⟨A68,n69,c70,rfl,h71⟩:=hK67
   refine Aa 2 rfl (F5 (s:=Sm w.heap.size F w []) Xev rfl rfl h5 hb64) gn rfl<|Aa 3 rfl (Ja Xc1 rfl) gn rfl<|Aa 4 rfl (Hq (kk:=(x35:Int).toNat * 1) (j:=0) (Sm w.heap.size F w []) Y0 rfl hr65 rfl (me 0 rfl)) gn rfl<|Aa 5 rfl (Dj Jc rfl h71.hq) gn rfl<|Aa 6 rfl (Be rfl rfl rfl) gn rfl<|Aa 7 rfl (Ad rfl) gn rfl ?_
   by_cases hp72:(((ix x1 x35).nodes).length:Int) > 0
   ·have h:=Ap hp72 h
    refine Bv 19 rfl ((decide_eq_true hp72))<|Aa 8 rfl (Ad rfl) (gy 19 rfl rfl) rfl<|Aa 9 rfl (Ad rfl) (gy 19 rfl rfl) rfl ?_
    obtain ⟨ce74,hK75,hr73⟩:=Rw.read (s:=Sm w.heap.size F w []) h5 hb64
    obtain ⟨A76,n77,c78,rfl,h79⟩:=hK75
    refine Aa 10 rfl (F5 (s:=Sm w.heap.size F w []) Xev rfl rfl h5 hb64) (gy 19 rfl rfl) rfl<|Aa 11 rfl (Ja Xc1 rfl) (gy 19 rfl rfl) rfl<|Aa 12 rfl (Hq (kk:=(x35:Int).toNat * 1) (j:=0) (Sm w.heap.size F w []) Y0 rfl hr73 rfl (me 0 rfl)) (gy 19 rfl rfl) rfl ?_
    obtain ⟨hb80,h⟩:=h
    have hr81:=Rw.readF (s:=Sm w.heap.size F w []) (hl:=(hlI .i64)) (h1:=(Ey .i64)) h79 hb80
    refine Aa 13 rfl (F5 (s:=Sm w.heap.size F w []) Jt rfl rfl h79 hb80) (gy 19 rfl rfl) rfl<|Aa 14 rfl (Hq (kk:=(0:Int).toNat * 1) (j:=0) (Sm w.heap.size F w []) H9 rfl hr81 rfl (me 0 rfl)) (gy 19 rfl rfl) rfl<|Aa 15 rfl (Ad rfl) (gy 19 rfl rfl) rfl<|Aa 16 rfl (Be rfl rfl rfl) (gy 19 rfl rfl) rfl<|Aa 17 rfl (Bd (b:=true) rfl rfl) gn rfl<|Aj 18 rfl ?_
    by_cases hp82:ix ((ix x1 x35).nodes) 0=x6
    ·have h:=Ap hp82 h
     refine Bz rfl _ rfl ((eqi hp82))<|Ah rfl<|Ac rfl rfl<|Aa 0 rfl (Ad rfl) gn rfl<|Aa 1 rfl (Ad rfl) gn rfl ?_
     obtain ⟨ce84,hK85,hr83⟩:=Rw.read (s:=Sm w.heap.size F w []) h5 hb64
     obtain ⟨A86,n87,c88,rfl,h89⟩:=hK85
     refine Aa 2 rfl (F5 (s:=Sm w.heap.size F w []) Xev rfl rfl h5 hb64) gn rfl<|Aa 3 rfl (Ja Xc1 rfl) gn rfl<|Aa 4 rfl (Hq (kk:=(x35:Int).toNat * 1) (j:=0) (Sm w.heap.size F w []) Y0 rfl hr83 rfl (me 0 rfl)) gn rfl<|Aa 5 rfl (Af rfl) gn rfl<|Aj 6 rfl ?_
     obtain ⟨hne,h⟩:=h
     have h:=Out.inr hO1 h
     refine C9 [.slice A86 n87 c88] rfl Tryd.func34 rfl (.tmp rfl (.nil)) fun wr hLr=>?_
     have hMr:=hLr.pk0 (.c 1 rfl .n)
     have hMi:=hLr.selI .n
     show Ou w F  r (.returned (Ci [.slice A86 n87 c88])) wr
     rw [h]
     exact ⟨A86,n87,c88,rfl,hMr,(hLr.outR (s:=Sm w.heap.size F w []) hMi (me 0 rfl) Sm.ok h89),(fun e=>absurd e hne)⟩
    ·have h:=Aq hp82 h
     refine Bg rfl _ rfl ((nei hp82))<|Cb rfl<|D7<|Ac rfl rfl<|Aa 0 rfl (Ad rfl) gn rfl<|Aa 1 rfl (Be rfl rfl rfl) gn rfl<|Aa 2 rfl (Af rfl) gn rfl<|Aj 3 rfl<|Dp ?_
     have ih:=Out.inl hO1 h
     exact Dc [0,1] (ih ()) ⟨rfl,rfl,rfl,trivial⟩ (.slnil) rfl
   ·have h:=Aq hp72 h
    refine Bv 19 rfl ((decide_eq_false hp72))<|Ae 8 rfl (ps 19 rfl rfl rfl)<|Ae 9 rfl (ps 19 rfl rfl rfl)<|Ae 10 rfl (ps 19 rfl rfl rfl)<|Ae 11 rfl (ps 19 rfl rfl rfl)<|Ae 12 rfl (ps 19 rfl rfl rfl)<|Ae 13 rfl (ps 19 rfl rfl rfl)<|Ae 14 rfl (ps 19 rfl rfl rfl)<|Ae 15 rfl (ps 19 rfl rfl rfl)<|Ae 16 rfl (ps 19 rfl rfl rfl)<|Aa 17 rfl (Bd (b:=false) rfl rfl) gn rfl<|Aj 18 rfl ?_
    refine Bg rfl _ rfl (rfl)<|Cb rfl<|D7<|Ac rfl rfl<|Aa 0 rfl (Ad rfl) gn rfl<|Aa 1 rfl (Be rfl rfl rfl) gn rfl<|Aa 2 rfl (Af rfl) gn rfl<|Aj 3 rfl<|Dp ?_
    have ih:=Out.inl hO1 h
    exact Dc [0,1] (ih ()) ⟨rfl,rfl,rfl,trivial⟩ (.slnil) rfl
  ·have h:=Aq hp63 h
   refine Bg rfl _ rfl ((decide_eq_false hp63))<|Gp [.code q34c4] rfl rfl<|Ah rfl<|Ac rfl rfl<|Aa 0 rfl (Af rfl) gn rfl<|Aj 1 rfl ?_
   have h:=Out.inr hO1 h
   refine C9 [.slice none 0 0] rfl Tryd.func34 rfl (.tmp rfl (.nil)) fun wr hLr=>?_
   have hMr:=hLr.pk0 (.c 1 rfl .n)
   show Ou w F  r (.returned (Ci [.slice none 0 0])) wr
   rw [h]
   exact ⟨none,0,0,rfl,hMr,Rw.nil,(fun _=>rfl)⟩
 exact Dc [0,1] (key1 _ h ()) ⟨rfl,rfl,rfl,trivial⟩ (.slnil) rfl
end Go.Proofs.YtjookebbmfiidaaDoor.K
