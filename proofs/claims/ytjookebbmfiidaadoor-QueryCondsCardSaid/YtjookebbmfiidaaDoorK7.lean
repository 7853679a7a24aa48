/- What the machine's calls do, function by function, printed by my own tool. Condition of each: its relation holds of the answer, and what is handed in lies in memory as told. -/
import Derived.Test.YtjookebbmfiidaaDoorK6
set_option linter.unusedVariables false
set_option maxRecDepth 100000
set_option maxHeartbeats 4000000
namespace Go.Proofs.YtjookebbmfiidaaDoor.K
open Go.Proofs.YtjookebbmfiidaaDoor.B Go.Proofs.YtjookebbmfiidaaDoor.R Go.RowKit
noncomputable abbrev q61c4:=Code.snd (Code.snd (Dt Tryd.f61))
noncomputable abbrev Xjb:=Code.snd (Code.snd (Code.snd (Code.snd q61c4)))
noncomputable abbrev Xj9:=Code.snd Xjb
noncomputable abbrev Xlu:=Code.fst (Code.fst Xjb)
noncomputable abbrev q61c37:=Code.snd (Code.fst Xjb)
noncomputable abbrev q61c40:=Code.fst (Code.fst q61c37)
abbrev Iq (w:World) (F:Nat→Prop) (g2:Nat) (Tb3:Nat) (A8:Option Addr) (n9:Nat) (c10:Nat) (z12:Nat) (A14:Option Addr) (n15:Nat) (c16:Nat) (z18:Nat) (r:Ai):Ending→World→Prop:=fun e w'=>∃ A1:Option Addr,∃ n1:Nat,∃ c1:Nat,∃ A2:Option Addr,∃ n2:Nat,∃ c2:Nat,∃ A0:Option Addr,∃ n0:Nat,∃ c0:Nat,e=.returned (.tuple #[])∧B.Loc w w' [.box g2 Tb3 [.slice A0 n0 c0,.int .i64 r.at_,.int .i64 r.end_,.slice A1 n1 c1,.slice A2 n2 c2,.int .i64 r.code,.int .i64 r.place],.own (.slice A1 n1 c1) 45 5 n1 (r.q.nodes.flatMap Au),.own (.slice A2 n2 c2) 47 4 n2 (r.q.conds.flatMap Bj)] [St w [[g2],(Value.slice A8 n9 c10).ownBlock.toList,(Value.slice A14 n15 c16).ownBlock.toList]]∧Ow z12 A1 n1 c1 r.q.nodes∧Ow z18 A2 n2 c2 r.q.conds∧Rw Cf w' (Nw w w' F [.box g2 Tb3 [.slice A0 n0 c0,.int .i64 r.at_,.int .i64 r.end_,.slice A1 n1 c1,.slice A2 n2 c2,.int .i64 r.code,.int .i64 r.place],.own (.slice A1 n1 c1) 45 5 n1 (r.q.nodes.flatMap Au),.own (.slice A2 n2 c2) 47 4 n2 (r.q.conds.flatMap Bj)]) A0 n0 c0 r.words
noncomputable abbrev Po (w:World) (F:Nat→Prop) (g2:Nat) (Tb3:Nat) (A8:Option Addr) (n9:Nat) (c10:Nat) (z12:Nat) (A14:Option Addr) (n15:Nat) (c16:Nat) (z18:Nat) (r:Ai):Cx:=⟨Tryd.prog,61,Tryd.f61,125,Iq w F g2 Tb3 A8 n9 c10 z12 A14 n15 c16 z18 r,w⟩
theorem Zw (w:World) (F:Nat→Prop) (x1:Ai) (g2:Nat) (Tb3:Nat) (A4:Option Addr) (n5:Nat) (c6:Nat) (z12:Nat) (A8:Option Addr) (n9:Nat) (c10:Nat) (z18:Nat) (A14:Option Addr) (n15:Nat) (c16:Nat) (h7:Rw Cf w F A4 n5 c6 x1.words) (hz13:z12≤w.heap.size) (h11:Ow z12 A8 n9 c10 x1.q.nodes) (hz19:z18≤w.heap.size) (h17:Ow z18 A14 n15 c16 x1.q.conds) (hF:∀ b,F b→b < w.heap.size∧∀ o ∈ ([[g2],(Value.slice A8 n9 c10).ownBlock.toList,(Value.slice A14 n15 c16).ownBlock.toList]:List (List Nat)),b ∉ o) (hL0:B.Loc w w [.box g2 Tb3 [.slice A4 n5 c6,.int .i64 x1.at_,.int .i64 x1.end_,.slice A8 n9 c10,.slice A14 n15 c16,.int .i64 x1.code,.int .i64 x1.place],.own (.slice A8 n9 c10) 45 5 n9 (x1.q.nodes.flatMap Au),.own (.slice A14 n15 c16) 47 4 n15 (x1.q.conds.flatMap Bj)] [Sm w.heap.size F w [[g2],(Value.slice A8 n9 c10).ownBlock.toList,(Value.slice A14 n15 c16).ownBlock.toList],St w [[g2],(Value.slice A8 n9 c10).ownBlock.toList,(Value.slice A14 n15 c16).ownBlock.toList]]) (r:Ai) (h:Iu x1 r):Calls Tryd.prog 61 #[.pointer (some ⟨g2,0,none⟩)] w (Iq w F g2 Tb3 A8 n9 c10 z12 A14 n15 c16 z18 r):=by
 unfold Iu at h
 have h7:=Rw.into (bs:=[[g2],(Value.slice A8 n9 c10).ownBlock.toList,(Value.slice A14 n15 c16).ownBlock.toList]) hF h7
 refine Cc (vs:=[.pointer (some ⟨g2,0,none⟩)]) 125 Tryd.func61 rfl Tryd.ntmps61 rfl hL0 ?_
 show G (Po w F g2 Tb3 A8 n9 c10 z12 A14 n15 c16 z18 r) _ _ _ _
 refine Ah rfl<|Ac rfl rfl ?_
 refine Ci 0 rfl (He [.bool false,.string (⟨#[]⟩:ByteArray),.string (⟨#[]⟩:ByteArray),.string (⟨#[]⟩:ByteArray)] zr_47 rfl fun gb20=>?_) gn
 refine Aj 1 rfl<|Ah rfl<|Dj rfl<|Ah rfl<|Ac rfl rfl<|Aa 0 rfl (Ad rfl) gn rfl<|Aa 1 rfl (Ad rfl) gn rfl<|Aa 2 rfl (Bd rfl) gn rfl<|Aa 3 rfl (Aw Ec rfl) gn rfl<|Aa 4 rfl (Aq 1 H5 rfl rfl rfl) gn rfl ?_
 obtain ⟨r25,hv26,h⟩:=h
 refine Ci 5 rfl (D7 [.pointer (some ⟨g2,0,none⟩),.int .i64 x1.at_,.int .i64 1,.string (⟨#[117,110,108,101,115,115]⟩:ByteArray)] rfl Tryd.func91 rfl rfl rfl fun w22 hL23=>?_) gn
 have hp24:=pmI hL23 (.c 1 rfl (.c 2 rfl (.c 3 rfl .n))) (.c 0 rfl .n) (by kernel_rfl)
 refine Calls.mono (Gs w22 (Fl ([Sm w.heap.size F w [[g2],(Value.slice A8 n9 c10).ownBlock.toList,(Value.slice A14 n15 c16).ownBlock.toList]]:List Cb)) x1 x1.at_ 1 (⟨#[117,110,108,101,115,115]⟩:ByteArray) g2 Tb3 A4 n5 c6 z12 A8 n9 c10 z18 A14 n15 c16 (Rw.mono h7 (hL23.toFl (me 0 rfl) (me 0 rfl))) (Nat.le_trans hz13 hL23.env.size) h11 (Nat.le_trans hz19 hL23.env.size) h17 (hL23.hFl hp24 (Bg [0] rfl)) (hL23.into hp24 _) r25 hv26) ?_
 rintro _ w41 ⟨A31,n32,c33,A36,n37,c38,A27,n28,c29,rfl,hM42,h34,h39,h30⟩
 obtain ⟨sb45,hL43,hv44⟩:=hL23.callB (Sl:=([Sm w.heap.size F w [[g2],(Value.slice A8 n9 c10).ownBlock.toList,(Value.slice A14 n15 c16).ownBlock.toList]]:List Cb)) hp24 hM42 F (Bg [0] rfl) ⟨Sm.ok,trivial⟩
 have h30:At Cf (Sm w.heap.size F w41 sb45) A27 n28 c29 r25.2.words:=Rw.mono h30 hv44
 refine ⟨_,_,_,rfl,hL43,?_⟩
 refine Aa 6 rfl (Af rfl) gn rfl<|Aj 7 rfl ?_
 have j1:∀ (x97:List Ak) (x104:Int) (x105:Int) (x106:List Ag) (x111:List Bh) (x116:Int) (x117:Int) (x118:Bool) (h:Ib x97 x104 x105 x106 x111 x116 x117 x118 r) (A98:Option Addr) (n99:Nat) (c100:Nat) (sw101:World) (sb102:List (List Nat)) (h103:At Cf (Sm w.heap.size F sw101 sb102) A98 n99 c100 x97) (A107:Option Addr) (n108:Nat) (c109:Nat) (h110:Ow z12 A107 n108 c109 x106) (A112:Option Addr) (n113:Nat) (c114:Nat) (h115:Ow z18 A112 n113 c114 x111),G (Po w F g2 Tb3 A8 n9 c10 z12 A14 n15 c16 z18 r) [.inBlock 0,.code q61c4] [(0,.pointer (some ⟨g2,0,none⟩)),(2,.pointer (some ⟨gb20,0,none⟩))] [.own (.slice A107 n108 c109) 45 5 n108 (x106.flatMap Au),.own (.slice A112 n113 c114) 47 4 n113 (x111.flatMap Bj),.box g2 Tb3 [.slice A98 n99 c100,.int .i64 x104,.int .i64 x105,.slice A107 n108 c109,.slice A112 n113 c114,.int .i64 x116,.int .i64 x117],.box gb20 47 [.bool x118,.string (⟨#[]⟩:ByteArray),.string (⟨#[]⟩:ByteArray),.string (⟨#[]⟩:ByteArray)]] [Sm w.heap.size F sw101 sb102,Sm w.heap.size F w41 sb45,Sm w.heap.size F w [[g2],(Value.slice A8 n9 c10).ownBlock.toList,(Value.slice A14 n15 c16).ownBlock.toList],St w [[g2],(Value.slice A8 n9 c10).ownBlock.toList,(Value.slice A14 n15 c16).ownBlock.toList]]:=by
  intro x97 x104 x105 x106 x111 x116 x117 x118 h A98 n99 c100 sw101 sb102 h103 A107 n108 c109 h110 A112 n113 c114 h115
  unfold Ib at h
  refine D9<|Ah rfl<|Ah rfl<|Ac rfl rfl<|Aa 0 rfl (Ad rfl) gn rfl<|Aa 1 rfl (Bd rfl) gn rfl<|Aa 2 rfl (Aw P9 rfl) gn rfl<|Aa 3 rfl (Aw Qj rfl) gn rfl<|Aa 4 rfl (Aq 2 Xaj rfl rfl rfl) gn rfl<|Aa 5 rfl (Di Xf1 rfl h115.hq) gn rfl<|Aa 6 rfl (Be rfl rfl rfl) gn rfl<|Aj 7 rfl ?_
  by_cases hp119:(x111.length:Int)=16
  ·have h:=Ap hp119 h
   refine Bv rfl _ rfl ((eqi hp119))<|Ah rfl<|Ac rfl rfl<|Aa 0 rfl (Ad rfl) gn rfl<|Aa 1 rfl (Ad rfl) gn rfl<|Aa 2 rfl (Bd rfl) gn rfl<|Aa 3 rfl (Aw Ec rfl) gn rfl<|Aa 4 rfl (Aq 2 H5 rfl rfl rfl) gn rfl ?_
   obtain ⟨r123,hv124,h⟩:=h
   refine Ci 5 rfl (D7 [.pointer (some ⟨g2,0,none⟩),.int .i64 202,.int .i64 x104] rfl Tryd.func88 rfl rfl rfl fun w120 hL121=>?_) gn
   have hp122:=pmI hL121 (.c 2 rfl (.c 0 rfl (.c 1 rfl .n))) (.c 3 rfl .n) (by kernel_rfl)
   refine Calls.mono (Fq w120 (Fl ([Sm w.heap.size F sw101 sb102]:List Cb)) (⟨x97,x104,x105,(⟨x106,x111⟩:Ar),x116,x117⟩:Ai) 202 x104 g2 Tb3 A98 n99 c100 z12 A107 n108 c109 z18 A112 n113 c114 (Rw.mono h103 (hL121.toFl (me 0 rfl) (me 0 rfl))) (Nat.le_trans hz13 hL121.env.size) h110 (Nat.le_trans hz19 hL121.env.size) h115 (hL121.hFl hp122 (Bg [0] rfl)) (hL121.into hp122 _) r123 hv124) ?_
   rintro _ w139 ⟨A129,n130,c131,A134,n135,c136,A125,n126,c127,rfl,hM140,h132,h137,h128⟩
   obtain ⟨sb143,hL141,hv142⟩:=hL121.callB (Sl:=([Sm w.heap.size F sw101 sb102]:List Cb)) hp122 hM140 F (Bg [0] rfl) ⟨Sm.ok,trivial⟩
   have h128:At Cf (Sm w.heap.size F w139 sb143) A125 n126 c127 r123.words:=Rw.mono h128 hv142
   refine ⟨_,_,_,rfl,hL141,?_⟩
   refine Aj 6 rfl ?_
   refine Bq [] rfl Tryd.func61 rfl (.nil) fun wr hLr=>?_
   have hMr:=hLr.pkI (.c 0 rfl (.c 1 rfl (.c 2 rfl .n))) (.c 3 rfl .n) (by kernel_rfl) (.c 4 rfl .n)
   have hMi:=hLr.selI (.c 0 rfl (.c 1 rfl (.c 2 rfl .n)))
   show Iq w F g2 Tb3 A8 n9 c10 z12 A14 n15 c16 z18 r (.returned (Ce [])) wr
   rw [h]
   exact ⟨A129,n130,c131,A134,n135,c136,A125,n126,c127,rfl,hMr,h132,h137,(hLr.outR (s:=Sm w.heap.size F w139 sb143) hMi (me 0 rfl) Sm.ok h128)⟩
  ·have h:=Am hp119 h
   refine Bi rfl _ rfl ((nei hp119))<|C9 rfl<|Ah rfl<|Ac rfl rfl<|Aa 0 rfl (Ad rfl) gn rfl<|Aa 1 rfl (Bd rfl) gn rfl<|Aa 2 rfl (Aw Ec rfl) gn rfl<|Aa 3 rfl (Aq 2 H5 rfl rfl rfl) gn rfl<|Aa 4 rfl (Be rfl rfl rfl) gn rfl<|Aa 5 rfl (Bd rfl) gn rfl<|Aa 6 rfl (Aw Ec rfl) gn rfl ?_
   refine Ci 7 rfl (Gl (vs:=[.int .i64 (w64 (x104 + 1))]) (cs':=[.slice A98 n99 c100,.int .i64 (w64 (x104 + 1)),.int .i64 x105,.slice A107 n108 c109,.slice A112 n113 c114,.int .i64 x116,.int .i64 x117]) (M':=[.own (.slice A107 n108 c109) 45 5 n108 (x106.flatMap Au),.own (.slice A112 n113 c114) 47 4 n113 (x111.flatMap Bj),.box g2 Tb3 [.slice A98 n99 c100,.int .i64 (w64 (x104 + 1)),.int .i64 x105,.slice A107 n108 c109,.slice A112 n113 c114,.int .i64 x116,.int .i64 x117],.box gb20 47 [.bool x118,.string (⟨#[]⟩:ByteArray),.string (⟨#[]⟩:ByteArray),.string (⟨#[]⟩:ByteArray)]]) 2 Xal rfl rfl rfl rfl rfl rfl rfl rfl rfl ?_) gn
   refine Aj 8 rfl<|Ah rfl<|Ac rfl rfl<|Aa 0 rfl (Ad rfl) gn rfl ?_
   obtain ⟨r147,hv148,h⟩:=h
   refine Ci 1 rfl (D7 [.pointer (some ⟨g2,0,none⟩)] rfl Tryd.func92 rfl rfl rfl fun w144 hL145=>?_) gn
   have hp146:=pmI hL145 (.c 2 rfl (.c 0 rfl (.c 1 rfl .n))) (.c 3 rfl .n) (by kernel_rfl)
   refine Calls.mono (Rq w144 (Fl ([Sm w.heap.size F sw101 sb102]:List Cb)) (⟨x97,w64 (x104 + 1),x105,(⟨x106,x111⟩:Ar),x116,x117⟩:Ai) g2 Tb3 A98 n99 c100 z12 A107 n108 c109 z18 A112 n113 c114 (Rw.mono h103 (hL145.toFl (me 0 rfl) (me 0 rfl))) (Nat.le_trans hz13 hL145.env.size) h110 (Nat.le_trans hz19 hL145.env.size) h115 (hL145.hFl hp146 (Bg [0] rfl)) (hL145.into hp146 _) r147 hv148) ?_
   rintro _ w163 ⟨A153,n154,c155,A158,n159,c160,A149,n150,c151,rfl,hM164,h156,h161,h152⟩
   obtain ⟨sb167,hL165,hv166⟩:=hL145.callB (Sl:=([Sm w.heap.size F sw101 sb102]:List Cb)) hp146 hM164 F (Bg [0] rfl) ⟨Sm.ok,trivial⟩
   have h152:At Cf (Sm w.heap.size F w163 sb167) A149 n150 c151 r147.2.words:=Rw.mono h152 hv166
   refine ⟨_,_,_,rfl,hL165,?_⟩
   refine Aa 2 rfl (Aw Xbm rfl) gn rfl ?_
   refine Ci 3 rfl (Gl (vs:=[.string r147.1]) (cs':=[.bool x118,.string r147.1,.string (⟨#[]⟩:ByteArray),.string (⟨#[]⟩:ByteArray)]) (M':=[.box g2 Tb3 [.slice A149 n150 c151,.int .i64 r147.2.at_,.int .i64 r147.2.end_,.slice A153 n154 c155,.slice A158 n159 c160,.int .i64 r147.2.code,.int .i64 r147.2.place],.own (.slice A153 n154 c155) 45 5 n154 (r147.2.q.nodes.flatMap Au),.own (.slice A158 n159 c160) 47 4 n159 (r147.2.q.conds.flatMap Bj),.box gb20 47 [.bool x118,.string r147.1,.string (⟨#[]⟩:ByteArray),.string (⟨#[]⟩:ByteArray)]]) 3 sz_9 rfl rfl rfl rfl rfl rfl rfl rfl rfl ?_) gn
   refine Aj 4 rfl<|Ah rfl<|Ah rfl<|Ac rfl rfl<|Aa 0 rfl (Ad rfl) gn rfl<|Aa 1 rfl (Bd rfl) gn rfl<|Aa 2 rfl (Aw Qq rfl) gn rfl<|Aa 3 rfl (Aq 0 Yp rfl rfl rfl) gn rfl<|Aa 4 rfl (Be rfl rfl rfl) gn rfl<|Aj 5 rfl ?_
   have j2:∀ (x194:List Ak) (x201:Int) (x202:Int) (x203:List Ag) (x208:List Bh) (x213:Int) (x214:Int) (h:Fa x118 r147 x194 x201 x202 x203 x208 x213 x214 r) (A195:Option Addr) (n196:Nat) (c197:Nat) (sw198:World) (sb199:List (List Nat)) (h200:At Cf (Sm w.heap.size F sw198 sb199) A195 n196 c197 x194) (A204:Option Addr) (n205:Nat) (c206:Nat) (h207:Ow z12 A204 n205 c206 x203) (A209:Option Addr) (n210:Nat) (c211:Nat) (h212:Ow z18 A209 n210 c211 x208),G (Po w F g2 Tb3 A8 n9 c10 z12 A14 n15 c16 z18 r) [.code Xjb] [(0,.pointer (some ⟨g2,0,none⟩)),(2,.pointer (some ⟨gb20,0,none⟩))] [.own (.slice A204 n205 c206) 45 5 n205 (x203.flatMap Au),.own (.slice A209 n210 c211) 47 4 n210 (x208.flatMap Bj),.box g2 Tb3 [.slice A195 n196 c197,.int .i64 x201,.int .i64 x202,.slice A204 n205 c206,.slice A209 n210 c211,.int .i64 x213,.int .i64 x214],.box gb20 47 [.bool x118,.string r147.1,.string (⟨#[]⟩:ByteArray),.string (⟨#[]⟩:ByteArray)]] [Sm w.heap.size F sw198 sb199,Sm w.heap.size F w163 sb167,Sm w.heap.size F sw101 sb102,Sm w.heap.size F w41 sb45,Sm w.heap.size F w [[g2],(Value.slice A8 n9 c10).ownBlock.toList,(Value.slice A14 n15 c16).ownBlock.toList],St w [[g2],(Value.slice A8 n9 c10).ownBlock.toList,(Value.slice A14 n15 c16).ownBlock.toList]]:=by
    intro x194 x201 x202 x203 x208 x213 x214 h A195 n196 c197 sw198 sb199 h200 A204 n205 c206 h207 A209 n210 c211 h212
    unfold Fa at h
    refine Ah rfl<|Ah rfl ?_
    have j3:∀ (x222:Bool) (h:Gg x201 x194 x208 x118 r147 x202 x203 x213 x214 x222 r) ,G (Po w F g2 Tb3 A8 n9 c10 z12 A14 n15 c16 z18 r) [.code q61c37,.code Xj9] [(0,.pointer (some ⟨g2,0,none⟩)),(2,.pointer (some ⟨gb20,0,none⟩)),(85,.bool x222)] [.own (.slice A204 n205 c206) 45 5 n205 (x203.flatMap Au),.own (.slice A209 n210 c211) 47 4 n210 (x208.flatMap Bj),.box g2 Tb3 [.slice A195 n196 c197,.int .i64 x201,.int .i64 x202,.slice A204 n205 c206,.slice A209 n210 c211,.int .i64 x213,.int .i64 x214],.box gb20 47 [.bool x118,.string r147.1,.string (⟨#[]⟩:ByteArray),.string (⟨#[]⟩:ByteArray)]] [Sm w.heap.size F sw198 sb199,Sm w.heap.size F w163 sb167,Sm w.heap.size F sw101 sb102,Sm w.heap.size F w41 sb45,Sm w.heap.size F w [[g2],(Value.slice A8 n9 c10).ownBlock.toList,(Value.slice A14 n15 c16).ownBlock.toList],St w [[g2],(Value.slice A8 n9 c10).ownBlock.toList,(Value.slice A14 n15 c16).ownBlock.toList]]:=by
     intro x222 h
     unfold Gg at h
     by_cases hp223:x222=true
     ·have h:=Ap hp223 h
      refine Bv rfl _ rfl (hp223)<|Ah rfl ?_
      obtain ⟨hb224,h⟩:=h
      have hns:Region.noSelect (Code.ops q61c40)=true:=by kernel_rfl
      refine Fh [12] 13 rfl rfl mix rfl (.c 0 rfl (.c 1 rfl (.c 2 rfl (.c 3 rfl (.c 4 rfl (.c 5 rfl .n))))))<|wfv 0 rfl (Ad rfl) gn hns (by kernel_rfl)<|wfv 1 rfl (Bd rfl) gn hns (by kernel_rfl)<|wfv 2 rfl (Aw H7 rfl) gn hns (by kernel_rfl)<|wfv 3 rfl (Aq 2 Nc rfl rfl rfl) gn hns (by kernel_rfl)<|wfv 4 rfl (Ad rfl) gn hns (by kernel_rfl)<|wfv 5 rfl (Bd rfl) gn hns (by kernel_rfl)<|wfv 6 rfl (Aw Ec rfl) gn hns (by kernel_rfl)<|wfv 7 rfl (Aq 2 H5 rfl rfl rfl) gn hns (by kernel_rfl) ?_
      have hr227:=Rw.readF (s:=Sm w.heap.size F sw198 sb199) (hl:=Ee) (h1:=Ef) h200 hb224
      refine wfv 8 rfl (Fb (s:=Sm w.heap.size F sw198 sb199) Qd rfl rfl h200 hb224) gn hns (by kernel_rfl)<|wfv 9 rfl (J7 Ju rfl) gn hns (by kernel_rfl)<|wfv 10 rfl (Ie (kk:=(x201:Int).toNat * 4) (j:=1) (Sm w.heap.size F sw198 sb199) H8 rfl hr227 rfl (me 0 rfl)) gn hns (by kernel_rfl)<|wfv 11 rfl (Aw Xdd rfl) gn hns (by kernel_rfl) ?_
      refine Cm [12] (by kernel_rfl) rfl ⟨Sr 12 rfl gn rfl (Gl (vs:=[.string ((ix x194 x201).text)]) (cs':=[.bool x118,.string r147.1,.string (⟨#[]⟩:ByteArray),.string ((ix x194 x201).text)]) (M':=[.own (.slice A204 n205 c206) 45 5 n205 (x203.flatMap Au),.own (.slice A209 n210 c211) 47 4 n210 (x208.flatMap Bj),.box g2 Tb3 [.slice A195 n196 c197,.int .i64 x201,.int .i64 x202,.slice A204 n205 c206,.slice A209 n210 c211,.int .i64 x213,.int .i64 x214],.box gb20 47 [.bool x118,.string r147.1,.string (⟨#[]⟩:ByteArray),.string ((ix x194 x201).text)]]) 3 sz_9 rfl rfl rfl rfl rfl rfl rfl rfl rfl ?_),trivial⟩
      unfold NxL
      refine Dz (by kernel_rfl)<|Ac rfl rfl<|Aa 0 rfl (Ad rfl) gn rfl<|Aa 1 rfl (Bd rfl) gn rfl<|Aa 2 rfl (Aw Ec rfl) gn rfl<|Aa 3 rfl (Aq 2 H5 rfl rfl rfl) gn rfl<|Aa 4 rfl (Be rfl rfl rfl) gn rfl<|Aa 5 rfl (Bd rfl) gn rfl<|Aa 6 rfl (Aw Ec rfl) gn rfl ?_
      refine Ci 7 rfl (Gl (vs:=[.int .i64 (w64 (x201 + 1))]) (cs':=[.slice A195 n196 c197,.int .i64 (w64 (x201 + 1)),.int .i64 x202,.slice A204 n205 c206,.slice A209 n210 c211,.int .i64 x213,.int .i64 x214]) (M':=[.own (.slice A204 n205 c206) 45 5 n205 (x203.flatMap Au),.own (.slice A209 n210 c211) 47 4 n210 (x208.flatMap Bj),.box g2 Tb3 [.slice A195 n196 c197,.int .i64 (w64 (x201 + 1)),.int .i64 x202,.slice A204 n205 c206,.slice A209 n210 c211,.int .i64 x213,.int .i64 x214],.box gb20 47 [.bool x118,.string r147.1,.string (⟨#[]⟩:ByteArray),.string ((ix x194 x201).text)]]) 2 Xal rfl rfl rfl rfl rfl rfl rfl rfl rfl ?_) gn
      refine Aj 8 rfl ?_
      obtain ⟨x234,hv235,h⟩:=h
      obtain ⟨hb236,h⟩:=h
      have hns:Region.noSelect (Code.ops Xj9)=true:=by kernel_rfl
      refine Vk [.own (.slice A204 n205 c206) 45 5 n205 (x203.flatMap Au),.box g2 Tb3 [.slice A195 n196 c197,.int .i64 (w64 (x201 + 1)),.int .i64 x202,.slice A204 n205 c206,.slice A209 n210 c211,.int .i64 x213,.int .i64 x214],.box gb20 47 [.bool x118,.string r147.1,.string (⟨#[]⟩:ByteArray),.string ((ix x194 x201).text)]] [Sm w.heap.size F sw198 sb199,Sm w.heap.size F w163 sb167,Sm w.heap.size F sw101 sb102,Sm w.heap.size F w41 sb45,Sm w.heap.size F w [[g2],(Value.slice A8 n9 c10).ownBlock.toList,(Value.slice A14 n15 c16).ownBlock.toList],St w [[g2],(Value.slice A8 n9 c10).ownBlock.toList,(Value.slice A14 n15 c16).ownBlock.toList]] [12] 13 rfl rfl mix rfl (.cons_cons _ (.cons _ (.cons_cons _ (.cons_cons _ (.slnil))))) (Bg [0,1,2,3,4,5] rfl)<|wfv 0 rfl (Ad rfl) gn hns (by kernel_rfl)<|wfv 1 rfl (Ad rfl) gn hns (by kernel_rfl)<|wfv 2 rfl (Bd rfl) gn hns (by kernel_rfl)<|wfv 3 rfl (Aw P9 rfl) gn hns (by kernel_rfl)<|wfv 4 rfl (Aw Qj rfl) gn hns (by kernel_rfl)<|wfv 5 rfl (Aq 1 Xaj rfl rfl rfl) gn hns (by kernel_rfl)<|wfv 6 rfl (O6 [.bool x118,.string r147.1,.string (⟨#[]⟩:ByteArray),.string ((ix x194 x201).text)] 2 Xgg rfl rfl rfl rfl) gn hns (by kernel_rfl) ?_
      refine Cm [7] (by kernel_rfl) rfl ⟨Eo 7 rfl gn rfl (Hy (xs:=([(⟨x118,r147.1,(⟨#[]⟩:ByteArray),(ix x194 x201).text⟩:Bh)]:List Bh)) [.bool x118,.string r147.1,.string (⟨#[]⟩:ByteArray),.string ((ix x194 x201).text)] Xjg rfl (by kernel_rfl) rfl rfl rfl rfl fun gb249 h250=>?_),trivial⟩
      refine ⟨Bg [1,3,4] rfl,Bg [0,1,2,3,4,5] rfl,?_⟩
      refine Cm [8] (by kernel_rfl) rfl ⟨Eo 8 rfl gn rfl (Nq (zs:=x234) (cells':=x234.flatMap Bj) 2 ap_23 rfl rfl rfl h212 hz19 (Src.ownF (hl:=Q9) (h1:=Q8) 0 rfl h250) (by rw [hv235,List.flatMap_append] <;> rfl) (Gp hv235 h250.hq) hb236 rfl rfl fun A254 c255 h256=>?_),trivial⟩
      refine ⟨Bg [1,3,4] rfl,Bg [0,1,2,3,4,5] rfl,?_⟩
      refine wfv 9 rfl (Bd rfl) gn hns (by kernel_rfl)<|wfv 10 rfl (Aw P9 rfl) gn hns (by kernel_rfl)<|wfv 11 rfl (Aw Qj rfl) gn hns (by kernel_rfl) ?_
      refine Cm [12] (by kernel_rfl) rfl ⟨Sr 12 rfl gn rfl (Gl (vs:=[.slice A254 (n210 + 1) c255]) (cs':=[.slice A195 n196 c197,.int .i64 (w64 (x201 + 1)),.int .i64 x202,.slice A204 n205 c206,.slice A254 (n210 + 1) c255,.int .i64 x213,.int .i64 x214]) (M':=[.own (.slice (some ⟨gb249,0,none⟩) 1 1) 47 4 1 (([(⟨x118,r147.1,(⟨#[]⟩:ByteArray),(ix x194 x201).text⟩:Bh)]:List Bh).flatMap Bj),.own (.slice A204 n205 c206) 45 5 n205 (x203.flatMap Au),.own (.slice A254 (n210 + 1) c255) 47 4 (n210 + 1) (x234.flatMap Bj),.box g2 Tb3 [.slice A195 n196 c197,.int .i64 (w64 (x201 + 1)),.int .i64 x202,.slice A204 n205 c206,.slice A254 (n210 + 1) c255,.int .i64 x213,.int .i64 x214],.box gb20 47 [.bool x118,.string r147.1,.string (⟨#[]⟩:ByteArray),.string ((ix x194 x201).text)]]) 3 sz_23 rfl rfl rfl rfl rfl rfl rfl rfl rfl ?_),trivial⟩
      unfold NxL
      refine Dz (by kernel_rfl) ?_
      refine Xj [] Tryd.func61 rfl (.nil) fun wr hLr=>?_
      have hMr:=hLr.pkI (.c 3 rfl (.c 1 rfl (.c 2 rfl .n))) (.c 0 rfl (.c 4 rfl .n)) (by kernel_rfl) (.c 5 rfl .n)
      have hMi:=hLr.selI (.c 3 rfl (.c 1 rfl (.c 2 rfl .n)))
      show Iq w F g2 Tb3 A8 n9 c10 z12 A14 n15 c16 z18 r (.returned (Ce [])) wr
      rw [h]
      exact ⟨A204,n205,c206,A254,n210 + 1,c255,A195,n196,c197,rfl,hMr,h207,h256,(hLr.outR (s:=Sm w.heap.size F sw198 sb199) hMi (me 0 rfl) Sm.ok h200)⟩
     ·have h:=Am hp223 h
      refine Bi rfl _ rfl ((bf hp223))<|Ah rfl<|Ac rfl rfl<|Aa 0 rfl (Ad rfl) gn rfl<|Aa 1 rfl (Bd rfl) gn rfl<|Aa 2 rfl (Aw Qq rfl) gn rfl<|Aa 3 rfl (Aq 2 Yp rfl rfl rfl) gn rfl<|Aa 4 rfl (Be rfl rfl rfl) gn rfl<|Aj 5 rfl ?_
      by_cases hp257:x213=0
      ·have h:=Ap hp257 h
       refine Bv rfl _ rfl ((eqi hp257))<|Ac rfl rfl<|Aa 0 rfl (Ad rfl) gn rfl ?_
       obtain ⟨r261,hv262,h⟩:=h
       refine Ci 1 rfl (D7 [.pointer (some ⟨g2,0,none⟩)] rfl Tryd.func92 rfl rfl rfl fun w258 hL259=>?_) gn
       have hp260:=pmI hL259 (.c 2 rfl (.c 0 rfl (.c 1 rfl .n))) (.c 3 rfl .n) (by kernel_rfl)
       refine Calls.mono (Rq w258 (Fl ([Sm w.heap.size F sw198 sb199]:List Cb)) (⟨x194,x201,x202,(⟨x203,x208⟩:Ar),x213,x214⟩:Ai) g2 Tb3 A195 n196 c197 z12 A204 n205 c206 z18 A209 n210 c211 (Rw.mono h200 (hL259.toFl (me 0 rfl) (me 0 rfl))) (Nat.le_trans hz13 hL259.env.size) h207 (Nat.le_trans hz19 hL259.env.size) h212 (hL259.hFl hp260 (Bg [0] rfl)) (hL259.into hp260 _) r261 hv262) ?_
       rintro _ w277 ⟨A267,n268,c269,A272,n273,c274,A263,n264,c265,rfl,hM278,h270,h275,h266⟩
       obtain ⟨sb281,hL279,hv280⟩:=hL259.callB (Sl:=([Sm w.heap.size F sw198 sb199]:List Cb)) hp260 hM278 F (Bg [0] rfl) ⟨Sm.ok,trivial⟩
       have h266:At Cf (Sm w.heap.size F w277 sb281) A263 n264 c265 r261.2.words:=Rw.mono h266 hv280
       refine ⟨_,_,_,rfl,hL279,?_⟩
       refine Aa 2 rfl (Aw X3 rfl) gn rfl ?_
       refine Ci 3 rfl (Gl (vs:=[.string r261.1]) (cs':=[.bool x118,.string r147.1,.string r261.1,.string (⟨#[]⟩:ByteArray)]) (M':=[.box g2 Tb3 [.slice A263 n264 c265,.int .i64 r261.2.at_,.int .i64 r261.2.end_,.slice A267 n268 c269,.slice A272 n273 c274,.int .i64 r261.2.code,.int .i64 r261.2.place],.own (.slice A267 n268 c269) 45 5 n268 (r261.2.q.nodes.flatMap Au),.own (.slice A272 n273 c274) 47 4 n273 (r261.2.q.conds.flatMap Bj),.box gb20 47 [.bool x118,.string r147.1,.string r261.1,.string (⟨#[]⟩:ByteArray)]]) 3 sz_9 rfl rfl rfl rfl rfl rfl rfl rfl rfl ?_) gn
       refine Aj 4 rfl ?_
       obtain ⟨x288,hv289,h⟩:=h
       obtain ⟨hb290,h⟩:=h
       have hns:Region.noSelect (Code.ops Xj9)=true:=by kernel_rfl
       refine Vk [.box g2 Tb3 [.slice A263 n264 c265,.int .i64 r261.2.at_,.int .i64 r261.2.end_,.slice A267 n268 c269,.slice A272 n273 c274,.int .i64 r261.2.code,.int .i64 r261.2.place],.own (.slice A267 n268 c269) 45 5 n268 (r261.2.q.nodes.flatMap Au),.box gb20 47 [.bool x118,.string r147.1,.string r261.1,.string (⟨#[]⟩:ByteArray)]] [Sm w.heap.size F w277 sb281,Sm w.heap.size F sw198 sb199,Sm w.heap.size F w163 sb167,Sm w.heap.size F sw101 sb102,Sm w.heap.size F w41 sb45,Sm w.heap.size F w [[g2],(Value.slice A8 n9 c10).ownBlock.toList,(Value.slice A14 n15 c16).ownBlock.toList],St w [[g2],(Value.slice A8 n9 c10).ownBlock.toList,(Value.slice A14 n15 c16).ownBlock.toList]] [12] 13 rfl rfl mix rfl (.cons_cons _ (.cons_cons _ (.cons _ (.cons_cons _ (.slnil))))) (Bg [0,1,2,3,4,5,6] rfl)<|wfv 0 rfl (Ad rfl) gn hns (by kernel_rfl)<|wfv 1 rfl (Ad rfl) gn hns (by kernel_rfl)<|wfv 2 rfl (Bd rfl) gn hns (by kernel_rfl)<|wfv 3 rfl (Aw P9 rfl) gn hns (by kernel_rfl)<|wfv 4 rfl (Aw Qj rfl) gn hns (by kernel_rfl)<|wfv 5 rfl (Aq 0 Xaj rfl rfl rfl) gn hns (by kernel_rfl)<|wfv 6 rfl (O6 [.bool x118,.string r147.1,.string r261.1,.string (⟨#[]⟩:ByteArray)] 2 Xgg rfl rfl rfl rfl) gn hns (by kernel_rfl) ?_
       refine Cm [7] (by kernel_rfl) rfl ⟨Eo 7 rfl gn rfl (Hy (xs:=([(⟨x118,r147.1,r261.1,(⟨#[]⟩:ByteArray)⟩:Bh)]:List Bh)) [.bool x118,.string r147.1,.string r261.1,.string (⟨#[]⟩:ByteArray)] Xjg rfl (by kernel_rfl) rfl rfl rfl rfl fun gb303 h304=>?_),trivial⟩
       refine ⟨Bg [1,2,4] rfl,Bg [0,1,2,3,4,5,6] rfl,?_⟩
       refine Cm [8] (by kernel_rfl) rfl ⟨Eo 8 rfl gn rfl (Nq (zs:=x288) (cells':=x288.flatMap Bj) 3 ap_23 rfl rfl rfl h275 hz19 (Src.ownF (hl:=Q9) (h1:=Q8) 0 rfl h304) (by rw [hv289,List.flatMap_append] <;> rfl) (Gp hv289 h304.hq) hb290 rfl rfl fun A308 c309 h310=>?_),trivial⟩
       refine ⟨Bg [1,2,4] rfl,Bg [0,1,2,3,4,5,6] rfl,?_⟩
       refine wfv 9 rfl (Bd rfl) gn hns (by kernel_rfl)<|wfv 10 rfl (Aw P9 rfl) gn hns (by kernel_rfl)<|wfv 11 rfl (Aw Qj rfl) gn hns (by kernel_rfl) ?_
       refine Cm [12] (by kernel_rfl) rfl ⟨Sr 12 rfl gn rfl (Gl (vs:=[.slice A308 (n273 + 1) c309]) (cs':=[.slice A263 n264 c265,.int .i64 r261.2.at_,.int .i64 r261.2.end_,.slice A267 n268 c269,.slice A308 (n273 + 1) c309,.int .i64 r261.2.code,.int .i64 r261.2.place]) (M':=[.own (.slice (some ⟨gb303,0,none⟩) 1 1) 47 4 1 (([(⟨x118,r147.1,r261.1,(⟨#[]⟩:ByteArray)⟩:Bh)]:List Bh).flatMap Bj),.box g2 Tb3 [.slice A263 n264 c265,.int .i64 r261.2.at_,.int .i64 r261.2.end_,.slice A267 n268 c269,.slice A308 (n273 + 1) c309,.int .i64 r261.2.code,.int .i64 r261.2.place],.own (.slice A267 n268 c269) 45 5 n268 (r261.2.q.nodes.flatMap Au),.own (.slice A308 (n273 + 1) c309) 47 4 (n273 + 1) (x288.flatMap Bj),.box gb20 47 [.bool x118,.string r147.1,.string r261.1,.string (⟨#[]⟩:ByteArray)]]) 1 sz_23 rfl rfl rfl rfl rfl rfl rfl rfl rfl ?_),trivial⟩
       unfold NxL
       refine Dz (by kernel_rfl) ?_
       refine Xj [] Tryd.func61 rfl (.nil) fun wr hLr=>?_
       have hMr:=hLr.pkI (.c 1 rfl (.c 2 rfl (.c 3 rfl .n))) (.c 0 rfl (.c 4 rfl .n)) (by kernel_rfl) (.c 6 rfl .n)
       have hMi:=hLr.selI (.c 1 rfl (.c 2 rfl (.c 3 rfl .n)))
       show Iq w F g2 Tb3 A8 n9 c10 z12 A14 n15 c16 z18 r (.returned (Ce [])) wr
       rw [h]
       exact ⟨A267,n268,c269,A308,n273 + 1,c309,A263,n264,c265,rfl,hMr,h270,h310,(hLr.outR (s:=Sm w.heap.size F w277 sb281) hMi (me 0 rfl) Sm.ok h266)⟩
      ·have h:=Am hp257 h
       refine Bi rfl _ rfl ((nei hp257))<|C9 rfl ?_
       obtain ⟨x317,hv318,h⟩:=h
       obtain ⟨hb319,h⟩:=h
       have hns:Region.noSelect (Code.ops Xj9)=true:=by kernel_rfl
       refine Vk [.own (.slice A204 n205 c206) 45 5 n205 (x203.flatMap Au),.box g2 Tb3 [.slice A195 n196 c197,.int .i64 x201,.int .i64 x202,.slice A204 n205 c206,.slice A209 n210 c211,.int .i64 x213,.int .i64 x214],.box gb20 47 [.bool x118,.string r147.1,.string (⟨#[]⟩:ByteArray),.string (⟨#[]⟩:ByteArray)]] [Sm w.heap.size F sw198 sb199,Sm w.heap.size F w163 sb167,Sm w.heap.size F sw101 sb102,Sm w.heap.size F w41 sb45,Sm w.heap.size F w [[g2],(Value.slice A8 n9 c10).ownBlock.toList,(Value.slice A14 n15 c16).ownBlock.toList],St w [[g2],(Value.slice A8 n9 c10).ownBlock.toList,(Value.slice A14 n15 c16).ownBlock.toList]] [12] 13 rfl rfl mix rfl (.cons_cons _ (.cons _ (.cons_cons _ (.cons_cons _ (.slnil))))) (Bg [0,1,2,3,4,5] rfl)<|wfv 0 rfl (Ad rfl) gn hns (by kernel_rfl)<|wfv 1 rfl (Ad rfl) gn hns (by kernel_rfl)<|wfv 2 rfl (Bd rfl) gn hns (by kernel_rfl)<|wfv 3 rfl (Aw P9 rfl) gn hns (by kernel_rfl)<|wfv 4 rfl (Aw Qj rfl) gn hns (by kernel_rfl)<|wfv 5 rfl (Aq 1 Xaj rfl rfl rfl) gn hns (by kernel_rfl)<|wfv 6 rfl (O6 [.bool x118,.string r147.1,.string (⟨#[]⟩:ByteArray),.string (⟨#[]⟩:ByteArray)] 2 Xgg rfl rfl rfl rfl) gn hns (by kernel_rfl) ?_
       refine Cm [7] (by kernel_rfl) rfl ⟨Eo 7 rfl gn rfl (Hy (xs:=([(⟨x118,r147.1,(⟨#[]⟩:ByteArray),(⟨#[]⟩:ByteArray)⟩:Bh)]:List Bh)) [.bool x118,.string r147.1,.string (⟨#[]⟩:ByteArray),.string (⟨#[]⟩:ByteArray)] Xjg rfl (by kernel_rfl) rfl rfl rfl rfl fun gb332 h333=>?_),trivial⟩
       refine ⟨Bg [1,3,4] rfl,Bg [0,1,2,3,4,5] rfl,?_⟩
       refine Cm [8] (by kernel_rfl) rfl ⟨Eo 8 rfl gn rfl (Nq (zs:=x317) (cells':=x317.flatMap Bj) 2 ap_23 rfl rfl rfl h212 hz19 (Src.ownF (hl:=Q9) (h1:=Q8) 0 rfl h333) (by rw [hv318,List.flatMap_append] <;> rfl) (Gp hv318 h333.hq) hb319 rfl rfl fun A337 c338 h339=>?_),trivial⟩
       refine ⟨Bg [1,3,4] rfl,Bg [0,1,2,3,4,5] rfl,?_⟩
       refine wfv 9 rfl (Bd rfl) gn hns (by kernel_rfl)<|wfv 10 rfl (Aw P9 rfl) gn hns (by kernel_rfl)<|wfv 11 rfl (Aw Qj rfl) gn hns (by kernel_rfl) ?_
       refine Cm [12] (by kernel_rfl) rfl ⟨Sr 12 rfl gn rfl (Gl (vs:=[.slice A337 (n210 + 1) c338]) (cs':=[.slice A195 n196 c197,.int .i64 x201,.int .i64 x202,.slice A204 n205 c206,.slice A337 (n210 + 1) c338,.int .i64 x213,.int .i64 x214]) (M':=[.own (.slice (some ⟨gb332,0,none⟩) 1 1) 47 4 1 (([(⟨x118,r147.1,(⟨#[]⟩:ByteArray),(⟨#[]⟩:ByteArray)⟩:Bh)]:List Bh).flatMap Bj),.own (.slice A204 n205 c206) 45 5 n205 (x203.flatMap Au),.own (.slice A337 (n210 + 1) c338) 47 4 (n210 + 1) (x317.flatMap Bj),.box g2 Tb3 [.slice A195 n196 c197,.int .i64 x201,.int .i64 x202,.slice A204 n205 c206,.slice A337 (n210 + 1) c338,.int .i64 x213,.int .i64 x214],.box gb20 47 [.bool x118,.string r147.1,.string (⟨#[]⟩:ByteArray),.string (⟨#[]⟩:ByteArray)]]) 3 sz_23 rfl rfl rfl rfl rfl rfl rfl rfl rfl ?_),trivial⟩
       unfold NxL
       refine Dz (by kernel_rfl) ?_
       refine Xj [] Tryd.func61 rfl (.nil) fun wr hLr=>?_
       have hMr:=hLr.pkI (.c 3 rfl (.c 1 rfl (.c 2 rfl .n))) (.c 0 rfl (.c 4 rfl .n)) (by kernel_rfl) (.c 5 rfl .n)
       have hMi:=hLr.selI (.c 3 rfl (.c 1 rfl (.c 2 rfl .n)))
       show Iq w F g2 Tb3 A8 n9 c10 z12 A14 n15 c16 z18 r (.returned (Ce [])) wr
       rw [h]
       exact ⟨A204,n205,c206,A337,n210 + 1,c338,A195,n196,c197,rfl,hMr,h207,h339,(hLr.outR (s:=Sm w.heap.size F sw198 sb199) hMi (me 0 rfl) Sm.ok h200)⟩
    by_cases hp340:x213=0
    ·have h:=Ap hp340 h
     by_cases hp341:x201 < (x194.length:Int)
     ·have h:=Ap hp341 h
      obtain ⟨hb342,h⟩:=h
      have hns:Region.noSelect (Code.ops Xlu)=true:=by kernel_rfl
      refine Fh [] 31 rfl rfl mix rfl (.c 0 rfl (.c 1 rfl (.c 2 rfl (.c 3 rfl (.c 4 rfl (.c 5 rfl .n))))))<|wfv 0 rfl (Ad rfl) gn hns rfl<|wfv 1 rfl (Bd rfl) gn hns rfl<|wfv 2 rfl (Aw Qq rfl) gn hns rfl<|wfv 3 rfl (Aq 2 Yp rfl rfl rfl) gn hns rfl<|wfv 4 rfl (Be rfl rfl rfl) gn hns rfl<|wfv 5 rfl (Ad rfl) gn hns rfl<|Kq 60 rfl ((eqi hp340))<|wfv 6 rfl (Ad rfl) (gy 60 rfl rfl) hns rfl<|wfv 7 rfl (Bd rfl) (gy 60 rfl rfl) hns rfl<|wfv 8 rfl (Aw Ec rfl) (gy 60 rfl rfl) hns rfl<|wfv 9 rfl (Aq 2 H5 rfl rfl rfl) (gy 60 rfl rfl) hns rfl ?_
      refine wfv 10 rfl (Ad rfl) (gy 60 rfl rfl) hns rfl<|wfv 11 rfl (Bd rfl) (gy 60 rfl rfl) hns rfl<|wfv 12 rfl (Aw H7 rfl) (gy 60 rfl rfl) hns rfl<|wfv 13 rfl (Aq 2 Nc rfl rfl rfl) (gy 60 rfl rfl) hns rfl<|wfv 14 rfl (Di Z5 rfl h200.hq) (gy 60 rfl rfl) hns rfl<|wfv 15 rfl (Be rfl rfl rfl) (gy 60 rfl rfl) hns rfl<|wfv 16 rfl (Bc (b:=true) rfl rfl) gn hns rfl<|wfv 17 rfl (Ad rfl) gn hns rfl<|Kq 72 rfl ((decide_eq_true hp341))<|wfv 18 rfl (Ad rfl) (gy 72 rfl rfl) hns rfl<|wfv 19 rfl (Bd rfl) (gy 72 rfl rfl) hns rfl<|wfv 20 rfl (Aw H7 rfl) (gy 72 rfl rfl) hns rfl ?_
      refine wfv 21 rfl (Aq 2 Nc rfl rfl rfl) (gy 72 rfl rfl) hns rfl<|wfv 22 rfl (Ad rfl) (gy 72 rfl rfl) hns rfl<|wfv 23 rfl (Bd rfl) (gy 72 rfl rfl) hns rfl<|wfv 24 rfl (Aw Ec rfl) (gy 72 rfl rfl) hns rfl<|wfv 25 rfl (Aq 2 H5 rfl rfl rfl) (gy 72 rfl rfl) hns rfl ?_
      have hr345:=Rw.readF (s:=Sm w.heap.size F sw198 sb199) (hl:=Ee) (h1:=Ef) h200 hb342
      refine wfv 26 rfl (Fb (s:=Sm w.heap.size F sw198 sb199) Qd rfl rfl h200 hb342) (gy 72 rfl rfl) hns rfl<|wfv 27 rfl (J7 Vf rfl) (gy 72 rfl rfl) hns rfl<|wfv 28 rfl (Ie (kk:=(x201:Int).toNat * 4) (j:=0) (Sm w.heap.size F sw198 sb199) Xbd rfl hr345 rfl (me 0 rfl)) (gy 72 rfl rfl) hns rfl<|wfv 29 rfl (Be rfl rfl rfl) (gy 72 rfl rfl) hns rfl<|wfv 30 rfl (Bc (b:=true) rfl rfl) gn hns rfl<|Dz (by kernel_rfl) ?_
      exact D8 [0,1,2,3,4,5] (j3 (((ix x194 x201).kind) == 2) h) ⟨rfl,rfl,rfl,trivial⟩ (.cons_cons _ (.cons_cons _ (.cons_cons _ (.cons_cons _ (.slnil))))) rfl
     ·have h:=Am hp341 h
      have hns:Region.noSelect (Code.ops Xlu)=true:=by kernel_rfl
      refine Fh [] 31 rfl rfl mix rfl (.c 0 rfl (.c 1 rfl (.c 2 rfl (.c 3 rfl (.c 4 rfl (.c 5 rfl .n))))))<|wfv 0 rfl (Ad rfl) gn hns rfl<|wfv 1 rfl (Bd rfl) gn hns rfl<|wfv 2 rfl (Aw Qq rfl) gn hns rfl<|wfv 3 rfl (Aq 2 Yp rfl rfl rfl) gn hns rfl<|wfv 4 rfl (Be rfl rfl rfl) gn hns rfl<|wfv 5 rfl (Ad rfl) gn hns rfl<|Kq 60 rfl ((eqi hp340))<|wfv 6 rfl (Ad rfl) (gy 60 rfl rfl) hns rfl<|wfv 7 rfl (Bd rfl) (gy 60 rfl rfl) hns rfl<|wfv 8 rfl (Aw Ec rfl) (gy 60 rfl rfl) hns rfl<|wfv 9 rfl (Aq 2 H5 rfl rfl rfl) (gy 60 rfl rfl) hns rfl ?_
      refine wfv 10 rfl (Ad rfl) (gy 60 rfl rfl) hns rfl<|wfv 11 rfl (Bd rfl) (gy 60 rfl rfl) hns rfl<|wfv 12 rfl (Aw H7 rfl) (gy 60 rfl rfl) hns rfl<|wfv 13 rfl (Aq 2 Nc rfl rfl rfl) (gy 60 rfl rfl) hns rfl<|wfv 14 rfl (Di Z5 rfl h200.hq) (gy 60 rfl rfl) hns rfl<|wfv 15 rfl (Be rfl rfl rfl) (gy 60 rfl rfl) hns rfl<|wfv 16 rfl (Bc (b:=true) rfl rfl) gn hns rfl<|wfv 17 rfl (Ad rfl) gn hns rfl<|Kq 72 rfl ((decide_eq_false hp341))<|wfp 18 rfl (ps 72 rfl rfl rfl) hns rfl<|wfp 19 rfl (ps 72 rfl rfl rfl) hns rfl<|wfp 20 rfl (ps 72 rfl rfl rfl) hns rfl ?_
      refine wfp 21 rfl (ps 72 rfl rfl rfl) hns rfl<|wfp 22 rfl (ps 72 rfl rfl rfl) hns rfl<|wfp 23 rfl (ps 72 rfl rfl rfl) hns rfl<|wfp 24 rfl (ps 72 rfl rfl rfl) hns rfl<|wfp 25 rfl (ps 72 rfl rfl rfl) hns rfl<|wfp 26 rfl (ps 72 rfl rfl rfl) hns rfl<|wfp 27 rfl (ps 72 rfl rfl rfl) hns rfl<|wfp 28 rfl (ps 72 rfl rfl rfl) hns rfl<|wfp 29 rfl (ps 72 rfl rfl rfl) hns rfl<|wfv 30 rfl (Bc (b:=false) rfl rfl) gn hns rfl<|Dz (by kernel_rfl) ?_
      exact D8 [0,1,2,3,4,5] (j3 false h) ⟨rfl,rfl,rfl,trivial⟩ (.cons_cons _ (.cons_cons _ (.cons_cons _ (.cons_cons _ (.slnil))))) rfl
    ·have h:=Am hp340 h
     have hns:Region.noSelect (Code.ops Xlu)=true:=by kernel_rfl
     refine Fh [] 31 rfl rfl mix rfl (.c 0 rfl (.c 1 rfl (.c 2 rfl (.c 3 rfl (.c 4 rfl (.c 5 rfl .n))))))<|wfv 0 rfl (Ad rfl) gn hns rfl<|wfv 1 rfl (Bd rfl) gn hns rfl<|wfv 2 rfl (Aw Qq rfl) gn hns rfl<|wfv 3 rfl (Aq 2 Yp rfl rfl rfl) gn hns rfl<|wfv 4 rfl (Be rfl rfl rfl) gn hns rfl<|wfv 5 rfl (Ad rfl) gn hns rfl<|Kq 60 rfl ((nei hp340))<|wfp 6 rfl (ps 60 rfl rfl rfl) hns rfl<|wfp 7 rfl (ps 60 rfl rfl rfl) hns rfl<|wfp 8 rfl (ps 60 rfl rfl rfl) hns rfl<|wfp 9 rfl (ps 60 rfl rfl rfl) hns rfl ?_
     refine wfp 10 rfl (ps 60 rfl rfl rfl) hns rfl<|wfp 11 rfl (ps 60 rfl rfl rfl) hns rfl<|wfp 12 rfl (ps 60 rfl rfl rfl) hns rfl<|wfp 13 rfl (ps 60 rfl rfl rfl) hns rfl<|wfp 14 rfl (ps 60 rfl rfl rfl) hns rfl<|wfp 15 rfl (ps 60 rfl rfl rfl) hns rfl<|wfv 16 rfl (Bc (b:=false) rfl rfl) gn hns rfl<|wfv 17 rfl (Ad rfl) gn hns rfl<|wfp 18 rfl (ps 72 rfl rfl rfl) hns rfl<|wfp 19 rfl (ps 72 rfl rfl rfl) hns rfl<|wfp 20 rfl (ps 72 rfl rfl rfl) hns rfl<|wfp 21 rfl (ps 72 rfl rfl rfl) hns rfl ?_
     refine wfp 22 rfl (ps 72 rfl rfl rfl) hns rfl<|wfp 23 rfl (ps 72 rfl rfl rfl) hns rfl<|wfp 24 rfl (ps 72 rfl rfl rfl) hns rfl<|wfp 25 rfl (ps 72 rfl rfl rfl) hns rfl<|wfp 26 rfl (ps 72 rfl rfl rfl) hns rfl<|wfp 27 rfl (ps 72 rfl rfl rfl) hns rfl<|wfp 28 rfl (ps 72 rfl rfl rfl) hns rfl<|wfp 29 rfl (ps 72 rfl rfl rfl) hns rfl<|wfv 30 rfl (Bc (b:=false) rfl rfl) gn hns rfl<|Dz (by kernel_rfl) ?_
     exact D8 [0,1,2,3,4,5] (j3 false h) ⟨rfl,rfl,rfl,trivial⟩ (.cons_cons _ (.cons_cons _ (.cons_cons _ (.cons_cons _ (.slnil))))) rfl
   by_cases hp168:r147.2.code=0
   ·have h:=Ap hp168 h
    refine Bv rfl _ rfl ((eqi hp168))<|Ac rfl rfl<|Aa 0 rfl (Ad rfl) gn rfl ?_
    obtain ⟨r349,hv350,h⟩:=h
    refine Ci 1 rfl (D7 [.pointer (some ⟨g2,0,none⟩),.string (⟨#[61]⟩:ByteArray)] rfl Tryd.func90 rfl rfl rfl fun w346 hL347=>?_) gn
    have hp348:=pmI hL347 (.c 0 rfl (.c 1 rfl (.c 2 rfl .n))) (.c 3 rfl .n) (by kernel_rfl)
    refine Calls.mono (I5 w346 (Fl ([Sm w.heap.size F w163 sb167]:List Cb)) r147.2 (⟨#[61]⟩:ByteArray) g2 Tb3 A149 n150 c151 z12 A153 n154 c155 z18 A158 n159 c160 (Rw.mono h152 (hL347.toFl (me 0 rfl) (me 0 rfl))) (Nat.le_trans hz13 hL347.env.size) h156 (Nat.le_trans hz19 hL347.env.size) h161 (hL347.hFl hp348 (Bg [0] rfl)) (hL347.into hp348 _) r349 hv350) ?_
    rintro _ w365 ⟨A355,n356,c357,A360,n361,c362,A351,n352,c353,rfl,hM366,h358,h363,h354⟩
    obtain ⟨sb369,hL367,hv368⟩:=hL347.callB (Sl:=([Sm w.heap.size F w163 sb167]:List Cb)) hp348 hM366 F (Bg [0] rfl) ⟨Sm.ok,trivial⟩
    have h354:At Cf (Sm w.heap.size F w365 sb369) A351 n352 c353 r349.words:=Rw.mono h354 hv368
    refine ⟨_,_,_,rfl,hL367,?_⟩
    refine Aj 2 rfl<|Ba 3 rfl<|Ba 1 rfl<|Ba 3 rfl<|Ba 3 rfl ?_
    exact D8 [0,1,2,3,4,5] (j2 r349.words r349.at_ r349.end_ r349.q.nodes r349.q.conds r349.code r349.place h A351 n352 c353 w365 sb369 h354 A355 n356 c357 h358 A360 n361 c362 h363) ⟨rfl,rfl,trivial⟩ (.cons_cons _ (.cons_cons _ (.cons_cons _ (.cons_cons _ (.slnil))))) rfl
   ·have h:=Am hp168 h
    refine Bi rfl _ rfl ((nei hp168))<|C9 rfl<|Ba 3 rfl<|Ba 1 rfl<|Ba 3 rfl<|Ba 3 rfl ?_
    exact D8 [0,0,1,2,3,4] (j2 r147.2.words r147.2.at_ r147.2.end_ r147.2.q.nodes r147.2.q.conds r147.2.code r147.2.place h A149 n150 c151 w163 sb167 h152 A153 n154 c155 h156 A158 n159 c160 h161) ⟨rfl,rfl,trivial⟩ (.cons_cons _ (.cons_cons _ (.cons_cons _ (.cons_cons _ (.slnil))))) rfl
 by_cases hp46:r25.1=true
 ·have h:=Ap hp46 h
  refine Bv rfl _ rfl (hp46)<|Ac rfl rfl<|Aa 0 rfl (Aw Xda rfl) gn rfl ?_
  refine Ci 1 rfl (Gl (vs:=[.bool true]) (cs':=[.bool true,.string (⟨#[]⟩:ByteArray),.string (⟨#[]⟩:ByteArray),.string (⟨#[]⟩:ByteArray)]) (M':=[.box g2 Tb3 [.slice A27 n28 c29,.int .i64 r25.2.at_,.int .i64 r25.2.end_,.slice A31 n32 c33,.slice A36 n37 c38,.int .i64 r25.2.code,.int .i64 r25.2.place],.own (.slice A31 n32 c33) 45 5 n32 (r25.2.q.nodes.flatMap Au),.own (.slice A36 n37 c38) 47 4 n37 (r25.2.q.conds.flatMap Bj),.box gb20 47 [.bool true,.string (⟨#[]⟩:ByteArray),.string (⟨#[]⟩:ByteArray),.string (⟨#[]⟩:ByteArray)]]) 3 Xcm rfl rfl rfl rfl rfl rfl rfl rfl rfl ?_) gn
  refine Aj 2 rfl<|Ba 3 rfl<|Ba 1 rfl<|Ba 3 rfl<|Ba 3 rfl ?_
  exact D8 [0,0,1,2] (j1 r25.2.words r25.2.at_ r25.2.end_ r25.2.q.nodes r25.2.q.conds r25.2.code r25.2.place true h A27 n28 c29 w41 sb45 h30 A31 n32 c33 h34 A36 n37 c38 h39) ⟨rfl,rfl,trivial⟩ (.cons_cons _ (.cons_cons _ (.cons_cons _ (.cons_cons _ (.slnil))))) rfl
 ·have h:=Am hp46 h
  refine Bi rfl _ rfl ((bf hp46))<|Ah rfl<|Ac rfl rfl<|Aa 0 rfl (Ad rfl) gn rfl<|Aa 1 rfl (Ad rfl) gn rfl<|Aa 2 rfl (Bd rfl) gn rfl<|Aa 3 rfl (Aw Ec rfl) gn rfl<|Aa 4 rfl (Aq 0 H5 rfl rfl rfl) gn rfl ?_
  obtain ⟨r373,hv374,h⟩:=h
  refine Ci 5 rfl (D7 [.pointer (some ⟨g2,0,none⟩),.int .i64 r25.2.at_,.int .i64 1,.string (⟨#[119,104,101,110]⟩:ByteArray)] rfl Tryd.func91 rfl rfl rfl fun w370 hL371=>?_) gn
  have hp372:=pmI hL371 (.c 0 rfl (.c 1 rfl (.c 2 rfl .n))) (.c 3 rfl .n) (by kernel_rfl)
  refine Calls.mono (Gs w370 (Fl ([Sm w.heap.size F w41 sb45]:List Cb)) r25.2 r25.2.at_ 1 (⟨#[119,104,101,110]⟩:ByteArray) g2 Tb3 A27 n28 c29 z12 A31 n32 c33 z18 A36 n37 c38 (Rw.mono h30 (hL371.toFl (me 0 rfl) (me 0 rfl))) (Nat.le_trans hz13 hL371.env.size) h34 (Nat.le_trans hz19 hL371.env.size) h39 (hL371.hFl hp372 (Bg [0] rfl)) (hL371.into hp372 _) r373 hv374) ?_
  rintro _ w389 ⟨A379,n380,c381,A384,n385,c386,A375,n376,c377,rfl,hM390,h382,h387,h378⟩
  obtain ⟨sb393,hL391,hv392⟩:=hL371.callB (Sl:=([Sm w.heap.size F w41 sb45]:List Cb)) hp372 hM390 F (Bg [0] rfl) ⟨Sm.ok,trivial⟩
  have h378:At Cf (Sm w.heap.size F w389 sb393) A375 n376 c377 r373.2.words:=Rw.mono h378 hv392
  refine ⟨_,_,_,rfl,hL391,?_⟩
  refine Aa 6 rfl (Qu rfl) gn rfl<|Aa 7 rfl (Af rfl) gn rfl<|Aj 8 rfl ?_
  by_cases hp394:r373.1=true
  ·have h:=Ap hp394 h
   refine Bi rfl _ rfl ((nf hp394))<|C9 rfl<|Ba 3 rfl<|Ba 1 rfl<|Ba 3 rfl<|Ba 3 rfl ?_
   exact D8 [0,1,2,3] (j1 r373.2.words r373.2.at_ r373.2.end_ r373.2.q.nodes r373.2.q.conds r373.2.code r373.2.place false h A375 n376 c377 w389 sb393 h378 A379 n380 c381 h382 A384 n385 c386 h387) ⟨rfl,rfl,trivial⟩ (.cons_cons _ (.cons_cons _ (.cons_cons _ (.cons_cons _ (.slnil))))) rfl
  ·have h:=Am hp394 h
   refine Bv rfl _ rfl ((nt (bf hp394)))<|Ah rfl<|Ac rfl rfl<|Aa 0 rfl (Ad rfl) gn rfl<|Aa 1 rfl (Ad rfl) gn rfl<|Aa 2 rfl (Bd rfl) gn rfl<|Aa 3 rfl (Aw Ec rfl) gn rfl<|Aa 4 rfl (Aq 0 H5 rfl rfl rfl) gn rfl ?_
   obtain ⟨r398,hv399,h⟩:=h
   refine Ci 5 rfl (D7 [.pointer (some ⟨g2,0,none⟩),.int .i64 200,.int .i64 r373.2.at_] rfl Tryd.func88 rfl rfl rfl fun w395 hL396=>?_) gn
   have hp397:=pmI hL396 (.c 0 rfl (.c 1 rfl (.c 2 rfl .n))) (.c 3 rfl .n) (by kernel_rfl)
   refine Calls.mono (Fq w395 (Fl ([Sm w.heap.size F w389 sb393]:List Cb)) r373.2 200 r373.2.at_ g2 Tb3 A375 n376 c377 z12 A379 n380 c381 z18 A384 n385 c386 (Rw.mono h378 (hL396.toFl (me 0 rfl) (me 0 rfl))) (Nat.le_trans hz13 hL396.env.size) h382 (Nat.le_trans hz19 hL396.env.size) h387 (hL396.hFl hp397 (Bg [0] rfl)) (hL396.into hp397 _) r398 hv399) ?_
   rintro _ w414 ⟨A404,n405,c406,A409,n410,c411,A400,n401,c402,rfl,hM415,h407,h412,h403⟩
   obtain ⟨sb418,hL416,hv417⟩:=hL396.callB (Sl:=([Sm w.heap.size F w389 sb393]:List Cb)) hp397 hM415 F (Bg [0] rfl) ⟨Sm.ok,trivial⟩
   have h403:At Cf (Sm w.heap.size F w414 sb418) A400 n401 c402 r398.words:=Rw.mono h403 hv417
   refine ⟨_,_,_,rfl,hL416,?_⟩
   refine Aj 6 rfl ?_
   refine Bq [] rfl Tryd.func61 rfl (.nil) fun wr hLr=>?_
   have hMr:=hLr.pkI (.c 0 rfl (.c 1 rfl (.c 2 rfl .n))) (.c 3 rfl .n) (by kernel_rfl) (.c 4 rfl .n)
   have hMi:=hLr.selI (.c 0 rfl (.c 1 rfl (.c 2 rfl .n)))
   show Iq w F g2 Tb3 A8 n9 c10 z12 A14 n15 c16 z18 r (.returned (Ce [])) wr
   rw [h]
   exact ⟨A404,n405,c406,A409,n410,c411,A400,n401,c402,rfl,hMr,h407,h412,(hLr.outR (s:=Sm w.heap.size F w414 sb418) hMi (me 0 rfl) Sm.ok h403)⟩
noncomputable abbrev Xdy:=Code.snd (Code.snd (Code.snd (Code.snd (Code.snd (Code.snd (Dt Tryd.f28))))))
noncomputable abbrev Xcs:=Code.fst (Code.fst (Code.fst (Code.snd (Code.snd (Code.snd (Code.snd (Code.snd (Dt Tryd.f28))))))))
noncomputable abbrev q28c21:=Code.fst (Code.fst Xcs)
noncomputable abbrev q28c34:=Code.fst (Code.fst (Code.snd (Code.fst Xdy)))
abbrev U3 (w:World) (F:Nat→Prop) (r:Ar × Int × Int):Ending→World→Prop:=fun e w'=>∃ A0:Option Addr,∃ n0:Nat,∃ c0:Nat,∃ A1:Option Addr,∃ n1:Nat,∃ c1:Nat,e=.returned (.tuple #[.agg #[.slice A0 n0 c0,.slice A1 n1 c1],.int .i64 r.2.1,.int .i64 r.2.2])∧B.Loc w w' [.own (.slice A0 n0 c0) 45 5 n0 (r.1.nodes.flatMap Au),.own (.slice A1 n1 c1) 47 4 n1 (r.1.conds.flatMap Bj)] [St w []]∧Ow w.heap.size A0 n0 c0 r.1.nodes∧Ow w.heap.size A1 n1 c1 r.1.conds
noncomputable abbrev Wy (w:World) (F:Nat→Prop) (r:Ar × Int × Int):Cx:=⟨Tryd.prog,28,Tryd.f28,64,U3 w F  r,w⟩
theorem Xd1 (w:World) (F:Nat→Prop) (x1:ByteArray) (hF:∀ b,F b→b < w.heap.size∧∀ o ∈ ([]:List (List Nat)),b ∉ o) (hL0:B.Loc w w [] [Sm w.heap.size F w [],St w []]) (r:Ar × Int × Int) (h:Xd x1 r):Calls Tryd.prog 28 #[.string x1] w (U3 w F  r):=by
 unfold Xd at h
 refine Cc (vs:=[.string x1]) 64 Tryd.func28 rfl Tryd.ntmps28 rfl hL0 ?_
 show G (Wy w F r) _ _ _ _
 refine Ah rfl<|Ac rfl rfl ?_
 refine Ci 0 rfl (He [.slice none 0 0,.slice none 0 0] zr_25 rfl fun gb2=>?_) gn
 refine Aa 1 rfl (Af rfl) gn rfl<|Aa 2 rfl (Af rfl) gn rfl<|Aj 3 rfl<|Ah rfl<|Ac rfl rfl<|Aa 0 rfl (Ad rfl) gn rfl ?_
 obtain ⟨r7,hv8,h⟩:=h
 refine Ci 1 rfl (D7 [.string x1] rfl Tryd.func59 rfl rfl rfl fun w4 hL5=>?_) gn
 have hp6:=pmI hL5 .n (.c 0 rfl .n) (by kernel_rfl)
 refine Calls.mono (Xfi w4 (Fl ([]:List Cb)) x1 (hL5.hFl hp6 (Bg [] rfl)) (hL5.into hp6 _) r7 hv8) ?_
 rintro _ w14 ⟨A9,n10,c11,rfl,hM15,h12⟩
 have hL16:=hL5.call hp6 hM15
 refine ⟨_,_,_,rfl,hL16,?_⟩
 refine Aa 2 rfl (Ad rfl) gn rfl<|Aa 3 rfl (I4 rfl rfl) gn rfl<|Aa 4 rfl (I4 rfl rfl) gn rfl<|Aa 5 rfl (I4 rfl rfl) gn rfl<|Aa 6 rfl (Af rfl) gn rfl<|Aa 7 rfl (Af rfl) gn rfl<|Aa 8 rfl (Af rfl) gn rfl<|Aj 9 rfl<|Ah rfl<|Ah rfl<|Ac rfl rfl<|Aa 0 rfl (Ad rfl) gn rfl ?_
 refine Aa 1 rfl (Be rfl rfl rfl) gn rfl<|Aj 2 rfl ?_
 by_cases hp17:r7.2.1=0
 ·have h:=Ap hp17 h
  refine Bi rfl _ rfl ((Xbu hp17))<|C9 rfl<|Ah rfl<|Ac rfl rfl<|Aa 0 rfl (Ad rfl) gn rfl<|Aa 1 rfl (Ad rfl) gn rfl<|Aa 2 rfl (Pz Lp rfl) gn rfl<|Aa 3 rfl (Jg #[.slice A9 n10 c11,.int .i64 0,.int .i64 (x1.size:Int),.slice none 0 0,.slice none 0 0,.int .i64 0,.int .i64 0] bd_90 rfl (by kernel_rfl)) gn rfl ?_
  refine Ci 4 rfl (Tu [.slice A9 n10 c11,.int .i64 0,.int .i64 (x1.size:Int),.slice none 0 0,.slice none 0 0,.int .i64 0,.int .i64 0] rfl rfl rfl fun gb18=>?_) gn
  refine Aa 5 rfl (Af rfl) gn rfl<|Aj 6 rfl<|Ah rfl<|Ac rfl rfl<|Aa 0 rfl (Ad rfl) gn rfl ?_
  obtain ⟨r28,hv29,h⟩:=h
  refine Xju (F:=F) (dk:=Cf) (Sm w.heap.size F w []) 1 rfl (Ow.weak hL5.env.size h12) (me 0 rfl) Sm.ok (Cells.flat _) fun sw24 sb25 h23=>?_
  refine w_nil 45 5<|w_nil 47 4 ?_
  refine Ci 1 rfl (D7 [.pointer (some ⟨gb18,0,none⟩)] rfl Tryd.func60 rfl rfl rfl fun w20 hL21=>?_) gn
  have hp22:=pmI hL21 (.c 2 rfl (.c 1 rfl (.c 0 rfl .n))) (.c 3 rfl .n) (by kernel_rfl)
  refine Calls.mono (Y6 w20 (Fl ([Sm w.heap.size F sw24 sb25]:List Cb)) (⟨r7.1,0,(x1.size:Int),(⟨([]:List Ag),([]:List Bh)⟩:Ar),0,0⟩:Ai) gb18 90 A9 n10 c11 w.heap.size none 0 0 w.heap.size none 0 0 (Rw.mono h23 (hL21.toFl (me 0 rfl) (me 0 rfl))) hL21.env.size (Ow.nil (z:=w.heap.size)) hL21.env.size (Ow.nil (z:=w.heap.size)) (hL21.hFl hp22 (Bg [0] rfl)) (hL21.into hp22 _) r28 hv29) ?_
  rintro _ w44 ⟨A34,n35,c36,A39,n40,c41,A30,n31,c32,rfl,hM45,h37,h42,h33⟩
  obtain ⟨sb48,hL46,hv47⟩:=hL21.callB (Sl:=([Sm w.heap.size F sw24 sb25]:List Cb)) hp22 hM45 F (Bg [0] rfl) ⟨Sm.ok,trivial⟩
  have h33:At Cf (Sm w.heap.size F w44 sb48) A30 n31 c32 r28.words:=Rw.mono h33 hv47
  refine ⟨_,_,_,rfl,hL46,?_⟩
  refine Aj 2 rfl<|Ah rfl<|Dj rfl<|Kw rfl ?_
  have key1:∀ s,Bl (fun (s:(List Ak) × Int × Int × (List Ag) × (List Bh) × Int × Int) o=>H9 s.1 s.2.1 s.2.2.1 s.2.2.2.1 s.2.2.2.2.1 s.2.2.2.2.2.1 s.2.2.2.2.2.2 o) s r→(fun (s:(List Ak) × Int × Int × (List Ag) × (List Bh) × Int × Int)=>∀ (A77:Option Addr) (n78:Nat) (c79:Nat) (sw80:World) (sb81:List (List Nat)) (h82:At Cf (Sm w.heap.size F sw80 sb81) A77 n78 c79 s.1) (A86:Option Addr) (n87:Nat) (c88:Nat) (h89:Ow w.heap.size A86 n87 c88 s.2.2.2.1) (A91:Option Addr) (n92:Nat) (c93:Nat) (h94:Ow w.heap.size A91 n92 c93 s.2.2.2.2.1),G (Wy w F r) [.code Xcs,.inLoop Xcs,.inBlock 0,.code Xdy] [(2,.pointer (some ⟨gb2,0,none⟩)),(8,.pointer (some ⟨gb18,0,none⟩))] [.own (.slice A86 n87 c88) 45 5 n87 (s.2.2.2.1.flatMap Au),.own (.slice A91 n92 c93) 47 4 n92 (s.2.2.2.2.1.flatMap Bj),.box gb18 90 [.slice A77 n78 c79,.int .i64 s.2.1,.int .i64 s.2.2.1,.slice A86 n87 c88,.slice A91 n92 c93,.int .i64 s.2.2.2.2.2.1,.int .i64 s.2.2.2.2.2.2],.box gb2 25 [.slice none 0 0,.slice none 0 0]] [Sm w.heap.size F sw80 sb81,Sm w.heap.size F w44 sb48,Sm w.heap.size F sw24 sb25,Sm w.heap.size F w [],St w []]) s:=by
   intro s hs
   refine Bl.ind (mot:=(fun (s:(List Ak) × Int × Int × (List Ag) × (List Bh) × Int × Int)=>∀ (A77:Option Addr) (n78:Nat) (c79:Nat) (sw80:World) (sb81:List (List Nat)) (h82:At Cf (Sm w.heap.size F sw80 sb81) A77 n78 c79 s.1) (A86:Option Addr) (n87:Nat) (c88:Nat) (h89:Ow w.heap.size A86 n87 c88 s.2.2.2.1) (A91:Option Addr) (n92:Nat) (c93:Nat) (h94:Ow w.heap.size A91 n92 c93 s.2.2.2.2.1),G (Wy w F r) [.code Xcs,.inLoop Xcs,.inBlock 0,.code Xdy] [(2,.pointer (some ⟨gb2,0,none⟩)),(8,.pointer (some ⟨gb18,0,none⟩))] [.own (.slice A86 n87 c88) 45 5 n87 (s.2.2.2.1.flatMap Au),.own (.slice A91 n92 c93) 47 4 n92 (s.2.2.2.2.1.flatMap Bj),.box gb18 90 [.slice A77 n78 c79,.int .i64 s.2.1,.int .i64 s.2.2.1,.slice A86 n87 c88,.slice A91 n92 c93,.int .i64 s.2.2.2.2.2.1,.int .i64 s.2.2.2.2.2.2],.box gb2 25 [.slice none 0 0,.slice none 0 0]] [Sm w.heap.size F sw80 sb81,Sm w.heap.size F w44 sb48,Sm w.heap.size F sw24 sb25,Sm w.heap.size F w [],St w []])) ?_ hs
   clear hs s
   intro s o1 h hO1
   obtain ⟨x76,x83,x84,x85,x90,x95,x96⟩:=s
   show ∀ (A77:Option Addr) (n78:Nat) (c79:Nat) (sw80:World) (sb81:List (List Nat)) (h82:At Cf (Sm w.heap.size F sw80 sb81) A77 n78 c79 x76) (A86:Option Addr) (n87:Nat) (c88:Nat) (h89:Ow w.heap.size A86 n87 c88 x85) (A91:Option Addr) (n92:Nat) (c93:Nat) (h94:Ow w.heap.size A91 n92 c93 x90),G (Wy w F r) [.code Xcs,.inLoop Xcs,.inBlock 0,.code Xdy] [(2,.pointer (some ⟨gb2,0,none⟩)),(8,.pointer (some ⟨gb18,0,none⟩))] [.own (.slice A86 n87 c88) 45 5 n87 (x85.flatMap Au),.own (.slice A91 n92 c93) 47 4 n92 (x90.flatMap Bj),.box gb18 90 [.slice A77 n78 c79,.int .i64 x83,.int .i64 x84,.slice A86 n87 c88,.slice A91 n92 c93,.int .i64 x95,.int .i64 x96],.box gb2 25 [.slice none 0 0,.slice none 0 0]] [Sm w.heap.size F sw80 sb81,Sm w.heap.size F w44 sb48,Sm w.heap.size F sw24 sb25,Sm w.heap.size F w [],St w []]
   intro A77 n78 c79 sw80 sb81 h82 A86 n87 c88 h89 A91 n92 c93 h94
   have h:H9 x76 x83 x84 x85 x90 x95 x96 o1:=h
   unfold H9 at h
   refine Ah rfl<|Ah rfl ?_
   by_cases hp123:x95=0
   ·have h:=Ap hp123 h
    have hns:Region.noSelect (Code.ops q28c21)=true:=by kernel_rfl
    refine Fh [] 17 rfl rfl mix rfl (.c 0 rfl (.c 1 rfl (.c 2 rfl (.c 3 rfl (.c 4 rfl .n)))))<|wfv 0 rfl (Ad rfl) gn hns rfl<|wfv 1 rfl (Bd rfl) gn hns rfl<|wfv 2 rfl (Aw Qq rfl) gn hns rfl<|wfv 3 rfl (Aq 2 Yp rfl rfl rfl) gn hns rfl<|wfv 4 rfl (Be rfl rfl rfl) gn hns rfl<|wfv 5 rfl (Ad rfl) gn hns rfl<|Kq 32 rfl ((eqi hp123))<|wfv 6 rfl (Ad rfl) (gy 32 rfl rfl) hns rfl<|wfv 7 rfl (Bd rfl) (gy 32 rfl rfl) hns rfl<|wfv 8 rfl (Aw Ec rfl) (gy 32 rfl rfl) hns rfl<|wfv 9 rfl (Aq 2 H5 rfl rfl rfl) (gy 32 rfl rfl) hns rfl ?_
    refine wfv 10 rfl (Ad rfl) (gy 32 rfl rfl) hns rfl<|wfv 11 rfl (Bd rfl) (gy 32 rfl rfl) hns rfl<|wfv 12 rfl (Aw H7 rfl) (gy 32 rfl rfl) hns rfl<|wfv 13 rfl (Aq 2 Nc rfl rfl rfl) (gy 32 rfl rfl) hns rfl<|wfv 14 rfl (Di Z5 rfl h82.hq) (gy 32 rfl rfl) hns rfl<|wfv 15 rfl (Be rfl rfl rfl) (gy 32 rfl rfl) hns rfl<|wfv 16 rfl (Bc (b:=true) rfl rfl) gn hns rfl<|Dz (by kernel_rfl) ?_
    by_cases hp124:x83 < (x76.length:Int)
    ·have h:=Ap hp124 h
     refine Bv rfl _ rfl ((decide_eq_true hp124))<|C9 rfl<|Dj rfl<|Ac rfl rfl<|Aa 0 rfl (Ad rfl) gn rfl ?_
     obtain ⟨r128,hv129,h⟩:=h
     refine Ci 1 rfl (D7 [.pointer (some ⟨gb18,0,none⟩)] rfl Tryd.func61 rfl rfl rfl fun w125 hL126=>?_) gn
     have hp127:=pmI hL126 (.c 2 rfl (.c 0 rfl (.c 1 rfl .n))) (.c 3 rfl .n) (by kernel_rfl)
     refine Calls.mono (Zw w125 (Fl ([Sm w.heap.size F sw80 sb81]:List Cb)) (⟨x76,x83,x84,(⟨x85,x90⟩:Ar),x95,x96⟩:Ai) gb18 90 A77 n78 c79 w.heap.size A86 n87 c88 w.heap.size A91 n92 c93 (Rw.mono h82 (hL126.toFl (me 0 rfl) (me 0 rfl))) hL126.env.size h89 hL126.env.size h94 (hL126.hFl hp127 (Bg [0] rfl)) (hL126.into hp127 _) r128 hv129) ?_
     rintro _ w144 ⟨A134,n135,c136,A139,n140,c141,A130,n131,c132,rfl,hM145,h137,h142,h133⟩
     obtain ⟨sb148,hL146,hv147⟩:=hL126.callB (Sl:=([Sm w.heap.size F sw80 sb81]:List Cb)) hp127 hM145 F (Bg [0] rfl) ⟨Sm.ok,trivial⟩
     have h133:At Cf (Sm w.heap.size F w144 sb148) A130 n131 c132 r128.words:=Rw.mono h133 hv147
     refine ⟨_,_,_,rfl,hL146,?_⟩
     refine Aj 2 rfl<|D9<|Dx<|Ba 3 rfl<|Ba 1 rfl<|Ba 3 rfl<|Ba 3 rfl ?_
     have ih:=Out.inl hO1 h
     exact D8 [0,2,3,4,5] (ih A130 n131 c132 w144 sb148 h133 A134 n135 c136 h137 A139 n140 c141 h142) ⟨rfl,rfl,trivial⟩ (.cons_cons _ (.cons_cons _ (.cons_cons _ (.cons_cons _ (.slnil))))) rfl
    ·have h:=Am hp124 h
     refine Bi rfl _ rfl ((decide_eq_false hp124))<|Ii [.code Xdy] rfl rfl<|Ah rfl<|Ah rfl<|Ac rfl rfl<|Aa 0 rfl (Ad rfl) gn rfl<|Aa 1 rfl (Bd rfl) gn rfl<|Aa 2 rfl (Aw Qq rfl) gn rfl<|Aa 3 rfl (Aq 2 Yp rfl rfl rfl) gn rfl<|Aa 4 rfl (Be rfl rfl rfl) gn rfl<|Aj 5 rfl<|Bi rfl _ rfl ((Xbu hp123)) ?_
     refine C9 rfl<|Ah rfl<|Ac rfl rfl<|Aa 0 rfl (Ad rfl) gn rfl<|Aa 1 rfl (Bd rfl) gn rfl<|Aa 2 rfl (Aw P9 rfl) gn rfl<|Aa 3 rfl (O6 [.slice A86 n87 c88,.slice A91 n92 c93] 2 V5 rfl rfl rfl rfl) gn rfl ?_
     refine Ci 4 rfl (Gl (vs:=[.slice A86 n87 c88,.slice A91 n92 c93]) (cs':=[.slice A86 n87 c88,.slice A91 n92 c93]) (M':=[.own (.slice A86 n87 c88) 45 5 n87 (x85.flatMap Au),.own (.slice A91 n92 c93) 47 4 n92 (x90.flatMap Bj),.box gb18 90 [.slice A77 n78 c79,.int .i64 x83,.int .i64 x84,.slice A86 n87 c88,.slice A91 n92 c93,.int .i64 x95,.int .i64 x96],.box gb2 25 [.slice A86 n87 c88,.slice A91 n92 c93]]) 3 sz_25 rfl rfl rfl rfl rfl rfl rfl rfl rfl ?_) gn
     refine Aa 5 rfl (Af rfl) gn rfl<|Aa 6 rfl (Af rfl) gn rfl<|Aj 7 rfl ?_
     have h:=Out.inr hO1 h
     refine Bq [.agg #[.slice A86 n87 c88,.slice A91 n92 c93],.int .i64 0,.int .i64 0] rfl Tryd.func28 rfl (.cell (cs:=[.slice A86 n87 c88,.slice A91 n92 c93]) (us:=[.slice A86 n87 c88,.slice A91 n92 c93]) 3 rfl V5 rfl rfl rfl (.tmp rfl (.tmp rfl (.nil)))) fun wr hLr=>?_
     have hMr:=hLr.pkI (.c 0 rfl (.c 1 rfl .n)) (.c 2 rfl (.c 3 rfl .n)) (by kernel_rfl) (.c 4 rfl .n)
     show U3 w F  r (.returned (Ce [.agg #[.slice A86 n87 c88,.slice A91 n92 c93],.int .i64 0,.int .i64 0])) wr
     rw [h]
     exact ⟨A86,n87,c88,A91,n92,c93,rfl,hMr,h89,h94⟩
   ·have h:=Am hp123 h
    have hns:Region.noSelect (Code.ops q28c21)=true:=by kernel_rfl
    refine Fh [] 17 rfl rfl mix rfl (.c 0 rfl (.c 1 rfl (.c 2 rfl (.c 3 rfl (.c 4 rfl .n)))))<|wfv 0 rfl (Ad rfl) gn hns rfl<|wfv 1 rfl (Bd rfl) gn hns rfl<|wfv 2 rfl (Aw Qq rfl) gn hns rfl<|wfv 3 rfl (Aq 2 Yp rfl rfl rfl) gn hns rfl<|wfv 4 rfl (Be rfl rfl rfl) gn hns rfl<|wfv 5 rfl (Ad rfl) gn hns rfl<|Kq 32 rfl ((nei hp123))<|wfp 6 rfl (ps 32 rfl rfl rfl) hns rfl<|wfp 7 rfl (ps 32 rfl rfl rfl) hns rfl<|wfp 8 rfl (ps 32 rfl rfl rfl) hns rfl<|wfp 9 rfl (ps 32 rfl rfl rfl) hns rfl ?_
    refine wfp 10 rfl (ps 32 rfl rfl rfl) hns rfl<|wfp 11 rfl (ps 32 rfl rfl rfl) hns rfl<|wfp 12 rfl (ps 32 rfl rfl rfl) hns rfl<|wfp 13 rfl (ps 32 rfl rfl rfl) hns rfl<|wfp 14 rfl (ps 32 rfl rfl rfl) hns rfl<|wfp 15 rfl (ps 32 rfl rfl rfl) hns rfl<|wfv 16 rfl (Bc (b:=false) rfl rfl) gn hns rfl<|Dz (by kernel_rfl)<|Bi rfl _ rfl (rfl)<|Ii [.code Xdy] rfl rfl<|Ah rfl<|Ah rfl ?_
    refine Ac rfl rfl<|Aa 0 rfl (Ad rfl) gn rfl<|Aa 1 rfl (Bd rfl) gn rfl<|Aa 2 rfl (Aw Qq rfl) gn rfl<|Aa 3 rfl (Aq 2 Yp rfl rfl rfl) gn rfl<|Aa 4 rfl (Be rfl rfl rfl) gn rfl<|Aj 5 rfl<|Bv rfl _ rfl ((Xc1 hp123))<|Ah rfl ?_
    have hns:Region.noSelect (Code.ops q28c34)=true:=by kernel_rfl
    refine Vk [.own (.slice A86 n87 c88) 45 5 n87 (x85.flatMap Au),.own (.slice A91 n92 c93) 47 4 n92 (x90.flatMap Bj),.box gb18 90 [.slice A77 n78 c79,.int .i64 x83,.int .i64 x84,.slice A86 n87 c88,.slice A91 n92 c93,.int .i64 x95,.int .i64 x96]] [Sm w.heap.size F sw80 sb81,Sm w.heap.size F w44 sb48,Sm w.heap.size F sw24 sb25,Sm w.heap.size F w [],St w []] [] 12 rfl rfl mix rfl (.cons_cons _ (.cons_cons _ (.cons_cons _ (.cons _ (.slnil))))) (Bg [0,1,2,3,4] rfl)<|wfv 0 rfl (Jg #[.slice none 0 0,.slice none 0 0] bd_25 rfl (by kernel_rfl)) gn hns rfl<|wfv 1 rfl (Ad rfl) gn hns rfl<|wfv 2 rfl (Bd rfl) gn hns rfl<|wfv 3 rfl (Aw Qq rfl) gn hns rfl<|wfv 4 rfl (Aq 2 Yp rfl rfl rfl) gn hns rfl<|wfv 5 rfl (Ad rfl) gn hns rfl<|wfv 6 rfl (Bd rfl) gn hns rfl<|wfv 7 rfl (Aw Xib rfl) gn hns rfl<|wfv 8 rfl (Aq 2 H5 rfl rfl rfl) gn hns rfl ?_
    refine Cm [9] (by kernel_rfl) rfl ⟨Eo 9 rfl gn rfl (Gl (vs:=[.slice none 0 0,.slice none 0 0]) (cs':=[.slice none 0 0,.slice none 0 0]) (M':=[.own (.slice A86 n87 c88) 45 5 n87 (x85.flatMap Au),.own (.slice A91 n92 c93) 47 4 n92 (x90.flatMap Bj),.box gb18 90 [.slice A77 n78 c79,.int .i64 x83,.int .i64 x84,.slice A86 n87 c88,.slice A91 n92 c93,.int .i64 x95,.int .i64 x96],.box gb2 25 [.slice none 0 0,.slice none 0 0]]) 3 sz_25 rfl rfl rfl rfl rfl rfl rfl rfl rfl ?_),trivial⟩
    refine ⟨Bg [0,1,2] rfl,Bg [0,1,2,3,4] rfl,?_⟩
    refine wfv 10 rfl (Af rfl) gn hns rfl<|wfv 11 rfl (Af rfl) gn hns rfl<|Dz (by kernel_rfl)<|Pi 45 5<|Pi 47 4 ?_
    have h:=Out.inr hO1 h
    refine Bq [.agg #[.slice none 0 0,.slice none 0 0],.int .i64 x95,.int .i64 x96] rfl Tryd.func28 rfl (.cell (cs:=[.slice none 0 0,.slice none 0 0]) (us:=[.slice none 0 0,.slice none 0 0]) 5 rfl V5 rfl rfl rfl (.tmp rfl (.tmp rfl (.nil)))) fun wr hLr=>?_
    have hMr:=hLr.pkI (.c 1 rfl (.c 0 rfl .n)) (.c 2 rfl (.c 3 rfl (.c 4 rfl (.c 5 rfl .n)))) (by kernel_rfl) (.c 4 rfl .n)
    show U3 w F  r (.returned (Ce [.agg #[.slice none 0 0,.slice none 0 0],.int .i64 x95,.int .i64 x96])) wr
    rw [h]
    exact ⟨none,0,0,none,0,0,rfl,hMr,(Ow.nil (z:=w.heap.size)),(Ow.nil (z:=w.heap.size))⟩
  refine Ba 3 rfl<|Ba 1 rfl<|Ba 3 rfl<|Ba 3 rfl ?_
  exact D8 [0,0,1,2,3] (key1 _ h A30 n31 c32 w44 sb48 h33 A34 n35 c36 h37 A39 n40 c41 h42) ⟨rfl,rfl,trivial⟩ (.cons_cons _ (.cons_cons _ (.cons_cons _ (.cons_cons _ (.slnil))))) rfl
 ·have h:=Am hp17 h
  refine Bv rfl _ rfl ((Xc1 hp17))<|Ah rfl<|Ac rfl rfl<|Aa 0 rfl (Jg #[.slice none 0 0,.slice none 0 0] bd_25 rfl (by kernel_rfl)) gn rfl<|Aa 1 rfl (Ad rfl) gn rfl<|Aa 2 rfl (Ad rfl) gn rfl ?_
  refine Ci 3 rfl (Gl (vs:=[.slice none 0 0,.slice none 0 0]) (cs':=[.slice none 0 0,.slice none 0 0]) (M':=[.own (.slice A9 n10 c11) 84 4 n10 (r7.1.flatMap D6),.box gb2 25 [.slice none 0 0,.slice none 0 0]]) 1 sz_25 rfl rfl rfl rfl rfl rfl rfl rfl rfl ?_) gn
  refine Aa 4 rfl (Af rfl) gn rfl<|Aa 5 rfl (Af rfl) gn rfl<|Aj 6 rfl<|Pi 45 5<|Pi 47 4 ?_
  refine Bq [.agg #[.slice none 0 0,.slice none 0 0],.int .i64 r7.2.1,.int .i64 r7.2.2] rfl Tryd.func28 rfl (.cell (cs:=[.slice none 0 0,.slice none 0 0]) (us:=[.slice none 0 0,.slice none 0 0]) 3 rfl V5 rfl rfl rfl (.tmp rfl (.tmp rfl (.nil)))) fun wr hLr=>?_
  have hMr:=hLr.pkI (.c 1 rfl (.c 0 rfl .n)) (.c 2 rfl (.c 3 rfl .n)) (by kernel_rfl) (.c 1 rfl .n)
  show U3 w F  r (.returned (Ce [.agg #[.slice none 0 0,.slice none 0 0],.int .i64 r7.2.1,.int .i64 r7.2.2])) wr
  rw [h]
  exact ⟨none,0,0,none,0,0,rfl,hMr,(Ow.nil (z:=w.heap.size)),(Ow.nil (z:=w.heap.size))⟩
noncomputable abbrev q27c6:=Code.snd (Code.snd (Code.snd (Dt Tryd.f27)))
noncomputable abbrev q27c8:=Code.snd (Code.fst (Code.snd (Code.snd (Dt Tryd.f27))))
abbrev Fz (w:World) (F:Nat→Prop) (r:Bool):Ending→World→Prop:=fun e w'=>e=.returned (.bool r)∧B.Loc w w' [] [St w []]
noncomputable abbrev Vm (w:World) (F:Nat→Prop) (r:Bool):Cx:=⟨Tryd.prog,27,Tryd.f27,71,Fz w F  r,w⟩
theorem Yd (w:World) (F:Nat→Prop)  (hG:Tb Tryd.prog (St w [])) (hF:∀ b,F b→b < w.heap.size∧∀ o ∈ ([]:List (List Nat)),b ∉ o) (hL0:B.Loc w w [] [Sm w.heap.size F w [],St w []]) (r:Bool) (h:P6  r):Calls Tryd.prog 27 #[] w (Fz w F  r):=by
 unfold P6 at h
 refine Cc (vs:=[]) 71 Tryd.func27 rfl Tryd.ntmps27 rfl hL0 ?_
 show G (Vm w F r) _ _ _ _
 refine Ah rfl<|Ac rfl rfl<|Aa 0 rfl (Af rfl) gn rfl<|Aj 1 rfl<|Ah rfl<|Ac rfl rfl ?_
 obtain ⟨r4,hv5,h⟩:=h
 refine Ci 0 rfl (D7 [.string (⟨#[40,115,32,40,97,41,32,64,120,41,32,119,104,101,110,32,64,120,32,61,32,34,121,34]⟩:ByteArray)] rfl Tryd.func28 rfl rfl rfl fun w1 hL2=>?_) gn
 have hp3:=pmI hL2 .n .n (by kernel_rfl)
 refine Calls.mono (Xd1 w1 (Fl ([]:List Cb)) (⟨#[40,115,32,40,97,41,32,64,120,41,32,119,104,101,110,32,64,120,32,61,32,34,121,34]⟩:ByteArray) (hL2.hFl hp3 (Bg [] rfl)) (hL2.into hp3 _) r4 hv5) ?_
 rintro _ w16 ⟨A6,n7,c8,A11,n12,c13,rfl,hM17,h9,h14⟩
 have hL18:=hL2.call hp3 hM17
 refine ⟨_,_,_,rfl,hL18,?_⟩
 refine Aa 1 rfl (Ad rfl) gn rfl<|Aa 2 rfl (I4 rfl rfl) gn rfl<|Aa 3 rfl (I4 rfl rfl) gn rfl<|Aa 4 rfl (I4 rfl rfl) gn rfl ?_
 refine Ci 5 rfl (He [.slice none 0 0,.slice none 0 0] zr_25 rfl fun gb19=>?_) gn
 refine Ci 6 rfl (Gl (vs:=[.slice A6 n7 c8,.slice A11 n12 c13]) (cs':=[.slice A6 n7 c8,.slice A11 n12 c13]) (M':=[.box gb19 25 [.slice A6 n7 c8,.slice A11 n12 c13],.own (.slice A6 n7 c8) 45 5 n7 (r4.1.nodes.flatMap Au),.own (.slice A11 n12 c13) 47 4 n12 (r4.1.conds.flatMap Bj)]) 0 sz_25 rfl rfl rfl rfl rfl rfl rfl rfl rfl ?_) gn
 refine Aa 7 rfl (Af rfl) gn rfl<|Aa 8 rfl (Af rfl) gn rfl<|Aj 9 rfl<|Ah rfl<|Ah rfl ?_
 have j1:∀ (x25:Bool) (h:Gy r4 x25 r) ,G (Vm w F r) [.code q27c8,.code q27c6] [(1,.pointer (some ⟨gb19,0,none⟩)),(31,.bool x25)] [.box gb19 25 [.slice A6 n7 c8,.slice A11 n12 c13],.own (.slice A6 n7 c8) 45 5 n7 (r4.1.nodes.flatMap Au),.own (.slice A11 n12 c13) 47 4 n12 (r4.1.conds.flatMap Bj)] [Sm w.heap.size F w [],St w []]:=by
  intro x25 h
  unfold Gy at h
  by_cases hp26:x25=true
  ·have h:=Ap hp26 h
   refine Bv rfl _ rfl (hp26)<|Ah rfl<|Ac rfl rfl<|Aa 0 rfl (Af rfl) gn rfl<|Aj 1 rfl ?_
   refine Bq [.bool false] rfl Tryd.func27 rfl (.tmp rfl (.nil)) fun wr hLr=>?_
   have hMr:=hLr.pk0 (.c 1 rfl .n)
   show Fz w F  r (.returned (Ce [.bool false])) wr
   rw [h]
   exact ⟨rfl,hMr⟩
  ·have h:=Am hp26 h
   refine Bi rfl _ rfl ((bf hp26))<|C9 rfl<|Ah rfl<|Ac rfl rfl<|Aa 0 rfl (Jg #[.string (⟨#[115]⟩:ByteArray),.bool true,.string (⟨#[]⟩:ByteArray),.int .i64 0,.int .i64 2,.int .i64 2,.int .i64 (-1)] bd_56 rfl (by kernel_rfl)) gn rfl<|Aa 1 rfl (Jg #[.string (⟨#[97]⟩:ByteArray),.bool true,.string (⟨#[]⟩:ByteArray),.int .i64 0,.int .i64 1,.int .i64 0,.int .i64 0] bd_56 rfl (by kernel_rfl)) gn rfl<|Aa 2 rfl (Jg #[.string (⟨#[97]⟩:ByteArray),.bool true,.string (⟨#[]⟩:ByteArray),.int .i64 1,.int .i64 2,.int .i64 0,.int .i64 1] bd_56 rfl (by kernel_rfl)) gn rfl ?_
   refine Ci 3 rfl (Hy (xs:=([(⟨(⟨#[115]⟩:ByteArray),true,(⟨#[]⟩:ByteArray),0,2,2,-1⟩:Az),(⟨(⟨#[97]⟩:ByteArray),true,(⟨#[]⟩:ByteArray),0,1,0,0⟩:Az),(⟨(⟨#[97]⟩:ByteArray),true,(⟨#[]⟩:ByteArray),1,2,0,1⟩:Az)]:List Az)) [.string (⟨#[115]⟩:ByteArray),.bool true,.string (⟨#[]⟩:ByteArray),.int .i64 0,.int .i64 2,.int .i64 2,.int .i64 (-1),.string (⟨#[97]⟩:ByteArray),.bool true,.string (⟨#[]⟩:ByteArray),.int .i64 0,.int .i64 1,.int .i64 0,.int .i64 0,.string (⟨#[97]⟩:ByteArray),.bool true,.string (⟨#[]⟩:ByteArray),.int .i64 1,.int .i64 2,.int .i64 0,.int .i64 1] bs_26_3 rfl (by kernel_rfl) rfl rfl rfl rfl fun gb28 h29=>?_) gn
   refine Aa 4 rfl (Af rfl) gn rfl<|Aj 5 rfl<|Ah rfl<|Ac rfl rfl<|Aa 0 rfl (O6 [.slice A6 n7 c8,.slice A11 n12 c13] 1 V5 rfl rfl rfl rfl) gn rfl<|Aa 1 rfl (Ad rfl) gn rfl ?_
   obtain ⟨r33,hv34,h⟩:=h
   refine Ci 2 rfl (D7 [.agg #[.slice A6 n7 c8,.slice A11 n12 c13],.slice (some ⟨gb28,0,none⟩) 3 3,.string (⟨#[121,122]⟩:ByteArray)] rfl Tryd.func17 rfl rfl rfl fun w30 hL31=>?_) gn
   have hp32:=pmI hL31 .n (.c 0 rfl (.c 1 rfl (.c 2 rfl (.c 3 rfl .n)))) (by kernel_rfl)
   refine Calls.mono (Ub w30 (Fl ([]:List Cb)) r4.1 ([(⟨(⟨#[115]⟩:ByteArray),true,(⟨#[]⟩:ByteArray),0,2,2,-1⟩:Az),(⟨(⟨#[97]⟩:ByteArray),true,(⟨#[]⟩:ByteArray),0,1,0,0⟩:Az),(⟨(⟨#[97]⟩:ByteArray),true,(⟨#[]⟩:ByteArray),1,2,0,1⟩:Az)]:List Az) (⟨#[121,122]⟩:ByteArray) A6 n7 c8 A11 n12 c13 (some ⟨gb28,0,none⟩) 3 3 (hL31.argO (dk:=Dn) hp32 [] rfl 2 rfl rfl (Ow.weak hL2.env.size h9) (me 0 rfl) (Cells.flat _)) (hL31.argO (dk:=Fv) hp32 [] rfl 3 rfl rfl (Ow.weak hL2.env.size h14) (me 0 rfl) (Cells.flat _)) (hL31.argO (dk:=Ew) hp32 [] rfl 0 rfl rfl h29 (me 0 rfl) (Cells.flat _)) (hL31.tb hp32 hG (me 1 rfl)) (hL31.hFl hp32 (Bg [] rfl)) (hL31.into hp32 _) r33 hv34) ?_
   rintro _ w42 ⟨A35,n36,c37,cs40,rfl,hM43,h38,hC41⟩
   obtain ⟨sb46,hL44,hv45⟩:=hL31.callB (Sl:=([]:List Cb)) hp32 hM43 F (Bg [] rfl) trivial
   have hC41:Cells G9 (Sm w.heap.size F w42 sb46).w (Sm w.heap.size F w42 sb46).av r33 cs40:=Cells.mono hv45 hC41
   refine ⟨_,_,_,rfl,hL44,?_⟩
   refine Aa 3 rfl (Af rfl) gn rfl<|Aj 4 rfl<|Ah rfl<|Ac rfl rfl<|Aa 0 rfl (O6 [.slice A6 n7 c8,.slice A11 n12 c13] 2 V5 rfl rfl rfl rfl) gn rfl<|Aa 1 rfl (Ad rfl) gn rfl ?_
   obtain ⟨r50,hv51,h⟩:=h
   refine Ci 2 rfl (D7 [.agg #[.slice A6 n7 c8,.slice A11 n12 c13],.slice (some ⟨gb28,0,none⟩) 3 3,.string (⟨#[122,121]⟩:ByteArray)] rfl Tryd.func17 rfl rfl rfl fun w47 hL48=>?_) gn
   have hp49:=pmI hL48 .n (.c 0 rfl (.c 1 rfl (.c 2 rfl (.c 3 rfl (.c 4 rfl .n))))) (by kernel_rfl)
   refine Calls.mono (Ub w47 (Fl ([]:List Cb)) r4.1 ([(⟨(⟨#[115]⟩:ByteArray),true,(⟨#[]⟩:ByteArray),0,2,2,-1⟩:Az),(⟨(⟨#[97]⟩:ByteArray),true,(⟨#[]⟩:ByteArray),0,1,0,0⟩:Az),(⟨(⟨#[97]⟩:ByteArray),true,(⟨#[]⟩:ByteArray),1,2,0,1⟩:Az)]:List Az) (⟨#[122,121]⟩:ByteArray) A6 n7 c8 A11 n12 c13 (some ⟨gb28,0,none⟩) 3 3 (hL48.argO (dk:=Dn) hp49 [] rfl 3 rfl rfl (Ow.weak hL2.env.size h9) (me 1 rfl) (Cells.flat _)) (hL48.argO (dk:=Fv) hp49 [] rfl 4 rfl rfl (Ow.weak hL2.env.size h14) (me 1 rfl) (Cells.flat _)) (hL48.argO (dk:=Ew) hp49 [] rfl 1 rfl rfl h29 (me 1 rfl) (Cells.flat _)) (hL48.tb hp49 hG (me 2 rfl)) (hL48.hFl hp49 (Bg [] rfl)) (hL48.into hp49 _) r50 hv51) ?_
   rintro _ w59 ⟨A52,n53,c54,cs57,rfl,hM60,h55,hC58⟩
   obtain ⟨sb63,hL61,hv62⟩:=hL48.callB (Sl:=([]:List Cb)) hp49 hM60 F (Bg [] rfl) trivial
   have hC58:Cells G9 (Sm w.heap.size F w59 sb63).w (Sm w.heap.size F w59 sb63).av r50 cs57:=Cells.mono hv62 hC58
   refine ⟨_,_,_,rfl,hL61,?_⟩
   refine Aa 3 rfl (Af rfl) gn rfl<|Aj 4 rfl<|Ah rfl<|Ac rfl rfl<|Aa 0 rfl (O6 [.slice A6 n7 c8,.slice A11 n12 c13] 3 V5 rfl rfl rfl rfl) gn rfl ?_
   obtain ⟨r68,hv69,h⟩:=h
   refine Ci 1 rfl (D7 [.agg #[.slice A6 n7 c8,.slice A11 n12 c13]] rfl Tryd.func25 rfl rfl rfl fun w65 hL66=>?_) gn
   have hp67:=pmI hL66 .n (.c 0 rfl (.c 1 rfl (.c 2 rfl (.c 3 rfl (.c 4 rfl (.c 5 rfl .n)))))) (by kernel_rfl)
   refine Calls.mono (Xdc w65 (Fl ([]:List Cb)) r4.1 A6 n7 c8 A11 n12 c13 (hL66.argO (dk:=Dn) hp67 [] rfl 4 rfl rfl (Ow.weak hL2.env.size h9) (me 2 rfl) (Cells.flat _)) (hL66.argO (dk:=Fv) hp67 [] rfl 5 rfl rfl (Ow.weak hL2.env.size h14) (me 2 rfl) (Cells.flat _)) (hL66.tb hp67 hG (me 3 rfl)) (hL66.hFl hp67 (Bg [] rfl)) (hL66.into hp67 _) r68 hv69) ?_
   rintro _ w70 ⟨rfl,hM71⟩
   have hL72:=hL66.call hp67 hM71
   refine ⟨_,_,_,rfl,hL72,?_⟩
   refine Aa 2 rfl (Ad rfl) gn rfl<|Aa 3 rfl (I4 rfl rfl) gn rfl<|Aa 4 rfl (I4 rfl rfl) gn rfl<|Aa 5 rfl (Af rfl) gn rfl<|Aa 6 rfl (Af rfl) gn rfl<|Aj 7 rfl<|Ah rfl<|Ac rfl rfl<|Aa 0 rfl (Ad rfl) gn rfl<|Aa 1 rfl (Di Xgj rfl (Ow.weak hL31.env.size h38).hq) gn rfl<|Aa 2 rfl (Be rfl rfl rfl) gn rfl<|Aa 3 rfl (Ad rfl) gn rfl ?_
   by_cases hp73:(r33.length:Int)=1
   ·have h:=Ap hp73 h
    refine Bo 50 rfl ((eqi hp73))<|Aa 4 rfl (Ad rfl) (gy 50 rfl rfl) rfl ?_
    obtain ⟨hb74,h⟩:=h
    obtain ⟨ce75,hK76,ht77,hg78⟩:=Cells.get hC41 hb74
    obtain ⟨A79,n80,c81,rfl,h82⟩:=hK76
    refine Aa 5 rfl (Ez Xcv rfl rfl (Ow.weak hL31.env.size h38) hb74) (gy 50 rfl rfl) rfl<|Aa 6 rfl (J7 Xbj rfl) (gy 50 rfl rfl) rfl<|Aa 7 rfl (Tv (.slice A79 n80 c81) 1 Xq rfl rfl (hg78 0 _ rfl)) (gy 50 rfl rfl) rfl ?_
    refine Ci 8 rfl (Hy (xs:=([0,1]:List Int)) [.int .i64 0,.int .i64 1] bs_36_2 rfl (by kernel_rfl) rfl rfl rfl rfl fun gb84 h85=>?_) (gy 50 rfl rfl)
    obtain ⟨r89,hv90,h⟩:=h
    refine Ci 9 rfl (D7 [.slice A79 n80 c81,.slice (some ⟨gb84,0,none⟩) 2 2] rfl Tryd.func36 rfl rfl rfl fun w86 hL87=>?_) (gy 50 rfl rfl)
    have hp88:=pmI hL87 .n (.c 0 rfl (.c 1 rfl (.c 2 rfl (.c 3 rfl (.c 4 rfl (.c 5 rfl (.c 6 rfl .n))))))) (by kernel_rfl)
    refine Calls.mono (Rj w86 (Fl ([]:List Cb)) ((ix r33 0).nodes) ([0,1]:List Int) A79 n80 c81 (some ⟨gb84,0,none⟩) 2 2 (Rw.mono h82 (hL87.toSt hp88 (me 1 rfl))) (hL87.argO (dk:=(Gq .i64)) hp88 [] rfl 0 rfl rfl h85 (me 2 rfl) (Cells.flat _)) (hL87.hFl hp88 (Bg [] rfl)) (hL87.into hp88 _) r89 hv90) ?_
    rintro _ w91 ⟨rfl,hM92⟩
    have hL93:=hL87.call hp88 hM92
    refine ⟨_,_,_,rfl,hL93,?_⟩
    refine Aa 10 rfl (Bc (b:=true) rfl rfl) gn rfl<|Aa 11 rfl (Ad rfl) gn rfl ?_
    by_cases hp94:r89=true
    ·have h:=Ap hp94 h
     refine Bo 58 rfl (hp94)<|Aa 12 rfl (Ad rfl) (gy 58 rfl rfl) rfl<|Aa 13 rfl (Di Xgj rfl (Ow.weak hL48.env.size h55).hq) (gy 58 rfl rfl) rfl<|Aa 14 rfl (Be rfl rfl rfl) (gy 58 rfl rfl) rfl<|Aa 15 rfl (Bc (b:=true) rfl rfl) gn rfl<|Aa 16 rfl (Ad rfl) gn rfl ?_
     by_cases hp95:(r50.length:Int)=0
     ·have h:=Ap hp95 h
      refine Bo 63 rfl ((eqi hp95))<|Aa 17 rfl (Ad rfl) (gy 63 rfl rfl) rfl<|Aa 18 rfl (Be rfl rfl rfl) (gy 63 rfl rfl) rfl<|Aa 19 rfl (Bc (b:=true) rfl rfl) gn rfl<|Aa 20 rfl (Ad rfl) gn rfl ?_
      by_cases hp96:r68.2=0
      ·have h:=Ap hp96 h
       refine Bo 67 rfl ((eqi hp96))<|Aa 21 rfl (Ad rfl) (gy 67 rfl rfl) rfl<|Aa 22 rfl (Xo rfl rfl) (gy 67 rfl rfl) rfl<|Aa 23 rfl (Bc (b:=true) rfl rfl) gn rfl<|Aa 24 rfl (Af rfl) gn rfl<|Aj 25 rfl ?_
       refine Bq [.bool (seq r68.1 (⟨#[40,32,115,32,40,32,97,32,41,32,64,32,120,32,41,32,119,104,101,110,32,64,32,120,32,61,32,34,121,34]⟩:ByteArray))] rfl Tryd.func27 rfl (.tmp rfl (.nil)) fun wr hLr=>?_
       have hMr:=hLr.pk0 (.c 3 rfl .n)
       show Fz w F  r (.returned (Ce [.bool (seq r68.1 (⟨#[40,32,115,32,40,32,97,32,41,32,64,32,120,32,41,32,119,104,101,110,32,64,32,120,32,61,32,34,121,34]⟩:ByteArray))])) wr
       rw [h]
       exact ⟨rfl,hMr⟩
      ·have h:=Am hp96 h
       refine Bo 67 rfl ((nei hp96))<|Ae 21 rfl (ps 67 rfl rfl rfl)<|Ae 22 rfl (ps 67 rfl rfl rfl)<|Aa 23 rfl (Bc (b:=false) rfl rfl) gn rfl<|Aa 24 rfl (Af rfl) gn rfl<|Aj 25 rfl ?_
       refine Bq [.bool false] rfl Tryd.func27 rfl (.tmp rfl (.nil)) fun wr hLr=>?_
       have hMr:=hLr.pk0 (.c 3 rfl .n)
       show Fz w F  r (.returned (Ce [.bool false])) wr
       rw [h]
       exact ⟨rfl,hMr⟩
     ·have h:=Am hp95 h
      refine Bo 63 rfl ((nei hp95))<|Ae 17 rfl (ps 63 rfl rfl rfl)<|Ae 18 rfl (ps 63 rfl rfl rfl)<|Aa 19 rfl (Bc (b:=false) rfl rfl) gn rfl<|Aa 20 rfl (Ad rfl) gn rfl<|Ae 21 rfl (ps 67 rfl rfl rfl)<|Ae 22 rfl (ps 67 rfl rfl rfl)<|Aa 23 rfl (Bc (b:=false) rfl rfl) gn rfl<|Aa 24 rfl (Af rfl) gn rfl<|Aj 25 rfl ?_
      refine Bq [.bool false] rfl Tryd.func27 rfl (.tmp rfl (.nil)) fun wr hLr=>?_
      have hMr:=hLr.pk0 (.c 3 rfl .n)
      show Fz w F  r (.returned (Ce [.bool false])) wr
      rw [h]
      exact ⟨rfl,hMr⟩
    ·have h:=Am hp94 h
     refine Bo 58 rfl ((bf hp94))<|Ae 12 rfl (ps 58 rfl rfl rfl)<|Ae 13 rfl (ps 58 rfl rfl rfl)<|Ae 14 rfl (ps 58 rfl rfl rfl)<|Aa 15 rfl (Bc (b:=false) rfl rfl) gn rfl<|Aa 16 rfl (Ad rfl) gn rfl<|Ae 17 rfl (ps 63 rfl rfl rfl)<|Ae 18 rfl (ps 63 rfl rfl rfl)<|Aa 19 rfl (Bc (b:=false) rfl rfl) gn rfl<|Aa 20 rfl (Ad rfl) gn rfl<|Ae 21 rfl (ps 67 rfl rfl rfl)<|Ae 22 rfl (ps 67 rfl rfl rfl) ?_
     refine Aa 23 rfl (Bc (b:=false) rfl rfl) gn rfl<|Aa 24 rfl (Af rfl) gn rfl<|Aj 25 rfl ?_
     refine Bq [.bool false] rfl Tryd.func27 rfl (.tmp rfl (.nil)) fun wr hLr=>?_
     have hMr:=hLr.pk0 (.c 3 rfl .n)
     show Fz w F  r (.returned (Ce [.bool false])) wr
     rw [h]
     exact ⟨rfl,hMr⟩
   ·have h:=Am hp73 h
    refine Bo 50 rfl ((nei hp73))<|Ae 4 rfl (ps 50 rfl rfl rfl)<|Ae 5 rfl (ps 50 rfl rfl rfl)<|Ae 6 rfl (ps 50 rfl rfl rfl)<|Ae 7 rfl (ps 50 rfl rfl rfl)<|Ae 8 rfl (ps 50 rfl rfl rfl)<|Ae 9 rfl (ps 50 rfl rfl rfl)<|Aa 10 rfl (Bc (b:=false) rfl rfl) gn rfl<|Aa 11 rfl (Ad rfl) gn rfl<|Ae 12 rfl (ps 58 rfl rfl rfl)<|Ae 13 rfl (ps 58 rfl rfl rfl)<|Ae 14 rfl (ps 58 rfl rfl rfl) ?_
    refine Aa 15 rfl (Bc (b:=false) rfl rfl) gn rfl<|Aa 16 rfl (Ad rfl) gn rfl<|Ae 17 rfl (ps 63 rfl rfl rfl)<|Ae 18 rfl (ps 63 rfl rfl rfl)<|Aa 19 rfl (Bc (b:=false) rfl rfl) gn rfl<|Aa 20 rfl (Ad rfl) gn rfl<|Ae 21 rfl (ps 67 rfl rfl rfl)<|Ae 22 rfl (ps 67 rfl rfl rfl)<|Aa 23 rfl (Bc (b:=false) rfl rfl) gn rfl<|Aa 24 rfl (Af rfl) gn rfl<|Aj 25 rfl ?_
    refine Bq [.bool false] rfl Tryd.func27 rfl (.tmp rfl (.nil)) fun wr hLr=>?_
    have hMr:=hLr.pk0 (.c 3 rfl .n)
    show Fz w F  r (.returned (Ce [.bool false])) wr
    rw [h]
    exact ⟨rfl,hMr⟩
 refine Ac rfl rfl<|Aa 0 rfl (Ad rfl) gn rfl<|Aa 1 rfl (Be rfl rfl rfl) gn rfl<|Aa 2 rfl (Ad rfl) gn rfl ?_
 by_cases hp97:r4.2.1=0
 ·have h:=Ap hp97 h
  refine Bo 16 rfl ((Xbu hp97))<|Aa 3 rfl (Ad rfl) (gy 16 rfl rfl) rfl<|Aa 4 rfl (Be rfl rfl rfl) (gy 16 rfl rfl) rfl<|Aa 5 rfl (Bc (b:=false) rfl rfl) gn rfl<|Aa 6 rfl (Ad rfl) gn rfl ?_
  by_cases hp98:r4.2.2=0
  ·have h:=Ap hp98 h
   refine Bo 20 rfl ((Xbu hp98))<|Aa 7 rfl (Aw Kr rfl) (gy 20 rfl rfl) rfl<|Aa 8 rfl (Aq 0 Tq rfl rfl rfl) (gy 20 rfl rfl) rfl<|Aa 9 rfl (Di Zq rfl (Ow.weak hL2.env.size h9).hq) (gy 20 rfl rfl) rfl<|Aa 10 rfl (Be rfl rfl rfl) (gy 20 rfl rfl) rfl<|Aa 11 rfl (Bc (b:=false) rfl rfl) gn rfl<|Aa 12 rfl (Ad rfl) gn rfl ?_
   by_cases hp99:(r4.1.nodes.length:Int)=2
   ·have h:=Ap hp99 h
    refine Bo 26 rfl ((Xbu hp99))<|Aa 13 rfl (Aw Qj rfl) (gy 26 rfl rfl) rfl<|Aa 14 rfl (Aq 0 Xaj rfl rfl rfl) (gy 26 rfl rfl) rfl<|Aa 15 rfl (Di Xf1 rfl (Ow.weak hL2.env.size h14).hq) (gy 26 rfl rfl) rfl<|Aa 16 rfl (Be rfl rfl rfl) (gy 26 rfl rfl) rfl<|Aa 17 rfl (Bc (b:=false) rfl rfl) gn rfl<|Aj 18 rfl ?_
    exact D8 [0,1] (j1 ((r4.1.conds.length:Int) != 1) h) ⟨rfl,rfl,trivial⟩ (.cons_cons _ (.cons_cons _ (.cons_cons _ (.slnil)))) rfl
   ·have h:=Am hp99 h
    refine Bo 26 rfl ((Xc1 hp99))<|Ae 13 rfl (ps 26 rfl rfl rfl)<|Ae 14 rfl (ps 26 rfl rfl rfl)<|Ae 15 rfl (ps 26 rfl rfl rfl)<|Ae 16 rfl (ps 26 rfl rfl rfl)<|Aa 17 rfl (Bc (b:=true) rfl rfl) gn rfl<|Aj 18 rfl ?_
    exact D8 [0,1] (j1 true h) ⟨rfl,rfl,trivial⟩ (.cons_cons _ (.cons_cons _ (.cons_cons _ (.slnil)))) rfl
  ·have h:=Am hp98 h
   refine Bo 20 rfl ((Xc1 hp98))<|Ae 7 rfl (ps 20 rfl rfl rfl)<|Ae 8 rfl (ps 20 rfl rfl rfl)<|Ae 9 rfl (ps 20 rfl rfl rfl)<|Ae 10 rfl (ps 20 rfl rfl rfl)<|Aa 11 rfl (Bc (b:=true) rfl rfl) gn rfl<|Aa 12 rfl (Ad rfl) gn rfl<|Ae 13 rfl (ps 26 rfl rfl rfl)<|Ae 14 rfl (ps 26 rfl rfl rfl)<|Ae 15 rfl (ps 26 rfl rfl rfl)<|Ae 16 rfl (ps 26 rfl rfl rfl)<|Aa 17 rfl (Bc (b:=true) rfl rfl) gn rfl ?_
   refine Aj 18 rfl ?_
   exact D8 [0,1] (j1 true h) ⟨rfl,rfl,trivial⟩ (.cons_cons _ (.cons_cons _ (.cons_cons _ (.slnil)))) rfl
 ·have h:=Am hp97 h
  refine Bo 16 rfl ((Xc1 hp97))<|Ae 3 rfl (ps 16 rfl rfl rfl)<|Ae 4 rfl (ps 16 rfl rfl rfl)<|Aa 5 rfl (Bc (b:=true) rfl rfl) gn rfl<|Aa 6 rfl (Ad rfl) gn rfl<|Ae 7 rfl (ps 20 rfl rfl rfl)<|Ae 8 rfl (ps 20 rfl rfl rfl)<|Ae 9 rfl (ps 20 rfl rfl rfl)<|Ae 10 rfl (ps 20 rfl rfl rfl)<|Aa 11 rfl (Bc (b:=true) rfl rfl) gn rfl<|Aa 12 rfl (Ad rfl) gn rfl<|Ae 13 rfl (ps 26 rfl rfl rfl) ?_
  refine Ae 14 rfl (ps 26 rfl rfl rfl)<|Ae 15 rfl (ps 26 rfl rfl rfl)<|Ae 16 rfl (ps 26 rfl rfl rfl)<|Aa 17 rfl (Bc (b:=true) rfl rfl) gn rfl<|Aj 18 rfl ?_
  exact D8 [0,1] (j1 true h) ⟨rfl,rfl,trivial⟩ (.cons_cons _ (.cons_cons _ (.cons_cons _ (.slnil)))) rfl
noncomputable abbrev q31c4:=Code.snd (Code.snd (Dt Tryd.f31))
noncomputable abbrev Xhs:=Code.fst (Code.fst (Code.snd (Code.fst (Code.snd (Dt Tryd.f31)))))
abbrev Pe (w:World) (F:Nat→Prop) (r:Int):Ending→World→Prop:=fun e w'=>e=.returned (.int .i64 r)∧B.Loc w w' [] [St w []]
noncomputable abbrev Oz (w:World) (F:Nat→Prop) (r:Int):Cx:=⟨Tryd.prog,31,Tryd.f31,26,Pe w F  r,w⟩
theorem U8 (w:World) (F:Nat→Prop) (x1:Ar) (x10:ByteArray) (A2:Option Addr) (n3:Nat) (c4:Nat) (A6:Option Addr) (n7:Nat) (c8:Nat) (h5:Rw Dn w (St w []).av A2 n3 c4 x1.nodes) (h9:Rw Fv w (St w []).av A6 n7 c8 x1.conds) (hF:∀ b,F b→b < w.heap.size∧∀ o ∈ ([]:List (List Nat)),b ∉ o) (hL0:B.Loc w w [] [Sm w.heap.size F w [],St w []]) (r:Int) (h:Ny x1 x10 r):Calls Tryd.prog 31 #[.agg #[.slice A2 n3 c4,.slice A6 n7 c8],.string x10] w (Pe w F  r):=by
 unfold Ny at h
 refine Cc (vs:=[.agg #[.slice A2 n3 c4,.slice A6 n7 c8],.string x10]) 26 Tryd.func31 rfl Tryd.ntmps31 rfl hL0 ?_
 show G (Oz w F r) _ _ _ _
 refine Ah rfl<|Ac rfl rfl ?_
 refine Ci 0 rfl (Tu [.slice A2 n3 c4,.slice A6 n7 c8] rfl rfl rfl fun gb11=>?_) gn
 refine Aa 1 rfl (Af rfl) gn rfl<|Aj 2 rfl<|Ah rfl<|Ah rfl<|Ac rfl rfl<|Aa 0 rfl (Af rfl) gn rfl<|Aj 1 rfl<|Dj rfl<|Kw rfl ?_
 have key1:∀ s,Bl (fun (s:Int) o=>O9 x1 x10 s o) s r→(fun (s:Int)=>∀ (_:Unit),G (Oz w F r) [.code Xhs,.inLoop Xhs,.inBlock 0,.code q31c4] [(1,.string x10),(2,.pointer (some ⟨gb11,0,none⟩)),(5,.int .i64 s)] [.box gb11 25 [.slice A2 n3 c4,.slice A6 n7 c8]] [Sm w.heap.size F w [],St w []]) s:=by
  intro s hs
  refine Bl.ind (mot:=(fun (s:Int)=>∀ (_:Unit),G (Oz w F r) [.code Xhs,.inLoop Xhs,.inBlock 0,.code q31c4] [(1,.string x10),(2,.pointer (some ⟨gb11,0,none⟩)),(5,.int .i64 s)] [.box gb11 25 [.slice A2 n3 c4,.slice A6 n7 c8]] [Sm w.heap.size F w [],St w []])) ?_ hs
  clear hs s
  intro x19 o1 h hO1
  show ∀ (_:Unit),G (Oz w F r) [.code Xhs,.inLoop Xhs,.inBlock 0,.code q31c4] [(1,.string x10),(2,.pointer (some ⟨gb11,0,none⟩)),(5,.int .i64 x19)] [.box gb11 25 [.slice A2 n3 c4,.slice A6 n7 c8]] [Sm w.heap.size F w [],St w []]
  intro _
  have h:O9 x1 x10 x19 o1:=h
  unfold O9 at h
  refine Ah rfl<|Ah rfl<|Ac rfl rfl<|Aa 0 rfl (Ad rfl) gn rfl<|Aa 1 rfl (Aw Kr rfl) gn rfl<|Aa 2 rfl (Aq 0 Tq rfl rfl rfl) gn rfl<|Aa 3 rfl (Di Zq rfl h5.hq) gn rfl<|Aa 4 rfl (Be rfl rfl rfl) gn rfl<|Aj 5 rfl ?_
  by_cases hp25:x19 < (x1.nodes.length:Int)
  ·have h:=Ap hp25 h
   refine Bv rfl _ rfl ((decide_eq_true hp25))<|C9 rfl<|Ah rfl<|Dj rfl<|Ah rfl<|Ac rfl rfl<|Aa 0 rfl (Ad rfl) gn rfl<|Aa 1 rfl (Rk rfl rfl) gn rfl<|Aa 2 rfl (Ad rfl) gn rfl ?_
   by_cases hp26:x10=(⟨#[]⟩:ByteArray)
   ·have h:=Ap hp26 h
    refine Bo 15 rfl ((nf (Oo hp26)))<|Ae 3 rfl (ps 15 rfl rfl rfl)<|Ae 4 rfl (ps 15 rfl rfl rfl)<|Ae 5 rfl (ps 15 rfl rfl rfl)<|Ae 6 rfl (ps 15 rfl rfl rfl)<|Ae 7 rfl (ps 15 rfl rfl rfl)<|Ae 8 rfl (ps 15 rfl rfl rfl)<|Ae 9 rfl (ps 15 rfl rfl rfl)<|Ae 10 rfl (ps 15 rfl rfl rfl)<|Aa 11 rfl (Bc (b:=false) rfl rfl) gn rfl<|Aj 12 rfl<|Bi rfl _ rfl (rfl) ?_
    refine C9 rfl<|D9<|Ac rfl rfl<|Aa 0 rfl (Ad rfl) gn rfl<|Aa 1 rfl (Be rfl rfl rfl) gn rfl<|Aa 2 rfl (Af rfl) gn rfl<|Aj 3 rfl<|Dx ?_
    have ih:=Out.inl hO1 h
    exact D8 [0,1] (ih ()) ⟨rfl,rfl,rfl,trivial⟩ (.cons_cons _ (.slnil)) rfl
   ·have h:=Am hp26 h
    refine Bo 15 rfl ((nt (Pj hp26)))<|Aa 3 rfl (Aw Kr rfl) (gy 15 rfl rfl) rfl<|Aa 4 rfl (Aq 0 Tq rfl rfl rfl) (gy 15 rfl rfl) rfl<|Aa 5 rfl (Ad rfl) (gy 15 rfl rfl) rfl ?_
    obtain ⟨hb27,h⟩:=h
    have hr28:=Rw.readF (s:=St w []) (hl:=Gh) (h1:=I9) h5 hb27
    refine Aa 6 rfl (Fb (s:=St w []) Xk rfl rfl h5 hb27) (gy 15 rfl rfl) rfl<|Aa 7 rfl (J7 Uc rfl) (gy 15 rfl rfl) rfl<|Aa 8 rfl (Ie (kk:=(x19:Int).toNat * 5) (j:=3) (St w []) H8 rfl hr28 rfl (me 1 rfl)) (gy 15 rfl rfl) rfl<|Aa 9 rfl (Ad rfl) (gy 15 rfl rfl) rfl<|Aa 10 rfl (Xo rfl rfl) (gy 15 rfl rfl) rfl<|Aa 11 rfl (Bc (b:=true) rfl rfl) gn rfl<|Aj 12 rfl ?_
    by_cases hp29:(ix x1.nodes x19).capture=x10
    ·have h:=Ap hp29 h
     refine Bv rfl _ rfl ((Oo hp29))<|Ah rfl<|Ac rfl rfl<|Aa 0 rfl (Ad rfl) gn rfl<|Aa 1 rfl (Af rfl) gn rfl<|Aj 2 rfl ?_
     have h:=Out.inr hO1 h
     refine Bq [.int .i64 x19] rfl Tryd.func31 rfl (.tmp rfl (.nil)) fun wr hLr=>?_
     have hMr:=hLr.pk0 (.c 1 rfl .n)
     show Pe w F  r (.returned (Ce [.int .i64 x19])) wr
     rw [h]
     exact ⟨rfl,hMr⟩
    ·have h:=Am hp29 h
     refine Bi rfl _ rfl ((Pj hp29))<|C9 rfl<|D9<|Ac rfl rfl<|Aa 0 rfl (Ad rfl) gn rfl<|Aa 1 rfl (Be rfl rfl rfl) gn rfl<|Aa 2 rfl (Af rfl) gn rfl<|Aj 3 rfl<|Dx ?_
     have ih:=Out.inl hO1 h
     exact D8 [0,1] (ih ()) ⟨rfl,rfl,rfl,trivial⟩ (.cons_cons _ (.slnil)) rfl
  ·have h:=Am hp25 h
   refine Bi rfl _ rfl ((decide_eq_false hp25))<|Ii [.code q31c4] rfl rfl<|Ah rfl<|Ac rfl rfl<|Aa 0 rfl (Af rfl) gn rfl<|Aj 1 rfl ?_
   have h:=Out.inr hO1 h
   refine Bq [.int .i64 (-1)] rfl Tryd.func31 rfl (.tmp rfl (.nil)) fun wr hLr=>?_
   have hMr:=hLr.pk0 (.c 1 rfl .n)
   show Pe w F  r (.returned (Ce [.int .i64 (-1)])) wr
   rw [h]
   exact ⟨rfl,hMr⟩
 exact D8 [0,1] (key1 _ h ()) ⟨rfl,rfl,rfl,trivial⟩ (.cons_cons _ (.slnil)) rfl
noncomputable abbrev q32c6:=Code.snd (Code.snd (Code.snd (Dt Tryd.f32)))
noncomputable abbrev q32c14:=Code.snd (Code.snd q32c6)
abbrev Nk (w:World) (F:Nat→Prop) (r:ByteArray):Ending→World→Prop:=fun e w'=>e=.returned (.string r)∧B.Loc w w' [] [St w []]
noncomputable abbrev Qm (w:World) (F:Nat→Prop) (r:ByteArray):Cx:=⟨Tryd.prog,32,Tryd.f32,26,Nk w F  r,w⟩
theorem Rz (w:World) (F:Nat→Prop) (x1:Az) (x2:ByteArray) (hF:∀ b,F b→b < w.heap.size∧∀ o ∈ ([]:List (List Nat)),b ∉ o) (hL0:B.Loc w w [] [Sm w.heap.size F w [],St w []]) (r:ByteArray) (h:Jc x1 x2 r):Calls Tryd.prog 32 #[.agg #[.string x1.name,.bool x1.named,.string x1.field,.int .i64 x1.from_,.int .i64 x1.to,.int .i64 x1.kids,.int .i64 x1.leaf],.string x2] w (Nk w F  r):=by
 unfold Jc at h
 refine Cc (vs:=[.agg #[.string x1.name,.bool x1.named,.string x1.field,.int .i64 x1.from_,.int .i64 x1.to,.int .i64 x1.kids,.int .i64 x1.leaf],.string x2]) 26 Tryd.func32 rfl Tryd.ntmps32 rfl hL0 ?_
 show G (Qm w F r) _ _ _ _
 refine Ah rfl<|Ac rfl rfl ?_
 refine Ci 0 rfl (Tu [.string x1.name,.bool x1.named,.string x1.field,.int .i64 x1.from_,.int .i64 x1.to,.int .i64 x1.kids,.int .i64 x1.leaf] rfl rfl rfl fun gb3=>?_) gn
 refine Aa 1 rfl (Af rfl) gn rfl<|Aj 2 rfl<|Ah rfl<|Ac rfl rfl<|Aa 0 rfl (Aw Xm9 rfl) gn rfl<|Aa 1 rfl (Aq 0 H5 rfl rfl rfl) gn rfl<|Aa 2 rfl (Af rfl) gn rfl<|Aj 3 rfl<|Ah rfl<|Ah rfl<|Ac rfl rfl<|Aa 0 rfl (Ad rfl) gn rfl ?_
 refine Aa 1 rfl (Be rfl rfl rfl) gn rfl<|Aj 2 rfl ?_
 have j1:∀ (x7:Int) (h:Hz x1 x2 x7 r) ,G (Qm w F r) [.code q32c6] [(1,.string x2),(2,.pointer (some ⟨gb3,0,none⟩)),(5,.int .i64 x7)] [.box gb3 56 [.string x1.name,.bool x1.named,.string x1.field,.int .i64 x1.from_,.int .i64 x1.to,.int .i64 x1.kids,.int .i64 x1.leaf]] [Sm w.heap.size F w [],St w []]:=by
  intro x7 h
  unfold Hz at h
  refine Ah rfl<|Ac rfl rfl<|Aa 0 rfl (Aw Xm4 rfl) gn rfl<|Aa 1 rfl (Aq 0 H5 rfl rfl rfl) gn rfl<|Aa 2 rfl (Af rfl) gn rfl<|Aj 3 rfl<|Ah rfl<|Ah rfl<|Ac rfl rfl<|Aa 0 rfl (Ad rfl) gn rfl<|Aa 1 rfl (Ad rfl) gn rfl<|Aa 2 rfl (Pz Lp rfl) gn rfl ?_
  refine Aa 3 rfl (Be rfl rfl rfl) gn rfl<|Aj 4 rfl ?_
  have j2:∀ (x10:Int) (h:I7 x7 x2 x10 r) ,G (Qm w F r) [.code q32c14] [(1,.string x2),(5,.int .i64 x7),(6,.int .i64 x10)] [] [Sm w.heap.size F w [],St w []]:=by
   intro x10 h
   unfold I7 at h
   refine Ah rfl<|Ah rfl<|Ac rfl rfl<|Aa 0 rfl (Ad rfl) gn rfl<|Aa 1 rfl (Ad rfl) gn rfl<|Aa 2 rfl (Be rfl rfl rfl) gn rfl<|Aj 3 rfl ?_
   by_cases hp11:x7≥x10
   ·have h:=Ap hp11 h
    refine Bv rfl _ rfl ((decide_eq_true hp11))<|Ah rfl<|Ac rfl rfl<|Aa 0 rfl (Af rfl) gn rfl<|Aj 1 rfl ?_
    refine Bq [.string (⟨#[]⟩:ByteArray)] rfl Tryd.func32 rfl (.tmp rfl (.nil)) fun wr hLr=>?_
    have hMr:=hLr.pk0 (.c 1 rfl .n)
    show Nk w F  r (.returned (Ce [.string (⟨#[]⟩:ByteArray)])) wr
    rw [h]
    exact ⟨rfl,hMr⟩
   ·have h:=Am hp11 h
    refine Bi rfl _ rfl ((decide_eq_false hp11))<|C9 rfl<|Ah rfl<|Ac rfl rfl<|Aa 0 rfl (Ad rfl) gn rfl<|Aa 1 rfl (Ad rfl) gn rfl<|Aa 2 rfl (Ad rfl) gn rfl ?_
    obtain ⟨hb12,h⟩:=h
    refine Aa 3 rfl (Xh2 x7 x10 Lp rfl (.inr ⟨_,_,rfl,rfl⟩) (.inr ⟨_,_,rfl,rfl⟩) ⟨hb12.1,hb12.2.1⟩ hb12.2.2) gn rfl<|Aa 4 rfl (Af rfl) gn rfl<|Aj 5 rfl ?_
    refine Bq [.string (x2.extract (x7:Int).toNat (x10:Int).toNat)] rfl Tryd.func32 rfl (.tmp rfl (.nil)) fun wr hLr=>?_
    have hMr:=hLr.pk0 (.c 1 rfl .n)
    show Nk w F  r (.returned (Ce [.string (x2.extract (x7:Int).toNat (x10:Int).toNat)])) wr
    rw [h]
    exact ⟨rfl,hMr⟩
  by_cases hp8:x1.to > (x2.size:Int)
  ·have h:=Ap hp8 h
   refine Bv rfl _ rfl ((decide_eq_true hp8))<|Ac rfl rfl<|Aa 0 rfl (Ad rfl) gn rfl<|Aa 1 rfl (Pz Lp rfl) gn rfl<|Aa 2 rfl (Af rfl) gn rfl<|Aj 3 rfl ?_
   exact D8 [0,1] (j2 (x2.size:Int) h) ⟨rfl,rfl,rfl,trivial⟩ (.cons _ (.slnil)) rfl
  ·have h:=Am hp8 h
   refine Bi rfl _ rfl ((decide_eq_false hp8))<|C9 rfl ?_
   exact D8 [0,1] (j2 x1.to h) ⟨rfl,rfl,rfl,trivial⟩ (.cons _ (.slnil)) rfl
 by_cases hp5:x1.from_ < 0
 ·have h:=Ap hp5 h
  refine Bv rfl _ rfl ((decide_eq_true hp5))<|Ac rfl rfl<|Aa 0 rfl (Af rfl) gn rfl<|Aj 1 rfl ?_
  exact D8 [0,1] (j1 0 h) ⟨rfl,rfl,rfl,trivial⟩ (.cons_cons _ (.slnil)) rfl
 ·have h:=Am hp5 h
  refine Bi rfl _ rfl ((decide_eq_false hp5))<|C9 rfl ?_
  exact D8 [0,1] (j1 x1.from_ h) ⟨rfl,rfl,rfl,trivial⟩ (.cons_cons _ (.slnil)) rfl
end Go.Proofs.YtjookebbmfiidaaDoor.K
