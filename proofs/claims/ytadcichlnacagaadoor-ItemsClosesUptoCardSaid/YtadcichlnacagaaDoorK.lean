/- What the machine's calls do, function by function, printed by my own tool. Condition of each: its relation holds of the answer, and what is handed in lies in memory as told. -/
import Derived.Test.YtadcichlnacagaaDoorK6
set_option linter.unusedVariables false
set_option maxRecDepth 100000
set_option maxHeartbeats 4000000
namespace Go.Proofs.YtadcichlnacagaaDoor.K
open Go.Proofs.YtadcichlnacagaaDoor.B Go.Proofs.YtadcichlnacagaaDoor.R Go.RowKit
noncomputable abbrev Zq2:=Code.snd (Code.snd (Code.snd (Code.snd (Code.snd (Yvq Tryd.f33)))))
noncomputable abbrev Zk5:=Code.fst (Code.fst (Code.snd (Code.fst (Code.snd (Code.snd (Code.snd (Code.snd (Yvq Tryd.f33))))))))
noncomputable abbrev q33c24:=Code.fst (Code.fst (Code.fst (Code.snd Zk5)))
abbrev Ywz (w:World) (F:Nat→Prop) (r:Bool):Ending→World→Prop:=fun e w'=>e=.returned (.bool r)∧B.Loc w w' [] [St w []]
noncomputable abbrev Zbh (w:World) (F:Nat→Prop) (r:Bool):Cx:=⟨Tryd.prog,33,Tryd.f33,127,Ywz w F  r,w⟩
theorem Zh6 (w:World) (F:Nat→Prop) (x1:Yu5) (k6:Nat) (k13:Nat) (x20:List (Yuf × Nat)) (k21:Nat) (A2:Option Addr) (n3:Nat) (c4:Nat) (A9:Option Addr) (n10:Nat) (c11:Nat) (A16:Option Addr) (n17:Nat) (c18:Nat) (h5:Rw Yuj w (St w []).av A2 n3 c4 x1.terms) (hk7:k6≤n3) (h12:Rw Yuq w (St w []).av A9 n10 c11 x1.syms) (hk14:k13≤n10) (h19:Rw Zgr w (St w []).av A16 n17 c18 x20) (hk22:k21≤n17) (hF:∀ b,F b→b < w.heap.size∧∀ o ∈ ([]:List (List Nat)),b ∉ o) (hL0:B.Loc w w [] [Sm w.heap.size F w [],St w []]) (r:Bool) (h:Zb5 x1 k6 k13 x20 k21 r):Calls Tryd.prog 33 #[.agg #[.slice A2 k6 c4,.slice A9 k13 c11,.slice A16 k21 c18]] w (Ywz w F  r):=by
 unfold Zb5 at h
 have h8:=Rw.pre h5 hk7
 have h15:=Rw.pre h12 hk14
 have h23:=Rw.pre h19 hk22
 refine Yv5 (vs:=[.agg #[.slice A2 k6 c4,.slice A9 k13 c11,.slice A16 k21 c18]]) 127 Tryd.func33 rfl Tryd.ntmps33 rfl hL0 ?_
 show G (Zbh w F r) _ _ _ _
 refine Yu9 rfl<|Yu4 rfl rfl ?_
 refine Yve 0 rfl (Zas [.slice A2 k6 c4,.slice A9 k13 c11,.slice A16 k21 c18] rfl rfl rfl fun gb24=>?_) gn
 refine Yu2 1 rfl (Yu7 rfl) gn rfl<|Yua 2 rfl<|Yu9 rfl<|Yu4 rfl rfl<|Yu2 0 rfl (Yub Yw7 rfl) gn rfl<|Yu2 1 rfl (Yue 0 Yz4 rfl rfl rfl) gn rfl<|Yu2 2 rfl (Yub Yw7 rfl) gn rfl<|Yu2 3 rfl (Yue 0 Yz4 rfl rfl rfl) gn rfl<|Yu2 4 rfl (Yuo Yze rfl h8.hq) gn rfl<|Yu2 5 rfl (Yug rfl rfl rfl) gn rfl ?_
 obtain ⟨hb26,h⟩:=h
 have hle27:(w64 (((x1.terms.take k6).length:Int) + 2):Int).toNat≤n3:=by have q:=hb26; have q1:=h5.hq; omega
 have h28:=Rw.pre h5 hle27
 refine Yu2 6 rfl (Zf5 (i:=w64 (((x1.terms.take k6).length:Int) + 2)) Zls rfl rfl (by have q:=hb26; have q1:=h5.hq; have q2:=h5.hn; omega) h8.hn rfl) gn rfl<|Yu2 7 rfl (Yu7 rfl) gn rfl<|Yua 8 rfl<|Yu9 rfl<|Yu4 rfl rfl<|Yu2 0 rfl (Yub Yxd rfl) gn rfl<|Yu2 1 rfl (Yue 0 Zak rfl rfl rfl) gn rfl<|Yu2 2 rfl (Yub Yxd rfl) gn rfl<|Yu2 3 rfl (Yue 0 Zak rfl rfl rfl) gn rfl<|Yu2 4 rfl (Yuo Zbm rfl h15.hq) gn rfl<|Yu2 5 rfl (Yug rfl rfl rfl) gn rfl ?_
 obtain ⟨hb29,h⟩:=h
 have hle30:(w64 (((x1.syms.take k13).length:Int) + 2):Int).toNat≤n10:=by have q:=hb29; have q1:=h12.hq; omega
 have h31:=Rw.pre h12 hle30
 refine Yu2 6 rfl (Zf5 (i:=w64 (((x1.syms.take k13).length:Int) + 2)) Zlk rfl rfl (by have q:=hb29; have q1:=h12.hq; have q2:=h12.hn; omega) h15.hn rfl) gn rfl<|Yu2 7 rfl (Yu7 rfl) gn rfl<|Yua 8 rfl<|Yu9 rfl<|Yu4 rfl rfl<|Yu2 0 rfl (Yub Yvf rfl) gn rfl<|Yu2 1 rfl (Yue 0 Ywb rfl rfl rfl) gn rfl<|Yu2 2 rfl (Yub Yvf rfl) gn rfl<|Yu2 3 rfl (Yue 0 Ywb rfl rfl rfl) gn rfl<|Yu2 4 rfl (Yuo Za3 rfl h23.hq) gn rfl<|Yu2 5 rfl (Yug rfl rfl rfl) gn rfl ?_
 obtain ⟨hb32,h⟩:=h
 have hle33:(w64 (((x20.take k21).length:Int) + 2):Int).toNat≤n17:=by have q:=hb32; have q1:=h19.hq; omega
 have h34:=Rw.pre h19 hle33
 refine Yu2 6 rfl (Zf5 (i:=w64 (((x20.take k21).length:Int) + 2)) Yxh rfl rfl (by have q:=hb32; have q1:=h19.hq; have q2:=h19.hn; omega) h23.hn rfl) gn rfl<|Yu2 7 rfl (Yu7 rfl) gn rfl<|Yua 8 rfl<|Yu9 rfl<|Yu9 rfl<|Yu4 rfl rfl<|Yu2 0 rfl (Yu7 rfl) gn rfl<|Yua 1 rfl<|Yuw rfl<|Ywm rfl ?_
 have key1:∀ s,Yui (fun (s:Int) o=>Yzq x20 k21 x1 k6 k13 s o) s r→(fun (s:Int)=>∀ (_:Unit),G (Zbh w F r) [.code Zk5,.inLoop Zk5,.inBlock 0,.code Zq2] [(1,.pointer (some ⟨gb24,0,none⟩)),(3,.slice A2 ((w64 (((x1.terms.take k6).length:Int) + 2):Int).toNat) c4),(4,.slice A9 ((w64 (((x1.syms.take k13).length:Int) + 2):Int).toNat) c11),(5,.slice A16 ((w64 (((x20.take k21).length:Int) + 2):Int).toNat) c18),(6,.int .i64 s)] [.box gb24 26 [.slice A2 k6 c4,.slice A9 k13 c11,.slice A16 k21 c18]] [Sm w.heap.size F w [],St w []]) s:=by
  intro s hs
  refine Yui.ind (mot:=(fun (s:Int)=>∀ (_:Unit),G (Zbh w F r) [.code Zk5,.inLoop Zk5,.inBlock 0,.code Zq2] [(1,.pointer (some ⟨gb24,0,none⟩)),(3,.slice A2 ((w64 (((x1.terms.take k6).length:Int) + 2):Int).toNat) c4),(4,.slice A9 ((w64 (((x1.syms.take k13).length:Int) + 2):Int).toNat) c11),(5,.slice A16 ((w64 (((x20.take k21).length:Int) + 2):Int).toNat) c18),(6,.int .i64 s)] [.box gb24 26 [.slice A2 k6 c4,.slice A9 k13 c11,.slice A16 k21 c18]] [Sm w.heap.size F w [],St w []])) ?_ hs
  clear hs s
  intro x130 o1 h hO1
  show ∀ (_:Unit),G (Zbh w F r) [.code Zk5,.inLoop Zk5,.inBlock 0,.code Zq2] [(1,.pointer (some ⟨gb24,0,none⟩)),(3,.slice A2 ((w64 (((x1.terms.take k6).length:Int) + 2):Int).toNat) c4),(4,.slice A9 ((w64 (((x1.syms.take k13).length:Int) + 2):Int).toNat) c11),(5,.slice A16 ((w64 (((x20.take k21).length:Int) + 2):Int).toNat) c18),(6,.int .i64 x130)] [.box gb24 26 [.slice A2 k6 c4,.slice A9 k13 c11,.slice A16 k21 c18]] [Sm w.heap.size F w [],St w []]
  intro _
  have h:Yzq x20 k21 x1 k6 k13 x130 o1:=h
  unfold Yzq at h
  refine Yu9 rfl<|Yu9 rfl<|Yu4 rfl rfl<|Yu2 0 rfl (Yu3 rfl) gn rfl<|Yu2 1 rfl (Yub Yvf rfl) gn rfl<|Yu2 2 rfl (Yue 0 Ywb rfl rfl rfl) gn rfl<|Yu2 3 rfl (Yuo Za3 rfl h23.hq) gn rfl<|Yu2 4 rfl (Yug rfl rfl rfl) gn rfl<|Yua 5 rfl ?_
  by_cases hp225:x130 < ((x20.take k21).length:Int)
  ·have h:=Yul hp225 h
   refine Yv4 rfl _ rfl ((decide_eq_true hp225))<|Yv2 rfl<|Yu9 rfl<|Yuw rfl<|Yu9 rfl ?_
   obtain ⟨hb226,h⟩:=h
   obtain ⟨hb243,h⟩:=h
   have hns:Region.noSelect (Code.ops q33c24)=true:=by kernel_rfl
   refine Yvr [] 16 rfl rfl mix rfl (.c 0 rfl (.c 1 rfl .n))<|wfv 0 rfl (Yub Yvf rfl) gn hns rfl<|wfv 1 rfl (Yue 0 Ywb rfl rfl rfl) gn hns rfl<|wfv 2 rfl (Yu3 rfl) gn hns rfl ?_
   obtain ⟨ce265,hK266,hr264⟩:=Rw.read (s:=St w []) h23 hb226
   obtain ⟨A267,n268,c269,rfl,h270,hk271⟩:=hK266
   refine wfv 3 rfl (Yv7 (s:=St w []) Yxh rfl rfl h23 hb226) gn hns rfl<|wfv 4 rfl (Yvo Yw1 rfl) gn hns rfl<|wfv 5 rfl (Yvj (kk:=(x130:Int).toNat * 2) (j:=1) (St w []) Yyc rfl hr264 rfl (me 1 rfl)) gn hns rfl<|wfv 6 rfl (Yub Yvf rfl) gn hns rfl<|wfv 7 rfl (Yue 0 Ywb rfl rfl rfl) gn hns rfl<|wfv 8 rfl (Yu3 rfl) gn hns rfl ?_
   obtain ⟨ce273,hK274,hr272⟩:=Rw.read (s:=St w []) h23 hb226
   obtain ⟨A275,n276,c277,rfl,h278,hk279⟩:=hK274
   refine wfv 9 rfl (Yv7 (s:=St w []) Yxh rfl rfl h23 hb226) gn hns rfl<|wfv 10 rfl (Yvo Yw1 rfl) gn hns rfl<|wfv 11 rfl (Yvj (kk:=(x130:Int).toNat * 2) (j:=1) (St w []) Yyc rfl hr272 rfl (me 1 rfl)) gn hns rfl<|wfv 12 rfl (Yuo Za5 rfl (Rw.pre h278 hk279).hq) gn hns rfl<|wfv 13 rfl (Yug rfl rfl rfl) gn hns rfl ?_
   have hle280:(w64 ((((((ix (x20.take k21) x130).1).rhs).take ((ix (x20.take k21) x130).2)).length:Int) + 2):Int).toNat≤n268:=by have q:=hb243; have q1:=h270.hq; omega
   have h281:=Rw.pre h270 hle280
   refine wfv 14 rfl (Zf5 (i:=w64 ((((((ix (x20.take k21) x130).1).rhs).take ((ix (x20.take k21) x130).2)).length:Int) + 2)) Yz5 rfl rfl (by have q:=hb243; have q1:=h270.hq; have q2:=h270.hn; omega) (Rw.pre h270 hk271).hn rfl) gn hns rfl<|wfv 15 rfl (Yu7 rfl) gn hns rfl<|Yvx (by kernel_rfl)<|Yu9 rfl<|Yu4 rfl rfl<|Yu2 0 rfl (Yu3 rfl) gn rfl<|Yu2 1 rfl (Yu3 rfl) gn rfl<|Yu2 2 rfl (Yuo Za5 rfl h281.hq) gn rfl<|Yu2 3 rfl (Yug rfl rfl rfl) gn rfl ?_
   obtain ⟨hb282,h⟩:=h
   have hr283:=Rw.readF (s:=St w []) (hl:=Yvw) (h1:=Yvy) h281 hb282
   refine Yu2 4 rfl (Yv7 (s:=St w []) Yz5 rfl rfl h281 hb282) gn rfl<|Yu2 5 rfl (Yvo Yyd rfl) gn rfl<|Yu2 6 rfl (Yvj (kk:=(w64 ((((((ix (x20.take k21) x130).1).rhs).take ((w64 ((((((ix (x20.take k21) x130).1).rhs).take ((ix (x20.take k21) x130).2)).length:Int) + 2):Int).toNat)).length:Int) - 2):Int).toNat * 3) (j:=0) (St w []) Yvt rfl hr283 rfl (me 1 rfl)) gn rfl<|Yu2 7 rfl (Yug rfl rfl rfl) gn rfl<|Yu2 8 rfl (Yu3 rfl) gn rfl ?_
   by_cases hp284:(ix ((((ix (x20.take k21) x130).1).rhs).take ((w64 ((((((ix (x20.take k21) x130).1).rhs).take ((ix (x20.take k21) x130).2)).length:Int) + 2):Int).toNat)) (w64 ((((((ix (x20.take k21) x130).1).rhs).take ((w64 ((((((ix (x20.take k21) x130).1).rhs).take ((ix (x20.take k21) x130).2)).length:Int) + 2):Int).toNat)).length:Int) - 2))).sym = -73
   ·have h:=Yul hp284 h
    refine Yvi 59 rfl ((Zgg hp284))<|Yu2 9 rfl (Yu3 rfl) (gy 59 rfl rfl) rfl<|Yu2 10 rfl (Yu3 rfl) (gy 59 rfl rfl) rfl<|Yu2 11 rfl (Yuo Za5 rfl h281.hq) (gy 59 rfl rfl) rfl<|Yu2 12 rfl (Yug rfl rfl rfl) (gy 59 rfl rfl) rfl ?_
    obtain ⟨hb285,h⟩:=h
    have hr286:=Rw.readF (s:=St w []) (hl:=Yvw) (h1:=Yvy) h281 hb285
    refine Yu2 13 rfl (Yv7 (s:=St w []) Yz5 rfl rfl h281 hb285) (gy 59 rfl rfl) rfl<|Yu2 14 rfl (Yvo Yyd rfl) (gy 59 rfl rfl) rfl<|Yu2 15 rfl (Yvj (kk:=(w64 ((((((ix (x20.take k21) x130).1).rhs).take ((w64 ((((((ix (x20.take k21) x130).1).rhs).take ((ix (x20.take k21) x130).2)).length:Int) + 2):Int).toNat)).length:Int) - 1):Int).toNat * 3) (j:=0) (St w []) Yvt rfl hr286 rfl (me 1 rfl)) (gy 59 rfl rfl) rfl<|Yu2 16 rfl (Yug rfl rfl rfl) (gy 59 rfl rfl) rfl<|Yu2 17 rfl (Yuk (b:=false) rfl rfl) gn rfl<|Yua 18 rfl ?_
    by_cases hp287:(ix ((((ix (x20.take k21) x130).1).rhs).take ((w64 ((((((ix (x20.take k21) x130).1).rhs).take ((ix (x20.take k21) x130).2)).length:Int) + 2):Int).toNat)) (w64 ((((((ix (x20.take k21) x130).1).rhs).take ((w64 ((((((ix (x20.take k21) x130).1).rhs).take ((ix (x20.take k21) x130).2)).length:Int) + 2):Int).toNat)).length:Int) - 1))).sym = -74
    ·have h:=Yul hp287 h
     refine Yur rfl _ rfl ((Zgg hp287))<|Yv2 rfl<|Yux<|Yu4 rfl rfl<|Yu2 0 rfl (Yu3 rfl) gn rfl<|Yu2 1 rfl (Yug rfl rfl rfl) gn rfl<|Yu2 2 rfl (Yu7 rfl) gn rfl<|Yua 3 rfl<|Yv1 ?_
     have ih:=Out.inl hO1 h
     exact Yvh [0,1] (ih ()) ⟨rfl,rfl,rfl,rfl,rfl,trivial⟩ (.cons_cons _ (.slnil)) rfl
    ·have h:=Yum hp287 h
     refine Yv4 rfl _ rfl ((Zkm hp287))<|Yu9 rfl<|Yu4 rfl rfl<|Yu2 0 rfl (Yu7 rfl) gn rfl<|Yua 1 rfl ?_
     have h:=Out.inr hO1 h
     refine Yvb [.bool false] rfl Tryd.func33 rfl (.tmp rfl (.nil)) fun wr hLr=>?_
     have hMr:=hLr.pk0 (.c 1 rfl .n)
     show Ywz w F  r (.returned (Yvl [.bool false])) wr
     rw [h]
     exact ⟨rfl,hMr⟩
   ·have h:=Yum hp284 h
    refine Yvi 59 rfl ((Zkm hp284))<|Yu6 9 rfl (ps 59 rfl rfl rfl)<|Yu6 10 rfl (ps 59 rfl rfl rfl)<|Yu6 11 rfl (ps 59 rfl rfl rfl)<|Yu6 12 rfl (ps 59 rfl rfl rfl)<|Yu6 13 rfl (ps 59 rfl rfl rfl)<|Yu6 14 rfl (ps 59 rfl rfl rfl)<|Yu6 15 rfl (ps 59 rfl rfl rfl)<|Yu6 16 rfl (ps 59 rfl rfl rfl)<|Yu2 17 rfl (Yuk (b:=true) rfl rfl) gn rfl<|Yua 18 rfl<|Yv4 rfl _ rfl (rfl) ?_
    refine Yu9 rfl<|Yu4 rfl rfl<|Yu2 0 rfl (Yu7 rfl) gn rfl<|Yua 1 rfl ?_
    have h:=Out.inr hO1 h
    refine Yvb [.bool false] rfl Tryd.func33 rfl (.tmp rfl (.nil)) fun wr hLr=>?_
    have hMr:=hLr.pk0 (.c 1 rfl .n)
    show Ywz w F  r (.returned (Yvl [.bool false])) wr
    rw [h]
    exact ⟨rfl,hMr⟩
  ·have h:=Yum hp225 h
   refine Yur rfl _ rfl ((decide_eq_false hp225))<|Ywa [.code Zq2] rfl rfl<|Yu9 rfl<|Yu4 rfl rfl<|Yu2 0 rfl (Yu3 rfl) gn rfl<|Yu2 1 rfl (Yu3 rfl) gn rfl<|Yu2 2 rfl (Yuo Yze rfl h28.hq) gn rfl<|Yu2 3 rfl (Yug rfl rfl rfl) gn rfl ?_
   obtain ⟨hb288,h⟩:=h
   have hr289:=Rw.readF (s:=St w []) (hl:=Zaz) (h1:=Zb1) h28 hb288
   refine Yu2 4 rfl (Yv7 (s:=St w []) Zls rfl rfl h28 hb288) gn rfl<|Yu2 5 rfl (Yvo Zsq rfl) gn rfl<|Yu2 6 rfl (Yvj (kk:=(w64 (((x1.terms.take ((w64 (((x1.terms.take k6).length:Int) + 2):Int).toNat)).length:Int) - 2):Int).toNat * 2) (j:=0) (St w []) ld_9 rfl hr289 rfl (me 1 rfl)) gn rfl<|Yu2 7 rfl (v_eqS rfl rfl) gn rfl<|Yu2 8 rfl (Yu3 rfl) gn rfl ?_
   by_cases hp290:(ix (x1.terms.take ((w64 (((x1.terms.take k6).length:Int) + 2):Int).toNat)) (w64 (((x1.terms.take ((w64 (((x1.terms.take k6).length:Int) + 2):Int).toNat)).length:Int) - 2))).name=(⟨#[109,97,114,107]⟩:ByteArray)
   ·have h:=Yul hp290 h
    refine Yvi 77 rfl ((Zrc hp290))<|Yu2 9 rfl (Yu3 rfl) (gy 77 rfl rfl) rfl<|Yu2 10 rfl (Yu3 rfl) (gy 77 rfl rfl) rfl<|Yu2 11 rfl (Yuo Yze rfl h28.hq) (gy 77 rfl rfl) rfl<|Yu2 12 rfl (Yug rfl rfl rfl) (gy 77 rfl rfl) rfl ?_
    obtain ⟨hb291,h⟩:=h
    have hr292:=Rw.readF (s:=St w []) (hl:=Zaz) (h1:=Zb1) h28 hb291
    refine Yu2 13 rfl (Yv7 (s:=St w []) Zls rfl rfl h28 hb291) (gy 77 rfl rfl) rfl<|Yu2 14 rfl (Yvo Zsq rfl) (gy 77 rfl rfl) rfl<|Yu2 15 rfl (Yvj (kk:=(w64 (((x1.terms.take ((w64 (((x1.terms.take k6).length:Int) + 2):Int).toNat)).length:Int) - 1):Int).toNat * 2) (j:=0) (St w []) ld_9 rfl hr292 rfl (me 1 rfl)) (gy 77 rfl rfl) rfl<|Yu2 16 rfl (v_eqS rfl rfl) (gy 77 rfl rfl) rfl<|Yu2 17 rfl (Yuk (b:=true) rfl rfl) gn rfl<|Yu2 18 rfl (Yu3 rfl) gn rfl ?_
    by_cases hp293:(ix (x1.terms.take ((w64 (((x1.terms.take k6).length:Int) + 2):Int).toNat)) (w64 (((x1.terms.take ((w64 (((x1.terms.take k6).length:Int) + 2):Int).toNat)).length:Int) - 1))).name=(⟨#[109,97,114,107]⟩:ByteArray)
    ·have h:=Yul hp293 h
     refine Yvi 87 rfl ((Zrc hp293))<|Yu2 19 rfl (Yu3 rfl) (gy 87 rfl rfl) rfl<|Yu2 20 rfl (Yu3 rfl) (gy 87 rfl rfl) rfl<|Yu2 21 rfl (Yuo Zbm rfl h31.hq) (gy 87 rfl rfl) rfl<|Yu2 22 rfl (Yug rfl rfl rfl) (gy 87 rfl rfl) rfl ?_
     obtain ⟨hb294,h⟩:=h
     have hr295:=Rw.readF (s:=St w []) (hl:=Zeh) (h1:=Zef) h31 hb294
     refine Yu2 23 rfl (Yv7 (s:=St w []) Zlk rfl rfl h31 hb294) (gy 87 rfl rfl) rfl<|Yu2 24 rfl (Yvo Zsr rfl) (gy 87 rfl rfl) rfl<|Yu2 25 rfl (Yvj (kk:=(w64 (((x1.syms.take ((w64 (((x1.syms.take k13).length:Int) + 2):Int).toNat)).length:Int) - 2):Int).toNat * 2) (j:=0) (St w []) ld_9 rfl hr295 rfl (me 1 rfl)) (gy 87 rfl rfl) rfl<|Yu2 26 rfl (v_eqS rfl rfl) (gy 87 rfl rfl) rfl<|Yu2 27 rfl (Yuk (b:=true) rfl rfl) gn rfl<|Yu2 28 rfl (Yu3 rfl) gn rfl ?_
     by_cases hp296:(ix (x1.syms.take ((w64 (((x1.syms.take k13).length:Int) + 2):Int).toNat)) (w64 (((x1.syms.take ((w64 (((x1.syms.take k13).length:Int) + 2):Int).toNat)).length:Int) - 2))).name=(⟨#[109,97,114,107]⟩:ByteArray)
     ·have h:=Yul hp296 h
      refine Yvi 97 rfl ((Zrc hp296))<|Yu2 29 rfl (Yu3 rfl) (gy 97 rfl rfl) rfl<|Yu2 30 rfl (Yu3 rfl) (gy 97 rfl rfl) rfl<|Yu2 31 rfl (Yuo Zbm rfl h31.hq) (gy 97 rfl rfl) rfl<|Yu2 32 rfl (Yug rfl rfl rfl) (gy 97 rfl rfl) rfl ?_
      obtain ⟨hb297,h⟩:=h
      have hr298:=Rw.readF (s:=St w []) (hl:=Zeh) (h1:=Zef) h31 hb297
      refine Yu2 33 rfl (Yv7 (s:=St w []) Zlk rfl rfl h31 hb297) (gy 97 rfl rfl) rfl<|Yu2 34 rfl (Yvo Zsr rfl) (gy 97 rfl rfl) rfl<|Yu2 35 rfl (Yvj (kk:=(w64 (((x1.syms.take ((w64 (((x1.syms.take k13).length:Int) + 2):Int).toNat)).length:Int) - 1):Int).toNat * 2) (j:=0) (St w []) ld_9 rfl hr298 rfl (me 1 rfl)) (gy 97 rfl rfl) rfl<|Yu2 36 rfl (v_eqS rfl rfl) (gy 97 rfl rfl) rfl<|Yu2 37 rfl (Yuk (b:=true) rfl rfl) gn rfl<|Yu2 38 rfl (Yu3 rfl) gn rfl ?_
      by_cases hp299:(ix (x1.syms.take ((w64 (((x1.syms.take k13).length:Int) + 2):Int).toNat)) (w64 (((x1.syms.take ((w64 (((x1.syms.take k13).length:Int) + 2):Int).toNat)).length:Int) - 1))).name=(⟨#[109,97,114,107]⟩:ByteArray)
      ·have h:=Yul hp299 h
       refine Yvi 107 rfl ((Zrc hp299))<|Yu2 39 rfl (Yu3 rfl) (gy 107 rfl rfl) rfl<|Yu2 40 rfl (Yu3 rfl) (gy 107 rfl rfl) rfl<|Yu2 41 rfl (Yuo Za3 rfl h34.hq) (gy 107 rfl rfl) rfl<|Yu2 42 rfl (Yug rfl rfl rfl) (gy 107 rfl rfl) rfl ?_
       obtain ⟨hb300,h⟩:=h
       obtain ⟨ce302,hK303,hr301⟩:=Rw.read (s:=St w []) h34 hb300
       obtain ⟨A304,n305,c306,rfl,h307,hk308⟩:=hK303
       refine Yu2 43 rfl (Yv7 (s:=St w []) Yxh rfl rfl h34 hb300) (gy 107 rfl rfl) rfl<|Yu2 44 rfl (Yvo Yx3 rfl) (gy 107 rfl rfl) rfl<|Yu2 45 rfl (Yvj (kk:=(w64 (((x20.take ((w64 (((x20.take k21).length:Int) + 2):Int).toNat)).length:Int) - 2):Int).toNat * 2) (j:=0) (St w []) Yvt rfl hr301 rfl (me 1 rfl)) (gy 107 rfl rfl) rfl<|Yu2 46 rfl (Yug rfl rfl rfl) (gy 107 rfl rfl) rfl<|Yu2 47 rfl (Yuk (b:=true) rfl rfl) gn rfl<|Yu2 48 rfl (Yu3 rfl) gn rfl ?_
       by_cases hp309:((ix (x20.take ((w64 (((x20.take k21).length:Int) + 2):Int).toNat)) (w64 (((x20.take ((w64 (((x20.take k21).length:Int) + 2):Int).toNat)).length:Int) - 2))).1).lhs = -71
       ·have h:=Yul hp309 h
        refine Yvi 117 rfl ((eqi hp309))<|Yu2 49 rfl (Yu3 rfl) (gy 117 rfl rfl) rfl<|Yu2 50 rfl (Yu3 rfl) (gy 117 rfl rfl) rfl<|Yu2 51 rfl (Yuo Za3 rfl h34.hq) (gy 117 rfl rfl) rfl<|Yu2 52 rfl (Yug rfl rfl rfl) (gy 117 rfl rfl) rfl ?_
        obtain ⟨hb310,h⟩:=h
        obtain ⟨ce312,hK313,hr311⟩:=Rw.read (s:=St w []) h34 hb310
        obtain ⟨A314,n315,c316,rfl,h317,hk318⟩:=hK313
        refine Yu2 53 rfl (Yv7 (s:=St w []) Yxh rfl rfl h34 hb310) (gy 117 rfl rfl) rfl<|Yu2 54 rfl (Yvo Yx3 rfl) (gy 117 rfl rfl) rfl<|Yu2 55 rfl (Yvj (kk:=(w64 (((x20.take ((w64 (((x20.take k21).length:Int) + 2):Int).toNat)).length:Int) - 1):Int).toNat * 2) (j:=0) (St w []) Yvt rfl hr311 rfl (me 1 rfl)) (gy 117 rfl rfl) rfl<|Yu2 56 rfl (Yug rfl rfl rfl) (gy 117 rfl rfl) rfl<|Yu2 57 rfl (Yuk (b:=true) rfl rfl) gn rfl<|Yu2 58 rfl (Yu7 rfl) gn rfl<|Yua 59 rfl ?_
        have h:=Out.inr hO1 h
        refine Yvb [.bool ((((ix (x20.take ((w64 (((x20.take k21).length:Int) + 2):Int).toNat)) (w64 (((x20.take ((w64 (((x20.take k21).length:Int) + 2):Int).toNat)).length:Int) - 1))).1).lhs) == (-72))] rfl Tryd.func33 rfl (.tmp rfl (.nil)) fun wr hLr=>?_
        have hMr:=hLr.pk0 (.c 1 rfl .n)
        show Ywz w F  r (.returned (Yvl [.bool ((((ix (x20.take ((w64 (((x20.take k21).length:Int) + 2):Int).toNat)) (w64 (((x20.take ((w64 (((x20.take k21).length:Int) + 2):Int).toNat)).length:Int) - 1))).1).lhs) == (-72))])) wr
        rw [h]
        exact ⟨rfl,hMr⟩
       ·have h:=Yum hp309 h
        refine Yvi 117 rfl ((nei hp309))<|Yu6 49 rfl (ps 117 rfl rfl rfl)<|Yu6 50 rfl (ps 117 rfl rfl rfl)<|Yu6 51 rfl (ps 117 rfl rfl rfl)<|Yu6 52 rfl (ps 117 rfl rfl rfl)<|Yu6 53 rfl (ps 117 rfl rfl rfl)<|Yu6 54 rfl (ps 117 rfl rfl rfl)<|Yu6 55 rfl (ps 117 rfl rfl rfl)<|Yu6 56 rfl (ps 117 rfl rfl rfl)<|Yu2 57 rfl (Yuk (b:=false) rfl rfl) gn rfl<|Yu2 58 rfl (Yu7 rfl) gn rfl<|Yua 59 rfl ?_
        have h:=Out.inr hO1 h
        refine Yvb [.bool false] rfl Tryd.func33 rfl (.tmp rfl (.nil)) fun wr hLr=>?_
        have hMr:=hLr.pk0 (.c 1 rfl .n)
        show Ywz w F  r (.returned (Yvl [.bool false])) wr
        rw [h]
        exact ⟨rfl,hMr⟩
      ·have h:=Yum hp299 h
       refine Yvi 107 rfl ((Zr2 hp299))<|Yu6 39 rfl (ps 107 rfl rfl rfl)<|Yu6 40 rfl (ps 107 rfl rfl rfl)<|Yu6 41 rfl (ps 107 rfl rfl rfl)<|Yu6 42 rfl (ps 107 rfl rfl rfl)<|Yu6 43 rfl (ps 107 rfl rfl rfl)<|Yu6 44 rfl (ps 107 rfl rfl rfl)<|Yu6 45 rfl (ps 107 rfl rfl rfl)<|Yu6 46 rfl (ps 107 rfl rfl rfl)<|Yu2 47 rfl (Yuk (b:=false) rfl rfl) gn rfl<|Yu2 48 rfl (Yu3 rfl) gn rfl<|Yu6 49 rfl (ps 117 rfl rfl rfl) ?_
       refine Yu6 50 rfl (ps 117 rfl rfl rfl)<|Yu6 51 rfl (ps 117 rfl rfl rfl)<|Yu6 52 rfl (ps 117 rfl rfl rfl)<|Yu6 53 rfl (ps 117 rfl rfl rfl)<|Yu6 54 rfl (ps 117 rfl rfl rfl)<|Yu6 55 rfl (ps 117 rfl rfl rfl)<|Yu6 56 rfl (ps 117 rfl rfl rfl)<|Yu2 57 rfl (Yuk (b:=false) rfl rfl) gn rfl<|Yu2 58 rfl (Yu7 rfl) gn rfl<|Yua 59 rfl ?_
       have h:=Out.inr hO1 h
       refine Yvb [.bool false] rfl Tryd.func33 rfl (.tmp rfl (.nil)) fun wr hLr=>?_
       have hMr:=hLr.pk0 (.c 1 rfl .n)
       show Ywz w F  r (.returned (Yvl [.bool false])) wr
       rw [h]
       exact ⟨rfl,hMr⟩
     ·have h:=Yum hp296 h
      refine Yvi 97 rfl ((Zr2 hp296))<|Yu6 29 rfl (ps 97 rfl rfl rfl)<|Yu6 30 rfl (ps 97 rfl rfl rfl)<|Yu6 31 rfl (ps 97 rfl rfl rfl)<|Yu6 32 rfl (ps 97 rfl rfl rfl)<|Yu6 33 rfl (ps 97 rfl rfl rfl)<|Yu6 34 rfl (ps 97 rfl rfl rfl)<|Yu6 35 rfl (ps 97 rfl rfl rfl)<|Yu6 36 rfl (ps 97 rfl rfl rfl)<|Yu2 37 rfl (Yuk (b:=false) rfl rfl) gn rfl<|Yu2 38 rfl (Yu3 rfl) gn rfl<|Yu6 39 rfl (ps 107 rfl rfl rfl) ?_
      refine Yu6 40 rfl (ps 107 rfl rfl rfl)<|Yu6 41 rfl (ps 107 rfl rfl rfl)<|Yu6 42 rfl (ps 107 rfl rfl rfl)<|Yu6 43 rfl (ps 107 rfl rfl rfl)<|Yu6 44 rfl (ps 107 rfl rfl rfl)<|Yu6 45 rfl (ps 107 rfl rfl rfl)<|Yu6 46 rfl (ps 107 rfl rfl rfl)<|Yu2 47 rfl (Yuk (b:=false) rfl rfl) gn rfl<|Yu2 48 rfl (Yu3 rfl) gn rfl<|Yu6 49 rfl (ps 117 rfl rfl rfl)<|Yu6 50 rfl (ps 117 rfl rfl rfl)<|Yu6 51 rfl (ps 117 rfl rfl rfl) ?_
      refine Yu6 52 rfl (ps 117 rfl rfl rfl)<|Yu6 53 rfl (ps 117 rfl rfl rfl)<|Yu6 54 rfl (ps 117 rfl rfl rfl)<|Yu6 55 rfl (ps 117 rfl rfl rfl)<|Yu6 56 rfl (ps 117 rfl rfl rfl)<|Yu2 57 rfl (Yuk (b:=false) rfl rfl) gn rfl<|Yu2 58 rfl (Yu7 rfl) gn rfl<|Yua 59 rfl ?_
      have h:=Out.inr hO1 h
      refine Yvb [.bool false] rfl Tryd.func33 rfl (.tmp rfl (.nil)) fun wr hLr=>?_
      have hMr:=hLr.pk0 (.c 1 rfl .n)
      show Ywz w F  r (.returned (Yvl [.bool false])) wr
      rw [h]
      exact ⟨rfl,hMr⟩
    ·have h:=Yum hp293 h
     refine Yvi 87 rfl ((Zr2 hp293))<|Yu6 19 rfl (ps 87 rfl rfl rfl)<|Yu6 20 rfl (ps 87 rfl rfl rfl)<|Yu6 21 rfl (ps 87 rfl rfl rfl)<|Yu6 22 rfl (ps 87 rfl rfl rfl)<|Yu6 23 rfl (ps 87 rfl rfl rfl)<|Yu6 24 rfl (ps 87 rfl rfl rfl)<|Yu6 25 rfl (ps 87 rfl rfl rfl)<|Yu6 26 rfl (ps 87 rfl rfl rfl)<|Yu2 27 rfl (Yuk (b:=false) rfl rfl) gn rfl<|Yu2 28 rfl (Yu3 rfl) gn rfl<|Yu6 29 rfl (ps 97 rfl rfl rfl) ?_
     refine Yu6 30 rfl (ps 97 rfl rfl rfl)<|Yu6 31 rfl (ps 97 rfl rfl rfl)<|Yu6 32 rfl (ps 97 rfl rfl rfl)<|Yu6 33 rfl (ps 97 rfl rfl rfl)<|Yu6 34 rfl (ps 97 rfl rfl rfl)<|Yu6 35 rfl (ps 97 rfl rfl rfl)<|Yu6 36 rfl (ps 97 rfl rfl rfl)<|Yu2 37 rfl (Yuk (b:=false) rfl rfl) gn rfl<|Yu2 38 rfl (Yu3 rfl) gn rfl<|Yu6 39 rfl (ps 107 rfl rfl rfl)<|Yu6 40 rfl (ps 107 rfl rfl rfl)<|Yu6 41 rfl (ps 107 rfl rfl rfl) ?_
     refine Yu6 42 rfl (ps 107 rfl rfl rfl)<|Yu6 43 rfl (ps 107 rfl rfl rfl)<|Yu6 44 rfl (ps 107 rfl rfl rfl)<|Yu6 45 rfl (ps 107 rfl rfl rfl)<|Yu6 46 rfl (ps 107 rfl rfl rfl)<|Yu2 47 rfl (Yuk (b:=false) rfl rfl) gn rfl<|Yu2 48 rfl (Yu3 rfl) gn rfl<|Yu6 49 rfl (ps 117 rfl rfl rfl)<|Yu6 50 rfl (ps 117 rfl rfl rfl)<|Yu6 51 rfl (ps 117 rfl rfl rfl)<|Yu6 52 rfl (ps 117 rfl rfl rfl)<|Yu6 53 rfl (ps 117 rfl rfl rfl) ?_
     refine Yu6 54 rfl (ps 117 rfl rfl rfl)<|Yu6 55 rfl (ps 117 rfl rfl rfl)<|Yu6 56 rfl (ps 117 rfl rfl rfl)<|Yu2 57 rfl (Yuk (b:=false) rfl rfl) gn rfl<|Yu2 58 rfl (Yu7 rfl) gn rfl<|Yua 59 rfl ?_
     have h:=Out.inr hO1 h
     refine Yvb [.bool false] rfl Tryd.func33 rfl (.tmp rfl (.nil)) fun wr hLr=>?_
     have hMr:=hLr.pk0 (.c 1 rfl .n)
     show Ywz w F  r (.returned (Yvl [.bool false])) wr
     rw [h]
     exact ⟨rfl,hMr⟩
   ·have h:=Yum hp290 h
    refine Yvi 77 rfl ((Zr2 hp290))<|Yu6 9 rfl (ps 77 rfl rfl rfl)<|Yu6 10 rfl (ps 77 rfl rfl rfl)<|Yu6 11 rfl (ps 77 rfl rfl rfl)<|Yu6 12 rfl (ps 77 rfl rfl rfl)<|Yu6 13 rfl (ps 77 rfl rfl rfl)<|Yu6 14 rfl (ps 77 rfl rfl rfl)<|Yu6 15 rfl (ps 77 rfl rfl rfl)<|Yu6 16 rfl (ps 77 rfl rfl rfl)<|Yu2 17 rfl (Yuk (b:=false) rfl rfl) gn rfl<|Yu2 18 rfl (Yu3 rfl) gn rfl<|Yu6 19 rfl (ps 87 rfl rfl rfl) ?_
    refine Yu6 20 rfl (ps 87 rfl rfl rfl)<|Yu6 21 rfl (ps 87 rfl rfl rfl)<|Yu6 22 rfl (ps 87 rfl rfl rfl)<|Yu6 23 rfl (ps 87 rfl rfl rfl)<|Yu6 24 rfl (ps 87 rfl rfl rfl)<|Yu6 25 rfl (ps 87 rfl rfl rfl)<|Yu6 26 rfl (ps 87 rfl rfl rfl)<|Yu2 27 rfl (Yuk (b:=false) rfl rfl) gn rfl<|Yu2 28 rfl (Yu3 rfl) gn rfl<|Yu6 29 rfl (ps 97 rfl rfl rfl)<|Yu6 30 rfl (ps 97 rfl rfl rfl)<|Yu6 31 rfl (ps 97 rfl rfl rfl) ?_
    refine Yu6 32 rfl (ps 97 rfl rfl rfl)<|Yu6 33 rfl (ps 97 rfl rfl rfl)<|Yu6 34 rfl (ps 97 rfl rfl rfl)<|Yu6 35 rfl (ps 97 rfl rfl rfl)<|Yu6 36 rfl (ps 97 rfl rfl rfl)<|Yu2 37 rfl (Yuk (b:=false) rfl rfl) gn rfl<|Yu2 38 rfl (Yu3 rfl) gn rfl<|Yu6 39 rfl (ps 107 rfl rfl rfl)<|Yu6 40 rfl (ps 107 rfl rfl rfl)<|Yu6 41 rfl (ps 107 rfl rfl rfl)<|Yu6 42 rfl (ps 107 rfl rfl rfl)<|Yu6 43 rfl (ps 107 rfl rfl rfl) ?_
    refine Yu6 44 rfl (ps 107 rfl rfl rfl)<|Yu6 45 rfl (ps 107 rfl rfl rfl)<|Yu6 46 rfl (ps 107 rfl rfl rfl)<|Yu2 47 rfl (Yuk (b:=false) rfl rfl) gn rfl<|Yu2 48 rfl (Yu3 rfl) gn rfl<|Yu6 49 rfl (ps 117 rfl rfl rfl)<|Yu6 50 rfl (ps 117 rfl rfl rfl)<|Yu6 51 rfl (ps 117 rfl rfl rfl)<|Yu6 52 rfl (ps 117 rfl rfl rfl)<|Yu6 53 rfl (ps 117 rfl rfl rfl)<|Yu6 54 rfl (ps 117 rfl rfl rfl)<|Yu6 55 rfl (ps 117 rfl rfl rfl) ?_
    refine Yu6 56 rfl (ps 117 rfl rfl rfl)<|Yu2 57 rfl (Yuk (b:=false) rfl rfl) gn rfl<|Yu2 58 rfl (Yu7 rfl) gn rfl<|Yua 59 rfl ?_
    have h:=Out.inr hO1 h
    refine Yvb [.bool false] rfl Tryd.func33 rfl (.tmp rfl (.nil)) fun wr hLr=>?_
    have hMr:=hLr.pk0 (.c 1 rfl .n)
    show Ywz w F  r (.returned (Yvl [.bool false])) wr
    rw [h]
    exact ⟨rfl,hMr⟩
 exact Yvh [0,1] (key1 _ h ()) ⟨rfl,rfl,rfl,rfl,rfl,trivial⟩ (.cons_cons _ (.slnil)) rfl
abbrev Yx4 (w:World) (F:Nat→Prop) (r:Bool):Ending→World→Prop:=fun e w'=>e=.returned (.bool r)∧B.Loc w w' [] [St w []]
noncomputable abbrev Zij (w:World) (F:Nat→Prop) (r:Bool):Cx:=⟨Tryd.prog,11,Tryd.f11,84,Yx4 w F  r,w⟩
theorem Zds (w:World) (F:Nat→Prop) (x1:Yu5) (k6:Nat) (k13:Nat) (x20:List (Yuf × Nat)) (k21:Nat) (x24:List Yud) (k29:Nat) (x32:Yu5) (x45:List Yud) (x50:Int) (A2:Option Addr) (n3:Nat) (c4:Nat) (A9:Option Addr) (n10:Nat) (c11:Nat) (A16:Option Addr) (n17:Nat) (c18:Nat) (A25:Option Addr) (n26:Nat) (c27:Nat) (A33:Option Addr) (n34:Nat) (c35:Nat) (A37:Option Addr) (n38:Nat) (c39:Nat) (A41:Option Addr) (n42:Nat) (c43:Nat) (A46:Option Addr) (n47:Nat) (c48:Nat) (h5:Rw Yuj w (St w []).av A2 n3 c4 x1.terms) (hk7:k6≤n3) (h12:Rw Yuq w (St w []).av A9 n10 c11 x1.syms) (hk14:k13≤n10) (h19:Rw Zgr w (St w []).av A16 n17 c18 x20) (hk22:k21≤n17) (h28:Rw Yxu w (St w []).av A25 n26 c27 x24) (hk30:k29≤n26) (h36:Rw Yuj w (St w []).av A33 n34 c35 x32.terms) (h40:Rw Yuq w (St w []).av A37 n38 c39 x32.syms) (h44:Rw Yun w (St w []).av A41 n42 c43 x32.prods) (h49:Rw Yxu w (St w []).av A46 n47 c48 x45) (hG0:Tt .u8 Zmo 0 (St w [])) (hF:∀ b,F b→b < w.heap.size∧∀ o ∈ ([]:List (List Nat)),b ∉ o) (hL0:B.Loc w w [] [Sm w.heap.size F w [],St w []]) (r:Bool) (h:Yyv x1 k6 k13 x20 k21 x24 k29 x32 x45 x50 r):Calls Tryd.prog 11 #[.agg #[.slice A2 k6 c4,.slice A9 k13 c11,.slice A16 k21 c18],.slice A25 k29 c27,.agg #[.slice A33 n34 c35,.slice A37 n38 c39,.slice A41 n42 c43],.slice A46 n47 c48,.int .i64 x50] w (Yx4 w F  r):=by
 unfold Yyv at h
 have h8:=Rw.pre h5 hk7
 have h15:=Rw.pre h12 hk14
 have h23:=Rw.pre h19 hk22
 have h31:=Rw.pre h28 hk30
 refine Yv5 (vs:=[.agg #[.slice A2 k6 c4,.slice A9 k13 c11,.slice A16 k21 c18],.slice A25 k29 c27,.agg #[.slice A33 n34 c35,.slice A37 n38 c39,.slice A41 n42 c43],.slice A46 n47 c48,.int .i64 x50]) 84 Tryd.func11 rfl Tryd.ntmps11 rfl hL0 ?_
 show G (Zij w F r) _ _ _ _
 refine Yu9 rfl<|Yu4 rfl rfl ?_
 refine Yve 0 rfl (Zas [.slice A2 k6 c4,.slice A9 k13 c11,.slice A16 k21 c18] rfl rfl rfl fun gb51=>?_) gn
 refine Yve 1 rfl (Zas [.slice A33 n34 c35,.slice A37 n38 c39,.slice A41 n42 c43] rfl rfl rfl fun gb53=>?_) gn
 refine Yu2 2 rfl (Yu7 rfl) gn rfl<|Yua 3 rfl<|Yu9 rfl<|Yu4 rfl rfl<|Yu2 0 rfl (Yyr [.slice A33 n34 c35,.slice A37 n38 c39,.slice A41 n42 c43] 0 Yys rfl rfl rfl rfl) gn rfl<|Yu2 1 rfl (Yu3 rfl) gn rfl ?_
 obtain ⟨r58,hv59,h⟩:=h
 refine Yve 2 rfl (Yvz [.agg #[.slice A33 n34 c35,.slice A37 n38 c39,.slice A41 n42 c43],.slice A46 n47 c48] rfl Tryd.func30 rfl rfl rfl fun w55 hL56=>?_) gn
 have hp57:=pmI hL56 .n (.c 0 rfl (.c 1 rfl .n)) (by kernel_rfl)
 refine Calls.mono (Zga w55 (Fl ([]:List Yva)) x32 x45 A33 n34 c35 A37 n38 c39 A41 n42 c43 A46 n47 c48 (Rw.mono h36 (hL56.toSt hp57 (me 1 rfl))) (Rw.mono h40 (hL56.toSt hp57 (me 1 rfl))) (Rw.mono h44 (hL56.toSt hp57 (me 1 rfl))) (Rw.mono h49 (hL56.toSt hp57 (me 1 rfl))) (hL56.hFl hp57 (Yvm [] rfl)) (hL56.into hp57 _) r58 hv59) ?_
 rintro _ w65 ⟨A60,n61,c62,rfl,hM66,h63⟩
 have hL67:=hL56.call hp57 hM66
 refine ⟨_,_,_,rfl,hL67,?_⟩
 refine Yu2 3 rfl (Yu7 rfl) gn rfl<|Yua 4 rfl<|Yu9 rfl<|Yu4 rfl rfl<|Yu2 0 rfl (Yyr [.slice A33 n34 c35,.slice A37 n38 c39,.slice A41 n42 c43] 1 Yys rfl rfl rfl rfl) gn rfl<|Yu2 1 rfl (Yu3 rfl) gn rfl<|Yu2 2 rfl (Yu3 rfl) gn rfl ?_
 obtain ⟨r71,hv72,h⟩:=h
 refine Yve 3 rfl (Yvz [.agg #[.slice A33 n34 c35,.slice A37 n38 c39,.slice A41 n42 c43],.slice A46 n47 c48,.int .i64 x50] rfl Tryd.func31 rfl rfl rfl fun w68 hL69=>?_) gn
 have hp70:=pmI hL69 .n (.c 0 rfl (.c 1 rfl (.c 2 rfl .n))) (by kernel_rfl)
 refine Calls.mono (Zhh w68 (Fl ([]:List Yva)) x32 x45 x50 A33 n34 c35 A37 n38 c39 A41 n42 c43 A46 n47 c48 (Rw.mono h36 (hL69.toSt hp70 (me 1 rfl))) (Rw.mono h40 (hL69.toSt hp70 (me 1 rfl))) (Rw.mono h44 (hL69.toSt hp70 (me 1 rfl))) (Rw.mono h49 (hL69.toSt hp70 (me 1 rfl))) (hL69.hFl hp70 (Yvm [] rfl)) (hL69.into hp70 _) r71 hv72) ?_
 rintro _ w78 ⟨A73,n74,c75,rfl,hM79,h76⟩
 have hL80:=hL69.call hp70 hM79
 refine ⟨_,_,_,rfl,hL80,?_⟩
 refine Yu2 4 rfl (Yu7 rfl) gn rfl<|Yua 5 rfl<|Yu9 rfl<|Yu4 rfl rfl<|Yu2 0 rfl (Yyr [.slice A2 k6 c4,.slice A9 k13 c11,.slice A16 k21 c18] 3 Yys rfl rfl rfl rfl) gn rfl<|Yu2 1 rfl (Yu3 rfl) gn rfl ?_
 obtain ⟨r84,hv85,h⟩:=h
 refine Yve 2 rfl (Yvz [.agg #[.slice A2 k6 c4,.slice A9 k13 c11,.slice A16 k21 c18],.slice A25 k29 c27] rfl Tryd.func16 rfl rfl rfl fun w81 hL82=>?_) gn
 have hp83:=pmI hL82 .n (.c 0 rfl (.c 1 rfl (.c 2 rfl (.c 3 rfl .n)))) (by kernel_rfl)
 refine Calls.mono (Zjp w81 (Fl ([]:List Yva)) (⟨(x1.terms.take k6),(x1.syms.take k13),((x20.take k21).map Zbe)⟩:Yu5) (x24.take k29) A2 k6 c4 A9 k13 c11 A16 k21 c18 A25 k29 c27 (Rw.mono h8 (hL82.toSt hp83 (me 1 rfl))) (Rw.mono h15 (hL82.toSt hp83 (me 1 rfl))) (Rw.vis (dk:=Zgr) (dk2:=Yun) Zbe rfl (fun x cs=>by rintro ⟨A,n,c,rfl,h,k⟩; exact ⟨A,_,c,rfl,Rw.pre h k⟩) (Rw.mono h23 (hL82.toSt hp83 (me 1 rfl)))) (Rw.mono h31 (hL82.toSt hp83 (me 1 rfl))) (hL82.tt hp83 hG0 (me 1 rfl)) (hL82.hFl hp83 (Yvm [] rfl)) (hL82.into hp83 _) r84 hv85) ?_
 rintro _ w91 ⟨A86,n87,c88,rfl,hM92,h89⟩
 have hL93:=hL82.call hp83 hM92
 refine ⟨_,_,_,rfl,hL93,?_⟩
 refine Yu2 3 rfl (Yu7 rfl) gn rfl<|Yua 4 rfl<|Yu9 rfl<|Yu4 rfl rfl<|Yu2 0 rfl (Yyr [.slice A2 k6 c4,.slice A9 k13 c11,.slice A16 k21 c18] 4 Yys rfl rfl rfl rfl) gn rfl<|Yu2 1 rfl (Yu3 rfl) gn rfl<|Yu2 2 rfl (Yu3 rfl) gn rfl ?_
 obtain ⟨r97,hv98,h⟩:=h
 refine Yve 3 rfl (Yvz [.agg #[.slice A2 k6 c4,.slice A9 k13 c11,.slice A16 k21 c18],.slice A25 k29 c27,.int .i64 x50] rfl Tryd.func21 rfl rfl rfl fun w94 hL95=>?_) gn
 have hp96:=pmI hL95 .n (.c 0 rfl (.c 1 rfl (.c 2 rfl (.c 3 rfl (.c 4 rfl .n))))) (by kernel_rfl)
 refine Calls.mono (Zll w94 (Fl ([]:List Yva)) (⟨(x1.terms.take k6),(x1.syms.take k13),((x20.take k21).map Zbe)⟩:Yu5) (x24.take k29) x50 A2 k6 c4 A9 k13 c11 A16 k21 c18 A25 k29 c27 (Rw.mono h8 (hL95.toSt hp96 (me 1 rfl))) (Rw.mono h15 (hL95.toSt hp96 (me 1 rfl))) (Rw.vis (dk:=Zgr) (dk2:=Yun) Zbe rfl (fun x cs=>by rintro ⟨A,n,c,rfl,h,k⟩; exact ⟨A,_,c,rfl,Rw.pre h k⟩) (Rw.mono h23 (hL95.toSt hp96 (me 1 rfl)))) (Rw.mono h31 (hL95.toSt hp96 (me 1 rfl))) (hL95.tt hp96 hG0 (me 1 rfl)) (hL95.hFl hp96 (Yvm [] rfl)) (hL95.into hp96 _) r97 hv98) ?_
 rintro _ w104 ⟨A99,n100,c101,rfl,hM105,h102⟩
 have hL106:=hL95.call hp96 hM105
 refine ⟨_,_,_,rfl,hL106,?_⟩
 refine Yu2 4 rfl (Yu7 rfl) gn rfl<|Yua 5 rfl<|Yu9 rfl<|Yu4 rfl rfl<|Yu2 0 rfl (Yu3 rfl) gn rfl<|Yu2 1 rfl (Yu3 rfl) gn rfl ?_
 obtain ⟨r110,hv111,h⟩:=h
 refine Yve 2 rfl (Yvz [.slice A86 n87 c88,.slice A60 n61 c62] rfl Tryd.func17 rfl rfl rfl fun w107 hL108=>?_) gn
 have hp109:=pmI hL108 .n (.c 0 rfl (.c 1 rfl (.c 2 rfl (.c 3 rfl (.c 4 rfl (.c 5 rfl .n)))))) (by kernel_rfl)
 refine Calls.mono (Zc1 w107 (Fl ([]:List Yva)) r84 r58 A86 n87 c88 A60 n61 c62 (hL108.argO (dk:=Yxu) hp109 [] rfl 1 rfl rfl (Ow.weak hL82.env.size h89) (me 0 rfl) (Cells.flat _)) (hL108.argO (dk:=Yxu) hp109 [] rfl 3 rfl rfl (Ow.weak hL56.env.size h63) (me 0 rfl) (Cells.flat _)) (hL108.hFl hp109 (Yvm [] rfl)) (hL108.into hp109 _) r110 hv111) ?_
 rintro _ w112 ⟨rfl,hM113⟩
 have hL114:=hL108.call hp109 hM113
 refine ⟨_,_,_,rfl,hL114,?_⟩
 refine Yu2 3 rfl (Yu7 rfl) gn rfl<|Yua 4 rfl<|Yu9 rfl<|Yu4 rfl rfl<|Yu2 0 rfl (Yu3 rfl) gn rfl<|Yu2 1 rfl (Yu3 rfl) gn rfl ?_
 obtain ⟨r118,hv119,h⟩:=h
 refine Yve 2 rfl (Yvz [.slice A99 n100 c101,.slice A73 n74 c75] rfl Tryd.func17 rfl rfl rfl fun w115 hL116=>?_) gn
 have hp117:=pmI hL116 .n (.c 0 rfl (.c 1 rfl (.c 2 rfl (.c 3 rfl (.c 4 rfl (.c 5 rfl .n)))))) (by kernel_rfl)
 refine Calls.mono (Zc1 w115 (Fl ([]:List Yva)) r97 r71 A99 n100 c101 A73 n74 c75 (hL116.argO (dk:=Yxu) hp117 [] rfl 0 rfl rfl (Ow.weak hL95.env.size h102) (me 0 rfl) (Cells.flat _)) (hL116.argO (dk:=Yxu) hp117 [] rfl 2 rfl rfl (Ow.weak hL69.env.size h76) (me 0 rfl) (Cells.flat _)) (hL116.hFl hp117 (Yvm [] rfl)) (hL116.into hp117 _) r118 hv119) ?_
 rintro _ w120 ⟨rfl,hM121⟩
 have hL122:=hL116.call hp117 hM121
 refine ⟨_,_,_,rfl,hL122,?_⟩
 refine Yu2 3 rfl (Yu7 rfl) gn rfl<|Yua 4 rfl<|Yu9 rfl<|Yu4 rfl rfl<|Yu2 0 rfl (Yyr [.slice A33 n34 c35,.slice A37 n38 c39,.slice A41 n42 c43] 4 Yys rfl rfl rfl rfl) gn rfl<|Yu2 1 rfl (Yyr [.slice A2 k6 c4,.slice A9 k13 c11,.slice A16 k21 c18] 5 Yys rfl rfl rfl rfl) gn rfl ?_
 obtain ⟨r126,hv127,h⟩:=h
 refine Yve 2 rfl (Yvz [.agg #[.slice A33 n34 c35,.slice A37 n38 c39,.slice A41 n42 c43],.agg #[.slice A2 k6 c4,.slice A9 k13 c11,.slice A16 k21 c18]] rfl Tryd.func32 rfl rfl rfl fun w123 hL124=>?_) gn
 have hp125:=pmI hL124 .n (.c 0 rfl (.c 1 rfl (.c 2 rfl (.c 3 rfl (.c 4 rfl (.c 5 rfl .n)))))) (by kernel_rfl)
 refine Calls.mono (Zh5 w123 (Fl ([]:List Yva)) x32 (⟨(x1.terms.take k6),(x1.syms.take k13),((x20.take k21).map Zbe)⟩:Yu5) A33 n34 c35 A37 n38 c39 A41 n42 c43 A2 k6 c4 A9 k13 c11 A16 k21 c18 (Rw.mono h36 (hL124.toSt hp125 (me 1 rfl))) (Rw.mono h40 (hL124.toSt hp125 (me 1 rfl))) (Rw.mono h44 (hL124.toSt hp125 (me 1 rfl))) (Rw.mono h8 (hL124.toSt hp125 (me 1 rfl))) (Rw.mono h15 (hL124.toSt hp125 (me 1 rfl))) (Rw.vis (dk:=Zgr) (dk2:=Yun) Zbe rfl (fun x cs=>by rintro ⟨A,n,c,rfl,h,k⟩; exact ⟨A,_,c,rfl,Rw.pre h k⟩) (Rw.mono h23 (hL124.toSt hp125 (me 1 rfl)))) (hL124.hFl hp125 (Yvm [] rfl)) (hL124.into hp125 _) r126 hv127) ?_
 rintro _ w128 ⟨rfl,hM129⟩
 have hL130:=hL124.call hp125 hM129
 refine ⟨_,_,_,rfl,hL130,?_⟩
 refine Yu2 3 rfl (Yu7 rfl) gn rfl<|Yua 4 rfl<|Yu9 rfl<|Yu4 rfl rfl<|Yu2 0 rfl (Yu3 rfl) gn rfl<|Yu2 1 rfl (Yu3 rfl) gn rfl ?_
 obtain ⟨r134,hv135,h⟩:=h
 refine Yve 2 rfl (Yvz [.slice A25 k29 c27,.slice A46 n47 c48] rfl Tryd.func17 rfl rfl rfl fun w131 hL132=>?_) gn
 have hp133:=pmI hL132 .n (.c 0 rfl (.c 1 rfl (.c 2 rfl (.c 3 rfl (.c 4 rfl (.c 5 rfl .n)))))) (by kernel_rfl)
 refine Calls.mono (Zc1 w131 (Fl ([]:List Yva)) (x24.take k29) x45 A25 k29 c27 A46 n47 c48 (Rw.mono h31 (hL132.toSt hp133 (me 1 rfl))) (Rw.mono h49 (hL132.toSt hp133 (me 1 rfl))) (hL132.hFl hp133 (Yvm [] rfl)) (hL132.into hp133 _) r134 hv135) ?_
 rintro _ w136 ⟨rfl,hM137⟩
 have hL138:=hL132.call hp133 hM137
 refine ⟨_,_,_,rfl,hL138,?_⟩
 refine Yu2 3 rfl (Yu7 rfl) gn rfl<|Yua 4 rfl<|Yu9 rfl<|Yu4 rfl rfl<|Yu2 0 rfl (Yu3 rfl) gn rfl<|Yu2 1 rfl (Yu3 rfl) gn rfl<|Yu2 2 rfl (Yuo Zl5 rfl h49.hq) gn rfl<|Yu2 3 rfl (Yug rfl rfl rfl) gn rfl ?_
 obtain ⟨hb139,h⟩:=h
 have hle140:(w64 ((x45.length:Int) + 2):Int).toNat≤n26:=by have q:=hb139; have q1:=h28.hq; omega
 have h141:=Rw.pre h28 hle140
 refine Yu2 4 rfl (Zf5 (i:=w64 ((x45.length:Int) + 2)) Zgd rfl rfl (by have q:=hb139; have q1:=h28.hq; have q2:=h28.hn; omega) h31.hn rfl) gn rfl<|Yu2 5 rfl (Yu7 rfl) gn rfl<|Yua 6 rfl<|Yu9 rfl<|Yu4 rfl rfl<|Yu2 0 rfl (Yu3 rfl) gn rfl<|Yu2 1 rfl (Yu3 rfl) gn rfl ?_
 by_cases hp142:r110=true
 ·have h:=Yul hp142 h
  refine Yvi 52 rfl (hp142)<|Yu2 2 rfl (Yu3 rfl) (gy 52 rfl rfl) rfl<|Yu2 3 rfl (Yuk (b:=true) rfl rfl) gn rfl<|Yu2 4 rfl (Yu3 rfl) gn rfl ?_
  by_cases hp143:r118=true
  ·have h:=Yul hp143 h
   refine Yvi 55 rfl (hp143)<|Yu2 5 rfl (Yu3 rfl) (gy 55 rfl rfl) rfl<|Yu2 6 rfl (Yuk (b:=true) rfl rfl) gn rfl<|Yu2 7 rfl (Yu3 rfl) gn rfl ?_
   by_cases hp144:r126=true
   ·have h:=Yul hp144 h
    refine Yvi 58 rfl (hp144)<|Yu2 8 rfl (Yu3 rfl) (gy 58 rfl rfl) rfl<|Yu2 9 rfl (Yuk (b:=true) rfl rfl) gn rfl<|Yu2 10 rfl (Yu3 rfl) gn rfl ?_
    by_cases hp145:r134=true
    ·have h:=Yul hp145 h
     refine Yvi 61 rfl (hp145)<|Yu2 11 rfl (Yyr [.slice A2 k6 c4,.slice A9 k13 c11,.slice A16 k21 c18] 5 Yys rfl rfl rfl rfl) (gy 61 rfl rfl) rfl ?_
     obtain ⟨r149,hv150,h⟩:=h
     refine Yve 12 rfl (Yvz [.agg #[.slice A2 k6 c4,.slice A9 k13 c11,.slice A16 k21 c18]] rfl Tryd.func33 rfl rfl rfl fun w146 hL147=>?_) (gy 61 rfl rfl)
     have hp148:=pmI hL147 .n (.c 0 rfl (.c 1 rfl (.c 2 rfl (.c 3 rfl (.c 4 rfl (.c 5 rfl .n)))))) (by kernel_rfl)
     refine Calls.mono (Zh6 w146 (Fl ([]:List Yva)) (⟨x1.terms,x1.syms,[]⟩:Yu5) k6 k13 x20 k21 A2 n3 c4 A9 n10 c11 A16 n17 c18 (Rw.mono h5 (hL147.toSt hp148 (me 1 rfl))) hk7 (Rw.mono h12 (hL147.toSt hp148 (me 1 rfl))) hk14 (Rw.mono h19 (hL147.toSt hp148 (me 1 rfl))) hk22 (hL147.hFl hp148 (Yvm [] rfl)) (hL147.into hp148 _) r149 hv150) ?_
     rintro _ w151 ⟨rfl,hM152⟩
     have hL153:=hL147.call hp148 hM152
     refine ⟨_,_,_,rfl,hL153,?_⟩
     refine Yu2 13 rfl (Yuk (b:=true) rfl rfl) gn rfl<|Yu2 14 rfl (Yu3 rfl) gn rfl ?_
     by_cases hp154:r149=true
     ·have h:=Yul hp154 h
      refine Yvi 65 rfl (hp154)<|Yu2 15 rfl (Yu3 rfl) (gy 65 rfl rfl) rfl<|Yu2 16 rfl (Yu3 rfl) (gy 65 rfl rfl) rfl<|Yu2 17 rfl (Yuo Zl5 rfl h49.hq) (gy 65 rfl rfl) rfl ?_
      obtain ⟨hb155,h⟩:=h
      have hr156:=Rw.readF (s:=St w []) (hl:=Yyz) (h1:=Yyy) h141 hb155
      refine Yu2 18 rfl (Yv7 (s:=St w []) Zgd rfl rfl h141 hb155) (gy 65 rfl rfl) rfl<|Yu2 19 rfl (Yvo Zb8 rfl) (gy 65 rfl rfl) rfl<|Yu2 20 rfl (Yvj (kk:=((x45.length:Int):Int).toNat * 3) (j:=1) (St w []) Yvt rfl hr156 rfl (me 1 rfl)) (gy 65 rfl rfl) rfl<|Yu2 21 rfl (Yug rfl rfl rfl) (gy 65 rfl rfl) rfl<|Yu2 22 rfl (Yuk (b:=true) rfl rfl) gn rfl<|Yu2 23 rfl (Yu3 rfl) gn rfl ?_
      by_cases hp157:(ix (x24.take ((w64 ((x45.length:Int) + 2):Int).toNat)) (x45.length:Int)).dot = -71
      ·have h:=Yul hp157 h
       refine Yvi 74 rfl ((eqi hp157))<|Yu2 24 rfl (Yu3 rfl) (gy 74 rfl rfl) rfl<|Yu2 25 rfl (Yu3 rfl) (gy 74 rfl rfl) rfl<|Yu2 26 rfl (Yuo Zl5 rfl h49.hq) (gy 74 rfl rfl) rfl<|Yu2 27 rfl (Yug rfl rfl rfl) (gy 74 rfl rfl) rfl ?_
       obtain ⟨hb158,h⟩:=h
       have hr159:=Rw.readF (s:=St w []) (hl:=Yyz) (h1:=Yyy) h141 hb158
       refine Yu2 28 rfl (Yv7 (s:=St w []) Zgd rfl rfl h141 hb158) (gy 74 rfl rfl) rfl<|Yu2 29 rfl (Yvo Zb8 rfl) (gy 74 rfl rfl) rfl<|Yu2 30 rfl (Yvj (kk:=(w64 ((x45.length:Int) + 1):Int).toNat * 3) (j:=1) (St w []) Yvt rfl hr159 rfl (me 1 rfl)) (gy 74 rfl rfl) rfl<|Yu2 31 rfl (Yug rfl rfl rfl) (gy 74 rfl rfl) rfl<|Yu2 32 rfl (Yuk (b:=true) rfl rfl) gn rfl<|Yu2 33 rfl (Yu7 rfl) gn rfl<|Yua 34 rfl ?_
       refine Yvb [.bool (((ix (x24.take ((w64 ((x45.length:Int) + 2):Int).toNat)) (w64 ((x45.length:Int) + 1))).dot) == (-72))] rfl Tryd.func11 rfl (.tmp rfl (.nil)) fun wr hLr=>?_
       have hMr:=hLr.pk0 (.c 1 rfl .n)
       show Yx4 w F  r (.returned (Yvl [.bool (((ix (x24.take ((w64 ((x45.length:Int) + 2):Int).toNat)) (w64 ((x45.length:Int) + 1))).dot) == (-72))])) wr
       rw [h]
       exact ⟨rfl,hMr⟩
      ·have h:=Yum hp157 h
       refine Yvi 74 rfl ((nei hp157))<|Yu6 24 rfl (ps 74 rfl rfl rfl)<|Yu6 25 rfl (ps 74 rfl rfl rfl)<|Yu6 26 rfl (ps 74 rfl rfl rfl)<|Yu6 27 rfl (ps 74 rfl rfl rfl)<|Yu6 28 rfl (ps 74 rfl rfl rfl)<|Yu6 29 rfl (ps 74 rfl rfl rfl)<|Yu6 30 rfl (ps 74 rfl rfl rfl)<|Yu6 31 rfl (ps 74 rfl rfl rfl)<|Yu2 32 rfl (Yuk (b:=false) rfl rfl) gn rfl<|Yu2 33 rfl (Yu7 rfl) gn rfl<|Yua 34 rfl ?_
       refine Yvb [.bool false] rfl Tryd.func11 rfl (.tmp rfl (.nil)) fun wr hLr=>?_
       have hMr:=hLr.pk0 (.c 1 rfl .n)
       show Yx4 w F  r (.returned (Yvl [.bool false])) wr
       rw [h]
       exact ⟨rfl,hMr⟩
     ·have h:=Yum hp154 h
      refine Yvi 65 rfl ((bf hp154))<|Yu6 15 rfl (ps 65 rfl rfl rfl)<|Yu6 16 rfl (ps 65 rfl rfl rfl)<|Yu6 17 rfl (ps 65 rfl rfl rfl)<|Yu6 18 rfl (ps 65 rfl rfl rfl)<|Yu6 19 rfl (ps 65 rfl rfl rfl)<|Yu6 20 rfl (ps 65 rfl rfl rfl)<|Yu6 21 rfl (ps 65 rfl rfl rfl)<|Yu2 22 rfl (Yuk (b:=false) rfl rfl) gn rfl<|Yu2 23 rfl (Yu3 rfl) gn rfl<|Yu6 24 rfl (ps 74 rfl rfl rfl)<|Yu6 25 rfl (ps 74 rfl rfl rfl) ?_
      refine Yu6 26 rfl (ps 74 rfl rfl rfl)<|Yu6 27 rfl (ps 74 rfl rfl rfl)<|Yu6 28 rfl (ps 74 rfl rfl rfl)<|Yu6 29 rfl (ps 74 rfl rfl rfl)<|Yu6 30 rfl (ps 74 rfl rfl rfl)<|Yu6 31 rfl (ps 74 rfl rfl rfl)<|Yu2 32 rfl (Yuk (b:=false) rfl rfl) gn rfl<|Yu2 33 rfl (Yu7 rfl) gn rfl<|Yua 34 rfl ?_
      refine Yvb [.bool false] rfl Tryd.func11 rfl (.tmp rfl (.nil)) fun wr hLr=>?_
      have hMr:=hLr.pk0 (.c 1 rfl .n)
      show Yx4 w F  r (.returned (Yvl [.bool false])) wr
      rw [h]
      exact ⟨rfl,hMr⟩
    ·have h:=Yum hp145 h
     refine Yvi 61 rfl ((bf hp145))<|Yu6 11 rfl (ps 61 rfl rfl rfl)<|Yu6 12 rfl (ps 61 rfl rfl rfl)<|Yu2 13 rfl (Yuk (b:=false) rfl rfl) gn rfl<|Yu2 14 rfl (Yu3 rfl) gn rfl<|Yu6 15 rfl (ps 65 rfl rfl rfl)<|Yu6 16 rfl (ps 65 rfl rfl rfl)<|Yu6 17 rfl (ps 65 rfl rfl rfl)<|Yu6 18 rfl (ps 65 rfl rfl rfl)<|Yu6 19 rfl (ps 65 rfl rfl rfl)<|Yu6 20 rfl (ps 65 rfl rfl rfl)<|Yu6 21 rfl (ps 65 rfl rfl rfl) ?_
     refine Yu2 22 rfl (Yuk (b:=false) rfl rfl) gn rfl<|Yu2 23 rfl (Yu3 rfl) gn rfl<|Yu6 24 rfl (ps 74 rfl rfl rfl)<|Yu6 25 rfl (ps 74 rfl rfl rfl)<|Yu6 26 rfl (ps 74 rfl rfl rfl)<|Yu6 27 rfl (ps 74 rfl rfl rfl)<|Yu6 28 rfl (ps 74 rfl rfl rfl)<|Yu6 29 rfl (ps 74 rfl rfl rfl)<|Yu6 30 rfl (ps 74 rfl rfl rfl)<|Yu6 31 rfl (ps 74 rfl rfl rfl)<|Yu2 32 rfl (Yuk (b:=false) rfl rfl) gn rfl<|Yu2 33 rfl (Yu7 rfl) gn rfl ?_
     refine Yua 34 rfl ?_
     refine Yvb [.bool false] rfl Tryd.func11 rfl (.tmp rfl (.nil)) fun wr hLr=>?_
     have hMr:=hLr.pk0 (.c 1 rfl .n)
     show Yx4 w F  r (.returned (Yvl [.bool false])) wr
     rw [h]
     exact ⟨rfl,hMr⟩
   ·have h:=Yum hp144 h
    refine Yvi 58 rfl ((bf hp144))<|Yu6 8 rfl (ps 58 rfl rfl rfl)<|Yu2 9 rfl (Yuk (b:=false) rfl rfl) gn rfl<|Yu2 10 rfl (Yu3 rfl) gn rfl<|Yu6 11 rfl (ps 61 rfl rfl rfl)<|Yu6 12 rfl (ps 61 rfl rfl rfl)<|Yu2 13 rfl (Yuk (b:=false) rfl rfl) gn rfl<|Yu2 14 rfl (Yu3 rfl) gn rfl<|Yu6 15 rfl (ps 65 rfl rfl rfl)<|Yu6 16 rfl (ps 65 rfl rfl rfl)<|Yu6 17 rfl (ps 65 rfl rfl rfl)<|Yu6 18 rfl (ps 65 rfl rfl rfl) ?_
    refine Yu6 19 rfl (ps 65 rfl rfl rfl)<|Yu6 20 rfl (ps 65 rfl rfl rfl)<|Yu6 21 rfl (ps 65 rfl rfl rfl)<|Yu2 22 rfl (Yuk (b:=false) rfl rfl) gn rfl<|Yu2 23 rfl (Yu3 rfl) gn rfl<|Yu6 24 rfl (ps 74 rfl rfl rfl)<|Yu6 25 rfl (ps 74 rfl rfl rfl)<|Yu6 26 rfl (ps 74 rfl rfl rfl)<|Yu6 27 rfl (ps 74 rfl rfl rfl)<|Yu6 28 rfl (ps 74 rfl rfl rfl)<|Yu6 29 rfl (ps 74 rfl rfl rfl)<|Yu6 30 rfl (ps 74 rfl rfl rfl) ?_
    refine Yu6 31 rfl (ps 74 rfl rfl rfl)<|Yu2 32 rfl (Yuk (b:=false) rfl rfl) gn rfl<|Yu2 33 rfl (Yu7 rfl) gn rfl<|Yua 34 rfl ?_
    refine Yvb [.bool false] rfl Tryd.func11 rfl (.tmp rfl (.nil)) fun wr hLr=>?_
    have hMr:=hLr.pk0 (.c 1 rfl .n)
    show Yx4 w F  r (.returned (Yvl [.bool false])) wr
    rw [h]
    exact ⟨rfl,hMr⟩
  ·have h:=Yum hp143 h
   refine Yvi 55 rfl ((bf hp143))<|Yu6 5 rfl (ps 55 rfl rfl rfl)<|Yu2 6 rfl (Yuk (b:=false) rfl rfl) gn rfl<|Yu2 7 rfl (Yu3 rfl) gn rfl<|Yu6 8 rfl (ps 58 rfl rfl rfl)<|Yu2 9 rfl (Yuk (b:=false) rfl rfl) gn rfl<|Yu2 10 rfl (Yu3 rfl) gn rfl<|Yu6 11 rfl (ps 61 rfl rfl rfl)<|Yu6 12 rfl (ps 61 rfl rfl rfl)<|Yu2 13 rfl (Yuk (b:=false) rfl rfl) gn rfl<|Yu2 14 rfl (Yu3 rfl) gn rfl<|Yu6 15 rfl (ps 65 rfl rfl rfl) ?_
   refine Yu6 16 rfl (ps 65 rfl rfl rfl)<|Yu6 17 rfl (ps 65 rfl rfl rfl)<|Yu6 18 rfl (ps 65 rfl rfl rfl)<|Yu6 19 rfl (ps 65 rfl rfl rfl)<|Yu6 20 rfl (ps 65 rfl rfl rfl)<|Yu6 21 rfl (ps 65 rfl rfl rfl)<|Yu2 22 rfl (Yuk (b:=false) rfl rfl) gn rfl<|Yu2 23 rfl (Yu3 rfl) gn rfl<|Yu6 24 rfl (ps 74 rfl rfl rfl)<|Yu6 25 rfl (ps 74 rfl rfl rfl)<|Yu6 26 rfl (ps 74 rfl rfl rfl)<|Yu6 27 rfl (ps 74 rfl rfl rfl) ?_
   refine Yu6 28 rfl (ps 74 rfl rfl rfl)<|Yu6 29 rfl (ps 74 rfl rfl rfl)<|Yu6 30 rfl (ps 74 rfl rfl rfl)<|Yu6 31 rfl (ps 74 rfl rfl rfl)<|Yu2 32 rfl (Yuk (b:=false) rfl rfl) gn rfl<|Yu2 33 rfl (Yu7 rfl) gn rfl<|Yua 34 rfl ?_
   refine Yvb [.bool false] rfl Tryd.func11 rfl (.tmp rfl (.nil)) fun wr hLr=>?_
   have hMr:=hLr.pk0 (.c 1 rfl .n)
   show Yx4 w F  r (.returned (Yvl [.bool false])) wr
   rw [h]
   exact ⟨rfl,hMr⟩
 ·have h:=Yum hp142 h
  refine Yvi 52 rfl ((bf hp142))<|Yu6 2 rfl (ps 52 rfl rfl rfl)<|Yu2 3 rfl (Yuk (b:=false) rfl rfl) gn rfl<|Yu2 4 rfl (Yu3 rfl) gn rfl<|Yu6 5 rfl (ps 55 rfl rfl rfl)<|Yu2 6 rfl (Yuk (b:=false) rfl rfl) gn rfl<|Yu2 7 rfl (Yu3 rfl) gn rfl<|Yu6 8 rfl (ps 58 rfl rfl rfl)<|Yu2 9 rfl (Yuk (b:=false) rfl rfl) gn rfl<|Yu2 10 rfl (Yu3 rfl) gn rfl<|Yu6 11 rfl (ps 61 rfl rfl rfl)<|Yu6 12 rfl (ps 61 rfl rfl rfl) ?_
  refine Yu2 13 rfl (Yuk (b:=false) rfl rfl) gn rfl<|Yu2 14 rfl (Yu3 rfl) gn rfl<|Yu6 15 rfl (ps 65 rfl rfl rfl)<|Yu6 16 rfl (ps 65 rfl rfl rfl)<|Yu6 17 rfl (ps 65 rfl rfl rfl)<|Yu6 18 rfl (ps 65 rfl rfl rfl)<|Yu6 19 rfl (ps 65 rfl rfl rfl)<|Yu6 20 rfl (ps 65 rfl rfl rfl)<|Yu6 21 rfl (ps 65 rfl rfl rfl)<|Yu2 22 rfl (Yuk (b:=false) rfl rfl) gn rfl<|Yu2 23 rfl (Yu3 rfl) gn rfl<|Yu6 24 rfl (ps 74 rfl rfl rfl) ?_
  refine Yu6 25 rfl (ps 74 rfl rfl rfl)<|Yu6 26 rfl (ps 74 rfl rfl rfl)<|Yu6 27 rfl (ps 74 rfl rfl rfl)<|Yu6 28 rfl (ps 74 rfl rfl rfl)<|Yu6 29 rfl (ps 74 rfl rfl rfl)<|Yu6 30 rfl (ps 74 rfl rfl rfl)<|Yu6 31 rfl (ps 74 rfl rfl rfl)<|Yu2 32 rfl (Yuk (b:=false) rfl rfl) gn rfl<|Yu2 33 rfl (Yu7 rfl) gn rfl<|Yua 34 rfl ?_
  refine Yvb [.bool false] rfl Tryd.func11 rfl (.tmp rfl (.nil)) fun wr hLr=>?_
  have hMr:=hLr.pk0 (.c 1 rfl .n)
  show Yx4 w F  r (.returned (Yvl [.bool false])) wr
  rw [h]
  exact ⟨rfl,hMr⟩
noncomputable abbrev Zih:=Code.fst (Code.fst (Code.snd (Code.snd (Yvq Tryd.f12))))
noncomputable abbrev Zqa:=Code.snd (Code.snd Zih)
noncomputable abbrev Zm1:=Code.fst (Code.fst (Code.snd (Code.snd (Code.snd (Code.snd (Code.fst (Code.fst (Code.snd Zih))))))))
abbrev Zc2 (w:World) (F:Nat→Prop) (A16:Option Addr) (n17:Nat) (c18:Nat) (z21:Nat) (cs23:List Value) (bs24:List Nat) (r:List (Yuf × Nat)):Ending→World→Prop:=fun e w'=>∃ bk0:List Nat,e=.returned (.tuple #[])∧B.Loc w w' [.own (.slice A16 n17 c18) 63 2 n17 cs23,Ywj Yxk (0) none r cs23 bk0] [St w [(Value.slice A16 n17 c18).ownBlock.toList,bs24]]∧Ow z21 A16 n17 c18 r
noncomputable abbrev Yxs (w:World) (F:Nat→Prop) (A16:Option Addr) (n17:Nat) (c18:Nat) (z21:Nat) (cs23:List Value) (bs24:List Nat) (r:List (Yuf × Nat)):Cx:=⟨Tryd.prog,12,Tryd.f12,39,Zc2 w F A16 n17 c18 z21 cs23 bs24 r,w⟩
theorem Zg7 (w:World) (F:Nat→Prop) (x1:Yu5) (k6:Nat) (k13:Nat) (x20:List (Yuf × Nat)) (k27:Nat) (A2:Option Addr) (n3:Nat) (c4:Nat) (A9:Option Addr) (n10:Nat) (c11:Nat) (z21:Nat) (A16:Option Addr) (n17:Nat) (c18:Nat) (cs23:List Value) (bs24:List Nat) (h5:Rw Yuj w (St w [(Value.slice A16 n17 c18).ownBlock.toList,bs24]).av A2 n3 c4 x1.terms) (hk7:k6≤n3) (h12:Rw Yuq w (St w [(Value.slice A16 n17 c18).ownBlock.toList,bs24]).av A9 n10 c11 x1.syms) (hk14:k13≤n10) (hz22:z21≤w.heap.size) (h19:Ow z21 A16 n17 c18 x20) (hk28:k27≤n17) (hF:∀ b,F b→b < w.heap.size∧∀ o ∈ ([(Value.slice A16 n17 c18).ownBlock.toList,bs24]:List (List Nat)),b ∉ o) (hL0:B.Loc w w [.own (.slice A16 n17 c18) 63 2 n17 cs23,Ywj Yxk (0) none x20 cs23 bs24] [Sm w.heap.size F w [(Value.slice A16 n17 c18).ownBlock.toList,bs24],St w [(Value.slice A16 n17 c18).ownBlock.toList,bs24]]) (r:List (Yuf × Nat)) (h:Yzr x1 k6 k13 x20 k27 r):Calls Tryd.prog 12 #[.agg #[.slice A2 k6 c4,.slice A9 k13 c11,.slice A16 k27 c18]] w (Zc2 w F A16 n17 c18 z21 cs23 bs24 r):=by
 unfold Yzr at h
 have h8:=Rw.pre h5 hk7
 have h15:=Rw.pre h12 hk14
 refine Yv5 (vs:=[.agg #[.slice A2 k6 c4,.slice A9 k13 c11,.slice A16 k27 c18]]) 39 Tryd.func12 rfl Tryd.ntmps12 rfl hL0 ?_
 show G (Yxs w F A16 n17 c18 z21 cs23 bs24 r) _ _ _ _
 refine Yu9 rfl<|Yu4 rfl rfl ?_
 refine Yve 0 rfl (Zas [.slice A2 k6 c4,.slice A9 k13 c11,.slice A16 k27 c18] rfl rfl rfl fun gb29=>?_) gn
 refine Yua 1 rfl<|Yu9 rfl<|Yu4 rfl rfl<|Yu2 0 rfl (Yu7 rfl) gn rfl<|Yua 1 rfl<|Yuw rfl<|Ywm rfl ?_
 have key1:∀ s,Yui (fun (s:Int × (List (Yuf × Nat))) o=>Ywd k27 s.1 s.2 o) s r→(fun (s:Int × (List (Yuf × Nat)))=>∀ (bs117:List Nat) (h118:Ow z21 A16 n17 c18 s.2) (hl32:k27≤n17),G (Yxs w F A16 n17 c18 z21 cs23 bs24 r) [.code Zih,.inLoop Zih,.inBlock 0] [(1,.pointer (some ⟨gb29,0,none⟩)),(2,.int .i64 s.1)] [Ywj Yxk (0) none s.2 cs23 bs117,.box gb29 26 [.slice A2 k6 c4,.slice A9 k13 c11,.slice A16 k27 c18],.own (.slice A16 n17 c18) 63 2 n17 cs23] [Sm w.heap.size F w [(Value.slice A16 n17 c18).ownBlock.toList,bs24],St w [(Value.slice A16 n17 c18).ownBlock.toList,bs24]]) s:=by
  intro s hs
  refine Yui.ind (mot:=(fun (s:Int × (List (Yuf × Nat)))=>∀ (bs117:List Nat) (h118:Ow z21 A16 n17 c18 s.2) (hl32:k27≤n17),G (Yxs w F A16 n17 c18 z21 cs23 bs24 r) [.code Zih,.inLoop Zih,.inBlock 0] [(1,.pointer (some ⟨gb29,0,none⟩)),(2,.int .i64 s.1)] [Ywj Yxk (0) none s.2 cs23 bs117,.box gb29 26 [.slice A2 k6 c4,.slice A9 k13 c11,.slice A16 k27 c18],.own (.slice A16 n17 c18) 63 2 n17 cs23] [Sm w.heap.size F w [(Value.slice A16 n17 c18).ownBlock.toList,bs24],St w [(Value.slice A16 n17 c18).ownBlock.toList,bs24]])) ?_ hs
  clear hs s
  intro s o1 h hO1
  obtain ⟨x115,x116⟩:=s
  show ∀ (bs117:List Nat) (h118:Ow z21 A16 n17 c18 x116) (hl32:k27≤n17),G (Yxs w F A16 n17 c18 z21 cs23 bs24 r) [.code Zih,.inLoop Zih,.inBlock 0] [(1,.pointer (some ⟨gb29,0,none⟩)),(2,.int .i64 x115)] [Ywj Yxk (0) none x116 cs23 bs117,.box gb29 26 [.slice A2 k6 c4,.slice A9 k13 c11,.slice A16 k27 c18],.own (.slice A16 n17 c18) 63 2 n17 cs23] [Sm w.heap.size F w [(Value.slice A16 n17 c18).ownBlock.toList,bs24],St w [(Value.slice A16 n17 c18).ownBlock.toList,bs24]]
  intro bs117 h118 hl32
  have h:Ywd k27 x115 x116 o1:=h
  unfold Ywd at h
  refine Yu9 rfl<|Yu9 rfl<|Yu4 rfl rfl<|Yu2 0 rfl (Yu3 rfl) gn rfl<|Yu2 1 rfl (Yub Yvf rfl) gn rfl<|Yu2 2 rfl (Yue 1 Ywb rfl rfl rfl) gn rfl<|Yu2 3 rfl (Yuo Za3 rfl (Ow.cut h118 hl32).hq) gn rfl<|Yu2 4 rfl (Yug rfl rfl rfl) gn rfl<|Yua 5 rfl ?_
  by_cases hp201:x115 < ((x116.take k27).length:Int)
  ·have h:=Yul hp201 h
   refine Yv4 rfl _ rfl ((decide_eq_true hp201))<|Yv2 rfl<|Yu9 rfl<|Yuw rfl<|Yu9 rfl<|Yu4 rfl rfl<|Yu2 0 rfl (Yub Yvf rfl) gn rfl<|Yu2 1 rfl (Yue 1 Ywb rfl rfl rfl) gn rfl<|Yu2 2 rfl (Yu3 rfl) gn rfl ?_
   obtain ⟨hb202,h⟩:=h
   have hb203:0≤x115∧x115 < (x116.length:Int):=by have q:=hb202; have q2:=List.length_take_le' k27 x116; omega
   refine Zlc (fk:=Yxk) (z:=0) (j:=0) rfl hb203 fun A204 n205 c206 h207 ht208 hg209=>?_
   have hle210:(ix x116 x115).2≤n205:=Nat.le_trans (show (ix x116 x115).2≤(((ix x116 x115).1).rhs).length from ht208.2.2) (Nat.le_of_eq h207.hq.symm)
   refine Yu2 3 rfl (Yyn Yxh rfl rfl (Ow.cut h118 hl32) hb202) gn rfl<|Yu2 4 rfl (Yvo Yw1 rfl) gn rfl<|Yu2 5 rfl (Zbb (.slice A204 ((ix x116 x115).2) c206) 2 Yyc rfl rfl (hg209 1 _ rfl)) gn rfl<|Yu2 6 rfl (Yu7 rfl) gn rfl<|Yua 7 rfl<|Yu9 rfl<|Yu4 rfl rfl<|Yu2 0 rfl (Yu7 rfl) gn rfl<|Yua 1 rfl<|Yu9 rfl<|Yu4 rfl rfl<|Yu2 0 rfl (Yu3 rfl) gn rfl ?_
   refine Yu2 1 rfl (Yu3 rfl) gn rfl ?_
   obtain ⟨x215,hv216,h⟩:=h
   obtain ⟨hb217,h⟩:=h
   refine Zp6 65 3 ?_
   refine Yve 2 rfl (Zdj (zs:=x215) (cells':=x215.flatMap Yy6) 0 ap_61 rfl rfl rfl (Ow.nil (z:=w.heap.size)) (Nat.le_refl _) (Src.famF (fk:=Yxk) (z:=0) 1 rfl hb203 ht208 h207 hle210 rfl) (by rw [hv216,List.flatMap_append] <;> rfl) (Yzh hv216 (Ow.cut h207 hle210).hq) hb217 rfl rfl fun A212 c213 h214=>?_) gn
   refine Yu2 3 rfl (Yu7 rfl) gn rfl<|Yua 4 rfl<|Yu9 rfl<|Yu4 rfl rfl<|Yu2 0 rfl (Yu7 rfl) gn rfl<|Yua 1 rfl<|Yuw rfl<|Ywm rfl ?_
   have key2:∀ s,Yui (fun (s:(List (Yuf × Nat)) × Int) o=>Ywh x115 x215 s.1 s.2 o) s o1→(fun (s:(List (Yuf × Nat)) × Int)=>∀ (bs238:List Nat) (h239:Ow z21 A16 n17 c18 s.1) (A240:Option Addr) (n241:Nat) (c242:Nat) (h243:Ow 0 A240 n241 c242 (((ix s.1 x115).1).rhs)) (hq244:0≤x115∧x115 < (s.1.length:Int)) (ht245:Hdr Yxk s.1 cs23 x115 A240 n241 c242) (n246:Nat) (hv247:n246=(ix s.1 x115).2) (hl219:k27≤n17),G (Yxs w F A16 n17 c18 z21 cs23 bs24 r) [.code Zm1,.inLoop Zm1,.inBlock 2,.inBlock 1,.code Zqa,.inLoop Zih,.inBlock 0] [(1,.pointer (some ⟨gb29,0,none⟩)),(2,.int .i64 x115),(3,.slice A240 n246 c242),(4,.slice A212 (0 + ((ix x116 x115).2)) c213),(5,.int .i64 s.2)] [Ywj Yxk (0) none s.1 cs23 bs238,.own (.slice A212 (0 + ((ix x116 x115).2)) c213) 65 3 (0 + ((ix x116 x115).2)) (x215.flatMap Yy6),.box gb29 26 [.slice A2 k6 c4,.slice A9 k13 c11,.slice A16 k27 c18],.own (.slice A16 n17 c18) 63 2 n17 cs23] [Sm w.heap.size F w [(Value.slice A16 n17 c18).ownBlock.toList,bs24],St w [(Value.slice A16 n17 c18).ownBlock.toList,bs24]]) s:=by
    intro s hs
    refine Yui.ind (mot:=(fun (s:(List (Yuf × Nat)) × Int)=>∀ (bs238:List Nat) (h239:Ow z21 A16 n17 c18 s.1) (A240:Option Addr) (n241:Nat) (c242:Nat) (h243:Ow 0 A240 n241 c242 (((ix s.1 x115).1).rhs)) (hq244:0≤x115∧x115 < (s.1.length:Int)) (ht245:Hdr Yxk s.1 cs23 x115 A240 n241 c242) (n246:Nat) (hv247:n246=(ix s.1 x115).2) (hl219:k27≤n17),G (Yxs w F A16 n17 c18 z21 cs23 bs24 r) [.code Zm1,.inLoop Zm1,.inBlock 2,.inBlock 1,.code Zqa,.inLoop Zih,.inBlock 0] [(1,.pointer (some ⟨gb29,0,none⟩)),(2,.int .i64 x115),(3,.slice A240 n246 c242),(4,.slice A212 (0 + ((ix x116 x115).2)) c213),(5,.int .i64 s.2)] [Ywj Yxk (0) none s.1 cs23 bs238,.own (.slice A212 (0 + ((ix x116 x115).2)) c213) 65 3 (0 + ((ix x116 x115).2)) (x215.flatMap Yy6),.box gb29 26 [.slice A2 k6 c4,.slice A9 k13 c11,.slice A16 k27 c18],.own (.slice A16 n17 c18) 63 2 n17 cs23] [Sm w.heap.size F w [(Value.slice A16 n17 c18).ownBlock.toList,bs24],St w [(Value.slice A16 n17 c18).ownBlock.toList,bs24]])) ?_ hs
    clear hs s
    intro s o2 h hO2
    obtain ⟨x237,x248⟩:=s
    show ∀ (bs238:List Nat) (h239:Ow z21 A16 n17 c18 x237) (A240:Option Addr) (n241:Nat) (c242:Nat) (h243:Ow 0 A240 n241 c242 (((ix x237 x115).1).rhs)) (hq244:0≤x115∧x115 < (x237.length:Int)) (ht245:Hdr Yxk x237 cs23 x115 A240 n241 c242) (n246:Nat) (hv247:n246=(ix x237 x115).2) (hl219:k27≤n17),G (Yxs w F A16 n17 c18 z21 cs23 bs24 r) [.code Zm1,.inLoop Zm1,.inBlock 2,.inBlock 1,.code Zqa,.inLoop Zih,.inBlock 0] [(1,.pointer (some ⟨gb29,0,none⟩)),(2,.int .i64 x115),(3,.slice A240 n246 c242),(4,.slice A212 (0 + ((ix x116 x115).2)) c213),(5,.int .i64 x248)] [Ywj Yxk (0) none x237 cs23 bs238,.own (.slice A212 (0 + ((ix x116 x115).2)) c213) 65 3 (0 + ((ix x116 x115).2)) (x215.flatMap Yy6),.box gb29 26 [.slice A2 k6 c4,.slice A9 k13 c11,.slice A16 k27 c18],.own (.slice A16 n17 c18) 63 2 n17 cs23] [Sm w.heap.size F w [(Value.slice A16 n17 c18).ownBlock.toList,bs24],St w [(Value.slice A16 n17 c18).ownBlock.toList,bs24]]
    intro bs238 h239 A240 n241 c242 h243 hq244 ht245 n246 hv247 hl219
    have h:Ywh x115 x215 x237 x248 o2:=h
    unfold Ywh at h
    refine Yu9 rfl<|Yu9 rfl<|Yu4 rfl rfl<|Yu2 0 rfl (Yu3 rfl) gn rfl<|Yu2 1 rfl (Yu3 rfl) gn rfl<|Yu2 2 rfl (Yuo Za5 rfl (Ow.atn (Ow.cut h243 (Nat.le_trans (show (ix x237 x115).2≤(((ix x237 x115).1).rhs).length from ht245.2.2) (Nat.le_of_eq h243.hq.symm))) (hv247.trans (Ow.cut h243 (Nat.le_trans (show (ix x237 x115).2≤(((ix x237 x115).1).rhs).length from ht245.2.2) (Nat.le_of_eq h243.hq.symm))).hq)).hq) gn rfl<|Yu2 3 rfl (Yug rfl rfl rfl) gn rfl<|Yua 4 rfl ?_
    by_cases hp266:x248 < (((((ix x237 x115).1).rhs).take ((ix x237 x115).2)).length:Int)
    ·have h:=Yul hp266 h
     refine Yv4 rfl _ rfl ((decide_eq_true hp266))<|Yv2 rfl<|Yu9 rfl<|Yuw rfl<|Yu4 rfl rfl<|Yu2 0 rfl (Yu3 rfl) gn rfl<|Yu2 1 rfl (Yu3 rfl) gn rfl<|Yu2 2 rfl (Yu3 rfl) gn rfl<|Yu2 3 rfl (Yu3 rfl) gn rfl<|Yu2 4 rfl (Yuo Za5 rfl h214.hq) gn rfl<|Yu2 5 rfl (Yug rfl rfl rfl) gn rfl<|Yu2 6 rfl (Yu3 rfl) gn rfl ?_
     refine Yu2 7 rfl (Yug rfl rfl rfl) gn rfl ?_
     obtain ⟨hb267,h⟩:=h
     refine Yu2 8 rfl (Yyn Yz5 rfl rfl h214 hb267) gn rfl<|Yu2 9 rfl (v_ldO [.int .i64 ((ix x215 (w64 ((w64 ((x215.length:Int) - 1)) - x248))).sym),.string ((ix x215 (w64 ((w64 ((x215.length:Int) - 1)) - x248))).field),.string ((ix x215 (w64 ((w64 ((x215.length:Int) - 1)) - x248))).as)] 1 Zot rfl rfl (fm_one Yvw hb267) rfl) gn rfl ?_
     obtain ⟨hb268,h⟩:=h
     have hb269:0≤x248∧x248 < ((((ix x237 x115).1).rhs).length:Int):=by have q:=hb268; have q2:=List.length_take_le' ((ix x237 x115).2) (((ix x237 x115).1).rhs); omega
     refine Yu2 10 rfl (Yyn Yz5 rfl rfl (Ow.atn (Ow.cut h243 (Nat.le_trans (show (ix x237 x115).2≤(((ix x237 x115).1).rhs).length from ht245.2.2) (Nat.le_of_eq h243.hq.symm))) (hv247.trans (Ow.cut h243 (Nat.le_trans (show (ix x237 x115).2≤(((ix x237 x115).1).rhs).length from ht245.2.2) (Nat.le_of_eq h243.hq.symm))).hq)) hb268) gn rfl ?_
     obtain ⟨x270,hv271,h⟩:=h
     obtain ⟨x272,hv273,h⟩:=h
     refine w_take (fk:=Yxk) (z:=0) (j:=0) rfl hq244 ht245 fun bs274=>?_
     refine Yve 11 rfl (Zgm (enc:=Yy6) (o:=0) (z:=(ix x215 (w64 ((w64 ((x215.length:Int) - 1)) - x248)))) (vs:=[.int .i64 ((ix x215 (w64 ((w64 ((x215.length:Int) - 1)) - x248))).sym),.string ((ix x215 (w64 ((w64 ((x215.length:Int) - 1)) - x248))).field),.string ((ix x215 (w64 ((w64 ((x215.length:Int) - 1)) - x248))).as)]) (i:=x248) 0 Yvw sz_65 rfl rfl rfl rfl rfl h243 hb269 rfl rfl rfl hv271 fun h276=>?_) gn
     refine w_put (fk:=Yxk) (z:=0) (j0:=0) (j:=1) (q:=x115) (by decide) rfl hq244 rfl ht245 ({ ((ix x237 x115).1) with rhs:=x270 },(ix x237 x115).2) h276 rfl rfl (by show _≤x270.length; rw [hv271,List.length_set]; exact ht245.2.2) hv273 fun bs275=>?_
     have h277:Ow z21 A16 n17 c18 x272:=Ow.w h239 (by rw [hv273,List.length_set])
     obtain ⟨ht278,he279,hq280⟩:=Hdr.set (fk:=Yxk) (x':=({ ((ix x237 x115).1) with rhs:=x270 },(ix x237 x115).2)) ht245 hq244 hv273 rfl (by show x270.length=_; rw [hv271,List.length_set]) (by show _≤x270.length; rw [hv271,List.length_set]; exact ht245.2.2)
     have h281:Ow 0 A240 n241 c242 (((ix x272 x115).1).rhs):=Ow.w h243 (by rw [show ((ix x272 x115).1).rhs=x270 from by rw [he279],hv271,List.length_set])
     have hv282:n246=(ix x272 x115).2:=by rw [he279]; exact hv247
     refine Yua 12 rfl<|Yux<|Yu4 rfl rfl<|Yu2 0 rfl (Yu3 rfl) gn rfl<|Yu2 1 rfl (Yug rfl rfl rfl) gn rfl<|Yu2 2 rfl (Yu7 rfl) gn rfl<|Yua 3 rfl<|Yv1 ?_
     have ih:=Out.inl hO2 h
     exact Yvh [0,1] (ih bs275 h277 A240 n241 c242 h281 hq280 ht278 n246 hv282 hl219) ⟨rfl,rfl,rfl,rfl,rfl,trivial⟩ (.cons_cons _ (.cons_cons _ (.cons_cons _ (.cons_cons _ (.slnil))))) rfl
    ·have h:=Yum hp266 h
     refine Yur rfl _ rfl ((decide_eq_false hp266))<|Ywa [.inBlock 1,.code Zqa,.inLoop Zih,.inBlock 0] rfl rfl<|Yux<|Yu4 rfl rfl<|Yu2 0 rfl (Yu3 rfl) gn rfl<|Yu2 1 rfl (Yug rfl rfl rfl) gn rfl<|Yu2 2 rfl (Yu7 rfl) gn rfl<|Yua 3 rfl<|Yv1 ?_
     have h:=Out.inr hO2 h
     have ih:=Out.inl hO1 h
     exact Yvh [0,1] (ih bs238 h239 hl219) ⟨rfl,rfl,trivial⟩ (.cons_cons _ (.cons _ (.cons_cons _ (.cons_cons _ (.slnil))))) rfl
   refine Yvc 3 rfl<|Yvc 3 rfl<|Yvc 2 rfl<|Yvc 3 rfl ?_
   exact Yvh [0,1] (key2 _ h bs117 h118 A204 n205 c206 h207 hb203 ht208 ((ix x116 x115).2) rfl hl32) ⟨rfl,rfl,rfl,rfl,rfl,trivial⟩ (.cons_cons _ (.cons_cons _ (.cons_cons _ (.cons_cons _ (.slnil))))) rfl
  ·have h:=Yum hp201 h
   refine Yur rfl _ rfl ((decide_eq_false hp201))<|Ywa [] rfl rfl ?_
   have h:=Out.inr hO1 h
   refine Zrw [] Tryd.func12 rfl (.nil) fun wr hLr=>?_
   have hMr:=hLr.pkI (.c 2 rfl (.c 0 rfl .n)) (.c 1 rfl .n) (by kernel_rfl) (.c 1 rfl .n)
   show Zc2 w F A16 n17 c18 z21 cs23 bs24 r (.returned (Yvl [])) wr
   rw [h]
   exact ⟨bs117,rfl,hMr,h118⟩
 refine Yvc 1 rfl<|Yvc 1 rfl<|Yvc 2 rfl ?_
 exact Yvh [0,1] (key1 _ h bs24 h19 hk28) ⟨rfl,rfl,trivial⟩ (.cons_cons _ (.cons_cons _ (.cons_cons _ (.slnil)))) rfl
noncomputable abbrev q3c15:=Code.fst (Code.snd (Code.snd (Code.snd (Code.snd (Code.snd (Yvq Tryd.f3))))))
abbrev Yzg (w:World) (F:Nat→Prop) (r:Bool):Ending→World→Prop:=fun e w'=>e=.returned (.bool r)∧B.Loc w w' [] [St w []]
noncomputable abbrev Zgi (w:World) (F:Nat→Prop) (r:Bool):Cx:=⟨Tryd.prog,3,Tryd.f3,36,Yzg w F  r,w⟩
theorem Zff (w:World) (F:Nat→Prop) (x1:Yu5) (x14:List Yud) (x19:Int) (A2:Option Addr) (n3:Nat) (c4:Nat) (A6:Option Addr) (n7:Nat) (c8:Nat) (A10:Option Addr) (n11:Nat) (c12:Nat) (A15:Option Addr) (n16:Nat) (c17:Nat) (h5:Rw Yuj w (St w []).av A2 n3 c4 x1.terms) (h9:Rw Yuq w (St w []).av A6 n7 c8 x1.syms) (h13:Rw Yun w (St w []).av A10 n11 c12 x1.prods) (h18:Rw Yxu w (St w []).av A15 n16 c17 x14) (hG0:Tt .u8 Zmo 0 (St w [])) (hF:∀ b,F b→b < w.heap.size∧∀ o ∈ ([]:List (List Nat)),b ∉ o) (hL0:B.Loc w w [] [Sm w.heap.size F w [],St w []]) (r:Bool) (h:Yz3 x1 x14 x19 r):Calls Tryd.prog 3 #[.agg #[.slice A2 n3 c4,.slice A6 n7 c8,.slice A10 n11 c12],.slice A15 n16 c17,.int .i64 x19] w (Yzg w F  r):=by
 unfold Yz3 at h
 refine Yv5 (vs:=[.agg #[.slice A2 n3 c4,.slice A6 n7 c8,.slice A10 n11 c12],.slice A15 n16 c17,.int .i64 x19]) 36 Tryd.func3 rfl Tryd.ntmps3 rfl hL0 ?_
 show G (Zgi w F r) _ _ _ _
 refine Yu9 rfl<|Yu4 rfl rfl ?_
 refine Yve 0 rfl (Zas [.slice A2 n3 c4,.slice A6 n7 c8,.slice A10 n11 c12] rfl rfl rfl fun gb20=>?_) gn
 refine Yu2 1 rfl (Yu7 rfl) gn rfl<|Yua 2 rfl<|Yu9 rfl<|Yu4 rfl rfl<|Yu2 0 rfl (Yyr [.slice A2 n3 c4,.slice A6 n7 c8,.slice A10 n11 c12] 0 Yys rfl rfl rfl rfl) gn rfl ?_
 obtain ⟨r25,hv26,h⟩:=h
 refine Yve 1 rfl (Yvz [.agg #[.slice A2 n3 c4,.slice A6 n7 c8,.slice A10 n11 c12]] rfl Tryd.func9 rfl rfl rfl fun w22 hL23=>?_) gn
 have hp24:=pmI hL23 .n (.c 0 rfl .n) (by kernel_rfl)
 refine Calls.mono (Zh7 w22 (Fl ([]:List Yva)) x1 A2 n3 c4 A6 n7 c8 A10 n11 c12 (Rw.mono h5 (hL23.toSt hp24 (me 1 rfl))) (Rw.mono h9 (hL23.toSt hp24 (me 1 rfl))) (Rw.mono h13 (hL23.toSt hp24 (me 1 rfl))) (hL23.hFl hp24 (Yvm [] rfl)) (hL23.into hp24 _) r25 hv26) ?_
 rintro _ w48 ⟨A27,n28,c29,A33,n34,c35,A39,n40,c41,cs44,bs45,rfl,hM49,h30,hk31,h36,hk37,h42,hk43⟩
 have hL50:=hL23.call hp24 hM49
 refine ⟨_,_,_,rfl,hL50,?_⟩
 refine Zrq (fk:=Yxk) (z':=w.heap.size) (j:=3) hL23.env.size rfl ?_
 refine Yve 2 rfl (Yye [.slice none 0 0,.slice none 0 0,.slice none 0 0] Zqk rfl fun gb51=>?_) gn
 refine Yve 3 rfl (Za4 (vs:=[.slice A27 r25.2.1 c29,.slice A33 r25.2.2.1 c35,.slice A39 r25.2.2.2.1 c41]) (cs':=[.slice A27 r25.2.1 c29,.slice A33 r25.2.2.1 c35,.slice A39 r25.2.2.2.1 c41]) (M':=[.box gb51 26 [.slice A27 r25.2.1 c29,.slice A33 r25.2.2.1 c35,.slice A39 r25.2.2.2.1 c41],.own (.slice A27 n28 c29) 57 2 n28 (r25.1.terms.flatMap Yuz),.own (.slice A33 n34 c35) 60 2 n34 (r25.1.syms.flatMap Yvp),.own (.slice A39 n40 c41) 63 2 n40 cs44,Ywj Yxk (w.heap.size) none r25.2.2.2.2 cs44 bs45,.box gb20 26 [.slice A2 n3 c4,.slice A6 n7 c8,.slice A10 n11 c12]]) 0 sz_26 rfl rfl rfl rfl rfl rfl rfl rfl rfl ?_) gn
 refine Yua 4 rfl<|Yu9 rfl<|Yu4 rfl rfl<|Yu2 0 rfl (Yu3 rfl) gn rfl ?_
 obtain ⟨r56,hv57,h⟩:=h
 refine Yve 1 rfl (Yvz [.slice A15 n16 c17] rfl Tryd.func10 rfl rfl rfl fun w53 hL54=>?_) gn
 have hp55:=pmI hL54 .n (.c 0 rfl (.c 1 rfl (.c 2 rfl (.c 3 rfl (.c 4 rfl (.c 5 rfl .n)))))) (by kernel_rfl)
 refine Calls.mono (Zgt w53 (Fl ([]:List Yva)) x14 A15 n16 c17 (Rw.mono h18 (hL54.toSt hp55 (me 1 rfl))) (hL54.hFl hp55 (Yvm [] rfl)) (hL54.into hp55 _) r56 hv57) ?_
 rintro _ w63 ⟨A58,n59,c60,rfl,hM64,h61⟩
 have hL65:=hL54.call hp55 hM64
 refine ⟨_,_,_,rfl,hL65,?_⟩
 refine Yu2 2 rfl (Zap #[.int .i64 0,.int .i64 (-71),.int .i64 0] bd_31 rfl (by kernel_rfl)) gn rfl<|Yu2 3 rfl (Zap #[.int .i64 0,.int .i64 (-72),.int .i64 0] bd_31 rfl (by kernel_rfl)) gn rfl ?_
 refine Yve 4 rfl (Zdd (xs:=([(⟨0,-71,0⟩:Yud),(⟨0,-72,0⟩:Yud)]:List Yud)) [.int .i64 0,.int .i64 (-71),.int .i64 0,.int .i64 0,.int .i64 (-72),.int .i64 0] bs_27_2 rfl (by kernel_rfl) rfl rfl rfl rfl fun gb67 h68=>?_) gn
 obtain ⟨x72,hv73,h⟩:=h
 obtain ⟨hb74,h⟩:=h
 refine Yve 5 rfl (Zdj (zs:=x72) (cells':=x72.flatMap Yv0) 1 ap_27 rfl rfl rfl (Ow.weak hL54.env.size h61) (Nat.le_refl _) (Src.ownF (hl:=Yyz) (h1:=Yyy) 0 rfl h68) (by rw [hv73,List.flatMap_append] <;> rfl) (Yzh hv73 h68.hq) hb74 rfl rfl fun A69 c70 h71=>?_) gn
 refine Yu2 6 rfl (Yu3 rfl) gn rfl<|Yu2 7 rfl (Yuo Zl5 rfl h18.hq) gn rfl ?_
 obtain ⟨hb75,h⟩:=h
 have hle76:((x14.length:Int):Int).toNat≤n59 + 2:=by have q:=hb75; have q1:=h71.hq; omega
 refine Yu2 8 rfl (Zf5 (i:=(x14.length:Int)) Zgd rfl rfl (by have q:=hb75; have q1:=h71.hq; have q2:=h71.hn; omega) h71.hn rfl) gn rfl<|Yu2 9 rfl (Yu7 rfl) gn rfl<|Yua 10 rfl<|Yu9 rfl<|Yu9 rfl<|Yu4 rfl rfl<|Yu2 0 rfl (Yyr [.slice A27 r25.2.1 c29,.slice A33 r25.2.2.1 c35,.slice A39 r25.2.2.2.1 c41] 2 Yys rfl rfl rfl rfl) gn rfl<|Yu2 1 rfl (Yu3 rfl) gn rfl<|Yu2 2 rfl (Yyr [.slice A2 n3 c4,.slice A6 n7 c8,.slice A10 n11 c12] 7 Yys rfl rfl rfl rfl) gn rfl<|Yu2 3 rfl (Yu3 rfl) gn rfl<|Yu2 4 rfl (Yu3 rfl) gn rfl ?_
 obtain ⟨r80,hv81,h⟩:=h
 refine Yve 5 rfl (Yvz [.agg #[.slice A27 r25.2.1 c29,.slice A33 r25.2.2.1 c35,.slice A39 r25.2.2.2.1 c41],.slice A69 (((x14.length:Int):Int).toNat) c70,.agg #[.slice A2 n3 c4,.slice A6 n7 c8,.slice A10 n11 c12],.slice A15 n16 c17,.int .i64 x19] rfl Tryd.func11 rfl rfl rfl fun w77 hL78=>?_) gn
 have hp79:=pmI hL78 .n (.c 0 rfl (.c 1 rfl (.c 2 rfl (.c 3 rfl (.c 4 rfl (.c 5 rfl (.c 6 rfl (.c 7 rfl .n)))))))) (by kernel_rfl)
 refine Calls.mono (Zds w77 (Fl ([]:List Yva)) (⟨r25.1.terms,r25.1.syms,[]⟩:Yu5) r25.2.1 r25.2.2.1 r25.2.2.2.2 r25.2.2.2.1 x72 (((x14.length:Int):Int).toNat) x1 x14 x19 A27 n28 c29 A33 n34 c35 A39 n40 c41 A69 (n59 + 2) c70 A2 n3 c4 A6 n7 c8 A10 n11 c12 A15 n16 c17 (hL78.argO (dk:=Yuj) hp79 [] rfl 3 rfl rfl (Ow.weak hL23.env.size h30) (me 0 rfl) (Cells.flat _)) hk31 (hL78.argO (dk:=Yuq) hp79 [] rfl 4 rfl rfl (Ow.weak hL23.env.size h36) (me 0 rfl) (Cells.flat _)) hk37 (hL78.argFam (fk:=Yxk) (dk:=Zgr) hp79 [] rfl 5 6 rfl rfl rfl rfl (Ow.weak hL23.env.size h42) (fun _ _ _ _ k h=>⟨_,_,_,rfl,h,Nat.le_trans k (Nat.le_of_eq h.hq.symm)⟩)) hk43 (hL78.argO (dk:=Yxu) hp79 [] rfl 1 rfl rfl h71 (me 0 rfl) (Cells.flat _)) hle76 (Rw.mono h5 (hL78.toSt hp79 (me 1 rfl))) (Rw.mono h9 (hL78.toSt hp79 (me 1 rfl))) (Rw.mono h13 (hL78.toSt hp79 (me 1 rfl))) (Rw.mono h18 (hL78.toSt hp79 (me 1 rfl))) (hL78.tt hp79 hG0 (me 1 rfl)) (hL78.hFl hp79 (Yvm [] rfl)) (hL78.into hp79 _) r80 hv81) ?_
 rintro _ w82 ⟨rfl,hM83⟩
 have hL84:=hL78.call hp79 hM83
 refine ⟨_,_,_,rfl,hL84,?_⟩
 refine Yu2 6 rfl (Zf9 rfl) gn rfl<|Yua 7 rfl ?_
 by_cases hp85:r80=true
 ·have h:=Yul hp85 h
  refine Yur rfl _ rfl ((nf hp85))<|Yv2 rfl<|Yu9 rfl<|Yu4 rfl rfl<|Yu2 0 rfl (Yyr [.slice A27 r25.2.1 c29,.slice A33 r25.2.2.1 c35,.slice A39 r25.2.2.2.1 c41] 2 Yys rfl rfl rfl rfl) gn rfl ?_
  obtain ⟨r89,hv90,h⟩:=h
  refine Zrq (fk:=Yxk) (z':=0) (j:=6) (Nat.zero_le _) rfl ?_
  refine Yve 1 rfl (Yvz [.agg #[.slice A27 r25.2.1 c29,.slice A33 r25.2.2.1 c35,.slice A39 r25.2.2.2.1 c41]] rfl Tryd.func12 rfl rfl rfl fun w86 hL87=>?_) gn
  have hp88:=pmI hL87 (.c 5 rfl (.c 6 rfl .n)) (.c 0 rfl (.c 1 rfl (.c 2 rfl (.c 3 rfl (.c 4 rfl (.c 7 rfl .n)))))) (by kernel_rfl)
  refine Calls.mono (Zg7 w86 (Fl ([]:List Yva)) (⟨r25.1.terms,r25.1.syms,[]⟩:Yu5) r25.2.1 r25.2.2.1 r25.2.2.2.2 r25.2.2.2.1 A27 n28 c29 A33 n34 c35 w.heap.size A39 n40 c41 cs44 bs45 (hL87.argO (dk:=Yuj) hp88 [5,6] rfl 3 rfl rfl (Ow.weak hL23.env.size h30) (me 0 rfl) (Cells.flat _)) hk31 (hL87.argO (dk:=Yuq) hp88 [5,6] rfl 4 rfl rfl (Ow.weak hL23.env.size h36) (me 0 rfl) (Cells.flat _)) hk37 hL87.env.size (Ow.weak hL23.env.size h42) hk43 (hL87.hFl hp88 (Yvm [] rfl)) (hL87.into hp88 _) r89 hv90) ?_
  rintro _ w91 ⟨bs95,rfl,hM92,h94⟩
  have hL93:=hL87.call hp88 hM92
  refine ⟨_,_,_,rfl,hL93,?_⟩
  refine Yua 2 rfl<|Yu9 rfl ?_
  obtain ⟨r99,hv100,h⟩:=h
  obtain ⟨r125,hv126,h⟩:=h
  have hns:Region.noSelect (Code.ops q3c15)=true:=by kernel_rfl
  refine Yvr [] 8 rfl rfl mix rfl (.c 0 rfl (.c 1 rfl .n))<|wfv 0 rfl (Yyr [.slice A27 r25.2.1 c29,.slice A33 r25.2.2.1 c35,.slice A39 r25.2.2.2.1 c41] 4 Yys rfl rfl rfl rfl) gn hns rfl<|wfv 1 rfl (Yu3 rfl) gn hns rfl<|wfv 2 rfl (Yyr [.slice A27 r25.2.1 c29,.slice A33 r25.2.2.1 c35,.slice A39 r25.2.2.2.1 c41] 4 Yys rfl rfl rfl rfl) gn hns rfl<|wfv 4 rfl (Yu3 rfl) gn hns rfl<|wfv 5 rfl (Yu3 rfl) gn hns rfl ?_
  refine Ywl [3] (by kernel_rfl) rfl ⟨Zdm 3 rfl gn rfl (Yvz [.agg #[.slice A27 r25.2.1 c29,.slice A33 r25.2.2.1 c35,.slice A39 r25.2.2.2.1 c41]] rfl Tryd.func13 rfl rfl rfl fun w282 hL283=>?_),trivial⟩
  have hp284:=pmI hL283 .n (.c 0 rfl (.c 1 rfl (.c 2 rfl (.c 3 rfl (.c 4 rfl (.c 5 rfl (.c 6 rfl (.c 7 rfl .n)))))))) (by kernel_rfl)
  refine Calls.mono (Zeo w282 (Fl ([]:List Yva)) (⟨(r25.1.terms.take r25.2.1),(r25.1.syms.take r25.2.2.1),((r89.take r25.2.2.2.1).map Zbe)⟩:Yu5) A27 r25.2.1 c29 A33 r25.2.2.1 c35 A39 r25.2.2.2.1 c41 (Rw.w (hL283.argV (dk:=Yuj) hp284 [] rfl 5 rfl rfl (Ow.weak hL23.env.size h30) (me 0 rfl) (Cells.flat _) (Vw.prefix hk31) (Nat.le_trans hk31 (Ow.weak hL23.env.size h30).hn) (Ow.weak hL23.env.size h30).hm) (by rw [(Eq.refl (r25.1.terms.take r25.2.1))]; rfl)) (Rw.w (hL283.argV (dk:=Yuq) hp284 [] rfl 6 rfl rfl (Ow.weak hL23.env.size h36) (me 0 rfl) (Cells.flat _) (Vw.prefix hk37) (Nat.le_trans hk37 (Ow.weak hL23.env.size h36).hn) (Ow.weak hL23.env.size h36).hm) (by rw [(Eq.refl (r25.1.syms.take r25.2.2.1))]; rfl)) (Rw.w (Rw.pre (Rw.vis (dk:=Zgr) (dk2:=Yun) Zbe rfl (fun x cs=>by rintro ⟨A,n,c,rfl,h,k⟩; exact ⟨A,_,c,rfl,Rw.pre h k⟩) (hL283.argFam (fk:=Yxk) (dk:=Zgr) hp284 [] rfl 0 1 rfl rfl rfl rfl h94 (fun _ _ _ _ k h=>⟨_,_,_,rfl,h,Nat.le_trans k (Nat.le_of_eq h.hq.symm)⟩))) hk43) (by rw [List.map_take])) (hL283.hFl hp284 (Yvm [] rfl)) (hL283.into hp284 _) r99 hv100) ?_
  rintro _ w299 ⟨A285,n286,c287,A289,n290,c291,A293,n294,c295,cs297,bs298,rfl,hM300,h288,h292,h296⟩
  have hL301:=hL283.call hp284 hM300
  refine ⟨_,_,_,rfl,hL301,?_⟩
  refine ⟨Yvm [4,5,6,7,8,9,10,11] rfl,Yvm [0,1] rfl,?_⟩
  refine wf_famz (fk:=Zgc) (z':=w.heap.size) (j:=3) hL283.env.size rfl<|wf_widen (fk:=Zgc) (z:=w.heap.size) (j:=3) Yxk Zcx (fun _=>rfl) (fun _=>rfl) (fun x d h=>by obtain ⟨A,n,c⟩:=d; simp only at h; subst h; rfl) (fun _=>Nat.le_refl _) rfl rfl rfl ?_
  refine Ywl [6] (by kernel_rfl) rfl ⟨Zdm 6 rfl gn rfl (Yvz [.agg #[.slice A27 r25.2.1 c29,.slice A33 r25.2.2.1 c35,.slice A39 r25.2.2.2.1 c41],.slice A69 (((x14.length:Int):Int).toNat) c70,.agg #[.slice A285 n286 c287,.slice A289 n290 c291,.slice A293 n294 c295],.slice A15 n16 c17,.int .i64 x19] rfl Tryd.func11 rfl rfl rfl fun w308 hL309=>?_),trivial⟩
  have hp310:=pmI hL309 .n (.c 0 rfl (.c 1 rfl (.c 2 rfl (.c 3 rfl (.c 4 rfl (.c 5 rfl (.c 6 rfl (.c 7 rfl (.c 8 rfl (.c 9 rfl (.c 10 rfl (.c 11 rfl .n)))))))))))) (by kernel_rfl)
  refine Calls.mono (Zds w308 (Fl ([]:List Yva)) (⟨r25.1.terms,r25.1.syms,[]⟩:Yu5) r25.2.1 r25.2.2.1 r89 r25.2.2.2.1 x72 (((x14.length:Int):Int).toNat) r99 x14 x19 A27 n28 c29 A33 n34 c35 A39 n40 c41 A69 (n59 + 2) c70 A285 n286 c287 A289 n290 c291 A293 n294 c295 A15 n16 c17 (hL309.argO (dk:=Yuj) hp310 [] rfl 9 rfl rfl (Ow.weak hL23.env.size h30) (me 0 rfl) (Cells.flat _)) hk31 (hL309.argO (dk:=Yuq) hp310 [] rfl 10 rfl rfl (Ow.weak hL23.env.size h36) (me 0 rfl) (Cells.flat _)) hk37 (hL309.argFam (fk:=Yxk) (dk:=Zgr) hp310 [] rfl 4 5 rfl rfl rfl rfl h94 (fun _ _ _ _ k h=>⟨_,_,_,rfl,h,Nat.le_trans k (Nat.le_of_eq h.hq.symm)⟩)) hk43 (hL309.argO (dk:=Yxu) hp310 [] rfl 7 rfl rfl h71 (me 0 rfl) (Cells.flat _)) hle76 (hL309.argO (dk:=Yuj) hp310 [] rfl 0 rfl rfl (Ow.weak hL283.env.size h288) (me 0 rfl) (Cells.flat _)) (hL309.argO (dk:=Yuq) hp310 [] rfl 1 rfl rfl (Ow.weak hL283.env.size h292) (me 0 rfl) (Cells.flat _)) (Rw.w (Rw.vis (dk:=Zgr) (dk2:=Yun) Zbe rfl (fun x cs=>by rintro ⟨A,n,c,rfl,h,k⟩; exact ⟨A,_,c,rfl,Rw.pre h k⟩) (hL309.argFam (fk:=Yxk) (dk:=Zgr) hp310 [] rfl 2 3 rfl rfl rfl rfl (Ow.w (Ow.weak hL283.env.size h296) (List.length_map _)) (fun _ _ _ _ k h=>⟨_,_,_,rfl,h,Nat.le_trans k (Nat.le_of_eq h.hq.symm)⟩))) (vw_63 _)) (Rw.mono h18 (hL309.toSt hp310 (me 1 rfl))) (hL309.tt hp310 hG0 (me 1 rfl)) (hL309.hFl hp310 (Yvm [] rfl)) (hL309.into hp310 _) r125 hv126) ?_
  rintro _ w311 ⟨rfl,hM312⟩
  have hL313:=hL309.call hp310 hM312
  refine ⟨_,_,_,rfl,hL313,?_⟩
  refine ⟨Yvm [4,5,6,7,8,9,10,11] rfl,Yvm [0,1] rfl,?_⟩
  refine wfv 7 rfl (Yu7 rfl) gn hns rfl<|Yvx (by kernel_rfl) ?_
  refine Yvb [.bool r125] rfl Tryd.func3 rfl (.tmp rfl (.nil)) fun wr hLr=>?_
  have hMr:=hLr.pk0 (.c 1 rfl .n)
  show Yzg w F  r (.returned (Yvl [.bool r125])) wr
  rw [h]
  exact ⟨rfl,hMr⟩
 ·have h:=Yum hp85 h
  refine Yv4 rfl _ rfl ((nt (bf hp85)))<|Yu9 rfl<|Yu4 rfl rfl<|Yu2 0 rfl (Yu7 rfl) gn rfl<|Yua 1 rfl ?_
  refine Yvb [.bool false] rfl Tryd.func3 rfl (.tmp rfl (.nil)) fun wr hLr=>?_
  have hMr:=hLr.pk0 (.c 1 rfl .n)
  show Yzg w F  r (.returned (Yvl [.bool false])) wr
  rw [h]
  exact ⟨rfl,hMr⟩
end Go.Proofs.YtadcichlnacagaaDoor.K
