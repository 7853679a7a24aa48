/- What the machine's calls do, function by function, printed by my own tool. Condition of each: its relation holds of the answer, and what is handed in lies in memory as told. -/
import Derived.Test.YtelafghkjlpojaaK2
set_option linter.unusedVariables false
set_option maxRecDepth 100000
set_option maxHeartbeats 4000000
namespace Go.Proofs.Ytelafghkjlpojaa.K
open Go.Proofs.Ytelafghkjlpojaa.B Go.Proofs.Ytelafghkjlpojaa.R Go.RowKit
noncomputable abbrev Yq9:=Code.snd (Code.snd (Code.snd (Code.snd (Code.snd (Yhm Try.f14)))))
noncomputable abbrev Ypv:=Code.fst (Code.fst (Code.snd (Code.fst (Code.snd (Code.snd (Code.snd (Code.snd (Yhm Try.f14))))))))
noncomputable abbrev Ytg:=Code.snd (Code.snd Yq9)
noncomputable abbrev Ypf:=Code.fst (Code.fst (Code.snd (Code.fst (Code.snd Yq9))))
noncomputable abbrev q14c51:=Code.fst (Code.fst (Code.fst (Code.snd Ypf)))
abbrev Yhy (w:World) (F:Nat→Prop) (r:Bool):Ending→World→Prop:=fun e w'=>e=.returned (.bool r)∧B.Loc w w' [] [St w []]
noncomputable abbrev Yil (w:World) (F:Nat→Prop) (r:Bool):Cx:=⟨Try.prog,14,Try.f14,109,Yhy w F  r,w⟩
theorem Ylz (w:World) (F:Nat→Prop) (x1:Yfz) (k6:Nat) (k13:Nat) (x20:List (Yg8 × Nat)) (k21:Nat) (x24:Yfz) (A2:Option Addr) (n3:Nat) (c4:Nat) (A9:Option Addr) (n10:Nat) (c11:Nat) (A16:Option Addr) (n17:Nat) (c18:Nat) (A25:Option Addr) (n26:Nat) (c27:Nat) (A29:Option Addr) (n30:Nat) (c31:Nat) (A33:Option Addr) (n34:Nat) (c35:Nat) (h5:Rw Ygi w (St w []).av A2 n3 c4 x1.terms) (hk7:k6≤n3) (h12:Rw Ygu w (St w []).av A9 n10 c11 x1.syms) (hk14:k13≤n10) (h19:Rw Yip w (St w []).av A16 n17 c18 x20) (hk22:k21≤n17) (h28:Rw Ygi w (St w []).av A25 n26 c27 x24.terms) (h32:Rw Ygu w (St w []).av A29 n30 c31 x24.syms) (h36:Rw Ygs w (St w []).av A33 n34 c35 x24.prods) (hF:∀ b,F b→b < w.heap.size∧∀ o ∈ ([]:List (List Nat)),b ∉ o) (hL0:B.Loc w w [] [Sm w.heap.size F w [],St w []]) (r:Bool) (h:Yjq x1 k6 k13 x20 k21 x24 r):Calls Try.prog 14 #[.agg #[.slice A2 k6 c4,.slice A9 k13 c11,.slice A16 k21 c18],.agg #[.slice A25 n26 c27,.slice A29 n30 c31,.slice A33 n34 c35]] w (Yhy w F  r):=by
 unfold Yjq at h
 have h8:=Rw.pre h5 hk7
 have h15:=Rw.pre h12 hk14
 have h23:=Rw.pre h19 hk22
 refine Yh0 (vs:=[.agg #[.slice A2 k6 c4,.slice A9 k13 c11,.slice A16 k21 c18],.agg #[.slice A25 n26 c27,.slice A29 n30 c31,.slice A33 n34 c35]]) 109 Try.func14 rfl Try.ntmps14 rfl hL0 ?_
 show G (Yil w F r) _ _ _ _
 refine Yg3 rfl<|Yfy rfl rfl ?_
 refine Ygw 0 rfl (Ymj [.slice A2 k6 c4,.slice A9 k13 c11,.slice A16 k21 c18] rfl rfl rfl fun gb37=>?_) gn
 refine Ygw 1 rfl (Ymj [.slice A25 n26 c27,.slice A29 n30 c31,.slice A33 n34 c35] rfl rfl rfl fun gb39=>?_) gn
 refine Yfx 2 rfl (Yg1 rfl) gn rfl<|Yg7 3 rfl<|Yg3 rfl<|Yfy rfl rfl<|Yfx 0 rfl (Ygc Yi6 rfl) gn rfl<|Yfx 1 rfl (Ygg 1 Ykt rfl rfl rfl) gn rfl<|Yfx 2 rfl (Ygc Yi6 rfl) gn rfl<|Yfx 3 rfl (Ygg 0 Ykt rfl rfl rfl) gn rfl<|Yfx 4 rfl (Ygn Ylq rfl h28.hq) gn rfl<|Yfx 5 rfl (Ygj rfl rfl rfl) gn rfl ?_
 obtain ⟨hb41,h⟩:=h
 have hle42:(w64 ((x24.terms.length:Int) + 20):Int).toNat≤n3:=by have q:=hb41; have q1:=h5.hq; omega
 have h43:=Rw.pre h5 hle42
 refine Yfx 6 rfl (Ynm (i:=w64 ((x24.terms.length:Int) + 20)) Yqa rfl rfl (by have q:=hb41; have q1:=h5.hq; have q2:=h5.hn; omega) h8.hn rfl) gn rfl<|Yfx 7 rfl (Yg1 rfl) gn rfl<|Yg7 8 rfl<|Yg3 rfl<|Yfy rfl rfl<|Yfx 0 rfl (Ygc Yih rfl) gn rfl<|Yfx 1 rfl (Ygg 1 Yl8 rfl rfl rfl) gn rfl<|Yfx 2 rfl (Ygc Yih rfl) gn rfl<|Yfx 3 rfl (Ygg 0 Yl8 rfl rfl rfl) gn rfl<|Yfx 4 rfl (Ygn Yme rfl h32.hq) gn rfl<|Yfx 5 rfl (Ygj rfl rfl rfl) gn rfl ?_
 obtain ⟨hb44,h⟩:=h
 have hle45:(w64 ((x24.syms.length:Int) + 20):Int).toNat≤n10:=by have q:=hb44; have q1:=h12.hq; omega
 have h46:=Rw.pre h12 hle45
 refine Yfx 6 rfl (Ynm (i:=w64 ((x24.syms.length:Int) + 20)) Ypy rfl rfl (by have q:=hb44; have q1:=h12.hq; have q2:=h12.hn; omega) h15.hn rfl) gn rfl<|Yfx 7 rfl (Yg1 rfl) gn rfl<|Yg7 8 rfl<|Yg3 rfl<|Yfy rfl rfl<|Yfx 0 rfl (Ygc Yh1 rfl) gn rfl<|Yfx 1 rfl (Ygg 1 Yj4 rfl rfl rfl) gn rfl<|Yfx 2 rfl (Ygc Yh1 rfl) gn rfl<|Yfx 3 rfl (Ygg 0 Yj4 rfl rfl rfl) gn rfl<|Yfx 4 rfl (Ygn Ymz rfl h36.hq) gn rfl<|Yfx 5 rfl (Ygj rfl rfl rfl) gn rfl ?_
 obtain ⟨hb47,h⟩:=h
 have hle48:(w64 ((x24.prods.length:Int) + 20):Int).toNat≤n17:=by have q:=hb47; have q1:=h19.hq; omega
 have h49:=Rw.pre h19 hle48
 refine Yfx 6 rfl (Ynm (i:=w64 ((x24.prods.length:Int) + 20)) Yjk rfl rfl (by have q:=hb47; have q1:=h19.hq; have q2:=h19.hn; omega) h23.hn rfl) gn rfl<|Yfx 7 rfl (Yg1 rfl) gn rfl<|Yg7 8 rfl<|Yg3 rfl<|Yg3 rfl<|Yfy rfl rfl<|Yfx 0 rfl (Yg1 rfl) gn rfl<|Yg7 1 rfl<|Ygm rfl<|Yij rfl ?_
 have key1:∀ s,Yga (fun (s:Int) o=>Yjm x24 x1 x20 k6 k13 k21 s o) s r→(fun (s:Int)=>∀ (_:Unit),G (Yil w F r) [.code Ypv,.inLoop Ypv,.inBlock 0,.code Yq9] [(2,.pointer (some ⟨gb37,0,none⟩)),(3,.pointer (some ⟨gb39,0,none⟩)),(5,.slice A2 ((w64 ((x24.terms.length:Int) + 20):Int).toNat) c4),(6,.slice A9 ((w64 ((x24.syms.length:Int) + 20):Int).toNat) c11),(7,.slice A16 ((w64 ((x24.prods.length:Int) + 20):Int).toNat) c18),(8,.int .i64 s)] [.box gb39 26 [.slice A25 n26 c27,.slice A29 n30 c31,.slice A33 n34 c35],.box gb37 26 [.slice A2 k6 c4,.slice A9 k13 c11,.slice A16 k21 c18]] [Sm w.heap.size F w [],St w []]) s:=by
  intro s hs
  refine Yga.ind (mot:=(fun (s:Int)=>∀ (_:Unit),G (Yil w F r) [.code Ypv,.inLoop Ypv,.inBlock 0,.code Yq9] [(2,.pointer (some ⟨gb37,0,none⟩)),(3,.pointer (some ⟨gb39,0,none⟩)),(5,.slice A2 ((w64 ((x24.terms.length:Int) + 20):Int).toNat) c4),(6,.slice A9 ((w64 ((x24.syms.length:Int) + 20):Int).toNat) c11),(7,.slice A16 ((w64 ((x24.prods.length:Int) + 20):Int).toNat) c18),(8,.int .i64 s)] [.box gb39 26 [.slice A25 n26 c27,.slice A29 n30 c31,.slice A33 n34 c35],.box gb37 26 [.slice A2 k6 c4,.slice A9 k13 c11,.slice A16 k21 c18]] [Sm w.heap.size F w [],St w []])) ?_ hs
  clear hs s
  intro x76 o1 h hO1
  show ∀ (_:Unit),G (Yil w F r) [.code Ypv,.inLoop Ypv,.inBlock 0,.code Yq9] [(2,.pointer (some ⟨gb37,0,none⟩)),(3,.pointer (some ⟨gb39,0,none⟩)),(5,.slice A2 ((w64 ((x24.terms.length:Int) + 20):Int).toNat) c4),(6,.slice A9 ((w64 ((x24.syms.length:Int) + 20):Int).toNat) c11),(7,.slice A16 ((w64 ((x24.prods.length:Int) + 20):Int).toNat) c18),(8,.int .i64 x76)] [.box gb39 26 [.slice A25 n26 c27,.slice A29 n30 c31,.slice A33 n34 c35],.box gb37 26 [.slice A2 k6 c4,.slice A9 k13 c11,.slice A16 k21 c18]] [Sm w.heap.size F w [],St w []]
  intro _
  have h:Yjm x24 x1 x20 k6 k13 k21 x76 o1:=h
  unfold Yjm at h
  refine Yg3 rfl<|Yg3 rfl<|Yfy rfl rfl<|Yfx 0 rfl (Yg2 rfl) gn rfl<|Yfx 1 rfl (Ygj rfl rfl rfl) gn rfl<|Yg7 2 rfl ?_
  by_cases hp357:x76 < 20
  ·have h:=Ygf hp357 h
   refine Ygp rfl _ rfl ((decide_eq_true hp357))<|Ygt rfl<|Yg3 rfl<|Ygm rfl<|Yg3 rfl<|Yfy rfl rfl<|Yfx 0 rfl (Yg2 rfl) gn rfl<|Yfx 1 rfl (Ygc Yi6 rfl) gn rfl<|Yfx 2 rfl (Ygg 0 Ykt rfl rfl rfl) gn rfl<|Yfx 3 rfl (Ygn Ylq rfl h28.hq) gn rfl<|Yfx 4 rfl (Yg2 rfl) gn rfl<|Yfx 5 rfl (Ygj rfl rfl rfl) gn rfl ?_
   obtain ⟨hb358,h⟩:=h
   have hr359:=Rw.readF (s:=St w []) (hl:=Yki) (h1:=Ykk) h43 hb358
   refine Yfx 6 rfl (Yhp (s:=St w []) Yqa rfl rfl h43 hb358) gn rfl<|Yfx 7 rfl (Ymk (St w []) ld_58 rfl hr359 rfl (me 1 rfl)) gn rfl<|Yfx 8 rfl (Yn2 #[.string (⟨#[109,97,114,107]⟩:ByteArray),.bool false] bd_58 rfl (by kernel_rfl)) gn rfl<|Yfx 9 rfl (Yq0 eq_58 rfl rfl (Yof (ix (x1.terms.take ((w64 ((x24.terms.length:Int) + 20):Int).toNat)) (w64 ((x24.terms.length:Int) + x76))) (⟨(⟨#[109,97,114,107]⟩:ByteArray),false⟩:Ygd))) gn rfl<|Yfx 10 rfl (Yg2 rfl) gn rfl ?_
   by_cases hp360:ix (x1.terms.take ((w64 ((x24.terms.length:Int) + 20):Int).toNat)) (w64 ((x24.terms.length:Int) + x76))=(⟨(⟨#[109,97,114,107]⟩:ByteArray),false⟩:Ygd)
   ·have h:=Ygf hp360 h
    refine Yhq 45 rfl ((nf (decide_eq_true hp360)))<|Yfx 11 rfl (Yg2 rfl) (gy 45 rfl rfl) rfl<|Yfx 12 rfl (Ygc Yih rfl) (gy 45 rfl rfl) rfl<|Yfx 13 rfl (Ygg 0 Yl8 rfl rfl rfl) (gy 45 rfl rfl) rfl<|Yfx 14 rfl (Ygn Yme rfl h32.hq) (gy 45 rfl rfl) rfl<|Yfx 15 rfl (Yg2 rfl) (gy 45 rfl rfl) rfl<|Yfx 16 rfl (Ygj rfl rfl rfl) (gy 45 rfl rfl) rfl ?_
    obtain ⟨hb361,h⟩:=h
    have hr362:=Rw.readF (s:=St w []) (hl:=Yma) (h1:=Ym9) h46 hb361
    refine Yfx 17 rfl (Yhp (s:=St w []) Ypy rfl rfl h46 hb361) (gy 45 rfl rfl) rfl<|Yfx 18 rfl (Ymk (St w []) ld_61 rfl hr362 rfl (me 1 rfl)) (gy 45 rfl rfl) rfl<|Yfx 19 rfl (Yn2 #[.string (⟨#[109,97,114,107]⟩:ByteArray),.int .i64 0] bd_61 rfl (by kernel_rfl)) (gy 45 rfl rfl) rfl<|Yfx 20 rfl (Yq0 eq_61 rfl rfl (Yqi (ix (x1.syms.take ((w64 ((x24.syms.length:Int) + 20):Int).toNat)) (w64 ((x24.syms.length:Int) + x76))) (⟨(⟨#[109,97,114,107]⟩:ByteArray),0⟩:Ygz))) (gy 45 rfl rfl) rfl<|Yfx 21 rfl (Ygy (b:=false) rfl rfl) gn rfl<|Yfx 22 rfl (Yg2 rfl) gn rfl ?_
    by_cases hp363:ix (x1.syms.take ((w64 ((x24.syms.length:Int) + 20):Int).toNat)) (w64 ((x24.syms.length:Int) + x76))=(⟨(⟨#[109,97,114,107]⟩:ByteArray),0⟩:Ygz)
    ·have h:=Ygf hp363 h
     refine Yhq 57 rfl ((nf (decide_eq_true hp363)))<|Yfx 23 rfl (Yg2 rfl) (gy 57 rfl rfl) rfl<|Yfx 24 rfl (Ygc Yh1 rfl) (gy 57 rfl rfl) rfl<|Yfx 25 rfl (Ygg 0 Yj4 rfl rfl rfl) (gy 57 rfl rfl) rfl<|Yfx 26 rfl (Ygn Ymz rfl h36.hq) (gy 57 rfl rfl) rfl<|Yfx 27 rfl (Yg2 rfl) (gy 57 rfl rfl) rfl<|Yfx 28 rfl (Ygj rfl rfl rfl) (gy 57 rfl rfl) rfl ?_
     obtain ⟨hb364,h⟩:=h
     obtain ⟨ce366,hK367,hr365⟩:=Rw.read (s:=St w []) h49 hb364
     obtain ⟨A368,n369,c370,rfl,h371,hk372⟩:=hK367
     refine Yfx 29 rfl (Yhp (s:=St w []) Yjk rfl rfl h49 hb364) (gy 57 rfl rfl) rfl<|Yfx 30 rfl (Yjp Ykw rfl) (gy 57 rfl rfl) rfl<|Yfx 31 rfl (Yjj (kk:=(w64 ((x24.prods.length:Int) + x76):Int).toNat * 2) (j:=0) (St w []) Ymu rfl hr365 rfl (me 1 rfl)) (gy 57 rfl rfl) rfl<|Yfx 32 rfl (Yg2 rfl) (gy 57 rfl rfl) rfl<|Yfx 33 rfl (Ygj rfl rfl rfl) (gy 57 rfl rfl) rfl<|Yfx 34 rfl (Ygj rfl rfl rfl) (gy 57 rfl rfl) rfl<|Yfx 35 rfl (Ygy (b:=false) rfl rfl) gn rfl<|Yfx 36 rfl (Yg2 rfl) gn rfl ?_
     by_cases hp373:((ix (x20.take ((w64 ((x24.prods.length:Int) + 20):Int).toNat)) (w64 ((x24.prods.length:Int) + x76))).1).lhs=w64 (900 + x76)
     ·have h:=Ygf hp373 h
      refine Yhq 71 rfl ((eqib hp373))<|Yfx 37 rfl (Yg2 rfl) (gy 71 rfl rfl) rfl<|Yfx 38 rfl (Ygc Yh1 rfl) (gy 71 rfl rfl) rfl<|Yfx 39 rfl (Ygg 0 Yj4 rfl rfl rfl) (gy 71 rfl rfl) rfl<|Yfx 40 rfl (Ygn Ymz rfl h36.hq) (gy 71 rfl rfl) rfl<|Yfx 41 rfl (Yg2 rfl) (gy 71 rfl rfl) rfl<|Yfx 42 rfl (Ygj rfl rfl rfl) (gy 71 rfl rfl) rfl ?_
      obtain ⟨ce375,hK376,hr374⟩:=Rw.read (s:=St w []) h49 hb364
      obtain ⟨A377,n378,c379,rfl,h380,hk381⟩:=hK376
      refine Yfx 43 rfl (Yhp (s:=St w []) Yjk rfl rfl h49 hb364) (gy 71 rfl rfl) rfl<|Yfx 44 rfl (Yjp Yko rfl) (gy 71 rfl rfl) rfl<|Yfx 45 rfl (Yjj (kk:=(w64 ((x24.prods.length:Int) + x76):Int).toNat * 2) (j:=1) (St w []) Yn0 rfl hr374 rfl (me 1 rfl)) (gy 71 rfl rfl) rfl<|Yfx 46 rfl (Ygn Ynd rfl (Rw.pre h380 hk381).hq) (gy 71 rfl rfl) rfl<|Yfx 47 rfl (Ygj rfl rfl rfl) (gy 71 rfl rfl) rfl<|Yfx 48 rfl (Ygy (b:=false) rfl rfl) gn rfl<|Yg7 49 rfl ?_
      by_cases hp382:(((((ix (x20.take ((w64 ((x24.prods.length:Int) + 20):Int).toNat)) (w64 ((x24.prods.length:Int) + x76))).1).rhs).take ((ix (x20.take ((w64 ((x24.prods.length:Int) + 20):Int).toNat)) (w64 ((x24.prods.length:Int) + x76))).2)).length:Int) > 0
      ·have h:=Ygf hp382 h
       refine Ygp rfl _ rfl ((decide_eq_true hp382))<|Yg3 rfl<|Yfy rfl rfl<|Yfx 0 rfl (Yg1 rfl) gn rfl<|Yg7 1 rfl ?_
       have h:=Out.inr hO1 h
       refine Ygx [.bool false] rfl Try.func14 rfl (.tmp rfl (.nil)) fun wr hLr=>?_
       have hMr:=hLr.pk0 (.c 1 rfl .n)
       show Yhy w F  r (.returned (Yhe [.bool false])) wr
       rw [h]
       exact ⟨rfl,hMr⟩
      ·have h:=Yge hp382 h
       refine Ygl rfl _ rfl ((decide_eq_false hp382))<|Ygt rfl<|Ygq<|Yfy rfl rfl<|Yfx 0 rfl (Yg2 rfl) gn rfl<|Yfx 1 rfl (Ygj rfl rfl rfl) gn rfl<|Yfx 2 rfl (Yg1 rfl) gn rfl<|Yg7 3 rfl<|Ygv ?_
       have ih:=Out.inl hO1 h
       exact Yhj [0,1] (ih ()) ⟨rfl,rfl,rfl,rfl,rfl,rfl,trivial⟩ (.cons_cons _ (.cons_cons _ (.slnil))) rfl
     ·have h:=Yge hp373 h
      refine Yhq 71 rfl ((neib hp373))<|Yg4 37 rfl (ps 71 rfl rfl rfl)<|Yg4 38 rfl (ps 71 rfl rfl rfl)<|Yg4 39 rfl (ps 71 rfl rfl rfl)<|Yg4 40 rfl (ps 71 rfl rfl rfl)<|Yg4 41 rfl (ps 71 rfl rfl rfl)<|Yg4 42 rfl (ps 71 rfl rfl rfl)<|Yg4 43 rfl (ps 71 rfl rfl rfl)<|Yg4 44 rfl (ps 71 rfl rfl rfl)<|Yg4 45 rfl (ps 71 rfl rfl rfl)<|Yg4 46 rfl (ps 71 rfl rfl rfl)<|Yg4 47 rfl (ps 71 rfl rfl rfl) ?_
      refine Yfx 48 rfl (Ygy (b:=true) rfl rfl) gn rfl<|Yg7 49 rfl<|Ygp rfl _ rfl (rfl)<|Yg3 rfl<|Yfy rfl rfl<|Yfx 0 rfl (Yg1 rfl) gn rfl<|Yg7 1 rfl ?_
      have h:=Out.inr hO1 h
      refine Ygx [.bool false] rfl Try.func14 rfl (.tmp rfl (.nil)) fun wr hLr=>?_
      have hMr:=hLr.pk0 (.c 1 rfl .n)
      show Yhy w F  r (.returned (Yhe [.bool false])) wr
      rw [h]
      exact ⟨rfl,hMr⟩
    ·have h:=Yge hp363 h
     refine Yhq 57 rfl ((nt (decide_eq_false hp363)))<|Yg4 23 rfl (ps 57 rfl rfl rfl)<|Yg4 24 rfl (ps 57 rfl rfl rfl)<|Yg4 25 rfl (ps 57 rfl rfl rfl)<|Yg4 26 rfl (ps 57 rfl rfl rfl)<|Yg4 27 rfl (ps 57 rfl rfl rfl)<|Yg4 28 rfl (ps 57 rfl rfl rfl)<|Yg4 29 rfl (ps 57 rfl rfl rfl)<|Yg4 30 rfl (ps 57 rfl rfl rfl)<|Yg4 31 rfl (ps 57 rfl rfl rfl)<|Yg4 32 rfl (ps 57 rfl rfl rfl)<|Yg4 33 rfl (ps 57 rfl rfl rfl) ?_
     refine Yg4 34 rfl (ps 57 rfl rfl rfl)<|Yfx 35 rfl (Ygy (b:=true) rfl rfl) gn rfl<|Yfx 36 rfl (Yg2 rfl) gn rfl<|Yg4 37 rfl (ps 71 rfl rfl rfl)<|Yg4 38 rfl (ps 71 rfl rfl rfl)<|Yg4 39 rfl (ps 71 rfl rfl rfl)<|Yg4 40 rfl (ps 71 rfl rfl rfl)<|Yg4 41 rfl (ps 71 rfl rfl rfl)<|Yg4 42 rfl (ps 71 rfl rfl rfl)<|Yg4 43 rfl (ps 71 rfl rfl rfl)<|Yg4 44 rfl (ps 71 rfl rfl rfl)<|Yg4 45 rfl (ps 71 rfl rfl rfl) ?_
     refine Yg4 46 rfl (ps 71 rfl rfl rfl)<|Yg4 47 rfl (ps 71 rfl rfl rfl)<|Yfx 48 rfl (Ygy (b:=true) rfl rfl) gn rfl<|Yg7 49 rfl<|Ygp rfl _ rfl (rfl)<|Yg3 rfl<|Yfy rfl rfl<|Yfx 0 rfl (Yg1 rfl) gn rfl<|Yg7 1 rfl ?_
     have h:=Out.inr hO1 h
     refine Ygx [.bool false] rfl Try.func14 rfl (.tmp rfl (.nil)) fun wr hLr=>?_
     have hMr:=hLr.pk0 (.c 1 rfl .n)
     show Yhy w F  r (.returned (Yhe [.bool false])) wr
     rw [h]
     exact ⟨rfl,hMr⟩
   ·have h:=Yge hp360 h
    refine Yhq 45 rfl ((nt (decide_eq_false hp360)))<|Yg4 11 rfl (ps 45 rfl rfl rfl)<|Yg4 12 rfl (ps 45 rfl rfl rfl)<|Yg4 13 rfl (ps 45 rfl rfl rfl)<|Yg4 14 rfl (ps 45 rfl rfl rfl)<|Yg4 15 rfl (ps 45 rfl rfl rfl)<|Yg4 16 rfl (ps 45 rfl rfl rfl)<|Yg4 17 rfl (ps 45 rfl rfl rfl)<|Yg4 18 rfl (ps 45 rfl rfl rfl)<|Yg4 19 rfl (ps 45 rfl rfl rfl)<|Yg4 20 rfl (ps 45 rfl rfl rfl)<|Yfx 21 rfl (Ygy (b:=true) rfl rfl) gn rfl ?_
    refine Yfx 22 rfl (Yg2 rfl) gn rfl<|Yg4 23 rfl (ps 57 rfl rfl rfl)<|Yg4 24 rfl (ps 57 rfl rfl rfl)<|Yg4 25 rfl (ps 57 rfl rfl rfl)<|Yg4 26 rfl (ps 57 rfl rfl rfl)<|Yg4 27 rfl (ps 57 rfl rfl rfl)<|Yg4 28 rfl (ps 57 rfl rfl rfl)<|Yg4 29 rfl (ps 57 rfl rfl rfl)<|Yg4 30 rfl (ps 57 rfl rfl rfl)<|Yg4 31 rfl (ps 57 rfl rfl rfl)<|Yg4 32 rfl (ps 57 rfl rfl rfl)<|Yg4 33 rfl (ps 57 rfl rfl rfl) ?_
    refine Yg4 34 rfl (ps 57 rfl rfl rfl)<|Yfx 35 rfl (Ygy (b:=true) rfl rfl) gn rfl<|Yfx 36 rfl (Yg2 rfl) gn rfl<|Yg4 37 rfl (ps 71 rfl rfl rfl)<|Yg4 38 rfl (ps 71 rfl rfl rfl)<|Yg4 39 rfl (ps 71 rfl rfl rfl)<|Yg4 40 rfl (ps 71 rfl rfl rfl)<|Yg4 41 rfl (ps 71 rfl rfl rfl)<|Yg4 42 rfl (ps 71 rfl rfl rfl)<|Yg4 43 rfl (ps 71 rfl rfl rfl)<|Yg4 44 rfl (ps 71 rfl rfl rfl)<|Yg4 45 rfl (ps 71 rfl rfl rfl) ?_
    refine Yg4 46 rfl (ps 71 rfl rfl rfl)<|Yg4 47 rfl (ps 71 rfl rfl rfl)<|Yfx 48 rfl (Ygy (b:=true) rfl rfl) gn rfl<|Yg7 49 rfl<|Ygp rfl _ rfl (rfl)<|Yg3 rfl<|Yfy rfl rfl<|Yfx 0 rfl (Yg1 rfl) gn rfl<|Yg7 1 rfl ?_
    have h:=Out.inr hO1 h
    refine Ygx [.bool false] rfl Try.func14 rfl (.tmp rfl (.nil)) fun wr hLr=>?_
    have hMr:=hLr.pk0 (.c 1 rfl .n)
    show Yhy w F  r (.returned (Yhe [.bool false])) wr
    rw [h]
    exact ⟨rfl,hMr⟩
  ·have h:=Yge hp357 h
   refine Ygl rfl _ rfl ((decide_eq_false hp357))<|Yii [.code Yq9] rfl rfl<|Yg3 rfl<|Yg3 rfl<|Yfy rfl rfl<|Yfx 0 rfl (Yji [.slice A2 k6 c4,.slice A9 k13 c11,.slice A16 k21 c18] 1 Yjg rfl rfl rfl rfl) gn rfl<|Yfx 1 rfl (Yji [.slice A25 n26 c27,.slice A29 n30 c31,.slice A33 n34 c35] 0 Yjg rfl rfl rfl rfl) gn rfl ?_
   obtain ⟨r386,hv387,h⟩:=h
   refine Ygw 2 rfl (Yho [.agg #[.slice A2 k6 c4,.slice A9 k13 c11,.slice A16 k21 c18],.agg #[.slice A25 n26 c27,.slice A29 n30 c31,.slice A33 n34 c35]] rfl Try.func35 rfl rfl rfl fun w383 hL384=>?_) gn
   have hp385:=pmI hL384 .n (.c 0 rfl (.c 1 rfl .n)) (by kernel_rfl)
   refine Calls.mono (Ynu w383 (Fl ([]:List Ygr)) (⟨(x1.terms.take k6),(x1.syms.take k13),((x20.take k21).map Yi5)⟩:Yfz) x24 A2 k6 c4 A9 k13 c11 A16 k21 c18 A25 n26 c27 A29 n30 c31 A33 n34 c35 (Rw.mono h8 (hL384.toSt hp385 (me 1 rfl))) (Rw.mono h15 (hL384.toSt hp385 (me 1 rfl))) (Rw.vis (dk:=Yip) (dk2:=Ygs) Yi5 rfl (fun x cs=>by rintro ⟨A,n,c,rfl,h,k⟩; exact ⟨A,_,c,rfl,Rw.pre h k⟩) (Rw.mono h23 (hL384.toSt hp385 (me 1 rfl)))) (Rw.mono h28 (hL384.toSt hp385 (me 1 rfl))) (Rw.mono h32 (hL384.toSt hp385 (me 1 rfl))) (Rw.mono h36 (hL384.toSt hp385 (me 1 rfl))) (hL384.hFl hp385 (Yj7 [] rfl)) (hL384.into hp385 _) r386 hv387) ?_
   rintro _ w388 ⟨rfl,hM389⟩
   have hL390:=hL384.call hp385 hM389
   refine ⟨_,_,_,rfl,hL390,?_⟩
   refine Yfx 3 rfl (Ymb rfl) gn rfl<|Yg7 4 rfl ?_
   by_cases hp391:r386=true
   ·have h:=Ygf hp391 h
    refine Ygl rfl _ rfl ((nf hp391))<|Ygt rfl<|Yg3 rfl<|Yg3 rfl<|Yfy rfl rfl<|Yfx 0 rfl (Yg1 rfl) gn rfl<|Yg7 1 rfl<|Ygm rfl<|Yij rfl ?_
    have key2:∀ s,Yga (fun (s:Int) o=>Yjn x24 x20 k21 s o) s o1→(fun (s:Int)=>∀ (_:Unit),G (Yil w F r) [.code Ypf,.inLoop Ypf,.inBlock 2,.code Ytg] [(2,.pointer (some ⟨gb37,0,none⟩)),(3,.pointer (some ⟨gb39,0,none⟩)),(9,.int .i64 s)] [.box gb39 26 [.slice A25 n26 c27,.slice A29 n30 c31,.slice A33 n34 c35],.box gb37 26 [.slice A2 k6 c4,.slice A9 k13 c11,.slice A16 k21 c18]] [Sm w.heap.size F w [],St w []]) s:=by
     intro s hs
     refine Yga.ind (mot:=(fun (s:Int)=>∀ (_:Unit),G (Yil w F r) [.code Ypf,.inLoop Ypf,.inBlock 2,.code Ytg] [(2,.pointer (some ⟨gb37,0,none⟩)),(3,.pointer (some ⟨gb39,0,none⟩)),(9,.int .i64 s)] [.box gb39 26 [.slice A25 n26 c27,.slice A29 n30 c31,.slice A33 n34 c35],.box gb37 26 [.slice A2 k6 c4,.slice A9 k13 c11,.slice A16 k21 c18]] [Sm w.heap.size F w [],St w []])) ?_ hs
     clear hs s
     intro x474 o2 h hO2
     show ∀ (_:Unit),G (Yil w F r) [.code Ypf,.inLoop Ypf,.inBlock 2,.code Ytg] [(2,.pointer (some ⟨gb37,0,none⟩)),(3,.pointer (some ⟨gb39,0,none⟩)),(9,.int .i64 x474)] [.box gb39 26 [.slice A25 n26 c27,.slice A29 n30 c31,.slice A33 n34 c35],.box gb37 26 [.slice A2 k6 c4,.slice A9 k13 c11,.slice A16 k21 c18]] [Sm w.heap.size F w [],St w []]
     intro _
     have h:Yjn x24 x20 k21 x474 o2:=h
     unfold Yjn at h
     refine Yg3 rfl<|Yg3 rfl<|Yfy rfl rfl<|Yfx 0 rfl (Yg2 rfl) gn rfl<|Yfx 1 rfl (Ygc Yh1 rfl) gn rfl<|Yfx 2 rfl (Ygg 0 Yj4 rfl rfl rfl) gn rfl<|Yfx 3 rfl (Ygn Ymz rfl h36.hq) gn rfl<|Yfx 4 rfl (Ygj rfl rfl rfl) gn rfl<|Yg7 5 rfl ?_
     by_cases hp556:x474 < (x24.prods.length:Int)
     ·have h:=Ygf hp556 h
      refine Ygp rfl _ rfl ((decide_eq_true hp556))<|Ygt rfl<|Yg3 rfl<|Ygm rfl<|Yg3 rfl ?_
      obtain ⟨hb557,h⟩:=h
      obtain ⟨hb566,h⟩:=h
      obtain ⟨r577,hv578,h⟩:=h
      have hns:Region.noSelect (Code.ops q14c51)=true:=by kernel_rfl
      refine Yk2 [] 14 rfl rfl mix rfl (.c 0 rfl (.c 1 rfl .n))<|wfv 0 rfl (Ygc Yh1 rfl) gn hns rfl<|wfv 1 rfl (Ygg 1 Yj4 rfl rfl rfl) gn hns rfl<|wfv 2 rfl (Yg2 rfl) gn hns rfl ?_
      obtain ⟨ce610,hK611,hr609⟩:=Rw.read (s:=St w []) h23 hb557
      obtain ⟨A612,n613,c614,rfl,h615,hk616⟩:=hK611
      refine wfv 3 rfl (Yhp (s:=St w []) Yjk rfl rfl h23 hb557) gn hns rfl<|wfv 4 rfl (Yjp Yko rfl) gn hns rfl<|wfv 5 rfl (Yjj (kk:=(x474:Int).toNat * 2) (j:=1) (St w []) Yn0 rfl hr609 rfl (me 1 rfl)) gn hns rfl<|wfv 6 rfl (Ygc Yh1 rfl) gn hns rfl<|wfv 7 rfl (Ygg 0 Yj4 rfl rfl rfl) gn hns rfl<|wfv 8 rfl (Yg2 rfl) gn hns rfl ?_
      obtain ⟨ce618,hK619,hr617⟩:=Rw.read (s:=St w []) h36 hb566
      obtain ⟨A620,n621,c622,rfl,h623⟩:=hK619
      refine wfv 9 rfl (Yhp (s:=St w []) Yjk rfl rfl h36 hb566) gn hns rfl<|wfv 10 rfl (Yjp Yko rfl) gn hns rfl<|wfv 11 rfl (Yjj (kk:=(x474:Int).toNat * 2) (j:=1) (St w []) Yn0 rfl hr617 rfl (me 1 rfl)) gn hns rfl ?_
      refine Yl2 [12] (by kernel_rfl) rfl ⟨on_s 12 rfl gn rfl (Yho [.slice A612 ((ix (x20.take k21) x474).2) c614,.slice A620 n621 c622] rfl Try.func15 rfl rfl rfl fun w630 hL631=>?_),trivial⟩
      have hp632:=pmI hL631 .n (.c 0 rfl (.c 1 rfl .n)) (by kernel_rfl)
      refine Calls.mono (Yn3 w630 (Fl ([]:List Ygr)) (((ix (x20.take k21) x474).1).rhs) ((ix (x20.take k21) x474).2) ((ix x24.prods x474).rhs) A612 n613 c614 A620 n621 c622 (Rw.mono h615 (hL631.toSt hp632 (me 1 rfl))) hk616 (Rw.mono h623 (hL631.toSt hp632 (me 1 rfl))) (hL631.hFl hp632 (Yj7 [] rfl)) (hL631.into hp632 _) r577 hv578) ?_
      rintro _ w633 ⟨rfl,hM634⟩
      have hL635:=hL631.call hp632 hM634
      refine ⟨_,_,_,rfl,hL635,?_⟩
      refine ⟨Yj7 [0,1] rfl,Yj7 [0,1] rfl,?_⟩
      refine wfv 13 rfl (Ymb rfl) gn hns rfl<|Yl0 (by kernel_rfl) ?_
      by_cases hp636:r577=true
      ·have h:=Ygf hp636 h
       refine Ygl rfl _ rfl ((nf hp636))<|Ygt rfl<|Ygq<|Yfy rfl rfl<|Yfx 0 rfl (Yg2 rfl) gn rfl<|Yfx 1 rfl (Ygj rfl rfl rfl) gn rfl<|Yfx 2 rfl (Yg1 rfl) gn rfl<|Yg7 3 rfl<|Ygv ?_
       have ih:=Out.inl hO2 h
       exact Yhj [0,1] (ih ()) ⟨rfl,rfl,rfl,trivial⟩ (.cons_cons _ (.cons_cons _ (.slnil))) rfl
      ·have h:=Yge hp636 h
       refine Ygp rfl _ rfl ((nt (bf hp636)))<|Yg3 rfl<|Yfy rfl rfl<|Yfx 0 rfl (Yg1 rfl) gn rfl<|Yg7 1 rfl ?_
       have h:=Out.inr hO2 h
       have h:=Out.inr hO1 h
       refine Ygx [.bool false] rfl Try.func14 rfl (.tmp rfl (.nil)) fun wr hLr=>?_
       have hMr:=hLr.pk0 (.c 1 rfl .n)
       show Yhy w F  r (.returned (Yhe [.bool false])) wr
       rw [h]
       exact ⟨rfl,hMr⟩
     ·have h:=Yge hp556 h
      refine Ygl rfl _ rfl ((decide_eq_false hp556))<|Yii [.code Ytg] rfl rfl<|Yg3 rfl<|Yfy rfl rfl<|Yfx 0 rfl (Yg1 rfl) gn rfl<|Yg7 1 rfl ?_
      have h:=Out.inr hO2 h
      have h:=Out.inr hO1 h
      refine Ygx [.bool true] rfl Try.func14 rfl (.tmp rfl (.nil)) fun wr hLr=>?_
      have hMr:=hLr.pk0 (.c 1 rfl .n)
      show Yhy w F  r (.returned (Yhe [.bool true])) wr
      rw [h]
      exact ⟨rfl,hMr⟩
    exact Yhj [0,1] (key2 _ h ()) ⟨rfl,rfl,rfl,trivial⟩ (.cons_cons _ (.cons_cons _ (.slnil))) rfl
   ·have h:=Yge hp391 h
    refine Ygp rfl _ rfl ((nt (bf hp391)))<|Yg3 rfl<|Yfy rfl rfl<|Yfx 0 rfl (Yg1 rfl) gn rfl<|Yg7 1 rfl ?_
    have h:=Out.inr hO1 h
    refine Ygx [.bool false] rfl Try.func14 rfl (.tmp rfl (.nil)) fun wr hLr=>?_
    have hMr:=hLr.pk0 (.c 1 rfl .n)
    show Yhy w F  r (.returned (Yhe [.bool false])) wr
    rw [h]
    exact ⟨rfl,hMr⟩
 exact Yhj [0,1] (key1 _ h ()) ⟨rfl,rfl,rfl,rfl,rfl,rfl,trivial⟩ (.cons_cons _ (.cons_cons _ (.slnil))) rfl
noncomputable abbrev Yt7:=Code.snd (Code.snd (Code.snd (Code.snd (Code.snd (Yhm Try.f17)))))
noncomputable abbrev Yq3:=Code.fst (Code.fst (Code.snd (Code.fst (Code.snd (Code.snd (Code.snd (Code.snd (Yhm Try.f17))))))))
abbrev Ykp (w:World) (F:Nat→Prop) (r:List Int):Ending→World→Prop:=fun e w'=>∃ A0:Option Addr,∃ n0:Nat,∃ c0:Nat,e=.returned (.slice A0 n0 c0)∧B.Loc w w' [.own (.slice A0 n0 c0) 29 1 n0 (r.flatMap (eI .u64))] [St w []]∧Ow w.heap.size A0 n0 c0 r
noncomputable abbrev Yks (w:World) (F:Nat→Prop) (r:List Int):Cx:=⟨Try.prog,17,Try.f17,34,Ykp w F  r,w⟩
theorem Ym1 (w:World) (F:Nat→Prop) (x1:Yfz) (A2:Option Addr) (n3:Nat) (c4:Nat) (A6:Option Addr) (n7:Nat) (c8:Nat) (A10:Option Addr) (n11:Nat) (c12:Nat) (h5:Rw Ygi w (St w []).av A2 n3 c4 x1.terms) (h9:Rw Ygu w (St w []).av A6 n7 c8 x1.syms) (h13:Rw Ygs w (St w []).av A10 n11 c12 x1.prods) (hF:∀ b,F b→b < w.heap.size∧∀ o ∈ ([]:List (List Nat)),b ∉ o) (hL0:B.Loc w w [] [Sm w.heap.size F w [],St w []]) (r:List Int) (h:Yj5 x1 r):Calls Try.prog 17 #[.agg #[.slice A2 n3 c4,.slice A6 n7 c8,.slice A10 n11 c12]] w (Ykp w F  r):=by
 unfold Yj5 at h
 refine Yh0 (vs:=[.agg #[.slice A2 n3 c4,.slice A6 n7 c8,.slice A10 n11 c12]]) 34 Try.func17 rfl Try.ntmps17 rfl hL0 ?_
 show G (Yks w F r) _ _ _ _
 refine Yg3 rfl<|Yfy rfl rfl ?_
 refine Ygw 0 rfl (Ymj [.slice A2 n3 c4,.slice A6 n7 c8,.slice A10 n11 c12] rfl rfl rfl fun gb14=>?_) gn
 refine Yfx 1 rfl (Yg1 rfl) gn rfl<|Yg7 2 rfl<|Yg3 rfl<|Yg3 rfl<|Yfy rfl rfl<|Yfx 0 rfl (Yji [.slice A2 n3 c4,.slice A6 n7 c8,.slice A10 n11 c12] 0 Yjg rfl rfl rfl rfl) gn rfl ?_
 obtain ⟨r19,hv20,h⟩:=h
 refine Ygw 1 rfl (Yho [.agg #[.slice A2 n3 c4,.slice A6 n7 c8,.slice A10 n11 c12]] rfl Try.func27 rfl rfl rfl fun w16 hL17=>?_) gn
 have hp18:=pmI hL17 .n (.c 0 rfl .n) (by kernel_rfl)
 refine Calls.mono (Ym0 w16 (Fl ([]:List Ygr)) x1 A2 n3 c4 A6 n7 c8 A10 n11 c12 (Rw.mono h5 (hL17.toSt hp18 (me 1 rfl))) (Rw.mono h9 (hL17.toSt hp18 (me 1 rfl))) (Rw.mono h13 (hL17.toSt hp18 (me 1 rfl))) (hL17.hFl hp18 (Yj7 [] rfl)) (hL17.into hp18 _) r19 hv20) ?_
 rintro _ w21 ⟨rfl,hM22⟩
 have hL23:=hL17.call hp18 hM22
 refine ⟨_,_,_,rfl,hL23,?_⟩
 refine Yfx 2 rfl (Ymb rfl) gn rfl<|Yg7 3 rfl ?_
 by_cases hp24:r19=true
 ·have h:=Ygf hp24 h
  refine Ygl rfl _ rfl ((nf hp24))<|Ygt rfl<|Yg3 rfl<|Yfy rfl rfl<|Yfx 0 rfl (Yji [.slice A2 n3 c4,.slice A6 n7 c8,.slice A10 n11 c12] 0 Yjg rfl rfl rfl rfl) gn rfl ?_
  obtain ⟨r28,hv29,h⟩:=h
  refine Ygw 1 rfl (Yho [.agg #[.slice A2 n3 c4,.slice A6 n7 c8,.slice A10 n11 c12]] rfl Try.func16 rfl rfl rfl fun w25 hL26=>?_) gn
  have hp27:=pmI hL26 .n (.c 0 rfl .n) (by kernel_rfl)
  refine Calls.mono (Ykf w25 (Fl ([]:List Ygr)) x1 A2 n3 c4 A6 n7 c8 A10 n11 c12 (Rw.mono h5 (hL26.toSt hp27 (me 1 rfl))) (Rw.mono h9 (hL26.toSt hp27 (me 1 rfl))) (Rw.mono h13 (hL26.toSt hp27 (me 1 rfl))) (hL26.hFl hp27 (Yj7 [] rfl)) (hL26.into hp27 _) r28 hv29) ?_
  rintro _ w35 ⟨A30,n31,c32,rfl,hM36,h33⟩
  have hL37:=hL26.call hp27 hM36
  refine ⟨_,_,_,rfl,hL37,?_⟩
  refine Yfx 2 rfl (Yg1 rfl) gn rfl<|Yg7 3 rfl<|Yg3 rfl<|Yfy rfl rfl<|Yfx 0 rfl (Yg1 rfl) gn rfl<|Yg7 1 rfl<|Yg3 rfl<|Yg3 rfl<|Yfy rfl rfl<|Yfx 0 rfl (Yg1 rfl) gn rfl<|Yg7 1 rfl<|Ygm rfl ?_
  refine Yij rfl ?_
  have key1:∀ s,Yga (fun (s:(List Int) × Int) o=>Yhn x1 r28 s.1 s.2 o) s r→(fun (s:(List Int) × Int)=>∀ (A62:Option Addr) (n63:Nat) (c64:Nat) (h65:Ow w.heap.size A62 n63 c64 s.1),G (Yks w F r) [.code Yq3,.inLoop Yq3,.inBlock 0,.code Yt7] [(1,.pointer (some ⟨gb14,0,none⟩)),(3,.slice A30 n31 c32),(4,.slice A62 n63 c64),(5,.int .i64 s.2)] [.own (.slice A62 n63 c64) 29 1 n63 (s.1.flatMap (eI .u64)),.own (.slice A30 n31 c32) 4 1 n31 (r28.flatMap eB),.box gb14 26 [.slice A2 n3 c4,.slice A6 n7 c8,.slice A10 n11 c12]] [Sm w.heap.size F w [],St w []]) s:=by
   intro s hs
   refine Yga.ind (mot:=(fun (s:(List Int) × Int)=>∀ (A62:Option Addr) (n63:Nat) (c64:Nat) (h65:Ow w.heap.size A62 n63 c64 s.1),G (Yks w F r) [.code Yq3,.inLoop Yq3,.inBlock 0,.code Yt7] [(1,.pointer (some ⟨gb14,0,none⟩)),(3,.slice A30 n31 c32),(4,.slice A62 n63 c64),(5,.int .i64 s.2)] [.own (.slice A62 n63 c64) 29 1 n63 (s.1.flatMap (eI .u64)),.own (.slice A30 n31 c32) 4 1 n31 (r28.flatMap eB),.box gb14 26 [.slice A2 n3 c4,.slice A6 n7 c8,.slice A10 n11 c12]] [Sm w.heap.size F w [],St w []])) ?_ hs
   clear hs s
   intro s o1 h hO1
   obtain ⟨x61,x66⟩:=s
   show ∀ (A62:Option Addr) (n63:Nat) (c64:Nat) (h65:Ow w.heap.size A62 n63 c64 x61),G (Yks w F r) [.code Yq3,.inLoop Yq3,.inBlock 0,.code Yt7] [(1,.pointer (some ⟨gb14,0,none⟩)),(3,.slice A30 n31 c32),(4,.slice A62 n63 c64),(5,.int .i64 x66)] [.own (.slice A62 n63 c64) 29 1 n63 (x61.flatMap (eI .u64)),.own (.slice A30 n31 c32) 4 1 n31 (r28.flatMap eB),.box gb14 26 [.slice A2 n3 c4,.slice A6 n7 c8,.slice A10 n11 c12]] [Sm w.heap.size F w [],St w []]
   intro A62 n63 c64 h65
   have h:Yhn x1 r28 x61 x66 o1:=h
   unfold Yhn at h
   refine Yg3 rfl<|Yg3 rfl<|Yfy rfl rfl<|Yfx 0 rfl (Yg2 rfl) gn rfl<|Yfx 1 rfl (Ygc Yi6 rfl) gn rfl<|Yfx 2 rfl (Ygg 2 Ykt rfl rfl rfl) gn rfl<|Yfx 3 rfl (Ygn Ylq rfl h5.hq) gn rfl<|Yfx 4 rfl (Ygc Yih rfl) gn rfl<|Yfx 5 rfl (Ygg 2 Yl8 rfl rfl rfl) gn rfl<|Yfx 6 rfl (Ygn Yme rfl h9.hq) gn rfl<|Yfx 7 rfl (Ygj rfl rfl rfl) gn rfl<|Yfx 8 rfl (Ygj rfl rfl rfl) gn rfl ?_
   refine Yg7 9 rfl ?_
   by_cases hp88:x66 < w64 ((x1.terms.length:Int) + (x1.syms.length:Int))
   ·have h:=Ygf hp88 h
    refine Ygp rfl _ rfl ((decide_eq_true hp88))<|Ygt rfl<|Yg3 rfl<|Ygm rfl<|Yg3 rfl<|Yfy rfl rfl<|Yfx 0 rfl (Yji [.slice A2 n3 c4,.slice A6 n7 c8,.slice A10 n11 c12] 2 Yjg rfl rfl rfl rfl) gn rfl<|Yfx 1 rfl (Yg2 rfl) gn rfl<|Yfx 2 rfl (Yg2 rfl) gn rfl<|Yfx 3 rfl (Yn2 #[.int .i64 x66,.string (⟨#[]⟩:ByteArray),.string (⟨#[]⟩:ByteArray)] bd_36 rfl (by kernel_rfl)) gn rfl ?_
    refine Ygw 4 rfl (Ymx (xs:=([(⟨x66,(⟨#[]⟩:ByteArray),(⟨#[]⟩:ByteArray)⟩:Yg9)]:List Yg9)) [.int .i64 x66,.string (⟨#[]⟩:ByteArray),.string (⟨#[]⟩:ByteArray)] Ytf rfl (by kernel_rfl) rfl rfl rfl rfl fun gb90 h91=>?_) gn
    obtain ⟨r95,hv96,h⟩:=h
    refine Ygw 5 rfl (Yho [.agg #[.slice A2 n3 c4,.slice A6 n7 c8,.slice A10 n11 c12],.slice A30 n31 c32,.slice (some ⟨gb90,0,none⟩) 1 1] rfl Try.func29 rfl rfl rfl fun w92 hL93=>?_) gn
    have hp94:=pmI hL93 .n (.c 0 rfl (.c 1 rfl (.c 2 rfl (.c 3 rfl .n)))) (by kernel_rfl)
    refine Calls.mono (Ynf w92 (Fl ([]:List Ygr)) x1 r28 ([(⟨x66,(⟨#[]⟩:ByteArray),(⟨#[]⟩:ByteArray)⟩:Yg9)]:List Yg9) A2 n3 c4 A6 n7 c8 A10 n11 c12 A30 n31 c32 (some ⟨gb90,0,none⟩) 1 1 (Rw.mono h5 (hL93.toSt hp94 (me 1 rfl))) (Rw.mono h9 (hL93.toSt hp94 (me 1 rfl))) (Rw.mono h13 (hL93.toSt hp94 (me 1 rfl))) (hL93.argO (dk:=Ymq) hp94 [] rfl 2 rfl rfl (Ow.weak hL26.env.size h33) (me 0 rfl) (Cells.flat _)) (hL93.argO (dk:=Yiy) hp94 [] rfl 0 rfl rfl h91 (me 0 rfl) (Cells.flat _)) (hL93.hFl hp94 (Yj7 [] rfl)) (hL93.into hp94 _) r95 hv96) ?_
    rintro _ w97 ⟨rfl,hM98⟩
    have hL99:=hL93.call hp94 hM98
    refine ⟨_,_,_,rfl,hL99,?_⟩
    refine Yfx 6 rfl (Yg1 rfl) gn rfl<|Yg7 7 rfl<|Yfy rfl rfl<|Yfx 0 rfl (Yg2 rfl) gn rfl<|Yfx 1 rfl (Yg2 rfl) gn rfl ?_
    refine Ygw 2 rfl (Ymx (xs:=([r95]:List Int)) [.int .u64 r95] Yux rfl (by kernel_rfl) rfl rfl rfl rfl fun gb101 h102=>?_) gn
    obtain ⟨x106,hv107,h⟩:=h
    obtain ⟨hb108,h⟩:=h
    refine Ygw 3 rfl (Ynt (zs:=x106) (cells':=x106.flatMap (eI .u64)) 2 ap_42 rfl rfl rfl h65 (Nat.le_refl _) (Src.ownF (hl:=(hlI .u64)) (h1:=(Yol .u64)) 0 rfl h102) (by rw [hv107,List.flatMap_append] <;> rfl) (Ylm hv107 h102.hq) hb108 rfl rfl fun A103 c104 h105=>?_) gn
    refine Yfx 4 rfl (Yg1 rfl) gn rfl<|Yg7 5 rfl<|Ygq<|Yfy rfl rfl<|Yfx 0 rfl (Yg2 rfl) gn rfl<|Yfx 1 rfl (Ygj rfl rfl rfl) gn rfl<|Yfx 2 rfl (Yg1 rfl) gn rfl<|Yg7 3 rfl<|Ygv ?_
    have ih:=Out.inl hO1 h
    exact Yhj [0,1] (ih A103 (n63 + 1) c104 h105) ⟨rfl,rfl,rfl,rfl,trivial⟩ (.cons _ (.cons _ (.cons_cons _ (.cons_cons _ (.cons_cons _ (.slnil)))))) rfl
   ·have h:=Yge hp88 h
    refine Ygl rfl _ rfl ((decide_eq_false hp88))<|Yii [.code Yt7] rfl rfl<|Yg3 rfl<|Yfy rfl rfl<|Yfx 0 rfl (Yg2 rfl) gn rfl<|Yfx 1 rfl (Yg1 rfl) gn rfl<|Yg7 2 rfl ?_
    have h:=Out.inr hO1 h
    refine Ygx [.slice A62 n63 c64] rfl Try.func17 rfl (.tmp rfl (.nil)) fun wr hLr=>?_
    have hMr:=hLr.pkI (.c 0 rfl .n) (.c 1 rfl (.c 2 rfl .n)) (by kernel_rfl) (.c 1 rfl .n)
    show Ykp w F  r (.returned (Yhe [.slice A62 n63 c64])) wr
    rw [h]
    exact ⟨A62,n63,c64,rfl,hMr,h65⟩
  refine Ypj 29 1 ?_
  exact Yhj [0,1] (key1 _ h none 0 0 (Ow.nil (z:=w.heap.size))) ⟨rfl,rfl,rfl,rfl,trivial⟩ (.cons_cons _ (.cons_cons _ (.cons_cons _ (.slnil)))) rfl
 ·have h:=Yge hp24 h
  refine Ygp rfl _ rfl ((nt (bf hp24)))<|Yg3 rfl<|Yfy rfl rfl<|Yfx 0 rfl (Yg1 rfl) gn rfl<|Yg7 1 rfl<|Ypj 29 1 ?_
  refine Ygx [.slice none 0 0] rfl Try.func17 rfl (.tmp rfl (.nil)) fun wr hLr=>?_
  have hMr:=hLr.pkI (.c 0 rfl .n) (.c 1 rfl .n) (by kernel_rfl) (.c 1 rfl .n)
  show Ykp w F  r (.returned (Yhe [.slice none 0 0])) wr
  rw [h]
  exact ⟨none,0,0,rfl,hMr,(Ow.nil (z:=w.heap.size))⟩
abbrev Yln (w:World) (F:Nat→Prop) (r:List Bool):Ending→World→Prop:=fun e w'=>∃ A0:Option Addr,∃ n0:Nat,∃ c0:Nat,e=.returned (.slice A0 n0 c0)∧B.Loc w w' [.own (.slice A0 n0 c0) 4 1 n0 (r.flatMap eB)] [St w []]∧Ow w.heap.size A0 n0 c0 r
noncomputable abbrev Ypt (w:World) (F:Nat→Prop) (r:List Bool):Cx:=⟨Try.prog,18,Try.f18,19,Yln w F  r,w⟩
theorem Ykn (w:World) (F:Nat→Prop) (x1:Yfz) (A2:Option Addr) (n3:Nat) (c4:Nat) (A6:Option Addr) (n7:Nat) (c8:Nat) (A10:Option Addr) (n11:Nat) (c12:Nat) (h5:Rw Ygi w (St w []).av A2 n3 c4 x1.terms) (h9:Rw Ygu w (St w []).av A6 n7 c8 x1.syms) (h13:Rw Ygs w (St w []).av A10 n11 c12 x1.prods) (hF:∀ b,F b→b < w.heap.size∧∀ o ∈ ([]:List (List Nat)),b ∉ o) (hL0:B.Loc w w [] [Sm w.heap.size F w [],St w []]) (r:List Bool) (h:Yio x1 r):Calls Try.prog 18 #[.agg #[.slice A2 n3 c4,.slice A6 n7 c8,.slice A10 n11 c12]] w (Yln w F  r):=by
 unfold Yio at h
 refine Yh0 (vs:=[.agg #[.slice A2 n3 c4,.slice A6 n7 c8,.slice A10 n11 c12]]) 19 Try.func18 rfl Try.ntmps18 rfl hL0 ?_
 show G (Ypt w F r) _ _ _ _
 refine Yg3 rfl<|Yfy rfl rfl ?_
 refine Ygw 0 rfl (Ymj [.slice A2 n3 c4,.slice A6 n7 c8,.slice A10 n11 c12] rfl rfl rfl fun gb14=>?_) gn
 refine Yfx 1 rfl (Yg1 rfl) gn rfl<|Yg7 2 rfl<|Yg3 rfl<|Yg3 rfl<|Yfy rfl rfl<|Yfx 0 rfl (Yji [.slice A2 n3 c4,.slice A6 n7 c8,.slice A10 n11 c12] 0 Yjg rfl rfl rfl rfl) gn rfl ?_
 obtain ⟨r19,hv20,h⟩:=h
 refine Ygw 1 rfl (Yho [.agg #[.slice A2 n3 c4,.slice A6 n7 c8,.slice A10 n11 c12]] rfl Try.func31 rfl rfl rfl fun w16 hL17=>?_) gn
 have hp18:=pmI hL17 .n (.c 0 rfl .n) (by kernel_rfl)
 refine Calls.mono (Ynk w16 (Fl ([]:List Ygr)) x1 A2 n3 c4 A6 n7 c8 A10 n11 c12 (Rw.mono h5 (hL17.toSt hp18 (me 1 rfl))) (Rw.mono h9 (hL17.toSt hp18 (me 1 rfl))) (Rw.mono h13 (hL17.toSt hp18 (me 1 rfl))) (hL17.hFl hp18 (Yj7 [] rfl)) (hL17.into hp18 _) r19 hv20) ?_
 rintro _ w21 ⟨rfl,hM22⟩
 have hL23:=hL17.call hp18 hM22
 refine ⟨_,_,_,rfl,hL23,?_⟩
 refine Yfx 2 rfl (Ymb rfl) gn rfl<|Yg7 3 rfl ?_
 by_cases hp24:r19=true
 ·have h:=Ygf hp24 h
  refine Ygl rfl _ rfl ((nf hp24))<|Ygt rfl<|Yg3 rfl<|Yfy rfl rfl<|Yfx 0 rfl (Yji [.slice A2 n3 c4,.slice A6 n7 c8,.slice A10 n11 c12] 0 Yjg rfl rfl rfl rfl) gn rfl ?_
  obtain ⟨r28,hv29,h⟩:=h
  refine Ygw 1 rfl (Yho [.agg #[.slice A2 n3 c4,.slice A6 n7 c8,.slice A10 n11 c12]] rfl Try.func33 rfl rfl rfl fun w25 hL26=>?_) gn
  have hp27:=pmI hL26 .n (.c 0 rfl .n) (by kernel_rfl)
  refine Calls.mono (Yng w25 (Fl ([]:List Ygr)) x1 A2 n3 c4 A6 n7 c8 A10 n11 c12 (Rw.mono h5 (hL26.toSt hp27 (me 1 rfl))) (Rw.mono h9 (hL26.toSt hp27 (me 1 rfl))) (Rw.mono h13 (hL26.toSt hp27 (me 1 rfl))) (hL26.hFl hp27 (Yj7 [] rfl)) (hL26.into hp27 _) r28 hv29) ?_
  rintro _ w30 ⟨rfl,hM31⟩
  have hL32:=hL26.call hp27 hM31
  refine ⟨_,_,_,rfl,hL32,?_⟩
  refine Ygw 2 rfl (Ykc (Yg5 (⟨(fun _=>0),(fun _=>false)⟩:Yg0)) Yts rfl fun gb33=>?_) gn
  obtain ⟨x35,hv36,h⟩:=h
  refine Ygw 3 rfl (Yp2 (cs':=(Yg5 x35)) (m:=(Yg5 (⟨(fun _=>0),(fun _=>false)⟩:Yg0))) (m':=(Yg5 r28)) 0 Ysr rfl rfl rfl (by rw [hv36]; exact (Pt.refl _ (Yg5 r28))) rfl (Yhc (⟨(fun _=>0),(fun _=>false)⟩:Yg0)) (Yhc r28) (Yle r28) ?_) gn
  refine Yg7 4 rfl<|Yg3 rfl<|Yfy rfl rfl<|Yfx 0 rfl (Ygc Yoc rfl) gn rfl<|Yfx 1 rfl (Ygc Yi6 rfl) gn rfl<|Yfx 2 rfl (Ygg 1 Ykt rfl rfl rfl) gn rfl<|Yfx 3 rfl (Ygn Ylq rfl h5.hq) gn rfl<|Yfx 4 rfl (Ygc Yih rfl) gn rfl<|Yfx 5 rfl (Ygg 1 Yl8 rfl rfl rfl) gn rfl<|Yfx 6 rfl (Ygn Yme rfl h9.hq) gn rfl<|Yfx 7 rfl (Ygj rfl rfl rfl) gn rfl ?_
  obtain ⟨hb37,h⟩:=h
  refine Yfx 8 rfl (v_cutB (hv:=w64 ((x1.terms.length:Int) + (x1.syms.length:Int))) Ytr rfl (by_ rfl) hb37) gn rfl ?_
  obtain ⟨x42,hv43,h⟩:=h
  obtain ⟨hb44,h⟩:=h
  refine w_nil 4 1 ?_
  refine Ygw 9 rfl (Ynt (zs:=x42) (cells':=x42.flatMap eB) 0 ap_40 rfl rfl rfl (Ow.nil (z:=w.heap.size)) (Nat.le_refl _) (Src.box (f:=x35.vanishes) (enc:=fun y=>[.bool y]) 1 rfl (Yi8 x35 x35.vanishes) (fun _=>rfl) (fun _ u hu=>List.all_eq_true.1 rfl u hu) (by have:=hb37; omega)) (by rw [hv43,List.flatMap_append] <;> rfl) (Ylm hv43 (by rw [List.length_map,List.length_range])) hb44 rfl rfl fun A39 c40 h41=>?_) gn
  refine Yfx 10 rfl (Yg1 rfl) gn rfl<|Yg7 11 rfl ?_
  refine Ygx [.slice A39 (0 + ((w64 ((x1.terms.length:Int) + (x1.syms.length:Int)):Int).toNat)) c40] rfl Try.func18 rfl (.tmp rfl (.nil)) fun wr hLr=>?_
  have hMr:=hLr.pkI (.c 0 rfl .n) (.c 1 rfl (.c 2 rfl .n)) (by kernel_rfl) (.c 1 rfl .n)
  show Yln w F  r (.returned (Yhe [.slice A39 (0 + ((w64 ((x1.terms.length:Int) + (x1.syms.length:Int)):Int).toNat)) c40])) wr
  rw [h]
  exact ⟨A39,0 + ((w64 ((x1.terms.length:Int) + (x1.syms.length:Int)):Int).toNat),c40,rfl,hMr,h41⟩
 ·have h:=Yge hp24 h
  refine Ygp rfl _ rfl ((nt (bf hp24)))<|Yg3 rfl<|Yfy rfl rfl<|Yfx 0 rfl (Yg1 rfl) gn rfl<|Yg7 1 rfl<|Ypj 4 1 ?_
  refine Ygx [.slice none 0 0] rfl Try.func18 rfl (.tmp rfl (.nil)) fun wr hLr=>?_
  have hMr:=hLr.pkI (.c 0 rfl .n) (.c 1 rfl .n) (by kernel_rfl) (.c 1 rfl .n)
  show Yln w F  r (.returned (Yhe [.slice none 0 0])) wr
  rw [h]
  exact ⟨none,0,0,rfl,hMr,(Ow.nil (z:=w.heap.size))⟩
abbrev Ymo (w:World) (F:Nat→Prop) (r:List Int):Ending→World→Prop:=fun e w'=>∃ A0:Option Addr,∃ n0:Nat,∃ c0:Nat,e=.returned (.slice A0 n0 c0)∧B.Loc w w' [.own (.slice A0 n0 c0) 29 1 n0 (r.flatMap (eI .u64))] [St w []]∧Ow w.heap.size A0 n0 c0 r
noncomputable abbrev Ys4 (w:World) (F:Nat→Prop) (r:List Int):Cx:=⟨Try.prog,19,Try.f19,19,Ymo w F  r,w⟩
theorem Yli (w:World) (F:Nat→Prop) (x1:Yfz) (A2:Option Addr) (n3:Nat) (c4:Nat) (A6:Option Addr) (n7:Nat) (c8:Nat) (A10:Option Addr) (n11:Nat) (c12:Nat) (h5:Rw Ygi w (St w []).av A2 n3 c4 x1.terms) (h9:Rw Ygu w (St w []).av A6 n7 c8 x1.syms) (h13:Rw Ygs w (St w []).av A10 n11 c12 x1.prods) (hF:∀ b,F b→b < w.heap.size∧∀ o ∈ ([]:List (List Nat)),b ∉ o) (hL0:B.Loc w w [] [Sm w.heap.size F w [],St w []]) (r:List Int) (h:Yju x1 r):Calls Try.prog 19 #[.agg #[.slice A2 n3 c4,.slice A6 n7 c8,.slice A10 n11 c12]] w (Ymo w F  r):=by
 unfold Yju at h
 refine Yh0 (vs:=[.agg #[.slice A2 n3 c4,.slice A6 n7 c8,.slice A10 n11 c12]]) 19 Try.func19 rfl Try.ntmps19 rfl hL0 ?_
 show G (Ys4 w F r) _ _ _ _
 refine Yg3 rfl<|Yfy rfl rfl ?_
 refine Ygw 0 rfl (Ymj [.slice A2 n3 c4,.slice A6 n7 c8,.slice A10 n11 c12] rfl rfl rfl fun gb14=>?_) gn
 refine Yfx 1 rfl (Yg1 rfl) gn rfl<|Yg7 2 rfl<|Yg3 rfl<|Yg3 rfl<|Yfy rfl rfl<|Yfx 0 rfl (Yji [.slice A2 n3 c4,.slice A6 n7 c8,.slice A10 n11 c12] 0 Yjg rfl rfl rfl rfl) gn rfl ?_
 obtain ⟨r19,hv20,h⟩:=h
 refine Ygw 1 rfl (Yho [.agg #[.slice A2 n3 c4,.slice A6 n7 c8,.slice A10 n11 c12]] rfl Try.func31 rfl rfl rfl fun w16 hL17=>?_) gn
 have hp18:=pmI hL17 .n (.c 0 rfl .n) (by kernel_rfl)
 refine Calls.mono (Ynk w16 (Fl ([]:List Ygr)) x1 A2 n3 c4 A6 n7 c8 A10 n11 c12 (Rw.mono h5 (hL17.toSt hp18 (me 1 rfl))) (Rw.mono h9 (hL17.toSt hp18 (me 1 rfl))) (Rw.mono h13 (hL17.toSt hp18 (me 1 rfl))) (hL17.hFl hp18 (Yj7 [] rfl)) (hL17.into hp18 _) r19 hv20) ?_
 rintro _ w21 ⟨rfl,hM22⟩
 have hL23:=hL17.call hp18 hM22
 refine ⟨_,_,_,rfl,hL23,?_⟩
 refine Yfx 2 rfl (Ymb rfl) gn rfl<|Yg7 3 rfl ?_
 by_cases hp24:r19=true
 ·have h:=Ygf hp24 h
  refine Ygl rfl _ rfl ((nf hp24))<|Ygt rfl<|Yg3 rfl<|Yfy rfl rfl<|Yfx 0 rfl (Yji [.slice A2 n3 c4,.slice A6 n7 c8,.slice A10 n11 c12] 0 Yjg rfl rfl rfl rfl) gn rfl ?_
  obtain ⟨r28,hv29,h⟩:=h
  refine Ygw 1 rfl (Yho [.agg #[.slice A2 n3 c4,.slice A6 n7 c8,.slice A10 n11 c12]] rfl Try.func33 rfl rfl rfl fun w25 hL26=>?_) gn
  have hp27:=pmI hL26 .n (.c 0 rfl .n) (by kernel_rfl)
  refine Calls.mono (Yng w25 (Fl ([]:List Ygr)) x1 A2 n3 c4 A6 n7 c8 A10 n11 c12 (Rw.mono h5 (hL26.toSt hp27 (me 1 rfl))) (Rw.mono h9 (hL26.toSt hp27 (me 1 rfl))) (Rw.mono h13 (hL26.toSt hp27 (me 1 rfl))) (hL26.hFl hp27 (Yj7 [] rfl)) (hL26.into hp27 _) r28 hv29) ?_
  rintro _ w30 ⟨rfl,hM31⟩
  have hL32:=hL26.call hp27 hM31
  refine ⟨_,_,_,rfl,hL32,?_⟩
  refine Ygw 2 rfl (Ykc (Yg5 (⟨(fun _=>0),(fun _=>false)⟩:Yg0)) Yts rfl fun gb33=>?_) gn
  obtain ⟨x35,hv36,h⟩:=h
  refine Ygw 3 rfl (Yp2 (cs':=(Yg5 x35)) (m:=(Yg5 (⟨(fun _=>0),(fun _=>false)⟩:Yg0))) (m':=(Yg5 r28)) 0 Ysr rfl rfl rfl (by rw [hv36]; exact (Pt.refl _ (Yg5 r28))) rfl (Yhc (⟨(fun _=>0),(fun _=>false)⟩:Yg0)) (Yhc r28) (Yle r28) ?_) gn
  refine Yg7 4 rfl<|Yg3 rfl<|Yfy rfl rfl<|Yfx 0 rfl (Ygc Yo7 rfl) gn rfl<|Yfx 1 rfl (Ygc Yi6 rfl) gn rfl<|Yfx 2 rfl (Ygg 1 Ykt rfl rfl rfl) gn rfl<|Yfx 3 rfl (Ygn Ylq rfl h5.hq) gn rfl<|Yfx 4 rfl (Ygc Yih rfl) gn rfl<|Yfx 5 rfl (Ygg 1 Yl8 rfl rfl rfl) gn rfl<|Yfx 6 rfl (Ygn Yme rfl h9.hq) gn rfl<|Yfx 7 rfl (Ygj rfl rfl rfl) gn rfl ?_
  obtain ⟨hb37,h⟩:=h
  refine Yfx 8 rfl (v_cutB (hv:=w64 ((x1.terms.length:Int) + (x1.syms.length:Int))) Yu3 rfl (by_ rfl) hb37) gn rfl ?_
  obtain ⟨x42,hv43,h⟩:=h
  obtain ⟨hb44,h⟩:=h
  refine w_nil 29 1 ?_
  refine Ygw 9 rfl (Ynt (zs:=x42) (cells':=x42.flatMap (eI .u64)) 0 ap_42 rfl rfl rfl (Ow.nil (z:=w.heap.size)) (Nat.le_refl _) (Src.box (f:=x35.first) (enc:=fun y=>[.int .u64 y]) 1 rfl (Yiu x35 x35.first) (fun _=>rfl) (fun _ u hu=>List.all_eq_true.1 rfl u hu) (by have:=hb37; omega)) (by rw [hv43,List.flatMap_append] <;> rfl) (Ylm hv43 (by rw [List.length_map,List.length_range])) hb44 rfl rfl fun A39 c40 h41=>?_) gn
  refine Yfx 10 rfl (Yg1 rfl) gn rfl<|Yg7 11 rfl ?_
  refine Ygx [.slice A39 (0 + ((w64 ((x1.terms.length:Int) + (x1.syms.length:Int)):Int).toNat)) c40] rfl Try.func19 rfl (.tmp rfl (.nil)) fun wr hLr=>?_
  have hMr:=hLr.pkI (.c 0 rfl .n) (.c 1 rfl (.c 2 rfl .n)) (by kernel_rfl) (.c 1 rfl .n)
  show Ymo w F  r (.returned (Yhe [.slice A39 (0 + ((w64 ((x1.terms.length:Int) + (x1.syms.length:Int)):Int).toNat)) c40])) wr
  rw [h]
  exact ⟨A39,0 + ((w64 ((x1.terms.length:Int) + (x1.syms.length:Int)):Int).toNat),c40,rfl,hMr,h41⟩
 ·have h:=Yge hp24 h
  refine Ygp rfl _ rfl ((nt (bf hp24)))<|Yg3 rfl<|Yfy rfl rfl<|Yfx 0 rfl (Yg1 rfl) gn rfl<|Yg7 1 rfl<|Ypj 29 1 ?_
  refine Ygx [.slice none 0 0] rfl Try.func19 rfl (.tmp rfl (.nil)) fun wr hLr=>?_
  have hMr:=hLr.pkI (.c 0 rfl .n) (.c 1 rfl .n) (by kernel_rfl) (.c 1 rfl .n)
  show Ymo w F  r (.returned (Yhe [.slice none 0 0])) wr
  rw [h]
  exact ⟨none,0,0,rfl,hMr,(Ow.nil (z:=w.heap.size))⟩
noncomputable abbrev Yt4:=Code.snd (Code.snd (Code.snd (Yhm Try.f20)))
noncomputable abbrev Yp8:=Code.fst (Code.fst (Code.snd (Code.fst (Code.snd (Code.snd (Yhm Try.f20))))))
noncomputable abbrev q20c24:=Code.fst (Code.fst (Code.fst (Code.snd Yp8)))
abbrev Yj0 (w:World) (F:Nat→Prop) (r:Bool):Ending→World→Prop:=fun e w'=>e=.returned (.bool r)∧B.Loc w w' [] [St w []]
noncomputable abbrev Yjs (w:World) (F:Nat→Prop) (r:Bool):Cx:=⟨Try.prog,20,Try.f20,26,Yj0 w F  r,w⟩
theorem Yk8 (w:World) (F:Nat→Prop) (x1:List Bool) (x6:List Bool) (A2:Option Addr) (n3:Nat) (c4:Nat) (A7:Option Addr) (n8:Nat) (c9:Nat) (h5:Rw Ymq w (St w []).av A2 n3 c4 x1) (h10:Rw Ymq w (St w []).av A7 n8 c9 x6) (hF:∀ b,F b→b < w.heap.size∧∀ o ∈ ([]:List (List Nat)),b ∉ o) (hL0:B.Loc w w [] [Sm w.heap.size F w [],St w []]) (r:Bool) (h:Yib x1 x6 r):Calls Try.prog 20 #[.slice A2 n3 c4,.slice A7 n8 c9] w (Yj0 w F  r):=by
 unfold Yib at h
 refine Yh0 (vs:=[.slice A2 n3 c4,.slice A7 n8 c9]) 26 Try.func20 rfl Try.ntmps20 rfl hL0 ?_
 show G (Yjs w F r) _ _ _ _
 refine Yg3 rfl<|Yfy rfl rfl<|Yfx 0 rfl (Yg1 rfl) gn rfl<|Yg7 1 rfl<|Yg3 rfl<|Yg3 rfl<|Yfy rfl rfl<|Yfx 0 rfl (Yg2 rfl) gn rfl<|Yfx 1 rfl (Ygn Yu2 rfl h5.hq) gn rfl<|Yfx 2 rfl (Yg2 rfl) gn rfl<|Yfx 3 rfl (Ygn Yu2 rfl h10.hq) gn rfl<|Yfx 4 rfl (Ygj rfl rfl rfl) gn rfl ?_
 refine Yg7 5 rfl ?_
 by_cases hp11:(x1.length:Int)=(x6.length:Int)
 ·have h:=Ygf hp11 h
  refine Ygl rfl _ rfl ((eqib hp11))<|Ygt rfl<|Yg3 rfl<|Yg3 rfl<|Yfy rfl rfl<|Yfx 0 rfl (Yg1 rfl) gn rfl<|Yg7 1 rfl<|Ygm rfl<|Yij rfl ?_
  have key1:∀ s,Yga (fun (s:Int) o=>Yir x1 x6 s o) s r→(fun (s:Int)=>∀ (_:Unit),G (Yjs w F r) [.code Yp8,.inLoop Yp8,.inBlock 0,.code Yt4] [(0,.slice A2 n3 c4),(1,.slice A7 n8 c9),(5,.int .i64 s)] [] [Sm w.heap.size F w [],St w []]) s:=by
   intro s hs
   refine Yga.ind (mot:=(fun (s:Int)=>∀ (_:Unit),G (Yjs w F r) [.code Yp8,.inLoop Yp8,.inBlock 0,.code Yt4] [(0,.slice A2 n3 c4),(1,.slice A7 n8 c9),(5,.int .i64 s)] [] [Sm w.heap.size F w [],St w []])) ?_ hs
   clear hs s
   intro x23 o1 h hO1
   show ∀ (_:Unit),G (Yjs w F r) [.code Yp8,.inLoop Yp8,.inBlock 0,.code Yt4] [(0,.slice A2 n3 c4),(1,.slice A7 n8 c9),(5,.int .i64 x23)] [] [Sm w.heap.size F w [],St w []]
   intro _
   have h:Yir x1 x6 x23 o1:=h
   unfold Yir at h
   refine Yg3 rfl<|Yg3 rfl<|Yfy rfl rfl<|Yfx 0 rfl (Yg2 rfl) gn rfl<|Yfx 1 rfl (Yg2 rfl) gn rfl<|Yfx 2 rfl (Ygn Yu2 rfl h5.hq) gn rfl<|Yfx 3 rfl (Ygj rfl rfl rfl) gn rfl<|Yg7 4 rfl ?_
   by_cases hp34:x23 < (x1.length:Int)
   ·have h:=Ygf hp34 h
    refine Ygp rfl _ rfl ((decide_eq_true hp34))<|Ygt rfl<|Yg3 rfl<|Ygm rfl<|Yg3 rfl ?_
    obtain ⟨hb35,h⟩:=h
    obtain ⟨hb37,h⟩:=h
    have hns:Region.noSelect (Code.ops q20c24)=true:=by kernel_rfl
    refine Yk2 [] 9 rfl rfl mix rfl (.c 0 rfl (.c 1 rfl .n))<|wfv 0 rfl (Yg2 rfl) gn hns rfl<|wfv 1 rfl (Yg2 rfl) gn hns rfl ?_
    have hr41:=Rw.readF (s:=St w []) (hl:=hlB) (h1:=Yn7) h5 hb35
    refine wfv 2 rfl (Yhp (s:=St w []) Ynr rfl rfl h5 hb35) gn hns rfl<|wfv 3 rfl (Yjj (kk:=(x23:Int).toNat * 1) (j:=0) (St w []) ld_4 rfl hr41 rfl (me 1 rfl)) gn hns rfl<|wfv 4 rfl (Yg2 rfl) gn hns rfl<|wfv 5 rfl (Yg2 rfl) gn hns rfl ?_
    have hr42:=Rw.readF (s:=St w []) (hl:=hlB) (h1:=Yn7) h10 hb37
    refine wfv 6 rfl (Yhp (s:=St w []) Ynr rfl rfl h10 hb37) gn hns rfl<|wfv 7 rfl (Yjj (kk:=(x23:Int).toNat * 1) (j:=0) (St w []) ld_4 rfl hr42 rfl (me 1 rfl)) gn hns rfl<|wfv 8 rfl (v_neB un_4 rfl rfl) gn hns rfl<|Yl0 (by kernel_rfl) ?_
    by_cases hp43:((ix x1 x23) != (ix x6 x23))=true
    ·have h:=Ygf hp43 h
     refine Ygp rfl _ rfl (hp43)<|Yg3 rfl<|Yfy rfl rfl<|Yfx 0 rfl (Yg1 rfl) gn rfl<|Yg7 1 rfl ?_
     have h:=Out.inr hO1 h
     refine Ygx [.bool false] rfl Try.func20 rfl (.tmp rfl (.nil)) fun wr hLr=>?_
     have hMr:=hLr.pk0 (.c 1 rfl .n)
     show Yj0 w F  r (.returned (Yhe [.bool false])) wr
     rw [h]
     exact ⟨rfl,hMr⟩
    ·have h:=Yge hp43 h
     refine Ygl rfl _ rfl ((bf hp43))<|Ygt rfl<|Ygq<|Yfy rfl rfl<|Yfx 0 rfl (Yg2 rfl) gn rfl<|Yfx 1 rfl (Ygj rfl rfl rfl) gn rfl<|Yfx 2 rfl (Yg1 rfl) gn rfl<|Yg7 3 rfl<|Ygv ?_
     have ih:=Out.inl hO1 h
     exact Yhj [0,1] (ih ()) ⟨rfl,rfl,rfl,trivial⟩ (.slnil) rfl
   ·have h:=Yge hp34 h
    refine Ygl rfl _ rfl ((decide_eq_false hp34))<|Yii [.code Yt4] rfl rfl<|Yg3 rfl<|Yfy rfl rfl<|Yfx 0 rfl (Yg1 rfl) gn rfl<|Yg7 1 rfl ?_
    have h:=Out.inr hO1 h
    refine Ygx [.bool true] rfl Try.func20 rfl (.tmp rfl (.nil)) fun wr hLr=>?_
    have hMr:=hLr.pk0 (.c 1 rfl .n)
    show Yj0 w F  r (.returned (Yhe [.bool true])) wr
    rw [h]
    exact ⟨rfl,hMr⟩
  exact Yhj [0,1] (key1 _ h ()) ⟨rfl,rfl,rfl,trivial⟩ (.slnil) rfl
 ·have h:=Yge hp11 h
  refine Ygp rfl _ rfl ((neib hp11))<|Yg3 rfl<|Yfy rfl rfl<|Yfx 0 rfl (Yg1 rfl) gn rfl<|Yg7 1 rfl ?_
  refine Ygx [.bool false] rfl Try.func20 rfl (.tmp rfl (.nil)) fun wr hLr=>?_
  have hMr:=hLr.pk0 (.c 1 rfl .n)
  show Yj0 w F  r (.returned (Yhe [.bool false])) wr
  rw [h]
  exact ⟨rfl,hMr⟩
noncomputable abbrev Ysw:=Code.snd (Code.snd (Code.snd (Yhm Try.f21)))
noncomputable abbrev Ypb:=Code.fst (Code.fst (Code.snd (Code.fst (Code.snd (Code.snd (Yhm Try.f21))))))
noncomputable abbrev q21c24:=Code.fst (Code.fst (Code.fst (Code.snd Ypb)))
abbrev Yiz (w:World) (F:Nat→Prop) (r:Bool):Ending→World→Prop:=fun e w'=>e=.returned (.bool r)∧B.Loc w w' [] [St w []]
noncomputable abbrev Yjt (w:World) (F:Nat→Prop) (r:Bool):Cx:=⟨Try.prog,21,Try.f21,26,Yiz w F  r,w⟩
theorem Yk7 (w:World) (F:Nat→Prop) (x1:List Int) (x6:List Int) (A2:Option Addr) (n3:Nat) (c4:Nat) (A7:Option Addr) (n8:Nat) (c9:Nat) (h5:Rw (Yqx .u64) w (St w []).av A2 n3 c4 x1) (h10:Rw (Yqx .u64) w (St w []).av A7 n8 c9 x6) (hF:∀ b,F b→b < w.heap.size∧∀ o ∈ ([]:List (List Nat)),b ∉ o) (hL0:B.Loc w w [] [Sm w.heap.size F w [],St w []]) (r:Bool) (h:Yia x1 x6 r):Calls Try.prog 21 #[.slice A2 n3 c4,.slice A7 n8 c9] w (Yiz w F  r):=by
 unfold Yia at h
 refine Yh0 (vs:=[.slice A2 n3 c4,.slice A7 n8 c9]) 26 Try.func21 rfl Try.ntmps21 rfl hL0 ?_
 show G (Yjt w F r) _ _ _ _
 refine Yg3 rfl<|Yfy rfl rfl<|Yfx 0 rfl (Yg1 rfl) gn rfl<|Yg7 1 rfl<|Yg3 rfl<|Yg3 rfl<|Yfy rfl rfl<|Yfx 0 rfl (Yg2 rfl) gn rfl<|Yfx 1 rfl (Ygn Ytq rfl h5.hq) gn rfl<|Yfx 2 rfl (Yg2 rfl) gn rfl<|Yfx 3 rfl (Ygn Ytq rfl h10.hq) gn rfl<|Yfx 4 rfl (Ygj rfl rfl rfl) gn rfl ?_
 refine Yg7 5 rfl ?_
 by_cases hp11:(x1.length:Int)=(x6.length:Int)
 ·have h:=Ygf hp11 h
  refine Ygl rfl _ rfl ((eqib hp11))<|Ygt rfl<|Yg3 rfl<|Yg3 rfl<|Yfy rfl rfl<|Yfx 0 rfl (Yg1 rfl) gn rfl<|Yg7 1 rfl<|Ygm rfl<|Yij rfl ?_
  have key1:∀ s,Yga (fun (s:Int) o=>Yiq x1 x6 s o) s r→(fun (s:Int)=>∀ (_:Unit),G (Yjt w F r) [.code Ypb,.inLoop Ypb,.inBlock 0,.code Ysw] [(0,.slice A2 n3 c4),(1,.slice A7 n8 c9),(5,.int .i64 s)] [] [Sm w.heap.size F w [],St w []]) s:=by
   intro s hs
   refine Yga.ind (mot:=(fun (s:Int)=>∀ (_:Unit),G (Yjt w F r) [.code Ypb,.inLoop Ypb,.inBlock 0,.code Ysw] [(0,.slice A2 n3 c4),(1,.slice A7 n8 c9),(5,.int .i64 s)] [] [Sm w.heap.size F w [],St w []])) ?_ hs
   clear hs s
   intro x23 o1 h hO1
   show ∀ (_:Unit),G (Yjt w F r) [.code Ypb,.inLoop Ypb,.inBlock 0,.code Ysw] [(0,.slice A2 n3 c4),(1,.slice A7 n8 c9),(5,.int .i64 x23)] [] [Sm w.heap.size F w [],St w []]
   intro _
   have h:Yiq x1 x6 x23 o1:=h
   unfold Yiq at h
   refine Yg3 rfl<|Yg3 rfl<|Yfy rfl rfl<|Yfx 0 rfl (Yg2 rfl) gn rfl<|Yfx 1 rfl (Yg2 rfl) gn rfl<|Yfx 2 rfl (Ygn Ytq rfl h5.hq) gn rfl<|Yfx 3 rfl (Ygj rfl rfl rfl) gn rfl<|Yg7 4 rfl ?_
   by_cases hp34:x23 < (x1.length:Int)
   ·have h:=Ygf hp34 h
    refine Ygp rfl _ rfl ((decide_eq_true hp34))<|Ygt rfl<|Yg3 rfl<|Ygm rfl<|Yg3 rfl ?_
    obtain ⟨hb35,h⟩:=h
    obtain ⟨hb37,h⟩:=h
    have hns:Region.noSelect (Code.ops q21c24)=true:=by kernel_rfl
    refine Yk2 [] 9 rfl rfl mix rfl (.c 0 rfl (.c 1 rfl .n))<|wfv 0 rfl (Yg2 rfl) gn hns rfl<|wfv 1 rfl (Yg2 rfl) gn hns rfl ?_
    have hr41:=Rw.readF (s:=St w []) (hl:=(hlI .u64)) (h1:=(Yol .u64)) h5 hb35
    refine wfv 2 rfl (Yhp (s:=St w []) Yul rfl rfl h5 hb35) gn hns rfl<|wfv 3 rfl (Yjj (kk:=(x23:Int).toNat * 1) (j:=0) (St w []) ld_29 rfl hr41 rfl (me 1 rfl)) gn hns rfl<|wfv 4 rfl (Yg2 rfl) gn hns rfl<|wfv 5 rfl (Yg2 rfl) gn hns rfl ?_
    have hr42:=Rw.readF (s:=St w []) (hl:=(hlI .u64)) (h1:=(Yol .u64)) h10 hb37
    refine wfv 6 rfl (Yhp (s:=St w []) Yul rfl rfl h10 hb37) gn hns rfl<|wfv 7 rfl (Yjj (kk:=(x23:Int).toNat * 1) (j:=0) (St w []) ld_29 rfl hr42 rfl (me 1 rfl)) gn hns rfl<|wfv 8 rfl (Ygj rfl rfl rfl) gn hns rfl<|Yl0 (by kernel_rfl) ?_
    by_cases hp43:ix x1 x23=ix x6 x23
    ·have h:=Ygf hp43 h
     refine Ygl rfl _ rfl ((eqib hp43))<|Ygt rfl<|Ygq<|Yfy rfl rfl<|Yfx 0 rfl (Yg2 rfl) gn rfl<|Yfx 1 rfl (Ygj rfl rfl rfl) gn rfl<|Yfx 2 rfl (Yg1 rfl) gn rfl<|Yg7 3 rfl<|Ygv ?_
     have ih:=Out.inl hO1 h
     exact Yhj [0,1] (ih ()) ⟨rfl,rfl,rfl,trivial⟩ (.slnil) rfl
    ·have h:=Yge hp43 h
     refine Ygp rfl _ rfl ((neib hp43))<|Yg3 rfl<|Yfy rfl rfl<|Yfx 0 rfl (Yg1 rfl) gn rfl<|Yg7 1 rfl ?_
     have h:=Out.inr hO1 h
     refine Ygx [.bool false] rfl Try.func21 rfl (.tmp rfl (.nil)) fun wr hLr=>?_
     have hMr:=hLr.pk0 (.c 1 rfl .n)
     show Yiz w F  r (.returned (Yhe [.bool false])) wr
     rw [h]
     exact ⟨rfl,hMr⟩
   ·have h:=Yge hp34 h
    refine Ygl rfl _ rfl ((decide_eq_false hp34))<|Yii [.code Ysw] rfl rfl<|Yg3 rfl<|Yfy rfl rfl<|Yfx 0 rfl (Yg1 rfl) gn rfl<|Yg7 1 rfl ?_
    have h:=Out.inr hO1 h
    refine Ygx [.bool true] rfl Try.func21 rfl (.tmp rfl (.nil)) fun wr hLr=>?_
    have hMr:=hLr.pk0 (.c 1 rfl .n)
    show Yiz w F  r (.returned (Yhe [.bool true])) wr
    rw [h]
    exact ⟨rfl,hMr⟩
  exact Yhj [0,1] (key1 _ h ()) ⟨rfl,rfl,rfl,trivial⟩ (.slnil) rfl
 ·have h:=Yge hp11 h
  refine Ygp rfl _ rfl ((neib hp11))<|Yg3 rfl<|Yfy rfl rfl<|Yfx 0 rfl (Yg1 rfl) gn rfl<|Yg7 1 rfl ?_
  refine Ygx [.bool false] rfl Try.func21 rfl (.tmp rfl (.nil)) fun wr hLr=>?_
  have hMr:=hLr.pk0 (.c 1 rfl .n)
  show Yiz w F  r (.returned (Yhe [.bool false])) wr
  rw [h]
  exact ⟨rfl,hMr⟩
end Go.Proofs.Ytelafghkjlpojaa.K
