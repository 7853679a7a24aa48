/- What the machine's calls do, function by function, printed by my own tool. Condition of each: its relation holds of the answer, and what is handed in lies in memory as told. -/
import Derived.Test.YtelafghkjlpojaaK2
set_option linter.unusedVariables false
set_option maxRecDepth 100000
set_option maxHeartbeats 4000000
namespace Go.Proofs.Ytelafghkjlpojaa.K
open Go.Proofs.Ytelafghkjlpojaa.B Go.Proofs.Ytelafghkjlpojaa.R Go.RowKit
noncomputable abbrev Yp3:=Code.snd (Code.snd (Code.snd (Code.snd (Code.snd (Yhf Try.f14)))))
noncomputable abbrev Yp2:=Code.fst (Code.fst (Code.snd (Code.fst (Code.snd (Code.snd (Code.snd (Code.snd (Yhf Try.f14))))))))
noncomputable abbrev Yrt:=Code.snd (Code.snd Yp3)
noncomputable abbrev Yon:=Code.fst (Code.fst (Code.snd (Code.fst (Code.snd Yp3))))
noncomputable abbrev q14c51:=Code.fst (Code.fst (Code.fst (Code.snd Yon)))
abbrev Yhk (w:World) (F:Nat→Prop) (r:Bool):Ending→World→Prop:=fun e w'=>e=.returned (.bool r)∧B.Loc w w' [] [St w []]
noncomputable abbrev Yia (w:World) (F:Nat→Prop) (r:Bool):Cx:=⟨Try.prog,14,Try.f14,109,Yhk w F  r,w⟩
theorem Yn9 (w:World) (F:Nat→Prop) (x1:Yfz) (k6:Nat) (k13:Nat) (x20:List (Yg8 × Nat)) (k21:Nat) (x24:Yfz) (A2:Option Addr) (n3:Nat) (c4:Nat) (A9:Option Addr) (n10:Nat) (c11:Nat) (A16:Option Addr) (n17:Nat) (c18:Nat) (A25:Option Addr) (n26:Nat) (c27:Nat) (A29:Option Addr) (n30:Nat) (c31:Nat) (A33:Option Addr) (n34:Nat) (c35:Nat) (h5:Rw Ygi w (St w []).av A2 n3 c4 x1.terms) (hk7:k6≤n3) (h12:Rw Yh1 w (St w []).av A9 n10 c11 x1.syms) (hk14:k13≤n10) (h19:Rw Ykq w (St w []).av A16 n17 c18 x20) (hk22:k21≤n17) (h28:Rw Ygi w (St w []).av A25 n26 c27 x24.terms) (h32:Rw Yh1 w (St w []).av A29 n30 c31 x24.syms) (h36:Rw Ygs w (St w []).av A33 n34 c35 x24.prods) (hF:∀ b,F b→b < w.heap.size∧∀ o ∈ ([]:List (List Nat)),b ∉ o) (hL0:B.Loc w w [] [Sm w.heap.size F w [],St w []]) (r:Bool) (h:Yjy x1 k6 k13 x20 k21 x24 r):Calls Try.prog 14 #[.agg #[.slice A2 k6 c4,.slice A9 k13 c11,.slice A16 k21 c18],.agg #[.slice A25 n26 c27,.slice A29 n30 c31,.slice A33 n34 c35]] w (Yhk w F  r):=by
 unfold Yjy at h
 have h8:=Rw.pre h5 hk7
 have h15:=Rw.pre h12 hk14
 have h23:=Rw.pre h19 hk22
 refine Ygx (vs:=[.agg #[.slice A2 k6 c4,.slice A9 k13 c11,.slice A16 k21 c18],.agg #[.slice A25 n26 c27,.slice A29 n30 c31,.slice A33 n34 c35]]) 109 Try.func14 rfl Try.ntmps14 rfl hL0 ?_
 show G (Yia w F r) _ _ _ _
 refine Yg4 rfl<|Yfy rfl rfl ?_
 refine Yh3 0 rfl (Ym6 [.slice A2 k6 c4,.slice A9 k13 c11,.slice A16 k21 c18] rfl rfl rfl fun gb37=>?_) gn
 refine Yh3 1 rfl (Ym6 [.slice A25 n26 c27,.slice A29 n30 c31,.slice A33 n34 c35] rfl rfl rfl fun gb39=>?_) gn
 refine Yfx 2 rfl (Yg3 rfl) gn rfl<|Yg7 3 rfl<|Yg4 rfl<|Yfy rfl rfl<|Yfx 0 rfl (Ygb Yi3 rfl) gn rfl<|Yfx 1 rfl (Yge 1 Ykl rfl rfl rfl) gn rfl<|Yfx 2 rfl (Ygb Yi3 rfl) gn rfl<|Yfx 3 rfl (Yge 0 Ykl rfl rfl rfl) gn rfl<|Yfx 4 rfl (Ygn Ylt rfl h28.hq) gn rfl<|Yfx 5 rfl (Ygh rfl rfl rfl) gn rfl ?_
 obtain ⟨hb41,h⟩:=h
 have hle42:(w64 ((x24.terms.length:Int) + 20):Int).toNat≤n3:=by have q:=hb41; have q1:=h5.hq; omega
 have h43:=Rw.pre h5 hle42
 refine Yfx 6 rfl (Ymg (i:=w64 ((x24.terms.length:Int) + 20)) Ypf rfl rfl (by have q:=hb41; have q1:=h5.hq; have q2:=h5.hn; omega) h8.hn rfl) gn rfl<|Yfx 7 rfl (Yg3 rfl) gn rfl<|Yg7 8 rfl<|Yg4 rfl<|Yfy rfl rfl<|Yfx 0 rfl (Ygb Yih rfl) gn rfl<|Yfx 1 rfl (Yge 1 Yl1 rfl rfl rfl) gn rfl<|Yfx 2 rfl (Ygb Yih rfl) gn rfl<|Yfx 3 rfl (Yge 0 Yl1 rfl rfl rfl) gn rfl<|Yfx 4 rfl (Ygn Ymd rfl h32.hq) gn rfl<|Yfx 5 rfl (Ygh rfl rfl rfl) gn rfl ?_
 obtain ⟨hb44,h⟩:=h
 have hle45:(w64 ((x24.syms.length:Int) + 20):Int).toNat≤n10:=by have q:=hb44; have q1:=h12.hq; omega
 have h46:=Rw.pre h12 hle45
 refine Yfx 6 rfl (Ymg (i:=w64 ((x24.syms.length:Int) + 20)) Ypk rfl rfl (by have q:=hb44; have q1:=h12.hq; have q2:=h12.hn; omega) h15.hn rfl) gn rfl<|Yfx 7 rfl (Yg3 rfl) gn rfl<|Yg7 8 rfl<|Yg4 rfl<|Yfy rfl rfl<|Yfx 0 rfl (Ygb Ygw rfl) gn rfl<|Yfx 1 rfl (Yge 1 Yip rfl rfl rfl) gn rfl<|Yfx 2 rfl (Ygb Ygw rfl) gn rfl<|Yfx 3 rfl (Yge 0 Yip rfl rfl rfl) gn rfl<|Yfx 4 rfl (Ygn Ymb rfl h36.hq) gn rfl<|Yfx 5 rfl (Ygh rfl rfl rfl) gn rfl ?_
 obtain ⟨hb47,h⟩:=h
 have hle48:(w64 ((x24.prods.length:Int) + 20):Int).toNat≤n17:=by have q:=hb47; have q1:=h19.hq; omega
 have h49:=Rw.pre h19 hle48
 refine Yfx 6 rfl (Ymg (i:=w64 ((x24.prods.length:Int) + 20)) Yj6 rfl rfl (by have q:=hb47; have q1:=h19.hq; have q2:=h19.hn; omega) h23.hn rfl) gn rfl<|Yfx 7 rfl (Yg3 rfl) gn rfl<|Yg7 8 rfl<|Yg4 rfl<|Yg4 rfl<|Yfy rfl rfl<|Yfx 0 rfl (Yg3 rfl) gn rfl<|Yg7 1 rfl<|Ygk rfl<|Yiu rfl ?_
 have key1:∀ s,Yga (fun (s:Int) o=>Yj4 x24 x1 x20 k6 k13 k21 s o) s r→(fun (s:Int)=>∀ (_:Unit),G (Yia w F r) [.code Yp2,.inLoop Yp2,.inBlock 0,.code Yp3] [(2,.pointer (some ⟨gb37,0,none⟩)),(3,.pointer (some ⟨gb39,0,none⟩)),(5,.slice A2 ((w64 ((x24.terms.length:Int) + 20):Int).toNat) c4),(6,.slice A9 ((w64 ((x24.syms.length:Int) + 20):Int).toNat) c11),(7,.slice A16 ((w64 ((x24.prods.length:Int) + 20):Int).toNat) c18),(8,.int .i64 s)] [.box gb39 26 [.slice A25 n26 c27,.slice A29 n30 c31,.slice A33 n34 c35],.box gb37 26 [.slice A2 k6 c4,.slice A9 k13 c11,.slice A16 k21 c18]] [Sm w.heap.size F w [],St w []]) s:=by
  intro s hs
  refine Yga.ind (mot:=(fun (s:Int)=>∀ (_:Unit),G (Yia w F r) [.code Yp2,.inLoop Yp2,.inBlock 0,.code Yp3] [(2,.pointer (some ⟨gb37,0,none⟩)),(3,.pointer (some ⟨gb39,0,none⟩)),(5,.slice A2 ((w64 ((x24.terms.length:Int) + 20):Int).toNat) c4),(6,.slice A9 ((w64 ((x24.syms.length:Int) + 20):Int).toNat) c11),(7,.slice A16 ((w64 ((x24.prods.length:Int) + 20):Int).toNat) c18),(8,.int .i64 s)] [.box gb39 26 [.slice A25 n26 c27,.slice A29 n30 c31,.slice A33 n34 c35],.box gb37 26 [.slice A2 k6 c4,.slice A9 k13 c11,.slice A16 k21 c18]] [Sm w.heap.size F w [],St w []])) ?_ hs
  clear hs s
  intro x76 o1 h hO1
  show ∀ (_:Unit),G (Yia w F r) [.code Yp2,.inLoop Yp2,.inBlock 0,.code Yp3] [(2,.pointer (some ⟨gb37,0,none⟩)),(3,.pointer (some ⟨gb39,0,none⟩)),(5,.slice A2 ((w64 ((x24.terms.length:Int) + 20):Int).toNat) c4),(6,.slice A9 ((w64 ((x24.syms.length:Int) + 20):Int).toNat) c11),(7,.slice A16 ((w64 ((x24.prods.length:Int) + 20):Int).toNat) c18),(8,.int .i64 x76)] [.box gb39 26 [.slice A25 n26 c27,.slice A29 n30 c31,.slice A33 n34 c35],.box gb37 26 [.slice A2 k6 c4,.slice A9 k13 c11,.slice A16 k21 c18]] [Sm w.heap.size F w [],St w []]
  intro _
  have h:Yj4 x24 x1 x20 k6 k13 k21 x76 o1:=h
  unfold Yj4 at h
  refine Yg4 rfl<|Yg4 rfl<|Yfy rfl rfl<|Yfx 0 rfl (Yg1 rfl) gn rfl<|Yfx 1 rfl (Ygh rfl rfl rfl) gn rfl<|Yg7 2 rfl ?_
  by_cases hp357:x76 < 20
  ·have h:=Ygg hp357 h
   refine Ygm rfl _ rfl ((decide_eq_true hp357))<|Ygp rfl<|Yg4 rfl<|Ygk rfl<|Yg4 rfl<|Yfy rfl rfl<|Yfx 0 rfl (Yg1 rfl) gn rfl<|Yfx 1 rfl (Ygb Yi3 rfl) gn rfl<|Yfx 2 rfl (Yge 0 Ykl rfl rfl rfl) gn rfl<|Yfx 3 rfl (Ygn Ylt rfl h28.hq) gn rfl<|Yfx 4 rfl (Yg1 rfl) gn rfl<|Yfx 5 rfl (Ygh rfl rfl rfl) gn rfl ?_
   obtain ⟨hb358,h⟩:=h
   have hr359:=Rw.readF (s:=St w []) (hl:=Yjz) (h1:=Yk0) h43 hb358
   refine Yfx 6 rfl (Yht (s:=St w []) Ypf rfl rfl h43 hb358) gn rfl<|Yfx 7 rfl (Ylx (St w []) ld_58 rfl hr359 rfl (me 1 rfl)) gn rfl<|Yfx 8 rfl (Ymz #[.string (⟨#[109,97,114,107]⟩:ByteArray),.bool false] bd_58 rfl (by kernel_rfl)) gn rfl<|Yfx 9 rfl (Yp1 eq_58 rfl rfl (Ynp (ix (x1.terms.take ((w64 ((x24.terms.length:Int) + 20):Int).toNat)) (w64 ((x24.terms.length:Int) + x76))) (⟨(⟨#[109,97,114,107]⟩:ByteArray),false⟩:Ygc))) gn rfl<|Yfx 10 rfl (Yg1 rfl) gn rfl ?_
   by_cases hp360:ix (x1.terms.take ((w64 ((x24.terms.length:Int) + 20):Int).toNat)) (w64 ((x24.terms.length:Int) + x76))=(⟨(⟨#[109,97,114,107]⟩:ByteArray),false⟩:Ygc)
   ·have h:=Ygg hp360 h
    refine Yhr 45 rfl ((nf (decide_eq_true hp360)))<|Yfx 11 rfl (Yg1 rfl) (gy 45 rfl rfl) rfl<|Yfx 12 rfl (Ygb Yih rfl) (gy 45 rfl rfl) rfl<|Yfx 13 rfl (Yge 0 Yl1 rfl rfl rfl) (gy 45 rfl rfl) rfl<|Yfx 14 rfl (Ygn Ymd rfl h32.hq) (gy 45 rfl rfl) rfl<|Yfx 15 rfl (Yg1 rfl) (gy 45 rfl rfl) rfl<|Yfx 16 rfl (Ygh rfl rfl rfl) (gy 45 rfl rfl) rfl ?_
    obtain ⟨hb361,h⟩:=h
    have hr362:=Rw.readF (s:=St w []) (hl:=Ylk) (h1:=Ylj) h46 hb361
    refine Yfx 17 rfl (Yht (s:=St w []) Ypk rfl rfl h46 hb361) (gy 45 rfl rfl) rfl<|Yfx 18 rfl (Ylx (St w []) ld_61 rfl hr362 rfl (me 1 rfl)) (gy 45 rfl rfl) rfl<|Yfx 19 rfl (Ymz #[.string (⟨#[109,97,114,107]⟩:ByteArray),.int .i64 0] bd_61 rfl (by kernel_rfl)) (gy 45 rfl rfl) rfl<|Yfx 20 rfl (Yp1 eq_61 rfl rfl (Ypw (ix (x1.syms.take ((w64 ((x24.syms.length:Int) + 20):Int).toNat)) (w64 ((x24.syms.length:Int) + x76))) (⟨(⟨#[109,97,114,107]⟩:ByteArray),0⟩:Ygq))) (gy 45 rfl rfl) rfl<|Yfx 21 rfl (Ygv (b:=false) rfl rfl) gn rfl<|Yfx 22 rfl (Yg1 rfl) gn rfl ?_
    by_cases hp363:ix (x1.syms.take ((w64 ((x24.syms.length:Int) + 20):Int).toNat)) (w64 ((x24.syms.length:Int) + x76))=(⟨(⟨#[109,97,114,107]⟩:ByteArray),0⟩:Ygq)
    ·have h:=Ygg hp363 h
     refine Yhr 57 rfl ((nf (decide_eq_true hp363)))<|Yfx 23 rfl (Yg1 rfl) (gy 57 rfl rfl) rfl<|Yfx 24 rfl (Ygb Ygw rfl) (gy 57 rfl rfl) rfl<|Yfx 25 rfl (Yge 0 Yip rfl rfl rfl) (gy 57 rfl rfl) rfl<|Yfx 26 rfl (Ygn Ymb rfl h36.hq) (gy 57 rfl rfl) rfl<|Yfx 27 rfl (Yg1 rfl) (gy 57 rfl rfl) rfl<|Yfx 28 rfl (Ygh rfl rfl rfl) (gy 57 rfl rfl) rfl ?_
     obtain ⟨hb364,h⟩:=h
     obtain ⟨ce366,hK367,hr365⟩:=Rw.read (s:=St w []) h49 hb364
     obtain ⟨A368,n369,c370,rfl,h371,hk372⟩:=hK367
     refine Yfx 29 rfl (Yht (s:=St w []) Yj6 rfl rfl h49 hb364) (gy 57 rfl rfl) rfl<|Yfx 30 rfl (Yjh Yk7 rfl) (gy 57 rfl rfl) rfl<|Yfx 31 rfl (Yjt (kk:=(w64 ((x24.prods.length:Int) + x76):Int).toNat * 2) (j:=0) (St w []) Ym5 rfl hr365 rfl (me 1 rfl)) (gy 57 rfl rfl) rfl<|Yfx 32 rfl (Yg1 rfl) (gy 57 rfl rfl) rfl<|Yfx 33 rfl (Ygh rfl rfl rfl) (gy 57 rfl rfl) rfl<|Yfx 34 rfl (Ygh rfl rfl rfl) (gy 57 rfl rfl) rfl<|Yfx 35 rfl (Ygv (b:=false) rfl rfl) gn rfl<|Yfx 36 rfl (Yg1 rfl) gn rfl ?_
     by_cases hp373:((ix (x20.take ((w64 ((x24.prods.length:Int) + 20):Int).toNat)) (w64 ((x24.prods.length:Int) + x76))).1).lhs=w64 (900 + x76)
     ·have h:=Ygg hp373 h
      refine Yhr 71 rfl ((eqib hp373))<|Yfx 37 rfl (Yg1 rfl) (gy 71 rfl rfl) rfl<|Yfx 38 rfl (Ygb Ygw rfl) (gy 71 rfl rfl) rfl<|Yfx 39 rfl (Yge 0 Yip rfl rfl rfl) (gy 71 rfl rfl) rfl<|Yfx 40 rfl (Ygn Ymb rfl h36.hq) (gy 71 rfl rfl) rfl<|Yfx 41 rfl (Yg1 rfl) (gy 71 rfl rfl) rfl<|Yfx 42 rfl (Ygh rfl rfl rfl) (gy 71 rfl rfl) rfl ?_
      obtain ⟨ce375,hK376,hr374⟩:=Rw.read (s:=St w []) h49 hb364
      obtain ⟨A377,n378,c379,rfl,h380,hk381⟩:=hK376
      refine Yfx 43 rfl (Yht (s:=St w []) Yj6 rfl rfl h49 hb364) (gy 71 rfl rfl) rfl<|Yfx 44 rfl (Yjh Yke rfl) (gy 71 rfl rfl) rfl<|Yfx 45 rfl (Yjt (kk:=(w64 ((x24.prods.length:Int) + x76):Int).toNat * 2) (j:=1) (St w []) Ymv rfl hr374 rfl (me 1 rfl)) (gy 71 rfl rfl) rfl<|Yfx 46 rfl (Ygn Ym9 rfl (Rw.pre h380 hk381).hq) (gy 71 rfl rfl) rfl<|Yfx 47 rfl (Ygh rfl rfl rfl) (gy 71 rfl rfl) rfl<|Yfx 48 rfl (Ygv (b:=false) rfl rfl) gn rfl<|Yg7 49 rfl ?_
      by_cases hp382:(((((ix (x20.take ((w64 ((x24.prods.length:Int) + 20):Int).toNat)) (w64 ((x24.prods.length:Int) + x76))).1).rhs).take ((ix (x20.take ((w64 ((x24.prods.length:Int) + 20):Int).toNat)) (w64 ((x24.prods.length:Int) + x76))).2)).length:Int) > 0
      ·have h:=Ygg hp382 h
       refine Ygm rfl _ rfl ((decide_eq_true hp382))<|Yg4 rfl<|Yfy rfl rfl<|Yfx 0 rfl (Yg3 rfl) gn rfl<|Yg7 1 rfl ?_
       have h:=Out.inr hO1 h
       refine Ygu [.bool false] rfl Try.func14 rfl (.tmp rfl (.nil)) fun wr hLr=>?_
       have hMr:=hLr.pk0 (.c 1 rfl .n)
       show Yhk w F  r (.returned (Yhi [.bool false])) wr
       rw [h]
       exact ⟨rfl,hMr⟩
      ·have h:=Ygf hp382 h
       refine Ygj rfl _ rfl ((decide_eq_false hp382))<|Ygp rfl<|Ygo<|Yfy rfl rfl<|Yfx 0 rfl (Yg1 rfl) gn rfl<|Yfx 1 rfl (Ygh rfl rfl rfl) gn rfl<|Yfx 2 rfl (Yg3 rfl) gn rfl<|Yg7 3 rfl<|Ygt ?_
       have ih:=Out.inl hO1 h
       exact Yhq [0,1] (ih ()) ⟨rfl,rfl,rfl,rfl,rfl,rfl,trivial⟩ (.cons_cons _ (.cons_cons _ (.slnil))) rfl
     ·have h:=Ygf hp373 h
      refine Yhr 71 rfl ((neib hp373))<|Yg5 37 rfl (ps 71 rfl rfl rfl)<|Yg5 38 rfl (ps 71 rfl rfl rfl)<|Yg5 39 rfl (ps 71 rfl rfl rfl)<|Yg5 40 rfl (ps 71 rfl rfl rfl)<|Yg5 41 rfl (ps 71 rfl rfl rfl)<|Yg5 42 rfl (ps 71 rfl rfl rfl)<|Yg5 43 rfl (ps 71 rfl rfl rfl)<|Yg5 44 rfl (ps 71 rfl rfl rfl)<|Yg5 45 rfl (ps 71 rfl rfl rfl)<|Yg5 46 rfl (ps 71 rfl rfl rfl)<|Yg5 47 rfl (ps 71 rfl rfl rfl) ?_
      refine Yfx 48 rfl (Ygv (b:=true) rfl rfl) gn rfl<|Yg7 49 rfl<|Ygm rfl _ rfl (rfl)<|Yg4 rfl<|Yfy rfl rfl<|Yfx 0 rfl (Yg3 rfl) gn rfl<|Yg7 1 rfl ?_
      have h:=Out.inr hO1 h
      refine Ygu [.bool false] rfl Try.func14 rfl (.tmp rfl (.nil)) fun wr hLr=>?_
      have hMr:=hLr.pk0 (.c 1 rfl .n)
      show Yhk w F  r (.returned (Yhi [.bool false])) wr
      rw [h]
      exact ⟨rfl,hMr⟩
    ·have h:=Ygf hp363 h
     refine Yhr 57 rfl ((nt (decide_eq_false hp363)))<|Yg5 23 rfl (ps 57 rfl rfl rfl)<|Yg5 24 rfl (ps 57 rfl rfl rfl)<|Yg5 25 rfl (ps 57 rfl rfl rfl)<|Yg5 26 rfl (ps 57 rfl rfl rfl)<|Yg5 27 rfl (ps 57 rfl rfl rfl)<|Yg5 28 rfl (ps 57 rfl rfl rfl)<|Yg5 29 rfl (ps 57 rfl rfl rfl)<|Yg5 30 rfl (ps 57 rfl rfl rfl)<|Yg5 31 rfl (ps 57 rfl rfl rfl)<|Yg5 32 rfl (ps 57 rfl rfl rfl)<|Yg5 33 rfl (ps 57 rfl rfl rfl) ?_
     refine Yg5 34 rfl (ps 57 rfl rfl rfl)<|Yfx 35 rfl (Ygv (b:=true) rfl rfl) gn rfl<|Yfx 36 rfl (Yg1 rfl) gn rfl<|Yg5 37 rfl (ps 71 rfl rfl rfl)<|Yg5 38 rfl (ps 71 rfl rfl rfl)<|Yg5 39 rfl (ps 71 rfl rfl rfl)<|Yg5 40 rfl (ps 71 rfl rfl rfl)<|Yg5 41 rfl (ps 71 rfl rfl rfl)<|Yg5 42 rfl (ps 71 rfl rfl rfl)<|Yg5 43 rfl (ps 71 rfl rfl rfl)<|Yg5 44 rfl (ps 71 rfl rfl rfl)<|Yg5 45 rfl (ps 71 rfl rfl rfl) ?_
     refine Yg5 46 rfl (ps 71 rfl rfl rfl)<|Yg5 47 rfl (ps 71 rfl rfl rfl)<|Yfx 48 rfl (Ygv (b:=true) rfl rfl) gn rfl<|Yg7 49 rfl<|Ygm rfl _ rfl (rfl)<|Yg4 rfl<|Yfy rfl rfl<|Yfx 0 rfl (Yg3 rfl) gn rfl<|Yg7 1 rfl ?_
     have h:=Out.inr hO1 h
     refine Ygu [.bool false] rfl Try.func14 rfl (.tmp rfl (.nil)) fun wr hLr=>?_
     have hMr:=hLr.pk0 (.c 1 rfl .n)
     show Yhk w F  r (.returned (Yhi [.bool false])) wr
     rw [h]
     exact ⟨rfl,hMr⟩
   ·have h:=Ygf hp360 h
    refine Yhr 45 rfl ((nt (decide_eq_false hp360)))<|Yg5 11 rfl (ps 45 rfl rfl rfl)<|Yg5 12 rfl (ps 45 rfl rfl rfl)<|Yg5 13 rfl (ps 45 rfl rfl rfl)<|Yg5 14 rfl (ps 45 rfl rfl rfl)<|Yg5 15 rfl (ps 45 rfl rfl rfl)<|Yg5 16 rfl (ps 45 rfl rfl rfl)<|Yg5 17 rfl (ps 45 rfl rfl rfl)<|Yg5 18 rfl (ps 45 rfl rfl rfl)<|Yg5 19 rfl (ps 45 rfl rfl rfl)<|Yg5 20 rfl (ps 45 rfl rfl rfl)<|Yfx 21 rfl (Ygv (b:=true) rfl rfl) gn rfl ?_
    refine Yfx 22 rfl (Yg1 rfl) gn rfl<|Yg5 23 rfl (ps 57 rfl rfl rfl)<|Yg5 24 rfl (ps 57 rfl rfl rfl)<|Yg5 25 rfl (ps 57 rfl rfl rfl)<|Yg5 26 rfl (ps 57 rfl rfl rfl)<|Yg5 27 rfl (ps 57 rfl rfl rfl)<|Yg5 28 rfl (ps 57 rfl rfl rfl)<|Yg5 29 rfl (ps 57 rfl rfl rfl)<|Yg5 30 rfl (ps 57 rfl rfl rfl)<|Yg5 31 rfl (ps 57 rfl rfl rfl)<|Yg5 32 rfl (ps 57 rfl rfl rfl)<|Yg5 33 rfl (ps 57 rfl rfl rfl) ?_
    refine Yg5 34 rfl (ps 57 rfl rfl rfl)<|Yfx 35 rfl (Ygv (b:=true) rfl rfl) gn rfl<|Yfx 36 rfl (Yg1 rfl) gn rfl<|Yg5 37 rfl (ps 71 rfl rfl rfl)<|Yg5 38 rfl (ps 71 rfl rfl rfl)<|Yg5 39 rfl (ps 71 rfl rfl rfl)<|Yg5 40 rfl (ps 71 rfl rfl rfl)<|Yg5 41 rfl (ps 71 rfl rfl rfl)<|Yg5 42 rfl (ps 71 rfl rfl rfl)<|Yg5 43 rfl (ps 71 rfl rfl rfl)<|Yg5 44 rfl (ps 71 rfl rfl rfl)<|Yg5 45 rfl (ps 71 rfl rfl rfl) ?_
    refine Yg5 46 rfl (ps 71 rfl rfl rfl)<|Yg5 47 rfl (ps 71 rfl rfl rfl)<|Yfx 48 rfl (Ygv (b:=true) rfl rfl) gn rfl<|Yg7 49 rfl<|Ygm rfl _ rfl (rfl)<|Yg4 rfl<|Yfy rfl rfl<|Yfx 0 rfl (Yg3 rfl) gn rfl<|Yg7 1 rfl ?_
    have h:=Out.inr hO1 h
    refine Ygu [.bool false] rfl Try.func14 rfl (.tmp rfl (.nil)) fun wr hLr=>?_
    have hMr:=hLr.pk0 (.c 1 rfl .n)
    show Yhk w F  r (.returned (Yhi [.bool false])) wr
    rw [h]
    exact ⟨rfl,hMr⟩
  ·have h:=Ygf hp357 h
   refine Ygj rfl _ rfl ((decide_eq_false hp357))<|Yit [.code Yp3] rfl rfl<|Yg4 rfl<|Yg4 rfl<|Yfy rfl rfl<|Yfx 0 rfl (Ykb [.slice A2 k6 c4,.slice A9 k13 c11,.slice A16 k21 c18] 1 Yk6 rfl rfl rfl rfl) gn rfl<|Yfx 1 rfl (Ykb [.slice A25 n26 c27,.slice A29 n30 c31,.slice A33 n34 c35] 0 Yk6 rfl rfl rfl rfl) gn rfl ?_
   obtain ⟨r386,hv387,h⟩:=h
   refine Yh3 2 rfl (Yhy [.agg #[.slice A2 k6 c4,.slice A9 k13 c11,.slice A16 k21 c18],.agg #[.slice A25 n26 c27,.slice A29 n30 c31,.slice A33 n34 c35]] rfl Try.func35 rfl rfl rfl fun w383 hL384=>?_) gn
   have hp385:=pmI hL384 .n (.c 0 rfl (.c 1 rfl .n)) (by kernel_rfl)
   refine Calls.mono (Ynb w383 (Fl ([]:List Ygl)) (⟨(x1.terms.take k6),(x1.syms.take k13),((x20.take k21).map Yj3)⟩:Yfz) x24 A2 k6 c4 A9 k13 c11 A16 k21 c18 A25 n26 c27 A29 n30 c31 A33 n34 c35 (Rw.mono h8 (hL384.toSt hp385 (me 1 rfl))) (Rw.mono h15 (hL384.toSt hp385 (me 1 rfl))) (Rw.vis (dk:=Ykq) (dk2:=Ygs) Yj3 rfl (fun x cs=>by rintro ⟨A,n,c,rfl,h,k⟩; exact ⟨A,_,c,rfl,Rw.pre h k⟩) (Rw.mono h23 (hL384.toSt hp385 (me 1 rfl)))) (Rw.mono h28 (hL384.toSt hp385 (me 1 rfl))) (Rw.mono h32 (hL384.toSt hp385 (me 1 rfl))) (Rw.mono h36 (hL384.toSt hp385 (me 1 rfl))) (hL384.hFl hp385 (Yj0 [] rfl)) (hL384.into hp385 _) r386 hv387) ?_
   rintro _ w388 ⟨rfl,hM389⟩
   have hL390:=hL384.call hp385 hM389
   refine ⟨_,_,_,rfl,hL390,?_⟩
   refine Yfx 3 rfl (Ymc rfl) gn rfl<|Yg7 4 rfl ?_
   by_cases hp391:r386=true
   ·have h:=Ygg hp391 h
    refine Ygj rfl _ rfl ((nf hp391))<|Ygp rfl<|Yg4 rfl<|Yg4 rfl<|Yfy rfl rfl<|Yfx 0 rfl (Yg3 rfl) gn rfl<|Yg7 1 rfl<|Ygk rfl<|Yiu rfl ?_
    have key2:∀ s,Yga (fun (s:Int) o=>Yj5 x24 x20 k21 s o) s o1→(fun (s:Int)=>∀ (_:Unit),G (Yia w F r) [.code Yon,.inLoop Yon,.inBlock 2,.code Yrt] [(2,.pointer (some ⟨gb37,0,none⟩)),(3,.pointer (some ⟨gb39,0,none⟩)),(9,.int .i64 s)] [.box gb39 26 [.slice A25 n26 c27,.slice A29 n30 c31,.slice A33 n34 c35],.box gb37 26 [.slice A2 k6 c4,.slice A9 k13 c11,.slice A16 k21 c18]] [Sm w.heap.size F w [],St w []]) s:=by
     intro s hs
     refine Yga.ind (mot:=(fun (s:Int)=>∀ (_:Unit),G (Yia w F r) [.code Yon,.inLoop Yon,.inBlock 2,.code Yrt] [(2,.pointer (some ⟨gb37,0,none⟩)),(3,.pointer (some ⟨gb39,0,none⟩)),(9,.int .i64 s)] [.box gb39 26 [.slice A25 n26 c27,.slice A29 n30 c31,.slice A33 n34 c35],.box gb37 26 [.slice A2 k6 c4,.slice A9 k13 c11,.slice A16 k21 c18]] [Sm w.heap.size F w [],St w []])) ?_ hs
     clear hs s
     intro x474 o2 h hO2
     show ∀ (_:Unit),G (Yia w F r) [.code Yon,.inLoop Yon,.inBlock 2,.code Yrt] [(2,.pointer (some ⟨gb37,0,none⟩)),(3,.pointer (some ⟨gb39,0,none⟩)),(9,.int .i64 x474)] [.box gb39 26 [.slice A25 n26 c27,.slice A29 n30 c31,.slice A33 n34 c35],.box gb37 26 [.slice A2 k6 c4,.slice A9 k13 c11,.slice A16 k21 c18]] [Sm w.heap.size F w [],St w []]
     intro _
     have h:Yj5 x24 x20 k21 x474 o2:=h
     unfold Yj5 at h
     refine Yg4 rfl<|Yg4 rfl<|Yfy rfl rfl<|Yfx 0 rfl (Yg1 rfl) gn rfl<|Yfx 1 rfl (Ygb Ygw rfl) gn rfl<|Yfx 2 rfl (Yge 0 Yip rfl rfl rfl) gn rfl<|Yfx 3 rfl (Ygn Ymb rfl h36.hq) gn rfl<|Yfx 4 rfl (Ygh rfl rfl rfl) gn rfl<|Yg7 5 rfl ?_
     by_cases hp556:x474 < (x24.prods.length:Int)
     ·have h:=Ygg hp556 h
      refine Ygm rfl _ rfl ((decide_eq_true hp556))<|Ygp rfl<|Yg4 rfl<|Ygk rfl<|Yg4 rfl ?_
      obtain ⟨hb557,h⟩:=h
      obtain ⟨hb566,h⟩:=h
      obtain ⟨r577,hv578,h⟩:=h
      have hns:Region.noSelect (Code.ops q14c51)=true:=by kernel_rfl
      refine Yjr [] 14 rfl rfl mix rfl (.c 0 rfl (.c 1 rfl .n))<|wfv 0 rfl (Ygb Ygw rfl) gn hns rfl<|wfv 1 rfl (Yge 1 Yip rfl rfl rfl) gn hns rfl<|wfv 2 rfl (Yg1 rfl) gn hns rfl ?_
      obtain ⟨ce610,hK611,hr609⟩:=Rw.read (s:=St w []) h23 hb557
      obtain ⟨A612,n613,c614,rfl,h615,hk616⟩:=hK611
      refine wfv 3 rfl (Yht (s:=St w []) Yj6 rfl rfl h23 hb557) gn hns rfl<|wfv 4 rfl (Yjh Yke rfl) gn hns rfl<|wfv 5 rfl (Yjt (kk:=(x474:Int).toNat * 2) (j:=1) (St w []) Ymv rfl hr609 rfl (me 1 rfl)) gn hns rfl<|wfv 6 rfl (Ygb Ygw rfl) gn hns rfl<|wfv 7 rfl (Yge 0 Yip rfl rfl rfl) gn hns rfl<|wfv 8 rfl (Yg1 rfl) gn hns rfl ?_
      obtain ⟨ce618,hK619,hr617⟩:=Rw.read (s:=St w []) h36 hb566
      obtain ⟨A620,n621,c622,rfl,h623⟩:=hK619
      refine wfv 9 rfl (Yht (s:=St w []) Yj6 rfl rfl h36 hb566) gn hns rfl<|wfv 10 rfl (Yjh Yke rfl) gn hns rfl<|wfv 11 rfl (Yjt (kk:=(x474:Int).toNat * 2) (j:=1) (St w []) Ymv rfl hr617 rfl (me 1 rfl)) gn hns rfl ?_
      refine Yk4 [12] (by kernel_rfl) rfl ⟨on_s 12 rfl gn rfl (Yhy [.slice A612 ((ix (x20.take k21) x474).2) c614,.slice A620 n621 c622] rfl Try.func15 rfl rfl rfl fun w630 hL631=>?_),trivial⟩
      have hp632:=pmI hL631 .n (.c 0 rfl (.c 1 rfl .n)) (by kernel_rfl)
      refine Calls.mono (Ykx w630 (Fl ([]:List Ygl)) (((ix (x20.take k21) x474).1).rhs) ((ix (x20.take k21) x474).2) ((ix x24.prods x474).rhs) A612 n613 c614 A620 n621 c622 (Rw.mono h615 (hL631.toSt hp632 (me 1 rfl))) hk616 (Rw.mono h623 (hL631.toSt hp632 (me 1 rfl))) (hL631.hFl hp632 (Yj0 [] rfl)) (hL631.into hp632 _) r577 hv578) ?_
      rintro _ w633 ⟨rfl,hM634⟩
      have hL635:=hL631.call hp632 hM634
      refine ⟨_,_,_,rfl,hL635,?_⟩
      refine ⟨Yj0 [0,1] rfl,Yj0 [0,1] rfl,?_⟩
      refine wfv 13 rfl (Ymc rfl) gn hns rfl<|Ykm (by kernel_rfl) ?_
      by_cases hp636:r577=true
      ·have h:=Ygg hp636 h
       refine Ygj rfl _ rfl ((nf hp636))<|Ygp rfl<|Ygo<|Yfy rfl rfl<|Yfx 0 rfl (Yg1 rfl) gn rfl<|Yfx 1 rfl (Ygh rfl rfl rfl) gn rfl<|Yfx 2 rfl (Yg3 rfl) gn rfl<|Yg7 3 rfl<|Ygt ?_
       have ih:=Out.inl hO2 h
       exact Yhq [0,1] (ih ()) ⟨rfl,rfl,rfl,trivial⟩ (.cons_cons _ (.cons_cons _ (.slnil))) rfl
      ·have h:=Ygf hp636 h
       refine Ygm rfl _ rfl ((nt (bf hp636)))<|Yg4 rfl<|Yfy rfl rfl<|Yfx 0 rfl (Yg3 rfl) gn rfl<|Yg7 1 rfl ?_
       have h:=Out.inr hO2 h
       have h:=Out.inr hO1 h
       refine Ygu [.bool false] rfl Try.func14 rfl (.tmp rfl (.nil)) fun wr hLr=>?_
       have hMr:=hLr.pk0 (.c 1 rfl .n)
       show Yhk w F  r (.returned (Yhi [.bool false])) wr
       rw [h]
       exact ⟨rfl,hMr⟩
     ·have h:=Ygf hp556 h
      refine Ygj rfl _ rfl ((decide_eq_false hp556))<|Yit [.code Yrt] rfl rfl<|Yg4 rfl<|Yfy rfl rfl<|Yfx 0 rfl (Yg3 rfl) gn rfl<|Yg7 1 rfl ?_
      have h:=Out.inr hO2 h
      have h:=Out.inr hO1 h
      refine Ygu [.bool true] rfl Try.func14 rfl (.tmp rfl (.nil)) fun wr hLr=>?_
      have hMr:=hLr.pk0 (.c 1 rfl .n)
      show Yhk w F  r (.returned (Yhi [.bool true])) wr
      rw [h]
      exact ⟨rfl,hMr⟩
    exact Yhq [0,1] (key2 _ h ()) ⟨rfl,rfl,rfl,trivial⟩ (.cons_cons _ (.cons_cons _ (.slnil))) rfl
   ·have h:=Ygf hp391 h
    refine Ygm rfl _ rfl ((nt (bf hp391)))<|Yg4 rfl<|Yfy rfl rfl<|Yfx 0 rfl (Yg3 rfl) gn rfl<|Yg7 1 rfl ?_
    have h:=Out.inr hO1 h
    refine Ygu [.bool false] rfl Try.func14 rfl (.tmp rfl (.nil)) fun wr hLr=>?_
    have hMr:=hLr.pk0 (.c 1 rfl .n)
    show Yhk w F  r (.returned (Yhi [.bool false])) wr
    rw [h]
    exact ⟨rfl,hMr⟩
 exact Yhq [0,1] (key1 _ h ()) ⟨rfl,rfl,rfl,rfl,rfl,rfl,trivial⟩ (.cons_cons _ (.cons_cons _ (.slnil))) rfl
noncomputable abbrev q3c14:=Code.snd (Code.snd (Code.snd (Code.snd (Code.snd (Code.snd (Code.snd (Yhf Try.f3)))))))
noncomputable abbrev q3c16:=Code.snd (Code.fst (Code.snd (Code.snd (Code.snd (Code.snd (Code.snd (Code.snd (Yhf Try.f3))))))))
noncomputable abbrev Yq9:=Code.snd q3c14
noncomputable abbrev Yrn:=Code.fst (Code.fst (Code.snd (Code.fst q3c14)))
noncomputable abbrev q3c36:=Code.fst Yq9
noncomputable abbrev q3c45:=Code.snd (Code.snd (Code.snd Yq9))
noncomputable abbrev Yqx:=Code.fst (Code.fst (Code.snd (Code.fst (Code.snd (Code.snd Yq9)))))
noncomputable abbrev q3c58:=Code.fst (Code.fst (Code.snd Yqx))
abbrev Yiy (w:World) (F:Nat→Prop) (r:Bool):Ending→World→Prop:=fun e w'=>e=.returned (.bool r)∧B.Loc w w' [] [St w []]
noncomputable abbrev Yhl (w:World) (F:Nat→Prop) (r:Bool):Cx:=⟨Try.prog,3,Try.f3,111,Yiy w F  r,w⟩
theorem Yms (w:World) (F:Nat→Prop) (x1:Yfz) (x14:List Yg6) (x19:Int) (A2:Option Addr) (n3:Nat) (c4:Nat) (A6:Option Addr) (n7:Nat) (c8:Nat) (A10:Option Addr) (n11:Nat) (c12:Nat) (A15:Option Addr) (n16:Nat) (c17:Nat) (h5:Rw Ygi w (St w []).av A2 n3 c4 x1.terms) (h9:Rw Yh1 w (St w []).av A6 n7 c8 x1.syms) (h13:Rw Ygs w (St w []).av A10 n11 c12 x1.prods) (h18:Rw Yh0 w (St w []).av A15 n16 c17 x14) (hF:∀ b,F b→b < w.heap.size∧∀ o ∈ ([]:List (List Nat)),b ∉ o) (hL0:B.Loc w w [] [Sm w.heap.size F w [],St w []]) (r:Bool) (h:Yjb x1 x14 x19 r):Calls Try.prog 3 #[.agg #[.slice A2 n3 c4,.slice A6 n7 c8,.slice A10 n11 c12],.slice A15 n16 c17,.int .u64 x19] w (Yiy w F  r):=by
 unfold Yjb at h
 refine Ygx (vs:=[.agg #[.slice A2 n3 c4,.slice A6 n7 c8,.slice A10 n11 c12],.slice A15 n16 c17,.int .u64 x19]) 111 Try.func3 rfl Try.ntmps3 rfl hL0 ?_
 show G (Yhl w F r) _ _ _ _
 refine Yg4 rfl<|Yfy rfl rfl ?_
 refine Yh3 0 rfl (Ym6 [.slice A2 n3 c4,.slice A6 n7 c8,.slice A10 n11 c12] rfl rfl rfl fun gb20=>?_) gn
 refine Yfx 1 rfl (Yg3 rfl) gn rfl<|Yg7 2 rfl<|Yg4 rfl<|Yfy rfl rfl<|Yfx 0 rfl (Ykb [.slice A2 n3 c4,.slice A6 n7 c8,.slice A10 n11 c12] 0 Yk6 rfl rfl rfl rfl) gn rfl ?_
 obtain ⟨r25,hv26,h⟩:=h
 refine Yh3 1 rfl (Yhy [.agg #[.slice A2 n3 c4,.slice A6 n7 c8,.slice A10 n11 c12]] rfl Try.func8 rfl rfl rfl fun w22 hL23=>?_) gn
 have hp24:=pmI hL23 .n (.c 0 rfl .n) (by kernel_rfl)
 refine Calls.mono (Yki w22 (Fl ([]:List Ygl)) x1 A2 n3 c4 A6 n7 c8 A10 n11 c12 (Rw.mono h5 (hL23.toSt hp24 (me 1 rfl))) (Rw.mono h9 (hL23.toSt hp24 (me 1 rfl))) (Rw.mono h13 (hL23.toSt hp24 (me 1 rfl))) (hL23.hFl hp24 (Yj0 [] rfl)) (hL23.into hp24 _) r25 hv26) ?_
 rintro _ w45 ⟨A27,n28,c29,A32,n33,c34,A37,n38,c39,cs41,bs42,rfl,hM46,h30,h35,h40⟩
 have hL47:=hL23.call hp24 hM46
 refine ⟨_,_,_,rfl,hL47,?_⟩
 refine Ysd (fk:=Ymk) (z':=w.heap.size) (j:=3) hL23.env.size rfl<|Yrw (fk:=Ymk) (z:=w.heap.size) (j:=3) Yh7 Yje (fun _=>rfl) (fun _=>rfl) (fun x d h=>by obtain ⟨A,n,c⟩:=d; simp only at h; subst h; rfl) (fun _=>Nat.le_refl _) rfl rfl rfl ?_
 refine Yh3 2 rfl (Ykd [.slice none 0 0,.slice none 0 0,.slice none 0 0] Yro rfl fun gb48=>?_) gn
 refine Yh3 3 rfl (Ylp (vs:=[.slice A27 n28 c29,.slice A32 n33 c34,.slice A37 n38 c39]) (cs':=[.slice A27 n28 c29,.slice A32 n33 c34,.slice A37 n38 c39]) (M':=[.box gb48 26 [.slice A27 n28 c29,.slice A32 n33 c34,.slice A37 n38 c39],.own (.slice A27 n28 c29) 58 2 n28 (r25.terms.flatMap Yg9),.own (.slice A32 n33 c34) 61 2 n33 (r25.syms.flatMap Ygd),.own (.slice A37 n38 c39) 38 2 n38 cs41,Yi4 Yh7 (w.heap.size) none (r25.prods.map Yje) cs41 bs42,.box gb20 26 [.slice A2 n3 c4,.slice A6 n7 c8,.slice A10 n11 c12]]) 0 Yss rfl rfl rfl rfl rfl rfl rfl rfl rfl ?_) gn
 refine Yg7 4 rfl<|Yg4 rfl<|Yfy rfl rfl<|Yfx 0 rfl (Yg1 rfl) gn rfl ?_
 obtain ⟨r53,hv54,h⟩:=h
 refine Yh3 1 rfl (Yhy [.slice A15 n16 c17] rfl Try.func9 rfl rfl rfl fun w50 hL51=>?_) gn
 have hp52:=pmI hL51 .n (.c 0 rfl (.c 1 rfl (.c 2 rfl (.c 3 rfl (.c 4 rfl (.c 5 rfl .n)))))) (by kernel_rfl)
 refine Calls.mono (Yib w50 (Fl ([]:List Ygl)) x14 A15 n16 c17 (Rw.mono h18 (hL51.toSt hp52 (me 1 rfl))) (hL51.hFl hp52 (Yj0 [] rfl)) (hL51.into hp52 _) r53 hv54) ?_
 rintro _ w60 ⟨A55,n56,c57,rfl,hM61,h58⟩
 have hL62:=hL51.call hp52 hM61
 refine ⟨_,_,_,rfl,hL62,?_⟩
 refine Yfx 2 rfl (Yg3 rfl) gn rfl<|Yg7 3 rfl<|Yg4 rfl<|Yfy rfl rfl<|Yfx 0 rfl (Ykb [.slice A27 n28 c29,.slice A32 n33 c34,.slice A37 n38 c39] 1 Yk6 rfl rfl rfl rfl) gn rfl<|Yfx 1 rfl (Yg1 rfl) gn rfl<|Yfx 2 rfl (Yg1 rfl) gn rfl ?_
 obtain ⟨r66,hv67,h⟩:=h
 refine Yh3 3 rfl (Yhy [.agg #[.slice A27 n28 c29,.slice A32 n33 c34,.slice A37 n38 c39],.slice A55 n56 c57,.int .u64 x19] rfl Try.func10 rfl rfl rfl fun w63 hL64=>?_) gn
 have hp65:=pmI hL64 .n (.c 0 rfl (.c 1 rfl (.c 2 rfl (.c 3 rfl (.c 4 rfl (.c 5 rfl (.c 6 rfl .n))))))) (by kernel_rfl)
 refine Calls.mono (Yku w63 (Fl ([]:List Ygl)) r25 r53 x19 A27 n28 c29 A32 n33 c34 A37 n38 c39 A55 n56 c57 (hL64.argO (dk:=Ygi) hp65 [] rfl 2 rfl rfl (Ow.weak hL23.env.size h30) (me 0 rfl) (Cells.flat _)) (hL64.argO (dk:=Yh1) hp65 [] rfl 3 rfl rfl (Ow.weak hL23.env.size h35) (me 0 rfl) (Cells.flat _)) (Rw.w (Rw.vis (dk:=Ykq) (dk2:=Ygs) Yj3 rfl (fun x cs=>by rintro ⟨A,n,c,rfl,h,k⟩; exact ⟨A,_,c,rfl,Rw.pre h k⟩) (hL64.argFam (fk:=Yh7) (dk:=Ykq) hp65 [] rfl 4 5 rfl rfl rfl rfl (Ow.w (Ow.weak hL23.env.size h40) (List.length_map _)) (fun _ _ _ _ k h=>⟨_,_,_,rfl,h,Nat.le_trans k (Nat.le_of_eq h.hq.symm)⟩))) (vw_38 _)) (hL64.argO (dk:=Yh0) hp65 [] rfl 0 rfl rfl (Ow.weak hL51.env.size h58) (me 0 rfl) (Cells.flat _)) (hL64.hFl hp65 (Yj0 [] rfl)) (hL64.into hp65 _) r66 hv67) ?_
 rintro _ w68 ⟨rfl,hM69⟩
 have hL70:=hL64.call hp65 hM69
 refine ⟨_,_,_,rfl,hL70,?_⟩
 refine Yfx 4 rfl (Yg3 rfl) gn rfl<|Yg7 5 rfl<|Yg4 rfl<|Yfy rfl rfl<|Yfx 0 rfl (Ykb [.slice A2 n3 c4,.slice A6 n7 c8,.slice A10 n11 c12] 6 Yk6 rfl rfl rfl rfl) gn rfl ?_
 obtain ⟨r74,hv75,h⟩:=h
 refine Yh3 1 rfl (Yhy [.agg #[.slice A2 n3 c4,.slice A6 n7 c8,.slice A10 n11 c12]] rfl Try.func11 rfl rfl rfl fun w71 hL72=>?_) gn
 have hp73:=pmI hL72 .n (.c 0 rfl (.c 1 rfl (.c 2 rfl (.c 3 rfl (.c 4 rfl (.c 5 rfl (.c 6 rfl .n))))))) (by kernel_rfl)
 refine Calls.mono (Ynd w71 (Fl ([]:List Ygl)) x1 A2 n3 c4 A6 n7 c8 A10 n11 c12 (Rw.mono h5 (hL72.toSt hp73 (me 1 rfl))) (Rw.mono h9 (hL72.toSt hp73 (me 1 rfl))) (Rw.mono h13 (hL72.toSt hp73 (me 1 rfl))) (hL72.hFl hp73 (Yj0 [] rfl)) (hL72.into hp73 _) r74 hv75) ?_
 rintro _ w97 ⟨A76,n77,c78,A82,n83,c84,A88,n89,c90,cs93,bs94,rfl,hM98,h79,hk80,h85,hk86,h91,hk92⟩
 have hL99:=hL72.call hp73 hM98
 refine ⟨_,_,_,rfl,hL99,?_⟩
 refine Ysd (fk:=Yh7) (z':=w.heap.size) (j:=3) hL72.env.size rfl ?_
 refine Yh3 2 rfl (Ykd [.slice none 0 0,.slice none 0 0,.slice none 0 0] Yro rfl fun gb100=>?_) gn
 refine Yh3 3 rfl (Ylp (vs:=[.slice A76 r74.2.1 c78,.slice A82 r74.2.2.1 c84,.slice A88 r74.2.2.2.1 c90]) (cs':=[.slice A76 r74.2.1 c78,.slice A82 r74.2.2.1 c84,.slice A88 r74.2.2.2.1 c90]) (M':=[.box gb100 26 [.slice A76 r74.2.1 c78,.slice A82 r74.2.2.1 c84,.slice A88 r74.2.2.2.1 c90],.own (.slice A76 n77 c78) 58 2 n77 (r74.1.terms.flatMap Yg9),.own (.slice A82 n83 c84) 61 2 n83 (r74.1.syms.flatMap Ygd),.own (.slice A88 n89 c90) 38 2 n89 cs93,Yi4 Yh7 (w.heap.size) none r74.2.2.2.2 cs93 bs94,.own (.slice A55 n56 c57) 36 3 n56 (r53.flatMap Ygr),.box gb48 26 [.slice A27 n28 c29,.slice A32 n33 c34,.slice A37 n38 c39],.own (.slice A27 n28 c29) 58 2 n28 (r25.terms.flatMap Yg9),.own (.slice A32 n33 c34) 61 2 n33 (r25.syms.flatMap Ygd),.own (.slice A37 n38 c39) 38 2 n38 cs41,Yi4 Yh7 (w.heap.size) none (r25.prods.map Yje) cs41 bs42,.box gb20 26 [.slice A2 n3 c4,.slice A6 n7 c8,.slice A10 n11 c12]]) 0 Yss rfl rfl rfl rfl rfl rfl rfl rfl rfl ?_) gn
 refine Yg7 4 rfl<|Yg4 rfl<|Yfy rfl rfl<|Yfx 0 rfl (Yg1 rfl) gn rfl ?_
 obtain ⟨r105,hv106,h⟩:=h
 refine Yh3 1 rfl (Yhy [.slice A15 n16 c17] rfl Try.func12 rfl rfl rfl fun w102 hL103=>?_) gn
 have hp104:=pmI hL103 .n (.c 0 rfl (.c 1 rfl (.c 2 rfl (.c 3 rfl (.c 4 rfl (.c 5 rfl (.c 6 rfl (.c 7 rfl (.c 8 rfl (.c 9 rfl (.c 10 rfl (.c 11 rfl .n)))))))))))) (by kernel_rfl)
 refine Calls.mono (Yl3 w102 (Fl ([]:List Ygl)) x14 A15 n16 c17 (Rw.mono h18 (hL103.toSt hp104 (me 1 rfl))) (hL103.hFl hp104 (Yj0 [] rfl)) (hL103.into hp104 _) r105 hv106) ?_
 rintro _ w113 ⟨A107,n108,c109,rfl,hM114,h110,hk111⟩
 have hL115:=hL103.call hp104 hM114
 refine ⟨_,_,_,rfl,hL115,?_⟩
 refine Yfx 2 rfl (Yg3 rfl) gn rfl<|Yg7 3 rfl<|Yg4 rfl<|Yg4 rfl ?_
 have j1:∀ (x144:Bool) (h:Yi5 r105 r25 x19 r74 x144 r) (hl143:r105.2≤n108) (hl145:r74.2.1≤n77) (hl146:r74.2.2.1≤n83) (hl147:r74.2.2.2.1≤n89),G (Yhl w F r) [.code q3c16,.code q3c14] [(2,.int .u64 x19),(7,.pointer (some ⟨gb48,0,none⟩)),(10,.pointer (some ⟨gb100,0,none⟩)),(11,.slice A107 r105.2 c109),(43,.bool x144)] [Yi4 Yh7 (w.heap.size) none r74.2.2.2.2 cs93 bs94,Yi4 Yh7 (w.heap.size) none (r25.prods.map Yje) cs41 bs42,.own (.slice A107 n108 c109) 36 3 n108 (r105.1.flatMap Ygr),.box gb100 26 [.slice A76 r74.2.1 c78,.slice A82 r74.2.2.1 c84,.slice A88 r74.2.2.2.1 c90],.own (.slice A76 n77 c78) 58 2 n77 (r74.1.terms.flatMap Yg9),.own (.slice A82 n83 c84) 61 2 n83 (r74.1.syms.flatMap Ygd),.own (.slice A88 n89 c90) 38 2 n89 cs93,.box gb48 26 [.slice A27 n28 c29,.slice A32 n33 c34,.slice A37 n38 c39],.own (.slice A27 n28 c29) 58 2 n28 (r25.terms.flatMap Yg9),.own (.slice A32 n33 c34) 61 2 n33 (r25.syms.flatMap Ygd),.own (.slice A37 n38 c39) 38 2 n38 cs41] [Sm w.heap.size F w [],St w []]:=by
  intro x144 h hl143 hl145 hl146 hl147
  unfold Yi5 at h
  by_cases hp148:x144=true
  ·have h:=Ygg hp148 h
   refine Ygm rfl _ rfl (hp148)<|Yg4 rfl<|Yfy rfl rfl<|Yfx 0 rfl (Yg3 rfl) gn rfl<|Yg7 1 rfl ?_
   refine Ygu [.bool false] rfl Try.func3 rfl (.tmp rfl (.nil)) fun wr hLr=>?_
   have hMr:=hLr.pk0 (.c 1 rfl .n)
   show Yiy w F  r (.returned (Yhi [.bool false])) wr
   rw [h]
   exact ⟨rfl,hMr⟩
  ·have h:=Ygf hp148 h
   refine Ygj rfl _ rfl ((bf hp148))<|Ygp rfl<|Yg4 rfl<|Yg4 rfl<|Yfy rfl rfl<|Yfx 0 rfl (Yg3 rfl) gn rfl<|Yg7 1 rfl<|Ygk rfl<|Yiu rfl ?_
   have key2:∀ s,Yga (fun (s:(List Yg6) × Int) o=>Yhd r105 r25 x19 r74 s.1 s.2 o) s r→(fun (s:(List Yg6) × Int)=>∀ (h734:Ow w.heap.size A107 n108 c109 s.1) (hl150:r105.2≤n108) (hl151:r74.2.1≤n77) (hl152:r74.2.2.1≤n83) (hl153:r74.2.2.2.1≤n89),G (Yhl w F r) [.code Yrn,.inLoop Yrn,.inBlock 0,.code Yq9] [(2,.int .u64 x19),(7,.pointer (some ⟨gb48,0,none⟩)),(10,.pointer (some ⟨gb100,0,none⟩)),(11,.slice A107 r105.2 c109),(12,.int .i64 s.2)] [Yi4 Yh7 (w.heap.size) none r74.2.2.2.2 cs93 bs94,Yi4 Yh7 (w.heap.size) none (r25.prods.map Yje) cs41 bs42,.own (.slice A107 n108 c109) 36 3 n108 (s.1.flatMap Ygr),.box gb100 26 [.slice A76 r74.2.1 c78,.slice A82 r74.2.2.1 c84,.slice A88 r74.2.2.2.1 c90],.own (.slice A76 n77 c78) 58 2 n77 (r74.1.terms.flatMap Yg9),.own (.slice A82 n83 c84) 61 2 n83 (r74.1.syms.flatMap Ygd),.own (.slice A88 n89 c90) 38 2 n89 cs93,.box gb48 26 [.slice A27 n28 c29,.slice A32 n33 c34,.slice A37 n38 c39],.own (.slice A27 n28 c29) 58 2 n28 (r25.terms.flatMap Yg9),.own (.slice A32 n33 c34) 61 2 n33 (r25.syms.flatMap Ygd),.own (.slice A37 n38 c39) 38 2 n38 cs41] [Sm w.heap.size F w [],St w []]) s:=by
    intro s hs
    refine Yga.ind (mot:=(fun (s:(List Yg6) × Int)=>∀ (h734:Ow w.heap.size A107 n108 c109 s.1) (hl150:r105.2≤n108) (hl151:r74.2.1≤n77) (hl152:r74.2.2.1≤n83) (hl153:r74.2.2.2.1≤n89),G (Yhl w F r) [.code Yrn,.inLoop Yrn,.inBlock 0,.code Yq9] [(2,.int .u64 x19),(7,.pointer (some ⟨gb48,0,none⟩)),(10,.pointer (some ⟨gb100,0,none⟩)),(11,.slice A107 r105.2 c109),(12,.int .i64 s.2)] [Yi4 Yh7 (w.heap.size) none r74.2.2.2.2 cs93 bs94,Yi4 Yh7 (w.heap.size) none (r25.prods.map Yje) cs41 bs42,.own (.slice A107 n108 c109) 36 3 n108 (s.1.flatMap Ygr),.box gb100 26 [.slice A76 r74.2.1 c78,.slice A82 r74.2.2.1 c84,.slice A88 r74.2.2.2.1 c90],.own (.slice A76 n77 c78) 58 2 n77 (r74.1.terms.flatMap Yg9),.own (.slice A82 n83 c84) 61 2 n83 (r74.1.syms.flatMap Ygd),.own (.slice A88 n89 c90) 38 2 n89 cs93,.box gb48 26 [.slice A27 n28 c29,.slice A32 n33 c34,.slice A37 n38 c39],.own (.slice A27 n28 c29) 58 2 n28 (r25.terms.flatMap Yg9),.own (.slice A32 n33 c34) 61 2 n33 (r25.syms.flatMap Ygd),.own (.slice A37 n38 c39) 38 2 n38 cs41] [Sm w.heap.size F w [],St w []])) ?_ hs
    clear hs s
    intro s o1 h hO1
    obtain ⟨x733,x735⟩:=s
    show ∀ (h734:Ow w.heap.size A107 n108 c109 x733) (hl150:r105.2≤n108) (hl151:r74.2.1≤n77) (hl152:r74.2.2.1≤n83) (hl153:r74.2.2.2.1≤n89),G (Yhl w F r) [.code Yrn,.inLoop Yrn,.inBlock 0,.code Yq9] [(2,.int .u64 x19),(7,.pointer (some ⟨gb48,0,none⟩)),(10,.pointer (some ⟨gb100,0,none⟩)),(11,.slice A107 r105.2 c109),(12,.int .i64 x735)] [Yi4 Yh7 (w.heap.size) none r74.2.2.2.2 cs93 bs94,Yi4 Yh7 (w.heap.size) none (r25.prods.map Yje) cs41 bs42,.own (.slice A107 n108 c109) 36 3 n108 (x733.flatMap Ygr),.box gb100 26 [.slice A76 r74.2.1 c78,.slice A82 r74.2.2.1 c84,.slice A88 r74.2.2.2.1 c90],.own (.slice A76 n77 c78) 58 2 n77 (r74.1.terms.flatMap Yg9),.own (.slice A82 n83 c84) 61 2 n83 (r74.1.syms.flatMap Ygd),.own (.slice A88 n89 c90) 38 2 n89 cs93,.box gb48 26 [.slice A27 n28 c29,.slice A32 n33 c34,.slice A37 n38 c39],.own (.slice A27 n28 c29) 58 2 n28 (r25.terms.flatMap Yg9),.own (.slice A32 n33 c34) 61 2 n33 (r25.syms.flatMap Ygd),.own (.slice A37 n38 c39) 38 2 n38 cs41] [Sm w.heap.size F w [],St w []]
    intro h734 hl150 hl151 hl152 hl153
    have h:Yhd r105 r25 x19 r74 x733 x735 o1:=h
    unfold Yhd at h
    refine Yg4 rfl<|Yg4 rfl<|Yfy rfl rfl<|Yfx 0 rfl (Yg1 rfl) gn rfl<|Yfx 1 rfl (Yg1 rfl) gn rfl<|Yfx 2 rfl (Ygn Ym9 rfl (Ow.cut h734 hl150).hq) gn rfl<|Yfx 3 rfl (Ygh rfl rfl rfl) gn rfl<|Yg7 4 rfl ?_
    by_cases hp1315:x735 < ((x733.take r105.2).length:Int)
    ·have h:=Ygg hp1315 h
     refine Ygm rfl _ rfl ((decide_eq_true hp1315))<|Ygp rfl<|Yg4 rfl<|Ygk rfl<|Yfy rfl rfl<|Yfx 0 rfl (Yg1 rfl) gn rfl<|Yfx 1 rfl (Yg1 rfl) gn rfl<|Yfx 2 rfl (Yg1 rfl) gn rfl<|Yfx 3 rfl (Yg1 rfl) gn rfl<|Yfx 4 rfl (Ygn Ym9 rfl (Ow.cut h734 hl150).hq) gn rfl<|Yfx 5 rfl (Ygh rfl rfl rfl) gn rfl<|Yfx 6 rfl (Yg1 rfl) gn rfl ?_
     refine Yfx 7 rfl (Ygh rfl rfl rfl) gn rfl ?_
     obtain ⟨hb1316,h⟩:=h
     have hb1317:0≤w64 ((w64 (((x733.take r105.2).length:Int) - 1)) - x735)∧w64 ((w64 (((x733.take r105.2).length:Int) - 1)) - x735) < (x733.length:Int):=by have q:=hb1316; have q2:=List.length_take_le' r105.2 x733; omega
     refine Yfx 8 rfl (Yn6 Yl7 rfl rfl (Ow.cut h734 hl150) hb1316) gn rfl<|Yfx 9 rfl (v_ldO [.int .i64 ((ix x733 (w64 ((w64 (((x733.take r105.2).length:Int) - 1)) - x735))).sym),.string ((ix x733 (w64 ((w64 (((x733.take r105.2).length:Int) - 1)) - x735))).field),.string ((ix x733 (w64 ((w64 (((x733.take r105.2).length:Int) - 1)) - x735))).as)] 2 Yr1 rfl rfl (fm_one Yi0 hb1317) rfl) gn rfl ?_
     obtain ⟨hb1318,h⟩:=h
     have hb1319:0≤x735∧x735 < (x733.length:Int):=by have q:=hb1318; have q2:=List.length_take_le' r105.2 x733; omega
     refine Yfx 10 rfl (Yn6 Yl7 rfl rfl (Ow.cut h734 hl150) hb1318) gn rfl ?_
     obtain ⟨x1320,hv1321,h⟩:=h
     refine Yh3 11 rfl (s_stF (enc:=Ygr) (o:=0) (z:=(ix x733 (w64 ((w64 (((x733.take r105.2).length:Int) - 1)) - x735)))) (vs:=[.int .i64 ((ix x733 (w64 ((w64 (((x733.take r105.2).length:Int) - 1)) - x735))).sym),.string ((ix x733 (w64 ((w64 (((x733.take r105.2).length:Int) - 1)) - x735))).field),.string ((ix x733 (w64 ((w64 (((x733.take r105.2).length:Int) - 1)) - x735))).as)]) (i:=x735) 2 Yi0 sz_36 rfl rfl rfl rfl rfl h734 hb1319 rfl rfl rfl hv1321 fun h1322=>?_) gn
     refine Yg7 12 rfl<|Ygo<|Yfy rfl rfl<|Yfx 0 rfl (Yg1 rfl) gn rfl<|Yfx 1 rfl (Ygh rfl rfl rfl) gn rfl<|Yfx 2 rfl (Yg3 rfl) gn rfl<|Yg7 3 rfl<|Ygt ?_
     have ih:=Out.inl hO1 h
     exact Yhq [0,1] (ih h1322 hl150 hl151 hl152 hl153) ⟨rfl,rfl,rfl,rfl,rfl,trivial⟩ (.cons_cons _ (.cons_cons _ (.cons_cons _ (.cons_cons _ (.cons_cons _ (.cons_cons _ (.cons_cons _ (.cons_cons _ (.cons_cons _ (.cons_cons _ (.cons_cons _ (.slnil)))))))))))) rfl
    ·have h:=Ygf hp1315 h
     refine Ygj rfl _ rfl ((decide_eq_false hp1315))<|Yit [.code Yq9] rfl rfl<|Yg4 rfl ?_
     obtain ⟨r1326,hv1327,h⟩:=h
     obtain ⟨r1339,hv1340,h⟩:=h
     have hns:Region.noSelect (Code.ops q3c36)=true:=by kernel_rfl
     refine Yjr [] 6 rfl rfl mix rfl (.c 0 rfl (.c 1 rfl .n))<|wfv 0 rfl (Ykb [.slice A27 n28 c29,.slice A32 n33 c34,.slice A37 n38 c39] 7 Yk6 rfl rfl rfl rfl) gn hns rfl<|wfv 1 rfl (Yg1 rfl) gn hns rfl<|wfv 3 rfl (Yg1 rfl) gn hns rfl ?_
     refine Yk4 [2] (by kernel_rfl) rfl ⟨on_s 2 rfl gn rfl (Yhy [.slice A107 r105.2 c109] rfl Try.func9 rfl rfl rfl fun w1406 hL1407=>?_),trivial⟩
     have hp1408:=pmI hL1407 .n (.c 0 rfl (.c 1 rfl (.c 2 rfl (.c 3 rfl (.c 4 rfl (.c 5 rfl (.c 6 rfl (.c 7 rfl (.c 8 rfl (.c 9 rfl (.c 10 rfl .n))))))))))) (by kernel_rfl)
     refine Calls.mono (Yib w1406 (Fl ([]:List Ygl)) (x733.take r105.2) A107 r105.2 c109 (Rw.w (hL1407.argV (dk:=Yh0) hp1408 [] rfl 2 rfl rfl h734 (me 0 rfl) (Cells.flat _) (Vw.prefix hl150) (Nat.le_trans hl150 h734.hn) h734.hm) (by rw [(Eq.refl (x733.take r105.2))]; rfl)) (hL1407.hFl hp1408 (Yj0 [] rfl)) (hL1407.into hp1408 _) r1326 hv1327) ?_
     rintro _ w1413 ⟨A1409,n1410,c1411,rfl,hM1414,h1412⟩
     have hL1415:=hL1407.call hp1408 hM1414
     refine ⟨_,_,_,rfl,hL1415,?_⟩
     refine ⟨Yj0 [1,2,3,4,5,6,7,8,9,10,11] rfl,Yj0 [0,1] rfl,?_⟩
     refine Yk4 [4] (by kernel_rfl) rfl ⟨on_s 4 rfl gn rfl (Yhy [.agg #[.slice A27 n28 c29,.slice A32 n33 c34,.slice A37 n38 c39],.slice A1409 n1410 c1411,.int .u64 x19] rfl Try.func10 rfl rfl rfl fun w1422 hL1423=>?_),trivial⟩
     have hp1424:=pmI hL1423 .n (.c 0 rfl (.c 1 rfl (.c 2 rfl (.c 3 rfl (.c 4 rfl (.c 5 rfl (.c 6 rfl (.c 7 rfl (.c 8 rfl (.c 9 rfl (.c 10 rfl (.c 11 rfl .n)))))))))))) (by kernel_rfl)
     refine Calls.mono (Yku w1422 (Fl ([]:List Ygl)) r25 r1326 x19 A27 n28 c29 A32 n33 c34 A37 n38 c39 A1409 n1410 c1411 (hL1423.argO (dk:=Ygi) hp1424 [] rfl 9 rfl rfl (Ow.weak hL23.env.size h30) (me 0 rfl) (Cells.flat _)) (hL1423.argO (dk:=Yh1) hp1424 [] rfl 10 rfl rfl (Ow.weak hL23.env.size h35) (me 0 rfl) (Cells.flat _)) (Rw.w (Rw.vis (dk:=Ykq) (dk2:=Ygs) Yj3 rfl (fun x cs=>by rintro ⟨A,n,c,rfl,h,k⟩; exact ⟨A,_,c,rfl,Rw.pre h k⟩) (hL1423.argFam (fk:=Yh7) (dk:=Ykq) hp1424 [] rfl 11 2 rfl rfl rfl rfl (Ow.w (Ow.weak hL23.env.size h40) (List.length_map _)) (fun _ _ _ _ k h=>⟨_,_,_,rfl,h,Nat.le_trans k (Nat.le_of_eq h.hq.symm)⟩))) (vw_38 _)) (hL1423.argO (dk:=Yh0) hp1424 [] rfl 0 rfl rfl (Ow.weak hL1407.env.size h1412) (me 0 rfl) (Cells.flat _)) (hL1423.hFl hp1424 (Yj0 [] rfl)) (hL1423.into hp1424 _) r1339 hv1340) ?_
     rintro _ w1425 ⟨rfl,hM1426⟩
     have hL1427:=hL1423.call hp1424 hM1426
     refine ⟨_,_,_,rfl,hL1427,?_⟩
     refine ⟨Yj0 [1,2,3,4,5,6,7,8,9,10,11] rfl,Yj0 [0,1] rfl,?_⟩
     refine wfv 5 rfl (Yg3 rfl) gn hns rfl<|Ykm (by kernel_rfl)<|Yg4 rfl<|Yg4 rfl<|Yfy rfl rfl<|Yfx 0 rfl (Ykb [.slice A76 r74.2.1 c78,.slice A82 r74.2.2.1 c84,.slice A88 r74.2.2.2.1 c90] 4 Yk6 rfl rfl rfl rfl) gn rfl<|Yfx 1 rfl (Yg1 rfl) gn rfl<|Yfx 2 rfl (Yg1 rfl) gn rfl ?_
     obtain ⟨r1431,hv1432,h⟩:=h
     refine Yh3 3 rfl (Yhy [.agg #[.slice A76 r74.2.1 c78,.slice A82 r74.2.2.1 c84,.slice A88 r74.2.2.2.1 c90],.slice A107 r105.2 c109,.int .u64 x19] rfl Try.func13 rfl rfl rfl fun w1428 hL1429=>?_) gn
     have hp1430:=pmI hL1429 .n (.c 0 rfl (.c 1 rfl (.c 2 rfl (.c 3 rfl (.c 4 rfl (.c 5 rfl (.c 6 rfl (.c 7 rfl (.c 8 rfl (.c 9 rfl (.c 10 rfl (.c 11 rfl .n)))))))))))) (by kernel_rfl)
     refine Calls.mono (Ymr w1428 (Fl ([]:List Ygl)) (⟨(r74.1.terms.take r74.2.1),(r74.1.syms.take r74.2.2.1),((r74.2.2.2.2.take r74.2.2.2.1).map Yj3)⟩:Yfz) (x733.take r105.2) x19 A76 r74.2.1 c78 A82 r74.2.2.1 c84 A88 r74.2.2.2.1 c90 A107 r105.2 c109 (Rw.w (hL1429.argV (dk:=Ygi) hp1430 [] rfl 5 rfl rfl (Ow.weak hL72.env.size h79) (me 0 rfl) (Cells.flat _) (Vw.prefix hl151) (Nat.le_trans hl151 (Ow.weak hL72.env.size h79).hn) (Ow.weak hL72.env.size h79).hm) (by rw [(Eq.refl (r74.1.terms.take r74.2.1))]; rfl)) (Rw.w (hL1429.argV (dk:=Yh1) hp1430 [] rfl 6 rfl rfl (Ow.weak hL72.env.size h85) (me 0 rfl) (Cells.flat _) (Vw.prefix hl152) (Nat.le_trans hl152 (Ow.weak hL72.env.size h85).hn) (Ow.weak hL72.env.size h85).hm) (by rw [(Eq.refl (r74.1.syms.take r74.2.2.1))]; rfl)) (Rw.w (Rw.pre (Rw.vis (dk:=Ykq) (dk2:=Ygs) Yj3 rfl (fun x cs=>by rintro ⟨A,n,c,rfl,h,k⟩; exact ⟨A,_,c,rfl,Rw.pre h k⟩) (hL1429.argFam (fk:=Yh7) (dk:=Ykq) hp1430 [] rfl 7 1 rfl rfl rfl rfl (Ow.weak hL72.env.size h91) (fun _ _ _ _ k h=>⟨_,_,_,rfl,h,Nat.le_trans k (Nat.le_of_eq h.hq.symm)⟩))) hl153) (by rw [List.map_take])) (Rw.w (hL1429.argV (dk:=Yh0) hp1430 [] rfl 3 rfl rfl h734 (me 0 rfl) (Cells.flat _) (Vw.prefix hl150) (Nat.le_trans hl150 h734.hn) h734.hm) (by rw [(Eq.refl (x733.take r105.2))]; rfl)) (hL1429.hFl hp1430 (Yj0 [] rfl)) (hL1429.into hp1430 _) r1431 hv1432) ?_
     rintro _ w1433 ⟨rfl,hM1434⟩
     have hL1435:=hL1429.call hp1430 hM1434
     refine ⟨_,_,_,rfl,hL1435,?_⟩
     refine Yfx 4 rfl (Yg1 rfl) gn rfl<|Yfx 5 rfl (Ygh rfl rfl rfl) gn rfl<|Yg7 6 rfl ?_
     by_cases hp1436:r1431=r1339
     ·have h:=Ygg hp1436 h
      refine Ygj rfl _ rfl ((eqib hp1436))<|Ygp rfl<|Yg4 rfl<|Yg4 rfl<|Yfy rfl rfl<|Yfx 0 rfl (Yg3 rfl) gn rfl<|Yg7 1 rfl<|Ygk rfl<|Yiu rfl ?_
      have key3:∀ s,Yga (fun (s:Int × (List (Yg8 × Nat))) o=>Yhe r74 x733 r105 x19 s.1 s.2 o) s o1→(fun (s:Int × (List (Yg8 × Nat)))=>∀ (hl1438:r105.2≤n108) (hl1439:r74.2.1≤n77) (hl1440:r74.2.2.1≤n83) (bs1592:List Nat) (A1593:Option Addr) (n1594:Nat) (c1595:Nat) (cs1596:List Value) (h1597:Ow w.heap.size A1593 n1594 c1595 s.2) (hl1441:r74.2.2.2.1≤n1594),G (Yhl w F r) [.code Yqx,.inLoop Yqx,.inBlock 2,.code q3c45] [(2,.int .u64 x19),(10,.pointer (some ⟨gb100,0,none⟩)),(11,.slice A107 r105.2 c109),(13,.int .i64 s.1)] [Yi4 Yh7 (w.heap.size) none s.2 cs1596 bs1592,.own (.slice A107 n108 c109) 36 3 n108 (x733.flatMap Ygr),.box gb100 26 [.slice A76 r74.2.1 c78,.slice A82 r74.2.2.1 c84,.slice A1593 r74.2.2.2.1 c1595],.own (.slice A76 n77 c78) 58 2 n77 (r74.1.terms.flatMap Yg9),.own (.slice A82 n83 c84) 61 2 n83 (r74.1.syms.flatMap Ygd),.own (.slice A1593 n1594 c1595) 38 2 n1594 cs1596] [Sm w.heap.size F w [],St w []]) s:=by
       intro s hs
       refine Yga.ind (mot:=(fun (s:Int × (List (Yg8 × Nat)))=>∀ (hl1438:r105.2≤n108) (hl1439:r74.2.1≤n77) (hl1440:r74.2.2.1≤n83) (bs1592:List Nat) (A1593:Option Addr) (n1594:Nat) (c1595:Nat) (cs1596:List Value) (h1597:Ow w.heap.size A1593 n1594 c1595 s.2) (hl1441:r74.2.2.2.1≤n1594),G (Yhl w F r) [.code Yqx,.inLoop Yqx,.inBlock 2,.code q3c45] [(2,.int .u64 x19),(10,.pointer (some ⟨gb100,0,none⟩)),(11,.slice A107 r105.2 c109),(13,.int .i64 s.1)] [Yi4 Yh7 (w.heap.size) none s.2 cs1596 bs1592,.own (.slice A107 n108 c109) 36 3 n108 (x733.flatMap Ygr),.box gb100 26 [.slice A76 r74.2.1 c78,.slice A82 r74.2.2.1 c84,.slice A1593 r74.2.2.2.1 c1595],.own (.slice A76 n77 c78) 58 2 n77 (r74.1.terms.flatMap Yg9),.own (.slice A82 n83 c84) 61 2 n83 (r74.1.syms.flatMap Ygd),.own (.slice A1593 n1594 c1595) 38 2 n1594 cs1596] [Sm w.heap.size F w [],St w []])) ?_ hs
       clear hs s
       intro s o2 h hO2
       obtain ⟨x1590,x1591⟩:=s
       show ∀ (hl1438:r105.2≤n108) (hl1439:r74.2.1≤n77) (hl1440:r74.2.2.1≤n83) (bs1592:List Nat) (A1593:Option Addr) (n1594:Nat) (c1595:Nat) (cs1596:List Value) (h1597:Ow w.heap.size A1593 n1594 c1595 x1591) (hl1441:r74.2.2.2.1≤n1594),G (Yhl w F r) [.code Yqx,.inLoop Yqx,.inBlock 2,.code q3c45] [(2,.int .u64 x19),(10,.pointer (some ⟨gb100,0,none⟩)),(11,.slice A107 r105.2 c109),(13,.int .i64 x1590)] [Yi4 Yh7 (w.heap.size) none x1591 cs1596 bs1592,.own (.slice A107 n108 c109) 36 3 n108 (x733.flatMap Ygr),.box gb100 26 [.slice A76 r74.2.1 c78,.slice A82 r74.2.2.1 c84,.slice A1593 r74.2.2.2.1 c1595],.own (.slice A76 n77 c78) 58 2 n77 (r74.1.terms.flatMap Yg9),.own (.slice A82 n83 c84) 61 2 n83 (r74.1.syms.flatMap Ygd),.own (.slice A1593 n1594 c1595) 38 2 n1594 cs1596] [Sm w.heap.size F w [],St w []]
       intro hl1438 hl1439 hl1440 bs1592 A1593 n1594 c1595 cs1596 h1597 hl1441
       have h:Yhe r74 x733 r105 x19 x1590 x1591 o2:=h
       unfold Yhe at h
       refine Yg4 rfl<|Yg4 rfl<|Yfy rfl rfl<|Yfx 0 rfl (Yg1 rfl) gn rfl<|Yfx 1 rfl (Ygb Ygw rfl) gn rfl<|Yfx 2 rfl (Yge 2 Yip rfl rfl rfl) gn rfl<|Yfx 3 rfl (Ygn Ymb rfl (Ow.cut h1597 hl1441).hq) gn rfl<|Yfx 4 rfl (Ygh rfl rfl rfl) gn rfl<|Yg7 5 rfl ?_
       by_cases hp1746:x1590 < ((x1591.take r74.2.2.2.1).length:Int)
       ·have h:=Ygg hp1746 h
        refine Ygm rfl _ rfl ((decide_eq_true hp1746))<|Ygp rfl<|Yg4 rfl<|Ygk rfl ?_
        obtain ⟨hb1747,h⟩:=h
        obtain ⟨hb1764,h⟩:=h
        obtain ⟨x1776,hv1777,h⟩:=h
        have hns:Region.noSelect (Code.ops q3c58)=true:=by kernel_rfl
        refine Yjr [20] 21 rfl rfl mix rfl (.c 0 rfl (.c 1 rfl .n))<|wfv 0 rfl (Ygb Ygw rfl) gn hns (by kernel_rfl)<|wfv 1 rfl (Yge 2 Yip rfl rfl rfl) gn hns (by kernel_rfl)<|wfv 2 rfl (Yg1 rfl) gn hns (by kernel_rfl)<|wfv 3 rfl (Ygb Ygw rfl) gn hns (by kernel_rfl)<|wfv 4 rfl (Yge 2 Yip rfl rfl rfl) gn hns (by kernel_rfl)<|wfv 5 rfl (Yg1 rfl) gn hns (by kernel_rfl) ?_
        have hb1810:0≤x1590∧x1590 < (x1591.length:Int):=by have q:=hb1747; have q2:=List.length_take_le' r74.2.2.2.1 x1591; omega
        refine Yo5 (fk:=Yh7) (z:=w.heap.size) (j:=0) rfl hb1810 fun A1811 n1812 c1813 h1814 ht1815 hg1816=>?_
        have hle1817:(ix x1591 x1590).2≤n1812:=Nat.le_trans (show (ix x1591 x1590).2≤(((ix x1591 x1590).1).rhs).length from ht1815.2.2) (Nat.le_of_eq h1814.hq.symm)
        refine wfv 6 rfl (Yn6 Yj6 rfl rfl (Ow.cut h1597 hl1441) hb1747) gn hns (by kernel_rfl)<|wfv 7 rfl (Yjh Yke rfl) gn hns (by kernel_rfl)<|wfv 8 rfl (Ys2 (.slice A1811 ((ix x1591 x1590).2) c1813) 5 Ymv rfl rfl (hg1816 1 _ rfl)) gn hns (by kernel_rfl)<|wfv 9 rfl (Ygb Ygw rfl) gn hns (by kernel_rfl)<|wfv 10 rfl (Yge 2 Yip rfl rfl rfl) gn hns (by kernel_rfl)<|wfv 11 rfl (Yg1 rfl) gn hns (by kernel_rfl) ?_
        have hb1818:0≤x1590∧x1590 < (x1591.length:Int):=by have q:=hb1747; have q2:=List.length_take_le' r74.2.2.2.1 x1591; omega
        refine Yo5 (fk:=Yh7) (z:=w.heap.size) (j:=0) rfl hb1818 fun A1819 n1820 c1821 h1822 ht1823 hg1824=>?_
        have hle1825:(ix x1591 x1590).2≤n1820:=Nat.le_trans (show (ix x1591 x1590).2≤(((ix x1591 x1590).1).rhs).length from ht1823.2.2) (Nat.le_of_eq h1822.hq.symm)
        refine wfv 12 rfl (Yn6 Yj6 rfl rfl (Ow.cut h1597 hl1441) hb1747) gn hns (by kernel_rfl)<|wfv 13 rfl (Yjh Yke rfl) gn hns (by kernel_rfl)<|wfv 14 rfl (Ys2 (.slice A1819 ((ix x1591 x1590).2) c1821) 5 Ymv rfl rfl (hg1824 1 _ rfl)) gn hns (by kernel_rfl)<|wfv 15 rfl (Ygn Ym9 rfl (Ow.cut h1822 hle1825).hq) gn hns (by kernel_rfl)<|wfv 16 rfl (v_quo rfl rfl (by decide)) gn hns (by kernel_rfl) ?_
        have hle1826:(w64 (Int.tdiv (((((ix x1591 x1590).1).rhs).take ((ix x1591 x1590).2)).length:Int) 2):Int).toNat≤n1812:=by have q:=hb1764; have q1:n1812=(((ix x1591 x1590).1).rhs).length:=h1814.hq; omega
        refine wfv 17 rfl (Ymg (i:=w64 (Int.tdiv (((((ix x1591 x1590).1).rhs).take ((ix x1591 x1590).2)).length:Int) 2)) Yl7 rfl rfl (by have q:=hb1764; have q1:n1812=(((ix x1591 x1590).1).rhs).length:=h1814.hq; have q2:=h1814.hn; omega) (Ow.cut h1814 hle1817).hn rfl) gn hns (by kernel_rfl) ?_
        have hb1827:0≤x1590∧x1590 < (x1591.length:Int):=by have q:=hb1747; have q2:=List.length_take_le' r74.2.2.2.1 x1591; omega
        refine Yo5 (fk:=Yh7) (z:=w.heap.size) (j:=0) rfl hb1827 fun A1828 n1829 c1830 h1831 ht1832 hg1833=>?_
        have hle1834:(ix x1591 x1590).2≤n1829:=Nat.le_trans (show (ix x1591 x1590).2≤(((ix x1591 x1590).1).rhs).length from ht1832.2.2) (Nat.le_of_eq h1831.hq.symm)
        refine wfv 18 rfl (Yn6 Yj6 rfl rfl (Ow.cut h1597 hl1441) hb1747) gn hns (by kernel_rfl)<|wfv 19 rfl (Yjh Yke rfl) gn hns (by kernel_rfl) ?_
        refine wf_take (fk:=Yh7) (z:=w.heap.size) (j:=0) rfl hb1810 ht1815 fun bs1835=>?_
        refine Yk4 [20] (by kernel_rfl) rfl ⟨Yp9 20 rfl gn rfl (Yto (fk:=Yh7) (z:=w.heap.size) (off:=1) (vs:=[.slice A1811 ((w64 (Int.tdiv (((((ix x1591 x1590).1).rhs).take ((ix x1591 x1590).2)).length:Int) 2):Int).toNat) c1813]) (A1:=A1828) (n1:=n1829) (c1:=c1830) (q:=x1590) 6 1 0 rfl rfl rfl sz_27 rfl rfl rfl h1597 rfl (.inr rfl) rfl hb1827 ({ ((ix x1591 x1590).1) with rhs:=((ix x1591 x1590).1).rhs },(w64 (Int.tdiv (((((ix x1591 x1590).1).rhs).take ((ix x1591 x1590).2)).length:Int) 2):Int).toNat) h1814 rfl rfl rfl rfl ht1832 rfl (by show (w64 (Int.tdiv (((((ix x1591 x1590).1).rhs).take ((ix x1591 x1590).2)).length:Int) 2):Int).toNat≤(((ix x1591 x1590).1).rhs).length; rw [← h1814.hq]; exact hle1826) rfl hv1777 fun cs1836 bs1837 h1838=>?_),trivial⟩
        unfold NxL
        refine Ykm (by kernel_rfl)<|Ygo<|Yfy rfl rfl<|Yfx 0 rfl (Yg1 rfl) gn rfl<|Yfx 1 rfl (Ygh rfl rfl rfl) gn rfl<|Yfx 2 rfl (Yg3 rfl) gn rfl<|Yg7 3 rfl<|Ygt ?_
        have ih:=Out.inl hO2 h
        exact Yhq [0,1] (ih hl1438 hl1439 hl1440 bs1837 A1593 n1594 c1595 cs1836 h1838 hl1441) ⟨rfl,rfl,rfl,rfl,trivial⟩ (.cons_cons _ (.cons_cons _ (.cons_cons _ (.cons_cons _ (.cons_cons _ (.cons_cons _ (.slnil))))))) rfl
       ·have h:=Ygf hp1746 h
        refine Ygj rfl _ rfl ((decide_eq_false hp1746))<|Yit [.code q3c45] rfl rfl<|Yg4 rfl<|Yfy rfl rfl<|Yfx 0 rfl (Ykb [.slice A76 r74.2.1 c78,.slice A82 r74.2.2.1 c84,.slice A1593 r74.2.2.2.1 c1595] 2 Yk6 rfl rfl rfl rfl) gn rfl ?_
        obtain ⟨r1842,hv1843,h⟩:=h
        refine Yh3 1 rfl (Yhy [.agg #[.slice A76 r74.2.1 c78,.slice A82 r74.2.2.1 c84,.slice A1593 r74.2.2.2.1 c1595]] rfl Try.func8 rfl rfl rfl fun w1839 hL1840=>?_) gn
        have hp1841:=pmI hL1840 .n (.c 0 rfl (.c 1 rfl (.c 2 rfl (.c 3 rfl (.c 4 rfl (.c 5 rfl .n)))))) (by kernel_rfl)
        refine Calls.mono (Yki w1839 (Fl ([]:List Ygl)) (⟨(r74.1.terms.take r74.2.1),(r74.1.syms.take r74.2.2.1),((x1591.take r74.2.2.2.1).map Yj3)⟩:Yfz) A76 r74.2.1 c78 A82 r74.2.2.1 c84 A1593 r74.2.2.2.1 c1595 (Rw.w (hL1840.argV (dk:=Ygi) hp1841 [] rfl 3 rfl rfl (Ow.weak hL72.env.size h79) (me 0 rfl) (Cells.flat _) (Vw.prefix hl1439) (Nat.le_trans hl1439 (Ow.weak hL72.env.size h79).hn) (Ow.weak hL72.env.size h79).hm) (by rw [(Eq.refl (r74.1.terms.take r74.2.1))]; rfl)) (Rw.w (hL1840.argV (dk:=Yh1) hp1841 [] rfl 4 rfl rfl (Ow.weak hL72.env.size h85) (me 0 rfl) (Cells.flat _) (Vw.prefix hl1440) (Nat.le_trans hl1440 (Ow.weak hL72.env.size h85).hn) (Ow.weak hL72.env.size h85).hm) (by rw [(Eq.refl (r74.1.syms.take r74.2.2.1))]; rfl)) (Rw.w (Rw.pre (Rw.vis (dk:=Ykq) (dk2:=Ygs) Yj3 rfl (fun x cs=>by rintro ⟨A,n,c,rfl,h,k⟩; exact ⟨A,_,c,rfl,Rw.pre h k⟩) (hL1840.argFam (fk:=Yh7) (dk:=Ykq) hp1841 [] rfl 5 0 rfl rfl rfl rfl h1597 (fun _ _ _ _ k h=>⟨_,_,_,rfl,h,Nat.le_trans k (Nat.le_of_eq h.hq.symm)⟩))) hl1441) (by rw [List.map_take])) (hL1840.hFl hp1841 (Yj0 [] rfl)) (hL1840.into hp1841 _) r1842 hv1843) ?_
        rintro _ w1862 ⟨A1844,n1845,c1846,A1849,n1850,c1851,A1854,n1855,c1856,cs1858,bs1859,rfl,hM1863,h1847,h1852,h1857⟩
        have hL1864:=hL1840.call hp1841 hM1863
        refine ⟨_,_,_,rfl,hL1864,?_⟩
        refine Ysd (fk:=Ymk) (z':=w.heap.size) (j:=3) hL1840.env.size rfl<|Yrw (fk:=Ymk) (z:=w.heap.size) (j:=3) Yh7 Yje (fun _=>rfl) (fun _=>rfl) (fun x d h=>by obtain ⟨A,n,c⟩:=d; simp only at h; subst h; rfl) (fun _=>Nat.le_refl _) rfl rfl rfl<|Yfx 2 rfl (Yg1 rfl) gn rfl ?_
        obtain ⟨r1868,hv1869,h⟩:=h
        refine Yh3 3 rfl (Yhy [.slice A107 r105.2 c109] rfl Try.func9 rfl rfl rfl fun w1865 hL1866=>?_) gn
        have hp1867:=pmI hL1866 .n (.c 0 rfl (.c 1 rfl (.c 2 rfl (.c 3 rfl (.c 4 rfl (.c 5 rfl (.c 6 rfl (.c 7 rfl (.c 8 rfl (.c 9 rfl .n)))))))))) (by kernel_rfl)
        refine Calls.mono (Yib w1865 (Fl ([]:List Ygl)) (x733.take r105.2) A107 r105.2 c109 (Rw.w (hL1866.argV (dk:=Yh0) hp1867 [] rfl 5 rfl rfl h734 (me 0 rfl) (Cells.flat _) (Vw.prefix hl1438) (Nat.le_trans hl1438 h734.hn) h734.hm) (by rw [(Eq.refl (x733.take r105.2))]; rfl)) (hL1866.hFl hp1867 (Yj0 [] rfl)) (hL1866.into hp1867 _) r1868 hv1869) ?_
        rintro _ w1875 ⟨A1870,n1871,c1872,rfl,hM1876,h1873⟩
        have hL1877:=hL1866.call hp1867 hM1876
        refine ⟨_,_,_,rfl,hL1877,?_⟩
        refine Yfx 4 rfl (Yg1 rfl) gn rfl ?_
        obtain ⟨r1881,hv1882,h⟩:=h
        refine Yh3 5 rfl (Yhy [.agg #[.slice A1844 n1845 c1846,.slice A1849 n1850 c1851,.slice A1854 n1855 c1856],.slice A1870 n1871 c1872,.int .u64 x19] rfl Try.func10 rfl rfl rfl fun w1878 hL1879=>?_) gn
        have hp1880:=pmI hL1879 .n (.c 0 rfl (.c 1 rfl (.c 2 rfl (.c 3 rfl (.c 4 rfl (.c 5 rfl (.c 6 rfl (.c 7 rfl (.c 8 rfl (.c 9 rfl (.c 10 rfl .n))))))))))) (by kernel_rfl)
        refine Calls.mono (Yku w1878 (Fl ([]:List Ygl)) r1842 r1868 x19 A1844 n1845 c1846 A1849 n1850 c1851 A1854 n1855 c1856 A1870 n1871 c1872 (hL1879.argO (dk:=Ygi) hp1880 [] rfl 1 rfl rfl (Ow.weak hL1840.env.size h1847) (me 0 rfl) (Cells.flat _)) (hL1879.argO (dk:=Yh1) hp1880 [] rfl 2 rfl rfl (Ow.weak hL1840.env.size h1852) (me 0 rfl) (Cells.flat _)) (Rw.w (Rw.vis (dk:=Ykq) (dk2:=Ygs) Yj3 rfl (fun x cs=>by rintro ⟨A,n,c,rfl,h,k⟩; exact ⟨A,_,c,rfl,Rw.pre h k⟩) (hL1879.argFam (fk:=Yh7) (dk:=Ykq) hp1880 [] rfl 3 4 rfl rfl rfl rfl (Ow.w (Ow.weak hL1840.env.size h1857) (List.length_map _)) (fun _ _ _ _ k h=>⟨_,_,_,rfl,h,Nat.le_trans k (Nat.le_of_eq h.hq.symm)⟩))) (vw_38 _)) (hL1879.argO (dk:=Yh0) hp1880 [] rfl 0 rfl rfl (Ow.weak hL1866.env.size h1873) (me 0 rfl) (Cells.flat _)) (hL1879.hFl hp1880 (Yj0 [] rfl)) (hL1879.into hp1880 _) r1881 hv1882) ?_
        rintro _ w1883 ⟨rfl,hM1884⟩
        have hL1885:=hL1879.call hp1880 hM1884
        refine ⟨_,_,_,rfl,hL1885,?_⟩
        refine Yfx 6 rfl (Yg3 rfl) gn rfl<|Yg7 7 rfl<|Yg4 rfl<|Yfy rfl rfl<|Yfx 0 rfl (Ykb [.slice A76 r74.2.1 c78,.slice A82 r74.2.2.1 c84,.slice A1593 r74.2.2.2.1 c1595] 7 Yk6 rfl rfl rfl rfl) gn rfl<|Yfx 1 rfl (Yg1 rfl) gn rfl<|Yfx 2 rfl (Yg1 rfl) gn rfl ?_
        obtain ⟨r1889,hv1890,h⟩:=h
        refine Yh3 3 rfl (Yhy [.agg #[.slice A76 r74.2.1 c78,.slice A82 r74.2.2.1 c84,.slice A1593 r74.2.2.2.1 c1595],.slice A107 r105.2 c109,.int .u64 x19] rfl Try.func13 rfl rfl rfl fun w1886 hL1887=>?_) gn
        have hp1888:=pmI hL1887 .n (.c 0 rfl (.c 1 rfl (.c 2 rfl (.c 3 rfl (.c 4 rfl (.c 5 rfl (.c 6 rfl (.c 7 rfl (.c 8 rfl (.c 9 rfl (.c 10 rfl .n))))))))))) (by kernel_rfl)
        refine Calls.mono (Ymr w1886 (Fl ([]:List Ygl)) (⟨(r74.1.terms.take r74.2.1),(r74.1.syms.take r74.2.2.1),((x1591.take r74.2.2.2.1).map Yj3)⟩:Yfz) (x733.take r105.2) x19 A76 r74.2.1 c78 A82 r74.2.2.1 c84 A1593 r74.2.2.2.1 c1595 A107 r105.2 c109 (Rw.w (hL1887.argV (dk:=Ygi) hp1888 [] rfl 8 rfl rfl (Ow.weak hL72.env.size h79) (me 0 rfl) (Cells.flat _) (Vw.prefix hl1439) (Nat.le_trans hl1439 (Ow.weak hL72.env.size h79).hn) (Ow.weak hL72.env.size h79).hm) (by rw [(Eq.refl (r74.1.terms.take r74.2.1))]; rfl)) (Rw.w (hL1887.argV (dk:=Yh1) hp1888 [] rfl 9 rfl rfl (Ow.weak hL72.env.size h85) (me 0 rfl) (Cells.flat _) (Vw.prefix hl1440) (Nat.le_trans hl1440 (Ow.weak hL72.env.size h85).hn) (Ow.weak hL72.env.size h85).hm) (by rw [(Eq.refl (r74.1.syms.take r74.2.2.1))]; rfl)) (Rw.w (Rw.pre (Rw.vis (dk:=Ykq) (dk2:=Ygs) Yj3 rfl (fun x cs=>by rintro ⟨A,n,c,rfl,h,k⟩; exact ⟨A,_,c,rfl,Rw.pre h k⟩) (hL1887.argFam (fk:=Yh7) (dk:=Ykq) hp1888 [] rfl 10 5 rfl rfl rfl rfl h1597 (fun _ _ _ _ k h=>⟨_,_,_,rfl,h,Nat.le_trans k (Nat.le_of_eq h.hq.symm)⟩))) hl1441) (by rw [List.map_take])) (Rw.w (hL1887.argV (dk:=Yh0) hp1888 [] rfl 6 rfl rfl h734 (me 0 rfl) (Cells.flat _) (Vw.prefix hl1438) (Nat.le_trans hl1438 h734.hn) h734.hm) (by rw [(Eq.refl (x733.take r105.2))]; rfl)) (hL1887.hFl hp1888 (Yj0 [] rfl)) (hL1887.into hp1888 _) r1889 hv1890) ?_
        rintro _ w1891 ⟨rfl,hM1892⟩
        have hL1893:=hL1887.call hp1888 hM1892
        refine ⟨_,_,_,rfl,hL1893,?_⟩
        refine Yfx 4 rfl (Yg1 rfl) gn rfl<|Yfx 5 rfl (Ygh rfl rfl rfl) gn rfl<|Yfx 6 rfl (Yg3 rfl) gn rfl<|Yg7 7 rfl ?_
        have h:=Out.inr hO2 h
        have h:=Out.inr hO1 h
        refine Ygu [.bool (r1889 == r1881)] rfl Try.func3 rfl (.tmp rfl (.nil)) fun wr hLr=>?_
        have hMr:=hLr.pk0 (.c 1 rfl .n)
        show Yiy w F  r (.returned (Yhi [.bool (r1889 == r1881)])) wr
        rw [h]
        exact ⟨rfl,hMr⟩
      exact Yhq [0,1] (key3 _ h hl150 hl151 hl152 bs94 A88 n89 c90 cs93 (Ow.weak hL72.env.size h91) hl153) ⟨rfl,rfl,rfl,rfl,trivial⟩ (.cons _ (.cons_cons _ (.cons _ (.cons_cons _ (.cons_cons _ (.cons_cons _ (.cons_cons _ (.cons_cons _ (.cons _ (.cons _ (.cons _ (.cons _ (.slnil))))))))))))) rfl
     ·have h:=Ygf hp1436 h
      refine Ygm rfl _ rfl ((neib hp1436))<|Yg4 rfl<|Yfy rfl rfl<|Yfx 0 rfl (Yg3 rfl) gn rfl<|Yg7 1 rfl ?_
      have h:=Out.inr hO1 h
      refine Ygu [.bool false] rfl Try.func3 rfl (.tmp rfl (.nil)) fun wr hLr=>?_
      have hMr:=hLr.pk0 (.c 1 rfl .n)
      show Yiy w F  r (.returned (Yhi [.bool false])) wr
      rw [h]
      exact ⟨rfl,hMr⟩
   exact Yhq [0,1] (key2 _ h (Ow.weak hL103.env.size h110) hl143 hl145 hl146 hl147) ⟨rfl,rfl,rfl,rfl,rfl,trivial⟩ (.cons_cons _ (.cons_cons _ (.cons_cons _ (.cons_cons _ (.cons_cons _ (.cons_cons _ (.cons_cons _ (.cons_cons _ (.cons_cons _ (.cons_cons _ (.cons_cons _ (.slnil)))))))))))) rfl
 refine Yfy rfl rfl<|Yfx 0 rfl (Ykb [.slice A76 r74.2.1 c78,.slice A82 r74.2.2.1 c84,.slice A88 r74.2.2.2.1 c90] 1 Yk6 rfl rfl rfl rfl) gn rfl<|Yfx 1 rfl (Yg1 rfl) gn rfl<|Yfx 2 rfl (Yg1 rfl) gn rfl ?_
 obtain ⟨r1897,hv1898,h⟩:=h
 refine Yh3 3 rfl (Yhy [.agg #[.slice A76 r74.2.1 c78,.slice A82 r74.2.2.1 c84,.slice A88 r74.2.2.2.1 c90],.slice A107 r105.2 c109,.int .u64 x19] rfl Try.func13 rfl rfl rfl fun w1894 hL1895=>?_) gn
 have hp1896:=pmI hL1895 .n (.c 0 rfl (.c 1 rfl (.c 2 rfl (.c 3 rfl (.c 4 rfl (.c 5 rfl (.c 6 rfl (.c 7 rfl (.c 8 rfl (.c 9 rfl (.c 10 rfl (.c 11 rfl (.c 12 rfl .n))))))))))))) (by kernel_rfl)
 refine Calls.mono (Ymr w1894 (Fl ([]:List Ygl)) (⟨(r74.1.terms.take r74.2.1),(r74.1.syms.take r74.2.2.1),((r74.2.2.2.2.take r74.2.2.2.1).map Yj3)⟩:Yfz) (r105.1.take r105.2) x19 A76 r74.2.1 c78 A82 r74.2.2.1 c84 A88 r74.2.2.2.1 c90 A107 r105.2 c109 (Rw.w (hL1895.argV (dk:=Ygi) hp1896 [] rfl 2 rfl rfl (Ow.weak hL72.env.size h79) (me 0 rfl) (Cells.flat _) (Vw.prefix hk80) (Nat.le_trans hk80 (Ow.weak hL72.env.size h79).hn) (Ow.weak hL72.env.size h79).hm) (by rw [(Eq.refl (r74.1.terms.take r74.2.1))]; rfl)) (Rw.w (hL1895.argV (dk:=Yh1) hp1896 [] rfl 3 rfl rfl (Ow.weak hL72.env.size h85) (me 0 rfl) (Cells.flat _) (Vw.prefix hk86) (Nat.le_trans hk86 (Ow.weak hL72.env.size h85).hn) (Ow.weak hL72.env.size h85).hm) (by rw [(Eq.refl (r74.1.syms.take r74.2.2.1))]; rfl)) (Rw.w (Rw.pre (Rw.vis (dk:=Ykq) (dk2:=Ygs) Yj3 rfl (fun x cs=>by rintro ⟨A,n,c,rfl,h,k⟩; exact ⟨A,_,c,rfl,Rw.pre h k⟩) (hL1895.argFam (fk:=Yh7) (dk:=Ykq) hp1896 [] rfl 4 5 rfl rfl rfl rfl (Ow.weak hL72.env.size h91) (fun _ _ _ _ k h=>⟨_,_,_,rfl,h,Nat.le_trans k (Nat.le_of_eq h.hq.symm)⟩))) hk92) (by rw [List.map_take])) (Rw.w (hL1895.argV (dk:=Yh0) hp1896 [] rfl 0 rfl rfl (Ow.weak hL103.env.size h110) (me 0 rfl) (Cells.flat _) (Vw.prefix hk111) (Nat.le_trans hk111 (Ow.weak hL103.env.size h110).hn) (Ow.weak hL103.env.size h110).hm) (by rw [(Eq.refl (r105.1.take r105.2))]; rfl)) (hL1895.hFl hp1896 (Yj0 [] rfl)) (hL1895.into hp1896 _) r1897 hv1898) ?_
 rintro _ w1899 ⟨rfl,hM1900⟩
 have hL1901:=hL1895.call hp1896 hM1900
 refine ⟨_,_,_,rfl,hL1901,?_⟩
 refine Yfx 4 rfl (Yg1 rfl) gn rfl<|Yfx 5 rfl (Ygh rfl rfl rfl) gn rfl<|Yfx 6 rfl (Yg1 rfl) gn rfl ?_
 by_cases hp1902:r1897=r66
 ·have h:=Ygg hp1902 h
  refine Yhr 32 rfl ((eqib hp1902))<|Yfx 7 rfl (Ykb [.slice A76 r74.2.1 c78,.slice A82 r74.2.2.1 c84,.slice A88 r74.2.2.2.1 c90] 1 Yk6 rfl rfl rfl rfl) (gy 32 rfl rfl) rfl<|Yfx 8 rfl (Ykb [.slice A27 n28 c29,.slice A32 n33 c34,.slice A37 n38 c39] 7 Yk6 rfl rfl rfl rfl) (gy 32 rfl rfl) rfl ?_
  obtain ⟨r1906,hv1907,h⟩:=h
  refine Yh3 9 rfl (Yhy [.agg #[.slice A76 r74.2.1 c78,.slice A82 r74.2.2.1 c84,.slice A88 r74.2.2.2.1 c90],.agg #[.slice A27 n28 c29,.slice A32 n33 c34,.slice A37 n38 c39]] rfl Try.func14 rfl rfl rfl fun w1903 hL1904=>?_) (gy 32 rfl rfl)
  have hp1905:=pmI hL1904 .n (.c 0 rfl (.c 1 rfl (.c 2 rfl (.c 3 rfl (.c 4 rfl (.c 5 rfl (.c 6 rfl (.c 7 rfl (.c 8 rfl (.c 9 rfl (.c 10 rfl (.c 11 rfl (.c 12 rfl .n))))))))))))) (by kernel_rfl)
  refine Calls.mono (Yn9 w1903 (Fl ([]:List Ygl)) (⟨r74.1.terms,r74.1.syms,[]⟩:Yfz) r74.2.1 r74.2.2.1 r74.2.2.2.2 r74.2.2.2.1 r25 A76 n77 c78 A82 n83 c84 A88 n89 c90 A27 n28 c29 A32 n33 c34 A37 n38 c39 (hL1904.argO (dk:=Ygi) hp1905 [] rfl 2 rfl rfl (Ow.weak hL72.env.size h79) (me 0 rfl) (Cells.flat _)) hk80 (hL1904.argO (dk:=Yh1) hp1905 [] rfl 3 rfl rfl (Ow.weak hL72.env.size h85) (me 0 rfl) (Cells.flat _)) hk86 (hL1904.argFam (fk:=Yh7) (dk:=Ykq) hp1905 [] rfl 4 5 rfl rfl rfl rfl (Ow.weak hL72.env.size h91) (fun _ _ _ _ k h=>⟨_,_,_,rfl,h,Nat.le_trans k (Nat.le_of_eq h.hq.symm)⟩)) hk92 (hL1904.argO (dk:=Ygi) hp1905 [] rfl 8 rfl rfl (Ow.weak hL23.env.size h30) (me 0 rfl) (Cells.flat _)) (hL1904.argO (dk:=Yh1) hp1905 [] rfl 9 rfl rfl (Ow.weak hL23.env.size h35) (me 0 rfl) (Cells.flat _)) (Rw.w (Rw.vis (dk:=Ykq) (dk2:=Ygs) Yj3 rfl (fun x cs=>by rintro ⟨A,n,c,rfl,h,k⟩; exact ⟨A,_,c,rfl,Rw.pre h k⟩) (hL1904.argFam (fk:=Yh7) (dk:=Ykq) hp1905 [] rfl 10 11 rfl rfl rfl rfl (Ow.w (Ow.weak hL23.env.size h40) (List.length_map _)) (fun _ _ _ _ k h=>⟨_,_,_,rfl,h,Nat.le_trans k (Nat.le_of_eq h.hq.symm)⟩))) (vw_38 _)) (hL1904.hFl hp1905 (Yj0 [] rfl)) (hL1904.into hp1905 _) r1906 hv1907) ?_
  rintro _ w1908 ⟨rfl,hM1909⟩
  have hL1910:=hL1904.call hp1905 hM1909
  refine ⟨_,_,_,rfl,hL1910,?_⟩
  refine Yfx 10 rfl (Ymc rfl) (gy 32 rfl rfl) rfl<|Yfx 11 rfl (Ygv (b:=false) rfl rfl) gn rfl<|Yfx 12 rfl (Yg1 rfl) gn rfl ?_
  by_cases hp1911:r1906=true
  ·have h:=Ygg hp1911 h
   refine Yhr 38 rfl ((nf hp1911))<|Yfx 13 rfl (Yg1 rfl) (gy 38 rfl rfl) rfl<|Yfx 14 rfl (Yg1 rfl) (gy 38 rfl rfl) rfl ?_
   obtain ⟨r1915,hv1916,h⟩:=h
   refine Yh3 15 rfl (Yhy [.slice A107 r105.2 c109,.slice A55 n56 c57] rfl Try.func15 rfl rfl rfl fun w1912 hL1913=>?_) (gy 38 rfl rfl)
   have hp1914:=pmI hL1913 .n (.c 0 rfl (.c 1 rfl (.c 2 rfl (.c 3 rfl (.c 4 rfl (.c 5 rfl (.c 6 rfl (.c 7 rfl (.c 8 rfl (.c 9 rfl (.c 10 rfl (.c 11 rfl (.c 12 rfl .n))))))))))))) (by kernel_rfl)
   refine Calls.mono (Ykx w1912 (Fl ([]:List Ygl)) r105.1 r105.2 r53 A107 n108 c109 A55 n56 c57 (hL1913.argO (dk:=Yh0) hp1914 [] rfl 0 rfl rfl (Ow.weak hL103.env.size h110) (me 0 rfl) (Cells.flat _)) hk111 (hL1913.argO (dk:=Yh0) hp1914 [] rfl 6 rfl rfl (Ow.weak hL51.env.size h58) (me 0 rfl) (Cells.flat _)) (hL1913.hFl hp1914 (Yj0 [] rfl)) (hL1913.into hp1914 _) r1915 hv1916) ?_
   rintro _ w1917 ⟨rfl,hM1918⟩
   have hL1919:=hL1913.call hp1914 hM1918
   refine ⟨_,_,_,rfl,hL1919,?_⟩
   refine Yfx 16 rfl (Ymc rfl) (gy 38 rfl rfl) rfl<|Yfx 17 rfl (Ygv (b:=false) rfl rfl) gn rfl<|Yg7 18 rfl<|Yh2 10 rfl<|Yh2 10 rfl<|Yh2 10 rfl<|Yh2 10 rfl<|Yh2 8 rfl<|Yh2 8 rfl<|Yh2 8 rfl<|Yh2 8 rfl<|Yh2 8 rfl ?_
   refine Yh2 11 rfl<|Yh2 10 rfl ?_
   exact Yhq [0,1] (j1 (!r1915) h hk111 hk80 hk86 hk92) ⟨rfl,rfl,rfl,rfl,rfl,trivial⟩ (.cons_cons _ (.cons_cons _ (.cons_cons _ (.cons_cons _ (.cons_cons _ (.cons_cons _ (.cons_cons _ (.cons_cons _ (.cons_cons _ (.cons_cons _ (.cons_cons _ (.cons _ (.cons _ (.slnil)))))))))))))) rfl
  ·have h:=Ygf hp1911 h
   refine Yhr 38 rfl ((nt (bf hp1911)))<|Yg5 13 rfl (ps 38 rfl rfl rfl)<|Yg5 14 rfl (ps 38 rfl rfl rfl)<|Yg5 15 rfl (ps 38 rfl rfl rfl)<|Yg5 16 rfl (ps 38 rfl rfl rfl)<|Yfx 17 rfl (Ygv (b:=true) rfl rfl) gn rfl<|Yg7 18 rfl<|Yh2 10 rfl<|Yh2 10 rfl<|Yh2 10 rfl<|Yh2 10 rfl<|Yh2 8 rfl ?_
   refine Yh2 8 rfl<|Yh2 8 rfl<|Yh2 8 rfl<|Yh2 8 rfl<|Yh2 11 rfl<|Yh2 10 rfl ?_
   exact Yhq [0,1] (j1 true h hk111 hk80 hk86 hk92) ⟨rfl,rfl,rfl,rfl,rfl,trivial⟩ (.cons_cons _ (.cons_cons _ (.cons_cons _ (.cons_cons _ (.cons_cons _ (.cons_cons _ (.cons_cons _ (.cons_cons _ (.cons_cons _ (.cons_cons _ (.cons_cons _ (.cons _ (.cons _ (.slnil)))))))))))))) rfl
 ·have h:=Ygf hp1902 h
  refine Yhr 32 rfl ((neib hp1902))<|Yg5 7 rfl (ps 32 rfl rfl rfl)<|Yg5 8 rfl (ps 32 rfl rfl rfl)<|Yg5 9 rfl (ps 32 rfl rfl rfl)<|Yg5 10 rfl (ps 32 rfl rfl rfl)<|Yfx 11 rfl (Ygv (b:=true) rfl rfl) gn rfl<|Yfx 12 rfl (Yg1 rfl) gn rfl<|Yg5 13 rfl (ps 38 rfl rfl rfl)<|Yg5 14 rfl (ps 38 rfl rfl rfl)<|Yg5 15 rfl (ps 38 rfl rfl rfl)<|Yg5 16 rfl (ps 38 rfl rfl rfl)<|Yfx 17 rfl (Ygv (b:=true) rfl rfl) gn rfl ?_
  refine Yg7 18 rfl<|Yh2 10 rfl<|Yh2 10 rfl<|Yh2 10 rfl<|Yh2 10 rfl<|Yh2 8 rfl<|Yh2 8 rfl<|Yh2 8 rfl<|Yh2 8 rfl<|Yh2 8 rfl<|Yh2 11 rfl<|Yh2 10 rfl ?_
  exact Yhq [0,1] (j1 true h hk111 hk80 hk86 hk92) ⟨rfl,rfl,rfl,rfl,rfl,trivial⟩ (.cons_cons _ (.cons_cons _ (.cons_cons _ (.cons_cons _ (.cons_cons _ (.cons_cons _ (.cons_cons _ (.cons_cons _ (.cons_cons _ (.cons_cons _ (.cons_cons _ (.cons _ (.cons _ (.slnil)))))))))))))) rfl
end Go.Proofs.Ytelafghkjlpojaa.K
