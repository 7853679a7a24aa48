/- What the machine's calls do, function by function, printed by my own tool. Condition of each: its relation holds of the answer, and what is handed in lies in memory as told. -/
import Derived.Test.YtmekgfcfooghnaaK0
set_option linter.unusedVariables false
set_option maxRecDepth 100000
set_option maxHeartbeats 4000000
namespace Go.Proofs.Ytmekgfcfooghnaa.K
open Go.Proofs.Ytmekgfcfooghnaa.B Go.Proofs.Ytmekgfcfooghnaa.R Go.RowKit
noncomputable abbrev Xyk:=Code.snd (Code.snd (Code.snd (Xnv Try.f10)))
noncomputable abbrev Xt8:=Code.fst (Code.fst (Code.snd (Code.fst (Code.snd (Code.snd (Xnv Try.f10))))))
noncomputable abbrev Ybi:=Code.snd (Code.snd Xt8)
noncomputable abbrev Yb4:=Code.snd (Code.fst (Code.fst (Code.snd Xt8)))
noncomputable abbrev Xzm:=Code.fst (Code.fst (Code.fst (Code.fst (Code.fst (Code.snd Xt8)))))
abbrev Xps (w:World) (F:Nat→Prop) (r:Bool):Ending→World→Prop:=fun e w'=>e=.returned (.bool r)∧B.Loc w w' [] [St w []]
noncomputable abbrev Xoi (w:World) (F:Nat→Prop) (r:Bool):Cx:=⟨Try.prog,10,Try.f10,54,Xps w F  r,w⟩
theorem Xv2 (w:World) (F:Nat→Prop) (x1:List Xm4) (A2:Option Addr) (n3:Nat) (c4:Nat) (h5:Rw Xmo w (St w []).av A2 n3 c4 x1) (hF:∀ b,F b→b < w.heap.size∧∀ o ∈ ([]:List (List Nat)),b ∉ o) (hL0:B.Loc w w [] [Sm w.heap.size F w [],St w []]) (r:Bool) (h:Xof x1 r):Calls Try.prog 10 #[.slice A2 n3 c4] w (Xps w F  r):=by
 unfold Xof at h
 refine Xmq (vs:=[.slice A2 n3 c4]) 54 Try.func10 rfl Try.ntmps10 rfl hL0 ?_
 show G (Xoi w F r) _ _ _ _
 refine Xmb rfl<|Xm8 rfl rfl<|Xm5 0 rfl (Xm9 rfl) gn rfl<|Xmc 1 rfl<|Xmb rfl<|Xm8 rfl rfl<|Xm5 0 rfl (Xm9 rfl) gn rfl<|Xmc 1 rfl<|Xmb rfl<|Xmb rfl<|Xm8 rfl rfl<|Xm5 0 rfl (Xm9 rfl) gn rfl ?_
 refine Xmc 1 rfl<|Xn8 rfl<|Xqz rfl ?_
 have key1:∀ s,Xmh (fun (s:(List Int) × Int) o=>Xnw x1 s.1 s.2 o) s r→(fun (s:(List Int) × Int)=>∀ (A36:Option Addr) (n37:Nat) (c38:Nat) (h39:Ow w.heap.size A36 n37 c38 s.1),G (Xoi w F r) [.code Xt8,.inLoop Xt8,.inBlock 0,.code Xyk] [(0,.slice A2 n3 c4),(3,.slice A36 n37 c38),(4,.int .i64 s.2)] [.own (.slice A36 n37 c38) 3 1 n37 (s.1.flatMap (eI .i64))] [Sm w.heap.size F w [],St w []]) s:=by
  intro s hs
  refine Xmh.ind (mot:=(fun (s:(List Int) × Int)=>∀ (A36:Option Addr) (n37:Nat) (c38:Nat) (h39:Ow w.heap.size A36 n37 c38 s.1),G (Xoi w F r) [.code Xt8,.inLoop Xt8,.inBlock 0,.code Xyk] [(0,.slice A2 n3 c4),(3,.slice A36 n37 c38),(4,.int .i64 s.2)] [.own (.slice A36 n37 c38) 3 1 n37 (s.1.flatMap (eI .i64))] [Sm w.heap.size F w [],St w []])) ?_ hs
  clear hs s
  intro s o1 h hO1
  obtain ⟨x35,x40⟩:=s
  show ∀ (A36:Option Addr) (n37:Nat) (c38:Nat) (h39:Ow w.heap.size A36 n37 c38 x35),G (Xoi w F r) [.code Xt8,.inLoop Xt8,.inBlock 0,.code Xyk] [(0,.slice A2 n3 c4),(3,.slice A36 n37 c38),(4,.int .i64 x40)] [.own (.slice A36 n37 c38) 3 1 n37 (x35.flatMap (eI .i64))] [Sm w.heap.size F w [],St w []]
  intro A36 n37 c38 h39
  have h:Xnw x1 x35 x40 o1:=h
  unfold Xnw at h
  refine Xmb rfl<|Xmb rfl<|Xm8 rfl rfl<|Xm5 0 rfl (Xm7 rfl) gn rfl<|Xm5 1 rfl (Xm7 rfl) gn rfl<|Xm5 2 rfl (Xmm Xsc rfl h5.hq) gn rfl<|Xm5 3 rfl (Xmk rfl rfl rfl) gn rfl<|Xmc 4 rfl ?_
  by_cases hp166:x40 < (x1.length:Int)
  ·have h:=Xmf hp166 h
   refine Xmy rfl _ rfl ((decide_eq_true hp166))<|Xn1 rfl<|Xmb rfl<|Xn8 rfl<|Xmb rfl<|Xn8 rfl<|Xqz rfl ?_
   have key2:∀ s,Xmh (fun (s:(List Int)) o=>Xnz x40 x1 s o) s o1→(fun (s:(List Int))=>∀ (A208:Option Addr) (n209:Nat) (c210:Nat) (h211:Ow w.heap.size A208 n209 c210 s),G (Xoi w F r) [.code Xzm,.inLoop Xzm,.inBlock 2,.code Yb4,.inBlock 1,.code Ybi,.inLoop Xt8,.inBlock 0,.code Xyk] [(0,.slice A2 n3 c4),(3,.slice A208 n209 c210),(4,.int .i64 x40)] [.own (.slice A208 n209 c210) 3 1 n209 (s.flatMap (eI .i64))] [Sm w.heap.size F w [],St w []]) s:=by
    intro s hs
    refine Xmh.ind (mot:=(fun (s:(List Int))=>∀ (A208:Option Addr) (n209:Nat) (c210:Nat) (h211:Ow w.heap.size A208 n209 c210 s),G (Xoi w F r) [.code Xzm,.inLoop Xzm,.inBlock 2,.code Yb4,.inBlock 1,.code Ybi,.inLoop Xt8,.inBlock 0,.code Xyk] [(0,.slice A2 n3 c4),(3,.slice A208 n209 c210),(4,.int .i64 x40)] [.own (.slice A208 n209 c210) 3 1 n209 (s.flatMap (eI .i64))] [Sm w.heap.size F w [],St w []])) ?_ hs
    clear hs s
    intro x207 o2 h hO2
    show ∀ (A208:Option Addr) (n209:Nat) (c210:Nat) (h211:Ow w.heap.size A208 n209 c210 x207),G (Xoi w F r) [.code Xzm,.inLoop Xzm,.inBlock 2,.code Yb4,.inBlock 1,.code Ybi,.inLoop Xt8,.inBlock 0,.code Xyk] [(0,.slice A2 n3 c4),(3,.slice A208 n209 c210),(4,.int .i64 x40)] [.own (.slice A208 n209 c210) 3 1 n209 (x207.flatMap (eI .i64))] [Sm w.heap.size F w [],St w []]
    intro A208 n209 c210 h211
    have h:Xnz x40 x1 x207 o2:=h
    unfold Xnz at h
    refine Xmb rfl<|Xmb rfl<|Xm8 rfl rfl<|Xm5 0 rfl (Xm7 rfl) gn rfl<|Xm5 1 rfl (Xmm Xqp rfl h211.hq) gn rfl<|Xm5 2 rfl (Xmk rfl rfl rfl) gn rfl<|Xm5 3 rfl (Xm7 rfl) gn rfl ?_
    by_cases hp251:(x207.length:Int) > 0
    ·have h:=Xmf hp251 h
     refine Xn6 14 rfl ((decide_eq_true hp251))<|Xm5 4 rfl (Xm7 rfl) (gy 14 rfl rfl) rfl<|Xm5 5 rfl (Xm7 rfl) (gy 14 rfl rfl) rfl<|Xm5 6 rfl (Xmm Xqp rfl h211.hq) (gy 14 rfl rfl) rfl<|Xm5 7 rfl (Xmk rfl rfl rfl) (gy 14 rfl rfl) rfl ?_
     obtain ⟨hb252,h⟩:=h
     refine Xm5 8 rfl (Xp3 Xpg rfl rfl h211 hb252) (gy 14 rfl rfl) rfl<|Xm5 9 rfl (Xs3 (.int .i64 (ix x207 (w64 ((x207.length:Int) - 1)))) 0 Xql rfl rfl (Xtv (hlI .i64) hb252 rfl)) (gy 14 rfl rfl) rfl<|Xm5 10 rfl (Xmk rfl rfl rfl) (gy 14 rfl rfl) rfl<|Xm5 11 rfl (Xmn (b:=true) rfl rfl) gn rfl<|Xmc 12 rfl ?_
     by_cases hp253:ix x207 (w64 ((x207.length:Int) - 1))≤0
     ·have h:=Xmf hp253 h
      refine Xmy rfl _ rfl ((decide_eq_true hp253))<|Xn1 rfl<|Xn8 rfl<|Xm8 rfl rfl<|Xm5 0 rfl (Xm7 rfl) gn rfl<|Xm5 1 rfl (Xm7 rfl) gn rfl<|Xm5 2 rfl (Xmm Xqp rfl h211.hq) gn rfl<|Xm5 3 rfl (Xmk rfl rfl rfl) gn rfl ?_
      obtain ⟨hb254,h⟩:=h
      obtain ⟨x256,hv257,h⟩:=h
      have hle255:(w64 ((x207.length:Int) - 1):Int).toNat≤n209:=by have q:=hb254; have q1:=h211.hq; omega
      have h258:Ow w.heap.size A208 (w64 ((x207.length:Int) - 1):Int).toNat c210 x256:=Ow.w (Ow.cut h211 hle255) (by rw [hv257])
      refine Xm5 4 rfl (Xuf (i:=w64 ((x207.length:Int) - 1)) Xpg rfl rfl (by have q:=hb254; have q1:=h211.hq; have q2:=h211.hn; omega) h211.hn rfl) gn rfl<|Xm5 5 rfl (Xm9 rfl) gn rfl<|Xmc 6 rfl<|Xnh<|Xo7 ?_
      have h259:Ow w.heap.size A208 ((w64 ((x207.length:Int) - 1):Int).toNat) c210 x256:=(Ow.w (Ow.cut h211 hle255) (by rw [hv257]))
      refine Yck (j:=0) (m:=((w64 ((x207.length:Int) - 1):Int).toNat)) (cells':=x256.flatMap (eI .i64)) rfl hle255 (by rw [Yaf (hlI .i64),hv257]) ?_
      have ih:=Out.inl hO2 h
      exact Xnj [0,1] (ih A208 ((w64 ((x207.length:Int) - 1):Int).toNat) c210 h259) ⟨rfl,rfl,rfl,trivial⟩ (.cons_cons _ (.slnil)) rfl
     ·have h:=Xmg hp253 h
      refine Xmr rfl _ rfl ((decide_eq_false hp253))<|Xqk [.code Yb4,.inBlock 1,.code Ybi,.inLoop Xt8,.inBlock 0,.code Xyk] rfl rfl<|Xmb rfl<|Xmb rfl<|Xm8 rfl rfl<|Xm5 0 rfl (Xm7 rfl) gn rfl<|Xm5 1 rfl (Xmm Xqp rfl h211.hq) gn rfl<|Xm5 2 rfl (Xmk rfl rfl rfl) gn rfl<|Xmc 3 rfl<|Xmy rfl _ rfl ((decide_eq_true hp251))<|Xm8 rfl rfl<|Xm5 0 rfl (Xm7 rfl) gn rfl ?_
      refine Xm5 1 rfl (Xm7 rfl) gn rfl<|Xm5 2 rfl (Xmm Xqp rfl h211.hq) gn rfl<|Xm5 3 rfl (Xmk rfl rfl rfl) gn rfl<|Xm5 4 rfl (Xm7 rfl) gn rfl<|Xm5 5 rfl (Xm7 rfl) gn rfl<|Xm5 6 rfl (Xmm Xqp rfl h211.hq) gn rfl<|Xm5 7 rfl (Xmk rfl rfl rfl) gn rfl<|Xm5 8 rfl (Xp3 Xpg rfl rfl h211 hb252) gn rfl<|Xm5 9 rfl (Xs3 (.int .i64 (ix x207 (w64 ((x207.length:Int) - 1)))) 0 Xql rfl rfl (Xtv (hlI .i64) hb252 rfl)) gn rfl<|Xm5 10 rfl (Xmk rfl rfl rfl) gn rfl<|Xm5 11 rfl (Xp3 Xpg rfl rfl h211 hb252) gn rfl ?_
      obtain ⟨x260,hv261,h⟩:=h
      refine Xmw 12 rfl (Xx4 (enc:=(eI .i64)) (o:=0) (z:=(w64 ((ix x207 (w64 ((x207.length:Int) - 1))) - 1))) (vs:=[.int .i64 (w64 ((ix x207 (w64 ((x207.length:Int) - 1))) - 1))]) (i:=(w64 ((x207.length:Int) - 1))) 0 (hlI .i64) Yaa rfl rfl rfl rfl rfl h211 hb252 rfl rfl rfl hv261 fun h262=>?_) gn
      refine Xmc 13 rfl<|Xmb rfl<|Xm8 rfl rfl<|Xm5 0 rfl (Xm7 rfl) gn rfl<|Xm5 1 rfl (Xm7 rfl) gn rfl<|Xm5 2 rfl (Xm7 rfl) gn rfl ?_
      obtain ⟨hb263,h⟩:=h
      have hr264:=Rw.readF (s:=St w []) (hl:=Xmv) (h1:=Xna) h5 hb263
      refine Xm5 3 rfl (Xn4 (s:=St w []) Xqi rfl rfl h5 hb263) gn rfl<|Xm5 4 rfl (Xo6 Xsf rfl) gn rfl<|Xm5 5 rfl (Xnl (kk:=(x40:Int).toNat * 7) (j:=5) (St w []) Xql rfl hr264 rfl (me 1 rfl)) gn rfl ?_
      refine Xmw 6 rfl (Xqd (xs:=([(ix x1 x40).kids]:List Int)) [.int .i64 ((ix x1 x40).kids)] Xve rfl (by kernel_rfl) rfl rfl rfl rfl fun gb266 h267=>?_) gn
      obtain ⟨x275,hv276,h⟩:=h
      obtain ⟨hb277,h⟩:=h
      refine w_deep0 ?_
      refine Xmw 7 rfl (s_appE (zs:=x275) (cells':=x275.flatMap (eI .i64)) 2 0 rfl Xx2 rfl rfl rfl rfl Eld.self h262 (Nat.le_refl _) (Src.ownF (hl:=(hlI .i64)) (h1:=(Xow .i64)) 1 rfl h267) (by rw [hv276,List.flatMap_append] <;> rfl) (Xok hv276 h267.hq) hb277 rfl rfl fun A268 c269 bs272 p273 h270 hE274=>?_) gn
      refine Xm5 8 rfl (Xm9 rfl) gn rfl<|Xmc 9 rfl<|Xmb rfl<|Xm8 rfl rfl<|Xm5 0 rfl (Xm7 rfl) gn rfl<|Xm5 1 rfl (Xmm Xqp rfl h270.hq) gn rfl<|Xm5 2 rfl (Xmk rfl rfl rfl) gn rfl<|Xmc 3 rfl ?_
      by_cases hp278:(x275.length:Int) > 65536
      ·have h:=Xmf hp278 h
       refine Xmy rfl _ rfl ((decide_eq_true hp278))<|Xmb rfl<|Xm8 rfl rfl<|Xm5 0 rfl (Xm9 rfl) gn rfl<|Xmc 1 rfl ?_
       have h:=Out.inr hO2 h
       have h:=Out.inr hO1 h
       refine Xmt [.bool true] rfl Try.func10 rfl (.tmp rfl (.nil)) fun wr hLr=>?_
       have hMr:=hLr.pk0 (.c 1 rfl .n)
       show Xps w F  r (.returned (Xmz [.bool true])) wr
       rw [h]
       exact ⟨rfl,hMr⟩
      ·have h:=Xmg hp278 h
       refine Xmr rfl _ rfl ((decide_eq_false hp278))<|Xn1 rfl<|Xnh<|Xm8 rfl rfl<|Xm5 0 rfl (Xm7 rfl) gn rfl<|Xm5 1 rfl (Xmk rfl rfl rfl) gn rfl<|Xm5 2 rfl (Xm9 rfl) gn rfl<|Xmc 3 rfl<|Xo7 ?_
       have h:=Out.inr hO2 h
       have ih:=Out.inl hO1 h
       exact Xnj [0,1] (ih A268 (n209 + 1) c269 h270) ⟨rfl,rfl,rfl,trivial⟩ (.cons _ (.cons _ (.cons_cons _ (.slnil)))) rfl
    ·have h:=Xmg hp251 h
     refine Xn6 14 rfl ((decide_eq_false hp251))<|Xma 4 rfl (ps 14 rfl rfl rfl)<|Xma 5 rfl (ps 14 rfl rfl rfl)<|Xma 6 rfl (ps 14 rfl rfl rfl)<|Xma 7 rfl (ps 14 rfl rfl rfl)<|Xma 8 rfl (ps 14 rfl rfl rfl)<|Xma 9 rfl (ps 14 rfl rfl rfl)<|Xma 10 rfl (ps 14 rfl rfl rfl)<|Xm5 11 rfl (Xmn (b:=false) rfl rfl) gn rfl<|Xmc 12 rfl<|Xmr rfl _ rfl (rfl)<|Xqk [.code Yb4,.inBlock 1,.code Ybi,.inLoop Xt8,.inBlock 0,.code Xyk] rfl rfl ?_
     refine Xmb rfl<|Xmb rfl<|Xm8 rfl rfl<|Xm5 0 rfl (Xm7 rfl) gn rfl<|Xm5 1 rfl (Xmm Xqp rfl h211.hq) gn rfl<|Xm5 2 rfl (Xmk rfl rfl rfl) gn rfl<|Xmc 3 rfl<|Xmr rfl _ rfl ((decide_eq_false hp251))<|Xn1 rfl<|Xmb rfl<|Xm8 rfl rfl<|Xm5 0 rfl (Xm7 rfl) gn rfl ?_
     refine Xm5 1 rfl (Xm7 rfl) gn rfl<|Xm5 2 rfl (Xm7 rfl) gn rfl ?_
     obtain ⟨hb279,h⟩:=h
     have hr280:=Rw.readF (s:=St w []) (hl:=Xmv) (h1:=Xna) h5 hb279
     refine Xm5 3 rfl (Xn4 (s:=St w []) Xqi rfl rfl h5 hb279) gn rfl<|Xm5 4 rfl (Xo6 Xsf rfl) gn rfl<|Xm5 5 rfl (Xnl (kk:=(x40:Int).toNat * 7) (j:=5) (St w []) Xql rfl hr280 rfl (me 1 rfl)) gn rfl ?_
     refine Xmw 6 rfl (Xqd (xs:=([(ix x1 x40).kids]:List Int)) [.int .i64 ((ix x1 x40).kids)] Xve rfl (by kernel_rfl) rfl rfl rfl rfl fun gb282 h283=>?_) gn
     obtain ⟨x287,hv288,h⟩:=h
     obtain ⟨hb289,h⟩:=h
     refine Xmw 7 rfl (Xrg (zs:=x287) (cells':=x287.flatMap (eI .i64)) 1 Xx2 rfl rfl rfl h211 (Nat.le_refl _) (Src.ownF (hl:=(hlI .i64)) (h1:=(Xow .i64)) 0 rfl h283) (by rw [hv288,List.flatMap_append] <;> rfl) (Xok hv288 h283.hq) hb289 rfl rfl fun A284 c285 h286=>?_) gn
     refine Xm5 8 rfl (Xm9 rfl) gn rfl<|Xmc 9 rfl<|Xmb rfl<|Xm8 rfl rfl<|Xm5 0 rfl (Xm7 rfl) gn rfl<|Xm5 1 rfl (Xmm Xqp rfl h286.hq) gn rfl<|Xm5 2 rfl (Xmk rfl rfl rfl) gn rfl<|Xmc 3 rfl ?_
     by_cases hp290:(x287.length:Int) > 65536
     ·have h:=Xmf hp290 h
      refine Xmy rfl _ rfl ((decide_eq_true hp290))<|Xmb rfl<|Xm8 rfl rfl<|Xm5 0 rfl (Xm9 rfl) gn rfl<|Xmc 1 rfl ?_
      have h:=Out.inr hO2 h
      have h:=Out.inr hO1 h
      refine Xmt [.bool true] rfl Try.func10 rfl (.tmp rfl (.nil)) fun wr hLr=>?_
      have hMr:=hLr.pk0 (.c 1 rfl .n)
      show Xps w F  r (.returned (Xmz [.bool true])) wr
      rw [h]
      exact ⟨rfl,hMr⟩
     ·have h:=Xmg hp290 h
      refine Xmr rfl _ rfl ((decide_eq_false hp290))<|Xn1 rfl<|Xnh<|Xm8 rfl rfl<|Xm5 0 rfl (Xm7 rfl) gn rfl<|Xm5 1 rfl (Xmk rfl rfl rfl) gn rfl<|Xm5 2 rfl (Xm9 rfl) gn rfl<|Xmc 3 rfl<|Xo7 ?_
      have h:=Out.inr hO2 h
      have ih:=Out.inl hO1 h
      exact Xnj [0,1] (ih A284 (n209 + 1) c285 h286) ⟨rfl,rfl,rfl,trivial⟩ (.cons _ (.cons_cons _ (.slnil))) rfl
   exact Xnj [0,1] (key2 _ h A36 n37 c38 h39) ⟨rfl,rfl,rfl,trivial⟩ (.cons_cons _ (.slnil)) rfl
  ·have h:=Xmg hp166 h
   refine Xmr rfl _ rfl ((decide_eq_false hp166))<|Xqk [.code Xyk] rfl rfl<|Xmb rfl<|Xm8 rfl rfl<|Xm5 0 rfl (Xm9 rfl) gn rfl<|Xmc 1 rfl ?_
   have h:=Out.inr hO1 h
   refine Xmt [.bool false] rfl Try.func10 rfl (.tmp rfl (.nil)) fun wr hLr=>?_
   have hMr:=hLr.pk0 (.c 1 rfl .n)
   show Xps w F  r (.returned (Xmz [.bool false])) wr
   rw [h]
   exact ⟨rfl,hMr⟩
 refine Xrf 3 1 ?_
 exact Xnj [0,1] (key1 _ h none 0 0 (Ow.nil (z:=w.heap.size))) ⟨rfl,rfl,rfl,trivial⟩ (.cons_cons _ (.slnil)) rfl
abbrev Xsk (w:World) (F:Nat→Prop) (r:List Xm4):Ending→World→Prop:=fun e w'=>∃ A0:Option Addr,∃ n0:Nat,∃ c0:Nat,e=.returned (.slice A0 n0 c0)∧B.Loc w w' [.own (.slice A0 n0 c0) 39 7 n0 (r.flatMap Xme)] [St w []]∧Ow w.heap.size A0 n0 c0 r
noncomputable abbrev Xxu (w:World) (F:Nat→Prop) (r:List Xm4):Cx:=⟨Try.prog,17,Try.f17,7,Xsk w F  r,w⟩
theorem Xt5 (w:World) (F:Nat→Prop) (x1:List Xm4) (A2:Option Addr) (n3:Nat) (c4:Nat) (h5:Rw Xmo w (St w []).av A2 n3 c4 x1) (hF:∀ b,F b→b < w.heap.size∧∀ o ∈ ([]:List (List Nat)),b ∉ o) (hL0:B.Loc w w [] [Sm w.heap.size F w [],St w []]) (r:List Xm4) (h:Xpn x1 r):Calls Try.prog 17 #[.slice A2 n3 c4] w (Xsk w F  r):=by
 unfold Xpn at h
 refine Xmq (vs:=[.slice A2 n3 c4]) 7 Try.func17 rfl Try.ntmps17 rfl hL0 ?_
 show G (Xxu w F r) _ _ _ _
 refine Xmb rfl<|Xm8 rfl rfl<|Xm5 0 rfl (Xm9 rfl) gn rfl<|Xmc 1 rfl<|Xmb rfl<|Xm8 rfl rfl<|Xm5 0 rfl (Xm9 rfl) gn rfl<|Xmc 1 rfl<|Xmb rfl<|Xm8 rfl rfl<|Xm5 0 rfl (Xm7 rfl) gn rfl<|Xm5 1 rfl (Xm7 rfl) gn rfl ?_
 obtain ⟨x10,hv11,h⟩:=h
 obtain ⟨hb12,h⟩:=h
 refine w_nil 39 7 ?_
 refine Xmw 2 rfl (Xrg (zs:=x10) (cells':=x10.flatMap Xme) 0 Xyz rfl rfl rfl (Ow.nil (z:=w.heap.size)) (Nat.le_refl _) (Src.readF (s:=St w []) (hl:=Xmv) (h1:=Xna) h5 (me 1 rfl)) (by rw [hv11,List.flatMap_append] <;> rfl) (Xok hv11 h5.hq) hb12 rfl rfl fun A7 c8 h9=>?_) gn
 refine Xm5 3 rfl (Xm9 rfl) gn rfl<|Xmc 4 rfl ?_
 refine Xmt [.slice A7 (0 + n3) c8] rfl Try.func17 rfl (.tmp rfl (.nil)) fun wr hLr=>?_
 have hMr:=hLr.pkI (.c 0 rfl .n) .n (by kernel_rfl) (.c 1 rfl .n)
 show Xsk w F  r (.returned (Xmz [.slice A7 (0 + n3) c8])) wr
 rw [h]
 exact ⟨A7,0 + n3,c8,rfl,hMr,h9⟩
abbrev Xs9 (w:World) (F:Nat→Prop) (r:(List Xm4) × Nat):Ending→World→Prop:=fun e w'=>∃ A0:Option Addr,∃ n0:Nat,∃ c0:Nat,e=.returned (.slice A0 r.2 c0)∧B.Loc w w' [.own (.slice A0 n0 c0) 39 7 n0 (r.1.flatMap Xme)] [St w []]∧Ow w.heap.size A0 n0 c0 r.1∧r.2≤n0
noncomputable abbrev Xx9 (w:World) (F:Nat→Prop) (r:(List Xm4) × Nat):Cx:=⟨Try.prog,11,Try.f11,15,Xs9 w F  r,w⟩
theorem Xvs (w:World) (F:Nat→Prop) (x1:List Xm4) (A2:Option Addr) (n3:Nat) (c4:Nat) (h5:Rw Xmo w (St w []).av A2 n3 c4 x1) (hF:∀ b,F b→b < w.heap.size∧∀ o ∈ ([]:List (List Nat)),b ∉ o) (hL0:B.Loc w w [] [Sm w.heap.size F w [],St w []]) (r:(List Xm4) × Nat) (h:Xqu x1 r):Calls Try.prog 11 #[.slice A2 n3 c4] w (Xs9 w F  r):=by
 unfold Xqu at h
 refine Xmq (vs:=[.slice A2 n3 c4]) 15 Try.func11 rfl Try.ntmps11 rfl hL0 ?_
 show G (Xx9 w F r) _ _ _ _
 refine Xmb rfl<|Xm8 rfl rfl<|Xm5 0 rfl (Xm9 rfl) gn rfl<|Xmc 1 rfl<|Xmb rfl<|Xm8 rfl rfl<|Xm5 0 rfl (Xm7 rfl) gn rfl ?_
 obtain ⟨r9,hv10,h⟩:=h
 refine Xmw 1 rfl (Xne [.slice A2 n3 c4] rfl Try.func17 rfl rfl rfl fun w6 hL7=>?_) gn
 have hp8:=pmI hL7 .n .n (by kernel_rfl)
 refine Calls.mono (Xt5 w6 (Fl ([]:List Xmp)) x1 A2 n3 c4 (Rw.mono h5 (hL7.toSt hp8 (me 1 rfl))) (hL7.hFl hp8 (Xms [] rfl)) (hL7.into hp8 _) r9 hv10) ?_
 rintro _ w16 ⟨A11,n12,c13,rfl,hM17,h14⟩
 have hL18:=hL7.call hp8 hM17
 refine ⟨_,_,_,rfl,hL18,?_⟩
 refine Xm5 2 rfl (Xm9 rfl) gn rfl<|Xmc 3 rfl<|Xmb rfl<|Xm8 rfl rfl<|Xm5 0 rfl (Xm7 rfl) gn rfl<|Xm5 1 rfl (Xr0 #[.string (⟨#[]⟩:ByteArray),.bool false,.string (⟨#[]⟩:ByteArray),.int .i64 0,.int .i64 0,.int .i64 (-71),.int .i64 0] Ybz rfl (by kernel_rfl)) gn rfl<|Xm5 2 rfl (Xr0 #[.string (⟨#[]⟩:ByteArray),.bool false,.string (⟨#[]⟩:ByteArray),.int .i64 0,.int .i64 0,.int .i64 (-72),.int .i64 0] Ybz rfl (by kernel_rfl)) gn rfl ?_
 refine Xmw 3 rfl (Xqd (xs:=([(⟨(⟨#[]⟩:ByteArray),false,(⟨#[]⟩:ByteArray),0,0,-71,0⟩:Xm4),(⟨(⟨#[]⟩:ByteArray),false,(⟨#[]⟩:ByteArray),0,0,-72,0⟩:Xm4)]:List Xm4)) [.string (⟨#[]⟩:ByteArray),.bool false,.string (⟨#[]⟩:ByteArray),.int .i64 0,.int .i64 0,.int .i64 (-71),.int .i64 0,.string (⟨#[]⟩:ByteArray),.bool false,.string (⟨#[]⟩:ByteArray),.int .i64 0,.int .i64 0,.int .i64 (-72),.int .i64 0] bs_22_2 rfl (by kernel_rfl) rfl rfl rfl rfl fun gb20 h21=>?_) gn
 obtain ⟨x25,hv26,h⟩:=h
 obtain ⟨hb27,h⟩:=h
 refine Xmw 4 rfl (Xrg (zs:=x25) (cells':=x25.flatMap Xme) 1 Xyz rfl rfl rfl (Ow.weak hL7.env.size h14) (Nat.le_refl _) (Src.ownF (hl:=Xmv) (h1:=Xna) 0 rfl h21) (by rw [hv26,List.flatMap_append] <;> rfl) (Xok hv26 h21.hq) hb27 rfl rfl fun A22 c23 h24=>?_) gn
 refine Xm5 5 rfl (Xm9 rfl) gn rfl<|Xmc 6 rfl<|Xmb rfl<|Xm8 rfl rfl<|Xm5 0 rfl (Xm7 rfl) gn rfl<|Xm5 1 rfl (Xm7 rfl) gn rfl<|Xm5 2 rfl (Xmm Xsc rfl h5.hq) gn rfl ?_
 obtain ⟨hb28,h⟩:=h
 have hle29:((x1.length:Int):Int).toNat≤n12 + 2:=by have q:=hb28; have q1:=h24.hq; omega
 refine Xm5 3 rfl (Xuf (i:=(x1.length:Int)) Xqi rfl rfl (by have q:=hb28; have q1:=h24.hq; have q2:=h24.hn; omega) h24.hn rfl) gn rfl<|Xm5 4 rfl (Xm9 rfl) gn rfl<|Xmc 5 rfl ?_
 refine Xmt [.slice A22 (((x1.length:Int):Int).toNat) c23] rfl Try.func11 rfl (.tmp rfl (.nil)) fun wr hLr=>?_
 have hMr:=hLr.pkI (.c 1 rfl .n) (.c 0 rfl .n) (by kernel_rfl) (.c 1 rfl .n)
 show Xs9 w F  r (.returned (Xmz [.slice A22 (((x1.length:Int):Int).toNat) c23])) wr
 rw [h]
 exact ⟨A22,n12 + 2,c23,rfl,hMr,h24,hle29⟩
noncomputable abbrev q44c3:=Code.fst (Code.snd (Xnv Try.f44))
noncomputable abbrev q44c4:=Code.snd (Code.snd (Xnv Try.f44))
noncomputable abbrev Xxb:=Code.snd (Code.snd q44c4)
noncomputable abbrev Xsl:=Code.fst (Code.fst (Code.snd (Code.fst (Code.snd q44c4))))
noncomputable abbrev Xyg:=Code.snd (Code.snd (Code.snd Xsl))
noncomputable abbrev Yek:=Code.snd (Code.snd (Code.snd (Code.fst (Code.fst (Code.snd (Code.snd Xsl))))))
noncomputable abbrev q44c40:=Code.fst (Code.snd Yek)
noncomputable abbrev q44c41:=Code.snd (Code.snd Yek)
noncomputable abbrev Xxe:=Code.fst (Code.fst q44c41)
noncomputable abbrev q44c51:=Code.fst (Code.fst (Code.snd Xxe))
noncomputable abbrev q44c52:=Code.snd (Code.fst (Code.snd Xxe))
noncomputable abbrev q44c57:=Code.fst (Code.fst (Code.snd (Code.fst (Code.snd (Code.snd (Code.fst (Code.fst (Code.snd (Code.snd Xsl)))))))))
abbrev Xuk (w:World) (F:Nat→Prop) (r:Xnu):Ending→World→Prop:=fun e w'=>∃ A1:Option Addr,∃ n1:Nat,∃ c1:Nat,∃ A2:Option Addr,∃ n2:Nat,∃ c2:Nat,∃ A0:Option Addr,∃ n0:Nat,∃ c0:Nat,e=.returned (.agg #[.slice A0 n0 c0,.slice A1 n1 c1,.slice A2 n2 c2,.bool r.ok])∧B.Loc w w' [.own (.slice A1 n1 c1) 3 1 n1 (r.parent.flatMap (eI .i64)),.own (.slice A2 n2 c2) 3 1 n2 (r.end_.flatMap (eI .i64))] [St w []]∧Ow w.heap.size A1 n1 c1 r.parent∧Ow w.heap.size A2 n2 c2 r.end_∧Rw Xmo w' (Nw w w' F [.own (.slice A1 n1 c1) 3 1 n1 (r.parent.flatMap (eI .i64)),.own (.slice A2 n2 c2) 3 1 n2 (r.end_.flatMap (eI .i64))]) A0 n0 c0 r.nodes
noncomputable abbrev Xpz (w:World) (F:Nat→Prop) (r:Xnu):Cx:=⟨Try.prog,44,Try.f44,100,Xuk w F  r,w⟩
theorem Xw8 (w:World) (F:Nat→Prop) (x1:List Xm4) (A2:Option Addr) (n3:Nat) (c4:Nat) (h5:Rw Xmo w F A2 n3 c4 x1) (hF:∀ b,F b→b < w.heap.size∧∀ o ∈ ([]:List (List Nat)),b ∉ o) (hL0:B.Loc w w [] [Sm w.heap.size F w [],St w []]) (r:Xnu) (h:Xtn x1 r):Calls Try.prog 44 #[.slice A2 n3 c4] w (Xuk w F  r):=by
 unfold Xtn at h
 have h5:=Rw.into (bs:=[]) hF h5
 refine Xmq (vs:=[.slice A2 n3 c4]) 100 Try.func44 rfl Try.ntmps44 rfl hL0 ?_
 show G (Xpz w F r) _ _ _ _
 refine Xmb rfl<|Xm8 rfl rfl ?_
 refine Xmw 0 rfl (Xpf [.slice none 0 0,.slice none 0 0,.slice none 0 0,.bool false] Yb2 rfl fun gb6=>?_) gn
 refine Xmc 1 rfl<|Xmb rfl ?_
 obtain ⟨hb8,h⟩:=h
 obtain ⟨x12,hv13,h⟩:=h
 obtain ⟨x17,hv18,h⟩:=h
 have d1:∀ (gb76:Nat) (A77:Option Addr) (n78:Nat) (c79:Nat) (h80:Ow w.heap.size A77 n78 c79 x12) (A81:Option Addr) (n82:Nat) (c83:Nat) (h84:Ow w.heap.size A81 n82 c83 x17),G (Xpz w F r) [.code q44c4] [(0,.slice A2 n3 c4),(2,.pointer (some ⟨gb6,0,none⟩)),(3,.pointer (some ⟨gb76,0,none⟩))] [.box gb76 32 [.slice A2 n3 c4,.slice A77 n78 c79,.slice A81 n82 c83,.bool false],.own (.slice A81 n82 c83) 3 1 n82 (x17.flatMap (eI .i64)),.own (.slice A77 n78 c79) 3 1 n78 (x12.flatMap (eI .i64)),.box gb6 32 [.slice none 0 0,.slice none 0 0,.slice none 0 0,.bool false]] [Sm w.heap.size F w [],St w []]:=by
  intro gb76 A77 n78 c79 h80 A81 n82 c83 h84
  refine Xmb rfl<|Xm8 rfl rfl<|Xm5 0 rfl (Xm9 rfl) gn rfl<|Xm5 1 rfl (Xm9 rfl) gn rfl<|Xmc 2 rfl<|Xmb rfl<|Xmb rfl<|Xm8 rfl rfl<|Xm5 0 rfl (Xm7 rfl) gn rfl<|Xm5 1 rfl (Xmm Xsc rfl h5.hq) gn rfl<|Xm5 2 rfl (Xm7 rfl) gn rfl<|Xmc 3 rfl ?_
  refine Xn8 rfl<|Xqz rfl ?_
  have key1:∀ s,Xmh (fun (s:(List Int) × (List Int) × Int × (List Int) × (List Int)) o=>Xph x1 s.1 s.2.1 s.2.2.1 s.2.2.2.1 s.2.2.2.2 o) s r→(fun (s:(List Int) × (List Int) × Int × (List Int) × (List Int))=>∀ (A346:Option Addr) (n347:Nat) (c348:Nat) (h349:Ow w.heap.size A346 n347 c348 s.1) (A351:Option Addr) (n352:Nat) (c353:Nat) (h354:Ow w.heap.size A351 n352 c353 s.2.1) (h357:Ow w.heap.size A77 n78 c79 s.2.2.2.1) (h359:Ow w.heap.size A81 n82 c83 s.2.2.2.2),G (Xpz w F r) [.code Xsl,.inLoop Xsl,.inBlock 0,.code Xxb] [(2,.pointer (some ⟨gb6,0,none⟩)),(3,.pointer (some ⟨gb76,0,none⟩)),(4,.slice A346 n347 c348),(5,.slice A351 n352 c353),(16,.slice A2 n3 c4),(17,.int .i64 (x1.length:Int)),(18,.int .i64 s.2.2.1)] [.own (.slice A346 n347 c348) 3 1 n347 (s.1.flatMap (eI .i64)),.own (.slice A351 n352 c353) 3 1 n352 (s.2.1.flatMap (eI .i64)),.box gb76 32 [.slice A2 n3 c4,.slice A77 n78 c79,.slice A81 n82 c83,.bool false],.own (.slice A81 n82 c83) 3 1 n82 (s.2.2.2.2.flatMap (eI .i64)),.own (.slice A77 n78 c79) 3 1 n78 (s.2.2.2.1.flatMap (eI .i64)),.box gb6 32 [.slice none 0 0,.slice none 0 0,.slice none 0 0,.bool false]] [Sm w.heap.size F w [],St w []]) s:=by
   intro s hs
   refine Xmh.ind (mot:=(fun (s:(List Int) × (List Int) × Int × (List Int) × (List Int))=>∀ (A346:Option Addr) (n347:Nat) (c348:Nat) (h349:Ow w.heap.size A346 n347 c348 s.1) (A351:Option Addr) (n352:Nat) (c353:Nat) (h354:Ow w.heap.size A351 n352 c353 s.2.1) (h357:Ow w.heap.size A77 n78 c79 s.2.2.2.1) (h359:Ow w.heap.size A81 n82 c83 s.2.2.2.2),G (Xpz w F r) [.code Xsl,.inLoop Xsl,.inBlock 0,.code Xxb] [(2,.pointer (some ⟨gb6,0,none⟩)),(3,.pointer (some ⟨gb76,0,none⟩)),(4,.slice A346 n347 c348),(5,.slice A351 n352 c353),(16,.slice A2 n3 c4),(17,.int .i64 (x1.length:Int)),(18,.int .i64 s.2.2.1)] [.own (.slice A346 n347 c348) 3 1 n347 (s.1.flatMap (eI .i64)),.own (.slice A351 n352 c353) 3 1 n352 (s.2.1.flatMap (eI .i64)),.box gb76 32 [.slice A2 n3 c4,.slice A77 n78 c79,.slice A81 n82 c83,.bool false],.own (.slice A81 n82 c83) 3 1 n82 (s.2.2.2.2.flatMap (eI .i64)),.own (.slice A77 n78 c79) 3 1 n78 (s.2.2.2.1.flatMap (eI .i64)),.box gb6 32 [.slice none 0 0,.slice none 0 0,.slice none 0 0,.bool false]] [Sm w.heap.size F w [],St w []])) ?_ hs
   clear hs s
   intro s o1 h hO1
   obtain ⟨x345,x350,x355,x356,x358⟩:=s
   show ∀ (A346:Option Addr) (n347:Nat) (c348:Nat) (h349:Ow w.heap.size A346 n347 c348 x345) (A351:Option Addr) (n352:Nat) (c353:Nat) (h354:Ow w.heap.size A351 n352 c353 x350) (h357:Ow w.heap.size A77 n78 c79 x356) (h359:Ow w.heap.size A81 n82 c83 x358),G (Xpz w F r) [.code Xsl,.inLoop Xsl,.inBlock 0,.code Xxb] [(2,.pointer (some ⟨gb6,0,none⟩)),(3,.pointer (some ⟨gb76,0,none⟩)),(4,.slice A346 n347 c348),(5,.slice A351 n352 c353),(16,.slice A2 n3 c4),(17,.int .i64 (x1.length:Int)),(18,.int .i64 x355)] [.own (.slice A346 n347 c348) 3 1 n347 (x345.flatMap (eI .i64)),.own (.slice A351 n352 c353) 3 1 n352 (x350.flatMap (eI .i64)),.box gb76 32 [.slice A2 n3 c4,.slice A77 n78 c79,.slice A81 n82 c83,.bool false],.own (.slice A81 n82 c83) 3 1 n82 (x358.flatMap (eI .i64)),.own (.slice A77 n78 c79) 3 1 n78 (x356.flatMap (eI .i64)),.box gb6 32 [.slice none 0 0,.slice none 0 0,.slice none 0 0,.bool false]] [Sm w.heap.size F w [],St w []]
   intro A346 n347 c348 h349 A351 n352 c353 h354 h357 h359
   have h:Xph x1 x345 x350 x355 x356 x358 o1:=h
   unfold Xph at h
   refine Xmb rfl<|Xm8 rfl rfl<|Xm5 0 rfl (Xmk rfl rfl rfl) gn rfl<|Xmc 1 rfl<|Xmb rfl ?_
   by_cases hp630:x355 < (x1.length:Int)
   ·have h:=Xmf hp630 h
    refine Xmy rfl _ rfl ((decide_eq_true hp630))<|Xn1 rfl<|Xmb rfl<|Xn8 rfl<|Xmb rfl<|Xm8 rfl rfl<|Xm5 0 rfl (Xm7 rfl) gn rfl ?_
    obtain ⟨hb631,h⟩:=h
    have hr632:=Rw.readF (s:=Sm w.heap.size F w []) (hl:=Xmv) (h1:=Xna) h5 hb631
    refine Xm5 1 rfl (Xn4 (s:=Sm w.heap.size F w []) Xqi rfl rfl h5 hb631) gn rfl<|Xm5 2 rfl (Xx1 (Sm w.heap.size F w []) Xy1 rfl hr632 rfl (me 0 rfl)) gn rfl ?_
    refine Xmw 3 rfl (Xpf [.string (⟨#[]⟩:ByteArray),.bool false,.string (⟨#[]⟩:ByteArray),.int .i64 0,.int .i64 0,.int .i64 0,.int .i64 0] zr_39 rfl fun gb633=>?_) gn
    refine Xm5 4 rfl (Xm9 rfl) gn rfl ?_
    refine Xmw 5 rfl (Xpk (vs:=[.string ((ix x1 x355).name),.bool ((ix x1 x355).named),.string ((ix x1 x355).field),.int .i64 ((ix x1 x355).from_),.int .i64 ((ix x1 x355).to),.int .i64 ((ix x1 x355).kids),.int .i64 ((ix x1 x355).leaf)]) (cs':=[.string ((ix x1 x355).name),.bool ((ix x1 x355).named),.string ((ix x1 x355).field),.int .i64 ((ix x1 x355).from_),.int .i64 ((ix x1 x355).to),.int .i64 ((ix x1 x355).kids),.int .i64 ((ix x1 x355).leaf)]) (M':=[.box gb633 39 [.string ((ix x1 x355).name),.bool ((ix x1 x355).named),.string ((ix x1 x355).field),.int .i64 ((ix x1 x355).from_),.int .i64 ((ix x1 x355).to),.int .i64 ((ix x1 x355).kids),.int .i64 ((ix x1 x355).leaf)],.own (.slice A346 n347 c348) 3 1 n347 (x345.flatMap (eI .i64)),.own (.slice A351 n352 c353) 3 1 n352 (x350.flatMap (eI .i64)),.box gb76 32 [.slice A2 n3 c4,.slice A77 n78 c79,.slice A81 n82 c83,.bool false],.own (.slice A81 n82 c83) 3 1 n82 (x358.flatMap (eI .i64)),.own (.slice A77 n78 c79) 3 1 n78 (x356.flatMap (eI .i64)),.box gb6 32 [.slice none 0 0,.slice none 0 0,.slice none 0 0,.bool false]]) 0 sz_39 rfl rfl rfl rfl rfl rfl rfl rfl rfl ?_) gn
    refine Xmc 6 rfl<|Xmb rfl<|Xm8 rfl rfl<|Xm5 0 rfl (Xmj Yex rfl) gn rfl<|Xm5 1 rfl (Xmx 3 ld_23 rfl rfl rfl) gn rfl<|Xm5 2 rfl (Xm7 rfl) gn rfl ?_
    obtain ⟨hb635,h⟩:=h
    refine Xm5 3 rfl (Xp3 Xpg rfl rfl h357 hb635) gn rfl ?_
    obtain ⟨x636,hv637,h⟩:=h
    refine Xmw 4 rfl (Xx4 (enc:=(eI .i64)) (o:=0) (z:=(-1)) (vs:=[.int .i64 (-1)]) (i:=x355) 5 (hlI .i64) Yaa rfl rfl rfl rfl rfl h357 hb635 rfl rfl rfl hv637 fun h638=>?_) gn
    refine Xmc 5 rfl<|Xmb rfl<|Xmb rfl<|Xm8 rfl rfl<|Xm5 0 rfl (Xm7 rfl) gn rfl<|Xm5 1 rfl (Xmm Xqp rfl h349.hq) gn rfl<|Xm5 2 rfl (Xmk rfl rfl rfl) gn rfl<|Xmc 3 rfl ?_
    have j2:∀ (x652:List Int) (x654:List Int) (h:Xp5 x1 x355 x358 x345 x652 x654 o1) (h653:Ow w.heap.size A351 n352 c353 x652) (h655:Ow w.heap.size A77 n78 c79 x654),G (Xpz w F r) [.code Yek,.inBlock 1,.code Xyg,.inLoop Xsl,.inBlock 0,.code Xxb] [(2,.pointer (some ⟨gb6,0,none⟩)),(3,.pointer (some ⟨gb76,0,none⟩)),(4,.slice A346 n347 c348),(5,.slice A351 n352 c353),(6,.int .i64 x355),(7,.pointer (some ⟨gb633,0,none⟩)),(16,.slice A2 n3 c4),(17,.int .i64 (x1.length:Int)),(18,.int .i64 x355)] [.box gb633 39 [.string ((ix x1 x355).name),.bool ((ix x1 x355).named),.string ((ix x1 x355).field),.int .i64 ((ix x1 x355).from_),.int .i64 ((ix x1 x355).to),.int .i64 ((ix x1 x355).kids),.int .i64 ((ix x1 x355).leaf)],.own (.slice A346 n347 c348) 3 1 n347 (x345.flatMap (eI .i64)),.own (.slice A351 n352 c353) 3 1 n352 (x652.flatMap (eI .i64)),.box gb76 32 [.slice A2 n3 c4,.slice A77 n78 c79,.slice A81 n82 c83,.bool false],.own (.slice A81 n82 c83) 3 1 n82 (x358.flatMap (eI .i64)),.own (.slice A77 n78 c79) 3 1 n78 (x654.flatMap (eI .i64)),.box gb6 32 [.slice none 0 0,.slice none 0 0,.slice none 0 0,.bool false]] [Sm w.heap.size F w [],St w []]:=by
     intro x652 x654 h h653 h655
     unfold Xp5 at h
     refine Xmb rfl<|Xmb rfl<|Xm8 rfl rfl<|Xm5 0 rfl (Xmj Xsf rfl) gn rfl<|Xm5 1 rfl (Xmx 0 Xql rfl rfl rfl) gn rfl<|Xm5 2 rfl (Xmk rfl rfl rfl) gn rfl<|Xmc 3 rfl ?_
     by_cases hp656:(ix x1 x355).kids < 0
     ·have h:=Xmf hp656 h
      refine Xmy rfl _ rfl ((decide_eq_true hp656))<|Xmb rfl<|Xm8 rfl rfl<|Xm5 0 rfl (Xq7 [.slice A2 n3 c4,.slice A77 n78 c79,.slice A81 n82 c83,.bool false] 3 Yd7 rfl rfl rfl rfl) gn rfl ?_
      refine Xmw 1 rfl (Xpk (vs:=[.slice A2 n3 c4,.slice A77 n78 c79,.slice A81 n82 c83,.bool false]) (cs':=[.slice A2 n3 c4,.slice A77 n78 c79,.slice A81 n82 c83,.bool false]) (M':=[.box gb633 39 [.string ((ix x1 x355).name),.bool ((ix x1 x355).named),.string ((ix x1 x355).field),.int .i64 ((ix x1 x355).from_),.int .i64 ((ix x1 x355).to),.int .i64 ((ix x1 x355).kids),.int .i64 ((ix x1 x355).leaf)],.own (.slice A346 n347 c348) 3 1 n347 (x345.flatMap (eI .i64)),.own (.slice A351 n352 c353) 3 1 n352 (x652.flatMap (eI .i64)),.box gb76 32 [.slice A2 n3 c4,.slice A77 n78 c79,.slice A81 n82 c83,.bool false],.own (.slice A81 n82 c83) 3 1 n82 (x358.flatMap (eI .i64)),.own (.slice A77 n78 c79) 3 1 n78 (x654.flatMap (eI .i64)),.box gb6 32 [.slice A2 n3 c4,.slice A77 n78 c79,.slice A81 n82 c83,.bool false]]) 6 Xyl rfl rfl rfl rfl rfl rfl rfl rfl rfl ?_) gn
      refine Xmc 2 rfl ?_
      have h:=Out.inr hO1 h
      refine Xmt [.agg #[.slice A2 n3 c4,.slice A77 n78 c79,.slice A81 n82 c83,.bool false]] rfl Try.func44 rfl (.cell (cs:=[.slice A2 n3 c4,.slice A77 n78 c79,.slice A81 n82 c83,.bool false]) (us:=[.slice A2 n3 c4,.slice A77 n78 c79,.slice A81 n82 c83,.bool false]) 6 rfl Yd7 rfl rfl rfl (.nil)) fun wr hLr=>?_
      have hMr:=hLr.pkI (.c 5 rfl (.c 4 rfl .n)) (.c 0 rfl (.c 1 rfl (.c 2 rfl (.c 3 rfl (.c 6 rfl .n))))) (by kernel_rfl) (.c 1 rfl .n)
      have hMi:=hLr.selI (.c 5 rfl (.c 4 rfl .n))
      show Xuk w F  r (.returned (Xmz [.agg #[.slice A2 n3 c4,.slice A77 n78 c79,.slice A81 n82 c83,.bool false]])) wr
      rw [h]
      exact ⟨A77,n78,c79,A81,n82,c83,A2,n3,c4,rfl,hMr,h655,h359,(hLr.outR (s:=Sm w.heap.size F w []) hMi (me 0 rfl) Sm.ok h5)⟩
     ·have h:=Xmg hp656 h
      refine Xmr rfl _ rfl ((decide_eq_false hp656))<|Xn1 rfl<|Xmb rfl ?_
      obtain ⟨x663,hv664,h⟩:=h
      obtain ⟨hb665,h⟩:=h
      obtain ⟨x672,hv673,h⟩:=h
      obtain ⟨hb674,h⟩:=h
      have d4:∀ (A729:Option Addr) (n730:Nat) (c731:Nat) (h732:Ow w.heap.size A729 n730 c731 x663) (A733:Option Addr) (n734:Nat) (c735:Nat) (h736:Ow w.heap.size A733 n734 c735 x672),G (Xpz w F r) [.code q44c41,.inBlock 1,.code Xyg,.inLoop Xsl,.inBlock 0,.code Xxb] [(2,.pointer (some ⟨gb6,0,none⟩)),(3,.pointer (some ⟨gb76,0,none⟩)),(4,.slice A729 n730 c731),(5,.slice A733 n734 c735),(6,.int .i64 x355),(16,.slice A2 n3 c4),(17,.int .i64 (x1.length:Int)),(18,.int .i64 x355)] [.own (.slice A729 n730 c731) 3 1 n730 (x663.flatMap (eI .i64)),.own (.slice A733 n734 c735) 3 1 n734 (x672.flatMap (eI .i64)),.box gb76 32 [.slice A2 n3 c4,.slice A77 n78 c79,.slice A81 n82 c83,.bool false],.own (.slice A81 n82 c83) 3 1 n82 (x358.flatMap (eI .i64)),.own (.slice A77 n78 c79) 3 1 n78 (x654.flatMap (eI .i64)),.box gb6 32 [.slice none 0 0,.slice none 0 0,.slice none 0 0,.bool false]] [Sm w.heap.size F w [],St w []]:=by
       intro A729 n730 c731 h732 A733 n734 c735 h736
       refine Xn8 rfl<|Xqz rfl ?_
       have key3:∀ s,Xmh (fun (s:(List Int) × (List Int) × (List Int)) o=>Xp4 x355 x654 s.1 s.2.1 s.2.2 o) s o1→(fun (s:(List Int) × (List Int) × (List Int))=>∀ (A767:Option Addr) (n768:Nat) (c769:Nat) (h770:Ow w.heap.size A767 n768 c769 s.1) (A772:Option Addr) (n773:Nat) (c774:Nat) (h775:Ow w.heap.size A772 n773 c774 s.2.1) (h777:Ow w.heap.size A81 n82 c83 s.2.2),G (Xpz w F r) [.code Xxe,.inLoop Xxe,.inBlock 2,.inBlock 1,.code Xyg,.inLoop Xsl,.inBlock 0,.code Xxb] [(2,.pointer (some ⟨gb6,0,none⟩)),(3,.pointer (some ⟨gb76,0,none⟩)),(4,.slice A767 n768 c769),(5,.slice A772 n773 c774),(6,.int .i64 x355),(16,.slice A2 n3 c4),(17,.int .i64 (x1.length:Int)),(18,.int .i64 x355)] [.own (.slice A767 n768 c769) 3 1 n768 (s.1.flatMap (eI .i64)),.own (.slice A772 n773 c774) 3 1 n773 (s.2.1.flatMap (eI .i64)),.box gb76 32 [.slice A2 n3 c4,.slice A77 n78 c79,.slice A81 n82 c83,.bool false],.own (.slice A81 n82 c83) 3 1 n82 (s.2.2.flatMap (eI .i64)),.own (.slice A77 n78 c79) 3 1 n78 (x654.flatMap (eI .i64)),.box gb6 32 [.slice none 0 0,.slice none 0 0,.slice none 0 0,.bool false]] [Sm w.heap.size F w [],St w []]) s:=by
        intro s hs
        refine Xmh.ind (mot:=(fun (s:(List Int) × (List Int) × (List Int))=>∀ (A767:Option Addr) (n768:Nat) (c769:Nat) (h770:Ow w.heap.size A767 n768 c769 s.1) (A772:Option Addr) (n773:Nat) (c774:Nat) (h775:Ow w.heap.size A772 n773 c774 s.2.1) (h777:Ow w.heap.size A81 n82 c83 s.2.2),G (Xpz w F r) [.code Xxe,.inLoop Xxe,.inBlock 2,.inBlock 1,.code Xyg,.inLoop Xsl,.inBlock 0,.code Xxb] [(2,.pointer (some ⟨gb6,0,none⟩)),(3,.pointer (some ⟨gb76,0,none⟩)),(4,.slice A767 n768 c769),(5,.slice A772 n773 c774),(6,.int .i64 x355),(16,.slice A2 n3 c4),(17,.int .i64 (x1.length:Int)),(18,.int .i64 x355)] [.own (.slice A767 n768 c769) 3 1 n768 (s.1.flatMap (eI .i64)),.own (.slice A772 n773 c774) 3 1 n773 (s.2.1.flatMap (eI .i64)),.box gb76 32 [.slice A2 n3 c4,.slice A77 n78 c79,.slice A81 n82 c83,.bool false],.own (.slice A81 n82 c83) 3 1 n82 (s.2.2.flatMap (eI .i64)),.own (.slice A77 n78 c79) 3 1 n78 (x654.flatMap (eI .i64)),.box gb6 32 [.slice none 0 0,.slice none 0 0,.slice none 0 0,.bool false]] [Sm w.heap.size F w [],St w []])) ?_ hs
        clear hs s
        intro s o2 h hO2
        obtain ⟨x766,x771,x776⟩:=s
        show ∀ (A767:Option Addr) (n768:Nat) (c769:Nat) (h770:Ow w.heap.size A767 n768 c769 x766) (A772:Option Addr) (n773:Nat) (c774:Nat) (h775:Ow w.heap.size A772 n773 c774 x771) (h777:Ow w.heap.size A81 n82 c83 x776),G (Xpz w F r) [.code Xxe,.inLoop Xxe,.inBlock 2,.inBlock 1,.code Xyg,.inLoop Xsl,.inBlock 0,.code Xxb] [(2,.pointer (some ⟨gb6,0,none⟩)),(3,.pointer (some ⟨gb76,0,none⟩)),(4,.slice A767 n768 c769),(5,.slice A772 n773 c774),(6,.int .i64 x355),(16,.slice A2 n3 c4),(17,.int .i64 (x1.length:Int)),(18,.int .i64 x355)] [.own (.slice A767 n768 c769) 3 1 n768 (x766.flatMap (eI .i64)),.own (.slice A772 n773 c774) 3 1 n773 (x771.flatMap (eI .i64)),.box gb76 32 [.slice A2 n3 c4,.slice A77 n78 c79,.slice A81 n82 c83,.bool false],.own (.slice A81 n82 c83) 3 1 n82 (x776.flatMap (eI .i64)),.own (.slice A77 n78 c79) 3 1 n78 (x654.flatMap (eI .i64)),.box gb6 32 [.slice none 0 0,.slice none 0 0,.slice none 0 0,.bool false]] [Sm w.heap.size F w [],St w []]
        intro A767 n768 c769 h770 A772 n773 c774 h775 h777
        have h:Xp4 x355 x654 x766 x771 x776 o2:=h
        unfold Xp4 at h
        refine Xmb rfl<|Xmb rfl<|Xm8 rfl rfl<|Xm5 0 rfl (Xm7 rfl) gn rfl<|Xm5 1 rfl (Xmm Xqp rfl h770.hq) gn rfl<|Xm5 2 rfl (Xmk rfl rfl rfl) gn rfl<|Xm5 3 rfl (Xm7 rfl) gn rfl ?_
        by_cases hp806:(x766.length:Int) > 0
        ·have h:=Xmf hp806 h
         refine Xn6 64 rfl ((decide_eq_true hp806))<|Xm5 4 rfl (Xm7 rfl) (gy 64 rfl rfl) rfl<|Xm5 5 rfl (Xm7 rfl) (gy 64 rfl rfl) rfl<|Xm5 6 rfl (Xmm Xqp rfl h775.hq) (gy 64 rfl rfl) rfl<|Xm5 7 rfl (Xmk rfl rfl rfl) (gy 64 rfl rfl) rfl ?_
         obtain ⟨hb807,h⟩:=h
         refine Xm5 8 rfl (Xp3 Xpg rfl rfl h775 hb807) (gy 64 rfl rfl) rfl<|Xm5 9 rfl (Xs3 (.int .i64 (ix x771 (w64 ((x771.length:Int) - 1)))) 1 Xql rfl rfl (Xtv (hlI .i64) hb807 rfl)) (gy 64 rfl rfl) rfl<|Xm5 10 rfl (Xmk rfl rfl rfl) (gy 64 rfl rfl) rfl<|Xm5 11 rfl (Xmn (b:=true) rfl rfl) gn rfl<|Xmc 12 rfl ?_
         by_cases hp808:ix x771 (w64 ((x771.length:Int) - 1))=0
         ·have h:=Xmf hp808 h
          refine Xmy rfl _ rfl ((eqi hp808))<|Xn1 rfl<|Xn8 rfl<|Xmb rfl ?_
          obtain ⟨hb809,h⟩:=h
          obtain ⟨hb810,h⟩:=h
          obtain ⟨x811,hv812,h⟩:=h
          have hns:Region.noSelect (Code.ops q44c51)=true:=by kernel_rfl
          refine Xpl [11] 12 rfl rfl mix rfl (.c 0 rfl (.c 1 rfl .n))<|wfv 0 rfl (Xmj Yfb rfl) gn hns (by kernel_rfl)<|wfv 1 rfl (Xmx 2 ld_23 rfl rfl rfl) gn hns (by kernel_rfl)<|wfv 2 rfl (Xm7 rfl) gn hns (by kernel_rfl)<|wfv 3 rfl (Xm7 rfl) gn hns (by kernel_rfl)<|wfv 4 rfl (Xmm Xqp rfl h770.hq) gn hns (by kernel_rfl)<|wfv 5 rfl (Xmk rfl rfl rfl) gn hns (by kernel_rfl)<|wfv 6 rfl (Xp3 Xpg rfl rfl h770 hb809) gn hns (by kernel_rfl)<|wfv 7 rfl (Xs3 (.int .i64 (ix x766 (w64 ((x766.length:Int) - 1)))) 0 Xql rfl rfl (Xtv (hlI .i64) hb809 rfl)) gn hns (by kernel_rfl)<|wfv 8 rfl (Xm7 rfl) gn hns (by kernel_rfl)<|wfv 9 rfl (Xmk rfl rfl rfl) gn hns (by kernel_rfl)<|wfv 10 rfl (Xp3 Xpg rfl rfl h777 hb810) gn hns (by kernel_rfl) ?_
          refine Xn9 [11] (by kernel_rfl) rfl ⟨Xy8 11 rfl gn rfl (Xx4 (enc:=(eI .i64)) (o:=0) (z:=(w64 (x355 + 1))) (vs:=[.int .i64 (w64 (x355 + 1))]) (i:=(ix x766 (w64 ((x766.length:Int) - 1)))) 3 (hlI .i64) Yaa rfl rfl rfl rfl rfl h777 hb810 rfl rfl rfl hv812 fun h815=>?_),trivial⟩
          unfold NxL
          refine Xox (by kernel_rfl) ?_
          obtain ⟨hb816,h⟩:=h
          obtain ⟨x818,hv819,h⟩:=h
          obtain ⟨hb821,h⟩:=h
          obtain ⟨x823,hv824,h⟩:=h
          have hns:Region.noSelect (Code.ops q44c52)=true:=by kernel_rfl
          refine Xpl [] 12 rfl rfl mix rfl (.c 0 rfl (.c 1 rfl .n))<|wfv 0 rfl (Xm7 rfl) gn hns rfl<|wfv 1 rfl (Xm7 rfl) gn hns rfl<|wfv 2 rfl (Xmm Xqp rfl h770.hq) gn hns rfl<|wfv 3 rfl (Xmk rfl rfl rfl) gn hns rfl ?_
          have hle830:(w64 ((x766.length:Int) - 1):Int).toNat≤n768:=by have q:=hb816; have q1:=h770.hq; omega
          have h831:Ow w.heap.size A767 (w64 ((x766.length:Int) - 1):Int).toNat c769 x818:=Ow.w (Ow.cut h770 hle830) (by rw [hv819])
          refine wfv 4 rfl (Xuf (i:=w64 ((x766.length:Int) - 1)) Xpg rfl rfl (by have q:=hb816; have q1:=h770.hq; have q2:=h770.hn; omega) h770.hn rfl) gn hns rfl<|wfv 5 rfl (Xm7 rfl) gn hns rfl<|wfv 6 rfl (Xm7 rfl) gn hns rfl<|wfv 7 rfl (Xmm Xqp rfl h775.hq) gn hns rfl<|wfv 8 rfl (Xmk rfl rfl rfl) gn hns rfl ?_
          have hle832:(w64 ((x771.length:Int) - 1):Int).toNat≤n773:=by have q:=hb821; have q1:=h775.hq; omega
          have h833:Ow w.heap.size A772 (w64 ((x771.length:Int) - 1):Int).toNat c774 x823:=Ow.w (Ow.cut h775 hle832) (by rw [hv824])
          refine wfv 9 rfl (Xuf (i:=w64 ((x771.length:Int) - 1)) Xpg rfl rfl (by have q:=hb821; have q1:=h775.hq; have q2:=h775.hn; omega) h775.hn rfl) gn hns rfl<|wfv 10 rfl (Xm9 rfl) gn hns rfl<|wfv 11 rfl (Xm9 rfl) gn hns rfl<|Xox (by kernel_rfl)<|Xnh<|Xo7 ?_
          have h834:Ow w.heap.size A767 ((w64 ((x766.length:Int) - 1):Int).toNat) c769 x818:=(Ow.w (Ow.cut h770 hle830) (by rw [hv819]))
          refine Yck (j:=0) (m:=((w64 ((x766.length:Int) - 1):Int).toNat)) (cells':=x818.flatMap (eI .i64)) rfl hle830 (by rw [Yaf (hlI .i64),hv819]) ?_
          have h835:Ow w.heap.size A772 ((w64 ((x771.length:Int) - 1):Int).toNat) c774 x823:=(Ow.w (Ow.cut h775 hle832) (by rw [hv824]))
          refine Yck (j:=1) (m:=((w64 ((x771.length:Int) - 1):Int).toNat)) (cells':=x823.flatMap (eI .i64)) rfl hle832 (by rw [Yaf (hlI .i64),hv824]) ?_
          have ih:=Out.inl hO2 h
          exact Xnj [0,1] (ih A767 ((w64 ((x766.length:Int) - 1):Int).toNat) c769 h834 A772 ((w64 ((x771.length:Int) - 1):Int).toNat) c774 h835 h815) ⟨rfl,rfl,rfl,rfl,rfl,rfl,rfl,rfl,trivial⟩ (.cons_cons _ (.cons_cons _ (.cons_cons _ (.cons_cons _ (.cons_cons _ (.cons_cons _ (.slnil))))))) rfl
         ·have h:=Xmg hp808 h
          refine Xmr rfl _ rfl ((nei hp808))<|Xqk [.inBlock 1,.code Xyg,.inLoop Xsl,.inBlock 0,.code Xxb] rfl rfl<|Xnh<|Xm8 rfl rfl<|Xm5 0 rfl (Xmk rfl rfl rfl) gn rfl<|Xm5 1 rfl (Xm7 rfl) gn rfl<|Xmc 2 rfl<|Xo7 ?_
          have h:=Out.inr hO2 h
          have ih:=Out.inl hO1 h
          exact Xnj [0,1] (ih A767 n768 c769 h770 A772 n773 c774 h775 h655 h777) ⟨rfl,rfl,rfl,rfl,rfl,rfl,rfl,trivial⟩ (.cons_cons _ (.cons_cons _ (.cons_cons _ (.cons_cons _ (.cons_cons _ (.cons_cons _ (.slnil))))))) rfl
        ·have h:=Xmg hp806 h
         refine Xn6 64 rfl ((decide_eq_false hp806))<|Xma 4 rfl (ps 64 rfl rfl rfl)<|Xma 5 rfl (ps 64 rfl rfl rfl)<|Xma 6 rfl (ps 64 rfl rfl rfl)<|Xma 7 rfl (ps 64 rfl rfl rfl)<|Xma 8 rfl (ps 64 rfl rfl rfl)<|Xma 9 rfl (ps 64 rfl rfl rfl)<|Xma 10 rfl (ps 64 rfl rfl rfl)<|Xm5 11 rfl (Xmn (b:=false) rfl rfl) gn rfl<|Xmc 12 rfl<|Xmr rfl _ rfl (rfl)<|Xqk [.inBlock 1,.code Xyg,.inLoop Xsl,.inBlock 0,.code Xxb] rfl rfl ?_
         refine Xnh<|Xm8 rfl rfl<|Xm5 0 rfl (Xmk rfl rfl rfl) gn rfl<|Xm5 1 rfl (Xm7 rfl) gn rfl<|Xmc 2 rfl<|Xo7 ?_
         have h:=Out.inr hO2 h
         have ih:=Out.inl hO1 h
         exact Xnj [0,1] (ih A767 n768 c769 h770 A772 n773 c774 h775 h655 h777) ⟨rfl,rfl,rfl,rfl,rfl,rfl,rfl,trivial⟩ (.cons_cons _ (.cons_cons _ (.cons_cons _ (.cons_cons _ (.cons_cons _ (.cons_cons _ (.slnil))))))) rfl
       exact Xnj [0,1] (key3 _ h A729 n730 c731 h732 A733 n734 c735 h736 h359) ⟨rfl,rfl,rfl,rfl,rfl,rfl,rfl,rfl,trivial⟩ (.cons_cons _ (.cons_cons _ (.cons_cons _ (.cons_cons _ (.cons_cons _ (.cons_cons _ (.slnil))))))) rfl
      have hns:Region.noSelect (Code.ops q44c40)=true:=by kernel_rfl
      refine Ycw [.box gb633 39 [.string ((ix x1 x355).name),.bool ((ix x1 x355).named),.string ((ix x1 x355).field),.int .i64 ((ix x1 x355).from_),.int .i64 ((ix x1 x355).to),.int .i64 ((ix x1 x355).kids),.int .i64 ((ix x1 x355).leaf)],.own (.slice A351 n352 c353) 3 1 n352 (x652.flatMap (eI .i64)),.box gb76 32 [.slice A2 n3 c4,.slice A77 n78 c79,.slice A81 n82 c83,.bool false],.own (.slice A81 n82 c83) 3 1 n82 (x358.flatMap (eI .i64)),.own (.slice A77 n78 c79) 3 1 n78 (x654.flatMap (eI .i64)),.box gb6 32 [.slice none 0 0,.slice none 0 0,.slice none 0 0,.bool false]] [Sm w.heap.size F w [],St w []] [8,9,10] 11 rfl rfl mix rfl (.cons_cons _ (.cons _ (.cons_cons _ (.cons_cons _ (.cons_cons _ (.cons_cons _ (.cons_cons _ (.slnil)))))))) (Xms [0,1] rfl)<|wfv 0 rfl (Xm7 rfl) gn hns (by kernel_rfl)<|wfv 1 rfl (Xm7 rfl) gn hns (by kernel_rfl)<|wfv 4 rfl (Xm7 rfl) gn hns (by kernel_rfl)<|wfv 5 rfl (Xmj Xsf rfl) gn hns (by kernel_rfl)<|wfv 6 rfl (Xmx 0 Xql rfl rfl rfl) gn hns (by kernel_rfl) ?_
      refine Xn9 [2,7] (by kernel_rfl) rfl ⟨?_,?_,trivial⟩
      ·refine Xqb 2 rfl gn rfl (Xqd (xs := ([x355] : List Int)) [.int .i64 x355] Xve rfl (by kernel_rfl) rfl rfl rfl rfl fun gb846 h847 => ?_)
       refine ⟨Xms [1,3,4,5,6,7] rfl,Xms [0,1] rfl,?_⟩
       refine Xn9 [3,7] (by kernel_rfl) rfl ⟨?_,?_,trivial⟩
       ·refine Xqb 3 rfl gn rfl (Xrg (zs := x663) (cells' := x663.flatMap (eI .i64)) 2 Xx2 rfl rfl rfl h349 (Nat.le_refl _) (Src.ownF (hl := (hlI .i64)) (h1 := (Xow .i64)) 0 rfl h847) (by rw [hv664, List.flatMap_append] <;> rfl) (Xok hv664 h847.hq) hb665 rfl rfl fun A853 c854 h855 => ?_)
        refine ⟨Xms [1,3,4,5,6,7] rfl,Xms [0,1] rfl,?_⟩
        refine Xn9 [7] (by kernel_rfl) rfl ⟨Xqb 7 rfl gn rfl (Xqd (xs:=([(ix x1 x355).kids]:List Int)) [.int .i64 ((ix x1 x355).kids)] Xve rfl (by kernel_rfl) rfl rfl rfl rfl fun gb858 h859=>?_),trivial⟩
        refine ⟨Xms [2,4,5,6,7,8] rfl,Xms [0,1] rfl,?_⟩
        refine Xn9 [8] (by kernel_rfl) rfl ⟨Xy8 8 rfl gn rfl (Xrg (zs:=x672) (cells':=x672.flatMap (eI .i64)) 4 Xx2 rfl rfl rfl h653 (Nat.le_refl _) (Src.ownF (hl:=(hlI .i64)) (h1:=(Xow .i64)) 0 rfl h859) (by rw [hv673,List.flatMap_append] <;> rfl) (Xok hv673 h859.hq) hb674 rfl rfl fun A860 c861 h862=>?_),trivial⟩
        unfold NxL
        refine Xn9 [9] (by kernel_rfl) rfl ⟨Xy8 9 rfl gn rfl (Xzx (Xm9 rfl) rfl ?_),trivial⟩
        unfold NxL
        refine Xn9 [10] (by kernel_rfl) rfl ⟨Xy8 10 rfl gn rfl (Xzx (Xm9 rfl) rfl ?_),trivial⟩
        unfold NxL
        refine Xox (by kernel_rfl) ?_
        exact Xnj [0,1] (d4 A853 (n347 + 1) c854 h855 A860 (n352 + 1) c861 h862) ⟨rfl,rfl,rfl,rfl,rfl,rfl,rfl,rfl,trivial⟩ (.cons _ (.cons _ (.cons _ (.cons_cons _ (.cons_cons _ (.cons_cons _ (.cons_cons _ (.cons_cons _ (.cons_cons _ (.slnil)))))))))) rfl
       ·refine Xqb 7 rfl gn rfl (Xqd (xs := ([(ix x1 x355).kids] : List Int)) [.int .i64 ((ix x1 x355).kids)] Xve rfl (by kernel_rfl) rfl rfl rfl rfl fun gb863 h864 => ?_)
        refine ⟨Xms [2,4,5,6,7,8] rfl,Xms [0,1] rfl,?_⟩
        refine Xn9 [3] (by kernel_rfl) rfl ⟨Xqb 3 rfl gn rfl (Xrg (zs:=x663) (cells':=x663.flatMap (eI .i64)) 3 Xx2 rfl rfl rfl h349 (Nat.le_refl _) (Src.ownF (hl:=(hlI .i64)) (h1:=(Xow .i64)) 1 rfl h847) (by rw [hv664,List.flatMap_append] <;> rfl) (Xok hv664 h847.hq) hb665 rfl rfl fun A868 c869 h870=>?_),trivial⟩
        refine ⟨Xms [2,4,5,6,7,8] rfl,Xms [0,1] rfl,?_⟩
        refine Xn9 [8] (by kernel_rfl) rfl ⟨Xy8 8 rfl gn rfl (Xrg (zs:=x672) (cells':=x672.flatMap (eI .i64)) 4 Xx2 rfl rfl rfl h653 (Nat.le_refl _) (Src.ownF (hl:=(hlI .i64)) (h1:=(Xow .i64)) 0 rfl h864) (by rw [hv673,List.flatMap_append] <;> rfl) (Xok hv673 h864.hq) hb674 rfl rfl fun A871 c872 h873=>?_),trivial⟩
        unfold NxL
        refine Xn9 [9] (by kernel_rfl) rfl ⟨Xy8 9 rfl gn rfl (Xzx (Xm9 rfl) rfl ?_),trivial⟩
        unfold NxL
        refine Xn9 [10] (by kernel_rfl) rfl ⟨Xy8 10 rfl gn rfl (Xzx (Xm9 rfl) rfl ?_),trivial⟩
        unfold NxL
        refine Xox (by kernel_rfl) ?_
        exact Xnj [0,1] (d4 A868 (n347 + 1) c869 h870 A871 (n352 + 1) c872 h873) ⟨rfl,rfl,rfl,rfl,rfl,rfl,rfl,rfl,trivial⟩ (.cons _ (.cons _ (.cons _ (.cons_cons _ (.cons_cons _ (.cons_cons _ (.cons_cons _ (.cons_cons _ (.cons_cons _ (.slnil)))))))))) rfl
      ·refine Xqb 7 rfl gn rfl (Xqd (xs := ([(ix x1 x355).kids] : List Int)) [.int .i64 ((ix x1 x355).kids)] Xve rfl (by kernel_rfl) rfl rfl rfl rfl fun gb874 h875 => ?_)
       refine ⟨Xms [1,3,4,5,6,7] rfl,Xms [0,1] rfl,?_⟩
       refine Xn9 [2] (by kernel_rfl) rfl ⟨Xqb 2 rfl gn rfl (Xqd (xs:=([x355]:List Int)) [.int .i64 x355] Xve rfl (by kernel_rfl) rfl rfl rfl rfl fun gb878 h879=>?_),trivial⟩
       refine ⟨Xms [2,4,5,6,7,8] rfl,Xms [0,1] rfl,?_⟩
       refine Xn9 [3] (by kernel_rfl) rfl ⟨Xqb 3 rfl gn rfl (Xrg (zs:=x663) (cells':=x663.flatMap (eI .i64)) 3 Xx2 rfl rfl rfl h349 (Nat.le_refl _) (Src.ownF (hl:=(hlI .i64)) (h1:=(Xow .i64)) 0 rfl h879) (by rw [hv664,List.flatMap_append] <;> rfl) (Xok hv664 h879.hq) hb665 rfl rfl fun A883 c884 h885=>?_),trivial⟩
       refine ⟨Xms [2,4,5,6,7,8] rfl,Xms [0,1] rfl,?_⟩
       refine Xn9 [8] (by kernel_rfl) rfl ⟨Xy8 8 rfl gn rfl (Xrg (zs:=x672) (cells':=x672.flatMap (eI .i64)) 4 Xx2 rfl rfl rfl h653 (Nat.le_refl _) (Src.ownF (hl:=(hlI .i64)) (h1:=(Xow .i64)) 1 rfl h875) (by rw [hv673,List.flatMap_append] <;> rfl) (Xok hv673 h875.hq) hb674 rfl rfl fun A886 c887 h888=>?_),trivial⟩
       unfold NxL
       refine Xn9 [9] (by kernel_rfl) rfl ⟨Xy8 9 rfl gn rfl (Xzx (Xm9 rfl) rfl ?_),trivial⟩
       unfold NxL
       refine Xn9 [10] (by kernel_rfl) rfl ⟨Xy8 10 rfl gn rfl (Xzx (Xm9 rfl) rfl ?_),trivial⟩
       unfold NxL
       refine Xox (by kernel_rfl) ?_
       exact Xnj [0,1] (d4 A883 (n347 + 1) c884 h885 A886 (n352 + 1) c887 h888) ⟨rfl,rfl,rfl,rfl,rfl,rfl,rfl,rfl,trivial⟩ (.cons _ (.cons _ (.cons _ (.cons_cons _ (.cons_cons _ (.cons_cons _ (.cons_cons _ (.cons_cons _ (.cons_cons _ (.slnil)))))))))) rfl
    by_cases hp639:(x345.length:Int) > 0
    ·have h:=Xmf hp639 h
     refine Xmy rfl _ rfl ((decide_eq_true hp639))<|Xmb rfl ?_
     obtain ⟨hb889,h⟩:=h
     obtain ⟨hb890,h⟩:=h
     obtain ⟨x891,hv892,h⟩:=h
     have hns:Region.noSelect (Code.ops q44c57)=true:=by kernel_rfl
     refine Xpl [10] 11 rfl rfl mix rfl (.c 0 rfl (.c 1 rfl .n))<|wfv 0 rfl (Xmj Yex rfl) gn hns (by kernel_rfl)<|wfv 1 rfl (Xmx 3 ld_23 rfl rfl rfl) gn hns (by kernel_rfl)<|wfv 2 rfl (Xm7 rfl) gn hns (by kernel_rfl)<|wfv 3 rfl (Xm7 rfl) gn hns (by kernel_rfl)<|wfv 4 rfl (Xm7 rfl) gn hns (by kernel_rfl)<|wfv 5 rfl (Xmm Xqp rfl h349.hq) gn hns (by kernel_rfl)<|wfv 6 rfl (Xmk rfl rfl rfl) gn hns (by kernel_rfl)<|wfv 7 rfl (Xp3 Xpg rfl rfl h349 hb889) gn hns (by kernel_rfl)<|wfv 8 rfl (Xs3 (.int .i64 (ix x345 (w64 ((x345.length:Int) - 1)))) 1 Xql rfl rfl (Xtv (hlI .i64) hb889 rfl)) gn hns (by kernel_rfl)<|wfv 9 rfl (Xp3 Xpg rfl rfl h638 hb890) gn hns (by kernel_rfl) ?_
     refine Xn9 [10] (by kernel_rfl) rfl ⟨Xy8 10 rfl gn rfl (Xx4 (enc:=(eI .i64)) (o:=0) (z:=(ix x345 (w64 ((x345.length:Int) - 1)))) (vs:=[.int .i64 (ix x345 (w64 ((x345.length:Int) - 1)))]) (i:=x355) 5 (hlI .i64) Yaa rfl rfl rfl rfl rfl h638 hb890 rfl rfl rfl hv892 fun h895=>?_),trivial⟩
     unfold NxL
     refine Xox (by kernel_rfl)<|Xm8 rfl rfl<|Xm5 0 rfl (Xm7 rfl) gn rfl<|Xm5 1 rfl (Xm7 rfl) gn rfl<|Xm5 2 rfl (Xmm Xqp rfl h354.hq) gn rfl<|Xm5 3 rfl (Xmk rfl rfl rfl) gn rfl ?_
     obtain ⟨hb896,h⟩:=h
     refine Xm5 4 rfl (Xp3 Xpg rfl rfl h354 hb896) gn rfl<|Xm5 5 rfl (Xs3 (.int .i64 (ix x350 (w64 ((x350.length:Int) - 1)))) 2 Xql rfl rfl (Xtv (hlI .i64) hb896 rfl)) gn rfl<|Xm5 6 rfl (Xmk rfl rfl rfl) gn rfl<|Xm5 7 rfl (Xp3 Xpg rfl rfl h354 hb896) gn rfl ?_
     obtain ⟨x897,hv898,h⟩:=h
     refine Xmw 8 rfl (Xx4 (enc:=(eI .i64)) (o:=0) (z:=(w64 ((ix x350 (w64 ((x350.length:Int) - 1))) - 1))) (vs:=[.int .i64 (w64 ((ix x350 (w64 ((x350.length:Int) - 1))) - 1))]) (i:=(w64 ((x350.length:Int) - 1))) 2 (hlI .i64) Yaa rfl rfl rfl rfl rfl h354 hb896 rfl rfl rfl hv898 fun h899=>?_) gn
     refine Xmc 9 rfl ?_
     exact Xnj [0,1] (j2 x897 x891 h h899 h895) ⟨rfl,rfl,rfl,rfl,rfl,rfl,rfl,rfl,rfl,trivial⟩ (.cons_cons _ (.cons_cons _ (.cons_cons _ (.cons_cons _ (.cons_cons _ (.cons_cons _ (.cons_cons _ (.slnil)))))))) rfl
    ·have h:=Xmg hp639 h
     refine Xmr rfl _ rfl ((decide_eq_false hp639))<|Xn1 rfl ?_
     exact Xnj [0,1] (j2 x350 x636 h h354 h638) ⟨rfl,rfl,rfl,rfl,rfl,rfl,rfl,rfl,rfl,trivial⟩ (.cons_cons _ (.cons_cons _ (.cons_cons _ (.cons_cons _ (.cons_cons _ (.cons_cons _ (.cons_cons _ (.slnil)))))))) rfl
   ·have h:=Xmg hp630 h
    refine Xmr rfl _ rfl ((decide_eq_false hp630))<|Xqk [.code Xxb] rfl rfl<|Xmb rfl<|Xm8 rfl rfl<|Xm5 0 rfl (Xm7 rfl) gn rfl<|Xm5 1 rfl (Xmm Xqp rfl h349.hq) gn rfl<|Xm5 2 rfl (Xmk rfl rfl rfl) gn rfl<|Xm5 3 rfl (Xmj Yep rfl) gn rfl ?_
    refine Xmw 4 rfl (Xpk (vs:=[.bool ((x345.length:Int) == 0)]) (cs':=[.slice A2 n3 c4,.slice A77 n78 c79,.slice A81 n82 c83,.bool ((x345.length:Int) == 0)]) (M':=[.own (.slice A346 n347 c348) 3 1 n347 (x345.flatMap (eI .i64)),.own (.slice A351 n352 c353) 3 1 n352 (x350.flatMap (eI .i64)),.box gb76 32 [.slice A2 n3 c4,.slice A77 n78 c79,.slice A81 n82 c83,.bool ((x345.length:Int) == 0)],.own (.slice A81 n82 c83) 3 1 n82 (x358.flatMap (eI .i64)),.own (.slice A77 n78 c79) 3 1 n78 (x356.flatMap (eI .i64)),.box gb6 32 [.slice none 0 0,.slice none 0 0,.slice none 0 0,.bool false]]) 2 sz_4 rfl rfl rfl rfl rfl rfl rfl rfl rfl ?_) gn
    refine Xmc 5 rfl<|Xmb rfl<|Xm8 rfl rfl<|Xm5 0 rfl (Xq7 [.slice A2 n3 c4,.slice A77 n78 c79,.slice A81 n82 c83,.bool ((x345.length:Int) == 0)] 2 Yd7 rfl rfl rfl rfl) gn rfl ?_
    refine Xmw 1 rfl (Xpk (vs:=[.slice A2 n3 c4,.slice A77 n78 c79,.slice A81 n82 c83,.bool ((x345.length:Int) == 0)]) (cs':=[.slice A2 n3 c4,.slice A77 n78 c79,.slice A81 n82 c83,.bool ((x345.length:Int) == 0)]) (M':=[.own (.slice A346 n347 c348) 3 1 n347 (x345.flatMap (eI .i64)),.own (.slice A351 n352 c353) 3 1 n352 (x350.flatMap (eI .i64)),.box gb76 32 [.slice A2 n3 c4,.slice A77 n78 c79,.slice A81 n82 c83,.bool ((x345.length:Int) == 0)],.own (.slice A81 n82 c83) 3 1 n82 (x358.flatMap (eI .i64)),.own (.slice A77 n78 c79) 3 1 n78 (x356.flatMap (eI .i64)),.box gb6 32 [.slice A2 n3 c4,.slice A77 n78 c79,.slice A81 n82 c83,.bool ((x345.length:Int) == 0)]]) 5 Xyl rfl rfl rfl rfl rfl rfl rfl rfl rfl ?_) gn
    refine Xmc 2 rfl ?_
    have h:=Out.inr hO1 h
    refine Xmt [.agg #[.slice A2 n3 c4,.slice A77 n78 c79,.slice A81 n82 c83,.bool ((x345.length:Int) == 0)]] rfl Try.func44 rfl (.cell (cs:=[.slice A2 n3 c4,.slice A77 n78 c79,.slice A81 n82 c83,.bool ((x345.length:Int) == 0)]) (us:=[.slice A2 n3 c4,.slice A77 n78 c79,.slice A81 n82 c83,.bool ((x345.length:Int) == 0)]) 5 rfl Yd7 rfl rfl rfl (.nil)) fun wr hLr=>?_
    have hMr:=hLr.pkI (.c 4 rfl (.c 3 rfl .n)) (.c 0 rfl (.c 1 rfl (.c 2 rfl (.c 5 rfl .n)))) (by kernel_rfl) (.c 1 rfl .n)
    have hMi:=hLr.selI (.c 4 rfl (.c 3 rfl .n))
    show Xuk w F  r (.returned (Xmz [.agg #[.slice A2 n3 c4,.slice A77 n78 c79,.slice A81 n82 c83,.bool ((x345.length:Int) == 0)]])) wr
    rw [h]
    exact ⟨A77,n78,c79,A81,n82,c83,A2,n3,c4,rfl,hMr,h357,h359,(hLr.outR (s:=Sm w.heap.size F w []) hMi (me 0 rfl) Sm.ok h5)⟩
  refine Xrf 3 1<|Xrf 3 1 ?_
  exact Xnj [0,1] (key1 _ h none 0 0 (Ow.nil (z:=w.heap.size)) none 0 0 (Ow.nil (z:=w.heap.size)) h80 h84) ⟨rfl,rfl,rfl,rfl,rfl,rfl,rfl,trivial⟩ (.cons_cons _ (.cons_cons _ (.cons_cons _ (.cons_cons _ (.cons_cons _ (.cons_cons _ (.slnil))))))) rfl
 have hns:Region.noSelect (Code.ops q44c3)=true:=by kernel_rfl
 refine Xpl [] 10 rfl rfl mix rfl (.c 0 rfl (.c 1 rfl .n))<|wfv 0 rfl (Xm7 rfl) gn hns rfl<|wfv 1 rfl (Xm7 rfl) gn hns rfl<|wfv 2 rfl (Xmm Xsc rfl h5.hq) gn hns rfl<|wfv 4 rfl (Xm7 rfl) gn hns rfl<|wfv 5 rfl (Xmm Xsc rfl h5.hq) gn hns rfl ?_
 refine Xn9 [3,6,8] (by kernel_rfl) rfl ⟨?_,?_,?_,trivial⟩
 ·refine Xqb 3 rfl gn rfl (Xts (enc := (eI .i64)) (z := 0) Xy4 rfl (by decide) rfl rfl hb8.1 hb8.2 (by decide) hv13 rfl fun A909 h910 => ?_)
  refine ⟨Xms [1] rfl,Xms [0,1] rfl,?_⟩
  refine Xn9 [6,8] (by kernel_rfl) rfl ⟨?_,?_,trivial⟩
  ·refine Xqb 6 rfl gn rfl (Xts (enc := (eI .i64)) (z := 0) Xy4 rfl (by decide) rfl rfl hb8.1 hb8.2 (by decide) hv18 rfl fun A914 h915 => ?_)
   refine ⟨Xms [2] rfl,Xms [0,1] rfl,?_⟩
   refine wfv 7 rfl (Xr0 #[.slice A2 n3 c4,.slice A909 (((x1.length:Int):Int).toNat) (((x1.length:Int):Int).toNat),.slice A914 (((x1.length:Int):Int).toNat) (((x1.length:Int):Int).toNat),.bool false] Ybw rfl (by kernel_rfl)) gn hns rfl ?_
   refine Xn9 [8] (by kernel_rfl) rfl ⟨Xqb 8 rfl gn rfl (Xpf [.slice none 0 0,.slice none 0 0,.slice none 0 0,.bool false] Yb2 rfl fun gb917=>?_),trivial⟩
   refine ⟨Xms [3] rfl,Xms [0,1] rfl,?_⟩
   refine Xn9 [9] (by kernel_rfl) rfl ⟨Xqb 9 rfl gn rfl (Xpk (vs:=[.slice A2 n3 c4,.slice A909 (((x1.length:Int):Int).toNat) (((x1.length:Int):Int).toNat),.slice A914 (((x1.length:Int):Int).toNat) (((x1.length:Int):Int).toNat),.bool false]) (cs':=[.slice A2 n3 c4,.slice A909 (((x1.length:Int):Int).toNat) (((x1.length:Int):Int).toNat),.slice A914 (((x1.length:Int):Int).toNat) (((x1.length:Int):Int).toNat),.bool false]) (M':=[.box gb917 32 [.slice A2 n3 c4,.slice A909 (((x1.length:Int):Int).toNat) (((x1.length:Int):Int).toNat),.slice A914 (((x1.length:Int):Int).toNat) (((x1.length:Int):Int).toNat),.bool false],.own (.slice A914 (((x1.length:Int):Int).toNat) (((x1.length:Int):Int).toNat)) 3 1 (((x1.length:Int):Int).toNat) (x17.flatMap (eI .i64)),.own (.slice A909 (((x1.length:Int):Int).toNat) (((x1.length:Int):Int).toNat)) 3 1 (((x1.length:Int):Int).toNat) (x12.flatMap (eI .i64)),.box gb6 32 [.slice none 0 0,.slice none 0 0,.slice none 0 0,.bool false]]) 0 Xyl rfl rfl rfl rfl rfl rfl rfl rfl rfl ?_),trivial⟩
   refine ⟨Xms [3] rfl,Xms [0,1] rfl,?_⟩
   refine Xox (by kernel_rfl) ?_
   exact Xnj [0,1] (d1 gb917 A909 (((x1.length:Int):Int).toNat) (((x1.length:Int):Int).toNat) h910 A914 (((x1.length:Int):Int).toNat) (((x1.length:Int):Int).toNat) h915) ⟨rfl,rfl,rfl,trivial⟩ (.cons_cons _ (.cons_cons _ (.cons_cons _ (.cons_cons _ (.slnil))))) rfl
  ·refine Xqb 8 rfl gn rfl (Xpf [.slice none 0 0, .slice none 0 0, .slice none 0 0, .bool false] Yb2 rfl fun gb918 => ?_)
   refine ⟨Xms [2] rfl,Xms [0,1] rfl,?_⟩
   refine Xn9 [6] (by kernel_rfl) rfl ⟨Xqb 6 rfl gn rfl (Xts (enc:=(eI .i64)) (z:=0) Xy4 rfl (by decide) rfl rfl hb8.1 hb8.2 (by decide) hv18 rfl fun A921 h922=>?_),trivial⟩
   refine ⟨Xms [3] rfl,Xms [0,1] rfl,?_⟩
   refine wfv 7 rfl (Xr0 #[.slice A2 n3 c4,.slice A909 (((x1.length:Int):Int).toNat) (((x1.length:Int):Int).toNat),.slice A921 (((x1.length:Int):Int).toNat) (((x1.length:Int):Int).toNat),.bool false] Ybw rfl (by kernel_rfl)) gn hns rfl ?_
   refine Xn9 [9] (by kernel_rfl) rfl ⟨Xqb 9 rfl gn rfl (Xpk (vs:=[.slice A2 n3 c4,.slice A909 (((x1.length:Int):Int).toNat) (((x1.length:Int):Int).toNat),.slice A921 (((x1.length:Int):Int).toNat) (((x1.length:Int):Int).toNat),.bool false]) (cs':=[.slice A2 n3 c4,.slice A909 (((x1.length:Int):Int).toNat) (((x1.length:Int):Int).toNat),.slice A921 (((x1.length:Int):Int).toNat) (((x1.length:Int):Int).toNat),.bool false]) (M':=[.own (.slice A921 (((x1.length:Int):Int).toNat) (((x1.length:Int):Int).toNat)) 3 1 (((x1.length:Int):Int).toNat) (x17.flatMap (eI .i64)),.box gb918 32 [.slice A2 n3 c4,.slice A909 (((x1.length:Int):Int).toNat) (((x1.length:Int):Int).toNat),.slice A921 (((x1.length:Int):Int).toNat) (((x1.length:Int):Int).toNat),.bool false],.own (.slice A909 (((x1.length:Int):Int).toNat) (((x1.length:Int):Int).toNat)) 3 1 (((x1.length:Int):Int).toNat) (x12.flatMap (eI .i64)),.box gb6 32 [.slice none 0 0,.slice none 0 0,.slice none 0 0,.bool false]]) 1 Xyl rfl rfl rfl rfl rfl rfl rfl rfl rfl ?_),trivial⟩
   refine ⟨Xms [3] rfl,Xms [0,1] rfl,?_⟩
   refine Xox (by kernel_rfl)<|Xpe 3 rfl<|Xpe 3 rfl<|Xpe 2 rfl<|Xpe 3 rfl ?_
   exact Xnj [0,1] (d1 gb918 A909 (((x1.length:Int):Int).toNat) (((x1.length:Int):Int).toNat) h910 A921 (((x1.length:Int):Int).toNat) (((x1.length:Int):Int).toNat) h922) ⟨rfl,rfl,rfl,trivial⟩ (.cons_cons _ (.cons_cons _ (.cons_cons _ (.cons_cons _ (.slnil))))) rfl
 ·refine Xqb 6 rfl gn rfl (Xts (enc := (eI .i64)) (z := 0) Xy4 rfl (by decide) rfl rfl hb8.1 hb8.2 (by decide) hv18 rfl fun A923 h924 => ?_)
  refine ⟨Xms [1] rfl,Xms [0,1] rfl,?_⟩
  refine Xn9 [3,8] (by kernel_rfl) rfl ⟨?_,?_,trivial⟩
  ·refine Xqb 3 rfl gn rfl (Xts (enc := (eI .i64)) (z := 0) Xy4 rfl (by decide) rfl rfl hb8.1 hb8.2 (by decide) hv13 rfl fun A928 h929 => ?_)
   refine ⟨Xms [2] rfl,Xms [0,1] rfl,?_⟩
   refine wfv 7 rfl (Xr0 #[.slice A2 n3 c4,.slice A928 (((x1.length:Int):Int).toNat) (((x1.length:Int):Int).toNat),.slice A923 (((x1.length:Int):Int).toNat) (((x1.length:Int):Int).toNat),.bool false] Ybw rfl (by kernel_rfl)) gn hns rfl ?_
   refine Xn9 [8] (by kernel_rfl) rfl ⟨Xqb 8 rfl gn rfl (Xpf [.slice none 0 0,.slice none 0 0,.slice none 0 0,.bool false] Yb2 rfl fun gb931=>?_),trivial⟩
   refine ⟨Xms [3] rfl,Xms [0,1] rfl,?_⟩
   refine Xn9 [9] (by kernel_rfl) rfl ⟨Xqb 9 rfl gn rfl (Xpk (vs:=[.slice A2 n3 c4,.slice A928 (((x1.length:Int):Int).toNat) (((x1.length:Int):Int).toNat),.slice A923 (((x1.length:Int):Int).toNat) (((x1.length:Int):Int).toNat),.bool false]) (cs':=[.slice A2 n3 c4,.slice A928 (((x1.length:Int):Int).toNat) (((x1.length:Int):Int).toNat),.slice A923 (((x1.length:Int):Int).toNat) (((x1.length:Int):Int).toNat),.bool false]) (M':=[.box gb931 32 [.slice A2 n3 c4,.slice A928 (((x1.length:Int):Int).toNat) (((x1.length:Int):Int).toNat),.slice A923 (((x1.length:Int):Int).toNat) (((x1.length:Int):Int).toNat),.bool false],.own (.slice A928 (((x1.length:Int):Int).toNat) (((x1.length:Int):Int).toNat)) 3 1 (((x1.length:Int):Int).toNat) (x12.flatMap (eI .i64)),.own (.slice A923 (((x1.length:Int):Int).toNat) (((x1.length:Int):Int).toNat)) 3 1 (((x1.length:Int):Int).toNat) (x17.flatMap (eI .i64)),.box gb6 32 [.slice none 0 0,.slice none 0 0,.slice none 0 0,.bool false]]) 0 Xyl rfl rfl rfl rfl rfl rfl rfl rfl rfl ?_),trivial⟩
   refine ⟨Xms [3] rfl,Xms [0,1] rfl,?_⟩
   refine Xox (by kernel_rfl)<|Xpe 3 rfl<|Xpe 2 rfl<|Xpe 3 rfl<|Xpe 3 rfl ?_
   exact Xnj [0,1] (d1 gb931 A928 (((x1.length:Int):Int).toNat) (((x1.length:Int):Int).toNat) h929 A923 (((x1.length:Int):Int).toNat) (((x1.length:Int):Int).toNat) h924) ⟨rfl,rfl,rfl,trivial⟩ (.cons_cons _ (.cons_cons _ (.cons_cons _ (.cons_cons _ (.slnil))))) rfl
  ·refine Xqb 8 rfl gn rfl (Xpf [.slice none 0 0, .slice none 0 0, .slice none 0 0, .bool false] Yb2 rfl fun gb932 => ?_)
   refine ⟨Xms [2] rfl,Xms [0,1] rfl,?_⟩
   refine Xn9 [3] (by kernel_rfl) rfl ⟨Xqb 3 rfl gn rfl (Xts (enc:=(eI .i64)) (z:=0) Xy4 rfl (by decide) rfl rfl hb8.1 hb8.2 (by decide) hv13 rfl fun A935 h936=>?_),trivial⟩
   refine ⟨Xms [3] rfl,Xms [0,1] rfl,?_⟩
   refine wfv 7 rfl (Xr0 #[.slice A2 n3 c4,.slice A935 (((x1.length:Int):Int).toNat) (((x1.length:Int):Int).toNat),.slice A923 (((x1.length:Int):Int).toNat) (((x1.length:Int):Int).toNat),.bool false] Ybw rfl (by kernel_rfl)) gn hns rfl ?_
   refine Xn9 [9] (by kernel_rfl) rfl ⟨Xqb 9 rfl gn rfl (Xpk (vs:=[.slice A2 n3 c4,.slice A935 (((x1.length:Int):Int).toNat) (((x1.length:Int):Int).toNat),.slice A923 (((x1.length:Int):Int).toNat) (((x1.length:Int):Int).toNat),.bool false]) (cs':=[.slice A2 n3 c4,.slice A935 (((x1.length:Int):Int).toNat) (((x1.length:Int):Int).toNat),.slice A923 (((x1.length:Int):Int).toNat) (((x1.length:Int):Int).toNat),.bool false]) (M':=[.own (.slice A935 (((x1.length:Int):Int).toNat) (((x1.length:Int):Int).toNat)) 3 1 (((x1.length:Int):Int).toNat) (x12.flatMap (eI .i64)),.box gb932 32 [.slice A2 n3 c4,.slice A935 (((x1.length:Int):Int).toNat) (((x1.length:Int):Int).toNat),.slice A923 (((x1.length:Int):Int).toNat) (((x1.length:Int):Int).toNat),.bool false],.own (.slice A923 (((x1.length:Int):Int).toNat) (((x1.length:Int):Int).toNat)) 3 1 (((x1.length:Int):Int).toNat) (x17.flatMap (eI .i64)),.box gb6 32 [.slice none 0 0,.slice none 0 0,.slice none 0 0,.bool false]]) 1 Xyl rfl rfl rfl rfl rfl rfl rfl rfl rfl ?_),trivial⟩
   refine ⟨Xms [3] rfl,Xms [0,1] rfl,?_⟩
   refine Xox (by kernel_rfl)<|Xpe 3 rfl<|Xpe 1 rfl<|Xpe 3 rfl<|Xpe 3 rfl ?_
   exact Xnj [0,1] (d1 gb932 A935 (((x1.length:Int):Int).toNat) (((x1.length:Int):Int).toNat) h936 A923 (((x1.length:Int):Int).toNat) (((x1.length:Int):Int).toNat) h924) ⟨rfl,rfl,rfl,trivial⟩ (.cons_cons _ (.cons_cons _ (.cons_cons _ (.cons_cons _ (.slnil))))) rfl
 ·refine Xqb 8 rfl gn rfl (Xpf [.slice none 0 0, .slice none 0 0, .slice none 0 0, .bool false] Yb2 rfl fun gb937 => ?_)
  refine ⟨Xms [1] rfl,Xms [0,1] rfl,?_⟩
  refine Xn9 [3,6] (by kernel_rfl) rfl ⟨?_,?_,trivial⟩
  ·refine Xqb 3 rfl gn rfl (Xts (enc := (eI .i64)) (z := 0) Xy4 rfl (by decide) rfl rfl hb8.1 hb8.2 (by decide) hv13 rfl fun A942 h943 => ?_)
   refine ⟨Xms [2] rfl,Xms [0,1] rfl,?_⟩
   refine Xn9 [6] (by kernel_rfl) rfl ⟨Xqb 6 rfl gn rfl (Xts (enc:=(eI .i64)) (z:=0) Xy4 rfl (by decide) rfl rfl hb8.1 hb8.2 (by decide) hv18 rfl fun A946 h947=>?_),trivial⟩
   refine ⟨Xms [3] rfl,Xms [0,1] rfl,?_⟩
   refine wfv 7 rfl (Xr0 #[.slice A2 n3 c4,.slice A942 (((x1.length:Int):Int).toNat) (((x1.length:Int):Int).toNat),.slice A946 (((x1.length:Int):Int).toNat) (((x1.length:Int):Int).toNat),.bool false] Ybw rfl (by kernel_rfl)) gn hns rfl ?_
   refine Xn9 [9] (by kernel_rfl) rfl ⟨Xqb 9 rfl gn rfl (Xpk (vs:=[.slice A2 n3 c4,.slice A942 (((x1.length:Int):Int).toNat) (((x1.length:Int):Int).toNat),.slice A946 (((x1.length:Int):Int).toNat) (((x1.length:Int):Int).toNat),.bool false]) (cs':=[.slice A2 n3 c4,.slice A942 (((x1.length:Int):Int).toNat) (((x1.length:Int):Int).toNat),.slice A946 (((x1.length:Int):Int).toNat) (((x1.length:Int):Int).toNat),.bool false]) (M':=[.own (.slice A946 (((x1.length:Int):Int).toNat) (((x1.length:Int):Int).toNat)) 3 1 (((x1.length:Int):Int).toNat) (x17.flatMap (eI .i64)),.own (.slice A942 (((x1.length:Int):Int).toNat) (((x1.length:Int):Int).toNat)) 3 1 (((x1.length:Int):Int).toNat) (x12.flatMap (eI .i64)),.box gb937 32 [.slice A2 n3 c4,.slice A942 (((x1.length:Int):Int).toNat) (((x1.length:Int):Int).toNat),.slice A946 (((x1.length:Int):Int).toNat) (((x1.length:Int):Int).toNat),.bool false],.box gb6 32 [.slice none 0 0,.slice none 0 0,.slice none 0 0,.bool false]]) 2 Xyl rfl rfl rfl rfl rfl rfl rfl rfl rfl ?_),trivial⟩
   refine ⟨Xms [3] rfl,Xms [0,1] rfl,?_⟩
   refine Xox (by kernel_rfl)<|Xpe 3 rfl<|Xpe 2 rfl<|Xpe 2 rfl<|Xpe 3 rfl ?_
   exact Xnj [0,1] (d1 gb937 A942 (((x1.length:Int):Int).toNat) (((x1.length:Int):Int).toNat) h943 A946 (((x1.length:Int):Int).toNat) (((x1.length:Int):Int).toNat) h947) ⟨rfl,rfl,rfl,trivial⟩ (.cons_cons _ (.cons_cons _ (.cons_cons _ (.cons_cons _ (.slnil))))) rfl
  ·refine Xqb 6 rfl gn rfl (Xts (enc := (eI .i64)) (z := 0) Xy4 rfl (by decide) rfl rfl hb8.1 hb8.2 (by decide) hv18 rfl fun A948 h949 => ?_)
   refine ⟨Xms [2] rfl,Xms [0,1] rfl,?_⟩
   refine Xn9 [3] (by kernel_rfl) rfl ⟨Xqb 3 rfl gn rfl (Xts (enc:=(eI .i64)) (z:=0) Xy4 rfl (by decide) rfl rfl hb8.1 hb8.2 (by decide) hv13 rfl fun A952 h953=>?_),trivial⟩
   refine ⟨Xms [3] rfl,Xms [0,1] rfl,?_⟩
   refine wfv 7 rfl (Xr0 #[.slice A2 n3 c4,.slice A952 (((x1.length:Int):Int).toNat) (((x1.length:Int):Int).toNat),.slice A948 (((x1.length:Int):Int).toNat) (((x1.length:Int):Int).toNat),.bool false] Ybw rfl (by kernel_rfl)) gn hns rfl ?_
   refine Xn9 [9] (by kernel_rfl) rfl ⟨Xqb 9 rfl gn rfl (Xpk (vs:=[.slice A2 n3 c4,.slice A952 (((x1.length:Int):Int).toNat) (((x1.length:Int):Int).toNat),.slice A948 (((x1.length:Int):Int).toNat) (((x1.length:Int):Int).toNat),.bool false]) (cs':=[.slice A2 n3 c4,.slice A952 (((x1.length:Int):Int).toNat) (((x1.length:Int):Int).toNat),.slice A948 (((x1.length:Int):Int).toNat) (((x1.length:Int):Int).toNat),.bool false]) (M':=[.own (.slice A952 (((x1.length:Int):Int).toNat) (((x1.length:Int):Int).toNat)) 3 1 (((x1.length:Int):Int).toNat) (x12.flatMap (eI .i64)),.own (.slice A948 (((x1.length:Int):Int).toNat) (((x1.length:Int):Int).toNat)) 3 1 (((x1.length:Int):Int).toNat) (x17.flatMap (eI .i64)),.box gb937 32 [.slice A2 n3 c4,.slice A952 (((x1.length:Int):Int).toNat) (((x1.length:Int):Int).toNat),.slice A948 (((x1.length:Int):Int).toNat) (((x1.length:Int):Int).toNat),.bool false],.box gb6 32 [.slice none 0 0,.slice none 0 0,.slice none 0 0,.bool false]]) 2 Xyl rfl rfl rfl rfl rfl rfl rfl rfl rfl ?_),trivial⟩
   refine ⟨Xms [3] rfl,Xms [0,1] rfl,?_⟩
   refine Xox (by kernel_rfl)<|Xpe 3 rfl<|Xpe 1 rfl<|Xpe 2 rfl<|Xpe 3 rfl ?_
   exact Xnj [0,1] (d1 gb937 A952 (((x1.length:Int):Int).toNat) (((x1.length:Int):Int).toNat) h953 A948 (((x1.length:Int):Int).toNat) (((x1.length:Int):Int).toNat) h949) ⟨rfl,rfl,rfl,trivial⟩ (.cons_cons _ (.cons_cons _ (.cons_cons _ (.cons_cons _ (.slnil))))) rfl
noncomputable abbrev q67c4:=Code.snd (Code.snd (Xnv Try.f67))
noncomputable abbrev q67c6:=Code.snd (Code.fst (Code.snd (Xnv Try.f67)))
noncomputable abbrev Ycp:=Code.snd (Code.snd (Code.snd q67c4))
noncomputable abbrev Xzf:=Code.fst (Code.fst (Code.snd (Code.fst (Code.snd (Code.snd q67c4)))))
abbrev Xpr (w:World) (F:Nat→Prop) (r:Xm6 × Int × Bool):Ending→World→Prop:=fun e w'=>∃ A0:Option Addr,∃ n0:Nat,∃ c0:Nat,∃ cs0:List Value,e=.returned (.tuple #[.agg #[.string r.1.node.name,.bool r.1.node.named,.string r.1.node.field,.int .i64 r.1.node.from_,.int .i64 r.1.node.to,.int .i64 r.1.node.kids,.int .i64 r.1.node.leaf,.slice A0 n0 c0,.int .i64 r.1.at_],.int .i64 r.2.1,.bool r.2.2])∧B.Loc w w' [.own (.slice A0 n0 c0) 96 9 n0 cs0] [St w []]∧Ow w.heap.size A0 n0 c0 r.1.kids∧Cells Xmd w' (Nw w w' F [.own (.slice A0 n0 c0) 96 9 n0 cs0]) r.1.kids cs0
noncomputable abbrev Xqh (w:World) (F:Nat→Prop) (r:Xm6 × Int × Bool):Cx:=⟨Try.prog,67,Try.f67,74,Xpr w F  r,w⟩
def Xsa (rl:(List Xm4)→Int→(Xm6 × Int × Bool)→Prop):Prop:=∀ (w:World) (F:Nat→Prop) (x1:List Xm4) (x6:Int) (A2:Option Addr) (n3:Nat) (c4:Nat) (h5:Rw Xmo w (St w []).av A2 n3 c4 x1) (hF:∀ b,F b→b < w.heap.size∧∀ o ∈ ([]:List (List Nat)),b ∉ o) (hL0:B.Loc w w [] [Sm w.heap.size F w [],St w []]) (r:Xm6 × Int × Bool) (h:rl x1 x6 r),Calls Try.prog 67 #[.slice A2 n3 c4,.int .i64 x6] w (Xpr w F  r)
theorem Xwo (rc_trellisref15_take:(List Xm4)→Int→(Xm6 × Int × Bool)→Prop) (ih_trellisref15_take:Xsa rc_trellisref15_take):Xsa (Xnn rc_trellisref15_take):=by
 intro w F x1 x6 A2 n3 c4 h5 hF hL0 r h
 unfold Xnn at h
 refine Xmq (vs:=[.slice A2 n3 c4,.int .i64 x6]) 74 Try.func67 rfl Try.ntmps67 rfl hL0 ?_
 show G (Xqh w F r) _ _ _ _
 refine Xmb rfl<|Xm8 rfl rfl ?_
 refine Xmw 0 rfl (Xpf [.string (⟨#[]⟩:ByteArray),.bool false,.string (⟨#[]⟩:ByteArray),.int .i64 0,.int .i64 0,.int .i64 0,.int .i64 0,.slice none 0 0,.int .i64 0] Xz5 rfl fun gb7=>?_) gn
 refine Xm5 1 rfl (Xm9 rfl) gn rfl<|Xm5 2 rfl (Xm9 rfl) gn rfl<|Xmc 3 rfl<|Xmb rfl<|Xmb rfl ?_
 have j1:∀ (x15:Bool) (h:Xni x6 x1 rc_trellisref15_take x15 r) ,G (Xqh w F r) [.code q67c6,.code q67c4] [(0,.slice A2 n3 c4),(1,.int .i64 x6),(4,.pointer (some ⟨gb7,0,none⟩)),(34,.bool x15)] [.box gb7 96 [.string (⟨#[]⟩:ByteArray),.bool false,.string (⟨#[]⟩:ByteArray),.int .i64 0,.int .i64 0,.int .i64 0,.int .i64 0,.slice none 0 0,.int .i64 0]] [Sm w.heap.size F w [],St w []]:=by
  intro x15 h
  unfold Xni at h
  by_cases hp16:x15=true
  ·have h:=Xmf hp16 h
   refine Xmy rfl _ rfl (hp16)<|Xmb rfl<|Xm8 rfl rfl<|Xm5 0 rfl (Xr0 #[.string (⟨#[]⟩:ByteArray),.bool false,.string (⟨#[]⟩:ByteArray),.int .i64 0,.int .i64 0,.int .i64 0,.int .i64 0,.slice none 0 0,.int .i64 0] Ye3 rfl (by kernel_rfl)) gn rfl<|Xm5 1 rfl (Xm7 rfl) gn rfl ?_
   refine Xmw 2 rfl (Xpk (vs:=[.string (⟨#[]⟩:ByteArray),.bool false,.string (⟨#[]⟩:ByteArray),.int .i64 0,.int .i64 0,.int .i64 0,.int .i64 0,.slice none 0 0,.int .i64 0]) (cs':=[.string (⟨#[]⟩:ByteArray),.bool false,.string (⟨#[]⟩:ByteArray),.int .i64 0,.int .i64 0,.int .i64 0,.int .i64 0,.slice none 0 0,.int .i64 0]) (M':=[.box gb7 96 [.string (⟨#[]⟩:ByteArray),.bool false,.string (⟨#[]⟩:ByteArray),.int .i64 0,.int .i64 0,.int .i64 0,.int .i64 0,.slice none 0 0,.int .i64 0]]) 0 Xww rfl rfl rfl rfl rfl rfl rfl rfl rfl ?_) gn
   refine Xm5 3 rfl (Xm9 rfl) gn rfl<|Xm5 4 rfl (Xm9 rfl) gn rfl<|Xmc 5 rfl<|Xrf 96 9 ?_
   refine Xmt [.agg #[.string (⟨#[]⟩:ByteArray),.bool false,.string (⟨#[]⟩:ByteArray),.int .i64 0,.int .i64 0,.int .i64 0,.int .i64 0,.slice none 0 0,.int .i64 0],.int .i64 x6,.bool false] rfl Try.func67 rfl (.cell (cs:=[.string (⟨#[]⟩:ByteArray),.bool false,.string (⟨#[]⟩:ByteArray),.int .i64 0,.int .i64 0,.int .i64 0,.int .i64 0,.slice none 0 0,.int .i64 0]) (us:=[.string (⟨#[]⟩:ByteArray),.bool false,.string (⟨#[]⟩:ByteArray),.int .i64 0,.int .i64 0,.int .i64 0,.int .i64 0,.slice none 0 0,.int .i64 0]) 1 rfl Xw9 rfl rfl rfl (.tmp rfl (.tmp rfl (.nil)))) fun wr hLr=>?_
   have hMr:=hLr.pkI (.c 0 rfl .n) (.c 1 rfl .n) (by kernel_rfl) (.c 1 rfl .n)
   have hMi:=hLr.selI (.c 0 rfl .n)
   show Xpr w F  r (.returned (Xmz [.agg #[.string (⟨#[]⟩:ByteArray),.bool false,.string (⟨#[]⟩:ByteArray),.int .i64 0,.int .i64 0,.int .i64 0,.int .i64 0,.slice none 0 0,.int .i64 0],.int .i64 x6,.bool false])) wr
   rw [h]
   exact ⟨none,0,0,[],rfl,hMr,(Ow.nil (z:=w.heap.size)),(hLr.outC (s:=Sm w.heap.size F w []) hMi (me 0 rfl) Sm.ok Cells.nil)⟩
  ·have h:=Xmg hp16 h
   refine Xmr rfl _ rfl ((bf hp16))<|Xn1 rfl<|Xmb rfl<|Xm8 rfl rfl<|Xm5 0 rfl (Xm7 rfl) gn rfl<|Xm5 1 rfl (Xm7 rfl) gn rfl ?_
   obtain ⟨hb17,h⟩:=h
   have hr18:=Rw.readF (s:=St w []) (hl:=Xmv) (h1:=Xna) h5 hb17
   refine Xm5 2 rfl (Xn4 (s:=St w []) Xqi rfl rfl h5 hb17) gn rfl<|Xm5 3 rfl (Xx1 (St w []) Xy1 rfl hr18 rfl (me 1 rfl)) gn rfl<|Xm5 4 rfl (Xm7 rfl) gn rfl<|Xm5 5 rfl (Xr0 #[.string ((ix x1 x6).name),.bool ((ix x1 x6).named),.string ((ix x1 x6).field),.int .i64 ((ix x1 x6).from_),.int .i64 ((ix x1 x6).to),.int .i64 ((ix x1 x6).kids),.int .i64 ((ix x1 x6).leaf),.slice none 0 0,.int .i64 x6] Ye3 rfl (by kernel_rfl)) gn rfl ?_
   refine Xmw 6 rfl (Xpf [.string (⟨#[]⟩:ByteArray),.bool false,.string (⟨#[]⟩:ByteArray),.int .i64 0,.int .i64 0,.int .i64 0,.int .i64 0,.slice none 0 0,.int .i64 0] Xz5 rfl fun gb19=>?_) gn
   refine Xmw 7 rfl (Xpk (vs:=[.string ((ix x1 x6).name),.bool ((ix x1 x6).named),.string ((ix x1 x6).field),.int .i64 ((ix x1 x6).from_),.int .i64 ((ix x1 x6).to),.int .i64 ((ix x1 x6).kids),.int .i64 ((ix x1 x6).leaf),.slice none 0 0,.int .i64 x6]) (cs':=[.string ((ix x1 x6).name),.bool ((ix x1 x6).named),.string ((ix x1 x6).field),.int .i64 ((ix x1 x6).from_),.int .i64 ((ix x1 x6).to),.int .i64 ((ix x1 x6).kids),.int .i64 ((ix x1 x6).leaf),.slice none 0 0,.int .i64 x6]) (M':=[.box gb19 96 [.string ((ix x1 x6).name),.bool ((ix x1 x6).named),.string ((ix x1 x6).field),.int .i64 ((ix x1 x6).from_),.int .i64 ((ix x1 x6).to),.int .i64 ((ix x1 x6).kids),.int .i64 ((ix x1 x6).leaf),.slice none 0 0,.int .i64 x6],.box gb7 96 [.string (⟨#[]⟩:ByteArray),.bool false,.string (⟨#[]⟩:ByteArray),.int .i64 0,.int .i64 0,.int .i64 0,.int .i64 0,.slice none 0 0,.int .i64 0]]) 0 Xww rfl rfl rfl rfl rfl rfl rfl rfl rfl ?_) gn
   refine Xmc 8 rfl<|Xmb rfl<|Xm8 rfl rfl<|Xm5 0 rfl (Xm7 rfl) gn rfl<|Xm5 1 rfl (Xmk rfl rfl rfl) gn rfl<|Xm5 2 rfl (Xm9 rfl) gn rfl<|Xmc 3 rfl<|Xmb rfl<|Xmb rfl<|Xm8 rfl rfl<|Xm5 0 rfl (Xm9 rfl) gn rfl<|Xmc 1 rfl ?_
   refine Xn8 rfl<|Xqz rfl ?_
   have key2:∀ s,Xmh (fun (s:Int × Int × (List Xm6)) o=>Xn5 x1 x6 rc_trellisref15_take s.1 s.2.1 s.2.2 o) s r→(fun (s:Int × Int × (List Xm6))=>∀ (A67:Option Addr) (n68:Nat) (c69:Nat) (h70:Ow w.heap.size A67 n68 c69 s.2.2) (cs71:List Value) (sw72:World) (sb73:List (List Nat)) (hC74:Cells Xmd (Sm w.heap.size F sw72 sb73).w (Sm w.heap.size F sw72 sb73).av s.2.2 cs71),G (Xqh w F r) [.code Xzf,.inLoop Xzf,.inBlock 0,.code Ycp] [(0,.slice A2 n3 c4),(1,.int .i64 x6),(4,.pointer (some ⟨gb7,0,none⟩)),(7,.pointer (some ⟨gb19,0,none⟩)),(8,.int .i64 s.1),(9,.int .i64 s.2.1)] [.own (.slice A67 n68 c69) 96 9 n68 cs71,.box gb19 96 [.string ((ix x1 x6).name),.bool ((ix x1 x6).named),.string ((ix x1 x6).field),.int .i64 ((ix x1 x6).from_),.int .i64 ((ix x1 x6).to),.int .i64 ((ix x1 x6).kids),.int .i64 ((ix x1 x6).leaf),.slice A67 n68 c69,.int .i64 x6],.box gb7 96 [.string (⟨#[]⟩:ByteArray),.bool false,.string (⟨#[]⟩:ByteArray),.int .i64 0,.int .i64 0,.int .i64 0,.int .i64 0,.slice none 0 0,.int .i64 0]] [Sm w.heap.size F sw72 sb73,Sm w.heap.size F w [],St w []]) s:=by
    intro s hs
    refine Xmh.ind (mot:=(fun (s:Int × Int × (List Xm6))=>∀ (A67:Option Addr) (n68:Nat) (c69:Nat) (h70:Ow w.heap.size A67 n68 c69 s.2.2) (cs71:List Value) (sw72:World) (sb73:List (List Nat)) (hC74:Cells Xmd (Sm w.heap.size F sw72 sb73).w (Sm w.heap.size F sw72 sb73).av s.2.2 cs71),G (Xqh w F r) [.code Xzf,.inLoop Xzf,.inBlock 0,.code Ycp] [(0,.slice A2 n3 c4),(1,.int .i64 x6),(4,.pointer (some ⟨gb7,0,none⟩)),(7,.pointer (some ⟨gb19,0,none⟩)),(8,.int .i64 s.1),(9,.int .i64 s.2.1)] [.own (.slice A67 n68 c69) 96 9 n68 cs71,.box gb19 96 [.string ((ix x1 x6).name),.bool ((ix x1 x6).named),.string ((ix x1 x6).field),.int .i64 ((ix x1 x6).from_),.int .i64 ((ix x1 x6).to),.int .i64 ((ix x1 x6).kids),.int .i64 ((ix x1 x6).leaf),.slice A67 n68 c69,.int .i64 x6],.box gb7 96 [.string (⟨#[]⟩:ByteArray),.bool false,.string (⟨#[]⟩:ByteArray),.int .i64 0,.int .i64 0,.int .i64 0,.int .i64 0,.slice none 0 0,.int .i64 0]] [Sm w.heap.size F sw72 sb73,Sm w.heap.size F w [],St w []])) ?_ hs
    clear hs s
    intro s o1 h hO1
    obtain ⟨x64,x65,x66⟩:=s
    show ∀ (A67:Option Addr) (n68:Nat) (c69:Nat) (h70:Ow w.heap.size A67 n68 c69 x66) (cs71:List Value) (sw72:World) (sb73:List (List Nat)) (hC74:Cells Xmd (Sm w.heap.size F sw72 sb73).w (Sm w.heap.size F sw72 sb73).av x66 cs71),G (Xqh w F r) [.code Xzf,.inLoop Xzf,.inBlock 0,.code Ycp] [(0,.slice A2 n3 c4),(1,.int .i64 x6),(4,.pointer (some ⟨gb7,0,none⟩)),(7,.pointer (some ⟨gb19,0,none⟩)),(8,.int .i64 x64),(9,.int .i64 x65)] [.own (.slice A67 n68 c69) 96 9 n68 cs71,.box gb19 96 [.string ((ix x1 x6).name),.bool ((ix x1 x6).named),.string ((ix x1 x6).field),.int .i64 ((ix x1 x6).from_),.int .i64 ((ix x1 x6).to),.int .i64 ((ix x1 x6).kids),.int .i64 ((ix x1 x6).leaf),.slice A67 n68 c69,.int .i64 x6],.box gb7 96 [.string (⟨#[]⟩:ByteArray),.bool false,.string (⟨#[]⟩:ByteArray),.int .i64 0,.int .i64 0,.int .i64 0,.int .i64 0,.slice none 0 0,.int .i64 0]] [Sm w.heap.size F sw72 sb73,Sm w.heap.size F w [],St w []]
    intro A67 n68 c69 h70 cs71 sw72 sb73 hC74
    have h:Xn5 x1 x6 rc_trellisref15_take x64 x65 x66 o1:=h
    unfold Xn5 at h
    refine Xmb rfl<|Xmb rfl<|Xm8 rfl rfl<|Xm5 0 rfl (Xm7 rfl) gn rfl<|Xm5 1 rfl (Xm7 rfl) gn rfl<|Xm5 2 rfl (Xm7 rfl) gn rfl ?_
    have hr116:=Rw.readF (s:=St w []) (hl:=Xmv) (h1:=Xna) h5 hb17
    refine Xm5 3 rfl (Xn4 (s:=St w []) Xqi rfl rfl h5 hb17) gn rfl<|Xm5 4 rfl (Xo6 Xsf rfl) gn rfl<|Xm5 5 rfl (Xnl (kk:=(x6:Int).toNat * 7) (j:=5) (St w []) Xql rfl hr116 rfl (me 2 rfl)) gn rfl<|Xm5 6 rfl (Xmk rfl rfl rfl) gn rfl<|Xmc 7 rfl ?_
    by_cases hp117:x65 < (ix x1 x6).kids
    ·have h:=Xmf hp117 h
     refine Xmy rfl _ rfl ((decide_eq_true hp117))<|Xn1 rfl<|Xmb rfl<|Xn8 rfl<|Xmb rfl<|Xm8 rfl rfl<|Xm5 0 rfl (Xm7 rfl) gn rfl<|Xm5 1 rfl (Xm7 rfl) gn rfl ?_
     obtain ⟨r121,hv122,h⟩:=h
     refine Xmw 2 rfl (Xne [.slice A2 n3 c4,.int .i64 x64] rfl Try.func67 rfl rfl rfl fun w118 hL119=>?_) gn
     have hp120:=pmI hL119 .n (.c 0 rfl (.c 1 rfl (.c 2 rfl .n))) (by kernel_rfl)
     refine Calls.mono (ih_trellisref15_take w118 (Fl ([]:List Xmp)) x1 x64 A2 n3 c4 (Rw.mono h5 (hL119.toSt hp120 (me 2 rfl))) (hL119.hFl hp120 (Xms [] rfl)) (hL119.into hp120 _) r121 hv122) ?_
     rintro _ w130 ⟨A123,n124,c125,cs128,rfl,hM131,h126,hC129⟩
     obtain ⟨sb134,hL132,hv133⟩:=hL119.callB (Sl:=([]:List Xmp)) hp120 hM131 F (Xms [] rfl) trivial
     have hC129:Cells Xmd (Sm w.heap.size F w130 sb134).w (Sm w.heap.size F w130 sb134).av r121.1.kids cs128:=Cells.mono hv133 hC129
     refine ⟨_,_,_,rfl,hL132,?_⟩
     refine Xm5 3 rfl (Xm7 rfl) gn rfl<|Xm5 4 rfl (Xt2 rfl rfl) gn rfl<|Xm5 5 rfl (Xt2 rfl rfl) gn rfl<|Xm5 6 rfl (Xt2 rfl rfl) gn rfl ?_
     refine Xmw 7 rfl (Xpf [.string (⟨#[]⟩:ByteArray),.bool false,.string (⟨#[]⟩:ByteArray),.int .i64 0,.int .i64 0,.int .i64 0,.int .i64 0,.slice none 0 0,.int .i64 0] Xz5 rfl fun gb135=>?_) gn
     refine Xmw 8 rfl (Xpk (vs:=[.string r121.1.node.name,.bool r121.1.node.named,.string r121.1.node.field,.int .i64 r121.1.node.from_,.int .i64 r121.1.node.to,.int .i64 r121.1.node.kids,.int .i64 r121.1.node.leaf,.slice A123 n124 c125,.int .i64 r121.1.at_]) (cs':=[.string r121.1.node.name,.bool r121.1.node.named,.string r121.1.node.field,.int .i64 r121.1.node.from_,.int .i64 r121.1.node.to,.int .i64 r121.1.node.kids,.int .i64 r121.1.node.leaf,.slice A123 n124 c125,.int .i64 r121.1.at_]) (M':=[.box gb135 96 [.string r121.1.node.name,.bool r121.1.node.named,.string r121.1.node.field,.int .i64 r121.1.node.from_,.int .i64 r121.1.node.to,.int .i64 r121.1.node.kids,.int .i64 r121.1.node.leaf,.slice A123 n124 c125,.int .i64 r121.1.at_],.own (.slice A123 n124 c125) 96 9 n124 cs128,.own (.slice A67 n68 c69) 96 9 n68 cs71,.box gb19 96 [.string ((ix x1 x6).name),.bool ((ix x1 x6).named),.string ((ix x1 x6).field),.int .i64 ((ix x1 x6).from_),.int .i64 ((ix x1 x6).to),.int .i64 ((ix x1 x6).kids),.int .i64 ((ix x1 x6).leaf),.slice A67 n68 c69,.int .i64 x6],.box gb7 96 [.string (⟨#[]⟩:ByteArray),.bool false,.string (⟨#[]⟩:ByteArray),.int .i64 0,.int .i64 0,.int .i64 0,.int .i64 0,.slice none 0 0,.int .i64 0]]) 0 Xww rfl rfl rfl rfl rfl rfl rfl rfl rfl ?_) gn
     refine Xm5 9 rfl (Xm9 rfl) gn rfl<|Xm5 10 rfl (Xm9 rfl) gn rfl<|Xmc 11 rfl<|Xmb rfl<|Xmb rfl<|Xm8 rfl rfl<|Xm5 0 rfl (Xm7 rfl) gn rfl<|Xm5 1 rfl (Xrz rfl) gn rfl<|Xmc 2 rfl ?_
     by_cases hp137:r121.2.2=true
     ·have h:=Xmf hp137 h
      refine Xmr rfl _ rfl ((nf hp137))<|Xn1 rfl<|Xmb rfl<|Xm8 rfl rfl<|Xm5 0 rfl (Xmj Yah rfl) gn rfl<|Xm5 1 rfl (Xmx 3 ld_89 rfl rfl rfl) gn rfl<|Xm5 2 rfl (Xq7 [.string r121.1.node.name,.bool r121.1.node.named,.string r121.1.node.field,.int .i64 r121.1.node.from_,.int .i64 r121.1.node.to,.int .i64 r121.1.node.kids,.int .i64 r121.1.node.leaf,.slice A123 n124 c125,.int .i64 r121.1.at_] 0 Xw9 rfl rfl rfl rfl) gn rfl ?_
      refine Yd3 (F:=F) (dk:=Xmd) (Sm w.heap.size F w130 sb134) 1 rfl (Ow.weak hL119.env.size h126) (me 0 rfl) Sm.ok hC129 fun sw139 sb140 h138=>?_
      have hC142:Cells Xmd (Sm w.heap.size F sw139 sb140).w (Sm w.heap.size F sw139 sb140).av ([r121.1]:List Xm6) [.string r121.1.node.name,.bool r121.1.node.named,.string r121.1.node.field,.int .i64 r121.1.node.from_,.int .i64 r121.1.node.to,.int .i64 r121.1.node.kids,.int .i64 r121.1.node.leaf,.slice A123 n124 c125,.int .i64 r121.1.at_]:=(Cells.cons (c1:=[.string r121.1.node.name,.bool r121.1.node.named,.string r121.1.node.field,.int .i64 r121.1.node.from_,.int .i64 r121.1.node.to,.int .i64 r121.1.node.kids,.int .i64 r121.1.node.leaf,.slice A123 n124 c125,.int .i64 r121.1.at_]) (Xob ⟨A123,n124,c125,rfl,h138⟩) Cells.nil)
      refine Xmw 3 rfl (Xqd (xs:=([r121.1]:List Xm6)) [.string r121.1.node.name,.bool r121.1.node.named,.string r121.1.node.field,.int .i64 r121.1.node.from_,.int .i64 r121.1.node.to,.int .i64 r121.1.node.kids,.int .i64 r121.1.node.leaf,.slice A123 n124 c125,.int .i64 r121.1.at_] Xxo rfl (by kernel_rfl) rfl rfl rfl rfl fun gb143 h144=>?_) gn
      obtain ⟨x151,hv152,h⟩:=h
      obtain ⟨hb153,h⟩:=h
      refine Ycd (F:=F) fun sw148 sb149 ho150=>?_
      obtain ⟨cs154,hc155⟩:∃ x:List Value,x=cs71++[.string r121.1.node.name,.bool r121.1.node.named,.string r121.1.node.field,.int .i64 r121.1.node.from_,.int .i64 r121.1.node.to,.int .i64 r121.1.node.kids,.int .i64 r121.1.node.leaf,.slice A123 n124 c125,.int .i64 r121.1.at_]:=⟨_,rfl⟩
      have hC156:Cells Xmd (Sm w.heap.size F sw148 sb149).w (Sm w.heap.size F sw148 sb149).av x151 cs154:=by rw [hv152,hc155]; exact Cells.app (Cells.older (s:=Sm w.heap.size F sw72 sb73) hC74 (ho150 _ (me 2 rfl) Sm.ok)) (Cells.older (s:=Sm w.heap.size F sw139 sb140) hC142 (ho150 _ (me 0 rfl) Sm.ok))
      refine Xmw 4 rfl (Xrg (zs:=x151) 2 Yby rfl rfl rfl h70 (Nat.le_refl _) (Src.ownAll 0 rfl h144 hC142) hc155.symm (Xok hv152 h144.hq) hb153 rfl rfl fun A145 c146 h147=>?_) gn
      refine Xm5 5 rfl (Xmj Yah rfl) gn rfl ?_
      refine Xmw 6 rfl (Xpk (vs:=[.slice A145 (n68 + 1) c146]) (cs':=[.string ((ix x1 x6).name),.bool ((ix x1 x6).named),.string ((ix x1 x6).field),.int .i64 ((ix x1 x6).from_),.int .i64 ((ix x1 x6).to),.int .i64 ((ix x1 x6).kids),.int .i64 ((ix x1 x6).leaf),.slice A145 (n68 + 1) c146,.int .i64 x6]) (M':=[.own (.slice (some ⟨gb143,0,none⟩) 1 1) 96 9 1 [.string r121.1.node.name,.bool r121.1.node.named,.string r121.1.node.field,.int .i64 r121.1.node.from_,.int .i64 r121.1.node.to,.int .i64 r121.1.node.kids,.int .i64 r121.1.node.leaf,.slice A123 n124 c125,.int .i64 r121.1.at_],.box gb135 96 [.string r121.1.node.name,.bool r121.1.node.named,.string r121.1.node.field,.int .i64 r121.1.node.from_,.int .i64 r121.1.node.to,.int .i64 r121.1.node.kids,.int .i64 r121.1.node.leaf,.slice A123 n124 c125,.int .i64 r121.1.at_],.own (.slice A145 (n68 + 1) c146) 96 9 (n68 + 1) cs154,.box gb19 96 [.string ((ix x1 x6).name),.bool ((ix x1 x6).named),.string ((ix x1 x6).field),.int .i64 ((ix x1 x6).from_),.int .i64 ((ix x1 x6).to),.int .i64 ((ix x1 x6).kids),.int .i64 ((ix x1 x6).leaf),.slice A145 (n68 + 1) c146,.int .i64 x6],.box gb7 96 [.string (⟨#[]⟩:ByteArray),.bool false,.string (⟨#[]⟩:ByteArray),.int .i64 0,.int .i64 0,.int .i64 0,.int .i64 0,.slice none 0 0,.int .i64 0]]) 3 sz_89 rfl rfl rfl rfl rfl rfl rfl rfl rfl ?_) gn
      refine Xmc 7 rfl<|Xm8 rfl rfl<|Xm5 0 rfl (Xm7 rfl) gn rfl<|Xm5 1 rfl (Xm9 rfl) gn rfl<|Xmc 2 rfl<|Xnh<|Xm8 rfl rfl<|Xm5 0 rfl (Xm7 rfl) gn rfl<|Xm5 1 rfl (Xmk rfl rfl rfl) gn rfl<|Xm5 2 rfl (Xm9 rfl) gn rfl<|Xmc 3 rfl<|Xo7 ?_
      have ih:=Out.inl hO1 h
      exact Xnj [0,4,5] (ih A145 (n68 + 1) c146 h147 cs154 sw148 sb149 hC156) ⟨rfl,rfl,rfl,rfl,rfl,rfl,trivial⟩ (.cons _ (.cons _ (.cons_cons _ (.cons_cons _ (.cons_cons _ (.slnil)))))) rfl
     ·have h:=Xmg hp137 h
      refine Xmy rfl _ rfl ((nt (bf hp137)))<|Xmb rfl<|Xm8 rfl rfl<|Xm5 0 rfl (Xr0 #[.string (⟨#[]⟩:ByteArray),.bool false,.string (⟨#[]⟩:ByteArray),.int .i64 0,.int .i64 0,.int .i64 0,.int .i64 0,.slice none 0 0,.int .i64 0] Ye3 rfl (by kernel_rfl)) gn rfl<|Xm5 1 rfl (Xm7 rfl) gn rfl ?_
      refine Xmw 2 rfl (Xpk (vs:=[.string (⟨#[]⟩:ByteArray),.bool false,.string (⟨#[]⟩:ByteArray),.int .i64 0,.int .i64 0,.int .i64 0,.int .i64 0,.slice none 0 0,.int .i64 0]) (cs':=[.string (⟨#[]⟩:ByteArray),.bool false,.string (⟨#[]⟩:ByteArray),.int .i64 0,.int .i64 0,.int .i64 0,.int .i64 0,.slice none 0 0,.int .i64 0]) (M':=[.box gb135 96 [.string r121.1.node.name,.bool r121.1.node.named,.string r121.1.node.field,.int .i64 r121.1.node.from_,.int .i64 r121.1.node.to,.int .i64 r121.1.node.kids,.int .i64 r121.1.node.leaf,.slice A123 n124 c125,.int .i64 r121.1.at_],.own (.slice A123 n124 c125) 96 9 n124 cs128,.own (.slice A67 n68 c69) 96 9 n68 cs71,.box gb19 96 [.string ((ix x1 x6).name),.bool ((ix x1 x6).named),.string ((ix x1 x6).field),.int .i64 ((ix x1 x6).from_),.int .i64 ((ix x1 x6).to),.int .i64 ((ix x1 x6).kids),.int .i64 ((ix x1 x6).leaf),.slice A67 n68 c69,.int .i64 x6],.box gb7 96 [.string (⟨#[]⟩:ByteArray),.bool false,.string (⟨#[]⟩:ByteArray),.int .i64 0,.int .i64 0,.int .i64 0,.int .i64 0,.slice none 0 0,.int .i64 0]]) 4 Xww rfl rfl rfl rfl rfl rfl rfl rfl rfl ?_) gn
      refine Xm5 3 rfl (Xm9 rfl) gn rfl<|Xm5 4 rfl (Xm9 rfl) gn rfl<|Xmc 5 rfl<|Xrf 96 9 ?_
      have h:=Out.inr hO1 h
      refine Xmt [.agg #[.string (⟨#[]⟩:ByteArray),.bool false,.string (⟨#[]⟩:ByteArray),.int .i64 0,.int .i64 0,.int .i64 0,.int .i64 0,.slice none 0 0,.int .i64 0],.int .i64 x6,.bool false] rfl Try.func67 rfl (.cell (cs:=[.string (⟨#[]⟩:ByteArray),.bool false,.string (⟨#[]⟩:ByteArray),.int .i64 0,.int .i64 0,.int .i64 0,.int .i64 0,.slice none 0 0,.int .i64 0]) (us:=[.string (⟨#[]⟩:ByteArray),.bool false,.string (⟨#[]⟩:ByteArray),.int .i64 0,.int .i64 0,.int .i64 0,.int .i64 0,.slice none 0 0,.int .i64 0]) 5 rfl Xw9 rfl rfl rfl (.tmp rfl (.tmp rfl (.nil)))) fun wr hLr=>?_
      have hMr:=hLr.pkI (.c 0 rfl .n) (.c 1 rfl (.c 2 rfl (.c 3 rfl (.c 4 rfl (.c 5 rfl .n))))) (by kernel_rfl) (.c 3 rfl .n)
      have hMi:=hLr.selI (.c 0 rfl .n)
      show Xpr w F  r (.returned (Xmz [.agg #[.string (⟨#[]⟩:ByteArray),.bool false,.string (⟨#[]⟩:ByteArray),.int .i64 0,.int .i64 0,.int .i64 0,.int .i64 0,.slice none 0 0,.int .i64 0],.int .i64 x6,.bool false])) wr
      rw [h]
      exact ⟨none,0,0,[],rfl,hMr,(Ow.nil (z:=w.heap.size)),(hLr.outC (s:=Sm w.heap.size F w []) hMi (me 2 rfl) Sm.ok Cells.nil)⟩
    ·have h:=Xmg hp117 h
     refine Xmr rfl _ rfl ((decide_eq_false hp117))<|Xqk [.code Ycp] rfl rfl<|Xmb rfl<|Xm8 rfl rfl<|Xm5 0 rfl (Xq7 [.string ((ix x1 x6).name),.bool ((ix x1 x6).named),.string ((ix x1 x6).field),.int .i64 ((ix x1 x6).from_),.int .i64 ((ix x1 x6).to),.int .i64 ((ix x1 x6).kids),.int .i64 ((ix x1 x6).leaf),.slice A67 n68 c69,.int .i64 x6] 1 Xw9 rfl rfl rfl rfl) gn rfl<|Xm5 1 rfl (Xm7 rfl) gn rfl ?_
     refine Xmw 2 rfl (Xpk (vs:=[.string ((ix x1 x6).name),.bool ((ix x1 x6).named),.string ((ix x1 x6).field),.int .i64 ((ix x1 x6).from_),.int .i64 ((ix x1 x6).to),.int .i64 ((ix x1 x6).kids),.int .i64 ((ix x1 x6).leaf),.slice A67 n68 c69,.int .i64 x6]) (cs':=[.string ((ix x1 x6).name),.bool ((ix x1 x6).named),.string ((ix x1 x6).field),.int .i64 ((ix x1 x6).from_),.int .i64 ((ix x1 x6).to),.int .i64 ((ix x1 x6).kids),.int .i64 ((ix x1 x6).leaf),.slice A67 n68 c69,.int .i64 x6]) (M':=[.own (.slice A67 n68 c69) 96 9 n68 cs71,.box gb19 96 [.string ((ix x1 x6).name),.bool ((ix x1 x6).named),.string ((ix x1 x6).field),.int .i64 ((ix x1 x6).from_),.int .i64 ((ix x1 x6).to),.int .i64 ((ix x1 x6).kids),.int .i64 ((ix x1 x6).leaf),.slice A67 n68 c69,.int .i64 x6],.box gb7 96 [.string ((ix x1 x6).name),.bool ((ix x1 x6).named),.string ((ix x1 x6).field),.int .i64 ((ix x1 x6).from_),.int .i64 ((ix x1 x6).to),.int .i64 ((ix x1 x6).kids),.int .i64 ((ix x1 x6).leaf),.slice A67 n68 c69,.int .i64 x6]]) 2 Xww rfl rfl rfl rfl rfl rfl rfl rfl rfl ?_) gn
     refine Xm5 3 rfl (Xm9 rfl) gn rfl<|Xm5 4 rfl (Xm9 rfl) gn rfl<|Xmc 5 rfl ?_
     have h:=Out.inr hO1 h
     refine Xmt [.agg #[.string ((ix x1 x6).name),.bool ((ix x1 x6).named),.string ((ix x1 x6).field),.int .i64 ((ix x1 x6).from_),.int .i64 ((ix x1 x6).to),.int .i64 ((ix x1 x6).kids),.int .i64 ((ix x1 x6).leaf),.slice A67 n68 c69,.int .i64 x6],.int .i64 x64,.bool true] rfl Try.func67 rfl (.cell (cs:=[.string ((ix x1 x6).name),.bool ((ix x1 x6).named),.string ((ix x1 x6).field),.int .i64 ((ix x1 x6).from_),.int .i64 ((ix x1 x6).to),.int .i64 ((ix x1 x6).kids),.int .i64 ((ix x1 x6).leaf),.slice A67 n68 c69,.int .i64 x6]) (us:=[.string ((ix x1 x6).name),.bool ((ix x1 x6).named),.string ((ix x1 x6).field),.int .i64 ((ix x1 x6).from_),.int .i64 ((ix x1 x6).to),.int .i64 ((ix x1 x6).kids),.int .i64 ((ix x1 x6).leaf),.slice A67 n68 c69,.int .i64 x6]) 2 rfl Xw9 rfl rfl rfl (.tmp rfl (.tmp rfl (.nil)))) fun wr hLr=>?_
     have hMr:=hLr.pkI (.c 0 rfl .n) (.c 1 rfl (.c 2 rfl .n)) (by kernel_rfl) (.c 2 rfl .n)
     have hMi:=hLr.selI (.c 0 rfl .n)
     show Xpr w F  r (.returned (Xmz [.agg #[.string ((ix x1 x6).name),.bool ((ix x1 x6).named),.string ((ix x1 x6).field),.int .i64 ((ix x1 x6).from_),.int .i64 ((ix x1 x6).to),.int .i64 ((ix x1 x6).kids),.int .i64 ((ix x1 x6).leaf),.slice A67 n68 c69,.int .i64 x6],.int .i64 x64,.bool true])) wr
     rw [h]
     exact ⟨A67,n68,c69,cs71,rfl,hMr,h70,(hLr.outC (s:=Sm w.heap.size F sw72 sb73) hMi (me 0 rfl) Sm.ok hC74)⟩
   refine Xrf 96 9 ?_
   exact Xnj [0,0,1] (key2 _ h none 0 0 (Ow.nil (z:=w.heap.size)) [] w [] Cells.nil) ⟨rfl,rfl,rfl,rfl,rfl,rfl,trivial⟩ (.cons_cons _ (.cons_cons _ (.cons_cons _ (.slnil)))) rfl
 refine Xm8 rfl rfl<|Xm5 0 rfl (Xm7 rfl) gn rfl<|Xm5 1 rfl (Xm7 rfl) gn rfl<|Xm5 2 rfl (Xmm Xsc rfl h5.hq) gn rfl<|Xm5 3 rfl (Xmk rfl rfl rfl) gn rfl<|Xm5 4 rfl (Xm7 rfl) gn rfl ?_
 by_cases hp157:x6≥(x1.length:Int)
 ·have h:=Xmf hp157 h
  refine Xn6 17 rfl ((decide_eq_true hp157))<|Xma 5 rfl (ps 17 rfl rfl rfl)<|Xma 6 rfl (ps 17 rfl rfl rfl)<|Xma 7 rfl (ps 17 rfl rfl rfl)<|Xma 8 rfl (ps 17 rfl rfl rfl)<|Xma 9 rfl (ps 17 rfl rfl rfl)<|Xma 10 rfl (ps 17 rfl rfl rfl)<|Xm5 11 rfl (Xmn (b:=true) rfl rfl) gn rfl<|Xm5 12 rfl (Xm7 rfl) gn rfl<|Xma 13 rfl (ps 25 rfl rfl rfl)<|Xma 14 rfl (ps 25 rfl rfl rfl)<|Xma 15 rfl (ps 25 rfl rfl rfl) ?_
  refine Xma 16 rfl (ps 25 rfl rfl rfl)<|Xma 17 rfl (ps 25 rfl rfl rfl)<|Xma 18 rfl (ps 25 rfl rfl rfl)<|Xma 19 rfl (ps 25 rfl rfl rfl)<|Xma 20 rfl (ps 25 rfl rfl rfl)<|Xm5 21 rfl (Xmn (b:=true) rfl rfl) gn rfl<|Xmc 22 rfl ?_
  exact Xnj [0,1] (j1 true h) ⟨rfl,rfl,rfl,rfl,trivial⟩ (.cons_cons _ (.slnil)) rfl
 ·have h:=Xmg hp157 h
  refine Xn6 17 rfl ((decide_eq_false hp157))<|Xm5 5 rfl (Xm7 rfl) (gy 17 rfl rfl) rfl<|Xm5 6 rfl (Xm7 rfl) (gy 17 rfl rfl) rfl ?_
  obtain ⟨hb158,h⟩:=h
  have hr159:=Rw.readF (s:=St w []) (hl:=Xmv) (h1:=Xna) h5 hb158
  refine Xm5 7 rfl (Xn4 (s:=St w []) Xqi rfl rfl h5 hb158) (gy 17 rfl rfl) rfl<|Xm5 8 rfl (Xo6 Xsf rfl) (gy 17 rfl rfl) rfl<|Xm5 9 rfl (Xnl (kk:=(x6:Int).toNat * 7) (j:=5) (St w []) Xql rfl hr159 rfl (me 1 rfl)) (gy 17 rfl rfl) rfl<|Xm5 10 rfl (Xmk rfl rfl rfl) (gy 17 rfl rfl) rfl<|Xm5 11 rfl (Xmn (b:=false) rfl rfl) gn rfl<|Xm5 12 rfl (Xm7 rfl) gn rfl ?_
  by_cases hp160:(ix x1 x6).kids < 0
  ·have h:=Xmf hp160 h
   refine Xn6 25 rfl ((decide_eq_true hp160))<|Xma 13 rfl (ps 25 rfl rfl rfl)<|Xma 14 rfl (ps 25 rfl rfl rfl)<|Xma 15 rfl (ps 25 rfl rfl rfl)<|Xma 16 rfl (ps 25 rfl rfl rfl)<|Xma 17 rfl (ps 25 rfl rfl rfl)<|Xma 18 rfl (ps 25 rfl rfl rfl)<|Xma 19 rfl (ps 25 rfl rfl rfl)<|Xma 20 rfl (ps 25 rfl rfl rfl)<|Xm5 21 rfl (Xmn (b:=true) rfl rfl) gn rfl<|Xmc 22 rfl ?_
   exact Xnj [0,1] (j1 true h) ⟨rfl,rfl,rfl,rfl,trivial⟩ (.cons_cons _ (.slnil)) rfl
  ·have h:=Xmg hp160 h
   refine Xn6 25 rfl ((decide_eq_false hp160))<|Xm5 13 rfl (Xm7 rfl) (gy 25 rfl rfl) rfl<|Xm5 14 rfl (Xm7 rfl) (gy 25 rfl rfl) rfl ?_
   have hr161:=Rw.readF (s:=St w []) (hl:=Xmv) (h1:=Xna) h5 hb158
   refine Xm5 15 rfl (Xn4 (s:=St w []) Xqi rfl rfl h5 hb158) (gy 25 rfl rfl) rfl<|Xm5 16 rfl (Xo6 Xsf rfl) (gy 25 rfl rfl) rfl<|Xm5 17 rfl (Xnl (kk:=(x6:Int).toNat * 7) (j:=5) (St w []) Xql rfl hr161 rfl (me 1 rfl)) (gy 25 rfl rfl) rfl<|Xm5 18 rfl (Xm7 rfl) (gy 25 rfl rfl) rfl<|Xm5 19 rfl (Xmm Xsc rfl h5.hq) (gy 25 rfl rfl) rfl<|Xm5 20 rfl (Xmk rfl rfl rfl) (gy 25 rfl rfl) rfl<|Xm5 21 rfl (Xmn (b:=false) rfl rfl) gn rfl<|Xmc 22 rfl ?_
   exact Xnj [0,1] (j1 (decide ((ix x1 x6).kids > (x1.length:Int))) h) ⟨rfl,rfl,rfl,rfl,trivial⟩ (.cons_cons _ (.slnil)) rfl
theorem Xtm:∀ n,Xsa (Xn2 n)
 | 0=>fun w F x1 x6 A2 n3 c4 h5 hF hL0 r h=>h.elim
 | n + 1=>by
  have ih:=Xtm n
  exact Xwo _ ih
theorem Xvz (w:World) (F:Nat→Prop) (x1:List Xm4) (x6:Int) (A2:Option Addr) (n3:Nat) (c4:Nat) (h5:Rw Xmo w (St w []).av A2 n3 c4 x1) (hF:∀ b,F b→b < w.heap.size∧∀ o ∈ ([]:List (List Nat)),b ∉ o) (hL0:B.Loc w w [] [Sm w.heap.size F w [],St w []]) (r:Xm6 × Int × Bool) (h:Xvf x1 x6 r):Calls Try.prog 67 #[.slice A2 n3 c4,.int .i64 x6] w (Xpr w F  r):=by
 obtain ⟨n,h⟩:=h
 exact (Xtm n) w F x1 x6 A2 n3 c4 h5 hF hL0 r h
noncomputable abbrev q47c8:=Code.snd (Code.snd (Code.snd (Code.snd (Xnv Try.f47))))
noncomputable abbrev Xzd:=Code.fst (Code.fst (Code.fst (Code.snd (Code.snd (Code.snd (Xnv Try.f47))))))
abbrev Xqx (w:World) (F:Nat→Prop) (r:(List Xm6) × Bool):Ending→World→Prop:=fun e w'=>∃ A0:Option Addr,∃ n0:Nat,∃ c0:Nat,∃ cs0:List Value,e=.returned (.tuple #[.slice A0 n0 c0,.bool r.2])∧B.Loc w w' [.own (.slice A0 n0 c0) 96 9 n0 cs0] [St w []]∧Ow w.heap.size A0 n0 c0 r.1∧Cells Xmd w' (Nw w w' F [.own (.slice A0 n0 c0) 96 9 n0 cs0]) r.1 cs0
noncomputable abbrev Xqw (w:World) (F:Nat→Prop) (r:(List Xm6) × Bool):Cx:=⟨Try.prog,47,Try.f47,28,Xqx w F  r,w⟩
theorem Xv4 (w:World) (F:Nat→Prop) (x1:List Xm4) (A2:Option Addr) (n3:Nat) (c4:Nat) (h5:Rw Xmo w (St w []).av A2 n3 c4 x1) (hF:∀ b,F b→b < w.heap.size∧∀ o ∈ ([]:List (List Nat)),b ∉ o) (hL0:B.Loc w w [] [Sm w.heap.size F w [],St w []]) (r:(List Xm6) × Bool) (h:Xog x1 r):Calls Try.prog 47 #[.slice A2 n3 c4] w (Xqx w F  r):=by
 unfold Xog at h
 refine Xmq (vs:=[.slice A2 n3 c4]) 28 Try.func47 rfl Try.ntmps47 rfl hL0 ?_
 show G (Xqw w F r) _ _ _ _
 refine Xmb rfl<|Xm8 rfl rfl<|Xm5 0 rfl (Xm9 rfl) gn rfl<|Xm5 1 rfl (Xm9 rfl) gn rfl<|Xmc 2 rfl<|Xmb rfl<|Xm8 rfl rfl<|Xm5 0 rfl (Xm9 rfl) gn rfl<|Xmc 1 rfl<|Xmb rfl<|Xm8 rfl rfl<|Xm5 0 rfl (Xm9 rfl) gn rfl ?_
 refine Xmc 1 rfl<|Xmb rfl<|Xn8 rfl<|Xqz rfl ?_
 have key1:∀ s,Xmh (fun (s:(List Xm6) × Int) o=>Xn0 x1 s.1 s.2 o) s r→(fun (s:(List Xm6) × Int)=>∀ (A49:Option Addr) (n50:Nat) (c51:Nat) (h52:Ow w.heap.size A49 n50 c51 s.1) (cs53:List Value) (sw54:World) (sb55:List (List Nat)) (hC56:Cells Xmd (Sm w.heap.size F sw54 sb55).w (Sm w.heap.size F sw54 sb55).av s.1 cs53),G (Xqw w F r) [.code Xzd,.inLoop Xzd,.inBlock 0,.code q47c8] [(0,.slice A2 n3 c4),(4,.slice A49 n50 c51),(5,.int .i64 s.2)] [.own (.slice A49 n50 c51) 96 9 n50 cs53] [Sm w.heap.size F sw54 sb55,Sm w.heap.size F w [],St w []]) s:=by
  intro s hs
  refine Xmh.ind (mot:=(fun (s:(List Xm6) × Int)=>∀ (A49:Option Addr) (n50:Nat) (c51:Nat) (h52:Ow w.heap.size A49 n50 c51 s.1) (cs53:List Value) (sw54:World) (sb55:List (List Nat)) (hC56:Cells Xmd (Sm w.heap.size F sw54 sb55).w (Sm w.heap.size F sw54 sb55).av s.1 cs53),G (Xqw w F r) [.code Xzd,.inLoop Xzd,.inBlock 0,.code q47c8] [(0,.slice A2 n3 c4),(4,.slice A49 n50 c51),(5,.int .i64 s.2)] [.own (.slice A49 n50 c51) 96 9 n50 cs53] [Sm w.heap.size F sw54 sb55,Sm w.heap.size F w [],St w []])) ?_ hs
  clear hs s
  intro s o1 h hO1
  obtain ⟨x48,x57⟩:=s
  show ∀ (A49:Option Addr) (n50:Nat) (c51:Nat) (h52:Ow w.heap.size A49 n50 c51 x48) (cs53:List Value) (sw54:World) (sb55:List (List Nat)) (hC56:Cells Xmd (Sm w.heap.size F sw54 sb55).w (Sm w.heap.size F sw54 sb55).av x48 cs53),G (Xqw w F r) [.code Xzd,.inLoop Xzd,.inBlock 0,.code q47c8] [(0,.slice A2 n3 c4),(4,.slice A49 n50 c51),(5,.int .i64 x57)] [.own (.slice A49 n50 c51) 96 9 n50 cs53] [Sm w.heap.size F sw54 sb55,Sm w.heap.size F w [],St w []]
  intro A49 n50 c51 h52 cs53 sw54 sb55 hC56
  have h:Xn0 x1 x48 x57 o1:=h
  unfold Xn0 at h
  refine Xmb rfl<|Xmb rfl<|Xm8 rfl rfl<|Xm5 0 rfl (Xm7 rfl) gn rfl<|Xm5 1 rfl (Xm7 rfl) gn rfl<|Xm5 2 rfl (Xmm Xsc rfl h5.hq) gn rfl<|Xm5 3 rfl (Xmk rfl rfl rfl) gn rfl<|Xmc 4 rfl ?_
  by_cases hp98:x57 < (x1.length:Int)
  ·have h:=Xmf hp98 h
   refine Xmy rfl _ rfl ((decide_eq_true hp98))<|Xn1 rfl<|Xn8 rfl<|Xmb rfl<|Xm8 rfl rfl<|Xm5 0 rfl (Xm7 rfl) gn rfl<|Xm5 1 rfl (Xm7 rfl) gn rfl ?_
   obtain ⟨r102,hv103,h⟩:=h
   refine Xmw 2 rfl (Xne [.slice A2 n3 c4,.int .i64 x57] rfl Try.func67 rfl rfl rfl fun w99 hL100=>?_) gn
   have hp101:=pmI hL100 .n (.c 0 rfl .n) (by kernel_rfl)
   refine Calls.mono (Xvz w99 (Fl ([]:List Xmp)) x1 x57 A2 n3 c4 (Rw.mono h5 (hL100.toSt hp101 (me 2 rfl))) (hL100.hFl hp101 (Xms [] rfl)) (hL100.into hp101 _) r102 hv103) ?_
   rintro _ w111 ⟨A104,n105,c106,cs109,rfl,hM112,h107,hC110⟩
   obtain ⟨sb115,hL113,hv114⟩:=hL100.callB (Sl:=([]:List Xmp)) hp101 hM112 F (Xms [] rfl) trivial
   have hC110:Cells Xmd (Sm w.heap.size F w111 sb115).w (Sm w.heap.size F w111 sb115).av r102.1.kids cs109:=Cells.mono hv114 hC110
   refine ⟨_,_,_,rfl,hL113,?_⟩
   refine Xm5 3 rfl (Xm7 rfl) gn rfl<|Xm5 4 rfl (Xt2 rfl rfl) gn rfl<|Xm5 5 rfl (Xt2 rfl rfl) gn rfl<|Xm5 6 rfl (Xt2 rfl rfl) gn rfl ?_
   refine Xmw 7 rfl (Xpf [.string (⟨#[]⟩:ByteArray),.bool false,.string (⟨#[]⟩:ByteArray),.int .i64 0,.int .i64 0,.int .i64 0,.int .i64 0,.slice none 0 0,.int .i64 0] Xz5 rfl fun gb116=>?_) gn
   refine Xmw 8 rfl (Xpk (vs:=[.string r102.1.node.name,.bool r102.1.node.named,.string r102.1.node.field,.int .i64 r102.1.node.from_,.int .i64 r102.1.node.to,.int .i64 r102.1.node.kids,.int .i64 r102.1.node.leaf,.slice A104 n105 c106,.int .i64 r102.1.at_]) (cs':=[.string r102.1.node.name,.bool r102.1.node.named,.string r102.1.node.field,.int .i64 r102.1.node.from_,.int .i64 r102.1.node.to,.int .i64 r102.1.node.kids,.int .i64 r102.1.node.leaf,.slice A104 n105 c106,.int .i64 r102.1.at_]) (M':=[.box gb116 96 [.string r102.1.node.name,.bool r102.1.node.named,.string r102.1.node.field,.int .i64 r102.1.node.from_,.int .i64 r102.1.node.to,.int .i64 r102.1.node.kids,.int .i64 r102.1.node.leaf,.slice A104 n105 c106,.int .i64 r102.1.at_],.own (.slice A104 n105 c106) 96 9 n105 cs109,.own (.slice A49 n50 c51) 96 9 n50 cs53]) 0 Xww rfl rfl rfl rfl rfl rfl rfl rfl rfl ?_) gn
   refine Xm5 9 rfl (Xm9 rfl) gn rfl<|Xm5 10 rfl (Xm9 rfl) gn rfl<|Xmc 11 rfl<|Xmb rfl<|Xmb rfl<|Xm8 rfl rfl<|Xm5 0 rfl (Xm7 rfl) gn rfl<|Xm5 1 rfl (Xrz rfl) gn rfl<|Xmc 2 rfl ?_
   by_cases hp118:r102.2.2=true
   ·have h:=Xmf hp118 h
    refine Xmr rfl _ rfl ((nf hp118))<|Xn1 rfl<|Xmb rfl<|Xm8 rfl rfl<|Xm5 0 rfl (Xm7 rfl) gn rfl<|Xm5 1 rfl (Xq7 [.string r102.1.node.name,.bool r102.1.node.named,.string r102.1.node.field,.int .i64 r102.1.node.from_,.int .i64 r102.1.node.to,.int .i64 r102.1.node.kids,.int .i64 r102.1.node.leaf,.slice A104 n105 c106,.int .i64 r102.1.at_] 0 Xw9 rfl rfl rfl rfl) gn rfl ?_
    refine Yd3 (F:=F) (dk:=Xmd) (Sm w.heap.size F w111 sb115) 1 rfl (Ow.weak hL100.env.size h107) (me 0 rfl) Sm.ok hC110 fun sw120 sb121 h119=>?_
    have hC123:Cells Xmd (Sm w.heap.size F sw120 sb121).w (Sm w.heap.size F sw120 sb121).av ([r102.1]:List Xm6) [.string r102.1.node.name,.bool r102.1.node.named,.string r102.1.node.field,.int .i64 r102.1.node.from_,.int .i64 r102.1.node.to,.int .i64 r102.1.node.kids,.int .i64 r102.1.node.leaf,.slice A104 n105 c106,.int .i64 r102.1.at_]:=(Cells.cons (c1:=[.string r102.1.node.name,.bool r102.1.node.named,.string r102.1.node.field,.int .i64 r102.1.node.from_,.int .i64 r102.1.node.to,.int .i64 r102.1.node.kids,.int .i64 r102.1.node.leaf,.slice A104 n105 c106,.int .i64 r102.1.at_]) (Xob ⟨A104,n105,c106,rfl,h119⟩) Cells.nil)
    refine Xmw 2 rfl (Xqd (xs:=([r102.1]:List Xm6)) [.string r102.1.node.name,.bool r102.1.node.named,.string r102.1.node.field,.int .i64 r102.1.node.from_,.int .i64 r102.1.node.to,.int .i64 r102.1.node.kids,.int .i64 r102.1.node.leaf,.slice A104 n105 c106,.int .i64 r102.1.at_] Xxo rfl (by kernel_rfl) rfl rfl rfl rfl fun gb124 h125=>?_) gn
    obtain ⟨x132,hv133,h⟩:=h
    obtain ⟨hb134,h⟩:=h
    refine Ycd (F:=F) fun sw129 sb130 ho131=>?_
    obtain ⟨cs135,hc136⟩:∃ x:List Value,x=cs53++[.string r102.1.node.name,.bool r102.1.node.named,.string r102.1.node.field,.int .i64 r102.1.node.from_,.int .i64 r102.1.node.to,.int .i64 r102.1.node.kids,.int .i64 r102.1.node.leaf,.slice A104 n105 c106,.int .i64 r102.1.at_]:=⟨_,rfl⟩
    have hC137:Cells Xmd (Sm w.heap.size F sw129 sb130).w (Sm w.heap.size F sw129 sb130).av x132 cs135:=by rw [hv133,hc136]; exact Cells.app (Cells.older (s:=Sm w.heap.size F sw54 sb55) hC56 (ho131 _ (me 2 rfl) Sm.ok)) (Cells.older (s:=Sm w.heap.size F sw120 sb121) hC123 (ho131 _ (me 0 rfl) Sm.ok))
    refine Xmw 3 rfl (Xrg (zs:=x132) 2 Yby rfl rfl rfl h52 (Nat.le_refl _) (Src.ownAll 0 rfl h125 hC123) hc136.symm (Xok hv133 h125.hq) hb134 rfl rfl fun A126 c127 h128=>?_) gn
    refine Xm5 4 rfl (Xm9 rfl) gn rfl<|Xmc 5 rfl<|Xm8 rfl rfl<|Xm5 0 rfl (Xm7 rfl) gn rfl<|Xm5 1 rfl (Xm9 rfl) gn rfl<|Xmc 2 rfl<|Xnh<|Xo7 ?_
    have ih:=Out.inl hO1 h
    exact Xnj [0,4,5] (ih A126 (n50 + 1) c127 h128 cs135 sw129 sb130 hC137) ⟨rfl,rfl,rfl,trivial⟩ (.cons _ (.cons _ (.cons_cons _ (.slnil)))) rfl
   ·have h:=Xmg hp118 h
    refine Xmy rfl _ rfl ((nt (bf hp118)))<|Xmb rfl<|Xm8 rfl rfl<|Xm5 0 rfl (Xm9 rfl) gn rfl<|Xm5 1 rfl (Xm9 rfl) gn rfl<|Xmc 2 rfl<|Xrf 96 9 ?_
    have h:=Out.inr hO1 h
    refine Xmt [.slice none 0 0,.bool false] rfl Try.func47 rfl (.tmp rfl (.tmp rfl (.nil))) fun wr hLr=>?_
    have hMr:=hLr.pkI (.c 0 rfl .n) (.c 1 rfl (.c 2 rfl (.c 3 rfl .n))) (by kernel_rfl) (.c 3 rfl .n)
    have hMi:=hLr.selI (.c 0 rfl .n)
    show Xqx w F  r (.returned (Xmz [.slice none 0 0,.bool false])) wr
    rw [h]
    exact ⟨none,0,0,[],rfl,hMr,(Ow.nil (z:=w.heap.size)),(hLr.outC (s:=Sm w.heap.size F w []) hMi (me 2 rfl) Sm.ok Cells.nil)⟩
  ·have h:=Xmg hp98 h
   refine Xmr rfl _ rfl ((decide_eq_false hp98))<|Xqk [.code q47c8] rfl rfl<|Xmb rfl<|Xm8 rfl rfl<|Xm5 0 rfl (Xm7 rfl) gn rfl<|Xm5 1 rfl (Xm9 rfl) gn rfl<|Xm5 2 rfl (Xm9 rfl) gn rfl<|Xmc 3 rfl ?_
   have h:=Out.inr hO1 h
   refine Xmt [.slice A49 n50 c51,.bool true] rfl Try.func47 rfl (.tmp rfl (.tmp rfl (.nil))) fun wr hLr=>?_
   have hMr:=hLr.pkI (.c 0 rfl .n) .n (by kernel_rfl) (.c 2 rfl .n)
   have hMi:=hLr.selI (.c 0 rfl .n)
   show Xqx w F  r (.returned (Xmz [.slice A49 n50 c51,.bool true])) wr
   rw [h]
   exact ⟨A49,n50,c51,cs53,rfl,hMr,h52,(hLr.outC (s:=Sm w.heap.size F sw54 sb55) hMi (me 0 rfl) Sm.ok hC56)⟩
 refine Xrf 96 9 ?_
 exact Xnj [0,0,1] (key1 _ h none 0 0 (Ow.nil (z:=w.heap.size)) [] w [] Cells.nil) ⟨rfl,rfl,rfl,trivial⟩ (.cons_cons _ (.slnil)) rfl
noncomputable abbrev Ych:=Code.snd (Code.snd (Code.snd (Xnv Try.f27)))
noncomputable abbrev Xye:=Code.fst (Code.fst (Code.snd (Code.fst (Code.snd (Code.snd (Xnv Try.f27))))))
noncomputable abbrev q27c24:=Code.fst (Code.fst (Code.fst (Code.snd Xye)))
abbrev Xqg (w:World) (F:Nat→Prop) (r:Bool):Ending→World→Prop:=fun e w'=>e=.returned (.bool r)∧B.Loc w w' [] [St w []]
noncomputable abbrev Xrh (w:World) (F:Nat→Prop) (r:Bool):Cx:=⟨Try.prog,27,Try.f27,26,Xqg w F  r,w⟩
theorem Xq8 (w:World) (F:Nat→Prop) (x1:List Xm4) (x6:List Xm4) (A2:Option Addr) (n3:Nat) (c4:Nat) (A7:Option Addr) (n8:Nat) (c9:Nat) (h5:Rw Xmo w (St w []).av A2 n3 c4 x1) (h10:Rw Xmo w (St w []).av A7 n8 c9 x6) (hF:∀ b,F b→b < w.heap.size∧∀ o ∈ ([]:List (List Nat)),b ∉ o) (hL0:B.Loc w w [] [Sm w.heap.size F w [],St w []]) (r:Bool) (h:Xon x1 x6 r):Calls Try.prog 27 #[.slice A2 n3 c4,.slice A7 n8 c9] w (Xqg w F  r):=by
 unfold Xon at h
 refine Xmq (vs:=[.slice A2 n3 c4,.slice A7 n8 c9]) 26 Try.func27 rfl Try.ntmps27 rfl hL0 ?_
 show G (Xrh w F r) _ _ _ _
 refine Xmb rfl<|Xm8 rfl rfl<|Xm5 0 rfl (Xm9 rfl) gn rfl<|Xmc 1 rfl<|Xmb rfl<|Xmb rfl<|Xm8 rfl rfl<|Xm5 0 rfl (Xm7 rfl) gn rfl<|Xm5 1 rfl (Xmm Xsc rfl h5.hq) gn rfl<|Xm5 2 rfl (Xm7 rfl) gn rfl<|Xm5 3 rfl (Xmm Xsc rfl h10.hq) gn rfl<|Xm5 4 rfl (Xmk rfl rfl rfl) gn rfl ?_
 refine Xmc 5 rfl ?_
 by_cases hp11:(x1.length:Int)=(x6.length:Int)
 ·have h:=Xmf hp11 h
  refine Xmr rfl _ rfl ((eqib hp11))<|Xn1 rfl<|Xmb rfl<|Xmb rfl<|Xm8 rfl rfl<|Xm5 0 rfl (Xm9 rfl) gn rfl<|Xmc 1 rfl<|Xn8 rfl<|Xqz rfl ?_
  have key1:∀ s,Xmh (fun (s:Int) o=>Xp8 x1 x6 s o) s r→(fun (s:Int)=>∀ (_:Unit),G (Xrh w F r) [.code Xye,.inLoop Xye,.inBlock 0,.code Ych] [(0,.slice A2 n3 c4),(1,.slice A7 n8 c9),(5,.int .i64 s)] [] [Sm w.heap.size F w [],St w []]) s:=by
   intro s hs
   refine Xmh.ind (mot:=(fun (s:Int)=>∀ (_:Unit),G (Xrh w F r) [.code Xye,.inLoop Xye,.inBlock 0,.code Ych] [(0,.slice A2 n3 c4),(1,.slice A7 n8 c9),(5,.int .i64 s)] [] [Sm w.heap.size F w [],St w []])) ?_ hs
   clear hs s
   intro x23 o1 h hO1
   show ∀ (_:Unit),G (Xrh w F r) [.code Xye,.inLoop Xye,.inBlock 0,.code Ych] [(0,.slice A2 n3 c4),(1,.slice A7 n8 c9),(5,.int .i64 x23)] [] [Sm w.heap.size F w [],St w []]
   intro _
   have h:Xp8 x1 x6 x23 o1:=h
   unfold Xp8 at h
   refine Xmb rfl<|Xmb rfl<|Xm8 rfl rfl<|Xm5 0 rfl (Xm7 rfl) gn rfl<|Xm5 1 rfl (Xm7 rfl) gn rfl<|Xm5 2 rfl (Xmm Xsc rfl h5.hq) gn rfl<|Xm5 3 rfl (Xmk rfl rfl rfl) gn rfl<|Xmc 4 rfl ?_
   by_cases hp34:x23 < (x1.length:Int)
   ·have h:=Xmf hp34 h
    refine Xmy rfl _ rfl ((decide_eq_true hp34))<|Xn1 rfl<|Xmb rfl<|Xn8 rfl<|Xmb rfl ?_
    obtain ⟨hb35,h⟩:=h
    obtain ⟨hb37,h⟩:=h
    have hns:Region.noSelect (Code.ops q27c24)=true:=by kernel_rfl
    refine Xpl [] 9 rfl rfl mix rfl (.c 0 rfl (.c 1 rfl .n))<|wfv 0 rfl (Xm7 rfl) gn hns rfl<|wfv 1 rfl (Xm7 rfl) gn hns rfl ?_
    have hr41:=Rw.readF (s:=St w []) (hl:=Xmv) (h1:=Xna) h5 hb35
    refine wfv 2 rfl (Xn4 (s:=St w []) Xqi rfl rfl h5 hb35) gn hns rfl<|wfv 3 rfl (Xx1 (St w []) Xy1 rfl hr41 rfl (me 1 rfl)) gn hns rfl<|wfv 4 rfl (Xm7 rfl) gn hns rfl<|wfv 5 rfl (Xm7 rfl) gn hns rfl ?_
    have hr42:=Rw.readF (s:=St w []) (hl:=Xmv) (h1:=Xna) h10 hb37
    refine wfv 6 rfl (Xn4 (s:=St w []) Xqi rfl rfl h10 hb37) gn hns rfl<|wfv 7 rfl (Xx1 (St w []) Xy1 rfl hr42 rfl (me 1 rfl)) gn hns rfl<|wfv 8 rfl (v_neSt eq_39 rfl rfl (Ycu (ix x1 x23) (ix x6 x23))) gn hns rfl<|Xox (by kernel_rfl) ?_
    by_cases hp43:ix x1 x23=ix x6 x23
    ·have h:=Xmf hp43 h
     refine Xmr rfl _ rfl ((nf (decide_eq_true hp43)))<|Xn1 rfl<|Xnh<|Xm8 rfl rfl<|Xm5 0 rfl (Xm7 rfl) gn rfl<|Xm5 1 rfl (Xmk rfl rfl rfl) gn rfl<|Xm5 2 rfl (Xm9 rfl) gn rfl<|Xmc 3 rfl<|Xo7 ?_
     have ih:=Out.inl hO1 h
     exact Xnj [0,1] (ih ()) ⟨rfl,rfl,rfl,trivial⟩ (.slnil) rfl
    ·have h:=Xmg hp43 h
     refine Xmy rfl _ rfl ((nt (decide_eq_false hp43)))<|Xmb rfl<|Xm8 rfl rfl<|Xm5 0 rfl (Xm9 rfl) gn rfl<|Xmc 1 rfl ?_
     have h:=Out.inr hO1 h
     refine Xmt [.bool false] rfl Try.func27 rfl (.tmp rfl (.nil)) fun wr hLr=>?_
     have hMr:=hLr.pk0 (.c 1 rfl .n)
     show Xqg w F  r (.returned (Xmz [.bool false])) wr
     rw [h]
     exact ⟨rfl,hMr⟩
   ·have h:=Xmg hp34 h
    refine Xmr rfl _ rfl ((decide_eq_false hp34))<|Xqk [.code Ych] rfl rfl<|Xmb rfl<|Xm8 rfl rfl<|Xm5 0 rfl (Xm9 rfl) gn rfl<|Xmc 1 rfl ?_
    have h:=Out.inr hO1 h
    refine Xmt [.bool true] rfl Try.func27 rfl (.tmp rfl (.nil)) fun wr hLr=>?_
    have hMr:=hLr.pk0 (.c 1 rfl .n)
    show Xqg w F  r (.returned (Xmz [.bool true])) wr
    rw [h]
    exact ⟨rfl,hMr⟩
  exact Xnj [0,1] (key1 _ h ()) ⟨rfl,rfl,rfl,trivial⟩ (.slnil) rfl
 ·have h:=Xmg hp11 h
  refine Xmy rfl _ rfl ((neib hp11))<|Xmb rfl<|Xm8 rfl rfl<|Xm5 0 rfl (Xm9 rfl) gn rfl<|Xmc 1 rfl ?_
  refine Xmt [.bool false] rfl Try.func27 rfl (.tmp rfl (.nil)) fun wr hLr=>?_
  have hMr:=hLr.pk0 (.c 1 rfl .n)
  show Xqg w F  r (.returned (Xmz [.bool false])) wr
  rw [h]
  exact ⟨rfl,hMr⟩
abbrev Xq2 (w:World) (F:Nat→Prop) (r:Bool):Ending→World→Prop:=fun e w'=>e=.returned (.bool r)∧B.Loc w w' [] [St w []]
noncomputable abbrev Xxc (w:World) (F:Nat→Prop) (r:Bool):Cx:=⟨Try.prog,16,Try.f16,35,Xq2 w F  r,w⟩
theorem Xvn (w:World) (F:Nat→Prop) (x1:List Xm4) (k6:Nat) (x9:List Xm4) (A2:Option Addr) (n3:Nat) (c4:Nat) (A10:Option Addr) (n11:Nat) (c12:Nat) (h5:Rw Xmo w (St w []).av A2 n3 c4 x1) (hk7:k6≤n3) (h13:Rw Xmo w (St w []).av A10 n11 c12 x9) (hF:∀ b,F b→b < w.heap.size∧∀ o ∈ ([]:List (List Nat)),b ∉ o) (hL0:B.Loc w w [] [Sm w.heap.size F w [],St w []]) (r:Bool) (h:Xqs x1 k6 x9 r):Calls Try.prog 16 #[.slice A2 k6 c4,.slice A10 n11 c12] w (Xq2 w F  r):=by
 unfold Xqs at h
 have h8:=Rw.pre h5 hk7
 refine Xmq (vs:=[.slice A2 k6 c4,.slice A10 n11 c12]) 35 Try.func16 rfl Try.ntmps16 rfl hL0 ?_
 show G (Xxc w F r) _ _ _ _
 refine Xmb rfl<|Xm8 rfl rfl<|Xm5 0 rfl (Xm9 rfl) gn rfl<|Xmc 1 rfl<|Xmb rfl<|Xm8 rfl rfl<|Xm5 0 rfl (Xm7 rfl) gn rfl<|Xm5 1 rfl (Xm7 rfl) gn rfl ?_
 obtain ⟨r17,hv18,h⟩:=h
 refine Xmw 2 rfl (Xne [.slice A2 k6 c4,.slice A10 n11 c12] rfl Try.func27 rfl rfl rfl fun w14 hL15=>?_) gn
 have hp16:=pmI hL15 .n .n (by kernel_rfl)
 refine Calls.mono (Xq8 w14 (Fl ([]:List Xmp)) (x1.take k6) x9 A2 k6 c4 A10 n11 c12 (Rw.mono h8 (hL15.toSt hp16 (me 1 rfl))) (Rw.mono h13 (hL15.toSt hp16 (me 1 rfl))) (hL15.hFl hp16 (Xms [] rfl)) (hL15.into hp16 _) r17 hv18) ?_
 rintro _ w19 ⟨rfl,hM20⟩
 have hL21:=hL15.call hp16 hM20
 refine ⟨_,_,_,rfl,hL21,?_⟩
 refine Xm5 3 rfl (Xm9 rfl) gn rfl<|Xmc 4 rfl<|Xmb rfl<|Xm8 rfl rfl<|Xm5 0 rfl (Xm7 rfl) gn rfl<|Xm5 1 rfl (Xm7 rfl) gn rfl<|Xm5 2 rfl (Xmm Xsc rfl h13.hq) gn rfl<|Xm5 3 rfl (Xmk rfl rfl rfl) gn rfl ?_
 obtain ⟨hb22,h⟩:=h
 have hle23:(w64 ((x9.length:Int) + 2):Int).toNat≤n3:=by have q:=hb22; have q1:=h5.hq; omega
 have h24:=Rw.pre h5 hle23
 refine Xm5 4 rfl (Xuf (i:=w64 ((x9.length:Int) + 2)) Xqi rfl rfl (by have q:=hb22; have q1:=h5.hq; have q2:=h5.hn; omega) h8.hn rfl) gn rfl<|Xm5 5 rfl (Xm9 rfl) gn rfl<|Xmc 6 rfl<|Xmb rfl<|Xm8 rfl rfl<|Xm5 0 rfl (Xm7 rfl) gn rfl<|Xm5 1 rfl (Xm7 rfl) gn rfl ?_
 by_cases hp25:r17=true
 ·have h:=Xmf hp25 h
  refine Xn6 16 rfl (hp25)<|Xm5 2 rfl (Xm7 rfl) (gy 16 rfl rfl) rfl<|Xm5 3 rfl (Xm7 rfl) (gy 16 rfl rfl) rfl<|Xm5 4 rfl (Xmm Xsc rfl h13.hq) (gy 16 rfl rfl) rfl ?_
  obtain ⟨hb26,h⟩:=h
  have hr27:=Rw.readF (s:=St w []) (hl:=Xmv) (h1:=Xna) h24 hb26
  refine Xm5 5 rfl (Xn4 (s:=St w []) Xqi rfl rfl h24 hb26) (gy 16 rfl rfl) rfl<|Xm5 6 rfl (Xo6 Xsf rfl) (gy 16 rfl rfl) rfl<|Xm5 7 rfl (Xnl (kk:=((x9.length:Int):Int).toNat * 7) (j:=5) (St w []) Xql rfl hr27 rfl (me 1 rfl)) (gy 16 rfl rfl) rfl<|Xm5 8 rfl (Xmk rfl rfl rfl) (gy 16 rfl rfl) rfl<|Xm5 9 rfl (Xmn (b:=true) rfl rfl) gn rfl<|Xm5 10 rfl (Xm7 rfl) gn rfl ?_
  by_cases hp28:(ix (x1.take ((w64 ((x9.length:Int) + 2):Int).toNat)) (x9.length:Int)).kids = -71
  ·have h:=Xmf hp28 h
   refine Xn6 25 rfl ((eqi hp28))<|Xm5 11 rfl (Xm7 rfl) (gy 25 rfl rfl) rfl<|Xm5 12 rfl (Xm7 rfl) (gy 25 rfl rfl) rfl<|Xm5 13 rfl (Xmm Xsc rfl h13.hq) (gy 25 rfl rfl) rfl<|Xm5 14 rfl (Xmk rfl rfl rfl) (gy 25 rfl rfl) rfl ?_
   obtain ⟨hb29,h⟩:=h
   have hr30:=Rw.readF (s:=St w []) (hl:=Xmv) (h1:=Xna) h24 hb29
   refine Xm5 15 rfl (Xn4 (s:=St w []) Xqi rfl rfl h24 hb29) (gy 25 rfl rfl) rfl<|Xm5 16 rfl (Xo6 Xsf rfl) (gy 25 rfl rfl) rfl<|Xm5 17 rfl (Xnl (kk:=(w64 ((x9.length:Int) + 1):Int).toNat * 7) (j:=5) (St w []) Xql rfl hr30 rfl (me 1 rfl)) (gy 25 rfl rfl) rfl<|Xm5 18 rfl (Xmk rfl rfl rfl) (gy 25 rfl rfl) rfl<|Xm5 19 rfl (Xmn (b:=true) rfl rfl) gn rfl<|Xm5 20 rfl (Xm9 rfl) gn rfl<|Xmc 21 rfl ?_
   refine Xmt [.bool (((ix (x1.take ((w64 ((x9.length:Int) + 2):Int).toNat)) (w64 ((x9.length:Int) + 1))).kids) == (-72))] rfl Try.func16 rfl (.tmp rfl (.nil)) fun wr hLr=>?_
   have hMr:=hLr.pk0 (.c 1 rfl .n)
   show Xq2 w F  r (.returned (Xmz [.bool (((ix (x1.take ((w64 ((x9.length:Int) + 2):Int).toNat)) (w64 ((x9.length:Int) + 1))).kids) == (-72))])) wr
   rw [h]
   exact ⟨rfl,hMr⟩
  ·have h:=Xmg hp28 h
   refine Xn6 25 rfl ((nei hp28))<|Xma 11 rfl (ps 25 rfl rfl rfl)<|Xma 12 rfl (ps 25 rfl rfl rfl)<|Xma 13 rfl (ps 25 rfl rfl rfl)<|Xma 14 rfl (ps 25 rfl rfl rfl)<|Xma 15 rfl (ps 25 rfl rfl rfl)<|Xma 16 rfl (ps 25 rfl rfl rfl)<|Xma 17 rfl (ps 25 rfl rfl rfl)<|Xma 18 rfl (ps 25 rfl rfl rfl)<|Xm5 19 rfl (Xmn (b:=false) rfl rfl) gn rfl<|Xm5 20 rfl (Xm9 rfl) gn rfl<|Xmc 21 rfl ?_
   refine Xmt [.bool false] rfl Try.func16 rfl (.tmp rfl (.nil)) fun wr hLr=>?_
   have hMr:=hLr.pk0 (.c 1 rfl .n)
   show Xq2 w F  r (.returned (Xmz [.bool false])) wr
   rw [h]
   exact ⟨rfl,hMr⟩
 ·have h:=Xmg hp25 h
  refine Xn6 16 rfl ((bf hp25))<|Xma 2 rfl (ps 16 rfl rfl rfl)<|Xma 3 rfl (ps 16 rfl rfl rfl)<|Xma 4 rfl (ps 16 rfl rfl rfl)<|Xma 5 rfl (ps 16 rfl rfl rfl)<|Xma 6 rfl (ps 16 rfl rfl rfl)<|Xma 7 rfl (ps 16 rfl rfl rfl)<|Xma 8 rfl (ps 16 rfl rfl rfl)<|Xm5 9 rfl (Xmn (b:=false) rfl rfl) gn rfl<|Xm5 10 rfl (Xm7 rfl) gn rfl<|Xma 11 rfl (ps 25 rfl rfl rfl)<|Xma 12 rfl (ps 25 rfl rfl rfl) ?_
  refine Xma 13 rfl (ps 25 rfl rfl rfl)<|Xma 14 rfl (ps 25 rfl rfl rfl)<|Xma 15 rfl (ps 25 rfl rfl rfl)<|Xma 16 rfl (ps 25 rfl rfl rfl)<|Xma 17 rfl (ps 25 rfl rfl rfl)<|Xma 18 rfl (ps 25 rfl rfl rfl)<|Xm5 19 rfl (Xmn (b:=false) rfl rfl) gn rfl<|Xm5 20 rfl (Xm9 rfl) gn rfl<|Xmc 21 rfl ?_
  refine Xmt [.bool false] rfl Try.func16 rfl (.tmp rfl (.nil)) fun wr hLr=>?_
  have hMr:=hLr.pk0 (.c 1 rfl .n)
  show Xq2 w F  r (.returned (Xmz [.bool false])) wr
  rw [h]
  exact ⟨rfl,hMr⟩
noncomputable abbrev q24c4:=Code.snd (Code.snd (Xnv Try.f24))
noncomputable abbrev Yc0:=Code.fst (Code.fst (Code.snd (Code.fst (Code.snd (Xnv Try.f24)))))
abbrev Xpy (w:World) (F:Nat→Prop) (r:Bool):Ending→World→Prop:=fun e w'=>e=.returned (.bool r)∧B.Loc w w' [] [St w []]
noncomputable abbrev Xpx (w:World) (F:Nat→Prop) (r:Bool):Cx:=⟨Try.prog,24,Try.f24,17,Xpy w F  r,w⟩
theorem Xua (w:World) (F:Nat→Prop) (x1:List (List Xm4)) (A2:Option Addr) (n3:Nat) (c4:Nat) (h5:Rw (Kd.slice Xmo) w (St w []).av A2 n3 c4 x1) (hF:∀ b,F b→b < w.heap.size∧∀ o ∈ ([]:List (List Nat)),b ∉ o) (hL0:B.Loc w w [] [Sm w.heap.size F w [],St w []]) (r:Bool) (h:Xqm x1 r):Calls Try.prog 24 #[.slice A2 n3 c4] w (Xpy w F  r):=by
 unfold Xqm at h
 refine Xmq (vs:=[.slice A2 n3 c4]) 17 Try.func24 rfl Try.ntmps24 rfl hL0 ?_
 show G (Xpx w F r) _ _ _ _
 refine Xmb rfl<|Xm8 rfl rfl<|Xm5 0 rfl (Xm9 rfl) gn rfl<|Xmc 1 rfl<|Xmb rfl<|Xmb rfl<|Xm8 rfl rfl<|Xm5 0 rfl (Xm9 rfl) gn rfl<|Xmc 1 rfl<|Xn8 rfl<|Xqz rfl ?_
 have key1:∀ s,Xmh (fun (s:Int) o=>Xnm x1 s o) s r→(fun (s:Int)=>∀ (_:Unit),G (Xpx w F r) [.code Yc0,.inLoop Yc0,.inBlock 0,.code q24c4] [(0,.slice A2 n3 c4),(3,.int .i64 s)] [] [Sm w.heap.size F w [],St w []]) s:=by
  intro s hs
  refine Xmh.ind (mot:=(fun (s:Int)=>∀ (_:Unit),G (Xpx w F r) [.code Yc0,.inLoop Yc0,.inBlock 0,.code q24c4] [(0,.slice A2 n3 c4),(3,.int .i64 s)] [] [Sm w.heap.size F w [],St w []])) ?_ hs
  clear hs s
  intro x25 o1 h hO1
  show ∀ (_:Unit),G (Xpx w F r) [.code Yc0,.inLoop Yc0,.inBlock 0,.code q24c4] [(0,.slice A2 n3 c4),(3,.int .i64 x25)] [] [Sm w.heap.size F w [],St w []]
  intro _
  have h:Xnm x1 x25 o1:=h
  unfold Xnm at h
  refine Xmb rfl<|Xmb rfl<|Xm8 rfl rfl<|Xm5 0 rfl (Xm7 rfl) gn rfl<|Xm5 1 rfl (Xm7 rfl) gn rfl<|Xm5 2 rfl (Xmm Xuy rfl h5.hq) gn rfl<|Xm5 3 rfl (Xmk rfl rfl rfl) gn rfl<|Xmc 4 rfl ?_
  by_cases hp44:x25 < (x1.length:Int)
  ·have h:=Xmf hp44 h
   refine Xmy rfl _ rfl ((decide_eq_true hp44))<|Xn1 rfl<|Xmb rfl<|Xn8 rfl<|Xmb rfl<|Xm8 rfl rfl<|Xm5 0 rfl (Xm7 rfl) gn rfl<|Xm5 1 rfl (Xm7 rfl) gn rfl ?_
   obtain ⟨hb45,h⟩:=h
   obtain ⟨ce47,hK48,hr46⟩:=Rw.read (s:=St w []) h5 hb45
   obtain ⟨A49,n50,c51,rfl,h52⟩:=hK48
   refine Xm5 2 rfl (Xn4 (s:=St w []) Xqn rfl rfl h5 hb45) gn rfl<|Xm5 3 rfl (Xnl (kk:=(x25:Int).toNat * 1) (j:=0) (St w []) Xsj rfl hr46 rfl (me 1 rfl)) gn rfl ?_
   obtain ⟨r56,hv57,h⟩:=h
   refine Xmw 4 rfl (Xne [.slice A49 n50 c51] rfl Try.func10 rfl rfl rfl fun w53 hL54=>?_) gn
   have hp55:=pmI hL54 .n .n (by kernel_rfl)
   refine Calls.mono (Xv2 w53 (Fl ([]:List Xmp)) (ix x1 x25) A49 n50 c51 (Rw.mono h52 (hL54.toSt hp55 (me 1 rfl))) (hL54.hFl hp55 (Xms [] rfl)) (hL54.into hp55 _) r56 hv57) ?_
   rintro _ w58 ⟨rfl,hM59⟩
   have hL60:=hL54.call hp55 hM59
   refine ⟨_,_,_,rfl,hL60,?_⟩
   refine Xm5 5 rfl (Xm9 rfl) gn rfl<|Xmc 6 rfl<|Xmb rfl<|Xm8 rfl rfl<|Xm5 0 rfl (Xm7 rfl) gn rfl<|Xmc 1 rfl ?_
   by_cases hp61:r56=true
   ·have h:=Xmf hp61 h
    refine Xmy rfl _ rfl (hp61)<|Xmb rfl<|Xm8 rfl rfl<|Xm5 0 rfl (Xm9 rfl) gn rfl<|Xmc 1 rfl ?_
    have h:=Out.inr hO1 h
    refine Xmt [.bool true] rfl Try.func24 rfl (.tmp rfl (.nil)) fun wr hLr=>?_
    have hMr:=hLr.pk0 (.c 1 rfl .n)
    show Xpy w F  r (.returned (Xmz [.bool true])) wr
    rw [h]
    exact ⟨rfl,hMr⟩
   ·have h:=Xmg hp61 h
    refine Xmr rfl _ rfl ((bf hp61))<|Xn1 rfl<|Xnh<|Xm8 rfl rfl<|Xm5 0 rfl (Xm7 rfl) gn rfl<|Xm5 1 rfl (Xmk rfl rfl rfl) gn rfl<|Xm5 2 rfl (Xm9 rfl) gn rfl<|Xmc 3 rfl<|Xo7 ?_
    have ih:=Out.inl hO1 h
    exact Xnj [0,1] (ih ()) ⟨rfl,rfl,trivial⟩ (.slnil) rfl
  ·have h:=Xmg hp44 h
   refine Xmr rfl _ rfl ((decide_eq_false hp44))<|Xqk [.code q24c4] rfl rfl<|Xmb rfl<|Xm8 rfl rfl<|Xm5 0 rfl (Xm9 rfl) gn rfl<|Xmc 1 rfl ?_
   have h:=Out.inr hO1 h
   refine Xmt [.bool false] rfl Try.func24 rfl (.tmp rfl (.nil)) fun wr hLr=>?_
   have hMr:=hLr.pk0 (.c 1 rfl .n)
   show Xpy w F  r (.returned (Xmz [.bool false])) wr
   rw [h]
   exact ⟨rfl,hMr⟩
 exact Xnj [0,1] (key1 _ h ()) ⟨rfl,rfl,trivial⟩ (.slnil) rfl
noncomputable abbrev q25c4:=Code.snd (Code.snd (Xnv Try.f25))
noncomputable abbrev q25c6:=Code.snd (Code.fst (Code.snd (Xnv Try.f25)))
abbrev Xuh (w:World) (F:Nat→Prop) (r:List Xm4):Ending→World→Prop:=fun e w'=>∃ A0:Option Addr,∃ n0:Nat,∃ c0:Nat,e=.returned (.slice A0 n0 c0)∧B.Loc w w' [.own (.slice A0 n0 c0) 39 7 n0 (r.flatMap Xme)] [St w []]∧Ow w.heap.size A0 n0 c0 r
noncomputable abbrev Xyp (w:World) (F:Nat→Prop) (r:List Xm4):Cx:=⟨Try.prog,25,Try.f25,38,Xuh w F  r,w⟩
theorem Xzn (w:World) (F:Nat→Prop) (x1:Xml) (x46:Int) (x47:Int) (x48:Int) (x49:Int) (A2:Option Addr) (n3:Nat) (c4:Nat) (A6:Option Addr) (n7:Nat) (c8:Nat) (A10:Option Addr) (n11:Nat) (c12:Nat) (A14:Option Addr) (n15:Nat) (c16:Nat) (A18:Option Addr) (n19:Nat) (c20:Nat) (A22:Option Addr) (n23:Nat) (c24:Nat) (A26:Option Addr) (n27:Nat) (c28:Nat) (A30:Option Addr) (n31:Nat) (c32:Nat) (A34:Option Addr) (n35:Nat) (c36:Nat) (A38:Option Addr) (n39:Nat) (c40:Nat) (A42:Option Addr) (n43:Nat) (c44:Nat) (h5:Rw Xoq w (St w []).av A2 n3 c4 x1.modes) (h9:Rw Xng w (St w []).av A6 n7 c8 x1.gram.terms) (h13:Rw Xor w (St w []).av A10 n11 c12 x1.gram.syms) (h17:Rw Xo9 w (St w []).av A14 n15 c16 x1.gram.prods) (h21:Rw Xqc w (St w []).av A18 n19 c20 x1.rules) (h25:Rw (Kd.slice Xol) w (St w []).av A22 n23 c24 x1.table.actions) (h29:Rw (Kd.slice (Xs2 .i64)) w (St w []).av A26 n27 c28 x1.table.gotos) (h33:Rw Xoc w (St w []).av A30 n31 c32 x1.paints) (h37:Rw Xz4 w (St w []).av A34 n35 c36 x1.folds) (h41:Rw Xop w (St w []).av A38 n39 c40 x1.marks) (h45:Rw Xo4 w (St w []).av A42 n43 c44 x1.injects) (hF:∀ b,F b→b < w.heap.size∧∀ o ∈ ([]:List (List Nat)),b ∉ o) (hL0:B.Loc w w [] [Sm w.heap.size F w [],St w []]) (r:List Xm4) (h:Xuu x1 x46 x47 x48 x49 r):Calls Try.prog 25 #[.agg #[.string x1.name,.slice A2 n3 c4,.slice A6 n7 c8,.slice A10 n11 c12,.slice A14 n15 c16,.slice A18 n19 c20,.slice A22 n23 c24,.slice A26 n27 c28,.slice A30 n31 c32,.slice A34 n35 c36,.slice A38 n39 c40,.slice A42 n43 c44],.int .i64 x46,.int .i64 x47,.int .i64 x48,.int .i64 x49] w (Xuh w F  r):=by
 unfold Xuu at h
 refine Xmq (vs:=[.agg #[.string x1.name,.slice A2 n3 c4,.slice A6 n7 c8,.slice A10 n11 c12,.slice A14 n15 c16,.slice A18 n19 c20,.slice A22 n23 c24,.slice A26 n27 c28,.slice A30 n31 c32,.slice A34 n35 c36,.slice A38 n39 c40,.slice A42 n43 c44],.int .i64 x46,.int .i64 x47,.int .i64 x48,.int .i64 x49]) 38 Try.func25 rfl Try.ntmps25 rfl hL0 ?_
 show G (Xyp w F r) _ _ _ _
 refine Xmb rfl<|Xm8 rfl rfl ?_
 refine Xmw 0 rfl (Xtj [.string x1.name,.slice A2 n3 c4,.slice A6 n7 c8,.slice A10 n11 c12,.slice A14 n15 c16,.slice A18 n19 c20,.slice A22 n23 c24,.slice A26 n27 c28,.slice A30 n31 c32,.slice A34 n35 c36,.slice A38 n39 c40,.slice A42 n43 c44] rfl rfl rfl fun gb50=>?_) gn
 refine Xm5 1 rfl (Xm9 rfl) gn rfl<|Xmc 2 rfl<|Xmb rfl<|Xmb rfl ?_
 have j1:∀ (x54:Bool) (h:Xs1 x46 x1 x48 x49 x47 x54 r) ,G (Xyp w F r) [.code q25c6,.code q25c4] [(1,.int .i64 x46),(2,.int .i64 x47),(3,.int .i64 x48),(4,.int .i64 x49),(5,.pointer (some ⟨gb50,0,none⟩)),(21,.bool x54)] [.box gb50 58 [.string x1.name,.slice A2 n3 c4,.slice A6 n7 c8,.slice A10 n11 c12,.slice A14 n15 c16,.slice A18 n19 c20,.slice A22 n23 c24,.slice A26 n27 c28,.slice A30 n31 c32,.slice A34 n35 c36,.slice A38 n39 c40,.slice A42 n43 c44]] [Sm w.heap.size F w [],St w []]:=by
  intro x54 h
  unfold Xs1 at h
  by_cases hp55:x54=true
  ·have h:=Xmf hp55 h
   refine Xmy rfl _ rfl (hp55)<|Xmb rfl<|Xm8 rfl rfl<|Xm5 0 rfl (Xm9 rfl) gn rfl<|Xmc 1 rfl<|Xrf 39 7 ?_
   refine Xmt [.slice none 0 0] rfl Try.func25 rfl (.tmp rfl (.nil)) fun wr hLr=>?_
   have hMr:=hLr.pkI (.c 0 rfl .n) (.c 1 rfl .n) (by kernel_rfl) (.c 1 rfl .n)
   show Xuh w F  r (.returned (Xmz [.slice none 0 0])) wr
   rw [h]
   exact ⟨none,0,0,rfl,hMr,(Ow.nil (z:=w.heap.size))⟩
  ·have h:=Xmg hp55 h
   refine Xmr rfl _ rfl ((bf hp55))<|Xn1 rfl<|Xmb rfl<|Xm8 rfl rfl<|Xm5 0 rfl (Xmj Xqa rfl) gn rfl<|Xm5 1 rfl (Xmj Xrw rfl) gn rfl<|Xm5 2 rfl (Xmx 0 Xus rfl rfl rfl) gn rfl<|Xm5 3 rfl (Xm7 rfl) gn rfl ?_
   obtain ⟨hb56,h⟩:=h
   have hr57:=Rw.readF (s:=St w []) (hl:=Xq6) (h1:=Xq3) h9 hb56
   refine Xm5 4 rfl (Xn4 (s:=St w []) Xyb rfl rfl h9 hb56) gn rfl<|Xm5 5 rfl (Xx1 (St w []) ld_100 rfl hr57 rfl (me 1 rfl)) gn rfl ?_
   refine Xmw 6 rfl (Xpf [.string (⟨#[]⟩:ByteArray),.bool false] zr_100 rfl fun gb58=>?_) gn
   refine Xmw 7 rfl (Xpk (vs:=[.string ((ix x1.gram.terms x46).name),.bool ((ix x1.gram.terms x46).lit)]) (cs':=[.string ((ix x1.gram.terms x46).name),.bool ((ix x1.gram.terms x46).lit)]) (M':=[.box gb58 100 [.string ((ix x1.gram.terms x46).name),.bool ((ix x1.gram.terms x46).lit)],.box gb50 58 [.string x1.name,.slice A2 n3 c4,.slice A6 n7 c8,.slice A10 n11 c12,.slice A14 n15 c16,.slice A18 n19 c20,.slice A22 n23 c24,.slice A26 n27 c28,.slice A30 n31 c32,.slice A34 n35 c36,.slice A38 n39 c40,.slice A42 n43 c44]]) 0 sz_100 rfl rfl rfl rfl rfl rfl rfl rfl rfl ?_) gn
   refine Xmc 8 rfl<|Xmb rfl<|Xm8 rfl rfl<|Xm5 0 rfl (Xmj Xym rfl) gn rfl<|Xm5 1 rfl (Xmx 0 Xwk rfl rfl rfl) gn rfl<|Xm5 2 rfl (Xmj Xyu rfl) gn rfl<|Xm5 3 rfl (Xmx 0 ld_4 rfl rfl rfl) gn rfl<|Xm5 4 rfl (Xrz rfl) gn rfl<|Xm5 5 rfl (Xm7 rfl) gn rfl<|Xm5 6 rfl (Xm7 rfl) gn rfl<|Xm5 7 rfl (Xm7 rfl) gn rfl<|Xm5 8 rfl (Xr0 #[.string ((ix x1.gram.terms x46).name),.bool (!((ix x1.gram.terms x46).lit)),.string (⟨#[]⟩:ByteArray),.int .i64 x48,.int .i64 x49,.int .i64 0,.int .i64 x47] Ybz rfl (by kernel_rfl)) gn rfl ?_
   refine Xmw 9 rfl (Xqd (xs:=([(⟨(ix x1.gram.terms x46).name,(!((ix x1.gram.terms x46).lit)),(⟨#[]⟩:ByteArray),x48,x49,0,x47⟩:Xm4)]:List Xm4)) [.string ((ix x1.gram.terms x46).name),.bool (!((ix x1.gram.terms x46).lit)),.string (⟨#[]⟩:ByteArray),.int .i64 x48,.int .i64 x49,.int .i64 0,.int .i64 x47] Xyo rfl (by kernel_rfl) rfl rfl rfl rfl fun gb61 h62=>?_) gn
   refine Xm5 10 rfl (Xm9 rfl) gn rfl<|Xmc 11 rfl ?_
   refine Xmt [.slice (some ⟨gb61,0,none⟩) 1 1] rfl Try.func25 rfl (.tmp rfl (.nil)) fun wr hLr=>?_
   have hMr:=hLr.pkI (.c 0 rfl .n) (.c 1 rfl (.c 2 rfl .n)) (by kernel_rfl) (.c 1 rfl .n)
   show Xuh w F  r (.returned (Xmz [.slice (some ⟨gb61,0,none⟩) 1 1])) wr
   rw [h]
   exact ⟨(some ⟨gb61,0,none⟩),1,1,rfl,hMr,h62⟩
 refine Xm8 rfl rfl<|Xm5 0 rfl (Xm7 rfl) gn rfl<|Xm5 1 rfl (Xmk rfl rfl rfl) gn rfl<|Xm5 2 rfl (Xm7 rfl) gn rfl ?_
 by_cases hp63:x46 < 1
 ·have h:=Xmf hp63 h
  refine Xn6 14 rfl ((decide_eq_true hp63))<|Xma 3 rfl (ps 14 rfl rfl rfl)<|Xma 4 rfl (ps 14 rfl rfl rfl)<|Xma 5 rfl (ps 14 rfl rfl rfl)<|Xma 6 rfl (ps 14 rfl rfl rfl)<|Xma 7 rfl (ps 14 rfl rfl rfl)<|Xma 8 rfl (ps 14 rfl rfl rfl)<|Xm5 9 rfl (Xmn (b:=true) rfl rfl) gn rfl<|Xmc 10 rfl ?_
  exact Xnj [0,1] (j1 true h) ⟨rfl,rfl,rfl,rfl,rfl,rfl,trivial⟩ (.cons_cons _ (.slnil)) rfl
 ·have h:=Xmg hp63 h
  refine Xn6 14 rfl ((decide_eq_false hp63))<|Xm5 3 rfl (Xm7 rfl) (gy 14 rfl rfl) rfl<|Xm5 4 rfl (Xmj Xqa rfl) (gy 14 rfl rfl) rfl<|Xm5 5 rfl (Xmj Xrw rfl) (gy 14 rfl rfl) rfl<|Xm5 6 rfl (Xmx 0 Xus rfl rfl rfl) (gy 14 rfl rfl) rfl<|Xm5 7 rfl (Xmm Ya5 rfl h9.hq) (gy 14 rfl rfl) rfl<|Xm5 8 rfl (Xmk rfl rfl rfl) (gy 14 rfl rfl) rfl<|Xm5 9 rfl (Xmn (b:=false) rfl rfl) gn rfl<|Xmc 10 rfl ?_
  exact Xnj [0,1] (j1 (decide (x46≥(x1.gram.terms.length:Int))) h) ⟨rfl,rfl,rfl,rfl,rfl,rfl,trivial⟩ (.cons_cons _ (.slnil)) rfl
end Go.Proofs.Ytmekgfcfooghnaa.K
