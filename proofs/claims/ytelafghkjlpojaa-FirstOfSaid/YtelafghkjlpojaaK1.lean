/- What the machine's calls do, function by function, printed by my own tool. Condition of each: its relation holds of the answer, and what is handed in lies in memory as told. -/
import Derived.Test.YtelafghkjlpojaaK0
set_option linter.unusedVariables false
set_option maxRecDepth 100000
set_option maxHeartbeats 4000000
namespace Go.Proofs.Ytelafghkjlpojaa.K
open Go.Proofs.Ytelafghkjlpojaa.B Go.Proofs.Ytelafghkjlpojaa.R Go.RowKit
noncomputable abbrev q9c6:=Code.snd (Code.snd (Code.snd (Yhf Try.f9)))
noncomputable abbrev Yrb:=Code.fst (Code.fst (Code.snd (Code.fst (Code.snd (Code.snd (Yhf Try.f9))))))
abbrev Ykn (w:World) (F:Nat→Prop) (r:List Yg6):Ending→World→Prop:=fun e w'=>∃ A0:Option Addr,∃ n0:Nat,∃ c0:Nat,e=.returned (.slice A0 n0 c0)∧B.Loc w w' [.own (.slice A0 n0 c0) 36 3 n0 (r.flatMap Ygr)] [St w []]∧Ow w.heap.size A0 n0 c0 r
noncomputable abbrev Yju (w:World) (F:Nat→Prop) (r:List Yg6):Cx:=⟨Try.prog,9,Try.f9,19,Ykn w F  r,w⟩
theorem Yib (w:World) (F:Nat→Prop) (x1:List Yg6) (A2:Option Addr) (n3:Nat) (c4:Nat) (h5:Rw Yh0 w (St w []).av A2 n3 c4 x1) (hF:∀ b,F b→b < w.heap.size∧∀ o ∈ ([]:List (List Nat)),b ∉ o) (hL0:B.Loc w w [] [Sm w.heap.size F w [],St w []]) (r:List Yg6) (h:Yhj x1 r):Calls Try.prog 9 #[.slice A2 n3 c4] w (Ykn w F  r):=by
 unfold Yhj at h
 refine Ygx (vs:=[.slice A2 n3 c4]) 19 Try.func9 rfl Try.ntmps9 rfl hL0 ?_
 show G (Yju w F r) _ _ _ _
 refine Yg4 rfl<|Yfy rfl rfl<|Yfx 0 rfl (Yg3 rfl) gn rfl<|Yg7 1 rfl<|Yg4 rfl<|Yfy rfl rfl<|Yfx 0 rfl (Yg3 rfl) gn rfl<|Yg7 1 rfl<|Yg4 rfl<|Yg4 rfl<|Yfy rfl rfl<|Yfx 0 rfl (Yg3 rfl) gn rfl ?_
 refine Yg7 1 rfl<|Ygk rfl<|Yiu rfl ?_
 have key1:∀ s,Yga (fun (s:(List Yg6) × Int) o=>Yh4 x1 s.1 s.2 o) s r→(fun (s:(List Yg6) × Int)=>∀ (A21:Option Addr) (n22:Nat) (c23:Nat) (h24:Ow w.heap.size A21 n22 c23 s.1),G (Yju w F r) [.code Yrb,.inLoop Yrb,.inBlock 0,.code q9c6] [(0,.slice A2 n3 c4),(3,.slice A21 n22 c23),(4,.int .i64 s.2)] [.own (.slice A21 n22 c23) 36 3 n22 (s.1.flatMap Ygr)] [Sm w.heap.size F w [],St w []]) s:=by
  intro s hs
  refine Yga.ind (mot:=(fun (s:(List Yg6) × Int)=>∀ (A21:Option Addr) (n22:Nat) (c23:Nat) (h24:Ow w.heap.size A21 n22 c23 s.1),G (Yju w F r) [.code Yrb,.inLoop Yrb,.inBlock 0,.code q9c6] [(0,.slice A2 n3 c4),(3,.slice A21 n22 c23),(4,.int .i64 s.2)] [.own (.slice A21 n22 c23) 36 3 n22 (s.1.flatMap Ygr)] [Sm w.heap.size F w [],St w []])) ?_ hs
  clear hs s
  intro s o1 h hO1
  obtain ⟨x20,x25⟩:=s
  show ∀ (A21:Option Addr) (n22:Nat) (c23:Nat) (h24:Ow w.heap.size A21 n22 c23 x20),G (Yju w F r) [.code Yrb,.inLoop Yrb,.inBlock 0,.code q9c6] [(0,.slice A2 n3 c4),(3,.slice A21 n22 c23),(4,.int .i64 x25)] [.own (.slice A21 n22 c23) 36 3 n22 (x20.flatMap Ygr)] [Sm w.heap.size F w [],St w []]
  intro A21 n22 c23 h24
  have h:Yh4 x1 x20 x25 o1:=h
  unfold Yh4 at h
  refine Yg4 rfl<|Yg4 rfl<|Yfy rfl rfl<|Yfx 0 rfl (Yg1 rfl) gn rfl<|Yfx 1 rfl (Yg1 rfl) gn rfl<|Yfx 2 rfl (Ygn Ym9 rfl h5.hq) gn rfl<|Yfx 3 rfl (Ygh rfl rfl rfl) gn rfl<|Yg7 4 rfl ?_
  by_cases hp38:x25 < (x1.length:Int)
  ·have h:=Ygg hp38 h
   refine Ygm rfl _ rfl ((decide_eq_true hp38))<|Ygp rfl<|Yg4 rfl<|Ygk rfl<|Yfy rfl rfl<|Yfx 0 rfl (Yg1 rfl) gn rfl<|Yfx 1 rfl (Yg1 rfl) gn rfl<|Yfx 2 rfl (Yg1 rfl) gn rfl ?_
   obtain ⟨hb39,h⟩:=h
   have hr40:=Rw.readF (s:=St w []) (hl:=Yi0) (h1:=Yig) h5 hb39
   refine Yfx 3 rfl (Yht (s:=St w []) Yl7 rfl rfl h5 hb39) gn rfl<|Yfx 4 rfl (Ylx (St w []) Yr1 rfl hr40 rfl (me 1 rfl)) gn rfl ?_
   refine Yh3 5 rfl (Yo0 (xs:=([ix x1 x25]:List Yg6)) [.int .i64 ((ix x1 x25).sym),.string ((ix x1 x25).field),.string ((ix x1 x25).as)] Ytm rfl (by kernel_rfl) rfl rfl rfl rfl fun gb42 h43=>?_) gn
   obtain ⟨x47,hv48,h⟩:=h
   obtain ⟨hb49,h⟩:=h
   refine Yh3 6 rfl (Ypv (zs:=x47) (cells':=x47.flatMap Ygr) 1 ap_27 rfl rfl rfl h24 (Nat.le_refl _) (Src.ownF (hl:=Yi0) (h1:=Yig) 0 rfl h43) (by rw [hv48,List.flatMap_append] <;> rfl) (Yn1 hv48 h43.hq) hb49 rfl rfl fun A44 c45 h46=>?_) gn
   refine Yfx 7 rfl (Yg3 rfl) gn rfl<|Yg7 8 rfl<|Ygo<|Yfy rfl rfl<|Yfx 0 rfl (Yg1 rfl) gn rfl<|Yfx 1 rfl (Ygh rfl rfl rfl) gn rfl<|Yfx 2 rfl (Yg3 rfl) gn rfl<|Yg7 3 rfl<|Ygt ?_
   have ih:=Out.inl hO1 h
   exact Yhq [0,1] (ih A44 (n22 + 1) c45 h46) ⟨rfl,rfl,rfl,trivial⟩ (.cons _ (.cons_cons _ (.slnil))) rfl
  ·have h:=Ygf hp38 h
   refine Ygj rfl _ rfl ((decide_eq_false hp38))<|Yit [.code q9c6] rfl rfl<|Yg4 rfl<|Yfy rfl rfl<|Yfx 0 rfl (Yg1 rfl) gn rfl<|Yfx 1 rfl (Yg3 rfl) gn rfl<|Yg7 2 rfl ?_
   have h:=Out.inr hO1 h
   refine Ygu [.slice A21 n22 c23] rfl Try.func9 rfl (.tmp rfl (.nil)) fun wr hLr=>?_
   have hMr:=hLr.pkI (.c 0 rfl .n) .n (by kernel_rfl) (.c 1 rfl .n)
   show Ykn w F  r (.returned (Yhi [.slice A21 n22 c23])) wr
   rw [h]
   exact ⟨A21,n22,c23,rfl,hMr,h24⟩
 refine Yt2 36 3 ?_
 exact Yhq [0,1] (key1 _ h none 0 0 (Ow.nil (z:=w.heap.size))) ⟨rfl,rfl,rfl,trivial⟩ (.cons_cons _ (.slnil)) rfl
noncomputable abbrev q8c6:=Code.snd (Code.snd (Code.snd (Yhf Try.f8)))
noncomputable abbrev Yqd:=Code.fst (Code.fst (Code.snd (Code.fst (Code.snd (Code.snd (Yhf Try.f8))))))
noncomputable abbrev q8c19:=Code.fst (Code.fst (Code.snd Yqd))
noncomputable abbrev Yrm:=Code.snd q8c6
noncomputable abbrev Yr2:=Code.fst (Code.fst (Code.snd (Code.fst q8c6)))
noncomputable abbrev q8c34:=Code.fst (Code.fst (Code.snd Yr2))
noncomputable abbrev q8c36:=Code.snd Yrm
noncomputable abbrev Yqj:=Code.fst (Code.fst (Code.snd (Code.fst Yrm)))
noncomputable abbrev q8c49:=Code.fst (Code.fst (Code.snd Yqj))
abbrev Yl8 (w:World) (F:Nat→Prop) (r:Yfz):Ending→World→Prop:=fun e w'=>∃ A0:Option Addr,∃ n0:Nat,∃ c0:Nat,∃ A1:Option Addr,∃ n1:Nat,∃ c1:Nat,∃ A2:Option Addr,∃ n2:Nat,∃ c2:Nat,∃ cs2:List Value,∃ bs2:List Nat,e=.returned (.agg #[.slice A0 n0 c0,.slice A1 n1 c1,.slice A2 n2 c2])∧B.Loc w w' [.own (.slice A0 n0 c0) 58 2 n0 (r.terms.flatMap Yg9),.own (.slice A1 n1 c1) 61 2 n1 (r.syms.flatMap Ygd),.own (.slice A2 n2 c2) 38 2 n2 cs2,Yi4 Ymk (w.heap.size) none r.prods cs2 bs2] [St w []]∧Ow w.heap.size A0 n0 c0 r.terms∧Ow w.heap.size A1 n1 c1 r.syms∧Ow w.heap.size A2 n2 c2 r.prods
noncomputable abbrev Yhg (w:World) (F:Nat→Prop) (r:Yfz):Cx:=⟨Try.prog,8,Try.f8,68,Yl8 w F  r,w⟩
theorem Yki (w:World) (F:Nat→Prop) (x1:Yfz) (A2:Option Addr) (n3:Nat) (c4:Nat) (A6:Option Addr) (n7:Nat) (c8:Nat) (A10:Option Addr) (n11:Nat) (c12:Nat) (h5:Rw Ygi w (St w []).av A2 n3 c4 x1.terms) (h9:Rw Yh1 w (St w []).av A6 n7 c8 x1.syms) (h13:Rw Ygs w (St w []).av A10 n11 c12 x1.prods) (hF:∀ b,F b→b < w.heap.size∧∀ o ∈ ([]:List (List Nat)),b ∉ o) (hL0:B.Loc w w [] [Sm w.heap.size F w [],St w []]) (r:Yfz) (h:Yix x1 r):Calls Try.prog 8 #[.agg #[.slice A2 n3 c4,.slice A6 n7 c8,.slice A10 n11 c12]] w (Yl8 w F  r):=by
 unfold Yix at h
 refine Ygx (vs:=[.agg #[.slice A2 n3 c4,.slice A6 n7 c8,.slice A10 n11 c12]]) 68 Try.func8 rfl Try.ntmps8 rfl hL0 ?_
 show G (Yhg w F r) _ _ _ _
 refine Yg4 rfl<|Yfy rfl rfl ?_
 refine Yh3 0 rfl (Ym6 [.slice A2 n3 c4,.slice A6 n7 c8,.slice A10 n11 c12] rfl rfl rfl fun gb14=>?_) gn
 refine Yh3 1 rfl (Ykd [.slice none 0 0,.slice none 0 0,.slice none 0 0] Yro rfl fun gb16=>?_) gn
 refine Yg7 2 rfl<|Yg4 rfl<|Yfy rfl rfl ?_
 refine Yh3 0 rfl (Ykd [.slice none 0 0,.slice none 0 0,.slice none 0 0] Yro rfl fun gb18=>?_) gn
 refine Yg7 1 rfl<|Yg4 rfl<|Yg4 rfl<|Yfy rfl rfl<|Yfx 0 rfl (Yg3 rfl) gn rfl<|Yg7 1 rfl<|Ygk rfl<|Yiu rfl ?_
 have key1:∀ s,Yga (fun (s:Int × (List Ygc)) o=>Yho x1 s.1 s.2 o) s r→(fun (s:Int × (List Ygc))=>∀ (A1438:Option Addr) (n1439:Nat) (c1440:Nat) (h1441:Ow w.heap.size A1438 n1439 c1440 s.2),G (Yhg w F r) [.code Yqd,.inLoop Yqd,.inBlock 0,.code q8c6] [(1,.pointer (some ⟨gb14,0,none⟩)),(2,.pointer (some ⟨gb16,0,none⟩)),(3,.pointer (some ⟨gb18,0,none⟩)),(4,.int .i64 s.1)] [.own (.slice A1438 n1439 c1440) 58 2 n1439 (s.2.flatMap Yg9),.box gb18 26 [.slice A1438 n1439 c1440,.slice none 0 0,.slice none 0 0],.box gb16 26 [.slice none 0 0,.slice none 0 0,.slice none 0 0],.box gb14 26 [.slice A2 n3 c4,.slice A6 n7 c8,.slice A10 n11 c12]] [Sm w.heap.size F w [],St w []]) s:=by
  intro s hs
  refine Yga.ind (mot:=(fun (s:Int × (List Ygc))=>∀ (A1438:Option Addr) (n1439:Nat) (c1440:Nat) (h1441:Ow w.heap.size A1438 n1439 c1440 s.2),G (Yhg w F r) [.code Yqd,.inLoop Yqd,.inBlock 0,.code q8c6] [(1,.pointer (some ⟨gb14,0,none⟩)),(2,.pointer (some ⟨gb16,0,none⟩)),(3,.pointer (some ⟨gb18,0,none⟩)),(4,.int .i64 s.1)] [.own (.slice A1438 n1439 c1440) 58 2 n1439 (s.2.flatMap Yg9),.box gb18 26 [.slice A1438 n1439 c1440,.slice none 0 0,.slice none 0 0],.box gb16 26 [.slice none 0 0,.slice none 0 0,.slice none 0 0],.box gb14 26 [.slice A2 n3 c4,.slice A6 n7 c8,.slice A10 n11 c12]] [Sm w.heap.size F w [],St w []])) ?_ hs
  clear hs s
  intro s o1 h hO1
  obtain ⟨x1436,x1437⟩:=s
  show ∀ (A1438:Option Addr) (n1439:Nat) (c1440:Nat) (h1441:Ow w.heap.size A1438 n1439 c1440 x1437),G (Yhg w F r) [.code Yqd,.inLoop Yqd,.inBlock 0,.code q8c6] [(1,.pointer (some ⟨gb14,0,none⟩)),(2,.pointer (some ⟨gb16,0,none⟩)),(3,.pointer (some ⟨gb18,0,none⟩)),(4,.int .i64 x1436)] [.own (.slice A1438 n1439 c1440) 58 2 n1439 (x1437.flatMap Yg9),.box gb18 26 [.slice A1438 n1439 c1440,.slice none 0 0,.slice none 0 0],.box gb16 26 [.slice none 0 0,.slice none 0 0,.slice none 0 0],.box gb14 26 [.slice A2 n3 c4,.slice A6 n7 c8,.slice A10 n11 c12]] [Sm w.heap.size F w [],St w []]
  intro A1438 n1439 c1440 h1441
  have h:Yho x1 x1436 x1437 o1:=h
  unfold Yho at h
  refine Yg4 rfl<|Yg4 rfl<|Yfy rfl rfl<|Yfx 0 rfl (Yg1 rfl) gn rfl<|Yfx 1 rfl (Ygb Yi3 rfl) gn rfl<|Yfx 2 rfl (Yge 3 Ykl rfl rfl rfl) gn rfl<|Yfx 3 rfl (Ygn Ylt rfl h5.hq) gn rfl<|Yfx 4 rfl (Ygh rfl rfl rfl) gn rfl<|Yg7 5 rfl ?_
  by_cases hp2851:x1436 < (x1.terms.length:Int)
  ·have h:=Ygg hp2851 h
   refine Ygm rfl _ rfl ((decide_eq_true hp2851))<|Ygp rfl<|Yg4 rfl<|Ygk rfl ?_
   obtain ⟨hb2852,h⟩:=h
   obtain ⟨x2860,hv2861,h⟩:=h
   obtain ⟨hb2862,h⟩:=h
   have hns:Region.noSelect (Code.ops q8c19)=true:=by kernel_rfl
   refine Yjr [8,9,10] 11 rfl rfl mix rfl (.c 0 rfl (.c 1 rfl .n))<|wfv 0 rfl (Ygb Yi3 rfl) gn hns (by kernel_rfl)<|wfv 1 rfl (Yge 1 Ykl rfl rfl rfl) gn hns (by kernel_rfl)<|wfv 2 rfl (Ygb Yi3 rfl) gn hns (by kernel_rfl)<|wfv 3 rfl (Yge 3 Ykl rfl rfl rfl) gn hns (by kernel_rfl)<|wfv 4 rfl (Yg1 rfl) gn hns (by kernel_rfl) ?_
   have hr2871:=Rw.readF (s:=St w []) (hl:=Yjz) (h1:=Yk0) h5 hb2852
   refine wfv 5 rfl (Yht (s:=St w []) Ypf rfl rfl h5 hb2852) gn hns (by kernel_rfl)<|wfv 6 rfl (Ylx (St w []) ld_58 rfl hr2871 rfl (me 1 rfl)) gn hns (by kernel_rfl) ?_
   refine Yk4 [7] (by kernel_rfl) rfl ⟨on_s 7 rfl gn rfl (Yo0 (xs:=([ix x1.terms x1436]:List Ygc)) [.string ((ix x1.terms x1436).name),.bool ((ix x1.terms x1436).lit)] Ytd rfl (by kernel_rfl) rfl rfl rfl rfl fun gb2874 h2875=>?_),trivial⟩
   refine ⟨Yj0 [1,2,3,4] rfl,Yj0 [0,1] rfl,?_⟩
   refine Yk4 [8] (by kernel_rfl) rfl ⟨Yp9 8 rfl gn rfl (Ypv (zs:=x2860) (cells':=x2860.flatMap Yg9) 1 ap_22 rfl rfl rfl h1441 (Nat.le_refl _) (Src.ownF (hl:=Yjz) (h1:=Yk0) 0 rfl h2875) (by rw [hv2861,List.flatMap_append] <;> rfl) (Yn1 hv2861 h2875.hq) hb2862 rfl rfl fun A2876 c2877 h2878=>?_),trivial⟩
   unfold NxL
   refine Yk4 [9] (by kernel_rfl) rfl ⟨Yp9 9 rfl gn rfl (s_val (Ygb Yi3 rfl) rfl ?_),trivial⟩
   unfold NxL
   refine Yk4 [10] (by kernel_rfl) rfl ⟨Yp9 10 rfl gn rfl (Ylp (vs:=[.slice A2876 (n1439 + 1) c2877]) (cs':=[.slice A2876 (n1439 + 1) c2877,.slice none 0 0,.slice none 0 0]) (M':=[.own (.slice (some ⟨gb2874,0,none⟩) 1 1) 58 2 1 (([ix x1.terms x1436]:List Ygc).flatMap Yg9),.own (.slice A2876 (n1439 + 1) c2877) 58 2 (n1439 + 1) (x2860.flatMap Yg9),.box gb18 26 [.slice A2876 (n1439 + 1) c2877,.slice none 0 0,.slice none 0 0],.box gb16 26 [.slice none 0 0,.slice none 0 0,.slice none 0 0],.box gb14 26 [.slice A2 n3 c4,.slice A6 n7 c8,.slice A10 n11 c12]]) 2 sz_22 rfl rfl rfl rfl rfl rfl rfl rfl rfl ?_),trivial⟩
   unfold NxL
   refine Ykm (by kernel_rfl)<|Ygo<|Yfy rfl rfl<|Yfx 0 rfl (Yg1 rfl) gn rfl<|Yfx 1 rfl (Ygh rfl rfl rfl) gn rfl<|Yfx 2 rfl (Yg3 rfl) gn rfl<|Yg7 3 rfl<|Ygt ?_
   have ih:=Out.inl hO1 h
   exact Yhq [0,1] (ih A2876 (n1439 + 1) c2877 h2878) ⟨rfl,rfl,rfl,rfl,trivial⟩ (.cons _ (.cons_cons _ (.cons_cons _ (.cons_cons _ (.cons_cons _ (.slnil)))))) rfl
  ·have h:=Ygf hp2851 h
   refine Ygj rfl _ rfl ((decide_eq_false hp2851))<|Yit [.code q8c6] rfl rfl<|Yg4 rfl<|Yg4 rfl<|Yfy rfl rfl<|Yfx 0 rfl (Yg3 rfl) gn rfl<|Yg7 1 rfl<|Ygk rfl<|Yiu rfl ?_
   have key2:∀ s,Yga (fun (s:Int × (List Ygq)) o=>Yhc x1 x1437 s.1 s.2 o) s o1→(fun (s:Int × (List Ygq))=>∀ (A3344:Option Addr) (n3345:Nat) (c3346:Nat) (h3347:Ow w.heap.size A3344 n3345 c3346 s.2),G (Yhg w F r) [.code Yr2,.inLoop Yr2,.inBlock 2,.code Yrm] [(1,.pointer (some ⟨gb14,0,none⟩)),(2,.pointer (some ⟨gb16,0,none⟩)),(3,.pointer (some ⟨gb18,0,none⟩)),(5,.int .i64 s.1)] [.own (.slice A3344 n3345 c3346) 61 2 n3345 (s.2.flatMap Ygd),.own (.slice A1438 n1439 c1440) 58 2 n1439 (x1437.flatMap Yg9),.box gb18 26 [.slice A1438 n1439 c1440,.slice A3344 n3345 c3346,.slice none 0 0],.box gb16 26 [.slice none 0 0,.slice none 0 0,.slice none 0 0],.box gb14 26 [.slice A2 n3 c4,.slice A6 n7 c8,.slice A10 n11 c12]] [Sm w.heap.size F w [],St w []]) s:=by
    intro s hs
    refine Yga.ind (mot:=(fun (s:Int × (List Ygq))=>∀ (A3344:Option Addr) (n3345:Nat) (c3346:Nat) (h3347:Ow w.heap.size A3344 n3345 c3346 s.2),G (Yhg w F r) [.code Yr2,.inLoop Yr2,.inBlock 2,.code Yrm] [(1,.pointer (some ⟨gb14,0,none⟩)),(2,.pointer (some ⟨gb16,0,none⟩)),(3,.pointer (some ⟨gb18,0,none⟩)),(5,.int .i64 s.1)] [.own (.slice A3344 n3345 c3346) 61 2 n3345 (s.2.flatMap Ygd),.own (.slice A1438 n1439 c1440) 58 2 n1439 (x1437.flatMap Yg9),.box gb18 26 [.slice A1438 n1439 c1440,.slice A3344 n3345 c3346,.slice none 0 0],.box gb16 26 [.slice none 0 0,.slice none 0 0,.slice none 0 0],.box gb14 26 [.slice A2 n3 c4,.slice A6 n7 c8,.slice A10 n11 c12]] [Sm w.heap.size F w [],St w []])) ?_ hs
    clear hs s
    intro s o2 h hO2
    obtain ⟨x3342,x3343⟩:=s
    show ∀ (A3344:Option Addr) (n3345:Nat) (c3346:Nat) (h3347:Ow w.heap.size A3344 n3345 c3346 x3343),G (Yhg w F r) [.code Yr2,.inLoop Yr2,.inBlock 2,.code Yrm] [(1,.pointer (some ⟨gb14,0,none⟩)),(2,.pointer (some ⟨gb16,0,none⟩)),(3,.pointer (some ⟨gb18,0,none⟩)),(5,.int .i64 x3342)] [.own (.slice A3344 n3345 c3346) 61 2 n3345 (x3343.flatMap Ygd),.own (.slice A1438 n1439 c1440) 58 2 n1439 (x1437.flatMap Yg9),.box gb18 26 [.slice A1438 n1439 c1440,.slice A3344 n3345 c3346,.slice none 0 0],.box gb16 26 [.slice none 0 0,.slice none 0 0,.slice none 0 0],.box gb14 26 [.slice A2 n3 c4,.slice A6 n7 c8,.slice A10 n11 c12]] [Sm w.heap.size F w [],St w []]
    intro A3344 n3345 c3346 h3347
    have h:Yhc x1 x1437 x3342 x3343 o2:=h
    unfold Yhc at h
    refine Yg4 rfl<|Yg4 rfl<|Yfy rfl rfl<|Yfx 0 rfl (Yg1 rfl) gn rfl<|Yfx 1 rfl (Ygb Yih rfl) gn rfl<|Yfx 2 rfl (Yge 4 Yl1 rfl rfl rfl) gn rfl<|Yfx 3 rfl (Ygn Ymd rfl h9.hq) gn rfl<|Yfx 4 rfl (Ygh rfl rfl rfl) gn rfl<|Yg7 5 rfl ?_
    by_cases hp3804:x3342 < (x1.syms.length:Int)
    ·have h:=Ygg hp3804 h
     refine Ygm rfl _ rfl ((decide_eq_true hp3804))<|Ygp rfl<|Yg4 rfl<|Ygk rfl ?_
     obtain ⟨hb3805,h⟩:=h
     obtain ⟨x3813,hv3814,h⟩:=h
     obtain ⟨hb3815,h⟩:=h
     have hns:Region.noSelect (Code.ops q8c34)=true:=by kernel_rfl
     refine Yjr [8,9,10] 11 rfl rfl mix rfl (.c 0 rfl (.c 1 rfl .n))<|wfv 0 rfl (Ygb Yih rfl) gn hns (by kernel_rfl)<|wfv 1 rfl (Yge 2 Yl1 rfl rfl rfl) gn hns (by kernel_rfl)<|wfv 2 rfl (Ygb Yih rfl) gn hns (by kernel_rfl)<|wfv 3 rfl (Yge 4 Yl1 rfl rfl rfl) gn hns (by kernel_rfl)<|wfv 4 rfl (Yg1 rfl) gn hns (by kernel_rfl) ?_
     have hr3824:=Rw.readF (s:=St w []) (hl:=Ylk) (h1:=Ylj) h9 hb3805
     refine wfv 5 rfl (Yht (s:=St w []) Ypk rfl rfl h9 hb3805) gn hns (by kernel_rfl)<|wfv 6 rfl (Ylx (St w []) ld_61 rfl hr3824 rfl (me 1 rfl)) gn hns (by kernel_rfl) ?_
     refine Yk4 [7] (by kernel_rfl) rfl ⟨on_s 7 rfl gn rfl (Yo0 (xs:=([ix x1.syms x3342]:List Ygq)) [.string ((ix x1.syms x3342).name),.int .i64 ((ix x1.syms x3342).kind)] Ytc rfl (by kernel_rfl) rfl rfl rfl rfl fun gb3827 h3828=>?_),trivial⟩
     refine ⟨Yj0 [1,2,3,4,5] rfl,Yj0 [0,1] rfl,?_⟩
     refine Yk4 [8] (by kernel_rfl) rfl ⟨Yp9 8 rfl gn rfl (Ypv (zs:=x3813) (cells':=x3813.flatMap Ygd) 1 ap_23 rfl rfl rfl h3347 (Nat.le_refl _) (Src.ownF (hl:=Ylk) (h1:=Ylj) 0 rfl h3828) (by rw [hv3814,List.flatMap_append] <;> rfl) (Yn1 hv3814 h3828.hq) hb3815 rfl rfl fun A3829 c3830 h3831=>?_),trivial⟩
     unfold NxL
     refine Yk4 [9] (by kernel_rfl) rfl ⟨Yp9 9 rfl gn rfl (s_val (Ygb Yih rfl) rfl ?_),trivial⟩
     unfold NxL
     refine Yk4 [10] (by kernel_rfl) rfl ⟨Yp9 10 rfl gn rfl (Ylp (vs:=[.slice A3829 (n3345 + 1) c3830]) (cs':=[.slice A1438 n1439 c1440,.slice A3829 (n3345 + 1) c3830,.slice none 0 0]) (M':=[.own (.slice (some ⟨gb3827,0,none⟩) 1 1) 61 2 1 (([ix x1.syms x3342]:List Ygq).flatMap Ygd),.own (.slice A3829 (n3345 + 1) c3830) 61 2 (n3345 + 1) (x3813.flatMap Ygd),.own (.slice A1438 n1439 c1440) 58 2 n1439 (x1437.flatMap Yg9),.box gb18 26 [.slice A1438 n1439 c1440,.slice A3829 (n3345 + 1) c3830,.slice none 0 0],.box gb16 26 [.slice none 0 0,.slice none 0 0,.slice none 0 0],.box gb14 26 [.slice A2 n3 c4,.slice A6 n7 c8,.slice A10 n11 c12]]) 3 sz_23 rfl rfl rfl rfl rfl rfl rfl rfl rfl ?_),trivial⟩
     unfold NxL
     refine Ykm (by kernel_rfl)<|Ygo<|Yfy rfl rfl<|Yfx 0 rfl (Yg1 rfl) gn rfl<|Yfx 1 rfl (Ygh rfl rfl rfl) gn rfl<|Yfx 2 rfl (Yg3 rfl) gn rfl<|Yg7 3 rfl<|Ygt ?_
     have ih:=Out.inl hO2 h
     exact Yhq [0,1] (ih A3829 (n3345 + 1) c3830 h3831) ⟨rfl,rfl,rfl,rfl,trivial⟩ (.cons _ (.cons_cons _ (.cons_cons _ (.cons_cons _ (.cons_cons _ (.cons_cons _ (.slnil))))))) rfl
    ·have h:=Ygf hp3804 h
     refine Ygj rfl _ rfl ((decide_eq_false hp3804))<|Yit [.code Yrm] rfl rfl<|Yg4 rfl<|Yg4 rfl<|Yfy rfl rfl<|Yfx 0 rfl (Yg3 rfl) gn rfl<|Yg7 1 rfl<|Ygk rfl<|Yiu rfl ?_
     have key3:∀ s,Yga (fun (s:Int × (List Yg8)) o=>Yha x1 x1437 x3343 s.1 s.2 o) s o2→(fun (s:Int × (List Yg8))=>∀ (bs3984:List Nat) (A3985:Option Addr) (n3986:Nat) (c3987:Nat) (cs3988:List Value) (h3989:Ow w.heap.size A3985 n3986 c3987 s.2),G (Yhg w F r) [.code Yqj,.inLoop Yqj,.inBlock 4,.code q8c36] [(1,.pointer (some ⟨gb14,0,none⟩)),(2,.pointer (some ⟨gb16,0,none⟩)),(3,.pointer (some ⟨gb18,0,none⟩)),(6,.int .i64 s.1)] [Yi4 Ymk (w.heap.size) none s.2 cs3988 bs3984,.own (.slice A3985 n3986 c3987) 38 2 n3986 cs3988,.own (.slice A3344 n3345 c3346) 61 2 n3345 (x3343.flatMap Ygd),.own (.slice A1438 n1439 c1440) 58 2 n1439 (x1437.flatMap Yg9),.box gb18 26 [.slice A1438 n1439 c1440,.slice A3344 n3345 c3346,.slice A3985 n3986 c3987],.box gb16 26 [.slice none 0 0,.slice none 0 0,.slice none 0 0],.box gb14 26 [.slice A2 n3 c4,.slice A6 n7 c8,.slice A10 n11 c12]] [Sm w.heap.size F w [],St w []]) s:=by
      intro s hs
      refine Yga.ind (mot:=(fun (s:Int × (List Yg8))=>∀ (bs3984:List Nat) (A3985:Option Addr) (n3986:Nat) (c3987:Nat) (cs3988:List Value) (h3989:Ow w.heap.size A3985 n3986 c3987 s.2),G (Yhg w F r) [.code Yqj,.inLoop Yqj,.inBlock 4,.code q8c36] [(1,.pointer (some ⟨gb14,0,none⟩)),(2,.pointer (some ⟨gb16,0,none⟩)),(3,.pointer (some ⟨gb18,0,none⟩)),(6,.int .i64 s.1)] [Yi4 Ymk (w.heap.size) none s.2 cs3988 bs3984,.own (.slice A3985 n3986 c3987) 38 2 n3986 cs3988,.own (.slice A3344 n3345 c3346) 61 2 n3345 (x3343.flatMap Ygd),.own (.slice A1438 n1439 c1440) 58 2 n1439 (x1437.flatMap Yg9),.box gb18 26 [.slice A1438 n1439 c1440,.slice A3344 n3345 c3346,.slice A3985 n3986 c3987],.box gb16 26 [.slice none 0 0,.slice none 0 0,.slice none 0 0],.box gb14 26 [.slice A2 n3 c4,.slice A6 n7 c8,.slice A10 n11 c12]] [Sm w.heap.size F w [],St w []])) ?_ hs
      clear hs s
      intro s o3 h hO3
      obtain ⟨x3982,x3983⟩:=s
      show ∀ (bs3984:List Nat) (A3985:Option Addr) (n3986:Nat) (c3987:Nat) (cs3988:List Value) (h3989:Ow w.heap.size A3985 n3986 c3987 x3983),G (Yhg w F r) [.code Yqj,.inLoop Yqj,.inBlock 4,.code q8c36] [(1,.pointer (some ⟨gb14,0,none⟩)),(2,.pointer (some ⟨gb16,0,none⟩)),(3,.pointer (some ⟨gb18,0,none⟩)),(6,.int .i64 x3982)] [Yi4 Ymk (w.heap.size) none x3983 cs3988 bs3984,.own (.slice A3985 n3986 c3987) 38 2 n3986 cs3988,.own (.slice A3344 n3345 c3346) 61 2 n3345 (x3343.flatMap Ygd),.own (.slice A1438 n1439 c1440) 58 2 n1439 (x1437.flatMap Yg9),.box gb18 26 [.slice A1438 n1439 c1440,.slice A3344 n3345 c3346,.slice A3985 n3986 c3987],.box gb16 26 [.slice none 0 0,.slice none 0 0,.slice none 0 0],.box gb14 26 [.slice A2 n3 c4,.slice A6 n7 c8,.slice A10 n11 c12]] [Sm w.heap.size F w [],St w []]
      intro bs3984 A3985 n3986 c3987 cs3988 h3989
      have h:Yha x1 x1437 x3343 x3982 x3983 o3:=h
      unfold Yha at h
      refine Yg4 rfl<|Yg4 rfl<|Yfy rfl rfl<|Yfx 0 rfl (Yg1 rfl) gn rfl<|Yfx 1 rfl (Ygb Ygw rfl) gn rfl<|Yfx 2 rfl (Yge 6 Yip rfl rfl rfl) gn rfl<|Yfx 3 rfl (Ygn Ymb rfl h13.hq) gn rfl<|Yfx 4 rfl (Ygh rfl rfl rfl) gn rfl<|Yg7 5 rfl ?_
      by_cases hp4125:x3982 < (x1.prods.length:Int)
      ·have h:=Ygg hp4125 h
       refine Ygm rfl _ rfl ((decide_eq_true hp4125))<|Ygp rfl<|Yg4 rfl<|Ygk rfl ?_
       obtain ⟨hb4126,h⟩:=h
       obtain ⟨r4144,hv4145,h⟩:=h
       obtain ⟨x4163,hv4164,h⟩:=h
       obtain ⟨hb4165,h⟩:=h
       have hns:Region.noSelect (Code.ops q8c49)=true:=by kernel_rfl
       refine Yjr [17,18,19] 20 rfl rfl mix rfl (.c 0 rfl (.c 1 rfl .n))<|wfv 0 rfl (Ygb Ygw rfl) gn hns (by kernel_rfl)<|wfv 1 rfl (Yge 4 Yip rfl rfl rfl) gn hns (by kernel_rfl)<|wfv 2 rfl (Ygb Ygw rfl) gn hns (by kernel_rfl)<|wfv 3 rfl (Yge 6 Yip rfl rfl rfl) gn hns (by kernel_rfl)<|wfv 4 rfl (Yg1 rfl) gn hns (by kernel_rfl) ?_
       obtain ⟨ce4215,hK4216,hr4214⟩:=Rw.read (s:=St w []) h13 hb4126
       obtain ⟨A4217,n4218,c4219,rfl,h4220⟩:=hK4216
       refine wfv 5 rfl (Yht (s:=St w []) Yj6 rfl rfl h13 hb4126) gn hns (by kernel_rfl)<|wfv 6 rfl (Yjh Yk7 rfl) gn hns (by kernel_rfl)<|wfv 7 rfl (Yjt (kk:=(x3982:Int).toNat * 2) (j:=0) (St w []) Ym5 rfl hr4214 rfl (me 1 rfl)) gn hns (by kernel_rfl)<|wfv 8 rfl (Ygb Ygw rfl) gn hns (by kernel_rfl)<|wfv 9 rfl (Yge 6 Yip rfl rfl rfl) gn hns (by kernel_rfl)<|wfv 10 rfl (Yg1 rfl) gn hns (by kernel_rfl) ?_
       obtain ⟨ce4222,hK4223,hr4221⟩:=Rw.read (s:=St w []) h13 hb4126
       obtain ⟨A4224,n4225,c4226,rfl,h4227⟩:=hK4223
       refine wfv 11 rfl (Yht (s:=St w []) Yj6 rfl rfl h13 hb4126) gn hns (by kernel_rfl)<|wfv 12 rfl (Yjh Yke rfl) gn hns (by kernel_rfl)<|wfv 13 rfl (Yjt (kk:=(x3982:Int).toNat * 2) (j:=1) (St w []) Ymv rfl hr4221 rfl (me 1 rfl)) gn hns (by kernel_rfl) ?_
       refine Yk4 [14] (by kernel_rfl) rfl ⟨on_s 14 rfl gn rfl (Yhy [.slice A4224 n4225 c4226] rfl Try.func9 rfl rfl rfl fun w4238 hL4239=>?_),trivial⟩
       have hp4240:=pmI hL4239 .n (.c 0 rfl (.c 1 rfl (.c 2 rfl (.c 3 rfl (.c 4 rfl (.c 5 rfl (.c 6 rfl .n))))))) (by kernel_rfl)
       refine Calls.mono (Yib w4238 (Fl ([]:List Ygl)) ((ix x1.prods x3982).rhs) A4224 n4225 c4226 (Rw.mono h4227 (hL4239.toSt hp4240 (me 1 rfl))) (hL4239.hFl hp4240 (Yj0 [] rfl)) (hL4239.into hp4240 _) r4144 hv4145) ?_
       rintro _ w4245 ⟨A4241,n4242,c4243,rfl,hM4246,h4244⟩
       have hL4247:=hL4239.call hp4240 hM4246
       refine ⟨_,_,_,rfl,hL4247,?_⟩
       refine ⟨Yj0 [1,2,3,4,5,6,7] rfl,Yj0 [0,1] rfl,?_⟩
       refine wfv 15 rfl (Ymz #[.int .i64 ((ix x1.prods x3982).lhs),.slice A4241 n4242 c4243] bd_38 rfl (by kernel_rfl)) gn hns (by kernel_rfl) ?_
       refine wf_fam1 (z:=w.heap.size) (j:=0) Ymk (⟨(ix x1.prods x3982).lhs,r4144⟩:Yg8) rfl (Ow.weak hL4239.env.size h4244) rfl trivial fun bs4251=>?_
       refine Yk4 [16] (by kernel_rfl) rfl ⟨on_s 16 rfl gn rfl (Yo0 (xs:=([(⟨(ix x1.prods x3982).lhs,r4144⟩:Yg8)]:List Yg8)) [.int .i64 ((ix x1.prods x3982).lhs),.slice A4241 n4242 c4243] Yte rfl (by kernel_rfl) rfl rfl rfl rfl fun gb4252 h4253=>?_),trivial⟩
       refine ⟨Yj0 [2,3,4,5,6,7,8] rfl,Yj0 [0,1] rfl,?_⟩
       obtain ⟨cs4258,hc4259⟩:∃ x:List Value,x=cs3988++[.int .i64 ((ix x1.prods x3982).lhs),.slice A4241 n4242 c4243]:=⟨_,rfl⟩
       refine Yk4 [17] (by kernel_rfl) rfl ⟨Yp9 17 rfl gn rfl (Ypv (zs:=x4163) 3 ap_24 rfl rfl rfl h3989 (Nat.le_refl _) (Src.raw 0 rfl h4253 rfl rfl) hc4259.symm (Yn1 hv4164 h4253.hq) hb4165 rfl rfl fun A4254 c4255 h4256=>?_),trivial⟩
       unfold NxL
       refine Ytw (fk:=Ymk) (z:=w.heap.size) (j1:=1) (j:=2) (by decide) rfl rfl hv4164 hc4259 fun bs4257=>?_
       refine Yk4 [18] (by kernel_rfl) rfl ⟨Yp9 18 rfl gn rfl (s_val (Ygb Ygw rfl) rfl ?_),trivial⟩
       unfold NxL
       refine Yk4 [19] (by kernel_rfl) rfl ⟨Yp9 19 rfl gn rfl (Ylp (vs:=[.slice A4254 (n3986 + 1) c4255]) (cs':=[.slice A1438 n1439 c1440,.slice A3344 n3345 c3346,.slice A4254 (n3986 + 1) c4255]) (M':=[.own (.slice (some ⟨gb4252,0,none⟩) 1 1) 38 2 1 [.int .i64 ((ix x1.prods x3982).lhs),.slice A4241 n4242 c4243],Yi4 Ymk (w.heap.size) none x4163 cs4258 bs4257,.own (.slice A4254 (n3986 + 1) c4255) 38 2 (n3986 + 1) cs4258,.own (.slice A3344 n3345 c3346) 61 2 n3345 (x3343.flatMap Ygd),.own (.slice A1438 n1439 c1440) 58 2 n1439 (x1437.flatMap Yg9),.box gb18 26 [.slice A1438 n1439 c1440,.slice A3344 n3345 c3346,.slice A4254 (n3986 + 1) c4255],.box gb16 26 [.slice none 0 0,.slice none 0 0,.slice none 0 0],.box gb14 26 [.slice A2 n3 c4,.slice A6 n7 c8,.slice A10 n11 c12]]) 5 sz_24 rfl rfl rfl rfl rfl rfl rfl rfl rfl ?_),trivial⟩
       unfold NxL
       refine Ykm (by kernel_rfl)<|Ygo<|Yfy rfl rfl<|Yfx 0 rfl (Yg1 rfl) gn rfl<|Yfx 1 rfl (Ygh rfl rfl rfl) gn rfl<|Yfx 2 rfl (Yg3 rfl) gn rfl<|Yg7 3 rfl<|Ygt ?_
       have ih:=Out.inl hO3 h
       exact Yhq [0,1] (ih bs4257 A4254 (n3986 + 1) c4255 cs4258 h4256) ⟨rfl,rfl,rfl,rfl,trivial⟩ (.cons _ (.cons_cons _ (.cons_cons _ (.cons_cons _ (.cons_cons _ (.cons_cons _ (.cons_cons _ (.cons_cons _ (.slnil))))))))) rfl
      ·have h:=Ygf hp4125 h
       refine Ygj rfl _ rfl ((decide_eq_false hp4125))<|Yit [.code q8c36] rfl rfl<|Yg4 rfl<|Yfy rfl rfl<|Yfx 0 rfl (Ykb [.slice A1438 n1439 c1440,.slice A3344 n3345 c3346,.slice A3985 n3986 c3987] 4 Yk6 rfl rfl rfl rfl) gn rfl ?_
       refine Yh3 1 rfl (Ylp (vs:=[.slice A1438 n1439 c1440,.slice A3344 n3345 c3346,.slice A3985 n3986 c3987]) (cs':=[.slice A1438 n1439 c1440,.slice A3344 n3345 c3346,.slice A3985 n3986 c3987]) (M':=[Yi4 Ymk (w.heap.size) none x3983 cs3988 bs3984,.own (.slice A3985 n3986 c3987) 38 2 n3986 cs3988,.own (.slice A3344 n3345 c3346) 61 2 n3345 (x3343.flatMap Ygd),.own (.slice A1438 n1439 c1440) 58 2 n1439 (x1437.flatMap Yg9),.box gb18 26 [.slice A1438 n1439 c1440,.slice A3344 n3345 c3346,.slice A3985 n3986 c3987],.box gb16 26 [.slice A1438 n1439 c1440,.slice A3344 n3345 c3346,.slice A3985 n3986 c3987],.box gb14 26 [.slice A2 n3 c4,.slice A6 n7 c8,.slice A10 n11 c12]]) 5 Yss rfl rfl rfl rfl rfl rfl rfl rfl rfl ?_) gn
       refine Yg7 2 rfl ?_
       have h:=Out.inr hO3 h
       have h:=Out.inr hO2 h
       have h:=Out.inr hO1 h
       refine Ygu [.agg #[.slice A1438 n1439 c1440,.slice A3344 n3345 c3346,.slice A3985 n3986 c3987]] rfl Try.func8 rfl (.cell (cs:=[.slice A1438 n1439 c1440,.slice A3344 n3345 c3346,.slice A3985 n3986 c3987]) (us:=[.slice A1438 n1439 c1440,.slice A3344 n3345 c3346,.slice A3985 n3986 c3987]) 5 rfl Yk6 rfl rfl rfl (.nil)) fun wr hLr=>?_
       have hMr:=hLr.pkI (.c 3 rfl (.c 2 rfl (.c 1 rfl (.c 0 rfl .n)))) (.c 4 rfl (.c 5 rfl (.c 6 rfl .n))) (by kernel_rfl) (.c 1 rfl .n)
       show Yl8 w F  r (.returned (Yhi [.agg #[.slice A1438 n1439 c1440,.slice A3344 n3345 c3346,.slice A3985 n3986 c3987]])) wr
       rw [h]
       exact ⟨A1438,n1439,c1440,A3344,n3345,c3346,A3985,n3986,c3987,cs3988,bs3984,rfl,hMr,h1441,h3347,h3989⟩
     refine Yt2 38 2<|g_fam0 Ymk w.heap.size ?_
     exact Yhq [0,1] (key3 _ h [] none 0 0 [] (Ow.nil (z:=w.heap.size))) ⟨rfl,rfl,rfl,rfl,trivial⟩ (.cons_cons _ (.cons_cons _ (.cons_cons _ (.cons_cons _ (.cons_cons _ (.cons_cons _ (.cons_cons _ (.slnil)))))))) rfl
   refine Yt2 61 2 ?_
   exact Yhq [0,1] (key2 _ h none 0 0 (Ow.nil (z:=w.heap.size))) ⟨rfl,rfl,rfl,rfl,trivial⟩ (.cons_cons _ (.cons_cons _ (.cons_cons _ (.cons_cons _ (.cons_cons _ (.slnil)))))) rfl
 refine Yt2 58 2 ?_
 exact Yhq [0,1] (key1 _ h none 0 0 (Ow.nil (z:=w.heap.size))) ⟨rfl,rfl,rfl,rfl,trivial⟩ (.cons_cons _ (.cons_cons _ (.cons_cons _ (.cons_cons _ (.slnil))))) rfl
noncomputable abbrev q28c4:=Code.snd (Code.snd (Yhf Try.f28))
noncomputable abbrev Yqg:=Code.fst (Code.fst (Code.snd (Code.fst (Code.snd (Yhf Try.f28)))))
noncomputable abbrev q28c18:=Code.fst (Code.fst (Code.fst (Code.snd Yqg)))
abbrev Yk1 (w:World) (F:Nat→Prop) (r:Bool):Ending→World→Prop:=fun e w'=>e=.returned (.bool r)∧B.Loc w w' [] [St w []]
noncomputable abbrev Yko (w:World) (F:Nat→Prop) (r:Bool):Cx:=⟨Try.prog,28,Try.f28,33,Yk1 w F  r,w⟩
theorem Yls (w:World) (F:Nat→Prop) (x1:Yfz) (x14:List Yg6) (A2:Option Addr) (n3:Nat) (c4:Nat) (A6:Option Addr) (n7:Nat) (c8:Nat) (A10:Option Addr) (n11:Nat) (c12:Nat) (A15:Option Addr) (n16:Nat) (c17:Nat) (h5:Rw Ygi w (St w []).av A2 n3 c4 x1.terms) (h9:Rw Yh1 w (St w []).av A6 n7 c8 x1.syms) (h13:Rw Ygs w (St w []).av A10 n11 c12 x1.prods) (h18:Rw Yh0 w (St w []).av A15 n16 c17 x14) (hF:∀ b,F b→b < w.heap.size∧∀ o ∈ ([]:List (List Nat)),b ∉ o) (hL0:B.Loc w w [] [Sm w.heap.size F w [],St w []]) (r:Bool) (h:Yjw x1 x14 r):Calls Try.prog 28 #[.agg #[.slice A2 n3 c4,.slice A6 n7 c8,.slice A10 n11 c12],.slice A15 n16 c17] w (Yk1 w F  r):=by
 unfold Yjw at h
 refine Ygx (vs:=[.agg #[.slice A2 n3 c4,.slice A6 n7 c8,.slice A10 n11 c12],.slice A15 n16 c17]) 33 Try.func28 rfl Try.ntmps28 rfl hL0 ?_
 show G (Yko w F r) _ _ _ _
 refine Yg4 rfl<|Yfy rfl rfl ?_
 refine Yh3 0 rfl (Ym6 [.slice A2 n3 c4,.slice A6 n7 c8,.slice A10 n11 c12] rfl rfl rfl fun gb19=>?_) gn
 refine Yfx 1 rfl (Yg3 rfl) gn rfl<|Yg7 2 rfl<|Yg4 rfl<|Yg4 rfl<|Yfy rfl rfl<|Yfx 0 rfl (Yg3 rfl) gn rfl<|Yg7 1 rfl<|Ygk rfl<|Yiu rfl ?_
 have key1:∀ s,Yga (fun (s:Int) o=>Yie x14 x1 s o) s r→(fun (s:Int)=>∀ (_:Unit),G (Yko w F r) [.code Yqg,.inLoop Yqg,.inBlock 0,.code q28c4] [(1,.slice A15 n16 c17),(2,.pointer (some ⟨gb19,0,none⟩)),(5,.int .i64 s)] [.box gb19 26 [.slice A2 n3 c4,.slice A6 n7 c8,.slice A10 n11 c12]] [Sm w.heap.size F w [],St w []]) s:=by
  intro s hs
  refine Yga.ind (mot:=(fun (s:Int)=>∀ (_:Unit),G (Yko w F r) [.code Yqg,.inLoop Yqg,.inBlock 0,.code q28c4] [(1,.slice A15 n16 c17),(2,.pointer (some ⟨gb19,0,none⟩)),(5,.int .i64 s)] [.box gb19 26 [.slice A2 n3 c4,.slice A6 n7 c8,.slice A10 n11 c12]] [Sm w.heap.size F w [],St w []])) ?_ hs
  clear hs s
  intro x34 o1 h hO1
  show ∀ (_:Unit),G (Yko w F r) [.code Yqg,.inLoop Yqg,.inBlock 0,.code q28c4] [(1,.slice A15 n16 c17),(2,.pointer (some ⟨gb19,0,none⟩)),(5,.int .i64 x34)] [.box gb19 26 [.slice A2 n3 c4,.slice A6 n7 c8,.slice A10 n11 c12]] [Sm w.heap.size F w [],St w []]
  intro _
  have h:Yie x14 x1 x34 o1:=h
  unfold Yie at h
  refine Yg4 rfl<|Yg4 rfl<|Yfy rfl rfl<|Yfx 0 rfl (Yg1 rfl) gn rfl<|Yfx 1 rfl (Yg1 rfl) gn rfl<|Yfx 2 rfl (Ygn Ym9 rfl h18.hq) gn rfl<|Yfx 3 rfl (Ygh rfl rfl rfl) gn rfl<|Yg7 4 rfl ?_
  by_cases hp47:x34 < (x14.length:Int)
  ·have h:=Ygg hp47 h
   refine Ygm rfl _ rfl ((decide_eq_true hp47))<|Ygp rfl<|Yg4 rfl<|Ygk rfl<|Yg4 rfl ?_
   obtain ⟨hb48,h⟩:=h
   by_cases hp50:(ix x14 x34).sym < 0
   ·have h:=Ygg hp50 h
    have hns:Region.noSelect (Code.ops q28c18)=true:=by kernel_rfl
    refine Yjr [] 21 rfl rfl mix rfl (.c 0 rfl (.c 1 rfl .n))<|wfv 0 rfl (Yg1 rfl) gn hns rfl<|wfv 1 rfl (Yg1 rfl) gn hns rfl ?_
    have hr52:=Rw.readF (s:=St w []) (hl:=Yi0) (h1:=Yig) h18 hb48
    refine wfv 2 rfl (Yht (s:=St w []) Yl7 rfl rfl h18 hb48) gn hns rfl<|wfv 3 rfl (Yjh Ymf rfl) gn hns rfl<|wfv 4 rfl (Yjt (kk:=(x34:Int).toNat * 3) (j:=0) (St w []) Ym5 rfl hr52 rfl (me 1 rfl)) gn hns rfl<|wfv 5 rfl (Ygh rfl rfl rfl) gn hns rfl<|wfv 6 rfl (Yg1 rfl) gn hns rfl<|Yo8 18 rfl ((decide_eq_true hp50))<|wfp 7 rfl (ps 18 rfl rfl rfl) hns rfl<|wfp 8 rfl (ps 18 rfl rfl rfl) hns rfl<|wfp 9 rfl (ps 18 rfl rfl rfl) hns rfl<|wfp 10 rfl (ps 18 rfl rfl rfl) hns rfl<|wfp 11 rfl (ps 18 rfl rfl rfl) hns rfl<|wfp 12 rfl (ps 18 rfl rfl rfl) hns rfl ?_
    refine wfp 13 rfl (ps 18 rfl rfl rfl) hns rfl<|wfp 14 rfl (ps 18 rfl rfl rfl) hns rfl<|wfp 15 rfl (ps 18 rfl rfl rfl) hns rfl<|wfp 16 rfl (ps 18 rfl rfl rfl) hns rfl<|wfp 17 rfl (ps 18 rfl rfl rfl) hns rfl<|wfp 18 rfl (ps 18 rfl rfl rfl) hns rfl<|wfp 19 rfl (ps 18 rfl rfl rfl) hns rfl<|wfv 20 rfl (Ygv (b:=true) rfl rfl) gn hns rfl<|Ykm (by kernel_rfl)<|Ygm rfl _ rfl (rfl)<|Yg4 rfl<|Yfy rfl rfl ?_
    refine Yfx 0 rfl (Yg3 rfl) gn rfl<|Yg7 1 rfl ?_
    have h:=Out.inr hO1 h
    refine Ygu [.bool false] rfl Try.func28 rfl (.tmp rfl (.nil)) fun wr hLr=>?_
    have hMr:=hLr.pk0 (.c 1 rfl .n)
    show Yk1 w F  r (.returned (Yhi [.bool false])) wr
    rw [h]
    exact ⟨rfl,hMr⟩
   ·have h:=Ygf hp50 h
    have hns:Region.noSelect (Code.ops q28c18)=true:=by kernel_rfl
    refine Yjr [] 21 rfl rfl mix rfl (.c 0 rfl (.c 1 rfl .n))<|wfv 0 rfl (Yg1 rfl) gn hns rfl<|wfv 1 rfl (Yg1 rfl) gn hns rfl ?_
    have hr56:=Rw.readF (s:=St w []) (hl:=Yi0) (h1:=Yig) h18 hb48
    refine wfv 2 rfl (Yht (s:=St w []) Yl7 rfl rfl h18 hb48) gn hns rfl<|wfv 3 rfl (Yjh Ymf rfl) gn hns rfl<|wfv 4 rfl (Yjt (kk:=(x34:Int).toNat * 3) (j:=0) (St w []) Ym5 rfl hr56 rfl (me 1 rfl)) gn hns rfl<|wfv 5 rfl (Ygh rfl rfl rfl) gn hns rfl<|wfv 6 rfl (Yg1 rfl) gn hns rfl<|Yo8 18 rfl ((decide_eq_false hp50))<|wfv 7 rfl (Yg1 rfl) (gy 18 rfl rfl) hns rfl<|wfv 8 rfl (Yg1 rfl) (gy 18 rfl rfl) hns rfl ?_
    have hr57:=Rw.readF (s:=St w []) (hl:=Yi0) (h1:=Yig) h18 hb48
    refine wfv 9 rfl (Yht (s:=St w []) Yl7 rfl rfl h18 hb48) (gy 18 rfl rfl) hns rfl<|wfv 10 rfl (Yjh Ymf rfl) (gy 18 rfl rfl) hns rfl<|wfv 11 rfl (Yjt (kk:=(x34:Int).toNat * 3) (j:=0) (St w []) Ym5 rfl hr57 rfl (me 1 rfl)) (gy 18 rfl rfl) hns rfl<|wfv 12 rfl (Ygb Yi3 rfl) (gy 18 rfl rfl) hns rfl<|wfv 13 rfl (Yge 0 Ykl rfl rfl rfl) (gy 18 rfl rfl) hns rfl<|wfv 14 rfl (Ygn Ylt rfl h5.hq) (gy 18 rfl rfl) hns rfl<|wfv 15 rfl (Ygb Yih rfl) (gy 18 rfl rfl) hns rfl<|wfv 16 rfl (Yge 0 Yl1 rfl rfl rfl) (gy 18 rfl rfl) hns rfl<|wfv 17 rfl (Ygn Ymd rfl h9.hq) (gy 18 rfl rfl) hns rfl<|wfv 18 rfl (Ygh rfl rfl rfl) (gy 18 rfl rfl) hns rfl<|wfv 19 rfl (Ygh rfl rfl rfl) (gy 18 rfl rfl) hns rfl<|wfv 20 rfl (Ygv (b:=false) rfl rfl) gn hns rfl ?_
    refine Ykm (by kernel_rfl) ?_
    by_cases hp58:(ix x14 x34).sym≥w64 ((x1.terms.length:Int) + (x1.syms.length:Int))
    ·have h:=Ygg hp58 h
     refine Ygm rfl _ rfl ((decide_eq_true hp58))<|Yg4 rfl<|Yfy rfl rfl<|Yfx 0 rfl (Yg3 rfl) gn rfl<|Yg7 1 rfl ?_
     have h:=Out.inr hO1 h
     refine Ygu [.bool false] rfl Try.func28 rfl (.tmp rfl (.nil)) fun wr hLr=>?_
     have hMr:=hLr.pk0 (.c 1 rfl .n)
     show Yk1 w F  r (.returned (Yhi [.bool false])) wr
     rw [h]
     exact ⟨rfl,hMr⟩
    ·have h:=Ygf hp58 h
     refine Ygj rfl _ rfl ((decide_eq_false hp58))<|Ygp rfl<|Ygo<|Yfy rfl rfl<|Yfx 0 rfl (Yg1 rfl) gn rfl<|Yfx 1 rfl (Ygh rfl rfl rfl) gn rfl<|Yfx 2 rfl (Yg3 rfl) gn rfl<|Yg7 3 rfl<|Ygt ?_
     have ih:=Out.inl hO1 h
     exact Yhq [0,1] (ih ()) ⟨rfl,rfl,rfl,trivial⟩ (.cons_cons _ (.slnil)) rfl
  ·have h:=Ygf hp47 h
   refine Ygj rfl _ rfl ((decide_eq_false hp47))<|Yit [.code q28c4] rfl rfl<|Yg4 rfl<|Yfy rfl rfl<|Yfx 0 rfl (Yg3 rfl) gn rfl<|Yg7 1 rfl ?_
   have h:=Out.inr hO1 h
   refine Ygu [.bool true] rfl Try.func28 rfl (.tmp rfl (.nil)) fun wr hLr=>?_
   have hMr:=hLr.pk0 (.c 1 rfl .n)
   show Yk1 w F  r (.returned (Yhi [.bool true])) wr
   rw [h]
   exact ⟨rfl,hMr⟩
 exact Yhq [0,1] (key1 _ h ()) ⟨rfl,rfl,rfl,trivial⟩ (.cons_cons _ (.slnil)) rfl
noncomputable abbrev q27c4:=Code.snd (Code.snd (Yhf Try.f27))
noncomputable abbrev q27c6:=Code.snd (Code.fst (Code.snd (Yhf Try.f27)))
noncomputable abbrev Ys3:=Code.snd q27c4
noncomputable abbrev Ypb:=Code.fst (Code.fst (Code.snd (Code.fst q27c4)))
abbrev Yi8 (w:World) (F:Nat→Prop) (r:Bool):Ending→World→Prop:=fun e w'=>e=.returned (.bool r)∧B.Loc w w' [] [St w []]
noncomputable abbrev Yjc (w:World) (F:Nat→Prop) (r:Bool):Cx:=⟨Try.prog,27,Try.f27,51,Yi8 w F  r,w⟩
theorem Ylb (w:World) (F:Nat→Prop) (x1:Yfz) (A2:Option Addr) (n3:Nat) (c4:Nat) (A6:Option Addr) (n7:Nat) (c8:Nat) (A10:Option Addr) (n11:Nat) (c12:Nat) (h5:Rw Ygi w (St w []).av A2 n3 c4 x1.terms) (h9:Rw Yh1 w (St w []).av A6 n7 c8 x1.syms) (h13:Rw Ygs w (St w []).av A10 n11 c12 x1.prods) (hF:∀ b,F b→b < w.heap.size∧∀ o ∈ ([]:List (List Nat)),b ∉ o) (hL0:B.Loc w w [] [Sm w.heap.size F w [],St w []]) (r:Bool) (h:Yj7 x1 r):Calls Try.prog 27 #[.agg #[.slice A2 n3 c4,.slice A6 n7 c8,.slice A10 n11 c12]] w (Yi8 w F  r):=by
 unfold Yj7 at h
 refine Ygx (vs:=[.agg #[.slice A2 n3 c4,.slice A6 n7 c8,.slice A10 n11 c12]]) 51 Try.func27 rfl Try.ntmps27 rfl hL0 ?_
 show G (Yjc w F r) _ _ _ _
 refine Yg4 rfl<|Yfy rfl rfl ?_
 refine Yh3 0 rfl (Ym6 [.slice A2 n3 c4,.slice A6 n7 c8,.slice A10 n11 c12] rfl rfl rfl fun gb14=>?_) gn
 refine Yfx 1 rfl (Yg3 rfl) gn rfl<|Yg7 2 rfl<|Yg4 rfl<|Yg4 rfl ?_
 have j1:∀ (x19:Bool) (h:Yi1 x1 x19 r) ,G (Yjc w F r) [.code q27c6,.code q27c4] [(1,.pointer (some ⟨gb14,0,none⟩)),(20,.bool x19)] [.box gb14 26 [.slice A2 n3 c4,.slice A6 n7 c8,.slice A10 n11 c12]] [Sm w.heap.size F w [],St w []]:=by
  intro x19 h
  unfold Yi1 at h
  by_cases hp20:x19=true
  ·have h:=Ygg hp20 h
   refine Ygm rfl _ rfl (hp20)<|Yg4 rfl<|Yfy rfl rfl<|Yfx 0 rfl (Yg3 rfl) gn rfl<|Yg7 1 rfl ?_
   refine Ygu [.bool false] rfl Try.func27 rfl (.tmp rfl (.nil)) fun wr hLr=>?_
   have hMr:=hLr.pk0 (.c 1 rfl .n)
   show Yi8 w F  r (.returned (Yhi [.bool false])) wr
   rw [h]
   exact ⟨rfl,hMr⟩
  ·have h:=Ygf hp20 h
   refine Ygj rfl _ rfl ((bf hp20))<|Ygp rfl<|Yg4 rfl<|Yg4 rfl<|Yfy rfl rfl<|Yfx 0 rfl (Yg3 rfl) gn rfl<|Yg7 1 rfl<|Ygk rfl<|Yiu rfl ?_
   have key2:∀ s,Yga (fun (s:Int) o=>Yi2 x1 s o) s r→(fun (s:Int)=>∀ (_:Unit),G (Yjc w F r) [.code Ypb,.inLoop Ypb,.inBlock 0,.code Ys3] [(1,.pointer (some ⟨gb14,0,none⟩)),(3,.int .i64 s)] [.box gb14 26 [.slice A2 n3 c4,.slice A6 n7 c8,.slice A10 n11 c12]] [Sm w.heap.size F w [],St w []]) s:=by
    intro s hs
    refine Yga.ind (mot:=(fun (s:Int)=>∀ (_:Unit),G (Yjc w F r) [.code Ypb,.inLoop Ypb,.inBlock 0,.code Ys3] [(1,.pointer (some ⟨gb14,0,none⟩)),(3,.int .i64 s)] [.box gb14 26 [.slice A2 n3 c4,.slice A6 n7 c8,.slice A10 n11 c12]] [Sm w.heap.size F w [],St w []])) ?_ hs
    clear hs s
    intro x44 o1 h hO1
    show ∀ (_:Unit),G (Yjc w F r) [.code Ypb,.inLoop Ypb,.inBlock 0,.code Ys3] [(1,.pointer (some ⟨gb14,0,none⟩)),(3,.int .i64 x44)] [.box gb14 26 [.slice A2 n3 c4,.slice A6 n7 c8,.slice A10 n11 c12]] [Sm w.heap.size F w [],St w []]
    intro _
    have h:Yi2 x1 x44 o1:=h
    unfold Yi2 at h
    refine Yg4 rfl<|Yg4 rfl<|Yfy rfl rfl<|Yfx 0 rfl (Yg1 rfl) gn rfl<|Yfx 1 rfl (Ygb Ygw rfl) gn rfl<|Yfx 2 rfl (Yge 0 Yip rfl rfl rfl) gn rfl<|Yfx 3 rfl (Ygn Ymb rfl h13.hq) gn rfl<|Yfx 4 rfl (Ygh rfl rfl rfl) gn rfl<|Yg7 5 rfl ?_
    by_cases hp67:x44 < (x1.prods.length:Int)
    ·have h:=Ygg hp67 h
     refine Ygm rfl _ rfl ((decide_eq_true hp67))<|Ygp rfl<|Yg4 rfl<|Ygk rfl<|Yg4 rfl<|Yfy rfl rfl<|Yfx 0 rfl (Ygb Ygw rfl) gn rfl<|Yfx 1 rfl (Yge 0 Yip rfl rfl rfl) gn rfl<|Yfx 2 rfl (Yg1 rfl) gn rfl ?_
     obtain ⟨hb68,h⟩:=h
     obtain ⟨ce70,hK71,hr69⟩:=Rw.read (s:=St w []) h13 hb68
     obtain ⟨A72,n73,c74,rfl,h75⟩:=hK71
     refine Yfx 3 rfl (Yht (s:=St w []) Yj6 rfl rfl h13 hb68) gn rfl<|Yfx 4 rfl (Ylx (St w []) ld_38 rfl hr69 rfl (me 1 rfl)) gn rfl ?_
     refine Yh3 5 rfl (Ykd [.int .i64 0,.slice none 0 0] zr_38 rfl fun gb76=>?_) gn
     refine Yh3 6 rfl (Ylp (vs:=[.int .i64 ((ix x1.prods x44).lhs),.slice A72 n73 c74]) (cs':=[.int .i64 ((ix x1.prods x44).lhs),.slice A72 n73 c74]) (M':=[.box gb76 38 [.int .i64 ((ix x1.prods x44).lhs),.slice A72 n73 c74],.box gb14 26 [.slice A2 n3 c4,.slice A6 n7 c8,.slice A10 n11 c12]]) 0 sz_38 rfl rfl rfl rfl rfl rfl rfl rfl rfl ?_) gn
     refine Yg7 7 rfl<|Yg4 rfl<|Yfy rfl rfl<|Yfx 0 rfl (Ygb Yk7 rfl) gn rfl<|Yfx 1 rfl (Yge 0 Ym5 rfl rfl rfl) gn rfl<|Yfx 2 rfl (Ygh rfl rfl rfl) gn rfl<|Yfx 3 rfl (Yg1 rfl) gn rfl ?_
     by_cases hp78:(ix x1.prods x44).lhs < -1
     ·have h:=Ygg hp78 h
      refine Yhr 36 rfl ((decide_eq_true hp78))<|Yg5 4 rfl (ps 36 rfl rfl rfl)<|Yg5 5 rfl (ps 36 rfl rfl rfl)<|Yg5 6 rfl (ps 36 rfl rfl rfl)<|Yg5 7 rfl (ps 36 rfl rfl rfl)<|Yg5 8 rfl (ps 36 rfl rfl rfl)<|Yg5 9 rfl (ps 36 rfl rfl rfl)<|Yfx 10 rfl (Ygv (b:=true) rfl rfl) gn rfl<|Yfx 11 rfl (Yg1 rfl) gn rfl<|Yg5 12 rfl (ps 44 rfl rfl rfl)<|Yg5 13 rfl (ps 44 rfl rfl rfl)<|Yg5 14 rfl (ps 44 rfl rfl rfl) ?_
      refine Yg5 15 rfl (ps 44 rfl rfl rfl)<|Yg5 16 rfl (ps 44 rfl rfl rfl)<|Yfx 17 rfl (Ygv (b:=true) rfl rfl) gn rfl<|Yg7 18 rfl<|Ygm rfl _ rfl (rfl)<|Yg4 rfl<|Yfy rfl rfl<|Yfx 0 rfl (Yg3 rfl) gn rfl<|Yg7 1 rfl ?_
      have h:=Out.inr hO1 h
      refine Ygu [.bool false] rfl Try.func27 rfl (.tmp rfl (.nil)) fun wr hLr=>?_
      have hMr:=hLr.pk0 (.c 1 rfl .n)
      show Yi8 w F  r (.returned (Yhi [.bool false])) wr
      rw [h]
      exact ⟨rfl,hMr⟩
     ·have h:=Ygf hp78 h
      refine Yhr 36 rfl ((decide_eq_false hp78))<|Yfx 4 rfl (Ygb Yk7 rfl) (gy 36 rfl rfl) rfl<|Yfx 5 rfl (Yge 0 Ym5 rfl rfl rfl) (gy 36 rfl rfl) rfl<|Yfx 6 rfl (Ygb Yih rfl) (gy 36 rfl rfl) rfl<|Yfx 7 rfl (Yge 1 Yl1 rfl rfl rfl) (gy 36 rfl rfl) rfl<|Yfx 8 rfl (Ygn Ymd rfl h9.hq) (gy 36 rfl rfl) rfl<|Yfx 9 rfl (Ygh rfl rfl rfl) (gy 36 rfl rfl) rfl<|Yfx 10 rfl (Ygv (b:=false) rfl rfl) gn rfl<|Yfx 11 rfl (Yg1 rfl) gn rfl ?_
      by_cases hp79:(ix x1.prods x44).lhs≥(x1.syms.length:Int)
      ·have h:=Ygg hp79 h
       refine Yhr 44 rfl ((decide_eq_true hp79))<|Yg5 12 rfl (ps 44 rfl rfl rfl)<|Yg5 13 rfl (ps 44 rfl rfl rfl)<|Yg5 14 rfl (ps 44 rfl rfl rfl)<|Yg5 15 rfl (ps 44 rfl rfl rfl)<|Yg5 16 rfl (ps 44 rfl rfl rfl)<|Yfx 17 rfl (Ygv (b:=true) rfl rfl) gn rfl<|Yg7 18 rfl<|Ygm rfl _ rfl (rfl)<|Yg4 rfl<|Yfy rfl rfl<|Yfx 0 rfl (Yg3 rfl) gn rfl ?_
       refine Yg7 1 rfl ?_
       have h:=Out.inr hO1 h
       refine Ygu [.bool false] rfl Try.func27 rfl (.tmp rfl (.nil)) fun wr hLr=>?_
       have hMr:=hLr.pk0 (.c 1 rfl .n)
       show Yi8 w F  r (.returned (Yhi [.bool false])) wr
       rw [h]
       exact ⟨rfl,hMr⟩
      ·have h:=Ygf hp79 h
       refine Yhr 44 rfl ((decide_eq_false hp79))<|Yfx 12 rfl (Ykb [.slice A2 n3 c4,.slice A6 n7 c8,.slice A10 n11 c12] 1 Yk6 rfl rfl rfl rfl) (gy 44 rfl rfl) rfl<|Yfx 13 rfl (Ygb Yke rfl) (gy 44 rfl rfl) rfl<|Yfx 14 rfl (Yge 0 Ymv rfl rfl rfl) (gy 44 rfl rfl) rfl ?_
       obtain ⟨r83,hv84,h⟩:=h
       refine Yh3 15 rfl (Yhy [.agg #[.slice A2 n3 c4,.slice A6 n7 c8,.slice A10 n11 c12],.slice A72 n73 c74] rfl Try.func28 rfl rfl rfl fun w80 hL81=>?_) (gy 44 rfl rfl)
       have hp82:=pmI hL81 .n (.c 0 rfl (.c 1 rfl .n)) (by kernel_rfl)
       refine Calls.mono (Yls w80 (Fl ([]:List Ygl)) x1 ((ix x1.prods x44).rhs) A2 n3 c4 A6 n7 c8 A10 n11 c12 A72 n73 c74 (Rw.mono h5 (hL81.toSt hp82 (me 1 rfl))) (Rw.mono h9 (hL81.toSt hp82 (me 1 rfl))) (Rw.mono h13 (hL81.toSt hp82 (me 1 rfl))) (Rw.mono h75 (hL81.toSt hp82 (me 1 rfl))) (hL81.hFl hp82 (Yj0 [] rfl)) (hL81.into hp82 _) r83 hv84) ?_
       rintro _ w85 ⟨rfl,hM86⟩
       have hL87:=hL81.call hp82 hM86
       refine ⟨_,_,_,rfl,hL87,?_⟩
       refine Yfx 16 rfl (Ymc rfl) (gy 44 rfl rfl) rfl<|Yfx 17 rfl (Ygv (b:=false) rfl rfl) gn rfl<|Yg7 18 rfl ?_
       by_cases hp88:r83=true
       ·have h:=Ygg hp88 h
        refine Ygj rfl _ rfl ((nf hp88))<|Ygp rfl<|Ygo<|Yfy rfl rfl<|Yfx 0 rfl (Yg1 rfl) gn rfl<|Yfx 1 rfl (Ygh rfl rfl rfl) gn rfl<|Yfx 2 rfl (Yg3 rfl) gn rfl<|Yg7 3 rfl<|Ygt ?_
        have ih:=Out.inl hO1 h
        exact Yhq [0,1] (ih ()) ⟨rfl,rfl,trivial⟩ (.cons _ (.cons_cons _ (.slnil))) rfl
       ·have h:=Ygf hp88 h
        refine Ygm rfl _ rfl ((nt (bf hp88)))<|Yg4 rfl<|Yfy rfl rfl<|Yfx 0 rfl (Yg3 rfl) gn rfl<|Yg7 1 rfl ?_
        have h:=Out.inr hO1 h
        refine Ygu [.bool false] rfl Try.func27 rfl (.tmp rfl (.nil)) fun wr hLr=>?_
        have hMr:=hLr.pk0 (.c 1 rfl .n)
        show Yi8 w F  r (.returned (Yhi [.bool false])) wr
        rw [h]
        exact ⟨rfl,hMr⟩
    ·have h:=Ygf hp67 h
     refine Ygj rfl _ rfl ((decide_eq_false hp67))<|Yit [.code Ys3] rfl rfl<|Yg4 rfl<|Yfy rfl rfl<|Yfx 0 rfl (Yg3 rfl) gn rfl<|Yg7 1 rfl ?_
     have h:=Out.inr hO1 h
     refine Ygu [.bool true] rfl Try.func27 rfl (.tmp rfl (.nil)) fun wr hLr=>?_
     have hMr:=hLr.pk0 (.c 1 rfl .n)
     show Yi8 w F  r (.returned (Yhi [.bool true])) wr
     rw [h]
     exact ⟨rfl,hMr⟩
   exact Yhq [0,1] (key2 _ h ()) ⟨rfl,rfl,trivial⟩ (.cons_cons _ (.slnil)) rfl
 refine Yfy rfl rfl<|Yfx 0 rfl (Ygb Yi3 rfl) gn rfl<|Yfx 1 rfl (Yge 0 Ykl rfl rfl rfl) gn rfl<|Yfx 2 rfl (Ygn Ylt rfl h5.hq) gn rfl<|Yfx 3 rfl (Ygh rfl rfl rfl) gn rfl<|Yfx 4 rfl (Yg1 rfl) gn rfl ?_
 by_cases hp89:(x1.terms.length:Int) < 1
 ·have h:=Ygg hp89 h
  refine Yhr 9 rfl ((decide_eq_true hp89))<|Yg5 5 rfl (ps 9 rfl rfl rfl)<|Yg5 6 rfl (ps 9 rfl rfl rfl)<|Yg5 7 rfl (ps 9 rfl rfl rfl)<|Yg5 8 rfl (ps 9 rfl rfl rfl)<|Yfx 9 rfl (Ygv (b:=true) rfl rfl) gn rfl<|Yfx 10 rfl (Yg1 rfl) gn rfl<|Yg5 11 rfl (ps 15 rfl rfl rfl)<|Yg5 12 rfl (ps 15 rfl rfl rfl)<|Yg5 13 rfl (ps 15 rfl rfl rfl)<|Yg5 14 rfl (ps 15 rfl rfl rfl)<|Yfx 15 rfl (Ygv (b:=true) rfl rfl) gn rfl ?_
  refine Yg7 16 rfl ?_
  exact Yhq [0,1] (j1 true h) ⟨rfl,rfl,trivial⟩ (.cons_cons _ (.slnil)) rfl
 ·have h:=Ygf hp89 h
  refine Yhr 9 rfl ((decide_eq_false hp89))<|Yfx 5 rfl (Ygb Yi3 rfl) (gy 9 rfl rfl) rfl<|Yfx 6 rfl (Yge 0 Ykl rfl rfl rfl) (gy 9 rfl rfl) rfl<|Yfx 7 rfl (Ygn Ylt rfl h5.hq) (gy 9 rfl rfl) rfl<|Yfx 8 rfl (Ygh rfl rfl rfl) (gy 9 rfl rfl) rfl<|Yfx 9 rfl (Ygv (b:=false) rfl rfl) gn rfl<|Yfx 10 rfl (Yg1 rfl) gn rfl ?_
  by_cases hp90:(x1.terms.length:Int) > 64
  ·have h:=Ygg hp90 h
   refine Yhr 15 rfl ((decide_eq_true hp90))<|Yg5 11 rfl (ps 15 rfl rfl rfl)<|Yg5 12 rfl (ps 15 rfl rfl rfl)<|Yg5 13 rfl (ps 15 rfl rfl rfl)<|Yg5 14 rfl (ps 15 rfl rfl rfl)<|Yfx 15 rfl (Ygv (b:=true) rfl rfl) gn rfl<|Yg7 16 rfl ?_
   exact Yhq [0,1] (j1 true h) ⟨rfl,rfl,trivial⟩ (.cons_cons _ (.slnil)) rfl
  ·have h:=Ygf hp90 h
   refine Yhr 15 rfl ((decide_eq_false hp90))<|Yfx 11 rfl (Ygb Yih rfl) (gy 15 rfl rfl) rfl<|Yfx 12 rfl (Yge 0 Yl1 rfl rfl rfl) (gy 15 rfl rfl) rfl<|Yfx 13 rfl (Ygn Ymd rfl h9.hq) (gy 15 rfl rfl) rfl<|Yfx 14 rfl (Ygh rfl rfl rfl) (gy 15 rfl rfl) rfl<|Yfx 15 rfl (Ygv (b:=false) rfl rfl) gn rfl<|Yg7 16 rfl ?_
   exact Yhq [0,1] (j1 (decide ((x1.syms.length:Int) > 128)) h) ⟨rfl,rfl,trivial⟩ (.cons_cons _ (.slnil)) rfl
noncomputable abbrev q30c4:=Code.snd (Code.snd (Yhf Try.f30))
noncomputable abbrev Yri:=Code.fst (Code.fst (Code.snd (Code.fst (Code.snd (Yhf Try.f30)))))
abbrev Ykc (w:World) (F:Nat→Prop) (r:Bool):Ending→World→Prop:=fun e w'=>e=.returned (.bool r)∧B.Loc w w' [] [St w []]
noncomputable abbrev Ykf (w:World) (F:Nat→Prop) (r:Bool):Cx:=⟨Try.prog,30,Try.f30,21,Ykc w F  r,w⟩
theorem Ylm (w:World) (F:Nat→Prop) (x1:List Bool) (x6:List Yg6) (A2:Option Addr) (n3:Nat) (c4:Nat) (A7:Option Addr) (n8:Nat) (c9:Nat) (h5:Rw Yod w (St w []).av A2 n3 c4 x1) (h10:Rw Yh0 w (St w []).av A7 n8 c9 x6) (hF:∀ b,F b→b < w.heap.size∧∀ o ∈ ([]:List (List Nat)),b ∉ o) (hL0:B.Loc w w [] [Sm w.heap.size F w [],St w []]) (r:Bool) (h:Yji x1 x6 r):Calls Try.prog 30 #[.slice A2 n3 c4,.slice A7 n8 c9] w (Ykc w F  r):=by
 unfold Yji at h
 refine Ygx (vs:=[.slice A2 n3 c4,.slice A7 n8 c9]) 21 Try.func30 rfl Try.ntmps30 rfl hL0 ?_
 show G (Ykf w F r) _ _ _ _
 refine Yg4 rfl<|Yfy rfl rfl<|Yfx 0 rfl (Yg3 rfl) gn rfl<|Yg7 1 rfl<|Yg4 rfl<|Yg4 rfl<|Yfy rfl rfl<|Yfx 0 rfl (Yg3 rfl) gn rfl<|Yg7 1 rfl<|Ygk rfl<|Yiu rfl ?_
 have key1:∀ s,Yga (fun (s:Int) o=>Yi7 x6 x1 s o) s r→(fun (s:Int)=>∀ (_:Unit),G (Ykf w F r) [.code Yri,.inLoop Yri,.inBlock 0,.code q30c4] [(0,.slice A2 n3 c4),(1,.slice A7 n8 c9),(5,.int .i64 s)] [] [Sm w.heap.size F w [],St w []]) s:=by
  intro s hs
  refine Yga.ind (mot:=(fun (s:Int)=>∀ (_:Unit),G (Ykf w F r) [.code Yri,.inLoop Yri,.inBlock 0,.code q30c4] [(0,.slice A2 n3 c4),(1,.slice A7 n8 c9),(5,.int .i64 s)] [] [Sm w.heap.size F w [],St w []])) ?_ hs
  clear hs s
  intro x18 o1 h hO1
  show ∀ (_:Unit),G (Ykf w F r) [.code Yri,.inLoop Yri,.inBlock 0,.code q30c4] [(0,.slice A2 n3 c4),(1,.slice A7 n8 c9),(5,.int .i64 x18)] [] [Sm w.heap.size F w [],St w []]
  intro _
  have h:Yi7 x6 x1 x18 o1:=h
  unfold Yi7 at h
  refine Yg4 rfl<|Yg4 rfl<|Yfy rfl rfl<|Yfx 0 rfl (Yg1 rfl) gn rfl<|Yfx 1 rfl (Yg1 rfl) gn rfl<|Yfx 2 rfl (Ygn Ym9 rfl h10.hq) gn rfl<|Yfx 3 rfl (Ygh rfl rfl rfl) gn rfl<|Yg7 4 rfl ?_
  by_cases hp25:x18 < (x6.length:Int)
  ·have h:=Ygg hp25 h
   refine Ygm rfl _ rfl ((decide_eq_true hp25))<|Ygp rfl<|Yg4 rfl<|Ygk rfl<|Yg4 rfl<|Yfy rfl rfl<|Yfx 0 rfl (Yg1 rfl) gn rfl<|Yfx 1 rfl (Yg1 rfl) gn rfl<|Yfx 2 rfl (Yg1 rfl) gn rfl ?_
   obtain ⟨hb26,h⟩:=h
   have hr27:=Rw.readF (s:=St w []) (hl:=Yi0) (h1:=Yig) h10 hb26
   refine Yfx 3 rfl (Yht (s:=St w []) Yl7 rfl rfl h10 hb26) gn rfl<|Yfx 4 rfl (Yjh Ymf rfl) gn rfl<|Yfx 5 rfl (Yjt (kk:=(x18:Int).toNat * 3) (j:=0) (St w []) Ym5 rfl hr27 rfl (me 1 rfl)) gn rfl ?_
   obtain ⟨hb28,h⟩:=h
   have hr29:=Rw.readF (s:=St w []) (hl:=hlB) (h1:=Yp6) h5 hb28
   refine Yfx 6 rfl (Yht (s:=St w []) Yp4 rfl rfl h5 hb28) gn rfl<|Yfx 7 rfl (Yjt (kk:=((ix x6 x18).sym:Int).toNat * 1) (j:=0) (St w []) ld_4 rfl hr29 rfl (me 1 rfl)) gn rfl<|Yfx 8 rfl (Ymc rfl) gn rfl<|Yg7 9 rfl ?_
   by_cases hp30:(ix x1 ((ix x6 x18).sym))=true
   ·have h:=Ygg hp30 h
    refine Ygj rfl _ rfl ((nf hp30))<|Ygp rfl<|Ygo<|Yfy rfl rfl<|Yfx 0 rfl (Yg1 rfl) gn rfl<|Yfx 1 rfl (Ygh rfl rfl rfl) gn rfl<|Yfx 2 rfl (Yg3 rfl) gn rfl<|Yg7 3 rfl<|Ygt ?_
    have ih:=Out.inl hO1 h
    exact Yhq [0,1] (ih ()) ⟨rfl,rfl,rfl,trivial⟩ (.slnil) rfl
   ·have h:=Ygf hp30 h
    refine Ygm rfl _ rfl ((nt (bf hp30)))<|Yg4 rfl<|Yfy rfl rfl<|Yfx 0 rfl (Yg3 rfl) gn rfl<|Yg7 1 rfl ?_
    have h:=Out.inr hO1 h
    refine Ygu [.bool false] rfl Try.func30 rfl (.tmp rfl (.nil)) fun wr hLr=>?_
    have hMr:=hLr.pk0 (.c 1 rfl .n)
    show Ykc w F  r (.returned (Yhi [.bool false])) wr
    rw [h]
    exact ⟨rfl,hMr⟩
  ·have h:=Ygf hp25 h
   refine Ygj rfl _ rfl ((decide_eq_false hp25))<|Yit [.code q30c4] rfl rfl<|Yg4 rfl<|Yfy rfl rfl<|Yfx 0 rfl (Yg3 rfl) gn rfl<|Yg7 1 rfl ?_
   have h:=Out.inr hO1 h
   refine Ygu [.bool true] rfl Try.func30 rfl (.tmp rfl (.nil)) fun wr hLr=>?_
   have hMr:=hLr.pk0 (.c 1 rfl .n)
   show Ykc w F  r (.returned (Yhi [.bool true])) wr
   rw [h]
   exact ⟨rfl,hMr⟩
 exact Yhq [0,1] (key1 _ h ()) ⟨rfl,rfl,rfl,trivial⟩ (.slnil) rfl
noncomputable abbrev Yns:=Code.snd (Code.snd (Code.snd (Code.snd (Yhf Try.f16))))
noncomputable abbrev Ym8:=Code.fst (Code.fst (Code.snd (Code.fst (Code.snd (Code.snd (Code.snd (Yhf Try.f16)))))))
noncomputable abbrev Ys5:=Code.snd (Code.snd Ym8)
noncomputable abbrev Ypi:=Code.fst (Code.fst (Code.snd (Code.fst (Code.fst (Code.snd Ym8)))))
abbrev Yjj (w:World) (F:Nat→Prop) (r:List Bool):Ending→World→Prop:=fun e w'=>∃ A0:Option Addr,∃ n0:Nat,∃ c0:Nat,e=.returned (.slice A0 n0 c0)∧B.Loc w w' [.own (.slice A0 n0 c0) 4 1 n0 (r.flatMap eB)] [St w []]∧Ow w.heap.size A0 n0 c0 r
noncomputable abbrev Yhw (w:World) (F:Nat→Prop) (r:List Bool):Cx:=⟨Try.prog,16,Try.f16,55,Yjj w F  r,w⟩
theorem Ymi (w:World) (F:Nat→Prop) (x1:Yfz) (A2:Option Addr) (n3:Nat) (c4:Nat) (A6:Option Addr) (n7:Nat) (c8:Nat) (A10:Option Addr) (n11:Nat) (c12:Nat) (h5:Rw Ygi w (St w []).av A2 n3 c4 x1.terms) (h9:Rw Yh1 w (St w []).av A6 n7 c8 x1.syms) (h13:Rw Ygs w (St w []).av A10 n11 c12 x1.prods) (hF:∀ b,F b→b < w.heap.size∧∀ o ∈ ([]:List (List Nat)),b ∉ o) (hL0:B.Loc w w [] [Sm w.heap.size F w [],St w []]) (r:List Bool) (h:Yk2 x1 r):Calls Try.prog 16 #[.agg #[.slice A2 n3 c4,.slice A6 n7 c8,.slice A10 n11 c12]] w (Yjj w F  r):=by
 unfold Yk2 at h
 refine Ygx (vs:=[.agg #[.slice A2 n3 c4,.slice A6 n7 c8,.slice A10 n11 c12]]) 55 Try.func16 rfl Try.ntmps16 rfl hL0 ?_
 show G (Yhw w F r) _ _ _ _
 refine Yg4 rfl<|Yfy rfl rfl ?_
 refine Yh3 0 rfl (Ym6 [.slice A2 n3 c4,.slice A6 n7 c8,.slice A10 n11 c12] rfl rfl rfl fun gb14=>?_) gn
 refine Yfx 1 rfl (Yg3 rfl) gn rfl<|Yg7 2 rfl<|Yg4 rfl<|Yg4 rfl<|Yfy rfl rfl<|Yfx 0 rfl (Ykb [.slice A2 n3 c4,.slice A6 n7 c8,.slice A10 n11 c12] 0 Yk6 rfl rfl rfl rfl) gn rfl ?_
 obtain ⟨r19,hv20,h⟩:=h
 refine Yh3 1 rfl (Yhy [.agg #[.slice A2 n3 c4,.slice A6 n7 c8,.slice A10 n11 c12]] rfl Try.func27 rfl rfl rfl fun w16 hL17=>?_) gn
 have hp18:=pmI hL17 .n (.c 0 rfl .n) (by kernel_rfl)
 refine Calls.mono (Ylb w16 (Fl ([]:List Ygl)) x1 A2 n3 c4 A6 n7 c8 A10 n11 c12 (Rw.mono h5 (hL17.toSt hp18 (me 1 rfl))) (Rw.mono h9 (hL17.toSt hp18 (me 1 rfl))) (Rw.mono h13 (hL17.toSt hp18 (me 1 rfl))) (hL17.hFl hp18 (Yj0 [] rfl)) (hL17.into hp18 _) r19 hv20) ?_
 rintro _ w21 ⟨rfl,hM22⟩
 have hL23:=hL17.call hp18 hM22
 refine ⟨_,_,_,rfl,hL23,?_⟩
 refine Yfx 2 rfl (Ymc rfl) gn rfl<|Yg7 3 rfl ?_
 by_cases hp24:r19=true
 ·have h:=Ygg hp24 h
  refine Ygj rfl _ rfl ((nf hp24))<|Ygp rfl<|Yg4 rfl<|Yfy rfl rfl<|Yfx 0 rfl (Ygb Yi3 rfl) gn rfl<|Yfx 1 rfl (Yge 0 Ykl rfl rfl rfl) gn rfl<|Yfx 2 rfl (Ygn Ylt rfl h5.hq) gn rfl<|Yfx 3 rfl (Ygb Yih rfl) gn rfl<|Yfx 4 rfl (Yge 0 Yl1 rfl rfl rfl) gn rfl<|Yfx 5 rfl (Ygn Ymd rfl h9.hq) gn rfl<|Yfx 6 rfl (Ygh rfl rfl rfl) gn rfl ?_
  obtain ⟨hb25,h⟩:=h
  obtain ⟨x29,hv30,h⟩:=h
  refine Yh3 7 rfl (Ytn (enc:=eB) (z:=false) mk_40 rfl (by decide) rfl rfl hb25.1 hb25.2 (by decide) hv30 rfl fun A26 h27=>?_) gn
  refine Yfx 8 rfl (Yg3 rfl) gn rfl<|Yg7 9 rfl<|Yg4 rfl<|Yg4 rfl<|Yfy rfl rfl<|Yfx 0 rfl (Yg3 rfl) gn rfl<|Yg7 1 rfl<|Ygk rfl<|Yiu rfl ?_
  have key1:∀ s,Yga (fun (s:(List Bool) × Int) o=>Ygy x1 s.1 s.2 o) s r→(fun (s:(List Bool) × Int)=>∀ (h113:Ow w.heap.size A26 (w64 ((x1.terms.length:Int) + (x1.syms.length:Int)):Int).toNat (w64 ((x1.terms.length:Int) + (x1.syms.length:Int)):Int).toNat s.1),G (Yhw w F r) [.code Ym8,.inLoop Ym8,.inBlock 0,.code Yns] [(1,.pointer (some ⟨gb14,0,none⟩)),(3,.slice A26 ((w64 ((x1.terms.length:Int) + (x1.syms.length:Int)):Int).toNat) ((w64 ((x1.terms.length:Int) + (x1.syms.length:Int)):Int).toNat)),(4,.int .i64 s.2)] [.own (.slice A26 ((w64 ((x1.terms.length:Int) + (x1.syms.length:Int)):Int).toNat) ((w64 ((x1.terms.length:Int) + (x1.syms.length:Int)):Int).toNat)) 4 1 ((w64 ((x1.terms.length:Int) + (x1.syms.length:Int)):Int).toNat) (s.1.flatMap eB),.box gb14 26 [.slice A2 n3 c4,.slice A6 n7 c8,.slice A10 n11 c12]] [Sm w.heap.size F w [],St w []]) s:=by
   intro s hs
   refine Yga.ind (mot:=(fun (s:(List Bool) × Int)=>∀ (h113:Ow w.heap.size A26 (w64 ((x1.terms.length:Int) + (x1.syms.length:Int)):Int).toNat (w64 ((x1.terms.length:Int) + (x1.syms.length:Int)):Int).toNat s.1),G (Yhw w F r) [.code Ym8,.inLoop Ym8,.inBlock 0,.code Yns] [(1,.pointer (some ⟨gb14,0,none⟩)),(3,.slice A26 ((w64 ((x1.terms.length:Int) + (x1.syms.length:Int)):Int).toNat) ((w64 ((x1.terms.length:Int) + (x1.syms.length:Int)):Int).toNat)),(4,.int .i64 s.2)] [.own (.slice A26 ((w64 ((x1.terms.length:Int) + (x1.syms.length:Int)):Int).toNat) ((w64 ((x1.terms.length:Int) + (x1.syms.length:Int)):Int).toNat)) 4 1 ((w64 ((x1.terms.length:Int) + (x1.syms.length:Int)):Int).toNat) (s.1.flatMap eB),.box gb14 26 [.slice A2 n3 c4,.slice A6 n7 c8,.slice A10 n11 c12]] [Sm w.heap.size F w [],St w []])) ?_ hs
   clear hs s
   intro s o1 h hO1
   obtain ⟨x112,x114⟩:=s
   show ∀ (h113:Ow w.heap.size A26 (w64 ((x1.terms.length:Int) + (x1.syms.length:Int)):Int).toNat (w64 ((x1.terms.length:Int) + (x1.syms.length:Int)):Int).toNat x112),G (Yhw w F r) [.code Ym8,.inLoop Ym8,.inBlock 0,.code Yns] [(1,.pointer (some ⟨gb14,0,none⟩)),(3,.slice A26 ((w64 ((x1.terms.length:Int) + (x1.syms.length:Int)):Int).toNat) ((w64 ((x1.terms.length:Int) + (x1.syms.length:Int)):Int).toNat)),(4,.int .i64 x114)] [.own (.slice A26 ((w64 ((x1.terms.length:Int) + (x1.syms.length:Int)):Int).toNat) ((w64 ((x1.terms.length:Int) + (x1.syms.length:Int)):Int).toNat)) 4 1 ((w64 ((x1.terms.length:Int) + (x1.syms.length:Int)):Int).toNat) (x112.flatMap eB),.box gb14 26 [.slice A2 n3 c4,.slice A6 n7 c8,.slice A10 n11 c12]] [Sm w.heap.size F w [],St w []]
   intro h113
   have h:Ygy x1 x112 x114 o1:=h
   unfold Ygy at h
   refine Yg4 rfl<|Yg4 rfl<|Yfy rfl rfl<|Yfx 0 rfl (Yg1 rfl) gn rfl<|Yfx 1 rfl (Ygb Yih rfl) gn rfl<|Yfx 2 rfl (Yge 1 Yl1 rfl rfl rfl) gn rfl<|Yfx 3 rfl (Ygn Ymd rfl h9.hq) gn rfl<|Yfx 4 rfl (Ygh rfl rfl rfl) gn rfl<|Yg7 5 rfl ?_
   by_cases hp195:x114 < (x1.syms.length:Int)
   ·have h:=Ygg hp195 h
    refine Ygm rfl _ rfl ((decide_eq_true hp195))<|Ygp rfl<|Yg4 rfl<|Ygk rfl<|Yg4 rfl<|Yfy rfl rfl<|Yfx 0 rfl (Yg3 rfl) gn rfl<|Yg7 1 rfl<|Ygk rfl<|Yiu rfl ?_
    have key2:∀ s,Yga (fun (s:(List Bool) × Int) o=>Ygz x1 x114 s.1 s.2 o) s o1→(fun (s:(List Bool) × Int)=>∀ (h223:Ow w.heap.size A26 (w64 ((x1.terms.length:Int) + (x1.syms.length:Int)):Int).toNat (w64 ((x1.terms.length:Int) + (x1.syms.length:Int)):Int).toNat s.1),G (Yhw w F r) [.code Ypi,.inLoop Ypi,.inBlock 2,.inBlock 1,.code Ys5,.inLoop Ym8,.inBlock 0,.code Yns] [(1,.pointer (some ⟨gb14,0,none⟩)),(3,.slice A26 ((w64 ((x1.terms.length:Int) + (x1.syms.length:Int)):Int).toNat) ((w64 ((x1.terms.length:Int) + (x1.syms.length:Int)):Int).toNat)),(4,.int .i64 x114),(5,.int .i64 s.2)] [.own (.slice A26 ((w64 ((x1.terms.length:Int) + (x1.syms.length:Int)):Int).toNat) ((w64 ((x1.terms.length:Int) + (x1.syms.length:Int)):Int).toNat)) 4 1 ((w64 ((x1.terms.length:Int) + (x1.syms.length:Int)):Int).toNat) (s.1.flatMap eB),.box gb14 26 [.slice A2 n3 c4,.slice A6 n7 c8,.slice A10 n11 c12]] [Sm w.heap.size F w [],St w []]) s:=by
     intro s hs
     refine Yga.ind (mot:=(fun (s:(List Bool) × Int)=>∀ (h223:Ow w.heap.size A26 (w64 ((x1.terms.length:Int) + (x1.syms.length:Int)):Int).toNat (w64 ((x1.terms.length:Int) + (x1.syms.length:Int)):Int).toNat s.1),G (Yhw w F r) [.code Ypi,.inLoop Ypi,.inBlock 2,.inBlock 1,.code Ys5,.inLoop Ym8,.inBlock 0,.code Yns] [(1,.pointer (some ⟨gb14,0,none⟩)),(3,.slice A26 ((w64 ((x1.terms.length:Int) + (x1.syms.length:Int)):Int).toNat) ((w64 ((x1.terms.length:Int) + (x1.syms.length:Int)):Int).toNat)),(4,.int .i64 x114),(5,.int .i64 s.2)] [.own (.slice A26 ((w64 ((x1.terms.length:Int) + (x1.syms.length:Int)):Int).toNat) ((w64 ((x1.terms.length:Int) + (x1.syms.length:Int)):Int).toNat)) 4 1 ((w64 ((x1.terms.length:Int) + (x1.syms.length:Int)):Int).toNat) (s.1.flatMap eB),.box gb14 26 [.slice A2 n3 c4,.slice A6 n7 c8,.slice A10 n11 c12]] [Sm w.heap.size F w [],St w []])) ?_ hs
     clear hs s
     intro s o2 h hO2
     obtain ⟨x222,x224⟩:=s
     show ∀ (h223:Ow w.heap.size A26 (w64 ((x1.terms.length:Int) + (x1.syms.length:Int)):Int).toNat (w64 ((x1.terms.length:Int) + (x1.syms.length:Int)):Int).toNat x222),G (Yhw w F r) [.code Ypi,.inLoop Ypi,.inBlock 2,.inBlock 1,.code Ys5,.inLoop Ym8,.inBlock 0,.code Yns] [(1,.pointer (some ⟨gb14,0,none⟩)),(3,.slice A26 ((w64 ((x1.terms.length:Int) + (x1.syms.length:Int)):Int).toNat) ((w64 ((x1.terms.length:Int) + (x1.syms.length:Int)):Int).toNat)),(4,.int .i64 x114),(5,.int .i64 x224)] [.own (.slice A26 ((w64 ((x1.terms.length:Int) + (x1.syms.length:Int)):Int).toNat) ((w64 ((x1.terms.length:Int) + (x1.syms.length:Int)):Int).toNat)) 4 1 ((w64 ((x1.terms.length:Int) + (x1.syms.length:Int)):Int).toNat) (x222.flatMap eB),.box gb14 26 [.slice A2 n3 c4,.slice A6 n7 c8,.slice A10 n11 c12]] [Sm w.heap.size F w [],St w []]
     intro h223
     have h:Ygz x1 x114 x222 x224 o2:=h
     unfold Ygz at h
     refine Yg4 rfl<|Yg4 rfl<|Yfy rfl rfl<|Yfx 0 rfl (Yg1 rfl) gn rfl<|Yfx 1 rfl (Ygb Ygw rfl) gn rfl<|Yfx 2 rfl (Yge 1 Yip rfl rfl rfl) gn rfl<|Yfx 3 rfl (Ygn Ymb rfl h13.hq) gn rfl<|Yfx 4 rfl (Ygh rfl rfl rfl) gn rfl<|Yg7 5 rfl ?_
     by_cases hp250:x224 < (x1.prods.length:Int)
     ·have h:=Ygg hp250 h
      refine Ygm rfl _ rfl ((decide_eq_true hp250))<|Ygp rfl<|Yg4 rfl<|Ygk rfl<|Yg4 rfl<|Yfy rfl rfl<|Yfx 0 rfl (Ygb Ygw rfl) gn rfl<|Yfx 1 rfl (Yge 1 Yip rfl rfl rfl) gn rfl<|Yfx 2 rfl (Yg1 rfl) gn rfl ?_
      obtain ⟨hb251,h⟩:=h
      obtain ⟨ce253,hK254,hr252⟩:=Rw.read (s:=St w []) h13 hb251
      obtain ⟨A255,n256,c257,rfl,h258⟩:=hK254
      refine Yfx 3 rfl (Yht (s:=St w []) Yj6 rfl rfl h13 hb251) gn rfl<|Yfx 4 rfl (Ylx (St w []) ld_38 rfl hr252 rfl (me 1 rfl)) gn rfl ?_
      refine Yh3 5 rfl (Ykd [.int .i64 0,.slice none 0 0] zr_38 rfl fun gb259=>?_) gn
      refine Yh3 6 rfl (Ylp (vs:=[.int .i64 ((ix x1.prods x224).lhs),.slice A255 n256 c257]) (cs':=[.int .i64 ((ix x1.prods x224).lhs),.slice A255 n256 c257]) (M':=[.box gb259 38 [.int .i64 ((ix x1.prods x224).lhs),.slice A255 n256 c257],.own (.slice A26 ((w64 ((x1.terms.length:Int) + (x1.syms.length:Int)):Int).toNat) ((w64 ((x1.terms.length:Int) + (x1.syms.length:Int)):Int).toNat)) 4 1 ((w64 ((x1.terms.length:Int) + (x1.syms.length:Int)):Int).toNat) (x222.flatMap eB),.box gb14 26 [.slice A2 n3 c4,.slice A6 n7 c8,.slice A10 n11 c12]]) 0 sz_38 rfl rfl rfl rfl rfl rfl rfl rfl rfl ?_) gn
      refine Yg7 7 rfl<|Yg4 rfl<|Yfy rfl rfl<|Yfx 0 rfl (Ygb Yk7 rfl) gn rfl<|Yfx 1 rfl (Yge 0 Ym5 rfl rfl rfl) gn rfl<|Yfx 2 rfl (Ygh rfl rfl rfl) gn rfl<|Yfx 3 rfl (Yg1 rfl) gn rfl ?_
      by_cases hp261:(ix x1.prods x224).lhs≥0
      ·have h:=Ygg hp261 h
       refine Yhr 40 rfl ((decide_eq_true hp261))<|Yfx 4 rfl (Yg1 rfl) (gy 40 rfl rfl) rfl<|Yfx 5 rfl (Ygb Yke rfl) (gy 40 rfl rfl) rfl<|Yfx 6 rfl (Yge 0 Ymv rfl rfl rfl) (gy 40 rfl rfl) rfl ?_
       obtain ⟨r265,hv266,h⟩:=h
       refine Yh3 7 rfl (Yhy [.slice A26 ((w64 ((x1.terms.length:Int) + (x1.syms.length:Int)):Int).toNat) ((w64 ((x1.terms.length:Int) + (x1.syms.length:Int)):Int).toNat),.slice A255 n256 c257] rfl Try.func30 rfl rfl rfl fun w262 hL263=>?_) (gy 40 rfl rfl)
       have hp264:=pmI hL263 .n (.c 0 rfl (.c 1 rfl (.c 2 rfl .n))) (by kernel_rfl)
       refine Calls.mono (Ylm w262 (Fl ([]:List Ygl)) x222 ((ix x1.prods x224).rhs) A26 ((w64 ((x1.terms.length:Int) + (x1.syms.length:Int)):Int).toNat) ((w64 ((x1.terms.length:Int) + (x1.syms.length:Int)):Int).toNat) A255 n256 c257 (hL263.argO (dk:=Yod) hp264 [] rfl 1 rfl rfl h223 (me 0 rfl) (Cells.flat _)) (Rw.mono h258 (hL263.toSt hp264 (me 1 rfl))) (hL263.hFl hp264 (Yj0 [] rfl)) (hL263.into hp264 _) r265 hv266) ?_
       rintro _ w267 ⟨rfl,hM268⟩
       have hL269:=hL263.call hp264 hM268
       refine ⟨_,_,_,rfl,hL269,?_⟩
       refine Yfx 8 rfl (Ygv (b:=true) rfl rfl) gn rfl<|Yg7 9 rfl ?_
       by_cases hp270:r265=true
       ·have h:=Ygg hp270 h
        refine Ygm rfl _ rfl (hp270)<|Yfy rfl rfl<|Yfx 0 rfl (Yg1 rfl) gn rfl<|Yfx 1 rfl (Ygb Yi3 rfl) gn rfl<|Yfx 2 rfl (Yge 2 Ykl rfl rfl rfl) gn rfl<|Yfx 3 rfl (Ygn Ylt rfl h5.hq) gn rfl<|Yfx 4 rfl (Ygb Yk7 rfl) gn rfl<|Yfx 5 rfl (Yge 0 Ym5 rfl rfl rfl) gn rfl<|Yfx 6 rfl (Ygh rfl rfl rfl) gn rfl ?_
        obtain ⟨hb271,h⟩:=h
        refine Yfx 7 rfl (Yn6 Yp4 rfl rfl h223 hb271) gn rfl ?_
        obtain ⟨x272,hv273,h⟩:=h
        refine Yh3 8 rfl (s_stF (enc:=eB) (o:=0) (z:=true) (vs:=[.bool true]) (i:=(w64 ((x1.terms.length:Int) + ((ix x1.prods x224).lhs)))) 1 hlB sz_4 rfl rfl rfl rfl rfl h223 hb271 rfl rfl rfl hv273 fun h274=>?_) gn
        refine Yg7 9 rfl<|Ygo<|Yfy rfl rfl<|Yfx 0 rfl (Yg1 rfl) gn rfl<|Yfx 1 rfl (Ygh rfl rfl rfl) gn rfl<|Yfx 2 rfl (Yg3 rfl) gn rfl<|Yg7 3 rfl<|Ygt ?_
        have ih:=Out.inl hO2 h
        exact Yhq [0,1] (ih h274) ⟨rfl,rfl,rfl,rfl,trivial⟩ (.cons _ (.cons_cons _ (.cons_cons _ (.slnil)))) rfl
       ·have h:=Ygf hp270 h
        refine Ygj rfl _ rfl ((bf hp270))<|Ygp rfl<|Ygo<|Yfy rfl rfl<|Yfx 0 rfl (Yg1 rfl) gn rfl<|Yfx 1 rfl (Ygh rfl rfl rfl) gn rfl<|Yfx 2 rfl (Yg3 rfl) gn rfl<|Yg7 3 rfl<|Ygt ?_
        have ih:=Out.inl hO2 h
        exact Yhq [0,1] (ih h223) ⟨rfl,rfl,rfl,rfl,trivial⟩ (.cons _ (.cons_cons _ (.cons_cons _ (.slnil)))) rfl
      ·have h:=Ygf hp261 h
       refine Yhr 40 rfl ((decide_eq_false hp261))<|Yg5 4 rfl (ps 40 rfl rfl rfl)<|Yg5 5 rfl (ps 40 rfl rfl rfl)<|Yg5 6 rfl (ps 40 rfl rfl rfl)<|Yg5 7 rfl (ps 40 rfl rfl rfl)<|Yfx 8 rfl (Ygv (b:=false) rfl rfl) gn rfl<|Yg7 9 rfl<|Ygj rfl _ rfl (rfl)<|Ygp rfl<|Ygo<|Yfy rfl rfl<|Yfx 0 rfl (Yg1 rfl) gn rfl ?_
       refine Yfx 1 rfl (Ygh rfl rfl rfl) gn rfl<|Yfx 2 rfl (Yg3 rfl) gn rfl<|Yg7 3 rfl<|Ygt ?_
       have ih:=Out.inl hO2 h
       exact Yhq [0,1] (ih h223) ⟨rfl,rfl,rfl,rfl,trivial⟩ (.cons _ (.cons_cons _ (.cons_cons _ (.slnil)))) rfl
     ·have h:=Ygf hp250 h
      refine Ygj rfl _ rfl ((decide_eq_false hp250))<|Yit [.inBlock 1,.code Ys5,.inLoop Ym8,.inBlock 0,.code Yns] rfl rfl<|Ygo<|Yfy rfl rfl<|Yfx 0 rfl (Yg1 rfl) gn rfl<|Yfx 1 rfl (Ygh rfl rfl rfl) gn rfl<|Yfx 2 rfl (Yg3 rfl) gn rfl<|Yg7 3 rfl<|Ygt ?_
      have h:=Out.inr hO2 h
      have ih:=Out.inl hO1 h
      exact Yhq [0,1] (ih h223) ⟨rfl,rfl,rfl,trivial⟩ (.cons_cons _ (.cons_cons _ (.slnil))) rfl
    exact Yhq [0,1] (key2 _ h h113) ⟨rfl,rfl,rfl,rfl,trivial⟩ (.cons_cons _ (.cons_cons _ (.slnil))) rfl
   ·have h:=Ygf hp195 h
    refine Ygj rfl _ rfl ((decide_eq_false hp195))<|Yit [.code Yns] rfl rfl<|Yg4 rfl<|Yfy rfl rfl<|Yfx 0 rfl (Yg1 rfl) gn rfl<|Yfx 1 rfl (Yg3 rfl) gn rfl<|Yg7 2 rfl ?_
    have h:=Out.inr hO1 h
    refine Ygu [.slice A26 ((w64 ((x1.terms.length:Int) + (x1.syms.length:Int)):Int).toNat) ((w64 ((x1.terms.length:Int) + (x1.syms.length:Int)):Int).toNat)] rfl Try.func16 rfl (.tmp rfl (.nil)) fun wr hLr=>?_
    have hMr:=hLr.pkI (.c 0 rfl .n) (.c 1 rfl .n) (by kernel_rfl) (.c 1 rfl .n)
    show Yjj w F  r (.returned (Yhi [.slice A26 ((w64 ((x1.terms.length:Int) + (x1.syms.length:Int)):Int).toNat) ((w64 ((x1.terms.length:Int) + (x1.syms.length:Int)):Int).toNat)])) wr
    rw [h]
    exact ⟨A26,(w64 ((x1.terms.length:Int) + (x1.syms.length:Int)):Int).toNat,(w64 ((x1.terms.length:Int) + (x1.syms.length:Int)):Int).toNat,rfl,hMr,h113⟩
  exact Yhq [0,1] (key1 _ h h27) ⟨rfl,rfl,rfl,trivial⟩ (.cons_cons _ (.cons_cons _ (.slnil))) rfl
 ·have h:=Ygf hp24 h
  refine Ygm rfl _ rfl ((nt (bf hp24)))<|Yg4 rfl<|Yfy rfl rfl<|Yfx 0 rfl (Yg3 rfl) gn rfl<|Yg7 1 rfl<|Yt2 4 1 ?_
  refine Ygu [.slice none 0 0] rfl Try.func16 rfl (.tmp rfl (.nil)) fun wr hLr=>?_
  have hMr:=hLr.pkI (.c 0 rfl .n) (.c 1 rfl .n) (by kernel_rfl) (.c 1 rfl .n)
  show Yjj w F  r (.returned (Yhi [.slice none 0 0])) wr
  rw [h]
  exact ⟨none,0,0,rfl,hMr,(Ow.nil (z:=w.heap.size))⟩
noncomputable abbrev Yot:=Code.snd (Code.snd (Yhf Try.f39))
noncomputable abbrev Ymw:=Code.fst (Code.fst (Code.snd (Code.fst (Code.snd (Yhf Try.f39)))))
noncomputable abbrev Yqr:=Code.snd (Code.snd Ymw)
noncomputable abbrev Yql:=Code.snd (Code.snd (Code.fst (Code.fst (Code.snd Ymw))))
noncomputable abbrev Ynw:=Code.fst (Code.fst (Code.snd (Code.snd (Code.fst (Code.snd (Code.fst (Code.snd (Code.fst (Code.fst (Code.snd Ymw))))))))))
noncomputable abbrev q39c41:=Code.fst (Code.fst (Code.fst (Code.snd Ynw)))
noncomputable abbrev q39c43:=Code.fst (Code.snd (Code.fst (Code.fst (Code.snd Ynw))))
abbrev Yjg (w:World) (F:Nat→Prop) (A25:Option Addr) (n26:Nat) (c27:Nat) (z29:Nat) (r:List Bool):Ending→World→Prop:=fun e w'=>∃ A0:Option Addr,∃ n0:Nat,∃ c0:Nat,e=.returned (.slice A0 n0 c0)∧B.Loc w w' [.own (.slice A0 n0 c0) 4 1 n0 (r.flatMap eB)] [St w [(Value.slice A25 n26 c27).ownBlock.toList]]∧Ow z29 A0 n0 c0 r
noncomputable abbrev Yhx (w:World) (F:Nat→Prop) (A25:Option Addr) (n26:Nat) (c27:Nat) (z29:Nat) (r:List Bool):Cx:=⟨Try.prog,39,Try.f39,76,Yjg w F A25 n26 c27 z29 r,w⟩
def Ykw (rl:Yfz→(List Bool)→(List Yg6)→(List Bool)→(List Bool)→Prop):Prop:=∀ (w:World) (F:Nat→Prop) (x1:Yfz) (x14:List Bool) (x19:List Yg6) (x24:List Bool) (A2:Option Addr) (n3:Nat) (c4:Nat) (A6:Option Addr) (n7:Nat) (c8:Nat) (A10:Option Addr) (n11:Nat) (c12:Nat) (A15:Option Addr) (n16:Nat) (c17:Nat) (A20:Option Addr) (n21:Nat) (c22:Nat) (z29:Nat) (A25:Option Addr) (n26:Nat) (c27:Nat) (h5:Rw Ygi w (St w [(Value.slice A25 n26 c27).ownBlock.toList]).av A2 n3 c4 x1.terms) (h9:Rw Yh1 w (St w [(Value.slice A25 n26 c27).ownBlock.toList]).av A6 n7 c8 x1.syms) (h13:Rw Ygs w (St w [(Value.slice A25 n26 c27).ownBlock.toList]).av A10 n11 c12 x1.prods) (h18:Rw Yod w (St w [(Value.slice A25 n26 c27).ownBlock.toList]).av A15 n16 c17 x14) (h23:Rw Yh0 w (St w [(Value.slice A25 n26 c27).ownBlock.toList]).av A20 n21 c22 x19) (hz30:z29≤w.heap.size) (h28:Ow z29 A25 n26 c27 x24) (hF:∀ b,F b→b < w.heap.size∧∀ o ∈ ([(Value.slice A25 n26 c27).ownBlock.toList]:List (List Nat)),b ∉ o) (hL0:B.Loc w w [.own (.slice A25 n26 c27) 4 1 n26 (x24.flatMap eB)] [Sm w.heap.size F w [(Value.slice A25 n26 c27).ownBlock.toList],St w [(Value.slice A25 n26 c27).ownBlock.toList]]) (r:List Bool) (h:rl x1 x14 x19 x24 r),Calls Try.prog 39 #[.agg #[.slice A2 n3 c4,.slice A6 n7 c8,.slice A10 n11 c12],.slice A15 n16 c17,.slice A20 n21 c22,.slice A25 n26 c27] w (Yjg w F A25 n26 c27 z29 r)
theorem Ynf (rc_trellisref11_leads:Yfz→(List Bool)→(List Yg6)→(List Bool)→(List Bool)→Prop) (ih_trellisref11_leads:Ykw rc_trellisref11_leads):Ykw (Yis rc_trellisref11_leads):=by
 intro w F x1 x14 x19 x24 A2 n3 c4 A6 n7 c8 A10 n11 c12 A15 n16 c17 A20 n21 c22 z29 A25 n26 c27 h5 h9 h13 h18 h23 hz30 h28 hF hL0 r h
 unfold Yis at h
 refine Ygx (vs:=[.agg #[.slice A2 n3 c4,.slice A6 n7 c8,.slice A10 n11 c12],.slice A15 n16 c17,.slice A20 n21 c22,.slice A25 n26 c27]) 76 Try.func39 rfl Try.ntmps39 rfl hL0 ?_
 show G (Yhx w F A25 n26 c27 z29 r) _ _ _ _
 refine Yg4 rfl<|Yfy rfl rfl ?_
 refine Yh3 0 rfl (Ym6 [.slice A2 n3 c4,.slice A6 n7 c8,.slice A10 n11 c12] rfl rfl rfl fun gb31=>?_) gn
 refine Yfx 1 rfl (Yg3 rfl) gn rfl<|Yg7 2 rfl<|Yg4 rfl<|Yg4 rfl<|Yfy rfl rfl<|Yfx 0 rfl (Yg3 rfl) gn rfl<|Yg7 1 rfl<|Ygk rfl<|Yiu rfl ?_
 have key1:∀ s,Yga (fun (s:(List Bool) × Int) o=>Yh6 x19 x14 x1 rc_trellisref11_leads s.1 s.2 o) s r→(fun (s:(List Bool) × Int)=>∀ (A759:Option Addr) (n760:Nat) (c761:Nat) (h762:Ow z29 A759 n760 c761 s.1),G (Yhx w F A25 n26 c27 z29 r) [.code Ymw,.inLoop Ymw,.inBlock 0,.code Yot] [(1,.slice A15 n16 c17),(2,.slice A20 n21 c22),(3,.slice A759 n760 c761),(4,.pointer (some ⟨gb31,0,none⟩)),(9,.int .i64 s.2)] [.own (.slice A759 n760 c761) 4 1 n760 (s.1.flatMap eB),.box gb31 26 [.slice A2 n3 c4,.slice A6 n7 c8,.slice A10 n11 c12]] [Sm w.heap.size F w [(Value.slice A25 n26 c27).ownBlock.toList],St w [(Value.slice A25 n26 c27).ownBlock.toList]]) s:=by
  intro s hs
  refine Yga.ind (mot:=(fun (s:(List Bool) × Int)=>∀ (A759:Option Addr) (n760:Nat) (c761:Nat) (h762:Ow z29 A759 n760 c761 s.1),G (Yhx w F A25 n26 c27 z29 r) [.code Ymw,.inLoop Ymw,.inBlock 0,.code Yot] [(1,.slice A15 n16 c17),(2,.slice A20 n21 c22),(3,.slice A759 n760 c761),(4,.pointer (some ⟨gb31,0,none⟩)),(9,.int .i64 s.2)] [.own (.slice A759 n760 c761) 4 1 n760 (s.1.flatMap eB),.box gb31 26 [.slice A2 n3 c4,.slice A6 n7 c8,.slice A10 n11 c12]] [Sm w.heap.size F w [(Value.slice A25 n26 c27).ownBlock.toList],St w [(Value.slice A25 n26 c27).ownBlock.toList]])) ?_ hs
  clear hs s
  intro s o1 h hO1
  obtain ⟨x758,x763⟩:=s
  show ∀ (A759:Option Addr) (n760:Nat) (c761:Nat) (h762:Ow z29 A759 n760 c761 x758),G (Yhx w F A25 n26 c27 z29 r) [.code Ymw,.inLoop Ymw,.inBlock 0,.code Yot] [(1,.slice A15 n16 c17),(2,.slice A20 n21 c22),(3,.slice A759 n760 c761),(4,.pointer (some ⟨gb31,0,none⟩)),(9,.int .i64 x763)] [.own (.slice A759 n760 c761) 4 1 n760 (x758.flatMap eB),.box gb31 26 [.slice A2 n3 c4,.slice A6 n7 c8,.slice A10 n11 c12]] [Sm w.heap.size F w [(Value.slice A25 n26 c27).ownBlock.toList],St w [(Value.slice A25 n26 c27).ownBlock.toList]]
  intro A759 n760 c761 h762
  have h:Yh6 x19 x14 x1 rc_trellisref11_leads x758 x763 o1:=h
  unfold Yh6 at h
  refine Yg4 rfl<|Yg4 rfl<|Yfy rfl rfl<|Yfx 0 rfl (Yg1 rfl) gn rfl<|Yfx 1 rfl (Yg1 rfl) gn rfl<|Yfx 2 rfl (Ygn Ym9 rfl h23.hq) gn rfl<|Yfx 3 rfl (Ygh rfl rfl rfl) gn rfl<|Yg7 4 rfl ?_
  by_cases hp1488:x763 < (x19.length:Int)
  ·have h:=Ygg hp1488 h
   refine Ygm rfl _ rfl ((decide_eq_true hp1488))<|Ygp rfl<|Yg4 rfl<|Ygk rfl<|Yg4 rfl<|Yfy rfl rfl<|Yfx 0 rfl (Yg1 rfl) gn rfl<|Yfx 1 rfl (Yg1 rfl) gn rfl ?_
   obtain ⟨hb1489,h⟩:=h
   have hr1490:=Rw.readF (s:=St w [(Value.slice A25 n26 c27).ownBlock.toList]) (hl:=Yi0) (h1:=Yig) h23 hb1489
   refine Yfx 2 rfl (Yht (s:=St w [(Value.slice A25 n26 c27).ownBlock.toList]) Yl7 rfl rfl h23 hb1489) gn rfl<|Yfx 3 rfl (Yjh Ymf rfl) gn rfl<|Yfx 4 rfl (Yjt (kk:=(x763:Int).toNat * 3) (j:=0) (St w [(Value.slice A25 n26 c27).ownBlock.toList]) Ym5 rfl hr1490 rfl (me 1 rfl)) gn rfl<|Yfx 5 rfl (Yg3 rfl) gn rfl<|Yg7 6 rfl<|Yg4 rfl<|Yg4 rfl<|Yfy rfl rfl<|Yfx 0 rfl (Yg1 rfl) gn rfl<|Yfx 1 rfl (Yg1 rfl) gn rfl ?_
   obtain ⟨hb1491,h⟩:=h
   refine Yfx 2 rfl (Yn6 Yp4 rfl rfl h762 hb1491) gn rfl<|Yfx 3 rfl (Ys2 (.bool (ix x758 ((ix x19 x763).sym))) 0 ld_4 rfl rfl (Ytk hlB hb1491 rfl)) gn rfl<|Yfx 4 rfl (Ymc rfl) gn rfl<|Yg7 5 rfl ?_
   have j2:∀ (x1846:List Bool) (h:Yii x19 x763 x14 x1846 o1) (A1847:Option Addr) (n1848:Nat) (c1849:Nat) (h1850:Ow z29 A1847 n1848 c1849 x1846),G (Yhx w F A25 n26 c27 z29 r) [.code Yql,.inBlock 1,.code Yqr,.inLoop Ymw,.inBlock 0,.code Yot] [(1,.slice A15 n16 c17),(2,.slice A20 n21 c22),(3,.slice A1847 n1848 c1849),(4,.pointer (some ⟨gb31,0,none⟩)),(9,.int .i64 x763),(10,.int .i64 ((ix x19 x763).sym))] [.own (.slice A1847 n1848 c1849) 4 1 n1848 (x1846.flatMap eB),.box gb31 26 [.slice A2 n3 c4,.slice A6 n7 c8,.slice A10 n11 c12]] [Sm w.heap.size F w [(Value.slice A25 n26 c27).ownBlock.toList],St w [(Value.slice A25 n26 c27).ownBlock.toList]]:=by
    intro x1846 h A1847 n1848 c1849 h1850
    unfold Yii at h
    refine Yg4 rfl<|Yfy rfl rfl<|Yfx 0 rfl (Yg1 rfl) gn rfl<|Yfx 1 rfl (Yg1 rfl) gn rfl ?_
    obtain ⟨hb1851,h⟩:=h
    have hr1852:=Rw.readF (s:=St w [(Value.slice A25 n26 c27).ownBlock.toList]) (hl:=hlB) (h1:=Yp6) h18 hb1851
    refine Yfx 2 rfl (Yht (s:=St w [(Value.slice A25 n26 c27).ownBlock.toList]) Yp4 rfl rfl h18 hb1851) gn rfl<|Yfx 3 rfl (Yjt (kk:=((ix x19 x763).sym:Int).toNat * 1) (j:=0) (St w [(Value.slice A25 n26 c27).ownBlock.toList]) ld_4 rfl hr1852 rfl (me 1 rfl)) gn rfl<|Yfx 4 rfl (Ymc rfl) gn rfl<|Yg7 5 rfl ?_
    by_cases hp1853:(ix x14 ((ix x19 x763).sym))=true
    ·have h:=Ygg hp1853 h
     refine Ygj rfl _ rfl ((nf hp1853))<|Ygp rfl<|Ygo<|Yfy rfl rfl<|Yfx 0 rfl (Yg1 rfl) gn rfl<|Yfx 1 rfl (Ygh rfl rfl rfl) gn rfl<|Yfx 2 rfl (Yg3 rfl) gn rfl<|Yg7 3 rfl<|Ygt ?_
     have ih:=Out.inl hO1 h
     exact Yhq [0,1] (ih A1847 n1848 c1849 h1850) ⟨rfl,rfl,rfl,rfl,rfl,trivial⟩ (.cons_cons _ (.cons_cons _ (.slnil))) rfl
    ·have h:=Ygf hp1853 h
     refine Ygm rfl _ rfl ((nt (bf hp1853)))<|Yg4 rfl<|Yfy rfl rfl<|Yfx 0 rfl (Yg1 rfl) gn rfl<|Yfx 1 rfl (Yg3 rfl) gn rfl<|Yg7 2 rfl ?_
     have h:=Out.inr hO1 h
     refine Ygu [.slice A1847 n1848 c1849] rfl Try.func39 rfl (.tmp rfl (.nil)) fun wr hLr=>?_
     have hMr:=hLr.pkI (.c 0 rfl .n) (.c 1 rfl .n) (by kernel_rfl) (.c 1 rfl .n)
     show Yjg w F A25 n26 c27 z29 r (.returned (Yhi [.slice A1847 n1848 c1849])) wr
     rw [h]
     exact ⟨A1847,n1848,c1849,rfl,hMr,h1850⟩
   by_cases hp1492:(ix x758 ((ix x19 x763).sym))=true
   ·have h:=Ygg hp1492 h
    refine Ygj rfl _ rfl ((nf hp1492))<|Ygp rfl ?_
    exact Yhq [0,1] (j2 x758 h A759 n760 c761 h762) ⟨rfl,rfl,rfl,rfl,rfl,rfl,trivial⟩ (.cons_cons _ (.cons_cons _ (.slnil))) rfl
   ·have h:=Ygf hp1492 h
    refine Ygm rfl _ rfl ((nt (bf hp1492)))<|Yg4 rfl<|Yfy rfl rfl<|Yfx 0 rfl (Yg1 rfl) gn rfl<|Yfx 1 rfl (Yg1 rfl) gn rfl<|Yfx 2 rfl (Yn6 Yp4 rfl rfl h762 hb1491) gn rfl ?_
    obtain ⟨x1854,hv1855,h⟩:=h
    refine Yh3 3 rfl (s_stF (enc:=eB) (o:=0) (z:=true) (vs:=[.bool true]) (i:=((ix x19 x763).sym)) 0 hlB sz_4 rfl rfl rfl rfl rfl h762 hb1491 rfl rfl rfl hv1855 fun h1856=>?_) gn
    refine Yg7 4 rfl<|Yg4 rfl<|Yfy rfl rfl<|Yfx 0 rfl (Yg3 rfl) gn rfl<|Yg7 1 rfl<|Ygk rfl<|Yiu rfl ?_
    have key3:∀ s,Yga (fun (s:(List Bool) × Int) o=>Yhu x1 x19 x763 rc_trellisref11_leads x14 s.1 s.2 o) s o1→(fun (s:(List Bool) × Int)=>∀ (A1975:Option Addr) (n1976:Nat) (c1977:Nat) (h1978:Ow z29 A1975 n1976 c1977 s.1),G (Yhx w F A25 n26 c27 z29 r) [.code Ynw,.inLoop Ynw,.inBlock 2,.code Yql,.inBlock 1,.code Yqr,.inLoop Ymw,.inBlock 0,.code Yot] [(1,.slice A15 n16 c17),(2,.slice A20 n21 c22),(3,.slice A1975 n1976 c1977),(4,.pointer (some ⟨gb31,0,none⟩)),(9,.int .i64 x763),(10,.int .i64 ((ix x19 x763).sym)),(11,.int .i64 s.2)] [.own (.slice A1975 n1976 c1977) 4 1 n1976 (s.1.flatMap eB),.box gb31 26 [.slice A2 n3 c4,.slice A6 n7 c8,.slice A10 n11 c12]] [Sm w.heap.size F w [(Value.slice A25 n26 c27).ownBlock.toList],St w [(Value.slice A25 n26 c27).ownBlock.toList]]) s:=by
     intro s hs
     refine Yga.ind (mot:=(fun (s:(List Bool) × Int)=>∀ (A1975:Option Addr) (n1976:Nat) (c1977:Nat) (h1978:Ow z29 A1975 n1976 c1977 s.1),G (Yhx w F A25 n26 c27 z29 r) [.code Ynw,.inLoop Ynw,.inBlock 2,.code Yql,.inBlock 1,.code Yqr,.inLoop Ymw,.inBlock 0,.code Yot] [(1,.slice A15 n16 c17),(2,.slice A20 n21 c22),(3,.slice A1975 n1976 c1977),(4,.pointer (some ⟨gb31,0,none⟩)),(9,.int .i64 x763),(10,.int .i64 ((ix x19 x763).sym)),(11,.int .i64 s.2)] [.own (.slice A1975 n1976 c1977) 4 1 n1976 (s.1.flatMap eB),.box gb31 26 [.slice A2 n3 c4,.slice A6 n7 c8,.slice A10 n11 c12]] [Sm w.heap.size F w [(Value.slice A25 n26 c27).ownBlock.toList],St w [(Value.slice A25 n26 c27).ownBlock.toList]])) ?_ hs
     clear hs s
     intro s o2 h hO2
     obtain ⟨x1974,x1979⟩:=s
     show ∀ (A1975:Option Addr) (n1976:Nat) (c1977:Nat) (h1978:Ow z29 A1975 n1976 c1977 x1974),G (Yhx w F A25 n26 c27 z29 r) [.code Ynw,.inLoop Ynw,.inBlock 2,.code Yql,.inBlock 1,.code Yqr,.inLoop Ymw,.inBlock 0,.code Yot] [(1,.slice A15 n16 c17),(2,.slice A20 n21 c22),(3,.slice A1975 n1976 c1977),(4,.pointer (some ⟨gb31,0,none⟩)),(9,.int .i64 x763),(10,.int .i64 ((ix x19 x763).sym)),(11,.int .i64 x1979)] [.own (.slice A1975 n1976 c1977) 4 1 n1976 (x1974.flatMap eB),.box gb31 26 [.slice A2 n3 c4,.slice A6 n7 c8,.slice A10 n11 c12]] [Sm w.heap.size F w [(Value.slice A25 n26 c27).ownBlock.toList],St w [(Value.slice A25 n26 c27).ownBlock.toList]]
     intro A1975 n1976 c1977 h1978
     have h:Yhu x1 x19 x763 rc_trellisref11_leads x14 x1974 x1979 o2:=h
     unfold Yhu at h
     refine Yg4 rfl<|Yg4 rfl<|Yfy rfl rfl<|Yfx 0 rfl (Yg1 rfl) gn rfl<|Yfx 1 rfl (Ygb Ygw rfl) gn rfl<|Yfx 2 rfl (Yge 1 Yip rfl rfl rfl) gn rfl<|Yfx 3 rfl (Ygn Ymb rfl h13.hq) gn rfl<|Yfx 4 rfl (Ygh rfl rfl rfl) gn rfl<|Yg7 5 rfl ?_
     by_cases hp2096:x1979 < (x1.prods.length:Int)
     ·have h:=Ygg hp2096 h
      refine Ygm rfl _ rfl ((decide_eq_true hp2096))<|Ygp rfl<|Yg4 rfl<|Ygk rfl<|Yg4 rfl ?_
      obtain ⟨hb2097,h⟩:=h
      by_cases hp2105:(ix x1.prods x1979).lhs≥0
      ·have h:=Ygg hp2105 h
       have hns:Region.noSelect (Code.ops q39c41)=true:=by kernel_rfl
       refine Yjr [] 21 rfl rfl mix rfl (.c 0 rfl (.c 1 rfl .n))<|wfv 0 rfl (Ygb Ygw rfl) gn hns rfl<|wfv 1 rfl (Yge 1 Yip rfl rfl rfl) gn hns rfl<|wfv 2 rfl (Yg1 rfl) gn hns rfl ?_
       obtain ⟨ce2128,hK2129,hr2127⟩:=Rw.read (s:=St w [(Value.slice A25 n26 c27).ownBlock.toList]) h13 hb2097
       obtain ⟨A2130,n2131,c2132,rfl,h2133⟩:=hK2129
       refine wfv 3 rfl (Yht (s:=St w [(Value.slice A25 n26 c27).ownBlock.toList]) Yj6 rfl rfl h13 hb2097) gn hns rfl<|wfv 4 rfl (Yjh Yk7 rfl) gn hns rfl<|wfv 5 rfl (Yjt (kk:=(x1979:Int).toNat * 2) (j:=0) (St w [(Value.slice A25 n26 c27).ownBlock.toList]) Ym5 rfl hr2127 rfl (me 1 rfl)) gn hns rfl<|wfv 6 rfl (Ygh rfl rfl rfl) gn hns rfl<|wfv 7 rfl (Yg1 rfl) gn hns rfl<|Yo8 45 rfl ((decide_eq_true hp2105))<|wfv 8 rfl (Ygb Ygw rfl) (gy 45 rfl rfl) hns rfl<|wfv 9 rfl (Yge 1 Yip rfl rfl rfl) (gy 45 rfl rfl) hns rfl<|wfv 10 rfl (Yg1 rfl) (gy 45 rfl rfl) hns rfl ?_
       obtain ⟨ce2135,hK2136,hr2134⟩:=Rw.read (s:=St w [(Value.slice A25 n26 c27).ownBlock.toList]) h13 hb2097
       obtain ⟨A2137,n2138,c2139,rfl,h2140⟩:=hK2136
       refine wfv 11 rfl (Yht (s:=St w [(Value.slice A25 n26 c27).ownBlock.toList]) Yj6 rfl rfl h13 hb2097) (gy 45 rfl rfl) hns rfl<|wfv 12 rfl (Yjh Yk7 rfl) (gy 45 rfl rfl) hns rfl<|wfv 13 rfl (Yjt (kk:=(x1979:Int).toNat * 2) (j:=0) (St w [(Value.slice A25 n26 c27).ownBlock.toList]) Ym5 rfl hr2134 rfl (me 1 rfl)) (gy 45 rfl rfl) hns rfl<|wfv 14 rfl (Yg1 rfl) (gy 45 rfl rfl) hns rfl<|wfv 15 rfl (Ygb Yi3 rfl) (gy 45 rfl rfl) hns rfl<|wfv 16 rfl (Yge 1 Ykl rfl rfl rfl) (gy 45 rfl rfl) hns rfl<|wfv 17 rfl (Ygn Ylt rfl h5.hq) (gy 45 rfl rfl) hns rfl<|wfv 18 rfl (Ygh rfl rfl rfl) (gy 45 rfl rfl) hns rfl<|wfv 19 rfl (Ygh rfl rfl rfl) (gy 45 rfl rfl) hns rfl<|wfv 20 rfl (Ygv (b:=true) rfl rfl) gn hns rfl<|Ykm (by kernel_rfl) ?_
       by_cases hp2141:(ix x1.prods x1979).lhs=w64 (((ix x19 x763).sym) - (x1.terms.length:Int))
       ·have h:=Ygg hp2141 h
        refine Ygm rfl _ rfl ((eqi hp2141)) ?_
        obtain ⟨r2152,hv2153,h⟩:=h
        have hns:Region.noSelect (Code.ops q39c43)=true:=by kernel_rfl
        refine Yjr [9,10] 11 rfl rfl mix rfl (.c 0 rfl (.c 1 rfl .n))<|wfv 0 rfl (Ykb [.slice A2 n3 c4,.slice A6 n7 c8,.slice A10 n11 c12] 1 Yk6 rfl rfl rfl rfl) gn hns (by kernel_rfl)<|wfv 1 rfl (Yg1 rfl) gn hns (by kernel_rfl)<|wfv 2 rfl (Ygb Ygw rfl) gn hns (by kernel_rfl)<|wfv 3 rfl (Yge 1 Yip rfl rfl rfl) gn hns (by kernel_rfl)<|wfv 4 rfl (Yg1 rfl) gn hns (by kernel_rfl) ?_
        obtain ⟨ce2180,hK2181,hr2179⟩:=Rw.read (s:=St w [(Value.slice A25 n26 c27).ownBlock.toList]) h13 hb2097
        obtain ⟨A2182,n2183,c2184,rfl,h2185⟩:=hK2181
        refine wfv 5 rfl (Yht (s:=St w [(Value.slice A25 n26 c27).ownBlock.toList]) Yj6 rfl rfl h13 hb2097) gn hns (by kernel_rfl)<|wfv 6 rfl (Yjh Yke rfl) gn hns (by kernel_rfl)<|wfv 7 rfl (Yjt (kk:=(x1979:Int).toNat * 2) (j:=1) (St w [(Value.slice A25 n26 c27).ownBlock.toList]) Ymv rfl hr2179 rfl (me 1 rfl)) gn hns (by kernel_rfl)<|wfv 8 rfl (Yg1 rfl) gn hns (by kernel_rfl) ?_
        refine Yk4 [9] (by kernel_rfl) rfl ⟨Yp9 9 rfl gn rfl (Yhy [.agg #[.slice A2 n3 c4,.slice A6 n7 c8,.slice A10 n11 c12],.slice A15 n16 c17,.slice A2182 n2183 c2184,.slice A1975 n1976 c1977] rfl Try.func39 rfl rfl rfl fun w2186 hL2187=>?_),trivial⟩
        have hp2188:=pmI hL2187 (.c 0 rfl .n) (.c 1 rfl .n) (by kernel_rfl)
        refine Calls.mono (ih_trellisref11_leads w2186 (Fl ([]:List Ygl)) x1 x14 ((ix x1.prods x1979).rhs) x1974 A2 n3 c4 A6 n7 c8 A10 n11 c12 A15 n16 c17 A2182 n2183 c2184 z29 A1975 n1976 c1977 (Rw.mono h5 (hL2187.toSt hp2188 (me 1 rfl))) (Rw.mono h9 (hL2187.toSt hp2188 (me 1 rfl))) (Rw.mono h13 (hL2187.toSt hp2188 (me 1 rfl))) (Rw.mono h18 (hL2187.toSt hp2188 (me 1 rfl))) (Rw.mono h2185 (hL2187.toSt hp2188 (me 1 rfl))) (Nat.le_trans hz30 hL2187.env.size) h1978 (hL2187.hFl hp2188 (Yj0 [] rfl)) (hL2187.into hp2188 _) r2152 hv2153) ?_
        rintro _ w2193 ⟨A2189,n2190,c2191,rfl,hM2194,h2192⟩
        have hL2195:=hL2187.call hp2188 hM2194
        refine ⟨_,_,_,rfl,hL2195,?_⟩
        unfold NxL
        refine Yk4 [10] (by kernel_rfl) rfl ⟨Yp9 10 rfl gn rfl (s_val (Yg3 rfl) rfl ?_),trivial⟩
        unfold NxL
        refine Ykm (by kernel_rfl)<|Ygo<|Yfy rfl rfl<|Yfx 0 rfl (Yg1 rfl) gn rfl<|Yfx 1 rfl (Ygh rfl rfl rfl) gn rfl<|Yfx 2 rfl (Yg3 rfl) gn rfl<|Yg7 3 rfl<|Ygt ?_
        have ih:=Out.inl hO2 h
        exact Yhq [0,1] (ih A2189 n2190 c2191 h2192) ⟨rfl,rfl,rfl,rfl,rfl,rfl,rfl,trivial⟩ (.cons_cons _ (.cons_cons _ (.slnil))) rfl
       ·have h:=Ygf hp2141 h
        refine Ygj rfl _ rfl ((nei hp2141))<|Ygp rfl<|Ygo<|Yfy rfl rfl<|Yfx 0 rfl (Yg1 rfl) gn rfl<|Yfx 1 rfl (Ygh rfl rfl rfl) gn rfl<|Yfx 2 rfl (Yg3 rfl) gn rfl<|Yg7 3 rfl<|Ygt ?_
        have ih:=Out.inl hO2 h
        exact Yhq [0,1] (ih A1975 n1976 c1977 h1978) ⟨rfl,rfl,rfl,rfl,rfl,rfl,rfl,trivial⟩ (.cons_cons _ (.cons_cons _ (.slnil))) rfl
      ·have h:=Ygf hp2105 h
       have hns:Region.noSelect (Code.ops q39c41)=true:=by kernel_rfl
       refine Yjr [] 21 rfl rfl mix rfl (.c 0 rfl (.c 1 rfl .n))<|wfv 0 rfl (Ygb Ygw rfl) gn hns rfl<|wfv 1 rfl (Yge 1 Yip rfl rfl rfl) gn hns rfl<|wfv 2 rfl (Yg1 rfl) gn hns rfl ?_
       obtain ⟨ce2204,hK2205,hr2203⟩:=Rw.read (s:=St w [(Value.slice A25 n26 c27).ownBlock.toList]) h13 hb2097
       obtain ⟨A2206,n2207,c2208,rfl,h2209⟩:=hK2205
       refine wfv 3 rfl (Yht (s:=St w [(Value.slice A25 n26 c27).ownBlock.toList]) Yj6 rfl rfl h13 hb2097) gn hns rfl<|wfv 4 rfl (Yjh Yk7 rfl) gn hns rfl<|wfv 5 rfl (Yjt (kk:=(x1979:Int).toNat * 2) (j:=0) (St w [(Value.slice A25 n26 c27).ownBlock.toList]) Ym5 rfl hr2203 rfl (me 1 rfl)) gn hns rfl<|wfv 6 rfl (Ygh rfl rfl rfl) gn hns rfl<|wfv 7 rfl (Yg1 rfl) gn hns rfl<|Yo8 45 rfl ((decide_eq_false hp2105))<|wfp 8 rfl (ps 45 rfl rfl rfl) hns rfl<|wfp 9 rfl (ps 45 rfl rfl rfl) hns rfl<|wfp 10 rfl (ps 45 rfl rfl rfl) hns rfl<|wfp 11 rfl (ps 45 rfl rfl rfl) hns rfl<|wfp 12 rfl (ps 45 rfl rfl rfl) hns rfl<|wfp 13 rfl (ps 45 rfl rfl rfl) hns rfl ?_
       refine wfp 14 rfl (ps 45 rfl rfl rfl) hns rfl<|wfp 15 rfl (ps 45 rfl rfl rfl) hns rfl<|wfp 16 rfl (ps 45 rfl rfl rfl) hns rfl<|wfp 17 rfl (ps 45 rfl rfl rfl) hns rfl<|wfp 18 rfl (ps 45 rfl rfl rfl) hns rfl<|wfp 19 rfl (ps 45 rfl rfl rfl) hns rfl<|wfv 20 rfl (Ygv (b:=false) rfl rfl) gn hns rfl<|Ykm (by kernel_rfl)<|Ygj rfl _ rfl (rfl)<|Ygp rfl<|Ygo<|Yfy rfl rfl ?_
       refine Yfx 0 rfl (Yg1 rfl) gn rfl<|Yfx 1 rfl (Ygh rfl rfl rfl) gn rfl<|Yfx 2 rfl (Yg3 rfl) gn rfl<|Yg7 3 rfl<|Ygt ?_
       have ih:=Out.inl hO2 h
       exact Yhq [0,1] (ih A1975 n1976 c1977 h1978) ⟨rfl,rfl,rfl,rfl,rfl,rfl,rfl,trivial⟩ (.cons_cons _ (.cons_cons _ (.slnil))) rfl
     ·have h:=Ygf hp2096 h
      refine Ygj rfl _ rfl ((decide_eq_false hp2096))<|Yit [.code Yql,.inBlock 1,.code Yqr,.inLoop Ymw,.inBlock 0,.code Yot] rfl rfl ?_
      obtain ⟨q2210,hq2211,h⟩:=h
      have hq2211:=Out.inr hO2 hq2211
      rw [← hq2211] at h
      exact Yhq [0,1] (j2 x1974 h A1975 n1976 c1977 h1978) ⟨rfl,rfl,rfl,rfl,rfl,rfl,trivial⟩ (.cons_cons _ (.cons_cons _ (.slnil))) rfl
    exact Yhq [0,1] (key3 _ h A759 n760 c761 h1856) ⟨rfl,rfl,rfl,rfl,rfl,rfl,rfl,trivial⟩ (.cons_cons _ (.cons_cons _ (.slnil))) rfl
  ·have h:=Ygf hp1488 h
   refine Ygj rfl _ rfl ((decide_eq_false hp1488))<|Yit [.code Yot] rfl rfl<|Yg4 rfl<|Yfy rfl rfl<|Yfx 0 rfl (Yg1 rfl) gn rfl<|Yfx 1 rfl (Yg3 rfl) gn rfl<|Yg7 2 rfl ?_
   have h:=Out.inr hO1 h
   refine Ygu [.slice A759 n760 c761] rfl Try.func39 rfl (.tmp rfl (.nil)) fun wr hLr=>?_
   have hMr:=hLr.pkI (.c 0 rfl .n) (.c 1 rfl .n) (by kernel_rfl) (.c 1 rfl .n)
   show Yjg w F A25 n26 c27 z29 r (.returned (Yhi [.slice A759 n760 c761])) wr
   rw [h]
   exact ⟨A759,n760,c761,rfl,hMr,h762⟩
 refine Yh2 0 rfl<|Yh2 1 rfl ?_
 exact Yhq [0,1] (key1 _ h A25 n26 c27 h28) ⟨rfl,rfl,rfl,rfl,rfl,trivial⟩ (.cons_cons _ (.cons_cons _ (.slnil))) rfl
theorem Ylq:∀ n,Ykw (Yhp n)
 | 0=>fun w F x1 x14 x19 x24 A2 n3 c4 A6 n7 c8 A10 n11 c12 A15 n16 c17 A20 n21 c22 z29 A25 n26 c27 h5 h9 h13 h18 h23 hz30 h28 hF hL0 r h=>h.elim
 | n + 1=>by
  have ih:=Ylq n
  exact Ynf _ ih
theorem Yn8 (w:World) (F:Nat→Prop) (x1:Yfz) (x14:List Bool) (x19:List Yg6) (x24:List Bool) (A2:Option Addr) (n3:Nat) (c4:Nat) (A6:Option Addr) (n7:Nat) (c8:Nat) (A10:Option Addr) (n11:Nat) (c12:Nat) (A15:Option Addr) (n16:Nat) (c17:Nat) (A20:Option Addr) (n21:Nat) (c22:Nat) (z29:Nat) (A25:Option Addr) (n26:Nat) (c27:Nat) (h5:Rw Ygi w (St w [(Value.slice A25 n26 c27).ownBlock.toList]).av A2 n3 c4 x1.terms) (h9:Rw Yh1 w (St w [(Value.slice A25 n26 c27).ownBlock.toList]).av A6 n7 c8 x1.syms) (h13:Rw Ygs w (St w [(Value.slice A25 n26 c27).ownBlock.toList]).av A10 n11 c12 x1.prods) (h18:Rw Yod w (St w [(Value.slice A25 n26 c27).ownBlock.toList]).av A15 n16 c17 x14) (h23:Rw Yh0 w (St w [(Value.slice A25 n26 c27).ownBlock.toList]).av A20 n21 c22 x19) (hz30:z29≤w.heap.size) (h28:Ow z29 A25 n26 c27 x24) (hF:∀ b,F b→b < w.heap.size∧∀ o ∈ ([(Value.slice A25 n26 c27).ownBlock.toList]:List (List Nat)),b ∉ o) (hL0:B.Loc w w [.own (.slice A25 n26 c27) 4 1 n26 (x24.flatMap eB)] [Sm w.heap.size F w [(Value.slice A25 n26 c27).ownBlock.toList],St w [(Value.slice A25 n26 c27).ownBlock.toList]]) (r:List Bool) (h:Yml x1 x14 x19 x24 r):Calls Try.prog 39 #[.agg #[.slice A2 n3 c4,.slice A6 n7 c8,.slice A10 n11 c12],.slice A15 n16 c17,.slice A20 n21 c22,.slice A25 n26 c27] w (Yjg w F A25 n26 c27 z29 r):=by
 obtain ⟨n,h⟩:=h
 exact (Ylq n) w F x1 x14 x19 x24 A2 n3 c4 A6 n7 c8 A10 n11 c12 A15 n16 c17 A20 n21 c22 z29 A25 n26 c27 h5 h9 h13 h18 h23 hz30 h28 hF hL0 r h
noncomputable abbrev Ys1:=Code.snd (Code.snd (Code.snd (Code.snd (Code.snd (Yhf Try.f29)))))
noncomputable abbrev Yph:=Code.fst (Code.fst (Code.snd (Code.fst (Code.snd (Code.snd (Code.snd (Code.snd (Yhf Try.f29))))))))
abbrev Ykv (w:World) (F:Nat→Prop) (r:Int):Ending→World→Prop:=fun e w'=>e=.returned (.int .u64 r)∧B.Loc w w' [] [St w []]
noncomputable abbrev Yk3 (w:World) (F:Nat→Prop) (r:Int):Cx:=⟨Try.prog,29,Try.f29,40,Ykv w F  r,w⟩
theorem Ymt (w:World) (F:Nat→Prop) (x1:Yfz) (x14:List Bool) (x19:List Yg6) (A2:Option Addr) (n3:Nat) (c4:Nat) (A6:Option Addr) (n7:Nat) (c8:Nat) (A10:Option Addr) (n11:Nat) (c12:Nat) (A15:Option Addr) (n16:Nat) (c17:Nat) (A20:Option Addr) (n21:Nat) (c22:Nat) (h5:Rw Ygi w (St w []).av A2 n3 c4 x1.terms) (h9:Rw Yh1 w (St w []).av A6 n7 c8 x1.syms) (h13:Rw Ygs w (St w []).av A10 n11 c12 x1.prods) (h18:Rw Yod w (St w []).av A15 n16 c17 x14) (h23:Rw Yh0 w (St w []).av A20 n21 c22 x19) (hF:∀ b,F b→b < w.heap.size∧∀ o ∈ ([]:List (List Nat)),b ∉ o) (hL0:B.Loc w w [] [Sm w.heap.size F w [],St w []]) (r:Int) (h:Yjm x1 x14 x19 r):Calls Try.prog 29 #[.agg #[.slice A2 n3 c4,.slice A6 n7 c8,.slice A10 n11 c12],.slice A15 n16 c17,.slice A20 n21 c22] w (Ykv w F  r):=by
 unfold Yjm at h
 refine Ygx (vs:=[.agg #[.slice A2 n3 c4,.slice A6 n7 c8,.slice A10 n11 c12],.slice A15 n16 c17,.slice A20 n21 c22]) 40 Try.func29 rfl Try.ntmps29 rfl hL0 ?_
 show G (Yk3 w F r) _ _ _ _
 refine Yg4 rfl<|Yfy rfl rfl ?_
 refine Yh3 0 rfl (Ym6 [.slice A2 n3 c4,.slice A6 n7 c8,.slice A10 n11 c12] rfl rfl rfl fun gb24=>?_) gn
 refine Yfx 1 rfl (Yg3 rfl) gn rfl<|Yg7 2 rfl<|Yg4 rfl<|Yfy rfl rfl<|Yfx 0 rfl (Ygb Yi3 rfl) gn rfl<|Yfx 1 rfl (Yge 0 Ykl rfl rfl rfl) gn rfl<|Yfx 2 rfl (Ygn Ylt rfl h5.hq) gn rfl<|Yfx 3 rfl (Ygb Yih rfl) gn rfl<|Yfx 4 rfl (Yge 0 Yl1 rfl rfl rfl) gn rfl<|Yfx 5 rfl (Ygn Ymd rfl h9.hq) gn rfl<|Yfx 6 rfl (Ygh rfl rfl rfl) gn rfl ?_
 obtain ⟨hb26,h⟩:=h
 obtain ⟨x30,hv31,h⟩:=h
 refine Yh3 7 rfl (Ytn (enc:=eB) (z:=false) mk_40 rfl (by decide) rfl rfl hb26.1 hb26.2 (by decide) hv31 rfl fun A27 h28=>?_) gn
 refine Yfx 8 rfl (Yg3 rfl) gn rfl<|Yg7 9 rfl<|Yg4 rfl<|Yfy rfl rfl<|Yfx 0 rfl (Ykb [.slice A2 n3 c4,.slice A6 n7 c8,.slice A10 n11 c12] 1 Yk6 rfl rfl rfl rfl) gn rfl<|Yfx 1 rfl (Yg1 rfl) gn rfl<|Yfx 2 rfl (Yg1 rfl) gn rfl<|Yfx 3 rfl (Yg1 rfl) gn rfl ?_
 obtain ⟨r35,hv36,h⟩:=h
 refine Yh3 4 rfl (Yhy [.agg #[.slice A2 n3 c4,.slice A6 n7 c8,.slice A10 n11 c12],.slice A15 n16 c17,.slice A20 n21 c22,.slice A27 ((w64 ((x1.terms.length:Int) + (x1.syms.length:Int)):Int).toNat) ((w64 ((x1.terms.length:Int) + (x1.syms.length:Int)):Int).toNat)] rfl Try.func39 rfl rfl rfl fun w32 hL33=>?_) gn
 have hp34:=pmI hL33 (.c 0 rfl .n) (.c 1 rfl .n) (by kernel_rfl)
 refine Calls.mono (Yn8 w32 (Fl ([]:List Ygl)) x1 x14 x19 x30 A2 n3 c4 A6 n7 c8 A10 n11 c12 A15 n16 c17 A20 n21 c22 w.heap.size A27 ((w64 ((x1.terms.length:Int) + (x1.syms.length:Int)):Int).toNat) ((w64 ((x1.terms.length:Int) + (x1.syms.length:Int)):Int).toNat) (Rw.mono h5 (hL33.toSt hp34 (me 1 rfl))) (Rw.mono h9 (hL33.toSt hp34 (me 1 rfl))) (Rw.mono h13 (hL33.toSt hp34 (me 1 rfl))) (Rw.mono h18 (hL33.toSt hp34 (me 1 rfl))) (Rw.mono h23 (hL33.toSt hp34 (me 1 rfl))) hL33.env.size h28 (hL33.hFl hp34 (Yj0 [] rfl)) (hL33.into hp34 _) r35 hv36) ?_
 rintro _ w42 ⟨A37,n38,c39,rfl,hM43,h40⟩
 have hL44:=hL33.call hp34 hM43
 refine ⟨_,_,_,rfl,hL44,?_⟩
 refine Yfx 5 rfl (Yg3 rfl) gn rfl<|Yg7 6 rfl<|Yg4 rfl<|Yfy rfl rfl<|Yfx 0 rfl (Yg3 rfl) gn rfl<|Yg7 1 rfl<|Yg4 rfl<|Yg4 rfl<|Yfy rfl rfl<|Yfx 0 rfl (Yg3 rfl) gn rfl<|Yg7 1 rfl<|Ygk rfl ?_
 refine Yiu rfl ?_
 have key1:∀ s,Yga (fun (s:Int × Int) o=>Yh9 x1 r35 s.1 s.2 o) s r→(fun (s:Int × Int)=>∀ (_:Unit),G (Yk3 w F r) [.code Yph,.inLoop Yph,.inBlock 0,.code Ys1] [(3,.pointer (some ⟨gb24,0,none⟩)),(7,.slice A37 n38 c39),(8,.int .u64 s.1),(9,.int .i64 s.2)] [.own (.slice A37 n38 c39) 4 1 n38 (r35.flatMap eB),.box gb24 26 [.slice A2 n3 c4,.slice A6 n7 c8,.slice A10 n11 c12]] [Sm w.heap.size F w [],St w []]) s:=by
  intro s hs
  refine Yga.ind (mot:=(fun (s:Int × Int)=>∀ (_:Unit),G (Yk3 w F r) [.code Yph,.inLoop Yph,.inBlock 0,.code Ys1] [(3,.pointer (some ⟨gb24,0,none⟩)),(7,.slice A37 n38 c39),(8,.int .u64 s.1),(9,.int .i64 s.2)] [.own (.slice A37 n38 c39) 4 1 n38 (r35.flatMap eB),.box gb24 26 [.slice A2 n3 c4,.slice A6 n7 c8,.slice A10 n11 c12]] [Sm w.heap.size F w [],St w []])) ?_ hs
  clear hs s
  intro s o1 h hO1
  obtain ⟨x50,x51⟩:=s
  show ∀ (_:Unit),G (Yk3 w F r) [.code Yph,.inLoop Yph,.inBlock 0,.code Ys1] [(3,.pointer (some ⟨gb24,0,none⟩)),(7,.slice A37 n38 c39),(8,.int .u64 x50),(9,.int .i64 x51)] [.own (.slice A37 n38 c39) 4 1 n38 (r35.flatMap eB),.box gb24 26 [.slice A2 n3 c4,.slice A6 n7 c8,.slice A10 n11 c12]] [Sm w.heap.size F w [],St w []]
  intro _
  have h:Yh9 x1 r35 x50 x51 o1:=h
  unfold Yh9 at h
  refine Yg4 rfl<|Yg4 rfl<|Yfy rfl rfl<|Yfx 0 rfl (Yg1 rfl) gn rfl<|Yfx 1 rfl (Ygb Yi3 rfl) gn rfl<|Yfx 2 rfl (Yge 1 Ykl rfl rfl rfl) gn rfl<|Yfx 3 rfl (Ygn Ylt rfl h5.hq) gn rfl<|Yfx 4 rfl (Ygh rfl rfl rfl) gn rfl<|Yg7 5 rfl ?_
  by_cases hp56:x51 < (x1.terms.length:Int)
  ·have h:=Ygg hp56 h
   refine Ygm rfl _ rfl ((decide_eq_true hp56))<|Ygp rfl<|Yg4 rfl<|Ygk rfl<|Yg4 rfl<|Yfy rfl rfl<|Yfx 0 rfl (Yg1 rfl) gn rfl<|Yfx 1 rfl (Yg1 rfl) gn rfl ?_
   obtain ⟨hb57,h⟩:=h
   refine Yfx 2 rfl (Yn6 Yp4 rfl rfl h40 hb57) gn rfl<|Yfx 3 rfl (Ys2 (.bool (ix r35 x51)) 0 ld_4 rfl rfl (Ytk hlB hb57 rfl)) gn rfl<|Yg7 4 rfl ?_
   by_cases hp58:(ix r35 x51)=true
   ·have h:=Ygg hp58 h
    refine Ygm rfl _ rfl (hp58)<|Yfy rfl rfl<|Yfx 0 rfl (Yg1 rfl) gn rfl<|Yfx 1 rfl (Yg1 rfl) gn rfl<|Yfx 2 rfl (v_conv ⟨_,un_3⟩ un_49 rfl) gn rfl ?_
    obtain ⟨hb59,h⟩:=h
    refine Yfx 3 rfl (v_shl rfl rfl hb59) gn rfl<|Yfx 4 rfl (Ygh rfl rfl rfl) gn rfl<|Yfx 5 rfl (Yg3 rfl) gn rfl<|Yg7 6 rfl<|Ygo<|Yfy rfl rfl<|Yfx 0 rfl (Yg1 rfl) gn rfl<|Yfx 1 rfl (Ygh rfl rfl rfl) gn rfl<|Yfx 2 rfl (Yg3 rfl) gn rfl<|Yg7 3 rfl<|Ygt ?_
    have ih:=Out.inl hO1 h
    exact Yhq [0,1] (ih ()) ⟨rfl,rfl,rfl,rfl,trivial⟩ (.cons_cons _ (.cons_cons _ (.slnil))) rfl
   ·have h:=Ygf hp58 h
    refine Ygj rfl _ rfl ((bf hp58))<|Ygp rfl<|Ygo<|Yfy rfl rfl<|Yfx 0 rfl (Yg1 rfl) gn rfl<|Yfx 1 rfl (Ygh rfl rfl rfl) gn rfl<|Yfx 2 rfl (Yg3 rfl) gn rfl<|Yg7 3 rfl<|Ygt ?_
    have ih:=Out.inl hO1 h
    exact Yhq [0,1] (ih ()) ⟨rfl,rfl,rfl,rfl,trivial⟩ (.cons_cons _ (.cons_cons _ (.slnil))) rfl
  ·have h:=Ygf hp56 h
   refine Ygj rfl _ rfl ((decide_eq_false hp56))<|Yit [.code Ys1] rfl rfl<|Yg4 rfl<|Yfy rfl rfl<|Yfx 0 rfl (Yg1 rfl) gn rfl<|Yfx 1 rfl (Yg3 rfl) gn rfl<|Yg7 2 rfl ?_
   have h:=Out.inr hO1 h
   refine Ygu [.int .u64 x50] rfl Try.func29 rfl (.tmp rfl (.nil)) fun wr hLr=>?_
   have hMr:=hLr.pk0 (.c 1 rfl .n)
   show Ykv w F  r (.returned (Yhi [.int .u64 x50])) wr
   rw [h]
   exact ⟨rfl,hMr⟩
 exact Yhq [0,1] (key1 _ h ()) ⟨rfl,rfl,rfl,rfl,trivial⟩ (.cons_cons _ (.cons_cons _ (.slnil))) rfl
noncomputable abbrev q10c4:=Code.snd (Code.snd (Yhf Try.f10))
noncomputable abbrev q10c6:=Code.snd (Code.fst (Code.snd (Yhf Try.f10)))
abbrev Yk9 (w:World) (F:Nat→Prop) (r:Int):Ending→World→Prop:=fun e w'=>e=.returned (.int .u64 r)∧B.Loc w w' [] [St w []]
noncomputable abbrev Ymu (w:World) (F:Nat→Prop) (r:Int):Cx:=⟨Try.prog,10,Try.f10,31,Yk9 w F  r,w⟩
theorem Yku (w:World) (F:Nat→Prop) (x1:Yfz) (x14:List Yg6) (x19:Int) (A2:Option Addr) (n3:Nat) (c4:Nat) (A6:Option Addr) (n7:Nat) (c8:Nat) (A10:Option Addr) (n11:Nat) (c12:Nat) (A15:Option Addr) (n16:Nat) (c17:Nat) (h5:Rw Ygi w (St w []).av A2 n3 c4 x1.terms) (h9:Rw Yh1 w (St w []).av A6 n7 c8 x1.syms) (h13:Rw Ygs w (St w []).av A10 n11 c12 x1.prods) (h18:Rw Yh0 w (St w []).av A15 n16 c17 x14) (hF:∀ b,F b→b < w.heap.size∧∀ o ∈ ([]:List (List Nat)),b ∉ o) (hL0:B.Loc w w [] [Sm w.heap.size F w [],St w []]) (r:Int) (h:Yj2 x1 x14 x19 r):Calls Try.prog 10 #[.agg #[.slice A2 n3 c4,.slice A6 n7 c8,.slice A10 n11 c12],.slice A15 n16 c17,.int .u64 x19] w (Yk9 w F  r):=by
 unfold Yj2 at h
 refine Ygx (vs:=[.agg #[.slice A2 n3 c4,.slice A6 n7 c8,.slice A10 n11 c12],.slice A15 n16 c17,.int .u64 x19]) 31 Try.func10 rfl Try.ntmps10 rfl hL0 ?_
 show G (Ymu w F r) _ _ _ _
 refine Yg4 rfl<|Yfy rfl rfl ?_
 refine Yh3 0 rfl (Ym6 [.slice A2 n3 c4,.slice A6 n7 c8,.slice A10 n11 c12] rfl rfl rfl fun gb20=>?_) gn
 refine Yfx 1 rfl (Yg3 rfl) gn rfl<|Yg7 2 rfl<|Yg4 rfl<|Yg4 rfl ?_
 have j1:∀ (x40:Bool) (h:Yil x1 x14 x19 x40 r) ,G (Ymu w F r) [.code q10c6,.code q10c4] [(1,.slice A15 n16 c17),(2,.int .u64 x19),(3,.pointer (some ⟨gb20,0,none⟩)),(17,.bool x40)] [.box gb20 26 [.slice A2 n3 c4,.slice A6 n7 c8,.slice A10 n11 c12]] [Sm w.heap.size F w [],St w []]:=by
  intro x40 h
  unfold Yil at h
  by_cases hp41:x40=true
  ·have h:=Ygg hp41 h
   refine Ygm rfl _ rfl (hp41)<|Yg4 rfl<|Yfy rfl rfl<|Yfx 0 rfl (Yg3 rfl) gn rfl<|Yg7 1 rfl ?_
   refine Ygu [.int .u64 0] rfl Try.func10 rfl (.tmp rfl (.nil)) fun wr hLr=>?_
   have hMr:=hLr.pk0 (.c 1 rfl .n)
   show Yk9 w F  r (.returned (Yhi [.int .u64 0])) wr
   rw [h]
   exact ⟨rfl,hMr⟩
  ·have h:=Ygf hp41 h
   refine Ygj rfl _ rfl ((bf hp41))<|Ygp rfl<|Yg4 rfl<|Yfy rfl rfl<|Yfx 0 rfl (Ykb [.slice A2 n3 c4,.slice A6 n7 c8,.slice A10 n11 c12] 0 Yk6 rfl rfl rfl rfl) gn rfl ?_
   obtain ⟨r45,hv46,h⟩:=h
   refine Yh3 1 rfl (Yhy [.agg #[.slice A2 n3 c4,.slice A6 n7 c8,.slice A10 n11 c12]] rfl Try.func16 rfl rfl rfl fun w42 hL43=>?_) gn
   have hp44:=pmI hL43 .n (.c 0 rfl .n) (by kernel_rfl)
   refine Calls.mono (Ymi w42 (Fl ([]:List Ygl)) x1 A2 n3 c4 A6 n7 c8 A10 n11 c12 (Rw.mono h5 (hL43.toSt hp44 (me 1 rfl))) (Rw.mono h9 (hL43.toSt hp44 (me 1 rfl))) (Rw.mono h13 (hL43.toSt hp44 (me 1 rfl))) (hL43.hFl hp44 (Yj0 [] rfl)) (hL43.into hp44 _) r45 hv46) ?_
   rintro _ w52 ⟨A47,n48,c49,rfl,hM53,h50⟩
   have hL54:=hL43.call hp44 hM53
   refine ⟨_,_,_,rfl,hL54,?_⟩
   refine Yfx 2 rfl (Yg3 rfl) gn rfl<|Yg7 3 rfl<|Yg4 rfl<|Yfy rfl rfl<|Yfx 0 rfl (Ykb [.slice A2 n3 c4,.slice A6 n7 c8,.slice A10 n11 c12] 1 Yk6 rfl rfl rfl rfl) gn rfl<|Yfx 1 rfl (Yg1 rfl) gn rfl<|Yfx 2 rfl (Yg1 rfl) gn rfl ?_
   obtain ⟨r58,hv59,h⟩:=h
   refine Yh3 3 rfl (Yhy [.agg #[.slice A2 n3 c4,.slice A6 n7 c8,.slice A10 n11 c12],.slice A47 n48 c49,.slice A15 n16 c17] rfl Try.func29 rfl rfl rfl fun w55 hL56=>?_) gn
   have hp57:=pmI hL56 .n (.c 0 rfl (.c 1 rfl .n)) (by kernel_rfl)
   refine Calls.mono (Ymt w55 (Fl ([]:List Ygl)) x1 r45 x14 A2 n3 c4 A6 n7 c8 A10 n11 c12 A47 n48 c49 A15 n16 c17 (Rw.mono h5 (hL56.toSt hp57 (me 1 rfl))) (Rw.mono h9 (hL56.toSt hp57 (me 1 rfl))) (Rw.mono h13 (hL56.toSt hp57 (me 1 rfl))) (hL56.argO (dk:=Yod) hp57 [] rfl 0 rfl rfl (Ow.weak hL43.env.size h50) (me 0 rfl) (Cells.flat _)) (Rw.mono h18 (hL56.toSt hp57 (me 1 rfl))) (hL56.hFl hp57 (Yj0 [] rfl)) (hL56.into hp57 _) r58 hv59) ?_
   rintro _ w60 ⟨rfl,hM61⟩
   have hL62:=hL56.call hp57 hM61
   refine ⟨_,_,_,rfl,hL62,?_⟩
   refine Yfx 4 rfl (Yg3 rfl) gn rfl<|Yg7 5 rfl<|Yg4 rfl<|Yg4 rfl<|Yfy rfl rfl<|Yfx 0 rfl (Yg1 rfl) gn rfl<|Yfx 1 rfl (Yg1 rfl) gn rfl ?_
   obtain ⟨r66,hv67,h⟩:=h
   refine Yh3 2 rfl (Yhy [.slice A47 n48 c49,.slice A15 n16 c17] rfl Try.func30 rfl rfl rfl fun w63 hL64=>?_) gn
   have hp65:=pmI hL64 .n (.c 0 rfl (.c 1 rfl .n)) (by kernel_rfl)
   refine Calls.mono (Ylm w63 (Fl ([]:List Ygl)) r45 x14 A47 n48 c49 A15 n16 c17 (hL64.argO (dk:=Yod) hp65 [] rfl 0 rfl rfl (Ow.weak hL43.env.size h50) (me 0 rfl) (Cells.flat _)) (Rw.mono h18 (hL64.toSt hp65 (me 1 rfl))) (hL64.hFl hp65 (Yj0 [] rfl)) (hL64.into hp65 _) r66 hv67) ?_
   rintro _ w68 ⟨rfl,hM69⟩
   have hL70:=hL64.call hp65 hM69
   refine ⟨_,_,_,rfl,hL70,?_⟩
   refine Yg7 3 rfl ?_
   by_cases hp71:r66=true
   ·have h:=Ygg hp71 h
    refine Ygm rfl _ rfl (hp71)<|Yfy rfl rfl<|Yfx 0 rfl (Yg1 rfl) gn rfl<|Yfx 1 rfl (Yg1 rfl) gn rfl<|Yfx 2 rfl (Ygh rfl rfl rfl) gn rfl<|Yfx 3 rfl (Yg3 rfl) gn rfl<|Yg7 4 rfl<|Yg4 rfl<|Yfy rfl rfl<|Yfx 0 rfl (Yg1 rfl) gn rfl<|Yfx 1 rfl (Yg3 rfl) gn rfl<|Yg7 2 rfl ?_
    refine Ygu [.int .u64 (bits .or .u64 r58 x19)] rfl Try.func10 rfl (.tmp rfl (.nil)) fun wr hLr=>?_
    have hMr:=hLr.pk0 (.c 1 rfl .n)
    show Yk9 w F  r (.returned (Yhi [.int .u64 (bits .or .u64 r58 x19)])) wr
    rw [h]
    exact ⟨rfl,hMr⟩
   ·have h:=Ygf hp71 h
    refine Ygj rfl _ rfl ((bf hp71))<|Ygp rfl<|Yg4 rfl<|Yfy rfl rfl<|Yfx 0 rfl (Yg1 rfl) gn rfl<|Yfx 1 rfl (Yg3 rfl) gn rfl<|Yg7 2 rfl ?_
    refine Ygu [.int .u64 r58] rfl Try.func10 rfl (.tmp rfl (.nil)) fun wr hLr=>?_
    have hMr:=hLr.pk0 (.c 1 rfl .n)
    show Yk9 w F  r (.returned (Yhi [.int .u64 r58])) wr
    rw [h]
    exact ⟨rfl,hMr⟩
 refine Yfy rfl rfl<|Yfx 0 rfl (Ykb [.slice A2 n3 c4,.slice A6 n7 c8,.slice A10 n11 c12] 0 Yk6 rfl rfl rfl rfl) gn rfl ?_
 obtain ⟨r75,hv76,h⟩:=h
 refine Yh3 1 rfl (Yhy [.agg #[.slice A2 n3 c4,.slice A6 n7 c8,.slice A10 n11 c12]] rfl Try.func27 rfl rfl rfl fun w72 hL73=>?_) gn
 have hp74:=pmI hL73 .n (.c 0 rfl .n) (by kernel_rfl)
 refine Calls.mono (Ylb w72 (Fl ([]:List Ygl)) x1 A2 n3 c4 A6 n7 c8 A10 n11 c12 (Rw.mono h5 (hL73.toSt hp74 (me 1 rfl))) (Rw.mono h9 (hL73.toSt hp74 (me 1 rfl))) (Rw.mono h13 (hL73.toSt hp74 (me 1 rfl))) (hL73.hFl hp74 (Yj0 [] rfl)) (hL73.into hp74 _) r75 hv76) ?_
 rintro _ w77 ⟨rfl,hM78⟩
 have hL79:=hL73.call hp74 hM78
 refine ⟨_,_,_,rfl,hL79,?_⟩
 refine Yfx 2 rfl (Ymc rfl) gn rfl<|Yfx 3 rfl (Yg1 rfl) gn rfl ?_
 by_cases hp80:r75=true
 ·have h:=Ygg hp80 h
  refine Yhr 12 rfl ((nf hp80))<|Yfx 4 rfl (Ykb [.slice A2 n3 c4,.slice A6 n7 c8,.slice A10 n11 c12] 0 Yk6 rfl rfl rfl rfl) (gy 12 rfl rfl) rfl<|Yfx 5 rfl (Yg1 rfl) (gy 12 rfl rfl) rfl ?_
  obtain ⟨r84,hv85,h⟩:=h
  refine Yh3 6 rfl (Yhy [.agg #[.slice A2 n3 c4,.slice A6 n7 c8,.slice A10 n11 c12],.slice A15 n16 c17] rfl Try.func28 rfl rfl rfl fun w81 hL82=>?_) (gy 12 rfl rfl)
  have hp83:=pmI hL82 .n (.c 0 rfl .n) (by kernel_rfl)
  refine Calls.mono (Yls w81 (Fl ([]:List Ygl)) x1 x14 A2 n3 c4 A6 n7 c8 A10 n11 c12 A15 n16 c17 (Rw.mono h5 (hL82.toSt hp83 (me 1 rfl))) (Rw.mono h9 (hL82.toSt hp83 (me 1 rfl))) (Rw.mono h13 (hL82.toSt hp83 (me 1 rfl))) (Rw.mono h18 (hL82.toSt hp83 (me 1 rfl))) (hL82.hFl hp83 (Yj0 [] rfl)) (hL82.into hp83 _) r84 hv85) ?_
  rintro _ w86 ⟨rfl,hM87⟩
  have hL88:=hL82.call hp83 hM87
  refine ⟨_,_,_,rfl,hL88,?_⟩
  refine Yfx 7 rfl (Ymc rfl) (gy 12 rfl rfl) rfl<|Yfx 8 rfl (Ygv (b:=false) rfl rfl) gn rfl<|Yg7 9 rfl ?_
  exact Yhq [0,1] (j1 (!r84) h) ⟨rfl,rfl,rfl,rfl,trivial⟩ (.cons_cons _ (.slnil)) rfl
 ·have h:=Ygf hp80 h
  refine Yhr 12 rfl ((nt (bf hp80)))<|Yg5 4 rfl (ps 12 rfl rfl rfl)<|Yg5 5 rfl (ps 12 rfl rfl rfl)<|Yg5 6 rfl (ps 12 rfl rfl rfl)<|Yg5 7 rfl (ps 12 rfl rfl rfl)<|Yfx 8 rfl (Ygv (b:=true) rfl rfl) gn rfl<|Yg7 9 rfl ?_
  exact Yhq [0,1] (j1 true h) ⟨rfl,rfl,rfl,rfl,trivial⟩ (.cons_cons _ (.slnil)) rfl
noncomputable abbrev q12c6:=Code.snd (Code.snd (Code.snd (Yhf Try.f12)))
noncomputable abbrev Ypp:=Code.fst (Code.fst (Code.snd (Code.fst (Code.snd (Code.snd (Yhf Try.f12))))))
abbrev Ykp (w:World) (F:Nat→Prop) (r:(List Yg6) × Nat):Ending→World→Prop:=fun e w'=>∃ A0:Option Addr,∃ n0:Nat,∃ c0:Nat,e=.returned (.slice A0 r.2 c0)∧B.Loc w w' [.own (.slice A0 n0 c0) 36 3 n0 (r.1.flatMap Ygr)] [St w []]∧Ow w.heap.size A0 n0 c0 r.1∧r.2≤n0
noncomputable abbrev Yjp (w:World) (F:Nat→Prop) (r:(List Yg6) × Nat):Cx:=⟨Try.prog,12,Try.f12,21,Ykp w F  r,w⟩
theorem Yl3 (w:World) (F:Nat→Prop) (x1:List Yg6) (A2:Option Addr) (n3:Nat) (c4:Nat) (h5:Rw Yh0 w (St w []).av A2 n3 c4 x1) (hF:∀ b,F b→b < w.heap.size∧∀ o ∈ ([]:List (List Nat)),b ∉ o) (hL0:B.Loc w w [] [Sm w.heap.size F w [],St w []]) (r:(List Yg6) × Nat) (h:Yir x1 r):Calls Try.prog 12 #[.slice A2 n3 c4] w (Ykp w F  r):=by
 unfold Yir at h
 refine Ygx (vs:=[.slice A2 n3 c4]) 21 Try.func12 rfl Try.ntmps12 rfl hL0 ?_
 show G (Yjp w F r) _ _ _ _
 refine Yg4 rfl<|Yfy rfl rfl<|Yfx 0 rfl (Yg3 rfl) gn rfl<|Yg7 1 rfl<|Yg4 rfl<|Yfy rfl rfl<|Yfx 0 rfl (Yg1 rfl) gn rfl ?_
 obtain ⟨r9,hv10,h⟩:=h
 refine Yh3 1 rfl (Yhy [.slice A2 n3 c4] rfl Try.func9 rfl rfl rfl fun w6 hL7=>?_) gn
 have hp8:=pmI hL7 .n .n (by kernel_rfl)
 refine Calls.mono (Yib w6 (Fl ([]:List Ygl)) x1 A2 n3 c4 (Rw.mono h5 (hL7.toSt hp8 (me 1 rfl))) (hL7.hFl hp8 (Yj0 [] rfl)) (hL7.into hp8 _) r9 hv10) ?_
 rintro _ w16 ⟨A11,n12,c13,rfl,hM17,h14⟩
 have hL18:=hL7.call hp8 hM17
 refine ⟨_,_,_,rfl,hL18,?_⟩
 refine Yfx 2 rfl (Yg3 rfl) gn rfl<|Yg7 3 rfl<|Yg4 rfl<|Yg4 rfl<|Yfy rfl rfl<|Yfx 0 rfl (Yg3 rfl) gn rfl<|Yg7 1 rfl<|Ygk rfl<|Yiu rfl ?_
 have key1:∀ s,Yga (fun (s:(List Yg6) × Int) o=>Yh5 x1 s.1 s.2 o) s r→(fun (s:(List Yg6) × Int)=>∀ (A30:Option Addr) (n31:Nat) (c32:Nat) (h33:Ow w.heap.size A30 n31 c32 s.1),G (Yjp w F r) [.code Ypp,.inLoop Ypp,.inBlock 0,.code q12c6] [(0,.slice A2 n3 c4),(3,.slice A30 n31 c32),(4,.int .i64 s.2)] [.own (.slice A30 n31 c32) 36 3 n31 (s.1.flatMap Ygr)] [Sm w.heap.size F w [],St w []]) s:=by
  intro s hs
  refine Yga.ind (mot:=(fun (s:(List Yg6) × Int)=>∀ (A30:Option Addr) (n31:Nat) (c32:Nat) (h33:Ow w.heap.size A30 n31 c32 s.1),G (Yjp w F r) [.code Ypp,.inLoop Ypp,.inBlock 0,.code q12c6] [(0,.slice A2 n3 c4),(3,.slice A30 n31 c32),(4,.int .i64 s.2)] [.own (.slice A30 n31 c32) 36 3 n31 (s.1.flatMap Ygr)] [Sm w.heap.size F w [],St w []])) ?_ hs
  clear hs s
  intro s o1 h hO1
  obtain ⟨x29,x34⟩:=s
  show ∀ (A30:Option Addr) (n31:Nat) (c32:Nat) (h33:Ow w.heap.size A30 n31 c32 x29),G (Yjp w F r) [.code Ypp,.inLoop Ypp,.inBlock 0,.code q12c6] [(0,.slice A2 n3 c4),(3,.slice A30 n31 c32),(4,.int .i64 x34)] [.own (.slice A30 n31 c32) 36 3 n31 (x29.flatMap Ygr)] [Sm w.heap.size F w [],St w []]
  intro A30 n31 c32 h33
  have h:Yh5 x1 x29 x34 o1:=h
  unfold Yh5 at h
  refine Yg4 rfl<|Yg4 rfl<|Yfy rfl rfl<|Yfx 0 rfl (Yg1 rfl) gn rfl<|Yfx 1 rfl (Ygh rfl rfl rfl) gn rfl<|Yg7 2 rfl ?_
  by_cases hp47:x34 < 20
  ·have h:=Ygg hp47 h
   refine Ygm rfl _ rfl ((decide_eq_true hp47))<|Ygp rfl<|Yg4 rfl<|Ygk rfl<|Yfy rfl rfl<|Yfx 0 rfl (Yg1 rfl) gn rfl<|Yfx 1 rfl (Yg1 rfl) gn rfl<|Yfx 2 rfl (Ygh rfl rfl rfl) gn rfl<|Yfx 3 rfl (Ymz #[.int .i64 (w64 (900 + x34)),.string (⟨#[109,97,114,107]⟩:ByteArray),.string (⟨#[]⟩:ByteArray)] bd_36 rfl (by kernel_rfl)) gn rfl ?_
   refine Yh3 4 rfl (Yo0 (xs:=([(⟨w64 (900 + x34),(⟨#[109,97,114,107]⟩:ByteArray),(⟨#[]⟩:ByteArray)⟩:Yg6)]:List Yg6)) [.int .i64 (w64 (900 + x34)),.string (⟨#[109,97,114,107]⟩:ByteArray),.string (⟨#[]⟩:ByteArray)] Ytm rfl (by kernel_rfl) rfl rfl rfl rfl fun gb49 h50=>?_) gn
   obtain ⟨x54,hv55,h⟩:=h
   obtain ⟨hb56,h⟩:=h
   refine Yh3 5 rfl (Ypv (zs:=x54) (cells':=x54.flatMap Ygr) 1 ap_27 rfl rfl rfl h33 (Nat.le_refl _) (Src.ownF (hl:=Yi0) (h1:=Yig) 0 rfl h50) (by rw [hv55,List.flatMap_append] <;> rfl) (Yn1 hv55 h50.hq) hb56 rfl rfl fun A51 c52 h53=>?_) gn
   refine Yfx 6 rfl (Yg3 rfl) gn rfl<|Yg7 7 rfl<|Ygo<|Yfy rfl rfl<|Yfx 0 rfl (Yg1 rfl) gn rfl<|Yfx 1 rfl (Ygh rfl rfl rfl) gn rfl<|Yfx 2 rfl (Yg3 rfl) gn rfl<|Yg7 3 rfl<|Ygt ?_
   have ih:=Out.inl hO1 h
   exact Yhq [0,1] (ih A51 (n31 + 1) c52 h53) ⟨rfl,rfl,rfl,trivial⟩ (.cons _ (.cons_cons _ (.slnil))) rfl
  ·have h:=Ygf hp47 h
   refine Ygj rfl _ rfl ((decide_eq_false hp47))<|Yit [.code q12c6] rfl rfl<|Yg4 rfl<|Yfy rfl rfl<|Yfx 0 rfl (Yg1 rfl) gn rfl<|Yfx 1 rfl (Yg1 rfl) gn rfl<|Yfx 2 rfl (Ygn Ym9 rfl h5.hq) gn rfl ?_
   obtain ⟨hb57,h⟩:=h
   have hle58:((x1.length:Int):Int).toNat≤n31:=by have q:=hb57; have q1:=h33.hq; omega
   refine Yfx 3 rfl (Ymg (i:=(x1.length:Int)) Yl7 rfl rfl (by have q:=hb57; have q1:=h33.hq; have q2:=h33.hn; omega) h33.hn rfl) gn rfl<|Yfx 4 rfl (Yg3 rfl) gn rfl<|Yg7 5 rfl ?_
   have h:=Out.inr hO1 h
   refine Ygu [.slice A30 (((x1.length:Int):Int).toNat) c32] rfl Try.func12 rfl (.tmp rfl (.nil)) fun wr hLr=>?_
   have hMr:=hLr.pkI (.c 0 rfl .n) .n (by kernel_rfl) (.c 1 rfl .n)
   show Ykp w F  r (.returned (Yhi [.slice A30 (((x1.length:Int):Int).toNat) c32])) wr
   rw [h]
   exact ⟨A30,n31,c32,rfl,hMr,h33,hle58⟩
 exact Yhq [0,1] (key1 _ h A11 n12 c13 (Ow.weak hL7.env.size h14)) ⟨rfl,rfl,rfl,trivial⟩ (.cons_cons _ (.slnil)) rfl
end Go.Proofs.Ytelafghkjlpojaa.K
