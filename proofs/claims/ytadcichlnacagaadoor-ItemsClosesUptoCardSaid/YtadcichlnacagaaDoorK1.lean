/- What the machine's calls do, function by function, printed by my own tool. Condition of each: its relation holds of the answer, and what is handed in lies in memory as told. -/
import Derived.Test.YtadcichlnacagaaDoorK0
set_option linter.unusedVariables false
set_option maxRecDepth 100000
set_option maxHeartbeats 4000000
namespace Go.Proofs.YtadcichlnacagaaDoor.K
open Go.Proofs.YtadcichlnacagaaDoor.B Go.Proofs.YtadcichlnacagaaDoor.R Go.RowKit
noncomputable abbrev Zpv:=Code.snd (Code.snd (Code.snd (Code.snd (Code.snd (Yvq Tryd.f13)))))
noncomputable abbrev Zkd:=Code.fst (Code.fst (Code.snd (Code.fst (Code.snd (Code.snd (Code.snd (Code.snd (Yvq Tryd.f13))))))))
noncomputable abbrev q13c26:=Code.fst (Code.snd (Code.fst (Code.fst (Code.snd Zkd))))
abbrev Zdw (w:World) (F:Nat→Prop) (r:Yu5):Ending→World→Prop:=fun e w'=>∃ A0:Option Addr,∃ n0:Nat,∃ c0:Nat,∃ A1:Option Addr,∃ n1:Nat,∃ c1:Nat,∃ A2:Option Addr,∃ n2:Nat,∃ c2:Nat,∃ cs2:List Value,∃ bs2:List Nat,e=.returned (.agg #[.slice A0 n0 c0,.slice A1 n1 c1,.slice A2 n2 c2])∧B.Loc w w' [.own (.slice A0 n0 c0) 57 2 n0 (r.terms.flatMap Yuz),.own (.slice A1 n1 c1) 60 2 n1 (r.syms.flatMap Yvp),.own (.slice A2 n2 c2) 63 2 n2 cs2,Ywj Zgc (w.heap.size) none r.prods cs2 bs2] [St w []]∧Ow w.heap.size A0 n0 c0 r.terms∧Ow w.heap.size A1 n1 c1 r.syms∧Ow w.heap.size A2 n2 c2 r.prods
noncomputable abbrev Zbx (w:World) (F:Nat→Prop) (r:Yu5):Cx:=⟨Tryd.prog,13,Tryd.f13,49,Zdw w F  r,w⟩
theorem Zeo (w:World) (F:Nat→Prop) (x1:Yu5) (A2:Option Addr) (n3:Nat) (c4:Nat) (A6:Option Addr) (n7:Nat) (c8:Nat) (A10:Option Addr) (n11:Nat) (c12:Nat) (h5:Rw Yuj w (St w []).av A2 n3 c4 x1.terms) (h9:Rw Yuq w (St w []).av A6 n7 c8 x1.syms) (h13:Rw Yun w (St w []).av A10 n11 c12 x1.prods) (hF:∀ b,F b→b < w.heap.size∧∀ o ∈ ([]:List (List Nat)),b ∉ o) (hL0:B.Loc w w [] [Sm w.heap.size F w [],St w []]) (r:Yu5) (h:Zaf x1 r):Calls Tryd.prog 13 #[.agg #[.slice A2 n3 c4,.slice A6 n7 c8,.slice A10 n11 c12]] w (Zdw w F  r):=by
 unfold Zaf at h
 refine Yv5 (vs:=[.agg #[.slice A2 n3 c4,.slice A6 n7 c8,.slice A10 n11 c12]]) 49 Tryd.func13 rfl Tryd.ntmps13 rfl hL0 ?_
 show G (Zbx w F r) _ _ _ _
 refine Yu9 rfl<|Yu4 rfl rfl ?_
 refine Yve 0 rfl (Zas [.slice A2 n3 c4,.slice A6 n7 c8,.slice A10 n11 c12] rfl rfl rfl fun gb14=>?_) gn
 refine Yve 1 rfl (Yye [.slice none 0 0,.slice none 0 0,.slice none 0 0] Zqk rfl fun gb16=>?_) gn
 refine Yua 2 rfl<|Yu9 rfl<|Yu4 rfl rfl ?_
 refine Yve 0 rfl (Yye [.slice none 0 0,.slice none 0 0,.slice none 0 0] Zqk rfl fun gb18=>?_) gn
 refine Yua 1 rfl<|Yu9 rfl<|Yu4 rfl rfl<|Yu2 0 rfl (Yub Yw7 rfl) gn rfl<|Yu2 1 rfl (Yue 0 Yz4 rfl rfl rfl) gn rfl<|Yu2 2 rfl (Yub Yw7 rfl) gn rfl<|Yu2 3 rfl (Yue 2 Yz4 rfl rfl rfl) gn rfl ?_
 obtain ⟨x24,hv25,h⟩:=h
 obtain ⟨hb26,h⟩:=h
 refine Zp6 57 2 ?_
 refine Yve 4 rfl (Zdj (zs:=x24) (cells':=x24.flatMap Yuz) 0 ap_22 rfl rfl rfl (Ow.nil (z:=w.heap.size)) (Nat.le_refl _) (Src.readF (s:=St w []) (hl:=Zaz) (h1:=Zb1) h5 (me 1 rfl)) (by rw [hv25,List.flatMap_append] <;> rfl) (Yzh hv25 h5.hq) hb26 rfl rfl fun A21 c22 h23=>?_) gn
 refine Yu2 5 rfl (Yub Yw7 rfl) gn rfl ?_
 refine Yve 6 rfl (Za4 (vs:=[.slice A21 (0 + n3) c22]) (cs':=[.slice A21 (0 + n3) c22,.slice none 0 0,.slice none 0 0]) (M':=[.own (.slice A21 (0 + n3) c22) 57 2 (0 + n3) (x24.flatMap Yuz),.box gb18 26 [.slice A21 (0 + n3) c22,.slice none 0 0,.slice none 0 0],.box gb16 26 [.slice none 0 0,.slice none 0 0,.slice none 0 0],.box gb14 26 [.slice A2 n3 c4,.slice A6 n7 c8,.slice A10 n11 c12]]) 1 sz_22 rfl rfl rfl rfl rfl rfl rfl rfl rfl ?_) gn
 refine Yua 7 rfl<|Yu9 rfl<|Yu4 rfl rfl<|Yu2 0 rfl (Yub Yxd rfl) gn rfl<|Yu2 1 rfl (Yue 1 Zak rfl rfl rfl) gn rfl<|Yu2 2 rfl (Yub Yxd rfl) gn rfl<|Yu2 3 rfl (Yue 3 Zak rfl rfl rfl) gn rfl ?_
 obtain ⟨x31,hv32,h⟩:=h
 obtain ⟨hb33,h⟩:=h
 refine Zp6 60 2 ?_
 refine Yve 4 rfl (Zdj (zs:=x31) (cells':=x31.flatMap Yvp) 0 ap_23 rfl rfl rfl (Ow.nil (z:=w.heap.size)) (Nat.le_refl _) (Src.readF (s:=St w []) (hl:=Zeh) (h1:=Zef) h9 (me 1 rfl)) (by rw [hv32,List.flatMap_append] <;> rfl) (Yzh hv32 h9.hq) hb33 rfl rfl fun A28 c29 h30=>?_) gn
 refine Yu2 5 rfl (Yub Yxd rfl) gn rfl ?_
 refine Yve 6 rfl (Za4 (vs:=[.slice A28 (0 + n7) c29]) (cs':=[.slice A21 (0 + n3) c22,.slice A28 (0 + n7) c29,.slice none 0 0]) (M':=[.own (.slice A28 (0 + n7) c29) 60 2 (0 + n7) (x31.flatMap Yvp),.own (.slice A21 (0 + n3) c22) 57 2 (0 + n3) (x24.flatMap Yuz),.box gb18 26 [.slice A21 (0 + n3) c22,.slice A28 (0 + n7) c29,.slice none 0 0],.box gb16 26 [.slice none 0 0,.slice none 0 0,.slice none 0 0],.box gb14 26 [.slice A2 n3 c4,.slice A6 n7 c8,.slice A10 n11 c12]]) 2 sz_23 rfl rfl rfl rfl rfl rfl rfl rfl rfl ?_) gn
 refine Yua 7 rfl<|Yu9 rfl<|Yu9 rfl<|Yu4 rfl rfl<|Yu2 0 rfl (Yu7 rfl) gn rfl<|Yua 1 rfl<|Yuw rfl<|Ywm rfl ?_
 have key1:∀ s,Yui (fun (s:Int × (List Yuf)) o=>Yx9 x1 x24 x31 s.1 s.2 o) s r→(fun (s:Int × (List Yuf))=>∀ (bs105:List Nat) (A106:Option Addr) (n107:Nat) (c108:Nat) (cs109:List Value) (h110:Ow w.heap.size A106 n107 c108 s.2),G (Zbx w F r) [.code Zkd,.inLoop Zkd,.inBlock 0,.code Zpv] [(1,.pointer (some ⟨gb14,0,none⟩)),(2,.pointer (some ⟨gb16,0,none⟩)),(3,.pointer (some ⟨gb18,0,none⟩)),(4,.int .i64 s.1)] [Ywj Zgc (w.heap.size) none s.2 cs109 bs105,.own (.slice A106 n107 c108) 63 2 n107 cs109,.own (.slice A28 (0 + n7) c29) 60 2 (0 + n7) (x31.flatMap Yvp),.own (.slice A21 (0 + n3) c22) 57 2 (0 + n3) (x24.flatMap Yuz),.box gb18 26 [.slice A21 (0 + n3) c22,.slice A28 (0 + n7) c29,.slice A106 n107 c108],.box gb16 26 [.slice none 0 0,.slice none 0 0,.slice none 0 0],.box gb14 26 [.slice A2 n3 c4,.slice A6 n7 c8,.slice A10 n11 c12]] [Sm w.heap.size F w [],St w []]) s:=by
  intro s hs
  refine Yui.ind (mot:=(fun (s:Int × (List Yuf))=>∀ (bs105:List Nat) (A106:Option Addr) (n107:Nat) (c108:Nat) (cs109:List Value) (h110:Ow w.heap.size A106 n107 c108 s.2),G (Zbx w F r) [.code Zkd,.inLoop Zkd,.inBlock 0,.code Zpv] [(1,.pointer (some ⟨gb14,0,none⟩)),(2,.pointer (some ⟨gb16,0,none⟩)),(3,.pointer (some ⟨gb18,0,none⟩)),(4,.int .i64 s.1)] [Ywj Zgc (w.heap.size) none s.2 cs109 bs105,.own (.slice A106 n107 c108) 63 2 n107 cs109,.own (.slice A28 (0 + n7) c29) 60 2 (0 + n7) (x31.flatMap Yvp),.own (.slice A21 (0 + n3) c22) 57 2 (0 + n3) (x24.flatMap Yuz),.box gb18 26 [.slice A21 (0 + n3) c22,.slice A28 (0 + n7) c29,.slice A106 n107 c108],.box gb16 26 [.slice none 0 0,.slice none 0 0,.slice none 0 0],.box gb14 26 [.slice A2 n3 c4,.slice A6 n7 c8,.slice A10 n11 c12]] [Sm w.heap.size F w [],St w []])) ?_ hs
  clear hs s
  intro s o1 h hO1
  obtain ⟨x103,x104⟩:=s
  show ∀ (bs105:List Nat) (A106:Option Addr) (n107:Nat) (c108:Nat) (cs109:List Value) (h110:Ow w.heap.size A106 n107 c108 x104),G (Zbx w F r) [.code Zkd,.inLoop Zkd,.inBlock 0,.code Zpv] [(1,.pointer (some ⟨gb14,0,none⟩)),(2,.pointer (some ⟨gb16,0,none⟩)),(3,.pointer (some ⟨gb18,0,none⟩)),(4,.int .i64 x103)] [Ywj Zgc (w.heap.size) none x104 cs109 bs105,.own (.slice A106 n107 c108) 63 2 n107 cs109,.own (.slice A28 (0 + n7) c29) 60 2 (0 + n7) (x31.flatMap Yvp),.own (.slice A21 (0 + n3) c22) 57 2 (0 + n3) (x24.flatMap Yuz),.box gb18 26 [.slice A21 (0 + n3) c22,.slice A28 (0 + n7) c29,.slice A106 n107 c108],.box gb16 26 [.slice none 0 0,.slice none 0 0,.slice none 0 0],.box gb14 26 [.slice A2 n3 c4,.slice A6 n7 c8,.slice A10 n11 c12]] [Sm w.heap.size F w [],St w []]
  intro bs105 A106 n107 c108 cs109 h110
  have h:Yx9 x1 x24 x31 x103 x104 o1:=h
  unfold Yx9 at h
  refine Yu9 rfl<|Yu9 rfl<|Yu4 rfl rfl<|Yu2 0 rfl (Yu3 rfl) gn rfl<|Yu2 1 rfl (Yub Yvf rfl) gn rfl<|Yu2 2 rfl (Yue 6 Ywb rfl rfl rfl) gn rfl<|Yu2 3 rfl (Yuo Za3 rfl h13.hq) gn rfl<|Yu2 4 rfl (Yug rfl rfl rfl) gn rfl<|Yua 5 rfl ?_
  by_cases hp177:x103 < (x1.prods.length:Int)
  ·have h:=Yul hp177 h
   refine Yv4 rfl _ rfl ((decide_eq_true hp177))<|Yv2 rfl<|Yu9 rfl<|Yuw rfl<|Yu9 rfl<|Yu4 rfl rfl<|Yu2 0 rfl (Yub Yvf rfl) gn rfl<|Yu2 1 rfl (Yue 6 Ywb rfl rfl rfl) gn rfl<|Yu2 2 rfl (Yu3 rfl) gn rfl ?_
   obtain ⟨hb178,h⟩:=h
   obtain ⟨ce180,hK181,hr179⟩:=Rw.read (s:=St w []) h13 hb178
   obtain ⟨A182,n183,c184,rfl,h185⟩:=hK181
   refine Yu2 3 rfl (Yv7 (s:=St w []) Yxh rfl rfl h13 hb178) gn rfl<|Yu2 4 rfl (Yvo Yx3 rfl) gn rfl<|Yu2 5 rfl (Yvj (kk:=(x103:Int).toNat * 2) (j:=0) (St w []) Yvt rfl hr179 rfl (me 1 rfl)) gn rfl<|Yu2 6 rfl (Zap #[.int .i64 ((ix x1.prods x103).lhs),.slice none 0 0] bd_63 rfl (by kernel_rfl)) gn rfl ?_
   refine Yve 7 rfl (Yye [.int .i64 0,.slice none 0 0] Zl0 rfl fun gb186=>?_) gn
   refine Yve 8 rfl (Za4 (vs:=[.int .i64 ((ix x1.prods x103).lhs),.slice none 0 0]) (cs':=[.int .i64 ((ix x1.prods x103).lhs),.slice none 0 0]) (M':=[.box gb186 63 [.int .i64 ((ix x1.prods x103).lhs),.slice none 0 0],Ywj Zgc (w.heap.size) none x104 cs109 bs105,.own (.slice A106 n107 c108) 63 2 n107 cs109,.own (.slice A28 (0 + n7) c29) 60 2 (0 + n7) (x31.flatMap Yvp),.own (.slice A21 (0 + n3) c22) 57 2 (0 + n3) (x24.flatMap Yuz),.box gb18 26 [.slice A21 (0 + n3) c22,.slice A28 (0 + n7) c29,.slice A106 n107 c108],.box gb16 26 [.slice none 0 0,.slice none 0 0,.slice none 0 0],.box gb14 26 [.slice A2 n3 c4,.slice A6 n7 c8,.slice A10 n11 c12]]) 0 Zkw rfl rfl rfl rfl rfl rfl rfl rfl rfl ?_) gn
   refine Yua 9 rfl<|Yu9 rfl<|Zf4 65 3 ?_
   obtain ⟨x206,hv207,h⟩:=h
   obtain ⟨hb208,h⟩:=h
   have hns:Region.noSelect (Code.ops q13c26)=true:=by kernel_rfl
   refine Yvr [8,9,10] 11 rfl rfl mix rfl (.c 0 rfl (.c 1 rfl .n))<|wfv 0 rfl (Yub Yw1 rfl) gn hns (by kernel_rfl)<|wfv 1 rfl (Yue 1 Yyc rfl rfl rfl) gn hns (by kernel_rfl)<|wfv 2 rfl (Yub Yvf rfl) gn hns (by kernel_rfl)<|wfv 3 rfl (Yue 8 Ywb rfl rfl rfl) gn hns (by kernel_rfl)<|wfv 4 rfl (Yu3 rfl) gn hns (by kernel_rfl) ?_
   obtain ⟨ce220,hK221,hr219⟩:=Rw.read (s:=St w []) h13 hb178
   obtain ⟨A222,n223,c224,rfl,h225⟩:=hK221
   refine wfv 5 rfl (Yv7 (s:=St w []) Yxh rfl rfl h13 hb178) gn hns (by kernel_rfl)<|wfv 6 rfl (Yvo Yw1 rfl) gn hns (by kernel_rfl)<|wfv 7 rfl (Yvj (kk:=(x103:Int).toNat * 2) (j:=1) (St w []) Yyc rfl hr219 rfl (me 1 rfl)) gn hns (by kernel_rfl) ?_
   refine Ywl [8] (by kernel_rfl) rfl ⟨Zi7 8 rfl gn rfl (Zdj (zs:=x206) (cells':=x206.flatMap Yy6) 0 ap_61 rfl rfl rfl (Ow.nil (z:=w.heap.size)) (Nat.le_refl _) (Src.readF (s:=St w []) (hl:=Yvw) (h1:=Yvy) h225 (me 1 rfl)) (by rw [hv207,List.flatMap_append] <;> rfl) (Yzh hv207 h225.hq) hb208 rfl rfl fun A226 c227 h228=>?_),trivial⟩
   unfold NxL
   refine Ywl [9] (by kernel_rfl) rfl ⟨Zi7 9 rfl gn rfl (Zov (Yub Yw1 rfl) rfl ?_),trivial⟩
   unfold NxL
   refine Ywl [10] (by kernel_rfl) rfl ⟨Zi7 10 rfl gn rfl (Za4 (vs:=[.slice A226 (0 + n223) c227]) (cs':=[.int .i64 ((ix x1.prods x103).lhs),.slice A226 (0 + n223) c227]) (M':=[.own (.slice A226 (0 + n223) c227) 65 3 (0 + n223) (x206.flatMap Yy6),.box gb186 63 [.int .i64 ((ix x1.prods x103).lhs),.slice A226 (0 + n223) c227],Ywj Zgc (w.heap.size) none x104 cs109 bs105,.own (.slice A106 n107 c108) 63 2 n107 cs109,.own (.slice A28 (0 + n7) c29) 60 2 (0 + n7) (x31.flatMap Yvp),.own (.slice A21 (0 + n3) c22) 57 2 (0 + n3) (x24.flatMap Yuz),.box gb18 26 [.slice A21 (0 + n3) c22,.slice A28 (0 + n7) c29,.slice A106 n107 c108],.box gb16 26 [.slice none 0 0,.slice none 0 0,.slice none 0 0],.box gb14 26 [.slice A2 n3 c4,.slice A6 n7 c8,.slice A10 n11 c12]]) 1 sz_61 rfl rfl rfl rfl rfl rfl rfl rfl rfl ?_),trivial⟩
   unfold NxL
   refine Yvx (by kernel_rfl)<|Yu4 rfl rfl<|Yu2 0 rfl (Yub Yvf rfl) gn rfl<|Yu2 1 rfl (Yue 6 Ywb rfl rfl rfl) gn rfl<|Yu2 2 rfl (Yyr [.int .i64 ((ix x1.prods x103).lhs),.slice A226 (0 + n223) c227] 1 Zko rfl rfl rfl rfl) gn rfl ?_
   refine w_fam1 (z:=w.heap.size) (j:=0) Zgc (⟨(ix x1.prods x103).lhs,x206⟩:Yuf) rfl h228 rfl trivial fun bs231=>?_
   refine Yve 3 rfl (Zdd (xs:=([(⟨(ix x1.prods x103).lhs,x206⟩:Yuf)]:List Yuf)) [.int .i64 ((ix x1.prods x103).lhs),.slice A226 (0 + n223) c227] bs_24_1 rfl (by kernel_rfl) rfl rfl rfl rfl fun gb232 h233=>?_) gn
   obtain ⟨x238,hv239,h⟩:=h
   obtain ⟨hb240,h⟩:=h
   obtain ⟨cs241,hc242⟩:∃ x:List Value,x=cs109++[.int .i64 ((ix x1.prods x103).lhs),.slice A226 (0 + n223) c227]:=⟨_,rfl⟩
   refine Yve 4 rfl (Zdj (zs:=x238) 4 ap_24 rfl rfl rfl h110 (Nat.le_refl _) (Src.raw 0 rfl h233 rfl rfl) hc242.symm (Yzh hv239 h233.hq) hb240 rfl rfl fun A234 c235 h236=>?_) gn
   refine w_famcat (fk:=Zgc) (z:=w.heap.size) (j1:=1) (j:=3) (by decide) rfl rfl hv239 hc242 fun bs237=>?_
   refine Yu2 5 rfl (Yub Yvf rfl) gn rfl ?_
   refine Yve 6 rfl (Za4 (vs:=[.slice A234 (n107 + 1) c235]) (cs':=[.slice A21 (0 + n3) c22,.slice A28 (0 + n7) c29,.slice A234 (n107 + 1) c235]) (M':=[.own (.slice (some ⟨gb232,0,none⟩) 1 1) 63 2 1 [.int .i64 ((ix x1.prods x103).lhs),.slice A226 (0 + n223) c227],.box gb186 63 [.int .i64 ((ix x1.prods x103).lhs),.slice A226 (0 + n223) c227],Ywj Zgc (w.heap.size) none x238 cs241 bs237,.own (.slice A234 (n107 + 1) c235) 63 2 (n107 + 1) cs241,.own (.slice A28 (0 + n7) c29) 60 2 (0 + n7) (x31.flatMap Yvp),.own (.slice A21 (0 + n3) c22) 57 2 (0 + n3) (x24.flatMap Yuz),.box gb18 26 [.slice A21 (0 + n3) c22,.slice A28 (0 + n7) c29,.slice A234 (n107 + 1) c235],.box gb16 26 [.slice none 0 0,.slice none 0 0,.slice none 0 0],.box gb14 26 [.slice A2 n3 c4,.slice A6 n7 c8,.slice A10 n11 c12]]) 6 sz_24 rfl rfl rfl rfl rfl rfl rfl rfl rfl ?_) gn
   refine Yua 7 rfl<|Yux<|Yu4 rfl rfl<|Yu2 0 rfl (Yu3 rfl) gn rfl<|Yu2 1 rfl (Yug rfl rfl rfl) gn rfl<|Yu2 2 rfl (Yu7 rfl) gn rfl<|Yua 3 rfl<|Yv1 ?_
   have ih:=Out.inl hO1 h
   exact Yvh [0,1] (ih bs237 A234 (n107 + 1) c235 cs241 h236) ⟨rfl,rfl,rfl,rfl,trivial⟩ (.cons _ (.cons _ (.cons_cons _ (.cons_cons _ (.cons_cons _ (.cons_cons _ (.cons_cons _ (.cons_cons _ (.cons_cons _ (.slnil)))))))))) rfl
  ·have h:=Yum hp177 h
   refine Yur rfl _ rfl ((decide_eq_false hp177))<|Ywa [.code Zpv] rfl rfl<|Yu9 rfl<|Yu4 rfl rfl<|Yu2 0 rfl (Yyr [.slice A21 (0 + n3) c22,.slice A28 (0 + n7) c29,.slice A106 n107 c108] 4 Yys rfl rfl rfl rfl) gn rfl ?_
   refine Yve 1 rfl (Za4 (vs:=[.slice A21 (0 + n3) c22,.slice A28 (0 + n7) c29,.slice A106 n107 c108]) (cs':=[.slice A21 (0 + n3) c22,.slice A28 (0 + n7) c29,.slice A106 n107 c108]) (M':=[Ywj Zgc (w.heap.size) none x104 cs109 bs105,.own (.slice A106 n107 c108) 63 2 n107 cs109,.own (.slice A28 (0 + n7) c29) 60 2 (0 + n7) (x31.flatMap Yvp),.own (.slice A21 (0 + n3) c22) 57 2 (0 + n3) (x24.flatMap Yuz),.box gb18 26 [.slice A21 (0 + n3) c22,.slice A28 (0 + n7) c29,.slice A106 n107 c108],.box gb16 26 [.slice A21 (0 + n3) c22,.slice A28 (0 + n7) c29,.slice A106 n107 c108],.box gb14 26 [.slice A2 n3 c4,.slice A6 n7 c8,.slice A10 n11 c12]]) 5 sz_26 rfl rfl rfl rfl rfl rfl rfl rfl rfl ?_) gn
   refine Yua 2 rfl ?_
   have h:=Out.inr hO1 h
   refine Yvb [.agg #[.slice A21 (0 + n3) c22,.slice A28 (0 + n7) c29,.slice A106 n107 c108]] rfl Tryd.func13 rfl (.cell (cs:=[.slice A21 (0 + n3) c22,.slice A28 (0 + n7) c29,.slice A106 n107 c108]) (us:=[.slice A21 (0 + n3) c22,.slice A28 (0 + n7) c29,.slice A106 n107 c108]) 5 rfl Yys rfl rfl rfl (.nil)) fun wr hLr=>?_
   have hMr:=hLr.pkI (.c 3 rfl (.c 2 rfl (.c 1 rfl (.c 0 rfl .n)))) (.c 4 rfl (.c 5 rfl (.c 6 rfl .n))) (by kernel_rfl) (.c 1 rfl .n)
   show Zdw w F  r (.returned (Yvl [.agg #[.slice A21 (0 + n3) c22,.slice A28 (0 + n7) c29,.slice A106 n107 c108]])) wr
   rw [h]
   exact ⟨A21,0 + n3,c22,A28,0 + n7,c29,A106,n107,c108,cs109,bs105,rfl,hMr,h23,h30,h110⟩
 refine Zf4 63 2<|g_fam0 Zgc w.heap.size ?_
 exact Yvh [0,1] (key1 _ h [] none 0 0 [] (Ow.nil (z:=w.heap.size))) ⟨rfl,rfl,rfl,rfl,trivial⟩ (.cons_cons _ (.cons_cons _ (.cons_cons _ (.cons_cons _ (.cons_cons _ (.cons_cons _ (.cons_cons _ (.slnil)))))))) rfl
noncomputable abbrev q9c5:=Code.fst (Code.snd (Code.snd (Yvq Tryd.f9)))
noncomputable abbrev q9c7:=Code.fst (Code.snd (Code.snd (Code.snd (Yvq Tryd.f9))))
noncomputable abbrev q9c9:=Code.fst (Code.snd (Code.snd (Code.snd (Code.snd (Yvq Tryd.f9)))))
noncomputable abbrev q9c12:=Code.snd (Code.snd (Code.snd (Code.snd (Code.snd (Code.snd (Yvq Tryd.f9))))))
noncomputable abbrev Znd:=Code.fst (Code.fst (Code.snd (Code.fst (Code.snd (Code.snd (Code.snd (Code.snd (Code.snd (Yvq Tryd.f9)))))))))
noncomputable abbrev q9c27:=Code.snd (Code.fst (Code.fst (Code.snd Znd)))
abbrev Zdi (w:World) (F:Nat→Prop) (r:Yu5 × Nat × Nat × Nat × (List (Yuf × Nat))):Ending→World→Prop:=fun e w'=>∃ A0:Option Addr,∃ n0:Nat,∃ c0:Nat,∃ A1:Option Addr,∃ n1:Nat,∃ c1:Nat,∃ A2:Option Addr,∃ n2:Nat,∃ c2:Nat,∃ cs2:List Value,∃ bs2:List Nat,e=.returned (.agg #[.slice A0 r.2.1 c0,.slice A1 r.2.2.1 c1,.slice A2 r.2.2.2.1 c2])∧B.Loc w w' [.own (.slice A0 n0 c0) 57 2 n0 (r.1.terms.flatMap Yuz),.own (.slice A1 n1 c1) 60 2 n1 (r.1.syms.flatMap Yvp),.own (.slice A2 n2 c2) 63 2 n2 cs2,Ywj Yxk (w.heap.size) none r.2.2.2.2 cs2 bs2] [St w []]∧Ow w.heap.size A0 n0 c0 r.1.terms∧r.2.1≤n0∧Ow w.heap.size A1 n1 c1 r.1.syms∧r.2.2.1≤n1∧Ow w.heap.size A2 n2 c2 r.2.2.2.2∧r.2.2.2.1≤n2
noncomputable abbrev Zbl (w:World) (F:Nat→Prop) (r:Yu5 × Nat × Nat × Nat × (List (Yuf × Nat))):Cx:=⟨Tryd.prog,9,Tryd.f9,73,Zdi w F  r,w⟩
theorem Zh7 (w:World) (F:Nat→Prop) (x1:Yu5) (A2:Option Addr) (n3:Nat) (c4:Nat) (A6:Option Addr) (n7:Nat) (c8:Nat) (A10:Option Addr) (n11:Nat) (c12:Nat) (h5:Rw Yuj w (St w []).av A2 n3 c4 x1.terms) (h9:Rw Yuq w (St w []).av A6 n7 c8 x1.syms) (h13:Rw Yun w (St w []).av A10 n11 c12 x1.prods) (hF:∀ b,F b→b < w.heap.size∧∀ o ∈ ([]:List (List Nat)),b ∉ o) (hL0:B.Loc w w [] [Sm w.heap.size F w [],St w []]) (r:Yu5 × Nat × Nat × Nat × (List (Yuf × Nat))) (h:Zb2 x1 r):Calls Tryd.prog 9 #[.agg #[.slice A2 n3 c4,.slice A6 n7 c8,.slice A10 n11 c12]] w (Zdi w F  r):=by
 unfold Zb2 at h
 refine Yv5 (vs:=[.agg #[.slice A2 n3 c4,.slice A6 n7 c8,.slice A10 n11 c12]]) 73 Tryd.func9 rfl Tryd.ntmps9 rfl hL0 ?_
 show G (Zbl w F r) _ _ _ _
 refine Yu9 rfl<|Yu4 rfl rfl ?_
 refine Yve 0 rfl (Zas [.slice A2 n3 c4,.slice A6 n7 c8,.slice A10 n11 c12] rfl rfl rfl fun gb14=>?_) gn
 refine Yve 1 rfl (Yye [.slice none 0 0,.slice none 0 0,.slice none 0 0] Zqk rfl fun gb16=>?_) gn
 refine Yua 2 rfl<|Yu9 rfl<|Yu4 rfl rfl<|Yu2 0 rfl (Yyr [.slice A2 n3 c4,.slice A6 n7 c8,.slice A10 n11 c12] 1 Yys rfl rfl rfl rfl) gn rfl ?_
 obtain ⟨r21,hv22,h⟩:=h
 refine Yve 1 rfl (Yvz [.agg #[.slice A2 n3 c4,.slice A6 n7 c8,.slice A10 n11 c12]] rfl Tryd.func13 rfl rfl rfl fun w18 hL19=>?_) gn
 have hp20:=pmI hL19 .n (.c 0 rfl (.c 1 rfl .n)) (by kernel_rfl)
 refine Calls.mono (Zeo w18 (Fl ([]:List Yva)) x1 A2 n3 c4 A6 n7 c8 A10 n11 c12 (Rw.mono h5 (hL19.toSt hp20 (me 1 rfl))) (Rw.mono h9 (hL19.toSt hp20 (me 1 rfl))) (Rw.mono h13 (hL19.toSt hp20 (me 1 rfl))) (hL19.hFl hp20 (Yvm [] rfl)) (hL19.into hp20 _) r21 hv22) ?_
 rintro _ w41 ⟨A23,n24,c25,A28,n29,c30,A33,n34,c35,cs37,bs38,rfl,hM42,h26,h31,h36⟩
 have hL43:=hL19.call hp20 hM42
 refine ⟨_,_,_,rfl,hL43,?_⟩
 refine Zrq (fk:=Zgc) (z':=w.heap.size) (j:=3) hL19.env.size rfl<|w_widen (fk:=Zgc) (z:=w.heap.size) (j:=3) Yxk Zcx (fun _=>rfl) (fun _=>rfl) (fun x d h=>by obtain ⟨A,n,c⟩:=d; simp only at h; subst h; rfl) (fun _=>Nat.le_refl _) rfl rfl rfl ?_
 refine Yve 2 rfl (Yye [.slice none 0 0,.slice none 0 0,.slice none 0 0] Zqk rfl fun gb44=>?_) gn
 refine Yve 3 rfl (Za4 (vs:=[.slice A23 n24 c25,.slice A28 n29 c30,.slice A33 n34 c35]) (cs':=[.slice A23 n24 c25,.slice A28 n29 c30,.slice A33 n34 c35]) (M':=[.box gb44 26 [.slice A23 n24 c25,.slice A28 n29 c30,.slice A33 n34 c35],.own (.slice A23 n24 c25) 57 2 n24 (r21.terms.flatMap Yuz),.own (.slice A28 n29 c30) 60 2 n29 (r21.syms.flatMap Yvp),.own (.slice A33 n34 c35) 63 2 n34 cs37,Ywj Yxk (w.heap.size) none (r21.prods.map Zcx) cs37 bs38,.box gb16 26 [.slice none 0 0,.slice none 0 0,.slice none 0 0],.box gb14 26 [.slice A2 n3 c4,.slice A6 n7 c8,.slice A10 n11 c12]]) 0 sz_26 rfl rfl rfl rfl rfl rfl rfl rfl rfl ?_) gn
 refine Yua 4 rfl<|Yu9 rfl ?_
 obtain ⟨x52,hv53,h⟩:=h
 obtain ⟨hb54,h⟩:=h
 obtain ⟨hb55,h⟩:=h
 have hns:Region.noSelect (Code.ops q9c5)=true:=by kernel_rfl
 refine Zg2 [.box gb44 26 [.slice A23 n24 c25,.slice A28 n29 c30,.slice A33 n34 c35],.own (.slice A28 n29 c30) 60 2 n29 (r21.syms.flatMap Yvp),.own (.slice A33 n34 c35) 63 2 n34 cs37,Ywj Yxk (w.heap.size) none (r21.prods.map Zcx) cs37 bs38,.box gb16 26 [.slice none 0 0,.slice none 0 0,.slice none 0 0],.box gb14 26 [.slice A2 n3 c4,.slice A6 n7 c8,.slice A10 n11 c12]] [Sm w.heap.size F w [],St w []] [11] 12 rfl rfl mix rfl (.cons_cons _ (.cons _ (.cons_cons _ (.cons_cons _ (.cons_cons _ (.cons_cons _ (.cons_cons _ (.slnil)))))))) (Yvm [0,1] rfl)<|wfv 0 rfl (Yub Yw7 rfl) gn hns (by kernel_rfl)<|wfv 1 rfl (Yue 0 Yz4 rfl rfl rfl) gn hns (by kernel_rfl)<|wfv 2 rfl (Zap #[.string (⟨#[109,97,114,107]⟩:ByteArray),.bool false] bd_57 rfl (by kernel_rfl)) gn hns (by kernel_rfl)<|wfv 3 rfl (Zap #[.string (⟨#[109,97,114,107]⟩:ByteArray),.bool false] bd_57 rfl (by kernel_rfl)) gn hns (by kernel_rfl)<|wfv 6 rfl (Yub Yw7 rfl) gn hns (by kernel_rfl)<|wfv 7 rfl (Yue 5 Yz4 rfl rfl rfl) gn hns (by kernel_rfl)<|wfv 8 rfl (Yuo Yze rfl h5.hq) gn hns (by kernel_rfl) ?_
 refine Ywl [4] (by kernel_rfl) rfl ⟨Zdm 4 rfl gn rfl (Zdd (xs:=([(⟨(⟨#[109,97,114,107]⟩:ByteArray),false⟩:Yup),(⟨(⟨#[109,97,114,107]⟩:ByteArray),false⟩:Yup)]:List Yup)) [.string (⟨#[109,97,114,107]⟩:ByteArray),.bool false,.string (⟨#[109,97,114,107]⟩:ByteArray),.bool false] bs_22_2 rfl (by kernel_rfl) rfl rfl rfl rfl fun gb82 h83=>?_),trivial⟩
 refine ⟨Yvm [1,3,4,5,6,7] rfl,Yvm [0,1] rfl,?_⟩
 refine Ywl [5] (by kernel_rfl) rfl ⟨Zdm 5 rfl gn rfl (Zdj (zs:=x52) (cells':=x52.flatMap Yuz) 2 ap_22 rfl rfl rfl (Ow.weak hL19.env.size h26) (Nat.le_refl _) (Src.ownF (hl:=Zaz) (h1:=Zb1) 0 rfl h83) (by rw [hv53,List.flatMap_append] <;> rfl) (Yzh hv53 h83.hq) hb54 rfl rfl fun A87 c88 h89=>?_),trivial⟩
 refine ⟨Yvm [1,3,4,5,6,7] rfl,Yvm [0,1] rfl,?_⟩
 have hle90:((x1.terms.length:Int):Int).toNat≤n24 + 2:=by have q:=hb55; have q1:=h89.hq; omega
 refine wfv 9 rfl (Zf5 (i:=(x1.terms.length:Int)) Zls rfl rfl (by have q:=hb55; have q1:=h89.hq; have q2:=h89.hn; omega) h89.hn rfl) gn hns (by kernel_rfl)<|wfv 10 rfl (Yub Yw7 rfl) gn hns (by kernel_rfl) ?_
 refine Ywl [11] (by kernel_rfl) rfl ⟨Zi7 11 rfl gn rfl (Za4 (vs:=[.slice A87 (((x1.terms.length:Int):Int).toNat) c88]) (cs':=[.slice A87 (((x1.terms.length:Int):Int).toNat) c88,.slice A28 n29 c30,.slice A33 n34 c35]) (M':=[.own (.slice (some ⟨gb82,0,none⟩) 2 2) 57 2 2 (([(⟨(⟨#[109,97,114,107]⟩:ByteArray),false⟩:Yup),(⟨(⟨#[109,97,114,107]⟩:ByteArray),false⟩:Yup)]:List Yup).flatMap Yuz),.box gb44 26 [.slice A87 (((x1.terms.length:Int):Int).toNat) c88,.slice A28 n29 c30,.slice A33 n34 c35],.own (.slice A87 (n24 + 2) c88) 57 2 (n24 + 2) (x52.flatMap Yuz),.own (.slice A28 n29 c30) 60 2 n29 (r21.syms.flatMap Yvp),.own (.slice A33 n34 c35) 63 2 n34 cs37,Ywj Yxk (w.heap.size) none (r21.prods.map Zcx) cs37 bs38,.box gb16 26 [.slice none 0 0,.slice none 0 0,.slice none 0 0],.box gb14 26 [.slice A2 n3 c4,.slice A6 n7 c8,.slice A10 n11 c12]]) 1 sz_22 rfl rfl rfl rfl rfl rfl rfl rfl rfl ?_),trivial⟩
 unfold NxL
 refine Yvx (by kernel_rfl)<|Yu9 rfl ?_
 obtain ⟨x97,hv98,h⟩:=h
 obtain ⟨hb99,h⟩:=h
 obtain ⟨hb100,h⟩:=h
 have hns:Region.noSelect (Code.ops q9c7)=true:=by kernel_rfl
 refine Zg2 [.own (.slice (some ⟨gb82,0,none⟩) 2 2) 57 2 2 (([(⟨(⟨#[109,97,114,107]⟩:ByteArray),false⟩:Yup),(⟨(⟨#[109,97,114,107]⟩:ByteArray),false⟩:Yup)]:List Yup).flatMap Yuz),.box gb44 26 [.slice A87 (((x1.terms.length:Int):Int).toNat) c88,.slice A28 n29 c30,.slice A33 n34 c35],.own (.slice A87 (n24 + 2) c88) 57 2 (n24 + 2) (x52.flatMap Yuz),.own (.slice A33 n34 c35) 63 2 n34 cs37,Ywj Yxk (w.heap.size) none (r21.prods.map Zcx) cs37 bs38,.box gb16 26 [.slice none 0 0,.slice none 0 0,.slice none 0 0],.box gb14 26 [.slice A2 n3 c4,.slice A6 n7 c8,.slice A10 n11 c12]] [Sm w.heap.size F w [],St w []] [11] 12 rfl rfl mix rfl (.cons_cons _ (.cons_cons _ (.cons_cons _ (.cons _ (.cons_cons _ (.cons_cons _ (.cons_cons _ (.cons_cons _ (.slnil))))))))) (Yvm [0,1] rfl)<|wfv 0 rfl (Yub Yxd rfl) gn hns (by kernel_rfl)<|wfv 1 rfl (Yue 1 Zak rfl rfl rfl) gn hns (by kernel_rfl)<|wfv 2 rfl (Zap #[.string (⟨#[109,97,114,107]⟩:ByteArray),.int .i64 0] bd_60 rfl (by kernel_rfl)) gn hns (by kernel_rfl)<|wfv 3 rfl (Zap #[.string (⟨#[109,97,114,107]⟩:ByteArray),.int .i64 0] bd_60 rfl (by kernel_rfl)) gn hns (by kernel_rfl)<|wfv 6 rfl (Yub Yxd rfl) gn hns (by kernel_rfl)<|wfv 7 rfl (Yue 6 Zak rfl rfl rfl) gn hns (by kernel_rfl)<|wfv 8 rfl (Yuo Zbm rfl h9.hq) gn hns (by kernel_rfl) ?_
 refine Ywl [4] (by kernel_rfl) rfl ⟨Zdm 4 rfl gn rfl (Zdd (xs:=([(⟨(⟨#[109,97,114,107]⟩:ByteArray),0⟩:Yvn),(⟨(⟨#[109,97,114,107]⟩:ByteArray),0⟩:Yvn)]:List Yvn)) [.string (⟨#[109,97,114,107]⟩:ByteArray),.int .i64 0,.string (⟨#[109,97,114,107]⟩:ByteArray),.int .i64 0] bs_23_2 rfl (by kernel_rfl) rfl rfl rfl rfl fun gb127 h128=>?_),trivial⟩
 refine ⟨Yvm [1,2,3,5,6,7,8] rfl,Yvm [0,1] rfl,?_⟩
 refine Ywl [5] (by kernel_rfl) rfl ⟨Zdm 5 rfl gn rfl (Zdj (zs:=x97) (cells':=x97.flatMap Yvp) 4 ap_23 rfl rfl rfl (Ow.weak hL19.env.size h31) (Nat.le_refl _) (Src.ownF (hl:=Zeh) (h1:=Zef) 0 rfl h128) (by rw [hv98,List.flatMap_append] <;> rfl) (Yzh hv98 h128.hq) hb99 rfl rfl fun A132 c133 h134=>?_),trivial⟩
 refine ⟨Yvm [1,2,3,5,6,7,8] rfl,Yvm [0,1] rfl,?_⟩
 have hle135:((x1.syms.length:Int):Int).toNat≤n29 + 2:=by have q:=hb100; have q1:=h134.hq; omega
 refine wfv 9 rfl (Zf5 (i:=(x1.syms.length:Int)) Zlk rfl rfl (by have q:=hb100; have q1:=h134.hq; have q2:=h134.hn; omega) h134.hn rfl) gn hns (by kernel_rfl)<|wfv 10 rfl (Yub Yxd rfl) gn hns (by kernel_rfl) ?_
 refine Ywl [11] (by kernel_rfl) rfl ⟨Zi7 11 rfl gn rfl (Za4 (vs:=[.slice A132 (((x1.syms.length:Int):Int).toNat) c133]) (cs':=[.slice A87 (((x1.terms.length:Int):Int).toNat) c88,.slice A132 (((x1.syms.length:Int):Int).toNat) c133,.slice A33 n34 c35]) (M':=[.own (.slice (some ⟨gb127,0,none⟩) 2 2) 60 2 2 (([(⟨(⟨#[109,97,114,107]⟩:ByteArray),0⟩:Yvn),(⟨(⟨#[109,97,114,107]⟩:ByteArray),0⟩:Yvn)]:List Yvn).flatMap Yvp),.own (.slice (some ⟨gb82,0,none⟩) 2 2) 57 2 2 (([(⟨(⟨#[109,97,114,107]⟩:ByteArray),false⟩:Yup),(⟨(⟨#[109,97,114,107]⟩:ByteArray),false⟩:Yup)]:List Yup).flatMap Yuz),.box gb44 26 [.slice A87 (((x1.terms.length:Int):Int).toNat) c88,.slice A132 (((x1.syms.length:Int):Int).toNat) c133,.slice A33 n34 c35],.own (.slice A87 (n24 + 2) c88) 57 2 (n24 + 2) (x52.flatMap Yuz),.own (.slice A132 (n29 + 2) c133) 60 2 (n29 + 2) (x97.flatMap Yvp),.own (.slice A33 n34 c35) 63 2 n34 cs37,Ywj Yxk (w.heap.size) none (r21.prods.map Zcx) cs37 bs38,.box gb16 26 [.slice none 0 0,.slice none 0 0,.slice none 0 0],.box gb14 26 [.slice A2 n3 c4,.slice A6 n7 c8,.slice A10 n11 c12]]) 2 sz_23 rfl rfl rfl rfl rfl rfl rfl rfl rfl ?_),trivial⟩
 unfold NxL
 refine Yvx (by kernel_rfl)<|Yu9 rfl ?_
 obtain ⟨x144,hv145,h⟩:=h
 obtain ⟨hb146,h⟩:=h
 obtain ⟨hb149,h⟩:=h
 have hns:Region.noSelect (Code.ops q9c9)=true:=by kernel_rfl
 refine Zg2 [.own (.slice (some ⟨gb127,0,none⟩) 2 2) 60 2 2 (([(⟨(⟨#[109,97,114,107]⟩:ByteArray),0⟩:Yvn),(⟨(⟨#[109,97,114,107]⟩:ByteArray),0⟩:Yvn)]:List Yvn).flatMap Yvp),.own (.slice (some ⟨gb82,0,none⟩) 2 2) 57 2 2 (([(⟨(⟨#[109,97,114,107]⟩:ByteArray),false⟩:Yup),(⟨(⟨#[109,97,114,107]⟩:ByteArray),false⟩:Yup)]:List Yup).flatMap Yuz),.box gb44 26 [.slice A87 (((x1.terms.length:Int):Int).toNat) c88,.slice A132 (((x1.syms.length:Int):Int).toNat) c133,.slice A33 n34 c35],.own (.slice A87 (n24 + 2) c88) 57 2 (n24 + 2) (x52.flatMap Yuz),.own (.slice A132 (n29 + 2) c133) 60 2 (n29 + 2) (x97.flatMap Yvp),.box gb16 26 [.slice none 0 0,.slice none 0 0,.slice none 0 0],.box gb14 26 [.slice A2 n3 c4,.slice A6 n7 c8,.slice A10 n11 c12]] [Sm w.heap.size F w [],St w []] [11] 12 rfl rfl mix rfl (.cons_cons _ (.cons_cons _ (.cons_cons _ (.cons_cons _ (.cons_cons _ (.cons _ (.cons _ (.cons_cons _ (.cons_cons _ (.slnil)))))))))) (Yvm [0,1] rfl)<|wfv 0 rfl (Yub Yvf rfl) gn hns (by kernel_rfl)<|wfv 1 rfl (Yue 2 Ywb rfl rfl rfl) gn hns (by kernel_rfl)<|wfv 2 rfl (Zap #[.int .i64 (-71),.slice none 0 0] bd_63 rfl (by kernel_rfl)) gn hns (by kernel_rfl)<|wfv 3 rfl (Zap #[.int .i64 (-72),.slice none 0 0] bd_63 rfl (by kernel_rfl)) gn hns (by kernel_rfl)<|wfv 6 rfl (Yub Yvf rfl) gn hns (by kernel_rfl)<|wfv 7 rfl (Yue 6 Ywb rfl rfl rfl) gn hns (by kernel_rfl)<|wfv 8 rfl (Yuo Za3 rfl h13.hq) gn hns (by kernel_rfl)<|Zs4 (z:=w.heap.size) Yxk ([((⟨-71,([]:List Yut)⟩:Yuf),0),((⟨-72,([]:List Yut)⟩:Yuf),0)]:List (Yuf × Nat)) [.int .i64 (-71),.slice none 0 0,.int .i64 (-72),.slice none 0 0] (by intro x hx; simp only [List.mem_cons,List.not_mem_nil,or_false] at hx; rcases hx with rfl | rfl <;> exact ⟨rfl,Nat.le_refl _⟩) rfl ?_
 refine Ywl [4] (by kernel_rfl) rfl ⟨Zdm 4 rfl gn rfl (Zdd (xs:=([((⟨-71,([]:List Yut)⟩:Yuf),0),((⟨-72,([]:List Yut)⟩:Yuf),0)]:List (Yuf × Nat))) [.int .i64 (-71),.slice none 0 0,.int .i64 (-72),.slice none 0 0] bs_24_2 rfl (by kernel_rfl) rfl rfl rfl rfl fun gb182 h183=>?_),trivial⟩
 refine ⟨Yvm [2,3,4,5,6,9,10] rfl,Yvm [0,1] rfl,?_⟩
 obtain ⟨cs194,hc195⟩:∃ x:List Value,x=cs37++[.int .i64 (-71),.slice none 0 0,.int .i64 (-72),.slice none 0 0]:=⟨_,rfl⟩
 refine Ywl [5] (by kernel_rfl) rfl ⟨Zdm 5 rfl gn rfl (Zdj (zs:=x144) 7 ap_24 rfl rfl rfl (Ow.w (Ow.weak hL19.env.size h36) (List.length_map _)) (Nat.le_refl _) (Src.raw 0 rfl h183 rfl rfl) hc195.symm (Yzh hv145 h183.hq) hb146 rfl rfl fun A190 c191 h192=>?_),trivial⟩
 refine ⟨Yvm [2,3,4,5,6,9,10] rfl,Yvm [0,1] rfl,?_⟩
 refine Zti (fk:=Yxk) (z:=w.heap.size) (j1:=1) (j:=8) (by decide) rfl rfl hv145 hc195 fun bs193=>?_
 have hle196:((x1.prods.length:Int):Int).toNat≤n34 + 2:=by have q:=hb149; have q1:=h192.hq; omega
 refine wfv 9 rfl (Zf5 (i:=(x1.prods.length:Int)) Yxh rfl rfl (by have q:=hb149; have q1:=h192.hq; have q2:=h192.hn; omega) h192.hn rfl) gn hns (by kernel_rfl)<|wfv 10 rfl (Yub Yvf rfl) gn hns (by kernel_rfl) ?_
 refine Ywl [11] (by kernel_rfl) rfl ⟨Zi7 11 rfl gn rfl (Za4 (vs:=[.slice A190 (((x1.prods.length:Int):Int).toNat) c191]) (cs':=[.slice A87 (((x1.terms.length:Int):Int).toNat) c88,.slice A132 (((x1.syms.length:Int):Int).toNat) c133,.slice A190 (((x1.prods.length:Int):Int).toNat) c191]) (M':=[.own (.slice (some ⟨gb182,0,none⟩) 2 2) 63 2 2 [.int .i64 (-71),.slice none 0 0,.int .i64 (-72),.slice none 0 0],.own (.slice (some ⟨gb127,0,none⟩) 2 2) 60 2 2 (([(⟨(⟨#[109,97,114,107]⟩:ByteArray),0⟩:Yvn),(⟨(⟨#[109,97,114,107]⟩:ByteArray),0⟩:Yvn)]:List Yvn).flatMap Yvp),.own (.slice (some ⟨gb82,0,none⟩) 2 2) 57 2 2 (([(⟨(⟨#[109,97,114,107]⟩:ByteArray),false⟩:Yup),(⟨(⟨#[109,97,114,107]⟩:ByteArray),false⟩:Yup)]:List Yup).flatMap Yuz),.box gb44 26 [.slice A87 (((x1.terms.length:Int):Int).toNat) c88,.slice A132 (((x1.syms.length:Int):Int).toNat) c133,.slice A190 (((x1.prods.length:Int):Int).toNat) c191],.own (.slice A87 (n24 + 2) c88) 57 2 (n24 + 2) (x52.flatMap Yuz),.own (.slice A132 (n29 + 2) c133) 60 2 (n29 + 2) (x97.flatMap Yvp),.own (.slice A190 (n34 + 2) c191) 63 2 (n34 + 2) cs194,Ywj Yxk (w.heap.size) none x144 cs194 bs193,.box gb16 26 [.slice none 0 0,.slice none 0 0,.slice none 0 0],.box gb14 26 [.slice A2 n3 c4,.slice A6 n7 c8,.slice A10 n11 c12]]) 3 sz_24 rfl rfl rfl rfl rfl rfl rfl rfl rfl ?_),trivial⟩
 unfold NxL
 refine Yvx (by kernel_rfl)<|Yu9 rfl<|Yu9 rfl<|Yu4 rfl rfl<|Yu2 0 rfl (Yu7 rfl) gn rfl<|Yua 1 rfl<|Yuw rfl<|Ywm rfl ?_
 have key1:∀ s,Yui (fun (s:Int × (List (Yuf × Nat))) o=>Yx1 x1 x52 x97 s.1 s.2 o) s r→(fun (s:Int × (List (Yuf × Nat)))=>∀ (hl198:((x1.terms.length:Int):Int).toNat≤n24 + 2) (hl199:((x1.syms.length:Int):Int).toNat≤n29 + 2) (bs316:List Nat) (A317:Option Addr) (n318:Nat) (c319:Nat) (cs320:List Value) (h321:Ow w.heap.size A317 n318 c319 s.2) (hl200:((x1.prods.length:Int):Int).toNat≤n318),G (Zbl w F r) [.code Znd,.inLoop Znd,.inBlock 0,.code q9c12] [(2,.pointer (some ⟨gb16,0,none⟩)),(3,.pointer (some ⟨gb44,0,none⟩)),(4,.int .i64 s.1)] [Ywj Yxk (w.heap.size) none s.2 cs320 bs316,.box gb44 26 [.slice A87 (((x1.terms.length:Int):Int).toNat) c88,.slice A132 (((x1.syms.length:Int):Int).toNat) c133,.slice A317 (((x1.prods.length:Int):Int).toNat) c319],.own (.slice A87 (n24 + 2) c88) 57 2 (n24 + 2) (x52.flatMap Yuz),.own (.slice A132 (n29 + 2) c133) 60 2 (n29 + 2) (x97.flatMap Yvp),.own (.slice A317 n318 c319) 63 2 n318 cs320,.box gb16 26 [.slice none 0 0,.slice none 0 0,.slice none 0 0]] [Sm w.heap.size F w [],St w []]) s:=by
  intro s hs
  refine Yui.ind (mot:=(fun (s:Int × (List (Yuf × Nat)))=>∀ (hl198:((x1.terms.length:Int):Int).toNat≤n24 + 2) (hl199:((x1.syms.length:Int):Int).toNat≤n29 + 2) (bs316:List Nat) (A317:Option Addr) (n318:Nat) (c319:Nat) (cs320:List Value) (h321:Ow w.heap.size A317 n318 c319 s.2) (hl200:((x1.prods.length:Int):Int).toNat≤n318),G (Zbl w F r) [.code Znd,.inLoop Znd,.inBlock 0,.code q9c12] [(2,.pointer (some ⟨gb16,0,none⟩)),(3,.pointer (some ⟨gb44,0,none⟩)),(4,.int .i64 s.1)] [Ywj Yxk (w.heap.size) none s.2 cs320 bs316,.box gb44 26 [.slice A87 (((x1.terms.length:Int):Int).toNat) c88,.slice A132 (((x1.syms.length:Int):Int).toNat) c133,.slice A317 (((x1.prods.length:Int):Int).toNat) c319],.own (.slice A87 (n24 + 2) c88) 57 2 (n24 + 2) (x52.flatMap Yuz),.own (.slice A132 (n29 + 2) c133) 60 2 (n29 + 2) (x97.flatMap Yvp),.own (.slice A317 n318 c319) 63 2 n318 cs320,.box gb16 26 [.slice none 0 0,.slice none 0 0,.slice none 0 0]] [Sm w.heap.size F w [],St w []])) ?_ hs
  clear hs s
  intro s o1 h hO1
  obtain ⟨x314,x315⟩:=s
  show ∀ (hl198:((x1.terms.length:Int):Int).toNat≤n24 + 2) (hl199:((x1.syms.length:Int):Int).toNat≤n29 + 2) (bs316:List Nat) (A317:Option Addr) (n318:Nat) (c319:Nat) (cs320:List Value) (h321:Ow w.heap.size A317 n318 c319 x315) (hl200:((x1.prods.length:Int):Int).toNat≤n318),G (Zbl w F r) [.code Znd,.inLoop Znd,.inBlock 0,.code q9c12] [(2,.pointer (some ⟨gb16,0,none⟩)),(3,.pointer (some ⟨gb44,0,none⟩)),(4,.int .i64 x314)] [Ywj Yxk (w.heap.size) none x315 cs320 bs316,.box gb44 26 [.slice A87 (((x1.terms.length:Int):Int).toNat) c88,.slice A132 (((x1.syms.length:Int):Int).toNat) c133,.slice A317 (((x1.prods.length:Int):Int).toNat) c319],.own (.slice A87 (n24 + 2) c88) 57 2 (n24 + 2) (x52.flatMap Yuz),.own (.slice A132 (n29 + 2) c133) 60 2 (n29 + 2) (x97.flatMap Yvp),.own (.slice A317 n318 c319) 63 2 n318 cs320,.box gb16 26 [.slice none 0 0,.slice none 0 0,.slice none 0 0]] [Sm w.heap.size F w [],St w []]
  intro hl198 hl199 bs316 A317 n318 c319 cs320 h321 hl200
  have h:Yx1 x1 x52 x97 x314 x315 o1:=h
  unfold Yx1 at h
  refine Yu9 rfl<|Yu9 rfl<|Yu4 rfl rfl<|Yu2 0 rfl (Yu3 rfl) gn rfl<|Yu2 1 rfl (Yub Yvf rfl) gn rfl<|Yu2 2 rfl (Yue 1 Ywb rfl rfl rfl) gn rfl<|Yu2 3 rfl (Yuo Za3 rfl (Ow.cut h321 hl200).hq) gn rfl<|Yu2 4 rfl (Yug rfl rfl rfl) gn rfl<|Yua 5 rfl ?_
  by_cases hp435:x314 < ((x315.take (((x1.prods.length:Int):Int).toNat)).length:Int)
  ·have h:=Yul hp435 h
   refine Yv4 rfl _ rfl ((decide_eq_true hp435))<|Yv2 rfl<|Yu9 rfl<|Yuw rfl<|Yu9 rfl<|Yu4 rfl rfl<|Yu2 0 rfl (Yub Yvf rfl) gn rfl<|Yu2 1 rfl (Yue 1 Ywb rfl rfl rfl) gn rfl<|Yu2 2 rfl (Yu3 rfl) gn rfl ?_
   obtain ⟨hb436,h⟩:=h
   have hb437:0≤x314∧x314 < (x315.length:Int):=by have q:=hb436; have q2:=List.length_take_le' (((x1.prods.length:Int):Int).toNat) x315; omega
   refine Zlc (fk:=Yxk) (z:=w.heap.size) (j:=0) rfl hb437 fun A438 n439 c440 h441 ht442 hg443=>?_
   have hle444:(ix x315 x314).2≤n439:=Nat.le_trans (show (ix x315 x314).2≤(((ix x315 x314).1).rhs).length from ht442.2.2) (Nat.le_of_eq h441.hq.symm)
   refine Yu2 3 rfl (Yyn Yxh rfl rfl (Ow.cut h321 hl200) hb436) gn rfl<|Yu2 4 rfl (Yvo Yw1 rfl) gn rfl<|Yu2 5 rfl (Zbb (.slice A438 ((ix x315 x314).2) c440) 4 Yyc rfl rfl (hg443 1 _ rfl)) gn rfl<|Yu2 6 rfl (Yuo Za5 rfl (Ow.cut h441 hle444).hq) gn rfl<|Yu2 7 rfl (Yu7 rfl) gn rfl<|Yua 8 rfl ?_
   obtain ⟨hb458,h⟩:=h
   obtain ⟨x462,hv463,h⟩:=h
   obtain ⟨hb464,h⟩:=h
   obtain ⟨hb465,h⟩:=h
   obtain ⟨x475,hv476,h⟩:=h
   have hns:Region.noSelect (Code.ops q9c27)=true:=by kernel_rfl
   refine Zg2 [.box gb44 26 [.slice A87 (((x1.terms.length:Int):Int).toNat) c88,.slice A132 (((x1.syms.length:Int):Int).toNat) c133,.slice A317 (((x1.prods.length:Int):Int).toNat) c319],.own (.slice A87 (n24 + 2) c88) 57 2 (n24 + 2) (x52.flatMap Yuz),.own (.slice A132 (n29 + 2) c133) 60 2 (n29 + 2) (x97.flatMap Yvp),.own (.slice A317 n318 c319) 63 2 n318 cs320,.box gb16 26 [.slice none 0 0,.slice none 0 0,.slice none 0 0]] [Sm w.heap.size F w [],St w []] [17] 18 rfl rfl mix rfl (.cons _ (.cons_cons _ (.cons_cons _ (.cons_cons _ (.cons_cons _ (.cons_cons _ (.slnil))))))) (Yvm [0,1] rfl)<|wfv 0 rfl (Yub Yvf rfl) gn hns (by kernel_rfl)<|wfv 1 rfl (Yue 0 Ywb rfl rfl rfl) gn hns (by kernel_rfl)<|wfv 2 rfl (Yu3 rfl) gn hns (by kernel_rfl)<|wfv 3 rfl (Yub Yvf rfl) gn hns (by kernel_rfl)<|wfv 4 rfl (Yue 0 Ywb rfl rfl rfl) gn hns (by kernel_rfl)<|wfv 5 rfl (Yu3 rfl) gn hns (by kernel_rfl) ?_
   have hb514:0≤x314∧x314 < (x315.length:Int):=by have q:=hb436; have q2:=List.length_take_le' (((x1.prods.length:Int):Int).toNat) x315; omega
   refine Zjb (fk:=Yxk) (z:=w.heap.size) (j:=0) rfl hb514 fun A515 n516 c517 h518 ht519 hg520=>?_
   have hle521:(ix x315 x314).2≤n516:=Nat.le_trans (show (ix x315 x314).2≤(((ix x315 x314).1).rhs).length from ht519.2.2) (Nat.le_of_eq h518.hq.symm)
   refine wfv 6 rfl (Yyn Yxh rfl rfl (Ow.cut h321 hl200) hb436) gn hns (by kernel_rfl)<|wfv 7 rfl (Yvo Yw1 rfl) gn hns (by kernel_rfl)<|wfv 8 rfl (Zbb (.slice A515 ((ix x315 x314).2) c517) 3 Yyc rfl rfl (hg520 1 _ rfl)) gn hns (by kernel_rfl)<|wfv 9 rfl (Zap #[.int .i64 (-73),.string (⟨#[]⟩:ByteArray),.string (⟨#[]⟩:ByteArray)] bd_65 rfl (by kernel_rfl)) gn hns (by kernel_rfl)<|wfv 10 rfl (Zap #[.int .i64 (-74),.string (⟨#[]⟩:ByteArray),.string (⟨#[]⟩:ByteArray)] bd_65 rfl (by kernel_rfl)) gn hns (by kernel_rfl)<|wfv 13 rfl (Yu3 rfl) gn hns (by kernel_rfl) ?_
   refine Ywl [11] (by kernel_rfl) rfl ⟨Zdm 11 rfl gn rfl (Zdd (xs:=([(⟨-73,(⟨#[]⟩:ByteArray),(⟨#[]⟩:ByteArray)⟩:Yut),(⟨-74,(⟨#[]⟩:ByteArray),(⟨#[]⟩:ByteArray)⟩:Yut)]:List Yut)) [.int .i64 (-73),.string (⟨#[]⟩:ByteArray),.string (⟨#[]⟩:ByteArray),.int .i64 (-74),.string (⟨#[]⟩:ByteArray),.string (⟨#[]⟩:ByteArray)] bs_61_2 rfl (by kernel_rfl) rfl rfl rfl rfl fun gb526 h527=>?_),trivial⟩
   refine ⟨Yvm [2,3,4,5,6] rfl,Yvm [0,1] rfl,?_⟩
   refine wf_takeV (fk:=Yxk) (z:=w.heap.size) (j:=1) rfl hb514 ht519 hb458 fun bs532=>?_
   refine Ywl [12] (by kernel_rfl) rfl ⟨Zdm 12 rfl gn rfl (Zdj (zs:=x462) (cells':=x462.flatMap Yy6) 0 ap_61 rfl rfl rfl (Ow.atn h518 hb458) (Nat.le_refl _) (Src.ownF (hl:=Yvw) (h1:=Yvy) 1 rfl h527) (by rw [hv463,List.flatMap_append] <;> rfl) (Yzh hv463 h527.hq) hb464 rfl rfl fun A533 c534 h535=>?_),trivial⟩
   refine ⟨Yvm [3,4,5,6,7] rfl,Yvm [0,1] rfl,?_⟩
   have hle536:((((((ix x315 x314).1).rhs).take ((ix x315 x314).2)).length:Int):Int).toNat≤((ix x315 x314).2) + 2:=by have q:=hb465; have q1:=h535.hq; omega
   refine wfv 14 rfl (Zf5 (i:=(((((ix x315 x314).1).rhs).take ((ix x315 x314).2)).length:Int)) Yz5 rfl rfl (by have q:=hb465; have q1:=h535.hq; have q2:=h535.hn; omega) h535.hn rfl) gn hns (by kernel_rfl) ?_
   have hb537:0≤x314∧x314 < (x315.length:Int):=by have q:=hb436; have q2:=List.length_take_le' (((x1.prods.length:Int):Int).toNat) x315; omega
   refine Zjb (fk:=Yxk) (z:=w.heap.size) (j:=2) rfl hb537 fun A538 n539 c540 h541 ht542 hg543=>?_
   have hle544:(ix x315 x314).2≤n539:=Nat.le_trans (show (ix x315 x314).2≤(((ix x315 x314).1).rhs).length from ht542.2.2) (Nat.le_of_eq h541.hq.symm)
   refine wfv 15 rfl (Yyn Yxh rfl rfl (Ow.cut h321 hl200) hb436) gn hns (by kernel_rfl)<|wfv 16 rfl (Yvo Yw1 rfl) gn hns (by kernel_rfl) ?_
   refine Ywl [17] (by kernel_rfl) rfl ⟨Zi7 17 rfl gn rfl (Zpf (fk:=Yxk) (z:=w.heap.size) (off:=1) (vs:=[.slice A533 (((((((ix x315 x314).1).rhs).take ((ix x315 x314).2)).length:Int):Int).toNat) c534]) (A1:=A538) (n1:=n539) (c1:=c540) (q:=x314) 6 2 0 rfl rfl rfl sz_61 rfl rfl rfl h321 rfl (.inr rfl) rfl hb537 ({ ((ix x315 x314).1) with rhs:=x462 },((((((ix x315 x314).1).rhs).take ((ix x315 x314).2)).length:Int):Int).toNat) h535 rfl rfl rfl rfl ht542 rfl (by show ((((((ix x315 x314).1).rhs).take ((ix x315 x314).2)).length:Int):Int).toNat≤x462.length; rw [← h535.hq]; exact hle536) rfl hv476 fun cs545 bs546 h547=>?_),trivial⟩
   unfold NxL
   refine Yvx (by kernel_rfl)<|Yux<|Yu4 rfl rfl<|Yu2 0 rfl (Yu3 rfl) gn rfl<|Yu2 1 rfl (Yug rfl rfl rfl) gn rfl<|Yu2 2 rfl (Yu7 rfl) gn rfl<|Yua 3 rfl<|Yv1 ?_
   have ih:=Out.inl hO1 h
   exact Yvh [0,1] (ih hl198 hl199 bs546 A317 n318 c319 cs545 h547 hl200) ⟨rfl,rfl,rfl,trivial⟩ (.cons _ (.cons_cons _ (.cons_cons _ (.cons_cons _ (.cons_cons _ (.cons_cons _ (.cons_cons _ (.slnil)))))))) rfl
  ·have h:=Yum hp435 h
   refine Yur rfl _ rfl ((decide_eq_false hp435))<|Ywa [.code q9c12] rfl rfl<|Yu9 rfl<|Yu4 rfl rfl<|Yu2 0 rfl (Yyr [.slice A87 (((x1.terms.length:Int):Int).toNat) c88,.slice A132 (((x1.syms.length:Int):Int).toNat) c133,.slice A317 (((x1.prods.length:Int):Int).toNat) c319] 1 Yys rfl rfl rfl rfl) gn rfl ?_
   refine Yve 1 rfl (Za4 (vs:=[.slice A87 (((x1.terms.length:Int):Int).toNat) c88,.slice A132 (((x1.syms.length:Int):Int).toNat) c133,.slice A317 (((x1.prods.length:Int):Int).toNat) c319]) (cs':=[.slice A87 (((x1.terms.length:Int):Int).toNat) c88,.slice A132 (((x1.syms.length:Int):Int).toNat) c133,.slice A317 (((x1.prods.length:Int):Int).toNat) c319]) (M':=[Ywj Yxk (w.heap.size) none x315 cs320 bs316,.box gb44 26 [.slice A87 (((x1.terms.length:Int):Int).toNat) c88,.slice A132 (((x1.syms.length:Int):Int).toNat) c133,.slice A317 (((x1.prods.length:Int):Int).toNat) c319],.own (.slice A87 (n24 + 2) c88) 57 2 (n24 + 2) (x52.flatMap Yuz),.own (.slice A132 (n29 + 2) c133) 60 2 (n29 + 2) (x97.flatMap Yvp),.own (.slice A317 n318 c319) 63 2 n318 cs320,.box gb16 26 [.slice A87 (((x1.terms.length:Int):Int).toNat) c88,.slice A132 (((x1.syms.length:Int):Int).toNat) c133,.slice A317 (((x1.prods.length:Int):Int).toNat) c319]]) 5 sz_26 rfl rfl rfl rfl rfl rfl rfl rfl rfl ?_) gn
   refine Yua 2 rfl ?_
   have h:=Out.inr hO1 h
   refine Yvb [.agg #[.slice A87 (((x1.terms.length:Int):Int).toNat) c88,.slice A132 (((x1.syms.length:Int):Int).toNat) c133,.slice A317 (((x1.prods.length:Int):Int).toNat) c319]] rfl Tryd.func9 rfl (.cell (cs:=[.slice A87 (((x1.terms.length:Int):Int).toNat) c88,.slice A132 (((x1.syms.length:Int):Int).toNat) c133,.slice A317 (((x1.prods.length:Int):Int).toNat) c319]) (us:=[.slice A87 (((x1.terms.length:Int):Int).toNat) c88,.slice A132 (((x1.syms.length:Int):Int).toNat) c133,.slice A317 (((x1.prods.length:Int):Int).toNat) c319]) 5 rfl Yys rfl rfl rfl (.nil)) fun wr hLr=>?_
   have hMr:=hLr.pkI (.c 2 rfl (.c 3 rfl (.c 4 rfl (.c 0 rfl .n)))) (.c 1 rfl (.c 5 rfl .n)) (by kernel_rfl) (.c 1 rfl .n)
   show Zdi w F  r (.returned (Yvl [.agg #[.slice A87 (((x1.terms.length:Int):Int).toNat) c88,.slice A132 (((x1.syms.length:Int):Int).toNat) c133,.slice A317 (((x1.prods.length:Int):Int).toNat) c319]])) wr
   rw [h]
   exact ⟨A87,n24 + 2,c88,A132,n29 + 2,c133,A317,n318,c319,cs320,bs316,rfl,hMr,h89,hl198,h134,hl199,h321,hl200⟩
 refine Yvc 8 rfl<|Yvc 7 rfl<|Yvc 7 rfl<|Yvc 7 rfl<|Yvc 7 rfl<|Yvc 8 rfl ?_
 exact Yvh [0,1] (key1 _ h hle90 hle135 bs193 A190 (n34 + 2) c191 cs194 h192 hle196) ⟨rfl,rfl,rfl,trivial⟩ (.cons_cons _ (.cons_cons _ (.cons_cons _ (.cons_cons _ (.cons_cons _ (.cons_cons _ (.cons _ (.cons _ (.cons _ (.cons _ (.slnil))))))))))) rfl
abbrev Zcw (w:World) (F:Nat→Prop) (r:List Yud):Ending→World→Prop:=fun e w'=>∃ A0:Option Addr,∃ n0:Nat,∃ c0:Nat,e=.returned (.slice A0 n0 c0)∧B.Loc w w' [.own (.slice A0 n0 c0) 31 3 n0 (r.flatMap Yv0)] [St w []]∧Ow w.heap.size A0 n0 c0 r
noncomputable abbrev Zik (w:World) (F:Nat→Prop) (r:List Yud):Cx:=⟨Tryd.prog,10,Tryd.f10,7,Zcw w F  r,w⟩
theorem Zgt (w:World) (F:Nat→Prop) (x1:List Yud) (A2:Option Addr) (n3:Nat) (c4:Nat) (h5:Rw Yxu w (St w []).av A2 n3 c4 x1) (hF:∀ b,F b→b < w.heap.size∧∀ o ∈ ([]:List (List Nat)),b ∉ o) (hL0:B.Loc w w [] [Sm w.heap.size F w [],St w []]) (r:List Yud) (h:Zbv x1 r):Calls Tryd.prog 10 #[.slice A2 n3 c4] w (Zcw w F  r):=by
 unfold Zbv at h
 refine Yv5 (vs:=[.slice A2 n3 c4]) 7 Tryd.func10 rfl Tryd.ntmps10 rfl hL0 ?_
 show G (Zik w F r) _ _ _ _
 refine Yu9 rfl<|Yu4 rfl rfl<|Yu2 0 rfl (Yu7 rfl) gn rfl<|Yua 1 rfl<|Yu9 rfl<|Yu4 rfl rfl<|Yu2 0 rfl (Yu7 rfl) gn rfl<|Yua 1 rfl<|Yu9 rfl<|Yu4 rfl rfl<|Yu2 0 rfl (Yu3 rfl) gn rfl<|Yu2 1 rfl (Yu3 rfl) gn rfl ?_
 obtain ⟨x10,hv11,h⟩:=h
 obtain ⟨hb12,h⟩:=h
 refine Zp6 31 3 ?_
 refine Yve 2 rfl (Zdj (zs:=x10) (cells':=x10.flatMap Yv0) 0 ap_27 rfl rfl rfl (Ow.nil (z:=w.heap.size)) (Nat.le_refl _) (Src.readF (s:=St w []) (hl:=Yyz) (h1:=Yyy) h5 (me 1 rfl)) (by rw [hv11,List.flatMap_append] <;> rfl) (Yzh hv11 h5.hq) hb12 rfl rfl fun A7 c8 h9=>?_) gn
 refine Yu2 3 rfl (Yu7 rfl) gn rfl<|Yua 4 rfl ?_
 refine Yvb [.slice A7 (0 + n3) c8] rfl Tryd.func10 rfl (.tmp rfl (.nil)) fun wr hLr=>?_
 have hMr:=hLr.pkI (.c 0 rfl .n) .n (by kernel_rfl) (.c 1 rfl .n)
 show Zcw w F  r (.returned (Yvl [.slice A7 (0 + n3) c8])) wr
 rw [h]
 exact ⟨A7,0 + n3,c8,rfl,hMr,h9⟩
noncomputable abbrev q18c4:=Code.snd (Code.snd (Yvq Tryd.f18))
noncomputable abbrev q18c6:=Code.snd (Code.fst (Code.snd (Yvq Tryd.f18)))
noncomputable abbrev Zi5:=Code.snd q18c4
noncomputable abbrev Zel:=Code.fst (Code.fst (Code.snd (Code.fst q18c4)))
noncomputable abbrev Zoa:=Code.snd (Code.snd Zel)
noncomputable abbrev q18c29:=Code.snd (Code.snd (Code.fst (Code.fst (Code.snd Zel))))
noncomputable abbrev Zht:=Code.fst (Code.fst (Code.snd (Code.fst (Code.fst (Code.snd Zel)))))
noncomputable abbrev q18c31:=Code.snd (Code.fst (Code.snd (Code.fst (Code.fst (Code.snd Zel)))))
noncomputable abbrev Zk3:=Code.fst (Code.fst (Code.snd q18c29))
noncomputable abbrev q18c49:=Code.fst (Code.fst (Code.fst (Code.snd Zk3)))
abbrev Yyj (w:World) (F:Nat→Prop) (r:Bool):Ending→World→Prop:=fun e w'=>e=.returned (.bool r)∧B.Loc w w' [] [St w []]
noncomputable abbrev Yxb (w:World) (F:Nat→Prop) (r:Bool):Cx:=⟨Tryd.prog,18,Tryd.f18,111,Yyj w F  r,w⟩
theorem Ze1 (w:World) (F:Nat→Prop) (x1:Yu5) (A2:Option Addr) (n3:Nat) (c4:Nat) (A6:Option Addr) (n7:Nat) (c8:Nat) (A10:Option Addr) (n11:Nat) (c12:Nat) (h5:Rw Yuj w (St w []).av A2 n3 c4 x1.terms) (h9:Rw Yuq w (St w []).av A6 n7 c8 x1.syms) (h13:Rw Yun w (St w []).av A10 n11 c12 x1.prods) (hF:∀ b,F b→b < w.heap.size∧∀ o ∈ ([]:List (List Nat)),b ∉ o) (hL0:B.Loc w w [] [Sm w.heap.size F w [],St w []]) (r:Bool) (h:Yz6 x1 r):Calls Tryd.prog 18 #[.agg #[.slice A2 n3 c4,.slice A6 n7 c8,.slice A10 n11 c12]] w (Yyj w F  r):=by
 unfold Yz6 at h
 refine Yv5 (vs:=[.agg #[.slice A2 n3 c4,.slice A6 n7 c8,.slice A10 n11 c12]]) 111 Tryd.func18 rfl Tryd.ntmps18 rfl hL0 ?_
 show G (Yxb w F r) _ _ _ _
 refine Yu9 rfl<|Yu4 rfl rfl ?_
 refine Yve 0 rfl (Zas [.slice A2 n3 c4,.slice A6 n7 c8,.slice A10 n11 c12] rfl rfl rfl fun gb14=>?_) gn
 refine Yu2 1 rfl (Yu7 rfl) gn rfl<|Yua 2 rfl<|Yu9 rfl<|Yu9 rfl ?_
 have j1:∀ (x20:Bool) (h:Yxl x1 x20 r) ,G (Yxb w F r) [.code q18c6,.code q18c4] [(1,.pointer (some ⟨gb14,0,none⟩)),(27,.bool x20)] [.box gb14 26 [.slice A2 n3 c4,.slice A6 n7 c8,.slice A10 n11 c12]] [Sm w.heap.size F w [],St w []]:=by
  intro x20 h
  unfold Yxl at h
  by_cases hp21:x20=true
  ·have h:=Yul hp21 h
   refine Yv4 rfl _ rfl (hp21)<|Yu9 rfl<|Yu4 rfl rfl<|Yu2 0 rfl (Yu7 rfl) gn rfl<|Yua 1 rfl ?_
   refine Yvb [.bool false] rfl Tryd.func18 rfl (.tmp rfl (.nil)) fun wr hLr=>?_
   have hMr:=hLr.pk0 (.c 1 rfl .n)
   show Yyj w F  r (.returned (Yvl [.bool false])) wr
   rw [h]
   exact ⟨rfl,hMr⟩
  ·have h:=Yum hp21 h
   refine Yur rfl _ rfl ((bf hp21))<|Yv2 rfl<|Yu9 rfl<|Yu9 rfl<|Yu4 rfl rfl<|Yu2 0 rfl (Yu7 rfl) gn rfl<|Yua 1 rfl<|Yuw rfl<|Ywm rfl ?_
   have key2:∀ s,Yui (fun (s:Int) o=>Yzw x1 s o) s r→(fun (s:Int)=>∀ (_:Unit),G (Yxb w F r) [.code Zel,.inLoop Zel,.inBlock 0,.code Zi5] [(1,.pointer (some ⟨gb14,0,none⟩)),(3,.int .i64 s)] [.box gb14 26 [.slice A2 n3 c4,.slice A6 n7 c8,.slice A10 n11 c12]] [Sm w.heap.size F w [],St w []]) s:=by
    intro s hs
    refine Yui.ind (mot:=(fun (s:Int)=>∀ (_:Unit),G (Yxb w F r) [.code Zel,.inLoop Zel,.inBlock 0,.code Zi5] [(1,.pointer (some ⟨gb14,0,none⟩)),(3,.int .i64 s)] [.box gb14 26 [.slice A2 n3 c4,.slice A6 n7 c8,.slice A10 n11 c12]] [Sm w.heap.size F w [],St w []])) ?_ hs
    clear hs s
    intro x97 o1 h hO1
    show ∀ (_:Unit),G (Yxb w F r) [.code Zel,.inLoop Zel,.inBlock 0,.code Zi5] [(1,.pointer (some ⟨gb14,0,none⟩)),(3,.int .i64 x97)] [.box gb14 26 [.slice A2 n3 c4,.slice A6 n7 c8,.slice A10 n11 c12]] [Sm w.heap.size F w [],St w []]
    intro _
    have h:Yzw x1 x97 o1:=h
    unfold Yzw at h
    refine Yu9 rfl<|Yu9 rfl<|Yu4 rfl rfl<|Yu2 0 rfl (Yu3 rfl) gn rfl<|Yu2 1 rfl (Yub Yvf rfl) gn rfl<|Yu2 2 rfl (Yue 0 Ywb rfl rfl rfl) gn rfl<|Yu2 3 rfl (Yuo Za3 rfl h13.hq) gn rfl<|Yu2 4 rfl (Yug rfl rfl rfl) gn rfl<|Yua 5 rfl ?_
    by_cases hp186:x97 < (x1.prods.length:Int)
    ·have h:=Yul hp186 h
     refine Yv4 rfl _ rfl ((decide_eq_true hp186))<|Yv2 rfl<|Yu9 rfl<|Yuw rfl<|Yu9 rfl<|Yu4 rfl rfl<|Yu2 0 rfl (Yub Yvf rfl) gn rfl<|Yu2 1 rfl (Yue 0 Ywb rfl rfl rfl) gn rfl<|Yu2 2 rfl (Yu3 rfl) gn rfl ?_
     obtain ⟨hb187,h⟩:=h
     obtain ⟨ce189,hK190,hr188⟩:=Rw.read (s:=St w []) h13 hb187
     obtain ⟨A191,n192,c193,rfl,h194⟩:=hK190
     refine Yu2 3 rfl (Yv7 (s:=St w []) Yxh rfl rfl h13 hb187) gn rfl<|Yu2 4 rfl (Zdb (St w []) Zko rfl hr188 rfl (me 1 rfl)) gn rfl ?_
     refine Yve 5 rfl (Yye [.int .i64 0,.slice none 0 0] Zl0 rfl fun gb195=>?_) gn
     refine Yve 6 rfl (Za4 (vs:=[.int .i64 ((ix x1.prods x97).lhs),.slice A191 n192 c193]) (cs':=[.int .i64 ((ix x1.prods x97).lhs),.slice A191 n192 c193]) (M':=[.box gb195 63 [.int .i64 ((ix x1.prods x97).lhs),.slice A191 n192 c193],.box gb14 26 [.slice A2 n3 c4,.slice A6 n7 c8,.slice A10 n11 c12]]) 0 Zkw rfl rfl rfl rfl rfl rfl rfl rfl rfl ?_) gn
     refine Yua 7 rfl<|Yu9 rfl<|Yu9 rfl ?_
     have j3:∀ (x216:Bool) (h:Yvg x1 x97 x216 o1) ,G (Yxb w F r) [.code q18c31,.code q18c29,.inBlock 1,.code Zoa,.inLoop Zel,.inBlock 0,.code Zi5] [(1,.pointer (some ⟨gb14,0,none⟩)),(3,.int .i64 x97),(4,.pointer (some ⟨gb195,0,none⟩)),(80,.bool x216)] [.box gb195 63 [.int .i64 ((ix x1.prods x97).lhs),.slice A191 n192 c193],.box gb14 26 [.slice A2 n3 c4,.slice A6 n7 c8,.slice A10 n11 c12]] [Sm w.heap.size F w [],St w []]:=by
      intro x216 h
      unfold Yvg at h
      by_cases hp217:x216=true
      ·have h:=Yul hp217 h
       refine Yv4 rfl _ rfl (hp217)<|Yu9 rfl<|Yu4 rfl rfl<|Yu2 0 rfl (Yu7 rfl) gn rfl<|Yua 1 rfl ?_
       have h:=Out.inr hO1 h
       refine Yvb [.bool false] rfl Tryd.func18 rfl (.tmp rfl (.nil)) fun wr hLr=>?_
       have hMr:=hLr.pk0 (.c 1 rfl .n)
       show Yyj w F  r (.returned (Yvl [.bool false])) wr
       rw [h]
       exact ⟨rfl,hMr⟩
      ·have h:=Yum hp217 h
       refine Yur rfl _ rfl ((bf hp217))<|Yv2 rfl<|Yu9 rfl<|Yu4 rfl rfl<|Yu2 0 rfl (Yu7 rfl) gn rfl<|Yua 1 rfl<|Yuw rfl<|Ywm rfl ?_
       have key4:∀ s,Yui (fun (s:Int) o=>Yz1 x1 x97 s o) s o1→(fun (s:Int)=>∀ (_:Unit),G (Yxb w F r) [.code Zk3,.inLoop Zk3,.inBlock 2,.inBlock 1,.code Zoa,.inLoop Zel,.inBlock 0,.code Zi5] [(1,.pointer (some ⟨gb14,0,none⟩)),(3,.int .i64 x97),(4,.pointer (some ⟨gb195,0,none⟩)),(5,.int .i64 s)] [.box gb195 63 [.int .i64 ((ix x1.prods x97).lhs),.slice A191 n192 c193],.box gb14 26 [.slice A2 n3 c4,.slice A6 n7 c8,.slice A10 n11 c12]] [Sm w.heap.size F w [],St w []]) s:=by
        intro s hs
        refine Yui.ind (mot:=(fun (s:Int)=>∀ (_:Unit),G (Yxb w F r) [.code Zk3,.inLoop Zk3,.inBlock 2,.inBlock 1,.code Zoa,.inLoop Zel,.inBlock 0,.code Zi5] [(1,.pointer (some ⟨gb14,0,none⟩)),(3,.int .i64 x97),(4,.pointer (some ⟨gb195,0,none⟩)),(5,.int .i64 s)] [.box gb195 63 [.int .i64 ((ix x1.prods x97).lhs),.slice A191 n192 c193],.box gb14 26 [.slice A2 n3 c4,.slice A6 n7 c8,.slice A10 n11 c12]] [Sm w.heap.size F w [],St w []])) ?_ hs
        clear hs s
        intro x231 o2 h hO2
        show ∀ (_:Unit),G (Yxb w F r) [.code Zk3,.inLoop Zk3,.inBlock 2,.inBlock 1,.code Zoa,.inLoop Zel,.inBlock 0,.code Zi5] [(1,.pointer (some ⟨gb14,0,none⟩)),(3,.int .i64 x97),(4,.pointer (some ⟨gb195,0,none⟩)),(5,.int .i64 x231)] [.box gb195 63 [.int .i64 ((ix x1.prods x97).lhs),.slice A191 n192 c193],.box gb14 26 [.slice A2 n3 c4,.slice A6 n7 c8,.slice A10 n11 c12]] [Sm w.heap.size F w [],St w []]
        intro _
        have h:Yz1 x1 x97 x231 o2:=h
        unfold Yz1 at h
        refine Yu9 rfl<|Yu9 rfl<|Yu4 rfl rfl<|Yu2 0 rfl (Yu3 rfl) gn rfl<|Yu2 1 rfl (Yub Yw1 rfl) gn rfl<|Yu2 2 rfl (Yue 0 Yyc rfl rfl rfl) gn rfl<|Yu2 3 rfl (Yuo Za5 rfl h194.hq) gn rfl<|Yu2 4 rfl (Yug rfl rfl rfl) gn rfl<|Yua 5 rfl ?_
        by_cases hp244:x231 < (((ix x1.prods x97).rhs).length:Int)
        ·have h:=Yul hp244 h
         refine Yv4 rfl _ rfl ((decide_eq_true hp244))<|Yv2 rfl<|Yu9 rfl<|Yuw rfl<|Yu9 rfl ?_
         obtain ⟨hb245,h⟩:=h
         by_cases hp247:(ix ((ix x1.prods x97).rhs) x231).sym < 1
         ·have h:=Yul hp247 h
          have hns:Region.noSelect (Code.ops q18c49)=true:=by kernel_rfl
          refine Yvr [] 23 rfl rfl mix rfl (.c 0 rfl (.c 1 rfl .n))<|wfv 0 rfl (Yub Yw1 rfl) gn hns rfl<|wfv 1 rfl (Yue 0 Yyc rfl rfl rfl) gn hns rfl<|wfv 2 rfl (Yu3 rfl) gn hns rfl ?_
          have hr249:=Rw.readF (s:=St w []) (hl:=Yvw) (h1:=Yvy) h194 hb245
          refine wfv 3 rfl (Yv7 (s:=St w []) Yz5 rfl rfl h194 hb245) gn hns rfl<|wfv 4 rfl (Yvo Yyd rfl) gn hns rfl<|wfv 5 rfl (Yvj (kk:=(x231:Int).toNat * 3) (j:=0) (St w []) Yvt rfl hr249 rfl (me 1 rfl)) gn hns rfl<|wfv 6 rfl (Yug rfl rfl rfl) gn hns rfl<|wfv 7 rfl (Yu3 rfl) gn hns rfl<|Yv8 95 rfl ((decide_eq_true hp247))<|wfp 8 rfl (ps 95 rfl rfl rfl) hns rfl<|wfp 9 rfl (ps 95 rfl rfl rfl) hns rfl<|wfp 10 rfl (ps 95 rfl rfl rfl) hns rfl<|wfp 11 rfl (ps 95 rfl rfl rfl) hns rfl<|wfp 12 rfl (ps 95 rfl rfl rfl) hns rfl<|wfp 13 rfl (ps 95 rfl rfl rfl) hns rfl ?_
          refine wfp 14 rfl (ps 95 rfl rfl rfl) hns rfl<|wfp 15 rfl (ps 95 rfl rfl rfl) hns rfl<|wfp 16 rfl (ps 95 rfl rfl rfl) hns rfl<|wfp 17 rfl (ps 95 rfl rfl rfl) hns rfl<|wfp 18 rfl (ps 95 rfl rfl rfl) hns rfl<|wfp 19 rfl (ps 95 rfl rfl rfl) hns rfl<|wfp 20 rfl (ps 95 rfl rfl rfl) hns rfl<|wfp 21 rfl (ps 95 rfl rfl rfl) hns rfl<|wfv 22 rfl (Yuk (b:=true) rfl rfl) gn hns rfl<|Yvx (by kernel_rfl)<|Yv4 rfl _ rfl (rfl)<|Yu9 rfl ?_
          refine Yu4 rfl rfl<|Yu2 0 rfl (Yu7 rfl) gn rfl<|Yua 1 rfl ?_
          have h:=Out.inr hO2 h
          have h:=Out.inr hO1 h
          refine Yvb [.bool false] rfl Tryd.func18 rfl (.tmp rfl (.nil)) fun wr hLr=>?_
          have hMr:=hLr.pk0 (.c 1 rfl .n)
          show Yyj w F  r (.returned (Yvl [.bool false])) wr
          rw [h]
          exact ⟨rfl,hMr⟩
         ·have h:=Yum hp247 h
          have hns:Region.noSelect (Code.ops q18c49)=true:=by kernel_rfl
          refine Yvr [] 23 rfl rfl mix rfl (.c 0 rfl (.c 1 rfl .n))<|wfv 0 rfl (Yub Yw1 rfl) gn hns rfl<|wfv 1 rfl (Yue 0 Yyc rfl rfl rfl) gn hns rfl<|wfv 2 rfl (Yu3 rfl) gn hns rfl ?_
          have hr253:=Rw.readF (s:=St w []) (hl:=Yvw) (h1:=Yvy) h194 hb245
          refine wfv 3 rfl (Yv7 (s:=St w []) Yz5 rfl rfl h194 hb245) gn hns rfl<|wfv 4 rfl (Yvo Yyd rfl) gn hns rfl<|wfv 5 rfl (Yvj (kk:=(x231:Int).toNat * 3) (j:=0) (St w []) Yvt rfl hr253 rfl (me 1 rfl)) gn hns rfl<|wfv 6 rfl (Yug rfl rfl rfl) gn hns rfl<|wfv 7 rfl (Yu3 rfl) gn hns rfl<|Yv8 95 rfl ((decide_eq_false hp247))<|wfv 8 rfl (Yub Yw1 rfl) (gy 95 rfl rfl) hns rfl<|wfv 9 rfl (Yue 0 Yyc rfl rfl rfl) (gy 95 rfl rfl) hns rfl<|wfv 10 rfl (Yu3 rfl) (gy 95 rfl rfl) hns rfl ?_
          have hr254:=Rw.readF (s:=St w []) (hl:=Yvw) (h1:=Yvy) h194 hb245
          refine wfv 11 rfl (Yv7 (s:=St w []) Yz5 rfl rfl h194 hb245) (gy 95 rfl rfl) hns rfl<|wfv 12 rfl (Yvo Yyd rfl) (gy 95 rfl rfl) hns rfl<|wfv 13 rfl (Yvj (kk:=(x231:Int).toNat * 3) (j:=0) (St w []) Yvt rfl hr254 rfl (me 1 rfl)) (gy 95 rfl rfl) hns rfl<|wfv 14 rfl (Yub Yw7 rfl) (gy 95 rfl rfl) hns rfl<|wfv 15 rfl (Yue 1 Yz4 rfl rfl rfl) (gy 95 rfl rfl) hns rfl<|wfv 16 rfl (Yuo Yze rfl h5.hq) (gy 95 rfl rfl) hns rfl<|wfv 17 rfl (Yub Yxd rfl) (gy 95 rfl rfl) hns rfl<|wfv 18 rfl (Yue 1 Zak rfl rfl rfl) (gy 95 rfl rfl) hns rfl<|wfv 19 rfl (Yuo Zbm rfl h9.hq) (gy 95 rfl rfl) hns rfl<|wfv 20 rfl (Yug rfl rfl rfl) (gy 95 rfl rfl) hns rfl<|wfv 21 rfl (Yug rfl rfl rfl) (gy 95 rfl rfl) hns rfl<|wfv 22 rfl (Yuk (b:=false) rfl rfl) gn hns rfl ?_
          refine Yvx (by kernel_rfl) ?_
          by_cases hp255:(ix ((ix x1.prods x97).rhs) x231).sym≥w64 ((x1.terms.length:Int) + (x1.syms.length:Int))
          ·have h:=Yul hp255 h
           refine Yv4 rfl _ rfl ((decide_eq_true hp255))<|Yu9 rfl<|Yu4 rfl rfl<|Yu2 0 rfl (Yu7 rfl) gn rfl<|Yua 1 rfl ?_
           have h:=Out.inr hO2 h
           have h:=Out.inr hO1 h
           refine Yvb [.bool false] rfl Tryd.func18 rfl (.tmp rfl (.nil)) fun wr hLr=>?_
           have hMr:=hLr.pk0 (.c 1 rfl .n)
           show Yyj w F  r (.returned (Yvl [.bool false])) wr
           rw [h]
           exact ⟨rfl,hMr⟩
          ·have h:=Yum hp255 h
           refine Yur rfl _ rfl ((decide_eq_false hp255))<|Yv2 rfl<|Yux<|Yu4 rfl rfl<|Yu2 0 rfl (Yu3 rfl) gn rfl<|Yu2 1 rfl (Yug rfl rfl rfl) gn rfl<|Yu2 2 rfl (Yu7 rfl) gn rfl<|Yua 3 rfl<|Yv1 ?_
           have ih:=Out.inl hO2 h
           exact Yvh [0,1] (ih ()) ⟨rfl,rfl,rfl,rfl,trivial⟩ (.cons_cons _ (.cons_cons _ (.slnil))) rfl
        ·have h:=Yum hp244 h
         refine Yur rfl _ rfl ((decide_eq_false hp244))<|Ywa [.inBlock 1,.code Zoa,.inLoop Zel,.inBlock 0,.code Zi5] rfl rfl<|Yux<|Yu4 rfl rfl<|Yu2 0 rfl (Yu3 rfl) gn rfl<|Yu2 1 rfl (Yug rfl rfl rfl) gn rfl<|Yu2 2 rfl (Yu7 rfl) gn rfl<|Yua 3 rfl<|Yv1 ?_
         have h:=Out.inr hO2 h
         have ih:=Out.inl hO1 h
         exact Yvh [0,1] (ih ()) ⟨rfl,rfl,trivial⟩ (.cons _ (.cons_cons _ (.slnil))) rfl
       exact Yvh [0,1] (key4 _ h ()) ⟨rfl,rfl,rfl,rfl,trivial⟩ (.cons_cons _ (.cons_cons _ (.slnil))) rfl
     by_cases hp256:x97=0
     ·have h:=Yul hp256 h
      by_cases hp257:(ix x1.prods x97).lhs = -1
      ·have h:=Yul hp257 h
       by_cases hp258:(((ix x1.prods x97).rhs).length:Int)=1
       ·have h:=Yul hp258 h
        obtain ⟨hb259,h⟩:=h
        by_cases hp261:(ix ((ix x1.prods x97).rhs) 0).sym=(x1.terms.length:Int)
        ·have h:=Yul hp261 h
         by_cases hp262:x97 > 0
         ·have h:=Yul hp262 h
          by_cases hp263:(ix x1.prods x97).lhs < 0
          ·have h:=Yul hp263 h
           have hns:Region.noSelect (Code.ops Zht)=true:=by kernel_rfl
           refine Yvr [] 41 rfl rfl mix rfl (.c 0 rfl (.c 1 rfl .n))<|wfv 0 rfl (Yu3 rfl) gn hns rfl<|wfv 1 rfl (Yug rfl rfl rfl) gn hns rfl<|wfv 2 rfl (Yu3 rfl) gn hns rfl<|Yv8 42 rfl ((eqi hp256))<|wfv 3 rfl (Yub Yx3 rfl) (gy 42 rfl rfl) hns rfl<|wfv 4 rfl (Yue 0 Yvt rfl rfl rfl) (gy 42 rfl rfl) hns rfl<|wfv 5 rfl (Yug rfl rfl rfl) (gy 42 rfl rfl) hns rfl<|wfv 6 rfl (Yu3 rfl) (gy 42 rfl rfl) hns rfl<|Yv8 46 rfl ((Zgg hp257))<|wfv 7 rfl (Yub Yw1 rfl) (gy 46 rfl rfl) hns rfl<|wfv 8 rfl (Yue 0 Yyc rfl rfl rfl) (gy 46 rfl rfl) hns rfl ?_
           refine wfv 9 rfl (Yuo Za5 rfl h194.hq) (gy 46 rfl rfl) hns rfl<|wfv 10 rfl (Yug rfl rfl rfl) (gy 46 rfl rfl) hns rfl<|wfv 11 rfl (Yuk (b:=false) rfl rfl) (gy 42 rfl rfl) hns rfl<|wfv 12 rfl (Yu3 rfl) (gy 42 rfl rfl) hns rfl<|Yv8 52 rfl ((Zgg hp258))<|wfv 13 rfl (Yub Yw1 rfl) (gy 52 rfl rfl) hns rfl<|wfv 14 rfl (Yue 0 Yyc rfl rfl rfl) (gy 52 rfl rfl) hns rfl ?_
           have hr265:=Rw.readF (s:=St w []) (hl:=Yvw) (h1:=Yvy) h194 hb259
           refine wfv 15 rfl (Yv7 (s:=St w []) Yz5 rfl rfl h194 hb259) (gy 52 rfl rfl) hns rfl<|wfv 16 rfl (Yvo Yyd rfl) (gy 52 rfl rfl) hns rfl<|wfv 17 rfl (Yvj (kk:=(0:Int).toNat * 3) (j:=0) (St w []) Yvt rfl hr265 rfl (me 1 rfl)) (gy 52 rfl rfl) hns rfl<|wfv 18 rfl (Yub Yw7 rfl) (gy 52 rfl rfl) hns rfl<|wfv 19 rfl (Yue 1 Yz4 rfl rfl rfl) (gy 52 rfl rfl) hns rfl<|wfv 20 rfl (Yuo Yze rfl h5.hq) (gy 52 rfl rfl) hns rfl<|wfv 21 rfl (Yug rfl rfl rfl) (gy 52 rfl rfl) hns rfl<|wfv 22 rfl (Yuk (b:=false) rfl rfl) (gy 42 rfl rfl) hns rfl<|wfv 23 rfl (Yuk (b:=true) rfl rfl) gn hns rfl<|wfv 24 rfl (Yu3 rfl) gn hns rfl<|Yv8 64 rfl ((Zgg hp261))<|wfv 25 rfl (Yu3 rfl) (gy 64 rfl rfl) hns rfl ?_
           refine wfv 26 rfl (Yug rfl rfl rfl) (gy 64 rfl rfl) hns rfl<|wfv 27 rfl (Yu3 rfl) (gy 64 rfl rfl) hns rfl<|Yv8 67 rfl ((decide_eq_true hp262))<|wfv 28 rfl (Yub Yx3 rfl) (gy 67 rfl rfl) hns rfl<|wfv 29 rfl (Yue 0 Yvt rfl rfl rfl) (gy 67 rfl rfl) hns rfl<|wfv 30 rfl (Yug rfl rfl rfl) (gy 67 rfl rfl) hns rfl<|wfv 31 rfl (Yu3 rfl) (gy 67 rfl rfl) hns rfl<|Yv8 71 rfl ((decide_eq_true hp263))<|wfp 32 rfl (ps 71 rfl rfl rfl) hns rfl<|wfp 33 rfl (ps 71 rfl rfl rfl) hns rfl<|wfp 34 rfl (ps 71 rfl rfl rfl) hns rfl<|wfp 35 rfl (ps 71 rfl rfl rfl) hns rfl ?_
           refine wfp 36 rfl (ps 71 rfl rfl rfl) hns rfl<|wfp 37 rfl (ps 71 rfl rfl rfl) hns rfl<|wfv 38 rfl (Yuk (b:=true) rfl rfl) (gy 67 rfl rfl) hns rfl<|wfv 39 rfl (Yuk (b:=true) rfl rfl) (gy 64 rfl rfl) hns rfl<|wfv 40 rfl (Yuk (b:=false) rfl rfl) gn hns rfl<|Yvx (by kernel_rfl) ?_
           exact Yvh [0,1] (j3 true h) ⟨rfl,rfl,rfl,rfl,trivial⟩ (.cons_cons _ (.cons_cons _ (.slnil))) rfl
          ·have h:=Yum hp263 h
           have hns:Region.noSelect (Code.ops Zht)=true:=by kernel_rfl
           refine Yvr [] 41 rfl rfl mix rfl (.c 0 rfl (.c 1 rfl .n))<|wfv 0 rfl (Yu3 rfl) gn hns rfl<|wfv 1 rfl (Yug rfl rfl rfl) gn hns rfl<|wfv 2 rfl (Yu3 rfl) gn hns rfl<|Yv8 42 rfl ((eqi hp256))<|wfv 3 rfl (Yub Yx3 rfl) (gy 42 rfl rfl) hns rfl<|wfv 4 rfl (Yue 0 Yvt rfl rfl rfl) (gy 42 rfl rfl) hns rfl<|wfv 5 rfl (Yug rfl rfl rfl) (gy 42 rfl rfl) hns rfl<|wfv 6 rfl (Yu3 rfl) (gy 42 rfl rfl) hns rfl<|Yv8 46 rfl ((Zgg hp257))<|wfv 7 rfl (Yub Yw1 rfl) (gy 46 rfl rfl) hns rfl<|wfv 8 rfl (Yue 0 Yyc rfl rfl rfl) (gy 46 rfl rfl) hns rfl ?_
           refine wfv 9 rfl (Yuo Za5 rfl h194.hq) (gy 46 rfl rfl) hns rfl<|wfv 10 rfl (Yug rfl rfl rfl) (gy 46 rfl rfl) hns rfl<|wfv 11 rfl (Yuk (b:=false) rfl rfl) (gy 42 rfl rfl) hns rfl<|wfv 12 rfl (Yu3 rfl) (gy 42 rfl rfl) hns rfl<|Yv8 52 rfl ((Zgg hp258))<|wfv 13 rfl (Yub Yw1 rfl) (gy 52 rfl rfl) hns rfl<|wfv 14 rfl (Yue 0 Yyc rfl rfl rfl) (gy 52 rfl rfl) hns rfl ?_
           have hr267:=Rw.readF (s:=St w []) (hl:=Yvw) (h1:=Yvy) h194 hb259
           refine wfv 15 rfl (Yv7 (s:=St w []) Yz5 rfl rfl h194 hb259) (gy 52 rfl rfl) hns rfl<|wfv 16 rfl (Yvo Yyd rfl) (gy 52 rfl rfl) hns rfl<|wfv 17 rfl (Yvj (kk:=(0:Int).toNat * 3) (j:=0) (St w []) Yvt rfl hr267 rfl (me 1 rfl)) (gy 52 rfl rfl) hns rfl<|wfv 18 rfl (Yub Yw7 rfl) (gy 52 rfl rfl) hns rfl<|wfv 19 rfl (Yue 1 Yz4 rfl rfl rfl) (gy 52 rfl rfl) hns rfl<|wfv 20 rfl (Yuo Yze rfl h5.hq) (gy 52 rfl rfl) hns rfl<|wfv 21 rfl (Yug rfl rfl rfl) (gy 52 rfl rfl) hns rfl<|wfv 22 rfl (Yuk (b:=false) rfl rfl) (gy 42 rfl rfl) hns rfl<|wfv 23 rfl (Yuk (b:=true) rfl rfl) gn hns rfl<|wfv 24 rfl (Yu3 rfl) gn hns rfl<|Yv8 64 rfl ((Zgg hp261))<|wfv 25 rfl (Yu3 rfl) (gy 64 rfl rfl) hns rfl ?_
           refine wfv 26 rfl (Yug rfl rfl rfl) (gy 64 rfl rfl) hns rfl<|wfv 27 rfl (Yu3 rfl) (gy 64 rfl rfl) hns rfl<|Yv8 67 rfl ((decide_eq_true hp262))<|wfv 28 rfl (Yub Yx3 rfl) (gy 67 rfl rfl) hns rfl<|wfv 29 rfl (Yue 0 Yvt rfl rfl rfl) (gy 67 rfl rfl) hns rfl<|wfv 30 rfl (Yug rfl rfl rfl) (gy 67 rfl rfl) hns rfl<|wfv 31 rfl (Yu3 rfl) (gy 67 rfl rfl) hns rfl<|Yv8 71 rfl ((decide_eq_false hp263))<|wfv 32 rfl (Yub Yx3 rfl) (gy 71 rfl rfl) hns rfl<|wfv 33 rfl (Yue 0 Yvt rfl rfl rfl) (gy 71 rfl rfl) hns rfl<|wfv 34 rfl (Yub Yxd rfl) (gy 71 rfl rfl) hns rfl<|wfv 35 rfl (Yue 1 Zak rfl rfl rfl) (gy 71 rfl rfl) hns rfl ?_
           refine wfv 36 rfl (Yuo Zbm rfl h9.hq) (gy 71 rfl rfl) hns rfl<|wfv 37 rfl (Yug rfl rfl rfl) (gy 71 rfl rfl) hns rfl<|wfv 38 rfl (Yuk (b:=false) rfl rfl) (gy 67 rfl rfl) hns rfl<|wfv 39 rfl (Yuk (b:=true) rfl rfl) (gy 64 rfl rfl) hns rfl<|wfv 40 rfl (Yuk (b:=false) rfl rfl) gn hns rfl<|Yvx (by kernel_rfl) ?_
           exact Yvh [0,1] (j3 (decide ((ix x1.prods x97).lhs≥(x1.syms.length:Int))) h) ⟨rfl,rfl,rfl,rfl,trivial⟩ (.cons_cons _ (.cons_cons _ (.slnil))) rfl
         ·have h:=Yum hp262 h
          have hns:Region.noSelect (Code.ops Zht)=true:=by kernel_rfl
          refine Yvr [] 41 rfl rfl mix rfl (.c 0 rfl (.c 1 rfl .n))<|wfv 0 rfl (Yu3 rfl) gn hns rfl<|wfv 1 rfl (Yug rfl rfl rfl) gn hns rfl<|wfv 2 rfl (Yu3 rfl) gn hns rfl<|Yv8 42 rfl ((eqi hp256))<|wfv 3 rfl (Yub Yx3 rfl) (gy 42 rfl rfl) hns rfl<|wfv 4 rfl (Yue 0 Yvt rfl rfl rfl) (gy 42 rfl rfl) hns rfl<|wfv 5 rfl (Yug rfl rfl rfl) (gy 42 rfl rfl) hns rfl<|wfv 6 rfl (Yu3 rfl) (gy 42 rfl rfl) hns rfl<|Yv8 46 rfl ((Zgg hp257))<|wfv 7 rfl (Yub Yw1 rfl) (gy 46 rfl rfl) hns rfl<|wfv 8 rfl (Yue 0 Yyc rfl rfl rfl) (gy 46 rfl rfl) hns rfl ?_
          refine wfv 9 rfl (Yuo Za5 rfl h194.hq) (gy 46 rfl rfl) hns rfl<|wfv 10 rfl (Yug rfl rfl rfl) (gy 46 rfl rfl) hns rfl<|wfv 11 rfl (Yuk (b:=false) rfl rfl) (gy 42 rfl rfl) hns rfl<|wfv 12 rfl (Yu3 rfl) (gy 42 rfl rfl) hns rfl<|Yv8 52 rfl ((Zgg hp258))<|wfv 13 rfl (Yub Yw1 rfl) (gy 52 rfl rfl) hns rfl<|wfv 14 rfl (Yue 0 Yyc rfl rfl rfl) (gy 52 rfl rfl) hns rfl ?_
          have hr269:=Rw.readF (s:=St w []) (hl:=Yvw) (h1:=Yvy) h194 hb259
          refine wfv 15 rfl (Yv7 (s:=St w []) Yz5 rfl rfl h194 hb259) (gy 52 rfl rfl) hns rfl<|wfv 16 rfl (Yvo Yyd rfl) (gy 52 rfl rfl) hns rfl<|wfv 17 rfl (Yvj (kk:=(0:Int).toNat * 3) (j:=0) (St w []) Yvt rfl hr269 rfl (me 1 rfl)) (gy 52 rfl rfl) hns rfl<|wfv 18 rfl (Yub Yw7 rfl) (gy 52 rfl rfl) hns rfl<|wfv 19 rfl (Yue 1 Yz4 rfl rfl rfl) (gy 52 rfl rfl) hns rfl<|wfv 20 rfl (Yuo Yze rfl h5.hq) (gy 52 rfl rfl) hns rfl<|wfv 21 rfl (Yug rfl rfl rfl) (gy 52 rfl rfl) hns rfl<|wfv 22 rfl (Yuk (b:=false) rfl rfl) (gy 42 rfl rfl) hns rfl<|wfv 23 rfl (Yuk (b:=true) rfl rfl) gn hns rfl<|wfv 24 rfl (Yu3 rfl) gn hns rfl<|Yv8 64 rfl ((Zgg hp261))<|wfv 25 rfl (Yu3 rfl) (gy 64 rfl rfl) hns rfl ?_
          refine wfv 26 rfl (Yug rfl rfl rfl) (gy 64 rfl rfl) hns rfl<|wfv 27 rfl (Yu3 rfl) (gy 64 rfl rfl) hns rfl<|Yv8 67 rfl ((decide_eq_false hp262))<|wfp 28 rfl (ps 67 rfl rfl rfl) hns rfl<|wfp 29 rfl (ps 67 rfl rfl rfl) hns rfl<|wfp 30 rfl (ps 67 rfl rfl rfl) hns rfl<|wfp 31 rfl (ps 67 rfl rfl rfl) hns rfl<|wfp 32 rfl (pu 71 rfl rfl) hns rfl<|wfp 33 rfl (pu 71 rfl rfl) hns rfl<|wfp 34 rfl (pu 71 rfl rfl) hns rfl<|wfp 35 rfl (pu 71 rfl rfl) hns rfl<|wfp 36 rfl (pu 71 rfl rfl) hns rfl ?_
          refine wfp 37 rfl (pu 71 rfl rfl) hns rfl<|wfp 38 rfl (ps 67 rfl rfl rfl) hns rfl<|wfv 39 rfl (Yuk (b:=false) rfl rfl) (gy 64 rfl rfl) hns rfl<|wfv 40 rfl (Yuk (b:=false) rfl rfl) gn hns rfl<|Yvx (by kernel_rfl) ?_
          exact Yvh [0,1] (j3 false h) ⟨rfl,rfl,rfl,rfl,trivial⟩ (.cons_cons _ (.cons_cons _ (.slnil))) rfl
        ·have h:=Yum hp261 h
         have hns:Region.noSelect (Code.ops Zht)=true:=by kernel_rfl
         refine Yvr [] 41 rfl rfl mix rfl (.c 0 rfl (.c 1 rfl .n))<|wfv 0 rfl (Yu3 rfl) gn hns rfl<|wfv 1 rfl (Yug rfl rfl rfl) gn hns rfl<|wfv 2 rfl (Yu3 rfl) gn hns rfl<|Yv8 42 rfl ((eqi hp256))<|wfv 3 rfl (Yub Yx3 rfl) (gy 42 rfl rfl) hns rfl<|wfv 4 rfl (Yue 0 Yvt rfl rfl rfl) (gy 42 rfl rfl) hns rfl<|wfv 5 rfl (Yug rfl rfl rfl) (gy 42 rfl rfl) hns rfl<|wfv 6 rfl (Yu3 rfl) (gy 42 rfl rfl) hns rfl<|Yv8 46 rfl ((Zgg hp257))<|wfv 7 rfl (Yub Yw1 rfl) (gy 46 rfl rfl) hns rfl<|wfv 8 rfl (Yue 0 Yyc rfl rfl rfl) (gy 46 rfl rfl) hns rfl ?_
         refine wfv 9 rfl (Yuo Za5 rfl h194.hq) (gy 46 rfl rfl) hns rfl<|wfv 10 rfl (Yug rfl rfl rfl) (gy 46 rfl rfl) hns rfl<|wfv 11 rfl (Yuk (b:=false) rfl rfl) (gy 42 rfl rfl) hns rfl<|wfv 12 rfl (Yu3 rfl) (gy 42 rfl rfl) hns rfl<|Yv8 52 rfl ((Zgg hp258))<|wfv 13 rfl (Yub Yw1 rfl) (gy 52 rfl rfl) hns rfl<|wfv 14 rfl (Yue 0 Yyc rfl rfl rfl) (gy 52 rfl rfl) hns rfl ?_
         have hr271:=Rw.readF (s:=St w []) (hl:=Yvw) (h1:=Yvy) h194 hb259
         refine wfv 15 rfl (Yv7 (s:=St w []) Yz5 rfl rfl h194 hb259) (gy 52 rfl rfl) hns rfl<|wfv 16 rfl (Yvo Yyd rfl) (gy 52 rfl rfl) hns rfl<|wfv 17 rfl (Yvj (kk:=(0:Int).toNat * 3) (j:=0) (St w []) Yvt rfl hr271 rfl (me 1 rfl)) (gy 52 rfl rfl) hns rfl<|wfv 18 rfl (Yub Yw7 rfl) (gy 52 rfl rfl) hns rfl<|wfv 19 rfl (Yue 1 Yz4 rfl rfl rfl) (gy 52 rfl rfl) hns rfl<|wfv 20 rfl (Yuo Yze rfl h5.hq) (gy 52 rfl rfl) hns rfl<|wfv 21 rfl (Yug rfl rfl rfl) (gy 52 rfl rfl) hns rfl<|wfv 22 rfl (Yuk (b:=false) rfl rfl) (gy 42 rfl rfl) hns rfl<|wfv 23 rfl (Yuk (b:=true) rfl rfl) gn hns rfl<|wfv 24 rfl (Yu3 rfl) gn hns rfl<|Yv8 64 rfl ((Zkm hp261))<|wfp 25 rfl (ps 64 rfl rfl rfl) hns rfl ?_
         refine wfp 26 rfl (ps 64 rfl rfl rfl) hns rfl<|wfp 27 rfl (ps 64 rfl rfl rfl) hns rfl<|wfp 28 rfl (pu 67 rfl rfl) hns rfl<|wfp 29 rfl (pu 67 rfl rfl) hns rfl<|wfp 30 rfl (pu 67 rfl rfl) hns rfl<|wfp 31 rfl (pu 67 rfl rfl) hns rfl<|wfp 32 rfl (pu 71 rfl rfl) hns rfl<|wfp 33 rfl (pu 71 rfl rfl) hns rfl<|wfp 34 rfl (pu 71 rfl rfl) hns rfl<|wfp 35 rfl (pu 71 rfl rfl) hns rfl<|wfp 36 rfl (pu 71 rfl rfl) hns rfl<|wfp 37 rfl (pu 71 rfl rfl) hns rfl ?_
         refine wfp 38 rfl (pu 67 rfl rfl) hns rfl<|wfp 39 rfl (ps 64 rfl rfl rfl) hns rfl<|wfv 40 rfl (Yuk (b:=true) rfl rfl) gn hns rfl<|Yvx (by kernel_rfl) ?_
         exact Yvh [0,1] (j3 true h) ⟨rfl,rfl,rfl,rfl,trivial⟩ (.cons_cons _ (.cons_cons _ (.slnil))) rfl
       ·have h:=Yum hp258 h
        have hns:Region.noSelect (Code.ops Zht)=true:=by kernel_rfl
        refine Yvr [] 41 rfl rfl mix rfl (.c 0 rfl (.c 1 rfl .n))<|wfv 0 rfl (Yu3 rfl) gn hns rfl<|wfv 1 rfl (Yug rfl rfl rfl) gn hns rfl<|wfv 2 rfl (Yu3 rfl) gn hns rfl<|Yv8 42 rfl ((eqi hp256))<|wfv 3 rfl (Yub Yx3 rfl) (gy 42 rfl rfl) hns rfl<|wfv 4 rfl (Yue 0 Yvt rfl rfl rfl) (gy 42 rfl rfl) hns rfl<|wfv 5 rfl (Yug rfl rfl rfl) (gy 42 rfl rfl) hns rfl<|wfv 6 rfl (Yu3 rfl) (gy 42 rfl rfl) hns rfl<|Yv8 46 rfl ((Zgg hp257))<|wfv 7 rfl (Yub Yw1 rfl) (gy 46 rfl rfl) hns rfl<|wfv 8 rfl (Yue 0 Yyc rfl rfl rfl) (gy 46 rfl rfl) hns rfl ?_
        refine wfv 9 rfl (Yuo Za5 rfl h194.hq) (gy 46 rfl rfl) hns rfl<|wfv 10 rfl (Yug rfl rfl rfl) (gy 46 rfl rfl) hns rfl<|wfv 11 rfl (Yuk (b:=false) rfl rfl) (gy 42 rfl rfl) hns rfl<|wfv 12 rfl (Yu3 rfl) (gy 42 rfl rfl) hns rfl<|Yv8 52 rfl ((Zkm hp258))<|wfp 13 rfl (ps 52 rfl rfl rfl) hns rfl<|wfp 14 rfl (ps 52 rfl rfl rfl) hns rfl<|wfp 15 rfl (ps 52 rfl rfl rfl) hns rfl<|wfp 16 rfl (ps 52 rfl rfl rfl) hns rfl<|wfp 17 rfl (ps 52 rfl rfl rfl) hns rfl<|wfp 18 rfl (ps 52 rfl rfl rfl) hns rfl<|wfp 19 rfl (ps 52 rfl rfl rfl) hns rfl ?_
        refine wfp 20 rfl (ps 52 rfl rfl rfl) hns rfl<|wfp 21 rfl (ps 52 rfl rfl rfl) hns rfl<|wfv 22 rfl (Yuk (b:=true) rfl rfl) (gy 42 rfl rfl) hns rfl<|wfv 23 rfl (Yuk (b:=true) rfl rfl) gn hns rfl<|wfv 24 rfl (Yu3 rfl) gn hns rfl<|wfp 25 rfl (ps 64 rfl rfl rfl) hns rfl<|wfp 26 rfl (ps 64 rfl rfl rfl) hns rfl<|wfp 27 rfl (ps 64 rfl rfl rfl) hns rfl<|wfp 28 rfl (pu 67 rfl rfl) hns rfl<|wfp 29 rfl (pu 67 rfl rfl) hns rfl<|wfp 30 rfl (pu 67 rfl rfl) hns rfl<|wfp 31 rfl (pu 67 rfl rfl) hns rfl ?_
        refine wfp 32 rfl (pu 71 rfl rfl) hns rfl<|wfp 33 rfl (pu 71 rfl rfl) hns rfl<|wfp 34 rfl (pu 71 rfl rfl) hns rfl<|wfp 35 rfl (pu 71 rfl rfl) hns rfl<|wfp 36 rfl (pu 71 rfl rfl) hns rfl<|wfp 37 rfl (pu 71 rfl rfl) hns rfl<|wfp 38 rfl (pu 67 rfl rfl) hns rfl<|wfp 39 rfl (ps 64 rfl rfl rfl) hns rfl<|wfv 40 rfl (Yuk (b:=true) rfl rfl) gn hns rfl<|Yvx (by kernel_rfl) ?_
        exact Yvh [0,1] (j3 true h) ⟨rfl,rfl,rfl,rfl,trivial⟩ (.cons_cons _ (.cons_cons _ (.slnil))) rfl
      ·have h:=Yum hp257 h
       have hns:Region.noSelect (Code.ops Zht)=true:=by kernel_rfl
       refine Yvr [] 41 rfl rfl mix rfl (.c 0 rfl (.c 1 rfl .n))<|wfv 0 rfl (Yu3 rfl) gn hns rfl<|wfv 1 rfl (Yug rfl rfl rfl) gn hns rfl<|wfv 2 rfl (Yu3 rfl) gn hns rfl<|Yv8 42 rfl ((eqi hp256))<|wfv 3 rfl (Yub Yx3 rfl) (gy 42 rfl rfl) hns rfl<|wfv 4 rfl (Yue 0 Yvt rfl rfl rfl) (gy 42 rfl rfl) hns rfl<|wfv 5 rfl (Yug rfl rfl rfl) (gy 42 rfl rfl) hns rfl<|wfv 6 rfl (Yu3 rfl) (gy 42 rfl rfl) hns rfl<|Yv8 46 rfl ((Zkm hp257))<|wfp 7 rfl (ps 46 rfl rfl rfl) hns rfl<|wfp 8 rfl (ps 46 rfl rfl rfl) hns rfl ?_
       refine wfp 9 rfl (ps 46 rfl rfl rfl) hns rfl<|wfp 10 rfl (ps 46 rfl rfl rfl) hns rfl<|wfv 11 rfl (Yuk (b:=true) rfl rfl) (gy 42 rfl rfl) hns rfl<|wfv 12 rfl (Yu3 rfl) (gy 42 rfl rfl) hns rfl<|wfp 13 rfl (ps 52 rfl rfl rfl) hns rfl<|wfp 14 rfl (ps 52 rfl rfl rfl) hns rfl<|wfp 15 rfl (ps 52 rfl rfl rfl) hns rfl<|wfp 16 rfl (ps 52 rfl rfl rfl) hns rfl<|wfp 17 rfl (ps 52 rfl rfl rfl) hns rfl<|wfp 18 rfl (ps 52 rfl rfl rfl) hns rfl<|wfp 19 rfl (ps 52 rfl rfl rfl) hns rfl<|wfp 20 rfl (ps 52 rfl rfl rfl) hns rfl ?_
       refine wfp 21 rfl (ps 52 rfl rfl rfl) hns rfl<|wfv 22 rfl (Yuk (b:=true) rfl rfl) (gy 42 rfl rfl) hns rfl<|wfv 23 rfl (Yuk (b:=true) rfl rfl) gn hns rfl<|wfv 24 rfl (Yu3 rfl) gn hns rfl<|wfp 25 rfl (ps 64 rfl rfl rfl) hns rfl<|wfp 26 rfl (ps 64 rfl rfl rfl) hns rfl<|wfp 27 rfl (ps 64 rfl rfl rfl) hns rfl<|wfp 28 rfl (pu 67 rfl rfl) hns rfl<|wfp 29 rfl (pu 67 rfl rfl) hns rfl<|wfp 30 rfl (pu 67 rfl rfl) hns rfl<|wfp 31 rfl (pu 67 rfl rfl) hns rfl<|wfp 32 rfl (pu 71 rfl rfl) hns rfl ?_
       refine wfp 33 rfl (pu 71 rfl rfl) hns rfl<|wfp 34 rfl (pu 71 rfl rfl) hns rfl<|wfp 35 rfl (pu 71 rfl rfl) hns rfl<|wfp 36 rfl (pu 71 rfl rfl) hns rfl<|wfp 37 rfl (pu 71 rfl rfl) hns rfl<|wfp 38 rfl (pu 67 rfl rfl) hns rfl<|wfp 39 rfl (ps 64 rfl rfl rfl) hns rfl<|wfv 40 rfl (Yuk (b:=true) rfl rfl) gn hns rfl<|Yvx (by kernel_rfl) ?_
       exact Yvh [0,1] (j3 true h) ⟨rfl,rfl,rfl,rfl,trivial⟩ (.cons_cons _ (.cons_cons _ (.slnil))) rfl
     ·have h:=Yum hp256 h
      by_cases hp272:x97 > 0
      ·have h:=Yul hp272 h
       by_cases hp273:(ix x1.prods x97).lhs < 0
       ·have h:=Yul hp273 h
        have hns:Region.noSelect (Code.ops Zht)=true:=by kernel_rfl
        refine Yvr [] 41 rfl rfl mix rfl (.c 0 rfl (.c 1 rfl .n))<|wfv 0 rfl (Yu3 rfl) gn hns rfl<|wfv 1 rfl (Yug rfl rfl rfl) gn hns rfl<|wfv 2 rfl (Yu3 rfl) gn hns rfl<|Yv8 42 rfl ((nei hp256))<|wfp 3 rfl (ps 42 rfl rfl rfl) hns rfl<|wfp 4 rfl (ps 42 rfl rfl rfl) hns rfl<|wfp 5 rfl (ps 42 rfl rfl rfl) hns rfl<|wfp 6 rfl (ps 42 rfl rfl rfl) hns rfl<|wfp 7 rfl (pu 46 rfl rfl) hns rfl<|wfp 8 rfl (pu 46 rfl rfl) hns rfl<|wfp 9 rfl (pu 46 rfl rfl) hns rfl ?_
        refine wfp 10 rfl (pu 46 rfl rfl) hns rfl<|wfp 11 rfl (ps 42 rfl rfl rfl) hns rfl<|wfp 12 rfl (ps 42 rfl rfl rfl) hns rfl<|wfp 13 rfl (pu 52 rfl rfl) hns rfl<|wfp 14 rfl (pu 52 rfl rfl) hns rfl<|wfp 15 rfl (pu 52 rfl rfl) hns rfl<|wfp 16 rfl (pu 52 rfl rfl) hns rfl<|wfp 17 rfl (pu 52 rfl rfl) hns rfl<|wfp 18 rfl (pu 52 rfl rfl) hns rfl<|wfp 19 rfl (pu 52 rfl rfl) hns rfl<|wfp 20 rfl (pu 52 rfl rfl) hns rfl<|wfp 21 rfl (pu 52 rfl rfl) hns rfl ?_
        refine wfp 22 rfl (ps 42 rfl rfl rfl) hns rfl<|wfv 23 rfl (Yuk (b:=false) rfl rfl) gn hns rfl<|wfv 24 rfl (Yu3 rfl) gn hns rfl<|wfv 25 rfl (Yu3 rfl) (gy 64 rfl rfl) hns rfl<|wfv 26 rfl (Yug rfl rfl rfl) (gy 64 rfl rfl) hns rfl<|wfv 27 rfl (Yu3 rfl) (gy 64 rfl rfl) hns rfl<|Yv8 67 rfl ((decide_eq_true hp272))<|wfv 28 rfl (Yub Yx3 rfl) (gy 67 rfl rfl) hns rfl<|wfv 29 rfl (Yue 0 Yvt rfl rfl rfl) (gy 67 rfl rfl) hns rfl<|wfv 30 rfl (Yug rfl rfl rfl) (gy 67 rfl rfl) hns rfl<|wfv 31 rfl (Yu3 rfl) (gy 67 rfl rfl) hns rfl<|Yv8 71 rfl ((decide_eq_true hp273)) ?_
        refine wfp 32 rfl (ps 71 rfl rfl rfl) hns rfl<|wfp 33 rfl (ps 71 rfl rfl rfl) hns rfl<|wfp 34 rfl (ps 71 rfl rfl rfl) hns rfl<|wfp 35 rfl (ps 71 rfl rfl rfl) hns rfl<|wfp 36 rfl (ps 71 rfl rfl rfl) hns rfl<|wfp 37 rfl (ps 71 rfl rfl rfl) hns rfl<|wfv 38 rfl (Yuk (b:=true) rfl rfl) (gy 67 rfl rfl) hns rfl<|wfv 39 rfl (Yuk (b:=true) rfl rfl) (gy 64 rfl rfl) hns rfl<|wfv 40 rfl (Yuk (b:=false) rfl rfl) gn hns rfl<|Yvx (by kernel_rfl) ?_
        exact Yvh [0,1] (j3 true h) ⟨rfl,rfl,rfl,rfl,trivial⟩ (.cons_cons _ (.cons_cons _ (.slnil))) rfl
       ·have h:=Yum hp273 h
        have hns:Region.noSelect (Code.ops Zht)=true:=by kernel_rfl
        refine Yvr [] 41 rfl rfl mix rfl (.c 0 rfl (.c 1 rfl .n))<|wfv 0 rfl (Yu3 rfl) gn hns rfl<|wfv 1 rfl (Yug rfl rfl rfl) gn hns rfl<|wfv 2 rfl (Yu3 rfl) gn hns rfl<|Yv8 42 rfl ((nei hp256))<|wfp 3 rfl (ps 42 rfl rfl rfl) hns rfl<|wfp 4 rfl (ps 42 rfl rfl rfl) hns rfl<|wfp 5 rfl (ps 42 rfl rfl rfl) hns rfl<|wfp 6 rfl (ps 42 rfl rfl rfl) hns rfl<|wfp 7 rfl (pu 46 rfl rfl) hns rfl<|wfp 8 rfl (pu 46 rfl rfl) hns rfl<|wfp 9 rfl (pu 46 rfl rfl) hns rfl ?_
        refine wfp 10 rfl (pu 46 rfl rfl) hns rfl<|wfp 11 rfl (ps 42 rfl rfl rfl) hns rfl<|wfp 12 rfl (ps 42 rfl rfl rfl) hns rfl<|wfp 13 rfl (pu 52 rfl rfl) hns rfl<|wfp 14 rfl (pu 52 rfl rfl) hns rfl<|wfp 15 rfl (pu 52 rfl rfl) hns rfl<|wfp 16 rfl (pu 52 rfl rfl) hns rfl<|wfp 17 rfl (pu 52 rfl rfl) hns rfl<|wfp 18 rfl (pu 52 rfl rfl) hns rfl<|wfp 19 rfl (pu 52 rfl rfl) hns rfl<|wfp 20 rfl (pu 52 rfl rfl) hns rfl<|wfp 21 rfl (pu 52 rfl rfl) hns rfl ?_
        refine wfp 22 rfl (ps 42 rfl rfl rfl) hns rfl<|wfv 23 rfl (Yuk (b:=false) rfl rfl) gn hns rfl<|wfv 24 rfl (Yu3 rfl) gn hns rfl<|wfv 25 rfl (Yu3 rfl) (gy 64 rfl rfl) hns rfl<|wfv 26 rfl (Yug rfl rfl rfl) (gy 64 rfl rfl) hns rfl<|wfv 27 rfl (Yu3 rfl) (gy 64 rfl rfl) hns rfl<|Yv8 67 rfl ((decide_eq_true hp272))<|wfv 28 rfl (Yub Yx3 rfl) (gy 67 rfl rfl) hns rfl<|wfv 29 rfl (Yue 0 Yvt rfl rfl rfl) (gy 67 rfl rfl) hns rfl<|wfv 30 rfl (Yug rfl rfl rfl) (gy 67 rfl rfl) hns rfl<|wfv 31 rfl (Yu3 rfl) (gy 67 rfl rfl) hns rfl<|Yv8 71 rfl ((decide_eq_false hp273)) ?_
        refine wfv 32 rfl (Yub Yx3 rfl) (gy 71 rfl rfl) hns rfl<|wfv 33 rfl (Yue 0 Yvt rfl rfl rfl) (gy 71 rfl rfl) hns rfl<|wfv 34 rfl (Yub Yxd rfl) (gy 71 rfl rfl) hns rfl<|wfv 35 rfl (Yue 1 Zak rfl rfl rfl) (gy 71 rfl rfl) hns rfl<|wfv 36 rfl (Yuo Zbm rfl h9.hq) (gy 71 rfl rfl) hns rfl<|wfv 37 rfl (Yug rfl rfl rfl) (gy 71 rfl rfl) hns rfl<|wfv 38 rfl (Yuk (b:=false) rfl rfl) (gy 67 rfl rfl) hns rfl<|wfv 39 rfl (Yuk (b:=true) rfl rfl) (gy 64 rfl rfl) hns rfl<|wfv 40 rfl (Yuk (b:=false) rfl rfl) gn hns rfl<|Yvx (by kernel_rfl) ?_
        exact Yvh [0,1] (j3 (decide ((ix x1.prods x97).lhs≥(x1.syms.length:Int))) h) ⟨rfl,rfl,rfl,rfl,trivial⟩ (.cons_cons _ (.cons_cons _ (.slnil))) rfl
      ·have h:=Yum hp272 h
       have hns:Region.noSelect (Code.ops Zht)=true:=by kernel_rfl
       refine Yvr [] 41 rfl rfl mix rfl (.c 0 rfl (.c 1 rfl .n))<|wfv 0 rfl (Yu3 rfl) gn hns rfl<|wfv 1 rfl (Yug rfl rfl rfl) gn hns rfl<|wfv 2 rfl (Yu3 rfl) gn hns rfl<|Yv8 42 rfl ((nei hp256))<|wfp 3 rfl (ps 42 rfl rfl rfl) hns rfl<|wfp 4 rfl (ps 42 rfl rfl rfl) hns rfl<|wfp 5 rfl (ps 42 rfl rfl rfl) hns rfl<|wfp 6 rfl (ps 42 rfl rfl rfl) hns rfl<|wfp 7 rfl (pu 46 rfl rfl) hns rfl<|wfp 8 rfl (pu 46 rfl rfl) hns rfl<|wfp 9 rfl (pu 46 rfl rfl) hns rfl ?_
       refine wfp 10 rfl (pu 46 rfl rfl) hns rfl<|wfp 11 rfl (ps 42 rfl rfl rfl) hns rfl<|wfp 12 rfl (ps 42 rfl rfl rfl) hns rfl<|wfp 13 rfl (pu 52 rfl rfl) hns rfl<|wfp 14 rfl (pu 52 rfl rfl) hns rfl<|wfp 15 rfl (pu 52 rfl rfl) hns rfl<|wfp 16 rfl (pu 52 rfl rfl) hns rfl<|wfp 17 rfl (pu 52 rfl rfl) hns rfl<|wfp 18 rfl (pu 52 rfl rfl) hns rfl<|wfp 19 rfl (pu 52 rfl rfl) hns rfl<|wfp 20 rfl (pu 52 rfl rfl) hns rfl<|wfp 21 rfl (pu 52 rfl rfl) hns rfl ?_
       refine wfp 22 rfl (ps 42 rfl rfl rfl) hns rfl<|wfv 23 rfl (Yuk (b:=false) rfl rfl) gn hns rfl<|wfv 24 rfl (Yu3 rfl) gn hns rfl<|wfv 25 rfl (Yu3 rfl) (gy 64 rfl rfl) hns rfl<|wfv 26 rfl (Yug rfl rfl rfl) (gy 64 rfl rfl) hns rfl<|wfv 27 rfl (Yu3 rfl) (gy 64 rfl rfl) hns rfl<|Yv8 67 rfl ((decide_eq_false hp272))<|wfp 28 rfl (ps 67 rfl rfl rfl) hns rfl<|wfp 29 rfl (ps 67 rfl rfl rfl) hns rfl<|wfp 30 rfl (ps 67 rfl rfl rfl) hns rfl<|wfp 31 rfl (ps 67 rfl rfl rfl) hns rfl<|wfp 32 rfl (pu 71 rfl rfl) hns rfl ?_
       refine wfp 33 rfl (pu 71 rfl rfl) hns rfl<|wfp 34 rfl (pu 71 rfl rfl) hns rfl<|wfp 35 rfl (pu 71 rfl rfl) hns rfl<|wfp 36 rfl (pu 71 rfl rfl) hns rfl<|wfp 37 rfl (pu 71 rfl rfl) hns rfl<|wfp 38 rfl (ps 67 rfl rfl rfl) hns rfl<|wfv 39 rfl (Yuk (b:=false) rfl rfl) (gy 64 rfl rfl) hns rfl<|wfv 40 rfl (Yuk (b:=false) rfl rfl) gn hns rfl<|Yvx (by kernel_rfl) ?_
       exact Yvh [0,1] (j3 false h) ⟨rfl,rfl,rfl,rfl,trivial⟩ (.cons_cons _ (.cons_cons _ (.slnil))) rfl
    ·have h:=Yum hp186 h
     refine Yur rfl _ rfl ((decide_eq_false hp186))<|Ywa [.code Zi5] rfl rfl<|Yu9 rfl<|Yu4 rfl rfl<|Yu2 0 rfl (Yu7 rfl) gn rfl<|Yua 1 rfl ?_
     have h:=Out.inr hO1 h
     refine Yvb [.bool true] rfl Tryd.func18 rfl (.tmp rfl (.nil)) fun wr hLr=>?_
     have hMr:=hLr.pk0 (.c 1 rfl .n)
     show Yyj w F  r (.returned (Yvl [.bool true])) wr
     rw [h]
     exact ⟨rfl,hMr⟩
   exact Yvh [0,1] (key2 _ h ()) ⟨rfl,rfl,trivial⟩ (.cons_cons _ (.slnil)) rfl
 refine Yu4 rfl rfl<|Yu2 0 rfl (Yub Yw7 rfl) gn rfl<|Yu2 1 rfl (Yue 0 Yz4 rfl rfl rfl) gn rfl<|Yu2 2 rfl (Yuo Yze rfl h5.hq) gn rfl<|Yu2 3 rfl (Yug rfl rfl rfl) gn rfl<|Yu2 4 rfl (Yu3 rfl) gn rfl ?_
 by_cases hp274:(x1.terms.length:Int) < 1
 ·have h:=Yul hp274 h
  refine Yvi 10 rfl ((decide_eq_true hp274))<|Yu6 5 rfl (ps 10 rfl rfl rfl)<|Yu6 6 rfl (ps 10 rfl rfl rfl)<|Yu6 7 rfl (ps 10 rfl rfl rfl)<|Yu6 8 rfl (ps 10 rfl rfl rfl)<|Yu2 9 rfl (Yuk (b:=true) rfl rfl) gn rfl<|Yu2 10 rfl (Yu3 rfl) gn rfl<|Yu6 11 rfl (ps 16 rfl rfl rfl)<|Yu6 12 rfl (ps 16 rfl rfl rfl)<|Yu6 13 rfl (ps 16 rfl rfl rfl)<|Yu6 14 rfl (ps 16 rfl rfl rfl)<|Yu2 15 rfl (Yuk (b:=true) rfl rfl) gn rfl ?_
  refine Yu2 16 rfl (Yu3 rfl) gn rfl<|Yu6 17 rfl (ps 22 rfl rfl rfl)<|Yu6 18 rfl (ps 22 rfl rfl rfl)<|Yu6 19 rfl (ps 22 rfl rfl rfl)<|Yu6 20 rfl (ps 22 rfl rfl rfl)<|Yu2 21 rfl (Yuk (b:=true) rfl rfl) gn rfl<|Yua 22 rfl ?_
  exact Yvh [0,1] (j1 true h) ⟨rfl,rfl,trivial⟩ (.cons_cons _ (.slnil)) rfl
 ·have h:=Yum hp274 h
  refine Yvi 10 rfl ((decide_eq_false hp274))<|Yu2 5 rfl (Yub Yw7 rfl) (gy 10 rfl rfl) rfl<|Yu2 6 rfl (Yue 0 Yz4 rfl rfl rfl) (gy 10 rfl rfl) rfl<|Yu2 7 rfl (Yuo Yze rfl h5.hq) (gy 10 rfl rfl) rfl<|Yu2 8 rfl (Yug rfl rfl rfl) (gy 10 rfl rfl) rfl<|Yu2 9 rfl (Yuk (b:=false) rfl rfl) gn rfl<|Yu2 10 rfl (Yu3 rfl) gn rfl ?_
  by_cases hp275:(x1.terms.length:Int) > 64
  ·have h:=Yul hp275 h
   refine Yvi 16 rfl ((decide_eq_true hp275))<|Yu6 11 rfl (ps 16 rfl rfl rfl)<|Yu6 12 rfl (ps 16 rfl rfl rfl)<|Yu6 13 rfl (ps 16 rfl rfl rfl)<|Yu6 14 rfl (ps 16 rfl rfl rfl)<|Yu2 15 rfl (Yuk (b:=true) rfl rfl) gn rfl<|Yu2 16 rfl (Yu3 rfl) gn rfl<|Yu6 17 rfl (ps 22 rfl rfl rfl)<|Yu6 18 rfl (ps 22 rfl rfl rfl)<|Yu6 19 rfl (ps 22 rfl rfl rfl)<|Yu6 20 rfl (ps 22 rfl rfl rfl)<|Yu2 21 rfl (Yuk (b:=true) rfl rfl) gn rfl ?_
   refine Yua 22 rfl ?_
   exact Yvh [0,1] (j1 true h) ⟨rfl,rfl,trivial⟩ (.cons_cons _ (.slnil)) rfl
  ·have h:=Yum hp275 h
   refine Yvi 16 rfl ((decide_eq_false hp275))<|Yu2 11 rfl (Yub Yxd rfl) (gy 16 rfl rfl) rfl<|Yu2 12 rfl (Yue 0 Zak rfl rfl rfl) (gy 16 rfl rfl) rfl<|Yu2 13 rfl (Yuo Zbm rfl h9.hq) (gy 16 rfl rfl) rfl<|Yu2 14 rfl (Yug rfl rfl rfl) (gy 16 rfl rfl) rfl<|Yu2 15 rfl (Yuk (b:=false) rfl rfl) gn rfl<|Yu2 16 rfl (Yu3 rfl) gn rfl ?_
   by_cases hp276:(x1.syms.length:Int) > 128
   ·have h:=Yul hp276 h
    refine Yvi 22 rfl ((decide_eq_true hp276))<|Yu6 17 rfl (ps 22 rfl rfl rfl)<|Yu6 18 rfl (ps 22 rfl rfl rfl)<|Yu6 19 rfl (ps 22 rfl rfl rfl)<|Yu6 20 rfl (ps 22 rfl rfl rfl)<|Yu2 21 rfl (Yuk (b:=true) rfl rfl) gn rfl<|Yua 22 rfl ?_
    exact Yvh [0,1] (j1 true h) ⟨rfl,rfl,trivial⟩ (.cons_cons _ (.slnil)) rfl
   ·have h:=Yum hp276 h
    refine Yvi 22 rfl ((decide_eq_false hp276))<|Yu2 17 rfl (Yub Yvf rfl) (gy 22 rfl rfl) rfl<|Yu2 18 rfl (Yue 0 Ywb rfl rfl rfl) (gy 22 rfl rfl) rfl<|Yu2 19 rfl (Yuo Za3 rfl h13.hq) (gy 22 rfl rfl) rfl<|Yu2 20 rfl (Yug rfl rfl rfl) (gy 22 rfl rfl) rfl<|Yu2 21 rfl (Yuk (b:=false) rfl rfl) gn rfl<|Yua 22 rfl ?_
    exact Yvh [0,1] (j1 (decide ((x1.prods.length:Int) < 1)) h) ⟨rfl,rfl,trivial⟩ (.cons_cons _ (.slnil)) rfl
noncomputable abbrev q76c4:=Code.snd (Code.snd (Yvq Tryd.f76))
noncomputable abbrev Zof:=Code.fst (Code.fst (Code.snd (Code.fst (Code.snd (Yvq Tryd.f76)))))
noncomputable abbrev q76c18:=Code.fst (Code.fst (Code.fst (Code.snd Zof)))
abbrev Zb0 (w:World) (F:Nat→Prop) (r:Bool):Ending→World→Prop:=fun e w'=>e=.returned (.bool r)∧B.Loc w w' [] [St w []]
noncomputable abbrev Zcm (w:World) (F:Nat→Prop) (r:Bool):Cx:=⟨Tryd.prog,76,Tryd.f76,33,Zb0 w F  r,w⟩
theorem Zhs (w:World) (F:Nat→Prop) (x1:Yu5) (x14:List Yut) (A2:Option Addr) (n3:Nat) (c4:Nat) (A6:Option Addr) (n7:Nat) (c8:Nat) (A10:Option Addr) (n11:Nat) (c12:Nat) (A15:Option Addr) (n16:Nat) (c17:Nat) (h5:Rw Yuj w (St w []).av A2 n3 c4 x1.terms) (h9:Rw Yuq w (St w []).av A6 n7 c8 x1.syms) (h13:Rw Yun w (St w []).av A10 n11 c12 x1.prods) (h18:Rw Zav w (St w []).av A15 n16 c17 x14) (hF:∀ b,F b→b < w.heap.size∧∀ o ∈ ([]:List (List Nat)),b ∉ o) (hL0:B.Loc w w [] [Sm w.heap.size F w [],St w []]) (r:Bool) (h:Zc6 x1 x14 r):Calls Tryd.prog 76 #[.agg #[.slice A2 n3 c4,.slice A6 n7 c8,.slice A10 n11 c12],.slice A15 n16 c17] w (Zb0 w F  r):=by
 unfold Zc6 at h
 refine Yv5 (vs:=[.agg #[.slice A2 n3 c4,.slice A6 n7 c8,.slice A10 n11 c12],.slice A15 n16 c17]) 33 Tryd.func76 rfl Tryd.ntmps76 rfl hL0 ?_
 show G (Zcm w F r) _ _ _ _
 refine Yu9 rfl<|Yu4 rfl rfl ?_
 refine Yve 0 rfl (Zas [.slice A2 n3 c4,.slice A6 n7 c8,.slice A10 n11 c12] rfl rfl rfl fun gb19=>?_) gn
 refine Yu2 1 rfl (Yu7 rfl) gn rfl<|Yua 2 rfl<|Yu9 rfl<|Yu9 rfl<|Yu4 rfl rfl<|Yu2 0 rfl (Yu7 rfl) gn rfl<|Yua 1 rfl<|Yuw rfl<|Ywm rfl ?_
 have key1:∀ s,Yui (fun (s:Int) o=>Yyu x14 x1 s o) s r→(fun (s:Int)=>∀ (_:Unit),G (Zcm w F r) [.code Zof,.inLoop Zof,.inBlock 0,.code q76c4] [(1,.slice A15 n16 c17),(2,.pointer (some ⟨gb19,0,none⟩)),(5,.int .i64 s)] [.box gb19 26 [.slice A2 n3 c4,.slice A6 n7 c8,.slice A10 n11 c12]] [Sm w.heap.size F w [],St w []]) s:=by
  intro s hs
  refine Yui.ind (mot:=(fun (s:Int)=>∀ (_:Unit),G (Zcm w F r) [.code Zof,.inLoop Zof,.inBlock 0,.code q76c4] [(1,.slice A15 n16 c17),(2,.pointer (some ⟨gb19,0,none⟩)),(5,.int .i64 s)] [.box gb19 26 [.slice A2 n3 c4,.slice A6 n7 c8,.slice A10 n11 c12]] [Sm w.heap.size F w [],St w []])) ?_ hs
  clear hs s
  intro x34 o1 h hO1
  show ∀ (_:Unit),G (Zcm w F r) [.code Zof,.inLoop Zof,.inBlock 0,.code q76c4] [(1,.slice A15 n16 c17),(2,.pointer (some ⟨gb19,0,none⟩)),(5,.int .i64 x34)] [.box gb19 26 [.slice A2 n3 c4,.slice A6 n7 c8,.slice A10 n11 c12]] [Sm w.heap.size F w [],St w []]
  intro _
  have h:Yyu x14 x1 x34 o1:=h
  unfold Yyu at h
  refine Yu9 rfl<|Yu9 rfl<|Yu4 rfl rfl<|Yu2 0 rfl (Yu3 rfl) gn rfl<|Yu2 1 rfl (Yu3 rfl) gn rfl<|Yu2 2 rfl (Yuo Za5 rfl h18.hq) gn rfl<|Yu2 3 rfl (Yug rfl rfl rfl) gn rfl<|Yua 4 rfl ?_
  by_cases hp47:x34 < (x14.length:Int)
  ·have h:=Yul hp47 h
   refine Yv4 rfl _ rfl ((decide_eq_true hp47))<|Yv2 rfl<|Yu9 rfl<|Yuw rfl<|Yu9 rfl ?_
   obtain ⟨hb48,h⟩:=h
   by_cases hp50:(ix x14 x34).sym < 0
   ·have h:=Yul hp50 h
    have hns:Region.noSelect (Code.ops q76c18)=true:=by kernel_rfl
    refine Yvr [] 21 rfl rfl mix rfl (.c 0 rfl (.c 1 rfl .n))<|wfv 0 rfl (Yu3 rfl) gn hns rfl<|wfv 1 rfl (Yu3 rfl) gn hns rfl ?_
    have hr52:=Rw.readF (s:=St w []) (hl:=Yvw) (h1:=Yvy) h18 hb48
    refine wfv 2 rfl (Yv7 (s:=St w []) Yz5 rfl rfl h18 hb48) gn hns rfl<|wfv 3 rfl (Yvo Yyd rfl) gn hns rfl<|wfv 4 rfl (Yvj (kk:=(x34:Int).toNat * 3) (j:=0) (St w []) Yvt rfl hr52 rfl (me 1 rfl)) gn hns rfl<|wfv 5 rfl (Yug rfl rfl rfl) gn hns rfl<|wfv 6 rfl (Yu3 rfl) gn hns rfl<|Yv8 18 rfl ((decide_eq_true hp50))<|wfp 7 rfl (ps 18 rfl rfl rfl) hns rfl<|wfp 8 rfl (ps 18 rfl rfl rfl) hns rfl<|wfp 9 rfl (ps 18 rfl rfl rfl) hns rfl<|wfp 10 rfl (ps 18 rfl rfl rfl) hns rfl<|wfp 11 rfl (ps 18 rfl rfl rfl) hns rfl<|wfp 12 rfl (ps 18 rfl rfl rfl) hns rfl ?_
    refine wfp 13 rfl (ps 18 rfl rfl rfl) hns rfl<|wfp 14 rfl (ps 18 rfl rfl rfl) hns rfl<|wfp 15 rfl (ps 18 rfl rfl rfl) hns rfl<|wfp 16 rfl (ps 18 rfl rfl rfl) hns rfl<|wfp 17 rfl (ps 18 rfl rfl rfl) hns rfl<|wfp 18 rfl (ps 18 rfl rfl rfl) hns rfl<|wfp 19 rfl (ps 18 rfl rfl rfl) hns rfl<|wfv 20 rfl (Yuk (b:=true) rfl rfl) gn hns rfl<|Yvx (by kernel_rfl)<|Yv4 rfl _ rfl (rfl)<|Yu9 rfl<|Yu4 rfl rfl ?_
    refine Yu2 0 rfl (Yu7 rfl) gn rfl<|Yua 1 rfl ?_
    have h:=Out.inr hO1 h
    refine Yvb [.bool false] rfl Tryd.func76 rfl (.tmp rfl (.nil)) fun wr hLr=>?_
    have hMr:=hLr.pk0 (.c 1 rfl .n)
    show Zb0 w F  r (.returned (Yvl [.bool false])) wr
    rw [h]
    exact ⟨rfl,hMr⟩
   ·have h:=Yum hp50 h
    have hns:Region.noSelect (Code.ops q76c18)=true:=by kernel_rfl
    refine Yvr [] 21 rfl rfl mix rfl (.c 0 rfl (.c 1 rfl .n))<|wfv 0 rfl (Yu3 rfl) gn hns rfl<|wfv 1 rfl (Yu3 rfl) gn hns rfl ?_
    have hr56:=Rw.readF (s:=St w []) (hl:=Yvw) (h1:=Yvy) h18 hb48
    refine wfv 2 rfl (Yv7 (s:=St w []) Yz5 rfl rfl h18 hb48) gn hns rfl<|wfv 3 rfl (Yvo Yyd rfl) gn hns rfl<|wfv 4 rfl (Yvj (kk:=(x34:Int).toNat * 3) (j:=0) (St w []) Yvt rfl hr56 rfl (me 1 rfl)) gn hns rfl<|wfv 5 rfl (Yug rfl rfl rfl) gn hns rfl<|wfv 6 rfl (Yu3 rfl) gn hns rfl<|Yv8 18 rfl ((decide_eq_false hp50))<|wfv 7 rfl (Yu3 rfl) (gy 18 rfl rfl) hns rfl<|wfv 8 rfl (Yu3 rfl) (gy 18 rfl rfl) hns rfl ?_
    have hr57:=Rw.readF (s:=St w []) (hl:=Yvw) (h1:=Yvy) h18 hb48
    refine wfv 9 rfl (Yv7 (s:=St w []) Yz5 rfl rfl h18 hb48) (gy 18 rfl rfl) hns rfl<|wfv 10 rfl (Yvo Yyd rfl) (gy 18 rfl rfl) hns rfl<|wfv 11 rfl (Yvj (kk:=(x34:Int).toNat * 3) (j:=0) (St w []) Yvt rfl hr57 rfl (me 1 rfl)) (gy 18 rfl rfl) hns rfl<|wfv 12 rfl (Yub Yw7 rfl) (gy 18 rfl rfl) hns rfl<|wfv 13 rfl (Yue 0 Yz4 rfl rfl rfl) (gy 18 rfl rfl) hns rfl<|wfv 14 rfl (Yuo Yze rfl h5.hq) (gy 18 rfl rfl) hns rfl<|wfv 15 rfl (Yub Yxd rfl) (gy 18 rfl rfl) hns rfl<|wfv 16 rfl (Yue 0 Zak rfl rfl rfl) (gy 18 rfl rfl) hns rfl<|wfv 17 rfl (Yuo Zbm rfl h9.hq) (gy 18 rfl rfl) hns rfl<|wfv 18 rfl (Yug rfl rfl rfl) (gy 18 rfl rfl) hns rfl<|wfv 19 rfl (Yug rfl rfl rfl) (gy 18 rfl rfl) hns rfl<|wfv 20 rfl (Yuk (b:=false) rfl rfl) gn hns rfl ?_
    refine Yvx (by kernel_rfl) ?_
    by_cases hp58:(ix x14 x34).sym≥w64 ((x1.terms.length:Int) + (x1.syms.length:Int))
    ·have h:=Yul hp58 h
     refine Yv4 rfl _ rfl ((decide_eq_true hp58))<|Yu9 rfl<|Yu4 rfl rfl<|Yu2 0 rfl (Yu7 rfl) gn rfl<|Yua 1 rfl ?_
     have h:=Out.inr hO1 h
     refine Yvb [.bool false] rfl Tryd.func76 rfl (.tmp rfl (.nil)) fun wr hLr=>?_
     have hMr:=hLr.pk0 (.c 1 rfl .n)
     show Zb0 w F  r (.returned (Yvl [.bool false])) wr
     rw [h]
     exact ⟨rfl,hMr⟩
    ·have h:=Yum hp58 h
     refine Yur rfl _ rfl ((decide_eq_false hp58))<|Yv2 rfl<|Yux<|Yu4 rfl rfl<|Yu2 0 rfl (Yu3 rfl) gn rfl<|Yu2 1 rfl (Yug rfl rfl rfl) gn rfl<|Yu2 2 rfl (Yu7 rfl) gn rfl<|Yua 3 rfl<|Yv1 ?_
     have ih:=Out.inl hO1 h
     exact Yvh [0,1] (ih ()) ⟨rfl,rfl,rfl,trivial⟩ (.cons_cons _ (.slnil)) rfl
  ·have h:=Yum hp47 h
   refine Yur rfl _ rfl ((decide_eq_false hp47))<|Ywa [.code q76c4] rfl rfl<|Yu9 rfl<|Yu4 rfl rfl<|Yu2 0 rfl (Yu7 rfl) gn rfl<|Yua 1 rfl ?_
   have h:=Out.inr hO1 h
   refine Yvb [.bool true] rfl Tryd.func76 rfl (.tmp rfl (.nil)) fun wr hLr=>?_
   have hMr:=hLr.pk0 (.c 1 rfl .n)
   show Zb0 w F  r (.returned (Yvl [.bool true])) wr
   rw [h]
   exact ⟨rfl,hMr⟩
 exact Yvh [0,1] (key1 _ h ()) ⟨rfl,rfl,rfl,trivial⟩ (.cons_cons _ (.slnil)) rfl
noncomputable abbrev q69c4:=Code.snd (Code.snd (Yvq Tryd.f69))
noncomputable abbrev q69c6:=Code.snd (Code.fst (Code.snd (Yvq Tryd.f69)))
noncomputable abbrev Zpj:=Code.snd q69c4
noncomputable abbrev Zlm:=Code.fst (Code.fst (Code.snd (Code.fst q69c4)))
abbrev Yyg (w:World) (F:Nat→Prop) (r:Bool):Ending→World→Prop:=fun e w'=>e=.returned (.bool r)∧B.Loc w w' [] [St w []]
noncomputable abbrev Zab (w:World) (F:Nat→Prop) (r:Bool):Cx:=⟨Tryd.prog,69,Tryd.f69,51,Yyg w F  r,w⟩
theorem Ze7 (w:World) (F:Nat→Prop) (x1:Yu5) (A2:Option Addr) (n3:Nat) (c4:Nat) (A6:Option Addr) (n7:Nat) (c8:Nat) (A10:Option Addr) (n11:Nat) (c12:Nat) (h5:Rw Yuj w (St w []).av A2 n3 c4 x1.terms) (h9:Rw Yuq w (St w []).av A6 n7 c8 x1.syms) (h13:Rw Yun w (St w []).av A10 n11 c12 x1.prods) (hF:∀ b,F b→b < w.heap.size∧∀ o ∈ ([]:List (List Nat)),b ∉ o) (hL0:B.Loc w w [] [Sm w.heap.size F w [],St w []]) (r:Bool) (h:Za1 x1 r):Calls Tryd.prog 69 #[.agg #[.slice A2 n3 c4,.slice A6 n7 c8,.slice A10 n11 c12]] w (Yyg w F  r):=by
 unfold Za1 at h
 refine Yv5 (vs:=[.agg #[.slice A2 n3 c4,.slice A6 n7 c8,.slice A10 n11 c12]]) 51 Tryd.func69 rfl Tryd.ntmps69 rfl hL0 ?_
 show G (Zab w F r) _ _ _ _
 refine Yu9 rfl<|Yu4 rfl rfl ?_
 refine Yve 0 rfl (Zas [.slice A2 n3 c4,.slice A6 n7 c8,.slice A10 n11 c12] rfl rfl rfl fun gb14=>?_) gn
 refine Yu2 1 rfl (Yu7 rfl) gn rfl<|Yua 2 rfl<|Yu9 rfl<|Yu9 rfl ?_
 have j1:∀ (x19:Bool) (h:Yy8 x1 x19 r) ,G (Zab w F r) [.code q69c6,.code q69c4] [(1,.pointer (some ⟨gb14,0,none⟩)),(20,.bool x19)] [.box gb14 26 [.slice A2 n3 c4,.slice A6 n7 c8,.slice A10 n11 c12]] [Sm w.heap.size F w [],St w []]:=by
  intro x19 h
  unfold Yy8 at h
  by_cases hp20:x19=true
  ·have h:=Yul hp20 h
   refine Yv4 rfl _ rfl (hp20)<|Yu9 rfl<|Yu4 rfl rfl<|Yu2 0 rfl (Yu7 rfl) gn rfl<|Yua 1 rfl ?_
   refine Yvb [.bool false] rfl Tryd.func69 rfl (.tmp rfl (.nil)) fun wr hLr=>?_
   have hMr:=hLr.pk0 (.c 1 rfl .n)
   show Yyg w F  r (.returned (Yvl [.bool false])) wr
   rw [h]
   exact ⟨rfl,hMr⟩
  ·have h:=Yum hp20 h
   refine Yur rfl _ rfl ((bf hp20))<|Yv2 rfl<|Yu9 rfl<|Yu9 rfl<|Yu4 rfl rfl<|Yu2 0 rfl (Yu7 rfl) gn rfl<|Yua 1 rfl<|Yuw rfl<|Ywm rfl ?_
   have key2:∀ s,Yui (fun (s:Int) o=>Yy7 x1 s o) s r→(fun (s:Int)=>∀ (_:Unit),G (Zab w F r) [.code Zlm,.inLoop Zlm,.inBlock 0,.code Zpj] [(1,.pointer (some ⟨gb14,0,none⟩)),(3,.int .i64 s)] [.box gb14 26 [.slice A2 n3 c4,.slice A6 n7 c8,.slice A10 n11 c12]] [Sm w.heap.size F w [],St w []]) s:=by
    intro s hs
    refine Yui.ind (mot:=(fun (s:Int)=>∀ (_:Unit),G (Zab w F r) [.code Zlm,.inLoop Zlm,.inBlock 0,.code Zpj] [(1,.pointer (some ⟨gb14,0,none⟩)),(3,.int .i64 s)] [.box gb14 26 [.slice A2 n3 c4,.slice A6 n7 c8,.slice A10 n11 c12]] [Sm w.heap.size F w [],St w []])) ?_ hs
    clear hs s
    intro x44 o1 h hO1
    show ∀ (_:Unit),G (Zab w F r) [.code Zlm,.inLoop Zlm,.inBlock 0,.code Zpj] [(1,.pointer (some ⟨gb14,0,none⟩)),(3,.int .i64 x44)] [.box gb14 26 [.slice A2 n3 c4,.slice A6 n7 c8,.slice A10 n11 c12]] [Sm w.heap.size F w [],St w []]
    intro _
    have h:Yy7 x1 x44 o1:=h
    unfold Yy7 at h
    refine Yu9 rfl<|Yu9 rfl<|Yu4 rfl rfl<|Yu2 0 rfl (Yu3 rfl) gn rfl<|Yu2 1 rfl (Yub Yvf rfl) gn rfl<|Yu2 2 rfl (Yue 0 Ywb rfl rfl rfl) gn rfl<|Yu2 3 rfl (Yuo Za3 rfl h13.hq) gn rfl<|Yu2 4 rfl (Yug rfl rfl rfl) gn rfl<|Yua 5 rfl ?_
    by_cases hp67:x44 < (x1.prods.length:Int)
    ·have h:=Yul hp67 h
     refine Yv4 rfl _ rfl ((decide_eq_true hp67))<|Yv2 rfl<|Yu9 rfl<|Yuw rfl<|Yu9 rfl<|Yu4 rfl rfl<|Yu2 0 rfl (Yub Yvf rfl) gn rfl<|Yu2 1 rfl (Yue 0 Ywb rfl rfl rfl) gn rfl<|Yu2 2 rfl (Yu3 rfl) gn rfl ?_
     obtain ⟨hb68,h⟩:=h
     obtain ⟨ce70,hK71,hr69⟩:=Rw.read (s:=St w []) h13 hb68
     obtain ⟨A72,n73,c74,rfl,h75⟩:=hK71
     refine Yu2 3 rfl (Yv7 (s:=St w []) Yxh rfl rfl h13 hb68) gn rfl<|Yu2 4 rfl (Zdb (St w []) Zko rfl hr69 rfl (me 1 rfl)) gn rfl ?_
     refine Yve 5 rfl (Yye [.int .i64 0,.slice none 0 0] Zl0 rfl fun gb76=>?_) gn
     refine Yve 6 rfl (Za4 (vs:=[.int .i64 ((ix x1.prods x44).lhs),.slice A72 n73 c74]) (cs':=[.int .i64 ((ix x1.prods x44).lhs),.slice A72 n73 c74]) (M':=[.box gb76 63 [.int .i64 ((ix x1.prods x44).lhs),.slice A72 n73 c74],.box gb14 26 [.slice A2 n3 c4,.slice A6 n7 c8,.slice A10 n11 c12]]) 0 Zkw rfl rfl rfl rfl rfl rfl rfl rfl rfl ?_) gn
     refine Yua 7 rfl<|Yu9 rfl<|Yu4 rfl rfl<|Yu2 0 rfl (Yub Yx3 rfl) gn rfl<|Yu2 1 rfl (Yue 0 Yvt rfl rfl rfl) gn rfl<|Yu2 2 rfl (Yug rfl rfl rfl) gn rfl<|Yu2 3 rfl (Yu3 rfl) gn rfl ?_
     by_cases hp78:(ix x1.prods x44).lhs < -1
     ·have h:=Yul hp78 h
      refine Yvi 36 rfl ((decide_eq_true hp78))<|Yu6 4 rfl (ps 36 rfl rfl rfl)<|Yu6 5 rfl (ps 36 rfl rfl rfl)<|Yu6 6 rfl (ps 36 rfl rfl rfl)<|Yu6 7 rfl (ps 36 rfl rfl rfl)<|Yu6 8 rfl (ps 36 rfl rfl rfl)<|Yu6 9 rfl (ps 36 rfl rfl rfl)<|Yu2 10 rfl (Yuk (b:=true) rfl rfl) gn rfl<|Yu2 11 rfl (Yu3 rfl) gn rfl<|Yu6 12 rfl (ps 44 rfl rfl rfl)<|Yu6 13 rfl (ps 44 rfl rfl rfl)<|Yu6 14 rfl (ps 44 rfl rfl rfl) ?_
      refine Yu6 15 rfl (ps 44 rfl rfl rfl)<|Yu6 16 rfl (ps 44 rfl rfl rfl)<|Yu2 17 rfl (Yuk (b:=true) rfl rfl) gn rfl<|Yua 18 rfl<|Yv4 rfl _ rfl (rfl)<|Yu9 rfl<|Yu4 rfl rfl<|Yu2 0 rfl (Yu7 rfl) gn rfl<|Yua 1 rfl ?_
      have h:=Out.inr hO1 h
      refine Yvb [.bool false] rfl Tryd.func69 rfl (.tmp rfl (.nil)) fun wr hLr=>?_
      have hMr:=hLr.pk0 (.c 1 rfl .n)
      show Yyg w F  r (.returned (Yvl [.bool false])) wr
      rw [h]
      exact ⟨rfl,hMr⟩
     ·have h:=Yum hp78 h
      refine Yvi 36 rfl ((decide_eq_false hp78))<|Yu2 4 rfl (Yub Yx3 rfl) (gy 36 rfl rfl) rfl<|Yu2 5 rfl (Yue 0 Yvt rfl rfl rfl) (gy 36 rfl rfl) rfl<|Yu2 6 rfl (Yub Yxd rfl) (gy 36 rfl rfl) rfl<|Yu2 7 rfl (Yue 1 Zak rfl rfl rfl) (gy 36 rfl rfl) rfl<|Yu2 8 rfl (Yuo Zbm rfl h9.hq) (gy 36 rfl rfl) rfl<|Yu2 9 rfl (Yug rfl rfl rfl) (gy 36 rfl rfl) rfl<|Yu2 10 rfl (Yuk (b:=false) rfl rfl) gn rfl<|Yu2 11 rfl (Yu3 rfl) gn rfl ?_
      by_cases hp79:(ix x1.prods x44).lhs≥(x1.syms.length:Int)
      ·have h:=Yul hp79 h
       refine Yvi 44 rfl ((decide_eq_true hp79))<|Yu6 12 rfl (ps 44 rfl rfl rfl)<|Yu6 13 rfl (ps 44 rfl rfl rfl)<|Yu6 14 rfl (ps 44 rfl rfl rfl)<|Yu6 15 rfl (ps 44 rfl rfl rfl)<|Yu6 16 rfl (ps 44 rfl rfl rfl)<|Yu2 17 rfl (Yuk (b:=true) rfl rfl) gn rfl<|Yua 18 rfl<|Yv4 rfl _ rfl (rfl)<|Yu9 rfl<|Yu4 rfl rfl<|Yu2 0 rfl (Yu7 rfl) gn rfl ?_
       refine Yua 1 rfl ?_
       have h:=Out.inr hO1 h
       refine Yvb [.bool false] rfl Tryd.func69 rfl (.tmp rfl (.nil)) fun wr hLr=>?_
       have hMr:=hLr.pk0 (.c 1 rfl .n)
       show Yyg w F  r (.returned (Yvl [.bool false])) wr
       rw [h]
       exact ⟨rfl,hMr⟩
      ·have h:=Yum hp79 h
       refine Yvi 44 rfl ((decide_eq_false hp79))<|Yu2 12 rfl (Yyr [.slice A2 n3 c4,.slice A6 n7 c8,.slice A10 n11 c12] 1 Yys rfl rfl rfl rfl) (gy 44 rfl rfl) rfl<|Yu2 13 rfl (Yub Yw1 rfl) (gy 44 rfl rfl) rfl<|Yu2 14 rfl (Yue 0 Yyc rfl rfl rfl) (gy 44 rfl rfl) rfl ?_
       obtain ⟨r83,hv84,h⟩:=h
       refine Yve 15 rfl (Yvz [.agg #[.slice A2 n3 c4,.slice A6 n7 c8,.slice A10 n11 c12],.slice A72 n73 c74] rfl Tryd.func76 rfl rfl rfl fun w80 hL81=>?_) (gy 44 rfl rfl)
       have hp82:=pmI hL81 .n (.c 0 rfl (.c 1 rfl .n)) (by kernel_rfl)
       refine Calls.mono (Zhs w80 (Fl ([]:List Yva)) x1 ((ix x1.prods x44).rhs) A2 n3 c4 A6 n7 c8 A10 n11 c12 A72 n73 c74 (Rw.mono h5 (hL81.toSt hp82 (me 1 rfl))) (Rw.mono h9 (hL81.toSt hp82 (me 1 rfl))) (Rw.mono h13 (hL81.toSt hp82 (me 1 rfl))) (Rw.mono h75 (hL81.toSt hp82 (me 1 rfl))) (hL81.hFl hp82 (Yvm [] rfl)) (hL81.into hp82 _) r83 hv84) ?_
       rintro _ w85 ⟨rfl,hM86⟩
       have hL87:=hL81.call hp82 hM86
       refine ⟨_,_,_,rfl,hL87,?_⟩
       refine Yu2 16 rfl (Zf9 rfl) (gy 44 rfl rfl) rfl<|Yu2 17 rfl (Yuk (b:=false) rfl rfl) gn rfl<|Yua 18 rfl ?_
       by_cases hp88:r83=true
       ·have h:=Yul hp88 h
        refine Yur rfl _ rfl ((nf hp88))<|Yv2 rfl<|Yux<|Yu4 rfl rfl<|Yu2 0 rfl (Yu3 rfl) gn rfl<|Yu2 1 rfl (Yug rfl rfl rfl) gn rfl<|Yu2 2 rfl (Yu7 rfl) gn rfl<|Yua 3 rfl<|Yv1 ?_
        have ih:=Out.inl hO1 h
        exact Yvh [0,1] (ih ()) ⟨rfl,rfl,trivial⟩ (.cons _ (.cons_cons _ (.slnil))) rfl
       ·have h:=Yum hp88 h
        refine Yv4 rfl _ rfl ((nt (bf hp88)))<|Yu9 rfl<|Yu4 rfl rfl<|Yu2 0 rfl (Yu7 rfl) gn rfl<|Yua 1 rfl ?_
        have h:=Out.inr hO1 h
        refine Yvb [.bool false] rfl Tryd.func69 rfl (.tmp rfl (.nil)) fun wr hLr=>?_
        have hMr:=hLr.pk0 (.c 1 rfl .n)
        show Yyg w F  r (.returned (Yvl [.bool false])) wr
        rw [h]
        exact ⟨rfl,hMr⟩
    ·have h:=Yum hp67 h
     refine Yur rfl _ rfl ((decide_eq_false hp67))<|Ywa [.code Zpj] rfl rfl<|Yu9 rfl<|Yu4 rfl rfl<|Yu2 0 rfl (Yu7 rfl) gn rfl<|Yua 1 rfl ?_
     have h:=Out.inr hO1 h
     refine Yvb [.bool true] rfl Tryd.func69 rfl (.tmp rfl (.nil)) fun wr hLr=>?_
     have hMr:=hLr.pk0 (.c 1 rfl .n)
     show Yyg w F  r (.returned (Yvl [.bool true])) wr
     rw [h]
     exact ⟨rfl,hMr⟩
   exact Yvh [0,1] (key2 _ h ()) ⟨rfl,rfl,trivial⟩ (.cons_cons _ (.slnil)) rfl
 refine Yu4 rfl rfl<|Yu2 0 rfl (Yub Yw7 rfl) gn rfl<|Yu2 1 rfl (Yue 0 Yz4 rfl rfl rfl) gn rfl<|Yu2 2 rfl (Yuo Yze rfl h5.hq) gn rfl<|Yu2 3 rfl (Yug rfl rfl rfl) gn rfl<|Yu2 4 rfl (Yu3 rfl) gn rfl ?_
 by_cases hp89:(x1.terms.length:Int) < 1
 ·have h:=Yul hp89 h
  refine Yvi 9 rfl ((decide_eq_true hp89))<|Yu6 5 rfl (ps 9 rfl rfl rfl)<|Yu6 6 rfl (ps 9 rfl rfl rfl)<|Yu6 7 rfl (ps 9 rfl rfl rfl)<|Yu6 8 rfl (ps 9 rfl rfl rfl)<|Yu2 9 rfl (Yuk (b:=true) rfl rfl) gn rfl<|Yu2 10 rfl (Yu3 rfl) gn rfl<|Yu6 11 rfl (ps 15 rfl rfl rfl)<|Yu6 12 rfl (ps 15 rfl rfl rfl)<|Yu6 13 rfl (ps 15 rfl rfl rfl)<|Yu6 14 rfl (ps 15 rfl rfl rfl)<|Yu2 15 rfl (Yuk (b:=true) rfl rfl) gn rfl ?_
  refine Yua 16 rfl ?_
  exact Yvh [0,1] (j1 true h) ⟨rfl,rfl,trivial⟩ (.cons_cons _ (.slnil)) rfl
 ·have h:=Yum hp89 h
  refine Yvi 9 rfl ((decide_eq_false hp89))<|Yu2 5 rfl (Yub Yw7 rfl) (gy 9 rfl rfl) rfl<|Yu2 6 rfl (Yue 0 Yz4 rfl rfl rfl) (gy 9 rfl rfl) rfl<|Yu2 7 rfl (Yuo Yze rfl h5.hq) (gy 9 rfl rfl) rfl<|Yu2 8 rfl (Yug rfl rfl rfl) (gy 9 rfl rfl) rfl<|Yu2 9 rfl (Yuk (b:=false) rfl rfl) gn rfl<|Yu2 10 rfl (Yu3 rfl) gn rfl ?_
  by_cases hp90:(x1.terms.length:Int) > 64
  ·have h:=Yul hp90 h
   refine Yvi 15 rfl ((decide_eq_true hp90))<|Yu6 11 rfl (ps 15 rfl rfl rfl)<|Yu6 12 rfl (ps 15 rfl rfl rfl)<|Yu6 13 rfl (ps 15 rfl rfl rfl)<|Yu6 14 rfl (ps 15 rfl rfl rfl)<|Yu2 15 rfl (Yuk (b:=true) rfl rfl) gn rfl<|Yua 16 rfl ?_
   exact Yvh [0,1] (j1 true h) ⟨rfl,rfl,trivial⟩ (.cons_cons _ (.slnil)) rfl
  ·have h:=Yum hp90 h
   refine Yvi 15 rfl ((decide_eq_false hp90))<|Yu2 11 rfl (Yub Yxd rfl) (gy 15 rfl rfl) rfl<|Yu2 12 rfl (Yue 0 Zak rfl rfl rfl) (gy 15 rfl rfl) rfl<|Yu2 13 rfl (Yuo Zbm rfl h9.hq) (gy 15 rfl rfl) rfl<|Yu2 14 rfl (Yug rfl rfl rfl) (gy 15 rfl rfl) rfl<|Yu2 15 rfl (Yuk (b:=false) rfl rfl) gn rfl<|Yua 16 rfl ?_
   exact Yvh [0,1] (j1 (decide ((x1.syms.length:Int) > 128)) h) ⟨rfl,rfl,trivial⟩ (.cons_cons _ (.slnil)) rfl
noncomputable abbrev q70c4:=Code.snd (Code.snd (Yvq Tryd.f70))
noncomputable abbrev Zol:=Code.fst (Code.fst (Code.snd (Code.fst (Code.snd (Yvq Tryd.f70)))))
abbrev Zbu (w:World) (F:Nat→Prop) (r:Bool):Ending→World→Prop:=fun e w'=>e=.returned (.bool r)∧B.Loc w w' [] [St w []]
noncomputable abbrev Zbw (w:World) (F:Nat→Prop) (r:Bool):Cx:=⟨Tryd.prog,70,Tryd.f70,21,Zbu w F  r,w⟩
theorem Zhr (w:World) (F:Nat→Prop) (x1:List Bool) (x6:List Yut) (A2:Option Addr) (n3:Nat) (c4:Nat) (A7:Option Addr) (n8:Nat) (c9:Nat) (h5:Rw Yzi w (St w []).av A2 n3 c4 x1) (h10:Rw Zav w (St w []).av A7 n8 c9 x6) (hF:∀ b,F b→b < w.heap.size∧∀ o ∈ ([]:List (List Nat)),b ∉ o) (hL0:B.Loc w w [] [Sm w.heap.size F w [],St w []]) (r:Bool) (h:Zbj x1 x6 r):Calls Tryd.prog 70 #[.slice A2 n3 c4,.slice A7 n8 c9] w (Zbu w F  r):=by
 unfold Zbj at h
 refine Yv5 (vs:=[.slice A2 n3 c4,.slice A7 n8 c9]) 21 Tryd.func70 rfl Tryd.ntmps70 rfl hL0 ?_
 show G (Zbw w F r) _ _ _ _
 refine Yu9 rfl<|Yu4 rfl rfl<|Yu2 0 rfl (Yu7 rfl) gn rfl<|Yua 1 rfl<|Yu9 rfl<|Yu9 rfl<|Yu4 rfl rfl<|Yu2 0 rfl (Yu7 rfl) gn rfl<|Yua 1 rfl<|Yuw rfl<|Ywm rfl ?_
 have key1:∀ s,Yui (fun (s:Int) o=>Yyk x6 x1 s o) s r→(fun (s:Int)=>∀ (_:Unit),G (Zbw w F r) [.code Zol,.inLoop Zol,.inBlock 0,.code q70c4] [(0,.slice A2 n3 c4),(1,.slice A7 n8 c9),(5,.int .i64 s)] [] [Sm w.heap.size F w [],St w []]) s:=by
  intro s hs
  refine Yui.ind (mot:=(fun (s:Int)=>∀ (_:Unit),G (Zbw w F r) [.code Zol,.inLoop Zol,.inBlock 0,.code q70c4] [(0,.slice A2 n3 c4),(1,.slice A7 n8 c9),(5,.int .i64 s)] [] [Sm w.heap.size F w [],St w []])) ?_ hs
  clear hs s
  intro x18 o1 h hO1
  show ∀ (_:Unit),G (Zbw w F r) [.code Zol,.inLoop Zol,.inBlock 0,.code q70c4] [(0,.slice A2 n3 c4),(1,.slice A7 n8 c9),(5,.int .i64 x18)] [] [Sm w.heap.size F w [],St w []]
  intro _
  have h:Yyk x6 x1 x18 o1:=h
  unfold Yyk at h
  refine Yu9 rfl<|Yu9 rfl<|Yu4 rfl rfl<|Yu2 0 rfl (Yu3 rfl) gn rfl<|Yu2 1 rfl (Yu3 rfl) gn rfl<|Yu2 2 rfl (Yuo Za5 rfl h10.hq) gn rfl<|Yu2 3 rfl (Yug rfl rfl rfl) gn rfl<|Yua 4 rfl ?_
  by_cases hp25:x18 < (x6.length:Int)
  ·have h:=Yul hp25 h
   refine Yv4 rfl _ rfl ((decide_eq_true hp25))<|Yv2 rfl<|Yu9 rfl<|Yuw rfl<|Yu9 rfl<|Yu4 rfl rfl<|Yu2 0 rfl (Yu3 rfl) gn rfl<|Yu2 1 rfl (Yu3 rfl) gn rfl<|Yu2 2 rfl (Yu3 rfl) gn rfl ?_
   obtain ⟨hb26,h⟩:=h
   have hr27:=Rw.readF (s:=St w []) (hl:=Yvw) (h1:=Yvy) h10 hb26
   refine Yu2 3 rfl (Yv7 (s:=St w []) Yz5 rfl rfl h10 hb26) gn rfl<|Yu2 4 rfl (Yvo Yyd rfl) gn rfl<|Yu2 5 rfl (Yvj (kk:=(x18:Int).toNat * 3) (j:=0) (St w []) Yvt rfl hr27 rfl (me 1 rfl)) gn rfl ?_
   obtain ⟨hb28,h⟩:=h
   have hr29:=Rw.readF (s:=St w []) (hl:=hlB) (h1:=Zji) h5 hb28
   refine Yu2 6 rfl (Yv7 (s:=St w []) Zfl rfl rfl h5 hb28) gn rfl<|Yu2 7 rfl (Yvj (kk:=((ix x6 x18).sym:Int).toNat * 1) (j:=0) (St w []) Zlq rfl hr29 rfl (me 1 rfl)) gn rfl<|Yu2 8 rfl (Zf9 rfl) gn rfl<|Yua 9 rfl ?_
   by_cases hp30:(ix x1 ((ix x6 x18).sym))=true
   ·have h:=Yul hp30 h
    refine Yur rfl _ rfl ((nf hp30))<|Yv2 rfl<|Yux<|Yu4 rfl rfl<|Yu2 0 rfl (Yu3 rfl) gn rfl<|Yu2 1 rfl (Yug rfl rfl rfl) gn rfl<|Yu2 2 rfl (Yu7 rfl) gn rfl<|Yua 3 rfl<|Yv1 ?_
    have ih:=Out.inl hO1 h
    exact Yvh [0,1] (ih ()) ⟨rfl,rfl,rfl,trivial⟩ (.slnil) rfl
   ·have h:=Yum hp30 h
    refine Yv4 rfl _ rfl ((nt (bf hp30)))<|Yu9 rfl<|Yu4 rfl rfl<|Yu2 0 rfl (Yu7 rfl) gn rfl<|Yua 1 rfl ?_
    have h:=Out.inr hO1 h
    refine Yvb [.bool false] rfl Tryd.func70 rfl (.tmp rfl (.nil)) fun wr hLr=>?_
    have hMr:=hLr.pk0 (.c 1 rfl .n)
    show Zbu w F  r (.returned (Yvl [.bool false])) wr
    rw [h]
    exact ⟨rfl,hMr⟩
  ·have h:=Yum hp25 h
   refine Yur rfl _ rfl ((decide_eq_false hp25))<|Ywa [.code q70c4] rfl rfl<|Yu9 rfl<|Yu4 rfl rfl<|Yu2 0 rfl (Yu7 rfl) gn rfl<|Yua 1 rfl ?_
   have h:=Out.inr hO1 h
   refine Yvb [.bool true] rfl Tryd.func70 rfl (.tmp rfl (.nil)) fun wr hLr=>?_
   have hMr:=hLr.pk0 (.c 1 rfl .n)
   show Zbu w F  r (.returned (Yvl [.bool true])) wr
   rw [h]
   exact ⟨rfl,hMr⟩
 exact Yvh [0,1] (key1 _ h ()) ⟨rfl,rfl,rfl,trivial⟩ (.slnil) rfl
noncomputable abbrev Zir:=Code.snd (Code.snd (Code.snd (Code.snd (Yvq Tryd.f62))))
noncomputable abbrev Zfw:=Code.fst (Code.fst (Code.snd (Code.fst (Code.snd (Code.snd (Code.snd (Yvq Tryd.f62)))))))
noncomputable abbrev Zpr:=Code.snd (Code.snd Zfw)
noncomputable abbrev Zlg:=Code.fst (Code.fst (Code.snd (Code.fst (Code.fst (Code.snd Zfw)))))
abbrev Zag (w:World) (F:Nat→Prop) (r:List Bool):Ending→World→Prop:=fun e w'=>∃ A0:Option Addr,∃ n0:Nat,∃ c0:Nat,e=.returned (.slice A0 n0 c0)∧B.Loc w w' [.own (.slice A0 n0 c0) 4 1 n0 (r.flatMap eB)] [St w []]∧Ow w.heap.size A0 n0 c0 r
noncomputable abbrev Yxr (w:World) (F:Nat→Prop) (r:List Bool):Cx:=⟨Tryd.prog,62,Tryd.f62,55,Zag w F  r,w⟩
theorem Zd7 (w:World) (F:Nat→Prop) (x1:Yu5) (A2:Option Addr) (n3:Nat) (c4:Nat) (A6:Option Addr) (n7:Nat) (c8:Nat) (A10:Option Addr) (n11:Nat) (c12:Nat) (h5:Rw Yuj w (St w []).av A2 n3 c4 x1.terms) (h9:Rw Yuq w (St w []).av A6 n7 c8 x1.syms) (h13:Rw Yun w (St w []).av A10 n11 c12 x1.prods) (hF:∀ b,F b→b < w.heap.size∧∀ o ∈ ([]:List (List Nat)),b ∉ o) (hL0:B.Loc w w [] [Sm w.heap.size F w [],St w []]) (r:List Bool) (h:Yzt x1 r):Calls Tryd.prog 62 #[.agg #[.slice A2 n3 c4,.slice A6 n7 c8,.slice A10 n11 c12]] w (Zag w F  r):=by
 unfold Yzt at h
 refine Yv5 (vs:=[.agg #[.slice A2 n3 c4,.slice A6 n7 c8,.slice A10 n11 c12]]) 55 Tryd.func62 rfl Tryd.ntmps62 rfl hL0 ?_
 show G (Yxr w F r) _ _ _ _
 refine Yu9 rfl<|Yu4 rfl rfl ?_
 refine Yve 0 rfl (Zas [.slice A2 n3 c4,.slice A6 n7 c8,.slice A10 n11 c12] rfl rfl rfl fun gb14=>?_) gn
 refine Yu2 1 rfl (Yu7 rfl) gn rfl<|Yua 2 rfl<|Yu9 rfl<|Yu9 rfl<|Yu4 rfl rfl<|Yu2 0 rfl (Yyr [.slice A2 n3 c4,.slice A6 n7 c8,.slice A10 n11 c12] 0 Yys rfl rfl rfl rfl) gn rfl ?_
 obtain ⟨r19,hv20,h⟩:=h
 refine Yve 1 rfl (Yvz [.agg #[.slice A2 n3 c4,.slice A6 n7 c8,.slice A10 n11 c12]] rfl Tryd.func69 rfl rfl rfl fun w16 hL17=>?_) gn
 have hp18:=pmI hL17 .n (.c 0 rfl .n) (by kernel_rfl)
 refine Calls.mono (Ze7 w16 (Fl ([]:List Yva)) x1 A2 n3 c4 A6 n7 c8 A10 n11 c12 (Rw.mono h5 (hL17.toSt hp18 (me 1 rfl))) (Rw.mono h9 (hL17.toSt hp18 (me 1 rfl))) (Rw.mono h13 (hL17.toSt hp18 (me 1 rfl))) (hL17.hFl hp18 (Yvm [] rfl)) (hL17.into hp18 _) r19 hv20) ?_
 rintro _ w21 ⟨rfl,hM22⟩
 have hL23:=hL17.call hp18 hM22
 refine ⟨_,_,_,rfl,hL23,?_⟩
 refine Yu2 2 rfl (Zf9 rfl) gn rfl<|Yua 3 rfl ?_
 by_cases hp24:r19=true
 ·have h:=Yul hp24 h
  refine Yur rfl _ rfl ((nf hp24))<|Yv2 rfl<|Yu9 rfl<|Yu4 rfl rfl<|Yu2 0 rfl (Yub Yw7 rfl) gn rfl<|Yu2 1 rfl (Yue 0 Yz4 rfl rfl rfl) gn rfl<|Yu2 2 rfl (Yuo Yze rfl h5.hq) gn rfl<|Yu2 3 rfl (Yub Yxd rfl) gn rfl<|Yu2 4 rfl (Yue 0 Zak rfl rfl rfl) gn rfl<|Yu2 5 rfl (Yuo Zbm rfl h9.hq) gn rfl<|Yu2 6 rfl (Yug rfl rfl rfl) gn rfl ?_
  obtain ⟨hb25,h⟩:=h
  obtain ⟨x29,hv30,h⟩:=h
  refine Yve 7 rfl (Zib (enc:=eB) (z:=false) mk_103 rfl (by decide) rfl rfl hb25.1 hb25.2 (by decide) hv30 rfl fun A26 h27=>?_) gn
  refine Yu2 8 rfl (Yu7 rfl) gn rfl<|Yua 9 rfl<|Yu9 rfl<|Yu9 rfl<|Yu4 rfl rfl<|Yu2 0 rfl (Yu7 rfl) gn rfl<|Yua 1 rfl<|Yuw rfl<|Ywm rfl ?_
  have key1:∀ s,Yui (fun (s:(List Bool) × Int) o=>Ywc x1 s.1 s.2 o) s r→(fun (s:(List Bool) × Int)=>∀ (h113:Ow w.heap.size A26 (w64 ((x1.terms.length:Int) + (x1.syms.length:Int)):Int).toNat (w64 ((x1.terms.length:Int) + (x1.syms.length:Int)):Int).toNat s.1),G (Yxr w F r) [.code Zfw,.inLoop Zfw,.inBlock 0,.code Zir] [(1,.pointer (some ⟨gb14,0,none⟩)),(3,.slice A26 ((w64 ((x1.terms.length:Int) + (x1.syms.length:Int)):Int).toNat) ((w64 ((x1.terms.length:Int) + (x1.syms.length:Int)):Int).toNat)),(4,.int .i64 s.2)] [.own (.slice A26 ((w64 ((x1.terms.length:Int) + (x1.syms.length:Int)):Int).toNat) ((w64 ((x1.terms.length:Int) + (x1.syms.length:Int)):Int).toNat)) 4 1 ((w64 ((x1.terms.length:Int) + (x1.syms.length:Int)):Int).toNat) (s.1.flatMap eB),.box gb14 26 [.slice A2 n3 c4,.slice A6 n7 c8,.slice A10 n11 c12]] [Sm w.heap.size F w [],St w []]) s:=by
   intro s hs
   refine Yui.ind (mot:=(fun (s:(List Bool) × Int)=>∀ (h113:Ow w.heap.size A26 (w64 ((x1.terms.length:Int) + (x1.syms.length:Int)):Int).toNat (w64 ((x1.terms.length:Int) + (x1.syms.length:Int)):Int).toNat s.1),G (Yxr w F r) [.code Zfw,.inLoop Zfw,.inBlock 0,.code Zir] [(1,.pointer (some ⟨gb14,0,none⟩)),(3,.slice A26 ((w64 ((x1.terms.length:Int) + (x1.syms.length:Int)):Int).toNat) ((w64 ((x1.terms.length:Int) + (x1.syms.length:Int)):Int).toNat)),(4,.int .i64 s.2)] [.own (.slice A26 ((w64 ((x1.terms.length:Int) + (x1.syms.length:Int)):Int).toNat) ((w64 ((x1.terms.length:Int) + (x1.syms.length:Int)):Int).toNat)) 4 1 ((w64 ((x1.terms.length:Int) + (x1.syms.length:Int)):Int).toNat) (s.1.flatMap eB),.box gb14 26 [.slice A2 n3 c4,.slice A6 n7 c8,.slice A10 n11 c12]] [Sm w.heap.size F w [],St w []])) ?_ hs
   clear hs s
   intro s o1 h hO1
   obtain ⟨x112,x114⟩:=s
   show ∀ (h113:Ow w.heap.size A26 (w64 ((x1.terms.length:Int) + (x1.syms.length:Int)):Int).toNat (w64 ((x1.terms.length:Int) + (x1.syms.length:Int)):Int).toNat x112),G (Yxr w F r) [.code Zfw,.inLoop Zfw,.inBlock 0,.code Zir] [(1,.pointer (some ⟨gb14,0,none⟩)),(3,.slice A26 ((w64 ((x1.terms.length:Int) + (x1.syms.length:Int)):Int).toNat) ((w64 ((x1.terms.length:Int) + (x1.syms.length:Int)):Int).toNat)),(4,.int .i64 x114)] [.own (.slice A26 ((w64 ((x1.terms.length:Int) + (x1.syms.length:Int)):Int).toNat) ((w64 ((x1.terms.length:Int) + (x1.syms.length:Int)):Int).toNat)) 4 1 ((w64 ((x1.terms.length:Int) + (x1.syms.length:Int)):Int).toNat) (x112.flatMap eB),.box gb14 26 [.slice A2 n3 c4,.slice A6 n7 c8,.slice A10 n11 c12]] [Sm w.heap.size F w [],St w []]
   intro h113
   have h:Ywc x1 x112 x114 o1:=h
   unfold Ywc at h
   refine Yu9 rfl<|Yu9 rfl<|Yu4 rfl rfl<|Yu2 0 rfl (Yu3 rfl) gn rfl<|Yu2 1 rfl (Yub Yxd rfl) gn rfl<|Yu2 2 rfl (Yue 1 Zak rfl rfl rfl) gn rfl<|Yu2 3 rfl (Yuo Zbm rfl h9.hq) gn rfl<|Yu2 4 rfl (Yug rfl rfl rfl) gn rfl<|Yua 5 rfl ?_
   by_cases hp195:x114 < (x1.syms.length:Int)
   ·have h:=Yul hp195 h
    refine Yv4 rfl _ rfl ((decide_eq_true hp195))<|Yv2 rfl<|Yu9 rfl<|Yuw rfl<|Yu9 rfl<|Yu4 rfl rfl<|Yu2 0 rfl (Yu7 rfl) gn rfl<|Yua 1 rfl<|Yuw rfl<|Ywm rfl ?_
    have key2:∀ s,Yui (fun (s:(List Bool) × Int) o=>Ywg x1 x114 s.1 s.2 o) s o1→(fun (s:(List Bool) × Int)=>∀ (h223:Ow w.heap.size A26 (w64 ((x1.terms.length:Int) + (x1.syms.length:Int)):Int).toNat (w64 ((x1.terms.length:Int) + (x1.syms.length:Int)):Int).toNat s.1),G (Yxr w F r) [.code Zlg,.inLoop Zlg,.inBlock 2,.inBlock 1,.code Zpr,.inLoop Zfw,.inBlock 0,.code Zir] [(1,.pointer (some ⟨gb14,0,none⟩)),(3,.slice A26 ((w64 ((x1.terms.length:Int) + (x1.syms.length:Int)):Int).toNat) ((w64 ((x1.terms.length:Int) + (x1.syms.length:Int)):Int).toNat)),(4,.int .i64 x114),(5,.int .i64 s.2)] [.own (.slice A26 ((w64 ((x1.terms.length:Int) + (x1.syms.length:Int)):Int).toNat) ((w64 ((x1.terms.length:Int) + (x1.syms.length:Int)):Int).toNat)) 4 1 ((w64 ((x1.terms.length:Int) + (x1.syms.length:Int)):Int).toNat) (s.1.flatMap eB),.box gb14 26 [.slice A2 n3 c4,.slice A6 n7 c8,.slice A10 n11 c12]] [Sm w.heap.size F w [],St w []]) s:=by
     intro s hs
     refine Yui.ind (mot:=(fun (s:(List Bool) × Int)=>∀ (h223:Ow w.heap.size A26 (w64 ((x1.terms.length:Int) + (x1.syms.length:Int)):Int).toNat (w64 ((x1.terms.length:Int) + (x1.syms.length:Int)):Int).toNat s.1),G (Yxr w F r) [.code Zlg,.inLoop Zlg,.inBlock 2,.inBlock 1,.code Zpr,.inLoop Zfw,.inBlock 0,.code Zir] [(1,.pointer (some ⟨gb14,0,none⟩)),(3,.slice A26 ((w64 ((x1.terms.length:Int) + (x1.syms.length:Int)):Int).toNat) ((w64 ((x1.terms.length:Int) + (x1.syms.length:Int)):Int).toNat)),(4,.int .i64 x114),(5,.int .i64 s.2)] [.own (.slice A26 ((w64 ((x1.terms.length:Int) + (x1.syms.length:Int)):Int).toNat) ((w64 ((x1.terms.length:Int) + (x1.syms.length:Int)):Int).toNat)) 4 1 ((w64 ((x1.terms.length:Int) + (x1.syms.length:Int)):Int).toNat) (s.1.flatMap eB),.box gb14 26 [.slice A2 n3 c4,.slice A6 n7 c8,.slice A10 n11 c12]] [Sm w.heap.size F w [],St w []])) ?_ hs
     clear hs s
     intro s o2 h hO2
     obtain ⟨x222,x224⟩:=s
     show ∀ (h223:Ow w.heap.size A26 (w64 ((x1.terms.length:Int) + (x1.syms.length:Int)):Int).toNat (w64 ((x1.terms.length:Int) + (x1.syms.length:Int)):Int).toNat x222),G (Yxr w F r) [.code Zlg,.inLoop Zlg,.inBlock 2,.inBlock 1,.code Zpr,.inLoop Zfw,.inBlock 0,.code Zir] [(1,.pointer (some ⟨gb14,0,none⟩)),(3,.slice A26 ((w64 ((x1.terms.length:Int) + (x1.syms.length:Int)):Int).toNat) ((w64 ((x1.terms.length:Int) + (x1.syms.length:Int)):Int).toNat)),(4,.int .i64 x114),(5,.int .i64 x224)] [.own (.slice A26 ((w64 ((x1.terms.length:Int) + (x1.syms.length:Int)):Int).toNat) ((w64 ((x1.terms.length:Int) + (x1.syms.length:Int)):Int).toNat)) 4 1 ((w64 ((x1.terms.length:Int) + (x1.syms.length:Int)):Int).toNat) (x222.flatMap eB),.box gb14 26 [.slice A2 n3 c4,.slice A6 n7 c8,.slice A10 n11 c12]] [Sm w.heap.size F w [],St w []]
     intro h223
     have h:Ywg x1 x114 x222 x224 o2:=h
     unfold Ywg at h
     refine Yu9 rfl<|Yu9 rfl<|Yu4 rfl rfl<|Yu2 0 rfl (Yu3 rfl) gn rfl<|Yu2 1 rfl (Yub Yvf rfl) gn rfl<|Yu2 2 rfl (Yue 1 Ywb rfl rfl rfl) gn rfl<|Yu2 3 rfl (Yuo Za3 rfl h13.hq) gn rfl<|Yu2 4 rfl (Yug rfl rfl rfl) gn rfl<|Yua 5 rfl ?_
     by_cases hp250:x224 < (x1.prods.length:Int)
     ·have h:=Yul hp250 h
      refine Yv4 rfl _ rfl ((decide_eq_true hp250))<|Yv2 rfl<|Yu9 rfl<|Yuw rfl<|Yu9 rfl<|Yu4 rfl rfl<|Yu2 0 rfl (Yub Yvf rfl) gn rfl<|Yu2 1 rfl (Yue 1 Ywb rfl rfl rfl) gn rfl<|Yu2 2 rfl (Yu3 rfl) gn rfl ?_
      obtain ⟨hb251,h⟩:=h
      obtain ⟨ce253,hK254,hr252⟩:=Rw.read (s:=St w []) h13 hb251
      obtain ⟨A255,n256,c257,rfl,h258⟩:=hK254
      refine Yu2 3 rfl (Yv7 (s:=St w []) Yxh rfl rfl h13 hb251) gn rfl<|Yu2 4 rfl (Zdb (St w []) Zko rfl hr252 rfl (me 1 rfl)) gn rfl ?_
      refine Yve 5 rfl (Yye [.int .i64 0,.slice none 0 0] Zl0 rfl fun gb259=>?_) gn
      refine Yve 6 rfl (Za4 (vs:=[.int .i64 ((ix x1.prods x224).lhs),.slice A255 n256 c257]) (cs':=[.int .i64 ((ix x1.prods x224).lhs),.slice A255 n256 c257]) (M':=[.box gb259 63 [.int .i64 ((ix x1.prods x224).lhs),.slice A255 n256 c257],.own (.slice A26 ((w64 ((x1.terms.length:Int) + (x1.syms.length:Int)):Int).toNat) ((w64 ((x1.terms.length:Int) + (x1.syms.length:Int)):Int).toNat)) 4 1 ((w64 ((x1.terms.length:Int) + (x1.syms.length:Int)):Int).toNat) (x222.flatMap eB),.box gb14 26 [.slice A2 n3 c4,.slice A6 n7 c8,.slice A10 n11 c12]]) 0 Zkw rfl rfl rfl rfl rfl rfl rfl rfl rfl ?_) gn
      refine Yua 7 rfl<|Yu9 rfl<|Yu4 rfl rfl<|Yu2 0 rfl (Yub Yx3 rfl) gn rfl<|Yu2 1 rfl (Yue 0 Yvt rfl rfl rfl) gn rfl<|Yu2 2 rfl (Yug rfl rfl rfl) gn rfl<|Yu2 3 rfl (Yu3 rfl) gn rfl ?_
      by_cases hp261:(ix x1.prods x224).lhs≥0
      ·have h:=Yul hp261 h
       refine Yvi 40 rfl ((decide_eq_true hp261))<|Yu2 4 rfl (Yu3 rfl) (gy 40 rfl rfl) rfl<|Yu2 5 rfl (Yub Yw1 rfl) (gy 40 rfl rfl) rfl<|Yu2 6 rfl (Yue 0 Yyc rfl rfl rfl) (gy 40 rfl rfl) rfl ?_
       obtain ⟨r265,hv266,h⟩:=h
       refine Yve 7 rfl (Yvz [.slice A26 ((w64 ((x1.terms.length:Int) + (x1.syms.length:Int)):Int).toNat) ((w64 ((x1.terms.length:Int) + (x1.syms.length:Int)):Int).toNat),.slice A255 n256 c257] rfl Tryd.func70 rfl rfl rfl fun w262 hL263=>?_) (gy 40 rfl rfl)
       have hp264:=pmI hL263 .n (.c 0 rfl (.c 1 rfl (.c 2 rfl .n))) (by kernel_rfl)
       refine Calls.mono (Zhr w262 (Fl ([]:List Yva)) x222 ((ix x1.prods x224).rhs) A26 ((w64 ((x1.terms.length:Int) + (x1.syms.length:Int)):Int).toNat) ((w64 ((x1.terms.length:Int) + (x1.syms.length:Int)):Int).toNat) A255 n256 c257 (hL263.argO (dk:=Yzi) hp264 [] rfl 1 rfl rfl h223 (me 0 rfl) (Cells.flat _)) (Rw.mono h258 (hL263.toSt hp264 (me 1 rfl))) (hL263.hFl hp264 (Yvm [] rfl)) (hL263.into hp264 _) r265 hv266) ?_
       rintro _ w267 ⟨rfl,hM268⟩
       have hL269:=hL263.call hp264 hM268
       refine ⟨_,_,_,rfl,hL269,?_⟩
       refine Yu2 8 rfl (Yuk (b:=true) rfl rfl) gn rfl<|Yua 9 rfl ?_
       by_cases hp270:r265=true
       ·have h:=Yul hp270 h
        refine Yv4 rfl _ rfl (hp270)<|Yu4 rfl rfl<|Yu2 0 rfl (Yu3 rfl) gn rfl<|Yu2 1 rfl (Yub Yw7 rfl) gn rfl<|Yu2 2 rfl (Yue 2 Yz4 rfl rfl rfl) gn rfl<|Yu2 3 rfl (Yuo Yze rfl h5.hq) gn rfl<|Yu2 4 rfl (Yub Yx3 rfl) gn rfl<|Yu2 5 rfl (Yue 0 Yvt rfl rfl rfl) gn rfl<|Yu2 6 rfl (Yug rfl rfl rfl) gn rfl ?_
        obtain ⟨hb271,h⟩:=h
        refine Yu2 7 rfl (Yyn Zfl rfl rfl h223 hb271) gn rfl ?_
        obtain ⟨x272,hv273,h⟩:=h
        refine Yve 8 rfl (Zgm (enc:=eB) (o:=0) (z:=true) (vs:=[.bool true]) (i:=(w64 ((x1.terms.length:Int) + ((ix x1.prods x224).lhs)))) 1 hlB sz_4 rfl rfl rfl rfl rfl h223 hb271 rfl rfl rfl hv273 fun h274=>?_) gn
        refine Yua 9 rfl<|Yux<|Yu4 rfl rfl<|Yu2 0 rfl (Yu3 rfl) gn rfl<|Yu2 1 rfl (Yug rfl rfl rfl) gn rfl<|Yu2 2 rfl (Yu7 rfl) gn rfl<|Yua 3 rfl<|Yv1 ?_
        have ih:=Out.inl hO2 h
        exact Yvh [0,1] (ih h274) ⟨rfl,rfl,rfl,rfl,trivial⟩ (.cons _ (.cons_cons _ (.cons_cons _ (.slnil)))) rfl
       ·have h:=Yum hp270 h
        refine Yur rfl _ rfl ((bf hp270))<|Yv2 rfl<|Yux<|Yu4 rfl rfl<|Yu2 0 rfl (Yu3 rfl) gn rfl<|Yu2 1 rfl (Yug rfl rfl rfl) gn rfl<|Yu2 2 rfl (Yu7 rfl) gn rfl<|Yua 3 rfl<|Yv1 ?_
        have ih:=Out.inl hO2 h
        exact Yvh [0,1] (ih h223) ⟨rfl,rfl,rfl,rfl,trivial⟩ (.cons _ (.cons_cons _ (.cons_cons _ (.slnil)))) rfl
      ·have h:=Yum hp261 h
       refine Yvi 40 rfl ((decide_eq_false hp261))<|Yu6 4 rfl (ps 40 rfl rfl rfl)<|Yu6 5 rfl (ps 40 rfl rfl rfl)<|Yu6 6 rfl (ps 40 rfl rfl rfl)<|Yu6 7 rfl (ps 40 rfl rfl rfl)<|Yu2 8 rfl (Yuk (b:=false) rfl rfl) gn rfl<|Yua 9 rfl<|Yur rfl _ rfl (rfl)<|Yv2 rfl<|Yux<|Yu4 rfl rfl<|Yu2 0 rfl (Yu3 rfl) gn rfl ?_
       refine Yu2 1 rfl (Yug rfl rfl rfl) gn rfl<|Yu2 2 rfl (Yu7 rfl) gn rfl<|Yua 3 rfl<|Yv1 ?_
       have ih:=Out.inl hO2 h
       exact Yvh [0,1] (ih h223) ⟨rfl,rfl,rfl,rfl,trivial⟩ (.cons _ (.cons_cons _ (.cons_cons _ (.slnil)))) rfl
     ·have h:=Yum hp250 h
      refine Yur rfl _ rfl ((decide_eq_false hp250))<|Ywa [.inBlock 1,.code Zpr,.inLoop Zfw,.inBlock 0,.code Zir] rfl rfl<|Yux<|Yu4 rfl rfl<|Yu2 0 rfl (Yu3 rfl) gn rfl<|Yu2 1 rfl (Yug rfl rfl rfl) gn rfl<|Yu2 2 rfl (Yu7 rfl) gn rfl<|Yua 3 rfl<|Yv1 ?_
      have h:=Out.inr hO2 h
      have ih:=Out.inl hO1 h
      exact Yvh [0,1] (ih h223) ⟨rfl,rfl,rfl,trivial⟩ (.cons_cons _ (.cons_cons _ (.slnil))) rfl
    exact Yvh [0,1] (key2 _ h h113) ⟨rfl,rfl,rfl,rfl,trivial⟩ (.cons_cons _ (.cons_cons _ (.slnil))) rfl
   ·have h:=Yum hp195 h
    refine Yur rfl _ rfl ((decide_eq_false hp195))<|Ywa [.code Zir] rfl rfl<|Yu9 rfl<|Yu4 rfl rfl<|Yu2 0 rfl (Yu3 rfl) gn rfl<|Yu2 1 rfl (Yu7 rfl) gn rfl<|Yua 2 rfl ?_
    have h:=Out.inr hO1 h
    refine Yvb [.slice A26 ((w64 ((x1.terms.length:Int) + (x1.syms.length:Int)):Int).toNat) ((w64 ((x1.terms.length:Int) + (x1.syms.length:Int)):Int).toNat)] rfl Tryd.func62 rfl (.tmp rfl (.nil)) fun wr hLr=>?_
    have hMr:=hLr.pkI (.c 0 rfl .n) (.c 1 rfl .n) (by kernel_rfl) (.c 1 rfl .n)
    show Zag w F  r (.returned (Yvl [.slice A26 ((w64 ((x1.terms.length:Int) + (x1.syms.length:Int)):Int).toNat) ((w64 ((x1.terms.length:Int) + (x1.syms.length:Int)):Int).toNat)])) wr
    rw [h]
    exact ⟨A26,(w64 ((x1.terms.length:Int) + (x1.syms.length:Int)):Int).toNat,(w64 ((x1.terms.length:Int) + (x1.syms.length:Int)):Int).toNat,rfl,hMr,h113⟩
  exact Yvh [0,1] (key1 _ h h27) ⟨rfl,rfl,rfl,trivial⟩ (.cons_cons _ (.cons_cons _ (.slnil))) rfl
 ·have h:=Yum hp24 h
  refine Yv4 rfl _ rfl ((nt (bf hp24)))<|Yu9 rfl<|Yu4 rfl rfl<|Yu2 0 rfl (Yu7 rfl) gn rfl<|Yua 1 rfl<|Zf4 4 1 ?_
  refine Yvb [.slice none 0 0] rfl Tryd.func62 rfl (.tmp rfl (.nil)) fun wr hLr=>?_
  have hMr:=hLr.pkI (.c 0 rfl .n) (.c 1 rfl .n) (by kernel_rfl) (.c 1 rfl .n)
  show Zag w F  r (.returned (Yvl [.slice none 0 0])) wr
  rw [h]
  exact ⟨none,0,0,rfl,hMr,(Ow.nil (z:=w.heap.size))⟩
end Go.Proofs.YtadcichlnacagaaDoor.K
