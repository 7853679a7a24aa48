/- What the machine's calls do, function by function, printed by my own tool. Condition of each: its relation holds of the answer, and what is handed in lies in memory as told. -/
import Derived.Test.YtadcichlnacagaaDoorK4
set_option linter.unusedVariables false
set_option maxRecDepth 100000
set_option maxHeartbeats 4000000
namespace Go.Proofs.YtadcichlnacagaaDoor.K
open Go.Proofs.YtadcichlnacagaaDoor.B Go.Proofs.YtadcichlnacagaaDoor.R Go.RowKit
noncomputable abbrev q37c3:=Code.fst (Code.snd (Yvq Tryd.f37))
noncomputable abbrev q37c5:=Code.fst (Code.snd (Code.snd (Yvq Tryd.f37)))
noncomputable abbrev Zgh:=Code.snd (Code.snd (Code.snd (Code.snd (Yvq Tryd.f37))))
noncomputable abbrev Zc9:=Code.fst (Code.fst (Code.snd (Code.fst (Code.snd (Code.snd (Code.snd (Yvq Tryd.f37)))))))
noncomputable abbrev Zgk:=Code.snd (Code.snd (Code.snd Zc9))
noncomputable abbrev Zrv:=Code.snd (Code.snd (Code.snd (Code.snd (Code.fst (Code.fst (Code.snd (Code.snd Zc9)))))))
noncomputable abbrev q37c32:=Code.fst (Code.snd (Code.fst (Code.snd (Code.snd (Code.snd (Code.fst (Code.fst (Code.snd (Code.snd Zc9)))))))))
noncomputable abbrev Znb:=Code.snd Zrv
noncomputable abbrev Zm5:=Code.fst (Code.fst (Code.snd (Code.fst Zrv)))
noncomputable abbrev Zfv:=Code.fst (Code.fst (Code.snd Znb))
noncomputable abbrev q37c62:=Code.snd (Code.snd Zfv)
noncomputable abbrev q37c72:=Code.fst (Code.fst (Code.snd (Code.snd (Code.snd (Code.fst (Code.fst (Code.snd Zfv)))))))
noncomputable abbrev q37c74:=Code.fst (Code.snd (Code.fst (Code.snd (Code.snd (Code.snd (Code.fst (Code.fst (Code.snd Zfv))))))))
noncomputable abbrev Zs7:=Code.snd (Code.snd (Code.fst (Code.snd (Code.snd (Code.snd (Code.fst (Code.fst (Code.snd Zfv))))))))
noncomputable abbrev q37c78:=Code.fst (Code.snd Zs7)
abbrev Zfy (w:World) (F:Nat→Prop) (r:Yuv):Ending→World→Prop:=fun e w'=>∃ gn0:Nat,∃ A3:Option Addr,∃ n3:Nat,∃ c3:Nat,∃ A4:Option Addr,∃ n4:Nat,∃ c4:Nat,∃ A5:Option Addr,∃ n5:Nat,∃ c5:Nat,∃ cs5:List Value,∃ A0:Option Addr,∃ n0:Nat,∃ c0:Nat,∃ A1:Option Addr,∃ n1:Nat,∃ c1:Nat,∃ A2:Option Addr,∃ n2:Nat,∃ c2:Nat,e=.returned (.pointer (some ⟨gn0,0,none⟩))∧B.Loc w w' [.box gn0 102 [.slice A0 n0 c0,.slice A1 n1 c1,.slice A2 n2 c2,.slice A3 n3 c3,.slice A4 n4 c4,.slice A5 n5 c5],.own (.slice A3 n3 c3) 107 5 n3 (r.spots.flatMap Yv6),.own (.slice A4 n4 c4) 3 1 n4 (r.at_.flatMap (eI .i64)),.own (.slice A5 n5 c5) 47 1 n5 cs5] [St w []]∧Ow w.heap.size A3 n3 c3 r.spots∧Ow w.heap.size A4 n4 c4 r.at_∧Ow w.heap.size A5 n5 c5 r.of∧Cells (Kd.slice (Yw6 .i64)) w' (Nw w w' F [.box gn0 102 [.slice A0 n0 c0,.slice A1 n1 c1,.slice A2 n2 c2,.slice A3 n3 c3,.slice A4 n4 c4,.slice A5 n5 c5],.own (.slice A3 n3 c3) 107 5 n3 (r.spots.flatMap Yv6),.own (.slice A4 n4 c4) 3 1 n4 (r.at_.flatMap (eI .i64)),.own (.slice A5 n5 c5) 47 1 n5 cs5]) r.of cs5∧Rw Yuj w' (Nw w w' F [.box gn0 102 [.slice A0 n0 c0,.slice A1 n1 c1,.slice A2 n2 c2,.slice A3 n3 c3,.slice A4 n4 c4,.slice A5 n5 c5],.own (.slice A3 n3 c3) 107 5 n3 (r.spots.flatMap Yv6),.own (.slice A4 n4 c4) 3 1 n4 (r.at_.flatMap (eI .i64)),.own (.slice A5 n5 c5) 47 1 n5 cs5]) A0 n0 c0 r.g.terms∧Rw Yuq w' (Nw w w' F [.box gn0 102 [.slice A0 n0 c0,.slice A1 n1 c1,.slice A2 n2 c2,.slice A3 n3 c3,.slice A4 n4 c4,.slice A5 n5 c5],.own (.slice A3 n3 c3) 107 5 n3 (r.spots.flatMap Yv6),.own (.slice A4 n4 c4) 3 1 n4 (r.at_.flatMap (eI .i64)),.own (.slice A5 n5 c5) 47 1 n5 cs5]) A1 n1 c1 r.g.syms∧Rw Yun w' (Nw w w' F [.box gn0 102 [.slice A0 n0 c0,.slice A1 n1 c1,.slice A2 n2 c2,.slice A3 n3 c3,.slice A4 n4 c4,.slice A5 n5 c5],.own (.slice A3 n3 c3) 107 5 n3 (r.spots.flatMap Yv6),.own (.slice A4 n4 c4) 3 1 n4 (r.at_.flatMap (eI .i64)),.own (.slice A5 n5 c5) 47 1 n5 cs5]) A2 n2 c2 r.g.prods
noncomputable abbrev Yx7 (w:World) (F:Nat→Prop) (r:Yuv):Cx:=⟨Tryd.prog,37,Tryd.f37,170,Zfy w F  r,w⟩
theorem Zg1 (w:World) (F:Nat→Prop) (x1:Yu5) (A2:Option Addr) (n3:Nat) (c4:Nat) (A6:Option Addr) (n7:Nat) (c8:Nat) (A10:Option Addr) (n11:Nat) (c12:Nat) (h5:Rw Yuj w F A2 n3 c4 x1.terms) (h9:Rw Yuq w F A6 n7 c8 x1.syms) (h13:Rw Yun w F A10 n11 c12 x1.prods) (hF:∀ b,F b→b < w.heap.size∧∀ o ∈ ([]:List (List Nat)),b ∉ o) (hL0:B.Loc w w [] [Sm w.heap.size F w [],St w []]) (r:Yuv) (h:Zcu x1 r):Calls Tryd.prog 37 #[.agg #[.slice A2 n3 c4,.slice A6 n7 c8,.slice A10 n11 c12]] w (Zfy w F  r):=by
 unfold Zcu at h
 have h5:=Rw.into (bs:=[]) hF h5
 have h9:=Rw.into (bs:=[]) hF h9
 have h13:=Rw.into (bs:=[]) hF h13
 refine Yv5 (vs:=[.agg #[.slice A2 n3 c4,.slice A6 n7 c8,.slice A10 n11 c12]]) 170 Tryd.func37 rfl Tryd.ntmps37 rfl hL0 ?_
 show G (Yx7 w F r) _ _ _ _
 refine Yu9 rfl<|Yu4 rfl rfl ?_
 refine Yve 0 rfl (Zas [.slice A2 n3 c4,.slice A6 n7 c8,.slice A10 n11 c12] rfl rfl rfl fun gb14=>?_) gn
 refine Yu2 1 rfl (Yu7 rfl) gn rfl<|Yua 2 rfl<|Yu9 rfl ?_
 obtain ⟨hb16,h⟩:=h
 obtain ⟨x21,hv22,h⟩:=h
 have hns:Region.noSelect (Code.ops q37c3)=true:=by kernel_rfl
 refine Yvr [] 8 rfl rfl mix rfl (.c 0 rfl (.c 1 rfl .n))<|wfv 0 rfl (Yyr [.slice A2 n3 c4,.slice A6 n7 c8,.slice A10 n11 c12] 0 Yys rfl rfl rfl rfl) gn hns rfl<|wfv 1 rfl (Yub Yxd rfl) gn hns rfl<|wfv 2 rfl (Yue 0 Zak rfl rfl rfl) gn hns rfl<|wfv 3 rfl (Yuo Zbm rfl h9.hq) gn hns rfl ?_
 refine Ywl [4] (by kernel_rfl) rfl ⟨Zdm 4 rfl gn rfl (Zib (enc:=(fun _:List Int=>[Value.slice none 0 0])) (z:=([]:List Int)) mk_42 rfl (by decide) rfl rfl hb16.1 hb16.2 (by decide) hv22 rfl fun A37 h38=>?_),trivial⟩
 refine ⟨Yvm [1] rfl,Yvm [0,1] rfl,?_⟩
 refine Zok (z:=w.heap.size) Zd4 ([]:List Int) [Value.slice none 0 0] rfl rfl trivial hv22<|wfv 5 rfl (Zap #[.slice A2 n3 c4,.slice A6 n7 c8,.slice A10 n11 c12,.slice none 0 0,.slice none 0 0,.slice A37 (((x1.syms.length:Int):Int).toNat) (((x1.syms.length:Int):Int).toNat)] bd_102 rfl (by kernel_rfl)) gn hns rfl ?_
 refine Ywl [6] (by kernel_rfl) rfl ⟨Zdm 6 rfl gn rfl (Zas [.slice A2 n3 c4,.slice A6 n7 c8,.slice A10 n11 c12,.slice none 0 0,.slice none 0 0,.slice A37 (((x1.syms.length:Int):Int).toNat) (((x1.syms.length:Int):Int).toNat)] rfl rfl rfl fun gb41=>?_),trivial⟩
 refine ⟨Yvm [3] rfl,Yvm [0,1] rfl,?_⟩
 refine wfv 7 rfl (Yu7 rfl) gn hns rfl<|Yvx (by kernel_rfl)<|Yu9 rfl ?_
 obtain ⟨r45,hv46,h⟩:=h
 obtain ⟨r58,hv59,h⟩:=h
 have hns:Region.noSelect (Code.ops q37c5)=true:=by kernel_rfl
 refine Yvr [] 6 rfl rfl mix rfl (.c 0 rfl (.c 1 rfl .n))<|wfv 0 rfl (Yyr [.slice A2 n3 c4,.slice A6 n7 c8,.slice A10 n11 c12] 3 Yys rfl rfl rfl rfl) gn hns rfl<|wfv 2 rfl (Yyr [.slice A2 n3 c4,.slice A6 n7 c8,.slice A10 n11 c12] 3 Yys rfl rfl rfl rfl) gn hns rfl ?_
 refine Ywl [1] (by kernel_rfl) rfl ⟨Zdm 1 rfl gn rfl (Yvz [.agg #[.slice A2 n3 c4,.slice A6 n7 c8,.slice A10 n11 c12]] rfl Tryd.func51 rfl rfl rfl fun w138 hL139=>?_),trivial⟩
 have hp140:=pmI hL139 .n (.c 0 rfl (.c 1 rfl (.c 2 rfl (.c 3 rfl .n)))) (by kernel_rfl)
 refine Calls.mono (Zio w138 (Fl ([]:List Yva)) x1 A2 n3 c4 A6 n7 c8 A10 n11 c12 (Rw.mono h5 (hL139.toSt hp140 (me 0 rfl))) (Rw.mono h9 (hL139.toSt hp140 (me 0 rfl))) (Rw.mono h13 (hL139.toSt hp140 (me 0 rfl))) (hL139.hFl hp140 (Yvm [] rfl)) (hL139.into hp140 _) r45 hv46) ?_
 rintro _ w145 ⟨A141,n142,c143,rfl,hM146,h144⟩
 have hL147:=hL139.call hp140 hM146
 refine ⟨_,_,_,rfl,hL147,?_⟩
 refine ⟨Yvm [1,2,3,4] rfl,Yvm [0,1] rfl,?_⟩
 refine Ywl [3] (by kernel_rfl) rfl ⟨Zdm 3 rfl gn rfl (Yvz [.agg #[.slice A2 n3 c4,.slice A6 n7 c8,.slice A10 n11 c12]] rfl Tryd.func52 rfl rfl rfl fun w158 hL159=>?_),trivial⟩
 have hp160:=pmI hL159 .n (.c 0 rfl (.c 1 rfl (.c 2 rfl (.c 3 rfl (.c 4 rfl .n))))) (by kernel_rfl)
 refine Calls.mono (Zl7 w158 (Fl ([]:List Yva)) x1 A2 n3 c4 A6 n7 c8 A10 n11 c12 (Rw.mono h5 (hL159.toSt hp160 (me 0 rfl))) (Rw.mono h9 (hL159.toSt hp160 (me 0 rfl))) (Rw.mono h13 (hL159.toSt hp160 (me 0 rfl))) (hL159.hFl hp160 (Yvm [] rfl)) (hL159.into hp160 _) r58 hv59) ?_
 rintro _ w165 ⟨A161,n162,c163,rfl,hM166,h164⟩
 have hL167:=hL159.call hp160 hM166
 refine ⟨_,_,_,rfl,hL167,?_⟩
 refine ⟨Yvm [2,3,4,5] rfl,Yvm [0,1] rfl,?_⟩
 refine wfv 4 rfl (Yu7 rfl) gn hns rfl<|wfv 5 rfl (Yu7 rfl) gn hns rfl<|Yvx (by kernel_rfl)<|Yu9 rfl<|Yu9 rfl<|Yu4 rfl rfl<|Yu2 0 rfl (Yub Yvf rfl) gn rfl<|Yu2 1 rfl (Yue 5 Ywb rfl rfl rfl) gn rfl<|Yu2 2 rfl (Yuo Za3 rfl h13.hq) gn rfl<|Yu2 3 rfl (Yu3 rfl) gn rfl<|Yua 4 rfl<|Yuw rfl ?_
 refine Ywm rfl ?_
 have key1:∀ s,Yui (fun (s:Int × (List Yuu) × (List Int) × (List (List Int))) o=>Yyo x1 r58 r45 s.1 s.2.1 s.2.2.1 s.2.2.2 o) s r→(fun (s:Int × (List Yuu) × (List Int) × (List (List Int)))=>∀ (A961:Option Addr) (n962:Nat) (c963:Nat) (h964:Ow w.heap.size A961 n962 c963 s.2.1) (A966:Option Addr) (n967:Nat) (c968:Nat) (h969:Ow w.heap.size A966 n967 c968 s.2.2.1) (bs971:List Nat) (A972:Option Addr) (n973:Nat) (c974:Nat) (cs975:List Value) (h976:Ow w.heap.size A972 n973 c974 s.2.2.2),G (Yx7 w F r) [.code Zc9,.inLoop Zc9,.inBlock 0,.code Zgh] [(3,.pointer (some ⟨gb41,0,none⟩)),(4,.slice A141 n142 c143),(5,.slice A161 n162 c163),(26,.slice A10 n11 c12),(27,.int .i64 (x1.prods.length:Int)),(28,.int .i64 s.1)] [Ywj Zd4 (w.heap.size) none s.2.2.2 cs975 bs971,.own (.slice A961 n962 c963) 107 5 n962 (s.2.1.flatMap Yv6),.own (.slice A966 n967 c968) 3 1 n967 (s.2.2.1.flatMap (eI .i64)),.own (.slice A161 n162 c163) 76 1 n162 (r58.flatMap (eI .u64)),.own (.slice A141 n142 c143) 4 1 n142 (r45.flatMap eB),.box gb41 102 [.slice A2 n3 c4,.slice A6 n7 c8,.slice A10 n11 c12,.slice A961 n962 c963,.slice A966 n967 c968,.slice A972 n973 c974],.own (.slice A972 n973 c974) 47 1 n973 cs975] [Sm w.heap.size F w [],St w []]) s:=by
  intro s hs
  refine Yui.ind (mot:=(fun (s:Int × (List Yuu) × (List Int) × (List (List Int)))=>∀ (A961:Option Addr) (n962:Nat) (c963:Nat) (h964:Ow w.heap.size A961 n962 c963 s.2.1) (A966:Option Addr) (n967:Nat) (c968:Nat) (h969:Ow w.heap.size A966 n967 c968 s.2.2.1) (bs971:List Nat) (A972:Option Addr) (n973:Nat) (c974:Nat) (cs975:List Value) (h976:Ow w.heap.size A972 n973 c974 s.2.2.2),G (Yx7 w F r) [.code Zc9,.inLoop Zc9,.inBlock 0,.code Zgh] [(3,.pointer (some ⟨gb41,0,none⟩)),(4,.slice A141 n142 c143),(5,.slice A161 n162 c163),(26,.slice A10 n11 c12),(27,.int .i64 (x1.prods.length:Int)),(28,.int .i64 s.1)] [Ywj Zd4 (w.heap.size) none s.2.2.2 cs975 bs971,.own (.slice A961 n962 c963) 107 5 n962 (s.2.1.flatMap Yv6),.own (.slice A966 n967 c968) 3 1 n967 (s.2.2.1.flatMap (eI .i64)),.own (.slice A161 n162 c163) 76 1 n162 (r58.flatMap (eI .u64)),.own (.slice A141 n142 c143) 4 1 n142 (r45.flatMap eB),.box gb41 102 [.slice A2 n3 c4,.slice A6 n7 c8,.slice A10 n11 c12,.slice A961 n962 c963,.slice A966 n967 c968,.slice A972 n973 c974],.own (.slice A972 n973 c974) 47 1 n973 cs975] [Sm w.heap.size F w [],St w []])) ?_ hs
  clear hs s
  intro s o1 h hO1
  obtain ⟨x959,x960,x965,x970⟩:=s
  show ∀ (A961:Option Addr) (n962:Nat) (c963:Nat) (h964:Ow w.heap.size A961 n962 c963 x960) (A966:Option Addr) (n967:Nat) (c968:Nat) (h969:Ow w.heap.size A966 n967 c968 x965) (bs971:List Nat) (A972:Option Addr) (n973:Nat) (c974:Nat) (cs975:List Value) (h976:Ow w.heap.size A972 n973 c974 x970),G (Yx7 w F r) [.code Zc9,.inLoop Zc9,.inBlock 0,.code Zgh] [(3,.pointer (some ⟨gb41,0,none⟩)),(4,.slice A141 n142 c143),(5,.slice A161 n162 c163),(26,.slice A10 n11 c12),(27,.int .i64 (x1.prods.length:Int)),(28,.int .i64 x959)] [Ywj Zd4 (w.heap.size) none x970 cs975 bs971,.own (.slice A961 n962 c963) 107 5 n962 (x960.flatMap Yv6),.own (.slice A966 n967 c968) 3 1 n967 (x965.flatMap (eI .i64)),.own (.slice A161 n162 c163) 76 1 n162 (r58.flatMap (eI .u64)),.own (.slice A141 n142 c143) 4 1 n142 (r45.flatMap eB),.box gb41 102 [.slice A2 n3 c4,.slice A6 n7 c8,.slice A10 n11 c12,.slice A961 n962 c963,.slice A966 n967 c968,.slice A972 n973 c974],.own (.slice A972 n973 c974) 47 1 n973 cs975] [Sm w.heap.size F w [],St w []]
  intro A961 n962 c963 h964 A966 n967 c968 h969 bs971 A972 n973 c974 cs975 h976
  have h:Yyo x1 r58 r45 x959 x960 x965 x970 o1:=h
  unfold Yyo at h
  refine Yu9 rfl<|Yu4 rfl rfl<|Yu2 0 rfl (Yug rfl rfl rfl) gn rfl<|Yua 1 rfl<|Yu9 rfl ?_
  by_cases hp2034:x959 < (x1.prods.length:Int)
  ·have h:=Yul hp2034 h
   refine Yv4 rfl _ rfl ((decide_eq_true hp2034))<|Yv2 rfl<|Yu9 rfl<|Yuw rfl<|Yu9 rfl<|Yu4 rfl rfl<|Yu2 0 rfl (Yu3 rfl) gn rfl ?_
   obtain ⟨hb2035,h⟩:=h
   obtain ⟨ce2037,hK2038,hr2036⟩:=Rw.read (s:=Sm w.heap.size F w []) h13 hb2035
   obtain ⟨A2039,n2040,c2041,rfl,h2042⟩:=hK2038
   refine Yu2 1 rfl (Yv7 (s:=Sm w.heap.size F w []) Yxh rfl rfl h13 hb2035) gn rfl<|Yu2 2 rfl (Zdb (Sm w.heap.size F w []) Zko rfl hr2036 rfl (me 0 rfl)) gn rfl ?_
   refine Yve 3 rfl (Yye [.int .i64 0,.slice none 0 0] Zl0 rfl fun gb2043=>?_) gn
   refine Yu2 4 rfl (Yu7 rfl) gn rfl ?_
   refine Yve 5 rfl (Za4 (vs:=[.int .i64 ((ix x1.prods x959).lhs),.slice A2039 n2040 c2041]) (cs':=[.int .i64 ((ix x1.prods x959).lhs),.slice A2039 n2040 c2041]) (M':=[.box gb2043 63 [.int .i64 ((ix x1.prods x959).lhs),.slice A2039 n2040 c2041],Ywj Zd4 (w.heap.size) none x970 cs975 bs971,.own (.slice A961 n962 c963) 107 5 n962 (x960.flatMap Yv6),.own (.slice A966 n967 c968) 3 1 n967 (x965.flatMap (eI .i64)),.own (.slice A161 n162 c163) 76 1 n162 (r58.flatMap (eI .u64)),.own (.slice A141 n142 c143) 4 1 n142 (r45.flatMap eB),.box gb41 102 [.slice A2 n3 c4,.slice A6 n7 c8,.slice A10 n11 c12,.slice A961 n962 c963,.slice A966 n967 c968,.slice A972 n973 c974],.own (.slice A972 n973 c974) 47 1 n973 cs975]) 0 Zkw rfl rfl rfl rfl rfl rfl rfl rfl rfl ?_) gn
   refine Yua 6 rfl<|Yu9 rfl<|Yu4 rfl rfl<|Yu2 0 rfl (Yu3 rfl) gn rfl<|Yu2 1 rfl (Yuy rfl) gn rfl<|Yu2 2 rfl (Yub Ze6 rfl) gn rfl<|Yu2 3 rfl (Yue 6 Zi8 rfl rfl rfl) gn rfl<|Yu2 4 rfl (Yuo un_100 rfl h964.hq) gn rfl<|Yu2 5 rfl (Yu7 rfl) gn rfl<|Yua 6 rfl<|Yu9 rfl<|Yu4 rfl rfl ?_
   refine Yu2 0 rfl (Yu3 rfl) gn rfl<|Yu2 1 rfl (Yu3 rfl) gn rfl<|Yu2 2 rfl (Yuy rfl) gn rfl<|Yu2 3 rfl (Yub Znc rfl) gn rfl<|Yu2 4 rfl (Yue 6 Zew rfl rfl rfl) gn rfl<|Yu2 5 rfl (Yu3 rfl) gn rfl ?_
   refine Yve 6 rfl (Zdd (xs:=([(x960.length:Int)]:List Int)) [.int .i64 (x960.length:Int)] Zms rfl (by kernel_rfl) rfl rfl rfl rfl fun gb2046 h2047=>?_) gn
   obtain ⟨x2051,hv2052,h⟩:=h
   obtain ⟨hb2053,h⟩:=h
   refine Yve 7 rfl (Zdj (zs:=x2051) (cells':=x2051.flatMap (eI .i64)) 4 ap_47 rfl rfl rfl h969 (Nat.le_refl _) (Src.ownF (hl:=(hlI .i64)) (h1:=(Yya .i64)) 0 rfl h2047) (by rw [hv2052,List.flatMap_append] <;> rfl) (Yzh hv2052 h2047.hq) hb2053 rfl rfl fun A2048 c2049 h2050=>?_) gn
   refine Yu2 8 rfl (Yuy rfl) gn rfl<|Yu2 9 rfl (Yub Znc rfl) gn rfl ?_
   refine Yve 10 rfl (Za4 (vs:=[.slice A2048 (n967 + 1) c2049]) (cs':=[.slice A2 n3 c4,.slice A6 n7 c8,.slice A10 n11 c12,.slice A961 n962 c963,.slice A2048 (n967 + 1) c2049,.slice A972 n973 c974]) (M':=[.own (.slice (some ⟨gb2046,0,none⟩) 1 1) 3 1 1 (([(x960.length:Int)]:List Int).flatMap (eI .i64)),.box gb2043 63 [.int .i64 ((ix x1.prods x959).lhs),.slice A2039 n2040 c2041],Ywj Zd4 (w.heap.size) none x970 cs975 bs971,.own (.slice A961 n962 c963) 107 5 n962 (x960.flatMap Yv6),.own (.slice A2048 (n967 + 1) c2049) 3 1 (n967 + 1) (x2051.flatMap (eI .i64)),.own (.slice A161 n162 c163) 76 1 n162 (r58.flatMap (eI .u64)),.own (.slice A141 n142 c143) 4 1 n142 (r45.flatMap eB),.box gb41 102 [.slice A2 n3 c4,.slice A6 n7 c8,.slice A10 n11 c12,.slice A961 n962 c963,.slice A2048 (n967 + 1) c2049,.slice A972 n973 c974],.own (.slice A972 n973 c974) 47 1 n973 cs975]) 7 Zqf rfl rfl rfl rfl rfl rfl rfl rfl rfl ?_) gn
   refine Yua 11 rfl<|Yu9 rfl<|Yu9 rfl<|Yu4 rfl rfl<|Yu2 0 rfl (Yub Yx3 rfl) gn rfl<|Yu2 1 rfl (Yue 1 Yvt rfl rfl rfl) gn rfl<|Yu2 2 rfl (Yug rfl rfl rfl) gn rfl<|Yua 3 rfl ?_
   have j2:∀ (x2139:List (List Int)) (h:Yzz x1 x959 x960 r58 r45 x2051 x2139 o1) (bs2140:List Nat) (A2141:Option Addr) (n2142:Nat) (c2143:Nat) (cs2144:List Value) (h2145:Ow w.heap.size A2141 n2142 c2143 x2139),G (Yx7 w F r) [.code Zrv,.inBlock 1,.code Zgk,.inLoop Zc9,.inBlock 0,.code Zgh] [(3,.pointer (some ⟨gb41,0,none⟩)),(4,.slice A141 n142 c143),(5,.slice A161 n162 c163),(6,.int .i64 x959),(7,.pointer (some ⟨gb2043,0,none⟩)),(8,.int .i64 (x960.length:Int)),(26,.slice A10 n11 c12),(27,.int .i64 (x1.prods.length:Int)),(28,.int .i64 x959)] [Ywj Zd4 (w.heap.size) none x2139 cs2144 bs2140,.box gb2043 63 [.int .i64 ((ix x1.prods x959).lhs),.slice A2039 n2040 c2041],.own (.slice A961 n962 c963) 107 5 n962 (x960.flatMap Yv6),.own (.slice A2048 (n967 + 1) c2049) 3 1 (n967 + 1) (x2051.flatMap (eI .i64)),.own (.slice A161 n162 c163) 76 1 n162 (r58.flatMap (eI .u64)),.own (.slice A141 n142 c143) 4 1 n142 (r45.flatMap eB),.box gb41 102 [.slice A2 n3 c4,.slice A6 n7 c8,.slice A10 n11 c12,.slice A961 n962 c963,.slice A2048 (n967 + 1) c2049,.slice A2141 n2142 c2143],.own (.slice A2141 n2142 c2143) 47 1 n2142 cs2144] [Sm w.heap.size F w [],St w []]:=by
    intro x2139 h bs2140 A2141 n2142 c2143 cs2144 h2145
    unfold Yzz at h
    refine Yu9 rfl<|Yu9 rfl<|Yu4 rfl rfl<|Yu2 0 rfl (Yub Yw1 rfl) gn rfl<|Yu2 1 rfl (Yue 1 Yyc rfl rfl rfl) gn rfl<|Yu2 2 rfl (Yuo Za5 rfl h2042.hq) gn rfl<|Yu2 3 rfl (Yug rfl rfl rfl) gn rfl<|Yu2 4 rfl (Yu3 rfl) gn rfl<|Yua 5 rfl<|Yuw rfl<|Ywm rfl ?_
    have key3:∀ s,Yui (fun (s:Int × (List Yuu)) o=>Yym x1 x959 x960 r58 r45 x2051 x2139 s.1 s.2 o) s o1→(fun (s:Int × (List Yuu))=>∀ (A2433:Option Addr) (n2434:Nat) (c2435:Nat) (h2436:Ow w.heap.size A2433 n2434 c2435 s.2),G (Yx7 w F r) [.code Zm5,.inLoop Zm5,.inBlock 2,.code Znb,.inBlock 1,.code Zgk,.inLoop Zc9,.inBlock 0,.code Zgh] [(3,.pointer (some ⟨gb41,0,none⟩)),(4,.slice A141 n142 c143),(5,.slice A161 n162 c163),(6,.int .i64 x959),(7,.pointer (some ⟨gb2043,0,none⟩)),(8,.int .i64 (x960.length:Int)),(26,.slice A10 n11 c12),(27,.int .i64 (x1.prods.length:Int)),(28,.int .i64 x959),(72,.int .i64 (w64 ((((ix x1.prods x959).rhs).length:Int) + 1))),(73,.int .i64 s.1)] [Ywj Zd4 (w.heap.size) none x2139 cs2144 bs2140,.box gb2043 63 [.int .i64 ((ix x1.prods x959).lhs),.slice A2039 n2040 c2041],.own (.slice A2433 n2434 c2435) 107 5 n2434 (s.2.flatMap Yv6),.own (.slice A2048 (n967 + 1) c2049) 3 1 (n967 + 1) (x2051.flatMap (eI .i64)),.own (.slice A161 n162 c163) 76 1 n162 (r58.flatMap (eI .u64)),.own (.slice A141 n142 c143) 4 1 n142 (r45.flatMap eB),.box gb41 102 [.slice A2 n3 c4,.slice A6 n7 c8,.slice A10 n11 c12,.slice A2433 n2434 c2435,.slice A2048 (n967 + 1) c2049,.slice A2141 n2142 c2143],.own (.slice A2141 n2142 c2143) 47 1 n2142 cs2144] [Sm w.heap.size F w [],St w []]) s:=by
     intro s hs
     refine Yui.ind (mot:=(fun (s:Int × (List Yuu))=>∀ (A2433:Option Addr) (n2434:Nat) (c2435:Nat) (h2436:Ow w.heap.size A2433 n2434 c2435 s.2),G (Yx7 w F r) [.code Zm5,.inLoop Zm5,.inBlock 2,.code Znb,.inBlock 1,.code Zgk,.inLoop Zc9,.inBlock 0,.code Zgh] [(3,.pointer (some ⟨gb41,0,none⟩)),(4,.slice A141 n142 c143),(5,.slice A161 n162 c163),(6,.int .i64 x959),(7,.pointer (some ⟨gb2043,0,none⟩)),(8,.int .i64 (x960.length:Int)),(26,.slice A10 n11 c12),(27,.int .i64 (x1.prods.length:Int)),(28,.int .i64 x959),(72,.int .i64 (w64 ((((ix x1.prods x959).rhs).length:Int) + 1))),(73,.int .i64 s.1)] [Ywj Zd4 (w.heap.size) none x2139 cs2144 bs2140,.box gb2043 63 [.int .i64 ((ix x1.prods x959).lhs),.slice A2039 n2040 c2041],.own (.slice A2433 n2434 c2435) 107 5 n2434 (s.2.flatMap Yv6),.own (.slice A2048 (n967 + 1) c2049) 3 1 (n967 + 1) (x2051.flatMap (eI .i64)),.own (.slice A161 n162 c163) 76 1 n162 (r58.flatMap (eI .u64)),.own (.slice A141 n142 c143) 4 1 n142 (r45.flatMap eB),.box gb41 102 [.slice A2 n3 c4,.slice A6 n7 c8,.slice A10 n11 c12,.slice A2433 n2434 c2435,.slice A2048 (n967 + 1) c2049,.slice A2141 n2142 c2143],.own (.slice A2141 n2142 c2143) 47 1 n2142 cs2144] [Sm w.heap.size F w [],St w []])) ?_ hs
     clear hs s
     intro s o2 h hO2
     obtain ⟨x2431,x2432⟩:=s
     show ∀ (A2433:Option Addr) (n2434:Nat) (c2435:Nat) (h2436:Ow w.heap.size A2433 n2434 c2435 x2432),G (Yx7 w F r) [.code Zm5,.inLoop Zm5,.inBlock 2,.code Znb,.inBlock 1,.code Zgk,.inLoop Zc9,.inBlock 0,.code Zgh] [(3,.pointer (some ⟨gb41,0,none⟩)),(4,.slice A141 n142 c143),(5,.slice A161 n162 c163),(6,.int .i64 x959),(7,.pointer (some ⟨gb2043,0,none⟩)),(8,.int .i64 (x960.length:Int)),(26,.slice A10 n11 c12),(27,.int .i64 (x1.prods.length:Int)),(28,.int .i64 x959),(72,.int .i64 (w64 ((((ix x1.prods x959).rhs).length:Int) + 1))),(73,.int .i64 x2431)] [Ywj Zd4 (w.heap.size) none x2139 cs2144 bs2140,.box gb2043 63 [.int .i64 ((ix x1.prods x959).lhs),.slice A2039 n2040 c2041],.own (.slice A2433 n2434 c2435) 107 5 n2434 (x2432.flatMap Yv6),.own (.slice A2048 (n967 + 1) c2049) 3 1 (n967 + 1) (x2051.flatMap (eI .i64)),.own (.slice A161 n162 c163) 76 1 n162 (r58.flatMap (eI .u64)),.own (.slice A141 n142 c143) 4 1 n142 (r45.flatMap eB),.box gb41 102 [.slice A2 n3 c4,.slice A6 n7 c8,.slice A10 n11 c12,.slice A2433 n2434 c2435,.slice A2048 (n967 + 1) c2049,.slice A2141 n2142 c2143],.own (.slice A2141 n2142 c2143) 47 1 n2142 cs2144] [Sm w.heap.size F w [],St w []]
     intro A2433 n2434 c2435 h2436
     have h:Yym x1 x959 x960 r58 r45 x2051 x2139 x2431 x2432 o2:=h
     unfold Yym at h
     refine Yu9 rfl<|Yu4 rfl rfl<|Yu2 0 rfl (Yug rfl rfl rfl) gn rfl<|Yua 1 rfl<|Yu9 rfl ?_
     by_cases hp2721:x2431 < w64 ((((ix x1.prods x959).rhs).length:Int) + 1)
     ·have h:=Yul hp2721 h
      refine Yv4 rfl _ rfl ((decide_eq_true hp2721))<|Yv2 rfl<|Yu9 rfl<|Yuw rfl<|Yu9 rfl<|Yu4 rfl rfl<|Yu2 0 rfl (Yu3 rfl) gn rfl<|Yu2 1 rfl (Yu7 rfl) gn rfl<|Yua 2 rfl<|Yu4 rfl rfl<|Yu2 0 rfl (Yu3 rfl) gn rfl<|Yu2 1 rfl (Yu3 rfl) gn rfl ?_
      refine Yu2 2 rfl (Yuy rfl) gn rfl<|Yu2 3 rfl (Yub Ze6 rfl) gn rfl<|Yu2 4 rfl (Yue 6 Zi8 rfl rfl rfl) gn rfl<|Yu2 5 rfl (Yu3 rfl) gn rfl<|Yu2 6 rfl (Yu3 rfl) gn rfl<|Yu2 7 rfl (Zap #[.int .i64 x959,.int .i64 x2431,.int .i64 (-1),.int .u64 0,.bool true] bd_107 rfl (by kernel_rfl)) gn rfl ?_
      refine Yve 8 rfl (Zdd (xs:=([(⟨x959,x2431,-1,0,true⟩:Yuu)]:List Yuu)) [.int .i64 x959,.int .i64 x2431,.int .i64 (-1),.int .u64 0,.bool true] bs_100_1 rfl (by kernel_rfl) rfl rfl rfl rfl fun gb2723 h2724=>?_) gn
      obtain ⟨x2728,hv2729,h⟩:=h
      obtain ⟨hb2730,h⟩:=h
      refine Yve 9 rfl (Zdj (zs:=x2728) (cells':=x2728.flatMap Yv6) 3 ap_100 rfl rfl rfl h2436 (Nat.le_refl _) (Src.ownF (hl:=Yx6) (h1:=Zct) 0 rfl h2724) (by rw [hv2729,List.flatMap_append] <;> rfl) (Yzh hv2729 h2724.hq) hb2730 rfl rfl fun A2725 c2726 h2727=>?_) gn
      refine Yu2 10 rfl (Yuy rfl) gn rfl<|Yu2 11 rfl (Yub Ze6 rfl) gn rfl ?_
      refine Yve 12 rfl (Za4 (vs:=[.slice A2725 (n2434 + 1) c2726]) (cs':=[.slice A2 n3 c4,.slice A6 n7 c8,.slice A10 n11 c12,.slice A2725 (n2434 + 1) c2726,.slice A2048 (n967 + 1) c2049,.slice A2141 n2142 c2143]) (M':=[.own (.slice (some ⟨gb2723,0,none⟩) 1 1) 107 5 1 (([(⟨x959,x2431,-1,0,true⟩:Yuu)]:List Yuu).flatMap Yv6),Ywj Zd4 (w.heap.size) none x2139 cs2144 bs2140,.box gb2043 63 [.int .i64 ((ix x1.prods x959).lhs),.slice A2039 n2040 c2041],.own (.slice A2725 (n2434 + 1) c2726) 107 5 (n2434 + 1) (x2728.flatMap Yv6),.own (.slice A2048 (n967 + 1) c2049) 3 1 (n967 + 1) (x2051.flatMap (eI .i64)),.own (.slice A161 n162 c163) 76 1 n162 (r58.flatMap (eI .u64)),.own (.slice A141 n142 c143) 4 1 n142 (r45.flatMap eB),.box gb41 102 [.slice A2 n3 c4,.slice A6 n7 c8,.slice A10 n11 c12,.slice A2725 (n2434 + 1) c2726,.slice A2048 (n967 + 1) c2049,.slice A2141 n2142 c2143],.own (.slice A2141 n2142 c2143) 47 1 n2142 cs2144]) 7 sz_100 rfl rfl rfl rfl rfl rfl rfl rfl rfl ?_) gn
      refine Yua 13 rfl<|Yux<|Yu4 rfl rfl<|Yu2 0 rfl (Yug rfl rfl rfl) gn rfl<|Yu2 1 rfl (Yu3 rfl) gn rfl<|Yua 2 rfl<|Yv1 ?_
      have ih:=Out.inl hO2 h
      exact Yvh [0,1] (ih A2725 (n2434 + 1) c2726 h2727) ⟨rfl,rfl,rfl,rfl,rfl,rfl,rfl,rfl,rfl,rfl,rfl,trivial⟩ (.cons _ (.cons_cons _ (.cons_cons _ (.cons_cons _ (.cons_cons _ (.cons_cons _ (.cons_cons _ (.cons_cons _ (.cons_cons _ (.slnil)))))))))) rfl
     ·have h:=Yum hp2721 h
      refine Yur rfl _ rfl ((decide_eq_false hp2721))<|Ywa [.code Znb,.inBlock 1,.code Zgk,.inLoop Zc9,.inBlock 0,.code Zgh] rfl rfl<|Yu9 rfl<|Yu4 rfl rfl<|Yu2 0 rfl (Yub Yw1 rfl) gn rfl<|Yu2 1 rfl (Yue 1 Yyc rfl rfl rfl) gn rfl<|Yu2 2 rfl (Yuo Za5 rfl h2042.hq) gn rfl<|Yu2 3 rfl (Yug rfl rfl rfl) gn rfl<|Yu2 4 rfl (Yu7 rfl) gn rfl<|Yua 5 rfl<|Yuw rfl<|Ywm rfl ?_
      have key4:∀ s,Yui (fun (s:Int × (List Yuu)) o=>Yxt x960 x1 x959 r58 r45 x2051 x2139 s.1 s.2 o) s o2→(fun (s:Int × (List Yuu))=>∀ (h2824:Ow w.heap.size A2433 n2434 c2435 s.2),G (Yx7 w F r) [.code Zfv,.inLoop Zfv,.inBlock 4,.inBlock 1,.code Zgk,.inLoop Zc9,.inBlock 0,.code Zgh] [(3,.pointer (some ⟨gb41,0,none⟩)),(4,.slice A141 n142 c143),(5,.slice A161 n162 c163),(7,.pointer (some ⟨gb2043,0,none⟩)),(8,.int .i64 (x960.length:Int)),(10,.int .i64 s.1),(26,.slice A10 n11 c12),(27,.int .i64 (x1.prods.length:Int)),(28,.int .i64 x959)] [Ywj Zd4 (w.heap.size) none x2139 cs2144 bs2140,.box gb2043 63 [.int .i64 ((ix x1.prods x959).lhs),.slice A2039 n2040 c2041],.own (.slice A2433 n2434 c2435) 107 5 n2434 (s.2.flatMap Yv6),.own (.slice A2048 (n967 + 1) c2049) 3 1 (n967 + 1) (x2051.flatMap (eI .i64)),.own (.slice A161 n162 c163) 76 1 n162 (r58.flatMap (eI .u64)),.own (.slice A141 n142 c143) 4 1 n142 (r45.flatMap eB),.box gb41 102 [.slice A2 n3 c4,.slice A6 n7 c8,.slice A10 n11 c12,.slice A2433 n2434 c2435,.slice A2048 (n967 + 1) c2049,.slice A2141 n2142 c2143],.own (.slice A2141 n2142 c2143) 47 1 n2142 cs2144] [Sm w.heap.size F w [],St w []]) s:=by
       intro s hs
       refine Yui.ind (mot:=(fun (s:Int × (List Yuu))=>∀ (h2824:Ow w.heap.size A2433 n2434 c2435 s.2),G (Yx7 w F r) [.code Zfv,.inLoop Zfv,.inBlock 4,.inBlock 1,.code Zgk,.inLoop Zc9,.inBlock 0,.code Zgh] [(3,.pointer (some ⟨gb41,0,none⟩)),(4,.slice A141 n142 c143),(5,.slice A161 n162 c163),(7,.pointer (some ⟨gb2043,0,none⟩)),(8,.int .i64 (x960.length:Int)),(10,.int .i64 s.1),(26,.slice A10 n11 c12),(27,.int .i64 (x1.prods.length:Int)),(28,.int .i64 x959)] [Ywj Zd4 (w.heap.size) none x2139 cs2144 bs2140,.box gb2043 63 [.int .i64 ((ix x1.prods x959).lhs),.slice A2039 n2040 c2041],.own (.slice A2433 n2434 c2435) 107 5 n2434 (s.2.flatMap Yv6),.own (.slice A2048 (n967 + 1) c2049) 3 1 (n967 + 1) (x2051.flatMap (eI .i64)),.own (.slice A161 n162 c163) 76 1 n162 (r58.flatMap (eI .u64)),.own (.slice A141 n142 c143) 4 1 n142 (r45.flatMap eB),.box gb41 102 [.slice A2 n3 c4,.slice A6 n7 c8,.slice A10 n11 c12,.slice A2433 n2434 c2435,.slice A2048 (n967 + 1) c2049,.slice A2141 n2142 c2143],.own (.slice A2141 n2142 c2143) 47 1 n2142 cs2144] [Sm w.heap.size F w [],St w []])) ?_ hs
       clear hs s
       intro s o3 h hO3
       obtain ⟨x2822,x2823⟩:=s
       show ∀ (h2824:Ow w.heap.size A2433 n2434 c2435 x2823),G (Yx7 w F r) [.code Zfv,.inLoop Zfv,.inBlock 4,.inBlock 1,.code Zgk,.inLoop Zc9,.inBlock 0,.code Zgh] [(3,.pointer (some ⟨gb41,0,none⟩)),(4,.slice A141 n142 c143),(5,.slice A161 n162 c163),(7,.pointer (some ⟨gb2043,0,none⟩)),(8,.int .i64 (x960.length:Int)),(10,.int .i64 x2822),(26,.slice A10 n11 c12),(27,.int .i64 (x1.prods.length:Int)),(28,.int .i64 x959)] [Ywj Zd4 (w.heap.size) none x2139 cs2144 bs2140,.box gb2043 63 [.int .i64 ((ix x1.prods x959).lhs),.slice A2039 n2040 c2041],.own (.slice A2433 n2434 c2435) 107 5 n2434 (x2823.flatMap Yv6),.own (.slice A2048 (n967 + 1) c2049) 3 1 (n967 + 1) (x2051.flatMap (eI .i64)),.own (.slice A161 n162 c163) 76 1 n162 (r58.flatMap (eI .u64)),.own (.slice A141 n142 c143) 4 1 n142 (r45.flatMap eB),.box gb41 102 [.slice A2 n3 c4,.slice A6 n7 c8,.slice A10 n11 c12,.slice A2433 n2434 c2435,.slice A2048 (n967 + 1) c2049,.slice A2141 n2142 c2143],.own (.slice A2141 n2142 c2143) 47 1 n2142 cs2144] [Sm w.heap.size F w [],St w []]
       intro h2824
       have h:Yxt x960 x1 x959 r58 r45 x2051 x2139 x2822 x2823 o3:=h
       unfold Yxt at h
       refine Yu9 rfl<|Yu9 rfl<|Yu4 rfl rfl<|Yu2 0 rfl (Yu3 rfl) gn rfl<|Yu2 1 rfl (Yug rfl rfl rfl) gn rfl<|Yua 2 rfl ?_
       by_cases hp2915:x2822≥0
       ·have h:=Yul hp2915 h
        refine Yv4 rfl _ rfl ((decide_eq_true hp2915))<|Yv2 rfl<|Yu9 rfl<|Yuw rfl<|Yu9 rfl<|Yu4 rfl rfl<|Yu2 0 rfl (Yu3 rfl) gn rfl<|Yu2 1 rfl (Yuy rfl) gn rfl<|Yu2 2 rfl (Yub Ze6 rfl) gn rfl<|Yu2 3 rfl (Yue 6 Zi8 rfl rfl rfl) gn rfl<|Yu2 4 rfl (Yu3 rfl) gn rfl<|Yu2 5 rfl (Yu3 rfl) gn rfl ?_
        refine Yu2 6 rfl (Yug rfl rfl rfl) gn rfl ?_
        obtain ⟨hb2916,h⟩:=h
        refine Yu2 7 rfl (Yyn Zjm rfl rfl h2824 hb2916) gn rfl<|Yu2 8 rfl (Yu7 rfl) gn rfl<|Yua 9 rfl<|Yu9 rfl<|Yu4 rfl rfl<|Yu2 0 rfl (Yu3 rfl) gn rfl<|Yu2 1 rfl (Yub Yw1 rfl) gn rfl<|Yu2 2 rfl (Yue 1 Yyc rfl rfl rfl) gn rfl<|Yu2 3 rfl (Yu3 rfl) gn rfl ?_
        obtain ⟨hb2917,h⟩:=h
        have hr2918:=Rw.readF (s:=Sm w.heap.size F w []) (hl:=Yvw) (h1:=Yvy) h2042 hb2917
        refine Yu2 4 rfl (Yv7 (s:=Sm w.heap.size F w []) Yz5 rfl rfl h2042 hb2917) gn rfl<|Yu2 5 rfl (Yvo Yyd rfl) gn rfl<|Yu2 6 rfl (Yvj (kk:=(x2822:Int).toNat * 3) (j:=0) (Sm w.heap.size F w []) Yvt rfl hr2918 rfl (me 0 rfl)) gn rfl<|Yu2 7 rfl (Zce rfl) gn rfl<|Yu2 8 rfl (Yvo Zkn rfl) gn rfl ?_
        obtain ⟨x2919,hv2920,h⟩:=h
        refine Yve 9 rfl (Zgm (enc:=Yv6) (o:=2) (z:=({ (ix x2823 (w64 ((x960.length:Int) + x2822))) with sym:=(ix ((ix x1.prods x959).rhs) x2822).sym })) (vs:=[.int .i64 ((ix ((ix x1.prods x959).rhs) x2822).sym)]) (i:=(w64 ((x960.length:Int) + x2822))) 2 Yx6 sz_3 rfl rfl rfl rfl rfl h2824 hb2916 rfl rfl rfl hv2920 fun h2921=>?_) gn
        refine Yua 10 rfl<|Yu9 rfl<|Yu4 rfl rfl<|Yu2 0 rfl (Yu3 rfl) gn rfl<|Yu2 1 rfl (Yug rfl rfl rfl) gn rfl<|Yu2 2 rfl (Yub Yw1 rfl) gn rfl<|Yu2 3 rfl (Yue 1 Yyc rfl rfl rfl) gn rfl<|Yu2 4 rfl (Yuo Za5 rfl h2042.hq) gn rfl<|Yu2 5 rfl (Yug rfl rfl rfl) gn rfl<|Yua 6 rfl ?_
        by_cases hp2922:w64 (x2822 + 1) < (((ix x1.prods x959).rhs).length:Int)
        ·have h:=Yul hp2922 h
         refine Yv4 rfl _ rfl ((decide_eq_true hp2922))<|Yu9 rfl ?_
         obtain ⟨hb2923,h⟩:=h
         obtain ⟨hb2924,h⟩:=h
         have hns:Region.noSelect (Code.ops q37c72)=true:=by kernel_rfl
         refine Yvr [] 20 rfl rfl mix rfl (.c 0 rfl (.c 1 rfl .n))<|wfv 0 rfl (Yu3 rfl) gn hns rfl<|wfv 1 rfl (Yuy rfl) gn hns rfl<|wfv 2 rfl (Yub Ze6 rfl) gn hns rfl<|wfv 3 rfl (Yue 6 Zi8 rfl rfl rfl) gn hns rfl<|wfv 4 rfl (Yu3 rfl) gn hns rfl<|wfv 5 rfl (Yu3 rfl) gn hns rfl<|wfv 6 rfl (Yug rfl rfl rfl) gn hns rfl<|wfv 7 rfl (Yug rfl rfl rfl) gn hns rfl<|wfv 8 rfl (Yyn Zjm rfl rfl h2921 hb2923) gn hns rfl<|wfv 9 rfl (v_ldO [.int .i64 ((ix x2919 (w64 ((w64 ((x960.length:Int) + x2822)) + 1))).prod),.int .i64 ((ix x2919 (w64 ((w64 ((x960.length:Int) + x2822)) + 1))).dot),.int .i64 ((ix x2919 (w64 ((w64 ((x960.length:Int) + x2822)) + 1))).sym),.int .u64 ((ix x2919 (w64 ((w64 ((x960.length:Int) + x2822)) + 1))).rest),.bool ((ix x2919 (w64 ((w64 ((x960.length:Int) + x2822)) + 1))).open_)] 2 ld_107 rfl rfl (fm_one Yx6 hb2923) rfl) gn hns rfl<|wfv 10 rfl (Yub Yw1 rfl) gn hns rfl ?_
         refine wfv 11 rfl (Yue 1 Yyc rfl rfl rfl) gn hns rfl<|wfv 12 rfl (Yu3 rfl) gn hns rfl<|wfv 13 rfl (Yug rfl rfl rfl) gn hns rfl ?_
         have hr2931:=Rw.readF (s:=Sm w.heap.size F w []) (hl:=Yvw) (h1:=Yvy) h2042 hb2924
         refine wfv 14 rfl (Yv7 (s:=Sm w.heap.size F w []) Yz5 rfl rfl h2042 hb2924) gn hns rfl<|wfv 15 rfl (Yvo Yyd rfl) gn hns rfl<|wfv 16 rfl (Yvj (kk:=(w64 (x2822 + 1):Int).toNat * 3) (j:=0) (Sm w.heap.size F w []) Yvt rfl hr2931 rfl (me 0 rfl)) gn hns rfl ?_
         refine Ywl [17] (by kernel_rfl) rfl ⟨Zdm 17 rfl gn rfl (Yye [.int .i64 0,.int .i64 0,.int .i64 0,.int .u64 0,.bool false] zr_107 rfl fun gb2933=>?_),trivial⟩
         refine ⟨Yvm [1,2,3,4,5,6,7,8] rfl,Yvm [0,1] rfl,?_⟩
         refine Ywl [18] (by kernel_rfl) rfl ⟨Zdm 18 rfl gn rfl (Za4 (vs:=[.int .i64 ((ix x2919 (w64 ((w64 ((x960.length:Int) + x2822)) + 1))).prod),.int .i64 ((ix x2919 (w64 ((w64 ((x960.length:Int) + x2822)) + 1))).dot),.int .i64 ((ix x2919 (w64 ((w64 ((x960.length:Int) + x2822)) + 1))).sym),.int .u64 ((ix x2919 (w64 ((w64 ((x960.length:Int) + x2822)) + 1))).rest),.bool ((ix x2919 (w64 ((w64 ((x960.length:Int) + x2822)) + 1))).open_)]) (cs':=[.int .i64 ((ix x2919 (w64 ((w64 ((x960.length:Int) + x2822)) + 1))).prod),.int .i64 ((ix x2919 (w64 ((w64 ((x960.length:Int) + x2822)) + 1))).dot),.int .i64 ((ix x2919 (w64 ((w64 ((x960.length:Int) + x2822)) + 1))).sym),.int .u64 ((ix x2919 (w64 ((w64 ((x960.length:Int) + x2822)) + 1))).rest),.bool ((ix x2919 (w64 ((w64 ((x960.length:Int) + x2822)) + 1))).open_)]) (M':=[.box gb2933 107 [.int .i64 ((ix x2919 (w64 ((w64 ((x960.length:Int) + x2822)) + 1))).prod),.int .i64 ((ix x2919 (w64 ((w64 ((x960.length:Int) + x2822)) + 1))).dot),.int .i64 ((ix x2919 (w64 ((w64 ((x960.length:Int) + x2822)) + 1))).sym),.int .u64 ((ix x2919 (w64 ((w64 ((x960.length:Int) + x2822)) + 1))).rest),.bool ((ix x2919 (w64 ((w64 ((x960.length:Int) + x2822)) + 1))).open_)],Ywj Zd4 (w.heap.size) none x2139 cs2144 bs2140,.box gb2043 63 [.int .i64 ((ix x1.prods x959).lhs),.slice A2039 n2040 c2041],.own (.slice A2433 n2434 c2435) 107 5 n2434 (x2919.flatMap Yv6),.own (.slice A2048 (n967 + 1) c2049) 3 1 (n967 + 1) (x2051.flatMap (eI .i64)),.own (.slice A161 n162 c163) 76 1 n162 (r58.flatMap (eI .u64)),.own (.slice A141 n142 c143) 4 1 n142 (r45.flatMap eB),.box gb41 102 [.slice A2 n3 c4,.slice A6 n7 c8,.slice A10 n11 c12,.slice A2433 n2434 c2435,.slice A2048 (n967 + 1) c2049,.slice A2141 n2142 c2143],.own (.slice A2141 n2142 c2143) 47 1 n2142 cs2144]) 0 sz_107 rfl rfl rfl rfl rfl rfl rfl rfl rfl ?_),trivial⟩
         refine ⟨Yvm [1,2,3,4,5,6,7,8] rfl,Yvm [0,1] rfl,?_⟩
         refine wfv 19 rfl (Yu7 rfl) gn hns rfl<|Yvx (by kernel_rfl)<|Yu9 rfl ?_
         have j5:∀ (x2965:List Yuu) (h:Zau x1 x959 x2822 r45 x960 x2919 x2965 o3) (h2966:Ow w.heap.size A2433 n2434 c2435 x2965) (hb2967:0≤w64 ((x960.length:Int) + x2822)∧w64 ((x960.length:Int) + x2822) < (x2965.length:Int)),G (Yx7 w F r) [.code Zs7,.inBlock 5,.code q37c62,.inLoop Zfv,.inBlock 4,.inBlock 1,.code Zgk,.inLoop Zc9,.inBlock 0,.code Zgh] [(3,.pointer (some ⟨gb41,0,none⟩)),(4,.slice A141 n142 c143),(5,.slice A161 n162 c163),(7,.pointer (some ⟨gb2043,0,none⟩)),(8,.int .i64 (x960.length:Int)),(10,.int .i64 x2822),(11,eA A2433 ((w64 ((x960.length:Int) + x2822):Int).toNat * 5)),(12,.pointer (some ⟨gb2933,0,none⟩)),(13,.int .i64 ((ix ((ix x1.prods x959).rhs) (w64 (x2822 + 1))).sym)),(26,.slice A10 n11 c12),(27,.int .i64 (x1.prods.length:Int)),(28,.int .i64 x959)] [Ywj Zd4 (w.heap.size) none x2139 cs2144 bs2140,.box gb2933 107 [.int .i64 ((ix x2919 (w64 ((w64 ((x960.length:Int) + x2822)) + 1))).prod),.int .i64 ((ix x2919 (w64 ((w64 ((x960.length:Int) + x2822)) + 1))).dot),.int .i64 ((ix x2919 (w64 ((w64 ((x960.length:Int) + x2822)) + 1))).sym),.int .u64 ((ix x2919 (w64 ((w64 ((x960.length:Int) + x2822)) + 1))).rest),.bool ((ix x2919 (w64 ((w64 ((x960.length:Int) + x2822)) + 1))).open_)],.box gb2043 63 [.int .i64 ((ix x1.prods x959).lhs),.slice A2039 n2040 c2041],.own (.slice A2433 n2434 c2435) 107 5 n2434 (x2965.flatMap Yv6),.own (.slice A2048 (n967 + 1) c2049) 3 1 (n967 + 1) (x2051.flatMap (eI .i64)),.own (.slice A161 n162 c163) 76 1 n162 (r58.flatMap (eI .u64)),.own (.slice A141 n142 c143) 4 1 n142 (r45.flatMap eB),.box gb41 102 [.slice A2 n3 c4,.slice A6 n7 c8,.slice A10 n11 c12,.slice A2433 n2434 c2435,.slice A2048 (n967 + 1) c2049,.slice A2141 n2142 c2143],.own (.slice A2141 n2142 c2143) 47 1 n2142 cs2144] [Sm w.heap.size F w [],St w []]:=by
          intro x2965 h h2966 hb2967
          unfold Zau at h
          refine Yu9 rfl<|Yu4 rfl rfl<|Yu2 0 rfl (Yu3 rfl) gn rfl<|Yu2 1 rfl (Yu3 rfl) gn rfl ?_
          obtain ⟨hb2968,h⟩:=h
          refine Yu2 2 rfl (Yyn Zfl rfl rfl (Ow.weak hL139.env.size h144) hb2968) gn rfl<|Yu2 3 rfl (Zbb (.bool (ix r45 ((ix ((ix x1.prods x959).rhs) (w64 (x2822 + 1))).sym))) 6 Zlq rfl rfl (Zcj hlB hb2968 rfl)) gn rfl<|Yua 4 rfl ?_
          by_cases hp2969:(ix r45 ((ix ((ix x1.prods x959).rhs) (w64 (x2822 + 1))).sym))=true
          ·have h:=Yul hp2969 h
           refine Yv4 rfl _ rfl (hp2969) ?_
           obtain ⟨x2970,hv2971,h⟩:=h
           have hns:Region.noSelect (Code.ops q37c78)=true:=by kernel_rfl
           refine Yvr [9] 10 rfl rfl mix rfl (.c 0 rfl (.c 1 rfl .n))<|wfv 0 rfl (Yu3 rfl) gn hns (by kernel_rfl)<|wfv 1 rfl (Zce rfl) gn hns (by kernel_rfl)<|wfv 2 rfl (Yvo Zhj rfl) gn hns (by kernel_rfl)<|wfv 3 rfl (Zbb (.int .u64 ((ix x2965 (w64 ((x960.length:Int) + x2822))).rest)) 3 Zdt rfl rfl (fm_get Yx6 hb2967 rfl)) gn hns (by kernel_rfl)<|wfv 4 rfl (Yub Zhj rfl) gn hns (by kernel_rfl)<|wfv 5 rfl (Yue 1 Zdt rfl rfl rfl) gn hns (by kernel_rfl)<|wfv 6 rfl (Yug rfl rfl rfl) gn hns (by kernel_rfl)<|wfv 7 rfl (Zce rfl) gn hns (by kernel_rfl)<|wfv 8 rfl (Yvo Zhj rfl) gn hns (by kernel_rfl) ?_
           refine Ywl [9] (by kernel_rfl) rfl ⟨Zi7 9 rfl gn rfl (Zgm (enc:=Yv6) (o:=3) (z:=({ (ix x2965 (w64 ((x960.length:Int) + x2822))) with rest:=bits .or .u64 ((ix x2965 (w64 ((x960.length:Int) + x2822))).rest) ((ix x2919 (w64 ((w64 ((x960.length:Int) + x2822)) + 1))).rest) })) (vs:=[.int .u64 (bits .or .u64 ((ix x2965 (w64 ((x960.length:Int) + x2822))).rest) ((ix x2919 (w64 ((w64 ((x960.length:Int) + x2822)) + 1))).rest))]) (i:=(w64 ((x960.length:Int) + x2822))) 3 Yx6 Zjs rfl rfl rfl rfl rfl h2966 hb2967 rfl rfl rfl hv2971 fun h2974=>?_),trivial⟩
           unfold NxL
           refine Yvx (by kernel_rfl)<|Yux<|Yu4 rfl rfl<|Yu2 0 rfl (Yu3 rfl) gn rfl<|Yu2 1 rfl (Yug rfl rfl rfl) gn rfl<|Yu2 2 rfl (Yu7 rfl) gn rfl<|Yua 3 rfl<|Yv1 ?_
           have ih:=Out.inl hO3 h
           exact Yvh [0,1] (ih h2974) ⟨rfl,rfl,rfl,rfl,rfl,rfl,rfl,rfl,rfl,trivial⟩ (.cons_cons _ (.cons _ (.cons_cons _ (.cons_cons _ (.cons_cons _ (.cons_cons _ (.cons_cons _ (.cons_cons _ (.cons_cons _ (.slnil)))))))))) rfl
          ·have h:=Yum hp2969 h
           refine Yur rfl _ rfl ((bf hp2969))<|Yv2 rfl<|Yux<|Yu4 rfl rfl<|Yu2 0 rfl (Yu3 rfl) gn rfl<|Yu2 1 rfl (Yug rfl rfl rfl) gn rfl<|Yu2 2 rfl (Yu7 rfl) gn rfl<|Yua 3 rfl<|Yv1 ?_
           have ih:=Out.inl hO3 h
           exact Yvh [0,1] (ih h2966) ⟨rfl,rfl,rfl,rfl,rfl,rfl,rfl,rfl,rfl,trivial⟩ (.cons_cons _ (.cons _ (.cons_cons _ (.cons_cons _ (.cons_cons _ (.cons_cons _ (.cons_cons _ (.cons_cons _ (.cons_cons _ (.slnil)))))))))) rfl
         obtain ⟨hb2975,h⟩:=h
         obtain ⟨hb2976,h⟩:=h
         by_cases hp2977:(ix r45 ((ix ((ix x1.prods x959).rhs) (w64 (x2822 + 1))).sym))=true
         ·have h:=Yul hp2977 h
          obtain ⟨x2978,hv2979,h⟩:=h
          obtain ⟨x2981,hv2982,h⟩:=h
          have d48:∀ (h2989:Ow w.heap.size A2433 n2434 c2435 x2981) (hb2990:0≤w64 ((x960.length:Int) + x2822)∧w64 ((x960.length:Int) + x2822) < (x2981.length:Int)),G (Yx7 w F r) [.code Zs7,.inBlock 5,.code q37c62,.inLoop Zfv,.inBlock 4,.inBlock 1,.code Zgk,.inLoop Zc9,.inBlock 0,.code Zgh] [(3,.pointer (some ⟨gb41,0,none⟩)),(4,.slice A141 n142 c143),(5,.slice A161 n162 c163),(7,.pointer (some ⟨gb2043,0,none⟩)),(8,.int .i64 (x960.length:Int)),(10,.int .i64 x2822),(11,eA A2433 ((w64 ((x960.length:Int) + x2822):Int).toNat * 5)),(12,.pointer (some ⟨gb2933,0,none⟩)),(13,.int .i64 ((ix ((ix x1.prods x959).rhs) (w64 (x2822 + 1))).sym)),(26,.slice A10 n11 c12),(27,.int .i64 (x1.prods.length:Int)),(28,.int .i64 x959),(148,.pointer (some ⟨gb2933,4,none⟩)),(149,.bool ((ix x2919 (w64 ((w64 ((x960.length:Int) + x2822)) + 1))).open_))] [Ywj Zd4 (w.heap.size) none x2139 cs2144 bs2140,.box gb2933 107 [.int .i64 ((ix x2919 (w64 ((w64 ((x960.length:Int) + x2822)) + 1))).prod),.int .i64 ((ix x2919 (w64 ((w64 ((x960.length:Int) + x2822)) + 1))).dot),.int .i64 ((ix x2919 (w64 ((w64 ((x960.length:Int) + x2822)) + 1))).sym),.int .u64 ((ix x2919 (w64 ((w64 ((x960.length:Int) + x2822)) + 1))).rest),.bool ((ix x2919 (w64 ((w64 ((x960.length:Int) + x2822)) + 1))).open_)],.box gb2043 63 [.int .i64 ((ix x1.prods x959).lhs),.slice A2039 n2040 c2041],.own (.slice A2433 n2434 c2435) 107 5 n2434 (x2981.flatMap Yv6),.own (.slice A2048 (n967 + 1) c2049) 3 1 (n967 + 1) (x2051.flatMap (eI .i64)),.own (.slice A161 n162 c163) 76 1 n162 (r58.flatMap (eI .u64)),.own (.slice A141 n142 c143) 4 1 n142 (r45.flatMap eB),.box gb41 102 [.slice A2 n3 c4,.slice A6 n7 c8,.slice A10 n11 c12,.slice A2433 n2434 c2435,.slice A2048 (n967 + 1) c2049,.slice A2141 n2142 c2143],.own (.slice A2141 n2142 c2143) 47 1 n2142 cs2144] [Sm w.heap.size F w [],St w []]:=by
           intro h2989 hb2990
           exact Yvh [0,1] (j5 x2981 h h2989 hb2990) ⟨rfl,rfl,rfl,rfl,rfl,rfl,rfl,rfl,rfl,rfl,rfl,rfl,trivial⟩ (.cons_cons _ (.cons_cons _ (.cons_cons _ (.cons_cons _ (.cons_cons _ (.cons_cons _ (.cons_cons _ (.cons_cons _ (.cons_cons _ (.slnil)))))))))) rfl
          have hns:Region.noSelect (Code.ops q37c74)=true:=by kernel_rfl
          refine Zg2 [Ywj Zd4 (w.heap.size) none x2139 cs2144 bs2140,.own (.slice A2048 (n967 + 1) c2049) 3 1 (n967 + 1) (x2051.flatMap (eI .i64)),.own (.slice A161 n162 c163) 76 1 n162 (r58.flatMap (eI .u64)),.own (.slice A141 n142 c143) 4 1 n142 (r45.flatMap eB),.own (.slice A2141 n2142 c2143) 47 1 n2142 cs2144] [Sm w.heap.size F w [],St w []] [] 20 rfl rfl mix rfl (.cons _ (.cons_cons _ (.cons _ (.cons _ (.cons_cons _ (.cons_cons _ (.cons_cons _ (.cons _ (.cons_cons _ (.slnil)))))))))) (Yvm [0,1] rfl)<|wfv 0 rfl (Yu3 rfl) gn hns rfl<|wfv 1 rfl (Yu3 rfl) gn hns rfl<|wfv 2 rfl (Yu3 rfl) gn hns rfl<|wfv 3 rfl (Yu3 rfl) gn hns rfl<|wfv 4 rfl (Yyn Zs0 rfl rfl (Ow.weak hL159.env.size h164) hb2975) gn hns rfl<|wfv 5 rfl (Zbb (.int .u64 (ix r58 ((ix ((ix x1.prods x959).rhs) (w64 (x2822 + 1))).sym))) 2 Zdt rfl rfl (Zcj (hlI .u64) hb2975 rfl)) gn hns rfl<|wfv 6 rfl (Yu3 rfl) gn hns rfl<|wfv 7 rfl (Yu3 rfl) gn hns rfl<|wfv 8 rfl (Yyn Zfl rfl rfl (Ow.weak hL139.env.size h144) hb2976) gn hns rfl<|wfv 9 rfl (Zbb (.bool (ix r45 ((ix ((ix x1.prods x959).rhs) (w64 (x2822 + 1))).sym))) 3 Zlq rfl rfl (Zcj hlB hb2976 rfl)) gn hns rfl<|wfv 10 rfl (Yu3 rfl) gn hns rfl ?_
          refine Yv8 147 rfl (hp2977)<|wfv 11 rfl (Yub Ziq rfl) (gy 147 rfl rfl) hns rfl<|wfv 14 rfl (Zce rfl) gn hns rfl<|wfv 15 rfl (Yvo Zhj rfl) gn hns rfl ?_
          refine Ywl [12,16] (by kernel_rfl) rfl ⟨?_,?_,trivial⟩
          ·refine Zdm 12 rfl (gy 147 rfl rfl) rfl (Zov (Yue 0 Zlq rfl rfl rfl) rfl ?_)
           refine ⟨Yvm [1,4,5,6,8] rfl,Yvm [0,1] rfl,?_⟩
           refine wfv 13 rfl (Yuk (b:=true) rfl rfl) gn hns rfl ?_
           refine Ywl [16] (by kernel_rfl) rfl ⟨Zdm 16 rfl gn rfl (Zgm (enc:=Yv6) (o:=3) (z:=({ (ix x2919 (w64 ((x960.length:Int) + x2822))) with rest:=ix r58 ((ix ((ix x1.prods x959).rhs) (w64 (x2822 + 1))).sym) })) (vs:=[.int .u64 (ix r58 ((ix ((ix x1.prods x959).rhs) (w64 (x2822 + 1))).sym))]) (i:=(w64 ((x960.length:Int) + x2822))) 3 Yx6 Zjs rfl rfl rfl rfl rfl h2921 (by rw [hv2920,List.length_set]; exact hb2916) rfl rfl rfl hv2979 fun h2991=>?_),trivial⟩
           refine ⟨Yvm [1,4,5,6,8] rfl,Yvm [0,1] rfl,?_⟩
           refine wfv 17 rfl (Zce rfl) gn hns rfl<|wfv 18 rfl (Yvo Ziq rfl) gn hns rfl ?_
           refine Ywl [19] (by kernel_rfl) rfl ⟨Zdm 19 rfl gn rfl (Zgm (enc:=Yv6) (o:=4) (z:=({ (ix x2978 (w64 ((x960.length:Int) + x2822))) with open_:=(ix x2919 (w64 ((w64 ((x960.length:Int) + x2822)) + 1))).open_ })) (vs:=[.bool ((ix x2919 (w64 ((w64 ((x960.length:Int) + x2822)) + 1))).open_)]) (i:=(w64 ((x960.length:Int) + x2822))) 3 Yx6 sz_4 rfl rfl rfl rfl rfl h2991 (by rw [hv2979,List.length_set]; exact (by rw [hv2920,List.length_set]; exact hb2916)) rfl rfl rfl hv2982 fun h2992=>?_),trivial⟩
           refine ⟨Yvm [1,4,5,6,8] rfl,Yvm [0,1] rfl,?_⟩
           refine Yvx (by kernel_rfl)<|Yvc 8 rfl<|Yvc 8 rfl<|Yvc 8 rfl<|Yvc 8 rfl<|Yvc 8 rfl<|Yvc 8 rfl<|Yvc 8 rfl<|Yvc 7 rfl<|Yvc 8 rfl ?_
           exact Yvh [0,1] (d48 h2992 (by rw [hv2982,List.length_set]; exact (by rw [hv2979,List.length_set]; exact (by rw [hv2920,List.length_set]; exact hb2916)))) ⟨rfl,rfl,rfl,rfl,rfl,rfl,rfl,rfl,rfl,rfl,rfl,rfl,rfl,rfl,trivial⟩ (.cons_cons _ (.cons_cons _ (.cons_cons _ (.cons_cons _ (.cons_cons _ (.cons_cons _ (.cons_cons _ (.cons_cons _ (.cons_cons _ (.slnil)))))))))) rfl
          ·refine Zdm 16 rfl gn rfl (Zgm (enc := Yv6) (o := 3) (z := ({ (ix x2919 (w64 ((x960.length : Int) + x2822))) with rest := ix r58 ((ix ((ix x1.prods x959).rhs) (w64 (x2822 + 1))).sym) })) (vs := [.int .u64 (ix r58 ((ix ((ix x1.prods x959).rhs) (w64 (x2822 + 1))).sym))]) (i := (w64 ((x960.length : Int) + x2822))) 3 Yx6 Zjs rfl rfl rfl rfl rfl h2921 (by rw [hv2920, List.length_set]; exact hb2916) rfl rfl rfl hv2979 fun h2993 => ?_)
           refine ⟨Yvm [1,4,5,6,8] rfl,Yvm [0,1] rfl,?_⟩
           refine Ywl [12] (by kernel_rfl) rfl ⟨Zdm 12 rfl (gy 147 rfl rfl) rfl (Zov (Yue 0 Zlq rfl rfl rfl) rfl ?_),trivial⟩
           refine ⟨Yvm [1,4,5,6,8] rfl,Yvm [0,1] rfl,?_⟩
           refine wfv 13 rfl (Yuk (b:=true) rfl rfl) gn hns rfl<|wfv 17 rfl (Zce rfl) gn hns rfl<|wfv 18 rfl (Yvo Ziq rfl) gn hns rfl ?_
           refine Ywl [19] (by kernel_rfl) rfl ⟨Zdm 19 rfl gn rfl (Zgm (enc:=Yv6) (o:=4) (z:=({ (ix x2978 (w64 ((x960.length:Int) + x2822))) with open_:=(ix x2919 (w64 ((w64 ((x960.length:Int) + x2822)) + 1))).open_ })) (vs:=[.bool ((ix x2919 (w64 ((w64 ((x960.length:Int) + x2822)) + 1))).open_)]) (i:=(w64 ((x960.length:Int) + x2822))) 3 Yx6 sz_4 rfl rfl rfl rfl rfl h2993 (by rw [hv2979,List.length_set]; exact (by rw [hv2920,List.length_set]; exact hb2916)) rfl rfl rfl hv2982 fun h2994=>?_),trivial⟩
           refine ⟨Yvm [1,4,5,6,8] rfl,Yvm [0,1] rfl,?_⟩
           refine Yvx (by kernel_rfl)<|Yvc 8 rfl<|Yvc 8 rfl<|Yvc 8 rfl<|Yvc 8 rfl<|Yvc 8 rfl<|Yvc 8 rfl<|Yvc 8 rfl<|Yvc 7 rfl<|Yvc 8 rfl ?_
           exact Yvh [0,1] (d48 h2994 (by rw [hv2982,List.length_set]; exact (by rw [hv2979,List.length_set]; exact (by rw [hv2920,List.length_set]; exact hb2916)))) ⟨rfl,rfl,rfl,rfl,rfl,rfl,rfl,rfl,rfl,rfl,rfl,rfl,rfl,rfl,trivial⟩ (.cons_cons _ (.cons_cons _ (.cons_cons _ (.cons_cons _ (.cons_cons _ (.cons_cons _ (.cons_cons _ (.cons_cons _ (.cons_cons _ (.slnil)))))))))) rfl
         ·have h:=Yum hp2977 h
          obtain ⟨x2995,hv2996,h⟩:=h
          obtain ⟨x2998,hv2999,h⟩:=h
          have hns:Region.noSelect (Code.ops q37c74)=true:=by kernel_rfl
          refine Zg2 [Ywj Zd4 (w.heap.size) none x2139 cs2144 bs2140,.own (.slice A2048 (n967 + 1) c2049) 3 1 (n967 + 1) (x2051.flatMap (eI .i64)),.own (.slice A161 n162 c163) 76 1 n162 (r58.flatMap (eI .u64)),.own (.slice A141 n142 c143) 4 1 n142 (r45.flatMap eB),.own (.slice A2141 n2142 c2143) 47 1 n2142 cs2144] [Sm w.heap.size F w [],St w []] [] 20 rfl rfl mix rfl (.cons _ (.cons_cons _ (.cons _ (.cons _ (.cons_cons _ (.cons_cons _ (.cons_cons _ (.cons _ (.cons_cons _ (.slnil)))))))))) (Yvm [0,1] rfl)<|wfv 0 rfl (Yu3 rfl) gn hns rfl<|wfv 1 rfl (Yu3 rfl) gn hns rfl<|wfv 2 rfl (Yu3 rfl) gn hns rfl<|wfv 3 rfl (Yu3 rfl) gn hns rfl<|wfv 4 rfl (Yyn Zs0 rfl rfl (Ow.weak hL159.env.size h164) hb2975) gn hns rfl<|wfv 5 rfl (Zbb (.int .u64 (ix r58 ((ix ((ix x1.prods x959).rhs) (w64 (x2822 + 1))).sym))) 2 Zdt rfl rfl (Zcj (hlI .u64) hb2975 rfl)) gn hns rfl<|wfv 6 rfl (Yu3 rfl) gn hns rfl<|wfv 7 rfl (Yu3 rfl) gn hns rfl<|wfv 8 rfl (Yyn Zfl rfl rfl (Ow.weak hL139.env.size h144) hb2976) gn hns rfl<|wfv 9 rfl (Zbb (.bool (ix r45 ((ix ((ix x1.prods x959).rhs) (w64 (x2822 + 1))).sym))) 3 Zlq rfl rfl (Zcj hlB hb2976 rfl)) gn hns rfl<|wfv 10 rfl (Yu3 rfl) gn hns rfl ?_
          refine Yv8 147 rfl ((bf hp2977))<|wfp 11 rfl (ps 147 rfl rfl rfl) hns rfl<|wfp 12 rfl (ps 147 rfl rfl rfl) hns rfl<|wfv 13 rfl (Yuk (b:=false) rfl rfl) gn hns rfl<|wfv 14 rfl (Zce rfl) gn hns rfl<|wfv 15 rfl (Yvo Zhj rfl) gn hns rfl ?_
          refine Ywl [16] (by kernel_rfl) rfl ⟨Zdm 16 rfl gn rfl (Zgm (enc:=Yv6) (o:=3) (z:=({ (ix x2919 (w64 ((x960.length:Int) + x2822))) with rest:=ix r58 ((ix ((ix x1.prods x959).rhs) (w64 (x2822 + 1))).sym) })) (vs:=[.int .u64 (ix r58 ((ix ((ix x1.prods x959).rhs) (w64 (x2822 + 1))).sym))]) (i:=(w64 ((x960.length:Int) + x2822))) 3 Yx6 Zjs rfl rfl rfl rfl rfl h2921 (by rw [hv2920,List.length_set]; exact hb2916) rfl rfl rfl hv2996 fun h3003=>?_),trivial⟩
          refine ⟨Yvm [1,4,5,6,8] rfl,Yvm [0,1] rfl,?_⟩
          refine wfv 17 rfl (Zce rfl) gn hns rfl<|wfv 18 rfl (Yvo Ziq rfl) gn hns rfl ?_
          refine Ywl [19] (by kernel_rfl) rfl ⟨Zdm 19 rfl gn rfl (Zgm (enc:=Yv6) (o:=4) (z:=({ (ix x2995 (w64 ((x960.length:Int) + x2822))) with open_:=false })) (vs:=[.bool false]) (i:=(w64 ((x960.length:Int) + x2822))) 3 Yx6 sz_4 rfl rfl rfl rfl rfl h3003 (by rw [hv2996,List.length_set]; exact (by rw [hv2920,List.length_set]; exact hb2916)) rfl rfl rfl hv2999 fun h3004=>?_),trivial⟩
          refine ⟨Yvm [1,4,5,6,8] rfl,Yvm [0,1] rfl,?_⟩
          refine Yvx (by kernel_rfl)<|Yvc 8 rfl<|Yvc 8 rfl<|Yvc 8 rfl<|Yvc 8 rfl<|Yvc 8 rfl<|Yvc 8 rfl<|Yvc 8 rfl<|Yvc 7 rfl<|Yvc 8 rfl ?_
          exact Yvh [0,1] (j5 x2998 h h3004 (by rw [hv2999,List.length_set]; exact (by rw [hv2996,List.length_set]; exact (by rw [hv2920,List.length_set]; exact hb2916)))) ⟨rfl,rfl,rfl,rfl,rfl,rfl,rfl,rfl,rfl,rfl,rfl,rfl,trivial⟩ (.cons_cons _ (.cons_cons _ (.cons_cons _ (.cons_cons _ (.cons_cons _ (.cons_cons _ (.cons_cons _ (.cons_cons _ (.cons_cons _ (.slnil)))))))))) rfl
        ·have h:=Yum hp2922 h
         refine Yur rfl _ rfl ((decide_eq_false hp2922))<|Yv2 rfl<|Yux<|Yu4 rfl rfl<|Yu2 0 rfl (Yu3 rfl) gn rfl<|Yu2 1 rfl (Yug rfl rfl rfl) gn rfl<|Yu2 2 rfl (Yu7 rfl) gn rfl<|Yua 3 rfl<|Yv1 ?_
         have ih:=Out.inl hO3 h
         exact Yvh [0,1] (ih h2921) ⟨rfl,rfl,rfl,rfl,rfl,rfl,rfl,rfl,rfl,trivial⟩ (.cons_cons _ (.cons_cons _ (.cons_cons _ (.cons_cons _ (.cons_cons _ (.cons_cons _ (.cons_cons _ (.cons_cons _ (.slnil))))))))) rfl
       ·have h:=Yum hp2915 h
        refine Yur rfl _ rfl ((decide_eq_false hp2915))<|Ywa [.inBlock 1,.code Zgk,.inLoop Zc9,.inBlock 0,.code Zgh] rfl rfl<|Yux<|Yu4 rfl rfl<|Yu2 0 rfl (Yug rfl rfl rfl) gn rfl<|Yu2 1 rfl (Yu3 rfl) gn rfl<|Yua 2 rfl<|Yv1 ?_
        have h:=Out.inr hO3 h
        have h:=Out.inr hO2 h
        have ih:=Out.inl hO1 h
        exact Yvh [0,1] (ih A2433 n2434 c2435 h2824 A2048 (n967 + 1) c2049 h2050 bs2140 A2141 n2142 c2143 cs2144 h2145) ⟨rfl,rfl,rfl,rfl,rfl,rfl,trivial⟩ (.cons_cons _ (.cons _ (.cons_cons _ (.cons_cons _ (.cons_cons _ (.cons_cons _ (.cons_cons _ (.cons_cons _ (.slnil))))))))) rfl
      exact Yvh [0,1] (key4 _ h h2436) ⟨rfl,rfl,rfl,rfl,rfl,rfl,rfl,rfl,rfl,trivial⟩ (.cons_cons _ (.cons_cons _ (.cons_cons _ (.cons_cons _ (.cons_cons _ (.cons_cons _ (.cons_cons _ (.cons_cons _ (.slnil))))))))) rfl
    exact Yvh [0,1] (key3 _ h A961 n962 c963 h964) ⟨rfl,rfl,rfl,rfl,rfl,rfl,rfl,rfl,rfl,rfl,rfl,trivial⟩ (.cons_cons _ (.cons_cons _ (.cons_cons _ (.cons_cons _ (.cons_cons _ (.cons_cons _ (.cons_cons _ (.cons_cons _ (.slnil))))))))) rfl
   by_cases hp2054:(ix x1.prods x959).lhs≥0
   ·have h:=Yul hp2054 h
    refine Yv4 rfl _ rfl ((decide_eq_true hp2054)) ?_
    obtain ⟨hb3005,h⟩:=h
    obtain ⟨x3020,hv3021,h⟩:=h
    obtain ⟨hb3022,h⟩:=h
    obtain ⟨x3029,hv3030,h⟩:=h
    have hns:Region.noSelect (Code.ops q37c32)=true:=by kernel_rfl
    refine Zg2 [.own (.slice (some ⟨gb2046,0,none⟩) 1 1) 3 1 1 (([(x960.length:Int)]:List Int).flatMap (eI .i64)),.box gb2043 63 [.int .i64 ((ix x1.prods x959).lhs),.slice A2039 n2040 c2041],.own (.slice A961 n962 c963) 107 5 n962 (x960.flatMap Yv6),.own (.slice A2048 (n967 + 1) c2049) 3 1 (n967 + 1) (x2051.flatMap (eI .i64)),.own (.slice A161 n162 c163) 76 1 n162 (r58.flatMap (eI .u64)),.own (.slice A141 n142 c143) 4 1 n142 (r45.flatMap eB),.box gb41 102 [.slice A2 n3 c4,.slice A6 n7 c8,.slice A10 n11 c12,.slice A961 n962 c963,.slice A2048 (n967 + 1) c2049,.slice A972 n973 c974],.own (.slice A972 n973 c974) 47 1 n973 cs975] [Sm w.heap.size F w [],St w []] [18] 19 rfl rfl mix rfl (.cons_cons _ (.cons_cons _ (.cons _ (.cons_cons _ (.cons_cons _ (.cons_cons _ (.cons_cons _ (.cons_cons _ (.cons_cons _ (.slnil)))))))))) (Yvm [0,1] rfl)<|wfv 0 rfl (Yu3 rfl) gn hns (by kernel_rfl)<|wfv 1 rfl (Yuy rfl) gn hns (by kernel_rfl)<|wfv 2 rfl (Yub Znm rfl) gn hns (by kernel_rfl)<|wfv 3 rfl (Yue 6 ld_42 rfl rfl rfl) gn hns (by kernel_rfl)<|wfv 4 rfl (Yub Yx3 rfl) gn hns (by kernel_rfl)<|wfv 5 rfl (Yue 1 Yvt rfl rfl rfl) gn hns (by kernel_rfl)<|wfv 6 rfl (Yu3 rfl) gn hns (by kernel_rfl)<|wfv 7 rfl (Yuy rfl) gn hns (by kernel_rfl)<|wfv 8 rfl (Yub Znm rfl) gn hns (by kernel_rfl)<|wfv 9 rfl (Yue 6 ld_42 rfl rfl rfl) gn hns (by kernel_rfl)<|wfv 10 rfl (Yub Yx3 rfl) gn hns (by kernel_rfl) ?_
    refine wfv 11 rfl (Yue 1 Yvt rfl rfl rfl) gn hns (by kernel_rfl) ?_
    refine Zjb (fk:=Zd4) (z:=w.heap.size) (j:=2) rfl hb3005 fun A3061 n3062 c3063 h3064 ht3065 hg3066=>?_
    refine wfv 12 rfl (Yyn Zru rfl rfl h976 hb3005) gn hns (by kernel_rfl)<|wfv 13 rfl (Zbb (.slice A3061 n3062 c3063) 7 Zew rfl rfl (hg3066 0 _ rfl)) gn hns (by kernel_rfl)<|wfv 14 rfl (Yu3 rfl) gn hns (by kernel_rfl) ?_
    refine Ywl [15] (by kernel_rfl) rfl ⟨Zdm 15 rfl gn rfl (Zdd (xs:=([(x960.length:Int)]:List Int)) [.int .i64 (x960.length:Int)] Zms rfl (by kernel_rfl) rfl rfl rfl rfl fun gb3069 h3070=>?_),trivial⟩
    refine ⟨Yvm [1,2,4,5,6,7,8,9] rfl,Yvm [0,1] rfl,?_⟩
    refine wf_take (fk:=Zd4) (z:=w.heap.size) (j:=3) rfl hb3005 ht3065 fun bs3075=>?_
    refine Ywl [16] (by kernel_rfl) rfl ⟨Zdm 16 rfl gn rfl (Zdj (zs:=x3020) (cells':=x3020.flatMap (eI .i64)) 0 ap_47 rfl rfl rfl h3064 (Nat.le_refl _) (Src.ownF (hl:=(hlI .i64)) (h1:=(Yya .i64)) 1 rfl h3070) (by rw [hv3021,List.flatMap_append] <;> rfl) (Yzh hv3021 h3070.hq) hb3022 rfl rfl fun A3076 c3077 h3078=>?_),trivial⟩
    refine ⟨Yvm [2,3,5,6,7,8,9,10] rfl,Yvm [0,1] rfl,?_⟩
    refine Zjb (fk:=Zd4) (z:=w.heap.size) (j:=4) rfl hb3005 fun A3079 n3080 c3081 h3082 ht3083 hg3084=>?_
    refine wfv 17 rfl (Yyn Zru rfl rfl h976 hb3005) gn hns (by kernel_rfl) ?_
    refine Ywl [18] (by kernel_rfl) rfl ⟨Zi7 18 rfl gn rfl (Zpf (fk:=Zd4) (z:=w.heap.size) (off:=0) (vs:=[.slice A3076 (n3062 + 1) c3077]) (A1:=A3079) (n1:=n3080) (c1:=c3081) (q:=((ix x1.prods x959).lhs)) 10 4 0 rfl rfl rfl Zqf rfl rfl rfl h976 rfl (.inr rfl) rfl hb3005 x3020 h3078 rfl rfl rfl rfl ht3083 rfl trivial rfl hv3030 fun cs3085 bs3086 h3087=>?_),trivial⟩
    unfold NxL
    refine Yvx (by kernel_rfl)<|Yvc 9 rfl<|Yvc 9 rfl<|Yvc 9 rfl<|Yvc 9 rfl<|Yvc 9 rfl<|Yvc 9 rfl<|Yvc 8 rfl<|Yvc 9 rfl ?_
    exact Yvh [0,1] (j2 x3029 h bs3086 A972 n973 c974 cs3085 h3087) ⟨rfl,rfl,rfl,rfl,rfl,rfl,rfl,rfl,rfl,trivial⟩ (.cons_cons _ (.cons_cons _ (.cons_cons _ (.cons_cons _ (.cons_cons _ (.cons_cons _ (.cons_cons _ (.cons_cons _ (.cons _ (.cons _ (.slnil))))))))))) rfl
   ·have h:=Yum hp2054 h
    refine Yur rfl _ rfl ((decide_eq_false hp2054))<|Yv2 rfl<|Yvc 8 rfl<|Yvc 8 rfl<|Yvc 8 rfl<|Yvc 8 rfl<|Yvc 8 rfl<|Yvc 8 rfl<|Yvc 7 rfl<|Yvc 8 rfl ?_
    exact Yvh [0,1] (j2 x970 h bs971 A972 n973 c974 cs975 h976) ⟨rfl,rfl,rfl,rfl,rfl,rfl,rfl,rfl,rfl,trivial⟩ (.cons_cons _ (.cons_cons _ (.cons_cons _ (.cons_cons _ (.cons_cons _ (.cons_cons _ (.cons_cons _ (.cons_cons _ (.cons _ (.slnil)))))))))) rfl
  ·have h:=Yum hp2034 h
   refine Yur rfl _ rfl ((decide_eq_false hp2034))<|Ywa [.code Zgh] rfl rfl<|Yu9 rfl<|Yu4 rfl rfl<|Yu2 0 rfl (Yu3 rfl) gn rfl<|Yu2 1 rfl (Yu7 rfl) gn rfl<|Yua 2 rfl ?_
   refine Zsf (fk:=Zd4) (dk:=(Kd.slice (Yw6 .i64))) (F:=F) (j:=0) rfl (fun _ _ _ _ _ h=>⟨_,_,_,rfl,h⟩) fun sw3088 sb3089 hC3090=>?_
   have h:=Out.inr hO1 h
   refine Yvb [.pointer (some ⟨gb41,0,none⟩)] rfl Tryd.func37 rfl (.tmp rfl (.nil)) fun wr hLr=>?_
   have hMr:=hLr.pkI (.c 4 rfl (.c 0 rfl (.c 1 rfl (.c 5 rfl .n)))) (.c 2 rfl (.c 3 rfl .n)) (by kernel_rfl) (.c 2 rfl .n)
   have hMi:=hLr.selI (.c 4 rfl (.c 0 rfl (.c 1 rfl (.c 5 rfl .n))))
   show Zfy w F  r (.returned (Yvl [.pointer (some ⟨gb41,0,none⟩)])) wr
   rw [h]
   exact ⟨gb41,A961,n962,c963,A966,n967,c968,A972,n973,c974,cs975,A2,n3,c4,A6,n7,c8,A10,n11,c12,rfl,hMr,h964,h969,h976,(hLr.outC (s:=Sm w.heap.size F sw3088 sb3089) hMi (me 0 rfl) Sm.ok hC3090),(hLr.outR (s:=Sm w.heap.size F w []) hMi (me 1 rfl) Sm.ok h5),(hLr.outR (s:=Sm w.heap.size F w []) hMi (me 1 rfl) Sm.ok h9),(hLr.outR (s:=Sm w.heap.size F w []) hMi (me 1 rfl) Sm.ok h13)⟩
 refine Zf4 3 1<|Zf4 107 5<|Yvc 6 rfl<|Yvc 5 rfl<|Yvc 5 rfl<|Yvc 5 rfl<|Yvc 5 rfl<|Yvc 5 rfl<|Yvc 6 rfl ?_
 exact Yvh [0,1] (key1 _ h none 0 0 (Ow.nil (z:=w.heap.size)) none 0 0 (Ow.nil (z:=w.heap.size)) [] A37 (((x1.syms.length:Int):Int).toNat) (((x1.syms.length:Int):Int).toNat) (x21.flatMap (fun _:List Int=>[Value.slice none 0 0])) h38) ⟨rfl,rfl,rfl,rfl,rfl,rfl,trivial⟩ (.cons_cons _ (.cons_cons _ (.cons_cons _ (.cons_cons _ (.cons_cons _ (.cons_cons _ (.cons_cons _ (.cons _ (.slnil))))))))) rfl
noncomputable abbrev q40c6:=Code.snd (Code.snd (Code.snd (Yvq Tryd.f40)))
noncomputable abbrev Zip:=Code.fst (Code.fst (Code.snd (Code.fst (Code.snd (Code.snd (Yvq Tryd.f40))))))
noncomputable abbrev Zm8:=Code.fst (Code.snd (Code.fst (Code.fst (Code.snd (Code.snd Zip)))))
noncomputable abbrev q40c24:=Code.fst (Code.snd (Code.snd (Code.fst (Code.fst (Code.snd (Code.snd Zip))))))
abbrev Zem (w:World) (F:Nat→Prop) (g2:Nat) (Tb3:Nat) (r:(List Yus) × Yuv):Ending→World→Prop:=fun e w'=>∃ A0:Option Addr,∃ n0:Nat,∃ c0:Nat,∃ A1:Option Addr,∃ n1:Nat,∃ c1:Nat,∃ A2:Option Addr,∃ n2:Nat,∃ c2:Nat,∃ A3:Option Addr,∃ n3:Nat,∃ c3:Nat,∃ A4:Option Addr,∃ n4:Nat,∃ c4:Nat,∃ A5:Option Addr,∃ n5:Nat,∃ c5:Nat,∃ A6:Option Addr,∃ n6:Nat,∃ c6:Nat,e=.returned (.slice A0 n0 c0)∧B.Loc w w' [.box g2 Tb3 [.slice A1 n1 c1,.slice A2 n2 c2,.slice A3 n3 c3,.slice A4 n4 c4,.slice A5 n5 c5,.slice A6 n6 c6],.own (.slice A0 n0 c0) 78 2 n0 (r.1.flatMap Yw9)] [St w [[g2]]]∧Ow w.heap.size A0 n0 c0 r.1∧Rw Yuj w' (Nw w w' F [.box g2 Tb3 [.slice A1 n1 c1,.slice A2 n2 c2,.slice A3 n3 c3,.slice A4 n4 c4,.slice A5 n5 c5,.slice A6 n6 c6],.own (.slice A0 n0 c0) 78 2 n0 (r.1.flatMap Yw9)]) A1 n1 c1 r.2.g.terms∧Rw Yuq w' (Nw w w' F [.box g2 Tb3 [.slice A1 n1 c1,.slice A2 n2 c2,.slice A3 n3 c3,.slice A4 n4 c4,.slice A5 n5 c5,.slice A6 n6 c6],.own (.slice A0 n0 c0) 78 2 n0 (r.1.flatMap Yw9)]) A2 n2 c2 r.2.g.syms∧Rw Yun w' (Nw w w' F [.box g2 Tb3 [.slice A1 n1 c1,.slice A2 n2 c2,.slice A3 n3 c3,.slice A4 n4 c4,.slice A5 n5 c5,.slice A6 n6 c6],.own (.slice A0 n0 c0) 78 2 n0 (r.1.flatMap Yw9)]) A3 n3 c3 r.2.g.prods∧Rw Yx2 w' (Nw w w' F [.box g2 Tb3 [.slice A1 n1 c1,.slice A2 n2 c2,.slice A3 n3 c3,.slice A4 n4 c4,.slice A5 n5 c5,.slice A6 n6 c6],.own (.slice A0 n0 c0) 78 2 n0 (r.1.flatMap Yw9)]) A4 n4 c4 r.2.spots∧Rw (Yw6 .i64) w' (Nw w w' F [.box g2 Tb3 [.slice A1 n1 c1,.slice A2 n2 c2,.slice A3 n3 c3,.slice A4 n4 c4,.slice A5 n5 c5,.slice A6 n6 c6],.own (.slice A0 n0 c0) 78 2 n0 (r.1.flatMap Yw9)]) A5 n5 c5 r.2.at_∧Rw (Kd.slice (Yw6 .i64)) w' (Nw w w' F [.box g2 Tb3 [.slice A1 n1 c1,.slice A2 n2 c2,.slice A3 n3 c3,.slice A4 n4 c4,.slice A5 n5 c5,.slice A6 n6 c6],.own (.slice A0 n0 c0) 78 2 n0 (r.1.flatMap Yw9)]) A6 n6 c6 r.2.of
noncomputable abbrev Zcl (w:World) (F:Nat→Prop) (g2:Nat) (Tb3:Nat) (r:(List Yus) × Yuv):Cx:=⟨Tryd.prog,40,Tryd.f40,85,Zem w F g2 Tb3 r,w⟩
theorem Zex (w:World) (F:Nat→Prop) (x1:Yuv) (x28:List Yud) (g2:Nat) (Tb3:Nat) (A4:Option Addr) (n5:Nat) (c6:Nat) (A8:Option Addr) (n9:Nat) (c10:Nat) (A12:Option Addr) (n13:Nat) (c14:Nat) (A16:Option Addr) (n17:Nat) (c18:Nat) (A20:Option Addr) (n21:Nat) (c22:Nat) (A24:Option Addr) (n25:Nat) (c26:Nat) (A29:Option Addr) (n30:Nat) (c31:Nat) (h7:Rw Yuj w F A4 n5 c6 x1.g.terms) (h11:Rw Yuq w F A8 n9 c10 x1.g.syms) (h15:Rw Yun w F A12 n13 c14 x1.g.prods) (h19:Rw Yx2 w F A16 n17 c18 x1.spots) (h23:Rw (Yw6 .i64) w F A20 n21 c22 x1.at_) (h27:Rw (Kd.slice (Yw6 .i64)) w F A24 n25 c26 x1.of) (h32:Rw Yxu w (St w [[g2]]).av A29 n30 c31 x28) (hF:∀ b,F b→b < w.heap.size∧∀ o ∈ ([[g2]]:List (List Nat)),b ∉ o) (hL0:B.Loc w w [.box g2 Tb3 [.slice A4 n5 c6,.slice A8 n9 c10,.slice A12 n13 c14,.slice A16 n17 c18,.slice A20 n21 c22,.slice A24 n25 c26]] [Sm w.heap.size F w [[g2]],St w [[g2]]]) (r:(List Yus) × Yuv) (h:Zat x1 x28 r):Calls Tryd.prog 40 #[.pointer (some ⟨g2,0,none⟩),.slice A29 n30 c31] w (Zem w F g2 Tb3 r):=by
 unfold Zat at h
 have h7:=Rw.into (bs:=[[g2]]) hF h7
 have h11:=Rw.into (bs:=[[g2]]) hF h11
 have h15:=Rw.into (bs:=[[g2]]) hF h15
 have h19:=Rw.into (bs:=[[g2]]) hF h19
 have h23:=Rw.into (bs:=[[g2]]) hF h23
 have h27:=Rw.into (bs:=[[g2]]) hF h27
 refine Yv5 (vs:=[.pointer (some ⟨g2,0,none⟩),.slice A29 n30 c31]) 85 Tryd.func40 rfl Tryd.ntmps40 rfl hL0 ?_
 show G (Zcl w F g2 Tb3 r) _ _ _ _
 refine Yu9 rfl<|Yu4 rfl rfl<|Yu2 0 rfl (Yu7 rfl) gn rfl<|Yua 1 rfl<|Yu9 rfl<|Yu4 rfl rfl<|Yu2 0 rfl (Yu7 rfl) gn rfl<|Yua 1 rfl<|Yu9 rfl<|Yu9 rfl<|Yu4 rfl rfl<|Yu2 0 rfl (Yu3 rfl) gn rfl ?_
 refine Yu2 1 rfl (Yuo Zl5 rfl h32.hq) gn rfl<|Yu2 2 rfl (Yu3 rfl) gn rfl<|Yua 3 rfl<|Yuw rfl<|Ywm rfl ?_
 have key1:∀ s,Yui (fun (s:(List Yus) × Int) o=>Yxp x28 x1 s.1 s.2 o) s r→(fun (s:(List Yus) × Int)=>∀ (A131:Option Addr) (n132:Nat) (c133:Nat) (h134:Ow w.heap.size A131 n132 c133 s.1),G (Zcl w F g2 Tb3 r) [.code Zip,.inLoop Zip,.inBlock 0,.code q40c6] [(0,.pointer (some ⟨g2,0,none⟩)),(5,.slice A131 n132 c133),(8,.slice A29 n30 c31),(9,.int .i64 (x28.length:Int)),(10,.int .i64 s.2)] [.own (.slice A131 n132 c133) 78 2 n132 (s.1.flatMap Yw9),.box g2 Tb3 [.slice A4 n5 c6,.slice A8 n9 c10,.slice A12 n13 c14,.slice A16 n17 c18,.slice A20 n21 c22,.slice A24 n25 c26]] [Sm w.heap.size F w [[g2]],St w [[g2]]]) s:=by
  intro s hs
  refine Yui.ind (mot:=(fun (s:(List Yus) × Int)=>∀ (A131:Option Addr) (n132:Nat) (c133:Nat) (h134:Ow w.heap.size A131 n132 c133 s.1),G (Zcl w F g2 Tb3 r) [.code Zip,.inLoop Zip,.inBlock 0,.code q40c6] [(0,.pointer (some ⟨g2,0,none⟩)),(5,.slice A131 n132 c133),(8,.slice A29 n30 c31),(9,.int .i64 (x28.length:Int)),(10,.int .i64 s.2)] [.own (.slice A131 n132 c133) 78 2 n132 (s.1.flatMap Yw9),.box g2 Tb3 [.slice A4 n5 c6,.slice A8 n9 c10,.slice A12 n13 c14,.slice A16 n17 c18,.slice A20 n21 c22,.slice A24 n25 c26]] [Sm w.heap.size F w [[g2]],St w [[g2]]])) ?_ hs
  clear hs s
  intro s o1 h hO1
  obtain ⟨x130,x135⟩:=s
  show ∀ (A131:Option Addr) (n132:Nat) (c133:Nat) (h134:Ow w.heap.size A131 n132 c133 x130),G (Zcl w F g2 Tb3 r) [.code Zip,.inLoop Zip,.inBlock 0,.code q40c6] [(0,.pointer (some ⟨g2,0,none⟩)),(5,.slice A131 n132 c133),(8,.slice A29 n30 c31),(9,.int .i64 (x28.length:Int)),(10,.int .i64 x135)] [.own (.slice A131 n132 c133) 78 2 n132 (x130.flatMap Yw9),.box g2 Tb3 [.slice A4 n5 c6,.slice A8 n9 c10,.slice A12 n13 c14,.slice A16 n17 c18,.slice A20 n21 c22,.slice A24 n25 c26]] [Sm w.heap.size F w [[g2]],St w [[g2]]]
  intro A131 n132 c133 h134
  have h:Yxp x28 x1 x130 x135 o1:=h
  unfold Yxp at h
  refine Yu9 rfl<|Yu4 rfl rfl<|Yu2 0 rfl (Yug rfl rfl rfl) gn rfl<|Yua 1 rfl<|Yu9 rfl ?_
  by_cases hp225:x135 < (x28.length:Int)
  ·have h:=Yul hp225 h
   refine Yv4 rfl _ rfl ((decide_eq_true hp225))<|Yv2 rfl<|Yu9 rfl<|Yuw rfl<|Yu9 rfl<|Yu4 rfl rfl ?_
   obtain ⟨hb226,h⟩:=h
   have hr227:=Rw.readF (s:=St w [[g2]]) (hl:=Yyz) (h1:=Yyy) h32 hb226
   refine Yu2 0 rfl (Yv7 (s:=St w [[g2]]) Zgd rfl rfl h32 hb226) gn rfl<|Yu2 1 rfl (Zdb (St w [[g2]]) ld_31 rfl hr227 rfl (me 1 rfl)) gn rfl ?_
   refine Yve 2 rfl (Yye [.int .i64 0,.int .i64 0,.int .i64 0] zr_31 rfl fun gb228=>?_) gn
   refine Yve 3 rfl (Za4 (vs:=[.int .i64 ((ix x28 x135).prod),.int .i64 ((ix x28 x135).dot),.int .i64 ((ix x28 x135).look)]) (cs':=[.int .i64 ((ix x28 x135).prod),.int .i64 ((ix x28 x135).dot),.int .i64 ((ix x28 x135).look)]) (M':=[.box gb228 31 [.int .i64 ((ix x28 x135).prod),.int .i64 ((ix x28 x135).dot),.int .i64 ((ix x28 x135).look)],.own (.slice A131 n132 c133) 78 2 n132 (x130.flatMap Yw9),.box g2 Tb3 [.slice A4 n5 c6,.slice A8 n9 c10,.slice A12 n13 c14,.slice A16 n17 c18,.slice A20 n21 c22,.slice A24 n25 c26]]) 0 sz_31 rfl rfl rfl rfl rfl rfl rfl rfl rfl ?_) gn
   refine Yua 4 rfl<|Yu9 rfl ?_
   by_cases hp230:(ix x28 x135).prod≥0
   ·have h:=Yul hp230 h
    by_cases hp231:(ix x28 x135).prod < (x1.g.prods.length:Int)
    ·have h:=Yul hp231 h
     by_cases hp232:(ix x28 x135).dot≥0
     ·have h:=Yul hp232 h
      obtain ⟨hb233,h⟩:=h
      by_cases hp241:(ix x28 x135).dot≤(((ix x1.g.prods ((ix x28 x135).prod)).rhs).length:Int)
      ·have h:=Yul hp241 h
       by_cases hp242:(ix x28 x135).look≥0
       ·have h:=Yul hp242 h
        have hns:Region.noSelect (Code.ops Zm8)=true:=by kernel_rfl
        refine Yvr [] 51 rfl rfl mix rfl (.c 0 rfl (.c 1 rfl .n))<|wfv 0 rfl (Yub Yy5 rfl) gn hns rfl<|wfv 1 rfl (Yue 0 Yvt rfl rfl rfl) gn hns rfl<|wfv 2 rfl (Yug rfl rfl rfl) gn hns rfl<|wfv 3 rfl (Yu3 rfl) gn hns rfl<|Yv8 17 rfl ((decide_eq_true hp230))<|wfv 4 rfl (Yub Yy5 rfl) (gy 17 rfl rfl) hns rfl<|wfv 5 rfl (Yue 0 Yvt rfl rfl rfl) (gy 17 rfl rfl) hns rfl<|wfv 6 rfl (Yu3 rfl) (gy 17 rfl rfl) hns rfl<|wfv 7 rfl (Yuy rfl) (gy 17 rfl rfl) hns rfl<|wfv 8 rfl (Yub Zcc rfl) (gy 17 rfl rfl) hns rfl<|wfv 9 rfl (Yub Yvf rfl) (gy 17 rfl rfl) hns rfl ?_
        refine wfv 10 rfl (Yue 2 Ywb rfl rfl rfl) (gy 17 rfl rfl) hns rfl<|wfv 11 rfl (Yuo Za3 rfl h15.hq) (gy 17 rfl rfl) hns rfl<|wfv 12 rfl (Yug rfl rfl rfl) (gy 17 rfl rfl) hns rfl<|wfv 13 rfl (Yuk (b:=true) rfl rfl) gn hns rfl<|wfv 14 rfl (Yu3 rfl) gn hns rfl<|Yv8 28 rfl ((decide_eq_true hp231))<|wfv 15 rfl (Yub Zb8 rfl) (gy 28 rfl rfl) hns rfl<|wfv 16 rfl (Yue 0 Yvt rfl rfl rfl) (gy 28 rfl rfl) hns rfl<|wfv 17 rfl (Yug rfl rfl rfl) (gy 28 rfl rfl) hns rfl<|wfv 18 rfl (Yuk (b:=true) rfl rfl) gn hns rfl<|wfv 19 rfl (Yu3 rfl) gn hns rfl<|Yv8 33 rfl ((decide_eq_true hp232)) ?_
        refine wfv 20 rfl (Yub Zb8 rfl) (gy 33 rfl rfl) hns rfl<|wfv 21 rfl (Yue 0 Yvt rfl rfl rfl) (gy 33 rfl rfl) hns rfl<|wfv 22 rfl (Yu3 rfl) (gy 33 rfl rfl) hns rfl<|wfv 23 rfl (Yuy rfl) (gy 33 rfl rfl) hns rfl<|wfv 24 rfl (Yub Zcc rfl) (gy 33 rfl rfl) hns rfl<|wfv 25 rfl (Yub Yvf rfl) (gy 33 rfl rfl) hns rfl<|wfv 26 rfl (Yue 2 Ywb rfl rfl rfl) (gy 33 rfl rfl) hns rfl<|wfv 27 rfl (Yub Yy5 rfl) (gy 33 rfl rfl) hns rfl<|wfv 28 rfl (Yue 0 Yvt rfl rfl rfl) (gy 33 rfl rfl) hns rfl ?_
        obtain ⟨ce251,hK252,hr250⟩:=Rw.read (s:=Sm w.heap.size F w [[g2]]) h15 hb233
        obtain ⟨A253,n254,c255,rfl,h256⟩:=hK252
        refine wfv 29 rfl (Yv7 (s:=Sm w.heap.size F w [[g2]]) Yxh rfl rfl h15 hb233) (gy 33 rfl rfl) hns rfl<|wfv 30 rfl (Yvo Yw1 rfl) (gy 33 rfl rfl) hns rfl<|wfv 31 rfl (Yvj (kk:=((ix x28 x135).prod:Int).toNat * 2) (j:=1) (Sm w.heap.size F w [[g2]]) Yyc rfl hr250 rfl (me 0 rfl)) (gy 33 rfl rfl) hns rfl<|wfv 32 rfl (Yuo Za5 rfl h256.hq) (gy 33 rfl rfl) hns rfl<|wfv 33 rfl (Yug rfl rfl rfl) (gy 33 rfl rfl) hns rfl<|wfv 34 rfl (Yuk (b:=true) rfl rfl) gn hns rfl<|wfv 35 rfl (Yu3 rfl) gn hns rfl<|Yv8 49 rfl ((decide_eq_true hp241))<|wfv 36 rfl (Yub Zgy rfl) (gy 49 rfl rfl) hns rfl<|wfv 37 rfl (Yue 0 Yvt rfl rfl rfl) (gy 49 rfl rfl) hns rfl<|wfv 38 rfl (Yug rfl rfl rfl) (gy 49 rfl rfl) hns rfl<|wfv 39 rfl (Yuk (b:=true) rfl rfl) gn hns rfl ?_
        refine wfv 40 rfl (Yu3 rfl) gn hns rfl<|Yv8 54 rfl ((decide_eq_true hp242))<|wfv 41 rfl (Yub Zgy rfl) (gy 54 rfl rfl) hns rfl<|wfv 42 rfl (Yue 0 Yvt rfl rfl rfl) (gy 54 rfl rfl) hns rfl<|wfv 43 rfl (Yu3 rfl) (gy 54 rfl rfl) hns rfl<|wfv 44 rfl (Yuy rfl) (gy 54 rfl rfl) hns rfl<|wfv 45 rfl (Yub Zcc rfl) (gy 54 rfl rfl) hns rfl<|wfv 46 rfl (Yub Yw7 rfl) (gy 54 rfl rfl) hns rfl<|wfv 47 rfl (Yue 2 Yz4 rfl rfl rfl) (gy 54 rfl rfl) hns rfl<|wfv 48 rfl (Yuo Yze rfl h7.hq) (gy 54 rfl rfl) hns rfl<|wfv 49 rfl (Yug rfl rfl rfl) (gy 54 rfl rfl) hns rfl<|wfv 50 rfl (Yuk (b:=true) rfl rfl) gn hns rfl ?_
        refine Yvx (by kernel_rfl) ?_
        by_cases hp257:(ix x28 x135).look < (x1.g.terms.length:Int)
        ·have h:=Yul hp257 h
         refine Yv4 rfl _ rfl ((decide_eq_true hp257)) ?_
         obtain ⟨hb258,h⟩:=h
         obtain ⟨hb260,h⟩:=h
         obtain ⟨x267,hv268,h⟩:=h
         obtain ⟨hb269,h⟩:=h
         have hns:Region.noSelect (Code.ops q40c24)=true:=by kernel_rfl
         refine Yvr [17,18] 19 rfl rfl mix rfl (.c 0 rfl (.c 1 rfl .n))<|wfv 0 rfl (Yu3 rfl) gn hns (by kernel_rfl)<|wfv 1 rfl (Yu3 rfl) gn hns (by kernel_rfl)<|wfv 2 rfl (Yuy rfl) gn hns (by kernel_rfl)<|wfv 3 rfl (Yub Znc rfl) gn hns (by kernel_rfl)<|wfv 4 rfl (Yue 2 Zew rfl rfl rfl) gn hns (by kernel_rfl)<|wfv 5 rfl (Yub Yy5 rfl) gn hns (by kernel_rfl)<|wfv 6 rfl (Yue 0 Yvt rfl rfl rfl) gn hns (by kernel_rfl) ?_
         have hr278:=Rw.readF (s:=Sm w.heap.size F w [[g2]]) (hl:=(hlI .i64)) (h1:=(Yya .i64)) h23 hb258
         refine wfv 7 rfl (Yv7 (s:=Sm w.heap.size F w [[g2]]) Zfx rfl rfl h23 hb258) gn hns (by kernel_rfl)<|wfv 8 rfl (Yvj (kk:=((ix x28 x135).prod:Int).toNat * 1) (j:=0) (Sm w.heap.size F w [[g2]]) Yvt rfl hr278 rfl (me 0 rfl)) gn hns (by kernel_rfl)<|wfv 9 rfl (Yub Zb8 rfl) gn hns (by kernel_rfl)<|wfv 10 rfl (Yue 0 Yvt rfl rfl rfl) gn hns (by kernel_rfl)<|wfv 11 rfl (Yug rfl rfl rfl) gn hns (by kernel_rfl)<|wfv 12 rfl (Yub Zgy rfl) gn hns (by kernel_rfl)<|wfv 13 rfl (Yue 0 Yvt rfl rfl rfl) gn hns (by kernel_rfl)<|wfv 14 rfl (v_shl rfl rfl hb260) gn hns (by kernel_rfl)<|wfv 15 rfl (Zap #[.int .i64 (w64 ((ix x1.at_ ((ix x28 x135).prod)) + ((ix x28 x135).dot))),.int .u64 (Zim .u64 1 ((ix x28 x135).look))] bd_78 rfl (by kernel_rfl)) gn hns (by kernel_rfl) ?_
         refine Ywl [16] (by kernel_rfl) rfl ⟨Zdm 16 rfl gn rfl (Zdd (xs:=([(⟨w64 ((ix x1.at_ ((ix x28 x135).prod)) + ((ix x28 x135).dot)),Zim .u64 1 ((ix x28 x135).look)⟩:Yus)]:List Yus)) [.int .i64 (w64 ((ix x1.at_ ((ix x28 x135).prod)) + ((ix x28 x135).dot))),.int .u64 (Zim .u64 1 ((ix x28 x135).look))] Zsx rfl (by kernel_rfl) rfl rfl rfl rfl fun gb281 h282=>?_),trivial⟩
         refine ⟨Yvm [1,2,3] rfl,Yvm [0,1] rfl,?_⟩
         refine Ywl [17] (by kernel_rfl) rfl ⟨Zi7 17 rfl gn rfl (Zdj (zs:=x267) (cells':=x267.flatMap Yw9) 2 ap_73 rfl rfl rfl h134 (Nat.le_refl _) (Src.ownF (hl:=Zdy) (h1:=Ze8) 0 rfl h282) (by rw [hv268,List.flatMap_append] <;> rfl) (Yzh hv268 h282.hq) hb269 rfl rfl fun A283 c284 h285=>?_),trivial⟩
         unfold NxL
         refine Ywl [18] (by kernel_rfl) rfl ⟨Zi7 18 rfl gn rfl (Zov (Yu7 rfl) rfl ?_),trivial⟩
         unfold NxL
         refine Yvx (by kernel_rfl)<|Yux<|Yu4 rfl rfl<|Yu2 0 rfl (Yug rfl rfl rfl) gn rfl<|Yu2 1 rfl (Yu3 rfl) gn rfl<|Yua 2 rfl<|Yv1 ?_
         have ih:=Out.inl hO1 h
         exact Yvh [0,1] (ih A283 (n132 + 1) c284 h285) ⟨rfl,rfl,rfl,rfl,rfl,trivial⟩ (.cons _ (.cons _ (.cons_cons _ (.cons_cons _ (.slnil))))) rfl
        ·have h:=Yum hp257 h
         refine Yur rfl _ rfl ((decide_eq_false hp257))<|Yv2 rfl<|Yux<|Yu4 rfl rfl<|Yu2 0 rfl (Yug rfl rfl rfl) gn rfl<|Yu2 1 rfl (Yu3 rfl) gn rfl<|Yua 2 rfl<|Yv1 ?_
         have ih:=Out.inl hO1 h
         exact Yvh [0,1] (ih A131 n132 c133 h134) ⟨rfl,rfl,rfl,rfl,rfl,trivial⟩ (.cons _ (.cons_cons _ (.cons_cons _ (.slnil)))) rfl
       ·have h:=Yum hp242 h
        have hns:Region.noSelect (Code.ops Zm8)=true:=by kernel_rfl
        refine Yvr [] 51 rfl rfl mix rfl (.c 0 rfl (.c 1 rfl .n))<|wfv 0 rfl (Yub Yy5 rfl) gn hns rfl<|wfv 1 rfl (Yue 0 Yvt rfl rfl rfl) gn hns rfl<|wfv 2 rfl (Yug rfl rfl rfl) gn hns rfl<|wfv 3 rfl (Yu3 rfl) gn hns rfl<|Yv8 17 rfl ((decide_eq_true hp230))<|wfv 4 rfl (Yub Yy5 rfl) (gy 17 rfl rfl) hns rfl<|wfv 5 rfl (Yue 0 Yvt rfl rfl rfl) (gy 17 rfl rfl) hns rfl<|wfv 6 rfl (Yu3 rfl) (gy 17 rfl rfl) hns rfl<|wfv 7 rfl (Yuy rfl) (gy 17 rfl rfl) hns rfl<|wfv 8 rfl (Yub Zcc rfl) (gy 17 rfl rfl) hns rfl<|wfv 9 rfl (Yub Yvf rfl) (gy 17 rfl rfl) hns rfl ?_
        refine wfv 10 rfl (Yue 2 Ywb rfl rfl rfl) (gy 17 rfl rfl) hns rfl<|wfv 11 rfl (Yuo Za3 rfl h15.hq) (gy 17 rfl rfl) hns rfl<|wfv 12 rfl (Yug rfl rfl rfl) (gy 17 rfl rfl) hns rfl<|wfv 13 rfl (Yuk (b:=true) rfl rfl) gn hns rfl<|wfv 14 rfl (Yu3 rfl) gn hns rfl<|Yv8 28 rfl ((decide_eq_true hp231))<|wfv 15 rfl (Yub Zb8 rfl) (gy 28 rfl rfl) hns rfl<|wfv 16 rfl (Yue 0 Yvt rfl rfl rfl) (gy 28 rfl rfl) hns rfl<|wfv 17 rfl (Yug rfl rfl rfl) (gy 28 rfl rfl) hns rfl<|wfv 18 rfl (Yuk (b:=true) rfl rfl) gn hns rfl<|wfv 19 rfl (Yu3 rfl) gn hns rfl<|Yv8 33 rfl ((decide_eq_true hp232)) ?_
        refine wfv 20 rfl (Yub Zb8 rfl) (gy 33 rfl rfl) hns rfl<|wfv 21 rfl (Yue 0 Yvt rfl rfl rfl) (gy 33 rfl rfl) hns rfl<|wfv 22 rfl (Yu3 rfl) (gy 33 rfl rfl) hns rfl<|wfv 23 rfl (Yuy rfl) (gy 33 rfl rfl) hns rfl<|wfv 24 rfl (Yub Zcc rfl) (gy 33 rfl rfl) hns rfl<|wfv 25 rfl (Yub Yvf rfl) (gy 33 rfl rfl) hns rfl<|wfv 26 rfl (Yue 2 Ywb rfl rfl rfl) (gy 33 rfl rfl) hns rfl<|wfv 27 rfl (Yub Yy5 rfl) (gy 33 rfl rfl) hns rfl<|wfv 28 rfl (Yue 0 Yvt rfl rfl rfl) (gy 33 rfl rfl) hns rfl ?_
        obtain ⟨ce294,hK295,hr293⟩:=Rw.read (s:=Sm w.heap.size F w [[g2]]) h15 hb233
        obtain ⟨A296,n297,c298,rfl,h299⟩:=hK295
        refine wfv 29 rfl (Yv7 (s:=Sm w.heap.size F w [[g2]]) Yxh rfl rfl h15 hb233) (gy 33 rfl rfl) hns rfl<|wfv 30 rfl (Yvo Yw1 rfl) (gy 33 rfl rfl) hns rfl<|wfv 31 rfl (Yvj (kk:=((ix x28 x135).prod:Int).toNat * 2) (j:=1) (Sm w.heap.size F w [[g2]]) Yyc rfl hr293 rfl (me 0 rfl)) (gy 33 rfl rfl) hns rfl<|wfv 32 rfl (Yuo Za5 rfl h299.hq) (gy 33 rfl rfl) hns rfl<|wfv 33 rfl (Yug rfl rfl rfl) (gy 33 rfl rfl) hns rfl<|wfv 34 rfl (Yuk (b:=true) rfl rfl) gn hns rfl<|wfv 35 rfl (Yu3 rfl) gn hns rfl<|Yv8 49 rfl ((decide_eq_true hp241))<|wfv 36 rfl (Yub Zgy rfl) (gy 49 rfl rfl) hns rfl<|wfv 37 rfl (Yue 0 Yvt rfl rfl rfl) (gy 49 rfl rfl) hns rfl<|wfv 38 rfl (Yug rfl rfl rfl) (gy 49 rfl rfl) hns rfl<|wfv 39 rfl (Yuk (b:=true) rfl rfl) gn hns rfl ?_
        refine wfv 40 rfl (Yu3 rfl) gn hns rfl<|Yv8 54 rfl ((decide_eq_false hp242))<|wfp 41 rfl (ps 54 rfl rfl rfl) hns rfl<|wfp 42 rfl (ps 54 rfl rfl rfl) hns rfl<|wfp 43 rfl (ps 54 rfl rfl rfl) hns rfl<|wfp 44 rfl (ps 54 rfl rfl rfl) hns rfl<|wfp 45 rfl (ps 54 rfl rfl rfl) hns rfl<|wfp 46 rfl (ps 54 rfl rfl rfl) hns rfl<|wfp 47 rfl (ps 54 rfl rfl rfl) hns rfl<|wfp 48 rfl (ps 54 rfl rfl rfl) hns rfl<|wfp 49 rfl (ps 54 rfl rfl rfl) hns rfl<|wfv 50 rfl (Yuk (b:=false) rfl rfl) gn hns rfl ?_
        refine Yvx (by kernel_rfl)<|Yur rfl _ rfl (rfl)<|Yv2 rfl<|Yux<|Yu4 rfl rfl<|Yu2 0 rfl (Yug rfl rfl rfl) gn rfl<|Yu2 1 rfl (Yu3 rfl) gn rfl<|Yua 2 rfl<|Yv1 ?_
        have ih:=Out.inl hO1 h
        exact Yvh [0,1] (ih A131 n132 c133 h134) ⟨rfl,rfl,rfl,rfl,rfl,trivial⟩ (.cons _ (.cons_cons _ (.cons_cons _ (.slnil)))) rfl
      ·have h:=Yum hp241 h
       have hns:Region.noSelect (Code.ops Zm8)=true:=by kernel_rfl
       refine Yvr [] 51 rfl rfl mix rfl (.c 0 rfl (.c 1 rfl .n))<|wfv 0 rfl (Yub Yy5 rfl) gn hns rfl<|wfv 1 rfl (Yue 0 Yvt rfl rfl rfl) gn hns rfl<|wfv 2 rfl (Yug rfl rfl rfl) gn hns rfl<|wfv 3 rfl (Yu3 rfl) gn hns rfl<|Yv8 17 rfl ((decide_eq_true hp230))<|wfv 4 rfl (Yub Yy5 rfl) (gy 17 rfl rfl) hns rfl<|wfv 5 rfl (Yue 0 Yvt rfl rfl rfl) (gy 17 rfl rfl) hns rfl<|wfv 6 rfl (Yu3 rfl) (gy 17 rfl rfl) hns rfl<|wfv 7 rfl (Yuy rfl) (gy 17 rfl rfl) hns rfl<|wfv 8 rfl (Yub Zcc rfl) (gy 17 rfl rfl) hns rfl<|wfv 9 rfl (Yub Yvf rfl) (gy 17 rfl rfl) hns rfl ?_
       refine wfv 10 rfl (Yue 2 Ywb rfl rfl rfl) (gy 17 rfl rfl) hns rfl<|wfv 11 rfl (Yuo Za3 rfl h15.hq) (gy 17 rfl rfl) hns rfl<|wfv 12 rfl (Yug rfl rfl rfl) (gy 17 rfl rfl) hns rfl<|wfv 13 rfl (Yuk (b:=true) rfl rfl) gn hns rfl<|wfv 14 rfl (Yu3 rfl) gn hns rfl<|Yv8 28 rfl ((decide_eq_true hp231))<|wfv 15 rfl (Yub Zb8 rfl) (gy 28 rfl rfl) hns rfl<|wfv 16 rfl (Yue 0 Yvt rfl rfl rfl) (gy 28 rfl rfl) hns rfl<|wfv 17 rfl (Yug rfl rfl rfl) (gy 28 rfl rfl) hns rfl<|wfv 18 rfl (Yuk (b:=true) rfl rfl) gn hns rfl<|wfv 19 rfl (Yu3 rfl) gn hns rfl<|Yv8 33 rfl ((decide_eq_true hp232)) ?_
       refine wfv 20 rfl (Yub Zb8 rfl) (gy 33 rfl rfl) hns rfl<|wfv 21 rfl (Yue 0 Yvt rfl rfl rfl) (gy 33 rfl rfl) hns rfl<|wfv 22 rfl (Yu3 rfl) (gy 33 rfl rfl) hns rfl<|wfv 23 rfl (Yuy rfl) (gy 33 rfl rfl) hns rfl<|wfv 24 rfl (Yub Zcc rfl) (gy 33 rfl rfl) hns rfl<|wfv 25 rfl (Yub Yvf rfl) (gy 33 rfl rfl) hns rfl<|wfv 26 rfl (Yue 2 Ywb rfl rfl rfl) (gy 33 rfl rfl) hns rfl<|wfv 27 rfl (Yub Yy5 rfl) (gy 33 rfl rfl) hns rfl<|wfv 28 rfl (Yue 0 Yvt rfl rfl rfl) (gy 33 rfl rfl) hns rfl ?_
       obtain ⟨ce308,hK309,hr307⟩:=Rw.read (s:=Sm w.heap.size F w [[g2]]) h15 hb233
       obtain ⟨A310,n311,c312,rfl,h313⟩:=hK309
       refine wfv 29 rfl (Yv7 (s:=Sm w.heap.size F w [[g2]]) Yxh rfl rfl h15 hb233) (gy 33 rfl rfl) hns rfl<|wfv 30 rfl (Yvo Yw1 rfl) (gy 33 rfl rfl) hns rfl<|wfv 31 rfl (Yvj (kk:=((ix x28 x135).prod:Int).toNat * 2) (j:=1) (Sm w.heap.size F w [[g2]]) Yyc rfl hr307 rfl (me 0 rfl)) (gy 33 rfl rfl) hns rfl<|wfv 32 rfl (Yuo Za5 rfl h313.hq) (gy 33 rfl rfl) hns rfl<|wfv 33 rfl (Yug rfl rfl rfl) (gy 33 rfl rfl) hns rfl<|wfv 34 rfl (Yuk (b:=true) rfl rfl) gn hns rfl<|wfv 35 rfl (Yu3 rfl) gn hns rfl<|Yv8 49 rfl ((decide_eq_false hp241))<|wfp 36 rfl (ps 49 rfl rfl rfl) hns rfl<|wfp 37 rfl (ps 49 rfl rfl rfl) hns rfl<|wfp 38 rfl (ps 49 rfl rfl rfl) hns rfl<|wfv 39 rfl (Yuk (b:=false) rfl rfl) gn hns rfl ?_
       refine wfv 40 rfl (Yu3 rfl) gn hns rfl<|wfp 41 rfl (ps 54 rfl rfl rfl) hns rfl<|wfp 42 rfl (ps 54 rfl rfl rfl) hns rfl<|wfp 43 rfl (ps 54 rfl rfl rfl) hns rfl<|wfp 44 rfl (ps 54 rfl rfl rfl) hns rfl<|wfp 45 rfl (ps 54 rfl rfl rfl) hns rfl<|wfp 46 rfl (ps 54 rfl rfl rfl) hns rfl<|wfp 47 rfl (ps 54 rfl rfl rfl) hns rfl<|wfp 48 rfl (ps 54 rfl rfl rfl) hns rfl<|wfp 49 rfl (ps 54 rfl rfl rfl) hns rfl<|wfv 50 rfl (Yuk (b:=false) rfl rfl) gn hns rfl<|Yvx (by kernel_rfl) ?_
       refine Yur rfl _ rfl (rfl)<|Yv2 rfl<|Yux<|Yu4 rfl rfl<|Yu2 0 rfl (Yug rfl rfl rfl) gn rfl<|Yu2 1 rfl (Yu3 rfl) gn rfl<|Yua 2 rfl<|Yv1 ?_
       have ih:=Out.inl hO1 h
       exact Yvh [0,1] (ih A131 n132 c133 h134) ⟨rfl,rfl,rfl,rfl,rfl,trivial⟩ (.cons _ (.cons_cons _ (.cons_cons _ (.slnil)))) rfl
     ·have h:=Yum hp232 h
      have hns:Region.noSelect (Code.ops Zm8)=true:=by kernel_rfl
      refine Yvr [] 51 rfl rfl mix rfl (.c 0 rfl (.c 1 rfl .n))<|wfv 0 rfl (Yub Yy5 rfl) gn hns rfl<|wfv 1 rfl (Yue 0 Yvt rfl rfl rfl) gn hns rfl<|wfv 2 rfl (Yug rfl rfl rfl) gn hns rfl<|wfv 3 rfl (Yu3 rfl) gn hns rfl<|Yv8 17 rfl ((decide_eq_true hp230))<|wfv 4 rfl (Yub Yy5 rfl) (gy 17 rfl rfl) hns rfl<|wfv 5 rfl (Yue 0 Yvt rfl rfl rfl) (gy 17 rfl rfl) hns rfl<|wfv 6 rfl (Yu3 rfl) (gy 17 rfl rfl) hns rfl<|wfv 7 rfl (Yuy rfl) (gy 17 rfl rfl) hns rfl<|wfv 8 rfl (Yub Zcc rfl) (gy 17 rfl rfl) hns rfl<|wfv 9 rfl (Yub Yvf rfl) (gy 17 rfl rfl) hns rfl ?_
      refine wfv 10 rfl (Yue 2 Ywb rfl rfl rfl) (gy 17 rfl rfl) hns rfl<|wfv 11 rfl (Yuo Za3 rfl h15.hq) (gy 17 rfl rfl) hns rfl<|wfv 12 rfl (Yug rfl rfl rfl) (gy 17 rfl rfl) hns rfl<|wfv 13 rfl (Yuk (b:=true) rfl rfl) gn hns rfl<|wfv 14 rfl (Yu3 rfl) gn hns rfl<|Yv8 28 rfl ((decide_eq_true hp231))<|wfv 15 rfl (Yub Zb8 rfl) (gy 28 rfl rfl) hns rfl<|wfv 16 rfl (Yue 0 Yvt rfl rfl rfl) (gy 28 rfl rfl) hns rfl<|wfv 17 rfl (Yug rfl rfl rfl) (gy 28 rfl rfl) hns rfl<|wfv 18 rfl (Yuk (b:=true) rfl rfl) gn hns rfl<|wfv 19 rfl (Yu3 rfl) gn hns rfl<|Yv8 33 rfl ((decide_eq_false hp232)) ?_
      refine wfp 20 rfl (ps 33 rfl rfl rfl) hns rfl<|wfp 21 rfl (ps 33 rfl rfl rfl) hns rfl<|wfp 22 rfl (ps 33 rfl rfl rfl) hns rfl<|wfp 23 rfl (ps 33 rfl rfl rfl) hns rfl<|wfp 24 rfl (ps 33 rfl rfl rfl) hns rfl<|wfp 25 rfl (ps 33 rfl rfl rfl) hns rfl<|wfp 26 rfl (ps 33 rfl rfl rfl) hns rfl<|wfp 27 rfl (ps 33 rfl rfl rfl) hns rfl<|wfp 28 rfl (ps 33 rfl rfl rfl) hns rfl<|wfp 29 rfl (ps 33 rfl rfl rfl) hns rfl<|wfp 30 rfl (ps 33 rfl rfl rfl) hns rfl<|wfp 31 rfl (ps 33 rfl rfl rfl) hns rfl ?_
      refine wfp 32 rfl (ps 33 rfl rfl rfl) hns rfl<|wfp 33 rfl (ps 33 rfl rfl rfl) hns rfl<|wfv 34 rfl (Yuk (b:=false) rfl rfl) gn hns rfl<|wfv 35 rfl (Yu3 rfl) gn hns rfl<|wfp 36 rfl (ps 49 rfl rfl rfl) hns rfl<|wfp 37 rfl (ps 49 rfl rfl rfl) hns rfl<|wfp 38 rfl (ps 49 rfl rfl rfl) hns rfl<|wfv 39 rfl (Yuk (b:=false) rfl rfl) gn hns rfl<|wfv 40 rfl (Yu3 rfl) gn hns rfl<|wfp 41 rfl (ps 54 rfl rfl rfl) hns rfl<|wfp 42 rfl (ps 54 rfl rfl rfl) hns rfl<|wfp 43 rfl (ps 54 rfl rfl rfl) hns rfl ?_
      refine wfp 44 rfl (ps 54 rfl rfl rfl) hns rfl<|wfp 45 rfl (ps 54 rfl rfl rfl) hns rfl<|wfp 46 rfl (ps 54 rfl rfl rfl) hns rfl<|wfp 47 rfl (ps 54 rfl rfl rfl) hns rfl<|wfp 48 rfl (ps 54 rfl rfl rfl) hns rfl<|wfp 49 rfl (ps 54 rfl rfl rfl) hns rfl<|wfv 50 rfl (Yuk (b:=false) rfl rfl) gn hns rfl<|Yvx (by kernel_rfl)<|Yur rfl _ rfl (rfl)<|Yv2 rfl<|Yux<|Yu4 rfl rfl ?_
      refine Yu2 0 rfl (Yug rfl rfl rfl) gn rfl<|Yu2 1 rfl (Yu3 rfl) gn rfl<|Yua 2 rfl<|Yv1 ?_
      have ih:=Out.inl hO1 h
      exact Yvh [0,1] (ih A131 n132 c133 h134) ⟨rfl,rfl,rfl,rfl,rfl,trivial⟩ (.cons _ (.cons_cons _ (.cons_cons _ (.slnil)))) rfl
    ·have h:=Yum hp231 h
     have hns:Region.noSelect (Code.ops Zm8)=true:=by kernel_rfl
     refine Yvr [] 51 rfl rfl mix rfl (.c 0 rfl (.c 1 rfl .n))<|wfv 0 rfl (Yub Yy5 rfl) gn hns rfl<|wfv 1 rfl (Yue 0 Yvt rfl rfl rfl) gn hns rfl<|wfv 2 rfl (Yug rfl rfl rfl) gn hns rfl<|wfv 3 rfl (Yu3 rfl) gn hns rfl<|Yv8 17 rfl ((decide_eq_true hp230))<|wfv 4 rfl (Yub Yy5 rfl) (gy 17 rfl rfl) hns rfl<|wfv 5 rfl (Yue 0 Yvt rfl rfl rfl) (gy 17 rfl rfl) hns rfl<|wfv 6 rfl (Yu3 rfl) (gy 17 rfl rfl) hns rfl<|wfv 7 rfl (Yuy rfl) (gy 17 rfl rfl) hns rfl<|wfv 8 rfl (Yub Zcc rfl) (gy 17 rfl rfl) hns rfl<|wfv 9 rfl (Yub Yvf rfl) (gy 17 rfl rfl) hns rfl ?_
     refine wfv 10 rfl (Yue 2 Ywb rfl rfl rfl) (gy 17 rfl rfl) hns rfl<|wfv 11 rfl (Yuo Za3 rfl h15.hq) (gy 17 rfl rfl) hns rfl<|wfv 12 rfl (Yug rfl rfl rfl) (gy 17 rfl rfl) hns rfl<|wfv 13 rfl (Yuk (b:=true) rfl rfl) gn hns rfl<|wfv 14 rfl (Yu3 rfl) gn hns rfl<|Yv8 28 rfl ((decide_eq_false hp231))<|wfp 15 rfl (ps 28 rfl rfl rfl) hns rfl<|wfp 16 rfl (ps 28 rfl rfl rfl) hns rfl<|wfp 17 rfl (ps 28 rfl rfl rfl) hns rfl<|wfv 18 rfl (Yuk (b:=false) rfl rfl) gn hns rfl<|wfv 19 rfl (Yu3 rfl) gn hns rfl<|wfp 20 rfl (ps 33 rfl rfl rfl) hns rfl ?_
     refine wfp 21 rfl (ps 33 rfl rfl rfl) hns rfl<|wfp 22 rfl (ps 33 rfl rfl rfl) hns rfl<|wfp 23 rfl (ps 33 rfl rfl rfl) hns rfl<|wfp 24 rfl (ps 33 rfl rfl rfl) hns rfl<|wfp 25 rfl (ps 33 rfl rfl rfl) hns rfl<|wfp 26 rfl (ps 33 rfl rfl rfl) hns rfl<|wfp 27 rfl (ps 33 rfl rfl rfl) hns rfl<|wfp 28 rfl (ps 33 rfl rfl rfl) hns rfl<|wfp 29 rfl (ps 33 rfl rfl rfl) hns rfl<|wfp 30 rfl (ps 33 rfl rfl rfl) hns rfl<|wfp 31 rfl (ps 33 rfl rfl rfl) hns rfl<|wfp 32 rfl (ps 33 rfl rfl rfl) hns rfl ?_
     refine wfp 33 rfl (ps 33 rfl rfl rfl) hns rfl<|wfv 34 rfl (Yuk (b:=false) rfl rfl) gn hns rfl<|wfv 35 rfl (Yu3 rfl) gn hns rfl<|wfp 36 rfl (ps 49 rfl rfl rfl) hns rfl<|wfp 37 rfl (ps 49 rfl rfl rfl) hns rfl<|wfp 38 rfl (ps 49 rfl rfl rfl) hns rfl<|wfv 39 rfl (Yuk (b:=false) rfl rfl) gn hns rfl<|wfv 40 rfl (Yu3 rfl) gn hns rfl<|wfp 41 rfl (ps 54 rfl rfl rfl) hns rfl<|wfp 42 rfl (ps 54 rfl rfl rfl) hns rfl<|wfp 43 rfl (ps 54 rfl rfl rfl) hns rfl<|wfp 44 rfl (ps 54 rfl rfl rfl) hns rfl ?_
     refine wfp 45 rfl (ps 54 rfl rfl rfl) hns rfl<|wfp 46 rfl (ps 54 rfl rfl rfl) hns rfl<|wfp 47 rfl (ps 54 rfl rfl rfl) hns rfl<|wfp 48 rfl (ps 54 rfl rfl rfl) hns rfl<|wfp 49 rfl (ps 54 rfl rfl rfl) hns rfl<|wfv 50 rfl (Yuk (b:=false) rfl rfl) gn hns rfl<|Yvx (by kernel_rfl)<|Yur rfl _ rfl (rfl)<|Yv2 rfl<|Yux<|Yu4 rfl rfl<|Yu2 0 rfl (Yug rfl rfl rfl) gn rfl ?_
     refine Yu2 1 rfl (Yu3 rfl) gn rfl<|Yua 2 rfl<|Yv1 ?_
     have ih:=Out.inl hO1 h
     exact Yvh [0,1] (ih A131 n132 c133 h134) ⟨rfl,rfl,rfl,rfl,rfl,trivial⟩ (.cons _ (.cons_cons _ (.cons_cons _ (.slnil)))) rfl
   ·have h:=Yum hp230 h
    have hns:Region.noSelect (Code.ops Zm8)=true:=by kernel_rfl
    refine Yvr [] 51 rfl rfl mix rfl (.c 0 rfl (.c 1 rfl .n))<|wfv 0 rfl (Yub Yy5 rfl) gn hns rfl<|wfv 1 rfl (Yue 0 Yvt rfl rfl rfl) gn hns rfl<|wfv 2 rfl (Yug rfl rfl rfl) gn hns rfl<|wfv 3 rfl (Yu3 rfl) gn hns rfl<|Yv8 17 rfl ((decide_eq_false hp230))<|wfp 4 rfl (ps 17 rfl rfl rfl) hns rfl<|wfp 5 rfl (ps 17 rfl rfl rfl) hns rfl<|wfp 6 rfl (ps 17 rfl rfl rfl) hns rfl<|wfp 7 rfl (ps 17 rfl rfl rfl) hns rfl<|wfp 8 rfl (ps 17 rfl rfl rfl) hns rfl<|wfp 9 rfl (ps 17 rfl rfl rfl) hns rfl ?_
    refine wfp 10 rfl (ps 17 rfl rfl rfl) hns rfl<|wfp 11 rfl (ps 17 rfl rfl rfl) hns rfl<|wfp 12 rfl (ps 17 rfl rfl rfl) hns rfl<|wfv 13 rfl (Yuk (b:=false) rfl rfl) gn hns rfl<|wfv 14 rfl (Yu3 rfl) gn hns rfl<|wfp 15 rfl (ps 28 rfl rfl rfl) hns rfl<|wfp 16 rfl (ps 28 rfl rfl rfl) hns rfl<|wfp 17 rfl (ps 28 rfl rfl rfl) hns rfl<|wfv 18 rfl (Yuk (b:=false) rfl rfl) gn hns rfl<|wfv 19 rfl (Yu3 rfl) gn hns rfl<|wfp 20 rfl (ps 33 rfl rfl rfl) hns rfl<|wfp 21 rfl (ps 33 rfl rfl rfl) hns rfl ?_
    refine wfp 22 rfl (ps 33 rfl rfl rfl) hns rfl<|wfp 23 rfl (ps 33 rfl rfl rfl) hns rfl<|wfp 24 rfl (ps 33 rfl rfl rfl) hns rfl<|wfp 25 rfl (ps 33 rfl rfl rfl) hns rfl<|wfp 26 rfl (ps 33 rfl rfl rfl) hns rfl<|wfp 27 rfl (ps 33 rfl rfl rfl) hns rfl<|wfp 28 rfl (ps 33 rfl rfl rfl) hns rfl<|wfp 29 rfl (ps 33 rfl rfl rfl) hns rfl<|wfp 30 rfl (ps 33 rfl rfl rfl) hns rfl<|wfp 31 rfl (ps 33 rfl rfl rfl) hns rfl<|wfp 32 rfl (ps 33 rfl rfl rfl) hns rfl<|wfp 33 rfl (ps 33 rfl rfl rfl) hns rfl ?_
    refine wfv 34 rfl (Yuk (b:=false) rfl rfl) gn hns rfl<|wfv 35 rfl (Yu3 rfl) gn hns rfl<|wfp 36 rfl (ps 49 rfl rfl rfl) hns rfl<|wfp 37 rfl (ps 49 rfl rfl rfl) hns rfl<|wfp 38 rfl (ps 49 rfl rfl rfl) hns rfl<|wfv 39 rfl (Yuk (b:=false) rfl rfl) gn hns rfl<|wfv 40 rfl (Yu3 rfl) gn hns rfl<|wfp 41 rfl (ps 54 rfl rfl rfl) hns rfl<|wfp 42 rfl (ps 54 rfl rfl rfl) hns rfl<|wfp 43 rfl (ps 54 rfl rfl rfl) hns rfl<|wfp 44 rfl (ps 54 rfl rfl rfl) hns rfl<|wfp 45 rfl (ps 54 rfl rfl rfl) hns rfl ?_
    refine wfp 46 rfl (ps 54 rfl rfl rfl) hns rfl<|wfp 47 rfl (ps 54 rfl rfl rfl) hns rfl<|wfp 48 rfl (ps 54 rfl rfl rfl) hns rfl<|wfp 49 rfl (ps 54 rfl rfl rfl) hns rfl<|wfv 50 rfl (Yuk (b:=false) rfl rfl) gn hns rfl<|Yvx (by kernel_rfl)<|Yur rfl _ rfl (rfl)<|Yv2 rfl<|Yux<|Yu4 rfl rfl<|Yu2 0 rfl (Yug rfl rfl rfl) gn rfl<|Yu2 1 rfl (Yu3 rfl) gn rfl ?_
    refine Yua 2 rfl<|Yv1 ?_
    have ih:=Out.inl hO1 h
    exact Yvh [0,1] (ih A131 n132 c133 h134) ⟨rfl,rfl,rfl,rfl,rfl,trivial⟩ (.cons _ (.cons_cons _ (.cons_cons _ (.slnil)))) rfl
  ·have h:=Yum hp225 h
   refine Yur rfl _ rfl ((decide_eq_false hp225))<|Ywa [.code q40c6] rfl rfl<|Yu9 rfl<|Yu4 rfl rfl<|Yu2 0 rfl (Yu3 rfl) gn rfl<|Yu2 1 rfl (Yu7 rfl) gn rfl<|Yua 2 rfl ?_
   have h:=Out.inr hO1 h
   refine Yvb [.slice A131 n132 c133] rfl Tryd.func40 rfl (.tmp rfl (.nil)) fun wr hLr=>?_
   have hMr:=hLr.pkI (.c 1 rfl (.c 0 rfl .n)) .n (by kernel_rfl) (.c 1 rfl .n)
   have hMi:=hLr.selI (.c 1 rfl (.c 0 rfl .n))
   show Zem w F g2 Tb3 r (.returned (Yvl [.slice A131 n132 c133])) wr
   rw [h]
   exact ⟨A131,n132,c133,A4,n5,c6,A8,n9,c10,A12,n13,c14,A16,n17,c18,A20,n21,c22,A24,n25,c26,rfl,hMr,h134,(hLr.outR (s:=Sm w.heap.size F w [[g2]]) hMi (me 0 rfl) Sm.ok h7),(hLr.outR (s:=Sm w.heap.size F w [[g2]]) hMi (me 0 rfl) Sm.ok h11),(hLr.outR (s:=Sm w.heap.size F w [[g2]]) hMi (me 0 rfl) Sm.ok h15),(hLr.outR (s:=Sm w.heap.size F w [[g2]]) hMi (me 0 rfl) Sm.ok h19),(hLr.outR (s:=Sm w.heap.size F w [[g2]]) hMi (me 0 rfl) Sm.ok h23),(hLr.outR (s:=Sm w.heap.size F w [[g2]]) hMi (me 0 rfl) Sm.ok h27)⟩
 refine Zf4 78 2 ?_
 exact Yvh [0,1] (key1 _ h none 0 0 (Ow.nil (z:=w.heap.size))) ⟨rfl,rfl,rfl,rfl,rfl,trivial⟩ (.cons_cons _ (.cons_cons _ (.slnil))) rfl
noncomputable abbrev q55c1:=Code.fst (Yvq Tryd.f55)
abbrev Zba (w:World) (F:Nat→Prop) (g4:Nat) (g13:Nat) (Tb5:Nat) (Tb14:Nat) (A6:Option Addr) (n7:Nat) (c8:Nat) (z10:Nat) (A15:Option Addr) (n16:Nat) (c17:Nat) (z19:Nat) (r:(List Int) × (List Int)):Ending→World→Prop:=fun e w'=>∃ A0:Option Addr,∃ n0:Nat,∃ c0:Nat,∃ A1:Option Addr,∃ n1:Nat,∃ c1:Nat,e=.returned (.tuple #[])∧B.Loc w w' [.box g4 Tb5 [.slice A0 n0 c0],.box g13 Tb14 [.slice A1 n1 c1],.own (.slice A0 n0 c0) 76 1 n0 (r.1.flatMap (eI .u64)),.own (.slice A1 n1 c1) 3 1 n1 (r.2.flatMap (eI .i64))] [St w [[g4],(Value.slice A6 n7 c8).ownBlock.toList,[g13],(Value.slice A15 n16 c17).ownBlock.toList]]∧Ow z10 A0 n0 c0 r.1∧Ow z19 A1 n1 c1 r.2
noncomputable abbrev Zil (w:World) (F:Nat→Prop) (g4:Nat) (g13:Nat) (Tb5:Nat) (Tb14:Nat) (A6:Option Addr) (n7:Nat) (c8:Nat) (z10:Nat) (A15:Option Addr) (n16:Nat) (c17:Nat) (z19:Nat) (r:(List Int) × (List Int)):Cx:=⟨Tryd.prog,55,Tryd.f55,28,Zba w F g4 g13 Tb5 Tb14 A6 n7 c8 z10 A15 n16 c17 z19 r,w⟩
theorem Zdp (w:World) (F:Nat→Prop) (x1:Int) (x2:Int) (x3:List Int) (x12:List Int) (g4:Nat) (Tb5:Nat) (z10:Nat) (A6:Option Addr) (n7:Nat) (c8:Nat) (g13:Nat) (Tb14:Nat) (z19:Nat) (A15:Option Addr) (n16:Nat) (c17:Nat) (hz11:z10≤w.heap.size) (h9:Ow z10 A6 n7 c8 x3) (hz20:z19≤w.heap.size) (h18:Ow z19 A15 n16 c17 x12) (hF:∀ b,F b→b < w.heap.size∧∀ o ∈ ([[g4],(Value.slice A6 n7 c8).ownBlock.toList,[g13],(Value.slice A15 n16 c17).ownBlock.toList]:List (List Nat)),b ∉ o) (hL0:B.Loc w w [.box g4 Tb5 [.slice A6 n7 c8],.own (.slice A6 n7 c8) 76 1 n7 (x3.flatMap (eI .u64)),.box g13 Tb14 [.slice A15 n16 c17],.own (.slice A15 n16 c17) 3 1 n16 (x12.flatMap (eI .i64))] [Sm w.heap.size F w [[g4],(Value.slice A6 n7 c8).ownBlock.toList,[g13],(Value.slice A15 n16 c17).ownBlock.toList],St w [[g4],(Value.slice A6 n7 c8).ownBlock.toList,[g13],(Value.slice A15 n16 c17).ownBlock.toList]]) (r:(List Int) × (List Int)) (h:Yzj x1 x2 x3 x12 r):Calls Tryd.prog 55 #[.int .i64 x1,.int .u64 x2,.pointer (some ⟨g4,0,none⟩),.pointer (some ⟨g13,0,none⟩)] w (Zba w F g4 g13 Tb5 Tb14 A6 n7 c8 z10 A15 n16 c17 z19 r):=by
 unfold Yzj at h
 refine Yv5 (vs:=[.int .i64 x1,.int .u64 x2,.pointer (some ⟨g4,0,none⟩),.pointer (some ⟨g13,0,none⟩)]) 28 Tryd.func55 rfl Tryd.ntmps55 rfl hL0 ?_
 show G (Zil w F g4 g13 Tb5 Tb14 A6 n7 c8 z10 A15 n16 c17 z19 r) _ _ _ _
 refine Yu9 rfl ?_
 obtain ⟨hb21,h⟩:=h
 have hns:Region.noSelect (Code.ops q55c1)=true:=by kernel_rfl
 refine Yvr [] 11 rfl rfl mix rfl (.c 0 rfl (.c 1 rfl .n))<|wfv 0 rfl (Yue 0 Zqu rfl rfl rfl) gn hns rfl<|wfv 1 rfl (Yu3 rfl) gn hns rfl<|wfv 2 rfl (Yyn Ziy rfl rfl h9 hb21) gn hns rfl<|wfv 3 rfl (Zbb (.int .u64 (ix x3 x1)) 1 Zdt rfl rfl (Zcj (hlI .u64) hb21 rfl)) gn hns rfl<|wfv 4 rfl (Yu3 rfl) gn hns rfl<|wfv 5 rfl (Yug rfl rfl rfl) gn hns rfl<|wfv 6 rfl (Yue 0 Zqu rfl rfl rfl) gn hns rfl<|wfv 7 rfl (Yu3 rfl) gn hns rfl<|wfv 8 rfl (Yyn Ziy rfl rfl h9 hb21) gn hns rfl<|wfv 9 rfl (Zbb (.int .u64 (ix x3 x1)) 1 Zdt rfl rfl (Zcj (hlI .u64) hb21 rfl)) gn hns rfl<|wfv 10 rfl (Yug rfl rfl rfl) gn hns rfl ?_
 refine Yvx (by kernel_rfl) ?_
 by_cases hp22:bits .or .u64 (ix x3 x1) x2=ix x3 x1
 ·have h:=Yul hp22 h
  refine Yur rfl _ rfl ((Zgg hp22))<|Yv2 rfl ?_
  refine Zrw [] Tryd.func55 rfl (.nil) fun wr hLr=>?_
  have hMr:=hLr.pkI (.c 0 rfl (.c 2 rfl (.c 1 rfl (.c 3 rfl .n)))) .n (by kernel_rfl) (.c 1 rfl .n)
  show Zba w F g4 g13 Tb5 Tb14 A6 n7 c8 z10 A15 n16 c17 z19 r (.returned (Yvl [])) wr
  rw [h]
  exact ⟨A6,n7,c8,A15,n16,c17,rfl,hMr,h9,h18⟩
 ·have h:=Yum hp22 h
  refine Yv4 rfl _ rfl ((Zkm hp22))<|Yu9 rfl<|Yu4 rfl rfl<|Yu2 0 rfl (Yue 0 Zqu rfl rfl rfl) gn rfl<|Yu2 1 rfl (Yu3 rfl) gn rfl<|Yu2 2 rfl (Yyn Ziy rfl rfl h9 hb21) gn rfl<|Yu2 3 rfl (Zbb (.int .u64 (ix x3 x1)) 1 Zdt rfl rfl (Zcj (hlI .u64) hb21 rfl)) gn rfl<|Yu2 4 rfl (Yu3 rfl) gn rfl<|Yu2 5 rfl (Yug rfl rfl rfl) gn rfl<|Yu2 6 rfl (Yyn Ziy rfl rfl h9 hb21) gn rfl ?_
  obtain ⟨x23,hv24,h⟩:=h
  refine Yve 7 rfl (Zgm (enc:=(eI .u64)) (o:=0) (z:=(bits .or .u64 (ix x3 x1) x2)) (vs:=[.int .u64 (bits .or .u64 (ix x3 x1) x2)]) (i:=x1) 1 (hlI .u64) Zjs rfl rfl rfl rfl rfl h9 hb21 rfl rfl rfl hv24 fun h25=>?_) gn
  refine Yua 8 rfl<|Yu4 rfl rfl<|Yu2 0 rfl (Yue 2 Zew rfl rfl rfl) gn rfl<|Yu2 1 rfl (Yu3 rfl) gn rfl ?_
  refine Yve 2 rfl (Zdd (xs:=([x1]:List Int)) [.int .i64 x1] Zms rfl (by kernel_rfl) rfl rfl rfl rfl fun gb27 h28=>?_) gn
  obtain ⟨x32,hv33,h⟩:=h
  obtain ⟨hb34,h⟩:=h
  refine Yve 3 rfl (Zdj (zs:=x32) (cells':=x32.flatMap (eI .i64)) 4 ap_47 rfl rfl rfl h18 hz20 (Src.ownF (hl:=(hlI .i64)) (h1:=(Yya .i64)) 0 rfl h28) (by rw [hv33,List.flatMap_append] <;> rfl) (Yzh hv33 h28.hq) hb34 rfl rfl fun A29 c30 h31=>?_) gn
  refine Yve 4 rfl (Za4 (vs:=[.slice A29 (n16 + 1) c30]) (cs':=[.slice A29 (n16 + 1) c30]) (M':=[.own (.slice (some ⟨gb27,0,none⟩) 1 1) 3 1 1 (([x1]:List Int).flatMap (eI .i64)),.box g4 Tb5 [.slice A6 n7 c8],.own (.slice A6 n7 c8) 76 1 n7 (x23.flatMap (eI .u64)),.box g13 Tb14 [.slice A29 (n16 + 1) c30],.own (.slice A29 (n16 + 1) c30) 3 1 (n16 + 1) (x32.flatMap (eI .i64))]) 3 Zqf rfl rfl rfl rfl rfl rfl rfl rfl rfl ?_) gn
  refine Yua 5 rfl ?_
  refine Zrw [] Tryd.func55 rfl (.nil) fun wr hLr=>?_
  have hMr:=hLr.pkI (.c 1 rfl (.c 3 rfl (.c 2 rfl (.c 4 rfl .n)))) (.c 0 rfl .n) (by kernel_rfl) (.c 1 rfl .n)
  show Zba w F g4 g13 Tb5 Tb14 A6 n7 c8 z10 A15 n16 c17 z19 r (.returned (Yvl [])) wr
  rw [h]
  exact ⟨A6,n7,c8,A29,n16 + 1,c30,rfl,hMr,h25,h31⟩
noncomputable abbrev Zlw:=Code.snd (Code.snd (Code.snd (Code.snd (Code.snd (Yvq Tryd.f39)))))
noncomputable abbrev Zlv:=Code.fst (Code.fst (Code.snd (Code.fst (Code.snd (Code.snd (Code.snd (Code.snd (Yvq Tryd.f39))))))))
noncomputable abbrev Zhb:=Code.snd Zlw
noncomputable abbrev Zet:=Code.fst (Code.fst (Code.fst Zlw))
noncomputable abbrev q39c47:=Code.fst (Code.fst (Code.snd (Code.snd (Code.snd (Code.fst (Code.snd Zet))))))
noncomputable abbrev Zrn:=Code.snd (Code.snd (Code.snd (Code.snd (Code.snd (Code.snd (Code.fst (Code.snd Zet)))))))
noncomputable abbrev q39c59:=Code.fst Zrn
noncomputable abbrev Zm2:=Code.fst (Code.fst (Code.snd Zrn))
abbrev Zdu (w:World) (F:Nat→Prop) (g2:Nat) (Tb3:Nat) (r:(List Int) × Yuv):Ending→World→Prop:=fun e w'=>∃ A0:Option Addr,∃ n0:Nat,∃ c0:Nat,∃ A1:Option Addr,∃ n1:Nat,∃ c1:Nat,∃ A2:Option Addr,∃ n2:Nat,∃ c2:Nat,∃ A3:Option Addr,∃ n3:Nat,∃ c3:Nat,∃ A4:Option Addr,∃ n4:Nat,∃ c4:Nat,∃ A5:Option Addr,∃ n5:Nat,∃ c5:Nat,∃ A6:Option Addr,∃ n6:Nat,∃ c6:Nat,e=.returned (.slice A0 n0 c0)∧B.Loc w w' [.box g2 Tb3 [.slice A1 n1 c1,.slice A2 n2 c2,.slice A3 n3 c3,.slice A4 n4 c4,.slice A5 n5 c5,.slice A6 n6 c6],.own (.slice A0 n0 c0) 76 1 n0 (r.1.flatMap (eI .u64))] [St w [[g2]]]∧Ow w.heap.size A0 n0 c0 r.1∧Rw Yuj w' (Nw w w' F [.box g2 Tb3 [.slice A1 n1 c1,.slice A2 n2 c2,.slice A3 n3 c3,.slice A4 n4 c4,.slice A5 n5 c5,.slice A6 n6 c6],.own (.slice A0 n0 c0) 76 1 n0 (r.1.flatMap (eI .u64))]) A1 n1 c1 r.2.g.terms∧Rw Yuq w' (Nw w w' F [.box g2 Tb3 [.slice A1 n1 c1,.slice A2 n2 c2,.slice A3 n3 c3,.slice A4 n4 c4,.slice A5 n5 c5,.slice A6 n6 c6],.own (.slice A0 n0 c0) 76 1 n0 (r.1.flatMap (eI .u64))]) A2 n2 c2 r.2.g.syms∧Rw Yun w' (Nw w w' F [.box g2 Tb3 [.slice A1 n1 c1,.slice A2 n2 c2,.slice A3 n3 c3,.slice A4 n4 c4,.slice A5 n5 c5,.slice A6 n6 c6],.own (.slice A0 n0 c0) 76 1 n0 (r.1.flatMap (eI .u64))]) A3 n3 c3 r.2.g.prods∧Rw Yx2 w' (Nw w w' F [.box g2 Tb3 [.slice A1 n1 c1,.slice A2 n2 c2,.slice A3 n3 c3,.slice A4 n4 c4,.slice A5 n5 c5,.slice A6 n6 c6],.own (.slice A0 n0 c0) 76 1 n0 (r.1.flatMap (eI .u64))]) A4 n4 c4 r.2.spots∧Rw (Yw6 .i64) w' (Nw w w' F [.box g2 Tb3 [.slice A1 n1 c1,.slice A2 n2 c2,.slice A3 n3 c3,.slice A4 n4 c4,.slice A5 n5 c5,.slice A6 n6 c6],.own (.slice A0 n0 c0) 76 1 n0 (r.1.flatMap (eI .u64))]) A5 n5 c5 r.2.at_∧Rw (Kd.slice (Yw6 .i64)) w' (Nw w w' F [.box g2 Tb3 [.slice A1 n1 c1,.slice A2 n2 c2,.slice A3 n3 c3,.slice A4 n4 c4,.slice A5 n5 c5,.slice A6 n6 c6],.own (.slice A0 n0 c0) 76 1 n0 (r.1.flatMap (eI .u64))]) A6 n6 c6 r.2.of
noncomputable abbrev Ywr (w:World) (F:Nat→Prop) (g2:Nat) (Tb3:Nat) (r:(List Int) × Yuv):Cx:=⟨Tryd.prog,39,Tryd.f39,101,Zdu w F g2 Tb3 r,w⟩
theorem Zbz (w:World) (F:Nat→Prop) (x1:Yuv) (x28:List Yus) (g2:Nat) (Tb3:Nat) (A4:Option Addr) (n5:Nat) (c6:Nat) (A8:Option Addr) (n9:Nat) (c10:Nat) (A12:Option Addr) (n13:Nat) (c14:Nat) (A16:Option Addr) (n17:Nat) (c18:Nat) (A20:Option Addr) (n21:Nat) (c22:Nat) (A24:Option Addr) (n25:Nat) (c26:Nat) (A29:Option Addr) (n30:Nat) (c31:Nat) (h7:Rw Yuj w F A4 n5 c6 x1.g.terms) (h11:Rw Yuq w F A8 n9 c10 x1.g.syms) (h15:Rw Yun w F A12 n13 c14 x1.g.prods) (h19:Rw Yx2 w F A16 n17 c18 x1.spots) (h23:Rw (Yw6 .i64) w F A20 n21 c22 x1.at_) (h27:Rw (Kd.slice (Yw6 .i64)) w F A24 n25 c26 x1.of) (h32:Rw Zdn w (St w [[g2]]).av A29 n30 c31 x28) (hF:∀ b,F b→b < w.heap.size∧∀ o ∈ ([[g2]]:List (List Nat)),b ∉ o) (hL0:B.Loc w w [.box g2 Tb3 [.slice A4 n5 c6,.slice A8 n9 c10,.slice A12 n13 c14,.slice A16 n17 c18,.slice A20 n21 c22,.slice A24 n25 c26]] [Sm w.heap.size F w [[g2]],St w [[g2]]]) (r:(List Int) × Yuv) (h:Yy9 x1 x28 r):Calls Tryd.prog 39 #[.pointer (some ⟨g2,0,none⟩),.slice A29 n30 c31] w (Zdu w F g2 Tb3 r):=by
 unfold Yy9 at h
 have h7:=Rw.into (bs:=[[g2]]) hF h7
 have h11:=Rw.into (bs:=[[g2]]) hF h11
 have h15:=Rw.into (bs:=[[g2]]) hF h15
 have h19:=Rw.into (bs:=[[g2]]) hF h19
 have h23:=Rw.into (bs:=[[g2]]) hF h23
 have h27:=Rw.into (bs:=[[g2]]) hF h27
 refine Yv5 (vs:=[.pointer (some ⟨g2,0,none⟩),.slice A29 n30 c31]) 101 Tryd.func39 rfl Tryd.ntmps39 rfl hL0 ?_
 show G (Ywr w F g2 Tb3 r) _ _ _ _
 refine Yu9 rfl<|Yu4 rfl rfl<|Yu2 0 rfl (Yu7 rfl) gn rfl<|Yua 1 rfl<|Yu9 rfl<|Yu4 rfl rfl<|Yu2 0 rfl (Yu3 rfl) gn rfl<|Yu2 1 rfl (Yuy rfl) gn rfl<|Yu2 2 rfl (Yub Ze6 rfl) gn rfl<|Yu2 3 rfl (Yue 0 Zi8 rfl rfl rfl) gn rfl<|Yu2 4 rfl (Yuo un_100 rfl h19.hq) gn rfl ?_
 obtain ⟨hb33,h⟩:=h
 obtain ⟨x37,hv38,h⟩:=h
 refine Yve 5 rfl (Zib (enc:=(eI .u64)) (z:=0) mk_71 rfl (by decide) rfl rfl hb33.1 hb33.2 (by decide) hv38 rfl fun A34 h35=>?_) gn
 refine Yve 6 rfl (Yye [.slice none 0 0] zr_71 rfl fun gb39=>?_) gn
 refine Yve 7 rfl (Za4 (vs:=[.slice A34 (((x1.spots.length:Int):Int).toNat) (((x1.spots.length:Int):Int).toNat)]) (cs':=[.slice A34 (((x1.spots.length:Int):Int).toNat) (((x1.spots.length:Int):Int).toNat)]) (M':=[.box gb39 71 [.slice A34 (((x1.spots.length:Int):Int).toNat) (((x1.spots.length:Int):Int).toNat)],.own (.slice A34 (((x1.spots.length:Int):Int).toNat) (((x1.spots.length:Int):Int).toNat)) 76 1 (((x1.spots.length:Int):Int).toNat) (x37.flatMap (eI .u64)),.box g2 Tb3 [.slice A4 n5 c6,.slice A8 n9 c10,.slice A12 n13 c14,.slice A16 n17 c18,.slice A20 n21 c22,.slice A24 n25 c26]]) 0 sz_71 rfl rfl rfl rfl rfl rfl rfl rfl rfl ?_) gn
 refine Yua 8 rfl<|Yu9 rfl<|Yu4 rfl rfl ?_
 refine Yve 0 rfl (Yye [.slice none 0 0] zr_47 rfl fun gb41=>?_) gn
 refine Yua 1 rfl<|Yu9 rfl<|Yu4 rfl rfl<|Yu2 0 rfl (Zrz [.pointer (some ⟨gb39,0,none⟩),.pointer (some ⟨gb41,0,none⟩)] rfl) gn rfl<|Yu2 1 rfl (Yu7 rfl) gn rfl<|Yua 2 rfl<|Yu9 rfl<|Yu9 rfl<|Yu4 rfl rfl<|Yu2 0 rfl (Yu3 rfl) gn rfl<|Yu2 1 rfl (Yuo un_73 rfl h32.hq) gn rfl<|Yu2 2 rfl (Yu3 rfl) gn rfl ?_
 refine Yua 3 rfl<|Yuw rfl<|Ywm rfl ?_
 have key1:∀ s,Yui (fun (s:Int × (List Int) × (List Int)) o=>Yxc x28 x1 s.1 s.2.1 s.2.2 o) s r→(fun (s:Int × (List Int) × (List Int))=>∀ (A71:Option Addr) (n72:Nat) (c73:Nat) (h74:Ow w.heap.size A71 n72 c73 s.2.1) (A76:Option Addr) (n77:Nat) (c78:Nat) (h79:Ow w.heap.size A76 n77 c78 s.2.2),G (Ywr w F g2 Tb3 r) [.code Zlv,.inLoop Zlv,.inBlock 0,.code Zlw] [(0,.pointer (some ⟨g2,0,none⟩)),(5,.pointer (some ⟨gb39,0,none⟩)),(6,.pointer (some ⟨gb41,0,none⟩)),(7,.func (.func 55) #[] #[.pointer (some ⟨gb39,0,none⟩),.pointer (some ⟨gb41,0,none⟩)]),(22,.slice A29 n30 c31),(23,.int .i64 (x28.length:Int)),(24,.int .i64 s.1)] [.own (.slice A71 n72 c73) 3 1 n72 (s.2.1.flatMap (eI .i64)),.own (.slice A76 n77 c78) 76 1 n77 (s.2.2.flatMap (eI .u64)),.box gb41 47 [.slice A71 n72 c73],.box gb39 71 [.slice A76 n77 c78],.box g2 Tb3 [.slice A4 n5 c6,.slice A8 n9 c10,.slice A12 n13 c14,.slice A16 n17 c18,.slice A20 n21 c22,.slice A24 n25 c26]] [Sm w.heap.size F w [[g2]],St w [[g2]]]) s:=by
  intro s hs
  refine Yui.ind (mot:=(fun (s:Int × (List Int) × (List Int))=>∀ (A71:Option Addr) (n72:Nat) (c73:Nat) (h74:Ow w.heap.size A71 n72 c73 s.2.1) (A76:Option Addr) (n77:Nat) (c78:Nat) (h79:Ow w.heap.size A76 n77 c78 s.2.2),G (Ywr w F g2 Tb3 r) [.code Zlv,.inLoop Zlv,.inBlock 0,.code Zlw] [(0,.pointer (some ⟨g2,0,none⟩)),(5,.pointer (some ⟨gb39,0,none⟩)),(6,.pointer (some ⟨gb41,0,none⟩)),(7,.func (.func 55) #[] #[.pointer (some ⟨gb39,0,none⟩),.pointer (some ⟨gb41,0,none⟩)]),(22,.slice A29 n30 c31),(23,.int .i64 (x28.length:Int)),(24,.int .i64 s.1)] [.own (.slice A71 n72 c73) 3 1 n72 (s.2.1.flatMap (eI .i64)),.own (.slice A76 n77 c78) 76 1 n77 (s.2.2.flatMap (eI .u64)),.box gb41 47 [.slice A71 n72 c73],.box gb39 71 [.slice A76 n77 c78],.box g2 Tb3 [.slice A4 n5 c6,.slice A8 n9 c10,.slice A12 n13 c14,.slice A16 n17 c18,.slice A20 n21 c22,.slice A24 n25 c26]] [Sm w.heap.size F w [[g2]],St w [[g2]]])) ?_ hs
  clear hs s
  intro s o1 h hO1
  obtain ⟨x69,x70,x75⟩:=s
  show ∀ (A71:Option Addr) (n72:Nat) (c73:Nat) (h74:Ow w.heap.size A71 n72 c73 x70) (A76:Option Addr) (n77:Nat) (c78:Nat) (h79:Ow w.heap.size A76 n77 c78 x75),G (Ywr w F g2 Tb3 r) [.code Zlv,.inLoop Zlv,.inBlock 0,.code Zlw] [(0,.pointer (some ⟨g2,0,none⟩)),(5,.pointer (some ⟨gb39,0,none⟩)),(6,.pointer (some ⟨gb41,0,none⟩)),(7,.func (.func 55) #[] #[.pointer (some ⟨gb39,0,none⟩),.pointer (some ⟨gb41,0,none⟩)]),(22,.slice A29 n30 c31),(23,.int .i64 (x28.length:Int)),(24,.int .i64 x69)] [.own (.slice A71 n72 c73) 3 1 n72 (x70.flatMap (eI .i64)),.own (.slice A76 n77 c78) 76 1 n77 (x75.flatMap (eI .u64)),.box gb41 47 [.slice A71 n72 c73],.box gb39 71 [.slice A76 n77 c78],.box g2 Tb3 [.slice A4 n5 c6,.slice A8 n9 c10,.slice A12 n13 c14,.slice A16 n17 c18,.slice A20 n21 c22,.slice A24 n25 c26]] [Sm w.heap.size F w [[g2]],St w [[g2]]]
  intro A71 n72 c73 h74 A76 n77 c78 h79
  have h:Yxc x28 x1 x69 x70 x75 o1:=h
  unfold Yxc at h
  refine Yu9 rfl<|Yu4 rfl rfl<|Yu2 0 rfl (Yug rfl rfl rfl) gn rfl<|Yua 1 rfl<|Yu9 rfl ?_
  by_cases hp475:x69 < (x28.length:Int)
  ·have h:=Yul hp475 h
   refine Yv4 rfl _ rfl ((decide_eq_true hp475))<|Yv2 rfl<|Yu9 rfl<|Yuw rfl<|Yu9 rfl<|Yu4 rfl rfl ?_
   obtain ⟨hb476,h⟩:=h
   have hr477:=Rw.readF (s:=St w [[g2]]) (hl:=Zdy) (h1:=Ze8) h32 hb476
   refine Yu2 0 rfl (Yv7 (s:=St w [[g2]]) slE_73 rfl rfl h32 hb476) gn rfl<|Yu2 1 rfl (Zdb (St w [[g2]]) ld_78 rfl hr477 rfl (me 1 rfl)) gn rfl ?_
   refine Yve 2 rfl (Yye [.int .i64 0,.int .u64 0] zr_78 rfl fun gb478=>?_) gn
   refine Yve 3 rfl (Za4 (vs:=[.int .i64 ((ix x28 x69).spot),.int .u64 ((ix x28 x69).looks)]) (cs':=[.int .i64 ((ix x28 x69).spot),.int .u64 ((ix x28 x69).looks)]) (M':=[.box gb478 78 [.int .i64 ((ix x28 x69).spot),.int .u64 ((ix x28 x69).looks)],.own (.slice A71 n72 c73) 3 1 n72 (x70.flatMap (eI .i64)),.own (.slice A76 n77 c78) 76 1 n77 (x75.flatMap (eI .u64)),.box gb41 47 [.slice A71 n72 c73],.box gb39 71 [.slice A76 n77 c78],.box g2 Tb3 [.slice A4 n5 c6,.slice A8 n9 c10,.slice A12 n13 c14,.slice A16 n17 c18,.slice A20 n21 c22,.slice A24 n25 c26]]) 0 sz_78 rfl rfl rfl rfl rfl rfl rfl rfl rfl ?_) gn
   refine Yua 4 rfl<|Yu4 rfl rfl<|Yu2 0 rfl (Yu3 rfl) gn rfl<|Yu2 1 rfl (Yub fo_78_0 rfl) gn rfl<|Yu2 2 rfl (Yue 0 Yvt rfl rfl rfl) gn rfl<|Yu2 3 rfl (Yub fo_78_1 rfl) gn rfl<|Yu2 4 rfl (Yue 0 Zdt rfl rfl rfl) gn rfl ?_
   obtain ⟨r483,hv484,h⟩:=h
   refine Yve 5 rfl (Zss [.int .i64 ((ix x28 x69).spot),.int .u64 ((ix x28 x69).looks)] [.pointer (some ⟨gb39,0,none⟩),.pointer (some ⟨gb41,0,none⟩)] rfl rfl Tryd.func55 rfl rfl rfl fun w480 hL481=>?_) gn
   have hp482:=pmI hL481 (.c 4 rfl (.c 2 rfl (.c 3 rfl (.c 1 rfl .n)))) (.c 0 rfl (.c 5 rfl .n)) (by kernel_rfl)
   refine Calls.mono (Zdp w480 (Fl ([]:List Yva)) ((ix x28 x69).spot) ((ix x28 x69).looks) x75 x70 gb39 71 w.heap.size A76 n77 c78 gb41 47 w.heap.size A71 n72 c73 hL481.env.size h79 hL481.env.size h74 (hL481.hFl hp482 (Yvm [] rfl)) (hL481.into hp482 _) r483 hv484) ?_
   rintro _ w495 ⟨A485,n486,c487,A490,n491,c492,rfl,hM496,h488,h493⟩
   have hL497:=hL481.call hp482 hM496
   refine ⟨_,_,_,rfl,hL497,?_⟩
   refine Yua 6 rfl<|Yux<|Yu4 rfl rfl<|Yu2 0 rfl (Yug rfl rfl rfl) gn rfl<|Yu2 1 rfl (Yu3 rfl) gn rfl<|Yua 2 rfl<|Yv1<|Yvc 5 rfl<|Yvc 1 rfl<|Yvc 2 rfl<|Yvc 3 rfl<|Yvc 4 rfl ?_
   have ih:=Out.inl hO1 h
   exact Yvh [0,1] (ih A490 n491 c492 h493 A485 n486 c487 h488) ⟨rfl,rfl,rfl,rfl,rfl,rfl,rfl,trivial⟩ (.cons_cons _ (.cons_cons _ (.cons_cons _ (.cons_cons _ (.cons_cons _ (.cons _ (.slnil))))))) rfl
  ·have h:=Yum hp475 h
   refine Yur rfl _ rfl ((decide_eq_false hp475))<|Ywa [.code Zlw] rfl rfl<|Yu9 rfl<|Yuw rfl<|Ywm rfl ?_
   have key2:∀ s,Yui (fun (s:(List Int) × (List Int)) o=>Yx8 x1 s.1 s.2 o) s o1→(fun (s:(List Int) × (List Int))=>∀ (A620:Option Addr) (n621:Nat) (c622:Nat) (h623:Ow w.heap.size A620 n621 c622 s.1) (A625:Option Addr) (n626:Nat) (c627:Nat) (h628:Ow w.heap.size A625 n626 c627 s.2),G (Ywr w F g2 Tb3 r) [.code Zet,.inLoop Zet,.inBlock 2,.code Zhb] [(0,.pointer (some ⟨g2,0,none⟩)),(5,.pointer (some ⟨gb39,0,none⟩)),(6,.pointer (some ⟨gb41,0,none⟩)),(7,.func (.func 55) #[] #[.pointer (some ⟨gb39,0,none⟩),.pointer (some ⟨gb41,0,none⟩)])] [.own (.slice A620 n621 c622) 3 1 n621 (s.1.flatMap (eI .i64)),.own (.slice A625 n626 c627) 76 1 n626 (s.2.flatMap (eI .u64)),.box gb41 47 [.slice A620 n621 c622],.box gb39 71 [.slice A625 n626 c627],.box g2 Tb3 [.slice A4 n5 c6,.slice A8 n9 c10,.slice A12 n13 c14,.slice A16 n17 c18,.slice A20 n21 c22,.slice A24 n25 c26]] [Sm w.heap.size F w [[g2]],St w [[g2]]]) s:=by
    intro s hs
    refine Yui.ind (mot:=(fun (s:(List Int) × (List Int))=>∀ (A620:Option Addr) (n621:Nat) (c622:Nat) (h623:Ow w.heap.size A620 n621 c622 s.1) (A625:Option Addr) (n626:Nat) (c627:Nat) (h628:Ow w.heap.size A625 n626 c627 s.2),G (Ywr w F g2 Tb3 r) [.code Zet,.inLoop Zet,.inBlock 2,.code Zhb] [(0,.pointer (some ⟨g2,0,none⟩)),(5,.pointer (some ⟨gb39,0,none⟩)),(6,.pointer (some ⟨gb41,0,none⟩)),(7,.func (.func 55) #[] #[.pointer (some ⟨gb39,0,none⟩),.pointer (some ⟨gb41,0,none⟩)])] [.own (.slice A620 n621 c622) 3 1 n621 (s.1.flatMap (eI .i64)),.own (.slice A625 n626 c627) 76 1 n626 (s.2.flatMap (eI .u64)),.box gb41 47 [.slice A620 n621 c622],.box gb39 71 [.slice A625 n626 c627],.box g2 Tb3 [.slice A4 n5 c6,.slice A8 n9 c10,.slice A12 n13 c14,.slice A16 n17 c18,.slice A20 n21 c22,.slice A24 n25 c26]] [Sm w.heap.size F w [[g2]],St w [[g2]]])) ?_ hs
    clear hs s
    intro s o2 h hO2
    obtain ⟨x619,x624⟩:=s
    show ∀ (A620:Option Addr) (n621:Nat) (c622:Nat) (h623:Ow w.heap.size A620 n621 c622 x619) (A625:Option Addr) (n626:Nat) (c627:Nat) (h628:Ow w.heap.size A625 n626 c627 x624),G (Ywr w F g2 Tb3 r) [.code Zet,.inLoop Zet,.inBlock 2,.code Zhb] [(0,.pointer (some ⟨g2,0,none⟩)),(5,.pointer (some ⟨gb39,0,none⟩)),(6,.pointer (some ⟨gb41,0,none⟩)),(7,.func (.func 55) #[] #[.pointer (some ⟨gb39,0,none⟩),.pointer (some ⟨gb41,0,none⟩)])] [.own (.slice A620 n621 c622) 3 1 n621 (x619.flatMap (eI .i64)),.own (.slice A625 n626 c627) 76 1 n626 (x624.flatMap (eI .u64)),.box gb41 47 [.slice A620 n621 c622],.box gb39 71 [.slice A625 n626 c627],.box g2 Tb3 [.slice A4 n5 c6,.slice A8 n9 c10,.slice A12 n13 c14,.slice A16 n17 c18,.slice A20 n21 c22,.slice A24 n25 c26]] [Sm w.heap.size F w [[g2]],St w [[g2]]]
    intro A620 n621 c622 h623 A625 n626 c627 h628
    have h:Yx8 x1 x619 x624 o2:=h
    unfold Yx8 at h
    refine Yu9 rfl<|Yu9 rfl<|Yu4 rfl rfl<|Yu2 0 rfl (Yue 2 Zew rfl rfl rfl) gn rfl<|Yu2 1 rfl (Yuo un_47 rfl h623.hq) gn rfl<|Yu2 2 rfl (Yug rfl rfl rfl) gn rfl<|Yua 3 rfl ?_
    by_cases hp749:(x619.length:Int) > 0
    ·have h:=Yul hp749 h
     refine Yv4 rfl _ rfl ((decide_eq_true hp749))<|Yv2 rfl<|Yuw rfl<|Yu9 rfl<|Yu4 rfl rfl<|Yu2 0 rfl (Yue 2 Zew rfl rfl rfl) gn rfl<|Yu2 1 rfl (Yue 2 Zew rfl rfl rfl) gn rfl<|Yu2 2 rfl (Yuo un_47 rfl h623.hq) gn rfl<|Yu2 3 rfl (Yug rfl rfl rfl) gn rfl ?_
     obtain ⟨hb750,h⟩:=h
     refine Yu2 4 rfl (Yyn Zfx rfl rfl h623 hb750) gn rfl<|Yu2 5 rfl (Zbb (.int .i64 (ix x619 (w64 ((x619.length:Int) - 1)))) 0 Yvt rfl rfl (Zcj (hlI .i64) hb750 rfl)) gn rfl<|Yu2 6 rfl (Yu7 rfl) gn rfl<|Yua 7 rfl<|Yu9 rfl<|Yu4 rfl rfl<|Yu2 0 rfl (Yue 2 Zew rfl rfl rfl) gn rfl<|Yu2 1 rfl (Yue 2 Zew rfl rfl rfl) gn rfl<|Yu2 2 rfl (Yuo un_47 rfl h623.hq) gn rfl<|Yu2 3 rfl (Yug rfl rfl rfl) gn rfl ?_
     obtain ⟨hb751,h⟩:=h
     obtain ⟨x753,hv754,h⟩:=h
     have hle752:(w64 ((x619.length:Int) - 1):Int).toNat≤n621:=by have q:=hb751; have q1:=h623.hq; omega
     have h755:Ow w.heap.size A620 (w64 ((x619.length:Int) - 1):Int).toNat c622 x753:=Ow.w (Ow.cut h623 hle752) (by rw [hv754])
     refine Yu2 4 rfl (Zf5 (i:=w64 ((x619.length:Int) - 1)) Zfx rfl rfl (by have q:=hb751; have q1:=h623.hq; have q2:=h623.hn; omega) h623.hn rfl) gn rfl ?_
     refine Yve 5 rfl (Za4 (vs:=[.slice A620 ((w64 ((x619.length:Int) - 1):Int).toNat) c622]) (cs':=[.slice A620 ((w64 ((x619.length:Int) - 1):Int).toNat) c622]) (M':=[.own (.slice A620 n621 c622) 3 1 n621 (x619.flatMap (eI .i64)),.own (.slice A625 n626 c627) 76 1 n626 (x624.flatMap (eI .u64)),.box gb41 47 [.slice A620 ((w64 ((x619.length:Int) - 1):Int).toNat) c622],.box gb39 71 [.slice A625 n626 c627],.box g2 Tb3 [.slice A4 n5 c6,.slice A8 n9 c10,.slice A12 n13 c14,.slice A16 n17 c18,.slice A20 n21 c22,.slice A24 n25 c26]]) 2 Zqf rfl rfl rfl rfl rfl rfl rfl rfl rfl ?_) gn
     refine Yua 6 rfl<|Yu9 rfl<|Yu4 rfl rfl<|Yu2 0 rfl (Yu3 rfl) gn rfl<|Yu2 1 rfl (Yuy rfl) gn rfl<|Yu2 2 rfl (Yub Ze6 rfl) gn rfl<|Yu2 3 rfl (Yue 4 Zi8 rfl rfl rfl) gn rfl<|Yu2 4 rfl (Yu3 rfl) gn rfl ?_
     obtain ⟨hb756,h⟩:=h
     have hr757:=Rw.readF (s:=Sm w.heap.size F w [[g2]]) (hl:=Yx6) (h1:=Zct) h19 hb756
     refine Yu2 5 rfl (Yv7 (s:=Sm w.heap.size F w [[g2]]) Zjm rfl rfl h19 hb756) gn rfl<|Yu2 6 rfl (Zdb (Sm w.heap.size F w [[g2]]) ld_107 rfl hr757 rfl (me 0 rfl)) gn rfl ?_
     refine Yve 7 rfl (Yye [.int .i64 0,.int .i64 0,.int .i64 0,.int .u64 0,.bool false] zr_107 rfl fun gb758=>?_) gn
     refine Yve 8 rfl (Za4 (vs:=[.int .i64 ((ix x1.spots (ix x619 (w64 ((x619.length:Int) - 1)))).prod),.int .i64 ((ix x1.spots (ix x619 (w64 ((x619.length:Int) - 1)))).dot),.int .i64 ((ix x1.spots (ix x619 (w64 ((x619.length:Int) - 1)))).sym),.int .u64 ((ix x1.spots (ix x619 (w64 ((x619.length:Int) - 1)))).rest),.bool ((ix x1.spots (ix x619 (w64 ((x619.length:Int) - 1)))).open_)]) (cs':=[.int .i64 ((ix x1.spots (ix x619 (w64 ((x619.length:Int) - 1)))).prod),.int .i64 ((ix x1.spots (ix x619 (w64 ((x619.length:Int) - 1)))).dot),.int .i64 ((ix x1.spots (ix x619 (w64 ((x619.length:Int) - 1)))).sym),.int .u64 ((ix x1.spots (ix x619 (w64 ((x619.length:Int) - 1)))).rest),.bool ((ix x1.spots (ix x619 (w64 ((x619.length:Int) - 1)))).open_)]) (M':=[.box gb758 107 [.int .i64 ((ix x1.spots (ix x619 (w64 ((x619.length:Int) - 1)))).prod),.int .i64 ((ix x1.spots (ix x619 (w64 ((x619.length:Int) - 1)))).dot),.int .i64 ((ix x1.spots (ix x619 (w64 ((x619.length:Int) - 1)))).sym),.int .u64 ((ix x1.spots (ix x619 (w64 ((x619.length:Int) - 1)))).rest),.bool ((ix x1.spots (ix x619 (w64 ((x619.length:Int) - 1)))).open_)],.own (.slice A620 n621 c622) 3 1 n621 (x619.flatMap (eI .i64)),.own (.slice A625 n626 c627) 76 1 n626 (x624.flatMap (eI .u64)),.box gb41 47 [.slice A620 ((w64 ((x619.length:Int) - 1):Int).toNat) c622],.box gb39 71 [.slice A625 n626 c627],.box g2 Tb3 [.slice A4 n5 c6,.slice A8 n9 c10,.slice A12 n13 c14,.slice A16 n17 c18,.slice A20 n21 c22,.slice A24 n25 c26]]) 0 sz_107 rfl rfl rfl rfl rfl rfl rfl rfl rfl ?_) gn
     refine Yua 9 rfl<|Yu9 rfl<|Yu9 rfl ?_
     have hns:Region.noSelect (Code.ops q39c47)=true:=by kernel_rfl
     refine Yvr [] 9 rfl rfl mix rfl (.c 0 rfl (.c 1 rfl .n))<|wfv 0 rfl (Yub Zkn rfl) gn hns rfl<|wfv 1 rfl (Yue 0 Yvt rfl rfl rfl) gn hns rfl<|wfv 2 rfl (Yu3 rfl) gn hns rfl<|wfv 3 rfl (Yuy rfl) gn hns rfl<|wfv 4 rfl (Yub Zcc rfl) gn hns rfl<|wfv 5 rfl (Yub Yw7 rfl) gn hns rfl<|wfv 6 rfl (Yue 5 Yz4 rfl rfl rfl) gn hns rfl<|wfv 7 rfl (Yuo Yze rfl h7.hq) gn hns rfl<|wfv 8 rfl (Yug rfl rfl rfl) gn hns rfl<|Yvx (by kernel_rfl) ?_
     by_cases hp760:(ix x1.spots (ix x619 (w64 ((x619.length:Int) - 1)))).sym < (x1.g.terms.length:Int)
     ·have h:=Yul hp760 h
      refine Yv4 rfl _ rfl ((decide_eq_true hp760))<|Ywa [.inLoop Zet,.inBlock 2,.code Zhb] rfl rfl<|Yv1 ?_
      have h761:Ow w.heap.size A620 ((w64 ((x619.length:Int) - 1):Int).toNat) c622 x753:=(Ow.w (Ow.cut h623 hle752) (by rw [hv754]))
      refine Zq0 (j:=1) (m:=((w64 ((x619.length:Int) - 1):Int).toNat)) (cells':=x753.flatMap (eI .i64)) rfl hle752 (by rw [Zkx (hlI .i64),hv754]) ?_
      have ih:=Out.inl hO2 h
      exact Yvh [0,1] (ih A620 ((w64 ((x619.length:Int) - 1):Int).toNat) c622 h761 A625 n626 c627 h628) ⟨rfl,rfl,rfl,rfl,trivial⟩ (.cons _ (.cons_cons _ (.cons_cons _ (.cons_cons _ (.cons_cons _ (.cons_cons _ (.slnil))))))) rfl
     ·have h:=Yum hp760 h
      refine Yur rfl _ rfl ((decide_eq_false hp760))<|Yv2 rfl<|Yu9 rfl<|Yu4 rfl rfl<|Yu2 0 rfl (Yub Zhj rfl) gn rfl<|Yu2 1 rfl (Yue 0 Zdt rfl rfl rfl) gn rfl<|Yu2 2 rfl (Yu7 rfl) gn rfl<|Yua 3 rfl<|Yu9 rfl<|Yu9 rfl<|Yu4 rfl rfl<|Yu2 0 rfl (Yub Ziq rfl) gn rfl ?_
      refine Yu2 1 rfl (Yue 0 Zlq rfl rfl rfl) gn rfl<|Yua 2 rfl ?_
      have j3:∀ (x765:Int) (h:Yxz x1 x619 x753 x624 x765 o2) (A766:Option Addr) (n767:Nat) (c768:Nat) (h769:Ow w.heap.size A766 n767 c768 x753),G (Ywr w F g2 Tb3 r) [.code Zrn,.inBlock 3,.inLoop Zet,.inBlock 2,.code Zhb] [(0,.pointer (some ⟨g2,0,none⟩)),(5,.pointer (some ⟨gb39,0,none⟩)),(6,.pointer (some ⟨gb41,0,none⟩)),(7,.func (.func 55) #[] #[.pointer (some ⟨gb39,0,none⟩),.pointer (some ⟨gb41,0,none⟩)]),(11,.pointer (some ⟨gb758,0,none⟩)),(12,.int .u64 x765)] [.box gb758 107 [.int .i64 ((ix x1.spots (ix x619 (w64 ((x619.length:Int) - 1)))).prod),.int .i64 ((ix x1.spots (ix x619 (w64 ((x619.length:Int) - 1)))).dot),.int .i64 ((ix x1.spots (ix x619 (w64 ((x619.length:Int) - 1)))).sym),.int .u64 ((ix x1.spots (ix x619 (w64 ((x619.length:Int) - 1)))).rest),.bool ((ix x1.spots (ix x619 (w64 ((x619.length:Int) - 1)))).open_)],.own (.slice A766 n767 c768) 3 1 n767 (x753.flatMap (eI .i64)),.own (.slice A625 n626 c627) 76 1 n626 (x624.flatMap (eI .u64)),.box gb41 47 [.slice A766 n767 c768],.box gb39 71 [.slice A625 n626 c627],.box g2 Tb3 [.slice A4 n5 c6,.slice A8 n9 c10,.slice A12 n13 c14,.slice A16 n17 c18,.slice A20 n21 c22,.slice A24 n25 c26]] [Sm w.heap.size F w [[g2]],St w [[g2]]]:=by
       intro x765 h A766 n767 c768 h769
       unfold Yxz at h
       refine Yu9 rfl ?_
       obtain ⟨hb770,h⟩:=h
       have hns:Region.noSelect (Code.ops q39c59)=true:=by kernel_rfl
       refine Yvr [] 17 rfl rfl mix rfl (.c 0 rfl (.c 1 rfl .n))<|wfv 0 rfl (Yu3 rfl) gn hns rfl<|wfv 1 rfl (Yuy rfl) gn hns rfl<|wfv 2 rfl (Yub Znm rfl) gn hns rfl<|wfv 3 rfl (Yue 5 ld_42 rfl rfl rfl) gn hns rfl<|wfv 4 rfl (Yub Zkn rfl) gn hns rfl<|wfv 5 rfl (Yue 0 Yvt rfl rfl rfl) gn hns rfl<|wfv 6 rfl (Yu3 rfl) gn hns rfl<|wfv 7 rfl (Yuy rfl) gn hns rfl<|wfv 8 rfl (Yub Zcc rfl) gn hns rfl<|wfv 9 rfl (Yub Yw7 rfl) gn hns rfl<|wfv 10 rfl (Yue 5 Yz4 rfl rfl rfl) gn hns rfl ?_
       refine wfv 11 rfl (Yuo Yze rfl h7.hq) gn hns rfl<|wfv 12 rfl (Yug rfl rfl rfl) gn hns rfl ?_
       obtain ⟨ce786,hK787,hr785⟩:=Rw.read (s:=Sm w.heap.size F w [[g2]]) h27 hb770
       obtain ⟨A788,n789,c790,rfl,h791⟩:=hK787
       refine wfv 13 rfl (Yv7 (s:=Sm w.heap.size F w [[g2]]) Zru rfl rfl h27 hb770) gn hns rfl<|wfv 14 rfl (Yvj (kk:=(w64 (((ix x1.spots (ix x619 (w64 ((x619.length:Int) - 1)))).sym) - (x1.g.terms.length:Int)):Int).toNat * 1) (j:=0) (Sm w.heap.size F w [[g2]]) Zew rfl hr785 rfl (me 0 rfl)) gn hns rfl<|wfv 15 rfl (Yuo un_47 rfl h791.hq) gn hns rfl<|wfv 16 rfl (Yu3 rfl) gn hns rfl<|Yvx (by kernel_rfl)<|Yuw rfl<|Ywm rfl ?_
       have key4:∀ s,Yui (fun (s:Int × (List Int) × (List Int)) o=>Yxf x1 x619 x765 s.1 s.2.1 s.2.2 o) s o2→(fun (s:Int × (List Int) × (List Int))=>∀ (A816:Option Addr) (n817:Nat) (c818:Nat) (h819:Ow w.heap.size A816 n817 c818 s.2.1) (A821:Option Addr) (n822:Nat) (c823:Nat) (h824:Ow w.heap.size A821 n822 c823 s.2.2),G (Ywr w F g2 Tb3 r) [.code Zm2,.inLoop Zm2,.inBlock 4,.inBlock 3,.inLoop Zet,.inBlock 2,.code Zhb] [(0,.pointer (some ⟨g2,0,none⟩)),(5,.pointer (some ⟨gb39,0,none⟩)),(6,.pointer (some ⟨gb41,0,none⟩)),(7,.func (.func 55) #[] #[.pointer (some ⟨gb39,0,none⟩),.pointer (some ⟨gb41,0,none⟩)]),(12,.int .u64 x765),(89,.slice A788 n789 c790),(90,.int .i64 ((ix x1.of (w64 (((ix x1.spots (ix x619 (w64 ((x619.length:Int) - 1)))).sym) - (x1.g.terms.length:Int)))).length:Int)),(91,.int .i64 s.1)] [.own (.slice A816 n817 c818) 3 1 n817 (s.2.1.flatMap (eI .i64)),.own (.slice A821 n822 c823) 76 1 n822 (s.2.2.flatMap (eI .u64)),.box gb41 47 [.slice A816 n817 c818],.box gb39 71 [.slice A821 n822 c823],.box g2 Tb3 [.slice A4 n5 c6,.slice A8 n9 c10,.slice A12 n13 c14,.slice A16 n17 c18,.slice A20 n21 c22,.slice A24 n25 c26]] [Sm w.heap.size F w [[g2]],St w [[g2]]]) s:=by
        intro s hs
        refine Yui.ind (mot:=(fun (s:Int × (List Int) × (List Int))=>∀ (A816:Option Addr) (n817:Nat) (c818:Nat) (h819:Ow w.heap.size A816 n817 c818 s.2.1) (A821:Option Addr) (n822:Nat) (c823:Nat) (h824:Ow w.heap.size A821 n822 c823 s.2.2),G (Ywr w F g2 Tb3 r) [.code Zm2,.inLoop Zm2,.inBlock 4,.inBlock 3,.inLoop Zet,.inBlock 2,.code Zhb] [(0,.pointer (some ⟨g2,0,none⟩)),(5,.pointer (some ⟨gb39,0,none⟩)),(6,.pointer (some ⟨gb41,0,none⟩)),(7,.func (.func 55) #[] #[.pointer (some ⟨gb39,0,none⟩),.pointer (some ⟨gb41,0,none⟩)]),(12,.int .u64 x765),(89,.slice A788 n789 c790),(90,.int .i64 ((ix x1.of (w64 (((ix x1.spots (ix x619 (w64 ((x619.length:Int) - 1)))).sym) - (x1.g.terms.length:Int)))).length:Int)),(91,.int .i64 s.1)] [.own (.slice A816 n817 c818) 3 1 n817 (s.2.1.flatMap (eI .i64)),.own (.slice A821 n822 c823) 76 1 n822 (s.2.2.flatMap (eI .u64)),.box gb41 47 [.slice A816 n817 c818],.box gb39 71 [.slice A821 n822 c823],.box g2 Tb3 [.slice A4 n5 c6,.slice A8 n9 c10,.slice A12 n13 c14,.slice A16 n17 c18,.slice A20 n21 c22,.slice A24 n25 c26]] [Sm w.heap.size F w [[g2]],St w [[g2]]])) ?_ hs
        clear hs s
        intro s o3 h hO3
        obtain ⟨x814,x815,x820⟩:=s
        show ∀ (A816:Option Addr) (n817:Nat) (c818:Nat) (h819:Ow w.heap.size A816 n817 c818 x815) (A821:Option Addr) (n822:Nat) (c823:Nat) (h824:Ow w.heap.size A821 n822 c823 x820),G (Ywr w F g2 Tb3 r) [.code Zm2,.inLoop Zm2,.inBlock 4,.inBlock 3,.inLoop Zet,.inBlock 2,.code Zhb] [(0,.pointer (some ⟨g2,0,none⟩)),(5,.pointer (some ⟨gb39,0,none⟩)),(6,.pointer (some ⟨gb41,0,none⟩)),(7,.func (.func 55) #[] #[.pointer (some ⟨gb39,0,none⟩),.pointer (some ⟨gb41,0,none⟩)]),(12,.int .u64 x765),(89,.slice A788 n789 c790),(90,.int .i64 ((ix x1.of (w64 (((ix x1.spots (ix x619 (w64 ((x619.length:Int) - 1)))).sym) - (x1.g.terms.length:Int)))).length:Int)),(91,.int .i64 x814)] [.own (.slice A816 n817 c818) 3 1 n817 (x815.flatMap (eI .i64)),.own (.slice A821 n822 c823) 76 1 n822 (x820.flatMap (eI .u64)),.box gb41 47 [.slice A816 n817 c818],.box gb39 71 [.slice A821 n822 c823],.box g2 Tb3 [.slice A4 n5 c6,.slice A8 n9 c10,.slice A12 n13 c14,.slice A16 n17 c18,.slice A20 n21 c22,.slice A24 n25 c26]] [Sm w.heap.size F w [[g2]],St w [[g2]]]
        intro A816 n817 c818 h819 A821 n822 c823 h824
        have h:Yxf x1 x619 x765 x814 x815 x820 o3:=h
        unfold Yxf at h
        refine Yu9 rfl<|Yu4 rfl rfl<|Yu2 0 rfl (Yug rfl rfl rfl) gn rfl<|Yua 1 rfl<|Yu9 rfl ?_
        by_cases hp846:x814 < ((ix x1.of (w64 (((ix x1.spots (ix x619 (w64 ((x619.length:Int) - 1)))).sym) - (x1.g.terms.length:Int)))).length:Int)
        ·have h:=Yul hp846 h
         refine Yv4 rfl _ rfl ((decide_eq_true hp846))<|Yv2 rfl<|Yu9 rfl<|Yuw rfl<|Yu9 rfl<|Yu4 rfl rfl ?_
         obtain ⟨hb847,h⟩:=h
         have hr848:=Rw.readF (s:=Sm w.heap.size F w [[g2]]) (hl:=(hlI .i64)) (h1:=(Yya .i64)) h791 hb847
         refine Yu2 0 rfl (Yv7 (s:=Sm w.heap.size F w [[g2]]) Zfx rfl rfl h791 hb847) gn rfl<|Yu2 1 rfl (Yvj (kk:=(x814:Int).toNat * 1) (j:=0) (Sm w.heap.size F w [[g2]]) Yvt rfl hr848 rfl (me 0 rfl)) gn rfl<|Yu2 2 rfl (Yu7 rfl) gn rfl<|Yua 3 rfl<|Yu4 rfl rfl<|Yu2 0 rfl (Yu3 rfl) gn rfl<|Yu2 1 rfl (Yu3 rfl) gn rfl<|Yu2 2 rfl (Yu3 rfl) gn rfl ?_
         obtain ⟨r852,hv853,h⟩:=h
         refine Yve 3 rfl (Zss [.int .i64 (ix (ix x1.of (w64 (((ix x1.spots (ix x619 (w64 ((x619.length:Int) - 1)))).sym) - (x1.g.terms.length:Int)))) x814),.int .u64 x765] [.pointer (some ⟨gb39,0,none⟩),.pointer (some ⟨gb41,0,none⟩)] rfl rfl Tryd.func55 rfl rfl rfl fun w849 hL850=>?_) gn
         have hp851:=pmI hL850 (.c 3 rfl (.c 1 rfl (.c 2 rfl (.c 0 rfl .n)))) (.c 4 rfl .n) (by kernel_rfl)
         refine Calls.mono (Zdp w849 (Fl ([]:List Yva)) (ix (ix x1.of (w64 (((ix x1.spots (ix x619 (w64 ((x619.length:Int) - 1)))).sym) - (x1.g.terms.length:Int)))) x814) x765 x820 x815 gb39 71 w.heap.size A821 n822 c823 gb41 47 w.heap.size A816 n817 c818 hL850.env.size h824 hL850.env.size h819 (hL850.hFl hp851 (Yvm [] rfl)) (hL850.into hp851 _) r852 hv853) ?_
         rintro _ w864 ⟨A854,n855,c856,A859,n860,c861,rfl,hM865,h857,h862⟩
         have hL866:=hL850.call hp851 hM865
         refine ⟨_,_,_,rfl,hL866,?_⟩
         refine Yua 4 rfl<|Yux<|Yu4 rfl rfl<|Yu2 0 rfl (Yug rfl rfl rfl) gn rfl<|Yu2 1 rfl (Yu3 rfl) gn rfl<|Yua 2 rfl<|Yv1<|Yvc 4 rfl<|Yvc 1 rfl<|Yvc 2 rfl<|Yvc 3 rfl<|Yvc 4 rfl ?_
         have ih:=Out.inl hO3 h
         exact Yvh [0,1] (ih A859 n860 c861 h862 A854 n855 c856 h857) ⟨rfl,rfl,rfl,rfl,rfl,rfl,rfl,rfl,trivial⟩ (.cons_cons _ (.cons_cons _ (.cons_cons _ (.cons_cons _ (.cons_cons _ (.slnil)))))) rfl
        ·have h:=Yum hp846 h
         refine Yur rfl _ rfl ((decide_eq_false hp846))<|Ywa [.inBlock 3,.inLoop Zet,.inBlock 2,.code Zhb] rfl rfl<|Yux<|Yv1 ?_
         have h:=Out.inr hO3 h
         have ih:=Out.inl hO2 h
         exact Yvh [0,1] (ih A816 n817 c818 h819 A821 n822 c823 h824) ⟨rfl,rfl,rfl,rfl,trivial⟩ (.cons_cons _ (.cons_cons _ (.cons_cons _ (.cons_cons _ (.cons_cons _ (.slnil)))))) rfl
       exact Yvh [0,1] (key4 _ h A766 n767 c768 h769 A625 n626 c627 h628) ⟨rfl,rfl,rfl,rfl,rfl,rfl,rfl,rfl,trivial⟩ (.cons _ (.cons_cons _ (.cons_cons _ (.cons_cons _ (.cons_cons _ (.cons_cons _ (.slnil))))))) rfl
      by_cases hp762:((ix x1.spots (ix x619 (w64 ((x619.length:Int) - 1)))).open_)=true
      ·have h:=Yul hp762 h
       refine Yv4 rfl _ rfl (hp762)<|Yu4 rfl rfl<|Yu2 0 rfl (Yu3 rfl) gn rfl<|Yu2 1 rfl (Yue 4 Zqu rfl rfl rfl) gn rfl<|Yu2 2 rfl (Yu3 rfl) gn rfl ?_
       obtain ⟨hb867,h⟩:=h
       refine Yu2 3 rfl (Yyn Ziy rfl rfl h628 hb867) gn rfl<|Yu2 4 rfl (Zbb (.int .u64 (ix x624 (ix x619 (w64 ((x619.length:Int) - 1))))) 2 Zdt rfl rfl (Zcj (hlI .u64) hb867 rfl)) gn rfl<|Yu2 5 rfl (Yug rfl rfl rfl) gn rfl<|Yu2 6 rfl (Yu7 rfl) gn rfl<|Yua 7 rfl ?_
       have h868:Ow w.heap.size A620 ((w64 ((x619.length:Int) - 1):Int).toNat) c622 x753:=(Ow.w (Ow.cut h623 hle752) (by rw [hv754]))
       refine Zq0 (j:=1) (m:=((w64 ((x619.length:Int) - 1):Int).toNat)) (cells':=x753.flatMap (eI .i64)) rfl hle752 (by rw [Zkx (hlI .i64),hv754]) ?_
       exact Yvh [0,1] (j3 (bits .or .u64 ((ix x1.spots (ix x619 (w64 ((x619.length:Int) - 1)))).rest) (ix x624 (ix x619 (w64 ((x619.length:Int) - 1))))) h A620 ((w64 ((x619.length:Int) - 1):Int).toNat) c622 h868) ⟨rfl,rfl,rfl,rfl,rfl,rfl,trivial⟩ (.cons_cons _ (.cons_cons _ (.cons_cons _ (.cons_cons _ (.cons_cons _ (.cons_cons _ (.slnil))))))) rfl
      ·have h:=Yum hp762 h
       refine Yur rfl _ rfl ((bf hp762))<|Yv2 rfl ?_
       have h869:Ow w.heap.size A620 ((w64 ((x619.length:Int) - 1):Int).toNat) c622 x753:=(Ow.w (Ow.cut h623 hle752) (by rw [hv754]))
       refine Zq0 (j:=1) (m:=((w64 ((x619.length:Int) - 1):Int).toNat)) (cells':=x753.flatMap (eI .i64)) rfl hle752 (by rw [Zkx (hlI .i64),hv754]) ?_
       exact Yvh [0,1] (j3 ((ix x1.spots (ix x619 (w64 ((x619.length:Int) - 1)))).rest) h A620 ((w64 ((x619.length:Int) - 1):Int).toNat) c622 h869) ⟨rfl,rfl,rfl,rfl,rfl,rfl,trivial⟩ (.cons_cons _ (.cons_cons _ (.cons_cons _ (.cons_cons _ (.cons_cons _ (.cons_cons _ (.slnil))))))) rfl
    ·have h:=Yum hp749 h
     refine Yur rfl _ rfl ((decide_eq_false hp749))<|Ywa [.code Zhb] rfl rfl<|Yu9 rfl<|Yu4 rfl rfl<|Yu2 0 rfl (Yue 3 Zqu rfl rfl rfl) gn rfl<|Yu2 1 rfl (Yu7 rfl) gn rfl<|Yua 2 rfl ?_
     have h:=Out.inr hO2 h
     have h:=Out.inr hO1 h
     refine Yvb [.slice A625 n626 c627] rfl Tryd.func39 rfl (.tmp rfl (.nil)) fun wr hLr=>?_
     have hMr:=hLr.pkI (.c 4 rfl (.c 1 rfl .n)) (.c 0 rfl (.c 2 rfl (.c 3 rfl .n))) (by kernel_rfl) (.c 1 rfl .n)
     have hMi:=hLr.selI (.c 4 rfl (.c 1 rfl .n))
     show Zdu w F g2 Tb3 r (.returned (Yvl [.slice A625 n626 c627])) wr
     rw [h]
     exact ⟨A625,n626,c627,A4,n5,c6,A8,n9,c10,A12,n13,c14,A16,n17,c18,A20,n21,c22,A24,n25,c26,rfl,hMr,h628,(hLr.outR (s:=Sm w.heap.size F w [[g2]]) hMi (me 0 rfl) Sm.ok h7),(hLr.outR (s:=Sm w.heap.size F w [[g2]]) hMi (me 0 rfl) Sm.ok h11),(hLr.outR (s:=Sm w.heap.size F w [[g2]]) hMi (me 0 rfl) Sm.ok h15),(hLr.outR (s:=Sm w.heap.size F w [[g2]]) hMi (me 0 rfl) Sm.ok h19),(hLr.outR (s:=Sm w.heap.size F w [[g2]]) hMi (me 0 rfl) Sm.ok h23),(hLr.outR (s:=Sm w.heap.size F w [[g2]]) hMi (me 0 rfl) Sm.ok h27)⟩
   exact Yvh [0,1] (key2 _ h A71 n72 c73 h74 A76 n77 c78 h79) ⟨rfl,rfl,rfl,rfl,trivial⟩ (.cons_cons _ (.cons_cons _ (.cons_cons _ (.cons_cons _ (.cons_cons _ (.slnil)))))) rfl
 refine Zf4 3 1<|Yvc 4 rfl<|Yvc 3 rfl<|Yvc 3 rfl<|Yvc 4 rfl<|Yvc 4 rfl ?_
 exact Yvh [0,1] (key1 _ h none 0 0 (Ow.nil (z:=w.heap.size)) A34 (((x1.spots.length:Int):Int).toNat) (((x1.spots.length:Int):Int).toNat) h35) ⟨rfl,rfl,rfl,rfl,rfl,rfl,rfl,trivial⟩ (.cons_cons _ (.cons_cons _ (.cons_cons _ (.cons_cons _ (.cons_cons _ (.slnil)))))) rfl
end Go.Proofs.YtadcichlnacagaaDoor.K
