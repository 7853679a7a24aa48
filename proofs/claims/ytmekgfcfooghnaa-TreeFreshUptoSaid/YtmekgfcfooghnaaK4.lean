/- What the machine's calls do, function by function, printed by my own tool. Condition of each: its relation holds of the answer, and what is handed in lies in memory as told. -/
import Derived.Test.YtmekgfcfooghnaaK3
set_option linter.unusedVariables false
set_option maxRecDepth 100000
set_option maxHeartbeats 4000000
namespace Go.Proofs.Ytmekgfcfooghnaa.K
open Go.Proofs.Ytmekgfcfooghnaa.B Go.Proofs.Ytmekgfcfooghnaa.R Go.RowKit
noncomputable abbrev Xu0:=Code.snd (Code.snd (Code.snd (Code.snd (Code.snd (Code.snd (Xo5 Try.f53))))))
noncomputable abbrev Xso:=Code.fst (Code.fst (Code.snd (Code.fst (Code.snd (Code.snd (Code.snd (Code.snd (Code.snd (Xo5 Try.f53)))))))))
noncomputable abbrev Xwl:=Code.snd (Code.snd (Code.snd Xso))
noncomputable abbrev q53c33:=Code.snd (Code.snd (Code.fst (Code.fst (Code.snd (Code.snd Xso)))))
noncomputable abbrev q53c39:=Code.snd q53c33
noncomputable abbrev Ygf:=Code.snd (Code.snd q53c39)
noncomputable abbrev Ygb:=Code.snd Ygf
noncomputable abbrev q53c55:=Code.snd (Code.fst Ygf)
noncomputable abbrev Xzb:=Code.fst (Code.fst (Code.snd Ygb))
noncomputable abbrev q53c66:=Code.fst (Code.fst Xzb)
abbrev Xw0 (w:World) (F:Nat→Prop) (r:ByteArray):Ending→World→Prop:=fun e w'=>e=.returned (.string r)∧B.Loc w w' [] [St w []]
noncomputable abbrev Xq6 (w:World) (F:Nat→Prop) (r:ByteArray):Cx:=⟨Try.prog,53,Try.f53,79,Xw0 w F  r,w⟩
theorem Ybk (w:World) (F:Nat→Prop) (x1:List Xm4) (A2:Option Addr) (n3:Nat) (c4:Nat) (h5:Rw Xml w (St w []).av A2 n3 c4 x1) (hF:∀ b,F b→b < w.heap.size∧∀ o ∈ ([]:List (List Nat)),b ∉ o) (hL0:B.Loc w w [] [Sm w.heap.size F w [],St w []]) (r:ByteArray) (h:Xww x1 r):Calls Try.prog 53 #[.slice A2 n3 c4] w (Xw0 w F  r):=by
 unfold Xww at h
 refine Xms (vs:=[.slice A2 n3 c4]) 79 Try.func53 rfl Try.ntmps53 rfl hL0 ?_
 show G (Xq6 w F r) _ _ _ _
 refine Xmb rfl<|Xm6 rfl rfl<|Xm5 0 rfl (Xma rfl) gn rfl<|Xmc 1 rfl<|Xmb rfl<|Xm6 rfl rfl<|Xm5 0 rfl (Xm8 rfl) gn rfl ?_
 obtain ⟨r9,hv10,h⟩:=h
 refine Xmr 1 rfl (Xmz [.slice A2 n3 c4] rfl Try.func44 rfl rfl rfl fun w6 hL7=>?_) gn
 have hp8:=pmI hL7 .n .n (by kernel_rfl)
 refine Calls.mono (Xt4 w6 (Fl ([St w []]:List Xmq)) x1 A2 n3 c4 (Rw.mono h5 (hL7.toFl (me 1 rfl) (me 0 rfl))) (hL7.hFl hp8 (Xmt [1] rfl)) (hL7.into hp8 _) r9 hv10) ?_
 rintro _ w25 ⟨A15,n16,c17,A20,n21,c22,A11,n12,c13,rfl,hM26,h18,h23,h14⟩
 obtain ⟨sv29,hL27,hv28⟩:=hL7.callN (Sl:=([St w []]:List Xmq)) hp8 hM26 (Xmt [1] rfl)
 have h14:At Xml (sv29) A11 n12 c13 r9.nodes:=Rw.mono h14 hv28
 refine ⟨_,_,_,rfl,hL27,?_⟩
 refine Xmr 2 rfl (Xov [.slice none 0 0,.slice none 0 0,.slice none 0 0,.bool false] Xzk rfl fun gb30=>?_) gn
 refine Xmr 3 rfl (Xp9 (vs:=[.slice A11 n12 c13,.slice A15 n16 c17,.slice A20 n21 c22,.bool r9.ok]) (cs':=[.slice A11 n12 c13,.slice A15 n16 c17,.slice A20 n21 c22,.bool r9.ok]) (M':=[.box gb30 32 [.slice A11 n12 c13,.slice A15 n16 c17,.slice A20 n21 c22,.bool r9.ok],.own (.slice A15 n16 c17) 3 1 n16 (r9.parent.flatMap (eI .i64)),.own (.slice A20 n21 c22) 3 1 n21 (r9.end_.flatMap (eI .i64))]) 0 Xy9 rfl rfl rfl rfl rfl rfl rfl rfl rfl ?_) gn
 refine Xmc 4 rfl<|Xmb rfl<|Xmb rfl<|Xm6 rfl rfl<|Xm5 0 rfl (Xmm Ybl rfl) gn rfl<|Xm5 1 rfl (Xmy 0 ld_4 rfl rfl rfl) gn rfl<|Xm5 2 rfl (Xuv rfl) gn rfl<|Xmc 3 rfl ?_
 by_cases hp32:r9.ok=true
 ·have h:=Xmh hp32 h
  refine Xmp rfl _ rfl ((nf hp32))<|Xn9 rfl<|Xmb rfl<|Xm6 rfl rfl ?_
  refine Xmr 0 rfl (Xov [.pointer none,.slice none 0 0] zr_123 rfl fun gb33=>?_) gn
  refine Xmc 1 rfl<|Xmb rfl<|Xm6 rfl rfl<|Xm5 0 rfl (Xma rfl) gn rfl<|Xmc 1 rfl<|Xmb rfl<|Xmb rfl<|Xm6 rfl rfl<|Xm5 0 rfl (Xm8 rfl) gn rfl<|Xm5 1 rfl (Xn0 Xum rfl h5.hq) gn rfl<|Xm5 2 rfl (Xm8 rfl) gn rfl<|Xmc 3 rfl ?_
  refine Xn8 rfl<|Xqc rfl ?_
  have key1:∀ s,Xmi (fun (s:(List Int) × Int × Bool × (List Int)) o=>Xpc x1 r9 s.1 s.2.1 s.2.2.1 s.2.2.2 o) s r→(fun (s:(List Int) × Int × Bool × (List Int))=>∀ (A263:Option Addr) (n264:Nat) (c265:Nat) (h266:Ow w.heap.size A263 n264 c265 s.1) (A270:Option Addr) (n271:Nat) (c272:Nat) (h273:Ow w.heap.size A270 n271 c272 s.2.2.2),G (Xq6 w F r) [.code Xso,.inLoop Xso,.inBlock 0,.code Xu0] [(3,.pointer (some ⟨gb30,0,none⟩)),(4,.pointer (some ⟨gb33,0,none⟩)),(5,.slice A263 n264 c265),(14,.slice A2 n3 c4),(15,.int .i64 (x1.length:Int)),(16,.int .i64 s.2.1)] [.own (.slice A263 n264 c265) 3 1 n264 (s.1.flatMap (eI .i64)),.own (.slice A270 n271 c272) 5 1 n271 (s.2.2.2.flatMap (eI .u8)),.box gb33 123 [Xrd gb33 s.2.2.1,.slice A270 n271 c272],.box gb30 32 [.slice A11 n12 c13,.slice A15 n16 c17,.slice A20 n21 c22,.bool r9.ok],.own (.slice A15 n16 c17) 3 1 n16 (r9.parent.flatMap (eI .i64)),.own (.slice A20 n21 c22) 3 1 n21 (r9.end_.flatMap (eI .i64))] [sv29,Sm w.heap.size F w [],St w []]) s:=by
   intro s hs
   refine Xmi.ind (mot:=(fun (s:(List Int) × Int × Bool × (List Int))=>∀ (A263:Option Addr) (n264:Nat) (c265:Nat) (h266:Ow w.heap.size A263 n264 c265 s.1) (A270:Option Addr) (n271:Nat) (c272:Nat) (h273:Ow w.heap.size A270 n271 c272 s.2.2.2),G (Xq6 w F r) [.code Xso,.inLoop Xso,.inBlock 0,.code Xu0] [(3,.pointer (some ⟨gb30,0,none⟩)),(4,.pointer (some ⟨gb33,0,none⟩)),(5,.slice A263 n264 c265),(14,.slice A2 n3 c4),(15,.int .i64 (x1.length:Int)),(16,.int .i64 s.2.1)] [.own (.slice A263 n264 c265) 3 1 n264 (s.1.flatMap (eI .i64)),.own (.slice A270 n271 c272) 5 1 n271 (s.2.2.2.flatMap (eI .u8)),.box gb33 123 [Xrd gb33 s.2.2.1,.slice A270 n271 c272],.box gb30 32 [.slice A11 n12 c13,.slice A15 n16 c17,.slice A20 n21 c22,.bool r9.ok],.own (.slice A15 n16 c17) 3 1 n16 (r9.parent.flatMap (eI .i64)),.own (.slice A20 n21 c22) 3 1 n21 (r9.end_.flatMap (eI .i64))] [sv29,Sm w.heap.size F w [],St w []])) ?_ hs
   clear hs s
   intro s o1 h hO1
   obtain ⟨x262,x267,x268,x269⟩:=s
   show ∀ (A263:Option Addr) (n264:Nat) (c265:Nat) (h266:Ow w.heap.size A263 n264 c265 x262) (A270:Option Addr) (n271:Nat) (c272:Nat) (h273:Ow w.heap.size A270 n271 c272 x269),G (Xq6 w F r) [.code Xso,.inLoop Xso,.inBlock 0,.code Xu0] [(3,.pointer (some ⟨gb30,0,none⟩)),(4,.pointer (some ⟨gb33,0,none⟩)),(5,.slice A263 n264 c265),(14,.slice A2 n3 c4),(15,.int .i64 (x1.length:Int)),(16,.int .i64 x267)] [.own (.slice A263 n264 c265) 3 1 n264 (x262.flatMap (eI .i64)),.own (.slice A270 n271 c272) 5 1 n271 (x269.flatMap (eI .u8)),.box gb33 123 [Xrd gb33 x268,.slice A270 n271 c272],.box gb30 32 [.slice A11 n12 c13,.slice A15 n16 c17,.slice A20 n21 c22,.bool r9.ok],.own (.slice A15 n16 c17) 3 1 n16 (r9.parent.flatMap (eI .i64)),.own (.slice A20 n21 c22) 3 1 n21 (r9.end_.flatMap (eI .i64))] [sv29,Sm w.heap.size F w [],St w []]
   intro A263 n264 c265 h266 A270 n271 c272 h273
   have h:Xpc x1 r9 x262 x267 x268 x269 o1:=h
   unfold Xpc at h
   refine Xmb rfl<|Xm6 rfl rfl<|Xm5 0 rfl (Xmn rfl rfl rfl) gn rfl<|Xmc 1 rfl<|Xmb rfl ?_
   by_cases hp529:x267 < (x1.length:Int)
   ·have h:=Xmh hp529 h
    refine Xn3 rfl _ rfl ((decide_eq_true hp529))<|Xn9 rfl<|Xmb rfl<|Xn8 rfl<|Xmb rfl<|Xm6 rfl rfl<|Xm5 0 rfl (Xm8 rfl) gn rfl ?_
    obtain ⟨hb530,h⟩:=h
    have hr531:=Rw.readF (s:=St w []) (hl:=Xn7) (h1:=Xny) h5 hb530
    refine Xm5 1 rfl (Xoc (s:=St w []) Xrr rfl rfl h5 hb530) gn rfl<|Xm5 2 rfl (Xxv (St w []) Xyc rfl hr531 rfl (me 2 rfl)) gn rfl ?_
    refine Xmr 3 rfl (Xov [.string (⟨#[]⟩:ByteArray),.bool false,.string (⟨#[]⟩:ByteArray),.int .i64 0,.int .i64 0,.int .i64 0,.int .i64 0] Yf0 rfl fun gb532=>?_) gn
    refine Xm5 4 rfl (Xma rfl) gn rfl ?_
    refine Xmr 5 rfl (Xp9 (vs:=[.string ((ix x1 x267).name),.bool ((ix x1 x267).named),.string ((ix x1 x267).field),.int .i64 ((ix x1 x267).from_),.int .i64 ((ix x1 x267).to),.int .i64 ((ix x1 x267).kids),.int .i64 ((ix x1 x267).leaf)]) (cs':=[.string ((ix x1 x267).name),.bool ((ix x1 x267).named),.string ((ix x1 x267).field),.int .i64 ((ix x1 x267).from_),.int .i64 ((ix x1 x267).to),.int .i64 ((ix x1 x267).kids),.int .i64 ((ix x1 x267).leaf)]) (M':=[.box gb532 39 [.string ((ix x1 x267).name),.bool ((ix x1 x267).named),.string ((ix x1 x267).field),.int .i64 ((ix x1 x267).from_),.int .i64 ((ix x1 x267).to),.int .i64 ((ix x1 x267).kids),.int .i64 ((ix x1 x267).leaf)],.own (.slice A263 n264 c265) 3 1 n264 (x262.flatMap (eI .i64)),.own (.slice A270 n271 c272) 5 1 n271 (x269.flatMap (eI .u8)),.box gb33 123 [Xrd gb33 x268,.slice A270 n271 c272],.box gb30 32 [.slice A11 n12 c13,.slice A15 n16 c17,.slice A20 n21 c22,.bool r9.ok],.own (.slice A15 n16 c17) 3 1 n16 (r9.parent.flatMap (eI .i64)),.own (.slice A20 n21 c22) 3 1 n21 (r9.end_.flatMap (eI .i64))]) 0 Ydr rfl rfl rfl rfl rfl rfl rfl rfl rfl ?_) gn
    refine Xmc 6 rfl<|Xmb rfl<|Xmb rfl<|Xm6 rfl rfl<|Xm5 0 rfl (Xm8 rfl) gn rfl<|Xm5 1 rfl (Xmn rfl rfl rfl) gn rfl<|Xmc 2 rfl ?_
    have j2:∀ (x549:Bool) (x550:List Int) (h:Xt7 x1 x267 x262 r9 x549 x550 o1) (A551:Option Addr) (n552:Nat) (c553:Nat) (h554:Ow w.heap.size A551 n552 c553 x550),G (Xq6 w F r) [.code q53c33,.inBlock 1,.code Xwl,.inLoop Xso,.inBlock 0,.code Xu0] [(3,.pointer (some ⟨gb30,0,none⟩)),(4,.pointer (some ⟨gb33,0,none⟩)),(5,.slice A263 n264 c265),(6,.int .i64 x267),(7,.pointer (some ⟨gb532,0,none⟩)),(14,.slice A2 n3 c4),(15,.int .i64 (x1.length:Int)),(16,.int .i64 x267)] [.own (.slice A551 n552 c553) 5 1 n552 (x550.flatMap (eI .u8)),.box gb33 123 [Xrd gb33 x549,.slice A551 n552 c553],.box gb532 39 [.string ((ix x1 x267).name),.bool ((ix x1 x267).named),.string ((ix x1 x267).field),.int .i64 ((ix x1 x267).from_),.int .i64 ((ix x1 x267).to),.int .i64 ((ix x1 x267).kids),.int .i64 ((ix x1 x267).leaf)],.own (.slice A263 n264 c265) 3 1 n264 (x262.flatMap (eI .i64)),.box gb30 32 [.slice A11 n12 c13,.slice A15 n16 c17,.slice A20 n21 c22,.bool r9.ok],.own (.slice A15 n16 c17) 3 1 n16 (r9.parent.flatMap (eI .i64)),.own (.slice A20 n21 c22) 3 1 n21 (r9.end_.flatMap (eI .i64))] [sv29,Sm w.heap.size F w [],St w []]:=by
     intro x549 x550 h A551 n552 c553 h554
     unfold Xt7 at h
     refine Xmb rfl<|Xmb rfl<|Xm6 rfl rfl<|Xm5 0 rfl (Xmm Xyd rfl) gn rfl<|Xm5 1 rfl (Xmy 2 Xwi rfl rfl rfl) gn rfl<|Xm5 2 rfl (v_neS rfl rfl) gn rfl<|Xmc 3 rfl ?_
     have j3:∀ (x571:Bool) (x572:List Int) (h:Xta x1 x267 x262 r9 x571 x572 o1) (A573:Option Addr) (n574:Nat) (c575:Nat) (h576:Ow w.heap.size A573 n574 c575 x572),G (Xq6 w F r) [.code q53c39,.inBlock 1,.code Xwl,.inLoop Xso,.inBlock 0,.code Xu0] [(3,.pointer (some ⟨gb30,0,none⟩)),(4,.pointer (some ⟨gb33,0,none⟩)),(5,.slice A263 n264 c265),(6,.int .i64 x267),(7,.pointer (some ⟨gb532,0,none⟩)),(14,.slice A2 n3 c4),(15,.int .i64 (x1.length:Int)),(16,.int .i64 x267)] [.own (.slice A573 n574 c575) 5 1 n574 (x572.flatMap (eI .u8)),.box gb33 123 [Xrd gb33 x571,.slice A573 n574 c575],.box gb532 39 [.string ((ix x1 x267).name),.bool ((ix x1 x267).named),.string ((ix x1 x267).field),.int .i64 ((ix x1 x267).from_),.int .i64 ((ix x1 x267).to),.int .i64 ((ix x1 x267).kids),.int .i64 ((ix x1 x267).leaf)],.own (.slice A263 n264 c265) 3 1 n264 (x262.flatMap (eI .i64)),.box gb30 32 [.slice A11 n12 c13,.slice A15 n16 c17,.slice A20 n21 c22,.bool r9.ok],.own (.slice A15 n16 c17) 3 1 n16 (r9.parent.flatMap (eI .i64)),.own (.slice A20 n21 c22) 3 1 n21 (r9.end_.flatMap (eI .i64))] [sv29,Sm w.heap.size F w [],St w []]:=by
      intro x571 x572 h A573 n574 c575 h576
      unfold Xta at h
      refine Xmb rfl<|Xm6 rfl rfl<|Xm5 0 rfl (Xmm Ybs rfl) gn rfl<|Xm5 1 rfl (Xmy 2 Xwi rfl rfl rfl) gn rfl<|Xm5 2 rfl (Xma rfl) gn rfl<|Xmc 3 rfl<|Xmb rfl<|Xmb rfl<|Xm6 rfl rfl<|Xm5 0 rfl (Xmm Ybu rfl) gn rfl<|Xm5 1 rfl (Xmy 2 ld_4 rfl rfl rfl) gn rfl<|Xm5 2 rfl (Xuv rfl) gn rfl ?_
      refine Xmc 3 rfl ?_
      have j4:∀ (x587:ByteArray) (h:Xt2 x1 x267 x571 x572 x262 r9 x587 o1) ,G (Xq6 w F r) [.code Ygf,.inBlock 1,.code Xwl,.inLoop Xso,.inBlock 0,.code Xu0] [(3,.pointer (some ⟨gb30,0,none⟩)),(4,.pointer (some ⟨gb33,0,none⟩)),(5,.slice A263 n264 c265),(6,.int .i64 x267),(7,.pointer (some ⟨gb532,0,none⟩)),(8,.string x587),(14,.slice A2 n3 c4),(15,.int .i64 (x1.length:Int)),(16,.int .i64 x267)] [.own (.slice A573 n574 c575) 5 1 n574 (x572.flatMap (eI .u8)),.box gb33 123 [Xrd gb33 x571,.slice A573 n574 c575],.box gb532 39 [.string ((ix x1 x267).name),.bool ((ix x1 x267).named),.string ((ix x1 x267).field),.int .i64 ((ix x1 x267).from_),.int .i64 ((ix x1 x267).to),.int .i64 ((ix x1 x267).kids),.int .i64 ((ix x1 x267).leaf)],.own (.slice A263 n264 c265) 3 1 n264 (x262.flatMap (eI .i64)),.box gb30 32 [.slice A11 n12 c13,.slice A15 n16 c17,.slice A20 n21 c22,.bool r9.ok],.own (.slice A15 n16 c17) 3 1 n16 (r9.parent.flatMap (eI .i64)),.own (.slice A20 n21 c22) 3 1 n21 (r9.end_.flatMap (eI .i64))] [sv29,Sm w.heap.size F w [],St w []]:=by
       intro x587 h
       unfold Xt2 at h
       refine Xmb rfl<|Xmb rfl ?_
       have j5:∀ (x590:Bool) (h:Xte x571 x572 x262 x267 x587 r9 x590 o1) ,G (Xq6 w F r) [.code q53c55,.code Ygb,.inBlock 1,.code Xwl,.inLoop Xso,.inBlock 0,.code Xu0] [(3,.pointer (some ⟨gb30,0,none⟩)),(4,.pointer (some ⟨gb33,0,none⟩)),(5,.slice A263 n264 c265),(6,.int .i64 x267),(8,.string x587),(14,.slice A2 n3 c4),(15,.int .i64 (x1.length:Int)),(16,.int .i64 x267),(45,.bool x590)] [.own (.slice A573 n574 c575) 5 1 n574 (x572.flatMap (eI .u8)),.box gb33 123 [Xrd gb33 x571,.slice A573 n574 c575],.own (.slice A263 n264 c265) 3 1 n264 (x262.flatMap (eI .i64)),.box gb30 32 [.slice A11 n12 c13,.slice A15 n16 c17,.slice A20 n21 c22,.bool r9.ok],.own (.slice A15 n16 c17) 3 1 n16 (r9.parent.flatMap (eI .i64)),.own (.slice A20 n21 c22) 3 1 n21 (r9.end_.flatMap (eI .i64))] [sv29,Sm w.heap.size F w [],St w []]:=by
        intro x590 h
        unfold Xte at h
        have j6:∀ (x615:List Int) (x620:Bool) (x621:List Int) (h:Xt9 x587 r9 x267 x615 x620 x621 o1) (A616:Option Addr) (n617:Nat) (c618:Nat) (h619:Ow w.heap.size A616 n617 c618 x615) (A622:Option Addr) (n623:Nat) (c624:Nat) (h625:Ow w.heap.size A622 n623 c624 x621),G (Xq6 w F r) [.code Ygb,.inBlock 1,.code Xwl,.inLoop Xso,.inBlock 0,.code Xu0] [(3,.pointer (some ⟨gb30,0,none⟩)),(4,.pointer (some ⟨gb33,0,none⟩)),(5,.slice A616 n617 c618),(6,.int .i64 x267),(8,.string x587),(14,.slice A2 n3 c4),(15,.int .i64 (x1.length:Int)),(16,.int .i64 x267)] [.own (.slice A622 n623 c624) 5 1 n623 (x621.flatMap (eI .u8)),.box gb33 123 [Xrd gb33 x620,.slice A622 n623 c624],.own (.slice A616 n617 c618) 3 1 n617 (x615.flatMap (eI .i64)),.box gb30 32 [.slice A11 n12 c13,.slice A15 n16 c17,.slice A20 n21 c22,.bool r9.ok],.own (.slice A15 n16 c17) 3 1 n16 (r9.parent.flatMap (eI .i64)),.own (.slice A20 n21 c22) 3 1 n21 (r9.end_.flatMap (eI .i64))] [sv29,Sm w.heap.size F w [],St w []]:=by
         intro x615 x620 x621 h A616 n617 c618 h619 A622 n623 c624 h625
         unfold Xt9 at h
         refine Xmb rfl<|Xm6 rfl rfl<|Xm5 0 rfl (Xm8 rfl) gn rfl ?_
         obtain ⟨r629,hv630,h⟩:=h
         refine Xmr 1 rfl (Xmz [.pointer (some ⟨gb33,0,none⟩),.string x587] rfl Try.func71 rfl rfl rfl fun w626 hL627=>?_) gn
         have hp628:=pmI hL627 (.c 1 rfl (.c 0 rfl .n)) (.c 2 rfl (.c 3 rfl (.c 4 rfl (.c 5 rfl .n)))) (by kernel_rfl)
         refine Calls.mono (Xoa w626 (Fl ([]:List Xmq)) (⟨x620,x621⟩:Xmf) x587 gb33 w.heap.size A622 n623 c624 hL627.env.size h625 (hL627.hFl hp628 (Xmt [] rfl)) (hL627.into hp628 _) r629 hv630) ?_
         rintro _ w636 ⟨A631,n632,c633,rfl,hM637,h634⟩
         have hL638:=hL627.call hp628 hM637
         refine ⟨_,_,_,rfl,hL638,?_⟩
         refine Xmc 2 rfl<|Xn8 rfl<|Xqc rfl ?_
         have key7:∀ s,Xmi (fun (s:(List Int) × Bool × (List Int)) o=>Xr3 r9 x267 s.1 s.2.1 s.2.2 o) s o1→(fun (s:(List Int) × Bool × (List Int))=>∀ (A663:Option Addr) (n664:Nat) (c665:Nat) (h666:Ow w.heap.size A663 n664 c665 s.1) (A669:Option Addr) (n670:Nat) (c671:Nat) (h672:Ow w.heap.size A669 n670 c671 s.2.2),G (Xq6 w F r) [.code Xzb,.inLoop Xzb,.inBlock 2,.inBlock 1,.code Xwl,.inLoop Xso,.inBlock 0,.code Xu0] [(3,.pointer (some ⟨gb30,0,none⟩)),(4,.pointer (some ⟨gb33,0,none⟩)),(5,.slice A663 n664 c665),(6,.int .i64 x267),(14,.slice A2 n3 c4),(15,.int .i64 (x1.length:Int)),(16,.int .i64 x267)] [.own (.slice A669 n670 c671) 5 1 n670 (s.2.2.flatMap (eI .u8)),.box gb33 123 [Xrd gb33 s.2.1,.slice A669 n670 c671],.own (.slice A663 n664 c665) 3 1 n664 (s.1.flatMap (eI .i64)),.box gb30 32 [.slice A11 n12 c13,.slice A15 n16 c17,.slice A20 n21 c22,.bool r9.ok],.own (.slice A15 n16 c17) 3 1 n16 (r9.parent.flatMap (eI .i64)),.own (.slice A20 n21 c22) 3 1 n21 (r9.end_.flatMap (eI .i64))] [sv29,Sm w.heap.size F w [],St w []]) s:=by
          intro s hs
          refine Xmi.ind (mot:=(fun (s:(List Int) × Bool × (List Int))=>∀ (A663:Option Addr) (n664:Nat) (c665:Nat) (h666:Ow w.heap.size A663 n664 c665 s.1) (A669:Option Addr) (n670:Nat) (c671:Nat) (h672:Ow w.heap.size A669 n670 c671 s.2.2),G (Xq6 w F r) [.code Xzb,.inLoop Xzb,.inBlock 2,.inBlock 1,.code Xwl,.inLoop Xso,.inBlock 0,.code Xu0] [(3,.pointer (some ⟨gb30,0,none⟩)),(4,.pointer (some ⟨gb33,0,none⟩)),(5,.slice A663 n664 c665),(6,.int .i64 x267),(14,.slice A2 n3 c4),(15,.int .i64 (x1.length:Int)),(16,.int .i64 x267)] [.own (.slice A669 n670 c671) 5 1 n670 (s.2.2.flatMap (eI .u8)),.box gb33 123 [Xrd gb33 s.2.1,.slice A669 n670 c671],.own (.slice A663 n664 c665) 3 1 n664 (s.1.flatMap (eI .i64)),.box gb30 32 [.slice A11 n12 c13,.slice A15 n16 c17,.slice A20 n21 c22,.bool r9.ok],.own (.slice A15 n16 c17) 3 1 n16 (r9.parent.flatMap (eI .i64)),.own (.slice A20 n21 c22) 3 1 n21 (r9.end_.flatMap (eI .i64))] [sv29,Sm w.heap.size F w [],St w []])) ?_ hs
          clear hs s
          intro s o2 h hO2
          obtain ⟨x662,x667,x668⟩:=s
          show ∀ (A663:Option Addr) (n664:Nat) (c665:Nat) (h666:Ow w.heap.size A663 n664 c665 x662) (A669:Option Addr) (n670:Nat) (c671:Nat) (h672:Ow w.heap.size A669 n670 c671 x668),G (Xq6 w F r) [.code Xzb,.inLoop Xzb,.inBlock 2,.inBlock 1,.code Xwl,.inLoop Xso,.inBlock 0,.code Xu0] [(3,.pointer (some ⟨gb30,0,none⟩)),(4,.pointer (some ⟨gb33,0,none⟩)),(5,.slice A663 n664 c665),(6,.int .i64 x267),(14,.slice A2 n3 c4),(15,.int .i64 (x1.length:Int)),(16,.int .i64 x267)] [.own (.slice A669 n670 c671) 5 1 n670 (x668.flatMap (eI .u8)),.box gb33 123 [Xrd gb33 x667,.slice A669 n670 c671],.own (.slice A663 n664 c665) 3 1 n664 (x662.flatMap (eI .i64)),.box gb30 32 [.slice A11 n12 c13,.slice A15 n16 c17,.slice A20 n21 c22,.bool r9.ok],.own (.slice A15 n16 c17) 3 1 n16 (r9.parent.flatMap (eI .i64)),.own (.slice A20 n21 c22) 3 1 n21 (r9.end_.flatMap (eI .i64))] [sv29,Sm w.heap.size F w [],St w []]
          intro A663 n664 c665 h666 A669 n670 c671 h672
          have h:Xr3 r9 x267 x662 x667 x668 o2:=h
          unfold Xr3 at h
          refine Xmb rfl<|Xmb rfl ?_
          by_cases hp695:(x662.length:Int) > 0
          ·have h:=Xmh hp695 h
           obtain ⟨hb696,h⟩:=h
           obtain ⟨hb697,h⟩:=h
           have hns:Region.noSelect (Code.ops q53c66)=true:=by kernel_rfl
           refine Xqx [] 18 rfl rfl mix rfl (.c 0 rfl (.c 1 rfl (.c 2 rfl .n)))<|wfv 0 rfl (Xm8 rfl) gn hns rfl<|wfv 1 rfl (Xn0 Xrh rfl h666.hq) gn hns rfl<|wfv 2 rfl (Xmn rfl rfl rfl) gn hns rfl<|wfv 3 rfl (Xm8 rfl) gn hns rfl<|Yhg 56 rfl ((decide_eq_true hp695))<|wfv 4 rfl (Xmm Ybp rfl) (gy 56 rfl rfl) hns rfl<|wfv 5 rfl (Xmy 3 Ye2 rfl rfl rfl) (gy 56 rfl rfl) hns rfl<|wfv 6 rfl (Xm8 rfl) (gy 56 rfl rfl) hns rfl<|wfv 7 rfl (Xm8 rfl) (gy 56 rfl rfl) hns rfl<|wfv 8 rfl (Xn0 Xrh rfl h666.hq) (gy 56 rfl rfl) hns rfl<|wfv 9 rfl (Xmn rfl rfl rfl) (gy 56 rfl rfl) hns rfl ?_
           refine wfv 10 rfl (Xot Xq8 rfl rfl h666 hb696) (gy 56 rfl rfl) hns rfl<|wfv 11 rfl (Xq7 (.int .i64 (ix x662 (w64 ((x662.length:Int) - 1)))) 2 Xqt rfl rfl (Xsb (hlI .i64) hb696 rfl)) (gy 56 rfl rfl) hns rfl<|wfv 12 rfl (Xot Xq8 rfl rfl (Ow.weak hL7.env.size h23) hb697) (gy 56 rfl rfl) hns rfl<|wfv 13 rfl (Xq7 (.int .i64 (ix r9.end_ (ix x662 (w64 ((x662.length:Int) - 1))))) 5 Xqt rfl rfl (Xsb (hlI .i64) hb697 rfl)) (gy 56 rfl rfl) hns rfl<|wfv 14 rfl (Xm8 rfl) (gy 56 rfl rfl) hns rfl<|wfv 15 rfl (Xmn rfl rfl rfl) (gy 56 rfl rfl) hns rfl<|wfv 16 rfl (Xmn rfl rfl rfl) (gy 56 rfl rfl) hns rfl<|wfv 17 rfl (Xmk (b:=true) rfl rfl) gn hns rfl<|Xq0 (by kernel_rfl) ?_
           by_cases hp698:ix r9.end_ (ix x662 (w64 ((x662.length:Int) - 1)))=w64 (x267 + 1)
           ·have h:=Xmh hp698 h
            refine Xn3 rfl _ rfl ((eqi hp698))<|Xn9 rfl<|Xn8 rfl<|Xmb rfl<|Xm6 rfl rfl ?_
            obtain ⟨r702,hv703,h⟩:=h
            refine Xmr 0 rfl (Xmz [.pointer (some ⟨gb33,0,none⟩),.int .u8 41] rfl Try.func70 rfl rfl rfl fun w699 hL700=>?_) gn
            have hp701:=pmI hL700 (.c 1 rfl (.c 0 rfl .n)) (.c 2 rfl (.c 3 rfl (.c 4 rfl (.c 5 rfl .n)))) (by kernel_rfl)
            refine Calls.mono (Xo0 w699 (Fl ([]:List Xmq)) (⟨x667,x668⟩:Xmf) 41 gb33 w.heap.size A669 n670 c671 hL700.env.size h672 (hL700.hFl hp701 (Xmt [] rfl)) (hL700.into hp701 _) r702 hv703) ?_
            rintro _ w709 ⟨A704,n705,c706,rfl,hM710,h707⟩
            have hL711:=hL700.call hp701 hM710
            refine ⟨_,_,_,rfl,hL711,?_⟩
            refine Xmc 1 rfl<|Xm6 rfl rfl<|Xm5 0 rfl (Xm8 rfl) gn rfl<|Xm5 1 rfl (Xm8 rfl) gn rfl<|Xm5 2 rfl (Xn0 Xrh rfl h666.hq) gn rfl<|Xm5 3 rfl (Xmn rfl rfl rfl) gn rfl ?_
            obtain ⟨hb712,h⟩:=h
            obtain ⟨x714,hv715,h⟩:=h
            have hle713:(w64 ((x662.length:Int) - 1):Int).toNat≤n664:=by have q:=hb712; have q1:=h666.hq; omega
            have h716:Ow w.heap.size A663 (w64 ((x662.length:Int) - 1):Int).toNat c665 x714:=Ow.w (Ow.cut h666 hle713) (by rw [hv715])
            refine Xm5 4 rfl (Ybn (i:=w64 ((x662.length:Int) - 1)) Xq8 rfl rfl (by have q:=hb712; have q1:=h666.hq; have q2:=h666.hn; omega) h666.hn rfl) gn rfl<|Xm5 5 rfl (Xma rfl) gn rfl<|Xmc 6 rfl<|Xn5<|Xnp ?_
            have h717:Ow w.heap.size A663 ((w64 ((x662.length:Int) - 1):Int).toNat) c665 x714:=(Ow.w (Ow.cut h666 hle713) (by rw [hv715]))
            refine Ybo (j:=2) (m:=((w64 ((x662.length:Int) - 1):Int).toNat)) (cells':=x714.flatMap (eI .i64)) rfl hle713 (by rw [Xym (hlI .i64),hv715])<|Xmj 5 rfl<|Xmj 5 rfl<|Xmj 5 rfl<|Xmj 5 rfl<|Xmj 4 rfl<|Xmj 5 rfl ?_
            have ih:=Out.inl hO2 h
            exact Xng [0,1,2] (ih A663 ((w64 ((x662.length:Int) - 1):Int).toNat) c665 h717 A704 n705 c706 h707) ⟨rfl,rfl,rfl,rfl,rfl,rfl,rfl,trivial⟩ (.cons_cons _ (.cons_cons _ (.cons_cons _ (.cons_cons _ (.cons_cons _ (.cons_cons _ (.slnil))))))) rfl
           ·have h:=Xmg hp698 h
            refine Xmp rfl _ rfl ((nei hp698))<|Xpw [.inBlock 1,.code Xwl,.inLoop Xso,.inBlock 0,.code Xu0] rfl rfl<|Xn5<|Xm6 rfl rfl<|Xm5 0 rfl (Xmn rfl rfl rfl) gn rfl<|Xm5 1 rfl (Xm8 rfl) gn rfl<|Xmc 2 rfl<|Xnp<|Xmj 5 rfl<|Xmj 5 rfl<|Xmj 5 rfl<|Xmj 4 rfl ?_
            refine Xmj 4 rfl<|Xmj 5 rfl ?_
            have h:=Out.inr hO2 h
            have ih:=Out.inl hO1 h
            exact Xng [0,1,2] (ih A663 n664 c665 h666 A669 n670 c671 h672) ⟨rfl,rfl,rfl,rfl,rfl,rfl,trivial⟩ (.cons_cons _ (.cons_cons _ (.cons_cons _ (.cons_cons _ (.cons_cons _ (.cons_cons _ (.slnil))))))) rfl
          ·have h:=Xmg hp695 h
           have hns:Region.noSelect (Code.ops q53c66)=true:=by kernel_rfl
           refine Xqx [] 18 rfl rfl mix rfl (.c 0 rfl (.c 1 rfl (.c 2 rfl .n)))<|wfv 0 rfl (Xm8 rfl) gn hns rfl<|wfv 1 rfl (Xn0 Xrh rfl h666.hq) gn hns rfl<|wfv 2 rfl (Xmn rfl rfl rfl) gn hns rfl<|wfv 3 rfl (Xm8 rfl) gn hns rfl<|Yhg 56 rfl ((decide_eq_false hp695))<|wfp 4 rfl (ps 56 rfl rfl rfl) hns rfl<|wfp 5 rfl (ps 56 rfl rfl rfl) hns rfl<|wfp 6 rfl (ps 56 rfl rfl rfl) hns rfl<|wfp 7 rfl (ps 56 rfl rfl rfl) hns rfl<|wfp 8 rfl (ps 56 rfl rfl rfl) hns rfl<|wfp 9 rfl (ps 56 rfl rfl rfl) hns rfl ?_
           refine wfp 10 rfl (ps 56 rfl rfl rfl) hns rfl<|wfp 11 rfl (ps 56 rfl rfl rfl) hns rfl<|wfp 12 rfl (ps 56 rfl rfl rfl) hns rfl<|wfp 13 rfl (ps 56 rfl rfl rfl) hns rfl<|wfp 14 rfl (ps 56 rfl rfl rfl) hns rfl<|wfp 15 rfl (ps 56 rfl rfl rfl) hns rfl<|wfp 16 rfl (ps 56 rfl rfl rfl) hns rfl<|wfv 17 rfl (Xmk (b:=false) rfl rfl) gn hns rfl<|Xq0 (by kernel_rfl)<|Xmp rfl _ rfl (rfl)<|Xpw [.inBlock 1,.code Xwl,.inLoop Xso,.inBlock 0,.code Xu0] rfl rfl<|Xn5 ?_
           refine Xm6 rfl rfl<|Xm5 0 rfl (Xmn rfl rfl rfl) gn rfl<|Xm5 1 rfl (Xm8 rfl) gn rfl<|Xmc 2 rfl<|Xnp<|Xmj 5 rfl<|Xmj 5 rfl<|Xmj 5 rfl<|Xmj 4 rfl<|Xmj 4 rfl<|Xmj 5 rfl ?_
           have h:=Out.inr hO2 h
           have ih:=Out.inl hO1 h
           exact Xng [0,1,2] (ih A663 n664 c665 h666 A669 n670 c671 h672) ⟨rfl,rfl,rfl,rfl,rfl,rfl,trivial⟩ (.cons_cons _ (.cons_cons _ (.cons_cons _ (.cons_cons _ (.cons_cons _ (.cons_cons _ (.slnil))))))) rfl
         refine Xmj 5 rfl<|Xmj 5 rfl<|Xmj 5 rfl<|Xmj 5 rfl<|Xmj 4 rfl<|Xmj 5 rfl ?_
         exact Xng [0,1,2] (key7 _ h A616 n617 c618 h619 A631 n632 c633 h634) ⟨rfl,rfl,rfl,rfl,rfl,rfl,rfl,trivial⟩ (.cons_cons _ (.cons_cons _ (.cons_cons _ (.cons_cons _ (.cons_cons _ (.cons_cons _ (.slnil))))))) rfl
        by_cases hp591:x590=true
        ·have h:=Xmh hp591 h
         refine Xn3 rfl _ rfl (hp591)<|Xmb rfl<|Xm6 rfl rfl ?_
         obtain ⟨r721,hv722,h⟩:=h
         refine Xmr 0 rfl (Xmz [.pointer (some ⟨gb33,0,none⟩),.int .u8 40] rfl Try.func70 rfl rfl rfl fun w718 hL719=>?_) gn
         have hp720:=pmI hL719 (.c 1 rfl (.c 0 rfl .n)) (.c 2 rfl (.c 3 rfl (.c 4 rfl (.c 5 rfl .n)))) (by kernel_rfl)
         refine Calls.mono (Xo0 w718 (Fl ([]:List Xmq)) (⟨x571,x572⟩:Xmf) 40 gb33 w.heap.size A573 n574 c575 hL719.env.size h576 (hL719.hFl hp720 (Xmt [] rfl)) (hL719.into hp720 _) r721 hv722) ?_
         rintro _ w728 ⟨A723,n724,c725,rfl,hM729,h726⟩
         have hL730:=hL719.call hp720 hM729
         refine ⟨_,_,_,rfl,hL730,?_⟩
         refine Xmc 1 rfl<|Xm6 rfl rfl<|Xm5 0 rfl (Xm8 rfl) gn rfl<|Xm5 1 rfl (Xm8 rfl) gn rfl ?_
         refine Xmr 2 rfl (Xph (xs:=([x267]:List Int)) [.int .i64 x267] Xve rfl (by kernel_rfl) rfl rfl rfl rfl fun gb732 h733=>?_) gn
         obtain ⟨x737,hv738,h⟩:=h
         obtain ⟨hb739,h⟩:=h
         refine Xmr 3 rfl (Xs7 (zs:=x737) (cells':=x737.flatMap (eI .i64)) 3 Xyx rfl rfl rfl h266 (Nat.le_refl _) (Src.ownF (hl:=(hlI .i64)) (h1:=(Xqo .i64)) 0 rfl h733) (by rw [hv738,List.flatMap_append] <;> rfl) (Xp6 hv738 h733.hq) hb739 rfl rfl fun A734 c735 h736=>?_) gn
         refine Xm5 4 rfl (Xma rfl) gn rfl<|Xmc 5 rfl<|Xmj 6 rfl<|Xmj 6 rfl<|Xmj 6 rfl<|Xmj 6 rfl<|Xmj 5 rfl<|Xmj 6 rfl ?_
         exact Xng [0,1,2] (j6 x737 r721.addr r721.buf h A734 (n264 + 1) c735 h736 A723 n724 c725 h726) ⟨rfl,rfl,rfl,rfl,rfl,rfl,rfl,rfl,trivial⟩ (.cons_cons _ (.cons_cons _ (.cons_cons _ (.cons_cons _ (.cons_cons _ (.cons_cons _ (.cons _ (.slnil)))))))) rfl
        ·have h:=Xmg hp591 h
         refine Xmp rfl _ rfl ((bf hp591))<|Xn9 rfl ?_
         exact Xng [0,1,2] (j6 x262 x571 x572 h A263 n264 c265 h266 A573 n574 c575 h576) ⟨rfl,rfl,rfl,rfl,rfl,rfl,rfl,rfl,trivial⟩ (.cons_cons _ (.cons_cons _ (.cons_cons _ (.cons_cons _ (.cons_cons _ (.cons_cons _ (.slnil))))))) rfl
       refine Xm6 rfl rfl<|Xm5 0 rfl (Xmm Ybu rfl) gn rfl<|Xm5 1 rfl (Xmy 2 ld_4 rfl rfl rfl) gn rfl<|Xm5 2 rfl (Xm8 rfl) gn rfl ?_
       by_cases hp740:((ix x1 x267).named)=true
       ·have h:=Xmh hp740 h
        refine Xmx 41 rfl (hp740)<|Xm9 3 rfl (ps 41 rfl rfl rfl)<|Xm9 4 rfl (ps 41 rfl rfl rfl)<|Xm9 5 rfl (ps 41 rfl rfl rfl)<|Xm5 6 rfl (Xmk (b:=true) rfl rfl) gn rfl<|Xmc 7 rfl ?_
        exact Xng [0,1,2] (j5 true h) ⟨rfl,rfl,rfl,rfl,rfl,rfl,rfl,rfl,rfl,trivial⟩ (.cons_cons _ (.cons_cons _ (.cons _ (.cons_cons _ (.cons_cons _ (.cons_cons _ (.cons_cons _ (.slnil)))))))) rfl
       ·have h:=Xmg hp740 h
        refine Xmx 41 rfl ((bf hp740))<|Xm5 3 rfl (Xmm Xt8 rfl) (gy 41 rfl rfl) rfl<|Xm5 4 rfl (Xmy 2 Xqt rfl rfl rfl) (gy 41 rfl rfl) rfl<|Xm5 5 rfl (Xmn rfl rfl rfl) (gy 41 rfl rfl) rfl<|Xm5 6 rfl (Xmk (b:=false) rfl rfl) gn rfl<|Xmc 7 rfl ?_
        exact Xng [0,1,2] (j5 (decide ((ix x1 x267).kids > 0)) h) ⟨rfl,rfl,rfl,rfl,rfl,rfl,rfl,rfl,rfl,trivial⟩ (.cons_cons _ (.cons_cons _ (.cons _ (.cons_cons _ (.cons_cons _ (.cons_cons _ (.cons_cons _ (.slnil)))))))) rfl
      by_cases hp577:((ix x1 x267).named)=true
      ·have h:=Xmh hp577 h
       refine Xmp rfl _ rfl ((nf hp577))<|Xn9 rfl ?_
       exact Xng [0,1,2] (j4 ((ix x1 x267).name) h) ⟨rfl,rfl,rfl,rfl,rfl,rfl,rfl,rfl,rfl,trivial⟩ (.cons_cons _ (.cons_cons _ (.cons_cons _ (.cons_cons _ (.cons_cons _ (.cons_cons _ (.cons_cons _ (.slnil)))))))) rfl
      ·have h:=Xmg hp577 h
       refine Xn3 rfl _ rfl ((nt (bf hp577)))<|Xm6 rfl rfl<|Xm5 0 rfl (Xmm Ybs rfl) gn rfl<|Xm5 1 rfl (Xmy 2 Xwi rfl rfl rfl) gn rfl ?_
       obtain ⟨r744,hv745,h⟩:=h
       refine Xmr 2 rfl (Xmz [.string ((ix x1 x267).name)] rfl Try.func72 rfl rfl rfl fun w741 hL742=>?_) gn
       have hp743:=pmI hL742 .n (.c 0 rfl (.c 1 rfl (.c 2 rfl (.c 3 rfl (.c 4 rfl (.c 5 rfl (.c 6 rfl .n))))))) (by kernel_rfl)
       refine Calls.mono (Xzw w741 (Fl ([]:List Xmq)) ((ix x1 x267).name) (hL742.hFl hp743 (Xmt [] rfl)) (hL742.into hp743 _) r744 hv745) ?_
       rintro _ w746 ⟨rfl,hM747⟩
       have hL748:=hL742.call hp743 hM747
       refine ⟨_,_,_,rfl,hL748,?_⟩
       refine Xm5 3 rfl (Xma rfl) gn rfl<|Xmc 4 rfl ?_
       exact Xng [0,1,2] (j4 r744 h) ⟨rfl,rfl,rfl,rfl,rfl,rfl,rfl,rfl,rfl,trivial⟩ (.cons_cons _ (.cons_cons _ (.cons_cons _ (.cons_cons _ (.cons_cons _ (.cons_cons _ (.cons_cons _ (.slnil)))))))) rfl
     by_cases hp555:(ix x1 x267).field=(⟨#[]⟩:ByteArray)
     ·have h:=Xmh hp555 h
      refine Xmp rfl _ rfl ((nf (Xzr hp555)))<|Xn9 rfl ?_
      exact Xng [0,1,2] (j3 x549 x550 h A551 n552 c553 h554) ⟨rfl,rfl,rfl,rfl,rfl,rfl,rfl,rfl,trivial⟩ (.cons_cons _ (.cons_cons _ (.cons_cons _ (.cons_cons _ (.cons_cons _ (.cons_cons _ (.cons_cons _ (.slnil)))))))) rfl
     ·have h:=Xmg hp555 h
      refine Xn3 rfl _ rfl ((nt (Ya4 hp555)))<|Xm6 rfl rfl<|Xm5 0 rfl (Xmm Xyd rfl) gn rfl<|Xm5 1 rfl (Xmy 2 Xwi rfl rfl rfl) gn rfl ?_
      obtain ⟨hb749,h⟩:=h
      refine Xm5 2 rfl (Yex rfl rfl hb749) gn rfl ?_
      obtain ⟨r753,hv754,h⟩:=h
      refine Xmr 3 rfl (Xmz [.pointer (some ⟨gb33,0,none⟩),.string (((ix x1 x267).field)++(⟨#[58,32]⟩:ByteArray))] rfl Try.func71 rfl rfl rfl fun w750 hL751=>?_) gn
      have hp752:=pmI hL751 (.c 1 rfl (.c 0 rfl .n)) (.c 2 rfl (.c 3 rfl (.c 4 rfl (.c 5 rfl (.c 6 rfl .n))))) (by kernel_rfl)
      refine Calls.mono (Xoa w750 (Fl ([]:List Xmq)) (⟨x549,x550⟩:Xmf) (((ix x1 x267).field)++(⟨#[58,32]⟩:ByteArray)) gb33 w.heap.size A551 n552 c553 hL751.env.size h554 (hL751.hFl hp752 (Xmt [] rfl)) (hL751.into hp752 _) r753 hv754) ?_
      rintro _ w760 ⟨A755,n756,c757,rfl,hM761,h758⟩
      have hL762:=hL751.call hp752 hM761
      refine ⟨_,_,_,rfl,hL762,?_⟩
      refine Xmc 4 rfl<|Xmj 6 rfl<|Xmj 6 rfl<|Xmj 6 rfl<|Xmj 6 rfl<|Xmj 6 rfl<|Xmj 5 rfl<|Xmj 6 rfl ?_
      exact Xng [0,1,2] (j3 r753.2.addr r753.2.buf h A755 n756 c757 h758) ⟨rfl,rfl,rfl,rfl,rfl,rfl,rfl,rfl,trivial⟩ (.cons_cons _ (.cons_cons _ (.cons_cons _ (.cons_cons _ (.cons_cons _ (.cons_cons _ (.cons_cons _ (.slnil)))))))) rfl
    by_cases hp534:x267 > 0
    ·have h:=Xmh hp534 h
     refine Xn3 rfl _ rfl ((decide_eq_true hp534))<|Xm6 rfl rfl ?_
     obtain ⟨r766,hv767,h⟩:=h
     refine Xmr 0 rfl (Xmz [.pointer (some ⟨gb33,0,none⟩),.int .u8 32] rfl Try.func70 rfl rfl rfl fun w763 hL764=>?_) gn
     have hp765:=pmI hL764 (.c 3 rfl (.c 2 rfl .n)) (.c 0 rfl (.c 1 rfl (.c 4 rfl (.c 5 rfl (.c 6 rfl .n))))) (by kernel_rfl)
     refine Calls.mono (Xo0 w763 (Fl ([]:List Xmq)) (⟨x268,x269⟩:Xmf) 32 gb33 w.heap.size A270 n271 c272 hL764.env.size h273 (hL764.hFl hp765 (Xmt [] rfl)) (hL764.into hp765 _) r766 hv767) ?_
     rintro _ w773 ⟨A768,n769,c770,rfl,hM774,h771⟩
     have hL775:=hL764.call hp765 hM774
     refine ⟨_,_,_,rfl,hL775,?_⟩
     refine Xmc 1 rfl<|Xmj 6 rfl<|Xmj 6 rfl<|Xmj 6 rfl<|Xmj 6 rfl<|Xmj 6 rfl<|Xmj 5 rfl<|Xmj 6 rfl ?_
     exact Xng [0,1,2] (j2 r766.addr r766.buf h A768 n769 c770 h771) ⟨rfl,rfl,rfl,rfl,rfl,rfl,rfl,rfl,trivial⟩ (.cons_cons _ (.cons_cons _ (.cons_cons _ (.cons_cons _ (.cons_cons _ (.cons_cons _ (.cons_cons _ (.slnil)))))))) rfl
    ·have h:=Xmg hp534 h
     refine Xmp rfl _ rfl ((decide_eq_false hp534))<|Xn9 rfl<|Xmj 6 rfl<|Xmj 6 rfl<|Xmj 6 rfl<|Xmj 4 rfl<|Xmj 4 rfl<|Xmj 6 rfl<|Xmj 6 rfl ?_
     exact Xng [0,1,2] (j2 x268 x269 h A270 n271 c272 h273) ⟨rfl,rfl,rfl,rfl,rfl,rfl,rfl,rfl,trivial⟩ (.cons_cons _ (.cons_cons _ (.cons_cons _ (.cons_cons _ (.cons_cons _ (.cons_cons _ (.cons_cons _ (.slnil)))))))) rfl
   ·have h:=Xmg hp529 h
    refine Xmp rfl _ rfl ((decide_eq_false hp529))<|Xpw [.code Xu0] rfl rfl<|Xmb rfl<|Xm6 rfl rfl ?_
    obtain ⟨r779,hv780,h⟩:=h
    refine Xmr 0 rfl (Xmz [.pointer (some ⟨gb33,0,none⟩)] rfl Try.func73 rfl rfl rfl fun w776 hL777=>?_) gn
    have hp778:=pmI hL777 (.c 2 rfl (.c 1 rfl .n)) (.c 0 rfl (.c 3 rfl (.c 4 rfl (.c 5 rfl .n)))) (by kernel_rfl)
    refine Calls.mono (Xsj w776 (Fl ([]:List Xmq)) (⟨x268,x269⟩:Xmf) gb33 w.heap.size A270 n271 c272 hL777.env.size h273 (hL777.hFl hp778 (Xmt [] rfl)) (hL777.into hp778 _) r779 hv780) ?_
    rintro _ w781 ⟨rfl,hM782⟩
    have hL783:=hL777.call hp778 hM782
    refine ⟨_,_,_,rfl,hL783,?_⟩
    refine Xm5 1 rfl (Xma rfl) gn rfl<|Xmc 2 rfl ?_
    have h:=Out.inr hO1 h
    refine Xmu [.string r779] rfl Try.func53 rfl (.tmp rfl (.nil)) fun wr hLr=>?_
    have hMr:=hLr.pk0 (.c 2 rfl .n)
    show Xw0 w F  r (.returned (Xn4 [.string r779])) wr
    rw [h]
    exact ⟨rfl,hMr⟩
  refine Xr7 5 1<|Xr7 3 1 ?_
  exact Xng [0,1,2] (key1 _ h none 0 0 (Ow.nil (z:=w.heap.size)) none 0 0 (Ow.nil (z:=w.heap.size))) ⟨rfl,rfl,rfl,rfl,rfl,rfl,trivial⟩ (.cons_cons _ (.cons_cons _ (.cons_cons _ (.cons_cons _ (.cons_cons _ (.cons_cons _ (.slnil))))))) rfl
 ·have h:=Xmg hp32 h
  refine Xn3 rfl _ rfl ((nt (bf hp32)))<|Xmb rfl<|Xm6 rfl rfl<|Xm5 0 rfl (Xma rfl) gn rfl<|Xmc 1 rfl ?_
  refine Xmu [.string (⟨#[]⟩:ByteArray)] rfl Try.func53 rfl (.tmp rfl (.nil)) fun wr hLr=>?_
  have hMr:=hLr.pk0 (.c 2 rfl .n)
  show Xw0 w F  r (.returned (Xn4 [.string (⟨#[]⟩:ByteArray)])) wr
  rw [h]
  exact ⟨rfl,hMr⟩
abbrev Xnj (w:World) (F:Nat→Prop) (r:Bool):Ending→World→Prop:=fun e w'=>e=.returned (.bool r)∧B.Loc w w' [] [St w []]
noncomputable abbrev Xy0 (w:World) (F:Nat→Prop) (r:Bool):Cx:=⟨Try.prog,31,Try.f31,87,Xnj w F  r,w⟩
theorem Xwe (w:World) (F:Nat→Prop)  (hF:∀ b,F b→b < w.heap.size∧∀ o ∈ ([]:List (List Nat)),b ∉ o) (hL0:B.Loc w w [] [Sm w.heap.size F w [],St w []]) (r:Bool) (h:Xra  r):Calls Try.prog 31 #[] w (Xnj w F  r):=by
 unfold Xra at h
 refine Xms (vs:=[]) 87 Try.func31 rfl Try.ntmps31 rfl hL0 ?_
 show G (Xy0 w F r) _ _ _ _
 refine Xmb rfl<|Xm6 rfl rfl<|Xm5 0 rfl (Xma rfl) gn rfl<|Xmc 1 rfl<|Xmb rfl<|Xm6 rfl rfl<|Xm5 0 rfl (Xpq #[.string (⟨#[]⟩:ByteArray),.bool false] bd_100 rfl (by kernel_rfl)) gn rfl<|Xm5 1 rfl (Xpq #[.string (⟨#[97]⟩:ByteArray),.bool false] bd_100 rfl (by kernel_rfl)) gn rfl ?_
 refine Xmr 2 rfl (Xph (xs:=([(⟨(⟨#[]⟩:ByteArray),false⟩:Xna),(⟨(⟨#[97]⟩:ByteArray),false⟩:Xna)]:List Xna)) [.string (⟨#[]⟩:ByteArray),.bool false,.string (⟨#[97]⟩:ByteArray),.bool false] bs_43_2 rfl (by kernel_rfl) rfl rfl rfl rfl fun gb2 h3=>?_) gn
 refine Xm5 3 rfl (Xpq #[.string (⟨#[115]⟩:ByteArray),.int .i64 1] bd_74 rfl (by kernel_rfl)) gn rfl ?_
 refine Xmr 4 rfl (Xph (xs:=([(⟨(⟨#[115]⟩:ByteArray),1⟩:Xq9)]:List Xq9)) [.string (⟨#[115]⟩:ByteArray),.int .i64 1] bs_44_1 rfl (by kernel_rfl) rfl rfl rfl rfl fun gb5 h6=>?_) gn
 refine Xm5 5 rfl (Xpq #[.int .i64 2,.string (⟨#[]⟩:ByteArray),.string (⟨#[]⟩:ByteArray)] bd_104 rfl (by kernel_rfl)) gn rfl ?_
 refine Xmr 6 rfl (Xph (xs:=([(⟨2,(⟨#[]⟩:ByteArray),(⟨#[]⟩:ByteArray)⟩:Xn1)]:List Xn1)) [.int .i64 2,.string (⟨#[]⟩:ByteArray),.string (⟨#[]⟩:ByteArray)] Yfk rfl (by kernel_rfl) rfl rfl rfl rfl fun gb8 h9=>?_) gn
 refine Xm5 7 rfl (Xpq #[.int .i64 (-1),.slice (some ⟨gb8,0,none⟩) 1 1] bd_107 rfl (by kernel_rfl)) gn rfl<|Xm5 8 rfl (Xpq #[.int .i64 1,.string (⟨#[102]⟩:ByteArray),.string (⟨#[]⟩:ByteArray)] bd_104 rfl (by kernel_rfl)) gn rfl ?_
 refine Xmr 9 rfl (Xph (xs:=([(⟨1,(⟨#[102]⟩:ByteArray),(⟨#[]⟩:ByteArray)⟩:Xn1)]:List Xn1)) [.int .i64 1,.string (⟨#[102]⟩:ByteArray),.string (⟨#[]⟩:ByteArray)] Yfk rfl (by kernel_rfl) rfl rfl rfl rfl fun gb11 h12=>?_) gn
 refine Xm5 10 rfl (Xpq #[.int .i64 0,.slice (some ⟨gb11,0,none⟩) 1 1] bd_107 rfl (by kernel_rfl)) gn rfl ?_
 refine Xy1 (F:=F) (dk:=Xx6) (Sm w.heap.size F w []) 1 rfl h9 (me 0 rfl) Sm.ok (Cells.flat _) fun sw14 sb15 h13=>?_
 refine Xy1 (F:=F) (dk:=Xx6) (Sm w.heap.size F w []) 0 rfl h12 (me 1 rfl) Sm.ok (Cells.flat _) fun sw17 sb18 h16=>?_
 refine Ycn (F:=F) fun sw20 sb21 ho22=>?_
 have hC23:Cells Xos (Sm w.heap.size F sw20 sb21).w (Sm w.heap.size F sw20 sb21).av ([(⟨-1,([(⟨2,(⟨#[]⟩:ByteArray),(⟨#[]⟩:ByteArray)⟩:Xn1)]:List Xn1)⟩:Xnz),(⟨0,([(⟨1,(⟨#[102]⟩:ByteArray),(⟨#[]⟩:ByteArray)⟩:Xn1)]:List Xn1)⟩:Xnz)]:List Xnz) [.int .i64 (-1),.slice (some ⟨gb8,0,none⟩) 1 1,.int .i64 0,.slice (some ⟨gb11,0,none⟩) 1 1]:=(Cells.cons (c1:=[.int .i64 (-1),.slice (some ⟨gb8,0,none⟩) 1 1]) ⟨(some ⟨gb8,0,none⟩),1,1,rfl,(Rw.older (s:=Sm w.heap.size F sw14 sb15) h13 (ho22 _ (me 1 rfl) Sm.ok))⟩ (Cells.cons (c1:=[.int .i64 0,.slice (some ⟨gb11,0,none⟩) 1 1]) ⟨(some ⟨gb11,0,none⟩),1,1,rfl,(Rw.older (s:=Sm w.heap.size F sw17 sb18) h16 (ho22 _ (me 0 rfl) Sm.ok))⟩ Cells.nil))
 refine Xmr 11 rfl (Xph (xs:=([(⟨-1,([(⟨2,(⟨#[]⟩:ByteArray),(⟨#[]⟩:ByteArray)⟩:Xn1)]:List Xn1)⟩:Xnz),(⟨0,([(⟨1,(⟨#[102]⟩:ByteArray),(⟨#[]⟩:ByteArray)⟩:Xn1)]:List Xn1)⟩:Xnz)]:List Xnz)) [.int .i64 (-1),.slice (some ⟨gb8,0,none⟩) 1 1,.int .i64 0,.slice (some ⟨gb11,0,none⟩) 1 1] bs_45_2 rfl (by kernel_rfl) rfl rfl rfl rfl fun gb24 h25=>?_) gn
 refine Xm5 12 rfl (Xpq #[.slice (some ⟨gb2,0,none⟩) 2 2,.slice (some ⟨gb5,0,none⟩) 1 1,.slice (some ⟨gb24,0,none⟩) 2 2] bd_47 rfl (by kernel_rfl)) gn rfl<|Xm5 13 rfl (Xpq #[.string (⟨#[]⟩:ByteArray),.slice none 0 0,.slice (some ⟨gb2,0,none⟩) 2 2,.slice (some ⟨gb5,0,none⟩) 1 1,.slice (some ⟨gb24,0,none⟩) 2 2,.slice none 0 0,.slice none 0 0,.slice none 0 0,.slice none 0 0,.slice none 0 0,.slice none 0 0,.slice none 0 0] bd_58 rfl (by kernel_rfl)) gn rfl ?_
 refine Xmr 14 rfl (Xov [.string (⟨#[]⟩:ByteArray),.slice none 0 0,.slice none 0 0,.slice none 0 0,.slice none 0 0,.slice none 0 0,.slice none 0 0,.slice none 0 0,.slice none 0 0,.slice none 0 0,.slice none 0 0,.slice none 0 0] zr_58 rfl fun gb26=>?_) gn
 refine Xmr 15 rfl (Xp9 (vs:=[.string (⟨#[]⟩:ByteArray),.slice none 0 0,.slice (some ⟨gb2,0,none⟩) 2 2,.slice (some ⟨gb5,0,none⟩) 1 1,.slice (some ⟨gb24,0,none⟩) 2 2,.slice none 0 0,.slice none 0 0,.slice none 0 0,.slice none 0 0,.slice none 0 0,.slice none 0 0,.slice none 0 0]) (cs':=[.string (⟨#[]⟩:ByteArray),.slice none 0 0,.slice (some ⟨gb2,0,none⟩) 2 2,.slice (some ⟨gb5,0,none⟩) 1 1,.slice (some ⟨gb24,0,none⟩) 2 2,.slice none 0 0,.slice none 0 0,.slice none 0 0,.slice none 0 0,.slice none 0 0,.slice none 0 0,.slice none 0 0]) (M':=[.box gb26 58 [.string (⟨#[]⟩:ByteArray),.slice none 0 0,.slice (some ⟨gb2,0,none⟩) 2 2,.slice (some ⟨gb5,0,none⟩) 1 1,.slice (some ⟨gb24,0,none⟩) 2 2,.slice none 0 0,.slice none 0 0,.slice none 0 0,.slice none 0 0,.slice none 0 0,.slice none 0 0,.slice none 0 0],.own (.slice (some ⟨gb24,0,none⟩) 2 2) 107 2 2 [.int .i64 (-1),.slice (some ⟨gb8,0,none⟩) 1 1,.int .i64 0,.slice (some ⟨gb11,0,none⟩) 1 1],.own (.slice (some ⟨gb5,0,none⟩) 1 1) 74 2 1 (([(⟨(⟨#[115]⟩:ByteArray),1⟩:Xq9)]:List Xq9).flatMap Xus),.own (.slice (some ⟨gb2,0,none⟩) 2 2) 100 2 2 (([(⟨(⟨#[]⟩:ByteArray),false⟩:Xna),(⟨(⟨#[97]⟩:ByteArray),false⟩:Xna)]:List Xna).flatMap Xsg)]) 0 sz_58 rfl rfl rfl rfl rfl rfl rfl rfl rfl ?_) gn
 refine Xmc 16 rfl<|Xmb rfl<|Xm6 rfl rfl<|Xm5 0 rfl (Xqa [.string (⟨#[]⟩:ByteArray),.slice none 0 0,.slice (some ⟨gb2,0,none⟩) 2 2,.slice (some ⟨gb5,0,none⟩) 1 1,.slice (some ⟨gb24,0,none⟩) 2 2,.slice none 0 0,.slice none 0 0,.slice none 0 0,.slice none 0 0,.slice none 0 0,.slice none 0 0,.slice none 0 0] 0 Xxu rfl rfl rfl rfl) gn rfl ?_
 obtain ⟨r31,hv32,h⟩:=h
 refine Xmr 1 rfl (Xmz [.agg #[.string (⟨#[]⟩:ByteArray),.slice none 0 0,.slice (some ⟨gb2,0,none⟩) 2 2,.slice (some ⟨gb5,0,none⟩) 1 1,.slice (some ⟨gb24,0,none⟩) 2 2,.slice none 0 0,.slice none 0 0,.slice none 0 0,.slice none 0 0,.slice none 0 0,.slice none 0 0,.slice none 0 0],.int .i64 1,.int .i64 0,.int .i64 2,.int .i64 5] rfl Try.func25 rfl rfl rfl fun w28 hL29=>?_) gn
 have hp30:=pmI hL29 .n (.c 0 rfl (.c 1 rfl (.c 2 rfl (.c 3 rfl .n)))) (by kernel_rfl)
 refine Calls.mono (Yau w28 (Fl ([]:List Xmq)) (⟨(⟨#[]⟩:ByteArray),([]:List Xps),(⟨([(⟨(⟨#[]⟩:ByteArray),false⟩:Xna),(⟨(⟨#[97]⟩:ByteArray),false⟩:Xna)]:List Xna),([(⟨(⟨#[115]⟩:ByteArray),1⟩:Xq9)]:List Xq9),([(⟨-1,([(⟨2,(⟨#[]⟩:ByteArray),(⟨#[]⟩:ByteArray)⟩:Xn1)]:List Xn1)⟩:Xnz),(⟨0,([(⟨1,(⟨#[102]⟩:ByteArray),(⟨#[]⟩:ByteArray)⟩:Xn1)]:List Xn1)⟩:Xnz)]:List Xnz)⟩:Xnn),([]:List Xsk),(⟨([]:List (List Xoi)),([]:List (List Int))⟩:Xtb),([]:List Xpe),([]:List ByteArray),([]:List Xpu),([]:List Xow)⟩:Xmw) 1 0 2 5 none 0 0 (some ⟨gb2,0,none⟩) 2 2 (some ⟨gb5,0,none⟩) 1 1 (some ⟨gb24,0,none⟩) 2 2 none 0 0 none 0 0 none 0 0 none 0 0 none 0 0 none 0 0 none 0 0 Rw.nil (hL29.argO (dk:=Xnt) hp30 [] rfl 3 rfl rfl h3 (me 3 rfl) (Cells.flat _)) (hL29.argO (dk:=Xpk) hp30 [] rfl 2 rfl rfl h6 (me 3 rfl) (Cells.flat _)) (hL29.argO (dk:=Xos) hp30 [] rfl 1 rfl rfl h25 (me 0 rfl) hC23) Rw.nil Rw.nil Rw.nil Rw.nil Rw.nil Rw.nil Rw.nil (hL29.hFl hp30 (Xmt [] rfl)) (hL29.into hp30 _) r31 hv32) ?_
 rintro _ w38 ⟨A33,n34,c35,rfl,hM39,h36⟩
 have hL40:=hL29.call hp30 hM39
 refine ⟨_,_,_,rfl,hL40,?_⟩
 refine Xm5 2 rfl (Xma rfl) gn rfl<|Xmc 3 rfl<|Xmb rfl<|Xm6 rfl rfl<|Xm5 0 rfl (Xqa [.string (⟨#[]⟩:ByteArray),.slice none 0 0,.slice (some ⟨gb2,0,none⟩) 2 2,.slice (some ⟨gb5,0,none⟩) 1 1,.slice (some ⟨gb24,0,none⟩) 2 2,.slice none 0 0,.slice none 0 0,.slice none 0 0,.slice none 0 0,.slice none 0 0,.slice none 0 0,.slice none 0 0] 1 Xxu rfl rfl rfl rfl) gn rfl<|Xm5 1 rfl (Xm8 rfl) gn rfl ?_
 refine Xy1 (F:=F) (dk:=Xml) (Sm w.heap.size F w []) 0 rfl (Ow.weak hL29.env.size h36) (me 3 rfl) Sm.ok (Cells.flat _) fun sw42 sb43 h41=>?_
 have hC45:Cells (Kd.slice Xml) (Sm w.heap.size F sw42 sb43).w (Sm w.heap.size F sw42 sb43).av ([r31]:List (List Xm4)) [.slice A33 n34 c35]:=(Cells.cons (c1:=[.slice A33 n34 c35]) ⟨A33,n34,c35,rfl,h41⟩ Cells.nil)
 refine Xmr 2 rfl (Xph (xs:=([r31]:List (List Xm4))) [.slice A33 n34 c35] Xzq rfl (by kernel_rfl) rfl rfl rfl rfl fun gb46 h47=>?_) gn
 refine Xmr 3 rfl (Xph (xs:=([0,5]:List Int)) [.int .i64 0,.int .i64 5] bs_23_2 rfl (by kernel_rfl) rfl rfl rfl rfl fun gb49 h50=>?_) gn
 obtain ⟨r54,hv55,h⟩:=h
 refine Xmr 4 rfl (Xmz [.agg #[.string (⟨#[]⟩:ByteArray),.slice none 0 0,.slice (some ⟨gb2,0,none⟩) 2 2,.slice (some ⟨gb5,0,none⟩) 1 1,.slice (some ⟨gb24,0,none⟩) 2 2,.slice none 0 0,.slice none 0 0,.slice none 0 0,.slice none 0 0,.slice none 0 0,.slice none 0 0,.slice none 0 0],.int .i64 1,.slice (some ⟨gb46,0,none⟩) 1 1,.slice (some ⟨gb49,0,none⟩) 2 2] rfl Try.func32 rfl rfl rfl fun w51 hL52=>?_) gn
 have hp53:=pmI hL52 .n (.c 0 rfl (.c 1 rfl (.c 2 rfl (.c 3 rfl (.c 4 rfl (.c 5 rfl .n)))))) (by kernel_rfl)
 refine Calls.mono (Xqp w51 (Fl ([]:List Xmq)) (⟨(⟨#[]⟩:ByteArray),([]:List Xps),(⟨([(⟨(⟨#[]⟩:ByteArray),false⟩:Xna),(⟨(⟨#[97]⟩:ByteArray),false⟩:Xna)]:List Xna),([(⟨(⟨#[115]⟩:ByteArray),1⟩:Xq9)]:List Xq9),([(⟨-1,([(⟨2,(⟨#[]⟩:ByteArray),(⟨#[]⟩:ByteArray)⟩:Xn1)]:List Xn1)⟩:Xnz),(⟨0,([(⟨1,(⟨#[102]⟩:ByteArray),(⟨#[]⟩:ByteArray)⟩:Xn1)]:List Xn1)⟩:Xnz)]:List Xnz)⟩:Xnn),([]:List Xsk),(⟨([]:List (List Xoi)),([]:List (List Int))⟩:Xtb),([]:List Xpe),([]:List ByteArray),([]:List Xpu),([]:List Xow)⟩:Xmw) 1 ([r31]:List (List Xm4)) ([0,5]:List Int) none 0 0 (some ⟨gb2,0,none⟩) 2 2 (some ⟨gb5,0,none⟩) 1 1 (some ⟨gb24,0,none⟩) 2 2 none 0 0 none 0 0 none 0 0 none 0 0 none 0 0 none 0 0 none 0 0 (some ⟨gb46,0,none⟩) 1 1 (some ⟨gb49,0,none⟩) 2 2 Rw.nil (hL52.argO (dk:=Xnt) hp53 [] rfl 5 rfl rfl h3 (me 4 rfl) (Cells.flat _)) (hL52.argO (dk:=Xpk) hp53 [] rfl 4 rfl rfl h6 (me 4 rfl) (Cells.flat _)) (hL52.argO (dk:=Xos) hp53 [] rfl 3 rfl rfl h25 (me 1 rfl) hC23) Rw.nil Rw.nil Rw.nil Rw.nil Rw.nil Rw.nil Rw.nil (hL52.argO (dk:=(Kd.slice Xml)) hp53 [] rfl 1 rfl rfl h47 (me 0 rfl) hC45) (hL52.argO (dk:=(Xsu .i64)) hp53 [] rfl 0 rfl rfl h50 (me 4 rfl) (Cells.flat _)) (hL52.hFl hp53 (Xmt [] rfl)) (hL52.into hp53 _) r54 hv55) ?_
 rintro _ w61 ⟨A56,n57,c58,rfl,hM62,h59⟩
 have hL63:=hL52.call hp53 hM62
 refine ⟨_,_,_,rfl,hL63,?_⟩
 refine Xm5 5 rfl (Xma rfl) gn rfl<|Xmc 6 rfl<|Xmb rfl<|Xm6 rfl rfl<|Xm5 0 rfl (Xm8 rfl) gn rfl ?_
 obtain ⟨r68,hv69,h⟩:=h
 refine Xmr 1 rfl (Xmz [.slice A56 n57 c58,.int .i64 0] rfl Try.func42 rfl rfl rfl fun w65 hL66=>?_) gn
 have hp67:=pmI hL66 .n (.c 0 rfl (.c 1 rfl (.c 2 rfl (.c 3 rfl (.c 4 rfl (.c 5 rfl (.c 6 rfl .n))))))) (by kernel_rfl)
 refine Calls.mono (Ybh w65 (Fl ([]:List Xmq)) r54 0 A56 n57 c58 (hL66.argO (dk:=Xml) hp67 [] rfl 0 rfl rfl (Ow.weak hL52.env.size h59) (me 4 rfl) (Cells.flat _)) (hL66.hFl hp67 (Xmt [] rfl)) (hL66.into hp67 _) r68 hv69) ?_
 rintro _ w75 ⟨A70,n71,c72,rfl,hM76,h73⟩
 have hL77:=hL66.call hp67 hM76
 refine ⟨_,_,_,rfl,hL77,?_⟩
 refine Xm5 2 rfl (Xma rfl) gn rfl<|Xmc 3 rfl<|Xmb rfl<|Xm6 rfl rfl<|Xm5 0 rfl (Xm8 rfl) gn rfl ?_
 obtain ⟨r81,hv82,h⟩:=h
 refine Xmr 1 rfl (Xmz [.slice A56 n57 c58] rfl Try.func53 rfl rfl rfl fun w78 hL79=>?_) gn
 have hp80:=pmI hL79 .n (.c 0 rfl (.c 1 rfl (.c 2 rfl (.c 3 rfl (.c 4 rfl (.c 5 rfl (.c 6 rfl (.c 7 rfl .n)))))))) (by kernel_rfl)
 refine Calls.mono (Ybk w78 (Fl ([]:List Xmq)) r54 A56 n57 c58 (hL79.argO (dk:=Xml) hp80 [] rfl 1 rfl rfl (Ow.weak hL52.env.size h59) (me 4 rfl) (Cells.flat _)) (hL79.hFl hp80 (Xmt [] rfl)) (hL79.into hp80 _) r81 hv82) ?_
 rintro _ w83 ⟨rfl,hM84⟩
 have hL85:=hL79.call hp80 hM84
 refine ⟨_,_,_,rfl,hL85,?_⟩
 refine Xm5 2 rfl (Xma rfl) gn rfl<|Xmc 3 rfl<|Xmb rfl<|Xm6 rfl rfl<|Xm5 0 rfl (Xm8 rfl) gn rfl<|Xm5 1 rfl (Xn0 Xum rfl h41.hq) gn rfl<|Xm5 2 rfl (Xmn rfl rfl rfl) gn rfl<|Xm5 3 rfl (Xm8 rfl) gn rfl ?_
 by_cases hp86:(r31.length:Int)=1
 ·have h:=Xmh hp86 h
  refine Xmx 34 rfl ((eqi hp86))<|Xm5 4 rfl (Xm8 rfl) (gy 34 rfl rfl) rfl<|Xm5 5 rfl (Xn0 Xum rfl (Ow.weak hL52.env.size h59).hq) (gy 34 rfl rfl) rfl<|Xm5 6 rfl (Xmn rfl rfl rfl) (gy 34 rfl rfl) rfl<|Xm5 7 rfl (Xmk (b:=true) rfl rfl) gn rfl<|Xm5 8 rfl (Xm8 rfl) gn rfl ?_
  by_cases hp87:(r54.length:Int)=2
  ·have h:=Xmh hp87 h
   refine Xmx 39 rfl ((eqi hp87))<|Xm5 9 rfl (Xm8 rfl) (gy 39 rfl rfl) rfl ?_
   obtain ⟨hb88,h⟩:=h
   refine Xm5 10 rfl (Xot Xrr rfl rfl (Ow.weak hL52.env.size h59) hb88) (gy 39 rfl rfl) rfl<|Xm5 11 rfl (Xp5 Xzy rfl) (gy 39 rfl rfl) rfl<|Xm5 12 rfl (Xq7 (.int .i64 ((ix r54 0).from_)) 1 Xqt rfl rfl (Yab Xn7 hb88 rfl)) (gy 39 rfl rfl) rfl<|Xm5 13 rfl (Xmn rfl rfl rfl) (gy 39 rfl rfl) rfl<|Xm5 14 rfl (Xmk (b:=true) rfl rfl) gn rfl<|Xm5 15 rfl (Xm8 rfl) gn rfl ?_
   by_cases hp89:(ix r54 0).from_=2
   ·have h:=Xmh hp89 h
    refine Xmx 46 rfl ((eqi hp89))<|Xm5 16 rfl (Xm8 rfl) (gy 46 rfl rfl) rfl<|Xm5 17 rfl (Xot Xrr rfl rfl (Ow.weak hL52.env.size h59) hb88) (gy 46 rfl rfl) rfl<|Xm5 18 rfl (Xp5 Xzx rfl) (gy 46 rfl rfl) rfl<|Xm5 19 rfl (Xq7 (.int .i64 ((ix r54 0).to)) 1 Xqt rfl rfl (Yab Xn7 hb88 rfl)) (gy 46 rfl rfl) rfl<|Xm5 20 rfl (Xmn rfl rfl rfl) (gy 46 rfl rfl) rfl<|Xm5 21 rfl (Xmk (b:=true) rfl rfl) gn rfl<|Xm5 22 rfl (Xm8 rfl) gn rfl ?_
    by_cases hp90:(ix r54 0).to=5
    ·have h:=Xmh hp90 h
     refine Xmx 53 rfl ((eqi hp90))<|Xm5 23 rfl (Xm8 rfl) (gy 53 rfl rfl) rfl<|Xm5 24 rfl (Xot Xrr rfl rfl (Ow.weak hL52.env.size h59) hb88) (gy 53 rfl rfl) rfl<|Xm5 25 rfl (Xp5 Xt8 rfl) (gy 53 rfl rfl) rfl<|Xm5 26 rfl (Xq7 (.int .i64 ((ix r54 0).kids)) 1 Xqt rfl rfl (Yab Xn7 hb88 rfl)) (gy 53 rfl rfl) rfl<|Xm5 27 rfl (Xmn rfl rfl rfl) (gy 53 rfl rfl) rfl<|Xm5 28 rfl (Xmk (b:=true) rfl rfl) gn rfl<|Xm5 29 rfl (Xm8 rfl) gn rfl ?_
     by_cases hp91:(ix r54 0).kids=1
     ·have h:=Xmh hp91 h
      refine Xmx 60 rfl ((eqi hp91))<|Xm5 30 rfl (Xm8 rfl) (gy 60 rfl rfl) rfl<|Xm5 31 rfl (Xot Xrr rfl rfl (Ow.weak hL52.env.size h59) hb88) (gy 60 rfl rfl) rfl<|Xm5 32 rfl (Xp5 fo_39_6 rfl) (gy 60 rfl rfl) rfl<|Xm5 33 rfl (Xq7 (.int .i64 ((ix r54 0).leaf)) 1 Xqt rfl rfl (Yab Xn7 hb88 rfl)) (gy 60 rfl rfl) rfl<|Xm5 34 rfl (Xmn rfl rfl rfl) (gy 60 rfl rfl) rfl<|Xm5 35 rfl (Xmk (b:=true) rfl rfl) gn rfl<|Xm5 36 rfl (Xm8 rfl) gn rfl ?_
      by_cases hp92:(ix r54 0).leaf = -1
      ·have h:=Xmh hp92 h
       refine Xmx 67 rfl ((eqi hp92))<|Xm5 37 rfl (Xm8 rfl) (gy 67 rfl rfl) rfl<|Xm5 38 rfl (Xn0 Xrh rfl (Ow.weak hL66.env.size h73).hq) (gy 67 rfl rfl) rfl<|Xm5 39 rfl (Xmn rfl rfl rfl) (gy 67 rfl rfl) rfl<|Xm5 40 rfl (Xmk (b:=true) rfl rfl) gn rfl<|Xm5 41 rfl (Xm8 rfl) gn rfl ?_
       by_cases hp93:(r68.length:Int)=1
       ·have h:=Xmh hp93 h
        refine Xmx 72 rfl ((eqi hp93))<|Xm5 42 rfl (Xm8 rfl) (gy 72 rfl rfl) rfl ?_
        obtain ⟨hb94,h⟩:=h
        refine Xm5 43 rfl (Xot Xq8 rfl rfl (Ow.weak hL66.env.size h73) hb94) (gy 72 rfl rfl) rfl<|Xm5 44 rfl (Xq7 (.int .i64 (ix r68 0)) 0 Xqt rfl rfl (Xsb (hlI .i64) hb94 rfl)) (gy 72 rfl rfl) rfl<|Xm5 45 rfl (Xmn rfl rfl rfl) (gy 72 rfl rfl) rfl<|Xm5 46 rfl (Xmk (b:=true) rfl rfl) gn rfl<|Xm5 47 rfl (Xm8 rfl) gn rfl ?_
        by_cases hp95:ix r68 0=1
        ·have h:=Xmh hp95 h
         refine Xmx 78 rfl ((eqi hp95))<|Xm5 48 rfl (Xm8 rfl) (gy 78 rfl rfl) rfl<|Xm5 49 rfl (Ye1 rfl rfl) (gy 78 rfl rfl) rfl<|Xm5 50 rfl (Xmk (b:=true) rfl rfl) gn rfl<|Xm5 51 rfl (Xm8 rfl) gn rfl ?_
         by_cases hp96:r81=(⟨#[40,115,32,102,58,32,40,97,41,41]⟩:ByteArray)
         ·have h:=Xmh hp96 h
          refine Xmx 82 rfl ((Xzr hp96))<|Xm5 52 rfl (Xm8 rfl) (gy 82 rfl rfl) rfl ?_
          obtain ⟨r100,hv101,h⟩:=h
          refine Xmr 53 rfl (Xmz [.slice A56 n57 c58] rfl Try.func37 rfl rfl rfl fun w97 hL98=>?_) (gy 82 rfl rfl)
          have hp99:=pmI hL98 .n (.c 0 rfl (.c 1 rfl (.c 2 rfl (.c 3 rfl (.c 4 rfl (.c 5 rfl (.c 6 rfl (.c 7 rfl .n)))))))) (by kernel_rfl)
          refine Calls.mono (Xx1 w97 (Fl ([]:List Xmq)) r54 A56 n57 c58 (hL98.argO (dk:=Xml) hp99 [] rfl 1 rfl rfl (Ow.weak hL52.env.size h59) (me 4 rfl) (Cells.flat _)) (hL98.hFl hp99 (Xmt [] rfl)) (hL98.into hp99 _) r100 hv101) ?_
          rintro _ w102 ⟨rfl,hM103⟩
          have hL104:=hL98.call hp99 hM103
          refine ⟨_,_,_,rfl,hL104,?_⟩
          refine Xm5 54 rfl (Xmn rfl rfl rfl) (gy 82 rfl rfl) rfl<|Xm5 55 rfl (Xmk (b:=true) rfl rfl) gn rfl<|Xm5 56 rfl (Xma rfl) gn rfl<|Xmc 57 rfl ?_
          refine Xmu [.bool (r100 == 1)] rfl Try.func31 rfl (.tmp rfl (.nil)) fun wr hLr=>?_
          have hMr:=hLr.pk0 (.c 5 rfl .n)
          show Xnj w F  r (.returned (Xn4 [.bool (r100 == 1)])) wr
          rw [h]
          exact ⟨rfl,hMr⟩
         ·have h:=Xmg hp96 h
          refine Xmx 82 rfl ((Ya4 hp96))<|Xm9 52 rfl (ps 82 rfl rfl rfl)<|Xm9 53 rfl (ps 82 rfl rfl rfl)<|Xm9 54 rfl (ps 82 rfl rfl rfl)<|Xm5 55 rfl (Xmk (b:=false) rfl rfl) gn rfl<|Xm5 56 rfl (Xma rfl) gn rfl<|Xmc 57 rfl ?_
          refine Xmu [.bool false] rfl Try.func31 rfl (.tmp rfl (.nil)) fun wr hLr=>?_
          have hMr:=hLr.pk0 (.c 5 rfl .n)
          show Xnj w F  r (.returned (Xn4 [.bool false])) wr
          rw [h]
          exact ⟨rfl,hMr⟩
        ·have h:=Xmg hp95 h
         refine Xmx 78 rfl ((nei hp95))<|Xm9 48 rfl (ps 78 rfl rfl rfl)<|Xm9 49 rfl (ps 78 rfl rfl rfl)<|Xm5 50 rfl (Xmk (b:=false) rfl rfl) gn rfl<|Xm5 51 rfl (Xm8 rfl) gn rfl<|Xm9 52 rfl (ps 82 rfl rfl rfl)<|Xm9 53 rfl (ps 82 rfl rfl rfl)<|Xm9 54 rfl (ps 82 rfl rfl rfl)<|Xm5 55 rfl (Xmk (b:=false) rfl rfl) gn rfl<|Xm5 56 rfl (Xma rfl) gn rfl<|Xmc 57 rfl ?_
         refine Xmu [.bool false] rfl Try.func31 rfl (.tmp rfl (.nil)) fun wr hLr=>?_
         have hMr:=hLr.pk0 (.c 5 rfl .n)
         show Xnj w F  r (.returned (Xn4 [.bool false])) wr
         rw [h]
         exact ⟨rfl,hMr⟩
       ·have h:=Xmg hp93 h
        refine Xmx 72 rfl ((nei hp93))<|Xm9 42 rfl (ps 72 rfl rfl rfl)<|Xm9 43 rfl (ps 72 rfl rfl rfl)<|Xm9 44 rfl (ps 72 rfl rfl rfl)<|Xm9 45 rfl (ps 72 rfl rfl rfl)<|Xm5 46 rfl (Xmk (b:=false) rfl rfl) gn rfl<|Xm5 47 rfl (Xm8 rfl) gn rfl<|Xm9 48 rfl (ps 78 rfl rfl rfl)<|Xm9 49 rfl (ps 78 rfl rfl rfl)<|Xm5 50 rfl (Xmk (b:=false) rfl rfl) gn rfl<|Xm5 51 rfl (Xm8 rfl) gn rfl<|Xm9 52 rfl (ps 82 rfl rfl rfl) ?_
        refine Xm9 53 rfl (ps 82 rfl rfl rfl)<|Xm9 54 rfl (ps 82 rfl rfl rfl)<|Xm5 55 rfl (Xmk (b:=false) rfl rfl) gn rfl<|Xm5 56 rfl (Xma rfl) gn rfl<|Xmc 57 rfl ?_
        refine Xmu [.bool false] rfl Try.func31 rfl (.tmp rfl (.nil)) fun wr hLr=>?_
        have hMr:=hLr.pk0 (.c 5 rfl .n)
        show Xnj w F  r (.returned (Xn4 [.bool false])) wr
        rw [h]
        exact ⟨rfl,hMr⟩
      ·have h:=Xmg hp92 h
       refine Xmx 67 rfl ((nei hp92))<|Xm9 37 rfl (ps 67 rfl rfl rfl)<|Xm9 38 rfl (ps 67 rfl rfl rfl)<|Xm9 39 rfl (ps 67 rfl rfl rfl)<|Xm5 40 rfl (Xmk (b:=false) rfl rfl) gn rfl<|Xm5 41 rfl (Xm8 rfl) gn rfl<|Xm9 42 rfl (ps 72 rfl rfl rfl)<|Xm9 43 rfl (ps 72 rfl rfl rfl)<|Xm9 44 rfl (ps 72 rfl rfl rfl)<|Xm9 45 rfl (ps 72 rfl rfl rfl)<|Xm5 46 rfl (Xmk (b:=false) rfl rfl) gn rfl<|Xm5 47 rfl (Xm8 rfl) gn rfl ?_
       refine Xm9 48 rfl (ps 78 rfl rfl rfl)<|Xm9 49 rfl (ps 78 rfl rfl rfl)<|Xm5 50 rfl (Xmk (b:=false) rfl rfl) gn rfl<|Xm5 51 rfl (Xm8 rfl) gn rfl<|Xm9 52 rfl (ps 82 rfl rfl rfl)<|Xm9 53 rfl (ps 82 rfl rfl rfl)<|Xm9 54 rfl (ps 82 rfl rfl rfl)<|Xm5 55 rfl (Xmk (b:=false) rfl rfl) gn rfl<|Xm5 56 rfl (Xma rfl) gn rfl<|Xmc 57 rfl ?_
       refine Xmu [.bool false] rfl Try.func31 rfl (.tmp rfl (.nil)) fun wr hLr=>?_
       have hMr:=hLr.pk0 (.c 5 rfl .n)
       show Xnj w F  r (.returned (Xn4 [.bool false])) wr
       rw [h]
       exact ⟨rfl,hMr⟩
     ·have h:=Xmg hp91 h
      refine Xmx 60 rfl ((nei hp91))<|Xm9 30 rfl (ps 60 rfl rfl rfl)<|Xm9 31 rfl (ps 60 rfl rfl rfl)<|Xm9 32 rfl (ps 60 rfl rfl rfl)<|Xm9 33 rfl (ps 60 rfl rfl rfl)<|Xm9 34 rfl (ps 60 rfl rfl rfl)<|Xm5 35 rfl (Xmk (b:=false) rfl rfl) gn rfl<|Xm5 36 rfl (Xm8 rfl) gn rfl<|Xm9 37 rfl (ps 67 rfl rfl rfl)<|Xm9 38 rfl (ps 67 rfl rfl rfl)<|Xm9 39 rfl (ps 67 rfl rfl rfl)<|Xm5 40 rfl (Xmk (b:=false) rfl rfl) gn rfl ?_
      refine Xm5 41 rfl (Xm8 rfl) gn rfl<|Xm9 42 rfl (ps 72 rfl rfl rfl)<|Xm9 43 rfl (ps 72 rfl rfl rfl)<|Xm9 44 rfl (ps 72 rfl rfl rfl)<|Xm9 45 rfl (ps 72 rfl rfl rfl)<|Xm5 46 rfl (Xmk (b:=false) rfl rfl) gn rfl<|Xm5 47 rfl (Xm8 rfl) gn rfl<|Xm9 48 rfl (ps 78 rfl rfl rfl)<|Xm9 49 rfl (ps 78 rfl rfl rfl)<|Xm5 50 rfl (Xmk (b:=false) rfl rfl) gn rfl<|Xm5 51 rfl (Xm8 rfl) gn rfl<|Xm9 52 rfl (ps 82 rfl rfl rfl) ?_
      refine Xm9 53 rfl (ps 82 rfl rfl rfl)<|Xm9 54 rfl (ps 82 rfl rfl rfl)<|Xm5 55 rfl (Xmk (b:=false) rfl rfl) gn rfl<|Xm5 56 rfl (Xma rfl) gn rfl<|Xmc 57 rfl ?_
      refine Xmu [.bool false] rfl Try.func31 rfl (.tmp rfl (.nil)) fun wr hLr=>?_
      have hMr:=hLr.pk0 (.c 5 rfl .n)
      show Xnj w F  r (.returned (Xn4 [.bool false])) wr
      rw [h]
      exact ⟨rfl,hMr⟩
    ·have h:=Xmg hp90 h
     refine Xmx 53 rfl ((nei hp90))<|Xm9 23 rfl (ps 53 rfl rfl rfl)<|Xm9 24 rfl (ps 53 rfl rfl rfl)<|Xm9 25 rfl (ps 53 rfl rfl rfl)<|Xm9 26 rfl (ps 53 rfl rfl rfl)<|Xm9 27 rfl (ps 53 rfl rfl rfl)<|Xm5 28 rfl (Xmk (b:=false) rfl rfl) gn rfl<|Xm5 29 rfl (Xm8 rfl) gn rfl<|Xm9 30 rfl (ps 60 rfl rfl rfl)<|Xm9 31 rfl (ps 60 rfl rfl rfl)<|Xm9 32 rfl (ps 60 rfl rfl rfl)<|Xm9 33 rfl (ps 60 rfl rfl rfl) ?_
     refine Xm9 34 rfl (ps 60 rfl rfl rfl)<|Xm5 35 rfl (Xmk (b:=false) rfl rfl) gn rfl<|Xm5 36 rfl (Xm8 rfl) gn rfl<|Xm9 37 rfl (ps 67 rfl rfl rfl)<|Xm9 38 rfl (ps 67 rfl rfl rfl)<|Xm9 39 rfl (ps 67 rfl rfl rfl)<|Xm5 40 rfl (Xmk (b:=false) rfl rfl) gn rfl<|Xm5 41 rfl (Xm8 rfl) gn rfl<|Xm9 42 rfl (ps 72 rfl rfl rfl)<|Xm9 43 rfl (ps 72 rfl rfl rfl)<|Xm9 44 rfl (ps 72 rfl rfl rfl)<|Xm9 45 rfl (ps 72 rfl rfl rfl) ?_
     refine Xm5 46 rfl (Xmk (b:=false) rfl rfl) gn rfl<|Xm5 47 rfl (Xm8 rfl) gn rfl<|Xm9 48 rfl (ps 78 rfl rfl rfl)<|Xm9 49 rfl (ps 78 rfl rfl rfl)<|Xm5 50 rfl (Xmk (b:=false) rfl rfl) gn rfl<|Xm5 51 rfl (Xm8 rfl) gn rfl<|Xm9 52 rfl (ps 82 rfl rfl rfl)<|Xm9 53 rfl (ps 82 rfl rfl rfl)<|Xm9 54 rfl (ps 82 rfl rfl rfl)<|Xm5 55 rfl (Xmk (b:=false) rfl rfl) gn rfl<|Xm5 56 rfl (Xma rfl) gn rfl<|Xmc 57 rfl ?_
     refine Xmu [.bool false] rfl Try.func31 rfl (.tmp rfl (.nil)) fun wr hLr=>?_
     have hMr:=hLr.pk0 (.c 5 rfl .n)
     show Xnj w F  r (.returned (Xn4 [.bool false])) wr
     rw [h]
     exact ⟨rfl,hMr⟩
   ·have h:=Xmg hp89 h
    refine Xmx 46 rfl ((nei hp89))<|Xm9 16 rfl (ps 46 rfl rfl rfl)<|Xm9 17 rfl (ps 46 rfl rfl rfl)<|Xm9 18 rfl (ps 46 rfl rfl rfl)<|Xm9 19 rfl (ps 46 rfl rfl rfl)<|Xm9 20 rfl (ps 46 rfl rfl rfl)<|Xm5 21 rfl (Xmk (b:=false) rfl rfl) gn rfl<|Xm5 22 rfl (Xm8 rfl) gn rfl<|Xm9 23 rfl (ps 53 rfl rfl rfl)<|Xm9 24 rfl (ps 53 rfl rfl rfl)<|Xm9 25 rfl (ps 53 rfl rfl rfl)<|Xm9 26 rfl (ps 53 rfl rfl rfl) ?_
    refine Xm9 27 rfl (ps 53 rfl rfl rfl)<|Xm5 28 rfl (Xmk (b:=false) rfl rfl) gn rfl<|Xm5 29 rfl (Xm8 rfl) gn rfl<|Xm9 30 rfl (ps 60 rfl rfl rfl)<|Xm9 31 rfl (ps 60 rfl rfl rfl)<|Xm9 32 rfl (ps 60 rfl rfl rfl)<|Xm9 33 rfl (ps 60 rfl rfl rfl)<|Xm9 34 rfl (ps 60 rfl rfl rfl)<|Xm5 35 rfl (Xmk (b:=false) rfl rfl) gn rfl<|Xm5 36 rfl (Xm8 rfl) gn rfl<|Xm9 37 rfl (ps 67 rfl rfl rfl)<|Xm9 38 rfl (ps 67 rfl rfl rfl) ?_
    refine Xm9 39 rfl (ps 67 rfl rfl rfl)<|Xm5 40 rfl (Xmk (b:=false) rfl rfl) gn rfl<|Xm5 41 rfl (Xm8 rfl) gn rfl<|Xm9 42 rfl (ps 72 rfl rfl rfl)<|Xm9 43 rfl (ps 72 rfl rfl rfl)<|Xm9 44 rfl (ps 72 rfl rfl rfl)<|Xm9 45 rfl (ps 72 rfl rfl rfl)<|Xm5 46 rfl (Xmk (b:=false) rfl rfl) gn rfl<|Xm5 47 rfl (Xm8 rfl) gn rfl<|Xm9 48 rfl (ps 78 rfl rfl rfl)<|Xm9 49 rfl (ps 78 rfl rfl rfl)<|Xm5 50 rfl (Xmk (b:=false) rfl rfl) gn rfl ?_
    refine Xm5 51 rfl (Xm8 rfl) gn rfl<|Xm9 52 rfl (ps 82 rfl rfl rfl)<|Xm9 53 rfl (ps 82 rfl rfl rfl)<|Xm9 54 rfl (ps 82 rfl rfl rfl)<|Xm5 55 rfl (Xmk (b:=false) rfl rfl) gn rfl<|Xm5 56 rfl (Xma rfl) gn rfl<|Xmc 57 rfl ?_
    refine Xmu [.bool false] rfl Try.func31 rfl (.tmp rfl (.nil)) fun wr hLr=>?_
    have hMr:=hLr.pk0 (.c 5 rfl .n)
    show Xnj w F  r (.returned (Xn4 [.bool false])) wr
    rw [h]
    exact ⟨rfl,hMr⟩
  ·have h:=Xmg hp87 h
   refine Xmx 39 rfl ((nei hp87))<|Xm9 9 rfl (ps 39 rfl rfl rfl)<|Xm9 10 rfl (ps 39 rfl rfl rfl)<|Xm9 11 rfl (ps 39 rfl rfl rfl)<|Xm9 12 rfl (ps 39 rfl rfl rfl)<|Xm9 13 rfl (ps 39 rfl rfl rfl)<|Xm5 14 rfl (Xmk (b:=false) rfl rfl) gn rfl<|Xm5 15 rfl (Xm8 rfl) gn rfl<|Xm9 16 rfl (ps 46 rfl rfl rfl)<|Xm9 17 rfl (ps 46 rfl rfl rfl)<|Xm9 18 rfl (ps 46 rfl rfl rfl)<|Xm9 19 rfl (ps 46 rfl rfl rfl) ?_
   refine Xm9 20 rfl (ps 46 rfl rfl rfl)<|Xm5 21 rfl (Xmk (b:=false) rfl rfl) gn rfl<|Xm5 22 rfl (Xm8 rfl) gn rfl<|Xm9 23 rfl (ps 53 rfl rfl rfl)<|Xm9 24 rfl (ps 53 rfl rfl rfl)<|Xm9 25 rfl (ps 53 rfl rfl rfl)<|Xm9 26 rfl (ps 53 rfl rfl rfl)<|Xm9 27 rfl (ps 53 rfl rfl rfl)<|Xm5 28 rfl (Xmk (b:=false) rfl rfl) gn rfl<|Xm5 29 rfl (Xm8 rfl) gn rfl<|Xm9 30 rfl (ps 60 rfl rfl rfl)<|Xm9 31 rfl (ps 60 rfl rfl rfl) ?_
   refine Xm9 32 rfl (ps 60 rfl rfl rfl)<|Xm9 33 rfl (ps 60 rfl rfl rfl)<|Xm9 34 rfl (ps 60 rfl rfl rfl)<|Xm5 35 rfl (Xmk (b:=false) rfl rfl) gn rfl<|Xm5 36 rfl (Xm8 rfl) gn rfl<|Xm9 37 rfl (ps 67 rfl rfl rfl)<|Xm9 38 rfl (ps 67 rfl rfl rfl)<|Xm9 39 rfl (ps 67 rfl rfl rfl)<|Xm5 40 rfl (Xmk (b:=false) rfl rfl) gn rfl<|Xm5 41 rfl (Xm8 rfl) gn rfl<|Xm9 42 rfl (ps 72 rfl rfl rfl)<|Xm9 43 rfl (ps 72 rfl rfl rfl) ?_
   refine Xm9 44 rfl (ps 72 rfl rfl rfl)<|Xm9 45 rfl (ps 72 rfl rfl rfl)<|Xm5 46 rfl (Xmk (b:=false) rfl rfl) gn rfl<|Xm5 47 rfl (Xm8 rfl) gn rfl<|Xm9 48 rfl (ps 78 rfl rfl rfl)<|Xm9 49 rfl (ps 78 rfl rfl rfl)<|Xm5 50 rfl (Xmk (b:=false) rfl rfl) gn rfl<|Xm5 51 rfl (Xm8 rfl) gn rfl<|Xm9 52 rfl (ps 82 rfl rfl rfl)<|Xm9 53 rfl (ps 82 rfl rfl rfl)<|Xm9 54 rfl (ps 82 rfl rfl rfl)<|Xm5 55 rfl (Xmk (b:=false) rfl rfl) gn rfl ?_
   refine Xm5 56 rfl (Xma rfl) gn rfl<|Xmc 57 rfl ?_
   refine Xmu [.bool false] rfl Try.func31 rfl (.tmp rfl (.nil)) fun wr hLr=>?_
   have hMr:=hLr.pk0 (.c 5 rfl .n)
   show Xnj w F  r (.returned (Xn4 [.bool false])) wr
   rw [h]
   exact ⟨rfl,hMr⟩
 ·have h:=Xmg hp86 h
  refine Xmx 34 rfl ((nei hp86))<|Xm9 4 rfl (ps 34 rfl rfl rfl)<|Xm9 5 rfl (ps 34 rfl rfl rfl)<|Xm9 6 rfl (ps 34 rfl rfl rfl)<|Xm5 7 rfl (Xmk (b:=false) rfl rfl) gn rfl<|Xm5 8 rfl (Xm8 rfl) gn rfl<|Xm9 9 rfl (ps 39 rfl rfl rfl)<|Xm9 10 rfl (ps 39 rfl rfl rfl)<|Xm9 11 rfl (ps 39 rfl rfl rfl)<|Xm9 12 rfl (ps 39 rfl rfl rfl)<|Xm9 13 rfl (ps 39 rfl rfl rfl)<|Xm5 14 rfl (Xmk (b:=false) rfl rfl) gn rfl ?_
  refine Xm5 15 rfl (Xm8 rfl) gn rfl<|Xm9 16 rfl (ps 46 rfl rfl rfl)<|Xm9 17 rfl (ps 46 rfl rfl rfl)<|Xm9 18 rfl (ps 46 rfl rfl rfl)<|Xm9 19 rfl (ps 46 rfl rfl rfl)<|Xm9 20 rfl (ps 46 rfl rfl rfl)<|Xm5 21 rfl (Xmk (b:=false) rfl rfl) gn rfl<|Xm5 22 rfl (Xm8 rfl) gn rfl<|Xm9 23 rfl (ps 53 rfl rfl rfl)<|Xm9 24 rfl (ps 53 rfl rfl rfl)<|Xm9 25 rfl (ps 53 rfl rfl rfl)<|Xm9 26 rfl (ps 53 rfl rfl rfl) ?_
  refine Xm9 27 rfl (ps 53 rfl rfl rfl)<|Xm5 28 rfl (Xmk (b:=false) rfl rfl) gn rfl<|Xm5 29 rfl (Xm8 rfl) gn rfl<|Xm9 30 rfl (ps 60 rfl rfl rfl)<|Xm9 31 rfl (ps 60 rfl rfl rfl)<|Xm9 32 rfl (ps 60 rfl rfl rfl)<|Xm9 33 rfl (ps 60 rfl rfl rfl)<|Xm9 34 rfl (ps 60 rfl rfl rfl)<|Xm5 35 rfl (Xmk (b:=false) rfl rfl) gn rfl<|Xm5 36 rfl (Xm8 rfl) gn rfl<|Xm9 37 rfl (ps 67 rfl rfl rfl)<|Xm9 38 rfl (ps 67 rfl rfl rfl) ?_
  refine Xm9 39 rfl (ps 67 rfl rfl rfl)<|Xm5 40 rfl (Xmk (b:=false) rfl rfl) gn rfl<|Xm5 41 rfl (Xm8 rfl) gn rfl<|Xm9 42 rfl (ps 72 rfl rfl rfl)<|Xm9 43 rfl (ps 72 rfl rfl rfl)<|Xm9 44 rfl (ps 72 rfl rfl rfl)<|Xm9 45 rfl (ps 72 rfl rfl rfl)<|Xm5 46 rfl (Xmk (b:=false) rfl rfl) gn rfl<|Xm5 47 rfl (Xm8 rfl) gn rfl<|Xm9 48 rfl (ps 78 rfl rfl rfl)<|Xm9 49 rfl (ps 78 rfl rfl rfl)<|Xm5 50 rfl (Xmk (b:=false) rfl rfl) gn rfl ?_
  refine Xm5 51 rfl (Xm8 rfl) gn rfl<|Xm9 52 rfl (ps 82 rfl rfl rfl)<|Xm9 53 rfl (ps 82 rfl rfl rfl)<|Xm9 54 rfl (ps 82 rfl rfl rfl)<|Xm5 55 rfl (Xmk (b:=false) rfl rfl) gn rfl<|Xm5 56 rfl (Xma rfl) gn rfl<|Xmc 57 rfl ?_
  refine Xmu [.bool false] rfl Try.func31 rfl (.tmp rfl (.nil)) fun wr hLr=>?_
  have hMr:=hLr.pk0 (.c 5 rfl .n)
  show Xnj w F  r (.returned (Xn4 [.bool false])) wr
  rw [h]
  exact ⟨rfl,hMr⟩
noncomputable abbrev Yfp:=Code.snd (Xo5 Try.f34)
noncomputable abbrev Ydt:=Code.fst (Code.fst (Code.snd (Code.fst (Xo5 Try.f34))))
noncomputable abbrev Yac:=Code.fst (Code.fst (Code.snd (Code.snd Yfp)))
abbrev Xst (w:World) (F:Nat→Prop) (A2:Option Addr) (n3:Nat) (c4:Nat) (z6:Nat) (r:List Xm4):Ending→World→Prop:=fun e w'=>e=.returned (.tuple #[])∧B.Loc w w' [.own (.slice A2 n3 c4) 39 7 n3 (r.flatMap Xmd)] [St w [(Value.slice A2 n3 c4).ownBlock.toList]]∧Ow z6 A2 n3 c4 r
noncomputable abbrev Xp7 (w:World) (F:Nat→Prop) (A2:Option Addr) (n3:Nat) (c4:Nat) (z6:Nat) (r:List Xm4):Cx:=⟨Try.prog,34,Try.f34,25,Xst w F A2 n3 c4 z6 r,w⟩
theorem Xrt (w:World) (F:Nat→Prop) (x1:List Xm4) (z6:Nat) (A2:Option Addr) (n3:Nat) (c4:Nat) (hz7:z6≤w.heap.size) (h5:Ow z6 A2 n3 c4 x1) (hF:∀ b,F b→b < w.heap.size∧∀ o ∈ ([(Value.slice A2 n3 c4).ownBlock.toList]:List (List Nat)),b ∉ o) (hL0:B.Loc w w [.own (.slice A2 n3 c4) 39 7 n3 (x1.flatMap Xmd)] [Sm w.heap.size F w [(Value.slice A2 n3 c4).ownBlock.toList],St w [(Value.slice A2 n3 c4).ownBlock.toList]]) (r:List Xm4) (h:Xp8 x1 r):Calls Try.prog 34 #[.slice A2 n3 c4] w (Xst w F A2 n3 c4 z6 r):=by
 unfold Xp8 at h
 refine Xms (vs:=[.slice A2 n3 c4]) 25 Try.func34 rfl Try.ntmps34 rfl hL0 ?_
 show G (Xp7 w F A2 n3 c4 z6 r) _ _ _ _
 refine Xmb rfl<|Xmb rfl<|Xm6 rfl rfl<|Xm5 0 rfl (Xma rfl) gn rfl<|Xmc 1 rfl<|Xn8 rfl<|Xqc rfl ?_
 have key1:∀ s,Xmi (fun (s:(List Xm4) × Int) o=>Xo6 s.1 s.2 o) s r→(fun (s:(List Xm4) × Int)=>∀ (h51:Ow z6 A2 n3 c4 s.1),G (Xp7 w F A2 n3 c4 z6 r) [.code Ydt,.inLoop Ydt,.inBlock 0,.code Yfp] [(0,.slice A2 n3 c4),(2,.int .i64 s.2)] [.own (.slice A2 n3 c4) 39 7 n3 (s.1.flatMap Xmd)] [Sm w.heap.size F w [(Value.slice A2 n3 c4).ownBlock.toList],St w [(Value.slice A2 n3 c4).ownBlock.toList]]) s:=by
  intro s hs
  refine Xmi.ind (mot:=(fun (s:(List Xm4) × Int)=>∀ (h51:Ow z6 A2 n3 c4 s.1),G (Xp7 w F A2 n3 c4 z6 r) [.code Ydt,.inLoop Ydt,.inBlock 0,.code Yfp] [(0,.slice A2 n3 c4),(2,.int .i64 s.2)] [.own (.slice A2 n3 c4) 39 7 n3 (s.1.flatMap Xmd)] [Sm w.heap.size F w [(Value.slice A2 n3 c4).ownBlock.toList],St w [(Value.slice A2 n3 c4).ownBlock.toList]])) ?_ hs
  clear hs s
  intro s o1 h hO1
  obtain ⟨x50,x52⟩:=s
  show ∀ (h51:Ow z6 A2 n3 c4 x50),G (Xp7 w F A2 n3 c4 z6 r) [.code Ydt,.inLoop Ydt,.inBlock 0,.code Yfp] [(0,.slice A2 n3 c4),(2,.int .i64 x52)] [.own (.slice A2 n3 c4) 39 7 n3 (x50.flatMap Xmd)] [Sm w.heap.size F w [(Value.slice A2 n3 c4).ownBlock.toList],St w [(Value.slice A2 n3 c4).ownBlock.toList]]
  intro h51
  have h:Xo6 x50 x52 o1:=h
  unfold Xo6 at h
  refine Xmb rfl<|Xmb rfl<|Xm6 rfl rfl<|Xm5 0 rfl (Xm8 rfl) gn rfl<|Xm5 1 rfl (Xm8 rfl) gn rfl<|Xm5 2 rfl (Xn0 Xum rfl h51.hq) gn rfl<|Xm5 3 rfl (Xmn rfl rfl rfl) gn rfl<|Xmc 4 rfl ?_
  by_cases hp94:x52 < (x50.length:Int)
  ·have h:=Xmh hp94 h
   refine Xn3 rfl _ rfl ((decide_eq_true hp94))<|Xn9 rfl<|Xmb rfl<|Xn8 rfl<|Xm6 rfl rfl<|Xm5 0 rfl (Xm8 rfl) gn rfl<|Xm5 1 rfl (Xm8 rfl) gn rfl<|Xm5 2 rfl (Xm8 rfl) gn rfl<|Xm5 3 rfl (Xpq #[.string (⟨#[115,112,111,105,108,116]⟩:ByteArray),.bool false,.string (⟨#[]⟩:ByteArray),.int .i64 0,.int .i64 0,.int .i64 (-7),.int .i64 x52] Yf5 rfl (by kernel_rfl)) gn rfl ?_
   obtain ⟨hb95,h⟩:=h
   refine Xm5 4 rfl (Xot Xrr rfl rfl h51 hb95) gn rfl ?_
   obtain ⟨x96,hv97,h⟩:=h
   refine Xmr 5 rfl (Ya3 (enc:=Xmd) (o:=0) (z:=(⟨(⟨#[115,112,111,105,108,116]⟩:ByteArray),false,(⟨#[]⟩:ByteArray),0,0,-7,x52⟩:Xm4)) (vs:=[.string (⟨#[115,112,111,105,108,116]⟩:ByteArray),.bool false,.string (⟨#[]⟩:ByteArray),.int .i64 0,.int .i64 0,.int .i64 (-7),.int .i64 x52]) (i:=x52) 0 Xn7 Ydr rfl rfl rfl rfl rfl h51 hb95 rfl rfl rfl hv97 fun h98=>?_) gn
   refine Xmc 6 rfl<|Xn5<|Xm6 rfl rfl<|Xm5 0 rfl (Xm8 rfl) gn rfl<|Xm5 1 rfl (Xmn rfl rfl rfl) gn rfl<|Xm5 2 rfl (Xma rfl) gn rfl<|Xmc 3 rfl<|Xnp ?_
   have ih:=Out.inl hO1 h
   exact Xng [0,1] (ih h98) ⟨rfl,rfl,trivial⟩ (.cons_cons _ (.slnil)) rfl
  ·have h:=Xmg hp94 h
   refine Xmp rfl _ rfl ((decide_eq_false hp94))<|Xpw [.code Yfp] rfl rfl<|Xmb rfl<|Xm6 rfl rfl<|Xm5 0 rfl (Xm8 rfl) gn rfl<|Xm5 1 rfl (Xma rfl) gn rfl<|Xmc 2 rfl<|Xmb rfl<|Xm6 rfl rfl<|Xm5 0 rfl (Xma rfl) gn rfl<|Xmc 1 rfl<|Xn8 rfl ?_
   refine Xqc rfl ?_
   have key2:∀ s,Xmi (fun (s:(List Xm4) × Int) o=>Xns x50 s.1 s.2 o) s o1→(fun (s:(List Xm4) × Int)=>∀ (A110:Option Addr) (n111:Nat) (c112:Nat) (h113:Ow 0 A110 n111 c112 s.1),G (Xp7 w F A2 n3 c4 z6 r) [.code Yac,.inLoop Yac,.inBlock 2] [(3,.slice A110 n111 c112),(4,.int .i64 s.2)] [twE Xmd 39 7 A2 n3 c4 x50 A110 n111 c112 s.1] [Sm w.heap.size F w [(Value.slice A2 n3 c4).ownBlock.toList],St w [(Value.slice A2 n3 c4).ownBlock.toList]]) s:=by
    intro s hs
    refine Xmi.ind (mot:=(fun (s:(List Xm4) × Int)=>∀ (A110:Option Addr) (n111:Nat) (c112:Nat) (h113:Ow 0 A110 n111 c112 s.1),G (Xp7 w F A2 n3 c4 z6 r) [.code Yac,.inLoop Yac,.inBlock 2] [(3,.slice A110 n111 c112),(4,.int .i64 s.2)] [twE Xmd 39 7 A2 n3 c4 x50 A110 n111 c112 s.1] [Sm w.heap.size F w [(Value.slice A2 n3 c4).ownBlock.toList],St w [(Value.slice A2 n3 c4).ownBlock.toList]])) ?_ hs
    clear hs s
    intro s o2 h hO2
    obtain ⟨x109,x114⟩:=s
    show ∀ (A110:Option Addr) (n111:Nat) (c112:Nat) (h113:Ow 0 A110 n111 c112 x109),G (Xp7 w F A2 n3 c4 z6 r) [.code Yac,.inLoop Yac,.inBlock 2] [(3,.slice A110 n111 c112),(4,.int .i64 x114)] [twE Xmd 39 7 A2 n3 c4 x50 A110 n111 c112 x109] [Sm w.heap.size F w [(Value.slice A2 n3 c4).ownBlock.toList],St w [(Value.slice A2 n3 c4).ownBlock.toList]]
    intro A110 n111 c112 h113
    have h:Xns x50 x109 x114 o2:=h
    unfold Xns at h
    refine Xmb rfl<|Xmb rfl<|Xm6 rfl rfl<|Xm5 0 rfl (Xm8 rfl) gn rfl<|Xm5 1 rfl (Xmn rfl rfl rfl) gn rfl<|Xmc 2 rfl ?_
    by_cases hp125:x114 < 40
    ·have h:=Xmh hp125 h
     refine Xn3 rfl _ rfl ((decide_eq_true hp125))<|Xn9 rfl<|Xmb rfl<|Xn8 rfl<|Xm6 rfl rfl<|Xm5 0 rfl (Xm8 rfl) gn rfl<|Xm5 1 rfl (Xpq #[.string (⟨#[109,111,114,101]⟩:ByteArray),.bool false,.string (⟨#[]⟩:ByteArray),.int .i64 0,.int .i64 0,.int .i64 0,.int .i64 0] Yf5 rfl (by kernel_rfl)) gn rfl ?_
     refine Xmr 2 rfl (Xph (xs:=([(⟨(⟨#[109,111,114,101]⟩:ByteArray),false,(⟨#[]⟩:ByteArray),0,0,0,0⟩:Xm4)]:List Xm4)) [.string (⟨#[109,111,114,101]⟩:ByteArray),.bool false,.string (⟨#[]⟩:ByteArray),.int .i64 0,.int .i64 0,.int .i64 0,.int .i64 0] Ya0 rfl (by kernel_rfl) rfl rfl rfl rfl fun gb127 h128=>?_) gn
     obtain ⟨x132,hv133,h⟩:=h
     obtain ⟨hb134,h⟩:=h
     refine Xmr 3 rfl (s_appT (enc:=Xmd) (us:=([(⟨(⟨#[109,111,114,101]⟩:ByteArray),false,(⟨#[]⟩:ByteArray),0,0,0,0⟩:Xm4)]:List Xm4)) 1 Xn7 Yb7 rfl rfl rfl h113 (Src.ownF (hl:=Xn7) (h1:=Xny) 0 rfl h128) rfl hv133 h128.hq rfl hb134 rfl rfl fun A129 c130 h131=>?_) gn
     refine Xm5 4 rfl (Xma rfl) gn rfl<|Xmc 5 rfl<|Xn5<|Xm6 rfl rfl<|Xm5 0 rfl (Xm8 rfl) gn rfl<|Xm5 1 rfl (Xmn rfl rfl rfl) gn rfl<|Xm5 2 rfl (Xma rfl) gn rfl<|Xmc 3 rfl<|Xnp ?_
     have ih:=Out.inl hO2 h
     exact Xng [0,1] (ih A129 (n111 + 1) c130 h131) ⟨rfl,rfl,trivial⟩ (.cons _ (.cons_cons _ (.slnil))) rfl
    ·have h:=Xmg hp125 h
     refine Xmp rfl _ rfl ((decide_eq_false hp125))<|Xpw [] rfl rfl<|g_untw (enc:=Xmd) (j:=0) rfl ?_
     have h:=Out.inr hO2 h
     have h:=Out.inr hO1 h
     refine Yg4 [] Try.func34 rfl (.nil) fun wr hLr=>?_
     have hMr:=hLr.pkI (.c 0 rfl .n) .n (by kernel_rfl) (.c 1 rfl .n)
     show Xst w F A2 n3 c4 z6 r (.returned (Xn4 [])) wr
     rw [h]
     exact ⟨rfl,hMr,h51⟩
   refine g_tw0 (enc:=Xmd) (j:=0) rfl h51 ?_
   exact Xng [0,1] (key2 _ h A2 n3 c4 (Ow.any h51)) ⟨rfl,rfl,trivial⟩ (.cons_cons _ (.slnil)) rfl
 exact Xng [0,1] (key1 _ h h5) ⟨rfl,rfl,trivial⟩ (.cons_cons _ (.slnil)) rfl
end Go.Proofs.Ytmekgfcfooghnaa.K
