/- What the machine's calls do, function by function, printed by my own tool. Condition of each: its relation holds of the answer, and what is handed in lies in memory as told. -/
import Derived.Test.YtelafghkjlpojaaK1
set_option linter.unusedVariables false
set_option maxRecDepth 100000
set_option maxHeartbeats 4000000
namespace Go.Proofs.Ytelafghkjlpojaa.K
open Go.Proofs.Ytelafghkjlpojaa.B Go.Proofs.Ytelafghkjlpojaa.R Go.RowKit
noncomputable abbrev Ysl:=Code.snd (Code.snd (Code.snd (Yhm Try.f11)))
noncomputable abbrev Yqf:=Code.fst (Code.fst (Code.snd (Code.fst (Code.snd (Code.snd (Yhm Try.f11))))))
noncomputable abbrev Ytb:=Code.snd (Code.snd (Code.snd (Code.snd Ysl)))
noncomputable abbrev Ype:=Code.fst (Code.fst (Code.snd (Code.fst (Code.snd (Code.snd (Code.snd Ysl))))))
noncomputable abbrev q11c44:=Code.fst (Code.fst (Code.snd Ype))
abbrev Ylr (w:World) (F:Nat→Prop) (r:Yfz × Nat × Nat × Nat × (List (Yg8 × Nat))):Ending→World→Prop:=fun e w'=>∃ A0:Option Addr,∃ n0:Nat,∃ c0:Nat,∃ A1:Option Addr,∃ n1:Nat,∃ c1:Nat,∃ A2:Option Addr,∃ n2:Nat,∃ c2:Nat,∃ cs2:List Value,∃ bs2:List Nat,e=.returned (.agg #[.slice A0 r.2.1 c0,.slice A1 r.2.2.1 c1,.slice A2 r.2.2.2.1 c2])∧B.Loc w w' [.own (.slice A0 n0 c0) 58 2 n0 (r.1.terms.flatMap Yg6),.own (.slice A1 n1 c1) 61 2 n1 (r.1.syms.flatMap Ygb),.own (.slice A2 n2 c2) 38 2 n2 cs2,Yhh Ygo (w.heap.size) none r.2.2.2.2 cs2 bs2] [St w []]∧Ow w.heap.size A0 n0 c0 r.1.terms∧r.2.1≤n0∧Ow w.heap.size A1 n1 c1 r.1.syms∧r.2.2.1≤n1∧Ow w.heap.size A2 n2 c2 r.2.2.2.2∧r.2.2.2.1≤n2
noncomputable abbrev Yis (w:World) (F:Nat→Prop) (r:Yfz × Nat × Nat × Nat × (List (Yg8 × Nat))):Cx:=⟨Try.prog,11,Try.f11,73,Ylr w F  r,w⟩
theorem Ynx (w:World) (F:Nat→Prop) (x1:Yfz) (A2:Option Addr) (n3:Nat) (c4:Nat) (A6:Option Addr) (n7:Nat) (c8:Nat) (A10:Option Addr) (n11:Nat) (c12:Nat) (h5:Rw Ygi w (St w []).av A2 n3 c4 x1.terms) (h9:Rw Ygu w (St w []).av A6 n7 c8 x1.syms) (h13:Rw Ygs w (St w []).av A10 n11 c12 x1.prods) (hF:∀ b,F b→b < w.heap.size∧∀ o ∈ ([]:List (List Nat)),b ∉ o) (hL0:B.Loc w w [] [Sm w.heap.size F w [],St w []]) (r:Yfz × Nat × Nat × Nat × (List (Yg8 × Nat))) (h:Ykr x1 r):Calls Try.prog 11 #[.agg #[.slice A2 n3 c4,.slice A6 n7 c8,.slice A10 n11 c12]] w (Ylr w F  r):=by
 unfold Ykr at h
 refine Yh0 (vs:=[.agg #[.slice A2 n3 c4,.slice A6 n7 c8,.slice A10 n11 c12]]) 73 Try.func11 rfl Try.ntmps11 rfl hL0 ?_
 show G (Yis w F r) _ _ _ _
 refine Yg3 rfl<|Yfy rfl rfl ?_
 refine Ygw 0 rfl (Ymj [.slice A2 n3 c4,.slice A6 n7 c8,.slice A10 n11 c12] rfl rfl rfl fun gb14=>?_) gn
 refine Ygw 1 rfl (Ykc [.slice none 0 0,.slice none 0 0,.slice none 0 0] Yqs rfl fun gb16=>?_) gn
 refine Yg7 2 rfl<|Yg3 rfl<|Yfy rfl rfl<|Yfx 0 rfl (Yji [.slice A2 n3 c4,.slice A6 n7 c8,.slice A10 n11 c12] 1 Yjg rfl rfl rfl rfl) gn rfl ?_
 obtain ⟨r21,hv22,h⟩:=h
 refine Ygw 1 rfl (Yho [.agg #[.slice A2 n3 c4,.slice A6 n7 c8,.slice A10 n11 c12]] rfl Try.func8 rfl rfl rfl fun w18 hL19=>?_) gn
 have hp20:=pmI hL19 .n (.c 0 rfl (.c 1 rfl .n)) (by kernel_rfl)
 refine Calls.mono (Yk3 w18 (Fl ([]:List Ygr)) x1 A2 n3 c4 A6 n7 c8 A10 n11 c12 (Rw.mono h5 (hL19.toSt hp20 (me 1 rfl))) (Rw.mono h9 (hL19.toSt hp20 (me 1 rfl))) (Rw.mono h13 (hL19.toSt hp20 (me 1 rfl))) (hL19.hFl hp20 (Yj7 [] rfl)) (hL19.into hp20 _) r21 hv22) ?_
 rintro _ w41 ⟨A23,n24,c25,A28,n29,c30,A33,n34,c35,cs37,bs38,rfl,hM42,h26,h31,h36⟩
 have hL43:=hL19.call hp20 hM42
 refine ⟨_,_,_,rfl,hL43,?_⟩
 refine Yr4 (fk:=Ymr) (z':=w.heap.size) (j:=3) hL19.env.size rfl<|Yr1 (fk:=Ymr) (z:=w.heap.size) (j:=3) Ygo Yif (fun _=>rfl) (fun _=>rfl) (fun x d h=>by obtain ⟨A,n,c⟩:=d; simp only at h; subst h; rfl) (fun _=>Nat.le_refl _) rfl rfl rfl ?_
 refine Ygw 2 rfl (Ykc [.slice none 0 0,.slice none 0 0,.slice none 0 0] Yqs rfl fun gb44=>?_) gn
 refine Ygw 3 rfl (Ylo (vs:=[.slice A23 n24 c25,.slice A28 n29 c30,.slice A33 n34 c35]) (cs':=[.slice A23 n24 c25,.slice A28 n29 c30,.slice A33 n34 c35]) (M':=[.box gb44 26 [.slice A23 n24 c25,.slice A28 n29 c30,.slice A33 n34 c35],.own (.slice A23 n24 c25) 58 2 n24 (r21.terms.flatMap Yg6),.own (.slice A28 n29 c30) 61 2 n29 (r21.syms.flatMap Ygb),.own (.slice A33 n34 c35) 38 2 n34 cs37,Yhh Ygo (w.heap.size) none (r21.prods.map Yif) cs37 bs38,.box gb16 26 [.slice none 0 0,.slice none 0 0,.slice none 0 0],.box gb14 26 [.slice A2 n3 c4,.slice A6 n7 c8,.slice A10 n11 c12]]) 0 Yrn rfl rfl rfl rfl rfl rfl rfl rfl rfl ?_) gn
 refine Yg7 4 rfl<|Yg3 rfl<|Yg3 rfl<|Yfy rfl rfl<|Yfx 0 rfl (Yg1 rfl) gn rfl<|Yg7 1 rfl<|Ygm rfl<|Yij rfl ?_
 have key1:∀ s,Yga (fun (s:Int × (List Ygd) × (List Ygz) × (List (Yg8 × Nat))) o=>Yhw x1 s.1 s.2.1 s.2.2.1 s.2.2.2 o) s r→(fun (s:Int × (List Ygd) × (List Ygz) × (List (Yg8 × Nat)))=>∀ (A80:Option Addr) (n81:Nat) (c82:Nat) (h83:Ow w.heap.size A80 n81 c82 s.2.1) (A85:Option Addr) (n86:Nat) (c87:Nat) (h88:Ow w.heap.size A85 n86 c87 s.2.2.1) (bs90:List Nat) (A91:Option Addr) (n92:Nat) (c93:Nat) (cs94:List Value) (h95:Ow w.heap.size A91 n92 c93 s.2.2.2),G (Yis w F r) [.code Yqf,.inLoop Yqf,.inBlock 0,.code Ysl] [(1,.pointer (some ⟨gb14,0,none⟩)),(2,.pointer (some ⟨gb16,0,none⟩)),(3,.pointer (some ⟨gb44,0,none⟩)),(4,.int .i64 s.1)] [Yhh Ygo (w.heap.size) none s.2.2.2 cs94 bs90,.box gb44 26 [.slice A80 n81 c82,.slice A85 n86 c87,.slice A91 n92 c93],.own (.slice A80 n81 c82) 58 2 n81 (s.2.1.flatMap Yg6),.own (.slice A85 n86 c87) 61 2 n86 (s.2.2.1.flatMap Ygb),.own (.slice A91 n92 c93) 38 2 n92 cs94,.box gb16 26 [.slice none 0 0,.slice none 0 0,.slice none 0 0],.box gb14 26 [.slice A2 n3 c4,.slice A6 n7 c8,.slice A10 n11 c12]] [Sm w.heap.size F w [],St w []]) s:=by
  intro s hs
  refine Yga.ind (mot:=(fun (s:Int × (List Ygd) × (List Ygz) × (List (Yg8 × Nat)))=>∀ (A80:Option Addr) (n81:Nat) (c82:Nat) (h83:Ow w.heap.size A80 n81 c82 s.2.1) (A85:Option Addr) (n86:Nat) (c87:Nat) (h88:Ow w.heap.size A85 n86 c87 s.2.2.1) (bs90:List Nat) (A91:Option Addr) (n92:Nat) (c93:Nat) (cs94:List Value) (h95:Ow w.heap.size A91 n92 c93 s.2.2.2),G (Yis w F r) [.code Yqf,.inLoop Yqf,.inBlock 0,.code Ysl] [(1,.pointer (some ⟨gb14,0,none⟩)),(2,.pointer (some ⟨gb16,0,none⟩)),(3,.pointer (some ⟨gb44,0,none⟩)),(4,.int .i64 s.1)] [Yhh Ygo (w.heap.size) none s.2.2.2 cs94 bs90,.box gb44 26 [.slice A80 n81 c82,.slice A85 n86 c87,.slice A91 n92 c93],.own (.slice A80 n81 c82) 58 2 n81 (s.2.1.flatMap Yg6),.own (.slice A85 n86 c87) 61 2 n86 (s.2.2.1.flatMap Ygb),.own (.slice A91 n92 c93) 38 2 n92 cs94,.box gb16 26 [.slice none 0 0,.slice none 0 0,.slice none 0 0],.box gb14 26 [.slice A2 n3 c4,.slice A6 n7 c8,.slice A10 n11 c12]] [Sm w.heap.size F w [],St w []])) ?_ hs
  clear hs s
  intro s o1 h hO1
  obtain ⟨x78,x79,x84,x89⟩:=s
  show ∀ (A80:Option Addr) (n81:Nat) (c82:Nat) (h83:Ow w.heap.size A80 n81 c82 x79) (A85:Option Addr) (n86:Nat) (c87:Nat) (h88:Ow w.heap.size A85 n86 c87 x84) (bs90:List Nat) (A91:Option Addr) (n92:Nat) (c93:Nat) (cs94:List Value) (h95:Ow w.heap.size A91 n92 c93 x89),G (Yis w F r) [.code Yqf,.inLoop Yqf,.inBlock 0,.code Ysl] [(1,.pointer (some ⟨gb14,0,none⟩)),(2,.pointer (some ⟨gb16,0,none⟩)),(3,.pointer (some ⟨gb44,0,none⟩)),(4,.int .i64 x78)] [Yhh Ygo (w.heap.size) none x89 cs94 bs90,.box gb44 26 [.slice A80 n81 c82,.slice A85 n86 c87,.slice A91 n92 c93],.own (.slice A80 n81 c82) 58 2 n81 (x79.flatMap Yg6),.own (.slice A85 n86 c87) 61 2 n86 (x84.flatMap Ygb),.own (.slice A91 n92 c93) 38 2 n92 cs94,.box gb16 26 [.slice none 0 0,.slice none 0 0,.slice none 0 0],.box gb14 26 [.slice A2 n3 c4,.slice A6 n7 c8,.slice A10 n11 c12]] [Sm w.heap.size F w [],St w []]
  intro A80 n81 c82 h83 A85 n86 c87 h88 bs90 A91 n92 c93 cs94 h95
  have h:Yhw x1 x78 x79 x84 x89 o1:=h
  unfold Yhw at h
  refine Yg3 rfl<|Yg3 rfl<|Yfy rfl rfl<|Yfx 0 rfl (Yg2 rfl) gn rfl<|Yfx 1 rfl (Ygj rfl rfl rfl) gn rfl<|Yg7 2 rfl ?_
  by_cases hp497:x78 < 20
  ·have h:=Ygf hp497 h
   refine Ygp rfl _ rfl ((decide_eq_true hp497))<|Ygt rfl<|Yg3 rfl<|Ygm rfl<|Yg3 rfl<|Yfy rfl rfl<|Yfx 0 rfl (Ygc Yi6 rfl) gn rfl<|Yfx 1 rfl (Ygg 1 Ykt rfl rfl rfl) gn rfl<|Yfx 2 rfl (Yn2 #[.string (⟨#[109,97,114,107]⟩:ByteArray),.bool false] bd_58 rfl (by kernel_rfl)) gn rfl ?_
   refine Ygw 3 rfl (Ymx (xs:=([(⟨(⟨#[109,97,114,107]⟩:ByteArray),false⟩:Ygd)]:List Ygd)) [.string (⟨#[109,97,114,107]⟩:ByteArray),.bool false] Yup rfl (by kernel_rfl) rfl rfl rfl rfl fun gb499 h500=>?_) gn
   obtain ⟨x504,hv505,h⟩:=h
   obtain ⟨hb506,h⟩:=h
   refine Ygw 4 rfl (Ynt (zs:=x504) (cells':=x504.flatMap Yg6) 3 ap_22 rfl rfl rfl h83 (Nat.le_refl _) (Src.ownF (hl:=Yki) (h1:=Ykk) 0 rfl h500) (by rw [hv505,List.flatMap_append] <;> rfl) (Ylm hv505 h500.hq) hb506 rfl rfl fun A501 c502 h503=>?_) gn
   refine Yfx 5 rfl (Ygc Yi6 rfl) gn rfl ?_
   refine Ygw 6 rfl (Ylo (vs:=[.slice A501 (n81 + 1) c502]) (cs':=[.slice A501 (n81 + 1) c502,.slice A85 n86 c87,.slice A91 n92 c93]) (M':=[.own (.slice (some ⟨gb499,0,none⟩) 1 1) 58 2 1 (([(⟨(⟨#[109,97,114,107]⟩:ByteArray),false⟩:Ygd)]:List Ygd).flatMap Yg6),Yhh Ygo (w.heap.size) none x89 cs94 bs90,.box gb44 26 [.slice A501 (n81 + 1) c502,.slice A85 n86 c87,.slice A91 n92 c93],.own (.slice A501 (n81 + 1) c502) 58 2 (n81 + 1) (x504.flatMap Yg6),.own (.slice A85 n86 c87) 61 2 n86 (x84.flatMap Ygb),.own (.slice A91 n92 c93) 38 2 n92 cs94,.box gb16 26 [.slice none 0 0,.slice none 0 0,.slice none 0 0],.box gb14 26 [.slice A2 n3 c4,.slice A6 n7 c8,.slice A10 n11 c12]]) 2 sz_22 rfl rfl rfl rfl rfl rfl rfl rfl rfl ?_) gn
   refine Yg7 7 rfl<|Yg3 rfl<|Yfy rfl rfl<|Yfx 0 rfl (Ygc Yih rfl) gn rfl<|Yfx 1 rfl (Ygg 2 Yl8 rfl rfl rfl) gn rfl<|Yfx 2 rfl (Yn2 #[.string (⟨#[109,97,114,107]⟩:ByteArray),.int .i64 0] bd_61 rfl (by kernel_rfl)) gn rfl ?_
   refine Ygw 3 rfl (Ymx (xs:=([(⟨(⟨#[109,97,114,107]⟩:ByteArray),0⟩:Ygz)]:List Ygz)) [.string (⟨#[109,97,114,107]⟩:ByteArray),.int .i64 0] Yuw rfl (by kernel_rfl) rfl rfl rfl rfl fun gb508 h509=>?_) gn
   obtain ⟨x513,hv514,h⟩:=h
   obtain ⟨hb515,h⟩:=h
   refine Ygw 4 rfl (Ynt (zs:=x513) (cells':=x513.flatMap Ygb) 5 ap_23 rfl rfl rfl h88 (Nat.le_refl _) (Src.ownF (hl:=Yma) (h1:=Ym9) 0 rfl h509) (by rw [hv514,List.flatMap_append] <;> rfl) (Ylm hv514 h509.hq) hb515 rfl rfl fun A510 c511 h512=>?_) gn
   refine Yfx 5 rfl (Ygc Yih rfl) gn rfl ?_
   refine Ygw 6 rfl (Ylo (vs:=[.slice A510 (n86 + 1) c511]) (cs':=[.slice A501 (n81 + 1) c502,.slice A510 (n86 + 1) c511,.slice A91 n92 c93]) (M':=[.own (.slice (some ⟨gb508,0,none⟩) 1 1) 61 2 1 (([(⟨(⟨#[109,97,114,107]⟩:ByteArray),0⟩:Ygz)]:List Ygz).flatMap Ygb),.own (.slice (some ⟨gb499,0,none⟩) 1 1) 58 2 1 (([(⟨(⟨#[109,97,114,107]⟩:ByteArray),false⟩:Ygd)]:List Ygd).flatMap Yg6),Yhh Ygo (w.heap.size) none x89 cs94 bs90,.box gb44 26 [.slice A501 (n81 + 1) c502,.slice A510 (n86 + 1) c511,.slice A91 n92 c93],.own (.slice A501 (n81 + 1) c502) 58 2 (n81 + 1) (x504.flatMap Yg6),.own (.slice A510 (n86 + 1) c511) 61 2 (n86 + 1) (x513.flatMap Ygb),.own (.slice A91 n92 c93) 38 2 n92 cs94,.box gb16 26 [.slice none 0 0,.slice none 0 0,.slice none 0 0],.box gb14 26 [.slice A2 n3 c4,.slice A6 n7 c8,.slice A10 n11 c12]]) 3 sz_23 rfl rfl rfl rfl rfl rfl rfl rfl rfl ?_) gn
   refine Yg7 7 rfl<|Yfy rfl rfl<|Yfx 0 rfl (Ygc Yh1 rfl) gn rfl<|Yfx 1 rfl (Ygg 3 Yj4 rfl rfl rfl) gn rfl<|Yfx 2 rfl (Yg2 rfl) gn rfl<|Yfx 3 rfl (Ygj rfl rfl rfl) gn rfl<|Yfx 4 rfl (Yn2 #[.int .i64 (w64 (900 + x78)),.slice none 0 0] bd_38 rfl (by kernel_rfl)) gn rfl<|Yv5 (z:=w.heap.size) Ygo ([((⟨w64 (900 + x78),([]:List Yg9)⟩:Yg8),0)]:List (Yg8 × Nat)) [.int .i64 (w64 (900 + x78)),.slice none 0 0] (by intro x hx; simp only [List.mem_cons,List.not_mem_nil,or_false] at hx; rcases hx with rfl <;> exact ⟨rfl,Nat.le_refl _⟩) rfl ?_
   refine Ygw 5 rfl (Ymx (xs:=([((⟨w64 (900 + x78),([]:List Yg9)⟩:Yg8),0)]:List (Yg8 × Nat))) [.int .i64 (w64 (900 + x78)),.slice none 0 0] Yuu rfl (by kernel_rfl) rfl rfl rfl rfl fun gb518 h519=>?_) gn
   obtain ⟨x524,hv525,h⟩:=h
   obtain ⟨hb526,h⟩:=h
   obtain ⟨cs527,hc528⟩:∃ x:List Value,x=cs94++[.int .i64 (w64 (900 + x78)),.slice none 0 0]:=⟨_,rfl⟩
   refine Ygw 6 rfl (Ynt (zs:=x524) 8 ap_24 rfl rfl rfl h95 (Nat.le_refl _) (Src.raw 0 rfl h519 rfl rfl) hc528.symm (Ylm hv525 h519.hq) hb526 rfl rfl fun A520 c521 h522=>?_) gn
   refine w_famcat (fk:=Ygo) (z:=w.heap.size) (j1:=1) (j:=4) (by decide) rfl rfl hv525 hc528 fun bs523=>?_
   refine Yfx 7 rfl (Ygc Yh1 rfl) gn rfl ?_
   refine Ygw 8 rfl (Ylo (vs:=[.slice A520 (n92 + 1) c521]) (cs':=[.slice A501 (n81 + 1) c502,.slice A510 (n86 + 1) c511,.slice A520 (n92 + 1) c521]) (M':=[.own (.slice (some ⟨gb518,0,none⟩) 1 1) 38 2 1 [.int .i64 (w64 (900 + x78)),.slice none 0 0],.own (.slice (some ⟨gb508,0,none⟩) 1 1) 61 2 1 (([(⟨(⟨#[109,97,114,107]⟩:ByteArray),0⟩:Ygz)]:List Ygz).flatMap Ygb),.own (.slice (some ⟨gb499,0,none⟩) 1 1) 58 2 1 (([(⟨(⟨#[109,97,114,107]⟩:ByteArray),false⟩:Ygd)]:List Ygd).flatMap Yg6),Yhh Ygo (w.heap.size) none x524 cs527 bs523,.box gb44 26 [.slice A501 (n81 + 1) c502,.slice A510 (n86 + 1) c511,.slice A520 (n92 + 1) c521],.own (.slice A501 (n81 + 1) c502) 58 2 (n81 + 1) (x504.flatMap Yg6),.own (.slice A510 (n86 + 1) c511) 61 2 (n86 + 1) (x513.flatMap Ygb),.own (.slice A520 (n92 + 1) c521) 38 2 (n92 + 1) cs527,.box gb16 26 [.slice none 0 0,.slice none 0 0,.slice none 0 0],.box gb14 26 [.slice A2 n3 c4,.slice A6 n7 c8,.slice A10 n11 c12]]) 4 sz_24 rfl rfl rfl rfl rfl rfl rfl rfl rfl ?_) gn
   refine Yg7 9 rfl<|Ygq<|Yfy rfl rfl<|Yfx 0 rfl (Yg2 rfl) gn rfl<|Yfx 1 rfl (Ygj rfl rfl rfl) gn rfl<|Yfx 2 rfl (Yg1 rfl) gn rfl<|Yg7 3 rfl<|Ygv ?_
   have ih:=Out.inl hO1 h
   exact Yhj [0,1] (ih A501 (n81 + 1) c502 h503 A510 (n86 + 1) c511 h512 bs523 A520 (n92 + 1) c521 cs527 h522) ⟨rfl,rfl,rfl,rfl,trivial⟩ (.cons _ (.cons _ (.cons _ (.cons_cons _ (.cons_cons _ (.cons_cons _ (.cons_cons _ (.cons_cons _ (.cons_cons _ (.cons_cons _ (.slnil))))))))))) rfl
  ·have h:=Yge hp497 h
   refine Ygl rfl _ rfl ((decide_eq_false hp497))<|Yii [.code Ysl] rfl rfl<|Yg3 rfl<|Yfy rfl rfl<|Yfx 0 rfl (Ygc Yi6 rfl) gn rfl<|Yfx 1 rfl (Ygg 1 Ykt rfl rfl rfl) gn rfl<|Yfx 2 rfl (Ygc Yi6 rfl) gn rfl<|Yfx 3 rfl (Ygg 6 Ykt rfl rfl rfl) gn rfl<|Yfx 4 rfl (Ygn Ylq rfl h5.hq) gn rfl ?_
   obtain ⟨hb529,h⟩:=h
   have hle530:((x1.terms.length:Int):Int).toNat≤n81:=by have q:=hb529; have q1:=h83.hq; omega
   refine Yfx 5 rfl (Ynm (i:=(x1.terms.length:Int)) Yqa rfl rfl (by have q:=hb529; have q1:=h83.hq; have q2:=h83.hn; omega) h83.hn rfl) gn rfl<|Yfx 6 rfl (Ygc Yi6 rfl) gn rfl ?_
   refine Ygw 7 rfl (Ylo (vs:=[.slice A80 (((x1.terms.length:Int):Int).toNat) c82]) (cs':=[.slice A80 (((x1.terms.length:Int):Int).toNat) c82,.slice A85 n86 c87,.slice A91 n92 c93]) (M':=[Yhh Ygo (w.heap.size) none x89 cs94 bs90,.box gb44 26 [.slice A80 (((x1.terms.length:Int):Int).toNat) c82,.slice A85 n86 c87,.slice A91 n92 c93],.own (.slice A80 n81 c82) 58 2 n81 (x79.flatMap Yg6),.own (.slice A85 n86 c87) 61 2 n86 (x84.flatMap Ygb),.own (.slice A91 n92 c93) 38 2 n92 cs94,.box gb16 26 [.slice none 0 0,.slice none 0 0,.slice none 0 0],.box gb14 26 [.slice A2 n3 c4,.slice A6 n7 c8,.slice A10 n11 c12]]) 1 sz_22 rfl rfl rfl rfl rfl rfl rfl rfl rfl ?_) gn
   refine Yg7 8 rfl<|Yg3 rfl<|Yfy rfl rfl<|Yfx 0 rfl (Ygc Yih rfl) gn rfl<|Yfx 1 rfl (Ygg 1 Yl8 rfl rfl rfl) gn rfl<|Yfx 2 rfl (Ygc Yih rfl) gn rfl<|Yfx 3 rfl (Ygg 6 Yl8 rfl rfl rfl) gn rfl<|Yfx 4 rfl (Ygn Yme rfl h9.hq) gn rfl ?_
   obtain ⟨hb531,h⟩:=h
   have hle532:((x1.syms.length:Int):Int).toNat≤n86:=by have q:=hb531; have q1:=h88.hq; omega
   refine Yfx 5 rfl (Ynm (i:=(x1.syms.length:Int)) Ypy rfl rfl (by have q:=hb531; have q1:=h88.hq; have q2:=h88.hn; omega) h88.hn rfl) gn rfl<|Yfx 6 rfl (Ygc Yih rfl) gn rfl ?_
   refine Ygw 7 rfl (Ylo (vs:=[.slice A85 (((x1.syms.length:Int):Int).toNat) c87]) (cs':=[.slice A80 (((x1.terms.length:Int):Int).toNat) c82,.slice A85 (((x1.syms.length:Int):Int).toNat) c87,.slice A91 n92 c93]) (M':=[Yhh Ygo (w.heap.size) none x89 cs94 bs90,.box gb44 26 [.slice A80 (((x1.terms.length:Int):Int).toNat) c82,.slice A85 (((x1.syms.length:Int):Int).toNat) c87,.slice A91 n92 c93],.own (.slice A80 n81 c82) 58 2 n81 (x79.flatMap Yg6),.own (.slice A85 n86 c87) 61 2 n86 (x84.flatMap Ygb),.own (.slice A91 n92 c93) 38 2 n92 cs94,.box gb16 26 [.slice none 0 0,.slice none 0 0,.slice none 0 0],.box gb14 26 [.slice A2 n3 c4,.slice A6 n7 c8,.slice A10 n11 c12]]) 1 sz_23 rfl rfl rfl rfl rfl rfl rfl rfl rfl ?_) gn
   refine Yg7 8 rfl<|Yg3 rfl<|Yfy rfl rfl<|Yfx 0 rfl (Ygc Yh1 rfl) gn rfl<|Yfx 1 rfl (Ygg 1 Yj4 rfl rfl rfl) gn rfl<|Yfx 2 rfl (Ygc Yh1 rfl) gn rfl<|Yfx 3 rfl (Ygg 6 Yj4 rfl rfl rfl) gn rfl<|Yfx 4 rfl (Ygn Ymz rfl h13.hq) gn rfl ?_
   obtain ⟨hb533,h⟩:=h
   have hle534:((x1.prods.length:Int):Int).toNat≤n92:=by have q:=hb533; have q1:=h95.hq; omega
   refine Yfx 5 rfl (Ynm (i:=(x1.prods.length:Int)) Yjk rfl rfl (by have q:=hb533; have q1:=h95.hq; have q2:=h95.hn; omega) h95.hn rfl) gn rfl<|Yfx 6 rfl (Ygc Yh1 rfl) gn rfl ?_
   refine Ygw 7 rfl (Ylo (vs:=[.slice A91 (((x1.prods.length:Int):Int).toNat) c93]) (cs':=[.slice A80 (((x1.terms.length:Int):Int).toNat) c82,.slice A85 (((x1.syms.length:Int):Int).toNat) c87,.slice A91 (((x1.prods.length:Int):Int).toNat) c93]) (M':=[Yhh Ygo (w.heap.size) none x89 cs94 bs90,.box gb44 26 [.slice A80 (((x1.terms.length:Int):Int).toNat) c82,.slice A85 (((x1.syms.length:Int):Int).toNat) c87,.slice A91 (((x1.prods.length:Int):Int).toNat) c93],.own (.slice A80 n81 c82) 58 2 n81 (x79.flatMap Yg6),.own (.slice A85 n86 c87) 61 2 n86 (x84.flatMap Ygb),.own (.slice A91 n92 c93) 38 2 n92 cs94,.box gb16 26 [.slice none 0 0,.slice none 0 0,.slice none 0 0],.box gb14 26 [.slice A2 n3 c4,.slice A6 n7 c8,.slice A10 n11 c12]]) 1 sz_24 rfl rfl rfl rfl rfl rfl rfl rfl rfl ?_) gn
   refine Yg7 8 rfl<|Yg3 rfl<|Yg3 rfl<|Yfy rfl rfl<|Yfx 0 rfl (Yg1 rfl) gn rfl<|Yg7 1 rfl<|Ygm rfl<|Yij rfl ?_
   have key2:∀ s,Yga (fun (s:Int × (List (Yg8 × Nat))) o=>Yhk x1 x79 x84 s.1 s.2 o) s o1→(fun (s:Int × (List (Yg8 × Nat)))=>∀ (hl536:((x1.terms.length:Int):Int).toNat≤n81) (hl537:((x1.syms.length:Int):Int).toNat≤n86) (bs658:List Nat) (A659:Option Addr) (n660:Nat) (c661:Nat) (cs662:List Value) (h663:Ow w.heap.size A659 n660 c661 s.2) (hl538:((x1.prods.length:Int):Int).toNat≤n660),G (Yis w F r) [.code Ype,.inLoop Ype,.inBlock 2,.code Ytb] [(1,.pointer (some ⟨gb14,0,none⟩)),(2,.pointer (some ⟨gb16,0,none⟩)),(3,.pointer (some ⟨gb44,0,none⟩)),(5,.int .i64 s.1)] [Yhh Ygo (w.heap.size) none s.2 cs662 bs658,.box gb44 26 [.slice A80 (((x1.terms.length:Int):Int).toNat) c82,.slice A85 (((x1.syms.length:Int):Int).toNat) c87,.slice A659 (((x1.prods.length:Int):Int).toNat) c661],.own (.slice A80 n81 c82) 58 2 n81 (x79.flatMap Yg6),.own (.slice A85 n86 c87) 61 2 n86 (x84.flatMap Ygb),.own (.slice A659 n660 c661) 38 2 n660 cs662,.box gb16 26 [.slice none 0 0,.slice none 0 0,.slice none 0 0],.box gb14 26 [.slice A2 n3 c4,.slice A6 n7 c8,.slice A10 n11 c12]] [Sm w.heap.size F w [],St w []]) s:=by
    intro s hs
    refine Yga.ind (mot:=(fun (s:Int × (List (Yg8 × Nat)))=>∀ (hl536:((x1.terms.length:Int):Int).toNat≤n81) (hl537:((x1.syms.length:Int):Int).toNat≤n86) (bs658:List Nat) (A659:Option Addr) (n660:Nat) (c661:Nat) (cs662:List Value) (h663:Ow w.heap.size A659 n660 c661 s.2) (hl538:((x1.prods.length:Int):Int).toNat≤n660),G (Yis w F r) [.code Ype,.inLoop Ype,.inBlock 2,.code Ytb] [(1,.pointer (some ⟨gb14,0,none⟩)),(2,.pointer (some ⟨gb16,0,none⟩)),(3,.pointer (some ⟨gb44,0,none⟩)),(5,.int .i64 s.1)] [Yhh Ygo (w.heap.size) none s.2 cs662 bs658,.box gb44 26 [.slice A80 (((x1.terms.length:Int):Int).toNat) c82,.slice A85 (((x1.syms.length:Int):Int).toNat) c87,.slice A659 (((x1.prods.length:Int):Int).toNat) c661],.own (.slice A80 n81 c82) 58 2 n81 (x79.flatMap Yg6),.own (.slice A85 n86 c87) 61 2 n86 (x84.flatMap Ygb),.own (.slice A659 n660 c661) 38 2 n660 cs662,.box gb16 26 [.slice none 0 0,.slice none 0 0,.slice none 0 0],.box gb14 26 [.slice A2 n3 c4,.slice A6 n7 c8,.slice A10 n11 c12]] [Sm w.heap.size F w [],St w []])) ?_ hs
    clear hs s
    intro s o2 h hO2
    obtain ⟨x656,x657⟩:=s
    show ∀ (hl536:((x1.terms.length:Int):Int).toNat≤n81) (hl537:((x1.syms.length:Int):Int).toNat≤n86) (bs658:List Nat) (A659:Option Addr) (n660:Nat) (c661:Nat) (cs662:List Value) (h663:Ow w.heap.size A659 n660 c661 x657) (hl538:((x1.prods.length:Int):Int).toNat≤n660),G (Yis w F r) [.code Ype,.inLoop Ype,.inBlock 2,.code Ytb] [(1,.pointer (some ⟨gb14,0,none⟩)),(2,.pointer (some ⟨gb16,0,none⟩)),(3,.pointer (some ⟨gb44,0,none⟩)),(5,.int .i64 x656)] [Yhh Ygo (w.heap.size) none x657 cs662 bs658,.box gb44 26 [.slice A80 (((x1.terms.length:Int):Int).toNat) c82,.slice A85 (((x1.syms.length:Int):Int).toNat) c87,.slice A659 (((x1.prods.length:Int):Int).toNat) c661],.own (.slice A80 n81 c82) 58 2 n81 (x79.flatMap Yg6),.own (.slice A85 n86 c87) 61 2 n86 (x84.flatMap Ygb),.own (.slice A659 n660 c661) 38 2 n660 cs662,.box gb16 26 [.slice none 0 0,.slice none 0 0,.slice none 0 0],.box gb14 26 [.slice A2 n3 c4,.slice A6 n7 c8,.slice A10 n11 c12]] [Sm w.heap.size F w [],St w []]
    intro hl536 hl537 bs658 A659 n660 c661 cs662 h663 hl538
    have h:Yhk x1 x79 x84 x656 x657 o2:=h
    unfold Yhk at h
    refine Yg3 rfl<|Yg3 rfl<|Yfy rfl rfl<|Yfx 0 rfl (Yg2 rfl) gn rfl<|Yfx 1 rfl (Ygc Yh1 rfl) gn rfl<|Yfx 2 rfl (Ygg 1 Yj4 rfl rfl rfl) gn rfl<|Yfx 3 rfl (Ygn Ymz rfl (Ow.cut h663 hl538).hq) gn rfl<|Yfx 4 rfl (Ygj rfl rfl rfl) gn rfl<|Yg7 5 rfl ?_
    by_cases hp781:x656 < ((x657.take (((x1.prods.length:Int):Int).toNat)).length:Int)
    ·have h:=Ygf hp781 h
     refine Ygp rfl _ rfl ((decide_eq_true hp781))<|Ygt rfl<|Yg3 rfl<|Ygm rfl ?_
     obtain ⟨hb782,h⟩:=h
     obtain ⟨r793,hv794,h⟩:=h
     obtain ⟨hb804,h⟩:=h
     obtain ⟨x813,hv814,h⟩:=h
     have hns:Region.noSelect (Code.ops q11c44)=true:=by kernel_rfl
     refine Yk2 [12] 13 rfl rfl mix rfl (.c 0 rfl (.c 1 rfl .n))<|wfv 0 rfl (Ygc Yh1 rfl) gn hns (by kernel_rfl)<|wfv 1 rfl (Ygg 1 Yj4 rfl rfl rfl) gn hns (by kernel_rfl)<|wfv 2 rfl (Yg2 rfl) gn hns (by kernel_rfl)<|wfv 3 rfl (Ygc Yh1 rfl) gn hns (by kernel_rfl)<|wfv 4 rfl (Ygg 6 Yj4 rfl rfl rfl) gn hns (by kernel_rfl)<|wfv 5 rfl (Yg2 rfl) gn hns (by kernel_rfl) ?_
     obtain ⟨ce859,hK860,hr858⟩:=Rw.read (s:=St w []) h13 hb782
     obtain ⟨A861,n862,c863,rfl,h864⟩:=hK860
     refine wfv 6 rfl (Yhp (s:=St w []) Yjk rfl rfl h13 hb782) gn hns (by kernel_rfl)<|wfv 7 rfl (Yjp Yko rfl) gn hns (by kernel_rfl)<|wfv 8 rfl (Yjj (kk:=(x656:Int).toNat * 2) (j:=1) (St w []) Yn0 rfl hr858 rfl (me 1 rfl)) gn hns (by kernel_rfl) ?_
     refine Yl2 [9] (by kernel_rfl) rfl ⟨on_s 9 rfl gn rfl (Yho [.slice A861 n862 c863] rfl Try.func12 rfl rfl rfl fun w876 hL877=>?_),trivial⟩
     have hp878:=pmI hL877 .n (.c 0 rfl (.c 1 rfl (.c 2 rfl (.c 3 rfl (.c 4 rfl (.c 5 rfl (.c 6 rfl .n))))))) (by kernel_rfl)
     refine Calls.mono (Yna w876 (Fl ([]:List Ygr)) ((ix x1.prods x656).rhs) A861 n862 c863 (Rw.mono h864 (hL877.toSt hp878 (me 1 rfl))) (hL877.hFl hp878 (Yj7 [] rfl)) (hL877.into hp878 _) r793 hv794) ?_
     rintro _ w884 ⟨A879,n880,c881,rfl,hM885,h882,hk883⟩
     have hL886:=hL877.call hp878 hM885
     refine ⟨_,_,_,rfl,hL886,?_⟩
     refine ⟨Yj7 [1,2,3,4,5,6,7] rfl,Yj7 [0,1] rfl,?_⟩
     have hb887:0≤x656∧x656 < (x657.length:Int):=by have q:=hb804; have q2:=List.length_take_le' (((x1.prods.length:Int):Int).toNat) x657; omega
     refine Yov (fk:=Ygo) (z:=w.heap.size) (j:=1) rfl hb887 fun A888 n889 c890 h891 ht892 hg893=>?_
     have hle894:(ix x657 x656).2≤n889:=Nat.le_trans (show (ix x657 x656).2≤(((ix x657 x656).1).rhs).length from ht892.2.2) (Nat.le_of_eq h891.hq.symm)
     refine wfv 10 rfl (Ymd Yjk rfl rfl (Ow.cut h663 hl538) hb804) gn hns (by kernel_rfl)<|wfv 11 rfl (Yjp Yko rfl) gn hns (by kernel_rfl) ?_
     refine Yl2 [12] (by kernel_rfl) rfl ⟨Yps 12 rfl gn rfl (s_stFam (fk:=Ygo) (z:=w.heap.size) (off:=1) (vs:=[.slice A879 r793.2 c881]) (A1:=A888) (n1:=n889) (c1:=c890) (q:=x656) 5 1 0 rfl rfl rfl sz_27 rfl rfl rfl h663 rfl (.inl rfl) rfl hb887 ({ ((ix x657 x656).1) with rhs:=r793.1 },r793.2) (Ow.weak hL877.env.size h882) rfl rfl rfl rfl ht892 rfl (by show r793.2≤r793.1.length; rw [← (Ow.weak hL877.env.size h882).hq]; exact hk883) rfl hv814 fun cs895 bs896 h897=>?_),trivial⟩
     unfold NxL
     refine Yl0 (by kernel_rfl)<|Ygq<|Yfy rfl rfl<|Yfx 0 rfl (Yg2 rfl) gn rfl<|Yfx 1 rfl (Ygj rfl rfl rfl) gn rfl<|Yfx 2 rfl (Yg1 rfl) gn rfl<|Yg7 3 rfl<|Ygv ?_
     have ih:=Out.inl hO2 h
     exact Yhj [0,1] (ih hl536 hl537 bs896 A659 n660 c661 cs895 h897 hl538) ⟨rfl,rfl,rfl,rfl,trivial⟩ (.cons_cons _ (.cons_cons _ (.cons_cons _ (.cons_cons _ (.cons_cons _ (.cons_cons _ (.cons_cons _ (.slnil)))))))) rfl
    ·have h:=Yge hp781 h
     refine Ygl rfl _ rfl ((decide_eq_false hp781))<|Yii [.code Ytb] rfl rfl<|Yg3 rfl<|Yfy rfl rfl<|Yfx 0 rfl (Yji [.slice A80 (((x1.terms.length:Int):Int).toNat) c82,.slice A85 (((x1.syms.length:Int):Int).toNat) c87,.slice A659 (((x1.prods.length:Int):Int).toNat) c661] 1 Yjg rfl rfl rfl rfl) gn rfl ?_
     refine Ygw 1 rfl (Ylo (vs:=[.slice A80 (((x1.terms.length:Int):Int).toNat) c82,.slice A85 (((x1.syms.length:Int):Int).toNat) c87,.slice A659 (((x1.prods.length:Int):Int).toNat) c661]) (cs':=[.slice A80 (((x1.terms.length:Int):Int).toNat) c82,.slice A85 (((x1.syms.length:Int):Int).toNat) c87,.slice A659 (((x1.prods.length:Int):Int).toNat) c661]) (M':=[Yhh Ygo (w.heap.size) none x657 cs662 bs658,.box gb44 26 [.slice A80 (((x1.terms.length:Int):Int).toNat) c82,.slice A85 (((x1.syms.length:Int):Int).toNat) c87,.slice A659 (((x1.prods.length:Int):Int).toNat) c661],.own (.slice A80 n81 c82) 58 2 n81 (x79.flatMap Yg6),.own (.slice A85 n86 c87) 61 2 n86 (x84.flatMap Ygb),.own (.slice A659 n660 c661) 38 2 n660 cs662,.box gb16 26 [.slice A80 (((x1.terms.length:Int):Int).toNat) c82,.slice A85 (((x1.syms.length:Int):Int).toNat) c87,.slice A659 (((x1.prods.length:Int):Int).toNat) c661],.box gb14 26 [.slice A2 n3 c4,.slice A6 n7 c8,.slice A10 n11 c12]]) 5 Yrn rfl rfl rfl rfl rfl rfl rfl rfl rfl ?_) gn
     refine Yg7 2 rfl ?_
     have h:=Out.inr hO2 h
     have h:=Out.inr hO1 h
     refine Ygx [.agg #[.slice A80 (((x1.terms.length:Int):Int).toNat) c82,.slice A85 (((x1.syms.length:Int):Int).toNat) c87,.slice A659 (((x1.prods.length:Int):Int).toNat) c661]] rfl Try.func11 rfl (.cell (cs:=[.slice A80 (((x1.terms.length:Int):Int).toNat) c82,.slice A85 (((x1.syms.length:Int):Int).toNat) c87,.slice A659 (((x1.prods.length:Int):Int).toNat) c661]) (us:=[.slice A80 (((x1.terms.length:Int):Int).toNat) c82,.slice A85 (((x1.syms.length:Int):Int).toNat) c87,.slice A659 (((x1.prods.length:Int):Int).toNat) c661]) 5 rfl Yjg rfl rfl rfl (.nil)) fun wr hLr=>?_
     have hMr:=hLr.pkI (.c 2 rfl (.c 3 rfl (.c 4 rfl (.c 0 rfl .n)))) (.c 1 rfl (.c 5 rfl (.c 6 rfl .n))) (by kernel_rfl) (.c 1 rfl .n)
     show Ylr w F  r (.returned (Yhe [.agg #[.slice A80 (((x1.terms.length:Int):Int).toNat) c82,.slice A85 (((x1.syms.length:Int):Int).toNat) c87,.slice A659 (((x1.prods.length:Int):Int).toNat) c661]])) wr
     rw [h]
     exact ⟨A80,n81,c82,A85,n86,c87,A659,n660,c661,cs662,bs658,rfl,hMr,h83,hl536,h88,hl537,h663,hl538⟩
   exact Yhj [0,1] (key2 _ h hle530 hle532 bs90 A91 n92 c93 cs94 h95 hle534) ⟨rfl,rfl,rfl,rfl,trivial⟩ (.cons_cons _ (.cons_cons _ (.cons_cons _ (.cons_cons _ (.cons_cons _ (.cons_cons _ (.cons_cons _ (.slnil)))))))) rfl
 refine Ygk 6 rfl<|Ygk 6 rfl<|Ygk 5 rfl<|Ygk 5 rfl<|Ygk 5 rfl<|Ygk 5 rfl<|Ygk 6 rfl ?_
 exact Yhj [0,1] (key1 _ h A23 n24 c25 (Ow.weak hL19.env.size h26) A28 n29 c30 (Ow.weak hL19.env.size h31) bs38 A33 n34 c35 cs37 (Ow.w (Ow.weak hL19.env.size h36) (List.length_map _))) ⟨rfl,rfl,rfl,rfl,trivial⟩ (.cons_cons _ (.cons_cons _ (.cons_cons _ (.cons_cons _ (.cons_cons _ (.cons_cons _ (.cons_cons _ (.slnil)))))))) rfl
noncomputable abbrev q32c4:=Code.snd (Code.snd (Yhm Try.f32))
noncomputable abbrev Ysa:=Code.fst (Code.fst (Code.snd (Code.fst (Code.snd (Yhm Try.f32)))))
abbrev Yld (w:World) (F:Nat→Prop) (r:Bool):Ending→World→Prop:=fun e w'=>e=.returned (.bool r)∧B.Loc w w' [] [St w []]
noncomputable abbrev Ym7 (w:World) (F:Nat→Prop) (r:Bool):Cx:=⟨Try.prog,32,Try.f32,29,Yld w F  r,w⟩
theorem Yp0 (w:World) (F:Nat→Prop) (x1:Yfz) (x14:List Yg9) (A2:Option Addr) (n3:Nat) (c4:Nat) (A6:Option Addr) (n7:Nat) (c8:Nat) (A10:Option Addr) (n11:Nat) (c12:Nat) (A15:Option Addr) (n16:Nat) (c17:Nat) (h5:Rw Ygi w (St w []).av A2 n3 c4 x1.terms) (h9:Rw Ygu w (St w []).av A6 n7 c8 x1.syms) (h13:Rw Ygs w (St w []).av A10 n11 c12 x1.prods) (h18:Rw Yiy w (St w []).av A15 n16 c17 x14) (hF:∀ b,F b→b < w.heap.size∧∀ o ∈ ([]:List (List Nat)),b ∉ o) (hL0:B.Loc w w [] [Sm w.heap.size F w [],St w []]) (r:Bool) (h:Ylx x1 x14 r):Calls Try.prog 32 #[.agg #[.slice A2 n3 c4,.slice A6 n7 c8,.slice A10 n11 c12],.slice A15 n16 c17] w (Yld w F  r):=by
 unfold Ylx at h
 refine Yh0 (vs:=[.agg #[.slice A2 n3 c4,.slice A6 n7 c8,.slice A10 n11 c12],.slice A15 n16 c17]) 29 Try.func32 rfl Try.ntmps32 rfl hL0 ?_
 show G (Ym7 w F r) _ _ _ _
 refine Yg3 rfl<|Yfy rfl rfl ?_
 refine Ygw 0 rfl (Ymj [.slice A2 n3 c4,.slice A6 n7 c8,.slice A10 n11 c12] rfl rfl rfl fun gb19=>?_) gn
 refine Yfx 1 rfl (Yg1 rfl) gn rfl<|Yg7 2 rfl<|Yg3 rfl<|Yg3 rfl<|Yfy rfl rfl<|Yfx 0 rfl (Yg2 rfl) gn rfl<|Yfx 1 rfl (Ygn Ynd rfl h18.hq) gn rfl<|Yfx 2 rfl (Yg2 rfl) gn rfl<|Yg7 3 rfl<|Ygm rfl<|Yij rfl ?_
 have key1:∀ s,Yga (fun (s:Int) o=>Yl5 x14 x1 s o) s r→(fun (s:Int)=>∀ (_:Unit),G (Ym7 w F r) [.code Ysa,.inLoop Ysa,.inBlock 0,.code q32c4] [(2,.pointer (some ⟨gb19,0,none⟩)),(7,.slice A15 n16 c17),(8,.int .i64 (x14.length:Int)),(9,.int .i64 s)] [.box gb19 26 [.slice A2 n3 c4,.slice A6 n7 c8,.slice A10 n11 c12]] [Sm w.heap.size F w [],St w []]) s:=by
  intro s hs
  refine Yga.ind (mot:=(fun (s:Int)=>∀ (_:Unit),G (Ym7 w F r) [.code Ysa,.inLoop Ysa,.inBlock 0,.code q32c4] [(2,.pointer (some ⟨gb19,0,none⟩)),(7,.slice A15 n16 c17),(8,.int .i64 (x14.length:Int)),(9,.int .i64 s)] [.box gb19 26 [.slice A2 n3 c4,.slice A6 n7 c8,.slice A10 n11 c12]] [Sm w.heap.size F w [],St w []])) ?_ hs
  clear hs s
  intro x29 o1 h hO1
  show ∀ (_:Unit),G (Ym7 w F r) [.code Ysa,.inLoop Ysa,.inBlock 0,.code q32c4] [(2,.pointer (some ⟨gb19,0,none⟩)),(7,.slice A15 n16 c17),(8,.int .i64 (x14.length:Int)),(9,.int .i64 x29)] [.box gb19 26 [.slice A2 n3 c4,.slice A6 n7 c8,.slice A10 n11 c12]] [Sm w.heap.size F w [],St w []]
  intro _
  have h:Yl5 x14 x1 x29 o1:=h
  unfold Yl5 at h
  refine Yg3 rfl<|Yfy rfl rfl<|Yfx 0 rfl (Ygj rfl rfl rfl) gn rfl<|Yg7 1 rfl<|Yg3 rfl ?_
  by_cases hp37:x29 < (x14.length:Int)
  ·have h:=Ygf hp37 h
   refine Ygp rfl _ rfl ((decide_eq_true hp37))<|Ygt rfl<|Yg3 rfl<|Ygm rfl<|Yg3 rfl<|Yfy rfl rfl ?_
   obtain ⟨hb38,h⟩:=h
   have hr39:=Rw.readF (s:=St w []) (hl:=Yig) (h1:=Yiv) h18 hb38
   refine Yfx 0 rfl (Yhp (s:=St w []) Ym8 rfl rfl h18 hb38) gn rfl<|Yfx 1 rfl (Ymk (St w []) Yr7 rfl hr39 rfl (me 1 rfl)) gn rfl ?_
   refine Ygw 2 rfl (Ykc [.int .i64 0,.string (⟨#[]⟩:ByteArray),.string (⟨#[]⟩:ByteArray)] zr_36 rfl fun gb40=>?_) gn
   refine Ygw 3 rfl (Ylo (vs:=[.int .i64 ((ix x14 x29).sym),.string ((ix x14 x29).field),.string ((ix x14 x29).as)]) (cs':=[.int .i64 ((ix x14 x29).sym),.string ((ix x14 x29).field),.string ((ix x14 x29).as)]) (M':=[.box gb40 36 [.int .i64 ((ix x14 x29).sym),.string ((ix x14 x29).field),.string ((ix x14 x29).as)],.box gb19 26 [.slice A2 n3 c4,.slice A6 n7 c8,.slice A10 n11 c12]]) 0 sz_36 rfl rfl rfl rfl rfl rfl rfl rfl rfl ?_) gn
   refine Yg7 4 rfl<|Yg3 rfl<|Yfy rfl rfl<|Yfx 0 rfl (Ygc Yn5 rfl) gn rfl<|Yfx 1 rfl (Ygg 0 Ymu rfl rfl rfl) gn rfl<|Yfx 2 rfl (Ygj rfl rfl rfl) gn rfl<|Yfx 3 rfl (Yg2 rfl) gn rfl ?_
   by_cases hp42:(ix x14 x29).sym < 0
   ·have h:=Ygf hp42 h
    refine Yhq 16 rfl ((decide_eq_true hp42))<|Yg4 4 rfl (ps 16 rfl rfl rfl)<|Yg4 5 rfl (ps 16 rfl rfl rfl)<|Yg4 6 rfl (ps 16 rfl rfl rfl)<|Yg4 7 rfl (ps 16 rfl rfl rfl)<|Yg4 8 rfl (ps 16 rfl rfl rfl)<|Yg4 9 rfl (ps 16 rfl rfl rfl)<|Yg4 10 rfl (ps 16 rfl rfl rfl)<|Yg4 11 rfl (ps 16 rfl rfl rfl)<|Yg4 12 rfl (ps 16 rfl rfl rfl)<|Yg4 13 rfl (ps 16 rfl rfl rfl)<|Yfx 14 rfl (Ygy (b:=true) rfl rfl) gn rfl ?_
    refine Yg7 15 rfl<|Ygp rfl _ rfl (rfl)<|Yg3 rfl<|Yfy rfl rfl<|Yfx 0 rfl (Yg1 rfl) gn rfl<|Yg7 1 rfl ?_
    have h:=Out.inr hO1 h
    refine Ygx [.bool false] rfl Try.func32 rfl (.tmp rfl (.nil)) fun wr hLr=>?_
    have hMr:=hLr.pk0 (.c 1 rfl .n)
    show Yld w F  r (.returned (Yhe [.bool false])) wr
    rw [h]
    exact ⟨rfl,hMr⟩
   ·have h:=Yge hp42 h
    refine Yhq 16 rfl ((decide_eq_false hp42))<|Yfx 4 rfl (Ygc Yn5 rfl) (gy 16 rfl rfl) rfl<|Yfx 5 rfl (Ygg 0 Ymu rfl rfl rfl) (gy 16 rfl rfl) rfl<|Yfx 6 rfl (Ygc Yi6 rfl) (gy 16 rfl rfl) rfl<|Yfx 7 rfl (Ygg 1 Ykt rfl rfl rfl) (gy 16 rfl rfl) rfl<|Yfx 8 rfl (Ygn Ylq rfl h5.hq) (gy 16 rfl rfl) rfl<|Yfx 9 rfl (Ygc Yih rfl) (gy 16 rfl rfl) rfl<|Yfx 10 rfl (Ygg 1 Yl8 rfl rfl rfl) (gy 16 rfl rfl) rfl<|Yfx 11 rfl (Ygn Yme rfl h9.hq) (gy 16 rfl rfl) rfl<|Yfx 12 rfl (Ygj rfl rfl rfl) (gy 16 rfl rfl) rfl<|Yfx 13 rfl (Ygj rfl rfl rfl) (gy 16 rfl rfl) rfl<|Yfx 14 rfl (Ygy (b:=false) rfl rfl) gn rfl ?_
    refine Yg7 15 rfl ?_
    by_cases hp43:(ix x14 x29).sym≥w64 ((x1.terms.length:Int) + (x1.syms.length:Int))
    ·have h:=Ygf hp43 h
     refine Ygp rfl _ rfl ((decide_eq_true hp43))<|Yg3 rfl<|Yfy rfl rfl<|Yfx 0 rfl (Yg1 rfl) gn rfl<|Yg7 1 rfl ?_
     have h:=Out.inr hO1 h
     refine Ygx [.bool false] rfl Try.func32 rfl (.tmp rfl (.nil)) fun wr hLr=>?_
     have hMr:=hLr.pk0 (.c 1 rfl .n)
     show Yld w F  r (.returned (Yhe [.bool false])) wr
     rw [h]
     exact ⟨rfl,hMr⟩
    ·have h:=Yge hp43 h
     refine Ygl rfl _ rfl ((decide_eq_false hp43))<|Ygt rfl<|Ygq<|Yfy rfl rfl<|Yfx 0 rfl (Ygj rfl rfl rfl) gn rfl<|Yfx 1 rfl (Yg2 rfl) gn rfl<|Yg7 2 rfl<|Ygv ?_
     have ih:=Out.inl hO1 h
     exact Yhj [0,1] (ih ()) ⟨rfl,rfl,rfl,rfl,trivial⟩ (.cons _ (.cons_cons _ (.slnil))) rfl
  ·have h:=Yge hp37 h
   refine Ygl rfl _ rfl ((decide_eq_false hp37))<|Yii [.code q32c4] rfl rfl<|Yg3 rfl<|Yfy rfl rfl<|Yfx 0 rfl (Yg1 rfl) gn rfl<|Yg7 1 rfl ?_
   have h:=Out.inr hO1 h
   refine Ygx [.bool true] rfl Try.func32 rfl (.tmp rfl (.nil)) fun wr hLr=>?_
   have hMr:=hLr.pk0 (.c 1 rfl .n)
   show Yld w F  r (.returned (Yhe [.bool true])) wr
   rw [h]
   exact ⟨rfl,hMr⟩
 exact Yhj [0,1] (key1 _ h ()) ⟨rfl,rfl,rfl,rfl,trivial⟩ (.cons_cons _ (.slnil)) rfl
noncomputable abbrev q31c6:=Code.snd (Code.snd (Code.snd (Yhm Try.f31)))
noncomputable abbrev q31c8:=Code.snd (Code.fst (Code.snd (Code.snd (Yhm Try.f31))))
noncomputable abbrev Yt6:=Code.snd q31c6
noncomputable abbrev Yqg:=Code.fst (Code.fst (Code.snd (Code.fst q31c6)))
abbrev Ykx (w:World) (F:Nat→Prop) (r:Bool):Ending→World→Prop:=fun e w'=>e=.returned (.bool r)∧B.Loc w w' [] [St w []]
noncomputable abbrev Ylu (w:World) (F:Nat→Prop) (r:Bool):Cx:=⟨Try.prog,31,Try.f31,47,Ykx w F  r,w⟩
theorem Ynk (w:World) (F:Nat→Prop) (x1:Yfz) (A2:Option Addr) (n3:Nat) (c4:Nat) (A6:Option Addr) (n7:Nat) (c8:Nat) (A10:Option Addr) (n11:Nat) (c12:Nat) (h5:Rw Ygi w (St w []).av A2 n3 c4 x1.terms) (h9:Rw Ygu w (St w []).av A6 n7 c8 x1.syms) (h13:Rw Ygs w (St w []).av A10 n11 c12 x1.prods) (hF:∀ b,F b→b < w.heap.size∧∀ o ∈ ([]:List (List Nat)),b ∉ o) (hL0:B.Loc w w [] [Sm w.heap.size F w [],St w []]) (r:Bool) (h:Ymc x1 r):Calls Try.prog 31 #[.agg #[.slice A2 n3 c4,.slice A6 n7 c8,.slice A10 n11 c12]] w (Ykx w F  r):=by
 unfold Ymc at h
 refine Yh0 (vs:=[.agg #[.slice A2 n3 c4,.slice A6 n7 c8,.slice A10 n11 c12]]) 47 Try.func31 rfl Try.ntmps31 rfl hL0 ?_
 show G (Ylu w F r) _ _ _ _
 refine Yg3 rfl<|Yfy rfl rfl ?_
 refine Ygw 0 rfl (Ymj [.slice A2 n3 c4,.slice A6 n7 c8,.slice A10 n11 c12] rfl rfl rfl fun gb14=>?_) gn
 refine Yfx 1 rfl (Yg1 rfl) gn rfl<|Yg7 2 rfl<|Yg3 rfl<|Yfy rfl rfl<|Yfx 0 rfl (Ygc Yi6 rfl) gn rfl<|Yfx 1 rfl (Ygg 0 Ykt rfl rfl rfl) gn rfl<|Yfx 2 rfl (Ygn Ylq rfl h5.hq) gn rfl<|Yfx 3 rfl (Yg1 rfl) gn rfl<|Yg7 4 rfl<|Yg3 rfl<|Yg3 rfl ?_
 have j1:∀ (x19:Bool) (h:Yl4 x1 x19 r) ,G (Ylu w F r) [.code q31c8,.code q31c6] [(1,.pointer (some ⟨gb14,0,none⟩)),(20,.bool x19)] [.box gb14 26 [.slice A2 n3 c4,.slice A6 n7 c8,.slice A10 n11 c12]] [Sm w.heap.size F w [],St w []]:=by
  intro x19 h
  unfold Yl4 at h
  by_cases hp20:x19=true
  ·have h:=Ygf hp20 h
   refine Ygp rfl _ rfl (hp20)<|Yg3 rfl<|Yfy rfl rfl<|Yfx 0 rfl (Yg1 rfl) gn rfl<|Yg7 1 rfl ?_
   refine Ygx [.bool false] rfl Try.func31 rfl (.tmp rfl (.nil)) fun wr hLr=>?_
   have hMr:=hLr.pk0 (.c 1 rfl .n)
   show Ykx w F  r (.returned (Yhe [.bool false])) wr
   rw [h]
   exact ⟨rfl,hMr⟩
  ·have h:=Yge hp20 h
   refine Ygl rfl _ rfl ((bf hp20))<|Ygt rfl<|Yg3 rfl<|Yg3 rfl<|Yfy rfl rfl<|Yfx 0 rfl (Ygc Yh1 rfl) gn rfl<|Yfx 1 rfl (Ygg 0 Yj4 rfl rfl rfl) gn rfl<|Yfx 2 rfl (Ygn Ymz rfl h13.hq) gn rfl<|Yfx 3 rfl (Yg2 rfl) gn rfl<|Yg7 4 rfl<|Ygm rfl<|Yij rfl ?_
   have key2:∀ s,Yga (fun (s:Int) o=>Yl3 x1 s o) s r→(fun (s:Int)=>∀ (_:Unit),G (Ylu w F r) [.code Yqg,.inLoop Yqg,.inBlock 0,.code Yt6] [(1,.pointer (some ⟨gb14,0,none⟩)),(22,.slice A10 n11 c12),(23,.int .i64 (x1.prods.length:Int)),(24,.int .i64 s)] [.box gb14 26 [.slice A2 n3 c4,.slice A6 n7 c8,.slice A10 n11 c12]] [Sm w.heap.size F w [],St w []]) s:=by
    intro s hs
    refine Yga.ind (mot:=(fun (s:Int)=>∀ (_:Unit),G (Ylu w F r) [.code Yqg,.inLoop Yqg,.inBlock 0,.code Yt6] [(1,.pointer (some ⟨gb14,0,none⟩)),(22,.slice A10 n11 c12),(23,.int .i64 (x1.prods.length:Int)),(24,.int .i64 s)] [.box gb14 26 [.slice A2 n3 c4,.slice A6 n7 c8,.slice A10 n11 c12]] [Sm w.heap.size F w [],St w []])) ?_ hs
    clear hs s
    intro x44 o1 h hO1
    show ∀ (_:Unit),G (Ylu w F r) [.code Yqg,.inLoop Yqg,.inBlock 0,.code Yt6] [(1,.pointer (some ⟨gb14,0,none⟩)),(22,.slice A10 n11 c12),(23,.int .i64 (x1.prods.length:Int)),(24,.int .i64 x44)] [.box gb14 26 [.slice A2 n3 c4,.slice A6 n7 c8,.slice A10 n11 c12]] [Sm w.heap.size F w [],St w []]
    intro _
    have h:Yl3 x1 x44 o1:=h
    unfold Yl3 at h
    refine Yg3 rfl<|Yfy rfl rfl<|Yfx 0 rfl (Ygj rfl rfl rfl) gn rfl<|Yg7 1 rfl<|Yg3 rfl ?_
    by_cases hp67:x44 < (x1.prods.length:Int)
    ·have h:=Ygf hp67 h
     refine Ygp rfl _ rfl ((decide_eq_true hp67))<|Ygt rfl<|Yg3 rfl<|Ygm rfl<|Yg3 rfl<|Yfy rfl rfl ?_
     obtain ⟨hb68,h⟩:=h
     obtain ⟨ce70,hK71,hr69⟩:=Rw.read (s:=St w []) h13 hb68
     obtain ⟨A72,n73,c74,rfl,h75⟩:=hK71
     refine Yfx 0 rfl (Yhp (s:=St w []) Yjk rfl rfl h13 hb68) gn rfl<|Yfx 1 rfl (Ymk (St w []) ld_38 rfl hr69 rfl (me 1 rfl)) gn rfl ?_
     refine Ygw 2 rfl (Ykc [.int .i64 0,.slice none 0 0] zr_38 rfl fun gb76=>?_) gn
     refine Ygw 3 rfl (Ylo (vs:=[.int .i64 ((ix x1.prods x44).lhs),.slice A72 n73 c74]) (cs':=[.int .i64 ((ix x1.prods x44).lhs),.slice A72 n73 c74]) (M':=[.box gb76 38 [.int .i64 ((ix x1.prods x44).lhs),.slice A72 n73 c74],.box gb14 26 [.slice A2 n3 c4,.slice A6 n7 c8,.slice A10 n11 c12]]) 0 sz_38 rfl rfl rfl rfl rfl rfl rfl rfl rfl ?_) gn
     refine Yg7 4 rfl<|Yg3 rfl<|Yfy rfl rfl<|Yfx 0 rfl (Ygc Ykw rfl) gn rfl<|Yfx 1 rfl (Ygg 0 Ymu rfl rfl rfl) gn rfl<|Yfx 2 rfl (Ygj rfl rfl rfl) gn rfl<|Yfx 3 rfl (Yg2 rfl) gn rfl ?_
     by_cases hp78:(ix x1.prods x44).lhs < -1
     ·have h:=Ygf hp78 h
      refine Yhq 31 rfl ((decide_eq_true hp78))<|Yg4 4 rfl (ps 31 rfl rfl rfl)<|Yg4 5 rfl (ps 31 rfl rfl rfl)<|Yg4 6 rfl (ps 31 rfl rfl rfl)<|Yg4 7 rfl (ps 31 rfl rfl rfl)<|Yg4 8 rfl (ps 31 rfl rfl rfl)<|Yg4 9 rfl (ps 31 rfl rfl rfl)<|Yfx 10 rfl (Ygy (b:=true) rfl rfl) gn rfl<|Yfx 11 rfl (Yg2 rfl) gn rfl<|Yg4 12 rfl (ps 39 rfl rfl rfl)<|Yg4 13 rfl (ps 39 rfl rfl rfl)<|Yg4 14 rfl (ps 39 rfl rfl rfl) ?_
      refine Yg4 15 rfl (ps 39 rfl rfl rfl)<|Yg4 16 rfl (ps 39 rfl rfl rfl)<|Yfx 17 rfl (Ygy (b:=true) rfl rfl) gn rfl<|Yg7 18 rfl<|Ygp rfl _ rfl (rfl)<|Yg3 rfl<|Yfy rfl rfl<|Yfx 0 rfl (Yg1 rfl) gn rfl<|Yg7 1 rfl ?_
      have h:=Out.inr hO1 h
      refine Ygx [.bool false] rfl Try.func31 rfl (.tmp rfl (.nil)) fun wr hLr=>?_
      have hMr:=hLr.pk0 (.c 1 rfl .n)
      show Ykx w F  r (.returned (Yhe [.bool false])) wr
      rw [h]
      exact ⟨rfl,hMr⟩
     ·have h:=Yge hp78 h
      refine Yhq 31 rfl ((decide_eq_false hp78))<|Yfx 4 rfl (Ygc Ykw rfl) (gy 31 rfl rfl) rfl<|Yfx 5 rfl (Ygg 0 Ymu rfl rfl rfl) (gy 31 rfl rfl) rfl<|Yfx 6 rfl (Ygc Yih rfl) (gy 31 rfl rfl) rfl<|Yfx 7 rfl (Ygg 1 Yl8 rfl rfl rfl) (gy 31 rfl rfl) rfl<|Yfx 8 rfl (Ygn Yme rfl h9.hq) (gy 31 rfl rfl) rfl<|Yfx 9 rfl (Ygj rfl rfl rfl) (gy 31 rfl rfl) rfl<|Yfx 10 rfl (Ygy (b:=false) rfl rfl) gn rfl<|Yfx 11 rfl (Yg2 rfl) gn rfl ?_
      by_cases hp79:(ix x1.prods x44).lhs≥(x1.syms.length:Int)
      ·have h:=Ygf hp79 h
       refine Yhq 39 rfl ((decide_eq_true hp79))<|Yg4 12 rfl (ps 39 rfl rfl rfl)<|Yg4 13 rfl (ps 39 rfl rfl rfl)<|Yg4 14 rfl (ps 39 rfl rfl rfl)<|Yg4 15 rfl (ps 39 rfl rfl rfl)<|Yg4 16 rfl (ps 39 rfl rfl rfl)<|Yfx 17 rfl (Ygy (b:=true) rfl rfl) gn rfl<|Yg7 18 rfl<|Ygp rfl _ rfl (rfl)<|Yg3 rfl<|Yfy rfl rfl<|Yfx 0 rfl (Yg1 rfl) gn rfl ?_
       refine Yg7 1 rfl ?_
       have h:=Out.inr hO1 h
       refine Ygx [.bool false] rfl Try.func31 rfl (.tmp rfl (.nil)) fun wr hLr=>?_
       have hMr:=hLr.pk0 (.c 1 rfl .n)
       show Ykx w F  r (.returned (Yhe [.bool false])) wr
       rw [h]
       exact ⟨rfl,hMr⟩
      ·have h:=Yge hp79 h
       refine Yhq 39 rfl ((decide_eq_false hp79))<|Yfx 12 rfl (Yji [.slice A2 n3 c4,.slice A6 n7 c8,.slice A10 n11 c12] 1 Yjg rfl rfl rfl rfl) (gy 39 rfl rfl) rfl<|Yfx 13 rfl (Ygc Yko rfl) (gy 39 rfl rfl) rfl<|Yfx 14 rfl (Ygg 0 Yn0 rfl rfl rfl) (gy 39 rfl rfl) rfl ?_
       obtain ⟨r83,hv84,h⟩:=h
       refine Ygw 15 rfl (Yho [.agg #[.slice A2 n3 c4,.slice A6 n7 c8,.slice A10 n11 c12],.slice A72 n73 c74] rfl Try.func32 rfl rfl rfl fun w80 hL81=>?_) (gy 39 rfl rfl)
       have hp82:=pmI hL81 .n (.c 0 rfl (.c 1 rfl .n)) (by kernel_rfl)
       refine Calls.mono (Yp0 w80 (Fl ([]:List Ygr)) x1 ((ix x1.prods x44).rhs) A2 n3 c4 A6 n7 c8 A10 n11 c12 A72 n73 c74 (Rw.mono h5 (hL81.toSt hp82 (me 1 rfl))) (Rw.mono h9 (hL81.toSt hp82 (me 1 rfl))) (Rw.mono h13 (hL81.toSt hp82 (me 1 rfl))) (Rw.mono h75 (hL81.toSt hp82 (me 1 rfl))) (hL81.hFl hp82 (Yj7 [] rfl)) (hL81.into hp82 _) r83 hv84) ?_
       rintro _ w85 ⟨rfl,hM86⟩
       have hL87:=hL81.call hp82 hM86
       refine ⟨_,_,_,rfl,hL87,?_⟩
       refine Yfx 16 rfl (Ymb rfl) (gy 39 rfl rfl) rfl<|Yfx 17 rfl (Ygy (b:=false) rfl rfl) gn rfl<|Yg7 18 rfl ?_
       by_cases hp88:r83=true
       ·have h:=Ygf hp88 h
        refine Ygl rfl _ rfl ((nf hp88))<|Ygt rfl<|Ygq<|Yfy rfl rfl<|Yfx 0 rfl (Ygj rfl rfl rfl) gn rfl<|Yfx 1 rfl (Yg2 rfl) gn rfl<|Yg7 2 rfl<|Ygv ?_
        have ih:=Out.inl hO1 h
        exact Yhj [0,1] (ih ()) ⟨rfl,rfl,rfl,rfl,trivial⟩ (.cons _ (.cons_cons _ (.slnil))) rfl
       ·have h:=Yge hp88 h
        refine Ygp rfl _ rfl ((nt (bf hp88)))<|Yg3 rfl<|Yfy rfl rfl<|Yfx 0 rfl (Yg1 rfl) gn rfl<|Yg7 1 rfl ?_
        have h:=Out.inr hO1 h
        refine Ygx [.bool false] rfl Try.func31 rfl (.tmp rfl (.nil)) fun wr hLr=>?_
        have hMr:=hLr.pk0 (.c 1 rfl .n)
        show Ykx w F  r (.returned (Yhe [.bool false])) wr
        rw [h]
        exact ⟨rfl,hMr⟩
    ·have h:=Yge hp67 h
     refine Ygl rfl _ rfl ((decide_eq_false hp67))<|Yii [.code Yt6] rfl rfl<|Yg3 rfl<|Yfy rfl rfl<|Yfx 0 rfl (Yg1 rfl) gn rfl<|Yg7 1 rfl ?_
     have h:=Out.inr hO1 h
     refine Ygx [.bool true] rfl Try.func31 rfl (.tmp rfl (.nil)) fun wr hLr=>?_
     have hMr:=hLr.pk0 (.c 1 rfl .n)
     show Ykx w F  r (.returned (Yhe [.bool true])) wr
     rw [h]
     exact ⟨rfl,hMr⟩
   exact Yhj [0,1] (key2 _ h ()) ⟨rfl,rfl,rfl,rfl,trivial⟩ (.cons_cons _ (.slnil)) rfl
 refine Yfy rfl rfl<|Yfx 0 rfl (Yg2 rfl) gn rfl<|Yfx 1 rfl (Ygj rfl rfl rfl) gn rfl<|Yfx 2 rfl (Yg2 rfl) gn rfl ?_
 by_cases hp89:(x1.terms.length:Int) < 1
 ·have h:=Ygf hp89 h
  refine Yhq 11 rfl ((decide_eq_true hp89))<|Yg4 3 rfl (ps 11 rfl rfl rfl)<|Yg4 4 rfl (ps 11 rfl rfl rfl)<|Yfx 5 rfl (Ygy (b:=true) rfl rfl) gn rfl<|Yfx 6 rfl (Yg2 rfl) gn rfl<|Yg4 7 rfl (ps 15 rfl rfl rfl)<|Yg4 8 rfl (ps 15 rfl rfl rfl)<|Yg4 9 rfl (ps 15 rfl rfl rfl)<|Yg4 10 rfl (ps 15 rfl rfl rfl)<|Yfx 11 rfl (Ygy (b:=true) rfl rfl) gn rfl<|Yg7 12 rfl ?_
  exact Yhj [0,1] (j1 true h) ⟨rfl,rfl,trivial⟩ (.cons_cons _ (.slnil)) rfl
 ·have h:=Yge hp89 h
  refine Yhq 11 rfl ((decide_eq_false hp89))<|Yfx 3 rfl (Yg2 rfl) (gy 11 rfl rfl) rfl<|Yfx 4 rfl (Ygj rfl rfl rfl) (gy 11 rfl rfl) rfl<|Yfx 5 rfl (Ygy (b:=false) rfl rfl) gn rfl<|Yfx 6 rfl (Yg2 rfl) gn rfl ?_
  by_cases hp90:(x1.terms.length:Int) > 64
  ·have h:=Ygf hp90 h
   refine Yhq 15 rfl ((decide_eq_true hp90))<|Yg4 7 rfl (ps 15 rfl rfl rfl)<|Yg4 8 rfl (ps 15 rfl rfl rfl)<|Yg4 9 rfl (ps 15 rfl rfl rfl)<|Yg4 10 rfl (ps 15 rfl rfl rfl)<|Yfx 11 rfl (Ygy (b:=true) rfl rfl) gn rfl<|Yg7 12 rfl ?_
   exact Yhj [0,1] (j1 true h) ⟨rfl,rfl,trivial⟩ (.cons_cons _ (.slnil)) rfl
  ·have h:=Yge hp90 h
   refine Yhq 15 rfl ((decide_eq_false hp90))<|Yfx 7 rfl (Ygc Yih rfl) (gy 15 rfl rfl) rfl<|Yfx 8 rfl (Ygg 0 Yl8 rfl rfl rfl) (gy 15 rfl rfl) rfl<|Yfx 9 rfl (Ygn Yme rfl h9.hq) (gy 15 rfl rfl) rfl<|Yfx 10 rfl (Ygj rfl rfl rfl) (gy 15 rfl rfl) rfl<|Yfx 11 rfl (Ygy (b:=false) rfl rfl) gn rfl<|Yg7 12 rfl ?_
   exact Yhj [0,1] (j1 (decide ((x1.syms.length:Int) > 128)) h) ⟨rfl,rfl,trivial⟩ (.cons_cons _ (.slnil)) rfl
noncomputable abbrev q34c6:=Code.snd (Code.snd (Code.snd (Yhm Try.f34)))
noncomputable abbrev Yoq:=Code.fst (Code.fst (Code.snd (Code.fst (Code.snd (Code.snd (Yhm Try.f34))))))
noncomputable abbrev q34c22:=Code.fst (Code.snd (Code.fst (Code.fst (Code.snd (Code.snd Yoq)))))
noncomputable abbrev q34c24:=Code.fst (Code.snd (Code.snd (Code.fst (Code.fst (Code.snd (Code.snd Yoq))))))
abbrev Ym5 (w:World) (F:Nat→Prop) (g2:Nat) (Tb3:Nat) (r:Int × Bool × Yg0):Ending→World→Prop:=fun e w'=>e=.returned (.tuple #[.int .u64 r.1,.bool r.2.1])∧B.Loc w w' [.box g2 Tb3 (Yg5 r.2.2)] [St w [[g2]]]
noncomputable abbrev Ym6 (w:World) (F:Nat→Prop) (g2:Nat) (Tb3:Nat) (r:Int × Bool × Yg0):Cx:=⟨Try.prog,34,Try.f34,35,Ym5 w F g2 Tb3 r,w⟩
theorem Yp1 (w:World) (F:Nat→Prop) (x1:Yg0) (x4:List Yg9) (g2:Nat) (Tb3:Nat) (A5:Option Addr) (n6:Nat) (c7:Nat) (h8:Rw Yiy w (St w [[g2]]).av A5 n6 c7 x4) (hF:∀ b,F b→b < w.heap.size∧∀ o ∈ ([[g2]]:List (List Nat)),b ∉ o) (hL0:B.Loc w w [.box g2 Tb3 (Yg5 x1)] [Sm w.heap.size F w [[g2]],St w [[g2]]]) (r:Int × Bool × Yg0) (h:Yly x1 x4 r):Calls Try.prog 34 #[.pointer (some ⟨g2,0,none⟩),.slice A5 n6 c7] w (Ym5 w F g2 Tb3 r):=by
 unfold Yly at h
 refine Yh0 (vs:=[.pointer (some ⟨g2,0,none⟩),.slice A5 n6 c7]) 35 Try.func34 rfl Try.ntmps34 rfl hL0 ?_
 show G (Ym6 w F g2 Tb3 r) _ _ _ _
 refine Yg3 rfl<|Yfy rfl rfl<|Yfx 0 rfl (Yg1 rfl) gn rfl<|Yfx 1 rfl (Yg1 rfl) gn rfl<|Yg7 2 rfl<|Yg3 rfl<|Yfy rfl rfl<|Yfx 0 rfl (Yg1 rfl) gn rfl<|Yg7 1 rfl<|Yg3 rfl<|Yg3 rfl<|Yfy rfl rfl ?_
 refine Yfx 0 rfl (Yg2 rfl) gn rfl<|Yfx 1 rfl (Ygn Ynd rfl h8.hq) gn rfl<|Yfx 2 rfl (Yg2 rfl) gn rfl<|Yg7 3 rfl<|Ygm rfl<|Yij rfl ?_
 have key1:∀ s,Yga (fun (s:Int × Int) o=>Yjr x4 x1 s.1 s.2 o) s r→(fun (s:Int × Int)=>∀ (_:Unit),G (Ym6 w F g2 Tb3 r) [.code Yoq,.inLoop Yoq,.inBlock 0,.code q34c6] [(0,.pointer (some ⟨g2,0,none⟩)),(6,.int .u64 s.1),(9,.slice A5 n6 c7),(10,.int .i64 (x4.length:Int)),(11,.int .i64 s.2)] [.box g2 Tb3 (Yg5 x1)] [Sm w.heap.size F w [[g2]],St w [[g2]]]) s:=by
  intro s hs
  refine Yga.ind (mot:=(fun (s:Int × Int)=>∀ (_:Unit),G (Ym6 w F g2 Tb3 r) [.code Yoq,.inLoop Yoq,.inBlock 0,.code q34c6] [(0,.pointer (some ⟨g2,0,none⟩)),(6,.int .u64 s.1),(9,.slice A5 n6 c7),(10,.int .i64 (x4.length:Int)),(11,.int .i64 s.2)] [.box g2 Tb3 (Yg5 x1)] [Sm w.heap.size F w [[g2]],St w [[g2]]])) ?_ hs
  clear hs s
  intro s o1 h hO1
  obtain ⟨x17,x18⟩:=s
  show ∀ (_:Unit),G (Ym6 w F g2 Tb3 r) [.code Yoq,.inLoop Yoq,.inBlock 0,.code q34c6] [(0,.pointer (some ⟨g2,0,none⟩)),(6,.int .u64 x17),(9,.slice A5 n6 c7),(10,.int .i64 (x4.length:Int)),(11,.int .i64 x18)] [.box g2 Tb3 (Yg5 x1)] [Sm w.heap.size F w [[g2]],St w [[g2]]]
  intro _
  have h:Yjr x4 x1 x17 x18 o1:=h
  unfold Yjr at h
  refine Yg3 rfl<|Yfy rfl rfl<|Yfx 0 rfl (Ygj rfl rfl rfl) gn rfl<|Yg7 1 rfl<|Yg3 rfl ?_
  by_cases hp26:x18 < (x4.length:Int)
  ·have h:=Ygf hp26 h
   refine Ygp rfl _ rfl ((decide_eq_true hp26))<|Ygt rfl<|Yg3 rfl<|Ygm rfl<|Yg3 rfl<|Yfy rfl rfl ?_
   obtain ⟨hb27,h⟩:=h
   have hr28:=Rw.readF (s:=St w [[g2]]) (hl:=Yig) (h1:=Yiv) h8 hb27
   refine Yfx 0 rfl (Yhp (s:=St w [[g2]]) Ym8 rfl rfl h8 hb27) gn rfl<|Yfx 1 rfl (Ymk (St w [[g2]]) Yr7 rfl hr28 rfl (me 1 rfl)) gn rfl ?_
   refine Ygw 2 rfl (Ykc [.int .i64 0,.string (⟨#[]⟩:ByteArray),.string (⟨#[]⟩:ByteArray)] zr_36 rfl fun gb29=>?_) gn
   refine Ygw 3 rfl (Ylo (vs:=[.int .i64 ((ix x4 x18).sym),.string ((ix x4 x18).field),.string ((ix x4 x18).as)]) (cs':=[.int .i64 ((ix x4 x18).sym),.string ((ix x4 x18).field),.string ((ix x4 x18).as)]) (M':=[.box gb29 36 [.int .i64 ((ix x4 x18).sym),.string ((ix x4 x18).field),.string ((ix x4 x18).as)],.box g2 Tb3 (Yg5 x1)]) 0 sz_36 rfl rfl rfl rfl rfl rfl rfl rfl rfl ?_) gn
   refine Yg7 4 rfl<|Yg3 rfl ?_
   obtain ⟨hb31,h⟩:=h
   have hns:Region.noSelect (Code.ops q34c22)=true:=by kernel_rfl
   refine Yk2 [] 10 rfl rfl mix rfl (.c 0 rfl (.c 1 rfl .n))<|wfv 0 rfl (Yg2 rfl) gn hns rfl<|wfv 1 rfl (Yg2 rfl) gn hns rfl<|wfv 2 rfl (Ygc Yn5 rfl) gn hns rfl<|wfv 3 rfl (Ygg 0 Ymu rfl rfl rfl) gn hns rfl<|wfv 4 rfl (Yrg rfl) gn hns rfl<|wfv 5 rfl (Ygc Yo7 rfl) gn hns rfl<|wfv 6 rfl (Yoj Yu3 rfl rfl hb31) gn hns rfl<|wfv 7 rfl (Yt8 1 ld_29 rfl rfl (hp:=(Pt.trans (Yiu x1 (upd x1.first ((ix x4 x18).sym) (x1.first ((ix x4 x18).sym)))) (Pt.arr (f:=x1.first) (enc:=fun y=>[.int .u64 y]) (fun _=>rfl) hb31 (x1.first ((ix x4 x18).sym))))) rfl) gn hns rfl<|wfv 8 rfl (Ygj rfl rfl rfl) gn hns rfl<|wfv 9 rfl (Yg1 rfl) gn hns rfl<|Yl0 (by kernel_rfl) ?_
   refine Yg3 rfl ?_
   have hns:Region.noSelect (Code.ops q34c24)=true:=by kernel_rfl
   refine Yk2 [] 8 rfl rfl mix rfl (.c 0 rfl (.c 1 rfl .n))<|wfv 0 rfl (Yg2 rfl) gn hns rfl<|wfv 1 rfl (Ygc Yn5 rfl) gn hns rfl<|wfv 2 rfl (Ygg 0 Ymu rfl rfl rfl) gn hns rfl<|wfv 3 rfl (Yrg rfl) gn hns rfl<|wfv 4 rfl (Ygc Yoc rfl) gn hns rfl<|wfv 5 rfl (Yoj Ytr rfl rfl hb31) gn hns rfl<|wfv 6 rfl (Yt8 1 ld_4 rfl rfl (hp:=(Pt.trans (Yi8 x1 (upd x1.vanishes ((ix x4 x18).sym) (x1.vanishes ((ix x4 x18).sym)))) (Pt.arr (f:=x1.vanishes) (enc:=fun y=>[.bool y]) (fun _=>rfl) hb31 (x1.vanishes ((ix x4 x18).sym))))) rfl) gn hns rfl<|wfv 7 rfl (Ymb rfl) gn hns rfl<|Yl0 (by kernel_rfl) ?_
   by_cases hp32:(x1.vanishes ((ix x4 x18).sym))=true
   ·have h:=Ygf hp32 h
    refine Ygl rfl _ rfl ((nf hp32))<|Ygt rfl<|Ygq<|Yfy rfl rfl<|Yfx 0 rfl (Ygj rfl rfl rfl) gn rfl<|Yfx 1 rfl (Yg2 rfl) gn rfl<|Yg7 2 rfl<|Ygv ?_
    have ih:=Out.inl hO1 h
    exact Yhj [0,1] (ih ()) ⟨rfl,rfl,rfl,rfl,rfl,trivial⟩ (.cons _ (.cons_cons _ (.slnil))) rfl
   ·have h:=Yge hp32 h
    refine Ygp rfl _ rfl ((nt (bf hp32)))<|Yg3 rfl<|Yfy rfl rfl<|Yfx 0 rfl (Yg2 rfl) gn rfl<|Yfx 1 rfl (Yg1 rfl) gn rfl<|Yfx 2 rfl (Yg1 rfl) gn rfl<|Yg7 3 rfl ?_
    have h:=Out.inr hO1 h
    refine Ygx [.int .u64 (bits .or .u64 x17 (x1.first ((ix x4 x18).sym))),.bool false] rfl Try.func34 rfl (.tmp rfl (.tmp rfl (.nil))) fun wr hLr=>?_
    have hMr:=hLr.pkI (.c 1 rfl .n) (.c 0 rfl .n) (by kernel_rfl) (.c 1 rfl .n)
    show Ym5 w F g2 Tb3 r (.returned (Yhe [.int .u64 (bits .or .u64 x17 (x1.first ((ix x4 x18).sym))),.bool false])) wr
    rw [h]
    exact ⟨rfl,hMr⟩
  ·have h:=Yge hp26 h
   refine Ygl rfl _ rfl ((decide_eq_false hp26))<|Yii [.code q34c6] rfl rfl<|Yg3 rfl<|Yfy rfl rfl<|Yfx 0 rfl (Yg2 rfl) gn rfl<|Yfx 1 rfl (Yg1 rfl) gn rfl<|Yfx 2 rfl (Yg1 rfl) gn rfl<|Yg7 3 rfl ?_
   have h:=Out.inr hO1 h
   refine Ygx [.int .u64 x17,.bool true] rfl Try.func34 rfl (.tmp rfl (.tmp rfl (.nil))) fun wr hLr=>?_
   have hMr:=hLr.pkI (.c 0 rfl .n) .n (by kernel_rfl) (.c 1 rfl .n)
   show Ym5 w F g2 Tb3 r (.returned (Yhe [.int .u64 x17,.bool true])) wr
   rw [h]
   exact ⟨rfl,hMr⟩
 exact Yhj [0,1] (key1 _ h ()) ⟨rfl,rfl,rfl,rfl,rfl,trivial⟩ (.cons_cons _ (.slnil)) rfl
noncomputable abbrev Yu0:=Code.snd (Code.snd (Code.snd (Yhm Try.f33)))
noncomputable abbrev Ypx:=Code.fst (Code.fst (Code.snd (Code.fst (Code.snd (Code.snd (Yhm Try.f33))))))
noncomputable abbrev Yml:=Code.fst (Code.fst Yu0)
noncomputable abbrev Yrm:=Code.snd (Code.snd (Code.fst Yml))
noncomputable abbrev Yom:=Code.fst (Code.fst (Code.snd (Code.fst (Code.snd (Code.fst Yml)))))
noncomputable abbrev q33c40:=Code.snd (Code.snd (Code.snd Yom))
abbrev Ynp (w:World) (F:Nat→Prop) (r:Yg0):Ending→World→Prop:=fun e w'=>e=.returned (.agg (Yg5 r).toArray)∧B.Loc w w' [] [St w []]
noncomputable abbrev Yje (w:World) (F:Nat→Prop) (r:Yg0):Cx:=⟨Try.prog,33,Try.f33,79,Ynp w F  r,w⟩
theorem Yng (w:World) (F:Nat→Prop) (x1:Yfz) (A2:Option Addr) (n3:Nat) (c4:Nat) (A6:Option Addr) (n7:Nat) (c8:Nat) (A10:Option Addr) (n11:Nat) (c12:Nat) (h5:Rw Ygi w (St w []).av A2 n3 c4 x1.terms) (h9:Rw Ygu w (St w []).av A6 n7 c8 x1.syms) (h13:Rw Ygs w (St w []).av A10 n11 c12 x1.prods) (hF:∀ b,F b→b < w.heap.size∧∀ o ∈ ([]:List (List Nat)),b ∉ o) (hL0:B.Loc w w [] [Sm w.heap.size F w [],St w []]) (r:Yg0) (h:Yl9 x1 r):Calls Try.prog 33 #[.agg #[.slice A2 n3 c4,.slice A6 n7 c8,.slice A10 n11 c12]] w (Ynp w F  r):=by
 unfold Yl9 at h
 refine Yh0 (vs:=[.agg #[.slice A2 n3 c4,.slice A6 n7 c8,.slice A10 n11 c12]]) 79 Try.func33 rfl Try.ntmps33 rfl hL0 ?_
 show G (Yje w F r) _ _ _ _
 refine Yg3 rfl<|Yfy rfl rfl ?_
 refine Ygw 0 rfl (Ymj [.slice A2 n3 c4,.slice A6 n7 c8,.slice A10 n11 c12] rfl rfl rfl fun gb14=>?_) gn
 refine Ygw 1 rfl (Ykc (Yg5 (⟨(fun _=>0),(fun _=>false)⟩:Yg0)) Yts rfl fun gb16=>?_) gn
 refine Yg7 2 rfl<|Yg3 rfl<|Yfy rfl rfl ?_
 refine Ygw 0 rfl (Ykc (Yg5 (⟨(fun _=>0),(fun _=>false)⟩:Yg0)) Yts rfl fun gb18=>?_) gn
 refine Yg7 1 rfl<|Yg3 rfl<|Yg3 rfl<|Yfy rfl rfl<|Yfx 0 rfl (Ygc Yi6 rfl) gn rfl<|Yfx 1 rfl (Ygg 2 Ykt rfl rfl rfl) gn rfl<|Yfx 2 rfl (Ygn Ylq rfl h5.hq) gn rfl<|Yfx 3 rfl (Yg2 rfl) gn rfl<|Yg7 4 rfl<|Ygm rfl<|Yij rfl ?_
 have key1:∀ s,Yga (fun (s:Int × Yg0) o=>Yjf x1 s.1 s.2 o) s r→(fun (s:Int × Yg0)=>∀ (_:Unit),G (Yje w F r) [.code Ypx,.inLoop Ypx,.inBlock 0,.code Yu0] [(1,.pointer (some ⟨gb14,0,none⟩)),(2,.pointer (some ⟨gb16,0,none⟩)),(3,.pointer (some ⟨gb18,0,none⟩)),(13,.int .i64 (x1.terms.length:Int)),(14,.int .i64 s.1)] [.box gb18 67 (Yg5 s.2),.box gb16 67 (Yg5 (⟨(fun _=>0),(fun _=>false)⟩:Yg0)),.box gb14 26 [.slice A2 n3 c4,.slice A6 n7 c8,.slice A10 n11 c12]] [Sm w.heap.size F w [],St w []]) s:=by
  intro s hs
  refine Yga.ind (mot:=(fun (s:Int × Yg0)=>∀ (_:Unit),G (Yje w F r) [.code Ypx,.inLoop Ypx,.inBlock 0,.code Yu0] [(1,.pointer (some ⟨gb14,0,none⟩)),(2,.pointer (some ⟨gb16,0,none⟩)),(3,.pointer (some ⟨gb18,0,none⟩)),(13,.int .i64 (x1.terms.length:Int)),(14,.int .i64 s.1)] [.box gb18 67 (Yg5 s.2),.box gb16 67 (Yg5 (⟨(fun _=>0),(fun _=>false)⟩:Yg0)),.box gb14 26 [.slice A2 n3 c4,.slice A6 n7 c8,.slice A10 n11 c12]] [Sm w.heap.size F w [],St w []])) ?_ hs
  clear hs s
  intro s o1 h hO1
  obtain ⟨x372,x373⟩:=s
  show ∀ (_:Unit),G (Yje w F r) [.code Ypx,.inLoop Ypx,.inBlock 0,.code Yu0] [(1,.pointer (some ⟨gb14,0,none⟩)),(2,.pointer (some ⟨gb16,0,none⟩)),(3,.pointer (some ⟨gb18,0,none⟩)),(13,.int .i64 (x1.terms.length:Int)),(14,.int .i64 x372)] [.box gb18 67 (Yg5 x373),.box gb16 67 (Yg5 (⟨(fun _=>0),(fun _=>false)⟩:Yg0)),.box gb14 26 [.slice A2 n3 c4,.slice A6 n7 c8,.slice A10 n11 c12]] [Sm w.heap.size F w [],St w []]
  intro _
  have h:Yjf x1 x372 x373 o1:=h
  unfold Yjf at h
  refine Yg3 rfl<|Yfy rfl rfl<|Yfx 0 rfl (Ygj rfl rfl rfl) gn rfl<|Yg7 1 rfl<|Yg3 rfl ?_
  by_cases hp726:x372 < (x1.terms.length:Int)
  ·have h:=Ygf hp726 h
   refine Ygp rfl _ rfl ((decide_eq_true hp726))<|Ygt rfl<|Yg3 rfl<|Ygm rfl<|Yg3 rfl<|Yfy rfl rfl<|Yfx 0 rfl (Yg2 rfl) gn rfl<|Yfx 1 rfl (Yg1 rfl) gn rfl<|Yg7 2 rfl<|Yfy rfl rfl<|Yfx 0 rfl (Yg2 rfl) gn rfl<|Yfx 1 rfl (Yg2 rfl) gn rfl ?_
   obtain ⟨hb727,h⟩:=h
   refine Yfx 2 rfl (v_shl rfl rfl hb727) gn rfl<|Yfx 3 rfl (Ygc Yo7 rfl) gn rfl ?_
   obtain ⟨hb728,h⟩:=h
   refine Yfx 4 rfl (Yoj Yu3 rfl rfl hb728) gn rfl ?_
   obtain ⟨x729,hv730,h⟩:=h
   refine Ygw 5 rfl (Yp2 (cs':=(Yg5 x729)) (m:=[.int .u64 (x373.first x372)]) (m':=[.int .u64 (shlV .u64 1 x372)]) 0 sz_29 rfl rfl rfl (by rw [hv730]; exact (Pt.trans (Yiu x373 (upd x373.first x372 (shlV .u64 1 x372))) (Pt.arr (f:=x373.first) (enc:=fun y=>[.int .u64 y]) (fun _=>rfl) hb728 (shlV .u64 1 x372)))) rfl rfl rfl rfl ?_) gn
   refine Yg7 6 rfl<|Ygq<|Yfy rfl rfl<|Yfx 0 rfl (Ygj rfl rfl rfl) gn rfl<|Yfx 1 rfl (Yg2 rfl) gn rfl<|Yg7 2 rfl<|Ygv ?_
   have ih:=Out.inl hO1 h
   exact Yhj [0,1] (ih ()) ⟨rfl,rfl,rfl,rfl,rfl,trivial⟩ (.cons_cons _ (.cons_cons _ (.cons_cons _ (.slnil)))) rfl
  ·have h:=Yge hp726 h
   refine Ygl rfl _ rfl ((decide_eq_false hp726))<|Yii [.code Yu0] rfl rfl<|Ygm rfl<|Yij rfl ?_
   have key2:∀ s,Yga (fun (s:Yg0) o=>Ykj x1 s o) s o1→(fun (s:Yg0)=>∀ (_:Unit),G (Yje w F r) [.code Yml,.inLoop Yml,.inBlock 2] [(1,.pointer (some ⟨gb14,0,none⟩)),(2,.pointer (some ⟨gb16,0,none⟩)),(3,.pointer (some ⟨gb18,0,none⟩))] [.box gb18 67 (Yg5 s),.box gb16 67 (Yg5 (⟨(fun _=>0),(fun _=>false)⟩:Yg0)),.box gb14 26 [.slice A2 n3 c4,.slice A6 n7 c8,.slice A10 n11 c12]] [Sm w.heap.size F w [],St w []]) s:=by
    intro s hs
    refine Yga.ind (mot:=(fun (s:Yg0)=>∀ (_:Unit),G (Yje w F r) [.code Yml,.inLoop Yml,.inBlock 2] [(1,.pointer (some ⟨gb14,0,none⟩)),(2,.pointer (some ⟨gb16,0,none⟩)),(3,.pointer (some ⟨gb18,0,none⟩))] [.box gb18 67 (Yg5 s),.box gb16 67 (Yg5 (⟨(fun _=>0),(fun _=>false)⟩:Yg0)),.box gb14 26 [.slice A2 n3 c4,.slice A6 n7 c8,.slice A10 n11 c12]] [Sm w.heap.size F w [],St w []])) ?_ hs
    clear hs s
    intro x847 o2 h hO2
    show ∀ (_:Unit),G (Yje w F r) [.code Yml,.inLoop Yml,.inBlock 2] [(1,.pointer (some ⟨gb14,0,none⟩)),(2,.pointer (some ⟨gb16,0,none⟩)),(3,.pointer (some ⟨gb18,0,none⟩))] [.box gb18 67 (Yg5 x847),.box gb16 67 (Yg5 (⟨(fun _=>0),(fun _=>false)⟩:Yg0)),.box gb14 26 [.slice A2 n3 c4,.slice A6 n7 c8,.slice A10 n11 c12]] [Sm w.heap.size F w [],St w []]
    intro _
    have h:Ykj x1 x847 o2:=h
    unfold Ykj at h
    refine Ygm rfl<|Yg3 rfl<|Yfy rfl rfl<|Yfx 0 rfl (Yqk 0 Ytz rfl rfl (hp:=(Pt.refl _ (Yg5 x847))) (Yhc x847)) gn rfl ?_
    refine Ygw 1 rfl (Ykc (Yg5 (⟨(fun _=>0),(fun _=>false)⟩:Yg0)) Yts rfl fun gb963=>?_) gn
    obtain ⟨x965,hv966,h⟩:=h
    refine Ygw 2 rfl (Yp2 (cs':=(Yg5 x965)) (m:=(Yg5 (⟨(fun _=>0),(fun _=>false)⟩:Yg0))) (m':=(Yg5 x847)) 0 Ysr rfl rfl rfl (by rw [hv966]; exact (Pt.refl _ (Yg5 x847))) rfl (Yhc (⟨(fun _=>0),(fun _=>false)⟩:Yg0)) (Yhc x847) (Yle x847) ?_) gn
    refine Yg7 3 rfl<|Yg3 rfl<|Yg3 rfl<|Yfy rfl rfl<|Yfx 0 rfl (Ygc Yh1 rfl) gn rfl<|Yfx 1 rfl (Ygg 3 Yj4 rfl rfl rfl) gn rfl<|Yfx 2 rfl (Ygn Ymz rfl h13.hq) gn rfl<|Yfx 3 rfl (Yg2 rfl) gn rfl<|Yg7 4 rfl<|Ygm rfl<|Yij rfl ?_
    have key3:∀ s,Yga (fun (s:Int × Yg0) o=>Yin x1 x847 s.1 s.2 o) s o2→(fun (s:Int × Yg0)=>∀ (_:Unit),G (Yje w F r) [.code Yom,.inLoop Yom,.inBlock 4,.code Yrm,.inBlock 3,.inLoop Yml,.inBlock 2] [(1,.pointer (some ⟨gb14,0,none⟩)),(2,.pointer (some ⟨gb16,0,none⟩)),(3,.pointer (some ⟨gb18,0,none⟩)),(5,.pointer (some ⟨gb963,0,none⟩)),(25,.slice A10 n11 c12),(26,.int .i64 (x1.prods.length:Int)),(27,.int .i64 s.1)] [.box gb963 67 (Yg5 s.2),.box gb18 67 (Yg5 x847),.box gb16 67 (Yg5 (⟨(fun _=>0),(fun _=>false)⟩:Yg0)),.box gb14 26 [.slice A2 n3 c4,.slice A6 n7 c8,.slice A10 n11 c12]] [Sm w.heap.size F w [],St w []]) s:=by
     intro s hs
     refine Yga.ind (mot:=(fun (s:Int × Yg0)=>∀ (_:Unit),G (Yje w F r) [.code Yom,.inLoop Yom,.inBlock 4,.code Yrm,.inBlock 3,.inLoop Yml,.inBlock 2] [(1,.pointer (some ⟨gb14,0,none⟩)),(2,.pointer (some ⟨gb16,0,none⟩)),(3,.pointer (some ⟨gb18,0,none⟩)),(5,.pointer (some ⟨gb963,0,none⟩)),(25,.slice A10 n11 c12),(26,.int .i64 (x1.prods.length:Int)),(27,.int .i64 s.1)] [.box gb963 67 (Yg5 s.2),.box gb18 67 (Yg5 x847),.box gb16 67 (Yg5 (⟨(fun _=>0),(fun _=>false)⟩:Yg0)),.box gb14 26 [.slice A2 n3 c4,.slice A6 n7 c8,.slice A10 n11 c12]] [Sm w.heap.size F w [],St w []])) ?_ hs
     clear hs s
     intro s o3 h hO3
     obtain ⟨x1004,x1005⟩:=s
     show ∀ (_:Unit),G (Yje w F r) [.code Yom,.inLoop Yom,.inBlock 4,.code Yrm,.inBlock 3,.inLoop Yml,.inBlock 2] [(1,.pointer (some ⟨gb14,0,none⟩)),(2,.pointer (some ⟨gb16,0,none⟩)),(3,.pointer (some ⟨gb18,0,none⟩)),(5,.pointer (some ⟨gb963,0,none⟩)),(25,.slice A10 n11 c12),(26,.int .i64 (x1.prods.length:Int)),(27,.int .i64 x1004)] [.box gb963 67 (Yg5 x1005),.box gb18 67 (Yg5 x847),.box gb16 67 (Yg5 (⟨(fun _=>0),(fun _=>false)⟩:Yg0)),.box gb14 26 [.slice A2 n3 c4,.slice A6 n7 c8,.slice A10 n11 c12]] [Sm w.heap.size F w [],St w []]
     intro _
     have h:Yin x1 x847 x1004 x1005 o3:=h
     unfold Yin at h
     refine Yg3 rfl<|Yfy rfl rfl<|Yfx 0 rfl (Ygj rfl rfl rfl) gn rfl<|Yg7 1 rfl<|Yg3 rfl ?_
     by_cases hp1042:x1004 < (x1.prods.length:Int)
     ·have h:=Ygf hp1042 h
      refine Ygp rfl _ rfl ((decide_eq_true hp1042))<|Ygt rfl<|Yg3 rfl<|Ygm rfl<|Yg3 rfl<|Yfy rfl rfl ?_
      obtain ⟨hb1043,h⟩:=h
      obtain ⟨ce1045,hK1046,hr1044⟩:=Rw.read (s:=St w []) h13 hb1043
      obtain ⟨A1047,n1048,c1049,rfl,h1050⟩:=hK1046
      refine Yfx 0 rfl (Yhp (s:=St w []) Yjk rfl rfl h13 hb1043) gn rfl<|Yfx 1 rfl (Ymk (St w []) ld_38 rfl hr1044 rfl (me 1 rfl)) gn rfl ?_
      refine Ygw 2 rfl (Ykc [.int .i64 0,.slice none 0 0] zr_38 rfl fun gb1051=>?_) gn
      refine Ygw 3 rfl (Ylo (vs:=[.int .i64 ((ix x1.prods x1004).lhs),.slice A1047 n1048 c1049]) (cs':=[.int .i64 ((ix x1.prods x1004).lhs),.slice A1047 n1048 c1049]) (M':=[.box gb1051 38 [.int .i64 ((ix x1.prods x1004).lhs),.slice A1047 n1048 c1049],.box gb963 67 (Yg5 x1005),.box gb18 67 (Yg5 x847),.box gb16 67 (Yg5 (⟨(fun _=>0),(fun _=>false)⟩:Yg0)),.box gb14 26 [.slice A2 n3 c4,.slice A6 n7 c8,.slice A10 n11 c12]]) 0 sz_38 rfl rfl rfl rfl rfl rfl rfl rfl rfl ?_) gn
      refine Yg7 4 rfl<|Yg3 rfl<|Yg3 rfl<|Yfy rfl rfl<|Yfx 0 rfl (Ygc Ykw rfl) gn rfl<|Yfx 1 rfl (Ygg 0 Ymu rfl rfl rfl) gn rfl<|Yfx 2 rfl (Ygj rfl rfl rfl) gn rfl<|Yg7 3 rfl ?_
      by_cases hp1053:(ix x1.prods x1004).lhs < 0
      ·have h:=Ygf hp1053 h
       refine Ygp rfl _ rfl ((decide_eq_true hp1053))<|Yii [.code q33c40,.inLoop Yom,.inBlock 4,.code Yrm,.inBlock 3,.inLoop Yml,.inBlock 2] rfl rfl<|Yfy rfl rfl<|Yfx 0 rfl (Ygj rfl rfl rfl) gn rfl<|Yfx 1 rfl (Yg2 rfl) gn rfl<|Yg7 2 rfl<|Ygv ?_
       have ih:=Out.inl hO3 h
       exact Yhj [0,1] (ih ()) ⟨rfl,rfl,rfl,rfl,rfl,rfl,rfl,trivial⟩ (.cons _ (.cons_cons _ (.cons_cons _ (.cons_cons _ (.cons_cons _ (.slnil)))))) rfl
      ·have h:=Yge hp1053 h
       refine Ygl rfl _ rfl ((decide_eq_false hp1053))<|Ygt rfl<|Yg3 rfl<|Yfy rfl rfl<|Yfx 0 rfl (Ygc Yi6 rfl) gn rfl<|Yfx 1 rfl (Ygg 4 Ykt rfl rfl rfl) gn rfl<|Yfx 2 rfl (Ygn Ylq rfl h5.hq) gn rfl<|Yfx 3 rfl (Ygc Ykw rfl) gn rfl<|Yfx 4 rfl (Ygg 0 Ymu rfl rfl rfl) gn rfl<|Yfx 5 rfl (Ygj rfl rfl rfl) gn rfl<|Yfx 6 rfl (Yg1 rfl) gn rfl<|Yg7 7 rfl ?_
       refine Yg3 rfl<|Yfy rfl rfl<|Yfx 0 rfl (Ygc Yko rfl) gn rfl<|Yfx 1 rfl (Ygg 0 Yn0 rfl rfl rfl) gn rfl ?_
       obtain ⟨r1057,hv1058,h⟩:=h
       refine Ygw 2 rfl (Yho [.pointer (some ⟨gb963,0,none⟩),.slice A1047 n1048 c1049] rfl Try.func34 rfl rfl rfl fun w1054 hL1055=>?_) gn
       have hp1056:=pmI hL1055 (.c 1 rfl .n) (.c 0 rfl (.c 2 rfl (.c 3 rfl (.c 4 rfl .n)))) (by kernel_rfl)
       refine Calls.mono (Yp1 w1054 (Fl ([]:List Ygr)) x1005 ((ix x1.prods x1004).rhs) gb963 67 A1047 n1048 c1049 (Rw.mono h1050 (hL1055.toSt hp1056 (me 1 rfl))) (hL1055.hFl hp1056 (Yj7 [] rfl)) (hL1055.into hp1056 _) r1057 hv1058) ?_
       rintro _ w1059 ⟨rfl,hM1060⟩
       have hL1061:=hL1055.call hp1056 hM1060
       refine ⟨_,_,_,rfl,hL1061,?_⟩
       refine Yfx 3 rfl (Yg2 rfl) gn rfl<|Yfx 4 rfl (Ysq rfl rfl) gn rfl<|Yfx 5 rfl (Ysq rfl rfl) gn rfl<|Yfx 6 rfl (Yg1 rfl) gn rfl<|Yfx 7 rfl (Yg1 rfl) gn rfl<|Yg7 8 rfl<|Yg3 rfl<|Yfy rfl rfl<|Yfx 0 rfl (Yg2 rfl) gn rfl<|Yfx 1 rfl (Ygc Yo7 rfl) gn rfl ?_
       obtain ⟨hb1062,h⟩:=h
       refine Yfx 2 rfl (Yoj Yu3 rfl rfl hb1062) gn rfl<|Yfx 3 rfl (Yt8 0 ld_29 rfl rfl (hp:=(Pt.trans (Yiu r1057.2.2 (upd r1057.2.2.first (w64 ((x1.terms.length:Int) + ((ix x1.prods x1004).lhs))) (r1057.2.2.first (w64 ((x1.terms.length:Int) + ((ix x1.prods x1004).lhs)))))) (Pt.arr (f:=r1057.2.2.first) (enc:=fun y=>[.int .u64 y]) (fun _=>rfl) hb1062 (r1057.2.2.first (w64 ((x1.terms.length:Int) + ((ix x1.prods x1004).lhs))))))) rfl) gn rfl<|Yfx 4 rfl (Yg2 rfl) gn rfl<|Yfx 5 rfl (Ygj rfl rfl rfl) gn rfl<|Yfx 6 rfl (Ygc Yo7 rfl) gn rfl<|Yfx 7 rfl (Yoj Yu3 rfl rfl hb1062) gn rfl ?_
       obtain ⟨x1063,hv1064,h⟩:=h
       refine Ygw 8 rfl (Yp2 (cs':=(Yg5 x1063)) (m:=[.int .u64 (r1057.2.2.first (w64 ((x1.terms.length:Int) + ((ix x1.prods x1004).lhs))))]) (m':=[.int .u64 (bits .or .u64 (r1057.2.2.first (w64 ((x1.terms.length:Int) + ((ix x1.prods x1004).lhs)))) r1057.1)]) 0 sz_29 rfl rfl rfl (by rw [hv1064]; exact (Pt.trans (Yiu r1057.2.2 (upd r1057.2.2.first (w64 ((x1.terms.length:Int) + ((ix x1.prods x1004).lhs))) (bits .or .u64 (r1057.2.2.first (w64 ((x1.terms.length:Int) + ((ix x1.prods x1004).lhs)))) r1057.1))) (Pt.arr (f:=r1057.2.2.first) (enc:=fun y=>[.int .u64 y]) (fun _=>rfl) hb1062 (bits .or .u64 (r1057.2.2.first (w64 ((x1.terms.length:Int) + ((ix x1.prods x1004).lhs)))) r1057.1)))) rfl rfl rfl rfl ?_) gn
       refine Yg7 9 rfl<|Yfy rfl rfl<|Yfx 0 rfl (Yg2 rfl) gn rfl<|Yfx 1 rfl (Yg2 rfl) gn rfl<|Yfx 2 rfl (Ygc Yoc rfl) gn rfl<|Yfx 3 rfl (Yoj Ytr rfl rfl hb1062) gn rfl<|Yfx 4 rfl (Yt8 0 ld_4 rfl rfl (hp:=(Pt.trans (Yi8 x1063 (upd x1063.vanishes (w64 ((x1.terms.length:Int) + ((ix x1.prods x1004).lhs))) (x1063.vanishes (w64 ((x1.terms.length:Int) + ((ix x1.prods x1004).lhs)))))) (Pt.arr (f:=x1063.vanishes) (enc:=fun y=>[.bool y]) (fun _=>rfl) hb1062 (x1063.vanishes (w64 ((x1.terms.length:Int) + ((ix x1.prods x1004).lhs))))))) rfl) gn rfl<|Yfx 5 rfl (Yg2 rfl) gn rfl ?_
       by_cases hp1065:(x1063.vanishes (w64 ((x1.terms.length:Int) + ((ix x1.prods x1004).lhs))))=true
       ·have h:=Ygf hp1065 h
        refine Yhq 59 rfl (hp1065)<|Yg4 6 rfl (ps 59 rfl rfl rfl)<|Yfx 7 rfl (Ygy (b:=true) rfl rfl) gn rfl<|Yfx 8 rfl (Ygc Yoc rfl) gn rfl<|Yfx 9 rfl (Yoj Ytr rfl rfl hb1062) gn rfl ?_
        obtain ⟨x1066,hv1067,h⟩:=h
        refine Ygw 10 rfl (Yp2 (cs':=(Yg5 x1066)) (m:=[.bool (x1063.vanishes (w64 ((x1.terms.length:Int) + ((ix x1.prods x1004).lhs))))]) (m':=[.bool true]) 0 sz_4 rfl rfl rfl (by rw [hv1067]; exact (Pt.trans (Yi8 x1063 (upd x1063.vanishes (w64 ((x1.terms.length:Int) + ((ix x1.prods x1004).lhs))) true)) (Pt.arr (f:=x1063.vanishes) (enc:=fun y=>[.bool y]) (fun _=>rfl) hb1062 true))) rfl rfl rfl rfl ?_) gn
        refine Yg7 11 rfl<|Ygq<|Yfy rfl rfl<|Yfx 0 rfl (Ygj rfl rfl rfl) gn rfl<|Yfx 1 rfl (Yg2 rfl) gn rfl<|Yg7 2 rfl<|Ygv ?_
        have ih:=Out.inl hO3 h
        exact Yhj [0,1] (ih ()) ⟨rfl,rfl,rfl,rfl,rfl,rfl,rfl,trivial⟩ (.cons_cons _ (.cons _ (.cons_cons _ (.cons_cons _ (.cons_cons _ (.slnil)))))) rfl
       ·have h:=Yge hp1065 h
        refine Yhq 59 rfl ((bf hp1065))<|Yfx 6 rfl (Yg2 rfl) (gy 59 rfl rfl) rfl<|Yfx 7 rfl (Ygy (b:=false) rfl rfl) gn rfl<|Yfx 8 rfl (Ygc Yoc rfl) gn rfl<|Yfx 9 rfl (Yoj Ytr rfl rfl hb1062) gn rfl ?_
        obtain ⟨x1068,hv1069,h⟩:=h
        refine Ygw 10 rfl (Yp2 (cs':=(Yg5 x1068)) (m:=[.bool (x1063.vanishes (w64 ((x1.terms.length:Int) + ((ix x1.prods x1004).lhs))))]) (m':=[.bool r1057.2.1]) 0 sz_4 rfl rfl rfl (by rw [hv1069]; exact (Pt.trans (Yi8 x1063 (upd x1063.vanishes (w64 ((x1.terms.length:Int) + ((ix x1.prods x1004).lhs))) r1057.2.1)) (Pt.arr (f:=x1063.vanishes) (enc:=fun y=>[.bool y]) (fun _=>rfl) hb1062 r1057.2.1))) rfl rfl rfl rfl ?_) gn
        refine Yg7 11 rfl<|Ygq<|Yfy rfl rfl<|Yfx 0 rfl (Ygj rfl rfl rfl) gn rfl<|Yfx 1 rfl (Yg2 rfl) gn rfl<|Yg7 2 rfl<|Ygv ?_
        have ih:=Out.inl hO3 h
        exact Yhj [0,1] (ih ()) ⟨rfl,rfl,rfl,rfl,rfl,rfl,rfl,trivial⟩ (.cons_cons _ (.cons _ (.cons_cons _ (.cons_cons _ (.cons_cons _ (.slnil)))))) rfl
     ·have h:=Yge hp1042 h
      refine Ygl rfl _ rfl ((decide_eq_false hp1042))<|Yii [.code Yrm,.inBlock 3,.inLoop Yml,.inBlock 2] rfl rfl<|Yg3 rfl<|Yg3 rfl<|Yfy rfl rfl<|Yfx 0 rfl (Ygc Yo7 rfl) gn rfl<|Yfx 1 rfl (Yqk 0 ld_64 rfl rfl (hp:=(Yiu x1005 x1005.first)) (Yms (sz:=1) (f:=fun j=>[.int .u64 (x1005.first j)]) (fun j=>rfl) 192)) gn rfl<|Yfx 2 rfl (Ygc Yo7 rfl) gn rfl<|Yfx 3 rfl (Yqk 1 ld_64 rfl rfl (hp:=(Yiu x847 x847.first)) (Yms (sz:=1) (f:=fun j=>[.int .u64 (x847.first j)]) (fun j=>rfl) 192)) gn rfl<|Yfx 4 rfl (v_eqA (f1:=x1005.first) (f2:=x847.first) (enc:=fun y=>.int .u64 y) ae_64 rfl rfl (fun a b=>by simp [Ynq,int_dec])) gn rfl<|Yfx 5 rfl (Yg2 rfl) gn rfl ?_
      by_cases hp1070:(aeq 192 x1005.first x847.first)=true
      ·have h:=Ygf hp1070 h
       refine Yhq 70 rfl (hp1070)<|Yfx 6 rfl (Ygc Yoc rfl) (gy 70 rfl rfl) rfl<|Yfx 7 rfl (Yqk 0 ld_65 rfl rfl (hp:=(Yi8 x1005 x1005.vanishes)) (Yms (sz:=1) (f:=fun j=>[.bool (x1005.vanishes j)]) (fun j=>rfl) 192)) (gy 70 rfl rfl) rfl<|Yfx 8 rfl (Ygc Yoc rfl) (gy 70 rfl rfl) rfl<|Yfx 9 rfl (Yqk 1 ld_65 rfl rfl (hp:=(Yi8 x847 x847.vanishes)) (Yms (sz:=1) (f:=fun j=>[.bool (x847.vanishes j)]) (fun j=>rfl) 192)) (gy 70 rfl rfl) rfl<|Yfx 10 rfl (v_eqA (f1:=x1005.vanishes) (f2:=x847.vanishes) (enc:=fun y=>.bool y) ae_65 rfl rfl (fun a b=>by simp [Ynq,bool_dec])) (gy 70 rfl rfl) rfl<|Yfx 11 rfl (Ygy (b:=true) rfl rfl) gn rfl<|Yg7 12 rfl ?_
       by_cases hp1071:(aeq 192 x1005.vanishes x847.vanishes)=true
       ·have h:=Ygf hp1071 h
        refine Ygp rfl _ rfl (hp1071)<|Yg3 rfl<|Yfy rfl rfl<|Yfx 0 rfl (Yqk 1 Ytz rfl rfl (hp:=(Pt.refl _ (Yg5 x847))) (Yhc x847)) gn rfl ?_
        obtain ⟨x1072,hv1073,h⟩:=h
        refine Ygw 1 rfl (Yp2 (cs':=(Yg5 x1072)) (m:=(Yg5 (⟨(fun _=>0),(fun _=>false)⟩:Yg0))) (m':=(Yg5 x847)) 2 Ysr rfl rfl rfl (by rw [hv1073]; exact (Pt.refl _ (Yg5 x847))) rfl (Yhc (⟨(fun _=>0),(fun _=>false)⟩:Yg0)) (Yhc x847) (Yle x847) ?_) gn
        refine Yg7 2 rfl ?_
        have h:=Out.inr hO3 h
        have h:=Out.inr hO2 h
        have h:=Out.inr hO1 h
        refine Ygx [.agg (Yg5 x1072).toArray] rfl Try.func33 rfl (.cell (cs:=(Yg5 x1072)) (us:=(Yg5 x1072)) 2 rfl Ytz rfl (bigtake (Yhc x1072)) (Yhc x1072) (.nil)) fun wr hLr=>?_
        have hMr:=hLr.pk0 (.c 1 rfl .n)
        show Ynp w F  r (.returned (Yhe [.agg (Yg5 x1072).toArray])) wr
        rw [h]
        exact ⟨rfl,hMr⟩
       ·have h:=Yge hp1071 h
        refine Ygl rfl _ rfl ((bf hp1071))<|Ygt rfl<|Yfy rfl rfl<|Yfx 0 rfl (Yqk 0 Ytz rfl rfl (hp:=(Pt.refl _ (Yg5 x1005))) (Yhc x1005)) gn rfl ?_
        obtain ⟨x1074,hv1075,h⟩:=h
        refine Ygw 1 rfl (Yp2 (cs':=(Yg5 x1074)) (m:=(Yg5 x847)) (m':=(Yg5 x1005)) 1 Ysr rfl rfl rfl (by rw [hv1075]; exact (Pt.refl _ (Yg5 x1005))) rfl (Yhc x847) (Yhc x1005) (Yle x1005) ?_) gn
        refine Yg7 2 rfl<|Ygq<|Ygv ?_
        have h:=Out.inr hO3 h
        have ih:=Out.inl hO2 h
        exact Yhj [0,1] (ih ()) ⟨rfl,rfl,rfl,trivial⟩ (.cons _ (.cons_cons _ (.cons_cons _ (.cons_cons _ (.slnil))))) rfl
      ·have h:=Yge hp1070 h
       refine Yhq 70 rfl ((bf hp1070))<|Yg4 6 rfl (ps 70 rfl rfl rfl)<|Yg4 7 rfl (ps 70 rfl rfl rfl)<|Yg4 8 rfl (ps 70 rfl rfl rfl)<|Yg4 9 rfl (ps 70 rfl rfl rfl)<|Yg4 10 rfl (ps 70 rfl rfl rfl)<|Yfx 11 rfl (Ygy (b:=false) rfl rfl) gn rfl<|Yg7 12 rfl<|Ygl rfl _ rfl (rfl)<|Ygt rfl<|Yfy rfl rfl<|Yfx 0 rfl (Yqk 0 Ytz rfl rfl (hp:=(Pt.refl _ (Yg5 x1005))) (Yhc x1005)) gn rfl ?_
       obtain ⟨x1076,hv1077,h⟩:=h
       refine Ygw 1 rfl (Yp2 (cs':=(Yg5 x1076)) (m:=(Yg5 x847)) (m':=(Yg5 x1005)) 1 Ysr rfl rfl rfl (by rw [hv1077]; exact (Pt.refl _ (Yg5 x1005))) rfl (Yhc x847) (Yhc x1005) (Yle x1005) ?_) gn
       refine Yg7 2 rfl<|Ygq<|Ygv ?_
       have h:=Out.inr hO3 h
       have ih:=Out.inl hO2 h
       exact Yhj [0,1] (ih ()) ⟨rfl,rfl,rfl,trivial⟩ (.cons _ (.cons_cons _ (.cons_cons _ (.cons_cons _ (.slnil))))) rfl
    exact Yhj [0,1] (key3 _ h ()) ⟨rfl,rfl,rfl,rfl,rfl,rfl,rfl,trivial⟩ (.cons_cons _ (.cons_cons _ (.cons_cons _ (.cons_cons _ (.slnil))))) rfl
   exact Yhj [0,1] (key2 _ h ()) ⟨rfl,rfl,rfl,trivial⟩ (.cons_cons _ (.cons_cons _ (.cons_cons _ (.slnil)))) rfl
 exact Yhj [0,1] (key1 _ h ()) ⟨rfl,rfl,rfl,rfl,rfl,trivial⟩ (.cons_cons _ (.cons_cons _ (.cons_cons _ (.slnil)))) rfl
noncomputable abbrev Ysx:=Code.snd (Code.snd (Code.snd (Yhm Try.f36)))
noncomputable abbrev Yp7:=Code.fst (Code.fst (Code.snd (Code.fst (Code.snd (Code.snd (Yhm Try.f36))))))
noncomputable abbrev q36c24:=Code.fst (Code.fst (Code.fst (Code.snd Yp7)))
abbrev Yjh (w:World) (F:Nat→Prop) (r:Bool):Ending→World→Prop:=fun e w'=>e=.returned (.bool r)∧B.Loc w w' [] [St w []]
noncomputable abbrev Yka (w:World) (F:Nat→Prop) (r:Bool):Cx:=⟨Try.prog,36,Try.f36,26,Yjh w F  r,w⟩
theorem Ylk (w:World) (F:Nat→Prop) (x1:List Yg9) (x6:List Yg9) (A2:Option Addr) (n3:Nat) (c4:Nat) (A7:Option Addr) (n8:Nat) (c9:Nat) (h5:Rw Yiy w (St w []).av A2 n3 c4 x1) (h10:Rw Yiy w (St w []).av A7 n8 c9 x6) (hF:∀ b,F b→b < w.heap.size∧∀ o ∈ ([]:List (List Nat)),b ∉ o) (hL0:B.Loc w w [] [Sm w.heap.size F w [],St w []]) (r:Bool) (h:Yjc x1 x6 r):Calls Try.prog 36 #[.slice A2 n3 c4,.slice A7 n8 c9] w (Yjh w F  r):=by
 unfold Yjc at h
 refine Yh0 (vs:=[.slice A2 n3 c4,.slice A7 n8 c9]) 26 Try.func36 rfl Try.ntmps36 rfl hL0 ?_
 show G (Yka w F r) _ _ _ _
 refine Yg3 rfl<|Yfy rfl rfl<|Yfx 0 rfl (Yg1 rfl) gn rfl<|Yg7 1 rfl<|Yg3 rfl<|Yg3 rfl<|Yfy rfl rfl<|Yfx 0 rfl (Yg2 rfl) gn rfl<|Yfx 1 rfl (Ygn Ynd rfl h5.hq) gn rfl<|Yfx 2 rfl (Yg2 rfl) gn rfl<|Yfx 3 rfl (Ygn Ynd rfl h10.hq) gn rfl<|Yfx 4 rfl (Ygj rfl rfl rfl) gn rfl ?_
 refine Yg7 5 rfl ?_
 by_cases hp11:(x1.length:Int)=(x6.length:Int)
 ·have h:=Ygf hp11 h
  refine Ygl rfl _ rfl ((eqib hp11))<|Ygt rfl<|Yg3 rfl<|Yg3 rfl<|Yfy rfl rfl<|Yfx 0 rfl (Yg1 rfl) gn rfl<|Yg7 1 rfl<|Ygm rfl<|Yij rfl ?_
  have key1:∀ s,Yga (fun (s:Int) o=>Yja x1 x6 s o) s r→(fun (s:Int)=>∀ (_:Unit),G (Yka w F r) [.code Yp7,.inLoop Yp7,.inBlock 0,.code Ysx] [(0,.slice A2 n3 c4),(1,.slice A7 n8 c9),(5,.int .i64 s)] [] [Sm w.heap.size F w [],St w []]) s:=by
   intro s hs
   refine Yga.ind (mot:=(fun (s:Int)=>∀ (_:Unit),G (Yka w F r) [.code Yp7,.inLoop Yp7,.inBlock 0,.code Ysx] [(0,.slice A2 n3 c4),(1,.slice A7 n8 c9),(5,.int .i64 s)] [] [Sm w.heap.size F w [],St w []])) ?_ hs
   clear hs s
   intro x23 o1 h hO1
   show ∀ (_:Unit),G (Yka w F r) [.code Yp7,.inLoop Yp7,.inBlock 0,.code Ysx] [(0,.slice A2 n3 c4),(1,.slice A7 n8 c9),(5,.int .i64 x23)] [] [Sm w.heap.size F w [],St w []]
   intro _
   have h:Yja x1 x6 x23 o1:=h
   unfold Yja at h
   refine Yg3 rfl<|Yg3 rfl<|Yfy rfl rfl<|Yfx 0 rfl (Yg2 rfl) gn rfl<|Yfx 1 rfl (Yg2 rfl) gn rfl<|Yfx 2 rfl (Ygn Ynd rfl h5.hq) gn rfl<|Yfx 3 rfl (Ygj rfl rfl rfl) gn rfl<|Yg7 4 rfl ?_
   by_cases hp34:x23 < (x1.length:Int)
   ·have h:=Ygf hp34 h
    refine Ygp rfl _ rfl ((decide_eq_true hp34))<|Ygt rfl<|Yg3 rfl<|Ygm rfl<|Yg3 rfl ?_
    obtain ⟨hb35,h⟩:=h
    obtain ⟨hb37,h⟩:=h
    have hns:Region.noSelect (Code.ops q36c24)=true:=by kernel_rfl
    refine Yk2 [] 9 rfl rfl mix rfl (.c 0 rfl (.c 1 rfl .n))<|wfv 0 rfl (Yg2 rfl) gn hns rfl<|wfv 1 rfl (Yg2 rfl) gn hns rfl ?_
    have hr41:=Rw.readF (s:=St w []) (hl:=Yig) (h1:=Yiv) h5 hb35
    refine wfv 2 rfl (Yhp (s:=St w []) Ym8 rfl rfl h5 hb35) gn hns rfl<|wfv 3 rfl (Ymk (St w []) Yr7 rfl hr41 rfl (me 1 rfl)) gn hns rfl<|wfv 4 rfl (Yg2 rfl) gn hns rfl<|wfv 5 rfl (Yg2 rfl) gn hns rfl ?_
    have hr42:=Rw.readF (s:=St w []) (hl:=Yig) (h1:=Yiv) h10 hb37
    refine wfv 6 rfl (Yhp (s:=St w []) Ym8 rfl rfl h10 hb37) gn hns rfl<|wfv 7 rfl (Ymk (St w []) Yr7 rfl hr42 rfl (me 1 rfl)) gn hns rfl<|wfv 8 rfl (Yq0 eq_36 rfl rfl (Yqu (ix x1 x23) (ix x6 x23))) gn hns rfl<|Yl0 (by kernel_rfl) ?_
    by_cases hp43:ix x1 x23=ix x6 x23
    ·have h:=Ygf hp43 h
     refine Ygl rfl _ rfl ((nf (decide_eq_true hp43)))<|Ygt rfl<|Ygq<|Yfy rfl rfl<|Yfx 0 rfl (Yg2 rfl) gn rfl<|Yfx 1 rfl (Ygj rfl rfl rfl) gn rfl<|Yfx 2 rfl (Yg1 rfl) gn rfl<|Yg7 3 rfl<|Ygv ?_
     have ih:=Out.inl hO1 h
     exact Yhj [0,1] (ih ()) ⟨rfl,rfl,rfl,trivial⟩ (.slnil) rfl
    ·have h:=Yge hp43 h
     refine Ygp rfl _ rfl ((nt (decide_eq_false hp43)))<|Yg3 rfl<|Yfy rfl rfl<|Yfx 0 rfl (Yg1 rfl) gn rfl<|Yg7 1 rfl ?_
     have h:=Out.inr hO1 h
     refine Ygx [.bool false] rfl Try.func36 rfl (.tmp rfl (.nil)) fun wr hLr=>?_
     have hMr:=hLr.pk0 (.c 1 rfl .n)
     show Yjh w F  r (.returned (Yhe [.bool false])) wr
     rw [h]
     exact ⟨rfl,hMr⟩
   ·have h:=Yge hp34 h
    refine Ygl rfl _ rfl ((decide_eq_false hp34))<|Yii [.code Ysx] rfl rfl<|Yg3 rfl<|Yfy rfl rfl<|Yfx 0 rfl (Yg1 rfl) gn rfl<|Yg7 1 rfl ?_
    have h:=Out.inr hO1 h
    refine Ygx [.bool true] rfl Try.func36 rfl (.tmp rfl (.nil)) fun wr hLr=>?_
    have hMr:=hLr.pk0 (.c 1 rfl .n)
    show Yjh w F  r (.returned (Yhe [.bool true])) wr
    rw [h]
    exact ⟨rfl,hMr⟩
  exact Yhj [0,1] (key1 _ h ()) ⟨rfl,rfl,rfl,trivial⟩ (.slnil) rfl
 ·have h:=Yge hp11 h
  refine Ygp rfl _ rfl ((neib hp11))<|Yg3 rfl<|Yfy rfl rfl<|Yfx 0 rfl (Yg1 rfl) gn rfl<|Yg7 1 rfl ?_
  refine Ygx [.bool false] rfl Try.func36 rfl (.tmp rfl (.nil)) fun wr hLr=>?_
  have hMr:=hLr.pk0 (.c 1 rfl .n)
  show Yjh w F  r (.returned (Yhe [.bool false])) wr
  rw [h]
  exact ⟨rfl,hMr⟩
noncomputable abbrev q35c4:=Code.snd (Code.snd (Yhm Try.f35))
noncomputable abbrev q35c6:=Code.snd (Code.fst (Code.snd (Yhm Try.f35)))
noncomputable abbrev Yqd:=Code.snd q35c4
noncomputable abbrev Yp3:=Code.fst (Code.fst (Code.snd (Code.fst q35c4)))
noncomputable abbrev q35c26:=Code.fst (Code.fst (Code.fst (Code.snd Yp3)))
noncomputable abbrev Ypu:=Code.snd Yqd
noncomputable abbrev Ypc:=Code.fst (Code.fst (Code.snd (Code.fst Yqd)))
noncomputable abbrev q35c47:=Code.fst (Code.fst (Code.fst (Code.snd Ypc)))
noncomputable abbrev Ysv:=Code.snd Ypu
noncomputable abbrev Yp5:=Code.fst (Code.fst (Code.snd (Code.fst Ypu)))
noncomputable abbrev q35c68:=Code.fst (Code.fst (Code.fst (Code.snd Yp5)))
abbrev Yic (w:World) (F:Nat→Prop) (r:Bool):Ending→World→Prop:=fun e w'=>e=.returned (.bool r)∧B.Loc w w' [] [St w []]
noncomputable abbrev Yhd (w:World) (F:Nat→Prop) (r:Bool):Cx:=⟨Try.prog,35,Try.f35,105,Yic w F  r,w⟩
theorem Ynu (w:World) (F:Nat→Prop) (x1:Yfz) (x14:Yfz) (A2:Option Addr) (n3:Nat) (c4:Nat) (A6:Option Addr) (n7:Nat) (c8:Nat) (A10:Option Addr) (n11:Nat) (c12:Nat) (A15:Option Addr) (n16:Nat) (c17:Nat) (A19:Option Addr) (n20:Nat) (c21:Nat) (A23:Option Addr) (n24:Nat) (c25:Nat) (h5:Rw Ygi w (St w []).av A2 n3 c4 x1.terms) (h9:Rw Ygu w (St w []).av A6 n7 c8 x1.syms) (h13:Rw Ygs w (St w []).av A10 n11 c12 x1.prods) (h18:Rw Ygi w (St w []).av A15 n16 c17 x14.terms) (h22:Rw Ygu w (St w []).av A19 n20 c21 x14.syms) (h26:Rw Ygs w (St w []).av A23 n24 c25 x14.prods) (hF:∀ b,F b→b < w.heap.size∧∀ o ∈ ([]:List (List Nat)),b ∉ o) (hL0:B.Loc w w [] [Sm w.heap.size F w [],St w []]) (r:Bool) (h:Ykq x1 x14 r):Calls Try.prog 35 #[.agg #[.slice A2 n3 c4,.slice A6 n7 c8,.slice A10 n11 c12],.agg #[.slice A15 n16 c17,.slice A19 n20 c21,.slice A23 n24 c25]] w (Yic w F  r):=by
 unfold Ykq at h
 refine Yh0 (vs:=[.agg #[.slice A2 n3 c4,.slice A6 n7 c8,.slice A10 n11 c12],.agg #[.slice A15 n16 c17,.slice A19 n20 c21,.slice A23 n24 c25]]) 105 Try.func35 rfl Try.ntmps35 rfl hL0 ?_
 show G (Yhd w F r) _ _ _ _
 refine Yg3 rfl<|Yfy rfl rfl ?_
 refine Ygw 0 rfl (Ymj [.slice A2 n3 c4,.slice A6 n7 c8,.slice A10 n11 c12] rfl rfl rfl fun gb27=>?_) gn
 refine Ygw 1 rfl (Ymj [.slice A15 n16 c17,.slice A19 n20 c21,.slice A23 n24 c25] rfl rfl rfl fun gb29=>?_) gn
 refine Yfx 2 rfl (Yg1 rfl) gn rfl<|Yg7 3 rfl<|Yg3 rfl<|Yg3 rfl ?_
 have j1:∀ (x34:Bool) (h:Yj9 x1 x14 x34 r) ,G (Yhd w F r) [.code q35c6,.code q35c4] [(2,.pointer (some ⟨gb27,0,none⟩)),(3,.pointer (some ⟨gb29,0,none⟩)),(32,.bool x34)] [.box gb29 26 [.slice A15 n16 c17,.slice A19 n20 c21,.slice A23 n24 c25],.box gb27 26 [.slice A2 n3 c4,.slice A6 n7 c8,.slice A10 n11 c12]] [Sm w.heap.size F w [],St w []]:=by
  intro x34 h
  unfold Yj9 at h
  by_cases hp35:x34=true
  ·have h:=Ygf hp35 h
   refine Ygp rfl _ rfl (hp35)<|Yg3 rfl<|Yfy rfl rfl<|Yfx 0 rfl (Yg1 rfl) gn rfl<|Yg7 1 rfl ?_
   refine Ygx [.bool false] rfl Try.func35 rfl (.tmp rfl (.nil)) fun wr hLr=>?_
   have hMr:=hLr.pk0 (.c 1 rfl .n)
   show Yic w F  r (.returned (Yhe [.bool false])) wr
   rw [h]
   exact ⟨rfl,hMr⟩
  ·have h:=Yge hp35 h
   refine Ygl rfl _ rfl ((bf hp35))<|Ygt rfl<|Yg3 rfl<|Yg3 rfl<|Yfy rfl rfl<|Yfx 0 rfl (Yg1 rfl) gn rfl<|Yg7 1 rfl<|Ygm rfl<|Yij rfl ?_
   have key2:∀ s,Yga (fun (s:Int) o=>Yjv x1 x14 s o) s r→(fun (s:Int)=>∀ (_:Unit),G (Yhd w F r) [.code Yp3,.inLoop Yp3,.inBlock 0,.code Yqd] [(2,.pointer (some ⟨gb27,0,none⟩)),(3,.pointer (some ⟨gb29,0,none⟩)),(5,.int .i64 s)] [.box gb29 26 [.slice A15 n16 c17,.slice A19 n20 c21,.slice A23 n24 c25],.box gb27 26 [.slice A2 n3 c4,.slice A6 n7 c8,.slice A10 n11 c12]] [Sm w.heap.size F w [],St w []]) s:=by
    intro s hs
    refine Yga.ind (mot:=(fun (s:Int)=>∀ (_:Unit),G (Yhd w F r) [.code Yp3,.inLoop Yp3,.inBlock 0,.code Yqd] [(2,.pointer (some ⟨gb27,0,none⟩)),(3,.pointer (some ⟨gb29,0,none⟩)),(5,.int .i64 s)] [.box gb29 26 [.slice A15 n16 c17,.slice A19 n20 c21,.slice A23 n24 c25],.box gb27 26 [.slice A2 n3 c4,.slice A6 n7 c8,.slice A10 n11 c12]] [Sm w.heap.size F w [],St w []])) ?_ hs
    clear hs s
    intro x1426 o1 h hO1
    show ∀ (_:Unit),G (Yhd w F r) [.code Yp3,.inLoop Yp3,.inBlock 0,.code Yqd] [(2,.pointer (some ⟨gb27,0,none⟩)),(3,.pointer (some ⟨gb29,0,none⟩)),(5,.int .i64 x1426)] [.box gb29 26 [.slice A15 n16 c17,.slice A19 n20 c21,.slice A23 n24 c25],.box gb27 26 [.slice A2 n3 c4,.slice A6 n7 c8,.slice A10 n11 c12]] [Sm w.heap.size F w [],St w []]
    intro _
    have h:Yjv x1 x14 x1426 o1:=h
    unfold Yjv at h
    refine Yg3 rfl<|Yg3 rfl<|Yfy rfl rfl<|Yfx 0 rfl (Yg2 rfl) gn rfl<|Yfx 1 rfl (Ygc Yi6 rfl) gn rfl<|Yfx 2 rfl (Ygg 1 Ykt rfl rfl rfl) gn rfl<|Yfx 3 rfl (Ygn Ylq rfl h5.hq) gn rfl<|Yfx 4 rfl (Ygj rfl rfl rfl) gn rfl<|Yg7 5 rfl ?_
    by_cases hp2816:x1426 < (x1.terms.length:Int)
    ·have h:=Ygf hp2816 h
     refine Ygp rfl _ rfl ((decide_eq_true hp2816))<|Ygt rfl<|Yg3 rfl<|Ygm rfl<|Yg3 rfl ?_
     obtain ⟨hb2817,h⟩:=h
     obtain ⟨hb2819,h⟩:=h
     have hns:Region.noSelect (Code.ops q35c26)=true:=by kernel_rfl
     refine Yk2 [] 11 rfl rfl mix rfl (.c 0 rfl (.c 1 rfl .n))<|wfv 0 rfl (Ygc Yi6 rfl) gn hns rfl<|wfv 1 rfl (Ygg 1 Ykt rfl rfl rfl) gn hns rfl<|wfv 2 rfl (Yg2 rfl) gn hns rfl ?_
     have hr2823:=Rw.readF (s:=St w []) (hl:=Yki) (h1:=Ykk) h5 hb2817
     refine wfv 3 rfl (Yhp (s:=St w []) Yqa rfl rfl h5 hb2817) gn hns rfl<|wfv 4 rfl (Ymk (St w []) ld_58 rfl hr2823 rfl (me 1 rfl)) gn hns rfl<|wfv 5 rfl (Ygc Yi6 rfl) gn hns rfl<|wfv 6 rfl (Ygg 0 Ykt rfl rfl rfl) gn hns rfl<|wfv 7 rfl (Yg2 rfl) gn hns rfl ?_
     have hr2824:=Rw.readF (s:=St w []) (hl:=Yki) (h1:=Ykk) h18 hb2819
     refine wfv 8 rfl (Yhp (s:=St w []) Yqa rfl rfl h18 hb2819) gn hns rfl<|wfv 9 rfl (Ymk (St w []) ld_58 rfl hr2824 rfl (me 1 rfl)) gn hns rfl<|wfv 10 rfl (Yq0 eq_58 rfl rfl (Yof (ix x1.terms x1426) (ix x14.terms x1426))) gn hns rfl<|Yl0 (by kernel_rfl) ?_
     by_cases hp2825:ix x1.terms x1426=ix x14.terms x1426
     ·have h:=Ygf hp2825 h
      refine Ygl rfl _ rfl ((nf (decide_eq_true hp2825)))<|Ygt rfl<|Ygq<|Yfy rfl rfl<|Yfx 0 rfl (Yg2 rfl) gn rfl<|Yfx 1 rfl (Ygj rfl rfl rfl) gn rfl<|Yfx 2 rfl (Yg1 rfl) gn rfl<|Yg7 3 rfl<|Ygv ?_
      have ih:=Out.inl hO1 h
      exact Yhj [0,1] (ih ()) ⟨rfl,rfl,rfl,trivial⟩ (.cons_cons _ (.cons_cons _ (.slnil))) rfl
     ·have h:=Yge hp2825 h
      refine Ygp rfl _ rfl ((nt (decide_eq_false hp2825)))<|Yg3 rfl<|Yfy rfl rfl<|Yfx 0 rfl (Yg1 rfl) gn rfl<|Yg7 1 rfl ?_
      have h:=Out.inr hO1 h
      refine Ygx [.bool false] rfl Try.func35 rfl (.tmp rfl (.nil)) fun wr hLr=>?_
      have hMr:=hLr.pk0 (.c 1 rfl .n)
      show Yic w F  r (.returned (Yhe [.bool false])) wr
      rw [h]
      exact ⟨rfl,hMr⟩
    ·have h:=Yge hp2816 h
     refine Ygl rfl _ rfl ((decide_eq_false hp2816))<|Yii [.code Yqd] rfl rfl<|Yg3 rfl<|Yg3 rfl<|Yfy rfl rfl<|Yfx 0 rfl (Yg1 rfl) gn rfl<|Yg7 1 rfl<|Ygm rfl<|Yij rfl ?_
     have key3:∀ s,Yga (fun (s:Int) o=>Yjw x1 x14 s o) s o1→(fun (s:Int)=>∀ (_:Unit),G (Yhd w F r) [.code Ypc,.inLoop Ypc,.inBlock 2,.code Ypu] [(2,.pointer (some ⟨gb27,0,none⟩)),(3,.pointer (some ⟨gb29,0,none⟩)),(6,.int .i64 s)] [.box gb29 26 [.slice A15 n16 c17,.slice A19 n20 c21,.slice A23 n24 c25],.box gb27 26 [.slice A2 n3 c4,.slice A6 n7 c8,.slice A10 n11 c12]] [Sm w.heap.size F w [],St w []]) s:=by
      intro s hs
      refine Yga.ind (mot:=(fun (s:Int)=>∀ (_:Unit),G (Yhd w F r) [.code Ypc,.inLoop Ypc,.inBlock 2,.code Ypu] [(2,.pointer (some ⟨gb27,0,none⟩)),(3,.pointer (some ⟨gb29,0,none⟩)),(6,.int .i64 s)] [.box gb29 26 [.slice A15 n16 c17,.slice A19 n20 c21,.slice A23 n24 c25],.box gb27 26 [.slice A2 n3 c4,.slice A6 n7 c8,.slice A10 n11 c12]] [Sm w.heap.size F w [],St w []])) ?_ hs
      clear hs s
      intro x3286 o2 h hO2
      show ∀ (_:Unit),G (Yhd w F r) [.code Ypc,.inLoop Ypc,.inBlock 2,.code Ypu] [(2,.pointer (some ⟨gb27,0,none⟩)),(3,.pointer (some ⟨gb29,0,none⟩)),(6,.int .i64 x3286)] [.box gb29 26 [.slice A15 n16 c17,.slice A19 n20 c21,.slice A23 n24 c25],.box gb27 26 [.slice A2 n3 c4,.slice A6 n7 c8,.slice A10 n11 c12]] [Sm w.heap.size F w [],St w []]
      intro _
      have h:Yjw x1 x14 x3286 o2:=h
      unfold Yjw at h
      refine Yg3 rfl<|Yg3 rfl<|Yfy rfl rfl<|Yfx 0 rfl (Yg2 rfl) gn rfl<|Yfx 1 rfl (Ygc Yih rfl) gn rfl<|Yfx 2 rfl (Ygg 1 Yl8 rfl rfl rfl) gn rfl<|Yfx 3 rfl (Ygn Yme rfl h9.hq) gn rfl<|Yfx 4 rfl (Ygj rfl rfl rfl) gn rfl<|Yg7 5 rfl ?_
      by_cases hp3746:x3286 < (x1.syms.length:Int)
      ·have h:=Ygf hp3746 h
       refine Ygp rfl _ rfl ((decide_eq_true hp3746))<|Ygt rfl<|Yg3 rfl<|Ygm rfl<|Yg3 rfl ?_
       obtain ⟨hb3747,h⟩:=h
       obtain ⟨hb3749,h⟩:=h
       have hns:Region.noSelect (Code.ops q35c47)=true:=by kernel_rfl
       refine Yk2 [] 11 rfl rfl mix rfl (.c 0 rfl (.c 1 rfl .n))<|wfv 0 rfl (Ygc Yih rfl) gn hns rfl<|wfv 1 rfl (Ygg 1 Yl8 rfl rfl rfl) gn hns rfl<|wfv 2 rfl (Yg2 rfl) gn hns rfl ?_
       have hr3753:=Rw.readF (s:=St w []) (hl:=Yma) (h1:=Ym9) h9 hb3747
       refine wfv 3 rfl (Yhp (s:=St w []) Ypy rfl rfl h9 hb3747) gn hns rfl<|wfv 4 rfl (Ymk (St w []) ld_61 rfl hr3753 rfl (me 1 rfl)) gn hns rfl<|wfv 5 rfl (Ygc Yih rfl) gn hns rfl<|wfv 6 rfl (Ygg 0 Yl8 rfl rfl rfl) gn hns rfl<|wfv 7 rfl (Yg2 rfl) gn hns rfl ?_
       have hr3754:=Rw.readF (s:=St w []) (hl:=Yma) (h1:=Ym9) h22 hb3749
       refine wfv 8 rfl (Yhp (s:=St w []) Ypy rfl rfl h22 hb3749) gn hns rfl<|wfv 9 rfl (Ymk (St w []) ld_61 rfl hr3754 rfl (me 1 rfl)) gn hns rfl<|wfv 10 rfl (Yq0 eq_61 rfl rfl (Yqi (ix x1.syms x3286) (ix x14.syms x3286))) gn hns rfl<|Yl0 (by kernel_rfl) ?_
       by_cases hp3755:ix x1.syms x3286=ix x14.syms x3286
       ·have h:=Ygf hp3755 h
        refine Ygl rfl _ rfl ((nf (decide_eq_true hp3755)))<|Ygt rfl<|Ygq<|Yfy rfl rfl<|Yfx 0 rfl (Yg2 rfl) gn rfl<|Yfx 1 rfl (Ygj rfl rfl rfl) gn rfl<|Yfx 2 rfl (Yg1 rfl) gn rfl<|Yg7 3 rfl<|Ygv ?_
        have ih:=Out.inl hO2 h
        exact Yhj [0,1] (ih ()) ⟨rfl,rfl,rfl,trivial⟩ (.cons_cons _ (.cons_cons _ (.slnil))) rfl
       ·have h:=Yge hp3755 h
        refine Ygp rfl _ rfl ((nt (decide_eq_false hp3755)))<|Yg3 rfl<|Yfy rfl rfl<|Yfx 0 rfl (Yg1 rfl) gn rfl<|Yg7 1 rfl ?_
        have h:=Out.inr hO2 h
        have h:=Out.inr hO1 h
        refine Ygx [.bool false] rfl Try.func35 rfl (.tmp rfl (.nil)) fun wr hLr=>?_
        have hMr:=hLr.pk0 (.c 1 rfl .n)
        show Yic w F  r (.returned (Yhe [.bool false])) wr
        rw [h]
        exact ⟨rfl,hMr⟩
      ·have h:=Yge hp3746 h
       refine Ygl rfl _ rfl ((decide_eq_false hp3746))<|Yii [.code Ypu] rfl rfl<|Yg3 rfl<|Yg3 rfl<|Yfy rfl rfl<|Yfx 0 rfl (Yg1 rfl) gn rfl<|Yg7 1 rfl<|Ygm rfl<|Yij rfl ?_
       have key4:∀ s,Yga (fun (s:Int) o=>Yjx x1 x14 s o) s o2→(fun (s:Int)=>∀ (_:Unit),G (Yhd w F r) [.code Yp5,.inLoop Yp5,.inBlock 4,.code Ysv] [(2,.pointer (some ⟨gb27,0,none⟩)),(3,.pointer (some ⟨gb29,0,none⟩)),(7,.int .i64 s)] [.box gb29 26 [.slice A15 n16 c17,.slice A19 n20 c21,.slice A23 n24 c25],.box gb27 26 [.slice A2 n3 c4,.slice A6 n7 c8,.slice A10 n11 c12]] [Sm w.heap.size F w [],St w []]) s:=by
        intro s hs
        refine Yga.ind (mot:=(fun (s:Int)=>∀ (_:Unit),G (Yhd w F r) [.code Yp5,.inLoop Yp5,.inBlock 4,.code Ysv] [(2,.pointer (some ⟨gb27,0,none⟩)),(3,.pointer (some ⟨gb29,0,none⟩)),(7,.int .i64 s)] [.box gb29 26 [.slice A15 n16 c17,.slice A19 n20 c21,.slice A23 n24 c25],.box gb27 26 [.slice A2 n3 c4,.slice A6 n7 c8,.slice A10 n11 c12]] [Sm w.heap.size F w [],St w []])) ?_ hs
        clear hs s
        intro x3906 o3 h hO3
        show ∀ (_:Unit),G (Yhd w F r) [.code Yp5,.inLoop Yp5,.inBlock 4,.code Ysv] [(2,.pointer (some ⟨gb27,0,none⟩)),(3,.pointer (some ⟨gb29,0,none⟩)),(7,.int .i64 x3906)] [.box gb29 26 [.slice A15 n16 c17,.slice A19 n20 c21,.slice A23 n24 c25],.box gb27 26 [.slice A2 n3 c4,.slice A6 n7 c8,.slice A10 n11 c12]] [Sm w.heap.size F w [],St w []]
        intro _
        have h:Yjx x1 x14 x3906 o3:=h
        unfold Yjx at h
        refine Yg3 rfl<|Yg3 rfl<|Yfy rfl rfl<|Yfx 0 rfl (Yg2 rfl) gn rfl<|Yfx 1 rfl (Ygc Yh1 rfl) gn rfl<|Yfx 2 rfl (Ygg 1 Yj4 rfl rfl rfl) gn rfl<|Yfx 3 rfl (Ygn Ymz rfl h13.hq) gn rfl<|Yfx 4 rfl (Ygj rfl rfl rfl) gn rfl<|Yg7 5 rfl ?_
        by_cases hp4056:x3906 < (x1.prods.length:Int)
        ·have h:=Ygf hp4056 h
         refine Ygp rfl _ rfl ((decide_eq_true hp4056))<|Ygt rfl<|Yg3 rfl<|Ygm rfl<|Yg3 rfl ?_
         obtain ⟨hb4057,h⟩:=h
         obtain ⟨hb4065,h⟩:=h
         by_cases hp4073:(ix x1.prods x3906).lhs=(ix x14.prods x3906).lhs
         ·have h:=Ygf hp4073 h
          obtain ⟨r4091,hv4092,h⟩:=h
          have hns:Region.noSelect (Code.ops q35c68)=true:=by kernel_rfl
          refine Yk2 [] 29 rfl rfl mix rfl (.c 0 rfl (.c 1 rfl .n))<|wfv 0 rfl (Ygc Yh1 rfl) gn hns rfl<|wfv 1 rfl (Ygg 1 Yj4 rfl rfl rfl) gn hns rfl<|wfv 2 rfl (Yg2 rfl) gn hns rfl ?_
          obtain ⟨ce4137,hK4138,hr4136⟩:=Rw.read (s:=St w []) h13 hb4057
          obtain ⟨A4139,n4140,c4141,rfl,h4142⟩:=hK4138
          refine wfv 3 rfl (Yhp (s:=St w []) Yjk rfl rfl h13 hb4057) gn hns rfl<|wfv 4 rfl (Yjp Ykw rfl) gn hns rfl<|wfv 5 rfl (Yjj (kk:=(x3906:Int).toNat * 2) (j:=0) (St w []) Ymu rfl hr4136 rfl (me 1 rfl)) gn hns rfl<|wfv 6 rfl (Ygc Yh1 rfl) gn hns rfl<|wfv 7 rfl (Ygg 0 Yj4 rfl rfl rfl) gn hns rfl<|wfv 8 rfl (Yg2 rfl) gn hns rfl ?_
          obtain ⟨ce4144,hK4145,hr4143⟩:=Rw.read (s:=St w []) h26 hb4065
          obtain ⟨A4146,n4147,c4148,rfl,h4149⟩:=hK4145
          refine wfv 9 rfl (Yhp (s:=St w []) Yjk rfl rfl h26 hb4065) gn hns rfl<|wfv 10 rfl (Yjp Ykw rfl) gn hns rfl<|wfv 11 rfl (Yjj (kk:=(x3906:Int).toNat * 2) (j:=0) (St w []) Ymu rfl hr4143 rfl (me 1 rfl)) gn hns rfl<|wfv 12 rfl (Ygj rfl rfl rfl) gn hns rfl<|wfv 13 rfl (Yg2 rfl) gn hns rfl<|Yoy 89 rfl ((eqib hp4073))<|wfv 14 rfl (Ygc Yh1 rfl) (gy 89 rfl rfl) hns rfl<|wfv 15 rfl (Ygg 1 Yj4 rfl rfl rfl) (gy 89 rfl rfl) hns rfl<|wfv 16 rfl (Yg2 rfl) (gy 89 rfl rfl) hns rfl ?_
          obtain ⟨ce4151,hK4152,hr4150⟩:=Rw.read (s:=St w []) h13 hb4057
          obtain ⟨A4153,n4154,c4155,rfl,h4156⟩:=hK4152
          refine wfv 17 rfl (Yhp (s:=St w []) Yjk rfl rfl h13 hb4057) (gy 89 rfl rfl) hns rfl<|wfv 18 rfl (Yjp Yko rfl) (gy 89 rfl rfl) hns rfl<|wfv 19 rfl (Yjj (kk:=(x3906:Int).toNat * 2) (j:=1) (St w []) Yn0 rfl hr4150 rfl (me 1 rfl)) (gy 89 rfl rfl) hns rfl<|wfv 20 rfl (Ygc Yh1 rfl) (gy 89 rfl rfl) hns rfl<|wfv 21 rfl (Ygg 0 Yj4 rfl rfl rfl) (gy 89 rfl rfl) hns rfl<|wfv 22 rfl (Yg2 rfl) (gy 89 rfl rfl) hns rfl ?_
          obtain ⟨ce4158,hK4159,hr4157⟩:=Rw.read (s:=St w []) h26 hb4065
          obtain ⟨A4160,n4161,c4162,rfl,h4163⟩:=hK4159
          refine wfv 23 rfl (Yhp (s:=St w []) Yjk rfl rfl h26 hb4065) (gy 89 rfl rfl) hns rfl<|wfv 24 rfl (Yjp Yko rfl) (gy 89 rfl rfl) hns rfl<|wfv 25 rfl (Yjj (kk:=(x3906:Int).toNat * 2) (j:=1) (St w []) Yn0 rfl hr4157 rfl (me 1 rfl)) (gy 89 rfl rfl) hns rfl ?_
          refine Yl2 [26] (by kernel_rfl) rfl ⟨on_s 26 rfl (gy 89 rfl rfl) rfl (Yho [.slice A4153 n4154 c4155,.slice A4160 n4161 c4162] rfl Try.func36 rfl rfl rfl fun w4170 hL4171=>?_),trivial⟩
          have hp4172:=pmI hL4171 .n (.c 0 rfl (.c 1 rfl .n)) (by kernel_rfl)
          refine Calls.mono (Ylk w4170 (Fl ([]:List Ygr)) ((ix x1.prods x3906).rhs) ((ix x14.prods x3906).rhs) A4153 n4154 c4155 A4160 n4161 c4162 (Rw.mono h4156 (hL4171.toSt hp4172 (me 1 rfl))) (Rw.mono h4163 (hL4171.toSt hp4172 (me 1 rfl))) (hL4171.hFl hp4172 (Yj7 [] rfl)) (hL4171.into hp4172 _) r4091 hv4092) ?_
          rintro _ w4173 ⟨rfl,hM4174⟩
          have hL4175:=hL4171.call hp4172 hM4174
          refine ⟨_,_,_,rfl,hL4175,?_⟩
          refine ⟨Yj7 [0,1] rfl,Yj7 [0,1] rfl,?_⟩
          refine wfv 27 rfl (Ymb rfl) (gy 89 rfl rfl) hns rfl<|wfv 28 rfl (Ygy (b:=false) rfl rfl) gn hns rfl<|Yl0 (by kernel_rfl) ?_
          by_cases hp4176:r4091=true
          ·have h:=Ygf hp4176 h
           refine Ygl rfl _ rfl ((nf hp4176))<|Ygt rfl<|Ygq<|Yfy rfl rfl<|Yfx 0 rfl (Yg2 rfl) gn rfl<|Yfx 1 rfl (Ygj rfl rfl rfl) gn rfl<|Yfx 2 rfl (Yg1 rfl) gn rfl<|Yg7 3 rfl<|Ygv ?_
           have ih:=Out.inl hO3 h
           exact Yhj [0,1] (ih ()) ⟨rfl,rfl,rfl,trivial⟩ (.cons_cons _ (.cons_cons _ (.slnil))) rfl
          ·have h:=Yge hp4176 h
           refine Ygp rfl _ rfl ((nt (bf hp4176)))<|Yg3 rfl<|Yfy rfl rfl<|Yfx 0 rfl (Yg1 rfl) gn rfl<|Yg7 1 rfl ?_
           have h:=Out.inr hO3 h
           have h:=Out.inr hO2 h
           have h:=Out.inr hO1 h
           refine Ygx [.bool false] rfl Try.func35 rfl (.tmp rfl (.nil)) fun wr hLr=>?_
           have hMr:=hLr.pk0 (.c 1 rfl .n)
           show Yic w F  r (.returned (Yhe [.bool false])) wr
           rw [h]
           exact ⟨rfl,hMr⟩
         ·have h:=Yge hp4073 h
          have hns:Region.noSelect (Code.ops q35c68)=true:=by kernel_rfl
          refine Yk2 [] 29 rfl rfl mix rfl (.c 0 rfl (.c 1 rfl .n))<|wfv 0 rfl (Ygc Yh1 rfl) gn hns rfl<|wfv 1 rfl (Ygg 1 Yj4 rfl rfl rfl) gn hns rfl<|wfv 2 rfl (Yg2 rfl) gn hns rfl ?_
          obtain ⟨ce4192,hK4193,hr4191⟩:=Rw.read (s:=St w []) h13 hb4057
          obtain ⟨A4194,n4195,c4196,rfl,h4197⟩:=hK4193
          refine wfv 3 rfl (Yhp (s:=St w []) Yjk rfl rfl h13 hb4057) gn hns rfl<|wfv 4 rfl (Yjp Ykw rfl) gn hns rfl<|wfv 5 rfl (Yjj (kk:=(x3906:Int).toNat * 2) (j:=0) (St w []) Ymu rfl hr4191 rfl (me 1 rfl)) gn hns rfl<|wfv 6 rfl (Ygc Yh1 rfl) gn hns rfl<|wfv 7 rfl (Ygg 0 Yj4 rfl rfl rfl) gn hns rfl<|wfv 8 rfl (Yg2 rfl) gn hns rfl ?_
          obtain ⟨ce4199,hK4200,hr4198⟩:=Rw.read (s:=St w []) h26 hb4065
          obtain ⟨A4201,n4202,c4203,rfl,h4204⟩:=hK4200
          refine wfv 9 rfl (Yhp (s:=St w []) Yjk rfl rfl h26 hb4065) gn hns rfl<|wfv 10 rfl (Yjp Ykw rfl) gn hns rfl<|wfv 11 rfl (Yjj (kk:=(x3906:Int).toNat * 2) (j:=0) (St w []) Ymu rfl hr4198 rfl (me 1 rfl)) gn hns rfl<|wfv 12 rfl (Ygj rfl rfl rfl) gn hns rfl<|wfv 13 rfl (Yg2 rfl) gn hns rfl<|Yoy 89 rfl ((neib hp4073))<|wfp 14 rfl (ps 89 rfl rfl rfl) hns rfl<|wfp 15 rfl (ps 89 rfl rfl rfl) hns rfl<|wfp 16 rfl (ps 89 rfl rfl rfl) hns rfl<|wfp 17 rfl (ps 89 rfl rfl rfl) hns rfl<|wfp 18 rfl (ps 89 rfl rfl rfl) hns rfl<|wfp 19 rfl (ps 89 rfl rfl rfl) hns rfl ?_
          refine wfp 20 rfl (ps 89 rfl rfl rfl) hns rfl<|wfp 21 rfl (ps 89 rfl rfl rfl) hns rfl<|wfp 22 rfl (ps 89 rfl rfl rfl) hns rfl<|wfp 23 rfl (ps 89 rfl rfl rfl) hns rfl<|wfp 24 rfl (ps 89 rfl rfl rfl) hns rfl<|wfp 25 rfl (ps 89 rfl rfl rfl) hns rfl<|wfp 26 rfl (ps 89 rfl rfl rfl) hns rfl<|wfp 27 rfl (ps 89 rfl rfl rfl) hns rfl<|wfv 28 rfl (Ygy (b:=true) rfl rfl) gn hns rfl<|Yl0 (by kernel_rfl)<|Ygp rfl _ rfl (rfl)<|Yg3 rfl ?_
          refine Yfy rfl rfl<|Yfx 0 rfl (Yg1 rfl) gn rfl<|Yg7 1 rfl ?_
          have h:=Out.inr hO3 h
          have h:=Out.inr hO2 h
          have h:=Out.inr hO1 h
          refine Ygx [.bool false] rfl Try.func35 rfl (.tmp rfl (.nil)) fun wr hLr=>?_
          have hMr:=hLr.pk0 (.c 1 rfl .n)
          show Yic w F  r (.returned (Yhe [.bool false])) wr
          rw [h]
          exact ⟨rfl,hMr⟩
        ·have h:=Yge hp4056 h
         refine Ygl rfl _ rfl ((decide_eq_false hp4056))<|Yii [.code Ysv] rfl rfl<|Yg3 rfl<|Yfy rfl rfl<|Yfx 0 rfl (Yg1 rfl) gn rfl<|Yg7 1 rfl ?_
         have h:=Out.inr hO3 h
         have h:=Out.inr hO2 h
         have h:=Out.inr hO1 h
         refine Ygx [.bool true] rfl Try.func35 rfl (.tmp rfl (.nil)) fun wr hLr=>?_
         have hMr:=hLr.pk0 (.c 1 rfl .n)
         show Yic w F  r (.returned (Yhe [.bool true])) wr
         rw [h]
         exact ⟨rfl,hMr⟩
       exact Yhj [0,1] (key4 _ h ()) ⟨rfl,rfl,rfl,trivial⟩ (.cons_cons _ (.cons_cons _ (.slnil))) rfl
     exact Yhj [0,1] (key3 _ h ()) ⟨rfl,rfl,rfl,trivial⟩ (.cons_cons _ (.cons_cons _ (.slnil))) rfl
   exact Yhj [0,1] (key2 _ h ()) ⟨rfl,rfl,rfl,trivial⟩ (.cons_cons _ (.cons_cons _ (.slnil))) rfl
 refine Yfy rfl rfl<|Yfx 0 rfl (Ygc Yi6 rfl) gn rfl<|Yfx 1 rfl (Ygg 1 Ykt rfl rfl rfl) gn rfl<|Yfx 2 rfl (Ygn Ylq rfl h5.hq) gn rfl<|Yfx 3 rfl (Ygc Yi6 rfl) gn rfl<|Yfx 4 rfl (Ygg 0 Ykt rfl rfl rfl) gn rfl<|Yfx 5 rfl (Ygn Ylq rfl h18.hq) gn rfl<|Yfx 6 rfl (Ygj rfl rfl rfl) gn rfl<|Yfx 7 rfl (Yg2 rfl) gn rfl ?_
 by_cases hp4205:(x1.terms.length:Int)=(x14.terms.length:Int)
 ·have h:=Ygf hp4205 h
  refine Yhq 15 rfl ((eqib hp4205))<|Yfx 8 rfl (Ygc Yih rfl) (gy 15 rfl rfl) rfl<|Yfx 9 rfl (Ygg 1 Yl8 rfl rfl rfl) (gy 15 rfl rfl) rfl<|Yfx 10 rfl (Ygn Yme rfl h9.hq) (gy 15 rfl rfl) rfl<|Yfx 11 rfl (Ygc Yih rfl) (gy 15 rfl rfl) rfl<|Yfx 12 rfl (Ygg 0 Yl8 rfl rfl rfl) (gy 15 rfl rfl) rfl<|Yfx 13 rfl (Ygn Yme rfl h22.hq) (gy 15 rfl rfl) rfl<|Yfx 14 rfl (Ygj rfl rfl rfl) (gy 15 rfl rfl) rfl<|Yfx 15 rfl (Ygy (b:=false) rfl rfl) gn rfl<|Yfx 16 rfl (Yg2 rfl) gn rfl ?_
  by_cases hp4206:(x1.syms.length:Int)=(x14.syms.length:Int)
  ·have h:=Ygf hp4206 h
   refine Yhq 24 rfl ((eqib hp4206))<|Yfx 17 rfl (Ygc Yh1 rfl) (gy 24 rfl rfl) rfl<|Yfx 18 rfl (Ygg 1 Yj4 rfl rfl rfl) (gy 24 rfl rfl) rfl<|Yfx 19 rfl (Ygn Ymz rfl h13.hq) (gy 24 rfl rfl) rfl<|Yfx 20 rfl (Ygc Yh1 rfl) (gy 24 rfl rfl) rfl<|Yfx 21 rfl (Ygg 0 Yj4 rfl rfl rfl) (gy 24 rfl rfl) rfl<|Yfx 22 rfl (Ygn Ymz rfl h26.hq) (gy 24 rfl rfl) rfl<|Yfx 23 rfl (Ygj rfl rfl rfl) (gy 24 rfl rfl) rfl<|Yfx 24 rfl (Ygy (b:=false) rfl rfl) gn rfl<|Yg7 25 rfl ?_
   exact Yhj [0,1] (j1 ((x1.prods.length:Int) != (x14.prods.length:Int)) h) ⟨rfl,rfl,rfl,trivial⟩ (.cons_cons _ (.cons_cons _ (.slnil))) rfl
  ·have h:=Yge hp4206 h
   refine Yhq 24 rfl ((neib hp4206))<|Yg4 17 rfl (ps 24 rfl rfl rfl)<|Yg4 18 rfl (ps 24 rfl rfl rfl)<|Yg4 19 rfl (ps 24 rfl rfl rfl)<|Yg4 20 rfl (ps 24 rfl rfl rfl)<|Yg4 21 rfl (ps 24 rfl rfl rfl)<|Yg4 22 rfl (ps 24 rfl rfl rfl)<|Yg4 23 rfl (ps 24 rfl rfl rfl)<|Yfx 24 rfl (Ygy (b:=true) rfl rfl) gn rfl<|Yg7 25 rfl ?_
   exact Yhj [0,1] (j1 true h) ⟨rfl,rfl,rfl,trivial⟩ (.cons_cons _ (.cons_cons _ (.slnil))) rfl
 ·have h:=Yge hp4205 h
  refine Yhq 15 rfl ((neib hp4205))<|Yg4 8 rfl (ps 15 rfl rfl rfl)<|Yg4 9 rfl (ps 15 rfl rfl rfl)<|Yg4 10 rfl (ps 15 rfl rfl rfl)<|Yg4 11 rfl (ps 15 rfl rfl rfl)<|Yg4 12 rfl (ps 15 rfl rfl rfl)<|Yg4 13 rfl (ps 15 rfl rfl rfl)<|Yg4 14 rfl (ps 15 rfl rfl rfl)<|Yfx 15 rfl (Ygy (b:=true) rfl rfl) gn rfl<|Yfx 16 rfl (Yg2 rfl) gn rfl<|Yg4 17 rfl (ps 24 rfl rfl rfl)<|Yg4 18 rfl (ps 24 rfl rfl rfl) ?_
  refine Yg4 19 rfl (ps 24 rfl rfl rfl)<|Yg4 20 rfl (ps 24 rfl rfl rfl)<|Yg4 21 rfl (ps 24 rfl rfl rfl)<|Yg4 22 rfl (ps 24 rfl rfl rfl)<|Yg4 23 rfl (ps 24 rfl rfl rfl)<|Yfx 24 rfl (Ygy (b:=true) rfl rfl) gn rfl<|Yg7 25 rfl ?_
  exact Yhj [0,1] (j1 true h) ⟨rfl,rfl,rfl,trivial⟩ (.cons_cons _ (.cons_cons _ (.slnil))) rfl
noncomputable abbrev q15c6:=Code.snd (Code.snd (Code.snd (Yhm Try.f15)))
noncomputable abbrev Ypz:=Code.fst (Code.fst (Code.snd (Code.fst (Code.snd (Code.snd (Yhm Try.f15))))))
abbrev Yk1 (w:World) (F:Nat→Prop) (r:Bool):Ending→World→Prop:=fun e w'=>e=.returned (.bool r)∧B.Loc w w' [] [St w []]
noncomputable abbrev Yk5 (w:World) (F:Nat→Prop) (r:Bool):Cx:=⟨Try.prog,15,Try.f15,30,Yk1 w F  r,w⟩
theorem Yn3 (w:World) (F:Nat→Prop) (x1:List Yg9) (k6:Nat) (x9:List Yg9) (A2:Option Addr) (n3:Nat) (c4:Nat) (A10:Option Addr) (n11:Nat) (c12:Nat) (h5:Rw Yiy w (St w []).av A2 n3 c4 x1) (hk7:k6≤n3) (h13:Rw Yiy w (St w []).av A10 n11 c12 x9) (hF:∀ b,F b→b < w.heap.size∧∀ o ∈ ([]:List (List Nat)),b ∉ o) (hL0:B.Loc w w [] [Sm w.heap.size F w [],St w []]) (r:Bool) (h:Yjl x1 k6 x9 r):Calls Try.prog 15 #[.slice A2 k6 c4,.slice A10 n11 c12] w (Yk1 w F  r):=by
 unfold Yjl at h
 have h8:=Rw.pre h5 hk7
 refine Yh0 (vs:=[.slice A2 k6 c4,.slice A10 n11 c12]) 30 Try.func15 rfl Try.ntmps15 rfl hL0 ?_
 show G (Yk5 w F r) _ _ _ _
 refine Yg3 rfl<|Yfy rfl rfl<|Yfx 0 rfl (Yg1 rfl) gn rfl<|Yg7 1 rfl<|Yg3 rfl<|Yfy rfl rfl<|Yfx 0 rfl (Yg2 rfl) gn rfl<|Yfx 1 rfl (Yg2 rfl) gn rfl<|Yfx 2 rfl (Ygn Ynd rfl h13.hq) gn rfl<|Yfx 3 rfl (Ygj rfl rfl rfl) gn rfl ?_
 obtain ⟨hb14,h⟩:=h
 have hle15:(w64 ((x9.length:Int) + 20):Int).toNat≤n3:=by have q:=hb14; have q1:=h5.hq; omega
 have h16:=Rw.pre h5 hle15
 refine Yfx 4 rfl (Ynm (i:=w64 ((x9.length:Int) + 20)) Ym8 rfl rfl (by have q:=hb14; have q1:=h5.hq; have q2:=h5.hn; omega) h8.hn rfl) gn rfl<|Yfx 5 rfl (Yg1 rfl) gn rfl<|Yg7 6 rfl<|Yg3 rfl<|Yg3 rfl<|Yfy rfl rfl<|Yfx 0 rfl (Yg1 rfl) gn rfl<|Yg7 1 rfl<|Ygm rfl<|Yij rfl ?_
 have key1:∀ s,Yga (fun (s:Int) o=>Yj1 x9 x1 k6 s o) s r→(fun (s:Int)=>∀ (_:Unit),G (Yk5 w F r) [.code Ypz,.inLoop Ypz,.inBlock 0,.code q15c6] [(0,.slice A2 k6 c4),(1,.slice A10 n11 c12),(5,.slice A2 ((w64 ((x9.length:Int) + 20):Int).toNat) c4),(6,.int .i64 s)] [] [Sm w.heap.size F w [],St w []]) s:=by
  intro s hs
  refine Yga.ind (mot:=(fun (s:Int)=>∀ (_:Unit),G (Yk5 w F r) [.code Ypz,.inLoop Ypz,.inBlock 0,.code q15c6] [(0,.slice A2 k6 c4),(1,.slice A10 n11 c12),(5,.slice A2 ((w64 ((x9.length:Int) + 20):Int).toNat) c4),(6,.int .i64 s)] [] [Sm w.heap.size F w [],St w []])) ?_ hs
  clear hs s
  intro x21 o1 h hO1
  show ∀ (_:Unit),G (Yk5 w F r) [.code Ypz,.inLoop Ypz,.inBlock 0,.code q15c6] [(0,.slice A2 k6 c4),(1,.slice A10 n11 c12),(5,.slice A2 ((w64 ((x9.length:Int) + 20):Int).toNat) c4),(6,.int .i64 x21)] [] [Sm w.heap.size F w [],St w []]
  intro _
  have h:Yj1 x9 x1 k6 x21 o1:=h
  unfold Yj1 at h
  refine Yg3 rfl<|Yg3 rfl<|Yfy rfl rfl<|Yfx 0 rfl (Yg2 rfl) gn rfl<|Yfx 1 rfl (Ygj rfl rfl rfl) gn rfl<|Yg7 2 rfl ?_
  by_cases hp34:x21 < 20
  ·have h:=Ygf hp34 h
   refine Ygp rfl _ rfl ((decide_eq_true hp34))<|Ygt rfl<|Yg3 rfl<|Ygm rfl<|Yg3 rfl<|Yfy rfl rfl<|Yfx 0 rfl (Yg2 rfl) gn rfl<|Yfx 1 rfl (Yg2 rfl) gn rfl<|Yfx 2 rfl (Ygn Ynd rfl h13.hq) gn rfl<|Yfx 3 rfl (Yg2 rfl) gn rfl<|Yfx 4 rfl (Ygj rfl rfl rfl) gn rfl ?_
   obtain ⟨hb35,h⟩:=h
   have hr36:=Rw.readF (s:=St w []) (hl:=Yig) (h1:=Yiv) h16 hb35
   refine Yfx 5 rfl (Yhp (s:=St w []) Ym8 rfl rfl h16 hb35) gn rfl<|Yfx 6 rfl (Ymk (St w []) Yr7 rfl hr36 rfl (me 1 rfl)) gn rfl<|Yfx 7 rfl (Yg2 rfl) gn rfl<|Yfx 8 rfl (Ygj rfl rfl rfl) gn rfl<|Yfx 9 rfl (Yn2 #[.int .i64 (w64 (900 + x21)),.string (⟨#[109,97,114,107]⟩:ByteArray),.string (⟨#[]⟩:ByteArray)] bd_36 rfl (by kernel_rfl)) gn rfl<|Yfx 10 rfl (Yq0 eq_36 rfl rfl (Yqu (ix (x1.take ((w64 ((x9.length:Int) + 20):Int).toNat)) (w64 ((x9.length:Int) + x21))) (⟨w64 (900 + x21),(⟨#[109,97,114,107]⟩:ByteArray),(⟨#[]⟩:ByteArray)⟩:Yg9))) gn rfl<|Yg7 11 rfl ?_
   by_cases hp37:ix (x1.take ((w64 ((x9.length:Int) + 20):Int).toNat)) (w64 ((x9.length:Int) + x21))=(⟨w64 (900 + x21),(⟨#[109,97,114,107]⟩:ByteArray),(⟨#[]⟩:ByteArray)⟩:Yg9)
   ·have h:=Ygf hp37 h
    refine Ygl rfl _ rfl ((nf (decide_eq_true hp37)))<|Ygt rfl<|Ygq<|Yfy rfl rfl<|Yfx 0 rfl (Yg2 rfl) gn rfl<|Yfx 1 rfl (Ygj rfl rfl rfl) gn rfl<|Yfx 2 rfl (Yg1 rfl) gn rfl<|Yg7 3 rfl<|Ygv ?_
    have ih:=Out.inl hO1 h
    exact Yhj [0,1] (ih ()) ⟨rfl,rfl,rfl,rfl,trivial⟩ (.slnil) rfl
   ·have h:=Yge hp37 h
    refine Ygp rfl _ rfl ((nt (decide_eq_false hp37)))<|Yg3 rfl<|Yfy rfl rfl<|Yfx 0 rfl (Yg1 rfl) gn rfl<|Yg7 1 rfl ?_
    have h:=Out.inr hO1 h
    refine Ygx [.bool false] rfl Try.func15 rfl (.tmp rfl (.nil)) fun wr hLr=>?_
    have hMr:=hLr.pk0 (.c 1 rfl .n)
    show Yk1 w F  r (.returned (Yhe [.bool false])) wr
    rw [h]
    exact ⟨rfl,hMr⟩
  ·have h:=Yge hp34 h
   refine Ygl rfl _ rfl ((decide_eq_false hp34))<|Yii [.code q15c6] rfl rfl<|Yg3 rfl<|Yfy rfl rfl<|Yfx 0 rfl (Yg2 rfl) gn rfl<|Yfx 1 rfl (Yg2 rfl) gn rfl ?_
   obtain ⟨r41,hv42,h⟩:=h
   refine Ygw 2 rfl (Yho [.slice A2 k6 c4,.slice A10 n11 c12] rfl Try.func36 rfl rfl rfl fun w38 hL39=>?_) gn
   have hp40:=pmI hL39 .n .n (by kernel_rfl)
   refine Calls.mono (Ylk w38 (Fl ([]:List Ygr)) (x1.take k6) x9 A2 k6 c4 A10 n11 c12 (Rw.mono h8 (hL39.toSt hp40 (me 1 rfl))) (Rw.mono h13 (hL39.toSt hp40 (me 1 rfl))) (hL39.hFl hp40 (Yj7 [] rfl)) (hL39.into hp40 _) r41 hv42) ?_
   rintro _ w43 ⟨rfl,hM44⟩
   have hL45:=hL39.call hp40 hM44
   refine ⟨_,_,_,rfl,hL45,?_⟩
   refine Yfx 3 rfl (Yg1 rfl) gn rfl<|Yg7 4 rfl ?_
   have h:=Out.inr hO1 h
   refine Ygx [.bool r41] rfl Try.func15 rfl (.tmp rfl (.nil)) fun wr hLr=>?_
   have hMr:=hLr.pk0 (.c 1 rfl .n)
   show Yk1 w F  r (.returned (Yhe [.bool r41])) wr
   rw [h]
   exact ⟨rfl,hMr⟩
 exact Yhj [0,1] (key1 _ h ()) ⟨rfl,rfl,rfl,rfl,trivial⟩ (.slnil) rfl
end Go.Proofs.Ytelafghkjlpojaa.K
