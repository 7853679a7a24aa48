/- What the machine's calls do, function by function, printed by my own tool. Condition of each: its relation holds of the answer, and what is handed in lies in memory as told. -/
import Derived.Test.YtelafghkjlpojaaK1
set_option linter.unusedVariables false
set_option maxRecDepth 100000
set_option maxHeartbeats 4000000
namespace Go.Proofs.Ytelafghkjlpojaa.K
open Go.Proofs.Ytelafghkjlpojaa.B Go.Proofs.Ytelafghkjlpojaa.R Go.RowKit
noncomputable abbrev Yrg:=Code.snd (Code.snd (Code.snd (Yhf Try.f11)))
noncomputable abbrev Ypj:=Code.fst (Code.fst (Code.snd (Code.fst (Code.snd (Code.snd (Yhf Try.f11))))))
noncomputable abbrev Yrs:=Code.snd (Code.snd (Code.snd (Code.snd Yrg)))
noncomputable abbrev Yol:=Code.fst (Code.fst (Code.snd (Code.fst (Code.snd (Code.snd (Code.snd Yrg))))))
noncomputable abbrev q11c44:=Code.fst (Code.fst (Code.snd Yol))
abbrev Yl6 (w:World) (F:Nat→Prop) (r:Yfz × Nat × Nat × Nat × (List (Yg8 × Nat))):Ending→World→Prop:=fun e w'=>∃ A0:Option Addr,∃ n0:Nat,∃ c0:Nat,∃ A1:Option Addr,∃ n1:Nat,∃ c1:Nat,∃ A2:Option Addr,∃ n2:Nat,∃ c2:Nat,∃ cs2:List Value,∃ bs2:List Nat,e=.returned (.agg #[.slice A0 r.2.1 c0,.slice A1 r.2.2.1 c1,.slice A2 r.2.2.2.1 c2])∧B.Loc w w' [.own (.slice A0 n0 c0) 58 2 n0 (r.1.terms.flatMap Yg9),.own (.slice A1 n1 c1) 61 2 n1 (r.1.syms.flatMap Ygd),.own (.slice A2 n2 c2) 38 2 n2 cs2,Yi4 Yh7 (w.heap.size) none r.2.2.2.2 cs2 bs2] [St w []]∧Ow w.heap.size A0 n0 c0 r.1.terms∧r.2.1≤n0∧Ow w.heap.size A1 n1 c1 r.1.syms∧r.2.2.1≤n1∧Ow w.heap.size A2 n2 c2 r.2.2.2.2∧r.2.2.2.1≤n2
noncomputable abbrev Yif (w:World) (F:Nat→Prop) (r:Yfz × Nat × Nat × Nat × (List (Yg8 × Nat))):Cx:=⟨Try.prog,11,Try.f11,73,Yl6 w F  r,w⟩
theorem Ynd (w:World) (F:Nat→Prop) (x1:Yfz) (A2:Option Addr) (n3:Nat) (c4:Nat) (A6:Option Addr) (n7:Nat) (c8:Nat) (A10:Option Addr) (n11:Nat) (c12:Nat) (h5:Rw Ygi w (St w []).av A2 n3 c4 x1.terms) (h9:Rw Yh1 w (St w []).av A6 n7 c8 x1.syms) (h13:Rw Ygs w (St w []).av A10 n11 c12 x1.prods) (hF:∀ b,F b→b < w.heap.size∧∀ o ∈ ([]:List (List Nat)),b ∉ o) (hL0:B.Loc w w [] [Sm w.heap.size F w [],St w []]) (r:Yfz × Nat × Nat × Nat × (List (Yg8 × Nat))) (h:Yk8 x1 r):Calls Try.prog 11 #[.agg #[.slice A2 n3 c4,.slice A6 n7 c8,.slice A10 n11 c12]] w (Yl6 w F  r):=by
 unfold Yk8 at h
 refine Ygx (vs:=[.agg #[.slice A2 n3 c4,.slice A6 n7 c8,.slice A10 n11 c12]]) 73 Try.func11 rfl Try.ntmps11 rfl hL0 ?_
 show G (Yif w F r) _ _ _ _
 refine Yg4 rfl<|Yfy rfl rfl ?_
 refine Yh3 0 rfl (Ym6 [.slice A2 n3 c4,.slice A6 n7 c8,.slice A10 n11 c12] rfl rfl rfl fun gb14=>?_) gn
 refine Yh3 1 rfl (Ykd [.slice none 0 0,.slice none 0 0,.slice none 0 0] Yro rfl fun gb16=>?_) gn
 refine Yg7 2 rfl<|Yg4 rfl<|Yfy rfl rfl<|Yfx 0 rfl (Ykb [.slice A2 n3 c4,.slice A6 n7 c8,.slice A10 n11 c12] 1 Yk6 rfl rfl rfl rfl) gn rfl ?_
 obtain ⟨r21,hv22,h⟩:=h
 refine Yh3 1 rfl (Yhy [.agg #[.slice A2 n3 c4,.slice A6 n7 c8,.slice A10 n11 c12]] rfl Try.func8 rfl rfl rfl fun w18 hL19=>?_) gn
 have hp20:=pmI hL19 .n (.c 0 rfl (.c 1 rfl .n)) (by kernel_rfl)
 refine Calls.mono (Yki w18 (Fl ([]:List Ygl)) x1 A2 n3 c4 A6 n7 c8 A10 n11 c12 (Rw.mono h5 (hL19.toSt hp20 (me 1 rfl))) (Rw.mono h9 (hL19.toSt hp20 (me 1 rfl))) (Rw.mono h13 (hL19.toSt hp20 (me 1 rfl))) (hL19.hFl hp20 (Yj0 [] rfl)) (hL19.into hp20 _) r21 hv22) ?_
 rintro _ w41 ⟨A23,n24,c25,A28,n29,c30,A33,n34,c35,cs37,bs38,rfl,hM42,h26,h31,h36⟩
 have hL43:=hL19.call hp20 hM42
 refine ⟨_,_,_,rfl,hL43,?_⟩
 refine Ysd (fk:=Ymk) (z':=w.heap.size) (j:=3) hL19.env.size rfl<|Yrw (fk:=Ymk) (z:=w.heap.size) (j:=3) Yh7 Yje (fun _=>rfl) (fun _=>rfl) (fun x d h=>by obtain ⟨A,n,c⟩:=d; simp only at h; subst h; rfl) (fun _=>Nat.le_refl _) rfl rfl rfl ?_
 refine Yh3 2 rfl (Ykd [.slice none 0 0,.slice none 0 0,.slice none 0 0] Yro rfl fun gb44=>?_) gn
 refine Yh3 3 rfl (Ylp (vs:=[.slice A23 n24 c25,.slice A28 n29 c30,.slice A33 n34 c35]) (cs':=[.slice A23 n24 c25,.slice A28 n29 c30,.slice A33 n34 c35]) (M':=[.box gb44 26 [.slice A23 n24 c25,.slice A28 n29 c30,.slice A33 n34 c35],.own (.slice A23 n24 c25) 58 2 n24 (r21.terms.flatMap Yg9),.own (.slice A28 n29 c30) 61 2 n29 (r21.syms.flatMap Ygd),.own (.slice A33 n34 c35) 38 2 n34 cs37,Yi4 Yh7 (w.heap.size) none (r21.prods.map Yje) cs37 bs38,.box gb16 26 [.slice none 0 0,.slice none 0 0,.slice none 0 0],.box gb14 26 [.slice A2 n3 c4,.slice A6 n7 c8,.slice A10 n11 c12]]) 0 Yss rfl rfl rfl rfl rfl rfl rfl rfl rfl ?_) gn
 refine Yg7 4 rfl<|Yg4 rfl<|Yg4 rfl<|Yfy rfl rfl<|Yfx 0 rfl (Yg3 rfl) gn rfl<|Yg7 1 rfl<|Ygk rfl<|Yiu rfl ?_
 have key1:∀ s,Yga (fun (s:Int × (List Ygc) × (List Ygq) × (List (Yg8 × Nat))) o=>Yhm x1 s.1 s.2.1 s.2.2.1 s.2.2.2 o) s r→(fun (s:Int × (List Ygc) × (List Ygq) × (List (Yg8 × Nat)))=>∀ (A80:Option Addr) (n81:Nat) (c82:Nat) (h83:Ow w.heap.size A80 n81 c82 s.2.1) (A85:Option Addr) (n86:Nat) (c87:Nat) (h88:Ow w.heap.size A85 n86 c87 s.2.2.1) (bs90:List Nat) (A91:Option Addr) (n92:Nat) (c93:Nat) (cs94:List Value) (h95:Ow w.heap.size A91 n92 c93 s.2.2.2),G (Yif w F r) [.code Ypj,.inLoop Ypj,.inBlock 0,.code Yrg] [(1,.pointer (some ⟨gb14,0,none⟩)),(2,.pointer (some ⟨gb16,0,none⟩)),(3,.pointer (some ⟨gb44,0,none⟩)),(4,.int .i64 s.1)] [Yi4 Yh7 (w.heap.size) none s.2.2.2 cs94 bs90,.box gb44 26 [.slice A80 n81 c82,.slice A85 n86 c87,.slice A91 n92 c93],.own (.slice A80 n81 c82) 58 2 n81 (s.2.1.flatMap Yg9),.own (.slice A85 n86 c87) 61 2 n86 (s.2.2.1.flatMap Ygd),.own (.slice A91 n92 c93) 38 2 n92 cs94,.box gb16 26 [.slice none 0 0,.slice none 0 0,.slice none 0 0],.box gb14 26 [.slice A2 n3 c4,.slice A6 n7 c8,.slice A10 n11 c12]] [Sm w.heap.size F w [],St w []]) s:=by
  intro s hs
  refine Yga.ind (mot:=(fun (s:Int × (List Ygc) × (List Ygq) × (List (Yg8 × Nat)))=>∀ (A80:Option Addr) (n81:Nat) (c82:Nat) (h83:Ow w.heap.size A80 n81 c82 s.2.1) (A85:Option Addr) (n86:Nat) (c87:Nat) (h88:Ow w.heap.size A85 n86 c87 s.2.2.1) (bs90:List Nat) (A91:Option Addr) (n92:Nat) (c93:Nat) (cs94:List Value) (h95:Ow w.heap.size A91 n92 c93 s.2.2.2),G (Yif w F r) [.code Ypj,.inLoop Ypj,.inBlock 0,.code Yrg] [(1,.pointer (some ⟨gb14,0,none⟩)),(2,.pointer (some ⟨gb16,0,none⟩)),(3,.pointer (some ⟨gb44,0,none⟩)),(4,.int .i64 s.1)] [Yi4 Yh7 (w.heap.size) none s.2.2.2 cs94 bs90,.box gb44 26 [.slice A80 n81 c82,.slice A85 n86 c87,.slice A91 n92 c93],.own (.slice A80 n81 c82) 58 2 n81 (s.2.1.flatMap Yg9),.own (.slice A85 n86 c87) 61 2 n86 (s.2.2.1.flatMap Ygd),.own (.slice A91 n92 c93) 38 2 n92 cs94,.box gb16 26 [.slice none 0 0,.slice none 0 0,.slice none 0 0],.box gb14 26 [.slice A2 n3 c4,.slice A6 n7 c8,.slice A10 n11 c12]] [Sm w.heap.size F w [],St w []])) ?_ hs
  clear hs s
  intro s o1 h hO1
  obtain ⟨x78,x79,x84,x89⟩:=s
  show ∀ (A80:Option Addr) (n81:Nat) (c82:Nat) (h83:Ow w.heap.size A80 n81 c82 x79) (A85:Option Addr) (n86:Nat) (c87:Nat) (h88:Ow w.heap.size A85 n86 c87 x84) (bs90:List Nat) (A91:Option Addr) (n92:Nat) (c93:Nat) (cs94:List Value) (h95:Ow w.heap.size A91 n92 c93 x89),G (Yif w F r) [.code Ypj,.inLoop Ypj,.inBlock 0,.code Yrg] [(1,.pointer (some ⟨gb14,0,none⟩)),(2,.pointer (some ⟨gb16,0,none⟩)),(3,.pointer (some ⟨gb44,0,none⟩)),(4,.int .i64 x78)] [Yi4 Yh7 (w.heap.size) none x89 cs94 bs90,.box gb44 26 [.slice A80 n81 c82,.slice A85 n86 c87,.slice A91 n92 c93],.own (.slice A80 n81 c82) 58 2 n81 (x79.flatMap Yg9),.own (.slice A85 n86 c87) 61 2 n86 (x84.flatMap Ygd),.own (.slice A91 n92 c93) 38 2 n92 cs94,.box gb16 26 [.slice none 0 0,.slice none 0 0,.slice none 0 0],.box gb14 26 [.slice A2 n3 c4,.slice A6 n7 c8,.slice A10 n11 c12]] [Sm w.heap.size F w [],St w []]
  intro A80 n81 c82 h83 A85 n86 c87 h88 bs90 A91 n92 c93 cs94 h95
  have h:Yhm x1 x78 x79 x84 x89 o1:=h
  unfold Yhm at h
  refine Yg4 rfl<|Yg4 rfl<|Yfy rfl rfl<|Yfx 0 rfl (Yg1 rfl) gn rfl<|Yfx 1 rfl (Ygh rfl rfl rfl) gn rfl<|Yg7 2 rfl ?_
  by_cases hp497:x78 < 20
  ·have h:=Ygg hp497 h
   refine Ygm rfl _ rfl ((decide_eq_true hp497))<|Ygp rfl<|Yg4 rfl<|Ygk rfl<|Yg4 rfl<|Yfy rfl rfl<|Yfx 0 rfl (Ygb Yi3 rfl) gn rfl<|Yfx 1 rfl (Yge 1 Ykl rfl rfl rfl) gn rfl<|Yfx 2 rfl (Ymz #[.string (⟨#[109,97,114,107]⟩:ByteArray),.bool false] bd_58 rfl (by kernel_rfl)) gn rfl ?_
   refine Yh3 3 rfl (Yo0 (xs:=([(⟨(⟨#[109,97,114,107]⟩:ByteArray),false⟩:Ygc)]:List Ygc)) [.string (⟨#[109,97,114,107]⟩:ByteArray),.bool false] Ytd rfl (by kernel_rfl) rfl rfl rfl rfl fun gb499 h500=>?_) gn
   obtain ⟨x504,hv505,h⟩:=h
   obtain ⟨hb506,h⟩:=h
   refine Yh3 4 rfl (Ypv (zs:=x504) (cells':=x504.flatMap Yg9) 3 ap_22 rfl rfl rfl h83 (Nat.le_refl _) (Src.ownF (hl:=Yjz) (h1:=Yk0) 0 rfl h500) (by rw [hv505,List.flatMap_append] <;> rfl) (Yn1 hv505 h500.hq) hb506 rfl rfl fun A501 c502 h503=>?_) gn
   refine Yfx 5 rfl (Ygb Yi3 rfl) gn rfl ?_
   refine Yh3 6 rfl (Ylp (vs:=[.slice A501 (n81 + 1) c502]) (cs':=[.slice A501 (n81 + 1) c502,.slice A85 n86 c87,.slice A91 n92 c93]) (M':=[.own (.slice (some ⟨gb499,0,none⟩) 1 1) 58 2 1 (([(⟨(⟨#[109,97,114,107]⟩:ByteArray),false⟩:Ygc)]:List Ygc).flatMap Yg9),Yi4 Yh7 (w.heap.size) none x89 cs94 bs90,.box gb44 26 [.slice A501 (n81 + 1) c502,.slice A85 n86 c87,.slice A91 n92 c93],.own (.slice A501 (n81 + 1) c502) 58 2 (n81 + 1) (x504.flatMap Yg9),.own (.slice A85 n86 c87) 61 2 n86 (x84.flatMap Ygd),.own (.slice A91 n92 c93) 38 2 n92 cs94,.box gb16 26 [.slice none 0 0,.slice none 0 0,.slice none 0 0],.box gb14 26 [.slice A2 n3 c4,.slice A6 n7 c8,.slice A10 n11 c12]]) 2 sz_22 rfl rfl rfl rfl rfl rfl rfl rfl rfl ?_) gn
   refine Yg7 7 rfl<|Yg4 rfl<|Yfy rfl rfl<|Yfx 0 rfl (Ygb Yih rfl) gn rfl<|Yfx 1 rfl (Yge 2 Yl1 rfl rfl rfl) gn rfl<|Yfx 2 rfl (Ymz #[.string (⟨#[109,97,114,107]⟩:ByteArray),.int .i64 0] bd_61 rfl (by kernel_rfl)) gn rfl ?_
   refine Yh3 3 rfl (Yo0 (xs:=([(⟨(⟨#[109,97,114,107]⟩:ByteArray),0⟩:Ygq)]:List Ygq)) [.string (⟨#[109,97,114,107]⟩:ByteArray),.int .i64 0] Ytc rfl (by kernel_rfl) rfl rfl rfl rfl fun gb508 h509=>?_) gn
   obtain ⟨x513,hv514,h⟩:=h
   obtain ⟨hb515,h⟩:=h
   refine Yh3 4 rfl (Ypv (zs:=x513) (cells':=x513.flatMap Ygd) 5 ap_23 rfl rfl rfl h88 (Nat.le_refl _) (Src.ownF (hl:=Ylk) (h1:=Ylj) 0 rfl h509) (by rw [hv514,List.flatMap_append] <;> rfl) (Yn1 hv514 h509.hq) hb515 rfl rfl fun A510 c511 h512=>?_) gn
   refine Yfx 5 rfl (Ygb Yih rfl) gn rfl ?_
   refine Yh3 6 rfl (Ylp (vs:=[.slice A510 (n86 + 1) c511]) (cs':=[.slice A501 (n81 + 1) c502,.slice A510 (n86 + 1) c511,.slice A91 n92 c93]) (M':=[.own (.slice (some ⟨gb508,0,none⟩) 1 1) 61 2 1 (([(⟨(⟨#[109,97,114,107]⟩:ByteArray),0⟩:Ygq)]:List Ygq).flatMap Ygd),.own (.slice (some ⟨gb499,0,none⟩) 1 1) 58 2 1 (([(⟨(⟨#[109,97,114,107]⟩:ByteArray),false⟩:Ygc)]:List Ygc).flatMap Yg9),Yi4 Yh7 (w.heap.size) none x89 cs94 bs90,.box gb44 26 [.slice A501 (n81 + 1) c502,.slice A510 (n86 + 1) c511,.slice A91 n92 c93],.own (.slice A501 (n81 + 1) c502) 58 2 (n81 + 1) (x504.flatMap Yg9),.own (.slice A510 (n86 + 1) c511) 61 2 (n86 + 1) (x513.flatMap Ygd),.own (.slice A91 n92 c93) 38 2 n92 cs94,.box gb16 26 [.slice none 0 0,.slice none 0 0,.slice none 0 0],.box gb14 26 [.slice A2 n3 c4,.slice A6 n7 c8,.slice A10 n11 c12]]) 3 sz_23 rfl rfl rfl rfl rfl rfl rfl rfl rfl ?_) gn
   refine Yg7 7 rfl<|Yfy rfl rfl<|Yfx 0 rfl (Ygb Ygw rfl) gn rfl<|Yfx 1 rfl (Yge 3 Yip rfl rfl rfl) gn rfl<|Yfx 2 rfl (Yg1 rfl) gn rfl<|Yfx 3 rfl (Ygh rfl rfl rfl) gn rfl<|Yfx 4 rfl (Ymz #[.int .i64 (w64 (900 + x78)),.slice none 0 0] bd_38 rfl (by kernel_rfl)) gn rfl<|Yts (z:=w.heap.size) Yh7 ([((⟨w64 (900 + x78),([]:List Yg6)⟩:Yg8),0)]:List (Yg8 × Nat)) [.int .i64 (w64 (900 + x78)),.slice none 0 0] (by intro x hx; simp only [List.mem_cons,List.not_mem_nil,or_false] at hx; rcases hx with rfl <;> exact ⟨rfl,Nat.le_refl _⟩) rfl ?_
   refine Yh3 5 rfl (Yo0 (xs:=([((⟨w64 (900 + x78),([]:List Yg6)⟩:Yg8),0)]:List (Yg8 × Nat))) [.int .i64 (w64 (900 + x78)),.slice none 0 0] Yte rfl (by kernel_rfl) rfl rfl rfl rfl fun gb518 h519=>?_) gn
   obtain ⟨x524,hv525,h⟩:=h
   obtain ⟨hb526,h⟩:=h
   obtain ⟨cs527,hc528⟩:∃ x:List Value,x=cs94++[.int .i64 (w64 (900 + x78)),.slice none 0 0]:=⟨_,rfl⟩
   refine Yh3 6 rfl (Ypv (zs:=x524) 8 ap_24 rfl rfl rfl h95 (Nat.le_refl _) (Src.raw 0 rfl h519 rfl rfl) hc528.symm (Yn1 hv525 h519.hq) hb526 rfl rfl fun A520 c521 h522=>?_) gn
   refine w_famcat (fk:=Yh7) (z:=w.heap.size) (j1:=1) (j:=4) (by decide) rfl rfl hv525 hc528 fun bs523=>?_
   refine Yfx 7 rfl (Ygb Ygw rfl) gn rfl ?_
   refine Yh3 8 rfl (Ylp (vs:=[.slice A520 (n92 + 1) c521]) (cs':=[.slice A501 (n81 + 1) c502,.slice A510 (n86 + 1) c511,.slice A520 (n92 + 1) c521]) (M':=[.own (.slice (some ⟨gb518,0,none⟩) 1 1) 38 2 1 [.int .i64 (w64 (900 + x78)),.slice none 0 0],.own (.slice (some ⟨gb508,0,none⟩) 1 1) 61 2 1 (([(⟨(⟨#[109,97,114,107]⟩:ByteArray),0⟩:Ygq)]:List Ygq).flatMap Ygd),.own (.slice (some ⟨gb499,0,none⟩) 1 1) 58 2 1 (([(⟨(⟨#[109,97,114,107]⟩:ByteArray),false⟩:Ygc)]:List Ygc).flatMap Yg9),Yi4 Yh7 (w.heap.size) none x524 cs527 bs523,.box gb44 26 [.slice A501 (n81 + 1) c502,.slice A510 (n86 + 1) c511,.slice A520 (n92 + 1) c521],.own (.slice A501 (n81 + 1) c502) 58 2 (n81 + 1) (x504.flatMap Yg9),.own (.slice A510 (n86 + 1) c511) 61 2 (n86 + 1) (x513.flatMap Ygd),.own (.slice A520 (n92 + 1) c521) 38 2 (n92 + 1) cs527,.box gb16 26 [.slice none 0 0,.slice none 0 0,.slice none 0 0],.box gb14 26 [.slice A2 n3 c4,.slice A6 n7 c8,.slice A10 n11 c12]]) 4 sz_24 rfl rfl rfl rfl rfl rfl rfl rfl rfl ?_) gn
   refine Yg7 9 rfl<|Ygo<|Yfy rfl rfl<|Yfx 0 rfl (Yg1 rfl) gn rfl<|Yfx 1 rfl (Ygh rfl rfl rfl) gn rfl<|Yfx 2 rfl (Yg3 rfl) gn rfl<|Yg7 3 rfl<|Ygt ?_
   have ih:=Out.inl hO1 h
   exact Yhq [0,1] (ih A501 (n81 + 1) c502 h503 A510 (n86 + 1) c511 h512 bs523 A520 (n92 + 1) c521 cs527 h522) ⟨rfl,rfl,rfl,rfl,trivial⟩ (.cons _ (.cons _ (.cons _ (.cons_cons _ (.cons_cons _ (.cons_cons _ (.cons_cons _ (.cons_cons _ (.cons_cons _ (.cons_cons _ (.slnil))))))))))) rfl
  ·have h:=Ygf hp497 h
   refine Ygj rfl _ rfl ((decide_eq_false hp497))<|Yit [.code Yrg] rfl rfl<|Yg4 rfl<|Yfy rfl rfl<|Yfx 0 rfl (Ygb Yi3 rfl) gn rfl<|Yfx 1 rfl (Yge 1 Ykl rfl rfl rfl) gn rfl<|Yfx 2 rfl (Ygb Yi3 rfl) gn rfl<|Yfx 3 rfl (Yge 6 Ykl rfl rfl rfl) gn rfl<|Yfx 4 rfl (Ygn Ylt rfl h5.hq) gn rfl ?_
   obtain ⟨hb529,h⟩:=h
   have hle530:((x1.terms.length:Int):Int).toNat≤n81:=by have q:=hb529; have q1:=h83.hq; omega
   refine Yfx 5 rfl (Ymg (i:=(x1.terms.length:Int)) Ypf rfl rfl (by have q:=hb529; have q1:=h83.hq; have q2:=h83.hn; omega) h83.hn rfl) gn rfl<|Yfx 6 rfl (Ygb Yi3 rfl) gn rfl ?_
   refine Yh3 7 rfl (Ylp (vs:=[.slice A80 (((x1.terms.length:Int):Int).toNat) c82]) (cs':=[.slice A80 (((x1.terms.length:Int):Int).toNat) c82,.slice A85 n86 c87,.slice A91 n92 c93]) (M':=[Yi4 Yh7 (w.heap.size) none x89 cs94 bs90,.box gb44 26 [.slice A80 (((x1.terms.length:Int):Int).toNat) c82,.slice A85 n86 c87,.slice A91 n92 c93],.own (.slice A80 n81 c82) 58 2 n81 (x79.flatMap Yg9),.own (.slice A85 n86 c87) 61 2 n86 (x84.flatMap Ygd),.own (.slice A91 n92 c93) 38 2 n92 cs94,.box gb16 26 [.slice none 0 0,.slice none 0 0,.slice none 0 0],.box gb14 26 [.slice A2 n3 c4,.slice A6 n7 c8,.slice A10 n11 c12]]) 1 sz_22 rfl rfl rfl rfl rfl rfl rfl rfl rfl ?_) gn
   refine Yg7 8 rfl<|Yg4 rfl<|Yfy rfl rfl<|Yfx 0 rfl (Ygb Yih rfl) gn rfl<|Yfx 1 rfl (Yge 1 Yl1 rfl rfl rfl) gn rfl<|Yfx 2 rfl (Ygb Yih rfl) gn rfl<|Yfx 3 rfl (Yge 6 Yl1 rfl rfl rfl) gn rfl<|Yfx 4 rfl (Ygn Ymd rfl h9.hq) gn rfl ?_
   obtain ⟨hb531,h⟩:=h
   have hle532:((x1.syms.length:Int):Int).toNat≤n86:=by have q:=hb531; have q1:=h88.hq; omega
   refine Yfx 5 rfl (Ymg (i:=(x1.syms.length:Int)) Ypk rfl rfl (by have q:=hb531; have q1:=h88.hq; have q2:=h88.hn; omega) h88.hn rfl) gn rfl<|Yfx 6 rfl (Ygb Yih rfl) gn rfl ?_
   refine Yh3 7 rfl (Ylp (vs:=[.slice A85 (((x1.syms.length:Int):Int).toNat) c87]) (cs':=[.slice A80 (((x1.terms.length:Int):Int).toNat) c82,.slice A85 (((x1.syms.length:Int):Int).toNat) c87,.slice A91 n92 c93]) (M':=[Yi4 Yh7 (w.heap.size) none x89 cs94 bs90,.box gb44 26 [.slice A80 (((x1.terms.length:Int):Int).toNat) c82,.slice A85 (((x1.syms.length:Int):Int).toNat) c87,.slice A91 n92 c93],.own (.slice A80 n81 c82) 58 2 n81 (x79.flatMap Yg9),.own (.slice A85 n86 c87) 61 2 n86 (x84.flatMap Ygd),.own (.slice A91 n92 c93) 38 2 n92 cs94,.box gb16 26 [.slice none 0 0,.slice none 0 0,.slice none 0 0],.box gb14 26 [.slice A2 n3 c4,.slice A6 n7 c8,.slice A10 n11 c12]]) 1 sz_23 rfl rfl rfl rfl rfl rfl rfl rfl rfl ?_) gn
   refine Yg7 8 rfl<|Yg4 rfl<|Yfy rfl rfl<|Yfx 0 rfl (Ygb Ygw rfl) gn rfl<|Yfx 1 rfl (Yge 1 Yip rfl rfl rfl) gn rfl<|Yfx 2 rfl (Ygb Ygw rfl) gn rfl<|Yfx 3 rfl (Yge 6 Yip rfl rfl rfl) gn rfl<|Yfx 4 rfl (Ygn Ymb rfl h13.hq) gn rfl ?_
   obtain ⟨hb533,h⟩:=h
   have hle534:((x1.prods.length:Int):Int).toNat≤n92:=by have q:=hb533; have q1:=h95.hq; omega
   refine Yfx 5 rfl (Ymg (i:=(x1.prods.length:Int)) Yj6 rfl rfl (by have q:=hb533; have q1:=h95.hq; have q2:=h95.hn; omega) h95.hn rfl) gn rfl<|Yfx 6 rfl (Ygb Ygw rfl) gn rfl ?_
   refine Yh3 7 rfl (Ylp (vs:=[.slice A91 (((x1.prods.length:Int):Int).toNat) c93]) (cs':=[.slice A80 (((x1.terms.length:Int):Int).toNat) c82,.slice A85 (((x1.syms.length:Int):Int).toNat) c87,.slice A91 (((x1.prods.length:Int):Int).toNat) c93]) (M':=[Yi4 Yh7 (w.heap.size) none x89 cs94 bs90,.box gb44 26 [.slice A80 (((x1.terms.length:Int):Int).toNat) c82,.slice A85 (((x1.syms.length:Int):Int).toNat) c87,.slice A91 (((x1.prods.length:Int):Int).toNat) c93],.own (.slice A80 n81 c82) 58 2 n81 (x79.flatMap Yg9),.own (.slice A85 n86 c87) 61 2 n86 (x84.flatMap Ygd),.own (.slice A91 n92 c93) 38 2 n92 cs94,.box gb16 26 [.slice none 0 0,.slice none 0 0,.slice none 0 0],.box gb14 26 [.slice A2 n3 c4,.slice A6 n7 c8,.slice A10 n11 c12]]) 1 sz_24 rfl rfl rfl rfl rfl rfl rfl rfl rfl ?_) gn
   refine Yg7 8 rfl<|Yg4 rfl<|Yg4 rfl<|Yfy rfl rfl<|Yfx 0 rfl (Yg3 rfl) gn rfl<|Yg7 1 rfl<|Ygk rfl<|Yiu rfl ?_
   have key2:∀ s,Yga (fun (s:Int × (List (Yg8 × Nat))) o=>Yhb x1 x79 x84 s.1 s.2 o) s o1→(fun (s:Int × (List (Yg8 × Nat)))=>∀ (hl536:((x1.terms.length:Int):Int).toNat≤n81) (hl537:((x1.syms.length:Int):Int).toNat≤n86) (bs658:List Nat) (A659:Option Addr) (n660:Nat) (c661:Nat) (cs662:List Value) (h663:Ow w.heap.size A659 n660 c661 s.2) (hl538:((x1.prods.length:Int):Int).toNat≤n660),G (Yif w F r) [.code Yol,.inLoop Yol,.inBlock 2,.code Yrs] [(1,.pointer (some ⟨gb14,0,none⟩)),(2,.pointer (some ⟨gb16,0,none⟩)),(3,.pointer (some ⟨gb44,0,none⟩)),(5,.int .i64 s.1)] [Yi4 Yh7 (w.heap.size) none s.2 cs662 bs658,.box gb44 26 [.slice A80 (((x1.terms.length:Int):Int).toNat) c82,.slice A85 (((x1.syms.length:Int):Int).toNat) c87,.slice A659 (((x1.prods.length:Int):Int).toNat) c661],.own (.slice A80 n81 c82) 58 2 n81 (x79.flatMap Yg9),.own (.slice A85 n86 c87) 61 2 n86 (x84.flatMap Ygd),.own (.slice A659 n660 c661) 38 2 n660 cs662,.box gb16 26 [.slice none 0 0,.slice none 0 0,.slice none 0 0],.box gb14 26 [.slice A2 n3 c4,.slice A6 n7 c8,.slice A10 n11 c12]] [Sm w.heap.size F w [],St w []]) s:=by
    intro s hs
    refine Yga.ind (mot:=(fun (s:Int × (List (Yg8 × Nat)))=>∀ (hl536:((x1.terms.length:Int):Int).toNat≤n81) (hl537:((x1.syms.length:Int):Int).toNat≤n86) (bs658:List Nat) (A659:Option Addr) (n660:Nat) (c661:Nat) (cs662:List Value) (h663:Ow w.heap.size A659 n660 c661 s.2) (hl538:((x1.prods.length:Int):Int).toNat≤n660),G (Yif w F r) [.code Yol,.inLoop Yol,.inBlock 2,.code Yrs] [(1,.pointer (some ⟨gb14,0,none⟩)),(2,.pointer (some ⟨gb16,0,none⟩)),(3,.pointer (some ⟨gb44,0,none⟩)),(5,.int .i64 s.1)] [Yi4 Yh7 (w.heap.size) none s.2 cs662 bs658,.box gb44 26 [.slice A80 (((x1.terms.length:Int):Int).toNat) c82,.slice A85 (((x1.syms.length:Int):Int).toNat) c87,.slice A659 (((x1.prods.length:Int):Int).toNat) c661],.own (.slice A80 n81 c82) 58 2 n81 (x79.flatMap Yg9),.own (.slice A85 n86 c87) 61 2 n86 (x84.flatMap Ygd),.own (.slice A659 n660 c661) 38 2 n660 cs662,.box gb16 26 [.slice none 0 0,.slice none 0 0,.slice none 0 0],.box gb14 26 [.slice A2 n3 c4,.slice A6 n7 c8,.slice A10 n11 c12]] [Sm w.heap.size F w [],St w []])) ?_ hs
    clear hs s
    intro s o2 h hO2
    obtain ⟨x656,x657⟩:=s
    show ∀ (hl536:((x1.terms.length:Int):Int).toNat≤n81) (hl537:((x1.syms.length:Int):Int).toNat≤n86) (bs658:List Nat) (A659:Option Addr) (n660:Nat) (c661:Nat) (cs662:List Value) (h663:Ow w.heap.size A659 n660 c661 x657) (hl538:((x1.prods.length:Int):Int).toNat≤n660),G (Yif w F r) [.code Yol,.inLoop Yol,.inBlock 2,.code Yrs] [(1,.pointer (some ⟨gb14,0,none⟩)),(2,.pointer (some ⟨gb16,0,none⟩)),(3,.pointer (some ⟨gb44,0,none⟩)),(5,.int .i64 x656)] [Yi4 Yh7 (w.heap.size) none x657 cs662 bs658,.box gb44 26 [.slice A80 (((x1.terms.length:Int):Int).toNat) c82,.slice A85 (((x1.syms.length:Int):Int).toNat) c87,.slice A659 (((x1.prods.length:Int):Int).toNat) c661],.own (.slice A80 n81 c82) 58 2 n81 (x79.flatMap Yg9),.own (.slice A85 n86 c87) 61 2 n86 (x84.flatMap Ygd),.own (.slice A659 n660 c661) 38 2 n660 cs662,.box gb16 26 [.slice none 0 0,.slice none 0 0,.slice none 0 0],.box gb14 26 [.slice A2 n3 c4,.slice A6 n7 c8,.slice A10 n11 c12]] [Sm w.heap.size F w [],St w []]
    intro hl536 hl537 bs658 A659 n660 c661 cs662 h663 hl538
    have h:Yhb x1 x79 x84 x656 x657 o2:=h
    unfold Yhb at h
    refine Yg4 rfl<|Yg4 rfl<|Yfy rfl rfl<|Yfx 0 rfl (Yg1 rfl) gn rfl<|Yfx 1 rfl (Ygb Ygw rfl) gn rfl<|Yfx 2 rfl (Yge 1 Yip rfl rfl rfl) gn rfl<|Yfx 3 rfl (Ygn Ymb rfl (Ow.cut h663 hl538).hq) gn rfl<|Yfx 4 rfl (Ygh rfl rfl rfl) gn rfl<|Yg7 5 rfl ?_
    by_cases hp781:x656 < ((x657.take (((x1.prods.length:Int):Int).toNat)).length:Int)
    ·have h:=Ygg hp781 h
     refine Ygm rfl _ rfl ((decide_eq_true hp781))<|Ygp rfl<|Yg4 rfl<|Ygk rfl ?_
     obtain ⟨hb782,h⟩:=h
     obtain ⟨r793,hv794,h⟩:=h
     obtain ⟨hb804,h⟩:=h
     obtain ⟨x813,hv814,h⟩:=h
     have hns:Region.noSelect (Code.ops q11c44)=true:=by kernel_rfl
     refine Yjr [12] 13 rfl rfl mix rfl (.c 0 rfl (.c 1 rfl .n))<|wfv 0 rfl (Ygb Ygw rfl) gn hns (by kernel_rfl)<|wfv 1 rfl (Yge 1 Yip rfl rfl rfl) gn hns (by kernel_rfl)<|wfv 2 rfl (Yg1 rfl) gn hns (by kernel_rfl)<|wfv 3 rfl (Ygb Ygw rfl) gn hns (by kernel_rfl)<|wfv 4 rfl (Yge 6 Yip rfl rfl rfl) gn hns (by kernel_rfl)<|wfv 5 rfl (Yg1 rfl) gn hns (by kernel_rfl) ?_
     obtain ⟨ce859,hK860,hr858⟩:=Rw.read (s:=St w []) h13 hb782
     obtain ⟨A861,n862,c863,rfl,h864⟩:=hK860
     refine wfv 6 rfl (Yht (s:=St w []) Yj6 rfl rfl h13 hb782) gn hns (by kernel_rfl)<|wfv 7 rfl (Yjh Yke rfl) gn hns (by kernel_rfl)<|wfv 8 rfl (Yjt (kk:=(x656:Int).toNat * 2) (j:=1) (St w []) Ymv rfl hr858 rfl (me 1 rfl)) gn hns (by kernel_rfl) ?_
     refine Yk4 [9] (by kernel_rfl) rfl ⟨on_s 9 rfl gn rfl (Yhy [.slice A861 n862 c863] rfl Try.func12 rfl rfl rfl fun w876 hL877=>?_),trivial⟩
     have hp878:=pmI hL877 .n (.c 0 rfl (.c 1 rfl (.c 2 rfl (.c 3 rfl (.c 4 rfl (.c 5 rfl (.c 6 rfl .n))))))) (by kernel_rfl)
     refine Calls.mono (Yl3 w876 (Fl ([]:List Ygl)) ((ix x1.prods x656).rhs) A861 n862 c863 (Rw.mono h864 (hL877.toSt hp878 (me 1 rfl))) (hL877.hFl hp878 (Yj0 [] rfl)) (hL877.into hp878 _) r793 hv794) ?_
     rintro _ w884 ⟨A879,n880,c881,rfl,hM885,h882,hk883⟩
     have hL886:=hL877.call hp878 hM885
     refine ⟨_,_,_,rfl,hL886,?_⟩
     refine ⟨Yj0 [1,2,3,4,5,6,7] rfl,Yj0 [0,1] rfl,?_⟩
     have hb887:0≤x656∧x656 < (x657.length:Int):=by have q:=hb804; have q2:=List.length_take_le' (((x1.prods.length:Int):Int).toNat) x657; omega
     refine Yo5 (fk:=Yh7) (z:=w.heap.size) (j:=1) rfl hb887 fun A888 n889 c890 h891 ht892 hg893=>?_
     have hle894:(ix x657 x656).2≤n889:=Nat.le_trans (show (ix x657 x656).2≤(((ix x657 x656).1).rhs).length from ht892.2.2) (Nat.le_of_eq h891.hq.symm)
     refine wfv 10 rfl (Yn6 Yj6 rfl rfl (Ow.cut h663 hl538) hb804) gn hns (by kernel_rfl)<|wfv 11 rfl (Yjh Yke rfl) gn hns (by kernel_rfl) ?_
     refine Yk4 [12] (by kernel_rfl) rfl ⟨Yp9 12 rfl gn rfl (Yto (fk:=Yh7) (z:=w.heap.size) (off:=1) (vs:=[.slice A879 r793.2 c881]) (A1:=A888) (n1:=n889) (c1:=c890) (q:=x656) 5 1 0 rfl rfl rfl sz_27 rfl rfl rfl h663 rfl (.inl rfl) rfl hb887 ({ ((ix x657 x656).1) with rhs:=r793.1 },r793.2) (Ow.weak hL877.env.size h882) rfl rfl rfl rfl ht892 rfl (by show r793.2≤r793.1.length; rw [← (Ow.weak hL877.env.size h882).hq]; exact hk883) rfl hv814 fun cs895 bs896 h897=>?_),trivial⟩
     unfold NxL
     refine Ykm (by kernel_rfl)<|Ygo<|Yfy rfl rfl<|Yfx 0 rfl (Yg1 rfl) gn rfl<|Yfx 1 rfl (Ygh rfl rfl rfl) gn rfl<|Yfx 2 rfl (Yg3 rfl) gn rfl<|Yg7 3 rfl<|Ygt ?_
     have ih:=Out.inl hO2 h
     exact Yhq [0,1] (ih hl536 hl537 bs896 A659 n660 c661 cs895 h897 hl538) ⟨rfl,rfl,rfl,rfl,trivial⟩ (.cons_cons _ (.cons_cons _ (.cons_cons _ (.cons_cons _ (.cons_cons _ (.cons_cons _ (.cons_cons _ (.slnil)))))))) rfl
    ·have h:=Ygf hp781 h
     refine Ygj rfl _ rfl ((decide_eq_false hp781))<|Yit [.code Yrs] rfl rfl<|Yg4 rfl<|Yfy rfl rfl<|Yfx 0 rfl (Ykb [.slice A80 (((x1.terms.length:Int):Int).toNat) c82,.slice A85 (((x1.syms.length:Int):Int).toNat) c87,.slice A659 (((x1.prods.length:Int):Int).toNat) c661] 1 Yk6 rfl rfl rfl rfl) gn rfl ?_
     refine Yh3 1 rfl (Ylp (vs:=[.slice A80 (((x1.terms.length:Int):Int).toNat) c82,.slice A85 (((x1.syms.length:Int):Int).toNat) c87,.slice A659 (((x1.prods.length:Int):Int).toNat) c661]) (cs':=[.slice A80 (((x1.terms.length:Int):Int).toNat) c82,.slice A85 (((x1.syms.length:Int):Int).toNat) c87,.slice A659 (((x1.prods.length:Int):Int).toNat) c661]) (M':=[Yi4 Yh7 (w.heap.size) none x657 cs662 bs658,.box gb44 26 [.slice A80 (((x1.terms.length:Int):Int).toNat) c82,.slice A85 (((x1.syms.length:Int):Int).toNat) c87,.slice A659 (((x1.prods.length:Int):Int).toNat) c661],.own (.slice A80 n81 c82) 58 2 n81 (x79.flatMap Yg9),.own (.slice A85 n86 c87) 61 2 n86 (x84.flatMap Ygd),.own (.slice A659 n660 c661) 38 2 n660 cs662,.box gb16 26 [.slice A80 (((x1.terms.length:Int):Int).toNat) c82,.slice A85 (((x1.syms.length:Int):Int).toNat) c87,.slice A659 (((x1.prods.length:Int):Int).toNat) c661],.box gb14 26 [.slice A2 n3 c4,.slice A6 n7 c8,.slice A10 n11 c12]]) 5 Yss rfl rfl rfl rfl rfl rfl rfl rfl rfl ?_) gn
     refine Yg7 2 rfl ?_
     have h:=Out.inr hO2 h
     have h:=Out.inr hO1 h
     refine Ygu [.agg #[.slice A80 (((x1.terms.length:Int):Int).toNat) c82,.slice A85 (((x1.syms.length:Int):Int).toNat) c87,.slice A659 (((x1.prods.length:Int):Int).toNat) c661]] rfl Try.func11 rfl (.cell (cs:=[.slice A80 (((x1.terms.length:Int):Int).toNat) c82,.slice A85 (((x1.syms.length:Int):Int).toNat) c87,.slice A659 (((x1.prods.length:Int):Int).toNat) c661]) (us:=[.slice A80 (((x1.terms.length:Int):Int).toNat) c82,.slice A85 (((x1.syms.length:Int):Int).toNat) c87,.slice A659 (((x1.prods.length:Int):Int).toNat) c661]) 5 rfl Yk6 rfl rfl rfl (.nil)) fun wr hLr=>?_
     have hMr:=hLr.pkI (.c 2 rfl (.c 3 rfl (.c 4 rfl (.c 0 rfl .n)))) (.c 1 rfl (.c 5 rfl (.c 6 rfl .n))) (by kernel_rfl) (.c 1 rfl .n)
     show Yl6 w F  r (.returned (Yhi [.agg #[.slice A80 (((x1.terms.length:Int):Int).toNat) c82,.slice A85 (((x1.syms.length:Int):Int).toNat) c87,.slice A659 (((x1.prods.length:Int):Int).toNat) c661]])) wr
     rw [h]
     exact ⟨A80,n81,c82,A85,n86,c87,A659,n660,c661,cs662,bs658,rfl,hMr,h83,hl536,h88,hl537,h663,hl538⟩
   exact Yhq [0,1] (key2 _ h hle530 hle532 bs90 A91 n92 c93 cs94 h95 hle534) ⟨rfl,rfl,rfl,rfl,trivial⟩ (.cons_cons _ (.cons_cons _ (.cons_cons _ (.cons_cons _ (.cons_cons _ (.cons_cons _ (.cons_cons _ (.slnil)))))))) rfl
 refine Yh2 6 rfl<|Yh2 6 rfl<|Yh2 5 rfl<|Yh2 5 rfl<|Yh2 5 rfl<|Yh2 5 rfl<|Yh2 6 rfl ?_
 exact Yhq [0,1] (key1 _ h A23 n24 c25 (Ow.weak hL19.env.size h26) A28 n29 c30 (Ow.weak hL19.env.size h31) bs38 A33 n34 c35 cs37 (Ow.w (Ow.weak hL19.env.size h36) (List.length_map _))) ⟨rfl,rfl,rfl,rfl,trivial⟩ (.cons_cons _ (.cons_cons _ (.cons_cons _ (.cons_cons _ (.cons_cons _ (.cons_cons _ (.cons_cons _ (.slnil)))))))) rfl
noncomputable abbrev q32c4:=Code.snd (Code.snd (Yhf Try.f32))
noncomputable abbrev Yrj:=Code.fst (Code.fst (Code.snd (Code.fst (Code.snd (Yhf Try.f32)))))
abbrev Ykr (w:World) (F:Nat→Prop) (r:Bool):Ending→World→Prop:=fun e w'=>e=.returned (.bool r)∧B.Loc w w' [] [St w []]
noncomputable abbrev Yle (w:World) (F:Nat→Prop) (r:Bool):Cx:=⟨Try.prog,32,Try.f32,29,Ykr w F  r,w⟩
theorem Yme (w:World) (F:Nat→Prop) (x1:Yfz) (x14:List Yg6) (A2:Option Addr) (n3:Nat) (c4:Nat) (A6:Option Addr) (n7:Nat) (c8:Nat) (A10:Option Addr) (n11:Nat) (c12:Nat) (A15:Option Addr) (n16:Nat) (c17:Nat) (h5:Rw Ygi w (St w []).av A2 n3 c4 x1.terms) (h9:Rw Yh1 w (St w []).av A6 n7 c8 x1.syms) (h13:Rw Ygs w (St w []).av A10 n11 c12 x1.prods) (h18:Rw Yh0 w (St w []).av A15 n16 c17 x14) (hF:∀ b,F b→b < w.heap.size∧∀ o ∈ ([]:List (List Nat)),b ∉ o) (hL0:B.Loc w w [] [Sm w.heap.size F w [],St w []]) (r:Bool) (h:Yks x1 x14 r):Calls Try.prog 32 #[.agg #[.slice A2 n3 c4,.slice A6 n7 c8,.slice A10 n11 c12],.slice A15 n16 c17] w (Ykr w F  r):=by
 unfold Yks at h
 refine Ygx (vs:=[.agg #[.slice A2 n3 c4,.slice A6 n7 c8,.slice A10 n11 c12],.slice A15 n16 c17]) 29 Try.func32 rfl Try.ntmps32 rfl hL0 ?_
 show G (Yle w F r) _ _ _ _
 refine Yg4 rfl<|Yfy rfl rfl ?_
 refine Yh3 0 rfl (Ym6 [.slice A2 n3 c4,.slice A6 n7 c8,.slice A10 n11 c12] rfl rfl rfl fun gb19=>?_) gn
 refine Yfx 1 rfl (Yg3 rfl) gn rfl<|Yg7 2 rfl<|Yg4 rfl<|Yg4 rfl<|Yfy rfl rfl<|Yfx 0 rfl (Yg1 rfl) gn rfl<|Yfx 1 rfl (Ygn Ym9 rfl h18.hq) gn rfl<|Yfx 2 rfl (Yg1 rfl) gn rfl<|Yg7 3 rfl<|Ygk rfl<|Yiu rfl ?_
 have key1:∀ s,Yga (fun (s:Int) o=>Ykg x14 x1 s o) s r→(fun (s:Int)=>∀ (_:Unit),G (Yle w F r) [.code Yrj,.inLoop Yrj,.inBlock 0,.code q32c4] [(2,.pointer (some ⟨gb19,0,none⟩)),(7,.slice A15 n16 c17),(8,.int .i64 (x14.length:Int)),(9,.int .i64 s)] [.box gb19 26 [.slice A2 n3 c4,.slice A6 n7 c8,.slice A10 n11 c12]] [Sm w.heap.size F w [],St w []]) s:=by
  intro s hs
  refine Yga.ind (mot:=(fun (s:Int)=>∀ (_:Unit),G (Yle w F r) [.code Yrj,.inLoop Yrj,.inBlock 0,.code q32c4] [(2,.pointer (some ⟨gb19,0,none⟩)),(7,.slice A15 n16 c17),(8,.int .i64 (x14.length:Int)),(9,.int .i64 s)] [.box gb19 26 [.slice A2 n3 c4,.slice A6 n7 c8,.slice A10 n11 c12]] [Sm w.heap.size F w [],St w []])) ?_ hs
  clear hs s
  intro x29 o1 h hO1
  show ∀ (_:Unit),G (Yle w F r) [.code Yrj,.inLoop Yrj,.inBlock 0,.code q32c4] [(2,.pointer (some ⟨gb19,0,none⟩)),(7,.slice A15 n16 c17),(8,.int .i64 (x14.length:Int)),(9,.int .i64 x29)] [.box gb19 26 [.slice A2 n3 c4,.slice A6 n7 c8,.slice A10 n11 c12]] [Sm w.heap.size F w [],St w []]
  intro _
  have h:Ykg x14 x1 x29 o1:=h
  unfold Ykg at h
  refine Yg4 rfl<|Yfy rfl rfl<|Yfx 0 rfl (Ygh rfl rfl rfl) gn rfl<|Yg7 1 rfl<|Yg4 rfl ?_
  by_cases hp37:x29 < (x14.length:Int)
  ·have h:=Ygg hp37 h
   refine Ygm rfl _ rfl ((decide_eq_true hp37))<|Ygp rfl<|Yg4 rfl<|Ygk rfl<|Yg4 rfl<|Yfy rfl rfl ?_
   obtain ⟨hb38,h⟩:=h
   have hr39:=Rw.readF (s:=St w []) (hl:=Yi0) (h1:=Yig) h18 hb38
   refine Yfx 0 rfl (Yht (s:=St w []) Yl7 rfl rfl h18 hb38) gn rfl<|Yfx 1 rfl (Ylx (St w []) Yr1 rfl hr39 rfl (me 1 rfl)) gn rfl ?_
   refine Yh3 2 rfl (Ykd [.int .i64 0,.string (⟨#[]⟩:ByteArray),.string (⟨#[]⟩:ByteArray)] zr_36 rfl fun gb40=>?_) gn
   refine Yh3 3 rfl (Ylp (vs:=[.int .i64 ((ix x14 x29).sym),.string ((ix x14 x29).field),.string ((ix x14 x29).as)]) (cs':=[.int .i64 ((ix x14 x29).sym),.string ((ix x14 x29).field),.string ((ix x14 x29).as)]) (M':=[.box gb40 36 [.int .i64 ((ix x14 x29).sym),.string ((ix x14 x29).field),.string ((ix x14 x29).as)],.box gb19 26 [.slice A2 n3 c4,.slice A6 n7 c8,.slice A10 n11 c12]]) 0 sz_36 rfl rfl rfl rfl rfl rfl rfl rfl rfl ?_) gn
   refine Yg7 4 rfl<|Yg4 rfl<|Yfy rfl rfl<|Yfx 0 rfl (Ygb Ymf rfl) gn rfl<|Yfx 1 rfl (Yge 0 Ym5 rfl rfl rfl) gn rfl<|Yfx 2 rfl (Ygh rfl rfl rfl) gn rfl<|Yfx 3 rfl (Yg1 rfl) gn rfl ?_
   by_cases hp42:(ix x14 x29).sym < 0
   ·have h:=Ygg hp42 h
    refine Yhr 16 rfl ((decide_eq_true hp42))<|Yg5 4 rfl (ps 16 rfl rfl rfl)<|Yg5 5 rfl (ps 16 rfl rfl rfl)<|Yg5 6 rfl (ps 16 rfl rfl rfl)<|Yg5 7 rfl (ps 16 rfl rfl rfl)<|Yg5 8 rfl (ps 16 rfl rfl rfl)<|Yg5 9 rfl (ps 16 rfl rfl rfl)<|Yg5 10 rfl (ps 16 rfl rfl rfl)<|Yg5 11 rfl (ps 16 rfl rfl rfl)<|Yg5 12 rfl (ps 16 rfl rfl rfl)<|Yg5 13 rfl (ps 16 rfl rfl rfl)<|Yfx 14 rfl (Ygv (b:=true) rfl rfl) gn rfl ?_
    refine Yg7 15 rfl<|Ygm rfl _ rfl (rfl)<|Yg4 rfl<|Yfy rfl rfl<|Yfx 0 rfl (Yg3 rfl) gn rfl<|Yg7 1 rfl ?_
    have h:=Out.inr hO1 h
    refine Ygu [.bool false] rfl Try.func32 rfl (.tmp rfl (.nil)) fun wr hLr=>?_
    have hMr:=hLr.pk0 (.c 1 rfl .n)
    show Ykr w F  r (.returned (Yhi [.bool false])) wr
    rw [h]
    exact ⟨rfl,hMr⟩
   ·have h:=Ygf hp42 h
    refine Yhr 16 rfl ((decide_eq_false hp42))<|Yfx 4 rfl (Ygb Ymf rfl) (gy 16 rfl rfl) rfl<|Yfx 5 rfl (Yge 0 Ym5 rfl rfl rfl) (gy 16 rfl rfl) rfl<|Yfx 6 rfl (Ygb Yi3 rfl) (gy 16 rfl rfl) rfl<|Yfx 7 rfl (Yge 1 Ykl rfl rfl rfl) (gy 16 rfl rfl) rfl<|Yfx 8 rfl (Ygn Ylt rfl h5.hq) (gy 16 rfl rfl) rfl<|Yfx 9 rfl (Ygb Yih rfl) (gy 16 rfl rfl) rfl<|Yfx 10 rfl (Yge 1 Yl1 rfl rfl rfl) (gy 16 rfl rfl) rfl<|Yfx 11 rfl (Ygn Ymd rfl h9.hq) (gy 16 rfl rfl) rfl<|Yfx 12 rfl (Ygh rfl rfl rfl) (gy 16 rfl rfl) rfl<|Yfx 13 rfl (Ygh rfl rfl rfl) (gy 16 rfl rfl) rfl<|Yfx 14 rfl (Ygv (b:=false) rfl rfl) gn rfl ?_
    refine Yg7 15 rfl ?_
    by_cases hp43:(ix x14 x29).sym≥w64 ((x1.terms.length:Int) + (x1.syms.length:Int))
    ·have h:=Ygg hp43 h
     refine Ygm rfl _ rfl ((decide_eq_true hp43))<|Yg4 rfl<|Yfy rfl rfl<|Yfx 0 rfl (Yg3 rfl) gn rfl<|Yg7 1 rfl ?_
     have h:=Out.inr hO1 h
     refine Ygu [.bool false] rfl Try.func32 rfl (.tmp rfl (.nil)) fun wr hLr=>?_
     have hMr:=hLr.pk0 (.c 1 rfl .n)
     show Ykr w F  r (.returned (Yhi [.bool false])) wr
     rw [h]
     exact ⟨rfl,hMr⟩
    ·have h:=Ygf hp43 h
     refine Ygj rfl _ rfl ((decide_eq_false hp43))<|Ygp rfl<|Ygo<|Yfy rfl rfl<|Yfx 0 rfl (Ygh rfl rfl rfl) gn rfl<|Yfx 1 rfl (Yg1 rfl) gn rfl<|Yg7 2 rfl<|Ygt ?_
     have ih:=Out.inl hO1 h
     exact Yhq [0,1] (ih ()) ⟨rfl,rfl,rfl,rfl,trivial⟩ (.cons _ (.cons_cons _ (.slnil))) rfl
  ·have h:=Ygf hp37 h
   refine Ygj rfl _ rfl ((decide_eq_false hp37))<|Yit [.code q32c4] rfl rfl<|Yg4 rfl<|Yfy rfl rfl<|Yfx 0 rfl (Yg3 rfl) gn rfl<|Yg7 1 rfl ?_
   have h:=Out.inr hO1 h
   refine Ygu [.bool true] rfl Try.func32 rfl (.tmp rfl (.nil)) fun wr hLr=>?_
   have hMr:=hLr.pk0 (.c 1 rfl .n)
   show Ykr w F  r (.returned (Yhi [.bool true])) wr
   rw [h]
   exact ⟨rfl,hMr⟩
 exact Yhq [0,1] (key1 _ h ()) ⟨rfl,rfl,rfl,rfl,trivial⟩ (.cons_cons _ (.slnil)) rfl
noncomputable abbrev q31c6:=Code.snd (Code.snd (Code.snd (Yhf Try.f31)))
noncomputable abbrev q31c8:=Code.snd (Code.fst (Code.snd (Code.snd (Yhf Try.f31))))
noncomputable abbrev Ysa:=Code.snd q31c6
noncomputable abbrev Yp5:=Code.fst (Code.fst (Code.snd (Code.fst q31c6)))
abbrev Yka (w:World) (F:Nat→Prop) (r:Bool):Ending→World→Prop:=fun e w'=>e=.returned (.bool r)∧B.Loc w w' [] [St w []]
noncomputable abbrev Yld (w:World) (F:Nat→Prop) (r:Bool):Cx:=⟨Try.prog,31,Try.f31,47,Yka w F  r,w⟩
theorem Yoq (w:World) (F:Nat→Prop) (x1:Yfz) (A2:Option Addr) (n3:Nat) (c4:Nat) (A6:Option Addr) (n7:Nat) (c8:Nat) (A10:Option Addr) (n11:Nat) (c12:Nat) (h5:Rw Ygi w (St w []).av A2 n3 c4 x1.terms) (h9:Rw Yh1 w (St w []).av A6 n7 c8 x1.syms) (h13:Rw Ygs w (St w []).av A10 n11 c12 x1.prods) (hF:∀ b,F b→b < w.heap.size∧∀ o ∈ ([]:List (List Nat)),b ∉ o) (hL0:B.Loc w w [] [Sm w.heap.size F w [],St w []]) (r:Bool) (h:Ym2 x1 r):Calls Try.prog 31 #[.agg #[.slice A2 n3 c4,.slice A6 n7 c8,.slice A10 n11 c12]] w (Yka w F  r):=by
 unfold Ym2 at h
 refine Ygx (vs:=[.agg #[.slice A2 n3 c4,.slice A6 n7 c8,.slice A10 n11 c12]]) 47 Try.func31 rfl Try.ntmps31 rfl hL0 ?_
 show G (Yld w F r) _ _ _ _
 refine Yg4 rfl<|Yfy rfl rfl ?_
 refine Yh3 0 rfl (Ym6 [.slice A2 n3 c4,.slice A6 n7 c8,.slice A10 n11 c12] rfl rfl rfl fun gb14=>?_) gn
 refine Yfx 1 rfl (Yg3 rfl) gn rfl<|Yg7 2 rfl<|Yg4 rfl<|Yfy rfl rfl<|Yfx 0 rfl (Ygb Yi3 rfl) gn rfl<|Yfx 1 rfl (Yge 0 Ykl rfl rfl rfl) gn rfl<|Yfx 2 rfl (Ygn Ylt rfl h5.hq) gn rfl<|Yfx 3 rfl (Yg3 rfl) gn rfl<|Yg7 4 rfl<|Yg4 rfl<|Yg4 rfl ?_
 have j1:∀ (x19:Bool) (h:Ykk x1 x19 r) ,G (Yld w F r) [.code q31c8,.code q31c6] [(1,.pointer (some ⟨gb14,0,none⟩)),(20,.bool x19)] [.box gb14 26 [.slice A2 n3 c4,.slice A6 n7 c8,.slice A10 n11 c12]] [Sm w.heap.size F w [],St w []]:=by
  intro x19 h
  unfold Ykk at h
  by_cases hp20:x19=true
  ·have h:=Ygg hp20 h
   refine Ygm rfl _ rfl (hp20)<|Yg4 rfl<|Yfy rfl rfl<|Yfx 0 rfl (Yg3 rfl) gn rfl<|Yg7 1 rfl ?_
   refine Ygu [.bool false] rfl Try.func31 rfl (.tmp rfl (.nil)) fun wr hLr=>?_
   have hMr:=hLr.pk0 (.c 1 rfl .n)
   show Yka w F  r (.returned (Yhi [.bool false])) wr
   rw [h]
   exact ⟨rfl,hMr⟩
  ·have h:=Ygf hp20 h
   refine Ygj rfl _ rfl ((bf hp20))<|Ygp rfl<|Yg4 rfl<|Yg4 rfl<|Yfy rfl rfl<|Yfx 0 rfl (Ygb Ygw rfl) gn rfl<|Yfx 1 rfl (Yge 0 Yip rfl rfl rfl) gn rfl<|Yfx 2 rfl (Ygn Ymb rfl h13.hq) gn rfl<|Yfx 3 rfl (Yg1 rfl) gn rfl<|Yg7 4 rfl<|Ygk rfl<|Yiu rfl ?_
   have key2:∀ s,Yga (fun (s:Int) o=>Ykh x1 s o) s r→(fun (s:Int)=>∀ (_:Unit),G (Yld w F r) [.code Yp5,.inLoop Yp5,.inBlock 0,.code Ysa] [(1,.pointer (some ⟨gb14,0,none⟩)),(22,.slice A10 n11 c12),(23,.int .i64 (x1.prods.length:Int)),(24,.int .i64 s)] [.box gb14 26 [.slice A2 n3 c4,.slice A6 n7 c8,.slice A10 n11 c12]] [Sm w.heap.size F w [],St w []]) s:=by
    intro s hs
    refine Yga.ind (mot:=(fun (s:Int)=>∀ (_:Unit),G (Yld w F r) [.code Yp5,.inLoop Yp5,.inBlock 0,.code Ysa] [(1,.pointer (some ⟨gb14,0,none⟩)),(22,.slice A10 n11 c12),(23,.int .i64 (x1.prods.length:Int)),(24,.int .i64 s)] [.box gb14 26 [.slice A2 n3 c4,.slice A6 n7 c8,.slice A10 n11 c12]] [Sm w.heap.size F w [],St w []])) ?_ hs
    clear hs s
    intro x44 o1 h hO1
    show ∀ (_:Unit),G (Yld w F r) [.code Yp5,.inLoop Yp5,.inBlock 0,.code Ysa] [(1,.pointer (some ⟨gb14,0,none⟩)),(22,.slice A10 n11 c12),(23,.int .i64 (x1.prods.length:Int)),(24,.int .i64 x44)] [.box gb14 26 [.slice A2 n3 c4,.slice A6 n7 c8,.slice A10 n11 c12]] [Sm w.heap.size F w [],St w []]
    intro _
    have h:Ykh x1 x44 o1:=h
    unfold Ykh at h
    refine Yg4 rfl<|Yfy rfl rfl<|Yfx 0 rfl (Ygh rfl rfl rfl) gn rfl<|Yg7 1 rfl<|Yg4 rfl ?_
    by_cases hp67:x44 < (x1.prods.length:Int)
    ·have h:=Ygg hp67 h
     refine Ygm rfl _ rfl ((decide_eq_true hp67))<|Ygp rfl<|Yg4 rfl<|Ygk rfl<|Yg4 rfl<|Yfy rfl rfl ?_
     obtain ⟨hb68,h⟩:=h
     obtain ⟨ce70,hK71,hr69⟩:=Rw.read (s:=St w []) h13 hb68
     obtain ⟨A72,n73,c74,rfl,h75⟩:=hK71
     refine Yfx 0 rfl (Yht (s:=St w []) Yj6 rfl rfl h13 hb68) gn rfl<|Yfx 1 rfl (Ylx (St w []) ld_38 rfl hr69 rfl (me 1 rfl)) gn rfl ?_
     refine Yh3 2 rfl (Ykd [.int .i64 0,.slice none 0 0] zr_38 rfl fun gb76=>?_) gn
     refine Yh3 3 rfl (Ylp (vs:=[.int .i64 ((ix x1.prods x44).lhs),.slice A72 n73 c74]) (cs':=[.int .i64 ((ix x1.prods x44).lhs),.slice A72 n73 c74]) (M':=[.box gb76 38 [.int .i64 ((ix x1.prods x44).lhs),.slice A72 n73 c74],.box gb14 26 [.slice A2 n3 c4,.slice A6 n7 c8,.slice A10 n11 c12]]) 0 sz_38 rfl rfl rfl rfl rfl rfl rfl rfl rfl ?_) gn
     refine Yg7 4 rfl<|Yg4 rfl<|Yfy rfl rfl<|Yfx 0 rfl (Ygb Yk7 rfl) gn rfl<|Yfx 1 rfl (Yge 0 Ym5 rfl rfl rfl) gn rfl<|Yfx 2 rfl (Ygh rfl rfl rfl) gn rfl<|Yfx 3 rfl (Yg1 rfl) gn rfl ?_
     by_cases hp78:(ix x1.prods x44).lhs < -1
     ·have h:=Ygg hp78 h
      refine Yhr 31 rfl ((decide_eq_true hp78))<|Yg5 4 rfl (ps 31 rfl rfl rfl)<|Yg5 5 rfl (ps 31 rfl rfl rfl)<|Yg5 6 rfl (ps 31 rfl rfl rfl)<|Yg5 7 rfl (ps 31 rfl rfl rfl)<|Yg5 8 rfl (ps 31 rfl rfl rfl)<|Yg5 9 rfl (ps 31 rfl rfl rfl)<|Yfx 10 rfl (Ygv (b:=true) rfl rfl) gn rfl<|Yfx 11 rfl (Yg1 rfl) gn rfl<|Yg5 12 rfl (ps 39 rfl rfl rfl)<|Yg5 13 rfl (ps 39 rfl rfl rfl)<|Yg5 14 rfl (ps 39 rfl rfl rfl) ?_
      refine Yg5 15 rfl (ps 39 rfl rfl rfl)<|Yg5 16 rfl (ps 39 rfl rfl rfl)<|Yfx 17 rfl (Ygv (b:=true) rfl rfl) gn rfl<|Yg7 18 rfl<|Ygm rfl _ rfl (rfl)<|Yg4 rfl<|Yfy rfl rfl<|Yfx 0 rfl (Yg3 rfl) gn rfl<|Yg7 1 rfl ?_
      have h:=Out.inr hO1 h
      refine Ygu [.bool false] rfl Try.func31 rfl (.tmp rfl (.nil)) fun wr hLr=>?_
      have hMr:=hLr.pk0 (.c 1 rfl .n)
      show Yka w F  r (.returned (Yhi [.bool false])) wr
      rw [h]
      exact ⟨rfl,hMr⟩
     ·have h:=Ygf hp78 h
      refine Yhr 31 rfl ((decide_eq_false hp78))<|Yfx 4 rfl (Ygb Yk7 rfl) (gy 31 rfl rfl) rfl<|Yfx 5 rfl (Yge 0 Ym5 rfl rfl rfl) (gy 31 rfl rfl) rfl<|Yfx 6 rfl (Ygb Yih rfl) (gy 31 rfl rfl) rfl<|Yfx 7 rfl (Yge 1 Yl1 rfl rfl rfl) (gy 31 rfl rfl) rfl<|Yfx 8 rfl (Ygn Ymd rfl h9.hq) (gy 31 rfl rfl) rfl<|Yfx 9 rfl (Ygh rfl rfl rfl) (gy 31 rfl rfl) rfl<|Yfx 10 rfl (Ygv (b:=false) rfl rfl) gn rfl<|Yfx 11 rfl (Yg1 rfl) gn rfl ?_
      by_cases hp79:(ix x1.prods x44).lhs≥(x1.syms.length:Int)
      ·have h:=Ygg hp79 h
       refine Yhr 39 rfl ((decide_eq_true hp79))<|Yg5 12 rfl (ps 39 rfl rfl rfl)<|Yg5 13 rfl (ps 39 rfl rfl rfl)<|Yg5 14 rfl (ps 39 rfl rfl rfl)<|Yg5 15 rfl (ps 39 rfl rfl rfl)<|Yg5 16 rfl (ps 39 rfl rfl rfl)<|Yfx 17 rfl (Ygv (b:=true) rfl rfl) gn rfl<|Yg7 18 rfl<|Ygm rfl _ rfl (rfl)<|Yg4 rfl<|Yfy rfl rfl<|Yfx 0 rfl (Yg3 rfl) gn rfl ?_
       refine Yg7 1 rfl ?_
       have h:=Out.inr hO1 h
       refine Ygu [.bool false] rfl Try.func31 rfl (.tmp rfl (.nil)) fun wr hLr=>?_
       have hMr:=hLr.pk0 (.c 1 rfl .n)
       show Yka w F  r (.returned (Yhi [.bool false])) wr
       rw [h]
       exact ⟨rfl,hMr⟩
      ·have h:=Ygf hp79 h
       refine Yhr 39 rfl ((decide_eq_false hp79))<|Yfx 12 rfl (Ykb [.slice A2 n3 c4,.slice A6 n7 c8,.slice A10 n11 c12] 1 Yk6 rfl rfl rfl rfl) (gy 39 rfl rfl) rfl<|Yfx 13 rfl (Ygb Yke rfl) (gy 39 rfl rfl) rfl<|Yfx 14 rfl (Yge 0 Ymv rfl rfl rfl) (gy 39 rfl rfl) rfl ?_
       obtain ⟨r83,hv84,h⟩:=h
       refine Yh3 15 rfl (Yhy [.agg #[.slice A2 n3 c4,.slice A6 n7 c8,.slice A10 n11 c12],.slice A72 n73 c74] rfl Try.func32 rfl rfl rfl fun w80 hL81=>?_) (gy 39 rfl rfl)
       have hp82:=pmI hL81 .n (.c 0 rfl (.c 1 rfl .n)) (by kernel_rfl)
       refine Calls.mono (Yme w80 (Fl ([]:List Ygl)) x1 ((ix x1.prods x44).rhs) A2 n3 c4 A6 n7 c8 A10 n11 c12 A72 n73 c74 (Rw.mono h5 (hL81.toSt hp82 (me 1 rfl))) (Rw.mono h9 (hL81.toSt hp82 (me 1 rfl))) (Rw.mono h13 (hL81.toSt hp82 (me 1 rfl))) (Rw.mono h75 (hL81.toSt hp82 (me 1 rfl))) (hL81.hFl hp82 (Yj0 [] rfl)) (hL81.into hp82 _) r83 hv84) ?_
       rintro _ w85 ⟨rfl,hM86⟩
       have hL87:=hL81.call hp82 hM86
       refine ⟨_,_,_,rfl,hL87,?_⟩
       refine Yfx 16 rfl (Ymc rfl) (gy 39 rfl rfl) rfl<|Yfx 17 rfl (Ygv (b:=false) rfl rfl) gn rfl<|Yg7 18 rfl ?_
       by_cases hp88:r83=true
       ·have h:=Ygg hp88 h
        refine Ygj rfl _ rfl ((nf hp88))<|Ygp rfl<|Ygo<|Yfy rfl rfl<|Yfx 0 rfl (Ygh rfl rfl rfl) gn rfl<|Yfx 1 rfl (Yg1 rfl) gn rfl<|Yg7 2 rfl<|Ygt ?_
        have ih:=Out.inl hO1 h
        exact Yhq [0,1] (ih ()) ⟨rfl,rfl,rfl,rfl,trivial⟩ (.cons _ (.cons_cons _ (.slnil))) rfl
       ·have h:=Ygf hp88 h
        refine Ygm rfl _ rfl ((nt (bf hp88)))<|Yg4 rfl<|Yfy rfl rfl<|Yfx 0 rfl (Yg3 rfl) gn rfl<|Yg7 1 rfl ?_
        have h:=Out.inr hO1 h
        refine Ygu [.bool false] rfl Try.func31 rfl (.tmp rfl (.nil)) fun wr hLr=>?_
        have hMr:=hLr.pk0 (.c 1 rfl .n)
        show Yka w F  r (.returned (Yhi [.bool false])) wr
        rw [h]
        exact ⟨rfl,hMr⟩
    ·have h:=Ygf hp67 h
     refine Ygj rfl _ rfl ((decide_eq_false hp67))<|Yit [.code Ysa] rfl rfl<|Yg4 rfl<|Yfy rfl rfl<|Yfx 0 rfl (Yg3 rfl) gn rfl<|Yg7 1 rfl ?_
     have h:=Out.inr hO1 h
     refine Ygu [.bool true] rfl Try.func31 rfl (.tmp rfl (.nil)) fun wr hLr=>?_
     have hMr:=hLr.pk0 (.c 1 rfl .n)
     show Yka w F  r (.returned (Yhi [.bool true])) wr
     rw [h]
     exact ⟨rfl,hMr⟩
   exact Yhq [0,1] (key2 _ h ()) ⟨rfl,rfl,rfl,rfl,trivial⟩ (.cons_cons _ (.slnil)) rfl
 refine Yfy rfl rfl<|Yfx 0 rfl (Yg1 rfl) gn rfl<|Yfx 1 rfl (Ygh rfl rfl rfl) gn rfl<|Yfx 2 rfl (Yg1 rfl) gn rfl ?_
 by_cases hp89:(x1.terms.length:Int) < 1
 ·have h:=Ygg hp89 h
  refine Yhr 11 rfl ((decide_eq_true hp89))<|Yg5 3 rfl (ps 11 rfl rfl rfl)<|Yg5 4 rfl (ps 11 rfl rfl rfl)<|Yfx 5 rfl (Ygv (b:=true) rfl rfl) gn rfl<|Yfx 6 rfl (Yg1 rfl) gn rfl<|Yg5 7 rfl (ps 15 rfl rfl rfl)<|Yg5 8 rfl (ps 15 rfl rfl rfl)<|Yg5 9 rfl (ps 15 rfl rfl rfl)<|Yg5 10 rfl (ps 15 rfl rfl rfl)<|Yfx 11 rfl (Ygv (b:=true) rfl rfl) gn rfl<|Yg7 12 rfl ?_
  exact Yhq [0,1] (j1 true h) ⟨rfl,rfl,trivial⟩ (.cons_cons _ (.slnil)) rfl
 ·have h:=Ygf hp89 h
  refine Yhr 11 rfl ((decide_eq_false hp89))<|Yfx 3 rfl (Yg1 rfl) (gy 11 rfl rfl) rfl<|Yfx 4 rfl (Ygh rfl rfl rfl) (gy 11 rfl rfl) rfl<|Yfx 5 rfl (Ygv (b:=false) rfl rfl) gn rfl<|Yfx 6 rfl (Yg1 rfl) gn rfl ?_
  by_cases hp90:(x1.terms.length:Int) > 64
  ·have h:=Ygg hp90 h
   refine Yhr 15 rfl ((decide_eq_true hp90))<|Yg5 7 rfl (ps 15 rfl rfl rfl)<|Yg5 8 rfl (ps 15 rfl rfl rfl)<|Yg5 9 rfl (ps 15 rfl rfl rfl)<|Yg5 10 rfl (ps 15 rfl rfl rfl)<|Yfx 11 rfl (Ygv (b:=true) rfl rfl) gn rfl<|Yg7 12 rfl ?_
   exact Yhq [0,1] (j1 true h) ⟨rfl,rfl,trivial⟩ (.cons_cons _ (.slnil)) rfl
  ·have h:=Ygf hp90 h
   refine Yhr 15 rfl ((decide_eq_false hp90))<|Yfx 7 rfl (Ygb Yih rfl) (gy 15 rfl rfl) rfl<|Yfx 8 rfl (Yge 0 Yl1 rfl rfl rfl) (gy 15 rfl rfl) rfl<|Yfx 9 rfl (Ygn Ymd rfl h9.hq) (gy 15 rfl rfl) rfl<|Yfx 10 rfl (Ygh rfl rfl rfl) (gy 15 rfl rfl) rfl<|Yfx 11 rfl (Ygv (b:=false) rfl rfl) gn rfl<|Yg7 12 rfl ?_
   exact Yhq [0,1] (j1 (decide ((x1.syms.length:Int) > 128)) h) ⟨rfl,rfl,trivial⟩ (.cons_cons _ (.slnil)) rfl
noncomputable abbrev q34c6:=Code.snd (Code.snd (Code.snd (Yhf Try.f34)))
noncomputable abbrev Ynx:=Code.fst (Code.fst (Code.snd (Code.fst (Code.snd (Code.snd (Yhf Try.f34))))))
noncomputable abbrev q34c22:=Code.fst (Code.snd (Code.fst (Code.fst (Code.snd (Code.snd Ynx)))))
noncomputable abbrev q34c24:=Code.fst (Code.snd (Code.snd (Code.fst (Code.fst (Code.snd (Code.snd Ynx))))))
abbrev Ylg (w:World) (F:Nat→Prop) (g2:Nat) (Tb3:Nat) (r:Int × Bool × Yg0):Ending→World→Prop:=fun e w'=>e=.returned (.tuple #[.int .u64 r.1,.bool r.2.1])∧B.Loc w w' [.box g2 Tb3 (Yg2 r.2.2)] [St w [[g2]]]
noncomputable abbrev Ylf (w:World) (F:Nat→Prop) (g2:Nat) (Tb3:Nat) (r:Int × Bool × Yg0):Cx:=⟨Try.prog,34,Try.f34,35,Ylg w F g2 Tb3 r,w⟩
theorem Yma (w:World) (F:Nat→Prop) (x1:Yg0) (x4:List Yg6) (g2:Nat) (Tb3:Nat) (A5:Option Addr) (n6:Nat) (c7:Nat) (h8:Rw Yh0 w (St w [[g2]]).av A5 n6 c7 x4) (hF:∀ b,F b→b < w.heap.size∧∀ o ∈ ([[g2]]:List (List Nat)),b ∉ o) (hL0:B.Loc w w [.box g2 Tb3 (Yg2 x1)] [Sm w.heap.size F w [[g2]],St w [[g2]]]) (r:Int × Bool × Yg0) (h:Ykt x1 x4 r):Calls Try.prog 34 #[.pointer (some ⟨g2,0,none⟩),.slice A5 n6 c7] w (Ylg w F g2 Tb3 r):=by
 unfold Ykt at h
 refine Ygx (vs:=[.pointer (some ⟨g2,0,none⟩),.slice A5 n6 c7]) 35 Try.func34 rfl Try.ntmps34 rfl hL0 ?_
 show G (Ylf w F g2 Tb3 r) _ _ _ _
 refine Yg4 rfl<|Yfy rfl rfl<|Yfx 0 rfl (Yg3 rfl) gn rfl<|Yfx 1 rfl (Yg3 rfl) gn rfl<|Yg7 2 rfl<|Yg4 rfl<|Yfy rfl rfl<|Yfx 0 rfl (Yg3 rfl) gn rfl<|Yg7 1 rfl<|Yg4 rfl<|Yg4 rfl<|Yfy rfl rfl ?_
 refine Yfx 0 rfl (Yg1 rfl) gn rfl<|Yfx 1 rfl (Ygn Ym9 rfl h8.hq) gn rfl<|Yfx 2 rfl (Yg1 rfl) gn rfl<|Yg7 3 rfl<|Ygk rfl<|Yiu rfl ?_
 have key1:∀ s,Yga (fun (s:Int × Int) o=>Yj8 x4 x1 s.1 s.2 o) s r→(fun (s:Int × Int)=>∀ (_:Unit),G (Ylf w F g2 Tb3 r) [.code Ynx,.inLoop Ynx,.inBlock 0,.code q34c6] [(0,.pointer (some ⟨g2,0,none⟩)),(6,.int .u64 s.1),(9,.slice A5 n6 c7),(10,.int .i64 (x4.length:Int)),(11,.int .i64 s.2)] [.box g2 Tb3 (Yg2 x1)] [Sm w.heap.size F w [[g2]],St w [[g2]]]) s:=by
  intro s hs
  refine Yga.ind (mot:=(fun (s:Int × Int)=>∀ (_:Unit),G (Ylf w F g2 Tb3 r) [.code Ynx,.inLoop Ynx,.inBlock 0,.code q34c6] [(0,.pointer (some ⟨g2,0,none⟩)),(6,.int .u64 s.1),(9,.slice A5 n6 c7),(10,.int .i64 (x4.length:Int)),(11,.int .i64 s.2)] [.box g2 Tb3 (Yg2 x1)] [Sm w.heap.size F w [[g2]],St w [[g2]]])) ?_ hs
  clear hs s
  intro s o1 h hO1
  obtain ⟨x17,x18⟩:=s
  show ∀ (_:Unit),G (Ylf w F g2 Tb3 r) [.code Ynx,.inLoop Ynx,.inBlock 0,.code q34c6] [(0,.pointer (some ⟨g2,0,none⟩)),(6,.int .u64 x17),(9,.slice A5 n6 c7),(10,.int .i64 (x4.length:Int)),(11,.int .i64 x18)] [.box g2 Tb3 (Yg2 x1)] [Sm w.heap.size F w [[g2]],St w [[g2]]]
  intro _
  have h:Yj8 x4 x1 x17 x18 o1:=h
  unfold Yj8 at h
  refine Yg4 rfl<|Yfy rfl rfl<|Yfx 0 rfl (Ygh rfl rfl rfl) gn rfl<|Yg7 1 rfl<|Yg4 rfl ?_
  by_cases hp26:x18 < (x4.length:Int)
  ·have h:=Ygg hp26 h
   refine Ygm rfl _ rfl ((decide_eq_true hp26))<|Ygp rfl<|Yg4 rfl<|Ygk rfl<|Yg4 rfl<|Yfy rfl rfl ?_
   obtain ⟨hb27,h⟩:=h
   have hr28:=Rw.readF (s:=St w [[g2]]) (hl:=Yi0) (h1:=Yig) h8 hb27
   refine Yfx 0 rfl (Yht (s:=St w [[g2]]) Yl7 rfl rfl h8 hb27) gn rfl<|Yfx 1 rfl (Ylx (St w [[g2]]) Yr1 rfl hr28 rfl (me 1 rfl)) gn rfl ?_
   refine Yh3 2 rfl (Ykd [.int .i64 0,.string (⟨#[]⟩:ByteArray),.string (⟨#[]⟩:ByteArray)] zr_36 rfl fun gb29=>?_) gn
   refine Yh3 3 rfl (Ylp (vs:=[.int .i64 ((ix x4 x18).sym),.string ((ix x4 x18).field),.string ((ix x4 x18).as)]) (cs':=[.int .i64 ((ix x4 x18).sym),.string ((ix x4 x18).field),.string ((ix x4 x18).as)]) (M':=[.box gb29 36 [.int .i64 ((ix x4 x18).sym),.string ((ix x4 x18).field),.string ((ix x4 x18).as)],.box g2 Tb3 (Yg2 x1)]) 0 sz_36 rfl rfl rfl rfl rfl rfl rfl rfl rfl ?_) gn
   refine Yg7 4 rfl<|Yg4 rfl ?_
   obtain ⟨hb31,h⟩:=h
   have hns:Region.noSelect (Code.ops q34c22)=true:=by kernel_rfl
   refine Yjr [] 10 rfl rfl mix rfl (.c 0 rfl (.c 1 rfl .n))<|wfv 0 rfl (Yg1 rfl) gn hns rfl<|wfv 1 rfl (Yg1 rfl) gn hns rfl<|wfv 2 rfl (Ygb Ymf rfl) gn hns rfl<|wfv 3 rfl (Yge 0 Ym5 rfl rfl rfl) gn hns rfl<|wfv 4 rfl (Yr3 rfl) gn hns rfl<|wfv 5 rfl (Ygb Yo9 rfl) gn hns rfl<|wfv 6 rfl (Yny ar_64 rfl rfl hb31) gn hns rfl<|wfv 7 rfl (Ys9 1 ld_29 rfl rfl (hp:=(Pt.trans (Yj1 x1 (upd x1.first ((ix x4 x18).sym) (x1.first ((ix x4 x18).sym)))) (Pt.arr (f:=x1.first) (enc:=fun y=>[.int .u64 y]) (fun _=>rfl) hb31 (x1.first ((ix x4 x18).sym))))) rfl) gn hns rfl<|wfv 8 rfl (Ygh rfl rfl rfl) gn hns rfl<|wfv 9 rfl (Yg3 rfl) gn hns rfl<|Ykm (by kernel_rfl) ?_
   refine Yg4 rfl ?_
   have hns:Region.noSelect (Code.ops q34c24)=true:=by kernel_rfl
   refine Yjr [] 8 rfl rfl mix rfl (.c 0 rfl (.c 1 rfl .n))<|wfv 0 rfl (Yg1 rfl) gn hns rfl<|wfv 1 rfl (Ygb Ymf rfl) gn hns rfl<|wfv 2 rfl (Yge 0 Ym5 rfl rfl rfl) gn hns rfl<|wfv 3 rfl (Yr3 rfl) gn hns rfl<|wfv 4 rfl (Ygb Yo3 rfl) gn hns rfl<|wfv 5 rfl (Yny ar_65 rfl rfl hb31) gn hns rfl<|wfv 6 rfl (Ys9 1 ld_4 rfl rfl (hp:=(Pt.trans (Yic x1 (upd x1.vanishes ((ix x4 x18).sym) (x1.vanishes ((ix x4 x18).sym)))) (Pt.arr (f:=x1.vanishes) (enc:=fun y=>[.bool y]) (fun _=>rfl) hb31 (x1.vanishes ((ix x4 x18).sym))))) rfl) gn hns rfl<|wfv 7 rfl (Ymc rfl) gn hns rfl<|Ykm (by kernel_rfl) ?_
   by_cases hp32:(x1.vanishes ((ix x4 x18).sym))=true
   ·have h:=Ygg hp32 h
    refine Ygj rfl _ rfl ((nf hp32))<|Ygp rfl<|Ygo<|Yfy rfl rfl<|Yfx 0 rfl (Ygh rfl rfl rfl) gn rfl<|Yfx 1 rfl (Yg1 rfl) gn rfl<|Yg7 2 rfl<|Ygt ?_
    have ih:=Out.inl hO1 h
    exact Yhq [0,1] (ih ()) ⟨rfl,rfl,rfl,rfl,rfl,trivial⟩ (.cons _ (.cons_cons _ (.slnil))) rfl
   ·have h:=Ygf hp32 h
    refine Ygm rfl _ rfl ((nt (bf hp32)))<|Yg4 rfl<|Yfy rfl rfl<|Yfx 0 rfl (Yg1 rfl) gn rfl<|Yfx 1 rfl (Yg3 rfl) gn rfl<|Yfx 2 rfl (Yg3 rfl) gn rfl<|Yg7 3 rfl ?_
    have h:=Out.inr hO1 h
    refine Ygu [.int .u64 (bits .or .u64 x17 (x1.first ((ix x4 x18).sym))),.bool false] rfl Try.func34 rfl (.tmp rfl (.tmp rfl (.nil))) fun wr hLr=>?_
    have hMr:=hLr.pkI (.c 1 rfl .n) (.c 0 rfl .n) (by kernel_rfl) (.c 1 rfl .n)
    show Ylg w F g2 Tb3 r (.returned (Yhi [.int .u64 (bits .or .u64 x17 (x1.first ((ix x4 x18).sym))),.bool false])) wr
    rw [h]
    exact ⟨rfl,hMr⟩
  ·have h:=Ygf hp26 h
   refine Ygj rfl _ rfl ((decide_eq_false hp26))<|Yit [.code q34c6] rfl rfl<|Yg4 rfl<|Yfy rfl rfl<|Yfx 0 rfl (Yg1 rfl) gn rfl<|Yfx 1 rfl (Yg3 rfl) gn rfl<|Yfx 2 rfl (Yg3 rfl) gn rfl<|Yg7 3 rfl ?_
   have h:=Out.inr hO1 h
   refine Ygu [.int .u64 x17,.bool true] rfl Try.func34 rfl (.tmp rfl (.tmp rfl (.nil))) fun wr hLr=>?_
   have hMr:=hLr.pkI (.c 0 rfl .n) .n (by kernel_rfl) (.c 1 rfl .n)
   show Ylg w F g2 Tb3 r (.returned (Yhi [.int .u64 x17,.bool true])) wr
   rw [h]
   exact ⟨rfl,hMr⟩
 exact Yhq [0,1] (key1 _ h ()) ⟨rfl,rfl,rfl,rfl,rfl,trivial⟩ (.cons_cons _ (.slnil)) rfl
noncomputable abbrev Ysr:=Code.snd (Code.snd (Code.snd (Yhf Try.f33)))
noncomputable abbrev Ypd:=Code.fst (Code.fst (Code.snd (Code.fst (Code.snd (Code.snd (Yhf Try.f33))))))
noncomputable abbrev Ylz:=Code.fst (Code.fst Ysr)
noncomputable abbrev Yqw:=Code.snd (Code.snd (Code.fst Ylz))
noncomputable abbrev Ynv:=Code.fst (Code.fst (Code.snd (Code.fst (Code.snd (Code.fst Ylz)))))
noncomputable abbrev q33c40:=Code.snd (Code.snd (Code.snd Ynv))
abbrev Yn7 (w:World) (F:Nat→Prop) (r:Yg0):Ending→World→Prop:=fun e w'=>e=.returned (.agg (Yg2 r).toArray)∧B.Loc w w' [] [St w []]
noncomputable abbrev Yiv (w:World) (F:Nat→Prop) (r:Yg0):Cx:=⟨Try.prog,33,Try.f33,79,Yn7 w F  r,w⟩
theorem Yox (w:World) (F:Nat→Prop) (x1:Yfz) (A2:Option Addr) (n3:Nat) (c4:Nat) (A6:Option Addr) (n7:Nat) (c8:Nat) (A10:Option Addr) (n11:Nat) (c12:Nat) (h5:Rw Ygi w (St w []).av A2 n3 c4 x1.terms) (h9:Rw Yh1 w (St w []).av A6 n7 c8 x1.syms) (h13:Rw Ygs w (St w []).av A10 n11 c12 x1.prods) (hF:∀ b,F b→b < w.heap.size∧∀ o ∈ ([]:List (List Nat)),b ∉ o) (hL0:B.Loc w w [] [Sm w.heap.size F w [],St w []]) (r:Yg0) (h:Ylo x1 r):Calls Try.prog 33 #[.agg #[.slice A2 n3 c4,.slice A6 n7 c8,.slice A10 n11 c12]] w (Yn7 w F  r):=by
 unfold Ylo at h
 refine Ygx (vs:=[.agg #[.slice A2 n3 c4,.slice A6 n7 c8,.slice A10 n11 c12]]) 79 Try.func33 rfl Try.ntmps33 rfl hL0 ?_
 show G (Yiv w F r) _ _ _ _
 refine Yg4 rfl<|Yfy rfl rfl ?_
 refine Yh3 0 rfl (Ym6 [.slice A2 n3 c4,.slice A6 n7 c8,.slice A10 n11 c12] rfl rfl rfl fun gb14=>?_) gn
 refine Yh3 1 rfl (Ykd (Yg2 (⟨(fun _=>0),(fun _=>false)⟩:Yg0)) zr_67 rfl fun gb16=>?_) gn
 refine Yg7 2 rfl<|Yg4 rfl<|Yfy rfl rfl ?_
 refine Yh3 0 rfl (Ykd (Yg2 (⟨(fun _=>0),(fun _=>false)⟩:Yg0)) zr_67 rfl fun gb18=>?_) gn
 refine Yg7 1 rfl<|Yg4 rfl<|Yg4 rfl<|Yfy rfl rfl<|Yfx 0 rfl (Ygb Yi3 rfl) gn rfl<|Yfx 1 rfl (Yge 2 Ykl rfl rfl rfl) gn rfl<|Yfx 2 rfl (Ygn Ylt rfl h5.hq) gn rfl<|Yfx 3 rfl (Yg1 rfl) gn rfl<|Yg7 4 rfl<|Ygk rfl<|Yiu rfl ?_
 have key1:∀ s,Yga (fun (s:Int × Yg0) o=>Yiw x1 s.1 s.2 o) s r→(fun (s:Int × Yg0)=>∀ (_:Unit),G (Yiv w F r) [.code Ypd,.inLoop Ypd,.inBlock 0,.code Ysr] [(1,.pointer (some ⟨gb14,0,none⟩)),(2,.pointer (some ⟨gb16,0,none⟩)),(3,.pointer (some ⟨gb18,0,none⟩)),(13,.int .i64 (x1.terms.length:Int)),(14,.int .i64 s.1)] [.box gb18 67 (Yg2 s.2),.box gb16 67 (Yg2 (⟨(fun _=>0),(fun _=>false)⟩:Yg0)),.box gb14 26 [.slice A2 n3 c4,.slice A6 n7 c8,.slice A10 n11 c12]] [Sm w.heap.size F w [],St w []]) s:=by
  intro s hs
  refine Yga.ind (mot:=(fun (s:Int × Yg0)=>∀ (_:Unit),G (Yiv w F r) [.code Ypd,.inLoop Ypd,.inBlock 0,.code Ysr] [(1,.pointer (some ⟨gb14,0,none⟩)),(2,.pointer (some ⟨gb16,0,none⟩)),(3,.pointer (some ⟨gb18,0,none⟩)),(13,.int .i64 (x1.terms.length:Int)),(14,.int .i64 s.1)] [.box gb18 67 (Yg2 s.2),.box gb16 67 (Yg2 (⟨(fun _=>0),(fun _=>false)⟩:Yg0)),.box gb14 26 [.slice A2 n3 c4,.slice A6 n7 c8,.slice A10 n11 c12]] [Sm w.heap.size F w [],St w []])) ?_ hs
  clear hs s
  intro s o1 h hO1
  obtain ⟨x372,x373⟩:=s
  show ∀ (_:Unit),G (Yiv w F r) [.code Ypd,.inLoop Ypd,.inBlock 0,.code Ysr] [(1,.pointer (some ⟨gb14,0,none⟩)),(2,.pointer (some ⟨gb16,0,none⟩)),(3,.pointer (some ⟨gb18,0,none⟩)),(13,.int .i64 (x1.terms.length:Int)),(14,.int .i64 x372)] [.box gb18 67 (Yg2 x373),.box gb16 67 (Yg2 (⟨(fun _=>0),(fun _=>false)⟩:Yg0)),.box gb14 26 [.slice A2 n3 c4,.slice A6 n7 c8,.slice A10 n11 c12]] [Sm w.heap.size F w [],St w []]
  intro _
  have h:Yiw x1 x372 x373 o1:=h
  unfold Yiw at h
  refine Yg4 rfl<|Yfy rfl rfl<|Yfx 0 rfl (Ygh rfl rfl rfl) gn rfl<|Yg7 1 rfl<|Yg4 rfl ?_
  by_cases hp726:x372 < (x1.terms.length:Int)
  ·have h:=Ygg hp726 h
   refine Ygm rfl _ rfl ((decide_eq_true hp726))<|Ygp rfl<|Yg4 rfl<|Ygk rfl<|Yg4 rfl<|Yfy rfl rfl<|Yfx 0 rfl (Yg1 rfl) gn rfl<|Yfx 1 rfl (Yg3 rfl) gn rfl<|Yg7 2 rfl<|Yfy rfl rfl<|Yfx 0 rfl (Yg1 rfl) gn rfl<|Yfx 1 rfl (Yg1 rfl) gn rfl ?_
   obtain ⟨hb727,h⟩:=h
   refine Yfx 2 rfl (v_shl rfl rfl hb727) gn rfl<|Yfx 3 rfl (Ygb Yo9 rfl) gn rfl ?_
   obtain ⟨hb728,h⟩:=h
   refine Yfx 4 rfl (Yny ar_64 rfl rfl hb728) gn rfl ?_
   obtain ⟨x729,hv730,h⟩:=h
   refine Yh3 5 rfl (Yov (cs':=(Yg2 x729)) (m:=[.int .u64 (x373.first x372)]) (m':=[.int .u64 (shlV .u64 1 x372)]) 0 sz_29 rfl rfl rfl (by rw [hv730]; exact (Pt.trans (Yj1 x373 (upd x373.first x372 (shlV .u64 1 x372))) (Pt.arr (f:=x373.first) (enc:=fun y=>[.int .u64 y]) (fun _=>rfl) hb728 (shlV .u64 1 x372)))) rfl rfl rfl rfl ?_) gn
   refine Yg7 6 rfl<|Ygo<|Yfy rfl rfl<|Yfx 0 rfl (Ygh rfl rfl rfl) gn rfl<|Yfx 1 rfl (Yg1 rfl) gn rfl<|Yg7 2 rfl<|Ygt ?_
   have ih:=Out.inl hO1 h
   exact Yhq [0,1] (ih ()) ⟨rfl,rfl,rfl,rfl,rfl,trivial⟩ (.cons_cons _ (.cons_cons _ (.cons_cons _ (.slnil)))) rfl
  ·have h:=Ygf hp726 h
   refine Ygj rfl _ rfl ((decide_eq_false hp726))<|Yit [.code Ysr] rfl rfl<|Ygk rfl<|Yiu rfl ?_
   have key2:∀ s,Yga (fun (s:Yg0) o=>Yjx x1 s o) s o1→(fun (s:Yg0)=>∀ (_:Unit),G (Yiv w F r) [.code Ylz,.inLoop Ylz,.inBlock 2] [(1,.pointer (some ⟨gb14,0,none⟩)),(2,.pointer (some ⟨gb16,0,none⟩)),(3,.pointer (some ⟨gb18,0,none⟩))] [.box gb18 67 (Yg2 s),.box gb16 67 (Yg2 (⟨(fun _=>0),(fun _=>false)⟩:Yg0)),.box gb14 26 [.slice A2 n3 c4,.slice A6 n7 c8,.slice A10 n11 c12]] [Sm w.heap.size F w [],St w []]) s:=by
    intro s hs
    refine Yga.ind (mot:=(fun (s:Yg0)=>∀ (_:Unit),G (Yiv w F r) [.code Ylz,.inLoop Ylz,.inBlock 2] [(1,.pointer (some ⟨gb14,0,none⟩)),(2,.pointer (some ⟨gb16,0,none⟩)),(3,.pointer (some ⟨gb18,0,none⟩))] [.box gb18 67 (Yg2 s),.box gb16 67 (Yg2 (⟨(fun _=>0),(fun _=>false)⟩:Yg0)),.box gb14 26 [.slice A2 n3 c4,.slice A6 n7 c8,.slice A10 n11 c12]] [Sm w.heap.size F w [],St w []])) ?_ hs
    clear hs s
    intro x847 o2 h hO2
    show ∀ (_:Unit),G (Yiv w F r) [.code Ylz,.inLoop Ylz,.inBlock 2] [(1,.pointer (some ⟨gb14,0,none⟩)),(2,.pointer (some ⟨gb16,0,none⟩)),(3,.pointer (some ⟨gb18,0,none⟩))] [.box gb18 67 (Yg2 x847),.box gb16 67 (Yg2 (⟨(fun _=>0),(fun _=>false)⟩:Yg0)),.box gb14 26 [.slice A2 n3 c4,.slice A6 n7 c8,.slice A10 n11 c12]] [Sm w.heap.size F w [],St w []]
    intro _
    have h:Yjx x1 x847 o2:=h
    unfold Yjx at h
    refine Ygk rfl<|Yg4 rfl<|Yfy rfl rfl<|Yfx 0 rfl (Ypu 0 Ysm rfl rfl (hp:=(Pt.refl _ (Yg2 x847))) (Yhh x847)) gn rfl ?_
    refine Yh3 1 rfl (Ykd (Yg2 (⟨(fun _=>0),(fun _=>false)⟩:Yg0)) zr_67 rfl fun gb963=>?_) gn
    obtain ⟨x965,hv966,h⟩:=h
    refine Yh3 2 rfl (Yov (cs':=(Yg2 x965)) (m:=(Yg2 (⟨(fun _=>0),(fun _=>false)⟩:Yg0))) (m':=(Yg2 x847)) 0 Ysi rfl rfl rfl (by rw [hv966]; exact (Pt.refl _ (Yg2 x847))) rfl (Yhh (⟨(fun _=>0),(fun _=>false)⟩:Yg0)) (Yhh x847) (Ylc x847) ?_) gn
    refine Yg7 3 rfl<|Yg4 rfl<|Yg4 rfl<|Yfy rfl rfl<|Yfx 0 rfl (Ygb Ygw rfl) gn rfl<|Yfx 1 rfl (Yge 3 Yip rfl rfl rfl) gn rfl<|Yfx 2 rfl (Ygn Ymb rfl h13.hq) gn rfl<|Yfx 3 rfl (Yg1 rfl) gn rfl<|Yg7 4 rfl<|Ygk rfl<|Yiu rfl ?_
    have key3:∀ s,Yga (fun (s:Int × Yg0) o=>Yi9 x1 x847 s.1 s.2 o) s o2→(fun (s:Int × Yg0)=>∀ (_:Unit),G (Yiv w F r) [.code Ynv,.inLoop Ynv,.inBlock 4,.code Yqw,.inBlock 3,.inLoop Ylz,.inBlock 2] [(1,.pointer (some ⟨gb14,0,none⟩)),(2,.pointer (some ⟨gb16,0,none⟩)),(3,.pointer (some ⟨gb18,0,none⟩)),(5,.pointer (some ⟨gb963,0,none⟩)),(25,.slice A10 n11 c12),(26,.int .i64 (x1.prods.length:Int)),(27,.int .i64 s.1)] [.box gb963 67 (Yg2 s.2),.box gb18 67 (Yg2 x847),.box gb16 67 (Yg2 (⟨(fun _=>0),(fun _=>false)⟩:Yg0)),.box gb14 26 [.slice A2 n3 c4,.slice A6 n7 c8,.slice A10 n11 c12]] [Sm w.heap.size F w [],St w []]) s:=by
     intro s hs
     refine Yga.ind (mot:=(fun (s:Int × Yg0)=>∀ (_:Unit),G (Yiv w F r) [.code Ynv,.inLoop Ynv,.inBlock 4,.code Yqw,.inBlock 3,.inLoop Ylz,.inBlock 2] [(1,.pointer (some ⟨gb14,0,none⟩)),(2,.pointer (some ⟨gb16,0,none⟩)),(3,.pointer (some ⟨gb18,0,none⟩)),(5,.pointer (some ⟨gb963,0,none⟩)),(25,.slice A10 n11 c12),(26,.int .i64 (x1.prods.length:Int)),(27,.int .i64 s.1)] [.box gb963 67 (Yg2 s.2),.box gb18 67 (Yg2 x847),.box gb16 67 (Yg2 (⟨(fun _=>0),(fun _=>false)⟩:Yg0)),.box gb14 26 [.slice A2 n3 c4,.slice A6 n7 c8,.slice A10 n11 c12]] [Sm w.heap.size F w [],St w []])) ?_ hs
     clear hs s
     intro s o3 h hO3
     obtain ⟨x1004,x1005⟩:=s
     show ∀ (_:Unit),G (Yiv w F r) [.code Ynv,.inLoop Ynv,.inBlock 4,.code Yqw,.inBlock 3,.inLoop Ylz,.inBlock 2] [(1,.pointer (some ⟨gb14,0,none⟩)),(2,.pointer (some ⟨gb16,0,none⟩)),(3,.pointer (some ⟨gb18,0,none⟩)),(5,.pointer (some ⟨gb963,0,none⟩)),(25,.slice A10 n11 c12),(26,.int .i64 (x1.prods.length:Int)),(27,.int .i64 x1004)] [.box gb963 67 (Yg2 x1005),.box gb18 67 (Yg2 x847),.box gb16 67 (Yg2 (⟨(fun _=>0),(fun _=>false)⟩:Yg0)),.box gb14 26 [.slice A2 n3 c4,.slice A6 n7 c8,.slice A10 n11 c12]] [Sm w.heap.size F w [],St w []]
     intro _
     have h:Yi9 x1 x847 x1004 x1005 o3:=h
     unfold Yi9 at h
     refine Yg4 rfl<|Yfy rfl rfl<|Yfx 0 rfl (Ygh rfl rfl rfl) gn rfl<|Yg7 1 rfl<|Yg4 rfl ?_
     by_cases hp1042:x1004 < (x1.prods.length:Int)
     ·have h:=Ygg hp1042 h
      refine Ygm rfl _ rfl ((decide_eq_true hp1042))<|Ygp rfl<|Yg4 rfl<|Ygk rfl<|Yg4 rfl<|Yfy rfl rfl ?_
      obtain ⟨hb1043,h⟩:=h
      obtain ⟨ce1045,hK1046,hr1044⟩:=Rw.read (s:=St w []) h13 hb1043
      obtain ⟨A1047,n1048,c1049,rfl,h1050⟩:=hK1046
      refine Yfx 0 rfl (Yht (s:=St w []) Yj6 rfl rfl h13 hb1043) gn rfl<|Yfx 1 rfl (Ylx (St w []) ld_38 rfl hr1044 rfl (me 1 rfl)) gn rfl ?_
      refine Yh3 2 rfl (Ykd [.int .i64 0,.slice none 0 0] zr_38 rfl fun gb1051=>?_) gn
      refine Yh3 3 rfl (Ylp (vs:=[.int .i64 ((ix x1.prods x1004).lhs),.slice A1047 n1048 c1049]) (cs':=[.int .i64 ((ix x1.prods x1004).lhs),.slice A1047 n1048 c1049]) (M':=[.box gb1051 38 [.int .i64 ((ix x1.prods x1004).lhs),.slice A1047 n1048 c1049],.box gb963 67 (Yg2 x1005),.box gb18 67 (Yg2 x847),.box gb16 67 (Yg2 (⟨(fun _=>0),(fun _=>false)⟩:Yg0)),.box gb14 26 [.slice A2 n3 c4,.slice A6 n7 c8,.slice A10 n11 c12]]) 0 sz_38 rfl rfl rfl rfl rfl rfl rfl rfl rfl ?_) gn
      refine Yg7 4 rfl<|Yg4 rfl<|Yg4 rfl<|Yfy rfl rfl<|Yfx 0 rfl (Ygb Yk7 rfl) gn rfl<|Yfx 1 rfl (Yge 0 Ym5 rfl rfl rfl) gn rfl<|Yfx 2 rfl (Ygh rfl rfl rfl) gn rfl<|Yg7 3 rfl ?_
      by_cases hp1053:(ix x1.prods x1004).lhs < 0
      ·have h:=Ygg hp1053 h
       refine Ygm rfl _ rfl ((decide_eq_true hp1053))<|Yit [.code q33c40,.inLoop Ynv,.inBlock 4,.code Yqw,.inBlock 3,.inLoop Ylz,.inBlock 2] rfl rfl<|Yfy rfl rfl<|Yfx 0 rfl (Ygh rfl rfl rfl) gn rfl<|Yfx 1 rfl (Yg1 rfl) gn rfl<|Yg7 2 rfl<|Ygt ?_
       have ih:=Out.inl hO3 h
       exact Yhq [0,1] (ih ()) ⟨rfl,rfl,rfl,rfl,rfl,rfl,rfl,trivial⟩ (.cons _ (.cons_cons _ (.cons_cons _ (.cons_cons _ (.cons_cons _ (.slnil)))))) rfl
      ·have h:=Ygf hp1053 h
       refine Ygj rfl _ rfl ((decide_eq_false hp1053))<|Ygp rfl<|Yg4 rfl<|Yfy rfl rfl<|Yfx 0 rfl (Ygb Yi3 rfl) gn rfl<|Yfx 1 rfl (Yge 4 Ykl rfl rfl rfl) gn rfl<|Yfx 2 rfl (Ygn Ylt rfl h5.hq) gn rfl<|Yfx 3 rfl (Ygb Yk7 rfl) gn rfl<|Yfx 4 rfl (Yge 0 Ym5 rfl rfl rfl) gn rfl<|Yfx 5 rfl (Ygh rfl rfl rfl) gn rfl<|Yfx 6 rfl (Yg3 rfl) gn rfl<|Yg7 7 rfl ?_
       refine Yg4 rfl<|Yfy rfl rfl<|Yfx 0 rfl (Ygb Yke rfl) gn rfl<|Yfx 1 rfl (Yge 0 Ymv rfl rfl rfl) gn rfl ?_
       obtain ⟨r1057,hv1058,h⟩:=h
       refine Yh3 2 rfl (Yhy [.pointer (some ⟨gb963,0,none⟩),.slice A1047 n1048 c1049] rfl Try.func34 rfl rfl rfl fun w1054 hL1055=>?_) gn
       have hp1056:=pmI hL1055 (.c 1 rfl .n) (.c 0 rfl (.c 2 rfl (.c 3 rfl (.c 4 rfl .n)))) (by kernel_rfl)
       refine Calls.mono (Yma w1054 (Fl ([]:List Ygl)) x1005 ((ix x1.prods x1004).rhs) gb963 67 A1047 n1048 c1049 (Rw.mono h1050 (hL1055.toSt hp1056 (me 1 rfl))) (hL1055.hFl hp1056 (Yj0 [] rfl)) (hL1055.into hp1056 _) r1057 hv1058) ?_
       rintro _ w1059 ⟨rfl,hM1060⟩
       have hL1061:=hL1055.call hp1056 hM1060
       refine ⟨_,_,_,rfl,hL1061,?_⟩
       refine Yfx 3 rfl (Yg1 rfl) gn rfl<|Yfx 4 rfl (Yo2 rfl rfl) gn rfl<|Yfx 5 rfl (Yo2 rfl rfl) gn rfl<|Yfx 6 rfl (Yg3 rfl) gn rfl<|Yfx 7 rfl (Yg3 rfl) gn rfl<|Yg7 8 rfl<|Yg4 rfl<|Yfy rfl rfl<|Yfx 0 rfl (Yg1 rfl) gn rfl<|Yfx 1 rfl (Ygb Yo9 rfl) gn rfl ?_
       obtain ⟨hb1062,h⟩:=h
       refine Yfx 2 rfl (Yny ar_64 rfl rfl hb1062) gn rfl<|Yfx 3 rfl (Ys9 0 ld_29 rfl rfl (hp:=(Pt.trans (Yj1 r1057.2.2 (upd r1057.2.2.first (w64 ((x1.terms.length:Int) + ((ix x1.prods x1004).lhs))) (r1057.2.2.first (w64 ((x1.terms.length:Int) + ((ix x1.prods x1004).lhs)))))) (Pt.arr (f:=r1057.2.2.first) (enc:=fun y=>[.int .u64 y]) (fun _=>rfl) hb1062 (r1057.2.2.first (w64 ((x1.terms.length:Int) + ((ix x1.prods x1004).lhs))))))) rfl) gn rfl<|Yfx 4 rfl (Yg1 rfl) gn rfl<|Yfx 5 rfl (Ygh rfl rfl rfl) gn rfl<|Yfx 6 rfl (Ygb Yo9 rfl) gn rfl<|Yfx 7 rfl (Yny ar_64 rfl rfl hb1062) gn rfl ?_
       obtain ⟨x1063,hv1064,h⟩:=h
       refine Yh3 8 rfl (Yov (cs':=(Yg2 x1063)) (m:=[.int .u64 (r1057.2.2.first (w64 ((x1.terms.length:Int) + ((ix x1.prods x1004).lhs))))]) (m':=[.int .u64 (bits .or .u64 (r1057.2.2.first (w64 ((x1.terms.length:Int) + ((ix x1.prods x1004).lhs)))) r1057.1)]) 0 sz_29 rfl rfl rfl (by rw [hv1064]; exact (Pt.trans (Yj1 r1057.2.2 (upd r1057.2.2.first (w64 ((x1.terms.length:Int) + ((ix x1.prods x1004).lhs))) (bits .or .u64 (r1057.2.2.first (w64 ((x1.terms.length:Int) + ((ix x1.prods x1004).lhs)))) r1057.1))) (Pt.arr (f:=r1057.2.2.first) (enc:=fun y=>[.int .u64 y]) (fun _=>rfl) hb1062 (bits .or .u64 (r1057.2.2.first (w64 ((x1.terms.length:Int) + ((ix x1.prods x1004).lhs)))) r1057.1)))) rfl rfl rfl rfl ?_) gn
       refine Yg7 9 rfl<|Yfy rfl rfl<|Yfx 0 rfl (Yg1 rfl) gn rfl<|Yfx 1 rfl (Yg1 rfl) gn rfl<|Yfx 2 rfl (Ygb Yo3 rfl) gn rfl<|Yfx 3 rfl (Yny ar_65 rfl rfl hb1062) gn rfl<|Yfx 4 rfl (Ys9 0 ld_4 rfl rfl (hp:=(Pt.trans (Yic x1063 (upd x1063.vanishes (w64 ((x1.terms.length:Int) + ((ix x1.prods x1004).lhs))) (x1063.vanishes (w64 ((x1.terms.length:Int) + ((ix x1.prods x1004).lhs)))))) (Pt.arr (f:=x1063.vanishes) (enc:=fun y=>[.bool y]) (fun _=>rfl) hb1062 (x1063.vanishes (w64 ((x1.terms.length:Int) + ((ix x1.prods x1004).lhs))))))) rfl) gn rfl<|Yfx 5 rfl (Yg1 rfl) gn rfl ?_
       by_cases hp1065:(x1063.vanishes (w64 ((x1.terms.length:Int) + ((ix x1.prods x1004).lhs))))=true
       ·have h:=Ygg hp1065 h
        refine Yhr 59 rfl (hp1065)<|Yg5 6 rfl (ps 59 rfl rfl rfl)<|Yfx 7 rfl (Ygv (b:=true) rfl rfl) gn rfl<|Yfx 8 rfl (Ygb Yo3 rfl) gn rfl<|Yfx 9 rfl (Yny ar_65 rfl rfl hb1062) gn rfl ?_
        obtain ⟨x1066,hv1067,h⟩:=h
        refine Yh3 10 rfl (Yov (cs':=(Yg2 x1066)) (m:=[.bool (x1063.vanishes (w64 ((x1.terms.length:Int) + ((ix x1.prods x1004).lhs))))]) (m':=[.bool true]) 0 sz_4 rfl rfl rfl (by rw [hv1067]; exact (Pt.trans (Yic x1063 (upd x1063.vanishes (w64 ((x1.terms.length:Int) + ((ix x1.prods x1004).lhs))) true)) (Pt.arr (f:=x1063.vanishes) (enc:=fun y=>[.bool y]) (fun _=>rfl) hb1062 true))) rfl rfl rfl rfl ?_) gn
        refine Yg7 11 rfl<|Ygo<|Yfy rfl rfl<|Yfx 0 rfl (Ygh rfl rfl rfl) gn rfl<|Yfx 1 rfl (Yg1 rfl) gn rfl<|Yg7 2 rfl<|Ygt ?_
        have ih:=Out.inl hO3 h
        exact Yhq [0,1] (ih ()) ⟨rfl,rfl,rfl,rfl,rfl,rfl,rfl,trivial⟩ (.cons_cons _ (.cons _ (.cons_cons _ (.cons_cons _ (.cons_cons _ (.slnil)))))) rfl
       ·have h:=Ygf hp1065 h
        refine Yhr 59 rfl ((bf hp1065))<|Yfx 6 rfl (Yg1 rfl) (gy 59 rfl rfl) rfl<|Yfx 7 rfl (Ygv (b:=false) rfl rfl) gn rfl<|Yfx 8 rfl (Ygb Yo3 rfl) gn rfl<|Yfx 9 rfl (Yny ar_65 rfl rfl hb1062) gn rfl ?_
        obtain ⟨x1068,hv1069,h⟩:=h
        refine Yh3 10 rfl (Yov (cs':=(Yg2 x1068)) (m:=[.bool (x1063.vanishes (w64 ((x1.terms.length:Int) + ((ix x1.prods x1004).lhs))))]) (m':=[.bool r1057.2.1]) 0 sz_4 rfl rfl rfl (by rw [hv1069]; exact (Pt.trans (Yic x1063 (upd x1063.vanishes (w64 ((x1.terms.length:Int) + ((ix x1.prods x1004).lhs))) r1057.2.1)) (Pt.arr (f:=x1063.vanishes) (enc:=fun y=>[.bool y]) (fun _=>rfl) hb1062 r1057.2.1))) rfl rfl rfl rfl ?_) gn
        refine Yg7 11 rfl<|Ygo<|Yfy rfl rfl<|Yfx 0 rfl (Ygh rfl rfl rfl) gn rfl<|Yfx 1 rfl (Yg1 rfl) gn rfl<|Yg7 2 rfl<|Ygt ?_
        have ih:=Out.inl hO3 h
        exact Yhq [0,1] (ih ()) ⟨rfl,rfl,rfl,rfl,rfl,rfl,rfl,trivial⟩ (.cons_cons _ (.cons _ (.cons_cons _ (.cons_cons _ (.cons_cons _ (.slnil)))))) rfl
     ·have h:=Ygf hp1042 h
      refine Ygj rfl _ rfl ((decide_eq_false hp1042))<|Yit [.code Yqw,.inBlock 3,.inLoop Ylz,.inBlock 2] rfl rfl<|Yg4 rfl<|Yg4 rfl<|Yfy rfl rfl<|Yfx 0 rfl (Ygb Yo9 rfl) gn rfl<|Yfx 1 rfl (Ypu 0 ld_64 rfl rfl (hp:=(Yj1 x1005 x1005.first)) (Ym4 (sz:=1) (f:=fun j=>[.int .u64 (x1005.first j)]) (fun j=>rfl) 192)) gn rfl<|Yfx 2 rfl (Ygb Yo9 rfl) gn rfl<|Yfx 3 rfl (Ypu 1 ld_64 rfl rfl (hp:=(Yj1 x847 x847.first)) (Ym4 (sz:=1) (f:=fun j=>[.int .u64 (x847.first j)]) (fun j=>rfl) 192)) gn rfl<|Yfx 4 rfl (v_eqA (f1:=x1005.first) (f2:=x847.first) (enc:=fun y=>.int .u64 y) ae_64 rfl rfl (fun a b=>by simp [Yn3,int_dec])) gn rfl<|Yfx 5 rfl (Yg1 rfl) gn rfl ?_
      by_cases hp1070:(aeq 192 x1005.first x847.first)=true
      ·have h:=Ygg hp1070 h
       refine Yhr 70 rfl (hp1070)<|Yfx 6 rfl (Ygb Yo3 rfl) (gy 70 rfl rfl) rfl<|Yfx 7 rfl (Ypu 0 ld_65 rfl rfl (hp:=(Yic x1005 x1005.vanishes)) (Ym4 (sz:=1) (f:=fun j=>[.bool (x1005.vanishes j)]) (fun j=>rfl) 192)) (gy 70 rfl rfl) rfl<|Yfx 8 rfl (Ygb Yo3 rfl) (gy 70 rfl rfl) rfl<|Yfx 9 rfl (Ypu 1 ld_65 rfl rfl (hp:=(Yic x847 x847.vanishes)) (Ym4 (sz:=1) (f:=fun j=>[.bool (x847.vanishes j)]) (fun j=>rfl) 192)) (gy 70 rfl rfl) rfl<|Yfx 10 rfl (v_eqA (f1:=x1005.vanishes) (f2:=x847.vanishes) (enc:=fun y=>.bool y) ae_65 rfl rfl (fun a b=>by simp [Yn3,bool_dec])) (gy 70 rfl rfl) rfl<|Yfx 11 rfl (Ygv (b:=true) rfl rfl) gn rfl<|Yg7 12 rfl ?_
       by_cases hp1071:(aeq 192 x1005.vanishes x847.vanishes)=true
       ·have h:=Ygg hp1071 h
        refine Ygm rfl _ rfl (hp1071)<|Yg4 rfl<|Yfy rfl rfl<|Yfx 0 rfl (Ypu 1 Ysm rfl rfl (hp:=(Pt.refl _ (Yg2 x847))) (Yhh x847)) gn rfl ?_
        obtain ⟨x1072,hv1073,h⟩:=h
        refine Yh3 1 rfl (Yov (cs':=(Yg2 x1072)) (m:=(Yg2 (⟨(fun _=>0),(fun _=>false)⟩:Yg0))) (m':=(Yg2 x847)) 2 Ysi rfl rfl rfl (by rw [hv1073]; exact (Pt.refl _ (Yg2 x847))) rfl (Yhh (⟨(fun _=>0),(fun _=>false)⟩:Yg0)) (Yhh x847) (Ylc x847) ?_) gn
        refine Yg7 2 rfl ?_
        have h:=Out.inr hO3 h
        have h:=Out.inr hO2 h
        have h:=Out.inr hO1 h
        refine Ygu [.agg (Yg2 x1072).toArray] rfl Try.func33 rfl (.cell (cs:=(Yg2 x1072)) (us:=(Yg2 x1072)) 2 rfl Ysm rfl (bigtake (Yhh x1072)) (Yhh x1072) (.nil)) fun wr hLr=>?_
        have hMr:=hLr.pk0 (.c 1 rfl .n)
        show Yn7 w F  r (.returned (Yhi [.agg (Yg2 x1072).toArray])) wr
        rw [h]
        exact ⟨rfl,hMr⟩
       ·have h:=Ygf hp1071 h
        refine Ygj rfl _ rfl ((bf hp1071))<|Ygp rfl<|Yfy rfl rfl<|Yfx 0 rfl (Ypu 0 Ysm rfl rfl (hp:=(Pt.refl _ (Yg2 x1005))) (Yhh x1005)) gn rfl ?_
        obtain ⟨x1074,hv1075,h⟩:=h
        refine Yh3 1 rfl (Yov (cs':=(Yg2 x1074)) (m:=(Yg2 x847)) (m':=(Yg2 x1005)) 1 Ysi rfl rfl rfl (by rw [hv1075]; exact (Pt.refl _ (Yg2 x1005))) rfl (Yhh x847) (Yhh x1005) (Ylc x1005) ?_) gn
        refine Yg7 2 rfl<|Ygo<|Ygt ?_
        have h:=Out.inr hO3 h
        have ih:=Out.inl hO2 h
        exact Yhq [0,1] (ih ()) ⟨rfl,rfl,rfl,trivial⟩ (.cons _ (.cons_cons _ (.cons_cons _ (.cons_cons _ (.slnil))))) rfl
      ·have h:=Ygf hp1070 h
       refine Yhr 70 rfl ((bf hp1070))<|Yg5 6 rfl (ps 70 rfl rfl rfl)<|Yg5 7 rfl (ps 70 rfl rfl rfl)<|Yg5 8 rfl (ps 70 rfl rfl rfl)<|Yg5 9 rfl (ps 70 rfl rfl rfl)<|Yg5 10 rfl (ps 70 rfl rfl rfl)<|Yfx 11 rfl (Ygv (b:=false) rfl rfl) gn rfl<|Yg7 12 rfl<|Ygj rfl _ rfl (rfl)<|Ygp rfl<|Yfy rfl rfl<|Yfx 0 rfl (Ypu 0 Ysm rfl rfl (hp:=(Pt.refl _ (Yg2 x1005))) (Yhh x1005)) gn rfl ?_
       obtain ⟨x1076,hv1077,h⟩:=h
       refine Yh3 1 rfl (Yov (cs':=(Yg2 x1076)) (m:=(Yg2 x847)) (m':=(Yg2 x1005)) 1 Ysi rfl rfl rfl (by rw [hv1077]; exact (Pt.refl _ (Yg2 x1005))) rfl (Yhh x847) (Yhh x1005) (Ylc x1005) ?_) gn
       refine Yg7 2 rfl<|Ygo<|Ygt ?_
       have h:=Out.inr hO3 h
       have ih:=Out.inl hO2 h
       exact Yhq [0,1] (ih ()) ⟨rfl,rfl,rfl,trivial⟩ (.cons _ (.cons_cons _ (.cons_cons _ (.cons_cons _ (.slnil))))) rfl
    exact Yhq [0,1] (key3 _ h ()) ⟨rfl,rfl,rfl,rfl,rfl,rfl,rfl,trivial⟩ (.cons_cons _ (.cons_cons _ (.cons_cons _ (.cons_cons _ (.slnil))))) rfl
   exact Yhq [0,1] (key2 _ h ()) ⟨rfl,rfl,rfl,trivial⟩ (.cons_cons _ (.cons_cons _ (.cons_cons _ (.slnil)))) rfl
 exact Yhq [0,1] (key1 _ h ()) ⟨rfl,rfl,rfl,rfl,rfl,trivial⟩ (.cons_cons _ (.cons_cons _ (.cons_cons _ (.slnil)))) rfl
noncomputable abbrev q13c4:=Code.snd (Code.snd (Yhf Try.f13))
noncomputable abbrev q13c6:=Code.snd (Code.fst (Code.snd (Yhf Try.f13)))
abbrev Ymm (w:World) (F:Nat→Prop) (r:Int):Ending→World→Prop:=fun e w'=>e=.returned (.int .u64 r)∧B.Loc w w' [] [St w []]
noncomputable abbrev Yqy (w:World) (F:Nat→Prop) (r:Int):Cx:=⟨Try.prog,13,Try.f13,31,Ymm w F  r,w⟩
theorem Ymr (w:World) (F:Nat→Prop) (x1:Yfz) (x14:List Yg6) (x19:Int) (A2:Option Addr) (n3:Nat) (c4:Nat) (A6:Option Addr) (n7:Nat) (c8:Nat) (A10:Option Addr) (n11:Nat) (c12:Nat) (A15:Option Addr) (n16:Nat) (c17:Nat) (h5:Rw Ygi w (St w []).av A2 n3 c4 x1.terms) (h9:Rw Yh1 w (St w []).av A6 n7 c8 x1.syms) (h13:Rw Ygs w (St w []).av A10 n11 c12 x1.prods) (h18:Rw Yh0 w (St w []).av A15 n16 c17 x14) (hF:∀ b,F b→b < w.heap.size∧∀ o ∈ ([]:List (List Nat)),b ∉ o) (hL0:B.Loc w w [] [Sm w.heap.size F w [],St w []]) (r:Int) (h:Yl2 x1 x14 x19 r):Calls Try.prog 13 #[.agg #[.slice A2 n3 c4,.slice A6 n7 c8,.slice A10 n11 c12],.slice A15 n16 c17,.int .u64 x19] w (Ymm w F  r):=by
 unfold Yl2 at h
 refine Ygx (vs:=[.agg #[.slice A2 n3 c4,.slice A6 n7 c8,.slice A10 n11 c12],.slice A15 n16 c17,.int .u64 x19]) 31 Try.func13 rfl Try.ntmps13 rfl hL0 ?_
 show G (Yqy w F r) _ _ _ _
 refine Yg4 rfl<|Yfy rfl rfl ?_
 refine Yh3 0 rfl (Ym6 [.slice A2 n3 c4,.slice A6 n7 c8,.slice A10 n11 c12] rfl rfl rfl fun gb20=>?_) gn
 refine Yfx 1 rfl (Yg3 rfl) gn rfl<|Yg7 2 rfl<|Yg4 rfl<|Yg4 rfl ?_
 have j1:∀ (x40:Bool) (h:Yln x1 x14 x19 x40 r) ,G (Yqy w F r) [.code q13c6,.code q13c4] [(1,.slice A15 n16 c17),(2,.int .u64 x19),(3,.pointer (some ⟨gb20,0,none⟩)),(18,.bool x40)] [.box gb20 26 [.slice A2 n3 c4,.slice A6 n7 c8,.slice A10 n11 c12]] [Sm w.heap.size F w [],St w []]:=by
  intro x40 h
  unfold Yln at h
  by_cases hp41:x40=true
  ·have h:=Ygg hp41 h
   refine Ygm rfl _ rfl (hp41)<|Yg4 rfl<|Yfy rfl rfl<|Yfx 0 rfl (Yg3 rfl) gn rfl<|Yg7 1 rfl ?_
   refine Ygu [.int .u64 0] rfl Try.func13 rfl (.tmp rfl (.nil)) fun wr hLr=>?_
   have hMr:=hLr.pk0 (.c 1 rfl .n)
   show Ymm w F  r (.returned (Yhi [.int .u64 0])) wr
   rw [h]
   exact ⟨rfl,hMr⟩
  ·have h:=Ygf hp41 h
   refine Ygj rfl _ rfl ((bf hp41))<|Ygp rfl<|Yg4 rfl<|Yfy rfl rfl<|Yfx 0 rfl (Ykb [.slice A2 n3 c4,.slice A6 n7 c8,.slice A10 n11 c12] 0 Yk6 rfl rfl rfl rfl) gn rfl ?_
   obtain ⟨r45,hv46,h⟩:=h
   refine Yh3 1 rfl (Yhy [.agg #[.slice A2 n3 c4,.slice A6 n7 c8,.slice A10 n11 c12]] rfl Try.func33 rfl rfl rfl fun w42 hL43=>?_) gn
   have hp44:=pmI hL43 .n (.c 0 rfl .n) (by kernel_rfl)
   refine Calls.mono (Yox w42 (Fl ([]:List Ygl)) x1 A2 n3 c4 A6 n7 c8 A10 n11 c12 (Rw.mono h5 (hL43.toSt hp44 (me 1 rfl))) (Rw.mono h9 (hL43.toSt hp44 (me 1 rfl))) (Rw.mono h13 (hL43.toSt hp44 (me 1 rfl))) (hL43.hFl hp44 (Yj0 [] rfl)) (hL43.into hp44 _) r45 hv46) ?_
   rintro _ w47 ⟨rfl,hM48⟩
   have hL49:=hL43.call hp44 hM48
   refine ⟨_,_,_,rfl,hL49,?_⟩
   refine Yh3 2 rfl (Ykd (Yg2 (⟨(fun _=>0),(fun _=>false)⟩:Yg0)) zr_67 rfl fun gb50=>?_) gn
   obtain ⟨x52,hv53,h⟩:=h
   refine Yh3 3 rfl (Yov (cs':=(Yg2 x52)) (m:=(Yg2 (⟨(fun _=>0),(fun _=>false)⟩:Yg0))) (m':=(Yg2 r45)) 0 Ysi rfl rfl rfl (by rw [hv53]; exact (Pt.refl _ (Yg2 r45))) rfl (Yhh (⟨(fun _=>0),(fun _=>false)⟩:Yg0)) (Yhh r45) (Ylc r45) ?_) gn
   refine Yg7 4 rfl<|Yg4 rfl<|Yfy rfl rfl<|Yfx 0 rfl (Yg1 rfl) gn rfl ?_
   obtain ⟨r57,hv58,h⟩:=h
   refine Yh3 1 rfl (Yhy [.pointer (some ⟨gb50,0,none⟩),.slice A15 n16 c17] rfl Try.func34 rfl rfl rfl fun w54 hL55=>?_) gn
   have hp56:=pmI hL55 (.c 0 rfl .n) (.c 1 rfl .n) (by kernel_rfl)
   refine Calls.mono (Yma w54 (Fl ([]:List Ygl)) x52 x14 gb50 67 A15 n16 c17 (Rw.mono h18 (hL55.toSt hp56 (me 1 rfl))) (hL55.hFl hp56 (Yj0 [] rfl)) (hL55.into hp56 _) r57 hv58) ?_
   rintro _ w59 ⟨rfl,hM60⟩
   have hL61:=hL55.call hp56 hM60
   refine ⟨_,_,_,rfl,hL61,?_⟩
   refine Yfx 2 rfl (Yg1 rfl) gn rfl<|Yfx 3 rfl (Yo2 rfl rfl) gn rfl<|Yfx 4 rfl (Yo2 rfl rfl) gn rfl<|Yfx 5 rfl (Yg3 rfl) gn rfl<|Yfx 6 rfl (Yg3 rfl) gn rfl<|Yg7 7 rfl<|Yg4 rfl<|Yg4 rfl<|Yfy rfl rfl<|Yfx 0 rfl (Yg1 rfl) gn rfl<|Yg7 1 rfl ?_
   by_cases hp62:r57.2.1=true
   ·have h:=Ygg hp62 h
    refine Ygm rfl _ rfl (hp62)<|Yfy rfl rfl<|Yfx 0 rfl (Yg1 rfl) gn rfl<|Yfx 1 rfl (Yg1 rfl) gn rfl<|Yfx 2 rfl (Ygh rfl rfl rfl) gn rfl<|Yfx 3 rfl (Yg3 rfl) gn rfl<|Yg7 4 rfl<|Yg4 rfl<|Yfy rfl rfl<|Yfx 0 rfl (Yg1 rfl) gn rfl<|Yfx 1 rfl (Yg3 rfl) gn rfl<|Yg7 2 rfl ?_
    refine Ygu [.int .u64 (bits .or .u64 r57.1 x19)] rfl Try.func13 rfl (.tmp rfl (.nil)) fun wr hLr=>?_
    have hMr:=hLr.pk0 (.c 1 rfl .n)
    show Ymm w F  r (.returned (Yhi [.int .u64 (bits .or .u64 r57.1 x19)])) wr
    rw [h]
    exact ⟨rfl,hMr⟩
   ·have h:=Ygf hp62 h
    refine Ygj rfl _ rfl ((bf hp62))<|Ygp rfl<|Yg4 rfl<|Yfy rfl rfl<|Yfx 0 rfl (Yg1 rfl) gn rfl<|Yfx 1 rfl (Yg3 rfl) gn rfl<|Yg7 2 rfl ?_
    refine Ygu [.int .u64 r57.1] rfl Try.func13 rfl (.tmp rfl (.nil)) fun wr hLr=>?_
    have hMr:=hLr.pk0 (.c 1 rfl .n)
    show Ymm w F  r (.returned (Yhi [.int .u64 r57.1])) wr
    rw [h]
    exact ⟨rfl,hMr⟩
 refine Yfy rfl rfl<|Yfx 0 rfl (Ykb [.slice A2 n3 c4,.slice A6 n7 c8,.slice A10 n11 c12] 0 Yk6 rfl rfl rfl rfl) gn rfl ?_
 obtain ⟨r66,hv67,h⟩:=h
 refine Yh3 1 rfl (Yhy [.agg #[.slice A2 n3 c4,.slice A6 n7 c8,.slice A10 n11 c12]] rfl Try.func31 rfl rfl rfl fun w63 hL64=>?_) gn
 have hp65:=pmI hL64 .n (.c 0 rfl .n) (by kernel_rfl)
 refine Calls.mono (Yoq w63 (Fl ([]:List Ygl)) x1 A2 n3 c4 A6 n7 c8 A10 n11 c12 (Rw.mono h5 (hL64.toSt hp65 (me 1 rfl))) (Rw.mono h9 (hL64.toSt hp65 (me 1 rfl))) (Rw.mono h13 (hL64.toSt hp65 (me 1 rfl))) (hL64.hFl hp65 (Yj0 [] rfl)) (hL64.into hp65 _) r66 hv67) ?_
 rintro _ w68 ⟨rfl,hM69⟩
 have hL70:=hL64.call hp65 hM69
 refine ⟨_,_,_,rfl,hL70,?_⟩
 refine Yfx 2 rfl (Ymc rfl) gn rfl<|Yfx 3 rfl (Yg1 rfl) gn rfl ?_
 by_cases hp71:r66=true
 ·have h:=Ygg hp71 h
  refine Yhr 13 rfl ((nf hp71))<|Yfx 4 rfl (Ykb [.slice A2 n3 c4,.slice A6 n7 c8,.slice A10 n11 c12] 0 Yk6 rfl rfl rfl rfl) (gy 13 rfl rfl) rfl<|Yfx 5 rfl (Yg1 rfl) (gy 13 rfl rfl) rfl ?_
  obtain ⟨r75,hv76,h⟩:=h
  refine Yh3 6 rfl (Yhy [.agg #[.slice A2 n3 c4,.slice A6 n7 c8,.slice A10 n11 c12],.slice A15 n16 c17] rfl Try.func32 rfl rfl rfl fun w72 hL73=>?_) (gy 13 rfl rfl)
  have hp74:=pmI hL73 .n (.c 0 rfl .n) (by kernel_rfl)
  refine Calls.mono (Yme w72 (Fl ([]:List Ygl)) x1 x14 A2 n3 c4 A6 n7 c8 A10 n11 c12 A15 n16 c17 (Rw.mono h5 (hL73.toSt hp74 (me 1 rfl))) (Rw.mono h9 (hL73.toSt hp74 (me 1 rfl))) (Rw.mono h13 (hL73.toSt hp74 (me 1 rfl))) (Rw.mono h18 (hL73.toSt hp74 (me 1 rfl))) (hL73.hFl hp74 (Yj0 [] rfl)) (hL73.into hp74 _) r75 hv76) ?_
  rintro _ w77 ⟨rfl,hM78⟩
  have hL79:=hL73.call hp74 hM78
  refine ⟨_,_,_,rfl,hL79,?_⟩
  refine Yfx 7 rfl (Ymc rfl) (gy 13 rfl rfl) rfl<|Yfx 8 rfl (Ygv (b:=false) rfl rfl) gn rfl<|Yg7 9 rfl ?_
  exact Yhq [0,1] (j1 (!r75) h) ⟨rfl,rfl,rfl,rfl,trivial⟩ (.cons_cons _ (.slnil)) rfl
 ·have h:=Ygf hp71 h
  refine Yhr 13 rfl ((nt (bf hp71)))<|Yg5 4 rfl (ps 13 rfl rfl rfl)<|Yg5 5 rfl (ps 13 rfl rfl rfl)<|Yg5 6 rfl (ps 13 rfl rfl rfl)<|Yg5 7 rfl (ps 13 rfl rfl rfl)<|Yfx 8 rfl (Ygv (b:=true) rfl rfl) gn rfl<|Yg7 9 rfl ?_
  exact Yhq [0,1] (j1 true h) ⟨rfl,rfl,rfl,rfl,trivial⟩ (.cons_cons _ (.slnil)) rfl
noncomputable abbrev Ys8:=Code.snd (Code.snd (Code.snd (Yhf Try.f36)))
noncomputable abbrev Yom:=Code.fst (Code.fst (Code.snd (Code.fst (Code.snd (Code.snd (Yhf Try.f36))))))
noncomputable abbrev q36c24:=Code.fst (Code.fst (Code.fst (Code.snd Yom)))
abbrev Yiz (w:World) (F:Nat→Prop) (r:Bool):Ending→World→Prop:=fun e w'=>e=.returned (.bool r)∧B.Loc w w' [] [St w []]
noncomputable abbrev Yjq (w:World) (F:Nat→Prop) (r:Bool):Cx:=⟨Try.prog,36,Try.f36,26,Yiz w F  r,w⟩
theorem Yl0 (w:World) (F:Nat→Prop) (x1:List Yg6) (x6:List Yg6) (A2:Option Addr) (n3:Nat) (c4:Nat) (A7:Option Addr) (n8:Nat) (c9:Nat) (h5:Rw Yh0 w (St w []).av A2 n3 c4 x1) (h10:Rw Yh0 w (St w []).av A7 n8 c9 x6) (hF:∀ b,F b→b < w.heap.size∧∀ o ∈ ([]:List (List Nat)),b ∉ o) (hL0:B.Loc w w [] [Sm w.heap.size F w [],St w []]) (r:Bool) (h:Yin x1 x6 r):Calls Try.prog 36 #[.slice A2 n3 c4,.slice A7 n8 c9] w (Yiz w F  r):=by
 unfold Yin at h
 refine Ygx (vs:=[.slice A2 n3 c4,.slice A7 n8 c9]) 26 Try.func36 rfl Try.ntmps36 rfl hL0 ?_
 show G (Yjq w F r) _ _ _ _
 refine Yg4 rfl<|Yfy rfl rfl<|Yfx 0 rfl (Yg3 rfl) gn rfl<|Yg7 1 rfl<|Yg4 rfl<|Yg4 rfl<|Yfy rfl rfl<|Yfx 0 rfl (Yg1 rfl) gn rfl<|Yfx 1 rfl (Ygn Ym9 rfl h5.hq) gn rfl<|Yfx 2 rfl (Yg1 rfl) gn rfl<|Yfx 3 rfl (Ygn Ym9 rfl h10.hq) gn rfl<|Yfx 4 rfl (Ygh rfl rfl rfl) gn rfl ?_
 refine Yg7 5 rfl ?_
 by_cases hp11:(x1.length:Int)=(x6.length:Int)
 ·have h:=Ygg hp11 h
  refine Ygj rfl _ rfl ((eqib hp11))<|Ygp rfl<|Yg4 rfl<|Yg4 rfl<|Yfy rfl rfl<|Yfx 0 rfl (Yg3 rfl) gn rfl<|Yg7 1 rfl<|Ygk rfl<|Yiu rfl ?_
  have key1:∀ s,Yga (fun (s:Int) o=>Yiq x1 x6 s o) s r→(fun (s:Int)=>∀ (_:Unit),G (Yjq w F r) [.code Yom,.inLoop Yom,.inBlock 0,.code Ys8] [(0,.slice A2 n3 c4),(1,.slice A7 n8 c9),(5,.int .i64 s)] [] [Sm w.heap.size F w [],St w []]) s:=by
   intro s hs
   refine Yga.ind (mot:=(fun (s:Int)=>∀ (_:Unit),G (Yjq w F r) [.code Yom,.inLoop Yom,.inBlock 0,.code Ys8] [(0,.slice A2 n3 c4),(1,.slice A7 n8 c9),(5,.int .i64 s)] [] [Sm w.heap.size F w [],St w []])) ?_ hs
   clear hs s
   intro x23 o1 h hO1
   show ∀ (_:Unit),G (Yjq w F r) [.code Yom,.inLoop Yom,.inBlock 0,.code Ys8] [(0,.slice A2 n3 c4),(1,.slice A7 n8 c9),(5,.int .i64 x23)] [] [Sm w.heap.size F w [],St w []]
   intro _
   have h:Yiq x1 x6 x23 o1:=h
   unfold Yiq at h
   refine Yg4 rfl<|Yg4 rfl<|Yfy rfl rfl<|Yfx 0 rfl (Yg1 rfl) gn rfl<|Yfx 1 rfl (Yg1 rfl) gn rfl<|Yfx 2 rfl (Ygn Ym9 rfl h5.hq) gn rfl<|Yfx 3 rfl (Ygh rfl rfl rfl) gn rfl<|Yg7 4 rfl ?_
   by_cases hp34:x23 < (x1.length:Int)
   ·have h:=Ygg hp34 h
    refine Ygm rfl _ rfl ((decide_eq_true hp34))<|Ygp rfl<|Yg4 rfl<|Ygk rfl<|Yg4 rfl ?_
    obtain ⟨hb35,h⟩:=h
    obtain ⟨hb37,h⟩:=h
    have hns:Region.noSelect (Code.ops q36c24)=true:=by kernel_rfl
    refine Yjr [] 9 rfl rfl mix rfl (.c 0 rfl (.c 1 rfl .n))<|wfv 0 rfl (Yg1 rfl) gn hns rfl<|wfv 1 rfl (Yg1 rfl) gn hns rfl ?_
    have hr41:=Rw.readF (s:=St w []) (hl:=Yi0) (h1:=Yig) h5 hb35
    refine wfv 2 rfl (Yht (s:=St w []) Yl7 rfl rfl h5 hb35) gn hns rfl<|wfv 3 rfl (Ylx (St w []) Yr1 rfl hr41 rfl (me 1 rfl)) gn hns rfl<|wfv 4 rfl (Yg1 rfl) gn hns rfl<|wfv 5 rfl (Yg1 rfl) gn hns rfl ?_
    have hr42:=Rw.readF (s:=St w []) (hl:=Yi0) (h1:=Yig) h10 hb37
    refine wfv 6 rfl (Yht (s:=St w []) Yl7 rfl rfl h10 hb37) gn hns rfl<|wfv 7 rfl (Ylx (St w []) Yr1 rfl hr42 rfl (me 1 rfl)) gn hns rfl<|wfv 8 rfl (Yp1 eq_36 rfl rfl (Ypr (ix x1 x23) (ix x6 x23))) gn hns rfl<|Ykm (by kernel_rfl) ?_
    by_cases hp43:ix x1 x23=ix x6 x23
    ·have h:=Ygg hp43 h
     refine Ygj rfl _ rfl ((nf (decide_eq_true hp43)))<|Ygp rfl<|Ygo<|Yfy rfl rfl<|Yfx 0 rfl (Yg1 rfl) gn rfl<|Yfx 1 rfl (Ygh rfl rfl rfl) gn rfl<|Yfx 2 rfl (Yg3 rfl) gn rfl<|Yg7 3 rfl<|Ygt ?_
     have ih:=Out.inl hO1 h
     exact Yhq [0,1] (ih ()) ⟨rfl,rfl,rfl,trivial⟩ (.slnil) rfl
    ·have h:=Ygf hp43 h
     refine Ygm rfl _ rfl ((nt (decide_eq_false hp43)))<|Yg4 rfl<|Yfy rfl rfl<|Yfx 0 rfl (Yg3 rfl) gn rfl<|Yg7 1 rfl ?_
     have h:=Out.inr hO1 h
     refine Ygu [.bool false] rfl Try.func36 rfl (.tmp rfl (.nil)) fun wr hLr=>?_
     have hMr:=hLr.pk0 (.c 1 rfl .n)
     show Yiz w F  r (.returned (Yhi [.bool false])) wr
     rw [h]
     exact ⟨rfl,hMr⟩
   ·have h:=Ygf hp34 h
    refine Ygj rfl _ rfl ((decide_eq_false hp34))<|Yit [.code Ys8] rfl rfl<|Yg4 rfl<|Yfy rfl rfl<|Yfx 0 rfl (Yg3 rfl) gn rfl<|Yg7 1 rfl ?_
    have h:=Out.inr hO1 h
    refine Ygu [.bool true] rfl Try.func36 rfl (.tmp rfl (.nil)) fun wr hLr=>?_
    have hMr:=hLr.pk0 (.c 1 rfl .n)
    show Yiz w F  r (.returned (Yhi [.bool true])) wr
    rw [h]
    exact ⟨rfl,hMr⟩
  exact Yhq [0,1] (key1 _ h ()) ⟨rfl,rfl,rfl,trivial⟩ (.slnil) rfl
 ·have h:=Ygf hp11 h
  refine Ygm rfl _ rfl ((neib hp11))<|Yg4 rfl<|Yfy rfl rfl<|Yfx 0 rfl (Yg3 rfl) gn rfl<|Yg7 1 rfl ?_
  refine Ygu [.bool false] rfl Try.func36 rfl (.tmp rfl (.nil)) fun wr hLr=>?_
  have hMr:=hLr.pk0 (.c 1 rfl .n)
  show Yiz w F  r (.returned (Yhi [.bool false])) wr
  rw [h]
  exact ⟨rfl,hMr⟩
noncomputable abbrev q35c4:=Code.snd (Code.snd (Yhf Try.f35))
noncomputable abbrev q35c6:=Code.snd (Code.fst (Code.snd (Yhf Try.f35)))
noncomputable abbrev Ypn:=Code.snd q35c4
noncomputable abbrev Yok:=Code.fst (Code.fst (Code.snd (Code.fst q35c4)))
noncomputable abbrev q35c26:=Code.fst (Code.fst (Code.fst (Code.snd Yok)))
noncomputable abbrev Ypa:=Code.snd Ypn
noncomputable abbrev Yog:=Code.fst (Code.fst (Code.snd (Code.fst Ypn)))
noncomputable abbrev q35c47:=Code.fst (Code.fst (Code.fst (Code.snd Yog)))
noncomputable abbrev Ys4:=Code.snd Ypa
noncomputable abbrev Yoo:=Code.fst (Code.fst (Code.snd (Code.fst Ypa)))
noncomputable abbrev q35c68:=Code.fst (Code.fst (Code.fst (Code.snd Yoo)))
abbrev Yhz (w:World) (F:Nat→Prop) (r:Bool):Ending→World→Prop:=fun e w'=>e=.returned (.bool r)∧B.Loc w w' [] [St w []]
noncomputable abbrev Yh8 (w:World) (F:Nat→Prop) (r:Bool):Cx:=⟨Try.prog,35,Try.f35,105,Yhz w F  r,w⟩
theorem Ynb (w:World) (F:Nat→Prop) (x1:Yfz) (x14:Yfz) (A2:Option Addr) (n3:Nat) (c4:Nat) (A6:Option Addr) (n7:Nat) (c8:Nat) (A10:Option Addr) (n11:Nat) (c12:Nat) (A15:Option Addr) (n16:Nat) (c17:Nat) (A19:Option Addr) (n20:Nat) (c21:Nat) (A23:Option Addr) (n24:Nat) (c25:Nat) (h5:Rw Ygi w (St w []).av A2 n3 c4 x1.terms) (h9:Rw Yh1 w (St w []).av A6 n7 c8 x1.syms) (h13:Rw Ygs w (St w []).av A10 n11 c12 x1.prods) (h18:Rw Ygi w (St w []).av A15 n16 c17 x14.terms) (h22:Rw Yh1 w (St w []).av A19 n20 c21 x14.syms) (h26:Rw Ygs w (St w []).av A23 n24 c25 x14.prods) (hF:∀ b,F b→b < w.heap.size∧∀ o ∈ ([]:List (List Nat)),b ∉ o) (hL0:B.Loc w w [] [Sm w.heap.size F w [],St w []]) (r:Bool) (h:Yk5 x1 x14 r):Calls Try.prog 35 #[.agg #[.slice A2 n3 c4,.slice A6 n7 c8,.slice A10 n11 c12],.agg #[.slice A15 n16 c17,.slice A19 n20 c21,.slice A23 n24 c25]] w (Yhz w F  r):=by
 unfold Yk5 at h
 refine Ygx (vs:=[.agg #[.slice A2 n3 c4,.slice A6 n7 c8,.slice A10 n11 c12],.agg #[.slice A15 n16 c17,.slice A19 n20 c21,.slice A23 n24 c25]]) 105 Try.func35 rfl Try.ntmps35 rfl hL0 ?_
 show G (Yh8 w F r) _ _ _ _
 refine Yg4 rfl<|Yfy rfl rfl ?_
 refine Yh3 0 rfl (Ym6 [.slice A2 n3 c4,.slice A6 n7 c8,.slice A10 n11 c12] rfl rfl rfl fun gb27=>?_) gn
 refine Yh3 1 rfl (Ym6 [.slice A15 n16 c17,.slice A19 n20 c21,.slice A23 n24 c25] rfl rfl rfl fun gb29=>?_) gn
 refine Yfx 2 rfl (Yg3 rfl) gn rfl<|Yg7 3 rfl<|Yg4 rfl<|Yg4 rfl ?_
 have j1:∀ (x34:Bool) (h:Yio x1 x14 x34 r) ,G (Yh8 w F r) [.code q35c6,.code q35c4] [(2,.pointer (some ⟨gb27,0,none⟩)),(3,.pointer (some ⟨gb29,0,none⟩)),(32,.bool x34)] [.box gb29 26 [.slice A15 n16 c17,.slice A19 n20 c21,.slice A23 n24 c25],.box gb27 26 [.slice A2 n3 c4,.slice A6 n7 c8,.slice A10 n11 c12]] [Sm w.heap.size F w [],St w []]:=by
  intro x34 h
  unfold Yio at h
  by_cases hp35:x34=true
  ·have h:=Ygg hp35 h
   refine Ygm rfl _ rfl (hp35)<|Yg4 rfl<|Yfy rfl rfl<|Yfx 0 rfl (Yg3 rfl) gn rfl<|Yg7 1 rfl ?_
   refine Ygu [.bool false] rfl Try.func35 rfl (.tmp rfl (.nil)) fun wr hLr=>?_
   have hMr:=hLr.pk0 (.c 1 rfl .n)
   show Yhz w F  r (.returned (Yhi [.bool false])) wr
   rw [h]
   exact ⟨rfl,hMr⟩
  ·have h:=Ygf hp35 h
   refine Ygj rfl _ rfl ((bf hp35))<|Ygp rfl<|Yg4 rfl<|Yg4 rfl<|Yfy rfl rfl<|Yfx 0 rfl (Yg3 rfl) gn rfl<|Yg7 1 rfl<|Ygk rfl<|Yiu rfl ?_
   have key2:∀ s,Yga (fun (s:Int) o=>Yj9 x1 x14 s o) s r→(fun (s:Int)=>∀ (_:Unit),G (Yh8 w F r) [.code Yok,.inLoop Yok,.inBlock 0,.code Ypn] [(2,.pointer (some ⟨gb27,0,none⟩)),(3,.pointer (some ⟨gb29,0,none⟩)),(5,.int .i64 s)] [.box gb29 26 [.slice A15 n16 c17,.slice A19 n20 c21,.slice A23 n24 c25],.box gb27 26 [.slice A2 n3 c4,.slice A6 n7 c8,.slice A10 n11 c12]] [Sm w.heap.size F w [],St w []]) s:=by
    intro s hs
    refine Yga.ind (mot:=(fun (s:Int)=>∀ (_:Unit),G (Yh8 w F r) [.code Yok,.inLoop Yok,.inBlock 0,.code Ypn] [(2,.pointer (some ⟨gb27,0,none⟩)),(3,.pointer (some ⟨gb29,0,none⟩)),(5,.int .i64 s)] [.box gb29 26 [.slice A15 n16 c17,.slice A19 n20 c21,.slice A23 n24 c25],.box gb27 26 [.slice A2 n3 c4,.slice A6 n7 c8,.slice A10 n11 c12]] [Sm w.heap.size F w [],St w []])) ?_ hs
    clear hs s
    intro x1426 o1 h hO1
    show ∀ (_:Unit),G (Yh8 w F r) [.code Yok,.inLoop Yok,.inBlock 0,.code Ypn] [(2,.pointer (some ⟨gb27,0,none⟩)),(3,.pointer (some ⟨gb29,0,none⟩)),(5,.int .i64 x1426)] [.box gb29 26 [.slice A15 n16 c17,.slice A19 n20 c21,.slice A23 n24 c25],.box gb27 26 [.slice A2 n3 c4,.slice A6 n7 c8,.slice A10 n11 c12]] [Sm w.heap.size F w [],St w []]
    intro _
    have h:Yj9 x1 x14 x1426 o1:=h
    unfold Yj9 at h
    refine Yg4 rfl<|Yg4 rfl<|Yfy rfl rfl<|Yfx 0 rfl (Yg1 rfl) gn rfl<|Yfx 1 rfl (Ygb Yi3 rfl) gn rfl<|Yfx 2 rfl (Yge 1 Ykl rfl rfl rfl) gn rfl<|Yfx 3 rfl (Ygn Ylt rfl h5.hq) gn rfl<|Yfx 4 rfl (Ygh rfl rfl rfl) gn rfl<|Yg7 5 rfl ?_
    by_cases hp2816:x1426 < (x1.terms.length:Int)
    ·have h:=Ygg hp2816 h
     refine Ygm rfl _ rfl ((decide_eq_true hp2816))<|Ygp rfl<|Yg4 rfl<|Ygk rfl<|Yg4 rfl ?_
     obtain ⟨hb2817,h⟩:=h
     obtain ⟨hb2819,h⟩:=h
     have hns:Region.noSelect (Code.ops q35c26)=true:=by kernel_rfl
     refine Yjr [] 11 rfl rfl mix rfl (.c 0 rfl (.c 1 rfl .n))<|wfv 0 rfl (Ygb Yi3 rfl) gn hns rfl<|wfv 1 rfl (Yge 1 Ykl rfl rfl rfl) gn hns rfl<|wfv 2 rfl (Yg1 rfl) gn hns rfl ?_
     have hr2823:=Rw.readF (s:=St w []) (hl:=Yjz) (h1:=Yk0) h5 hb2817
     refine wfv 3 rfl (Yht (s:=St w []) Ypf rfl rfl h5 hb2817) gn hns rfl<|wfv 4 rfl (Ylx (St w []) ld_58 rfl hr2823 rfl (me 1 rfl)) gn hns rfl<|wfv 5 rfl (Ygb Yi3 rfl) gn hns rfl<|wfv 6 rfl (Yge 0 Ykl rfl rfl rfl) gn hns rfl<|wfv 7 rfl (Yg1 rfl) gn hns rfl ?_
     have hr2824:=Rw.readF (s:=St w []) (hl:=Yjz) (h1:=Yk0) h18 hb2819
     refine wfv 8 rfl (Yht (s:=St w []) Ypf rfl rfl h18 hb2819) gn hns rfl<|wfv 9 rfl (Ylx (St w []) ld_58 rfl hr2824 rfl (me 1 rfl)) gn hns rfl<|wfv 10 rfl (Yp1 eq_58 rfl rfl (Ynp (ix x1.terms x1426) (ix x14.terms x1426))) gn hns rfl<|Ykm (by kernel_rfl) ?_
     by_cases hp2825:ix x1.terms x1426=ix x14.terms x1426
     ·have h:=Ygg hp2825 h
      refine Ygj rfl _ rfl ((nf (decide_eq_true hp2825)))<|Ygp rfl<|Ygo<|Yfy rfl rfl<|Yfx 0 rfl (Yg1 rfl) gn rfl<|Yfx 1 rfl (Ygh rfl rfl rfl) gn rfl<|Yfx 2 rfl (Yg3 rfl) gn rfl<|Yg7 3 rfl<|Ygt ?_
      have ih:=Out.inl hO1 h
      exact Yhq [0,1] (ih ()) ⟨rfl,rfl,rfl,trivial⟩ (.cons_cons _ (.cons_cons _ (.slnil))) rfl
     ·have h:=Ygf hp2825 h
      refine Ygm rfl _ rfl ((nt (decide_eq_false hp2825)))<|Yg4 rfl<|Yfy rfl rfl<|Yfx 0 rfl (Yg3 rfl) gn rfl<|Yg7 1 rfl ?_
      have h:=Out.inr hO1 h
      refine Ygu [.bool false] rfl Try.func35 rfl (.tmp rfl (.nil)) fun wr hLr=>?_
      have hMr:=hLr.pk0 (.c 1 rfl .n)
      show Yhz w F  r (.returned (Yhi [.bool false])) wr
      rw [h]
      exact ⟨rfl,hMr⟩
    ·have h:=Ygf hp2816 h
     refine Ygj rfl _ rfl ((decide_eq_false hp2816))<|Yit [.code Ypn] rfl rfl<|Yg4 rfl<|Yg4 rfl<|Yfy rfl rfl<|Yfx 0 rfl (Yg3 rfl) gn rfl<|Yg7 1 rfl<|Ygk rfl<|Yiu rfl ?_
     have key3:∀ s,Yga (fun (s:Int) o=>Yja x1 x14 s o) s o1→(fun (s:Int)=>∀ (_:Unit),G (Yh8 w F r) [.code Yog,.inLoop Yog,.inBlock 2,.code Ypa] [(2,.pointer (some ⟨gb27,0,none⟩)),(3,.pointer (some ⟨gb29,0,none⟩)),(6,.int .i64 s)] [.box gb29 26 [.slice A15 n16 c17,.slice A19 n20 c21,.slice A23 n24 c25],.box gb27 26 [.slice A2 n3 c4,.slice A6 n7 c8,.slice A10 n11 c12]] [Sm w.heap.size F w [],St w []]) s:=by
      intro s hs
      refine Yga.ind (mot:=(fun (s:Int)=>∀ (_:Unit),G (Yh8 w F r) [.code Yog,.inLoop Yog,.inBlock 2,.code Ypa] [(2,.pointer (some ⟨gb27,0,none⟩)),(3,.pointer (some ⟨gb29,0,none⟩)),(6,.int .i64 s)] [.box gb29 26 [.slice A15 n16 c17,.slice A19 n20 c21,.slice A23 n24 c25],.box gb27 26 [.slice A2 n3 c4,.slice A6 n7 c8,.slice A10 n11 c12]] [Sm w.heap.size F w [],St w []])) ?_ hs
      clear hs s
      intro x3286 o2 h hO2
      show ∀ (_:Unit),G (Yh8 w F r) [.code Yog,.inLoop Yog,.inBlock 2,.code Ypa] [(2,.pointer (some ⟨gb27,0,none⟩)),(3,.pointer (some ⟨gb29,0,none⟩)),(6,.int .i64 x3286)] [.box gb29 26 [.slice A15 n16 c17,.slice A19 n20 c21,.slice A23 n24 c25],.box gb27 26 [.slice A2 n3 c4,.slice A6 n7 c8,.slice A10 n11 c12]] [Sm w.heap.size F w [],St w []]
      intro _
      have h:Yja x1 x14 x3286 o2:=h
      unfold Yja at h
      refine Yg4 rfl<|Yg4 rfl<|Yfy rfl rfl<|Yfx 0 rfl (Yg1 rfl) gn rfl<|Yfx 1 rfl (Ygb Yih rfl) gn rfl<|Yfx 2 rfl (Yge 1 Yl1 rfl rfl rfl) gn rfl<|Yfx 3 rfl (Ygn Ymd rfl h9.hq) gn rfl<|Yfx 4 rfl (Ygh rfl rfl rfl) gn rfl<|Yg7 5 rfl ?_
      by_cases hp3746:x3286 < (x1.syms.length:Int)
      ·have h:=Ygg hp3746 h
       refine Ygm rfl _ rfl ((decide_eq_true hp3746))<|Ygp rfl<|Yg4 rfl<|Ygk rfl<|Yg4 rfl ?_
       obtain ⟨hb3747,h⟩:=h
       obtain ⟨hb3749,h⟩:=h
       have hns:Region.noSelect (Code.ops q35c47)=true:=by kernel_rfl
       refine Yjr [] 11 rfl rfl mix rfl (.c 0 rfl (.c 1 rfl .n))<|wfv 0 rfl (Ygb Yih rfl) gn hns rfl<|wfv 1 rfl (Yge 1 Yl1 rfl rfl rfl) gn hns rfl<|wfv 2 rfl (Yg1 rfl) gn hns rfl ?_
       have hr3753:=Rw.readF (s:=St w []) (hl:=Ylk) (h1:=Ylj) h9 hb3747
       refine wfv 3 rfl (Yht (s:=St w []) Ypk rfl rfl h9 hb3747) gn hns rfl<|wfv 4 rfl (Ylx (St w []) ld_61 rfl hr3753 rfl (me 1 rfl)) gn hns rfl<|wfv 5 rfl (Ygb Yih rfl) gn hns rfl<|wfv 6 rfl (Yge 0 Yl1 rfl rfl rfl) gn hns rfl<|wfv 7 rfl (Yg1 rfl) gn hns rfl ?_
       have hr3754:=Rw.readF (s:=St w []) (hl:=Ylk) (h1:=Ylj) h22 hb3749
       refine wfv 8 rfl (Yht (s:=St w []) Ypk rfl rfl h22 hb3749) gn hns rfl<|wfv 9 rfl (Ylx (St w []) ld_61 rfl hr3754 rfl (me 1 rfl)) gn hns rfl<|wfv 10 rfl (Yp1 eq_61 rfl rfl (Ypw (ix x1.syms x3286) (ix x14.syms x3286))) gn hns rfl<|Ykm (by kernel_rfl) ?_
       by_cases hp3755:ix x1.syms x3286=ix x14.syms x3286
       ·have h:=Ygg hp3755 h
        refine Ygj rfl _ rfl ((nf (decide_eq_true hp3755)))<|Ygp rfl<|Ygo<|Yfy rfl rfl<|Yfx 0 rfl (Yg1 rfl) gn rfl<|Yfx 1 rfl (Ygh rfl rfl rfl) gn rfl<|Yfx 2 rfl (Yg3 rfl) gn rfl<|Yg7 3 rfl<|Ygt ?_
        have ih:=Out.inl hO2 h
        exact Yhq [0,1] (ih ()) ⟨rfl,rfl,rfl,trivial⟩ (.cons_cons _ (.cons_cons _ (.slnil))) rfl
       ·have h:=Ygf hp3755 h
        refine Ygm rfl _ rfl ((nt (decide_eq_false hp3755)))<|Yg4 rfl<|Yfy rfl rfl<|Yfx 0 rfl (Yg3 rfl) gn rfl<|Yg7 1 rfl ?_
        have h:=Out.inr hO2 h
        have h:=Out.inr hO1 h
        refine Ygu [.bool false] rfl Try.func35 rfl (.tmp rfl (.nil)) fun wr hLr=>?_
        have hMr:=hLr.pk0 (.c 1 rfl .n)
        show Yhz w F  r (.returned (Yhi [.bool false])) wr
        rw [h]
        exact ⟨rfl,hMr⟩
      ·have h:=Ygf hp3746 h
       refine Ygj rfl _ rfl ((decide_eq_false hp3746))<|Yit [.code Ypa] rfl rfl<|Yg4 rfl<|Yg4 rfl<|Yfy rfl rfl<|Yfx 0 rfl (Yg3 rfl) gn rfl<|Yg7 1 rfl<|Ygk rfl<|Yiu rfl ?_
       have key4:∀ s,Yga (fun (s:Int) o=>Yjf x1 x14 s o) s o2→(fun (s:Int)=>∀ (_:Unit),G (Yh8 w F r) [.code Yoo,.inLoop Yoo,.inBlock 4,.code Ys4] [(2,.pointer (some ⟨gb27,0,none⟩)),(3,.pointer (some ⟨gb29,0,none⟩)),(7,.int .i64 s)] [.box gb29 26 [.slice A15 n16 c17,.slice A19 n20 c21,.slice A23 n24 c25],.box gb27 26 [.slice A2 n3 c4,.slice A6 n7 c8,.slice A10 n11 c12]] [Sm w.heap.size F w [],St w []]) s:=by
        intro s hs
        refine Yga.ind (mot:=(fun (s:Int)=>∀ (_:Unit),G (Yh8 w F r) [.code Yoo,.inLoop Yoo,.inBlock 4,.code Ys4] [(2,.pointer (some ⟨gb27,0,none⟩)),(3,.pointer (some ⟨gb29,0,none⟩)),(7,.int .i64 s)] [.box gb29 26 [.slice A15 n16 c17,.slice A19 n20 c21,.slice A23 n24 c25],.box gb27 26 [.slice A2 n3 c4,.slice A6 n7 c8,.slice A10 n11 c12]] [Sm w.heap.size F w [],St w []])) ?_ hs
        clear hs s
        intro x3906 o3 h hO3
        show ∀ (_:Unit),G (Yh8 w F r) [.code Yoo,.inLoop Yoo,.inBlock 4,.code Ys4] [(2,.pointer (some ⟨gb27,0,none⟩)),(3,.pointer (some ⟨gb29,0,none⟩)),(7,.int .i64 x3906)] [.box gb29 26 [.slice A15 n16 c17,.slice A19 n20 c21,.slice A23 n24 c25],.box gb27 26 [.slice A2 n3 c4,.slice A6 n7 c8,.slice A10 n11 c12]] [Sm w.heap.size F w [],St w []]
        intro _
        have h:Yjf x1 x14 x3906 o3:=h
        unfold Yjf at h
        refine Yg4 rfl<|Yg4 rfl<|Yfy rfl rfl<|Yfx 0 rfl (Yg1 rfl) gn rfl<|Yfx 1 rfl (Ygb Ygw rfl) gn rfl<|Yfx 2 rfl (Yge 1 Yip rfl rfl rfl) gn rfl<|Yfx 3 rfl (Ygn Ymb rfl h13.hq) gn rfl<|Yfx 4 rfl (Ygh rfl rfl rfl) gn rfl<|Yg7 5 rfl ?_
        by_cases hp4056:x3906 < (x1.prods.length:Int)
        ·have h:=Ygg hp4056 h
         refine Ygm rfl _ rfl ((decide_eq_true hp4056))<|Ygp rfl<|Yg4 rfl<|Ygk rfl<|Yg4 rfl ?_
         obtain ⟨hb4057,h⟩:=h
         obtain ⟨hb4065,h⟩:=h
         by_cases hp4073:(ix x1.prods x3906).lhs=(ix x14.prods x3906).lhs
         ·have h:=Ygg hp4073 h
          obtain ⟨r4091,hv4092,h⟩:=h
          have hns:Region.noSelect (Code.ops q35c68)=true:=by kernel_rfl
          refine Yjr [] 29 rfl rfl mix rfl (.c 0 rfl (.c 1 rfl .n))<|wfv 0 rfl (Ygb Ygw rfl) gn hns rfl<|wfv 1 rfl (Yge 1 Yip rfl rfl rfl) gn hns rfl<|wfv 2 rfl (Yg1 rfl) gn hns rfl ?_
          obtain ⟨ce4137,hK4138,hr4136⟩:=Rw.read (s:=St w []) h13 hb4057
          obtain ⟨A4139,n4140,c4141,rfl,h4142⟩:=hK4138
          refine wfv 3 rfl (Yht (s:=St w []) Yj6 rfl rfl h13 hb4057) gn hns rfl<|wfv 4 rfl (Yjh Yk7 rfl) gn hns rfl<|wfv 5 rfl (Yjt (kk:=(x3906:Int).toNat * 2) (j:=0) (St w []) Ym5 rfl hr4136 rfl (me 1 rfl)) gn hns rfl<|wfv 6 rfl (Ygb Ygw rfl) gn hns rfl<|wfv 7 rfl (Yge 0 Yip rfl rfl rfl) gn hns rfl<|wfv 8 rfl (Yg1 rfl) gn hns rfl ?_
          obtain ⟨ce4144,hK4145,hr4143⟩:=Rw.read (s:=St w []) h26 hb4065
          obtain ⟨A4146,n4147,c4148,rfl,h4149⟩:=hK4145
          refine wfv 9 rfl (Yht (s:=St w []) Yj6 rfl rfl h26 hb4065) gn hns rfl<|wfv 10 rfl (Yjh Yk7 rfl) gn hns rfl<|wfv 11 rfl (Yjt (kk:=(x3906:Int).toNat * 2) (j:=0) (St w []) Ym5 rfl hr4143 rfl (me 1 rfl)) gn hns rfl<|wfv 12 rfl (Ygh rfl rfl rfl) gn hns rfl<|wfv 13 rfl (Yg1 rfl) gn hns rfl<|Yo8 89 rfl ((eqib hp4073))<|wfv 14 rfl (Ygb Ygw rfl) (gy 89 rfl rfl) hns rfl<|wfv 15 rfl (Yge 1 Yip rfl rfl rfl) (gy 89 rfl rfl) hns rfl<|wfv 16 rfl (Yg1 rfl) (gy 89 rfl rfl) hns rfl ?_
          obtain ⟨ce4151,hK4152,hr4150⟩:=Rw.read (s:=St w []) h13 hb4057
          obtain ⟨A4153,n4154,c4155,rfl,h4156⟩:=hK4152
          refine wfv 17 rfl (Yht (s:=St w []) Yj6 rfl rfl h13 hb4057) (gy 89 rfl rfl) hns rfl<|wfv 18 rfl (Yjh Yke rfl) (gy 89 rfl rfl) hns rfl<|wfv 19 rfl (Yjt (kk:=(x3906:Int).toNat * 2) (j:=1) (St w []) Ymv rfl hr4150 rfl (me 1 rfl)) (gy 89 rfl rfl) hns rfl<|wfv 20 rfl (Ygb Ygw rfl) (gy 89 rfl rfl) hns rfl<|wfv 21 rfl (Yge 0 Yip rfl rfl rfl) (gy 89 rfl rfl) hns rfl<|wfv 22 rfl (Yg1 rfl) (gy 89 rfl rfl) hns rfl ?_
          obtain ⟨ce4158,hK4159,hr4157⟩:=Rw.read (s:=St w []) h26 hb4065
          obtain ⟨A4160,n4161,c4162,rfl,h4163⟩:=hK4159
          refine wfv 23 rfl (Yht (s:=St w []) Yj6 rfl rfl h26 hb4065) (gy 89 rfl rfl) hns rfl<|wfv 24 rfl (Yjh Yke rfl) (gy 89 rfl rfl) hns rfl<|wfv 25 rfl (Yjt (kk:=(x3906:Int).toNat * 2) (j:=1) (St w []) Ymv rfl hr4157 rfl (me 1 rfl)) (gy 89 rfl rfl) hns rfl ?_
          refine Yk4 [26] (by kernel_rfl) rfl ⟨on_s 26 rfl (gy 89 rfl rfl) rfl (Yhy [.slice A4153 n4154 c4155,.slice A4160 n4161 c4162] rfl Try.func36 rfl rfl rfl fun w4170 hL4171=>?_),trivial⟩
          have hp4172:=pmI hL4171 .n (.c 0 rfl (.c 1 rfl .n)) (by kernel_rfl)
          refine Calls.mono (Yl0 w4170 (Fl ([]:List Ygl)) ((ix x1.prods x3906).rhs) ((ix x14.prods x3906).rhs) A4153 n4154 c4155 A4160 n4161 c4162 (Rw.mono h4156 (hL4171.toSt hp4172 (me 1 rfl))) (Rw.mono h4163 (hL4171.toSt hp4172 (me 1 rfl))) (hL4171.hFl hp4172 (Yj0 [] rfl)) (hL4171.into hp4172 _) r4091 hv4092) ?_
          rintro _ w4173 ⟨rfl,hM4174⟩
          have hL4175:=hL4171.call hp4172 hM4174
          refine ⟨_,_,_,rfl,hL4175,?_⟩
          refine ⟨Yj0 [0,1] rfl,Yj0 [0,1] rfl,?_⟩
          refine wfv 27 rfl (Ymc rfl) (gy 89 rfl rfl) hns rfl<|wfv 28 rfl (Ygv (b:=false) rfl rfl) gn hns rfl<|Ykm (by kernel_rfl) ?_
          by_cases hp4176:r4091=true
          ·have h:=Ygg hp4176 h
           refine Ygj rfl _ rfl ((nf hp4176))<|Ygp rfl<|Ygo<|Yfy rfl rfl<|Yfx 0 rfl (Yg1 rfl) gn rfl<|Yfx 1 rfl (Ygh rfl rfl rfl) gn rfl<|Yfx 2 rfl (Yg3 rfl) gn rfl<|Yg7 3 rfl<|Ygt ?_
           have ih:=Out.inl hO3 h
           exact Yhq [0,1] (ih ()) ⟨rfl,rfl,rfl,trivial⟩ (.cons_cons _ (.cons_cons _ (.slnil))) rfl
          ·have h:=Ygf hp4176 h
           refine Ygm rfl _ rfl ((nt (bf hp4176)))<|Yg4 rfl<|Yfy rfl rfl<|Yfx 0 rfl (Yg3 rfl) gn rfl<|Yg7 1 rfl ?_
           have h:=Out.inr hO3 h
           have h:=Out.inr hO2 h
           have h:=Out.inr hO1 h
           refine Ygu [.bool false] rfl Try.func35 rfl (.tmp rfl (.nil)) fun wr hLr=>?_
           have hMr:=hLr.pk0 (.c 1 rfl .n)
           show Yhz w F  r (.returned (Yhi [.bool false])) wr
           rw [h]
           exact ⟨rfl,hMr⟩
         ·have h:=Ygf hp4073 h
          have hns:Region.noSelect (Code.ops q35c68)=true:=by kernel_rfl
          refine Yjr [] 29 rfl rfl mix rfl (.c 0 rfl (.c 1 rfl .n))<|wfv 0 rfl (Ygb Ygw rfl) gn hns rfl<|wfv 1 rfl (Yge 1 Yip rfl rfl rfl) gn hns rfl<|wfv 2 rfl (Yg1 rfl) gn hns rfl ?_
          obtain ⟨ce4192,hK4193,hr4191⟩:=Rw.read (s:=St w []) h13 hb4057
          obtain ⟨A4194,n4195,c4196,rfl,h4197⟩:=hK4193
          refine wfv 3 rfl (Yht (s:=St w []) Yj6 rfl rfl h13 hb4057) gn hns rfl<|wfv 4 rfl (Yjh Yk7 rfl) gn hns rfl<|wfv 5 rfl (Yjt (kk:=(x3906:Int).toNat * 2) (j:=0) (St w []) Ym5 rfl hr4191 rfl (me 1 rfl)) gn hns rfl<|wfv 6 rfl (Ygb Ygw rfl) gn hns rfl<|wfv 7 rfl (Yge 0 Yip rfl rfl rfl) gn hns rfl<|wfv 8 rfl (Yg1 rfl) gn hns rfl ?_
          obtain ⟨ce4199,hK4200,hr4198⟩:=Rw.read (s:=St w []) h26 hb4065
          obtain ⟨A4201,n4202,c4203,rfl,h4204⟩:=hK4200
          refine wfv 9 rfl (Yht (s:=St w []) Yj6 rfl rfl h26 hb4065) gn hns rfl<|wfv 10 rfl (Yjh Yk7 rfl) gn hns rfl<|wfv 11 rfl (Yjt (kk:=(x3906:Int).toNat * 2) (j:=0) (St w []) Ym5 rfl hr4198 rfl (me 1 rfl)) gn hns rfl<|wfv 12 rfl (Ygh rfl rfl rfl) gn hns rfl<|wfv 13 rfl (Yg1 rfl) gn hns rfl<|Yo8 89 rfl ((neib hp4073))<|wfp 14 rfl (ps 89 rfl rfl rfl) hns rfl<|wfp 15 rfl (ps 89 rfl rfl rfl) hns rfl<|wfp 16 rfl (ps 89 rfl rfl rfl) hns rfl<|wfp 17 rfl (ps 89 rfl rfl rfl) hns rfl<|wfp 18 rfl (ps 89 rfl rfl rfl) hns rfl<|wfp 19 rfl (ps 89 rfl rfl rfl) hns rfl ?_
          refine wfp 20 rfl (ps 89 rfl rfl rfl) hns rfl<|wfp 21 rfl (ps 89 rfl rfl rfl) hns rfl<|wfp 22 rfl (ps 89 rfl rfl rfl) hns rfl<|wfp 23 rfl (ps 89 rfl rfl rfl) hns rfl<|wfp 24 rfl (ps 89 rfl rfl rfl) hns rfl<|wfp 25 rfl (ps 89 rfl rfl rfl) hns rfl<|wfp 26 rfl (ps 89 rfl rfl rfl) hns rfl<|wfp 27 rfl (ps 89 rfl rfl rfl) hns rfl<|wfv 28 rfl (Ygv (b:=true) rfl rfl) gn hns rfl<|Ykm (by kernel_rfl)<|Ygm rfl _ rfl (rfl)<|Yg4 rfl ?_
          refine Yfy rfl rfl<|Yfx 0 rfl (Yg3 rfl) gn rfl<|Yg7 1 rfl ?_
          have h:=Out.inr hO3 h
          have h:=Out.inr hO2 h
          have h:=Out.inr hO1 h
          refine Ygu [.bool false] rfl Try.func35 rfl (.tmp rfl (.nil)) fun wr hLr=>?_
          have hMr:=hLr.pk0 (.c 1 rfl .n)
          show Yhz w F  r (.returned (Yhi [.bool false])) wr
          rw [h]
          exact ⟨rfl,hMr⟩
        ·have h:=Ygf hp4056 h
         refine Ygj rfl _ rfl ((decide_eq_false hp4056))<|Yit [.code Ys4] rfl rfl<|Yg4 rfl<|Yfy rfl rfl<|Yfx 0 rfl (Yg3 rfl) gn rfl<|Yg7 1 rfl ?_
         have h:=Out.inr hO3 h
         have h:=Out.inr hO2 h
         have h:=Out.inr hO1 h
         refine Ygu [.bool true] rfl Try.func35 rfl (.tmp rfl (.nil)) fun wr hLr=>?_
         have hMr:=hLr.pk0 (.c 1 rfl .n)
         show Yhz w F  r (.returned (Yhi [.bool true])) wr
         rw [h]
         exact ⟨rfl,hMr⟩
       exact Yhq [0,1] (key4 _ h ()) ⟨rfl,rfl,rfl,trivial⟩ (.cons_cons _ (.cons_cons _ (.slnil))) rfl
     exact Yhq [0,1] (key3 _ h ()) ⟨rfl,rfl,rfl,trivial⟩ (.cons_cons _ (.cons_cons _ (.slnil))) rfl
   exact Yhq [0,1] (key2 _ h ()) ⟨rfl,rfl,rfl,trivial⟩ (.cons_cons _ (.cons_cons _ (.slnil))) rfl
 refine Yfy rfl rfl<|Yfx 0 rfl (Ygb Yi3 rfl) gn rfl<|Yfx 1 rfl (Yge 1 Ykl rfl rfl rfl) gn rfl<|Yfx 2 rfl (Ygn Ylt rfl h5.hq) gn rfl<|Yfx 3 rfl (Ygb Yi3 rfl) gn rfl<|Yfx 4 rfl (Yge 0 Ykl rfl rfl rfl) gn rfl<|Yfx 5 rfl (Ygn Ylt rfl h18.hq) gn rfl<|Yfx 6 rfl (Ygh rfl rfl rfl) gn rfl<|Yfx 7 rfl (Yg1 rfl) gn rfl ?_
 by_cases hp4205:(x1.terms.length:Int)=(x14.terms.length:Int)
 ·have h:=Ygg hp4205 h
  refine Yhr 15 rfl ((eqib hp4205))<|Yfx 8 rfl (Ygb Yih rfl) (gy 15 rfl rfl) rfl<|Yfx 9 rfl (Yge 1 Yl1 rfl rfl rfl) (gy 15 rfl rfl) rfl<|Yfx 10 rfl (Ygn Ymd rfl h9.hq) (gy 15 rfl rfl) rfl<|Yfx 11 rfl (Ygb Yih rfl) (gy 15 rfl rfl) rfl<|Yfx 12 rfl (Yge 0 Yl1 rfl rfl rfl) (gy 15 rfl rfl) rfl<|Yfx 13 rfl (Ygn Ymd rfl h22.hq) (gy 15 rfl rfl) rfl<|Yfx 14 rfl (Ygh rfl rfl rfl) (gy 15 rfl rfl) rfl<|Yfx 15 rfl (Ygv (b:=false) rfl rfl) gn rfl<|Yfx 16 rfl (Yg1 rfl) gn rfl ?_
  by_cases hp4206:(x1.syms.length:Int)=(x14.syms.length:Int)
  ·have h:=Ygg hp4206 h
   refine Yhr 24 rfl ((eqib hp4206))<|Yfx 17 rfl (Ygb Ygw rfl) (gy 24 rfl rfl) rfl<|Yfx 18 rfl (Yge 1 Yip rfl rfl rfl) (gy 24 rfl rfl) rfl<|Yfx 19 rfl (Ygn Ymb rfl h13.hq) (gy 24 rfl rfl) rfl<|Yfx 20 rfl (Ygb Ygw rfl) (gy 24 rfl rfl) rfl<|Yfx 21 rfl (Yge 0 Yip rfl rfl rfl) (gy 24 rfl rfl) rfl<|Yfx 22 rfl (Ygn Ymb rfl h26.hq) (gy 24 rfl rfl) rfl<|Yfx 23 rfl (Ygh rfl rfl rfl) (gy 24 rfl rfl) rfl<|Yfx 24 rfl (Ygv (b:=false) rfl rfl) gn rfl<|Yg7 25 rfl ?_
   exact Yhq [0,1] (j1 ((x1.prods.length:Int) != (x14.prods.length:Int)) h) ⟨rfl,rfl,rfl,trivial⟩ (.cons_cons _ (.cons_cons _ (.slnil))) rfl
  ·have h:=Ygf hp4206 h
   refine Yhr 24 rfl ((neib hp4206))<|Yg5 17 rfl (ps 24 rfl rfl rfl)<|Yg5 18 rfl (ps 24 rfl rfl rfl)<|Yg5 19 rfl (ps 24 rfl rfl rfl)<|Yg5 20 rfl (ps 24 rfl rfl rfl)<|Yg5 21 rfl (ps 24 rfl rfl rfl)<|Yg5 22 rfl (ps 24 rfl rfl rfl)<|Yg5 23 rfl (ps 24 rfl rfl rfl)<|Yfx 24 rfl (Ygv (b:=true) rfl rfl) gn rfl<|Yg7 25 rfl ?_
   exact Yhq [0,1] (j1 true h) ⟨rfl,rfl,rfl,trivial⟩ (.cons_cons _ (.cons_cons _ (.slnil))) rfl
 ·have h:=Ygf hp4205 h
  refine Yhr 15 rfl ((neib hp4205))<|Yg5 8 rfl (ps 15 rfl rfl rfl)<|Yg5 9 rfl (ps 15 rfl rfl rfl)<|Yg5 10 rfl (ps 15 rfl rfl rfl)<|Yg5 11 rfl (ps 15 rfl rfl rfl)<|Yg5 12 rfl (ps 15 rfl rfl rfl)<|Yg5 13 rfl (ps 15 rfl rfl rfl)<|Yg5 14 rfl (ps 15 rfl rfl rfl)<|Yfx 15 rfl (Ygv (b:=true) rfl rfl) gn rfl<|Yfx 16 rfl (Yg1 rfl) gn rfl<|Yg5 17 rfl (ps 24 rfl rfl rfl)<|Yg5 18 rfl (ps 24 rfl rfl rfl) ?_
  refine Yg5 19 rfl (ps 24 rfl rfl rfl)<|Yg5 20 rfl (ps 24 rfl rfl rfl)<|Yg5 21 rfl (ps 24 rfl rfl rfl)<|Yg5 22 rfl (ps 24 rfl rfl rfl)<|Yg5 23 rfl (ps 24 rfl rfl rfl)<|Yfx 24 rfl (Ygv (b:=true) rfl rfl) gn rfl<|Yg7 25 rfl ?_
  exact Yhq [0,1] (j1 true h) ⟨rfl,rfl,rfl,trivial⟩ (.cons_cons _ (.cons_cons _ (.slnil))) rfl
noncomputable abbrev q15c6:=Code.snd (Code.snd (Code.snd (Yhf Try.f15)))
noncomputable abbrev Ypm:=Code.fst (Code.fst (Code.snd (Code.fst (Code.snd (Code.snd (Yhf Try.f15))))))
abbrev Yjk (w:World) (F:Nat→Prop) (r:Bool):Ending→World→Prop:=fun e w'=>e=.returned (.bool r)∧B.Loc w w' [] [St w []]
noncomputable abbrev Yjl (w:World) (F:Nat→Prop) (r:Bool):Cx:=⟨Try.prog,15,Try.f15,30,Yjk w F  r,w⟩
theorem Ykx (w:World) (F:Nat→Prop) (x1:List Yg6) (k6:Nat) (x9:List Yg6) (A2:Option Addr) (n3:Nat) (c4:Nat) (A10:Option Addr) (n11:Nat) (c12:Nat) (h5:Rw Yh0 w (St w []).av A2 n3 c4 x1) (hk7:k6≤n3) (h13:Rw Yh0 w (St w []).av A10 n11 c12 x9) (hF:∀ b,F b→b < w.heap.size∧∀ o ∈ ([]:List (List Nat)),b ∉ o) (hL0:B.Loc w w [] [Sm w.heap.size F w [],St w []]) (r:Bool) (h:Yij x1 k6 x9 r):Calls Try.prog 15 #[.slice A2 k6 c4,.slice A10 n11 c12] w (Yjk w F  r):=by
 unfold Yij at h
 have h8:=Rw.pre h5 hk7
 refine Ygx (vs:=[.slice A2 k6 c4,.slice A10 n11 c12]) 30 Try.func15 rfl Try.ntmps15 rfl hL0 ?_
 show G (Yjl w F r) _ _ _ _
 refine Yg4 rfl<|Yfy rfl rfl<|Yfx 0 rfl (Yg3 rfl) gn rfl<|Yg7 1 rfl<|Yg4 rfl<|Yfy rfl rfl<|Yfx 0 rfl (Yg1 rfl) gn rfl<|Yfx 1 rfl (Yg1 rfl) gn rfl<|Yfx 2 rfl (Ygn Ym9 rfl h13.hq) gn rfl<|Yfx 3 rfl (Ygh rfl rfl rfl) gn rfl ?_
 obtain ⟨hb14,h⟩:=h
 have hle15:(w64 ((x9.length:Int) + 20):Int).toNat≤n3:=by have q:=hb14; have q1:=h5.hq; omega
 have h16:=Rw.pre h5 hle15
 refine Yfx 4 rfl (Ymg (i:=w64 ((x9.length:Int) + 20)) Yl7 rfl rfl (by have q:=hb14; have q1:=h5.hq; have q2:=h5.hn; omega) h8.hn rfl) gn rfl<|Yfx 5 rfl (Yg3 rfl) gn rfl<|Yg7 6 rfl<|Yg4 rfl<|Yg4 rfl<|Yfy rfl rfl<|Yfx 0 rfl (Yg3 rfl) gn rfl<|Yg7 1 rfl<|Ygk rfl<|Yiu rfl ?_
 have key1:∀ s,Yga (fun (s:Int) o=>Yik x9 x1 k6 s o) s r→(fun (s:Int)=>∀ (_:Unit),G (Yjl w F r) [.code Ypm,.inLoop Ypm,.inBlock 0,.code q15c6] [(0,.slice A2 k6 c4),(1,.slice A10 n11 c12),(5,.slice A2 ((w64 ((x9.length:Int) + 20):Int).toNat) c4),(6,.int .i64 s)] [] [Sm w.heap.size F w [],St w []]) s:=by
  intro s hs
  refine Yga.ind (mot:=(fun (s:Int)=>∀ (_:Unit),G (Yjl w F r) [.code Ypm,.inLoop Ypm,.inBlock 0,.code q15c6] [(0,.slice A2 k6 c4),(1,.slice A10 n11 c12),(5,.slice A2 ((w64 ((x9.length:Int) + 20):Int).toNat) c4),(6,.int .i64 s)] [] [Sm w.heap.size F w [],St w []])) ?_ hs
  clear hs s
  intro x21 o1 h hO1
  show ∀ (_:Unit),G (Yjl w F r) [.code Ypm,.inLoop Ypm,.inBlock 0,.code q15c6] [(0,.slice A2 k6 c4),(1,.slice A10 n11 c12),(5,.slice A2 ((w64 ((x9.length:Int) + 20):Int).toNat) c4),(6,.int .i64 x21)] [] [Sm w.heap.size F w [],St w []]
  intro _
  have h:Yik x9 x1 k6 x21 o1:=h
  unfold Yik at h
  refine Yg4 rfl<|Yg4 rfl<|Yfy rfl rfl<|Yfx 0 rfl (Yg1 rfl) gn rfl<|Yfx 1 rfl (Ygh rfl rfl rfl) gn rfl<|Yg7 2 rfl ?_
  by_cases hp34:x21 < 20
  ·have h:=Ygg hp34 h
   refine Ygm rfl _ rfl ((decide_eq_true hp34))<|Ygp rfl<|Yg4 rfl<|Ygk rfl<|Yg4 rfl<|Yfy rfl rfl<|Yfx 0 rfl (Yg1 rfl) gn rfl<|Yfx 1 rfl (Yg1 rfl) gn rfl<|Yfx 2 rfl (Ygn Ym9 rfl h13.hq) gn rfl<|Yfx 3 rfl (Yg1 rfl) gn rfl<|Yfx 4 rfl (Ygh rfl rfl rfl) gn rfl ?_
   obtain ⟨hb35,h⟩:=h
   have hr36:=Rw.readF (s:=St w []) (hl:=Yi0) (h1:=Yig) h16 hb35
   refine Yfx 5 rfl (Yht (s:=St w []) Yl7 rfl rfl h16 hb35) gn rfl<|Yfx 6 rfl (Ylx (St w []) Yr1 rfl hr36 rfl (me 1 rfl)) gn rfl<|Yfx 7 rfl (Yg1 rfl) gn rfl<|Yfx 8 rfl (Ygh rfl rfl rfl) gn rfl<|Yfx 9 rfl (Ymz #[.int .i64 (w64 (900 + x21)),.string (⟨#[109,97,114,107]⟩:ByteArray),.string (⟨#[]⟩:ByteArray)] bd_36 rfl (by kernel_rfl)) gn rfl<|Yfx 10 rfl (Yp1 eq_36 rfl rfl (Ypr (ix (x1.take ((w64 ((x9.length:Int) + 20):Int).toNat)) (w64 ((x9.length:Int) + x21))) (⟨w64 (900 + x21),(⟨#[109,97,114,107]⟩:ByteArray),(⟨#[]⟩:ByteArray)⟩:Yg6))) gn rfl<|Yg7 11 rfl ?_
   by_cases hp37:ix (x1.take ((w64 ((x9.length:Int) + 20):Int).toNat)) (w64 ((x9.length:Int) + x21))=(⟨w64 (900 + x21),(⟨#[109,97,114,107]⟩:ByteArray),(⟨#[]⟩:ByteArray)⟩:Yg6)
   ·have h:=Ygg hp37 h
    refine Ygj rfl _ rfl ((nf (decide_eq_true hp37)))<|Ygp rfl<|Ygo<|Yfy rfl rfl<|Yfx 0 rfl (Yg1 rfl) gn rfl<|Yfx 1 rfl (Ygh rfl rfl rfl) gn rfl<|Yfx 2 rfl (Yg3 rfl) gn rfl<|Yg7 3 rfl<|Ygt ?_
    have ih:=Out.inl hO1 h
    exact Yhq [0,1] (ih ()) ⟨rfl,rfl,rfl,rfl,trivial⟩ (.slnil) rfl
   ·have h:=Ygf hp37 h
    refine Ygm rfl _ rfl ((nt (decide_eq_false hp37)))<|Yg4 rfl<|Yfy rfl rfl<|Yfx 0 rfl (Yg3 rfl) gn rfl<|Yg7 1 rfl ?_
    have h:=Out.inr hO1 h
    refine Ygu [.bool false] rfl Try.func15 rfl (.tmp rfl (.nil)) fun wr hLr=>?_
    have hMr:=hLr.pk0 (.c 1 rfl .n)
    show Yjk w F  r (.returned (Yhi [.bool false])) wr
    rw [h]
    exact ⟨rfl,hMr⟩
  ·have h:=Ygf hp34 h
   refine Ygj rfl _ rfl ((decide_eq_false hp34))<|Yit [.code q15c6] rfl rfl<|Yg4 rfl<|Yfy rfl rfl<|Yfx 0 rfl (Yg1 rfl) gn rfl<|Yfx 1 rfl (Yg1 rfl) gn rfl ?_
   obtain ⟨r41,hv42,h⟩:=h
   refine Yh3 2 rfl (Yhy [.slice A2 k6 c4,.slice A10 n11 c12] rfl Try.func36 rfl rfl rfl fun w38 hL39=>?_) gn
   have hp40:=pmI hL39 .n .n (by kernel_rfl)
   refine Calls.mono (Yl0 w38 (Fl ([]:List Ygl)) (x1.take k6) x9 A2 k6 c4 A10 n11 c12 (Rw.mono h8 (hL39.toSt hp40 (me 1 rfl))) (Rw.mono h13 (hL39.toSt hp40 (me 1 rfl))) (hL39.hFl hp40 (Yj0 [] rfl)) (hL39.into hp40 _) r41 hv42) ?_
   rintro _ w43 ⟨rfl,hM44⟩
   have hL45:=hL39.call hp40 hM44
   refine ⟨_,_,_,rfl,hL45,?_⟩
   refine Yfx 3 rfl (Yg3 rfl) gn rfl<|Yg7 4 rfl ?_
   have h:=Out.inr hO1 h
   refine Ygu [.bool r41] rfl Try.func15 rfl (.tmp rfl (.nil)) fun wr hLr=>?_
   have hMr:=hLr.pk0 (.c 1 rfl .n)
   show Yjk w F  r (.returned (Yhi [.bool r41])) wr
   rw [h]
   exact ⟨rfl,hMr⟩
 exact Yhq [0,1] (key1 _ h ()) ⟨rfl,rfl,rfl,rfl,trivial⟩ (.slnil) rfl
end Go.Proofs.Ytelafghkjlpojaa.K
