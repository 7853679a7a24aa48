/- The law TreeMakes. Conditions: sizes, numbers are ints. -/
import Derived.Test.YtmekgfcfooghnaaJ18
set_option linter.unusedVariables false
namespace Go.Proofs.Ytmekgfcfooghnaa.L
open Go.Proofs.Ytmekgfcfooghnaa.B Go.Proofs.Ytmekgfcfooghnaa.R
abbrev WR:=List (List Xm4 × Nat)
def rmW (k:List Xm4):List Xm4 × Nat:=(k++Xt4,k.length)
def Xu2:WR:=[([],0),([],0)]
theorem vis_rm (k:List Xm4):Xt7 (rmW k)=k:=Xuz rfl
theorem Yde (l:Xml) (term leaf from_ to:Int):Xqt l term leaf from_ to (Xx3 l term leaf from_ to):=by
 have j1:∀ c:Bool,(c=true↔term < 1∨term≥(l.gram.terms.length:Int))→Xp1 term l from_ to leaf c (Xx3 l term leaf from_ to):=fun c hc=>by
  unfold Xp1 Xx3
  cases c with
  | true=>rw [if_pos rfl,if_pos (hc.1 rfl)]
  | false =>
   have:¬ (term < 1∨term≥(l.gram.terms.length:Int)):=fun h=>by have:=hc.2 h; cases this
   rw [if_neg (by simp),if_neg this]
   exact ⟨by omega,rfl⟩
 unfold Xqt
 by_cases h:term≤0
 ·rw [if_pos h]; exact j1 true (by simp; omega)
 ·rw [if_neg h]; exact j1 _ (by simp; omega)
theorem Yeb (l:Xml) (term leaf from_ to:Int):(Xx3 l term leaf from_ to).length≤1:=by
 unfold Xx3
 split <;> simp
structure Kd1 (kids:List (List Xm4)) (ends:List Int):Prop where
 hk:kids.length≤2 ^ 20
 hw:∀ k ∈ kids,Wf k∧k.length≤2 ^ 17
 he:ends.length≤2 ^ 20
theorem Ydt {l:Xml} (hl:LgOk l) (sym prod:Int) {kids:List (List Xm4)} {ends:List Int} (h:Kd1 kids ends):Xpw l sym prod [] (kids.map rmW++Xu2) kids.length (ends++[-71,-72]) ends.length kids ends true:=by
 obtain ⟨hk,hw,he⟩:=h
 have hw2:∀ k ∈ kids,Wf k∧k.length + 1≤2 ^ 18:=fun k hm=>⟨(hw k hm).1,by have:=(hw k hm).2; omega⟩
 have hR:=Yfo hl (prod:=prod) (kids:=kids) (ends:=ends) (B:=2 ^ 18) (by omega) (by omega) hw2 (by omega)
 have hR2:=Yc9 hl (prod:=prod) (kids:=kids) (ends:=ends) (B:=2 ^ 18) (by omega) (by omega) hw2 (by omega)
 have hRl:=Ydp (l:=l) (prod:=prod) (kids:=kids) (ends:=ends) (B:=2 ^ 18) hw2 (by omega)
 have hml:(kids.map rmW).length=kids.length:=List.length_map ..
 have hvis:((kids.map rmW++Xu2).take kids.length).map Xt7=kids:=by
  rw [List.take_append_of_le_length (by omega),List.take_of_length_le (by omega),List.map_map]
  have:(Xt7 ∘ rmW)=id:=by funext k; exact vis_rm k
  rw [this,List.map_id]
 have hends:(ends++[-71,-72]).take ends.length=ends:=by rw [List.take_append_of_le_length (Nat.le_refl _),List.take_length]
 have w2:w64 ((kids.length:Int) + 2)=((kids.length + 2:Nat):Int):=by rw [Xqy (by omega)]; omega
 have w1:w64 ((kids.length:Int) + 1)=((kids.length + 1:Nat):Int):=by rw [Xqy (by omega)]; omega
 have v2:w64 ((ends.length:Int) + 2)=((ends.length + 2:Nat):Int):=by rw [Xqy (by omega)]; omega
 have v1:w64 ((ends.length:Int) + 1)=((ends.length + 1:Nat):Int):=by rw [Xqy (by omega)]; omega
 have hXl:(kids.map rmW++Xu2).length=kids.length + 2:=by rw [List.length_append,hml]; rfl
 have hEl:(ends++[-71,-72]).length=ends.length + 2:=by simp
 have hX:(kids.map rmW++Xu2).take (kids.length + 2)=kids.map rmW++Xu2:=List.take_of_length_le (by omega)
 have hE:(ends++[-71,-72]).take (ends.length + 2)=ends++[-71,-72]:=List.take_of_length_le (by omega)
 have x0:ix (kids.map rmW++Xu2) (kids.length:Int)=([],0):=by
  rw [Xnk (by omega),List.getElem_append_right (by omega)]; simp [Xu2,hml]
 have x1:ix (kids.map rmW++Xu2) ((kids.length + 1:Nat):Int)=([],0):=by
  rw [Xnk (by omega),List.getElem_append_right (by omega)]; simp [Xu2,hml]
 have y0:ix (ends++[-71,-72]) (ends.length:Int) = -71:=by
  rw [Xnk (by omega),List.getElem_append_right (by omega)]; simp
 have y1:ix (ends++[-71,-72]) ((ends.length + 1:Nat):Int) = -72:=by
  rw [Xnk (by omega),List.getElem_append_right (by omega)]; simp
 unfold Xpw
 rw [hvis,hends,w2,w1,v2,v1,Int.toNat_natCast,Int.toNat_natCast,hX,hE,x0,x1,y0,y1,hXl,hEl]
 refine ⟨_,hR2,_,hR,true,same' (by omega),by omega,by omega,?_⟩
 rw [if_pos rfl]
 refine ⟨true,Ydw (by omega),?_⟩
 rw [if_pos rfl]
 refine ⟨by omega,by omega,?_⟩
 rw [if_neg (by simp [Xqy])]
 refine ⟨by omega,?_⟩
 rw [if_pos rfl]
 refine ⟨by omega,?_⟩
 unfold Xo2
 rw [if_neg (by simp)]
 refine Xmh.cnt kids.length (fun i hi=>?_) ?_
 ·have hix:ix ((kids.map rmW++Xu2).take kids.length) (i:Int)=rmW kids[i]:=by
   rw [List.take_append_of_le_length (by omega),List.take_of_length_le (by omega),Xnk (by omega),List.getElem_map]
  have hki:=hw _ (List.getElem_mem hi)
  have hf:Xwd kids[i]:=by show _≤_; omega
  have hs:=Yfh l sym kids[i]
  unfold Xoy
  rw [if_pos (by omega),Xnk hi,hix,Xpj (by omega)]
  refine ⟨by omega,_,Ye8 sym hf,by rw [List.length_take]; omega,_,?_,true,same' (by omega),?_⟩
  ·show Xto l sym ((kids[i]++Xt4).take kids[i].length) _
   rw [Xuz rfl]
   exact Yf4 l sym hf
  ·rw [if_pos rfl]
   refine ⟨true,stays_ok hf,?_⟩
   rw [if_pos rfl]
 ·unfold Xoy
  rw [if_neg (by omega)]
def mdN (n:Xm4):Xm4:={ n with name:=n.name++(⟨#[113]⟩:ByteArray),to:=w64 (n.to + 1),field:=(⟨#[111,116,104,101,114]⟩:ByteArray) }
theorem Yal {α:Type} {A B:List α} {x y:α}:(A++x :: B).set A.length y=A++y :: B:=by
 rw [List.set_append_right _ _ (Nat.le_refl _),Nat.sub_self,List.set_cons_zero]
theorem Yao {α:Type} [Inhabited α] {A B:List α} {x:α}:ix (A++x :: B) (A.length:Int)=x:=by
 rw [Xnk (by simp),List.getElem_append_right (Nat.le_refl _)]
 simp
theorem over_row {x52:List (List Xm4)} {A B:WR} {k:List Xm4} {n:Nat} (hn:A.length < n) (hnl:x52.length=n) (hle:n≤A.length + 1 + B.length) (hk:k.length≤2 ^ 17) (hs:n≤2 ^ 30) (hnm:∀ m ∈ k,m.name.size≤2 ^ 50) {o:Sum (WR × Int) (Sum (WR × Int) Bool)} (ho:o=.inl (A++rmW (k.map mdN) :: B,((A.length + 1:Nat):Int))) :
  Xmh (fun (s:WR × Int) o=>Xn3 (A.length:Int) x52 s.1 s.2 o) (A++rmW k :: B,0) o:=by
 subst ho
 have key:=Xmh.upto (B:=fun (s:WR × Int) o=>Xn3 (A.length:Int) x52 s.1 s.2 o) (r:=(.inl (A++rmW (k.map mdN) :: B,((A.length + 1:Nat):Int)):Sum (WR × Int) (Sum (WR × Int) Bool))) (fun j=>(A++((k.take j).map mdN++k.drop j++Xt4,k.length) :: B,(j:Int))) k.length (fun j hj=>?_) ?_
 ·exact key
 ·obtain ⟨g1,g2⟩:=Yf7 (g:=mdN) hj
  have hroom:∀ (ys:List Xm4),ys.length=k.length→((ys++Xt4).take k.length).length=k.length:=fun ys h=>by rw [Xuz h,h]
  have hlen:∀ (z:List Xm4 × Nat),((A++z :: B).take n).length=n:=fun z=>by rw [List.length_take,List.length_append,List.length_cons]; omega
  have hset:∀ (v w:Xm4),((k.take j).map mdN++v :: k.drop (j + 1)++Xt4).set j w=(k.take j).map mdN++w :: k.drop (j + 1)++Xt4:=fun v w=>by
   have hl:((k.take j).map mdN).length=j:=by rw [List.length_map,List.length_take]; omega
   have:((k.take j).map mdN++v :: k.drop (j + 1)++Xt4).set ((k.take j).map mdN).length w=(k.take j).map mdN++w :: k.drop (j + 1)++Xt4:=by
    rw [List.append_assoc,List.append_assoc,List.cons_append,Yal,List.cons_append]
   rwa [hl] at this
  have hix:∀ (v:Xm4),ix ((k.take j).map mdN++v :: k.drop (j + 1)++Xt4) (j:Int)=v:=fun v=>by
   have hl:((k.take j).map mdN).length=j:=by rw [List.length_map,List.length_take]; omega
   have:ix ((k.take j).map mdN++v :: k.drop (j + 1)++Xt4) (((k.take j).map mdN).length:Int)=v:=by
    rw [List.append_assoc,List.cons_append,Yao]
   rwa [hl] at this
  have hl3:∀ v:Xm4,((k.take j).map mdN++v :: k.drop (j + 1)).length=k.length:=fun v=>by simp; omega
  show Xn3 (A.length:Int) x52 (A++((k.take j).map mdN++k.drop j++Xt4,k.length) :: B) (j:Int) _
  rw [List.drop_eq_getElem_cons hj]
  unfold Xn3
  rw [Int.toNat_natCast,hnl,hlen,Yao]
  refine ⟨by omega,?_⟩
  dsimp only
  rw [hroom _ (hl3 _),if_pos (by omega),hix,Int.toNat_natCast,Int.toNat_natCast,Xpj (by omega)]
  refine ⟨by omega,?_,_,rfl,_,rfl,?_⟩
  ·have h1:=hnm _ (List.getElem_mem hj)
   have h2:(⟨#[113]⟩:ByteArray).size=1:=rfl
   omega
  rw [hset,Yal,hlen,Yao]
  dsimp only
  rw [hroom _ (hl3 _),hix]
  refine ⟨by omega,by omega,_,rfl,_,rfl,?_⟩
  rw [hset,Yal,hlen,Yao]
  dsimp only
  rw [hroom _ (hl3 _),hix]
  refine ⟨by omega,by omega,_,rfl,_,rfl,?_⟩
  rw [hset,Yal,List.take_succ_eq_append_getElem hj,List.map_append]
  simp only [List.append_assoc,List.map_cons,List.map_nil,List.cons_append,List.nil_append]
  rfl
 ·show Xn3 (A.length:Int) x52 (A++((k.take k.length).map mdN++k.drop k.length++Xt4,k.length) :: B) (k.length:Int) _
  rw [List.take_length,List.drop_length,List.append_nil]
  unfold Xn3
  rw [Int.toNat_natCast,hnl,Yao]
  refine ⟨by rw [List.length_take,List.length_append,List.length_cons]; omega,?_⟩
  dsimp only
  rw [Xuz (List.length_map _),List.length_map,if_neg (by omega),Xpj (by omega)]
  unfold rmW
  rw [List.length_map]
  rfl
theorem makesLaw {l:Xml} (hl:LgOk l) (term leaf from_ to sym prod:Int) {kids:List (List Xm4)} {ends:List Int} (h:Kd1 kids ends) (hnm:∀ k ∈ kids,∀ m ∈ k,m.name.size≤2 ^ 50):Xqj l term leaf from_ to sym prod kids ends true:=by
 have h0:=h
 obtain ⟨hk,hw,he⟩:=h
 have hk40:∀ k ∈ kids,k.length≤2 ^ 40:=fun k hm=>by have:=(hw k hm).2; omega
 obtain ⟨b,hb⟩:=Ycx (l:=kids) (by omega) (fun k hm=>⟨(hw k hm).1,hk40 k hm⟩)
 refine ⟨b,hb,?_⟩
 cases b with
 | true=>rw [if_pos rfl]
 | false =>
 rw [if_neg (by simp)]
 have htl:=Yeb l term leaf from_ to
 refine ⟨_,Token_ok ..,_,Yde ..,true,same' (by omega),?_⟩
 rw [if_pos rfl]
 have key:=Xmh.upto (B:=fun (s:WR × Int) o=>Xnb kids ends l sym prod s.1 s.2 o) (r:=true) (fun j=>((kids.take j).map rmW,(j:Int))) kids.length (fun i hi=>?_) ?_
 ·exact key
 ·show Xnb kids ends l sym prod ((kids.take i).map rmW) (i:Int) _
  unfold Xnb
  have hki:=hw _ (List.getElem_mem hi)
  rw [if_pos (by omega),Xnk hi,Xpj (by omega)]
  refine ⟨by omega,_,roomy_ok (show kids[i].length≤_ by omega),_,rfl,by simp; omega,?_⟩
  rw [List.take_succ_eq_append_getElem hi,List.map_append]
  rfl
 ·show Xnb kids ends l sym prod ((kids.take kids.length).map rmW) (kids.length:Int) _
  rw [List.take_length]
  unfold Xnb
  rw [if_neg (by omega)]
  refine ⟨_,rfl,by simp; omega,by simp; omega,_,rfl,by simp; omega,_,rfl,by simp; omega,by simp; omega,true,?_,?_⟩
  ·rw [Int.toNat_natCast,Int.toNat_natCast,List.nil_append]
   exact Ydt hl sym prod h0
  rw [if_pos rfl,List.nil_append]
  have h1:Kd1 (kids.map fun k=>k.map mdN) ends:=⟨by rw [List.length_map]; exact hk,fun x hx=>by
   obtain ⟨k,hm,rfl⟩:=List.mem_map.1 hx
   refine ⟨fun n hn=>?_,by rw [List.length_map]; exact (hw k hm).2⟩
   obtain ⟨m,hm2,rfl⟩:=List.mem_map.1 hn
   exact (hw k hm).1 m hm2,he⟩
  have hs:=Ydt hl sym prod h1
  have hml:(kids.map fun k=>k.map mdN).length=kids.length:=List.length_map ..
  have key2:=Xmh.upto (B:=fun (s:WR × Int) o=>Xnd kids l sym prod (ends++[-71,-72]) ends s.1 s.2 o) (r:=(.inr true:Sum (WR × Int) Bool)) (fun j=>((kids.take j).map (fun k=>rmW (k.map mdN))++((kids.drop j).map rmW++Xu2),(j:Int))) kids.length (fun i hi=>?_) ?_
  ·exact key2
  ·show Xnd kids l sym prod (ends ++ [-71, -72]) ends ((kids.take i).map (fun k => rmW (k.map mdN)) ++ ((kids.drop i).map rmW ++ Xu2)) (i : Int) _
   have hki:=hw _ (List.getElem_mem hi)
   have hAl:((kids.take i).map (fun k=>rmW (k.map mdN))).length=i:=by rw [List.length_map,List.length_take]; omega
   rw [List.drop_eq_getElem_cons hi,List.map_cons,List.cons_append]
   unfold Xnd
   rw [Int.toNat_natCast,if_pos (by rw [List.length_take]; simp [Xu2]; omega)]
   have:=over_row (x52:=kids) (A:=(kids.take i).map (fun k=>rmW (k.map mdN))) (B:=(kids.drop (i + 1)).map rmW++Xu2) (k:=kids[i]) (n:=kids.length) (by omega) rfl (by rw [hAl]; simp [Xu2]; omega) hki.2 (by omega) (hnm _ (List.getElem_mem hi)) rfl
   rw [hAl] at this
   rw [List.take_succ_eq_append_getElem hi,List.map_append,List.append_assoc]
   exact this
  ·show Xnd kids l sym prod (ends ++ [-71, -72]) ends ((kids.take kids.length).map (fun k => rmW (k.map mdN)) ++ ((kids.drop kids.length).map rmW ++ Xu2)) (kids.length : Int) _
   rw [List.take_length,List.drop_length,List.map_nil,List.nil_append]
   have e1:kids.map (fun k=>rmW (k.map mdN))=(kids.map fun k=>k.map mdN).map rmW:=by rw [List.map_map]; rfl
   rw [e1]
   unfold Xnd
   have hl2:((kids.map fun k=>k.map mdN).map rmW).length=kids.length:=by rw [List.length_map,hml]
   have htk:((kids.map fun k=>k.map mdN).map rmW++Xu2).take kids.length=(kids.map fun k=>k.map mdN).map rmW:=by
    rw [List.take_append_of_le_length (by omega),List.take_of_length_le (by omega)]
   have hv:((kids.map fun k=>k.map mdN).map rmW).map Xt7=kids.map fun k=>k.map mdN:=by
    rw [List.map_map]
    have:(Xt7 ∘ rmW)=id:=by funext k; exact vis_rm k
    rw [this,List.map_id]
   rw [Int.toNat_natCast,Int.toNat_natCast,htk,if_neg (by omega),hv]
   rw [hml] at hs
   refine ⟨_,Yca (by omega) (fun k hm=>by have:=(h1.hw k hm).2; omega),true,?_,rfl⟩
   exact hs
end Go.Proofs.Ytmekgfcfooghnaa.L
