/- Queries: the document's place of a capture. Condition: sizes. -/
import Derived.Test.YtjookebbmfiidaaDoorS6
import Derived.Test.YtjookebbmfiidaaDoorSF
set_option linter.unusedVariables false
namespace Go.Proofs.YtjookebbmfiidaaDoor.L
open Go.Proofs.YtjookebbmfiidaaDoor.B Go.Proofs.YtjookebbmfiidaaDoor.R
end Go.Proofs.YtjookebbmfiidaaDoor.L
set_option linter.unusedVariables false
namespace Go.Proofs.YtjookebbmfiidaaDoor.L
open Go.Proofs.YtjookebbmfiidaaDoor.B Go.Proofs.YtjookebbmfiidaaDoor.R
theorem Xlj {v:List Ag} (hv:v.length≤2 ^ 50):∃ b,Pq v b:=by
  have inner:∀ (m:Nat) (i:Nat) (op:List Int),i < v.length→op.length≤m→op.length≤65536→∃ o,Bl (fun (s:List Int) o=>Gh (i:Int) v s o) op o∧(o=.inr true∨∃ op':List Int,o=.inl (op',((i + 1:Nat):Int))∧op'.length≤65536):=by
    intro m
    induction m with
    | zero =>
      intro i op hi hm h6
      have:op=[]:=List.eq_nil_of_length_eq_zero (by omega)
      subst this
      refine ⟨.inl ([(ix v (i:Int)).kids],((i + 1:Nat):Int)),.done ?_,.inr ⟨_,rfl,by simp⟩⟩
      unfold Gh
      rw [if_neg (by simp)]
      refine ⟨⟨by omega,by omega⟩,_,rfl,by simp,?_⟩
      rw [if_neg (by simp),Dn (by omega)]
      rfl
    | succ m ih =>
      intro i op hi hm h6
      have push:∀ l:List Int,l.length≤65536→∃ o,(∃ x275:List Int,(x275=l++([(ix v (i:Int)).kids]:List Int)) ∧
   (x275.length * 8≤211106232532992) ∧
   if (x275.length:Int) > 65536 then
    (.inr o:Sum (List Int) (Sum ((List Int) × Int) Bool))=.inr (.inr (true))
   else
    (.inr o:Sum (List Int) (Sum ((List Int) × Int) Bool))=.inr (.inl (x275,w64 ((i:Int) + 1))))∧(o=.inr true∨∃ op':List Int,o=.inl (op',((i + 1:Nat):Int))∧op'.length≤65536):=fun l hl=>by
        have hll:(l++[(ix v (i:Int)).kids]).length=l.length + 1:=by simp
        by_cases g:l.length + 1 > 65536
        · exact ⟨.inr true,⟨_,rfl,by rw [hll]; omega,by rw [if_pos (by omega)]⟩,.inl rfl⟩
        · refine ⟨.inl (l ++ [(ix v (i : Int)).kids], ((i + 1 : Nat) : Int)), ⟨_, rfl, by rw [hll]; omega, ?_⟩, .inr ⟨_, rfl, by omega⟩⟩
          rw [if_neg (by omega),Dn (by omega)]
          rfl
      by_cases g0:op.length=0
      · exact ih i op hi (by omega) h6
      · have e1 : w64 ((op.length : Int) - 1) = ((op.length - 1 : Nat) : Int) := by rw [Dn (by omega)]; omega
        by_cases g:ix op ((op.length - 1:Nat):Int)≤0
        · obtain ⟨o, o1, o2⟩ := ih i (op.take (op.length - 1)) hi (by rw [List.length_take]; omega) (by rw [List.length_take]; omega)
          refine ⟨o,.next ?_ o1,o2⟩
          unfold Gh
          rw [if_pos (by omega),e1]
          refine ⟨⟨by omega,by omega⟩,?_⟩
          rw [if_pos g]
          exact ⟨⟨by omega,by omega,by omega⟩,_,rfl,by rw [Int.toNat_natCast]⟩
        · obtain ⟨o, o1, o2⟩ := push (op.set (op.length - 1) (w64 ((ix op ((op.length - 1 : Nat) : Int)) - 1))) (by rw [List.length_set]; exact h6)
          refine ⟨o,.done ?_,o2⟩
          unfold Gh
          rw [if_pos (by omega),e1]
          refine ⟨⟨by omega,by omega⟩,?_⟩
          rw [if_neg g]
          exact ⟨_,by rw [Int.toNat_natCast],⟨by omega,by omega⟩,o1⟩
  have outer:∀ (d i:Nat) (op:List Int),v.length - i=d→i≤v.length→op.length≤65536→∃ b,Bl (fun (s:(List Int) × Int) o=>Gj v s.1 s.2 o) (op,(i:Int)) b:=by
    intro d
    induction d with
    | zero =>
      intro i op hd hi h6
      refine ⟨false,.done ?_⟩
      dsimp only
      unfold Gj
      rw [if_neg (by omega)]
    | succ d ih =>
      intro i op hd hi h6
      obtain ⟨o,o1,o2⟩:=inner _ i op (by omega) (Nat.le_refl _) h6
      have hb:Gj v op (i:Int) o:=by
        unfold Gj
        rw [if_pos (by omega)]
        exact o1
      rcases o2 with rfl | ⟨op',rfl,h7⟩
      · exact ⟨true,.done hb⟩
      · obtain ⟨b, b1⟩ := ih (i + 1) op' (by omega) (by omega) h7
        exact ⟨b,.next hb b1⟩
  exact outer _ 0 [] rfl (Nat.zero_le _) (by decide)
end Go.Proofs.YtjookebbmfiidaaDoor.L
set_option linter.unusedVariables false
namespace Go.Proofs.YtjookebbmfiidaaDoor.L
open Go.Proofs.YtjookebbmfiidaaDoor.B Go.Proofs.YtjookebbmfiidaaDoor.R
def mkW (t:Tk):Ak:=⟨t.1,t.2,0,0⟩
theorem Xks (x:Ag):(Zt x).length≤2:=by unfold Zt; split <;> simp
theorem capW_len (x:Ag):(Su x).length≤2:=by unfold Su; split <;> simp
theorem Wx:∀ g:PF,(Eu g).length≤7 * (Bo g).length
 | .nil=>Nat.le_refl _
 | .cons x k s=>by
  have h1:=Wx k
  have h2:=Wx s
  have h3:=Xks x
  have h4:=capW_len x
  simp only [Eu,Bo,List.length_append,List.length_cons]
  split
  ·simp only [List.length_cons,List.length_nil]; omega
  ·simp only [List.length_cons,List.length_append,List.length_nil]; omega
theorem Xbd {l:List Ak} (hl:l.length + 1≤2 ^ 41) (k:Int) (s:ByteArray):Ep k s l (l++[mkW (k,s)]):=⟨_,rfl,by rw [List.length_append,List.length_cons,List.length_nil]; omega,rfl⟩
theorem qj2 (q:Ar) {i:Nat} {x:Ag} (hx:ix q.nodes (i:Int)=x) (at_:Int) {l:List Ak} (hl:l.length + 2≤2 ^ 41):La q (i:Int) l at_ (q,at_,l++(Su x).map mkW):=by
 unfold La Su
 rw [hx]
 by_cases g:x.capture=noB
 ·rw [if_pos g,if_pos g,List.map_nil,List.append_nil]
 ·rw [if_neg g,if_neg g]
  refine ⟨_,Xbd (by omega) 5 U2,_,Xbd (by rw [List.length_append,List.length_cons,List.length_nil]; omega) 1 _,?_⟩
  simp [mkW]
theorem Xkr {q:Ar} {a b:List Ag} {x:Ag} (h:q.nodes=a++x :: b):a.length < q.nodes.length∧ix q.nodes (a.length:Int)=x:=by
 have hl:a.length < q.nodes.length:=by rw [h,List.length_append,List.length_cons]; omega
 refine ⟨hl,?_⟩
 rw [Wi hl]
 have:q.nodes[a.length]? = some x:=by rw [h,List.getElem?_append_right (Nat.le_refl _),Nat.sub_self]; rfl
 rw [List.getElem?_eq_getElem hl] at this
 exact Option.some.inj this
theorem qkids {q:Ar} (hq:q.nodes.length≤2 ^ 40) {n i:Nat} {x:Ag} (hx:ix q.nodes (i:Int)=x) (hn:∀ (x:Ag) (k:PF) (a b:List Ag) (l:List Ak),q.nodes=a++x :: (Bo k++b)→Xbq (.cons x k .nil)→Ro nmQ (.cons x k .nil)=true→(Bo k).length + 1≤n→l.length + 7 * ((Bo k).length + 1)≤2 ^ 40→Jf n q (a.length:Int) l (q,((a.length + 1 + (Bo k).length:Nat):Int),l++(Eu (.cons x k .nil)).map mkW)) :
  ∀ (g:PF) (a b:List Ag) (l:List Ak) (j:Nat) (r:Ar × Int × (List Ak)),q.nodes=a++(Bo g++b)→Xbq g→Ro nmQ g=true→(Bo g).length≤n→l.length + 7 * (Bo g).length≤2 ^ 40→x.kids=((j + I8 g:Nat):Int)→j + I8 g≤2 ^ 40→La q (i:Int) ((l++(Eu g).map mkW)++[mkW (5,clB)]) ((a.length + (Bo g).length:Nat):Int) r →
   Bl (fun (s:Int × (List Ak) × Int) o=>Lh q (i:Int) (Jf n) s.1 s.2.1 s.2.2 o) ((j:Int),l,(a.length:Int)) r
 | .nil,a,b,l,j,r,h,hf,hg,hl,hw,hk,hjb,hr=>by
  refine .done ?_
  dsimp only
  unfold Lh
  rw [hx,hk,if_neg (by simp only [I8]; omega)]
  refine ⟨_,Xbd (by omega) 5 clB,r,rfl,?_⟩
  simp only [Eu,List.map_nil,List.append_nil,Bo,List.length_nil,Nat.add_zero] at hr
  exact hr
 | .cons y k s,a,b,l,j,r,h,hf,hg,hl,hw,hk,hjb,hr=>by
  simp only [I8] at hjb
  obtain ⟨f1,f2,f3⟩:=hf
  obtain ⟨g1,g2,g3,g4,g5,g6⟩:=Qa hg
  have hg1:Ro nmQ (.cons y k .nil)=true:=by
   unfold Ro at hg ⊢
   rw [Bool.and_eq_true] at hg ⊢
   exact ⟨hg.1,rfl⟩
  have hlen:(Bo (.cons y k s)).length=(Bo k).length + 1 + (Bo s).length:=by simp only [Bo,List.length_cons,List.length_append]; omega
  have hwk:=Wx (.cons y k .nil)
  simp only [Bo,List.append_nil,List.length_cons] at hwk
  have h1:q.nodes=a++y :: (Bo k++(Bo s++b)):=by rw [h]; simp [Bo]
  have hp:=hn y k a (Bo s++b) l h1 ⟨f1,f2,trivial⟩ hg1 (by omega) (by omega)
  refine .next (s':=(((j + 1:Nat):Int),l++(Eu (.cons y k .nil)).map mkW,((a.length + 1 + (Bo k).length:Nat):Int))) ?_ ?_
  ·dsimp only
   unfold Lh
   have hql:(Bo (.cons y k s)).length≤2 ^ 40:=by
    have:=congrArg List.length h
    rw [List.length_append,List.length_append] at this
    omega
   have hcl:=Z8 (.cons y k s)
   rw [hx,hk,if_pos (by simp only [I8]; omega)]
   refine ⟨_,hp,?_⟩
   have hj:x.kids=((j + I8 (.cons y k s):Nat):Int):=hk
   rw [Dn (by omega)]
   rfl
  ·have h2:q.nodes=(a++y :: Bo k)++(Bo s++b):=by rw [h1]; simp
   have hal:(a++y :: Bo k).length=a.length + 1 + (Bo k).length:=by simp only [List.length_append,List.length_cons]; omega
   have:=qkids hq hx hn s (a++y :: Bo k) b (l++(Eu (.cons y k .nil)).map mkW) (j + 1) r h2 f3 g6 (by omega) (by rw [List.length_append,List.length_map]; omega) (by rw [hk]; simp only [I8]; omega) (by omega) (by
    rw [hal,show a.length + 1 + (Bo k).length + (Bo s).length=a.length + (Bo (.cons y k s)).length by omega]
    have e:(l++(Eu (.cons y k .nil)).map mkW)++(Eu s).map mkW=l++(Eu (.cons y k s)).map mkW:=by simp [Eu]
    rw [e]
    exact hr)
   rw [hal] at this
   exact this
theorem qnode {q:Ar} (hq:q.nodes.length≤2 ^ 40):∀ (n:Nat) (x:Ag) (k:PF) (a b:List Ag) (l:List Ak),q.nodes=a++x :: (Bo k++b)→Xbq (.cons x k .nil)→Ro nmQ (.cons x k .nil)=true→(Bo k).length + 1≤n→l.length + 7 * ((Bo k).length + 1)≤2 ^ 40→Jf n q (a.length:Int) l (q,((a.length + 1 + (Bo k).length:Nat):Int),l++(Eu (.cons x k .nil)).map mkW)
 | 0,x,k,a,b,l,h,hf,hg,hl,hw=>by omega
 | n + 1,x,k,a,b,l,h,hf,hg,hl,hw=>by
  obtain ⟨f1,f2,f3⟩:=hf
  obtain ⟨g1,g2,g3,g4,g5,g6⟩:=Qa hg
  obtain ⟨ha,hx⟩:=Xkr h
  have hF:=Xks x
  have hwp:(Eu (.cons x k .nil)).map mkW=(Zt x).map mkW++(((if x.lit=true then [(2,x.name)] else (5,opB) :: Qb x :: (Eu k++[(5,clB)])).map mkW)++(Su x).map mkW):=by simp [Eu]
  show O5 (Jf n) q (a.length:Int) l _
  unfold O5
  refine ⟨⟨by omega,by omega⟩,?_⟩
  rw [hwp]
  have j1:∀ l0:List Ak,l0=l++(Zt x).map mkW→O4 q (a.length:Int) (Jf n) l0 (q,((a.length + 1 + (Bo k).length:Nat):Int),l++((Zt x).map mkW++(((if x.lit=true then [(2,x.name)] else (5,opB) :: Qb x :: (Eu k++[(5,clB)])).map mkW)++(Su x).map mkW))):=fun l0 e0=>by
   have hl0:l0.length≤l.length + 2:=by rw [e0,List.length_append,List.length_map]; omega
   unfold O4
   rw [hx]
   by_cases hlit:x.lit=true
   ·obtain ⟨_,rfl⟩:=g1 hlit
    rw [if_pos hlit,if_pos hlit]
    refine ⟨_,Xbd (by omega) 2 x.name,?_⟩
    rw [Dn (by omega)]
    have:=qj2 q hx ((a.length:Int) + 1) (l:=l0++[mkW (2,x.name)]) (by rw [List.length_append,List.length_cons,List.length_nil]; omega)
    have e:(l0++[mkW (2,x.name)])++(Su x).map mkW=l++((Zt x).map mkW++([(2,x.name)].map mkW++(Su x).map mkW)):=by rw [e0]; simp
    rw [e] at this
    exact this
   ·rw [if_neg hlit,if_neg hlit]
    refine ⟨_,Xbd (by omega) 5 opB,?_⟩
    have j3:O1 q (a.length:Int) (Jf n) ((l0++[mkW (5,opB)])++[mkW (Qb x)]) (q,((a.length + 1 + (Bo k).length:Nat):Int),l++((Zt x).map mkW++(((5,opB) :: Qb x :: (Eu k++[(5,clB)])).map mkW++(Su x).map mkW))):=by
     unfold O1
     rw [Dn (by omega)]
     have h2:q.nodes=(a++[x])++(Bo k++b):=by rw [h]; simp
     have hal:(a++[x]).length=a.length + 1:=by simp
     have hwk:=Wx k
     have hcl:=Z8 k
     have hql:(Bo k).length≤2 ^ 40:=by omega
     have:=qkids hq hx (qnode hq n) k (a++[x]) b ((l0++[mkW (5,opB)])++[mkW (Qb x)]) 0 _ h2 f2 g5 (by omega) (by simp only [List.length_append,List.length_cons,List.length_nil]; omega) (by rw [f1,Nat.zero_add]) (by omega) (qj2 q hx _ (by simp only [List.length_append,List.length_cons,List.length_nil,List.length_map]; omega))
     rw [hal] at this
     have e:(((l0++[mkW (5,opB)])++[mkW (Qb x)])++(Eu k).map mkW++[mkW (5,clB)])++(Su x).map mkW=l++((Zt x).map mkW++(((5,opB) :: Qb x :: (Eu k++[(5,clB)])).map mkW++(Su x).map mkW)):=by rw [e0]; simp
     rw [e] at this
     exact this
    by_cases hn:x.name=noB
    ·rw [if_pos hn]
     have en:Qb x=(1,Tq):=by unfold Qb; rw [if_pos hn]
     rw [en] at j3 ⊢
     exact ⟨_,Xbd (by rw [List.length_append,List.length_cons,List.length_nil]; omega) 1 Tq,j3⟩
    ·rw [if_neg hn]
     have en:Qb x=(1,x.name):=by unfold Qb; rw [if_neg hn]
     rw [en] at j3 ⊢
     exact ⟨_,Xbd (by rw [List.length_append,List.length_cons,List.length_nil]; omega) 1 x.name,j3⟩
  rw [hx]
  by_cases gf:x.field=noB
  ·rw [if_pos gf]
   exact j1 l (by unfold Zt; rw [if_pos gf]; simp)
  ·rw [if_neg gf]
   refine ⟨_,Xbd (by omega) 1 x.field,_,Xbd (by rw [List.length_append,List.length_cons,List.length_nil]; omega) 5 Xfw,j1 _ ?_⟩
   unfold Zt
   rw [if_neg gf]
   simp
theorem qconds {q:Ar} (hc:q.conds.length≤16) {l:List Ak} (hl:l.length≤2 ^ 40) {J:ByteArray} (hJ:Ux (l++(q.conds.flatMap Iz).map mkW) J):Bl (fun (s:Int × (List Ak)) o=>Lt q s.1 s.2 o) (0,l) (J,0):=by
 have hcw:∀ c:Bh,(Iz c).length≤6:=fun c=>by unfold Iz; by_cases g:c.b=noB <;> simp [g]
 have key:∀ (d i:Nat) (m:List Ak),q.conds.length - i=d→i≤q.conds.length→m.length≤2 ^ 40 + 6 * i→m++((q.conds.drop i).flatMap Iz).map mkW=l++(q.conds.flatMap Iz).map mkW→Bl (fun (s:Int × (List Ak)) o=>Lt q s.1 s.2 o) ((i:Int),m) (J,0):=by
  intro d
  induction d with
  | zero =>
   intro i m hd hi hm he
   have:i=q.conds.length:=by omega
   subst this
   rw [List.drop_length,List.flatMap_nil,List.map_nil,List.append_nil] at he
   refine .done ?_
   dsimp only
   unfold Lt
   rw [if_neg (Int.lt_irrefl _),he]
   exact ⟨_,hJ,rfl⟩
  | succ d ih =>
   intro i m hd hi hm he
   have hlt:i < q.conds.length:=by omega
   have hcx:=Wi hlt
   have hdr:q.conds.drop i=q.conds[i] :: q.conds.drop (i + 1):=List.drop_eq_getElem_cons hlt
   rw [hdr,List.flatMap_cons,List.map_append,← List.append_assoc] at he
   have hl6:=hcw q.conds[i]
   refine .next (s':=(((i + 1:Nat):Int),m++(Iz q.conds[i]).map mkW)) ?_ (ih (i + 1) _ (by omega) (by omega) (by rw [List.length_append,List.length_map]; omega) he)
   dsimp only
   have hs:∀ m0:List Ak,m0=m++[mkW (1,if q.conds[i].not=true then unB else whB)]→Pz q (i:Int) m0 (.inl (((i + 1:Nat):Int),m++(Iz q.conds[i]).map mkW)):=fun m0 e0=>by
    have hm0:m0.length=m.length + 1:=by rw [e0]; simp
    unfold Pz
    rw [hcx]
    refine ⟨_,Xbd (by omega) 5 U2,_,Xbd (by simp only [List.length_append,List.length_cons,List.length_nil]; omega) 1 _,_,Xbd (by simp only [List.length_append,List.length_cons,List.length_nil]; omega) 5 eqB,?_⟩
    by_cases g:q.conds[i].b=noB
    ·rw [if_pos g]
     refine ⟨_,Xbd (by simp only [List.length_append,List.length_cons,List.length_nil]; omega) 2 _,?_⟩
     rw [Dn (by omega),e0]
     unfold Iz
     rw [if_pos g]
     simp
    ·rw [if_neg g]
     refine ⟨_,Xbd (by simp only [List.length_append,List.length_cons,List.length_nil]; omega) 5 U2,_,Xbd (by simp only [List.length_append,List.length_cons,List.length_nil]; omega) 1 _,?_⟩
     rw [Dn (by omega),e0]
     unfold Iz
     rw [if_neg g]
     simp
   unfold Lt
   rw [if_pos (by omega)]
   refine ⟨⟨by omega,by omega⟩,?_⟩
   rw [hcx]
   by_cases gn:q.conds[i].not=true
   ·rw [if_pos gn]
    exact ⟨_,Xbd (by omega) 1 unB,hs _ (by rw [if_pos gn])⟩
   ·rw [if_neg gn]
    exact ⟨_,Xbd (by omega) 1 whB,hs _ (by rw [if_neg gn])⟩
 exact key _ 0 l rfl (Nat.zero_le _) (by omega) rfl
end Go.Proofs.YtjookebbmfiidaaDoor.L
set_option linter.unusedVariables false
namespace Go.Proofs.YtjookebbmfiidaaDoor.L
open Go.Proofs.YtjookebbmfiidaaDoor.B Go.Proofs.YtjookebbmfiidaaDoor.R
theorem ix_app {v a b:List Ag} {x:Ag} (h:v=a++x :: b):a.length < v.length∧ix v (a.length:Int)=x:=Xkr (q:=⟨v,[]⟩) h
end Go.Proofs.YtjookebbmfiidaaDoor.L
