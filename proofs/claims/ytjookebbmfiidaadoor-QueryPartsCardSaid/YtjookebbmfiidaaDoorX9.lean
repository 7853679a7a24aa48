/- Queries: a pattern by its parts: the law's loops. Condition: sizes. -/
import Derived.Test.YtjookebbmfiidaaDoorX8
set_option linter.unusedVariables false
namespace Go.Proofs.YtjookebbmfiidaaDoor.L
open Go.Proofs.YtjookebbmfiidaaDoor.B Go.Proofs.YtjookebbmfiidaaDoor.R
def Sz (t:List Az) (s:ByteArray):PF→List (List Bq)
 | .nil=>[]
 | .cons y k g=>Wh y k [] t s :: Sz t s g
theorem copy7 {fd row:List Int} {fr j:Nat} {good:Bool} (h:row.length + fd.length≤2 ^ 40) (hj:j≤2 ^ 40):Bl (fun (s:(List Int) × Int) o=>Ew fd (fr:Int) good (j:Int) s.1 s.2 o) (row,0) (.inr (.inl (row++fd,(fr:Int),good,((j + 1:Nat):Int)))):=by
 have key:∀ (d m:Nat),fd.length - m=d→m≤fd.length→Bl (fun (s:(List Int) × Int) o=>Ew fd (fr:Int) good (j:Int) s.1 s.2 o) (row++fd.take m,(m:Int)) (.inr (.inl (row++fd,(fr:Int),good,((j + 1:Nat):Int)))):=by
  intro d
  induction d with
  | zero =>
   intro m hd hm
   have:m=fd.length:=by omega
   subst this
   refine .done ?_
   dsimp only
   unfold Ew
   rw [if_neg (Int.lt_irrefl _),List.take_length,Dn (by omega)]
   rfl
  | succ d ih =>
   intro m hd hm
   have hlt:m < fd.length:=by omega
   refine .next ?_ (ih (m + 1) (by omega) (by omega))
   dsimp only
   unfold Ew
   rw [if_pos (by omega),Wi hlt]
   refine ⟨⟨by omega,by omega⟩,_,rfl,by rw [List.length_append,List.length_append,List.length_take,List.length_cons,List.length_nil]; omega,?_⟩
   rw [Dn (by omega),List.take_succ_eq_append_getElem hlt,List.append_assoc]
   rfl
 have:=key fd.length 0 rfl (Nat.zero_le _)
 rw [List.take_zero,List.append_nil] at this
 exact this
theorem copy9 {fd row:List Int} {fr j:Nat} {good:Bool} (h:row.length + fd.length≤2 ^ 40) (hj:j≤2 ^ 40):Bl (fun (s:(List Int) × Int) o=>Ih fd (fr:Int) good (j:Int) s.1 s.2 o) (row,0) (.inr (.inl (row++fd,(fr:Int),good,((j + 1:Nat):Int)))):=copy7 h hj
theorem Xni {t:List Az} (hl:Xca t) {s:ByteArray} {P:List (List Bq)} {cs row:List Int} (hcs:∀ c ∈ cs,0≤c∧c < (t.length:Int)) (hcl:cs.length≤t.length) {good:Bool} {j:Nat} {y:Ag} {k:PF} (hj:j < P.length) (hP:P[j]=Wh y k [] t s) (hj2:j≤2 ^ 30) (hk:row.length + (Bo k).length≤2 ^ 30):∀ (d i:Nat),cs.length - i=d→i≤cs.length→match Xbk (atN t y k) (cs.drop i) with
  | some p=>∃ i':Nat,i'≤cs.length∧p.2=cs.drop i'∧Bl (fun (z:Int × (List Int)) o=>Dz cs (j:Int) P good row z.1 z.2 o) ((i:Int),[]) (.inl (row++p.1,(i':Int),good,((j + 1:Nat):Int)))
  | none=>Bl (fun (z:Int × (List Int)) o=>Dz cs (j:Int) P good row z.1 z.2 o) ((i:Int),[]) (.inl (row,(cs.length:Int),false,((j + 1:Nat):Int))):=by
 have hft:=hl
 intro d
 induction d with
 | zero =>
  intro i hd hi
  have:i=cs.length:=by omega
  subst this
  rw [List.drop_length]
  refine .done ?_
  dsimp only
  unfold Dz
  rw [if_neg (Int.lt_irrefl _),if_pos (by rfl)]
  have:=copy9 (fd:=[]) (row:=row) (fr:=cs.length) (j:=j) (good:=false) (by simp; omega) (by omega)
  rw [List.append_nil] at this
  exact this
 | succ d ih =>
  intro i hd hi
  have hlt:i < cs.length:=by omega
  have hix:=Wi hlt
  have hc:=hcs _ (List.getElem_mem hlt)
  have hstep:Dz cs (j:Int) P good row (i:Int) [] (.inl (((i + 1:Nat):Int),(atN t y k cs[i]).getD [])):=by
   unfold Dz
   rw [if_pos (by omega),if_pos (by rfl),hix,Wi hj,hP]
   refine ⟨⟨by omega,by omega⟩,⟨by omega,by omega⟩,_,Xkz hl s hc,?_⟩
   rw [Dn (by omega)]
   rfl
  rw [List.drop_eq_getElem_cons hlt]
  unfold Xbk
  cases e:atN t y k cs[i] with
  | none =>
   rw [e] at hstep
   have h:=ih (i + 1) (by omega) (by omega)
   dsimp only
   cases e2:Xbk (atN t y k) (cs.drop (i + 1)) with
   | none =>
    rw [e2] at h
    exact .next hstep h
   | some p =>
    rw [e2] at h
    obtain ⟨i',h1,h2,h3⟩:=h
    exact ⟨i',h1,h2,.next hstep h3⟩
  | some l =>
   rw [e] at hstep
   obtain ⟨l1,⟨l',l2⟩,_⟩:=Ye hc e
   refine ⟨i + 1,by omega,rfl,.next hstep (.done ?_)⟩
   dsimp only [Option.getD]
   have hne:¬ (l.length:Int)=0:=by rw [l1]; omega
   unfold Dz
   by_cases g:((i + 1:Nat):Int) < (cs.length:Int)
   ·rw [if_pos g,if_neg hne]
    exact copy7 (by omega) (by omega)
   ·rw [if_neg g,if_neg hne]
    exact copy9 (by omega) (by omega)
theorem Xj6 {t : List Az} (hl : Xca t) {s : ByteArray} {cs : List Int} (hcs : ∀ c ∈ cs, 0 ≤ c ∧ c < (t.length : Int)) (hcl : cs.length ≤ t.length) {acc : List Bq} {v : Nat} (hv : v < 2 ^ 60) (hacc : acc.length ≤ 2 ^ 42) : ∀ (g : PF) (P : List (List Bq)) (row : List Int) (i : Nat) (good : Bool), i ≤ cs.length → P.length + I8 g ≤ 2 ^ 30 → row.length + (Bo g).length ≤ 2 ^ 30 → Bl (fun (z : (List Int) × Int × Bool × Int) o => Ej (P ++ Sz t s g) cs acc (v : Int) z.1 z.2.1 z.2.2.1 z.2.2.2 o) (row, (i : Int), good, (P.length : Int)) (.inl (acc ++ (if good = true then (match atF t g (cs.drop i) with | some l => [⟨row ++ l⟩] | none => []) else []), ((v + 1 : Nat) : Int)))
 | .nil,P,row,i,good,hi,hp,hr=>by
  refine .done ?_
  show Ej (P++[]) cs acc (v:Int) row (i:Int) good (P.length:Int) _
  rw [List.append_nil]
  unfold Ej
  have ew:w64 ((v:Int) + 1)=((v + 1:Nat):Int):=by rw [Dn (by omega)]; rfl
  rw [if_neg (Int.lt_irrefl _),ew]
  cases good with
  | true =>
   rw [if_pos rfl,if_pos rfl]
   show ∃ x,(x=acc++[⟨row⟩])∧_
   refine ⟨_,rfl,by rw [List.length_append,List.length_cons,List.length_nil]; omega,?_⟩
   show Sum.inr (Sum.inl (acc++[⟨row++[]⟩],((v + 1:Nat):Int)))=_
   rw [List.append_nil]
  | false =>
   rw [if_neg (by simp),if_neg (by simp),List.append_nil]
 | .cons y k g,P,row,i,good,hi,hp,hr=>by
  have e0:(Bo (.cons y k g)).length=(Bo k).length + 1 + (Bo g).length:=by simp only [Bo,List.length_append,List.length_cons]; omega
  have hp:P.length + (I8 g + 1)≤2 ^ 30:=hp
  have e1:P++Sz t s (.cons y k g)=(P++[Wh y k [] t s])++Sz t s g:=by simp [Sz]
  have hPl:P.length < (P++Sz t s (.cons y k g)).length:=by rw [e1]; simp only [List.length_append,List.length_cons,List.length_nil]; omega
  have hPj:(P++Sz t s (.cons y k g))[P.length]=Wh y k [] t s:=by
   rw [List.getElem_append_right (Nat.le_refl _)]
   simp [Sz]
  have hs:=Xni hl (s:=s) (P:=P++Sz t s (.cons y k g)) (row:=row) hcs hcl (good:=good) hPl hPj (by omega) (by omega) (cs.length - i) i rfl hi
  have hb:∀ o,Bl (fun (z:Int × (List Int)) o=>Dz cs (P.length:Int) (P++Sz t s (.cons y k g)) good row z.1 z.2 o) ((i:Int),[]) o→Ej (P++Sz t s (.cons y k g)) cs acc (v:Int) row (i:Int) good (P.length:Int) o:=fun o h=>by
   unfold Ej
   rw [if_pos (by omega)]
   exact h
  have hP1:(P++[Wh y k [] t s]).length=P.length + 1:=by simp
  rw [Xdl]
  cases e:Xbk (atN t y k) (cs.drop i) with
  | none =>
   rw [e] at hs
   have h:=Xj6 hl (s:=s) hcs hcl hv hacc g (P++[Wh y k [] t s]) row cs.length false (Nat.le_refl _) (by omega) (by omega)
   rw [← e1,hP1,if_neg (by simp)] at h
   dsimp only
   rw [show (if good=true then ([]:List Bq) else [])=[] by cases good <;> rfl]
   exact .next (hb _ hs) h
  | some p =>
   rw [e] at hs
   obtain ⟨i',i1,i2,i3⟩:=hs
   obtain ⟨l,rest⟩:=p
   dsimp only at i2 i3 ⊢
   obtain ⟨c,c1,c2,_⟩:=Xd8 e
   obtain ⟨l1,_,_⟩:=Ye (hcs c (List.mem_of_mem_drop c1)) c2
   have h:=Xj6 hl (s:=s) hcs hcl hv hacc g (P++[Wh y k [] t s]) (row++l) i' good i1 (by omega) (by rw [List.length_append]; omega)
   rw [← e1,hP1,← i2] at h
   refine .next (hb _ i3) ?_
   have e3:(match (atF t g rest).map (l++·) with | some l'=>([⟨row++l'⟩]:List Bq) | none=>[])=(match atF t g rest with | some l'=>[⟨row++l++l'⟩] | none=>[]):=by
    cases atF t g rest with
    | none=>rfl
    | some l'=>simp
   rw [e3]
   exact h
theorem nodes_ok {t:List Az} (hl:Xca t) (hw:Wf t) {s:ByteArray} {x:Ag} {k:PF} (hc:I8 k≤2 ^ 20) (hk:(Bo k).length≤2 ^ 20):∀ (o:Sum ((List (List Bq)) × Int × Int) Bool),o=.inr true→Bl (fun (z:(List Bq) × Int) o=>En t (Wh ⟨x.name,x.lit,x.field,x.capture,0⟩ .nil [] t s) (Sz t s k) (Wh x k [] t s) z.1 z.2 o) ([],0) o:=by
 intro o ho
 subst ho
 have hft:=hl
 have hsf:=Xjd (a:=Wh x k [] t s) (by have:=Xl1 x k [] t s; omega) (fun f hf=>by
  have:=(allF_mem hf).1
  rw [List.length_cons] at this
  omega)
 have hall:Wh x k [] t s=(List.range t.length).filterMap (Qr (x :: Bo k) [] t s x k):=rfl
 have hlen:∀ i,((List.range i).filterMap (Qr (x :: Bo k) [] t s x k)).length≤i:=fun i=>by
  have:=List.length_filterMap_le (Qr (x :: Bo k) [] t s x k) (List.range i)
  rwa [List.length_range] at this
 have key:∀ (d i:Nat),t.length - i=d→i≤t.length→Bl (fun (z:(List Bq) × Int) o=>En t (Wh ⟨x.name,x.lit,x.field,x.capture,0⟩ .nil [] t s) (Sz t s k) (Wh x k [] t s) z.1 z.2 o) ((List.range i).filterMap (Qr (x :: Bo k) [] t s x k),(i:Int)) (.inr true):=by
  intro d
  induction d with
  | zero =>
   intro i hd hi
   have:i=t.length:=by omega
   subst this
   refine .done ?_
   dsimp only
   unfold En
   rw [if_neg (Int.lt_irrefl _)]
   exact ⟨true,hsf,rfl⟩
  | succ d ih =>
   intro i hd hi
   have hlt:i < t.length:=by omega
   have hli:=hlen i
   have hn:=ih (i + 1) (by omega) (by omega)
   rw [List.range_succ,List.filterMap_append] at hn
   have hm:=Xkz (x:=⟨x.name,x.lit,x.field,x.capture,0⟩) (k:=.nil) hl s (c:=(i:Int)) ⟨by omega,by omega⟩
   have ea:alone ⟨x.name,x.lit,x.field,x.capture,0⟩ (ix t (i:Int))=alone x (ix t (i:Int)):=rfl
   have hst:=Xec x k t s i
   have ew:w64 ((i:Int) + 1)=((i + 1:Nat):Int):=by rw [Dn (by omega)]; rfl
   unfold atN at hm hst
   rw [ea] at hm
   by_cases g:alone x (ix t (i:Int))=true
   ·rw [if_pos g] at hm hst
    have h:=Xj6 hl (s:=s) (cs:=Wl t (i:Int)) Xdh (Xii t _) (acc:=(List.range i).filterMap (Qr (x :: Bo k) [] t s x k)) (v:=i) (by omega) (by omega) k [] [(i:Int)] 0 true (Nat.zero_le _) (by simp; omega) (by simp; omega)
    rw [if_pos rfl,List.drop_zero] at h
    have e2:List.filterMap (Qr (x :: Bo k) [] t s x k) [i]=(match atF t k (Wl t (i:Int)) with | some l=>[⟨[(i:Int)]++l⟩] | none=>[]):=by
     rw [List.filterMap_cons,hst]
     cases atF t k (Wl t (i:Int)) <;> rfl
    rw [e2] at hn
    refine .next ?_ hn
    dsimp only
    unfold En
    rw [if_pos (by omega)]
    refine ⟨_,hm,fun b hb=>?_⟩
    have hbf:b=false:=by
     cases b with
     | false=>rfl
     | true=>have:=hb.1 rfl; cases this
    subst hbf
    rw [if_neg (by simp)]
    exact ⟨_,Xmt hl hw _,h⟩
   ·rw [if_neg g] at hm hst
    have e2:List.filterMap (Qr (x :: Bo k) [] t s x k) [i]=[]:=by
     rw [List.filterMap_cons,hst]
     rfl
    rw [e2,List.append_nil] at hn
    refine .next ?_ hn
    dsimp only
    unfold En
    rw [if_pos (by omega)]
    refine ⟨_,hm,fun b hb=>?_⟩
    have hbt:b=true:=hb.2 rfl
    rw [hbt,if_pos rfl,ew]
 have:=key t.length 0 rfl (Nat.zero_le _)
 exact this
theorem Xil {t : List Az} (hl : Xca t) (hw : Wf t) (hr : 0 ≤ numF t) {s : ByteArray} {x : Ag} {k : PF} (hs : Na nmQ x k []) (hz : SzR ⟨x :: Bo k, []⟩) : ∀ (g : PF) (P : List (List Bq)) (A : List Ag), Xkl g → P ++ Sz t s g = Sz t s k → Bo k = A ++ Bo g → P.length + I8 g = I8 k → Bl (fun (z : (List (List Bq)) × Int × Int) o => Fz ⟨x :: Bo k, []⟩ t s (Wh ⟨x.name, x.lit, x.field, x.capture, 0⟩ .nil [] t s) (Wh x k [] t s) z.1 z.2.1 z.2.2 o) (P, ((A.length + 1 : Nat) : Int), (P.length : Int)) true
 | .nil,P,A,hg,hP,hA,hc=>by
  have h0:=hs.len.1
  have hck:=Z8 k
  have hkid:x.kids=(I8 k:Int):=hs.1.1
  have hc:P.length=I8 k:=hc
  refine .done ?_
  dsimp only
  unfold Fz
  rw [show (ix ((⟨x :: Bo k,[]⟩:Ar).nodes) 0)=x from rfl,hkid,if_neg (by omega)]
  have hP:P++[]=Sz t s k:=hP
  rw [List.append_nil] at hP
  rw [hP]
  exact nodes_ok hl hw (by omega) (by omega) _ rfl
 | .cons y ky g,P,A,hg,hP,hA,hc=>by
  have h0:=hs.len.1
  have hck:=Z8 k
  have hkid:x.kids=(I8 k:Int):=hs.1.1
  obtain ⟨hy,hg'⟩:=hg.cons
  have hc:P.length + (I8 g + 1)=I8 k:=hc
  have hns:x :: Bo k=(x :: A)++(y :: Bo ky++Bo g):=by rw [hA]; simp [Bo]
  have hp:=part_ok (ns:=x :: Bo k) (by rw [List.length_cons]; omega) hns hy.1
  have hzy:SzR ⟨y :: Bo ky,[]⟩:=fun z hz'=>hz z (by
   show z ∈ x :: Bo k
   rw [hns]
   exact List.mem_append_right _ (List.mem_append_left _ hz'))
  have hq:=Xe2 hy hzy hl hw hr s
  have hal:(Bo k).length=A.length + ((Bo ky).length + 1 + (Bo g).length):=by rw [hA]; simp only [Bo,List.length_append,List.length_cons]; omega
  have ih:=Xil hl hw hr hs hz g (P++[Wh y ky [] t s]) (A++y :: Bo ky) hg' (by rw [← hP]; simp [Sz]) (by rw [hA]; simp [Bo]) (by rw [List.length_append,List.length_cons,List.length_nil]; omega)
  refine .next ?_ ih
  dsimp only
  unfold Fz
  rw [show (ix ((⟨x :: Bo k,[]⟩:Ar).nodes) 0)=x from rfl,hkid,if_pos (by omega)]
  refine ⟨_,hp,?_⟩
  refine ⟨_,hq,_,rfl,by rw [List.length_append,List.length_cons,List.length_nil]; omega,?_⟩
  dsimp only
  rw [Dn (by simp only [List.length_cons]; omega),Dn (by omega)]
  have e1:((A.length + 1:Nat):Int) + ((y :: Bo ky).length:Int)=(((A++y :: Bo ky).length + 1:Nat):Int):=by rw [List.length_append]; omega
  have e2:(P.length:Int) + 1=((P++[Wh y ky [] t s]).length:Int):=by rw [List.length_append,List.length_cons,List.length_nil]; omega
  rw [e1,e2]
theorem Xne {q:Ar} (h1:q.nodes.length≤2 ^ 50) (hz:SzR q) {t:List Az} (hl:Xca t) (hw:Wf t) (s:ByteArray):N7 q t s true:=by
 have hft:=hl
 refine ⟨true,qstarted,?_⟩
 rw [if_pos rfl]
 obtain ⟨b,hb⟩:=Xlj h1
 refine ⟨b,hb,?_⟩
 have ht:Fq q t s true true:=by
  unfold Fq
  rw [if_pos rfl]
 cases b with
 | true=>rw [if_pos rfl]; exact ht
 | false =>
 rw [if_neg (by simp)]
 obtain ⟨b,hb⟩:=Xnp hl hw
 refine ⟨b,hb,?_⟩
 cases b with
 | true=>exact ht
 | false =>
 unfold Fq
 rw [if_neg (by simp)]
 have hj:(Vf q=false∨numF t < 0)→Fv q t s true true:=fun h=>by
  unfold Fv
  rw [if_pos rfl]
  exact ⟨_,all_no hz hl hw h s,rfl⟩
 refine ⟨_,Xap hz,?_⟩
 cases e:Vf q with
 | false =>
  rw [if_neg (by simp)]
  exact hj (.inl e)
 | true =>
  rw [if_pos rfl]
  refine ⟨_,Xgr hl hw,?_⟩
  by_cases hn:numF t < 0
  ·rw [decide_eq_true hn]
   exact hj (.inr hn)
  ·rw [decide_eq_false hn]
   obtain ⟨x,k,e1,e2⟩:=Xgq e
   obtain ⟨ns,cs⟩:=q
   dsimp only at e1 e2
   subst e1
   have hb:=e2.bare
   have hzb:SzR ⟨x :: Bo k,[]⟩:=hz
   have hzh:SzR ⟨[⟨x.name,x.lit,x.field,x.capture,0⟩],[]⟩:=fun y hy=>by
    rw [List.mem_singleton.1 hy]
    exact hz x (List.mem_cons_self ..)
   unfold Fv
   rw [if_neg (by simp)]
   refine ⟨_,Xe2 hb hzb hl hw (by omega) s,⟨by omega,by show (0:Int) < ((x :: Bo k).length:Int); rw [List.length_cons]; omega⟩,_,Xe2 e2.head hzh hl hw (by omega) s,?_⟩
   exact Xil hl hw (by omega) hb hzb k [] [] e2.sub rfl rfl (by simp)
end Go.Proofs.YtjookebbmfiidaaDoor.L
