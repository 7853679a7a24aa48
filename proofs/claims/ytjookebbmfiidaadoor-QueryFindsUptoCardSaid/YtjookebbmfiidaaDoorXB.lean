/- Queries: the law QueryFinds. Condition: sizes. -/
import Derived.Test.YtjookebbmfiidaaDoorXA
import Derived.Test.YtjookebbmfiidaaDoorSK
set_option linter.unusedVariables false
namespace Go.Proofs.YtjookebbmfiidaaDoor.L
open Go.Proofs.YtjookebbmfiidaaDoor.B Go.Proofs.YtjookebbmfiidaaDoor.R
theorem Xju {t:List Ai} (h:t.length≤2 ^ 40):Gx t t:=by
  have key:∀ (d i:Nat),t.length - i=d→i≤t.length→Ar (fun (s:(List Ai) × Int) o=>Gt t s.1 s.2 o) (t.take i,(i:Int)) t:=by
    intro d
    induction d with
    | zero =>
      intro i hd hi
      have:i=t.length:=by omega
      subst this
      refine .done ?_
      dsimp only
      unfold Gt
      rw [if_neg (Int.lt_irrefl _),List.take_length]
    | succ d ih =>
      intro i hd hi
      refine .next (s':=(t.take (i + 1),((i + 1:Nat):Int))) ?_ (ih (i + 1) (by omega) (by omega))
      dsimp only
      unfold Gt
      rw [if_pos (by omega)]
      refine ⟨⟨by omega,by omega⟩,_,rfl,by rw [List.length_append,List.length_take,List.length_cons,List.length_nil]; omega,?_⟩
      rw [Dk (by omega),Xd2 (by omega)]
      rfl
  exact key _ 0 rfl (Nat.zero_le _)
abbrev markT (i:Nat):Ai:=⟨⟨#[109,97,114,107]⟩,false,noB,900 + (i:Int),0,0,0⟩
def V7 (n:Nat):List Ai:=(List.range n).map markT
theorem Xjp (n:Nat):V7 (n + 1)=V7 n++[markT n]:=by unfold V7; rw [List.range_succ,List.map_append]; rfl
theorem Xfs (n:Nat):(V7 n).length=n:=by unfold V7; simp
theorem tlent {t:List Ai} (h:t.length≤2 ^ 40):P9 t (t++V7 20,t.length):=by
  refine ⟨t,Xju h,?_⟩
  have key:∀ (d i:Nat),20 - i=d→i≤20→Ar (fun (s:(List Ai) × Int) o=>Gv t s.1 s.2 o) (t++V7 i,(i:Int)) (t++V7 20,t.length):=by
    intro d
    induction d with
    | zero =>
      intro i hd hi
      have:i=20:=by omega
      subst this
      refine .done ?_
      dsimp only
      unfold Gv
      rw [if_neg (by decide)]
      exact ⟨⟨by omega,by omega,by rw [List.length_append]; omega⟩,by rw [Int.toNat_natCast]⟩
    | succ d ih =>
      intro i hd hi
      refine .next (s':=(t++V7 (i + 1),((i + 1:Nat):Int))) ?_ (ih (i + 1) (by omega) (by omega))
      dsimp only
      unfold Gv
      rw [if_pos (by omega)]
      have hn:=Xfs i
      refine ⟨_,rfl,by simp only [List.length_append,List.length_cons,List.length_nil]; omega,?_⟩
      rw [Dk (x:=900 + (i:Int)) (by omega),Dk (by omega),Xjp,List.append_assoc]
      rfl
  have:=key _ 0 rfl (by decide)
  simpa [V7] using this
theorem tsame {t:List Ai} (h:t.length≤2 ^ 40):La t t true:=by
  unfold La
  rw [if_pos rfl]
  refine Ar.cnt t.length (fun i hi=>?_) ?_
  · unfold Hu
    rw [if_pos (by omega)]
    refine ⟨⟨by omega,by omega⟩,⟨by omega,by omega⟩,?_⟩
    rw [if_pos rfl,Dk (by omega)]
  · unfold Hu
    rw [if_neg (Int.lt_irrefl _)]
theorem tstill {t:List Ai} (h:t.length≤2 ^ 40):Jw (t++V7 20) t.length t true:=by
  unfold Jw
  have hl1:(t++V7 20).length=t.length + 20:=by rw [List.length_append,Xfs]
  have e1:w64 ((t.length:Int) + 20)=((t.length + 20:Nat):Int):=by rw [Dk (by omega)]; rfl
  refine ⟨⟨by rw [e1]; omega,by rw [e1,hl1]; exact Int.le_refl _⟩,?_⟩
  have t1:(t++V7 20).take (t.length + 20)=t++V7 20:=List.take_of_length_le (by omega)
  refine Ar.cnt 20 (fun i hi=>?_) ?_
  · unfold Hf
    rw [if_pos (by omega),e1,Int.toNat_natCast,t1,Dk (x:=(t.length:Int) + (i:Int)) (by omega),Dk (x:=900 + (i:Int)) (by omega),hl1]
    refine ⟨⟨by omega,by omega⟩,?_⟩
    have x1:ix (t++V7 20) ((t.length:Int) + (i:Int))=markT i:=by
      rw [show (t.length:Int) + (i:Int)=((t.length + i:Nat):Int) by omega,U2 (by omega),List.getElem_append_right (by omega)]
      simp [V7]
    rw [x1,if_pos rfl,Dk (by omega)]
  · unfold Hf
    rw [if_neg (by decide)]
    refine ⟨true,?_,rfl⟩
    rw [List.take_left]
    exact tsame h
theorem Xeu {q:Aq} (hz:SzQ q) {t:List Ai} (hl:X5 t) (hw:Wf t) (s:ByteArray):∃ L:List Be,Rh q t s L∧Ir q t s L∧Eh L L true:=by
  obtain ⟨L,h1,h2,h3,h4⟩:=Xjm hz hl hw s
  have hft:=hl
  exact ⟨L,h1,h2,Xdk (by omega) fun f hf=>by have:=h4 f hf; omega⟩
theorem Xkn {q:Aq} (h1:q.nodes.length≤2 ^ 21) (h2:q.conds.length≤2 ^ 21) (hz:SzQ q) {t:List Ai} (h3:t.length≤2 ^ 40) (hl:X5 t) (hw:Wf t) (s:ByteArray):Qo q t s true:=by
  refine ⟨q,Xjx (by omega) (by omega),t,Xju h3,?_⟩
  obtain ⟨L0,a1,_,_⟩:=Xeu hz hl hw s
  refine ⟨L0,a1,?_⟩
  refine Ar.to (fun z:(List Ai) × Int=>z.1.length=t.length∧Wf z.1∧∃ i:Nat,z.2=(i:Int)∧i≤t.length) (fun z=>t.length - z.2.toNat) (fun z hzz=>?_) ⟨rfl,hw,0,rfl,Nat.zero_le _⟩
  obtain ⟨T,iz⟩:=z
  obtain ⟨t1,t2,i,t3,t4⟩:=hzz
  dsimp only at t1 t2 t3
  subst t3
  have hlT:X5 T:=by have:=hl; unfold X5 at *; omega
  by_cases g:i < t.length
  · right
    have ew:w64 ((T.length:Int) - 1)=((T.length - 1:Nat):Int):=by rw [Dk (by omega)]; omega
    refine ⟨(T.set i { ix T (i:Int) with name:=(ix T ((T.length - 1:Nat):Int)).name },((i + 1:Nat):Int)),?_,⟨by show (T.set i _).length=_; rw [List.length_set,t1],fun y hy=>?_,i + 1,rfl,by omega⟩,by show t.length - ((i + 1:Nat):Int).toNat < t.length - ((i:Nat):Int).toNat; omega⟩
    · show G8 q s T (i:Int) _
      unfold G8
      rw [if_pos (by omega),ew,Dk (by omega)]
      exact ⟨⟨by omega,by omega⟩,⟨by omega,by omega⟩,_,rfl,rfl⟩
    · rcases Xdi hy with rfl | hy
      · have := t2 _ (Xfk (v := T) (i := (i : Int)) ⟨by omega, by omega⟩)
        exact this
      · exact t2 y hy
  · left
    show G8 q s T (i:Int) _
    unfold G8
    rw [if_neg (by omega)]
    obtain ⟨L1,b1,b2,b3⟩:=Xeu hz hlT t2 s
    refine ⟨q,Xjx (by omega) (by omega),T,Xju (by omega),L1,b2,L1,b1,true,b3,?_⟩
    rw [if_pos rfl]
    refine Ar.to (fun z:Int × (List Aj)=>z.2.length=q.nodes.length∧(∀ x ∈ z.2,SzN x)∧∃ i:Nat,z.1=(i:Int)∧i≤q.nodes.length) (fun z=>q.nodes.length - z.1.toNat) (fun z hzz=>?_) ⟨rfl,hz.1,0,rfl,Nat.zero_le _⟩
    obtain ⟨jz,N⟩:=z
    obtain ⟨n1,n2,j,n3,n4⟩:=hzz
    dsimp only at n1 n2 n3
    subst n3
    by_cases g2:j < q.nodes.length
    · right
      have ew:w64 ((N.length:Int) - 1)=((N.length - 1:Nat):Int):=by rw [Dk (by omega)]; omega
      refine ⟨(((j + 1:Nat):Int),(N.set j { ix N (j:Int) with name:=(ix N ((N.length - 1:Nat):Int)).name }).set j { ix (N.set j { ix N (j:Int) with name:=(ix N ((N.length - 1:Nat):Int)).name }) (j:Int) with field:=noB }),?_,⟨by show (List.set _ _ _).length=_; rw [List.length_set,List.length_set,n1],fun y hy=>?_,j + 1,rfl,by omega⟩,by show q.nodes.length - ((j + 1:Nat):Int).toNat < q.nodes.length - ((j:Nat):Int).toNat; omega⟩
      · show G7 q T s (j:Int) N _
        unfold G7
        rw [if_pos (by omega),ew,Dk (x:=(j:Int) + 1) (by omega)]
        exact ⟨⟨by omega,by omega⟩,⟨by omega,by omega⟩,_,rfl,⟨by omega,by rw [List.length_set]; omega⟩,_,rfl,rfl⟩
      · have h0:noB.size≤1048576:=by decide
        have hm1:=n2 _ (Xfk (v:=N) (i:=(j:Int)) ⟨by omega,by omega⟩)
        have hm2:=n2 _ (Xfk (v:=N) (i:=((N.length - 1:Nat):Int)) ⟨by omega,by omega⟩)
        have hs:∀ y ∈ N.set j { ix N (j:Int) with name:=(ix N ((N.length - 1:Nat):Int)).name },SzN y:=fun y hy=>by
          rcases Xdi hy with rfl | hy
          · exact ⟨hm2.1,hm1.2.1,hm1.2.2⟩
          · exact n2 y hy
        rcases Xdi hy with rfl | hy
        · have := hs _ (Xfk (i := (j : Int)) ⟨by omega, by rw [List.length_set]; omega⟩)
          exact ⟨this.1,h0,this.2.2⟩
        · exact hs y hy
    · left
      show G7 q T s (j:Int) N _
      unfold G7
      rw [if_neg (by omega)]
      have hzN:SzQ ⟨N,q.conds⟩:=⟨n2,hz.2⟩
      obtain ⟨L2,c1,c2,c3⟩:=Xeu hzN hlT t2 s
      exact ⟨_,Xjx (q:=⟨N,q.conds⟩) (by show N.length≤_; omega) (by show q.conds.length≤_; omega),T,Xju (by omega),L2,c2,L2,c1,true,c3,rfl⟩
structure Mk (n i:Nat) (L:List Be):Prop where
  hl:L.length=n
  sz:∀ f ∈ L,f.nodes.length≤32
  mark:∀ (j:Nat) (h:j < L.length),j < i→∀ y ∈ L[j].nodes,y = -7 - (j:Int)
theorem fill_ok {n i:Nat} (hn:n≤2 ^ 40) (hi:i < n) {L:List Be} (h:Mk n i L):∃ L':List Be,Mk n (i + 1) L'∧Ar (fun (s:(List Be) × Int) o=>Eo (i:Int) s.1 s.2 o) (L,0) (.inl (L',((i + 1:Nat):Int))):=by
  have key:=Ar.some (B:=fun (s:(List Be) × Int) o=>Eo (i:Int) s.1 s.2 o) (P:=fun r=>∃ L':List Be,Mk n (i + 1) L'∧r=.inl (L',((i + 1:Nat):Int)))
    (fun z=>Mk n i z.1∧∃ k:Nat,z.2=(k:Int)∧∀ h:i < z.1.length,k≤z.1[i].nodes.length∧∀ (q:Nat) (hq:q < z.1[i].nodes.length),q < k→z.1[i].nodes[q] = -7 - (i:Int)) (fun z=>32 - z.2.toNat) (fun z hz=>?_) (s:=(L,0)) ⟨h,0,rfl,fun h=>⟨Nat.zero_le _,fun q hq h0=>by omega⟩⟩
  · obtain ⟨r,hr,L',h1,rfl⟩:=key
    exact ⟨L',h1,hr⟩
  · obtain ⟨A,kz⟩:=z
    obtain ⟨m,k,hk,hall⟩:=hz
    dsimp only at m hk hall
    subst hk
    have hA:i < A.length:=by rw [m.hl]; exact hi
    obtain ⟨k1,k2⟩:=hall hA
    have hix:=U2 hA
    have h32:=m.sz _ (List.getElem_mem hA)
    have hstep:∀ o,(if (k:Int) < (A[i].nodes.length:Int) then
  (0≤(k:Int)∧(k:Int) < (A[i].nodes.length:Int)) ∧
  ∃ x1103:List Int,(x1103=(A[i].nodes).set k (w64 ((-7) - (i:Int)))) ∧
  ∃ x1105:List Be,(x1105=A.set i ({ A[i] with nodes:=x1103 })) ∧
  o=.inl (x1105,w64 ((k:Int) + 1))
 else
  o=.inr (.inl (A,w64 ((i:Int) + 1))))→Eo (i:Int) A (k:Int) o:=fun o h=>by
      unfold Eo
      rw [hix]
      exact ⟨⟨by omega,by omega⟩,h⟩
    by_cases g:k < A[i].nodes.length
    · right
      refine ⟨(A.set i ⟨A[i].nodes.set k (-7 - (i:Int))⟩,((k + 1:Nat):Int)),hstep _ ?_,⟨⟨by show (A.set i _).length=n; rw [List.length_set,m.hl],fun f hf=>?_,fun j hj hji y hy=>?_⟩,k + 1,rfl,fun hh=>?_⟩,by show 32 - ((k + 1:Nat):Int).toNat < 32 - ((k:Nat):Int).toNat; omega⟩
      · rw [if_pos (by omega), Dk (x := -7 - (i : Int)) (by omega), Dk (by omega)]
        exact ⟨⟨by omega,by omega⟩,_,rfl,_,rfl,rfl⟩
      · rcases Xdi hf with rfl | hf
        · show (A[i].nodes.set k _).length≤32
          rw [List.length_set]; exact h32
        · exact m.sz f hf
      · dsimp only at hj hy
        rw [List.getElem_set_ne (by omega)] at hy
        exact m.mark j (by rw [List.length_set] at hj; exact hj) hji y hy
      · dsimp only at hh ⊢
        simp only [List.getElem_set_self,List.length_set]
        refine ⟨by omega,fun q hq hqk=>?_⟩
        rw [List.getElem_set]
        split
        · rfl
        · exact k2 q hq (by omega)
    · left
      refine ⟨_,hstep _ (by rw [if_neg (by omega)]),A,⟨m.hl,m.sz,fun j hj hji y hy=>?_⟩,by rw [Dk (by omega)]; rfl⟩
      by_cases e:j=i
      · subst e
        obtain ⟨q,hq,rfl⟩:=List.getElem_of_mem hy
        exact k2 q hq (by omega)
      · exact m.mark j hj (by omega) y hy
theorem grow_ok {n:Nat} (hn:n≤2 ^ 40) {v i:Nat} (hv:v≤2 ^ 50) (hi:i < n) {l:List Int} (hl:l.length≤32):Ar (fun (s:(List Int) × Int) o=>Dt (v:Int) (i:Int) s.1 s.2 o) (l,0) (.inl (((v + (l.length + 70):Nat):Int),((i + 1:Nat):Int))):=by
  have:=Ar.upto (B:=fun (s:(List Int) × Int) o=>Dt (v:Int) (i:Int) s.1 s.2 o) (r:=(.inl (((v + (l.length + 70):Nat):Int),((i + 1:Nat):Int)):Sum (Int × Int) (Sum ((List Be) × Int) Bool))) (fun k=>(l++(List.range k).map fun q:Nat=>901 + (q:Int),(k:Int))) 70 (fun k hk=>by
    show Dt _ _ _ (k:Int) _
    unfold Dt
    rw [if_pos (by omega),Dk (x:=901 + (k:Int)) (by omega),Dk (by omega)]
    refine ⟨_,rfl,by simp only [List.length_append,List.length_map,List.length_range,List.length_cons,List.length_nil]; omega,?_⟩
    show Sum.inl (l++(List.range (k + 1)).map (fun q:Nat=>901 + (q:Int)),((k + 1:Nat):Int))=_
    rw [List.range_succ,List.map_append,List.append_assoc]
    rfl) (by
    show Dt _ _ _ ((70:Nat):Int) _
    unfold Dt
    rw [if_neg (by omega),List.length_append,List.length_map,List.length_range,Dk (by omega),Dk (by omega)]
    rfl)
  simpa using this
theorem marks_ok {n:Nat} (hn:n≤2 ^ 40) {L:List Be} (h:Mk n n L) {i:Nat} (hi:i < n):Ar (fun (s:Int) o=>Fv (i:Int) L s o) 0 (.inl ((i:Int) + 1)):=by
  have hL:i < L.length:=by rw [h.hl]; exact hi
  have hix:=U2 hL
  have h32:=h.sz _ (List.getElem_mem hL)
  refine Ar.cnt L[i].nodes.length (fun k hk=>?_) ?_
  · unfold Fv
    rw [hix,if_pos (by omega),U2 hk,h.mark i hL hi _ (List.getElem_mem hk),Dk (x:=-7 - (i:Int)) (by omega),if_pos rfl,Dk (by omega)]
    exact ⟨⟨by omega,by omega⟩,⟨by omega,by omega⟩,rfl⟩
  · unfold Fv
    rw [hix,if_neg (Int.lt_irrefl _),Dk (by omega)]
    exact ⟨⟨by omega,by omega⟩,rfl⟩
theorem Xlr {q:Aq} (h1:q.nodes.length≤2 ^ 21) (h2:q.conds.length≤2 ^ 21) (hz:SzQ q) {t:List Ai} (h3:t.length≤2 ^ 40) (hl:X5 t) (hw:Wf t) (s:ByteArray):Nz q t s true:=by
  obtain ⟨b,hb⟩:=Xj1 (v:=q.nodes) (by omega)
  refine ⟨b,hb,?_⟩
  have ht:Fq q t s true true:=by
    unfold Fq
    rw [if_pos rfl]
  cases b with
  | true=>rw [if_pos rfl]; exact ht
  | false =>
  rw [if_neg (by simp)]
  obtain ⟨b,hb⟩:=Xlz hl hw
  refine ⟨b,hb,?_⟩
  cases b with
  | true=>exact ht
  | false =>
  unfold Fq
  rw [if_neg (by simp)]
  obtain ⟨L,a1,a2,a3,a4⟩:=Xjm hz hl hw s
  have hsf:Eh L L true:=Xdk (by omega) fun f hf=>by have:=a4 f hf; omega
  refine ⟨q,Xjx (by omega) (by omega),t,Xju h3,L,a2,_,qlent (by omega) (by omega),_,tlent h3,?_⟩
  dsimp only
  rw [List.take_left,List.take_left,List.take_left]
  refine ⟨L,a1,L,a1,true,hsf,?_⟩
  rw [if_pos rfl]
  refine ⟨true,qstill (by omega) (by omega),?_⟩
  rw [if_pos rfl]
  refine ⟨true,tstill h3,?_⟩
  unfold H6
  rw [if_neg (by simp)]
  have hn:L.length≤2 ^ 40:=by omega
  refine Ar.to (fun z:(List Be) × Int=>∃ i:Nat,z.2=(i:Int)∧i≤L.length∧Mk L.length i z.1) (fun z=>L.length - z.2.toNat) (fun z hzz=>?_) ⟨0,rfl,Nat.zero_le _,rfl,a4,fun j hj h0=>by omega⟩
  obtain ⟨A,iz⟩:=z
  obtain ⟨i,e1,e2,e3⟩:=hzz
  dsimp only at e1 e3
  subst e1
  have hAl:=e3.hl
  by_cases g:i < L.length
  · right
    obtain ⟨A',f1,f2⟩:=fill_ok hn g e3
    refine ⟨(A',((i + 1:Nat):Int)),?_,⟨i + 1,rfl,by omega,f1⟩,by show L.length - ((i + 1:Nat):Int).toNat < L.length - ((i:Nat):Int).toNat; omega⟩
    show Ep L L q t s A (i:Int) _
    unfold Ep
    rw [if_pos (by omega)]
    exact f2
  · left
    have:i=L.length:=by omega
    subst this
    show Ep L L q t s A (L.length:Int) _
    unfold Ep
    rw [if_neg (by omega)]
    refine Ar.to (fun z:Int × Int=>∃ v i:Nat,z=((v:Int),(i:Int))∧i≤L.length∧v≤102 * i) (fun z=>L.length - z.2.toNat) (fun z hzz=>?_) ⟨0,0,rfl,Nat.zero_le _,Nat.zero_le _⟩
    obtain ⟨v,i,rfl,i1,i2⟩:=hzz
    by_cases g2:i < L.length
    · right
      have hA:i < A.length:=by omega
      have h32:=e3.sz _ (List.getElem_mem hA)
      refine ⟨(((v + (A[i].nodes.length + 70):Nat):Int),((i + 1:Nat):Int)),?_,⟨_,_,rfl,by omega,by omega⟩,by show L.length - ((i + 1:Nat):Int).toNat < L.length - ((i:Nat):Int).toNat; omega⟩
      show En A L L q t s (v:Int) (i:Int) _
      unfold En
      rw [if_pos (by omega),U2 hA]
      exact ⟨⟨by omega,by omega⟩,grow_ok hn (by omega) g2 h32⟩
    · left
      show En A L L q t s (v:Int) (i:Int) _
      unfold En
      rw [if_neg (by omega)]
      refine Ar.cnt A.length (fun j hj=>?_) ?_
      · unfold H7
        rw [if_pos (by omega)]
        exact marks_ok hn e3 (by omega)
      · unfold H7
        rw [if_neg (Int.lt_irrefl _),if_pos (by omega)]
        refine ⟨true,hsf,?_⟩
        rw [if_pos rfl]
        exact ⟨true,Xkn h1 h2 hz h3 hl hw s,rfl⟩
end Go.Proofs.YtjookebbmfiidaaDoor.L
