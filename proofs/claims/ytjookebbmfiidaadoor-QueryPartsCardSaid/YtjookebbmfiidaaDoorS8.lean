/- Queries: the program's parser reads patterns, more. Condition: sizes. -/
import Derived.Test.YtjookebbmfiidaaDoorS7
set_option linter.unusedVariables false
namespace Go.Proofs.YtjookebbmfiidaaDoor.L
open Go.Proofs.YtjookebbmfiidaaDoor.B Go.Proofs.YtjookebbmfiidaaDoor.R
def vP (W:List Ak) (L:Int) (o:List Ag) (cs:List Bh):PQ (Ag × PF × List ByteArray)→Ai→Prop
  | .ok p q,r=>r=QP W L q (o++p.1 :: Bo p.2.1) cs
  | .no e q,r=>ErQ W L e q o.length r
def VP (W:List Ak) (L:Int) (cs:List Bh) (n:Nat) (t:List Tk):Prop:=∀ (o:List Ag) (seen:List ByteArray),o.length≤32→Jp o seen→∃ r,D6 n (QP W L t o cs) r∧vP W L o cs (Xcc o.length seen t) r
section
variable {W:List Ak} {L:Int} {cs:List Bh}
theorem pj4_no {e:Int} {q:List Tk} {o:List Ag} {r23:Bool × Ai} (hr:r23.2.q.nodes=o) {p:Ai} (h:ErQ W L e q (o.length + 1) p) (nm fld:ByteArray) (lit:Bool) (ks:Int):∃ r,Eo r23 nm lit fld ks false p.words p.at_ p.end_ p.q.nodes p.q.conds p.code p.place r∧ErQ W L e q o.length r:=by
  obtain ⟨h1,h2,h3,h4,h5,h6⟩:=h
  refine ⟨⟨p.words,p.at_,p.end_,⟨p.q.nodes.set o.length ⟨nm,lit,fld,noB,ks⟩,p.q.conds⟩,p.code,p.place⟩,?_,h1,h2,h3,h4,h5,?_⟩
  · unfold Eo
    rw [if_neg (by simp),hr]
    exact ⟨⟨Int.natCast_nonneg _,by omega⟩,_,rfl,rfl⟩
  · show _≤(p.q.nodes.set _ _).length
    rw [List.length_set]
    omega
theorem Xlm {e:Int} (he:e≠0) {q:List Tk} {o:List Ag} {r23:Bool × Ai} (hr:r23.2.q.nodes=o) {p:Ai} (h:ErQ W L e q (o.length + 1) p) (nm fld:ByteArray) (lit:Bool) (ks:Int):∃ r,E5 r23 fld p.words p.at_ p.end_ p.q.nodes p.q.conds p.code p.place nm lit ks r∧ErQ W L e q o.length r:=by
  obtain ⟨r,h1,h2⟩:=pj4_no hr h nm fld lit ks
  refine ⟨r,?_,h2⟩
  unfold E5
  rw [if_neg (by rw [h.2.2.1]; exact he)]
  exact h1
theorem pj3_ok (hW : W.length ≤ 2 ^ 40) {t : List Tk} (ht : Rst W t) {o v : List Ag} (ho : (o ++ Gv :: v).length ≤ 2 ^ 40) {seen : List ByteArray} (hs : Jp (o ++ Gv :: v) seen) {r23 : Bool × Ai} (hr : r23.2.q.nodes = o) (nm fld : ByteArray) (lit : Bool) (ks : Int) (k : PF) :
    ∃ r,E5 r23 fld W (psn W t:Int) L (o++Gv :: v) cs 0 0 nm lit ks r∧(match Wv ⟨nm,lit,fld,noB,ks⟩ k seen t with
      | .ok p q=>r=QP W L q (o++p.1 :: v) cs
      | .no e q=>ErQ W L e q o.length r):=by
  have hlen:(o.length:Int) < ((o++Gv :: v).length:Int):=by
    rw [List.length_append,List.length_cons]
    omega
  have hj:∀ r,Eo r23 nm lit fld ks (isT 5 U2 t) W (psn W t:Int) L (o++Gv :: v) cs 0 0 r→E5 r23 fld W (psn W t:Int) L (o++Gv :: v) cs 0 0 nm lit ks r:=fun r h=>by
    unfold E5
    rw [if_pos rfl]
    exact ⟨_,pis ht rfl 5 U2,h⟩
  unfold Wv
  by_cases c1:isT 5 U2 t=true
  · rw [if_pos c1]
    rw [c1] at hj
    obtain ⟨t1,rfl⟩:=W9 c1
    rw [List.tail_cons]
    have ht1:Rst W t1:=ht.tl
    obtain ⟨h1,h2,h3,h4⟩:=ht.hd
    have e1:w64 ((psn W ((5,U2) :: t1):Int) + 1)=(psn W t1:Int):=by rw [Dn (by omega),h4]; rfl
    have hj2:∀ r,(∃ r689:ByteArray × Ai,(Em (QP W L t1 (o++Gv :: v) cs) r689) ∧
  ∃ r713:Int,(Hf r689.2.q r689.1 r713) ∧
  if r713≥0 then
   ∃ r746:Ai,(Dx r689.2 201 (psn W t1:Int) r746) ∧
   (0≤(o.length:Int)∧(o.length:Int) < (r746.q.nodes.length:Int)) ∧
   ∃ x768:List Ag,(x768=r746.q.nodes.set o.length (⟨nm,lit,fld,r689.1,ks⟩:Ag)) ∧
   r=(⟨r746.words,r746.at_,r746.end_,(⟨x768,r746.q.conds⟩:Ar),r746.code,r746.place⟩:Ai)
  else
   (0≤(o.length:Int)∧(o.length:Int) < (r689.2.q.nodes.length:Int)) ∧
   ∃ x774:List Ag,(x774=r689.2.q.nodes.set o.length (⟨nm,lit,fld,r689.1,ks⟩:Ag)) ∧
   r=(⟨r689.2.words,r689.2.at_,r689.2.end_,(⟨x774,r689.2.q.conds⟩:Ar),r689.2.code,r689.2.place⟩:Ai))→Eo r23 nm lit fld ks true W (psn W ((5,U2) :: t1):Int) L (o++Gv :: v) cs 0 0 r:=fun r h=>by
      unfold Eo
      rw [if_pos rfl,e1,hr]
      exact h
    by_cases c2:Yt t1=true
    · rw [if_pos c2]
      have hn:=Xb7 (L:=L) hW ht1 (o:=o++Gv :: v) (cs:=cs) c2
      have hc:=Xiq ho cs (hdT t1)
      by_cases c3:inC (hdT t1) seen=true
      · rw [if_pos c3]
        refine ⟨⟨W,(psn W t1.tail:Int),L,⟨(o++Gv :: v).set o.length ⟨nm,lit,fld,hdT t1,ks⟩,cs⟩,201,plW W L t1⟩,hj _ (hj2 _ ⟨_,hn,_,hc,?_⟩),rfl,rfl,rfl,rfl,⟨Int.natCast_nonneg _,by show (psn W t1.tail:Int)≤(W.length:Int); unfold psn; omega⟩,?_⟩
        · rw [if_pos ((Xbs hs _).2 c3)]
          exact ⟨_,Xfk ht1 rfl rfl rfl 201,⟨Int.natCast_nonneg _,hlen⟩,_,rfl,rfl⟩
        · show o.length≤((o++Gv :: v).set _ _).length
          rw [List.length_set]
          omega
      · rw [if_neg c3]
        refine ⟨QP W L t1.tail (o++⟨nm,lit,fld,hdT t1,ks⟩ :: v) cs,hj _ (hj2 _ ⟨_,hn,_,hc,?_⟩),rfl⟩
        rw [if_neg (fun h=>c3 ((Xbs hs _).1 h))]
        refine ⟨⟨Int.natCast_nonneg _,hlen⟩,_,rfl,?_⟩
        show _=(⟨W,(psn W t1.tail:Int),L,⟨(o++Gv :: v).set o.length ⟨nm,lit,fld,hdT t1,ks⟩,cs⟩,0,0⟩:Ai)
        rw [Xmq]
        rfl
    · rw [if_neg c2]
      refine ⟨⟨W,(psn W t1:Int),L,⟨(o++Gv :: v).set o.length ⟨nm,lit,fld,noB,ks⟩,cs⟩,200,plW W L t1⟩,hj _ (hj2 _ ⟨_,Xge ht1 (by simpa using c2),_,Xiq ho cs noB,?_⟩),rfl,rfl,rfl,rfl,⟨Int.natCast_nonneg _,by show (psn W t1:Int)≤(W.length:Int); unfold psn; omega⟩,?_⟩
      · rw [if_neg (by unfold Xq; rw [if_pos rfl]; decide)]
        exact ⟨⟨Int.natCast_nonneg _,hlen⟩,_,rfl,rfl⟩
      · show o.length≤((o++Gv :: v).set _ _).length
        rw [List.length_set]
        omega
  · rw [if_neg c1]
    have c1':isT 5 U2 t=false:=by simpa using c1
    rw [c1'] at hj
    refine ⟨QP W L t (o++⟨nm,lit,fld,noB,ks⟩ :: v) cs,hj _ ?_,rfl⟩
    unfold Eo
    rw [if_neg (by simp),hr]
    refine ⟨⟨Int.natCast_nonneg _,hlen⟩,_,rfl,?_⟩
    show _=(⟨W,(psn W t:Int),L,⟨(o++Gv :: v).set o.length ⟨nm,lit,fld,noB,ks⟩,cs⟩,0,0⟩:Ai)
    rw [Xmq]
    rfl
theorem pkids (hW : W.length ≤ 2 ^ 40) {n : Nat} {o : List Ag} {r23 : Bool × Ai} (hr : r23.2.q.nodes = o) {fld nm : ByteArray} : ∀ (m : Nat) (t : List Tk) (c : Nat) (v : List Ag) (seen : List ByteArray), t.length < m → (∀ t2 : List Tk, t2.length ≤ t.length → Rst W t2 → VP W L cs n t2) → Rst W t → (o ++ Gv :: v).length ≤ 32 → Jp (o ++ Gv :: v) seen → c + t.length ≤ 2 ^ 41 →
    (match Xbf (o++Gv :: v).length seen t with
      | .ok p q=>∀ r,E5 r23 fld W (psn W q:Int) L (o++Gv :: (v++Bo p.1)) cs 0 0 nm false ((c + I8 p.1:Nat):Int) r→Bl (fun (s:(List Ak) × Int × Int × (List Ag) × (List Bh) × Int × Int × Int) o=>Dk r23 fld nm (D6 n) s.1 s.2.1 s.2.2.1 s.2.2.2.1 s.2.2.2.2.1 s.2.2.2.2.2.1 s.2.2.2.2.2.2.1 s.2.2.2.2.2.2.2 o) (W,(psn W t:Int),L,o++Gv :: v,cs,0,0,(c:Int)) r
      | .no e q=>∃ r,Bl (fun (s:(List Ak) × Int × Int × (List Ag) × (List Bh) × Int × Int × Int) o=>Dk r23 fld nm (D6 n) s.1 s.2.1 s.2.2.1 s.2.2.2.1 s.2.2.2.2.1 s.2.2.2.2.2.1 s.2.2.2.2.2.2.1 s.2.2.2.2.2.2.2 o) (W,(psn W t:Int),L,o++Gv :: v,cs,0,0,(c:Int)) r∧ErQ W L e q o.length r)
  | 0,t,c,v,seen,hm,hv,ht,ho,hs,hc=>absurd hm (Nat.not_lt_zero _)
  | m + 1,t,c,v,seen,hm,hv,ht,ho,hs,hc=>by
    rw [kidsN_eq]
    have hb:∀ oo,(if isT 5 clB t=true then
   ∃ r1166:Ai,(Ea (QP W L t (o++Gv :: v) cs) (⟨#[41]⟩:ByteArray) r1166) ∧
   ∃ q1187:Ai,(oo=.inr (q1187)) ∧
   E5 r23 fld r1166.words r1166.at_ r1166.end_ r1166.q.nodes r1166.q.conds r1166.code r1166.place nm false (c:Int) q1187
  else
   ∃ r1192:Ai,(D6 n (QP W L t (o++Gv :: v) cs) r1192) ∧
   oo=.inl (r1192.words,r1192.at_,r1192.end_,r1192.q.nodes,r1192.q.conds,r1192.code,r1192.place,w64 ((c:Int) + 1)))→Dk r23 fld nm (D6 n) W (psn W t:Int) L (o++Gv :: v) cs 0 0 (c:Int) oo:=fun oo h=>by
      unfold Dk
      rw [if_pos rfl]
      exact ⟨_,pis ht rfl 5 clB,h⟩
    by_cases c1:isT 5 clB t=true
    · rw [if_pos c1]
      intro r hj
      refine .done (hb _ ?_)
      rw [if_pos c1]
      refine ⟨_,Xbi hW ht c1,r,rfl,?_⟩
      simp only [Bo,List.append_nil,I8,Nat.add_zero] at hj
      exact hj
    · rw [if_neg c1]
      obtain ⟨r1,p1,p2⟩:=hv t (Nat.le_refl _) ht (o++Gv :: v) seen ho hs
      have hsuf:=Xkn (o++Gv :: v).length seen t
      have hsh:=patN_sh (o++Gv :: v).length seen t
      cases e:Xcc (o++Gv :: v).length seen t with
      | no ee q =>
        have he:=Xl8 e
        rw [e] at p2
        have p2':ErQ W L ee q (o++Gv :: v).length r1:=p2
        dsimp only
        have p3:ErQ W L ee q (o.length + 1) r1:=⟨p2'.1,p2'.2.1,p2'.2.2.1,p2'.2.2.2.1,p2'.2.2.2.2.1,Nat.le_trans (by rw [List.length_append,List.length_cons]; omega) p2'.2.2.2.2.2⟩
        obtain ⟨r2,s1,s2⟩:=Xh0 hW he p3 clB
        obtain ⟨r3,u1,u2⟩:=Xlm he hr s2 nm fld false (w64 ((c:Int) + 1))
        refine ⟨r3,.next (hb (.inl (r1.words,r1.at_,r1.end_,r1.q.nodes,r1.q.conds,r1.code,r1.place,w64 ((c:Int) + 1))) ?_) (.done ?_),u2⟩
        · rw [if_neg c1]
          exact ⟨r1,p1,rfl⟩
        · show Dk r23 fld nm (D6 n) r1.words r1.at_ r1.end_ r1.q.nodes r1.q.conds r1.code r1.place (w64 ((c:Int) + 1)) _
          unfold Dk
          rw [if_neg (by rw [p3.2.2.1]; exact he)]
          exact ⟨r2,s1,r3,rfl,u1⟩
      | ok p q =>
        obtain ⟨x,k,seen'⟩:=p
        rw [e] at p2 hsuf hsh
        have p2':r1=QP W L q ((o++Gv :: v)++x :: Bo k) cs:=p2
        have hsuf':q <:+ t:=hsuf
        have hsh':q.length < t.length:=hsh
        have hmax:=Xk6 e
        have hseen:=Xir e
        dsimp only
        have hv2:(o++Gv :: v)++x :: Bo k=o++Gv :: (v++x :: Bo k):=by simp
        have hlen2:(o++Gv :: v).length + 1 + (Bo k).length=(o++Gv :: (v++x :: Bo k)).length:=by
          rw [← hv2,List.length_append (as:=o++Gv :: v),List.length_cons]
          omega
        have hs2:Jp (o++Gv :: (v++x :: Bo k)) seen':=by
          rw [← hv2,hseen]
          have:=hs.app (.cons x k .nil)
          simpa [Bo] using this
        have ih:=pkids hW hr m q (c + 1) (v++x :: Bo k) seen' (by omega) (fun t2 h2=>hv t2 (by omega)) (ht.sub hsuf') (by omega) hs2 (by omega) (fld:=fld) (nm:=nm)
        have hnx:∀ r,Bl (fun (s:(List Ak) × Int × Int × (List Ag) × (List Bh) × Int × Int × Int) o=>Dk r23 fld nm (D6 n) s.1 s.2.1 s.2.2.1 s.2.2.2.1 s.2.2.2.2.1 s.2.2.2.2.2.1 s.2.2.2.2.2.2.1 s.2.2.2.2.2.2.2 o) (W,(psn W q:Int),L,o++Gv :: (v++x :: Bo k),cs,0,0,((c + 1:Nat):Int)) r→Bl (fun (s:(List Ak) × Int × Int × (List Ag) × (List Bh) × Int × Int × Int) o=>Dk r23 fld nm (D6 n) s.1 s.2.1 s.2.2.1 s.2.2.2.1 s.2.2.2.2.1 s.2.2.2.2.2.1 s.2.2.2.2.2.2.1 s.2.2.2.2.2.2.2 o) (W,(psn W t:Int),L,o++Gv :: v,cs,0,0,(c:Int)) r:=fun r h=>by
          refine .next (hb _ ?_) h
          rw [if_neg c1]
          refine ⟨r1,p1,?_⟩
          rw [p2',hv2,Dn (by omega)]
          rfl
        rw [hlen2]
        cases e2:Xbf (o++Gv :: (v++x :: Bo k)).length seen' q with
        | no ee u =>
          rw [e2] at ih
          obtain ⟨r,i1,i2⟩:=ih
          exact ⟨r,hnx r i1,i2⟩
        | ok p u =>
          obtain ⟨g,s2⟩:=p
          rw [e2] at ih
          intro r hj
          refine hnx r (ih r ?_)
          have e3:v++x :: Bo k++Bo g=v++Bo (.cons x k g):=by simp [Bo]
          have e4:c + 1 + I8 g=c + I8 (.cons x k g):=by simp only [I8]; omega
          dsimp only at hj ⊢
          rw [e3,e4]
          exact hj
end
end Go.Proofs.YtjookebbmfiidaaDoor.L
