/- Queries: the program's parser reads patterns, more. Condition: sizes. -/
import Derived.Test.YtjookebbmfiidaaDoorS7
set_option linter.unusedVariables false
namespace Go.Proofs.YtjookebbmfiidaaDoor.L
open Go.Proofs.YtjookebbmfiidaaDoor.B Go.Proofs.YtjookebbmfiidaaDoor.R
def vP (W:List Ak) (L:Int) (o:List Ag) (cs:List Bh):PQ (Ag × PF × List ByteArray)→Ai→Prop
  | .ok p q,r=>r=QP W L q (o++p.1 :: Bz p.2.1) cs
  | .no e q,r=>ErQ W L e q o.length r
def VP (W:List Ak) (L:Int) (cs:List Bh) (n:Nat) (t:List Tk):Prop:=∀ (o:List Ag) (seen:List ByteArray),o.length≤32→Jv o seen→∃ r,D5 n (QP W L t o cs) r∧vP W L o cs (Xc3 o.length seen t) r
section
variable {W:List Ak} {L:Int} {cs:List Bh}
theorem pj4_no {e:Int} {q:List Tk} {o:List Ag} {r23:Bool × Ai} (hr:r23.2.q.nodes=o) {p:Ai} (h:ErQ W L e q (o.length + 1) p) (nm fld:ByteArray) (lit:Bool) (ks:Int):∃ r,Em r23 nm lit fld ks false p.words p.at_ p.end_ p.q.nodes p.q.conds p.code p.place r∧ErQ W L e q o.length r:=by
  obtain ⟨h1,h2,h3,h4,h5,h6⟩:=h
  refine ⟨⟨p.words,p.at_,p.end_,⟨p.q.nodes.set o.length ⟨nm,lit,fld,noB,ks⟩,p.q.conds⟩,p.code,p.place⟩,?_,h1,h2,h3,h4,h5,?_⟩
  · unfold Em
    rw [if_neg (by simp),hr]
    exact ⟨⟨Int.natCast_nonneg _,by omega⟩,_,rfl,rfl⟩
  · show _≤(p.q.nodes.set _ _).length
    rw [List.length_set]
    omega
theorem Xlm {e:Int} (he:e≠0) {q:List Tk} {o:List Ag} {r23:Bool × Ai} (hr:r23.2.q.nodes=o) {p:Ai} (h:ErQ W L e q (o.length + 1) p) (nm fld:ByteArray) (lit:Bool) (ks:Int):∃ r,Dy r23 fld p.words p.at_ p.end_ p.q.nodes p.q.conds p.code p.place nm lit ks r∧ErQ W L e q o.length r:=by
  obtain ⟨r,h1,h2⟩:=pj4_no hr h nm fld lit ks
  refine ⟨r,?_,h2⟩
  unfold Dy
  rw [if_neg (by rw [h.2.2.1]; exact he)]
  exact h1
theorem pj3_ok (hW : W.length ≤ 2 ^ 40) {t : List Tk} (ht : Rst W t) {o v : List Ag} (ho : (o ++ G5 :: v).length ≤ 2 ^ 40) {seen : List ByteArray} (hs : Jv (o ++ G5 :: v) seen) {r23 : Bool × Ai} (hr : r23.2.q.nodes = o) (nm fld : ByteArray) (lit : Bool) (ks : Int) (k : PF) :
    ∃ r,Dy r23 fld W (psn W t:Int) L (o++G5 :: v) cs 0 0 nm lit ks r∧(match Vt ⟨nm,lit,fld,noB,ks⟩ k seen t with
      | .ok p q=>r=QP W L q (o++p.1 :: v) cs
      | .no e q=>ErQ W L e q o.length r):=by
  have hlen:(o.length:Int) < ((o++G5 :: v).length:Int):=by
    rw [List.length_append,List.length_cons]
    omega
  have hj:∀ r,Em r23 nm lit fld ks (isT 5 Tf t) W (psn W t:Int) L (o++G5 :: v) cs 0 0 r→Dy r23 fld W (psn W t:Int) L (o++G5 :: v) cs 0 0 nm lit ks r:=fun r h=>by
    unfold Dy
    rw [if_pos rfl]
    exact ⟨_,pis ht rfl 5 Tf,h⟩
  unfold Vt
  by_cases c1:isT 5 Tf t=true
  · rw [if_pos c1]
    rw [c1] at hj
    obtain ⟨t1,rfl⟩:=V4 c1
    rw [List.tail_cons]
    have ht1:Rst W t1:=ht.tl
    obtain ⟨h1,h2,h3,h4⟩:=ht.hd
    have e1:w64 ((psn W ((5,Tf) :: t1):Int) + 1)=(psn W t1:Int):=by rw [Dw (by omega),h4]; rfl
    have hj2:∀ r,(∃ r689:ByteArray × Ai,(Eh (QP W L t1 (o++G5 :: v) cs) r689) ∧
  ∃ r713:Int,(Gx r689.2.q r689.1 r713) ∧
  if r713≥0 then
   ∃ r746:Ai,(Du r689.2 201 (psn W t1:Int) r746) ∧
   (0≤(o.length:Int)∧(o.length:Int) < (r746.q.nodes.length:Int)) ∧
   ∃ x768:List Ag,(x768=r746.q.nodes.set o.length (⟨nm,lit,fld,r689.1,ks⟩:Ag)) ∧
   r=(⟨r746.words,r746.at_,r746.end_,(⟨x768,r746.q.conds⟩:Ar),r746.code,r746.place⟩:Ai)
  else
   (0≤(o.length:Int)∧(o.length:Int) < (r689.2.q.nodes.length:Int)) ∧
   ∃ x774:List Ag,(x774=r689.2.q.nodes.set o.length (⟨nm,lit,fld,r689.1,ks⟩:Ag)) ∧
   r=(⟨r689.2.words,r689.2.at_,r689.2.end_,(⟨x774,r689.2.q.conds⟩:Ar),r689.2.code,r689.2.place⟩:Ai))→Em r23 nm lit fld ks true W (psn W ((5,Tf) :: t1):Int) L (o++G5 :: v) cs 0 0 r:=fun r h=>by
      unfold Em
      rw [if_pos rfl,e1,hr]
      exact h
    by_cases c2:Yl t1=true
    · rw [if_pos c2]
      have hn:=Xbg (L:=L) hW ht1 (o:=o++G5 :: v) (cs:=cs) c2
      have hc:=Xho ho cs (hdT t1)
      by_cases c3:inC (hdT t1) seen=true
      · rw [if_pos c3]
        refine ⟨⟨W,(psn W t1.tail:Int),L,⟨(o++G5 :: v).set o.length ⟨nm,lit,fld,hdT t1,ks⟩,cs⟩,201,plW W L t1⟩,hj _ (hj2 _ ⟨_,hn,_,hc,?_⟩),rfl,rfl,rfl,rfl,⟨Int.natCast_nonneg _,by show (psn W t1.tail:Int)≤(W.length:Int); unfold psn; omega⟩,?_⟩
        · rw [if_pos ((Xau hs _).2 c3)]
          exact ⟨_,Xfa ht1 rfl rfl rfl 201,⟨Int.natCast_nonneg _,hlen⟩,_,rfl,rfl⟩
        · show o.length≤((o++G5 :: v).set _ _).length
          rw [List.length_set]
          omega
      · rw [if_neg c3]
        refine ⟨QP W L t1.tail (o++⟨nm,lit,fld,hdT t1,ks⟩ :: v) cs,hj _ (hj2 _ ⟨_,hn,_,hc,?_⟩),rfl⟩
        rw [if_neg (fun h=>c3 ((Xau hs _).1 h))]
        refine ⟨⟨Int.natCast_nonneg _,hlen⟩,_,rfl,?_⟩
        show _=(⟨W,(psn W t1.tail:Int),L,⟨(o++G5 :: v).set o.length ⟨nm,lit,fld,hdT t1,ks⟩,cs⟩,0,0⟩:Ai)
        rw [Xmm]
        rfl
    · rw [if_neg c2]
      refine ⟨⟨W,(psn W t1:Int),L,⟨(o++G5 :: v).set o.length ⟨nm,lit,fld,noB,ks⟩,cs⟩,200,plW W L t1⟩,hj _ (hj2 _ ⟨_,Xga ht1 (by simpa using c2),_,Xho ho cs noB,?_⟩),rfl,rfl,rfl,rfl,⟨Int.natCast_nonneg _,by show (psn W t1:Int)≤(W.length:Int); unfold psn; omega⟩,?_⟩
      · rw [if_neg (by unfold Qh; rw [if_pos rfl]; decide)]
        exact ⟨⟨Int.natCast_nonneg _,hlen⟩,_,rfl,rfl⟩
      · show o.length≤((o++G5 :: v).set _ _).length
        rw [List.length_set]
        omega
  · rw [if_neg c1]
    have c1':isT 5 Tf t=false:=by simpa using c1
    rw [c1'] at hj
    refine ⟨QP W L t (o++⟨nm,lit,fld,noB,ks⟩ :: v) cs,hj _ ?_,rfl⟩
    unfold Em
    rw [if_neg (by simp),hr]
    refine ⟨⟨Int.natCast_nonneg _,hlen⟩,_,rfl,?_⟩
    show _=(⟨W,(psn W t:Int),L,⟨(o++G5 :: v).set o.length ⟨nm,lit,fld,noB,ks⟩,cs⟩,0,0⟩:Ai)
    rw [Xmm]
    rfl
theorem pkids (hW : W.length ≤ 2 ^ 40) {n : Nat} {o : List Ag} {r23 : Bool × Ai} (hr : r23.2.q.nodes = o) {fld nm : ByteArray} : ∀ (m : Nat) (t : List Tk) (c : Nat) (v : List Ag) (seen : List ByteArray), t.length < m → (∀ t2 : List Tk, t2.length ≤ t.length → Rst W t2 → VP W L cs n t2) → Rst W t → (o ++ G5 :: v).length ≤ 32 → Jv (o ++ G5 :: v) seen → c + t.length ≤ 2 ^ 41 →
    (match Xb1 (o++G5 :: v).length seen t with
      | .ok p q=>∀ r,Dy r23 fld W (psn W q:Int) L (o++G5 :: (v++Bz p.1)) cs 0 0 nm false ((c + Ku p.1:Nat):Int) r→Bl (fun (s:(List Ak) × Int × Int × (List Ag) × (List Bh) × Int × Int × Int) o=>Dh r23 fld nm (D5 n) s.1 s.2.1 s.2.2.1 s.2.2.2.1 s.2.2.2.2.1 s.2.2.2.2.2.1 s.2.2.2.2.2.2.1 s.2.2.2.2.2.2.2 o) (W,(psn W t:Int),L,o++G5 :: v,cs,0,0,(c:Int)) r
      | .no e q=>∃ r,Bl (fun (s:(List Ak) × Int × Int × (List Ag) × (List Bh) × Int × Int × Int) o=>Dh r23 fld nm (D5 n) s.1 s.2.1 s.2.2.1 s.2.2.2.1 s.2.2.2.2.1 s.2.2.2.2.2.1 s.2.2.2.2.2.2.1 s.2.2.2.2.2.2.2 o) (W,(psn W t:Int),L,o++G5 :: v,cs,0,0,(c:Int)) r∧ErQ W L e q o.length r)
  | 0,t,c,v,seen,hm,hv,ht,ho,hs,hc=>absurd hm (Nat.not_lt_zero _)
  | m + 1,t,c,v,seen,hm,hv,ht,ho,hs,hc=>by
    rw [kidsN_eq]
    have hb:∀ oo,(if isT 5 clB t=true then
   ∃ r1166:Ai,(E5 (QP W L t (o++G5 :: v) cs) (⟨#[41]⟩:ByteArray) r1166) ∧
   ∃ q1187:Ai,(oo=.inr (q1187)) ∧
   Dy r23 fld r1166.words r1166.at_ r1166.end_ r1166.q.nodes r1166.q.conds r1166.code r1166.place nm false (c:Int) q1187
  else
   ∃ r1192:Ai,(D5 n (QP W L t (o++G5 :: v) cs) r1192) ∧
   oo=.inl (r1192.words,r1192.at_,r1192.end_,r1192.q.nodes,r1192.q.conds,r1192.code,r1192.place,w64 ((c:Int) + 1)))→Dh r23 fld nm (D5 n) W (psn W t:Int) L (o++G5 :: v) cs 0 0 (c:Int) oo:=fun oo h=>by
      unfold Dh
      rw [if_pos rfl]
      exact ⟨_,pis ht rfl 5 clB,h⟩
    by_cases c1:isT 5 clB t=true
    · rw [if_pos c1]
      intro r hj
      refine .done (hb _ ?_)
      rw [if_pos c1]
      refine ⟨_,Xbf hW ht c1,r,rfl,?_⟩
      simp only [Bz,List.append_nil,Ku,Nat.add_zero] at hj
      exact hj
    · rw [if_neg c1]
      obtain ⟨r1,p1,p2⟩:=hv t (Nat.le_refl _) ht (o++G5 :: v) seen ho hs
      have hsuf:=Xkk (o++G5 :: v).length seen t
      have hsh:=patN_sh (o++G5 :: v).length seen t
      cases e:Xc3 (o++G5 :: v).length seen t with
      | no ee q =>
        have he:=Xk4 e
        rw [e] at p2
        have p2':ErQ W L ee q (o++G5 :: v).length r1:=p2
        dsimp only
        have p3:ErQ W L ee q (o.length + 1) r1:=⟨p2'.1,p2'.2.1,p2'.2.2.1,p2'.2.2.2.1,p2'.2.2.2.2.1,Nat.le_trans (by rw [List.length_append,List.length_cons]; omega) p2'.2.2.2.2.2⟩
        obtain ⟨r2,s1,s2⟩:=Xgl hW he p3 clB
        obtain ⟨r3,u1,u2⟩:=Xlm he hr s2 nm fld false (w64 ((c:Int) + 1))
        refine ⟨r3,.next (hb (.inl (r1.words,r1.at_,r1.end_,r1.q.nodes,r1.q.conds,r1.code,r1.place,w64 ((c:Int) + 1))) ?_) (.done ?_),u2⟩
        · rw [if_neg c1]
          exact ⟨r1,p1,rfl⟩
        · show Dh r23 fld nm (D5 n) r1.words r1.at_ r1.end_ r1.q.nodes r1.q.conds r1.code r1.place (w64 ((c:Int) + 1)) _
          unfold Dh
          rw [if_neg (by rw [p3.2.2.1]; exact he)]
          exact ⟨r2,s1,r3,rfl,u1⟩
      | ok p q =>
        obtain ⟨x,k,seen'⟩:=p
        rw [e] at p2 hsuf hsh
        have p2':r1=QP W L q ((o++G5 :: v)++x :: Bz k) cs:=p2
        have hsuf':q <:+ t:=hsuf
        have hsh':q.length < t.length:=hsh
        have hmax:=Xka e
        have hseen:=Xi1 e
        dsimp only
        have hv2:(o++G5 :: v)++x :: Bz k=o++G5 :: (v++x :: Bz k):=by simp
        have hlen2:(o++G5 :: v).length + 1 + (Bz k).length=(o++G5 :: (v++x :: Bz k)).length:=by
          rw [← hv2,List.length_append (as:=o++G5 :: v),List.length_cons]
          omega
        have hs2:Jv (o++G5 :: (v++x :: Bz k)) seen':=by
          rw [← hv2,hseen]
          have:=hs.app (.cons x k .nil)
          simpa [Bz] using this
        have ih:=pkids hW hr m q (c + 1) (v++x :: Bz k) seen' (by omega) (fun t2 h2=>hv t2 (by omega)) (ht.sub hsuf') (by omega) hs2 (by omega) (fld:=fld) (nm:=nm)
        have hnx:∀ r,Bl (fun (s:(List Ak) × Int × Int × (List Ag) × (List Bh) × Int × Int × Int) o=>Dh r23 fld nm (D5 n) s.1 s.2.1 s.2.2.1 s.2.2.2.1 s.2.2.2.2.1 s.2.2.2.2.2.1 s.2.2.2.2.2.2.1 s.2.2.2.2.2.2.2 o) (W,(psn W q:Int),L,o++G5 :: (v++x :: Bz k),cs,0,0,((c + 1:Nat):Int)) r→Bl (fun (s:(List Ak) × Int × Int × (List Ag) × (List Bh) × Int × Int × Int) o=>Dh r23 fld nm (D5 n) s.1 s.2.1 s.2.2.1 s.2.2.2.1 s.2.2.2.2.1 s.2.2.2.2.2.1 s.2.2.2.2.2.2.1 s.2.2.2.2.2.2.2 o) (W,(psn W t:Int),L,o++G5 :: v,cs,0,0,(c:Int)) r:=fun r h=>by
          refine .next (hb _ ?_) h
          rw [if_neg c1]
          refine ⟨r1,p1,?_⟩
          rw [p2',hv2,Dw (by omega)]
          rfl
        rw [hlen2]
        cases e2:Xb1 (o++G5 :: (v++x :: Bz k)).length seen' q with
        | no ee u =>
          rw [e2] at ih
          obtain ⟨r,i1,i2⟩:=ih
          exact ⟨r,hnx r i1,i2⟩
        | ok p u =>
          obtain ⟨g,s2⟩:=p
          rw [e2] at ih
          intro r hj
          refine hnx r (ih r ?_)
          have e3:v++x :: Bz k++Bz g=v++Bz (.cons x k g):=by simp [Bz]
          have e4:c + 1 + Ku g=c + Ku (.cons x k g):=by simp only [Ku]; omega
          dsimp only at hj ⊢
          rw [e3,e4]
          exact hj
end
end Go.Proofs.YtjookebbmfiidaaDoor.L
