/- Trees laid out as lists of nodes; the document's Reduce is the program's. Conditions: sizes, numbers are ints. -/
import Derived.Test.YtmekgfcfooghnaaJ8
import Derived.Test.YtmekgfcfooghnaaB5
set_option linter.unusedVariables false
namespace Go.Proofs.Ytmekgfcfooghnaa.L
open Go.Proofs.Ytmekgfcfooghnaa.B Go.Proofs.Ytmekgfcfooghnaa.R
mutual
def flT:Tre→List Xm4
 | ⟨n,ks,_⟩=>{ n with kids:=(ks.length:Int) } :: flL ks
def flL:List Tre→List Xm4
 | []=>[]
 | k :: ks=>flT k++flL ks
end
mutual
def dpT:Tre→Nat
 | ⟨_,ks,_⟩=>dpL ks + 1
def dpL:List Tre→Nat
 | []=>0
 | k :: ks=>max (dpT k) (dpL ks)
end
theorem Xvm (T:Tre):flT T = { T.node with kids:=(T.kids.length:Int) } :: flL T.kids:=by cases T; rfl
theorem dpT_eq (T:Tre):dpT T=dpL T.kids + 1:=by cases T; rfl
theorem Xxs:∀ (A B:List Tre),flL (A++B)=flL A++flL B
 | [],B=>rfl
 | T :: A,B=>by
  show flT T++flL (A++B)=(flT T++flL A)++flL B
  rw [Xxs A B,List.append_assoc]
theorem Yag (T:Tre):flL [T]=flT T:=by show flT T++[]=flT T; rw [List.append_nil]
theorem Xxt:∀ X:List Tre,X.length≤(flL X).length
 | []=>Nat.le_refl _
 | T :: X=>by
  have:=Xxt X
  show X.length + 1≤(flT T++flL X).length
  rw [List.length_append,Xvm,List.length_cons]
  omega
theorem Yfc:∀ (X:List Tre) (i:Nat) (h:i < X.length),dpT X[i]≤dpL X
 | T :: X,0,_=>Nat.le_max_left _ _
 | T :: X,i + 1,h=>Nat.le_trans (Yfc X i (by simpa using h)) (Nat.le_max_right _ _)
theorem flL_take (X:List Tre) (i:Nat):(flL (X.take i)).length≤(flL X).length:=by
 have:=Xxs (X.take i) (X.drop i)
 rw [List.take_append_drop] at this
 rw [this,List.length_append]
 omega
theorem Ydb (X:List Tre) (i:Nat) (h:i < X.length):flL (X.take (i + 1))=(flL (X.take i)++[{ X[i].node with kids:=(X[i].kids.length:Int) }])++flL X[i].kids:=by
 rw [List.take_succ_eq_append_getElem h,Xxs,Yag,Xvm,List.append_assoc]
 rfl
theorem Yev:∀ (f:Nat) (X:List Tre),dpL X < f→(flL X).length≤2 ^ 40→Xpp f X (flL X):=by
 intro f
 induction f with
 | zero=>intro X h; omega
 | succ f ih =>
  intro X hd hl
  show Xpi (Xpp f) _ _
  unfold Xpi
  have hX:=Xxt X
  have key:=Xmh.upto (B:=fun (s:(List Xm4) × Int) o=>Xnx X (Xpp f) s.1 s.2 o) (r:=flL X) (fun j=>(flL (X.take j),(j:Int))) X.length (fun i hi=>?_) ?_
  ·exact key
  ·show Xnx _ _ (flL (X.take i)) (i:Int) _
   have hd':=Yfc X i hi
   rw [dpT_eq] at hd'
   have h2:=flL_take X (i + 1)
   rw [Ydb X i hi] at h2
   have h3:=h2
   rw [List.length_append,List.length_append] at h3
   unfold Xnx
   rw [if_pos (by omega),Xnk hi]
   refine ⟨by omega,_,rfl,by rw [List.length_append]; show (_ + 1) * 72≤_; simp at h3; omega,_,ih _ (by omega) (by omega),_,rfl,?_,?_⟩
   ·refine Nat.le_trans (Nat.mul_le_mul_right 72 (Nat.le_trans h2 hl)) (by omega)
   ·rw [Xpj (by omega)]
    have e:=Ydb X i hi
    rw [show (((i + 1:Nat)):Int)=(i:Int) + 1 by omega,e]
  ·show Xnx _ _ (flL (X.take X.length)) (X.length:Int) _
   unfold Xnx
   rw [if_neg (by omega),List.take_length]
def pos (a:Nat):List Tre→List Int
 | []=>[]
 | T :: X=>(a:Int) :: pos (a + (flT T).length) X
theorem Xyw:∀ (a:Nat) (X:List Tre),(pos a X).length=X.length
 | _,[]=>rfl
 | a,T :: X=>by rw [pos,List.length_cons,Xyw,List.length_cons]
mutual
theorem flT_sf:∀ (T:Tre) (a:Nat) (m:List Xm4) (us:List (Tre × Nat)),sf m (a + (flT T).length)=some us→∃ T' e,sf (flT T++m) a=some ((T',e) :: us)∧T'.at_=(a:Int)
 | ⟨n,ks,at_⟩,a,m,us,h=>by
  have e0:flT ⟨n,ks,at_⟩ = { n with kids:=(ks.length:Int) } :: flL ks:=rfl
  rw [e0] at h ⊢
  obtain ⟨L,h1,h2,h3⟩:=flL_sf ks (a + 1) m us (by rw [List.length_cons] at h; rw [show a + 1 + (flL ks).length=a + ((flL ks).length + 1) by omega]; exact h)
  have:=Yad (n:={ n with kids:=(ks.length:Int) }) (l:=flL ks++m) (a:=a) h1 ⟨by show (0:Int)≤(ks.length:Int); omega,by show (ks.length:Int)≤_; rw [List.length_append]; omega⟩
  rw [show ({ n with kids:=(ks.length:Int) }:Xm4).kids.toNat=L.length by show ((ks.length:Int)).toNat=_; rw [Int.toNat_natCast,h2]] at this
  rw [List.drop_left] at this
  exact ⟨_,_,this,rfl⟩
theorem flL_sf:∀ (X:List Tre) (a:Nat) (m:List Xm4) (us:List (Tre × Nat)),sf m (a + (flL X).length)=some us→∃ L,sf (flL X++m) a=some (L++us)∧L.length=X.length∧L.map (·.1.at_)=pos a X
 | [],a,m,us,h=>⟨[],h,rfl,rfl⟩
 | T :: X,a,m,us,h=>by
  have e0:flL (T :: X)=flT T++flL X:=rfl
  rw [e0,List.length_append] at h
  obtain ⟨L,h1,h2,h3⟩:=flL_sf X (a + (flT T).length) m us (by rw [Nat.add_assoc]; exact h)
  obtain ⟨T',e,h4,h5⟩:=flT_sf T a (flL X++m) (L++us) h1
  refine ⟨(T',e) :: L,by rw [e0,List.append_assoc]; exact h4,by rw [List.length_cons,h2,List.length_cons],?_⟩
  rw [List.map_cons,h3,pos]
  exact congrArg (· :: _) h5
end
theorem sf_fl (X:List Tre):∃ L,sf (flL X) 0=some L∧L.length=X.length∧L.map (·.1.at_)=pos 0 X:=by
 obtain ⟨L,h1,h2,h3⟩:=flL_sf X 0 [] [] rfl
 rw [List.append_nil,List.append_nil] at h1
 exact ⟨L,h1,h2,h3⟩
theorem Yaz (X:List Tre):Xnq (flL X)=pos 0 X:=by
 obtain ⟨L,h1,_,h3⟩:=sf_fl X
 unfold Xnq
 rw [h1]
 exact h3
theorem fl_sf:∀ (l:List Xm4) (a:Nat) {S:List (Tre × Nat)},sf l a=some S→flL (S.map (·.1))=l
 | [],a,S,h=>by
  rw [Yb7] at h
  rw [← Option.some.inj h]
  rfl
 | n :: l,a,S,h=>by
  obtain ⟨ts,h1,h2,rfl⟩:=Ycf h
  have ih:=fl_sf l (a + 1) h1
  rw [List.map_cons]
  show flT _++flL _=_
  rw [Xvm]
  show { n with kids:=((List.map (·.1) (ts.take n.kids.toNat)).length:Int) } :: flL (List.map (·.1) (ts.take n.kids.toNat))++flL (List.map (·.1) (ts.drop n.kids.toNat))=n :: l
  rw [List.cons_append,← Xxs,← List.map_append,List.take_append_drop,ih]
  have:((List.map (·.1) (ts.take n.kids.toNat)).length:Int)=n.kids:=by rw [List.length_map,List.length_take]; omega
  rw [this]
def Xun (g:Xm4→Xm4) (T:Tre):Tre:=⟨g T.node,T.kids,T.at_⟩
theorem flT_map (g:Xm4→Xm4) (T:Tre):(flT (Xun g T)).length=(flT T).length:=by rw [Xvm,Xvm]; rfl
theorem Ydv {g:Xm4→Xm4} (hg:∀ n (k:Int),g { n with kids:=k } = { g n with kids:=k }):∀ (X:List Tre) (P:List Xm4),setRF g (pos P.length X) (P++flL X)=P++flL (X.map (Xun g))
 | [],P=>rfl
 | T :: X,P=>by
  have e1:P++flL (T :: X)=P++{ T.node with kids:=(T.kids.length:Int) } :: (flL T.kids++flL X):=by
   show P++(flT T++flL X)=_
   rw [Xvm,List.cons_append]
  rw [pos,setRF,e1,Int.toNat_natCast,Xnk (by simp),List.getElem_append_right (Nat.le_refl _),List.set_append_right _ _ (Nat.le_refl _)]
  simp only [Nat.sub_self,List.getElem_cons_zero,List.set_cons_zero]
  rw [hg]
  have e2:P++{ g T.node with kids:=(T.kids.length:Int) } :: (flL T.kids++flL X)=(P++flT (Xun g T))++flL X:=by
   rw [Xvm,List.append_assoc,List.cons_append]
   rfl
  have e3:P.length + (flT T).length=(P++flT (Xun g T)).length:=by rw [List.length_append,flT_map]
  rw [e2,e3,Ydv hg X,List.append_assoc]
  rfl
theorem Ya2 {g:Xm4→Xm4} (hg:∀ n (k:Int),g { n with kids:=k } = { g n with kids:=k }) (X:List Tre):setRF g (Xnq (flL X)) (flL X)=flL (X.map (Xun g)):=by
 rw [Yaz]
 exact Ydv hg X []
theorem Yej:∀ (X:List Tre) (P:List Xm4) (j:Nat) (h:j < X.length),ix (P++flL X) (ix (pos P.length X) (j:Int)) = { X[j].node with kids:=(X[j].kids.length:Int) }
 | T :: X,P,0,h=>by
  have e1:P++flL (T :: X)=P++{ T.node with kids:=(T.kids.length:Int) } :: (flL T.kids++flL X):=by
   show P++(flT T++flL X)=_
   rw [Xvm,List.cons_append]
  rw [e1,Xnk (by rw [Xyw]; exact h)]
  show ix _ (P.length:Int)=_
  rw [Xnk (by simp),List.getElem_append_right (Nat.le_refl _)]
  simp
 | T :: X,P,j + 1,h=>by
  have hj:j < X.length:=by simpa using h
  have e2:P++flL (T :: X)=(P++flT T)++flL X:=by rw [List.append_assoc]; rfl
  have e3:ix (pos P.length (T :: X)) ((j + 1:Nat):Int)=ix (pos (P++flT T).length X) (j:Int):=by
   rw [Xnk (by rw [Xyw]; exact h),Xnk (by rw [Xyw]; exact hj),List.length_append]
   rfl
  rw [e2,e3,Yej X (P++flT T) j hj]
  rfl
def undN (name:ByteArray) (X:List Tre) (e:Int):Xm4:=if X.length > 0 then ⟨name,true,(⟨#[]⟩:ByteArray),(ix X 0).node.from_,(ix X (X.length - 1:Nat)).node.to,0,-1⟩ else ⟨name,true,(⟨#[]⟩:ByteArray),e,e,0,-1⟩
def undT (name:ByteArray) (X:List Tre) (e:Int):Tre:=⟨undN name X e,X,0⟩
theorem Yf0 (name:ByteArray) (X:List Tre) (e:Int):Xy3 name (flL X) e=flT (undT name X e):=by
 have hr:(Xnq (flL X)).length=X.length:=by rw [Yaz,Xyw]
 unfold Xy3
 rw [Xvm,hr]
 show _ = { undN name X e with kids:=(X.length:Int) } :: flL X
 unfold undN
 by_cases h:X.length > 0
 ·rw [if_pos h,if_pos h,Yaz]
  have p0:=Yej X [] 0 h
  have p1:=Yej X [] (X.length - 1) (by omega)
  rw [List.nil_append] at p0 p1
  rw [show ((0:Nat):Int)=0 from rfl] at p0
  show (⟨name,true,(⟨#[]⟩:ByteArray),(ix (flL X) (ix (pos ([]:List Xm4).length X) 0)).from_,(ix (flL X) (ix (pos ([]:List Xm4).length X) ((X.length - 1:Nat):Int))).to,(X.length:Int),-1⟩:Xm4) :: flL X=_
  rw [p0,p1,Xnk (xs:=X) (by omega),show ix X 0=X[0] from Xnk (xs:=X) (i:=0) h]
 ·rw [if_neg h,if_neg h]
  have:X.length=0:=by omega
  rw [this]
  rfl
theorem Ya0 (name:ByteArray) {X:List Tre} (h:X.length≤2 ^ 40) (e:Int):Xpv name X e (undT name X e):=by
 unfold Xpv undT undN
 by_cases h0:X.length > 0
 ·have e1 : w64 ((X.length : Int) - 1) = ((X.length - 1 : Nat) : Int) := by rw [Xqy (by omega)]; omega
  rw [if_pos (by omega),if_pos h0,e1]
  exact ⟨by omega,by omega,rfl⟩
 ·rw [if_neg (by omega),if_neg h0]
def Ya1 (g:Xno) (s:Int):Int:=if s < 0∨s≥(g.terms.length:Int) + (g.syms.length:Int) then 2 else if s < (g.terms.length:Int) then 0 else if (ix g.syms (s - (g.terms.length:Int))).kind=1 then 1 else 2
theorem kind_ok {g:Xno} (h1:g.terms.length≤2 ^ 50) (h2:g.syms.length≤2 ^ 50) (s:Int):Xr9 g s (Ya1 g s):=by
 have e:w64 ((g.terms.length:Int) + (g.syms.length:Int))=(g.terms.length:Int) + (g.syms.length:Int):=Xqy (by omega)
 have j1:∀ c:Bool,(c=true↔s < 0∨s≥(g.terms.length:Int) + (g.syms.length:Int))→Xpa s g c (Ya1 g s):=fun c hc=>by
  unfold Xpa Ya1
  cases c with
  | true=>rw [if_pos rfl,if_pos (hc.1 rfl)]
  | false =>
   have h0:¬ (s < 0∨s≥(g.terms.length:Int) + (g.syms.length:Int)):=fun h=>by have:=hc.2 h; cases this
   rw [if_neg (by simp),if_neg h0]
   by_cases h3:s < (g.terms.length:Int)
   ·rw [if_pos h3,if_pos h3]
   ·have e2 : w64 (s - (g.terms.length : Int)) = s - (g.terms.length : Int) := Xqy (by omega)
    rw [if_neg h3,if_neg h3,e2]
    refine ⟨by omega,?_⟩
    split <;> rfl
 unfold Xr9
 by_cases h:s < 0
 ·rw [if_pos h]; exact j1 true (by simp [h])
 ·rw [if_neg h,e]; exact j1 _ (by simp [h])
theorem Yd9 (g:Xno) (s:Int):Ya1 g s=2↔tokF g s=false∧Xzb g s=false:=by
 unfold Ya1 tokF Xzb
 by_cases h0:s < 0∨s≥(g.terms.length:Int) + (g.syms.length:Int)
 ·rw [if_pos h0]
  simp only [true_iff,Bool.and_eq_false_iff,decide_eq_false_iff_not]
  omega
 ·rw [if_neg h0]
  have h1:0≤s:=by omega
  by_cases h2:s < (g.terms.length:Int)
  ·rw [if_pos h2,decide_eq_true h1,decide_eq_true h2]
   simp
  ·rw [if_neg h2, decide_eq_true h1, decide_eq_false h2, decide_eq_true (show 0 ≤ s - (g.terms.length : Int) by omega), decide_eq_true (show s - (g.terms.length : Int) < (g.syms.length : Int) by omega)]
   by_cases h3:(ix g.syms (s - (g.terms.length:Int))).kind=1
   ·rw [if_pos h3,h3]; simp
   ·rw [if_neg h3]; simp [h3]
theorem bt_pre (s:ByteArray) (h:0 < s.size):(bt s 0 == 95)=seq (s.extract 0 1) (⟨#[95]⟩:ByteArray):=by
 rw [Bool.eq_iff_iff,Yf5,decide_eq_true_eq,beq_iff_eq]
 have e1:Xxy (s.extract 0 1)=[bt s 0]:=by
  rw [Ycs,List.drop_zero]
  have:=Yfl (s:=s) (i:=0) h
  rw [List.take_zero] at this
  exact this
 have e2:Xxy (⟨#[95]⟩:ByteArray)=[95]:=by decide
 constructor
 ·intro g
  exact bs_inj (by rw [e1,e2,g])
 ·intro g
  have:=congrArg Xxy g
  rw [e1,e2] at this
  injection this
theorem Xyv (g:Xno) (s:Int):Xpo g s (Xtw g s):=by
 have j1:∀ c:Bool,(c=true↔s < 0∨s≥(g.terms.length:Int))→Xov s g c (Xtw g s):=fun c hc=>by
  unfold Xov Xtw tokF
  cases c with
  | true =>
   rw [if_pos rfl]
   rcases hc.1 rfl with h | h
   ·rw [decide_eq_false (show ¬ 0≤s by omega),Bool.false_and,Bool.false_and]
   ·rw [decide_eq_false (show ¬ s < (g.terms.length:Int) by omega),Bool.and_false,Bool.false_and]
  | false =>
   have h0:¬ (s < 0∨s≥(g.terms.length:Int)):=fun h=>by have:=hc.2 h; cases this
   rw [if_neg (by simp),decide_eq_true (show 0≤s by omega),decide_eq_true (show s < (g.terms.length:Int) by omega),Bool.true_and,Bool.true_and]
   refine ⟨by omega,?_⟩
   cases hl:(ix g.terms s).lit with
   | true=>rw [if_pos rfl]; rfl
   | false =>
    rw [if_neg (by simp)]
    unfold pre95
    by_cases h1:((ix g.terms s).name.size:Int) > 0
    ·rw [if_pos h1, decide_eq_true (show 1 ≤ (ix g.terms s).name.size by omega)]
     exact ⟨by omega,by rw [bt_pre _ (by omega)]; rfl⟩
    ·rw [if_neg h1, decide_eq_false (show ¬ 1 ≤ (ix g.terms s).name.size by omega)]
     rfl
 unfold Xpo
 by_cases h:s < 0
 ·rw [if_pos h]; exact j1 true (by simp [h])
 ·rw [if_neg h]; exact j1 _ (by simp [h])
def Xwg (g:Xno) (r:Xo0) (X:List Tre) (e:Int):List Tre :=
 if r.as=(⟨#[]⟩:ByteArray) then (if Xtw g r.sym=true then [] else X) else if Ya1 g r.sym=2 then [undT r.as X e] else X.map (Xun (Yba r.as))
def Xut (g:Xno) (r:Xo0) (X:List Tre) (e:Int):List Tre:=(Xwg g r X e).map (Xun (Xsx r.field))
theorem fldG_com (f:ByteArray) (n:Xm4) (k:Int):Xsx f { n with kids:=k } = { Xsx f n with kids:=k }:=by
 unfold Xsx
 by_cases h:n.field=(⟨#[]⟩:ByteArray)
 ·rw [if_pos h,if_pos h]
 ·rw [if_neg h,if_neg h]
theorem Ydf (l:Xml) (r:Xo0) (X:List Tre) (e:Int):flL (Xut l.gram r X e)=Xzz l r (flL X) e:=by
 have h1:flL (Xwg l.gram r X e)=Xyy l r (flL X) e:=by
  unfold Xwg Xyy
  by_cases h0:r.as=(⟨#[]⟩:ByteArray)
  ·rw [if_pos h0,if_pos h0]
   unfold Xxg
   split <;> rfl
  ·rw [if_neg h0,if_neg h0]
   by_cases h2:Ya1 l.gram r.sym=2
   ·rw [if_pos h2,if_pos ((Yd9 _ _).1 h2),Yag,Yf0]
   ·rw [if_neg h2,if_neg (fun g=>h2 ((Yd9 _ _).2 g)),Ya2 (fun _ _=>rfl)]
 unfold Xut Xzz
 rw [← h1,Ya2 (fldG_com r.field)]
theorem Ydc (g:Xno) (r:Xo0) (X:List Tre) (e:Int):(Xwg g r X e).length≤X.length + 1:=by
 unfold Xwg
 split
 ·split
  ·simp
  ·omega
 ·split
  ·simp
  ·simp
theorem Yf7 {α:Type} {g:α→α} {t:List α} {i:Nat} (hi:i < t.length):((t.take i).map g++t.drop i).length=t.length∧∀ v,((t.take i).map g++t.drop i).set i v=(t.take i).map g++(v :: t.drop (i + 1)):=by
 have hl:((t.take i).map g).length=i:=by rw [List.length_map,List.length_take]; omega
 refine ⟨by rw [List.length_append,hl,List.length_drop]; omega,fun v=>?_⟩
 rw [List.set_append_right _ _ (by omega),hl,Nat.sub_self,List.drop_eq_getElem_cons hi,List.set_cons_zero]
theorem shown_j2 (r:Xo0) {X:List Tre} (h:X.length≤2 ^ 40):Xo3 r X (X.map (Xun (Xsx r.field))):=by
 unfold Xo3
 have key:=Xmh.upto (B:=fun (s:(List Tre) × Int) o=>Xnr r s.1 s.2 o) (r:=X.map (Xun (Xsx r.field))) (fun j=>((X.take j).map (Xun (Xsx r.field))++X.drop j,(j:Int))) X.length (fun i hi=>?_) ?_
 ·exact key
 ·obtain ⟨g1,g2⟩:=Yf7 (g:=Xun (Xsx r.field)) hi
  have g3:=g2 (Xun (Xsx r.field) X[i])
  have g4:(X.take i).map (Xun (Xsx r.field))++(Xun (Xsx r.field) X[i] :: X.drop (i + 1))=(X.take (i + 1)).map (Xun (Xsx r.field))++X.drop (i + 1):=by
   rw [List.take_succ_eq_append_getElem hi,List.map_append,List.append_assoc]; rfl
  have g5:ix ((X.take i).map (Xun (Xsx r.field))++X.drop i) (i:Int)=X[i]:=by
   rw [Xnk (by rw [g1]; exact hi),List.getElem_append_right (by rw [List.length_map,List.length_take]; omega)]
   simp [Nat.min_eq_left (Nat.le_of_lt hi)]
  show Xnr r ((X.take i).map (Xun (Xsx r.field))++X.drop i) (i:Int) _
  unfold Xnr
  rw [if_pos (by omega),g5,Xpj (by omega)]
  refine ⟨by omega,?_⟩
  have e1:∀ v,((X.take i).map (Xun (Xsx r.field))++X.drop i).set (i:Int).toNat v=(X.take i).map (Xun (Xsx r.field))++(v :: X.drop (i + 1)):=fun v=>by rw [Int.toNat_natCast]; exact g2 v
  by_cases hf:(X[i].node).field=(⟨#[]⟩:ByteArray)
  ·rw [if_pos hf]
   refine ⟨_,rfl,?_⟩
   rw [e1]
   have e2:({ X[i] with node:=(⟨(X[i].node).name,(X[i].node).named,r.field,(X[i].node).from_,(X[i].node).to,(X[i].node).kids,(X[i].node).leaf⟩:Xm4) }:Tre)=Xun (Xsx r.field) X[i]:=by
    unfold Xun Xsx
    rw [if_pos hf]
   rw [e2,g4]
   rfl
  ·rw [if_neg hf]
   have e2:Xun (Xsx r.field) X[i]=X[i]:=by
    unfold Xun Xsx
    rw [if_neg hf]
    exact (Yey _).symm
   rw [e2] at g4
   rw [← g4,← List.drop_eq_getElem_cons hi]
   rfl
 ·show Xnr r _ (X.length:Int) _
  unfold Xnr
  rw [List.take_length,List.drop_length,List.append_nil,if_neg (by rw [List.length_map]; omega)]
theorem Ydm {g:Xno} (h1:g.terms.length≤2 ^ 50) (h2:g.syms.length≤2 ^ 50) (r:Xo0) {X:List Tre} (hX:X.length < 2 ^ 40) (e:Int):Xqv g r X e (Xut g r X e):=by
 unfold Xqv
 refine ⟨_,kind_ok h1 h2 _,_,Xyv _ _,?_⟩
 have hl:=Ydc g r X e
 have hj:=shown_j2 r (X:=Xwg g r X e) (by omega)
 have loop:∀ (f:Tre→Tre),(∀ i (hi:i < X.length) (out:List Tre),(out.length + 1) * 104≤211106232532992→∀ o,o=(.inl (out++[f X[i]],w64 ((i:Int) + 1)):Sum ((List Tre) × Int) (List Tre))→Xnf X r out (i:Int) o)→Xo3 r (X.map f) (Xut g r X e)→Xmh (fun (s:(List Tre) × Int) o=>Xnf X r s.1 s.2 o) (([]:List Tre),0) (Xut g r X e):=fun f hs hend=>by
  have key:=Xmh.upto (B:=fun (s:(List Tre) × Int) o=>Xnf X r s.1 s.2 o) (r:=Xut g r X e) (fun j=>((X.take j).map f,(j:Int))) X.length (fun i hi=>?_) ?_
  ·exact key
  ·refine hs i hi _ (by rw [List.length_map, List.length_take]; omega) _ ?_
   rw [List.take_succ_eq_append_getElem hi,List.map_append,Xpj (by omega)]
   rfl
  ·show Xnf X r _ (X.length:Int) _
   unfold Xnf
   rw [if_neg (by omega),List.take_length]
   exact ⟨_,rfl,hend⟩
 unfold Xut at loop ⊢
 unfold Xwg at hj loop ⊢
 by_cases h0:r.as=(⟨#[]⟩:ByteArray)
 ·rw [if_pos h0] at hj loop ⊢
  rw [if_pos h0]
  unfold Xp0
  cases hh:Xtw g r.sym with
  | true =>
   rw [hh,if_pos rfl] at hj
   rw [if_pos rfl,if_pos rfl]
   exact hj
  | false =>
   rw [hh,if_neg (by simp)] at hj loop
   rw [if_neg (by simp),if_pos h0,if_neg (by simp)]
   unfold Xoz
   rw [if_neg (by simp)]
   refine loop id (fun i hi out ho o e1=>?_) (by rw [List.map_id]; exact hj)
   unfold Xnf
   rw [if_pos (by omega),Xnk hi,if_pos h0]
   exact ⟨by omega,_,rfl,by rw [List.length_append]; exact ho,e1⟩
 ·rw [if_neg h0] at hj loop ⊢
  rw [if_neg h0]
  unfold Xp0
  rw [if_neg (by simp),if_neg h0]
  unfold Xoz
  by_cases h3:Ya1 g r.sym=2
  ·rw [if_pos h3] at hj ⊢
   rw [if_pos (by rw [h3]; rfl)]
   exact ⟨_,Ya0 _ (by omega) _,_,rfl,by simp,hj⟩
  ·rw [if_neg h3] at hj loop ⊢
   rw [if_neg (by simpa using h3)]
   refine loop (Xun (Yba r.as)) (fun i hi out ho o e1=>?_) hj
   unfold Xnf
   rw [if_pos (by omega),Xnk hi,if_neg h0]
   exact ⟨by omega,_,rfl,by rw [List.length_append]; exact ho,e1⟩
end Go.Proofs.Ytmekgfcfooghnaa.L
