/- The law ItemsCloses on grammars of any shape. Condition: the size. -/
import Derived.Test.YtadcichlnacagaaDoorI10
set_option linter.unusedVariables false
namespace Go.Proofs.YtadcichlnacagaaDoor.L
open Go.Proofs.YtadcichlnacagaaDoor.B Go.Proofs.YtadcichlnacagaaDoor.R
structure Bg (g:Yu5):Prop where
 b:Big g
 t:g.terms.length≤2 ^ 40
 s:g.syms.length≤2 ^ 40
theorem Big.p {g:Yu5} (h:Big g):g.prods.length≤2 ^ 32:=Nat.le_trans (Zpg g _) h.n
theorem Big.r {g:Yu5} (h:Big g) {p:Nat} (hp:p < g.prods.length):(Yvk g p).length≤2 ^ 32:=by
 have h1:=Zcz hp (Nat.le_refl _)
 have:=h.n
 omega
theorem Big.rm {g:Yu5} (h:Big g) {p:Yuf} (hp:p ∈ g.prods):p.rhs.length≤2 ^ 32:=by
 obtain ⟨i,hi,rfl⟩:=List.getElem_of_mem hp
 have:=h.r hi
 unfold Yvk at this
 rwa [Yvv hi] at this
theorem Zp5 {g:Yu5} (h:Bg g):Zaf g g:=by
 have hp:=h.b.p
 have ht:=h.t
 have hs:=h.s
 unfold Zaf
 refine ⟨g.terms,by simp,by omega,g.syms,by simp,by omega,?_⟩
 refine Yui.upto (B:=fun (q:Int × (List Yuf)) o=>Yx9 g g.terms g.syms q.1 q.2 o) (r:=g) (fun i=>((i:Int),g.prods.take i)) g.prods.length (fun i hi=>?_) ?_
 ·show Yx9 g g.terms g.syms (i:Int) (g.prods.take i) _
  have hr:=h.b.rm (List.getElem_mem hi)
  unfold Yx9
  rw [if_pos (by omega),Yw3 (by omega),Yvv hi]
  refine ⟨by omega,_,by rw [List.nil_append],by omega,g.prods.take (i + 1),?_,by rw [List.length_take]; omega,rfl⟩
  rw [Zfc hi]
 ·show Yx9 g g.terms g.syms (g.prods.length:Int) (g.prods.take g.prods.length) _
  unfold Yx9
  rw [if_neg (by omega),List.take_length]
def m2:List Yut:=[⟨-73,⟨#[]⟩,⟨#[]⟩⟩,⟨-74,⟨#[]⟩,⟨#[]⟩⟩]
def mp:List (Yuf × Nat):=[(⟨-71,[]⟩,0),(⟨-72,[]⟩,0)]
def mt:List Yup:=[⟨⟨#[109,97,114,107]⟩,false⟩,⟨⟨#[109,97,114,107]⟩,false⟩]
def msy:List Yvn:=[⟨⟨#[109,97,114,107]⟩,0⟩,⟨⟨#[109,97,114,107]⟩,0⟩]
def Zbd (p:Yuf):Yuf × Nat:=({ p with rhs:=p.rhs++m2 },p.rhs.length)
def Ywk (l:List Yuf):List (Yuf × Nat):=l.map Zbd++mp
theorem Ziw (l:List Yuf):(Ywk l).length=l.length + 2:=by simp [Ywk,mp]
theorem Zrp {l:List Yuf} {i:Nat} (h:i < l.length):ix (Ywk l) (i:Int)=Zbd l[i]:=by
 unfold Ywk
 rw [Zsj (by rw [List.length_map]; exact h),Yvv (by rw [List.length_map]; exact h),List.getElem_map]
def Zj7 (g:Yu5):Yu5 × Nat × Nat × Nat × List (Yuf × Nat):=(⟨g.terms++mt,g.syms++msy,[]⟩,g.terms.length,g.syms.length,g.prods.length,Ywk g.prods)
theorem Zs1 (p:Yuf):Zbe (Zbd p)=p:=by
 unfold Zbe Zbd
 simp
theorem seen12 (l:List Yuf):((Ywk l).take l.length).map Zbe=l:=by
 unfold Ywk
 rw [List.take_left' (by simp),List.map_map]
 exact (List.map_congr_left fun p _=>Zs1 p).trans (List.map_id l)
theorem mapset {α β:Type} (A:List α) (f g:α→β) (C:List β) {i:Nat} (h:i < A.length):((A.take i).map f++(A.drop i).map g++C).set i (f A[i])=(A.take (i + 1)).map f++(A.drop (i + 1)).map g++C:=by
 have hl:((A.take i).map f).length=i:=by simp; omega
 rw [List.drop_eq_getElem_cons h,List.map_cons,List.append_assoc,List.set_append_right _ _ (by omega),hl,Nat.sub_self,List.cons_append,List.set_cons_zero,List.take_succ_eq_append_getElem h,List.map_append]
 simp
theorem roomy_ok {g:Yu5} (h:Bg g):Zb2 g (Zj7 g):=by
 have hp:=h.b.p
 have ht:=h.t
 have hs:=h.s
 unfold Zb2
 refine ⟨g,Zp5 h,g.terms++mt,rfl,by simp [mt]; omega,by rw [List.length_append]; omega,g.syms++msy,rfl,by simp [msy]; omega,by rw [List.length_append]; omega,g.prods.map Zcx++mp,rfl,by simp [mp]; omega,by rw [List.length_append,List.length_map]; omega,?_⟩
 have key:=Yui.upto (B:=fun (q:Int × (List (Yuf × Nat))) o=>Yx1 g (g.terms++mt) (g.syms++msy) q.1 q.2 o) (r:=Zj7 g) (fun i=>((i:Int),(g.prods.take i).map Zbd++(g.prods.drop i).map Zcx++mp)) g.prods.length (fun i hi=>?_) ?_
 ·simpa using key
 ·show Yx1 g _ _ (i:Int) ((g.prods.take i).map Zbd++(g.prods.drop i).map Zcx++mp) _
  have hl:((g.prods.take i).map Zbd++(g.prods.drop i).map Zcx++mp).length=g.prods.length + 2:=by simp [mp]; omega
  have hix:ix ((g.prods.take i).map Zbd++(g.prods.drop i).map Zcx++mp) (i:Int)=Zcx g.prods[i]:=by
   rw [List.append_assoc,Zpx (i:=0) (by simp; omega) (by simp; omega)]
   rw [List.getElem_append_left (by simp; omega),List.getElem_map,List.getElem_drop]
   simp
  have hr:=h.b.rm (List.getElem_mem hi)
  unfold Yx1
  rw [Int.toNat_natCast,List.length_take,hl,if_pos (by omega),Yw3 (by omega),hix]
  refine ⟨by omega,rfl,g.prods[i].rhs++m2,rfl,by simp [m2]; omega,?_,_,rfl,?_⟩
  ·show (0:Int)≤0∧(0:Int)≤(((g.prods[i].rhs).take g.prods[i].rhs.length).length:Int)∧(((g.prods[i].rhs).take g.prods[i].rhs.length).length:Int)≤((g.prods[i].rhs++m2).length:Int)
   rw [List.take_length,List.length_append]
   omega
  ·show Sum.inl (((i + 1:Nat):Int),_)=Sum.inl ((i:Int) + 1,List.set _ ((i:Int)).toNat (({ g.prods[i] with rhs:=g.prods[i].rhs++m2 },((((g.prods[i].rhs).take g.prods[i].rhs.length).length:Int)).toNat):Yuf × Nat))
   rw [List.take_length,Int.toNat_natCast,Int.toNat_natCast]
   have:=mapset g.prods Zbd Zcx mp hi
   rw [← this]
   rfl
 ·show Yx1 g _ _ (g.prods.length:Int) ((g.prods.take g.prods.length).map Zbd++(g.prods.drop g.prods.length).map Zcx++mp) _
  unfold Yx1
  rw [Int.toNat_natCast,List.length_take,if_neg (by omega),List.take_length,List.drop_length]
  simp only [Int.toNat_natCast,List.map_nil,List.append_nil]
  rfl
theorem Zt8 {l:List Yud} (h:l.length≤2 ^ 40):Zbv l l:=⟨l,by simp,by omega,rfl⟩
theorem alike_ok {g:Yu5} (hl:Lg g):Zay g g true:=by
 have h1:=hl.t
 have h2:=hl.s
 have h3:=hl.p
 unfold Zay
 rw [if_pos rfl,if_pos rfl]
 have e:((g.prods.length:Int) != (g.prods.length:Int))=false:=by simp
 rw [e]
 unfold Yz0
 rw [if_neg (by simp)]
 refine Yui.cnt g.terms.length (fun i hi=>?_) ?_ <;> unfold Yzu
 ·rw [if_pos (by omega), if_pos rfl, Yw3 (by omega)]
  exact ⟨by omega,by omega,rfl⟩
 rw [if_neg (by omega)]
 refine Yui.cnt g.syms.length (fun i hi=>?_) ?_ <;> unfold Yzp
 ·rw [if_pos (by omega), if_pos rfl, Yw3 (by omega)]
  exact ⟨by omega,by omega,rfl⟩
 rw [if_neg (by omega)]
 refine Yui.cnt g.prods.length (fun i hi=>?_) ?_ <;> unfold Yzx
 ·have hr:=lgix hl i
  rw [if_pos (by omega),if_pos rfl]
  refine ⟨by omega,by omega,?_⟩
  have e2:(((ix g.prods (i:Int)).rhs.length:Int) != ((ix g.prods (i:Int)).rhs.length:Int))=false:=by simp
  rw [e2]
  unfold Yzs
  rw [if_neg (by simp)]
  refine Yui.cnt (ix g.prods (i:Int)).rhs.length (fun j hj=>?_) ?_ <;> unfold Yzv
  ·rw [if_pos (by omega), if_pos rfl, Yw3 (by omega)]
   exact ⟨by omega,by omega,by omega,by omega,rfl⟩
  ·rw [if_neg (by omega), Yw3 (by omega)]
   exact ⟨by omega,rfl⟩
 ·rw [if_neg (by omega)]
theorem Zn8 {α:Type} [Inhabited α] {A:List α} {a b:α} {n:Nat} (hn:n=A.length):ix (A++[a,b]) (n:Int)=a∧ix (A++[a,b]) ((n + 1:Nat):Int)=b:=by
 subst hn
 exact ⟨by rw [Zpx (i:=0) (by simp) (by simp)]; rfl,by rw [Zpx (i:=1) (by simp) rfl]; rfl⟩
theorem rooms_ok {g:Yu5} (h:Bg g):Zb5 ⟨g.terms++mt,g.syms++msy,[]⟩ g.terms.length g.syms.length (Ywk g.prods) g.prods.length true:=by
 have hp:=h.b.p
 have ht:=h.t
 have hs:=h.s
 have eT:(g.terms++mt).take g.terms.length=g.terms:=List.take_left
 have eS:(g.syms++msy).take g.syms.length=g.syms:=List.take_left
 have eP:(Ywk g.prods).take g.prods.length=g.prods.map Zbd:=by unfold Ywk; rw [List.take_left' (by simp)]
 have lT:(g.terms++mt).length=g.terms.length + 2:=by simp [mt]
 have lS:(g.syms++msy).length=g.syms.length + 2:=by simp [msy]
 have lP:=Ziw g.prods
 have w2:∀ n:Nat,n≤2 ^ 40→w64 ((n:Int) + 2)=((n + 2:Nat):Int):=fun n hn=>by rw [Yyq (by omega)]; omega
 have wm2:∀ n:Nat,n≤2 ^ 40→w64 (((n + 2:Nat):Int) - 2)=((n:Nat):Int):=fun n hn=>by rw [Yyq (by omega)]; omega
 have wm1:∀ n:Nat,n≤2 ^ 40→w64 (((n + 2:Nat):Int) - 1)=((n + 1:Nat):Int):=fun n hn=>by rw [Yyq (by omega)]; omega
 have lM:(g.prods.map Zbd).length=g.prods.length:=by simp
 have hp4:g.prods.length≤2 ^ 40:=by omega
 unfold Zb5
 show (_≤w64 ((((g.terms++mt).take g.terms.length).length:Int) + 2)∧w64 ((((g.terms++mt).take g.terms.length).length:Int) + 2)≤((g.terms++mt).length:Int))∧(_≤w64 ((((g.syms++msy).take g.syms.length).length:Int) + 2)∧w64 ((((g.syms++msy).take g.syms.length).length:Int) + 2)≤((g.syms++msy).length:Int))∧_
 rw [eT,eS,eP,lT,lS,lP,lM,w2 _ ht,w2 _ hs,w2 _ hp4]
 refine ⟨by omega,by omega,by omega,?_⟩
 refine Yui.cnt g.prods.length (fun i hi=>?_) ?_ <;> unfold Yzq
 ·have hr:=h.b.rm (List.getElem_mem hi)
  have hr4:g.prods[i].rhs.length≤2 ^ 40:=by omega
  have ei:ix (g.prods.map Zbd) (i:Int)=Zbd g.prods[i]:=by rw [Yvv (by rw [lM]; exact hi),List.getElem_map]
  have e1:((g.prods[i].rhs++m2).take (Zbd g.prods[i]).2).length=g.prods[i].rhs.length:=by
   show ((g.prods[i].rhs++m2).take g.prods[i].rhs.length).length=_
   rw [List.take_left]
  have e2:(Zbd g.prods[i]).1.rhs=g.prods[i].rhs++m2:=rfl
  have e3:(g.prods[i].rhs++m2).length=g.prods[i].rhs.length + 2:=by simp [m2]
  have e4:(g.prods[i].rhs++m2).take (g.prods[i].rhs.length + 2)=g.prods[i].rhs++m2:=List.take_of_length_le (by omega)
  rw [eP,lM,if_pos (by omega)]
  simp only [ei,e1,w2 _ hr4,Int.toNat_natCast,e2,e4,e3,wm2 _ hr4,wm1 _ hr4]
  obtain ⟨x1,x2⟩:=Zn8 (A:=g.prods[i].rhs) (a:=(⟨-73,⟨#[]⟩,⟨#[]⟩⟩:Yut)) (b:=⟨-74,⟨#[]⟩,⟨#[]⟩⟩) rfl
  unfold m2
  rw [x1,x2,Yw3 (by omega)]
  refine ⟨by omega,by omega,by omega,?_⟩
  rw [if_pos rfl]
  refine ⟨by omega,?_⟩
  rw [if_pos rfl]
 ·rw [eP, lM, if_neg (by omega)]
  show (_≤w64 ((((g.terms++mt).take (w64 ((((g.terms++mt).take g.terms.length).length:Int) + 2)).toNat).length:Int) - 2)∧_)∧_
  have e4:(g.terms++mt).take (g.terms.length + 2)=g.terms++mt:=List.take_of_length_le (by omega)
  have e5:(g.syms++msy).take (g.syms.length + 2)=g.syms++msy:=List.take_of_length_le (by omega)
  have e6:(Ywk g.prods).take (g.prods.length + 2)=Ywk g.prods:=List.take_of_length_le (by omega)
  simp only [eT,eS,w2 _ ht,w2 _ hs,w2 _ hp4,Int.toNat_natCast,e4,e5,e6,lT,lS,lP,wm2 _ ht,wm2 _ hs,wm2 _ hp4,wm1 _ ht,wm1 _ hs,wm1 _ hp4]
  obtain ⟨x1,x2⟩:=Zn8 (A:=g.terms) (a:=(⟨⟨#[109,97,114,107]⟩,false⟩:Yup)) (b:=⟨⟨#[109,97,114,107]⟩,false⟩) rfl
  obtain ⟨y1,y2⟩:=Zn8 (A:=g.syms) (a:=(⟨⟨#[109,97,114,107]⟩,0⟩:Yvn)) (b:=⟨⟨#[109,97,114,107]⟩,0⟩) rfl
  obtain ⟨z1,z2⟩:=Zn8 (A:=g.prods.map Zbd) (a:=((⟨-71,[]⟩,0):Yuf × Nat)) (b:=(⟨-72,[]⟩,0)) (n:=g.prods.length) lM.symm
  have ex1:ix (g.terms++mt) (g.terms.length:Int)=(⟨⟨#[109,97,114,107]⟩,false⟩:Yup):=x1
  have ex2:ix (g.terms++mt) ((g.terms.length + 1:Nat):Int)=(⟨⟨#[109,97,114,107]⟩,false⟩:Yup):=x2
  have ey1:ix (g.syms++msy) (g.syms.length:Int)=(⟨⟨#[109,97,114,107]⟩,0⟩:Yvn):=y1
  have ey2:ix (g.syms++msy) ((g.syms.length + 1:Nat):Int)=(⟨⟨#[109,97,114,107]⟩,0⟩:Yvn):=y2
  have ez1:ix (Ywk g.prods) (g.prods.length:Int)=((⟨-71,[]⟩,0):Yuf × Nat):=z1
  have ez2:ix (Ywk g.prods) ((g.prods.length + 1:Nat):Int)=((⟨-72,[]⟩,0):Yuf × Nat):=z2
  rw [ex1,ex2,ey1,ey2,ez1,ez2]
  refine ⟨by omega,?_⟩
  rw [if_pos rfl]
  refine ⟨by omega,?_⟩
  rw [if_pos rfl]
  refine ⟨by omega,?_⟩
  rw [if_pos rfl]
  refine ⟨by omega,?_⟩
  rw [if_pos rfl]
  refine ⟨by omega,?_⟩
  rw [if_pos rfl]
  exact ⟨by omega,rfl⟩
def mi:List Yud:=[⟨0,-71,0⟩,⟨0,-72,0⟩]
theorem Zpd {g:Yu5} (h:Bg g) {l:List Yud} (hl:l.length≤2 ^ 40) (x:Int):Yyv ⟨g.terms++mt,g.syms++msy,[]⟩ g.terms.length g.syms.length (Ywk g.prods) g.prods.length (l++mi) l.length g l x true:=by
 obtain ⟨r1,a1,a2,a3⟩:=Zq6 h.b hl
 obtain ⟨r2,b1,b2,b3⟩:=Ztb h.b hl x
 have eG:(⟨(⟨g.terms++mt,g.syms++msy,[]⟩:Yu5).terms.take g.terms.length,(⟨g.terms++mt,g.syms++msy,[]⟩:Yu5).syms.take g.syms.length,((Ywk g.prods).take g.prods.length).map Zbe⟩:Yu5)=g:=by
  obtain ⟨t,s,p⟩:=g
  simp only [Yu5.mk.injEq]
  exact ⟨List.take_left,List.take_left,seen12 p⟩
 have eL:(l++mi).take l.length=l:=List.take_left
 have w2:w64 ((l.length:Int) + 2)=((l.length + 2:Nat):Int):=by rw [Yyq (by omega)]; omega
 have w1:w64 ((l.length:Int) + 1)=((l.length + 1:Nat):Int):=by rw [Yyq (by omega)]; omega
 have lI:(l++mi).length=l.length + 2:=by simp [mi]
 have e6:(l++mi).take (l.length + 2)=l++mi:=List.take_of_length_le (by omega)
 obtain ⟨z1,z2⟩:=Zn8 (A:=l) (a:=(⟨0,-71,0⟩:Yud)) (b:=⟨0,-72,0⟩) rfl
 have ez1:ix (l++mi) (l.length:Int)=(⟨0,-71,0⟩:Yud):=z1
 have ez2:ix (l++mi) ((l.length + 1:Nat):Int)=(⟨0,-72,0⟩:Yud):=z2
 unfold Yyv
 rw [eG,eL]
 refine ⟨r1,a1,r2,b1,r1,a2,r2,b2,true,Zpo (by omega),true,Zpo (by omega),true,alike_ok h.b.lg,true,Zpo (by omega),?_⟩
 rw [w2,Int.toNat_natCast,e6,lI,w1,ez1,ez2]
 refine ⟨by omega,?_⟩
 rw [if_pos rfl,if_pos rfl,if_pos rfl,if_pos rfl]
 refine ⟨true,rooms_ok h,?_⟩
 rw [if_pos rfl]
 refine ⟨by omega,?_⟩
 rw [if_pos rfl]
 exact ⟨by omega,rfl⟩
def revP (p:Yuf):Yuf:={ p with rhs:=p.rhs.reverse }
def Zd5:List Yuf→List Yuf
 | []=>[]
 | p :: ps=>p :: ps.map revP
def turn (g:Yu5):Yu5:=⟨g.terms,g.syms,Zd5 g.prods⟩
theorem Zax (l:List Yuf):(Zd5 l).length=l.length:=by cases l <;> simp [Zd5]
theorem Zpb {l:List Yuf} {i:Nat} (h0:i≠0) (h:i < l.length) (h2:i < (Zd5 l).length):(Zd5 l)[i]=revP l[i]:=by
 cases l with
 | nil=>exact absurd h (Nat.not_lt_zero _)
 | cons p ps =>
  cases i with
  | zero=>exact absurd rfl h0
  | succ i=>simp [Zd5]
theorem Zp4 (l:List Yuf) (i:Int):(ix (Zd5 l) i).rhs.length=(ix l i).rhs.length:=by
 rcases Nat.lt_or_ge i.toNat l.length with h | h
 ·have e:∀ l:List Yuf,∀ h:i.toNat < l.length,ix l i=l[i.toNat]:=fun l h=>by
   unfold ix
   rw [List.getD_eq_getElem?_getD,List.getElem?_eq_getElem h]
   rfl
  rw [e _ (by rw [Zax]; exact h),e _ h]
  by_cases h0:i.toNat=0
  ·cases l with
   | nil=>exact absurd h (Nat.not_lt_zero _)
   | cons p ps=>simp [Zd5,h0]
  ·rw [Zpb h0 h]; simp [revP]
 ·have e:∀ l:List Yuf,l.length≤i.toNat→ix l i=default:=fun l h=>by
   unfold ix
   rw [List.getD_eq_getElem?_getD,List.getElem?_eq_none h]
   rfl
  rw [e _ (by rw [Zax]; exact h),e _ h]
theorem turn_big {g:Yu5} (h:Bg g):Bg (turn g):=by
 have ha:∀ p,atN (turn g) p=atN g p:=fun p=>by
  induction p with
  | zero=>rfl
  | succ p ih =>
   rw [atN,atN,ih]
   have:(Yvk (turn g) p).length=(Yvk g p).length:=Zp4 g.prods (p:Int)
   rw [this]
 refine ⟨⟨⟨h.b.lg.t,h.b.lg.s,?_,fun p hp=>?_⟩,?_⟩,h.t,h.s⟩
 ·show (Zd5 g.prods).length < _
  rw [Zax]; exact h.b.lg.p
 ·obtain ⟨i,hi,rfl⟩:=List.getElem_of_mem (show p ∈ Zd5 g.prods from hp)
  have:=Zp4 g.prods (i:Int)
  rw [Yvv hi] at this
  rw [this]
  exact lgix h.b.lg i
 ·unfold nN
  rw [ha]
  show atN g (Zd5 g.prods).length≤_
  rw [Zax]; exact h.b.n
def Zca (l:List Yuf) (i:Nat):List Yuf:=(Zd5 l).take i++l.drop i
theorem Zp3 {l:List Yuf} {i:Nat} (h:i≤l.length):(Zca l i).length=l.length:=by
 unfold Zca
 rw [List.length_append,List.length_take,List.length_drop,Zax]; omega
theorem Zt1 (l:List Yuf):Zca l 1=l:=by
 cases l <;> simp [Zca,Zd5]
theorem Zta {l:List Yuf} {i:Nat} (h:i < l.length) (h2:i < (Zca l i).length):(Zca l i)[i]=l[i]:=by
 have e:(Zca l i)[i]? = some l[i]:=by
  unfold Zca
  rw [List.getElem?_append_right (by rw [List.length_take,Zax]; omega),List.getElem?_drop,List.length_take,Zax,show i + (i - min i l.length)=i by omega,List.getElem?_eq_getElem h]
 rw [List.getElem?_eq_getElem h2] at e
 exact Option.some.inj e
theorem setmix {α:Type} {A B:List α} (C:List α) (hAB:A.length=B.length) {j:Nat} (h:j < A.length):((A.take j++B.drop j)++C).set j A[j]=(A.take (j + 1)++B.drop (j + 1))++C:=by
 have hl:(A.take j).length=j:=by rw [List.length_take]; omega
 rw [List.drop_eq_getElem_cons (show j < B.length by omega),List.append_assoc,List.set_append_right _ _ (by omega),hl,Nat.sub_self,List.cons_append,List.set_cons_zero,List.take_succ_eq_append_getElem h,List.append_assoc,List.append_assoc]
 rfl
theorem Ztk {l:List Yuf} {i:Nat} (h:i < l.length) (h0:i≠0):(Ywk (Zca l i)).set i (Zbd (revP l[i]))=Ywk (Zca l (i + 1)):=by
 unfold Ywk
 rw [List.set_append_left _ _ (by rw [List.length_map,Zp3 (by omega)]; exact h),← List.map_set]
 congr 2
 have:=setmix (A:=Zd5 l) (B:=l) [] (Zax l) (j:=i) (by rw [Zax]; exact h)
 rw [List.append_nil,List.append_nil,Zpb h0 h] at this
 exact this
theorem Zr5 {g:Yu5} (h:Bg g) (a:Yu5) (k6 k13:Nat):Yzr a k6 k13 (Ywk g.prods) g.prods.length (Ywk (Zd5 g.prods)):=by
 have hp:=h.b.p
 unfold Yzr
 have key:=Yui.upto (B:=fun (q:Int × (List (Yuf × Nat))) o=>Ywd g.prods.length q.1 q.2 o) (r:=Ywk (Zd5 g.prods)) (fun k=>((k:Int) + 1,Ywk (Zca g.prods (k + 1)))) (g.prods.length - 1) (fun k hk=>?_) ?_
 ·rw [Zt1] at key
  exact key
 ·show Ywd g.prods.length ((k:Int) + 1) (Ywk (Zca g.prods (k + 1))) (.inl (((k + 1:Nat):Int) + 1,Ywk (Zca g.prods (k + 1 + 1))))
  have hi:k + 1 < g.prods.length:=by omega
  revert hi
  have e1:(k:Int) + 1=((k + 1:Nat):Int):=by omega
  rw [e1]
  generalize k + 1=i at *
  intro hi
  have hi0:i≠0:=by omega
  have hr:=h.b.rm (List.getElem_mem hi)
  have hsl:=Zp3 (l:=g.prods) (i:=i) (by omega)
  have ei:ix (Ywk (Zca g.prods i)) (i:Int)=Zbd g.prods[i]:=by
   rw [Zrp (by omega),Zta hi]
  have hlen:(Ywk (Zca g.prods i)).length=g.prods.length + 2:=by rw [Ziw,hsl]
  unfold Ywd
  rw [List.length_take,hlen,if_pos (by omega),ei]
  refine ⟨by omega,g.prods[i].rhs,?_,by omega,?_⟩
  ·show _=[]++(g.prods[i].rhs++m2).take g.prods[i].rhs.length
   rw [List.take_left,List.nil_append]
  have hrev:g.prods[i].rhs.reverse.length=g.prods[i].rhs.length:=List.length_reverse
  have k2:=Yui.upto (B:=fun (q:(List (Yuf × Nat)) × Int) o=>Ywh (i:Int) g.prods[i].rhs q.1 q.2 o) (r:=(.inl ((i:Int) + 1,Ywk (Zca g.prods (i + 1))):Sum (Int × (List (Yuf × Nat))) (List (Yuf × Nat)))) (fun j=>((Ywk (Zca g.prods i)).set i ({ g.prods[i] with rhs:=(g.prods[i].rhs.reverse.take j++g.prods[i].rhs.drop j)++m2 },g.prods[i].rhs.length),(j:Int))) g.prods[i].rhs.length (fun j hj=>?_) ?_
  ·have e0:(Ywk (Zca g.prods i)).set i ({ g.prods[i] with rhs:=(g.prods[i].rhs.reverse.take 0++g.prods[i].rhs.drop 0)++m2 },g.prods[i].rhs.length)=Ywk (Zca g.prods i):=by
    have:(({ g.prods[i] with rhs:=(g.prods[i].rhs.reverse.take 0++g.prods[i].rhs.drop 0)++m2 },g.prods[i].rhs.length):Yuf × Nat)=(Ywk (Zca g.prods i))[i]'(by omega):=by
     have:=ei
     rw [Yvv (by omega)] at this
     rw [this]
     simp [Zbd]
    rw [this,List.set_getElem_self]
   rw [e0] at k2
   exact k2
  ·show Ywh (i:Int) g.prods[i].rhs ((Ywk (Zca g.prods i)).set i ({ g.prods[i] with rhs:=(g.prods[i].rhs.reverse.take j++g.prods[i].rhs.drop j)++m2 },g.prods[i].rhs.length)) (j:Int) _
   have es:∀ y:Yuf × Nat,ix ((Ywk (Zca g.prods i)).set i y) (i:Int)=y:=fun y=>by
    rw [Yvv (by rw [List.length_set]; omega),List.getElem_set_self]
   have ev:(((g.prods[i].rhs.reverse.take j++g.prods[i].rhs.drop j)++m2).take g.prods[i].rhs.length).length=g.prods[i].rhs.length:=by
    rw [List.length_take,List.length_append,List.length_append,List.length_take,List.length_drop,hrev]; omega
   have ew:w64 (w64 ((g.prods[i].rhs.length:Int) - 1) - (j:Int))=((g.prods[i].rhs.length - 1 - j:Nat):Int):=by
    rw [Yyq (x:=(g.prods[i].rhs.length:Int) - 1) (by omega),Yyq (by omega)]; omega
   unfold Ywh
   rw [es]
   simp only [ev]
   rw [if_pos (by omega),ew,Yvv (by omega),Yw3 (by omega)]
   refine ⟨by omega,by omega,_,rfl,_,rfl,?_⟩
   have hj2:j < g.prods[i].rhs.reverse.length:=by omega
   have:=setmix (A:=g.prods[i].rhs.reverse) (B:=g.prods[i].rhs) m2 hrev hj2
   rw [List.getElem_reverse] at this
   rw [Int.toNat_natCast,Int.toNat_natCast,this,List.set_set]
   rfl
  ·show Ywh (i:Int) g.prods[i].rhs ((Ywk (Zca g.prods i)).set i ({ g.prods[i] with rhs:=(g.prods[i].rhs.reverse.take g.prods[i].rhs.length++g.prods[i].rhs.drop g.prods[i].rhs.length)++m2 },g.prods[i].rhs.length)) (g.prods[i].rhs.length:Int) _
   have es:∀ y:Yuf × Nat,ix ((Ywk (Zca g.prods i)).set i y) (i:Int)=y:=fun y=>by
    rw [Yvv (by rw [List.length_set]; omega),List.getElem_set_self]
   unfold Ywh
   rw [es]
   have ev:(((g.prods[i].rhs.reverse.take g.prods[i].rhs.length++g.prods[i].rhs.drop g.prods[i].rhs.length)++m2).take g.prods[i].rhs.length).length=g.prods[i].rhs.length:=by
    rw [List.length_take,List.length_append,List.length_append,List.length_take,List.length_drop,hrev]; omega
   simp only [ev]
   rw [if_neg (by omega),Yw3 (by omega),← Ztk hi hi0]
   have:(({ g.prods[i] with rhs:=(g.prods[i].rhs.reverse.take g.prods[i].rhs.length++g.prods[i].rhs.drop g.prods[i].rhs.length)++m2 },g.prods[i].rhs.length):Yuf × Nat)=Zbd (revP g.prods[i]):=by
    rw [List.take_of_length_le (by omega),List.drop_length,List.append_nil]
    simp [Zbd,revP]
   rw [this]
 ·show Ywd g.prods.length (((g.prods.length - 1:Nat):Int) + 1) (Ywk (Zca g.prods (g.prods.length - 1 + 1))) _
  have e:Zca g.prods (g.prods.length - 1 + 1)=Zd5 g.prods:=by
   unfold Zca
   rw [List.take_of_length_le (by rw [Zax]; omega),List.drop_of_length_le (by omega),List.append_nil]
  unfold Ywd
  rw [e,List.length_take,Ziw,Zax,if_neg (by omega)]
theorem Zt6 {g:Yu5} (h:Bg g) {l:List Yud} (hl:l.length≤2 ^ 40) (x:Int):Yz3 g l x true:=by
 unfold Yz3
 refine ⟨Zj7 g,roomy_ok h,l,Zt8 hl,l++mi,rfl,by simp [mi]; omega,by rw [List.length_append]; omega,true,?_,?_⟩
 ·rw [Int.toNat_natCast]
  exact Zpd h hl x
 rw [if_pos rfl]
 have ht:=turn_big h
 have eS:((Ywk (Zd5 g.prods)).take g.prods.length).map Zbe=Zd5 g.prods:=by
  have:=seen12 (Zd5 g.prods)
  rwa [Zax] at this
 have eG:(⟨(Zj7 g).1.terms.take (Zj7 g).2.1,(Zj7 g).1.syms.take (Zj7 g).2.2.1,((Ywk (Zd5 g.prods)).take (Zj7 g).2.2.2.1).map Zbe⟩:Yu5)=turn g:=by
  show (⟨(g.terms++mt).take g.terms.length,(g.syms++msy).take g.syms.length,((Ywk (Zd5 g.prods)).take g.prods.length).map Zbe⟩:Yu5)=turn g
  rw [eS,List.take_left,List.take_left]
  rfl
 refine ⟨Ywk (Zd5 g.prods),Zr5 h _ _ _,turn g,?_,true,?_,rfl⟩
 ·rw [eG]; exact Zp5 ht
 ·rw [Int.toNat_natCast]
  have:=Zpd ht hl x
  show Yyv ⟨g.terms++mt,g.syms++msy,[]⟩ g.terms.length g.syms.length (Ywk (Zd5 g.prods)) g.prods.length (l++mi) l.length (turn g) l x true
  have e:(turn g).prods.length=g.prods.length:=Zax _
  rw [e] at this
  exact this
end Go.Proofs.YtadcichlnacagaaDoor.L
