/- Grammars lent with marks behind their rows: what is read of them is the grammar. No condition. -/
import Derived.Test.YtelafghkjlpojaaE3
set_option linter.unusedVariables false
namespace Go.Proofs.Ytelafghkjlpojaa.L
open Go.Proofs.Ytelafghkjlpojaa.B Go.Proofs.Ytelafghkjlpojaa.R
theorem refOf {g:Yfz} (hl:Lg g) (hg:Yim g=true) {s:Yg0} (hs:Yqq g s) {row:List Yg6} (hr:row.length < 2 ^ 60) (hk:Ym7 g row=true) (behind:Int):Yj2 g row behind (ofV s row behind):=by
 refine ⟨true,hg ▸ Yqt hl,?_⟩
 rw [if_pos rfl]
 refine ⟨_,Ysb hl hr,?_⟩
 unfold Yil
 rw [hk,if_neg (by simp)]
 have hvl:(Yjd g s).length=nA g:=by simp [Yjd]
 refine ⟨_,Ysy hl hg hs,_,Ytx hl hg hs hr hk,_,Ytj hr (fun r h=>by rw [hvl]; have:=Yl4 hk h; unfold nA; omega),?_⟩
 have e:Ypg (ix (Yjd g s)) row=(ofS s row 0).2:=by
  rw [Yoc]
  unfold Ypg
  have:∀ r ∈ row,ix (Yjd g s) r.sym=s.vanishes r.sym:=fun r h=>by
   have h1:=Yl4 hk h
   have e:=Ys0 (g:=g) (s:=s) (j:=r.sym.toNat) (by unfold nA; omega)
   rwa [Int.toNat_of_nonneg h1.1] at e
  rw [Bool.eq_iff_iff,List.all_eq_true,List.all_eq_true]
  exact ⟨fun h r hr=>by rw [← this r hr]; exact h r hr,fun h r hr=>by rw [this r hr]; exact h r hr⟩
 rw [e]
 unfold ofV
 split <;> rfl
theorem Ysk {g:Yfz} (hl:Lg g) {row:List Yg6} (hr:row.length < 2 ^ 60) (hk:Yim g=false∨Ym7 g row=false) (behind:Int):Yj2 g row behind 0:=by
 refine ⟨_,Yqt hl,?_⟩
 cases hg:Yim g with
 | false =>
  rw [if_neg (by simp)]
  unfold Yil
  rw [if_pos rfl]
 | true =>
  rw [if_pos rfl]
  refine ⟨_,Ysb hl hr,?_⟩
  unfold Yil
  have:Ym7 g row=false:=hk.resolve_left (by rw [hg]; simp)
  rw [this,if_pos (show (!false)=true from rfl)]
theorem Yr8 {α:Type} [Inhabited α] {A B:List α} {i:Nat} (h:i < B.length) {z:Int} (hz:z=((A.length + i:Nat):Int)):ix (A++B) z=B[i]:=by
 subst hz
 rw [Yhs (by rw [List.length_append]; omega),List.getElem_append_right (by omega)]
 simp
theorem mapset {α β:Type} (A:List α) (f g:α→β) (C:List β) {i:Nat} (h:i < A.length):((A.take i).map f++(A.drop i).map g++C).set i (f A[i])=(A.take (i + 1)).map f++(A.drop (i + 1)).map g++C:=by
 have hl:((A.take i).map f).length=i:=by simp; omega
 rw [List.drop_eq_getElem_cons h,List.map_cons,List.append_assoc,List.set_append_right _ _ (by omega),hl,Nat.sub_self,List.cons_append,List.set_cons_zero,List.take_succ_eq_append_getElem h,List.map_append]
 simp
def Sz (g:Yfz):Prop:=g.terms.length * 24≤211106232532000∧g.syms.length * 24≤211106232532000∧g.prods.length * 32≤211106232532000∧∀ p ∈ g.prods,p.rhs.length * 40≤211106232532000
theorem Sz.lg {g:Yfz} (h:Sz g):Lg g:=⟨by have:=h.1; omega,by have:=h.2.1; omega,by have:=h.2.2.1; omega,fun p hp=>by have:=h.2.2.2 p hp; omega⟩
theorem Ymn {row:List Yg6} (h:row.length * 40≤211106232532000):Yhj row row:=by
 unfold Yhj
 refine Yga.upto (B:=fun (s:(List Yg6) × Int) o=>Yh4 row s.1 s.2 o) (r:=row) (fun i=>(row.take i,(i:Int))) row.length (fun i hi=>?_) ?_
 ·show Yh4 row (row.take i) (i:Int) _
  unfold Yh4
  rw [if_pos (by omega),Yi6 (by omega)]
  refine ⟨by omega,row.take (i + 1),?_,by rw [List.length_take]; omega,rfl⟩
  rw [Yhs hi,List.take_succ_eq_append_getElem hi]
 ·show Yh4 row (row.take row.length) (row.length:Int) _
  unfold Yh4
  rw [if_neg (by omega),List.take_length]
theorem Ys6 {g:Yfz} (h:Sz g):Yix g g:=by
 obtain ⟨h1,h2,h3,h4⟩:=h
 have l3:Yga (fun (s:Int × (List Yg8)) o=>Yha g g.terms g.syms s.1 s.2 o) (0,([]:List Yg8)) (.inr (.inr g):Sum (Int × (List Ygq)) (Sum (Int × (List Ygc)) Yfz)):=by
  refine Yga.upto (B:=fun (s:Int × (List Yg8)) o=>Yha g g.terms g.syms s.1 s.2 o) (fun i=>((i:Int),g.prods.take i)) g.prods.length (fun i hi=>?_) ?_
  ·show Yha g g.terms g.syms (i:Int) (g.prods.take i) _
   unfold Yha
   rw [if_pos (by omega),Yi6 (by omega),Yhs hi]
   refine ⟨by omega,_,Ymn (h4 _ (List.getElem_mem hi)),g.prods.take (i + 1),?_,by rw [List.length_take]; omega,rfl⟩
   rw [List.take_succ_eq_append_getElem hi]
  ·show Yha g g.terms g.syms (g.prods.length:Int) (g.prods.take g.prods.length) _
   unfold Yha
   rw [if_neg (by omega),List.take_length]
 have l2:Yga (fun (s:Int × (List Ygq)) o=>Yhc g g.terms s.1 s.2 o) (0,([]:List Ygq)) (.inr g:Sum (Int × (List Ygc)) Yfz):=by
  refine Yga.upto (B:=fun (s:Int × (List Ygq)) o=>Yhc g g.terms s.1 s.2 o) (fun i=>((i:Int),g.syms.take i)) g.syms.length (fun i hi=>?_) ?_
  ·show Yhc g g.terms (i:Int) (g.syms.take i) _
   unfold Yhc
   rw [if_pos (by omega),Yi6 (by omega),Yhs hi]
   refine ⟨by omega,g.syms.take (i + 1),?_,by rw [List.length_take]; omega,rfl⟩
   rw [List.take_succ_eq_append_getElem hi]
  ·show Yhc g g.terms (g.syms.length:Int) (g.syms.take g.syms.length) _
   unfold Yhc
   rw [if_neg (by omega),List.take_length]
   exact l3
 unfold Yix
 refine Yga.upto (B:=fun (s:Int × (List Ygc)) o=>Yho g s.1 s.2 o) (fun i=>((i:Int),g.terms.take i)) g.terms.length (fun i hi=>?_) ?_
 ·show Yho g (i:Int) (g.terms.take i) _
  unfold Yho
  rw [if_pos (by omega),Yi6 (by omega),Yhs hi]
  refine ⟨by omega,g.terms.take (i + 1),?_,by rw [List.length_take]; omega,rfl⟩
  rw [List.take_succ_eq_append_getElem hi]
 ·show Yho g (g.terms.length:Int) (g.terms.take g.terms.length) _
  unfold Yho
  rw [if_neg (by omega),List.take_length]
  exact l2
def mk (i:Nat):Yg6:=⟨((900 + i:Nat):Int),⟨#[109,97,114,107]⟩,⟨#[]⟩⟩
def mkT:Ygc:=⟨⟨#[109,97,114,107]⟩,false⟩
def mkS:Ygq:=⟨⟨#[109,97,114,107]⟩,0⟩
def mkP (i:Nat):Yg8 × Nat:=(⟨((900 + i:Nat):Int),[]⟩,0)
def marks (i:Nat):List Yg6:=(List.range i).map mk
def Yjo (i:Nat):List (Yg8 × Nat):=(List.range i).map mkP
theorem Ynh (i:Nat):(marks i).length=i:=by simp [marks]
theorem Yly (i:Nat):(Yjo i).length=i:=by simp [Yjo]
theorem Ytb (i:Nat):marks (i + 1)=marks i++[mk i]:=by simp [marks,List.range_succ]
theorem Ysv (i:Nat):Yjo (i + 1)=Yjo i++[mkP i]:=by simp [Yjo,List.range_succ]
theorem Yty {i n:Nat} (h:i < (marks n).length):(marks n)[i]=mk i:=by simp [marks]
theorem Yt7 {i n:Nat} (h:i < (Yjo n).length):(Yjo n)[i]=mkP i:=by simp [Yjo]
theorem w900 {i:Nat} (h:i < 20):w64 (900 + (i:Int))=((900 + i:Nat):Int):=by rw [Yll (by omega)]; omega
theorem Yqc {row:List Yg6} (h:row.length * 40≤211106232532000):Yir row (row++marks 20,row.length):=by
 unfold Yir
 refine ⟨row,Ymn h,?_⟩
 have:=Yga.upto (B:=fun (s:(List Yg6) × Int) o=>Yh5 row s.1 s.2 o) (r:=(row++marks 20,row.length)) (fun i=>(row++marks i,(i:Int))) 20 (fun i hi=>?_) ?_
 ·simpa [marks] using this
 ·show Yh5 row (row++marks i) (i:Int) _
  unfold Yh5
  rw [if_pos (by omega),Yi6 (by omega),w900 hi]
  refine ⟨row++marks (i + 1),?_,by rw [List.length_append,Ynh]; omega,rfl⟩
  rw [Ytb,List.append_assoc]
  rfl
 ·show Yh5 row (row++marks 20) ((20:Nat):Int) _
  unfold Yh5
  rw [if_neg (by omega),List.length_append,Ynh]
  exact ⟨by omega,rfl⟩
def full (p:Yg8):Yg8 × Nat:=({ p with rhs:=p.rhs++marks 20 },p.rhs.length)
def You (g:Yfz):List (Yg8 × Nat):=g.prods.map full++Yjo 20
def Yid (g:Yfz):Yfz × Nat × Nat × Nat × List (Yg8 × Nat) :=
 (⟨g.terms++List.replicate 20 mkT,g.syms++List.replicate 20 mkS,[]⟩,g.terms.length,g.syms.length,g.prods.length,You g)
theorem vis_full (p:Yg8):Yj3 (full p)=p:=by
 unfold Yj3 full
 simp
theorem map_vis (l:List Yg8):(l.map full).map Yj3=l:=by
 rw [List.map_map]
 exact (List.map_congr_left fun p _=>vis_full p).trans (List.map_id l)
theorem Ypo (g:Yfz):(⟨(Yid g).1.terms.take (Yid g).2.1,(Yid g).1.syms.take (Yid g).2.2.1,((Yid g).2.2.2.2.take (Yid g).2.2.2.1).map Yj3⟩:Yfz)=g:=by
 obtain ⟨t,s,p⟩:=g
 simp only [Yid,You,Yfz.mk.injEq]
 refine ⟨by rw [List.take_left],by rw [List.take_left],?_⟩
 rw [List.take_left' (by simp)]
 exact map_vis p
theorem lent_ok {g:Yfz} (h:Sz g):Yk8 g (Yid g):=by
 unfold Yk8
 refine ⟨g,Ys6 h,?_⟩
 obtain ⟨h1,h2,h3,h4⟩:=h
 have l2:Yga (fun (s:Int × (List (Yg8 × Nat))) o=>Yhb g (g.terms++List.replicate 20 mkT) (g.syms++List.replicate 20 mkS) s.1 s.2 o) (0,g.prods.map Yje++Yjo 20) (.inr (Yid g):Sum (Int × (List Ygc) × (List Ygq) × (List (Yg8 × Nat))) (Yfz × Nat × Nat × Nat × (List (Yg8 × Nat)))):=by
  have:=Yga.upto (B:=fun (s:Int × (List (Yg8 × Nat))) o=>Yhb g (g.terms++List.replicate 20 mkT) (g.syms++List.replicate 20 mkS) s.1 s.2 o) (r:=(.inr (Yid g):Sum (Int × (List Ygc) × (List Ygq) × (List (Yg8 × Nat))) (Yfz × Nat × Nat × Nat × (List (Yg8 × Nat))))) (fun i=>((i:Int),(g.prods.take i).map full++(g.prods.drop i).map Yje++Yjo 20)) g.prods.length (fun i hi=>?_) ?_
  ·simpa using this
  ·show Yhb g _ _ (i:Int) ((g.prods.take i).map full++(g.prods.drop i).map Yje++Yjo 20) _
   have hl:((g.prods.take i).map full++(g.prods.drop i).map Yje++Yjo 20).length=g.prods.length + 20:=by simp [Yly]; omega
   have hix:ix ((g.prods.take i).map full++(g.prods.drop i).map Yje++Yjo 20) (i:Int)=Yje g.prods[i]:=by
    rw [List.append_assoc,Yr8 (i:=0) (by simp; omega) (by simp; omega)]
    rw [List.getElem_append_left (by simp; omega),List.getElem_map,List.getElem_drop]
    simp
   unfold Yhb
   rw [List.length_take,hl,if_pos (by omega),Yi6 (by omega),hix,Yhs hi]
   refine ⟨by omega,_,Yqc (h4 _ (List.getElem_mem hi)),by omega,_,rfl,?_⟩
   have:(({ (Yje g.prods[i]).1 with rhs:=g.prods[i].rhs++marks 20 },g.prods[i].rhs.length):Yg8 × Nat)=full g.prods[i]:=rfl
   rw [Int.toNat_natCast]
   show Sum.inl (((i + 1:Nat):Int),_)=Sum.inl ((i:Int) + 1,List.set _ i (full g.prods[i]))
   rw [mapset g.prods full Yje (Yjo 20) hi]
   rfl
  ·show Yhb g _ _ (g.prods.length:Int) ((g.prods.take g.prods.length).map full++(g.prods.drop g.prods.length).map Yje++Yjo 20) _
   unfold Yhb
   rw [List.length_take,if_neg (by omega),List.take_length,List.drop_length]
   simp only [Int.toNat_natCast,List.map_nil,List.append_nil]
   rfl
 have:=Yga.upto (B:=fun (s:Int × (List Ygc) × (List Ygq) × (List (Yg8 × Nat))) o=>Yhm g s.1 s.2.1 s.2.2.1 s.2.2.2 o) (r:=Yid g) (fun i=>((i:Int),g.terms++List.replicate i mkT,g.syms++List.replicate i mkS,g.prods.map Yje++Yjo i)) 20 (fun i hi=>?_) ?_
 ·simpa [Yjo] using this
 ·show Yhm g (i:Int) (g.terms++List.replicate i mkT) (g.syms++List.replicate i mkS) (g.prods.map Yje++Yjo i) _
  unfold Yhm
  rw [if_pos (by omega),Yi6 (by omega),w900 hi]
  refine ⟨g.terms++List.replicate (i + 1) mkT,?_,?_,g.syms++List.replicate (i + 1) mkS,?_,?_,g.prods.map Yje++Yjo (i + 1),?_,?_,rfl⟩
  ·rw [List.replicate_succ',List.append_assoc]; rfl
  ·simp; omega
  ·rw [List.replicate_succ',List.append_assoc]; rfl
  ·simp; omega
  ·rw [Ysv,List.append_assoc]; rfl
  ·simp [Yly]; omega
 ·show Yhm g ((20:Nat):Int) (g.terms++List.replicate 20 mkT) (g.syms++List.replicate 20 mkS) (g.prods.map Yje++Yjo 20) _
  unfold Yhm
  rw [if_neg (by omega)]
  refine ⟨by simp; omega,by simp; omega,by simp; omega,l2⟩
theorem Yqe {row:List Yg6} (h:row.length < 2 ^ 60):Yin row row true:=by
 unfold Yin
 rw [if_pos rfl]
 refine Yga.cnt row.length (fun i hi=>?_) ?_ <;> unfold Yiq
 ·rw [if_pos (by omega), if_pos rfl, Yi6 (by omega)]
  exact ⟨by omega,by omega,rfl⟩
 ·rw [if_neg (by omega)]
theorem same_ok {g:Yfz} (hl:Lg g):Yk5 g g true:=by
 have:=hl.t
 have:=hl.s
 have:=hl.p
 unfold Yk5
 rw [if_pos rfl,if_pos rfl]
 have e:((g.prods.length:Int) != (g.prods.length:Int))=false:=by simp
 rw [e]
 unfold Yio
 rw [if_neg (by simp)]
 refine Yga.cnt g.terms.length (fun i hi=>?_) ?_ <;> unfold Yj9
 ·rw [if_pos (by omega), if_pos rfl, Yi6 (by omega)]
  exact ⟨by omega,by omega,rfl⟩
 rw [if_neg (by omega)]
 refine Yga.cnt g.syms.length (fun i hi=>?_) ?_ <;> unfold Yja
 ·rw [if_pos (by omega), if_pos rfl, Yi6 (by omega)]
  exact ⟨by omega,by omega,rfl⟩
 rw [if_neg (by omega)]
 refine Yga.cnt g.prods.length (fun i hi=>?_) ?_ <;> unfold Yjf
 ·rw [if_pos (by omega), if_pos rfl, Yi6 (by omega), Yhs hi]
  exact ⟨by omega,by omega,true,Yqe (hl.r _ (List.getElem_mem hi)),by rw [if_pos rfl]⟩
 ·rw [if_neg (by omega)]
theorem Ypy {row:List Yg6} (h:row.length < 2 ^ 60):Yij (row++marks 20) row.length row true:=by
 unfold Yij
 have e:w64 ((row.length:Int) + 20)=((row.length + 20:Nat):Int):=by rw [Yll (by omega)]; omega
 have hl:(row++marks 20).length=row.length + 20:=by rw [List.length_append,Ynh]
 rw [e]
 refine ⟨by omega,?_⟩
 refine Yga.cnt 20 (fun i hi=>?_) ?_ <;> unfold Yik
 ·have e2 : w64 ((row.length : Int) + (i : Int)) = ((row.length + i : Nat) : Int) := by rw [Yll (by omega)]; omega
  rw [if_pos (by omega),e,Int.toNat_natCast,List.take_of_length_le (by omega),e2,Yr8 (i:=i) (by rw [Ynh]; omega) rfl,Yty,w900 hi,Yi6 (by omega)]
  refine ⟨by omega,?_⟩
  rw [if_pos (by rfl)]
 ·rw [if_neg (by omega), List.take_left]
  exact ⟨_,Yqe h,rfl⟩
theorem still_ok {g:Yfz} (hl:Lg g):Yjy (⟨(Yid g).1.terms,(Yid g).1.syms,[]⟩:Yfz) (Yid g).2.1 (Yid g).2.2.1 (Yid g).2.2.2.2 (Yid g).2.2.2.1 g true:=by
 have:=hl.t
 have:=hl.s
 have:=hl.p
 have eW:∀ n:Nat,n < 2 ^ 60→w64 ((n:Int) + 20)=((n + 20:Nat):Int):=fun n h=>by rw [Yll (by omega)]; omega
 have eI:∀ n i:Nat,n < 2 ^ 60→i < 20→w64 ((n:Int) + (i:Int))=((n + i:Nat):Int):=fun n i h hi=>by rw [Yll (by omega)]; omega
 have hsn:=Ypo g
 unfold Yjy
 show (_∧_≤((g.terms++List.replicate 20 mkT).length:Int))∧(_∧_≤((g.syms++List.replicate 20 mkS).length:Int))∧(_∧_≤((You g).length:Int))∧_
 have hT:(g.terms++List.replicate 20 mkT).length=g.terms.length + 20:=by simp
 have hS:(g.syms++List.replicate 20 mkS).length=g.syms.length + 20:=by simp
 have hP:(You g).length=g.prods.length + 20:=by simp [You,Yly]
 rw [hT,hS,hP,eW _ hl.t,eW _ hl.s,eW _ hl.p]
 refine ⟨by omega,by omega,by omega,?_⟩
 refine Yga.cnt 20 (fun i hi=>?_) ?_ <;> unfold Yj4
 ·rw [if_pos (by omega), eI _ i hl.t hi, eI _ i hl.s hi, eI _ i hl.p hi, eW _ hl.t, eW _ hl.s, eW _ hl.p]
  simp only [Int.toNat_natCast]
  have e1:(⟨(Yid g).1.terms,(Yid g).1.syms,[]⟩:Yfz).terms.take (g.terms.length + 20)=g.terms++List.replicate 20 mkT:=List.take_of_length_le (by show (g.terms++List.replicate 20 mkT).length≤_; omega)
  have e2:(⟨(Yid g).1.terms,(Yid g).1.syms,[]⟩:Yfz).syms.take (g.syms.length + 20)=g.syms++List.replicate 20 mkS:=List.take_of_length_le (by show (g.syms++List.replicate 20 mkS).length≤_; omega)
  have e3:(Yid g).2.2.2.2.take (g.prods.length + 20)=g.prods.map full++Yjo 20:=List.take_of_length_le (by show (You g).length≤_; omega)
  have hPi:((g.prods.length + i:Nat):Int)=(((g.prods.map full).length + i:Nat):Int):=by rw [List.length_map]
  have hPl:(g.prods.map full++Yjo 20).length=g.prods.length + 20:=hP
  rw [e1,e2]
  simp only [e3]
  rw [Yr8 (i:=i) (by simp; omega) rfl,Yr8 (i:=i) (by simp; omega) rfl,Yr8 (i:=i) (by rw [Yly]; omega) hPi,Yt7,List.getElem_replicate,List.getElem_replicate,hT,hS,w900 hi,Yi6 (by omega)]
  refine ⟨by omega,?_⟩
  rw [if_pos (by rfl)]
  refine ⟨by omega,?_⟩
  rw [if_pos (by rfl)]
  refine ⟨by rw [List.length_append,List.length_map,Yly]; omega,?_⟩
  rw [if_pos (by rfl),if_neg (by simp [mkP])]
 ·rw [if_neg (by omega)]
  refine ⟨true,?_,?_⟩
  ·have:(⟨(⟨(Yid g).1.terms,(Yid g).1.syms,[]⟩:Yfz).terms.take (Yid g).2.1,(⟨(Yid g).1.terms,(Yid g).1.syms,[]⟩:Yfz).syms.take (Yid g).2.2.1,((Yid g).2.2.2.2.take (Yid g).2.2.2.1).map Yj3⟩:Yfz)=g:=hsn
   rw [this]
   exact same_ok hl
  ·rw [if_pos rfl]
   have e4:(Yid g).2.2.2.2.take (Yid g).2.2.2.1=g.prods.map full:=by
    show (g.prods.map full++Yjo 20).take g.prods.length=_
    rw [List.take_left' (by simp)]
   refine Yga.cnt g.prods.length (fun i hi=>?_) ?_ <;> unfold Yj5
   ·rw [if_pos (by omega), e4, Yhs (by rw [List.length_map]; exact hi), List.getElem_map, Yhs hi, Yi6 (by omega)]
    exact ⟨by rw [List.length_map]; omega,by omega,true,Ypy (hl.r _ (List.getElem_mem hi)),by rw [if_pos rfl]⟩
   ·rw [if_neg (by omega)]
theorem Yse {g:Yfz} (hl:Lg g) {row:List Yg6} (hr:row.length < 2 ^ 60) (behind:Int):∃ v,Yj2 g row behind v∧Yl2 g row behind v:=by
 cases hg:Yim g with
 | true =>
  cases hk:Ym7 g row with
  | true =>
   obtain ⟨s,hs,hG⟩:=solve_ok hl hg
   exact ⟨_,refOf hl hg hG hr hk behind,of_ok hl hg hs hr hk behind⟩
  | false=>exact ⟨0,Ysk hl hr (.inr hk) behind,of_no hl hr (.inr hk) behind⟩
 | false=>exact ⟨0,Ysk hl hr (.inl hg) behind,of_no hl hr (.inl hg) behind⟩
end Go.Proofs.Ytelafghkjlpojaa.L
