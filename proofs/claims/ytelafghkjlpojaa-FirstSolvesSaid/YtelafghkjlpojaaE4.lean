/- Grammars lent with marks behind their rows: what is read of them is the grammar. No condition. -/
import Derived.Test.YtelafghkjlpojaaE3
set_option linter.unusedVariables false
namespace Go.Proofs.Ytelafghkjlpojaa.L
open Go.Proofs.Ytelafghkjlpojaa.B Go.Proofs.Ytelafghkjlpojaa.R
theorem Yr6 {α:Type} [Inhabited α] {A B:List α} {i:Nat} (h:i < B.length) {z:Int} (hz:z=((A.length + i:Nat):Int)):ix (A++B) z=B[i]:=by
 subst hz
 rw [Yhu (by rw [List.length_append]; omega),List.getElem_append_right (by omega)]
 simp
theorem mapset {α β:Type} (A:List α) (f g:α→β) (C:List β) {i:Nat} (h:i < A.length):((A.take i).map f++(A.drop i).map g++C).set i (f A[i])=(A.take (i + 1)).map f++(A.drop (i + 1)).map g++C:=by
 have hl:((A.take i).map f).length=i:=by simp; omega
 rw [List.drop_eq_getElem_cons h,List.map_cons,List.append_assoc,List.set_append_right _ _ (by omega),hl,Nat.sub_self,List.cons_append,List.set_cons_zero,List.take_succ_eq_append_getElem h,List.map_append]
 simp
def Sz (g:Yfz):Prop:=g.terms.length * 24≤211106232532000∧g.syms.length * 24≤211106232532000∧g.prods.length * 32≤211106232532000∧∀ p ∈ g.prods,p.rhs.length * 40≤211106232532000
theorem Sz.lg {g:Yfz} (h:Sz g):Lg g:=⟨by have:=h.1; omega,by have:=h.2.1; omega,by have:=h.2.2.1; omega,fun p hp=>by have:=h.2.2.2 p hp; omega⟩
theorem Ys3 {row:List Yg9} (h:row.length * 40≤211106232532000):Yj8 row row:=by
 unfold Yj8
 refine Yga.upto (B:=fun (s:(List Yg9) × Int) o=>Yha row s.1 s.2 o) (r:=row) (fun i=>(row.take i,(i:Int))) row.length (fun i hi=>?_) ?_
 ·show Yha row (row.take i) (i:Int) _
  unfold Yha
  rw [if_pos (by omega),Yi9 (by omega)]
  refine ⟨by omega,row.take (i + 1),?_,by rw [List.length_take]; omega,rfl⟩
  rw [Yhu hi,List.take_succ_eq_append_getElem hi]
 ·show Yha row (row.take row.length) (row.length:Int) _
  unfold Yha
  rw [if_neg (by omega),List.take_length]
theorem Yqz {g:Yfz} (h:Sz g):Yiw g g:=by
 obtain ⟨h1,h2,h3,h4⟩:=h
 have l3:Yga (fun (s:Int × (List Yg8)) o=>Yhl g g.terms g.syms s.1 s.2 o) (0,([]:List Yg8)) (.inr (.inr g):Sum (Int × (List Ygz)) (Sum (Int × (List Ygd)) Yfz)):=by
  refine Yga.upto (B:=fun (s:Int × (List Yg8)) o=>Yhl g g.terms g.syms s.1 s.2 o) (fun i=>((i:Int),g.prods.take i)) g.prods.length (fun i hi=>?_) ?_
  ·show Yhl g g.terms g.syms (i:Int) (g.prods.take i) _
   unfold Yhl
   rw [if_pos (by omega),Yi9 (by omega),Yhu hi]
   refine ⟨by omega,_,Ys3 (h4 _ (List.getElem_mem hi)),g.prods.take (i + 1),?_,by rw [List.length_take]; omega,rfl⟩
   rw [List.take_succ_eq_append_getElem hi]
  ·show Yhl g g.terms g.syms (g.prods.length:Int) (g.prods.take g.prods.length) _
   unfold Yhl
   rw [if_neg (by omega),List.take_length]
 have l2:Yga (fun (s:Int × (List Ygz)) o=>Yhi g g.terms s.1 s.2 o) (0,([]:List Ygz)) (.inr g:Sum (Int × (List Ygd)) Yfz):=by
  refine Yga.upto (B:=fun (s:Int × (List Ygz)) o=>Yhi g g.terms s.1 s.2 o) (fun i=>((i:Int),g.syms.take i)) g.syms.length (fun i hi=>?_) ?_
  ·show Yhi g g.terms (i:Int) (g.syms.take i) _
   unfold Yhi
   rw [if_pos (by omega),Yi9 (by omega),Yhu hi]
   refine ⟨by omega,g.syms.take (i + 1),?_,by rw [List.length_take]; omega,rfl⟩
   rw [List.take_succ_eq_append_getElem hi]
  ·show Yhi g g.terms (g.syms.length:Int) (g.syms.take g.syms.length) _
   unfold Yhi
   rw [if_neg (by omega),List.take_length]
   exact l3
 unfold Yiw
 refine Yga.upto (B:=fun (s:Int × (List Ygd)) o=>Yht g s.1 s.2 o) (fun i=>((i:Int),g.terms.take i)) g.terms.length (fun i hi=>?_) ?_
 ·show Yht g (i:Int) (g.terms.take i) _
  unfold Yht
  rw [if_pos (by omega),Yi9 (by omega),Yhu hi]
  refine ⟨by omega,g.terms.take (i + 1),?_,by rw [List.length_take]; omega,rfl⟩
  rw [List.take_succ_eq_append_getElem hi]
 ·show Yht g (g.terms.length:Int) (g.terms.take g.terms.length) _
  unfold Yht
  rw [if_neg (by omega),List.take_length]
  exact l2
def mk (i:Nat):Yg9:=⟨((900 + i:Nat):Int),⟨#[109,97,114,107]⟩,⟨#[]⟩⟩
def mkT:Ygd:=⟨⟨#[109,97,114,107]⟩,false⟩
def mkS:Ygz:=⟨⟨#[109,97,114,107]⟩,0⟩
def mkP (i:Nat):Yg8 × Nat:=(⟨((900 + i:Nat):Int),[]⟩,0)
def marks (i:Nat):List Yg9:=(List.range i).map mk
def Yke (i:Nat):List (Yg8 × Nat):=(List.range i).map mkP
theorem Yow (i:Nat):(marks i).length=i:=by simp [marks]
theorem Ync (i:Nat):(Yke i).length=i:=by simp [Yke]
theorem Yui (i:Nat):marks (i + 1)=marks i++[mk i]:=by simp [marks,List.range_succ]
theorem Ytx (i:Nat):Yke (i + 1)=Yke i++[mkP i]:=by simp [Yke,List.range_succ]
theorem Yv7 {i n:Nat} (h:i < (marks n).length):(marks n)[i]=mk i:=by simp [marks]
theorem Yuh {i n:Nat} (h:i < (Yke n).length):(Yke n)[i]=mkP i:=by simp [Yke]
theorem w900 {i:Nat} (h:i < 20):w64 (900 + (i:Int))=((900 + i:Nat):Int):=by rw [Ylg (by omega)]; omega
theorem Yun {row:List Yg9} (h:row.length * 40≤211106232532000):Yk0 row (row++marks 20,row.length):=by
 unfold Yk0
 refine ⟨row,Ys3 h,?_⟩
 have:=Yga.upto (B:=fun (s:(List Yg9) × Int) o=>Yh9 row s.1 s.2 o) (r:=(row++marks 20,row.length)) (fun i=>(row++marks i,(i:Int))) 20 (fun i hi=>?_) ?_
 ·simpa [marks] using this
 ·show Yh9 row (row++marks i) (i:Int) _
  unfold Yh9
  rw [if_pos (by omega),Yi9 (by omega),w900 hi]
  refine ⟨row++marks (i + 1),?_,by rw [List.length_append,Yow]; omega,rfl⟩
  rw [Yui,List.append_assoc]
  rfl
 ·show Yh9 row (row++marks 20) ((20:Nat):Int) _
  unfold Yh9
  rw [if_neg (by omega),List.length_append,Yow]
  exact ⟨by omega,rfl⟩
def full (p:Yg8):Yg8 × Nat:=({ p with rhs:=p.rhs++marks 20 },p.rhs.length)
def Ys6 (g:Yfz):List (Yg8 × Nat):=g.prods.map full++Yke 20
def Yj3 (g:Yfz):Yfz × Nat × Nat × Nat × List (Yg8 × Nat) :=
 (⟨g.terms++List.replicate 20 mkT,g.syms++List.replicate 20 mkS,[]⟩,g.terms.length,g.syms.length,g.prods.length,Ys6 g)
theorem vis_full (p:Yg8):Yi5 (full p)=p:=by
 unfold Yi5 full
 simp
theorem map_vis (l:List Yg8):(l.map full).map Yi5=l:=by
 rw [List.map_map]
 exact (List.map_congr_left fun p _=>vis_full p).trans (List.map_id l)
theorem Yo0 (g:Yfz):(⟨(Yj3 g).1.terms.take (Yj3 g).2.1,(Yj3 g).1.syms.take (Yj3 g).2.2.1,((Yj3 g).2.2.2.2.take (Yj3 g).2.2.2.1).map Yi5⟩:Yfz)=g:=by
 obtain ⟨t,s,p⟩:=g
 simp only [Yj3,Ys6,Yfz.mk.injEq]
 refine ⟨by rw [List.take_left],by rw [List.take_left],?_⟩
 rw [List.take_left' (by simp)]
 exact map_vis p
theorem lent_ok {g:Yfz} (h:Sz g):Ykr g (Yj3 g):=by
 unfold Ykr
 refine ⟨g,Yqz h,?_⟩
 obtain ⟨h1,h2,h3,h4⟩:=h
 have l2:Yga (fun (s:Int × (List (Yg8 × Nat))) o=>Yhk g (g.terms++List.replicate 20 mkT) (g.syms++List.replicate 20 mkS) s.1 s.2 o) (0,g.prods.map Yif++Yke 20) (.inr (Yj3 g):Sum (Int × (List Ygd) × (List Ygz) × (List (Yg8 × Nat))) (Yfz × Nat × Nat × Nat × (List (Yg8 × Nat)))):=by
  have:=Yga.upto (B:=fun (s:Int × (List (Yg8 × Nat))) o=>Yhk g (g.terms++List.replicate 20 mkT) (g.syms++List.replicate 20 mkS) s.1 s.2 o) (r:=(.inr (Yj3 g):Sum (Int × (List Ygd) × (List Ygz) × (List (Yg8 × Nat))) (Yfz × Nat × Nat × Nat × (List (Yg8 × Nat))))) (fun i=>((i:Int),(g.prods.take i).map full++(g.prods.drop i).map Yif++Yke 20)) g.prods.length (fun i hi=>?_) ?_
  ·simpa using this
  ·show Yhk g _ _ (i:Int) ((g.prods.take i).map full++(g.prods.drop i).map Yif++Yke 20) _
   have hl:((g.prods.take i).map full++(g.prods.drop i).map Yif++Yke 20).length=g.prods.length + 20:=by simp [Ync]; omega
   have hix:ix ((g.prods.take i).map full++(g.prods.drop i).map Yif++Yke 20) (i:Int)=Yif g.prods[i]:=by
    rw [List.append_assoc,Yr6 (i:=0) (by simp; omega) (by simp; omega)]
    rw [List.getElem_append_left (by simp; omega),List.getElem_map,List.getElem_drop]
    simp
   unfold Yhk
   rw [List.length_take,hl,if_pos (by omega),Yi9 (by omega),hix,Yhu hi]
   refine ⟨by omega,_,Yun (h4 _ (List.getElem_mem hi)),by omega,_,rfl,?_⟩
   have:(({ (Yif g.prods[i]).1 with rhs:=g.prods[i].rhs++marks 20 },g.prods[i].rhs.length):Yg8 × Nat)=full g.prods[i]:=rfl
   rw [Int.toNat_natCast]
   show Sum.inl (((i + 1:Nat):Int),_)=Sum.inl ((i:Int) + 1,List.set _ i (full g.prods[i]))
   rw [mapset g.prods full Yif (Yke 20) hi]
   rfl
  ·show Yhk g _ _ (g.prods.length:Int) ((g.prods.take g.prods.length).map full++(g.prods.drop g.prods.length).map Yif++Yke 20) _
   unfold Yhk
   rw [List.length_take,if_neg (by omega),List.take_length,List.drop_length]
   simp only [Int.toNat_natCast,List.map_nil,List.append_nil]
   rfl
 have:=Yga.upto (B:=fun (s:Int × (List Ygd) × (List Ygz) × (List (Yg8 × Nat))) o=>Yhw g s.1 s.2.1 s.2.2.1 s.2.2.2 o) (r:=Yj3 g) (fun i=>((i:Int),g.terms++List.replicate i mkT,g.syms++List.replicate i mkS,g.prods.map Yif++Yke i)) 20 (fun i hi=>?_) ?_
 ·simpa [Yke] using this
 ·show Yhw g (i:Int) (g.terms++List.replicate i mkT) (g.syms++List.replicate i mkS) (g.prods.map Yif++Yke i) _
  unfold Yhw
  rw [if_pos (by omega),Yi9 (by omega),w900 hi]
  refine ⟨g.terms++List.replicate (i + 1) mkT,?_,?_,g.syms++List.replicate (i + 1) mkS,?_,?_,g.prods.map Yif++Yke (i + 1),?_,?_,rfl⟩
  ·rw [List.replicate_succ',List.append_assoc]; rfl
  ·simp; omega
  ·rw [List.replicate_succ',List.append_assoc]; rfl
  ·simp; omega
  ·rw [Ytx,List.append_assoc]; rfl
  ·simp [Ync]; omega
 ·show Yhw g ((20:Nat):Int) (g.terms++List.replicate 20 mkT) (g.syms++List.replicate 20 mkS) (g.prods.map Yif++Yke 20) _
  unfold Yhw
  rw [if_neg (by omega)]
  refine ⟨by simp; omega,by simp; omega,by simp; omega,l2⟩
theorem Yrr {row:List Yg9} (h:row.length < 2 ^ 60):Yjc row row true:=by
 unfold Yjc
 rw [if_pos rfl]
 refine Yga.cnt row.length (fun i hi=>?_) ?_ <;> unfold Yja
 ·rw [if_pos (by omega), if_pos rfl, Yi9 (by omega)]
  exact ⟨by omega,by omega,rfl⟩
 ·rw [if_neg (by omega)]
theorem same_ok {g:Yfz} (hl:Lg g):Ykq g g true:=by
 have:=hl.t
 have:=hl.s
 have:=hl.p
 unfold Ykq
 rw [if_pos rfl,if_pos rfl]
 have e:((g.prods.length:Int) != (g.prods.length:Int))=false:=by simp
 rw [e]
 unfold Yj9
 rw [if_neg (by simp)]
 refine Yga.cnt g.terms.length (fun i hi=>?_) ?_ <;> unfold Yjv
 ·rw [if_pos (by omega), if_pos rfl, Yi9 (by omega)]
  exact ⟨by omega,by omega,rfl⟩
 rw [if_neg (by omega)]
 refine Yga.cnt g.syms.length (fun i hi=>?_) ?_ <;> unfold Yjw
 ·rw [if_pos (by omega), if_pos rfl, Yi9 (by omega)]
  exact ⟨by omega,by omega,rfl⟩
 rw [if_neg (by omega)]
 refine Yga.cnt g.prods.length (fun i hi=>?_) ?_ <;> unfold Yjx
 ·rw [if_pos (by omega), if_pos rfl, Yi9 (by omega), Yhu hi]
  exact ⟨by omega,by omega,true,Yrr (hl.r _ (List.getElem_mem hi)),by rw [if_pos rfl]⟩
 ·rw [if_neg (by omega)]
theorem Ytt {row:List Yg9} (h:row.length < 2 ^ 60):Yjl (row++marks 20) row.length row true:=by
 unfold Yjl
 have e:w64 ((row.length:Int) + 20)=((row.length + 20:Nat):Int):=by rw [Ylg (by omega)]; omega
 have hl:(row++marks 20).length=row.length + 20:=by rw [List.length_append,Yow]
 rw [e]
 refine ⟨by omega,?_⟩
 refine Yga.cnt 20 (fun i hi=>?_) ?_ <;> unfold Yj1
 ·have e2 : w64 ((row.length : Int) + (i : Int)) = ((row.length + i : Nat) : Int) := by rw [Ylg (by omega)]; omega
  rw [if_pos (by omega),e,Int.toNat_natCast,List.take_of_length_le (by omega),e2,Yr6 (i:=i) (by rw [Yow]; omega) rfl,Yv7,w900 hi,Yi9 (by omega)]
  refine ⟨by omega,?_⟩
  rw [if_pos (by rfl)]
 ·rw [if_neg (by omega), List.take_left]
  exact ⟨_,Yrr h,rfl⟩
theorem Yud {g:Yfz} (hl:Lg g):Yjq (⟨(Yj3 g).1.terms,(Yj3 g).1.syms,[]⟩:Yfz) (Yj3 g).2.1 (Yj3 g).2.2.1 (Yj3 g).2.2.2.2 (Yj3 g).2.2.2.1 g true:=by
 have:=hl.t
 have:=hl.s
 have:=hl.p
 have eW:∀ n:Nat,n < 2 ^ 60→w64 ((n:Int) + 20)=((n + 20:Nat):Int):=fun n h=>by rw [Ylg (by omega)]; omega
 have eI:∀ n i:Nat,n < 2 ^ 60→i < 20→w64 ((n:Int) + (i:Int))=((n + i:Nat):Int):=fun n i h hi=>by rw [Ylg (by omega)]; omega
 have hsn:=Yo0 g
 unfold Yjq
 show (_∧_≤((g.terms++List.replicate 20 mkT).length:Int))∧(_∧_≤((g.syms++List.replicate 20 mkS).length:Int))∧(_∧_≤((Ys6 g).length:Int))∧_
 have hT:(g.terms++List.replicate 20 mkT).length=g.terms.length + 20:=by simp
 have hS:(g.syms++List.replicate 20 mkS).length=g.syms.length + 20:=by simp
 have hP:(Ys6 g).length=g.prods.length + 20:=by simp [Ys6,Ync]
 rw [hT,hS,hP,eW _ hl.t,eW _ hl.s,eW _ hl.p]
 refine ⟨by omega,by omega,by omega,?_⟩
 refine Yga.cnt 20 (fun i hi=>?_) ?_ <;> unfold Yjm
 ·rw [if_pos (by omega), eI _ i hl.t hi, eI _ i hl.s hi, eI _ i hl.p hi, eW _ hl.t, eW _ hl.s, eW _ hl.p]
  simp only [Int.toNat_natCast]
  have e1:(⟨(Yj3 g).1.terms,(Yj3 g).1.syms,[]⟩:Yfz).terms.take (g.terms.length + 20)=g.terms++List.replicate 20 mkT:=List.take_of_length_le (by show (g.terms++List.replicate 20 mkT).length≤_; omega)
  have e2:(⟨(Yj3 g).1.terms,(Yj3 g).1.syms,[]⟩:Yfz).syms.take (g.syms.length + 20)=g.syms++List.replicate 20 mkS:=List.take_of_length_le (by show (g.syms++List.replicate 20 mkS).length≤_; omega)
  have e3:(Yj3 g).2.2.2.2.take (g.prods.length + 20)=g.prods.map full++Yke 20:=List.take_of_length_le (by show (Ys6 g).length≤_; omega)
  have hPi:((g.prods.length + i:Nat):Int)=(((g.prods.map full).length + i:Nat):Int):=by rw [List.length_map]
  have hPl:(g.prods.map full++Yke 20).length=g.prods.length + 20:=hP
  rw [e1,e2]
  simp only [e3]
  rw [Yr6 (i:=i) (by simp; omega) rfl,Yr6 (i:=i) (by simp; omega) rfl,Yr6 (i:=i) (by rw [Ync]; omega) hPi,Yuh,List.getElem_replicate,List.getElem_replicate,hT,hS,w900 hi,Yi9 (by omega)]
  refine ⟨by omega,?_⟩
  rw [if_pos (by rfl)]
  refine ⟨by omega,?_⟩
  rw [if_pos (by rfl)]
  refine ⟨by rw [List.length_append,List.length_map,Ync]; omega,?_⟩
  rw [if_pos (by rfl),if_neg (by simp [mkP])]
 ·rw [if_neg (by omega)]
  refine ⟨true,?_,?_⟩
  ·have:(⟨(⟨(Yj3 g).1.terms,(Yj3 g).1.syms,[]⟩:Yfz).terms.take (Yj3 g).2.1,(⟨(Yj3 g).1.terms,(Yj3 g).1.syms,[]⟩:Yfz).syms.take (Yj3 g).2.2.1,((Yj3 g).2.2.2.2.take (Yj3 g).2.2.2.1).map Yi5⟩:Yfz)=g:=hsn
   rw [this]
   exact same_ok hl
  ·rw [if_pos rfl]
   have e4:(Yj3 g).2.2.2.2.take (Yj3 g).2.2.2.1=g.prods.map full:=by
    show (g.prods.map full++Yke 20).take g.prods.length=_
    rw [List.take_left' (by simp)]
   refine Yga.cnt g.prods.length (fun i hi=>?_) ?_ <;> unfold Yjn
   ·rw [if_pos (by omega), e4, Yhu (by rw [List.length_map]; exact hi), List.getElem_map, Yhu hi, Yi9 (by omega)]
    exact ⟨by rw [List.length_map]; omega,by omega,true,Ytt (hl.r _ (List.getElem_mem hi)),by rw [if_pos rfl]⟩
   ·rw [if_neg (by omega)]
theorem Yo5 {l:List Bool} (h:l.length < 2 ^ 60):Yib l l true:=by
 unfold Yib
 rw [if_pos rfl]
 refine Yga.cnt l.length (fun i hi=>?_) ?_ <;> unfold Yir
 ·rw [if_pos (by omega), if_neg (by simp), Yi9 (by omega)]
  exact ⟨by omega,by omega,rfl⟩
 ·rw [if_neg (by omega)]
theorem Yoa {l:List Int} (h:l.length < 2 ^ 60):Yia l l true:=by
 unfold Yia
 rw [if_pos rfl]
 refine Yga.cnt l.length (fun i hi=>?_) ?_ <;> unfold Yiq
 ·rw [if_pos (by omega), if_pos rfl, Yi9 (by omega)]
  exact ⟨by omega,by omega,rfl⟩
 ·rw [if_neg (by omega)]
theorem Yqq {g:Yfz} (hl:Lg g):∃ ns fs,ns.length≤192∧fs.length≤192∧Yi1 g ns∧Yj5 g fs∧Yio g ns∧Yju g fs:=by
 cases hg:Yj6 g with
 | true =>
  obtain ⟨s,hs,hG⟩:=solve_ok hl hg
  obtain ⟨t0,t1,t2⟩:=Yl1 hg
  exact ⟨Yjd g s,Ylt g s,by simp [Yjd,nA]; omega,by simp [Ylt,nA]; omega,Yql hl hg hG,refFirst hl hg hG,Yu9 hl hg hs,first_ok hl hg hs⟩
 | false=>exact ⟨[],[],by simp,by simp,Yrp hl hg,Yu6 hl hg,Ytl hl hg,first_no hl hg⟩
end Go.Proofs.Ytelafghkjlpojaa.L
