/- The laws FirstOf and FirstSolves on grammars of any shape. Condition: Sz. -/
import Derived.Test.YtelafghkjlpojaaE4
set_option linter.unusedVariables false
namespace Go.Proofs.Ytelafghkjlpojaa.L
open Go.Proofs.Ytelafghkjlpojaa.B Go.Proofs.Ytelafghkjlpojaa.R
structure WOk (l:List (Yg8 × Nat)) (P:Nat):Prop where
 len:l.length=P
 all:∀ q ∈ l,q.2≤q.1.rhs.length∧q.2 * 40≤211106232532000
theorem WOk.set {l:List (Yg8 × Nat)} {P:Nat} (h:WOk l P) (i:Nat) {q:Yg8 × Nat} (h1:q.2≤q.1.rhs.length) (h2:q.2 * 40≤211106232532000):WOk (l.set i q) P:=⟨by rw [List.length_set]; exact h.len,fun x hx=>by
 rcases List.mem_or_eq_of_mem_set hx with hx | rfl
 ·exact h.all x hx
 ·exact ⟨h1,h2⟩⟩
theorem WOk.at {l:List (Yg8 × Nat)} {P:Nat} (h:WOk l P) {i:Int} (h0:0≤i) (h1:i < (P:Int)):(ix l i).2≤(ix l i).1.rhs.length∧(ix l i).2 * 40≤211106232532000:=by
 have hl:i.toNat < l.length:=by rw [h.len]; omega
 have e:ix l i=l[i.toNat]:=by
  have:=Yhu hl
  rwa [Int.toNat_of_nonneg h0] at this
 rw [e]
 exact h.all _ (List.getElem_mem hl)
theorem WOk.sz {l:List (Yg8 × Nat)} {P:Nat} (h:WOk l P) {g:Yfz} (hg:Sz g) (k:Nat) (hk:k≤g.prods.length):Sz ⟨g.terms,g.syms,(l.take k).map Yi5⟩:=by
 refine ⟨hg.1,hg.2.1,?_,fun p hp=>?_⟩
 ·have:=hg.2.2.1
  show ((l.take k).map Yi5).length * 32≤_
  rw [List.length_map,List.length_take]
  omega
 ·obtain ⟨q,h1,rfl⟩:=List.mem_map.1 hp
  have:=(h.all q (List.mem_of_mem_take h1)).2
  show (q.1.rhs.take q.2).length * 40≤_
  rw [List.length_take]
  omega
theorem wids_ok {g:Yfz} (h:Sz g):WOk (g.prods.map Yif) g.prods.length:=⟨by simp,fun q hq=>by
 obtain ⟨p,hp,rfl⟩:=List.mem_map.1 hq
 exact ⟨Nat.le_refl _,h.2.2.2 p hp⟩⟩
theorem Yv3 {g:Yfz} (h:Sz g):Yj2 g true:=by
 obtain ⟨ns,fs,hn,hf,a1,a2,a3,a4⟩:=Yqq h.lg
 have hN:=h.lg.p
 unfold Yj2
 refine ⟨g,Yqz h,ns,a1,fs,a2,Yj3 g,lent_ok h,ns,by rw [Yo0]; exact a3,fs,by rw [Yo0]; exact a4,true,Yo5 (by omega),?_⟩
 rw [if_pos rfl]
 refine ⟨true,Yoa (by omega),?_⟩
 rw [if_pos rfl]
 refine ⟨true,Yud h.lg,?_⟩
 unfold Yhz
 rw [if_neg (by simp)]
 refine ⟨ns,by rw [Yo0]; exact a3,fs,by rw [Yo0]; exact a4,?_⟩
 refine Yga.to (B:=fun (s:(List Bool) × Int) o=>Yh3 ns ns fs fs g (Yj3 g) g fs s.1 s.2 o) (fun s=>s.1.length≤192∧0≤s.2∧s.2≤(s.1.length:Int)) (fun s=>((s.1.length:Int) - s.2).toNat) (fun s hs=>?_) ⟨hn,by simp,by simp⟩
 obtain ⟨bs,i⟩:=s
 obtain ⟨h1,h2,h3⟩:=hs
 simp only at h1 h2 h3
 show Yh3 ns ns fs fs g (Yj3 g) g fs bs i _∨∃ s',Yh3 ns ns fs fs g (Yj3 g) g fs bs i _∧_
 unfold Yh3
 by_cases hi:i < (bs.length:Int)
 ·right
  refine ⟨(bs.set i.toNat (!(ix bs i)),i + 1),?_,⟨by rw [List.length_set]; exact h1,by show 0≤i + 1; omega,?_⟩,?_⟩
  ·rw [if_pos hi, Ylg (x := i + 1) (by omega)]
   exact ⟨⟨h2,hi⟩,_,rfl,rfl⟩
  ·show i + 1≤((List.set _ _ _).length:Int)
   rw [List.length_set]; omega
  ·show (((List.set _ _ _).length:Int) - (i + 1)).toNat < ((bs.length:Int) - i).toNat
   rw [List.length_set]; omega
 left
 rw [if_neg hi]
 clear hi h2 h3
 refine Yga.to (B:=fun (s:(List Int) × Int) o=>Yh4 ns ns fs fs g (Yj3 g) g bs s.1 s.2 o) (fun s=>s.1.length≤192∧0≤s.2∧s.2≤(s.1.length:Int)) (fun s=>((s.1.length:Int) - s.2).toNat) (fun s hs=>?_) ⟨hf,by simp,by simp⟩
 obtain ⟨cs,j⟩:=s
 obtain ⟨c1,c2,c3⟩:=hs
 simp only at c1 c2 c3
 show Yh4 ns ns fs fs g (Yj3 g) g bs cs j _∨∃ s',Yh4 ns ns fs fs g (Yj3 g) g bs cs j _∧_
 unfold Yh4
 by_cases hi:j < (cs.length:Int)
 ·right
  refine ⟨(cs.set j.toNat 77,j + 1),?_,⟨by rw [List.length_set]; exact c1,by show 0≤j + 1; omega,?_⟩,?_⟩
  ·rw [if_pos hi, Ylg (x := j + 1) (by omega)]
   exact ⟨⟨c2,hi⟩,_,rfl,rfl⟩
  ·show j + 1≤((List.set _ _ _).length:Int)
   rw [List.length_set]; omega
  ·show (((List.set _ _ _).length:Int) - (j + 1)).toNat < ((cs.length:Int) - j).toNat
   rw [List.length_set]; omega
 left
 rw [if_neg hi]
 clear hi c2 c3
 refine Yga.to (B:=fun (s:(List Bool) × (List Int) × Int) o=>Yh2 ns ns fs fs g (Yj3 g) g s.1 s.2.1 s.2.2 o) (fun s=>(s.1.length:Int)=bs.length + s.2.2∧(s.2.1.length:Int)=cs.length + s.2.2∧0≤s.2.2∧s.2.2≤70) (fun s=>(70 - s.2.2).toNat) (fun s hs=>?_) ⟨by simp,by simp,by simp,by simp⟩
 obtain ⟨b2,c2,k⟩:=s
 obtain ⟨d1,d2,d3,d4⟩:=hs
 simp only at d1 d2 d3 d4
 show Yh2 ns ns fs fs g (Yj3 g) g b2 c2 k _∨∃ s',Yh2 ns ns fs fs g (Yj3 g) g b2 c2 k _∧_
 unfold Yh2
 by_cases hk:k < 70
 ·right
  refine ⟨(b2++[((Int.tmod k 2) == 0)],c2++[78],k + 1),?_,⟨?_,?_,by show 0≤k + 1; omega,by show k + 1≤70; omega⟩,by show (70 - (k + 1)).toNat < (70 - k).toNat; omega⟩
  ·rw [if_pos hk, Ylg (x := k + 1) (by omega)]
   exact ⟨_,rfl,by rw [List.length_append]; simp; omega,_,rfl,by rw [List.length_append]; simp; omega,rfl⟩
  ·show ((_++_:List Bool).length:Int)=_ + (k + 1)
   rw [List.length_append]; simp; omega
  ·show ((_++_:List Int).length:Int)=_ + (k + 1)
   rw [List.length_append]; simp; omega
 left
 rw [if_neg hk]
 refine ⟨true,Yo5 (by omega),?_⟩
 rw [if_pos rfl]
 refine ⟨true,Yoa (by omega),?_⟩
 rw [if_pos rfl,Ylg (by omega),if_neg (by omega)]
 refine ⟨true,Yud h.lg,?_⟩
 unfold Yhg
 rw [if_neg (by simp)]
 refine ⟨g,Yqz h,ns,a3,fs,a4,?_⟩
 refine Yga.to (B:=fun (s:Int × (List (Yg8 × Nat))) o=>Yh6 g s.1 s.2 o) (fun s=>WOk s.2 g.prods.length∧0≤s.1∧s.1≤(g.prods.length:Int)) (fun s=>((g.prods.length:Int) - s.1).toNat) (fun s hs=>?_) ⟨wids_ok h,by simp,by simp⟩
 obtain ⟨i,ws⟩:=s
 obtain ⟨k1,k2,k3⟩:=hs
 simp only at k1 k2 k3
 show Yh6 g i ws _∨∃ s',Yh6 g i ws _∧_
 unfold Yh6
 rw [k1.len]
 by_cases hi:i < (g.prods.length:Int)
 ·right
  have key:=Yga.some (B:=fun (s:Int × (List (Yg8 × Nat))) o=>Yh5 i s.1 s.2 o) (P:=fun o=>∃ ws',o=(.inl (i + 1,ws'):Sum (Int × (List (Yg8 × Nat))) (Sum ((List Bool) × (List Int) × Int) (Sum ((List Int) × Int) (Sum ((List Bool) × Int) Bool))))∧WOk ws' g.prods.length) (fun s=>WOk s.2 g.prods.length∧0≤s.1∧s.1≤((ix s.2 i).2:Int)) (fun s=>(((ix s.2 i).2:Int) - s.1).toNat) (fun s hs=>?_) (s:=(0,ws)) ⟨k1,by simp,by simp⟩
  ·obtain ⟨o,r1,ws',rfl,r2⟩:=key
   exact ⟨(i + 1,ws'),by rw [if_pos hi]; exact r1,⟨r2,by show 0≤i + 1; omega,by show i + 1≤_; omega⟩,by show ((g.prods.length:Int) - (i + 1)).toNat < ((g.prods.length:Int) - i).toNat; omega⟩
  ·obtain ⟨j,us⟩:=s
   obtain ⟨m1,m2,m3⟩:=hs
   simp only at m1 m2 m3
   obtain ⟨n1,n2⟩:=m1.at k2 hi
   have hm:(((ix us i).1.rhs).take (ix us i).2).length=(ix us i).2:=by rw [List.length_take]; omega
   have hil:i.toNat < us.length:=by rw [m1.len]; omega
   show (∃ r,Yh5 i j us _∧_)∨∃ s',Yh5 i j us _∧_
   unfold Yh5
   simp only [hm,m1.len]
   by_cases hj:j < ((ix us i).2:Int)
   ·right
    have e:∀ y:Yg8 × Nat,ix (us.set i.toNat y) i=y:=fun y=>by
     unfold ix
     rw [List.getD_eq_getElem?_getD,List.getElem?_set_self hil]
     rfl
    refine ⟨(j + 1,us.set i.toNat ({ (ix us i).1 with rhs:=((ix us i).1.rhs).set j.toNat (ix ((ix us i).1.rhs) (w64 (w64 (((ix us i).2:Int) - 1) - j))) },(ix us i).2)),?_,⟨m1.set _ ?_ n2,by show 0≤j + 1; omega,?_⟩,?_⟩
    ·rw [if_pos hj, Ylg (x := j + 1) (by omega)]
     refine ⟨⟨k2,hi⟩,?_,⟨m2,hj⟩,_,rfl,_,rfl,rfl⟩
     rw [Ylg (x:=((ix us i).2:Int) - 1) (by omega),Ylg (by omega)]
     omega
    ·show (ix us i).2≤(List.set _ _ _).length
     rw [List.length_set]; exact n1
    ·show j + 1≤((ix (us.set i.toNat _) i).2:Int)
     rw [e]
     show j + 1≤((ix us i).2:Int)
     omega
    ·show (((ix (us.set i.toNat _) i).2:Int) - (j + 1)).toNat < (((ix us i).2:Int) - j).toNat
     rw [e]
     show (((ix us i).2:Int) - (j + 1)).toNat < _
     omega
   ·left
    refine ⟨.inl (i + 1,us),⟨⟨k2,hi⟩,?_⟩,us,rfl,m1⟩
    rw [if_neg hj,Ylg (x:=i + 1) (by omega)]
 ·left
  rw [if_neg hi]
  have hz:=k1.sz h g.prods.length (Nat.le_refl _)
  rw [List.take_of_length_le (by rw [k1.len]; exact Nat.le_refl _)] at hz
  obtain ⟨n2,f2,hn2,hf2,b1,b2,b3,b4⟩:=Yqq hz.lg
  refine ⟨_,Yqz hz,n2,b1,f2,b2,n2,b3,true,Yo5 (by omega),?_⟩
  rw [if_pos rfl]
  exact ⟨f2,b4,true,Yoa (by omega),rfl⟩
end Go.Proofs.Ytelafghkjlpojaa.L
