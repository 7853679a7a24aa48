/- The laws FirstOf and FirstSolves on grammars of any shape. Condition: Sz. -/
import Derived.Test.YtelafghkjlpojaaE4
set_option linter.unusedVariables false
namespace Go.Proofs.Ytelafghkjlpojaa.L
open Go.Proofs.Ytelafghkjlpojaa.B Go.Proofs.Ytelafghkjlpojaa.R
structure WOk (l:List (Yg8 × Nat)) (P:Nat):Prop where
 len:l.length=P
 all:∀ q ∈ l,q.2≤q.1.rhs.length∧q.2 * 40≤211106232532000
theorem WOk.set {l:List (Yg8 × Nat)} {P:Nat} (h:WOk l P) (i:Nat) {q:Yg8 × Nat} (h1:q.2≤q.1.rhs.length) (h2:q.2 * 40≤211106232532000):WOk (l.set i q) P:=⟨by rw [List.length_set]; exact h.len,fun x hx=>by
 rcases List.mem_or_eq_of_mem_set hx with hx | rfl
 ·exact h.all x hx
 ·exact ⟨h1,h2⟩⟩
theorem WOk.at {l:List (Yg8 × Nat)} {P:Nat} (h:WOk l P) {i:Int} (h0:0≤i) (h1:i < (P:Int)):(ix l i).2≤(ix l i).1.rhs.length∧(ix l i).2 * 40≤211106232532000:=by
 have hl:i.toNat < l.length:=by rw [h.len]; omega
 have e:ix l i=l[i.toNat]:=by
  have:=Yhs hl
  rwa [Int.toNat_of_nonneg h0] at this
 rw [e]
 exact h.all _ (List.getElem_mem hl)
theorem WOk.sz {l:List (Yg8 × Nat)} {P:Nat} (h:WOk l P) {g:Yfz} (hg:Sz g) (k:Nat) (hk:k≤g.prods.length):Sz ⟨g.terms,g.syms,(l.take k).map Yj3⟩:=by
 refine ⟨hg.1,hg.2.1,?_,fun p hp=>?_⟩
 ·have:=hg.2.2.1
  show ((l.take k).map Yj3).length * 32≤_
  rw [List.length_map,List.length_take]
  omega
 ·obtain ⟨q,h1,rfl⟩:=List.mem_map.1 hp
  have:=(h.all q (List.mem_of_mem_take h1)).2
  show (q.1.rhs.take q.2).length * 40≤_
  rw [List.length_take]
  omega
theorem fulls_ok {g:Yfz} (h:Sz g):WOk (You g) (g.prods.length + 20):=⟨by simp [You,Yly],fun q hq=>by
 unfold You at hq
 rcases List.mem_append.1 hq with hq | hq
 ·obtain ⟨p,hp,rfl⟩:=List.mem_map.1 hq
  have:=h.2.2.2 p hp
  refine ⟨?_,this⟩
  show p.rhs.length≤(p.rhs++marks 20).length
  rw [List.length_append]; omega
 ·obtain ⟨i,hi,rfl⟩:=List.mem_map.1 hq
  exact ⟨Nat.le_refl _,by show 0 * 40≤_; omega⟩⟩
theorem half_w {n:Nat} (h:n < 2 ^ 60):w64 (Int.tdiv (n:Int) 2)=((n / 2:Nat):Int):=by
 have:Int.tdiv (n:Int) 2=((n / 2:Nat):Int):=rfl
 rw [this,Yll (by omega)]
theorem sym_lent (g:Yfz) (l:List Yg8):(⟨(Yid g).1.terms.take (Yid g).2.1,(Yid g).1.syms.take (Yid g).2.2.1,l⟩:Yfz)=⟨g.terms,g.syms,l⟩:=by
 simp only [Yid,List.take_left]
theorem ofLaw {g:Yfz} (h:Sz g) {row:List Yg6} (hr:row.length * 40≤211106232532000) (behind:Int):Yjb g row behind true:=by
 obtain ⟨v,hv1,hv2⟩:=Yse h.lg (row:=row) (by omega) behind
 unfold Yjb
 refine ⟨g,Ys6 h,row,Ymn hr,v,hv1,Yid g,lent_ok h,(row++marks 20,row.length),Yqc hr,v,?_,?_⟩
 ·rw [Ypo]
  show Yl2 g ((row++marks 20).take row.length) behind v
  rw [List.take_left]
  exact hv2
 rw [if_pos rfl]
 refine ⟨true,still_ok h.lg,?_⟩
 rw [if_pos rfl]
 refine ⟨true,Ypy (by omega),?_⟩
 unfold Yi5
 rw [if_neg (by simp)]
 have hN:=h.lg.p
 refine Yga.to (B:=fun (s:(List Yg6) × Int) o=>Yhd (row++marks 20,row.length) g behind (Yid g) s.1 s.2 o) (fun s=>s.1.length=row.length + 20∧0≤s.2∧s.2≤(row.length:Int)) (fun s=>((row.length:Int) - s.2).toNat) (fun s hs=>?_) ⟨by simp [Ynh],by simp,by simp⟩
 obtain ⟨xs,i⟩:=s
 obtain ⟨h1,h2,h3⟩:=hs
 simp only at h1 h2 h3
 show Yhd (row++marks 20,row.length) g behind (Yid g) xs i _∨∃ s',Yhd (row++marks 20,row.length) g behind (Yid g) xs i _∧_
 have hl:(xs.take row.length).length=row.length:=by rw [List.length_take]; omega
 unfold Yhd
 simp only [hl]
 by_cases hi:i < (row.length:Int)
 ·right
  refine ⟨(xs.set i.toNat (ix xs (w64 (w64 ((row.length:Int) - 1) - i))),i + 1),?_,⟨by rw [List.length_set]; exact h1,by show 0≤i + 1; omega,by show i + 1≤_; omega⟩,by show ((row.length:Int) - (i + 1)).toNat < ((row.length:Int) - i).toNat; omega⟩
  rw [if_pos hi,Yll (x:=i + 1) (by omega)]
  refine ⟨?_,⟨h2,hi⟩,_,rfl,rfl⟩
  rw [Yll (x:=(row.length:Int) - 1) (by omega),Yll (by omega)]
  omega
 ·left
  rw [if_neg hi]
  obtain ⟨u,hu1,hu2⟩:=Yse h.lg (row:=xs.take row.length) (by rw [hl]; omega) behind
  refine ⟨xs.take row.length,Ymn (by rw [hl]; exact hr),u,hu1,u,by rw [Ypo]; exact hu2,?_⟩
  rw [if_pos rfl]
  refine Yga.to (B:=fun (s:Int × (List (Yg8 × Nat))) o=>Yhe (Yid g) xs (row++marks 20,row.length) behind s.1 s.2 o) (fun s=>WOk s.2 (g.prods.length + 20)∧0≤s.1∧s.1≤(g.prods.length:Int)) (fun s=>((g.prods.length:Int) - s.1).toNat) (fun s hs=>?_) ⟨fulls_ok h,by simp,by simp⟩
  obtain ⟨j,ws⟩:=s
  obtain ⟨k1,k2,k3⟩:=hs
  simp only at k1 k2 k3
  show Yhe (Yid g) xs (row++marks 20,row.length) behind j ws _∨∃ s',Yhe (Yid g) xs (row++marks 20,row.length) behind j ws _∧_
  have hwl:(ws.take (Yid g).2.2.2.1).length=g.prods.length:=by
   show (ws.take g.prods.length).length=_
   rw [List.length_take,k1.len]; omega
  unfold Yhe
  simp only [hwl]
  by_cases hj:j < (g.prods.length:Int)
  ·right
   obtain ⟨m1,m2⟩:=k1.at k2 (by omega)
   have hm:(((ix ws j).1.rhs).take (ix ws j).2).length=(ix ws j).2:=by rw [List.length_take]; omega
   simp only [hm]
   refine ⟨(j + 1,ws.set j.toNat ({ (ix ws j).1 with rhs:=(ix ws j).1.rhs },(((ix ws j).2 / 2:Nat):Int).toNat)),?_,⟨k1.set _ ?_ ?_,by show 0≤j + 1; omega,by show j + 1≤_; omega⟩,by show ((g.prods.length:Int) - (j + 1)).toNat < ((g.prods.length:Int) - j).toNat; omega⟩
   ·rw [if_pos hj, Yll (x := j + 1) (by omega), half_w (by omega)]
    exact ⟨⟨k2,hj⟩,by omega,_,rfl,rfl⟩
   ·show (((ix ws j).2 / 2:Nat):Int).toNat≤(ix ws j).1.rhs.length
    omega
   ·show (((ix ws j).2 / 2:Nat):Int).toNat * 40≤_
    omega
  ·left
   rw [if_neg hj,sym_lent]
   have hz:=k1.sz h g.prods.length (Nat.le_refl _)
   obtain ⟨y,hy1,hy2⟩:=Yse hz.lg (row:=xs.take row.length) (by rw [hl]; omega) behind
   refine ⟨_,Ys6 hz,_,Ymn (by rw [hl]; exact hr),y,hy1,y,hy2,?_⟩
   simp
end Go.Proofs.Ytelafghkjlpojaa.L
