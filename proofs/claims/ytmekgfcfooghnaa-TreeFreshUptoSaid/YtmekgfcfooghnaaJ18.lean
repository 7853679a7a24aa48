/- The law TreeFresh. Conditions: sizes, numbers are ints. -/
import Derived.Test.YtmekgfcfooghnaaJ17
set_option linter.unusedVariables false
namespace Go.Proofs.Ytmekgfcfooghnaa.L
open Go.Proofs.Ytmekgfcfooghnaa.B Go.Proofs.Ytmekgfcfooghnaa.R
theorem Ych {t:List Xm4} (h:t.length≤2 ^ 40):Xo4 t t true:=same_ok (show _≤_ by omega)
theorem twin' {t:List Xm4} (h:t.length≤2 ^ 40):Xp1 t t:=twin_ok (show _≤_ by omega)
theorem Xzo {l:List (List Xm4)} (h:l.length≤2 ^ 40) (hk:∀ k ∈ l,k.length≤2 ^ 40):Xpd l l:=by
 unfold Xpd
 refine Xmi.upto (B:=fun (s:(List (List Xm4)) × Int) o=>Xnl l s.1 s.2 o) (r:=l) (fun j=>(l.take j,(j:Int))) l.length (fun i hi=>?_) ?_
 ·show Xnl l (l.take i) (i:Int) _
  unfold Xnl
  rw [if_pos (by omega),Xnu hi,Xp3 (by omega)]
  refine ⟨by omega,_,twin' (hk _ (List.getElem_mem hi)),_,rfl,?_,?_⟩
  ·rw [List.length_append,List.length_take]; simp; omega
  ·rw [← List.take_succ_eq_append_getElem hi]; rfl
 ·show Xnl l (l.take l.length) (l.length:Int) _
  unfold Xnl
  rw [if_neg (by omega),List.take_length]
def spN (i:Nat):Xm4:=⟨(⟨#[115,112,111,105,108,116]⟩:ByteArray),false,(⟨#[]⟩:ByteArray),0,0,-7,(i:Int)⟩
def spF (t:List Xm4):List Xm4:=(List.range t.length).map spN
def Yfq:Xm4:=⟨(⟨#[109,111,114,101]⟩:ByteArray),false,(⟨#[]⟩:ByteArray),0,0,0,0⟩
theorem Ygx (t:List Xm4):(spF t).length=t.length:=by unfold spF; rw [List.length_map,List.length_range]
theorem spF_wf (t:List Xm4):Wf (spF t):=fun n hn=>by
 obtain ⟨i,_,rfl⟩:=List.mem_map.1 hn
 show -9223372036854775808≤(-7:Int)∧(-7:Int)≤9223372036854775807
 omega
theorem Yfb {t:List Xm4} (h:t.length≤2 ^ 40):Xp8 t (spF t):=by
 have more:∀ (t0:List Xm4),t0.length≤2 ^ 40→∀ o,o=(.inr t0:Sum ((List Xm4) × Int) (List Xm4))→Xmi (fun (s:(List Xm4) × Int) o=>Xns t0 s.1 s.2 o) (t0,0) o:=fun t0 h0 o ho=>by
  subst ho
  have key:=Xmi.upto (B:=fun (s:(List Xm4) × Int) o=>Xns t0 s.1 s.2 o) (r:=.inr t0) (fun j=>(t0++List.replicate j Yfq,(j:Int))) 40 (fun i hi=>?_) ?_
  ·rw [List.replicate_zero,List.append_nil] at key
   exact key
  ·show Xns t0 (t0++List.replicate i Yfq) (i:Int) _
   unfold Xns
   rw [if_pos (by omega),Xp3 (by omega)]
   refine ⟨_,rfl,?_,?_⟩
   ·simp; omega
   ·rw [List.append_assoc,show List.replicate (i + 1) Yfq=List.replicate i Yfq++[Yfq] from List.replicate_succ']
    rfl
  ·show Xns t0 _ (40:Int) _
   unfold Xns
   rw [if_neg (by omega)]
 unfold Xp8
 have key:=Xmi.upto (B:=fun (s:(List Xm4) × Int) o=>Xo6 s.1 s.2 o) (r:=spF t) (fun j=>((List.range j).map spN++t.drop j,(j:Int))) t.length (fun i hi=>?_) ?_
 ·exact key
 ·have hl:((List.range i).map spN++t.drop i).length=t.length:=by simp; omega
  show Xo6 ((List.range i).map spN++t.drop i) (i:Int) _
  unfold Xo6
  rw [if_pos (by omega),Xp3 (by omega)]
  refine ⟨by omega,_,rfl,?_⟩
  rw [Int.toNat_natCast,List.set_append_right _ _ (by simp),List.drop_eq_getElem_cons hi]
  simp only [List.length_map,List.length_range,Nat.sub_self,List.set_cons_zero]
  rw [List.range_succ,List.map_append,List.append_assoc]
  rfl
 ·show Xo6 ((List.range t.length).map spN++t.drop t.length) (t.length:Int) _
  unfold Xo6
  rw [List.drop_length,List.append_nil,if_neg (by simp)]
  exact more (spF t) (by rw [Ygx]; exact h) _ rfl
theorem Yel {l:List (List Xm4)} (h:l.length≤2 ^ 40) (hk:∀ k ∈ l,Wf k∧k.length≤2 ^ 40):∃ b,Xr0 l b:=by
 have hb:∀ k:List Xm4,∃ b,k ∈ l→Xoy k b:=fun k=>by
  by_cases hm:k ∈ l
  ·obtain ⟨hw,hl⟩:=hk k hm
   obtain ⟨b,hb⟩:=Yhu (t:=k) (by show _≤_; omega) hw
   exact ⟨b,fun _=>hb⟩
  ·exact ⟨false,fun g=>absurd g hm⟩
 let p:List Xm4→Bool:=fun k=>!(Classical.choose (hb k))
 have hp:∀ k ∈ l,Xoy k (!(p k)):=fun k hm=>by
  show Xoy k (!(!(Classical.choose (hb k))))
  rw [Bool.not_not]
  exact Classical.choose_spec (hb k) hm
 have:=Xmi.allThen l p (B:=fun (s:Int) o=>Xnv l s o) (r:=false) (f:=true) (fun i hi g=>?_) (fun i hi g=>?_) (fun _=>?_)
 ·exact ⟨_,this⟩
 ·unfold Xnv
  rw [if_pos (by omega),Xnu hi]
  have:=hp _ (List.getElem_mem hi)
  rw [g] at this
  refine ⟨by omega,_,this,?_⟩
  rw [if_neg (by simp),Xp3 (by omega)]
 ·unfold Xnv
  rw [if_pos (by omega),Xnu hi]
  have:=hp _ (List.getElem_mem hi)
  rw [g] at this
  refine ⟨by omega,_,this,?_⟩
  rw [if_pos (by simp)]
 ·unfold Xnv
  rw [if_neg (by omega)]
theorem Ye6 (l:Xmw) (s:Int) (k:List Xm4):(Xsi l s k).length≤k.length:=by
 unfold Xsi
 split
 ·simp
 ·exact Nat.le_refl _
theorem Ybe {l:Xmw} {prod:Int} {kids:List (List Xm4)} {ends:List Int} {B:Nat} (hw:∀ k ∈ kids,Wf k∧k.length + 1≤B) (hB:kids.length * B + B≤2 ^ 39):(Xtn l prod kids ends).length≤kids.length * B + 1:=by
 unfold Xtn
 split
 ·simp
 ·split
  ·simp
  ·rename_i h
   have hlen:kids.length=(ix l.gram.prods prod).rhs.length:=by omega
   have key:∀ (n i:Nat) (out:List Xm4),i + n=kids.length→out.length≤i * B→(Xxl (redF l (ix l.gram.prods prod) kids ends) (topF l (ix l.gram.prods prod) ends) (List.range' i n) out).length≤kids.length * B + 1:=by
    intro n
    induction n with
    | zero =>
     intro i out hi ho
     show (topF _ _ _ out).length≤_
     have:i=kids.length:=by omega
     subst this
     unfold topF
     split
     ·rw [Ydx]; omega
     ·omega
    | succ n ih =>
     intro i out hi ho
     rw [List.range'_succ]
     unfold Xxl redF
     by_cases g:Xyv (ix kids (i:Int)) < 0
     ·rw [if_pos g]; simp
     ·rw [if_neg g]
      have hkm:ix kids (i:Int) ∈ kids:=by rw [Xnu (by omega)]; exact List.getElem_mem _
      obtain ⟨hw1,hw2⟩:=hw _ hkm
      have hsm:Sm (ix kids (i:Int)):=by unfold Sm; omega
      have hpo:=(Yd2 (l:=l) (r:=ix (ix l.gram.prods prod).rhs (i:Int)) (e:=ix ends ((i:Int) + 1)) hw1 hsm).2
      refine ih (i + 1) _ (by omega) ?_
      rw [List.length_append,Nat.add_mul,Nat.one_mul]
      omega
   rw [List.range_eq_range',← hlen]
   exact key kids.length 0 [] (by omega) (by simp)
theorem Yfs {ρ:Type} {B:List (List Xm4) × Int→Sum ((List (List Xm4)) × Int) ρ→Prop} {r:ρ} (xs:List (List Xm4)) (hl:xs.length≤2 ^ 40) (hx:∀ x ∈ xs,x.length≤2 ^ 40)
  (hB:∀ (cur:List (List Xm4)) (i:Nat) o,i < cur.length→(0≤(i:Int)∧(i:Int) < (cur.length:Int))∧(∃ r,Xp8 (ix cur (i:Int)) r∧∃ x,x=cur.set ((i:Nat):Int).toNat r∧o=.inl (x,w64 ((i:Int) + 1)))→B (cur,(i:Int)) o)
  (hE:B (xs.map spF,(xs.length:Int)) (.inr r)):Xmi B (xs,0) r:=by
 have key:=Xmi.upto (B:=B) (r:=r) (fun j=>((xs.take j).map spF++xs.drop j,(j:Int))) xs.length (fun i hi=>?_) ?_
 ·exact key
 ·obtain ⟨g1,g2⟩:=Yh4 (g:=spF) hi
  have hix:ix ((xs.take i).map spF++xs.drop i) (i:Int)=xs[i]:=by
   rw [Xnu (by rw [g1]; exact hi),List.getElem_append_right (by rw [List.length_map,List.length_take]; omega)]
   simp [Nat.min_eq_left (Nat.le_of_lt hi)]
  refine hB _ i _ (by rw [g1]; exact hi) ⟨by omega,spF xs[i],by rw [hix]; exact Yfb (hx _ (List.getElem_mem hi)),_,rfl,?_⟩
  rw [Int.toNat_natCast,g2,Xp3 (by omega),List.take_succ_eq_append_getElem hi,List.map_append,List.append_assoc]
  rfl
 ·rw [List.take_length,List.drop_length,List.append_nil]
  exact hE
theorem freshLaw {l:Xmw} (hl:LgOk l) (prod sym:Int) {kids:List (List Xm4)} {ends:List Int} (hk:kids.length≤2 ^ 20) (hw:∀ k ∈ kids,Wf k∧k.length≤2 ^ 17) (he:ends.length≤2 ^ 20):Xr2 l prod sym kids ends true:=by
 have hw2:∀ k ∈ kids,Wf k∧k.length + 1≤2 ^ 18:=fun k hm=>⟨(hw k hm).1,by have:=(hw k hm).2; omega⟩
 have hk40:∀ k ∈ kids,k.length≤2 ^ 40:=fun k hm=>by have:=(hw k hm).2; omega
 have hR:=fun p=>Yag hl (prod:=p) (kids:=kids) (ends:=ends) (B:=2 ^ 18) (by omega) (by omega) hw2 (by omega)
 have hRl:=fun p=>Ybe (l:=l) (prod:=p) (kids:=kids) (ends:=ends) (B:=2 ^ 18) hw2 (by omega)
 have hRl1:=hRl prod
 have hRl2:=hRl (w64 (prod + 1))
 obtain ⟨b,hb⟩:=Yel (l:=kids) (by omega) (fun k hm=>⟨(hw k hm).1,hk40 k hm⟩)
 refine ⟨true,alive_ok,?_⟩
 rw [if_pos rfl]
 refine ⟨b,hb,?_⟩
 cases b with
 | true=>rw [if_pos rfl]
 | false =>
 rw [if_neg (by simp)]
 refine ⟨_,Xzo (by omega) hk40,_,hR prod,_,hR prod,_,twin' (by omega),?_⟩
 have key:=Xmi.upto (B:=fun (s:(List (List Xm4)) × (List (List Xm4)) × (List (List Xm4)) × Int) o=>Xnm kids l sym prod ends (Xtn l prod kids ends) kids (Xtn l prod kids ends) (Xtn l prod kids ends) s.1 s.2.1 s.2.2.1 s.2.2.2 o) (r:=true) (fun j=>((kids.take j).map (Xsi l sym),(kids.take j).map (Xsi l sym),(kids.take j).map (Xsi l sym),(j:Int))) kids.length (fun i hi=>?_) ?_
 ·exact key
 ·show Xnm kids l sym prod ends _ kids _ _ ((kids.take i).map (Xsi l sym)) ((kids.take i).map (Xsi l sym)) ((kids.take i).map (Xsi l sym)) (i:Int) _
  unfold Xnm
  rw [if_pos (by omega),Xnu hi,Xp3 (by omega)]
  have hf:=hw _ (List.getElem_mem hi)
  have hs:=Yh8 l sym (k:=kids[i]) (by show _≤_; omega)
  have hsl:=Ye6 l sym kids[i]
  have hlen:((kids.take i).map (Xsi l sym)++[Xsi l sym kids[i]]).length * 24≤211106232532992:=by simp; omega
  refine ⟨by omega,_,hs,_,hs,_,twin' (by omega),_,rfl,hlen,_,rfl,hlen,_,rfl,hlen,?_⟩
  rw [List.take_succ_eq_append_getElem hi,List.map_append]
  rfl
 ·show Xnm kids l sym prod ends _ kids _ _ ((kids.take kids.length).map (Xsi l sym)) ((kids.take kids.length).map (Xsi l sym)) ((kids.take kids.length).map (Xsi l sym)) (kids.length:Int) _
  rw [List.take_length]
  unfold Xnm
  rw [if_neg (by omega)]
  refine ⟨_,hR _,_,twin' (by omega),_,Yfb (by omega),?_⟩
  have hsh:∀ x ∈ kids.map (Xsi l sym),x.length≤2 ^ 40:=fun x hx=>by
   obtain ⟨k,hm,rfl⟩:=List.mem_map.1 hx
   have:=Ye6 l sym k
   have:=hk40 k hm
   omega
  have hml:(kids.map (Xsi l sym)).length=kids.length:=List.length_map ..
  refine Yfs _ (by omega) hsh (fun cur i o hi ho=>?_) ?_
  ·show Xnw _ _ _ _ _ _ _ _ _ _ _ cur (i:Int) o
   unfold Xnw
   rw [if_pos (by omega)]
   exact ho
  ·show Xnw _ _ _ _ _ _ _ _ _ _ _ ((kids.map (Xsi l sym)).map spF) (((kids.map (Xsi l sym)).length:Nat):Int) _
   unfold Xnw
   rw [List.length_map (f:=spF),if_neg (by omega)]
   refine Xmi.cnt kids.length (fun i hi=>?_) ?_
   ·unfold Xoo
    rw [if_pos (by omega),Xnu (by omega),Xp3 (by omega)]
    refine ⟨by omega,by omega,_,Ych ?_,?_⟩
    ·have := hsh _ (List.getElem_mem (show i < (kids.map (Xsi l sym)).length by omega))
     omega
    ·rw [if_pos rfl]
   ·unfold Xoo
    rw [if_neg (by omega)]
    refine ⟨_,Ych (by omega),?_⟩
    rw [if_pos rfl]
    refine Xmi.cnt kids.length (fun i hi=>?_) ?_
    ·unfold Xon
     rw [if_pos (by omega),Xnu hi,Xp3 (by omega)]
     refine ⟨by omega,by omega,_,Ych ?_,?_⟩
     ·have:=hk40 _ (List.getElem_mem hi)
      omega
     ·rw [if_pos rfl]
    ·unfold Xon
     rw [if_neg (by omega)]
     refine ⟨_,Ych (by omega),_,hR prod,_,Ych (by omega),?_⟩
     refine Yfs _ (by omega) hk40 (fun cur i o hi ho=>?_) ?_
     ·show Xnx _ _ _ _ _ _ _ cur (i:Int) o
      unfold Xnx
      rw [if_pos (by omega)]
      exact ho
     ·show Xnx _ _ _ _ _ _ _ (kids.map spF) (kids.length:Int) _
      have hsl:(kids.map spF).length=kids.length:=List.length_map ..
      have hsw:∀ k ∈ kids.map spF,Wf k∧k.length + 1≤2 ^ 18:=fun x hx=>by
       obtain ⟨k,hm,rfl⟩:=List.mem_map.1 hx
       exact ⟨spF_wf k,by rw [Ygx]; have:=(hw k hm).2; omega⟩
      have hd:=Yag hl (prod:=prod) (kids:=kids.map spF) (ends:=ends) (B:=2 ^ 18) (by omega) (by omega) hsw (by omega)
      have hdl:=Ybe (l:=l) (prod:=prod) (kids:=kids.map spF) (ends:=ends) (B:=2 ^ 18) hsw (by omega)
      unfold Xnx
      rw [if_neg (by omega)]
      refine ⟨_,Ych (by omega),_,Xzo (by omega) (fun k hm=>by have:=(hsw k hm).2; omega),_,Yee hl (B:=2 ^ 18) (by omega) (by omega) hsw (by omega),_,hd,_,Ych (by omega),?_⟩
      rw [if_pos rfl,if_pos rfl,if_pos rfl]
end Go.Proofs.Ytmekgfcfooghnaa.L
