/- The law TreeFresh. Conditions: sizes, numbers are ints. -/
import Derived.Test.YtmekgfcfooghnaaJ17
set_option linter.unusedVariables false
namespace Go.Proofs.Ytmekgfcfooghnaa.L
open Go.Proofs.Ytmekgfcfooghnaa.B Go.Proofs.Ytmekgfcfooghnaa.R
theorem same' {t:List Xm4} (h:t.length≤2 ^ 40):Xon t t true:=Yf9 (show _≤_ by omega)
theorem twin' {t:List Xm4} (h:t.length≤2 ^ 40):Xpn t t:=Yfd (show _≤_ by omega)
theorem Yca {l:List (List Xm4)} (h:l.length≤2 ^ 40) (hk:∀ k ∈ l,k.length≤2 ^ 40):Xpm l l:=by
 unfold Xpm
 refine Xmh.upto (B:=fun (s:(List (List Xm4)) × Int) o=>Xnc l s.1 s.2 o) (r:=l) (fun j=>(l.take j,(j:Int))) l.length (fun i hi=>?_) ?_
 ·show Xnc l (l.take i) (i:Int) _
  unfold Xnc
  rw [if_pos (by omega),Xnk hi,Xpj (by omega)]
  refine ⟨by omega,_,twin' (hk _ (List.getElem_mem hi)),_,rfl,?_,?_⟩
  ·rw [List.length_append,List.length_take]; simp; omega
  ·rw [← List.take_succ_eq_append_getElem hi]; rfl
 ·show Xnc l (l.take l.length) (l.length:Int) _
  unfold Xnc
  rw [if_neg (by omega),List.take_length]
theorem Ycx {l:List (List Xm4)} (h:l.length≤2 ^ 40) (hk:∀ k ∈ l,Wf k∧k.length≤2 ^ 40):∃ b,Xqm l b:=by
 have hb:∀ k:List Xm4,∃ b,k ∈ l→Xof k b:=fun k=>by
  by_cases hm:k ∈ l
  ·obtain ⟨hw,hl⟩:=hk k hm
   obtain ⟨b,hb⟩:=Yfg (t:=k) (by show _≤_; omega) hw
   exact ⟨b,fun _=>hb⟩
  ·exact ⟨false,fun g=>absurd g hm⟩
 let p:List Xm4→Bool:=fun k=>!(Classical.choose (hb k))
 have hp:∀ k ∈ l,Xof k (!(p k)):=fun k hm=>by
  show Xof k (!(!(Classical.choose (hb k))))
  rw [Bool.not_not]
  exact Classical.choose_spec (hb k) hm
 have:=Xmh.allThen l p (B:=fun (s:Int) o=>Xnm l s o) (r:=false) (f:=true) (fun i hi g=>?_) (fun i hi g=>?_) (fun _=>?_)
 ·exact ⟨_,this⟩
 ·unfold Xnm
  rw [if_pos (by omega),Xnk hi]
  have:=hp _ (List.getElem_mem hi)
  rw [g] at this
  refine ⟨by omega,_,this,?_⟩
  rw [if_neg (by simp),Xpj (by omega)]
 ·unfold Xnm
  rw [if_pos (by omega),Xnk hi]
  have:=hp _ (List.getElem_mem hi)
  rw [g] at this
  refine ⟨by omega,_,this,?_⟩
  rw [if_pos (by simp)]
 ·unfold Xnm
  rw [if_neg (by omega)]
theorem Yfh (l:Xml) (s:Int) (k:List Xm4):(Xxg l s k).length≤k.length:=by
 unfold Xxg
 split
 ·simp
 ·exact Nat.le_refl _
theorem Ydp {l:Xml} {prod:Int} {kids:List (List Xm4)} {ends:List Int} {B:Nat} (hw:∀ k ∈ kids,Wf k∧k.length + 1≤B) (hB:kids.length * B + B≤2 ^ 39):(Xv8 l prod kids ends).length≤kids.length * B + 1:=by
 unfold Xv8
 split
 ·simp
 ·split
  ·simp
  ·rename_i h
   have hlen:kids.length=(ix l.gram.prods prod).rhs.length:=by omega
   have key:∀ (n i:Nat) (out:List Xm4),i + n=kids.length→out.length≤i * B→(Xwu (redF l (ix l.gram.prods prod) kids ends) (topF l (ix l.gram.prods prod) ends) (List.range' i n) out).length≤kids.length * B + 1:=by
    intro n
    induction n with
    | zero =>
     intro i out hi ho
     show (topF _ _ _ out).length≤_
     have:i=kids.length:=by omega
     subst this
     unfold topF
     split
     ·rw [Ybs]; omega
     ·omega
    | succ n ih =>
     intro i out hi ho
     rw [List.range'_succ]
     unfold Xwu redF
     by_cases g:Xxw (ix kids (i:Int)) < 0
     ·rw [if_pos g]; simp
     ·rw [if_neg g]
      have hkm:ix kids (i:Int) ∈ kids:=by rw [Xnk (by omega)]; exact List.getElem_mem _
      obtain ⟨hw1,hw2⟩:=hw _ hkm
      have hsm:Sm (ix kids (i:Int)):=by unfold Sm; omega
      have hpo:=(Yaw (l:=l) (r:=ix (ix l.gram.prods prod).rhs (i:Int)) (e:=ix ends ((i:Int) + 1)) hw1 hsm).2
      refine ih (i + 1) _ (by omega) ?_
      rw [List.length_append,Nat.add_mul,Nat.one_mul]
      omega
   rw [List.range_eq_range',← hlen]
   exact key kids.length 0 [] (by omega) (by simp)
end Go.Proofs.Ytmekgfcfooghnaa.L
