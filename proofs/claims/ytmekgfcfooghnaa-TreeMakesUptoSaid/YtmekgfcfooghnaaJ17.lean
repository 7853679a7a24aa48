/- The document's Reduce answers as the program's. Conditions: sizes, numbers are ints. -/
import Derived.Test.YtmekgfcfooghnaaJ16
set_option linter.unusedVariables false
namespace Go.Proofs.Ytmekgfcfooghnaa.L
open Go.Proofs.Ytmekgfcfooghnaa.B Go.Proofs.Ytmekgfcfooghnaa.R
theorem Yd1 {α σ τ ρ:Type} {f:α→σ→Sum σ ρ} {f':α→τ→Sum τ ρ} {e:σ→ρ} {e':τ→ρ} (φ:τ→σ) (h:∀ a s,f a (φ s)=(match f' a s with | .inl t=>.inl (φ t) | .inr r=>.inr r)) (he:∀ s,e (φ s)=e' s):∀ (l:List α) (s:τ),Xwu f' e' l s=Xwu f e l (φ s)
 | [],s=>(he s).symm
 | a :: l,s=>by
  have h1:=h a s
  cases h2:f' a s with
  | inl t =>
   rw [h2] at h1
   rw [Xxl h2,Xxl h1,Yd1 φ h he l t]
  | inr r =>
   rw [h2] at h1
   rw [Xxi h2,Xxi h1]
def Xz3 (t:List Xm4):List Tre:=((sf t 0).getD []).map (·.1)
theorem Ybg {t:List Xm4} (h:¬ Xxw t < 0):flL (Xz3 t)=t:=by
 unfold Xxw at h
 cases hs:sf t 0 with
 | none=>rw [hs] at h; simp at h
 | some S =>
  unfold Xz3
  rw [hs]
  exact fl_sf t 0 hs
theorem Yct {t:List Xm4} (hl:Xwd t):Xog t (if Xxw t < 0 then ([],false) else (Xz3 t,true)):=by
 cases hs:sf t 0 with
 | none =>
  have:Xxw t < 0:=by unfold Xxw; rw [hs]; simp
  rw [if_pos this]; exact Yfw hl hs
 | some S =>
  have:¬ Xxw t < 0:=by unfold Xxw; rw [hs]; simp
  rw [if_neg this]
  have:=Yfi hl hs
  unfold Xz3
  rw [hs]
  exact this
def redT (l:Xml) (p:Xs0) (kids:List (List Xm4)) (ends:List Int) (i:Nat) (X:List Tre):Sum (List Tre) (List Xm4):=if Xxw (ix kids (i:Int)) < 0 then .inr [] else .inl (X++Xut l.gram (ix p.rhs (i:Int)) (Xz3 (ix kids (i:Int))) (ix ends ((i:Int) + 1)))
def topT (l:Xml) (p:Xs0) (ends:List Int) (X:List Tre):List Tre:=if 0≤p.lhs∧p.lhs < (l.gram.syms.length:Int)∧(ix l.gram.syms p.lhs).kind=1 then [undT (ix l.gram.syms p.lhs).name X (ix ends (p.rhs.length:Int))] else X
theorem redT_sim (l:Xml) (p:Xs0) (kids:List (List Xm4)) (ends:List Int) (xs:List Nat) (X:List Tre):Xwu (redT l p kids ends) (fun s=>flL (topT l p ends s)) xs X=Xwu (redF l p kids ends) (topF l p ends) xs (flL X):=by
 refine Yd1 flL (fun i s=>?_) (fun s=>?_) xs X
 ·unfold redF redT
  by_cases h:Xxw (ix kids (i:Int)) < 0
  ·rw [if_pos h,if_pos h]
  ·rw [if_neg h,if_neg h]
   show _=Sum.inl (flL (s++_))
   rw [Xxs,Ydf,Ybg h]
 ·unfold topF topT
  split
  ·rw [Yag,Yf0]
  ·rfl
theorem Yfp {l:Xml} (r:Xo0) {X:List Tre} (e:Int) (hw:Wf (flL X)) (hs:Sm (flL X)):(flL (Xut l.gram r X e)).length≤(flL X).length + 1:=by
 rw [Ydf]
 exact (Yaw hw hs).2
theorem Yc9 {l:Xml} (hl:LgOk l) {prod:Int} {kids:List (List Xm4)} {ends:List Int} {B:Nat} (hk:kids.length≤2 ^ 38) (he:ends.length≤2 ^ 38) (hw:∀ k ∈ kids,Wf k∧k.length + 1≤B) (hB:kids.length * B + B≤2 ^ 39):Xqf l prod kids ends (Xv8 l prod kids ends):=by
 have j1:∀ c:Bool,(c=true↔prod < 0∨prod≥(l.gram.prods.length:Int))→Xot prod l kids ends c (Xv8 l prod kids ends):=fun c hc=>by
  unfold Xot Xv8
  cases c with
  | true=>rw [if_pos rfl,if_pos (hc.1 rfl)]
  | false =>
   have h0:¬ (prod < 0∨prod≥(l.gram.prods.length:Int)):=fun h=>by have:=hc.2 h; cases this
   rw [if_neg (by simp),if_neg h0]
   refine ⟨by omega,?_⟩
   obtain ⟨n,rfl⟩:∃ n:Nat,prod=n:=⟨prod.toNat,by omega⟩
   have hpm:ix l.gram.prods (n:Int) ∈ l.gram.prods:=by rw [Xnk (by omega)]; exact List.getElem_mem _
   obtain ⟨hr1,hr2⟩:=hl.rh _ hpm
   generalize hp:ix l.gram.prods (n:Int)=p at *
   have e0:w64 ((p.rhs.length:Int) + 1)=(p.rhs.length:Int) + 1:=Xpj (by omega)
   by_cases h1:kids.length=p.rhs.length
   ·rw [if_pos (by omega), e0]
    unfold Xos
    by_cases h2:ends.length=p.rhs.length + 1
    ·have eb:((ends.length:Int) != (p.rhs.length:Int) + 1)=false:=by rw [h2]; simp
     rw [eb,if_neg (by simp),if_neg (by omega)]
     have hsim:=redT_sim l p kids ends (List.range p.rhs.length) []
     show Xmh _ _ (Xwu (redF l p kids ends) (topF l p ends) (List.range p.rhs.length) (flL []))
     rw [← hsim]
     refine Xmh.row (List.range p.rhs.length) (fun (s:List Tre) i=>(s,i)) _ _ (fun i s=>(flL s).length≤i * B) (fun j hj s hs=>?_) (fun s hs=>?_) (by simp [flL])
     ·rw [List.length_range] at hj
      rw [List.getElem_range]
      have hkm:ix kids (j:Int) ∈ kids:=by rw [Xnk (by omega)]; exact List.getElem_mem _
      obtain ⟨hw1,hw2⟩:=hw _ hkm
      have hjB:j * B + B≤kids.length * B:=by
       have:=Nat.mul_le_mul_right B (show j + 1≤kids.length by omega)
       rw [Nat.add_mul,Nat.one_mul] at this
       exact this
      have hsm:Sm (ix kids (j:Int)):=by unfold Sm; omega
      have hlt:¬ Xxw (ix kids (j:Int)) < 0→(flL (Xut l.gram (ix p.rhs (j:Int)) (Xz3 (ix kids (j:Int))) (ix ends ((j:Int) + 1)))).length≤B:=fun g=>by
       have ht:=Ybg g
       have:=Yfp (l:=l) (ix p.rhs (j:Int)) (X:=Xz3 (ix kids (j:Int))) (ix ends ((j:Int) + 1)) (by rw [ht]; exact hw1) (by rw [ht]; exact hsm)
       rw [ht] at this
       omega
      have key:Xny l (n:Int) kids ends s (j:Int) (match redT l p kids ends j s with | .inl s'=>.inl (s',(j:Int) + 1) | .inr r=>.inr r):=by
       unfold Xny redT
       rw [hp,if_pos (by omega)]
       refine ⟨by omega,_,Yct hsm.fits,?_⟩
       by_cases g:Xxw (ix kids (j:Int)) < 0
       ·rw [if_pos g,if_pos g]
        exact rfl
       ·have ht:=Ybg g
        have hX:=Xxt (Xz3 (ix kids (j:Int)))
        rw [ht] at hX
        rw [if_neg g,if_neg g,Xpj (by omega)]
        dsimp only
        rw [if_pos rfl]
        refine ⟨by omega,by omega,_,Ydm hl.te hl.sy _ (by omega) _,_,rfl,?_,rfl⟩
        have b1:=Xxt s
        have b2:=Xxt (Xut l.gram (ix p.rhs (j:Int)) (Xz3 (ix kids (j:Int))) (ix ends ((j:Int) + 1)))
        have b3:=hlt g
        rw [List.length_append]
        omega
      refine ⟨fun s' hs'=>?_,fun r hr=>?_⟩
      ·rw [hs'] at key
       refine ⟨key,?_⟩
       unfold redT at hs'
       split at hs'
       ·cases hs'
       ·rename_i g
        injection hs' with hs'
        subst hs'
        rw [Xxs,List.length_append,Nat.add_mul,Nat.one_mul]
        have:=hlt g
        omega
      ·rw [hr] at key; exact key
     ·show Xny l (n:Int) kids ends s ((List.range p.rhs.length).length:Int) _
      rw [List.length_range] at hs ⊢
      unfold Xny
      rw [hp,if_neg (by omega)]
      have hX:=Xxt s
      have hsB:(flL s).length≤2 ^ 39:=by rw [← h1] at hs; omega
      have j4:∀ c:Bool,(c=true↔0≤p.lhs∧p.lhs < (l.gram.syms.length:Int)∧(ix l.gram.syms p.lhs).kind=1)→Xoa l (n:Int) ends s c (.inr (flL (topT l p ends s))):=fun c hc=>by
       unfold Xoa topT
       rw [hp]
       cases c with
       | true =>
        have g:=hc.1 rfl
        rw [if_pos rfl,if_pos g]
        refine ⟨by omega,by omega,_,Ya0 _ (by omega) _,_,⟨_,Yev _ _ (Nat.lt_succ_self _) ?_⟩,rfl⟩
        rw [Yag,Xvm,List.length_cons]
        show (flL s).length + 1≤_
        omega
       | false =>
        have g:¬ (0≤p.lhs∧p.lhs < (l.gram.syms.length:Int)∧(ix l.gram.syms p.lhs).kind=1):=fun h=>by have:=hc.2 h; cases this
        rw [if_neg (by simp),if_neg g]
        exact ⟨_,⟨_,Yev _ _ (Nat.lt_succ_self _) (by omega)⟩,rfl⟩
      by_cases g1:p.lhs≥0
      ·rw [if_pos g1]
       by_cases g2:p.lhs < (l.gram.syms.length:Int)
       ·rw [if_pos g2]
        refine ⟨by omega,j4 _ ?_⟩
        rw [beq_iff_eq]
        exact ⟨fun h=>⟨g1,g2,h⟩,fun h=>h.2.2⟩
       ·rw [if_neg g2]
        exact j4 false ⟨fun h=>(by cases h),fun h=>absurd h.2.1 g2⟩
      ·rw [if_neg g1]
       exact j4 false ⟨fun h=>(by cases h),fun h=>absurd h.1 (by omega)⟩
    ·have eb:((ends.length:Int) != (p.rhs.length:Int) + 1)=true:=by
      rw [bne_iff_ne]; omega
     rw [eb,if_pos rfl,if_pos (.inr h2)]
   ·rw [if_neg (by omega), if_pos (.inl h1)]
    unfold Xos
    rw [if_pos rfl]
 unfold Xqf
 by_cases h:prod < 0
 ·rw [if_pos h]; exact j1 true (by simp [h])
 ·rw [if_neg h]; exact j1 _ (by simp [h])
theorem Ye8 {l:Xml} (s:Int) {k:List Xm4} (h:Xwd k):Xr2 l s k (Xxg l s k):=by
 unfold Xr2 Xxg
 refine ⟨_,Xyv _ _,?_⟩
 cases hh:Xtw l.gram s with
 | true=>rw [if_pos rfl,if_pos rfl]
 | false=>rw [if_neg (by simp),if_neg (by simp)]; exact ⟨_,rfl,by simp; omega,by simp⟩
end Go.Proofs.Ytmekgfcfooghnaa.L
