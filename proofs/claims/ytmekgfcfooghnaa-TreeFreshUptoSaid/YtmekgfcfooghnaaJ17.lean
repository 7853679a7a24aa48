/- The document's Reduce answers as the program's. Conditions: sizes, numbers are ints. -/
import Derived.Test.YtmekgfcfooghnaaJ16
set_option linter.unusedVariables false
namespace Go.Proofs.Ytmekgfcfooghnaa.L
open Go.Proofs.Ytmekgfcfooghnaa.B Go.Proofs.Ytmekgfcfooghnaa.R
theorem Yf9 {α σ τ ρ:Type} {f:α→σ→Sum σ ρ} {f':α→τ→Sum τ ρ} {e:σ→ρ} {e':τ→ρ} (φ:τ→σ) (h:∀ a s,f a (φ s)=(match f' a s with | .inl t=>.inl (φ t) | .inr r=>.inr r)) (he:∀ s,e (φ s)=e' s):∀ (l:List α) (s:τ),Xxl f' e' l s=Xxl f e l (φ s)
 | [],s=>(he s).symm
 | a :: l,s=>by
  have h1:=h a s
  cases h2:f' a s with
  | inl t =>
   rw [h2] at h1
   rw [Xyj h2,Xyj h1,Yf9 φ h he l t]
  | inr r =>
   rw [h2] at h1
   rw [Xy8 h2,Xy8 h1]
def Xzz (t:List Xm4):List Tre:=((sf t 0).getD []).map (·.1)
theorem Yci {t:List Xm4} (h:¬ Xyv t < 0):flL (Xzz t)=t:=by
 unfold Xyv at h
 cases hs:sf t 0 with
 | none=>rw [hs] at h; simp at h
 | some S =>
  unfold Xzz
  rw [hs]
  exact fl_sf t 0 hs
theorem Yer {t:List Xm4} (hl:Xwg t):Xox t (if Xyv t < 0 then ([],false) else (Xzz t,true)):=by
 cases hs:sf t 0 with
 | none =>
  have:Xyv t < 0:=by unfold Xyv; rw [hs]; simp
  rw [if_pos this]; exact Yi0 hl hs
 | some S =>
  have:¬ Xyv t < 0:=by unfold Xyv; rw [hs]; simp
  rw [if_neg this]
  have:=Yhs hl hs
  unfold Xzz
  rw [hs]
  exact this
def redT (l:Xmw) (p:Xnz) (kids:List (List Xm4)) (ends:List Int) (i:Nat) (X:List Tre):Sum (List Tre) (List Xm4):=if Xyv (ix kids (i:Int)) < 0 then .inr [] else .inl (X++Xvo l.gram (ix p.rhs (i:Int)) (Xzz (ix kids (i:Int))) (ix ends ((i:Int) + 1)))
def topT (l:Xmw) (p:Xnz) (ends:List Int) (X:List Tre):List Tre:=if 0≤p.lhs∧p.lhs < (l.gram.syms.length:Int)∧(ix l.gram.syms p.lhs).kind=1 then [undT (ix l.gram.syms p.lhs).name X (ix ends (p.rhs.length:Int))] else X
theorem redT_sim (l:Xmw) (p:Xnz) (kids:List (List Xm4)) (ends:List Int) (xs:List Nat) (X:List Tre):Xxl (redT l p kids ends) (fun s=>flL (topT l p ends s)) xs X=Xxl (redF l p kids ends) (topF l p ends) xs (flL X):=by
 refine Yf9 flL (fun i s=>?_) (fun s=>?_) xs X
 ·unfold redF redT
  by_cases h:Xyv (ix kids (i:Int)) < 0
  ·rw [if_pos h,if_pos h]
  ·rw [if_neg h,if_neg h]
   show _=Sum.inl (flL (s++_))
   rw [Xyf,Yf3,Yci h]
 ·unfold topF topT
  split
  ·rw [Ybw,Yhd]
  ·rfl
theorem Yhr {l:Xmw} (r:Xn1) {X:List Tre} (e:Int) (hw:Wf (flL X)) (hs:Sm (flL X)):(flL (Xvo l.gram r X e)).length≤(flL X).length + 1:=by
 rw [Yf3]
 exact (Yd2 hw hs).2
theorem Yee {l:Xmw} (hl:LgOk l) {prod:Int} {kids:List (List Xm4)} {ends:List Int} {B:Nat} (hk:kids.length≤2 ^ 38) (he:ends.length≤2 ^ 38) (hw:∀ k ∈ kids,Wf k∧k.length + 1≤B) (hB:kids.length * B + B≤2 ^ 39):Xqr l prod kids ends (Xtn l prod kids ends):=by
 have j1:∀ c:Bool,(c=true↔prod < 0∨prod≥(l.gram.prods.length:Int))→Xpa prod l kids ends c (Xtn l prod kids ends):=fun c hc=>by
  unfold Xpa Xtn
  cases c with
  | true=>rw [if_pos rfl,if_pos (hc.1 rfl)]
  | false =>
   have h0:¬ (prod < 0∨prod≥(l.gram.prods.length:Int)):=fun h=>by have:=hc.2 h; cases this
   rw [if_neg (by simp),if_neg h0]
   refine ⟨by omega,?_⟩
   obtain ⟨n,rfl⟩:∃ n:Nat,prod=n:=⟨prod.toNat,by omega⟩
   have hpm:ix l.gram.prods (n:Int) ∈ l.gram.prods:=by rw [Xnu (by omega)]; exact List.getElem_mem _
   obtain ⟨hr1,hr2⟩:=hl.rh _ hpm
   generalize hp:ix l.gram.prods (n:Int)=p at *
   have e0:w64 ((p.rhs.length:Int) + 1)=(p.rhs.length:Int) + 1:=Xp3 (by omega)
   by_cases h1:kids.length=p.rhs.length
   ·rw [if_pos (by omega), e0]
    unfold Xpb
    by_cases h2:ends.length=p.rhs.length + 1
    ·have eb:((ends.length:Int) != (p.rhs.length:Int) + 1)=false:=by rw [h2]; simp
     rw [eb,if_neg (by simp),if_neg (by omega)]
     have hsim:=redT_sim l p kids ends (List.range p.rhs.length) []
     show Xmi _ _ (Xxl (redF l p kids ends) (topF l p ends) (List.range p.rhs.length) (flL []))
     rw [← hsim]
     refine Xmi.row (List.range p.rhs.length) (fun (s:List Tre) i=>(s,i)) _ _ (fun i s=>(flL s).length≤i * B) (fun j hj s hs=>?_) (fun s hs=>?_) (by simp [flL])
     ·rw [List.length_range] at hj
      rw [List.getElem_range]
      have hkm:ix kids (j:Int) ∈ kids:=by rw [Xnu (by omega)]; exact List.getElem_mem _
      obtain ⟨hw1,hw2⟩:=hw _ hkm
      have hjB:j * B + B≤kids.length * B:=by
       have:=Nat.mul_le_mul_right B (show j + 1≤kids.length by omega)
       rw [Nat.add_mul,Nat.one_mul] at this
       exact this
      have hsm:Sm (ix kids (j:Int)):=by unfold Sm; omega
      have hlt:¬ Xyv (ix kids (j:Int)) < 0→(flL (Xvo l.gram (ix p.rhs (j:Int)) (Xzz (ix kids (j:Int))) (ix ends ((j:Int) + 1)))).length≤B:=fun g=>by
       have ht:=Yci g
       have:=Yhr (l:=l) (ix p.rhs (j:Int)) (X:=Xzz (ix kids (j:Int))) (ix ends ((j:Int) + 1)) (by rw [ht]; exact hw1) (by rw [ht]; exact hsm)
       rw [ht] at this
       omega
      have key:Xoe l (n:Int) kids ends s (j:Int) (match redT l p kids ends j s with | .inl s'=>.inl (s',(j:Int) + 1) | .inr r=>.inr r):=by
       unfold Xoe redT
       rw [hp,if_pos (by omega)]
       refine ⟨by omega,_,Yer hsm.fits,?_⟩
       by_cases g:Xyv (ix kids (j:Int)) < 0
       ·rw [if_pos g,if_pos g]
        exact rfl
       ·have ht:=Yci g
        have hX:=Xyi (Xzz (ix kids (j:Int)))
        rw [ht] at hX
        rw [if_neg g,if_neg g,Xp3 (by omega)]
        dsimp only
        rw [if_pos rfl]
        refine ⟨by omega,by omega,_,Yf6 hl.te hl.sy _ (by omega) _,_,rfl,?_,rfl⟩
        have b1:=Xyi s
        have b2:=Xyi (Xvo l.gram (ix p.rhs (j:Int)) (Xzz (ix kids (j:Int))) (ix ends ((j:Int) + 1)))
        have b3:=hlt g
        rw [List.length_append]
        omega
      refine ⟨fun s' hs'=>?_,fun r hr=>?_⟩
      ·rw [hs'] at key
       refine ⟨key,?_⟩
       unfold redT at hs'
       split at hs'
       ·cases hs'
       ·rename_i g
        injection hs' with hs'
        subst hs'
        rw [Xyf,List.length_append,Nat.add_mul,Nat.one_mul]
        have:=hlt g
        omega
      ·rw [hr] at key; exact key
     ·show Xoe l (n:Int) kids ends s ((List.range p.rhs.length).length:Int) _
      rw [List.length_range] at hs ⊢
      unfold Xoe
      rw [hp,if_neg (by omega)]
      have hX:=Xyi s
      have hsB:(flL s).length≤2 ^ 39:=by rw [← h1] at hs; omega
      have j4:∀ c:Bool,(c=true↔0≤p.lhs∧p.lhs < (l.gram.syms.length:Int)∧(ix l.gram.syms p.lhs).kind=1)→Xor l (n:Int) ends s c (.inr (flL (topT l p ends s))):=fun c hc=>by
       unfold Xor topT
       rw [hp]
       cases c with
       | true =>
        have g:=hc.1 rfl
        rw [if_pos rfl,if_pos g]
        refine ⟨by omega,by omega,_,Yba _ (by omega) _,_,⟨_,Yh2 _ _ (Nat.lt_succ_self _) ?_⟩,rfl⟩
        rw [Ybw,Xwk,List.length_cons]
        show (flL s).length + 1≤_
        omega
       | false =>
        have g:¬ (0≤p.lhs∧p.lhs < (l.gram.syms.length:Int)∧(ix l.gram.syms p.lhs).kind=1):=fun h=>by have:=hc.2 h; cases this
        rw [if_neg (by simp),if_neg g]
        exact ⟨_,⟨_,Yh2 _ _ (Nat.lt_succ_self _) (by omega)⟩,rfl⟩
      by_cases g1:p.lhs≥0
      ·rw [if_pos g1]
       by_cases g2:p.lhs < (l.gram.syms.length:Int)
       ·rw [if_pos g2]
        refine ⟨by omega,j4 _ ?_⟩
        rw [beq_iff_eq]
        exact ⟨fun h=>⟨g1,g2,h⟩,fun h=>h.2.2⟩
       ·rw [if_neg g2]
        exact j4 false ⟨fun h=>(by cases h),fun h=>absurd h.2.1 g2⟩
      ·rw [if_neg g1]
       exact j4 false ⟨fun h=>(by cases h),fun h=>absurd h.1 (by omega)⟩
    ·have eb:((ends.length:Int) != (p.rhs.length:Int) + 1)=true:=by
      rw [bne_iff_ne]; omega
     rw [eb,if_pos rfl,if_pos (.inr h2)]
   ·rw [if_neg (by omega), if_pos (.inl h1)]
    unfold Xpb
    rw [if_pos rfl]
 unfold Xqr
 by_cases h:prod < 0
 ·rw [if_pos h]; exact j1 true (by simp [h])
 ·rw [if_neg h]; exact j1 _ (by simp [h])
end Go.Proofs.Ytmekgfcfooghnaa.L
