/- The document's First and Of answer as the program's (continued). No condition. -/
import Derived.Test.YtelafghkjlpojaaE2
set_option linter.unusedVariables false
namespace Go.Proofs.Ytelafghkjlpojaa.L
open Go.Proofs.Ytelafghkjlpojaa.B Go.Proofs.Ytelafghkjlpojaa.R
def mkB (p:Nat→Bool):Nat→Int
 | 0=>0
 | n + 1=>if p n=true then OR (mkB p n) ((2 ^ n:Nat):Int) else mkB p n
theorem Yso (p:Nat→Bool):∀ n,n≤64→U (mkB p n)
 | 0,_=>U.zero
 | n + 1,h=>by
  rw [mkB]
  split
  ·exact (Yso p n (by omega)).or (U.one (by omega))
  ·exact Yso p n (by omega)
theorem Yrr (p:Nat→Bool):∀ n,n≤64→∀ t,has (mkB p n) t=(decide (t < n) && p t)
 | 0,_,t=>by rw [mkB,Yor]; simp
 | n + 1,h,t=>by
  rw [mkB]
  have ih:=Yrr p n (by omega) t
  by_cases hp:p n=true
  ·rw [if_pos hp, Yoi (Yso p n (by omega)) (U.one (by omega)), ih, Yrz]
   by_cases e:n=t
   ·subst e; simp [hp]
   ·rw [decide_eq_false e,Bool.or_false]
    congr 1
    rw [decide_eq_decide]; omega
  ·rw [if_neg hp,ih]
   by_cases e:n=t
   ·subst e; simp [hp]
   ·congr 1
    rw [decide_eq_decide]; omega
theorem Yq2 {f f':Int→Bool}:∀ {row:List Yg6},(∀ r ∈ row,f r.sym=f' r.sym)→Ykj f row=Ykj f' row
 | [],_=>rfl
 | r :: row,h=>by
  rw [Ykj,Ykj,h r (List.mem_cons_self ..),Yq2 fun q hq=>h q (List.mem_cons_of_mem _ hq)]
theorem Yo7 {s:Yg0} (hs:Ok s):∀ {row:List Yg6} {out:Int},U out→∀ t,has (ofS s row out).1 t=true↔(has out t=true∨∃ h ∈ Ykj s.vanishes row,has (s.first h) t=true)
 | [],out,ho,t=>by rw [ofS_nil]; simp [Ykj]
 | r :: row,out,ho,t=>by
  have hU:=ho.or (hs r.sym)
  cases hv:s.vanishes r.sym with
  | true =>
   rw [Yno hv,Yo7 hs hU,Yoi ho (hs r.sym),Ykj,if_pos hv,Bool.or_eq_true]
   constructor
   ·rintro ((h | h) | ⟨q,h1,h2⟩)
    ·exact .inl h
    ·exact .inr ⟨r.sym,List.mem_cons_self ..,h⟩
    ·exact .inr ⟨q,List.mem_cons_of_mem _ h1,h2⟩
   ·rintro (h | ⟨q,h1,h2⟩)
    ·exact .inl (.inl h)
    ·rcases List.mem_cons.1 h1 with rfl | h1
     ·exact .inl (.inr h2)
     ·exact .inr ⟨q,h1,h2⟩
  | false =>
   rw [Ymx hv]
   show has (OR out (s.first r.sym)) t=true↔_
   rw [Yoi ho (hs r.sym),Ykj,if_neg (by simp [hv]),Bool.or_eq_true]
   constructor
   ·rintro (h | h)
    ·exact .inl h
    ·exact .inr ⟨r.sym,List.mem_cons_self ..,h⟩
   ·rintro (h | ⟨q,h1,h2⟩)
    ·exact .inl h
    ·rw [List.mem_singleton.1 h1] at h2; exact .inr h2
theorem Yof {g:Yfz} {s:Yg0} {row:List Yg6} (hr:Ym7 g row=true):Ykj (ix (Yjd g s)) row=Ykj s.vanishes row:=Yq2 fun r h=>by
 have:=Yl4 hr h
 have e:=Ys0 (g:=g) (s:=s) (j:=r.sym.toNat) (by unfold nA; omega)
 rwa [Int.toNat_of_nonneg this.1] at e
theorem rs_sub {g:Yfz} (hg:Yim g=true) {s:Yg0} (hs:Yqq g s) {R:Int→Prop} {F:Int} (hR:∀ z,R z→Sub (s.first z) F) {y:Int} (h:Rs g (ix (Yjd g s)) R y):Sub (s.first y) F:=by
 induction h with
 | base h=>exact hR _ h
 | step h1 h2 ih =>
  obtain ⟨p,hp,h3,rfl,h5⟩:=h2
  rw [Yof (Ylw hg hp).2.2] at h5
  exact Sub.trans (fun t ht=>(hs.cl p hp h3).1 t ((Yo7 hs.ok U.zero t).2 (.inr ⟨_,h5,ht⟩))) ih
open Classical in
noncomputable def Yqu (g:Yfz) (s:Yg0):Yg0:=⟨fun x=>mkB (fun t=>decide (t < g.terms.length∧Rs g (ix (Yjd g s)) (· = x) (t:Int))) 64,s.vanishes⟩
theorem Yq3 {g:Yfz} (hg:Yim g=true) {s:Yg0} (hs:Yqq g s) {x:Int} {t:Nat}:has (s.first x) t=true↔(t < g.terms.length∧Rs g (ix (Yjd g s)) (· = x) (t:Int)):=by
 classical
 obtain ⟨hT1,hT2,hS⟩:=Ylr hg
 have hrh:∀ x t,has ((Yqu g s).first x) t=true↔(t < g.terms.length∧Rs g (ix (Yjd g s)) (· = x) (t:Int)):=fun x t=>by
  unfold Yqu
  show has (mkB (fun t=>decide (t < g.terms.length∧Rs g (ix (Yjd g s)) (· = x) (t:Int))) 64) t=true↔_
  rw [Yrr _ 64 (Nat.le_refl _),Bool.and_eq_true,decide_eq_true_eq,decide_eq_true_eq]
  constructor
  ·exact fun h=>h.2
  ·exact fun h=>⟨by have:=h.1; omega,h⟩
 have hok:Ok (Yqu g s):=fun j=>by
  unfold Yqu
  dsimp only
  exact Yso _ 64 (Nat.le_refl _)
 constructor
 ·intro h
  have:=hs.least (Yqu g s) hok (fun t ht=>(hrh _ _).2 ⟨ht,.base rfl⟩) (fun p hp h0=>⟨fun t ht=>?_,fun hv=>?_⟩)
  ·exact (hrh x t).1 ((this x).1 t h)
  ·rcases (Yo7 hok U.zero t).1 ht with h1 | ⟨q,h1,h2⟩
   ·rw [Yor] at h1; cases h1
   ·obtain ⟨h3,h4⟩:=(hrh q t).1 h2
    refine (hrh _ t).2 ⟨h3,h4.bind fun z hz=>?_⟩
    subst hz
    refine .step (.base rfl) ⟨p,hp,h0,rfl,?_⟩
    rw [Yof (Ylw hg hp).2.2]
    exact h1
  ·rw [Yoc] at hv
   have h1:Ypg s.vanishes p.rhs=true:=hv
   rw [← Yoc (s:=s) p.rhs 0] at h1
   exact (hs.cl p hp h0).2 h1
 ·rintro ⟨h1,h2⟩
  have:=rs_sub hg hs (F:=s.first x) (fun z hz=>by subst hz; exact Sub.refl _) h2
  refine this t ?_
  rw [hs.f t h1,Yrz]
  simp
theorem Ytx {g:Yfz} (hl:Lg g) (hg:Yim g=true) {s:Yg0} (hs:Yqq g s) {row:List Yg6} (hr:row.length < 2 ^ 60) (hk:Ym7 g row=true):Yjm g (Yjd g s) row (ofS s row 0).1:=by
 obtain ⟨hT1,hT2,hS⟩:=Ylr hg
 have hnA:nA g≤192:=by unfold nA; omega
 unfold Yjm
 rw [wN hl]
 refine ⟨by omega,_,rfl,?_⟩
 rw [Int.toNat_natCast]
 obtain ⟨r,h1,h2⟩:=leads_ex hl hg hs (Ypt (List.replicate (nA g) false) + 1) (List.replicate (nA g) false) row List.length_replicate hk hr (Nat.lt_succ_self _)
 refine ⟨r,⟨_,h1⟩,?_⟩
 have hseen:∀ y:Int,ix (List.replicate (nA g) false) y=false:=fun y=>by
  cases h:ix (List.replicate (nA g) false) y with
  | false=>rfl
  | true =>
   have hlt:=ix_inB h
   rw [List.length_replicate] at hlt
   unfold ix at h
   rw [List.getD_eq_getElem?_getD,List.getElem?_eq_getElem (by rw [List.length_replicate]; exact hlt),List.getElem_replicate] at h
   cases h
 have hrr:∀ t:Nat,ix r (t:Int)=true↔Rs g (ix (Yjd g s)) (· ∈ Ykj (ix (Yjd g s)) row) (t:Int):=fun t=>by
  constructor
  ·intro h
   rcases h2.rs _ (by omega) h with h3 | h3
   ·rw [hseen] at h3; cases h3
   ·exact h3
  ·have key:∀ y,Rs g (ix (Yjd g s)) (· ∈ Ykj (ix (Yjd g s)) row) y→ix r y=true:=fun y h=>by
    induction h with
    | base h=>exact h2.hd _ h
    | step _ h4 ih=>exact h2.cl _ ih (hseen _) _ h4
   exact key _
 have e:(ofS s row 0).1=mkB (fun t=>ix r (t:Int)) g.terms.length:=by
  refine Ytg (Yqk hs.ok U.zero) (Yso _ _ (by omega)) fun t=>?_
  rw [Yrr _ _ (by omega),Bool.eq_iff_iff,Yo7 hs.ok U.zero,Bool.and_eq_true,decide_eq_true_eq,hrr,Yof hk,Yor]
  constructor
  ·rintro (h | ⟨q,h3,h4⟩)
   ·cases h
   ·obtain ⟨h5,h6⟩:=(Yq3 hg hs).1 h4
    exact ⟨h5,h6.bind fun z hz=>.base (by rw [hz]; exact h3)⟩
  ·rintro ⟨h3,h4⟩
   right
   have key:∀ y,Rs g (ix (Yjd g s)) (· ∈ Ykj s.vanishes row) y→∃ q ∈ Ykj s.vanishes row,Rs g (ix (Yjd g s)) (· = q) y:=fun y hy=>by
    induction hy with
    | base h=>exact ⟨_,h,.base rfl⟩
    | step _ h6 ih =>
     obtain ⟨q,h7,h8⟩:=ih
     exact ⟨q,h7,.step h8 h6⟩
   obtain ⟨q,h5,h6⟩:=key _ h4
   exact ⟨q,h5,(Yq3 hg hs).2 ⟨h3,h6⟩⟩
 rw [e]
 have key:=Yga.upto (B:=fun (q:Int × Int) o=>Yh9 g r q.1 q.2 o) (r:=mkB (fun t=>ix r (t:Int)) g.terms.length) (fun j=>(mkB (fun t=>ix r (t:Int)) j,(j:Int))) g.terms.length (fun i hi=>?_) ?_
 ·exact key
 ·show Yh9 g r (mkB (fun t => ix r (t : Int)) i) (i : Int) _
  have ew:IntKind.u64.wrap (i:Int)=(i:Int):=wrapU ⟨by omega,by omega⟩
  unfold Yh9
  rw [if_pos (by omega),Yi6 (by omega),ew,h2.len]
  refine ⟨by unfold nA; omega,?_⟩
  show if ix r (i:Int)=true then _ else _
  by_cases h:ix r (i:Int)=true
  ·rw [if_pos h]
   refine ⟨by omega,?_⟩
   show Sum.inl (mkB (fun t=>ix r (t:Int)) (i + 1),_)=_
   rw [mkB,if_pos h,Ytf (by omega)]
   rfl
  ·rw [if_neg h]
   show Sum.inl (mkB (fun t=>ix r (t:Int)) (i + 1),_)=_
   rw [mkB,if_neg h]
   rfl
 ·show Yh9 g r _ (g.terms.length:Int) _
  unfold Yh9
  rw [if_neg (by omega)]
end Go.Proofs.Ytelafghkjlpojaa.L
