/- The document's First and Of answer as the program's (continued). No condition. -/
import Derived.Test.YtadcichlnacagaaDoorE2
set_option linter.unusedVariables false
namespace Go.Proofs.YtadcichlnacagaaDoor.L
open Go.Proofs.YtadcichlnacagaaDoor.B Go.Proofs.YtadcichlnacagaaDoor.R
def mkB (p:Nat→Bool):Nat→Int
 | 0=>0
 | n + 1=>if p n=true then OR (mkB p n) ((2 ^ n:Nat):Int) else mkB p n
theorem Zrl (p:Nat→Bool):∀ n,n≤64→U (mkB p n)
 | 0,_=>U.zero
 | n + 1,h=>by
  rw [mkB]
  split
  ·exact (Zrl p n (by omega)).or (U.one (by omega))
  ·exact Zrl p n (by omega)
theorem Zpt (p:Nat→Bool):∀ n,n≤64→∀ t,has (mkB p n) t=(decide (t < n) && p t)
 | 0,_,t=>by rw [mkB,Zaj]; simp
 | n + 1,h,t=>by
  rw [mkB]
  have ih:=Zpt p n (by omega) t
  by_cases hp:p n=true
  ·rw [if_pos hp, Zgl (Zrl p n (by omega)) (U.one (by omega)), ih, Zi3]
   by_cases e:n=t
   ·subst e; simp [hp]
   ·rw [decide_eq_false e,Bool.or_false]
    congr 1
    rw [decide_eq_decide]; omega
  ·rw [if_neg hp,ih]
   by_cases e:n=t
   ·subst e; simp [hp]
   ·congr 1
    rw [decide_eq_decide]; omega
theorem Zmj {f f':Int→Bool}:∀ {row:List Yut},(∀ r ∈ row,f r.sym=f' r.sym)→Zbg f row=Zbg f' row
 | [],_=>rfl
 | r :: row,h=>by
  rw [Zbg,Zbg,h r (List.mem_cons_self ..),Zmj fun q hq=>h q (List.mem_cons_of_mem _ hq)]
theorem Zep {s:Yu8} (hs:Ok s):∀ {row:List Yut} {out:Int},U out→∀ t,has (ofS s row out).1 t=true↔(has out t=true∨∃ h ∈ Zbg s.vanishes row,has (s.first h) t=true)
 | [],out,ho,t=>by rw [Zq1]; simp [Zbg]
 | r :: row,out,ho,t=>by
  have hU:=ho.or (hs r.sym)
  cases hv:s.vanishes r.sym with
  | true =>
   rw [Zhd hv,Zep hs hU,Zgl ho (hs r.sym),Zbg,if_pos hv,Bool.or_eq_true]
   constructor
   ·rintro ((h | h) | ⟨q,h1,h2⟩)
    ·exact .inl h
    ·exact .inr ⟨r.sym,List.mem_cons_self ..,h⟩
    ·exact .inr ⟨q,List.mem_cons_of_mem _ h1,h2⟩
   ·rintro (h | ⟨q,h1,h2⟩)
    ·exact .inl (.inl h)
    ·rcases List.mem_cons.1 h1 with rfl | h1
     ·exact .inl (.inr h2)
     ·exact .inr ⟨q,h1,h2⟩
  | false =>
   rw [Zg3 hv]
   show has (OR out (s.first r.sym)) t=true↔_
   rw [Zgl ho (hs r.sym),Zbg,if_neg (by simp [hv]),Bool.or_eq_true]
   constructor
   ·rintro (h | h)
    ·exact .inl h
    ·exact .inr ⟨r.sym,List.mem_cons_self ..,h⟩
   ·rintro (h | ⟨q,h1,h2⟩)
    ·exact .inl h
    ·rw [List.mem_singleton.1 h1] at h2; exact .inr h2
theorem Zkg {g:Yu5} {s:Yu8} {row:List Yut} (hr:Zhf g row=true):Zbg (ix (Yxi g s)) row=Zbg s.vanishes row:=Zmj fun r h=>by
 have:=Zfe hr h
 have e:=Zmz (g:=g) (s:=s) (j:=r.sym.toNat) (by unfold nA; omega)
 rwa [Int.toNat_of_nonneg this.1] at e
theorem rs_sub {g:Yu5} (hg:Yzm g=true) {s:Yu8} (hs:Zk7 g s) {R:Int→Prop} {F:Int} (hR:∀ z,R z→Sub (s.first z) F) {y:Int} (h:Rs g (ix (Yxi g s)) R y):Sub (s.first y) F:=by
 induction h with
 | base h=>exact hR _ h
 | step h1 h2 ih =>
  obtain ⟨p,hp,h3,rfl,h5⟩:=h2
  rw [Zkg (Zeu hg hp).2.2] at h5
  exact Sub.trans (fun t ht=>(hs.cl p hp h3).1 t ((Zep hs.ok U.zero t).2 (.inr ⟨_,h5,ht⟩))) ih
open Classical in
noncomputable def Znx (g:Yu5) (s:Yu8):Yu8:=⟨fun x=>mkB (fun t=>decide (t < g.terms.length∧Rs g (ix (Yxi g s)) (· = x) (t:Int))) 64,s.vanishes⟩
theorem Zj9 {g:Yu5} (hg:Yzm g=true) {s:Yu8} (hs:Zk7 g s) {x:Int} {t:Nat}:has (s.first x) t=true↔(t < g.terms.length∧Rs g (ix (Yxi g s)) (· = x) (t:Int)):=by
 classical
 obtain ⟨hT1,hT2,hS⟩:=Zcs hg
 have hrh:∀ x t,has ((Znx g s).first x) t=true↔(t < g.terms.length∧Rs g (ix (Yxi g s)) (· = x) (t:Int)):=fun x t=>by
  unfold Znx
  show has (mkB (fun t=>decide (t < g.terms.length∧Rs g (ix (Yxi g s)) (· = x) (t:Int))) 64) t=true↔_
  rw [Zpt _ 64 (Nat.le_refl _),Bool.and_eq_true,decide_eq_true_eq,decide_eq_true_eq]
  constructor
  ·exact fun h=>h.2
  ·exact fun h=>⟨by have:=h.1; omega,h⟩
 have hok:Ok (Znx g s):=fun j=>by
  unfold Znx
  dsimp only
  exact Zrl _ 64 (Nat.le_refl _)
 constructor
 ·intro h
  have:=hs.least (Znx g s) hok (fun t ht=>(hrh _ _).2 ⟨ht,.base rfl⟩) (fun p hp h0=>⟨fun t ht=>?_,fun hv=>?_⟩)
  ·exact (hrh x t).1 ((this x).1 t h)
  ·rcases (Zep hok U.zero t).1 ht with h1 | ⟨q,h1,h2⟩
   ·rw [Zaj] at h1; cases h1
   ·obtain ⟨h3,h4⟩:=(hrh q t).1 h2
    refine (hrh _ t).2 ⟨h3,h4.bind fun z hz=>?_⟩
    subst hz
    refine .step (.base rfl) ⟨p,hp,h0,rfl,?_⟩
    rw [Zkg (Zeu hg hp).2.2]
    exact h1
  ·rw [Zig] at hv
   have h1:Zn9 s.vanishes p.rhs=true:=hv
   rw [← Zig (s:=s) p.rhs 0] at h1
   exact (hs.cl p hp h0).2 h1
 ·rintro ⟨h1,h2⟩
  have:=rs_sub hg hs (F:=s.first x) (fun z hz=>by subst hz; exact Sub.refl _) h2
  refine this t ?_
  rw [hs.f t h1,Zi3]
  simp
theorem Zte {g:Yu5} (hl:Lg g) (hg:Yzm g=true) {s:Yu8} (hs:Zk7 g s) {row:List Yut} (hr:row.length < 2 ^ 60) (hk:Zhf g row=true):Zam g (Yxi g s) row (ofS s row 0).1:=by
 obtain ⟨hT1,hT2,hS⟩:=Zcs hg
 have hnA:nA g≤192:=by unfold nA; omega
 unfold Zam
 rw [wN hl]
 refine ⟨by omega,_,rfl,?_⟩
 rw [Int.toNat_natCast]
 obtain ⟨r,h1,h2⟩:=leads_ex hl hg hs (Zmh (List.replicate (nA g) false) + 1) (List.replicate (nA g) false) row List.length_replicate hk hr (Nat.lt_succ_self _)
 refine ⟨r,⟨_,h1⟩,?_⟩
 have hseen:∀ y:Int,ix (List.replicate (nA g) false) y=false:=fun y=>by
  cases h:ix (List.replicate (nA g) false) y with
  | false=>rfl
  | true =>
   have hlt:=ix_inB h
   rw [List.length_replicate] at hlt
   unfold ix at h
   rw [List.getD_eq_getElem?_getD,List.getElem?_eq_getElem (by rw [List.length_replicate]; exact hlt),List.getElem_replicate] at h
   cases h
 have hrr:∀ t:Nat,ix r (t:Int)=true↔Rs g (ix (Yxi g s)) (· ∈ Zbg (ix (Yxi g s)) row) (t:Int):=fun t=>by
  constructor
  ·intro h
   rcases h2.rs _ (by omega) h with h3 | h3
   ·rw [hseen] at h3; cases h3
   ·exact h3
  ·have key:∀ y,Rs g (ix (Yxi g s)) (· ∈ Zbg (ix (Yxi g s)) row) y→ix r y=true:=fun y h=>by
    induction h with
    | base h=>exact h2.hd _ h
    | step _ h4 ih=>exact h2.cl _ ih (hseen _) _ h4
   exact key _
 have e:(ofS s row 0).1=mkB (fun t=>ix r (t:Int)) g.terms.length:=by
  refine Zh2 (Zfq hs.ok U.zero) (Zrl _ _ (by omega)) fun t=>?_
  rw [Zpt _ _ (by omega),Bool.eq_iff_iff,Zep hs.ok U.zero,Bool.and_eq_true,decide_eq_true_eq,hrr,Zkg hk,Zaj]
  constructor
  ·rintro (h | ⟨q,h3,h4⟩)
   ·cases h
   ·obtain ⟨h5,h6⟩:=(Zj9 hg hs).1 h4
    exact ⟨h5,h6.bind fun z hz=>.base (by rw [hz]; exact h3)⟩
  ·rintro ⟨h3,h4⟩
   right
   have key:∀ y,Rs g (ix (Yxi g s)) (· ∈ Zbg s.vanishes row) y→∃ q ∈ Zbg s.vanishes row,Rs g (ix (Yxi g s)) (· = q) y:=fun y hy=>by
    induction hy with
    | base h=>exact ⟨_,h,.base rfl⟩
    | step _ h6 ih =>
     obtain ⟨q,h7,h8⟩:=ih
     exact ⟨q,h7,.step h8 h6⟩
   obtain ⟨q,h5,h6⟩:=key _ h4
   exact ⟨q,h5,(Zj9 hg hs).2 ⟨h3,h6⟩⟩
 rw [e]
 have key:=Yui.upto (B:=fun (q:Int × Int) o=>Ywx g r q.1 q.2 o) (r:=mkB (fun t=>ix r (t:Int)) g.terms.length) (fun j=>(mkB (fun t=>ix r (t:Int)) j,(j:Int))) g.terms.length (fun i hi=>?_) ?_
 ·exact key
 ·show Ywx g r (mkB (fun t => ix r (t : Int)) i) (i : Int) _
  have ew:IntKind.u64.wrap (i:Int)=(i:Int):=Zre ⟨by omega,by omega⟩
  unfold Ywx
  rw [if_pos (by omega),Yw3 (by omega),ew,h2.len]
  refine ⟨by unfold nA; omega,?_⟩
  show if ix r (i:Int)=true then _ else _
  by_cases h:ix r (i:Int)=true
  ·rw [if_pos h]
   refine ⟨by omega,?_⟩
   show Sum.inl (mkB (fun t=>ix r (t:Int)) (i + 1),_)=_
   rw [mkB,if_pos h,Zmy (by omega)]
   rfl
  ·rw [if_neg h]
   show Sum.inl (mkB (fun t=>ix r (t:Int)) (i + 1),_)=_
   rw [mkB,if_neg h]
   rfl
 ·show Ywx g r _ (g.terms.length:Int) _
  unfold Ywx
  rw [if_neg (by omega)]
theorem refFirst {g:Yu5} (hl:Lg g) (hg:Yzm g=true) {s:Yu8} (hs:Zk7 g s):Zci g (Yyb g s):=by
 obtain ⟨hT1,hT2,hS⟩:=Zcs hg
 have hnA:nA g≤192:=by unfold nA; omega
 refine ⟨true,hg ▸ Zqi hl,?_⟩
 rw [if_pos rfl]
 refine ⟨_,Zme hl hg hs,?_⟩
 have hfl:(Yyb g s).length=nA g:=by simp [Yyb]
 have key:=Yui.upto (B:=fun (q:(List Int) × Int) o=>Yx0 g (Yxi g s) q.1 q.2 o) (r:=Yyb g s) (fun j=>((Yyb g s).take j,(j:Int))) (nA g) (fun i hi=>?_) ?_
 ·exact key
 ·show Yx0 g (Yxi g s) ((Yyb g s).take i) (i:Int) _
  unfold Yx0
  rw [wN hl,if_pos (by omega),Yw3 (by omega)]
  have hb:=Zte hl hg hs (row:=[⟨(i:Int),⟨#[]⟩,⟨#[]⟩⟩]) (by simp) (by
   unfold Zhf Zjr
   simp only [List.all_cons,List.all_nil,Bool.and_true,Bool.and_eq_true,decide_eq_true_eq]
   unfold nA at hi
   omega)
  have e1:(ofS s [⟨(i:Int),⟨#[]⟩,⟨#[]⟩⟩] 0).1=s.first (i:Int):=by
   refine Zh2 (Zfq hs.ok U.zero) (hs.ok _) fun t=>?_
   rw [Bool.eq_iff_iff,Zep hs.ok U.zero,Zaj]
   constructor
   ·rintro (h | ⟨q,h3,h4⟩)
    ·cases h
    ·have:q=(i:Int):=by
      unfold Zbg at h3
      rcases List.mem_cons.1 h3 with h3 | h3
      ·exact h3
      ·split at h3 <;> cases h3
     rwa [this] at h4
   ·exact fun h=>.inr ⟨(i:Int),by rw [Zbg]; exact List.mem_cons_self ..,h⟩
  rw [e1] at hb
  refine ⟨_,hb,_,rfl,by rw [List.length_append,List.length_take]; simp; omega,?_⟩
  have e2:=Zog (g:=g) (s:=s) hi
  rw [Yvv (by omega)] at e2
  rw [List.take_succ_eq_append_getElem (by omega),e2]
  rfl
 ·show Yx0 g (Yxi g s) ((Yyb g s).take (nA g)) (nA g:Int) _
  unfold Yx0
  rw [wN hl,if_neg (by omega),List.take_of_length_le (by omega)]
end Go.Proofs.YtadcichlnacagaaDoor.L
