/- The books of both: built. No condition but the size. -/
import Derived.Test.YtadcichlnacagaaDoorI2
set_option linter.unusedVariables false
namespace Go.Proofs.YtadcichlnacagaaDoor.L
open Go.Proofs.YtadcichlnacagaaDoor.B Go.Proofs.YtadcichlnacagaaDoor.R
abbrev RB:=Sum (Int × (List Yuu) × (List Int) × (List (List Int))) Yuv
theorem Zqh {g:Yu5} (hb:Big g) (hr:Yxx g=true) {s:Yu8} (hs:Ok s) {p:Nat} (hp:p < g.prods.length) (ats:List Int) (ofs:List (List Int)) :
  Yzz g (p:Int) (Zb3 g s p) (Yyb g s) (Yxi g s) ats ofs (.inl ((p:Int) + 1,Zb3 g s (p + 1),ats,ofs)):=by
 have hN:=hb.n
 have hP:=hb.lg.p
 have hin:=Zcz hp (Nat.le_refl _)
 have hrow:(ix g.prods (p:Int)).rhs=Yvk g p:=rfl
 have hA:=Zeg g s p
 have l4:Yui (fun (q:Int × (List Yuu)) o=>Yxt (Zb3 g s p) g (p:Int) (Yyb g s) (Yxi g s) ats ofs q.1 q.2 o) (((Yvk g p).length:Int) - 1,Zb3 g s p++(List.range ((Yvk g p).length + 1)).map (Zes g s p (Yvk g p).length)) (.inr (.inl ((p:Int) + 1,Zb3 g s (p + 1),ats,ofs)):Sum (Int × (List Yuu)) RB):=by
  refine Yui.upto (B:=fun (q:Int × (List Yuu)) o=>Yxt (Zb3 g s p) g (p:Int) (Yyb g s) (Yxi g s) ats ofs q.1 q.2 o) (fun i=>((((Yvk g p).length - i:Nat):Int) - 1,Zb3 g s p++(List.range ((Yvk g p).length + 1)).map (Zes g s p ((Yvk g p).length - i)))) (Yvk g p).length (fun i hi=>?_) ?_
  ·show Yxt _ g (p:Int) _ _ ats ofs ((((Yvk g p).length - i:Nat):Int) - 1) _ _
   obtain ⟨d,hd⟩:∃ d,(Yvk g p).length - i=d + 1:=⟨(Yvk g p).length - i - 1,by omega⟩
   have e:(Yvk g p).length - (i + 1)=d:=by omega
   have:=Zt5 hb hr hs hp (d:=d) (by omega) (Zb3 g s p) hA ats ofs
   rw [hd,e,show ((d + 1:Nat):Int) - 1=(d:Int) by omega]
   exact this
  ·show Yxt _ g (p:Int) _ _ ats ofs ((((Yvk g p).length - (Yvk g p).length:Nat):Int) - 1) _ _
   unfold Yxt
   rw [if_neg (by omega),Yw3 (by omega),Nat.sub_self]
   have:(List.range ((Yvk g p).length + 1)).map (Zes g s p 0)=(List.range ((Yvk g p).length + 1)).map (Zcn g s p):=Zjf fun j hj=>by unfold Zes; rw [if_pos (Nat.zero_le _)]
   rw [this]
   rfl
 unfold Yzz
 have key:=Yui.upto (B:=fun (q:Int × (List Yuu)) o=>Yym g (p:Int) (Zb3 g s p) (Yyb g s) (Yxi g s) ats ofs q.1 q.2 o) (r:=(.inl ((p:Int) + 1,Zb3 g s (p + 1),ats,ofs):RB)) (fun i=>((i:Int),Zb3 g s p++(List.range i).map fun d:Nat=>(⟨(p:Int),(d:Int),-1,0,true⟩:Yuu))) ((Yvk g p).length + 1) (fun i hi=>?_) ?_
 ·simpa using key
 ·show Yym g (p:Int) _ _ _ ats ofs (i:Int) _ _
  unfold Yym
  rw [hrow,Yw3 (by omega),if_pos (by omega),Yw3 (by omega)]
  refine ⟨_,rfl,?_,?_⟩
  ·simp [hA]; omega
  ·rw [List.range_succ,List.map_append,← List.append_assoc]
   rfl
 ·show Yym g (p:Int) _ _ _ ats ofs (((Yvk g p).length + 1:Nat):Int) _ _
  unfold Yym
  rw [hrow,Yw3 (by omega),if_neg (by omega),Yyq (by omega)]
  have:(List.range ((Yvk g p).length + 1)).map (fun d:Nat=>(⟨(p:Int),(d:Int),-1,0,true⟩:Yuu))=(List.range ((Yvk g p).length + 1)).map (Zes g s p (Yvk g p).length):=Zjf fun j hj=>by
   unfold Zes
   by_cases h:(Yvk g p).length≤j
   ·have:j=(Yvk g p).length:=by omega
    rw [if_pos h,this,Zp0]
   ·rw [if_neg h]
  rw [this]
  exact l4
theorem ofL_zero (g:Yu5):Zfg g 0=List.replicate g.syms.length []:=by
 refine List.ext_getElem (by simp [Zfg]) fun i h1 h2=>?_
 simp [Zfg,ofL]
theorem Zno {g:Yu5} (hb:Big g) (hr:Yxx g=true) {s:Yu8} (hs:Zbn g s) (hG:Zk7 g s):Zcu g (Yw2 g s):=by
 have hN:=hb.n
 have hP:=hb.lg.p
 have hg:=Zft hr
 obtain ⟨t1,t2,t3,t4⟩:=Zi6 hr
 have hPN:g.prods.length≤nN g:=Zpg g _
 unfold Zcu
 refine ⟨by omega,List.replicate g.syms.length [],rfl,Yxi g s,Zrd hb.lg hg hs,Yyb g s,first_ok hb.lg hg hs,?_⟩
 have key:=Yui.upto (B:=fun (q:Int × (List Yuu) × (List Int) × (List (List Int))) o=>Yyo g (Yyb g s) (Yxi g s) q.1 q.2.1 q.2.2.1 q.2.2.2 o) (r:=Yw2 g s) (fun i=>((i:Int),Zb3 g s i,Za0 g i,Zfg g i)) g.prods.length (fun i hi=>?_) ?_
 ·rw [← ofL_zero]; exact key
 ·show Yyo g _ _ (i:Int) (Zb3 g s i) (Za0 g i) (Zfg g i) _
  have e1:Za0 g i++[((Zb3 g s i).length:Int)]=Za0 g (i + 1):=by
   rw [Zeg]; unfold Za0; rw [List.range_succ,List.map_append]; rfl
  have e2:(Zb3 g s i).length=atN g i:=Zeg g s i
  unfold Yyo
  rw [if_pos (by omega)]
  refine ⟨by omega,_,rfl,by simp [Za0]; omega,?_⟩
  rw [e1]
  by_cases h0:i=0
  ·subst h0
   have hl:=(Zso hr).1
   have:(ix g.prods ((0:Nat):Int)).lhs = -1:=hl
   rw [this,if_neg (by omega)]
   have e3:Zfg g (0 + 1)=Zfg g 0:=by
    unfold Zfg
    refine Zjf fun j hj=>?_
    show (if Zc4 g 0=(j:Int) then ofL g (j:Int) 0++[((atN g 0:Nat):Int)] else ofL g (j:Int) 0)=ofL g (j:Int) 0
    rw [if_neg (by rw [hl]; omega)]
   rw [e3]
   exact Zqh hb hr hG.ok hi _ _
  ·have hl:=Zpa hr hi h0
   have hlz:(((Zc4 g i).toNat:Nat):Int)=Zc4 g i:=Int.toNat_of_nonneg hl.1
   have hll:(Zc4 g i).toNat < g.syms.length:=by omega
   show if Zc4 g i≥0 then _ else _
   rw [if_pos (by omega)]
   have lo:(Zfg g i).length=g.syms.length:=by simp [Zfg]
   have eo:ix (Zfg g i) (Zc4 g i)=ofL g (Zc4 g i) i:=by
    rw [← hlz,Yvv (by omega)]
    simp [Zfg]
   have e3:(Zfg g i).set (Zc4 g i).toNat (ofL g (Zc4 g i) i++[((atN g i:Nat):Int)])=Zfg g (i + 1):=by
    refine List.ext_getElem (by simp [Zfg]) fun j h1 h2=>?_
    rw [List.getElem_set]
    simp only [Zfg,List.getElem_map,List.getElem_range]
    rw [ofL]
    by_cases e:(Zc4 g i).toNat=j
    ·rw [if_pos e,if_pos (by omega),← e,hlz]
    ·rw [if_neg e,if_neg (by omega)]
   have hol:=Zpu g (Zc4 g i) i
   refine ⟨⟨hl.1,by rw [lo]; exact hl.2⟩,_,rfl,?_,_,rfl,?_⟩
   ·show (ix (Zfg g i) (Zc4 g i)++_).length * 8≤_
    rw [eo]; simp; omega
   ·show Yzz g (i:Int) _ _ _ _ ((Zfg g i).set (Zc4 g i).toNat (ix (Zfg g i) (Zc4 g i)++[((Zb3 g s i).length:Int)])) _
    rw [eo,e2,e3]
    exact Zqh hb hr hG.ok hi _ _
 ·show Yyo g _ _ (g.prods.length:Int) (Zb3 g s _) (Za0 g _) (Zfg g _) _
  unfold Yyo
  rw [if_neg (by omega)]
  rfl
def Ywi (g:Yu5) (s:Yu8):Yuc:=⟨g,Yxi g s,Yyb g s,Za0 g g.prods.length,((nN g:Nat):Int)⟩
theorem Zo8 {g:Yu5} (hb:Big g) (hr:Yxx g=true) {s:Yu8} (hG:Zk7 g s):Yyh g (Ywi g s):=by
 have hN:=hb.n
 have hP:=hb.lg.p
 have hg:=Zft hr
 have hPN:g.prods.length≤nN g:=Zpg g _
 unfold Yyh
 refine ⟨_,Zme hb.lg hg hG,_,refFirst hb.lg hg hG,?_⟩
 refine Yui.upto (B:=fun (q:Int × (List Int) × Int) o=>Ywo g (Yxi g s) (Yyb g s) q.1 q.2.1 q.2.2 o) (r:=Ywi g s) (fun i=>((i:Int),Za0 g i,((atN g i:Nat):Int))) g.prods.length (fun i hi=>?_) ?_
 ·show Ywo g _ _ (i:Int) (Za0 g i) ((atN g i:Nat):Int) _
  have hin:=Zcz hi (Nat.le_refl _)
  unfold Ywo
  rw [if_pos (by omega)]
  refine ⟨Za0 g (i + 1),?_,?_,by omega,?_⟩
  ·unfold Za0; rw [List.range_succ,List.map_append]; rfl
  ·simp [Za0]; omega
  ·show Sum.inl (((i + 1:Nat):Int),Za0 g (i + 1),((atN g (i + 1):Nat):Int))=Sum.inl (_,_,w64 (w64 (((atN g i:Nat):Int) + ((Yvk g i).length:Int)) + 1))
   rw [Yw3 (by omega),Yyq (x:=((atN g i:Nat):Int) + ((Yvk g i).length:Int)) (by omega),Yyq (by omega),atN]
   congr 3
 ·show Ywo g _ _ (g.prods.length:Int) (Za0 g _) ((atN g _:Nat):Int) _
  unfold Ywo
  rw [if_neg (by omega)]
  rfl
end Go.Proofs.YtadcichlnacagaaDoor.L
