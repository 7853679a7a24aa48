/- Queries: the concrete calls that the laws begin with. No condition. -/
import Derived.Test.YtjookebbmfiidaaDoorX2
import Derived.Test.YtjookebbmfiidaaDoorSC
import Derived.Test.YtjookebbmfiidaaDoorS6
set_option linter.unusedVariables false
namespace Go.Proofs.YtjookebbmfiidaaDoor.L
open Go.Proofs.YtjookebbmfiidaaDoor.B Go.Proofs.YtjookebbmfiidaaDoor.R
abbrev sqB:ByteArray:=⟨#[40,115,32,40,97,41,32,64,120,41,32,119,104,101,110,32,64,120,32,61,32,34,121,34]⟩
def sqW:List Ak:=[⟨5,⟨#[40]⟩,0,0⟩,⟨1,⟨#[115]⟩,0,1⟩,⟨5,⟨#[40]⟩,0,3⟩,⟨1,⟨#[97]⟩,0,4⟩,⟨5,⟨#[41]⟩,0,5⟩,⟨5,⟨#[64]⟩,0,7⟩,⟨1,⟨#[120]⟩,0,8⟩,⟨5,⟨#[41]⟩,0,9⟩,⟨1,⟨#[119,104,101,110]⟩,0,11⟩,⟨5,⟨#[64]⟩,0,16⟩,⟨1,⟨#[120]⟩,0,17⟩,⟨5,⟨#[61]⟩,0,19⟩,⟨2,⟨#[121]⟩,0,21⟩]
theorem sq_cut:cutF (Dq sqB) 0=(sqW,0,0):=by
 rw [show Dq sqB=[40,115,32,40,97,41,32,64,120,41,32,119,104,101,110,32,64,120,32,61,32,34,121,34] by decide]
 have f1:cutF [34,121,34] 21=([⟨2,⟨#[121]⟩,0,21⟩],0,0):=Wp (kd:=2) (t:=[121]) (n:=0) (k:=3) (by
   show (match quF [121,34] with
    | .inl (t,k)=>Item.word 2 t 0 (k + 1)
    | .inr none=>.err 82 0
    | .inr (some d)=>.err 82 (d + 1))=_
   rw [quF_o (by decide) (by decide) (by decide),Xiv]
   rfl) (Xgy _)
 have f2:cutF [32,34,121,34] 20=([⟨2,⟨#[121]⟩,0,21⟩],0,0):=Xet (k:=1) (by rfl) f1
 have f3:cutF [61,32,34,121,34] 19=([⟨5,⟨#[61]⟩,0,19⟩,⟨2,⟨#[121]⟩,0,21⟩],0,0):=Wp (kd:=5) (t:=[61]) (n:=0) (k:=1) (by rfl) f2
 have f4:cutF [32,61,32,34,121,34] 18=([⟨5,⟨#[61]⟩,0,19⟩,⟨2,⟨#[121]⟩,0,21⟩],0,0):=Xet (k:=1) (by rfl) f3
 have f5:cutF [120,32,61,32,34,121,34] 17=([⟨1,⟨#[120]⟩,0,17⟩,⟨5,⟨#[61]⟩,0,19⟩,⟨2,⟨#[121]⟩,0,21⟩],0,0):=Wp (kd:=1) (t:=[120]) (n:=0) (k:=1) (by rfl) f4
 have f6:cutF [64,120,32,61,32,34,121,34] 16=([⟨5,⟨#[64]⟩,0,16⟩,⟨1,⟨#[120]⟩,0,17⟩,⟨5,⟨#[61]⟩,0,19⟩,⟨2,⟨#[121]⟩,0,21⟩],0,0):=Wp (kd:=5) (t:=[64]) (n:=0) (k:=1) (by rfl) f5
 have f7:cutF [32,64,120,32,61,32,34,121,34] 15=([⟨5,⟨#[64]⟩,0,16⟩,⟨1,⟨#[120]⟩,0,17⟩,⟨5,⟨#[61]⟩,0,19⟩,⟨2,⟨#[121]⟩,0,21⟩],0,0):=Xet (k:=1) (by rfl) f6
 have f8:cutF [119,104,101,110,32,64,120,32,61,32,34,121,34] 11=([⟨1,⟨#[119,104,101,110]⟩,0,11⟩,⟨5,⟨#[64]⟩,0,16⟩,⟨1,⟨#[120]⟩,0,17⟩,⟨5,⟨#[61]⟩,0,19⟩,⟨2,⟨#[121]⟩,0,21⟩],0,0):=Wp (kd:=1) (t:=[119,104,101,110]) (n:=0) (k:=4) (by rfl) f7
 have f9:cutF [32,119,104,101,110,32,64,120,32,61,32,34,121,34] 10=([⟨1,⟨#[119,104,101,110]⟩,0,11⟩,⟨5,⟨#[64]⟩,0,16⟩,⟨1,⟨#[120]⟩,0,17⟩,⟨5,⟨#[61]⟩,0,19⟩,⟨2,⟨#[121]⟩,0,21⟩],0,0):=Xet (k:=1) (by rfl) f8
 have f10:cutF [41,32,119,104,101,110,32,64,120,32,61,32,34,121,34] 9=([⟨5,⟨#[41]⟩,0,9⟩,⟨1,⟨#[119,104,101,110]⟩,0,11⟩,⟨5,⟨#[64]⟩,0,16⟩,⟨1,⟨#[120]⟩,0,17⟩,⟨5,⟨#[61]⟩,0,19⟩,⟨2,⟨#[121]⟩,0,21⟩],0,0):=Wp (kd:=5) (t:=[41]) (n:=0) (k:=1) (by rfl) f9
 have f11:cutF [120,41,32,119,104,101,110,32,64,120,32,61,32,34,121,34] 8=([⟨1,⟨#[120]⟩,0,8⟩,⟨5,⟨#[41]⟩,0,9⟩,⟨1,⟨#[119,104,101,110]⟩,0,11⟩,⟨5,⟨#[64]⟩,0,16⟩,⟨1,⟨#[120]⟩,0,17⟩,⟨5,⟨#[61]⟩,0,19⟩,⟨2,⟨#[121]⟩,0,21⟩],0,0):=Wp (kd:=1) (t:=[120]) (n:=0) (k:=1) (by rfl) f10
 have f12:cutF [64,120,41,32,119,104,101,110,32,64,120,32,61,32,34,121,34] 7=([⟨5,⟨#[64]⟩,0,7⟩,⟨1,⟨#[120]⟩,0,8⟩,⟨5,⟨#[41]⟩,0,9⟩,⟨1,⟨#[119,104,101,110]⟩,0,11⟩,⟨5,⟨#[64]⟩,0,16⟩,⟨1,⟨#[120]⟩,0,17⟩,⟨5,⟨#[61]⟩,0,19⟩,⟨2,⟨#[121]⟩,0,21⟩],0,0):=Wp (kd:=5) (t:=[64]) (n:=0) (k:=1) (by rfl) f11
 have f13:cutF [32,64,120,41,32,119,104,101,110,32,64,120,32,61,32,34,121,34] 6=([⟨5,⟨#[64]⟩,0,7⟩,⟨1,⟨#[120]⟩,0,8⟩,⟨5,⟨#[41]⟩,0,9⟩,⟨1,⟨#[119,104,101,110]⟩,0,11⟩,⟨5,⟨#[64]⟩,0,16⟩,⟨1,⟨#[120]⟩,0,17⟩,⟨5,⟨#[61]⟩,0,19⟩,⟨2,⟨#[121]⟩,0,21⟩],0,0):=Xet (k:=1) (by rfl) f12
 have f14:cutF [41,32,64,120,41,32,119,104,101,110,32,64,120,32,61,32,34,121,34] 5=([⟨5,⟨#[41]⟩,0,5⟩,⟨5,⟨#[64]⟩,0,7⟩,⟨1,⟨#[120]⟩,0,8⟩,⟨5,⟨#[41]⟩,0,9⟩,⟨1,⟨#[119,104,101,110]⟩,0,11⟩,⟨5,⟨#[64]⟩,0,16⟩,⟨1,⟨#[120]⟩,0,17⟩,⟨5,⟨#[61]⟩,0,19⟩,⟨2,⟨#[121]⟩,0,21⟩],0,0):=Wp (kd:=5) (t:=[41]) (n:=0) (k:=1) (by rfl) f13
 have f15:cutF [97,41,32,64,120,41,32,119,104,101,110,32,64,120,32,61,32,34,121,34] 4=([⟨1,⟨#[97]⟩,0,4⟩,⟨5,⟨#[41]⟩,0,5⟩,⟨5,⟨#[64]⟩,0,7⟩,⟨1,⟨#[120]⟩,0,8⟩,⟨5,⟨#[41]⟩,0,9⟩,⟨1,⟨#[119,104,101,110]⟩,0,11⟩,⟨5,⟨#[64]⟩,0,16⟩,⟨1,⟨#[120]⟩,0,17⟩,⟨5,⟨#[61]⟩,0,19⟩,⟨2,⟨#[121]⟩,0,21⟩],0,0):=Wp (kd:=1) (t:=[97]) (n:=0) (k:=1) (by rfl) f14
 have f16:cutF [40,97,41,32,64,120,41,32,119,104,101,110,32,64,120,32,61,32,34,121,34] 3=([⟨5,⟨#[40]⟩,0,3⟩,⟨1,⟨#[97]⟩,0,4⟩,⟨5,⟨#[41]⟩,0,5⟩,⟨5,⟨#[64]⟩,0,7⟩,⟨1,⟨#[120]⟩,0,8⟩,⟨5,⟨#[41]⟩,0,9⟩,⟨1,⟨#[119,104,101,110]⟩,0,11⟩,⟨5,⟨#[64]⟩,0,16⟩,⟨1,⟨#[120]⟩,0,17⟩,⟨5,⟨#[61]⟩,0,19⟩,⟨2,⟨#[121]⟩,0,21⟩],0,0):=Wp (kd:=5) (t:=[40]) (n:=0) (k:=1) (by rfl) f15
 have f17:cutF [32,40,97,41,32,64,120,41,32,119,104,101,110,32,64,120,32,61,32,34,121,34] 2=([⟨5,⟨#[40]⟩,0,3⟩,⟨1,⟨#[97]⟩,0,4⟩,⟨5,⟨#[41]⟩,0,5⟩,⟨5,⟨#[64]⟩,0,7⟩,⟨1,⟨#[120]⟩,0,8⟩,⟨5,⟨#[41]⟩,0,9⟩,⟨1,⟨#[119,104,101,110]⟩,0,11⟩,⟨5,⟨#[64]⟩,0,16⟩,⟨1,⟨#[120]⟩,0,17⟩,⟨5,⟨#[61]⟩,0,19⟩,⟨2,⟨#[121]⟩,0,21⟩],0,0):=Xet (k:=1) (by rfl) f16
 have f18:cutF [115,32,40,97,41,32,64,120,41,32,119,104,101,110,32,64,120,32,61,32,34,121,34] 1=([⟨1,⟨#[115]⟩,0,1⟩,⟨5,⟨#[40]⟩,0,3⟩,⟨1,⟨#[97]⟩,0,4⟩,⟨5,⟨#[41]⟩,0,5⟩,⟨5,⟨#[64]⟩,0,7⟩,⟨1,⟨#[120]⟩,0,8⟩,⟨5,⟨#[41]⟩,0,9⟩,⟨1,⟨#[119,104,101,110]⟩,0,11⟩,⟨5,⟨#[64]⟩,0,16⟩,⟨1,⟨#[120]⟩,0,17⟩,⟨5,⟨#[61]⟩,0,19⟩,⟨2,⟨#[121]⟩,0,21⟩],0,0):=Wp (kd:=1) (t:=[115]) (n:=0) (k:=1) (by rfl) f17
 have f19:cutF [40,115,32,40,97,41,32,64,120,41,32,119,104,101,110,32,64,120,32,61,32,34,121,34] 0=([⟨5,⟨#[40]⟩,0,0⟩,⟨1,⟨#[115]⟩,0,1⟩,⟨5,⟨#[40]⟩,0,3⟩,⟨1,⟨#[97]⟩,0,4⟩,⟨5,⟨#[41]⟩,0,5⟩,⟨5,⟨#[64]⟩,0,7⟩,⟨1,⟨#[120]⟩,0,8⟩,⟨5,⟨#[41]⟩,0,9⟩,⟨1,⟨#[119,104,101,110]⟩,0,11⟩,⟨5,⟨#[64]⟩,0,16⟩,⟨1,⟨#[120]⟩,0,17⟩,⟨5,⟨#[61]⟩,0,19⟩,⟨2,⟨#[121]⟩,0,21⟩],0,0):=Wp (kd:=5) (t:=[40]) (n:=0) (k:=1) (by rfl) f18
 exact f19
abbrev sqX:Ag:=⟨⟨#[115]⟩,false,noB,noB,1⟩
abbrev sqK:PF:=.cons ⟨⟨#[97]⟩,false,noB,⟨#[120]⟩,0⟩ .nil .nil
abbrev sqC:List Bh:=[⟨false,⟨#[120]⟩,noB,⟨#[121]⟩⟩]
theorem sq_toks:Xfx sqW=Us sqX sqK sqC:=by decide +kernel
theorem Xc3:Na nmQ sqX sqK sqC:=by
 refine ⟨⟨rfl,⟨rfl,trivial,trivial⟩,trivial⟩,by decide +kernel,by decide +kernel,by decide,by decide,fun c hc=>?_⟩
 rw [List.mem_singleton.1 hc]
 exact ⟨Xc0.1 (by decide +kernel),.inl rfl⟩
theorem sq_sz:SzQ ⟨sqX :: Bo sqK,sqC⟩:=by
 refine ⟨fun x hx=>?_,fun c hc=>?_⟩
 ·rcases List.mem_cons.1 hx with rfl | hx
  ·exact ⟨by decide,by decide,by decide⟩
  ·rw [List.mem_singleton.1 hx]
   exact ⟨by decide,by decide,by decide⟩
 ·rw [List.mem_singleton.1 hc]
  exact ⟨by decide,by decide,by decide⟩
theorem sq_parse:Xg sqB (⟨sqX :: Bo sqK,sqC⟩,0,0):=by
 have h:=cut_ok (s:=sqB) (by decide)
 rw [sq_cut] at h
 have hp:=parse_ok h (show sqW.length≤2 ^ 40 by decide)
 unfold Xm0 at hp
 rw [if_pos rfl] at hp
 dsimp only at hp
 rw [sq_toks,Xm4 nmQ_nm Xc3] at hp
 exact hp
theorem sq_text:textQ sqX sqK sqC=⟨#[40,32,115,32,40,32,97,32,41,32,64,32,120,32,41,32,119,104,101,110,32,64,32,120,32,61,32,34,121,34]⟩:=by decide +kernel
abbrev sqT:List Az:=[(⟨(⟨#[115]⟩:ByteArray),true,(⟨#[]⟩:ByteArray),0,2,2,-1⟩:Az),(⟨(⟨#[97]⟩:ByteArray),true,(⟨#[]⟩:ByteArray),0,1,0,0⟩:Az),(⟨(⟨#[97]⟩:ByteArray),true,(⟨#[]⟩:ByteArray),1,2,0,1⟩:Az)]
theorem sq_all1:Wh sqX sqK sqC sqT ⟨#[121,122]⟩=[⟨[0,1]⟩]:=by decide +kernel
theorem sq_all2:Wh sqX sqK sqC sqT ⟨#[122,121]⟩=[]:=by decide +kernel
theorem Xfc {a:List Int} (h:a.length≤2 ^ 60):J8 a a true:=by
 unfold J8
 rw [if_pos rfl]
 refine Bl.cnt a.length (fun i hi=>?_) ?_
 ·unfold Hy
  rw [if_pos (by omega)]
  refine ⟨⟨by omega,by omega⟩,⟨by omega,by omega⟩,?_⟩
  rw [if_pos rfl,Dn (by omega)]
 ·unfold Hy
  rw [if_neg (Int.lt_irrefl _)]
theorem qstarted:Ot true:=by
 refine ⟨_,sq_parse,?_⟩
 dsimp only
 rw [if_pos rfl,if_pos rfl,if_pos (by decide)]
 unfold He
 have hw:Wf sqT:=fun n hn=>by
  rcases List.mem_cons.1 hn with rfl | hn
  ·exact ⟨by decide,by decide⟩
  rcases List.mem_cons.1 hn with rfl | hn
  ·exact ⟨by decide,by decide⟩
  ·rw [List.mem_singleton.1 hn]
   exact ⟨by decide,by decide⟩
 have hr:0≤numF sqT:=by decide +kernel
 have a1:=Xe2 Xc3 sq_sz.w (t:=sqT) (by decide) hw hr ⟨#[121,122]⟩
 have a2:=Xe2 Xc3 sq_sz.w (t:=sqT) (by decide) hw hr ⟨#[122,121]⟩
 rw [sq_all1] at a1
 rw [sq_all2] at a2
 rw [if_neg (by decide)]
 refine ⟨_,a1,_,a2,_,Xj0 Xc3 sq_sz,?_⟩
 rw [if_pos (by decide)]
 refine ⟨⟨by decide,by decide⟩,true,Xfc (a:=[0,1]) (by decide),?_⟩
 rw [if_pos rfl,if_pos (by decide),if_pos rfl,sq_text,Qw rfl]
end Go.Proofs.YtjookebbmfiidaaDoor.L
set_option linter.unusedVariables false
namespace Go.Proofs.YtjookebbmfiidaaDoor.L
open Go.Proofs.YtjookebbmfiidaaDoor.B Go.Proofs.YtjookebbmfiidaaDoor.R
end Go.Proofs.YtjookebbmfiidaaDoor.L
set_option linter.unusedVariables false
namespace Go.Proofs.YtjookebbmfiidaaDoor.L
open Go.Proofs.YtjookebbmfiidaaDoor.B Go.Proofs.YtjookebbmfiidaaDoor.R
end Go.Proofs.YtjookebbmfiidaaDoor.L
set_option linter.unusedVariables false
namespace Go.Proofs.YtjookebbmfiidaaDoor.L
open Go.Proofs.YtjookebbmfiidaaDoor.B Go.Proofs.YtjookebbmfiidaaDoor.R
end Go.Proofs.YtjookebbmfiidaaDoor.L
set_option linter.unusedVariables false
namespace Go.Proofs.YtjookebbmfiidaaDoor.L
open Go.Proofs.YtjookebbmfiidaaDoor.B Go.Proofs.YtjookebbmfiidaaDoor.R
theorem Xjd {a:List Bq} (h:a.length≤2 ^ 60) (hs:∀ f ∈ a,f.nodes.length≤2 ^ 60):Kq a a true:=by
 unfold Kq
 rw [if_pos rfl]
 refine Bl.cnt a.length (fun i hi=>?_) ?_
 ·unfold Hl
  rw [if_pos (by omega)]
  refine ⟨⟨by omega,by omega⟩,⟨by omega,by omega⟩,true,Xfc (hs _ (Xf0 hi)),?_⟩
  rw [if_pos rfl,Dn (by omega)]
 ·unfold Hl
  rw [if_neg (Int.lt_irrefl _)]
theorem allF_mem {x:Ag} {k:PF} {cs:List Bh} {t:List Az} {s:ByteArray} {f:Bq} (h:f ∈ Wh x k cs t s):f.nodes.length=(x :: Bo k).length∧Range t f.nodes:=by
 unfold Wh at h
 obtain ⟨v,hv,he⟩:=List.mem_filterMap.1 h
 rw [List.mem_range] at hv
 unfold Qr at he
 cases e:atN t x k (v:Int) with
 | none=>rw [e] at he; cases he
 | some l =>
  rw [e] at he
  dsimp only at he
  obtain ⟨l1,_,l3⟩:=Ye (x:=x) (k:=k) ⟨Int.natCast_nonneg v,by omega⟩ e
  split at he
  ·cases he
  ·injection he with he
   subst he
   exact ⟨by rw [l1,List.length_cons],l3⟩
theorem Xl1 (x:Ag) (k:PF) (cs:List Bh) (t:List Az) (s:ByteArray):(Wh x k cs t s).length≤t.length:=by
 have:=List.length_filterMap_le (Qr (x :: Bo k) cs t s x k) (List.range t.length)
 rwa [List.length_range] at this
theorem Na.bare {x:Ag} {k:PF} {cs:List Bh} (h:Na nmQ x k cs):Na nmQ x k []:=by
 obtain ⟨h1,h2,h3,h4,h5,h6⟩:=h
 exact ⟨h1,h2,h3,h4,Nat.zero_le _,fun c hc=>by cases hc⟩
end Go.Proofs.YtjookebbmfiidaaDoor.L
set_option linter.unusedVariables false
namespace Go.Proofs.YtjookebbmfiidaaDoor.L
open Go.Proofs.YtjookebbmfiidaaDoor.B Go.Proofs.YtjookebbmfiidaaDoor.R
theorem Xga (c:ByteArray) (l:List ByteArray):We c l=We c []++l:=by
 unfold We
 split <;> rfl
theorem Xc2:∀ (g:PF) (l:List ByteArray),Hg g l=Hg g []++l
 | .nil,l=>rfl
 | .cons x k s,l=>by
  show Hg s (We x.capture (Hg k l))=Hg s (We x.capture (Hg k []))++l
  rw [Xc2 s,Xc2 s (We x.capture (Hg k [])),Xga,Xga x.capture (Hg k []),Xc2 k l]
  simp only [List.append_assoc]
theorem Yl (x:Ag) (k s:PF):Hg (.cons x k s) []=Hg s []++(We x.capture []++Hg k []):=by
 show Hg s (We x.capture (Hg k []))=_
 rw [Xc2 s,Xga]
structure Xkl (s:PF):Prop where
 fit:Xbq s
 good:Ro nmQ s=true
 nd:(Hg s []).Nodup
 len:(Bo s).length≤31
theorem Xn7 {x:Ag} {k s:PF} (h:Ro nmQ (.cons x k s)=true):Ro nmQ (.cons x k .nil)=true:=by
 simp only [Ro,Bool.and_eq_true,Bool.and_true] at h ⊢
 exact h.1
theorem Xkl.cons {y:Ag} {k s:PF} (h:Xkl (.cons y k s)):Na nmQ y k []∧Xkl s:=by
 obtain ⟨⟨f1,f2,f3⟩,h2,h3,h4⟩:=h
 rw [Yl] at h3
 simp only [Bo,List.length_cons,List.length_append] at h4
 obtain ⟨n1,n2,_⟩:=List.nodup_append.1 h3
 refine ⟨⟨⟨f1,f2,trivial⟩,Xn7 h2,?_,?_,Nat.zero_le _,fun c hc=>by cases hc⟩,⟨f3,(Qa h2).2.2.2.2.2,n1,by omega⟩⟩
 ·rw [Yl]
  exact n2
 ·simp only [Bo,List.length_cons,List.append_nil]
  omega
theorem Na.sub {x:Ag} {k:PF} {l:List Bh} (h:Na nmQ x k l):Xkl k:=by
 have h0:=h.len.1
 obtain ⟨⟨f1,f2,_⟩,h2,h3,h4,h5,h6⟩:=h
 rw [Yl] at h3
 exact ⟨f2,(Qa h2).2.2.2.2.1,(List.nodup_append.1 (List.nodup_append.1 h3).2.1).2.1,by omega⟩
theorem Na.head {x:Ag} {k:PF} {l:List Bh} (h:Na nmQ x k l):Na nmQ ⟨x.name,x.lit,x.field,x.capture,0⟩ .nil []:=by
 obtain ⟨h1,h2,h3,h4,h5,h6⟩:=h
 obtain ⟨g1,g2,g3,g4,g5,g6⟩:=Qa h2
 rw [Yl] at h3
 have n1:=(List.nodup_append.1 (List.nodup_append.1 h3).2.1).1
 refine ⟨⟨rfl,trivial,trivial⟩,?_,?_,by simp [Bo],Nat.zero_le _,fun c hc=>by cases hc⟩
 ·simp only [Ro,Bool.and_eq_true,Bool.or_eq_true,decide_eq_true_eq,Bool.and_true] at h2 ⊢
  refine ⟨⟨?_,g3⟩,g4⟩
  by_cases g:x.lit=true
  ·rw [if_pos g,decide_eq_false (g1 g).1]; rfl
  ·rw [if_neg g]
   simp only [Bool.or_eq_true,decide_eq_true_eq]
   exact g2 (by simpa using g)
 ·rw [Yl]
  simpa [Hg] using n1
theorem Xg6 {ns : List Ag} {x6 : Int} (hn : ns.length ≤ 2 ^ 20) : ∀ (g : PF) (a b : List Ag) (need : Nat) (r : Ar × Int), ns = a ++ (Bo g ++ b) → Xbq g → need + (Bo g).length ≤ 2 ^ 30 → Bl (fun (s : Int × Int) o => Gl ns x6 s.1 s.2 o) ((need : Int), ((a.length + (Bo g).length : Nat) : Int)) r → Bl (fun (s : Int × Int) o => Gl ns x6 s.1 s.2 o) (((need + I8 g : Nat) : Int), (a.length : Int)) r
 | .nil,a,b,need,r,h,hf,hd,hr=>hr
 | .cons x k s,a,b,need,r,h,hf,hd,hr=>by
  obtain ⟨f1,f2,f3⟩:=hf
  have h1:ns=a++x :: (Bo k++(Bo s++b)):=by rw [h]; simp [Bo]
  obtain ⟨ha,hx⟩:=ix_app h1
  have h2:ns=(a++[x])++(Bo k++(Bo s++b)):=by rw [h1]; simp
  have h3:ns=(a++x :: Bo k)++(Bo s++b):=by rw [h1]; simp
  have hk:=Z8 k
  have hs:=Z8 s
  have hl:=congrArg List.length h1
  simp only [List.length_append,List.length_cons] at hl
  have e1:a.length + (Bo (.cons x k s)).length=(a++x :: Bo k).length + (Bo s).length:=by simp only [Bo,List.length_append,List.length_cons]; omega
  rw [e1] at hr
  have e0:(Bo (.cons x k s)).length=(Bo k).length + 1 + (Bo s).length:=by simp only [Bo,List.length_append,List.length_cons]; omega
  have r1:=Xg6 hn s (a++x :: Bo k) b need r h3 f3 (by omega) hr
  have e2:(a++x :: Bo k).length=(a++[x]).length + (Bo k).length:=by simp only [List.length_append,List.length_cons,List.length_nil]; omega
  rw [e2] at r1
  have r2:=Xg6 hn k (a++[x]) (Bo s++b) (need + I8 s) r h2 f2 (by omega) r1
  refine .next ?_ r2
  show Gl ns x6 ((need + (I8 s + 1):Nat):Int) (a.length:Int) _
  unfold Gl
  rw [if_pos (by omega),if_pos (by omega),hx,f1]
  refine ⟨⟨by omega,by omega⟩,?_⟩
  rw [Dn (x:=((need + (I8 s + 1):Nat):Int) - 1) (by omega),Dn (by omega),Dn (by omega)]
  have e3:((need + (I8 s + 1):Nat):Int) - 1 + (I8 k:Int)=((need + I8 s + I8 k:Nat):Int):=by omega
  have e4:(a.length:Int) + 1=((a++[x]).length:Int):=by rw [List.length_append,List.length_cons,List.length_nil]; omega
  rw [e3,e4]
theorem part_ok {ns:List Ag} (hn:ns.length≤2 ^ 20) {y:Ag} {k:PF} {a b:List Ag} (h:ns=a++(y :: Bo k++b)) (hf:Xbq (.cons y k .nil)):Ru ns (a.length:Int) (⟨y :: Bo k,[]⟩,((y :: Bo k).length:Int)):=by
 have hl:=congrArg List.length h
 simp only [List.length_append] at hl
 have h1:ns=a++(Bo (.cons y k .nil)++b):=by rw [h]; simp [Bo]
 have e1:Bo (.cons y k .nil)=y :: Bo k:=by simp [Bo]
 refine Xg6 hn (.cons y k .nil) a b 0 _ h1 hf (by rw [e1]; omega) ?_
 rw [e1]
 generalize hseg:y :: Bo k=seg at h hl
 refine .done ?_
 dsimp only
 unfold Gl
 rw [if_neg (by simp)]
 have key:∀ (d m:Nat),seg.length - m=d→m≤seg.length→Bl (fun (s:Int × (List Ag)) o=>Ii ((a.length + seg.length:Nat):Int) ns (a.length:Int) s.1 s.2 o) (((a.length + m:Nat):Int),seg.take m) (.inr (⟨seg,[]⟩,(seg.length:Int))):=by
  intro d
  induction d with
  | zero =>
   intro m hd hm
   have:m=seg.length:=by omega
   subst this
   refine .done ?_
   dsimp only
   unfold Ii
   rw [if_neg (Int.lt_irrefl _),List.take_length,Dn (by omega)]
   have e2:((a.length + seg.length:Nat):Int) - (a.length:Int)=(seg.length:Int):=by omega
   rw [e2]
  | succ d ih =>
   intro m hd hm
   have hlt:m < seg.length:=by omega
   have hx:ix ns ((a.length + m:Nat):Int)=seg[m]:=by
    rw [Wi (by omega)]
    simp only [h]
    rw [List.getElem_append_right (by omega),List.getElem_append_left (by omega)]
    congr 1
    omega
   refine .next ?_ (ih (m + 1) (by omega) (by omega))
   dsimp only
   unfold Ii
   rw [if_pos (by omega),hx]
   refine ⟨⟨by omega,by omega⟩,_,rfl,by rw [List.length_append,List.length_take,List.length_cons,List.length_nil]; omega,?_⟩
   rw [Dn (by omega),List.take_succ_eq_append_getElem hlt]
   rfl
 have:=key seg.length 0 rfl (Nat.zero_le _)
 rw [List.take_zero] at this
 exact this
theorem Xnq {L:List Bq} (hL:L.length≤2 ^ 60) (hne:∀ f ∈ L,f.nodes≠[]) (c:Int):Ld L c (match L.find? (fun f=>decide (ix f.nodes 0=c)) with
  | some f=>f.nodes
  | none=>[]):=by
 have key:∀ (d i:Nat),L.length - i=d→i≤L.length→Bl (fun (s:Int) o=>H5 L c s o) (i:Int) (match (L.drop i).find? (fun f=>decide (ix f.nodes 0=c)) with
  | some f=>f.nodes
  | none=>[]):=by
  intro d
  induction d with
  | zero =>
   intro i hd hi
   have:i=L.length:=by omega
   subst this
   refine .done ?_
   unfold H5
   rw [if_neg (Int.lt_irrefl _),List.drop_length]
   rfl
  | succ d ih =>
   intro i hd hi
   have hlt:i < L.length:=by omega
   have hix:=Wi hlt
   have hn:=hne _ (List.getElem_mem hlt)
   have hp:0 < L[i].nodes.length:=List.length_pos_iff.2 hn
   rw [List.drop_eq_getElem_cons hlt,List.find?_cons]
   by_cases g:ix L[i].nodes 0=c
   ·refine .done ?_
    rw [decide_eq_true g]
    unfold H5
    rw [if_pos (by omega),hix,if_pos (by omega),if_pos g]
    exact ⟨⟨by omega,by omega⟩,⟨by omega,by omega⟩,hn,rfl⟩
   ·refine .next ?_ (by rw [decide_eq_false g]; exact ih (i + 1) (by omega) (by omega))
    unfold H5
    rw [if_pos (by omega),hix,if_pos (by omega),if_neg g,Dn (by omega)]
    exact ⟨⟨by omega,by omega⟩,⟨by omega,by omega⟩,rfl⟩
 have:=key L.length 0 rfl (Nat.zero_le _)
 rw [List.drop_zero] at this
 exact this
theorem Xmn {F : Nat → Option Bq} (c : Nat) : ∀ vs : List Nat, (∀ v ∈ vs, ∀ f, F v = some f → ix f.nodes 0 = (v : Int)) → (vs.filterMap F).find? (fun f => decide (ix f.nodes 0 = (c : Int))) = if c ∈ vs then F c else none
 | [],_=>by simp
 | v :: vs,hF=>by
  have ih:=Xmn c vs (fun w hw=>hF w (List.mem_cons_of_mem _ hw))
  rw [List.filterMap_cons]
  cases e:F v with
  | none =>
   dsimp only
   rw [ih]
   by_cases g:c=v
   ·subst g
    rw [e]
    simp
   ·simp [g]
  | some f =>
   dsimp only
   rw [List.find?_cons,hF v (List.mem_cons_self ..) f e]
   by_cases g:v=c
   ·subst g
    rw [decide_eq_true rfl,e]
    simp
   ·rw [decide_eq_false (by omega), ih]
    have:c≠v:=fun h=>g h.symm
    simp [this]
theorem Xec (x:Ag) (k:PF) (t:List Az) (s:ByteArray) (v:Nat):Qr (x :: Bo k) [] t s x k v=(atN t x k (v:Int)).map fun l=>⟨l⟩:=by
 unfold Qr
 cases atN t x k (v:Int) with
 | none=>rfl
 | some l =>
  show (if ([]:List Bh).any (badC (x :: Bo k) t s l)=true then none else some (⟨l⟩:Bq))=_
  exact if_neg (by simp)
theorem Xkz {x:Ag} {k:PF} {t:List Az} (hl:Xca t) (s:ByteArray) {c:Int} (hc:0≤c∧c < (t.length:Int)):Ld (Wh x k [] t s) c ((atN t x k c).getD []):=by
 have hft:=hl
 obtain ⟨v,rfl⟩:∃ v:Nat,c=(v:Int):=⟨c.toNat,by omega⟩
 have hstep:∀ w:Nat,w < t.length→∀ f,Qr (x :: Bo k) [] t s x k w=some f→ix f.nodes 0=(w:Int)∧f.nodes≠[]:=fun w hw f h=>by
  rw [Xec] at h
  cases e:atN t x k (w:Int) with
  | none=>rw [e] at h; cases h
  | some l =>
   rw [e] at h
   obtain ⟨_,⟨l',e2⟩,_⟩:=Ye (x:=x) (k:=k) ⟨Int.natCast_nonneg w,by omega⟩ e
   injection h with h
   subst h e2
   exact ⟨rfl,by simp⟩
 have h:=Xnq (L:=Wh x k [] t s) (by have:=Xl1 x k [] t s; omega) (fun f hf=>by
  obtain ⟨w,hw,he⟩:=List.mem_filterMap.1 hf
  exact (hstep w (List.mem_range.1 hw) f he).2) (v:Int)
 have e2:(Wh x k [] t s).find? (fun f=>decide (ix f.nodes 0=(v:Int)))=Qr (x :: Bo k) [] t s x k v:=by
  unfold Wh
  rw [Xmn v _ (fun w hw f hf=>(hstep w (List.mem_range.1 hw) f hf).1),if_pos (List.mem_range.2 (by omega))]
 rw [e2,Xec] at h
 cases e:atN t x k (v:Int) with
 | none=>rw [e] at h; exact h
 | some l=>rw [e] at h; exact h
end Go.Proofs.YtjookebbmfiidaaDoor.L
