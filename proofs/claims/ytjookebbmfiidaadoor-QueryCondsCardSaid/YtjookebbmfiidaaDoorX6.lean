/- Queries: the concrete calls that the laws begin with. No condition. -/
import Derived.Test.YtjookebbmfiidaaDoorX2
import Derived.Test.YtjookebbmfiidaaDoorSC
import Derived.Test.YtjookebbmfiidaaDoorS6
set_option linter.unusedVariables false
namespace Go.Proofs.YtjookebbmfiidaaDoor.L
open Go.Proofs.YtjookebbmfiidaaDoor.B Go.Proofs.YtjookebbmfiidaaDoor.R
abbrev sqB:ByteArray:=⟨#[40,115,32,40,97,41,32,64,120,41,32,119,104,101,110,32,64,120,32,61,32,34,121,34]⟩
def sqW:List Ak:=[⟨5,⟨#[40]⟩,0,0⟩,⟨1,⟨#[115]⟩,0,1⟩,⟨5,⟨#[40]⟩,0,3⟩,⟨1,⟨#[97]⟩,0,4⟩,⟨5,⟨#[41]⟩,0,5⟩,⟨5,⟨#[64]⟩,0,7⟩,⟨1,⟨#[120]⟩,0,8⟩,⟨5,⟨#[41]⟩,0,9⟩,⟨1,⟨#[119,104,101,110]⟩,0,11⟩,⟨5,⟨#[64]⟩,0,16⟩,⟨1,⟨#[120]⟩,0,17⟩,⟨5,⟨#[61]⟩,0,19⟩,⟨2,⟨#[121]⟩,0,21⟩]
theorem sq_cut:cutF (Dk sqB) 0=(sqW,0,0):=by
 rw [show Dk sqB=[40,115,32,40,97,41,32,64,120,41,32,119,104,101,110,32,64,120,32,61,32,34,121,34] by decide]
 have f1:cutF [34,121,34] 21=([⟨2,⟨#[121]⟩,0,21⟩],0,0):=Wn (kd:=2) (t:=[121]) (n:=0) (k:=3) (by
   show (match quF [121,34] with
    | .inl (t,k)=>Item.word 2 t 0 (k + 1)
    | .inr none=>.err 82 0
    | .inr (some d)=>.err 82 (d + 1))=_
   rw [quF_o (by decide) (by decide) (by decide),Xjh]
   rfl) (Xgo _)
 have f2:cutF [32,34,121,34] 20=([⟨2,⟨#[121]⟩,0,21⟩],0,0):=Xef (k:=1) (by rfl) f1
 have f3:cutF [61,32,34,121,34] 19=([⟨5,⟨#[61]⟩,0,19⟩,⟨2,⟨#[121]⟩,0,21⟩],0,0):=Wn (kd:=5) (t:=[61]) (n:=0) (k:=1) (by rfl) f2
 have f4:cutF [32,61,32,34,121,34] 18=([⟨5,⟨#[61]⟩,0,19⟩,⟨2,⟨#[121]⟩,0,21⟩],0,0):=Xef (k:=1) (by rfl) f3
 have f5:cutF [120,32,61,32,34,121,34] 17=([⟨1,⟨#[120]⟩,0,17⟩,⟨5,⟨#[61]⟩,0,19⟩,⟨2,⟨#[121]⟩,0,21⟩],0,0):=Wn (kd:=1) (t:=[120]) (n:=0) (k:=1) (by rfl) f4
 have f6:cutF [64,120,32,61,32,34,121,34] 16=([⟨5,⟨#[64]⟩,0,16⟩,⟨1,⟨#[120]⟩,0,17⟩,⟨5,⟨#[61]⟩,0,19⟩,⟨2,⟨#[121]⟩,0,21⟩],0,0):=Wn (kd:=5) (t:=[64]) (n:=0) (k:=1) (by rfl) f5
 have f7:cutF [32,64,120,32,61,32,34,121,34] 15=([⟨5,⟨#[64]⟩,0,16⟩,⟨1,⟨#[120]⟩,0,17⟩,⟨5,⟨#[61]⟩,0,19⟩,⟨2,⟨#[121]⟩,0,21⟩],0,0):=Xef (k:=1) (by rfl) f6
 have f8:cutF [119,104,101,110,32,64,120,32,61,32,34,121,34] 11=([⟨1,⟨#[119,104,101,110]⟩,0,11⟩,⟨5,⟨#[64]⟩,0,16⟩,⟨1,⟨#[120]⟩,0,17⟩,⟨5,⟨#[61]⟩,0,19⟩,⟨2,⟨#[121]⟩,0,21⟩],0,0):=Wn (kd:=1) (t:=[119,104,101,110]) (n:=0) (k:=4) (by rfl) f7
 have f9:cutF [32,119,104,101,110,32,64,120,32,61,32,34,121,34] 10=([⟨1,⟨#[119,104,101,110]⟩,0,11⟩,⟨5,⟨#[64]⟩,0,16⟩,⟨1,⟨#[120]⟩,0,17⟩,⟨5,⟨#[61]⟩,0,19⟩,⟨2,⟨#[121]⟩,0,21⟩],0,0):=Xef (k:=1) (by rfl) f8
 have f10:cutF [41,32,119,104,101,110,32,64,120,32,61,32,34,121,34] 9=([⟨5,⟨#[41]⟩,0,9⟩,⟨1,⟨#[119,104,101,110]⟩,0,11⟩,⟨5,⟨#[64]⟩,0,16⟩,⟨1,⟨#[120]⟩,0,17⟩,⟨5,⟨#[61]⟩,0,19⟩,⟨2,⟨#[121]⟩,0,21⟩],0,0):=Wn (kd:=5) (t:=[41]) (n:=0) (k:=1) (by rfl) f9
 have f11:cutF [120,41,32,119,104,101,110,32,64,120,32,61,32,34,121,34] 8=([⟨1,⟨#[120]⟩,0,8⟩,⟨5,⟨#[41]⟩,0,9⟩,⟨1,⟨#[119,104,101,110]⟩,0,11⟩,⟨5,⟨#[64]⟩,0,16⟩,⟨1,⟨#[120]⟩,0,17⟩,⟨5,⟨#[61]⟩,0,19⟩,⟨2,⟨#[121]⟩,0,21⟩],0,0):=Wn (kd:=1) (t:=[120]) (n:=0) (k:=1) (by rfl) f10
 have f12:cutF [64,120,41,32,119,104,101,110,32,64,120,32,61,32,34,121,34] 7=([⟨5,⟨#[64]⟩,0,7⟩,⟨1,⟨#[120]⟩,0,8⟩,⟨5,⟨#[41]⟩,0,9⟩,⟨1,⟨#[119,104,101,110]⟩,0,11⟩,⟨5,⟨#[64]⟩,0,16⟩,⟨1,⟨#[120]⟩,0,17⟩,⟨5,⟨#[61]⟩,0,19⟩,⟨2,⟨#[121]⟩,0,21⟩],0,0):=Wn (kd:=5) (t:=[64]) (n:=0) (k:=1) (by rfl) f11
 have f13:cutF [32,64,120,41,32,119,104,101,110,32,64,120,32,61,32,34,121,34] 6=([⟨5,⟨#[64]⟩,0,7⟩,⟨1,⟨#[120]⟩,0,8⟩,⟨5,⟨#[41]⟩,0,9⟩,⟨1,⟨#[119,104,101,110]⟩,0,11⟩,⟨5,⟨#[64]⟩,0,16⟩,⟨1,⟨#[120]⟩,0,17⟩,⟨5,⟨#[61]⟩,0,19⟩,⟨2,⟨#[121]⟩,0,21⟩],0,0):=Xef (k:=1) (by rfl) f12
 have f14:cutF [41,32,64,120,41,32,119,104,101,110,32,64,120,32,61,32,34,121,34] 5=([⟨5,⟨#[41]⟩,0,5⟩,⟨5,⟨#[64]⟩,0,7⟩,⟨1,⟨#[120]⟩,0,8⟩,⟨5,⟨#[41]⟩,0,9⟩,⟨1,⟨#[119,104,101,110]⟩,0,11⟩,⟨5,⟨#[64]⟩,0,16⟩,⟨1,⟨#[120]⟩,0,17⟩,⟨5,⟨#[61]⟩,0,19⟩,⟨2,⟨#[121]⟩,0,21⟩],0,0):=Wn (kd:=5) (t:=[41]) (n:=0) (k:=1) (by rfl) f13
 have f15:cutF [97,41,32,64,120,41,32,119,104,101,110,32,64,120,32,61,32,34,121,34] 4=([⟨1,⟨#[97]⟩,0,4⟩,⟨5,⟨#[41]⟩,0,5⟩,⟨5,⟨#[64]⟩,0,7⟩,⟨1,⟨#[120]⟩,0,8⟩,⟨5,⟨#[41]⟩,0,9⟩,⟨1,⟨#[119,104,101,110]⟩,0,11⟩,⟨5,⟨#[64]⟩,0,16⟩,⟨1,⟨#[120]⟩,0,17⟩,⟨5,⟨#[61]⟩,0,19⟩,⟨2,⟨#[121]⟩,0,21⟩],0,0):=Wn (kd:=1) (t:=[97]) (n:=0) (k:=1) (by rfl) f14
 have f16:cutF [40,97,41,32,64,120,41,32,119,104,101,110,32,64,120,32,61,32,34,121,34] 3=([⟨5,⟨#[40]⟩,0,3⟩,⟨1,⟨#[97]⟩,0,4⟩,⟨5,⟨#[41]⟩,0,5⟩,⟨5,⟨#[64]⟩,0,7⟩,⟨1,⟨#[120]⟩,0,8⟩,⟨5,⟨#[41]⟩,0,9⟩,⟨1,⟨#[119,104,101,110]⟩,0,11⟩,⟨5,⟨#[64]⟩,0,16⟩,⟨1,⟨#[120]⟩,0,17⟩,⟨5,⟨#[61]⟩,0,19⟩,⟨2,⟨#[121]⟩,0,21⟩],0,0):=Wn (kd:=5) (t:=[40]) (n:=0) (k:=1) (by rfl) f15
 have f17:cutF [32,40,97,41,32,64,120,41,32,119,104,101,110,32,64,120,32,61,32,34,121,34] 2=([⟨5,⟨#[40]⟩,0,3⟩,⟨1,⟨#[97]⟩,0,4⟩,⟨5,⟨#[41]⟩,0,5⟩,⟨5,⟨#[64]⟩,0,7⟩,⟨1,⟨#[120]⟩,0,8⟩,⟨5,⟨#[41]⟩,0,9⟩,⟨1,⟨#[119,104,101,110]⟩,0,11⟩,⟨5,⟨#[64]⟩,0,16⟩,⟨1,⟨#[120]⟩,0,17⟩,⟨5,⟨#[61]⟩,0,19⟩,⟨2,⟨#[121]⟩,0,21⟩],0,0):=Xef (k:=1) (by rfl) f16
 have f18:cutF [115,32,40,97,41,32,64,120,41,32,119,104,101,110,32,64,120,32,61,32,34,121,34] 1=([⟨1,⟨#[115]⟩,0,1⟩,⟨5,⟨#[40]⟩,0,3⟩,⟨1,⟨#[97]⟩,0,4⟩,⟨5,⟨#[41]⟩,0,5⟩,⟨5,⟨#[64]⟩,0,7⟩,⟨1,⟨#[120]⟩,0,8⟩,⟨5,⟨#[41]⟩,0,9⟩,⟨1,⟨#[119,104,101,110]⟩,0,11⟩,⟨5,⟨#[64]⟩,0,16⟩,⟨1,⟨#[120]⟩,0,17⟩,⟨5,⟨#[61]⟩,0,19⟩,⟨2,⟨#[121]⟩,0,21⟩],0,0):=Wn (kd:=1) (t:=[115]) (n:=0) (k:=1) (by rfl) f17
 have f19:cutF [40,115,32,40,97,41,32,64,120,41,32,119,104,101,110,32,64,120,32,61,32,34,121,34] 0=([⟨5,⟨#[40]⟩,0,0⟩,⟨1,⟨#[115]⟩,0,1⟩,⟨5,⟨#[40]⟩,0,3⟩,⟨1,⟨#[97]⟩,0,4⟩,⟨5,⟨#[41]⟩,0,5⟩,⟨5,⟨#[64]⟩,0,7⟩,⟨1,⟨#[120]⟩,0,8⟩,⟨5,⟨#[41]⟩,0,9⟩,⟨1,⟨#[119,104,101,110]⟩,0,11⟩,⟨5,⟨#[64]⟩,0,16⟩,⟨1,⟨#[120]⟩,0,17⟩,⟨5,⟨#[61]⟩,0,19⟩,⟨2,⟨#[121]⟩,0,21⟩],0,0):=Wn (kd:=5) (t:=[40]) (n:=0) (k:=1) (by rfl) f18
 exact f19
abbrev sqX:Ag:=⟨⟨#[115]⟩,false,noB,noB,1⟩
abbrev sqK:PF:=.cons ⟨⟨#[97]⟩,false,noB,⟨#[120]⟩,0⟩ .nil .nil
abbrev sqC:List Bh:=[⟨false,⟨#[120]⟩,noB,⟨#[121]⟩⟩]
theorem sq_toks:Xfe sqW=Ul sqX sqK sqC:=by decide +kernel
theorem Xbq:Sv nmQ sqX sqK sqC:=by
 refine ⟨⟨rfl,⟨rfl,trivial,trivial⟩,trivial⟩,by decide +kernel,by decide +kernel,by decide,by decide,fun c hc=>?_⟩
 rw [List.mem_singleton.1 hc]
 exact ⟨Xbl.1 (by decide +kernel),.inl rfl⟩
theorem sq_sz:SzQ ⟨sqX :: Bz sqK,sqC⟩:=by
 refine ⟨fun x hx=>?_,fun c hc=>?_⟩
 ·rcases List.mem_cons.1 hx with rfl | hx
  ·exact ⟨by decide,by decide,by decide⟩
  ·rw [List.mem_singleton.1 hx]
   exact ⟨by decide,by decide,by decide⟩
 ·rw [List.mem_singleton.1 hc]
  exact ⟨by decide,by decide,by decide⟩
theorem sq_parse:Xd sqB (⟨sqX :: Bz sqK,sqC⟩,0,0):=by
 have h:=cut_ok (s:=sqB) (by decide)
 rw [sq_cut] at h
 have hp:=parse_ok h (show sqW.length≤2 ^ 40 by decide)
 unfold Xlt at hp
 rw [if_pos rfl] at hp
 dsimp only at hp
 rw [sq_toks,Xl9 nmQ_nm Xbq] at hp
 exact hp
theorem sq_text:textQ sqX sqK sqC=⟨#[40,32,115,32,40,32,97,32,41,32,64,32,120,32,41,32,119,104,101,110,32,64,32,120,32,61,32,34,121,34]⟩:=by decide +kernel
abbrev sqT:List Az:=[(⟨(⟨#[115]⟩:ByteArray),true,(⟨#[]⟩:ByteArray),0,2,2,-1⟩:Az),(⟨(⟨#[97]⟩:ByteArray),true,(⟨#[]⟩:ByteArray),0,1,0,0⟩:Az),(⟨(⟨#[97]⟩:ByteArray),true,(⟨#[]⟩:ByteArray),1,2,0,1⟩:Az)]
theorem sq_all1:Xen sqX sqK sqC sqT ⟨#[121,122]⟩=[⟨[0,1]⟩]:=by decide +kernel
theorem sq_all2:Xen sqX sqK sqC sqT ⟨#[122,121]⟩=[]:=by decide +kernel
theorem Xf8 {a:List Int} (h:a.length≤2 ^ 60):Iw a a true:=by
 unfold Iw
 rw [if_pos rfl]
 refine Bl.cnt a.length (fun i hi=>?_) ?_
 ·unfold Hf
  rw [if_pos (by omega)]
  refine ⟨⟨by omega,by omega⟩,⟨by omega,by omega⟩,?_⟩
  rw [if_pos rfl,Dw (by omega)]
 ·unfold Hf
  rw [if_neg (Int.lt_irrefl _)]
theorem qstarted:P6 true:=by
 refine ⟨_,sq_parse,?_⟩
 dsimp only
 rw [if_pos rfl,if_pos rfl,if_pos (by decide)]
 unfold Gy
 have hw:Wf sqT:=fun n hn=>by
  rcases List.mem_cons.1 hn with rfl | hn
  ·exact ⟨by decide,by decide⟩
  rcases List.mem_cons.1 hn with rfl | hn
  ·exact ⟨by decide,by decide⟩
  ·rw [List.mem_singleton.1 hn]
   exact ⟨by decide,by decide⟩
 have hr:0≤numF sqT:=by decide +kernel
 have a1:=Xfo Xbq sq_sz.w (t:=sqT) (by decide) hw hr ⟨#[121,122]⟩
 have a2:=Xfo Xbq sq_sz.w (t:=sqT) (by decide) hw hr ⟨#[122,121]⟩
 rw [sq_all1] at a1
 rw [sq_all2] at a2
 rw [if_neg (by decide)]
 refine ⟨_,a1,_,a2,_,Xj2 Xbq sq_sz,?_⟩
 rw [if_pos (by decide)]
 refine ⟨⟨by decide,by decide⟩,true,Xf8 (a:=[0,1]) (by decide),?_⟩
 rw [if_pos rfl,if_pos (by decide),if_pos rfl,sq_text,Oo rfl]
end Go.Proofs.YtjookebbmfiidaaDoor.L
set_option linter.unusedVariables false
namespace Go.Proofs.YtjookebbmfiidaaDoor.L
open Go.Proofs.YtjookebbmfiidaaDoor.B Go.Proofs.YtjookebbmfiidaaDoor.R
end Go.Proofs.YtjookebbmfiidaaDoor.L
set_option linter.unusedVariables false
namespace Go.Proofs.YtjookebbmfiidaaDoor.L
open Go.Proofs.YtjookebbmfiidaaDoor.B Go.Proofs.YtjookebbmfiidaaDoor.R
end Go.Proofs.YtjookebbmfiidaaDoor.L
set_option linter.unusedVariables false
namespace Go.Proofs.YtjookebbmfiidaaDoor.L
open Go.Proofs.YtjookebbmfiidaaDoor.B Go.Proofs.YtjookebbmfiidaaDoor.R
end Go.Proofs.YtjookebbmfiidaaDoor.L
