/- The concrete calls that the laws of chapter 15 begin with. No condition. -/
import Derived.Test.YtmekgfcfooghnaaJ6
set_option linter.unusedVariables false
namespace Go.Proofs.Ytmekgfcfooghnaa.L
open Go.Proofs.Ytmekgfcfooghnaa.B Go.Proofs.Ytmekgfcfooghnaa.R
def lgC:Xmw:=(⟨(⟨#[]⟩:ByteArray),([]:List Xps),(⟨([(⟨(⟨#[]⟩:ByteArray),false⟩:Xna),(⟨(⟨#[97]⟩:ByteArray),false⟩:Xna)]:List Xna),([(⟨(⟨#[115]⟩:ByteArray),1⟩:Xq9)]:List Xq9),([(⟨-1,([(⟨2,(⟨#[]⟩:ByteArray),(⟨#[]⟩:ByteArray)⟩:Xn1)]:List Xn1)⟩:Xnz),(⟨0,([(⟨1,(⟨#[102]⟩:ByteArray),(⟨#[]⟩:ByteArray)⟩:Xn1)]:List Xn1)⟩:Xnz)]:List Xnz)⟩:Xnn),([]:List Xsk),(⟨([]:List (List Xoi)),([]:List (List Int))⟩:Xtb),([]:List Xpe),([]:List ByteArray),([]:List Xpu),([]:List Xow)⟩:Xmw)
def tkC:List Xm4:=[⟨(⟨#[97]⟩:ByteArray),true,(⟨#[]⟩:ByteArray),2,5,0,0⟩]
def trC:List Xm4:=[⟨(⟨#[115]⟩:ByteArray),true,(⟨#[]⟩:ByteArray),2,5,1,-1⟩,⟨(⟨#[97]⟩:ByteArray),true,(⟨#[102]⟩:ByteArray),2,5,0,0⟩]
theorem tk_eq:Yej lgC 1 0 2 5=tkC:=by decide +kernel
theorem tr_eq:Xtn lgC 1 [tkC] [0,5]=trC:=by decide +kernel
theorem lgC_ok:LgOk lgC:=⟨by decide,by decide,by decide,fun p hp=>by
 have h:p=⟨-1,[⟨2,⟨#[]⟩,⟨#[]⟩⟩]⟩∨p=⟨0,[⟨1,⟨#[102]⟩,⟨#[]⟩⟩]⟩:=by simpa [lgC] using hp
 rcases h with rfl | rfl
 ·exact ⟨by decide,fun r hr=>by rw [List.mem_singleton.1 hr]; decide⟩
 ·exact ⟨by decide,fun r hr=>by rw [List.mem_singleton.1 hr]; decide⟩⟩
theorem tr_wf:Wf trC:=fun n hn=>by
 simp only [trC,List.mem_cons,List.not_mem_nil,or_false] at hn
 rcases hn with rfl | rfl <;> simp
theorem tk_wf:Wf tkC:=fun n hn=>by
 simp only [tkC,List.mem_cons,List.not_mem_nil,or_false] at hn
 subst hn
 simp
theorem Ygo:Xwg trC:=by show 2≤1954687338211; omega
theorem alive_ok:Xra true:=by
 unfold Xra
 refine ⟨tkC,by rw [← tk_eq]; exact Token_ok _ _ _ _ _,trC,?_,[1],?_,(⟨#[40,115,32,102,58,32,40,97,41,41]⟩:ByteArray),?_,?_⟩
 ·rw [← tr_eq]
  refine Yag lgC_ok (B:=8) (by decide) (by decide) (fun k hk=>?_) (by decide)
  rw [List.mem_singleton.1 hk]
  exact ⟨tk_wf,by decide⟩
 ·have:=Kids_ok Ygo tr_wf 0
  rwa [show kidsF trC 0=[1] by decide +kernel] at this
 ·have := Text_ok Ygo tr_wf (txOk (by decide))
  rwa [show textF trC=(⟨#[40,115,32,102,58,32,40,97,41,41]⟩:ByteArray) by decide +kernel] at this
 ·rw [if_pos (by decide), if_pos (by decide)]
  refine ⟨by decide,?_⟩
  rw [if_pos (by decide),if_pos (by decide),if_pos (by decide),if_pos (by decide),if_pos (by decide)]
  refine ⟨by decide,?_⟩
  rw [if_pos (by decide),if_pos rfl]
  exact ⟨_,Yg1 Ygo tr_wf,by decide +kernel⟩
end Go.Proofs.Ytmekgfcfooghnaa.L
