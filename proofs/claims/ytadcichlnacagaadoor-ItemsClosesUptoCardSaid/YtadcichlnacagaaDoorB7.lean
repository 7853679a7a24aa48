/- Lemmas of my own on the machine: calls, what is handed in and what comes back. No condition. -/
import Derived.Test.YtadcichlnacagaaDoorB6
set_option linter.unusedVariables false
set_option linter.unusedSimpArgs false
namespace Go.Proofs.YtadcichlnacagaaDoor.B
open Go.RowKit
inductive Pk {α:Type} (M:List α):List Nat→List α→Prop
 | n:Pk M [] []
 | c (i:Nat) {is:List Nat} {e:α} {es:List α} (h:M[i]? = some e) (t:Pk M is es):Pk M (i :: is) (e :: es)
theorem Pk.eq {α:Type} {M:List α}:∀ {is:List Nat} {es:List α},Pk M is es→is.map (M[·]?)=es.map some
 | _,_,.n=>rfl
 | _,_,.c i h t=>by rw [List.map_cons,List.map_cons,h,t.eq]
theorem Pk.mem {α:Type} {M:List α} {is:List Nat} {es:List α} (h:Pk M is es):∀ e ∈ es,e ∈ M:=Yvm is h.eq
theorem pmI {w0 w:World} {M A B:List Ent} {S:List Yva} {is js:List Nat} (_:Loc w0 w M S) (ha:Pk M is A) (hb:Pk M js B) (hp:(is++js).isPerm (List.range M.length)=true):M.Perm (A++B):=Zqs is js ha.eq hb.eq hp
theorem Loc.pkI {w0 w:World} {M A B:List Ent} {S S':List Yva} {is js ks:List Nat} (hL:Loc w0 w M S) (ha:Pk M is A) (hb:Pk M js B) (hp:(is++js).isPerm (List.range M.length)=true) (hs:Pk S ks S'):Loc w0 w A S':=(hL.perm (pmI hL ha hb hp)).drop (List.sublist_append_left _ _) hs.mem
theorem Loc.pk0 {w0 w:World} {M:List Ent} {S S':List Yva} {ks:List Nat} (hL:Loc w0 w M S) (hs:Pk S ks S'):Loc w0 w [] S':=hL.drop (List.nil_sublist _) hs.mem
theorem Loc.selI {w0 w:World} {M A:List Ent} {S:List Yva} {is:List Nat} (_:Loc w0 w M S) (ha:Pk M is A):∀ e ∈ A,e ∈ M:=ha.mem
theorem Yvr {C:Cx} {k:List Item} {l:Fm} {M:List Ent} {S Si:List Yva} {c:Code} {is:List Nat} (L:List Nat) (n:Nat) (hc:Code.tag c=1) (hd:Code.draw c=true) (hm:C.P.follows .mixedOrders=true) (hn:(Code.ops c).size=n) (hS:Pk S is Si) (h:WF C (Code.ops c) M Si L true n (Array.replicate n false) k l M S):G C (.code c :: k) l M S:=Zg2 M Si L n hc hd hm hn (List.Sublist.refl M) hS.mem h
section ops
variable {C:Cx} {ops:Array Oper} {k:List Item} {l l':Fm} {M M' M0 M1 rest:List Ent} {S S' Sl:List Yva} {ty:TypeId} {pos:String} {after:Ed} {g:Gu} {d:Nat} {Nx:Fm→List Ent→List Yva→Prop} {F:Nat→Prop}
theorem Loc.into {w0 w:World} (hL:Loc w0 w M S) (hp:M.Perm (M0++rest)) (F:Nat→Prop):Loc w w M0 [Sm w.heap.size F w (M0.map Ent.blk),St w (M0.map Ent.blk)]:=by
 have h1:=hL.perm hp
 have h2:Loc w0 w M0 S:=h1.drop (List.sublist_append_left _ _) (fun s h=>h)
 refine ⟨Env.refl w,h2.ok,h2.apart,fun s hs=>?_⟩
 have key:∀ b,(∀ o ∈ M0.map Ent.blk,b ∉ o)→∀ e ∈ M0,b ∉ e.blk:=fun b h e he=>h _ (List.mem_map.2 ⟨e,he,rfl⟩)
 simp only [List.mem_cons,List.not_mem_nil,or_false] at hs
 rcases hs with rfl | rfl
 ·exact ⟨Nat.le_refl _,fun b hb=>⟨rfl,key b hb.2.1⟩⟩
 ·exact ⟨Nat.le_refl _,fun b hb=>⟨rfl,key b hb.2.1⟩⟩
theorem Loc.call {w0 w w':World} (hL:Loc w0 w M S) (hp:M.Perm (M0++rest)) (h:Loc w w' M1 [St w (M0.map Ent.blk)]):Loc w0 w' (M1++rest) S:=by
 have h1:=hL.perm hp
 have hap:=List.pairwise_append.1 h1.apart
 have hs:=h.snap _ (List.mem_singleton.2 rfl)
 have keep:∀ b,b < w.heap.size→(∀ e ∈ M0,b ∉ e.blk)→w'.heap[b]? = w.heap[b]?∧∀ e ∈ M1,b ∉ e.blk:=fun b hb hn =>
  hs.2 b ⟨hb,fun o ho=>by obtain ⟨e,he,rfl⟩:=List.mem_map.1 ho; exact hn e he,trivial⟩
 have krest:∀ e ∈ rest,∀ b ∈ e.blk,b < w.heap.size∧∀ e' ∈ M0,b ∉ e'.blk:=fun e he b hb=>by
  have hok:=h1.ok e (List.mem_append.2 (.inr he))
  exact ⟨Ent.lt hok hb,fun e' he' e1=>hap.2.2 e' he' e he b e1 hb⟩
 refine ⟨hL.env.trans h.env,fun e he=>?_,?_,fun s hs'=>?_⟩
 ·rcases List.mem_append.1 he with he | he
  ·exact h.ok e he
  ·refine Ent.keep (h1.ok e (List.mem_append.2 (.inr he))) h.env.size fun b hb => ?_
   obtain ⟨q1,q2⟩:=krest e he b hb
   exact (keep b q1 q2).1
 ·refine List.pairwise_append.2 ⟨h.apart, hap.2.1, fun x hx y hy b hb hy' => ?_⟩
  obtain ⟨q1,q2⟩:=krest y hy b hy'
  exact (keep b q1 q2).2 x hx hb
 ·obtain ⟨q1,q2⟩:=h1.snap s hs'
  refine ⟨Nat.le_trans q1 h.env.size,fun b hb=>?_⟩
  obtain ⟨q3,q4⟩:=q2 b hb
  obtain ⟨q5,q6⟩:=keep b (Nat.lt_of_lt_of_le hb.1 q1) (fun e he=>q4 e (List.mem_append.2 (.inl he)))
  refine ⟨q5.trans q3,fun e he=>?_⟩
  rcases List.mem_append.1 he with he | he
  ·exact q6 e he
  ·exact q4 e (List.mem_append.2 (.inr he))
def Nw (w w':World) (F:Nat→Prop) (M1:List Ent) (b:Nat):Prop:=b < w'.heap.size∧(w.heap.size≤b∨F b)∧∀ e ∈ M1,b ∉ e.blk
theorem Loc.out {w0 w:World} {s:Yva} (hL:Loc w0 w M S) (hM:∀ e ∈ M1,e ∈ M) (hs:s ∈ S) (hok:OkS w0.heap.size F s) {b:Nat} (hb:s.av b):Nw w0 w F M1 b∧w.heap[b]? = s.w.heap[b]?:=by
 obtain ⟨h1,h2⟩:=hL.snap s hs
 exact ⟨⟨Nat.lt_of_lt_of_le hb.1 h1,hok b hb,fun e he=>(h2 b hb).2 e (hM e he)⟩,(h2 b hb).1⟩
theorem Loc.outR {α:Type} {dk:Kd α} {A:Option Addr} {n c:Nat} {xs:List α} {w0 w:World} {s:Yva} (hL:Loc w0 w M S) (hM:∀ e ∈ M1,e ∈ M) (hs:s ∈ S) (hok:OkS w0.heap.size F s) (h:At dk s A n c xs):Rw dk w (Nw w0 w F M1) A n c xs:=h.mono fun b hb=>hL.out hM hs hok hb
theorem Loc.outC {α:Type} {dk:Kd α} {xs:List α} {cs:List Value} {w0 w:World} {s:Yva} (hL:Loc w0 w M S) (hM:∀ e ∈ M1,e ∈ M) (hs:s ∈ S) (hok:OkS w0.heap.size F s) (h:Cells dk s.w s.av xs cs):Cells dk w (Nw w0 w F M1) xs cs:=h.mono fun b hb=>hL.out hM hs hok hb
theorem Loc.callB {w0 w w':World} (hL:Loc w0 w M S) (hp:M.Perm (M0++rest)) (h:Loc w w' M1 [St w (M0.map Ent.blk)]) (F:Nat→Prop) (hSl:∀ s ∈ Sl,s ∈ S) (hok:OkL w0.heap.size F Sl) :
  ∃ bs,Loc w0 w' (M1++rest) (Sm w0.heap.size F w' bs :: S)∧∀ b,Nw w w' (Fl Sl) M1 b→(Sm w0.heap.size F w' bs).av b∧w'.heap[b]? = w'.heap[b]?:=by
 have h1:=hL.call hp h
 refine ⟨(M1++rest).map Ent.blk,h1.mark _ _,fun b hb=>⟨⟨hb.1,fun o ho e1=>?_,?_⟩,rfl⟩⟩
 ·obtain ⟨e,he,rfl⟩:=List.mem_map.1 ho
  rcases List.mem_append.1 he with he | he
  ·exact hb.2.2 e he e1
  ·have hm:e ∈ M:=hp.mem_iff.2 (List.mem_append.2 (.inr he))
   rcases hb.2.1 with h2 | ⟨s,hs,h2⟩
   ·have:=Ent.lt (hL.ok e hm) e1; omega
   ·exact ((hL.snap s (hSl s hs)).2 b h2).2 e hm e1
 ·rcases hb.2.1 with h2 | ⟨s,hs,h2⟩
  ·exact .inl (Nat.le_trans hL.env.size h2)
  ·exact hok.mem s hs b h2
theorem Loc.callN {w0 w w':World} (hL:Loc w0 w M S) (hp:M.Perm (M0++rest)) (h:Loc w w' M1 [St w (M0.map Ent.blk)]) (hSl:∀ s ∈ Sl,s ∈ S) :
  ∃ sv,Loc w0 w' (M1++rest) (sv :: S)∧∀ b,Nw w w' (Fl Sl) M1 b→sv.av b∧sv.w.heap[b]? = w'.heap[b]?:=by
 have h1:=hL.call hp h
 refine ⟨St w' ((M1++rest).map Ent.blk),h1.mark _ _,fun b hb=>⟨⟨hb.1,fun o ho e1=>?_,trivial⟩,rfl⟩⟩
 obtain ⟨e,he,rfl⟩:=List.mem_map.1 ho
 rcases List.mem_append.1 he with he | he
 ·exact hb.2.2 e he e1
 ·have hm:e ∈ M:=hp.mem_iff.2 (List.mem_append.2 (.inr he))
  rcases hb.2.1 with h2 | ⟨s,hs,h2⟩
  ·have:=Ent.lt (hL.ok e hm) e1; omega
  ·exact ((hL.snap s (hSl s hs)).2 b h2).2 e hm e1
theorem Loc.hFl {w0 w:World} (hL:Loc w0 w M S) (hp:M.Perm (M0++rest)) (hSl:∀ s ∈ Sl,s ∈ S):∀ b,Fl Sl b→b < w.heap.size∧∀ o ∈ M0.map Ent.blk,b ∉ o:=fun b hb=>by
 obtain ⟨s,hs,h2⟩:=hb
 obtain ⟨h3,h4⟩:=hL.snap s (hSl s hs)
 exact ⟨Nat.lt_of_lt_of_le h2.1 h3,fun o ho=>by obtain ⟨e,he,rfl⟩:=List.mem_map.1 ho; exact (h4 b h2).2 e (hp.mem_iff.2 (List.mem_append.2 (.inl he)))⟩
theorem Loc.pick {w0 w:World} (hL:Loc w0 w M S) (hp:M.Perm (M0++rest)) (hS:∀ s ∈ S',s ∈ S):Loc w0 w M0 S':=(hL.perm hp).drop (List.sublist_append_left _ _) hS
theorem Rw.into {α:Type} {dk:Kd α} {A:Option Addr} {n c:Nat} {xs:List α} {w:World} {bs:List (List Nat)} (hF:∀ b,F b→b < w.heap.size∧∀ o ∈ bs,b ∉ o) (h:Rw dk w F A n c xs):At dk (Sm w.heap.size F w bs) A n c xs :=
 h.mono fun b hb=>⟨⟨(hF b hb).1,(hF b hb).2,.inr hb⟩,rfl⟩
theorem Cells.into {α:Type} {dk:Kd α} {xs:List α} {cs:List Value} {w:World} {bs:List (List Nat)} (hF:∀ b,F b→b < w.heap.size∧∀ o ∈ bs,b ∉ o) (h:Cells dk w F xs cs):Cells dk (Sm w.heap.size F w bs).w (Sm w.heap.size F w bs).av xs cs :=
 h.mono fun b hb=>⟨⟨(hF b hb).1,(hF b hb).2,.inr hb⟩,rfl⟩
theorem Loc.toFl {w0 w:World} {s:Yva} (hL:Loc w0 w M S) (hs:s ∈ S) (hs':s ∈ Sl):∀ b,s.av b→Fl Sl b∧w.heap[b]? = s.w.heap[b]?:=fun b hb=>⟨⟨s,hs',hb⟩,((hL.snap s hs).2 b hb).1⟩
theorem Loc.toSt {w0 w:World} {s:Yva} (hL:Loc w0 w M S) (hp:M.Perm (M0++rest)) (hs:s ∈ S):∀ b,s.av b→(St w (M0.map Ent.blk)).av b∧w.heap[b]? = s.w.heap[b]?:=fun b hb=>by
 obtain ⟨h3,h4⟩:=hL.snap s hs
 exact ⟨⟨Nat.lt_of_lt_of_le hb.1 h3,fun o ho=>by obtain ⟨e,he,rfl⟩:=List.mem_map.1 ho; exact (h4 b hb).2 e (hp.mem_iff.2 (List.mem_append.2 (.inl he))),trivial⟩,(h4 b hb).1⟩
theorem Loc.argV {α:Type} {dk:Kd α} {w0 w:World} {z:Nat} {A A':Option Addr} {e c n lo m c':Nat} {cs:List Value} {xs:List α} {s:Yva} (hL:Loc w0 w M S) (hp:M.Perm (M0++rest)) (is:List Nat) (hi:is.map (M[·]?)=M0.map some) (j:Nat) (hj:is.contains j=false) (hM:M[j]? = some (.own (.slice A n c) e dk.sz n cs)) (ho:Ow z A n c xs) (hs:s ∈ S) (hC:Cells dk s.w s.av xs cs) (hv:Vw dk.sz A n lo m A') (hc:m≤c') (hm:c'≤maxLen) :
  Rw dk w (St w (M0.map Ent.blk)).av A' m c' ((xs.drop lo).take m):=by
 have hown:Yzb w e dk.sz (.slice A n c) n cs:=hL.ok _ (List.mem_iff_getElem?.2 ⟨j,hM⟩)
 have hle:=hv.le
 have hF:∀ b,(Value.slice A n c).ownBlock=some b→(St w (M0.map Ent.blk)).av b:=fun b hb=>⟨Yzb.lt hown hb,fun o ho e1=>by
  obtain ⟨x,hx,rfl⟩:=List.mem_map.1 ho
  have:some x ∈ is.map (M[·]?):=by rw [hi]; exact List.mem_map.2 ⟨x,hx,rfl⟩
  obtain ⟨i,h3,h4⟩:=List.mem_map.1 this
  have hij:i≠j:=fun e=>by subst e; rw [List.contains_iff_mem.2 h3] at hj; cases hj
  exact Zc3 hL.apart hij h4 hM b e1 (by simp [Ent.blk,hb]),trivial⟩
 have hR:=(hC.mono (hL.toSt hp hs)).row hown ho.hq hF
 refine ⟨by rw [List.length_take,List.length_drop]; have:=ho.hq; omega,hc,hm,fun h0=>?_,fun j x hx=>?_⟩
 ·rw [List.length_take,List.length_drop] at h0
  have hA:=ho.hA (by omega)
  obtain ⟨a,rfl⟩:=Option.isSome_iff_exists.1 hA
  rw [hv.eq (by omega)]
  refine ⟨rfl,?_⟩
  have h2:=(hR.1 (by omega)).2
  simpa [blkA,Zjd] using h2
 ·have hjm:j < m∧xs[lo + j]? = some x:=by
   rw [List.getElem?_take] at hx
   split at hx
   ·rename_i h; rw [List.getElem?_drop] at hx; exact ⟨h,hx⟩
   ·cases hx
  obtain ⟨cs',h3,h4⟩:=hR.2 _ x hjm.2
  refine ⟨cs',h3,fun i u hu=>?_⟩
  rw [hv.cel (ho.hA (by omega)) (by omega)]
  have:=h4 i u hu
  rwa [show lo * dk.sz + (j * dk.sz + i)=(lo + j) * dk.sz + i by rw [Nat.add_mul]; omega]
theorem Loc.argO {α:Type} {dk:Kd α} {w0 w:World} {z:Nat} {A:Option Addr} {e c n:Nat} {cs:List Value} {xs:List α} {s:Yva} (hL:Loc w0 w M S) (hp:M.Perm (M0++rest)) (is:List Nat) (hi:is.map (M[·]?)=M0.map some) (j:Nat) (hj:is.contains j=false) (hM:M[j]? = some (.own (.slice A n c) e dk.sz n cs)) (ho:Ow z A n c xs) (hs:s ∈ S) (hC:Cells dk s.w s.av xs cs) :
  Rw dk w (St w (M0.map Ent.blk)).av A n c xs:=by
 have h:=hL.argV hp is hi j hj hM ho hs hC Vw.whole ho.hn ho.hm
 have e:(xs.drop 0).take n=xs:=by rw [List.drop_zero,ho.hq,List.take_length]
 rwa [e] at h
theorem Rw.cut {α:Type} {dk:Kd α} {w:World} {A:Option Addr} {n c sz:Nat} {xs:List α} {lv hv mv:Int} (h:Rw dk w F A n c xs) (hsz:sz=dk.sz) (h0:0≤lv∧lv≤hv) (h1:hv≤(xs.length:Int)) (h2:hv≤mv∧mv≤(c:Int)) :
  Rw dk w F (if mv.toNat=lv.toNat then A else A.map (·.add (lv.toNat * sz))) (hv.toNat - lv.toNat) (mv.toNat - lv.toNat) ((xs.take hv.toNat).drop lv.toNat):=by
 subst hsz
 have hm:=h.hm
 exact ⟨by rw [List.length_drop,List.length_take]; omega,by omega,by omega,(h.row.take hv.toNat).drop lv.toNat mv.toNat (by rw [List.length_take]; omega)⟩
end ops
end Go.Proofs.YtadcichlnacagaaDoor.B
