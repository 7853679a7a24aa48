/- Lemmas of my own on the machine: a row that is kept while it is appended to under another name. No condition. -/
import Derived.Test.YtmekgfcfooghnaaBF
set_option linter.unusedVariables false
set_option linter.unusedSimpArgs false
set_option linter.unusedSectionVars false
namespace Go.Proofs.Ytmekgfcfooghnaa.B
open Go.RowKit
section tw
variable {α:Type} (enc:α→List Value)
def TwP (e sz:Nat) (A0:Option Addr) (n0 c0:Nat) (xs0:List α) (A:Option Addr) (n c:Nat) (zs:List α) (w:World):Prop :=
 Xok w e sz (.slice A0 n0 c0) n0 (xs0.flatMap enc)∧Xok w e sz (.slice A n c) n (zs.flatMap enc)∧((A0=A∧c0=c∧n0≤n∧xs0=zs.take n0)∨far (Value.slice A0 n0 c0).ownBlock.toList (Value.slice A n c).ownBlock.toList)
abbrev twE (e sz:Nat) (A0:Option Addr) (n0 c0:Nat) (xs0:List α) (A:Option Addr) (n c:Nat) (zs:List α):Ent :=
 .deep .nilIface ((Value.slice A0 n0 c0).ownBlock.toList++(Value.slice A n c).ownBlock.toList) (TwP enc e sz A0 n0 c0 xs0 A n c zs)
variable {enc} {M M0 rest:List Ent} {S:List Xmq} {w0 w:World} {e sz:Nat} {A0 A:Option Addr} {n0 c0 n c:Nat} {xs0 zs:List α}
theorem Yg7 (h:TwP enc e sz A0 n0 c0 xs0 A n c zs w):(twE enc e sz A0 n0 c0 xs0 A n c zs).ok w:=by
 refine ⟨fun b hb=>?_,fun w' _ hk=>⟨h.1.keep fun b hb=>hk b (List.mem_append_left _ (by rw [hb]; simp)),h.2.1.keep fun b hb=>hk b (List.mem_append_right _ (by rw [hb]; simp)),h.2.2⟩⟩
 rcases List.mem_append.1 hb with hb | hb
 ·exact Xok.lt h.1 (by rw [Option.mem_toList] at hb; exact hb)
 ·exact Xok.lt h.2.1 (by rw [Option.mem_toList] at hb; exact hb)
theorem Loc.tw0 {z:Nat} (hL:Loc w0 w M S) {j:Nat} (hM:M[j]? = some (.own (.slice A n c) e sz n (zs.flatMap enc))) (ho:Ow z A n c zs):Loc w0 w (M.set j (twE enc e sz A n c zs A n c zs)) S :=
 hL.upd hM (Chg.refl _ w) (Yg7 ⟨hL.get hM,hL.get hM,.inl ⟨rfl,rfl,Nat.le_refl _,by rw [ho.hq,List.take_length]⟩⟩) (fun b hb=>.inl (by rcases List.mem_append.1 hb with hb | hb <;> exact hb))
theorem Loc.untw (hL:Loc w0 w M S) {j:Nat} (hM:M[j]? = some (twE enc e sz A0 n0 c0 xs0 A n c zs)):Loc w0 w (M.set j (.own (.slice A0 n0 c0) e sz n0 (xs0.flatMap enc))) S :=
 hL.upd (e':=.own (.slice A0 n0 c0) e sz n0 (xs0.flatMap enc)) hM (Chg.refl _ w) (Ybt (hL.get hM)).1 (fun b hb=>.inl (List.mem_append_left _ hb))
variable {C:Cx} {ops:Array Oper} {k:List Item} {l:Fm} {ty:TypeId} {pos:String} {after:Ed} {g:Gu} {d:Nat} {Nx:Fm→List Ent→List Xmq→Prop}
theorem g_tw0 {z j:Nat} (hM:M[j]? = some (.own (.slice A n c) e sz n (zs.flatMap enc))) (ho:Ow z A n c zs) (h:G C k l (M.set j (twE enc e sz A n c zs A n c zs)) S):G C k l M S:=fun a w hF hL=>h a w hF (hL.tw0 hM ho)
theorem g_untw {j:Nat} (hM:M[j]? = some (twE enc e sz A0 n0 c0 xs0 A n c zs)) (h:G C k l (M.set j (.own (.slice A0 n0 c0) e sz n0 (xs0.flatMap enc))) S):G C k l M S:=fun a w hF hL=>h a w hF (hL.untw hM)
theorem s_appT {z T bytes:Nat} {x y:Operand} {B:Option Addr} {m c2:Nat} {news:List Value} {ys us:List α} (j:Nat) (hl:∀ a,(enc a).length=sz) (hT:apK C.P T=some (e,sz,bytes))
  (hx:evl l x=some (.slice A n c)) (hy:evl l y=some (.slice B m c2)) (hM:M[j]? = some (twE enc e sz A0 n0 c0 xs0 A n c zs)) (ho:Ow z A n c zs) (hs:Src C M S B m sz news) (hu:news=us.flatMap enc) (hys:ys=zs++us) (hm:m=us.length) (hm0:Nat.ble 1 m=true) (hb:ys.length * bytes≤211106232532992) (hby:(Nat.ble 1 bytes && Nat.ble bytes 1073741824)=true)
  (hd:Nat.ble (d + 1) C.n=true)
  (h:∀ A' c',Ow 0 A' (n + m) c' ys→Nx ((d,.slice A' (n + m) c') :: l) (M.set j (twE enc e sz A0 n0 c0 xs0 A' (n + m) c' ys)) S):Stp C ⟨some d,.call { callee:=.builtin .append,args:=#[x,y],argTypes:=#[T,T] },ty,pos,after,g⟩ l M S Nx :=
 Xxt hd fun a w hF hL=>by
  subst hu hys
  obtain ⟨hold,hown,hrel⟩:=Ybt (hL.get hM)
  obtain ⟨t1,inf,zz,t2,t3,t4,t5,t6,t7⟩:=Xzl hT
  have h0:=Nat.le_of_ble_eq_true hm0
  obtain ⟨ad,rfl⟩:=Option.isSome_iff_exists.1 (hs.at_ h0)
  have hby':=Nat.le_of_ble_eq_true (Bool.and_eq_true_iff.1 hby).1
  have hby30:=Nat.le_of_ble_eq_true (Bool.and_eq_true_iff.1 hby).2
  have hq:n + m=(zs++us).length:=by rw [List.length_append,← ho.hq,hm]
  have hsm:(n + m) * bytes≤211106232532992:=by rw [hq]; exact hb
  have hnm:n + m≤maxLen:=by
   have:(n + m) * 1≤(n + m) * bytes:=Nat.mul_le_mul_left _ hby'
   unfold maxLen; omega
  obtain ⟨v',w',hrun,h2,h5⟩:=Xok.append2 (P:=C.P) T ty t1 t2 t3 t4 t5 t6 t7 hown ad m c2 h0 (us.flatMap enc) hs.len (fun q u hu=>hs.cell w hL q u hu) hs.one hnm hsm hby30
  obtain ⟨A',c',rfl,q1,q2,q3⟩:=h2.form
  rw [← List.flatMap_append] at h2
  have hgo:Loc C.w0 w' (M.set j (twE enc e sz A0 n0 c0 xs0 A' (n + m) c' (zs++us))) S:=by
   rcases h5 with ⟨hv,hch⟩ | ⟨hv,hch⟩
   ·injection hv with e1 _ e3
    subst e1 e3
    have hbl:(Value.slice A' (n + m) c').ownBlock=(Value.slice A' n c').ownBlock:=by cases A' <;> rfl
    refine hL.upd hM ⟨hch.env,fun b hb hn=>hch.keep b hb fun hb'=>hn (List.mem_append_right _ hb')⟩ (Yg7 ?_) (fun b hb=>.inl (by have hb:b ∈ (Value.slice A0 n0 c0).ownBlock.toList++(Value.slice A' (n + m) c').ownBlock.toList:=hb; rw [hbl] at hb; exact hb))
    rcases hrel with ⟨g1,g2,g3,g4⟩ | g1
    ·have := Xok.short h2 (m := n0) (by omega)
     have e5:((zs++us).flatMap enc).take (n0 * sz)=xs0.flatMap enc:=by
      rw [Xym hl,List.take_append_of_le_length (by rw [← ho.hq]; exact g3),← g4]
     rw [e5] at this
     exact ⟨by rw [g1,g2]; exact this,h2,.inl ⟨g1,g2,by omega,by rw [List.take_append_of_le_length (by rw [← ho.hq]; exact g3)]; exact g4⟩⟩
    ·exact ⟨hold.keep fun b hb=>hch.keep b (Xok.lt hold hb) (g1 b (by rw [hb]; simp)),h2,.inr (by rw [hbl]; exact g1)⟩
   ·refine hL.upd hM ⟨hch.env, fun b hb _ => hch.keep b hb (by simp)⟩ (Yg7 ⟨hold.keep fun b hb => hch.keep b (Xok.lt hold hb) (by simp), h2, .inr fun b hb hb' => ?_⟩) (fun b hb => ?_)
    ·rw [hv] at hb'
     simp at hb'
     rw [Option.mem_toList] at hb
     have:=Xok.lt hold hb
     omega
    ·rcases List.mem_append.1 hb with hb | hb
     ·exact .inl (List.mem_append_left _ hb)
     ·rw [hv] at hb
      simp at hb
      exact .inr (by omega)
  refine ⟨_,w',_,_,?_,hgo,h A' c' ⟨hq,q3,q1,q2,fun b hb=>Nat.zero_le _⟩⟩
  simp [execOp,resolve,invoke,builtin,hF.ev hx,hF.ev hy,hrun,Sem.run_pure,Sem.run_bind]
end tw
section fam
variable {τ:Type} {fk:Fk τ} {M:List Ent} {S:List Xmq} {w0 w:World}
variable {C:Cx} {ops:Array Oper} {k:List Item} {l:Fm} {ty:TypeId} {pos:String} {after:Ed} {g:Gu} {d:Nat} {Nx:Fm→List Ent→List Xmq→Prop}
end fam
section wf
variable {C:Cx} {ops:Array Oper} {Mi:List Ent} {Si:List Xmq} {L:List Nat} {fuel:Nat} {lst:Array Bool} {k:List Item} {l:Fm} {M:List Ent} {S:List Xmq} {τ:Type} {fk:Fk τ} {F:Nat→Prop}
theorem wf_famz {hd:Bool} {j:Nat} {z z':Nat} {xs:List τ} {cs:List Value} {bs:List Nat} (hz:z'≤z) (hj:M[j]? = some (Xou fk z none xs cs bs)) (h:WF C ops Mi Si L hd fuel lst k l (M.set j (Xou fk z' none xs cs bs)) S):WF C ops Mi Si L hd fuel lst k l M S:=fun a w hF hL hH=>h a w hF (hL.famz hz hj) hH
end wf
end Go.Proofs.Ytmekgfcfooghnaa.B
