/- Lemmas of my own on the machine: a row that has been appended to, read by its elder name; rows of rows, cut, appended. No condition. -/
import Derived.Test.YtmekgfcfooghnaaBS
set_option linter.unusedVariables false
set_option linter.unusedSimpArgs false
namespace Go.Proofs.Ytmekgfcfooghnaa.B
open Go.RowKit
def Eld (e sz:Nat) (A':Option Addr) (n' c':Nat) (cells':List Value) (bs:List Nat) (p:World→Prop) (A:Option Addr) (n:Nat) (cells:List Value):Prop :=
  ∀ w,(Ent.own (.slice A' n' c') e sz n' cells').ok w→(Ent.deep .nilIface bs p).ok w →
    (0 < n→∃ b,A=some ⟨b,0,none⟩∧(b ∈ (Value.slice A' n' c').ownBlock.toList∨b ∈ bs))∧∀ q u,cells[q]? = some u→Xy7 w A q=some u
theorem Eld.self {e sz n c:Nat} {A:Option Addr} {cells:List Value} {bs:List Nat} {p:World→Prop}:Eld e sz A n c cells bs p A n cells:=fun w h _=>by
  have hown:Xp6 w e sz (.slice A n c) n cells:=h
  refine ⟨fun h0=>?_,fun q u hq=>Xwb hown hq⟩
  obtain ⟨gb,rfl⟩:=hown.addr h0
  exact ⟨gb,rfl,.inl (by simp [Value.ownBlock])⟩
theorem Yez {w:World} {v:Value} {bs:List Nat} {p:World→Prop} (h:(Ent.deep v bs p).ok w):p w:=h.2 w (Nat.le_refl _) fun _ _=>rfl
theorem Loc.absorb {w0 w : World} {M : List Ent} {S : List Xmp} {i j : Nat} {e1 e2 e1' e2' : Ent} (h : Loc w0 w M S) (hij : i ≠ j) (hj : M[j]? = some e1) (hi : M[i]? = some e2) (ok1 : e1'.ok w) (ok2 : e2'.ok w) (hn : e1'.blk = []) (hb : ∀ b ∈ e2'.blk, b ∈ e1.blk ∨ b ∈ e2.blk) :
    Loc w0 w ((M.set j e1').set i e2') S:=by
  have get:∀ k y,((M.set j e1').set i e2')[k]? = some y→(k=i∧y=e2')∨(k=j∧k≠i∧y=e1')∨(k≠i∧k≠j∧M[k]? = some y):=by
    intro k y hk
    rw [List.getElem?_set] at hk
    by_cases c1:i=k
    · subst c1
      rw [if_pos rfl] at hk
      split at hk
      · injection hk with hk; exact .inl ⟨rfl,hk.symm⟩
      · cases hk
    · rw [if_neg c1,List.getElem?_set] at hk
      by_cases c2:j=k
      · subst c2
        rw [if_pos rfl] at hk
        split at hk
        · injection hk with hk; exact .inr (.inl ⟨rfl,fun e=>c1 e.symm,hk.symm⟩)
        · cases hk
      · rw [if_neg c2] at hk
        exact .inr (.inr ⟨fun e=>c1 e.symm,fun e=>c2 e.symm,hk⟩)
  have hfar:∀ k y,k≠i→k≠j→M[k]? = some y→far y.blk e2'.blk:=fun k y h1 h2 hk b hb1 hb2=>by
    rcases hb b hb2 with g | g
    · exact Xsr h.apart h2 hk hj b hb1 g
    · exact Xsr h.apart h1 hk hi b hb1 g
  refine ⟨h.env,fun e he=>?_,?_,fun s hs=>?_⟩
  · obtain ⟨k,hk⟩:=List.mem_iff_getElem?.1 he
    rcases get k e hk with ⟨_,rfl⟩ | ⟨_,_,rfl⟩ | ⟨_,_,hk⟩
    · exact ok2
    · exact ok1
    · exact h.ok e (List.mem_iff_getElem?.2 ⟨k,hk⟩)
  · refine List.pairwise_iff_getElem.2 fun a b ha hb' hab => ?_
    have g1:=get a _ (List.getElem?_eq_getElem ha)
    have g2:=get b _ (List.getElem?_eq_getElem hb')
    generalize ((M.set j e1').set i e2')[a]=x at *
    generalize ((M.set j e1').set i e2')[b]=y at *
    rcases g1 with ⟨c1,rfl⟩ | ⟨c1,_,rfl⟩ | ⟨c1,c1',hk1⟩
    · rcases g2 with ⟨c2,rfl⟩ | ⟨c2,_,rfl⟩ | ⟨c2,c2',hk2⟩
      · omega
      · rw [hn]; intro z _ hz; cases hz
      · exact far.symm' (hfar b y c2 c2' hk2)
    · rw [hn]; intro z hz; cases hz
    · rcases g2 with ⟨c2,rfl⟩ | ⟨c2,_,rfl⟩ | ⟨c2,c2',hk2⟩
      · exact hfar a x c1 c1' hk1
      · rw [hn]; intro z _ hz; cases hz
      · exact Xsr h.apart (by omega) hk1 hk2
  · obtain ⟨h1,h2⟩:=h.snap s hs
    refine ⟨h1,fun b hb1=>⟨(h2 b hb1).1,fun e he=>?_⟩⟩
    obtain ⟨k,hk⟩:=List.mem_iff_getElem?.1 he
    rcases get k e hk with ⟨_,rfl⟩ | ⟨_,_,rfl⟩ | ⟨_,_,hk⟩
    · intro hz
      rcases hb b hz with g | g
      · exact (h2 b hb1).2 e1 (List.mem_iff_getElem?.2 ⟨j,hj⟩) g
      · exact (h2 b hb1).2 e2 (List.mem_iff_getElem?.2 ⟨i,hi⟩) g
    · rw [hn]; intro hz; cases hz
    · exact (h2 b hb1).2 e (List.mem_iff_getElem?.2 ⟨k,hk⟩)
theorem Xp6.append2 {w : World} {e sz n : Nat} {A : Option Addr} {c0 : Nat} {xs : List Value} {P : Program} (t ty : TypeId) {i : TypeInfo} {z : Value} {bytes : Nat} (ht : P.underlying t = some (.slice e)) (hi : P.info? e = some i) (hz : i.zero = some z) (hsize : i.size = sz) (hby : i.bytes = bytes) (hzs : z.cells.size = sz) (hsz : 0 < sz)
    (hown:Xp6 w e sz (.slice A n c0) n xs) (a:Addr) (m c:Nat) (hm0:0 < m) (news:List Value) (hl:news.length=m * sz) (hnews:∀ j u,news[j]? = some u→w.cell? (a.add j)=some u) (h1:∀ u ∈ news,u.oneCell'=true) (h63:n + m≤maxLen) (hbytes:(n + m) * bytes≤211106232532992) (hb30:bytes≤1073741824) :
    ∃ v' w',(Builtin.append_ #[t,t] ty #[.slice A n c0,.slice (some a) m c]).run P w=.ok v' w'∧Xp6 w' e sz v' (n + m) (xs++news)∧((v'=.slice A (n + m) c0∧Chg (Value.slice A n c0).ownBlock.toList w w')∨(v'.ownBlock=some w.heap.size∧Chg [] w w')):=by
  rcases hown.2 with ⟨hv,rfl⟩ | ⟨g,cap,cur,fz,hv,hg,hth,hnc,hcm,hcs,htake⟩
  · injection hv with e1 _ e3
    subst e1; subst e3
    have hx:xs=[]:=List.eq_nil_of_length_eq_zero (by simpa using hown.1)
    subst hx
    subst hsize
    subst hby
    have hr:=run_append_nil (P:=P) w t ty e i z ht hi hz a m c news hl hnews hm0 (by simp only [maxLen] at h63; omega) (by have hb:=hbytes; simp only [Nat.zero_add] at hb; omega)
    have hge:=grownCap_ge w m 0 e
    have hcm':grownCap w m 0 e≤maxLen:=grownCap_le_maxLen w m 0 e (by omega)
    simp only [Nat.zero_add,List.nil_append]
    refine ⟨_,_,hr,⟨hl,.inr ⟨w.heap.size,_,_,(0,0),rfl,heap_alloc_new w.drew _,.inl (Nat.le_refl _),hge,hcm',?_,?_⟩⟩,.inr ⟨rfl,⟨⟨rfl,rfl,rfl,by simp⟩,fun k hk _=>heap_alloc_old w.drew _ (by simpa using hk)⟩⟩⟩
    · simp only [Array.size_append,List.size_toArray,size_zeroCells,hzs,hl,← Nat.add_mul]
      congr 1
      omega
    · simp only [Array.toList_append]
      rw [← hl]
      exact List.take_left
  · injection hv with e1 _ e3
    subst e1; subst e3
    have hlen:(xs++news).length=(n + m) * sz:=by rw [List.length_append,hown.1,hl,Nat.add_mul]
    subst hsize
    by_cases hroom:n + m≤c0
    · have hfit:n * i.size + 0 + news.length≤cur.size:=by rw [hl,hcs,Nat.add_zero,← Nat.add_mul]; exact Nat.mul_le_mul_right _ hroom
      have hf:=run_firstCells_some (P:=P) w i.size m a m c news hl hnews
      have hst:=Xvb P g (n * i.size) e fz news 0 cur w hg (by rw [hcs]; exact hth) hfit h1
      simp only [Nat.add_zero] at hst
      have hrun:(Builtin.append_ #[t,t] ty #[.slice (some ⟨g,0,none⟩) n c0,.slice (some a) m c]).run P w=.ok (.slice (some ⟨g,0,none⟩) (n + m) c0) (w.setRow g (cur.toList.take (n * i.size)++news++cur.toList.drop (n * i.size + news.length)).toArray):=by
        simp [Builtin.append_,run_underlying ht,sizeOf,typeInfo,hi,Builtin.lenOf,hroom,hf,Addr.add_lit,hst]
      refine ⟨_,_,hrun,⟨hlen,.inr ⟨g,c0,_,fz,rfl,setRow_heap w g cur _ e _ hg,hth,hroom,hcm,?_,?_⟩⟩,.inl ⟨rfl,⟨⟨rfl,rfl,rfl,by simp⟩,fun k _ hk=>setRow_other w g k _ (fun e=>hk (by simp [Value.ownBlock,e]))⟩⟩⟩
      · simp only [List.size_toArray,List.length_append,List.length_take,List.length_drop,Array.length_toList]
        omega
      · rw [htake,← hlen]
        exact List.take_left
    · have holds:∀ j u,xs[j]? = some u→w.cell? ((⟨g,0,none⟩:Addr).add j)=some u:=fun j u hj=>by
        rw [Xtu,Nat.zero_add,hown.cellAt j (by rw [← hown.1]; exact (List.getElem?_eq_some_iff.1 hj).1)]
        exact hj
      subst hby
      have hr:=run_append_grow (P:=P) w t ty e i z ht hi hz ⟨g,0,none⟩ n c0 xs hown.1 holds a m c news hl hnews (by omega) (by simp only [maxLen] at h63; omega) (Xvw (by omega) hbytes hb30)
      have hge:=grownCap_ge w (n + m) c0 e
      have hcm':grownCap w (n + m) c0 e≤maxLen:=grownCap_le_maxLen w (n + m) c0 e h63
      refine ⟨_,_,hr,⟨hlen,.inr ⟨w.heap.size,_,_,(0,0),rfl,heap_alloc_new w.drew _,.inl (Nat.le_refl _),hge,hcm',?_,?_⟩⟩,.inr ⟨rfl,⟨⟨rfl,rfl,rfl,by simp⟩,fun k hk _=>heap_alloc_old w.drew _ (by simpa using hk)⟩⟩⟩
      · simp only [Array.size_append,List.size_toArray,size_zeroCells,hzs,hown.1,hl,← Nat.add_mul]
        congr 1
        omega
      · simp only [Array.toList_append,List.append_assoc]
        rw [← List.append_assoc,← hlen]
        exact List.take_left
section ops
variable {C:Cx} {ops:Array Oper} {k:List Item} {l l':Fm} {M M' M0 rest:List Ent} {S S':List Xmp} {ty:TypeId} {pos:String} {after:Ed} {g:Gu} {d:Nat} {Nx:Fm→List Ent→List Xmp→Prop}
theorem Loc.deep0 {w0 w:World} (hL:Loc w0 w M S):Loc w0 w (.deep .nilIface [] (fun _=>True) :: M) S :=
  hL.add (e:=.deep .nilIface [] (fun _=>True)) (Chg.refl _ w) ⟨fun b hb=>(by cases hb),fun _ _ _=>trivial⟩ (fun b hb=>by cases hb)
theorem w_deep0 {i:Nat} (h:WL C ops i k l (.deep .nilIface [] (fun _=>True) :: M) S):WL C ops i k l M S:=fun a w hF hL=>h a w hF hL.deep0
theorem Ybe {α:Type} {M:List α} {j:Nat} {x:α} (h:M[j]? = some x):M.set j x=M:=by
  apply List.ext_getElem?
  intro q
  rw [List.getElem?_set]
  split
  · rename_i e1; subst e1; rw [h]; simp [(List.getElem?_eq_some_iff.1 h).1]
  · rfl
theorem s_appE {α : Type} {z0 : Nat} {ys zs : List α} {T e sz bytes : Nat} {x y : Operand} {A B A0 : Option Addr} {n c m c2 n0 : Nat} {cells news cells' cells0 : List Value} {bs : List Nat} {p : World → Prop} (j i : Nat) (hij : Nat.beq i j = false) (hT : apK C.P T = some (e, sz, bytes))
    (hx:evl l x=some (.slice A n c)) (hy:evl l y=some (.slice B m c2)) (hM:M[j]? = some (.own (.slice A n c) e sz n cells)) (hMi:M[i]? = some (.deep .nilIface bs p)) (hE:Eld e sz A n c cells bs p A0 n0 cells0) (ho:Ow z0 A n c ys) (hz0:z0≤C.w0.heap.size) (hs:Src C M S B m sz news) (hc:cells++news=cells') (hz:zs.length=ys.length + m) (hb:zs.length * bytes≤211106232532992) (hby:(Nat.ble 1 bytes && Nat.ble bytes 1073741824)=true)
    (hd:Nat.ble (d + 1) C.n=true)
    (h:∀ A' c' bs' p',Ow z0 A' (n + m) c' zs→Eld e sz A' (n + m) c' cells' bs' p' A0 n0 cells0→Nx ((d,.slice A' (n + m) c') :: l) ((M.set j (.own (.slice A' (n + m) c') e sz (n + m) cells')).set i (.deep .nilIface bs' p')) S):Stp C ⟨some d,.call { callee:=.builtin .append,args:=#[x,y],argTypes:=#[T,T] },ty,pos,after,g⟩ l M S Nx :=
  Ybd hd fun a w hF hL=>by
    subst hc
    have hne:i≠j:=Nat.ne_of_beq_eq_false hij
    have hown:Xp6 w e sz (.slice A n c) n cells:=hL.ok _ (List.mem_iff_getElem?.2 ⟨j,hM⟩)
    have hq:n + m=zs.length:=by rw [hz,ho.hq]
    rcases Nat.eq_zero_or_pos m with h0 | h0
    · subst h0
      have hnil:news=[]:=by have:=hs.len; simp at this; exact this
      subst hnil
      have hh:=h A c bs p ⟨by omega,ho.hA,ho.hn,ho.hm,fun b hb=>ho.hz b (by cases A <;> exact hb)⟩ (by simpa using hE)
      simp only [Nat.add_zero,List.append_nil] at hh
      rw [Ybe hM,Ybe hMi] at hh
      refine ⟨.slice A n c,w,M,S,?_,hL,hh⟩
      simp [execOp,resolve,invoke,builtin,hF.ev hx,hF.ev hy,Ydd hT hown,Sem.run_pure,Sem.run_bind]
    · obtain ⟨t1,inf,z,t2,t3,t4,t5,t6,t7⟩:=Yb0 hT
      obtain ⟨ad,rfl⟩:=Option.isSome_iff_exists.1 (hs.at_ h0)
      have hby':=Nat.le_of_ble_eq_true (Bool.and_eq_true_iff.1 hby).1
      have hby30:=Nat.le_of_ble_eq_true (Bool.and_eq_true_iff.1 hby).2
      have hsm:(n + m) * bytes≤211106232532992:=by rw [hq]; exact hb
      have hnm:n + m≤maxLen:=by
        have:(n + m) * 1≤(n + m) * bytes:=Nat.mul_le_mul_left _ hby'
        unfold maxLen; omega
      obtain ⟨v',w',hrun,h2,h3⟩:=Xp6.append2 (P:=C.P) T ty t1 t2 t3 t4 t5 t6 t7 hown ad m c2 h0 news hs.len (fun q u hu=>hs.cell w hL q u hu) hs.one hnm hsm hby30
      obtain ⟨A',c',rfl,f1,f2,f3⟩:=h2.form
      have hX:(execOp a.eval ⟨some d,.call { callee:=.builtin .append,args:=#[x,y],argTypes:=#[T,T] },ty,pos,after,g⟩).run C.P w=.ok (.value (.slice A' (n + m) c')) w':=by
        simp [execOp,resolve,invoke,builtin,hF.ev hx,hF.ev hy,hrun,Sem.run_pure,Sem.run_bind]
      rcases h3 with ⟨h3,h4⟩ | ⟨h3,h4⟩
      · injection h3 with e1 _ e3
        subst e1; subst e3
        refine ⟨_,w',_,_,hX,?_,h A' c' bs p ⟨hq,f3,f1,f2,fun b hb=>ho.hz b (by cases A' <;> exact hb)⟩ fun w2 k1 k2=>?_⟩
        · have h5 := hL.upd (e' := .own (.slice A' (n + m) c') e sz (n + m) (cells ++ news)) hM h4 h2 (fun b hb => .inl (by cases A' <;> exact hb))
          have e4:(M.set j (.own (.slice A' (n + m) c') e sz (n + m) (cells++news))).set i (.deep .nilIface bs p)=M.set j (.own (.slice A' (n + m) c') e sz (n + m) (cells++news)) :=
            Ybe (by rw [List.getElem?_set,if_neg (fun e=>hne e.symm)]; exact hMi)
          rw [e4]
          exact h5
        · have k3:Xp6 w2 e sz (.slice A' (n + m) c') (n + m) (cells++news):=k1
          have k4:=k3.short (m:=n) (Nat.le_add_right _ _)
          rw [← hown.1,List.take_left] at k4
          obtain ⟨g1,g2⟩:=hE w2 k4 k2
          refine ⟨fun hp=>?_,g2⟩
          obtain ⟨b,q1,q2⟩:=g1 hp
          exact ⟨b,q1,q2.imp (fun q=>by cases A' <;> exact q) id⟩
      · refine ⟨_, w', _, _, hX, ?_, h A' c' ((Value.slice A n c).ownBlock.toList ++ bs) (fun w2 => (Ent.own (.slice A n c) e sz n cells).ok w2 ∧ (Ent.deep .nilIface bs p).ok w2) ⟨hq, f3, f1, f2, fun b hb => ?_⟩ fun w2 k1 k2 => ?_⟩
        · have hD:=hL.ok _ (List.mem_iff_getElem?.2 ⟨i,hMi⟩)
          have hO:=hL.ok _ (List.mem_iff_getElem?.2 ⟨j,hM⟩)
          have h5 := hL.absorb (e1' := .own (.slice none 0 0) e sz 0 []) (e2' := .deep .nilIface ((Value.slice A n c).ownBlock.toList ++ bs) (fun w2 => (Ent.own (.slice A n c) e sz n cells).ok w2 ∧ (Ent.deep .nilIface bs p).ok w2)) hne hM hMi (Xp6.nil w e sz)
            ⟨fun b hb=>by
              rcases List.mem_append.1 hb with q | q
              · exact Ent.lt hO q
              · exact Ent.lt hD q,fun w2 q1 q2=>⟨Ent.keep hO q1 fun b hb=>q2 b (List.mem_append.2 (.inl hb)),Ent.keep hD q1 fun b hb=>q2 b (List.mem_append.2 (.inr hb))⟩⟩ rfl (fun b hb=>List.mem_append.1 hb)
          have hj2:((M.set j (.own (.slice none 0 0) e sz 0 [])).set i (.deep .nilIface ((Value.slice A n c).ownBlock.toList++bs) (fun w2=>(Ent.own (.slice A n c) e sz n cells).ok w2∧(Ent.deep .nilIface bs p).ok w2)))[j]? = some (.own (.slice none 0 0) e sz 0 []):=by
            rw [List.getElem?_set,if_neg hne,List.getElem?_set,if_pos rfl,if_pos (List.getElem?_eq_some_iff.1 hM).1]
          have h6:=h5.upd (e':=.own (.slice A' (n + m) c') e sz (n + m) (cells++news)) hj2 h4 h2 (fun b hb=>.inr (by
            have hb:b ∈ (Value.slice A' (n + m) c').ownBlock.toList:=hb
            rw [h3] at hb
            simp at hb
            omega))
          have e4:∀ (X Y D:Ent),((M.set j X).set i D).set j Y=(M.set j Y).set i D:=fun X Y D=>by
            rw [List.set_comm _ _ hne,List.set_set]
          rw [e4] at h6
          exact h6
        · rw [h3] at hb
          injection hb with hb
          have:=hL.env.size
          omega
        · have k3:=Yez k2
          obtain ⟨g1,g2⟩:=hE w2 k3.1 k3.2
          refine ⟨fun hp=>?_,g2⟩
          obtain ⟨b,q1,q2⟩:=g1 hp
          exact ⟨b,q1,.inr (List.mem_append.2 q2)⟩
end ops
end Go.Proofs.Ytmekgfcfooghnaa.B
