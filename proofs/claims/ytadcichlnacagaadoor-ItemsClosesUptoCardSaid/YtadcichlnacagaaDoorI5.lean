/- The document's closing answers the least closed set. No condition but the size. -/
import Derived.Test.YtadcichlnacagaaDoorI4
set_option linter.unusedVariables false
namespace Go.Proofs.YtadcichlnacagaaDoor.L
open Go.Proofs.YtadcichlnacagaaDoor.B Go.Proofs.YtadcichlnacagaaDoor.R
theorem looks_ok {g:Yu5} (s:Yu8) {row:List Yut} (hl:row.length < 2 ^ 60) (hr:∀ r ∈ row,0≤r.sym∧r.sym < (nA g:Int)) (L:Int):Yz7 (Ywi g s) row L (ofV s row L,Ywi g s):=by
 unfold Yz7
 have lv:(Yxi g s).length=nA g:=by simp [Yxi]
 have lf:(Yyb g s).length=nA g:=by simp [Yyb]
 have key:=Yui.pair row (fun out i=>((out,i):Int × Int)) (B:=fun (q:Int × Int) o=>Yw4 row (Ywi g s) L q.1 q.2 o) (ofF s) (fun out=>(out,true)) (fun x=>(if x.2=true then OR x.1 L else x.1,Ywi g s)) (fun i hi out=>?_) (fun out=>?_) 0
 ·exact key
 ·obtain ⟨h1,h2⟩:=hr _ (List.getElem_mem hi)
  have hj:row[i].sym.toNat < nA g:=by omega
  have hjz:((row[i].sym.toNat:Nat):Int)=row[i].sym:=Int.toNat_of_nonneg h1
  have hv:=Zmz (g:=g) (s:=s) hj
  have hf:=Zog (g:=g) (s:=s) hj
  rw [hjz] at hv hf
  have step:∀ o,(if s.vanishes row[i].sym=true then o=(Sum.inl (OR out (s.first row[i].sym),(i:Int) + 1):Sum (Int × Int) (Int × Yuc)) else o=.inr (OR out (s.first row[i].sym),Ywi g s))→Yw4 row (Ywi g s) L out (i:Int) o:=fun o ho=>by
   unfold Yw4
   rw [if_pos (by omega),Yvv hi,Yw3 (by omega)]
   show _∧(_∧_ < ((Yyb g s).length:Int))∧(_∧_ < ((Yxi g s).length:Int))∧if ix (Yxi g s) row[i].sym=true then o=.inl (OR out (ix (Yyb g s) row[i].sym),_) else o=.inr (OR out (ix (Yyb g s) row[i].sym),_)
   rw [lv,lf,hv,hf]
   exact ⟨by omega,by omega,by omega,ho⟩
  constructor
  ·intro s' h
   refine step _ ?_
   unfold ofF at h
   split at h
   ·rename_i hv
    injection h with h
    subst h
    rw [if_pos hv]
   ·cases h
  ·intro r h
   refine step _ ?_
   unfold ofF at h
   split at h
   ·cases h
   ·rename_i hv
    injection h with h
    subst h
    rw [if_neg hv]
    rfl
 ·show Yw4 row (Ywi g s) L out (row.length:Int) _
  unfold Yw4
  rw [if_neg (by omega)]
  rfl
abbrev stD (g:Yu5) (s:Yu8) (v:List Int) (b:Bool):=(v,b,g.terms,g.syms,g.prods,Yxi g s,Yyb g s,Za0 g g.prods.length,((nN g:Nat):Int))
abbrev stDi (g:Yu5) (s:Yu8) (v:List Int) (b:Bool) (i:Int):=(v,b,i,g.terms,g.syms,g.prods,Yxi g s,Yyb g s,Za0 g g.prods.length,((nN g:Nat):Int))
abbrev TD:=(List Int) × Bool × (List Yup) × (List Yvn) × (List Yuf) × (List Bool) × (List Int) × (List Int) × Int
abbrev TDi:=(List Int) × Bool × Int × (List Yup) × (List Yvn) × (List Yuf) × (List Bool) × (List Int) × (List Int) × Int
theorem Zj0 {g:Yu5} {n p:Nat} (h:p < n):ix (Za0 g n) (p:Int)=((atN g p:Nat):Int):=by
 rw [Yvv (by simp [Za0]; exact h)]; simp [Za0]
theorem Zhg {g:Yu5} {p d:Nat} (hd:d < (Yvk g p).length):(ix (Yvk g p) (d:Int)).sym=Yw5 g p d:=by unfold Yw5; rw [if_pos hd]
theorem beh_ok {g:Yu5} (hr:Yxx g=true) {p:Nat} (hp:p < g.prods.length) (d:Nat):∀ r ∈ behind g p d,0≤r.sym∧r.sym < (nA g:Int):=fun r h=>by
 have hm:=List.mem_of_mem_drop h
 obtain ⟨i,hi,rfl⟩:=List.getElem_of_mem hm
 have:=Zlb hr hp hi
 rw [Yvv hi] at this
 unfold nA
 omega
theorem Zt0 {g:Yu5} (hb:Big g) (hr:Yxx g=true) {s:Yu8} {p d:Nat} (hp:p < g.prods.length) (hd:d < (Yvk g p).length) (L:Int) (a:List Int × Bool) (ha:a.1.length=nN g) :
  Yui (fun (q:(List Int) × Bool × Int) o=>Ywe (L,Ywi g s) (d:Int) g.prods (p:Int) q.1 q.2.1 q.2.2 o) (a.1,a.2,1) (.inl (stDi g s (Zde (dq g (Yw5 g p d) L) (g.prods.length - 1) a).1 (Zde (dq g (Yw5 g p d) L) (g.prods.length - 1) a).2 ((d:Int) + 1)):Sum TDi (Sum TDi (Sum TD ((List Int) × Yuc)))):=by
 have hN:=hb.n
 have hP:=hb.lg.p
 have hT:=hb.lg.t
 have hS:=hb.lg.s
 have hin:=Zcz hp hd
 have hrow:(ix g.prods (p:Int)).rhs=Yvk g p:=rfl
 have hlen:∀ i,(Zde (dq g (Yw5 g p d) L) i a).1.length=nN g:=fun i=>by
  induction i with
  | zero=>exact ha
  | succ i ih =>
   rw [Zde]
   unfold dq
   split
   ·show (add _ _ _).length=_
    rw [Zl1]; exact ih
   ·exact ih
 have key:=Yui.upto (B:=fun (q:(List Int) × Bool × Int) o=>Ywe (L,Ywi g s) (d:Int) g.prods (p:Int) q.1 q.2.1 q.2.2 o) (r:=(.inl (stDi g s (Zde (dq g (Yw5 g p d) L) (g.prods.length - 1) a).1 (Zde (dq g (Yw5 g p d) L) (g.prods.length - 1) a).2 ((d:Int) + 1)):Sum TDi (Sum TDi (Sum TD ((List Int) × Yuc))))) (fun i=>((Zde (dq g (Yw5 g p d) L) i a).1,(Zde (dq g (Yw5 g p d) L) i a).2,(i:Int) + 1)) (g.prods.length - 1) (fun i hi=>?_) ?_
 ·exact key
 ·show Ywe (L,Ywi g s) (d:Int) g.prods (p:Int) (Zde (dq g (Yw5 g p d) L) i a).1 (Zde (dq g (Yw5 g p d) L) i a).2 ((i:Int) + 1) (.inl ((dq g (Yw5 g p d) L i (Zde (dq g (Yw5 g p d) L) i a)).1,(dq g (Yw5 g p d) L i (Zde (dq g (Yw5 g p d) L) i a)).2,((i + 1:Nat):Int) + 1))
  have hli:=hlen i
  revert hli
  generalize Zde (dq g (Yw5 g p d) L) i a=b
  intro hli
  have hin2:=Zcz (g:=g) (p:=i + 1) (by omega) (Nat.zero_le _)
  have e1:w64 ((i:Int) + 1 + 1)=((i + 1:Nat):Int) + 1:=by rw [Yyq (by omega)]; omega
  have ei:(i:Int) + 1=((i + 1:Nat):Int):=by omega
  unfold Ywe
  rw [e1,ei,hrow,Zhg hd]
  show if ((i + 1:Nat):Int) < (g.prods.length:Int) then (0≤((i + 1:Nat):Int)∧((i + 1:Nat):Int) < (g.prods.length:Int))∧_∧(if w64 (Zc4 g (i + 1) + (g.terms.length:Int))=Yw5 g p d then (0≤((i + 1:Nat):Int)∧((i + 1:Nat):Int) < ((Za0 g g.prods.length).length:Int))∧(0≤ix (Za0 g g.prods.length) ((i + 1:Nat):Int)∧ix (Za0 g g.prods.length) ((i + 1:Nat):Int) < (b.1.length:Int))∧∃ x5211:List Int,(x5211=b.1.set (ix (Za0 g g.prods.length) ((i + 1:Nat):Int)).toNat (OR (ix b.1 (ix (Za0 g g.prods.length) ((i + 1:Nat):Int))) L))∧_ else _) else _
  rw [if_pos (by omega),Zj0 (by omega),Int.toNat_natCast]
  have hlh:=Zpa hr (p:=i + 1) (by omega) (by omega)
  refine ⟨by omega,by omega,?_⟩
  rw [Yyq (by omega)]
  unfold dq
  by_cases e:Zc4 g (i + 1) + (g.terms.length:Int)=Yw5 g p d
  ·rw [if_pos e,if_pos e]
   refine ⟨by simp [Za0]; omega,by rw [hli]; omega,_,rfl,?_⟩
   by_cases hc:b.2=true
   ·rw [if_pos hc]
    show Sum.inl (_,(if b.2=true then true else _),_)=_
    rw [if_pos hc]
    rfl
   ·rw [if_neg hc]
    show Sum.inl (_,(if b.2=true then true else _),_)=Sum.inl (_,OR (ix b.1 (ix (Za0 g g.prods.length) ((i + 1:Nat):Int))) L != ix b.1 (ix (Za0 g g.prods.length) ((i + 1:Nat):Int)),_)
    rw [if_neg hc,Zj0 (by omega)]
    rfl
  ·rw [if_neg e,if_neg e]
 ·show Ywe (L,Ywi g s) (d:Int) g.prods (p:Int) _ _ (((g.prods.length - 1:Nat):Int) + 1) _
  unfold Ywe
  rw [if_neg (by show ¬ (((g.prods.length - 1:Nat):Int) + 1 < (g.prods.length:Int)); omega),Yw3 (by omega)]
  rfl
theorem dp_len {g:Yu5} {s:Yu8} {X L:Int} {p:Nat}:(∀ i (a:List Int × Bool),(dq g X L i a).1.length=a.1.length)∧(∀ d (a:List Int × Bool),(dd g s p d a).1.length=a.1.length)∧∀ (a:List Int × Bool),(dp g s p a).1.length=a.1.length:=by
 have hR:∀ (f:Nat→List Int × Bool→List Int × Bool),(∀ i a,(f i a).1.length=a.1.length)→∀ n a,(Zde f n a).1.length=a.1.length:=fun f hf n=>by
  induction n with
  | zero=>exact fun a=>rfl
  | succ n ih=>exact fun a=>by rw [Zde,hf,ih]
 have h1:∀ X L i (a:List Int × Bool),(dq g X L i a).1.length=a.1.length:=fun X L i a=>by
  unfold dq
  split
  ·exact Zl1 _ _ _
  ·rfl
 have h2:∀ d (a:List Int × Bool),(dd g s p d a).1.length=a.1.length:=fun d a=>by
  unfold dd
  split
  ·rfl
  ·exact hR _ (h1 _ _) _ _
 exact ⟨h1 X L,h2,fun a=>hR _ h2 _ _⟩
theorem Zn7 {f:Nat→List Int × Bool→List Int × Bool} (hf:∀ i a,(f i a).1.length=a.1.length):∀ n a,(Zde f n a).1.length=a.1.length
 | 0,a=>rfl
 | n + 1,a=>by rw [Zde,hf,Zn7 hf n a]
theorem Ztj {g:Yu5} (hb:Big g) (hr:Yxx g=true) {s:Yu8} {p d:Nat} (hp:p < g.prods.length) (hd:d < (Yvk g p).length) (a:List Int × Bool) (ha:a.1.length=nN g) :
  Yww g.prods (p:Int) a.1 a.2 (d:Int) g.terms g.syms g.prods (Yxi g s) (Yyb g s) (Za0 g g.prods.length) ((nN g:Nat):Int) (.inl (stDi g s (dd g s p d a).1 (dd g s p d a).2 ((d:Int) + 1))):=by
 have hN:=hb.n
 have hP:=hb.lg.p
 have hin:=Zcz hp (Nat.le_of_lt hd)
 have hrl:=lgix hb.lg p
 have hrow:(ix g.prods (p:Int)).rhs=Yvk g p:=rfl
 have e0:w64 (((atN g p:Nat):Int) + (d:Int))=((atN g p + d:Nat):Int):=by rw [Yyq (by omega)]; omega
 have e1:w64 ((d:Int) + 1)=(d:Int) + 1:=Yyq (by omega)
 unfold Yww
 rw [hrow,if_pos (by omega),Zj0 hp,e0]
 refine ⟨by simp [Za0]; exact hp,by rw [ha]; omega,?_⟩
 show if vx a.1 (atN g p + d)=0 then _ else _
 unfold dd
 by_cases h1:vx a.1 (atN g p + d)=0
 ·rw [if_pos h1,if_pos (.inl h1)]
  unfold Yyp
  rw [if_pos rfl,e1]
 ·rw [if_neg h1,Zhg hd]
  refine ⟨by omega,?_⟩
  unfold Yyp
  by_cases h2:Yw5 g p d < (g.terms.length:Int)
  ·rw [decide_eq_true h2,if_pos rfl,if_pos (.inr h2),e1]
  ·rw [decide_eq_false h2, if_neg (by simp), if_neg (fun h => h.elim h1 h2), e1, hrow, Zj0 hp, e0]
   refine ⟨by omega,(ofV s (behind g p d) (vx a.1 (atN g p + d)),Ywi g s),?_,?_⟩
   ·have := looks_ok (g := g) s (row := behind g p d) (by unfold behind; rw [List.length_drop]; have : (Yvk g p).length < 2 ^ 60 := hrl; omega) (beh_ok hr hp d) (vx a.1 (atN g p + d))
    have e2:((d:Int) + 1).toNat=d + 1:=by omega
    rw [e2]
    exact this
   ·exact Zt0 hb hr hp hd _ a ha
theorem Zt4 {g:Yu5} (hb:Big g) (hr:Yxx g=true) {s:Yu8} {p:Nat} (hp:p < g.prods.length) (a:List Int × Bool) (ha:a.1.length=nN g) :
  Yws a.1 a.2 (p:Int) g.terms g.syms g.prods (Yxi g s) (Yyb g s) (Za0 g g.prods.length) ((nN g:Nat):Int) (.inl (stDi g s (dp g s p a).1 (dp g s p a).2 ((p:Int) + 1))):=by
 have hP:=hb.lg.p
 have hrow:(ix g.prods (p:Int)).rhs=Yvk g p:=rfl
 have hl:∀ i,(Zde (dd g s p) i a).1.length=nN g:=fun i=>by
  rw [Zn7 (dp_len (X:=0) (L:=0)).2.1]; exact ha
 unfold Yws
 rw [if_pos (by omega)]
 refine ⟨by omega,?_⟩
 have key:=Yui.upto (B:=fun (q:TDi) o=>Yww g.prods (p:Int) q.1 q.2.1 q.2.2.1 q.2.2.2.1 q.2.2.2.2.1 q.2.2.2.2.2.1 q.2.2.2.2.2.2.1 q.2.2.2.2.2.2.2.1 q.2.2.2.2.2.2.2.2.1 q.2.2.2.2.2.2.2.2.2 o) (r:=(.inl (stDi g s (dp g s p a).1 (dp g s p a).2 ((p:Int) + 1)):Sum TDi (Sum TD ((List Int) × Yuc)))) (fun i=>stDi g s (Zde (dd g s p) i a).1 (Zde (dd g s p) i a).2 (i:Int)) (Yvk g p).length (fun i hi=>?_) ?_
 ·exact key
 ·have:=Ztj hb hr (s:=s) hp hi (Zde (dd g s p) i a) (hl i)
  exact this
 ·show Yww g.prods (p:Int) _ _ ((Yvk g p).length:Int) _ _ _ _ _ _ _ _
  unfold Yww
  rw [hrow,if_neg (by omega),Yw3 (by omega)]
  rfl
theorem Zqy {g:Yu5} (hb:Big g) (hr:Yxx g=true) {s:Yu8} (v:List Int) (ha:v.length=nN g) :
  Ywy v true g.terms g.syms g.prods (Yxi g s) (Yyb g s) (Za0 g g.prods.length) ((nN g:Nat):Int) (.inl (stD g s (Zmq g s v).1 (Zmq g s v).2)):=by
 have hP:=hb.lg.p
 have hl:∀ i,(Zde (dp g s) i (v,false)).1.length=nN g:=fun i=>by
  rw [Zn7 (fun p a=>(dp_len (X:=0) (L:=0)).2.2 a)]; exact ha
 unfold Ywy
 rw [if_pos rfl]
 have key:=Yui.upto (B:=fun (q:TDi) o=>Yws q.1 q.2.1 q.2.2.1 q.2.2.2.1 q.2.2.2.2.1 q.2.2.2.2.2.1 q.2.2.2.2.2.2.1 q.2.2.2.2.2.2.2.1 q.2.2.2.2.2.2.2.2.1 q.2.2.2.2.2.2.2.2.2 o) (r:=(.inl (stD g s (Zmq g s v).1 (Zmq g s v).2):Sum TD ((List Int) × Yuc))) (fun i=>stDi g s (Zde (dp g s) i (v,false)).1 (Zde (dp g s) i (v,false)).2 (i:Int)) g.prods.length (fun i hi=>?_) ?_
 ·exact key
 ·exact Zt4 hb hr (s:=s) hi (Zde (dp g s) i (v,false)) (hl i)
 ·show Yws _ _ (g.prods.length:Int) _ _ _ _ _ _ _ _
  unfold Yws
  rw [if_neg (by show ¬ ((g.prods.length:Int) < (g.prods.length:Int)); omega)]
  rfl
theorem Zrx {g:Yu5} (hb:Big g) (hr:Yxx g=true) {s:Yu8} (hs:Ok s) {v0:List Int} (hl:v0.length=nN g) (hv:OkV v0):∃ v,Yxq (Ywi g s) v0 (v,Ywi g s)∧Zju g s v0 v:=by
 have key:=Yui.some (B:=fun (q:TD) o=>Ywy q.1 q.2.1 q.2.2.1 q.2.2.2.1 q.2.2.2.2.1 q.2.2.2.2.2.1 q.2.2.2.2.2.2.1 q.2.2.2.2.2.2.2.1 q.2.2.2.2.2.2.2.2 o) (P:=fun r=>∃ v,r=(v,Ywi g s)∧Zju g s v0 v)
  (fun q=>∃ v b,q=stD g s v b∧v.length=nN g∧OkV v∧LeV v0 v∧(b=false→ClV g s v)∧∀ u,OkV u→ClV g s u→LeV v0 u→LeV v u) (fun q=>2 * Zbp q.1 + (if q.2.1=true then 1 else 0)) (fun q hq=>?_) (s:=stD g s v0 true) ⟨v0,true,rfl,hl,hv,LeV.refl _,(fun h=>by cases h),fun u _ _ h=>h⟩
 ·obtain ⟨r,h1,v,rfl,h2⟩:=key
  exact ⟨v,h1,h2⟩
 ·obtain ⟨v,b,rfl,h1,h2,h3,h4,h5⟩:=hq
  cases b with
  | false =>
   left
   refine ⟨(v,Ywi g s),?_,v,rfl,⟨h1,h2,h3,h4 rfl,h5⟩⟩
   show Ywy v false _ _ _ _ _ _ _ _
   unfold Ywy
   rw [if_neg (by simp)]
   rfl
  | true =>
   right
   have ha:=dall_adv hs hr h1 h2
   refine ⟨_,Zqy hb hr v h1,⟨(Zmq g s v).1,(Zmq g s v).2,rfl,ha.ok.len,ha.ok.ok,h3.trans ha.le,fun h=>?_,fun u k1 k2 k3=>ha.below u k1 k2 (h5 u k1 k2 k3)⟩,?_⟩
   ·obtain ⟨e1,e2⟩:=ha.no h
    rw [e1]; exact e2
   ·show 2 * Zbp (Zmq g s v).1 + (if (Zmq g s v).2=true then 1 else 0) < 2 * Zbp v + (if true=true then 1 else 0)
    rw [if_pos rfl]
    cases hc:(Zmq g s v).2 with
    | false =>
     have:=ha.me
     rw [if_neg (by simp)]
     have:Zbp (Zmq g s v).1≤Zbp v:=this
     omega
    | true =>
     have:Zbp (Zmq g s v).1 < Zbp v:=ha.yes rfl hc
     rw [if_pos rfl]
     omega
end Go.Proofs.YtadcichlnacagaaDoor.L
