/- Closing sets of places: the least that holds the start and the rule; the document finds it. No condition but the size. -/
import Derived.Test.YtadcichlnacagaaDoorI3
set_option linter.unusedVariables false
namespace Go.Proofs.YtadcichlnacagaaDoor.L
open Go.Proofs.YtadcichlnacagaaDoor.B Go.Proofs.YtadcichlnacagaaDoor.R
def vx (v:List Int) (j:Nat):Int:=ix v (j:Int)
def OkV (v:List Int):Prop:=∀ j,U (vx v j)
def LeV (a b:List Int):Prop:=∀ j,Sub (vx a j) (vx b j)
def add (v:List Int) (i:Nat) (x:Int):List Int:=v.set i (OR (vx v i) x)
theorem Zk8 {v:List Int} {j:Nat} (h:v.length≤j):vx v j=0:=by
 unfold vx ix
 rw [List.getD_eq_getElem?_getD,Int.toNat_natCast,List.getElem?_eq_none h]
 rfl
theorem Zhw {v:List Int} {j:Nat} (h:j < v.length):vx v j=v[j]:=Yvv h
theorem vx_set {v:List Int} {i:Nat} (h:i < v.length) (y:Int) (j:Nat):vx (v.set i y) j=if j=i then y else vx v j:=by
 rcases Nat.lt_or_ge j v.length with hj | hj
 ·rw [Zhw (by rw [List.length_set]; exact hj), List.getElem_set, Zhw hj]
  by_cases e:i=j
  ·rw [if_pos e,if_pos e.symm]
  ·rw [if_neg e,if_neg (fun k=>e k.symm)]
 ·rw [Zk8 (by rw [List.length_set]; exact hj),if_neg (by omega),Zk8 hj]
theorem Zl1 (v:List Int) (i:Nat) (x:Int):(add v i x).length=v.length:=by simp [add]
theorem Zk2 {v:List Int} {i:Nat} (h:i < v.length) (x:Int) (j:Nat):vx (add v i x) j=if j=i then OR (vx v i) x else vx v j:=vx_set h _ j
theorem vx_ext {a b:List Int} (hl:a.length=b.length) (h:∀ j,vx a j=vx b j):a=b:=List.ext_getElem hl fun j h1 h2=>by
 have:=h j
 rwa [Zhw h1,Zhw h2] at this
theorem Zpq {v:List Int} (hv:OkV v) {i:Nat} {x:Int} (hx:U x):OkV (add v i x):=fun j=>by
 rcases Nat.lt_or_ge i v.length with h | h
 ·rw [Zk2 h]
  split
  ·exact (hv i).or hx
  ·exact hv j
 ·unfold add
  rw [List.set_eq_of_length_le h]
  exact hv j
theorem LeV.refl (a:List Int):LeV a a:=fun _=>Sub.refl _
theorem LeV.trans {a b c:List Int} (h:LeV a b) (k:LeV b c):LeV a c:=fun j=>(h j).trans (k j)
theorem LeV.nil (a:List Int):LeV [] a:=fun j=>by rw [Zk8 (by simp)]; exact Sub.zero _
theorem Zrr {v:List Int} (hv:OkV v) (i:Nat) {x:Int} (hx:U x):LeV v (add v i x):=fun j=>by
 rcases Nat.lt_or_ge i v.length with h | h
 ·rw [Zk2 h]
  split
  ·rename_i e; subst e; exact Sub.l (hv _) hx
  ·exact Sub.refl _
 ·unfold add
  rw [List.set_eq_of_length_le h]
  exact Sub.refl _
theorem Zom {v u:List Int} (hv:OkV v) {i:Nat} {x:Int} (hx:U x) (h1:LeV v u) (h2:Sub x (vx u i)):LeV (add v i x) u:=fun j=>by
 rcases Nat.lt_or_ge i v.length with h | h
 ·rw [Zk2 h]
  split
  ·rename_i e; subst e; exact Sub.or (hv _) hx (h1 _) h2
  ·exact h1 j
 ·unfold add
  rw [List.set_eq_of_length_le h]
  exact h1 j
theorem Zra {v:List Int} {i:Nat} {x:Int} (h:OR (vx v i) x=vx v i):add v i x=v:=by
 unfold add
 rw [h]
 rcases Nat.lt_or_ge i v.length with hi | hi
 ·rw [Zhw hi,List.set_getElem_self]
 ·rw [List.set_eq_of_length_le hi]
def room (x:Int):Nat:=(List.range 64).countP fun t=>!has x t
theorem Zow {α:Type} {p q:α→Bool}:∀ {l:List α},(∀ t ∈ l,p t=true→q t=true)→(∃ t ∈ l,q t=true∧p t=false)→l.countP p < l.countP q
 | [],_,h=>by obtain ⟨t,h,_⟩:=h; cases h
 | a :: l,h,⟨t,ht,h1,h2⟩=>by
  have hm:l.countP p≤l.countP q:=List.countP_mono_left fun t ht=>h t (List.mem_cons_of_mem _ ht)
  rcases List.mem_cons.1 ht with rfl | ht
  ·rw [List.countP_cons_of_neg (by simp [h2]), List.countP_cons_of_pos h1]
   omega
  ·have ih := Zow (l := l) (fun t ht => h t (List.mem_cons_of_mem _ ht)) ⟨t, ht, h1, h2⟩
   rw [List.countP_cons,List.countP_cons]
   have:(if p a=true then 1 else 0)≤(if q a=true then 1 else 0):=by
    by_cases e:p a=true
    ·rw [if_pos e,if_pos (h a (List.mem_cons_self ..) e)]; exact Nat.le_refl _
    ·rw [if_neg e]; exact Nat.zero_le _
   omega
theorem room_le {x y:Int} (h:Sub x y):room y≤room x:=List.countP_mono_left fun t _ k=>by
 cases hx:has x t with
 | false=>rfl
 | true=>rw [h t hx] at k; cases k
theorem room_lt {x y:Int} (hx:U x) (hy:U y) (h:Sub x y) (hne:y≠x):room y < room x:=by
 refine Zow (fun t _ k=>?_) ?_
 ·cases hx:has x t with
  | false=>rfl
  | true=>rw [h t hx] at k; cases k
 ·by_cases he:∃ t,has y t=true∧has x t=false
  ·obtain ⟨t,h1,h2⟩:=he
   exact ⟨t,List.mem_range.2 (has_lt hy h1),by simp [h2],by simp [h1]⟩
  ·exfalso
   apply hne
   refine Sub.eq hy hx (fun t ht=>?_) h
   cases hc:has x t with
   | true=>rfl
   | false=>exact absurd ⟨t,ht,hc⟩ he
theorem room_64 (x:Int):room x≤64:=by
 have:=List.countP_le_length (p:=fun t=>!has x t) (l:=List.range 64)
 rwa [List.length_range] at this
def Zbp (v:List Int):Nat:=(v.map room).sum
theorem sum_set (v:List Nat):∀ {i:Nat} (h:i < v.length) (y:Nat),(v.set i y).sum + v[i]=v.sum + y:=by
 induction v with
 | nil=>intro i h; exact absurd h (Nat.not_lt_zero _)
 | cons a v ih =>
  intro i h y
  cases i with
  | zero=>simp; omega
  | succ i =>
   have:=ih (i:=i) (by simpa using h) y
   simp only [List.set_cons_succ,List.sum_cons,List.getElem_cons_succ]
   omega
theorem meas_set {v:List Int} {i:Nat} (h:i < v.length) (y:Int):Zbp (v.set i y) + room (vx v i)=Zbp v + room y:=by
 unfold Zbp
 rw [List.map_set]
 have:=sum_set (v.map room) (i:=i) (by rw [List.length_map]; exact h) (room y)
 rw [List.getElem_map] at this
 rw [Zhw h]
 exact this
theorem Zqz {v:List Int} (hv:OkV v) {i:Nat} {x:Int} (hx:U x):Zbp (add v i x)≤Zbp v∧(OR (vx v i) x≠vx v i→i < v.length→Zbp (add v i x) < Zbp v):=by
 have h1:Sub (vx v i) (OR (vx v i) x):=Sub.l (hv i) hx
 rcases Nat.lt_or_ge i v.length with h | h
 ·have:=meas_set h (OR (vx v i) x)
  have hr:=room_le h1
  refine ⟨by unfold add; omega,fun hne _=>?_⟩
  have hr2:=room_lt (hv i) ((hv i).or hx) h1 hne
  unfold add
  omega
 ·refine ⟨?_, fun _ k => absurd k (by omega)⟩
  unfold add
  rw [List.set_eq_of_length_le h]
  exact Nat.le_refl _
theorem meas_max (v:List Int):Zbp v≤64 * v.length:=by
 unfold Zbp
 induction v with
 | nil=>exact Nat.le_refl _
 | cons a v ih =>
  have:=room_64 a
  simp only [List.map_cons,List.sum_cons,List.length_cons]
  omega
def Zle (g:Yu5) (s:Yu8) (v:List Int) (p d:Nat):Prop :=
 vx v (atN g p + d)≠0→(g.terms.length:Int)≤Yw5 g p d→∀ q,q < g.prods.length→Zc4 g q + (g.terms.length:Int)=Yw5 g p d→Sub (ofV s (behind g p d) (vx v (atN g p + d))) (vx v (atN g q))
def ClV (g:Yu5) (s:Yu8) (v:List Int):Prop:=∀ p,p < g.prods.length→∀ d,d < (Yvk g p).length→Zle g s v p d
structure Zju (g:Yu5) (s:Yu8) (v0 v:List Int):Prop where
 len:v.length=nN g
 ok:OkV v
 le:LeV v0 v
 cl:ClV g s v
 least:∀ u,OkV u→ClV g s u→LeV v0 u→LeV v u
theorem Zju.uniq {g:Yu5} {s:Yu8} {v0 v v':List Int} (h:Zju g s v0 v) (k:Zju g s v0 v'):v=v':=vx_ext (h.len.trans k.len.symm) fun j=>Sub.eq (h.ok j) (k.ok j) (h.least v' k.ok k.cl k.le j) (k.least v h.ok h.cl h.le j)
theorem ofV_U {s:Yu8} (hs:Ok s) {row:List Yut} {x:Int} (hx:U x):U (ofV s row x):=by
 unfold ofV
 split
 ·exact (Zfq hs U.zero).or hx
 ·exact Zfq hs U.zero
theorem ofV_mono {s:Yu8} (hs:Ok s) {row:List Yut} {x y:Int} (hx:U x) (hy:U y) (h:Sub x y):Sub (ofV s row x) (ofV s row y):=by
 unfold ofV
 split
 ·exact Sub.or (Zfq hs U.zero) hx (Sub.l (Zfq hs U.zero) hy) (h.trans (Sub.r (Zfq hs U.zero) hy))
 ·exact Sub.refl _
theorem Zse {x y:Int} (hx:U x) (hy:U y) (h:Sub x y) (k:x≠0):y≠0:=fun e=>by
 subst e
 exact k (Sub.eq hx U.zero h (Sub.zero _))
theorem Zsg {g:Yu5} {s:Yu8} (hs:Ok s) {v u:List Int} (hv:OkV v) (hu:OkV u) (hc:ClV g s u) (hle:LeV v u) {p d q:Nat} (hp:p < g.prods.length) (hd:d < (Yvk g p).length) (h0:vx v (atN g p + d)≠0) (hT:(g.terms.length:Int)≤Yw5 g p d) (hq:q < g.prods.length) (he:Zc4 g q + (g.terms.length:Int)=Yw5 g p d):Sub (ofV s (behind g p d) (vx v (atN g p + d))) (vx u (atN g q)) :=
 (ofV_mono hs (hv _) (hu _) (hle _)).trans (hc p hp d hd (Zse (hv _) (hu _) (hle _) h0) hT q hq he)
structure Okst (g:Yu5) (a:List Int × Bool):Prop where
 len:a.1.length=nN g
 ok:OkV a.1
structure Adv (g:Yu5) (s:Yu8) (Pc:List Int→Prop) (a b:List Int × Bool):Prop where
 ok:Okst g b
 le:LeV a.1 b.1
 up:a.2=true→b.2=true
 no:b.2=false→b.1=a.1∧Pc a.1
 me:Zbp b.1≤Zbp a.1
 yes:a.2=false→b.2=true→Zbp b.1 < Zbp a.1
 below:∀ u,OkV u→ClV g s u→LeV a.1 u→LeV b.1 u
def Zde {σ:Type} (f:Nat→σ→σ):Nat→σ→σ
 | 0,a=>a
 | n + 1,a=>f n (Zde f n a)
theorem Zks {g : Yu5} {s : Yu8} {Pc : Nat → List Int → Prop} {f : Nat → List Int × Bool → List Int × Bool} {v0 : List Int} {a : List Int × Bool} (ha : Okst g a) (h0 : LeV v0 a.1) : ∀ n, (∀ i, i < n → ∀ b, Okst g b → LeV v0 b.1 → Adv g s (Pc i) b (f i b)) → Adv g s (fun v => ∀ i, i < n → Pc i v) a (Zde f n a)
 | 0,_=>⟨ha,LeV.refl _,id,fun _=>⟨rfl,fun i hi=>absurd hi (Nat.not_lt_zero _)⟩,Nat.le_refl _,fun h k=>(by rw [Zde,h] at k; cases k),fun u _ _ h=>h⟩
 | n + 1,h=>by
  have ih:=Zks (Pc:=Pc) (f:=f) (s:=s) ha h0 n fun i hi=>h i (by omega)
  have st:=h n (Nat.lt_succ_self _) _ ih.ok (h0.trans ih.le)
  rw [Zde]
  refine ⟨st.ok,ih.le.trans st.le,fun k=>st.up (ih.up k),fun k=>?_,Nat.le_trans st.me ih.me,fun k1 k2=>?_,fun u h1 h2 h3=>st.below u h1 h2 (ih.below u h1 h2 h3)⟩
  ·obtain ⟨e1,e2⟩:=st.no k
   have hm:(Zde f n a).2=false:=by
    cases hc:(Zde f n a).2 with
    | false=>rfl
    | true=>rw [st.up hc] at k; cases k
   obtain ⟨e3,e4⟩:=ih.no hm
   refine ⟨e1.trans e3,fun i hi=>?_⟩
   rcases Nat.lt_or_ge i n with hi2 | hi2
   ·exact e4 i hi2
   ·have:i=n:=by omega
    subst this
    rw [e3] at e2; exact e2
  ·cases hc:(Zde f n a).2 with
   | false=>exact Nat.lt_of_lt_of_le (st.yes hc k2) ih.me
   | true=>exact Nat.lt_of_le_of_lt st.me (ih.yes k1 hc)
def dq (g:Yu5) (X L:Int) (i:Nat) (a:List Int × Bool):List Int × Bool :=
 if Zc4 g (i + 1) + (g.terms.length:Int)=X then (add a.1 (atN g (i + 1)) L,if a.2=true then true else OR (vx a.1 (atN g (i + 1))) L != vx a.1 (atN g (i + 1))) else a
def dd (g:Yu5) (s:Yu8) (p d:Nat) (a:List Int × Bool):List Int × Bool :=
 if vx a.1 (atN g p + d)=0∨Yw5 g p d < (g.terms.length:Int) then a else Zde (dq g (Yw5 g p d) (ofV s (behind g p d) (vx a.1 (atN g p + d)))) (g.prods.length - 1) a
def dp (g:Yu5) (s:Yu8) (p:Nat) (a:List Int × Bool):List Int × Bool:=Zde (dd g s p) (Yvk g p).length a
def Zmq (g:Yu5) (s:Yu8) (v:List Int):List Int × Bool:=Zde (dp g s) g.prods.length (v,false)
theorem dq_adv {g:Yu5} {s:Yu8} {X L:Int} (hL:U L) {i:Nat} (hi:i + 1 < g.prods.length) {v0:List Int} (hr:∀ u,OkV u→ClV g s u→LeV v0 u→Zc4 g (i + 1) + (g.terms.length:Int)=X→Sub L (vx u (atN g (i + 1)))) {a:List Int × Bool} (ha:Okst g a) (h0:LeV v0 a.1):Adv g s (fun v=>Zc4 g (i + 1) + (g.terms.length:Int)=X→Sub L (vx v (atN g (i + 1)))) a (dq g X L i a):=by
 unfold dq
 split
 ·rename_i e
  have hin:atN g (i + 1) < a.1.length:=by rw [ha.len]; have:=Zcz hi (d:=0) (Nat.zero_le _); omega
  have hm:=Zqz ha.ok (i:=atN g (i + 1)) hL
  refine ⟨⟨by rw [Zl1]; exact ha.len,Zpq ha.ok hL⟩,Zrr ha.ok _ hL,fun k=>by simp [k],fun k=>?_,hm.1,fun k1 k2=>?_,fun u h1 h2 h3=>Zom ha.ok hL h3 (hr u h1 h2 (h0.trans h3) e)⟩
  ·have k:(if a.2=true then true else OR (vx a.1 (atN g (i + 1))) L != vx a.1 (atN g (i + 1)))=false:=k
   cases hc:a.2 with
   | true=>rw [hc,if_pos rfl] at k; cases k
   | false =>
    rw [hc,if_neg (by simp)] at k
    have e2:OR (vx a.1 (atN g (i + 1))) L=vx a.1 (atN g (i + 1)):=by simpa using k
    exact ⟨Zra e2,fun _=>Zsk (ha.ok _) hL e2⟩
  ·have k2:(if a.2=true then true else OR (vx a.1 (atN g (i + 1))) L != vx a.1 (atN g (i + 1)))=true:=k2
   rw [k1,if_neg (by simp)] at k2
   exact hm.2 (by simpa using k2) hin
 ·rename_i e
  exact ⟨ha,LeV.refl _,id,fun _=>⟨rfl,fun k=>absurd k e⟩,Nat.le_refl _,fun h k=>(by rw [h] at k; cases k),fun u _ _ h=>h⟩
theorem dd_adv {g:Yu5} {s:Yu8} (hs:Ok s) (hr:Yxx g=true) {p d:Nat} (hp:p < g.prods.length) (hd:d < (Yvk g p).length) {a:List Int × Bool} (ha:Okst g a):Adv g s (fun v=>Zle g s v p d) a (dd g s p d a):=by
 unfold dd
 split
 ·rename_i e
  refine ⟨ha,LeV.refl _,id,fun _=>⟨rfl,fun h1 h2=>?_⟩,Nat.le_refl _,fun h k=>(by rw [h] at k; cases k),fun u _ _ h=>h⟩
  rcases e with e | e
  ·exact absurd e h1
  ·omega
 ·rename_i e
  have e1:vx a.1 (atN g p + d)≠0:=fun h=>e (.inl h)
  have e2:(g.terms.length:Int)≤Yw5 g p d:=by
   by_cases h:Yw5 g p d < (g.terms.length:Int)
   ·exact absurd (.inr h) e
   ·omega
  have hU:=ofV_U hs (row:=behind g p d) (ha.ok (atN g p + d))
  have key:=Zks (g:=g) (s:=s) (Pc:=fun i v=>Zc4 g (i + 1) + (g.terms.length:Int)=Yw5 g p d→Sub (ofV s (behind g p d) (vx a.1 (atN g p + d))) (vx v (atN g (i + 1)))) (f:=dq g (Yw5 g p d) (ofV s (behind g p d) (vx a.1 (atN g p + d)))) (v0:=a.1) ha (LeV.refl _) (g.prods.length - 1) fun i hi b hb hb0=>dq_adv hU (by omega) (fun u h1 h2 h3 h4=>Zsg hs ha.ok h1 h2 h3 hp hd e1 e2 (by omega) h4) hb hb0
  refine ⟨key.ok,key.le,key.up,fun k=>?_,key.me,key.yes,key.below⟩
  obtain ⟨k1,k2⟩:=key.no k
  refine ⟨k1,fun h1 h2 q hq h3=>?_⟩
  cases q with
  | zero =>
   have:=(Zso hr).1
   omega
  | succ q=>exact k2 q (by omega) h3
theorem dall_adv {g:Yu5} {s:Yu8} (hs:Ok s) (hr:Yxx g=true) {v:List Int} (hl:v.length=nN g) (hv:OkV v):Adv g s (fun v=>ClV g s v) (v,false) (Zmq g s v):=by
 have ha:Okst g (v,false):=⟨hl,hv⟩
 have:=Zks (g:=g) (s:=s) (Pc:=fun p v=>∀ d,d < (Yvk g p).length→Zle g s v p d) (f:=dp g s) (v0:=[]) ha (LeV.nil _) g.prods.length fun p hp b hb _=>by
  have:=Zks (g:=g) (s:=s) (Pc:=fun d v=>Zle g s v p d) (f:=dd g s p) (v0:=[]) hb (LeV.nil _) (Yvk g p).length fun d hd c hc _=>dd_adv hs hr hp hd hc
  exact this
 exact this
end Go.Proofs.YtadcichlnacagaaDoor.L
