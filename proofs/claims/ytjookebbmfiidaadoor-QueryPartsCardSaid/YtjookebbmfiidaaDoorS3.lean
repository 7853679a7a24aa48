/- Queries: the plain parser's answers: shorter rests, fuel, what is read is good and has just these words. No condition. -/
import Derived.Test.YtjookebbmfiidaaDoorS1
set_option linter.unusedVariables false
namespace Go.Proofs.YtjookebbmfiidaaDoor.L
open Go.Proofs.YtjookebbmfiidaaDoor.R
def ShP {α:Type} (n:Nat):PQ α→Prop
 | .ok _ r=>r.length < n
 | .no _ r=>r.length≤n
theorem Xat (t:List Tk):t.tail.length≤t.length:=by rw [List.length_tail]; omega
theorem W9 {k:Int} {x:ByteArray} {t:List Tk} (h:isT k x t=true):∃ r,t=(k,x) :: r:=by
 cases t with
 | nil=>cases h
 | cons w r =>
  unfold isT at h
  rw [Bool.and_eq_true,decide_eq_true_eq,decide_eq_true_eq] at h
  exact ⟨r,by rw [← h.1,← h.2]⟩
theorem Xj5 {t:List Tk} (h:Yt t=true):∃ x r,t=(1,x) :: r∧x≠Tq:=by
 cases t with
 | nil=>cases h
 | cons w r =>
  unfold Yt at h
  rw [Bool.and_eq_true,decide_eq_true_eq] at h
  exact ⟨w.2,r,by rw [← h.1],by simpa using h.2⟩
theorem Xjf {t:List Tk} (h:Xay t=true):∃ x r,t=(2,x) :: r∧x≠noB:=by
 cases t with
 | nil=>cases h
 | cons w r =>
  unfold Xay at h
  rw [Bool.and_eq_true,decide_eq_true_eq] at h
  exact ⟨w.2,r,by rw [← h.1],by simpa using h.2⟩
theorem isFd_ex {t:List Tk} (h:Zn t=true):∃ x r,t=(1,x) :: (5,Xfw) :: r∧x≠Tq:=by
 unfold Zn at h
 rw [Bool.and_eq_true] at h
 obtain ⟨x,r,rfl,hx⟩:=Xj5 h.1
 obtain ⟨q,hq⟩:=W9 h.2
 exact ⟨x,q,by rw [← hq]; rfl,hx⟩
theorem Xe3 (t:List Tk):(Nq t).length≤t.length:=by
 unfold Nq
 split
 ·have h1:=Xat t
  have h2:=Xat t.tail
  omega
 ·exact Nat.le_refl _
theorem Xmg {n:Nat} {x:Ag} {k:PF} {seen:List ByteArray} {t:List Tk} (h:t.length < n):ShP n (Wv x k seen t):=by
 have h1:=Xat t
 have h2:=Xat t.tail
 unfold Wv
 split
 ·split
  ·split
   ·show _≤_; omega
   ·show _ < _; omega
  ·show _≤_; omega
 ·exact h
theorem Xha:∀ (f:Nat),(∀ m seen t,ShP t.length (Xab f m seen t))∧(∀ m seen t,ShP t.length (kidsT f m seen t))
 | 0=>⟨fun m seen t=>Nat.le_refl _,fun m seen t=>Nat.le_refl _⟩
 | f + 1=>by
  obtain ⟨i1,i2⟩:=Xha f
  refine ⟨fun m seen t=>?_,fun m seen t=>?_⟩
  ·rw [Tu]
   have ha:=Xe3 t
   split
   ·split
    ·exact Nat.le_refl _
    split
    ·rename_i h
     obtain ⟨x,r,e,_⟩:=Xjf h
     rw [e] at ha ⊢
     simp only [List.length_cons] at ha
     exact Xmg (by rw [List.tail_cons]; omega)
    split
    ·rename_i h
     obtain ⟨r,e⟩:=W9 h
     rw [e] at ha ⊢
     simp only [List.length_cons] at ha
     rw [List.tail_cons]
     by_cases c5:nmT r=true
     ·rw [if_pos c5]
      have h3:=i2 (m + 1) seen r.tail
      have h4:=Xat r
      cases e2:kidsT f (m + 1) seen r.tail with
      | no ee q=>rw [e2] at h3; have h3':q.length≤r.tail.length:=h3; show q.length≤_; omega
      | ok p q =>
       rw [e2] at h3
       have h3':q.length < r.tail.length:=h3
       exact Xmg (by omega)
     ·rw [if_neg c5]; show r.length≤_; omega
    ·show _≤_; exact ha
   ·exact Nat.le_refl _
  ·rw [Qh]
   split
   ·rename_i h
    obtain ⟨r,e⟩:=W9 h
    rw [e]
    show r.length < _
    simp
   ·have h1:=i1 m seen t
    cases e1:Xab f m seen t with
    | no ee q=>rw [e1] at h1; exact h1
    | ok p q =>
     obtain ⟨x,k,seen'⟩:=p
     rw [e1] at h1
     have h1':q.length < t.length:=h1
     dsimp only
     have h2:=i2 (m + 1 + (Bo k).length) seen' q
     cases e2:kidsT f (m + 1 + (Bo k).length) seen' q with
     | no ee u=>rw [e2] at h2; have h2':u.length≤q.length:=h2; show u.length≤_; omega
     | ok p u =>
      obtain ⟨s,seen2⟩:=p
      rw [e2] at h2
      have h2':u.length < q.length:=h2
      show u.length < _
      omega
theorem Xeb:∀ (f g:Nat),(∀ m seen t,2 * t.length + 1≤f→2 * t.length + 1≤g→Xab f m seen t=Xab g m seen t)∧(∀ m seen t,2 * t.length + 2≤f→2 * t.length + 2≤g→kidsT f m seen t=kidsT g m seen t)
 | 0,g=>⟨fun m seen t hf=>by omega,fun m seen t hf=>by omega⟩
 | f + 1,0=>⟨fun m seen t hf hg=>by omega,fun m seen t hf hg=>by omega⟩
 | f + 1,g + 1=>by
  obtain ⟨i1,i2⟩:=Xeb f g
  refine ⟨fun m seen t hf hg=>?_,fun m seen t hf hg=>?_⟩
  ·rw [Tu,Tu]
   have ha:=Xe3 t
   by_cases c1:Rj t=true
   ·rw [if_pos c1,if_pos c1]
    by_cases c2:m≥32
    ·rw [if_pos c2,if_pos c2]
    rw [if_neg c2,if_neg c2]
    by_cases c3:Xay (Nq t)=true
    ·rw [if_pos c3,if_pos c3]
    rw [if_neg c3,if_neg c3]
    by_cases c4:isT 5 opB (Nq t)=true
    ·rw [if_pos c4,if_pos c4]
     obtain ⟨r,e⟩:=W9 c4
     have h4:=Xat r
     rw [e] at ha ⊢
     simp only [List.length_cons] at ha
     rw [List.tail_cons]
     rw [i2 (m + 1) seen r.tail (by omega) (by omega)]
    ·rw [if_neg c4,if_neg c4]
   ·rw [if_neg c1,if_neg c1]
  ·rw [Qh,Qh]
   by_cases c1:isT 5 clB t=true
   ·rw [if_pos c1,if_pos c1]
   rw [if_neg c1,if_neg c1]
   rw [i1 m seen t (by omega) (by omega)]
   have h1:=(Xha g).1 m seen t
   cases e1:Xab g m seen t with
   | no ee q=>rfl
   | ok p q =>
    obtain ⟨x,k,seen'⟩:=p
    rw [e1] at h1
    have h1':q.length < t.length:=h1
    dsimp only
    rw [i2 (m + 1 + (Bo k).length) seen' q (by omega) (by omega)]
def Xcc (m:Nat) (seen:List ByteArray) (t:List Tk):=Xab (2 * t.length + 1) m seen t
def Xbf (m:Nat) (seen:List ByteArray) (t:List Tk):=kidsT (2 * t.length + 2) m seen t
theorem patN_eq (m:Nat) (seen:List ByteArray) (t:List Tk):Xcc m seen t=if Rj t=true then
   if m≥32 then .no 202 t
   else if Xay (Nq t)=true then Wv ⟨hdT (Nq t),true,Xeu t,noB,0⟩ .nil seen (Nq t).tail
   else if isT 5 opB (Nq t)=true then
    if nmT (Nq t).tail=true then
     match Xbf (m + 1) seen (Nq t).tail.tail with
     | .no e r=>.no e r
     | .ok (k,seen') r=>Wv ⟨if isT 1 Tq (Nq t).tail=true then noB else hdT (Nq t).tail,false,Xeu t,noB,(I8 k:Int)⟩ k seen' r
    else .no 200 (Nq t).tail
   else .no 200 (Nq t)
  else .no 200 t:=by
 unfold Xcc Xbf
 rw [Tu]
 have ha:=Xe3 t
 by_cases c4:isT 5 opB (Nq t)=true
 ·obtain ⟨r,e⟩:=W9 c4
  have h4:=Xat r
  rw [e] at ha ⊢
  simp only [List.length_cons] at ha
  rw [List.tail_cons]
  rw [(Xeb (2 * t.length) (2 * r.tail.length + 2)).2 (m + 1) seen r.tail (by omega) (Nat.le_refl _)]
  rfl
 ·rw [if_neg c4,if_neg c4]
theorem kidsN_eq (m:Nat) (seen:List ByteArray) (t:List Tk):Xbf m seen t=if isT 5 clB t=true then .ok (.nil,seen) t.tail
  else match Xcc m seen t with
   | .no e r=>.no e r
   | .ok (x,k,seen') r=>match Xbf (m + 1 + (Bo k).length) seen' r with
    | .no e q=>.no e q
    | .ok (s,seen2) q=>.ok (.cons x k s,seen2) q:=by
 unfold Xcc Xbf
 rw [Qh]
 by_cases c1:isT 5 clB t=true
 ·rw [if_pos c1,if_pos c1]
 rw [if_neg c1,if_neg c1]
 have h1:=(Xha (2 * t.length + 1)).1 m seen t
 cases e1:Xab (2 * t.length + 1) m seen t with
 | no ee q=>rfl
 | ok p q =>
  obtain ⟨x,k,seen'⟩:=p
  rw [e1] at h1
  have h1':q.length < t.length:=h1
  dsimp only
  rw [(Xeb (2 * t.length + 1) (2 * q.length + 2)).2 (m + 1 + (Bo k).length) seen' q (by omega) (Nat.le_refl _)]
  rfl
def SndT (nm:ByteArray→Bool) (t:List Tk):Prop:=∀ w ∈ t,w.1=1→w.2≠Tq→nm w.2=true
theorem SndT.tl {nm:ByteArray→Bool} {t:List Tk} (h:SndT nm t):SndT nm t.tail:=fun w hw=>h w (List.mem_of_mem_tail hw)
theorem SndT.app {nm:ByteArray→Bool} {a b:List Tk} (h:SndT nm (a++b)):SndT nm b:=fun w hw=>h w (List.mem_append_right _ hw)
end Go.Proofs.YtjookebbmfiidaaDoor.L
set_option linter.unusedVariables false
namespace Go.Proofs.YtjookebbmfiidaaDoor.L
open Go.Proofs.YtjookebbmfiidaaDoor.R
abbrev whB:ByteArray:=⟨#[119,104,101,110]⟩
abbrev unB:ByteArray:=⟨#[117,110,108,101,115,115]⟩
def isS:List Tk→Bool
 | []=>false
 | w :: _=>decide (w.1=2)
def kwT (t:List Tk):Bool:=isT 1 unB t || isT 1 whB t
def Iu (caps:List ByteArray) (t:List Tk):PQ ByteArray :=
 if isT 5 U2 t=true then
  if Yt t.tail=true then
   if inC (hdT t.tail) caps=true then .ok (hdT t.tail) t.tail.tail else .no 201 t.tail
  else .no 200 t.tail
 else .no 200 t
def Xem (un:Bool) (a:ByteArray) (caps:List ByteArray) (t:List Tk):PQ Bh :=
 if isS t=true then .ok ⟨un,a,noB,hdT t⟩ t.tail
 else match Iu caps t with
  | .no e r=>.no e r
  | .ok b r=>.ok ⟨un,a,b,noB⟩ r
def Yj (n:Nat) (caps:List ByteArray) (t:List Tk):PQ Bh :=
 if kwT t=true then
  if n≥16 then .no 202 t
  else match Iu caps t.tail with
   | .no e r=>.no e r
   | .ok a r=>if isT 5 eqB r=true then Xem (isT 1 unB t) a caps r.tail else .no 200 r
 else .no 200 t
def Xbo:Nat→Nat→List ByteArray→List Tk→PQ (List Bh)
 | 0,_,_,t=>.no 0 t
 | _ + 1,_,_,[]=>.ok [] []
 | f + 1,n,caps,w :: t=>match Yj n caps (w :: t) with
  | .no e r=>.no e r
  | .ok c r=>match Xbo f (n + 1) caps r with
   | .no e q=>.no e q
   | .ok l q=>.ok (c :: l) q
theorem Xfg (f n:Nat) (caps:List ByteArray) (w:Tk) (t:List Tk):Xbo (f + 1) n caps (w :: t)=match Yj n caps (w :: t) with
  | .no e r=>.no e r
  | .ok c r=>match Xbo f (n + 1) caps r with
   | .no e q=>.no e q
   | .ok l q=>.ok (c :: l) q:=rfl
def Xj3 (t:List Tk):PQ (Ag × PF × List Bh):=match Xcc 0 [] t with
 | .no e r=>.no e r
 | .ok (x,k,caps) r=>match Xbo (r.length + 1) 0 caps r with
  | .no e q=>.no e q
  | .ok l q=>.ok (x,k,l) q
def Iz (c:Bh):List Tk:=(1,if c.not=true then unB else whB) :: (5,U2) :: (1,c.a) :: (5,eqB) :: (if c.b=noB then [(2,c.text)] else [(5,U2),(1,c.b)])
def Xi8 (caps:List ByteArray) (c:Bh):Prop:=c.a ∈ caps∧(c.b=noB∨(c.b ∈ caps∧c.text=noB))
theorem Xci {nm:ByteArray→Bool} (hn:Nm nm) {caps:List ByteArray} (hc:∀ y ∈ caps,nm y=true) {a:ByteArray} (ha:a ∈ caps) (r:List Tk):Iu caps ((5,U2) :: (1,a) :: r)=.ok a r:=by
 unfold Iu
 rw [if_pos (Vx _ _ _),List.tail_cons,if_pos (Xj2 hn (hc a ha) _)]
 show (if inC a caps=true then _ else _)=_
 rw [if_pos (Xc0.2 ha)]
 rfl
theorem un_ne:whB≠unB:=by decide +kernel
theorem Xlo {nm:ByteArray→Bool} (hn:Nm nm) {caps:List ByteArray} (hc:∀ y ∈ caps,nm y=true) {c:Bh} (hg:Xi8 caps c) {n:Nat} (h16:n < 16) (r:List Tk):Yj n caps (Iz c++r)=.ok c r:=by
 obtain ⟨g1,g2⟩:=hg
 have hu:isT 1 unB (Iz c++r)=c.not∧kwT (Iz c++r)=true:=by
  unfold kwT Iz
  cases h:c.not with
  | true =>
   rw [if_pos rfl]
   have:isT 1 unB ((1,unB) :: (5,U2) :: (1,c.a) :: (5,eqB) :: (if c.b=noB then [(2,c.text)] else [(5,U2),(1,c.b)])++r)=true:=Vx _ _ _
   rw [this]
   exact ⟨rfl,rfl⟩
  | false =>
   rw [if_neg (by simp)]
   have h1:isT 1 unB ((1,whB) :: (5,U2) :: (1,c.a) :: (5,eqB) :: (if c.b=noB then [(2,c.text)] else [(5,U2),(1,c.b)])++r)=false:=Xbc un_ne _
   have h2:isT 1 whB ((1,whB) :: (5,U2) :: (1,c.a) :: (5,eqB) :: (if c.b=noB then [(2,c.text)] else [(5,U2),(1,c.b)])++r)=true:=Vx _ _ _
   rw [h1,h2]
   exact ⟨rfl,rfl⟩
 obtain ⟨u1,u2⟩:=hu
 unfold Yj
 rw [if_pos u2,if_neg (by omega),u1]
 have ht:(Iz c++r).tail=(5,U2) :: (1,c.a) :: (5,eqB) :: ((if c.b=noB then [(2,c.text)] else [(5,U2),(1,c.b)])++r):=by
  unfold Iz; rfl
 rw [ht,Xci hn hc g1]
 dsimp only
 rw [if_pos (Vx _ _ _),List.tail_cons]
 unfold Xem
 obtain ⟨cn,ca,cb,ct⟩:=c
 dsimp only at g1 g2 ⊢
 by_cases h:cb=noB
 ·rw [if_pos h]
  show (if isS ((2,ct) :: r)=true then _ else _)=_
  rw [if_pos (by unfold isS; simp),h]
  rfl
 ·rw [if_neg h]
  obtain ⟨g3,g4⟩:=g2.resolve_left h
  have hs:isS ([(5,U2),(1,cb)]++r)=false:=by
   show decide ((5:Int)=2)=false
   decide
  rw [if_neg (by rw [hs]; simp)]
  have he:Iu caps ([(5,U2),(1,cb)]++r)=.ok cb r:=Xci hn hc g3 r
  rw [he,g4]
theorem Xh5 {nm:ByteArray→Bool} (hn:Nm nm) {caps:List ByteArray} (hc:∀ y ∈ caps,nm y=true):∀ (l:List Bh) (f n:Nat),l.length < f→n + l.length≤16→(∀ c ∈ l,Xi8 caps c)→Xbo f n caps (l.flatMap Iz)=.ok l []
 | [],0,n,hf,hl,hg=>absurd hf (Nat.not_lt_zero _)
 | [],f + 1,n,hf,hl,hg=>rfl
 | c :: l,0,n,hf,hl,hg=>absurd hf (Nat.not_lt_zero _)
 | c :: l,f + 1,n,hf,hl,hg=>by
  simp only [List.length_cons] at hf hl
  rw [List.flatMap_cons]
  have hb:=Xlo hn hc (hg c (List.mem_cons_self ..)) (n:=n) (by omega) (l.flatMap Iz)
  have hw:∃ (w:Tk) (t:List Tk),Iz c++l.flatMap Iz=w :: t:=⟨_,_,rfl⟩
  obtain ⟨w,t,e⟩:=hw
  rw [e] at hb ⊢
  rw [Xfg,hb]
  dsimp only
  rw [Xh5 hn hc l f (n + 1) (by omega) (by omega) (fun c' h'=>hg c' (List.mem_cons_of_mem _ h'))]
theorem Xiu {nm:ByteArray→Bool}:∀ (g:PF) (l:List ByteArray),Ro nm g=true→(∀ y ∈ l,nm y=true)→∀ y ∈ Hg g l,nm y=true
 | .nil,l,hg,hl=>hl
 | .cons x k s,l,hg,hl=>by
  obtain ⟨g1,g2,g3,g4,g5,g6⟩:=Qa hg
  refine Xiu s _ g6 ?_
  have h1:=Xiu k l g5 hl
  unfold We
  by_cases h:x.capture=noB
  ·rw [if_pos h]; exact h1
  ·rw [if_neg h]
   intro y hy
   rcases List.mem_cons.1 hy with rfl | hy
   ·exact g4.resolve_left h
   ·exact h1 y hy
def Us (x:Ag) (k:PF) (l:List Bh):List Tk:=Eu (.cons x k .nil)++l.flatMap Iz
def Na (nm:ByteArray→Bool) (x:Ag) (k:PF) (l:List Bh):Prop :=
 Xbq (.cons x k .nil)∧Ro nm (.cons x k .nil)=true∧(Hg (.cons x k .nil) []).Nodup∧(Bo (.cons x k .nil)).length≤32∧l.length≤16∧∀ c ∈ l,Xi8 (Hg (.cons x k .nil) []) c
theorem Xm4 {nm:ByteArray→Bool} (hn:Nm nm) {x:Ag} {k:PF} {l:List Bh} (h:Na nm x k l):Xj3 (Us x k l)=.ok (x,k,l) []:=by
 obtain ⟨h1,h2,h3,h4,h5,h6⟩:=h
 have hr:Xia (l.flatMap Iz):=by
  cases l with
  | nil=>rfl
  | cons c l =>
   rw [List.flatMap_cons]
   unfold Iz
   exact Xbb (by decide) _ _ _
 have hcap:∀ y ∈ Hg (.cons x k .nil) [],nm y=true:=Xiu _ [] h2 (fun y hy=>by cases hy)
 unfold Xj3
 have hp:Xcc 0 [] (Us x k l)=.ok (x,k,Hg (.cons x k .nil) []) (l.flatMap Iz):=by
  have hb:=(Xk5 hn (2 * (Us x k l).length + 65)).1 0 [] x k (l.flatMap Iz) (by omega) h1 h2 h3 (by omega) hr
  unfold Xcc
  rw [(Xeb (2 * (Us x k l).length + 1) (2 * (Us x k l).length + 65)).1 0 [] _ (Nat.le_refl _) (by omega)]
  exact hb
 rw [hp]
 dsimp only
 have hle:l.length < (l.flatMap Iz).length + 1:=by
  have:∀ l:List Bh,l.length≤(l.flatMap Iz).length:=fun l=>by
   induction l with
   | nil=>exact Nat.le_refl _
   | cons c l ih =>
    rw [List.flatMap_cons,List.length_append,List.length_cons]
    have:1≤(Iz c).length:=by unfold Iz; simp only [List.length_cons]; omega
    omega
  have:=this l
  omega
 rw [Xh5 hn hcap l _ 0 hle (by omega) h6]
theorem Xhs {caps:List ByteArray} {t r:List Tk} {a:ByteArray} (h:Iu caps t=.ok a r):t=(5,U2) :: (1,a) :: r∧a ∈ caps:=by
 unfold Iu at h
 by_cases c1:isT 5 U2 t=true
 ·rw [if_pos c1] at h
  obtain ⟨t1,rfl⟩:=W9 c1
  rw [List.tail_cons] at h
  by_cases c2:Yt t1=true
  ·rw [if_pos c2] at h
   obtain ⟨y,t2,rfl,hy⟩:=Xj5 c2
   have hdy:hdT ((1,y) :: t2)=y:=rfl
   rw [hdy] at h
   by_cases c3:inC y caps=true
   ·rw [if_pos c3] at h
    injection h with h1 h2
    subst h1
    have h2':t2=r:=h2
    rw [h2']
    exact ⟨rfl,Xc0.1 c3⟩
   ·rw [if_neg c3] at h; cases h
  ·rw [if_neg c2] at h; cases h
 ·rw [if_neg c1] at h; cases h
end Go.Proofs.YtjookebbmfiidaaDoor.L
