/- The plain side of chapter 8, more: all words of a text. No condition. -/
import Derived.Test.YtjookebbmfiidaaDoorSL
set_option linter.unusedVariables false
namespace Go.Proofs.YtjookebbmfiidaaDoor.L
open Go.Proofs.YtjookebbmfiidaaDoor.B Go.Proofs.YtjookebbmfiidaaDoor.R
def twl (p:Int→Bool):List Int→Nat
 | []=>0
 | c :: l=>if p c=true then twl p l + 1 else 0
theorem twl_le (p:Int→Bool):∀ l,twl p l≤l.length
 | []=>Nat.le_refl 0
 | c :: l=>by
  rw [twl]
  split
  ·have:=twl_le p l; simp; omega
  ·simp
theorem Xm5 (p:Int→Bool):∀ {l:List Int} {j:Nat} (h:j < twl p l),∃ h2:j < l.length,p l[j]=true
 | [],j,h=>by simp [twl] at h
 | c :: l,j,h=>by
  rw [twl] at h
  split at h
  ·rename_i hc
   match j,h with
   | 0,_=>exact ⟨by simp,hc⟩
   | j + 1,h =>
    obtain ⟨h2,h3⟩:=Xm5 p (l:=l) (j:=j) (by omega)
    exact ⟨by simp; omega,by simpa using h3⟩
  ·omega
theorem Xmi (p:Int→Bool):∀ {l:List Int} (h:twl p l < l.length),p l[twl p l]=false
 | [],h=>by simp at h
 | c :: l,h=>by
  by_cases hc:p c=true
  ·have e:twl p (c :: l)=twl p l + 1:=by rw [twl,if_pos hc]
   have h2:twl p l < l.length:=by rw [e] at h; simpa using h
   have:=Xmi p h2
   simp only [e,List.getElem_cons_succ]
   exact this
  ·have e:twl p (c :: l)=0:=by rw [twl,if_neg hc]
   simp only [e,List.getElem_cons_zero]
   simpa using hc
theorem Xld {s:ByteArray} {p:Int→Bool} {a j:Nat} (h:j < twl p ((Dq s).drop a)):a + j < s.size∧p (bt s ((a + j:Nat):Int))=true:=by
 obtain ⟨h2,h3⟩:=Xm5 p h
 simp only [List.length_drop,I9] at h2
 rw [List.getElem_drop] at h3
 exact ⟨by omega,by rw [Xhb (by omega)]; exact h3⟩
theorem Xjs {s:ByteArray} {p:Int→Bool} {a:Nat} (h:a + twl p ((Dq s).drop a) < s.size):p (bt s ((a + twl p ((Dq s).drop a):Nat):Int))=false:=by
 have h2:twl p ((Dq s).drop a) < ((Dq s).drop a).length:=by simp only [List.length_drop,I9]; omega
 have:=Xmi p h2
 rw [List.getElem_drop] at this
 rw [Xhb h]; exact this
theorem Xj7 {s:ByteArray} {p:Int→Bool} {a:Nat} (ha:a≤s.size):a + twl p ((Dq s).drop a)≤s.size:=by
 have:=twl_le p ((Dq s).drop a)
 simp only [List.length_drop,I9] at this
 omega
inductive Item
 | skip (k:Nat)
 | word (kind:Int) (text:List Int) (n:Int) (k:Nat)
 | err (code:Int) (off:Nat)
def Xc7 (l:List Int) (n:Int):Int:=l.foldl (fun n c=>min (10 * n + (c - 48)) 65536) n
def Xe6:ByteArray:=⟨#[123,125,40,41,124,42,43,63,58,59,44,61,64]⟩
def Xf (c:Int) (l:List Int):Item :=
 if Xp c=true then .skip 1
 else if c=35 then .skip (twl (fun c=>c != 10) (c :: l))
 else if P5 c=true then (if twl Rt (c :: l) > 24 then .err 83 0 else .word 1 ((c :: l).take (twl Rt (c :: l))) 0 (twl Rt (c :: l)))
 else if Gy c=true then (if Xc7 ((c :: l).take (twl Gy (c :: l))) 0 > 65535 then .err 84 0 else .word 4 [] (Xc7 ((c :: l).take (twl Gy (c :: l))) 0) (twl Gy (c :: l)))
 else if c=34 then (match quF l with
  | .inl (t,k)=>.word 2 t 0 (k + 1)
  | .inr none=>.err 82 0
  | .inr (some d)=>.err 82 (d + 1))
 else if c=47 then (match slF l with
  | none=>.err 82 0
  | some k=>.word 3 (l.take k) 0 (k + 2))
 else if Xft Xe6 c≥0 then .word 5 [c] 0 1
 else .err 81 0
def cutF (b:List Int) (pos:Nat):List Ak × Int × Int :=
 match b with
 | []=>([],0,0)
 | c :: l =>
  match Xf c l with
  | .skip k=>cutF (l.drop (k - 1)) (pos + k)
  | .word kd t n k =>
   if (cutF (l.drop (k - 1)) (pos + k)).2.1=0 then (⟨kd,Qo t,n,(pos:Int)⟩ :: (cutF (l.drop (k - 1)) (pos + k)).1,0,0)
   else ([],(cutF (l.drop (k - 1)) (pos + k)).2)
  | .err e off=>([],e,((pos + off:Nat):Int))
 termination_by b.length
 decreasing_by all_goals (simp; omega)
theorem Xgy (pos:Nat):cutF [] pos=([],0,0):=by rw [cutF]
theorem Xeg {c:Int} {l:List Int} {pos k:Nat} (h:Xf c l=.skip k):cutF (c :: l) pos=cutF (l.drop (k - 1)) (pos + k):=by rw [cutF,h]
theorem Xf7 {c:Int} {l t:List Int} {kd n:Int} {pos k:Nat} (h:Xf c l=.word kd t n k):cutF (c :: l) pos=if (cutF (l.drop (k - 1)) (pos + k)).2.1=0 then (⟨kd,Qo t,n,(pos:Int)⟩ :: (cutF (l.drop (k - 1)) (pos + k)).1,0,0) else ([],(cutF (l.drop (k - 1)) (pos + k)).2):=by
 rw [cutF,h]
theorem Xky {c:Int} {l:List Int} {e:Int} {pos off:Nat} (h:Xf c l=.err e off):cutF (c :: l) pos=([],e,((pos + off:Nat):Int)):=by rw [cutF,h]
def Xbe (acc:List Ak) (r:List Ak × Int × Int):List Ak × Int × Int:=if r.2.1=0 then (acc++r.1,0,0) else ([],r.2)
theorem Xnl (acc:List Ak) (w:Ak) (r:List Ak × Int × Int):Xbe acc (if r.2.1=0 then (w :: r.1,0,0) else ([],r.2))=Xbe (acc++[w]) r:=by
 unfold Xbe
 by_cases h:r.2.1=0
 ·simp [h]
 ·rw [if_neg h,if_neg h,if_neg h]
theorem tokF_err {c:Int} {l:List Int} {e:Int} {off:Nat} (h:Xf c l=.err e off):e≠0:=by
 unfold Xf at h
 repeat' split at h
 all_goals (first | (cases h; done) | (injection h with h1 h2; omega))
theorem Xnm:∀ (n:Nat) {b:List Int} {pos:Nat},b.length=n→((cutF b pos).2.1=0→(cutF b pos).2.2=0)∧((cutF b pos).2.1≠0→(cutF b pos).1=[]):=by
 intro n
 induction n using Nat.strongRecOn with
 | _ n ih =>
  intro b pos hn
  match b with
  | []=>rw [Xgy]; simp
  | c :: l =>
   simp only [List.length_cons] at hn
   cases ht:Xf c l with
   | skip k=>rw [Xeg ht]; exact ih _ (by simp; omega) rfl
   | word kd t m k =>
    rw [Xf7 ht]
    split
    ·simp
    ·rename_i h; exact ⟨fun e=>absurd e h,fun _=>rfl⟩
   | err e off =>
    rw [Xky ht]
    exact ⟨fun e0=>absurd e0 (tokF_err ht),fun _=>rfl⟩
theorem resR_nil (b:List Int) (pos:Nat):Xbe [] (cutF b pos)=cutF b pos:=by
 obtain ⟨h1,h2⟩:=Xnm b.length (b:=b) (pos:=pos) rfl
 unfold Xbe
 split
 ·rename_i h; rw [List.nil_append]; exact Prod.ext rfl (Prod.ext h.symm (h1 h).symm)
 ·rename_i h; exact Prod.ext (h2 h).symm rfl
theorem index_ok (c:Int):N8 (⟨#[123,125,40,41,124,42,43,63,58,59,44,61,64]⟩:ByteArray) c (Xft Xe6 c):=by
 unfold N8
 first | rfl | (refine ⟨_,rfl,rfl⟩) | (unfold Iq; rfl)
theorem Xho {s:ByteArray} {a k:Nat}:s.extract a (a + k)=Qo (((Dq s).drop a).take k):=by
 refine Xm8 ?_
 have hB:Bts (((Dq s).drop a).take k):=((Xka s).drop _).take _
 rw [Xik hB,Xac,List.drop_take]
 congr 1
 omega
theorem numV_cap (l:List Int):∀ {n:Int},n≤65536→Xc7 l n≤65536:=by
 induction l with
 | nil=>intro n h; exact h
 | cons c l ih=>intro n h; exact ih (Int.min_le_right _ _)
theorem numV_nn (l:List Int):∀ {n:Int},0≤n→(∀ c ∈ l,48≤c)→0≤Xc7 l n:=by
 induction l with
 | nil=>intro n h _; exact h
 | cons c l ih =>
  intro n h hc
  refine ih ?_ fun d hd=>hc d (by simp [hd])
  have:=hc c (by simp)
  show 0≤min (10 * n + (c - 48)) 65536
  omega
theorem Xhz (l:List Int) (c n:Int):Xc7 (l++[c]) n=min (10 * Xc7 l n + (c - 48)) 65536:=by simp [Xc7,List.foldl_append]
theorem quF_le:∀ (n:Nat) {l t:List Int} {k:Nat},l.length=n→quF l=.inl (t,k)→k≤l.length:=by
 intro n
 induction n using Nat.strongRecOn with
 | _ n ih =>
  intro l t k hn h
  match l with
  | []=>rw [Xn1] at h; cases h
  | c :: l =>
   rw [quF] at h
   simp only [List.length_cons] at hn ⊢
   split at h
   ·cases h
   ·split at h
    ·simp only [Sum.inl.injEq,Prod.mk.injEq] at h; omega
    ·split at h
     ·split at h
      ·cases h
      ·rename_i e0
       have hle:=Xmh _ e0
       split at h
       ·rename_i t' k' e
        have:=ih (l.drop ((Uo l).2 - 1)).length (by simp; omega) rfl e
        simp only [Sum.inl.injEq,Prod.mk.injEq,List.length_drop] at h this
        omega
       ·cases h
       ·cases h
     ·split at h
      ·rename_i t' k' e
       have:=ih l.length (by omega) rfl e
       simp only [Sum.inl.injEq,Prod.mk.injEq] at h
       omega
      ·cases h
      ·cases h
theorem slF_le:∀ (n:Nat) {l:List Int} {k:Nat},l.length=n→slF l=some k→k + 1≤l.length:=by
 intro n
 induction n using Nat.strongRecOn with
 | _ n ih =>
  intro l k hn h
  match l with
  | []=>simp [slF] at h
  | c :: l =>
   rw [Xbj] at h
   simp only [List.length_cons] at hn ⊢
   split at h
   ·cases h
   ·split at h
    ·simp only [Option.some.injEq] at h; omega
    ·split at h
     ·match l with
      | []=>cases h
      | d :: r =>
       simp only at h
       split at h
       ·cases h
       ·obtain ⟨z,hz,hz2⟩:=Option.map_eq_some_iff.1 h
        have:=ih r.length (by simp at hn; omega) rfl hz
        simp only [List.length_cons]
        omega
     ·obtain ⟨z,hz,hz2⟩:=Option.map_eq_some_iff.1 h
      have:=ih l.length (by omega) rfl hz
      omega
theorem cut_ok {s:ByteArray} (hs:s.size≤16384):Yf s (cutF (Dq s) 0):=by
 have hl:=I9 s
 unfold Yf
 rw [if_neg (by omega)]
 have e0:cutF (Dq s) 0=Xbe [] (cutF (Dq s) 0):=(resR_nil _ _).symm
 rw [e0]
 refine Bl.to (fun q:(List Ak) × Int=>0≤q.2∧q.2≤(s.size:Int)∧(q.1.length:Int)≤q.2∧Xbe q.1 (cutF ((Dq s).drop q.2.toNat) q.2.toNat)=Xbe [] (cutF (Dq s) 0)) (fun q=>((s.size:Int) - q.2).toNat) (fun q hq=>?_) ⟨by simp,by simp,by simp,by simp⟩
 obtain ⟨acc,at_⟩:=q
 obtain ⟨h0,h1,h2,h3⟩:=hq
 simp only at h0 h1 h2 h3
 obtain ⟨a,rfl⟩:∃ a:Nat,at_=a:=⟨at_.toNat,by omega⟩
 rw [Int.toNat_natCast] at h3
 show Ip s acc a _∨∃ s',Ip s acc a (.inl s')∧_
 by_cases he:a=s.size
 ·left
  unfold Ip
  rw [if_pos (by omega),← h3,he,List.drop_eq_nil_of_le (by omega),Xgy]
  simp [Xbe]
 have ha:a < s.size:=by omega
 have hd:=Xb4 ha
 have red:∀ o,(∃ r872:Bool,(V7 (bt s a) r872) ∧
   if r872=true then o=.inl (acc,((a + 1:Nat):Int)) else
   if bt s a=35 then Bl (fun (q:Int) o=>P6 s acc q o) a o else
    ∃ r903:Bool,(P8 (bt s a) r903)∧if r903=true then Bl (fun (q:Int) o=>Nz s a acc q o) a o else
     ∃ r1068:Bool,(Ls (bt s a) r1068)∧if r1068=true then Bl (fun (q:Int × Int) o=>Jy s a acc q.1 q.2 o) (a,0) o else
      if bt s a=34 then
       ∃ r1203:(List Int) × Int × Int,(Tm s a r1203)∧if r1203.2.1=0 then ∃ x1220:List Ak,(x1220=acc++([(⟨2,Qo r1203.1,0,a⟩:Ak)]:List Ak))∧(x1220.length * 40≤211106232532992)∧o=.inl (x1220,r1203.2.2)
       else o=.inr ((([]:List Ak),r1203.2.1,r1203.2.2))
      else if bt s a=47 then
       ∃ r1251:(List Int) × Int × Int,(Rf s a r1251)∧if r1251.2.1=0 then ∃ x1268:List Ak,(x1268=acc++([(⟨3,Qo r1251.1,0,a⟩:Ak)]:List Ak))∧(x1268.length * 40≤211106232532992)∧o=.inl (x1268,r1251.2.2)
       else o=.inr ((([]:List Ak),r1251.2.1,r1251.2.2))
      else ∃ r1274:Int,(N8 (⟨#[123,125,40,41,124,42,43,63,58,59,44,61,64]⟩:ByteArray) (bt s a) r1274)∧if r1274≥0 then
        (0≤(a:Int)∧(a:Int)≤((a + 1:Nat):Int)∧((a + 1:Nat):Int)≤(s.size:Int)) ∧
        ∃ x1287:List Ak,(x1287=acc++([(⟨5,s.extract (a:Int).toNat ((a + 1:Nat):Int).toNat,0,a⟩:Ak)]:List Ak))∧(x1287.length * 40≤211106232532992)∧o=.inl (x1287,((a + 1:Nat):Int))
       else o=.inr ((([]:List Ak),81,(a:Int))))→Ip s acc a o:=fun o h=>by
  unfold Ip
  rw [if_neg (by omega),show w64 ((a:Int) + 1)=((a + 1:Nat):Int) by rw [Dn (by omega)]; omega]
  exact ⟨by omega,h⟩
 rw [hd] at h3
 -- what a token leaves
 have skip:∀ k,1≤k→a + k≤s.size→Xf (bt s a) ((Dq s).drop (a + 1))=.skip k→Ip s acc a (.inl (acc,((a + k:Nat):Int)))→∃ s',Ip s acc a (.inl s')∧(0≤s'.2∧s'.2≤(s.size:Int)∧(s'.1.length:Int)≤s'.2∧Xbe s'.1 (cutF ((Dq s).drop s'.2.toNat) s'.2.toNat)=Xbe [] (cutF (Dq s) 0))∧((s.size:Int) - s'.2).toNat < ((s.size:Int) - (a:Int)).toNat:=by
  intro k k1 k2 ht hb
  refine ⟨_,hb,⟨by show 0≤((a + k:Nat):Int); omega,by show ((a + k:Nat):Int)≤_; omega,by show (acc.length:Int)≤((a + k:Nat):Int); omega,?_⟩,by show ((s.size:Int) - ((a + k:Nat):Int)).toNat < _; omega⟩
  show Xbe acc (cutF ((Dq s).drop ((a + k:Nat):Int).toNat) ((a + k:Nat):Int).toNat)=_
  rw [Int.toNat_natCast,← h3,Xeg ht,List.drop_drop,show a + 1 + (k - 1)=a + k by omega]
 have word:∀ kd t n k,1≤k→a + k≤s.size→Xf (bt s a) ((Dq s).drop (a + 1))=.word kd t n k→Ip s acc a (.inl (acc++[(⟨kd,Qo t,n,a⟩:Ak)],((a + k:Nat):Int)))→∃ s',Ip s acc a (.inl s')∧(0≤s'.2∧s'.2≤(s.size:Int)∧(s'.1.length:Int)≤s'.2∧Xbe s'.1 (cutF ((Dq s).drop s'.2.toNat) s'.2.toNat)=Xbe [] (cutF (Dq s) 0))∧((s.size:Int) - s'.2).toNat < ((s.size:Int) - (a:Int)).toNat:=by
  intro kd t n k k1 k2 ht hb
  refine ⟨_,hb,⟨by show 0≤((a + k:Nat):Int); omega,by show ((a + k:Nat):Int)≤_; omega,by show ((acc++[_]).length:Int)≤((a + k:Nat):Int); simp; omega,?_⟩,by show ((s.size:Int) - ((a + k:Nat):Int)).toNat < _; omega⟩
  show Xbe (acc++[_]) (cutF ((Dq s).drop ((a + k:Nat):Int).toNat) ((a + k:Nat):Int).toNat)=_
  rw [Int.toNat_natCast,← h3,Xf7 ht,Xnl,List.drop_drop,show a + 1 + (k - 1)=a + k by omega]
 have err:∀ e off,e≠0→Xf (bt s a) ((Dq s).drop (a + 1))=.err e off→Xbe [] (cutF (Dq s) 0)=([],e,((a + off:Nat):Int)):=by
  intro e off he ht
  rw [← h3,Xky ht]
  unfold Xbe
  rw [if_neg he]
 by_cases cb:Xp (bt s a)=true
 ·right
  refine skip 1 (by omega) (by omega) (by unfold Xf; rw [if_pos cb]) (red _ ⟨_,Xkp _,?_⟩)
  rw [if_pos cb]
 have red2:=fun o h=>red o ⟨_,Xkp _,by rw [if_neg cb]; exact h⟩
 by_cases c35:bt s a=35
 ·right
  have hk:1≤twl (fun c=>c != 10) ((Dq s).drop a):=by rw [hd,twl,if_pos (by rw [c35]; decide)]; omega
  have hle:=Xj7 (p:=fun c=>c != 10) (a:=a) (s:=s) (by omega)
  refine skip _ hk hle (by unfold Xf; rw [if_neg cb,if_pos c35,← hd]) (red2 _ ?_)
  rw [if_pos c35]
  refine Bl.upto (B:=fun (q:Int) o=>P6 s acc q o) (fun j=>((a + j:Nat):Int)) (twl (fun c=>c != 10) ((Dq s).drop a)) (fun j hj=>?_) ?_
  ·obtain ⟨g1,g2⟩:=Xld hj
   unfold P6 Tv
   rw [if_pos (by omega),if_pos (by exact g2),Dn (x:=((a + j:Nat):Int) + 1) (by omega)]
   exact ⟨by omega,rfl⟩
  ·unfold P6 Tv
   by_cases g:a + twl (fun c=>c != 10) ((Dq s).drop a) < s.size
   ·have:=Xjs g
    rw [if_pos (by omega),if_neg (by rw [this]; simp)]
    exact ⟨by omega,rfl⟩
   ·rw [if_neg (by omega),if_neg (by simp)]
 have red3:=fun o h=>red2 o (by rw [if_neg c35]; exact ⟨_,Xa5 _,h⟩)
 by_cases cl:P5 (bt s a)=true
 ·have hk : 1 ≤ twl Rt ((Dq s).drop a) := by rw [hd, twl, if_pos (by rw [Rt, cl]; rfl)]; omega
  have hle:=Xj7 (p:=Rt) (a:=a) (s:=s) (by omega)
  have ht:Xf (bt s a) ((Dq s).drop (a + 1))=if twl Rt ((Dq s).drop a) > 24 then .err 83 0 else .word 1 (((Dq s).drop a).take (twl Rt ((Dq s).drop a))) 0 (twl Rt ((Dq s).drop a)):=by
   unfold Xf; rw [if_neg cb,if_neg c35,if_pos cl,← hd]
  have run:∀ r:Sum ((List Ak) × Int) ((List Ak) × Int × Int),Nv ((a + twl Rt ((Dq s).drop a):Nat):Int) a s acc false (.inr r)→Bl (fun (q:Int) o=>Nz s a acc q o) a r:=fun r hr=>by
   refine Bl.upto (B:=fun (q:Int) o=>Nz s a acc q o) (fun j=>((a + j:Nat):Int)) (twl Rt ((Dq s).drop a)) (fun j hj=>?_) ?_
   ·obtain ⟨g1,g2⟩:=Xld hj
    have jt:Nv ((a + j:Nat):Int) a s acc true (.inl ((a + (j + 1):Nat):Int)):=by
     show Sum.inl _=Sum.inl (w64 (((a + j:Nat):Int) + 1))
     rw [Dn (by omega)]
     congr 1
    unfold Nz
    rw [if_pos (by omega)]
    refine ⟨by omega,_,Xa5 _,?_⟩
    by_cases g3:P5 (bt s ((a + j:Nat):Int))=true
    ·rw [if_pos g3]; exact jt
    ·rw [if_neg g3]
     refine ⟨_,Vy _,?_⟩
     have:Gy (bt s ((a + j:Nat):Int))=true:=by
      have g4:=g2
      rw [Rt,Bool.or_eq_true] at g4
      exact g4.resolve_left g3
     rw [this]; exact jt
   ·unfold Nz
    by_cases g:a + twl Rt ((Dq s).drop a) < s.size
    ·have:=Xjs g
     simp only [Rt,Bool.or_eq_false_iff] at this
     rw [if_pos (by omega)]
     refine ⟨by omega,_,Xa5 _,?_⟩
     rw [if_neg (by rw [show P5 _=false from this.1]; simp)]
     refine ⟨_,Vy _,?_⟩
     rw [show Gy _=false from this.2]
     exact hr
    ·rw [if_neg (by omega)]; exact hr
  have w:w64 (((a + twl Rt ((Dq s).drop a):Nat):Int) - (a:Int))=(twl Rt ((Dq s).drop a):Int):=by rw [Dn (by omega)]; omega
  by_cases hbig:twl Rt ((Dq s).drop a) > 24
  ·left
   rw [if_pos hbig] at ht
   rw [err 83 0 (by decide) ht]
   refine red3 _ ?_
   rw [if_pos cl]
   refine run _ ?_
   unfold Nv
   rw [if_neg (by simp),w,if_pos (by omega)]
   rfl
  ·right
   rw [if_neg hbig] at ht
   refine word _ _ _ _ hk hle ht (red3 _ ?_)
   rw [if_pos cl]
   refine run _ ?_
   unfold Nv
   rw [if_neg (by simp),w,if_neg (by omega)]
   refine ⟨by omega,_,rfl,by simp; omega,?_⟩
   rw [Int.toNat_natCast,Int.toNat_natCast,Xho]
 have red4:=fun o h=>red3 o (by rw [if_neg cl]; exact ⟨_,Vy _,h⟩)
 by_cases cd:Gy (bt s a)=true
 ·have hk:1≤twl Gy ((Dq s).drop a):=by rw [hd,twl,if_pos cd]; omega
  have hle:=Xj7 (p:=Gy) (a:=a) (s:=s) (by omega)
  have ht:Xf (bt s a) ((Dq s).drop (a + 1))=if Xc7 (((Dq s).drop a).take (twl Gy ((Dq s).drop a))) 0 > 65535 then .err 84 0 else .word 4 [] (Xc7 (((Dq s).drop a).take (twl Gy ((Dq s).drop a))) 0) (twl Gy ((Dq s).drop a)):=by
   unfold Xf; rw [if_neg cb,if_neg c35,if_neg cl,if_pos cd,← hd]
  have run:∀ r:Sum ((List Ak) × Int) ((List Ak) × Int × Int),Oz ((a + twl Gy ((Dq s).drop a):Nat):Int) s (Xc7 (((Dq s).drop a).take (twl Gy ((Dq s).drop a))) 0) a acc false (.inr r)→Bl (fun (q:Int × Int) o=>Jy s a acc q.1 q.2 o) (a,0) r:=fun r hr=>by
   refine Bl.upto (B:=fun (q:Int × Int) o=>Jy s a acc q.1 q.2 o) (fun j=>(((a + j:Nat):Int),Xc7 (((Dq s).drop a).take j) 0)) (twl Gy ((Dq s).drop a)) (fun j hj=>?_) ?_
   ·obtain ⟨g1,g2⟩:=Xld hj
    have hdg:∀ c ∈ ((Dq s).drop a).take j,48≤c:=fun c hc=>by
     obtain ⟨q,hq,rfl⟩:=List.getElem_of_mem hc
     simp only [List.length_take] at hq
     obtain ⟨q1,q2⟩:=Xm5 Gy (l:=(Dq s).drop a) (j:=q) (by omega)
     rw [List.getElem_take]
     simp only [Gy,Bool.and_eq_true,decide_eq_true_eq] at q2
     exact q2.1
    have n0:=numV_nn _ (Int.le_refl 0) hdg
    have n1:=numV_cap (((Dq s).drop a).take j) (n:=0) (by omega)
    have hsn:((Dq s).drop a).take (j + 1)=((Dq s).drop a).take j++[bt s ((a + j:Nat):Int)]:=by
     have hj2:j < ((Dq s).drop a).length:=by simp only [List.length_drop]; omega
     rw [List.take_succ_eq_append_getElem hj2,List.getElem_drop,Xhb g1]
    have g3:=g2
    simp only [Gy,Bool.and_eq_true,decide_eq_true_eq] at g3
    show Jy s a acc ((a + j:Nat):Int) (Xc7 (((Dq s).drop a).take j) 0) (.inl (((a + (j + 1):Nat):Int),Xc7 (((Dq s).drop a).take (j + 1)) 0))
    unfold Jy
    rw [if_pos (by omega)]
    refine ⟨by omega,_,Vy _,?_⟩
    rw [g2]
    unfold Oz
    rw [if_pos rfl,Xdk (by omega),Dn (x:=10 * _) (by omega),Dn (x:=bt s _ - 48) (by omega),Dn (x:=10 * _ + _) (by omega),Dn (x:=((a + j:Nat):Int) + 1) (by omega),hsn,Xhz]
    exact ⟨by omega,rfl⟩
   ·show Jy s a acc ((a + twl Gy ((Dq s).drop a):Nat):Int) _ _
    unfold Jy
    by_cases g:a + twl Gy ((Dq s).drop a) < s.size
    ·have:=Xjs g
     rw [if_pos (by omega)]
     refine ⟨by omega,_,Vy _,?_⟩
     rw [this]; exact hr
    ·rw [if_neg (by omega)]; exact hr
  by_cases hbig:Xc7 (((Dq s).drop a).take (twl Gy ((Dq s).drop a))) 0 > 65535
  ·left
   rw [if_pos hbig] at ht
   rw [err 84 0 (by decide) ht]
   refine red4 _ ?_
   rw [if_pos cd]
   refine run _ ?_
   unfold Oz
   rw [if_neg (by simp),if_pos hbig]
   rfl
  ·right
   rw [if_neg hbig] at ht
   refine word _ _ _ _ hk hle ht (red4 _ ?_)
   rw [if_pos cd]
   refine run _ ?_
   unfold Oz
   rw [if_neg (by simp),if_neg hbig]
   exact ⟨_,rfl,by simp; omega,rfl⟩
 have red5:=fun o h=>red4 o (by rw [if_neg cd]; exact h)
 have tk:Xf (bt s a) ((Dq s).drop (a + 1))=if bt s a=34 then (match quF ((Dq s).drop (a + 1)) with
  | .inl (t,k)=>.word 2 t 0 (k + 1)
  | .inr none=>.err 82 0
  | .inr (some d)=>.err 82 (d + 1)) else if bt s a=47 then (match slF ((Dq s).drop (a + 1)) with
  | none=>.err 82 0
  | some k=>.word 3 (((Dq s).drop (a + 1)).take k) 0 (k + 2)) else if Xft Xe6 (bt s a)≥0 then .word 5 [bt s a] 0 1 else .err 81 0:=by
  unfold Xf; rw [if_neg cb,if_neg c35,if_neg cl,if_neg cd]
 by_cases c34:bt s a=34
 ·have hq:=Xnf hs ha
  rw [if_pos c34] at tk
  cases hm:quF ((Dq s).drop (a + 1)) with
  | inl x =>
   obtain ⟨t,k⟩:=x
   rw [hm] at tk hq
   have hle:=quF_le _ rfl hm
   simp only [List.length_drop] at hle
   right
   refine word 2 t 0 (k + 1) (by omega) (by omega) tk (red5 _ ?_)
   rw [if_pos c34]
   refine ⟨_,hq,?_⟩
   rw [if_pos (by rfl)]
   refine ⟨_,rfl,by simp; omega,?_⟩
   show Sum.inl _=Sum.inl (acc++[(⟨2,Qo ([]++t),0,(a:Int)⟩:Ak)],((a + 1:Nat):Int) + (k:Int))
   rw [List.nil_append,show ((a + (k + 1):Nat):Int)=((a + 1:Nat):Int) + (k:Int) by omega]
  | inr y =>
   left
   rw [hm] at hq tk
   cases y with
   | none =>
    rw [err 82 0 (by decide) tk]
    refine red5 _ ?_
    rw [if_pos c34]
    refine ⟨_,hq,?_⟩
    rw [if_neg (by show ¬ (82:Int)=0; decide)]
    rfl
   | some d =>
    rw [err 82 (d + 1) (by decide) tk]
    refine red5 _ ?_
    rw [if_pos c34]
    refine ⟨_,hq,?_⟩
    rw [if_neg (by show ¬ (82:Int)=0; decide)]
    show Sum.inr _=Sum.inr (([]:List Ak),(82:Int),((a + 1:Nat):Int) + (d:Int))
    rw [show ((a + (d + 1):Nat):Int)=((a + 1:Nat):Int) + (d:Int) by omega]
 have red6:=fun o h=>red5 o (by rw [if_neg c34]; exact h)
 rw [if_neg c34] at tk
 by_cases c47:bt s a=47
 ·have hq:=Xlk hs ha
  rw [if_pos c47] at tk
  cases hm:slF ((Dq s).drop (a + 1)) with
  | none =>
   left
   rw [hm] at hq tk
   rw [err 82 0 (by decide) tk]
   refine red6 _ ?_
   rw [if_pos c47]
   refine ⟨_,hq,?_⟩
   rw [if_neg (by show ¬ (82:Int)=0; decide)]
   rfl
  | some k =>
   right
   rw [hm] at hq tk
   have hle:=slF_le _ rfl hm
   simp only [List.length_drop] at hle
   refine word 3 _ 0 (k + 2) (by omega) (by omega) tk (red6 _ ?_)
   rw [if_pos c47]
   refine ⟨_,hq,?_⟩
   rw [if_pos (by rfl)]
   refine ⟨_,rfl,by simp; omega,?_⟩
   show Sum.inl _=Sum.inl (acc++[(⟨3,Qo (((Dq s).take (a + 1 + k)).drop ((a:Int) + 1).toNat),0,(a:Int)⟩:Ak)],((a + 1 + k + 1:Nat):Int))
   rw [show ((a:Int) + 1).toNat=a + 1 by omega,List.drop_take,show a + 1 + k - (a + 1)=k by omega,show a + (k + 2)=a + 1 + k + 1 by omega]
 have red7:=fun o h=>red6 o (by rw [if_neg c47]; exact ⟨_,index_ok _,h⟩)
 rw [if_neg c47] at tk
 by_cases cs:Xft Xe6 (bt s a)≥0
 ·right
  rw [if_pos cs] at tk
  refine word 5 _ 0 1 (by omega) (by omega) tk (red7 _ ?_)
  rw [if_pos cs]
  refine ⟨by omega,_,rfl,by simp; omega,?_⟩
  rw [Int.toNat_natCast,Int.toNat_natCast,Xho,hd]
  rfl
 ·left
  rw [if_neg cs] at tk
  rw [err 81 0 (by decide) tk]
  refine red7 _ ?_
  rw [if_neg cs]
  rfl
end Go.Proofs.YtjookebbmfiidaaDoor.L
