/- The plain side of chapter 8, more: what is spelt is cut as just that word; words put together are cut as they are. No condition. -/
import Derived.Test.YtjookebbmfiidaaDoorSV
import Derived.Lib.Join
import Derived.Test.YtjookebbmfiidaaDoorT0
set_option linter.unusedVariables false
namespace Go.Proofs.YtjookebbmfiidaaDoor.L
open Go.Proofs.YtjookebbmfiidaaDoor.B Go.Proofs.YtjookebbmfiidaaDoor.R
def Tl (r:List Int):Prop:=r=[]∨∃ r',r=32 :: r'
theorem Xj4 {p:Int→Bool} (hp:p 32=false) {r:List Int} (hr:Tl r):∀ {l:List Int},(∀ x ∈ l,p x=true)→twl p (l++r)=l.length
 | [],h=>by
  rcases hr with rfl | ⟨r',rfl⟩
  ·rfl
  ·simp [twl,hp]
 | c :: l,h=>by
  rw [List.cons_append,twl,if_pos (h c (by simp)),Xj4 hp hr fun x hx=>h x (by simp [hx])]
  simp
theorem slF_all (r:List Int):∀ (n:Nat) {l:List Int},l.length=n→Xb1 l=true→slF (l++47 :: r)=some l.length:=by
 intro n
 induction n using Nat.strongRecOn with
 | _ n ih =>
  intro l hn h
  match l with
  | []=>rw [List.nil_append,Xbj,if_neg (by decide),if_pos rfl]; rfl
  | c :: l =>
   simp only [List.length_cons] at hn
   rw [Xg8] at h
   rw [List.cons_append,Xbj]
   by_cases c47:c=47
   ·rw [if_pos c47] at h; cases h
   rw [if_neg c47] at h
   by_cases c10:c=10
   ·rw [if_pos c10] at h; cases h
   rw [if_neg c10] at h
   rw [if_neg c10,if_neg c47]
   by_cases c92:c=92
   ·rw [if_pos c92] at h ⊢
    match l with
    | []=>cases h
    | d :: l =>
     simp only [List.cons_append] at h ⊢
     by_cases d10:d=10
     ·rw [if_pos d10] at h; cases h
     rw [if_neg d10] at h ⊢
     rw [ih l.length (by simp at hn; omega) rfl h]
     simp
   ·rw [if_neg c92] at h ⊢
    rw [ih l.length (by omega) rfl h]
    simp
theorem hexB_ok:∀ i:Fin 16,Xaz (bt hxB ((i.val:Nat):Int))=(((i.val:Nat):Int),true):=by decide +kernel
theorem Xmu {c:Int} (h0:0≤c) (h1:c < 16):Xaz (bt hxB c)=(c,true):=by
 have:=hexB_ok ⟨c.toNat,by omega⟩
 simpa [Int.toNat_of_nonneg h0] using this
theorem quF_put {c:Int} (h0:0≤c) (h1:c≤255) (r:List Int):quF (Y7 c++r)=quE c (Y7 c).length (quF r):=by
 have two:∀ x:Int,Xhf x r=(c,2)→quF (92 :: x :: r)=quE c 2 (quF r):=fun x h=>by
  have e:Uo (x :: r)=(c,2):=by rw [Xbw,h]
  rw [quF_e (by rw [e]; simp),e]
  rfl
 unfold Y7
 by_cases c34:c=34
 ·subst c34
  simp only [if_true]
  exact two 34 (by simp [Xhf])
 rw [if_neg c34]
 by_cases c92:c=92
 ·subst c92
  simp only [if_true]
  exact two 92 (by simp [Xhf])
 rw [if_neg c92]
 by_cases c10:c=10
 ·subst c10
  simp only [if_true]
  exact two 110 (by simp [Xhf])
 rw [if_neg c10]
 by_cases c9:c=9
 ·subst c9
  simp only [if_true]
  exact two 116 (by simp [Xhf])
 rw [if_neg c9]
 by_cases c13:c=13
 ·subst c13
  simp only [if_true]
  exact two 114 (by simp [Xhf])
 rw [if_neg c13]
 by_cases g:c < 32∨c > 126
 ·rw [if_pos g]
  have e:Uo (120 :: bt hxB (c / 16) :: bt hxB (c % 16) :: r)=(c,4):=by
   rw [Xbw]
   unfold Xhf
   simp only [show ¬ (120:Int)=34 by decide,show ¬ (120:Int)=92 by decide,show ¬ (120:Int)=110 by decide,show ¬ (120:Int)=116 by decide,show ¬ (120:Int)=114 by decide,if_false,if_true]
   rw [Xen,Xmu (by omega) (by omega),Xmu (by omega) (by omega)]
   simp only [if_true]
   rw [show 16 * (c / 16) + c % 16=c by omega]
  show quF (92 :: 120 :: bt hxB (c / 16) :: bt hxB (c % 16) :: r)=_
  rw [quF_e (by rw [e]; simp),e]
  rfl
 ·rw [if_neg g]
  exact quF_o c10 c34 c92
theorem Xi6 (r:List Int):∀ {l:List Int},Bts l→quF (l.flatMap Y7++34 :: r)=.inl (l,(l.flatMap Y7).length + 1)
 | [],h=>by rw [List.flatMap_nil,List.nil_append,Xiv]; rfl
 | c :: l,h=>by
  obtain ⟨h0,h1⟩:=h c (by simp)
  rw [List.flatMap_cons,List.append_assoc,quF_put h0 h1,Xi6 r fun x hx=>h x (by simp [hx])]
  simp only [quE,List.length_append]
  rw [show (Y7 c).length + (l.flatMap Y7).length + 1=(l.flatMap Y7).length + 1 + (Y7 c).length by omega]
def dd (n:Nat):List Int:=(Lib.decDigits n).map fun b=>(b.toNat:Int)
theorem u8d {n:Nat} (h:n < 10):(((UInt8.ofNat (48 + n)).toNat:Nat):Int)=48 + (n:Int):=by
 rw [UInt8.toNat_ofNat']; omega
theorem Xgn {n:Nat} (h:n < 10):dd n=[48 + (n:Int)]:=by
 unfold dd
 rw [Lib.decDigits,dif_pos h,List.map_cons,List.map_nil,u8d h]
theorem Xls {n:Nat} (h:¬ n < 10):dd n=dd (n / 10)++[48 + ((n % 10:Nat):Int)]:=by
 unfold dd
 rw [Lib.decDigits,dif_neg h,List.map_append,List.map_cons,List.map_nil,u8d (by omega)]
theorem dd_ok (n:Nat):(∀ x ∈ dd n,Gy x=true)∧dd n≠[]∧Xc7 (dd n) 0=min (n:Int) 65536∧(n < 10 ^ 5→(dd n).length≤5):=by
 induction n using Nat.strongRecOn with
 | _ n ih =>
  by_cases h:n < 10
  ·rw [Xgn h]
   refine ⟨fun x hx=>?_,by simp,?_,by simp⟩
   ·simp only [List.mem_singleton] at hx
    subst hx
    simp only [Gy,Bool.and_eq_true,decide_eq_true_eq]
    omega
   ·simp only [Xc7,List.foldl_cons,List.foldl_nil]; omega
  ·obtain ⟨i1, i2, i3, i4⟩ := ih (n / 10) (by omega)
   rw [Xls h]
   refine ⟨fun x hx=>?_,by simp,?_,fun hn=>?_⟩
   ·rcases List.mem_append.1 hx with hx | hx
    ·exact i1 x hx
    ·simp only [List.mem_singleton] at hx
     subst hx
     simp only [Gy,Bool.and_eq_true,decide_eq_true_eq]
     omega
   ·rw [Xhz,i3]; omega
   ·have hl:∀ (k m:Nat),m < 10 ^ (k + 1)→(dd m).length≤k + 1:=by
     intro k
     induction k with
     | zero=>intro m hm; rw [Xgn (by simpa using hm)]; simp
     | succ k ik =>
      intro m hm
      by_cases g:m < 10
      ·rw [Xgn g]; simp
      ·rw [Xls g,List.length_append]
       have:=ik (m / 10) (by rw [Nat.pow_succ] at hm; omega)
       simp only [List.length_cons,List.length_nil]
       omega
    rw [← Xls h]
    exact hl 4 n hn
theorem Xml {n:Int} (h:0≤n):Dq (itoaB n)=dd n.toNat:=by
 unfold Dq itoaB Lib.itoa dd
 rw [if_neg (by omega)]
theorem sign_all:∀ n:Fin 256,Xft Xe6 ((n.val:Nat):Int)≥0→Xp ((n.val:Nat):Int)=false∧((n.val:Nat):Int)≠35∧P5 ((n.val:Nat):Int)=false∧Gy ((n.val:Nat):Int)=false∧((n.val:Nat):Int)≠34∧((n.val:Nat):Int)≠47:=by decide +kernel
theorem sign_at {c:Int} (h0:0≤c) (h1:c≤255) (h:Xft Xe6 c≥0):Xp c=false∧c≠35∧P5 c=false∧Gy c=false∧c≠34∧c≠47:=by
 have:=sign_all ⟨c.toNat,by omega⟩
 simp only [Int.toNat_of_nonneg h0] at this
 exact this h
theorem hasB_one {t:ByteArray} {c:Int} (h:Dq t=[c]):hasB Xe6 t=decide (0≤Xft Xe6 c):=by
 unfold hasB Xft
 have hl:=congrArg List.length h
 rw [I9] at hl
 unfold Dq at h
 match hd:t.data.toList,h with
 | [b],h =>
  simp only [List.map_cons,List.map_nil,List.cons.injEq,and_true] at h
  rw [← h]
  simp
theorem Xjl {c:Int} (h:P5 c=true):Xp c=false∧c≠35∧Gy c=false:=by
 simp only [P5,Xp,Gy,Bool.or_eq_true,Bool.and_eq_true,decide_eq_true_eq,beq_iff_eq,Bool.or_eq_false_iff,Bool.and_eq_false_iff,decide_eq_false_iff_not,beq_eq_false_iff_ne] at h ⊢
 omega
theorem Xkm {c:Int} (h:Gy c=true):Xp c=false∧c≠35∧P5 c=false:=by
 simp only [P5,Xp,Gy,Bool.and_eq_true,decide_eq_true_eq,Bool.or_eq_false_iff,Bool.and_eq_false_iff,decide_eq_false_iff_not,beq_eq_false_iff_ne] at h ⊢
 omega
def txF (w:Ak):List Int:=if w.kind=4 then [] else Dq w.text
def nF (w:Ak):Int:=if w.kind=4 then w.n else 0
theorem Xny {w:Ak} (h:Qi w=true):∃ c l,Dq (Qe w)=c :: l∧∀ r,Tl r→Xf c (l++r)=.word w.kind (txF w) (nF w) (l.length + 1):=by
 unfold Qe
 rw [if_pos h]
 unfold Qi at h
 have hbt:=Xka w.text
 by_cases k1:w.kind=1
 ·rw [if_pos k1] at h
  rw [if_neg (by omega),if_neg (by omega),if_neg (by omega)]
  unfold txF nF
  rw [if_neg (by omega),if_neg (by omega),k1]
  unfold Xly at h
  simp only [Bool.and_eq_true,decide_eq_true_eq,Bool.not_eq_true'] at h
  obtain ⟨g1,g2,g3,g4⟩:=h
  match hd:Dq w.text,g1 with
  | c :: l,_ =>
   rw [hd] at g2 g3 g4
   refine ⟨c,l,rfl,fun r hr=>?_⟩
   have hn:=List.all_eq_true.1 g4
   have hcl:P5 c=true:=by
    have:=hn c (by simp)
    rw [Rt,Bool.or_eq_true] at this
    exact this.resolve_right (by rw [show Gy c=false from g3]; simp)
   obtain ⟨a1,a2,a3⟩:=Xjl hcl
   have e:twl Rt (c :: (l++r))=l.length + 1:=by rw [← List.cons_append,Xj4 (by decide) hr hn]; rfl
   unfold Xf
   rw [a1,if_neg (by simp),if_neg a2,if_pos hcl,e,if_neg (by simp at g2; omega),← List.cons_append,List.take_append_of_le_length (by simp),List.take_of_length_le (by simp)]
 rw [if_neg k1] at h
 by_cases k2:w.kind=2
 ·rw [if_pos k2]
  unfold txF nF
  rw [if_neg (by omega),if_neg (by omega),k2]
  have hB:Bts (Xag (Dq w.text)):=by
   intro x hx
   unfold Xag at hx
   rcases List.mem_cons.1 hx with rfl | hx
   ·omega
   rcases List.mem_append.1 hx with hx | hx
   ·obtain ⟨c,hc,hx⟩:=List.mem_flatMap.1 hx
    obtain ⟨c0,c1⟩:=hbt c hc
    have b1:=Xea hxB (c / 16)
    have b2:=Xea hxB (c % 16)
    unfold Y7 at hx
    repeat' split at hx
    all_goals (simp only [List.mem_cons,List.not_mem_nil,or_false] at hx; omega)
   ·simp only [List.mem_cons,List.not_mem_nil,or_false] at hx; omega
  rw [Xik hB]
  refine ⟨34,(Dq w.text).flatMap Y7++[34],rfl,fun r hr=>?_⟩
  rw [List.append_assoc,List.singleton_append]
  unfold Xf
  simp only [show Xp 34=false by decide,show ¬ (34:Int)=35 by decide,show P5 34=false by decide,show Gy 34=false by decide,if_false,if_true,Xi6 r hbt]
  simp
 rw [if_neg k2] at h
 rw [if_neg k2]
 by_cases k3:w.kind=3
 ·rw [if_pos k3] at h
  rw [if_pos k3]
  unfold txF nF
  rw [if_neg (by omega),if_neg (by omega),k3]
  refine ⟨47,Dq w.text++[47],by rw [Xgb,Xgb]; rfl,fun r hr=>?_⟩
  rw [List.append_assoc,List.singleton_append]
  unfold Xf
  simp only [show Xp 47=false by decide,show ¬ (47:Int)=35 by decide,show P5 47=false by decide,show Gy 47=false by decide,show ¬ (47:Int)=34 by decide,if_false,if_true,slF_all r _ rfl h]
  rw [List.take_append_of_le_length (Nat.le_refl _),List.take_length]
  simp
 rw [if_neg k3] at h
 rw [if_neg k3]
 by_cases k4:w.kind=4
 ·rw [if_pos k4] at h
  rw [if_pos k4]
  unfold txF nF
  rw [if_pos k4,if_pos k4,k4]
  have hn:0≤w.n∧w.n≤65535:=by
   by_cases g:w.n≥0
   ·rw [if_pos g] at h; exact ⟨g,by simpa using h⟩
   ·rw [if_neg g] at h; cases h
  obtain ⟨d1,d2,d3,d4⟩:=dd_ok w.n.toNat
  rw [Xml hn.1]
  match hd:dd w.n.toNat,d2 with
  | c :: l,_ =>
   rw [hd] at d1 d3
   refine ⟨c,l,rfl,fun r hr=>?_⟩
   have hcd:=d1 c (by simp)
   obtain ⟨a1,a2,a3⟩:=Xkm hcd
   have e:twl Gy (c :: (l++r))=l.length + 1:=by rw [← List.cons_append,Xj4 (by decide) hr d1]; rfl
   have e2:(c :: (l++r)).take (l.length + 1)=c :: l:=by rw [← List.cons_append,List.take_append_of_le_length (by simp),List.take_of_length_le (by simp)]
   unfold Xf
   rw [a1,if_neg (by simp),if_neg a2,a3,if_neg (by simp),if_pos hcd,e,e2,d3,if_neg (by omega),show min ((w.n.toNat:Nat):Int) 65536=w.n by omega]
 rw [if_neg k4] at h
 rw [if_neg k4]
 by_cases k5:w.kind=5
 ·rw [if_pos k5] at h
  unfold txF nF
  rw [if_neg (by omega),if_neg (by omega),k5]
  by_cases g:(w.text.size:Int)=1
  ·rw [if_pos g] at h
   have hl:=I9 w.text
   match hd:Dq w.text,(show (Dq w.text).length=1 by omega) with
   | [c],_ =>
    rw [hasB_one hd,decide_eq_true_eq] at h
    obtain ⟨c0,c1⟩:=hbt c (by rw [hd]; simp)
    obtain ⟨a1,a2,a3,a4,a5,a6⟩:=sign_at c0 c1 h
    refine ⟨c,[],rfl,fun r hr=>?_⟩
    unfold Xf
    rw [a1,if_neg (by simp),if_neg a2,a3,if_neg (by simp),a4,if_neg (by simp),if_neg a5,if_neg a6,if_pos h]
    rfl
  ·rw [if_neg g] at h; cases h
 ·rw [if_neg k5] at h; cases h
def jn:List (List Int)→List Int
 | []=>[]
 | [x]=>x
 | x :: y :: r=>x++32 :: jn (y :: r)
theorem Xmm (l:List UInt8):Dq ⟨l.toArray⟩=l.map fun b=>(b.toNat:Int):=by simp [Dq]
theorem Xf2:∀ xs:List ByteArray,Dq (Ym xs sp)=jn (xs.map Dq)
 | []=>rfl
 | [x]=>by
  unfold Ym
  rw [Xmm,List.map_cons,List.map_nil,Lib.join_one]
  rfl
 | x :: y :: r=>by
  have ih:=Xf2 (y :: r)
  unfold Ym at ih ⊢
  rw [Xmm] at ih ⊢
  simp only [List.map_cons] at ih ⊢
  rw [Lib.join_cons] at ih ⊢
  unfold Lib.joinTail at ih ⊢
  simp only [List.map_cons,List.flatten_cons,List.map_append] at ih ⊢
  rw [jn,← ih]
  simp only [List.append_assoc]
  rfl
theorem jn_len (M:Nat):∀ xs:List (List Int),(∀ x ∈ xs,x.length≤M)→(jn xs).length≤xs.length * (M + 1)
 | [],h=>by simp [jn]
 | [x],h=>by have:=h x (by simp); simp [jn]; omega
 | x :: y :: r,h=>by
  have ih:=jn_len M (y :: r) fun z hz=>h z (by simp [hz])
  have:=h x (by simp)
  rw [jn,List.length_append,List.length_cons,List.length_cons,Nat.succ_mul]
  omega
theorem Xlb {w:Ak}:(Qe w).size≤4 * w.text.size + 8:=by
 unfold Qe
 by_cases h:Qi w=true
 ·rw [if_pos h]
  split
  ·rw [← I9]
   have h1:=Xdr (Dq w.text)
   rw [I9] at h1
   have:(Dq (Qo (Xag (Dq w.text)))).length=(Xag (Dq w.text)).length:=by rw [I9]; simp [Qo,ByteArray.size]
   rw [this]
   simp only [Xag,List.length_cons,List.length_append,List.length_nil]
   omega
  ·split
   ·simp only [ByteArray.size_append,show (⟨#[47]⟩:ByteArray).size=1 from rfl]; omega
   ·split
    ·rename_i k4
     unfold Qi at h
     rw [if_neg (by omega),if_neg (by omega),if_neg (by omega),if_pos k4] at h
     have hn:0≤w.n∧w.n≤65535:=by
      by_cases g:w.n≥0
      ·rw [if_pos g] at h; exact ⟨g,by simpa using h⟩
      ·rw [if_neg g] at h; cases h
     have:=(dd_ok w.n.toNat).2.2.2 (by omega)
     rw [← I9,Xml hn.1]
     omega
    ·omega
 ·rw [if_neg h,show (⟨#[]⟩:ByteArray).size=0 from rfl]; omega
theorem Xnb {ws:List Ak} {M:Nat} (h:∀ w ∈ ws,w.text.size≤M):(Ym (ws.map Qe) sp).size≤ws.length * (4 * M + 9):=by
 rw [← I9,Xf2]
 have:=jn_len (4 * M + 8) ((ws.map Qe).map Dq) (fun x hx=>by
  obtain ⟨y,hy,rfl⟩:=List.mem_map.1 hx
  obtain ⟨w,hw,rfl⟩:=List.mem_map.1 hy
  rw [I9]
  have:=h w hw
  have:=Xlb (w:=w)
  omega)
 simpa using this
end Go.Proofs.YtjookebbmfiidaaDoor.L
set_option linter.unusedVariables false
namespace Go.Proofs.YtjookebbmfiidaaDoor.L
open Go.Proofs.YtjookebbmfiidaaDoor.B Go.Proofs.YtjookebbmfiidaaDoor.R
theorem sound_no {w:Ak} (h:Qi w=false):Qe w=⟨#[]⟩:=by unfold Qe; rw [if_neg (by rw [h]; simp)]
theorem Xnr {w:Ak} (h:Qi w=true):Qe w≠⟨#[]⟩:=fun e=>by
 obtain ⟨c,l,e2,_⟩:=Xny h
 rw [e] at e2
 cases e2
def joinF (ws:List Ak):ByteArray:=if ws.all Qi=true then Ym (ws.map Qe) sp else ⟨#[]⟩
theorem joinF_ok {ws:List Ak} (hl:ws.length≤2 ^ 30) (h1:∀ w ∈ ws,w.text.size≤1048576∧(-9223372036854775808≤w.n∧w.n≤9223372036854775807)) (h3:(Ym (ws.map Qe) sp).size≤140737488355328):Ux ws (joinF ws):=by
 unfold Ux joinF
 have e:∀ l:List Ak,∀ acc:List ByteArray,Xfv (fun w (acc:List ByteArray)=>if Qi w=true then .inl (acc++[Qe w]) else .inr (⟨#[]⟩:ByteArray)) (fun acc=>Ym acc sp) l acc=if l.all Qi=true then Ym (acc++l.map Qe) sp else ⟨#[]⟩:=by
  intro l
  induction l with
  | nil=>intro acc; simp [Xfv]
  | cons a l ih =>
   intro acc
   cases h:Qi a with
   | true=>rw [Xg0 (s':=acc++[Qe a]) (by simp [h]),ih,List.all_cons,h,Bool.true_and]; simp
   | false=>rw [Xe8 (r:=(⟨#[]⟩:ByteArray)) (by simp [h]),List.all_cons,h,Bool.false_and]; rfl
 have e0:=e ws []
 rw [List.nil_append] at e0
 rw [← e0]
 refine Bl.row ws (fun (acc:List ByteArray) i=>(acc,i)) _ _ (fun i acc=>acc=(ws.take i).map Qe) (fun i hi s hs=>⟨fun s' hs'=>?_,fun r hr=>?_⟩) (fun s hs=>?_) (by simp)
 ·subst hs
  obtain ⟨q1,q2⟩:=h1 _ (List.getElem_mem hi)
  cases h:Qi ws[i] with
  | false=>simp [h] at hs'
  | true =>
   simp only [h,if_true,Sum.inl.injEq] at hs'
   subst hs'
   refine ⟨?_,by rw [List.take_succ_eq_append_getElem hi,List.map_append]; rfl⟩
   show Jn ws _ (i:Int) _
   unfold Jn
   rw [if_pos (by omega),Xad hi,Xby (by omega)]
   refine ⟨by omega,_,Xe1 (by omega),?_⟩
   rw [if_pos h]
   exact ⟨_,spell_ok q1 q2,_,rfl,by simp; omega,rfl⟩
 ·obtain ⟨q1,q2⟩:=h1 _ (List.getElem_mem hi)
  cases h:Qi ws[i] with
  | true=>simp [h] at hr
  | false =>
   simp only [h] at hr
   simp only [Bool.false_eq_true,if_false,Sum.inr.injEq] at hr
   subst hr
   show Jn ws _ (i:Int) _
   unfold Jn
   rw [if_pos (by omega),Xad hi]
   refine ⟨by omega,_,Xe1 (by omega),?_⟩
   rw [if_neg (by rw [h]; simp)]
 ·subst hs
  show Jn ws _ (ws.length:Int) _
  unfold Jn
  rw [if_neg (by omega),List.take_length]
  exact ⟨_,⟨by simp; omega,h3,rfl⟩,rfl⟩
end Go.Proofs.YtjookebbmfiidaaDoor.L
set_option linter.unusedVariables false
namespace Go.Proofs.YtjookebbmfiidaaDoor.L
open Go.Proofs.YtjookebbmfiidaaDoor.B Go.Proofs.YtjookebbmfiidaaDoor.R
theorem join_one (y:ByteArray):Ym [y] sp=(⟨#[]⟩:ByteArray)++y:=by
 refine Xm8 ?_
 rw [Xf2,Xgb]
 rfl
def mark (i:Nat):Ak:=⟨0,(⟨#[]⟩:ByteArray),900 + (i:Int),7⟩
def marks:List Ak:=(List.range 20).map mark
end Go.Proofs.YtjookebbmfiidaaDoor.L
