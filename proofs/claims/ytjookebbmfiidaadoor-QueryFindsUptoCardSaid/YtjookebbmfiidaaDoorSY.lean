/- The plain side of chapter 8, more: what is spelt is cut as just that word; words put together are cut as they are. No condition. -/
import Derived.Test.YtjookebbmfiidaaDoorSV
import Derived.Lib.Join
set_option linter.unusedVariables false
namespace Go.Proofs.YtjookebbmfiidaaDoor.L
open Go.Proofs.YtjookebbmfiidaaDoor.B Go.Proofs.YtjookebbmfiidaaDoor.R
def Tl (r:List Int):Prop:=r=[]∨∃ r',r=32 :: r'
theorem Xi2 {p:Int→Bool} (hp:p 32=false) {r:List Int} (hr:Tl r):∀ {l:List Int},(∀ x ∈ l,p x=true)→twl p (l++r)=l.length
 | [],h=>by
  rcases hr with rfl | ⟨r',rfl⟩
  ·rfl
  ·simp [twl,hp]
 | c :: l,h=>by
  rw [List.cons_append,twl,if_pos (h c (by simp)),Xi2 hp hr fun x hx=>h x (by simp [hx])]
  simp
theorem Xlh (r:List Int):∀ (n:Nat) {l:List Int},l.length=n→Xaa l=true→slF (l++47 :: r)=some l.length:=by
 intro n
 induction n using Nat.strongRecOn with
 | _ n ih =>
  intro l hn h
  match l with
  | []=>rw [List.nil_append,Xbj,if_neg (by decide),if_pos rfl]; rfl
  | c :: l =>
   simp only [List.length_cons] at hn
   rw [Xaj] at h
   rw [List.cons_append,Xbj]
   by_cases c47:c=47
   ·rw [if_pos c47] at h; cases h
   rw [if_neg c47] at h
   by_cases c10:c=10
   ·rw [if_pos c10] at h; cases h
   rw [if_neg c10] at h
   rw [if_neg c10,if_neg c47]
   by_cases c92:c=92
   ·rw [if_pos c92] at h ⊢
    match l with
    | []=>cases h
    | d :: l =>
     simp only [List.cons_append] at h ⊢
     by_cases d10:d=10
     ·rw [if_pos d10] at h; cases h
     rw [if_neg d10] at h ⊢
     rw [ih l.length (by simp at hn; omega) rfl h]
     simp
   ·rw [if_neg c92] at h ⊢
    rw [ih l.length (by omega) rfl h]
    simp
theorem slF_reg:∀ (n:Nat) {l:List Int} {k:Nat},l.length=n→slF l=some k→Xaa (l.take k)=true:=by
 intro n
 induction n using Nat.strongRecOn with
 | _ n ih =>
  intro l k hn h
  match l with
  | []=>simp [slF] at h
  | c :: l =>
   simp only [List.length_cons] at hn
   rw [Xbj] at h
   by_cases c10:c=10
   ·rw [if_pos c10] at h; cases h
   rw [if_neg c10] at h
   by_cases c47:c=47
   ·rw [if_pos c47] at h
    injection h with h
    subst h; rfl
   rw [if_neg c47] at h
   by_cases c92:c=92
   ·rw [if_pos c92] at h
    match l with
    | []=>cases h
    | d :: l =>
     simp only at h
     by_cases d10:d=10
     ·rw [if_pos d10] at h; cases h
     rw [if_neg d10] at h
     obtain ⟨z,hz,hz2⟩:=Option.map_eq_some_iff.1 h
     subst hz2
     rw [show z + 2=(z + 1) + 1 from rfl,List.take_succ_cons,List.take_succ_cons,Xaj,if_neg c47,if_neg c10,if_pos c92]
     simp only [if_neg d10]
     exact ih l.length (by simp at hn; omega) rfl hz
   ·rw [if_neg c92] at h
    obtain ⟨z,hz,hz2⟩:=Option.map_eq_some_iff.1 h
    subst hz2
    rw [List.take_succ_cons,Xaj,if_neg c47,if_neg c10,if_neg c92]
    exact ih l.length (by omega) rfl hz
theorem hexB_ok:∀ i:Fin 16,hexF (bt hxB ((i.val:Nat):Int))=(((i.val:Nat):Int),true):=by decide +kernel
theorem Xks {c:Int} (h0:0≤c) (h1:c < 16):hexF (bt hxB c)=(c,true):=by
 have:=hexB_ok ⟨c.toNat,by omega⟩
 simpa [Int.toNat_of_nonneg h0] using this
theorem quF_put {c:Int} (h0:0≤c) (h1:c≤255) (r:List Int):quF (Xfe c++r)=quE c (Xfe c).length (quF r):=by
 have two:∀ x:Int,escC x r=(c,2)→quF (92 :: x :: r)=quE c 2 (quF r):=fun x h=>by
  have e:Xfd (x :: r)=(c,2):=by rw [Xhl,h]
  rw [quF_e (by rw [e]; simp),e]
  rfl
 unfold Xfe
 by_cases c34:c=34
 ·subst c34
  simp only [if_true]
  exact two 34 (by simp [escC])
 rw [if_neg c34]
 by_cases c92:c=92
 ·subst c92
  simp only [if_true]
  exact two 92 (by simp [escC])
 rw [if_neg c92]
 by_cases c10:c=10
 ·subst c10
  simp only [if_true]
  exact two 110 (by simp [escC])
 rw [if_neg c10]
 by_cases c9:c=9
 ·subst c9
  simp only [if_true]
  exact two 116 (by simp [escC])
 rw [if_neg c9]
 by_cases c13:c=13
 ·subst c13
  simp only [if_true]
  exact two 114 (by simp [escC])
 rw [if_neg c13]
 by_cases g:c < 32∨c > 126
 ·rw [if_pos g]
  have e:Xfd (120 :: bt hxB (c / 16) :: bt hxB (c % 16) :: r)=(c,4):=by
   rw [Xhl]
   unfold escC
   simp only [show ¬ (120:Int)=34 by decide,show ¬ (120:Int)=92 by decide,show ¬ (120:Int)=110 by decide,show ¬ (120:Int)=116 by decide,show ¬ (120:Int)=114 by decide,if_false,if_true]
   rw [Xm2,Xks (by omega) (by omega),Xks (by omega) (by omega)]
   simp only [if_true]
   rw [show 16 * (c / 16) + c % 16=c by omega]
  show quF (92 :: 120 :: bt hxB (c / 16) :: bt hxB (c % 16) :: r)=_
  rw [quF_e (by rw [e]; simp),e]
  rfl
 ·rw [if_neg g]
  exact quF_o c10 c34 c92
theorem Xgy (r:List Int):∀ {l:List Int},Bts l→quF (l.flatMap Xfe++34 :: r)=.inl (l,(l.flatMap Xfe).length + 1)
 | [],h=>by rw [List.flatMap_nil,List.nil_append,quF_end]; rfl
 | c :: l,h=>by
  obtain ⟨h0,h1⟩:=h c (by simp)
  rw [List.flatMap_cons,List.append_assoc,quF_put h0 h1,Xgy r fun x hx=>h x (by simp [hx])]
  simp only [quE,List.length_append]
  rw [show (Xfe c).length + (l.flatMap Xfe).length + 1=(l.flatMap Xfe).length + 1 + (Xfe c).length by omega]
def dd (n:Nat):List Int:=(Lib.decDigits n).map fun b=>(b.toNat:Int)
theorem u8d {n:Nat} (h:n < 10):(((UInt8.ofNat (48 + n)).toNat:Nat):Int)=48 + (n:Int):=by
 rw [UInt8.toNat_ofNat']; omega
theorem Xg0 {n:Nat} (h:n < 10):dd n=[48 + (n:Int)]:=by
 unfold dd
 rw [Lib.decDigits,dif_pos h,List.map_cons,List.map_nil,u8d h]
theorem Xkp {n:Nat} (h:¬ n < 10):dd n=dd (n / 10)++[48 + ((n % 10:Nat):Int)]:=by
 unfold dd
 rw [Lib.decDigits,dif_neg h,List.map_append,List.map_cons,List.map_nil,u8d (by omega)]
theorem dd_ok (n:Nat):(∀ x ∈ dd n,N9 x=true)∧dd n≠[]∧numV (dd n) 0=min (n:Int) 65536∧(n < 10 ^ 5→(dd n).length≤5):=by
 induction n using Nat.strongRecOn with
 | _ n ih =>
  by_cases h:n < 10
  ·rw [Xg0 h]
   refine ⟨fun x hx=>?_,by simp,?_,by simp⟩
   ·simp only [List.mem_singleton] at hx
    subst hx
    simp only [N9,Bool.and_eq_true,decide_eq_true_eq]
    omega
   ·simp only [numV,List.foldl_cons,List.foldl_nil]; omega
  ·obtain ⟨i1, i2, i3, i4⟩ := ih (n / 10) (by omega)
   rw [Xkp h]
   refine ⟨fun x hx=>?_,by simp,?_,fun hn=>?_⟩
   ·rcases List.mem_append.1 hx with hx | hx
    ·exact i1 x hx
    ·simp only [List.mem_singleton] at hx
     subst hx
     simp only [N9,Bool.and_eq_true,decide_eq_true_eq]
     omega
   ·rw [Xlm,i3]; omega
   ·have hl:∀ (k m:Nat),m < 10 ^ (k + 1)→(dd m).length≤k + 1:=by
     intro k
     induction k with
     | zero=>intro m hm; rw [Xg0 (by simpa using hm)]; simp
     | succ k ik =>
      intro m hm
      by_cases g:m < 10
      ·rw [Xg0 g]; simp
      ·rw [Xkp g,List.length_append]
       have:=ik (m / 10) (by rw [Nat.pow_succ] at hm; omega)
       simp only [List.length_cons,List.length_nil]
       omega
    rw [← Xkp h]
    exact hl 4 n hn
theorem itoa_bs {n:Int} (h:0≤n):Iw (itoaB n)=dd n.toNat:=by
 unfold Iw itoaB Lib.itoa dd
 rw [if_neg (by omega)]
theorem sign_all:∀ n:Fin 256,idxB Xb9 ((n.val:Nat):Int)≥0→Xac ((n.val:Nat):Int)=false∧((n.val:Nat):Int)≠35∧U5 ((n.val:Nat):Int)=false∧N9 ((n.val:Nat):Int)=false∧((n.val:Nat):Int)≠34∧((n.val:Nat):Int)≠47:=by decide +kernel
theorem sign_at {c:Int} (h0:0≤c) (h1:c≤255) (h:idxB Xb9 c≥0):Xac c=false∧c≠35∧U5 c=false∧N9 c=false∧c≠34∧c≠47:=by
 have:=sign_all ⟨c.toNat,by omega⟩
 simp only [Int.toNat_of_nonneg h0] at this
 exact this h
theorem Xjr {t:ByteArray} {c:Int} (h:Iw t=[c]):hasB Xb9 t=decide (0≤idxB Xb9 c):=by
 unfold hasB idxB
 have hl:=congrArg List.length h
 rw [Sz] at hl
 unfold Iw at h
 match hd:t.data.toList,h with
 | [b],h =>
  simp only [List.map_cons,List.map_nil,List.cons.injEq,and_true] at h
  rw [← h]
  simp
theorem Xix {c:Int} (h:U5 c=true):Xac c=false∧c≠35∧N9 c=false:=by
 simp only [U5,Xac,N9,Bool.or_eq_true,Bool.and_eq_true,decide_eq_true_eq,beq_iff_eq,Bool.or_eq_false_iff,Bool.and_eq_false_iff,decide_eq_false_iff_not,beq_eq_false_iff_ne] at h ⊢
 omega
theorem Xjs {c:Int} (h:N9 c=true):Xac c=false∧c≠35∧U5 c=false:=by
 simp only [U5,Xac,N9,Bool.and_eq_true,decide_eq_true_eq,Bool.or_eq_false_iff,Bool.and_eq_false_iff,decide_eq_false_iff_not,beq_eq_false_iff_ne] at h ⊢
 omega
def txF (w:Dw):List Int:=if w.kind=4 then [] else Iw w.text
def nF (w:Dw):Int:=if w.kind=4 then w.n else 0
theorem Xlt {w:Dw} (h:Xz w=true):∃ c l,Iw (Xct w)=c :: l∧∀ r,Tl r→tokF c (l++r)=.word w.kind (txF w) (nF w) (l.length + 1):=by
 unfold Xct
 rw [if_pos h]
 unfold Xz at h
 have hbt:=Xjh w.text
 by_cases k1:w.kind=1
 ·rw [if_pos k1] at h
  rw [if_neg (by omega),if_neg (by omega),if_neg (by omega)]
  unfold txF nF
  rw [if_neg (by omega),if_neg (by omega),k1]
  unfold Xht at h
  simp only [Bool.and_eq_true,decide_eq_true_eq,Bool.not_eq_true'] at h
  obtain ⟨g1,g2,g3,g4⟩:=h
  match hd:Iw w.text,g1 with
  | c :: l,_ =>
   rw [hd] at g2 g3 g4
   refine ⟨c,l,rfl,fun r hr=>?_⟩
   have hn:=List.all_eq_true.1 g4
   have hcl:U5 c=true:=by
    have:=hn c (by simp)
    rw [X4,Bool.or_eq_true] at this
    exact this.resolve_right (by rw [show N9 c=false from g3]; simp)
   obtain ⟨a1,a2,a3⟩:=Xix hcl
   have e:twl X4 (c :: (l++r))=l.length + 1:=by rw [← List.cons_append,Xi2 (by decide) hr hn]; rfl
   unfold tokF
   rw [a1,if_neg (by simp),if_neg a2,if_pos hcl,e,if_neg (by simp at g2; omega),← List.cons_append,List.take_append_of_le_length (by simp),List.take_of_length_le (by simp)]
 rw [if_neg k1] at h
 by_cases k2:w.kind=2
 ·rw [if_pos k2]
  unfold txF nF
  rw [if_neg (by omega),if_neg (by omega),k2]
  have hB:Bts (Xkj (Iw w.text)):=by
   intro x hx
   unfold Xkj at hx
   rcases List.mem_cons.1 hx with rfl | hx
   ·omega
   rcases List.mem_append.1 hx with hx | hx
   ·obtain ⟨c,hc,hx⟩:=List.mem_flatMap.1 hx
    obtain ⟨c0,c1⟩:=hbt c hc
    have b1:=Zt hxB (c / 16)
    have b2:=Zt hxB (c % 16)
    unfold Xfe at hx
    repeat' split at hx
    all_goals (simp only [List.mem_cons,List.not_mem_nil,or_false] at hx; omega)
   ·simp only [List.mem_cons,List.not_mem_nil,or_false] at hx; omega
  rw [Xlo hB]
  refine ⟨34,(Iw w.text).flatMap Xfe++[34],rfl,fun r hr=>?_⟩
  rw [List.append_assoc,List.singleton_append]
  unfold tokF
  simp only [show Xac 34=false by decide,show ¬ (34:Int)=35 by decide,show U5 34=false by decide,show N9 34=false by decide,if_false,if_true,Xgy r hbt]
  simp
 rw [if_neg k2] at h
 rw [if_neg k2]
 by_cases k3:w.kind=3
 ·rw [if_pos k3] at h
  rw [if_pos k3]
  unfold txF nF
  rw [if_neg (by omega),if_neg (by omega),k3]
  refine ⟨47,Iw w.text++[47],by rw [Xd7,Xd7]; rfl,fun r hr=>?_⟩
  rw [List.append_assoc,List.singleton_append]
  unfold tokF
  simp only [show Xac 47=false by decide,show ¬ (47:Int)=35 by decide,show U5 47=false by decide,show N9 47=false by decide,show ¬ (47:Int)=34 by decide,if_false,if_true,Xlh r _ rfl h]
  rw [List.take_append_of_le_length (Nat.le_refl _),List.take_length]
  simp
 rw [if_neg k3] at h
 rw [if_neg k3]
 by_cases k4:w.kind=4
 ·rw [if_pos k4] at h
  rw [if_pos k4]
  unfold txF nF
  rw [if_pos k4,if_pos k4,k4]
  have hn:0≤w.n∧w.n≤65535:=by
   by_cases g:w.n≥0
   ·rw [if_pos g] at h; exact ⟨g,by simpa using h⟩
   ·rw [if_neg g] at h; cases h
  obtain ⟨d1,d2,d3,d4⟩:=dd_ok w.n.toNat
  rw [itoa_bs hn.1]
  match hd:dd w.n.toNat,d2 with
  | c :: l,_ =>
   rw [hd] at d1 d3
   refine ⟨c,l,rfl,fun r hr=>?_⟩
   have hcd:=d1 c (by simp)
   obtain ⟨a1,a2,a3⟩:=Xjs hcd
   have e:twl N9 (c :: (l++r))=l.length + 1:=by rw [← List.cons_append,Xi2 (by decide) hr d1]; rfl
   have e2:(c :: (l++r)).take (l.length + 1)=c :: l:=by rw [← List.cons_append,List.take_append_of_le_length (by simp),List.take_of_length_le (by simp)]
   unfold tokF
   rw [a1,if_neg (by simp),if_neg a2,a3,if_neg (by simp),if_pos hcd,e,e2,d3,if_neg (by omega),show min ((w.n.toNat:Nat):Int) 65536=w.n by omega]
 rw [if_neg k4] at h
 rw [if_neg k4]
 by_cases k5:w.kind=5
 ·rw [if_pos k5] at h
  unfold txF nF
  rw [if_neg (by omega),if_neg (by omega),k5]
  by_cases g:(w.text.size:Int)=1
  ·rw [if_pos g] at h
   have hl:=Sz w.text
   match hd:Iw w.text,(show (Iw w.text).length=1 by omega) with
   | [c],_ =>
    rw [Xjr hd,decide_eq_true_eq] at h
    obtain ⟨c0,c1⟩:=hbt c (by rw [hd]; simp)
    obtain ⟨a1,a2,a3,a4,a5,a6⟩:=sign_at c0 c1 h
    refine ⟨c,[],rfl,fun r hr=>?_⟩
    unfold tokF
    rw [a1,if_neg (by simp),if_neg a2,a3,if_neg (by simp),a4,if_neg (by simp),if_neg a5,if_neg a6,if_pos h]
    rfl
  ·rw [if_neg g] at h; cases h
 ·rw [if_neg k5] at h; cases h
end Go.Proofs.YtjookebbmfiidaaDoor.L
