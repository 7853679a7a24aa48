/- Queries: the codes of errors. No condition. -/
import Derived.Test.YtjookebbmfiidaaDoorS4
import Derived.Test.YtjookebbmfiidaaDoorU1
import Derived.Test.YtjookebbmfiidaaDoorB5
import Derived.Test.YtjookebbmfiidaaDoorR
import Derived.Lib.ItoaMem
import Derived.KernelRfl
set_option linter.unusedVariables false
namespace Go.Proofs.YtjookebbmfiidaaDoor.L
open Go.Proofs.YtjookebbmfiidaaDoor.R
end Go.Proofs.YtjookebbmfiidaaDoor.L
set_option linter.unusedVariables false
namespace Go.Proofs.YtjookebbmfiidaaDoor.L
open Go.Proofs.YtjookebbmfiidaaDoor.B Go.Proofs.YtjookebbmfiidaaDoor.R
def toks (W:List Dw):List Tk:=W.map fun w=>(w.kind,w.text)
theorem Xjz (W:List Dw):(toks W).length=W.length:=List.length_map _
def Rst (W:List Dw) (t:List Tk):Prop:=t <:+ toks W
def psn (W:List Dw) (t:List Tk):Nat:=W.length - t.length
theorem Rst.le {W:List Dw} {t:List Tk} (h:Rst W t):t.length≤W.length:=by
 have:=List.IsSuffix.length_le h
 rwa [Xjz] at this
theorem Rst.sub {W:List Dw} {t q:List Tk} (h:Rst W t) (hq:q <:+ t):Rst W q:=List.IsSuffix.trans hq h
theorem Rst.drop {W:List Dw} {t:List Tk} (h:Rst W t):toks (W.drop (psn W t))=t:=by
 obtain ⟨p,hp⟩:=h
 have hl:p.length=psn W t:=by
  have:=congrArg List.length hp
  rw [List.length_append,Xjz] at this
  unfold psn
  omega
 unfold toks at hp ⊢
 rw [List.map_drop,← hp,← hl,List.drop_left]
theorem Rst.hd {W:List Dw} {k:Int} {x:ByteArray} {t:List Tk} (h:Rst W ((k,x) :: t)):psn W ((k,x) :: t) < W.length∧(ix W (psn W ((k,x) :: t):Int)).kind=k∧(ix W (psn W ((k,x) :: t):Int)).text=x∧psn W t=psn W ((k,x) :: t) + 1:=by
 have hd:=h.drop
 have hl:=h.le
 generalize hn:psn W ((k,x) :: t)=n at hd ⊢
 have hlt:n < W.length:=by
  unfold psn at hn
  simp only [List.length_cons] at hn hl
  omega
 have hx:W[((n:Nat):Int).toNat]? = some (ix W ((n:Nat):Int)):=V6 ⟨Int.natCast_nonneg n,by omega⟩
 rw [Int.toNat_natCast] at hx
 have hx2:W.drop n=ix W (n:Int) :: W.drop (n + 1):=by
  have hg:W[n]=ix W (n:Int):=by
   rw [List.getElem?_eq_getElem hlt] at hx
   exact Option.some.inj hx
  rw [List.drop_eq_getElem_cons hlt,hg]
 rw [hx2] at hd
 unfold toks at hd
 rw [List.map_cons] at hd
 injection hd with h1 h2
 injection h1 with h3 h4
 refine ⟨hlt,h3,h4,?_⟩
 unfold psn at hn ⊢
 simp only [List.length_cons] at hn hl
 omega
def Zc (o:List Aj) (seen:List ByteArray):Prop:=∀ c,c ∈ seen↔c ∈ Rj o
theorem Zc.app {o:List Aj} {seen:List ByteArray} (h:Zc o seen) (g:PF):Zc (o++Dc g) (Qr g seen):=fun c=>by
 rw [(Yr g seen).mem_iff,Xh6,List.mem_append,List.mem_append,h c,Or.comm]
theorem Xm3 {c:ByteArray} {v:List Aj}:c ∈ Rj v↔c≠noB∧∃ x ∈ v,x.capture=c:=by
 unfold Rj
 rw [List.mem_filter,List.mem_map]
 simp only [Bool.not_eq_true',decide_eq_false_iff_not]
 exact And.comm
theorem inC_seen {o:List Aj} {seen:List ByteArray} (h:Zc o seen) (c:ByteArray):inC c seen=true↔(c≠noB∧∃ x ∈ o,x.capture=c):=by
 rw [Xl3,h c,Xm3]
def Vd (c:ByteArray) (v:List Aj):Option Nat:=v.findIdx? fun x=>decide (x.capture=c)
theorem Xk0 {c:ByteArray} {v:List Aj}:(Vd c v).isSome=true↔∃ x ∈ v,x.capture=c:=by
 unfold Vd
 rw [List.findIdx?_isSome,List.any_eq_true]
 simp only [decide_eq_true_eq]
def Qu (c:ByteArray) (v:List Aj):Int:=if c=noB then -1 else match Vd c v with
 | none=>-1
 | some i=>(i:Int)
theorem capN_iff {o:List Aj} {seen:List ByteArray} (h:Zc o seen) (c:ByteArray):Qu c o≥0↔inC c seen=true:=by
 rw [inC_seen h,← Xk0]
 unfold Qu
 by_cases g:c=noB
 ·rw [if_pos g]
  exact ⟨fun h=>absurd h (by decide),fun h=>absurd g h.1⟩
 ·rw [if_neg g]
  cases e:Vd c o with
  | none=>exact ⟨fun h=>absurd h (by decide),fun h=>absurd h.2 (by simp)⟩
  | some i=>exact ⟨fun h=>⟨g,rfl⟩,fun h=>Int.natCast_nonneg i⟩
end Go.Proofs.YtjookebbmfiidaaDoor.L
set_option linter.unusedVariables false
namespace Go.Proofs.YtjookebbmfiidaaDoor.L
open Go.Proofs.YtjookebbmfiidaaDoor.B Go.Proofs.YtjookebbmfiidaaDoor.R
section
variable {W:List Dw} {L:Int}
theorem pindex {xs:List Aj} (hx:xs.length≤2 ^ 40) (c:ByteArray):G5 xs c ((match Vd c xs with | none=>-1 | some i=>(i:Int)),c):=by
 have key:∀ (d i:Nat),xs.length - i=d→i≤xs.length→Vd c (xs.take i)=none→Ar (fun (s:Int × ByteArray) o=>Dj xs s.1 s.2 o) ((i:Int),c) ((match Vd c xs with | none=>-1 | some i=>(i:Int)),c):=by
  intro d
  induction d with
  | zero =>
   intro i hd hi hn
   refine .done ?_
   have:i=xs.length:=by omega
   subst this
   rw [List.take_length] at hn
   unfold Dj
   rw [if_neg (Int.lt_irrefl _),hn]
  | succ d ih =>
   intro i hd hi hn
   have hlt:i < xs.length:=by omega
   have hg:ix xs ((i:Nat):Int)=xs[i]:=by
    have:=V6 (xs:=xs) (i:=(i:Int)) ⟨by omega,by omega⟩
    rw [Int.toNat_natCast,List.getElem?_eq_getElem hlt] at this
    exact (Option.some.inj this).symm
   have hB:∀ oo,(if seq xs[i].capture c=true then oo=.inr (((i:Nat):Int),c) else oo=.inl (w64 (((i:Nat):Int) + 1),c))→Dj xs ((i:Nat):Int) c oo:=fun oo h=>by
    unfold Dj
    rw [if_pos (by omega)]
    exact ⟨⟨by omega,by omega⟩,(seq (ix xs ((i:Nat):Int)).capture c,c),rfl,by rw [hg]; exact h⟩
   by_cases g:xs[i].capture=c
   ·refine .done (hB _ ?_)
    rw [Ur,decide_eq_true g,if_pos rfl]
    have:Vd c xs=some i:=by
     unfold Vd at hn ⊢
     rw [List.findIdx?_eq_some_iff_getElem]
     refine ⟨hlt,decide_eq_true g,fun j hj=>?_⟩
     rw [List.findIdx?_eq_none_iff] at hn
     have:=hn xs[j] (List.mem_take_iff_getElem.2 ⟨j,by omega,rfl⟩)
     rw [this]
     simp
    rw [this]
   ·refine .next (hB (.inl (((i + 1 : Nat) : Int), c)) ?_) (ih (i + 1) (by omega) (by omega) ?_)
    ·rw [Ur, decide_eq_false g, if_neg (by simp), Dk (by omega)]
     rfl
    ·unfold Vd at hn ⊢
     rw [List.findIdx?_eq_none_iff] at hn ⊢
     intro y hy
     rw [List.take_succ_eq_append_getElem hlt] at hy
     rcases List.mem_append.1 hy with hy | hy
     ·exact hn y hy
     ·rw [List.mem_singleton] at hy
      rw [hy]
      exact decide_eq_false g
 exact key xs.length 0 rfl (Nat.zero_le _) rfl
theorem pcapt {o:List Aj} (ho:o.length≤2 ^ 40) (cs:List D8) (c:ByteArray):Jt ⟨o,cs⟩ c (Qu c o):=by
 unfold Jt Qu
 by_cases g:c=noB
 ·rw [if_pos g,if_pos g]
 ·rw [if_neg g,if_neg g]
  exact ⟨_,pindex ho c,rfl⟩
end
end Go.Proofs.YtjookebbmfiidaaDoor.L
set_option linter.unusedVariables false
namespace Go.Proofs.YtjookebbmfiidaaDoor.L
open Go.Proofs.YtjookebbmfiidaaDoor.B Go.Proofs.YtjookebbmfiidaaDoor.R
def Bts (b:List Int):Prop:=∀ x ∈ b,0≤x∧x≤255
theorem Xfv {s:ByteArray} {i:Nat} (h:i < s.size):bt s i=(Iw s)[i]'(by rw [Sz]; exact h):=by
 unfold bt Iw
 rw [Int.toNat_natCast,getElem?_pos s i h]
 simp
 rfl
theorem Xd7 (s t:ByteArray):Iw (s++t)=Iw s++Iw t:=by simp [Iw]
theorem Xlo {l:List Int} (h:Bts l):Iw (Xbk l)=l:=by
 unfold Iw Xbk
 simp only [List.map_map]
 refine (List.map_congr_left fun x hx=>?_).trans (List.map_id l)
 obtain ⟨h0,h1⟩:=h x hx
 simp only [Function.comp,id_eq]
 rw [UInt8.toNat_ofNat']
 omega
theorem Xh4 (s:ByteArray):Xbk (Iw s)=s:=by
 unfold Iw Xbk
 rw [List.map_map]
 have:s.data.toList.map ((fun x:Int=>UInt8.ofNat x.toNat) ∘ fun b=>(b.toNat:Int))=s.data.toList:=by
  refine (List.map_congr_left fun x _=>?_).trans (List.map_id _)
  simp
 rw [this]
theorem Xjh (s:ByteArray):Bts (Iw s):=fun x hx=>by
 unfold Iw at hx
 obtain ⟨b,_,rfl⟩:=List.mem_map.1 hx
 have:=b.toNat_lt
 omega
theorem bs_inj {s t:ByteArray} (h:Iw s=Iw t):s=t:=by rw [← Xh4 s,h,Xh4]
theorem Bts.app {a b:List Int} (h:Bts a) (k:Bts b):Bts (a++b):=fun x hx=>by
 rcases List.mem_append.1 hx with hx | hx
 ·exact h x hx
 ·exact k x hx
theorem Bts.drop {a:List Int} (h:Bts a) (n:Nat):Bts (a.drop n):=fun x hx=>h x (List.mem_of_mem_drop hx)
theorem Bts.take {a:List Int} (h:Bts a) (n:Nat):Bts (a.take n):=fun x hx=>h x (List.mem_of_mem_take hx)
theorem Xf7 {s:ByteArray} {i:Nat} (h:i < s.size):(Iw s).drop i=bt s i :: (Iw s).drop (i + 1):=by
 rw [Xfv h]; exact List.drop_eq_getElem_cons _

def U5 (b:Int):Bool:=(decide (97≤b) && decide (b≤122)) || (decide (65≤b) && decide (b≤90)) || b == 95
def N9 (b:Int):Bool:=decide (48≤b) && decide (b≤57)
def Xac (b:Int):Bool:=b == 32 || b == 9 || b == 13 || b == 10
def X4 (b:Int):Bool:=U5 b || N9 b
theorem Xhb (b:Int):Wu b (U5 b):=by
 unfold Wu U5
 split
 ·split
  ·rename_i h1 h2; simp; omega
  ·split
   ·split <;> simp <;> rename_i h1 h2 h3 <;> (try rename_i h4) <;> by_cases h5:b=95 <;> simp_all <;> omega
   ·rename_i h1 h2 h3; by_cases h5:b=95 <;> simp_all <;> omega
 ·split
  ·split
   ·rename_i h1 h2 h3; simp; omega
   ·rename_i h1 h2 h3; by_cases h5:b=95 <;> simp_all <;> omega
  ·rename_i h1 h2; by_cases h5:b=95 <;> simp_all <;> omega
theorem Xg2 (b:Int):Vr b (N9 b):=by
 unfold Vr N9
 split
 ·simp_all
 ·simp; omega
def hexF (c:Int):Int × Bool:=if N9 c=true then (c - 48,true) else if 97≤c∧c≤102 then (c - 87,true) else if 65≤c∧c≤70 then (c - 55,true) else (0,false)
def escX:List Int→Int × Nat
 | a :: b :: _=>if (hexF a).2=true then (if (hexF b).2=true then (16 * (hexF a).1 + (hexF b).1,4) else (0,0)) else (0,0)
 | _=>(0,0)
def escC (c:Int) (l:List Int):Int × Nat :=
 if c=34 then (c,2) else if c=92 then (c,2) else if c=110 then (10,2) else if c=116 then (9,2) else if c=114 then (13,2) else if c=120 then escX l else (0,0)
def Xfd:List Int→Int × Nat
 | []=>(0,0)
 | c :: l=>escC c l
theorem Xm2 (a b:Int) (l:List Int):escX (a :: b :: l)=if (hexF a).2=true then (if (hexF b).2=true then (16 * (hexF a).1 + (hexF b).1,4) else (0,0)) else (0,0):=rfl
theorem Xhl (c:Int) (l:List Int):Xfd (c :: l)=escC c l:=rfl
def quF (b:List Int):Sum (List Int × Nat) (Option Nat) :=
 match b with
 | []=>.inr none
 | c :: l =>
  if c=10 then .inr none else if c=34 then .inl ([],1)
  else if c=92 then
   if h:(Xfd l).2=0 then .inr (some 0)
   else match quF (l.drop ((Xfd l).2 - 1)) with
    | .inl (t,k)=>.inl ((Xfd l).1 :: t,k + (Xfd l).2)
    | .inr none=>.inr none
    | .inr (some d)=>.inr (some (d + (Xfd l).2))
  else match quF l with
   | .inl (t,k)=>.inl (c :: t,k + 1)
   | .inr none=>.inr none
   | .inr (some d)=>.inr (some (d + 1))
 termination_by b.length
 decreasing_by all_goals (simp; try omega)
theorem quF_end (l:List Int):quF (34 :: l)=.inl ([],1):=by rw [quF]; simp
def slF:List Int→Option Nat
 | []=>none
 | c :: l =>
  if c=10 then none else if c=47 then some 0
  else if c=92 then
   match l with
   | []=>none
   | d :: r=>if d=10 then none else (slF r).map (· + 2)
  else (slF l).map (· + 1)
theorem Xbj (c:Int) (l:List Int):slF (c :: l)=if c=10 then none else if c=47 then some 0 else if c=92 then (match l with
  | []=>none
  | d :: r=>if d=10 then none else (slF r).map (· + 2)) else (slF l).map (· + 1):=by
 rw [slF.eq_def]
end Go.Proofs.YtjookebbmfiidaaDoor.L
set_option linter.unusedVariables false
namespace Go.Proofs.YtjookebbmfiidaaDoor.L
open Go.Proofs.YtjookebbmfiidaaDoor.B Go.Proofs.YtjookebbmfiidaaDoor.R
def twl (p:Int→Bool):List Int→Nat
 | []=>0
 | c :: l=>if p c=true then twl p l + 1 else 0
theorem Xkq (p:Int→Bool):∀ l,twl p l≤l.length
 | []=>Nat.le_refl 0
 | c :: l=>by
  rw [twl]
  split
  ·have:=Xkq p l; simp; omega
  ·simp
theorem twl_in (p:Int→Bool):∀ {l:List Int} {j:Nat} (h:j < twl p l),∃ h2:j < l.length,p l[j]=true
 | [],j,h=>by simp [twl] at h
 | c :: l,j,h=>by
  rw [twl] at h
  split at h
  ·rename_i hc
   match j,h with
   | 0,_=>exact ⟨by simp,hc⟩
   | j + 1,h =>
    obtain ⟨h2,h3⟩:=twl_in p (l:=l) (j:=j) (by omega)
    exact ⟨by simp; omega,by simpa using h3⟩
  ·omega
theorem Xl2 (p:Int→Bool):∀ {l:List Int} (h:twl p l < l.length),p l[twl p l]=false
 | [],h=>by simp at h
 | c :: l,h=>by
  by_cases hc:p c=true
  ·have e:twl p (c :: l)=twl p l + 1:=by rw [twl,if_pos hc]
   have h2:twl p l < l.length:=by rw [e] at h; simpa using h
   have:=Xl2 p h2
   simp only [e,List.getElem_cons_succ]
   exact this
  ·have e:twl p (c :: l)=0:=by rw [twl,if_neg hc]
   simp only [e,List.getElem_cons_zero]
   simpa using hc
theorem inScan {s:ByteArray} {p:Int→Bool} {a j:Nat} (h:j < twl p ((Iw s).drop a)):a + j < s.size∧p (bt s ((a + j:Nat):Int))=true:=by
 obtain ⟨h2,h3⟩:=twl_in p h
 simp only [List.length_drop,Sz] at h2
 rw [List.getElem_drop] at h3
 exact ⟨by omega,by rw [Xfv (by omega)]; exact h3⟩
theorem outScan {s:ByteArray} {p:Int→Bool} {a:Nat} (h:a + twl p ((Iw s).drop a) < s.size):p (bt s ((a + twl p ((Iw s).drop a):Nat):Int))=false:=by
 have h2:twl p ((Iw s).drop a) < ((Iw s).drop a).length:=by simp only [List.length_drop,Sz]; omega
 have:=Xl2 p h2
 rw [List.getElem_drop] at this
 rw [Xfv h]; exact this
inductive Item
 | skip (k:Nat)
 | word (kind:Int) (text:List Int) (n:Int) (k:Nat)
 | err (code:Int) (off:Nat)
def numV (l:List Int) (n:Int):Int:=l.foldl (fun n c=>min (10 * n + (c - 48)) 65536) n
def Xb9:ByteArray:=⟨#[123,125,40,41,124,42,43,63,58,59,44,61,64]⟩
def tokF (c:Int) (l:List Int):Item :=
 if Xac c=true then .skip 1
 else if c=35 then .skip (twl (fun c=>c != 10) (c :: l))
 else if U5 c=true then (if twl X4 (c :: l) > 24 then .err 83 0 else .word 1 ((c :: l).take (twl X4 (c :: l))) 0 (twl X4 (c :: l)))
 else if N9 c=true then (if numV ((c :: l).take (twl N9 (c :: l))) 0 > 65535 then .err 84 0 else .word 4 [] (numV ((c :: l).take (twl N9 (c :: l))) 0) (twl N9 (c :: l)))
 else if c=34 then (match quF l with
  | .inl (t,k)=>.word 2 t 0 (k + 1)
  | .inr none=>.err 82 0
  | .inr (some d)=>.err 82 (d + 1))
 else if c=47 then (match slF l with
  | none=>.err 82 0
  | some k=>.word 3 (l.take k) 0 (k + 2))
 else if idxB Xb9 c≥0 then .word 5 [c] 0 1
 else .err 81 0
theorem Xlm (l:List Int) (c n:Int):numV (l++[c]) n=min (10 * numV l n + (c - 48)) 65536:=by simp [numV,List.foldl_append]
end Go.Proofs.YtjookebbmfiidaaDoor.L
set_option linter.unusedVariables false
namespace Go.Proofs.YtjookebbmfiidaaDoor.L
open Go.Proofs.YtjookebbmfiidaaDoor.B Go.Proofs.YtjookebbmfiidaaDoor.R
def mv (d:Nat) (w:Dw):Dw:=⟨w.kind,w.text,w.n,w.at_ + d⟩
end Go.Proofs.YtjookebbmfiidaaDoor.L
