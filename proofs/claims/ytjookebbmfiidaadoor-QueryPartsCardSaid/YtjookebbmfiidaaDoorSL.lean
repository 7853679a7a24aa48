/- The plain side of chapter 8: the words of a text, as plain functions on lists of bytes. No condition. -/
import Derived.Test.YtjookebbmfiidaaDoorF1
import Derived.Test.YtjookebbmfiidaaDoorR
import Derived.Lib.ItoaMem
import Derived.KernelRfl
set_option linter.unusedVariables false
namespace Go.Proofs.YtjookebbmfiidaaDoor.L
open Go.Proofs.YtjookebbmfiidaaDoor.B Go.Proofs.YtjookebbmfiidaaDoor.R
def Bts (b:List Int):Prop:=∀ x ∈ b,0≤x∧x≤255
theorem Xhb {s:ByteArray} {i:Nat} (h:i < s.size):bt s i=(Dq s)[i]'(by rw [I9]; exact h):=by
 unfold bt Dq
 rw [Int.toNat_natCast,getElem?_pos s i h]
 simp
 rfl
theorem Xgb (s t:ByteArray):Dq (s++t)=Dq s++Dq t:=by simp [Dq]
theorem Xik {l:List Int} (h:Bts l):Dq (Qo l)=l:=by
 unfold Dq Qo
 simp only [List.map_map]
 refine (List.map_congr_left fun x hx=>?_).trans (List.map_id l)
 obtain ⟨h0,h1⟩:=h x hx
 simp only [Function.comp,id_eq]
 rw [UInt8.toNat_ofNat']
 omega
theorem Xim (s:ByteArray):Qo (Dq s)=s:=by
 unfold Dq Qo
 rw [List.map_map]
 have:s.data.toList.map ((fun x:Int=>UInt8.ofNat x.toNat) ∘ fun b=>(b.toNat:Int))=s.data.toList:=by
  refine (List.map_congr_left fun x _=>?_).trans (List.map_id _)
  simp
 rw [this]
theorem Xka (s:ByteArray):Bts (Dq s):=fun x hx=>by
 unfold Dq at hx
 obtain ⟨b,_,rfl⟩:=List.mem_map.1 hx
 have:=b.toNat_lt
 omega
theorem Xm8 {s t:ByteArray} (h:Dq s=Dq t):s=t:=by rw [← Xim s,h,Xim]
theorem Bts.app {a b:List Int} (h:Bts a) (k:Bts b):Bts (a++b):=fun x hx=>by
 rcases List.mem_append.1 hx with hx | hx
 ·exact h x hx
 ·exact k x hx
theorem Bts.drop {a:List Int} (h:Bts a) (n:Nat):Bts (a.drop n):=fun x hx=>h x (List.mem_of_mem_drop hx)
theorem Bts.take {a:List Int} (h:Bts a) (n:Nat):Bts (a.take n):=fun x hx=>h x (List.mem_of_mem_take hx)
theorem Xac (s:ByteArray) (i j:Nat):Dq (s.extract i j)=((Dq s).take j).drop i:=by
 unfold Dq
 simp [ByteArray.data_extract,List.drop_take,List.map_take,List.map_drop]
theorem Xb4 {s:ByteArray} {i:Nat} (h:i < s.size):(Dq s).drop i=bt s i :: (Dq s).drop (i + 1):=by
 rw [Xhb h]; exact List.drop_eq_getElem_cons _

def P5 (b:Int):Bool:=(decide (97≤b) && decide (b≤122)) || (decide (65≤b) && decide (b≤90)) || b == 95
def Gy (b:Int):Bool:=decide (48≤b) && decide (b≤57)
def Xp (b:Int):Bool:=b == 32 || b == 9 || b == 13 || b == 10
def Rt (b:Int):Bool:=P5 b || Gy b
theorem Xkp (b:Int):V7 b (Xp b):=by
 unfold V7 Xp
 split
 ·simp_all
 ·split
  ·simp_all
  ·split <;> simp_all
theorem Xa5 (b:Int):P8 b (P5 b):=by
 unfold P8 P5
 split
 ·split
  ·rename_i h1 h2; simp; omega
  ·split
   ·split <;> simp <;> rename_i h1 h2 h3 <;> (try rename_i h4) <;> by_cases h5:b=95 <;> simp_all <;> omega
   ·rename_i h1 h2 h3; by_cases h5:b=95 <;> simp_all <;> omega
 ·split
  ·split
   ·rename_i h1 h2 h3; simp; omega
   ·rename_i h1 h2 h3; by_cases h5:b=95 <;> simp_all <;> omega
  ·rename_i h1 h2; by_cases h5:b=95 <;> simp_all <;> omega
theorem Vy (b:Int):Ls b (Gy b):=by
 unfold Ls Gy
 split
 ·simp_all
 ·simp; omega
def Xaz (c:Int):Int × Bool:=if Gy c=true then (c - 48,true) else if 97≤c∧c≤102 then (c - 87,true) else if 65≤c∧c≤70 then (c - 55,true) else (0,false)
theorem hex_ok {c:Int} (h:0≤c∧c≤255):V6 c (Xaz c):=by
 have j2f:∀ r:Int × Bool,r=(0,false)→P7 c false r:=fun r h=>h
 have j2t:∀ r:Int × Bool,r=(IntKind.u8.wrap ((IntKind.u8.wrap (c - 65)) + 10),true)→P7 c true r:=fun r h=>h
 have j1f:∀ r:Int × Bool,(if c≥65 then P7 c (decide (c≤70)) r else P7 c false r)→Tz c false r:=fun r h=>h
 have j1t:∀ r:Int × Bool,r=(IntKind.u8.wrap ((IntKind.u8.wrap (c - 97)) + 10),true)→Tz c true r:=fun r h=>h
 unfold V6 Xaz
 refine ⟨_,Vy c,?_⟩
 by_cases h1:Gy c=true
 ·rw [if_pos h1,if_pos h1]
  simp only [Gy,Bool.and_eq_true,decide_eq_true_eq] at h1
  rw [Xdk (by omega)]
 ·rw [if_neg h1,if_neg h1]
  by_cases h2:c≥97
  ·rw [if_pos h2]
   by_cases h3:c≤102
   ·rw [decide_eq_true h3,if_pos ⟨h2,h3⟩]
    refine j1t _ ?_
    rw [Xdk (x:=c - 97) (by omega),Xdk (by omega)]
    congr 1; omega
   ·rw [decide_eq_false h3, if_neg (fun h => h3 h.2), if_neg (by omega)]
    refine j1f _ ?_
    rw [if_pos (by omega),decide_eq_false (by omega)]
    exact j2f _ rfl
  ·rw [if_neg h2, if_neg (fun h => h2 h.1)]
   refine j1f _ ?_
   by_cases h4:c≥65
   ·rw [if_pos h4]
    by_cases h5:c≤70
    ·rw [decide_eq_true h5,if_pos ⟨h4,h5⟩]
     refine j2t _ ?_
     rw [Xdk (x:=c - 65) (by omega),Xdk (by omega)]
     congr 1; omega
    ·rw [decide_eq_false h5, if_neg (fun h => h5 h.2)]
     exact j2f _ rfl
   ·rw [if_neg h4, if_neg (fun h => h4 h.1)]
    exact j2f _ rfl
theorem Xgs (c:Int) (h:(Xaz c).2=true):0≤(Xaz c).1∧(Xaz c).1≤15:=by
 unfold Xaz at h ⊢
 split
 ·rename_i h1; simp only [Gy,Bool.and_eq_true,decide_eq_true_eq] at h1; dsimp only; omega
 ·split
  ·dsimp only; omega
  ·split
   ·dsimp only; omega
   ·rename_i h1 h2 h3; rw [if_neg h1,if_neg h2,if_neg h3] at h; cases h
def escX:List Int→Int × Nat
 | a :: b :: _=>if (Xaz a).2=true then (if (Xaz b).2=true then (16 * (Xaz a).1 + (Xaz b).1,4) else (0,0)) else (0,0)
 | _=>(0,0)
def Xhf (c:Int) (l:List Int):Int × Nat :=
 if c=34 then (c,2) else if c=92 then (c,2) else if c=110 then (10,2) else if c=116 then (9,2) else if c=114 then (13,2) else if c=120 then escX l else (0,0)
def Uo:List Int→Int × Nat
 | []=>(0,0)
 | c :: l=>Xhf c l
theorem Xen (a b:Int) (l:List Int):escX (a :: b :: l)=if (Xaz a).2=true then (if (Xaz b).2=true then (16 * (Xaz a).1 + (Xaz b).1,4) else (0,0)) else (0,0):=rfl
theorem Xbw (c:Int) (l:List Int):Uo (c :: l)=Xhf c l:=rfl
abbrev pI (x:Int × Nat):Int × Int:=(x.1,(x.2:Int))
theorem Xnv {s:ByteArray} (hs:s.size≤16384) {i:Nat} (hi:i < s.size):U3 s i (pI (Uo ((Dq s).drop (i + 1)))):=by
 have hl:=I9 s
 have hb:=fun j=>Xea s j
 have w1:w64 ((i:Int) + 1)=((i + 1:Nat):Int):=by rw [Dn (by omega)]; omega
 have w2:w64 ((i:Int) + 2)=((i + 2:Nat):Int):=by rw [Dn (by omega)]; omega
 have w3:w64 ((i:Int) + 3)=((i + 3:Nat):Int):=by rw [Dn (by omega)]; omega
 unfold U3
 rw [w1]
 by_cases h0:((i + 1:Nat):Int)≥(s.size:Int)
 ·rw [if_pos h0,List.drop_eq_nil_of_le (by omega)]; rfl
 ·rw [if_neg h0]
  refine ⟨by omega,?_⟩
  rw [Xb4 (i:=i + 1) (by omega)]
  have jt:∀ r:Int × Int,r=(bt s ((i + 1:Nat):Int),2)→Nb s i true r:=fun r h=>by
   show r=(bt s (w64 ((i:Int) + 1)),2)
   rw [w1]; exact h
  have jf:∀ r:Int × Int,(if bt s ((i + 1:Nat):Int)=110 then r=(10,2) else if bt s ((i + 1:Nat):Int)=116 then r=(9,2) else if bt s ((i + 1:Nat):Int)=114 then r=(13,2)
    else if bt s ((i + 1:Nat):Int)=120 then
     if ((i + 3:Nat):Int) < (s.size:Int) then
      (0≤((i + 2:Nat):Int)∧((i + 2:Nat):Int) < (s.size:Int))∧∃ r18:Int × Bool,(V6 (bt s ((i + 2:Nat):Int)) r18) ∧
      (0≤((i + 3:Nat):Int)∧((i + 3:Nat):Int) < (s.size:Int))∧∃ r27:Int × Bool,(V6 (bt s ((i + 3:Nat):Int)) r27) ∧
       if r18.2=true then Og r18 r27 r27.2 r else Og r18 r27 false r
     else r=(0,0)
    else r=(0,0))→Nb s i false r:=fun r h=>by
   unfold Nb
   rw [if_neg (show ¬ (false=true) by simp),w1,w2,w3]
   exact h
  by_cases c34:bt s ((i + 1:Nat):Int)=34
  ·rw [if_pos c34,c34]
   exact jt _ (by rw [c34]; rfl)
  ·rw [if_neg c34]
   by_cases c92:bt s ((i + 1:Nat):Int)=92
   ·rw [c92]
    exact jt _ (by rw [c92]; rfl)
   ·rw [beq_eq_false_iff_ne.2 c92]
    refine jf _ ?_
    rw [Xbw]
    unfold Xhf
    rw [if_neg c34,if_neg c92]
    by_cases c1:bt s ((i + 1:Nat):Int)=110
    ·rw [if_pos c1,if_pos c1]; rfl
    ·rw [if_neg c1,if_neg c1]
     by_cases c2:bt s ((i + 1:Nat):Int)=116
     ·rw [if_pos c2,if_pos c2]; rfl
     ·rw [if_neg c2,if_neg c2]
      by_cases c3:bt s ((i + 1:Nat):Int)=114
      ·rw [if_pos c3,if_pos c3]; rfl
      ·rw [if_neg c3,if_neg c3]
       by_cases c4:bt s ((i + 1:Nat):Int)=120
       ·rw [if_pos c4,if_pos c4]
        by_cases h3:((i + 3:Nat):Int) < (s.size:Int)
        ·rw [if_pos h3, show i + 1 + 1 = i + 2 from rfl, Xb4 (i := i + 2) (by omega), show i + 2 + 1 = i + 3 from rfl, Xb4 (i := i + 3) (by omega)]
         refine ⟨by omega,_,hex_ok (hb _),by omega,_,hex_ok (hb _),?_⟩
         rw [Xen]
         by_cases g1:(Xaz (bt s ((i + 2:Nat):Int))).2=true
         ·rw [if_pos g1,if_pos g1]
          by_cases g2:(Xaz (bt s ((i + 3:Nat):Int))).2=true
          ·have r1:=Xgs _ g1
           have r2:=Xgs _ g2
           rw [if_pos g2,g2]
           show _=(IntKind.u8.wrap ((IntKind.u8.wrap (16 * _)) + _),4)
           rw [Xdk (x:=16 * _) (by omega),Xdk (by omega)]
           rfl
          ·rw [if_neg g2]
           rw [Bool.not_eq_true] at g2
           rw [g2]
           rfl
         ·rw [if_neg g1,if_neg g1]; rfl
        ·rw [if_neg h3]
         match hd:(Dq s).drop (i + 1 + 1) with
         | []=>rfl
         | [a]=>rfl
         | a :: b :: r =>
          have:=congrArg List.length hd
          simp only [List.length_drop,List.length_cons] at this
          omega
       ·rw [if_neg c4,if_neg c4]; rfl
theorem Xmh (l:List Int) (h:(Uo l).2≠0):2≤(Uo l).2∧(Uo l).2≤l.length + 1:=by
 match l with
 | []=>simp [Uo] at h
 | c :: l =>
  rw [Xbw] at h ⊢
  unfold Xhf at h ⊢
  repeat' split
  all_goals (first | (simp; done) | skip)
  ·rename_i h1 h2 h3 h4 h5 h6
   rw [if_neg h1,if_neg h2,if_neg h3,if_neg h4,if_neg h5,if_pos h6] at h
   match l with
   | []=>simp [escX] at h
   | [a]=>simp [escX] at h
   | a :: b :: l =>
    rw [Xen] at h ⊢
    split
    ·split
     ·simp
     ·rename_i g1 g2; rw [if_pos g1,if_neg g2] at h; simp at h
    ·rename_i g1; rw [if_neg g1] at h; simp at h
  ·rename_i h1 h2 h3 h4 h5 h6
   rw [if_neg h1,if_neg h2,if_neg h3,if_neg h4,if_neg h5,if_neg h6] at h
   simp at h

def quF (b:List Int):Sum (List Int × Nat) (Option Nat) :=
 match b with
 | []=>.inr none
 | c :: l =>
  if c=10 then .inr none else if c=34 then .inl ([],1)
  else if c=92 then
   if h:(Uo l).2=0 then .inr (some 0)
   else match quF (l.drop ((Uo l).2 - 1)) with
    | .inl (t,k)=>.inl ((Uo l).1 :: t,k + (Uo l).2)
    | .inr none=>.inr none
    | .inr (some d)=>.inr (some (d + (Uo l).2))
  else match quF l with
   | .inl (t,k)=>.inl (c :: t,k + 1)
   | .inr none=>.inr none
   | .inr (some d)=>.inr (some (d + 1))
 termination_by b.length
 decreasing_by all_goals (simp; try omega)
def quR (from_ at_:Int) (acc:List Int):Sum (List Int × Nat) (Option Nat)→List Int × Int × Int
 | .inl (t,k)=>(acc++t,0,at_ + k)
 | .inr none=>([],82,from_)
 | .inr (some d)=>([],82,at_ + d)
theorem Xn1:quF []=.inr none:=by rw [quF]
theorem quF_nl (l:List Int):quF (10 :: l)=.inr none:=by rw [quF]; simp
theorem Xiv (l:List Int):quF (34 :: l)=.inl ([],1):=by rw [quF]; simp
theorem quF_bad {l:List Int} (h:(Uo l).2=0):quF (92 :: l)=.inr (some 0):=by rw [quF]; simp [h]
theorem quF_esc {l:List Int} (h:(Uo l).2≠0) (f a:Int) (acc:List Int):quR f a acc (quF (92 :: l))=quR f (a + (Uo l).2) (acc++[(Uo l).1]) (quF (l.drop ((Uo l).2 - 1))):=by
 rw [quF]
 simp only [show ¬ (92:Int)=10 by decide,show ¬ (92:Int)=34 by decide,if_false,if_true,dif_neg h]
 split <;> rename_i e <;> rw [e] <;> simp [quR] <;> omega
theorem quF_one {c:Int} {l:List Int} (h1:c≠10) (h2:c≠34) (h3:c≠92) (f a:Int) (acc:List Int):quR f a acc (quF (c :: l))=quR f (a + 1) (acc++[c]) (quF l):=by
 rw [quF]
 simp only [if_neg h1,if_neg h2,if_neg h3]
 split <;> rename_i e <;> rw [e] <;> simp [quR] <;> omega
theorem Xnf {s:ByteArray} (hs:s.size≤16384) {i:Nat} (hi:i < s.size):Tm s i (quR i ((i + 1:Nat):Int) [] (quF ((Dq s).drop (i + 1)))):=by
 have hl:=I9 s
 unfold Tm
 rw [show w64 ((i:Int) + 1)=((i + 1:Nat):Int) by rw [Dn (by omega)]; omega]
 refine Bl.to (fun q:(List Int) × Int=>0≤q.2∧q.2≤(s.size:Int)∧(q.1.length:Int)≤q.2∧quR i q.2 q.1 (quF ((Dq s).drop q.2.toNat))=quR i ((i + 1:Nat):Int) [] (quF ((Dq s).drop (i + 1)))) (fun q=>((s.size:Int) - q.2).toNat) (fun q hq=>?_) ⟨by show 0≤((i + 1:Nat):Int); omega,by show ((i + 1:Nat):Int)≤_; omega,by show (([]:List Int).length:Int)≤((i + 1:Nat):Int); simp; omega,rfl⟩
 obtain ⟨acc,at_⟩:=q
 obtain ⟨h0,h1,h2,h3⟩:=hq
 simp only at h0 h1 h2 h3
 obtain ⟨k,rfl⟩:∃ k:Nat,at_=k:=⟨at_.toNat,by omega⟩
 rw [Int.toNat_natCast] at h3
 show Il s i acc k _∨∃ s',Il s i acc k (.inl s')∧_
 have jt:∀ o,o=.inr ((([]:List Int),82,(i:Int)))→Kv i k s acc true o:=fun o h=>h
 have jf:∀ o,((0≤(k:Int)∧(k:Int) < (s.size:Int)) ∧
   if bt s k=34 then o=.inr ((acc,0,w64 ((k:Int) + 1)))
   else if bt s k=92 then
    ∃ r97:Int × Int,(U3 s k r97)∧if r97.2=0 then o=.inr ((([]:List Int),82,(k:Int))) else
     ∃ x109:List Int,(x109=acc++([r97.1]:List Int))∧(x109.length * 1≤211106232532992)∧o=.inl (x109,w64 ((k:Int) + r97.2))
   else ∃ x118:List Int,(x118=acc++([bt s k]:List Int))∧(x118.length * 1≤211106232532992)∧o=.inl (x118,w64 ((k:Int) + 1)))→Kv i k s acc false o:=fun o h=>h
 by_cases he:k=s.size
 ·left
  unfold Il
  rw [if_pos (by omega)]
  refine jt _ ?_
  rw [← h3,he,List.drop_eq_nil_of_le (by omega),Xn1]
  rfl
 ·have hk:k < s.size:=by omega
  have red:∀ o,Kv i k s acc (bt s k == 10) o→Il s i acc k o:=fun o h=>by
   unfold Il
   rw [if_neg (by omega)]
   exact ⟨by omega,h⟩
  rw [Xb4 hk] at h3
  by_cases c10:bt s k=10
  ·left
   refine red _ ?_
   rw [c10]
   refine jt _ ?_
   rw [← h3,c10,quF_nl]
   rfl
  ·have red2 : ∀ o, Kv i k s acc false o → Il s i acc k o := fun o h => red o (by rw [beq_eq_false_iff_ne.2 c10]; exact h)
   by_cases c34:bt s k=34
   ·left
    refine red2 _ (jf _ ⟨by omega,?_⟩)
    rw [if_pos c34,← h3,c34,Xiv,Dn (by omega)]
    simp [quR]
   ·by_cases c92:bt s k=92
    ·have hesc:=Xnv hs hk
     by_cases e0:(Uo ((Dq s).drop (k + 1))).2=0
     ·left
      refine red2 _ (jf _ ⟨by omega,?_⟩)
      rw [if_neg c34,if_pos c92]
      refine ⟨_,hesc,?_⟩
      rw [if_pos (by show ((Uo _).2:Int)=0; rw [e0]; rfl),← h3,c92,quF_bad e0]
      simp [quR]
     ·right
      have hle:=Xmh _ e0
      simp only [List.length_drop] at hle
      refine ⟨(acc++[(Uo ((Dq s).drop (k + 1))).1],(k:Int) + (Uo ((Dq s).drop (k + 1))).2),red2 _ (jf _ ⟨by omega,?_⟩),⟨by show 0≤(k:Int) + _; omega,by show (k:Int) + _≤_; omega,by show ((acc++[_]).length:Int)≤_; simp; omega,?_⟩,by show ((s.size:Int) - ((k:Int) + _)).toNat < ((s.size:Int) - (k:Int)).toNat; omega⟩
      ·rw [if_neg c34,if_pos c92]
       refine ⟨_,hesc,?_⟩
       rw [if_neg (by show ¬ ((Uo _).2:Int)=0; omega)]
       refine ⟨_,rfl,by simp; omega,?_⟩
       have w:w64 ((k:Int) + ((Uo ((Dq s).drop (k + 1))).2:Int))=(k:Int) + ((Uo ((Dq s).drop (k + 1))).2:Int):=Dn (by omega)
       show Sum.inl (_,_)=Sum.inl (_,w64 ((k:Int) + ((Uo ((Dq s).drop (k + 1))).2:Int)))
       rw [w]
      ·show quR _ _ _ (quF ((Dq s).drop ((k:Int) + _).toNat))=_
       rw [← h3,c92,quF_esc e0]
       congr 2
       rw [List.drop_drop]
       congr 1
       omega
    ·right
     refine ⟨(acc++[bt s k],(k:Int) + 1),red2 _ (jf _ ⟨by omega,?_⟩),⟨by show 0≤(k:Int) + 1; omega,by show (k:Int) + 1≤_; omega,by show ((acc++[_]).length:Int)≤_; simp; omega,?_⟩,by show ((s.size:Int) - ((k:Int) + 1)).toNat < ((s.size:Int) - (k:Int)).toNat; omega⟩
     ·rw [if_neg c34,if_neg c92]
      exact ⟨_,rfl,by simp; omega,by rw [Dn (by omega)]⟩
     ·show quR _ _ _ (quF ((Dq s).drop ((k:Int) + 1).toNat))=_
      rw [← h3,quF_one c10 c34 c92,show ((k:Int) + 1).toNat=k + 1 by omega]

def slF:List Int→Option Nat
 | []=>none
 | c :: l =>
  if c=10 then none else if c=47 then some 0
  else if c=92 then
   match l with
   | []=>none
   | d :: r=>if d=10 then none else (slF r).map (· + 2)
  else (slF l).map (· + 1)
theorem Xbj (c:Int) (l:List Int):slF (c :: l)=if c=10 then none else if c=47 then some 0 else if c=92 then (match l with
  | []=>none
  | d :: r=>if d=10 then none else (slF r).map (· + 2)) else (slF l).map (· + 1):=by
 rw [slF.eq_def]
def slR (from_:Int) (s:ByteArray) (at_:Nat):Option Nat→List Int × Int × Int
 | none=>([],82,from_)
 | some k=>(((Dq s).take (at_ + k)).drop (from_ + 1).toNat,0,((at_ + k + 1:Nat):Int))
theorem Xhv (f:Int) (s:ByteArray) (k d:Nat) (x:Option Nat):slR f s (k + d) x=slR f s k (x.map (· + d)):=by
 cases x with
 | none=>rfl
 | some z=>show slR f s (k + d) (some z)=slR f s k (some (z + d)); unfold slR; simp only; rw [show k + d + z=k + (z + d) by omega]
theorem Xlk {s:ByteArray} (hs:s.size≤16384) {i:Nat} (hi:i < s.size):Rf s i (slR i s (i + 1) (slF ((Dq s).drop (i + 1)))):=by
 have hl:=I9 s
 unfold Rf
 rw [show w64 ((i:Int) + 1)=((i + 1:Nat):Int) by rw [Dn (by omega)]; omega]
 refine Bl.to (fun q:Int=>((i + 1:Nat):Int)≤q∧q≤(s.size:Int)∧slR i s q.toNat (slF ((Dq s).drop q.toNat))=slR i s (i + 1) (slF ((Dq s).drop (i + 1)))) (fun q=>((s.size:Int) - q).toNat) (fun q hq=>?_) ⟨by omega,by omega,rfl⟩
 obtain ⟨h0,h1,h3⟩:=hq
 obtain ⟨k,rfl⟩:∃ k:Nat,q=k:=⟨q.toNat,by omega⟩
 rw [Int.toNat_natCast] at h3
 have jt:∀ o,o=.inr ((([]:List Int),82,(i:Int)))→Le i k s true o:=fun o h=>h
 have w1:w64 ((k:Int) + 1)=((k + 1:Nat):Int):=by rw [Dn (by omega)]; omega
 have w2:w64 (((k + 1:Nat):Int) + 1)=((k + 2:Nat):Int):=by rw [Dn (by omega)]; omega
 have wi:w64 ((i:Int) + 1)=((i + 1:Nat):Int):=by rw [Dn (by omega)]; omega
 have j3t:∀ o,o=.inl ((k + 2:Nat):Int)→Hw k true o:=fun o h=>by
  show o=.inl (w64 ((w64 ((k:Int) + 1)) + 1))
  rw [w1,w2]; exact h
 have j3f:∀ o,o=.inl ((k + 1:Nat):Int)→Hw k false o:=fun o h=>by
  show o=.inl (w64 ((k:Int) + 1))
  rw [w1]; exact h
 by_cases he:k=s.size
 ·left
  unfold Jk
  rw [if_pos (by omega)]
  refine jt _ ?_
  rw [← h3,he,List.drop_eq_nil_of_le (by omega)]
  rfl
 ·have hk:k < s.size:=by omega
  have red:∀ o,Le i k s (bt s k == 10) o→Jk s i k o:=fun o h=>by
   unfold Jk
   rw [if_neg (by omega)]
   exact ⟨by omega,h⟩
  rw [Xb4 hk,Xbj] at h3
  by_cases c10:bt s k=10
  ·left
   refine red _ ?_
   rw [c10]
   refine jt _ ?_
   rw [if_pos c10] at h3
   rw [← h3]
   rfl
  ·rw [if_neg c10] at h3
   have red2:∀ o,((0≤(k:Int)∧(k:Int) < (s.size:Int)) ∧
     if bt s k=47 then (0≤((i + 1:Nat):Int)∧((i + 1:Nat):Int)≤(k:Int)∧(k:Int)≤(s.size:Int))∧((s.extract ((i + 1:Nat):Int).toNat (k:Int).toNat).size≤9223372036854775807)∧o=.inr (((Dq (s.extract ((i + 1:Nat):Int).toNat (k:Int).toNat)),0,((k + 1:Nat):Int)))
     else if bt s k=92 then
      if ((k + 1:Nat):Int) < (s.size:Int) then (0≤((k + 1:Nat):Int)∧((k + 1:Nat):Int) < (s.size:Int))∧Hw k ((bt s ((k + 1:Nat):Int)) != 10) o
      else Hw k false o
     else Hw k false o)→Jk s i k o:=fun o h=>by
    refine red o ?_
    rw [beq_eq_false_iff_ne.2 c10]
    unfold Le
    rw [if_neg (show ¬ (false=true) by simp),wi,w1]
    exact h
   by_cases c47:bt s k=47
   ·left
    refine red2 _ ⟨by omega,?_⟩
    rw [if_pos c47] at h3 ⊢
    have hx:(s.extract ((i + 1:Nat):Int).toNat (k:Int).toNat).size≤9223372036854775807:=by
     rw [← I9,Xac,List.length_drop,List.length_take]; omega
    refine ⟨by omega,hx,?_⟩
    rw [← h3,Xac]
    rfl
   ·rw [if_neg c47] at h3
    by_cases c92:bt s k=92
    ·rw [if_pos c92] at h3
     by_cases hk1:k + 1 < s.size
     ·rw [Xb4 hk1] at h3
      simp only at h3
      right
      by_cases d10:bt s ((k + 1:Nat):Int)=10
      ·rw [if_pos d10] at h3
       refine ⟨((k + 1:Nat):Int),red2 _ ⟨by omega,?_⟩,⟨by omega,by omega,?_⟩,by omega⟩
       ·rw [if_neg c47, if_pos c92, if_pos (by omega), d10]
        exact ⟨by omega,j3f _ rfl⟩
       ·rw [Int.toNat_natCast,Xb4 hk1,Xbj,if_pos d10,← h3]
        rfl
      ·rw [if_neg d10] at h3
       refine ⟨((k + 2:Nat):Int),red2 _ ⟨by omega,?_⟩,⟨by omega,by omega,?_⟩,by omega⟩
       ·rw [if_neg c47, if_pos c92, if_pos (by omega), bne_iff_ne.2 d10]
        exact ⟨by omega,j3t _ rfl⟩
       ·rw [Int.toNat_natCast,← h3]
        exact Xhv _ _ _ _ _
     ·right
      rw [List.drop_eq_nil_of_le (by omega)] at h3
      simp only at h3
      refine ⟨((k + 1:Nat):Int),red2 _ ⟨by omega,?_⟩,⟨by omega,by omega,?_⟩,by omega⟩
      ·rw [if_neg c47, if_pos c92, if_neg (by omega)]
       exact j3f _ rfl
      ·rw [Int.toNat_natCast, List.drop_eq_nil_of_le (by omega), ← h3]
       rfl
    ·rw [if_neg c92] at h3
     right
     refine ⟨((k + 1:Nat):Int),red2 _ ⟨by omega,?_⟩,⟨by omega,by omega,?_⟩,by omega⟩
     ·rw [if_neg c47,if_neg c92]
      exact j3f _ rfl
     ·rw [Int.toNat_natCast,← h3]
      exact Xhv _ _ _ _ _
end Go.Proofs.YtjookebbmfiidaaDoor.L
