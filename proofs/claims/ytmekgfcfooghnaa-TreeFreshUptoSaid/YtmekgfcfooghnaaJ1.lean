/- Trees as texts: names in quotes. Conditions: sizes. -/
import Derived.Test.YtmekgfcfooghnaaF9
import Derived.Test.YtmekgfcfooghnaaU2
import Derived.KernelRfl
set_option linter.unusedVariables false
namespace Go.Proofs.Ytmekgfcfooghnaa.L
open Go.Proofs.Ytmekgfcfooghnaa.B Go.Proofs.Ytmekgfcfooghnaa.R
def hxD:ByteArray:=⟨#[48,49,50,51,52,53,54,55,56,57,97,98,99,100,101,102]⟩
def qc (c:Int):List Int:=if c=34∨c=92 then [92,c] else if c=10 then [92,110] else if c < 32∨c > 126 then [92,120,bt hxD (c / 16),bt hxD (c % 16)] else [c]
def qL (s:ByteArray):List Int:=34 :: ((Xnr s).flatMap qc++[34])
theorem Yge (c:Int):(qc c).length≤4:=by
 unfold qc
 split
 ·simp
 ·split
  ·simp
  ·split <;> simp
theorem Yh6 (l:List Int):(l.flatMap qc).length≤4 * l.length:=by
 induction l with
 | nil=>simp
 | cons a l ih=>rw [List.flatMap_cons,List.length_append,List.length_cons]; have:=Yge a; omega
theorem qc_bts {c:Int} (h:0≤c∧c≤255):Bts (qc c):=by
 unfold qc
 split
 ·exact fun x hx=>by simp at hx; omega
 ·split
  ·exact fun x hx=>by simp at hx; omega
  ·split
   ·exact fun x hx=>by
     simp only [List.mem_cons,List.not_mem_nil,or_false] at hx
     have h1:=Yc5 hxD (c / 16)
     have h2:=Yc5 hxD (c % 16)
     rcases hx with rfl | rfl | rfl | rfl <;> omega
   ·exact fun x hx=>by simp at hx; omega
theorem qL_bts (s:ByteArray):Bts (qL s):=by
 intro x hx
 unfold qL at hx
 rcases List.mem_cons.1 hx with rfl | hx
 ·omega
 ·rcases List.mem_append.1 hx with hx | hx
  ·obtain ⟨c,hc,hx⟩:=List.mem_flatMap.1 hx
   exact qc_bts (bsOf_bts s c hc) x hx
  ·simp at hx; omega
theorem qL_len (s:ByteArray):(qL s).length≤4 * s.size + 2:=by
 unfold qL
 have:=Yh6 (Xnr s)
 rw [Xr8] at this
 simp only [List.length_cons,List.length_append,List.length_nil]
 omega
theorem Xt5 {b:Bool} {xs:List Int} {c:Int} (h:xs.length + 1≤211106232532992):Xne ⟨b,xs⟩ c ⟨true,xs++[c]⟩:=by
 refine ⟨⟨true,xs⟩,?_,_,rfl,by simp; omega,rfl⟩
 unfold Xop
 cases b
 ·rw [if_neg (by simp)]
 ·rw [if_pos rfl]
theorem Xvt {b:Bool} {xs:List Int} {s:ByteArray} (h:xs.length + s.size≤211106232532992):Xnh ⟨b,xs⟩ s ((s.size:Int),⟨true,xs++Xnr s⟩):=by
 refine ⟨⟨true,xs⟩,?_,_,rfl,by rw [List.length_append,Xr8]; show (xs.length + s.size) * 1≤_; omega,rfl⟩
 unfold Xop
 cases b
 ·rw [if_neg (by simp)]
 ·rw [if_pos rfl]
theorem hex_fin:∀ c:Fin 256,(Yc2 .u8 ((c.val:Nat):Int) 4=((c.val:Nat):Int) / 16∧bits .and .u8 ((c.val:Nat):Int) 15=((c.val:Nat):Int) % 16)∧Int.tdiv ((c.val:Nat):Int) 16=((c.val:Nat):Int) / 16∧Int.tmod ((c.val:Nat):Int) 16=((c.val:Nat):Int) % 16:=by decide +kernel
theorem chr_fin:∀ k:Fin 16,Xnr (Xuz (bt hxD ((k.val:Nat):Int)))=[bt hxD ((k.val:Nat):Int)]:=by decide +kernel
theorem Yh5 {k:Int} (h:0≤k∧k < 16):Xnr (Xuz (bt hxD k))=[bt hxD k]:=by
 have:=chr_fin ⟨k.toNat,by omega⟩
 simpa only [Int.toNat_of_nonneg h.1] using this
theorem hex_at {c:Int} (h:0≤c∧c≤255):Yc2 .u8 c 4=c / 16∧bits .and .u8 c 15=c % 16∧Int.tdiv c 16=c / 16∧Int.tmod c 16=c % 16:=by
 have:=hex_fin ⟨c.toNat,by omega⟩
 simp only [Int.toNat_of_nonneg h.1] at this
 exact ⟨this.1.1,this.1.2,this.2.1,this.2.2⟩
theorem chr34:Xnr ((⟨#[92]⟩:ByteArray)++Xuz (IntKind.i32.wrap 34))=[92,34]:=by decide +kernel
theorem chr92:Xnr ((⟨#[92]⟩:ByteArray)++Xuz (IntKind.i32.wrap 92))=[92,92]:=by decide +kernel
theorem Xyk {s:ByteArray} {l:List Int} (h:Xnr s=l):s.size=l.length:=by rw [← h,Xr8]
theorem Yhp {s:ByteArray} (hs:s.size≤2 ^ 44):Xuq s (Xz3 (qL s)):=by
 unfold Xuq
 refine ⟨_,Xt5 (by simp),by omega,?_⟩
 have hq:∀ i,i≤s.size→(34 :: ((Xnr s).take i).flatMap qc).length≤4 * i + 1:=fun i hi=>by
  have hl:=Yh6 ((Xnr s).take i)
  rw [List.length_take,Xr8] at hl
  rw [List.length_cons]
  omega
 have key:=Xmi.upto (B:=fun (q:Int × Bool × (List Int)) o=>Xpy s q.1 q.2.1 q.2.2 o) (r:=Xz3 (qL s)) (fun i=>((i:Int),true,34 :: ((Xnr s).take i).flatMap qc)) s.size (fun i hi=>?_) ?_
 ·simpa using key
 ·show Xpy s (i:Int) true (34 :: ((Xnr s).take i).flatMap qc) _
  have hol:=hq i (by omega)
  have hc:=Yc5 s (i:Int)
  have hst:((i + 1:Nat):Int)=w64 ((i:Int) + 1):=by rw [Xp3 (by omega)]; rfl
  have hnext:(34 :: ((Xnr s).take (i + 1)).flatMap qc)=(34 :: ((Xnr s).take i).flatMap qc)++qc (bt s (i:Int)):=by rw [Ye4 hi,List.flatMap_append]; simp
  rw [hnext,hst]
  unfold Xpy
  rw [Xr8,if_pos (by omega),ix_bs hi]
  refine ⟨by omega,?_⟩
  generalize 34 :: ((Xnr s).take i).flatMap qc=out at *
  have hbt:ix (Xnr s) (i:Int)=bt s (i:Int):=ix_bs hi
  have two:∀ t:ByteArray,Xnr t=qc (bt s (i:Int))→Xnh ⟨true,out⟩ t ((t.size:Int),⟨true,out++qc (bt s (i:Int))⟩):=fun t ht=>by
   have:=Yge (bt s (i:Int))
   have h1:=Xyk ht
   have:=Xvt (b:=true) (xs:=out) (s:=t) (by omega)
   rwa [ht] at this
  have j2:∀ x:Bool,(x=true↔bt s (i:Int)=34∨bt s (i:Int)=92)→Xs2 s (i:Int) true out x (.inl (w64 ((i:Int) + 1),true,out++qc (bt s (i:Int)))):=fun x hx=>by
   unfold Xs2
   rw [hbt]
   cases x with
   | true =>
    rw [if_pos rfl]
    have hv:=hx.1 rfl
    have hb:Xnr ((⟨#[92]⟩:ByteArray)++Xuz (IntKind.i32.wrap (bt s (i:Int))))=qc (bt s (i:Int)):=by
     unfold qc
     rw [if_pos hv]
     rcases hv with hv | hv <;> rw [hv]
     ·exact chr34
     ·exact chr92
    have hz:=Xyk hb
    have:=Yge (bt s (i:Int))
    rw [ByteArray.size_append] at hz
    exact ⟨by omega,_,two _ hb,rfl⟩
   | false =>
    have hv:¬ (bt s (i:Int)=34∨bt s (i:Int)=92):=fun e=>by have:=hx.2 e; cases this
    rw [if_neg (by simp)]
    by_cases h10:bt s (i:Int)=10
    ·rw [if_pos h10]
     exact ⟨_,two _ (by unfold qc; rw [if_neg hv,if_pos h10]; rfl),rfl⟩
    ·rw [if_neg h10]
     have j3:∀ y:Bool,(y=true↔bt s (i:Int) < 32∨bt s (i:Int) > 126)→Xs0 s (i:Int) true out y (.inl (w64 ((i:Int) + 1),true,out++qc (bt s (i:Int)))):=fun y hy=>by
      unfold Xs0
      rw [hbt]
      obtain ⟨q1,q2,_,_⟩:=hex_at hc
      rw [q1,q2]
      cases y with
      | true =>
       rw [if_pos rfl]
       have hv2:=hy.1 rfl
       have e1:=Yh5 (k:=bt s (i:Int) / 16) (by omega)
       have e2:=Yh5 (k:=bt s (i:Int) % 16) (by omega)
       have z1:=Xyk e1
       have z2:=Xyk e2
       change (Xuz (bt hxD _)).size=1 at z1
       change (Xuz (bt hxD _)).size=1 at z2
       have zz:(⟨#[92,120]⟩:ByteArray).size=2:=rfl
       have zd:hxD.size=16:=rfl
       change (0≤bt s (i:Int) / 16∧bt s (i:Int) / 16 < (hxD.size:Int))∧((⟨#[92,120]⟩:ByteArray).size + (Xuz (bt hxD (bt s (i:Int) / 16))).size≤9223372036854775807)∧(0≤bt s (i:Int) % 16∧bt s (i:Int) % 16 < (hxD.size:Int))∧(((⟨#[92,120]⟩:ByteArray)++Xuz (bt hxD (bt s (i:Int) / 16))).size + (Xuz (bt hxD (bt s (i:Int) % 16))).size≤9223372036854775807)∧_
       rw [ByteArray.size_append,z1,z2,zz,zd]
       refine ⟨by omega,by omega,by omega,by omega,_,two _ ?_,rfl⟩
       rw [Yd6,Yd6]
       unfold qc
       rw [if_neg hv,if_neg h10,if_pos hv2]
       have e3:∀ a b:List Int,a=[bt hxD (bt s (i:Int) / 16)]→b=[bt hxD (bt s (i:Int) % 16)]→Xnr (⟨#[92,120]⟩:ByteArray)++a++b=[92,120,bt hxD (bt s (i:Int) / 16),bt hxD (bt s (i:Int) % 16)]:=fun a b ha hb=>by rw [ha,hb]; rfl
       exact e3 _ _ e1 e2
      | false =>
       have hv2:¬ (bt s (i:Int) < 32∨bt s (i:Int) > 126):=fun e=>by have:=hy.2 e; cases this
       rw [if_neg (by simp)]
       have e:qc (bt s (i:Int))=[bt s (i:Int)]:=by unfold qc; rw [if_neg hv,if_neg h10,if_neg hv2]
       rw [e]
       exact ⟨_,Xt5 (by omega),rfl⟩
     by_cases g1:bt s (i:Int) < 32
     ·rw [if_pos g1]; exact j3 true (by simp [g1])
     ·rw [if_neg g1]; exact j3 _ (by simp [g1])
  by_cases g:bt s (i:Int)=34
  ·rw [if_pos g]; exact j2 true (by simp [g])
  ·rw [if_neg g]; exact j2 _ (by simp [g])
 ·show Xpy s (s.size:Int) true (34 :: ((Xnr s).take s.size).flatMap qc) _
  have hol:=hq s.size (Nat.le_refl _)
  unfold Xpy
  rw [Xr8,if_neg (by omega)]
  refine ⟨_,Xt5 (by omega),_,rfl,?_⟩
  rw [← Xr8 s,List.take_length]
  rfl
end Go.Proofs.Ytmekgfcfooghnaa.L
