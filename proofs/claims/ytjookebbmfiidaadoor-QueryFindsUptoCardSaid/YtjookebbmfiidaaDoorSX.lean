/- The plain side of chapter 8, more: what is spelt is read. No condition. -/
import Derived.Test.YtjookebbmfiidaaDoorSY
import Derived.Test.YtjookebbmfiidaaDoorT0
set_option linter.unusedVariables false
namespace Go.Proofs.YtjookebbmfiidaaDoor.L
open Go.Proofs.YtjookebbmfiidaaDoor.B Go.Proofs.YtjookebbmfiidaaDoor.R
theorem sound_no {w:Dw} (h:Xz w=false):Xct w=⟨#[]⟩:=by unfold Xct; rw [if_neg (by rw [h]; simp)]
theorem Xm0 {w:Dw} (h:Xz w=true):Xct w≠⟨#[]⟩:=fun e=>by
 obtain ⟨c,l,e2,_⟩:=Xlt h
 rw [e] at e2
 cases e2
theorem Xjd {α:Type} (f:α→Nat) {l:List α} {a:α} (h:a ∈ l):f a≤Yt f l:=by
 induction l with
 | nil=>cases h
 | cons b l ih =>
  simp only [Yt] at ih ⊢
  rcases List.mem_cons.1 h with rfl | h
  ·omega
  ·have:=ih h; omega
theorem Xga {α:Type} (f:α→Nat) (hf:∀ a,1≤f a) (l:List α):l.length≤Yt f l:=by
 induction l with
 | nil=>simp [Yt]
 | cons b l ih =>
  simp only [Yt,List.length_cons] at ih ⊢
  have:=hf b; omega
end Go.Proofs.YtjookebbmfiidaaDoor.L
set_option linter.unusedVariables false
namespace Go.Proofs.YtjookebbmfiidaaDoor.L
open Go.Proofs.YtjookebbmfiidaaDoor.B Go.Proofs.YtjookebbmfiidaaDoor.R
def inF (s:ByteArray) (b:Int):Bool:=if (Iw s).all (fun c=>c != b)=true then false else true
theorem in_ok {s:ByteArray} (hs:s.size≤2 ^ 50) (b:Int):P5 s b (inF s b):=by
 have hl:=Sz s
 unfold P5 inF
 refine Ar.allThen (Iw s) (fun c=>c != b) (fun i hi hp=>?_) (fun i hi hp=>?_) (fun _=>?_) <;> unfold Qi
 ·rw [← Xfv (by omega)] at hp
  rw [if_pos (by omega),if_neg (by simpa using hp),We (by omega)]
  exact ⟨by omega,rfl⟩
 ·rw [← Xfv (by omega)] at hp
  rw [if_pos (by omega),if_pos (by simpa using hp)]
  exact ⟨by omega,rfl⟩
 ·rw [if_neg (by omega)]
def Xia:ByteArray:=⟨#[65,66,67,68,69,70,71,72,73,74,75,76,77,78,79,80,81,82,83,84,85,86,87,88,89,90,97,98,99,100,101,102,103,104,105,106,107,108,109,110,111,112,113,114,115,116,117,118,119,120,121,122,95,48,49,50,51,52,53,54,55,56,57]⟩
def Xhw:ByteArray:=⟨#[48,49,50,51,52,53,54,55,56,57]⟩
theorem in_all:∀ n:Fin 256,inF Xia ((n.val:Nat):Int)=X4 ((n.val:Nat):Int)∧inF Xhw ((n.val:Nat):Int)=N9 ((n.val:Nat):Int)∧inF Xb9 ((n.val:Nat):Int)=decide (0≤idxB Xb9 ((n.val:Nat):Int)):=by decide +kernel
theorem in_at {c:Int} (h:0≤c∧c≤255):inF Xia c=X4 c∧inF Xhw c=N9 c∧inF Xb9 c=decide (0≤idxB Xb9 c):=by
 have:=in_all ⟨c.toNat,by omega⟩
 simpa only [Int.toNat_of_nonneg h.1] using this
theorem run_ok {x:ByteArray} (hx:x.size≤2 ^ 50):Tc x 0 Xia (twl X4 (Iw x):Int):=by
 have hl:=Sz x
 have hle:=Xkq X4 (Iw x)
 have hn:Xia.size≤2 ^ 50:=by decide
 unfold Tc
 refine Ar.cnt (twl X4 (Iw x)) (fun i hi=>?_) ?_ <;> unfold Oz
 ·obtain ⟨g1, g2⟩ := inScan (s := x) (a := 0) (p := X4) (by simpa using hi)
  rw [Nat.zero_add] at g1 g2
  rw [Int.zero_add,Dk (by omega),if_pos (by omega)]
  refine ⟨by omega,_,in_ok hn _,?_⟩
  rw [(in_at (Zt x i)).1,g2,if_pos rfl,We (by omega)]
 ·rw [Int.zero_add, Dk (by omega)]
  by_cases g:twl X4 (Iw x) < x.size
  ·have := outScan (s := x) (a := 0) (p := X4) (by simpa using g)
   simp only [List.drop_zero,Nat.zero_add] at this
   rw [if_pos (by omega)]
   refine ⟨by omega,_,in_ok hn _,?_⟩
   rw [(in_at (Zt x _)).1,this,if_neg (by simp)]
  ·rw [if_neg (by omega)]
theorem Xj7 {p:Int→Bool}:∀ l:List Int,(twl p l == l.length)=l.all p
 | []=>rfl
 | c :: l=>by
  have ih:=Xj7 (p:=p) l
  have hle:=Xkq p l
  rw [twl,List.all_cons]
  by_cases hc:p c=true
  ·rw [if_pos hc,hc,Bool.true_and,← ih,List.length_cons,Bool.eq_iff_iff]
   simp
  ·rw [if_neg hc,Bool.not_eq_true] at *
   rw [hc,Bool.false_and]
   simp
def rxR:Option Nat→Nat→Int
 | some k,a=>((a + k + 1:Nat):Int)
 | none,_=>0
theorem regex_ok {x:ByteArray} (hx:x.size≤2 ^ 50) (h1:1≤x.size):Qc x 0 (rxR (slF ((Iw x).drop 1)) 1):=by
 have hl:=Sz x
 unfold Qc
 rw [show w64 (0 + 1)=((1:Nat):Int) by rfl]
 refine Ar.to (fun q:Int=>1≤q∧q≤(x.size:Int)∧rxR (slF ((Iw x).drop q.toNat)) q.toNat=rxR (slF ((Iw x).drop 1)) 1) (fun q=>((x.size:Int) - q).toNat) (fun q hq=>?_) ⟨by omega,by omega,rfl⟩
 obtain ⟨h0,h1,h3⟩:=hq
 obtain ⟨k,rfl⟩:∃ k:Nat,q=k:=⟨q.toNat,by omega⟩
 rw [Int.toNat_natCast] at h3
 have w1:w64 ((k:Int) + 1)=((k + 1:Nat):Int):=by rw [Dk (by omega)]; omega
 have w2:w64 (((k + 1:Nat):Int) + 1)=((k + 2:Nat):Int):=by rw [Dk (by omega)]; omega
 have j2f:∀ o,o=.inr 0→Ii k x false o:=fun o h=>h
 by_cases he:k=x.size
 ·left
  unfold He
  rw [if_neg (by omega)]
  refine j2f _ ?_
  rw [← h3,he,List.drop_eq_nil_of_le (by omega)]
  rfl
 ·have hk:k < x.size:=by omega
  have red:∀ o,Ii k x (bt x k != 10) o→He x k o:=fun o h=>by
   unfold He
   rw [if_pos (by omega)]
   exact ⟨by omega,h⟩
  rw [Xf7 hk,Xbj] at h3
  by_cases c10:bt x k=10
  ·left
   refine red _ ?_
   rw [c10]
   refine j2f _ ?_
   rw [if_pos c10] at h3
   rw [← h3]; rfl
  ·rw [if_neg c10] at h3
   have red2:∀ o,((0≤(k:Int)∧(k:Int) < (x.size:Int))∧if bt x k=47 then o=.inr ((k + 1:Nat):Int) else if bt x k=92 then
     if ((k + 1:Nat):Int) < (x.size:Int) then (0≤((k + 1:Nat):Int)∧((k + 1:Nat):Int) < (x.size:Int))∧if bt x ((k + 1:Nat):Int)=10 then o=.inl ((k + 1:Nat):Int) else o=.inl ((k + 2:Nat):Int)
     else o=.inl ((k + 1:Nat):Int) else o=.inl ((k + 1:Nat):Int))→He x k o:=fun o h=>by
    refine red o ?_
    rw [bne_iff_ne.2 c10]
    unfold Ii
    rw [if_pos rfl,w1,w2]
    exact h
   by_cases c47:bt x k=47
   ·left
    refine red2 _ ⟨by omega,?_⟩
    rw [if_pos c47] at h3 ⊢
    rw [← h3]; rfl
   ·rw [if_neg c47] at h3
    by_cases c92:bt x k=92
    ·rw [if_pos c92] at h3
     right
     by_cases hk1:k + 1 < x.size
     ·rw [Xf7 hk1] at h3
      simp only at h3
      by_cases d10:bt x ((k + 1:Nat):Int)=10
      ·rw [if_pos d10] at h3
       refine ⟨((k + 1:Nat):Int),red2 _ ⟨by omega,?_⟩,⟨by omega,by omega,?_⟩,by omega⟩
       ·rw [if_neg c47,if_pos c92,if_pos (by omega),if_pos d10]; exact ⟨by omega,rfl⟩
       ·rw [Int.toNat_natCast,Xf7 hk1,Xbj,if_pos d10,← h3]; rfl
      ·rw [if_neg d10] at h3
       refine ⟨((k + 2:Nat):Int),red2 _ ⟨by omega,?_⟩,⟨by omega,by omega,?_⟩,by omega⟩
       ·rw [if_neg c47,if_pos c92,if_pos (by omega),if_neg d10]; exact ⟨by omega,rfl⟩
       ·rw [Int.toNat_natCast,← h3,show k + 1 + 1=k + 2 from rfl]
        cases slF ((Iw x).drop (k + 2)) with
        | none=>rfl
        | some z=>show ((k + 2 + z + 1:Nat):Int)=((k + (z + 2) + 1:Nat):Int); omega
     ·refine ⟨((k + 1 : Nat) : Int), red2 _ ⟨by omega, ?_⟩, ⟨by omega, by omega, ?_⟩, by omega⟩
      ·rw [if_neg c47,if_pos c92,if_neg (by omega)]
      ·rw [Int.toNat_natCast,← h3,List.drop_eq_nil_of_le (by omega)]; rfl
    ·rw [if_neg c92] at h3
     right
     refine ⟨((k + 1:Nat):Int),red2 _ ⟨by omega,?_⟩,⟨by omega,by omega,?_⟩,by omega⟩
     ·rw [if_neg c47,if_neg c92]
     ·rw [Int.toNat_natCast,← h3]
      cases slF ((Iw x).drop (k + 1)) with
      | none=>rfl
      | some z=>show ((k + 1 + z + 1:Nat):Int)=((k + (z + 1) + 1:Nat):Int); omega
theorem Xj9 {w:Dw} (hs:w.text.size≤1048576):Q5 w (Xz w):=by
 have hl:=Sz w.text
 have hbt:=Xjh w.text
 unfold Q5 Xz
 by_cases k1:w.kind=1
 ·rw [if_pos k1,if_pos k1]
  unfold Xht
  by_cases g1:(w.text.size:Int) > 0
  ·rw [if_pos g1, decide_eq_true (by omega : 1 ≤ (Iw w.text).length), Bool.true_and]
   by_cases g2:(w.text.size:Int)≤24
   ·rw [if_pos g2, decide_eq_true (by omega : (Iw w.text).length ≤ 24), Bool.true_and]
    have hh:(Iw w.text).headD 0=bt w.text 0:=by
     have:=Xf7 (s:=w.text) (i:=0) (by omega)
     rw [List.drop_zero] at this
     rw [this]; rfl
    refine ⟨by omega,_,in_ok (s:=Xhw) (by decide) _,?_⟩
    rw [(in_at (Zt w.text 0)).2.1,hh]
    cases hd:N9 (bt w.text 0) with
    | true=>rw [if_pos rfl]; rfl
    | false =>
     rw [if_neg (by simp),Bool.not_false,Bool.true_and]
     refine ⟨_,run_ok (by omega),?_⟩
     rw [← Xj7,hl,Bool.eq_iff_iff]
     simp only [beq_iff_eq]
     omega
   ·rw [if_neg g2,decide_eq_false (by omega:¬ (Iw w.text).length≤24),Bool.false_and]
  ·rw [if_neg g1,decide_eq_false (by omega:¬ 1≤(Iw w.text).length),Bool.false_and]
 rw [if_neg k1,if_neg k1]
 by_cases k2:w.kind=2
 ·rw [if_pos k2,if_pos k2]
 rw [if_neg k2,if_neg k2]
 have a1:(⟨#[47]⟩:ByteArray).size=1:=rfl
 by_cases k3:w.kind=3
 ·rw [if_pos k3,if_pos k3]
  have hsz:(((⟨#[47]⟩:ByteArray)++w.text)++(⟨#[47]⟩:ByteArray)).size=w.text.size + 2:=by simp only [ByteArray.size_append,a1]; omega
  refine ⟨by rw [a1]; omega,by simp only [ByteArray.size_append,a1]; omega,_,regex_ok (by omega) (by omega),?_⟩
  rw [hsz]
  have e:(Iw (((⟨#[47]⟩:ByteArray)++w.text)++(⟨#[47]⟩:ByteArray))).drop 1=Iw w.text++47 :: []:=by rw [Xd7,Xd7]; rfl
  rw [e]
  cases hr:Xaa (Iw w.text) with
  | true =>
   rw [Xlh [] _ rfl hr]
   symm; rw [beq_iff_eq]
   show ((1 + (Iw w.text).length + 1:Nat):Int)=_
   omega
  | false =>
   symm; rw [beq_eq_false_iff_ne]
   intro h
   cases hm:slF (Iw w.text++47 :: []) with
   | none=>rw [hm] at h; have h:(0:Int)=_:=h; omega
   | some k =>
    rw [hm] at h
    have h:((1 + k + 1:Nat):Int)=_:=h
    obtain rfl:k=(Iw w.text).length:=by omega
    have:=slF_reg _ rfl hm
    rw [List.take_append_of_le_length (Nat.le_refl _),List.take_length,hr] at this
    cases this
 rw [if_neg k3,if_neg k3]
 by_cases k4:w.kind=4
 ·rw [if_pos k4,if_pos k4]
  split <;> rfl
 rw [if_neg k4,if_neg k4]
 by_cases k5:w.kind=5
 ·rw [if_pos k5,if_pos k5]
  by_cases g:(w.text.size:Int)=1
  ·rw [if_pos g,if_pos g]
   refine ⟨by omega,_,in_ok (s:=Xb9) (by decide) _,?_⟩
   have hd:=Xf7 (s:=w.text) (i:=0) (by omega)
   rw [List.drop_zero,List.drop_eq_nil_of_le (by omega)] at hd
   rw [Xjr hd,(in_at (Zt w.text _)).2.2]
   rfl
  ·rw [if_neg g,if_neg g]
 ·rw [if_neg k5,if_neg k5]
def mark (i:Nat):Dw:=⟨0,(⟨#[]⟩:ByteArray),900 + (i:Int),7⟩
def marks:List Dw:=(List.range 20).map mark
end Go.Proofs.YtjookebbmfiidaaDoor.L
