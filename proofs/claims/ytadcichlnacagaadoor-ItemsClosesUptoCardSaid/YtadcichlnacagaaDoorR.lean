/- What the functions answer, as plain relations, printed by my own tool off the program's translation. No condition. -/
import Derived.Test.YtadcichlnacagaaDoorP0
import Derived.Lib.ValidU
set_option linter.unusedVariables false
namespace Go.Proofs.YtadcichlnacagaaDoor.R
open Go.Proofs.YtadcichlnacagaaDoor.B
def Zmo:List Int:=[0,1,56,2,57,49,28,3,61,58,42,50,38,29,17,4,62,47,59,36,45,43,51,22,53,39,33,30,24,18,12,5,63,55,48,27,60,41,37,16,46,35,44,21,52,32,23,11,54,26,40,15,34,20,31,10,25,14,19,9,13,8,7,6]
structure Yup where
 name:ByteArray
 lit:Bool
 deriving Inhabited,DecidableEq
structure Yvn where
 name:ByteArray
 kind:Int
 deriving Inhabited,DecidableEq
structure Yut where
 sym:Int
 field:ByteArray
 as:ByteArray
 deriving Inhabited,DecidableEq
structure Yuf where
 lhs:Int
 rhs:List Yut
 deriving Inhabited,DecidableEq
structure Yu5 where
 terms:List Yup
 syms:List Yvn
 prods:List Yuf
 deriving Inhabited,DecidableEq
structure Yud where
 prod:Int
 dot:Int
 look:Int
 deriving Inhabited,DecidableEq
structure Yuc where
 g:Yu5
 none:List Bool
 first:List Int
 at_:List Int
 dots:Int
 deriving Inhabited,DecidableEq
structure Yu8 where
 first:Int→Int
 vanishes:Int→Bool
 deriving Inhabited
structure Yuu where
 prod:Int
 dot:Int
 sym:Int
 rest:Int
 open_:Bool
 deriving Inhabited,DecidableEq
structure Yuv where
 g:Yu5
 spots:List Yuu
 at_:List Int
 of:List (List Int)
 deriving Inhabited,DecidableEq
structure Yus where
 spot:Int
 looks:Int
 deriving Inhabited,DecidableEq
def Zcx (x:Yuf):Yuf × Nat:=(x,x.rhs.length)
def Zbe (x:Yuf × Nat):Yuf:={ x.1 with rhs:=x.1.rhs.take x.2 }
def Yx9 (x1:Yu5) (x24:List Yup) (x31:List Yvn) (x103:Int) (x104:List Yuf) (o1:Sum (Int × (List Yuf)) Yu5):Prop :=
 if x103 < (x1.prods.length:Int) then
  (0≤x103∧x103 < (x1.prods.length:Int)) ∧
  ∃ x206:List Yut,(x206=([]:List Yut)++((ix x1.prods x103).rhs)) ∧
  (x206.length * 40≤211106232532992) ∧
  ∃ x238:List Yuf,(x238=x104++([(⟨(ix x1.prods x103).lhs,x206⟩:Yuf)]:List Yuf)) ∧
  (x238.length * 32≤211106232532992) ∧
  o1=.inl (w64 (x103 + 1),x238)
 else
  o1=.inr ((⟨x24,x31,x104⟩:Yu5))
def Zaf (x1:Yu5) (r:Yu5):Prop :=
 ∃ x24:List Yup,(x24=([]:List Yup)++x1.terms) ∧
 (x24.length * 24≤211106232532992) ∧
 ∃ x31:List Yvn,(x31=([]:List Yvn)++x1.syms) ∧
 (x31.length * 24≤211106232532992) ∧
 Yui (fun (s:Int × (List Yuf)) o=>Yx9 x1 x24 x31 s.1 s.2 o) (0,([]:List Yuf)) r
def Yx1 (x1:Yu5) (x52:List Yup) (x97:List Yvn) (x314:Int) (x315:List (Yuf × Nat)) (o1:Sum (Int × (List (Yuf × Nat))) (Yu5 × Nat × Nat × Nat × (List (Yuf × Nat)))):Prop :=
 if x314 < ((x315.take (((x1.prods.length:Int):Int).toNat)).length:Int) then
  (0≤x314∧x314 < ((x315.take (((x1.prods.length:Int):Int).toNat)).length:Int)) ∧
  ((ix x315 x314).2=(((ix x315 x314).1).rhs).length) ∧
  ∃ x462:List Yut,(x462=(((ix x315 x314).1).rhs)++([(⟨-73,(⟨#[]⟩:ByteArray),(⟨#[]⟩:ByteArray)⟩:Yut),(⟨-74,(⟨#[]⟩:ByteArray),(⟨#[]⟩:ByteArray)⟩:Yut)]:List Yut)) ∧
  (x462.length * 40≤211106232532992) ∧
  (0≤(0:Int)∧(0:Int)≤(((((ix x315 x314).1).rhs).take ((ix x315 x314).2)).length:Int)∧(((((ix x315 x314).1).rhs).take ((ix x315 x314).2)).length:Int)≤(x462.length:Int)) ∧
  ∃ x475:List (Yuf × Nat),(x475=x315.set (x314:Int).toNat ({ ((ix x315 x314).1) with rhs:=x462 },((((((ix x315 x314).1).rhs).take ((ix x315 x314).2)).length:Int):Int).toNat)) ∧
  o1=.inl (w64 (x314 + 1),x475)
 else
  o1=.inr (((⟨x52,x97,[]⟩:Yu5),((x1.terms.length:Int):Int).toNat,((x1.syms.length:Int):Int).toNat,((x1.prods.length:Int):Int).toNat,x315))
def Zb2 (x1:Yu5) (r:Yu5 × Nat × Nat × Nat × (List (Yuf × Nat))):Prop :=
 ∃ r21:Yu5,(Zaf x1 r21) ∧
 ∃ x52:List Yup,(x52=r21.terms++([(⟨(⟨#[109,97,114,107]⟩:ByteArray),false⟩:Yup),(⟨(⟨#[109,97,114,107]⟩:ByteArray),false⟩:Yup)]:List Yup)) ∧
 (x52.length * 24≤211106232532992) ∧
 (0≤(0:Int)∧(0:Int)≤(x1.terms.length:Int)∧(x1.terms.length:Int)≤(x52.length:Int)) ∧
 ∃ x97:List Yvn,(x97=r21.syms++([(⟨(⟨#[109,97,114,107]⟩:ByteArray),0⟩:Yvn),(⟨(⟨#[109,97,114,107]⟩:ByteArray),0⟩:Yvn)]:List Yvn)) ∧
 (x97.length * 24≤211106232532992) ∧
 (0≤(0:Int)∧(0:Int)≤(x1.syms.length:Int)∧(x1.syms.length:Int)≤(x97.length:Int)) ∧
 ∃ x144:List (Yuf × Nat),(x144=(r21.prods.map Zcx)++([((⟨-71,([]:List Yut)⟩:Yuf),0),((⟨-72,([]:List Yut)⟩:Yuf),0)]:List (Yuf × Nat))) ∧
 (x144.length * 32≤211106232532992) ∧
 (0≤(0:Int)∧(0:Int)≤(x1.prods.length:Int)∧(x1.prods.length:Int)≤(x144.length:Int)) ∧
 Yui (fun (s:Int × (List (Yuf × Nat))) o=>Yx1 x1 x52 x97 s.1 s.2 o) (0,x144) r
def Zbv (x1:List Yud) (r:List Yud):Prop :=
 ∃ x10:List Yud,(x10=([]:List Yud)++x1) ∧
 (x10.length * 24≤211106232532992) ∧
 r=x10
def Yz1 (x1:Yu5) (x97:Int) (x231:Int) (o2:Sum Int (Sum Int Bool)):Prop :=
 if x231 < (((ix x1.prods x97).rhs).length:Int) then
  (0≤x231∧x231 < (((ix x1.prods x97).rhs).length:Int)) ∧
  if (ix ((ix x1.prods x97).rhs) x231).sym < 1 then
   o2=.inr (.inr (false))
  else
   if (ix ((ix x1.prods x97).rhs) x231).sym≥w64 ((x1.terms.length:Int) + (x1.syms.length:Int)) then
    o2=.inr (.inr (false))
   else
    o2=.inl (w64 (x231 + 1))
 else
  o2=.inr (.inl (w64 (x97 + 1)))
def Yvg (x1:Yu5) (x97:Int) (x216:Bool) (o1:Sum Int Bool):Prop :=
 if x216=true then
  o1=.inr (false)
 else
  Yui (fun (s:Int) o=>Yz1 x1 x97 s o) 0 o1
def Yzw (x1:Yu5) (x97:Int) (o1:Sum Int Bool):Prop :=
 if x97 < (x1.prods.length:Int) then
  (0≤x97∧x97 < (x1.prods.length:Int)) ∧
  if x97=0 then
   if (ix x1.prods x97).lhs = -1 then
    if (((ix x1.prods x97).rhs).length:Int)=1 then
     (0≤(0:Int)∧(0:Int) < (((ix x1.prods x97).rhs).length:Int)) ∧
     if (ix ((ix x1.prods x97).rhs) 0).sym=(x1.terms.length:Int) then
      if x97 > 0 then
       if (ix x1.prods x97).lhs < 0 then
        Yvg x1 x97 true o1
       else
        Yvg x1 x97 (decide ((ix x1.prods x97).lhs≥(x1.syms.length:Int))) o1
      else
       Yvg x1 x97 false o1
     else
      Yvg x1 x97 true o1
    else
     Yvg x1 x97 true o1
   else
    Yvg x1 x97 true o1
  else
   if x97 > 0 then
    if (ix x1.prods x97).lhs < 0 then
     Yvg x1 x97 true o1
    else
     Yvg x1 x97 (decide ((ix x1.prods x97).lhs≥(x1.syms.length:Int))) o1
   else
    Yvg x1 x97 false o1
 else
  o1=.inr (true)
def Yxl (x1:Yu5) (x20:Bool) (r:Bool):Prop :=
 if x20=true then
  r=false
 else
  Yui (fun (s:Int) o=>Yzw x1 s o) 0 r
def Yz6 (x1:Yu5) (r:Bool):Prop :=
 if (x1.terms.length:Int) < 1 then
  Yxl x1 true r
 else
  if (x1.terms.length:Int) > 64 then
   Yxl x1 true r
  else
   if (x1.syms.length:Int) > 128 then
    Yxl x1 true r
   else
    Yxl x1 (decide ((x1.prods.length:Int) < 1)) r
def Yyu (x14:List Yut) (x1:Yu5) (x34:Int) (o1:Sum Int Bool):Prop :=
 if x34 < (x14.length:Int) then
  (0≤x34∧x34 < (x14.length:Int)) ∧
  if (ix x14 x34).sym < 0 then
   o1=.inr (false)
  else
   if (ix x14 x34).sym≥w64 ((x1.terms.length:Int) + (x1.syms.length:Int)) then
    o1=.inr (false)
   else
    o1=.inl (w64 (x34 + 1))
 else
  o1=.inr (true)
def Zc6 (x1:Yu5) (x14:List Yut) (r:Bool):Prop :=
 Yui (fun (s:Int) o=>Yyu x14 x1 s o) 0 r
def Yy7 (x1:Yu5) (x44:Int) (o1:Sum Int Bool):Prop :=
 if x44 < (x1.prods.length:Int) then
  (0≤x44∧x44 < (x1.prods.length:Int)) ∧
  if (ix x1.prods x44).lhs < -1 then
   o1=.inr (false)
  else
   if (ix x1.prods x44).lhs≥(x1.syms.length:Int) then
    o1=.inr (false)
   else
    ∃ r83:Bool,(Zc6 x1 ((ix x1.prods x44).rhs) r83) ∧
    if r83=true then
     o1=.inl (w64 (x44 + 1))
    else
     o1=.inr (false)
 else
  o1=.inr (true)
def Yy8 (x1:Yu5) (x19:Bool) (r:Bool):Prop :=
 if x19=true then
  r=false
 else
  Yui (fun (s:Int) o=>Yy7 x1 s o) 0 r
def Za1 (x1:Yu5) (r:Bool):Prop :=
 if (x1.terms.length:Int) < 1 then
  Yy8 x1 true r
 else
  if (x1.terms.length:Int) > 64 then
   Yy8 x1 true r
  else
   Yy8 x1 (decide ((x1.syms.length:Int) > 128)) r
def Yyk (x6:List Yut) (x1:List Bool) (x18:Int) (o1:Sum Int Bool):Prop :=
 if x18 < (x6.length:Int) then
  (0≤x18∧x18 < (x6.length:Int)) ∧
  (0≤(ix x6 x18).sym∧(ix x6 x18).sym < (x1.length:Int)) ∧
  if (ix x1 ((ix x6 x18).sym))=true then
   o1=.inl (w64 (x18 + 1))
  else
   o1=.inr (false)
 else
  o1=.inr (true)
def Zbj (x1:List Bool) (x6:List Yut) (r:Bool):Prop :=
 Yui (fun (s:Int) o=>Yyk x6 x1 s o) 0 r
def Ywg (x1:Yu5) (x114:Int) (x222:List Bool) (x224:Int) (o2:Sum ((List Bool) × Int) (Sum ((List Bool) × Int) (List Bool))):Prop :=
 if x224 < (x1.prods.length:Int) then
  (0≤x224∧x224 < (x1.prods.length:Int)) ∧
  if (ix x1.prods x224).lhs≥0 then
   ∃ r265:Bool,(Zbj x222 ((ix x1.prods x224).rhs) r265) ∧
   if r265=true then
    (0≤w64 ((x1.terms.length:Int) + ((ix x1.prods x224).lhs))∧w64 ((x1.terms.length:Int) + ((ix x1.prods x224).lhs)) < (x222.length:Int)) ∧
    ∃ x272:List Bool,(x272=x222.set (w64 ((x1.terms.length:Int) + ((ix x1.prods x224).lhs)):Int).toNat true) ∧
    o2=.inl (x272,w64 (x224 + 1))
   else
    o2=.inl (x222,w64 (x224 + 1))
  else
   o2=.inl (x222,w64 (x224 + 1))
 else
  o2=.inr (.inl (x222,w64 (x114 + 1)))
def Ywc (x1:Yu5) (x112:List Bool) (x114:Int) (o1:Sum ((List Bool) × Int) (List Bool)):Prop :=
 if x114 < (x1.syms.length:Int) then
  Yui (fun (s:(List Bool) × Int) o=>Ywg x1 x114 s.1 s.2 o) (x112,0) o1
 else
  o1=.inr (x112)
def Yzt (x1:Yu5) (r:List Bool):Prop :=
 ∃ r19:Bool,(Za1 x1 r19) ∧
 if r19=true then
  (0≤w64 ((x1.terms.length:Int) + (x1.syms.length:Int))∧w64 ((x1.terms.length:Int) + (x1.syms.length:Int)) * 1≤281474976710656) ∧
  ∃ x29:List Bool,(x29=List.replicate (w64 ((x1.terms.length:Int) + (x1.syms.length:Int)):Int).toNat (false:Bool)) ∧
  Yui (fun (s:(List Bool) × Int) o=>Ywc x1 s.1 s.2 o) (x29,0) r
 else
  r=([]:List Bool)
def Yz2 (x19:List Yut) (x763:Int) (x14:List Bool) (x1846:List Bool) (o1:Sum ((List Bool) × Int) (List Bool)):Prop :=
 (0≤(ix x19 x763).sym∧(ix x19 x763).sym < (x14.length:Int)) ∧
 if (ix x14 ((ix x19 x763).sym))=true then
  o1=.inl (x1846,w64 (x763 + 1))
 else
  o1=.inr (x1846)
def Yxm (x1:Yu5) (x19:List Yut) (x763:Int) (rc_trellisref11_leads:Yu5→(List Bool)→(List Yut)→(List Bool)→(List Bool)→Prop) (x14:List Bool) (x1974:List Bool) (x1979:Int) (o2:Sum ((List Bool) × Int) (Sum ((List Bool) × Int) (List Bool))):Prop :=
 if x1979 < (x1.prods.length:Int) then
  (0≤x1979∧x1979 < (x1.prods.length:Int)) ∧
  if (ix x1.prods x1979).lhs≥0 then
   if (ix x1.prods x1979).lhs=w64 (((ix x19 x763).sym) - (x1.terms.length:Int)) then
    ∃ r2152:List Bool,(rc_trellisref11_leads x1 x14 ((ix x1.prods x1979).rhs) x1974 r2152) ∧
    o2=.inl (r2152,w64 (x1979 + 1))
   else
    o2=.inl (x1974,w64 (x1979 + 1))
  else
   o2=.inl (x1974,w64 (x1979 + 1))
 else
  ∃ q2210:Sum ((List Bool) × Int) (List Bool),(o2=.inr (q2210)) ∧
  Yz2 x19 x763 x14 x1974 q2210
def Ywp (x19:List Yut) (x14:List Bool) (x1:Yu5) (rc_trellisref11_leads:Yu5→(List Bool)→(List Yut)→(List Bool)→(List Bool)→Prop) (x758:List Bool) (x763:Int) (o1:Sum ((List Bool) × Int) (List Bool)):Prop :=
 if x763 < (x19.length:Int) then
  (0≤x763∧x763 < (x19.length:Int)) ∧
  (0≤(ix x19 x763).sym∧(ix x19 x763).sym < (x758.length:Int)) ∧
  if (ix x758 ((ix x19 x763).sym))=true then
   Yz2 x19 x763 x14 x758 o1
  else
   ∃ x1854:List Bool,(x1854=x758.set ((ix x19 x763).sym:Int).toNat true) ∧
   Yui (fun (s:(List Bool) × Int) o=>Yxm x1 x19 x763 rc_trellisref11_leads x14 s.1 s.2 o) (x1854,0) o1
 else
  o1=.inr (x758)
def Yz8 (rc_trellisref11_leads:Yu5→(List Bool)→(List Yut)→(List Bool)→(List Bool)→Prop) (x1:Yu5) (x14:List Bool) (x19:List Yut) (x24:List Bool) (r:List Bool):Prop :=
 Yui (fun (s:(List Bool) × Int) o=>Ywp x19 x14 x1 rc_trellisref11_leads s.1 s.2 o) (x24,0) r
def Yxg:Nat→Yu5→(List Bool)→(List Yut)→(List Bool)→(List Bool)→Prop
 | 0=>fun _ _ _ _ _=>False
 | n + 1=>Yz8 (Yxg n)
def Zgp (x1:Yu5) (x14:List Bool) (x19:List Yut) (x24:List Bool) (r:List Bool):Prop:=∃ n,Yxg n x1 x14 x19 x24 r
def Ywx (x1:Yu5) (r35:List Bool) (x50:Int) (x51:Int) (o1:Sum (Int × Int) Int):Prop :=
 if x51 < (x1.terms.length:Int) then
  (0≤x51∧x51 < (r35.length:Int)) ∧
  if (ix r35 x51)=true then
   (0≤IntKind.u64.wrap (x51)) ∧
   o1=.inl (bits .or .u64 x50 (Zim .u64 1 (IntKind.u64.wrap (x51))),w64 (x51 + 1))
  else
   o1=.inl (x50,w64 (x51 + 1))
 else
  o1=.inr (x50)
def Zam (x1:Yu5) (x14:List Bool) (x19:List Yut) (r:Int):Prop :=
 (0≤w64 ((x1.terms.length:Int) + (x1.syms.length:Int))∧w64 ((x1.terms.length:Int) + (x1.syms.length:Int)) * 1≤281474976710656) ∧
 ∃ x30:List Bool,(x30=List.replicate (w64 ((x1.terms.length:Int) + (x1.syms.length:Int)):Int).toNat (false:Bool)) ∧
 ∃ r35:List Bool,(Zgp x1 x14 x19 x30 r35) ∧
 Yui (fun (s:Int × Int) o=>Ywx x1 r35 s.1 s.2 o) (0,0) r
def Yx0 (x1:Yu5) (r28:List Bool) (x61:List Int) (x66:Int) (o1:Sum ((List Int) × Int) (List Int)):Prop :=
 if x66 < w64 ((x1.terms.length:Int) + (x1.syms.length:Int)) then
  ∃ r95:Int,(Zam x1 r28 ([(⟨x66,(⟨#[]⟩:ByteArray),(⟨#[]⟩:ByteArray)⟩:Yut)]:List Yut) r95) ∧
  ∃ x106:List Int,(x106=x61++([r95]:List Int)) ∧
  (x106.length * 8≤211106232532992) ∧
  o1=.inl (x106,w64 (x66 + 1))
 else
  o1=.inr (x61)
def Zci (x1:Yu5) (r:List Int):Prop :=
 ∃ r19:Bool,(Za1 x1 r19) ∧
 if r19=true then
  ∃ r28:List Bool,(Yzt x1 r28) ∧
  Yui (fun (s:(List Int) × Int) o=>Yx0 x1 r28 s.1 s.2 o) (([]:List Int),0) r
 else
  r=([]:List Int)
def Ywo (x1:Yu5) (r21:List Bool) (r34:List Int) (x101:Int) (x102:List Int) (x107:Int) (o1:Sum (Int × (List Int) × Int) Yuc):Prop :=
 if x101 < (x1.prods.length:Int) then
  ∃ x167:List Int,(x167=x102++([x107]:List Int)) ∧
  (x167.length * 8≤211106232532992) ∧
  (0≤x101∧x101 < (x1.prods.length:Int)) ∧
  o1=.inl (w64 (x101 + 1),x167,w64 ((w64 (x107 + (((ix x1.prods x101).rhs).length:Int))) + 1))
 else
  o1=.inr ((⟨x1,r21,r34,x102,x107⟩:Yuc))
def Yyh (x1:Yu5) (r:Yuc):Prop :=
 ∃ r21:List Bool,(Yzt x1 r21) ∧
 ∃ r34:List Int,(Zci x1 r34) ∧
 Yui (fun (s:Int × (List Int) × Int) o=>Ywo x1 r21 r34 s.1 s.2.1 s.2.2 o) (0,([]:List Int),0) r
def Zcp (x1:Yu5) (x14:Yud) (r:Bool):Prop :=
 if x14.prod≥0 then
  if x14.prod < (x1.prods.length:Int) then
   if x14.dot≥0 then
    (0≤x14.prod∧x14.prod < (x1.prods.length:Int)) ∧
    if x14.dot≤(((ix x1.prods x14.prod).rhs).length:Int) then
     if x14.look≥0 then
      r=decide (x14.look < (x1.terms.length:Int))
     else
      r=false
    else
     r=false
   else
    r=false
  else
   r=false
 else
  r=false
def Zaw (x1:Int) (r:Int):Prop :=
 (0≤IntKind.u64.wrap (x1)) ∧
 r=Zim .u64 1 (IntKind.u64.wrap (x1))
def Yy2 (x28:List Yud) (x1:Yuc) (x129:List Int) (x131:Int) (o1:Sum ((List Int) × Int) ((List Int) × Yuc)):Prop :=
 if x131 < (x28.length:Int) then
  (0≤x131∧x131 < (x28.length:Int)) ∧
  ∃ r227:Bool,(Zcp x1.g (ix x28 x131) r227) ∧
  if r227=true then
   (0≤(ix x28 x131).prod∧(ix x28 x131).prod < (x1.at_.length:Int)) ∧
   (0≤w64 ((ix x1.at_ ((ix x28 x131).prod)) + ((ix x28 x131).dot))∧w64 ((ix x1.at_ ((ix x28 x131).prod)) + ((ix x28 x131).dot)) < (x129.length:Int)) ∧
   ∃ r274:Int,(Zaw ((ix x28 x131).look) r274) ∧
   ∃ x279:List Int,(x279=x129.set (w64 ((ix x1.at_ ((ix x28 x131).prod)) + ((ix x28 x131).dot)):Int).toNat (bits .or .u64 (ix x129 (w64 ((ix x1.at_ ((ix x28 x131).prod)) + ((ix x28 x131).dot)))) r274)) ∧
   o1=.inl (x279,w64 (x131 + 1))
  else
   o1=.inl (x129,w64 (x131 + 1))
 else
  o1=.inr ((x129,x1))
def Zah (x1:Yuc) (x28:List Yud) (r:(List Int) × Yuc):Prop :=
 (0≤x1.dots∧x1.dots * 8≤281474976710656) ∧
 ∃ x37:List Int,(x37=List.replicate (x1.dots:Int).toNat (0:Int)) ∧
 Yui (fun (s:(List Int) × Int) o=>Yy2 x28 x1 s.1 s.2 o) (x37,0) r
def Yw4 (x28:List Yut) (x1:Yuc) (x33:Int) (x52:Int) (x53:Int) (o1:Sum (Int × Int) (Int × Yuc)):Prop :=
 if x53 < (x28.length:Int) then
  (0≤x53∧x53 < (x28.length:Int)) ∧
  (0≤(ix x28 x53).sym∧(ix x28 x53).sym < (x1.first.length:Int)) ∧
  (0≤(ix x28 x53).sym∧(ix x28 x53).sym < (x1.none.length:Int)) ∧
  if (ix x1.none ((ix x28 x53).sym))=true then
   o1=.inl (bits .or .u64 x52 (ix x1.first ((ix x28 x53).sym)),w64 (x53 + 1))
  else
   o1=.inr ((bits .or .u64 x52 (ix x1.first ((ix x28 x53).sym)),x1))
 else
  o1=.inr ((bits .or .u64 x52 x33,x1))
def Yz7 (x1:Yuc) (x28:List Yut) (x33:Int) (r:Int × Yuc):Prop :=
 Yui (fun (s:Int × Int) o=>Yw4 x28 x1 x33 s.1 s.2 o) (0,0) r
def Ywe (r5071:Int × Yuc) (x4844:Int) (x4081:List Yuf) (x4066:Int) (x5139:List Int) (x5141:Bool) (x5142:Int) (o4:Sum ((List Int) × Bool × Int) (Sum ((List Int) × Bool × Int × (List Yup) × (List Yvn) × (List Yuf) × (List Bool) × (List Int) × (List Int) × Int) (Sum ((List Int) × Bool × Int × (List Yup) × (List Yvn) × (List Yuf) × (List Bool) × (List Int) × (List Int) × Int) (Sum ((List Int) × Bool × (List Yup) × (List Yvn) × (List Yuf) × (List Bool) × (List Int) × (List Int) × Int) ((List Int) × Yuc))))):Prop :=
 if x5142 < (r5071.2.g.prods.length:Int) then
  (0≤x5142∧x5142 < (r5071.2.g.prods.length:Int)) ∧
  (0≤x4844∧x4844 < (((ix x4081 x4066).rhs).length:Int)) ∧
  if w64 (((ix r5071.2.g.prods x5142).lhs) + (r5071.2.g.terms.length:Int))=(ix ((ix x4081 x4066).rhs) x4844).sym then
   (0≤x5142∧x5142 < (r5071.2.at_.length:Int)) ∧
   (0≤ix r5071.2.at_ x5142∧ix r5071.2.at_ x5142 < (x5139.length:Int)) ∧
   ∃ x5211:List Int,(x5211=x5139.set (ix r5071.2.at_ x5142:Int).toNat (bits .or .u64 (ix x5139 (ix r5071.2.at_ x5142)) r5071.1)) ∧
   if x5141=true then
    o4=.inl (x5211,true,w64 (x5142 + 1))
   else
    o4=.inl (x5211,((bits .or .u64 (ix x5139 (ix r5071.2.at_ x5142)) r5071.1) != (ix x5139 (ix r5071.2.at_ x5142))),w64 (x5142 + 1))
  else
   o4=.inl (x5139,x5141,w64 (x5142 + 1))
 else
  o4=.inr (.inl (x5139,x5141,w64 (x4844 + 1),r5071.2.g.terms,r5071.2.g.syms,r5071.2.g.prods,r5071.2.none,r5071.2.first,r5071.2.at_,r5071.2.dots))
def Yyp (x4841:List Int) (x4843:Bool) (x4844:Int) (x4845:List Yup) (x4852:List Yvn) (x4859:List Yuf) (x4866:List Bool) (x4873:List Int) (x4880:List Int) (x4887:Int) (x4081:List Yuf) (x4066:Int) (x5064:Bool) (o3:Sum ((List Int) × Bool × Int × (List Yup) × (List Yvn) × (List Yuf) × (List Bool) × (List Int) × (List Int) × Int) (Sum ((List Int) × Bool × Int × (List Yup) × (List Yvn) × (List Yuf) × (List Bool) × (List Int) × (List Int) × Int) (Sum ((List Int) × Bool × (List Yup) × (List Yvn) × (List Yuf) × (List Bool) × (List Int) × (List Int) × Int) ((List Int) × Yuc)))):Prop :=
 if x5064=true then
  o3=.inl (x4841,x4843,w64 (x4844 + 1),x4845,x4852,x4859,x4866,x4873,x4880,x4887)
 else
  (0≤w64 (x4844 + 1)∧w64 (x4844 + 1)≤(((ix x4081 x4066).rhs).length:Int)∧(((ix x4081 x4066).rhs).length:Int)≤(((ix x4081 x4066).rhs).length:Int)) ∧
  ∃ r5071:Int × Yuc,(Yz7 (⟨(⟨x4845,x4852,x4859⟩:Yu5),x4866,x4873,x4880,x4887⟩:Yuc) (((ix x4081 x4066).rhs).drop (w64 (x4844 + 1):Int).toNat) (ix x4841 (w64 ((ix x4880 x4066) + x4844))) r5071) ∧
  Yui (fun (s:(List Int) × Bool × Int) o=>Ywe r5071 x4844 x4081 x4066 s.1 s.2.1 s.2.2 o) (x4841,x4843,1) o3
def Yww (x4081:List Yuf) (x4066:Int) (x4841:List Int) (x4843:Bool) (x4844:Int) (x4845:List Yup) (x4852:List Yvn) (x4859:List Yuf) (x4866:List Bool) (x4873:List Int) (x4880:List Int) (x4887:Int) (o3:Sum ((List Int) × Bool × Int × (List Yup) × (List Yvn) × (List Yuf) × (List Bool) × (List Int) × (List Int) × Int) (Sum ((List Int) × Bool × Int × (List Yup) × (List Yvn) × (List Yuf) × (List Bool) × (List Int) × (List Int) × Int) (Sum ((List Int) × Bool × (List Yup) × (List Yvn) × (List Yuf) × (List Bool) × (List Int) × (List Int) × Int) ((List Int) × Yuc)))):Prop :=
 if x4844 < (((ix x4081 x4066).rhs).length:Int) then
  (0≤x4066∧x4066 < (x4880.length:Int)) ∧
  (0≤w64 ((ix x4880 x4066) + x4844)∧w64 ((ix x4880 x4066) + x4844) < (x4841.length:Int)) ∧
  if ix x4841 (w64 ((ix x4880 x4066) + x4844))=0 then
   Yyp x4841 x4843 x4844 x4845 x4852 x4859 x4866 x4873 x4880 x4887 x4081 x4066 true o3
  else
   (0≤x4844∧x4844 < (((ix x4081 x4066).rhs).length:Int)) ∧
   Yyp x4841 x4843 x4844 x4845 x4852 x4859 x4866 x4873 x4880 x4887 x4081 x4066 (decide ((ix ((ix x4081 x4066).rhs) x4844).sym < (x4845.length:Int))) o3
 else
  o3=.inr (.inl (x4841,x4843,w64 (x4066 + 1),x4845,x4852,x4859,x4866,x4873,x4880,x4887))
def Yws (x4063:List Int) (x4065:Bool) (x4066:Int) (x4067:List Yup) (x4074:List Yvn) (x4081:List Yuf) (x4088:List Bool) (x4095:List Int) (x4102:List Int) (x4109:Int) (o2:Sum ((List Int) × Bool × Int × (List Yup) × (List Yvn) × (List Yuf) × (List Bool) × (List Int) × (List Int) × Int) (Sum ((List Int) × Bool × (List Yup) × (List Yvn) × (List Yuf) × (List Bool) × (List Int) × (List Int) × Int) ((List Int) × Yuc))):Prop :=
 if x4066 < (x4081.length:Int) then
  (0≤x4066∧x4066 < (x4081.length:Int)) ∧
  Yui (fun (s:(List Int) × Bool × Int × (List Yup) × (List Yvn) × (List Yuf) × (List Bool) × (List Int) × (List Int) × Int) o=>Yww x4081 x4066 s.1 s.2.1 s.2.2.1 s.2.2.2.1 s.2.2.2.2.1 s.2.2.2.2.2.1 s.2.2.2.2.2.2.1 s.2.2.2.2.2.2.2.1 s.2.2.2.2.2.2.2.2.1 s.2.2.2.2.2.2.2.2.2 o) (x4063,x4065,0,x4067,x4074,x4081,x4088,x4095,x4102,x4109) o2
 else
  o2=.inr (.inl (x4063,x4065,x4067,x4074,x4081,x4088,x4095,x4102,x4109))
def Ywy (x1748:List Int) (x1750:Bool) (x1751:List Yup) (x1758:List Yvn) (x1765:List Yuf) (x1772:List Bool) (x1779:List Int) (x1786:List Int) (x1793:Int) (o1:Sum ((List Int) × Bool × (List Yup) × (List Yvn) × (List Yuf) × (List Bool) × (List Int) × (List Int) × Int) ((List Int) × Yuc)):Prop :=
 if x1750=true then
  Yui (fun (s:(List Int) × Bool × Int × (List Yup) × (List Yvn) × (List Yuf) × (List Bool) × (List Int) × (List Int) × Int) o=>Yws s.1 s.2.1 s.2.2.1 s.2.2.2.1 s.2.2.2.2.1 s.2.2.2.2.2.1 s.2.2.2.2.2.2.1 s.2.2.2.2.2.2.2.1 s.2.2.2.2.2.2.2.2.1 s.2.2.2.2.2.2.2.2.2 o) (x1748,false,0,x1751,x1758,x1765,x1772,x1779,x1786,x1793) o1
 else
  o1=.inr ((x1748,(⟨(⟨x1751,x1758,x1765⟩:Yu5),x1772,x1779,x1786,x1793⟩:Yuc)))
def Yxq (x1:Yuc) (x28:List Int) (r:(List Int) × Yuc):Prop :=
 Yui (fun (s:(List Int) × Bool × (List Yup) × (List Yvn) × (List Yuf) × (List Bool) × (List Int) × (List Int) × Int) o=>Ywy s.1 s.2.1 s.2.2.1 s.2.2.2.1 s.2.2.2.2.1 s.2.2.2.2.2.1 s.2.2.2.2.2.2.1 s.2.2.2.2.2.2.2.1 s.2.2.2.2.2.2.2.2 o) (x28,true,x1.g.terms,x1.g.syms,x1.g.prods,x1.none,x1.first,x1.at_,x1.dots) r
def Yxa (x819:Int) (x28:List Int) (x1:Yuc) (x315:Int) (x687:Int) (x814:List Yud) (x845:Bool) (o3:Sum ((List Yud) × Int) (Sum ((List Yud) × Int) (Sum ((List Yud) × Int) ((List Yud) × Yuc)))):Prop :=
 if x845=true then
  ∃ r850:Int,(Zaw x819 r850) ∧
  if bits .and .u64 (ix x28 (w64 ((ix x1.at_ x315) + x687))) r850=0 then
   o3=.inl (x814,w64 (x819 + 1))
  else
   ∃ x862:List Yud,(x862=x814++([(⟨x315,x687,x819⟩:Yud)]:List Yud)) ∧
   (x862.length * 24≤211106232532992) ∧
   o3=.inl (x862,w64 (x819 + 1))
 else
  o3=.inr (.inl (x814,w64 (x687 + 1)))
def Yw0 (x1:Yuc) (x28:List Int) (x315:Int) (x687:Int) (x814:List Yud) (x819:Int) (o3:Sum ((List Yud) × Int) (Sum ((List Yud) × Int) (Sum ((List Yud) × Int) ((List Yud) × Yuc)))):Prop :=
 if x819 < (x1.g.terms.length:Int) then
  Yxa x819 x28 x1 x315 x687 x814 ((ix x28 (w64 ((ix x1.at_ x315) + x687))) != 0) o3
 else
  Yxa x819 x28 x1 x315 x687 x814 false o3
def Ywv (x315:Int) (x1:Yuc) (x28:List Int) (x682:List Yud) (x687:Int) (o2:Sum ((List Yud) × Int) (Sum ((List Yud) × Int) ((List Yud) × Yuc))):Prop :=
 (0≤x315∧x315 < (x1.g.prods.length:Int)) ∧
 if x687≤(((ix x1.g.prods x315).rhs).length:Int) then
  (0≤x315∧x315 < (x1.at_.length:Int)) ∧
  (0≤w64 ((ix x1.at_ x315) + x687)∧w64 ((ix x1.at_ x315) + x687) < (x28.length:Int)) ∧
  Yui (fun (s:(List Yud) × Int) o=>Yw0 x1 x28 x315 x687 s.1 s.2 o) (x682,0) o2
 else
  o2=.inr (.inl (x682,w64 (x315 + 1)))
def Ywt (x1:Yuc) (x28:List Int) (x310:List Yud) (x315:Int) (o1:Sum ((List Yud) × Int) ((List Yud) × Yuc)):Prop :=
 if x315 < (x1.g.prods.length:Int) then
  Yui (fun (s:(List Yud) × Int) o=>Ywv x315 x1 x28 s.1 s.2 o) (x310,0) o1
 else
  o1=.inr ((x310,x1))
def Yyw (x1:Yuc) (x28:List Int) (r:(List Yud) × Yuc):Prop :=
 Yui (fun (s:(List Yud) × Int) o=>Ywt x1 x28 s.1 s.2 o) (([]:List Yud),0) r
def Zac (x1:Yu5) (x14:List Yud) (r:List Yud):Prop :=
 ∃ r24:Bool,(Yz6 x1 r24) ∧
 if r24=true then
  ∃ r33:Yuc,(Yyh x1 r33) ∧
  ∃ r81:(List Int) × Yuc,(Zah r33 x14 r81) ∧
  ∃ r120:(List Int) × Yuc,(Yxq r81.2 r81.1 r120) ∧
  ∃ r159:(List Yud) × Yuc,(Yyw r120.2 r120.1 r159) ∧
  r=r159.1
 else
  r=([]:List Yud)
def Yxe (x163:Int) (x1:Yuc) (x371:Int) (x28:List Int) (x368:List Int) (x370:Bool) (x416:Bool) (o2:Sum ((List Int) × Bool × Int) (Sum ((List Int) × Bool × Int) ((List Int) × Bool × Yuc))):Prop :=
 if x416=true then
  (0≤x163∧x163 < (x1.at_.length:Int)) ∧
  (0≤w64 ((ix x1.at_ x163) + x371)∧w64 ((ix x1.at_ x163) + x371) < (x28.length:Int)) ∧
  (0≤w64 ((w64 ((ix x1.at_ x163) + x371)) + 1)∧w64 ((w64 ((ix x1.at_ x163) + x371)) + 1) < (x368.length:Int)) ∧
  ∃ x424:List Int,(x424=x368.set (w64 ((w64 ((ix x1.at_ x163) + x371)) + 1):Int).toNat (ix x28 (w64 ((ix x1.at_ x163) + x371)))) ∧
  o2=.inl (x424,true,w64 (x371 + 1))
 else
  o2=.inl (x368,x370,w64 (x371 + 1))
def Ywf (x1:Yuc) (x163:Int) (x33:Int) (x28:List Int) (x368:List Int) (x370:Bool) (x371:Int) (o2:Sum ((List Int) × Bool × Int) (Sum ((List Int) × Bool × Int) ((List Int) × Bool × Yuc))):Prop :=
 if x371 < (((ix x1.g.prods x163).rhs).length:Int) then
  (0≤x371∧x371 < (((ix x1.g.prods x163).rhs).length:Int)) ∧
  if (ix ((ix x1.g.prods x163).rhs) x371).sym=x33 then
   (0≤x163∧x163 < (x1.at_.length:Int)) ∧
   (0≤w64 ((ix x1.at_ x163) + x371)∧w64 ((ix x1.at_ x163) + x371) < (x28.length:Int)) ∧
   Yxe x163 x1 x371 x28 x368 x370 ((ix x28 (w64 ((ix x1.at_ x163) + x371))) != 0) o2
  else
   Yxe x163 x1 x371 x28 x368 x370 false o2
 else
  o2=.inr (.inl (x368,x370,w64 (x163 + 1)))
def Ywu (x1:Yuc) (x33:Int) (x28:List Int) (x160:List Int) (x162:Bool) (x163:Int) (o1:Sum ((List Int) × Bool × Int) ((List Int) × Bool × Yuc)):Prop :=
 if x163 < (x1.g.prods.length:Int) then
  (0≤x163∧x163 < (x1.g.prods.length:Int)) ∧
  Yui (fun (s:(List Int) × Bool × Int) o=>Ywf x1 x163 x33 x28 s.1 s.2.1 s.2.2 o) (x160,x162,0) o1
 else
  if x162=true then
   ∃ r446:(List Int) × Yuc,(Yxq x1 x160 r446) ∧
   o1=.inr ((r446.1,true,r446.2))
  else
   o1=.inr ((([]:List Int),false,x1))
def Yzk (x1:Yuc) (x28:List Int) (x33:Int) (r:(List Int) × Bool × Yuc):Prop :=
 (0≤x1.dots∧x1.dots * 8≤281474976710656) ∧
 ∃ x38:List Int,(x38=List.replicate (x1.dots:Int).toNat (0:Int)) ∧
 Yui (fun (s:(List Int) × Bool × Int) o=>Ywu x1 x33 x28 s.1 s.2.1 s.2.2 o) (x38,false,0) r
def Zbo (x1:Yu5) (x14:List Yud) (x19:Int) (r:List Yud):Prop :=
 ∃ r25:Bool,(Yz6 x1 r25) ∧
 if r25=true then
  ∃ r34:Yuc,(Yyh x1 r34) ∧
  ∃ r82:(List Int) × Yuc,(Zah r34 x14 r82) ∧
  ∃ r121:(List Int) × Yuc,(Yxq r82.2 r82.1 r121) ∧
  ∃ r160:(List Int) × Bool × Yuc,(Yzk r121.2 r121.1 x19 r160) ∧
  if r160.2.1=true then
   ∃ r200:(List Yud) × Yuc,(Yyw r160.2.2 r160.1 r200) ∧
   r=r200.1
  else
   r=([]:List Yud)
 else
  r=([]:List Yud)
def Zc7 (x1:Yu5) (x71:Int) (x151:Int) (o2:Sum Int (Sum Int Bool)):Prop :=
 if x151 < (((ix x1.prods x71).rhs).length:Int) then
  (0≤x151∧x151 < (((ix x1.prods x71).rhs).length:Int)) ∧
  if (ix ((ix x1.prods x71).rhs) x151).sym < 1 then
   o2=.inr (.inr (false))
  else
   if (ix ((ix x1.prods x71).rhs) x151).sym≥w64 ((x1.terms.length:Int) + (x1.syms.length:Int)) then
    o2=.inr (.inr (false))
   else
    o2=.inl (w64 (x151 + 1))
 else
  o2=.inr (.inl (w64 (x71 + 1)))
def Yyl (x1:Yu5) (x71:Int) (x141:Bool) (o1:Sum Int Bool):Prop :=
 if x141=true then
  o1=.inr (false)
 else
  Yui (fun (s:Int) o=>Zc7 x1 x71 s o) 0 o1
def Zaa (x1:Yu5) (x71:Int) (o1:Sum Int Bool):Prop :=
 if x71 < (x1.prods.length:Int) then
  (0≤x71∧x71 < (x1.prods.length:Int)) ∧
  if x71 > 0 then
   if (ix x1.prods x71).lhs < 0 then
    Yyl x1 x71 true o1
   else
    Yyl x1 x71 (decide ((ix x1.prods x71).lhs≥(x1.syms.length:Int))) o1
  else
   Yyl x1 x71 false o1
 else
  (0≤(0:Int)∧(0:Int) < (x1.prods.length:Int)) ∧
  if (ix x1.prods 0).lhs = -1 then
   if (((ix x1.prods 0).rhs).length:Int)=1 then
    (0≤(0:Int)∧(0:Int) < (((ix x1.prods 0).rhs).length:Int)) ∧
    o1=.inr ((((ix ((ix x1.prods 0).rhs) 0).sym) == (x1.terms.length:Int)))
   else
    o1=.inr (false)
  else
   o1=.inr (false)
def Zae (x1:Yu5) (x20:Bool) (r:Bool):Prop :=
 if x20=true then
  r=false
 else
  Yui (fun (s:Int) o=>Zaa x1 s o) 0 r
def Zer (x1:Yu5) (r:Bool):Prop :=
 if (x1.terms.length:Int) < 1 then
  Zae x1 true r
 else
  if (x1.terms.length:Int) > 64 then
   Zae x1 true r
  else
   if (x1.syms.length:Int) > 128 then
    Zae x1 true r
   else
    Zae x1 ((x1.prods.length:Int) == 0) r
def Zc0 (x14:List Yut) (x1:Yu5) (x29:Int) (o1:Sum Int Bool):Prop :=
 if x29 < (x14.length:Int) then
  (0≤x29∧x29 < (x14.length:Int)) ∧
  if (ix x14 x29).sym < 0 then
   o1=.inr (false)
  else
   if (ix x14 x29).sym≥w64 ((x1.terms.length:Int) + (x1.syms.length:Int)) then
    o1=.inr (false)
   else
    o1=.inl (w64 (x29 + 1))
 else
  o1=.inr (true)
def Zdx (x1:Yu5) (x14:List Yut) (r:Bool):Prop :=
 Yui (fun (s:Int) o=>Zc0 x14 x1 s o) 0 r
def Zcb (x1:Yu5) (x44:Int) (o1:Sum Int Bool):Prop :=
 if x44 < (x1.prods.length:Int) then
  (0≤x44∧x44 < (x1.prods.length:Int)) ∧
  if (ix x1.prods x44).lhs < -1 then
   o1=.inr (false)
  else
   if (ix x1.prods x44).lhs≥(x1.syms.length:Int) then
    o1=.inr (false)
   else
    ∃ r83:Bool,(Zdx x1 ((ix x1.prods x44).rhs) r83) ∧
    if r83=true then
     o1=.inl (w64 (x44 + 1))
    else
     o1=.inr (false)
 else
  o1=.inr (true)
def Zc5 (x1:Yu5) (x19:Bool) (r:Bool):Prop :=
 if x19=true then
  r=false
 else
  Yui (fun (s:Int) o=>Zcb x1 s o) 0 r
def Zeq (x1:Yu5) (r:Bool):Prop :=
 if (x1.terms.length:Int) < 1 then
  Zc5 x1 true r
 else
  if (x1.terms.length:Int) > 64 then
   Zc5 x1 true r
  else
   Zc5 x1 (decide ((x1.syms.length:Int) > 128)) r
def Za2 (x4:List Yut) (x1:Yu8) (x17:Int) (x18:Int) (o1:Sum (Int × Int) (Int × Bool × Yu8)):Prop :=
 if x18 < (x4.length:Int) then
  (0≤x18∧x18 < (x4.length:Int)) ∧
  (0≤(ix x4 x18).sym∧(ix x4 x18).sym < 192) ∧
  if (x1.vanishes ((ix x4 x18).sym))=true then
   o1=.inl (bits .or .u64 x17 (x1.first ((ix x4 x18).sym)),w64 (x18 + 1))
  else
   o1=.inr ((bits .or .u64 x17 (x1.first ((ix x4 x18).sym)),false,x1))
 else
  o1=.inr ((x17,true,x1))
def Ze2 (x1:Yu8) (x4:List Yut) (r:Int × Bool × Yu8):Prop :=
 Yui (fun (s:Int × Int) o=>Za2 x4 x1 s.1 s.2 o) (0,0) r
def Yyf (x1:Yu5) (x847:Yu8) (x1004:Int) (x1005:Yu8) (o3:Sum (Int × Yu8) (Sum Yu8 (Sum (Int × Yu8) Yu8))):Prop :=
 if x1004 < (x1.prods.length:Int) then
  (0≤x1004∧x1004 < (x1.prods.length:Int)) ∧
  if (ix x1.prods x1004).lhs < 0 then
   o3=.inl (w64 (x1004 + 1),x1005)
  else
   ∃ r1057:Int × Bool × Yu8,(Ze2 x1005 ((ix x1.prods x1004).rhs) r1057) ∧
   (0≤w64 ((x1.terms.length:Int) + ((ix x1.prods x1004).lhs))∧w64 ((x1.terms.length:Int) + ((ix x1.prods x1004).lhs)) < 192) ∧
   ∃ x1063:Yu8,(x1063 = { r1057.2.2 with first:=upd r1057.2.2.first (w64 ((x1.terms.length:Int) + ((ix x1.prods x1004).lhs))) (bits .or .u64 (r1057.2.2.first (w64 ((x1.terms.length:Int) + ((ix x1.prods x1004).lhs)))) r1057.1) }) ∧
   if (x1063.vanishes (w64 ((x1.terms.length:Int) + ((ix x1.prods x1004).lhs))))=true then
    ∃ x1066:Yu8,(x1066 = { x1063 with vanishes:=upd x1063.vanishes (w64 ((x1.terms.length:Int) + ((ix x1.prods x1004).lhs))) true }) ∧
    o3=.inl (w64 (x1004 + 1),x1066)
   else
    ∃ x1068:Yu8,(x1068 = { x1063 with vanishes:=upd x1063.vanishes (w64 ((x1.terms.length:Int) + ((ix x1.prods x1004).lhs))) r1057.2.1 }) ∧
    o3=.inl (w64 (x1004 + 1),x1068)
 else
  if (aeq 192 x1005.first x847.first)=true then
   if (aeq 192 x1005.vanishes x847.vanishes)=true then
    ∃ x1072:Yu8,(x1072=x847) ∧
    o3=.inr (.inr (.inr (x1072)))
   else
    ∃ x1074:Yu8,(x1074=x1005) ∧
    o3=.inr (.inl x1074)
  else
   ∃ x1076:Yu8,(x1076=x1005) ∧
   o3=.inr (.inl x1076)
def Zb6 (x1:Yu5) (x847:Yu8) (o2:Sum Yu8 (Sum (Int × Yu8) Yu8)):Prop :=
 ∃ x965:Yu8,(x965=x847) ∧
 Yui (fun (s:Int × Yu8) o=>Yyf x1 x847 s.1 s.2 o) (0,x965) o2
def Yzf (x1:Yu5) (x372:Int) (x373:Yu8) (o1:Sum (Int × Yu8) Yu8):Prop :=
 if x372 < (x1.terms.length:Int) then
  (0≤x372) ∧
  (0≤x372∧x372 < 192) ∧
  ∃ x729:Yu8,(x729 = { x373 with first:=upd x373.first x372 (Zim .u64 1 x372) }) ∧
  o1=.inl (w64 (x372 + 1),x729)
 else
  Yui (fun (s:Yu8) o=>Zb6 x1 s o) x373 o1
def Zbn (x1:Yu5) (r:Yu8):Prop :=
 Yui (fun (s:Int × Yu8) o=>Yzf x1 s.1 s.2 o) (0,(⟨(fun _=>0),(fun _=>false)⟩:Yu8)) r
def Zdc (x1:Yu5) (r:List Bool):Prop :=
 ∃ r19:Bool,(Zeq x1 r19) ∧
 if r19=true then
  ∃ r28:Yu8,(Zbn x1 r28) ∧
  ∃ x35:Yu8,(x35=r28) ∧
  (0≤w64 ((x1.terms.length:Int) + (x1.syms.length:Int))∧w64 ((x1.terms.length:Int) + (x1.syms.length:Int))≤192) ∧
  ∃ x42:List Bool,(x42=([]:List Bool)++((List.range (w64 ((x1.terms.length:Int) + (x1.syms.length:Int)):Int).toNat).map fun j:Nat=>x35.vanishes (j:Int))) ∧
  (x42.length * 1≤211106232532992) ∧
  r=x42
 else
  r=([]:List Bool)
def Zfp (x1:Yu5) (r:List Int):Prop :=
 ∃ r19:Bool,(Zeq x1 r19) ∧
 if r19=true then
  ∃ r28:Yu8,(Zbn x1 r28) ∧
  ∃ x35:Yu8,(x35=r28) ∧
  (0≤w64 ((x1.terms.length:Int) + (x1.syms.length:Int))∧w64 ((x1.terms.length:Int) + (x1.syms.length:Int))≤192) ∧
  ∃ x42:List Int,(x42=([]:List Int)++((List.range (w64 ((x1.terms.length:Int) + (x1.syms.length:Int)):Int).toNat).map fun j:Nat=>x35.first (j:Int))) ∧
  (x42.length * 8≤211106232532992) ∧
  r=x42
 else
  r=([]:List Int)
def Zau (x1:Yu5) (x959:Int) (x2822:Int) (r45:List Bool) (x960:List Yuu) (x2919:List Yuu) (x2965:List Yuu) (o3:Sum (Int × (List Yuu)) (Sum (Int × (List Yuu)) (Sum (Int × (List Yuu) × (List Int) × (List (List Int))) Yuv))):Prop :=
 (0≤(ix ((ix x1.prods x959).rhs) (w64 (x2822 + 1))).sym∧(ix ((ix x1.prods x959).rhs) (w64 (x2822 + 1))).sym < (r45.length:Int)) ∧
 if (ix r45 ((ix ((ix x1.prods x959).rhs) (w64 (x2822 + 1))).sym))=true then
  ∃ x2970:List Yuu,(x2970=x2965.set (w64 ((x960.length:Int) + x2822):Int).toNat ({ (ix x2965 (w64 ((x960.length:Int) + x2822))) with rest:=bits .or .u64 ((ix x2965 (w64 ((x960.length:Int) + x2822))).rest) ((ix x2919 (w64 ((w64 ((x960.length:Int) + x2822)) + 1))).rest) })) ∧
  o3=.inl (w64 (x2822 - 1),x2970)
 else
  o3=.inl (w64 (x2822 - 1),x2965)
def Yxt (x960:List Yuu) (x1:Yu5) (x959:Int) (r58:List Int) (r45:List Bool) (x2051:List Int) (x2139:List (List Int)) (x2822:Int) (x2823:List Yuu) (o3:Sum (Int × (List Yuu)) (Sum (Int × (List Yuu)) (Sum (Int × (List Yuu) × (List Int) × (List (List Int))) Yuv))):Prop :=
 if x2822≥0 then
  (0≤w64 ((x960.length:Int) + x2822)∧w64 ((x960.length:Int) + x2822) < (x2823.length:Int)) ∧
  (0≤x2822∧x2822 < (((ix x1.prods x959).rhs).length:Int)) ∧
  ∃ x2919:List Yuu,(x2919=x2823.set (w64 ((x960.length:Int) + x2822):Int).toNat ({ (ix x2823 (w64 ((x960.length:Int) + x2822))) with sym:=(ix ((ix x1.prods x959).rhs) x2822).sym })) ∧
  if w64 (x2822 + 1) < (((ix x1.prods x959).rhs).length:Int) then
   (0≤w64 ((w64 ((x960.length:Int) + x2822)) + 1)∧w64 ((w64 ((x960.length:Int) + x2822)) + 1) < (x2919.length:Int)) ∧
   (0≤w64 (x2822 + 1)∧w64 (x2822 + 1) < (((ix x1.prods x959).rhs).length:Int)) ∧
   (0≤(ix ((ix x1.prods x959).rhs) (w64 (x2822 + 1))).sym∧(ix ((ix x1.prods x959).rhs) (w64 (x2822 + 1))).sym < (r58.length:Int)) ∧
   (0≤(ix ((ix x1.prods x959).rhs) (w64 (x2822 + 1))).sym∧(ix ((ix x1.prods x959).rhs) (w64 (x2822 + 1))).sym < (r45.length:Int)) ∧
   if (ix r45 ((ix ((ix x1.prods x959).rhs) (w64 (x2822 + 1))).sym))=true then
    ∃ x2978:List Yuu,(x2978=x2919.set (w64 ((x960.length:Int) + x2822):Int).toNat ({ (ix x2919 (w64 ((x960.length:Int) + x2822))) with rest:=ix r58 ((ix ((ix x1.prods x959).rhs) (w64 (x2822 + 1))).sym) })) ∧
    ∃ x2981:List Yuu,(x2981=x2978.set (w64 ((x960.length:Int) + x2822):Int).toNat ({ (ix x2978 (w64 ((x960.length:Int) + x2822))) with open_:=(ix x2919 (w64 ((w64 ((x960.length:Int) + x2822)) + 1))).open_ })) ∧
    Zau x1 x959 x2822 r45 x960 x2919 x2981 o3
   else
    ∃ x2995:List Yuu,(x2995=x2919.set (w64 ((x960.length:Int) + x2822):Int).toNat ({ (ix x2919 (w64 ((x960.length:Int) + x2822))) with rest:=ix r58 ((ix ((ix x1.prods x959).rhs) (w64 (x2822 + 1))).sym) })) ∧
    ∃ x2998:List Yuu,(x2998=x2995.set (w64 ((x960.length:Int) + x2822):Int).toNat ({ (ix x2995 (w64 ((x960.length:Int) + x2822))) with open_:=false })) ∧
    Zau x1 x959 x2822 r45 x960 x2919 x2998 o3
  else
   o3=.inl (w64 (x2822 - 1),x2919)
 else
  o3=.inr (.inr (.inl (w64 (x959 + 1),x2823,x2051,x2139)))
def Yym (x1:Yu5) (x959:Int) (x960:List Yuu) (r58:List Int) (r45:List Bool) (x2051:List Int) (x2139:List (List Int)) (x2431:Int) (x2432:List Yuu) (o2:Sum (Int × (List Yuu)) (Sum (Int × (List Yuu) × (List Int) × (List (List Int))) Yuv)):Prop :=
 if x2431 < w64 ((((ix x1.prods x959).rhs).length:Int) + 1) then
  ∃ x2728:List Yuu,(x2728=x2432++([(⟨x959,x2431,-1,0,true⟩:Yuu)]:List Yuu)) ∧
  (x2728.length * 40≤211106232532992) ∧
  o2=.inl (w64 (x2431 + 1),x2728)
 else
  Yui (fun (s:Int × (List Yuu)) o=>Yxt x960 x1 x959 r58 r45 x2051 x2139 s.1 s.2 o) (w64 ((((ix x1.prods x959).rhs).length:Int) - 1),x2432) o2
def Yzz (x1:Yu5) (x959:Int) (x960:List Yuu) (r58:List Int) (r45:List Bool) (x2051:List Int) (x2139:List (List Int)) (o1:Sum (Int × (List Yuu) × (List Int) × (List (List Int))) Yuv):Prop :=
 Yui (fun (s:Int × (List Yuu)) o=>Yym x1 x959 x960 r58 r45 x2051 x2139 s.1 s.2 o) (0,x960) o1
def Yyo (x1:Yu5) (r58:List Int) (r45:List Bool) (x959:Int) (x960:List Yuu) (x965:List Int) (x970:List (List Int)) (o1:Sum (Int × (List Yuu) × (List Int) × (List (List Int))) Yuv):Prop :=
 if x959 < (x1.prods.length:Int) then
  (0≤x959∧x959 < (x1.prods.length:Int)) ∧
  ∃ x2051:List Int,(x2051=x965++([(x960.length:Int)]:List Int)) ∧
  (x2051.length * 8≤211106232532992) ∧
  if (ix x1.prods x959).lhs≥0 then
   (0≤(ix x1.prods x959).lhs∧(ix x1.prods x959).lhs < (x970.length:Int)) ∧
   ∃ x3020:List Int,(x3020=(ix x970 ((ix x1.prods x959).lhs))++([(x960.length:Int)]:List Int)) ∧
   (x3020.length * 8≤211106232532992) ∧
   ∃ x3029:List (List Int),(x3029=x970.set ((ix x1.prods x959).lhs:Int).toNat x3020) ∧
   Yzz x1 x959 x960 r58 r45 x2051 x3029 o1
  else
   Yzz x1 x959 x960 r58 r45 x2051 x970 o1
 else
  o1=.inr ((⟨x1,x960,x965,x970⟩:Yuv))
def Zcu (x1:Yu5) (r:Yuv):Prop :=
 (0≤(x1.syms.length:Int)∧(x1.syms.length:Int) * 24≤281474976710656) ∧
 ∃ x21:List (List Int),(x21=List.replicate ((x1.syms.length:Int):Int).toNat ([]:List Int)) ∧
 ∃ r45:List Bool,(Zdc x1 r45) ∧
 ∃ r58:List Int,(Zfp x1 r58) ∧
 Yui (fun (s:Int × (List Yuu) × (List Int) × (List (List Int))) o=>Yyo x1 r58 r45 s.1 s.2.1 s.2.2.1 s.2.2.2 o) (0,([]:List Yuu),([]:List Int),x21) r
def Yxp (x28:List Yud) (x1:Yuv) (x130:List Yus) (x135:Int) (o1:Sum ((List Yus) × Int) ((List Yus) × Yuv)):Prop :=
 if x135 < (x28.length:Int) then
  (0≤x135∧x135 < (x28.length:Int)) ∧
  if (ix x28 x135).prod≥0 then
   if (ix x28 x135).prod < (x1.g.prods.length:Int) then
    if (ix x28 x135).dot≥0 then
     (0≤(ix x28 x135).prod∧(ix x28 x135).prod < (x1.g.prods.length:Int)) ∧
     if (ix x28 x135).dot≤(((ix x1.g.prods ((ix x28 x135).prod)).rhs).length:Int) then
      if (ix x28 x135).look≥0 then
       if (ix x28 x135).look < (x1.g.terms.length:Int) then
        (0≤(ix x28 x135).prod∧(ix x28 x135).prod < (x1.at_.length:Int)) ∧
        (0≤(ix x28 x135).look) ∧
        ∃ x267:List Yus,(x267=x130++([(⟨w64 ((ix x1.at_ ((ix x28 x135).prod)) + ((ix x28 x135).dot)),Zim .u64 1 ((ix x28 x135).look)⟩:Yus)]:List Yus)) ∧
        (x267.length * 16≤211106232532992) ∧
        o1=.inl (x267,w64 (x135 + 1))
       else
        o1=.inl (x130,w64 (x135 + 1))
      else
       o1=.inl (x130,w64 (x135 + 1))
     else
      o1=.inl (x130,w64 (x135 + 1))
    else
     o1=.inl (x130,w64 (x135 + 1))
   else
    o1=.inl (x130,w64 (x135 + 1))
  else
   o1=.inl (x130,w64 (x135 + 1))
 else
  o1=.inr ((x130,x1))
def Zat (x1:Yuv) (x28:List Yud) (r:(List Yus) × Yuv):Prop :=
 Yui (fun (s:(List Yus) × Int) o=>Yxp x28 x1 s.1 s.2 o) (([]:List Yus),0) r
def Yzj (x1:Int) (x2:Int) (x3:List Int) (x12:List Int) (r:(List Int) × (List Int)):Prop :=
 (0≤x1∧x1 < (x3.length:Int)) ∧
 if bits .or .u64 (ix x3 x1) x2=ix x3 x1 then
  r=(x3,x12)
 else
  ∃ x23:List Int,(x23=x3.set (x1:Int).toNat (bits .or .u64 (ix x3 x1) x2)) ∧
  ∃ x32:List Int,(x32=x12++([x1]:List Int)) ∧
  (x32.length * 8≤211106232532992) ∧
  r=(x23,x32)
def Yxf (x1:Yuv) (x619:List Int) (x765:Int) (x814:Int) (x815:List Int) (x820:List Int) (o3:Sum (Int × (List Int) × (List Int)) (Sum ((List Int) × (List Int)) (Sum (Int × (List Int) × (List Int)) ((List Int) × Yuv)))):Prop :=
 if x814 < ((ix x1.of (w64 (((ix x1.spots (ix x619 (w64 ((x619.length:Int) - 1)))).sym) - (x1.g.terms.length:Int)))).length:Int) then
  (0≤x814∧x814 < ((ix x1.of (w64 (((ix x1.spots (ix x619 (w64 ((x619.length:Int) - 1)))).sym) - (x1.g.terms.length:Int)))).length:Int)) ∧
  ∃ r852:(List Int) × (List Int),(Yzj (ix (ix x1.of (w64 (((ix x1.spots (ix x619 (w64 ((x619.length:Int) - 1)))).sym) - (x1.g.terms.length:Int)))) x814) x765 x820 x815 r852) ∧
  o3=.inl (w64 (x814 + 1),r852.2,r852.1)
 else
  o3=.inr (.inl (x815,x820))
def Yxz (x1:Yuv) (x619:List Int) (x753:List Int) (x624:List Int) (x765:Int) (o2:Sum ((List Int) × (List Int)) (Sum (Int × (List Int) × (List Int)) ((List Int) × Yuv))):Prop :=
 (0≤w64 (((ix x1.spots (ix x619 (w64 ((x619.length:Int) - 1)))).sym) - (x1.g.terms.length:Int))∧w64 (((ix x1.spots (ix x619 (w64 ((x619.length:Int) - 1)))).sym) - (x1.g.terms.length:Int)) < (x1.of.length:Int)) ∧
 Yui (fun (s:Int × (List Int) × (List Int)) o=>Yxf x1 x619 x765 s.1 s.2.1 s.2.2 o) (0,x753,x624) o2
def Yx8 (x1:Yuv) (x619:List Int) (x624:List Int) (o2:Sum ((List Int) × (List Int)) (Sum (Int × (List Int) × (List Int)) ((List Int) × Yuv))):Prop :=
 if (x619.length:Int) > 0 then
  (0≤w64 ((x619.length:Int) - 1)∧w64 ((x619.length:Int) - 1) < (x619.length:Int)) ∧
  (0≤(0:Int)∧(0:Int)≤w64 ((x619.length:Int) - 1)∧w64 ((x619.length:Int) - 1)≤(x619.length:Int)) ∧
  ∃ x753:List Int,(x753=x619.take (w64 ((x619.length:Int) - 1):Int).toNat) ∧
  (0≤ix x619 (w64 ((x619.length:Int) - 1))∧ix x619 (w64 ((x619.length:Int) - 1)) < (x1.spots.length:Int)) ∧
  if (ix x1.spots (ix x619 (w64 ((x619.length:Int) - 1)))).sym < (x1.g.terms.length:Int) then
   o2=.inl (x753,x624)
  else
   if ((ix x1.spots (ix x619 (w64 ((x619.length:Int) - 1)))).open_)=true then
    (0≤ix x619 (w64 ((x619.length:Int) - 1))∧ix x619 (w64 ((x619.length:Int) - 1)) < (x624.length:Int)) ∧
    Yxz x1 x619 x753 x624 (bits .or .u64 ((ix x1.spots (ix x619 (w64 ((x619.length:Int) - 1)))).rest) (ix x624 (ix x619 (w64 ((x619.length:Int) - 1))))) o2
   else
    Yxz x1 x619 x753 x624 ((ix x1.spots (ix x619 (w64 ((x619.length:Int) - 1)))).rest) o2
 else
  o2=.inr (.inr ((x624,x1)))
def Yxc (x28:List Yus) (x1:Yuv) (x69:Int) (x70:List Int) (x75:List Int) (o1:Sum (Int × (List Int) × (List Int)) ((List Int) × Yuv)):Prop :=
 if x69 < (x28.length:Int) then
  (0≤x69∧x69 < (x28.length:Int)) ∧
  ∃ r483:(List Int) × (List Int),(Yzj ((ix x28 x69).spot) ((ix x28 x69).looks) x75 x70 r483) ∧
  o1=.inl (w64 (x69 + 1),r483.2,r483.1)
 else
  Yui (fun (s:(List Int) × (List Int)) o=>Yx8 x1 s.1 s.2 o) (x70,x75) o1
def Yy9 (x1:Yuv) (x28:List Yus) (r:(List Int) × Yuv):Prop :=
 (0≤(x1.spots.length:Int)∧(x1.spots.length:Int) * 8≤281474976710656) ∧
 ∃ x37:List Int,(x37=List.replicate ((x1.spots.length:Int):Int).toNat (0:Int)) ∧
 Yui (fun (s:Int × (List Int) × (List Int)) o=>Yxc x28 x1 s.1 s.2.1 s.2.2 o) (0,([]:List Int),x37) r
def Yzy (x1:Int) (r:Int):Prop :=
 r=bits .and .i64 (w64 (IntKind.u64.wrap ((IntKind.u64.wrap ((IntKind.u64.wrap ((bits .and .u64 (IntKind.u64.wrap ((Yvd .u64 (IntKind.u64.wrap ((bits .and .u64 (Yvd .u64 (IntKind.u64.wrap ((bits .and .u64 (Yvd .u64 x1 1) 6148914691236517205) + (bits .and .u64 x1 6148914691236517205))) 2) 3689348814741910323) + (bits .and .u64 (IntKind.u64.wrap ((bits .and .u64 (Yvd .u64 x1 1) 6148914691236517205) + (bits .and .u64 x1 6148914691236517205))) 3689348814741910323))) 4) + (IntKind.u64.wrap ((bits .and .u64 (Yvd .u64 (IntKind.u64.wrap ((bits .and .u64 (Yvd .u64 x1 1) 6148914691236517205) + (bits .and .u64 x1 6148914691236517205))) 2) 3689348814741910323) + (bits .and .u64 (IntKind.u64.wrap ((bits .and .u64 (Yvd .u64 x1 1) 6148914691236517205) + (bits .and .u64 x1 6148914691236517205))) 3689348814741910323))))) 1085102592571150095) + (Yvd .u64 (bits .and .u64 (IntKind.u64.wrap ((Yvd .u64 (IntKind.u64.wrap ((bits .and .u64 (Yvd .u64 (IntKind.u64.wrap ((bits .and .u64 (Yvd .u64 x1 1) 6148914691236517205) + (bits .and .u64 x1 6148914691236517205))) 2) 3689348814741910323) + (bits .and .u64 (IntKind.u64.wrap ((bits .and .u64 (Yvd .u64 x1 1) 6148914691236517205) + (bits .and .u64 x1 6148914691236517205))) 3689348814741910323))) 4) + (IntKind.u64.wrap ((bits .and .u64 (Yvd .u64 (IntKind.u64.wrap ((bits .and .u64 (Yvd .u64 x1 1) 6148914691236517205) + (bits .and .u64 x1 6148914691236517205))) 2) 3689348814741910323) + (bits .and .u64 (IntKind.u64.wrap ((bits .and .u64 (Yvd .u64 x1 1) 6148914691236517205) + (bits .and .u64 x1 6148914691236517205))) 3689348814741910323))))) 1085102592571150095) 8))) + (Yvd .u64 (IntKind.u64.wrap ((bits .and .u64 (IntKind.u64.wrap ((Yvd .u64 (IntKind.u64.wrap ((bits .and .u64 (Yvd .u64 (IntKind.u64.wrap ((bits .and .u64 (Yvd .u64 x1 1) 6148914691236517205) + (bits .and .u64 x1 6148914691236517205))) 2) 3689348814741910323) + (bits .and .u64 (IntKind.u64.wrap ((bits .and .u64 (Yvd .u64 x1 1) 6148914691236517205) + (bits .and .u64 x1 6148914691236517205))) 3689348814741910323))) 4) + (IntKind.u64.wrap ((bits .and .u64 (Yvd .u64 (IntKind.u64.wrap ((bits .and .u64 (Yvd .u64 x1 1) 6148914691236517205) + (bits .and .u64 x1 6148914691236517205))) 2) 3689348814741910323) + (bits .and .u64 (IntKind.u64.wrap ((bits .and .u64 (Yvd .u64 x1 1) 6148914691236517205) + (bits .and .u64 x1 6148914691236517205))) 3689348814741910323))))) 1085102592571150095) + (Yvd .u64 (bits .and .u64 (IntKind.u64.wrap ((Yvd .u64 (IntKind.u64.wrap ((bits .and .u64 (Yvd .u64 (IntKind.u64.wrap ((bits .and .u64 (Yvd .u64 x1 1) 6148914691236517205) + (bits .and .u64 x1 6148914691236517205))) 2) 3689348814741910323) + (bits .and .u64 (IntKind.u64.wrap ((bits .and .u64 (Yvd .u64 x1 1) 6148914691236517205) + (bits .and .u64 x1 6148914691236517205))) 3689348814741910323))) 4) + (IntKind.u64.wrap ((bits .and .u64 (Yvd .u64 (IntKind.u64.wrap ((bits .and .u64 (Yvd .u64 x1 1) 6148914691236517205) + (bits .and .u64 x1 6148914691236517205))) 2) 3689348814741910323) + (bits .and .u64 (IntKind.u64.wrap ((bits .and .u64 (Yvd .u64 x1 1) 6148914691236517205) + (bits .and .u64 x1 6148914691236517205))) 3689348814741910323))))) 1085102592571150095) 8))) 16))) + (Yvd .u64 (IntKind.u64.wrap ((IntKind.u64.wrap ((bits .and .u64 (IntKind.u64.wrap ((Yvd .u64 (IntKind.u64.wrap ((bits .and .u64 (Yvd .u64 (IntKind.u64.wrap ((bits .and .u64 (Yvd .u64 x1 1) 6148914691236517205) + (bits .and .u64 x1 6148914691236517205))) 2) 3689348814741910323) + (bits .and .u64 (IntKind.u64.wrap ((bits .and .u64 (Yvd .u64 x1 1) 6148914691236517205) + (bits .and .u64 x1 6148914691236517205))) 3689348814741910323))) 4) + (IntKind.u64.wrap ((bits .and .u64 (Yvd .u64 (IntKind.u64.wrap ((bits .and .u64 (Yvd .u64 x1 1) 6148914691236517205) + (bits .and .u64 x1 6148914691236517205))) 2) 3689348814741910323) + (bits .and .u64 (IntKind.u64.wrap ((bits .and .u64 (Yvd .u64 x1 1) 6148914691236517205) + (bits .and .u64 x1 6148914691236517205))) 3689348814741910323))))) 1085102592571150095) + (Yvd .u64 (bits .and .u64 (IntKind.u64.wrap ((Yvd .u64 (IntKind.u64.wrap ((bits .and .u64 (Yvd .u64 (IntKind.u64.wrap ((bits .and .u64 (Yvd .u64 x1 1) 6148914691236517205) + (bits .and .u64 x1 6148914691236517205))) 2) 3689348814741910323) + (bits .and .u64 (IntKind.u64.wrap ((bits .and .u64 (Yvd .u64 x1 1) 6148914691236517205) + (bits .and .u64 x1 6148914691236517205))) 3689348814741910323))) 4) + (IntKind.u64.wrap ((bits .and .u64 (Yvd .u64 (IntKind.u64.wrap ((bits .and .u64 (Yvd .u64 x1 1) 6148914691236517205) + (bits .and .u64 x1 6148914691236517205))) 2) 3689348814741910323) + (bits .and .u64 (IntKind.u64.wrap ((bits .and .u64 (Yvd .u64 x1 1) 6148914691236517205) + (bits .and .u64 x1 6148914691236517205))) 3689348814741910323))))) 1085102592571150095) 8))) + (Yvd .u64 (IntKind.u64.wrap ((bits .and .u64 (IntKind.u64.wrap ((Yvd .u64 (IntKind.u64.wrap ((bits .and .u64 (Yvd .u64 (IntKind.u64.wrap ((bits .and .u64 (Yvd .u64 x1 1) 6148914691236517205) + (bits .and .u64 x1 6148914691236517205))) 2) 3689348814741910323) + (bits .and .u64 (IntKind.u64.wrap ((bits .and .u64 (Yvd .u64 x1 1) 6148914691236517205) + (bits .and .u64 x1 6148914691236517205))) 3689348814741910323))) 4) + (IntKind.u64.wrap ((bits .and .u64 (Yvd .u64 (IntKind.u64.wrap ((bits .and .u64 (Yvd .u64 x1 1) 6148914691236517205) + (bits .and .u64 x1 6148914691236517205))) 2) 3689348814741910323) + (bits .and .u64 (IntKind.u64.wrap ((bits .and .u64 (Yvd .u64 x1 1) 6148914691236517205) + (bits .and .u64 x1 6148914691236517205))) 3689348814741910323))))) 1085102592571150095) + (Yvd .u64 (bits .and .u64 (IntKind.u64.wrap ((Yvd .u64 (IntKind.u64.wrap ((bits .and .u64 (Yvd .u64 (IntKind.u64.wrap ((bits .and .u64 (Yvd .u64 x1 1) 6148914691236517205) + (bits .and .u64 x1 6148914691236517205))) 2) 3689348814741910323) + (bits .and .u64 (IntKind.u64.wrap ((bits .and .u64 (Yvd .u64 x1 1) 6148914691236517205) + (bits .and .u64 x1 6148914691236517205))) 3689348814741910323))) 4) + (IntKind.u64.wrap ((bits .and .u64 (Yvd .u64 (IntKind.u64.wrap ((bits .and .u64 (Yvd .u64 x1 1) 6148914691236517205) + (bits .and .u64 x1 6148914691236517205))) 2) 3689348814741910323) + (bits .and .u64 (IntKind.u64.wrap ((bits .and .u64 (Yvd .u64 x1 1) 6148914691236517205) + (bits .and .u64 x1 6148914691236517205))) 3689348814741910323))))) 1085102592571150095) 8))) 16))) 32)))) 127
def Yy1 (x1:Int) (r:Int):Prop :=
 if x1=0 then
  r=64
 else
  (0≤Yvd .u64 (IntKind.u64.wrap ((bits .and .u64 x1 (IntKind.u64.wrap (0 - x1))) * 285870213051353865)) 58∧Yvd .u64 (IntKind.u64.wrap ((bits .and .u64 x1 (IntKind.u64.wrap (0 - x1))) * 285870213051353865)) 58 < 64) ∧
  r=w64 (ix Zmo (Yvd .u64 (IntKind.u64.wrap ((bits .and .u64 x1 (IntKind.u64.wrap (0 - x1))) * 285870213051353865)) 58))
def Yy3 (x893:Int) (x1:Yuv) (x1160:List Yud) (x1165:Int) (o3:Sum ((List Yud) × Int) (Sum ((List Yud) × Int) (Sum (Int × Int) ((List Yud) × Yuv)))):Prop :=
 if x1165=0 then
  o3=.inr (.inl (x1160,w64 (x893 + 1)))
 else
  (0≤x893∧x893 < (x1.spots.length:Int)) ∧
  ∃ r1236:Int,(Yy1 x1165 r1236) ∧
  ∃ x1247:List Yud,(x1247=x1160++([(⟨(ix x1.spots x893).prod,(ix x1.spots x893).dot,r1236⟩:Yud)]:List Yud)) ∧
  (x1247.length * 24≤211106232532992) ∧
  o3=.inl (x1247,bits .and .u64 x1165 (IntKind.u64.wrap (x1165 - 1)))
def Yxj (x28:List Int) (x1:Yuv) (x888:List Yud) (x893:Int) (o2:Sum ((List Yud) × Int) (Sum (Int × Int) ((List Yud) × Yuv))):Prop :=
 if x893 < (x28.length:Int) then
  (0≤x893∧x893 < (x28.length:Int)) ∧
  Yui (fun (s:(List Yud) × Int) o=>Yy3 x893 x1 s.1 s.2 o) (x888,ix x28 x893) o2
 else
  o2=.inr (.inr ((x888,x1)))
def Yyi (x28:List Int) (x1:Yuv) (x52:Int) (x53:Int) (o1:Sum (Int × Int) ((List Yud) × Yuv)):Prop :=
 if x53 < (x28.length:Int) then
  (0≤x53∧x53 < (x28.length:Int)) ∧
  ∃ r679:Int,(Yzy (ix x28 x53) r679) ∧
  o1=.inl (w64 (x52 + r679),w64 (x53 + 1))
 else
  (0≤x52∧x52 * 24≤281474976710656) ∧
  Yui (fun (s:(List Yud) × Int) o=>Yxj x28 x1 s.1 s.2 o) (([]:List Yud),0) o1
def Zbf (x1:Yuv) (x28:List Int) (r:(List Yud) × Yuv):Prop :=
 Yui (fun (s:Int × Int) o=>Yyi x28 x1 s.1 s.2 o) (0,0) r
def Ze0 (x1:Yu5) (x14:List Yud) (r:List Yud):Prop :=
 ∃ r24:Bool,(Zer x1 r24) ∧
 if r24=true then
  ∃ r33:Yuv,(Zcu x1 r33) ∧
  ∃ r83:(List Yus) × Yuv,(Zat r33 x14 r83) ∧
  ∃ r122:(List Int) × Yuv,(Yy9 r83.2 r83.1 r122) ∧
  ∃ r161:(List Yud) × Yuv,(Zbf r122.2 r122.1 r161) ∧
  r=r161.1
 else
  r=([]:List Yud)
def Yxo (x28:List Int) (x1:Yuv) (x93:List (List Yus)) (x100:Int) (o1:Sum ((List (List Yus)) × Int) ((List (List Yus)) × Yuv)):Prop :=
 if x100 < (x28.length:Int) then
  (0≤x100∧x100 < (x28.length:Int)) ∧
  (0≤x100∧x100 < (x1.spots.length:Int)) ∧
  if ix x28 x100=0 then
   o1=.inl (x93,w64 (x100 + 1))
  else
   if (ix x1.spots x100).sym≥0 then
    (0≤(ix x1.spots x100).sym∧(ix x1.spots x100).sym < (x93.length:Int)) ∧
    ∃ x162:List Yus,(x162=(ix x93 ((ix x1.spots x100).sym))++([(⟨w64 (x100 + 1),ix x28 x100⟩:Yus)]:List Yus)) ∧
    (x162.length * 16≤211106232532992) ∧
    ∃ x171:List (List Yus),(x171=x93.set ((ix x1.spots x100).sym:Int).toNat x162) ∧
    o1=.inl (x171,w64 (x100 + 1))
   else
    o1=.inl (x93,w64 (x100 + 1))
 else
  o1=.inr ((x93,x1))
def Zc8 (x1:Yuv) (x28:List Int) (r:(List (List Yus)) × Yuv):Prop :=
 (0≤w64 ((x1.g.terms.length:Int) + (x1.g.syms.length:Int))∧w64 ((x1.g.terms.length:Int) + (x1.g.syms.length:Int)) * 24≤281474976710656) ∧
 ∃ x38:List (List Yus),(x38=List.replicate (w64 ((x1.g.terms.length:Int) + (x1.g.syms.length:Int)):Int).toNat ([]:List Yus)) ∧
 Yui (fun (s:(List (List Yus)) × Int) o=>Yxo x28 x1 s.1 s.2 o) (x38,0) r
def Za7 (x1:Yu5) (x14:List Yud) (x19:Int) (x33:Bool) (r:List Yud):Prop :=
 if x33=true then
  r=([]:List Yud)
 else
  ∃ r38:Yuv,(Zcu x1 r38) ∧
  ∃ r87:(List Yus) × Yuv,(Zat r38 x14 r87) ∧
  ∃ r126:(List Int) × Yuv,(Yy9 r87.2 r87.1 r126) ∧
  ∃ r165:(List (List Yus)) × Yuv,(Zc8 r126.2 r126.1 r165) ∧
  (0≤x19∧x19 < (r165.1.length:Int)) ∧
  ∃ r215:(List Int) × Yuv,(Yy9 r165.2 (ix r165.1 x19) r215) ∧
  ∃ r254:(List Yud) × Yuv,(Zbf r215.2 r215.1 r254) ∧
  r=r254.1
def Zgf (x1:Yu5) (x14:List Yud) (x19:Int) (r:List Yud):Prop :=
 ∃ r293:Bool,(Zer x1 r293) ∧
 if r293=true then
  if x19 < 0 then
   Za7 x1 x14 x19 true r
  else
   Za7 x1 x14 x19 (decide (x19≥w64 ((x1.terms.length:Int) + (x1.syms.length:Int)))) r
 else
  Za7 x1 x14 x19 true r
def Zad (x1:List Yud) (x6:List Yud) (x23:Int) (o1:Sum Int Bool):Prop :=
 if x23 < (x1.length:Int) then
  (0≤x23∧x23 < (x1.length:Int)) ∧
  (0≤x23∧x23 < (x6.length:Int)) ∧
  if ix x1 x23=ix x6 x23 then
   o1=.inl (w64 (x23 + 1))
  else
   o1=.inr (false)
 else
  o1=.inr (true)
def Yzd (x1:List Yud) (x6:List Yud) (r:Bool):Prop :=
 if (x1.length:Int)=(x6.length:Int) then
  Yui (fun (s:Int) o=>Zad x1 x6 s o) 0 r
 else
  r=false
def Yzv (x10656:Int) (x1:Yu5) (x14:Yu5) (x11257:Int) (o4:Sum Int (Sum Int (Sum Int (Sum Int Bool)))):Prop :=
 (0≤x10656∧x10656 < (x1.prods.length:Int)) ∧
 if x11257 < (((ix x1.prods x10656).rhs).length:Int) then
  (0≤x11257∧x11257 < (((ix x1.prods x10656).rhs).length:Int)) ∧
  (0≤x10656∧x10656 < (x14.prods.length:Int)) ∧
  (0≤x11257∧x11257 < (((ix x14.prods x10656).rhs).length:Int)) ∧
  if ix ((ix x1.prods x10656).rhs) x11257=ix ((ix x14.prods x10656).rhs) x11257 then
   o4=.inl (w64 (x11257 + 1))
  else
   o4=.inr (.inr (.inr (.inr (false))))
 else
  o4=.inr (.inl (w64 (x10656 + 1)))
def Yzs (x10656:Int) (x1:Yu5) (x14:Yu5) (x11193:Bool) (o3:Sum Int (Sum Int (Sum Int Bool))):Prop :=
 if x11193=true then
  o3=.inr (.inr (.inr (false)))
 else
  Yui (fun (s:Int) o=>Yzv x10656 x1 x14 s o) 0 o3
def Yzx (x1:Yu5) (x14:Yu5) (x10656:Int) (o3:Sum Int (Sum Int (Sum Int Bool))):Prop :=
 if x10656 < (x1.prods.length:Int) then
  (0≤x10656∧x10656 < (x1.prods.length:Int)) ∧
  (0≤x10656∧x10656 < (x14.prods.length:Int)) ∧
  if (ix x1.prods x10656).lhs=(ix x14.prods x10656).lhs then
   Yzs x10656 x1 x14 ((((ix x1.prods x10656).rhs).length:Int) != (((ix x14.prods x10656).rhs).length:Int)) o3
  else
   Yzs x10656 x1 x14 true o3
 else
  o3=.inr (.inr (.inr (true)))
def Yzp (x1:Yu5) (x14:Yu5) (x8956:Int) (o2:Sum Int (Sum Int Bool)):Prop :=
 if x8956 < (x1.syms.length:Int) then
  (0≤x8956∧x8956 < (x1.syms.length:Int)) ∧
  (0≤x8956∧x8956 < (x14.syms.length:Int)) ∧
  if ix x1.syms x8956=ix x14.syms x8956 then
   o2=.inl (w64 (x8956 + 1))
  else
   o2=.inr (.inr (false))
 else
  Yui (fun (s:Int) o=>Yzx x1 x14 s o) 0 o2
def Yzu (x1:Yu5) (x14:Yu5) (x3856:Int) (o1:Sum Int Bool):Prop :=
 if x3856 < (x1.terms.length:Int) then
  (0≤x3856∧x3856 < (x1.terms.length:Int)) ∧
  (0≤x3856∧x3856 < (x14.terms.length:Int)) ∧
  if ix x1.terms x3856=ix x14.terms x3856 then
   o1=.inl (w64 (x3856 + 1))
  else
   o1=.inr (false)
 else
  Yui (fun (s:Int) o=>Yzp x1 x14 s o) 0 o1
def Yz0 (x1:Yu5) (x14:Yu5) (x34:Bool) (r:Bool):Prop :=
 if x34=true then
  r=false
 else
  Yui (fun (s:Int) o=>Yzu x1 x14 s o) 0 r
def Zay (x1:Yu5) (x14:Yu5) (r:Bool):Prop :=
 if (x1.terms.length:Int)=(x14.terms.length:Int) then
  if (x1.syms.length:Int)=(x14.syms.length:Int) then
   Yz0 x1 x14 ((x1.prods.length:Int) != (x14.prods.length:Int)) r
  else
   Yz0 x1 x14 true r
 else
  Yz0 x1 x14 true r
def Yzq (x20:List (Yuf × Nat)) (k21:Nat) (x1:Yu5) (k6:Nat) (k13:Nat) (x130:Int) (o1:Sum Int Bool):Prop :=
 if x130 < ((x20.take k21).length:Int) then
  (0≤x130∧x130 < ((x20.take k21).length:Int)) ∧
  (0≤w64 ((((((ix (x20.take k21) x130).1).rhs).take ((ix (x20.take k21) x130).2)).length:Int) + 2)∧w64 ((((((ix (x20.take k21) x130).1).rhs).take ((ix (x20.take k21) x130).2)).length:Int) + 2)≤((((ix (x20.take k21) x130).1).rhs).length:Int)) ∧
  (0≤w64 ((((((ix (x20.take k21) x130).1).rhs).take ((w64 ((((((ix (x20.take k21) x130).1).rhs).take ((ix (x20.take k21) x130).2)).length:Int) + 2):Int).toNat)).length:Int) - 2)∧w64 ((((((ix (x20.take k21) x130).1).rhs).take ((w64 ((((((ix (x20.take k21) x130).1).rhs).take ((ix (x20.take k21) x130).2)).length:Int) + 2):Int).toNat)).length:Int) - 2) < (((((ix (x20.take k21) x130).1).rhs).take ((w64 ((((((ix (x20.take k21) x130).1).rhs).take ((ix (x20.take k21) x130).2)).length:Int) + 2):Int).toNat)).length:Int)) ∧
  if (ix ((((ix (x20.take k21) x130).1).rhs).take ((w64 ((((((ix (x20.take k21) x130).1).rhs).take ((ix (x20.take k21) x130).2)).length:Int) + 2):Int).toNat)) (w64 ((((((ix (x20.take k21) x130).1).rhs).take ((w64 ((((((ix (x20.take k21) x130).1).rhs).take ((ix (x20.take k21) x130).2)).length:Int) + 2):Int).toNat)).length:Int) - 2))).sym = -73 then
   (0≤w64 ((((((ix (x20.take k21) x130).1).rhs).take ((w64 ((((((ix (x20.take k21) x130).1).rhs).take ((ix (x20.take k21) x130).2)).length:Int) + 2):Int).toNat)).length:Int) - 1)∧w64 ((((((ix (x20.take k21) x130).1).rhs).take ((w64 ((((((ix (x20.take k21) x130).1).rhs).take ((ix (x20.take k21) x130).2)).length:Int) + 2):Int).toNat)).length:Int) - 1) < (((((ix (x20.take k21) x130).1).rhs).take ((w64 ((((((ix (x20.take k21) x130).1).rhs).take ((ix (x20.take k21) x130).2)).length:Int) + 2):Int).toNat)).length:Int)) ∧
   if (ix ((((ix (x20.take k21) x130).1).rhs).take ((w64 ((((((ix (x20.take k21) x130).1).rhs).take ((ix (x20.take k21) x130).2)).length:Int) + 2):Int).toNat)) (w64 ((((((ix (x20.take k21) x130).1).rhs).take ((w64 ((((((ix (x20.take k21) x130).1).rhs).take ((ix (x20.take k21) x130).2)).length:Int) + 2):Int).toNat)).length:Int) - 1))).sym = -74 then
    o1=.inl (w64 (x130 + 1))
   else
    o1=.inr (false)
  else
   o1=.inr (false)
 else
  (0≤w64 (((x1.terms.take ((w64 (((x1.terms.take k6).length:Int) + 2):Int).toNat)).length:Int) - 2)∧w64 (((x1.terms.take ((w64 (((x1.terms.take k6).length:Int) + 2):Int).toNat)).length:Int) - 2) < ((x1.terms.take ((w64 (((x1.terms.take k6).length:Int) + 2):Int).toNat)).length:Int)) ∧
  if (ix (x1.terms.take ((w64 (((x1.terms.take k6).length:Int) + 2):Int).toNat)) (w64 (((x1.terms.take ((w64 (((x1.terms.take k6).length:Int) + 2):Int).toNat)).length:Int) - 2))).name=(⟨#[109,97,114,107]⟩:ByteArray) then
   (0≤w64 (((x1.terms.take ((w64 (((x1.terms.take k6).length:Int) + 2):Int).toNat)).length:Int) - 1)∧w64 (((x1.terms.take ((w64 (((x1.terms.take k6).length:Int) + 2):Int).toNat)).length:Int) - 1) < ((x1.terms.take ((w64 (((x1.terms.take k6).length:Int) + 2):Int).toNat)).length:Int)) ∧
   if (ix (x1.terms.take ((w64 (((x1.terms.take k6).length:Int) + 2):Int).toNat)) (w64 (((x1.terms.take ((w64 (((x1.terms.take k6).length:Int) + 2):Int).toNat)).length:Int) - 1))).name=(⟨#[109,97,114,107]⟩:ByteArray) then
    (0≤w64 (((x1.syms.take ((w64 (((x1.syms.take k13).length:Int) + 2):Int).toNat)).length:Int) - 2)∧w64 (((x1.syms.take ((w64 (((x1.syms.take k13).length:Int) + 2):Int).toNat)).length:Int) - 2) < ((x1.syms.take ((w64 (((x1.syms.take k13).length:Int) + 2):Int).toNat)).length:Int)) ∧
    if (ix (x1.syms.take ((w64 (((x1.syms.take k13).length:Int) + 2):Int).toNat)) (w64 (((x1.syms.take ((w64 (((x1.syms.take k13).length:Int) + 2):Int).toNat)).length:Int) - 2))).name=(⟨#[109,97,114,107]⟩:ByteArray) then
     (0≤w64 (((x1.syms.take ((w64 (((x1.syms.take k13).length:Int) + 2):Int).toNat)).length:Int) - 1)∧w64 (((x1.syms.take ((w64 (((x1.syms.take k13).length:Int) + 2):Int).toNat)).length:Int) - 1) < ((x1.syms.take ((w64 (((x1.syms.take k13).length:Int) + 2):Int).toNat)).length:Int)) ∧
     if (ix (x1.syms.take ((w64 (((x1.syms.take k13).length:Int) + 2):Int).toNat)) (w64 (((x1.syms.take ((w64 (((x1.syms.take k13).length:Int) + 2):Int).toNat)).length:Int) - 1))).name=(⟨#[109,97,114,107]⟩:ByteArray) then
      (0≤w64 (((x20.take ((w64 (((x20.take k21).length:Int) + 2):Int).toNat)).length:Int) - 2)∧w64 (((x20.take ((w64 (((x20.take k21).length:Int) + 2):Int).toNat)).length:Int) - 2) < ((x20.take ((w64 (((x20.take k21).length:Int) + 2):Int).toNat)).length:Int)) ∧
      if ((ix (x20.take ((w64 (((x20.take k21).length:Int) + 2):Int).toNat)) (w64 (((x20.take ((w64 (((x20.take k21).length:Int) + 2):Int).toNat)).length:Int) - 2))).1).lhs = -71 then
       (0≤w64 (((x20.take ((w64 (((x20.take k21).length:Int) + 2):Int).toNat)).length:Int) - 1)∧w64 (((x20.take ((w64 (((x20.take k21).length:Int) + 2):Int).toNat)).length:Int) - 1) < ((x20.take ((w64 (((x20.take k21).length:Int) + 2):Int).toNat)).length:Int)) ∧
       o1=.inr (((((ix (x20.take ((w64 (((x20.take k21).length:Int) + 2):Int).toNat)) (w64 (((x20.take ((w64 (((x20.take k21).length:Int) + 2):Int).toNat)).length:Int) - 1))).1).lhs) == (-72)))
      else
       o1=.inr (false)
     else
      o1=.inr (false)
    else
     o1=.inr (false)
   else
    o1=.inr (false)
  else
   o1=.inr (false)
def Zb5 (x1:Yu5) (k6:Nat) (k13:Nat) (x20:List (Yuf × Nat)) (k21:Nat) (r:Bool):Prop :=
 (0≤w64 (((x1.terms.take k6).length:Int) + 2)∧w64 (((x1.terms.take k6).length:Int) + 2)≤(x1.terms.length:Int)) ∧
 (0≤w64 (((x1.syms.take k13).length:Int) + 2)∧w64 (((x1.syms.take k13).length:Int) + 2)≤(x1.syms.length:Int)) ∧
 (0≤w64 (((x20.take k21).length:Int) + 2)∧w64 (((x20.take k21).length:Int) + 2)≤(x20.length:Int)) ∧
 Yui (fun (s:Int) o=>Yzq x20 k21 x1 k6 k13 s o) 0 r
def Yyv (x1:Yu5) (k6:Nat) (k13:Nat) (x20:List (Yuf × Nat)) (k21:Nat) (x24:List Yud) (k29:Nat) (x32:Yu5) (x45:List Yud) (x50:Int) (r:Bool):Prop :=
 ∃ r58:List Yud,(Zac x32 x45 r58) ∧
 ∃ r71:List Yud,(Zbo x32 x45 x50 r71) ∧
 ∃ r84:List Yud,(Ze0 (⟨(x1.terms.take k6),(x1.syms.take k13),((x20.take k21).map Zbe)⟩:Yu5) (x24.take k29) r84) ∧
 ∃ r97:List Yud,(Zgf (⟨(x1.terms.take k6),(x1.syms.take k13),((x20.take k21).map Zbe)⟩:Yu5) (x24.take k29) x50 r97) ∧
 ∃ r110:Bool,(Yzd r84 r58 r110) ∧
 ∃ r118:Bool,(Yzd r97 r71 r118) ∧
 ∃ r126:Bool,(Zay x32 (⟨(x1.terms.take k6),(x1.syms.take k13),((x20.take k21).map Zbe)⟩:Yu5) r126) ∧
 ∃ r134:Bool,(Yzd (x24.take k29) x45 r134) ∧
 (0≤w64 ((x45.length:Int) + 2)∧w64 ((x45.length:Int) + 2)≤(x24.length:Int)) ∧
 if r110=true then
  if r118=true then
   if r126=true then
    if r134=true then
     ∃ r149:Bool,(Zb5 (⟨x1.terms,x1.syms,[]⟩:Yu5) k6 k13 x20 k21 r149) ∧
     if r149=true then
      (0≤(x45.length:Int)∧(x45.length:Int) < ((x24.take ((w64 ((x45.length:Int) + 2):Int).toNat)).length:Int)) ∧
      if (ix (x24.take ((w64 ((x45.length:Int) + 2):Int).toNat)) (x45.length:Int)).dot = -71 then
       (0≤w64 ((x45.length:Int) + 1)∧w64 ((x45.length:Int) + 1) < ((x24.take ((w64 ((x45.length:Int) + 2):Int).toNat)).length:Int)) ∧
       r=(((ix (x24.take ((w64 ((x45.length:Int) + 2):Int).toNat)) (w64 ((x45.length:Int) + 1))).dot) == (-72))
      else
       r=false
     else
      r=false
    else
     r=false
   else
    r=false
  else
   r=false
 else
  r=false
def Ywh (x115:Int) (x215:List Yut) (x237:List (Yuf × Nat)) (x248:Int) (o2:Sum ((List (Yuf × Nat)) × Int) (Sum (Int × (List (Yuf × Nat))) (List (Yuf × Nat)))):Prop :=
 if x248 < (((((ix x237 x115).1).rhs).take ((ix x237 x115).2)).length:Int) then
  (0≤w64 ((w64 ((x215.length:Int) - 1)) - x248)∧w64 ((w64 ((x215.length:Int) - 1)) - x248) < (x215.length:Int)) ∧
  (0≤x248∧x248 < (((((ix x237 x115).1).rhs).take ((ix x237 x115).2)).length:Int)) ∧
  ∃ x270:List Yut,(x270=(((ix x237 x115).1).rhs).set (x248:Int).toNat (ix x215 (w64 ((w64 ((x215.length:Int) - 1)) - x248)))) ∧
  ∃ x272:List (Yuf × Nat),(x272=x237.set (x115:Int).toNat ({ ((ix x237 x115).1) with rhs:=x270 },(ix x237 x115).2)) ∧
  o2=.inl (x272,w64 (x248 + 1))
 else
  o2=.inr (.inl (w64 (x115 + 1),x237))
def Ywd (k27:Nat) (x115:Int) (x116:List (Yuf × Nat)) (o1:Sum (Int × (List (Yuf × Nat))) (List (Yuf × Nat))):Prop :=
 if x115 < ((x116.take k27).length:Int) then
  (0≤x115∧x115 < ((x116.take k27).length:Int)) ∧
  ∃ x215:List Yut,(x215=([]:List Yut)++((((ix x116 x115).1).rhs).take ((ix x116 x115).2))) ∧
  (x215.length * 40≤211106232532992) ∧
  Yui (fun (s:(List (Yuf × Nat)) × Int) o=>Ywh x115 x215 s.1 s.2 o) (x116,0) o1
 else
  o1=.inr (x116)
def Yzr (x1:Yu5) (k6:Nat) (k13:Nat) (x20:List (Yuf × Nat)) (k27:Nat) (r:List (Yuf × Nat)):Prop :=
 Yui (fun (s:Int × (List (Yuf × Nat))) o=>Ywd k27 s.1 s.2 o) (1,x20) r
def Yz3 (x1:Yu5) (x14:List Yud) (x19:Int) (r:Bool):Prop :=
 ∃ r25:Yu5 × Nat × Nat × Nat × (List (Yuf × Nat)),(Zb2 x1 r25) ∧
 ∃ r56:List Yud,(Zbv x14 r56) ∧
 ∃ x72:List Yud,(x72=r56++([(⟨0,-71,0⟩:Yud),(⟨0,-72,0⟩:Yud)]:List Yud)) ∧
 (x72.length * 24≤211106232532992) ∧
 (0≤(0:Int)∧(0:Int)≤(x14.length:Int)∧(x14.length:Int)≤(x72.length:Int)) ∧
 ∃ r80:Bool,(Yyv (⟨r25.1.terms,r25.1.syms,[]⟩:Yu5) r25.2.1 r25.2.2.1 r25.2.2.2.2 r25.2.2.2.1 x72 (((x14.length:Int):Int).toNat) x1 x14 x19 r80) ∧
 if r80=true then
  ∃ r89:List (Yuf × Nat),(Yzr (⟨r25.1.terms,r25.1.syms,[]⟩:Yu5) r25.2.1 r25.2.2.1 r25.2.2.2.2 r25.2.2.2.1 r89) ∧
  ∃ r99:Yu5,(Zaf (⟨(r25.1.terms.take r25.2.1),(r25.1.syms.take r25.2.2.1),((r89.take r25.2.2.2.1).map Zbe)⟩:Yu5) r99) ∧
  ∃ r125:Bool,(Yyv (⟨r25.1.terms,r25.1.syms,[]⟩:Yu5) r25.2.1 r25.2.2.1 r89 r25.2.2.2.1 x72 (((x14.length:Int):Int).toNat) r99 x14 x19 r125) ∧
  r=r125
 else
  r=false
end Go.Proofs.YtadcichlnacagaaDoor.R
