/- What the functions answer, as plain relations, printed by my own tool off the program's translation. No condition. -/
import Derived.Test.YtelafghkjlpojaaP0
set_option linter.unusedVariables false
namespace Go.Proofs.Ytelafghkjlpojaa.R
open Go.Proofs.Ytelafghkjlpojaa.B
structure Yg6 where
 sym:Int
 field:ByteArray
 as:ByteArray
 deriving Inhabited,DecidableEq
structure Ygc where
 name:ByteArray
 lit:Bool
 deriving Inhabited,DecidableEq
structure Ygq where
 name:ByteArray
 kind:Int
 deriving Inhabited,DecidableEq
structure Yg8 where
 lhs:Int
 rhs:List Yg6
 deriving Inhabited,DecidableEq
structure Yfz where
 terms:List Ygc
 syms:List Ygq
 prods:List Yg8
 deriving Inhabited,DecidableEq
structure Yg0 where
 first:Int→Int
 vanishes:Int→Bool
 deriving Inhabited
def Yje (x:Yg8):Yg8 × Nat:=(x,x.rhs.length)
def Yj3 (x:Yg8 × Nat):Yg8:={ x.1 with rhs:=x.1.rhs.take x.2 }
def Yh4 (x1:List Yg6) (x20:List Yg6) (x25:Int) (o1:Sum ((List Yg6) × Int) (List Yg6)):Prop :=
 if x25 < (x1.length:Int) then
  (0≤x25∧x25 < (x1.length:Int)) ∧
  ∃ x47:List Yg6,(x47=x20++([ix x1 x25]:List Yg6)) ∧
  (x47.length * 40≤211106232532992) ∧
  o1=.inl (x47,w64 (x25 + 1))
 else
  o1=.inr (x20)
def Yhj (x1:List Yg6) (r:List Yg6):Prop :=
 Yga (fun (s:(List Yg6) × Int) o=>Yh4 x1 s.1 s.2 o) (([]:List Yg6),0) r
def Yha (x1:Yfz) (x1437:List Ygc) (x3343:List Ygq) (x3982:Int) (x3983:List Yg8) (o3:Sum (Int × (List Yg8)) (Sum (Int × (List Ygq)) (Sum (Int × (List Ygc)) Yfz))):Prop :=
 if x3982 < (x1.prods.length:Int) then
  (0≤x3982∧x3982 < (x1.prods.length:Int)) ∧
  ∃ r4144:List Yg6,(Yhj ((ix x1.prods x3982).rhs) r4144) ∧
  ∃ x4163:List Yg8,(x4163=x3983++([(⟨(ix x1.prods x3982).lhs,r4144⟩:Yg8)]:List Yg8)) ∧
  (x4163.length * 32≤211106232532992) ∧
  o3=.inl (w64 (x3982 + 1),x4163)
 else
  o3=.inr (.inr (.inr ((⟨x1437,x3343,x3983⟩:Yfz))))
def Yhc (x1:Yfz) (x1437:List Ygc) (x3342:Int) (x3343:List Ygq) (o2:Sum (Int × (List Ygq)) (Sum (Int × (List Ygc)) Yfz)):Prop :=
 if x3342 < (x1.syms.length:Int) then
  (0≤x3342∧x3342 < (x1.syms.length:Int)) ∧
  ∃ x3813:List Ygq,(x3813=x3343++([ix x1.syms x3342]:List Ygq)) ∧
  (x3813.length * 24≤211106232532992) ∧
  o2=.inl (w64 (x3342 + 1),x3813)
 else
  Yga (fun (s:Int × (List Yg8)) o=>Yha x1 x1437 x3343 s.1 s.2 o) (0,([]:List Yg8)) o2
def Yho (x1:Yfz) (x1436:Int) (x1437:List Ygc) (o1:Sum (Int × (List Ygc)) Yfz):Prop :=
 if x1436 < (x1.terms.length:Int) then
  (0≤x1436∧x1436 < (x1.terms.length:Int)) ∧
  ∃ x2860:List Ygc,(x2860=x1437++([ix x1.terms x1436]:List Ygc)) ∧
  (x2860.length * 24≤211106232532992) ∧
  o1=.inl (w64 (x1436 + 1),x2860)
 else
  Yga (fun (s:Int × (List Ygq)) o=>Yhc x1 x1437 s.1 s.2 o) (0,([]:List Ygq)) o1
def Yix (x1:Yfz) (r:Yfz):Prop :=
 Yga (fun (s:Int × (List Ygc)) o=>Yho x1 s.1 s.2 o) (0,([]:List Ygc)) r
def Yie (x14:List Yg6) (x1:Yfz) (x34:Int) (o1:Sum Int Bool):Prop :=
 if x34 < (x14.length:Int) then
  (0≤x34∧x34 < (x14.length:Int)) ∧
  if (ix x14 x34).sym < 0 then
   o1=.inr (false)
  else
   if (ix x14 x34).sym≥w64 ((x1.terms.length:Int) + (x1.syms.length:Int)) then
    o1=.inr (false)
   else
    o1=.inl (w64 (x34 + 1))
 else
  o1=.inr (true)
def Yjw (x1:Yfz) (x14:List Yg6) (r:Bool):Prop :=
 Yga (fun (s:Int) o=>Yie x14 x1 s o) 0 r
def Yi2 (x1:Yfz) (x44:Int) (o1:Sum Int Bool):Prop :=
 if x44 < (x1.prods.length:Int) then
  (0≤x44∧x44 < (x1.prods.length:Int)) ∧
  if (ix x1.prods x44).lhs < -1 then
   o1=.inr (false)
  else
   if (ix x1.prods x44).lhs≥(x1.syms.length:Int) then
    o1=.inr (false)
   else
    ∃ r83:Bool,(Yjw x1 ((ix x1.prods x44).rhs) r83) ∧
    if r83=true then
     o1=.inl (w64 (x44 + 1))
    else
     o1=.inr (false)
 else
  o1=.inr (true)
def Yi1 (x1:Yfz) (x19:Bool) (r:Bool):Prop :=
 if x19=true then
  r=false
 else
  Yga (fun (s:Int) o=>Yi2 x1 s o) 0 r
def Yj7 (x1:Yfz) (r:Bool):Prop :=
 if (x1.terms.length:Int) < 1 then
  Yi1 x1 true r
 else
  if (x1.terms.length:Int) > 64 then
   Yi1 x1 true r
  else
   Yi1 x1 (decide ((x1.syms.length:Int) > 128)) r
def Yi7 (x6:List Yg6) (x1:List Bool) (x18:Int) (o1:Sum Int Bool):Prop :=
 if x18 < (x6.length:Int) then
  (0≤x18∧x18 < (x6.length:Int)) ∧
  (0≤(ix x6 x18).sym∧(ix x6 x18).sym < (x1.length:Int)) ∧
  if (ix x1 ((ix x6 x18).sym))=true then
   o1=.inl (w64 (x18 + 1))
  else
   o1=.inr (false)
 else
  o1=.inr (true)
def Yji (x1:List Bool) (x6:List Yg6) (r:Bool):Prop :=
 Yga (fun (s:Int) o=>Yi7 x6 x1 s o) 0 r
def Ygz (x1:Yfz) (x114:Int) (x222:List Bool) (x224:Int) (o2:Sum ((List Bool) × Int) (Sum ((List Bool) × Int) (List Bool))):Prop :=
 if x224 < (x1.prods.length:Int) then
  (0≤x224∧x224 < (x1.prods.length:Int)) ∧
  if (ix x1.prods x224).lhs≥0 then
   ∃ r265:Bool,(Yji x222 ((ix x1.prods x224).rhs) r265) ∧
   if r265=true then
    (0≤w64 ((x1.terms.length:Int) + ((ix x1.prods x224).lhs))∧w64 ((x1.terms.length:Int) + ((ix x1.prods x224).lhs)) < (x222.length:Int)) ∧
    ∃ x272:List Bool,(x272=x222.set (w64 ((x1.terms.length:Int) + ((ix x1.prods x224).lhs)):Int).toNat true) ∧
    o2=.inl (x272,w64 (x224 + 1))
   else
    o2=.inl (x222,w64 (x224 + 1))
  else
   o2=.inl (x222,w64 (x224 + 1))
 else
  o2=.inr (.inl (x222,w64 (x114 + 1)))
def Ygy (x1:Yfz) (x112:List Bool) (x114:Int) (o1:Sum ((List Bool) × Int) (List Bool)):Prop :=
 if x114 < (x1.syms.length:Int) then
  Yga (fun (s:(List Bool) × Int) o=>Ygz x1 x114 s.1 s.2 o) (x112,0) o1
 else
  o1=.inr (x112)
def Yk2 (x1:Yfz) (r:List Bool):Prop :=
 ∃ r19:Bool,(Yj7 x1 r19) ∧
 if r19=true then
  (0≤w64 ((x1.terms.length:Int) + (x1.syms.length:Int))∧w64 ((x1.terms.length:Int) + (x1.syms.length:Int)) * 1≤281474976710656) ∧
  ∃ x29:List Bool,(x29=List.replicate (w64 ((x1.terms.length:Int) + (x1.syms.length:Int)):Int).toNat (false:Bool)) ∧
  Yga (fun (s:(List Bool) × Int) o=>Ygy x1 s.1 s.2 o) (x29,0) r
 else
  r=([]:List Bool)
def Yii (x19:List Yg6) (x763:Int) (x14:List Bool) (x1846:List Bool) (o1:Sum ((List Bool) × Int) (List Bool)):Prop :=
 (0≤(ix x19 x763).sym∧(ix x19 x763).sym < (x14.length:Int)) ∧
 if (ix x14 ((ix x19 x763).sym))=true then
  o1=.inl (x1846,w64 (x763 + 1))
 else
  o1=.inr (x1846)
def Yhu (x1:Yfz) (x19:List Yg6) (x763:Int) (rc_trellisref11_leads:Yfz→(List Bool)→(List Yg6)→(List Bool)→(List Bool)→Prop) (x14:List Bool) (x1974:List Bool) (x1979:Int) (o2:Sum ((List Bool) × Int) (Sum ((List Bool) × Int) (List Bool))):Prop :=
 if x1979 < (x1.prods.length:Int) then
  (0≤x1979∧x1979 < (x1.prods.length:Int)) ∧
  if (ix x1.prods x1979).lhs≥0 then
   if (ix x1.prods x1979).lhs=w64 (((ix x19 x763).sym) - (x1.terms.length:Int)) then
    ∃ r2152:List Bool,(rc_trellisref11_leads x1 x14 ((ix x1.prods x1979).rhs) x1974 r2152) ∧
    o2=.inl (r2152,w64 (x1979 + 1))
   else
    o2=.inl (x1974,w64 (x1979 + 1))
  else
   o2=.inl (x1974,w64 (x1979 + 1))
 else
  ∃ q2210:Sum ((List Bool) × Int) (List Bool),(o2=.inr (q2210)) ∧
  Yii x19 x763 x14 x1974 q2210
def Yh6 (x19:List Yg6) (x14:List Bool) (x1:Yfz) (rc_trellisref11_leads:Yfz→(List Bool)→(List Yg6)→(List Bool)→(List Bool)→Prop) (x758:List Bool) (x763:Int) (o1:Sum ((List Bool) × Int) (List Bool)):Prop :=
 if x763 < (x19.length:Int) then
  (0≤x763∧x763 < (x19.length:Int)) ∧
  (0≤(ix x19 x763).sym∧(ix x19 x763).sym < (x758.length:Int)) ∧
  if (ix x758 ((ix x19 x763).sym))=true then
   Yii x19 x763 x14 x758 o1
  else
   ∃ x1854:List Bool,(x1854=x758.set ((ix x19 x763).sym:Int).toNat true) ∧
   Yga (fun (s:(List Bool) × Int) o=>Yhu x1 x19 x763 rc_trellisref11_leads x14 s.1 s.2 o) (x1854,0) o1
 else
  o1=.inr (x758)
def Yis (rc_trellisref11_leads:Yfz→(List Bool)→(List Yg6)→(List Bool)→(List Bool)→Prop) (x1:Yfz) (x14:List Bool) (x19:List Yg6) (x24:List Bool) (r:List Bool):Prop :=
 Yga (fun (s:(List Bool) × Int) o=>Yh6 x19 x14 x1 rc_trellisref11_leads s.1 s.2 o) (x24,0) r
def Yhp:Nat→Yfz→(List Bool)→(List Yg6)→(List Bool)→(List Bool)→Prop
 | 0=>fun _ _ _ _ _=>False
 | n + 1=>Yis (Yhp n)
def Yml (x1:Yfz) (x14:List Bool) (x19:List Yg6) (x24:List Bool) (r:List Bool):Prop:=∃ n,Yhp n x1 x14 x19 x24 r
def Yh9 (x1:Yfz) (r35:List Bool) (x50:Int) (x51:Int) (o1:Sum (Int × Int) Int):Prop :=
 if x51 < (x1.terms.length:Int) then
  (0≤x51∧x51 < (r35.length:Int)) ∧
  if (ix r35 x51)=true then
   (0≤IntKind.u64.wrap (x51)) ∧
   o1=.inl (bits .or .u64 x50 (shlV .u64 1 (IntKind.u64.wrap (x51))),w64 (x51 + 1))
  else
   o1=.inl (x50,w64 (x51 + 1))
 else
  o1=.inr (x50)
def Yjm (x1:Yfz) (x14:List Bool) (x19:List Yg6) (r:Int):Prop :=
 (0≤w64 ((x1.terms.length:Int) + (x1.syms.length:Int))∧w64 ((x1.terms.length:Int) + (x1.syms.length:Int)) * 1≤281474976710656) ∧
 ∃ x30:List Bool,(x30=List.replicate (w64 ((x1.terms.length:Int) + (x1.syms.length:Int)):Int).toNat (false:Bool)) ∧
 ∃ r35:List Bool,(Yml x1 x14 x19 x30 r35) ∧
 Yga (fun (s:Int × Int) o=>Yh9 x1 r35 s.1 s.2 o) (0,0) r
def Yil (x1:Yfz) (x14:List Yg6) (x19:Int) (x40:Bool) (r:Int):Prop :=
 if x40=true then
  r=0
 else
  ∃ r45:List Bool,(Yk2 x1 r45) ∧
  ∃ r58:Int,(Yjm x1 r45 x14 r58) ∧
  ∃ r66:Bool,(Yji r45 x14 r66) ∧
  if r66=true then
   r=bits .or .u64 r58 x19
  else
   r=r58
def Yj2 (x1:Yfz) (x14:List Yg6) (x19:Int) (r:Int):Prop :=
 ∃ r75:Bool,(Yj7 x1 r75) ∧
 if r75=true then
  ∃ r84:Bool,(Yjw x1 x14 r84) ∧
  Yil x1 x14 x19 (!r84) r
 else
  Yil x1 x14 x19 true r
def Yh5 (x1:List Yg6) (x29:List Yg6) (x34:Int) (o1:Sum ((List Yg6) × Int) ((List Yg6) × Nat)):Prop :=
 if x34 < 20 then
  ∃ x54:List Yg6,(x54=x29++([(⟨w64 (900 + x34),(⟨#[109,97,114,107]⟩:ByteArray),(⟨#[]⟩:ByteArray)⟩:Yg6)]:List Yg6)) ∧
  (x54.length * 40≤211106232532992) ∧
  o1=.inl (x54,w64 (x34 + 1))
 else
  (0≤(0:Int)∧(0:Int)≤(x1.length:Int)∧(x1.length:Int)≤(x29.length:Int)) ∧
  o1=.inr ((x29,((x1.length:Int):Int).toNat))
def Yir (x1:List Yg6) (r:(List Yg6) × Nat):Prop :=
 ∃ r9:List Yg6,(Yhj x1 r9) ∧
 Yga (fun (s:(List Yg6) × Int) o=>Yh5 x1 s.1 s.2 o) (r9,0) r
def Yhb (x1:Yfz) (x79:List Ygc) (x84:List Ygq) (x656:Int) (x657:List (Yg8 × Nat)) (o2:Sum (Int × (List (Yg8 × Nat))) (Sum (Int × (List Ygc) × (List Ygq) × (List (Yg8 × Nat))) (Yfz × Nat × Nat × Nat × (List (Yg8 × Nat))))):Prop :=
 if x656 < ((x657.take (((x1.prods.length:Int):Int).toNat)).length:Int) then
  (0≤x656∧x656 < (x1.prods.length:Int)) ∧
  ∃ r793:(List Yg6) × Nat,(Yir ((ix x1.prods x656).rhs) r793) ∧
  (0≤x656∧x656 < ((x657.take (((x1.prods.length:Int):Int).toNat)).length:Int)) ∧
  ∃ x813:List (Yg8 × Nat),(x813=x657.set (x656:Int).toNat ({ ((ix x657 x656).1) with rhs:=r793.1 },r793.2)) ∧
  o2=.inl (w64 (x656 + 1),x813)
 else
  o2=.inr (.inr (((⟨x79,x84,[]⟩:Yfz),((x1.terms.length:Int):Int).toNat,((x1.syms.length:Int):Int).toNat,((x1.prods.length:Int):Int).toNat,x657)))
def Yhm (x1:Yfz) (x78:Int) (x79:List Ygc) (x84:List Ygq) (x89:List (Yg8 × Nat)) (o1:Sum (Int × (List Ygc) × (List Ygq) × (List (Yg8 × Nat))) (Yfz × Nat × Nat × Nat × (List (Yg8 × Nat)))):Prop :=
 if x78 < 20 then
  ∃ x504:List Ygc,(x504=x79++([(⟨(⟨#[109,97,114,107]⟩:ByteArray),false⟩:Ygc)]:List Ygc)) ∧
  (x504.length * 24≤211106232532992) ∧
  ∃ x513:List Ygq,(x513=x84++([(⟨(⟨#[109,97,114,107]⟩:ByteArray),0⟩:Ygq)]:List Ygq)) ∧
  (x513.length * 24≤211106232532992) ∧
  ∃ x524:List (Yg8 × Nat),(x524=x89++([((⟨w64 (900 + x78),([]:List Yg6)⟩:Yg8),0)]:List (Yg8 × Nat))) ∧
  (x524.length * 32≤211106232532992) ∧
  o1=.inl (w64 (x78 + 1),x504,x513,x524)
 else
  (0≤(0:Int)∧(0:Int)≤(x1.terms.length:Int)∧(x1.terms.length:Int)≤(x79.length:Int)) ∧
  (0≤(0:Int)∧(0:Int)≤(x1.syms.length:Int)∧(x1.syms.length:Int)≤(x84.length:Int)) ∧
  (0≤(0:Int)∧(0:Int)≤(x1.prods.length:Int)∧(x1.prods.length:Int)≤(x89.length:Int)) ∧
  Yga (fun (s:Int × (List (Yg8 × Nat))) o=>Yhb x1 x79 x84 s.1 s.2 o) (0,x89) o1
def Yk8 (x1:Yfz) (r:Yfz × Nat × Nat × Nat × (List (Yg8 × Nat))):Prop :=
 ∃ r21:Yfz,(Yix x1 r21) ∧
 Yga (fun (s:Int × (List Ygc) × (List Ygq) × (List (Yg8 × Nat))) o=>Yhm x1 s.1 s.2.1 s.2.2.1 s.2.2.2 o) (0,r21.terms,r21.syms,(r21.prods.map Yje)) r
def Ykg (x14:List Yg6) (x1:Yfz) (x29:Int) (o1:Sum Int Bool):Prop :=
 if x29 < (x14.length:Int) then
  (0≤x29∧x29 < (x14.length:Int)) ∧
  if (ix x14 x29).sym < 0 then
   o1=.inr (false)
  else
   if (ix x14 x29).sym≥w64 ((x1.terms.length:Int) + (x1.syms.length:Int)) then
    o1=.inr (false)
   else
    o1=.inl (w64 (x29 + 1))
 else
  o1=.inr (true)
def Yks (x1:Yfz) (x14:List Yg6) (r:Bool):Prop :=
 Yga (fun (s:Int) o=>Ykg x14 x1 s o) 0 r
def Ykh (x1:Yfz) (x44:Int) (o1:Sum Int Bool):Prop :=
 if x44 < (x1.prods.length:Int) then
  (0≤x44∧x44 < (x1.prods.length:Int)) ∧
  if (ix x1.prods x44).lhs < -1 then
   o1=.inr (false)
  else
   if (ix x1.prods x44).lhs≥(x1.syms.length:Int) then
    o1=.inr (false)
   else
    ∃ r83:Bool,(Yks x1 ((ix x1.prods x44).rhs) r83) ∧
    if r83=true then
     o1=.inl (w64 (x44 + 1))
    else
     o1=.inr (false)
 else
  o1=.inr (true)
def Ykk (x1:Yfz) (x19:Bool) (r:Bool):Prop :=
 if x19=true then
  r=false
 else
  Yga (fun (s:Int) o=>Ykh x1 s o) 0 r
def Ym2 (x1:Yfz) (r:Bool):Prop :=
 if (x1.terms.length:Int) < 1 then
  Ykk x1 true r
 else
  if (x1.terms.length:Int) > 64 then
   Ykk x1 true r
  else
   Ykk x1 (decide ((x1.syms.length:Int) > 128)) r
def Yj8 (x4:List Yg6) (x1:Yg0) (x17:Int) (x18:Int) (o1:Sum (Int × Int) (Int × Bool × Yg0)):Prop :=
 if x18 < (x4.length:Int) then
  (0≤x18∧x18 < (x4.length:Int)) ∧
  (0≤(ix x4 x18).sym∧(ix x4 x18).sym < 192) ∧
  if (x1.vanishes ((ix x4 x18).sym))=true then
   o1=.inl (bits .or .u64 x17 (x1.first ((ix x4 x18).sym)),w64 (x18 + 1))
  else
   o1=.inr ((bits .or .u64 x17 (x1.first ((ix x4 x18).sym)),false,x1))
 else
  o1=.inr ((x17,true,x1))
def Ykt (x1:Yg0) (x4:List Yg6) (r:Int × Bool × Yg0):Prop :=
 Yga (fun (s:Int × Int) o=>Yj8 x4 x1 s.1 s.2 o) (0,0) r
def Yi9 (x1:Yfz) (x847:Yg0) (x1004:Int) (x1005:Yg0) (o3:Sum (Int × Yg0) (Sum Yg0 (Sum (Int × Yg0) Yg0))):Prop :=
 if x1004 < (x1.prods.length:Int) then
  (0≤x1004∧x1004 < (x1.prods.length:Int)) ∧
  if (ix x1.prods x1004).lhs < 0 then
   o3=.inl (w64 (x1004 + 1),x1005)
  else
   ∃ r1057:Int × Bool × Yg0,(Ykt x1005 ((ix x1.prods x1004).rhs) r1057) ∧
   (0≤w64 ((x1.terms.length:Int) + ((ix x1.prods x1004).lhs))∧w64 ((x1.terms.length:Int) + ((ix x1.prods x1004).lhs)) < 192) ∧
   ∃ x1063:Yg0,(x1063 = { r1057.2.2 with first:=upd r1057.2.2.first (w64 ((x1.terms.length:Int) + ((ix x1.prods x1004).lhs))) (bits .or .u64 (r1057.2.2.first (w64 ((x1.terms.length:Int) + ((ix x1.prods x1004).lhs)))) r1057.1) }) ∧
   if (x1063.vanishes (w64 ((x1.terms.length:Int) + ((ix x1.prods x1004).lhs))))=true then
    ∃ x1066:Yg0,(x1066 = { x1063 with vanishes:=upd x1063.vanishes (w64 ((x1.terms.length:Int) + ((ix x1.prods x1004).lhs))) true }) ∧
    o3=.inl (w64 (x1004 + 1),x1066)
   else
    ∃ x1068:Yg0,(x1068 = { x1063 with vanishes:=upd x1063.vanishes (w64 ((x1.terms.length:Int) + ((ix x1.prods x1004).lhs))) r1057.2.1 }) ∧
    o3=.inl (w64 (x1004 + 1),x1068)
 else
  if (aeq 192 x1005.first x847.first)=true then
   if (aeq 192 x1005.vanishes x847.vanishes)=true then
    ∃ x1072:Yg0,(x1072=x847) ∧
    o3=.inr (.inr (.inr (x1072)))
   else
    ∃ x1074:Yg0,(x1074=x1005) ∧
    o3=.inr (.inl x1074)
  else
   ∃ x1076:Yg0,(x1076=x1005) ∧
   o3=.inr (.inl x1076)
def Yjx (x1:Yfz) (x847:Yg0) (o2:Sum Yg0 (Sum (Int × Yg0) Yg0)):Prop :=
 ∃ x965:Yg0,(x965=x847) ∧
 Yga (fun (s:Int × Yg0) o=>Yi9 x1 x847 s.1 s.2 o) (0,x965) o2
def Yiw (x1:Yfz) (x372:Int) (x373:Yg0) (o1:Sum (Int × Yg0) Yg0):Prop :=
 if x372 < (x1.terms.length:Int) then
  (0≤x372) ∧
  (0≤x372∧x372 < 192) ∧
  ∃ x729:Yg0,(x729 = { x373 with first:=upd x373.first x372 (shlV .u64 1 x372) }) ∧
  o1=.inl (w64 (x372 + 1),x729)
 else
  Yga (fun (s:Yg0) o=>Yjx x1 s o) x373 o1
def Ylo (x1:Yfz) (r:Yg0):Prop :=
 Yga (fun (s:Int × Yg0) o=>Yiw x1 s.1 s.2 o) (0,(⟨(fun _=>0),(fun _=>false)⟩:Yg0)) r
def Yln (x1:Yfz) (x14:List Yg6) (x19:Int) (x40:Bool) (r:Int):Prop :=
 if x40=true then
  r=0
 else
  ∃ r45:Yg0,(Ylo x1 r45) ∧
  ∃ x52:Yg0,(x52=r45) ∧
  ∃ r57:Int × Bool × Yg0,(Ykt x52 x14 r57) ∧
  if r57.2.1=true then
   r=bits .or .u64 r57.1 x19
  else
   r=r57.1
def Yl2 (x1:Yfz) (x14:List Yg6) (x19:Int) (r:Int):Prop :=
 ∃ r66:Bool,(Ym2 x1 r66) ∧
 if r66=true then
  ∃ r75:Bool,(Yks x1 x14 r75) ∧
  Yln x1 x14 x19 (!r75) r
 else
  Yln x1 x14 x19 true r
def Yiq (x1:List Yg6) (x6:List Yg6) (x23:Int) (o1:Sum Int Bool):Prop :=
 if x23 < (x1.length:Int) then
  (0≤x23∧x23 < (x1.length:Int)) ∧
  (0≤x23∧x23 < (x6.length:Int)) ∧
  if ix x1 x23=ix x6 x23 then
   o1=.inl (w64 (x23 + 1))
  else
   o1=.inr (false)
 else
  o1=.inr (true)
def Yin (x1:List Yg6) (x6:List Yg6) (r:Bool):Prop :=
 if (x1.length:Int)=(x6.length:Int) then
  Yga (fun (s:Int) o=>Yiq x1 x6 s o) 0 r
 else
  r=false
def Yjf (x1:Yfz) (x14:Yfz) (x3906:Int) (o3:Sum Int (Sum Int (Sum Int Bool))):Prop :=
 if x3906 < (x1.prods.length:Int) then
  (0≤x3906∧x3906 < (x1.prods.length:Int)) ∧
  (0≤x3906∧x3906 < (x14.prods.length:Int)) ∧
  if (ix x1.prods x3906).lhs=(ix x14.prods x3906).lhs then
   ∃ r4091:Bool,(Yin ((ix x1.prods x3906).rhs) ((ix x14.prods x3906).rhs) r4091) ∧
   if r4091=true then
    o3=.inl (w64 (x3906 + 1))
   else
    o3=.inr (.inr (.inr (false)))
  else
   o3=.inr (.inr (.inr (false)))
 else
  o3=.inr (.inr (.inr (true)))
def Yja (x1:Yfz) (x14:Yfz) (x3286:Int) (o2:Sum Int (Sum Int Bool)):Prop :=
 if x3286 < (x1.syms.length:Int) then
  (0≤x3286∧x3286 < (x1.syms.length:Int)) ∧
  (0≤x3286∧x3286 < (x14.syms.length:Int)) ∧
  if ix x1.syms x3286=ix x14.syms x3286 then
   o2=.inl (w64 (x3286 + 1))
  else
   o2=.inr (.inr (false))
 else
  Yga (fun (s:Int) o=>Yjf x1 x14 s o) 0 o2
def Yj9 (x1:Yfz) (x14:Yfz) (x1426:Int) (o1:Sum Int Bool):Prop :=
 if x1426 < (x1.terms.length:Int) then
  (0≤x1426∧x1426 < (x1.terms.length:Int)) ∧
  (0≤x1426∧x1426 < (x14.terms.length:Int)) ∧
  if ix x1.terms x1426=ix x14.terms x1426 then
   o1=.inl (w64 (x1426 + 1))
  else
   o1=.inr (false)
 else
  Yga (fun (s:Int) o=>Yja x1 x14 s o) 0 o1
def Yio (x1:Yfz) (x14:Yfz) (x34:Bool) (r:Bool):Prop :=
 if x34=true then
  r=false
 else
  Yga (fun (s:Int) o=>Yj9 x1 x14 s o) 0 r
def Yk5 (x1:Yfz) (x14:Yfz) (r:Bool):Prop :=
 if (x1.terms.length:Int)=(x14.terms.length:Int) then
  if (x1.syms.length:Int)=(x14.syms.length:Int) then
   Yio x1 x14 ((x1.prods.length:Int) != (x14.prods.length:Int)) r
  else
   Yio x1 x14 true r
 else
  Yio x1 x14 true r
def Yik (x9:List Yg6) (x1:List Yg6) (k6:Nat) (x21:Int) (o1:Sum Int Bool):Prop :=
 if x21 < 20 then
  (0≤w64 ((x9.length:Int) + x21)∧w64 ((x9.length:Int) + x21) < ((x1.take ((w64 ((x9.length:Int) + 20):Int).toNat)).length:Int)) ∧
  if ix (x1.take ((w64 ((x9.length:Int) + 20):Int).toNat)) (w64 ((x9.length:Int) + x21))=(⟨w64 (900 + x21),(⟨#[109,97,114,107]⟩:ByteArray),(⟨#[]⟩:ByteArray)⟩:Yg6) then
   o1=.inl (w64 (x21 + 1))
  else
   o1=.inr (false)
 else
  ∃ r41:Bool,(Yin (x1.take k6) x9 r41) ∧
  o1=.inr (r41)
def Yij (x1:List Yg6) (k6:Nat) (x9:List Yg6) (r:Bool):Prop :=
 (0≤w64 ((x9.length:Int) + 20)∧w64 ((x9.length:Int) + 20)≤(x1.length:Int)) ∧
 Yga (fun (s:Int) o=>Yik x9 x1 k6 s o) 0 r
def Yj5 (x24:Yfz) (x20:List (Yg8 × Nat)) (k21:Nat) (x474:Int) (o2:Sum Int (Sum Int Bool)):Prop :=
 if x474 < (x24.prods.length:Int) then
  (0≤x474∧x474 < ((x20.take k21).length:Int)) ∧
  (0≤x474∧x474 < (x24.prods.length:Int)) ∧
  ∃ r577:Bool,(Yij (((ix (x20.take k21) x474).1).rhs) ((ix (x20.take k21) x474).2) ((ix x24.prods x474).rhs) r577) ∧
  if r577=true then
   o2=.inl (w64 (x474 + 1))
  else
   o2=.inr (.inr (false))
 else
  o2=.inr (.inr (true))
def Yj4 (x24:Yfz) (x1:Yfz) (x20:List (Yg8 × Nat)) (k6:Nat) (k13:Nat) (k21:Nat) (x76:Int) (o1:Sum Int Bool):Prop :=
 if x76 < 20 then
  (0≤w64 ((x24.terms.length:Int) + x76)∧w64 ((x24.terms.length:Int) + x76) < ((x1.terms.take ((w64 ((x24.terms.length:Int) + 20):Int).toNat)).length:Int)) ∧
  if ix (x1.terms.take ((w64 ((x24.terms.length:Int) + 20):Int).toNat)) (w64 ((x24.terms.length:Int) + x76))=(⟨(⟨#[109,97,114,107]⟩:ByteArray),false⟩:Ygc) then
   (0≤w64 ((x24.syms.length:Int) + x76)∧w64 ((x24.syms.length:Int) + x76) < ((x1.syms.take ((w64 ((x24.syms.length:Int) + 20):Int).toNat)).length:Int)) ∧
   if ix (x1.syms.take ((w64 ((x24.syms.length:Int) + 20):Int).toNat)) (w64 ((x24.syms.length:Int) + x76))=(⟨(⟨#[109,97,114,107]⟩:ByteArray),0⟩:Ygq) then
    (0≤w64 ((x24.prods.length:Int) + x76)∧w64 ((x24.prods.length:Int) + x76) < ((x20.take ((w64 ((x24.prods.length:Int) + 20):Int).toNat)).length:Int)) ∧
    if ((ix (x20.take ((w64 ((x24.prods.length:Int) + 20):Int).toNat)) (w64 ((x24.prods.length:Int) + x76))).1).lhs=w64 (900 + x76) then
     if (((((ix (x20.take ((w64 ((x24.prods.length:Int) + 20):Int).toNat)) (w64 ((x24.prods.length:Int) + x76))).1).rhs).take ((ix (x20.take ((w64 ((x24.prods.length:Int) + 20):Int).toNat)) (w64 ((x24.prods.length:Int) + x76))).2)).length:Int) > 0 then
      o1=.inr (false)
     else
      o1=.inl (w64 (x76 + 1))
    else
     o1=.inr (false)
   else
    o1=.inr (false)
  else
   o1=.inr (false)
 else
  ∃ r386:Bool,(Yk5 (⟨(x1.terms.take k6),(x1.syms.take k13),((x20.take k21).map Yj3)⟩:Yfz) x24 r386) ∧
  if r386=true then
   Yga (fun (s:Int) o=>Yj5 x24 x20 k21 s o) 0 o1
  else
   o1=.inr (false)
def Yjy (x1:Yfz) (k6:Nat) (k13:Nat) (x20:List (Yg8 × Nat)) (k21:Nat) (x24:Yfz) (r:Bool):Prop :=
 (0≤w64 ((x24.terms.length:Int) + 20)∧w64 ((x24.terms.length:Int) + 20)≤(x1.terms.length:Int)) ∧
 (0≤w64 ((x24.syms.length:Int) + 20)∧w64 ((x24.syms.length:Int) + 20)≤(x1.syms.length:Int)) ∧
 (0≤w64 ((x24.prods.length:Int) + 20)∧w64 ((x24.prods.length:Int) + 20)≤(x20.length:Int)) ∧
 Yga (fun (s:Int) o=>Yj4 x24 x1 x20 k6 k13 k21 s o) 0 r
def Yhe (r74:Yfz × Nat × Nat × Nat × (List (Yg8 × Nat))) (x733:List Yg6) (r105:(List Yg6) × Nat) (x19:Int) (x1590:Int) (x1591:List (Yg8 × Nat)) (o2:Sum (Int × (List (Yg8 × Nat))) (Sum ((List Yg6) × Int) Bool)):Prop :=
 if x1590 < ((x1591.take r74.2.2.2.1).length:Int) then
  (0≤x1590∧x1590 < ((x1591.take r74.2.2.2.1).length:Int)) ∧
  (0≤w64 (Int.tdiv (((((ix x1591 x1590).1).rhs).take ((ix x1591 x1590).2)).length:Int) 2)∧w64 (Int.tdiv (((((ix x1591 x1590).1).rhs).take ((ix x1591 x1590).2)).length:Int) 2)≤((((ix x1591 x1590).1).rhs).length:Int)) ∧
  ∃ x1776:List (Yg8 × Nat),(x1776=x1591.set (x1590:Int).toNat ({ ((ix x1591 x1590).1) with rhs:=((ix x1591 x1590).1).rhs },(w64 (Int.tdiv (((((ix x1591 x1590).1).rhs).take ((ix x1591 x1590).2)).length:Int) 2):Int).toNat)) ∧
  o2=.inl (w64 (x1590 + 1),x1776)
 else
  ∃ r1842:Yfz,(Yix (⟨(r74.1.terms.take r74.2.1),(r74.1.syms.take r74.2.2.1),((x1591.take r74.2.2.2.1).map Yj3)⟩:Yfz) r1842) ∧
  ∃ r1868:List Yg6,(Yhj (x733.take r105.2) r1868) ∧
  ∃ r1881:Int,(Yj2 r1842 r1868 x19 r1881) ∧
  ∃ r1889:Int,(Yl2 (⟨(r74.1.terms.take r74.2.1),(r74.1.syms.take r74.2.2.1),((x1591.take r74.2.2.2.1).map Yj3)⟩:Yfz) (x733.take r105.2) x19 r1889) ∧
  o2=.inr (.inr ((r1889 == r1881)))
def Yhd (r105:(List Yg6) × Nat) (r25:Yfz) (x19:Int) (r74:Yfz × Nat × Nat × Nat × (List (Yg8 × Nat))) (x733:List Yg6) (x735:Int) (o1:Sum ((List Yg6) × Int) Bool):Prop :=
 if x735 < ((x733.take r105.2).length:Int) then
  (0≤w64 ((w64 (((x733.take r105.2).length:Int) - 1)) - x735)∧w64 ((w64 (((x733.take r105.2).length:Int) - 1)) - x735) < ((x733.take r105.2).length:Int)) ∧
  (0≤x735∧x735 < ((x733.take r105.2).length:Int)) ∧
  ∃ x1320:List Yg6,(x1320=x733.set (x735:Int).toNat (ix x733 (w64 ((w64 (((x733.take r105.2).length:Int) - 1)) - x735)))) ∧
  o1=.inl (x1320,w64 (x735 + 1))
 else
  ∃ r1326:List Yg6,(Yhj (x733.take r105.2) r1326) ∧
  ∃ r1339:Int,(Yj2 r25 r1326 x19 r1339) ∧
  ∃ r1431:Int,(Yl2 (⟨(r74.1.terms.take r74.2.1),(r74.1.syms.take r74.2.2.1),((r74.2.2.2.2.take r74.2.2.2.1).map Yj3)⟩:Yfz) (x733.take r105.2) x19 r1431) ∧
  if r1431=r1339 then
   Yga (fun (s:Int × (List (Yg8 × Nat))) o=>Yhe r74 x733 r105 x19 s.1 s.2 o) (0,r74.2.2.2.2) o1
  else
   o1=.inr (false)
def Yi5 (r105:(List Yg6) × Nat) (r25:Yfz) (x19:Int) (r74:Yfz × Nat × Nat × Nat × (List (Yg8 × Nat))) (x144:Bool) (r:Bool):Prop :=
 if x144=true then
  r=false
 else
  Yga (fun (s:(List Yg6) × Int) o=>Yhd r105 r25 x19 r74 s.1 s.2 o) (r105.1,0) r
def Yjb (x1:Yfz) (x14:List Yg6) (x19:Int) (r:Bool):Prop :=
 ∃ r25:Yfz,(Yix x1 r25) ∧
 ∃ r53:List Yg6,(Yhj x14 r53) ∧
 ∃ r66:Int,(Yj2 r25 r53 x19 r66) ∧
 ∃ r74:Yfz × Nat × Nat × Nat × (List (Yg8 × Nat)),(Yk8 x1 r74) ∧
 ∃ r105:(List Yg6) × Nat,(Yir x14 r105) ∧
 ∃ r1897:Int,(Yl2 (⟨(r74.1.terms.take r74.2.1),(r74.1.syms.take r74.2.2.1),((r74.2.2.2.2.take r74.2.2.2.1).map Yj3)⟩:Yfz) (r105.1.take r105.2) x19 r1897) ∧
 if r1897=r66 then
  ∃ r1906:Bool,(Yjy (⟨r74.1.terms,r74.1.syms,[]⟩:Yfz) r74.2.1 r74.2.2.1 r74.2.2.2.2 r74.2.2.2.1 r25 r1906) ∧
  if r1906=true then
   ∃ r1915:Bool,(Yij r105.1 r105.2 r53 r1915) ∧
   Yi5 r105 r25 x19 r74 (!r1915) r
  else
   Yi5 r105 r25 x19 r74 true r
 else
  Yi5 r105 r25 x19 r74 true r
end Go.Proofs.Ytelafghkjlpojaa.R
