/- What the functions answer, as plain relations, printed by my own tool off the program's translation. No condition. -/
import Derived.Test.YtelafghkjlpojaaP0
set_option linter.unusedVariables false
namespace Go.Proofs.Ytelafghkjlpojaa.R
open Go.Proofs.Ytelafghkjlpojaa.B
structure Yg9 where
 sym:Int
 field:ByteArray
 as:ByteArray
 deriving Inhabited,DecidableEq
structure Ygd where
 name:ByteArray
 lit:Bool
 deriving Inhabited,DecidableEq
structure Ygz where
 name:ByteArray
 kind:Int
 deriving Inhabited,DecidableEq
structure Yg8 where
 lhs:Int
 rhs:List Yg9
 deriving Inhabited,DecidableEq
structure Yfz where
 terms:List Ygd
 syms:List Ygz
 prods:List Yg8
 deriving Inhabited,DecidableEq
structure Yg0 where
 first:Int→Int
 vanishes:Int→Bool
 deriving Inhabited
def Yif (x:Yg8):Yg8 × Nat:=(x,x.rhs.length)
def Yi5 (x:Yg8 × Nat):Yg8:={ x.1 with rhs:=x.1.rhs.take x.2 }
def Yha (x1:List Yg9) (x20:List Yg9) (x25:Int) (o1:Sum ((List Yg9) × Int) (List Yg9)):Prop :=
 if x25 < (x1.length:Int) then
  (0≤x25∧x25 < (x1.length:Int)) ∧
  ∃ x47:List Yg9,(x47=x20++([ix x1 x25]:List Yg9)) ∧
  (x47.length * 40≤211106232532992) ∧
  o1=.inl (x47,w64 (x25 + 1))
 else
  o1=.inr (x20)
def Yj8 (x1:List Yg9) (r:List Yg9):Prop :=
 Yga (fun (s:(List Yg9) × Int) o=>Yha x1 s.1 s.2 o) (([]:List Yg9),0) r
def Yhl (x1:Yfz) (x1437:List Ygd) (x3343:List Ygz) (x3982:Int) (x3983:List Yg8) (o3:Sum (Int × (List Yg8)) (Sum (Int × (List Ygz)) (Sum (Int × (List Ygd)) Yfz))):Prop :=
 if x3982 < (x1.prods.length:Int) then
  (0≤x3982∧x3982 < (x1.prods.length:Int)) ∧
  ∃ r4144:List Yg9,(Yj8 ((ix x1.prods x3982).rhs) r4144) ∧
  ∃ x4163:List Yg8,(x4163=x3983++([(⟨(ix x1.prods x3982).lhs,r4144⟩:Yg8)]:List Yg8)) ∧
  (x4163.length * 32≤211106232532992) ∧
  o3=.inl (w64 (x3982 + 1),x4163)
 else
  o3=.inr (.inr (.inr ((⟨x1437,x3343,x3983⟩:Yfz))))
def Yhi (x1:Yfz) (x1437:List Ygd) (x3342:Int) (x3343:List Ygz) (o2:Sum (Int × (List Ygz)) (Sum (Int × (List Ygd)) Yfz)):Prop :=
 if x3342 < (x1.syms.length:Int) then
  (0≤x3342∧x3342 < (x1.syms.length:Int)) ∧
  ∃ x3813:List Ygz,(x3813=x3343++([ix x1.syms x3342]:List Ygz)) ∧
  (x3813.length * 24≤211106232532992) ∧
  o2=.inl (w64 (x3342 + 1),x3813)
 else
  Yga (fun (s:Int × (List Yg8)) o=>Yhl x1 x1437 x3343 s.1 s.2 o) (0,([]:List Yg8)) o2
def Yht (x1:Yfz) (x1436:Int) (x1437:List Ygd) (o1:Sum (Int × (List Ygd)) Yfz):Prop :=
 if x1436 < (x1.terms.length:Int) then
  (0≤x1436∧x1436 < (x1.terms.length:Int)) ∧
  ∃ x2860:List Ygd,(x2860=x1437++([ix x1.terms x1436]:List Ygd)) ∧
  (x2860.length * 24≤211106232532992) ∧
  o1=.inl (w64 (x1436 + 1),x2860)
 else
  Yga (fun (s:Int × (List Ygz)) o=>Yhi x1 x1437 s.1 s.2 o) (0,([]:List Ygz)) o1
def Yiw (x1:Yfz) (r:Yfz):Prop :=
 Yga (fun (s:Int × (List Ygd)) o=>Yht x1 s.1 s.2 o) (0,([]:List Ygd)) r
def Yit (x14:List Yg9) (x1:Yfz) (x34:Int) (o1:Sum Int Bool):Prop :=
 if x34 < (x14.length:Int) then
  (0≤x34∧x34 < (x14.length:Int)) ∧
  if (ix x14 x34).sym < 0 then
   o1=.inr (false)
  else
   if (ix x14 x34).sym≥w64 ((x1.terms.length:Int) + (x1.syms.length:Int)) then
    o1=.inr (false)
   else
    o1=.inl (w64 (x34 + 1))
 else
  o1=.inr (true)
def Yl6 (x1:Yfz) (x14:List Yg9) (r:Bool):Prop :=
 Yga (fun (s:Int) o=>Yit x14 x1 s o) 0 r
def Yid (x1:Yfz) (x44:Int) (o1:Sum Int Bool):Prop :=
 if x44 < (x1.prods.length:Int) then
  (0≤x44∧x44 < (x1.prods.length:Int)) ∧
  if (ix x1.prods x44).lhs < -1 then
   o1=.inr (false)
  else
   if (ix x1.prods x44).lhs≥(x1.syms.length:Int) then
    o1=.inr (false)
   else
    ∃ r83:Bool,(Yl6 x1 ((ix x1.prods x44).rhs) r83) ∧
    if r83=true then
     o1=.inl (w64 (x44 + 1))
    else
     o1=.inr (false)
 else
  o1=.inr (true)
def Yie (x1:Yfz) (x19:Bool) (r:Bool):Prop :=
 if x19=true then
  r=false
 else
  Yga (fun (s:Int) o=>Yid x1 s o) 0 r
def Yjo (x1:Yfz) (r:Bool):Prop :=
 if (x1.terms.length:Int) < 1 then
  Yie x1 true r
 else
  if (x1.terms.length:Int) > 64 then
   Yie x1 true r
  else
   Yie x1 (decide ((x1.syms.length:Int) > 128)) r
def Yik (x6:List Yg9) (x1:List Bool) (x18:Int) (o1:Sum Int Bool):Prop :=
 if x18 < (x6.length:Int) then
  (0≤x18∧x18 < (x6.length:Int)) ∧
  (0≤(ix x6 x18).sym∧(ix x6 x18).sym < (x1.length:Int)) ∧
  if (ix x1 ((ix x6 x18).sym))=true then
   o1=.inl (w64 (x18 + 1))
  else
   o1=.inr (false)
 else
  o1=.inr (true)
def Yku (x1:List Bool) (x6:List Yg9) (r:Bool):Prop :=
 Yga (fun (s:Int) o=>Yik x6 x1 s o) 0 r
def Yh7 (x1:Yfz) (x114:Int) (x222:List Bool) (x224:Int) (o2:Sum ((List Bool) × Int) (Sum ((List Bool) × Int) (List Bool))):Prop :=
 if x224 < (x1.prods.length:Int) then
  (0≤x224∧x224 < (x1.prods.length:Int)) ∧
  if (ix x1.prods x224).lhs≥0 then
   ∃ r265:Bool,(Yku x222 ((ix x1.prods x224).rhs) r265) ∧
   if r265=true then
    (0≤w64 ((x1.terms.length:Int) + ((ix x1.prods x224).lhs))∧w64 ((x1.terms.length:Int) + ((ix x1.prods x224).lhs)) < (x222.length:Int)) ∧
    ∃ x272:List Bool,(x272=x222.set (w64 ((x1.terms.length:Int) + ((ix x1.prods x224).lhs)):Int).toNat true) ∧
    o2=.inl (x272,w64 (x224 + 1))
   else
    o2=.inl (x222,w64 (x224 + 1))
  else
   o2=.inl (x222,w64 (x224 + 1))
 else
  o2=.inr (.inl (x222,w64 (x114 + 1)))
def Yh8 (x1:Yfz) (x112:List Bool) (x114:Int) (o1:Sum ((List Bool) × Int) (List Bool)):Prop :=
 if x114 < (x1.syms.length:Int) then
  Yga (fun (s:(List Bool) × Int) o=>Yh7 x1 x114 s.1 s.2 o) (x112,0) o1
 else
  o1=.inr (x112)
def Yi1 (x1:Yfz) (r:List Bool):Prop :=
 ∃ r19:Bool,(Yjo x1 r19) ∧
 if r19=true then
  (0≤w64 ((x1.terms.length:Int) + (x1.syms.length:Int))∧w64 ((x1.terms.length:Int) + (x1.syms.length:Int)) * 1≤281474976710656) ∧
  ∃ x29:List Bool,(x29=List.replicate (w64 ((x1.terms.length:Int) + (x1.syms.length:Int)):Int).toNat (false:Bool)) ∧
  Yga (fun (s:(List Bool) × Int) o=>Yh8 x1 s.1 s.2 o) (x29,0) r
 else
  r=([]:List Bool)
def Yix (x19:List Yg9) (x763:Int) (x14:List Bool) (x1846:List Bool) (o1:Sum ((List Bool) × Int) (List Bool)):Prop :=
 (0≤(ix x19 x763).sym∧(ix x19 x763).sym < (x14.length:Int)) ∧
 if (ix x14 ((ix x19 x763).sym))=true then
  o1=.inl (x1846,w64 (x763 + 1))
 else
  o1=.inr (x1846)
def Yi2 (x1:Yfz) (x19:List Yg9) (x763:Int) (rc_trellisref11_leads:Yfz→(List Bool)→(List Yg9)→(List Bool)→(List Bool)→Prop) (x14:List Bool) (x1974:List Bool) (x1979:Int) (o2:Sum ((List Bool) × Int) (Sum ((List Bool) × Int) (List Bool))):Prop :=
 if x1979 < (x1.prods.length:Int) then
  (0≤x1979∧x1979 < (x1.prods.length:Int)) ∧
  if (ix x1.prods x1979).lhs≥0 then
   if (ix x1.prods x1979).lhs=w64 (((ix x19 x763).sym) - (x1.terms.length:Int)) then
    ∃ r2152:List Bool,(rc_trellisref11_leads x1 x14 ((ix x1.prods x1979).rhs) x1974 r2152) ∧
    o2=.inl (r2152,w64 (x1979 + 1))
   else
    o2=.inl (x1974,w64 (x1979 + 1))
  else
   o2=.inl (x1974,w64 (x1979 + 1))
 else
  ∃ q2210:Sum ((List Bool) × Int) (List Bool),(o2=.inr (q2210)) ∧
  Yix x19 x763 x14 x1974 q2210
def Yhb (x19:List Yg9) (x14:List Bool) (x1:Yfz) (rc_trellisref11_leads:Yfz→(List Bool)→(List Yg9)→(List Bool)→(List Bool)→Prop) (x758:List Bool) (x763:Int) (o1:Sum ((List Bool) × Int) (List Bool)):Prop :=
 if x763 < (x19.length:Int) then
  (0≤x763∧x763 < (x19.length:Int)) ∧
  (0≤(ix x19 x763).sym∧(ix x19 x763).sym < (x758.length:Int)) ∧
  if (ix x758 ((ix x19 x763).sym))=true then
   Yix x19 x763 x14 x758 o1
  else
   ∃ x1854:List Bool,(x1854=x758.set ((ix x19 x763).sym:Int).toNat true) ∧
   Yga (fun (s:(List Bool) × Int) o=>Yi2 x1 x19 x763 rc_trellisref11_leads x14 s.1 s.2 o) (x1854,0) o1
 else
  o1=.inr (x758)
def Yjb (rc_trellisref11_leads:Yfz→(List Bool)→(List Yg9)→(List Bool)→(List Bool)→Prop) (x1:Yfz) (x14:List Bool) (x19:List Yg9) (x24:List Bool) (r:List Bool):Prop :=
 Yga (fun (s:(List Bool) × Int) o=>Yhb x19 x14 x1 rc_trellisref11_leads s.1 s.2 o) (x24,0) r
def Yhx:Nat→Yfz→(List Bool)→(List Yg9)→(List Bool)→(List Bool)→Prop
 | 0=>fun _ _ _ _ _=>False
 | n + 1=>Yjb (Yhx n)
def Yn8 (x1:Yfz) (x14:List Bool) (x19:List Yg9) (x24:List Bool) (r:List Bool):Prop:=∃ n,Yhx n x1 x14 x19 x24 r
def Yhf (x1:Yfz) (r35:List Bool) (x50:Int) (x51:Int) (o1:Sum (Int × Int) Int):Prop :=
 if x51 < (x1.terms.length:Int) then
  (0≤x51∧x51 < (r35.length:Int)) ∧
  if (ix r35 x51)=true then
   (0≤IntKind.u64.wrap (x51)) ∧
   o1=.inl (bits .or .u64 x50 (shlV .u64 1 (IntKind.u64.wrap (x51))),w64 (x51 + 1))
  else
   o1=.inl (x50,w64 (x51 + 1))
 else
  o1=.inr (x50)
def Yk9 (x1:Yfz) (x14:List Bool) (x19:List Yg9) (r:Int):Prop :=
 (0≤w64 ((x1.terms.length:Int) + (x1.syms.length:Int))∧w64 ((x1.terms.length:Int) + (x1.syms.length:Int)) * 1≤281474976710656) ∧
 ∃ x30:List Bool,(x30=List.replicate (w64 ((x1.terms.length:Int) + (x1.syms.length:Int)):Int).toNat (false:Bool)) ∧
 ∃ r35:List Bool,(Yn8 x1 x14 x19 x30 r35) ∧
 Yga (fun (s:Int × Int) o=>Yhf x1 r35 s.1 s.2 o) (0,0) r
def Yh9 (x1:List Yg9) (x29:List Yg9) (x34:Int) (o1:Sum ((List Yg9) × Int) ((List Yg9) × Nat)):Prop :=
 if x34 < 20 then
  ∃ x54:List Yg9,(x54=x29++([(⟨w64 (900 + x34),(⟨#[109,97,114,107]⟩:ByteArray),(⟨#[]⟩:ByteArray)⟩:Yg9)]:List Yg9)) ∧
  (x54.length * 40≤211106232532992) ∧
  o1=.inl (x54,w64 (x34 + 1))
 else
  (0≤(0:Int)∧(0:Int)≤(x1.length:Int)∧(x1.length:Int)≤(x29.length:Int)) ∧
  o1=.inr ((x29,((x1.length:Int):Int).toNat))
def Yk0 (x1:List Yg9) (r:(List Yg9) × Nat):Prop :=
 ∃ r9:List Yg9,(Yj8 x1 r9) ∧
 Yga (fun (s:(List Yg9) × Int) o=>Yh9 x1 s.1 s.2 o) (r9,0) r
def Yhk (x1:Yfz) (x79:List Ygd) (x84:List Ygz) (x656:Int) (x657:List (Yg8 × Nat)) (o2:Sum (Int × (List (Yg8 × Nat))) (Sum (Int × (List Ygd) × (List Ygz) × (List (Yg8 × Nat))) (Yfz × Nat × Nat × Nat × (List (Yg8 × Nat))))):Prop :=
 if x656 < ((x657.take (((x1.prods.length:Int):Int).toNat)).length:Int) then
  (0≤x656∧x656 < (x1.prods.length:Int)) ∧
  ∃ r793:(List Yg9) × Nat,(Yk0 ((ix x1.prods x656).rhs) r793) ∧
  (0≤x656∧x656 < ((x657.take (((x1.prods.length:Int):Int).toNat)).length:Int)) ∧
  ∃ x813:List (Yg8 × Nat),(x813=x657.set (x656:Int).toNat ({ ((ix x657 x656).1) with rhs:=r793.1 },r793.2)) ∧
  o2=.inl (w64 (x656 + 1),x813)
 else
  o2=.inr (.inr (((⟨x79,x84,[]⟩:Yfz),((x1.terms.length:Int):Int).toNat,((x1.syms.length:Int):Int).toNat,((x1.prods.length:Int):Int).toNat,x657)))
def Yhw (x1:Yfz) (x78:Int) (x79:List Ygd) (x84:List Ygz) (x89:List (Yg8 × Nat)) (o1:Sum (Int × (List Ygd) × (List Ygz) × (List (Yg8 × Nat))) (Yfz × Nat × Nat × Nat × (List (Yg8 × Nat)))):Prop :=
 if x78 < 20 then
  ∃ x504:List Ygd,(x504=x79++([(⟨(⟨#[109,97,114,107]⟩:ByteArray),false⟩:Ygd)]:List Ygd)) ∧
  (x504.length * 24≤211106232532992) ∧
  ∃ x513:List Ygz,(x513=x84++([(⟨(⟨#[109,97,114,107]⟩:ByteArray),0⟩:Ygz)]:List Ygz)) ∧
  (x513.length * 24≤211106232532992) ∧
  ∃ x524:List (Yg8 × Nat),(x524=x89++([((⟨w64 (900 + x78),([]:List Yg9)⟩:Yg8),0)]:List (Yg8 × Nat))) ∧
  (x524.length * 32≤211106232532992) ∧
  o1=.inl (w64 (x78 + 1),x504,x513,x524)
 else
  (0≤(0:Int)∧(0:Int)≤(x1.terms.length:Int)∧(x1.terms.length:Int)≤(x79.length:Int)) ∧
  (0≤(0:Int)∧(0:Int)≤(x1.syms.length:Int)∧(x1.syms.length:Int)≤(x84.length:Int)) ∧
  (0≤(0:Int)∧(0:Int)≤(x1.prods.length:Int)∧(x1.prods.length:Int)≤(x89.length:Int)) ∧
  Yga (fun (s:Int × (List (Yg8 × Nat))) o=>Yhk x1 x79 x84 s.1 s.2 o) (0,x89) o1
def Ykr (x1:Yfz) (r:Yfz × Nat × Nat × Nat × (List (Yg8 × Nat))):Prop :=
 ∃ r21:Yfz,(Yiw x1 r21) ∧
 Yga (fun (s:Int × (List Ygd) × (List Ygz) × (List (Yg8 × Nat))) o=>Yhw x1 s.1 s.2.1 s.2.2.1 s.2.2.2 o) (0,r21.terms,r21.syms,(r21.prods.map Yif)) r
def Yl5 (x14:List Yg9) (x1:Yfz) (x29:Int) (o1:Sum Int Bool):Prop :=
 if x29 < (x14.length:Int) then
  (0≤x29∧x29 < (x14.length:Int)) ∧
  if (ix x14 x29).sym < 0 then
   o1=.inr (false)
  else
   if (ix x14 x29).sym≥w64 ((x1.terms.length:Int) + (x1.syms.length:Int)) then
    o1=.inr (false)
   else
    o1=.inl (w64 (x29 + 1))
 else
  o1=.inr (true)
def Ylx (x1:Yfz) (x14:List Yg9) (r:Bool):Prop :=
 Yga (fun (s:Int) o=>Yl5 x14 x1 s o) 0 r
def Yl3 (x1:Yfz) (x44:Int) (o1:Sum Int Bool):Prop :=
 if x44 < (x1.prods.length:Int) then
  (0≤x44∧x44 < (x1.prods.length:Int)) ∧
  if (ix x1.prods x44).lhs < -1 then
   o1=.inr (false)
  else
   if (ix x1.prods x44).lhs≥(x1.syms.length:Int) then
    o1=.inr (false)
   else
    ∃ r83:Bool,(Ylx x1 ((ix x1.prods x44).rhs) r83) ∧
    if r83=true then
     o1=.inl (w64 (x44 + 1))
    else
     o1=.inr (false)
 else
  o1=.inr (true)
def Yl4 (x1:Yfz) (x19:Bool) (r:Bool):Prop :=
 if x19=true then
  r=false
 else
  Yga (fun (s:Int) o=>Yl3 x1 s o) 0 r
def Ymc (x1:Yfz) (r:Bool):Prop :=
 if (x1.terms.length:Int) < 1 then
  Yl4 x1 true r
 else
  if (x1.terms.length:Int) > 64 then
   Yl4 x1 true r
  else
   Yl4 x1 (decide ((x1.syms.length:Int) > 128)) r
def Yjr (x4:List Yg9) (x1:Yg0) (x17:Int) (x18:Int) (o1:Sum (Int × Int) (Int × Bool × Yg0)):Prop :=
 if x18 < (x4.length:Int) then
  (0≤x18∧x18 < (x4.length:Int)) ∧
  (0≤(ix x4 x18).sym∧(ix x4 x18).sym < 192) ∧
  if (x1.vanishes ((ix x4 x18).sym))=true then
   o1=.inl (bits .or .u64 x17 (x1.first ((ix x4 x18).sym)),w64 (x18 + 1))
  else
   o1=.inr ((bits .or .u64 x17 (x1.first ((ix x4 x18).sym)),false,x1))
 else
  o1=.inr ((x17,true,x1))
def Yly (x1:Yg0) (x4:List Yg9) (r:Int × Bool × Yg0):Prop :=
 Yga (fun (s:Int × Int) o=>Yjr x4 x1 s.1 s.2 o) (0,0) r
def Yin (x1:Yfz) (x847:Yg0) (x1004:Int) (x1005:Yg0) (o3:Sum (Int × Yg0) (Sum Yg0 (Sum (Int × Yg0) Yg0))):Prop :=
 if x1004 < (x1.prods.length:Int) then
  (0≤x1004∧x1004 < (x1.prods.length:Int)) ∧
  if (ix x1.prods x1004).lhs < 0 then
   o3=.inl (w64 (x1004 + 1),x1005)
  else
   ∃ r1057:Int × Bool × Yg0,(Yly x1005 ((ix x1.prods x1004).rhs) r1057) ∧
   (0≤w64 ((x1.terms.length:Int) + ((ix x1.prods x1004).lhs))∧w64 ((x1.terms.length:Int) + ((ix x1.prods x1004).lhs)) < 192) ∧
   ∃ x1063:Yg0,(x1063 = { r1057.2.2 with first:=upd r1057.2.2.first (w64 ((x1.terms.length:Int) + ((ix x1.prods x1004).lhs))) (bits .or .u64 (r1057.2.2.first (w64 ((x1.terms.length:Int) + ((ix x1.prods x1004).lhs)))) r1057.1) }) ∧
   if (x1063.vanishes (w64 ((x1.terms.length:Int) + ((ix x1.prods x1004).lhs))))=true then
    ∃ x1066:Yg0,(x1066 = { x1063 with vanishes:=upd x1063.vanishes (w64 ((x1.terms.length:Int) + ((ix x1.prods x1004).lhs))) true }) ∧
    o3=.inl (w64 (x1004 + 1),x1066)
   else
    ∃ x1068:Yg0,(x1068 = { x1063 with vanishes:=upd x1063.vanishes (w64 ((x1.terms.length:Int) + ((ix x1.prods x1004).lhs))) r1057.2.1 }) ∧
    o3=.inl (w64 (x1004 + 1),x1068)
 else
  if (aeq 192 x1005.first x847.first)=true then
   if (aeq 192 x1005.vanishes x847.vanishes)=true then
    ∃ x1072:Yg0,(x1072=x847) ∧
    o3=.inr (.inr (.inr (x1072)))
   else
    ∃ x1074:Yg0,(x1074=x1005) ∧
    o3=.inr (.inl x1074)
  else
   ∃ x1076:Yg0,(x1076=x1005) ∧
   o3=.inr (.inl x1076)
def Ykj (x1:Yfz) (x847:Yg0) (o2:Sum Yg0 (Sum (Int × Yg0) Yg0)):Prop :=
 ∃ x965:Yg0,(x965=x847) ∧
 Yga (fun (s:Int × Yg0) o=>Yin x1 x847 s.1 s.2 o) (0,x965) o2
def Yjf (x1:Yfz) (x372:Int) (x373:Yg0) (o1:Sum (Int × Yg0) Yg0):Prop :=
 if x372 < (x1.terms.length:Int) then
  (0≤x372) ∧
  (0≤x372∧x372 < 192) ∧
  ∃ x729:Yg0,(x729 = { x373 with first:=upd x373.first x372 (shlV .u64 1 x372) }) ∧
  o1=.inl (w64 (x372 + 1),x729)
 else
  Yga (fun (s:Yg0) o=>Ykj x1 s o) x373 o1
def Yl9 (x1:Yfz) (r:Yg0):Prop :=
 Yga (fun (s:Int × Yg0) o=>Yjf x1 s.1 s.2 o) (0,(⟨(fun _=>0),(fun _=>false)⟩:Yg0)) r
def Yja (x1:List Yg9) (x6:List Yg9) (x23:Int) (o1:Sum Int Bool):Prop :=
 if x23 < (x1.length:Int) then
  (0≤x23∧x23 < (x1.length:Int)) ∧
  (0≤x23∧x23 < (x6.length:Int)) ∧
  if ix x1 x23=ix x6 x23 then
   o1=.inl (w64 (x23 + 1))
  else
   o1=.inr (false)
 else
  o1=.inr (true)
def Yjc (x1:List Yg9) (x6:List Yg9) (r:Bool):Prop :=
 if (x1.length:Int)=(x6.length:Int) then
  Yga (fun (s:Int) o=>Yja x1 x6 s o) 0 r
 else
  r=false
def Yjx (x1:Yfz) (x14:Yfz) (x3906:Int) (o3:Sum Int (Sum Int (Sum Int Bool))):Prop :=
 if x3906 < (x1.prods.length:Int) then
  (0≤x3906∧x3906 < (x1.prods.length:Int)) ∧
  (0≤x3906∧x3906 < (x14.prods.length:Int)) ∧
  if (ix x1.prods x3906).lhs=(ix x14.prods x3906).lhs then
   ∃ r4091:Bool,(Yjc ((ix x1.prods x3906).rhs) ((ix x14.prods x3906).rhs) r4091) ∧
   if r4091=true then
    o3=.inl (w64 (x3906 + 1))
   else
    o3=.inr (.inr (.inr (false)))
  else
   o3=.inr (.inr (.inr (false)))
 else
  o3=.inr (.inr (.inr (true)))
def Yjw (x1:Yfz) (x14:Yfz) (x3286:Int) (o2:Sum Int (Sum Int Bool)):Prop :=
 if x3286 < (x1.syms.length:Int) then
  (0≤x3286∧x3286 < (x1.syms.length:Int)) ∧
  (0≤x3286∧x3286 < (x14.syms.length:Int)) ∧
  if ix x1.syms x3286=ix x14.syms x3286 then
   o2=.inl (w64 (x3286 + 1))
  else
   o2=.inr (.inr (false))
 else
  Yga (fun (s:Int) o=>Yjx x1 x14 s o) 0 o2
def Yjv (x1:Yfz) (x14:Yfz) (x1426:Int) (o1:Sum Int Bool):Prop :=
 if x1426 < (x1.terms.length:Int) then
  (0≤x1426∧x1426 < (x1.terms.length:Int)) ∧
  (0≤x1426∧x1426 < (x14.terms.length:Int)) ∧
  if ix x1.terms x1426=ix x14.terms x1426 then
   o1=.inl (w64 (x1426 + 1))
  else
   o1=.inr (false)
 else
  Yga (fun (s:Int) o=>Yjw x1 x14 s o) 0 o1
def Yj9 (x1:Yfz) (x14:Yfz) (x34:Bool) (r:Bool):Prop :=
 if x34=true then
  r=false
 else
  Yga (fun (s:Int) o=>Yjv x1 x14 s o) 0 r
def Ykq (x1:Yfz) (x14:Yfz) (r:Bool):Prop :=
 if (x1.terms.length:Int)=(x14.terms.length:Int) then
  if (x1.syms.length:Int)=(x14.syms.length:Int) then
   Yj9 x1 x14 ((x1.prods.length:Int) != (x14.prods.length:Int)) r
  else
   Yj9 x1 x14 true r
 else
  Yj9 x1 x14 true r
def Yj1 (x9:List Yg9) (x1:List Yg9) (k6:Nat) (x21:Int) (o1:Sum Int Bool):Prop :=
 if x21 < 20 then
  (0≤w64 ((x9.length:Int) + x21)∧w64 ((x9.length:Int) + x21) < ((x1.take ((w64 ((x9.length:Int) + 20):Int).toNat)).length:Int)) ∧
  if ix (x1.take ((w64 ((x9.length:Int) + 20):Int).toNat)) (w64 ((x9.length:Int) + x21))=(⟨w64 (900 + x21),(⟨#[109,97,114,107]⟩:ByteArray),(⟨#[]⟩:ByteArray)⟩:Yg9) then
   o1=.inl (w64 (x21 + 1))
  else
   o1=.inr (false)
 else
  ∃ r41:Bool,(Yjc (x1.take k6) x9 r41) ∧
  o1=.inr (r41)
def Yjl (x1:List Yg9) (k6:Nat) (x9:List Yg9) (r:Bool):Prop :=
 (0≤w64 ((x9.length:Int) + 20)∧w64 ((x9.length:Int) + 20)≤(x1.length:Int)) ∧
 Yga (fun (s:Int) o=>Yj1 x9 x1 k6 s o) 0 r
def Yjn (x24:Yfz) (x20:List (Yg8 × Nat)) (k21:Nat) (x474:Int) (o2:Sum Int (Sum Int Bool)):Prop :=
 if x474 < (x24.prods.length:Int) then
  (0≤x474∧x474 < ((x20.take k21).length:Int)) ∧
  (0≤x474∧x474 < (x24.prods.length:Int)) ∧
  ∃ r577:Bool,(Yjl (((ix (x20.take k21) x474).1).rhs) ((ix (x20.take k21) x474).2) ((ix x24.prods x474).rhs) r577) ∧
  if r577=true then
   o2=.inl (w64 (x474 + 1))
  else
   o2=.inr (.inr (false))
 else
  o2=.inr (.inr (true))
def Yjm (x24:Yfz) (x1:Yfz) (x20:List (Yg8 × Nat)) (k6:Nat) (k13:Nat) (k21:Nat) (x76:Int) (o1:Sum Int Bool):Prop :=
 if x76 < 20 then
  (0≤w64 ((x24.terms.length:Int) + x76)∧w64 ((x24.terms.length:Int) + x76) < ((x1.terms.take ((w64 ((x24.terms.length:Int) + 20):Int).toNat)).length:Int)) ∧
  if ix (x1.terms.take ((w64 ((x24.terms.length:Int) + 20):Int).toNat)) (w64 ((x24.terms.length:Int) + x76))=(⟨(⟨#[109,97,114,107]⟩:ByteArray),false⟩:Ygd) then
   (0≤w64 ((x24.syms.length:Int) + x76)∧w64 ((x24.syms.length:Int) + x76) < ((x1.syms.take ((w64 ((x24.syms.length:Int) + 20):Int).toNat)).length:Int)) ∧
   if ix (x1.syms.take ((w64 ((x24.syms.length:Int) + 20):Int).toNat)) (w64 ((x24.syms.length:Int) + x76))=(⟨(⟨#[109,97,114,107]⟩:ByteArray),0⟩:Ygz) then
    (0≤w64 ((x24.prods.length:Int) + x76)∧w64 ((x24.prods.length:Int) + x76) < ((x20.take ((w64 ((x24.prods.length:Int) + 20):Int).toNat)).length:Int)) ∧
    if ((ix (x20.take ((w64 ((x24.prods.length:Int) + 20):Int).toNat)) (w64 ((x24.prods.length:Int) + x76))).1).lhs=w64 (900 + x76) then
     if (((((ix (x20.take ((w64 ((x24.prods.length:Int) + 20):Int).toNat)) (w64 ((x24.prods.length:Int) + x76))).1).rhs).take ((ix (x20.take ((w64 ((x24.prods.length:Int) + 20):Int).toNat)) (w64 ((x24.prods.length:Int) + x76))).2)).length:Int) > 0 then
      o1=.inr (false)
     else
      o1=.inl (w64 (x76 + 1))
    else
     o1=.inr (false)
   else
    o1=.inr (false)
  else
   o1=.inr (false)
 else
  ∃ r386:Bool,(Ykq (⟨(x1.terms.take k6),(x1.syms.take k13),((x20.take k21).map Yi5)⟩:Yfz) x24 r386) ∧
  if r386=true then
   Yga (fun (s:Int) o=>Yjn x24 x20 k21 s o) 0 o1
  else
   o1=.inr (false)
def Yjq (x1:Yfz) (k6:Nat) (k13:Nat) (x20:List (Yg8 × Nat)) (k21:Nat) (x24:Yfz) (r:Bool):Prop :=
 (0≤w64 ((x24.terms.length:Int) + 20)∧w64 ((x24.terms.length:Int) + 20)≤(x1.terms.length:Int)) ∧
 (0≤w64 ((x24.syms.length:Int) + 20)∧w64 ((x24.syms.length:Int) + 20)≤(x1.syms.length:Int)) ∧
 (0≤w64 ((x24.prods.length:Int) + 20)∧w64 ((x24.prods.length:Int) + 20)≤(x20.length:Int)) ∧
 Yga (fun (s:Int) o=>Yjm x24 x1 x20 k6 k13 k21 s o) 0 r
def Yhn (x1:Yfz) (r28:List Bool) (x61:List Int) (x66:Int) (o1:Sum ((List Int) × Int) (List Int)):Prop :=
 if x66 < w64 ((x1.terms.length:Int) + (x1.syms.length:Int)) then
  ∃ r95:Int,(Yk9 x1 r28 ([(⟨x66,(⟨#[]⟩:ByteArray),(⟨#[]⟩:ByteArray)⟩:Yg9)]:List Yg9) r95) ∧
  ∃ x106:List Int,(x106=x61++([r95]:List Int)) ∧
  (x106.length * 8≤211106232532992) ∧
  o1=.inl (x106,w64 (x66 + 1))
 else
  o1=.inr (x61)
def Yj5 (x1:Yfz) (r:List Int):Prop :=
 ∃ r19:Bool,(Yjo x1 r19) ∧
 if r19=true then
  ∃ r28:List Bool,(Yi1 x1 r28) ∧
  Yga (fun (s:(List Int) × Int) o=>Yhn x1 r28 s.1 s.2 o) (([]:List Int),0) r
 else
  r=([]:List Int)
def Yio (x1:Yfz) (r:List Bool):Prop :=
 ∃ r19:Bool,(Ymc x1 r19) ∧
 if r19=true then
  ∃ r28:Yg0,(Yl9 x1 r28) ∧
  ∃ x35:Yg0,(x35=r28) ∧
  (0≤w64 ((x1.terms.length:Int) + (x1.syms.length:Int))∧w64 ((x1.terms.length:Int) + (x1.syms.length:Int))≤192) ∧
  ∃ x42:List Bool,(x42=([]:List Bool)++((List.range (w64 ((x1.terms.length:Int) + (x1.syms.length:Int)):Int).toNat).map fun j:Nat=>x35.vanishes (j:Int))) ∧
  (x42.length * 1≤211106232532992) ∧
  r=x42
 else
  r=([]:List Bool)
def Yju (x1:Yfz) (r:List Int):Prop :=
 ∃ r19:Bool,(Ymc x1 r19) ∧
 if r19=true then
  ∃ r28:Yg0,(Yl9 x1 r28) ∧
  ∃ x35:Yg0,(x35=r28) ∧
  (0≤w64 ((x1.terms.length:Int) + (x1.syms.length:Int))∧w64 ((x1.terms.length:Int) + (x1.syms.length:Int))≤192) ∧
  ∃ x42:List Int,(x42=([]:List Int)++((List.range (w64 ((x1.terms.length:Int) + (x1.syms.length:Int)):Int).toNat).map fun j:Nat=>x35.first (j:Int))) ∧
  (x42.length * 8≤211106232532992) ∧
  r=x42
 else
  r=([]:List Int)
def Yir (x1:List Bool) (x6:List Bool) (x23:Int) (o1:Sum Int Bool):Prop :=
 if x23 < (x1.length:Int) then
  (0≤x23∧x23 < (x1.length:Int)) ∧
  (0≤x23∧x23 < (x6.length:Int)) ∧
  if ((ix x1 x23) != (ix x6 x23))=true then
   o1=.inr (false)
  else
   o1=.inl (w64 (x23 + 1))
 else
  o1=.inr (true)
def Yib (x1:List Bool) (x6:List Bool) (r:Bool):Prop :=
 if (x1.length:Int)=(x6.length:Int) then
  Yga (fun (s:Int) o=>Yir x1 x6 s o) 0 r
 else
  r=false
def Yiq (x1:List Int) (x6:List Int) (x23:Int) (o1:Sum Int Bool):Prop :=
 if x23 < (x1.length:Int) then
  (0≤x23∧x23 < (x1.length:Int)) ∧
  (0≤x23∧x23 < (x6.length:Int)) ∧
  if ix x1 x23=ix x6 x23 then
   o1=.inl (w64 (x23 + 1))
  else
   o1=.inr (false)
 else
  o1=.inr (true)
def Yia (x1:List Int) (x6:List Int) (r:Bool):Prop :=
 if (x1.length:Int)=(x6.length:Int) then
  Yga (fun (s:Int) o=>Yiq x1 x6 s o) 0 r
 else
  r=false
def Yh5 (x25797:Int) (x26354:Int) (x26355:List (Yg8 × Nat)) (o5:Sum (Int × (List (Yg8 × Nat))) (Sum (Int × (List (Yg8 × Nat))) (Sum ((List Bool) × (List Int) × Int) (Sum ((List Int) × Int) (Sum ((List Bool) × Int) Bool))))):Prop :=
 (0≤x25797∧x25797 < (x26355.length:Int)) ∧
 if x26354 < (((((ix x26355 x25797).1).rhs).take ((ix x26355 x25797).2)).length:Int) then
  (0≤w64 ((w64 ((((((ix x26355 x25797).1).rhs).take ((ix x26355 x25797).2)).length:Int) - 1)) - x26354)∧w64 ((w64 ((((((ix x26355 x25797).1).rhs).take ((ix x26355 x25797).2)).length:Int) - 1)) - x26354) < (((((ix x26355 x25797).1).rhs).take ((ix x26355 x25797).2)).length:Int)) ∧
  (0≤x26354∧x26354 < (((((ix x26355 x25797).1).rhs).take ((ix x26355 x25797).2)).length:Int)) ∧
  ∃ x26504:List Yg9,(x26504=(((ix x26355 x25797).1).rhs).set (x26354:Int).toNat (ix (((ix x26355 x25797).1).rhs) (w64 ((w64 ((((((ix x26355 x25797).1).rhs).take ((ix x26355 x25797).2)).length:Int) - 1)) - x26354)))) ∧
  ∃ x26506:List (Yg8 × Nat),(x26506=x26355.set (x25797:Int).toNat ({ ((ix x26355 x25797).1) with rhs:=x26504 },(ix x26355 x25797).2)) ∧
  o5=.inl (w64 (x26354 + 1),x26506)
 else
  o5=.inr (.inl (w64 (x25797 + 1),x26355))
def Yh6 (r25306:Yfz) (x25797:Int) (x25798:List (Yg8 × Nat)) (o4:Sum (Int × (List (Yg8 × Nat))) (Sum ((List Bool) × (List Int) × Int) (Sum ((List Int) × Int) (Sum ((List Bool) × Int) Bool)))):Prop :=
 if x25797 < (x25798.length:Int) then
  Yga (fun (s:Int × (List (Yg8 × Nat))) o=>Yh5 x25797 s.1 s.2 o) (0,x25798) o4
 else
  ∃ r26585:Yfz,(Yiw (⟨r25306.terms,r25306.syms,(x25798.map Yi5)⟩:Yfz) r26585) ∧
  ∃ r26613:List Bool,(Yi1 r26585 r26613) ∧
  ∃ r26626:List Int,(Yj5 r26585 r26626) ∧
  ∃ r26639:List Bool,(Yio (⟨r25306.terms,r25306.syms,(x25798.map Yi5)⟩:Yfz) r26639) ∧
  ∃ r26652:Bool,(Yib r26639 r26613 r26652) ∧
  if r26652=true then
   ∃ r26661:List Int,(Yju (⟨r25306.terms,r25306.syms,(x25798.map Yi5)⟩:Yfz) r26661) ∧
   ∃ r26674:Bool,(Yia r26661 r26626 r26674) ∧
   o4=.inr (.inr (.inr (.inr (r26674))))
  else
   o4=.inr (.inr (.inr (.inr (false))))
def Yhg (x1:Yfz) (x25301:Bool) (o3:Sum ((List Bool) × (List Int) × Int) (Sum ((List Int) × Int) (Sum ((List Bool) × Int) Bool))):Prop :=
 if x25301=true then
  o3=.inr (.inr (.inr (false)))
 else
  ∃ r25306:Yfz,(Yiw x1 r25306) ∧
  ∃ r25334:List Bool,(Yio r25306 r25334) ∧
  ∃ r25347:List Int,(Yju r25306 r25347) ∧
  Yga (fun (s:Int × (List (Yg8 × Nat))) o=>Yh6 r25306 s.1 s.2 o) (0,(r25306.prods.map Yif)) o3
def Yh2 (r162:List Bool) (r47:List Bool) (r175:List Int) (r60:List Int) (x1:Yfz) (r73:Yfz × Nat × Nat × Nat × (List (Yg8 × Nat))) (r19:Yfz) (x23791:List Bool) (x23796:List Int) (x23801:Int) (o3:Sum ((List Bool) × (List Int) × Int) (Sum ((List Int) × Int) (Sum ((List Bool) × Int) Bool))):Prop :=
 if x23801 < 70 then
  ∃ x25261:List Bool,(x25261=x23791++([((Int.tmod x23801 2) == 0)]:List Bool)) ∧
  (x25261.length * 1≤211106232532992) ∧
  ∃ x25270:List Int,(x25270=x23796++([78]:List Int)) ∧
  (x25270.length * 8≤211106232532992) ∧
  o3=.inl (x25261,x25270,w64 (x23801 + 1))
 else
  ∃ r26682:Bool,(Yib r162 r47 r26682) ∧
  if r26682=true then
   ∃ r26691:Bool,(Yia r175 r60 r26691) ∧
   if r26691=true then
    if w64 ((x23791.length:Int) + (x23796.length:Int)) < 140 then
     Yhg x1 true o3
    else
     ∃ r26701:Bool,(Yjq (⟨r73.1.terms,r73.1.syms,[]⟩:Yfz) r73.2.1 r73.2.2.1 r73.2.2.2.2 r73.2.2.2.1 r19 r26701) ∧
     Yhg x1 (!r26701) o3
   else
    Yhg x1 true o3
  else
   Yhg x1 true o3
def Yh4 (r162:List Bool) (r47:List Bool) (r175:List Int) (r60:List Int) (x1:Yfz) (r73:Yfz × Nat × Nat × Nat × (List (Yg8 × Nat))) (r19:Yfz) (x9027:List Bool) (x20819:List Int) (x20821:Int) (o2:Sum ((List Int) × Int) (Sum ((List Bool) × Int) Bool)):Prop :=
 if x20821 < (x20819.length:Int) then
  (0≤x20821∧x20821 < (x20819.length:Int)) ∧
  ∃ x23766:List Int,(x23766=x20819.set (x20821:Int).toNat 77) ∧
  o2=.inl (x23766,w64 (x20821 + 1))
 else
  Yga (fun (s:(List Bool) × (List Int) × Int) o=>Yh2 r162 r47 r175 r60 x1 r73 r19 s.1 s.2.1 s.2.2 o) (x9027,x20819,0) o2
def Yh3 (r162:List Bool) (r47:List Bool) (r175:List Int) (r60:List Int) (x1:Yfz) (r73:Yfz × Nat × Nat × Nat × (List (Yg8 × Nat))) (r19:Yfz) (r117:List Int) (x9027:List Bool) (x9029:Int) (o1:Sum ((List Bool) × Int) Bool):Prop :=
 if x9029 < (x9027.length:Int) then
  (0≤x9029∧x9029 < (x9027.length:Int)) ∧
  ∃ x17870:List Bool,(x17870=x9027.set (x9029:Int).toNat (!(ix x9027 x9029))) ∧
  o1=.inl (x17870,w64 (x9029 + 1))
 else
  Yga (fun (s:(List Int) × Int) o=>Yh4 r162 r47 r175 r60 x1 r73 r19 x9027 s.1 s.2 o) (r117,0) o1
def Yhz (r73:Yfz × Nat × Nat × Nat × (List (Yg8 × Nat))) (r47:List Bool) (r60:List Int) (x1:Yfz) (r19:Yfz) (r117:List Int) (r104:List Bool) (x154:Bool) (r:Bool):Prop :=
 if x154=true then
  r=false
 else
  ∃ r162:List Bool,(Yio (⟨(r73.1.terms.take r73.2.1),(r73.1.syms.take r73.2.2.1),((r73.2.2.2.2.take r73.2.2.2.1).map Yi5)⟩:Yfz) r162) ∧
  ∃ r175:List Int,(Yju (⟨(r73.1.terms.take r73.2.1),(r73.1.syms.take r73.2.2.1),((r73.2.2.2.2.take r73.2.2.2.1).map Yi5)⟩:Yfz) r175) ∧
  Yga (fun (s:(List Bool) × Int) o=>Yh3 r162 r47 r175 r60 x1 r73 r19 r117 s.1 s.2 o) (r104,0) r
def Yj2 (x1:Yfz) (r:Bool):Prop :=
 ∃ r19:Yfz,(Yiw x1 r19) ∧
 ∃ r47:List Bool,(Yi1 r19 r47) ∧
 ∃ r60:List Int,(Yj5 r19 r60) ∧
 ∃ r73:Yfz × Nat × Nat × Nat × (List (Yg8 × Nat)),(Ykr x1 r73) ∧
 ∃ r104:List Bool,(Yio (⟨(r73.1.terms.take r73.2.1),(r73.1.syms.take r73.2.2.1),((r73.2.2.2.2.take r73.2.2.2.1).map Yi5)⟩:Yfz) r104) ∧
 ∃ r117:List Int,(Yju (⟨(r73.1.terms.take r73.2.1),(r73.1.syms.take r73.2.2.1),((r73.2.2.2.2.take r73.2.2.2.1).map Yi5)⟩:Yfz) r117) ∧
 ∃ r26709:Bool,(Yib r104 r47 r26709) ∧
 if r26709=true then
  ∃ r26718:Bool,(Yia r117 r60 r26718) ∧
  if r26718=true then
   ∃ r26727:Bool,(Yjq (⟨r73.1.terms,r73.1.syms,[]⟩:Yfz) r73.2.1 r73.2.2.1 r73.2.2.2.2 r73.2.2.2.1 r19 r26727) ∧
   Yhz r73 r47 r60 x1 r19 r117 r104 (!r26727) r
  else
   Yhz r73 r47 r60 x1 r19 r117 r104 true r
 else
  Yhz r73 r47 r60 x1 r19 r117 r104 true r
end Go.Proofs.Ytelafghkjlpojaa.R
