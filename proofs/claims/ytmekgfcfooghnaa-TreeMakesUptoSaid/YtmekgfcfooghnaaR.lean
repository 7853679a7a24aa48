/- What the functions answer, as plain relations, printed by my own tool off the program's translation. No condition. -/
import Derived.Test.YtmekgfcfooghnaaP0
set_option linter.unusedVariables false
namespace Go.Proofs.Ytmekgfcfooghnaa.R
open Go.Proofs.Ytmekgfcfooghnaa.B
structure Xm4 where
 name:ByteArray
 named:Bool
 field:ByteArray
 from_:Int
 to:Int
 kids:Int
 leaf:Int
 deriving Inhabited,DecidableEq
structure Xnu where
 nodes:List Xm4
 parent:List Int
 end_:List Int
 ok:Bool
 deriving Inhabited,DecidableEq
structure Yeh where
 forest:Xnu
 at_:Int
 deriving Inhabited,DecidableEq
structure Ydx where
 stand:Yeh
 deriving Inhabited,DecidableEq
structure Xm6 where
 node:Xm4
 kids:List Xm6
 at_:Int
instance:Inhabited Xm6:=⟨⟨default,[],default⟩⟩
structure Xrt where
 name:ByteArray
 open_:Bool
 deriving Inhabited,DecidableEq
structure Xrr where
 name:ByteArray
 lit:Bool
 deriving Inhabited,DecidableEq
structure Xv5 where
 name:ByteArray
 kind:Int
 deriving Inhabited,DecidableEq
structure Xo0 where
 sym:Int
 field:ByteArray
 as:ByteArray
 deriving Inhabited,DecidableEq
structure Xs0 where
 lhs:Int
 rhs:List Xo0
 deriving Inhabited,DecidableEq
structure Xno where
 terms:List Xrr
 syms:List Xv5
 prods:List Xs0
 deriving Inhabited,DecidableEq
structure Xrd where
 op:Int
 set_:Int→Int
 a:Int
 b:Int
 deriving Inhabited
structure Xu6 where
 kind:Int
 n:Int
 deriving Inhabited,DecidableEq
structure Xvj where
 kind:Int
 n:Int
 m:Int
 deriving Inhabited,DecidableEq
structure Xux where
 term:Int
 pat:Int
 re:List Xrd
 lit:ByteArray
 in_:List Int
 tests:List Xu6
 acts:List Xvj
 deriving Inhabited
structure Xp7 where
 kind:Int
 n:Int
 deriving Inhabited,DecidableEq
structure Xxq where
 actions:List (List Xp7)
 gotos:List (List Int)
 deriving Inhabited,DecidableEq
structure Xr8 where
 name:ByteArray
 class_:ByteArray
 deriving Inhabited,DecidableEq
structure Xru where
 name:ByteArray
 field:ByteArray
 deriving Inhabited,DecidableEq
structure Xqo where
 name:ByteArray
 lang:ByteArray
 deriving Inhabited,DecidableEq
structure Xml where
 name:ByteArray
 modes:List Xrt
 gram:Xno
 rules:List Xux
 table:Xxq
 paints:List Xr8
 folds:List ByteArray
 marks:List Xru
 injects:List Xqo
 deriving Inhabited
def Xt7 (x:(List Xm4) × Nat):List Xm4:=x.1.take x.2
def Yeg (x:List Xm4):(List Xm4) × Nat:=(x,x.length)
def Xnz (x40:Int) (x1:List Xm4) (x207:List Int) (o2:Sum (List Int) (Sum ((List Int) × Int) Bool)):Prop :=
 if (x207.length:Int) > 0 then
  (0≤w64 ((x207.length:Int) - 1)∧w64 ((x207.length:Int) - 1) < (x207.length:Int)) ∧
  if ix x207 (w64 ((x207.length:Int) - 1))≤0 then
   (0≤(0:Int)∧(0:Int)≤w64 ((x207.length:Int) - 1)∧w64 ((x207.length:Int) - 1)≤(x207.length:Int)) ∧
   ∃ x256:List Int,(x256=x207.take (w64 ((x207.length:Int) - 1):Int).toNat) ∧
   o2=.inl x256
  else
   ∃ x260:List Int,(x260=x207.set (w64 ((x207.length:Int) - 1):Int).toNat (w64 ((ix x207 (w64 ((x207.length:Int) - 1))) - 1))) ∧
   (0≤x40∧x40 < (x1.length:Int)) ∧
   ∃ x275:List Int,(x275=x260++([(ix x1 x40).kids]:List Int)) ∧
   (x275.length * 8≤211106232532992) ∧
   if (x275.length:Int) > 65536 then
    o2=.inr (.inr (true))
   else
    o2=.inr (.inl (x275,w64 (x40 + 1)))
 else
  (0≤x40∧x40 < (x1.length:Int)) ∧
  ∃ x287:List Int,(x287=x207++([(ix x1 x40).kids]:List Int)) ∧
  (x287.length * 8≤211106232532992) ∧
  if (x287.length:Int) > 65536 then
   o2=.inr (.inr (true))
  else
   o2=.inr (.inl (x287,w64 (x40 + 1)))
def Xnw (x1:List Xm4) (x35:List Int) (x40:Int) (o1:Sum ((List Int) × Int) Bool):Prop :=
 if x40 < (x1.length:Int) then
  Xmh (fun (s:(List Int)) o=>Xnz x40 x1 s o) x35 o1
 else
  o1=.inr (false)
def Xof (x1:List Xm4) (r:Bool):Prop :=
 Xmh (fun (s:(List Int) × Int) o=>Xnw x1 s.1 s.2 o) (([]:List Int),0) r
def Xpn (x1:List Xm4) (r:List Xm4):Prop :=
 ∃ x10:List Xm4,(x10=([]:List Xm4)++x1) ∧
 (x10.length * 72≤211106232532992) ∧
 r=x10
def Xqu (x1:List Xm4) (r:(List Xm4) × Nat):Prop :=
 ∃ r9:List Xm4,(Xpn x1 r9) ∧
 ∃ x25:List Xm4,(x25=r9++([(⟨(⟨#[]⟩:ByteArray),false,(⟨#[]⟩:ByteArray),0,0,-71,0⟩:Xm4),(⟨(⟨#[]⟩:ByteArray),false,(⟨#[]⟩:ByteArray),0,0,-72,0⟩:Xm4)]:List Xm4)) ∧
 (x25.length * 72≤211106232532992) ∧
 (0≤(0:Int)∧(0:Int)≤(x1.length:Int)∧(x1.length:Int)≤(x25.length:Int)) ∧
 r=(x25,((x1.length:Int):Int).toNat)
def Xp4 (x355:Int) (x654:List Int) (x766:List Int) (x771:List Int) (x776:List Int) (o2:Sum ((List Int) × (List Int) × (List Int)) (Sum ((List Int) × (List Int) × Int × (List Int) × (List Int)) Xnu)):Prop :=
 if (x766.length:Int) > 0 then
  (0≤w64 ((x771.length:Int) - 1)∧w64 ((x771.length:Int) - 1) < (x771.length:Int)) ∧
  if ix x771 (w64 ((x771.length:Int) - 1))=0 then
   (0≤w64 ((x766.length:Int) - 1)∧w64 ((x766.length:Int) - 1) < (x766.length:Int)) ∧
   (0≤ix x766 (w64 ((x766.length:Int) - 1))∧ix x766 (w64 ((x766.length:Int) - 1)) < (x776.length:Int)) ∧
   ∃ x811:List Int,(x811=x776.set (ix x766 (w64 ((x766.length:Int) - 1)):Int).toNat (w64 (x355 + 1))) ∧
   (0≤(0:Int)∧(0:Int)≤w64 ((x766.length:Int) - 1)∧w64 ((x766.length:Int) - 1)≤(x766.length:Int)) ∧
   ∃ x818:List Int,(x818=x766.take (w64 ((x766.length:Int) - 1):Int).toNat) ∧
   (0≤(0:Int)∧(0:Int)≤w64 ((x771.length:Int) - 1)∧w64 ((x771.length:Int) - 1)≤(x771.length:Int)) ∧
   ∃ x823:List Int,(x823=x771.take (w64 ((x771.length:Int) - 1):Int).toNat) ∧
   o2=.inl (x818,x823,x811)
  else
   o2=.inr (.inl (x766,x771,w64 (x355 + 1),x654,x776))
 else
  o2=.inr (.inl (x766,x771,w64 (x355 + 1),x654,x776))
def Xp5 (x1:List Xm4) (x355:Int) (x358:List Int) (x345:List Int) (x652:List Int) (x654:List Int) (o1:Sum ((List Int) × (List Int) × Int × (List Int) × (List Int)) Xnu):Prop :=
 if (ix x1 x355).kids < 0 then
  o1=.inr ((⟨x1,x654,x358,false⟩:Xnu))
 else
  ∃ x663:List Int,(x663=x345++([x355]:List Int)) ∧
  (x663.length * 8≤211106232532992) ∧
  ∃ x672:List Int,(x672=x652++([(ix x1 x355).kids]:List Int)) ∧
  (x672.length * 8≤211106232532992) ∧
  Xmh (fun (s:(List Int) × (List Int) × (List Int)) o=>Xp4 x355 x654 s.1 s.2.1 s.2.2 o) (x663,x672,x358) o1
def Xph (x1:List Xm4) (x345:List Int) (x350:List Int) (x355:Int) (x356:List Int) (x358:List Int) (o1:Sum ((List Int) × (List Int) × Int × (List Int) × (List Int)) Xnu):Prop :=
 if x355 < (x1.length:Int) then
  (0≤x355∧x355 < (x1.length:Int)) ∧
  (0≤x355∧x355 < (x356.length:Int)) ∧
  ∃ x636:List Int,(x636=x356.set (x355:Int).toNat (-1)) ∧
  if (x345.length:Int) > 0 then
   (0≤w64 ((x345.length:Int) - 1)∧w64 ((x345.length:Int) - 1) < (x345.length:Int)) ∧
   (0≤x355∧x355 < (x636.length:Int)) ∧
   ∃ x891:List Int,(x891=x636.set (x355:Int).toNat (ix x345 (w64 ((x345.length:Int) - 1)))) ∧
   (0≤w64 ((x350.length:Int) - 1)∧w64 ((x350.length:Int) - 1) < (x350.length:Int)) ∧
   ∃ x897:List Int,(x897=x350.set (w64 ((x350.length:Int) - 1):Int).toNat (w64 ((ix x350 (w64 ((x350.length:Int) - 1))) - 1))) ∧
   Xp5 x1 x355 x358 x345 x897 x891 o1
  else
   Xp5 x1 x355 x358 x345 x350 x636 o1
 else
  o1=.inr ((⟨x1,x356,x358,((x345.length:Int) == 0)⟩:Xnu))
def Xtn (x1:List Xm4) (r:Xnu):Prop :=
 (0≤(x1.length:Int)∧(x1.length:Int) * 8≤281474976710656) ∧
 ∃ x12:List Int,(x12=List.replicate ((x1.length:Int):Int).toNat (0:Int)) ∧
 ∃ x17:List Int,(x17=List.replicate ((x1.length:Int):Int).toNat (0:Int)) ∧
 Xmh (fun (s:(List Int) × (List Int) × Int × (List Int) × (List Int)) o=>Xph x1 s.1 s.2.1 s.2.2.1 s.2.2.2.1 s.2.2.2.2 o) (([]:List Int),([]:List Int),0,x12,x17) r
def Xn5 (x1:List Xm4) (x6:Int) (rc_trellisref15_take:(List Xm4)→Int→(Xm6 × Int × Bool)→Prop) (x64:Int) (x65:Int) (x66:List Xm6) (o1:Sum (Int × Int × (List Xm6)) (Xm6 × Int × Bool)):Prop :=
 if x65 < (ix x1 x6).kids then
  ∃ r121:Xm6 × Int × Bool,(rc_trellisref15_take x1 x64 r121) ∧
  if r121.2.2=true then
   ∃ x151:List Xm6,(x151=x66++([r121.1]:List Xm6)) ∧
   (x151.length * 104≤211106232532992) ∧
   o1=.inl (r121.2.1,w64 (x65 + 1),x151)
  else
   o1=.inr (((⟨(⟨(⟨#[]⟩:ByteArray),false,(⟨#[]⟩:ByteArray),0,0,0,0⟩:Xm4),([]:List Xm6),0⟩:Xm6),x6,false))
 else
  o1=.inr (((⟨ix x1 x6,x66,x6⟩:Xm6),x64,true))
def Xni (x6:Int) (x1:List Xm4) (rc_trellisref15_take:(List Xm4)→Int→(Xm6 × Int × Bool)→Prop) (x15:Bool) (r:Xm6 × Int × Bool):Prop :=
 if x15=true then
  r=((⟨(⟨(⟨#[]⟩:ByteArray),false,(⟨#[]⟩:ByteArray),0,0,0,0⟩:Xm4),([]:List Xm6),0⟩:Xm6),x6,false)
 else
  (0≤x6∧x6 < (x1.length:Int)) ∧
  Xmh (fun (s:Int × Int × (List Xm6)) o=>Xn5 x1 x6 rc_trellisref15_take s.1 s.2.1 s.2.2 o) (w64 (x6 + 1),0,([]:List Xm6)) r
def Xnn (rc_trellisref15_take:(List Xm4)→Int→(Xm6 × Int × Bool)→Prop) (x1:List Xm4) (x6:Int) (r:Xm6 × Int × Bool):Prop :=
 if x6≥(x1.length:Int) then
  Xni x6 x1 rc_trellisref15_take true r
 else
  (0≤x6∧x6 < (x1.length:Int)) ∧
  if (ix x1 x6).kids < 0 then
   Xni x6 x1 rc_trellisref15_take true r
  else
   Xni x6 x1 rc_trellisref15_take (decide ((ix x1 x6).kids > (x1.length:Int))) r
def Xn2:Nat→(List Xm4)→Int→(Xm6 × Int × Bool)→Prop
 | 0=>fun _ _ _=>False
 | n + 1=>Xnn (Xn2 n)
def Xvf (x1:List Xm4) (x6:Int) (r:Xm6 × Int × Bool):Prop:=∃ n,Xn2 n x1 x6 r
def Xn0 (x1:List Xm4) (x48:List Xm6) (x57:Int) (o1:Sum ((List Xm6) × Int) ((List Xm6) × Bool)):Prop :=
 if x57 < (x1.length:Int) then
  ∃ r102:Xm6 × Int × Bool,(Xvf x1 x57 r102) ∧
  if r102.2.2=true then
   ∃ x132:List Xm6,(x132=x48++([r102.1]:List Xm6)) ∧
   (x132.length * 104≤211106232532992) ∧
   o1=.inl (x132,r102.2.1)
  else
   o1=.inr ((([]:List Xm6),false))
 else
  o1=.inr ((x48,true))
def Xog (x1:List Xm4) (r:(List Xm6) × Bool):Prop :=
 Xmh (fun (s:(List Xm6) × Int) o=>Xn0 x1 s.1 s.2 o) (([]:List Xm6),0) r
def Xp8 (x1:List Xm4) (x6:List Xm4) (x23:Int) (o1:Sum Int Bool):Prop :=
 if x23 < (x1.length:Int) then
  (0≤x23∧x23 < (x1.length:Int)) ∧
  (0≤x23∧x23 < (x6.length:Int)) ∧
  if ix x1 x23=ix x6 x23 then
   o1=.inl (w64 (x23 + 1))
  else
   o1=.inr (false)
 else
  o1=.inr (true)
def Xon (x1:List Xm4) (x6:List Xm4) (r:Bool):Prop :=
 if (x1.length:Int)=(x6.length:Int) then
  Xmh (fun (s:Int) o=>Xp8 x1 x6 s o) 0 r
 else
  r=false
def Xqs (x1:List Xm4) (k6:Nat) (x9:List Xm4) (r:Bool):Prop :=
 ∃ r17:Bool,(Xon (x1.take k6) x9 r17) ∧
 (0≤w64 ((x9.length:Int) + 2)∧w64 ((x9.length:Int) + 2)≤(x1.length:Int)) ∧
 if r17=true then
  (0≤(x9.length:Int)∧(x9.length:Int) < ((x1.take ((w64 ((x9.length:Int) + 2):Int).toNat)).length:Int)) ∧
  if (ix (x1.take ((w64 ((x9.length:Int) + 2):Int).toNat)) (x9.length:Int)).kids = -71 then
   (0≤w64 ((x9.length:Int) + 1)∧w64 ((x9.length:Int) + 1) < ((x1.take ((w64 ((x9.length:Int) + 2):Int).toNat)).length:Int)) ∧
   r=(((ix (x1.take ((w64 ((x9.length:Int) + 2):Int).toNat)) (w64 ((x9.length:Int) + 1))).kids) == (-72))
  else
   r=false
 else
  r=false
def Xnm (x1:List (List Xm4)) (x25:Int) (o1:Sum Int Bool):Prop :=
 if x25 < (x1.length:Int) then
  (0≤x25∧x25 < (x1.length:Int)) ∧
  ∃ r56:Bool,(Xof (ix x1 x25) r56) ∧
  if r56=true then
   o1=.inr (true)
  else
   o1=.inl (w64 (x25 + 1))
 else
  o1=.inr (false)
def Xqm (x1:List (List Xm4)) (r:Bool):Prop :=
 Xmh (fun (s:Int) o=>Xnm x1 s o) 0 r
def Xs1 (x46:Int) (x1:Xml) (x48:Int) (x49:Int) (x47:Int) (x54:Bool) (r:List Xm4):Prop :=
 if x54=true then
  r=([]:List Xm4)
 else
  (0≤x46∧x46 < (x1.gram.terms.length:Int)) ∧
  r=([(⟨(ix x1.gram.terms x46).name,(!((ix x1.gram.terms x46).lit)),(⟨#[]⟩:ByteArray),x48,x49,0,x47⟩:Xm4)]:List Xm4)
def Xuu (x1:Xml) (x46:Int) (x47:Int) (x48:Int) (x49:Int) (r:List Xm4):Prop :=
 if x46 < 1 then
  Xs1 x46 x1 x48 x49 x47 true r
 else
  Xs1 x46 x1 x48 x49 x47 (decide (x46≥(x1.gram.terms.length:Int))) r
def Xp1 (x46:Int) (x1:Xml) (x48:Int) (x49:Int) (x47:Int) (x54:Bool) (r:List Xm4):Prop :=
 if x54=true then
  r=([]:List Xm4)
 else
  (0≤x46∧x46 < (x1.gram.terms.length:Int)) ∧
  r=([(⟨(ix x1.gram.terms x46).name,(!((ix x1.gram.terms x46).lit)),(⟨#[]⟩:ByteArray),x48,x49,0,x47⟩:Xm4)]:List Xm4)
def Xqt (x1:Xml) (x46:Int) (x47:Int) (x48:Int) (x49:Int) (r:List Xm4):Prop :=
 if x46≤0 then
  Xp1 x46 x1 x48 x49 x47 true r
 else
  Xp1 x46 x1 x48 x49 x47 (decide (x46≥(x1.gram.terms.length:Int))) r
def Xpa (x14:Int) (x1:Xno) (x19:Bool) (r:Int):Prop :=
 if x19=true then
  r=2
 else
  if x14 < (x1.terms.length:Int) then
   r=0
  else
   (0≤w64 (x14 - (x1.terms.length:Int))∧w64 (x14 - (x1.terms.length:Int)) < (x1.syms.length:Int)) ∧
   if (ix x1.syms (w64 (x14 - (x1.terms.length:Int)))).kind=1 then
    r=1
   else
    r=2
def Xr9 (x1:Xno) (x14:Int) (r:Int):Prop :=
 if x14 < 0 then
  Xpa x14 x1 true r
 else
  Xpa x14 x1 (decide (x14≥w64 ((x1.terms.length:Int) + (x1.syms.length:Int)))) r
def Xov (x14:Int) (x1:Xno) (x19:Bool) (r:Bool):Prop :=
 if x19=true then
  r=false
 else
  (0≤x14∧x14 < (x1.terms.length:Int)) ∧
  if ((ix x1.terms x14).lit)=true then
   r=false
  else
   if (((ix x1.terms x14).name).size:Int) > 0 then
    (0≤(0:Int)∧(0:Int) < (((ix x1.terms x14).name).size:Int)) ∧
    r=((bt ((ix x1.terms x14).name) 0) == 95)
   else
    r=false
def Xpo (x1:Xno) (x14:Int) (r:Bool):Prop :=
 if x14 < 0 then
  Xov x14 x1 true r
 else
  Xov x14 x1 (decide (x14≥(x1.terms.length:Int))) r
def Xpv (x1:ByteArray) (x2:List Xm6) (x7:Int) (r:Xm6):Prop :=
 if (x2.length:Int) > 0 then
  (0≤(0:Int)∧(0:Int) < (x2.length:Int)) ∧
  (0≤w64 ((x2.length:Int) - 1)∧w64 ((x2.length:Int) - 1) < (x2.length:Int)) ∧
  r=(⟨(⟨x1,true,(⟨#[]⟩:ByteArray),((ix x2 0).node).from_,((ix x2 (w64 ((x2.length:Int) - 1))).node).to,0,-1⟩:Xm4),x2,0⟩:Xm6)
 else
  r=(⟨(⟨x1,true,(⟨#[]⟩:ByteArray),x7,x7,0,-1⟩:Xm4),x2,0⟩:Xm6)
def Xnr (x14:Xo0) (x244:List Xm6) (x248:Int) (o1:Sum ((List Xm6) × Int) (List Xm6)):Prop :=
 if x248 < (x244.length:Int) then
  (0≤x248∧x248 < (x244.length:Int)) ∧
  if ((ix x244 x248).node).field=(⟨#[]⟩:ByteArray) then
   ∃ x293:List Xm6,(x293=x244.set (x248:Int).toNat ({ (ix x244 x248) with node:=(⟨((ix x244 x248).node).name,((ix x244 x248).node).named,x14.field,((ix x244 x248).node).from_,((ix x244 x248).node).to,((ix x244 x248).node).kids,((ix x244 x248).node).leaf⟩:Xm4) })) ∧
   o1=.inl (x293,w64 (x248 + 1))
  else
   o1=.inl (x244,w64 (x248 + 1))
 else
  o1=.inr (x244)
def Xo3 (x14:Xo0) (x209:List Xm6) (r:List Xm6):Prop :=
 Xmh (fun (s:(List Xm6) × Int) o=>Xnr x14 s.1 s.2 o) (x209,0) r
def Xnf (x15:List Xm6) (x14:Xo0) (x379:List Xm6) (x386:Int) (o1:Sum ((List Xm6) × Int) (List Xm6)):Prop :=
 if x386 < (x15.length:Int) then
  (0≤x386∧x386 < (x15.length:Int)) ∧
  if x14.as=(⟨#[]⟩:ByteArray) then
   ∃ x446:List Xm6,(x446=x379++([ix x15 x386]:List Xm6)) ∧
   (x446.length * 104≤211106232532992) ∧
   o1=.inl (x446,w64 (x386 + 1))
  else
   ∃ x459:List Xm6,(x459=x379++([(⟨(⟨x14.as,true,((ix x15 x386).node).field,((ix x15 x386).node).from_,((ix x15 x386).node).to,((ix x15 x386).node).kids,((ix x15 x386).node).leaf⟩:Xm4),(ix x15 x386).kids,(ix x15 x386).at_⟩:Xm6)]:List Xm6)) ∧
   (x459.length * 104≤211106232532992) ∧
   o1=.inl (x459,w64 (x386 + 1))
 else
  ∃ q465:List Xm6,(o1=.inr (q465)) ∧
  Xo3 x14 x379 q465
def Xoz (x14:Xo0) (x15:List Xm6) (x20:Int) (x301:Bool) (r:List Xm6):Prop :=
 if x301=true then
  ∃ r306:Xm6,(Xpv x14.as x15 x20 r306) ∧
  ∃ x330:List Xm6,(x330=([]:List Xm6)++([r306]:List Xm6)) ∧
  (x330.length * 104≤211106232532992) ∧
  Xo3 x14 x330 r
 else
  Xmh (fun (s:(List Xm6) × Int) o=>Xnf x15 x14 s.1 s.2 o) (([]:List Xm6),0) r
def Xp0 (x14:Xo0) (x15:List Xm6) (x20:Int) (r28:Int) (x43:Bool) (r:List Xm6):Prop :=
 if x43=true then
  Xo3 x14 ([]:List Xm6) r
 else
  if x14.as=(⟨#[]⟩:ByteArray) then
   Xoz x14 x15 x20 false r
  else
   Xoz x14 x15 x20 (r28 == 2) r
def Xqv (x1:Xno) (x14:Xo0) (x15:List Xm6) (x20:Int) (r:List Xm6):Prop :=
 ∃ r28:Int,(Xr9 x1 x14.sym r28) ∧
 ∃ r36:Bool,(Xpo x1 x14.sym r36) ∧
 if x14.as=(⟨#[]⟩:ByteArray) then
  Xp0 x14 x15 x20 r28 r36 r
 else
  Xp0 x14 x15 x20 r28 false r
def Xnx (x1:List Xm6) (rc_trellisref15_list:(List Xm6)→(List Xm4)→Prop) (x61:List Xm4) (x66:Int) (o1:Sum ((List Xm4) × Int) (List Xm4)):Prop :=
 if x66 < (x1.length:Int) then
  (0≤x66∧x66 < (x1.length:Int)) ∧
  ∃ x144:List Xm4,(x144=x61++([(⟨((ix x1 x66).node).name,((ix x1 x66).node).named,((ix x1 x66).node).field,((ix x1 x66).node).from_,((ix x1 x66).node).to,(((ix x1 x66).kids).length:Int),((ix x1 x66).node).leaf⟩:Xm4)]:List Xm4)) ∧
  (x144.length * 72≤211106232532992) ∧
  ∃ r157:List Xm4,(rc_trellisref15_list ((ix x1 x66).kids) r157) ∧
  ∃ x170:List Xm4,(x170=x144++r157) ∧
  (x170.length * 72≤211106232532992) ∧
  o1=.inl (x170,w64 (x66 + 1))
 else
  o1=.inr (x61)
def Xpi (rc_trellisref15_list:(List Xm6)→(List Xm4)→Prop) (x1:List Xm6) (r:List Xm4):Prop :=
 Xmh (fun (s:(List Xm4) × Int) o=>Xnx x1 rc_trellisref15_list s.1 s.2 o) (([]:List Xm4),0) r
def Xpp:Nat→(List Xm6)→(List Xm4)→Prop
 | 0=>fun _ _=>False
 | n + 1=>Xpi (Xpp n)
def Xtb (x1:List Xm6) (r:List Xm4):Prop:=∃ n,Xpp n x1 r
def Xoa (x1:Xml) (x46:Int) (x52:List Int) (x386:List Xm6) (x848:Bool) (o1:Sum ((List Xm6) × Int) (List Xm4)):Prop :=
 if x848=true then
  (0≤(ix x1.gram.prods x46).lhs∧(ix x1.gram.prods x46).lhs < (x1.gram.syms.length:Int)) ∧
  (0≤(((ix x1.gram.prods x46).rhs).length:Int)∧(((ix x1.gram.prods x46).rhs).length:Int) < (x52.length:Int)) ∧
  ∃ r867:Xm6,(Xpv ((ix x1.gram.syms ((ix x1.gram.prods x46).lhs)).name) x386 (ix x52 (((ix x1.gram.prods x46).rhs).length:Int)) r867) ∧
  ∃ r949:List Xm4,(Xtb ([r867]:List Xm6) r949) ∧
  o1=.inr (r949)
 else
  ∃ r1016:List Xm4,(Xtb x386 r1016) ∧
  o1=.inr (r1016)
def Xny (x1:Xml) (x46:Int) (x47:List (List Xm4)) (x52:List Int) (x386:List Xm6) (x395:Int) (o1:Sum ((List Xm6) × Int) (List Xm4)):Prop :=
 if x395 < (((ix x1.gram.prods x46).rhs).length:Int) then
  (0≤x395∧x395 < (x47.length:Int)) ∧
  ∃ r725:(List Xm6) × Bool,(Xog (ix x47 x395) r725) ∧
  if r725.2=true then
   (0≤x395∧x395 < (((ix x1.gram.prods x46).rhs).length:Int)) ∧
   (0≤w64 (x395 + 1)∧w64 (x395 + 1) < (x52.length:Int)) ∧
   ∃ r757:List Xm6,(Xqv x1.gram (ix ((ix x1.gram.prods x46).rhs) x395) r725.1 (ix x52 (w64 (x395 + 1))) r757) ∧
   ∃ x837:List Xm6,(x837=x386++r757) ∧
   (x837.length * 104≤211106232532992) ∧
   o1=.inl (x837,w64 (x395 + 1))
  else
   o1=.inr (([]:List Xm4))
 else
  if (ix x1.gram.prods x46).lhs≥0 then
   if (ix x1.gram.prods x46).lhs < (x1.gram.syms.length:Int) then
    (0≤(ix x1.gram.prods x46).lhs∧(ix x1.gram.prods x46).lhs < (x1.gram.syms.length:Int)) ∧
    Xoa x1 x46 x52 x386 (((ix x1.gram.syms ((ix x1.gram.prods x46).lhs)).kind) == 1) o1
   else
    Xoa x1 x46 x52 x386 false o1
  else
   Xoa x1 x46 x52 x386 false o1
def Xos (x1:Xml) (x46:Int) (x47:List (List Xm4)) (x52:List Int) (x75:Bool) (r:List Xm4):Prop :=
 if x75=true then
  r=([]:List Xm4)
 else
  Xmh (fun (s:(List Xm6) × Int) o=>Xny x1 x46 x47 x52 s.1 s.2 o) (([]:List Xm6),0) r
def Xot (x46:Int) (x1:Xml) (x47:List (List Xm4)) (x52:List Int) (x61:Bool) (r:List Xm4):Prop :=
 if x61=true then
  r=([]:List Xm4)
 else
  (0≤x46∧x46 < (x1.gram.prods.length:Int)) ∧
  if (x47.length:Int)=(((ix x1.gram.prods x46).rhs).length:Int) then
   Xos x1 x46 x47 x52 ((x52.length:Int) != (w64 ((((ix x1.gram.prods x46).rhs).length:Int) + 1))) r
  else
   Xos x1 x46 x47 x52 true r
def Xqf (x1:Xml) (x46:Int) (x47:List (List Xm4)) (x52:List Int) (r:List Xm4):Prop :=
 if x46 < 0 then
  Xot x46 x1 x47 x52 true r
 else
  Xot x46 x1 x47 x52 (decide (x46≥(x1.gram.prods.length:Int))) r
def Xns (x15:Int) (x1:Xnu) (x32:Int) (x33:List Int) (o1:Sum (Int × (List Int)) (List Int)):Prop :=
 if x32 < x15 then
  ∃ x57:List Int,(x57=x33++([x32]:List Int)) ∧
  (x57.length * 8≤211106232532992) ∧
  (0≤x32∧x32 < (x1.end_.length:Int)) ∧
  o1=.inl (ix x1.end_ x32,x57)
 else
  o1=.inr (x33)
def Xqr (x1:Xnu) (x14:Int) (x15:Int) (r:List Int):Prop :=
 Xmh (fun (s:Int × (List Int)) o=>Xns x15 x1 s.1 s.2 o) (x14,([]:List Int)) r
def Xsb (x1:List Xm4) (r:List Int):Prop :=
 ∃ r9:Xnu,(Xtn x1 r9) ∧
 if r9.ok=true then
  ∃ r36:List Int,(Xqr r9 0 (x1.length:Int) r36) ∧
  r=r36
 else
  r=([]:List Int)
def Xv1 (x1:List Xm4) (r:Int):Prop :=
 ∃ r9:Xnu,(Xtn x1 r9) ∧
 if r9.ok=true then
  ∃ r34:List Int,(Xsb x1 r34) ∧
  r=(r34.length:Int)
 else
  r = -1
def Xo5 (x1:List Xm4) (r:List Xm4):Prop :=
 ∀ b6:Bool,(b6=true→x1=[]) →
 if b6=true then
  r=([]:List Xm4)
 else
  ∃ x15:List Xm4,(x15=([]:List Xm4)++x1) ∧
  (x15.length * 72≤211106232532992) ∧
  r=x15
def Xtp (x1:Xno) (x14:Int) (r:Bool):Prop :=
 if x14≥0 then
  r=decide (x14 < (x1.terms.length:Int))
 else
  r=false
def Xou (x1:ByteArray) (x2:ByteArray) (r:Bool):Prop :=
 if (x1.size:Int)≥(x2.size:Int) then
  (0≤(0:Int)∧(0:Int)≤(x2.size:Int)∧(x2.size:Int)≤(x1.size:Int)) ∧
  r=(seq (x1.extract (0:Int).toNat ((x2.size:Int):Int).toNat) x2)
 else
  r=false
def Xs4 (x1:ByteArray) (x2:ByteArray) (r:Bool):Prop :=
 ∃ r6:Bool,(Xou x1 x2 r6) ∧
 r=r6
def Xu3 (x1:Xno) (x14:Int) (r:Bool):Prop :=
 ∃ r20:Bool,(Xtp x1 x14 r20) ∧
 if r20=true then
  (0≤x14∧x14 < (x1.terms.length:Int)) ∧
  if ((ix x1.terms x14).lit)=true then
   r=false
  else
   ∃ r33:Bool,(Xs4 ((ix x1.terms x14).name) (⟨#[95]⟩:ByteArray) r33) ∧
   r=r33
 else
  r=false
def Xto (x1:Xml) (x46:Int) (x47:List Xm4) (r:List Xm4):Prop :=
 ∃ r57:Bool,(Xu3 x1.gram x46 r57) ∧
 if r57=true then
  r=([]:List Xm4)
 else
  ∃ r66:List Xm4,(Xo5 x47 r66) ∧
  r=r66
def Xuw (x1:Xno) (x14:Int) (r:Bool):Prop :=
 if x14≥0 then
  if w64 (x14 - (x1.terms.length:Int))≥0 then
   if w64 (x14 - (x1.terms.length:Int)) < (x1.syms.length:Int) then
    (0≤w64 (x14 - (x1.terms.length:Int))∧w64 (x14 - (x1.terms.length:Int)) < (x1.syms.length:Int)) ∧
    r=(((ix x1.syms (w64 (x14 - (x1.terms.length:Int)))).kind) == 1)
   else
    r=false
  else
   r=false
 else
  r=false
def Xuo (x1:ByteArray) (x2:List Xm4) (x7:Int) (r:List Xm4):Prop :=
 ∃ r13:List Int,(Xsb x2 r13) ∧
 if (r13.length:Int) > 0 then
  (0≤(0:Int)∧(0:Int) < (r13.length:Int)) ∧
  (0≤ix r13 0∧ix r13 0 < (x2.length:Int)) ∧
  (0≤w64 ((r13.length:Int) - 1)∧w64 ((r13.length:Int) - 1) < (r13.length:Int)) ∧
  (0≤ix r13 (w64 ((r13.length:Int) - 1))∧ix r13 (w64 ((r13.length:Int) - 1)) < (x2.length:Int)) ∧
  ∃ x40:List Xm4,(x40=([(⟨x1,true,(⟨#[]⟩:ByteArray),(ix x2 (ix r13 0)).from_,(ix x2 (ix r13 (w64 ((r13.length:Int) - 1)))).to,(r13.length:Int),-1⟩:Xm4)]:List Xm4)++x2) ∧
  (x40.length * 72≤211106232532992) ∧
  r=x40
 else
  ∃ x49:List Xm4,(x49=([(⟨x1,true,(⟨#[]⟩:ByteArray),x7,x7,(r13.length:Int),-1⟩:Xm4)]:List Xm4)++x2) ∧
  (x49.length * 72≤211106232532992) ∧
  r=x49
def Xr1 (r190:List Int) (x46:Xo0) (x208:List Xm4) (x210:Int) (o1:Sum ((List Xm4) × Int) (List Xm4)):Prop :=
 if x210 < (r190.length:Int) then
  (0≤x210∧x210 < (r190.length:Int)) ∧
  (0≤ix r190 x210∧ix r190 x210 < (x208.length:Int)) ∧
  if (ix x208 (ix r190 x210)).field=(⟨#[]⟩:ByteArray) then
   ∃ x222:List Xm4,(x222=x208.set (ix r190 x210:Int).toNat ({ (ix x208 (ix r190 x210)) with field:=x46.field })) ∧
   o1=.inl (x222,w64 (x210 + 1))
  else
   o1=.inl (x208,w64 (x210 + 1))
 else
  o1=.inr (x208)
def Xrv (x46:Xo0) (x182:List Xm4) (r:List Xm4):Prop :=
 ∃ r190:List Int,(Xsb x182 r190) ∧
 Xmh (fun (s:(List Xm4) × Int) o=>Xr1 r190 x46 s.1 s.2 o) (x182,0) r
def Xr6 (r274:List Int) (x46:Xo0) (x297:List Xm4) (x299:Int) (o1:Sum ((List Xm4) × Int) (List Xm4)):Prop :=
 if x299 < (r274.length:Int) then
  (0≤x299∧x299 < (r274.length:Int)) ∧
  (0≤ix r274 x299∧ix r274 x299 < (x297.length:Int)) ∧
  ∃ x315:List Xm4,(x315=x297.set (ix r274 x299:Int).toNat ({ (ix x297 (ix r274 x299)) with name:=x46.as })) ∧
  (0≤ix r274 x299∧ix r274 x299 < (x315.length:Int)) ∧
  ∃ x319:List Xm4,(x319=x315.set (ix r274 x299:Int).toNat ({ (ix x315 (ix r274 x299)) with named:=true })) ∧
  o1=.inl (x319,w64 (x299 + 1))
 else
  ∃ q322:List Xm4,(o1=.inr (q322)) ∧
  Xrv x46 x297 q322
def Xrx (x46:Xo0) (r60:List Xm4) (x52:Int) (x256:Bool) (r:List Xm4):Prop :=
 if x256=true then
  ∃ r261:List Xm4,(Xuo x46.as r60 x52 r261) ∧
  Xrv x46 r261 r
 else
  ∃ r274:List Int,(Xsb r60 r274) ∧
  Xmh (fun (s:(List Xm4) × Int) o=>Xr6 r274 x46 s.1 s.2 o) (r60,0) r
def Xvx (x1:Xml) (x46:Xo0) (x47:List Xm4) (x52:Int) (r:List Xm4):Prop :=
 ∃ r60:List Xm4,(Xo5 x47 r60) ∧
 if x46.as=(⟨#[]⟩:ByteArray) then
  ∃ r228:List Xm4,(Xto x1 x46.sym x47 r228) ∧
  Xrv x46 r228 r
 else
  ∃ r327:Bool,(Xtp x1.gram x46.sym r327) ∧
  if r327=true then
   Xrx x46 r60 x52 false r
  else
   ∃ r336:Bool,(Xuw x1.gram x46.sym r336) ∧
   Xrx x46 r60 x52 (!r336) r
def Xqq (x1:Xml) (x46:Int) (x52:List Int) (x285:List Xm4) (x592:Bool) (o1:Sum ((List Xm4) × Int) (List Xm4)):Prop :=
 if x592=true then
  (0≤(ix x1.gram.prods x46).lhs∧(ix x1.gram.prods x46).lhs < (x1.gram.syms.length:Int)) ∧
  (0≤(((ix x1.gram.prods x46).rhs).length:Int)∧(((ix x1.gram.prods x46).rhs).length:Int) < (x52.length:Int)) ∧
  ∃ r601:List Xm4,(Xuo ((ix x1.gram.syms ((ix x1.gram.prods x46).lhs)).name) x285 (ix x52 (((ix x1.gram.prods x46).rhs).length:Int)) r601) ∧
  o1=.inr (r601)
 else
  o1=.inr (x285)
def Xq1 (x1:Xml) (x46:Int) (x47:List (List Xm4)) (x52:List Int) (x285:List Xm4) (x290:Int) (o1:Sum ((List Xm4) × Int) (List Xm4)):Prop :=
 if x290 < (((ix x1.gram.prods x46).rhs).length:Int) then
  (0≤x290∧x290 < (((ix x1.gram.prods x46).rhs).length:Int)) ∧
  (0≤x290∧x290 < (x47.length:Int)) ∧
  ∃ r491:Int,(Xv1 (ix x47 x290) r491) ∧
  if r491 < 0 then
   o1=.inr (([]:List Xm4))
  else
   (0≤w64 (x290 + 1)∧w64 (x290 + 1) < (x52.length:Int)) ∧
   ∃ r509:List Xm4,(Xvx x1 (ix ((ix x1.gram.prods x46).rhs) x290) (ix x47 x290) (ix x52 (w64 (x290 + 1))) r509) ∧
   ∃ x522:List Xm4,(x522=x285++r509) ∧
   (x522.length * 72≤211106232532992) ∧
   o1=.inl (x522,w64 (x290 + 1))
 else
  if (ix x1.gram.prods x46).lhs≥0 then
   if (ix x1.gram.prods x46).lhs < (x1.gram.syms.length:Int) then
    (0≤(ix x1.gram.prods x46).lhs∧(ix x1.gram.prods x46).lhs < (x1.gram.syms.length:Int)) ∧
    Xqq x1 x46 x52 x285 (((ix x1.gram.syms ((ix x1.gram.prods x46).lhs)).kind) == 1) o1
   else
    Xqq x1 x46 x52 x285 false o1
  else
   Xqq x1 x46 x52 x285 false o1
def Xro (x1:Xml) (x46:Int) (x47:List (List Xm4)) (x52:List Int) (x75:Bool) (r:List Xm4):Prop :=
 if x75=true then
  r=([]:List Xm4)
 else
  Xmh (fun (s:(List Xm4) × Int) o=>Xq1 x1 x46 x47 x52 s.1 s.2 o) (([]:List Xm4),0) r
def Xrn (x46:Int) (x1:Xml) (x47:List (List Xm4)) (x52:List Int) (x61:Bool) (r:List Xm4):Prop :=
 if x61=true then
  r=([]:List Xm4)
 else
  (0≤x46∧x46 < (x1.gram.prods.length:Int)) ∧
  if (x47.length:Int)=(((ix x1.gram.prods x46).rhs).length:Int) then
   Xro x1 x46 x47 x52 ((x52.length:Int) != (w64 ((((ix x1.gram.prods x46).rhs).length:Int) + 1))) r
  else
   Xro x1 x46 x47 x52 true r
def Xu4 (x1:Xml) (x46:Int) (x47:List (List Xm4)) (x52:List Int) (r:List Xm4):Prop :=
 if x46 < 0 then
  Xrn x46 x1 x47 x52 true r
 else
  Xrn x46 x1 x47 x52 (decide (x46≥(x1.gram.prods.length:Int))) r
def Xoe (x1:List Int) (x6:List Int) (x23:Int) (o1:Sum Int Bool):Prop :=
 if x23 < (x1.length:Int) then
  (0≤x23∧x23 < (x1.length:Int)) ∧
  (0≤x23∧x23 < (x6.length:Int)) ∧
  if ix x1 x23=ix x6 x23 then
   o1=.inl (w64 (x23 + 1))
  else
   o1=.inr (false)
 else
  o1=.inr (true)
def Xpt (x1:List Int) (x6:List Int) (r:Bool):Prop :=
 if (x1.length:Int)=(x6.length:Int) then
  Xmh (fun (s:Int) o=>Xoe x1 x6 s o) 0 r
 else
  r=false
def Xr2 (x1:Xml) (x46:Int) (x47:List Xm4) (r:List Xm4):Prop :=
 ∃ r57:Bool,(Xpo x1.gram x46 r57) ∧
 if r57=true then
  r=([]:List Xm4)
 else
  ∃ x67:List Xm4,(x67=([]:List Xm4)++x47) ∧
  (x67.length * 72≤211106232532992) ∧
  r=x67
def Xoy (x65:List (List Xm4)) (x1:Xml) (x46:Int) (x53:List (List Xm4 × Nat)) (k54:Nat) (x594:Int) (o1:Sum Int Bool):Prop :=
 if x594 < (x65.length:Int) then
  (0≤x594∧x594 < (x65.length:Int)) ∧
  ∃ r848:List Xm4,(Xr2 x1 x46 (ix x65 x594) r848) ∧
  (0≤x594∧x594 < ((x53.take k54).length:Int)) ∧
  ∃ r924:List Xm4,(Xto x1 x46 (((ix (x53.take k54) x594).1).take ((ix (x53.take k54) x594).2)) r924) ∧
  ∃ r993:Bool,(Xon r924 r848 r993) ∧
  if r993=true then
   ∃ r1017:Bool,(Xqs ((ix (x53.take k54) x594).1) ((ix (x53.take k54) x594).2) (ix x65 x594) r1017) ∧
   if r1017=true then
    o1=.inl (w64 (x594 + 1))
   else
    o1=.inr (false)
  else
   o1=.inr (false)
 else
  o1=.inr (true)
def Xo2 (x65:List (List Xm4)) (x1:Xml) (x46:Int) (x53:List (List Xm4 × Nat)) (k54:Nat) (x350:Bool) (r:Bool):Prop :=
 if x350=true then
  r=false
 else
  Xmh (fun (s:Int) o=>Xoy x65 x1 x46 x53 k54 s o) 0 r
def Xpw (x1:Xml) (x46:Int) (x47:Int) (x48:List (List Xm4)) (x53:List (List Xm4 × Nat)) (k54:Nat) (x57:List Int) (k62:Nat) (x65:List (List Xm4)) (x70:List Int) (r:Bool):Prop :=
 ∃ r80:List Xm4,(Xqf x1 x47 x65 x70 r80) ∧
 ∃ r93:List Xm4,(Xu4 x1 x47 ((x53.take k54).map Xt7) (x57.take k62) r93) ∧
 ∃ r106:Bool,(Xon r93 r80 r106) ∧
 (0≤w64 ((x65.length:Int) + 2)∧w64 ((x65.length:Int) + 2)≤(x53.length:Int)) ∧
 (0≤w64 ((x70.length:Int) + 2)∧w64 ((x70.length:Int) + 2)≤(x57.length:Int)) ∧
 if r106=true then
  ∃ r1081:Bool,(Xpt (x57.take k62) x70 r1081) ∧
  if r1081=true then
   (0≤(x65.length:Int)∧(x65.length:Int) < ((x53.take ((w64 ((x65.length:Int) + 2):Int).toNat)).length:Int)) ∧
   (0≤w64 ((x65.length:Int) + 1)∧w64 ((x65.length:Int) + 1) < ((x53.take ((w64 ((x65.length:Int) + 2):Int).toNat)).length:Int)) ∧
   if w64 (((((ix (x53.take ((w64 ((x65.length:Int) + 2):Int).toNat)) (x65.length:Int)).1).take ((ix (x53.take ((w64 ((x65.length:Int) + 2):Int).toNat)) (x65.length:Int)).2)).length:Int) + ((((ix (x53.take ((w64 ((x65.length:Int) + 2):Int).toNat)) (w64 ((x65.length:Int) + 1))).1).take ((ix (x53.take ((w64 ((x65.length:Int) + 2):Int).toNat)) (w64 ((x65.length:Int) + 1))).2)).length:Int)) > 0 then
    Xo2 x65 x1 x46 x53 k54 true r
   else
    (0≤(x70.length:Int)∧(x70.length:Int) < ((x57.take ((w64 ((x70.length:Int) + 2):Int).toNat)).length:Int)) ∧
    if ix (x57.take ((w64 ((x70.length:Int) + 2):Int).toNat)) (x70.length:Int) = -71 then
     (0≤w64 ((x70.length:Int) + 1)∧w64 ((x70.length:Int) + 1) < ((x57.take ((w64 ((x70.length:Int) + 2):Int).toNat)).length:Int)) ∧
     Xo2 x65 x1 x46 x53 k54 ((ix (x57.take ((w64 ((x70.length:Int) + 2):Int).toNat)) (w64 ((x70.length:Int) + 1))) != (-72)) r
    else
     Xo2 x65 x1 x46 x53 k54 true r
  else
   Xo2 x65 x1 x46 x53 k54 true r
 else
  Xo2 x65 x1 x46 x53 k54 true r
def Xnc (x1:List (List Xm4)) (x45:List (List Xm4)) (x52:Int) (o1:Sum ((List (List Xm4)) × Int) (List (List Xm4))):Prop :=
 if x52 < (x1.length:Int) then
  (0≤x52∧x52 < (x1.length:Int)) ∧
  ∃ r101:List Xm4,(Xpn (ix x1 x52) r101) ∧
  ∃ x120:List (List Xm4),(x120=x45++([r101]:List (List Xm4))) ∧
  (x120.length * 24≤211106232532992) ∧
  o1=.inl (x120,w64 (x52 + 1))
 else
  o1=.inr (x45)
def Xpm (x1:List (List Xm4)) (r:List (List Xm4)):Prop :=
 Xmh (fun (s:(List (List Xm4)) × Int) o=>Xnc x1 s.1 s.2 o) (([]:List (List Xm4)),0) r
def Xn3 (x5538:Int) (x52:List (List Xm4)) (x6483:List (List Xm4 × Nat)) (x6486:Int) (o3:Sum ((List (List Xm4 × Nat)) × Int) (Sum ((List (List Xm4 × Nat)) × Int) (Sum ((List (List Xm4 × Nat)) × Int) Bool))):Prop :=
 (0≤x5538∧x5538 < ((x6483.take (((x52.length:Int):Int).toNat)).length:Int)) ∧
 if x6486 < ((((ix x6483 x5538).1).take ((ix x6483 x5538).2)).length:Int) then
  (0≤x6486∧x6486 < ((((ix x6483 x5538).1).take ((ix x6483 x5538).2)).length:Int)) ∧
  (((ix ((ix x6483 x5538).1) x6486).name).size + (⟨#[113]⟩:ByteArray).size≤9223372036854775807) ∧
  ∃ x6720:List Xm4,(x6720=((ix x6483 x5538).1).set (x6486:Int).toNat ({ (ix ((ix x6483 x5538).1) x6486) with name:=((ix ((ix x6483 x5538).1) x6486).name)++(⟨#[113]⟩:ByteArray) })) ∧
  ∃ x6722:List (List Xm4 × Nat),(x6722=x6483.set (x5538:Int).toNat (x6720,(ix x6483 x5538).2)) ∧
  (0≤x5538∧x5538 < ((x6722.take (((x52.length:Int):Int).toNat)).length:Int)) ∧
  (0≤x6486∧x6486 < ((((ix x6722 x5538).1).take ((ix x6722 x5538).2)).length:Int)) ∧
  ∃ x6805:List Xm4,(x6805=((ix x6722 x5538).1).set (x6486:Int).toNat ({ (ix ((ix x6722 x5538).1) x6486) with to:=w64 (((ix ((ix x6722 x5538).1) x6486).to) + 1) })) ∧
  ∃ x6807:List (List Xm4 × Nat),(x6807=x6722.set (x5538:Int).toNat (x6805,(ix x6722 x5538).2)) ∧
  (0≤x5538∧x5538 < ((x6807.take (((x52.length:Int):Int).toNat)).length:Int)) ∧
  (0≤x6486∧x6486 < ((((ix x6807 x5538).1).take ((ix x6807 x5538).2)).length:Int)) ∧
  ∃ x6881:List Xm4,(x6881=((ix x6807 x5538).1).set (x6486:Int).toNat ({ (ix ((ix x6807 x5538).1) x6486) with field:=(⟨#[111,116,104,101,114]⟩:ByteArray) })) ∧
  ∃ x6883:List (List Xm4 × Nat),(x6883=x6807.set (x5538:Int).toNat (x6881,(ix x6807 x5538).2)) ∧
  o3=.inl (x6883,w64 (x6486 + 1))
 else
  o3=.inr (.inl (x6483,w64 (x5538 + 1)))
def Xnd (x52:List (List Xm4)) (x1:Xml) (x50:Int) (x51:Int) (x4781:List Int) (x57:List Int) (x5535:List (List Xm4 × Nat)) (x5538:Int) (o2:Sum ((List (List Xm4 × Nat)) × Int) (Sum ((List (List Xm4 × Nat)) × Int) Bool)):Prop :=
 if x5538 < ((x5535.take (((x52.length:Int):Int).toNat)).length:Int) then
  Xmh (fun (s:(List (List Xm4 × Nat)) × Int) o=>Xn3 x5538 x52 s.1 s.2 o) (x5535,0) o2
 else
  ∃ r6896:List (List Xm4),(Xpm ((x5535.take (((x52.length:Int):Int).toNat)).map Xt7) r6896) ∧
  ∃ r6912:Bool,(Xpw x1 x50 x51 [] x5535 (((x52.length:Int):Int).toNat) x4781 (((x57.length:Int):Int).toNat) r6896 x57 r6912) ∧
  o2=.inr (.inr (r6912))
def Xnb (x52:List (List Xm4)) (x57:List Int) (x1:Xml) (x50:Int) (x51:Int) (x2411:List (List Xm4 × Nat)) (x2418:Int) (o1:Sum ((List (List Xm4 × Nat)) × Int) Bool):Prop :=
 if x2418 < (x52.length:Int) then
  (0≤x2418∧x2418 < (x52.length:Int)) ∧
  ∃ r4728:(List Xm4) × Nat,(Xqu (ix x52 x2418) r4728) ∧
  ∃ x4748:List (List Xm4 × Nat),(x4748=x2411++([(r4728.1,r4728.2)]:List (List Xm4 × Nat))) ∧
  (x4748.length * 24≤211106232532992) ∧
  o1=.inl (x4748,w64 (x2418 + 1))
 else
  ∃ x4761:List (List Xm4 × Nat),(x4761=x2411++([(([]:List Xm4),0),(([]:List Xm4),0)]:List (List Xm4 × Nat))) ∧
  (x4761.length * 24≤211106232532992) ∧
  (0≤(0:Int)∧(0:Int)≤(x52.length:Int)∧(x52.length:Int)≤(x4761.length:Int)) ∧
  ∃ x4772:List Int,(x4772=([]:List Int)++x57) ∧
  (x4772.length * 8≤211106232532992) ∧
  ∃ x4781:List Int,(x4781=x4772++([-71,-72]:List Int)) ∧
  (x4781.length * 8≤211106232532992) ∧
  (0≤(0:Int)∧(0:Int)≤(x57.length:Int)∧(x57.length:Int)≤(x4781.length:Int)) ∧
  ∃ r4789:Bool,(Xpw x1 x50 x51 [] x4761 (((x52.length:Int):Int).toNat) x4781 (((x57.length:Int):Int).toNat) x52 x57 r4789) ∧
  if r4789=true then
   Xmh (fun (s:(List (List Xm4 × Nat)) × Int) o=>Xnd x52 x1 x50 x51 x4781 x57 s.1 s.2 o) (x4761,0) o1
  else
   o1=.inr (false)
def Xqj (x1:Xml) (x46:Int) (x47:Int) (x48:Int) (x49:Int) (x50:Int) (x51:Int) (x52:List (List Xm4)) (x57:List Int) (r:Bool):Prop :=
 ∃ r68:Bool,(Xqm x52 r68) ∧
 if r68=true then
  r=true
 else
  ∃ r77:List Xm4,(Xuu x1 x46 x47 x48 x49 r77) ∧
  ∃ r90:List Xm4,(Xqt x1 x46 x47 x48 x49 r90) ∧
  ∃ r103:Bool,(Xon r77 r90 r103) ∧
  if r103=true then
   Xmh (fun (s:(List (List Xm4 × Nat)) × Int) o=>Xnb x52 x57 x1 x50 x51 s.1 s.2 o) (([]:List (List Xm4 × Nat)),0) r
  else
   r=false
end Go.Proofs.Ytmekgfcfooghnaa.R
