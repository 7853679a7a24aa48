/- What the functions answer, as plain relations, printed by my own tool off the program's translation. No condition. -/
import Derived.Test.YtmekgfcfooghnaaP0
set_option linter.unusedVariables false
namespace Go.Proofs.Ytmekgfcfooghnaa.R
open Go.Proofs.Ytmekgfcfooghnaa.B
structure Xm4 where
 name:ByteArray
 named:Bool
 field:ByteArray
 from_:Int
 to:Int
 kids:Int
 leaf:Int
 deriving Inhabited,DecidableEq
structure Xn6 where
 nodes:List Xm4
 parent:List Int
 end_:List Int
 ok:Bool
 deriving Inhabited,DecidableEq
structure Ygp where
 forest:Xn6
 at_:Int
 deriving Inhabited,DecidableEq
structure Yfm where
 stand:Ygp
 deriving Inhabited,DecidableEq
structure Xm7 where
 node:Xm4
 kids:List Xm7
 at_:Int
instance:Inhabited Xm7:=⟨⟨default,[],default⟩⟩
structure Xps where
 name:ByteArray
 open_:Bool
 deriving Inhabited,DecidableEq
structure Xna where
 name:ByteArray
 lit:Bool
 deriving Inhabited,DecidableEq
structure Xq9 where
 name:ByteArray
 kind:Int
 deriving Inhabited,DecidableEq
structure Xn1 where
 sym:Int
 field:ByteArray
 as:ByteArray
 deriving Inhabited,DecidableEq
structure Xnz where
 lhs:Int
 rhs:List Xn1
 deriving Inhabited,DecidableEq
structure Xnn where
 terms:List Xna
 syms:List Xq9
 prods:List Xnz
 deriving Inhabited,DecidableEq
structure Xrq where
 op:Int
 set_:Int→Int
 a:Int
 b:Int
 deriving Inhabited
structure Xuo where
 kind:Int
 n:Int
 deriving Inhabited,DecidableEq
structure Xwa where
 kind:Int
 n:Int
 m:Int
 deriving Inhabited,DecidableEq
structure Xsk where
 term:Int
 pat:Int
 re:List Xrq
 lit:ByteArray
 in_:List Int
 tests:List Xuo
 acts:List Xwa
 deriving Inhabited
structure Xoi where
 kind:Int
 n:Int
 deriving Inhabited,DecidableEq
structure Xtb where
 actions:List (List Xoi)
 gotos:List (List Int)
 deriving Inhabited,DecidableEq
structure Xpe where
 name:ByteArray
 class_:ByteArray
 deriving Inhabited,DecidableEq
structure Xpu where
 name:ByteArray
 field:ByteArray
 deriving Inhabited,DecidableEq
structure Xow where
 name:ByteArray
 lang:ByteArray
 deriving Inhabited,DecidableEq
structure Xmw where
 name:ByteArray
 modes:List Xps
 gram:Xnn
 rules:List Xsk
 table:Xtb
 paints:List Xpe
 folds:List ByteArray
 marks:List Xpu
 injects:List Xow
 deriving Inhabited
structure Xmf where
 addr:Bool
 buf:List Int
 deriving Inhabited
def Xod (x40:Int) (x1:List Xm4) (x207:List Int) (o2:Sum (List Int) (Sum ((List Int) × Int) Bool)):Prop :=
 if (x207.length:Int) > 0 then
  (0≤w64 ((x207.length:Int) - 1)∧w64 ((x207.length:Int) - 1) < (x207.length:Int)) ∧
  if ix x207 (w64 ((x207.length:Int) - 1))≤0 then
   (0≤(0:Int)∧(0:Int)≤w64 ((x207.length:Int) - 1)∧w64 ((x207.length:Int) - 1)≤(x207.length:Int)) ∧
   ∃ x256:List Int,(x256=x207.take (w64 ((x207.length:Int) - 1):Int).toNat) ∧
   o2=.inl x256
  else
   ∃ x260:List Int,(x260=x207.set (w64 ((x207.length:Int) - 1):Int).toNat (w64 ((ix x207 (w64 ((x207.length:Int) - 1))) - 1))) ∧
   (0≤x40∧x40 < (x1.length:Int)) ∧
   ∃ x275:List Int,(x275=x260++([(ix x1 x40).kids]:List Int)) ∧
   (x275.length * 8≤211106232532992) ∧
   if (x275.length:Int) > 65536 then
    o2=.inr (.inr (true))
   else
    o2=.inr (.inl (x275,w64 (x40 + 1)))
 else
  (0≤x40∧x40 < (x1.length:Int)) ∧
  ∃ x287:List Int,(x287=x207++([(ix x1 x40).kids]:List Int)) ∧
  (x287.length * 8≤211106232532992) ∧
  if (x287.length:Int) > 65536 then
   o2=.inr (.inr (true))
  else
   o2=.inr (.inl (x287,w64 (x40 + 1)))
def Xob (x1:List Xm4) (x35:List Int) (x40:Int) (o1:Sum ((List Int) × Int) Bool):Prop :=
 if x40 < (x1.length:Int) then
  Xmi (fun (s:(List Int)) o=>Xod x40 x1 s o) x35 o1
 else
  o1=.inr (false)
def Xoy (x1:List Xm4) (r:Bool):Prop :=
 Xmi (fun (s:(List Int) × Int) o=>Xob x1 s.1 s.2 o) (([]:List Int),0) r
def Xp1 (x1:List Xm4) (r:List Xm4):Prop :=
 ∃ x10:List Xm4,(x10=([]:List Xm4)++x1) ∧
 (x10.length * 72≤211106232532992) ∧
 r=x10
def Xpn (x355:Int) (x654:List Int) (x766:List Int) (x771:List Int) (x776:List Int) (o2:Sum ((List Int) × (List Int) × (List Int)) (Sum ((List Int) × (List Int) × Int × (List Int) × (List Int)) Xn6)):Prop :=
 if (x766.length:Int) > 0 then
  (0≤w64 ((x771.length:Int) - 1)∧w64 ((x771.length:Int) - 1) < (x771.length:Int)) ∧
  if ix x771 (w64 ((x771.length:Int) - 1))=0 then
   (0≤w64 ((x766.length:Int) - 1)∧w64 ((x766.length:Int) - 1) < (x766.length:Int)) ∧
   (0≤ix x766 (w64 ((x766.length:Int) - 1))∧ix x766 (w64 ((x766.length:Int) - 1)) < (x776.length:Int)) ∧
   ∃ x811:List Int,(x811=x776.set (ix x766 (w64 ((x766.length:Int) - 1)):Int).toNat (w64 (x355 + 1))) ∧
   (0≤(0:Int)∧(0:Int)≤w64 ((x766.length:Int) - 1)∧w64 ((x766.length:Int) - 1)≤(x766.length:Int)) ∧
   ∃ x818:List Int,(x818=x766.take (w64 ((x766.length:Int) - 1):Int).toNat) ∧
   (0≤(0:Int)∧(0:Int)≤w64 ((x771.length:Int) - 1)∧w64 ((x771.length:Int) - 1)≤(x771.length:Int)) ∧
   ∃ x823:List Int,(x823=x771.take (w64 ((x771.length:Int) - 1):Int).toNat) ∧
   o2=.inl (x818,x823,x811)
  else
   o2=.inr (.inl (x766,x771,w64 (x355 + 1),x654,x776))
 else
  o2=.inr (.inl (x766,x771,w64 (x355 + 1),x654,x776))
def Xpm (x1:List Xm4) (x355:Int) (x358:List Int) (x345:List Int) (x652:List Int) (x654:List Int) (o1:Sum ((List Int) × (List Int) × Int × (List Int) × (List Int)) Xn6):Prop :=
 if (ix x1 x355).kids < 0 then
  o1=.inr ((⟨x1,x654,x358,false⟩:Xn6))
 else
  ∃ x663:List Int,(x663=x345++([x355]:List Int)) ∧
  (x663.length * 8≤211106232532992) ∧
  ∃ x672:List Int,(x672=x652++([(ix x1 x355).kids]:List Int)) ∧
  (x672.length * 8≤211106232532992) ∧
  Xmi (fun (s:(List Int) × (List Int) × (List Int)) o=>Xpn x355 x654 s.1 s.2.1 s.2.2 o) (x663,x672,x358) o1
def Xpx (x1:List Xm4) (x345:List Int) (x350:List Int) (x355:Int) (x356:List Int) (x358:List Int) (o1:Sum ((List Int) × (List Int) × Int × (List Int) × (List Int)) Xn6):Prop :=
 if x355 < (x1.length:Int) then
  (0≤x355∧x355 < (x1.length:Int)) ∧
  (0≤x355∧x355 < (x356.length:Int)) ∧
  ∃ x636:List Int,(x636=x356.set (x355:Int).toNat (-1)) ∧
  if (x345.length:Int) > 0 then
   (0≤w64 ((x345.length:Int) - 1)∧w64 ((x345.length:Int) - 1) < (x345.length:Int)) ∧
   (0≤x355∧x355 < (x636.length:Int)) ∧
   ∃ x891:List Int,(x891=x636.set (x355:Int).toNat (ix x345 (w64 ((x345.length:Int) - 1)))) ∧
   (0≤w64 ((x350.length:Int) - 1)∧w64 ((x350.length:Int) - 1) < (x350.length:Int)) ∧
   ∃ x897:List Int,(x897=x350.set (w64 ((x350.length:Int) - 1):Int).toNat (w64 ((ix x350 (w64 ((x350.length:Int) - 1))) - 1))) ∧
   Xpm x1 x355 x358 x345 x897 x891 o1
  else
   Xpm x1 x355 x358 x345 x350 x636 o1
 else
  o1=.inr ((⟨x1,x356,x358,((x345.length:Int) == 0)⟩:Xn6))
def Xsv (x1:List Xm4) (r:Xn6):Prop :=
 (0≤(x1.length:Int)∧(x1.length:Int) * 8≤281474976710656) ∧
 ∃ x12:List Int,(x12=List.replicate ((x1.length:Int):Int).toNat (0:Int)) ∧
 ∃ x17:List Int,(x17=List.replicate ((x1.length:Int):Int).toNat (0:Int)) ∧
 Xmi (fun (s:(List Int) × (List Int) × Int × (List Int) × (List Int)) o=>Xpx x1 s.1 s.2.1 s.2.2.1 s.2.2.2.1 s.2.2.2.2 o) (([]:List Int),([]:List Int),0,x12,x17) r
def Xsh (x1:Xn6) (x14:Int) (r:Bool):Prop :=
 if x1.ok=true then
  if x14≥0 then
   r=decide (x14 < (x1.nodes.length:Int))
  else
   r=false
 else
  r=false
def Xnf (x1:List Xm4) (x6:Int) (rc_trellisref15_take:(List Xm4)→Int→(Xm7 × Int × Bool)→Prop) (x64:Int) (x65:Int) (x66:List Xm7) (o1:Sum (Int × Int × (List Xm7)) (Xm7 × Int × Bool)):Prop :=
 if x65 < (ix x1 x6).kids then
  ∃ r121:Xm7 × Int × Bool,(rc_trellisref15_take x1 x64 r121) ∧
  if r121.2.2=true then
   ∃ x151:List Xm7,(x151=x66++([r121.1]:List Xm7)) ∧
   (x151.length * 104≤211106232532992) ∧
   o1=.inl (r121.2.1,w64 (x65 + 1),x151)
  else
   o1=.inr (((⟨(⟨(⟨#[]⟩:ByteArray),false,(⟨#[]⟩:ByteArray),0,0,0,0⟩:Xm4),([]:List Xm7),0⟩:Xm7),x6,false))
 else
  o1=.inr (((⟨ix x1 x6,x66,x6⟩:Xm7),x64,true))
def Xnq (x6:Int) (x1:List Xm4) (rc_trellisref15_take:(List Xm4)→Int→(Xm7 × Int × Bool)→Prop) (x15:Bool) (r:Xm7 × Int × Bool):Prop :=
 if x15=true then
  r=((⟨(⟨(⟨#[]⟩:ByteArray),false,(⟨#[]⟩:ByteArray),0,0,0,0⟩:Xm4),([]:List Xm7),0⟩:Xm7),x6,false)
 else
  (0≤x6∧x6 < (x1.length:Int)) ∧
  Xmi (fun (s:Int × Int × (List Xm7)) o=>Xnf x1 x6 rc_trellisref15_take s.1 s.2.1 s.2.2 o) (w64 (x6 + 1),0,([]:List Xm7)) r
def Xo1 (rc_trellisref15_take:(List Xm4)→Int→(Xm7 × Int × Bool)→Prop) (x1:List Xm4) (x6:Int) (r:Xm7 × Int × Bool):Prop :=
 if x6≥(x1.length:Int) then
  Xnq x6 x1 rc_trellisref15_take true r
 else
  (0≤x6∧x6 < (x1.length:Int)) ∧
  if (ix x1 x6).kids < 0 then
   Xnq x6 x1 rc_trellisref15_take true r
  else
   Xnq x6 x1 rc_trellisref15_take (decide ((ix x1 x6).kids > (x1.length:Int))) r
def Xnd:Nat→(List Xm4)→Int→(Xm7 × Int × Bool)→Prop
 | 0=>fun _ _ _=>False
 | n + 1=>Xo1 (Xnd n)
def Xw4 (x1:List Xm4) (x6:Int) (r:Xm7 × Int × Bool):Prop:=∃ n,Xnd n x1 x6 r
def Xnc (x1:List Xm4) (x48:List Xm7) (x57:Int) (o1:Sum ((List Xm7) × Int) ((List Xm7) × Bool)):Prop :=
 if x57 < (x1.length:Int) then
  ∃ r102:Xm7 × Int × Bool,(Xw4 x1 x57 r102) ∧
  if r102.2.2=true then
   ∃ x132:List Xm7,(x132=x48++([r102.1]:List Xm7)) ∧
   (x132.length * 104≤211106232532992) ∧
   o1=.inl (x132,r102.2.1)
  else
   o1=.inr ((([]:List Xm7),false))
 else
  o1=.inr ((x48,true))
def Xox (x1:List Xm4) (r:(List Xm7) × Bool):Prop :=
 Xmi (fun (s:(List Xm7) × Int) o=>Xnc x1 s.1 s.2 o) (([]:List Xm7),0) r
def Xpt (x1:List Xm4) (x6:List Xm4) (x23:Int) (o1:Sum Int Bool):Prop :=
 if x23 < (x1.length:Int) then
  (0≤x23∧x23 < (x1.length:Int)) ∧
  (0≤x23∧x23 < (x6.length:Int)) ∧
  if ix x1 x23=ix x6 x23 then
   o1=.inl (w64 (x23 + 1))
  else
   o1=.inr (false)
 else
  o1=.inr (true)
def Xo4 (x1:List Xm4) (x6:List Xm4) (r:Bool):Prop :=
 if (x1.length:Int)=(x6.length:Int) then
  Xmi (fun (s:Int) o=>Xpt x1 x6 s o) 0 r
 else
  r=false
def Xnv (x1:List (List Xm4)) (x25:Int) (o1:Sum Int Bool):Prop :=
 if x25 < (x1.length:Int) then
  (0≤x25∧x25 < (x1.length:Int)) ∧
  ∃ r56:Bool,(Xoy (ix x1 x25) r56) ∧
  if r56=true then
   o1=.inr (true)
  else
   o1=.inl (w64 (x25 + 1))
 else
  o1=.inr (false)
def Xr0 (x1:List (List Xm4)) (r:Bool):Prop :=
 Xmi (fun (s:Int) o=>Xnv x1 s o) 0 r
def Xsm (x46:Int) (x1:Xmw) (x48:Int) (x49:Int) (x47:Int) (x54:Bool) (r:List Xm4):Prop :=
 if x54=true then
  r=([]:List Xm4)
 else
  (0≤x46∧x46 < (x1.gram.terms.length:Int)) ∧
  r=([(⟨(ix x1.gram.terms x46).name,(!((ix x1.gram.terms x46).lit)),(⟨#[]⟩:ByteArray),x48,x49,0,x47⟩:Xm4)]:List Xm4)
def Xvu (x1:Xmw) (x46:Int) (x47:Int) (x48:Int) (x49:Int) (r:List Xm4):Prop :=
 if x46 < 1 then
  Xsm x46 x1 x48 x49 x47 true r
 else
  Xsm x46 x1 x48 x49 x47 (decide (x46≥(x1.gram.terms.length:Int))) r
def Xpr (x14:Int) (x1:Xnn) (x19:Bool) (r:Int):Prop :=
 if x19=true then
  r=2
 else
  if x14 < (x1.terms.length:Int) then
   r=0
  else
   (0≤w64 (x14 - (x1.terms.length:Int))∧w64 (x14 - (x1.terms.length:Int)) < (x1.syms.length:Int)) ∧
   if (ix x1.syms (w64 (x14 - (x1.terms.length:Int)))).kind=1 then
    r=1
   else
    r=2
def Xre (x1:Xnn) (x14:Int) (r:Int):Prop :=
 if x14 < 0 then
  Xpr x14 x1 true r
 else
  Xpr x14 x1 (decide (x14≥w64 ((x1.terms.length:Int) + (x1.syms.length:Int)))) r
def Xpg (x14:Int) (x1:Xnn) (x19:Bool) (r:Bool):Prop :=
 if x19=true then
  r=false
 else
  (0≤x14∧x14 < (x1.terms.length:Int)) ∧
  if ((ix x1.terms x14).lit)=true then
   r=false
  else
   if (((ix x1.terms x14).name).size:Int) > 0 then
    (0≤(0:Int)∧(0:Int) < (((ix x1.terms x14).name).size:Int)) ∧
    r=((bt ((ix x1.terms x14).name) 0) == 95)
   else
    r=false
def Xqs (x1:Xnn) (x14:Int) (r:Bool):Prop :=
 if x14 < 0 then
  Xpg x14 x1 true r
 else
  Xpg x14 x1 (decide (x14≥(x1.terms.length:Int))) r
def Xqe (x1:ByteArray) (x2:List Xm7) (x7:Int) (r:Xm7):Prop :=
 if (x2.length:Int) > 0 then
  (0≤(0:Int)∧(0:Int) < (x2.length:Int)) ∧
  (0≤w64 ((x2.length:Int) - 1)∧w64 ((x2.length:Int) - 1) < (x2.length:Int)) ∧
  r=(⟨(⟨x1,true,(⟨#[]⟩:ByteArray),((ix x2 0).node).from_,((ix x2 (w64 ((x2.length:Int) - 1))).node).to,0,-1⟩:Xm4),x2,0⟩:Xm7)
 else
  r=(⟨(⟨x1,true,(⟨#[]⟩:ByteArray),x7,x7,0,-1⟩:Xm4),x2,0⟩:Xm7)
def Xo8 (x14:Xn1) (x244:List Xm7) (x248:Int) (o1:Sum ((List Xm7) × Int) (List Xm7)):Prop :=
 if x248 < (x244.length:Int) then
  (0≤x248∧x248 < (x244.length:Int)) ∧
  if ((ix x244 x248).node).field=(⟨#[]⟩:ByteArray) then
   ∃ x293:List Xm7,(x293=x244.set (x248:Int).toNat ({ (ix x244 x248) with node:=(⟨((ix x244 x248).node).name,((ix x244 x248).node).named,x14.field,((ix x244 x248).node).from_,((ix x244 x248).node).to,((ix x244 x248).node).kids,((ix x244 x248).node).leaf⟩:Xm4) })) ∧
   o1=.inl (x293,w64 (x248 + 1))
  else
   o1=.inl (x244,w64 (x248 + 1))
 else
  o1=.inr (x244)
def Xog (x14:Xn1) (x209:List Xm7) (r:List Xm7):Prop :=
 Xmi (fun (s:(List Xm7) × Int) o=>Xo8 x14 s.1 s.2 o) (x209,0) r
def Xno (x15:List Xm7) (x14:Xn1) (x379:List Xm7) (x386:Int) (o1:Sum ((List Xm7) × Int) (List Xm7)):Prop :=
 if x386 < (x15.length:Int) then
  (0≤x386∧x386 < (x15.length:Int)) ∧
  if x14.as=(⟨#[]⟩:ByteArray) then
   ∃ x446:List Xm7,(x446=x379++([ix x15 x386]:List Xm7)) ∧
   (x446.length * 104≤211106232532992) ∧
   o1=.inl (x446,w64 (x386 + 1))
  else
   ∃ x459:List Xm7,(x459=x379++([(⟨(⟨x14.as,true,((ix x15 x386).node).field,((ix x15 x386).node).from_,((ix x15 x386).node).to,((ix x15 x386).node).kids,((ix x15 x386).node).leaf⟩:Xm4),(ix x15 x386).kids,(ix x15 x386).at_⟩:Xm7)]:List Xm7)) ∧
   (x459.length * 104≤211106232532992) ∧
   o1=.inl (x459,w64 (x386 + 1))
 else
  ∃ q465:List Xm7,(o1=.inr (q465)) ∧
  Xog x14 x379 q465
def Xpi (x14:Xn1) (x15:List Xm7) (x20:Int) (x301:Bool) (r:List Xm7):Prop :=
 if x301=true then
  ∃ r306:Xm7,(Xqe x14.as x15 x20 r306) ∧
  ∃ x330:List Xm7,(x330=([]:List Xm7)++([r306]:List Xm7)) ∧
  (x330.length * 104≤211106232532992) ∧
  Xog x14 x330 r
 else
  Xmi (fun (s:(List Xm7) × Int) o=>Xno x15 x14 s.1 s.2 o) (([]:List Xm7),0) r
def Xpl (x14:Xn1) (x15:List Xm7) (x20:Int) (r28:Int) (x43:Bool) (r:List Xm7):Prop :=
 if x43=true then
  Xog x14 ([]:List Xm7) r
 else
  if x14.as=(⟨#[]⟩:ByteArray) then
   Xpi x14 x15 x20 false r
  else
   Xpi x14 x15 x20 (r28 == 2) r
def Xr6 (x1:Xnn) (x14:Xn1) (x15:List Xm7) (x20:Int) (r:List Xm7):Prop :=
 ∃ r28:Int,(Xre x1 x14.sym r28) ∧
 ∃ r36:Bool,(Xqs x1 x14.sym r36) ∧
 if x14.as=(⟨#[]⟩:ByteArray) then
  Xpl x14 x15 x20 r28 r36 r
 else
  Xpl x14 x15 x20 r28 false r
def Xof (x1:List Xm7) (rc_trellisref15_list:(List Xm7)→(List Xm4)→Prop) (x61:List Xm4) (x66:Int) (o1:Sum ((List Xm4) × Int) (List Xm4)):Prop :=
 if x66 < (x1.length:Int) then
  (0≤x66∧x66 < (x1.length:Int)) ∧
  ∃ x144:List Xm4,(x144=x61++([(⟨((ix x1 x66).node).name,((ix x1 x66).node).named,((ix x1 x66).node).field,((ix x1 x66).node).from_,((ix x1 x66).node).to,(((ix x1 x66).kids).length:Int),((ix x1 x66).node).leaf⟩:Xm4)]:List Xm4)) ∧
  (x144.length * 72≤211106232532992) ∧
  ∃ r157:List Xm4,(rc_trellisref15_list ((ix x1 x66).kids) r157) ∧
  ∃ x170:List Xm4,(x170=x144++r157) ∧
  (x170.length * 72≤211106232532992) ∧
  o1=.inl (x170,w64 (x66 + 1))
 else
  o1=.inr (x61)
def Xpz (rc_trellisref15_list:(List Xm7)→(List Xm4)→Prop) (x1:List Xm7) (r:List Xm4):Prop :=
 Xmi (fun (s:(List Xm4) × Int) o=>Xof x1 rc_trellisref15_list s.1 s.2 o) (([]:List Xm4),0) r
def Xq4:Nat→(List Xm7)→(List Xm4)→Prop
 | 0=>fun _ _=>False
 | n + 1=>Xpz (Xq4 n)
def Xu5 (x1:List Xm7) (r:List Xm4):Prop:=∃ n,Xq4 n x1 r
def Xor (x1:Xmw) (x46:Int) (x52:List Int) (x386:List Xm7) (x848:Bool) (o1:Sum ((List Xm7) × Int) (List Xm4)):Prop :=
 if x848=true then
  (0≤(ix x1.gram.prods x46).lhs∧(ix x1.gram.prods x46).lhs < (x1.gram.syms.length:Int)) ∧
  (0≤(((ix x1.gram.prods x46).rhs).length:Int)∧(((ix x1.gram.prods x46).rhs).length:Int) < (x52.length:Int)) ∧
  ∃ r867:Xm7,(Xqe ((ix x1.gram.syms ((ix x1.gram.prods x46).lhs)).name) x386 (ix x52 (((ix x1.gram.prods x46).rhs).length:Int)) r867) ∧
  ∃ r949:List Xm4,(Xu5 ([r867]:List Xm7) r949) ∧
  o1=.inr (r949)
 else
  ∃ r1016:List Xm4,(Xu5 x386 r1016) ∧
  o1=.inr (r1016)
def Xoe (x1:Xmw) (x46:Int) (x47:List (List Xm4)) (x52:List Int) (x386:List Xm7) (x395:Int) (o1:Sum ((List Xm7) × Int) (List Xm4)):Prop :=
 if x395 < (((ix x1.gram.prods x46).rhs).length:Int) then
  (0≤x395∧x395 < (x47.length:Int)) ∧
  ∃ r725:(List Xm7) × Bool,(Xox (ix x47 x395) r725) ∧
  if r725.2=true then
   (0≤x395∧x395 < (((ix x1.gram.prods x46).rhs).length:Int)) ∧
   (0≤w64 (x395 + 1)∧w64 (x395 + 1) < (x52.length:Int)) ∧
   ∃ r757:List Xm7,(Xr6 x1.gram (ix ((ix x1.gram.prods x46).rhs) x395) r725.1 (ix x52 (w64 (x395 + 1))) r757) ∧
   ∃ x837:List Xm7,(x837=x386++r757) ∧
   (x837.length * 104≤211106232532992) ∧
   o1=.inl (x837,w64 (x395 + 1))
  else
   o1=.inr (([]:List Xm4))
 else
  if (ix x1.gram.prods x46).lhs≥0 then
   if (ix x1.gram.prods x46).lhs < (x1.gram.syms.length:Int) then
    (0≤(ix x1.gram.prods x46).lhs∧(ix x1.gram.prods x46).lhs < (x1.gram.syms.length:Int)) ∧
    Xor x1 x46 x52 x386 (((ix x1.gram.syms ((ix x1.gram.prods x46).lhs)).kind) == 1) o1
   else
    Xor x1 x46 x52 x386 false o1
  else
   Xor x1 x46 x52 x386 false o1
def Xpb (x1:Xmw) (x46:Int) (x47:List (List Xm4)) (x52:List Int) (x75:Bool) (r:List Xm4):Prop :=
 if x75=true then
  r=([]:List Xm4)
 else
  Xmi (fun (s:(List Xm7) × Int) o=>Xoe x1 x46 x47 x52 s.1 s.2 o) (([]:List Xm7),0) r
def Xpa (x46:Int) (x1:Xmw) (x47:List (List Xm4)) (x52:List Int) (x61:Bool) (r:List Xm4):Prop :=
 if x61=true then
  r=([]:List Xm4)
 else
  (0≤x46∧x46 < (x1.gram.prods.length:Int)) ∧
  if (x47.length:Int)=(((ix x1.gram.prods x46).rhs).length:Int) then
   Xpb x1 x46 x47 x52 ((x52.length:Int) != (w64 ((((ix x1.gram.prods x46).rhs).length:Int) + 1))) r
  else
   Xpb x1 x46 x47 x52 true r
def Xqr (x1:Xmw) (x46:Int) (x47:List (List Xm4)) (x52:List Int) (r:List Xm4):Prop :=
 if x46 < 0 then
  Xpa x46 x1 x47 x52 true r
 else
  Xpa x46 x1 x47 x52 (decide (x46≥(x1.gram.prods.length:Int))) r
def Xo7 (x15:Int) (x1:Xn6) (x32:Int) (x33:List Int) (o1:Sum (Int × (List Int)) (List Int)):Prop :=
 if x32 < x15 then
  ∃ x57:List Int,(x57=x33++([x32]:List Int)) ∧
  (x57.length * 8≤211106232532992) ∧
  (0≤x32∧x32 < (x1.end_.length:Int)) ∧
  o1=.inl (ix x1.end_ x32,x57)
 else
  o1=.inr (x33)
def Xqd (x1:Xn6) (x14:Int) (x15:Int) (r:List Int):Prop :=
 Xmi (fun (s:Int × (List Int)) o=>Xo7 x15 x1 s.1 s.2 o) (x14,([]:List Int)) r
def Xsw (x1:List Xm4) (r:List Int):Prop :=
 ∃ r9:Xn6,(Xsv x1 r9) ∧
 if r9.ok=true then
  ∃ r36:List Int,(Xqd r9 0 (x1.length:Int) r36) ∧
  r=r36
 else
  r=([]:List Int)
def Xuc (x1:List Xm4) (r:Int):Prop :=
 ∃ r9:Xn6,(Xsv x1 r9) ∧
 if r9.ok=true then
  ∃ r34:List Int,(Xsw x1 r34) ∧
  r=(r34.length:Int)
 else
  r = -1
def Xol (x1:List Xm4) (r:List Xm4):Prop :=
 ∀ b6:Bool,(b6=true→x1=[]) →
 if b6=true then
  r=([]:List Xm4)
 else
  ∃ x15:List Xm4,(x15=([]:List Xm4)++x1) ∧
  (x15.length * 72≤211106232532992) ∧
  r=x15
def Xud (x1:Xnn) (x14:Int) (r:Bool):Prop :=
 if x14≥0 then
  r=decide (x14 < (x1.terms.length:Int))
 else
  r=false
def Xpf (x1:ByteArray) (x2:ByteArray) (r:Bool):Prop :=
 if (x1.size:Int)≥(x2.size:Int) then
  (0≤(0:Int)∧(0:Int)≤(x2.size:Int)∧(x2.size:Int)≤(x1.size:Int)) ∧
  r=(seq (x1.extract (0:Int).toNat ((x2.size:Int):Int).toNat) x2)
 else
  r=false
def Xsq (x1:ByteArray) (x2:ByteArray) (r:Bool):Prop :=
 ∃ r6:Bool,(Xpf x1 x2 r6) ∧
 r=r6
def Xul (x1:Xnn) (x14:Int) (r:Bool):Prop :=
 ∃ r20:Bool,(Xud x1 x14 r20) ∧
 if r20=true then
  (0≤x14∧x14 < (x1.terms.length:Int)) ∧
  if ((ix x1.terms x14).lit)=true then
   r=false
  else
   ∃ r33:Bool,(Xsq ((ix x1.terms x14).name) (⟨#[95]⟩:ByteArray) r33) ∧
   r=r33
 else
  r=false
def Xue (x1:Xmw) (x46:Int) (x47:List Xm4) (r:List Xm4):Prop :=
 ∃ r57:Bool,(Xul x1.gram x46 r57) ∧
 if r57=true then
  r=([]:List Xm4)
 else
  ∃ r66:List Xm4,(Xol x47 r66) ∧
  r=r66
def Xvs (x1:Xnn) (x14:Int) (r:Bool):Prop :=
 if x14≥0 then
  if w64 (x14 - (x1.terms.length:Int))≥0 then
   if w64 (x14 - (x1.terms.length:Int)) < (x1.syms.length:Int) then
    (0≤w64 (x14 - (x1.terms.length:Int))∧w64 (x14 - (x1.terms.length:Int)) < (x1.syms.length:Int)) ∧
    r=(((ix x1.syms (w64 (x14 - (x1.terms.length:Int)))).kind) == 1)
   else
    r=false
  else
   r=false
 else
  r=false
def Xvl (x1:ByteArray) (x2:List Xm4) (x7:Int) (r:List Xm4):Prop :=
 ∃ r13:List Int,(Xsw x2 r13) ∧
 if (r13.length:Int) > 0 then
  (0≤(0:Int)∧(0:Int) < (r13.length:Int)) ∧
  (0≤ix r13 0∧ix r13 0 < (x2.length:Int)) ∧
  (0≤w64 ((r13.length:Int) - 1)∧w64 ((r13.length:Int) - 1) < (r13.length:Int)) ∧
  (0≤ix r13 (w64 ((r13.length:Int) - 1))∧ix r13 (w64 ((r13.length:Int) - 1)) < (x2.length:Int)) ∧
  ∃ x40:List Xm4,(x40=([(⟨x1,true,(⟨#[]⟩:ByteArray),(ix x2 (ix r13 0)).from_,(ix x2 (ix r13 (w64 ((r13.length:Int) - 1)))).to,(r13.length:Int),-1⟩:Xm4)]:List Xm4)++x2) ∧
  (x40.length * 72≤211106232532992) ∧
  r=x40
 else
  ∃ x49:List Xm4,(x49=([(⟨x1,true,(⟨#[]⟩:ByteArray),x7,x7,(r13.length:Int),-1⟩:Xm4)]:List Xm4)++x2) ∧
  (x49.length * 72≤211106232532992) ∧
  r=x49
def Xrl (r190:List Int) (x46:Xn1) (x208:List Xm4) (x210:Int) (o1:Sum ((List Xm4) × Int) (List Xm4)):Prop :=
 if x210 < (r190.length:Int) then
  (0≤x210∧x210 < (r190.length:Int)) ∧
  (0≤ix r190 x210∧ix r190 x210 < (x208.length:Int)) ∧
  if (ix x208 (ix r190 x210)).field=(⟨#[]⟩:ByteArray) then
   ∃ x222:List Xm4,(x222=x208.set (ix r190 x210:Int).toNat ({ (ix x208 (ix r190 x210)) with field:=x46.field })) ∧
   o1=.inl (x222,w64 (x210 + 1))
  else
   o1=.inl (x208,w64 (x210 + 1))
 else
  o1=.inr (x208)
def Xsa (x46:Xn1) (x182:List Xm4) (r:List Xm4):Prop :=
 ∃ r190:List Int,(Xsw x182 r190) ∧
 Xmi (fun (s:(List Xm4) × Int) o=>Xrl r190 x46 s.1 s.2 o) (x182,0) r
def Xri (r274:List Int) (x46:Xn1) (x297:List Xm4) (x299:Int) (o1:Sum ((List Xm4) × Int) (List Xm4)):Prop :=
 if x299 < (r274.length:Int) then
  (0≤x299∧x299 < (r274.length:Int)) ∧
  (0≤ix r274 x299∧ix r274 x299 < (x297.length:Int)) ∧
  ∃ x315:List Xm4,(x315=x297.set (ix r274 x299:Int).toNat ({ (ix x297 (ix r274 x299)) with name:=x46.as })) ∧
  (0≤ix r274 x299∧ix r274 x299 < (x315.length:Int)) ∧
  ∃ x319:List Xm4,(x319=x315.set (ix r274 x299:Int).toNat ({ (ix x315 (ix r274 x299)) with named:=true })) ∧
  o1=.inl (x319,w64 (x299 + 1))
 else
  ∃ q322:List Xm4,(o1=.inr (q322)) ∧
  Xsa x46 x297 q322
def Xsc (x46:Xn1) (r60:List Xm4) (x52:Int) (x256:Bool) (r:List Xm4):Prop :=
 if x256=true then
  ∃ r261:List Xm4,(Xvl x46.as r60 x52 r261) ∧
  Xsa x46 r261 r
 else
  ∃ r274:List Int,(Xsw r60 r274) ∧
  Xmi (fun (s:(List Xm4) × Int) o=>Xri r274 x46 s.1 s.2 o) (r60,0) r
def Xx0 (x1:Xmw) (x46:Xn1) (x47:List Xm4) (x52:Int) (r:List Xm4):Prop :=
 ∃ r60:List Xm4,(Xol x47 r60) ∧
 if x46.as=(⟨#[]⟩:ByteArray) then
  ∃ r228:List Xm4,(Xue x1 x46.sym x47 r228) ∧
  Xsa x46 r228 r
 else
  ∃ r327:Bool,(Xud x1.gram x46.sym r327) ∧
  if r327=true then
   Xsc x46 r60 x52 false r
  else
   ∃ r336:Bool,(Xvs x1.gram x46.sym r336) ∧
   Xsc x46 r60 x52 (!r336) r
def Xr9 (x1:Xmw) (x46:Int) (x52:List Int) (x285:List Xm4) (x592:Bool) (o1:Sum ((List Xm4) × Int) (List Xm4)):Prop :=
 if x592=true then
  (0≤(ix x1.gram.prods x46).lhs∧(ix x1.gram.prods x46).lhs < (x1.gram.syms.length:Int)) ∧
  (0≤(((ix x1.gram.prods x46).rhs).length:Int)∧(((ix x1.gram.prods x46).rhs).length:Int) < (x52.length:Int)) ∧
  ∃ r601:List Xm4,(Xvl ((ix x1.gram.syms ((ix x1.gram.prods x46).lhs)).name) x285 (ix x52 (((ix x1.gram.prods x46).rhs).length:Int)) r601) ∧
  o1=.inr (r601)
 else
  o1=.inr (x285)
def Xql (x1:Xmw) (x46:Int) (x47:List (List Xm4)) (x52:List Int) (x285:List Xm4) (x290:Int) (o1:Sum ((List Xm4) × Int) (List Xm4)):Prop :=
 if x290 < (((ix x1.gram.prods x46).rhs).length:Int) then
  (0≤x290∧x290 < (((ix x1.gram.prods x46).rhs).length:Int)) ∧
  (0≤x290∧x290 < (x47.length:Int)) ∧
  ∃ r491:Int,(Xuc (ix x47 x290) r491) ∧
  if r491 < 0 then
   o1=.inr (([]:List Xm4))
  else
   (0≤w64 (x290 + 1)∧w64 (x290 + 1) < (x52.length:Int)) ∧
   ∃ r509:List Xm4,(Xx0 x1 (ix ((ix x1.gram.prods x46).rhs) x290) (ix x47 x290) (ix x52 (w64 (x290 + 1))) r509) ∧
   ∃ x522:List Xm4,(x522=x285++r509) ∧
   (x522.length * 72≤211106232532992) ∧
   o1=.inl (x522,w64 (x290 + 1))
 else
  if (ix x1.gram.prods x46).lhs≥0 then
   if (ix x1.gram.prods x46).lhs < (x1.gram.syms.length:Int) then
    (0≤(ix x1.gram.prods x46).lhs∧(ix x1.gram.prods x46).lhs < (x1.gram.syms.length:Int)) ∧
    Xr9 x1 x46 x52 x285 (((ix x1.gram.syms ((ix x1.gram.prods x46).lhs)).kind) == 1) o1
   else
    Xr9 x1 x46 x52 x285 false o1
  else
   Xr9 x1 x46 x52 x285 false o1
def Xs5 (x1:Xmw) (x46:Int) (x47:List (List Xm4)) (x52:List Int) (x75:Bool) (r:List Xm4):Prop :=
 if x75=true then
  r=([]:List Xm4)
 else
  Xmi (fun (s:(List Xm4) × Int) o=>Xql x1 x46 x47 x52 s.1 s.2 o) (([]:List Xm4),0) r
def Xrz (x46:Int) (x1:Xmw) (x47:List (List Xm4)) (x52:List Int) (x61:Bool) (r:List Xm4):Prop :=
 if x61=true then
  r=([]:List Xm4)
 else
  (0≤x46∧x46 < (x1.gram.prods.length:Int)) ∧
  if (x47.length:Int)=(((ix x1.gram.prods x46).rhs).length:Int) then
   Xs5 x1 x46 x47 x52 ((x52.length:Int) != (w64 ((((ix x1.gram.prods x46).rhs).length:Int) + 1))) r
  else
   Xs5 x1 x46 x47 x52 true r
def Xr4 (x1:Xmw) (x46:Int) (x47:List (List Xm4)) (x52:List Int) (r:List Xm4):Prop :=
 if x46 < 0 then
  Xrz x46 x1 x47 x52 true r
 else
  Xrz x46 x1 x47 x52 (decide (x46≥(x1.gram.prods.length:Int))) r
def Xnl (x1:List (List Xm4)) (x45:List (List Xm4)) (x52:Int) (o1:Sum ((List (List Xm4)) × Int) (List (List Xm4))):Prop :=
 if x52 < (x1.length:Int) then
  (0≤x52∧x52 < (x1.length:Int)) ∧
  ∃ r101:List Xm4,(Xp1 (ix x1 x52) r101) ∧
  ∃ x120:List (List Xm4),(x120=x45++([r101]:List (List Xm4))) ∧
  (x120.length * 24≤211106232532992) ∧
  o1=.inl (x120,w64 (x52 + 1))
 else
  o1=.inr (x45)
def Xpd (x1:List (List Xm4)) (r:List (List Xm4)):Prop :=
 Xmi (fun (s:(List (List Xm4)) × Int) o=>Xnl x1 s.1 s.2 o) (([]:List (List Xm4)),0) r
def Xwt (x1:List Xm4) (x6:Int) (r:List Int):Prop :=
 ∃ r10:Xn6,(Xsv x1 r10) ∧
 ∃ r36:Bool,(Xsh r10 x6 r36) ∧
 if r36=true then
  (0≤x6∧x6 < (r10.end_.length:Int)) ∧
  ∃ r46:List Int,(Xqd r10 (w64 (x6 + 1)) (ix r10.end_ x6) r46) ∧
  r=r46
 else
  r=([]:List Int)
def Xop (x1:Xmf) (r:Xmf):Prop :=
 if x1.addr=true then
  r=x1
 else
  r=(⟨true,x1.buf⟩:Xmf)
def Xne (x1:Xmf) (x9:Int) (r:Xmf):Prop :=
 ∃ r13:Xmf,(Xop x1 r13) ∧
 ∃ x24:List Int,(x24=x1.buf++([x9]:List Int)) ∧
 (x24.length * 1≤211106232532992) ∧
 r=(⟨r13.addr,x24⟩:Xmf)
def Xnh (x1:Xmf) (x9:ByteArray) (r:Int × Xmf):Prop :=
 ∃ r13:Xmf,(Xop x1 r13) ∧
 ∃ x21:List Int,(x21=x1.buf++Xnr x9) ∧
 (x21.length * 1≤211106232532992) ∧
 r=((x9.size:Int),(⟨r13.addr,x21⟩:Xmf))
def Xr1 (x1:Xmf) (r:ByteArray):Prop :=
 r=Xz3 x1.buf
def Xs0 (x1:ByteArray) (x135:Int) (x136:Bool) (x137:List Int) (x289:Bool) (o1:Sum (Int × Bool × (List Int)) ByteArray):Prop :=
 if x289=true then
  (0≤Yc2 .u8 (ix (Xnr x1) x135) 4∧Yc2 .u8 (ix (Xnr x1) x135) 4 < ((⟨#[48,49,50,51,52,53,54,55,56,57,97,98,99,100,101,102]⟩:ByteArray).size:Int)) ∧
  ((⟨#[92,120]⟩:ByteArray).size + (Xuz (bt (⟨#[48,49,50,51,52,53,54,55,56,57,97,98,99,100,101,102]⟩:ByteArray) (Yc2 .u8 (ix (Xnr x1) x135) 4))).size≤9223372036854775807) ∧
  (0≤bits .and .u8 (ix (Xnr x1) x135) 15∧bits .and .u8 (ix (Xnr x1) x135) 15 < ((⟨#[48,49,50,51,52,53,54,55,56,57,97,98,99,100,101,102]⟩:ByteArray).size:Int)) ∧
  (((⟨#[92,120]⟩:ByteArray)++(Xuz (bt (⟨#[48,49,50,51,52,53,54,55,56,57,97,98,99,100,101,102]⟩:ByteArray) (Yc2 .u8 (ix (Xnr x1) x135) 4)))).size + (Xuz (bt (⟨#[48,49,50,51,52,53,54,55,56,57,97,98,99,100,101,102]⟩:ByteArray) (bits .and .u8 (ix (Xnr x1) x135) 15))).size≤9223372036854775807) ∧
  ∃ r298:Int × Xmf,(Xnh (⟨x136,x137⟩:Xmf) (((⟨#[92,120]⟩:ByteArray)++(Xuz (bt (⟨#[48,49,50,51,52,53,54,55,56,57,97,98,99,100,101,102]⟩:ByteArray) (Yc2 .u8 (ix (Xnr x1) x135) 4))))++(Xuz (bt (⟨#[48,49,50,51,52,53,54,55,56,57,97,98,99,100,101,102]⟩:ByteArray) (bits .and .u8 (ix (Xnr x1) x135) 15)))) r298) ∧
  o1=.inl (w64 (x135 + 1),r298.2.addr,r298.2.buf)
 else
  ∃ r331:Xmf,(Xne (⟨x136,x137⟩:Xmf) (ix (Xnr x1) x135) r331) ∧
  o1=.inl (w64 (x135 + 1),r331.addr,r331.buf)
def Xs2 (x1:ByteArray) (x135:Int) (x136:Bool) (x137:List Int) (x257:Bool) (o1:Sum (Int × Bool × (List Int)) ByteArray):Prop :=
 if x257=true then
  ((⟨#[92]⟩:ByteArray).size + (Xuz (IntKind.i32.wrap (ix (Xnr x1) x135))).size≤9223372036854775807) ∧
  ∃ r263:Int × Xmf,(Xnh (⟨x136,x137⟩:Xmf) ((⟨#[92]⟩:ByteArray)++(Xuz (IntKind.i32.wrap (ix (Xnr x1) x135)))) r263) ∧
  o1=.inl (w64 (x135 + 1),r263.2.addr,r263.2.buf)
 else
  if ix (Xnr x1) x135=10 then
   ∃ r277:Int × Xmf,(Xnh (⟨x136,x137⟩:Xmf) (⟨#[92,110]⟩:ByteArray) r277) ∧
   o1=.inl (w64 (x135 + 1),r277.2.addr,r277.2.buf)
  else
   if ix (Xnr x1) x135 < 32 then
    Xs0 x1 x135 x136 x137 true o1
   else
    Xs0 x1 x135 x136 x137 (decide (ix (Xnr x1) x135 > 126)) o1
def Xpy (x1:ByteArray) (x135:Int) (x136:Bool) (x137:List Int) (o1:Sum (Int × Bool × (List Int)) ByteArray):Prop :=
 if x135 < ((Xnr x1).length:Int) then
  (0≤x135∧x135 < ((Xnr x1).length:Int)) ∧
  if ix (Xnr x1) x135=34 then
   Xs2 x1 x135 x136 x137 true o1
  else
   Xs2 x1 x135 x136 x137 ((ix (Xnr x1) x135) == 92) o1
 else
  ∃ r346:Xmf,(Xne (⟨x136,x137⟩:Xmf) 34 r346) ∧
  ∃ r359:ByteArray,(Xr1 r346 r359) ∧
  o1=.inr (r359)
def Xuq (x1:ByteArray) (r:ByteArray):Prop :=
 ∃ r8:Xmf,(Xne (⟨false,([]:List Int)⟩:Xmf) 34 r8) ∧
 (x1.size≤9223372036854775807) ∧
 Xmi (fun (s:Int × Bool × (List Int)) o=>Xpy x1 s.1 s.2.1 s.2.2 o) (0,r8.addr,r8.buf) r
def Xr3 (r9:Xn6) (x267:Int) (x662:List Int) (x667:Bool) (x668:List Int) (o2:Sum ((List Int) × Bool × (List Int)) (Sum ((List Int) × Int × Bool × (List Int)) ByteArray)):Prop :=
 if (x662.length:Int) > 0 then
  (0≤w64 ((x662.length:Int) - 1)∧w64 ((x662.length:Int) - 1) < (x662.length:Int)) ∧
  (0≤ix x662 (w64 ((x662.length:Int) - 1))∧ix x662 (w64 ((x662.length:Int) - 1)) < (r9.end_.length:Int)) ∧
  if ix r9.end_ (ix x662 (w64 ((x662.length:Int) - 1)))=w64 (x267 + 1) then
   ∃ r702:Xmf,(Xne (⟨x667,x668⟩:Xmf) 41 r702) ∧
   (0≤(0:Int)∧(0:Int)≤w64 ((x662.length:Int) - 1)∧w64 ((x662.length:Int) - 1)≤(x662.length:Int)) ∧
   ∃ x714:List Int,(x714=x662.take (w64 ((x662.length:Int) - 1):Int).toNat) ∧
   o2=.inl (x714,r702.addr,r702.buf)
  else
   o2=.inr (.inl (x662,w64 (x267 + 1),x667,x668))
 else
  o2=.inr (.inl (x662,w64 (x267 + 1),x667,x668))
def Xt9 (x587:ByteArray) (r9:Xn6) (x267:Int) (x615:List Int) (x620:Bool) (x621:List Int) (o1:Sum ((List Int) × Int × Bool × (List Int)) ByteArray):Prop :=
 ∃ r629:Int × Xmf,(Xnh (⟨x620,x621⟩:Xmf) x587 r629) ∧
 Xmi (fun (s:(List Int) × Bool × (List Int)) o=>Xr3 r9 x267 s.1 s.2.1 s.2.2 o) (x615,r629.2.addr,r629.2.buf) o1
def Xte (x571:Bool) (x572:List Int) (x262:List Int) (x267:Int) (x587:ByteArray) (r9:Xn6) (x590:Bool) (o1:Sum ((List Int) × Int × Bool × (List Int)) ByteArray):Prop :=
 if x590=true then
  ∃ r721:Xmf,(Xne (⟨x571,x572⟩:Xmf) 40 r721) ∧
  ∃ x737:List Int,(x737=x262++([x267]:List Int)) ∧
  (x737.length * 8≤211106232532992) ∧
  Xt9 x587 r9 x267 x737 r721.addr r721.buf o1
 else
  Xt9 x587 r9 x267 x262 x571 x572 o1
def Xt2 (x1:List Xm4) (x267:Int) (x571:Bool) (x572:List Int) (x262:List Int) (r9:Xn6) (x587:ByteArray) (o1:Sum ((List Int) × Int × Bool × (List Int)) ByteArray):Prop :=
 if ((ix x1 x267).named)=true then
  Xte x571 x572 x262 x267 x587 r9 true o1
 else
  Xte x571 x572 x262 x267 x587 r9 (decide ((ix x1 x267).kids > 0)) o1
def Xta (x1:List Xm4) (x267:Int) (x262:List Int) (r9:Xn6) (x571:Bool) (x572:List Int) (o1:Sum ((List Int) × Int × Bool × (List Int)) ByteArray):Prop :=
 if ((ix x1 x267).named)=true then
  Xt2 x1 x267 x571 x572 x262 r9 ((ix x1 x267).name) o1
 else
  ∃ r744:ByteArray,(Xuq ((ix x1 x267).name) r744) ∧
  Xt2 x1 x267 x571 x572 x262 r9 r744 o1
def Xt7 (x1:List Xm4) (x267:Int) (x262:List Int) (r9:Xn6) (x549:Bool) (x550:List Int) (o1:Sum ((List Int) × Int × Bool × (List Int)) ByteArray):Prop :=
 if (ix x1 x267).field=(⟨#[]⟩:ByteArray) then
  Xta x1 x267 x262 r9 x549 x550 o1
 else
  (((ix x1 x267).field).size + (⟨#[58,32]⟩:ByteArray).size≤9223372036854775807) ∧
  ∃ r753:Int × Xmf,(Xnh (⟨x549,x550⟩:Xmf) (((ix x1 x267).field)++(⟨#[58,32]⟩:ByteArray)) r753) ∧
  Xta x1 x267 x262 r9 r753.2.addr r753.2.buf o1
def Xpc (x1:List Xm4) (r9:Xn6) (x262:List Int) (x267:Int) (x268:Bool) (x269:List Int) (o1:Sum ((List Int) × Int × Bool × (List Int)) ByteArray):Prop :=
 if x267 < (x1.length:Int) then
  (0≤x267∧x267 < (x1.length:Int)) ∧
  if x267 > 0 then
   ∃ r766:Xmf,(Xne (⟨x268,x269⟩:Xmf) 32 r766) ∧
   Xt7 x1 x267 x262 r9 r766.addr r766.buf o1
  else
   Xt7 x1 x267 x262 r9 x268 x269 o1
 else
  ∃ r779:ByteArray,(Xr1 (⟨x268,x269⟩:Xmf) r779) ∧
  o1=.inr (r779)
def Xww (x1:List Xm4) (r:ByteArray):Prop :=
 ∃ r9:Xn6,(Xsv x1 r9) ∧
 if r9.ok=true then
  Xmi (fun (s:(List Int) × Int × Bool × (List Int)) o=>Xpc x1 r9 s.1 s.2.1 s.2.2.1 s.2.2.2 o) (([]:List Int),0,false,([]:List Int)) r
 else
  r=(⟨#[]⟩:ByteArray)
def Xra  (r:Bool):Prop :=
 ∃ r31:List Xm4,(Xvu (⟨(⟨#[]⟩:ByteArray),([]:List Xps),(⟨([(⟨(⟨#[]⟩:ByteArray),false⟩:Xna),(⟨(⟨#[97]⟩:ByteArray),false⟩:Xna)]:List Xna),([(⟨(⟨#[115]⟩:ByteArray),1⟩:Xq9)]:List Xq9),([(⟨-1,([(⟨2,(⟨#[]⟩:ByteArray),(⟨#[]⟩:ByteArray)⟩:Xn1)]:List Xn1)⟩:Xnz),(⟨0,([(⟨1,(⟨#[102]⟩:ByteArray),(⟨#[]⟩:ByteArray)⟩:Xn1)]:List Xn1)⟩:Xnz)]:List Xnz)⟩:Xnn),([]:List Xsk),(⟨([]:List (List Xoi)),([]:List (List Int))⟩:Xtb),([]:List Xpe),([]:List ByteArray),([]:List Xpu),([]:List Xow)⟩:Xmw) 1 0 2 5 r31) ∧
 ∃ r54:List Xm4,(Xr4 (⟨(⟨#[]⟩:ByteArray),([]:List Xps),(⟨([(⟨(⟨#[]⟩:ByteArray),false⟩:Xna),(⟨(⟨#[97]⟩:ByteArray),false⟩:Xna)]:List Xna),([(⟨(⟨#[115]⟩:ByteArray),1⟩:Xq9)]:List Xq9),([(⟨-1,([(⟨2,(⟨#[]⟩:ByteArray),(⟨#[]⟩:ByteArray)⟩:Xn1)]:List Xn1)⟩:Xnz),(⟨0,([(⟨1,(⟨#[102]⟩:ByteArray),(⟨#[]⟩:ByteArray)⟩:Xn1)]:List Xn1)⟩:Xnz)]:List Xnz)⟩:Xnn),([]:List Xsk),(⟨([]:List (List Xoi)),([]:List (List Int))⟩:Xtb),([]:List Xpe),([]:List ByteArray),([]:List Xpu),([]:List Xow)⟩:Xmw) 1 ([r31]:List (List Xm4)) ([0,5]:List Int) r54) ∧
 ∃ r68:List Int,(Xwt r54 0 r68) ∧
 ∃ r81:ByteArray,(Xww r54 r81) ∧
 if (r31.length:Int)=1 then
  if (r54.length:Int)=2 then
   (0≤(0:Int)∧(0:Int) < (r54.length:Int)) ∧
   if (ix r54 0).from_=2 then
    if (ix r54 0).to=5 then
     if (ix r54 0).kids=1 then
      if (ix r54 0).leaf = -1 then
       if (r68.length:Int)=1 then
        (0≤(0:Int)∧(0:Int) < (r68.length:Int)) ∧
        if ix r68 0=1 then
         if r81=(⟨#[40,115,32,102,58,32,40,97,41,41]⟩:ByteArray) then
          ∃ r100:Int,(Xuc r54 r100) ∧
          r=(r100 == 1)
         else
          r=false
        else
         r=false
       else
        r=false
      else
       r=false
     else
      r=false
    else
     r=false
   else
    r=false
  else
   r=false
 else
  r=false
def Xns (x50:List Xm4) (x109:List Xm4) (x114:Int) (o2:Sum ((List Xm4) × Int) (Sum ((List Xm4) × Int) (List Xm4))):Prop :=
 if x114 < 40 then
  ∃ x132:List Xm4,(x132=x109++([(⟨(⟨#[109,111,114,101]⟩:ByteArray),false,(⟨#[]⟩:ByteArray),0,0,0,0⟩:Xm4)]:List Xm4)) ∧
  (x132.length * 72≤211106232532992) ∧
  o2=.inl (x132,w64 (x114 + 1))
 else
  o2=.inr (.inr (x50))
def Xo6 (x50:List Xm4) (x52:Int) (o1:Sum ((List Xm4) × Int) (List Xm4)):Prop :=
 if x52 < (x50.length:Int) then
  (0≤x52∧x52 < (x50.length:Int)) ∧
  ∃ x96:List Xm4,(x96=x50.set (x52:Int).toNat (⟨(⟨#[115,112,111,105,108,116]⟩:ByteArray),false,(⟨#[]⟩:ByteArray),0,0,-7,x52⟩:Xm4)) ∧
  o1=.inl (x96,w64 (x52 + 1))
 else
  Xmi (fun (s:(List Xm4) × Int) o=>Xns x50 s.1 s.2 o) (x50,0) o1
def Xp8 (x1:List Xm4) (r:List Xm4):Prop :=
 Xmi (fun (s:(List Xm4) × Int) o=>Xo6 s.1 s.2 o) (x1,0) r
def Xnx (r110:List Xm4) (r123:List Xm4) (x1:Xmw) (x46:Int) (x53:List Int) (r38308:Bool) (r38329:Bool) (x38531:List (List Xm4)) (x38538:Int) (o5:Sum ((List (List Xm4)) × Int) (Sum Int (Sum Int (Sum ((List (List Xm4)) × Int) (Sum ((List (List Xm4)) × (List (List Xm4)) × (List (List Xm4)) × Int) Bool))))):Prop :=
 if x38538 < (x38531.length:Int) then
  (0≤x38538∧x38538 < (x38531.length:Int)) ∧
  ∃ r38748:List Xm4,(Xp8 (ix x38531 x38538) r38748) ∧
  ∃ x38754:List (List Xm4),(x38754=x38531.set (x38538:Int).toNat r38748) ∧
  o5=.inl (x38754,w64 (x38538 + 1))
 else
  ∃ r38761:Bool,(Xo4 r110 r123 r38761) ∧
  ∃ r38769:List (List Xm4),(Xpd x38531 r38769) ∧
  ∃ r38785:List Xm4,(Xqr x1 x46 r38769 x53 r38785) ∧
  ∃ r38910:List Xm4,(Xr4 x1 x46 x38531 x53 r38910) ∧
  ∃ r38923:Bool,(Xo4 r38910 r38785 r38923) ∧
  if r38308=true then
   if r38329=true then
    if r38761=true then
     o5=.inr (.inr (.inr (.inr (.inr (r38923)))))
    else
     o5=.inr (.inr (.inr (.inr (.inr (false)))))
   else
    o5=.inr (.inr (.inr (.inr (.inr (false)))))
  else
   o5=.inr (.inr (.inr (.inr (.inr (false)))))
def Xon (r81:List (List Xm4)) (x48:List (List Xm4)) (r110:List Xm4) (r123:List Xm4) (x1:Xmw) (x46:Int) (x53:List Int) (x37528:Int) (o4:Sum Int (Sum Int (Sum ((List (List Xm4)) × Int) (Sum ((List (List Xm4)) × (List (List Xm4)) × (List (List Xm4)) × Int) Bool)))):Prop :=
 if x37528 < (r81.length:Int) then
  (0≤x37528∧x37528 < (r81.length:Int)) ∧
  (0≤x37528∧x37528 < (x48.length:Int)) ∧
  ∃ r38249:Bool,(Xo4 (ix r81 x37528) (ix x48 x37528) r38249) ∧
  if r38249=true then
   o4=.inl (w64 (x37528 + 1))
  else
   o4=.inr (.inr (.inr (.inr (false))))
 else
  ∃ r38308:Bool,(Xo4 r110 r123 r38308) ∧
  ∃ r38316:List Xm4,(Xr4 x1 x46 r81 x53 r38316) ∧
  ∃ r38329:Bool,(Xo4 r38316 r123 r38329) ∧
  Xmi (fun (s:(List (List Xm4)) × Int) o=>Xnx r110 r123 x1 x46 x53 r38308 r38329 s.1 s.2 o) (r81,0) o4
def Xoo (x3432:List (List Xm4)) (x3439:List (List Xm4)) (r21391:List Xm4) (r21404:List Xm4) (r81:List (List Xm4)) (x48:List (List Xm4)) (r110:List Xm4) (r123:List Xm4) (x1:Xmw) (x46:Int) (x53:List Int) (x35058:Int) (o3:Sum Int (Sum ((List (List Xm4)) × Int) (Sum ((List (List Xm4)) × (List (List Xm4)) × (List (List Xm4)) × Int) Bool))):Prop :=
 if x35058 < (x3432.length:Int) then
  (0≤x35058∧x35058 < (x3432.length:Int)) ∧
  (0≤x35058∧x35058 < (x3439.length:Int)) ∧
  ∃ r37013:Bool,(Xo4 (ix x3432 x35058) (ix x3439 x35058) r37013) ∧
  if r37013=true then
   o3=.inl (w64 (x35058 + 1))
  else
   o3=.inr (.inr (.inr (false)))
 else
  ∃ r37070:Bool,(Xo4 r21391 r21404 r37070) ∧
  if r37070=true then
   Xmi (fun (s:Int) o=>Xon r81 x48 r110 r123 x1 x46 x53 s o) 0 o3
  else
   o3=.inr (.inr (.inr (false)))
def Xnw (x3432:List (List Xm4)) (x3439:List (List Xm4)) (r21391:List Xm4) (r21404:List Xm4) (r81:List (List Xm4)) (x48:List (List Xm4)) (r110:List Xm4) (r123:List Xm4) (x1:Xmw) (x46:Int) (x53:List Int) (x27257:List (List Xm4)) (x27264:Int) (o2:Sum ((List (List Xm4)) × Int) (Sum ((List (List Xm4)) × (List (List Xm4)) × (List (List Xm4)) × Int) Bool)):Prop :=
 if x27264 < (x27257.length:Int) then
  (0≤x27264∧x27264 < (x27257.length:Int)) ∧
  ∃ r33111:List Xm4,(Xp8 (ix x27257 x27264) r33111) ∧
  ∃ x33117:List (List Xm4),(x33117=x27257.set (x27264:Int).toNat r33111) ∧
  o2=.inl (x33117,w64 (x27264 + 1))
 else
  Xmi (fun (s:Int) o=>Xoo x3432 x3439 r21391 r21404 r81 x48 r110 r123 x1 x46 x53 s o) 0 o2
def Xnm (r81:List (List Xm4)) (x1:Xmw) (x47:Int) (x46:Int) (x53:List Int) (r97:List Xm4) (x48:List (List Xm4)) (r110:List Xm4) (r123:List Xm4) (x3425:List (List Xm4)) (x3432:List (List Xm4)) (x3439:List (List Xm4)) (x3446:Int) (o1:Sum ((List (List Xm4)) × (List (List Xm4)) × (List (List Xm4)) × Int) Bool):Prop :=
 if x3446 < (r81.length:Int) then
  (0≤x3446∧x3446 < (r81.length:Int)) ∧
  ∃ r21200:List Xm4,(Xue x1 x47 (ix r81 x3446) r21200) ∧
  ∃ r21271:List Xm4,(Xue x1 x47 (ix r81 x3446) r21271) ∧
  ∃ r21336:List Xm4,(Xp1 r21271 r21336) ∧
  ∃ x21355:List (List Xm4),(x21355=x3425++([r21200]:List (List Xm4))) ∧
  (x21355.length * 24≤211106232532992) ∧
  ∃ x21369:List (List Xm4),(x21369=x3432++([r21271]:List (List Xm4))) ∧
  (x21369.length * 24≤211106232532992) ∧
  ∃ x21383:List (List Xm4),(x21383=x3439++([r21336]:List (List Xm4))) ∧
  (x21383.length * 24≤211106232532992) ∧
  o1=.inl (x21355,x21369,x21383,w64 (x3446 + 1))
 else
  ∃ r21391:List Xm4,(Xr4 x1 (w64 (x46 + 1)) r81 x53 r21391) ∧
  ∃ r21404:List Xm4,(Xp1 r21391 r21404) ∧
  ∃ r21417:List Xm4,(Xp8 r97 r21417) ∧
  Xmi (fun (s:(List (List Xm4)) × Int) o=>Xnw x3432 x3439 r21391 r21404 r81 x48 r110 r123 x1 x46 x53 s.1 s.2 o) (x3425,0) o1
def Xr2 (x1:Xmw) (x46:Int) (x47:Int) (x48:List (List Xm4)) (x53:List Int) (r:Bool):Prop :=
 ∃ r63:Bool,(Xra  r63) ∧
 if r63=true then
  ∃ r72:Bool,(Xr0 x48 r72) ∧
  if r72=true then
   r=true
  else
   ∃ r81:List (List Xm4),(Xpd x48 r81) ∧
   ∃ r97:List Xm4,(Xr4 x1 x46 r81 x53 r97) ∧
   ∃ r110:List Xm4,(Xr4 x1 x46 r81 x53 r110) ∧
   ∃ r123:List Xm4,(Xp1 r97 r123) ∧
   Xmi (fun (s:(List (List Xm4)) × (List (List Xm4)) × (List (List Xm4)) × Int) o=>Xnm r81 x1 x47 x46 x53 r97 x48 r110 r123 s.1 s.2.1 s.2.2.1 s.2.2.2 o) (([]:List (List Xm4)),([]:List (List Xm4)),([]:List (List Xm4)),0) r
 else
  r=false
end Go.Proofs.Ytmekgfcfooghnaa.R
