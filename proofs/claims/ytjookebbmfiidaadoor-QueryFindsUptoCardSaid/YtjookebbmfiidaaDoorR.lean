/- What the functions answer, as plain relations, printed by my own tool off the program's translation. No condition. -/
import Derived.Test.YtjookebbmfiidaaDoorP0
import Derived.Lib.ValidU
set_option linter.unusedVariables false
namespace Go.Proofs.YtjookebbmfiidaaDoor.R
open Go.Proofs.YtjookebbmfiidaaDoor.B
structure Aj where
 name:ByteArray
 lit:Bool
 field:ByteArray
 capture:ByteArray
 kids:Int
 deriving Inhabited,DecidableEq
structure Ai where
 name:ByteArray
 named:Bool
 field:ByteArray
 from_:Int
 to:Int
 kids:Int
 leaf:Int
 deriving Inhabited,DecidableEq
structure D8 where
 not:Bool
 a:ByteArray
 b:ByteArray
 text:ByteArray
 deriving Inhabited,DecidableEq
structure Aq where
 nodes:List Aj
 conds:List D8
 deriving Inhabited,DecidableEq
structure Dw where
 kind:Int
 text:ByteArray
 n:Int
 at_:Int
 deriving Inhabited,DecidableEq
structure Ak where
 node:Ai
 kids:List Ak
 at_:Int
instance:Inhabited Ak:=⟨⟨default,[],default⟩⟩
structure Be where
 nodes:List Int
 deriving Inhabited,DecidableEq
structure Fj where
 nodes:List Ai
 parent:List Int
 end_:List Int
 ok:Bool
 deriving Inhabited,DecidableEq
structure Az where
 nodes:List Aj
 tree:List Ai
 of:List (List Int)
 known:List Bool
 deriving Inhabited,DecidableEq
def Gl (x40:Int) (x1:List Aj) (x207:List Int) (o2:Sum (List Int) (Sum ((List Int) × Int) Bool)):Prop :=
 if (x207.length:Int) > 0 then
  (0≤w64 ((x207.length:Int) - 1)∧w64 ((x207.length:Int) - 1) < (x207.length:Int)) ∧
  if ix x207 (w64 ((x207.length:Int) - 1))≤0 then
   (0≤(0:Int)∧(0:Int)≤w64 ((x207.length:Int) - 1)∧w64 ((x207.length:Int) - 1)≤(x207.length:Int)) ∧
   ∃ x256:List Int,(x256=x207.take (w64 ((x207.length:Int) - 1):Int).toNat) ∧
   o2=.inl x256
  else
   ∃ x260:List Int,(x260=x207.set (w64 ((x207.length:Int) - 1):Int).toNat (w64 ((ix x207 (w64 ((x207.length:Int) - 1))) - 1))) ∧
   (0≤x40∧x40 < (x1.length:Int)) ∧
   ∃ x275:List Int,(x275=x260++([(ix x1 x40).kids]:List Int)) ∧
   (x275.length * 8≤211106232532992) ∧
   if (x275.length:Int) > 65536 then
    o2=.inr (.inr (true))
   else
    o2=.inr (.inl (x275,w64 (x40 + 1)))
 else
  (0≤x40∧x40 < (x1.length:Int)) ∧
  ∃ x287:List Int,(x287=x207++([(ix x1 x40).kids]:List Int)) ∧
  (x287.length * 8≤211106232532992) ∧
  if (x287.length:Int) > 65536 then
   o2=.inr (.inr (true))
  else
   o2=.inr (.inl (x287,w64 (x40 + 1)))
def Gn (x1:List Aj) (x35:List Int) (x40:Int) (o1:Sum ((List Int) × Int) Bool):Prop :=
 if x40 < (x1.length:Int) then
  Ar (fun (s:(List Int)) o=>Gl x40 x1 s o) x35 o1
 else
  o1=.inr (false)
def O6 (x1:List Aj) (r:Bool):Prop :=
 Ar (fun (s:(List Int) × Int) o=>Gn x1 s.1 s.2 o) (([]:List Int),0) r
def Gh (x40:Int) (x1:List Ai) (x207:List Int) (o2:Sum (List Int) (Sum ((List Int) × Int) Bool)):Prop :=
 if (x207.length:Int) > 0 then
  (0≤w64 ((x207.length:Int) - 1)∧w64 ((x207.length:Int) - 1) < (x207.length:Int)) ∧
  if ix x207 (w64 ((x207.length:Int) - 1))≤0 then
   (0≤(0:Int)∧(0:Int)≤w64 ((x207.length:Int) - 1)∧w64 ((x207.length:Int) - 1)≤(x207.length:Int)) ∧
   ∃ x256:List Int,(x256=x207.take (w64 ((x207.length:Int) - 1):Int).toNat) ∧
   o2=.inl x256
  else
   ∃ x260:List Int,(x260=x207.set (w64 ((x207.length:Int) - 1):Int).toNat (w64 ((ix x207 (w64 ((x207.length:Int) - 1))) - 1))) ∧
   (0≤x40∧x40 < (x1.length:Int)) ∧
   ∃ x275:List Int,(x275=x260++([(ix x1 x40).kids]:List Int)) ∧
   (x275.length * 8≤211106232532992) ∧
   if (x275.length:Int) > 65536 then
    o2=.inr (.inr (true))
   else
    o2=.inr (.inl (x275,w64 (x40 + 1)))
 else
  (0≤x40∧x40 < (x1.length:Int)) ∧
  ∃ x287:List Int,(x287=x207++([(ix x1 x40).kids]:List Int)) ∧
  (x287.length * 8≤211106232532992) ∧
  if (x287.length:Int) > 65536 then
   o2=.inr (.inr (true))
  else
   o2=.inr (.inl (x287,w64 (x40 + 1)))
def Gj (x1:List Ai) (x35:List Int) (x40:Int) (o1:Sum ((List Int) × Int) Bool):Prop :=
 if x40 < (x1.length:Int) then
  Ar (fun (s:(List Int)) o=>Gh x40 x1 s o) x35 o1
 else
  o1=.inr (false)
def O7 (x1:List Ai) (r:Bool):Prop :=
 Ar (fun (s:(List Int) × Int) o=>Gj x1 s.1 s.2 o) (([]:List Int),0) r
def Ie (x1:Aq) (x149:List Aj) (x342:Int) (x343:List D8) (o2:Sum (Int × (List D8)) (Sum (Int × (List Aj)) Aq)):Prop :=
 if x342 < (x1.conds.length:Int) then
  (0≤x342∧x342 < (x1.conds.length:Int)) ∧
  ∃ x385:List D8,(x385=x343++([ix x1.conds x342]:List D8)) ∧
  (x385.length * 56≤211106232532992) ∧
  o2=.inl (w64 (x342 + 1),x385)
 else
  o2=.inr (.inr ((⟨x149,x343⟩:Aq)))
def Ij (x1:Aq) (x148:Int) (x149:List Aj) (o1:Sum (Int × (List Aj)) Aq):Prop :=
 if x148 < (x1.nodes.length:Int) then
  (0≤x148∧x148 < (x1.nodes.length:Int)) ∧
  ∃ x288:List Aj,(x288=x149++([ix x1.nodes x148]:List Aj)) ∧
  (x288.length * 64≤211106232532992) ∧
  o1=.inl (w64 (x148 + 1),x288)
 else
  Ar (fun (s:Int × (List D8)) o=>Ie x1 x149 s.1 s.2 o) (0,([]:List D8)) o1
def J6 (x1:Aq) (r:Aq):Prop :=
 Ar (fun (s:Int × (List Aj)) o=>Ij x1 s.1 s.2 o) (0,([]:List Aj)) r
def Gt (x1:List Ai) (x20:List Ai) (x25:Int) (o1:Sum ((List Ai) × Int) (List Ai)):Prop :=
 if x25 < (x1.length:Int) then
  (0≤x25∧x25 < (x1.length:Int)) ∧
  ∃ x47:List Ai,(x47=x20++([ix x1 x25]:List Ai)) ∧
  (x47.length * 72≤211106232532992) ∧
  o1=.inl (x47,w64 (x25 + 1))
 else
  o1=.inr (x20)
def Gx (x1:List Ai) (r:List Ai):Prop :=
 Ar (fun (s:(List Ai) × Int) o=>Gt x1 s.1 s.2 o) (([]:List Ai),0) r
def Eg (x23:Int) (x1:List Aj) (x24:Int) (x48:Bool) (o1:Sum (Int × Int) Int):Prop :=
 if x48=true then
  o1=.inr (-1)
 else
  (0≤x23∧x23 < (x1.length:Int)) ∧
  o1=.inl (w64 (x23 + 1),w64 ((w64 (x24 - 1)) + ((ix x1 x23).kids)))
def Ea (x1:List Aj) (x23:Int) (x24:Int) (o1:Sum (Int × Int) Int):Prop :=
 if x24 > 0 then
  if x23≥(x1.length:Int) then
   Eg x23 x1 x24 true o1
  else
   (0≤x23∧x23 < (x1.length:Int)) ∧
   if (ix x1 x23).kids < 0 then
    Eg x23 x1 x24 true o1
   else
    Eg x23 x1 x24 (decide ((ix x1 x23).kids > (x1.length:Int))) o1
 else
  o1=.inr (x23)
def Ku (x1:List Aj) (x6:Int) (r:Int):Prop :=
 Ar (fun (s:Int × Int) o=>Ea x1 s.1 s.2 o) (x6,1) r
def Qi (x1:ByteArray) (x2:Int) (x7:Int) (o1:Sum Int Bool):Prop :=
 if x7 < (x1.size:Int) then
  (0≤x7∧x7 < (x1.size:Int)) ∧
  if bt x1 x7=x2 then
   o1=.inr (true)
  else
   o1=.inl (w64 (x7 + 1))
 else
  o1=.inr (false)
def P5 (x1:ByteArray) (x2:Int) (r:Bool):Prop :=
 Ar (fun (s:Int) o=>Qi x1 x2 s o) 0 r
def Oz (x2:Int) (x1:ByteArray) (x3:ByteArray) (x16:Int) (o1:Sum Int Int):Prop :=
 if w64 (x2 + x16) < (x1.size:Int) then
  (0≤w64 (x2 + x16)∧w64 (x2 + x16) < (x1.size:Int)) ∧
  ∃ r33:Bool,(P5 x3 (bt x1 (w64 (x2 + x16))) r33) ∧
  if r33=true then
   o1=.inl (w64 (x16 + 1))
  else
   o1=.inr (x16)
 else
  o1=.inr (x16)
def Tc (x1:ByteArray) (x2:Int) (x3:ByteArray) (r:Int):Prop :=
 Ar (fun (s:Int) o=>Oz x2 x1 x3 s o) 0 r
def Ii (x17:Int) (x1:ByteArray) (x34:Bool) (o1:Sum Int Int):Prop :=
 if x34=true then
  (0≤x17∧x17 < (x1.size:Int)) ∧
  if bt x1 x17=47 then
   o1=.inr (w64 (x17 + 1))
  else
   if bt x1 x17=92 then
    if w64 (x17 + 1) < (x1.size:Int) then
     (0≤w64 (x17 + 1)∧w64 (x17 + 1) < (x1.size:Int)) ∧
     if bt x1 (w64 (x17 + 1))=10 then
      o1=.inl (w64 (x17 + 1))
     else
      o1=.inl (w64 ((w64 (x17 + 1)) + 1))
    else
     o1=.inl (w64 (x17 + 1))
   else
    o1=.inl (w64 (x17 + 1))
 else
  o1=.inr (0)
def He (x1:ByteArray) (x17:Int) (o1:Sum Int Int):Prop :=
 if x17 < (x1.size:Int) then
  (0≤x17∧x17 < (x1.size:Int)) ∧
  Ii x17 x1 ((bt x1 x17) != 10) o1
 else
  Ii x17 x1 false o1
def Qc (x1:ByteArray) (x2:Int) (r:Int):Prop :=
 Ar (fun (s:Int) o=>He x1 s o) (w64 (x2 + 1)) r
def Q5 (x1:Dw) (r:Bool):Prop :=
 if x1.kind=1 then
  if (x1.text.size:Int) > 0 then
   if (x1.text.size:Int)≤24 then
    (0≤(0:Int)∧(0:Int) < (x1.text.size:Int)) ∧
    ∃ r11:Bool,(P5 (⟨#[48,49,50,51,52,53,54,55,56,57]⟩:ByteArray) (bt x1.text 0) r11) ∧
    if r11=true then
     r=false
    else
     ∃ r20:Int,(Tc x1.text 0 (⟨#[65,66,67,68,69,70,71,72,73,74,75,76,77,78,79,80,81,82,83,84,85,86,87,88,89,90,97,98,99,100,101,102,103,104,105,106,107,108,109,110,111,112,113,114,115,116,117,118,119,120,121,122,95,48,49,50,51,52,53,54,55,56,57]⟩:ByteArray) r20) ∧
     r=(r20 == (x1.text.size:Int))
   else
    r=false
  else
   r=false
 else
  if x1.kind=2 then
   r=true
  else
   if x1.kind=3 then
    ((⟨#[47]⟩:ByteArray).size + x1.text.size≤9223372036854775807) ∧
    (((⟨#[47]⟩:ByteArray)++x1.text).size + (⟨#[47]⟩:ByteArray).size≤9223372036854775807) ∧
    ∃ r32:Int,(Qc (((⟨#[47]⟩:ByteArray)++x1.text)++(⟨#[47]⟩:ByteArray)) 0 r32) ∧
    r=(r32 == ((((⟨#[47]⟩:ByteArray)++x1.text)++(⟨#[47]⟩:ByteArray)).size:Int))
   else
    if x1.kind=4 then
     if x1.n≥0 then
      r=decide (x1.n≤65535)
     else
      r=false
    else
     if x1.kind=5 then
      if (x1.text.size:Int)=1 then
       (0≤(0:Int)∧(0:Int) < (x1.text.size:Int)) ∧
       ∃ r45:Bool,(P5 (⟨#[123,125,40,41,124,42,43,63,58,59,44,61,64]⟩:ByteArray) (bt x1.text 0) r45) ∧
       r=r45
      else
       r=false
     else
      r=false
def J4 (x1:ByteArray) (r:Bool):Prop :=
 if x1=(⟨#[95]⟩:ByteArray) then
  r=false
 else
  ∃ r6:Bool,(Q5 (⟨1,x1,0,0⟩:Dw) r6) ∧
  r=r6
def Gm (x1:Aq) (x10:ByteArray) (x19:Int) (o1:Sum Int Int):Prop :=
 if x19 < (x1.nodes.length:Int) then
  if x10=(⟨#[]⟩:ByteArray) then
   o1=.inl (w64 (x19 + 1))
  else
   (0≤x19∧x19 < (x1.nodes.length:Int)) ∧
   if (ix x1.nodes x19).capture=x10 then
    o1=.inr (x19)
   else
    o1=.inl (w64 (x19 + 1))
 else
  o1=.inr (-1)
def H8 (x1:Aq) (x10:ByteArray) (r:Int):Prop :=
 Ar (fun (s:Int) o=>Gm x1 x10 s o) 0 r
def Ip (x1:Aq) (x239:Int) (x425:Bool) (o1:Sum Int Bool):Prop :=
 if x425=true then
  o1=.inr (false)
 else
  if (ix x1.nodes x239).capture=(⟨#[]⟩:ByteArray) then
   o1=.inl (w64 (x239 + 1))
  else
   ∃ r431:Bool,(J4 ((ix x1.nodes x239).capture) r431) ∧
   if r431=true then
    ∃ r440:Int,(H8 x1 ((ix x1.nodes x239).capture) r440) ∧
    if r440=x239 then
     o1=.inl (w64 (x239 + 1))
    else
     o1=.inr (false)
   else
    o1=.inr (false)
def Ho (x1:Aq) (x239:Int) (x413:Bool) (o1:Sum Int Bool):Prop :=
 if x413=true then
  o1=.inr (false)
 else
  if (ix x1.nodes x239).field=(⟨#[]⟩:ByteArray) then
   Ip x1 x239 false o1
  else
   ∃ r450:Bool,(J4 ((ix x1.nodes x239).field) r450) ∧
   Ip x1 x239 (!r450) o1
def Hm (x1:Aq) (x239:Int) (x400:Bool) (o1:Sum Int Bool):Prop :=
 if x400=true then
  o1=.inr (false)
 else
  if ((ix x1.nodes x239).lit)=true then
   Ho x1 x239 false o1
  else
   if (ix x1.nodes x239).name=(⟨#[]⟩:ByteArray) then
    Ho x1 x239 false o1
   else
    ∃ r460:Bool,(J4 ((ix x1.nodes x239).name) r460) ∧
    Ho x1 x239 (!r460) o1
def Gi (x1:Aq) (x493:Int) (o2:Sum Int (Sum Int Bool)):Prop :=
 if x493 < (x1.conds.length:Int) then
  (0≤x493∧x493 < (x1.conds.length:Int)) ∧
  ∃ r527:Int,(H8 x1 ((ix x1.conds x493).a) r527) ∧
  if r527 < 0 then
   o2=.inr (.inr (false))
  else
   if (ix x1.conds x493).b=(⟨#[]⟩:ByteArray) then
    o2=.inl (w64 (x493 + 1))
   else
    ∃ r537:Int,(H8 x1 ((ix x1.conds x493).b) r537) ∧
    if r537 < 0 then
     o2=.inr (.inr (false))
    else
     if (ix x1.conds x493).text=(⟨#[]⟩:ByteArray) then
      o2=.inl (w64 (x493 + 1))
     else
      o2=.inr (.inr (false))
 else
  o2=.inr (.inr (true))
def Gf (x1:Aq) (x239:Int) (o1:Sum Int Bool):Prop :=
 if x239 < (x1.nodes.length:Int) then
  (0≤x239∧x239 < (x1.nodes.length:Int)) ∧
  if ((ix x1.nodes x239).lit)=true then
   if (ix x1.nodes x239).name=(⟨#[]⟩:ByteArray) then
    Hm x1 x239 true o1
   else
    Hm x1 x239 (((ix x1.nodes x239).kids) != 0) o1
  else
   Hm x1 x239 false o1
 else
  Ar (fun (s:Int) o=>Gi x1 s o) 0 o1
def Fa (x1:Aq) (x84:Bool) (r:Bool):Prop :=
 if x84=true then
  r=false
 else
  Ar (fun (s:Int) o=>Gf x1 s o) 0 r
def Oc (x1:Aq) (r:Bool):Prop :=
 if (x1.nodes.length:Int) > 32 then
  Fa x1 true r
 else
  if (x1.conds.length:Int) > 16 then
   Fa x1 true r
  else
   ∃ r549:Int,(Ku x1.nodes 0 r549) ∧
   Fa x1 (r549 != (x1.nodes.length:Int)) r
def Dy (x1:List Ai) (x6:Int) (rc_trellisref15_take:(List Ai)→Int→(Ak × Int × Bool)→Prop) (x64:Int) (x65:Int) (x66:List Ak) (o1:Sum (Int × Int × (List Ak)) (Ak × Int × Bool)):Prop :=
 if x65 < (ix x1 x6).kids then
  ∃ r121:Ak × Int × Bool,(rc_trellisref15_take x1 x64 r121) ∧
  if r121.2.2=true then
   ∃ x151:List Ak,(x151=x66++([r121.1]:List Ak)) ∧
   (x151.length * 104≤211106232532992) ∧
   o1=.inl (r121.2.1,w64 (x65 + 1),x151)
  else
   o1=.inr (((⟨(⟨(⟨#[]⟩:ByteArray),false,(⟨#[]⟩:ByteArray),0,0,0,0⟩:Ai),([]:List Ak),0⟩:Ak),x6,false))
 else
  o1=.inr (((⟨ix x1 x6,x66,x6⟩:Ak),x64,true))
def Es (x6:Int) (x1:List Ai) (rc_trellisref15_take:(List Ai)→Int→(Ak × Int × Bool)→Prop) (x15:Bool) (r:Ak × Int × Bool):Prop :=
 if x15=true then
  r=((⟨(⟨(⟨#[]⟩:ByteArray),false,(⟨#[]⟩:ByteArray),0,0,0,0⟩:Ai),([]:List Ak),0⟩:Ak),x6,false)
 else
  (0≤x6∧x6 < (x1.length:Int)) ∧
  Ar (fun (s:Int × Int × (List Ak)) o=>Dy x1 x6 rc_trellisref15_take s.1 s.2.1 s.2.2 o) (w64 (x6 + 1),0,([]:List Ak)) r
def Fb (rc_trellisref15_take:(List Ai)→Int→(Ak × Int × Bool)→Prop) (x1:List Ai) (x6:Int) (r:Ak × Int × Bool):Prop :=
 if x6≥(x1.length:Int) then
  Es x6 x1 rc_trellisref15_take true r
 else
  (0≤x6∧x6 < (x1.length:Int)) ∧
  if (ix x1 x6).kids < 0 then
   Es x6 x1 rc_trellisref15_take true r
  else
   Es x6 x1 rc_trellisref15_take (decide ((ix x1 x6).kids > (x1.length:Int))) r
def Dx:Nat→(List Ai)→Int→(Ak × Int × Bool)→Prop
 | 0=>fun _ _ _=>False
 | n + 1=>Fb (Dx n)
def Z5 (x1:List Ai) (x6:Int) (r:Ak × Int × Bool):Prop:=∃ n,Dx n x1 x6 r
def Dv (x1:List Ai) (x48:List Ak) (x57:Int) (o1:Sum ((List Ak) × Int) ((List Ak) × Bool)):Prop :=
 if x57 < (x1.length:Int) then
  ∃ r102:Ak × Int × Bool,(Z5 x1 x57 r102) ∧
  if r102.2.2=true then
   ∃ x132:List Ak,(x132=x48++([r102.1]:List Ak)) ∧
   (x132.length * 104≤211106232532992) ∧
   o1=.inl (x132,r102.2.1)
  else
   o1=.inr ((([]:List Ak),false))
 else
  o1=.inr ((x48,true))
def H5 (x1:List Ai) (r:(List Ak) × Bool):Prop :=
 Ar (fun (s:(List Ak) × Int) o=>Dv x1 s.1 s.2 o) (([]:List Ak),0) r
def Ot (x1:List Ai) (r:Int):Prop :=
 ∃ r9:(List Ak) × Bool,(H5 x1 r9) ∧
 if r9.2=true then
  r=(r9.1.length:Int)
 else
  r = -1
def J8 (x1:Aj) (x2:Ai) (x9:Bool) (r:Bool):Prop :=
 if x9=true then
  r=false
 else
  if x1.lit=true then
   if x2.named=true then
    r=false
   else
    r=(seq x2.name x1.name)
  else
   if x1.name=(⟨#[]⟩:ByteArray) then
    r=true
   else
    if x2.named=true then
     r=(seq x2.name x1.name)
    else
     r=false
def Om (x1:Aj) (x2:Ai) (r:Bool):Prop :=
 if x1.field=(⟨#[]⟩:ByteArray) then
  J8 x1 x2 false r
 else
  J8 x1 x2 (!(seq x1.field x2.field)) r
def Em (x1:List Ak) (x6:Int) (x7:Int) (rc_trellisref15_find:(List Ak)→Int→Int→(Ak × Int × Bool)→Prop) (x199:Int) (o1:Sum Int (Ak × Int × Bool)):Prop :=
 if x199 < (x1.length:Int) then
  (0≤x199∧x199 < (x1.length:Int)) ∧
  if (ix x1 x199).at_=x6 then
   o1=.inr ((ix x1 x199,x7,true))
  else
   ∃ r422:Ak × Int × Bool,(rc_trellisref15_find ((ix x1 x199).kids) x6 ((ix x1 x199).at_) r422) ∧
   if r422.2.2=true then
    o1=.inr ((r422.1,r422.2.1,true))
   else
    o1=.inl (w64 (x199 + 1))
 else
  o1=.inr (((⟨(⟨(⟨#[]⟩:ByteArray),false,(⟨#[]⟩:ByteArray),0,0,0,0⟩:Ai),([]:List Ak),0⟩:Ak),-1,false))
def Fg (rc_trellisref15_find:(List Ak)→Int→Int→(Ak × Int × Bool)→Prop) (x1:List Ak) (x6:Int) (x7:Int) (r:Ak × Int × Bool):Prop :=
 Ar (fun (s:Int) o=>Em x1 x6 x7 rc_trellisref15_find s o) 0 r
def F8:Nat→(List Ak)→Int→Int→(Ak × Int × Bool)→Prop
 | 0=>fun _ _ _ _=>False
 | n + 1=>Fg (F8 n)
def Qm (x1:List Ak) (x6:Int) (x7:Int) (r:Ak × Int × Bool):Prop:=∃ n,F8 n x1 x6 x7 r
def Fp (r30:Ak × Int × Bool) (x63:List Int) (x68:Int) (o1:Sum ((List Int) × Int) (List Int)):Prop :=
 if x68 < (r30.1.kids.length:Int) then
  (0≤x68∧x68 < (r30.1.kids.length:Int)) ∧
  ∃ x102:List Int,(x102=x63++([(ix r30.1.kids x68).at_]:List Int)) ∧
  (x102.length * 8≤211106232532992) ∧
  o1=.inl (x102,w64 (x68 + 1))
 else
  o1=.inr (x63)
def U4 (x1:List Ai) (x6:Int) (r:List Int):Prop :=
 ∃ r10:(List Ak) × Bool,(H5 x1 r10) ∧
 ∃ r30:Ak × Int × Bool,(Qm r10.1 x6 (-1) r30) ∧
 Ar (fun (s:(List Int) × Int) o=>Fp r30 s.1 s.2 o) (([]:List Int),0) r
def Ic (x726:List Int) (x1:List Aj) (x391:Int) (x725:Int) (x392:Int) (x912:List Int) (x917:Int) (o3:Sum ((List Int) × Int) (Sum (Int × (List Int)) (Sum ((List Int) × Int × Int × Int) (List Int)))):Prop :=
 if x917 < (x726.length:Int) then
  (0≤x917∧x917 < (x726.length:Int)) ∧
  ∃ x945:List Int,(x945=x912++([ix x726 x917]:List Int)) ∧
  (x945.length * 8≤211106232532992) ∧
  o3=.inl (x945,w64 (x917 + 1))
 else
  ∃ r951:Int,(Ku x1 x391 r951) ∧
  o3=.inr (.inr (.inl (x912,x725,r951,w64 (x392 + 1))))
def Ru (x726:List Int) (x1:List Aj) (x391:Int) (x725:Int) (x392:Int) (x977:List Int) (x982:Int) (o3:Sum ((List Int) × Int) (Sum (Int × (List Int)) (Sum ((List Int) × Int × Int × Int) (List Int)))):Prop :=
 if x982 < (x726.length:Int) then
  (0≤x982∧x982 < (x726.length:Int)) ∧
  ∃ x1010:List Int,(x1010=x977++([ix x726 x982]:List Int)) ∧
  (x1010.length * 8≤211106232532992) ∧
  o3=.inl (x1010,w64 (x982 + 1))
 else
  ∃ r1016:Int,(Ku x1 x391 r1016) ∧
  o3=.inr (.inr (.inl (x977,x725,r1016,w64 (x392 + 1))))
def Fz (r60:List Int) (rc_trellisref20_At:(List Aj)→Int→(List Ai)→Int→(List Int)→Prop) (x1:List Aj) (x391:Int) (x7:List Ai) (x392:Int) (x385:List Int) (x725:Int) (x726:List Int) (o2:Sum (Int × (List Int)) (Sum ((List Int) × Int × Int × Int) (List Int))):Prop :=
 if x725 < (r60.length:Int) then
  if (x726.length:Int)=0 then
   (0≤x725∧x725 < (r60.length:Int)) ∧
   ∃ r882:List Int,(rc_trellisref20_At x1 x391 x7 (ix r60 x725) r882) ∧
   o2=.inl (w64 (x725 + 1),r882)
  else
   Ar (fun (s:(List Int) × Int) o=>Ic x726 x1 x391 x725 x392 s.1 s.2 o) (x385,0) o2
 else
  if (x726.length:Int)=0 then
   o2=.inr (.inr (([]:List Int)))
  else
   Ar (fun (s:(List Int) × Int) o=>Ru x726 x1 x391 x725 x392 s.1 s.2 o) (x385,0) o2
def Ib (x1:List Aj) (x6:Int) (r60:List Int) (rc_trellisref20_At:(List Aj)→Int→(List Ai)→Int→(List Int)→Prop) (x7:List Ai) (x385:List Int) (x390:Int) (x391:Int) (x392:Int) (o1:Sum ((List Int) × Int × Int × Int) (List Int)):Prop :=
 if x392 < (ix x1 x6).kids then
  Ar (fun (s:Int × (List Int)) o=>Fz r60 rc_trellisref20_At x1 x391 x7 x392 x385 s.1 s.2 o) (x390,([]:List Int)) o1
 else
  o1=.inr (x385)
def Md (rc_trellisref20_At:(List Aj)→Int→(List Ai)→Int→(List Int)→Prop) (x1:List Aj) (x6:Int) (x7:List Ai) (x12:Int) (r:List Int):Prop :=
 (0≤x6∧x6 < (x1.length:Int)) ∧
 (0≤x12∧x12 < (x7.length:Int)) ∧
 ∃ r20:Bool,(Om (ix x1 x6) (ix x7 x12) r20) ∧
 if r20=true then
  ∃ r60:List Int,(U4 x7 x12 r60) ∧
  Ar (fun (s:(List Int) × Int × Int × Int) o=>Ib x1 x6 r60 rc_trellisref20_At x7 s.1 s.2.1 s.2.2.1 s.2.2.2 o) (([x12]:List Int),0,w64 (x6 + 1),0) r
 else
  r=([]:List Int)
def Gp:Nat→(List Aj)→Int→(List Ai)→Int→(List Int)→Prop
 | 0=>fun _ _ _ _ _=>False
 | n + 1=>Md (Gp n)
def Y1 (x1:List Aj) (x6:Int) (x7:List Ai) (x12:Int) (r:List Int):Prop:=∃ n,Gp n x1 x6 x7 x12 r
def Nu (x7:Int) (x2:ByteArray) (x10:Int) (r:ByteArray):Prop :=
 if x7≥x10 then
  r=(⟨#[]⟩:ByteArray)
 else
  (0≤x7∧x7≤x10∧x10≤(x2.size:Int)) ∧
  r=x2.extract (x7:Int).toNat (x10:Int).toNat
def Nr (x1:Ai) (x2:ByteArray) (x7:Int) (r:ByteArray):Prop :=
 if x1.to > (x2.size:Int) then
  Nu x7 x2 (x2.size:Int) r
 else
  Nu x7 x2 x1.to r
def Na (x1:Ai) (x2:ByteArray) (r:ByteArray):Prop :=
 if x1.from_ < 0 then
  Nr x1 x2 0 r
 else
  Nr x1 x2 x1.from_ r
def J9 (r183:ByteArray) (x1:Aq) (x93:Int) (x210:ByteArray) (o1:Sum Int Bool):Prop :=
 if ((seq r183 x210) == ((ix x1.conds x93).not))=true then
  o1=.inr (false)
 else
  o1=.inl (w64 (x93 + 1))
def I5 (x1:Aq) (x16:List Int) (x10:List Ai) (x15:ByteArray) (x93:Int) (o1:Sum Int Bool):Prop :=
 if x93 < (x1.conds.length:Int) then
  (0≤x93∧x93 < (x1.conds.length:Int)) ∧
  ∃ r171:Int,(H8 x1 ((ix x1.conds x93).a) r171) ∧
  (0≤r171∧r171 < (x16.length:Int)) ∧
  (0≤ix x16 r171∧ix x16 r171 < (x10.length:Int)) ∧
  ∃ r183:ByteArray,(Na (ix x10 (ix x16 r171)) x15 r183) ∧
  if (ix x1.conds x93).b=(⟨#[]⟩:ByteArray) then
   J9 r183 x1 x93 ((ix x1.conds x93).text) o1
  else
   ∃ r215:Int,(H8 x1 ((ix x1.conds x93).b) r215) ∧
   (0≤r215∧r215 < (x16.length:Int)) ∧
   (0≤ix x16 r215∧ix x16 r215 < (x10.length:Int)) ∧
   ∃ r227:ByteArray,(Na (ix x10 (ix x16 r215)) x15 r227) ∧
   J9 r183 x1 x93 r227 o1
 else
  o1=.inr (true)
def S9 (x1:Aq) (x10:List Ai) (x15:ByteArray) (x16:List Int) (r:Bool):Prop :=
 Ar (fun (s:Int) o=>I5 x1 x16 x10 x15 s o) 0 r
def Hz (x10:List Ai) (x1:Aq) (x15:ByteArray) (x83:List Be) (x92:Int) (o1:Sum ((List Be) × Int) (List Be)):Prop :=
 if x92 < (x10.length:Int) then
  ∃ r140:List Int,(Y1 x1.nodes 0 x10 x92 r140) ∧
  if (r140.length:Int) > 0 then
   ∃ r154:Bool,(S9 x1 x10 x15 r140 r154) ∧
   if r154=true then
    ∃ x173:List Be,(x173=x83++([(⟨r140⟩:Be)]:List Be)) ∧
    (x173.length * 24≤211106232532992) ∧
    o1=.inl (x173,w64 (x92 + 1))
   else
    o1=.inl (x83,w64 (x92 + 1))
  else
   o1=.inl (x83,w64 (x92 + 1))
 else
  o1=.inr (x83)
def J5 (x10:List Ai) (x1:Aq) (x15:ByteArray) (x36:Bool) (r:List Be):Prop :=
 if x36=true then
  r=([]:List Be)
 else
  Ar (fun (s:(List Be) × Int) o=>Hz x10 x1 x15 s.1 s.2 o) (([]:List Be),0) r
def Ir (x1:Aq) (x10:List Ai) (x15:ByteArray) (r:List Be):Prop :=
 ∃ r182:Bool,(Oc x1 r182) ∧
 if r182=true then
  ∃ r191:Int,(Ot x10 r191) ∧
  J5 x10 x1 x15 (decide (r191 < 0)) r
 else
  J5 x10 x1 x15 true r
def Ih (x1:Aq) (x53:Int) (x54:List Aj) (x59:List D8) (o1:Sum (Int × (List Aj) × (List D8)) (Aq × Nat × Nat)):Prop :=
 if x53 < 20 then
  ∃ x94:List Aj,(x94=x54++([(⟨(⟨#[]⟩:ByteArray),false,(⟨#[]⟩:ByteArray),(⟨#[]⟩:ByteArray),w64 (900 + x53)⟩:Aj)]:List Aj)) ∧
  (x94.length * 64≤211106232532992) ∧
  ∃ x103:List D8,(x103=x59++([(⟨false,(⟨#[]⟩:ByteArray),(⟨#[]⟩:ByteArray),(⟨#[109,97,114,107]⟩:ByteArray)⟩:D8)]:List D8)) ∧
  (x103.length * 56≤211106232532992) ∧
  o1=.inl (w64 (x53 + 1),x94,x103)
 else
  (0≤(0:Int)∧(0:Int)≤(x1.nodes.length:Int)∧(x1.nodes.length:Int)≤(x54.length:Int)) ∧
  (0≤(0:Int)∧(0:Int)≤(x1.conds.length:Int)∧(x1.conds.length:Int)≤(x59.length:Int)) ∧
  o1=.inr (((⟨x54,x59⟩:Aq),((x1.nodes.length:Int):Int).toNat,((x1.conds.length:Int):Int).toNat))
def U9 (x1:Aq) (r:Aq × Nat × Nat):Prop :=
 ∃ r17:Aq,(J6 x1 r17) ∧
 Ar (fun (s:Int × (List Aj) × (List D8)) o=>Ih x1 s.1 s.2.1 s.2.2 o) (0,r17.nodes,r17.conds) r
def Gv (x1:List Ai) (x29:List Ai) (x34:Int) (o1:Sum ((List Ai) × Int) ((List Ai) × Nat)):Prop :=
 if x34 < 20 then
  ∃ x54:List Ai,(x54=x29++([(⟨(⟨#[109,97,114,107]⟩:ByteArray),false,(⟨#[]⟩:ByteArray),w64 (900 + x34),0,0,0⟩:Ai)]:List Ai)) ∧
  (x54.length * 72≤211106232532992) ∧
  o1=.inl (x54,w64 (x34 + 1))
 else
  (0≤(0:Int)∧(0:Int)≤(x1.length:Int)∧(x1.length:Int)≤(x29.length:Int)) ∧
  o1=.inr ((x29,((x1.length:Int):Int).toNat))
def P9 (x1:List Ai) (r:(List Ai) × Nat):Prop :=
 ∃ r9:List Ai,(Gx x1 r9) ∧
 Ar (fun (s:(List Ai) × Int) o=>Gv x1 s.1 s.2 o) (r9,0) r
def Iq (x1:List Aj) (x6:Int) (rc_query_subtree:(List Aj)→Int→Int→Prop) (x26:Int) (x27:Int) (o1:Sum (Int × Int) Int):Prop :=
 if x27 < (ix x1 x6).kids then
  ∃ r42:Int,(rc_query_subtree x1 x26 r42) ∧
  if r42 < 0 then
   o1=.inr (-1)
  else
   o1=.inl (r42,w64 (x27 + 1))
 else
  o1=.inr (x26)
def Ol (x6:Int) (x1:List Aj) (rc_query_subtree:(List Aj)→Int→Int→Prop) (x11:Bool) (r:Int):Prop :=
 if x11=true then
  r = -1
 else
  (0≤x6∧x6 < (x1.length:Int)) ∧
  Ar (fun (s:Int × Int) o=>Iq x1 x6 rc_query_subtree s.1 s.2 o) (w64 (x6 + 1),0) r
def Ou (rc_query_subtree:(List Aj)→Int→Int→Prop) (x1:List Aj) (x6:Int) (r:Int):Prop :=
 if x6≥(x1.length:Int) then
  Ol x6 x1 rc_query_subtree true r
 else
  (0≤x6∧x6 < (x1.length:Int)) ∧
  Ol x6 x1 rc_query_subtree (decide ((ix x1 x6).kids < 0)) r
def Pz:Nat→(List Aj)→Int→Int→Prop
 | 0=>fun _ _ _=>False
 | n + 1=>Ou (Pz n)
def Zj (x1:List Aj) (x6:Int) (r:Int):Prop:=∃ n,Pz n x1 x6 r
def Vr (x1:Int) (r:Bool):Prop :=
 if x1≥48 then
  r=decide (x1≤57)
 else
  r=false
def Wu (x1:Int) (r:Bool):Prop :=
 if x1≥97 then
  if x1≤122 then
   r=true
  else
   if x1≥65 then
    if x1≤90 then
     r=true
    else
     r=(x1 == 95)
   else
    r=(x1 == 95)
 else
  if x1≥65 then
   if x1≤90 then
    r=true
   else
    r=(x1 == 95)
  else
   r=(x1 == 95)
def X9 (x1:ByteArray) (x2:ByteArray) (r:Bool):Prop :=
 (x2.size=1)∧r=hasB x1 x2
def Ov (x1:Dw) (x40:Int) (o1:Sum Int Bool):Prop :=
 if x40 < (x1.text.size:Int) then
  (0≤x40∧x40 < (x1.text.size:Int)) ∧
  ∃ r66:Bool,(Wu (bt x1.text x40) r66) ∧
  if r66=true then
   o1=.inl (w64 (x40 + 1))
  else
   ∃ r75:Bool,(Vr (bt x1.text x40) r75) ∧
   if r75=true then
    o1=.inl (w64 (x40 + 1))
   else
    o1=.inr (false)
 else
  o1=.inr (true)
def Oy (x1:Dw) (x17:Bool) (r:Bool):Prop :=
 if x17=true then
  r=false
 else
  Ar (fun (s:Int) o=>Ov x1 s o) 0 r
def Jf (x1:Dw) (x105:Int) (x120:Bool) (o1:Sum Int Bool):Prop :=
 if x120=true then
  o1=.inr (false)
 else
  if bt x1.text x105=92 then
   if w64 (x105 + 1)=(x1.text.size:Int) then
    o1=.inr (false)
   else
    (0≤w64 (x105 + 1)∧w64 (x105 + 1) < (x1.text.size:Int)) ∧
    if bt x1.text (w64 (x105 + 1))=10 then
     o1=.inr (false)
    else
     o1=.inl (w64 ((w64 (x105 + 1)) + 1))
  else
   o1=.inl (w64 (x105 + 1))
def Kq (x1:Dw) (x105:Int) (o1:Sum Int Bool):Prop :=
 if x105 < (x1.text.size:Int) then
  (0≤x105∧x105 < (x1.text.size:Int)) ∧
  if bt x1.text x105=47 then
   Jf x1 x105 ((bt x1.text x105) == 47) o1
  else
   Jf x1 x105 ((bt x1.text x105) == 10) o1
 else
  o1=.inr (true)
def Xo (x1:Dw) (r:Bool):Prop :=
 if x1.kind=1 then
  if x1.text=(⟨#[]⟩:ByteArray) then
   Oy x1 true r
  else
   if (x1.text.size:Int) > 24 then
    Oy x1 true r
   else
    (0≤(0:Int)∧(0:Int) < (x1.text.size:Int)) ∧
    ∃ r87:Bool,(Vr (bt x1.text 0) r87) ∧
    Oy x1 r87 r
 else
  if x1.kind=2 then
   r=true
  else
   if x1.kind=3 then
    Ar (fun (s:Int) o=>Kq x1 s o) 0 r
   else
    if x1.kind=4 then
     if x1.n≥0 then
      r=decide (x1.n≤65535)
     else
      r=false
    else
     if x1.kind=5 then
      if (x1.text.size:Int)=1 then
       ∃ r133:Bool,(X9 (⟨#[123,125,40,41,124,42,43,63,58,59,44,61,64]⟩:ByteArray) x1.text r133) ∧
       r=r133
      else
       r=false
     else
      r=false
def Vy (x1:ByteArray) (x105:Int) (x100:List Int) (x247:Bool) (o1:Sum ((List Int) × Int) ByteArray):Prop :=
 if x247=true then
  (0≤IntKind.u8.wrap (Int.tdiv (bt x1 x105) 16)∧IntKind.u8.wrap (Int.tdiv (bt x1 x105) 16) < ((⟨#[48,49,50,51,52,53,54,55,56,57,97,98,99,100,101,102]⟩:ByteArray).size:Int)) ∧
  (0≤Int.tmod (bt x1 x105) 16∧Int.tmod (bt x1 x105) 16 < ((⟨#[48,49,50,51,52,53,54,55,56,57,97,98,99,100,101,102]⟩:ByteArray).size:Int)) ∧
  ∃ x257:List Int,(x257=x100++([92,120,bt (⟨#[48,49,50,51,52,53,54,55,56,57,97,98,99,100,101,102]⟩:ByteArray) (IntKind.u8.wrap (Int.tdiv (bt x1 x105) 16)),bt (⟨#[48,49,50,51,52,53,54,55,56,57,97,98,99,100,101,102]⟩:ByteArray) (Int.tmod (bt x1 x105) 16)]:List Int)) ∧
  (x257.length * 1≤211106232532992) ∧
  o1=.inl (x257,w64 (x105 + 1))
 else
  ∃ x280:List Int,(x280=x100++([bt x1 x105]:List Int)) ∧
  (x280.length * 1≤211106232532992) ∧
  o1=.inl (x280,w64 (x105 + 1))
def Wq (x100:List Int) (x1:ByteArray) (x105:Int) (x204:Bool) (o1:Sum ((List Int) × Int) ByteArray):Prop :=
 if x204=true then
  ∃ x212:List Int,(x212=x100++([92,bt x1 x105]:List Int)) ∧
  (x212.length * 1≤211106232532992) ∧
  o1=.inl (x212,w64 (x105 + 1))
 else
  if bt x1 x105=10 then
   ∃ x222:List Int,(x222=x100++([92,110]:List Int)) ∧
   (x222.length * 1≤211106232532992) ∧
   o1=.inl (x222,w64 (x105 + 1))
  else
   if bt x1 x105=9 then
    ∃ x232:List Int,(x232=x100++([92,116]:List Int)) ∧
    (x232.length * 1≤211106232532992) ∧
    o1=.inl (x232,w64 (x105 + 1))
   else
    if bt x1 x105=13 then
     ∃ x242:List Int,(x242=x100++([92,114]:List Int)) ∧
     (x242.length * 1≤211106232532992) ∧
     o1=.inl (x242,w64 (x105 + 1))
    else
     if bt x1 x105 < 32 then
      Vy x1 x105 x100 true o1
     else
      Vy x1 x105 x100 (decide (bt x1 x105 > 126)) o1
def Wp (x1:ByteArray) (x100:List Int) (x105:Int) (o1:Sum ((List Int) × Int) ByteArray):Prop :=
 if x105 < (x1.size:Int) then
  (0≤x105∧x105 < (x1.size:Int)) ∧
  if bt x1 x105=34 then
   Wq x100 x1 x105 true o1
  else
   Wq x100 x1 x105 ((bt x1 x105) == 92) o1
 else
  ∃ x291:List Int,(x291=x100++([34]:List Int)) ∧
  (x291.length * 1≤211106232532992) ∧
  o1=.inr (Xbk x291)
def Xbo (x1:ByteArray) (r:ByteArray):Prop :=
 Ar (fun (s:(List Int) × Int) o=>Wp x1 s.1 s.2 o) (([34]:List Int),0) r
def strconv_Itoa (x1:Int) (r:ByteArray):Prop :=
 (-9223372036854775808≤x1∧x1≤9223372036854775807)∧r=itoaB x1
def Xw (x1:Dw) (r:ByteArray):Prop :=
 ∃ r7:Bool,(Xo x1 r7) ∧
 if r7=true then
  if x1.kind=2 then
   ∃ r17:ByteArray,(Xbo x1.text r17) ∧
   r=r17
  else
   if x1.kind=3 then
    ((⟨#[47]⟩:ByteArray).size + x1.text.size≤9223372036854775807) ∧
    (((⟨#[47]⟩:ByteArray)++x1.text).size + (⟨#[47]⟩:ByteArray).size≤9223372036854775807) ∧
    r=((⟨#[47]⟩:ByteArray)++x1.text)++(⟨#[47]⟩:ByteArray)
   else
    if x1.kind=4 then
     ∃ r29:ByteArray,(strconv_Itoa x1.n r29) ∧
     r=r29
    else
     r=x1.text
 else
  r=(⟨#[]⟩:ByteArray)
def Rz (x1:ByteArray) (r:Bool):Prop :=
 if x1=(⟨#[95]⟩:ByteArray) then
  r=false
 else
  ∃ r6:ByteArray,(Xw (⟨1,x1,0,0⟩:Dw) r6) ∧
  r=(!(seq r6 (⟨#[]⟩:ByteArray)))
def Jz (x1:Aj) (x17:Bool) (r:Bool):Prop :=
 if x17=true then
  r=false
 else
  if x1.field=(⟨#[]⟩:ByteArray) then
   if x1.capture=(⟨#[]⟩:ByteArray) then
    r=true
   else
    ∃ r24:Bool,(Rz x1.capture r24) ∧
    r=r24
  else
   ∃ r32:Bool,(Rz x1.field r32) ∧
   if r32=true then
    if x1.capture=(⟨#[]⟩:ByteArray) then
     r=true
    else
     ∃ r42:Bool,(Rz x1.capture r42) ∧
     r=r42
   else
    r=false
def Xv (x1:Aj) (r:Bool):Prop :=
 if x1.lit=true then
  if x1.name=(⟨#[]⟩:ByteArray) then
   Jz x1 true r
  else
   if x1.kids=0 then
    Jz x1 false r
   else
    Jz x1 true r
 else
  if x1.name=(⟨#[]⟩:ByteArray) then
   Jz x1 false r
  else
   ∃ r54:Bool,(Rz x1.name r54) ∧
   Jz x1 (!r54) r
def X6 (x1:Aj) (x2:ByteArray) (r:Bool × ByteArray):Prop :=
 r=((seq x1.capture x2),x2)
def Dj (x1:List Aj) (x22:Int) (x23:ByteArray) (o1:Sum (Int × ByteArray) (Int × ByteArray)):Prop :=
 if x22 < (x1.length:Int) then
  (0≤x22∧x22 < (x1.length:Int)) ∧
  ∃ r42:Bool × ByteArray,(X6 (ix x1 x22) x23 r42) ∧
  if r42.1=true then
   o1=.inr ((x22,r42.2))
  else
   o1=.inl (w64 (x22 + 1),r42.2)
 else
  o1=.inr ((-1,x23))
def G5 (x1:List Aj) (x6:ByteArray) (r:Int × ByteArray):Prop :=
 Ar (fun (s:Int × ByteArray) o=>Dj x1 s.1 s.2 o) (0,x6) r
def Jt (x1:Aq) (x10:ByteArray) (r:Int):Prop :=
 if x10=(⟨#[]⟩:ByteArray) then
  r = -1
 else
  ∃ r19:Int × ByteArray,(G5 x1.nodes x10 r19) ∧
  r=r19.1
def Kz (x1:Aq) (x340:Int) (o2:Sum Int (Sum Int Bool)):Prop :=
 if x340 < (x1.conds.length:Int) then
  (0≤x340∧x340 < (x1.conds.length:Int)) ∧
  ∃ r374:Int,(Jt x1 ((ix x1.conds x340).a) r374) ∧
  if r374 < 0 then
   o2=.inr (.inr (false))
  else
   if (ix x1.conds x340).b=(⟨#[]⟩:ByteArray) then
    o2=.inl (w64 (x340 + 1))
   else
    ∃ r384:Int,(Jt x1 ((ix x1.conds x340).b) r384) ∧
    if r384 < 0 then
     o2=.inr (.inr (false))
    else
     if (ix x1.conds x340).text=(⟨#[]⟩:ByteArray) then
      o2=.inl (w64 (x340 + 1))
     else
      o2=.inr (.inr (false))
 else
  o2=.inr (.inr (true))
def Ky (x1:Aq) (x188:Int) (o1:Sum Int Bool):Prop :=
 if x188 < (x1.nodes.length:Int) then
  (0≤x188∧x188 < (x1.nodes.length:Int)) ∧
  ∃ r298:Bool,(Xv (ix x1.nodes x188) r298) ∧
  if r298=true then
   if (ix x1.nodes x188).capture=(⟨#[]⟩:ByteArray) then
    o1=.inl (w64 (x188 + 1))
   else
    ∃ r308:Int,(Jt x1 ((ix x1.nodes x188).capture) r308) ∧
    if r308=x188 then
     o1=.inl (w64 (x188 + 1))
    else
     o1=.inr (false)
  else
   o1=.inr (false)
 else
  Ar (fun (s:Int) o=>Kz x1 s o) 0 o1
def Jh (x1:Aq) (x84:Bool) (r:Bool):Prop :=
 if x84=true then
  r=false
 else
  Ar (fun (s:Int) o=>Ky x1 s o) 0 r
def W9 (x1:Aq) (r:Bool):Prop :=
 if (x1.nodes.length:Int) > 32 then
  Jh x1 true r
 else
  if (x1.conds.length:Int) > 16 then
   Jh x1 true r
  else
   ∃ r396:Int,(Zj x1.nodes 0 r396) ∧
   Jh x1 (r396 != (x1.nodes.length:Int)) r
def Je (x355:Int) (x654:List Int) (x766:List Int) (x771:List Int) (x776:List Int) (o2:Sum ((List Int) × (List Int) × (List Int)) (Sum ((List Int) × (List Int) × Int × (List Int) × (List Int)) Fj)):Prop :=
 if (x766.length:Int) > 0 then
  (0≤w64 ((x771.length:Int) - 1)∧w64 ((x771.length:Int) - 1) < (x771.length:Int)) ∧
  if ix x771 (w64 ((x771.length:Int) - 1))=0 then
   (0≤w64 ((x766.length:Int) - 1)∧w64 ((x766.length:Int) - 1) < (x766.length:Int)) ∧
   (0≤ix x766 (w64 ((x766.length:Int) - 1))∧ix x766 (w64 ((x766.length:Int) - 1)) < (x776.length:Int)) ∧
   ∃ x811:List Int,(x811=x776.set (ix x766 (w64 ((x766.length:Int) - 1)):Int).toNat (w64 (x355 + 1))) ∧
   (0≤(0:Int)∧(0:Int)≤w64 ((x766.length:Int) - 1)∧w64 ((x766.length:Int) - 1)≤(x766.length:Int)) ∧
   ∃ x818:List Int,(x818=x766.take (w64 ((x766.length:Int) - 1):Int).toNat) ∧
   (0≤(0:Int)∧(0:Int)≤w64 ((x771.length:Int) - 1)∧w64 ((x771.length:Int) - 1)≤(x771.length:Int)) ∧
   ∃ x823:List Int,(x823=x771.take (w64 ((x771.length:Int) - 1):Int).toNat) ∧
   o2=.inl (x818,x823,x811)
  else
   o2=.inr (.inl (x766,x771,w64 (x355 + 1),x654,x776))
 else
  o2=.inr (.inl (x766,x771,w64 (x355 + 1),x654,x776))
def Jd (x1:List Ai) (x355:Int) (x358:List Int) (x345:List Int) (x652:List Int) (x654:List Int) (o1:Sum ((List Int) × (List Int) × Int × (List Int) × (List Int)) Fj):Prop :=
 if (ix x1 x355).kids < 0 then
  o1=.inr ((⟨x1,x654,x358,false⟩:Fj))
 else
  ∃ x663:List Int,(x663=x345++([x355]:List Int)) ∧
  (x663.length * 8≤211106232532992) ∧
  ∃ x672:List Int,(x672=x652++([(ix x1 x355).kids]:List Int)) ∧
  (x672.length * 8≤211106232532992) ∧
  Ar (fun (s:(List Int) × (List Int) × (List Int)) o=>Je x355 x654 s.1 s.2.1 s.2.2 o) (x663,x672,x358) o1
def Jr (x1:List Ai) (x345:List Int) (x350:List Int) (x355:Int) (x356:List Int) (x358:List Int) (o1:Sum ((List Int) × (List Int) × Int × (List Int) × (List Int)) Fj):Prop :=
 if x355 < (x1.length:Int) then
  (0≤x355∧x355 < (x1.length:Int)) ∧
  (0≤x355∧x355 < (x356.length:Int)) ∧
  ∃ x636:List Int,(x636=x356.set (x355:Int).toNat (-1)) ∧
  if (x345.length:Int) > 0 then
   (0≤w64 ((x345.length:Int) - 1)∧w64 ((x345.length:Int) - 1) < (x345.length:Int)) ∧
   (0≤x355∧x355 < (x636.length:Int)) ∧
   ∃ x891:List Int,(x891=x636.set (x355:Int).toNat (ix x345 (w64 ((x345.length:Int) - 1)))) ∧
   (0≤w64 ((x350.length:Int) - 1)∧w64 ((x350.length:Int) - 1) < (x350.length:Int)) ∧
   ∃ x897:List Int,(x897=x350.set (w64 ((x350.length:Int) - 1):Int).toNat (w64 ((ix x350 (w64 ((x350.length:Int) - 1))) - 1))) ∧
   Jd x1 x355 x358 x345 x897 x891 o1
  else
   Jd x1 x355 x358 x345 x350 x636 o1
 else
  o1=.inr ((⟨x1,x356,x358,((x345.length:Int) == 0)⟩:Fj))
def Vo (x1:List Ai) (r:Fj):Prop :=
 (0≤(x1.length:Int)∧(x1.length:Int) * 8≤281474976710656) ∧
 ∃ x12:List Int,(x12=List.replicate ((x1.length:Int):Int).toNat (0:Int)) ∧
 ∃ x17:List Int,(x17=List.replicate ((x1.length:Int):Int).toNat (0:Int)) ∧
 Ar (fun (s:(List Int) × (List Int) × Int × (List Int) × (List Int)) o=>Jr x1 s.1 s.2.1 s.2.2.1 s.2.2.2.1 s.2.2.2.2 o) (([]:List Int),([]:List Int),0,x12,x17) r
def G6 (x15:Int) (x1:Fj) (x32:Int) (x33:List Int) (o1:Sum (Int × (List Int)) (List Int)):Prop :=
 if x32 < x15 then
  ∃ x57:List Int,(x57=x33++([x32]:List Int)) ∧
  (x57.length * 8≤211106232532992) ∧
  (0≤x32∧x32 < (x1.end_.length:Int)) ∧
  o1=.inl (ix x1.end_ x32,x57)
 else
  o1=.inr (x33)
def Lh (x1:Fj) (x14:Int) (x15:Int) (r:List Int):Prop :=
 Ar (fun (s:Int × (List Int)) o=>G6 x15 x1 s.1 s.2 o) (x14,([]:List Int)) r
def Ym (x1:List Ai) (r:List Int):Prop :=
 ∃ r9:Fj,(Vo x1 r9) ∧
 if r9.ok=true then
  ∃ r36:List Int,(Lh r9 0 (x1.length:Int) r36) ∧
  r=r36
 else
  r=([]:List Int)
def Yq (x1:List Ai) (r:Int):Prop :=
 ∃ r9:Fj,(Vo x1 r9) ∧
 if r9.ok=true then
  ∃ r34:List Int,(Ym x1 r34) ∧
  r=(r34.length:Int)
 else
  r = -1
def Ti (x1:Fj) (x14:Int) (r:Bool):Prop :=
 if x1.ok=true then
  if x14≥0 then
   r=decide (x14 < (x1.nodes.length:Int))
  else
   r=false
 else
  r=false
def Xa9 (x1:List Ai) (x6:Int) (r:List Int):Prop :=
 ∃ r10:Fj,(Vo x1 r10) ∧
 ∃ r36:Bool,(Ti r10 x6 r36) ∧
 if r36=true then
  (0≤x6∧x6 < (r10.end_.length:Int)) ∧
  ∃ r46:List Int,(Lh r10 (w64 (x6 + 1)) (ix r10.end_ x6) r46) ∧
  r=r46
 else
  r=([]:List Int)
def P6 (x1:Az) (x26:Int) (r:(List Int) × Az):Prop :=
 (0≤x26∧x26 < (x1.known.length:Int)) ∧
 if (ix x1.known x26)=true then
  (0≤x26∧x26 < (x1.of.length:Int)) ∧
  r=(ix x1.of x26,x1)
 else
  ∃ r41:List Int,(Xa9 x1.tree x26 r41) ∧
  (0≤x26∧x26 < (x1.of.length:Int)) ∧
  ∃ x66:List (List Int),(x66=x1.of.set (x26:Int).toNat r41) ∧
  ∃ x72:List Bool,(x72=x1.known.set (x26:Int).toNat true) ∧
  (0≤x26∧x26 < (x66.length:Int)) ∧
  r=(ix x66 x26,(⟨x1.nodes,x1.tree,x66,x72⟩:Az))
def Eu (x10:List Int) (rc_query_matcher_fits:Az→Int→Int→((List Int) × Az)→Prop) (x19:Az) (x9:Int) (x1:List Int) (rc_query_matcher_fits_1:(List Int)→Int→Int→(List Int)→Az→((List Int) × Az)→Prop) (x8:Int) (x236:Int) (x237:List (List Int)) (x246:List Bool) (o1:Sum (Int × (List (List Int)) × (List Bool)) ((List Int) × Az)):Prop :=
 if x236 < (x10.length:Int) then
  (0≤x236∧x236 < (x10.length:Int)) ∧
  ∃ r447:(List Int) × Az,(rc_query_matcher_fits (⟨x19.nodes,x19.tree,x237,x246⟩:Az) x9 (ix x10 x236) r447) ∧
  ∀ b472:Bool,(b472=true↔r447.1=[]) →
  if b472=true then
   o1=.inl (w64 (x236 + 1),r447.2.of,r447.2.known)
  else
   ∃ x478:List Int,(x478=x1++r447.1) ∧
   (x478.length * 8≤211106232532992) ∧
   (0≤w64 (x236 + 1)∧w64 (x236 + 1)≤(x10.length:Int)∧(x10.length:Int)≤(x10.length:Int)) ∧
   ∃ r486:(List Int) × Az,(rc_query_matcher_fits_1 x478 (w64 (x8 - 1)) (w64 (x9 + (r447.1.length:Int))) (x10.drop (w64 (x236 + 1):Int).toNat) (⟨x19.nodes,x19.tree,r447.2.of,r447.2.known⟩:Az) r486) ∧
   o1=.inr ((r486.1,(⟨x19.nodes,x19.tree,r486.2.of,r486.2.known⟩:Az)))
 else
  o1=.inr ((([]:List Int),(⟨x19.nodes,x19.tree,x237,x246⟩:Az)))
def Po (rc_query_matcher_fits_1:(List Int)→Int→Int→(List Int)→Az→((List Int) × Az)→Prop) (rc_query_matcher_fits:Az→Int→Int→((List Int) × Az)→Prop) (x1:List Int) (x8:Int) (x9:Int) (x10:List Int) (x19:Az) (r:(List Int) × Az):Prop :=
 if x8=0 then
  (x1≠[]) ∧
  r=(x1,x19)
 else
  Ar (fun (s:Int × (List (List Int)) × (List Bool)) o=>Eu x10 rc_query_matcher_fits x19 x9 x1 rc_query_matcher_fits_1 x8 s.1 s.2.1 s.2.2 o) (0,x19.of,x19.known) r
def Dh (x1:Az) (x27:Int) (rc_query_matcher_fits_1:(List Int)→Int→Int→(List Int)→Az→((List Int) × Az)→Prop) (x26:Int) (x61:Bool) (r:(List Int) × Az):Prop :=
 if x61=true then
  r=(([]:List Int),x1)
 else
  ∃ r66:(List Int) × Az,(P6 x1 x27 r66) ∧
  ∃ r97:(List Int) × Az,(rc_query_matcher_fits_1 ([x27]:List Int) ((ix x1.nodes x26).kids) (w64 (x26 + 1)) r66.1 (⟨x1.nodes,x1.tree,r66.2.of,r66.2.known⟩:Az) r97) ∧
  r=(r97.1,(⟨x1.nodes,x1.tree,r97.2.of,r97.2.known⟩:Az))
def Jp (rc_query_matcher_fits_1:(List Int)→Int→Int→(List Int)→Az→((List Int) × Az)→Prop) (rc_query_matcher_fits:Az→Int→Int→((List Int) × Az)→Prop) (x1:Az) (x26:Int) (x27:Int) (r:(List Int) × Az):Prop :=
 (0≤x26∧x26 < (x1.nodes.length:Int)) ∧
 (0≤x27∧x27 < (x1.tree.length:Int)) ∧
 if ((ix x1.nodes x26).lit)=true then
  if ((ix x1.tree x27).named)=true then
   Dh x1 x27 rc_query_matcher_fits_1 x26 true r
  else
   if (ix x1.tree x27).name=(ix x1.nodes x26).name then
    if (ix x1.nodes x26).field=(⟨#[]⟩:ByteArray) then
     Dh x1 x27 rc_query_matcher_fits_1 x26 false r
    else
     Dh x1 x27 rc_query_matcher_fits_1 x26 (!(seq ((ix x1.nodes x26).field) ((ix x1.tree x27).field))) r
   else
    Dh x1 x27 rc_query_matcher_fits_1 x26 true r
 else
  if (ix x1.nodes x26).name=(⟨#[]⟩:ByteArray) then
   if (ix x1.nodes x26).field=(⟨#[]⟩:ByteArray) then
    Dh x1 x27 rc_query_matcher_fits_1 x26 false r
   else
    Dh x1 x27 rc_query_matcher_fits_1 x26 (!(seq ((ix x1.nodes x26).field) ((ix x1.tree x27).field))) r
  else
   if ((ix x1.tree x27).named)=true then
    if (ix x1.tree x27).name=(ix x1.nodes x26).name then
     if (ix x1.nodes x26).field=(⟨#[]⟩:ByteArray) then
      Dh x1 x27 rc_query_matcher_fits_1 x26 false r
     else
      Dh x1 x27 rc_query_matcher_fits_1 x26 (!(seq ((ix x1.nodes x26).field) ((ix x1.tree x27).field))) r
    else
     Dh x1 x27 rc_query_matcher_fits_1 x26 true r
   else
    Dh x1 x27 rc_query_matcher_fits_1 x26 true r
def Ht:Nat→((List Int)→Int→Int→(List Int)→Az→((List Int) × Az)→Prop) × (Az→Int→Int→((List Int) × Az)→Prop)
 | 0=>(fun _ _ _ _ _ _=>False,fun _ _ _ _=>False)
 | n + 1=>(Po ((Ht n).1) ((Ht n).2),Jp ((Ht n).1) ((Ht n).2))
def Dl (n:Nat):(List Int)→Int→Int→(List Int)→Az→((List Int) × Az)→Prop:=(Ht n).1
def Ig (n:Nat):Az→Int→Int→((List Int) × Az)→Prop:=(Ht n).2
def Yl (x1:Az) (x26:Int) (x27:Int) (r:(List Int) × Az):Prop:=∃ n,Ig n x1 x26 x27 r
def Vf (x1:Ai) (x2:ByteArray) (r:ByteArray):Prop :=
 if max x1.from_ 0≥min x1.to (x2.size:Int) then
  r=(⟨#[]⟩:ByteArray)
 else
  (0≤max x1.from_ 0∧max x1.from_ 0≤min x1.to (x2.size:Int)∧min x1.to (x2.size:Int)≤(x2.size:Int)) ∧
  r=x2.extract (max x1.from_ 0:Int).toNat (min x1.to (x2.size:Int):Int).toNat
def Vx (x1:ByteArray) (x2:List Ai) (x9:List Int) (x16:Aq) (x27:ByteArray) (r:ByteArray × (List Ai) × (List Int) × Aq × ByteArray):Prop :=
 ∃ r33:Int,(Jt x16 x1 r33) ∧
 (0≤r33∧r33 < (x9.length:Int)) ∧
 (0≤ix x9 r33∧ix x9 r33 < (x2.length:Int)) ∧
 ∃ r45:ByteArray,(Vf (ix x2 (ix x9 r33)) x27 r45) ∧
 r=(r45,x2,x9,x16,x27)
def Xq (x1:D8) (x4:List Ai) (x11:List Int) (x18:Aq) (x29:ByteArray) (r:Bool × (List Ai) × (List Int) × Aq × ByteArray):Prop :=
 if x1.b=(⟨#[]⟩:ByteArray) then
  ∃ r38:ByteArray × (List Ai) × (List Int) × Aq × ByteArray,(Vx x1.a x4 x11 x18 x29 r38) ∧
  r=(((seq r38.1 x1.text) == x1.not),x4,x11,x18,r38.2.2.2.2)
 else
  ∃ r107:ByteArray × (List Ai) × (List Int) × Aq × ByteArray,(Vx x1.b x4 x11 x18 x29 r107) ∧
  ∃ r115:ByteArray × (List Ai) × (List Int) × Aq × ByteArray,(Vx x1.a x4 x11 x18 r107.2.2.2.2 r115) ∧
  r=(((seq r115.1 r107.1) == x1.not),x4,x11,x18,r115.2.2.2.2)
def Dn (x1:List D8) (x8:List Ai) (x15:List Int) (x22:Aq) (x49:Int) (x50:ByteArray) (o1:Sum (Int × ByteArray) (Int × (List Ai) × (List Int) × Aq × ByteArray)):Prop :=
 if x49 < (x1.length:Int) then
  (0≤x49∧x49 < (x1.length:Int)) ∧
  ∃ r69:Bool × (List Ai) × (List Int) × Aq × ByteArray,(Xq (ix x1 x49) x8 x15 x22 x50 r69) ∧
  if r69.1=true then
   o1=.inr ((x49,x8,x15,x22,r69.2.2.2.2))
  else
   o1=.inl (w64 (x49 + 1),r69.2.2.2.2)
 else
  o1=.inr ((-1,x8,x15,x22,x50))
def Jj (x1:List D8) (x8:List Ai) (x15:List Int) (x22:Aq) (x33:ByteArray) (r:Int × (List Ai) × (List Int) × Aq × ByteArray):Prop :=
 Ar (fun (s:Int × ByteArray) o=>Dn x1 x8 x15 x22 s.1 s.2 o) (0,x33) r
def Ez (x1:List D8) (x8:List Ai) (x15:List Int) (x22:Aq) (x33:ByteArray) (r:Bool × (List Ai) × (List Int) × Aq × ByteArray):Prop :=
 ∃ r39:Int × (List Ai) × (List Int) × Aq × ByteArray,(Jj x1 x8 x15 x22 x33 r39) ∧
 r=(decide (r39.1≥0),x8,x15,x22,r39.2.2.2.2)
def Qe (x10:List Ai) (x1:Aq) (x161:List Be) (x168:Int) (x169:List (List Int)) (x178:List Bool) (x183:ByteArray) (o1:Sum ((List Be) × Int × (List (List Int)) × (List Bool) × ByteArray) (List Be)):Prop :=
 if x168 < (x10.length:Int) then
  ∃ r247:(List Int) × Az,(Yl (⟨x1.nodes,x10,x169,x178⟩:Az) 0 x168 r247) ∧
  ∀ b274:Bool,(b274=true↔r247.1=[]) →
  if b274=true then
   o1=.inl (x161,w64 (x168 + 1),r247.2.of,r247.2.known,x183)
  else
   ∃ r282:Bool × (List Ai) × (List Int) × Aq × ByteArray,(Ez x1.conds x10 r247.1 x1 x183 r282) ∧
   if r282.1=true then
    o1=.inl (x161,w64 (x168 + 1),r247.2.of,r247.2.known,r282.2.2.2.2)
   else
    ∃ x297:List Be,(x297=x161++([(⟨r247.1⟩:Be)]:List Be)) ∧
    (x297.length * 24≤211106232532992) ∧
    o1=.inl (x297,w64 (x168 + 1),r247.2.of,r247.2.known,r282.2.2.2.2)
 else
  o1=.inr (x161)
def Sj (x10:List Ai) (x1:Aq) (x15:ByteArray) (x40:Bool) (r:List Be):Prop :=
 if x40=true then
  r=([]:List Be)
 else
  (0≤(x10.length:Int)∧(x10.length:Int) * 24≤281474976710656) ∧
  ∃ x47:List (List Int),(x47=List.replicate ((x10.length:Int):Int).toNat ([]:List Int)) ∧
  (0≤(x10.length:Int)∧(x10.length:Int) * 1≤281474976710656) ∧
  ∃ x53:List Bool,(x53=List.replicate ((x10.length:Int):Int).toNat (false:Bool)) ∧
  Ar (fun (s:(List Be) × Int × (List (List Int)) × (List Bool) × ByteArray) o=>Qe x10 x1 s.1 s.2.1 s.2.2.1 s.2.2.2.1 s.2.2.2.2 o) (([]:List Be),0,x47,x53,x15) r
def Rh (x1:Aq) (x10:List Ai) (x15:ByteArray) (r:List Be):Prop :=
 ∃ r335:Bool,(W9 x1 r335) ∧
 if r335=true then
  ∃ r344:Int,(Yq x10 r344) ∧
  Sj x10 x1 x15 (decide (r344 < 0)) r
 else
  Sj x10 x1 x15 true r
def Hw (x1:List Int) (x6:List Int) (x23:Int) (o1:Sum Int Bool):Prop :=
 if x23 < (x1.length:Int) then
  (0≤x23∧x23 < (x1.length:Int)) ∧
  (0≤x23∧x23 < (x6.length:Int)) ∧
  if ix x1 x23=ix x6 x23 then
   o1=.inl (w64 (x23 + 1))
  else
   o1=.inr (false)
 else
  o1=.inr (true)
def L9 (x1:List Int) (x6:List Int) (r:Bool):Prop :=
 if (x1.length:Int)=(x6.length:Int) then
  Ar (fun (s:Int) o=>Hw x1 x6 s o) 0 r
 else
  r=false
def Hg (x1:List Be) (x6:List Be) (x91:Int) (o1:Sum Int Bool):Prop :=
 if x91 < (x1.length:Int) then
  (0≤x91∧x91 < (x1.length:Int)) ∧
  (0≤x91∧x91 < (x6.length:Int)) ∧
  ∃ r190:Bool,(L9 ((ix x1 x91).nodes) ((ix x6 x91).nodes) r190) ∧
  if r190=true then
   o1=.inl (w64 (x91 + 1))
  else
   o1=.inr (false)
 else
  o1=.inr (true)
def Eh (x1:List Be) (x6:List Be) (r:Bool):Prop :=
 if (x1.length:Int)=(x6.length:Int) then
  Ar (fun (s:Int) o=>Hg x1 x6 s o) 0 r
 else
  r=false
def Mc (x1:Aq) (x10:Aq) (x134:Int) (o2:Sum Int (Sum Int Bool)):Prop :=
 if x134 < (x1.conds.length:Int) then
  (0≤x134∧x134 < (x1.conds.length:Int)) ∧
  (0≤x134∧x134 < (x10.conds.length:Int)) ∧
  if ix x1.conds x134=ix x10.conds x134 then
   o2=.inl (w64 (x134 + 1))
  else
   o2=.inr (.inr (false))
 else
  o2=.inr (.inr (true))
def Me (x1:Aq) (x10:Aq) (x70:Int) (o1:Sum Int Bool):Prop :=
 if x70 < (x1.nodes.length:Int) then
  (0≤x70∧x70 < (x1.nodes.length:Int)) ∧
  (0≤x70∧x70 < (x10.nodes.length:Int)) ∧
  if ix x1.nodes x70=ix x10.nodes x70 then
   o1=.inl (w64 (x70 + 1))
  else
   o1=.inr (false)
 else
  Ar (fun (s:Int) o=>Mc x1 x10 s o) 0 o1
def Nj (x1:Aq) (x10:Aq) (x25:Bool) (r:Bool):Prop :=
 if x25=true then
  r=false
 else
  Ar (fun (s:Int) o=>Me x1 x10 s o) 0 r
def Qj (x1:Aq) (x10:Aq) (r:Bool):Prop :=
 if (x1.nodes.length:Int)=(x10.nodes.length:Int) then
  Nj x1 x10 ((x1.conds.length:Int) != (x10.conds.length:Int)) r
 else
  Nj x1 x10 true r
def Ja (x16:Aq) (x1:Aq) (k6:Nat) (k13:Nat) (x42:Int) (o1:Sum Int Bool):Prop :=
 if x42 < 20 then
  (0≤w64 ((x16.nodes.length:Int) + x42)∧w64 ((x16.nodes.length:Int) + x42) < ((x1.nodes.take ((w64 ((x16.nodes.length:Int) + 20):Int).toNat)).length:Int)) ∧
  if ix (x1.nodes.take ((w64 ((x16.nodes.length:Int) + 20):Int).toNat)) (w64 ((x16.nodes.length:Int) + x42))=(⟨(⟨#[]⟩:ByteArray),false,(⟨#[]⟩:ByteArray),(⟨#[]⟩:ByteArray),w64 (900 + x42)⟩:Aj) then
   (0≤w64 ((x16.conds.length:Int) + x42)∧w64 ((x16.conds.length:Int) + x42) < ((x1.conds.take ((w64 ((x16.conds.length:Int) + 20):Int).toNat)).length:Int)) ∧
   if ix (x1.conds.take ((w64 ((x16.conds.length:Int) + 20):Int).toNat)) (w64 ((x16.conds.length:Int) + x42))=(⟨false,(⟨#[]⟩:ByteArray),(⟨#[]⟩:ByteArray),(⟨#[109,97,114,107]⟩:ByteArray)⟩:D8) then
    o1=.inl (w64 (x42 + 1))
   else
    o1=.inr (false)
  else
   o1=.inr (false)
 else
  ∃ r68:Bool,(Qj (⟨(x1.nodes.take k6),(x1.conds.take k13)⟩:Aq) x16 r68) ∧
  o1=.inr (r68)
def P7 (x1:Aq) (k6:Nat) (k13:Nat) (x16:Aq) (r:Bool):Prop :=
 (0≤w64 ((x16.nodes.length:Int) + 20)∧w64 ((x16.nodes.length:Int) + 20)≤(x1.nodes.length:Int)) ∧
 (0≤w64 ((x16.conds.length:Int) + 20)∧w64 ((x16.conds.length:Int) + 20)≤(x1.conds.length:Int)) ∧
 Ar (fun (s:Int) o=>Ja x16 x1 k6 k13 s o) 0 r
def Hu (x1:List Ai) (x6:List Ai) (x23:Int) (o1:Sum Int Bool):Prop :=
 if x23 < (x1.length:Int) then
  (0≤x23∧x23 < (x1.length:Int)) ∧
  (0≤x23∧x23 < (x6.length:Int)) ∧
  if ix x1 x23=ix x6 x23 then
   o1=.inl (w64 (x23 + 1))
  else
   o1=.inr (false)
 else
  o1=.inr (true)
def La (x1:List Ai) (x6:List Ai) (r:Bool):Prop :=
 if (x1.length:Int)=(x6.length:Int) then
  Ar (fun (s:Int) o=>Hu x1 x6 s o) 0 r
 else
  r=false
def Hf (x9:List Ai) (x1:List Ai) (k6:Nat) (x21:Int) (o1:Sum Int Bool):Prop :=
 if x21 < 20 then
  (0≤w64 ((x9.length:Int) + x21)∧w64 ((x9.length:Int) + x21) < ((x1.take ((w64 ((x9.length:Int) + 20):Int).toNat)).length:Int)) ∧
  if ix (x1.take ((w64 ((x9.length:Int) + 20):Int).toNat)) (w64 ((x9.length:Int) + x21))=(⟨(⟨#[109,97,114,107]⟩:ByteArray),false,(⟨#[]⟩:ByteArray),w64 (900 + x21),0,0,0⟩:Ai) then
   o1=.inl (w64 (x21 + 1))
  else
   o1=.inr (false)
 else
  ∃ r41:Bool,(La (x1.take k6) x9 r41) ∧
  o1=.inr (r41)
def Jw (x1:List Ai) (k6:Nat) (x9:List Ai) (r:Bool):Prop :=
 (0≤w64 ((x9.length:Int) + 20)∧w64 ((x9.length:Int) + 20)≤(x1.length:Int)) ∧
 Ar (fun (s:Int) o=>Hf x9 x1 k6 s o) 0 r
def G7 (r21:Aq) (x419:List Ai) (x15:ByteArray) (x939:Int) (x940:List Aj) (o2:Sum (Int × (List Aj)) (Sum ((List Ai) × Int) Bool)):Prop :=
 if x939 < (x940.length:Int) then
  (0≤w64 ((x940.length:Int) - 1)∧w64 ((x940.length:Int) - 1) < (x940.length:Int)) ∧
  (0≤x939∧x939 < (x940.length:Int)) ∧
  ∃ x1032:List Aj,(x1032=x940.set (x939:Int).toNat ({ (ix x940 x939) with name:=(ix x940 (w64 ((x940.length:Int) - 1))).name })) ∧
  (0≤x939∧x939 < (x1032.length:Int)) ∧
  ∃ x1038:List Aj,(x1038=x1032.set (x939:Int).toNat ({ (ix x1032 x939) with field:=(⟨#[]⟩:ByteArray) })) ∧
  o2=.inl (w64 (x939 + 1),x1038)
 else
  ∃ r1044:Aq,(J6 (⟨x940,r21.conds⟩:Aq) r1044) ∧
  ∃ r1062:List Ai,(Gx x419 r1062) ∧
  ∃ r1075:List Be,(Ir r1044 r1062 x15 r1075) ∧
  ∃ r1092:List Be,(Rh (⟨x940,r21.conds⟩:Aq) x419 x15 r1092) ∧
  ∃ r1111:Bool,(Eh r1092 r1075 r1111) ∧
  o2=.inr (.inr (r1111))
def G8 (r21:Aq) (x15:ByteArray) (x419:List Ai) (x421:Int) (o1:Sum ((List Ai) × Int) Bool):Prop :=
 if x421 < (x419.length:Int) then
  (0≤w64 ((x419.length:Int) - 1)∧w64 ((x419.length:Int) - 1) < (x419.length:Int)) ∧
  (0≤x421∧x421 < (x419.length:Int)) ∧
  ∃ x772:List Ai,(x772=x419.set (x421:Int).toNat ({ (ix x419 x421) with name:=(ix x419 (w64 ((x419.length:Int) - 1))).name })) ∧
  o1=.inl (x772,w64 (x421 + 1))
 else
  ∃ r778:Aq,(J6 r21 r778) ∧
  ∃ r796:List Ai,(Gx x419 r796) ∧
  ∃ r809:List Be,(Ir r778 r796 x15 r809) ∧
  ∃ r826:List Be,(Rh r21 x419 x15 r826) ∧
  ∃ r845:Bool,(Eh r826 r809 r845) ∧
  if r845=true then
   Ar (fun (s:Int × (List Aj)) o=>G7 r21 x419 x15 s.1 s.2 o) (0,r21.nodes) o1
  else
   o1=.inr (false)
def Qo (x1:Aq) (x10:List Ai) (x15:ByteArray) (r:Bool):Prop :=
 ∃ r21:Aq,(J6 x1 r21) ∧
 ∃ r41:List Ai,(Gx x10 r41) ∧
 ∃ r54:List Be,(Rh r21 r41 x15 r54) ∧
 Ar (fun (s:(List Ai) × Int) o=>G8 r21 x15 s.1 s.2 o) (r41,0) r
def Eo (x343:Int) (x1057:List Be) (x1064:Int) (o2:Sum ((List Be) × Int) (Sum ((List Be) × Int) Bool)):Prop :=
 (0≤x343∧x343 < (x1057.length:Int)) ∧
 if x1064 < (((ix x1057 x343).nodes).length:Int) then
  (0≤x1064∧x1064 < (((ix x1057 x343).nodes).length:Int)) ∧
  ∃ x1103:List Int,(x1103=((ix x1057 x343).nodes).set (x1064:Int).toNat (w64 ((-7) - x343))) ∧
  ∃ x1105:List Be,(x1105=x1057.set (x343:Int).toNat ({ (ix x1057 x343) with nodes:=x1103 })) ∧
  o2=.inl (x1105,w64 (x1064 + 1))
 else
  o2=.inr (.inl (x1057,w64 (x343 + 1)))
def Dt (x1198:Int) (x1199:Int) (x1480:List Int) (x1485:Int) (o3:Sum ((List Int) × Int) (Sum (Int × Int) (Sum ((List Be) × Int) Bool))):Prop :=
 if x1485 < 70 then
  ∃ x1506:List Int,(x1506=x1480++([w64 (901 + x1485)]:List Int)) ∧
  (x1506.length * 8≤211106232532992) ∧
  o3=.inl (x1506,w64 (x1485 + 1))
 else
  o3=.inr (.inl (w64 (x1198 + (x1480.length:Int)),w64 (x1199 + 1)))
def Fv (x1581:Int) (x336:List Be) (x1669:Int) (o4:Sum Int (Sum Int (Sum (Int × Int) (Sum ((List Be) × Int) Bool)))):Prop :=
 (0≤x1581∧x1581 < (x336.length:Int)) ∧
 if x1669 < (((ix x336 x1581).nodes).length:Int) then
  (0≤x1669∧x1669 < (((ix x336 x1581).nodes).length:Int)) ∧
  if ix ((ix x336 x1581).nodes) x1669=w64 ((-7) - x1581) then
   o4=.inl (w64 (x1669 + 1))
  else
   o4=.inr (.inr (.inr (.inr (false))))
 else
  o4=.inr (.inl (w64 (x1581 + 1)))
def H7 (x336:List Be) (x1198:Int) (r143:List Be) (r74:List Be) (x1:Aq) (x10:List Ai) (x15:ByteArray) (x1581:Int) (o3:Sum Int (Sum (Int × Int) (Sum ((List Be) × Int) Bool))):Prop :=
 if x1581 < (x336.length:Int) then
  Ar (fun (s:Int) o=>Fv x1581 x336 s o) 0 o3
 else
  if x1198≥0 then
   ∃ r1706:Bool,(Eh r143 r74 r1706) ∧
   if r1706=true then
    ∃ r1715:Bool,(Qo x1 x10 x15 r1715) ∧
    o3=.inr (.inr (.inr (r1715)))
   else
    o3=.inr (.inr (.inr (false)))
  else
   o3=.inr (.inr (.inr (false)))
def En (x336:List Be) (r143:List Be) (r74:List Be) (x1:Aq) (x10:List Ai) (x15:ByteArray) (x1198:Int) (x1199:Int) (o2:Sum (Int × Int) (Sum ((List Be) × Int) Bool)):Prop :=
 if x1199 < (x336.length:Int) then
  (0≤x1199∧x1199 < (x336.length:Int)) ∧
  Ar (fun (s:(List Int) × Int) o=>Dt x1198 x1199 s.1 s.2 o) ((ix x336 x1199).nodes,0) o2
 else
  Ar (fun (s:Int) o=>H7 x336 x1198 r143 r74 x1 x10 x15 s o) 0 o2
def Ep (r143:List Be) (r74:List Be) (x1:Aq) (x10:List Ai) (x15:ByteArray) (x336:List Be) (x343:Int) (o1:Sum ((List Be) × Int) Bool):Prop :=
 if x343 < (x336.length:Int) then
  Ar (fun (s:(List Be) × Int) o=>Eo x343 s.1 s.2 o) (x336,0) o1
 else
  Ar (fun (s:Int × Int) o=>En x336 r143 r74 x1 x10 x15 s.1 s.2 o) (0,0) o1
def H6 (r143:List Be) (r74:List Be) (x1:Aq) (x10:List Ai) (x15:ByteArray) (r127:List Be) (x183:Bool) (r:Bool):Prop :=
 if x183=true then
  r=false
 else
  Ar (fun (s:(List Be) × Int) o=>Ep r143 r74 x1 x10 x15 s.1 s.2 o) (r127,0) r
def Fq (x1:Aq) (x10:List Ai) (x15:ByteArray) (x36:Bool) (r:Bool):Prop :=
 if x36=true then
  r=true
 else
  ∃ r41:Aq,(J6 x1 r41) ∧
  ∃ r61:List Ai,(Gx x10 r61) ∧
  ∃ r74:List Be,(Ir r41 r61 x15 r74) ∧
  ∃ r91:Aq × Nat × Nat,(U9 x1 r91) ∧
  ∃ r113:(List Ai) × Nat,(P9 x10 r113) ∧
  ∃ r127:List Be,(Rh (⟨(r91.1.nodes.take r91.2.1),(r91.1.conds.take r91.2.2)⟩:Aq) (r113.1.take r113.2) x15 r127) ∧
  ∃ r143:List Be,(Rh (⟨(r91.1.nodes.take r91.2.1),(r91.1.conds.take r91.2.2)⟩:Aq) (r113.1.take r113.2) x15 r143) ∧
  ∃ r1723:Bool,(Eh r127 r74 r1723) ∧
  if r1723=true then
   ∃ r1732:Bool,(P7 (⟨r91.1.nodes,r91.1.conds⟩:Aq) r91.2.1 r91.2.2 r41 r1732) ∧
   if r1732=true then
    ∃ r1741:Bool,(Jw r113.1 r113.2 r61 r1741) ∧
    H6 r143 r74 x1 x10 x15 r127 (!r1741) r
   else
    H6 r143 r74 x1 x10 x15 r127 true r
  else
   H6 r143 r74 x1 x10 x15 r127 true r
def Nz (x1:Aq) (x10:List Ai) (x15:ByteArray) (r:Bool):Prop :=
 ∃ r1749:Bool,(O6 x1.nodes r1749) ∧
 if r1749=true then
  Fq x1 x10 x15 true r
 else
  ∃ r1758:Bool,(O7 x10 r1758) ∧
  Fq x1 x10 x15 r1758 r
def Np (x7:Int) (x2:ByteArray) (x10:Int) (r:ByteArray):Prop :=
 if x7≥x10 then
  r=(⟨#[]⟩:ByteArray)
 else
  (0≤x7∧x7≤x10∧x10≤(x2.size:Int)) ∧
  r=x2.extract (x7:Int).toNat (x10:Int).toNat
def Nl (x1:Ai) (x2:ByteArray) (x7:Int) (r:ByteArray):Prop :=
 if x1.to > (x2.size:Int) then
  Np x7 x2 (x2.size:Int) r
 else
  Np x7 x2 x1.to r
def Xl (x1:Ai) (x2:ByteArray) (r:ByteArray):Prop :=
 if x1.from_ < 0 then
  Nl x1 x2 0 r
 else
  Nl x1 x2 x1.from_ r
end Go.Proofs.YtjookebbmfiidaaDoor.R
