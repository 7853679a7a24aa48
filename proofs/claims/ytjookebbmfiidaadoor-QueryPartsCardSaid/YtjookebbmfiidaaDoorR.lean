/- What the functions answer, as plain relations, printed by my own tool off the program's translation. No condition. -/
import Derived.Test.YtjookebbmfiidaaDoorP0
import Derived.Lib.ValidU
set_option linter.unusedVariables false
namespace Go.Proofs.YtjookebbmfiidaaDoor.R
open Go.Proofs.YtjookebbmfiidaaDoor.B
structure Ag where
 name:ByteArray
 lit:Bool
 field:ByteArray
 capture:ByteArray
 kids:Int
 deriving Inhabited,DecidableEq
structure Az where
 name:ByteArray
 named:Bool
 field:ByteArray
 from_:Int
 to:Int
 kids:Int
 leaf:Int
 deriving Inhabited,DecidableEq
structure Bh where
 not:Bool
 a:ByteArray
 b:ByteArray
 text:ByteArray
 deriving Inhabited,DecidableEq
structure Ar where
 nodes:List Ag
 conds:List Bh
 deriving Inhabited,DecidableEq
structure Ak where
 kind:Int
 text:ByteArray
 n:Int
 at_:Int
 deriving Inhabited,DecidableEq
structure Vk where
 node:Az
 kids:List Vk
 at_:Int
instance:Inhabited Vk:=⟨⟨default,[],default⟩⟩
structure Bq where
 nodes:List Int
 deriving Inhabited,DecidableEq
structure Fg where
 nodes:List Az
 parent:List Int
 end_:List Int
 ok:Bool
 deriving Inhabited,DecidableEq
structure Bf where
 nodes:List Ag
 tree:List Az
 of:List (List Int)
 known:List Bool
 deriving Inhabited,DecidableEq
structure Ai where
 words:List Ak
 at_:Int
 end_:Int
 q:Ar
 code:Int
 place:Int
 deriving Inhabited,DecidableEq
def Gh (x40:Int) (x1:List Ag) (x207:List Int) (o2:Sum (List Int) (Sum ((List Int) × Int) Bool)):Prop :=
 if (x207.length:Int) > 0 then
  (0≤w64 ((x207.length:Int) - 1)∧w64 ((x207.length:Int) - 1) < (x207.length:Int)) ∧
  if ix x207 (w64 ((x207.length:Int) - 1))≤0 then
   (0≤(0:Int)∧(0:Int)≤w64 ((x207.length:Int) - 1)∧w64 ((x207.length:Int) - 1)≤(x207.length:Int)) ∧
   ∃ x256:List Int,(x256=x207.take (w64 ((x207.length:Int) - 1):Int).toNat) ∧
   o2=.inl x256
  else
   ∃ x260:List Int,(x260=x207.set (w64 ((x207.length:Int) - 1):Int).toNat (w64 ((ix x207 (w64 ((x207.length:Int) - 1))) - 1))) ∧
   (0≤x40∧x40 < (x1.length:Int)) ∧
   ∃ x275:List Int,(x275=x260++([(ix x1 x40).kids]:List Int)) ∧
   (x275.length * 8≤211106232532992) ∧
   if (x275.length:Int) > 65536 then
    o2=.inr (.inr (true))
   else
    o2=.inr (.inl (x275,w64 (x40 + 1)))
 else
  (0≤x40∧x40 < (x1.length:Int)) ∧
  ∃ x287:List Int,(x287=x207++([(ix x1 x40).kids]:List Int)) ∧
  (x287.length * 8≤211106232532992) ∧
  if (x287.length:Int) > 65536 then
   o2=.inr (.inr (true))
  else
   o2=.inr (.inl (x287,w64 (x40 + 1)))
def Gj (x1:List Ag) (x35:List Int) (x40:Int) (o1:Sum ((List Int) × Int) Bool):Prop :=
 if x40 < (x1.length:Int) then
  Bl (fun (s:(List Int)) o=>Gh x40 x1 s o) x35 o1
 else
  o1=.inr (false)
def Pq (x1:List Ag) (r:Bool):Prop :=
 Bl (fun (s:(List Int) × Int) o=>Gj x1 s.1 s.2 o) (([]:List Int),0) r
def Gs (x40:Int) (x1:List Az) (x207:List Int) (o2:Sum (List Int) (Sum ((List Int) × Int) Bool)):Prop :=
 if (x207.length:Int) > 0 then
  (0≤w64 ((x207.length:Int) - 1)∧w64 ((x207.length:Int) - 1) < (x207.length:Int)) ∧
  if ix x207 (w64 ((x207.length:Int) - 1))≤0 then
   (0≤(0:Int)∧(0:Int)≤w64 ((x207.length:Int) - 1)∧w64 ((x207.length:Int) - 1)≤(x207.length:Int)) ∧
   ∃ x256:List Int,(x256=x207.take (w64 ((x207.length:Int) - 1):Int).toNat) ∧
   o2=.inl x256
  else
   ∃ x260:List Int,(x260=x207.set (w64 ((x207.length:Int) - 1):Int).toNat (w64 ((ix x207 (w64 ((x207.length:Int) - 1))) - 1))) ∧
   (0≤x40∧x40 < (x1.length:Int)) ∧
   ∃ x275:List Int,(x275=x260++([(ix x1 x40).kids]:List Int)) ∧
   (x275.length * 8≤211106232532992) ∧
   if (x275.length:Int) > 65536 then
    o2=.inr (.inr (true))
   else
    o2=.inr (.inl (x275,w64 (x40 + 1)))
 else
  (0≤x40∧x40 < (x1.length:Int)) ∧
  ∃ x287:List Int,(x287=x207++([(ix x1 x40).kids]:List Int)) ∧
  (x287.length * 8≤211106232532992) ∧
  if (x287.length:Int) > 65536 then
   o2=.inr (.inr (true))
  else
   o2=.inr (.inl (x287,w64 (x40 + 1)))
def Gt (x1:List Az) (x35:List Int) (x40:Int) (o1:Sum ((List Int) × Int) Bool):Prop :=
 if x40 < (x1.length:Int) then
  Bl (fun (s:(List Int)) o=>Gs x40 x1 s o) x35 o1
 else
  o1=.inr (false)
def Nh (x1:List Az) (r:Bool):Prop :=
 Bl (fun (s:(List Int) × Int) o=>Gt x1 s.1 s.2 o) (([]:List Int),0) r
def Ir (x1:List Ag) (x6:Int) (rc_query_subtree:(List Ag)→Int→Int→Prop) (x26:Int) (x27:Int) (o1:Sum (Int × Int) Int):Prop :=
 if x27 < (ix x1 x6).kids then
  ∃ r42:Int,(rc_query_subtree x1 x26 r42) ∧
  if r42 < 0 then
   o1=.inr (-1)
  else
   o1=.inl (r42,w64 (x27 + 1))
 else
  o1=.inr (x26)
def O3 (x6:Int) (x1:List Ag) (rc_query_subtree:(List Ag)→Int→Int→Prop) (x11:Bool) (r:Int):Prop :=
 if x11=true then
  r = -1
 else
  (0≤x6∧x6 < (x1.length:Int)) ∧
  Bl (fun (s:Int × Int) o=>Ir x1 x6 rc_query_subtree s.1 s.2 o) (w64 (x6 + 1),0) r
def O9 (rc_query_subtree:(List Ag)→Int→Int→Prop) (x1:List Ag) (x6:Int) (r:Int):Prop :=
 if x6≥(x1.length:Int) then
  O3 x6 x1 rc_query_subtree true r
 else
  (0≤x6∧x6 < (x1.length:Int)) ∧
  O3 x6 x1 rc_query_subtree (decide ((ix x1 x6).kids < 0)) r
def Oj:Nat→(List Ag)→Int→Int→Prop
 | 0=>fun _ _ _=>False
 | n + 1=>O9 (Oj n)
def Zv (x1:List Ag) (x6:Int) (r:Int):Prop:=∃ n,Oj n x1 x6 r
def Ls (x1:Int) (r:Bool):Prop :=
 if x1≥48 then
  r=decide (x1≤57)
 else
  r=false
def P8 (x1:Int) (r:Bool):Prop :=
 if x1≥97 then
  if x1≤122 then
   r=true
  else
   if x1≥65 then
    if x1≤90 then
     r=true
    else
     r=(x1 == 95)
   else
    r=(x1 == 95)
 else
  if x1≥65 then
   if x1≤90 then
    r=true
   else
    r=(x1 == 95)
  else
   r=(x1 == 95)
def X7 (x1:ByteArray) (x2:ByteArray) (r:Bool):Prop :=
 (x2.size=1)∧r=hasB x1 x2
def Oa (x1:Ak) (x40:Int) (o1:Sum Int Bool):Prop :=
 if x40 < (x1.text.size:Int) then
  (0≤x40∧x40 < (x1.text.size:Int)) ∧
  ∃ r66:Bool,(P8 (bt x1.text x40) r66) ∧
  if r66=true then
   o1=.inl (w64 (x40 + 1))
  else
   ∃ r75:Bool,(Ls (bt x1.text x40) r75) ∧
   if r75=true then
    o1=.inl (w64 (x40 + 1))
   else
    o1=.inr (false)
 else
  o1=.inr (true)
def O8 (x1:Ak) (x17:Bool) (r:Bool):Prop :=
 if x17=true then
  r=false
 else
  Bl (fun (s:Int) o=>Oa x1 s o) 0 r
def Je (x1:Ak) (x105:Int) (x120:Bool) (o1:Sum Int Bool):Prop :=
 if x120=true then
  o1=.inr (false)
 else
  if bt x1.text x105=92 then
   if w64 (x105 + 1)=(x1.text.size:Int) then
    o1=.inr (false)
   else
    (0≤w64 (x105 + 1)∧w64 (x105 + 1) < (x1.text.size:Int)) ∧
    if bt x1.text (w64 (x105 + 1))=10 then
     o1=.inr (false)
    else
     o1=.inl (w64 ((w64 (x105 + 1)) + 1))
  else
   o1=.inl (w64 (x105 + 1))
def Jv (x1:Ak) (x105:Int) (o1:Sum Int Bool):Prop :=
 if x105 < (x1.text.size:Int) then
  (0≤x105∧x105 < (x1.text.size:Int)) ∧
  if bt x1.text x105=47 then
   Je x1 x105 ((bt x1.text x105) == 47) o1
  else
   Je x1 x105 ((bt x1.text x105) == 10) o1
 else
  o1=.inr (true)
def V8 (x1:Ak) (r:Bool):Prop :=
 if x1.kind=1 then
  if x1.text=(⟨#[]⟩:ByteArray) then
   O8 x1 true r
  else
   if (x1.text.size:Int) > 24 then
    O8 x1 true r
   else
    (0≤(0:Int)∧(0:Int) < (x1.text.size:Int)) ∧
    ∃ r87:Bool,(Ls (bt x1.text 0) r87) ∧
    O8 x1 r87 r
 else
  if x1.kind=2 then
   r=true
  else
   if x1.kind=3 then
    Bl (fun (s:Int) o=>Jv x1 s o) 0 r
   else
    if x1.kind=4 then
     if x1.n≥0 then
      r=decide (x1.n≤65535)
     else
      r=false
    else
     if x1.kind=5 then
      if (x1.text.size:Int)=1 then
       ∃ r133:Bool,(X7 (⟨#[123,125,40,41,124,42,43,63,58,59,44,61,64]⟩:ByteArray) x1.text r133) ∧
       r=r133
      else
       r=false
     else
      r=false
def O7 (x1:ByteArray) (x105:Int) (x100:List Int) (x247:Bool) (o1:Sum ((List Int) × Int) ByteArray):Prop :=
 if x247=true then
  (0≤IntKind.u8.wrap (Int.tdiv (bt x1 x105) 16)∧IntKind.u8.wrap (Int.tdiv (bt x1 x105) 16) < ((⟨#[48,49,50,51,52,53,54,55,56,57,97,98,99,100,101,102]⟩:ByteArray).size:Int)) ∧
  (0≤Int.tmod (bt x1 x105) 16∧Int.tmod (bt x1 x105) 16 < ((⟨#[48,49,50,51,52,53,54,55,56,57,97,98,99,100,101,102]⟩:ByteArray).size:Int)) ∧
  ∃ x257:List Int,(x257=x100++([92,120,bt (⟨#[48,49,50,51,52,53,54,55,56,57,97,98,99,100,101,102]⟩:ByteArray) (IntKind.u8.wrap (Int.tdiv (bt x1 x105) 16)),bt (⟨#[48,49,50,51,52,53,54,55,56,57,97,98,99,100,101,102]⟩:ByteArray) (Int.tmod (bt x1 x105) 16)]:List Int)) ∧
  (x257.length * 1≤211106232532992) ∧
  o1=.inl (x257,w64 (x105 + 1))
 else
  ∃ x280:List Int,(x280=x100++([bt x1 x105]:List Int)) ∧
  (x280.length * 1≤211106232532992) ∧
  o1=.inl (x280,w64 (x105 + 1))
def Q4 (x100:List Int) (x1:ByteArray) (x105:Int) (x204:Bool) (o1:Sum ((List Int) × Int) ByteArray):Prop :=
 if x204=true then
  ∃ x212:List Int,(x212=x100++([92,bt x1 x105]:List Int)) ∧
  (x212.length * 1≤211106232532992) ∧
  o1=.inl (x212,w64 (x105 + 1))
 else
  if bt x1 x105=10 then
   ∃ x222:List Int,(x222=x100++([92,110]:List Int)) ∧
   (x222.length * 1≤211106232532992) ∧
   o1=.inl (x222,w64 (x105 + 1))
  else
   if bt x1 x105=9 then
    ∃ x232:List Int,(x232=x100++([92,116]:List Int)) ∧
    (x232.length * 1≤211106232532992) ∧
    o1=.inl (x232,w64 (x105 + 1))
   else
    if bt x1 x105=13 then
     ∃ x242:List Int,(x242=x100++([92,114]:List Int)) ∧
     (x242.length * 1≤211106232532992) ∧
     o1=.inl (x242,w64 (x105 + 1))
    else
     if bt x1 x105 < 32 then
      O7 x1 x105 x100 true o1
     else
      O7 x1 x105 x100 (decide (bt x1 x105 > 126)) o1
def Kr (x1:ByteArray) (x100:List Int) (x105:Int) (o1:Sum ((List Int) × Int) ByteArray):Prop :=
 if x105 < (x1.size:Int) then
  (0≤x105∧x105 < (x1.size:Int)) ∧
  if bt x1 x105=34 then
   Q4 x100 x1 x105 true o1
  else
   Q4 x100 x1 x105 ((bt x1 x105) == 92) o1
 else
  ∃ x291:List Int,(x291=x100++([34]:List Int)) ∧
  (x291.length * 1≤211106232532992) ∧
  o1=.inr (Qo x291)
def Xn (x1:ByteArray) (r:ByteArray):Prop :=
 Bl (fun (s:(List Int) × Int) o=>Kr x1 s.1 s.2 o) (([34]:List Int),0) r
def strconv_Itoa (x1:Int) (r:ByteArray):Prop :=
 (-9223372036854775808≤x1∧x1≤9223372036854775807)∧r=itoaB x1
def Qc (x1:Ak) (r:ByteArray):Prop :=
 ∃ r7:Bool,(V8 x1 r7) ∧
 if r7=true then
  if x1.kind=2 then
   ∃ r17:ByteArray,(Xn x1.text r17) ∧
   r=r17
  else
   if x1.kind=3 then
    ((⟨#[47]⟩:ByteArray).size + x1.text.size≤9223372036854775807) ∧
    (((⟨#[47]⟩:ByteArray)++x1.text).size + (⟨#[47]⟩:ByteArray).size≤9223372036854775807) ∧
    r=((⟨#[47]⟩:ByteArray)++x1.text)++(⟨#[47]⟩:ByteArray)
   else
    if x1.kind=4 then
     ∃ r29:ByteArray,(strconv_Itoa x1.n r29) ∧
     r=r29
    else
     r=x1.text
 else
  r=(⟨#[]⟩:ByteArray)
def Qg (x1:ByteArray) (r:Bool):Prop :=
 if x1=(⟨#[95]⟩:ByteArray) then
  r=false
 else
  ∃ r6:ByteArray,(Qc (⟨1,x1,0,0⟩:Ak) r6) ∧
  r=(!(seq r6 (⟨#[]⟩:ByteArray)))
def Jr (x1:Ag) (x17:Bool) (r:Bool):Prop :=
 if x17=true then
  r=false
 else
  if x1.field=(⟨#[]⟩:ByteArray) then
   if x1.capture=(⟨#[]⟩:ByteArray) then
    r=true
   else
    ∃ r24:Bool,(Qg x1.capture r24) ∧
    r=r24
  else
   ∃ r32:Bool,(Qg x1.field r32) ∧
   if r32=true then
    if x1.capture=(⟨#[]⟩:ByteArray) then
     r=true
    else
     ∃ r42:Bool,(Qg x1.capture r42) ∧
     r=r42
   else
    r=false
def Xj (x1:Ag) (r:Bool):Prop :=
 if x1.lit=true then
  if x1.name=(⟨#[]⟩:ByteArray) then
   Jr x1 true r
  else
   if x1.kids=0 then
    Jr x1 false r
   else
    Jr x1 true r
 else
  if x1.name=(⟨#[]⟩:ByteArray) then
   Jr x1 false r
  else
   ∃ r54:Bool,(Qg x1.name r54) ∧
   Jr x1 (!r54) r
def X3 (x1:Ag) (x2:ByteArray) (r:Bool × ByteArray):Prop :=
 r=((seq x1.capture x2),x2)
def Di (x1:List Ag) (x22:Int) (x23:ByteArray) (o1:Sum (Int × ByteArray) (Int × ByteArray)):Prop :=
 if x22 < (x1.length:Int) then
  (0≤x22∧x22 < (x1.length:Int)) ∧
  ∃ r42:Bool × ByteArray,(X3 (ix x1 x22) x23 r42) ∧
  if r42.1=true then
   o1=.inr ((x22,r42.2))
  else
   o1=.inl (w64 (x22 + 1),r42.2)
 else
  o1=.inr ((-1,x23))
def G6 (x1:List Ag) (x6:ByteArray) (r:Int × ByteArray):Prop :=
 Bl (fun (s:Int × ByteArray) o=>Di x1 s.1 s.2 o) (0,x6) r
def Hf (x1:Ar) (x10:ByteArray) (r:Int):Prop :=
 if x10=(⟨#[]⟩:ByteArray) then
  r = -1
 else
  ∃ r19:Int × ByteArray,(G6 x1.nodes x10 r19) ∧
  r=r19.1
def Kw (x1:Ar) (x340:Int) (o2:Sum Int (Sum Int Bool)):Prop :=
 if x340 < (x1.conds.length:Int) then
  (0≤x340∧x340 < (x1.conds.length:Int)) ∧
  ∃ r374:Int,(Hf x1 ((ix x1.conds x340).a) r374) ∧
  if r374 < 0 then
   o2=.inr (.inr (false))
  else
   if (ix x1.conds x340).b=(⟨#[]⟩:ByteArray) then
    o2=.inl (w64 (x340 + 1))
   else
    ∃ r384:Int,(Hf x1 ((ix x1.conds x340).b) r384) ∧
    if r384 < 0 then
     o2=.inr (.inr (false))
    else
     if (ix x1.conds x340).text=(⟨#[]⟩:ByteArray) then
      o2=.inl (w64 (x340 + 1))
     else
      o2=.inr (.inr (false))
 else
  o2=.inr (.inr (true))
def Ky (x1:Ar) (x188:Int) (o1:Sum Int Bool):Prop :=
 if x188 < (x1.nodes.length:Int) then
  (0≤x188∧x188 < (x1.nodes.length:Int)) ∧
  ∃ r298:Bool,(Xj (ix x1.nodes x188) r298) ∧
  if r298=true then
   if (ix x1.nodes x188).capture=(⟨#[]⟩:ByteArray) then
    o1=.inl (w64 (x188 + 1))
   else
    ∃ r308:Int,(Hf x1 ((ix x1.nodes x188).capture) r308) ∧
    if r308=x188 then
     o1=.inl (w64 (x188 + 1))
    else
     o1=.inr (false)
  else
   o1=.inr (false)
 else
  Bl (fun (s:Int) o=>Kw x1 s o) 0 o1
def Jg (x1:Ar) (x84:Bool) (r:Bool):Prop :=
 if x84=true then
  r=false
 else
  Bl (fun (s:Int) o=>Ky x1 s o) 0 r
def Qn (x1:Ar) (r:Bool):Prop :=
 if (x1.nodes.length:Int) > 32 then
  Jg x1 true r
 else
  if (x1.conds.length:Int) > 16 then
   Jg x1 true r
  else
   ∃ r396:Int,(Zv x1.nodes 0 r396) ∧
   Jg x1 (r396 != (x1.nodes.length:Int)) r
def Jb (x355:Int) (x654:List Int) (x766:List Int) (x771:List Int) (x776:List Int) (o2:Sum ((List Int) × (List Int) × (List Int)) (Sum ((List Int) × (List Int) × Int × (List Int) × (List Int)) Fg)):Prop :=
 if (x766.length:Int) > 0 then
  (0≤w64 ((x771.length:Int) - 1)∧w64 ((x771.length:Int) - 1) < (x771.length:Int)) ∧
  if ix x771 (w64 ((x771.length:Int) - 1))=0 then
   (0≤w64 ((x766.length:Int) - 1)∧w64 ((x766.length:Int) - 1) < (x766.length:Int)) ∧
   (0≤ix x766 (w64 ((x766.length:Int) - 1))∧ix x766 (w64 ((x766.length:Int) - 1)) < (x776.length:Int)) ∧
   ∃ x811:List Int,(x811=x776.set (ix x766 (w64 ((x766.length:Int) - 1)):Int).toNat (w64 (x355 + 1))) ∧
   (0≤(0:Int)∧(0:Int)≤w64 ((x766.length:Int) - 1)∧w64 ((x766.length:Int) - 1)≤(x766.length:Int)) ∧
   ∃ x818:List Int,(x818=x766.take (w64 ((x766.length:Int) - 1):Int).toNat) ∧
   (0≤(0:Int)∧(0:Int)≤w64 ((x771.length:Int) - 1)∧w64 ((x771.length:Int) - 1)≤(x771.length:Int)) ∧
   ∃ x823:List Int,(x823=x771.take (w64 ((x771.length:Int) - 1):Int).toNat) ∧
   o2=.inl (x818,x823,x811)
  else
   o2=.inr (.inl (x766,x771,w64 (x355 + 1),x654,x776))
 else
  o2=.inr (.inl (x766,x771,w64 (x355 + 1),x654,x776))
def Jd (x1:List Az) (x355:Int) (x358:List Int) (x345:List Int) (x652:List Int) (x654:List Int) (o1:Sum ((List Int) × (List Int) × Int × (List Int) × (List Int)) Fg):Prop :=
 if (ix x1 x355).kids < 0 then
  o1=.inr ((⟨x1,x654,x358,false⟩:Fg))
 else
  ∃ x663:List Int,(x663=x345++([x355]:List Int)) ∧
  (x663.length * 8≤211106232532992) ∧
  ∃ x672:List Int,(x672=x652++([(ix x1 x355).kids]:List Int)) ∧
  (x672.length * 8≤211106232532992) ∧
  Bl (fun (s:(List Int) × (List Int) × (List Int)) o=>Jb x355 x654 s.1 s.2.1 s.2.2 o) (x663,x672,x358) o1
def Jo (x1:List Az) (x345:List Int) (x350:List Int) (x355:Int) (x356:List Int) (x358:List Int) (o1:Sum ((List Int) × (List Int) × Int × (List Int) × (List Int)) Fg):Prop :=
 if x355 < (x1.length:Int) then
  (0≤x355∧x355 < (x1.length:Int)) ∧
  (0≤x355∧x355 < (x356.length:Int)) ∧
  ∃ x636:List Int,(x636=x356.set (x355:Int).toNat (-1)) ∧
  if (x345.length:Int) > 0 then
   (0≤w64 ((x345.length:Int) - 1)∧w64 ((x345.length:Int) - 1) < (x345.length:Int)) ∧
   (0≤x355∧x355 < (x636.length:Int)) ∧
   ∃ x891:List Int,(x891=x636.set (x355:Int).toNat (ix x345 (w64 ((x345.length:Int) - 1)))) ∧
   (0≤w64 ((x350.length:Int) - 1)∧w64 ((x350.length:Int) - 1) < (x350.length:Int)) ∧
   ∃ x897:List Int,(x897=x350.set (w64 ((x350.length:Int) - 1):Int).toNat (w64 ((ix x350 (w64 ((x350.length:Int) - 1))) - 1))) ∧
   Jd x1 x355 x358 x345 x897 x891 o1
  else
   Jd x1 x355 x358 x345 x350 x636 o1
 else
  o1=.inr ((⟨x1,x356,x358,((x345.length:Int) == 0)⟩:Fg))
def Uu (x1:List Az) (r:Fg):Prop :=
 (0≤(x1.length:Int)∧(x1.length:Int) * 8≤281474976710656) ∧
 ∃ x12:List Int,(x12=List.replicate ((x1.length:Int):Int).toNat (0:Int)) ∧
 ∃ x17:List Int,(x17=List.replicate ((x1.length:Int):Int).toNat (0:Int)) ∧
 Bl (fun (s:(List Int) × (List Int) × Int × (List Int) × (List Int)) o=>Jo x1 s.1 s.2.1 s.2.2.1 s.2.2.2.1 s.2.2.2.2 o) (([]:List Int),([]:List Int),0,x12,x17) r
def G5 (x15:Int) (x1:Fg) (x32:Int) (x33:List Int) (o1:Sum (Int × (List Int)) (List Int)):Prop :=
 if x32 < x15 then
  ∃ x57:List Int,(x57=x33++([x32]:List Int)) ∧
  (x57.length * 8≤211106232532992) ∧
  (0≤x32∧x32 < (x1.end_.length:Int)) ∧
  o1=.inl (ix x1.end_ x32,x57)
 else
  o1=.inr (x33)
def Lc (x1:Fg) (x14:Int) (x15:Int) (r:List Int):Prop :=
 Bl (fun (s:Int × (List Int)) o=>G5 x15 x1 s.1 s.2 o) (x14,([]:List Int)) r
def Yk (x1:List Az) (r:List Int):Prop :=
 ∃ r9:Fg,(Uu x1 r9) ∧
 if r9.ok=true then
  ∃ r36:List Int,(Lc r9 0 (x1.length:Int) r36) ∧
  r=r36
 else
  r=([]:List Int)
def Wy (x1:List Az) (r:Int):Prop :=
 ∃ r9:Fg,(Uu x1 r9) ∧
 if r9.ok=true then
  ∃ r34:List Int,(Yk x1 r34) ∧
  r=(r34.length:Int)
 else
  r = -1
def Qp (x1:Fg) (x14:Int) (r:Bool):Prop :=
 if x1.ok=true then
  if x14≥0 then
   r=decide (x14 < (x1.nodes.length:Int))
  else
   r=false
 else
  r=false
def Yc (x1:List Az) (x6:Int) (r:List Int):Prop :=
 ∃ r10:Fg,(Uu x1 r10) ∧
 ∃ r36:Bool,(Qp r10 x6 r36) ∧
 if r36=true then
  (0≤x6∧x6 < (r10.end_.length:Int)) ∧
  ∃ r46:List Int,(Lc r10 (w64 (x6 + 1)) (ix r10.end_ x6) r46) ∧
  r=r46
 else
  r=([]:List Int)
def O6 (x1:Bf) (x26:Int) (r:(List Int) × Bf):Prop :=
 (0≤x26∧x26 < (x1.known.length:Int)) ∧
 if (ix x1.known x26)=true then
  (0≤x26∧x26 < (x1.of.length:Int)) ∧
  r=(ix x1.of x26,x1)
 else
  ∃ r41:List Int,(Yc x1.tree x26 r41) ∧
  (0≤x26∧x26 < (x1.of.length:Int)) ∧
  ∃ x66:List (List Int),(x66=x1.of.set (x26:Int).toNat r41) ∧
  ∃ x72:List Bool,(x72=x1.known.set (x26:Int).toNat true) ∧
  (0≤x26∧x26 < (x66.length:Int)) ∧
  r=(ix x66 x26,(⟨x1.nodes,x1.tree,x66,x72⟩:Bf))
def F7 (x10:List Int) (rc_query_matcher_fits:Bf→Int→Int→((List Int) × Bf)→Prop) (x19:Bf) (x9:Int) (x1:List Int) (rc_query_matcher_fits_1:(List Int)→Int→Int→(List Int)→Bf→((List Int) × Bf)→Prop) (x8:Int) (x236:Int) (x237:List (List Int)) (x246:List Bool) (o1:Sum (Int × (List (List Int)) × (List Bool)) ((List Int) × Bf)):Prop :=
 if x236 < (x10.length:Int) then
  (0≤x236∧x236 < (x10.length:Int)) ∧
  ∃ r447:(List Int) × Bf,(rc_query_matcher_fits (⟨x19.nodes,x19.tree,x237,x246⟩:Bf) x9 (ix x10 x236) r447) ∧
  ∀ b472:Bool,(b472=true↔r447.1=[]) →
  if b472=true then
   o1=.inl (w64 (x236 + 1),r447.2.of,r447.2.known)
  else
   ∃ x478:List Int,(x478=x1++r447.1) ∧
   (x478.length * 8≤211106232532992) ∧
   (0≤w64 (x236 + 1)∧w64 (x236 + 1)≤(x10.length:Int)∧(x10.length:Int)≤(x10.length:Int)) ∧
   ∃ r486:(List Int) × Bf,(rc_query_matcher_fits_1 x478 (w64 (x8 - 1)) (w64 (x9 + (r447.1.length:Int))) (x10.drop (w64 (x236 + 1):Int).toNat) (⟨x19.nodes,x19.tree,r447.2.of,r447.2.known⟩:Bf) r486) ∧
   o1=.inr ((r486.1,(⟨x19.nodes,x19.tree,r486.2.of,r486.2.known⟩:Bf)))
 else
  o1=.inr ((([]:List Int),(⟨x19.nodes,x19.tree,x237,x246⟩:Bf)))
def Oe (rc_query_matcher_fits_1:(List Int)→Int→Int→(List Int)→Bf→((List Int) × Bf)→Prop) (rc_query_matcher_fits:Bf→Int→Int→((List Int) × Bf)→Prop) (x1:List Int) (x8:Int) (x9:Int) (x10:List Int) (x19:Bf) (r:(List Int) × Bf):Prop :=
 if x8=0 then
  (x1≠[]) ∧
  r=(x1,x19)
 else
  Bl (fun (s:Int × (List (List Int)) × (List Bool)) o=>F7 x10 rc_query_matcher_fits x19 x9 x1 rc_query_matcher_fits_1 x8 s.1 s.2.1 s.2.2 o) (0,x19.of,x19.known) r
def Dh (x1:Bf) (x27:Int) (rc_query_matcher_fits_1:(List Int)→Int→Int→(List Int)→Bf→((List Int) × Bf)→Prop) (x26:Int) (x61:Bool) (r:(List Int) × Bf):Prop :=
 if x61=true then
  r=(([]:List Int),x1)
 else
  ∃ r66:(List Int) × Bf,(O6 x1 x27 r66) ∧
  ∃ r97:(List Int) × Bf,(rc_query_matcher_fits_1 ([x27]:List Int) ((ix x1.nodes x26).kids) (w64 (x26 + 1)) r66.1 (⟨x1.nodes,x1.tree,r66.2.of,r66.2.known⟩:Bf) r97) ∧
  r=(r97.1,(⟨x1.nodes,x1.tree,r97.2.of,r97.2.known⟩:Bf))
def Ji (rc_query_matcher_fits_1:(List Int)→Int→Int→(List Int)→Bf→((List Int) × Bf)→Prop) (rc_query_matcher_fits:Bf→Int→Int→((List Int) × Bf)→Prop) (x1:Bf) (x26:Int) (x27:Int) (r:(List Int) × Bf):Prop :=
 (0≤x26∧x26 < (x1.nodes.length:Int)) ∧
 (0≤x27∧x27 < (x1.tree.length:Int)) ∧
 if ((ix x1.nodes x26).lit)=true then
  if ((ix x1.tree x27).named)=true then
   Dh x1 x27 rc_query_matcher_fits_1 x26 true r
  else
   if (ix x1.tree x27).name=(ix x1.nodes x26).name then
    if (ix x1.nodes x26).field=(⟨#[]⟩:ByteArray) then
     Dh x1 x27 rc_query_matcher_fits_1 x26 false r
    else
     Dh x1 x27 rc_query_matcher_fits_1 x26 (!(seq ((ix x1.nodes x26).field) ((ix x1.tree x27).field))) r
   else
    Dh x1 x27 rc_query_matcher_fits_1 x26 true r
 else
  if (ix x1.nodes x26).name=(⟨#[]⟩:ByteArray) then
   if (ix x1.nodes x26).field=(⟨#[]⟩:ByteArray) then
    Dh x1 x27 rc_query_matcher_fits_1 x26 false r
   else
    Dh x1 x27 rc_query_matcher_fits_1 x26 (!(seq ((ix x1.nodes x26).field) ((ix x1.tree x27).field))) r
  else
   if ((ix x1.tree x27).named)=true then
    if (ix x1.tree x27).name=(ix x1.nodes x26).name then
     if (ix x1.nodes x26).field=(⟨#[]⟩:ByteArray) then
      Dh x1 x27 rc_query_matcher_fits_1 x26 false r
     else
      Dh x1 x27 rc_query_matcher_fits_1 x26 (!(seq ((ix x1.nodes x26).field) ((ix x1.tree x27).field))) r
    else
     Dh x1 x27 rc_query_matcher_fits_1 x26 true r
   else
    Dh x1 x27 rc_query_matcher_fits_1 x26 true r
def Hu:Nat→((List Int)→Int→Int→(List Int)→Bf→((List Int) × Bf)→Prop) × (Bf→Int→Int→((List Int) × Bf)→Prop)
 | 0=>(fun _ _ _ _ _ _=>False,fun _ _ _ _=>False)
 | n + 1=>(Oe ((Hu n).1) ((Hu n).2),Ji ((Hu n).1) ((Hu n).2))
def Dt (n:Nat):(List Int)→Int→Int→(List Int)→Bf→((List Int) × Bf)→Prop:=(Hu n).1
def Ij (n:Nat):Bf→Int→Int→((List Int) × Bf)→Prop:=(Hu n).2
def Yq (x1:Bf) (x26:Int) (x27:Int) (r:(List Int) × Bf):Prop:=∃ n,Ij n x1 x26 x27 r
def U9 (x1:Az) (x2:ByteArray) (r:ByteArray):Prop :=
 if max x1.from_ 0≥min x1.to (x2.size:Int) then
  r=(⟨#[]⟩:ByteArray)
 else
  (0≤max x1.from_ 0∧max x1.from_ 0≤min x1.to (x2.size:Int)∧min x1.to (x2.size:Int)≤(x2.size:Int)) ∧
  r=x2.extract (max x1.from_ 0:Int).toNat (min x1.to (x2.size:Int):Int).toNat
def Uz (x1:ByteArray) (x2:List Az) (x9:List Int) (x16:Ar) (x27:ByteArray) (r:ByteArray × (List Az) × (List Int) × Ar × ByteArray):Prop :=
 ∃ r33:Int,(Hf x16 x1 r33) ∧
 (0≤r33∧r33 < (x9.length:Int)) ∧
 (0≤ix x9 r33∧ix x9 r33 < (x2.length:Int)) ∧
 ∃ r45:ByteArray,(U9 (ix x2 (ix x9 r33)) x27 r45) ∧
 r=(r45,x2,x9,x16,x27)
def Xm (x1:Bh) (x4:List Az) (x11:List Int) (x18:Ar) (x29:ByteArray) (r:Bool × (List Az) × (List Int) × Ar × ByteArray):Prop :=
 if x1.b=(⟨#[]⟩:ByteArray) then
  ∃ r38:ByteArray × (List Az) × (List Int) × Ar × ByteArray,(Uz x1.a x4 x11 x18 x29 r38) ∧
  r=(((seq r38.1 x1.text) == x1.not),x4,x11,x18,r38.2.2.2.2)
 else
  ∃ r107:ByteArray × (List Az) × (List Int) × Ar × ByteArray,(Uz x1.b x4 x11 x18 x29 r107) ∧
  ∃ r115:ByteArray × (List Az) × (List Int) × Ar × ByteArray,(Uz x1.a x4 x11 x18 r107.2.2.2.2 r115) ∧
  r=(((seq r115.1 r107.1) == x1.not),x4,x11,x18,r115.2.2.2.2)
def Du (x1:List Bh) (x8:List Az) (x15:List Int) (x22:Ar) (x49:Int) (x50:ByteArray) (o1:Sum (Int × ByteArray) (Int × (List Az) × (List Int) × Ar × ByteArray)):Prop :=
 if x49 < (x1.length:Int) then
  (0≤x49∧x49 < (x1.length:Int)) ∧
  ∃ r69:Bool × (List Az) × (List Int) × Ar × ByteArray,(Xm (ix x1 x49) x8 x15 x22 x50 r69) ∧
  if r69.1=true then
   o1=.inr ((x49,x8,x15,x22,r69.2.2.2.2))
  else
   o1=.inl (w64 (x49 + 1),r69.2.2.2.2)
 else
  o1=.inr ((-1,x8,x15,x22,x50))
def Jh (x1:List Bh) (x8:List Az) (x15:List Int) (x22:Ar) (x33:ByteArray) (r:Int × (List Az) × (List Int) × Ar × ByteArray):Prop :=
 Bl (fun (s:Int × ByteArray) o=>Du x1 x8 x15 x22 s.1 s.2 o) (0,x33) r
def F6 (x1:List Bh) (x8:List Az) (x15:List Int) (x22:Ar) (x33:ByteArray) (r:Bool × (List Az) × (List Int) × Ar × ByteArray):Prop :=
 ∃ r39:Int × (List Az) × (List Int) × Ar × ByteArray,(Jh x1 x8 x15 x22 x33 r39) ∧
 r=(decide (r39.1≥0),x8,x15,x22,r39.2.2.2.2)
def Pg (x10:List Az) (x1:Ar) (x165:List Bq) (x174:Int) (x175:List (List Int)) (x184:List Bool) (x189:ByteArray) (o1:Sum ((List Bq) × Int × (List (List Int)) × (List Bool) × ByteArray) (List Bq)):Prop :=
 if x174 < (x10.length:Int) then
  ∃ r258:(List Int) × Bf,(Yq (⟨x1.nodes,x10,x175,x184⟩:Bf) 0 x174 r258) ∧
  ∀ b285:Bool,(b285=true↔r258.1=[]) →
  if b285=true then
   o1=.inl (x165,w64 (x174 + 1),r258.2.of,r258.2.known,x189)
  else
   ∃ r293:Bool × (List Az) × (List Int) × Ar × ByteArray,(F6 x1.conds x10 r258.1 x1 x189 r293) ∧
   if r293.1=true then
    o1=.inl (x165,w64 (x174 + 1),r258.2.of,r258.2.known,r293.2.2.2.2)
   else
    ∃ x312:List Bq,(x312=x165++([(⟨r258.1⟩:Bq)]:List Bq)) ∧
    (x312.length * 24≤211106232532992) ∧
    o1=.inl (x312,w64 (x174 + 1),r258.2.of,r258.2.known,r293.2.2.2.2)
 else
  o1=.inr (x165)
def Qd (x10:List Az) (x1:Ar) (x15:ByteArray) (x40:Bool) (r:List Bq):Prop :=
 if x40=true then
  r=([]:List Bq)
 else
  (0≤(x10.length:Int)∧(x10.length:Int) * 24≤281474976710656) ∧
  ∃ x47:List (List Int),(x47=List.replicate ((x10.length:Int):Int).toNat ([]:List Int)) ∧
  (0≤(x10.length:Int)∧(x10.length:Int) * 1≤281474976710656) ∧
  ∃ x53:List Bool,(x53=List.replicate ((x10.length:Int):Int).toNat (false:Bool)) ∧
  Bl (fun (s:(List Bq) × Int × (List (List Int)) × (List Bool) × ByteArray) o=>Pg x10 x1 s.1 s.2.1 s.2.2.1 s.2.2.2.1 s.2.2.2.2 o) (([]:List Bq),0,x47,x53,x15) r
def Qx (x1:Ar) (x10:List Az) (x15:ByteArray) (r:List Bq):Prop :=
 ∃ r351:Bool,(Qn x1 r351) ∧
 if r351=true then
  ∃ r360:Int,(Wy x10 r360) ∧
  Qd x10 x1 x15 (decide (r360 < 0)) r
 else
  Qd x10 x1 x15 true r
def Hy (x1:List Int) (x6:List Int) (x23:Int) (o1:Sum Int Bool):Prop :=
 if x23 < (x1.length:Int) then
  (0≤x23∧x23 < (x1.length:Int)) ∧
  (0≤x23∧x23 < (x6.length:Int)) ∧
  if ix x1 x23=ix x6 x23 then
   o1=.inl (w64 (x23 + 1))
  else
   o1=.inr (false)
 else
  o1=.inr (true)
def J8 (x1:List Int) (x6:List Int) (r:Bool):Prop :=
 if (x1.length:Int)=(x6.length:Int) then
  Bl (fun (s:Int) o=>Hy x1 x6 s o) 0 r
 else
  r=false
def Hl (x1:List Bq) (x6:List Bq) (x91:Int) (o1:Sum Int Bool):Prop :=
 if x91 < (x1.length:Int) then
  (0≤x91∧x91 < (x1.length:Int)) ∧
  (0≤x91∧x91 < (x6.length:Int)) ∧
  ∃ r190:Bool,(J8 ((ix x1 x91).nodes) ((ix x6 x91).nodes) r190) ∧
  if r190=true then
   o1=.inl (w64 (x91 + 1))
  else
   o1=.inr (false)
 else
  o1=.inr (true)
def Kq (x1:List Bq) (x6:List Bq) (r:Bool):Prop :=
 if (x1.length:Int)=(x6.length:Int) then
  Bl (fun (s:Int) o=>Hl x1 x6 s o) 0 r
 else
  r=false
def Ep (x1:Int) (x2:ByteArray) (x3:List Ak) (r:List Ak):Prop :=
 ∃ x18:List Ak,(x18=x3++([(⟨x1,x2,0,0⟩:Ak)]:List Ak)) ∧
 (x18.length * 40≤211106232532992) ∧
 r=x18
def La (x1:Ar) (x12:Int) (x241:List Ak) (x246:Int) (r:Ar × Int × (List Ak)):Prop :=
 if (ix x1.nodes x12).capture=(⟨#[]⟩:ByteArray) then
  r=(x1,x246,x241)
 else
  ∃ r251:List Ak,(Ep 5 (⟨#[64]⟩:ByteArray) x241 r251) ∧
  ∃ r264:List Ak,(Ep 1 ((ix x1.nodes x12).capture) r251 r264) ∧
  r=(x1,x246,r264)
def Lh (x1:Ar) (x12:Int) (rc_query_Print_2:Ar→Int→(List Ak)→(Ar × Int × (List Ak))→Prop) (x363:Int) (x364:List Ak) (x369:Int) (o1:Sum (Int × (List Ak) × Int) (Ar × Int × (List Ak))):Prop :=
 if x363 < (ix x1.nodes x12).kids then
  ∃ r403:Ar × Int × (List Ak),(rc_query_Print_2 x1 x369 x364 r403) ∧
  o1=.inl (w64 (x363 + 1),r403.2.2,r403.2.1)
 else
  ∃ r416:List Ak,(Ep 5 (⟨#[41]⟩:ByteArray) x364 r416) ∧
  ∃ q426:Ar × Int × (List Ak),(o1=.inr (q426)) ∧
  La x1 x12 r416 x369 q426
def O1 (x1:Ar) (x12:Int) (rc_query_Print_2:Ar→Int→(List Ak)→(Ar × Int × (List Ak))→Prop) (x328:List Ak) (r:Ar × Int × (List Ak)):Prop :=
 Bl (fun (s:Int × (List Ak) × Int) o=>Lh x1 x12 rc_query_Print_2 s.1 s.2.1 s.2.2 o) (0,x328,w64 (x12 + 1)) r
def O4 (x1:Ar) (x12:Int) (rc_query_Print_2:Ar→Int→(List Ak)→(Ar × Int × (List Ak))→Prop) (x60:List Ak) (r:Ar × Int × (List Ak)):Prop :=
 if ((ix x1.nodes x12).lit)=true then
  ∃ r277:List Ak,(Ep 2 ((ix x1.nodes x12).name) x60 r277) ∧
  La x1 x12 r277 (w64 (x12 + 1)) r
 else
  ∃ r290:List Ak,(Ep 5 (⟨#[40]⟩:ByteArray) x60 r290) ∧
  if (ix x1.nodes x12).name=(⟨#[]⟩:ByteArray) then
   ∃ r431:List Ak,(Ep 1 (⟨#[95]⟩:ByteArray) r290 r431) ∧
   O1 x1 x12 rc_query_Print_2 r431 r
  else
   ∃ r444:List Ak,(Ep 1 ((ix x1.nodes x12).name) r290 r444) ∧
   O1 x1 x12 rc_query_Print_2 r444 r
def O5 (rc_query_Print_2:Ar→Int→(List Ak)→(Ar × Int × (List Ak))→Prop) (x1:Ar) (x12:Int) (x19:List Ak) (r:Ar × Int × (List Ak)):Prop :=
 (0≤x12∧x12 < (x1.nodes.length:Int)) ∧
 if (ix x1.nodes x12).field=(⟨#[]⟩:ByteArray) then
  O4 x1 x12 rc_query_Print_2 x19 r
 else
  ∃ r457:List Ak,(Ep 1 ((ix x1.nodes x12).field) x19 r457) ∧
  ∃ r470:List Ak,(Ep 5 (⟨#[58]⟩:ByteArray) r457 r470) ∧
  O4 x1 x12 rc_query_Print_2 r470 r
def Jf:Nat→Ar→Int→(List Ak)→(Ar × Int × (List Ak))→Prop
 | 0=>fun _ _ _ _=>False
 | n + 1=>O5 (Jf n)
def Xcm (x1:Ar) (x12:Int) (x19:List Ak) (r:Ar × Int × (List Ak)):Prop:=∃ n,Jf n x1 x12 x19 r
def strings_Join (x1:List ByteArray) (x6:ByteArray) (r:ByteArray):Prop :=
 (x1.length≤140737488355328)∧((Ym x1 x6).size≤140737488355328)∧r=Ym x1 x6
def Jn (x1:List Ak) (x47:List ByteArray) (x52:Int) (o1:Sum ((List ByteArray) × Int) ByteArray):Prop :=
 if x52 < (x1.length:Int) then
  (0≤x52∧x52 < (x1.length:Int)) ∧
  ∃ r100:Bool,(V8 (ix x1 x52) r100) ∧
  if r100=true then
   ∃ r109:ByteArray,(Qc (ix x1 x52) r109) ∧
   ∃ x120:List ByteArray,(x120=x47++([r109]:List ByteArray)) ∧
   (x120.length * 16≤211106232532992) ∧
   o1=.inl (x120,w64 (x52 + 1))
  else
   o1=.inr ((⟨#[]⟩:ByteArray))
 else
  ∃ r126:ByteArray,(strings_Join x47 (⟨#[32]⟩:ByteArray) r126) ∧
  o1=.inr (r126)
def Ux (x1:List Ak) (r:ByteArray):Prop :=
 Bl (fun (s:(List ByteArray) × Int) o=>Jn x1 s.1 s.2 o) (([]:List ByteArray),0) r
def Pz (x1:Ar) (x195:Int) (x385:List Ak) (o1:Sum (Int × (List Ak)) (ByteArray × Int)):Prop :=
 ∃ r393:List Ak,(Ep 5 (⟨#[64]⟩:ByteArray) x385 r393) ∧
 ∃ r406:List Ak,(Ep 1 ((ix x1.conds x195).a) r393 r406) ∧
 ∃ r419:List Ak,(Ep 5 (⟨#[61]⟩:ByteArray) r406 r419) ∧
 if (ix x1.conds x195).b=(⟨#[]⟩:ByteArray) then
  ∃ r433:List Ak,(Ep 2 ((ix x1.conds x195).text) r419 r433) ∧
  o1=.inl (w64 (x195 + 1),r433)
 else
  ∃ r446:List Ak,(Ep 5 (⟨#[64]⟩:ByteArray) r419 r446) ∧
  ∃ r459:List Ak,(Ep 1 ((ix x1.conds x195).b) r446 r459) ∧
  o1=.inl (w64 (x195 + 1),r459)
def Lt (x1:Ar) (x195:Int) (x196:List Ak) (o1:Sum (Int × (List Ak)) (ByteArray × Int)):Prop :=
 if x195 < (x1.conds.length:Int) then
  (0≤x195∧x195 < (x1.conds.length:Int)) ∧
  if ((ix x1.conds x195).not)=true then
   ∃ r472:List Ak,(Ep 1 (⟨#[117,110,108,101,115,115]⟩:ByteArray) x196 r472) ∧
   Pz x1 x195 r472 o1
  else
   ∃ r485:List Ak,(Ep 1 (⟨#[119,104,101,110]⟩:ByteArray) x196 r485) ∧
   Pz x1 x195 r485 o1
 else
  ∃ r498:ByteArray,(Ux x196 r498) ∧
  o1=.inr ((r498,0))
def Ze (x1:Ar) (r:ByteArray × Int):Prop :=
 ∃ r15:Bool,(Qn x1 r15) ∧
 if r15=true then
  ∃ r33:Ar × Int × (List Ak),(Xcm x1 0 ([]:List Ak) r33) ∧
  Bl (fun (s:Int × (List Ak)) o=>Lt x1 s.1 s.2 o) (0,r33.2.2) r
 else
  r=((⟨#[]⟩:ByteArray),200)
def V7 (x1:Int) (r:Bool):Prop :=
 if x1=32 then
  r=true
 else
  if x1=9 then
   r=true
  else
   if x1=13 then
    r=true
   else
    r=(x1 == 10)
def Iq (x1:ByteArray) (x2:Int) (r:Int):Prop :=
 r=Xft x1 x2
def N8 (x1:ByteArray) (x2:Int) (r:Int):Prop :=
 ∃ r6:Int,(Iq x1 x2 r6) ∧
 r=r6
def P7 (x1:Int) (x17:Bool) (r:Int × Bool):Prop :=
 if x17=true then
  r=(IntKind.u8.wrap ((IntKind.u8.wrap (x1 - 65)) + 10),true)
 else
  r=(0,false)
def Tz (x1:Int) (x13:Bool) (r:Int × Bool):Prop :=
 if x13=true then
  r=(IntKind.u8.wrap ((IntKind.u8.wrap (x1 - 97)) + 10),true)
 else
  if x1≥65 then
   P7 x1 (decide (x1≤70)) r
  else
   P7 x1 false r
def V6 (x1:Int) (r:Int × Bool):Prop :=
 ∃ r5:Bool,(Ls x1 r5) ∧
 if r5=true then
  r=(IntKind.u8.wrap (x1 - 48),true)
 else
  if x1≥97 then
   Tz x1 (decide (x1≤102)) r
  else
   Tz x1 false r
def Og (r18:Int × Bool) (r27:Int × Bool) (x34:Bool) (r:Int × Int):Prop :=
 if x34=true then
  r=(IntKind.u8.wrap ((IntKind.u8.wrap (16 * r18.1)) + r27.1),4)
 else
  r=(0,0)
def Nb (x1:ByteArray) (x2:Int) (x7:Bool) (r:Int × Int):Prop :=
 if x7=true then
  r=(bt x1 (w64 (x2 + 1)),2)
 else
  if bt x1 (w64 (x2 + 1))=110 then
   r=(10,2)
  else
   if bt x1 (w64 (x2 + 1))=116 then
    r=(9,2)
   else
    if bt x1 (w64 (x2 + 1))=114 then
     r=(13,2)
    else
     if bt x1 (w64 (x2 + 1))=120 then
      if w64 (x2 + 3) < (x1.size:Int) then
       (0≤w64 (x2 + 2)∧w64 (x2 + 2) < (x1.size:Int)) ∧
       ∃ r18:Int × Bool,(V6 (bt x1 (w64 (x2 + 2))) r18) ∧
       (0≤w64 (x2 + 3)∧w64 (x2 + 3) < (x1.size:Int)) ∧
       ∃ r27:Int × Bool,(V6 (bt x1 (w64 (x2 + 3))) r27) ∧
       if r18.2=true then
        Og r18 r27 r27.2 r
       else
        Og r18 r27 false r
      else
       r=(0,0)
     else
      r=(0,0)
def U3 (x1:ByteArray) (x2:Int) (r:Int × Int):Prop :=
 if w64 (x2 + 1)≥(x1.size:Int) then
  r=(0,0)
 else
  (0≤w64 (x2 + 1)∧w64 (x2 + 1) < (x1.size:Int)) ∧
  if bt x1 (w64 (x2 + 1))=34 then
   Nb x1 x2 ((bt x1 (w64 (x2 + 1))) == 34) r
  else
   Nb x1 x2 ((bt x1 (w64 (x2 + 1))) == 92) r
def Kv (x2:Int) (x48:Int) (x1:ByteArray) (x43:List Int) (x89:Bool) (o1:Sum ((List Int) × Int) ((List Int) × Int × Int)):Prop :=
 if x89=true then
  o1=.inr ((([]:List Int),82,x2))
 else
  (0≤x48∧x48 < (x1.size:Int)) ∧
  if bt x1 x48=34 then
   o1=.inr ((x43,0,w64 (x48 + 1)))
  else
   if bt x1 x48=92 then
    ∃ r97:Int × Int,(U3 x1 x48 r97) ∧
    if r97.2=0 then
     o1=.inr ((([]:List Int),82,x48))
    else
     ∃ x109:List Int,(x109=x43++([r97.1]:List Int)) ∧
     (x109.length * 1≤211106232532992) ∧
     o1=.inl (x109,w64 (x48 + r97.2))
   else
    ∃ x118:List Int,(x118=x43++([bt x1 x48]:List Int)) ∧
    (x118.length * 1≤211106232532992) ∧
    o1=.inl (x118,w64 (x48 + 1))
def Il (x1:ByteArray) (x2:Int) (x43:List Int) (x48:Int) (o1:Sum ((List Int) × Int) ((List Int) × Int × Int)):Prop :=
 if x48=(x1.size:Int) then
  Kv x2 x48 x1 x43 true o1
 else
  (0≤x48∧x48 < (x1.size:Int)) ∧
  Kv x2 x48 x1 x43 ((bt x1 x48) == 10) o1
def Tm (x1:ByteArray) (x2:Int) (r:(List Int) × Int × Int):Prop :=
 Bl (fun (s:(List Int) × Int) o=>Il x1 x2 s.1 s.2 o) (([]:List Int),w64 (x2 + 1)) r
def Hw (x28:Int) (x70:Bool) (o1:Sum Int ((List Int) × Int × Int)):Prop :=
 if x70=true then
  o1=.inl (w64 ((w64 (x28 + 1)) + 1))
 else
  o1=.inl (w64 (x28 + 1))
def Le (x2:Int) (x28:Int) (x1:ByteArray) (x56:Bool) (o1:Sum Int ((List Int) × Int × Int)):Prop :=
 if x56=true then
  o1=.inr ((([]:List Int),82,x2))
 else
  (0≤x28∧x28 < (x1.size:Int)) ∧
  if bt x1 x28=47 then
   (0≤w64 (x2 + 1)∧w64 (x2 + 1)≤x28∧x28≤(x1.size:Int)) ∧
   ((x1.extract (w64 (x2 + 1):Int).toNat (x28:Int).toNat).size≤9223372036854775807) ∧
   o1=.inr (((Dq (x1.extract (w64 (x2 + 1):Int).toNat (x28:Int).toNat)),0,w64 (x28 + 1)))
  else
   if bt x1 x28=92 then
    if w64 (x28 + 1) < (x1.size:Int) then
     (0≤w64 (x28 + 1)∧w64 (x28 + 1) < (x1.size:Int)) ∧
     Hw x28 ((bt x1 (w64 (x28 + 1))) != 10) o1
    else
     Hw x28 false o1
   else
    Hw x28 false o1
def Jk (x1:ByteArray) (x2:Int) (x28:Int) (o1:Sum Int ((List Int) × Int × Int)):Prop :=
 if x28=(x1.size:Int) then
  Le x2 x28 x1 true o1
 else
  (0≤x28∧x28 < (x1.size:Int)) ∧
  Le x2 x28 x1 ((bt x1 x28) == 10) o1
def Rf (x1:ByteArray) (x2:Int) (r:(List Int) × Int × Int):Prop :=
 Bl (fun (s:Int) o=>Jk x1 x2 s o) (w64 (x2 + 1)) r
def Tv (x885:Int) (x438:List Ak) (x896:Bool) (o2:Sum Int (Sum ((List Ak) × Int) ((List Ak) × Int × Int))):Prop :=
 if x896=true then
  o2=.inl (w64 (x885 + 1))
 else
  o2=.inr (.inl (x438,x885))
def P6 (x1:ByteArray) (x438:List Ak) (x885:Int) (o2:Sum Int (Sum ((List Ak) × Int) ((List Ak) × Int × Int))):Prop :=
 if x885 < (x1.size:Int) then
  (0≤x885∧x885 < (x1.size:Int)) ∧
  Tv x885 x438 ((bt x1 x885) != 10) o2
 else
  Tv x885 x438 false o2
def Nv (x960:Int) (x443:Int) (x1:ByteArray) (x438:List Ak) (x1033:Bool) (o2:Sum Int (Sum ((List Ak) × Int) ((List Ak) × Int × Int))):Prop :=
 if x1033=true then
  o2=.inl (w64 (x960 + 1))
 else
  if w64 (x960 - x443) > 24 then
   o2=.inr (.inr ((([]:List Ak),83,x443)))
  else
   (0≤x443∧x443≤x960∧x960≤(x1.size:Int)) ∧
   ∃ x1043:List Ak,(x1043=x438++([(⟨1,x1.extract (x443:Int).toNat (x960:Int).toNat,0,x443⟩:Ak)]:List Ak)) ∧
   (x1043.length * 40≤211106232532992) ∧
   o2=.inr (.inl (x1043,x960))
def Nz (x1:ByteArray) (x443:Int) (x438:List Ak) (x960:Int) (o2:Sum Int (Sum ((List Ak) × Int) ((List Ak) × Int × Int))):Prop :=
 if x960 < (x1.size:Int) then
  (0≤x960∧x960 < (x1.size:Int)) ∧
  ∃ r1051:Bool,(P8 (bt x1 x960) r1051) ∧
  if r1051=true then
   Nv x960 x443 x1 x438 true o2
  else
   ∃ r1060:Bool,(Ls (bt x1 x960) r1060) ∧
   Nv x960 x443 x1 x438 r1060 o2
 else
  Nv x960 x443 x1 x438 false o2
def Oz (x1105:Int) (x1:ByteArray) (x1106:Int) (x443:Int) (x438:List Ak) (x1152:Bool) (o2:Sum (Int × Int) (Sum ((List Ak) × Int) ((List Ak) × Int × Int))):Prop :=
 if x1152=true then
  (0≤x1105∧x1105 < (x1.size:Int)) ∧
  o2=.inl (w64 (x1105 + 1),min (w64 ((w64 (10 * x1106)) + (w64 (IntKind.u8.wrap ((bt x1 x1105) - 48))))) 65536)
 else
  if x1106 > 65535 then
   o2=.inr (.inr ((([]:List Ak),84,x443)))
  else
   ∃ x1162:List Ak,(x1162=x438++([(⟨4,(⟨#[]⟩:ByteArray),x1106,x443⟩:Ak)]:List Ak)) ∧
   (x1162.length * 40≤211106232532992) ∧
   o2=.inr (.inl (x1162,x1105))
def Jy (x1:ByteArray) (x443:Int) (x438:List Ak) (x1105:Int) (x1106:Int) (o2:Sum (Int × Int) (Sum ((List Ak) × Int) ((List Ak) × Int × Int))):Prop :=
 if x1105 < (x1.size:Int) then
  (0≤x1105∧x1105 < (x1.size:Int)) ∧
  ∃ r1170:Bool,(Ls (bt x1 x1105) r1170) ∧
  Oz x1105 x1 x1106 x443 x438 r1170 o2
 else
  Oz x1105 x1 x1106 x443 x438 false o2
def Ip (x1:ByteArray) (x438:List Ak) (x443:Int) (o1:Sum ((List Ak) × Int) ((List Ak) × Int × Int)):Prop :=
 if x443=(x1.size:Int) then
  o1=.inr ((x438,0,0))
 else
  (0≤x443∧x443 < (x1.size:Int)) ∧
  ∃ r872:Bool,(V7 (bt x1 x443) r872) ∧
  if r872=true then
   o1=.inl (x438,w64 (x443 + 1))
  else
   if bt x1 x443=35 then
    Bl (fun (s:Int) o=>P6 x1 x438 s o) x443 o1
   else
    ∃ r903:Bool,(P8 (bt x1 x443) r903) ∧
    if r903=true then
     Bl (fun (s:Int) o=>Nz x1 x443 x438 s o) x443 o1
    else
     ∃ r1068:Bool,(Ls (bt x1 x443) r1068) ∧
     if r1068=true then
      Bl (fun (s:Int × Int) o=>Jy x1 x443 x438 s.1 s.2 o) (x443,0) o1
     else
      if bt x1 x443=34 then
       ∃ r1203:(List Int) × Int × Int,(Tm x1 x443 r1203) ∧
       if r1203.2.1=0 then
        ∃ x1220:List Ak,(x1220=x438++([(⟨2,Qo r1203.1,0,x443⟩:Ak)]:List Ak)) ∧
        (x1220.length * 40≤211106232532992) ∧
        o1=.inl (x1220,r1203.2.2)
       else
        o1=.inr ((([]:List Ak),r1203.2.1,r1203.2.2))
      else
       if bt x1 x443=47 then
        ∃ r1251:(List Int) × Int × Int,(Rf x1 x443 r1251) ∧
        if r1251.2.1=0 then
         ∃ x1268:List Ak,(x1268=x438++([(⟨3,Qo r1251.1,0,x443⟩:Ak)]:List Ak)) ∧
         (x1268.length * 40≤211106232532992) ∧
         o1=.inl (x1268,r1251.2.2)
        else
         o1=.inr ((([]:List Ak),r1251.2.1,r1251.2.2))
       else
        ∃ r1274:Int,(N8 (⟨#[123,125,40,41,124,42,43,63,58,59,44,61,64]⟩:ByteArray) (bt x1 x443) r1274) ∧
        if r1274≥0 then
         (0≤x443∧x443≤w64 (x443 + 1)∧w64 (x443 + 1)≤(x1.size:Int)) ∧
         ∃ x1287:List Ak,(x1287=x438++([(⟨5,x1.extract (x443:Int).toNat (w64 (x443 + 1):Int).toNat,0,x443⟩:Ak)]:List Ak)) ∧
         (x1287.length * 40≤211106232532992) ∧
         o1=.inl (x1287,w64 (x443 + 1))
        else
         o1=.inr ((([]:List Ak),81,x443))
def Yf (x1:ByteArray) (r:(List Ak) × Int × Int):Prop :=
 if (x1.size:Int) > 16384 then
  r=(([]:List Ak),80,16384)
 else
  Bl (fun (s:(List Ak) × Int) o=>Ip x1 s.1 s.2 o) (([]:List Ak),0) r
def F9 (x1:Ai) (x20:Int) (x21:Int) (x22:ByteArray) (r:Bool × Ai):Prop :=
 if x20 < (x1.words.length:Int) then
  (0≤x20∧x20 < (x1.words.length:Int)) ∧
  if (ix x1.words x20).kind=x21 then
   r=((seq ((ix x1.words x20).text) x22),x1)
  else
   r=(false,x1)
 else
  r=(false,x1)
def Gi (x1:Ai) (x51:Bool) (x52:List Ak) (x59:Int) (x60:Int) (x61:List Ag) (x66:List Bh) (x71:Int) (x72:Int) (r:Bool × Ai):Prop :=
 if x51=true then
  r=(true,(⟨x52,x59,x60,(⟨x61,x66⟩:Ar),x71,x72⟩:Ai))
 else
  ∃ r77:Bool × Ai,(F9 (⟨x52,x59,x60,(⟨x61,x66⟩:Ar),x71,x72⟩:Ai) x1.at_ 5 (⟨#[40]⟩:ByteArray) r77) ∧
  if r77.1=true then
   r=(true,r77.2)
  else
   if x1.at_ < (r77.2.words.length:Int) then
    (0≤x1.at_∧x1.at_ < (r77.2.words.length:Int)) ∧
    if (ix r77.2.words x1.at_).kind=2 then
     r=((!(seq ((ix r77.2.words x1.at_).text) (⟨#[]⟩:ByteArray))),r77.2)
    else
     r=(false,r77.2)
   else
    r=(false,r77.2)
def Ns (x1:Ai) (r:Bool × Ai):Prop :=
 if x1.at_ < (x1.words.length:Int) then
  (0≤x1.at_∧x1.at_ < (x1.words.length:Int)) ∧
  if (ix x1.words x1.at_).kind=1 then
   if (ix x1.words x1.at_).text=(⟨#[95]⟩:ByteArray) then
    Gi x1 false x1.words x1.at_ x1.end_ x1.q.nodes x1.q.conds x1.code x1.place r
   else
    ∃ r113:Bool × Ai,(F9 x1 (w64 (x1.at_ + 1)) 5 (⟨#[58]⟩:ByteArray) r113) ∧
    Gi x1 r113.1 r113.2.words r113.2.at_ r113.2.end_ r113.2.q.nodes r113.2.q.conds r113.2.code r113.2.place r
  else
   Gi x1 false x1.words x1.at_ x1.end_ x1.q.nodes x1.q.conds x1.code x1.place r
 else
  Gi x1 false x1.words x1.at_ x1.end_ x1.q.nodes x1.q.conds x1.code x1.place r
def Dx (x1:Ai) (x20:Int) (x21:Int) (r:Ai):Prop :=
 if x1.code=0 then
  if x21 < (x1.words.length:Int) then
   (0≤x21∧x21 < (x1.words.length:Int)) ∧
   r=(⟨x1.words,x1.at_,x1.end_,x1.q,x20,(ix x1.words x21).at_⟩:Ai)
  else
   r=(⟨x1.words,x1.at_,x1.end_,x1.q,x20,x1.end_⟩:Ai)
 else
  r=x1
def Ec (x1:Ai) (x32:Bool) (r:ByteArray × Ai):Prop :=
 if x32=true then
  ∃ r37:Ai,(Dx x1 200 x1.at_ r37) ∧
  r=((⟨#[]⟩:ByteArray),r37)
 else
  (0≤w64 ((w64 (x1.at_ + 1)) - 1)∧w64 ((w64 (x1.at_ + 1)) - 1) < (x1.words.length:Int)) ∧
  r=((ix x1.words (w64 ((w64 (x1.at_ + 1)) - 1))).text,(⟨x1.words,w64 (x1.at_ + 1),x1.end_,x1.q,x1.code,x1.place⟩:Ai))
def Em (x1:Ai) (r:ByteArray × Ai):Prop :=
 if x1.at_=(x1.words.length:Int) then
  Ec x1 true r
 else
  (0≤x1.at_∧x1.at_ < (x1.words.length:Int)) ∧
  if (ix x1.words x1.at_).kind=1 then
   Ec x1 (seq ((ix x1.words x1.at_).text) (⟨#[95]⟩:ByteArray)) r
  else
   Ec x1 true r
def Ea (x1:Ai) (x20:ByteArray) (r:Ai):Prop :=
 ∃ r24:Bool × Ai,(F9 x1 x1.at_ 5 x20 r24) ∧
 if r24.1=true then
  r=(⟨r24.2.words,w64 (r24.2.at_ + 1),r24.2.end_,r24.2.q,r24.2.code,r24.2.place⟩:Ai)
 else
  ∃ r49:Ai,(Dx r24.2 200 r24.2.at_ r49) ∧
  r=r49
def Eo (r23:Bool × Ai) (x634:ByteArray) (x635:Bool) (x156:ByteArray) (x636:Int) (x663:Bool) (x664:List Ak) (x671:Int) (x672:Int) (x673:List Ag) (x678:List Bh) (x683:Int) (x684:Int) (r:Ai):Prop :=
 if x663=true then
  ∃ r689:ByteArray × Ai,(Em (⟨x664,w64 (x671 + 1),x672,(⟨x673,x678⟩:Ar),x683,x684⟩:Ai) r689) ∧
  ∃ r713:Int,(Hf r689.2.q r689.1 r713) ∧
  if r713≥0 then
   ∃ r746:Ai,(Dx r689.2 201 (w64 (x671 + 1)) r746) ∧
   (0≤(r23.2.q.nodes.length:Int)∧(r23.2.q.nodes.length:Int) < (r746.q.nodes.length:Int)) ∧
   ∃ x768:List Ag,(x768=r746.q.nodes.set ((r23.2.q.nodes.length:Int):Int).toNat (⟨x634,x635,x156,r689.1,x636⟩:Ag)) ∧
   r=(⟨r746.words,r746.at_,r746.end_,(⟨x768,r746.q.conds⟩:Ar),r746.code,r746.place⟩:Ai)
  else
   (0≤(r23.2.q.nodes.length:Int)∧(r23.2.q.nodes.length:Int) < (r689.2.q.nodes.length:Int)) ∧
   ∃ x774:List Ag,(x774=r689.2.q.nodes.set ((r23.2.q.nodes.length:Int):Int).toNat (⟨x634,x635,x156,r689.1,x636⟩:Ag)) ∧
   r=(⟨r689.2.words,r689.2.at_,r689.2.end_,(⟨x774,r689.2.q.conds⟩:Ar),r689.2.code,r689.2.place⟩:Ai)
 else
  (0≤(r23.2.q.nodes.length:Int)∧(r23.2.q.nodes.length:Int) < (x673.length:Int)) ∧
  ∃ x780:List Ag,(x780=x673.set ((r23.2.q.nodes.length:Int):Int).toNat (⟨x634,x635,x156,(⟨#[]⟩:ByteArray),x636⟩:Ag)) ∧
  r=(⟨x664,x671,x672,(⟨x780,x678⟩:Ar),x683,x684⟩:Ai)
def E5 (r23:Bool × Ai) (x156:ByteArray) (x613:List Ak) (x620:Int) (x621:Int) (x622:List Ag) (x627:List Bh) (x632:Int) (x633:Int) (x634:ByteArray) (x635:Bool) (x636:Int) (r:Ai):Prop :=
 if x632=0 then
  ∃ r789:Bool × Ai,(F9 (⟨x613,x620,x621,(⟨x622,x627⟩:Ar),x632,x633⟩:Ai) x620 5 (⟨#[64]⟩:ByteArray) r789) ∧
  Eo r23 x634 x635 x156 x636 r789.1 r789.2.words r789.2.at_ r789.2.end_ r789.2.q.nodes r789.2.q.conds r789.2.code r789.2.place r
 else
  Eo r23 x634 x635 x156 x636 false x613 x620 x621 x622 x627 x632 x633 r
def Dk (r23:Bool × Ai) (x156:ByteArray) (x909:ByteArray) (rc_query_parser_pattern:Ai→Ai→Prop) (x1013:List Ak) (x1020:Int) (x1021:Int) (x1022:List Ag) (x1027:List Bh) (x1032:Int) (x1033:Int) (x1034:Int) (o1:Sum ((List Ak) × Int × Int × (List Ag) × (List Bh) × Int × Int × Int) Ai):Prop :=
 if x1032=0 then
  ∃ r1141:Bool × Ai,(F9 (⟨x1013,x1020,x1021,(⟨x1022,x1027⟩:Ar),x1032,x1033⟩:Ai) x1020 5 (⟨#[41]⟩:ByteArray) r1141) ∧
  if r1141.1=true then
   ∃ r1166:Ai,(Ea r1141.2 (⟨#[41]⟩:ByteArray) r1166) ∧
   ∃ q1187:Ai,(o1=.inr (q1187)) ∧
   E5 r23 x156 r1166.words r1166.at_ r1166.end_ r1166.q.nodes r1166.q.conds r1166.code r1166.place x909 false x1034 q1187
  else
   ∃ r1192:Ai,(rc_query_parser_pattern r1141.2 r1192) ∧
   o1=.inl (r1192.words,r1192.at_,r1192.end_,r1192.q.nodes,r1192.q.conds,r1192.code,r1192.place,w64 (x1034 + 1))
 else
  ∃ r1216:Ai,(Ea (⟨x1013,x1020,x1021,(⟨x1022,x1027⟩:Ar),x1032,x1033⟩:Ai) (⟨#[41]⟩:ByteArray) r1216) ∧
  ∃ q1237:Ai,(o1=.inr (q1237)) ∧
  E5 r23 x156 r1216.words r1216.at_ r1216.end_ r1216.q.nodes r1216.q.conds r1216.code r1216.place x909 false x1034 q1237
def Ef (r23:Bool × Ai) (x156:ByteArray) (rc_query_parser_pattern:Ai→Ai→Prop) (x888:List Ak) (x895:Int) (x896:Int) (x897:List Ag) (x902:List Bh) (x907:Int) (x908:Int) (x909:ByteArray) (r:Ai):Prop :=
 Bl (fun (s:(List Ak) × Int × Int × (List Ag) × (List Bh) × Int × Int × Int) o=>Dk r23 x156 x909 rc_query_parser_pattern s.1 s.2.1 s.2.2.1 s.2.2.2.1 s.2.2.2.2.1 s.2.2.2.2.2.1 s.2.2.2.2.2.2.1 s.2.2.2.2.2.2.2 o) (x888,x895,x896,x897,x902,x907,x908,0) r
def Eb (x142:Int) (x135:List Ak) (r23:Bool × Ai) (x156:ByteArray) (x143:Int) (x144:List Ag) (x149:List Bh) (x154:Int) (x155:Int) (rc_query_parser_pattern:Ai→Ai→Prop) (x169:Bool) (r:Ai):Prop :=
 if x169=true then
  (0≤x142∧x142 < (x135.length:Int)) ∧
  E5 r23 x156 x135 (w64 (x142 + 1)) x143 x144 x149 x154 x155 ((ix x135 x142).text) true 0 r
 else
  ∃ r817:Ai,(Ea (⟨x135,x142,x143,(⟨x144,x149⟩:Ar),x154,x155⟩:Ai) (⟨#[40]⟩:ByteArray) r817) ∧
  ∃ r841:Bool × Ai,(F9 r817 r817.at_ 1 (⟨#[95]⟩:ByteArray) r841) ∧
  if r841.1=true then
   Ef r23 x156 rc_query_parser_pattern r841.2.words (w64 (r841.2.at_ + 1)) r841.2.end_ r841.2.q.nodes r841.2.q.conds r841.2.code r841.2.place (⟨#[]⟩:ByteArray) r
  else
   ∃ r1242:ByteArray × Ai,(Em r841.2 r1242) ∧
   Ef r23 x156 rc_query_parser_pattern r1242.2.words r1242.2.at_ r1242.2.end_ r1242.2.q.nodes r1242.2.q.conds r1242.2.code r1242.2.place r1242.1 r
def Es (r23:Bool × Ai) (rc_query_parser_pattern:Ai→Ai→Prop) (x135:List Ak) (x142:Int) (x143:Int) (x144:List Ag) (x149:List Bh) (x154:Int) (x155:Int) (x156:ByteArray) (r:Ai):Prop :=
 if x142 < (x135.length:Int) then
  (0≤x142∧x142 < (x135.length:Int)) ∧
  if (ix x135 x142).kind=2 then
   Eb x142 x135 r23 x156 x143 x144 x149 x154 x155 rc_query_parser_pattern (!(seq ((ix x135 x142).text) (⟨#[]⟩:ByteArray))) r
  else
   Eb x142 x135 r23 x156 x143 x144 x149 x154 x155 rc_query_parser_pattern false r
 else
  Eb x142 x135 r23 x156 x143 x144 x149 x154 x155 rc_query_parser_pattern false r
def Iw (rc_query_parser_pattern:Ai→Ai→Prop) (x1:Ai) (r:Ai):Prop :=
 ∃ r23:Bool × Ai,(Ns x1 r23) ∧
 if r23.1=true then
  if (r23.2.q.nodes.length:Int)=32 then
   ∃ r49:Ai,(Dx r23.2 202 r23.2.at_ r49) ∧
   r=r49
  else
   ∃ x76:List Ag,(x76=r23.2.q.nodes++([(⟨(⟨#[]⟩:ByteArray),false,(⟨#[]⟩:ByteArray),(⟨#[]⟩:ByteArray),0⟩:Ag)]:List Ag)) ∧
   (x76.length * 64≤211106232532992) ∧
   (0≤r23.2.at_∧r23.2.at_ < (r23.2.words.length:Int)) ∧
   if (ix r23.2.words r23.2.at_).kind=1 then
    ∃ r1277:ByteArray × Ai,(Em (⟨r23.2.words,r23.2.at_,r23.2.end_,(⟨x76,r23.2.q.conds⟩:Ar),r23.2.code,r23.2.place⟩:Ai) r1277) ∧
    ∃ r1301:Ai,(Ea r1277.2 (⟨#[58]⟩:ByteArray) r1301) ∧
    Es r23 rc_query_parser_pattern r1301.words r1301.at_ r1301.end_ r1301.q.nodes r1301.q.conds r1301.code r1301.place r1277.1 r
   else
    Es r23 rc_query_parser_pattern r23.2.words r23.2.at_ r23.2.end_ x76 r23.2.q.conds r23.2.code r23.2.place (⟨#[]⟩:ByteArray) r
 else
  ∃ r1325:Ai,(Dx r23.2 200 r23.2.at_ r1325) ∧
  r=r1325
def D6:Nat→Ai→Ai→Prop
 | 0=>fun _ _=>False
 | n + 1=>Iw (D6 n)
def Rz (x1:Ai) (r:Ai):Prop:=∃ n,D6 n x1 r
def Jm (x1:Ai) (r:ByteArray × Ai):Prop :=
 ∃ r23:Ai,(Ea x1 (⟨#[64]⟩:ByteArray) r23) ∧
 if r23.code=0 then
  ∃ r48:ByteArray × Ai,(Em r23 r48) ∧
  ∃ r73:Int,(Hf r48.2.q r48.1 r73) ∧
  if r73 < 0 then
   ∃ r82:Ai,(Dx r48.2 201 r23.at_ r82) ∧
   r=(r48.1,r82)
  else
   r=(r48.1,r48.2)
 else
  r=((⟨#[]⟩:ByteArray),r23)
def Gn (x201:Int) (x194:List Ak) (x208:List Bh) (x118:Bool) (r147:ByteArray × Ai) (x202:Int) (x203:List Ag) (x213:Int) (x214:Int) (x222:Bool) (r:Ai):Prop :=
 if x222=true then
  (0≤x201∧x201 < (x194.length:Int)) ∧
  ∃ x234:List Bh,(x234=x208++([(⟨x118,r147.1,(⟨#[]⟩:ByteArray),(ix x194 x201).text⟩:Bh)]:List Bh)) ∧
  (x234.length * 56≤211106232532992) ∧
  r=(⟨x194,w64 (x201 + 1),x202,(⟨x203,x234⟩:Ar),x213,x214⟩:Ai)
 else
  if x213=0 then
   ∃ r261:ByteArray × Ai,(Jm (⟨x194,x201,x202,(⟨x203,x208⟩:Ar),x213,x214⟩:Ai) r261) ∧
   ∃ x288:List Bh,(x288=r261.2.q.conds++([(⟨x118,r147.1,r261.1,(⟨#[]⟩:ByteArray)⟩:Bh)]:List Bh)) ∧
   (x288.length * 56≤211106232532992) ∧
   r=(⟨r261.2.words,r261.2.at_,r261.2.end_,(⟨r261.2.q.nodes,x288⟩:Ar),r261.2.code,r261.2.place⟩:Ai)
  else
   ∃ x317:List Bh,(x317=x208++([(⟨x118,r147.1,(⟨#[]⟩:ByteArray),(⟨#[]⟩:ByteArray)⟩:Bh)]:List Bh)) ∧
   (x317.length * 56≤211106232532992) ∧
   r=(⟨x194,x201,x202,(⟨x203,x317⟩:Ar),x213,x214⟩:Ai)
def Fh (x118:Bool) (r147:ByteArray × Ai) (x194:List Ak) (x201:Int) (x202:Int) (x203:List Ag) (x208:List Bh) (x213:Int) (x214:Int) (r:Ai):Prop :=
 if x213=0 then
  if x201 < (x194.length:Int) then
   (0≤x201∧x201 < (x194.length:Int)) ∧
   Gn x201 x194 x208 x118 r147 x202 x203 x213 x214 (((ix x194 x201).kind) == 2) r
  else
   Gn x201 x194 x208 x118 r147 x202 x203 x213 x214 false r
 else
  Gn x201 x194 x208 x118 r147 x202 x203 x213 x214 false r
def Ig (x97:List Ak) (x104:Int) (x105:Int) (x106:List Ag) (x111:List Bh) (x116:Int) (x117:Int) (x118:Bool) (r:Ai):Prop :=
 if (x111.length:Int)=16 then
  ∃ r123:Ai,(Dx (⟨x97,x104,x105,(⟨x106,x111⟩:Ar),x116,x117⟩:Ai) 202 x104 r123) ∧
  r=r123
 else
  ∃ r147:ByteArray × Ai,(Jm (⟨x97,w64 (x104 + 1),x105,(⟨x106,x111⟩:Ar),x116,x117⟩:Ai) r147) ∧
  if r147.2.code=0 then
   ∃ r349:Ai,(Ea r147.2 (⟨#[61]⟩:ByteArray) r349) ∧
   Fh x118 r147 r349.words r349.at_ r349.end_ r349.q.nodes r349.q.conds r349.code r349.place r
  else
   Fh x118 r147 r147.2.words r147.2.at_ r147.2.end_ r147.2.q.nodes r147.2.q.conds r147.2.code r147.2.place r
def J6 (x1:Ai) (r:Ai):Prop :=
 ∃ r25:Bool × Ai,(F9 x1 x1.at_ 1 (⟨#[117,110,108,101,115,115]⟩:ByteArray) r25) ∧
 if r25.1=true then
  Ig r25.2.words r25.2.at_ r25.2.end_ r25.2.q.nodes r25.2.q.conds r25.2.code r25.2.place true r
 else
  ∃ r373:Bool × Ai,(F9 r25.2 r25.2.at_ 1 (⟨#[119,104,101,110]⟩:ByteArray) r373) ∧
  if r373.1=true then
   Ig r373.2.words r373.2.at_ r373.2.end_ r373.2.q.nodes r373.2.q.conds r373.2.code r373.2.place false r
  else
   ∃ r398:Ai,(Dx r373.2 200 r373.2.at_ r398) ∧
   r=r398
def Ht (x76:List Ak) (x83:Int) (x84:Int) (x85:List Ag) (x90:List Bh) (x95:Int) (x96:Int) (o1:Sum ((List Ak) × Int × Int × (List Ag) × (List Bh) × Int × Int) (Ar × Int × Int)):Prop :=
 if x95=0 then
  if x83 < (x76.length:Int) then
   ∃ r128:Ai,(J6 (⟨x76,x83,x84,(⟨x85,x90⟩:Ar),x95,x96⟩:Ai) r128) ∧
   o1=.inl (r128.words,r128.at_,r128.end_,r128.q.nodes,r128.q.conds,r128.code,r128.place)
  else
   o1=.inr (((⟨x85,x90⟩:Ar),0,0))
 else
  o1=.inr (((⟨([]:List Ag),([]:List Bh)⟩:Ar),x95,x96))
def Xg (x1:ByteArray) (r:Ar × Int × Int):Prop :=
 ∃ r7:(List Ak) × Int × Int,(Yf x1 r7) ∧
 if r7.2.1=0 then
  ∃ r28:Ai,(Rz (⟨r7.1,0,(x1.size:Int),(⟨([]:List Ag),([]:List Bh)⟩:Ar),0,0⟩:Ai) r28) ∧
  Bl (fun (s:(List Ak) × Int × Int × (List Ag) × (List Bh) × Int × Int) o=>Ht s.1 s.2.1 s.2.2.1 s.2.2.2.1 s.2.2.2.2.1 s.2.2.2.2.2.1 s.2.2.2.2.2.2 o) (r28.words,r28.at_,r28.end_,r28.q.nodes,r28.q.conds,r28.code,r28.place) r
 else
  r=((⟨([]:List Ag),([]:List Bh)⟩:Ar),r7.2.1,r7.2.2)
def He (r4:Ar × Int × Int) (x25:Bool) (r:Bool):Prop :=
 if x25=true then
  r=false
 else
  ∃ r33:List Bq,(Qx r4.1 ([(⟨(⟨#[115]⟩:ByteArray),true,(⟨#[]⟩:ByteArray),0,2,2,-1⟩:Az),(⟨(⟨#[97]⟩:ByteArray),true,(⟨#[]⟩:ByteArray),0,1,0,0⟩:Az),(⟨(⟨#[97]⟩:ByteArray),true,(⟨#[]⟩:ByteArray),1,2,0,1⟩:Az)]:List Az) (⟨#[121,122]⟩:ByteArray) r33) ∧
  ∃ r50:List Bq,(Qx r4.1 ([(⟨(⟨#[115]⟩:ByteArray),true,(⟨#[]⟩:ByteArray),0,2,2,-1⟩:Az),(⟨(⟨#[97]⟩:ByteArray),true,(⟨#[]⟩:ByteArray),0,1,0,0⟩:Az),(⟨(⟨#[97]⟩:ByteArray),true,(⟨#[]⟩:ByteArray),1,2,0,1⟩:Az)]:List Az) (⟨#[122,121]⟩:ByteArray) r50) ∧
  ∃ r68:ByteArray × Int,(Ze r4.1 r68) ∧
  if (r33.length:Int)=1 then
   (0≤(0:Int)∧(0:Int) < (r33.length:Int)) ∧
   ∃ r89:Bool,(J8 ((ix r33 0).nodes) ([0,1]:List Int) r89) ∧
   if r89=true then
    if (r50.length:Int)=0 then
     if r68.2=0 then
      r=(seq r68.1 (⟨#[40,32,115,32,40,32,97,32,41,32,64,32,120,32,41,32,119,104,101,110,32,64,32,120,32,61,32,34,121,34]⟩:ByteArray))
     else
      r=false
    else
     r=false
   else
    r=false
  else
   r=false
def Ot  (r:Bool):Prop :=
 ∃ r4:Ar × Int × Int,(Xg (⟨#[40,115,32,40,97,41,32,64,120,41,32,119,104,101,110,32,64,120,32,61,32,34,121,34]⟩:ByteArray) r4) ∧
 if r4.2.1=0 then
  if r4.2.2=0 then
   if (r4.1.nodes.length:Int)=2 then
    He r4 ((r4.1.conds.length:Int) != 1) r
   else
    He r4 true r
  else
   He r4 true r
 else
  He r4 true r
def Ox (x113:Int) (x1:List Ag) (x6:Int) (x357:Int) (x358:List Ag) (o2:Sum (Int × (List Ag)) (Sum (Int × Int) (Ar × Int))):Prop :=
 if x357 < x113 then
  (0≤x357∧x357 < (x1.length:Int)) ∧
  ∃ x400:List Ag,(x400=x358++([ix x1 x357]:List Ag)) ∧
  (x400.length * 64≤211106232532992) ∧
  o2=.inl (w64 (x357 + 1),x400)
 else
  o2=.inr (.inr (((⟨x358,([]:List Bh)⟩:Ar),w64 (x113 - x6))))
def Ii (x113:Int) (x1:List Ag) (x6:Int) (x456:Int) (x457:List Ag) (o2:Sum (Int × (List Ag)) (Sum (Int × Int) (Ar × Int))):Prop :=
 if x456 < x113 then
  (0≤x456∧x456 < (x1.length:Int)) ∧
  ∃ x499:List Ag,(x499=x457++([ix x1 x456]:List Ag)) ∧
  (x499.length * 64≤211106232532992) ∧
  o2=.inl (w64 (x456 + 1),x499)
 else
  o2=.inr (.inr (((⟨x457,([]:List Bh)⟩:Ar),w64 (x113 - x6))))
def Gl (x1:List Ag) (x6:Int) (x112:Int) (x113:Int) (o1:Sum (Int × Int) (Ar × Int)):Prop :=
 if x112 > 0 then
  if x113 < (x1.length:Int) then
   (0≤x113∧x113 < (x1.length:Int)) ∧
   o1=.inl (w64 ((w64 (x112 - 1)) + ((ix x1 x113).kids)),w64 (x113 + 1))
  else
   Bl (fun (s:Int × (List Ag)) o=>Ox x113 x1 x6 s.1 s.2 o) (x6,([]:List Ag)) o1
 else
  Bl (fun (s:Int × (List Ag)) o=>Ii x113 x1 x6 s.1 s.2 o) (x6,([]:List Ag)) o1
def Ru (x1:List Ag) (x6:Int) (r:Ar × Int):Prop :=
 Bl (fun (s:Int × Int) o=>Gl x1 x6 s.1 s.2 o) (1,x6) r
def H5 (x1:List Bq) (x6:Int) (x35:Int) (o1:Sum Int (List Int)):Prop :=
 if x35 < (x1.length:Int) then
  (0≤x35∧x35 < (x1.length:Int)) ∧
  if (((ix x1 x35).nodes).length:Int) > 0 then
   (0≤(0:Int)∧(0:Int) < (((ix x1 x35).nodes).length:Int)) ∧
   if ix ((ix x1 x35).nodes) 0=x6 then
    (((ix x1 x35).nodes)≠[]) ∧
    o1=.inr ((ix x1 x35).nodes)
   else
    o1=.inl (w64 (x35 + 1))
  else
   o1=.inl (w64 (x35 + 1))
 else
  o1=.inr (([]:List Int))
def Ld (x1:List Bq) (x6:Int) (r:List Int):Prop :=
 Bl (fun (s:Int) o=>H5 x1 x6 s o) 0 r
def Ew (x9409:List Int) (x9408:Int) (x8816:Bool) (x8817:Int) (x9708:List Int) (x9713:Int) (o5:Sum ((List Int) × Int) (Sum (Int × (List Int)) (Sum ((List Int) × Int × Bool × Int) (Sum ((List Bq) × Int) (Sum ((List (List Bq)) × Int × Int) Bool))))):Prop :=
 if x9713 < (x9409.length:Int) then
  (0≤x9713∧x9713 < (x9409.length:Int)) ∧
  ∃ x9735:List Int,(x9735=x9708++([ix x9409 x9713]:List Int)) ∧
  (x9735.length * 8≤211106232532992) ∧
  o5=.inl (x9735,w64 (x9713 + 1))
 else
  o5=.inr (.inr (.inl (x9708,x9408,x8816,w64 (x8817 + 1))))
def Ih (x9409:List Int) (x9408:Int) (x9740:Bool) (x8817:Int) (x9754:List Int) (x9759:Int) (o5:Sum ((List Int) × Int) (Sum (Int × (List Int)) (Sum ((List Int) × Int × Bool × Int) (Sum ((List Bq) × Int) (Sum ((List (List Bq)) × Int × Int) Bool))))):Prop :=
 if x9759 < (x9409.length:Int) then
  (0≤x9759∧x9759 < (x9409.length:Int)) ∧
  ∃ x9781:List Int,(x9781=x9754++([ix x9409 x9759]:List Int)) ∧
  (x9781.length * 8≤211106232532992) ∧
  o5=.inl (x9781,w64 (x9759 + 1))
 else
  o5=.inr (.inr (.inl (x9754,x9408,x9740,w64 (x8817 + 1))))
def Ku (x9409:List Int) (x9408:Int) (x8817:Int) (x8810:List Int) (x9740:Bool) (o4:Sum (Int × (List Int)) (Sum ((List Int) × Int × Bool × Int) (Sum ((List Bq) × Int) (Sum ((List (List Bq)) × Int × Int) Bool)))):Prop :=
 Bl (fun (s:(List Int) × Int) o=>Ih x9409 x9408 x9740 x8817 s.1 s.2 o) (x8810,0) o4
def Dz (r8307:List Int) (x8817:Int) (x456:List (List Bq)) (x8816:Bool) (x8810:List Int) (x9408:Int) (x9409:List Int) (o4:Sum (Int × (List Int)) (Sum ((List Int) × Int × Bool × Int) (Sum ((List Bq) × Int) (Sum ((List (List Bq)) × Int × Int) Bool)))):Prop :=
 if x9408 < (r8307.length:Int) then
  if (x9409.length:Int)=0 then
   (0≤x8817∧x8817 < (x456.length:Int)) ∧
   (0≤x9408∧x9408 < (r8307.length:Int)) ∧
   ∃ r9615:List Int,(Ld (ix x456 x8817) (ix r8307 x9408) r9615) ∧
   o4=.inl (w64 (x9408 + 1),r9615)
  else
   Bl (fun (s:(List Int) × Int) o=>Ew x9409 x9408 x8816 x8817 s.1 s.2 o) (x8810,0) o4
 else
  if (x9409.length:Int)=0 then
   Ku x9409 x9408 x8817 x8810 false o4
  else
   Ku x9409 x9408 x8817 x8810 x8816 o4
def Ej (x456:List (List Bq)) (r8307:List Int) (x6742:List Bq) (x6751:Int) (x8810:List Int) (x8815:Int) (x8816:Bool) (x8817:Int) (o3:Sum ((List Int) × Int × Bool × Int) (Sum ((List Bq) × Int) (Sum ((List (List Bq)) × Int × Int) Bool))):Prop :=
 if x8817 < (x456.length:Int) then
  Bl (fun (s:Int × (List Int)) o=>Dz r8307 x8817 x456 x8816 x8810 s.1 s.2 o) (x8815,([]:List Int)) o3
 else
  if x8816=true then
   ∃ x9798:List Bq,(x9798=x6742++([(⟨x8810⟩:Bq)]:List Bq)) ∧
   (x9798.length * 24≤211106232532992) ∧
   o3=.inr (.inl (x9798,w64 (x6751 + 1)))
  else
   o3=.inr (.inl (x6742,w64 (x6751 + 1)))
def En (x10:List Az) (r111:List Bq) (x456:List (List Bq)) (r87:List Bq) (x6742:List Bq) (x6751:Int) (o2:Sum ((List Bq) × Int) (Sum ((List (List Bq)) × Int × Int) Bool)):Prop :=
 if x6751 < (x10.length:Int) then
  ∃ r8286:List Int,(Ld r111 x6751 r8286) ∧
  ∀ b8298:Bool,(b8298=true↔r8286=[]) →
  if b8298=true then
   o2=.inl (x6742,w64 (x6751 + 1))
  else
   ∃ r8307:List Int,(Yc x10 x6751 r8307) ∧
   Bl (fun (s:(List Int) × Int × Bool × Int) o=>Ej x456 r8307 x6742 x6751 s.1 s.2.1 s.2.2.1 s.2.2.2 o) (([x6751]:List Int),0,true,0) o2
 else
  ∃ r9807:Bool,(Kq r87 x6742 r9807) ∧
  o2=.inr (.inr (r9807))
def Fz (x1:Ar) (x10:List Az) (x15:ByteArray) (r111:List Bq) (r87:List Bq) (x456:List (List Bq)) (x465:Int) (x466:Int) (o1:Sum ((List (List Bq)) × Int × Int) Bool):Prop :=
 if x466 < (ix x1.nodes 0).kids then
  ∃ r5146:Ar × Int,(Ru x1.nodes x465 r5146) ∧
  ∃ r5166:List Bq,(Qx r5146.1 x10 x15 r5166) ∧
  ∃ x5193:List (List Bq),(x5193=x456++([r5166]:List (List Bq))) ∧
  (x5193.length * 24≤211106232532992) ∧
  o1=.inl (x5193,w64 (x465 + r5146.2),w64 (x466 + 1))
 else
  Bl (fun (s:(List Bq) × Int) o=>En x10 r111 x456 r87 s.1 s.2 o) (([]:List Bq),0) o1
def Fv (x1:Ar) (x10:List Az) (x15:ByteArray) (x65:Bool) (r:Bool):Prop :=
 if x65=true then
  ∃ r70:List Bq,(Qx x1 x10 x15 r70) ∧
  r=((r70.length:Int) == 0)
 else
  ∃ r87:List Bq,(Qx (⟨x1.nodes,([]:List Bh)⟩:Ar) x10 x15 r87) ∧
  (0≤(0:Int)∧(0:Int) < (x1.nodes.length:Int)) ∧
  ∃ r111:List Bq,(Qx (⟨([(⟨(ix x1.nodes 0).name,(ix x1.nodes 0).lit,(ix x1.nodes 0).field,(ix x1.nodes 0).capture,0⟩:Ag)]:List Ag),([]:List Bh)⟩:Ar) x10 x15 r111) ∧
  Bl (fun (s:(List (List Bq)) × Int × Int) o=>Fz x1 x10 x15 r111 r87 s.1 s.2.1 s.2.2 o) (([]:List (List Bq)),1,0) r
def Fq (x1:Ar) (x10:List Az) (x15:ByteArray) (x45:Bool) (r:Bool):Prop :=
 if x45=true then
  r=true
 else
  ∃ r9818:Bool,(Qn x1 r9818) ∧
  if r9818=true then
   ∃ r9827:Int,(Wy x10 r9827) ∧
   Fv x1 x10 x15 (decide (r9827 < 0)) r
  else
   Fv x1 x10 x15 true r
def N7 (x1:Ar) (x10:List Az) (x15:ByteArray) (r:Bool):Prop :=
 ∃ r21:Bool,(Ot  r21) ∧
 if r21=true then
  ∃ r9835:Bool,(Pq x1.nodes r9835) ∧
  if r9835=true then
   Fq x1 x10 x15 true r
  else
   ∃ r9844:Bool,(Nh x10 r9844) ∧
   Fq x1 x10 x15 r9844 r
 else
  r=false
end Go.Proofs.YtjookebbmfiidaaDoor.R
