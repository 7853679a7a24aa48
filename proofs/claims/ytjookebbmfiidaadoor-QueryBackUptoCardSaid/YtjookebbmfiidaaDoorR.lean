/- What the functions answer, as plain relations, printed by my own tool off the program's translation. No condition. -/
import Derived.Test.YtjookebbmfiidaaDoorP0
import Derived.Lib.ValidU
set_option linter.unusedVariables false
namespace Go.Proofs.YtjookebbmfiidaaDoor.R
open Go.Proofs.YtjookebbmfiidaaDoor.B
structure Ae where
 name : ByteArray
 lit : Bool
 field : ByteArray
 capture : ByteArray
 kids : Int
 deriving Inhabited, DecidableEq
structure As where
 name : ByteArray
 named : Bool
 field : ByteArray
 from_ : Int
 to : Int
 kids : Int
 leaf : Int
 deriving Inhabited, DecidableEq
structure Ax where
 not : Bool
 a : ByteArray
 b : ByteArray
 text : ByteArray
 deriving Inhabited, DecidableEq
structure Aj where
 nodes : List Ae
 conds : List Ax
 deriving Inhabited, DecidableEq
structure Af where
 kind : Int
 text : ByteArray
 n : Int
 at_ : Int
 deriving Inhabited, DecidableEq
structure Ln where
 node : As
 kids : List Ln
 at_ : Int
instance : Inhabited Ln := ⟨⟨default, [], default⟩⟩
structure Cd where
 nodes : List Int
 deriving Inhabited, DecidableEq
structure Cm where
 nodes : List As
 parent : List Int
 end_ : List Int
 ok : Bool
 deriving Inhabited, DecidableEq
structure Au where
 nodes : List Ae
 tree : List As
 of : List (List Int)
 known : List Bool
 deriving Inhabited, DecidableEq
structure Ag where
 words : List Af
 at_ : Int
 end_ : Int
 q : Aj
 code : Int
 place : Int
 deriving Inhabited, DecidableEq
def Cz (x40 : Int) (x1 : List Ae) (x207 : List Int) (o2 : Sum (List Int) (Sum ((List Int) × Int) Bool)) : Prop :=
 if (x207.length : Int) > 0 then
  (0 ≤ w64 ((x207.length : Int) - 1) ∧ w64 ((x207.length : Int) - 1) < (x207.length : Int)) ∧
  if ix x207 (w64 ((x207.length : Int) - 1)) ≤ 0 then
   (0 ≤ (0 : Int) ∧ (0 : Int) ≤ w64 ((x207.length : Int) - 1) ∧ w64 ((x207.length : Int) - 1) ≤ (x207.length : Int)) ∧
   ∃ x256 : List Int, (x256 = x207.take (w64 ((x207.length : Int) - 1) : Int).toNat) ∧
   o2 = .inl x256
  else
   ∃ x260 : List Int, (x260 = x207.set (w64 ((x207.length : Int) - 1) : Int).toNat (w64 ((ix x207 (w64 ((x207.length : Int) - 1))) - 1))) ∧
   (0 ≤ x40 ∧ x40 < (x1.length : Int)) ∧
   ∃ x275 : List Int, (x275 = x260 ++ ([(ix x1 x40).kids] : List Int)) ∧
   (x275.length * 8 ≤ 211106232532992) ∧
   if (x275.length : Int) > 65536 then
    o2 = .inr (.inr (true))
   else
    o2 = .inr (.inl (x275, w64 (x40 + 1)))
 else
  (0 ≤ x40 ∧ x40 < (x1.length : Int)) ∧
  ∃ x287 : List Int, (x287 = x207 ++ ([(ix x1 x40).kids] : List Int)) ∧
  (x287.length * 8 ≤ 211106232532992) ∧
  if (x287.length : Int) > 65536 then
   o2 = .inr (.inr (true))
  else
   o2 = .inr (.inl (x287, w64 (x40 + 1)))
def D0 (x1 : List Ae) (x35 : List Int) (x40 : Int) (o1 : Sum ((List Int) × Int) Bool) : Prop :=
 if x40 < (x1.length : Int) then
  B0 (fun (s : (List Int)) o => Cz x40 x1 s o) x35 o1
 else
  o1 = .inr (false)
def Ia (x1 : List Ae) (r : Bool) : Prop :=
 B0 (fun (s : (List Int) × Int) o => D0 x1 s.1 s.2 o) (([] : List Int), 0) r
def Cu (x23 : Int) (x1 : List Ae) (x24 : Int) (x48 : Bool) (o1 : Sum (Int × Int) Int) : Prop :=
 if x48 = true then
  o1 = .inr (-1)
 else
  (0 ≤ x23 ∧ x23 < (x1.length : Int)) ∧
  o1 = .inl (w64 (x23 + 1), w64 ((w64 (x24 - 1)) + ((ix x1 x23).kids)))
def D1 (x1 : List Ae) (x23 : Int) (x24 : Int) (o1 : Sum (Int × Int) Int) : Prop :=
 if x24 > 0 then
  if x23 ≥ (x1.length : Int) then
   Cu x23 x1 x24 true o1
  else
   (0 ≤ x23 ∧ x23 < (x1.length : Int)) ∧
   if (ix x1 x23).kids < 0 then
    Cu x23 x1 x24 true o1
   else
    Cu x23 x1 x24 (decide ((ix x1 x23).kids > (x1.length : Int))) o1
 else
  o1 = .inr (x23)
def K5 (x1 : List Ae) (x6 : Int) (r : Int) : Prop :=
 B0 (fun (s : Int × Int) o => D1 x1 s.1 s.2 o) (x6, 1) r
def P1 (x1 : ByteArray) (x2 : Int) (x7 : Int) (o1 : Sum Int Bool) : Prop :=
 if x7 < (x1.size : Int) then
  (0 ≤ x7 ∧ x7 < (x1.size : Int)) ∧
  if bt x1 x7 = x2 then
   o1 = .inr (true)
  else
   o1 = .inl (w64 (x7 + 1))
 else
  o1 = .inr (false)
def Jh (x1 : ByteArray) (x2 : Int) (r : Bool) : Prop :=
 B0 (fun (s : Int) o => P1 x1 x2 s o) 0 r
def O1 (x2 : Int) (x1 : ByteArray) (x3 : ByteArray) (x16 : Int) (o1 : Sum Int Int) : Prop :=
 if w64 (x2 + x16) < (x1.size : Int) then
  (0 ≤ w64 (x2 + x16) ∧ w64 (x2 + x16) < (x1.size : Int)) ∧
  ∃ r33 : Bool, (Jh x3 (bt x1 (w64 (x2 + x16))) r33) ∧
  if r33 = true then
   o1 = .inl (w64 (x16 + 1))
  else
   o1 = .inr (x16)
 else
  o1 = .inr (x16)
def N3 (x1 : ByteArray) (x2 : Int) (x3 : ByteArray) (r : Int) : Prop :=
 B0 (fun (s : Int) o => O1 x2 x1 x3 s o) 0 r
def G1 (x17 : Int) (x1 : ByteArray) (x34 : Bool) (o1 : Sum Int Int) : Prop :=
 if x34 = true then
  (0 ≤ x17 ∧ x17 < (x1.size : Int)) ∧
  if bt x1 x17 = 47 then
   o1 = .inr (w64 (x17 + 1))
  else
   if bt x1 x17 = 92 then
    if w64 (x17 + 1) < (x1.size : Int) then
     (0 ≤ w64 (x17 + 1) ∧ w64 (x17 + 1) < (x1.size : Int)) ∧
     if bt x1 (w64 (x17 + 1)) = 10 then
      o1 = .inl (w64 (x17 + 1))
     else
      o1 = .inl (w64 ((w64 (x17 + 1)) + 1))
    else
     o1 = .inl (w64 (x17 + 1))
   else
    o1 = .inl (w64 (x17 + 1))
 else
  o1 = .inr (0)
def G0 (x1 : ByteArray) (x17 : Int) (o1 : Sum Int Int) : Prop :=
 if x17 < (x1.size : Int) then
  (0 ≤ x17 ∧ x17 < (x1.size : Int)) ∧
  G1 x17 x1 ((bt x1 x17) != 10) o1
 else
  G1 x17 x1 false o1
def Lp (x1 : ByteArray) (x2 : Int) (r : Int) : Prop :=
 B0 (fun (s : Int) o => G0 x1 s o) (w64 (x2 + 1)) r
def I3 (x1 : Af) (r : Bool) : Prop :=
 if x1.kind = 1 then
  if (x1.text.size : Int) > 0 then
   if (x1.text.size : Int) ≤ 24 then
    (0 ≤ (0 : Int) ∧ (0 : Int) < (x1.text.size : Int)) ∧
    ∃ r11 : Bool, (Jh (⟨#[48, 49, 50, 51, 52, 53, 54, 55, 56, 57]⟩ : ByteArray) (bt x1.text 0) r11) ∧
    if r11 = true then
     r = false
    else
     ∃ r20 : Int, (N3 x1.text 0 (⟨#[65, 66, 67, 68, 69, 70, 71, 72, 73, 74, 75, 76, 77, 78, 79, 80, 81, 82, 83, 84, 85, 86, 87, 88, 89, 90, 97, 98, 99, 100, 101, 102, 103, 104, 105, 106, 107, 108, 109, 110, 111, 112, 113, 114, 115, 116, 117, 118, 119, 120, 121, 122, 95, 48, 49, 50, 51, 52, 53, 54, 55, 56, 57]⟩ : ByteArray) r20) ∧
     r = (r20 == (x1.text.size : Int))
   else
    r = false
  else
   r = false
 else
  if x1.kind = 2 then
   r = true
  else
   if x1.kind = 3 then
    ((⟨#[47]⟩ : ByteArray).size + x1.text.size ≤ 9223372036854775807) ∧
    (((⟨#[47]⟩ : ByteArray) ++ x1.text).size + (⟨#[47]⟩ : ByteArray).size ≤ 9223372036854775807) ∧
    ∃ r32 : Int, (Lp (((⟨#[47]⟩ : ByteArray) ++ x1.text) ++ (⟨#[47]⟩ : ByteArray)) 0 r32) ∧
    r = (r32 == ((((⟨#[47]⟩ : ByteArray) ++ x1.text) ++ (⟨#[47]⟩ : ByteArray)).size : Int))
   else
    if x1.kind = 4 then
     if x1.n ≥ 0 then
      r = decide (x1.n ≤ 65535)
     else
      r = false
    else
     if x1.kind = 5 then
      if (x1.text.size : Int) = 1 then
       (0 ≤ (0 : Int) ∧ (0 : Int) < (x1.text.size : Int)) ∧
       ∃ r45 : Bool, (Jh (⟨#[123, 125, 40, 41, 124, 42, 43, 63, 58, 59, 44, 61, 64]⟩ : ByteArray) (bt x1.text 0) r45) ∧
       r = r45
      else
       r = false
     else
      r = false
def Gn (x1 : ByteArray) (r : Bool) : Prop :=
 if x1 = (⟨#[95]⟩ : ByteArray) then
  r = false
 else
  ∃ r6 : Bool, (I3 (⟨1, x1, 0, 0⟩ : Af) r6) ∧
  r = r6
def En (x1 : Aj) (x10 : ByteArray) (x19 : Int) (o1 : Sum Int Int) : Prop :=
 if x19 < (x1.nodes.length : Int) then
  if x10 = (⟨#[]⟩ : ByteArray) then
   o1 = .inl (w64 (x19 + 1))
  else
   (0 ≤ x19 ∧ x19 < (x1.nodes.length : Int)) ∧
   if (ix x1.nodes x19).capture = x10 then
    o1 = .inr (x19)
   else
    o1 = .inl (w64 (x19 + 1))
 else
  o1 = .inr (-1)
def Ge (x1 : Aj) (x10 : ByteArray) (r : Int) : Prop :=
 B0 (fun (s : Int) o => En x1 x10 s o) 0 r
def Gt (x1 : Aj) (x239 : Int) (x425 : Bool) (o1 : Sum Int Bool) : Prop :=
 if x425 = true then
  o1 = .inr (false)
 else
  if (ix x1.nodes x239).capture = (⟨#[]⟩ : ByteArray) then
   o1 = .inl (w64 (x239 + 1))
  else
   ∃ r431 : Bool, (Gn ((ix x1.nodes x239).capture) r431) ∧
   if r431 = true then
    ∃ r440 : Int, (Ge x1 ((ix x1.nodes x239).capture) r440) ∧
    if r440 = x239 then
     o1 = .inl (w64 (x239 + 1))
    else
     o1 = .inr (false)
   else
    o1 = .inr (false)
def F5 (x1 : Aj) (x239 : Int) (x413 : Bool) (o1 : Sum Int Bool) : Prop :=
 if x413 = true then
  o1 = .inr (false)
 else
  if (ix x1.nodes x239).field = (⟨#[]⟩ : ByteArray) then
   Gt x1 x239 false o1
  else
   ∃ r450 : Bool, (Gn ((ix x1.nodes x239).field) r450) ∧
   Gt x1 x239 (!r450) o1
def Fc (x1 : Aj) (x239 : Int) (x400 : Bool) (o1 : Sum Int Bool) : Prop :=
 if x400 = true then
  o1 = .inr (false)
 else
  if ((ix x1.nodes x239).lit) = true then
   F5 x1 x239 false o1
  else
   if (ix x1.nodes x239).name = (⟨#[]⟩ : ByteArray) then
    F5 x1 x239 false o1
   else
    ∃ r460 : Bool, (Gn ((ix x1.nodes x239).name) r460) ∧
    F5 x1 x239 (!r460) o1
def F6 (x1 : Aj) (x493 : Int) (o2 : Sum Int (Sum Int Bool)) : Prop :=
 if x493 < (x1.conds.length : Int) then
  (0 ≤ x493 ∧ x493 < (x1.conds.length : Int)) ∧
  ∃ r527 : Int, (Ge x1 ((ix x1.conds x493).a) r527) ∧
  if r527 < 0 then
   o2 = .inr (.inr (false))
  else
   if (ix x1.conds x493).b = (⟨#[]⟩ : ByteArray) then
    o2 = .inl (w64 (x493 + 1))
   else
    ∃ r537 : Int, (Ge x1 ((ix x1.conds x493).b) r537) ∧
    if r537 < 0 then
     o2 = .inr (.inr (false))
    else
     if (ix x1.conds x493).text = (⟨#[]⟩ : ByteArray) then
      o2 = .inl (w64 (x493 + 1))
     else
      o2 = .inr (.inr (false))
 else
  o2 = .inr (.inr (true))
def Ff (x1 : Aj) (x239 : Int) (o1 : Sum Int Bool) : Prop :=
 if x239 < (x1.nodes.length : Int) then
  (0 ≤ x239 ∧ x239 < (x1.nodes.length : Int)) ∧
  if ((ix x1.nodes x239).lit) = true then
   if (ix x1.nodes x239).name = (⟨#[]⟩ : ByteArray) then
    Fc x1 x239 true o1
   else
    Fc x1 x239 (((ix x1.nodes x239).kids) != 0) o1
  else
   Fc x1 x239 false o1
 else
  B0 (fun (s : Int) o => F6 x1 s o) 0 o1
def Dk (x1 : Aj) (x84 : Bool) (r : Bool) : Prop :=
 if x84 = true then
  r = false
 else
  B0 (fun (s : Int) o => Ff x1 s o) 0 r
def K4 (x1 : Aj) (r : Bool) : Prop :=
 if (x1.nodes.length : Int) > 32 then
  Dk x1 true r
 else
  if (x1.conds.length : Int) > 16 then
   Dk x1 true r
  else
   ∃ r549 : Int, (K5 x1.nodes 0 r549) ∧
   Dk x1 (r549 != (x1.nodes.length : Int)) r
def E5 (x1 : List Ae) (x6 : Int) (rc_query_subtree : (List Ae) → Int → Int → Prop) (x26 : Int) (x27 : Int) (o1 : Sum (Int × Int) Int) : Prop :=
 if x27 < (ix x1 x6).kids then
  ∃ r42 : Int, (rc_query_subtree x1 x26 r42) ∧
  if r42 < 0 then
   o1 = .inr (-1)
  else
   o1 = .inl (r42, w64 (x27 + 1))
 else
  o1 = .inr (x26)
def Gx (x6 : Int) (x1 : List Ae) (rc_query_subtree : (List Ae) → Int → Int → Prop) (x11 : Bool) (r : Int) : Prop :=
 if x11 = true then
  r = -1
 else
  (0 ≤ x6 ∧ x6 < (x1.length : Int)) ∧
  B0 (fun (s : Int × Int) o => E5 x1 x6 rc_query_subtree s.1 s.2 o) (w64 (x6 + 1), 0) r
def H4 (rc_query_subtree : (List Ae) → Int → Int → Prop) (x1 : List Ae) (x6 : Int) (r : Int) : Prop :=
 if x6 ≥ (x1.length : Int) then
  Gx x6 x1 rc_query_subtree true r
 else
  (0 ≤ x6 ∧ x6 < (x1.length : Int)) ∧
  Gx x6 x1 rc_query_subtree (decide ((ix x1 x6).kids < 0)) r
def Hj : Nat → (List Ae) → Int → Int → Prop
 | 0 => fun _ _ _ => False
 | n + 1 => H4 (Hj n)
def Pe (x1 : List Ae) (x6 : Int) (r : Int) : Prop := ∃ n, Hj n x1 x6 r
def G3 (x1 : Int) (r : Bool) : Prop :=
 if x1 ≥ 48 then
  r = decide (x1 ≤ 57)
 else
  r = false
def Hz (x1 : Int) (r : Bool) : Prop :=
 if x1 ≥ 97 then
  if x1 ≤ 122 then
   r = true
  else
   if x1 ≥ 65 then
    if x1 ≤ 90 then
     r = true
    else
     r = (x1 == 95)
   else
    r = (x1 == 95)
 else
  if x1 ≥ 65 then
   if x1 ≤ 90 then
    r = true
   else
    r = (x1 == 95)
  else
   r = (x1 == 95)
def Md (x1 : ByteArray) (x2 : ByteArray) (r : Bool) : Prop :=
 (x2.size = 1) ∧ r = hasB x1 x2
def H0 (x1 : Af) (x40 : Int) (o1 : Sum Int Bool) : Prop :=
 if x40 < (x1.text.size : Int) then
  (0 ≤ x40 ∧ x40 < (x1.text.size : Int)) ∧
  ∃ r66 : Bool, (Hz (bt x1.text x40) r66) ∧
  if r66 = true then
   o1 = .inl (w64 (x40 + 1))
  else
   ∃ r75 : Bool, (G3 (bt x1.text x40) r75) ∧
   if r75 = true then
    o1 = .inl (w64 (x40 + 1))
   else
    o1 = .inr (false)
 else
  o1 = .inr (true)
def Ha (x1 : Af) (x17 : Bool) (r : Bool) : Prop :=
 if x17 = true then
  r = false
 else
  B0 (fun (s : Int) o => H0 x1 s o) 0 r
def Ei (x1 : Af) (x105 : Int) (x120 : Bool) (o1 : Sum Int Bool) : Prop :=
 if x120 = true then
  o1 = .inr (false)
 else
  if bt x1.text x105 = 92 then
   if w64 (x105 + 1) = (x1.text.size : Int) then
    o1 = .inr (false)
   else
    (0 ≤ w64 (x105 + 1) ∧ w64 (x105 + 1) < (x1.text.size : Int)) ∧
    if bt x1.text (w64 (x105 + 1)) = 10 then
     o1 = .inr (false)
    else
     o1 = .inl (w64 ((w64 (x105 + 1)) + 1))
  else
   o1 = .inl (w64 (x105 + 1))
def F2 (x1 : Af) (x105 : Int) (o1 : Sum Int Bool) : Prop :=
 if x105 < (x1.text.size : Int) then
  (0 ≤ x105 ∧ x105 < (x1.text.size : Int)) ∧
  if bt x1.text x105 = 47 then
   Ei x1 x105 ((bt x1.text x105) == 47) o1
  else
   Ei x1 x105 ((bt x1.text x105) == 10) o1
 else
  o1 = .inr (true)
def Ku (x1 : Af) (r : Bool) : Prop :=
 if x1.kind = 1 then
  if x1.text = (⟨#[]⟩ : ByteArray) then
   Ha x1 true r
  else
   if (x1.text.size : Int) > 24 then
    Ha x1 true r
   else
    (0 ≤ (0 : Int) ∧ (0 : Int) < (x1.text.size : Int)) ∧
    ∃ r87 : Bool, (G3 (bt x1.text 0) r87) ∧
    Ha x1 r87 r
 else
  if x1.kind = 2 then
   r = true
  else
   if x1.kind = 3 then
    B0 (fun (s : Int) o => F2 x1 s o) 0 r
   else
    if x1.kind = 4 then
     if x1.n ≥ 0 then
      r = decide (x1.n ≤ 65535)
     else
      r = false
    else
     if x1.kind = 5 then
      if (x1.text.size : Int) = 1 then
       ∃ r133 : Bool, (Md (⟨#[123, 125, 40, 41, 124, 42, 43, 63, 58, 59, 44, 61, 64]⟩ : ByteArray) x1.text r133) ∧
       r = r133
      else
       r = false
     else
      r = false
def H9 (x1 : ByteArray) (x105 : Int) (x100 : List Int) (x247 : Bool) (o1 : Sum ((List Int) × Int) ByteArray) : Prop :=
 if x247 = true then
  (0 ≤ IntKind.u8.wrap (Int.tdiv (bt x1 x105) 16) ∧ IntKind.u8.wrap (Int.tdiv (bt x1 x105) 16) < ((⟨#[48, 49, 50, 51, 52, 53, 54, 55, 56, 57, 97, 98, 99, 100, 101, 102]⟩ : ByteArray).size : Int)) ∧
  (0 ≤ Int.tmod (bt x1 x105) 16 ∧ Int.tmod (bt x1 x105) 16 < ((⟨#[48, 49, 50, 51, 52, 53, 54, 55, 56, 57, 97, 98, 99, 100, 101, 102]⟩ : ByteArray).size : Int)) ∧
  ∃ x257 : List Int, (x257 = x100 ++ ([92, 120, bt (⟨#[48, 49, 50, 51, 52, 53, 54, 55, 56, 57, 97, 98, 99, 100, 101, 102]⟩ : ByteArray) (IntKind.u8.wrap (Int.tdiv (bt x1 x105) 16)), bt (⟨#[48, 49, 50, 51, 52, 53, 54, 55, 56, 57, 97, 98, 99, 100, 101, 102]⟩ : ByteArray) (Int.tmod (bt x1 x105) 16)] : List Int)) ∧
  (x257.length * 1 ≤ 211106232532992) ∧
  o1 = .inl (x257, w64 (x105 + 1))
 else
  ∃ x280 : List Int, (x280 = x100 ++ ([bt x1 x105] : List Int)) ∧
  (x280.length * 1 ≤ 211106232532992) ∧
  o1 = .inl (x280, w64 (x105 + 1))
def Ij (x100 : List Int) (x1 : ByteArray) (x105 : Int) (x204 : Bool) (o1 : Sum ((List Int) × Int) ByteArray) : Prop :=
 if x204 = true then
  ∃ x212 : List Int, (x212 = x100 ++ ([92, bt x1 x105] : List Int)) ∧
  (x212.length * 1 ≤ 211106232532992) ∧
  o1 = .inl (x212, w64 (x105 + 1))
 else
  if bt x1 x105 = 10 then
   ∃ x222 : List Int, (x222 = x100 ++ ([92, 110] : List Int)) ∧
   (x222.length * 1 ≤ 211106232532992) ∧
   o1 = .inl (x222, w64 (x105 + 1))
  else
   if bt x1 x105 = 9 then
    ∃ x232 : List Int, (x232 = x100 ++ ([92, 116] : List Int)) ∧
    (x232.length * 1 ≤ 211106232532992) ∧
    o1 = .inl (x232, w64 (x105 + 1))
   else
    if bt x1 x105 = 13 then
     ∃ x242 : List Int, (x242 = x100 ++ ([92, 114] : List Int)) ∧
     (x242.length * 1 ≤ 211106232532992) ∧
     o1 = .inl (x242, w64 (x105 + 1))
    else
     if bt x1 x105 < 32 then
      H9 x1 x105 x100 true o1
     else
      H9 x1 x105 x100 (decide (bt x1 x105 > 126)) o1
def Ey (x1 : ByteArray) (x100 : List Int) (x105 : Int) (o1 : Sum ((List Int) × Int) ByteArray) : Prop :=
 if x105 < (x1.size : Int) then
  (0 ≤ x105 ∧ x105 < (x1.size : Int)) ∧
  if bt x1 x105 = 34 then
   Ij x100 x1 x105 true o1
  else
   Ij x100 x1 x105 ((bt x1 x105) == 92) o1
 else
  ∃ x291 : List Int, (x291 = x100 ++ ([34] : List Int)) ∧
  (x291.length * 1 ≤ 211106232532992) ∧
  o1 = .inr (Ih x291)
def Mo (x1 : ByteArray) (r : ByteArray) : Prop :=
 B0 (fun (s : (List Int) × Int) o => Ey x1 s.1 s.2 o) (([34] : List Int), 0) r
def strconv_Itoa (x1 : Int) (r : ByteArray) : Prop :=
 (-9223372036854775808 ≤ x1 ∧ x1 ≤ 9223372036854775807) ∧ r = itoaB x1
def Kx (x1 : Af) (r : ByteArray) : Prop :=
 ∃ r7 : Bool, (Ku x1 r7) ∧
 if r7 = true then
  if x1.kind = 2 then
   ∃ r17 : ByteArray, (Mo x1.text r17) ∧
   r = r17
  else
   if x1.kind = 3 then
    ((⟨#[47]⟩ : ByteArray).size + x1.text.size ≤ 9223372036854775807) ∧
    (((⟨#[47]⟩ : ByteArray) ++ x1.text).size + (⟨#[47]⟩ : ByteArray).size ≤ 9223372036854775807) ∧
    r = ((⟨#[47]⟩ : ByteArray) ++ x1.text) ++ (⟨#[47]⟩ : ByteArray)
   else
    if x1.kind = 4 then
     ∃ r29 : ByteArray, (strconv_Itoa x1.n r29) ∧
     r = r29
    else
     r = x1.text
 else
  r = (⟨#[]⟩ : ByteArray)
def Iw (x1 : ByteArray) (r : Bool) : Prop :=
 if x1 = (⟨#[95]⟩ : ByteArray) then
  r = false
 else
  ∃ r6 : ByteArray, (Kx (⟨1, x1, 0, 0⟩ : Af) r6) ∧
  r = (!(seq r6 (⟨#[]⟩ : ByteArray)))
def Fb (x1 : Ae) (x17 : Bool) (r : Bool) : Prop :=
 if x17 = true then
  r = false
 else
  if x1.field = (⟨#[]⟩ : ByteArray) then
   if x1.capture = (⟨#[]⟩ : ByteArray) then
    r = true
   else
    ∃ r24 : Bool, (Iw x1.capture r24) ∧
    r = r24
  else
   ∃ r32 : Bool, (Iw x1.field r32) ∧
   if r32 = true then
    if x1.capture = (⟨#[]⟩ : ByteArray) then
     r = true
    else
     ∃ r42 : Bool, (Iw x1.capture r42) ∧
     r = r42
   else
    r = false
def Mr (x1 : Ae) (r : Bool) : Prop :=
 if x1.lit = true then
  if x1.name = (⟨#[]⟩ : ByteArray) then
   Fb x1 true r
  else
   if x1.kids = 0 then
    Fb x1 false r
   else
    Fb x1 true r
 else
  if x1.name = (⟨#[]⟩ : ByteArray) then
   Fb x1 false r
  else
   ∃ r54 : Bool, (Iw x1.name r54) ∧
   Fb x1 (!r54) r
def M8 (x1 : Ae) (x2 : ByteArray) (r : Bool × ByteArray) : Prop :=
 r = ((seq x1.capture x2), x2)
def Bj (x1 : List Ae) (x22 : Int) (x23 : ByteArray) (o1 : Sum (Int × ByteArray) (Int × ByteArray)) : Prop :=
 if x22 < (x1.length : Int) then
  (0 ≤ x22 ∧ x22 < (x1.length : Int)) ∧
  ∃ r42 : Bool × ByteArray, (M8 (ix x1 x22) x23 r42) ∧
  if r42.1 = true then
   o1 = .inr ((x22, r42.2))
  else
   o1 = .inl (w64 (x22 + 1), r42.2)
 else
  o1 = .inr ((-1, x23))
def Cp (x1 : List Ae) (x6 : ByteArray) (r : Int × ByteArray) : Prop :=
 B0 (fun (s : Int × ByteArray) o => Bj x1 s.1 s.2 o) (0, x6) r
def Dg (x1 : Aj) (x10 : ByteArray) (r : Int) : Prop :=
 if x10 = (⟨#[]⟩ : ByteArray) then
  r = -1
 else
  ∃ r19 : Int × ByteArray, (Cp x1.nodes x10 r19) ∧
  r = r19.1
def Fj (x1 : Aj) (x340 : Int) (o2 : Sum Int (Sum Int Bool)) : Prop :=
 if x340 < (x1.conds.length : Int) then
  (0 ≤ x340 ∧ x340 < (x1.conds.length : Int)) ∧
  ∃ r374 : Int, (Dg x1 ((ix x1.conds x340).a) r374) ∧
  if r374 < 0 then
   o2 = .inr (.inr (false))
  else
   if (ix x1.conds x340).b = (⟨#[]⟩ : ByteArray) then
    o2 = .inl (w64 (x340 + 1))
   else
    ∃ r384 : Int, (Dg x1 ((ix x1.conds x340).b) r384) ∧
    if r384 < 0 then
     o2 = .inr (.inr (false))
    else
     if (ix x1.conds x340).text = (⟨#[]⟩ : ByteArray) then
      o2 = .inl (w64 (x340 + 1))
     else
      o2 = .inr (.inr (false))
 else
  o2 = .inr (.inr (true))
def Fi (x1 : Aj) (x188 : Int) (o1 : Sum Int Bool) : Prop :=
 if x188 < (x1.nodes.length : Int) then
  (0 ≤ x188 ∧ x188 < (x1.nodes.length : Int)) ∧
  ∃ r298 : Bool, (Mr (ix x1.nodes x188) r298) ∧
  if r298 = true then
   if (ix x1.nodes x188).capture = (⟨#[]⟩ : ByteArray) then
    o1 = .inl (w64 (x188 + 1))
   else
    ∃ r308 : Int, (Dg x1 ((ix x1.nodes x188).capture) r308) ∧
    if r308 = x188 then
     o1 = .inl (w64 (x188 + 1))
    else
     o1 = .inr (false)
  else
   o1 = .inr (false)
 else
  B0 (fun (s : Int) o => Fj x1 s o) 0 o1
def Ek (x1 : Aj) (x84 : Bool) (r : Bool) : Prop :=
 if x84 = true then
  r = false
 else
  B0 (fun (s : Int) o => Fi x1 s o) 0 r
def Iv (x1 : Aj) (r : Bool) : Prop :=
 if (x1.nodes.length : Int) > 32 then
  Ek x1 true r
 else
  if (x1.conds.length : Int) > 16 then
   Ek x1 true r
  else
   ∃ r396 : Int, (Pe x1.nodes 0 r396) ∧
   Ek x1 (r396 != (x1.nodes.length : Int)) r
def Eg (x355 : Int) (x654 : List Int) (x766 : List Int) (x771 : List Int) (x776 : List Int) (o2 : Sum ((List Int) × (List Int) × (List Int)) (Sum ((List Int) × (List Int) × Int × (List Int) × (List Int)) Cm)) : Prop :=
 if (x766.length : Int) > 0 then
  (0 ≤ w64 ((x771.length : Int) - 1) ∧ w64 ((x771.length : Int) - 1) < (x771.length : Int)) ∧
  if ix x771 (w64 ((x771.length : Int) - 1)) = 0 then
   (0 ≤ w64 ((x766.length : Int) - 1) ∧ w64 ((x766.length : Int) - 1) < (x766.length : Int)) ∧
   (0 ≤ ix x766 (w64 ((x766.length : Int) - 1)) ∧ ix x766 (w64 ((x766.length : Int) - 1)) < (x776.length : Int)) ∧
   ∃ x811 : List Int, (x811 = x776.set (ix x766 (w64 ((x766.length : Int) - 1)) : Int).toNat (w64 (x355 + 1))) ∧
   (0 ≤ (0 : Int) ∧ (0 : Int) ≤ w64 ((x766.length : Int) - 1) ∧ w64 ((x766.length : Int) - 1) ≤ (x766.length : Int)) ∧
   ∃ x818 : List Int, (x818 = x766.take (w64 ((x766.length : Int) - 1) : Int).toNat) ∧
   (0 ≤ (0 : Int) ∧ (0 : Int) ≤ w64 ((x771.length : Int) - 1) ∧ w64 ((x771.length : Int) - 1) ≤ (x771.length : Int)) ∧
   ∃ x823 : List Int, (x823 = x771.take (w64 ((x771.length : Int) - 1) : Int).toNat) ∧
   o2 = .inl (x818, x823, x811)
  else
   o2 = .inr (.inl (x766, x771, w64 (x355 + 1), x654, x776))
 else
  o2 = .inr (.inl (x766, x771, w64 (x355 + 1), x654, x776))
def Eh (x1 : List As) (x355 : Int) (x358 : List Int) (x345 : List Int) (x652 : List Int) (x654 : List Int) (o1 : Sum ((List Int) × (List Int) × Int × (List Int) × (List Int)) Cm) : Prop :=
 if (ix x1 x355).kids < 0 then
  o1 = .inr ((⟨x1, x654, x358, false⟩ : Cm))
 else
  ∃ x663 : List Int, (x663 = x345 ++ ([x355] : List Int)) ∧
  (x663.length * 8 ≤ 211106232532992) ∧
  ∃ x672 : List Int, (x672 = x652 ++ ([(ix x1 x355).kids] : List Int)) ∧
  (x672.length * 8 ≤ 211106232532992) ∧
  B0 (fun (s : (List Int) × (List Int) × (List Int)) o => Eg x355 x654 s.1 s.2.1 s.2.2 o) (x663, x672, x358) o1
def Eu (x1 : List As) (x345 : List Int) (x350 : List Int) (x355 : Int) (x356 : List Int) (x358 : List Int) (o1 : Sum ((List Int) × (List Int) × Int × (List Int) × (List Int)) Cm) : Prop :=
 if x355 < (x1.length : Int) then
  (0 ≤ x355 ∧ x355 < (x1.length : Int)) ∧
  (0 ≤ x355 ∧ x355 < (x356.length : Int)) ∧
  ∃ x636 : List Int, (x636 = x356.set (x355 : Int).toNat (-1)) ∧
  if (x345.length : Int) > 0 then
   (0 ≤ w64 ((x345.length : Int) - 1) ∧ w64 ((x345.length : Int) - 1) < (x345.length : Int)) ∧
   (0 ≤ x355 ∧ x355 < (x636.length : Int)) ∧
   ∃ x891 : List Int, (x891 = x636.set (x355 : Int).toNat (ix x345 (w64 ((x345.length : Int) - 1)))) ∧
   (0 ≤ w64 ((x350.length : Int) - 1) ∧ w64 ((x350.length : Int) - 1) < (x350.length : Int)) ∧
   ∃ x897 : List Int, (x897 = x350.set (w64 ((x350.length : Int) - 1) : Int).toNat (w64 ((ix x350 (w64 ((x350.length : Int) - 1))) - 1))) ∧
   Eh x1 x355 x358 x345 x897 x891 o1
  else
   Eh x1 x355 x358 x345 x350 x636 o1
 else
  o1 = .inr ((⟨x1, x356, x358, ((x345.length : Int) == 0)⟩ : Cm))
def Kq (x1 : List As) (r : Cm) : Prop :=
 (0 ≤ (x1.length : Int) ∧ (x1.length : Int) * 8 ≤ 281474976710656) ∧
 ∃ x12 : List Int, (x12 = List.replicate ((x1.length : Int) : Int).toNat (0 : Int)) ∧
 ∃ x17 : List Int, (x17 = List.replicate ((x1.length : Int) : Int).toNat (0 : Int)) ∧
 B0 (fun (s : (List Int) × (List Int) × Int × (List Int) × (List Int)) o => Eu x1 s.1 s.2.1 s.2.2.1 s.2.2.2.1 s.2.2.2.2 o) (([] : List Int), ([] : List Int), 0, x12, x17) r
def Cq (x15 : Int) (x1 : Cm) (x32 : Int) (x33 : List Int) (o1 : Sum (Int × (List Int)) (List Int)) : Prop :=
 if x32 < x15 then
  ∃ x57 : List Int, (x57 = x33 ++ ([x32] : List Int)) ∧
  (x57.length * 8 ≤ 211106232532992) ∧
  (0 ≤ x32 ∧ x32 < (x1.end_.length : Int)) ∧
  o1 = .inl (ix x1.end_ x32, x57)
 else
  o1 = .inr (x33)
def Fw (x1 : Cm) (x14 : Int) (x15 : Int) (r : List Int) : Prop :=
 B0 (fun (s : Int × (List Int)) o => Cq x15 x1 s.1 s.2 o) (x14, ([] : List Int)) r
def O7 (x1 : List As) (r : List Int) : Prop :=
 ∃ r9 : Cm, (Kq x1 r9) ∧
 if r9.ok = true then
  ∃ r36 : List Int, (Fw r9 0 (x1.length : Int) r36) ∧
  r = r36
 else
  r = ([] : List Int)
def Np (x1 : List As) (r : Int) : Prop :=
 ∃ r9 : Cm, (Kq x1 r9) ∧
 if r9.ok = true then
  ∃ r34 : List Int, (O7 x1 r34) ∧
  r = (r34.length : Int)
 else
  r = -1
def Iz (x1 : Cm) (x14 : Int) (r : Bool) : Prop :=
 if x1.ok = true then
  if x14 ≥ 0 then
   r = decide (x14 < (x1.nodes.length : Int))
  else
   r = false
 else
  r = false
def Pr (x1 : List As) (x6 : Int) (r : List Int) : Prop :=
 ∃ r10 : Cm, (Kq x1 r10) ∧
 ∃ r36 : Bool, (Iz r10 x6 r36) ∧
 if r36 = true then
  (0 ≤ x6 ∧ x6 < (r10.end_.length : Int)) ∧
  ∃ r46 : List Int, (Fw r10 (w64 (x6 + 1)) (ix r10.end_ x6) r46) ∧
  r = r46
 else
  r = ([] : List Int)
def H6 (x1 : Au) (x26 : Int) (r : (List Int) × Au) : Prop :=
 (0 ≤ x26 ∧ x26 < (x1.known.length : Int)) ∧
 if (ix x1.known x26) = true then
  (0 ≤ x26 ∧ x26 < (x1.of.length : Int)) ∧
  r = (ix x1.of x26, x1)
 else
  ∃ r41 : List Int, (Pr x1.tree x26 r41) ∧
  (0 ≤ x26 ∧ x26 < (x1.of.length : Int)) ∧
  ∃ x66 : List (List Int), (x66 = x1.of.set (x26 : Int).toNat r41) ∧
  ∃ x72 : List Bool, (x72 = x1.known.set (x26 : Int).toNat true) ∧
  (0 ≤ x26 ∧ x26 < (x66.length : Int)) ∧
  r = (ix x66 x26, (⟨x1.nodes, x1.tree, x66, x72⟩ : Au))
def Cg (x10 : List Int) (rc_query_matcher_fits : Au → Int → Int → ((List Int) × Au) → Prop) (x19 : Au) (x9 : Int) (x1 : List Int) (rc_query_matcher_fits_1 : (List Int) → Int → Int → (List Int) → Au → ((List Int) × Au) → Prop) (x8 : Int) (x236 : Int) (x237 : List (List Int)) (x246 : List Bool) (o1 : Sum (Int × (List (List Int)) × (List Bool)) ((List Int) × Au)) : Prop :=
 if x236 < (x10.length : Int) then
  (0 ≤ x236 ∧ x236 < (x10.length : Int)) ∧
  ∃ r447 : (List Int) × Au, (rc_query_matcher_fits (⟨x19.nodes, x19.tree, x237, x246⟩ : Au) x9 (ix x10 x236) r447) ∧
  ∀ b472 : Bool, (b472 = true ↔ r447.1 = []) →
  if b472 = true then
   o1 = .inl (w64 (x236 + 1), r447.2.of, r447.2.known)
  else
   ∃ x478 : List Int, (x478 = x1 ++ r447.1) ∧
   (x478.length * 8 ≤ 211106232532992) ∧
   (0 ≤ w64 (x236 + 1) ∧ w64 (x236 + 1) ≤ (x10.length : Int) ∧ (x10.length : Int) ≤ (x10.length : Int)) ∧
   ∃ r486 : (List Int) × Au, (rc_query_matcher_fits_1 x478 (w64 (x8 - 1)) (w64 (x9 + (r447.1.length : Int))) (x10.drop (w64 (x236 + 1) : Int).toNat) (⟨x19.nodes, x19.tree, r447.2.of, r447.2.known⟩ : Au) r486) ∧
   o1 = .inr ((r486.1, (⟨x19.nodes, x19.tree, r486.2.of, r486.2.known⟩ : Au)))
 else
  o1 = .inr ((([] : List Int), (⟨x19.nodes, x19.tree, x237, x246⟩ : Au)))
def Hg (rc_query_matcher_fits_1 : (List Int) → Int → Int → (List Int) → Au → ((List Int) × Au) → Prop) (rc_query_matcher_fits : Au → Int → Int → ((List Int) × Au) → Prop) (x1 : List Int) (x8 : Int) (x9 : Int) (x10 : List Int) (x19 : Au) (r : (List Int) × Au) : Prop :=
 if x8 = 0 then
  (x1 ≠ []) ∧
  r = (x1, x19)
 else
  B0 (fun (s : Int × (List (List Int)) × (List Bool)) o => Cg x10 rc_query_matcher_fits x19 x9 x1 rc_query_matcher_fits_1 x8 s.1 s.2.1 s.2.2 o) (0, x19.of, x19.known) r
def Bh (x1 : Au) (x27 : Int) (rc_query_matcher_fits_1 : (List Int) → Int → Int → (List Int) → Au → ((List Int) × Au) → Prop) (x26 : Int) (x61 : Bool) (r : (List Int) × Au) : Prop :=
 if x61 = true then
  r = (([] : List Int), x1)
 else
  ∃ r66 : (List Int) × Au, (H6 x1 x27 r66) ∧
  ∃ r97 : (List Int) × Au, (rc_query_matcher_fits_1 ([x27] : List Int) ((ix x1.nodes x26).kids) (w64 (x26 + 1)) r66.1 (⟨x1.nodes, x1.tree, r66.2.of, r66.2.known⟩ : Au) r97) ∧
  r = (r97.1, (⟨x1.nodes, x1.tree, r97.2.of, r97.2.known⟩ : Au))
def Ep (rc_query_matcher_fits_1 : (List Int) → Int → Int → (List Int) → Au → ((List Int) × Au) → Prop) (rc_query_matcher_fits : Au → Int → Int → ((List Int) × Au) → Prop) (x1 : Au) (x26 : Int) (x27 : Int) (r : (List Int) × Au) : Prop :=
 (0 ≤ x26 ∧ x26 < (x1.nodes.length : Int)) ∧
 (0 ≤ x27 ∧ x27 < (x1.tree.length : Int)) ∧
 if ((ix x1.nodes x26).lit) = true then
  if ((ix x1.tree x27).named) = true then
   Bh x1 x27 rc_query_matcher_fits_1 x26 true r
  else
   if (ix x1.tree x27).name = (ix x1.nodes x26).name then
    if (ix x1.nodes x26).field = (⟨#[]⟩ : ByteArray) then
     Bh x1 x27 rc_query_matcher_fits_1 x26 false r
    else
     Bh x1 x27 rc_query_matcher_fits_1 x26 (!(seq ((ix x1.nodes x26).field) ((ix x1.tree x27).field))) r
   else
    Bh x1 x27 rc_query_matcher_fits_1 x26 true r
 else
  if (ix x1.nodes x26).name = (⟨#[]⟩ : ByteArray) then
   if (ix x1.nodes x26).field = (⟨#[]⟩ : ByteArray) then
    Bh x1 x27 rc_query_matcher_fits_1 x26 false r
   else
    Bh x1 x27 rc_query_matcher_fits_1 x26 (!(seq ((ix x1.nodes x26).field) ((ix x1.tree x27).field))) r
  else
   if ((ix x1.tree x27).named) = true then
    if (ix x1.tree x27).name = (ix x1.nodes x26).name then
     if (ix x1.nodes x26).field = (⟨#[]⟩ : ByteArray) then
      Bh x1 x27 rc_query_matcher_fits_1 x26 false r
     else
      Bh x1 x27 rc_query_matcher_fits_1 x26 (!(seq ((ix x1.nodes x26).field) ((ix x1.tree x27).field))) r
    else
     Bh x1 x27 rc_query_matcher_fits_1 x26 true r
   else
    Bh x1 x27 rc_query_matcher_fits_1 x26 true r
def Dp : Nat → ((List Int) → Int → Int → (List Int) → Au → ((List Int) × Au) → Prop) × (Au → Int → Int → ((List Int) × Au) → Prop)
 | 0 => (fun _ _ _ _ _ _ => False, fun _ _ _ _ => False)
 | n + 1 => (Hg ((Dp n).1) ((Dp n).2), Ep ((Dp n).1) ((Dp n).2))
def Bn (n : Nat) : (List Int) → Int → Int → (List Int) → Au → ((List Int) × Au) → Prop := (Dp n).1
def E1 (n : Nat) : Au → Int → Int → ((List Int) × Au) → Prop := (Dp n).2
def Ny (x1 : Au) (x26 : Int) (x27 : Int) (r : (List Int) × Au) : Prop := ∃ n, E1 n x1 x26 x27 r
def Kb (x1 : As) (x2 : ByteArray) (r : ByteArray) : Prop :=
 if max x1.from_ 0 ≥ min x1.to (x2.size : Int) then
  r = (⟨#[]⟩ : ByteArray)
 else
  (0 ≤ max x1.from_ 0 ∧ max x1.from_ 0 ≤ min x1.to (x2.size : Int) ∧ min x1.to (x2.size : Int) ≤ (x2.size : Int)) ∧
  r = x2.extract (max x1.from_ 0 : Int).toNat (min x1.to (x2.size : Int) : Int).toNat
def L5 (x1 : ByteArray) (x2 : List As) (x9 : List Int) (x16 : Aj) (x27 : ByteArray) (r : ByteArray × (List As) × (List Int) × Aj × ByteArray) : Prop :=
 ∃ r33 : Int, (Dg x16 x1 r33) ∧
 (0 ≤ r33 ∧ r33 < (x9.length : Int)) ∧
 (0 ≤ ix x9 r33 ∧ ix x9 r33 < (x2.length : Int)) ∧
 ∃ r45 : ByteArray, (Kb (ix x2 (ix x9 r33)) x27 r45) ∧
 r = (r45, x2, x9, x16, x27)
def Mp (x1 : Ax) (x4 : List As) (x11 : List Int) (x18 : Aj) (x29 : ByteArray) (r : Bool × (List As) × (List Int) × Aj × ByteArray) : Prop :=
 if x1.b = (⟨#[]⟩ : ByteArray) then
  ∃ r38 : ByteArray × (List As) × (List Int) × Aj × ByteArray, (L5 x1.a x4 x11 x18 x29 r38) ∧
  r = (((seq r38.1 x1.text) == x1.not), x4, x11, x18, r38.2.2.2.2)
 else
  ∃ r107 : ByteArray × (List As) × (List Int) × Aj × ByteArray, (L5 x1.b x4 x11 x18 x29 r107) ∧
  ∃ r115 : ByteArray × (List As) × (List Int) × Aj × ByteArray, (L5 x1.a x4 x11 x18 r107.2.2.2.2 r115) ∧
  r = (((seq r115.1 r107.1) == x1.not), x4, x11, x18, r115.2.2.2.2)
def Bo (x1 : List Ax) (x8 : List As) (x15 : List Int) (x22 : Aj) (x49 : Int) (x50 : ByteArray) (o1 : Sum (Int × ByteArray) (Int × (List As) × (List Int) × Aj × ByteArray)) : Prop :=
 if x49 < (x1.length : Int) then
  (0 ≤ x49 ∧ x49 < (x1.length : Int)) ∧
  ∃ r69 : Bool × (List As) × (List Int) × Aj × ByteArray, (Mp (ix x1 x49) x8 x15 x22 x50 r69) ∧
  if r69.1 = true then
   o1 = .inr ((x49, x8, x15, x22, r69.2.2.2.2))
  else
   o1 = .inl (w64 (x49 + 1), r69.2.2.2.2)
 else
  o1 = .inr ((-1, x8, x15, x22, x50))
def El (x1 : List Ax) (x8 : List As) (x15 : List Int) (x22 : Aj) (x33 : ByteArray) (r : Int × (List As) × (List Int) × Aj × ByteArray) : Prop :=
 B0 (fun (s : Int × ByteArray) o => Bo x1 x8 x15 x22 s.1 s.2 o) (0, x33) r
def Cf (x1 : List Ax) (x8 : List As) (x15 : List Int) (x22 : Aj) (x33 : ByteArray) (r : Bool × (List As) × (List Int) × Aj × ByteArray) : Prop :=
 ∃ r39 : Int × (List As) × (List Int) × Aj × ByteArray, (El x1 x8 x15 x22 x33 r39) ∧
 r = (decide (r39.1 ≥ 0), x8, x15, x22, r39.2.2.2.2)
def I2 (x10 : List As) (x1 : Aj) (x165 : List Cd) (x174 : Int) (x175 : List (List Int)) (x184 : List Bool) (x189 : ByteArray) (o1 : Sum ((List Cd) × Int × (List (List Int)) × (List Bool) × ByteArray) (List Cd)) : Prop :=
 if x174 < (x10.length : Int) then
  ∃ r258 : (List Int) × Au, (Ny (⟨x1.nodes, x10, x175, x184⟩ : Au) 0 x174 r258) ∧
  ∀ b285 : Bool, (b285 = true ↔ r258.1 = []) →
  if b285 = true then
   o1 = .inl (x165, w64 (x174 + 1), r258.2.of, r258.2.known, x189)
  else
   ∃ r293 : Bool × (List As) × (List Int) × Aj × ByteArray, (Cf x1.conds x10 r258.1 x1 x189 r293) ∧
   if r293.1 = true then
    o1 = .inl (x165, w64 (x174 + 1), r258.2.of, r258.2.known, r293.2.2.2.2)
   else
    ∃ x312 : List Cd, (x312 = x165 ++ ([(⟨r258.1⟩ : Cd)] : List Cd)) ∧
    (x312.length * 24 ≤ 211106232532992) ∧
    o1 = .inl (x312, w64 (x174 + 1), r258.2.of, r258.2.known, r293.2.2.2.2)
 else
  o1 = .inr (x165)
def Li (x10 : List As) (x1 : Aj) (x15 : ByteArray) (x40 : Bool) (r : List Cd) : Prop :=
 if x40 = true then
  r = ([] : List Cd)
 else
  (0 ≤ (x10.length : Int) ∧ (x10.length : Int) * 24 ≤ 281474976710656) ∧
  ∃ x47 : List (List Int), (x47 = List.replicate ((x10.length : Int) : Int).toNat ([] : List Int)) ∧
  (0 ≤ (x10.length : Int) ∧ (x10.length : Int) * 1 ≤ 281474976710656) ∧
  ∃ x53 : List Bool, (x53 = List.replicate ((x10.length : Int) : Int).toNat (false : Bool)) ∧
  B0 (fun (s : (List Cd) × Int × (List (List Int)) × (List Bool) × ByteArray) o => I2 x10 x1 s.1 s.2.1 s.2.2.1 s.2.2.2.1 s.2.2.2.2 o) (([] : List Cd), 0, x47, x53, x15) r
def Pq (x1 : Aj) (x10 : List As) (x15 : ByteArray) (r : List Cd) : Prop :=
 ∃ r351 : Bool, (Iv x1 r351) ∧
 if r351 = true then
  ∃ r360 : Int, (Np x10 r360) ∧
  Li x10 x1 x15 (decide (r360 < 0)) r
 else
  Li x10 x1 x15 true r
def Dq (x1 : List Int) (x6 : List Int) (x23 : Int) (o1 : Sum Int Bool) : Prop :=
 if x23 < (x1.length : Int) then
  (0 ≤ x23 ∧ x23 < (x1.length : Int)) ∧
  (0 ≤ x23 ∧ x23 < (x6.length : Int)) ∧
  if ix x1 x23 = ix x6 x23 then
   o1 = .inl (w64 (x23 + 1))
  else
   o1 = .inr (false)
 else
  o1 = .inr (true)
def Fq (x1 : List Int) (x6 : List Int) (r : Bool) : Prop :=
 if (x1.length : Int) = (x6.length : Int) then
  B0 (fun (s : Int) o => Dq x1 x6 s o) 0 r
 else
  r = false
def Fz (x1 : Aj) (x10 : Aj) (x134 : Int) (o2 : Sum Int (Sum Int Bool)) : Prop :=
 if x134 < (x1.conds.length : Int) then
  (0 ≤ x134 ∧ x134 < (x1.conds.length : Int)) ∧
  (0 ≤ x134 ∧ x134 < (x10.conds.length : Int)) ∧
  if ix x1.conds x134 = ix x10.conds x134 then
   o2 = .inl (w64 (x134 + 1))
  else
   o2 = .inr (.inr (false))
 else
  o2 = .inr (.inr (true))
def G4 (x1 : Aj) (x10 : Aj) (x70 : Int) (o1 : Sum Int Bool) : Prop :=
 if x70 < (x1.nodes.length : Int) then
  (0 ≤ x70 ∧ x70 < (x1.nodes.length : Int)) ∧
  (0 ≤ x70 ∧ x70 < (x10.nodes.length : Int)) ∧
  if ix x1.nodes x70 = ix x10.nodes x70 then
   o1 = .inl (w64 (x70 + 1))
  else
   o1 = .inr (false)
 else
  B0 (fun (s : Int) o => Fz x1 x10 s o) 0 o1
def G5 (x1 : Aj) (x10 : Aj) (x25 : Bool) (r : Bool) : Prop :=
 if x25 = true then
  r = false
 else
  B0 (fun (s : Int) o => G4 x1 x10 s o) 0 r
def I1 (x1 : Aj) (x10 : Aj) (r : Bool) : Prop :=
 if (x1.nodes.length : Int) = (x10.nodes.length : Int) then
  G5 x1 x10 ((x1.conds.length : Int) != (x10.conds.length : Int)) r
 else
  G5 x1 x10 true r
def C6 (x1 : Int) (x2 : ByteArray) (r : List Af) : Prop :=
 r = ([(⟨x1, x2, 0, 0⟩ : Af)] : List Af)
def S8 (x8 : List Af) (x26 : List Af) (x31 : Int) (o1 : Sum ((List Af) × Int) (List Af)) : Prop :=
 if x31 < (x8.length : Int) then
  (0 ≤ x31 ∧ x31 < (x8.length : Int)) ∧
  ∃ x53 : List Af, (x53 = x26 ++ ([ix x8 x31] : List Af)) ∧
  (x53.length * 40 ≤ 211106232532992) ∧
  o1 = .inl (x53, w64 (x31 + 1))
 else
  o1 = .inr (x26)
def Cc (x1 : List Af) (x8 : List Af) (r : List Af) : Prop :=
 B0 (fun (s : (List Af) × Int) o => S8 x8 s.1 s.2 o) (x1, 0) r
def Lu (x1 : List Ae) (x6 : Int) (x331 : List Af) (r : List Af) : Prop :=
 if (ix x1 x6).capture = (⟨#[]⟩ : ByteArray) then
  r = x331
 else
  ∃ r340 : List Af, (C6 5 (⟨#[64]⟩ : ByteArray) r340) ∧
  ∃ r353 : List Af, (Cc x331 r340 r353) ∧
  ∃ r366 : List Af, (C6 1 ((ix x1 x6).capture) r366) ∧
  ∃ r379 : List Af, (Cc r353 r366 r379) ∧
  r = r379
def Qp (x1 : List Ae) (x6 : Int) (rc_trellisref20_spelt : (List Ae) → Int → (List Af) → Prop) (x734 : List Af) (x739 : Int) (x740 : Int) (o1 : Sum ((List Af) × Int × Int) (List Af)) : Prop :=
 if x740 < (ix x1 x6).kids then
  ∃ r808 : List Af, (rc_trellisref20_spelt x1 x739 r808) ∧
  ∃ r821 : List Af, (Cc x734 r808 r821) ∧
  ∃ r834 : Int, (K5 x1 x739 r834) ∧
  o1 = .inl (r821, r834, w64 (x740 + 1))
 else
  ∃ r842 : List Af, (C6 5 (⟨#[41]⟩ : ByteArray) r842) ∧
  ∃ r855 : List Af, (Cc x734 r842 r855) ∧
  ∃ q865 : List Af, (o1 = .inr (q865)) ∧
  Lu x1 x6 r855 q865
def Lx (x52 : List Af) (x1 : List Ae) (x6 : Int) (rc_trellisref20_spelt : (List Ae) → Int → (List Af) → Prop) (x617 : ByteArray) (r : List Af) : Prop :=
 ∃ r621 : List Af, (C6 5 (⟨#[40]⟩ : ByteArray) r621) ∧
 ∃ r634 : List Af, (Cc x52 r621 r634) ∧
 ∃ r647 : List Af, (C6 1 x617 r647) ∧
 ∃ r660 : List Af, (Cc r634 r647 r660) ∧
 B0 (fun (s : (List Af) × Int × Int) o => Qp x1 x6 rc_trellisref20_spelt s.1 s.2.1 s.2.2 o) (r660, w64 (x6 + 1), 0) r
def Lw (x1 : List Ae) (x6 : Int) (rc_trellisref20_spelt : (List Ae) → Int → (List Af) → Prop) (x52 : List Af) (r : List Af) : Prop :=
 if ((ix x1 x6).lit) = true then
  ∃ r592 : List Af, (C6 2 ((ix x1 x6).name) r592) ∧
  ∃ r605 : List Af, (Cc x52 r592 r605) ∧
  Lu x1 x6 r605 r
 else
  if (ix x1 x6).name = (⟨#[]⟩ : ByteArray) then
   Lx x52 x1 x6 rc_trellisref20_spelt (⟨#[95]⟩ : ByteArray) r
  else
   Lx x52 x1 x6 rc_trellisref20_spelt ((ix x1 x6).name) r
def Ps (rc_trellisref20_spelt : (List Ae) → Int → (List Af) → Prop) (x1 : List Ae) (x6 : Int) (r : List Af) : Prop :=
 (0 ≤ x6 ∧ x6 < (x1.length : Int)) ∧
 if (ix x1 x6).field = (⟨#[]⟩ : ByteArray) then
  Lw x1 x6 rc_trellisref20_spelt ([] : List Af) r
 else
  ∃ r870 : List Af, (C6 1 ((ix x1 x6).field) r870) ∧
  ∃ r883 : List Af, (C6 5 (⟨#[58]⟩ : ByteArray) r883) ∧
  ∃ r896 : List Af, (Cc r870 r883 r896) ∧
  Lw x1 x6 rc_trellisref20_spelt r896 r
def Mm : Nat → (List Ae) → Int → (List Af) → Prop
 | 0 => fun _ _ _ => False
 | n + 1 => Ps (Mm n)
def Sv (x1 : List Ae) (x6 : Int) (r : List Af) : Prop := ∃ n, Mm n x1 x6 r
def Ly (x1 : Int) (x9 : Bool) (r : ByteArray) : Prop :=
 if x9 = true then
  (0 ≤ IntKind.u8.wrap (Int.tdiv x1 16) ∧ IntKind.u8.wrap (Int.tdiv x1 16) ≤ IntKind.u8.wrap ((IntKind.u8.wrap (Int.tdiv x1 16)) + 1) ∧ IntKind.u8.wrap ((IntKind.u8.wrap (Int.tdiv x1 16)) + 1) ≤ ((⟨#[48, 49, 50, 51, 52, 53, 54, 55, 56, 57, 97, 98, 99, 100, 101, 102, 65, 66, 67, 68, 69, 70]⟩ : ByteArray).size : Int)) ∧
  ((⟨#[92, 120]⟩ : ByteArray).size + ((⟨#[48, 49, 50, 51, 52, 53, 54, 55, 56, 57, 97, 98, 99, 100, 101, 102, 65, 66, 67, 68, 69, 70]⟩ : ByteArray).extract (IntKind.u8.wrap (Int.tdiv x1 16) : Int).toNat (IntKind.u8.wrap ((IntKind.u8.wrap (Int.tdiv x1 16)) + 1) : Int).toNat).size ≤ 9223372036854775807) ∧
  (0 ≤ Int.tmod x1 16 ∧ Int.tmod x1 16 ≤ IntKind.u8.wrap ((Int.tmod x1 16) + 1) ∧ IntKind.u8.wrap ((Int.tmod x1 16) + 1) ≤ ((⟨#[48, 49, 50, 51, 52, 53, 54, 55, 56, 57, 97, 98, 99, 100, 101, 102, 65, 66, 67, 68, 69, 70]⟩ : ByteArray).size : Int)) ∧
  (((⟨#[92, 120]⟩ : ByteArray) ++ ((⟨#[48, 49, 50, 51, 52, 53, 54, 55, 56, 57, 97, 98, 99, 100, 101, 102, 65, 66, 67, 68, 69, 70]⟩ : ByteArray).extract (IntKind.u8.wrap (Int.tdiv x1 16) : Int).toNat (IntKind.u8.wrap ((IntKind.u8.wrap (Int.tdiv x1 16)) + 1) : Int).toNat)).size + ((⟨#[48, 49, 50, 51, 52, 53, 54, 55, 56, 57, 97, 98, 99, 100, 101, 102, 65, 66, 67, 68, 69, 70]⟩ : ByteArray).extract (Int.tmod x1 16 : Int).toNat (IntKind.u8.wrap ((Int.tmod x1 16) + 1) : Int).toNat).size ≤ 9223372036854775807) ∧
  r = ((⟨#[92, 120]⟩ : ByteArray) ++ ((⟨#[48, 49, 50, 51, 52, 53, 54, 55, 56, 57, 97, 98, 99, 100, 101, 102, 65, 66, 67, 68, 69, 70]⟩ : ByteArray).extract (IntKind.u8.wrap (Int.tdiv x1 16) : Int).toNat (IntKind.u8.wrap ((IntKind.u8.wrap (Int.tdiv x1 16)) + 1) : Int).toNat)) ++ ((⟨#[48, 49, 50, 51, 52, 53, 54, 55, 56, 57, 97, 98, 99, 100, 101, 102, 65, 66, 67, 68, 69, 70]⟩ : ByteArray).extract (Int.tmod x1 16 : Int).toNat (IntKind.u8.wrap ((Int.tmod x1 16) + 1) : Int).toNat)
 else
  r = Ih ([x1] : List Int)
def T2 (x1 : Int) (r : ByteArray) : Prop :=
 if x1 = 34 then
  r = (⟨#[92, 34]⟩ : ByteArray)
 else
  if x1 = 92 then
   r = (⟨#[92, 92]⟩ : ByteArray)
  else
   if x1 = 10 then
    r = (⟨#[92, 110]⟩ : ByteArray)
   else
    if x1 = 9 then
     r = (⟨#[92, 116]⟩ : ByteArray)
    else
     if x1 = 13 then
      r = (⟨#[92, 114]⟩ : ByteArray)
     else
      if x1 < 32 then
       Ly x1 true r
      else
       Ly x1 (decide (x1 > 126)) r
def R0 (x1 : Af) (x27 : ByteArray) (x28 : Int) (o1 : Sum (ByteArray × Int) ByteArray) : Prop :=
 if x28 < (x1.text.size : Int) then
  (0 ≤ x28 ∧ x28 < (x1.text.size : Int)) ∧
  ∃ r46 : ByteArray, (T2 (bt x1.text x28) r46) ∧
  (x27.size + r46.size ≤ 9223372036854775807) ∧
  o1 = .inl (x27 ++ r46, w64 (x28 + 1))
 else
  (x27.size + (⟨#[34]⟩ : ByteArray).size ≤ 9223372036854775807) ∧
  o1 = .inr (x27 ++ (⟨#[34]⟩ : ByteArray))
def Oo (x1 : Af) (r : ByteArray) : Prop :=
 ∃ r7 : Bool, (I3 x1 r7) ∧
 if r7 = true then
  if x1.kind = 2 then
   B0 (fun (s : ByteArray × Int) o => R0 x1 s.1 s.2 o) ((⟨#[34]⟩ : ByteArray), 0) r
  else
   if x1.kind = 3 then
    ((⟨#[47]⟩ : ByteArray).size + x1.text.size ≤ 9223372036854775807) ∧
    (((⟨#[47]⟩ : ByteArray) ++ x1.text).size + (⟨#[47]⟩ : ByteArray).size ≤ 9223372036854775807) ∧
    r = ((⟨#[47]⟩ : ByteArray) ++ x1.text) ++ (⟨#[47]⟩ : ByteArray)
   else
    if x1.kind = 4 then
     ∃ r60 : ByteArray, (strconv_Itoa x1.n r60) ∧
     r = r60
    else
     r = x1.text
 else
  r = (⟨#[]⟩ : ByteArray)
def S7 (x1 : List Af) (x29 : ByteArray) (x30 : Int) (o1 : Sum (ByteArray × Int) ByteArray) : Prop :=
 if x30 < (x1.length : Int) then
  (0 ≤ x30 ∧ x30 < (x1.length : Int)) ∧
  ∃ r71 : Bool, (I3 (ix x1 x30) r71) ∧
  if r71 = true then
   if x30 > 0 then
    (x29.size + (⟨#[32]⟩ : ByteArray).size ≤ 9223372036854775807) ∧
    ∃ r83 : ByteArray, (Oo (ix x1 x30) r83) ∧
    ((x29 ++ (⟨#[32]⟩ : ByteArray)).size + r83.size ≤ 9223372036854775807) ∧
    o1 = .inl ((x29 ++ (⟨#[32]⟩ : ByteArray)) ++ r83, w64 (x30 + 1))
   else
    ∃ r93 : ByteArray, (Oo (ix x1 x30) r93) ∧
    (x29.size + r93.size ≤ 9223372036854775807) ∧
    o1 = .inl (x29 ++ r93, w64 (x30 + 1))
  else
   o1 = .inr ((⟨#[]⟩ : ByteArray))
 else
  o1 = .inr (x29)
def Uw (x1 : List Af) (r : ByteArray) : Prop :=
 B0 (fun (s : ByteArray × Int) o => S7 x1 s.1 s.2 o) ((⟨#[]⟩ : ByteArray), 0) r
def Lt (x714 : List Af) (x1 : Aj) (x719 : Int) (x1406 : ByteArray) (o1 : Sum ((List Af) × Int) (ByteArray × Int)) : Prop :=
 ∃ r1410 : List Af, (C6 1 x1406 r1410) ∧
 ∃ r1423 : List Af, (Cc x714 r1410 r1423) ∧
 ∃ r1436 : List Af, (C6 5 (⟨#[64]⟩ : ByteArray) r1436) ∧
 ∃ r1449 : List Af, (Cc r1423 r1436 r1449) ∧
 ∃ r1462 : List Af, (C6 1 ((ix x1.conds x719).a) r1462) ∧
 ∃ r1475 : List Af, (Cc r1449 r1462 r1475) ∧
 ∃ r1768 : List Af, (C6 5 (⟨#[61]⟩ : ByteArray) r1768) ∧
 ∃ r1781 : List Af, (Cc r1475 r1768 r1781) ∧
 if (ix x1.conds x719).b = (⟨#[]⟩ : ByteArray) then
  ∃ r1795 : List Af, (C6 2 ((ix x1.conds x719).text) r1795) ∧
  ∃ r1808 : List Af, (Cc r1781 r1795 r1808) ∧
  o1 = .inl (r1808, w64 (x719 + 1))
 else
  ∃ r1821 : List Af, (C6 5 (⟨#[64]⟩ : ByteArray) r1821) ∧
  ∃ r1834 : List Af, (Cc r1781 r1821 r1834) ∧
  ∃ r1847 : List Af, (C6 1 ((ix x1.conds x719).b) r1847) ∧
  ∃ r1860 : List Af, (Cc r1834 r1847 r1860) ∧
  o1 = .inl (r1860, w64 (x719 + 1))
def Qo (x1 : Aj) (x714 : List Af) (x719 : Int) (o1 : Sum ((List Af) × Int) (ByteArray × Int)) : Prop :=
 if x719 < (x1.conds.length : Int) then
  (0 ≤ x719 ∧ x719 < (x1.conds.length : Int)) ∧
  if ((ix x1.conds x719).not) = true then
   Lt x714 x1 x719 (⟨#[117, 110, 108, 101, 115, 115]⟩ : ByteArray) o1
  else
   Lt x714 x1 x719 (⟨#[119, 104, 101, 110]⟩ : ByteArray) o1
 else
  ∃ r2073 : ByteArray, (Uw x714 r2073) ∧
  o1 = .inr ((r2073, 0))
def Tc (x1 : Aj) (r : ByteArray × Int) : Prop :=
 ∃ r15 : Bool, (K4 x1 r15) ∧
 if r15 = true then
  ∃ r24 : List Af, (Sv x1.nodes 0 r24) ∧
  B0 (fun (s : (List Af) × Int) o => Qo x1 s.1 s.2 o) (r24, 0) r
 else
  r = ((⟨#[]⟩ : ByteArray), 200)
def C9 (x1 : Int) (x2 : ByteArray) (x3 : List Af) (r : List Af) : Prop :=
 ∃ x18 : List Af, (x18 = x3 ++ ([(⟨x1, x2, 0, 0⟩ : Af)] : List Af)) ∧
 (x18.length * 40 ≤ 211106232532992) ∧
 r = x18
def Ft (x1 : Aj) (x12 : Int) (x241 : List Af) (x246 : Int) (r : Aj × Int × (List Af)) : Prop :=
 if (ix x1.nodes x12).capture = (⟨#[]⟩ : ByteArray) then
  r = (x1, x246, x241)
 else
  ∃ r251 : List Af, (C9 5 (⟨#[64]⟩ : ByteArray) x241 r251) ∧
  ∃ r264 : List Af, (C9 1 ((ix x1.nodes x12).capture) r251 r264) ∧
  r = (x1, x246, r264)
def Fv (x1 : Aj) (x12 : Int) (rc_query_Print_2 : Aj → Int → (List Af) → (Aj × Int × (List Af)) → Prop) (x363 : Int) (x364 : List Af) (x369 : Int) (o1 : Sum (Int × (List Af) × Int) (Aj × Int × (List Af))) : Prop :=
 if x363 < (ix x1.nodes x12).kids then
  ∃ r403 : Aj × Int × (List Af), (rc_query_Print_2 x1 x369 x364 r403) ∧
  o1 = .inl (w64 (x363 + 1), r403.2.2, r403.2.1)
 else
  ∃ r416 : List Af, (C9 5 (⟨#[41]⟩ : ByteArray) x364 r416) ∧
  ∃ q426 : Aj × Int × (List Af), (o1 = .inr (q426)) ∧
  Ft x1 x12 r416 x369 q426
def Gy (x1 : Aj) (x12 : Int) (rc_query_Print_2 : Aj → Int → (List Af) → (Aj × Int × (List Af)) → Prop) (x328 : List Af) (r : Aj × Int × (List Af)) : Prop :=
 B0 (fun (s : Int × (List Af) × Int) o => Fv x1 x12 rc_query_Print_2 s.1 s.2.1 s.2.2 o) (0, x328, w64 (x12 + 1)) r
def Gz (x1 : Aj) (x12 : Int) (rc_query_Print_2 : Aj → Int → (List Af) → (Aj × Int × (List Af)) → Prop) (x60 : List Af) (r : Aj × Int × (List Af)) : Prop :=
 if ((ix x1.nodes x12).lit) = true then
  ∃ r277 : List Af, (C9 2 ((ix x1.nodes x12).name) x60 r277) ∧
  Ft x1 x12 r277 (w64 (x12 + 1)) r
 else
  ∃ r290 : List Af, (C9 5 (⟨#[40]⟩ : ByteArray) x60 r290) ∧
  if (ix x1.nodes x12).name = (⟨#[]⟩ : ByteArray) then
   ∃ r431 : List Af, (C9 1 (⟨#[95]⟩ : ByteArray) r290 r431) ∧
   Gy x1 x12 rc_query_Print_2 r431 r
  else
   ∃ r444 : List Af, (C9 1 ((ix x1.nodes x12).name) r290 r444) ∧
   Gy x1 x12 rc_query_Print_2 r444 r
def H7 (rc_query_Print_2 : Aj → Int → (List Af) → (Aj × Int × (List Af)) → Prop) (x1 : Aj) (x12 : Int) (x19 : List Af) (r : Aj × Int × (List Af)) : Prop :=
 (0 ≤ x12 ∧ x12 < (x1.nodes.length : Int)) ∧
 if (ix x1.nodes x12).field = (⟨#[]⟩ : ByteArray) then
  Gz x1 x12 rc_query_Print_2 x19 r
 else
  ∃ r457 : List Af, (C9 1 ((ix x1.nodes x12).field) x19 r457) ∧
  ∃ r470 : List Af, (C9 5 (⟨#[58]⟩ : ByteArray) r457 r470) ∧
  Gz x1 x12 rc_query_Print_2 r470 r
def Ej : Nat → Aj → Int → (List Af) → (Aj × Int × (List Af)) → Prop
 | 0 => fun _ _ _ _ => False
 | n + 1 => H7 (Ej n)
def Sj (x1 : Aj) (x12 : Int) (x19 : List Af) (r : Aj × Int × (List Af)) : Prop := ∃ n, Ej n x1 x12 x19 r
def strings_Join (x1 : List ByteArray) (x6 : ByteArray) (r : ByteArray) : Prop :=
 (x1.length ≤ 140737488355328) ∧ ((O2 x1 x6).size ≤ 140737488355328) ∧ r = O2 x1 x6
def Et (x1 : List Af) (x47 : List ByteArray) (x52 : Int) (o1 : Sum ((List ByteArray) × Int) ByteArray) : Prop :=
 if x52 < (x1.length : Int) then
  (0 ≤ x52 ∧ x52 < (x1.length : Int)) ∧
  ∃ r100 : Bool, (Ku (ix x1 x52) r100) ∧
  if r100 = true then
   ∃ r109 : ByteArray, (Kx (ix x1 x52) r109) ∧
   ∃ x120 : List ByteArray, (x120 = x47 ++ ([r109] : List ByteArray)) ∧
   (x120.length * 16 ≤ 211106232532992) ∧
   o1 = .inl (x120, w64 (x52 + 1))
  else
   o1 = .inr ((⟨#[]⟩ : ByteArray))
 else
  ∃ r126 : ByteArray, (strings_Join x47 (⟨#[32]⟩ : ByteArray) r126) ∧
  o1 = .inr (r126)
def Kr (x1 : List Af) (r : ByteArray) : Prop :=
 B0 (fun (s : (List ByteArray) × Int) o => Et x1 s.1 s.2 o) (([] : List ByteArray), 0) r
def Ig (x1 : Aj) (x195 : Int) (x385 : List Af) (o1 : Sum (Int × (List Af)) (ByteArray × Int)) : Prop :=
 ∃ r393 : List Af, (C9 5 (⟨#[64]⟩ : ByteArray) x385 r393) ∧
 ∃ r406 : List Af, (C9 1 ((ix x1.conds x195).a) r393 r406) ∧
 ∃ r419 : List Af, (C9 5 (⟨#[61]⟩ : ByteArray) r406 r419) ∧
 if (ix x1.conds x195).b = (⟨#[]⟩ : ByteArray) then
  ∃ r433 : List Af, (C9 2 ((ix x1.conds x195).text) r419 r433) ∧
  o1 = .inl (w64 (x195 + 1), r433)
 else
  ∃ r446 : List Af, (C9 5 (⟨#[64]⟩ : ByteArray) r419 r446) ∧
  ∃ r459 : List Af, (C9 1 ((ix x1.conds x195).b) r446 r459) ∧
  o1 = .inl (w64 (x195 + 1), r459)
def G8 (x1 : Aj) (x195 : Int) (x196 : List Af) (o1 : Sum (Int × (List Af)) (ByteArray × Int)) : Prop :=
 if x195 < (x1.conds.length : Int) then
  (0 ≤ x195 ∧ x195 < (x1.conds.length : Int)) ∧
  if ((ix x1.conds x195).not) = true then
   ∃ r472 : List Af, (C9 1 (⟨#[117, 110, 108, 101, 115, 115]⟩ : ByteArray) x196 r472) ∧
   Ig x1 x195 r472 o1
  else
   ∃ r485 : List Af, (C9 1 (⟨#[119, 104, 101, 110]⟩ : ByteArray) x196 r485) ∧
   Ig x1 x195 r485 o1
 else
  ∃ r498 : ByteArray, (Kr x196 r498) ∧
  o1 = .inr ((r498, 0))
def L3 (x1 : Aj) (r : ByteArray × Int) : Prop :=
 ∃ r15 : Bool, (Iv x1 r15) ∧
 if r15 = true then
  ∃ r33 : Aj × Int × (List Af), (Sj x1 0 ([] : List Af) r33) ∧
  B0 (fun (s : Int × (List Af)) o => G8 x1 s.1 s.2 o) (0, r33.2.2) r
 else
  r = ((⟨#[]⟩ : ByteArray), 200)
def L6 (x1 : Int) (r : Bool) : Prop :=
 if x1 = 32 then
  r = true
 else
  if x1 = 9 then
   r = true
  else
   if x1 = 13 then
    r = true
   else
    r = (x1 == 10)
def E6 (x1 : ByteArray) (x2 : Int) (r : Int) : Prop :=
 r = Tj x1 x2
def G9 (x1 : ByteArray) (x2 : Int) (r : Int) : Prop :=
 ∃ r6 : Int, (E6 x1 x2 r6) ∧
 r = r6
def Hr (x1 : Int) (x17 : Bool) (r : Int × Bool) : Prop :=
 if x17 = true then
  r = (IntKind.u8.wrap ((IntKind.u8.wrap (x1 - 65)) + 10), true)
 else
  r = (0, false)
def Js (x1 : Int) (x13 : Bool) (r : Int × Bool) : Prop :=
 if x13 = true then
  r = (IntKind.u8.wrap ((IntKind.u8.wrap (x1 - 97)) + 10), true)
 else
  if x1 ≥ 65 then
   Hr x1 (decide (x1 ≤ 70)) r
  else
   Hr x1 false r
def Kz (x1 : Int) (r : Int × Bool) : Prop :=
 ∃ r5 : Bool, (G3 x1 r5) ∧
 if r5 = true then
  r = (IntKind.u8.wrap (x1 - 48), true)
 else
  if x1 ≥ 97 then
   Js x1 (decide (x1 ≤ 102)) r
  else
   Js x1 false r
def Hl (r18 : Int × Bool) (r27 : Int × Bool) (x34 : Bool) (r : Int × Int) : Prop :=
 if x34 = true then
  r = (IntKind.u8.wrap ((IntKind.u8.wrap (16 * r18.1)) + r27.1), 4)
 else
  r = (0, 0)
def Gg (x1 : ByteArray) (x2 : Int) (x7 : Bool) (r : Int × Int) : Prop :=
 if x7 = true then
  r = (bt x1 (w64 (x2 + 1)), 2)
 else
  if bt x1 (w64 (x2 + 1)) = 110 then
   r = (10, 2)
  else
   if bt x1 (w64 (x2 + 1)) = 116 then
    r = (9, 2)
   else
    if bt x1 (w64 (x2 + 1)) = 114 then
     r = (13, 2)
    else
     if bt x1 (w64 (x2 + 1)) = 120 then
      if w64 (x2 + 3) < (x1.size : Int) then
       (0 ≤ w64 (x2 + 2) ∧ w64 (x2 + 2) < (x1.size : Int)) ∧
       ∃ r18 : Int × Bool, (Kz (bt x1 (w64 (x2 + 2))) r18) ∧
       (0 ≤ w64 (x2 + 3) ∧ w64 (x2 + 3) < (x1.size : Int)) ∧
       ∃ r27 : Int × Bool, (Kz (bt x1 (w64 (x2 + 3))) r27) ∧
       if r18.2 = true then
        Hl r18 r27 r27.2 r
       else
        Hl r18 r27 false r
      else
       r = (0, 0)
     else
      r = (0, 0)
def Jv (x1 : ByteArray) (x2 : Int) (r : Int × Int) : Prop :=
 if w64 (x2 + 1) ≥ (x1.size : Int) then
  r = (0, 0)
 else
  (0 ≤ w64 (x2 + 1) ∧ w64 (x2 + 1) < (x1.size : Int)) ∧
  if bt x1 (w64 (x2 + 1)) = 34 then
   Gg x1 x2 ((bt x1 (w64 (x2 + 1))) == 34) r
  else
   Gg x1 x2 ((bt x1 (w64 (x2 + 1))) == 92) r
def Fh (x2 : Int) (x48 : Int) (x1 : ByteArray) (x43 : List Int) (x89 : Bool) (o1 : Sum ((List Int) × Int) ((List Int) × Int × Int)) : Prop :=
 if x89 = true then
  o1 = .inr ((([] : List Int), 82, x2))
 else
  (0 ≤ x48 ∧ x48 < (x1.size : Int)) ∧
  if bt x1 x48 = 34 then
   o1 = .inr ((x43, 0, w64 (x48 + 1)))
  else
   if bt x1 x48 = 92 then
    ∃ r97 : Int × Int, (Jv x1 x48 r97) ∧
    if r97.2 = 0 then
     o1 = .inr ((([] : List Int), 82, x48))
    else
     ∃ x109 : List Int, (x109 = x43 ++ ([r97.1] : List Int)) ∧
     (x109.length * 1 ≤ 211106232532992) ∧
     o1 = .inl (x109, w64 (x48 + r97.2))
   else
    ∃ x118 : List Int, (x118 = x43 ++ ([bt x1 x48] : List Int)) ∧
    (x118.length * 1 ≤ 211106232532992) ∧
    o1 = .inl (x118, w64 (x48 + 1))
def E4 (x1 : ByteArray) (x2 : Int) (x43 : List Int) (x48 : Int) (o1 : Sum ((List Int) × Int) ((List Int) × Int × Int)) : Prop :=
 if x48 = (x1.size : Int) then
  Fh x2 x48 x1 x43 true o1
 else
  (0 ≤ x48 ∧ x48 < (x1.size : Int)) ∧
  Fh x2 x48 x1 x43 ((bt x1 x48) == 10) o1
def Jq (x1 : ByteArray) (x2 : Int) (r : (List Int) × Int × Int) : Prop :=
 B0 (fun (s : (List Int) × Int) o => E4 x1 x2 s.1 s.2 o) (([] : List Int), w64 (x2 + 1)) r
def Dr (x28 : Int) (x70 : Bool) (o1 : Sum Int ((List Int) × Int × Int)) : Prop :=
 if x70 = true then
  o1 = .inl (w64 ((w64 (x28 + 1)) + 1))
 else
  o1 = .inl (w64 (x28 + 1))
def Fu (x2 : Int) (x28 : Int) (x1 : ByteArray) (x56 : Bool) (o1 : Sum Int ((List Int) × Int × Int)) : Prop :=
 if x56 = true then
  o1 = .inr ((([] : List Int), 82, x2))
 else
  (0 ≤ x28 ∧ x28 < (x1.size : Int)) ∧
  if bt x1 x28 = 47 then
   (0 ≤ w64 (x2 + 1) ∧ w64 (x2 + 1) ≤ x28 ∧ x28 ≤ (x1.size : Int)) ∧
   ((x1.extract (w64 (x2 + 1) : Int).toNat (x28 : Int).toNat).size ≤ 9223372036854775807) ∧
   o1 = .inr (((Bi (x1.extract (w64 (x2 + 1) : Int).toNat (x28 : Int).toNat)), 0, w64 (x28 + 1)))
  else
   if bt x1 x28 = 92 then
    if w64 (x28 + 1) < (x1.size : Int) then
     (0 ≤ w64 (x28 + 1) ∧ w64 (x28 + 1) < (x1.size : Int)) ∧
     Dr x28 ((bt x1 (w64 (x28 + 1))) != 10) o1
    else
     Dr x28 false o1
   else
    Dr x28 false o1
def Em (x1 : ByteArray) (x2 : Int) (x28 : Int) (o1 : Sum Int ((List Int) × Int × Int)) : Prop :=
 if x28 = (x1.size : Int) then
  Fu x2 x28 x1 true o1
 else
  (0 ≤ x28 ∧ x28 < (x1.size : Int)) ∧
  Fu x2 x28 x1 ((bt x1 x28) == 10) o1
def J3 (x1 : ByteArray) (x2 : Int) (r : (List Int) × Int × Int) : Prop :=
 B0 (fun (s : Int) o => Em x1 x2 s o) (w64 (x2 + 1)) r
def Jw (x885 : Int) (x438 : List Af) (x896 : Bool) (o2 : Sum Int (Sum ((List Af) × Int) ((List Af) × Int × Int))) : Prop :=
 if x896 = true then
  o2 = .inl (w64 (x885 + 1))
 else
  o2 = .inr (.inl (x438, x885))
def I0 (x1 : ByteArray) (x438 : List Af) (x885 : Int) (o2 : Sum Int (Sum ((List Af) × Int) ((List Af) × Int × Int))) : Prop :=
 if x885 < (x1.size : Int) then
  (0 ≤ x885 ∧ x885 < (x1.size : Int)) ∧
  Jw x885 x438 ((bt x1 x885) != 10) o2
 else
  Jw x885 x438 false o2
def Gs (x960 : Int) (x443 : Int) (x1 : ByteArray) (x438 : List Af) (x1033 : Bool) (o2 : Sum Int (Sum ((List Af) × Int) ((List Af) × Int × Int))) : Prop :=
 if x1033 = true then
  o2 = .inl (w64 (x960 + 1))
 else
  if w64 (x960 - x443) > 24 then
   o2 = .inr (.inr ((([] : List Af), 83, x443)))
  else
   (0 ≤ x443 ∧ x443 ≤ x960 ∧ x960 ≤ (x1.size : Int)) ∧
   ∃ x1043 : List Af, (x1043 = x438 ++ ([(⟨1, x1.extract (x443 : Int).toNat (x960 : Int).toNat, 0, x443⟩ : Af)] : List Af)) ∧
   (x1043.length * 40 ≤ 211106232532992) ∧
   o2 = .inr (.inl (x1043, x960))
def Gp (x1 : ByteArray) (x443 : Int) (x438 : List Af) (x960 : Int) (o2 : Sum Int (Sum ((List Af) × Int) ((List Af) × Int × Int))) : Prop :=
 if x960 < (x1.size : Int) then
  (0 ≤ x960 ∧ x960 < (x1.size : Int)) ∧
  ∃ r1051 : Bool, (Hz (bt x1 x960) r1051) ∧
  if r1051 = true then
   Gs x960 x443 x1 x438 true o2
  else
   ∃ r1060 : Bool, (G3 (bt x1 x960) r1060) ∧
   Gs x960 x443 x1 x438 r1060 o2
 else
  Gs x960 x443 x1 x438 false o2
def Hu (x1105 : Int) (x1 : ByteArray) (x1106 : Int) (x443 : Int) (x438 : List Af) (x1152 : Bool) (o2 : Sum (Int × Int) (Sum ((List Af) × Int) ((List Af) × Int × Int))) : Prop :=
 if x1152 = true then
  (0 ≤ x1105 ∧ x1105 < (x1.size : Int)) ∧
  o2 = .inl (w64 (x1105 + 1), min (w64 ((w64 (10 * x1106)) + (w64 (IntKind.u8.wrap ((bt x1 x1105) - 48))))) 65536)
 else
  if x1106 > 65535 then
   o2 = .inr (.inr ((([] : List Af), 84, x443)))
  else
   ∃ x1162 : List Af, (x1162 = x438 ++ ([(⟨4, (⟨#[]⟩ : ByteArray), x1106, x443⟩ : Af)] : List Af)) ∧
   (x1162.length * 40 ≤ 211106232532992) ∧
   o2 = .inr (.inl (x1162, x1105))
def F1 (x1 : ByteArray) (x443 : Int) (x438 : List Af) (x1105 : Int) (x1106 : Int) (o2 : Sum (Int × Int) (Sum ((List Af) × Int) ((List Af) × Int × Int))) : Prop :=
 if x1105 < (x1.size : Int) then
  (0 ≤ x1105 ∧ x1105 < (x1.size : Int)) ∧
  ∃ r1170 : Bool, (G3 (bt x1 x1105) r1170) ∧
  Hu x1105 x1 x1106 x443 x438 r1170 o2
 else
  Hu x1105 x1 x1106 x443 x438 false o2
def E7 (x1 : ByteArray) (x438 : List Af) (x443 : Int) (o1 : Sum ((List Af) × Int) ((List Af) × Int × Int)) : Prop :=
 if x443 = (x1.size : Int) then
  o1 = .inr ((x438, 0, 0))
 else
  (0 ≤ x443 ∧ x443 < (x1.size : Int)) ∧
  ∃ r872 : Bool, (L6 (bt x1 x443) r872) ∧
  if r872 = true then
   o1 = .inl (x438, w64 (x443 + 1))
  else
   if bt x1 x443 = 35 then
    B0 (fun (s : Int) o => I0 x1 x438 s o) x443 o1
   else
    ∃ r903 : Bool, (Hz (bt x1 x443) r903) ∧
    if r903 = true then
     B0 (fun (s : Int) o => Gp x1 x443 x438 s o) x443 o1
    else
     ∃ r1068 : Bool, (G3 (bt x1 x443) r1068) ∧
     if r1068 = true then
      B0 (fun (s : Int × Int) o => F1 x1 x443 x438 s.1 s.2 o) (x443, 0) o1
     else
      if bt x1 x443 = 34 then
       ∃ r1203 : (List Int) × Int × Int, (Jq x1 x443 r1203) ∧
       if r1203.2.1 = 0 then
        ∃ x1220 : List Af, (x1220 = x438 ++ ([(⟨2, Ih r1203.1, 0, x443⟩ : Af)] : List Af)) ∧
        (x1220.length * 40 ≤ 211106232532992) ∧
        o1 = .inl (x1220, r1203.2.2)
       else
        o1 = .inr ((([] : List Af), r1203.2.1, r1203.2.2))
      else
       if bt x1 x443 = 47 then
        ∃ r1251 : (List Int) × Int × Int, (J3 x1 x443 r1251) ∧
        if r1251.2.1 = 0 then
         ∃ x1268 : List Af, (x1268 = x438 ++ ([(⟨3, Ih r1251.1, 0, x443⟩ : Af)] : List Af)) ∧
         (x1268.length * 40 ≤ 211106232532992) ∧
         o1 = .inl (x1268, r1251.2.2)
        else
         o1 = .inr ((([] : List Af), r1251.2.1, r1251.2.2))
       else
        ∃ r1274 : Int, (G9 (⟨#[123, 125, 40, 41, 124, 42, 43, 63, 58, 59, 44, 61, 64]⟩ : ByteArray) (bt x1 x443) r1274) ∧
        if r1274 ≥ 0 then
         (0 ≤ x443 ∧ x443 ≤ w64 (x443 + 1) ∧ w64 (x443 + 1) ≤ (x1.size : Int)) ∧
         ∃ x1287 : List Af, (x1287 = x438 ++ ([(⟨5, x1.extract (x443 : Int).toNat (w64 (x443 + 1) : Int).toNat, 0, x443⟩ : Af)] : List Af)) ∧
         (x1287.length * 40 ≤ 211106232532992) ∧
         o1 = .inl (x1287, w64 (x443 + 1))
        else
         o1 = .inr ((([] : List Af), 81, x443))
def L1 (x1 : ByteArray) (r : (List Af) × Int × Int) : Prop :=
 if (x1.size : Int) > 16384 then
  r = (([] : List Af), 80, 16384)
 else
  B0 (fun (s : (List Af) × Int) o => E7 x1 s.1 s.2 o) (([] : List Af), 0) r
def Ch (x1 : Ag) (x20 : Int) (x21 : Int) (x22 : ByteArray) (r : Bool × Ag) : Prop :=
 if x20 < (x1.words.length : Int) then
  (0 ≤ x20 ∧ x20 < (x1.words.length : Int)) ∧
  if (ix x1.words x20).kind = x21 then
   r = ((seq ((ix x1.words x20).text) x22), x1)
  else
   r = (false, x1)
 else
  r = (false, x1)
def D3 (x1 : Ag) (x51 : Bool) (x52 : List Af) (x59 : Int) (x60 : Int) (x61 : List Ae) (x66 : List Ax) (x71 : Int) (x72 : Int) (r : Bool × Ag) : Prop :=
 if x51 = true then
  r = (true, (⟨x52, x59, x60, (⟨x61, x66⟩ : Aj), x71, x72⟩ : Ag))
 else
  ∃ r77 : Bool × Ag, (Ch (⟨x52, x59, x60, (⟨x61, x66⟩ : Aj), x71, x72⟩ : Ag) x1.at_ 5 (⟨#[40]⟩ : ByteArray) r77) ∧
  if r77.1 = true then
   r = (true, r77.2)
  else
   if x1.at_ < (r77.2.words.length : Int) then
    (0 ≤ x1.at_ ∧ x1.at_ < (r77.2.words.length : Int)) ∧
    if (ix r77.2.words x1.at_).kind = 2 then
     r = ((!(seq ((ix r77.2.words x1.at_).text) (⟨#[]⟩ : ByteArray))), r77.2)
    else
     r = (false, r77.2)
   else
    r = (false, r77.2)
def Gl (x1 : Ag) (r : Bool × Ag) : Prop :=
 if x1.at_ < (x1.words.length : Int) then
  (0 ≤ x1.at_ ∧ x1.at_ < (x1.words.length : Int)) ∧
  if (ix x1.words x1.at_).kind = 1 then
   if (ix x1.words x1.at_).text = (⟨#[95]⟩ : ByteArray) then
    D3 x1 false x1.words x1.at_ x1.end_ x1.q.nodes x1.q.conds x1.code x1.place r
   else
    ∃ r113 : Bool × Ag, (Ch x1 (w64 (x1.at_ + 1)) 5 (⟨#[58]⟩ : ByteArray) r113) ∧
    D3 x1 r113.1 r113.2.words r113.2.at_ r113.2.end_ r113.2.q.nodes r113.2.q.conds r113.2.code r113.2.place r
  else
   D3 x1 false x1.words x1.at_ x1.end_ x1.q.nodes x1.q.conds x1.code x1.place r
 else
  D3 x1 false x1.words x1.at_ x1.end_ x1.q.nodes x1.q.conds x1.code x1.place r
def Bq (x1 : Ag) (x20 : Int) (x21 : Int) (r : Ag) : Prop :=
 if x1.code = 0 then
  if x21 < (x1.words.length : Int) then
   (0 ≤ x21 ∧ x21 < (x1.words.length : Int)) ∧
   r = (⟨x1.words, x1.at_, x1.end_, x1.q, x20, (ix x1.words x21).at_⟩ : Ag)
  else
   r = (⟨x1.words, x1.at_, x1.end_, x1.q, x20, x1.end_⟩ : Ag)
 else
  r = x1
def C1 (x1 : Ag) (x32 : Bool) (r : ByteArray × Ag) : Prop :=
 if x32 = true then
  ∃ r37 : Ag, (Bq x1 200 x1.at_ r37) ∧
  r = ((⟨#[]⟩ : ByteArray), r37)
 else
  (0 ≤ w64 ((w64 (x1.at_ + 1)) - 1) ∧ w64 ((w64 (x1.at_ + 1)) - 1) < (x1.words.length : Int)) ∧
  r = ((ix x1.words (w64 ((w64 (x1.at_ + 1)) - 1))).text, (⟨x1.words, w64 (x1.at_ + 1), x1.end_, x1.q, x1.code, x1.place⟩ : Ag))
def C5 (x1 : Ag) (r : ByteArray × Ag) : Prop :=
 if x1.at_ = (x1.words.length : Int) then
  C1 x1 true r
 else
  (0 ≤ x1.at_ ∧ x1.at_ < (x1.words.length : Int)) ∧
  if (ix x1.words x1.at_).kind = 1 then
   C1 x1 (seq ((ix x1.words x1.at_).text) (⟨#[95]⟩ : ByteArray)) r
  else
   C1 x1 true r
def Bx (x1 : Ag) (x20 : ByteArray) (r : Ag) : Prop :=
 ∃ r24 : Bool × Ag, (Ch x1 x1.at_ 5 x20 r24) ∧
 if r24.1 = true then
  r = (⟨r24.2.words, w64 (r24.2.at_ + 1), r24.2.end_, r24.2.q, r24.2.code, r24.2.place⟩ : Ag)
 else
  ∃ r49 : Ag, (Bq r24.2 200 r24.2.at_ r49) ∧
  r = r49
def C8 (r23 : Bool × Ag) (x634 : ByteArray) (x635 : Bool) (x156 : ByteArray) (x636 : Int) (x663 : Bool) (x664 : List Af) (x671 : Int) (x672 : Int) (x673 : List Ae) (x678 : List Ax) (x683 : Int) (x684 : Int) (r : Ag) : Prop :=
 if x663 = true then
  ∃ r689 : ByteArray × Ag, (C5 (⟨x664, w64 (x671 + 1), x672, (⟨x673, x678⟩ : Aj), x683, x684⟩ : Ag) r689) ∧
  ∃ r713 : Int, (Dg r689.2.q r689.1 r713) ∧
  if r713 ≥ 0 then
   ∃ r746 : Ag, (Bq r689.2 201 (w64 (x671 + 1)) r746) ∧
   (0 ≤ (r23.2.q.nodes.length : Int) ∧ (r23.2.q.nodes.length : Int) < (r746.q.nodes.length : Int)) ∧
   ∃ x768 : List Ae, (x768 = r746.q.nodes.set ((r23.2.q.nodes.length : Int) : Int).toNat (⟨x634, x635, x156, r689.1, x636⟩ : Ae)) ∧
   r = (⟨r746.words, r746.at_, r746.end_, (⟨x768, r746.q.conds⟩ : Aj), r746.code, r746.place⟩ : Ag)
  else
   (0 ≤ (r23.2.q.nodes.length : Int) ∧ (r23.2.q.nodes.length : Int) < (r689.2.q.nodes.length : Int)) ∧
   ∃ x774 : List Ae, (x774 = r689.2.q.nodes.set ((r23.2.q.nodes.length : Int) : Int).toNat (⟨x634, x635, x156, r689.1, x636⟩ : Ae)) ∧
   r = (⟨r689.2.words, r689.2.at_, r689.2.end_, (⟨x774, r689.2.q.conds⟩ : Aj), r689.2.code, r689.2.place⟩ : Ag)
 else
  (0 ≤ (r23.2.q.nodes.length : Int) ∧ (r23.2.q.nodes.length : Int) < (x673.length : Int)) ∧
  ∃ x780 : List Ae, (x780 = x673.set ((r23.2.q.nodes.length : Int) : Int).toNat (⟨x634, x635, x156, (⟨#[]⟩ : ByteArray), x636⟩ : Ae)) ∧
  r = (⟨x664, x671, x672, (⟨x780, x678⟩ : Aj), x683, x684⟩ : Ag)
def Bu (r23 : Bool × Ag) (x156 : ByteArray) (x613 : List Af) (x620 : Int) (x621 : Int) (x622 : List Ae) (x627 : List Ax) (x632 : Int) (x633 : Int) (x634 : ByteArray) (x635 : Bool) (x636 : Int) (r : Ag) : Prop :=
 if x632 = 0 then
  ∃ r789 : Bool × Ag, (Ch (⟨x613, x620, x621, (⟨x622, x627⟩ : Aj), x632, x633⟩ : Ag) x620 5 (⟨#[64]⟩ : ByteArray) r789) ∧
  C8 r23 x634 x635 x156 x636 r789.1 r789.2.words r789.2.at_ r789.2.end_ r789.2.q.nodes r789.2.q.conds r789.2.code r789.2.place r
 else
  C8 r23 x634 x635 x156 x636 false x613 x620 x621 x622 x627 x632 x633 r
def Bk (r23 : Bool × Ag) (x156 : ByteArray) (x909 : ByteArray) (rc_query_parser_pattern : Ag → Ag → Prop) (x1013 : List Af) (x1020 : Int) (x1021 : Int) (x1022 : List Ae) (x1027 : List Ax) (x1032 : Int) (x1033 : Int) (x1034 : Int) (o1 : Sum ((List Af) × Int × Int × (List Ae) × (List Ax) × Int × Int × Int) Ag) : Prop :=
 if x1032 = 0 then
  ∃ r1141 : Bool × Ag, (Ch (⟨x1013, x1020, x1021, (⟨x1022, x1027⟩ : Aj), x1032, x1033⟩ : Ag) x1020 5 (⟨#[41]⟩ : ByteArray) r1141) ∧
  if r1141.1 = true then
   ∃ r1166 : Ag, (Bx r1141.2 (⟨#[41]⟩ : ByteArray) r1166) ∧
   ∃ q1187 : Ag, (o1 = .inr (q1187)) ∧
   Bu r23 x156 r1166.words r1166.at_ r1166.end_ r1166.q.nodes r1166.q.conds r1166.code r1166.place x909 false x1034 q1187
  else
   ∃ r1192 : Ag, (rc_query_parser_pattern r1141.2 r1192) ∧
   o1 = .inl (r1192.words, r1192.at_, r1192.end_, r1192.q.nodes, r1192.q.conds, r1192.code, r1192.place, w64 (x1034 + 1))
 else
  ∃ r1216 : Ag, (Bx (⟨x1013, x1020, x1021, (⟨x1022, x1027⟩ : Aj), x1032, x1033⟩ : Ag) (⟨#[41]⟩ : ByteArray) r1216) ∧
  ∃ q1237 : Ag, (o1 = .inr (q1237)) ∧
  Bu r23 x156 r1216.words r1216.at_ r1216.end_ r1216.q.nodes r1216.q.conds r1216.code r1216.place x909 false x1034 q1237
def Bz (r23 : Bool × Ag) (x156 : ByteArray) (rc_query_parser_pattern : Ag → Ag → Prop) (x888 : List Af) (x895 : Int) (x896 : Int) (x897 : List Ae) (x902 : List Ax) (x907 : Int) (x908 : Int) (x909 : ByteArray) (r : Ag) : Prop :=
 B0 (fun (s : (List Af) × Int × Int × (List Ae) × (List Ax) × Int × Int × Int) o => Bk r23 x156 x909 rc_query_parser_pattern s.1 s.2.1 s.2.2.1 s.2.2.2.1 s.2.2.2.2.1 s.2.2.2.2.2.1 s.2.2.2.2.2.2.1 s.2.2.2.2.2.2.2 o) (x888, x895, x896, x897, x902, x907, x908, 0) r
def C0 (x142 : Int) (x135 : List Af) (r23 : Bool × Ag) (x156 : ByteArray) (x143 : Int) (x144 : List Ae) (x149 : List Ax) (x154 : Int) (x155 : Int) (rc_query_parser_pattern : Ag → Ag → Prop) (x169 : Bool) (r : Ag) : Prop :=
 if x169 = true then
  (0 ≤ x142 ∧ x142 < (x135.length : Int)) ∧
  Bu r23 x156 x135 (w64 (x142 + 1)) x143 x144 x149 x154 x155 ((ix x135 x142).text) true 0 r
 else
  ∃ r817 : Ag, (Bx (⟨x135, x142, x143, (⟨x144, x149⟩ : Aj), x154, x155⟩ : Ag) (⟨#[40]⟩ : ByteArray) r817) ∧
  ∃ r841 : Bool × Ag, (Ch r817 r817.at_ 1 (⟨#[95]⟩ : ByteArray) r841) ∧
  if r841.1 = true then
   Bz r23 x156 rc_query_parser_pattern r841.2.words (w64 (r841.2.at_ + 1)) r841.2.end_ r841.2.q.nodes r841.2.q.conds r841.2.code r841.2.place (⟨#[]⟩ : ByteArray) r
  else
   ∃ r1242 : ByteArray × Ag, (C5 r841.2 r1242) ∧
   Bz r23 x156 rc_query_parser_pattern r1242.2.words r1242.2.at_ r1242.2.end_ r1242.2.q.nodes r1242.2.q.conds r1242.2.code r1242.2.place r1242.1 r
def Ca (r23 : Bool × Ag) (rc_query_parser_pattern : Ag → Ag → Prop) (x135 : List Af) (x142 : Int) (x143 : Int) (x144 : List Ae) (x149 : List Ax) (x154 : Int) (x155 : Int) (x156 : ByteArray) (r : Ag) : Prop :=
 if x142 < (x135.length : Int) then
  (0 ≤ x142 ∧ x142 < (x135.length : Int)) ∧
  if (ix x135 x142).kind = 2 then
   C0 x142 x135 r23 x156 x143 x144 x149 x154 x155 rc_query_parser_pattern (!(seq ((ix x135 x142).text) (⟨#[]⟩ : ByteArray))) r
  else
   C0 x142 x135 r23 x156 x143 x144 x149 x154 x155 rc_query_parser_pattern false r
 else
  C0 x142 x135 r23 x156 x143 x144 x149 x154 x155 rc_query_parser_pattern false r
def E9 (rc_query_parser_pattern : Ag → Ag → Prop) (x1 : Ag) (r : Ag) : Prop :=
 ∃ r23 : Bool × Ag, (Gl x1 r23) ∧
 if r23.1 = true then
  if (r23.2.q.nodes.length : Int) = 32 then
   ∃ r49 : Ag, (Bq r23.2 202 r23.2.at_ r49) ∧
   r = r49
  else
   ∃ x76 : List Ae, (x76 = r23.2.q.nodes ++ ([(⟨(⟨#[]⟩ : ByteArray), false, (⟨#[]⟩ : ByteArray), (⟨#[]⟩ : ByteArray), 0⟩ : Ae)] : List Ae)) ∧
   (x76.length * 64 ≤ 211106232532992) ∧
   (0 ≤ r23.2.at_ ∧ r23.2.at_ < (r23.2.words.length : Int)) ∧
   if (ix r23.2.words r23.2.at_).kind = 1 then
    ∃ r1277 : ByteArray × Ag, (C5 (⟨r23.2.words, r23.2.at_, r23.2.end_, (⟨x76, r23.2.q.conds⟩ : Aj), r23.2.code, r23.2.place⟩ : Ag) r1277) ∧
    ∃ r1301 : Ag, (Bx r1277.2 (⟨#[58]⟩ : ByteArray) r1301) ∧
    Ca r23 rc_query_parser_pattern r1301.words r1301.at_ r1301.end_ r1301.q.nodes r1301.q.conds r1301.code r1301.place r1277.1 r
   else
    Ca r23 rc_query_parser_pattern r23.2.words r23.2.at_ r23.2.end_ x76 r23.2.q.conds r23.2.code r23.2.place (⟨#[]⟩ : ByteArray) r
 else
  ∃ r1325 : Ag, (Bq r23.2 200 r23.2.at_ r1325) ∧
  r = r1325
def Ba : Nat → Ag → Ag → Prop
 | 0 => fun _ _ => False
 | n + 1 => E9 (Ba n)
def Jn (x1 : Ag) (r : Ag) : Prop := ∃ n, Ba n x1 r
def Es (x1 : Ag) (r : ByteArray × Ag) : Prop :=
 ∃ r23 : Ag, (Bx x1 (⟨#[64]⟩ : ByteArray) r23) ∧
 if r23.code = 0 then
  ∃ r48 : ByteArray × Ag, (C5 r23 r48) ∧
  ∃ r73 : Int, (Dg r48.2.q r48.1 r73) ∧
  if r73 < 0 then
   ∃ r82 : Ag, (Bq r48.2 201 r23.at_ r82) ∧
   r = (r48.1, r82)
  else
   r = (r48.1, r48.2)
 else
  r = ((⟨#[]⟩ : ByteArray), r23)
def Cv (x201 : Int) (x194 : List Af) (x208 : List Ax) (x118 : Bool) (r147 : ByteArray × Ag) (x202 : Int) (x203 : List Ae) (x213 : Int) (x214 : Int) (x222 : Bool) (r : Ag) : Prop :=
 if x222 = true then
  (0 ≤ x201 ∧ x201 < (x194.length : Int)) ∧
  ∃ x234 : List Ax, (x234 = x208 ++ ([(⟨x118, r147.1, (⟨#[]⟩ : ByteArray), (ix x194 x201).text⟩ : Ax)] : List Ax)) ∧
  (x234.length * 56 ≤ 211106232532992) ∧
  r = (⟨x194, w64 (x201 + 1), x202, (⟨x203, x234⟩ : Aj), x213, x214⟩ : Ag)
 else
  if x213 = 0 then
   ∃ r261 : ByteArray × Ag, (Es (⟨x194, x201, x202, (⟨x203, x208⟩ : Aj), x213, x214⟩ : Ag) r261) ∧
   ∃ x288 : List Ax, (x288 = r261.2.q.conds ++ ([(⟨x118, r147.1, r261.1, (⟨#[]⟩ : ByteArray)⟩ : Ax)] : List Ax)) ∧
   (x288.length * 56 ≤ 211106232532992) ∧
   r = (⟨r261.2.words, r261.2.at_, r261.2.end_, (⟨r261.2.q.nodes, x288⟩ : Aj), r261.2.code, r261.2.place⟩ : Ag)
  else
   ∃ x317 : List Ax, (x317 = x208 ++ ([(⟨x118, r147.1, (⟨#[]⟩ : ByteArray), (⟨#[]⟩ : ByteArray)⟩ : Ax)] : List Ax)) ∧
   (x317.length * 56 ≤ 211106232532992) ∧
   r = (⟨x194, x201, x202, (⟨x203, x317⟩ : Aj), x213, x214⟩ : Ag)
def Cn (x118 : Bool) (r147 : ByteArray × Ag) (x194 : List Af) (x201 : Int) (x202 : Int) (x203 : List Ae) (x208 : List Ax) (x213 : Int) (x214 : Int) (r : Ag) : Prop :=
 if x213 = 0 then
  if x201 < (x194.length : Int) then
   (0 ≤ x201 ∧ x201 < (x194.length : Int)) ∧
   Cv x201 x194 x208 x118 r147 x202 x203 x213 x214 (((ix x194 x201).kind) == 2) r
  else
   Cv x201 x194 x208 x118 r147 x202 x203 x213 x214 false r
 else
  Cv x201 x194 x208 x118 r147 x202 x203 x213 x214 false r
def E3 (x97 : List Af) (x104 : Int) (x105 : Int) (x106 : List Ae) (x111 : List Ax) (x116 : Int) (x117 : Int) (x118 : Bool) (r : Ag) : Prop :=
 if (x111.length : Int) = 16 then
  ∃ r123 : Ag, (Bq (⟨x97, x104, x105, (⟨x106, x111⟩ : Aj), x116, x117⟩ : Ag) 202 x104 r123) ∧
  r = r123
 else
  ∃ r147 : ByteArray × Ag, (Es (⟨x97, w64 (x104 + 1), x105, (⟨x106, x111⟩ : Aj), x116, x117⟩ : Ag) r147) ∧
  if r147.2.code = 0 then
   ∃ r349 : Ag, (Bx r147.2 (⟨#[61]⟩ : ByteArray) r349) ∧
   Cn x118 r147 r349.words r349.at_ r349.end_ r349.q.nodes r349.q.conds r349.code r349.place r
  else
   Cn x118 r147 r147.2.words r147.2.at_ r147.2.end_ r147.2.q.nodes r147.2.q.conds r147.2.code r147.2.place r
def Ef (x1 : Ag) (r : Ag) : Prop :=
 ∃ r25 : Bool × Ag, (Ch x1 x1.at_ 1 (⟨#[117, 110, 108, 101, 115, 115]⟩ : ByteArray) r25) ∧
 if r25.1 = true then
  E3 r25.2.words r25.2.at_ r25.2.end_ r25.2.q.nodes r25.2.q.conds r25.2.code r25.2.place true r
 else
  ∃ r373 : Bool × Ag, (Ch r25.2 r25.2.at_ 1 (⟨#[119, 104, 101, 110]⟩ : ByteArray) r373) ∧
  if r373.1 = true then
   E3 r373.2.words r373.2.at_ r373.2.end_ r373.2.q.nodes r373.2.q.conds r373.2.code r373.2.place false r
  else
   ∃ r398 : Ag, (Bq r373.2 200 r373.2.at_ r398) ∧
   r = r398
def Dn (x76 : List Af) (x83 : Int) (x84 : Int) (x85 : List Ae) (x90 : List Ax) (x95 : Int) (x96 : Int) (o1 : Sum ((List Af) × Int × Int × (List Ae) × (List Ax) × Int × Int) (Aj × Int × Int)) : Prop :=
 if x95 = 0 then
  if x83 < (x76.length : Int) then
   ∃ r128 : Ag, (Ef (⟨x76, x83, x84, (⟨x85, x90⟩ : Aj), x95, x96⟩ : Ag) r128) ∧
   o1 = .inl (r128.words, r128.at_, r128.end_, r128.q.nodes, r128.q.conds, r128.code, r128.place)
  else
   o1 = .inr (((⟨x85, x90⟩ : Aj), 0, 0))
 else
  o1 = .inr (((⟨([] : List Ae), ([] : List Ax)⟩ : Aj), x95, x96))
def Ir (x1 : ByteArray) (r : Aj × Int × Int) : Prop :=
 ∃ r7 : (List Af) × Int × Int, (L1 x1 r7) ∧
 if r7.2.1 = 0 then
  ∃ r28 : Ag, (Jn (⟨r7.1, 0, (x1.size : Int), (⟨([] : List Ae), ([] : List Ax)⟩ : Aj), 0, 0⟩ : Ag) r28) ∧
  B0 (fun (s : (List Af) × Int × Int × (List Ae) × (List Ax) × Int × Int) o => Dn s.1 s.2.1 s.2.2.1 s.2.2.2.1 s.2.2.2.2.1 s.2.2.2.2.2.1 s.2.2.2.2.2.2 o) (r28.words, r28.at_, r28.end_, r28.q.nodes, r28.q.conds, r28.code, r28.place) r
 else
  r = ((⟨([] : List Ae), ([] : List Ax)⟩ : Aj), r7.2.1, r7.2.2)
def Dh (r4 : Aj × Int × Int) (x25 : Bool) (r : Bool) : Prop :=
 if x25 = true then
  r = false
 else
  ∃ r33 : List Cd, (Pq r4.1 ([(⟨(⟨#[115]⟩ : ByteArray), true, (⟨#[]⟩ : ByteArray), 0, 2, 2, -1⟩ : As), (⟨(⟨#[97]⟩ : ByteArray), true, (⟨#[]⟩ : ByteArray), 0, 1, 0, 0⟩ : As), (⟨(⟨#[97]⟩ : ByteArray), true, (⟨#[]⟩ : ByteArray), 1, 2, 0, 1⟩ : As)] : List As) (⟨#[121, 122]⟩ : ByteArray) r33) ∧
  ∃ r50 : List Cd, (Pq r4.1 ([(⟨(⟨#[115]⟩ : ByteArray), true, (⟨#[]⟩ : ByteArray), 0, 2, 2, -1⟩ : As), (⟨(⟨#[97]⟩ : ByteArray), true, (⟨#[]⟩ : ByteArray), 0, 1, 0, 0⟩ : As), (⟨(⟨#[97]⟩ : ByteArray), true, (⟨#[]⟩ : ByteArray), 1, 2, 0, 1⟩ : As)] : List As) (⟨#[122, 121]⟩ : ByteArray) r50) ∧
  ∃ r68 : ByteArray × Int, (L3 r4.1 r68) ∧
  if (r33.length : Int) = 1 then
   (0 ≤ (0 : Int) ∧ (0 : Int) < (r33.length : Int)) ∧
   ∃ r89 : Bool, (Fq ((ix r33 0).nodes) ([0, 1] : List Int) r89) ∧
   if r89 = true then
    if (r50.length : Int) = 0 then
     if r68.2 = 0 then
      r = (seq r68.1 (⟨#[40, 32, 115, 32, 40, 32, 97, 32, 41, 32, 64, 32, 120, 32, 41, 32, 119, 104, 101, 110, 32, 64, 32, 120, 32, 61, 32, 34, 121, 34]⟩ : ByteArray))
     else
      r = false
    else
     r = false
   else
    r = false
  else
   r = false
def Hw  (r : Bool) : Prop :=
 ∃ r4 : Aj × Int × Int, (Ir (⟨#[40, 115, 32, 40, 97, 41, 32, 64, 120, 41, 32, 119, 104, 101, 110, 32, 64, 120, 32, 61, 32, 34, 121, 34]⟩ : ByteArray) r4) ∧
 if r4.2.1 = 0 then
  if r4.2.2 = 0 then
   if (r4.1.nodes.length : Int) = 2 then
    Dh r4 ((r4.1.conds.length : Int) != 1) r
   else
    Dh r4 true r
  else
   Dh r4 true r
 else
  Dh r4 true r
def Fk (x82 : Bool) (r : Bool) : Prop :=
 r = x82
def Gr (x1 : Aj) (r : Bool) : Prop :=
 ∃ r15 : Bool, (Hw  r15) ∧
 if r15 = true then
  ∃ r24 : Bool, (Ia x1.nodes r24) ∧
  if r24 = true then
   r = true
  else
   ∃ r33 : ByteArray × Int, (L3 x1 r33) ∧
   ∃ r41 : Bool, (Iv x1 r41) ∧
   if r41 = true then
    ∃ r50 : Aj × Int × Int, (Ir r33.1 r50) ∧
    if (r33.1.size : Int) > 16384 then
     if r33.2 = 0 then
      r = (r50.2.1 == 80)
     else
      r = false
    else
     if r33.2 = 0 then
      if r50.2.1 = 0 then
       if r50.2.2 = 0 then
        ∃ r75 : Bool, (I1 x1 r50.1 r75) ∧
        r = r75
       else
        r = false
      else
       r = false
     else
      r = false
   else
    if r33.2 = 200 then
     Fk (seq r33.1 (⟨#[]⟩ : ByteArray)) r
    else
     Fk false r
 else
  r = false
end Go.Proofs.YtjookebbmfiidaaDoor.R
