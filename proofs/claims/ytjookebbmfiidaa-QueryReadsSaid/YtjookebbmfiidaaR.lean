/- What the functions answer, as plain relations, printed by my own tool off the program's translation. No condition. -/
import Derived.Test.YtjookebbmfiidaaP0
set_option linter.unusedVariables false
namespace Go.Proofs.Ytjookebbmfiidaa.R
open Go.Proofs.Ytjookebbmfiidaa.B
structure api_Word where
 kind : Int
 text : ByteArray
 n : Int
 at_ : Int
 deriving Inhabited, DecidableEq
structure api_PatNode where
 name : ByteArray
 lit : Bool
 field : ByteArray
 capture : ByteArray
 kids : Int
 deriving Inhabited, DecidableEq
structure api_Cond where
 not : Bool
 a : ByteArray
 b : ByteArray
 text : ByteArray
 deriving Inhabited, DecidableEq
structure api_Query where
 nodes : List api_PatNode
 conds : List api_Cond
 deriving Inhabited, DecidableEq
structure trellisref20_Reader where
 l : List api_Word
 at_ : Int
 q : api_Query
 e : Int
 pos : Int
 deriving Inhabited, DecidableEq
structure query_parser where
 words : List api_Word
 at_ : Int
 end_ : Int
 q : api_Query
 code : Int
 place : Int
 deriving Inhabited, DecidableEq
def trellisref8_in_b1 (x1 : ByteArray) (x2 : Int) (x7 : Int) (o1 : Sum Int Bool) : Prop :=
 if x7 < (x1.size : Int) then
  (0 ≤ x7 ∧ x7 < (x1.size : Int)) ∧
  if bt x1 x7 = x2 then
   o1 = .inr (true)
  else
   o1 = .inl (w64 (x7 + 1))
 else
  o1 = .inr (false)
def trellisref8_in (x1 : ByteArray) (x2 : Int) (r : Bool) : Prop :=
 Rounds (fun (s : Int) o => trellisref8_in_b1 x1 x2 s o) 0 r
def trellisref8_run_b1 (x2 : Int) (x1 : ByteArray) (x3 : ByteArray) (x16 : Int) (o1 : Sum Int Int) : Prop :=
 if w64 (x2 + x16) < (x1.size : Int) then
  (0 ≤ w64 (x2 + x16) ∧ w64 (x2 + x16) < (x1.size : Int)) ∧
  ∃ r33 : Bool, (trellisref8_in x3 (bt x1 (w64 (x2 + x16))) r33) ∧
  if r33 = true then
   o1 = .inl (w64 (x16 + 1))
  else
   o1 = .inr (x16)
 else
  o1 = .inr (x16)
def trellisref8_run (x1 : ByteArray) (x2 : Int) (x3 : ByteArray) (r : Int) : Prop :=
 Rounds (fun (s : Int) o => trellisref8_run_b1 x2 x1 x3 s o) 0 r
def trellisref8_number_b1 (x1 : ByteArray) (x6 : Int) (x7 : Int) (o1 : Sum (Int × Int) Int) : Prop :=
 if x7 < (x1.size : Int) then
  (0 ≤ x7 ∧ x7 < (x1.size : Int)) ∧
  if w64 ((w64 (10 * x6)) + (w64 (IntKind.u8.wrap ((bt x1 x7) - 48)))) > 65535 then
   o1 = .inl (65536, w64 (x7 + 1))
  else
   o1 = .inl (w64 ((w64 (10 * x6)) + (w64 (IntKind.u8.wrap ((bt x1 x7) - 48)))), w64 (x7 + 1))
 else
  o1 = .inr (x6)
def trellisref8_number (x1 : ByteArray) (r : Int) : Prop :=
 Rounds (fun (s : Int × Int) o => trellisref8_number_b1 x1 s.1 s.2 o) (0, 0) r
def trellisref8_hex_b1 (x1 : Int) (x5 : Int) (o1 : Sum Int Int) : Prop :=
 if x5 < 16 then
  (0 ≤ x5 ∧ x5 < ((⟨#[48, 49, 50, 51, 52, 53, 54, 55, 56, 57, 97, 98, 99, 100, 101, 102, 65, 66, 67, 68, 69, 70]⟩ : ByteArray).size : Int)) ∧
  if bt (⟨#[48, 49, 50, 51, 52, 53, 54, 55, 56, 57, 97, 98, 99, 100, 101, 102, 65, 66, 67, 68, 69, 70]⟩ : ByteArray) x5 = x1 then
   o1 = .inr (x5)
  else
   o1 = .inl (w64 (x5 + 1))
 else
  o1 = .inr (w64 ((w64 (IntKind.u8.wrap (x1 - 65))) + 10))
def trellisref8_hex (x1 : Int) (r : Int) : Prop :=
 Rounds (fun (s : Int) o => trellisref8_hex_b1 x1 s o) 0 r
def trellisref8_Escape (x1 : ByteArray) (x2 : Int) (r : Int × Int) : Prop :=
 if w64 (x2 + 1) ≥ (x1.size : Int) then
  r = (0, 0)
 else
  (0 ≤ w64 (x2 + 1) ∧ w64 (x2 + 1) < (x1.size : Int)) ∧
  if bt x1 (w64 (x2 + 1)) = 34 then
   r = (2, 34)
  else
   if bt x1 (w64 (x2 + 1)) = 92 then
    r = (2, 92)
   else
    if bt x1 (w64 (x2 + 1)) = 110 then
     r = (2, 10)
    else
     if bt x1 (w64 (x2 + 1)) = 116 then
      r = (2, 9)
     else
      if bt x1 (w64 (x2 + 1)) = 114 then
       r = (2, 13)
      else
       if bt x1 (w64 (x2 + 1)) = 120 then
        ∃ r14 : Int, (trellisref8_run x1 (w64 (x2 + 2)) (⟨#[48, 49, 50, 51, 52, 53, 54, 55, 56, 57, 97, 98, 99, 100, 101, 102, 65, 66, 67, 68, 69, 70]⟩ : ByteArray) r14) ∧
        if r14 ≥ 2 then
         (0 ≤ w64 (x2 + 2) ∧ w64 (x2 + 2) < (x1.size : Int)) ∧
         ∃ r24 : Int, (trellisref8_hex (bt x1 (w64 (x2 + 2))) r24) ∧
         (0 ≤ w64 (x2 + 3) ∧ w64 (x2 + 3) < (x1.size : Int)) ∧
         ∃ r33 : Int, (trellisref8_hex (bt x1 (w64 (x2 + 3))) r33) ∧
         r = (4, IntKind.u8.wrap (w64 ((w64 (16 * r24)) + r33)))
        else
         r = (0, 0)
       else
        r = (0, 0)
def trellisref8_str_j2 (x48 : Int) (x1 : ByteArray) (x43 : List Int) (x2 : Int) (x89 : Bool) (o1 : Sum ((List Int) × Int) (Int × ByteArray × Int × Int)) : Prop :=
 if x89 = true then
  (0 ≤ x48 ∧ x48 < (x1.size : Int)) ∧
  if bt x1 x48 = 34 then
   o1 = .inr ((w64 (x48 + 1), ofBs x43, 0, 0))
  else
   if bt x1 x48 = 92 then
    ∃ r97 : Int × Int, (trellisref8_Escape x1 x48 r97) ∧
    if r97.1 = 0 then
     o1 = .inr ((0, (⟨#[]⟩ : ByteArray), 82, x48))
    else
     ∃ x109 : List Int, (x109 = x43 ++ ([r97.2] : List Int)) ∧
     (x109.length * 1 ≤ 211106232532992) ∧
     o1 = .inl (x109, w64 (x48 + r97.1))
   else
    ∃ x118 : List Int, (x118 = x43 ++ ([bt x1 x48] : List Int)) ∧
    (x118.length * 1 ≤ 211106232532992) ∧
    o1 = .inl (x118, w64 (x48 + 1))
 else
  o1 = .inr ((0, (⟨#[]⟩ : ByteArray), 82, x2))
def trellisref8_str_b1 (x1 : ByteArray) (x2 : Int) (x43 : List Int) (x48 : Int) (o1 : Sum ((List Int) × Int) (Int × ByteArray × Int × Int)) : Prop :=
 if x48 < (x1.size : Int) then
  (0 ≤ x48 ∧ x48 < (x1.size : Int)) ∧
  trellisref8_str_j2 x48 x1 x43 x2 ((bt x1 x48) != 10) o1
 else
  trellisref8_str_j2 x48 x1 x43 x2 false o1
def trellisref8_str (x1 : ByteArray) (x2 : Int) (r : Int × ByteArray × Int × Int) : Prop :=
 Rounds (fun (s : (List Int) × Int) o => trellisref8_str_b1 x1 x2 s.1 s.2 o) (([] : List Int), w64 (x2 + 1)) r
def trellisref8_regex_j2 (x17 : Int) (x1 : ByteArray) (x34 : Bool) (o1 : Sum Int Int) : Prop :=
 if x34 = true then
  (0 ≤ x17 ∧ x17 < (x1.size : Int)) ∧
  if bt x1 x17 = 47 then
   o1 = .inr (w64 (x17 + 1))
  else
   if bt x1 x17 = 92 then
    if w64 (x17 + 1) < (x1.size : Int) then
     (0 ≤ w64 (x17 + 1) ∧ w64 (x17 + 1) < (x1.size : Int)) ∧
     if bt x1 (w64 (x17 + 1)) = 10 then
      o1 = .inl (w64 (x17 + 1))
     else
      o1 = .inl (w64 ((w64 (x17 + 1)) + 1))
    else
     o1 = .inl (w64 (x17 + 1))
   else
    o1 = .inl (w64 (x17 + 1))
 else
  o1 = .inr (0)
def trellisref8_regex_b1 (x1 : ByteArray) (x17 : Int) (o1 : Sum Int Int) : Prop :=
 if x17 < (x1.size : Int) then
  (0 ≤ x17 ∧ x17 < (x1.size : Int)) ∧
  trellisref8_regex_j2 x17 x1 ((bt x1 x17) != 10) o1
 else
  trellisref8_regex_j2 x17 x1 false o1
def trellisref8_regex (x1 : ByteArray) (x2 : Int) (r : Int) : Prop :=
 Rounds (fun (s : Int) o => trellisref8_regex_b1 x1 s o) (w64 (x2 + 1)) r
def trellisref8_Word (x1 : ByteArray) (x2 : Int) (r : api_Word × Int × Int × Int) : Prop :=
 (0 ≤ x2 ∧ x2 < (x1.size : Int)) ∧
 ∃ r9 : Bool, (trellisref8_in (⟨#[65, 66, 67, 68, 69, 70, 71, 72, 73, 74, 75, 76, 77, 78, 79, 80, 81, 82, 83, 84, 85, 86, 87, 88, 89, 90, 97, 98, 99, 100, 101, 102, 103, 104, 105, 106, 107, 108, 109, 110, 111, 112, 113, 114, 115, 116, 117, 118, 119, 120, 121, 122, 95]⟩ : ByteArray) (bt x1 x2) r9) ∧
 if r9 = true then
  ∃ r18 : Int, (trellisref8_run x1 x2 (⟨#[65, 66, 67, 68, 69, 70, 71, 72, 73, 74, 75, 76, 77, 78, 79, 80, 81, 82, 83, 84, 85, 86, 87, 88, 89, 90, 97, 98, 99, 100, 101, 102, 103, 104, 105, 106, 107, 108, 109, 110, 111, 112, 113, 114, 115, 116, 117, 118, 119, 120, 121, 122, 95, 48, 49, 50, 51, 52, 53, 54, 55, 56, 57]⟩ : ByteArray) r18) ∧
  if r18 > 24 then
   r = ((⟨0, (⟨#[]⟩ : ByteArray), 0, 0⟩ : api_Word), 0, 83, x2)
  else
   (0 ≤ x2 ∧ x2 ≤ w64 (x2 + r18) ∧ w64 (x2 + r18) ≤ (x1.size : Int)) ∧
   r = ((⟨1, x1.extract (x2 : Int).toNat (w64 (x2 + r18) : Int).toNat, 0, x2⟩ : api_Word), w64 (x2 + r18), 0, 0)
 else
  ∃ r28 : Bool, (trellisref8_in (⟨#[48, 49, 50, 51, 52, 53, 54, 55, 56, 57]⟩ : ByteArray) (bt x1 x2) r28) ∧
  if r28 = true then
   ∃ r37 : Int, (trellisref8_run x1 x2 (⟨#[48, 49, 50, 51, 52, 53, 54, 55, 56, 57]⟩ : ByteArray) r37) ∧
   (0 ≤ x2 ∧ x2 ≤ w64 (x2 + r37) ∧ w64 (x2 + r37) ≤ (x1.size : Int)) ∧
   ∃ r46 : Int, (trellisref8_number (x1.extract (x2 : Int).toNat (w64 (x2 + r37) : Int).toNat) r46) ∧
   if r46 > 65535 then
    r = ((⟨0, (⟨#[]⟩ : ByteArray), 0, 0⟩ : api_Word), 0, 84, x2)
   else
    r = ((⟨4, (⟨#[]⟩ : ByteArray), r46, x2⟩ : api_Word), w64 (x2 + r37), 0, 0)
  else
   if bt x1 x2 = 34 then
    ∃ r56 : Int × ByteArray × Int × Int, (trellisref8_str x1 x2 r56) ∧
    if r56.2.2.1 = 0 then
     r = ((⟨2, r56.2.1, 0, x2⟩ : api_Word), r56.1, 0, 0)
    else
     r = ((⟨0, (⟨#[]⟩ : ByteArray), 0, 0⟩ : api_Word), 0, r56.2.2.1, r56.2.2.2)
   else
    if bt x1 x2 = 47 then
     ∃ r66 : Int, (trellisref8_regex x1 x2 r66) ∧
     if r66 = 0 then
      r = ((⟨0, (⟨#[]⟩ : ByteArray), 0, 0⟩ : api_Word), 0, 82, x2)
     else
      (0 ≤ w64 (x2 + 1) ∧ w64 (x2 + 1) ≤ w64 (r66 - 1) ∧ w64 (r66 - 1) ≤ (x1.size : Int)) ∧
      r = ((⟨3, x1.extract (w64 (x2 + 1) : Int).toNat (w64 (r66 - 1) : Int).toNat, 0, x2⟩ : api_Word), r66, 0, 0)
    else
     ∃ r76 : Bool, (trellisref8_in (⟨#[123, 125, 40, 41, 124, 42, 43, 63, 58, 59, 44, 61, 64]⟩ : ByteArray) (bt x1 x2) r76) ∧
     if r76 = true then
      (0 ≤ x2 ∧ x2 ≤ w64 (x2 + 1) ∧ w64 (x2 + 1) ≤ (x1.size : Int)) ∧
      r = ((⟨5, x1.extract (x2 : Int).toNat (w64 (x2 + 1) : Int).toNat, 0, x2⟩ : api_Word), w64 (x2 + 1), 0, 0)
     else
      r = ((⟨0, (⟨#[]⟩ : ByteArray), 0, 0⟩ : api_Word), 0, 81, x2)
def trellisref8_Cut_b2 (x1 : ByteArray) (x46 : List api_Word) (x107 : Int) (o2 : Sum Int (Sum ((List api_Word) × Int) ((List api_Word) × Int × Int))) : Prop :=
 if x107 < (x1.size : Int) then
  (0 ≤ x107 ∧ x107 < (x1.size : Int)) ∧
  if bt x1 x107 = 10 then
   o2 = .inr (.inl (x46, x107))
  else
   o2 = .inl (w64 (x107 + 1))
 else
  o2 = .inr (.inl (x46, x107))
def trellisref8_Cut_b1 (x1 : ByteArray) (x46 : List api_Word) (x51 : Int) (o1 : Sum ((List api_Word) × Int) ((List api_Word) × Int × Int)) : Prop :=
 if x51 < (x1.size : Int) then
  (0 ≤ x51 ∧ x51 < (x1.size : Int)) ∧
  ∃ r98 : Bool, (trellisref8_in (⟨#[32, 9, 13, 10]⟩ : ByteArray) (bt x1 x51) r98) ∧
  if r98 = true then
   o1 = .inl (x46, w64 (x51 + 1))
  else
   if bt x1 x51 = 35 then
    Rounds (fun (s : Int) o => trellisref8_Cut_b2 x1 x46 s o) x51 o1
   else
    ∃ r117 : api_Word × Int × Int × Int, (trellisref8_Word x1 x51 r117) ∧
    if r117.2.2.1 = 0 then
     ∃ x131 : List api_Word, (x131 = x46 ++ ([r117.1] : List api_Word)) ∧
     (x131.length * 40 ≤ 211106232532992) ∧
     o1 = .inl (x131, r117.2.1)
    else
     o1 = .inr ((([] : List api_Word), r117.2.2.1, r117.2.2.2))
 else
  o1 = .inr ((x46, 0, 0))
def trellisref8_Cut (x1 : ByteArray) (r : (List api_Word) × Int × Int) : Prop :=
 if (x1.size : Int) > 16384 then
  r = (([] : List api_Word), 80, 16384)
 else
  Rounds (fun (s : (List api_Word) × Int) o => trellisref8_Cut_b1 x1 s.1 s.2 o) (([] : List api_Word), 0) r
def trellisref20_Reader_named (x1 : trellisref20_Reader) (x20 : Int) (r : Bool × trellisref20_Reader) : Prop :=
 if x20 < (x1.l.length : Int) then
  (0 ≤ x20 ∧ x20 < (x1.l.length : Int)) ∧
  if (ix x1.l x20).kind = 1 then
   r = ((!(seq ((ix x1.l x20).text) (⟨#[95]⟩ : ByteArray))), x1)
  else
   r = (false, x1)
 else
  r = (false, x1)
def trellisref20_Reader_sees (x1 : trellisref20_Reader) (x20 : Int) (x21 : Int) (x22 : ByteArray) (r : Bool × trellisref20_Reader) : Prop :=
 if x20 < (x1.l.length : Int) then
  (0 ≤ x20 ∧ x20 < (x1.l.length : Int)) ∧
  if (ix x1.l x20).kind = x21 then
   r = ((seq ((ix x1.l x20).text) x22), x1)
  else
   r = (false, x1)
 else
  r = (false, x1)
def trellisref20_Reader_text (x1 : trellisref20_Reader) (x20 : Int) (r : Bool × trellisref20_Reader) : Prop :=
 if x20 < (x1.l.length : Int) then
  (0 ≤ x20 ∧ x20 < (x1.l.length : Int)) ∧
  if (ix x1.l x20).kind = 2 then
   r = ((!(seq ((ix x1.l x20).text) (⟨#[]⟩ : ByteArray))), x1)
  else
   r = (false, x1)
 else
  r = (false, x1)
def trellisref20_Reader_stop (x1 : trellisref20_Reader) (x20 : Int) (x21 : Int) (r : trellisref20_Reader) : Prop :=
 if x1.e = 0 then
  r = (⟨x1.l, x1.at_, x1.q, x20, x21⟩ : trellisref20_Reader)
 else
  r = x1
def trellisref20_Reader_take (x1 : trellisref20_Reader) (x20 : Int) (x21 : ByteArray) (r : trellisref20_Reader) : Prop :=
 ∃ r25 : Bool × trellisref20_Reader, (trellisref20_Reader_sees x1 x1.at_ x20 x21 r25) ∧
 if r25.1 = true then
  r = (⟨r25.2.l, w64 (r25.2.at_ + 1), r25.2.q, r25.2.e, r25.2.pos⟩ : trellisref20_Reader)
 else
  ∃ r50 : trellisref20_Reader, (trellisref20_Reader_stop r25.2 200 r25.2.at_ r50) ∧
  r = (⟨r50.l, w64 (r50.at_ + 1), r50.q, r50.e, r50.pos⟩ : trellisref20_Reader)
def trellisref20_Reader_takeName (x1 : trellisref20_Reader) (r : ByteArray × trellisref20_Reader) : Prop :=
 ∃ r23 : Bool × trellisref20_Reader, (trellisref20_Reader_named x1 x1.at_ r23) ∧
 if r23.1 = true then
  (0 ≤ w64 ((w64 (r23.2.at_ + 1)) - 1) ∧ w64 ((w64 (r23.2.at_ + 1)) - 1) < (r23.2.l.length : Int)) ∧
  r = ((ix r23.2.l (w64 ((w64 (r23.2.at_ + 1)) - 1))).text, (⟨r23.2.l, w64 (r23.2.at_ + 1), r23.2.q, r23.2.e, r23.2.pos⟩ : trellisref20_Reader))
 else
  ∃ r52 : trellisref20_Reader, (trellisref20_Reader_stop r23.2 200 r23.2.at_ r52) ∧
  r = ((⟨#[]⟩ : ByteArray), r52)
def trellisref20_Node_b1 (x1 : api_Query) (x10 : ByteArray) (x19 : Int) (o1 : Sum Int Int) : Prop :=
 if x19 < (x1.nodes.length : Int) then
  if x10 = (⟨#[]⟩ : ByteArray) then
   o1 = .inl (w64 (x19 + 1))
  else
   (0 ≤ x19 ∧ x19 < (x1.nodes.length : Int)) ∧
   if (ix x1.nodes x19).capture = x10 then
    o1 = .inr (x19)
   else
    o1 = .inl (w64 (x19 + 1))
 else
  o1 = .inr (-1)
def trellisref20_Node (x1 : api_Query) (x10 : ByteArray) (r : Int) : Prop :=
 Rounds (fun (s : Int) o => trellisref20_Node_b1 x1 x10 s o) 0 r
def trellisref20_Reader_pattern_j5 (x152 : List api_PatNode) (x644 : ByteArray) (x645 : Bool) (x251 : ByteArray) (x646 : Int) (x673 : Bool) (x674 : List api_Word) (x681 : Int) (x682 : List api_PatNode) (x687 : List api_Cond) (x692 : Int) (x693 : Int) (r : trellisref20_Reader) : Prop :=
 if x673 = true then
  ∃ r698 : ByteArray × trellisref20_Reader, (trellisref20_Reader_takeName (⟨x674, w64 (x681 + 1), (⟨x682, x687⟩ : api_Query), x692, x693⟩ : trellisref20_Reader) r698) ∧
  ∃ r722 : Int, (trellisref20_Node r698.2.q r698.1 r722) ∧
  if r722 ≥ 0 then
   ∃ r755 : trellisref20_Reader, (trellisref20_Reader_stop r698.2 201 (w64 (r698.2.at_ - 1)) r755) ∧
   (0 ≤ (x152.length : Int) ∧ (x152.length : Int) < (r755.q.nodes.length : Int)) ∧
   ∃ x777 : List api_PatNode, (x777 = r755.q.nodes.set ((x152.length : Int) : Int).toNat (⟨x644, x645, x251, r698.1, x646⟩ : api_PatNode)) ∧
   r = (⟨r755.l, r755.at_, (⟨x777, r755.q.conds⟩ : api_Query), r755.e, r755.pos⟩ : trellisref20_Reader)
  else
   (0 ≤ (x152.length : Int) ∧ (x152.length : Int) < (r698.2.q.nodes.length : Int)) ∧
   ∃ x783 : List api_PatNode, (x783 = r698.2.q.nodes.set ((x152.length : Int) : Int).toNat (⟨x644, x645, x251, r698.1, x646⟩ : api_PatNode)) ∧
   r = (⟨r698.2.l, r698.2.at_, (⟨x783, r698.2.q.conds⟩ : api_Query), r698.2.e, r698.2.pos⟩ : trellisref20_Reader)
 else
  (0 ≤ (x152.length : Int) ∧ (x152.length : Int) < (x682.length : Int)) ∧
  ∃ x789 : List api_PatNode, (x789 = x682.set ((x152.length : Int) : Int).toNat (⟨x644, x645, x251, (⟨#[]⟩ : ByteArray), x646⟩ : api_PatNode)) ∧
  r = (⟨x674, x681, (⟨x789, x687⟩ : api_Query), x692, x693⟩ : trellisref20_Reader)
def trellisref20_Reader_pattern_j4 (x152 : List api_PatNode) (x251 : ByteArray) (x624 : List api_Word) (x631 : Int) (x632 : List api_PatNode) (x637 : List api_Cond) (x642 : Int) (x643 : Int) (x644 : ByteArray) (x645 : Bool) (x646 : Int) (r : trellisref20_Reader) : Prop :=
 if x642 = 0 then
  ∃ r798 : Bool × trellisref20_Reader, (trellisref20_Reader_sees (⟨x624, x631, (⟨x632, x637⟩ : api_Query), x642, x643⟩ : trellisref20_Reader) x631 5 (⟨#[64]⟩ : ByteArray) r798) ∧
  trellisref20_Reader_pattern_j5 x152 x644 x645 x251 x646 r798.1 r798.2.l r798.2.at_ r798.2.q.nodes r798.2.q.conds r798.2.e r798.2.pos r
 else
  trellisref20_Reader_pattern_j5 x152 x644 x645 x251 x646 false x624 x631 x632 x637 x642 x643 r
def trellisref20_Reader_pattern_b8 (x152 : List api_PatNode) (x251 : ByteArray) (x941 : ByteArray) (rc_trellisref20_Reader_pattern : trellisref20_Reader → trellisref20_Reader → Prop) (x997 : List api_Word) (x1004 : Int) (x1005 : List api_PatNode) (x1010 : List api_Cond) (x1015 : Int) (x1016 : Int) (x1017 : Int) (o1 : Sum ((List api_Word) × Int × (List api_PatNode) × (List api_Cond) × Int × Int × Int) trellisref20_Reader) : Prop :=
 if x1015 = 0 then
  ∃ r1076 : Bool × trellisref20_Reader, (trellisref20_Reader_sees (⟨x997, x1004, (⟨x1005, x1010⟩ : api_Query), x1015, x1016⟩ : trellisref20_Reader) x1004 5 (⟨#[41]⟩ : ByteArray) r1076) ∧
  if r1076.1 = true then
   ∃ q1098 : trellisref20_Reader, (o1 = .inr (q1098)) ∧
   trellisref20_Reader_pattern_j4 x152 x251 r1076.2.l (w64 (r1076.2.at_ + 1)) r1076.2.q.nodes r1076.2.q.conds r1076.2.e r1076.2.pos x941 false x1017 q1098
  else
   ∃ r1103 : trellisref20_Reader, (rc_trellisref20_Reader_pattern r1076.2 r1103) ∧
   o1 = .inl (r1103.l, r1103.at_, r1103.q.nodes, r1103.q.conds, r1103.e, r1103.pos, w64 (x1017 + 1))
 else
  ∃ q1124 : trellisref20_Reader, (o1 = .inr (q1124)) ∧
  trellisref20_Reader_pattern_j4 x152 x251 x997 (w64 (x1004 + 1)) x1005 x1010 x1015 x1016 x941 false x1017 q1124
def trellisref20_Reader_pattern_j7 (x152 : List api_PatNode) (x251 : ByteArray) (rc_trellisref20_Reader_pattern : trellisref20_Reader → trellisref20_Reader → Prop) (x921 : List api_Word) (x928 : Int) (x929 : List api_PatNode) (x934 : List api_Cond) (x939 : Int) (x940 : Int) (x941 : ByteArray) (r : trellisref20_Reader) : Prop :=
 Rounds (fun (s : (List api_Word) × Int × (List api_PatNode) × (List api_Cond) × Int × Int × Int) o => trellisref20_Reader_pattern_b8 x152 x251 x941 rc_trellisref20_Reader_pattern s.1 s.2.1 s.2.2.1 s.2.2.2.1 s.2.2.2.2.1 s.2.2.2.2.2.1 s.2.2.2.2.2.2 o) (x921, x928, x929, x934, x939, x940, 0) r
def trellisref20_Reader_pattern_j6 (x152 : List api_PatNode) (x251 : ByteArray) (rc_trellisref20_Reader_pattern : trellisref20_Reader → trellisref20_Reader → Prop) (x873 : Bool) (x874 : List api_Word) (x881 : Int) (x882 : List api_PatNode) (x887 : List api_Cond) (x892 : Int) (x893 : Int) (r : trellisref20_Reader) : Prop :=
 if x873 = true then
  trellisref20_Reader_pattern_j7 x152 x251 rc_trellisref20_Reader_pattern x874 (w64 (x881 + 1)) x882 x887 x892 x893 (⟨#[]⟩ : ByteArray) r
 else
  if x892 = 0 then
   ∃ r1130 : ByteArray × trellisref20_Reader, (trellisref20_Reader_takeName (⟨x874, x881, (⟨x882, x887⟩ : api_Query), x892, x893⟩ : trellisref20_Reader) r1130) ∧
   trellisref20_Reader_pattern_j7 x152 x251 rc_trellisref20_Reader_pattern r1130.2.l r1130.2.at_ r1130.2.q.nodes r1130.2.q.conds r1130.2.e r1130.2.pos r1130.1 r
  else
   trellisref20_Reader_pattern_j7 x152 x251 rc_trellisref20_Reader_pattern x874 x881 x882 x887 x892 x893 (⟨#[]⟩ : ByteArray) r
def trellisref20_Reader_pattern_j3 (x144 : List api_Word) (x222 : List api_PatNode) (x157 : List api_Cond) (x162 : Int) (x163 : Int) (x152 : List api_PatNode) (rc_trellisref20_Reader_pattern : trellisref20_Reader → trellisref20_Reader → Prop) (x251 : ByteArray) (x252 : Int) (r : trellisref20_Reader) : Prop :=
 ∃ r256 : Bool × trellisref20_Reader, (trellisref20_Reader_text (⟨x144, x252, (⟨x222, x157⟩ : api_Query), x162, x163⟩ : trellisref20_Reader) x252 r256) ∧
 if r256.1 = true then
  (0 ≤ r256.2.at_ ∧ r256.2.at_ < (r256.2.l.length : Int)) ∧
  trellisref20_Reader_pattern_j4 x152 x251 r256.2.l (w64 (r256.2.at_ + 1)) r256.2.q.nodes r256.2.q.conds r256.2.e r256.2.pos ((ix r256.2.l r256.2.at_).text) true 0 r
 else
  ∃ r826 : trellisref20_Reader, (trellisref20_Reader_take r256.2 5 (⟨#[40]⟩ : ByteArray) r826) ∧
  if r826.e = 0 then
   ∃ r1155 : Bool × trellisref20_Reader, (trellisref20_Reader_sees r826 r826.at_ 1 (⟨#[95]⟩ : ByteArray) r1155) ∧
   trellisref20_Reader_pattern_j6 x152 x251 rc_trellisref20_Reader_pattern r1155.1 r1155.2.l r1155.2.at_ r1155.2.q.nodes r1155.2.q.conds r1155.2.e r1155.2.pos r
  else
   trellisref20_Reader_pattern_j6 x152 x251 rc_trellisref20_Reader_pattern false r826.l r826.at_ r826.q.nodes r826.q.conds r826.e r826.pos r
def trellisref20_Reader_pattern_j2 (x71 : Bool) (rc_trellisref20_Reader_pattern : trellisref20_Reader → trellisref20_Reader → Prop) (x143 : Bool) (x144 : List api_Word) (x151 : Int) (x152 : List api_PatNode) (x157 : List api_Cond) (x162 : Int) (x163 : Int) (r : trellisref20_Reader) : Prop :=
 if x143 = true then
  ∃ r168 : trellisref20_Reader, (trellisref20_Reader_stop (⟨x144, x151, (⟨x152, x157⟩ : api_Query), x162, x163⟩ : trellisref20_Reader) 200 x151 r168) ∧
  r = r168
 else
  if (x152.length : Int) ≥ 32 then
   ∃ r193 : trellisref20_Reader, (trellisref20_Reader_stop (⟨x144, x151, (⟨x152, x157⟩ : api_Query), x162, x163⟩ : trellisref20_Reader) 202 x151 r193) ∧
   r = r193
  else
   ∃ x222 : List api_PatNode, (x222 = x152 ++ ([(⟨(⟨#[]⟩ : ByteArray), false, (⟨#[]⟩ : ByteArray), (⟨#[]⟩ : ByteArray), 0⟩ : api_PatNode)] : List api_PatNode)) ∧
   (x222.length * 64 ≤ 211106232532992) ∧
   if x71 = true then
    (0 ≤ x151 ∧ x151 < (x144.length : Int)) ∧
    trellisref20_Reader_pattern_j3 x144 x222 x157 x162 x163 x152 rc_trellisref20_Reader_pattern ((ix x144 x151).text) (w64 (x151 + 2)) r
   else
    trellisref20_Reader_pattern_j3 x144 x222 x157 x162 x163 x152 rc_trellisref20_Reader_pattern (⟨#[]⟩ : ByteArray) x151 r
def trellisref20_Reader_pattern_j1 (rc_trellisref20_Reader_pattern : trellisref20_Reader → trellisref20_Reader → Prop) (x71 : Bool) (x72 : List api_Word) (x79 : Int) (x80 : List api_PatNode) (x85 : List api_Cond) (x90 : Int) (x91 : Int) (r : trellisref20_Reader) : Prop :=
 if x71 = true then
  trellisref20_Reader_pattern_j2 x71 rc_trellisref20_Reader_pattern false x72 x79 x80 x85 x90 x91 r
 else
  ∃ r1184 : Bool × trellisref20_Reader, (trellisref20_Reader_text (⟨x72, x79, (⟨x80, x85⟩ : api_Query), x90, x91⟩ : trellisref20_Reader) x79 r1184) ∧
  if r1184.1 = true then
   trellisref20_Reader_pattern_j2 x71 rc_trellisref20_Reader_pattern false r1184.2.l r1184.2.at_ r1184.2.q.nodes r1184.2.q.conds r1184.2.e r1184.2.pos r
  else
   ∃ r1209 : Bool × trellisref20_Reader, (trellisref20_Reader_sees r1184.2 r1184.2.at_ 5 (⟨#[40]⟩ : ByteArray) r1209) ∧
   trellisref20_Reader_pattern_j2 x71 rc_trellisref20_Reader_pattern (!r1209.1) r1209.2.l r1209.2.at_ r1209.2.q.nodes r1209.2.q.conds r1209.2.e r1209.2.pos r
def trellisref20_Reader_pattern_body (rc_trellisref20_Reader_pattern : trellisref20_Reader → trellisref20_Reader → Prop) (x1 : trellisref20_Reader) (r : trellisref20_Reader) : Prop :=
 ∃ r1233 : Bool × trellisref20_Reader, (trellisref20_Reader_named x1 x1.at_ r1233) ∧
 if r1233.1 = true then
  ∃ r1258 : Bool × trellisref20_Reader, (trellisref20_Reader_sees r1233.2 (w64 (r1233.2.at_ + 1)) 5 (⟨#[58]⟩ : ByteArray) r1258) ∧
  trellisref20_Reader_pattern_j1 rc_trellisref20_Reader_pattern r1258.1 r1258.2.l r1258.2.at_ r1258.2.q.nodes r1258.2.q.conds r1258.2.e r1258.2.pos r
 else
  trellisref20_Reader_pattern_j1 rc_trellisref20_Reader_pattern false r1233.2.l r1233.2.at_ r1233.2.q.nodes r1233.2.q.conds r1233.2.e r1233.2.pos r
def trellisref20_Reader_pattern_n : Nat → trellisref20_Reader → trellisref20_Reader → Prop
 | 0 => fun _ _ => False
 | n + 1 => trellisref20_Reader_pattern_body (trellisref20_Reader_pattern_n n)
def trellisref20_Reader_pattern (x1 : trellisref20_Reader) (r : trellisref20_Reader) : Prop := ∃ n, trellisref20_Reader_pattern_n n x1 r
def trellisref20_Reader_capture_j1 (r48 : ByteArray × trellisref20_Reader) (x80 : Bool) (r : ByteArray × trellisref20_Reader) : Prop :=
 if x80 = true then
  ∃ r85 : trellisref20_Reader, (trellisref20_Reader_stop r48.2 201 (w64 (r48.2.at_ - 1)) r85) ∧
  r = (r48.1, r85)
 else
  r = (r48.1, r48.2)
def trellisref20_Reader_capture (x1 : trellisref20_Reader) (r : ByteArray × trellisref20_Reader) : Prop :=
 ∃ r23 : trellisref20_Reader, (trellisref20_Reader_take x1 5 (⟨#[64]⟩ : ByteArray) r23) ∧
 if r23.e = 0 then
  ∃ r48 : ByteArray × trellisref20_Reader, (trellisref20_Reader_takeName r23 r48) ∧
  if r48.2.e = 0 then
   ∃ r110 : Int, (trellisref20_Node r48.2.q r48.1 r110) ∧
   trellisref20_Reader_capture_j1 r48 (decide (r110 < 0)) r
  else
   trellisref20_Reader_capture_j1 r48 false r
 else
  r = ((⟨#[]⟩ : ByteArray), r23)
def trellisref20_Reader_cond_j3 (x201 : Int) (x194 : List api_Word) (x207 : List api_Cond) (r23 : Bool × trellisref20_Reader) (r145 : ByteArray × trellisref20_Reader) (x202 : List api_PatNode) (x212 : Int) (x213 : Int) (x221 : Bool) (r : trellisref20_Reader) : Prop :=
 if x221 = true then
  (0 ≤ x201 ∧ x201 < (x194.length : Int)) ∧
  ∃ x233 : List api_Cond, (x233 = x207 ++ ([(⟨r23.1, r145.1, (⟨#[]⟩ : ByteArray), (ix x194 x201).text⟩ : api_Cond)] : List api_Cond)) ∧
  (x233.length * 56 ≤ 211106232532992) ∧
  r = (⟨x194, w64 (x201 + 1), (⟨x202, x233⟩ : api_Query), x212, x213⟩ : trellisref20_Reader)
 else
  ∃ r259 : ByteArray × trellisref20_Reader, (trellisref20_Reader_capture (⟨x194, x201, (⟨x202, x207⟩ : api_Query), x212, x213⟩ : trellisref20_Reader) r259) ∧
  ∃ x286 : List api_Cond, (x286 = r259.2.q.conds ++ ([(⟨r23.1, r145.1, r259.1, (⟨#[]⟩ : ByteArray)⟩ : api_Cond)] : List api_Cond)) ∧
  (x286.length * 56 ≤ 211106232532992) ∧
  r = (⟨r259.2.l, r259.2.at_, (⟨r259.2.q.nodes, x286⟩ : api_Query), r259.2.e, r259.2.pos⟩ : trellisref20_Reader)
def trellisref20_Reader_cond_j2 (r23 : Bool × trellisref20_Reader) (r145 : ByteArray × trellisref20_Reader) (x194 : List api_Word) (x201 : Int) (x202 : List api_PatNode) (x207 : List api_Cond) (x212 : Int) (x213 : Int) (r : trellisref20_Reader) : Prop :=
 if x212 = 0 then
  if x201 < (x194.length : Int) then
   (0 ≤ x201 ∧ x201 < (x194.length : Int)) ∧
   trellisref20_Reader_cond_j3 x201 x194 x207 r23 r145 x202 x212 x213 (((ix x194 x201).kind) == 2) r
  else
   trellisref20_Reader_cond_j3 x201 x194 x207 r23 r145 x202 x212 x213 false r
 else
  r = (⟨x194, x201, (⟨x202, x207⟩ : api_Query), x212, x213⟩ : trellisref20_Reader)
def trellisref20_Reader_cond_j1 (r23 : Bool × trellisref20_Reader) (x71 : Bool) (x72 : List api_Word) (x79 : Int) (x80 : List api_PatNode) (x85 : List api_Cond) (x90 : Int) (x91 : Int) (r : trellisref20_Reader) : Prop :=
 if x71 = true then
  ∃ r96 : trellisref20_Reader, (trellisref20_Reader_stop (⟨x72, x79, (⟨x80, x85⟩ : api_Query), x90, x91⟩ : trellisref20_Reader) 200 x79 r96) ∧
  r = r96
 else
  if (x85.length : Int) ≥ 16 then
   ∃ r121 : trellisref20_Reader, (trellisref20_Reader_stop (⟨x72, x79, (⟨x80, x85⟩ : api_Query), x90, x91⟩ : trellisref20_Reader) 202 x79 r121) ∧
   r = r121
  else
   ∃ r145 : ByteArray × trellisref20_Reader, (trellisref20_Reader_capture (⟨x72, w64 (x79 + 1), (⟨x80, x85⟩ : api_Query), x90, x91⟩ : trellisref20_Reader) r145) ∧
   if r145.2.e = 0 then
    ∃ r317 : trellisref20_Reader, (trellisref20_Reader_take r145.2 5 (⟨#[61]⟩ : ByteArray) r317) ∧
    trellisref20_Reader_cond_j2 r23 r145 r317.l r317.at_ r317.q.nodes r317.q.conds r317.e r317.pos r
   else
    trellisref20_Reader_cond_j2 r23 r145 r145.2.l r145.2.at_ r145.2.q.nodes r145.2.q.conds r145.2.e r145.2.pos r
def trellisref20_Reader_cond (x1 : trellisref20_Reader) (r : trellisref20_Reader) : Prop :=
 ∃ r23 : Bool × trellisref20_Reader, (trellisref20_Reader_sees x1 x1.at_ 1 (⟨#[117, 110, 108, 101, 115, 115]⟩ : ByteArray) r23) ∧
 if r23.1 = true then
  trellisref20_Reader_cond_j1 r23 false r23.2.l r23.2.at_ r23.2.q.nodes r23.2.q.conds r23.2.e r23.2.pos r
 else
  ∃ r342 : Bool × trellisref20_Reader, (trellisref20_Reader_sees r23.2 r23.2.at_ 1 (⟨#[119, 104, 101, 110]⟩ : ByteArray) r342) ∧
  trellisref20_Reader_cond_j1 r23 (!r342.1) r342.2.l r342.2.at_ r342.2.q.nodes r342.2.q.conds r342.2.e r342.2.pos r
def trellisref20_Parse_b1 (r7 : (List api_Word) × Int × Int) (x1 : ByteArray) (x81 : List api_Word) (x88 : Int) (x89 : List api_PatNode) (x94 : List api_Cond) (x99 : Int) (x100 : Int) (o1 : Sum ((List api_Word) × Int × (List api_PatNode) × (List api_Cond) × Int × Int) (api_Query × Int × Int)) : Prop :=
 if x99 = 0 then
  if x88 < (x81.length : Int) then
   ∃ r137 : trellisref20_Reader, (trellisref20_Reader_cond (⟨x81, x88, (⟨x89, x94⟩ : api_Query), x99, x100⟩ : trellisref20_Reader) r137) ∧
   o1 = .inl (r137.l, r137.at_, r137.q.nodes, r137.q.conds, r137.e, r137.pos)
  else
   o1 = .inr (((⟨x89, x94⟩ : api_Query), 0, 0))
 else
  if x100 < (r7.1.length : Int) then
   (0 ≤ x100 ∧ x100 < (r7.1.length : Int)) ∧
   o1 = .inr (((⟨([] : List api_PatNode), ([] : List api_Cond)⟩ : api_Query), x99, (ix r7.1 x100).at_))
  else
   o1 = .inr (((⟨([] : List api_PatNode), ([] : List api_Cond)⟩ : api_Query), x99, (x1.size : Int)))
def trellisref20_Parse (x1 : ByteArray) (r : api_Query × Int × Int) : Prop :=
 ∃ r7 : (List api_Word) × Int × Int, (trellisref8_Cut x1 r7) ∧
 if r7.2.1 = 0 then
  ∃ r28 : trellisref20_Reader, (trellisref20_Reader_pattern (⟨r7.1, 0, (⟨([] : List api_PatNode), ([] : List api_Cond)⟩ : api_Query), 0, 0⟩ : trellisref20_Reader) r28) ∧
  Rounds (fun (s : (List api_Word) × Int × (List api_PatNode) × (List api_Cond) × Int × Int) o => trellisref20_Parse_b1 r7 x1 s.1 s.2.1 s.2.2.1 s.2.2.2.1 s.2.2.2.2.1 s.2.2.2.2.2 o) (r28.l, r28.at_, r28.q.nodes, r28.q.conds, r28.e, r28.pos) r
 else
  r = ((⟨([] : List api_PatNode), ([] : List api_Cond)⟩ : api_Query), r7.2.1, r7.2.2)
def words_blank (x1 : Int) (r : Bool) : Prop :=
 if x1 = 32 then
  r = true
 else
  if x1 = 9 then
   r = true
  else
   if x1 = 13 then
    r = true
   else
    r = (x1 == 10)
def words_letter (x1 : Int) (r : Bool) : Prop :=
 if x1 ≥ 97 then
  if x1 ≤ 122 then
   r = true
  else
   if x1 ≥ 65 then
    if x1 ≤ 90 then
     r = true
    else
     r = (x1 == 95)
   else
    r = (x1 == 95)
 else
  if x1 ≥ 65 then
   if x1 ≤ 90 then
    r = true
   else
    r = (x1 == 95)
  else
   r = (x1 == 95)
def words_digit (x1 : Int) (r : Bool) : Prop :=
 if x1 ≥ 48 then
  r = decide (x1 ≤ 57)
 else
  r = false
def internal_stringslite_IndexByte (x1 : ByteArray) (x2 : Int) (r : Int) : Prop :=
 r = idxB x1 x2
def strings_IndexByte (x1 : ByteArray) (x2 : Int) (r : Int) : Prop :=
 ∃ r6 : Int, (internal_stringslite_IndexByte x1 x2 r6) ∧
 r = r6
def words_hex_j2 (x1 : Int) (x17 : Bool) (r : Int × Bool) : Prop :=
 if x17 = true then
  r = (IntKind.u8.wrap ((IntKind.u8.wrap (x1 - 65)) + 10), true)
 else
  r = (0, false)
def words_hex_j1 (x1 : Int) (x13 : Bool) (r : Int × Bool) : Prop :=
 if x13 = true then
  r = (IntKind.u8.wrap ((IntKind.u8.wrap (x1 - 97)) + 10), true)
 else
  if x1 ≥ 65 then
   words_hex_j2 x1 (decide (x1 ≤ 70)) r
  else
   words_hex_j2 x1 false r
def words_hex (x1 : Int) (r : Int × Bool) : Prop :=
 ∃ r5 : Bool, (words_digit x1 r5) ∧
 if r5 = true then
  r = (IntKind.u8.wrap (x1 - 48), true)
 else
  if x1 ≥ 97 then
   words_hex_j1 x1 (decide (x1 ≤ 102)) r
  else
   words_hex_j1 x1 false r
def words_escape_j2 (r18 : Int × Bool) (r27 : Int × Bool) (x34 : Bool) (r : Int × Int) : Prop :=
 if x34 = true then
  r = (IntKind.u8.wrap ((IntKind.u8.wrap (16 * r18.1)) + r27.1), 4)
 else
  r = (0, 0)
def words_escape_j1 (x1 : ByteArray) (x2 : Int) (x7 : Bool) (r : Int × Int) : Prop :=
 if x7 = true then
  r = (bt x1 (w64 (x2 + 1)), 2)
 else
  if bt x1 (w64 (x2 + 1)) = 110 then
   r = (10, 2)
  else
   if bt x1 (w64 (x2 + 1)) = 116 then
    r = (9, 2)
   else
    if bt x1 (w64 (x2 + 1)) = 114 then
     r = (13, 2)
    else
     if bt x1 (w64 (x2 + 1)) = 120 then
      if w64 (x2 + 3) < (x1.size : Int) then
       (0 ≤ w64 (x2 + 2) ∧ w64 (x2 + 2) < (x1.size : Int)) ∧
       ∃ r18 : Int × Bool, (words_hex (bt x1 (w64 (x2 + 2))) r18) ∧
       (0 ≤ w64 (x2 + 3) ∧ w64 (x2 + 3) < (x1.size : Int)) ∧
       ∃ r27 : Int × Bool, (words_hex (bt x1 (w64 (x2 + 3))) r27) ∧
       if r18.2 = true then
        words_escape_j2 r18 r27 r27.2 r
       else
        words_escape_j2 r18 r27 false r
      else
       r = (0, 0)
     else
      r = (0, 0)
def words_escape (x1 : ByteArray) (x2 : Int) (r : Int × Int) : Prop :=
 if w64 (x2 + 1) ≥ (x1.size : Int) then
  r = (0, 0)
 else
  (0 ≤ w64 (x2 + 1) ∧ w64 (x2 + 1) < (x1.size : Int)) ∧
  if bt x1 (w64 (x2 + 1)) = 34 then
   words_escape_j1 x1 x2 ((bt x1 (w64 (x2 + 1))) == 34) r
  else
   words_escape_j1 x1 x2 ((bt x1 (w64 (x2 + 1))) == 92) r
def words_quoted_j2 (x2 : Int) (x48 : Int) (x1 : ByteArray) (x43 : List Int) (x89 : Bool) (o1 : Sum ((List Int) × Int) ((List Int) × Int × Int)) : Prop :=
 if x89 = true then
  o1 = .inr ((([] : List Int), 82, x2))
 else
  (0 ≤ x48 ∧ x48 < (x1.size : Int)) ∧
  if bt x1 x48 = 34 then
   o1 = .inr ((x43, 0, w64 (x48 + 1)))
  else
   if bt x1 x48 = 92 then
    ∃ r97 : Int × Int, (words_escape x1 x48 r97) ∧
    if r97.2 = 0 then
     o1 = .inr ((([] : List Int), 82, x48))
    else
     ∃ x109 : List Int, (x109 = x43 ++ ([r97.1] : List Int)) ∧
     (x109.length * 1 ≤ 211106232532992) ∧
     o1 = .inl (x109, w64 (x48 + r97.2))
   else
    ∃ x118 : List Int, (x118 = x43 ++ ([bt x1 x48] : List Int)) ∧
    (x118.length * 1 ≤ 211106232532992) ∧
    o1 = .inl (x118, w64 (x48 + 1))
def words_quoted_b1 (x1 : ByteArray) (x2 : Int) (x43 : List Int) (x48 : Int) (o1 : Sum ((List Int) × Int) ((List Int) × Int × Int)) : Prop :=
 if x48 = (x1.size : Int) then
  words_quoted_j2 x2 x48 x1 x43 true o1
 else
  (0 ≤ x48 ∧ x48 < (x1.size : Int)) ∧
  words_quoted_j2 x2 x48 x1 x43 ((bt x1 x48) == 10) o1
def words_quoted (x1 : ByteArray) (x2 : Int) (r : (List Int) × Int × Int) : Prop :=
 Rounds (fun (s : (List Int) × Int) o => words_quoted_b1 x1 x2 s.1 s.2 o) (([] : List Int), w64 (x2 + 1)) r
def words_slashed_j3 (x28 : Int) (x70 : Bool) (o1 : Sum Int ((List Int) × Int × Int)) : Prop :=
 if x70 = true then
  o1 = .inl (w64 ((w64 (x28 + 1)) + 1))
 else
  o1 = .inl (w64 (x28 + 1))
def words_slashed_j2 (x2 : Int) (x28 : Int) (x1 : ByteArray) (x56 : Bool) (o1 : Sum Int ((List Int) × Int × Int)) : Prop :=
 if x56 = true then
  o1 = .inr ((([] : List Int), 82, x2))
 else
  (0 ≤ x28 ∧ x28 < (x1.size : Int)) ∧
  if bt x1 x28 = 47 then
   (0 ≤ w64 (x2 + 1) ∧ w64 (x2 + 1) ≤ x28 ∧ x28 ≤ (x1.size : Int)) ∧
   ((x1.extract (w64 (x2 + 1) : Int).toNat (x28 : Int).toNat).size ≤ 9223372036854775807) ∧
   o1 = .inr (((bsOf (x1.extract (w64 (x2 + 1) : Int).toNat (x28 : Int).toNat)), 0, w64 (x28 + 1)))
  else
   if bt x1 x28 = 92 then
    if w64 (x28 + 1) < (x1.size : Int) then
     (0 ≤ w64 (x28 + 1) ∧ w64 (x28 + 1) < (x1.size : Int)) ∧
     words_slashed_j3 x28 ((bt x1 (w64 (x28 + 1))) != 10) o1
    else
     words_slashed_j3 x28 false o1
   else
    words_slashed_j3 x28 false o1
def words_slashed_b1 (x1 : ByteArray) (x2 : Int) (x28 : Int) (o1 : Sum Int ((List Int) × Int × Int)) : Prop :=
 if x28 = (x1.size : Int) then
  words_slashed_j2 x2 x28 x1 true o1
 else
  (0 ≤ x28 ∧ x28 < (x1.size : Int)) ∧
  words_slashed_j2 x2 x28 x1 ((bt x1 x28) == 10) o1
def words_slashed (x1 : ByteArray) (x2 : Int) (r : (List Int) × Int × Int) : Prop :=
 Rounds (fun (s : Int) o => words_slashed_b1 x1 x2 s o) (w64 (x2 + 1)) r
def words_Cut_j3 (x885 : Int) (x438 : List api_Word) (x896 : Bool) (o2 : Sum Int (Sum ((List api_Word) × Int) ((List api_Word) × Int × Int))) : Prop :=
 if x896 = true then
  o2 = .inl (w64 (x885 + 1))
 else
  o2 = .inr (.inl (x438, x885))
def words_Cut_b2 (x1 : ByteArray) (x438 : List api_Word) (x885 : Int) (o2 : Sum Int (Sum ((List api_Word) × Int) ((List api_Word) × Int × Int))) : Prop :=
 if x885 < (x1.size : Int) then
  (0 ≤ x885 ∧ x885 < (x1.size : Int)) ∧
  words_Cut_j3 x885 x438 ((bt x1 x885) != 10) o2
 else
  words_Cut_j3 x885 x438 false o2
def words_Cut_j5 (x960 : Int) (x443 : Int) (x1 : ByteArray) (x438 : List api_Word) (x1033 : Bool) (o2 : Sum Int (Sum ((List api_Word) × Int) ((List api_Word) × Int × Int))) : Prop :=
 if x1033 = true then
  o2 = .inl (w64 (x960 + 1))
 else
  if w64 (x960 - x443) > 24 then
   o2 = .inr (.inr ((([] : List api_Word), 83, x443)))
  else
   (0 ≤ x443 ∧ x443 ≤ x960 ∧ x960 ≤ (x1.size : Int)) ∧
   ∃ x1043 : List api_Word, (x1043 = x438 ++ ([(⟨1, x1.extract (x443 : Int).toNat (x960 : Int).toNat, 0, x443⟩ : api_Word)] : List api_Word)) ∧
   (x1043.length * 40 ≤ 211106232532992) ∧
   o2 = .inr (.inl (x1043, x960))
def words_Cut_b4 (x1 : ByteArray) (x443 : Int) (x438 : List api_Word) (x960 : Int) (o2 : Sum Int (Sum ((List api_Word) × Int) ((List api_Word) × Int × Int))) : Prop :=
 if x960 < (x1.size : Int) then
  (0 ≤ x960 ∧ x960 < (x1.size : Int)) ∧
  ∃ r1051 : Bool, (words_letter (bt x1 x960) r1051) ∧
  if r1051 = true then
   words_Cut_j5 x960 x443 x1 x438 true o2
  else
   ∃ r1060 : Bool, (words_digit (bt x1 x960) r1060) ∧
   words_Cut_j5 x960 x443 x1 x438 r1060 o2
 else
  words_Cut_j5 x960 x443 x1 x438 false o2
def words_Cut_j7 (x1105 : Int) (x1 : ByteArray) (x1106 : Int) (x443 : Int) (x438 : List api_Word) (x1152 : Bool) (o2 : Sum (Int × Int) (Sum ((List api_Word) × Int) ((List api_Word) × Int × Int))) : Prop :=
 if x1152 = true then
  (0 ≤ x1105 ∧ x1105 < (x1.size : Int)) ∧
  o2 = .inl (w64 (x1105 + 1), min (w64 ((w64 (10 * x1106)) + (w64 (IntKind.u8.wrap ((bt x1 x1105) - 48))))) 65536)
 else
  if x1106 > 65535 then
   o2 = .inr (.inr ((([] : List api_Word), 84, x443)))
  else
   ∃ x1162 : List api_Word, (x1162 = x438 ++ ([(⟨4, (⟨#[]⟩ : ByteArray), x1106, x443⟩ : api_Word)] : List api_Word)) ∧
   (x1162.length * 40 ≤ 211106232532992) ∧
   o2 = .inr (.inl (x1162, x1105))
def words_Cut_b6 (x1 : ByteArray) (x443 : Int) (x438 : List api_Word) (x1105 : Int) (x1106 : Int) (o2 : Sum (Int × Int) (Sum ((List api_Word) × Int) ((List api_Word) × Int × Int))) : Prop :=
 if x1105 < (x1.size : Int) then
  (0 ≤ x1105 ∧ x1105 < (x1.size : Int)) ∧
  ∃ r1170 : Bool, (words_digit (bt x1 x1105) r1170) ∧
  words_Cut_j7 x1105 x1 x1106 x443 x438 r1170 o2
 else
  words_Cut_j7 x1105 x1 x1106 x443 x438 false o2
def words_Cut_b1 (x1 : ByteArray) (x438 : List api_Word) (x443 : Int) (o1 : Sum ((List api_Word) × Int) ((List api_Word) × Int × Int)) : Prop :=
 if x443 = (x1.size : Int) then
  o1 = .inr ((x438, 0, 0))
 else
  (0 ≤ x443 ∧ x443 < (x1.size : Int)) ∧
  ∃ r872 : Bool, (words_blank (bt x1 x443) r872) ∧
  if r872 = true then
   o1 = .inl (x438, w64 (x443 + 1))
  else
   if bt x1 x443 = 35 then
    Rounds (fun (s : Int) o => words_Cut_b2 x1 x438 s o) x443 o1
   else
    ∃ r903 : Bool, (words_letter (bt x1 x443) r903) ∧
    if r903 = true then
     Rounds (fun (s : Int) o => words_Cut_b4 x1 x443 x438 s o) x443 o1
    else
     ∃ r1068 : Bool, (words_digit (bt x1 x443) r1068) ∧
     if r1068 = true then
      Rounds (fun (s : Int × Int) o => words_Cut_b6 x1 x443 x438 s.1 s.2 o) (x443, 0) o1
     else
      if bt x1 x443 = 34 then
       ∃ r1203 : (List Int) × Int × Int, (words_quoted x1 x443 r1203) ∧
       if r1203.2.1 = 0 then
        ∃ x1220 : List api_Word, (x1220 = x438 ++ ([(⟨2, ofBs r1203.1, 0, x443⟩ : api_Word)] : List api_Word)) ∧
        (x1220.length * 40 ≤ 211106232532992) ∧
        o1 = .inl (x1220, r1203.2.2)
       else
        o1 = .inr ((([] : List api_Word), r1203.2.1, r1203.2.2))
      else
       if bt x1 x443 = 47 then
        ∃ r1251 : (List Int) × Int × Int, (words_slashed x1 x443 r1251) ∧
        if r1251.2.1 = 0 then
         ∃ x1268 : List api_Word, (x1268 = x438 ++ ([(⟨3, ofBs r1251.1, 0, x443⟩ : api_Word)] : List api_Word)) ∧
         (x1268.length * 40 ≤ 211106232532992) ∧
         o1 = .inl (x1268, r1251.2.2)
        else
         o1 = .inr ((([] : List api_Word), r1251.2.1, r1251.2.2))
       else
        ∃ r1274 : Int, (strings_IndexByte (⟨#[123, 125, 40, 41, 124, 42, 43, 63, 58, 59, 44, 61, 64]⟩ : ByteArray) (bt x1 x443) r1274) ∧
        if r1274 ≥ 0 then
         (0 ≤ x443 ∧ x443 ≤ w64 (x443 + 1) ∧ w64 (x443 + 1) ≤ (x1.size : Int)) ∧
         ∃ x1287 : List api_Word, (x1287 = x438 ++ ([(⟨5, x1.extract (x443 : Int).toNat (w64 (x443 + 1) : Int).toNat, 0, x443⟩ : api_Word)] : List api_Word)) ∧
         (x1287.length * 40 ≤ 211106232532992) ∧
         o1 = .inl (x1287, w64 (x443 + 1))
        else
         o1 = .inr ((([] : List api_Word), 81, x443))
def words_Cut (x1 : ByteArray) (r : (List api_Word) × Int × Int) : Prop :=
 if (x1.size : Int) > 16384 then
  r = (([] : List api_Word), 80, 16384)
 else
  Rounds (fun (s : (List api_Word) × Int) o => words_Cut_b1 x1 s.1 s.2 o) (([] : List api_Word), 0) r
def query_parser_is (x1 : query_parser) (x20 : Int) (x21 : Int) (x22 : ByteArray) (r : Bool × query_parser) : Prop :=
 if x20 < (x1.words.length : Int) then
  (0 ≤ x20 ∧ x20 < (x1.words.length : Int)) ∧
  if (ix x1.words x20).kind = x21 then
   r = ((seq ((ix x1.words x20).text) x22), x1)
  else
   r = (false, x1)
 else
  r = (false, x1)
def query_parser_begins_j1 (x1 : query_parser) (x51 : Bool) (x52 : List api_Word) (x59 : Int) (x60 : Int) (x61 : List api_PatNode) (x66 : List api_Cond) (x71 : Int) (x72 : Int) (r : Bool × query_parser) : Prop :=
 if x51 = true then
  r = (true, (⟨x52, x59, x60, (⟨x61, x66⟩ : api_Query), x71, x72⟩ : query_parser))
 else
  ∃ r77 : Bool × query_parser, (query_parser_is (⟨x52, x59, x60, (⟨x61, x66⟩ : api_Query), x71, x72⟩ : query_parser) x1.at_ 5 (⟨#[40]⟩ : ByteArray) r77) ∧
  if r77.1 = true then
   r = (true, r77.2)
  else
   if x1.at_ < (r77.2.words.length : Int) then
    (0 ≤ x1.at_ ∧ x1.at_ < (r77.2.words.length : Int)) ∧
    if (ix r77.2.words x1.at_).kind = 2 then
     r = ((!(seq ((ix r77.2.words x1.at_).text) (⟨#[]⟩ : ByteArray))), r77.2)
    else
     r = (false, r77.2)
   else
    r = (false, r77.2)
def query_parser_begins (x1 : query_parser) (r : Bool × query_parser) : Prop :=
 if x1.at_ < (x1.words.length : Int) then
  (0 ≤ x1.at_ ∧ x1.at_ < (x1.words.length : Int)) ∧
  if (ix x1.words x1.at_).kind = 1 then
   if (ix x1.words x1.at_).text = (⟨#[95]⟩ : ByteArray) then
    query_parser_begins_j1 x1 false x1.words x1.at_ x1.end_ x1.q.nodes x1.q.conds x1.code x1.place r
   else
    ∃ r113 : Bool × query_parser, (query_parser_is x1 (w64 (x1.at_ + 1)) 5 (⟨#[58]⟩ : ByteArray) r113) ∧
    query_parser_begins_j1 x1 r113.1 r113.2.words r113.2.at_ r113.2.end_ r113.2.q.nodes r113.2.q.conds r113.2.code r113.2.place r
  else
   query_parser_begins_j1 x1 false x1.words x1.at_ x1.end_ x1.q.nodes x1.q.conds x1.code x1.place r
 else
  query_parser_begins_j1 x1 false x1.words x1.at_ x1.end_ x1.q.nodes x1.q.conds x1.code x1.place r
def query_parser_fail (x1 : query_parser) (x20 : Int) (x21 : Int) (r : query_parser) : Prop :=
 if x1.code = 0 then
  if x21 < (x1.words.length : Int) then
   (0 ≤ x21 ∧ x21 < (x1.words.length : Int)) ∧
   r = (⟨x1.words, x1.at_, x1.end_, x1.q, x20, (ix x1.words x21).at_⟩ : query_parser)
  else
   r = (⟨x1.words, x1.at_, x1.end_, x1.q, x20, x1.end_⟩ : query_parser)
 else
  r = x1
def query_parser_name_j1 (x1 : query_parser) (x32 : Bool) (r : ByteArray × query_parser) : Prop :=
 if x32 = true then
  ∃ r37 : query_parser, (query_parser_fail x1 200 x1.at_ r37) ∧
  r = ((⟨#[]⟩ : ByteArray), r37)
 else
  (0 ≤ w64 ((w64 (x1.at_ + 1)) - 1) ∧ w64 ((w64 (x1.at_ + 1)) - 1) < (x1.words.length : Int)) ∧
  r = ((ix x1.words (w64 ((w64 (x1.at_ + 1)) - 1))).text, (⟨x1.words, w64 (x1.at_ + 1), x1.end_, x1.q, x1.code, x1.place⟩ : query_parser))
def query_parser_name (x1 : query_parser) (r : ByteArray × query_parser) : Prop :=
 if x1.at_ = (x1.words.length : Int) then
  query_parser_name_j1 x1 true r
 else
  (0 ≤ x1.at_ ∧ x1.at_ < (x1.words.length : Int)) ∧
  if (ix x1.words x1.at_).kind = 1 then
   query_parser_name_j1 x1 (seq ((ix x1.words x1.at_).text) (⟨#[95]⟩ : ByteArray)) r
  else
   query_parser_name_j1 x1 true r
def query_parser_sign (x1 : query_parser) (x20 : ByteArray) (r : query_parser) : Prop :=
 ∃ r24 : Bool × query_parser, (query_parser_is x1 x1.at_ 5 x20 r24) ∧
 if r24.1 = true then
  r = (⟨r24.2.words, w64 (r24.2.at_ + 1), r24.2.end_, r24.2.q, r24.2.code, r24.2.place⟩ : query_parser)
 else
  ∃ r49 : query_parser, (query_parser_fail r24.2 200 r24.2.at_ r49) ∧
  r = r49
def query_captured_1 (x1 : api_PatNode) (x2 : ByteArray) (r : Bool × ByteArray) : Prop :=
 r = ((seq x1.capture x2), x2)
def slices_IndexFunc_api_PatNode_api_PatNode_b1 (x1 : List api_PatNode) (x22 : Int) (x23 : ByteArray) (o1 : Sum (Int × ByteArray) (Int × ByteArray)) : Prop :=
 if x22 < (x1.length : Int) then
  (0 ≤ x22 ∧ x22 < (x1.length : Int)) ∧
  ∃ r42 : Bool × ByteArray, (query_captured_1 (ix x1 x22) x23 r42) ∧
  if r42.1 = true then
   o1 = .inr ((x22, r42.2))
  else
   o1 = .inl (w64 (x22 + 1), r42.2)
 else
  o1 = .inr ((-1, x23))
def slices_IndexFunc_api_PatNode_api_PatNode (x1 : List api_PatNode) (x6 : ByteArray) (r : Int × ByteArray) : Prop :=
 Rounds (fun (s : Int × ByteArray) o => slices_IndexFunc_api_PatNode_api_PatNode_b1 x1 s.1 s.2 o) (0, x6) r
def query_captured (x1 : api_Query) (x10 : ByteArray) (r : Int) : Prop :=
 if x10 = (⟨#[]⟩ : ByteArray) then
  r = -1
 else
  ∃ r19 : Int × ByteArray, (slices_IndexFunc_api_PatNode_api_PatNode x1.nodes x10 r19) ∧
  r = r19.1
def query_parser_pattern_j4 (r23 : Bool × query_parser) (x634 : ByteArray) (x635 : Bool) (x156 : ByteArray) (x636 : Int) (x663 : Bool) (x664 : List api_Word) (x671 : Int) (x672 : Int) (x673 : List api_PatNode) (x678 : List api_Cond) (x683 : Int) (x684 : Int) (r : query_parser) : Prop :=
 if x663 = true then
  ∃ r689 : ByteArray × query_parser, (query_parser_name (⟨x664, w64 (x671 + 1), x672, (⟨x673, x678⟩ : api_Query), x683, x684⟩ : query_parser) r689) ∧
  ∃ r713 : Int, (query_captured r689.2.q r689.1 r713) ∧
  if r713 ≥ 0 then
   ∃ r746 : query_parser, (query_parser_fail r689.2 201 (w64 (x671 + 1)) r746) ∧
   (0 ≤ (r23.2.q.nodes.length : Int) ∧ (r23.2.q.nodes.length : Int) < (r746.q.nodes.length : Int)) ∧
   ∃ x768 : List api_PatNode, (x768 = r746.q.nodes.set ((r23.2.q.nodes.length : Int) : Int).toNat (⟨x634, x635, x156, r689.1, x636⟩ : api_PatNode)) ∧
   r = (⟨r746.words, r746.at_, r746.end_, (⟨x768, r746.q.conds⟩ : api_Query), r746.code, r746.place⟩ : query_parser)
  else
   (0 ≤ (r23.2.q.nodes.length : Int) ∧ (r23.2.q.nodes.length : Int) < (r689.2.q.nodes.length : Int)) ∧
   ∃ x774 : List api_PatNode, (x774 = r689.2.q.nodes.set ((r23.2.q.nodes.length : Int) : Int).toNat (⟨x634, x635, x156, r689.1, x636⟩ : api_PatNode)) ∧
   r = (⟨r689.2.words, r689.2.at_, r689.2.end_, (⟨x774, r689.2.q.conds⟩ : api_Query), r689.2.code, r689.2.place⟩ : query_parser)
 else
  (0 ≤ (r23.2.q.nodes.length : Int) ∧ (r23.2.q.nodes.length : Int) < (x673.length : Int)) ∧
  ∃ x780 : List api_PatNode, (x780 = x673.set ((r23.2.q.nodes.length : Int) : Int).toNat (⟨x634, x635, x156, (⟨#[]⟩ : ByteArray), x636⟩ : api_PatNode)) ∧
  r = (⟨x664, x671, x672, (⟨x780, x678⟩ : api_Query), x683, x684⟩ : query_parser)
def query_parser_pattern_j3 (r23 : Bool × query_parser) (x156 : ByteArray) (x613 : List api_Word) (x620 : Int) (x621 : Int) (x622 : List api_PatNode) (x627 : List api_Cond) (x632 : Int) (x633 : Int) (x634 : ByteArray) (x635 : Bool) (x636 : Int) (r : query_parser) : Prop :=
 if x632 = 0 then
  ∃ r789 : Bool × query_parser, (query_parser_is (⟨x613, x620, x621, (⟨x622, x627⟩ : api_Query), x632, x633⟩ : query_parser) x620 5 (⟨#[64]⟩ : ByteArray) r789) ∧
  query_parser_pattern_j4 r23 x634 x635 x156 x636 r789.1 r789.2.words r789.2.at_ r789.2.end_ r789.2.q.nodes r789.2.q.conds r789.2.code r789.2.place r
 else
  query_parser_pattern_j4 r23 x634 x635 x156 x636 false x613 x620 x621 x622 x627 x632 x633 r
def query_parser_pattern_b6 (r23 : Bool × query_parser) (x156 : ByteArray) (x909 : ByteArray) (rc_query_parser_pattern : query_parser → query_parser → Prop) (x1013 : List api_Word) (x1020 : Int) (x1021 : Int) (x1022 : List api_PatNode) (x1027 : List api_Cond) (x1032 : Int) (x1033 : Int) (x1034 : Int) (o1 : Sum ((List api_Word) × Int × Int × (List api_PatNode) × (List api_Cond) × Int × Int × Int) query_parser) : Prop :=
 if x1032 = 0 then
  ∃ r1141 : Bool × query_parser, (query_parser_is (⟨x1013, x1020, x1021, (⟨x1022, x1027⟩ : api_Query), x1032, x1033⟩ : query_parser) x1020 5 (⟨#[41]⟩ : ByteArray) r1141) ∧
  if r1141.1 = true then
   ∃ r1166 : query_parser, (query_parser_sign r1141.2 (⟨#[41]⟩ : ByteArray) r1166) ∧
   ∃ q1187 : query_parser, (o1 = .inr (q1187)) ∧
   query_parser_pattern_j3 r23 x156 r1166.words r1166.at_ r1166.end_ r1166.q.nodes r1166.q.conds r1166.code r1166.place x909 false x1034 q1187
  else
   ∃ r1192 : query_parser, (rc_query_parser_pattern r1141.2 r1192) ∧
   o1 = .inl (r1192.words, r1192.at_, r1192.end_, r1192.q.nodes, r1192.q.conds, r1192.code, r1192.place, w64 (x1034 + 1))
 else
  ∃ r1216 : query_parser, (query_parser_sign (⟨x1013, x1020, x1021, (⟨x1022, x1027⟩ : api_Query), x1032, x1033⟩ : query_parser) (⟨#[41]⟩ : ByteArray) r1216) ∧
  ∃ q1237 : query_parser, (o1 = .inr (q1237)) ∧
  query_parser_pattern_j3 r23 x156 r1216.words r1216.at_ r1216.end_ r1216.q.nodes r1216.q.conds r1216.code r1216.place x909 false x1034 q1237
def query_parser_pattern_j5 (r23 : Bool × query_parser) (x156 : ByteArray) (rc_query_parser_pattern : query_parser → query_parser → Prop) (x888 : List api_Word) (x895 : Int) (x896 : Int) (x897 : List api_PatNode) (x902 : List api_Cond) (x907 : Int) (x908 : Int) (x909 : ByteArray) (r : query_parser) : Prop :=
 Rounds (fun (s : (List api_Word) × Int × Int × (List api_PatNode) × (List api_Cond) × Int × Int × Int) o => query_parser_pattern_b6 r23 x156 x909 rc_query_parser_pattern s.1 s.2.1 s.2.2.1 s.2.2.2.1 s.2.2.2.2.1 s.2.2.2.2.2.1 s.2.2.2.2.2.2.1 s.2.2.2.2.2.2.2 o) (x888, x895, x896, x897, x902, x907, x908, 0) r
def query_parser_pattern_j2 (x142 : Int) (x135 : List api_Word) (r23 : Bool × query_parser) (x156 : ByteArray) (x143 : Int) (x144 : List api_PatNode) (x149 : List api_Cond) (x154 : Int) (x155 : Int) (rc_query_parser_pattern : query_parser → query_parser → Prop) (x169 : Bool) (r : query_parser) : Prop :=
 if x169 = true then
  (0 ≤ x142 ∧ x142 < (x135.length : Int)) ∧
  query_parser_pattern_j3 r23 x156 x135 (w64 (x142 + 1)) x143 x144 x149 x154 x155 ((ix x135 x142).text) true 0 r
 else
  ∃ r817 : query_parser, (query_parser_sign (⟨x135, x142, x143, (⟨x144, x149⟩ : api_Query), x154, x155⟩ : query_parser) (⟨#[40]⟩ : ByteArray) r817) ∧
  ∃ r841 : Bool × query_parser, (query_parser_is r817 r817.at_ 1 (⟨#[95]⟩ : ByteArray) r841) ∧
  if r841.1 = true then
   query_parser_pattern_j5 r23 x156 rc_query_parser_pattern r841.2.words (w64 (r841.2.at_ + 1)) r841.2.end_ r841.2.q.nodes r841.2.q.conds r841.2.code r841.2.place (⟨#[]⟩ : ByteArray) r
  else
   ∃ r1242 : ByteArray × query_parser, (query_parser_name r841.2 r1242) ∧
   query_parser_pattern_j5 r23 x156 rc_query_parser_pattern r1242.2.words r1242.2.at_ r1242.2.end_ r1242.2.q.nodes r1242.2.q.conds r1242.2.code r1242.2.place r1242.1 r
def query_parser_pattern_j1 (r23 : Bool × query_parser) (rc_query_parser_pattern : query_parser → query_parser → Prop) (x135 : List api_Word) (x142 : Int) (x143 : Int) (x144 : List api_PatNode) (x149 : List api_Cond) (x154 : Int) (x155 : Int) (x156 : ByteArray) (r : query_parser) : Prop :=
 if x142 < (x135.length : Int) then
  (0 ≤ x142 ∧ x142 < (x135.length : Int)) ∧
  if (ix x135 x142).kind = 2 then
   query_parser_pattern_j2 x142 x135 r23 x156 x143 x144 x149 x154 x155 rc_query_parser_pattern (!(seq ((ix x135 x142).text) (⟨#[]⟩ : ByteArray))) r
  else
   query_parser_pattern_j2 x142 x135 r23 x156 x143 x144 x149 x154 x155 rc_query_parser_pattern false r
 else
  query_parser_pattern_j2 x142 x135 r23 x156 x143 x144 x149 x154 x155 rc_query_parser_pattern false r
def query_parser_pattern_body (rc_query_parser_pattern : query_parser → query_parser → Prop) (x1 : query_parser) (r : query_parser) : Prop :=
 ∃ r23 : Bool × query_parser, (query_parser_begins x1 r23) ∧
 if r23.1 = true then
  if (r23.2.q.nodes.length : Int) = 32 then
   ∃ r49 : query_parser, (query_parser_fail r23.2 202 r23.2.at_ r49) ∧
   r = r49
  else
   ∃ x76 : List api_PatNode, (x76 = r23.2.q.nodes ++ ([(⟨(⟨#[]⟩ : ByteArray), false, (⟨#[]⟩ : ByteArray), (⟨#[]⟩ : ByteArray), 0⟩ : api_PatNode)] : List api_PatNode)) ∧
   (x76.length * 64 ≤ 211106232532992) ∧
   (0 ≤ r23.2.at_ ∧ r23.2.at_ < (r23.2.words.length : Int)) ∧
   if (ix r23.2.words r23.2.at_).kind = 1 then
    ∃ r1277 : ByteArray × query_parser, (query_parser_name (⟨r23.2.words, r23.2.at_, r23.2.end_, (⟨x76, r23.2.q.conds⟩ : api_Query), r23.2.code, r23.2.place⟩ : query_parser) r1277) ∧
    ∃ r1301 : query_parser, (query_parser_sign r1277.2 (⟨#[58]⟩ : ByteArray) r1301) ∧
    query_parser_pattern_j1 r23 rc_query_parser_pattern r1301.words r1301.at_ r1301.end_ r1301.q.nodes r1301.q.conds r1301.code r1301.place r1277.1 r
   else
    query_parser_pattern_j1 r23 rc_query_parser_pattern r23.2.words r23.2.at_ r23.2.end_ x76 r23.2.q.conds r23.2.code r23.2.place (⟨#[]⟩ : ByteArray) r
 else
  ∃ r1325 : query_parser, (query_parser_fail r23.2 200 r23.2.at_ r1325) ∧
  r = r1325
def query_parser_pattern_n : Nat → query_parser → query_parser → Prop
 | 0 => fun _ _ => False
 | n + 1 => query_parser_pattern_body (query_parser_pattern_n n)
def query_parser_pattern (x1 : query_parser) (r : query_parser) : Prop := ∃ n, query_parser_pattern_n n x1 r
def query_parser_capture (x1 : query_parser) (r : ByteArray × query_parser) : Prop :=
 ∃ r23 : query_parser, (query_parser_sign x1 (⟨#[64]⟩ : ByteArray) r23) ∧
 if r23.code = 0 then
  ∃ r48 : ByteArray × query_parser, (query_parser_name r23 r48) ∧
  ∃ r73 : Int, (query_captured r48.2.q r48.1 r73) ∧
  if r73 < 0 then
   ∃ r82 : query_parser, (query_parser_fail r48.2 201 r23.at_ r82) ∧
   r = (r48.1, r82)
  else
   r = (r48.1, r48.2)
 else
  r = ((⟨#[]⟩ : ByteArray), r23)
def query_parser_cond_j3 (x201 : Int) (x194 : List api_Word) (x208 : List api_Cond) (x118 : Bool) (r147 : ByteArray × query_parser) (x202 : Int) (x203 : List api_PatNode) (x213 : Int) (x214 : Int) (x222 : Bool) (r : query_parser) : Prop :=
 if x222 = true then
  (0 ≤ x201 ∧ x201 < (x194.length : Int)) ∧
  ∃ x234 : List api_Cond, (x234 = x208 ++ ([(⟨x118, r147.1, (⟨#[]⟩ : ByteArray), (ix x194 x201).text⟩ : api_Cond)] : List api_Cond)) ∧
  (x234.length * 56 ≤ 211106232532992) ∧
  r = (⟨x194, w64 (x201 + 1), x202, (⟨x203, x234⟩ : api_Query), x213, x214⟩ : query_parser)
 else
  if x213 = 0 then
   ∃ r261 : ByteArray × query_parser, (query_parser_capture (⟨x194, x201, x202, (⟨x203, x208⟩ : api_Query), x213, x214⟩ : query_parser) r261) ∧
   ∃ x288 : List api_Cond, (x288 = r261.2.q.conds ++ ([(⟨x118, r147.1, r261.1, (⟨#[]⟩ : ByteArray)⟩ : api_Cond)] : List api_Cond)) ∧
   (x288.length * 56 ≤ 211106232532992) ∧
   r = (⟨r261.2.words, r261.2.at_, r261.2.end_, (⟨r261.2.q.nodes, x288⟩ : api_Query), r261.2.code, r261.2.place⟩ : query_parser)
  else
   ∃ x317 : List api_Cond, (x317 = x208 ++ ([(⟨x118, r147.1, (⟨#[]⟩ : ByteArray), (⟨#[]⟩ : ByteArray)⟩ : api_Cond)] : List api_Cond)) ∧
   (x317.length * 56 ≤ 211106232532992) ∧
   r = (⟨x194, x201, x202, (⟨x203, x317⟩ : api_Query), x213, x214⟩ : query_parser)
def query_parser_cond_j2 (x118 : Bool) (r147 : ByteArray × query_parser) (x194 : List api_Word) (x201 : Int) (x202 : Int) (x203 : List api_PatNode) (x208 : List api_Cond) (x213 : Int) (x214 : Int) (r : query_parser) : Prop :=
 if x213 = 0 then
  if x201 < (x194.length : Int) then
   (0 ≤ x201 ∧ x201 < (x194.length : Int)) ∧
   query_parser_cond_j3 x201 x194 x208 x118 r147 x202 x203 x213 x214 (((ix x194 x201).kind) == 2) r
  else
   query_parser_cond_j3 x201 x194 x208 x118 r147 x202 x203 x213 x214 false r
 else
  query_parser_cond_j3 x201 x194 x208 x118 r147 x202 x203 x213 x214 false r
def query_parser_cond_j1 (x97 : List api_Word) (x104 : Int) (x105 : Int) (x106 : List api_PatNode) (x111 : List api_Cond) (x116 : Int) (x117 : Int) (x118 : Bool) (r : query_parser) : Prop :=
 if (x111.length : Int) = 16 then
  ∃ r123 : query_parser, (query_parser_fail (⟨x97, x104, x105, (⟨x106, x111⟩ : api_Query), x116, x117⟩ : query_parser) 202 x104 r123) ∧
  r = r123
 else
  ∃ r147 : ByteArray × query_parser, (query_parser_capture (⟨x97, w64 (x104 + 1), x105, (⟨x106, x111⟩ : api_Query), x116, x117⟩ : query_parser) r147) ∧
  if r147.2.code = 0 then
   ∃ r349 : query_parser, (query_parser_sign r147.2 (⟨#[61]⟩ : ByteArray) r349) ∧
   query_parser_cond_j2 x118 r147 r349.words r349.at_ r349.end_ r349.q.nodes r349.q.conds r349.code r349.place r
  else
   query_parser_cond_j2 x118 r147 r147.2.words r147.2.at_ r147.2.end_ r147.2.q.nodes r147.2.q.conds r147.2.code r147.2.place r
def query_parser_cond (x1 : query_parser) (r : query_parser) : Prop :=
 ∃ r25 : Bool × query_parser, (query_parser_is x1 x1.at_ 1 (⟨#[117, 110, 108, 101, 115, 115]⟩ : ByteArray) r25) ∧
 if r25.1 = true then
  query_parser_cond_j1 r25.2.words r25.2.at_ r25.2.end_ r25.2.q.nodes r25.2.q.conds r25.2.code r25.2.place true r
 else
  ∃ r373 : Bool × query_parser, (query_parser_is r25.2 r25.2.at_ 1 (⟨#[119, 104, 101, 110]⟩ : ByteArray) r373) ∧
  if r373.1 = true then
   query_parser_cond_j1 r373.2.words r373.2.at_ r373.2.end_ r373.2.q.nodes r373.2.q.conds r373.2.code r373.2.place false r
  else
   ∃ r398 : query_parser, (query_parser_fail r373.2 200 r373.2.at_ r398) ∧
   r = r398
def query_Parse_b1 (x76 : List api_Word) (x83 : Int) (x84 : Int) (x85 : List api_PatNode) (x90 : List api_Cond) (x95 : Int) (x96 : Int) (o1 : Sum ((List api_Word) × Int × Int × (List api_PatNode) × (List api_Cond) × Int × Int) (api_Query × Int × Int)) : Prop :=
 if x95 = 0 then
  if x83 < (x76.length : Int) then
   ∃ r128 : query_parser, (query_parser_cond (⟨x76, x83, x84, (⟨x85, x90⟩ : api_Query), x95, x96⟩ : query_parser) r128) ∧
   o1 = .inl (r128.words, r128.at_, r128.end_, r128.q.nodes, r128.q.conds, r128.code, r128.place)
  else
   o1 = .inr (((⟨x85, x90⟩ : api_Query), 0, 0))
 else
  o1 = .inr (((⟨([] : List api_PatNode), ([] : List api_Cond)⟩ : api_Query), x95, x96))
def query_Parse (x1 : ByteArray) (r : api_Query × Int × Int) : Prop :=
 ∃ r7 : (List api_Word) × Int × Int, (words_Cut x1 r7) ∧
 if r7.2.1 = 0 then
  ∃ r28 : query_parser, (query_parser_pattern (⟨r7.1, 0, (x1.size : Int), (⟨([] : List api_PatNode), ([] : List api_Cond)⟩ : api_Query), 0, 0⟩ : query_parser) r28) ∧
  Rounds (fun (s : (List api_Word) × Int × Int × (List api_PatNode) × (List api_Cond) × Int × Int) o => query_Parse_b1 s.1 s.2.1 s.2.2.1 s.2.2.2.1 s.2.2.2.2.1 s.2.2.2.2.2.1 s.2.2.2.2.2.2 o) (r28.words, r28.at_, r28.end_, r28.q.nodes, r28.q.conds, r28.code, r28.place) r
 else
  r = ((⟨([] : List api_PatNode), ([] : List api_Cond)⟩ : api_Query), r7.2.1, r7.2.2)
def trellislaw20_twin_b2 (x1 : api_Query) (x149 : List api_PatNode) (x342 : Int) (x343 : List api_Cond) (o2 : Sum (Int × (List api_Cond)) (Sum (Int × (List api_PatNode)) api_Query)) : Prop :=
 if x342 < (x1.conds.length : Int) then
  (0 ≤ x342 ∧ x342 < (x1.conds.length : Int)) ∧
  ∃ x385 : List api_Cond, (x385 = x343 ++ ([ix x1.conds x342] : List api_Cond)) ∧
  (x385.length * 56 ≤ 211106232532992) ∧
  o2 = .inl (w64 (x342 + 1), x385)
 else
  o2 = .inr (.inr ((⟨x149, x343⟩ : api_Query)))
def trellislaw20_twin_b1 (x1 : api_Query) (x148 : Int) (x149 : List api_PatNode) (o1 : Sum (Int × (List api_PatNode)) api_Query) : Prop :=
 if x148 < (x1.nodes.length : Int) then
  (0 ≤ x148 ∧ x148 < (x1.nodes.length : Int)) ∧
  ∃ x288 : List api_PatNode, (x288 = x149 ++ ([ix x1.nodes x148] : List api_PatNode)) ∧
  (x288.length * 64 ≤ 211106232532992) ∧
  o1 = .inl (w64 (x148 + 1), x288)
 else
  Rounds (fun (s : Int × (List api_Cond)) o => trellislaw20_twin_b2 x1 x149 s.1 s.2 o) (0, ([] : List api_Cond)) o1
def trellislaw20_twin (x1 : api_Query) (r : api_Query) : Prop :=
 Rounds (fun (s : Int × (List api_PatNode)) o => trellislaw20_twin_b1 x1 s.1 s.2 o) (0, ([] : List api_PatNode)) r
def trellislaw20_same_b3 (x1 : api_Query) (x10 : api_Query) (x134 : Int) (o2 : Sum Int (Sum Int Bool)) : Prop :=
 if x134 < (x1.conds.length : Int) then
  (0 ≤ x134 ∧ x134 < (x1.conds.length : Int)) ∧
  (0 ≤ x134 ∧ x134 < (x10.conds.length : Int)) ∧
  if ix x1.conds x134 = ix x10.conds x134 then
   o2 = .inl (w64 (x134 + 1))
  else
   o2 = .inr (.inr (false))
 else
  o2 = .inr (.inr (true))
def trellislaw20_same_b2 (x1 : api_Query) (x10 : api_Query) (x70 : Int) (o1 : Sum Int Bool) : Prop :=
 if x70 < (x1.nodes.length : Int) then
  (0 ≤ x70 ∧ x70 < (x1.nodes.length : Int)) ∧
  (0 ≤ x70 ∧ x70 < (x10.nodes.length : Int)) ∧
  if ix x1.nodes x70 = ix x10.nodes x70 then
   o1 = .inl (w64 (x70 + 1))
  else
   o1 = .inr (false)
 else
  Rounds (fun (s : Int) o => trellislaw20_same_b3 x1 x10 s o) 0 o1
def trellislaw20_same_j1 (x1 : api_Query) (x10 : api_Query) (x25 : Bool) (r : Bool) : Prop :=
 if x25 = true then
  r = false
 else
  Rounds (fun (s : Int) o => trellislaw20_same_b2 x1 x10 s o) 0 r
def trellislaw20_same (x1 : api_Query) (x10 : api_Query) (r : Bool) : Prop :=
 if (x1.nodes.length : Int) = (x10.nodes.length : Int) then
  trellislaw20_same_j1 x1 x10 ((x1.conds.length : Int) != (x10.conds.length : Int)) r
 else
  trellislaw20_same_j1 x1 x10 true r
def trellislaw20_keeps_b5 (x1482 : List api_Cond) (x1769 : List api_PatNode) (x1774 : List api_Cond) (x1983 : Int) (o5 : Sum Int (Sum Int (Sum ((List api_PatNode) × (List api_Cond) × Int) (Sum (Int × (List api_Cond)) (Sum (Int × (List api_PatNode)) Bool))))) : Prop :=
 if x1983 < (x1482.length : Int) then
  (0 ≤ x1983 ∧ x1983 < (x1482.length : Int)) ∧
  if ix x1482 x1983 = (⟨false, (⟨#[]⟩ : ByteArray), (⟨#[]⟩ : ByteArray), (⟨#[115, 112, 111, 105, 108, 116]⟩ : ByteArray)⟩ : api_Cond) then
   o5 = .inl (w64 (x1983 + 1))
  else
   o5 = .inr (.inr (.inr (.inr (.inr (false)))))
 else
  o5 = .inr (.inr (.inr (.inr (.inr (decide (w64 ((x1769.length : Int) + (x1774.length : Int)) ≥ 140))))))
def trellislaw20_keeps_b4 (x572 : List api_PatNode) (x1482 : List api_Cond) (x1769 : List api_PatNode) (x1774 : List api_Cond) (x1945 : Int) (o4 : Sum Int (Sum ((List api_PatNode) × (List api_Cond) × Int) (Sum (Int × (List api_Cond)) (Sum (Int × (List api_PatNode)) Bool)))) : Prop :=
 if x1945 < (x572.length : Int) then
  (0 ≤ x1945 ∧ x1945 < (x572.length : Int)) ∧
  if ix x572 x1945 = (⟨(⟨#[]⟩ : ByteArray), false, (⟨#[]⟩ : ByteArray), (⟨#[]⟩ : ByteArray), 77⟩ : api_PatNode) then
   o4 = .inl (w64 (x1945 + 1))
  else
   o4 = .inr (.inr (.inr (.inr (false))))
 else
  Rounds (fun (s : Int) o => trellislaw20_keeps_b5 x1482 x1769 x1774 s o) 0 o4
def trellislaw20_keeps_b3 (x572 : List api_PatNode) (x1482 : List api_Cond) (x1769 : List api_PatNode) (x1774 : List api_Cond) (x1779 : Int) (o3 : Sum ((List api_PatNode) × (List api_Cond) × Int) (Sum (Int × (List api_Cond)) (Sum (Int × (List api_PatNode)) Bool))) : Prop :=
 if x1779 < 70 then
  ∃ x1899 : List api_PatNode, (x1899 = x1769 ++ ([(⟨(⟨#[]⟩ : ByteArray), false, (⟨#[]⟩ : ByteArray), (⟨#[]⟩ : ByteArray), 78⟩ : api_PatNode)] : List api_PatNode)) ∧
  (x1899.length * 64 ≤ 211106232532992) ∧
  ∃ x1911 : List api_Cond, (x1911 = x1774 ++ ([(⟨false, (⟨#[]⟩ : ByteArray), (⟨#[]⟩ : ByteArray), (⟨#[109, 111, 114, 101]⟩ : ByteArray)⟩ : api_Cond)] : List api_Cond)) ∧
  (x1911.length * 56 ≤ 211106232532992) ∧
  o3 = .inl (x1899, x1911, w64 (x1779 + 1))
 else
  Rounds (fun (s : Int) o => trellislaw20_keeps_b4 x572 x1482 x1769 x1774 s o) 0 o3
def trellislaw20_keeps_b2 (x572 : List api_PatNode) (x1481 : Int) (x1482 : List api_Cond) (o2 : Sum (Int × (List api_Cond)) (Sum (Int × (List api_PatNode)) Bool)) : Prop :=
 if x1481 < (x1482.length : Int) then
  (0 ≤ x1481 ∧ x1481 < (x1482.length : Int)) ∧
  ∃ x1739 : List api_Cond, (x1739 = x1482.set (x1481 : Int).toNat (⟨false, (⟨#[]⟩ : ByteArray), (⟨#[]⟩ : ByteArray), (⟨#[115, 112, 111, 105, 108, 116]⟩ : ByteArray)⟩ : api_Cond)) ∧
  o2 = .inl (w64 (x1481 + 1), x1739)
 else
  Rounds (fun (s : (List api_PatNode) × (List api_Cond) × Int) o => trellislaw20_keeps_b3 x572 x1482 s.1 s.2.1 s.2.2 o) (x572, x1482, 0) o2
def trellislaw20_keeps_b1 (x1 : api_Query) (x571 : Int) (x572 : List api_PatNode) (o1 : Sum (Int × (List api_PatNode)) Bool) : Prop :=
 if x571 < (x572.length : Int) then
  (0 ≤ x571 ∧ x571 < (x572.length : Int)) ∧
  ∃ x1284 : List api_PatNode, (x1284 = x572.set (x571 : Int).toNat (⟨(⟨#[]⟩ : ByteArray), false, (⟨#[]⟩ : ByteArray), (⟨#[]⟩ : ByteArray), 77⟩ : api_PatNode)) ∧
  o1 = .inl (w64 (x571 + 1), x1284)
 else
  Rounds (fun (s : Int × (List api_Cond)) o => trellislaw20_keeps_b2 x572 s.1 s.2 o) (0, x1.conds) o1
def trellislaw20_keeps (x1 : api_Query) (r : Bool) : Prop :=
 Rounds (fun (s : Int × (List api_PatNode)) o => trellislaw20_keeps_b1 x1 s.1 s.2 o) (0, x1.nodes) r
def trellislaw20_QueryReads_j1 (r85 : api_Query × Int × Int) (r25 : api_Query × Int × Int) (r45 : api_Query) (x149 : Bool) (r : Bool) : Prop :=
 if x149 = true then
  r = false
 else
  ∃ r154 : Bool, (trellislaw20_keeps r85.1 r154) ∧
  if r154 = true then
   ∃ r163 : Bool, (trellislaw20_same r25.1 r45 r163) ∧
   r = r163
  else
   r = false
def trellislaw20_QueryReads (x1 : ByteArray) (r : Bool) : Prop :=
 ∃ r5 : api_Query × Int × Int, (trellisref20_Parse x1 r5) ∧
 ∃ r25 : api_Query × Int × Int, (query_Parse (⟨#[40, 120, 32, 40, 121, 41, 32, 64, 97, 32, 34, 122, 34, 41, 32, 119, 104, 101, 110, 32, 64, 97, 32, 61, 32, 34, 113, 34]⟩ : ByteArray) r25) ∧
 ∃ r45 : api_Query, (trellislaw20_twin r25.1 r45) ∧
 ∃ r65 : api_Query × Int × Int, (query_Parse x1 r65) ∧
 ∃ r85 : api_Query × Int × Int, (query_Parse x1 r85) ∧
 ∃ r171 : Bool, (trellislaw20_same r65.1 r5.1 r171) ∧
 if r171 = true then
  if r65.2.1 = r5.2.1 then
   if r65.2.2 = r5.2.2 then
    ∃ r182 : Bool, (trellislaw20_same r25.1 r45 r182) ∧
    if r182 = true then
     ∃ r191 : Bool, (trellislaw20_keeps r65.1 r191) ∧
     if r191 = true then
      ∃ r200 : Bool, (trellislaw20_same r85.1 r5.1 r200) ∧
      if r200 = true then
       ∃ r209 : Bool, (trellislaw20_same r25.1 r45 r209) ∧
       trellislaw20_QueryReads_j1 r85 r25 r45 (!r209) r
      else
       trellislaw20_QueryReads_j1 r85 r25 r45 true r
     else
      trellislaw20_QueryReads_j1 r85 r25 r45 true r
    else
     trellislaw20_QueryReads_j1 r85 r25 r45 true r
   else
    trellislaw20_QueryReads_j1 r85 r25 r45 true r
  else
   trellislaw20_QueryReads_j1 r85 r25 r45 true r
 else
  trellislaw20_QueryReads_j1 r85 r25 r45 true r
end Go.Proofs.Ytjookebbmfiidaa.R
