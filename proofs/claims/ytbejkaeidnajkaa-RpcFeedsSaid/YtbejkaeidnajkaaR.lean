/- What the functions answer, as plain relations, printed by my own tool off the program's translation. No condition. -/
import Derived.Test.YtbejkaeidnajkaaP0
set_option linter.unusedVariables false
namespace Go.Proofs.Ytbejkaeidnajkaa.R
open Go.Proofs.Ytbejkaeidnajkaa.B
structure rpc_Buffer where
 wait : List Int
 code : Int
 deriving Inhabited, DecidableEq
structure trellisref26_Model where
 b : List Int
 code : Int
 deriving Inhabited, DecidableEq
def rpc_New  (r : rpc_Buffer) : Prop :=
 r = (⟨([] : List Int), 0⟩ : rpc_Buffer)
def rpc_Buffer_Waiting (x1 : rpc_Buffer) (r : Int × rpc_Buffer) : Prop :=
 r = ((x1.wait.length : Int), x1)
def trellisref26_Digits_b1 (x8 : Int) (x9 : ByteArray) (o1 : Sum (Int × ByteArray) ByteArray) : Prop :=
 if x8 ≥ 10 then
  (0 ≤ Int.tmod x8 10 ∧ Int.tmod x8 10 ≤ w64 ((Int.tmod x8 10) + 1) ∧ w64 ((Int.tmod x8 10) + 1) ≤ ((⟨#[48, 49, 50, 51, 52, 53, 54, 55, 56, 57]⟩ : ByteArray).size : Int)) ∧
  (((⟨#[48, 49, 50, 51, 52, 53, 54, 55, 56, 57]⟩ : ByteArray).extract (Int.tmod x8 10 : Int).toNat (w64 ((Int.tmod x8 10) + 1) : Int).toNat).size + x9.size ≤ 9223372036854775807) ∧
  o1 = .inl (w64 (Int.tdiv x8 10), ((⟨#[48, 49, 50, 51, 52, 53, 54, 55, 56, 57]⟩ : ByteArray).extract (Int.tmod x8 10 : Int).toNat (w64 ((Int.tmod x8 10) + 1) : Int).toNat) ++ x9)
 else
  (0 ≤ x8 ∧ x8 ≤ w64 (x8 + 1) ∧ w64 (x8 + 1) ≤ ((⟨#[48, 49, 50, 51, 52, 53, 54, 55, 56, 57]⟩ : ByteArray).size : Int)) ∧
  (((⟨#[48, 49, 50, 51, 52, 53, 54, 55, 56, 57]⟩ : ByteArray).extract (x8 : Int).toNat (w64 (x8 + 1) : Int).toNat).size + x9.size ≤ 9223372036854775807) ∧
  o1 = .inr (((⟨#[48, 49, 50, 51, 52, 53, 54, 55, 56, 57]⟩ : ByteArray).extract (x8 : Int).toNat (w64 (x8 + 1) : Int).toNat) ++ x9)
def trellisref26_Digits (x1 : Int) (r : ByteArray) : Prop :=
 Rounds (fun (s : Int × ByteArray) o => trellisref26_Digits_b1 s.1 s.2 o) (x1, (⟨#[]⟩ : ByteArray)) r
def trellisref26_Put (x1 : ByteArray) (r : (List Int) × Int) : Prop :=
 if (x1.size : Int) > 2097152 then
  r = (([] : List Int), 262)
 else
  ∃ r6 : ByteArray, (trellisref26_Digits (x1.size : Int) r6) ∧
  ((⟨#[67, 111, 110, 116, 101, 110, 116, 45, 76, 101, 110, 103, 116, 104, 58, 32]⟩ : ByteArray).size + r6.size ≤ 9223372036854775807) ∧
  (((⟨#[67, 111, 110, 116, 101, 110, 116, 45, 76, 101, 110, 103, 116, 104, 58, 32]⟩ : ByteArray) ++ r6).size + (⟨#[13, 10, 13, 10]⟩ : ByteArray).size ≤ 9223372036854775807) ∧
  ((((⟨#[67, 111, 110, 116, 101, 110, 116, 45, 76, 101, 110, 103, 116, 104, 58, 32]⟩ : ByteArray) ++ r6) ++ (⟨#[13, 10, 13, 10]⟩ : ByteArray)).size + x1.size ≤ 9223372036854775807) ∧
  (((((⟨#[67, 111, 110, 116, 101, 110, 116, 45, 76, 101, 110, 103, 116, 104, 58, 32]⟩ : ByteArray) ++ r6) ++ (⟨#[13, 10, 13, 10]⟩ : ByteArray)) ++ x1).size ≤ 9223372036854775807) ∧
  r = ((bsOf ((((⟨#[67, 111, 110, 116, 101, 110, 116, 45, 76, 101, 110, 103, 116, 104, 58, 32]⟩ : ByteArray) ++ r6) ++ (⟨#[13, 10, 13, 10]⟩ : ByteArray)) ++ x1)), 0)
def rpc_stands_b1 (x6 : ByteArray) (x1 : List Int) (x16 : Int) (o1 : Sum Int Int) : Prop :=
 if x16 < (x6.size : Int) then
  if x16 = (x1.length : Int) then
   o1 = .inr (260)
  else
   (0 ≤ x16 ∧ x16 < (x1.length : Int)) ∧
   (0 ≤ x16 ∧ x16 < (x6.size : Int)) ∧
   if ix x1 x16 = bt x6 x16 then
    o1 = .inl (w64 (x16 + 1))
   else
    o1 = .inr (261)
 else
  o1 = .inr (0)
def rpc_stands (x1 : List Int) (x6 : ByteArray) (r : Int) : Prop :=
 Rounds (fun (s : Int) o => rpc_stands_b1 x6 x1 s o) 0 r
def rpc_number_j3 (x23 : Int) (x1 : List Int) (x22 : Int) (x56 : Bool) (o1 : Sum (Int × Int) (Int × Int × Int)) : Prop :=
 if x56 = true then
  o1 = .inr ((0, 0, 261))
 else
  (0 ≤ x23 ∧ x23 < (x1.length : Int)) ∧
  if w64 ((w64 (10 * x22)) + (w64 (IntKind.u8.wrap ((ix x1 x23) - 48)))) > 2097152 then
   o1 = .inr ((0, 0, 262))
  else
   o1 = .inl (w64 ((w64 (10 * x22)) + (w64 (IntKind.u8.wrap ((ix x1 x23) - 48)))), w64 (x23 + 1))
def rpc_number_j2 (x23 : Int) (x22 : Int) (x1 : List Int) (x51 : Bool) (o1 : Sum (Int × Int) (Int × Int × Int)) : Prop :=
 if x51 = true then
  if x23 = 0 then
   o1 = .inr ((0, 0, 261))
  else
   o1 = .inr ((x22, x23, 0))
 else
  if x23 > 0 then
   rpc_number_j3 x23 x1 x22 (x22 == 0) o1
  else
   rpc_number_j3 x23 x1 x22 false o1
def rpc_number_b1 (x1 : List Int) (x22 : Int) (x23 : Int) (o1 : Sum (Int × Int) (Int × Int × Int)) : Prop :=
 if x23 = (x1.length : Int) then
  o1 = .inr ((0, 0, 260))
 else
  (0 ≤ x23 ∧ x23 < (x1.length : Int)) ∧
  if ix x1 x23 < 48 then
   rpc_number_j2 x23 x22 x1 true o1
  else
   rpc_number_j2 x23 x22 x1 (decide (ix x1 x23 > 57)) o1
def rpc_number (x1 : List Int) (r : Int × Int × Int) : Prop :=
 Rounds (fun (s : Int × Int) o => rpc_number_b1 x1 s.1 s.2 o) (0, 0) r
def rpc_Take (x1 : List Int) (r : ByteArray × Int × Int) : Prop :=
 ∃ r9 : Int, (rpc_stands x1 (⟨#[67, 111, 110, 116, 101, 110, 116, 45, 76, 101, 110, 103, 116, 104, 58, 32]⟩ : ByteArray) r9) ∧
 if r9 = 0 then
  (0 ≤ (16 : Int) ∧ (16 : Int) ≤ (x1.length : Int) ∧ (x1.length : Int) ≤ (x1.length : Int)) ∧
  ∃ r20 : Int × Int × Int, (rpc_number (x1.drop (16 : Int).toNat) r20) ∧
  if r20.2.2 = 0 then
   (0 ≤ w64 (16 + r20.2.1) ∧ w64 (16 + r20.2.1) ≤ (x1.length : Int) ∧ (x1.length : Int) ≤ (x1.length : Int)) ∧
   ∃ r31 : Int, (rpc_stands (x1.drop (w64 (16 + r20.2.1) : Int).toNat) (⟨#[13, 10, 13, 10]⟩ : ByteArray) r31) ∧
   if r31 = 0 then
    if r20.1 > w64 ((x1.length : Int) - (w64 ((w64 (16 + r20.2.1)) + 4))) then
     r = ((⟨#[]⟩ : ByteArray), 0, 260)
    else
     (0 ≤ w64 ((w64 (16 + r20.2.1)) + 4) ∧ w64 ((w64 (16 + r20.2.1)) + 4) ≤ w64 ((w64 ((w64 (16 + r20.2.1)) + 4)) + r20.1) ∧ w64 ((w64 ((w64 (16 + r20.2.1)) + 4)) + r20.1) ≤ (x1.length : Int)) ∧
     r = (ofBs ((x1.take (w64 ((w64 ((w64 (16 + r20.2.1)) + 4)) + r20.1) : Int).toNat).drop (w64 ((w64 (16 + r20.2.1)) + 4) : Int).toNat), w64 ((w64 ((w64 (16 + r20.2.1)) + 4)) + r20.1), 0)
   else
    r = ((⟨#[]⟩ : ByteArray), 0, r31)
  else
   r = ((⟨#[]⟩ : ByteArray), 0, r20.2.2)
 else
  r = ((⟨#[]⟩ : ByteArray), 0, r9)
def rpc_Buffer_Feed_b1 (x1 : rpc_Buffer) (x56 : List ByteArray) (x61 : List Int) (o1 : Sum ((List ByteArray) × (List Int)) ((List ByteArray) × Int × rpc_Buffer)) : Prop :=
 ∃ r94 : ByteArray × Int × Int, (rpc_Take x61 r94) ∧
 if r94.2.2 = 0 then
  ∃ x106 : List ByteArray, (x106 = x56 ++ ([r94.1] : List ByteArray)) ∧
  (x106.length * 16 ≤ 211106232532992) ∧
  (0 ≤ r94.2.1 ∧ r94.2.1 ≤ (x61.length : Int) ∧ (x61.length : Int) ≤ (x61.length : Int) ∧ (x61.length : Int) ≤ (x61.length : Int)) ∧
  o1 = .inl (x106, ((x61.take ((x61.length : Int) : Int).toNat).drop (r94.2.1 : Int).toNat))
 else
  if r94.2.2 = 260 then
   o1 = .inr ((x56, 0, (⟨x61, x1.code⟩ : rpc_Buffer)))
  else
   o1 = .inr ((x56, r94.2.2, (⟨([] : List Int), r94.2.2⟩ : rpc_Buffer)))
def rpc_Buffer_Feed (x1 : rpc_Buffer) (x8 : List Int) (r : (List ByteArray) × Int × rpc_Buffer) : Prop :=
 if x1.code = 0 then
  (0 ≤ w64 ((x1.wait.length : Int) + (x8.length : Int)) ∧ w64 ((x1.wait.length : Int) + (x8.length : Int)) * 1 ≤ 281474976710656) ∧
  ∃ x18 : List Int, (x18 = List.replicate (w64 ((x1.wait.length : Int) + (x8.length : Int)) : Int).toNat (0 : Int)) ∧
  ∃ x20 : List Int, (x20 = copied x18 0 x18.length x1.wait) ∧
  (0 ≤ (x1.wait.length : Int) ∧ (x1.wait.length : Int) ≤ (x20.length : Int) ∧ (x20.length : Int) ≤ (x20.length : Int)) ∧
  ∃ x25 : List Int, (x25 = copied x20 (((x1.wait.length : Int) : Int).toNat) (((x20.drop ((x1.wait.length : Int) : Int).toNat).take ((x20.length : Int).toNat - ((x1.wait.length : Int) : Int).toNat)).length) x8) ∧
  Rounds (fun (s : (List ByteArray) × (List Int)) o => rpc_Buffer_Feed_b1 x1 s.1 s.2 o) (([] : List ByteArray), x25) r
 else
  r = (([] : List ByteArray), x1.code, x1)
def trellislaw26_sameTexts_b1 (x1 : List ByteArray) (x6 : List ByteArray) (x23 : Int) (o1 : Sum Int Bool) : Prop :=
 if x23 < (x1.length : Int) then
  (0 ≤ x23 ∧ x23 < (x1.length : Int)) ∧
  (0 ≤ x23 ∧ x23 < (x6.length : Int)) ∧
  if ix x1 x23 = ix x6 x23 then
   o1 = .inl (w64 (x23 + 1))
  else
   o1 = .inr (false)
 else
  o1 = .inr (true)
def trellislaw26_sameTexts (x1 : List ByteArray) (x6 : List ByteArray) (r : Bool) : Prop :=
 if (x1.length : Int) = (x6.length : Int) then
  Rounds (fun (s : Int) o => trellislaw26_sameTexts_b1 x1 x6 s o) 0 r
 else
  r = false
def trellislaw26_apart_b2 (r82 : (List ByteArray) × Int × rpc_Buffer) (r32 : (List Int) × Int) (x127 : List ByteArray) (x144 : List ByteArray) (x153 : Int) (o1 : Sum ((List ByteArray) × Int) Bool) : Prop :=
 if x153 < 70 then
  ∃ x232 : List ByteArray, (x232 = x144 ++ ([(⟨#[109, 111, 114, 101]⟩ : ByteArray)] : List ByteArray)) ∧
  (x232.length * 16 ≤ 211106232532992) ∧
  o1 = .inl (x232, w64 (x153 + 1))
 else
  ∃ r238 : (List ByteArray) × Int × rpc_Buffer, (rpc_Buffer_Feed r82.2.2 r32.1 r238) ∧
  ∃ r260 : Bool, (trellislaw26_sameTexts r82.1 ([(⟨#[98, 99]⟩ : ByteArray), (⟨#[97]⟩ : ByteArray)] : List ByteArray) r260) ∧
  if r260 = true then
   ∃ r272 : Bool, (trellislaw26_sameTexts r238.1 ([(⟨#[98, 99]⟩ : ByteArray)] : List ByteArray) r272) ∧
   if r272 = true then
    ∃ r284 : Bool, (trellislaw26_sameTexts x127 ([(⟨#[115, 112, 111, 105, 108, 116]⟩ : ByteArray)] : List ByteArray) r284) ∧
    if r284 = true then
     o1 = .inr (((x144.length : Int) == 71))
    else
     o1 = .inr (false)
   else
    o1 = .inr (false)
  else
   o1 = .inr (false)
def trellislaw26_apart_j1 (r48 : (List ByteArray) × Int × rpc_Buffer) (r82 : (List ByteArray) × Int × rpc_Buffer) (r32 : (List Int) × Int) (x124 : Bool) (r : Bool) : Prop :=
 if x124 = true then
  r = false
 else
  (0 ≤ (0 : Int) ∧ (0 : Int) < (r48.1.length : Int)) ∧
  ∃ x127 : List ByteArray, (x127 = r48.1.set (0 : Int).toNat (⟨#[115, 112, 111, 105, 108, 116]⟩ : ByteArray)) ∧
  Rounds (fun (s : (List ByteArray) × Int) o => trellislaw26_apart_b2 r82 r32 x127 s.1 s.2 o) (x127, 0) r
def trellislaw26_apart  (r : Bool) : Prop :=
 ∃ r4 : rpc_Buffer, (rpc_New  r4) ∧
 ∃ r19 : (List Int) × Int, (trellisref26_Put (⟨#[97]⟩ : ByteArray) r19) ∧
 ∃ r32 : (List Int) × Int, (trellisref26_Put (⟨#[98, 99]⟩ : ByteArray) r32) ∧
 ∃ r48 : (List ByteArray) × Int × rpc_Buffer, (rpc_Buffer_Feed r4 r19.1 r48) ∧
 ∃ x70 : List Int, (x70 = ([] : List Int) ++ r32.1) ∧
 (x70.length * 1 ≤ 211106232532992) ∧
 ∃ x76 : List Int, (x76 = x70 ++ r19.1) ∧
 (x76.length * 1 ≤ 211106232532992) ∧
 ∃ r82 : (List ByteArray) × Int × rpc_Buffer, (rpc_Buffer_Feed r48.2.2 x76 r82) ∧
 if r48.2.1 = 0 then
  if r82.2.1 = 0 then
   ∃ r298 : Bool, (trellislaw26_sameTexts r48.1 ([(⟨#[97]⟩ : ByteArray)] : List ByteArray) r298) ∧
   if r298 = true then
    ∃ r310 : Bool, (trellislaw26_sameTexts r82.1 ([(⟨#[98, 99]⟩ : ByteArray), (⟨#[97]⟩ : ByteArray)] : List ByteArray) r310) ∧
    trellislaw26_apart_j1 r48 r82 r32 (!r310) r
   else
    trellislaw26_apart_j1 r48 r82 r32 true r
  else
   trellislaw26_apart_j1 r48 r82 r32 true r
 else
  trellislaw26_apart_j1 r48 r82 r32 true r
def trellislaw26_room_b1 (x1 : List (List Int)) (x30 : Int) (x31 : Int) (o1 : Sum (Int × Int) (List Int)) : Prop :=
 if x31 < (x1.length : Int) then
  (0 ≤ x31 ∧ x31 < (x1.length : Int)) ∧
  if ((ix x1 x31).length : Int) > x30 then
   o1 = .inl (((ix x1 x31).length : Int), w64 (x31 + 1))
  else
   o1 = .inl (x30, w64 (x31 + 1))
 else
  (0 ≤ w64 (x30 + 64) ∧ w64 (x30 + 64) * 1 ≤ 281474976710656) ∧
  ∃ x76 : List Int, (x76 = List.replicate (w64 (x30 + 64) : Int).toNat (0 : Int)) ∧
  o1 = .inr (x76)
def trellislaw26_room (x1 : List (List Int)) (r : List Int) : Prop :=
 Rounds (fun (s : Int × Int) o => trellislaw26_room_b1 x1 s.1 s.2 o) (0, 0) r
def trellisref26_New  (r : trellisref26_Model) : Prop :=
 r = (⟨([] : List Int), 0⟩ : trellisref26_Model)
def trellislaw26_marked_b2 (x133 : List Int) (x138 : Int) (o2 : Sum ((List Int) × Int) (Sum ((List Int) × Int) (List Int))) : Prop :=
 if x138 < 64 then
  ∃ x156 : List Int, (x156 = x133 ++ ([IntKind.u8.wrap (w64 (150 + x138))] : List Int)) ∧
  (x156.length * 1 ≤ 211106232532992) ∧
  o2 = .inl (x156, w64 (x138 + 1))
 else
  o2 = .inr (.inr (x133))
def trellislaw26_marked_b1 (x1 : List Int) (x57 : List Int) (x62 : Int) (o1 : Sum ((List Int) × Int) (List Int)) : Prop :=
 if x62 < (x1.length : Int) then
  (0 ≤ x62 ∧ x62 < (x1.length : Int)) ∧
  ∃ x120 : List Int, (x120 = x57 ++ ([ix x1 x62] : List Int)) ∧
  (x120.length * 1 ≤ 211106232532992) ∧
  o1 = .inl (x120, w64 (x62 + 1))
 else
  Rounds (fun (s : (List Int) × Int) o => trellislaw26_marked_b2 s.1 s.2 o) (x57, 0) o1
def trellislaw26_marked (x1 : List Int) (r : List Int) : Prop :=
 Rounds (fun (s : (List Int) × Int) o => trellislaw26_marked_b1 x1 s.1 s.2 o) (([] : List Int), 0) r
def trellisref26_Take_j2 (x1 : List Int) (x12 : Int) (x154 : Int) (x155 : Int) (x156 : Int) (o1 : Sum (Int × Int × Int × Int) (ByteArray × Int × Int)) : Prop :=
 if x156 = 4 then
  if w64 ((x1.length : Int) - (w64 (x12 + 1))) < x154 then
   o1 = .inr (((⟨#[]⟩ : ByteArray), 0, 260))
  else
   (0 ≤ w64 (x12 + 1) ∧ w64 (x12 + 1) ≤ w64 ((w64 (x12 + 1)) + x154) ∧ w64 ((w64 (x12 + 1)) + x154) ≤ (x1.length : Int)) ∧
   o1 = .inr ((ofBs ((x1.take (w64 ((w64 (x12 + 1)) + x154) : Int).toNat).drop (w64 (x12 + 1) : Int).toNat), w64 ((w64 (x12 + 1)) + x154), 0))
 else
  o1 = .inl (x154, x155, x156, w64 (x12 + 1))
def trellisref26_Take_j4 (x36 : Int) (x1 : List Int) (x12 : Int) (x37 : Int) (x82 : Int) (x170 : Bool) (o1 : Sum (Int × Int × Int × Int) (ByteArray × Int × Int)) : Prop :=
 if x170 = true then
  o1 = .inr (((⟨#[]⟩ : ByteArray), 0, 261))
 else
  if w64 ((w64 (10 * x36)) + (w64 (IntKind.u8.wrap ((ix x1 x12) - 48)))) > 2097152 then
   o1 = .inr (((⟨#[]⟩ : ByteArray), 0, 262))
  else
   trellisref26_Take_j2 x1 x12 (w64 ((w64 (10 * x36)) + (w64 (IntKind.u8.wrap ((ix x1 x12) - 48))))) (w64 (x37 + 1)) x82 o1
def trellisref26_Take_j3 (x37 : Int) (x36 : Int) (x1 : List Int) (x12 : Int) (x82 : Int) (x166 : Bool) (o1 : Sum (Int × Int × Int × Int) (ByteArray × Int × Int)) : Prop :=
 if x166 = true then
  if x37 > 0 then
   trellisref26_Take_j4 x36 x1 x12 x37 x82 (x36 == 0) o1
  else
   trellisref26_Take_j4 x36 x1 x12 x37 x82 false o1
 else
  if x37 = 0 then
   o1 = .inr (((⟨#[]⟩ : ByteArray), 0, 261))
  else
   (0 ≤ x82 ∧ x82 < ((⟨#[13, 10, 13, 10]⟩ : ByteArray).size : Int)) ∧
   if ix x1 x12 = bt (⟨#[13, 10, 13, 10]⟩ : ByteArray) x82 then
    trellisref26_Take_j2 x1 x12 x36 x37 (w64 (x82 + 1)) o1
   else
    o1 = .inr (((⟨#[]⟩ : ByteArray), 0, 261))
def trellisref26_Take_b1 (x1 : List Int) (x36 : Int) (x37 : Int) (x82 : Int) (x12 : Int) (o1 : Sum (Int × Int × Int × Int) (ByteArray × Int × Int)) : Prop :=
 if x12 < (x1.length : Int) then
  (0 ≤ x12 ∧ x12 < (x1.length : Int)) ∧
  if x12 < 16 then
   (0 ≤ x12 ∧ x12 < ((⟨#[67, 111, 110, 116, 101, 110, 116, 45, 76, 101, 110, 103, 116, 104, 58, 32]⟩ : ByteArray).size : Int)) ∧
   if ix x1 x12 = bt (⟨#[67, 111, 110, 116, 101, 110, 116, 45, 76, 101, 110, 103, 116, 104, 58, 32]⟩ : ByteArray) x12 then
    trellisref26_Take_j2 x1 x12 x36 x37 x82 o1
   else
    o1 = .inr (((⟨#[]⟩ : ByteArray), 0, 261))
  else
   if x82 = 0 then
    if ix x1 x12 ≥ 48 then
     trellisref26_Take_j3 x37 x36 x1 x12 x82 (decide (ix x1 x12 ≤ 57)) o1
    else
     trellisref26_Take_j3 x37 x36 x1 x12 x82 false o1
   else
    trellisref26_Take_j3 x37 x36 x1 x12 x82 false o1
 else
  o1 = .inr (((⟨#[]⟩ : ByteArray), 0, 260))
def trellisref26_Take (x1 : List Int) (r : ByteArray × Int × Int) : Prop :=
 Rounds (fun (s : Int × Int × Int × Int) o => trellisref26_Take_b1 x1 s.1 s.2.1 s.2.2.1 s.2.2.2 o) (0, 0, 0, 0) r
def trellisref26_Model_Feed_b3 (x730 : List Int) (x1 : trellisref26_Model) (x870 : List ByteArray) (x875 : Int) (o3 : Sum ((List ByteArray) × Int) (Sum ((List Int) × Int) (Sum ((List Int) × Int) ((List ByteArray) × Int × trellisref26_Model)))) : Prop :=
 (0 ≤ x875 ∧ x875 ≤ (x730.length : Int) ∧ (x730.length : Int) ≤ (x730.length : Int)) ∧
 ∃ r906 : ByteArray × Int × Int, (trellisref26_Take ((x730.drop (x875 : Int).toNat).take ((x730.length : Int).toNat - (x875 : Int).toNat)) r906) ∧
 if r906.2.2 = 260 then
  o3 = .inr (.inr (.inr ((x870, 0, (⟨((x730.drop (x875 : Int).toNat).take ((x730.length : Int).toNat - (x875 : Int).toNat)), x1.code⟩ : trellisref26_Model)))))
 else
  if r906.2.2 = 0 then
   ∃ x923 : List ByteArray, (x923 = x870 ++ ([r906.1] : List ByteArray)) ∧
   (x923.length * 16 ≤ 211106232532992) ∧
   o3 = .inl (x923, w64 (x875 + r906.2.1))
  else
   o3 = .inr (.inr (.inr ((x870, r906.2.2, (⟨([] : List Int), r906.2.2⟩ : trellisref26_Model)))))
def trellisref26_Model_Feed_b2 (x8 : List Int) (x1 : trellisref26_Model) (x730 : List Int) (x735 : Int) (o2 : Sum ((List Int) × Int) (Sum ((List Int) × Int) ((List ByteArray) × Int × trellisref26_Model))) : Prop :=
 if x735 < (x8.length : Int) then
  (0 ≤ x735 ∧ x735 < (x8.length : Int)) ∧
  ∃ x840 : List Int, (x840 = x730 ++ ([ix x8 x735] : List Int)) ∧
  (x840.length * 1 ≤ 211106232532992) ∧
  o2 = .inl (x840, w64 (x735 + 1))
 else
  Rounds (fun (s : (List ByteArray) × Int) o => trellisref26_Model_Feed_b3 x730 x1 s.1 s.2 o) (([] : List ByteArray), 0) o2
def trellisref26_Model_Feed_b1 (x1 : trellisref26_Model) (x8 : List Int) (x312 : List Int) (x317 : Int) (o1 : Sum ((List Int) × Int) ((List ByteArray) × Int × trellisref26_Model)) : Prop :=
 if x317 < (x1.b.length : Int) then
  (0 ≤ x317 ∧ x317 < (x1.b.length : Int)) ∧
  ∃ x631 : List Int, (x631 = x312 ++ ([ix x1.b x317] : List Int)) ∧
  (x631.length * 1 ≤ 211106232532992) ∧
  o1 = .inl (x631, w64 (x317 + 1))
 else
  Rounds (fun (s : (List Int) × Int) o => trellisref26_Model_Feed_b2 x8 x1 s.1 s.2 o) (x312, 0) o1
def trellisref26_Model_Feed (x1 : trellisref26_Model) (x8 : List Int) (r : (List ByteArray) × Int × trellisref26_Model) : Prop :=
 if x1.code = 0 then
  Rounds (fun (s : (List Int) × Int) o => trellisref26_Model_Feed_b1 x1 x8 s.1 s.2 o) (([] : List Int), 0) r
 else
  r = (([] : List ByteArray), x1.code, x1)
def trellisref26_Model_Waiting (x1 : trellisref26_Model) (r : Int × trellisref26_Model) : Prop :=
 r = ((x1.b.length : Int), x1)
def trellislaw26_sameBytes_b1 (x1 : List Int) (x6 : List Int) (x23 : Int) (o1 : Sum Int Bool) : Prop :=
 if x23 < (x1.length : Int) then
  (0 ≤ x23 ∧ x23 < (x1.length : Int)) ∧
  (0 ≤ x23 ∧ x23 < (x6.length : Int)) ∧
  if ix x1 x23 = ix x6 x23 then
   o1 = .inl (w64 (x23 + 1))
  else
   o1 = .inr (false)
 else
  o1 = .inr (true)
def trellislaw26_sameBytes (x1 : List Int) (x6 : List Int) (r : Bool) : Prop :=
 if (x1.length : Int) = (x6.length : Int) then
  Rounds (fun (s : Int) o => trellislaw26_sameBytes_b1 x1 x6 s o) 0 r
 else
  r = false
def trellislaw26_whole_b1 (x6 : List Int) (x1 : List Int) (x15 : Int) (o1 : Sum Int Bool) : Prop :=
 if x15 < 64 then
  (0 ≤ w64 ((x6.length : Int) + x15) ∧ w64 ((x6.length : Int) + x15) < (x1.length : Int)) ∧
  if w64 (ix x1 (w64 ((x6.length : Int) + x15))) = w64 (150 + x15) then
   o1 = .inl (w64 (x15 + 1))
  else
   o1 = .inr (false)
 else
  (0 ≤ (0 : Int) ∧ (0 : Int) ≤ (x6.length : Int) ∧ (x6.length : Int) ≤ (x1.length : Int)) ∧
  ∃ r39 : Bool, (trellislaw26_sameBytes (x1.take ((x6.length : Int) : Int).toNat) x6 r39) ∧
  o1 = .inr (r39)
def trellislaw26_whole (x1 : List Int) (x6 : List Int) (r : Bool) : Prop :=
 Rounds (fun (s : Int) o => trellislaw26_whole_b1 x6 x1 s o) 0 r
def trellislaw26_RpcFeeds_b6 (x9108 : List (List ByteArray)) (x9122 : List (List ByteArray)) (x8840 : List Int) (x3174 : Int) (x8571 : List Int) (x8578 : Int) (x8579 : List Int) (x8586 : Int) (x9200 : Int) (o4 : Sum Int (Sum ((List Int) × Int) (Sum ((List Int) × Int) (Sum ((List Int) × (List (List ByteArray)) × (List (List ByteArray)) × Int × (List Int) × Int × (List Int) × Int) Bool)))) : Prop :=
 if x9200 < (x9108.length : Int) then
  (0 ≤ x9200 ∧ x9200 < (x9108.length : Int)) ∧
  (0 ≤ x9200 ∧ x9200 < (x9122.length : Int)) ∧
  ∃ r9291 : Bool, (trellislaw26_sameTexts (ix x9108 x9200) (ix x9122 x9200) r9291) ∧
  if r9291 = true then
   o4 = .inl (w64 (x9200 + 1))
  else
   o4 = .inr (.inr (.inr (.inr (false))))
 else
  o4 = .inr (.inr (.inr (.inl (x8840, x9108, x9122, w64 (x3174 + 1), x8571, x8578, x8579, x8586))))
def trellislaw26_RpcFeeds_b5 (x3160 : List (List ByteArray)) (r8499 : (List ByteArray) × Int × rpc_Buffer) (x3167 : List (List ByteArray)) (r8468 : (List ByteArray) × Int × trellisref26_Model) (x3174 : Int) (x8571 : List Int) (x8578 : Int) (x8579 : List Int) (x8586 : Int) (x8840 : List Int) (x8842 : Int) (o3 : Sum ((List Int) × Int) (Sum ((List Int) × Int) (Sum ((List Int) × (List (List ByteArray)) × (List (List ByteArray)) × Int × (List Int) × Int × (List Int) × Int) Bool))) : Prop :=
 if x8842 < (x8840.length : Int) then
  (0 ≤ x8842 ∧ x8842 < (x8840.length : Int)) ∧
  ∃ x9096 : List Int, (x9096 = x8840.set (x8842 : Int).toNat 7) ∧
  o3 = .inl (x9096, w64 (x8842 + 1))
 else
  ∃ x9108 : List (List ByteArray), (x9108 = x3160 ++ ([r8499.1] : List (List ByteArray))) ∧
  (x9108.length * 24 ≤ 211106232532992) ∧
  ∃ x9122 : List (List ByteArray), (x9122 = x3167 ++ ([r8468.1] : List (List ByteArray))) ∧
  (x9122.length * 24 ≤ 211106232532992) ∧
  Rounds (fun (s : Int) o => trellislaw26_RpcFeeds_b6 x9108 x9122 x8840 x3174 x8571 x8578 x8579 x8586 s o) 0 o3
def trellislaw26_RpcFeeds_j4 (x3160 : List (List ByteArray)) (r8499 : (List ByteArray) × Int × rpc_Buffer) (x3167 : List (List ByteArray)) (r8468 : (List ByteArray) × Int × trellisref26_Model) (x3174 : Int) (x7502 : List Int) (x8570 : Bool) (x8571 : List Int) (x8578 : Int) (x8579 : List Int) (x8586 : Int) (o2 : Sum ((List Int) × Int) (Sum ((List Int) × (List (List ByteArray)) × (List (List ByteArray)) × Int × (List Int) × Int × (List Int) × Int) Bool)) : Prop :=
 if x8570 = true then
  o2 = .inr (.inr (false))
 else
  Rounds (fun (s : (List Int) × Int) o => trellislaw26_RpcFeeds_b5 x3160 r8499 x3167 r8468 x3174 x8571 x8578 x8579 x8586 s.1 s.2 o) (x7502, 0) o2
def trellislaw26_RpcFeeds_b3 (r6544 : List Int) (x3175 : List Int) (x3182 : Int) (x1 : List (List Int)) (x3174 : Int) (x3183 : List Int) (x3190 : Int) (x3160 : List (List ByteArray)) (x3167 : List (List ByteArray)) (x7502 : List Int) (x7504 : Int) (o2 : Sum ((List Int) × Int) (Sum ((List Int) × (List (List ByteArray)) × (List (List ByteArray)) × Int × (List Int) × Int × (List Int) × Int) Bool)) : Prop :=
 if x7504 < (r6544.length : Int) then
  (0 ≤ x7504 ∧ x7504 < (r6544.length : Int)) ∧
  (0 ≤ x7504 ∧ x7504 < (x7502.length : Int)) ∧
  ∃ x8455 : List Int, (x8455 = x7502.set (x7504 : Int).toNat (ix r6544 x7504)) ∧
  o2 = .inl (x8455, w64 (x7504 + 1))
 else
  ∃ r8468 : (List ByteArray) × Int × trellisref26_Model, (trellisref26_Model_Feed (⟨x3175, x3182⟩ : trellisref26_Model) (ix x1 x3174) r8468) ∧
  (0 ≤ (0 : Int) ∧ (0 : Int) ≤ ((ix x1 x3174).length : Int) ∧ ((ix x1 x3174).length : Int) ≤ (x7502.length : Int)) ∧
  ∃ x8493 : List Int, (x8493 = x7502.take (((ix x1 x3174).length : Int) : Int).toNat) ∧
  ∃ r8499 : (List ByteArray) × Int × rpc_Buffer, (rpc_Buffer_Feed (⟨x3183, x3190⟩ : rpc_Buffer) x8493 r8499) ∧
  ∃ r9348 : Bool, (trellislaw26_sameTexts r8499.1 r8468.1 r9348) ∧
  if r9348 = true then
   if r8499.2.1 = r8468.2.1 then
    ∃ r9358 : Int × rpc_Buffer, (rpc_Buffer_Waiting r8499.2.2 r9358) ∧
    ∃ r9372 : Int × trellisref26_Model, (trellisref26_Model_Waiting r8468.2.2 r9372) ∧
    if r9358.1 = r9372.1 then
     ∃ r9394 : Bool, (trellislaw26_whole x7502 (ix x1 x3174) r9394) ∧
     trellislaw26_RpcFeeds_j4 x3160 r8499 x3167 r8468 x3174 x7502 (!r9394) r9372.2.b r9372.2.code r9358.2.wait r9358.2.code o2
    else
     trellislaw26_RpcFeeds_j4 x3160 r8499 x3167 r8468 x3174 x7502 true r9372.2.b r9372.2.code r9358.2.wait r9358.2.code o2
   else
    trellislaw26_RpcFeeds_j4 x3160 r8499 x3167 r8468 x3174 x7502 true r8468.2.2.b r8468.2.2.code r8499.2.2.wait r8499.2.2.code o2
  else
   trellislaw26_RpcFeeds_j4 x3160 r8499 x3167 r8468 x3174 x7502 true r8468.2.2.b r8468.2.2.code r8499.2.2.wait r8499.2.2.code o2
def trellislaw26_RpcFeeds_b8 (x9562 : Int) (x9743 : List (List ByteArray)) (x9750 : Int) (o3 : Sum ((List (List ByteArray)) × Int) (Sum ((List (List ByteArray)) × Int) (Sum ((List Int) × (List (List ByteArray)) × (List (List ByteArray)) × Int × (List Int) × Int × (List Int) × Int) Bool))) : Prop :=
 (0 ≤ x9562 ∧ x9562 < (x9743.length : Int)) ∧
 if x9750 < ((ix x9743 x9562).length : Int) then
  (0 ≤ x9750 ∧ x9750 < ((ix x9743 x9562).length : Int)) ∧
  ∃ x9789 : List ByteArray, (x9789 = (ix x9743 x9562).set (x9750 : Int).toNat (⟨#[115, 112, 111, 105, 108, 116]⟩ : ByteArray)) ∧
  ∃ x9791 : List (List ByteArray), (x9791 = x9743.set (x9562 : Int).toNat x9789) ∧
  o3 = .inl (x9791, w64 (x9750 + 1))
 else
  o3 = .inr (.inl (x9743, w64 (x9562 + 1)))
def trellislaw26_RpcFeeds_b7 (x3183 : List Int) (x3190 : Int) (x3175 : List Int) (x3182 : Int) (x9555 : List (List ByteArray)) (x9562 : Int) (o2 : Sum ((List (List ByteArray)) × Int) (Sum ((List Int) × (List (List ByteArray)) × (List (List ByteArray)) × Int × (List Int) × Int × (List Int) × Int) Bool)) : Prop :=
 if x9562 < (x9555.length : Int) then
  Rounds (fun (s : (List (List ByteArray)) × Int) o => trellislaw26_RpcFeeds_b8 x9562 s.1 s.2 o) (x9555, 0) o2
 else
  ∃ r9800 : (List ByteArray) × Int × rpc_Buffer, (rpc_Buffer_Feed (⟨x3183, x3190⟩ : rpc_Buffer) ([] : List Int) r9800) ∧
  ∃ r9819 : (List ByteArray) × Int × trellisref26_Model, (trellisref26_Model_Feed (⟨x3175, x3182⟩ : trellisref26_Model) ([] : List Int) r9819) ∧
  ∃ r9838 : Bool, (trellislaw26_sameTexts r9800.1 r9819.1 r9838) ∧
  if r9838 = true then
   if r9800.2.1 = r9819.2.1 then
    ∃ r9848 : Int × rpc_Buffer, (rpc_Buffer_Waiting r9800.2.2 r9848) ∧
    ∃ r9862 : Int × trellisref26_Model, (trellisref26_Model_Waiting r9819.2.2 r9862) ∧
    o2 = .inr (.inr ((r9848.1 == r9862.1)))
   else
    o2 = .inr (.inr (false))
  else
   o2 = .inr (.inr (false))
def trellislaw26_RpcFeeds_b2 (x1 : List (List Int)) (x3158 : List Int) (x3160 : List (List ByteArray)) (x3167 : List (List ByteArray)) (x3174 : Int) (x3175 : List Int) (x3182 : Int) (x3183 : List Int) (x3190 : Int) (o1 : Sum ((List Int) × (List (List ByteArray)) × (List (List ByteArray)) × Int × (List Int) × Int × (List Int) × Int) Bool) : Prop :=
 if x3174 < (x1.length : Int) then
  (0 ≤ x3174 ∧ x3174 < (x1.length : Int)) ∧
  ∃ r6544 : List Int, (trellislaw26_marked (ix x1 x3174) r6544) ∧
  Rounds (fun (s : (List Int) × Int) o => trellislaw26_RpcFeeds_b3 r6544 x3175 x3182 x1 x3174 x3183 x3190 x3160 x3167 s.1 s.2 o) (x3158, 0) o1
 else
  Rounds (fun (s : (List (List ByteArray)) × Int) o => trellislaw26_RpcFeeds_b7 x3183 x3190 x3175 x3182 s.1 s.2 o) (x3160, 0) o1
def trellislaw26_RpcFeeds_j1 (x1 : List (List Int)) (x48 : Bool) (x49 : List Int) (x56 : Int) (r : Bool) : Prop :=
 if x48 = true then
  r = false
 else
  ∃ r61 : List Int, (trellislaw26_room x1 r61) ∧
  ∃ r74 : trellisref26_Model, (trellisref26_New  r74) ∧
  Rounds (fun (s : (List Int) × (List (List ByteArray)) × (List (List ByteArray)) × Int × (List Int) × Int × (List Int) × Int) o => trellislaw26_RpcFeeds_b2 x1 s.1 s.2.1 s.2.2.1 s.2.2.2.1 s.2.2.2.2.1 s.2.2.2.2.2.1 s.2.2.2.2.2.2.1 s.2.2.2.2.2.2.2 o) (r61, ([] : List (List ByteArray)), ([] : List (List ByteArray)), 0, r74.b, r74.code, x49, x56) r
def trellislaw26_RpcFeeds (x1 : List (List Int)) (r : Bool) : Prop :=
 ∃ r9 : rpc_Buffer, (rpc_New  r9) ∧
 ∃ r9882 : Int × rpc_Buffer, (rpc_Buffer_Waiting r9 r9882) ∧
 if r9882.1 = 0 then
  ∃ r9897 : Bool, (trellislaw26_apart  r9897) ∧
  trellislaw26_RpcFeeds_j1 x1 (!r9897) r9882.2.wait r9882.2.code r
 else
  trellislaw26_RpcFeeds_j1 x1 true r9882.2.wait r9882.2.code r
end Go.Proofs.Ytbejkaeidnajkaa.R
